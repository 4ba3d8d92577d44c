/- Lemmas for the claim's proof: TreeJ TreeK TreeI TreeL TreePlain2. -/
import Derived.Shelf.Abstract
import Derived.Laws.Rows
import Derived.Test.YtblbgafadadbmaaQ08
section
/- A tree that stands: what is read in it; copies of rows. -/
set_option linter.unusedVariables false
namespace Go.Proofs.Ytblbgafadadbmaa
open Go.RowKit
set_option maxHeartbeats 4000000
set_option maxRecDepth 100000
/-- A tree at b, to be read. -/
structure TR (w : World) (b : Nat) (l : List Nd) : Prop where
  wf : ∀ x ∈ l, x.Wf
  few : l.length ≤ 1024
  it : ∃ AN cN AK cK AT cT AH cH, Blk w b 114 #[.slice AN l.length cN, .slice AK l.length cK, .slice AT (idx (isK 1) l).length cT, .slice AH (idx (isK 4) l).length cH] ∧
    IsNodes w AN l.length cN l ∧ IsList w .i64 AT (idx (isK 1) l).length cT (idx (isK 1) l) ∧ IsList w .i64 AH (idx (isK 4) l).length cH (idx (isK 4) l) ∧ l.length ≤ cK ∧
    ∀ k, k < l.length → ∃ ad A c, AK = some ad ∧ ad.block < w.heap.size ∧ w.cell? (ad.add k) = some (.slice A (idx (under_ k) l).length c) ∧ IsList w .i64 A (idx (under_ k) l).length c (idx (under_ k) l)
theorem idx_wf (p : Nd → Bool) (l : List Nd) (h : l.length ≤ 1024) : ∀ z ∈ idx p l, (Lit.int .i64 z).wf = true := by
  intro z hz
  have := idx_bd p l z hz
  simp [Lit.wf, IntKind.min, IntKind.max, IntKind.signed, IntKind.bits]
  omega
theorem TreeAt.reads {w : World} {b : Nat} {l : List Nd} (h : TreeAt w b l) (hwf : ∀ x ∈ l, x.Wf) (hl : l.length ≤ 1024) : TR w b l := by
  obtain ⟨vN, vK, vT, vH, ks, r, h⟩ := h
  have h1 := idx_le (isK 1) l
  have h4 := idx_le (isK 4) l
  obtain ⟨AN, cN, rfl, hN, _⟩ := own_nodes h.rN hwf (by omega)
  obtain ⟨AT, cT, rfl, hT, _⟩ := own_list h.rT (idx_wf _ l hl) (by omega)
  obtain ⟨AH, cH, rfl, hH, _⟩ := own_list h.rH (idx_wf _ l hl) (by omega)
  refine ⟨hwf, hl, ?_⟩
  rcases h.rK.2 with ⟨rfl, h0⟩ | ⟨g, cap, cur, rfl, hb, hh, hnc, hcm, hsz, htk⟩
  · rw [h0]
    refine ⟨AN, cN, none, 0, AT, cT, AH, cH, h0 ▸ h.blk, h0 ▸ hN, hT, hH, Nat.le_refl _, fun k hk => absurd hk (Nat.not_lt_zero _)⟩
  · refine ⟨AN, cN, some ⟨g, 0, none⟩, cap, AT, cT, AH, cH, h.blk, hN, hT, hH, hnc, fun k hk => ?_⟩
    have hrk := h.rk k hk
    have h5 := idx_le (under_ k) l
    obtain ⟨A, c, e, hI, _⟩ := own_list hrk (idx_wf _ l hl) (by omega)
    have hc := h.rK.cells (g := g) rfl k (ks.getD k undef) (by
      have := h.len
      rw [List.getD_eq_getElem?_getD, List.getElem?_eq_getElem (by omega)]; rfl)
    rw [e] at hc
    exact ⟨_, A, c, rfl, (Array.getElem?_eq_some_iff.1 hh).1, hc, hI⟩
theorem TR.keep {w w' : World} {b : Nat} {l : List Nd} (h : TR w b l) (hx : Below w.heap.size w w') : TR w' b l := by
  obtain ⟨hwf, hl, AN, cN, AK, cK, AT, cT, AH, cH, hB, hN, hT, hH, hc, hk⟩ := h
  refine ⟨hwf, hl, AN, cN, AK, cK, AT, cT, AH, cH, hB.keep hx, hN.keep hx, hT.keep hx, hH.keep hx, hc, fun k hkk => ?_⟩
  obtain ⟨ad, A, c, e, hlt, hce, hI⟩ := hk k hkk
  exact ⟨ad, A, c, e, Nat.lt_of_lt_of_le hlt hx.size, cella_keep hce hx, hI.keep hx⟩
theorem TR.lt {w : World} {b : Nat} {l : List Nd} (h : TR w b l) : b < w.heap.size := by
  obtain ⟨hwf, hl, AN, cN, AK, cK, AT, cT, AH, cH, hB, _⟩ := h
  exact hB.lt
theorem tr_Len {b : Nat} {l : List Nd} {w : World} (h : TR w b l) : Calls Try.prog 37 #[.pointer (some ⟨b, 0, none⟩)] w fun e w' => e = .returned (.int .i64 (l.length : Int)) ∧ w = w' := by
  obtain ⟨hwf, hl, AN, cN, AK, cK, AT, cT, AH, cH, hB, _⟩ := h
  obtain ⟨c0, c1, c2, c3, _⟩ := hB.cells4
  go_enter Try.func37, Try.ntmps37
  go_wp2
  go_ret
  exact ⟨rfl, rfl⟩
theorem nd0_val : nd0.val = .agg #[.string ByteArray.empty, .int .i64 0, .int .i64 0, .int .i64 0, .bool false, .int .u64 0, .int .u64 0] := rfl
def zNode : Array Value := #[.string ⟨#[]⟩, .int .i64 0, .int .i64 0, .int .i64 0, .bool false, .int .u64 0, .int .u64 0]
theorem Blk.turn7 {u : World} {g : Nat} {T : TypeId} {a0 a1 a2 a3 a4 a5 a6 : Value} (h : Blk u g T #[a0, a1, a2, a3, a4, a5, a6]) (v0 v1 v2 v3 v4 v5 v6 : Value) :
    Blk (((((((u.setCell ⟨g, 0, none⟩ v0).setCell ⟨g, 1, none⟩ v1).setCell ⟨g, 2, none⟩ v2).setCell ⟨g, 3, none⟩ v3).setCell ⟨g, 4, none⟩ v4).setCell ⟨g, 5, none⟩ v5).setCell ⟨g, 6, none⟩ v6) g T #[v0, v1, v2, v3, v4, v5, v6] :=
  ((((((h.setTo 0 v0 rfl).setTo 1 v1 rfl).setTo 2 v2 rfl).setTo 3 v3 rfl).setTo 4 v4 rfl).setTo 5 v5 rfl).setTo 6 v6 rfl
theorem below_turn7 {w u : World} {g B : Nat} (h : Below B w u) (hg : B ≤ g) (v0 v1 v2 v3 v4 v5 v6 : Value) : Below B w (((((((u.setCell ⟨g, 0, none⟩ v0).setCell ⟨g, 1, none⟩ v1).setCell ⟨g, 2, none⟩ v2).setCell ⟨g, 3, none⟩ v3).setCell ⟨g, 4, none⟩ v4).setCell ⟨g, 5, none⟩ v5).setCell ⟨g, 6, none⟩ v6) :=
  below_own (below_own (below_own (below_own (below_own (below_own (below_own h hg 0 v0) hg 1 v1) hg 2 v2) hg 3 v3) hg 4 v4) hg 5 v5) hg 6 v6
theorem sizeNode : (Try.prog.info? 64).map (·.size) = some 7 := by kernel_rfl
theorem tr_NodeIn {b : Nat} {l : List Nd} {w : World} (h : TR w b l) (i : Nat) (hi : i < l.length) : Calls Try.prog 27 #[.pointer (some ⟨b, 0, none⟩), .int .i64 i] w fun e w' => e = .returned (l.getD i nd0).val ∧ Below w.heap.size w w' := by
  have hA : Below w.heap.size w (w.alloc (.cells zNode 64)) := (Below.refl _ _).alloc (Nat.le_refl _) _
  have hP := Blk.new w 64 zNode
  have h0 := h.keep hA
  unfold zNode at hA hP h0
  have h1 := h0
  obtain ⟨x, hx⟩ : ∃ x, x = l.getD i nd0 := ⟨_, rfl⟩
  rw [← hx]
  unfold Nd.val
  obtain ⟨hwf, hl, AN, cN, AK, cK, AT, cT, AH, cH, hB, hN, _⟩ := h1
  have hcap := hN.cap
  have hsm := hN.small
  have hii : (i : Int) < (l.length : Int) := by omega
  have g1 : decide ((i : Int) < 0) = false := decide_eq_false (by omega)
  have g2 : decide ((l.length : Int) ≤ (i : Int)) = false := decide_eq_false (by omega)
  go_enter Try.func27, Try.ntmps27
  go_upto_region 1 with (fail)
  generalize w.alloc (.cells #[.string ⟨#[]⟩, .int .i64 0, .int .i64 0, .int .i64 0, .bool false, .int .u64 0, .int .u64 0] 64) = u at *
  obtain ⟨c0, c1, c2, c3, _⟩ := hB.cells4
  obtain ⟨ad, rfl, hbk, d0, d1, d2, d3, d4, d5, d6⟩ := hN.at_ hi
  obtain ⟨p0, p1, p2, p3, p4, p5, p6, _⟩ := hP.cells7
  obtain ⟨f0, f1, f2, f3, f4, f5, f6⟩ := hP.free7
  rw [← hx] at d0 d1 d2 d3 d4 d5 d6
  have HX := Lib.hid hx
  clear hx
  go_wp2_with fail
  refine (tr_Len h0).mono ?_; rintro e w' ⟨rfl, rfl⟩
  go_wp2
  have hQ := hP.turn7 (.string x.name) (.int .i64 x.kind) (.int .i64 x.above) (.int .i64 x.weight) (.bool x.six) (.int .u64 x.hi) (.int .u64 x.lo)
  refine bodyPost_ret (results_cell_row rfl _ _ _ _ _ (0, 0) _ rfl hQ Try.underlying64 rfl sizeNode) rfl ⟨rfl, below_turn7 hA (Nat.le_refl _) _ _ _ _ _ _ _⟩
theorem tr_NodeOut {b : Nat} {l : List Nd} {w : World} (h : TR w b l) (i : Int) (hi : i < 0 ∨ l.length ≤ i) : Calls Try.prog 27 #[.pointer (some ⟨b, 0, none⟩), .int .i64 i] w fun e w' => e = .returned nd0.val ∧ Below w.heap.size w w' := by
  have hA : Below w.heap.size w (w.alloc (.cells zNode 64)) := (Below.refl _ _).alloc (Nat.le_refl _) _
  have hP := Blk.new w 64 zNode
  have h1 := h.keep hA
  unfold zNode at hA hP h1
  by_cases h0 : i < 0
  · have g1 : decide (i < 0) = true := decide_eq_true h0
    go_enter Try.func27, Try.ntmps27
    go_upto_region 1 with (fail)
    generalize w.alloc (.cells #[.string ⟨#[]⟩, .int .i64 0, .int .i64 0, .int .i64 0, .bool false, .int .u64 0, .int .u64 0] 64) = u at *
    obtain ⟨p0, p1, p2, p3, p4, p5, p6, _⟩ := hP.cells7
    obtain ⟨f0, f1, f2, f3, f4, f5, f6⟩ := hP.free7
    go_wp2
    have hQ := hP.turn7 (.string ⟨#[]⟩) (.int .i64 0) (.int .i64 0) (.int .i64 0) (.bool false) (.int .u64 0) (.int .u64 0)
    refine bodyPost_ret (results_cell_row rfl _ _ _ _ _ (0, 0) _ rfl hQ Try.underlying64 rfl sizeNode) rfl ⟨rfl, below_turn7 hA (Nat.le_refl _) _ _ _ _ _ _ _⟩
  · have g1 : decide (i < 0) = false := decide_eq_false h0
    have g2 : decide ((l.length : Int) ≤ i) = true := decide_eq_true (by omega)
    go_enter Try.func27, Try.ntmps27
    go_upto_region 1 with (fail)
    generalize w.alloc (.cells #[.string ⟨#[]⟩, .int .i64 0, .int .i64 0, .int .i64 0, .bool false, .int .u64 0, .int .u64 0] 64) = u at *
    obtain ⟨p0, p1, p2, p3, p4, p5, p6, _⟩ := hP.cells7
    obtain ⟨f0, f1, f2, f3, f4, f5, f6⟩ := hP.free7
    go_wp2_with fail
    refine (tr_Len h1).mono ?_; rintro e w' ⟨rfl, rfl⟩
    go_wp2
    have hQ := hP.turn7 (.string ⟨#[]⟩) (.int .i64 0) (.int .i64 0) (.int .i64 0) (.bool false) (.int .u64 0) (.int .u64 0)
    refine bodyPost_ret (results_cell_row rfl _ _ _ _ _ (0, 0) _ rfl hQ Try.underlying64 rfl sizeNode) rfl ⟨rfl, below_turn7 hA (Nat.le_refl _) _ _ _ _ _ _ _⟩
/-- The node at a place; the one that nobody made, if there is none. -/
def ndAt (l : List Nd) (i : Int) : Nd := if 0 ≤ i then l.getD i.toNat nd0 else nd0
theorem ndAt_nat (l : List Nd) (i : Nat) : ndAt l i = l.getD i nd0 := by unfold ndAt; rw [if_pos (by omega)]; rfl
theorem ndAt_out (l : List Nd) (i : Int) (h : i < 0 ∨ l.length ≤ i) : ndAt l i = nd0 := by
  unfold ndAt
  split
  · rw [List.getD_eq_getElem?_getD, List.getElem?_eq_none (by omega)]; rfl
  · rfl
theorem tr_Node {b : Nat} {l : List Nd} {w : World} (h : TR w b l) (i : Int) : Calls Try.prog 27 #[.pointer (some ⟨b, 0, none⟩), .int .i64 i] w fun e w' => e = .returned (ndAt l i).val ∧ Below w.heap.size w w' := by
  by_cases hi : i < 0 ∨ l.length ≤ i
  · rw [ndAt_out l i hi]; exact tr_NodeOut h i hi
  · obtain ⟨j, rfl⟩ : ∃ j : Nat, i = j := ⟨i.toNat, by omega⟩
    rw [ndAt_nat]; exact tr_NodeIn h j (by omega)
theorem tr_Levels {b : Nat} {l : List Nd} {w : World} (h : TR w b l) : Calls Try.prog 56 #[.pointer (some ⟨b, 0, none⟩)] w fun e w' => ∃ A c, e = .returned (.slice A (idx (isK 1) l).length c) ∧ IsList w' .i64 A (idx (isK 1) l).length c (idx (isK 1) l) ∧ (∀ ad, A = some ad → w.heap.size ≤ ad.block) ∧ Below w.heap.size w w' := by
  obtain ⟨hwf, hl, AN, cN, AK, cK, AT, cT, AH, cH, hB, hN, hT, hH, _⟩ := h
  obtain ⟨c0, c1, c2, c3, _⟩ := hB.cells4
  go_enter Try.func56, Try.ntmps56
  go_wp2_with fail
  refine (clone_ints AT _ cT _ w hT).mono ?_; rintro e w' ⟨A', c', rfl, hI, hb, hx⟩
  go_wp2
  go_ret
  exact ⟨A', c', rfl, hI, hb, hx⟩
theorem tr_Hosts {b : Nat} {l : List Nd} {w : World} (h : TR w b l) : Calls Try.prog 38 #[.pointer (some ⟨b, 0, none⟩)] w fun e w' => ∃ A c, e = .returned (.slice A (idx (isK 4) l).length c) ∧ IsList w' .i64 A (idx (isK 4) l).length c (idx (isK 4) l) ∧ (∀ ad, A = some ad → w.heap.size ≤ ad.block) ∧ Below w.heap.size w w' := by
  obtain ⟨hwf, hl, AN, cN, AK, cK, AT, cT, AH, cH, hB, hN, hT, hH, _⟩ := h
  obtain ⟨c0, c1, c2, c3, _⟩ := hB.cells4
  go_enter Try.func38, Try.ntmps38
  go_wp2_with fail
  refine (clone_ints AH _ cH _ w hH).mono ?_; rintro e w' ⟨A', c', rfl, hI, hb, hx⟩
  go_wp2
  go_ret
  exact ⟨A', c', rfl, hI, hb, hx⟩
/-- Those right below a node. -/
def kidsOf (l : List Nd) (i : Int) : List Int := if 0 ≤ i ∧ i < l.length then idx (under_ i.toNat) l else []
theorem tr_Kids {b : Nat} {l : List Nd} {w : World} (h : TR w b l) (i : Int) : Calls Try.prog 43 #[.pointer (some ⟨b, 0, none⟩), .int .i64 i] w fun e w' => ∃ A c, e = .returned (.slice A (kidsOf l i).length c) ∧ IsList w' .i64 A (kidsOf l i).length c (kidsOf l i) ∧ (∀ ad, A = some ad → w.heap.size ≤ ad.block) ∧ Below w.heap.size w w' := by
  by_cases hi : 0 ≤ i ∧ i < l.length
  · have hk : kidsOf l i = idx (under_ i.toNat) l := if_pos hi
    rw [hk]
    obtain ⟨j, rfl⟩ : ∃ j : Nat, i = j := ⟨i.toNat, by omega⟩
    rw [Int.toNat_natCast]
    have h0 := h
    obtain ⟨hwf, hl, AN, cN, AK, cK, AT, cT, AH, cH, hB, hN, hT, hH, hc, hK⟩ := h
    obtain ⟨ad, A, c, rfl, hlt, hce, hI⟩ := hK j (by omega)
    obtain ⟨c0, c1, c2, c3, _⟩ := hB.cells4
    have hii : (j : Int) < (l.length : Int) := by omega
    have g1 : decide ((j : Int) < 0) = false := decide_eq_false (by omega)
    have g2 : decide ((l.length : Int) ≤ (j : Int)) = false := decide_eq_false (by omega)
    have hL := tr_Len h0
    clear hi hk hK
    generalize idx (under_ j) l = ks at *
    go_enter Try.func43, Try.ntmps43
    go_wp2_with fail
    refine hL.mono ?_; rintro e w' ⟨rfl, rfl⟩
    go_wp2_with fail
    refine (clone_ints A _ c _ w hI).mono ?_; rintro e w' ⟨A', c', rfl, hI, hb, hx⟩
    go_wp2
    go_ret
    exact ⟨A', c', rfl, hI, hb, hx⟩
  · have hk : kidsOf l i = [] := if_neg hi
    rw [hk]
    by_cases h0 : i < 0
    · have g1 : decide (i < 0) = true := decide_eq_true h0
      go_enter Try.func43, Try.ntmps43
      go_wp2
      go_ret
      exact ⟨none, 0, rfl, isList_nil _ _, fun ad h => (by cases h), Below.refl _ _⟩
    · have g1 : decide (i < 0) = false := decide_eq_false h0
      have g2 : decide ((l.length : Int) ≤ i) = true := decide_eq_true (by omega)
      go_enter Try.func43, Try.ntmps43
      go_wp2_with fail
      refine (tr_Len h).mono ?_; rintro e w' ⟨rfl, rfl⟩
      go_wp2
      go_ret
      exact ⟨none, 0, rfl, isList_nil _ _, fun ad h => (by cases h), Below.refl _ _⟩
end Go.Proofs.Ytblbgafadadbmaa
end
section
/- Up, Below, Level; the law's up and same. -/
set_option linter.unusedVariables false
namespace Go.Proofs.Ytblbgafadadbmaa
open Go.RowKit
set_option maxHeartbeats 4000000
set_option maxRecDepth 100000
/-- The node of a kind that one is, or is below, within so many steps. -/
def upF (l : List Nd) (kind : Int) : Nat → Int → Int
  | 0, _ => -1
  | f + 1, i => if 0 ≤ i ∧ i < l.length then (if (ndAt l i).kind = kind then i else upF l kind f (ndAt l i).above) else -1
def Rises (l : List Nd) : Prop := ∀ j, j < l.length → (l.getD j nd0).above < j
theorem upF_same {l : List Nd} (hl : Rises l) (kind : Int) : ∀ (f f' : Nat) (i : Int), i < f → i < f' → upF l kind f i = upF l kind f' i
  | 0, 0, _, _, _ => rfl
  | 0, f' + 1, i, h, _ => by rw [upF, upF, if_neg (by omega)]
  | f + 1, 0, i, _, h => by rw [upF, upF, if_neg (by omega)]
  | f + 1, f' + 1, i, h, h' => by
    rw [upF, upF]
    by_cases hi : 0 ≤ i ∧ i < l.length
    · rw [if_pos hi, if_pos hi]
      have := hl i.toNat (by omega)
      have e : ndAt l i = l.getD i.toNat nd0 := by unfold ndAt; rw [if_pos hi.1]
      rw [← e] at this
      rw [upF_same hl kind f f' (ndAt l i).above (by omega) (by omega)]
    · rw [if_neg hi, if_neg hi]
/-- The node of a kind above one, or itself. -/
def up (l : List Nd) (kind i : Int) : Int := upF l kind l.length i
theorem up_out (l : List Nd) (kind i : Int) (h : i < 0 ∨ l.length ≤ i) : up l kind i = -1 := by
  unfold up
  cases hl : l.length with
  | zero => rfl
  | succ n => rw [upF, if_neg (by omega)]
theorem up_hit (l : List Nd) (kind i : Int) (h0 : 0 ≤ i) (h1 : i < l.length) (h : (ndAt l i).kind = kind) : up l kind i = i := by
  unfold up
  obtain ⟨n, hn⟩ : ∃ n, l.length = n + 1 := ⟨l.length - 1, by omega⟩
  rw [hn, upF, if_pos ⟨h0, h1⟩, if_pos h]
theorem up_step (l : List Nd) (hl : Rises l) (kind i : Int) (h0 : 0 ≤ i) (h1 : i < l.length) (h : ¬ (ndAt l i).kind = kind) : up l kind i = up l kind (ndAt l i).above := by
  have := hl i.toNat (by omega)
  have e : ndAt l i = l.getD i.toNat nd0 := by unfold ndAt; rw [if_pos h0]
  rw [← e] at this
  unfold up
  rw [upF_same hl kind l.length (l.length + 1) i (by omega) (by omega), upF, if_pos ⟨h0, h1⟩, if_neg h]
theorem tr_Up {b : Nat} {l : List Nd} {w : World} (h : TR w b l) (hr : Rises l) (i kind : Int) : Calls Try.prog 28 #[.pointer (some ⟨b, 0, none⟩), .int .i64 i, .int .i64 kind] w fun e w' => e = .returned (.int .i64 (up l kind i)) ∧ w = w' := by
  go_enter Try.func28, Try.ntmps28
  go_wp2
  go_loopg [1] (i + 1).toNat (fun gg s1 wr => ∃ k : Int, k ≤ i ∧ gg = (k + 1).toNat ∧ s1 = .int .i64 k ∧ w = wr ∧ Hid (up l kind k = up l kind i))
  case atStart => exact ⟨i, Int.le_refl _, rfl, rfl, rfl, Lib.hid rfl⟩
  case round =>
    obtain ⟨k, hk, rfl, rfl, rfl, HU⟩ := hrel
    by_cases h0 : 0 ≤ k
    · have g0 : decide (0 ≤ k) = true := decide_eq_true h0
      have hL := tr_Len h
      by_cases h1 : k < l.length
      · have g1 : decide (k < (l.length : Int)) = true := decide_eq_true h1
        have h2 := h
        obtain ⟨hwf, hl, AN, cN, AK, cK, AT, cT, AH, cH, hB, hN, _⟩ := h2
        have hcap := hN.cap
        have hsm := hN.small
        obtain ⟨c0, c1, c2, c3, _⟩ := hB.cells4
        have hat := hN.at_ (k := k.toNat) (by omega)
        have e : ndAt l k = l.getD k.toNat nd0 := by unfold ndAt; rw [if_pos h0]
        have hra := hr k.toNat (by omega)
        rw [← e] at hat hra
        obtain ⟨ad, rfl, hbk, d0, d1, d2, d3, d4, d5, d6⟩ := hat
        have HH := Lib.hid (up_hit l kind k h0 h1)
        have HS := Lib.hid (up_step l hr kind k h0 h1)
        generalize ndAt l k = x at *
        by_cases hx : x.kind = kind
        · have g2 : (x.kind == kind) = true := by rw [beq_iff_eq]; exact hx
          have HE := Lib.hid (HU.out.symm.trans (HH.out hx))
          clear HU HH HS hx e hra
          go_wp2_with fail
          refine hL.mono ?_; rintro e w' ⟨rfl, rfl⟩
          go_wp2
          go_ret
          exact ⟨by rw [HE.out]; rfl, rfl⟩
        · have g2 : (x.kind == kind) = false := by rw [beq_eq_false_iff_ne]; exact hx
          have HE := Lib.hid ((HS.out hx).symm.trans HU.out)
          clear HU HH HS hx e
          go_wp2_with fail
          refine hL.mono ?_; rintro e w' ⟨rfl, rfl⟩
          go_wp2
          go_roundg (x.above + 1).toNat
          case measure => omega
          case rel => exact ⟨x.above, by omega, rfl, rfl, rfl, HE⟩
      · have g1 : decide (k < (l.length : Int)) = false := decide_eq_false h1
        have HE := Lib.hid (HU.out.symm.trans (up_out l kind k (by omega)))
        clear HU
        go_wp2_with fail
        refine hL.mono ?_; rintro e w' ⟨rfl, rfl⟩
        go_wp2
        go_ret
        exact ⟨by rw [HE.out]; rfl, rfl⟩
    · have g0 : decide (0 ≤ k) = false := decide_eq_false h0
      have HE := Lib.hid (HU.out.symm.trans (up_out l kind k (by omega)))
      clear HU
      go_wp2
      go_ret
      exact ⟨by rw [HE.out]; rfl, rfl⟩
theorem tr_Level {b : Nat} {l : List Nd} {w : World} (h : TR w b l) (hr : Rises l) (i : Int) : Calls Try.prog 73 #[.pointer (some ⟨b, 0, none⟩), .int .i64 i] w fun e w' => e = .returned (.int .i64 (if up l 1 i < 0 then -1 else idxI (up l 1 i) (idx (isK 1) l))) ∧ w = w' := by
  have hU := tr_Up h hr i 1
  by_cases h0 : up l 1 i < 0
  · rw [if_pos h0]
    generalize up l 1 i = u at *
    have g0 : decide (u < 0) = true := decide_eq_true h0
    go_enter Try.func73, Try.ntmps73
    go_wp2_with fail
    refine hU.mono ?_; rintro e w' ⟨rfl, rfl⟩
    go_wp2
    go_ret
    exact ⟨rfl, rfl⟩
  · rw [if_neg h0]
    obtain ⟨u, hu⟩ : ∃ u, u = up l 1 i := ⟨_, rfl⟩
    rw [← hu] at hU h0 ⊢
    clear hu
    have g0 : decide (u < 0) = false := decide_eq_false h0
    go_enter Try.func73, Try.ntmps73
    go_wp2_with fail
    refine hU.mono ?_; rintro e w1 ⟨rfl, rfl⟩
    obtain ⟨hwf, hl, AN, cN, AK, cK, AT, cT, AH, cH, hB, hN, hT, _⟩ := h
    obtain ⟨c0, c1, c2, c3, _⟩ := hB.cells4
    go_wp2_with fail
    refine (index_ints AT _ cT _ u _ hT).mono ?_; rintro e w2 ⟨rfl, rfl⟩
    go_wp2
    go_ret
    exact ⟨rfl, rfl⟩
theorem push_below {w u v : World} {row : Option Nat} (hW : Below w.heap.size w u) (hg : u.grownBy v row) (hr : ∀ g, row = some g → w.heap.size ≤ g) : Below w.heap.size w v := hW.grown hg hW.size hr
theorem own_from {w : World} {base : Nat} {e : TypeId} {s n : Nat} {v : Value} {xs : List Value} (h : w.ownsRow base e s v n xs) : ∀ g, v.ownBlock = some g → base ≤ g := fun g hg => (h.lt g hg).1
theorem own_keep {w w' : World} {base : Nat} {e : TypeId} {s n : Nat} {v : Value} {xs : List Value} (h : w.ownsRow base e s v n xs) (hx : Below w.heap.size w w') : w'.ownsRow base e s v n xs :=
  h.kept (row := none) ⟨hx.os, hx.tape, hx.output, hx.size, fun k hk _ => hx.block k hk⟩ (by cases v.ownBlock <;> simp)
/-- The hosts below a node, or itself. -/
def belowOf (l : List Nd) (i : Int) : List Int := if (ndAt l i).kind = 0 then [] else (idx (isK 4) l).filter fun h => up l (ndAt l i).kind h == i
end Go.Proofs.Ytblbgafadadbmaa
end
section
/- TreeNews. -/
set_option linter.unusedVariables false
namespace Go.Proofs.Ytblbgafadadbmaa
open Go.RowKit
set_option maxHeartbeats 4000000
set_option maxRecDepth 100000
theorem lit_reads {w : World} {g : Nat} {T : TypeId} {xs : List Value} (h : Blk w g T ⟨xs⟩) (size n : Nat) (hl : xs.length = n * size) : Reads w w.heap.size size (some ⟨g, 0, none⟩) n xs :=
  ⟨hl, fun _ => ⟨_, rfl, h.lt, fun j u hu => by
    have e : (⟨g, 0, none⟩ : Addr).add j = ⟨g, j, none⟩ := by unfold Addr.add; split <;> simp_all
    rw [e, h.cell j]
    simpa using hu⟩⟩
theorem tree_Len (b : Nat) (l : List Nd) (w : World) (h : TreeAt w b l) : Calls Try.prog 37 #[.pointer (some ⟨b, 0, none⟩)] w fun e w' => e = .returned (.int .i64 (l.length : Int)) ∧ w = w' := by
  obtain ⟨vN, vK, vT, vH, ks, r, h⟩ := h
  obtain ⟨AN, cN, rfl⟩ := own_slice h.rN
  obtain ⟨c0, c1, c2, c3, _⟩ := h.blk.cells4
  go_enter Try.func37, Try.ntmps37
  go_wp2
  go_ret
  exact ⟨rfl, rfl⟩
def exNodes : List Nd := [⟨⟨#[108]⟩, 1, -1, 0, false, 0, 0⟩, ⟨⟨#[122]⟩, 2, 0, 0, false, 0, 0⟩, ⟨⟨#[104]⟩, 4, 1, 0, false, 0, 0⟩]
theorem ex0 : whyC (exNodes.getD 0 nd0) (exNodes.take 0) = 0 := by decide +kernel
theorem ex1 : whyC (exNodes.getD 1 nd0) (exNodes.take 1) = 0 := by decide +kernel
theorem ex2 : whyC (exNodes.getD 2 nd0) (exNodes.take 2) = 16 := by decide +kernel
theorem ex_wf : ∀ x ∈ exNodes, x.Wf := by
  intro x hx
  simp [exNodes] at hx
  rcases hx with rfl | rfl | rfl <;> constructor <;> decide
end Go.Proofs.Ytblbgafadadbmaa
end
section
/- The law's Made: the nodes that may stand, one behind the other. -/
set_option linter.unusedVariables false
namespace Go.Proofs.Ytblbgafadadbmaa
open Go.RowKit
set_option maxHeartbeats 4000000
set_option maxRecDepth 100000
def addOk (acc : List Nd) (x : Nd) : List Nd := if whyC x acc = 0 then acc ++ [x] else acc
def made (l : List Nd) : List Nd := l.foldl addOk []
def Tall (l : List Nd) : Prop := ∀ j, j < l.length → okAt l j
theorem made_take (l : List Nd) (k : Nat) (h : k < l.length) : made (l.take (k + 1)) = addOk (made (l.take k)) (l.getD k nd0) := by
  unfold made
  rw [take_snocN l k h, List.foldl_append]; rfl
theorem tall_add (acc : List Nd) (x : Nd) (h : Tall acc) : Tall (addOk acc x) := by
  unfold addOk
  split
  · rename_i hw
    intro j hj
    rw [List.length_append, List.length_singleton] at hj
    unfold okAt
    rcases Nat.lt_or_ge j acc.length with h1 | h1
    · rw [getD_left _ _ _ h1, List.take_append_of_le_length (by omega)]
      exact h j h1
    · obtain rfl : j = acc.length := by omega
      rw [getD_last, List.take_left']
      · exact hw
      · rfl
  · exact h
theorem fold_tall (l acc : List Nd) (h : Tall acc) : Tall (l.foldl addOk acc) := by
  induction l generalizing acc with
  | nil => exact h
  | cons x l ih => exact ih _ (tall_add acc x h)
theorem made_tall (l : List Nd) : Tall (made l) := fold_tall l [] (fun j hj => absurd hj (Nat.not_lt_zero _))
theorem fold_mem (l acc : List Nd) : ∀ x ∈ l.foldl addOk acc, x ∈ acc ∨ x ∈ l := by
  induction l generalizing acc with
  | nil => intro x hx; exact .inl hx
  | cons y l ih =>
    intro x hx
    rcases ih _ x hx with h | h
    · unfold addOk at h
      split at h
      · rcases List.mem_append.1 h with h | h
        · exact .inl h
        · rw [List.mem_singleton] at h; subst h; exact .inr (List.mem_cons_self ..)
      · exact .inl h
    · exact .inr (List.mem_cons_of_mem _ h)
theorem made_mem (l : List Nd) : ∀ x ∈ made l, x ∈ l := fun x hx => by
  rcases fold_mem l [] x hx with h | h
  · cases h
  · exact h
theorem fold_len (l acc : List Nd) : (l.foldl addOk acc).length ≤ acc.length + l.length := by
  induction l generalizing acc with
  | nil => simp
  | cons y l ih =>
    refine Nat.le_trans (ih _) ?_
    have : (addOk acc y).length ≤ acc.length + 1 := by unfold addOk; split <;> simp
    rw [List.length_cons]; omega
theorem made_len (l : List Nd) : (made l).length ≤ l.length := by have := fold_len l []; simp only [List.length_nil, Nat.zero_add] at this; exact this
theorem tall_rises {l : List Nd} (h : Tall l) : Rises l := fun j hj => (ok_above hj (h j hj)).1
theorem law_Made (w : World) (A : Option Addr) (n0 c : Nat) (l0 : List Nd) (hl0 : IsNodes w A n0 c l0) :
    Calls Try.prog 8 #[.slice A n0 c] w fun e w' => ∃ b A' c', e = .returned (.tuple #[.pointer (some ⟨b, 0, none⟩), .slice A' (made (l0.take 60)).length c']) ∧ TR w' b (made (l0.take 60)) ∧ IsNodes w' A' (made (l0.take 60)).length c' (made (l0.take 60)) ∧ Below w.heap.size w w' := by
  have hl := hl0.cut (k := min n0 60) (by omega)
  have h60 : min n0 60 ≤ 60 := by omega
  have hF := fun w => law_Few A n0 c hl0.cap hl0.small w
  have htk : l0.take 60 = l0.take (min n0 60) := by
    rcases Nat.le_total n0 60 with h | h
    · rw [Nat.min_eq_left h, List.take_of_length_le (by rw [hl0.len]; exact h), List.take_of_length_le (by rw [hl0.len]; exact Nat.le_refl _)]
    · rw [Nat.min_eq_right h]
  rw [htk]
  generalize min n0 60 = n at hl hF h60
  generalize l0.take n = l at hl
  clear hl0 htk l0
  have hcap := hl.cap
  have hsm := hl.small
  have hlen := Lib.hid hl.len
  obtain ⟨iN, hiN, hzN, hzN1, hzN2⟩ := info_parts Try.infoNode
  obtain ⟨M, hM⟩ : ∃ M, M = made l := ⟨_, rfl⟩
  rw [← hM]
  have HM := Lib.hid hM
  clear hM
  go_enter Try.func8, Try.ntmps8
  go_wp2_with fail
  refine (hF _).mono ?_; rintro e w' ⟨rfl, rfl⟩
  clear hF
  go_wp2_with fail
  go_loopg [4, 5] n (fun gg s4 s5 wr => ∃ (i : Nat) (acc : List Nd), i ≤ n ∧ gg = n - i ∧ s5 = .int .i64 i ∧ wr.ownsRow w.heap.size 64 7 s4 acc.length (flat acc) ∧ Below w.heap.size w wr ∧ Hid (acc = made (l.take i)))
  case atStart => exact ⟨0, [], Nat.zero_le _, rfl, rfl, World.ownsRow_nil _ _ _ _, Below.refl _ _, Lib.hid rfl⟩
  case round =>
    obtain ⟨i, acc, hi, rfl, rfl, hown, hW, HA⟩ := hrel
    have hal : acc.length ≤ 60 := by
      rw [HA.out]
      refine Nat.le_trans (made_len _) ?_
      rw [List.length_take]; omega
    have hawf := Lib.hid (show ∀ x ∈ acc, x.Wf from fun x hx => hl.wf x (List.mem_of_mem_take (made_mem _ x (by rw [← HA.out]; exact hx))))
    have hown2 := hown
    obtain ⟨AI, cI, rfl, hI, _⟩ := own_nodes hown hawf.out (by omega)
    by_cases hin : i < n
    · obtain ⟨ad, rfl, hbk, d0, d1, d2, d3, d4, d5, d6⟩ := (hl.keep hW).at_ hin
      have hii : (i : Int) < (n : Int) := by omega
      have hxw := hl.wfd i
      have HT := Lib.hid (made_take l i (by rw [hlen.out]; exact hin))
      obtain ⟨x, hxx⟩ : ∃ x, x = l.getD i nd0 := ⟨_, rfl⟩
      rw [← hxx] at d0 d1 d2 d3 d4 d5 d6 hxw HT
      have HX := Lib.hid hxx
      clear hxx
      go_wp2_with fail
      refine (law_why x hxw AI _ cI acc _ hI).mono ?_; rintro e w5 ⟨rfl, hx5⟩
      have hW5 := below_step hW hx5
      have hown5 := own_keep hown2 hx5
      have hl5 := (hl.keep hW).keep hx5
      obtain ⟨ad', e', _, d0', d1', d2', d3', d4', d5', d6'⟩ := hl5.at_ hin
      obtain rfl : ad' = ad := by injection e' with e'; exact e'.symm
      rw [← HX.out] at d0' d1' d2' d3' d4' d5' d6'
      by_cases hw0 : whyC x acc = 0
      · have g1 : (whyC x acc == 0) = true := by rw [beq_iff_eq]; exact hw0
        have HE := Lib.hid (show acc ++ [x] = made (l.take (i + 1)) by rw [HT.out, ← HA.out]; unfold addOk; rw [if_pos hw0])
        clear HT HA hw0 hown hown2 hW hx5 d0 d1 d2 d3 d4 d5 d6
        generalize whyC x acc = W0 at *
        go_wp2_with (at_builtin; go_loud (refine wpList_append_any _ rfl (.tmp 24) (.tmp 29) _ rfl w.heap.size 64 iN _ 7 64 Try.underlying22 hiN hzN hzN1 hzN2 rfl (by decide) _ _ (flat acc) rfl (hown5.alloc _) _ (some ⟨w5.heap.size, 0, none⟩) 1 1 (Nd.cells x) rfl (one_reads w5 64 7 (Nd.cells x) rfl) (cells_one _) (by simp only [maxLen]; omega) (by omega) (by have := hW5.size; simp; omega) ?_; intro v6 w6 hown6 hg6 hat6))
        have hW6 := push_below (hW5.alloc hW5.size _) hg6 (own_from hown5)
        go_wp2
        go_roundg (n - (i + 1))
        case measure => omega
        case rel => exact ⟨i + 1, acc ++ [x], by omega, rfl, by go_num, by rw [List.length_append, List.length_singleton, flat_snoc]; exact hown6, hW6, HE⟩
      · have g1 : (whyC x acc == 0) = false := by rw [beq_eq_false_iff_ne]; exact hw0
        have HE := Lib.hid (show acc = made (l.take (i + 1)) by rw [HT.out, ← HA.out]; unfold addOk; rw [if_neg hw0])
        clear HT HA hw0 hown hown2 hW hx5
        generalize whyC x acc = W0 at *
        go_wp2
        go_roundg (n - (i + 1))
        case measure => omega
        case rel => exact ⟨i + 1, acc, by omega, rfl, by go_num, hown5, hW5, HE⟩
    · obtain rfl : i = n := by omega
      have HE := Lib.hid (show acc = M by rw [HA.out, HM.out, List.take_of_length_le (by rw [hlen.out]; exact Nat.le_refl _)])
      have hel := HE.out
      subst hel
      have HTall := Lib.hid (show Tall acc by rw [HM.out]; exact made_tall l)
      go_wp2_with fail
      refine (tree_New AI _ cI acc _ hI).mono ?_; rintro e w5 ⟨hN, hx5⟩
      rcases hN with ⟨kf, hkf, hok, hbad, rfl⟩ | ⟨hok, b, hb, rfl, hT⟩
      · exact absurd (HTall.out kf hkf) hbad
      · go_wp2
        go_ret2
        exact ⟨b, AI, cI, rfl, hT.reads hawf.out (by omega), hI.keep hx5, below_step hW hx5⟩
end Go.Proofs.Ytblbgafadadbmaa
end
section
/- Nodes above one another, in plain Lean. -/
set_option linter.unusedVariables false
namespace Go.Proofs.Ytblbgafadadbmaa
open Go.RowKit
theorem ndAt_in {l : List Nd} {i : Int} (h0 : 0 ≤ i) : ndAt l i = l.getD i.toNat nd0 := by unfold ndAt; rw [if_pos h0]
/-- What a node that may stand is like. -/
theorem tall_head {l : List Nd} (h : Tall l) (j : Nat) (hj : j < l.length) : HeadOk (l.getD j nd0) (l.take j) := headC_zero (whyC_ok (h j hj)).1
theorem tall_below {l : List Nd} (h : Tall l) (j : Nat) (hj : j < l.length) (hk : 1 < (l.getD j nd0).kind) :
    0 ≤ (l.getD j nd0).above ∧ (l.getD j nd0).above < j ∧ (ndAt l (l.getD j nd0).above).kind = (l.getD j nd0).kind - 1 := by
  obtain ⟨h0, h1, h2⟩ := (tall_head h j hj).below hk
  rw [List.length_take] at h1
  refine ⟨h0, by omega, ?_⟩
  rw [ndAt_in h0, ← h2]
  generalize (l.getD j nd0).above = a at *
  rw [List.getD_eq_getElem?_getD, List.getD_eq_getElem?_getD, List.getElem?_take, if_pos (by omega)]
/-- Four steps are enough. -/
theorem upF_kind {l : List Nd} (h : Tall l) (kind : Int) : ∀ (f : Nat) (i : Int), 0 ≤ i → i < l.length → (ndAt l i).kind ≤ f → upF l kind f i = up l kind i
  | 0, i, h0, h1, hk => by
    have := (tall_head h i.toNat (by omega)).kind0
    rw [← ndAt_in h0] at this
    omega
  | f + 1, i, h0, h1, hk => by
    rw [upF, if_pos ⟨h0, h1⟩]
    by_cases hi : (ndAt l i).kind = kind
    · rw [if_pos hi, up_hit l kind i h0 h1 hi]
    · rw [if_neg hi, up_step l (tall_rises h) kind i h0 h1 hi]
      by_cases h2 : 1 < (ndAt l i).kind
      · have hb := tall_below h i.toNat (by omega) (by rw [← ndAt_in h0]; exact h2)
        rw [← ndAt_in h0] at hb
        exact upF_kind h kind f _ hb.1 (by omega) (by omega)
      · have hd := tall_head h i.toNat (by omega)
        rw [← ndAt_in h0] at hd
        have := (hd.level (by have := hd.kind0; omega)).2
        rw [this, up_out l kind (-1) (by omega)]
        cases f with
        | zero => rfl
        | succ f => rw [upF, if_neg (by omega)]
theorem up_four {l : List Nd} (h : Tall l) (kind i : Int) : upF l kind 4 i = up l kind i := by
  by_cases hi : 0 ≤ i ∧ i < l.length
  · have hd := tall_head h i.toNat (by omega)
    rw [← ndAt_in hi.1] at hd
    exact upF_kind h kind 4 i hi.1 hi.2 hd.kind1
  · rw [upF, if_neg hi, up_out l kind i (by omega)]
/-- Above each node is a level. -/
theorem up_level {l : List Nd} (h : Tall l) : ∀ (f : Nat) (i : Int), 0 ≤ i → i < l.length → (ndAt l i).kind ≤ f → 0 ≤ up l 1 i
  | 0, i, h0, h1, hk => by
    have := (tall_head h i.toNat (by omega)).kind0
    rw [← ndAt_in h0] at this
    omega
  | f + 1, i, h0, h1, hk => by
    by_cases hi : (ndAt l i).kind = 1
    · rw [up_hit l 1 i h0 h1 hi]; exact h0
    · rw [up_step l (tall_rises h) 1 i h0 h1 hi]
      have hd := tall_head h i.toNat (by omega)
      rw [← ndAt_in h0] at hd
      have hk0 := hd.kind0
      have hb := tall_below h i.toNat (by omega) (by rw [← ndAt_in h0]; omega)
      rw [← ndAt_in h0] at hb
      exact up_level h f _ hb.1 (by omega) (by omega)
/-- The places of those of a kind of node, as they are found one by one. -/
theorem idx_take (p : Nd → Bool) (l : List Nd) (k : Nat) (hk : k < l.length) : idx p (l.take (k + 1)) = idx p (l.take k) ++ if p (l.getD k nd0) = true then [(k : Int)] else [] := by
  rw [take_snocN l k hk, idx_snoc, List.length_take, Nat.min_eq_left (by omega)]
theorem idxI_snoc (z : Int) (xs : List Int) (y : Int) : idxI z (xs ++ [y]) = if z ∈ xs then idxI z xs else if y = z then (xs.length : Int) else -1 := by
  by_cases hz : z ∈ xs
  · rw [if_pos hz]
    unfold idxI
    have : xs.findIdx? (fun x => x == z) ≠ none := by
      rw [ne_eq, List.findIdx?_eq_none_iff]
      intro h
      have := h z hz
      simp at this
    rw [List.findIdx?_append]
    cases h : xs.findIdx? (fun x => x == z) with
    | none => exact absurd h this
    | some k => rfl
  · rw [if_neg hz]
    have e : xs.findIdx? (fun x => x == z) = none := by
      rw [List.findIdx?_eq_none_iff]
      intro x hx
      have : x ≠ z := fun e => hz (e ▸ hx)
      simpa using this
    unfold idxI
    rw [List.findIdx?_append, e]
    by_cases hy : y = z
    · rw [if_pos hy]; simp [List.findIdx?_cons, hy]
    · rw [if_neg hy]; simp [List.findIdx?_cons, hy]
theorem idxI_none {z : Int} {xs : List Int} (h : ¬ z ∈ xs) : idxI z xs = -1 := by
  unfold idxI
  have e : xs.findIdx? (fun x => x == z) = none := by
    rw [List.findIdx?_eq_none_iff]
    intro x hx
    have : x ≠ z := fun e => h (e ▸ hx)
    simpa using this
  rw [e]
/-- One more level is looked at. -/
theorem level_step {l : List Nd} (u : Int) (k : Nat) (hk : k < l.length) :
    idxI u (idx (isK 1) (l.take (k + 1))) = if (l.getD k nd0).kind = 1 ∧ u = k then ((idx (isK 1) (l.take k)).length : Int) else idxI u (idx (isK 1) (l.take k)) := by
  have hn : u = k → ¬ u ∈ idx (isK 1) (l.take k) := fun e h => by
    have := (idx_bd _ _ _ h).2
    rw [List.length_take] at this
    omega
  rw [idx_take _ l k hk]
  by_cases h1 : (l.getD k nd0).kind = 1
  · rw [if_pos (by unfold isK; simpa using h1), idxI_snoc]
    by_cases hu : u = k
    · rw [if_neg (hn hu), if_pos hu.symm, if_pos ⟨h1, hu⟩]
    · rw [if_neg (fun h : _ ∧ _ => hu h.2)]
      by_cases hm : u ∈ idx (isK 1) (l.take k)
      · rw [if_pos hm]
      · rw [if_neg hm, if_neg (fun e => hu e.symm), idxI_none hm]
  · rw [if_neg (by unfold isK; simpa using h1), List.append_nil, if_neg (fun h : _ ∧ _ => h1 h.1)]
/-- The hosts below a node, as they are found one by one. -/
def belowTo (l : List Nd) (i : Int) (k : Nat) : List Int := if (ndAt l i).kind = 0 then [] else (idx (isK 4) (l.take k)).filter fun h => up l (ndAt l i).kind h == i
theorem below_step' {l : List Nd} (i : Int) (k : Nat) (hk : k < l.length) : belowTo l i (k + 1) = belowTo l i k ++ if (ndAt l i).kind ≠ 0 ∧ (l.getD k nd0).kind = 4 ∧ up l (ndAt l i).kind k = i then [(k : Int)] else [] := by
  unfold belowTo
  by_cases h0 : (ndAt l i).kind = 0
  · rw [if_pos h0, if_pos h0, if_neg (by rintro ⟨h1, _⟩; exact h1 h0)]; rw [List.append_nil]
  · rw [if_neg h0, if_neg h0, idx_take _ l k hk, List.filter_append]
    congr 1
    unfold isK
    by_cases h4 : (l.getD k nd0).kind = 4
    · rw [if_pos (by simpa using h4)]
      by_cases hu : up l (ndAt l i).kind k = i
      · rw [if_pos ⟨h0, h4, hu⟩]; simp [hu]
      · rw [if_neg (fun h => hu h.2.2)]; simp [hu]
    · rw [if_neg (by simpa using h4), if_neg (fun h => h4 h.2.1)]; rfl
theorem below_all (l : List Nd) (i : Int) : belowTo l i l.length = belowOf l i := by
  unfold belowTo belowOf
  rw [List.take_length]
theorem kind_zero {l : List Nd} (h : Tall l) (i : Int) : (ndAt l i).kind = 0 ↔ (i < 0 ∨ l.length ≤ i) := by
  constructor
  · intro h0
    rcases Int.lt_or_le i 0 with hi | hi
    · exact .inl hi
    · rcases Int.lt_or_le i l.length with h1 | h1
      · have := (tall_head h i.toNat (by omega)).kind0
        rw [← ndAt_in hi] at this
        omega
      · exact .inr h1
  · intro hi
    rw [ndAt_out l i hi]; rfl
theorem level_all {l : List Nd} (i : Int) : (if up l 1 i < 0 then -1 else idxI (up l 1 i) (idx (isK 1) l)) = idxI (up l 1 i) (idx (isK 1) l) := by
  by_cases h : up l 1 i < 0
  · rw [if_pos h, idxI_none (fun hm => by have := (idx_bd _ _ _ hm).1; omega)]
  · rw [if_neg h]
end Go.Proofs.Ytblbgafadadbmaa
end
