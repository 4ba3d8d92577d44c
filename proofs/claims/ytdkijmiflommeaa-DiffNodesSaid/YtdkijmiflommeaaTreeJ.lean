/- A tree that stands: what is read in it; copies of rows. -/
import Derived.Test.YtdkijmiflommeaaCopyB
import Derived.Shelf.Abstract
import Derived.Laws.Rows
set_option linter.unusedVariables false
namespace Go.Proofs.Ytdkijmiflommeaa
open Go.RowKit
set_option maxHeartbeats 4000000
set_option maxRecDepth 100000
/-- A tree at b, to be read. -/
structure TR (w : World) (b : Nat) (l : List Nd) : Prop where
  wf : ∀ x ∈ l, x.Wf
  few : l.length ≤ 1024
  it : ∃ AN cN AK cK AT cT AH cH, Blk w b 95 #[.slice AN l.length cN, .slice AK l.length cK, .slice AT (idx (isK 1) l).length cT, .slice AH (idx (isK 4) l).length cH] ∧
    IsNodes w AN l.length cN l ∧ IsList w .i64 AT (idx (isK 1) l).length cT (idx (isK 1) l) ∧ IsList w .i64 AH (idx (isK 4) l).length cH (idx (isK 4) l) ∧ l.length ≤ cK ∧
    ∀ k, k < l.length → ∃ ad A c, AK = some ad ∧ ad.block < w.heap.size ∧ w.cell? (ad.add k) = some (.slice A (idx (under_ k) l).length c) ∧ IsList w .i64 A (idx (under_ k) l).length c (idx (under_ k) l)
theorem idx_wf (p : Nd → Bool) (l : List Nd) (h : l.length ≤ 1024) : ∀ z ∈ idx p l, (Lit.int .i64 z).wf = true := by
  intro z hz
  have := idx_bd p l z hz
  simp [Lit.wf, IntKind.min, IntKind.max, IntKind.signed, IntKind.bits]
  omega
theorem TreeAt.reads {w : World} {b : Nat} {l : List Nd} (h : TreeAt w b l) (hwf : ∀ x ∈ l, x.Wf) (hl : l.length ≤ 1024) : TR w b l := by
  obtain ⟨vN, vK, vT, vH, ks, r, h⟩ := h
  have h1 := idx_le (isK 1) l
  have h4 := idx_le (isK 4) l
  obtain ⟨AN, cN, rfl, hN, _⟩ := own_nodes h.rN hwf (by omega)
  obtain ⟨AT, cT, rfl, hT, _⟩ := own_list h.rT (idx_wf _ l hl) (by omega)
  obtain ⟨AH, cH, rfl, hH, _⟩ := own_list h.rH (idx_wf _ l hl) (by omega)
  refine ⟨hwf, hl, ?_⟩
  rcases h.rK.2 with ⟨rfl, h0⟩ | ⟨g, cap, cur, rfl, hb, hh, hnc, hcm, hsz, htk⟩
  · rw [h0]
    refine ⟨AN, cN, none, 0, AT, cT, AH, cH, h0 ▸ h.blk, h0 ▸ hN, hT, hH, Nat.le_refl _, fun k hk => absurd hk (Nat.not_lt_zero _)⟩
  · refine ⟨AN, cN, some ⟨g, 0, none⟩, cap, AT, cT, AH, cH, h.blk, hN, hT, hH, hnc, fun k hk => ?_⟩
    have hrk := h.rk k hk
    have h5 := idx_le (under_ k) l
    obtain ⟨A, c, e, hI, _⟩ := own_list hrk (idx_wf _ l hl) (by omega)
    have hc := h.rK.cells (g := g) rfl k (ks.getD k undef) (by
      have := h.len
      rw [List.getD_eq_getElem?_getD, List.getElem?_eq_getElem (by omega)]; rfl)
    rw [e] at hc
    exact ⟨_, A, c, rfl, (Array.getElem?_eq_some_iff.1 hh).1, hc, hI⟩
theorem TR.keep {w w' : World} {b : Nat} {l : List Nd} (h : TR w b l) (hx : Below w.heap.size w w') : TR w' b l := by
  obtain ⟨hwf, hl, AN, cN, AK, cK, AT, cT, AH, cH, hB, hN, hT, hH, hc, hk⟩ := h
  refine ⟨hwf, hl, AN, cN, AK, cK, AT, cT, AH, cH, hB.keep hx, hN.keep hx, hT.keep hx, hH.keep hx, hc, fun k hkk => ?_⟩
  obtain ⟨ad, A, c, e, hlt, hce, hI⟩ := hk k hkk
  exact ⟨ad, A, c, e, Nat.lt_of_lt_of_le hlt hx.size, cella_keep hce hx, hI.keep hx⟩
theorem TR.lt {w : World} {b : Nat} {l : List Nd} (h : TR w b l) : b < w.heap.size := by
  obtain ⟨hwf, hl, AN, cN, AK, cK, AT, cT, AH, cH, hB, _⟩ := h
  exact hB.lt
theorem tr_Len {b : Nat} {l : List Nd} {w : World} (h : TR w b l) : Calls Try.prog 21 #[.pointer (some ⟨b, 0, none⟩)] w fun e w' => e = .returned (.int .i64 (l.length : Int)) ∧ w = w' := by
  obtain ⟨hwf, hl, AN, cN, AK, cK, AT, cT, AH, cH, hB, _⟩ := h
  obtain ⟨c0, c1, c2, c3, _⟩ := hB.cells4
  go_enter Try.func21, Try.ntmps21
  go_wp2
  go_ret
  exact ⟨rfl, rfl⟩
theorem nd0_val : nd0.val = .agg #[.string ByteArray.empty, .int .i64 0, .int .i64 0, .int .i64 0, .bool false, .int .u64 0, .int .u64 0] := rfl
def zNode : Array Value := #[.string ⟨#[]⟩, .int .i64 0, .int .i64 0, .int .i64 0, .bool false, .int .u64 0, .int .u64 0]
theorem Blk.turn7 {u : World} {g : Nat} {T : TypeId} {a0 a1 a2 a3 a4 a5 a6 : Value} (h : Blk u g T #[a0, a1, a2, a3, a4, a5, a6]) (v0 v1 v2 v3 v4 v5 v6 : Value) :
    Blk (((((((u.setCell ⟨g, 0, none⟩ v0).setCell ⟨g, 1, none⟩ v1).setCell ⟨g, 2, none⟩ v2).setCell ⟨g, 3, none⟩ v3).setCell ⟨g, 4, none⟩ v4).setCell ⟨g, 5, none⟩ v5).setCell ⟨g, 6, none⟩ v6) g T #[v0, v1, v2, v3, v4, v5, v6] :=
  ((((((h.setTo 0 v0 rfl).setTo 1 v1 rfl).setTo 2 v2 rfl).setTo 3 v3 rfl).setTo 4 v4 rfl).setTo 5 v5 rfl).setTo 6 v6 rfl
theorem below_turn7 {w u : World} {g B : Nat} (h : Below B w u) (hg : B ≤ g) (v0 v1 v2 v3 v4 v5 v6 : Value) : Below B w (((((((u.setCell ⟨g, 0, none⟩ v0).setCell ⟨g, 1, none⟩ v1).setCell ⟨g, 2, none⟩ v2).setCell ⟨g, 3, none⟩ v3).setCell ⟨g, 4, none⟩ v4).setCell ⟨g, 5, none⟩ v5).setCell ⟨g, 6, none⟩ v6) :=
  below_own (below_own (below_own (below_own (below_own (below_own (below_own h hg 0 v0) hg 1 v1) hg 2 v2) hg 3 v3) hg 4 v4) hg 5 v5) hg 6 v6
theorem sizeNode : (Try.prog.info? 34).map (·.size) = some 7 := by kernel_rfl
theorem tr_NodeIn {b : Nat} {l : List Nd} {w : World} (h : TR w b l) (i : Nat) (hi : i < l.length) : Calls Try.prog 24 #[.pointer (some ⟨b, 0, none⟩), .int .i64 i] w fun e w' => e = .returned (l.getD i nd0).val ∧ Below w.heap.size w w' := by
  have hA : Below w.heap.size w (w.alloc (.cells zNode 34)) := (Below.refl _ _).alloc (Nat.le_refl _) _
  have hP := Blk.new w 34 zNode
  have h0 := h.keep hA
  unfold zNode at hA hP h0
  have h1 := h0
  obtain ⟨x, hx⟩ : ∃ x, x = l.getD i nd0 := ⟨_, rfl⟩
  rw [← hx]
  unfold Nd.val
  obtain ⟨hwf, hl, AN, cN, AK, cK, AT, cT, AH, cH, hB, hN, _⟩ := h1
  have hcap := hN.cap
  have hsm := hN.small
  have hii : (i : Int) < (l.length : Int) := by omega
  have g1 : decide ((i : Int) < 0) = false := decide_eq_false (by omega)
  have g2 : decide ((l.length : Int) ≤ (i : Int)) = false := decide_eq_false (by omega)
  go_enter Try.func24, Try.ntmps24
  go_upto_region 1 with (fail)
  generalize w.alloc (.cells #[.string ⟨#[]⟩, .int .i64 0, .int .i64 0, .int .i64 0, .bool false, .int .u64 0, .int .u64 0] 34) = u at *
  obtain ⟨c0, c1, c2, c3, _⟩ := hB.cells4
  obtain ⟨ad, rfl, hbk, d0, d1, d2, d3, d4, d5, d6⟩ := hN.at_ hi
  obtain ⟨p0, p1, p2, p3, p4, p5, p6, _⟩ := hP.cells7
  obtain ⟨f0, f1, f2, f3, f4, f5, f6⟩ := hP.free7
  rw [← hx] at d0 d1 d2 d3 d4 d5 d6
  have HX := Lib.hid hx
  clear hx
  go_wp2_with fail
  refine (tr_Len h0).mono ?_; rintro e w' ⟨rfl, rfl⟩
  go_wp2
  have hQ := hP.turn7 (.string x.name) (.int .i64 x.kind) (.int .i64 x.above) (.int .i64 x.weight) (.bool x.six) (.int .u64 x.hi) (.int .u64 x.lo)
  refine bodyPost_ret (results_cell_row rfl _ _ _ _ _ (0, 0) _ rfl hQ Try.underlying34 rfl sizeNode) rfl ⟨rfl, below_turn7 hA (Nat.le_refl _) _ _ _ _ _ _ _⟩
theorem tr_NodeOut {b : Nat} {l : List Nd} {w : World} (h : TR w b l) (i : Int) (hi : i < 0 ∨ l.length ≤ i) : Calls Try.prog 24 #[.pointer (some ⟨b, 0, none⟩), .int .i64 i] w fun e w' => e = .returned nd0.val ∧ Below w.heap.size w w' := by
  have hA : Below w.heap.size w (w.alloc (.cells zNode 34)) := (Below.refl _ _).alloc (Nat.le_refl _) _
  have hP := Blk.new w 34 zNode
  have h1 := h.keep hA
  unfold zNode at hA hP h1
  by_cases h0 : i < 0
  · have g1 : decide (i < 0) = true := decide_eq_true h0
    go_enter Try.func24, Try.ntmps24
    go_upto_region 1 with (fail)
    generalize w.alloc (.cells #[.string ⟨#[]⟩, .int .i64 0, .int .i64 0, .int .i64 0, .bool false, .int .u64 0, .int .u64 0] 34) = u at *
    obtain ⟨p0, p1, p2, p3, p4, p5, p6, _⟩ := hP.cells7
    obtain ⟨f0, f1, f2, f3, f4, f5, f6⟩ := hP.free7
    go_wp2
    have hQ := hP.turn7 (.string ⟨#[]⟩) (.int .i64 0) (.int .i64 0) (.int .i64 0) (.bool false) (.int .u64 0) (.int .u64 0)
    refine bodyPost_ret (results_cell_row rfl _ _ _ _ _ (0, 0) _ rfl hQ Try.underlying34 rfl sizeNode) rfl ⟨rfl, below_turn7 hA (Nat.le_refl _) _ _ _ _ _ _ _⟩
  · have g1 : decide (i < 0) = false := decide_eq_false h0
    have g2 : decide ((l.length : Int) ≤ i) = true := decide_eq_true (by omega)
    go_enter Try.func24, Try.ntmps24
    go_upto_region 1 with (fail)
    generalize w.alloc (.cells #[.string ⟨#[]⟩, .int .i64 0, .int .i64 0, .int .i64 0, .bool false, .int .u64 0, .int .u64 0] 34) = u at *
    obtain ⟨p0, p1, p2, p3, p4, p5, p6, _⟩ := hP.cells7
    obtain ⟨f0, f1, f2, f3, f4, f5, f6⟩ := hP.free7
    go_wp2_with fail
    refine (tr_Len h1).mono ?_; rintro e w' ⟨rfl, rfl⟩
    go_wp2
    have hQ := hP.turn7 (.string ⟨#[]⟩) (.int .i64 0) (.int .i64 0) (.int .i64 0) (.bool false) (.int .u64 0) (.int .u64 0)
    refine bodyPost_ret (results_cell_row rfl _ _ _ _ _ (0, 0) _ rfl hQ Try.underlying34 rfl sizeNode) rfl ⟨rfl, below_turn7 hA (Nat.le_refl _) _ _ _ _ _ _ _⟩
/-- The node at a place; the one that nobody made, if there is none. -/
def ndAt (l : List Nd) (i : Int) : Nd := if 0 ≤ i then l.getD i.toNat nd0 else nd0
theorem ndAt_nat (l : List Nd) (i : Nat) : ndAt l i = l.getD i nd0 := by unfold ndAt; rw [if_pos (by omega)]; rfl
theorem ndAt_out (l : List Nd) (i : Int) (h : i < 0 ∨ l.length ≤ i) : ndAt l i = nd0 := by
  unfold ndAt
  split
  · rw [List.getD_eq_getElem?_getD, List.getElem?_eq_none (by omega)]; rfl
  · rfl
theorem tr_Node {b : Nat} {l : List Nd} {w : World} (h : TR w b l) (i : Int) : Calls Try.prog 24 #[.pointer (some ⟨b, 0, none⟩), .int .i64 i] w fun e w' => e = .returned (ndAt l i).val ∧ Below w.heap.size w w' := by
  by_cases hi : i < 0 ∨ l.length ≤ i
  · rw [ndAt_out l i hi]; exact tr_NodeOut h i hi
  · obtain ⟨j, rfl⟩ : ∃ j : Nat, i = j := ⟨i.toNat, by omega⟩
    rw [ndAt_nat]; exact tr_NodeIn h j (by omega)
theorem tr_Nodes {b : Nat} {l : List Nd} {w : World} (h : TR w b l) : Calls Try.prog 23 #[.pointer (some ⟨b, 0, none⟩)] w fun e w' => ∃ A c, e = .returned (.slice A l.length c) ∧ IsNodes w' A l.length c l ∧ (∀ ad, A = some ad → w.heap.size ≤ ad.block) ∧ Below w.heap.size w w' := by
  obtain ⟨hwf, hl, AN, cN, AK, cK, AT, cT, AH, cH, hB, hN, _⟩ := h
  obtain ⟨c0, c1, c2, c3, _⟩ := hB.cells4
  go_enter Try.func23, Try.ntmps23
  go_wp2_with fail
  refine (clone_nodes AN l.length cN l w hN (by omega)).mono ?_; rintro e w' ⟨A', c', rfl, hI, hb, hx⟩
  go_wp2
  go_ret
  exact ⟨A', c', rfl, hI, hb, hx⟩
theorem tr_Levels {b : Nat} {l : List Nd} {w : World} (h : TR w b l) : Calls Try.prog 27 #[.pointer (some ⟨b, 0, none⟩)] w fun e w' => ∃ A c, e = .returned (.slice A (idx (isK 1) l).length c) ∧ IsList w' .i64 A (idx (isK 1) l).length c (idx (isK 1) l) ∧ (∀ ad, A = some ad → w.heap.size ≤ ad.block) ∧ Below w.heap.size w w' := by
  obtain ⟨hwf, hl, AN, cN, AK, cK, AT, cT, AH, cH, hB, hN, hT, hH, _⟩ := h
  obtain ⟨c0, c1, c2, c3, _⟩ := hB.cells4
  go_enter Try.func27, Try.ntmps27
  go_wp2_with fail
  refine (clone_ints AT _ cT _ w hT).mono ?_; rintro e w' ⟨A', c', rfl, hI, hb, hx⟩
  go_wp2
  go_ret
  exact ⟨A', c', rfl, hI, hb, hx⟩
theorem tr_Hosts {b : Nat} {l : List Nd} {w : World} (h : TR w b l) : Calls Try.prog 28 #[.pointer (some ⟨b, 0, none⟩)] w fun e w' => ∃ A c, e = .returned (.slice A (idx (isK 4) l).length c) ∧ IsList w' .i64 A (idx (isK 4) l).length c (idx (isK 4) l) ∧ (∀ ad, A = some ad → w.heap.size ≤ ad.block) ∧ Below w.heap.size w w' := by
  obtain ⟨hwf, hl, AN, cN, AK, cK, AT, cT, AH, cH, hB, hN, hT, hH, _⟩ := h
  obtain ⟨c0, c1, c2, c3, _⟩ := hB.cells4
  go_enter Try.func28, Try.ntmps28
  go_wp2_with fail
  refine (clone_ints AH _ cH _ w hH).mono ?_; rintro e w' ⟨A', c', rfl, hI, hb, hx⟩
  go_wp2
  go_ret
  exact ⟨A', c', rfl, hI, hb, hx⟩
/-- Those right below a node. -/
def kidsOf (l : List Nd) (i : Int) : List Int := if 0 ≤ i ∧ i < l.length then idx (under_ i.toNat) l else []
theorem tr_Kids {b : Nat} {l : List Nd} {w : World} (h : TR w b l) (i : Int) : Calls Try.prog 26 #[.pointer (some ⟨b, 0, none⟩), .int .i64 i] w fun e w' => ∃ A c, e = .returned (.slice A (kidsOf l i).length c) ∧ IsList w' .i64 A (kidsOf l i).length c (kidsOf l i) ∧ (∀ ad, A = some ad → w.heap.size ≤ ad.block) ∧ Below w.heap.size w w' := by
  by_cases hi : 0 ≤ i ∧ i < l.length
  · have hk : kidsOf l i = idx (under_ i.toNat) l := if_pos hi
    rw [hk]
    obtain ⟨j, rfl⟩ : ∃ j : Nat, i = j := ⟨i.toNat, by omega⟩
    rw [Int.toNat_natCast]
    have h0 := h
    obtain ⟨hwf, hl, AN, cN, AK, cK, AT, cT, AH, cH, hB, hN, hT, hH, hc, hK⟩ := h
    obtain ⟨ad, A, c, rfl, hlt, hce, hI⟩ := hK j (by omega)
    obtain ⟨c0, c1, c2, c3, _⟩ := hB.cells4
    have hii : (j : Int) < (l.length : Int) := by omega
    have g1 : decide ((j : Int) < 0) = false := decide_eq_false (by omega)
    have g2 : decide ((l.length : Int) ≤ (j : Int)) = false := decide_eq_false (by omega)
    have hL := tr_Len h0
    clear hi hk hK
    generalize idx (under_ j) l = ks at *
    go_enter Try.func26, Try.ntmps26
    go_wp2_with fail
    refine hL.mono ?_; rintro e w' ⟨rfl, rfl⟩
    go_wp2_with fail
    refine (clone_ints A _ c _ w hI).mono ?_; rintro e w' ⟨A', c', rfl, hI, hb, hx⟩
    go_wp2
    go_ret
    exact ⟨A', c', rfl, hI, hb, hx⟩
  · have hk : kidsOf l i = [] := if_neg hi
    rw [hk]
    by_cases h0 : i < 0
    · have g1 : decide (i < 0) = true := decide_eq_true h0
      go_enter Try.func26, Try.ntmps26
      go_wp2
      go_ret
      exact ⟨none, 0, rfl, isList_nil _ _, fun ad h => (by cases h), Below.refl _ _⟩
    · have g1 : decide (i < 0) = false := decide_eq_false h0
      have g2 : decide ((l.length : Int) ≤ i) = true := decide_eq_true (by omega)
      go_enter Try.func26, Try.ntmps26
      go_wp2_with fail
      refine (tr_Len h).mono ?_; rintro e w' ⟨rfl, rfl⟩
      go_wp2
      go_ret
      exact ⟨none, 0, rfl, isList_nil _ _, fun ad h => (by cases h), Below.refl _ _⟩
theorem asks_find (g : Nat) (s : ByteArray) (w : World) (hg : w.cell? ⟨g, 0, none⟩ = some (.string s)) : Asks 63 #[.pointer (some ⟨g, 0, none⟩)] (fun x => sameName x.name s) w := by
  refine ⟨Go.Proofs.enters_of Try.func63 (by kernel_rfl) rfl, fun W x hx hb => ?_⟩
  have hc : W.cell? ⟨g, 0, none⟩ = some (.string s) := cell_keep hg hb
  have hc2 := cell_alloc hc (.cells #[.string x.name, .int .i64 x.kind, .int .i64 x.above, .int .i64 x.weight, .bool x.six, .int .u64 x.hi, .int .u64 x.lo] 34)
  have hP := Blk.new W 34 #[.string x.name, .int .i64 x.kind, .int .i64 x.above, .int .i64 x.weight, .bool x.six, .int .u64 x.hi, .int .u64 x.lo]
  obtain ⟨p0, p1, p2, p3, p4, p5, p6, _⟩ := hP.cells7
  have hW : Below W.heap.size W (W.alloc (.cells #[.string x.name, .int .i64 x.kind, .int .i64 x.above, .int .i64 x.weight, .bool x.six, .int .u64 x.hi, .int .u64 x.lo] 34)) := (Below.refl _ _).alloc (Nat.le_refl _) _
  show Calls Try.prog 63 #[.agg #[.string x.name, .int .i64 x.kind, .int .i64 x.above, .int .i64 x.weight, .bool x.six, .int .u64 x.hi, .int .u64 x.lo], .pointer (some ⟨g, 0, none⟩)] W _
  go_enter Try.func63, Try.ntmps63
  go_upto_region 1 with (fail)
  generalize W.alloc (.cells #[.string x.name, .int .i64 x.kind, .int .i64 x.above, .int .i64 x.weight, .bool x.six, .int .u64 x.hi, .int .u64 x.lo] 34) = u at *
  go_wp2_with fail
  go_ret
  exact ⟨rfl, hW⟩
theorem tr_Find {b : Nat} {l : List Nd} {w : World} (h : TR w b l) (s : ByteArray) : Calls Try.prog 29 #[.pointer (some ⟨b, 0, none⟩), .string s] w fun e w' => e = .returned (.int .i64 (idxF (fun x => sameName x.name s) l)) ∧ Below w.heap.size w w' := by
  have hA : Below w.heap.size w (w.alloc (.cells #[.string s] 9)) := (Below.refl _ _).alloc (Nat.le_refl _) _
  have hP := Blk.new w 9 #[.string s]
  have h1 := h.keep hA
  obtain ⟨hwf, hl, AN, cN, AK, cK, AT, cT, AH, cH, hB, hN, _⟩ := h1
  obtain ⟨c0, c1, c2, c3, _⟩ := hB.cells4
  have hF := indexFunc_nodes _ _ _ AN l.length cN l _ hN (asks_find _ s _ hP.cells1.1)
  clear h
  go_enter Try.func29, Try.ntmps29
  go_upto_region 1 with (fail)
  generalize w.alloc (.cells #[.string s] 9) = u at *
  go_wp2_with fail
  refine hF.mono ?_; rintro e w' ⟨rfl, hx⟩
  go_wp2
  go_ret
  exact ⟨rfl, below_step hA hx⟩
end Go.Proofs.Ytdkijmiflommeaa
