/- Lemmas for the claim's proof: TreeK TreeI TreeL TreePlain2 EligPlain QTail MakeInt. -/
import Derived.StillTail
import Derived.Test.YtblbgafadadbmaaGreatQ02
import Derived.Test.YtblbgafadadbmaaGreatQ03
import Derived.Test.YtblbgafadadbmaaGreatQ07
section
/- Up, Below, Level; the law's up and same. -/
set_option linter.unusedVariables false
namespace Go.Proofs.YtblbgafadadbmaaGreat
open Go.RowKit
set_option maxHeartbeats 4000000
set_option maxRecDepth 100000
/-- The node of a kind that one is, or is below, within so many steps. -/
def upF (l : List Nd) (kind : Int) : Nat → Int → Int
  | 0, _ => -1
  | f + 1, i => if 0 ≤ i ∧ i < l.length then (if (ndAt l i).kind = kind then i else upF l kind f (ndAt l i).above) else -1
def Rises (l : List Nd) : Prop := ∀ j, j < l.length → (l.getD j nd0).above < j
theorem upF_same {l : List Nd} (hl : Rises l) (kind : Int) : ∀ (f f' : Nat) (i : Int), i < f → i < f' → upF l kind f i = upF l kind f' i
  | 0, 0, _, _, _ => rfl
  | 0, f' + 1, i, h, _ => by rw [upF, upF, if_neg (by omega)]
  | f + 1, 0, i, _, h => by rw [upF, upF, if_neg (by omega)]
  | f + 1, f' + 1, i, h, h' => by
    rw [upF, upF]
    by_cases hi : 0 ≤ i ∧ i < l.length
    · rw [if_pos hi, if_pos hi]
      have := hl i.toNat (by omega)
      have e : ndAt l i = l.getD i.toNat nd0 := by unfold ndAt; rw [if_pos hi.1]
      rw [← e] at this
      rw [upF_same hl kind f f' (ndAt l i).above (by omega) (by omega)]
    · rw [if_neg hi, if_neg hi]
/-- The node of a kind above one, or itself. -/
def up (l : List Nd) (kind i : Int) : Int := upF l kind l.length i
theorem up_out (l : List Nd) (kind i : Int) (h : i < 0 ∨ l.length ≤ i) : up l kind i = -1 := by
  unfold up
  cases hl : l.length with
  | zero => rfl
  | succ n => rw [upF, if_neg (by omega)]
theorem up_hit (l : List Nd) (kind i : Int) (h0 : 0 ≤ i) (h1 : i < l.length) (h : (ndAt l i).kind = kind) : up l kind i = i := by
  unfold up
  obtain ⟨n, hn⟩ : ∃ n, l.length = n + 1 := ⟨l.length - 1, by omega⟩
  rw [hn, upF, if_pos ⟨h0, h1⟩, if_pos h]
theorem up_step (l : List Nd) (hl : Rises l) (kind i : Int) (h0 : 0 ≤ i) (h1 : i < l.length) (h : ¬ (ndAt l i).kind = kind) : up l kind i = up l kind (ndAt l i).above := by
  have := hl i.toNat (by omega)
  have e : ndAt l i = l.getD i.toNat nd0 := by unfold ndAt; rw [if_pos h0]
  rw [← e] at this
  unfold up
  rw [upF_same hl kind l.length (l.length + 1) i (by omega) (by omega), upF, if_pos ⟨h0, h1⟩, if_neg h]
theorem tr_Up {b : Nat} {l : List Nd} {w : World} (h : TR w b l) (hr : Rises l) (i kind : Int) : Calls Tryz.prog 37 #[.pointer (some ⟨b, 0, none⟩), .int .i64 i, .int .i64 kind] w fun e w' => e = .returned (.int .i64 (up l kind i)) ∧ w = w' := by
  go_enter Tryz.func37, Tryz.ntmps37
  go_wp2
  go_loopg [1] (i + 1).toNat (fun gg s1 wr => ∃ k : Int, k ≤ i ∧ gg = (k + 1).toNat ∧ s1 = .int .i64 k ∧ w = wr ∧ Hid (up l kind k = up l kind i))
  case atStart => exact ⟨i, Int.le_refl _, rfl, rfl, rfl, Lib.hid rfl⟩
  case round =>
    obtain ⟨k, hk, rfl, rfl, rfl, HU⟩ := hrel
    by_cases h0 : 0 ≤ k
    · have g0 : decide (0 ≤ k) = true := decide_eq_true h0
      have hL := tr_Len h
      by_cases h1 : k < l.length
      · have g1 : decide (k < (l.length : Int)) = true := decide_eq_true h1
        have h2 := h
        obtain ⟨hwf, hl, AN, cN, AK, cK, AT, cT, AH, cH, hB, hN, _⟩ := h2
        have hcap := hN.cap
        have hsm := hN.small
        obtain ⟨c0, c1, c2, c3, _⟩ := hB.cells4
        have hat := hN.at_ (k := k.toNat) (by omega)
        have e : ndAt l k = l.getD k.toNat nd0 := by unfold ndAt; rw [if_pos h0]
        have hra := hr k.toNat (by omega)
        rw [← e] at hat hra
        obtain ⟨ad, rfl, hbk, d0, d1, d2, d3, d4, d5, d6⟩ := hat
        have HH := Lib.hid (up_hit l kind k h0 h1)
        have HS := Lib.hid (up_step l hr kind k h0 h1)
        generalize ndAt l k = x at *
        by_cases hx : x.kind = kind
        · have g2 : (x.kind == kind) = true := by rw [beq_iff_eq]; exact hx
          have HE := Lib.hid (HU.out.symm.trans (HH.out hx))
          clear HU HH HS hx e hra
          go_wp2_with fail
          refine hL.mono ?_; rintro e w' ⟨rfl, rfl⟩
          go_wp2
          go_ret
          exact ⟨by rw [HE.out]; rfl, rfl⟩
        · have g2 : (x.kind == kind) = false := by rw [beq_eq_false_iff_ne]; exact hx
          have HE := Lib.hid ((HS.out hx).symm.trans HU.out)
          clear HU HH HS hx e
          go_wp2_with fail
          refine hL.mono ?_; rintro e w' ⟨rfl, rfl⟩
          go_wp2
          go_roundg (x.above + 1).toNat
          case measure => omega
          case rel => exact ⟨x.above, by omega, rfl, rfl, rfl, HE⟩
      · have g1 : decide (k < (l.length : Int)) = false := decide_eq_false h1
        have HE := Lib.hid (HU.out.symm.trans (up_out l kind k (by omega)))
        clear HU
        go_wp2_with fail
        refine hL.mono ?_; rintro e w' ⟨rfl, rfl⟩
        go_wp2
        go_ret
        exact ⟨by rw [HE.out]; rfl, rfl⟩
    · have g0 : decide (0 ≤ k) = false := decide_eq_false h0
      have HE := Lib.hid (HU.out.symm.trans (up_out l kind k (by omega)))
      clear HU
      go_wp2
      go_ret
      exact ⟨by rw [HE.out]; rfl, rfl⟩
theorem tr_Level {b : Nat} {l : List Nd} {w : World} (h : TR w b l) (hr : Rises l) (i : Int) : Calls Tryz.prog 14 #[.pointer (some ⟨b, 0, none⟩), .int .i64 i] w fun e w' => e = .returned (.int .i64 (if up l 1 i < 0 then -1 else idxI (up l 1 i) (idx (isK 1) l))) ∧ w = w' := by
  have hU := tr_Up h hr i 1
  by_cases h0 : up l 1 i < 0
  · rw [if_pos h0]
    generalize up l 1 i = u at *
    have g0 : decide (u < 0) = true := decide_eq_true h0
    go_enter Tryz.func14, Tryz.ntmps14
    go_wp2_with fail
    refine hU.mono ?_; rintro e w' ⟨rfl, rfl⟩
    go_wp2
    go_ret
    exact ⟨rfl, rfl⟩
  · rw [if_neg h0]
    obtain ⟨u, hu⟩ : ∃ u, u = up l 1 i := ⟨_, rfl⟩
    rw [← hu] at hU h0 ⊢
    clear hu
    have g0 : decide (u < 0) = false := decide_eq_false h0
    go_enter Tryz.func14, Tryz.ntmps14
    go_wp2_with fail
    refine hU.mono ?_; rintro e w1 ⟨rfl, rfl⟩
    obtain ⟨hwf, hl, AN, cN, AK, cK, AT, cT, AH, cH, hB, hN, hT, _⟩ := h
    obtain ⟨c0, c1, c2, c3, _⟩ := hB.cells4
    go_wp2_with fail
    refine (index_ints AT _ cT _ u _ hT).mono ?_; rintro e w2 ⟨rfl, rfl⟩
    go_wp2
    go_ret
    exact ⟨rfl, rfl⟩
theorem push_below {w u v : World} {row : Option Nat} (hW : Below w.heap.size w u) (hg : u.grownBy v row) (hr : ∀ g, row = some g → w.heap.size ≤ g) : Below w.heap.size w v := hW.grown hg hW.size hr
theorem own_from {w : World} {base : Nat} {e : TypeId} {s n : Nat} {v : Value} {xs : List Value} (h : w.ownsRow base e s v n xs) : ∀ g, v.ownBlock = some g → base ≤ g := fun g hg => (h.lt g hg).1
theorem own_keep {w w' : World} {base : Nat} {e : TypeId} {s n : Nat} {v : Value} {xs : List Value} (h : w.ownsRow base e s v n xs) (hx : Below w.heap.size w w') : w'.ownsRow base e s v n xs :=
  h.kept (row := none) ⟨hx.os, hx.tape, hx.output, hx.size, fun k hk _ => hx.block k hk⟩ (by cases v.ownBlock <;> simp)
/-- The hosts below a node, or itself. -/
def belowOf (l : List Nd) (i : Int) : List Int := if (ndAt l i).kind = 0 then [] else (idx (isK 4) l).filter fun h => up l (ndAt l i).kind h == i
end Go.Proofs.YtblbgafadadbmaaGreat
end
section
/- TreeNews. -/
set_option linter.unusedVariables false
namespace Go.Proofs.YtblbgafadadbmaaGreat
open Go.RowKit
set_option maxHeartbeats 4000000
set_option maxRecDepth 100000
theorem lit_reads {w : World} {g : Nat} {T : TypeId} {xs : List Value} (h : Blk w g T ⟨xs⟩) (size n : Nat) (hl : xs.length = n * size) : Reads w w.heap.size size (some ⟨g, 0, none⟩) n xs :=
  ⟨hl, fun _ => ⟨_, rfl, h.lt, fun j u hu => by
    have e : (⟨g, 0, none⟩ : Addr).add j = ⟨g, j, none⟩ := by unfold Addr.add; split <;> simp_all
    rw [e, h.cell j]
    simpa using hu⟩⟩
theorem tree_Len (b : Nat) (l : List Nd) (w : World) (h : TreeAt w b l) : Calls Tryz.prog 18 #[.pointer (some ⟨b, 0, none⟩)] w fun e w' => e = .returned (.int .i64 (l.length : Int)) ∧ w = w' := by
  obtain ⟨vN, vK, vT, vH, ks, r, h⟩ := h
  obtain ⟨AN, cN, rfl⟩ := own_slice h.rN
  obtain ⟨c0, c1, c2, c3, _⟩ := h.blk.cells4
  go_enter Tryz.func18, Tryz.ntmps18
  go_wp2
  go_ret
  exact ⟨rfl, rfl⟩
def exNodes : List Nd := [⟨⟨#[108]⟩, 1, -1, 0, false, 0, 0⟩, ⟨⟨#[122]⟩, 2, 0, 0, false, 0, 0⟩, ⟨⟨#[104]⟩, 4, 1, 0, false, 0, 0⟩]
theorem ex0 : whyC (exNodes.getD 0 nd0) (exNodes.take 0) = 0 := by decide +kernel
theorem ex1 : whyC (exNodes.getD 1 nd0) (exNodes.take 1) = 0 := by decide +kernel
theorem ex2 : whyC (exNodes.getD 2 nd0) (exNodes.take 2) = 16 := by decide +kernel
theorem ex_wf : ∀ x ∈ exNodes, x.Wf := by
  intro x hx
  simp [exNodes] at hx
  rcases hx with rfl | rfl | rfl <;> constructor <;> decide
end Go.Proofs.YtblbgafadadbmaaGreat
end
section
/- The law's Made: the nodes that may stand, one behind the other. -/
set_option linter.unusedVariables false
namespace Go.Proofs.YtblbgafadadbmaaGreat
open Go.RowKit
set_option maxHeartbeats 4000000
set_option maxRecDepth 100000
def addOk (acc : List Nd) (x : Nd) : List Nd := if whyC x acc = 0 then acc ++ [x] else acc
def made (l : List Nd) : List Nd := l.foldl addOk []
def Tall (l : List Nd) : Prop := ∀ j, j < l.length → okAt l j
theorem made_take (l : List Nd) (k : Nat) (h : k < l.length) : made (l.take (k + 1)) = addOk (made (l.take k)) (l.getD k nd0) := by
  unfold made
  rw [take_snocN l k h, List.foldl_append]; rfl
theorem tall_add (acc : List Nd) (x : Nd) (h : Tall acc) : Tall (addOk acc x) := by
  unfold addOk
  split
  · rename_i hw
    intro j hj
    rw [List.length_append, List.length_singleton] at hj
    unfold okAt
    rcases Nat.lt_or_ge j acc.length with h1 | h1
    · rw [getD_left _ _ _ h1, List.take_append_of_le_length (by omega)]
      exact h j h1
    · obtain rfl : j = acc.length := by omega
      rw [getD_last, List.take_left']
      · exact hw
      · rfl
  · exact h
theorem fold_tall (l acc : List Nd) (h : Tall acc) : Tall (l.foldl addOk acc) := by
  induction l generalizing acc with
  | nil => exact h
  | cons x l ih => exact ih _ (tall_add acc x h)
theorem made_tall (l : List Nd) : Tall (made l) := fold_tall l [] (fun j hj => absurd hj (Nat.not_lt_zero _))
theorem fold_mem (l acc : List Nd) : ∀ x ∈ l.foldl addOk acc, x ∈ acc ∨ x ∈ l := by
  induction l generalizing acc with
  | nil => intro x hx; exact .inl hx
  | cons y l ih =>
    intro x hx
    rcases ih _ x hx with h | h
    · unfold addOk at h
      split at h
      · rcases List.mem_append.1 h with h | h
        · exact .inl h
        · rw [List.mem_singleton] at h; subst h; exact .inr (List.mem_cons_self ..)
      · exact .inl h
    · exact .inr (List.mem_cons_of_mem _ h)
theorem made_mem (l : List Nd) : ∀ x ∈ made l, x ∈ l := fun x hx => by
  rcases fold_mem l [] x hx with h | h
  · cases h
  · exact h
theorem fold_len (l acc : List Nd) : (l.foldl addOk acc).length ≤ acc.length + l.length := by
  induction l generalizing acc with
  | nil => simp
  | cons y l ih =>
    refine Nat.le_trans (ih _) ?_
    have : (addOk acc y).length ≤ acc.length + 1 := by unfold addOk; split <;> simp
    rw [List.length_cons]; omega
theorem made_len (l : List Nd) : (made l).length ≤ l.length := by have := fold_len l []; simp only [List.length_nil, Nat.zero_add] at this; exact this
theorem tall_rises {l : List Nd} (h : Tall l) : Rises l := fun j hj => (ok_above hj (h j hj)).1
theorem law_Made (w : World) (A : Option Addr) (n0 c : Nat) (l0 : List Nd) (hl0 : IsNodes w A n0 c l0) :
    Calls Tryz.prog 4 #[.slice A n0 c] w fun e w' => ∃ b A' c', e = .returned (.tuple #[.pointer (some ⟨b, 0, none⟩), .slice A' (made (l0.take 60)).length c']) ∧ TR w' b (made (l0.take 60)) ∧ IsNodes w' A' (made (l0.take 60)).length c' (made (l0.take 60)) ∧ Below w.heap.size w w' := by
  have hl := hl0.cut (k := min n0 60) (by omega)
  have h60 : min n0 60 ≤ 60 := by omega
  have hF := fun w => law_Few A n0 c hl0.cap hl0.small w
  have htk : l0.take 60 = l0.take (min n0 60) := by
    rcases Nat.le_total n0 60 with h | h
    · rw [Nat.min_eq_left h, List.take_of_length_le (by rw [hl0.len]; exact h), List.take_of_length_le (by rw [hl0.len]; exact Nat.le_refl _)]
    · rw [Nat.min_eq_right h]
  rw [htk]
  generalize min n0 60 = n at hl hF h60
  generalize l0.take n = l at hl
  clear hl0 htk l0
  have hcap := hl.cap
  have hsm := hl.small
  have hlen := Lib.hid hl.len
  obtain ⟨iN, hiN, hzN, hzN1, hzN2⟩ := info_parts Tryz.infoNode
  obtain ⟨M, hM⟩ : ∃ M, M = made l := ⟨_, rfl⟩
  rw [← hM]
  have HM := Lib.hid hM
  clear hM
  go_enter Tryz.func4, Tryz.ntmps4
  go_wp2_with fail
  refine (hF _).mono ?_; rintro e w' ⟨rfl, rfl⟩
  clear hF
  go_wp2_with fail
  go_loopg [4, 5] n (fun gg s4 s5 wr => ∃ (i : Nat) (acc : List Nd), i ≤ n ∧ gg = n - i ∧ s5 = .int .i64 i ∧ wr.ownsRow w.heap.size 60 7 s4 acc.length (flat acc) ∧ Below w.heap.size w wr ∧ Hid (acc = made (l.take i)))
  case atStart => exact ⟨0, [], Nat.zero_le _, rfl, rfl, World.ownsRow_nil _ _ _ _, Below.refl _ _, Lib.hid rfl⟩
  case round =>
    obtain ⟨i, acc, hi, rfl, rfl, hown, hW, HA⟩ := hrel
    have hal : acc.length ≤ 60 := by
      rw [HA.out]
      refine Nat.le_trans (made_len _) ?_
      rw [List.length_take]; omega
    have hawf := Lib.hid (show ∀ x ∈ acc, x.Wf from fun x hx => hl.wf x (List.mem_of_mem_take (made_mem _ x (by rw [← HA.out]; exact hx))))
    have hown2 := hown
    obtain ⟨AI, cI, rfl, hI, _⟩ := own_nodes hown hawf.out (by omega)
    by_cases hin : i < n
    · obtain ⟨ad, rfl, hbk, d0, d1, d2, d3, d4, d5, d6⟩ := (hl.keep hW).at_ hin
      have hii : (i : Int) < (n : Int) := by omega
      have hxw := hl.wfd i
      have HT := Lib.hid (made_take l i (by rw [hlen.out]; exact hin))
      obtain ⟨x, hxx⟩ : ∃ x, x = l.getD i nd0 := ⟨_, rfl⟩
      rw [← hxx] at d0 d1 d2 d3 d4 d5 d6 hxw HT
      have HX := Lib.hid hxx
      clear hxx
      go_wp2_with fail
      refine (law_why x hxw AI _ cI acc _ hI).mono ?_; rintro e w5 ⟨rfl, hx5⟩
      have hW5 := below_step hW hx5
      have hown5 := own_keep hown2 hx5
      have hl5 := (hl.keep hW).keep hx5
      obtain ⟨ad', e', _, d0', d1', d2', d3', d4', d5', d6'⟩ := hl5.at_ hin
      obtain rfl : ad' = ad := by injection e' with e'; exact e'.symm
      rw [← HX.out] at d0' d1' d2' d3' d4' d5' d6'
      by_cases hw0 : whyC x acc = 0
      · have g1 : (whyC x acc == 0) = true := by rw [beq_iff_eq]; exact hw0
        have HE := Lib.hid (show acc ++ [x] = made (l.take (i + 1)) by rw [HT.out, ← HA.out]; unfold addOk; rw [if_pos hw0])
        clear HT HA hw0 hown hown2 hW hx5 d0 d1 d2 d3 d4 d5 d6
        generalize whyC x acc = W0 at *
        go_wp2_with (at_builtin; go_loud (refine wpList_append_any _ rfl (.tmp 24) (.tmp 29) _ rfl w.heap.size 60 iN _ 7 64 Tryz.underlying22 hiN hzN hzN1 hzN2 rfl (by decide) _ _ (flat acc) rfl (hown5.alloc _) _ (some ⟨w5.heap.size, 0, none⟩) 1 1 (Nd.cells x) rfl (one_reads w5 60 7 (Nd.cells x) rfl) (cells_one _) (by simp only [maxLen]; omega) (by omega) (by have := hW5.size; simp; omega) ?_; intro v6 w6 hown6 hg6 hat6))
        have hW6 := push_below (hW5.alloc hW5.size _) hg6 (own_from hown5)
        go_wp2
        go_roundg (n - (i + 1))
        case measure => omega
        case rel => exact ⟨i + 1, acc ++ [x], by omega, rfl, by go_num, by rw [List.length_append, List.length_singleton, flat_snoc]; exact hown6, hW6, HE⟩
      · have g1 : (whyC x acc == 0) = false := by rw [beq_eq_false_iff_ne]; exact hw0
        have HE := Lib.hid (show acc = made (l.take (i + 1)) by rw [HT.out, ← HA.out]; unfold addOk; rw [if_neg hw0])
        clear HT HA hw0 hown hown2 hW hx5
        generalize whyC x acc = W0 at *
        go_wp2
        go_roundg (n - (i + 1))
        case measure => omega
        case rel => exact ⟨i + 1, acc, by omega, rfl, by go_num, hown5, hW5, HE⟩
    · obtain rfl : i = n := by omega
      have HE := Lib.hid (show acc = M by rw [HA.out, HM.out, List.take_of_length_le (by rw [hlen.out]; exact Nat.le_refl _)])
      have hel := HE.out
      subst hel
      have HTall := Lib.hid (show Tall acc by rw [HM.out]; exact made_tall l)
      go_wp2_with fail
      refine (tree_New AI _ cI acc _ hI).mono ?_; rintro e w5 ⟨hN, hx5⟩
      rcases hN with ⟨kf, hkf, hok, hbad, rfl⟩ | ⟨hok, b, hb, rfl, hT⟩
      · exact absurd (HTall.out kf hkf) hbad
      · go_wp2
        go_ret2
        exact ⟨b, AI, cI, rfl, hT.reads hawf.out (by omega), hI.keep hx5, below_step hW hx5⟩
end Go.Proofs.YtblbgafadadbmaaGreat
end
section
/- Nodes above one another, in plain Lean. -/
set_option linter.unusedVariables false
namespace Go.Proofs.YtblbgafadadbmaaGreat
open Go.RowKit
theorem ndAt_in {l : List Nd} {i : Int} (h0 : 0 ≤ i) : ndAt l i = l.getD i.toNat nd0 := by unfold ndAt; rw [if_pos h0]
/-- What a node that may stand is like. -/
theorem tall_head {l : List Nd} (h : Tall l) (j : Nat) (hj : j < l.length) : HeadOk (l.getD j nd0) (l.take j) := headC_zero (whyC_ok (h j hj)).1
theorem tall_below {l : List Nd} (h : Tall l) (j : Nat) (hj : j < l.length) (hk : 1 < (l.getD j nd0).kind) :
    0 ≤ (l.getD j nd0).above ∧ (l.getD j nd0).above < j ∧ (ndAt l (l.getD j nd0).above).kind = (l.getD j nd0).kind - 1 := by
  obtain ⟨h0, h1, h2⟩ := (tall_head h j hj).below hk
  rw [List.length_take] at h1
  refine ⟨h0, by omega, ?_⟩
  rw [ndAt_in h0, ← h2]
  generalize (l.getD j nd0).above = a at *
  rw [List.getD_eq_getElem?_getD, List.getD_eq_getElem?_getD, List.getElem?_take, if_pos (by omega)]
/-- Four steps are enough. -/
theorem upF_kind {l : List Nd} (h : Tall l) (kind : Int) : ∀ (f : Nat) (i : Int), 0 ≤ i → i < l.length → (ndAt l i).kind ≤ f → upF l kind f i = up l kind i
  | 0, i, h0, h1, hk => by
    have := (tall_head h i.toNat (by omega)).kind0
    rw [← ndAt_in h0] at this
    omega
  | f + 1, i, h0, h1, hk => by
    rw [upF, if_pos ⟨h0, h1⟩]
    by_cases hi : (ndAt l i).kind = kind
    · rw [if_pos hi, up_hit l kind i h0 h1 hi]
    · rw [if_neg hi, up_step l (tall_rises h) kind i h0 h1 hi]
      by_cases h2 : 1 < (ndAt l i).kind
      · have hb := tall_below h i.toNat (by omega) (by rw [← ndAt_in h0]; exact h2)
        rw [← ndAt_in h0] at hb
        exact upF_kind h kind f _ hb.1 (by omega) (by omega)
      · have hd := tall_head h i.toNat (by omega)
        rw [← ndAt_in h0] at hd
        have := (hd.level (by have := hd.kind0; omega)).2
        rw [this, up_out l kind (-1) (by omega)]
        cases f with
        | zero => rfl
        | succ f => rw [upF, if_neg (by omega)]
theorem up_four {l : List Nd} (h : Tall l) (kind i : Int) : upF l kind 4 i = up l kind i := by
  by_cases hi : 0 ≤ i ∧ i < l.length
  · have hd := tall_head h i.toNat (by omega)
    rw [← ndAt_in hi.1] at hd
    exact upF_kind h kind 4 i hi.1 hi.2 hd.kind1
  · rw [upF, if_neg hi, up_out l kind i (by omega)]
/-- Above each node is a level. -/
theorem up_level {l : List Nd} (h : Tall l) : ∀ (f : Nat) (i : Int), 0 ≤ i → i < l.length → (ndAt l i).kind ≤ f → 0 ≤ up l 1 i
  | 0, i, h0, h1, hk => by
    have := (tall_head h i.toNat (by omega)).kind0
    rw [← ndAt_in h0] at this
    omega
  | f + 1, i, h0, h1, hk => by
    by_cases hi : (ndAt l i).kind = 1
    · rw [up_hit l 1 i h0 h1 hi]; exact h0
    · rw [up_step l (tall_rises h) 1 i h0 h1 hi]
      have hd := tall_head h i.toNat (by omega)
      rw [← ndAt_in h0] at hd
      have hk0 := hd.kind0
      have hb := tall_below h i.toNat (by omega) (by rw [← ndAt_in h0]; omega)
      rw [← ndAt_in h0] at hb
      exact up_level h f _ hb.1 (by omega) (by omega)
/-- The places of those of a kind of node, as they are found one by one. -/
theorem idx_take (p : Nd → Bool) (l : List Nd) (k : Nat) (hk : k < l.length) : idx p (l.take (k + 1)) = idx p (l.take k) ++ if p (l.getD k nd0) = true then [(k : Int)] else [] := by
  rw [take_snocN l k hk, idx_snoc, List.length_take, Nat.min_eq_left (by omega)]
theorem idxI_snoc (z : Int) (xs : List Int) (y : Int) : idxI z (xs ++ [y]) = if z ∈ xs then idxI z xs else if y = z then (xs.length : Int) else -1 := by
  by_cases hz : z ∈ xs
  · rw [if_pos hz]
    unfold idxI
    have : xs.findIdx? (fun x => x == z) ≠ none := by
      rw [ne_eq, List.findIdx?_eq_none_iff]
      intro h
      have := h z hz
      simp at this
    rw [List.findIdx?_append]
    cases h : xs.findIdx? (fun x => x == z) with
    | none => exact absurd h this
    | some k => rfl
  · rw [if_neg hz]
    have e : xs.findIdx? (fun x => x == z) = none := by
      rw [List.findIdx?_eq_none_iff]
      intro x hx
      have : x ≠ z := fun e => hz (e ▸ hx)
      simpa using this
    unfold idxI
    rw [List.findIdx?_append, e]
    by_cases hy : y = z
    · rw [if_pos hy]; simp [List.findIdx?_cons, hy]
    · rw [if_neg hy]; simp [List.findIdx?_cons, hy]
theorem idxI_none {z : Int} {xs : List Int} (h : ¬ z ∈ xs) : idxI z xs = -1 := by
  unfold idxI
  have e : xs.findIdx? (fun x => x == z) = none := by
    rw [List.findIdx?_eq_none_iff]
    intro x hx
    have : x ≠ z := fun e => h (e ▸ hx)
    simpa using this
  rw [e]
/-- One more level is looked at. -/
theorem level_step {l : List Nd} (u : Int) (k : Nat) (hk : k < l.length) :
    idxI u (idx (isK 1) (l.take (k + 1))) = if (l.getD k nd0).kind = 1 ∧ u = k then ((idx (isK 1) (l.take k)).length : Int) else idxI u (idx (isK 1) (l.take k)) := by
  have hn : u = k → ¬ u ∈ idx (isK 1) (l.take k) := fun e h => by
    have := (idx_bd _ _ _ h).2
    rw [List.length_take] at this
    omega
  rw [idx_take _ l k hk]
  by_cases h1 : (l.getD k nd0).kind = 1
  · rw [if_pos (by unfold isK; simpa using h1), idxI_snoc]
    by_cases hu : u = k
    · rw [if_neg (hn hu), if_pos hu.symm, if_pos ⟨h1, hu⟩]
    · rw [if_neg (fun h : _ ∧ _ => hu h.2)]
      by_cases hm : u ∈ idx (isK 1) (l.take k)
      · rw [if_pos hm]
      · rw [if_neg hm, if_neg (fun e => hu e.symm), idxI_none hm]
  · rw [if_neg (by unfold isK; simpa using h1), List.append_nil, if_neg (fun h : _ ∧ _ => h1 h.1)]
/-- The hosts below a node, as they are found one by one. -/
def belowTo (l : List Nd) (i : Int) (k : Nat) : List Int := if (ndAt l i).kind = 0 then [] else (idx (isK 4) (l.take k)).filter fun h => up l (ndAt l i).kind h == i
theorem below_step' {l : List Nd} (i : Int) (k : Nat) (hk : k < l.length) : belowTo l i (k + 1) = belowTo l i k ++ if (ndAt l i).kind ≠ 0 ∧ (l.getD k nd0).kind = 4 ∧ up l (ndAt l i).kind k = i then [(k : Int)] else [] := by
  unfold belowTo
  by_cases h0 : (ndAt l i).kind = 0
  · rw [if_pos h0, if_pos h0, if_neg (by rintro ⟨h1, _⟩; exact h1 h0)]; rw [List.append_nil]
  · rw [if_neg h0, if_neg h0, idx_take _ l k hk, List.filter_append]
    congr 1
    unfold isK
    by_cases h4 : (l.getD k nd0).kind = 4
    · rw [if_pos (by simpa using h4)]
      by_cases hu : up l (ndAt l i).kind k = i
      · rw [if_pos ⟨h0, h4, hu⟩]; simp [hu]
      · rw [if_neg (fun h => hu h.2.2)]; simp [hu]
    · rw [if_neg (by simpa using h4), if_neg (fun h => h4 h.2.1)]; rfl
theorem below_all (l : List Nd) (i : Int) : belowTo l i l.length = belowOf l i := by
  unfold belowTo belowOf
  rw [List.take_length]
theorem kind_zero {l : List Nd} (h : Tall l) (i : Int) : (ndAt l i).kind = 0 ↔ (i < 0 ∨ l.length ≤ i) := by
  constructor
  · intro h0
    rcases Int.lt_or_le i 0 with hi | hi
    · exact .inl hi
    · rcases Int.lt_or_le i l.length with h1 | h1
      · have := (tall_head h i.toNat (by omega)).kind0
        rw [← ndAt_in hi] at this
        omega
      · exact .inr h1
  · intro hi
    rw [ndAt_out l i hi]; rfl
theorem level_all {l : List Nd} (i : Int) : (if up l 1 i < 0 then -1 else idxI (up l 1 i) (idx (isK 1) l)) = idxI (up l 1 i) (idx (isK 1) l) := by
  by_cases h : up l 1 i < 0
  · rw [if_pos h, idxI_none (fun hm => by have := (idx_bd _ _ _ hm).1; omega)]
  · rw [if_neg h]
end Go.Proofs.YtblbgafadadbmaaGreat
end
section
/- Which hosts may be picked, what nodes weigh, and which have a host that may be picked: in plain Lean. -/
set_option linter.unusedVariables false
namespace Go.Proofs.YtblbgafadadbmaaGreat
open Go.RowKit
/-- A host that may be picked. -/
def pk (l : List Nd) (hosts : List Int) (j : Nat) : Bool := (l.getD j nd0).kind == 4 && decide (0 < (l.getD j nd0).weight) && hosts.contains (j : Int)
def kidsN (l : List Nd) (i : Nat) : List Nat := (List.range l.length).filter fun k => (l.getD k nd0).above == (i : Int)
theorem idx_kids (l : List Nd) (i : Nat) : idx (under_ i) l = (kidsN l i).map fun k : Nat => (k : Int) := rfl
theorem mem_kids {l : List Nd} {i k : Nat} : k ∈ kidsN l i ↔ k < l.length ∧ (l.getD k nd0).above = i := by
  unfold kidsN
  rw [List.mem_filter, List.mem_range]
  simp
theorem kid_kind {l : List Nd} (h : Tall l) {i k : Nat} (hk : k ∈ kidsN l i) : i < k ∧ (l.getD k nd0).kind = (l.getD i nd0).kind + 1 := by
  obtain ⟨h1, h2⟩ := mem_kids.1 hk
  have hd := tall_head h k h1
  have hk1 : 1 < (l.getD k nd0).kind := by
    rcases Int.lt_or_le 1 (l.getD k nd0).kind with h3 | h3
    · exact h3
    · have := (hd.level (by have := hd.kind0; omega)).2
      omega
  have hb := tall_below h k h1 hk1
  rw [h2] at hb
  rw [ndAt_nat] at hb
  omega
/-- Has a node a host that may be picked? -/
def hsF (l : List Nd) (hosts : List Int) : Nat → Nat → Bool
  | 0, _ => false
  | f + 1, i => if (l.getD i nd0).kind = 4 then pk l hosts i else (kidsN l i).any (hsF l hosts f)
/-- What a node weighs. -/
def wtF (l : List Nd) (hosts : List Int) : Nat → Nat → Int
  | 0, _ => 0
  | f + 1, i => if (l.getD i nd0).kind = 4 then (if pk l hosts i then (l.getD i nd0).weight else 0)
    else if 0 < (l.getD i nd0).weight ∧ hsF l hosts (f + 1) i = true then (l.getD i nd0).weight
    else (kidsN l i).foldl (fun a k => IntKind.u64.wrap (a + wtF l hosts f k)) 0
def hs (l : List Nd) (hosts : List Int) (i : Nat) : Bool := hsF l hosts 4 i
def wt (l : List Nd) (hosts : List Int) (i : Nat) : Int := wtF l hosts 4 i
theorem any_congr' {α : Type} {p q : α → Bool} {l : List α} (h : ∀ x ∈ l, p x = q x) : l.any p = l.any q := by
  induction l with
  | nil => rfl
  | cons x l ih => rw [List.any_cons, List.any_cons, h x (List.mem_cons_self ..), ih (fun y hy => h y (List.mem_cons_of_mem _ hy))]
theorem foldl_congr' {α β : Type} {f g : β → α → β} {l : List α} (h : ∀ a, ∀ x ∈ l, f a x = g a x) : ∀ a, l.foldl f a = l.foldl g a := by
  induction l with
  | nil => intro a; rfl
  | cons x l ih => intro a; rw [List.foldl_cons, List.foldl_cons, h a x (List.mem_cons_self ..)]; exact ih (fun a y hy => h a y (List.mem_cons_of_mem _ hy)) _
theorem hsF_same {l : List Nd} (h : Tall l) (hosts : List Int) : ∀ (f f' i : Nat), i < l.length → 5 ≤ (l.getD i nd0).kind + f → 5 ≤ (l.getD i nd0).kind + f' → hsF l hosts f i = hsF l hosts f' i
  | 0, _, i, hi, h1, _ => by have := (tall_head h i hi).kind1; omega
  | _ + 1, 0, i, hi, _, h1 => by have := (tall_head h i hi).kind1; omega
  | f + 1, f' + 1, i, hi, h1, h2 => by
    rw [hsF, hsF]
    split
    · rfl
    · refine any_congr' fun k hk => hsF_same h hosts f f' k (mem_kids.1 hk).1 ?_ ?_ <;> rw [(kid_kind h hk).2] <;> omega
theorem wtF_same {l : List Nd} (h : Tall l) (hosts : List Int) : ∀ (f f' i : Nat), i < l.length → 5 ≤ (l.getD i nd0).kind + f → 5 ≤ (l.getD i nd0).kind + f' → wtF l hosts f i = wtF l hosts f' i
  | 0, _, i, hi, h1, _ => by have := (tall_head h i hi).kind1; omega
  | _ + 1, 0, i, hi, _, h1 => by have := (tall_head h i hi).kind1; omega
  | f + 1, f' + 1, i, hi, h1, h2 => by
    rw [wtF, wtF, hsF_same h hosts (f + 1) (f' + 1) i hi h1 h2]
    have e : ∀ a, (kidsN l i).foldl (fun a k => IntKind.u64.wrap (a + wtF l hosts f k)) a = (kidsN l i).foldl (fun a k => IntKind.u64.wrap (a + wtF l hosts f' k)) a :=
      foldl_congr' fun a k hk => by
        rw [wtF_same h hosts f f' k (mem_kids.1 hk).1 (by rw [(kid_kind h hk).2]; omega) (by rw [(kid_kind h hk).2]; omega)]
    rw [e]
theorem hs_host {l : List Nd} (h : Tall l) (hosts : List Int) {i : Nat} (hi : i < l.length) (hk : (l.getD i nd0).kind = 4) : hs l hosts i = pk l hosts i := by
  unfold hs; rw [hsF, if_pos hk]
theorem hs_node {l : List Nd} (h : Tall l) (hosts : List Int) {i : Nat} (hi : i < l.length) (hk : (l.getD i nd0).kind ≠ 4) : hs l hosts i = (kidsN l i).any (hs l hosts) := by
  have k0 := (tall_head h i hi).kind0
  unfold hs
  rw [hsF, if_neg hk]
  refine any_congr' fun k hk => hsF_same h hosts 3 4 k (mem_kids.1 hk).1 ?_ ?_ <;> rw [(kid_kind h hk).2] <;> omega
theorem wt_host {l : List Nd} (h : Tall l) (hosts : List Int) {i : Nat} (hi : i < l.length) (hk : (l.getD i nd0).kind = 4) : wt l hosts i = if pk l hosts i then (l.getD i nd0).weight else 0 := by
  unfold wt; rw [wtF, if_pos hk]
theorem wt_node {l : List Nd} (h : Tall l) (hosts : List Int) {i : Nat} (hi : i < l.length) (hk : (l.getD i nd0).kind ≠ 4) :
    wt l hosts i = if 0 < (l.getD i nd0).weight ∧ hs l hosts i = true then (l.getD i nd0).weight else (kidsN l i).foldl (fun a k => IntKind.u64.wrap (a + wt l hosts k)) 0 := by
  have k0 := (tall_head h i hi).kind0
  unfold wt hs
  rw [wtF, if_neg hk]
  have e : ∀ a, (kidsN l i).foldl (fun a k => IntKind.u64.wrap (a + wtF l hosts 3 k)) a = (kidsN l i).foldl (fun a k => IntKind.u64.wrap (a + wtF l hosts 4 k)) a :=
    foldl_congr' fun a k hk => by
      rw [wtF_same h hosts 3 4 k (mem_kids.1 hk).1 (by rw [(kid_kind h hk).2]; omega) (by rw [(kid_kind h hk).2]; omega)]
  rw [e]
/-- A node without a host that may be picked weighs nothing. -/
theorem wt_none {l : List Nd} (h : Tall l) (hosts : List Int) : ∀ (f i : Nat), i < l.length → 5 ≤ (l.getD i nd0).kind + f → hs l hosts i = false → wt l hosts i = 0
  | 0, i, hi, h1, _ => by have := (tall_head h i hi).kind1; omega
  | f + 1, i, hi, h1, h2 => by
    by_cases hk : (l.getD i nd0).kind = 4
    · rw [hs_host h hosts hi hk] at h2
      rw [wt_host h hosts hi hk, h2]; rfl
    · rw [wt_node h hosts hi hk, h2, if_neg (by simp)]
      rw [hs_node h hosts hi hk] at h2
      have e : ∀ k ∈ kidsN l i, wt l hosts k = 0 := fun k hk => by
        refine wt_none h hosts f k (mem_kids.1 hk).1 (by rw [(kid_kind h hk).2]; omega) ?_
        cases hh : hs l hosts k with
        | false => rfl
        | true => rw [List.any_eq_false] at h2; exact absurd hh (h2 k hk)
      have : ∀ (ks : List Nat), (∀ k ∈ ks, wt l hosts k = 0) → ks.foldl (fun a k => IntKind.u64.wrap (a + wt l hosts k)) 0 = 0 := fun ks => by
        induction ks with
        | nil => intro _; rfl
        | cons k ks ih =>
          intro hk
          rw [List.foldl_cons, hk k (List.mem_cons_self ..)]
          exact ih (fun y hy => hk y (List.mem_cons_of_mem _ hy))
      exact this _ e
/-- The chain upwards passes all kinds. -/
theorem up_lower {l : List Nd} (h : Tall l) (kind : Int) : ∀ (f : Nat) (i : Int), 0 ≤ i → i < l.length → (ndAt l i).kind ≤ f → (ndAt l i).kind < kind → up l kind i = -1
  | 0, i, h0, h1, hk, _ => by
    have := (tall_head h i.toNat (by omega)).kind0
    rw [← ndAt_in h0] at this
    omega
  | f + 1, i, h0, h1, hk, hlt => by
    rw [up_step l (tall_rises h) kind i h0 h1 (by omega)]
    have hd := tall_head h i.toNat (by omega)
    rw [← ndAt_in h0] at hd
    by_cases h2 : 1 < (ndAt l i).kind
    · have hb := tall_below h i.toNat (by omega) (by rw [← ndAt_in h0]; exact h2)
      rw [← ndAt_in h0] at hb
      exact up_lower h kind f _ hb.1 (by omega) (by omega) (by omega)
    · have := (hd.level (by have := hd.kind0; omega)).2
      rw [this, up_out l kind (-1) (by omega)]
/-- The node of a kind above a lower one, and the one above that. -/
theorem up_chain {l : List Nd} (h : Tall l) (kind : Int) (hk1 : 1 ≤ kind) : ∀ (f : Nat) (i : Int), 0 ≤ i → i < l.length → (ndAt l i).kind ≤ f → kind + 1 ≤ (ndAt l i).kind →
    0 ≤ up l (kind + 1) i ∧ up l (kind + 1) i < l.length ∧ (ndAt l (up l (kind + 1) i)).kind = kind + 1 ∧ up l kind i = (ndAt l (up l (kind + 1) i)).above
  | 0, i, h0, h1, hk, _ => by omega
  | f + 1, i, h0, h1, hk, hle => by
    have hb := tall_below h i.toNat (by omega) (by rw [← ndAt_in h0]; omega)
    rw [← ndAt_in h0] at hb
    by_cases he : (ndAt l i).kind = kind + 1
    · rw [up_hit l (kind + 1) i h0 h1 he]
      refine ⟨h0, h1, he, ?_⟩
      rw [up_step l (tall_rises h) kind i h0 h1 (by omega)]
      exact up_hit l kind _ hb.1 (by omega) (by omega)
    · rw [up_step l (tall_rises h) (kind + 1) i h0 h1 he, up_step l (tall_rises h) kind i h0 h1 (by omega)]
      exact up_chain h kind hk1 f _ hb.1 (by omega) (by omega) (by omega)
/-- Which node has a host that may be picked: it is below that node. -/
theorem hs_any {l : List Nd} (h : Tall l) (hosts : List Int) : ∀ (f i : Nat), i < l.length → 5 ≤ (l.getD i nd0).kind + f →
    hs l hosts i = (List.range l.length).any fun k => pk l hosts k && up l (l.getD i nd0).kind k == (i : Int)
  | 0, i, hi, h1 => by have := (tall_head h i hi).kind1; omega
  | f + 1, i, hi, h1 => by
    have k0 := (tall_head h i hi).kind0
    have k1 := (tall_head h i hi).kind1
    by_cases hk : (l.getD i nd0).kind = 4
    · rw [hs_host h hosts hi hk, hk]
      apply Bool.eq_iff_iff.2
      rw [List.any_eq_true]
      constructor
      · intro hp
        refine ⟨i, List.mem_range.2 hi, ?_⟩
        rw [hp, up_hit l 4 i (by omega) (by omega) (by rw [ndAt_nat]; exact hk)]
        simp
      · rintro ⟨k, hkr, hp⟩
        rw [Bool.and_eq_true, beq_iff_eq] at hp
        have hk4 : (ndAt l k).kind = 4 := by
          have := hp.1
          unfold pk at this
          simp only [Bool.and_eq_true, beq_iff_eq] at this
          rw [ndAt_nat]; exact this.1.1
        rw [up_hit l 4 k (by omega) (by have := List.mem_range.1 hkr; omega) hk4] at hp
        have : k = i := by omega
        rw [← this]; exact hp.1
    · rw [hs_node h hosts hi hk]
      apply Bool.eq_iff_iff.2
      rw [List.any_eq_true, List.any_eq_true]
      constructor
      · rintro ⟨c, hc, hp⟩
        have hck := kid_kind h hc
        rw [hs_any h hosts f c (mem_kids.1 hc).1 (by rw [hck.2]; omega), List.any_eq_true] at hp
        obtain ⟨k, hkr, hp⟩ := hp
        rw [Bool.and_eq_true, beq_iff_eq, hck.2] at hp
        refine ⟨k, hkr, ?_⟩
        have hk4 : (ndAt l k).kind = 4 := by
          have := hp.1
          unfold pk at this
          simp only [Bool.and_eq_true, beq_iff_eq] at this
          rw [ndAt_nat]; exact this.1.1
        have hch := up_chain h (l.getD i nd0).kind k0 4 k (by omega) (by have := List.mem_range.1 hkr; omega) (by omega) (by omega)
        rw [hp.2, ndAt_nat, (mem_kids.1 hc).2] at hch
        rw [Bool.and_eq_true, beq_iff_eq]
        exact ⟨hp.1, hch.2.2.2⟩
      · rintro ⟨k, hkr, hp⟩
        rw [Bool.and_eq_true, beq_iff_eq] at hp
        have hk4 : (ndAt l k).kind = 4 := by
          have := hp.1
          unfold pk at this
          simp only [Bool.and_eq_true, beq_iff_eq] at this
          rw [ndAt_nat]; exact this.1.1
        obtain ⟨c0, c1, c2, c3⟩ := up_chain h (l.getD i nd0).kind k0 4 k (by omega) (by have := List.mem_range.1 hkr; omega) (by omega) (by omega)
        obtain ⟨c, hc⟩ : ∃ c : Nat, up l ((l.getD i nd0).kind + 1) k = c := ⟨(up l ((l.getD i nd0).kind + 1) k).toNat, by omega⟩
        rw [hc] at c1 c2 c3
        rw [ndAt_nat] at c2 c3
        have hck : c ∈ kidsN l i := mem_kids.2 ⟨by omega, by rw [← c3]; exact hp.2⟩
        refine ⟨c, hck, ?_⟩
        rw [hs_any h hosts f c (by omega) (by rw [c2]; omega), List.any_eq_true]
        refine ⟨k, hkr, ?_⟩
        rw [c2, hc, hp.1]; simp
end Go.Proofs.YtblbgafadadbmaaGreat
end
section
/- Regions that draw their order: all operations but the last few are quiet in a class of worlds (they read; callees keep the class), and those last ones come in one forced order: one walk. -/
set_option linter.unusedVariables false
namespace Go.Proofs.YtblbgafadadbmaaGreat
open Go.RowKit Go
section
variable {P : Program} {ops : Array Oper} {md : Region.Mode} {C : World → Prop}
/-- All that may come up stands ahead of n, is quiet in the class, and L holds behind so many. -/
def qHead (P : Program) (md : Region.Mode) (ops : Array Oper) (C : World → Prop) (n : Nat) (L : Array Bool → Act → Prop) : Nat → Array Bool → Act → Prop
  | 0, listed, a => L listed a
  | f + 1, listed, a => Region.ready md ops listed ≠ [] ∧ ∀ i ∈ Region.ready md ops listed, i < n ∧ qOp P ops C i (qHead P md ops C n L f (listed.setIfInBounds i true)) a
theorem any_of_qHead {n g : Nat} {L : Array Bool → Act → Prop} {Q' : Exit → Act → World → Prop} (hL : ∀ listed a w, C w → L listed a → wpAny P md ops Q' g listed a w) :
    ∀ (f : Nat) (listed : Array Bool) (a : Act) (w : World), C w → qHead P md ops C n L f listed a → wpAny P md ops Q' (f + g) listed a w := by
  intro f
  induction f with
  | zero => intro listed a w hw h; rw [Nat.zero_add]; exact hL _ _ _ hw h
  | succ f ih =>
    intro listed a w hw h
    rw [show f + 1 + g = (f + g) + 1 by omega]
    exact ⟨fun h0 => absurd h0 h.1, fun i hi => wpOp_of_qOp hw (fun a' w' hw' h' => ih _ a' w' hw' h') (h.2 i hi).2⟩
theorem qHead_first {n i : Nat} {oi : Oper} {v : Value} {L : Array Bool → Act → Prop} (hi : ops[i]? = some oi) (hsel : ∀ (j : Nat) (o : Oper) cs b, ops[j]? = some o → o.op ≠ .select cs b)
    (hs : Region.sinkB md ops n = true) (hc : Region.chainB md ops n = true) (hn : n < ops.size) (hin : i < n)
    (hdone : ∀ listed a, L listed a → ∀ j ∈ Region.ready md ops listed, n ≤ j) :
    ∀ (f : Nat) (listed : Array Bool) (a : Act), HeadInv md ops n listed →
      (∀ j oj, ops[j]? = some oj → j ≠ i → listed.getD j true = false → (∀ e ∈ oj.after, Region.binds md e = true → e.on ≠ i) → oi.apart ops oj = true) →
      i ∈ Region.ready md ops listed → YieldsIn P ops C oi v a →
      qHead P md ops C n L f (listed.setIfInBounds i true) (a.put oi.dst v) → qHead P md ops C n L (f + 1) listed a := by
  intro f
  induction f with
  | zero =>
    intro listed a inv _ hr hy H
    refine ⟨fun h => (by rw [h] at hr; cases hr), fun j hj => ?_⟩
    have hjn : j < n := Nat.lt_of_not_le fun h => tail_waits hs hc hn inv _ i rfl hin (mem_ready.1 hr).1 j h hj
    refine ⟨hjn, ?_⟩
    by_cases hji : j = i
    · subst hji; exact hy.qOp hi H
    · have := hdone _ _ H j (ready_mono hj hji)
      omega
  | succ f ih =>
    intro listed a inv hfree hr hy H
    have hun := (mem_ready.1 hr).1
    refine ⟨fun h => (by rw [h] at hr; cases hr), fun j hj => ?_⟩
    have hjn : j < n := Nat.lt_of_not_le fun h => tail_waits hs hc hn inv _ i rfl hin hun j h hj
    refine ⟨hjn, ?_⟩
    by_cases hji : j = i
    · subst hji; exact hy.qOp hi H
    · have h1 := (H.2 j (ready_mono hj hji)).2
      obtain ⟨hjun, oj, hoj, hall⟩ := mem_ready.1 hj
      have hnot : ∀ e ∈ oj.after, Region.binds md e = true → e.on ≠ i := fun e he hb heq => by
        have h3 := hall e he hb
        rw [heq, getD_both hun] at h3
        cases h3
      have h2 := qOp_put hoj (hfree j oj hoj hji hjun hnot) (fun cs b => hsel i oi cs b hi) (fun cs b => hsel j oj cs b hoj) hy h1
      refine qOp_mono (fun a' h3 => ih (listed.setIfInBounds j true) a' (inv.set hj hjn) (fun k ok hk hki hun' hno => hfree k ok hk hki ?_ hno) (ready_mono hr (Ne.symm hji)) h3.1 ?_) h2
      · by_cases hjk : j = k
        · subst hjk; exact hjun
        · rwa [getD_set_ne true hjk] at hun'
      · rw [Array.setIfInBounds_comm _ _ hji]
        exact h3.2
theorem qHead_lex {n g : Nat} {Lq : Act → Prop} (hsel : Region.noSelect ops = true) (hs : Region.sinkB md ops n = true) (hc : Region.chainB md ops n = true) (hn : n < ops.size) :
    ∀ (l : List Oper) (k : Nat) (listed : Array Bool) (a : Act), (∀ j, j < l.length → l[j]? = ops[k + j]?) → k + l.length = n → HeadInv md ops n listed →
    Region.lexHead md ops g l.length k listed = true → wpQuiet P ops C Lq l a →
    qHead P md ops C n (fun listed' a' => Region.seqB md ops g n listed' = true ∧ Lq a') l.length listed a := by
  intro l
  induction l with
  | nil =>
    intro k listed a _ hk _ hB h
    obtain rfl : k = n := by simpa using hk
    exact ⟨by simpa [Region.lexHead] using hB, h⟩
  | cons o l ih =>
    intro k listed a hl hk inv hB h
    have h0 : ops[k]? = some o := by simpa using (hl 0 (by simp)).symm
    simp only [List.length_cons, Region.lexHead, Bool.and_eq_true] at hB
    obtain ⟨⟨hr, hf⟩, hB'⟩ := hB
    rw [List.length_cons] at hk
    have hkn : k < n := by omega
    have hr' : k ∈ Region.ready md ops listed := by simpa using hr
    have hst : qOp P ops C k (wpQuiet P ops C Lq l) a := by unfold qOp; simp only [h0]; exact h
    obtain ⟨v, hy, hK⟩ := yieldsIn_of_qOp h0 hst
    refine qHead_first h0 (Region.noSelect_spec hsel) hs hc hn hkn (fun listed' a' hL => seqB_ready hL.1) l.length listed a inv (Region.free_spec h0 hf) hr' hy ?_
    refine ih (k + 1) _ _ (fun j hj => ?_) (by omega) (inv.set hr' hkn) hB' hK
    have := hl (j + 1) (by simp; omega)
    simpa [Nat.add_assoc, Nat.add_comm 1 j] using this
/-- All but the operations from n on are quiet; those come last, in their order, from whichever world of the class. -/
theorem wp_region_quiet_tail {id : Nat} {Q : Exit → Act → World → Prop} {a : Act} {w : World} {l : List Oper} (n : Nat) (hm : P.follows .mixedOrders = true) (hB : Region.lexTailB .any l.toArray n = true) (hC : C w.drew)
    (h : wpQuiet P l.toArray C (fun a' => ∀ w', C w' → wpList P l.toArray Q (l.drop n) a' w') (l.take n) a) : (Code.region id l.toArray true).wp P Q a w := by
  simp only [Region.lexTailB, Bool.and_eq_true, decide_eq_true_eq] at hB
  obtain ⟨⟨⟨⟨hsel, hn⟩, hs⟩, hc⟩, hlex⟩ := hB
  have hn' : n < l.length := by simpa using hn
  have htl : (l.take n).length = n := by simp; omega
  have hdl : (l.drop n).length = l.toArray.size - n := by simp
  have inv0 : HeadInv .any l.toArray n (Array.replicate l.toArray.size false) :=
    ⟨by simp, fun j oj _ hl => (by rw [getD_replicate_false] at hl; cases hl), fun t _ ht => getD_in (by simpa using ht) (getD_replicate_false _ _)⟩
  have H := qHead_lex (P := P) (C := C) (md := .any) (g := l.toArray.size - n) hsel hs hc hn (l.take n) 0 (Array.replicate l.toArray.size false) a (fun j hj => by
    have hj' : j < n := by rw [htl] at hj; exact hj
    simp [hj']) (by simpa using htl) inv0 (by rw [htl]; exact hlex) h
  refine wp_region_any hm ?_
  have := any_of_qHead (Q' := Q) (g := l.toArray.size - n) (fun listed a' w' hw' hL => by
    have := wpAny_of_seq (md := .any) (Q' := Q) (l.drop n) n listed a' w' (fun j => by simp [List.getElem?_drop]) (by rw [hdl]; exact hL.1) (hL.2 w' hw')
    rwa [hdl] at this) _ _ _ _ hC H
  rw [htl, show n + (l.toArray.size - n) = l.toArray.size by omega] at this
  exact this
end
theorem wp_region_under_tail {P : Program} {id : Nat} {Q : Exit → Act → World → Prop} {a : Act} {w : World} {l : List Oper} (n : Nat) (hm : P.follows .mixedOrders = true) (hB : Region.lexTailB .any l.toArray n = true)
    (h : wpQuiet P l.toArray (fun w' => ∃ p : UP, w' = under w p) (fun a' => ∀ w', (∃ p : UP, w' = under w p) → wpList P l.toArray Q (l.drop n) a' w') (l.take n) a) : (Code.region id l.toArray true).wp P Q a w :=
  wp_region_quiet_tail (C := fun w' => ∃ p : UP, w' = under w p) n hm hB ⟨_, under_drew w⟩ h
end Go.Proofs.YtblbgafadadbmaaGreat
end
section
/- What the form says of int, for slices that are made. -/
namespace Go.Proofs.YtblbgafadadbmaaGreat
theorem Tryz.infoI64 : (Tryz.prog.info? 3).map (fun i => (i.zero, i.size, i.bytes)) = some (some (.int .i64 0), 1, 8) := by kernel_rfl
end Go.Proofs.YtblbgafadadbmaaGreat
end
