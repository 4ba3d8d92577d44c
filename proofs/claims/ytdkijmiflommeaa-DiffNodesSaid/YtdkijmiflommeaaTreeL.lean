/- The law's Made: the nodes that may stand, one behind the other. -/
import Derived.Test.YtdkijmiflommeaaTreeK
import Derived.Test.YtdkijmiflommeaaTreeI
set_option linter.unusedVariables false
namespace Go.Proofs.Ytdkijmiflommeaa
open Go.RowKit
set_option maxHeartbeats 4000000
set_option maxRecDepth 100000
def addOk (acc : List Nd) (x : Nd) : List Nd := if whyC x acc = 0 then acc ++ [x] else acc
def made (l : List Nd) : List Nd := l.foldl addOk []
def Tall (l : List Nd) : Prop := ∀ j, j < l.length → okAt l j
theorem made_take (l : List Nd) (k : Nat) (h : k < l.length) : made (l.take (k + 1)) = addOk (made (l.take k)) (l.getD k nd0) := by
  unfold made
  rw [take_snocN l k h, List.foldl_append]; rfl
theorem tall_add (acc : List Nd) (x : Nd) (h : Tall acc) : Tall (addOk acc x) := by
  unfold addOk
  split
  · rename_i hw
    intro j hj
    rw [List.length_append, List.length_singleton] at hj
    unfold okAt
    rcases Nat.lt_or_ge j acc.length with h1 | h1
    · rw [getD_left _ _ _ h1, List.take_append_of_le_length (by omega)]
      exact h j h1
    · obtain rfl : j = acc.length := by omega
      rw [getD_last, List.take_left']
      · exact hw
      · rfl
  · exact h
theorem fold_tall (l acc : List Nd) (h : Tall acc) : Tall (l.foldl addOk acc) := by
  induction l generalizing acc with
  | nil => exact h
  | cons x l ih => exact ih _ (tall_add acc x h)
theorem made_tall (l : List Nd) : Tall (made l) := fold_tall l [] (fun j hj => absurd hj (Nat.not_lt_zero _))
theorem fold_mem (l acc : List Nd) : ∀ x ∈ l.foldl addOk acc, x ∈ acc ∨ x ∈ l := by
  induction l generalizing acc with
  | nil => intro x hx; exact .inl hx
  | cons y l ih =>
    intro x hx
    rcases ih _ x hx with h | h
    · unfold addOk at h
      split at h
      · rcases List.mem_append.1 h with h | h
        · exact .inl h
        · rw [List.mem_singleton] at h; subst h; exact .inr (List.mem_cons_self ..)
      · exact .inl h
    · exact .inr (List.mem_cons_of_mem _ h)
theorem made_mem (l : List Nd) : ∀ x ∈ made l, x ∈ l := fun x hx => by
  rcases fold_mem l [] x hx with h | h
  · cases h
  · exact h
theorem fold_len (l acc : List Nd) : (l.foldl addOk acc).length ≤ acc.length + l.length := by
  induction l generalizing acc with
  | nil => simp
  | cons y l ih =>
    refine Nat.le_trans (ih _) ?_
    have : (addOk acc y).length ≤ acc.length + 1 := by unfold addOk; split <;> simp
    rw [List.length_cons]; omega
theorem made_len (l : List Nd) : (made l).length ≤ l.length := by have := fold_len l []; simp only [List.length_nil, Nat.zero_add] at this; exact this
theorem tall_rises {l : List Nd} (h : Tall l) : Rises l := fun j hj => (ok_above hj (h j hj)).1
theorem law_Made (w : World) (A : Option Addr) (n0 c : Nat) (l0 : List Nd) (hl0 : IsNodes w A n0 c l0) :
    Calls Try.prog 22 #[.slice A n0 c] w fun e w' => ∃ b A' c', e = .returned (.tuple #[.pointer (some ⟨b, 0, none⟩), .slice A' (made (l0.take 60)).length c']) ∧ TR w' b (made (l0.take 60)) ∧ IsNodes w' A' (made (l0.take 60)).length c' (made (l0.take 60)) ∧ Below w.heap.size w w' := by
  have hl := hl0.cut (k := min n0 60) (by omega)
  have h60 : min n0 60 ≤ 60 := by omega
  have hF := fun w => law_Few A n0 c hl0.cap hl0.small w
  have htk : l0.take 60 = l0.take (min n0 60) := by
    rcases Nat.le_total n0 60 with h | h
    · rw [Nat.min_eq_left h, List.take_of_length_le (by rw [hl0.len]; exact h), List.take_of_length_le (by rw [hl0.len]; exact Nat.le_refl _)]
    · rw [Nat.min_eq_right h]
  rw [htk]
  generalize min n0 60 = n at hl hF h60
  generalize l0.take n = l at hl
  clear hl0 htk l0
  have hcap := hl.cap
  have hsm := hl.small
  have hlen := Lib.hid hl.len
  obtain ⟨iN, hiN, hzN, hzN1, hzN2⟩ := info_parts Try.infoNode
  obtain ⟨M, hM⟩ : ∃ M, M = made l := ⟨_, rfl⟩
  rw [← hM]
  have HM := Lib.hid hM
  clear hM
  go_enter Try.func22, Try.ntmps22
  go_wp2_with fail
  refine (hF _).mono ?_; rintro e w' ⟨rfl, rfl⟩
  clear hF
  go_wp2_with fail
  go_loopg [4, 5] n (fun gg s4 s5 wr => ∃ (i : Nat) (acc : List Nd), i ≤ n ∧ gg = n - i ∧ s5 = .int .i64 i ∧ wr.ownsRow w.heap.size 34 7 s4 acc.length (flat acc) ∧ Below w.heap.size w wr ∧ Hid (acc = made (l.take i)))
  case atStart => exact ⟨0, [], Nat.zero_le _, rfl, rfl, World.ownsRow_nil _ _ _ _, Below.refl _ _, Lib.hid rfl⟩
  case round =>
    obtain ⟨i, acc, hi, rfl, rfl, hown, hW, HA⟩ := hrel
    have hal : acc.length ≤ 60 := by
      rw [HA.out]
      refine Nat.le_trans (made_len _) ?_
      rw [List.length_take]; omega
    have hawf := Lib.hid (show ∀ x ∈ acc, x.Wf from fun x hx => hl.wf x (List.mem_of_mem_take (made_mem _ x (by rw [← HA.out]; exact hx))))
    have hown2 := hown
    obtain ⟨AI, cI, rfl, hI, _⟩ := own_nodes hown hawf.out (by omega)
    by_cases hin : i < n
    · obtain ⟨ad, rfl, hbk, d0, d1, d2, d3, d4, d5, d6⟩ := (hl.keep hW).at_ hin
      have hii : (i : Int) < (n : Int) := by omega
      have hxw := hl.wfd i
      have HT := Lib.hid (made_take l i (by rw [hlen.out]; exact hin))
      obtain ⟨x, hxx⟩ : ∃ x, x = l.getD i nd0 := ⟨_, rfl⟩
      rw [← hxx] at d0 d1 d2 d3 d4 d5 d6 hxw HT
      have HX := Lib.hid hxx
      clear hxx
      go_wp2_with fail
      refine (law_why x hxw AI _ cI acc _ hI).mono ?_; rintro e w5 ⟨rfl, hx5⟩
      have hW5 := below_step hW hx5
      have hown5 := own_keep hown2 hx5
      have hl5 := (hl.keep hW).keep hx5
      obtain ⟨ad', e', _, d0', d1', d2', d3', d4', d5', d6'⟩ := hl5.at_ hin
      obtain rfl : ad' = ad := by injection e' with e'; exact e'.symm
      rw [← HX.out] at d0' d1' d2' d3' d4' d5' d6'
      by_cases hw0 : whyC x acc = 0
      · have g1 : (whyC x acc == 0) = true := by rw [beq_iff_eq]; exact hw0
        have HE := Lib.hid (show acc ++ [x] = made (l.take (i + 1)) by rw [HT.out, ← HA.out]; unfold addOk; rw [if_pos hw0])
        clear HT HA hw0 hown hown2 hW hx5 d0 d1 d2 d3 d4 d5 d6
        generalize whyC x acc = W0 at *
        go_wp2_with (at_builtin; go_loud (refine wpList_append_any _ rfl (.tmp 24) (.tmp 29) _ rfl w.heap.size 34 iN _ 7 64 Try.underlying22 hiN hzN hzN1 hzN2 rfl (by decide) _ _ (flat acc) rfl (hown5.alloc _) _ (some ⟨w5.heap.size, 0, none⟩) 1 1 (Nd.cells x) rfl (one_reads w5 34 7 (Nd.cells x) rfl) (cells_one _) (by simp only [maxLen]; omega) (by omega) (by have := hW5.size; simp; omega) ?_; intro v6 w6 hown6 hg6 hat6))
        have hW6 := push_below (hW5.alloc hW5.size _) hg6 (own_from hown5)
        go_wp2
        go_roundg (n - (i + 1))
        case measure => omega
        case rel => exact ⟨i + 1, acc ++ [x], by omega, rfl, by go_num, by rw [List.length_append, List.length_singleton, flat_snoc]; exact hown6, hW6, HE⟩
      · have g1 : (whyC x acc == 0) = false := by rw [beq_eq_false_iff_ne]; exact hw0
        have HE := Lib.hid (show acc = made (l.take (i + 1)) by rw [HT.out, ← HA.out]; unfold addOk; rw [if_neg hw0])
        clear HT HA hw0 hown hown2 hW hx5
        generalize whyC x acc = W0 at *
        go_wp2
        go_roundg (n - (i + 1))
        case measure => omega
        case rel => exact ⟨i + 1, acc, by omega, rfl, by go_num, hown5, hW5, HE⟩
    · obtain rfl : i = n := by omega
      have HE := Lib.hid (show acc = M by rw [HA.out, HM.out, List.take_of_length_le (by rw [hlen.out]; exact Nat.le_refl _)])
      have hel := HE.out
      subst hel
      have HTall := Lib.hid (show Tall acc by rw [HM.out]; exact made_tall l)
      go_wp2_with fail
      refine (tree_New AI _ cI acc _ hI).mono ?_; rintro e w5 ⟨hN, hx5⟩
      rcases hN with ⟨kf, hkf, hok, hbad, rfl⟩ | ⟨hok, b, hb, rfl, hT⟩
      · exact absurd (HTall.out kf hkf) hbad
      · go_wp2
        go_ret2
        exact ⟨b, AI, cI, rfl, hT.reads hawf.out (by omega), hI.keep hx5, below_step hW hx5⟩
end Go.Proofs.Ytdkijmiflommeaa
