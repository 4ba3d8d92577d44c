/- Which level a number draws: the plain law. -/
import Derived.Test.YtonbmcgfbbpnkaaNum
set_option linter.unusedVariables false
namespace Go.Proofs.Ytonbmcgfbbpnkaa
def pos (x : Int) : Int := if x < 0 then 0 else x
theorem pos_nn (x : Int) : 0 ≤ pos x := by unfold pos; split <;> omega
/-- What the first k levels get together. -/
def pre (l : List Int) : Nat → Int
  | 0 => 0
  | k + 1 => pre l k + pos (l.getD k 0)
theorem pre_mono (l : List Int) {i n : Nat} (h : i ≤ n) : pre l i ≤ pre l n := by
  induction n with
  | zero => obtain rfl : i = 0 := (by omega); exact Int.le_refl _
  | succ n ih =>
    by_cases e : i = n + 1
    · subst e; exact Int.le_refl _
    · have := ih (by omega)
      have := pos_nn (l.getD n 0)
      rw [pre]
      omega
theorem pre_nn (l : List Int) (k : Nat) : 0 ≤ pre l k := pre_mono l (Nat.zero_le k)
/-- The level, of the first k, that d draws. -/
def wantTo (l : List Int) (d : Int) : Nat → Int
  | 0 => -1
  | k + 1 => if pre l k ≤ d ∧ d < pre l (k + 1) then k else wantTo l d k
theorem want_spec (l : List Int) (d : Int) : ∀ k, (wantTo l d k = -1 ∧ (d < 0 ∨ pre l k ≤ d)) ∨ (∃ i : Nat, i < k ∧ wantTo l d k = i ∧ pre l i ≤ d ∧ d < pre l (i + 1))
  | 0 => .inl ⟨rfl, by
      rcases Int.lt_or_le d 0 with h | h
      · exact .inl h
      · exact .inr h⟩
  | k + 1 => by
    by_cases h : pre l k ≤ d ∧ d < pre l (k + 1)
    · right
      exact ⟨k, by omega, by rw [wantTo, if_pos h], h.1, h.2⟩
    · rcases want_spec l d k with ⟨h1, h2⟩ | ⟨i, hi, h1, h2, h3⟩
      · left
        refine ⟨by rw [wantTo, if_neg h]; exact h1, ?_⟩
        rcases h2 with h2 | h2
        · exact .inl h2
        · exact .inr (by omega)
      · right
        exact ⟨i, by omega, by rw [wantTo, if_neg h]; exact h1, h2, h3⟩
theorem want_hit {l : List Int} {d : Int} {i n : Nat} (hi : i < n) (h1 : pre l i ≤ d) (h2 : d < pre l (i + 1)) : wantTo l d n = i := by
  rcases want_spec l d n with ⟨_, h | h⟩ | ⟨j, hj, e, h3, h4⟩
  · have := pre_nn l i; omega
  · have := pre_mono l (show i + 1 ≤ n by omega); omega
  · rw [e]
    rcases Nat.lt_trichotomy i j with h | h | h
    · have := pre_mono l (show i + 1 ≤ j by omega); omega
    · rw [h]
    · have := pre_mono l (show j + 1 ≤ i by omega); omega
theorem want_none {l : List Int} {d : Int} {n : Nat} (h : d < 0 ∨ pre l n ≤ d) : wantTo l d n = -1 := by
  rcases want_spec l d n with ⟨e, _⟩ | ⟨j, hj, e, h3, h4⟩
  · exact e
  · have := pre_nn l j
    have := pre_mono l (show j + 1 ≤ n by omega)
    omega
/-- How many of the draws below d tell level i. -/
def cntI (l : List Int) (i : Nat) (d : Int) : Int := if d ≤ pre l i then 0 else if pre l (i + 1) < d then pos (l.getD i 0) else d - pre l i
theorem cnt_next {l : List Int} {i n : Nat} {d : Int} (hi : i < n) (d0 : 0 ≤ d) (d1 : d < pre l n) : cntI l i (d + 1) = if (i : Int) = wantTo l d n then cntI l i d + 1 else cntI l i d := by
  have e : pre l (i + 1) = pre l i + pos (l.getD i 0) := rfl
  have hp := pos_nn (l.getD i 0)
  by_cases h : pre l i ≤ d ∧ d < pre l (i + 1)
  · rw [want_hit hi h.1 h.2, if_pos rfl]
    unfold cntI
    (repeat' split) <;> omega
  · have hne : ¬ (i : Int) = wantTo l d n := by
      intro hh
      rcases want_spec l d n with ⟨e2, _⟩ | ⟨j, hj, e2, h3, h4⟩
      · omega
      · have : i = j := by omega
        subst this
        exact h ⟨h3, h4⟩
    rw [if_neg hne]
    unfold cntI
    (repeat' split) <;> omega
theorem cnt_zero (l : List Int) (i : Nat) : cntI l i 0 = 0 := by
  unfold cntI
  rw [if_pos (pre_nn l i)]
theorem cnt_all {l : List Int} {i n : Nat} (hi : i < n) : cntI l i (pre l n) = pos (l.getD i 0) := by
  have e : pre l (i + 1) = pre l i + pos (l.getD i 0) := rfl
  have := pre_mono l (show i + 1 ≤ n by omega)
  have hp := pos_nn (l.getD i 0)
  unfold cntI
  (repeat' split) <;> omega
theorem cnt_bd (l : List Int) (i : Nat) (d : Int) (h : 0 ≤ d) : 0 ≤ cntI l i d ∧ cntI l i d ≤ d := by
  have e : pre l (i + 1) = pre l i + pos (l.getD i 0) := rfl
  have := pre_nn l i
  have hp := pos_nn (l.getD i 0)
  unfold cntI
  (repeat' split) <;> omega
theorem pre_le (l : List Int) (h : ∀ k, l.getD k 0 ≤ 1048576) : ∀ k, pre l k ≤ 1048576 * k
  | 0 => by simp [pre]
  | k + 1 => by
    have h1 := pre_le l h k
    have h2 := h k
    have h3 : pos (l.getD k 0) ≤ 1048576 := by unfold pos; split <;> omega
    rw [pre]
    omega
end Go.Proofs.Ytonbmcgfbbpnkaa
