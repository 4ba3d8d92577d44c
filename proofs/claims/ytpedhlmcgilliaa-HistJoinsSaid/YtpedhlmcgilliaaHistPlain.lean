/- Numbers sorted by counting those ahead of each, and what buckets tell of them; in plain Lean. -/
import Derived.WalkKit
set_option linter.unusedVariables false
namespace Go.Proofs.Ytpedhlmcgilliaa
def Rising (s : List Int) : Prop := s.Pairwise (· ≤ ·)
/-- In a rising list those that a falling property holds of come first. -/
theorem rising_at {p : Int → Bool} (hp : ∀ x y, x ≤ y → p y = true → p x = true) : ∀ (s : List Int), Rising s → ∀ r, r < s.length → (p (s.getD r 0) = true ↔ r < s.countP p)
  | [], _, r, h => by simp at h
  | a :: t, hs, r, h => by
    have hs' := List.pairwise_cons.1 hs
    by_cases ha : p a = true
    · rw [List.countP_cons_of_pos ha]
      cases r with
      | zero => simp [ha]
      | succ r =>
        have := rising_at hp t hs'.2 r (by simpa using h)
        simp only [List.getD_cons_succ]
        rw [this]
        omega
    · have h0 : (a :: t).countP p = 0 := by
        rw [List.countP_eq_zero]
        intro x hx
        rcases List.mem_cons.1 hx with rfl | hx
        · exact ha
        · intro hpx
          exact ha (hp _ _ (hs'.1 x hx) hpx)
      rw [h0]
      constructor
      · intro hpr
        exfalso
        cases r with
        | zero => exact ha (by simpa using hpr)
        | succ r =>
          simp only [List.getD_cons_succ] at hpr
          have hm : t.getD r 0 ∈ t := by
            rw [List.getD_eq_getElem?_getD, List.getElem?_eq_getElem (by simpa using h)]
            exact List.getElem_mem _
          exact ha (hp _ _ (hs'.1 _ hm) hpr)
      · intro hr; omega
def srt (l : List Int) : List Int := l.mergeSort (fun a b => decide (a ≤ b))
theorem srt_perm (l : List Int) : (srt l).Perm l := List.mergeSort_perm l _
theorem srt_len (l : List Int) : (srt l).length = l.length := (srt_perm l).length_eq
theorem srt_rising (l : List Int) : Rising (srt l) := by
  have := List.pairwise_mergeSort (le := fun a b : Int => decide (a ≤ b)) (fun a b c h1 h2 => by simp at *; omega) (fun a b => by simp; omega) l
  exact this.imp (fun h => by simpa using h)
theorem srt_count (l : List Int) (p : Int → Bool) : (srt l).countP p = l.countP p := (srt_perm l).countP_eq p
theorem srt_at (l : List Int) (v : Int) (r : Nat) (h1 : l.countP (fun x => decide (x < v)) ≤ r) (h2 : r < l.countP (fun x => decide (x ≤ v))) : (srt l).getD r 0 = v := by
  have hl : r < (srt l).length := by
    have := List.countP_le_length (p := fun x => decide (x ≤ v)) (l := l)
    rw [srt_len]; omega
  have a := rising_at (p := fun x => decide (x < v)) (fun x y h1 h2 => by simp at *; omega) _ (srt_rising l) r hl
  have b := rising_at (p := fun x => decide (x ≤ v)) (fun x y h1 h2 => by simp at *; omega) _ (srt_rising l) r hl
  rw [srt_count] at a b
  simp only [decide_eq_true_eq] at a b
  omega
/-- How many of the first j go ahead of the i-th. -/
def rankTo (l : List Int) (i : Nat) : Nat → Nat
  | 0 => 0
  | j + 1 => rankTo l i j + if l.getD j 0 < l.getD i 0 ∨ (l.getD j 0 = l.getD i 0 ∧ j < i) then 1 else 0
theorem take_snoc_getD (l : List Int) (j : Nat) (h : j < l.length) : l.take (j + 1) = l.take j ++ [l.getD j 0] := by
  rw [List.take_succ_eq_append_getElem h, List.getD_eq_getElem?_getD, List.getElem?_eq_getElem h]; rfl
theorem rank_eq (l : List Int) (i : Nat) (hi : i < l.length) : ∀ j, j ≤ l.length → rankTo l i j = (l.take j).countP (fun x => decide (x < l.getD i 0)) + (l.take (min i j)).countP (fun x => x == l.getD i 0)
  | 0, _ => by simp [rankTo]
  | j + 1, h => by
    have ih := rank_eq l i hi j (by omega)
    rw [rankTo, ih, take_snoc_getD l j (by omega), List.countP_append]
    by_cases hji : j < i
    · rw [show min i (j + 1) = j + 1 by omega, show min i j = j by omega, take_snoc_getD l j (by omega), List.countP_append]
      simp only [List.countP_singleton]
      split <;> rename_i g <;> (repeat' split) <;> simp_all <;> omega
    · rw [show min i (j + 1) = i by omega, show min i j = i by omega]
      simp only [List.countP_singleton]
      split <;> rename_i g <;> (repeat' split) <;> simp_all <;> omega
def rankOf (l : List Int) (i : Nat) : Nat := rankTo l i l.length
theorem rankOf_eq (l : List Int) (i : Nat) (hi : i < l.length) : rankOf l i = l.countP (fun x => decide (x < l.getD i 0)) + (l.take i).countP (fun x => x == l.getD i 0) := by
  unfold rankOf
  rw [rank_eq l i hi _ (Nat.le_refl _), List.take_length, Nat.min_eq_left (by omega)]
theorem count_le (l : List Int) (v : Int) : l.countP (fun x => decide (x ≤ v)) = l.countP (fun x => decide (x < v)) + l.countP (fun x => x == v) := by
  induction l with
  | nil => rfl
  | cons a t ih =>
    simp only [List.countP_cons, ih]
    (repeat' split) <;> simp_all <;> omega
theorem count_take_lt (l : List Int) (p : Int → Bool) (i : Nat) (hi : i < l.length) (h : p (l.getD i 0) = true) : (l.take i).countP p < l.countP p := by
  have e : l = l.take (i + 1) ++ l.drop (i + 1) := (List.take_append_drop _ _).symm
  have h2 := congrArg (List.countP p) e
  rw [List.countP_append, take_snoc_getD l i hi, List.countP_append, List.countP_singleton, if_pos h] at h2
  omega
theorem rank_at (l : List Int) (i : Nat) (hi : i < l.length) : (srt l).getD (rankOf l i) 0 = l.getD i 0 ∧ rankOf l i < l.length := by
  have h1 := rankOf_eq l i hi
  have h2 := count_take_lt l (fun x => x == l.getD i 0) i hi (by simp)
  have h3 := count_le l (l.getD i 0)
  have h4 := List.countP_le_length (p := fun x => decide (x ≤ l.getD i 0)) (l := l)
  exact ⟨srt_at l _ _ (by omega) (by omega), by omega⟩
theorem nth_of (p : Int → Bool) : ∀ (l : List Int) (t : Nat), t < l.countP p → ∃ i, i < l.length ∧ p (l.getD i 0) = true ∧ (l.take i).countP p = t
  | [], t, h => by simp at h
  | a :: l, t, h => by
    by_cases ha : p a = true
    · rw [List.countP_cons_of_pos ha] at h
      cases t with
      | zero => exact ⟨0, by simp, by simpa using ha, by simp⟩
      | succ t =>
        obtain ⟨i, h1, h2, h3⟩ := nth_of p l t (by omega)
        exact ⟨i + 1, by simpa using h1, by simpa using h2, by rw [List.take_succ_cons, List.countP_cons_of_pos ha, h3]⟩
    · rw [List.countP_cons_of_neg ha] at h
      obtain ⟨i, h1, h2, h3⟩ := nth_of p l t h
      exact ⟨i + 1, by simpa using h1, by simpa using h2, by rw [List.take_succ_cons, List.countP_cons_of_neg ha, h3]⟩
/-- Each place is some number's. -/
theorem rank_onto (l : List Int) (r : Nat) (hr : r < l.length) : ∃ i, i < l.length ∧ rankOf l i = r := by
  have hl : r < (srt l).length := by rw [srt_len]; exact hr
  obtain ⟨v, hv⟩ : ∃ v, v = (srt l).getD r 0 := ⟨_, rfl⟩
  have a := rising_at (p := fun x => decide (x < v)) (fun x y h1 h2 => by simp at *; omega) _ (srt_rising l) r hl
  have b := rising_at (p := fun x => decide (x ≤ v)) (fun x y h1 h2 => by simp at *; omega) _ (srt_rising l) r hl
  rw [srt_count, ← hv] at a b
  simp only [decide_eq_true_eq] at a b
  have c := count_le l v
  obtain ⟨i, h1, h2, h3⟩ := nth_of (fun x => x == v) l (r - l.countP (fun x => decide (x < v))) (by omega)
  have e : l.getD i 0 = v := by simpa using h2
  refine ⟨i, h1, ?_⟩
  rw [rankOf_eq l i h1, e, h3]
  omega
/-- What stands in the new row as the first i are laid. -/
def laidRow (l : List Int) (i : Nat) (j : Nat) : Int := if (List.range i).any (fun i' => rankOf l i' == j) then (srt l).getD j 0 else 0
theorem laid_zero (l : List Int) (j : Nat) : laidRow l 0 j = 0 := by simp [laidRow]
theorem laid_succ (l : List Int) (i : Nat) (hi : i < l.length) (j : Nat) : laidRow l (i + 1) j = if j = rankOf l i then l.getD i 0 else laidRow l i j := by
  unfold laidRow
  rw [List.range_succ, List.any_append]
  by_cases h : j = rankOf l i
  · subst h
    rw [if_pos rfl, (rank_at l i hi).1]
    simp
  · have : (rankOf l i == j) = false := by simp; omega
    simp [this, h]
theorem laid_all (l : List Int) (j : Nat) (hj : j < l.length) : laidRow l l.length j = (srt l).getD j 0 := by
  unfold laidRow
  rw [if_pos]
  obtain ⟨i, h1, h2⟩ := rank_onto l j hj
  rw [List.any_eq_true]
  exact ⟨i, by simpa using h1, by simpa using h2⟩
/-! Sums, ends. -/
theorem perm_sum {a b : List Int} (h : a.Perm b) : a.sum = b.sum := by
  induction h with
  | nil => rfl
  | cons x _ ih => simp [ih]
  | swap x y l => simp; omega
  | trans _ _ h1 h2 => exact h1.trans h2
theorem srt_sum (l : List Int) : (srt l).sum = l.sum := perm_sum (srt_perm l)
theorem srt_first (l : List Int) (m : Int) (hm : m ∈ l) (h : ∀ x ∈ l, m ≤ x) : (srt l).getD 0 0 = m := by
  have h0 : l.countP (fun x => decide (x < m)) = 0 := by
    rw [List.countP_eq_zero]; intro x hx; have := h x hx; simp; omega
  refine srt_at l m 0 (by omega) ?_
  rw [List.countP_pos_iff]
  exact ⟨m, hm, by simp⟩
theorem srt_last (l : List Int) (m : Int) (hm : m ∈ l) (h : ∀ x ∈ l, x ≤ m) : (srt l).getD (l.length - 1) 0 = m := by
  have hl : 0 < l.length := List.length_pos_of_mem hm
  have h1 : l.countP (fun x => decide (x ≤ m)) = l.length := by
    rw [List.countP_eq_length]; intro x hx; have := h x hx; simpa using this
  have h2 : l.countP (fun x => decide (x < m)) < l.length := by
    have h3 := count_le l m
    have h4 : 0 < l.countP (fun x => x == m) := by rw [List.countP_pos_iff]; exact ⟨m, hm, by simp⟩
    omega
  exact srt_at l m _ (by omega) (by omega)
end Go.Proofs.Ytpedhlmcgilliaa
