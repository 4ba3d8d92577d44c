/- Fractions: the least of some, the first of alike ones. -/
import Derived.Test.YtonbmcgfbbpnkaaWideH
set_option linter.unusedVariables false
namespace Go.Proofs.Ytonbmcgfbbpnkaa
/-- A fraction whose parts are not below 0. -/
def FN (a : Int × Int) : Prop := 0 ≤ a.1 ∧ 0 ≤ a.2
theorem fracI_anti (au ad bu bd : Int) : fracI bu bd au ad = -fracI au ad bu bd := by
  unfold fracI cmpI
  by_cases h1 : ad = 0 <;> by_cases h2 : bd = 0 <;> simp only [h1, h2, if_true, if_false, eq_self] <;> (repeat' split) <;> omega
theorem fracP_anti (a b : Int × Int) : fracP b a = -fracP a b := fracI_anti _ _ _ _
theorem fracI_bd (au ad bu bd : Int) : -1 ≤ fracI au ad bu bd ∧ fracI au ad bu bd ≤ 1 := by
  unfold fracI cmpI
  (repeat' split) <;> omega
theorem frac_lt {a b : Int × Int} : fracP a b < 0 ↔ a.2 ≠ 0 ∧ (b.2 = 0 ∨ a.1 * b.2 < b.1 * a.2) := by
  unfold fracP fracI cmpI
  by_cases h1 : a.2 = 0 <;> by_cases h2 : b.2 = 0 <;> simp only [h1, h2, if_true, if_false, eq_self] <;> (repeat' split) <;> simp_all <;> omega
theorem frac_le {a b : Int × Int} : fracP a b ≤ 0 ↔ b.2 = 0 ∨ (a.2 ≠ 0 ∧ a.1 * b.2 ≤ b.1 * a.2) := by
  unfold fracP fracI cmpI
  by_cases h1 : a.2 = 0 <;> by_cases h2 : b.2 = 0 <;> simp only [h1, h2, if_true, if_false, eq_self] <;> (repeat' split) <;> simp_all <;> omega
theorem frac_lt_le {x m j : Int × Int} (hx : FN x) (hm : FN m) (hj : FN j) (h1 : fracP x m < 0) (h2 : fracP m j ≤ 0) : fracP x j < 0 := by
  rw [frac_lt] at h1 ⊢
  rw [frac_le] at h2
  obtain ⟨x0, h1⟩ := h1
  refine ⟨x0, ?_⟩
  by_cases j0 : j.2 = 0
  · exact .inl j0
  · right
    obtain ⟨m0, h2⟩ := h2.resolve_left j0
    have h1 := h1.resolve_left m0
    have hx2 : 0 < x.2 := by have := hx.2; omega
    have hm2 : 0 < m.2 := by have := hm.2; omega
    have hj2 : 0 < j.2 := by have := hj.2; omega
    have a1 : x.1 * m.2 * j.2 < m.1 * x.2 * j.2 := Int.mul_lt_mul_of_pos_right h1 hj2
    have a2 : m.1 * j.2 * x.2 ≤ j.1 * m.2 * x.2 := Int.mul_le_mul_of_nonneg_right h2 (by omega)
    have e1 : x.1 * m.2 * j.2 = m.2 * (x.1 * j.2) := by rw [Int.mul_comm x.1, Int.mul_assoc]
    have e2 : m.1 * x.2 * j.2 = m.1 * j.2 * x.2 := by rw [Int.mul_assoc, Int.mul_comm x.2, ← Int.mul_assoc]
    have e3 : j.1 * m.2 * x.2 = m.2 * (j.1 * x.2) := by rw [Int.mul_comm j.1, Int.mul_assoc]
    exact Int.lt_of_mul_lt_mul_left (a := m.2) (by omega) (by omega)
/-- i is no worse than any of the first k, and better than those ahead of it. -/
def firstTo (l : List (Int × Int)) (i : Nat) : Nat → Bool
  | 0 => true
  | k + 1 => firstTo l i k && !(decide (fracP (l.getD k (0, 0)) (l.getD i (0, 0)) < 0) || (fracP (l.getD k (0, 0)) (l.getD i (0, 0)) == 0 && decide (k < i)))
theorem bad_iff (F : Int) (k i : Nat) : (!(decide (F < 0) || (F == 0 && decide (k < i)))) = true ↔ 0 ≤ F ∧ (k < i → 0 < F) := by
  rcases Int.lt_trichotomy F 0 with h | h | h
  · rw [decide_eq_true h]; simp; omega
  · subst h; simp
  · have h1 : decide (F < 0) = false := decide_eq_false (by omega)
    have h2 : (F == 0) = false := by simp; omega
    rw [h1, h2]; simp; omega
theorem firstTo_iff (l : List (Int × Int)) (i : Nat) : ∀ n, firstTo l i n = true ↔ ∀ k, k < n → 0 ≤ fracP (l.getD k (0, 0)) (l.getD i (0, 0)) ∧ (k < i → 0 < fracP (l.getD k (0, 0)) (l.getD i (0, 0)))
  | 0 => by simp [firstTo]
  | n + 1 => by
    rw [firstTo, Bool.and_eq_true, firstTo_iff l i n, bad_iff]
    constructor
    · rintro ⟨h, hn⟩ k hk
      by_cases e : k = n
      · subst e; exact hn
      · exact h k (by omega)
    · intro h
      exact ⟨fun k hk => h k (by omega), h n (by omega)⟩
/-- The place told at the end: the last one that is first. -/
def bestTo (l : List (Int × Int)) (n : Nat) : Nat → Int
  | 0 => -1
  | i + 1 => if firstTo l i n then i else bestTo l n i
theorem least_first (l : List (Int × Int)) (hl : ∀ k, FN (l.getD k (0, 0))) : ∀ n, 0 < n → firstTo l (leastTo l n).toNat n = true ∧ 0 ≤ leastTo l n ∧ leastTo l n < n := by
  intro n
  induction n with
  | zero => intro h; omega
  | succ n ih =>
    intro _
    have hb := leastTo_bd l n
    rcases Nat.eq_zero_or_pos n with h0 | h0
    · subst h0
      have e : leastTo l 1 = 0 := by unfold leastTo; rw [if_pos (by simp [leastTo])]; rfl
      rw [e]
      refine ⟨?_, by decide, by decide⟩
      rw [firstTo_iff]
      intro k hk
      obtain rfl : k = 0 := by omega
      have := fracP_anti (l.getD 0 (0, 0)) (l.getD 0 (0, 0))
      exact ⟨by simp only [Int.toNat_zero] at *; omega, fun h => by simp at h⟩
    · obtain ⟨hf, hm0, hm1⟩ := ih h0
      rw [firstTo_iff] at hf
      unfold leastTo
      rw [if_neg (by omega)]
      generalize hM : (leastTo l n).toNat = M at *
      by_cases hlt : fracP (l.getD n (0, 0)) (l.getD M (0, 0)) < 0
      · rw [if_pos hlt]
        refine ⟨?_, by omega, by omega⟩
        rw [firstTo_iff, Int.toNat_natCast]
        intro k hk
        have key : ∀ j, j < n → fracP (l.getD n (0, 0)) (l.getD j (0, 0)) < 0 := fun j hj => by
          have := (hf j hj).1
          have ha := fracP_anti (l.getD j (0, 0)) (l.getD M (0, 0))
          exact frac_lt_le (hl _) (hl _) (hl _) hlt (by omega)
        by_cases e : k = n
        · subst e
          have := fracP_anti (l.getD k (0, 0)) (l.getD k (0, 0))
          exact ⟨by omega, fun h => by omega⟩
        · have h1 := key k (by omega)
          have ha := fracP_anti (l.getD n (0, 0)) (l.getD k (0, 0))
          exact ⟨by omega, fun _ => by omega⟩
      · rw [if_neg hlt]
        refine ⟨?_, hm0, by omega⟩
        rw [hM, firstTo_iff]
        intro k hk
        by_cases e : k = n
        · subst e
          exact ⟨by omega, fun h => by omega⟩
        · exact hf k (by omega)
theorem first_unique (l : List (Int × Int)) (n i j : Nat) (hi : i < n) (hj : j < n) (h1 : firstTo l i n = true) (h2 : firstTo l j n = true) : i = j := by
  rw [firstTo_iff] at h1 h2
  rcases Nat.lt_trichotomy i j with h | h | h
  · have a := (h2 i hi).2 h
    have b := (h1 j hj).1
    have := fracP_anti (l.getD i (0, 0)) (l.getD j (0, 0))
    omega
  · exact h
  · have a := (h1 j hj).2 h
    have b := (h2 i hi).1
    have := fracP_anti (l.getD i (0, 0)) (l.getD j (0, 0))
    omega
theorem best_least (l : List (Int × Int)) (hl : ∀ k, FN (l.getD k (0, 0))) (n : Nat) : bestTo l n n = leastTo l n := by
  rcases Nat.eq_zero_or_pos n with h0 | h0
  · subst h0; rfl
  · obtain ⟨hf, h1, h2⟩ := least_first l hl n h0
    have key : ∀ i, i ≤ n → bestTo l n i = if (leastTo l n).toNat < i then leastTo l n else -1 := by
      intro i
      induction i with
      | zero => intro _; simp [bestTo]
      | succ i ih =>
        intro hi
        rw [bestTo, ih (by omega)]
        by_cases e : firstTo l i n = true
        · have := first_unique l n i _ (by omega) (by omega) e hf
          rw [if_pos e, if_pos (by omega)]
          omega
        · rw [if_neg e]
          have : i ≠ (leastTo l n).toNat := fun h => e (h ▸ hf)
          by_cases h : (leastTo l n).toNat < i
          · rw [if_pos h, if_pos (by omega)]
          · rw [if_neg h, if_neg (by omega)]
    rw [key n (Nat.le_refl _), if_pos (by omega)]
end Go.Proofs.Ytonbmcgfbbpnkaa
