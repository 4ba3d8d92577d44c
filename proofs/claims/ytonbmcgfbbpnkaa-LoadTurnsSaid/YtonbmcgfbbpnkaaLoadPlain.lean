/- How much goes to each level: the plain arithmetic. -/
import Derived.Test.YtonbmcgfbbpnkaaNum
set_option linter.unusedVariables false
namespace Go.Proofs.Ytonbmcgfbbpnkaa
/-- A level's health. -/
def hI (h a f : Int) : Int := if h < 1 ∨ a < 1 ∨ f < 1 then 0 else if 10000 < f * 100 * h / a then 10000 else f * 100 * h / a
theorem hI_bd (h a f : Int) : 0 ≤ hI h a f ∧ hI h a f ≤ 10000 := by
  unfold hI
  split
  · omega
  · split
    · omega
    · rename_i h1 h2
      have h3 : 0 ≤ f * 100 * h := Int.mul_nonneg (by omega) (by omega)
      have := Int.ediv_nonneg h3 (show 0 ≤ a by omega)
      omega
theorem hI_zero (a f : Int) : hI 0 a f = 0 := by unfold hI; rw [if_pos (.inl (by decide))]
theorem hI_full {h a f : Int} (h1 : 1 ≤ h) (a1 : 1 ≤ a) (hf : 100 * a ≤ f * h) (f1 : 1 ≤ f) : hI h a f = 10000 := by
  unfold hI
  rw [if_neg (by omega)]
  have e : f * 100 * h = 100 * (f * h) := by rw [Int.mul_comm f 100, Int.mul_assoc]
  have : 10000 ≤ f * 100 * h / a := by
    rw [Int.le_ediv_iff_mul_le (by omega), e]
    omega
  split <;> omega
/-- The document's loop: one more fits as long as .. -/
theorem hI_next {h a f n : Int} (h1 : 1 ≤ h) (a1 : 1 ≤ a) (f1 : 1 ≤ f) (hn : n < 10000) : (n + 1) * a ≤ f * 100 * h ↔ n < hI h a f := by
  have e : n + 1 ≤ f * 100 * h / a ↔ (n + 1) * a ≤ f * 100 * h := Int.le_ediv_iff_mul_le (by omega)
  unfold hI
  rw [if_neg (by omega)]
  split <;> omega
/-- The sum of the first k healths. -/
def hSum (H : Nat → Int) : Nat → Int
  | 0 => 0
  | k + 1 => hSum H k + H k
theorem hSum_bd (H : Nat → Int) (h : ∀ k, 0 ≤ H k ∧ H k ≤ 10000) : ∀ k, 0 ≤ hSum H k ∧ hSum H k ≤ 10000 * k
  | 0 => by simp [hSum]
  | k + 1 => by
    have := hSum_bd H h k
    have := h k
    rw [hSum]
    omega
/-- What is left behind the first k, and what the k-th gets. -/
def part (H : Nat → Int) (t : Int) (left : Int) (k : Nat) : Int := if 0 < t then (if left < H k * 10000 / t then left else H k * 10000 / t) else 0
def leftTo (H : Nat → Int) (t : Int) : Nat → Int
  | 0 => 10000
  | k + 1 => leftTo H t k - part H t (leftTo H t k) k
def got (H : Nat → Int) (t : Int) (k : Nat) : Int := part H t (leftTo H t k) k
section
variable {H : Nat → Int} (hH : ∀ k, 0 ≤ H k ∧ H k ≤ 10000) {t : Int} (ht : 0 ≤ t)
include hH ht
theorem part_bd (left : Int) (k : Nat) (h0 : 0 ≤ left) : 0 ≤ part H t left k ∧ part H t left k ≤ left := by
  unfold part
  split
  · have := (hH k).1
    have : 0 ≤ H k * 10000 / t := Int.ediv_nonneg (by omega) ht
    split <;> omega
  · omega
theorem left_bd : ∀ k, 0 ≤ leftTo H t k ∧ leftTo H t k ≤ 10000
  | 0 => by simp [leftTo]
  | k + 1 => by
    have h := left_bd k
    have := part_bd hH ht (leftTo H t k) k h.1
    rw [leftTo]
    omega
theorem got_bd (k : Nat) : 0 ≤ got H t k ∧ got H t k ≤ 10000 := by
  have h := left_bd hH ht k
  have := part_bd hH ht (leftTo H t k) k h.1
  unfold got
  omega
theorem got_zero {k : Nat} (h : H k = 0) : got H t k = 0 := by
  have hb := left_bd hH ht k
  unfold got part
  rw [h]
  split
  · rename_i h0
    rw [Int.zero_mul, Int.zero_ediv, if_neg (by omega)]
  · rfl
end
/-- With all of it told, what is left is what is not told. -/
theorem left_full {H : Nat → Int} (hH : ∀ k, 0 ≤ H k ∧ H k ≤ 10000) : ∀ k, leftTo H 10000 k = if 10000 < hSum H k then 0 else 10000 - hSum H k
  | 0 => by simp [leftTo, hSum]
  | k + 1 => by
    have h := left_full hH k
    have hk := hH k
    have e : H k * 10000 / 10000 = H k := Int.mul_ediv_cancel _ (by decide)
    rw [leftTo, part, if_pos (by decide), e, hSum, h]
    (repeat' split) <;> omega
theorem left_spent {H : Nat → Int} (hH : ∀ k, 0 ≤ H k ∧ H k ≤ 10000) {k : Nat} (h : 10000 ≤ hSum H k) : leftTo H 10000 k = 0 := by
  rw [left_full hH]
  split <;> omega
theorem left_none (H : Nat → Int) : ∀ k, leftTo H 0 k = 10000
  | 0 => rfl
  | k + 1 => by rw [leftTo, left_none H k]; rfl
theorem hSum_mono {H : Nat → Int} (hH : ∀ k, 0 ≤ H k ∧ H k ≤ 10000) {i n : Nat} (h : i ≤ n) : hSum H i ≤ hSum H n := by
  induction n with
  | zero => obtain rfl : i = 0 := (by omega); exact Int.le_refl _
  | succ n ih =>
    by_cases e : i = n + 1
    · subst e; exact Int.le_refl _
    · have := ih (by omega)
      have := (hH n).1
      rw [hSum]
      omega
/-- Nothing behind levels that are well enough. -/
theorem got_behind {H : Nat → Int} (hH : ∀ k, 0 ≤ H k ∧ H k ≤ 10000) {t : Int} {n i : Nat} (ht : t = if 10000 < hSum H n then 10000 else hSum H n) (hi : i ≤ n) (ha : 10000 ≤ hSum H i) : t = 10000 ∧ leftTo H t i = 0 ∧ got H t i = 0 := by
  have hm := hSum_mono hH hi
  have h1 : t = 10000 := by rw [ht]; split <;> omega
  have h2 : leftTo H t i = 0 := by rw [h1]; exact left_spent hH ha
  refine ⟨h1, h2, ?_⟩
  have := got_bd hH (show 0 ≤ t by omega) i
  have hp := part_bd hH (show 0 ≤ t by omega) (leftTo H t i) i (by omega)
  unfold got
  omega
end Go.Proofs.Ytonbmcgfbbpnkaa
