/- How many bits a number has: plain. -/
import Derived.Lib.BitFns
import Derived.Test.YtpedhlmcgilliaaNum
namespace Go.Proofs.Ytpedhlmcgilliaa
theorem bla : ∀ (f x : Nat), x < 2 ^ f → (x = 0 → Lib.bitLenAux f x = 0) ∧ (0 < x → 1 ≤ Lib.bitLenAux f x ∧ Lib.bitLenAux f x ≤ f ∧ 2 ^ (Lib.bitLenAux f x - 1) ≤ x ∧ x < 2 ^ Lib.bitLenAux f x) := by
  intro f
  induction f with
  | zero => intro x h; refine ⟨fun _ => rfl, fun h0 => ?_⟩; simp at h; omega
  | succ f ih =>
    intro x h
    unfold Lib.bitLenAux
    by_cases hx : x = 0
    · subst hx; exact ⟨fun _ => by simp, fun h0 => absurd h0 (by omega)⟩
    · rw [if_neg hx]
      refine ⟨fun h0 => absurd h0 hx, fun _ => ?_⟩
      have hp : 2 ^ (f + 1) = 2 * 2 ^ f := by rw [Nat.pow_succ]; omega
      have h2 : x / 2 < 2 ^ f := by omega
      obtain ⟨i0, i1⟩ := ih (x / 2) h2
      rcases Nat.eq_zero_or_pos (x / 2) with h3 | h3
      · rw [i0 h3]
        have : x = 1 := by omega
        subst this
        simp
      · obtain ⟨a, b, c, d⟩ := i1 h3
        generalize Lib.bitLenAux f (x / 2) = m at *
        obtain ⟨m, rfl⟩ : ∃ m', m = m' + 1 := ⟨m - 1, by omega⟩
        have e1 : 2 ^ (1 + (m + 1) - 1) = 2 * 2 ^ m := by rw [show 1 + (m + 1) - 1 = m + 1 by omega, Nat.pow_succ]; omega
        have e2 : 2 ^ (1 + (m + 1)) = 2 * 2 ^ (m + 1) := by rw [Nat.add_comm 1 (m + 1), Nat.pow_succ 2 (m + 1)]; omega
        rw [Nat.add_sub_cancel] at c
        rw [e1, e2]
        omega
theorem bl_zero : Lib.bitLen 0 = 0 := (bla 64 0 (by decide)).1 rfl
theorem bl_le (x : Nat) (h : x < 18446744073709551616) : Lib.bitLen x ≤ 64 := by
  rcases Nat.eq_zero_or_pos x with h0 | h0
  · subst h0; rw [bl_zero]; omega
  · exact ((bla 64 x h).2 h0).2.1
theorem bl_spec (x : Nat) (h : x < 18446744073709551616) (h0 : 0 < x) : 1 ≤ Lib.bitLen x ∧ 2 ^ (Lib.bitLen x - 1) ≤ x ∧ x < 2 ^ Lib.bitLen x := by
  obtain ⟨a, _, c, d⟩ := (bla 64 x h).2 h0
  exact ⟨a, c, d⟩
theorem bl_eq (x b : Nat) (h : x < 18446744073709551616) (hb : 1 ≤ b) (h1 : 2 ^ (b - 1) ≤ x) (h2 : x < 2 ^ b) : Lib.bitLen x = b := by
  have h0 : 0 < x := Nat.lt_of_lt_of_le (Nat.two_pow_pos _) h1
  obtain ⟨a, c, d⟩ := bl_spec x h h0
  have l1 : b - 1 < Lib.bitLen x := (Nat.pow_lt_pow_iff_right (a := 2) (by decide)).1 (Nat.lt_of_le_of_lt h1 d)
  have l2 : Lib.bitLen x - 1 < b := (Nat.pow_lt_pow_iff_right (a := 2) (by decide)).1 (Nat.lt_of_le_of_lt c h2)
  omega
theorem bl_half (x j : Nat) (h : x < 18446744073709551616) : (0 < x / 2 ^ j ↔ j < Lib.bitLen x) := by
  rcases Nat.eq_zero_or_pos x with h0 | h0
  · subst h0; rw [bl_zero]; simp
  · obtain ⟨a, c, d⟩ := bl_spec x h h0
    constructor
    · intro hp
      have : 2 ^ j ≤ x := (Nat.div_pos_iff.1 hp).2
      exact (Nat.pow_lt_pow_iff_right (a := 2) (by decide)).1 (Nat.lt_of_le_of_lt this d)
    · intro hj
      refine Nat.div_pos_iff.2 ⟨Nat.two_pow_pos _, Nat.le_trans (Nat.pow_le_pow_right (by decide) ?_) c⟩
      omega
/-- The ends of the bucket k. -/
def bLo (k : Nat) : Nat := if k = 0 then 0 else 2 ^ (k - 1)
def bHi (k : Nat) : Nat := 2 ^ k - 1
theorem pow64 (k : Nat) (h : k ≤ 64) : 2 ^ k ≤ 18446744073709551616 := Nat.pow_le_pow_right (n := 2) (by decide) h
theorem bLo_lt (k : Nat) (h : k ≤ 64) : bLo k < 18446744073709551616 := by
  unfold bLo
  split
  · decide
  · have := Nat.pow_le_pow_right (n := 2) (by decide) (show k - 1 ≤ 63 by omega)
    omega
theorem bHi_lt (k : Nat) (h : k ≤ 64) : bHi k < 18446744073709551616 := by
  have := pow64 k h; have := Nat.two_pow_pos k; unfold bHi; omega
theorem bl_bLo (k : Nat) (h : k ≤ 64) : Lib.bitLen (bLo k) = k := by
  rcases Nat.eq_zero_or_pos k with h0 | h0
  · subst h0; exact bl_zero
  · have e : bLo k = 2 ^ (k - 1) := by unfold bLo; rw [if_neg (by omega)]
    refine bl_eq _ k (bLo_lt k h) h0 (by rw [e]; exact Nat.le_refl _) ?_
    rw [e]; exact Nat.pow_lt_pow_right (by decide) (by omega)
theorem bl_bHi (k : Nat) (h : k ≤ 64) : Lib.bitLen (bHi k) = k := by
  rcases Nat.eq_zero_or_pos k with h0 | h0
  · subst h0; exact bl_zero
  · refine bl_eq _ k (bHi_lt k h) h0 ?_ (by unfold bHi; have := Nat.two_pow_pos k; omega)
    have : 2 ^ (k - 1) < 2 ^ k := Nat.pow_lt_pow_right (by decide) (by omega)
    unfold bHi; omega
theorem bl_between (x : Nat) (h : x < 18446744073709551616) : bLo (Lib.bitLen x) ≤ x ∧ x ≤ bHi (Lib.bitLen x) := by
  rcases Nat.eq_zero_or_pos x with h0 | h0
  · subst h0; rw [bl_zero]; decide
  · obtain ⟨a, c, d⟩ := bl_spec x h h0
    have e : bLo (Lib.bitLen x) = 2 ^ (Lib.bitLen x - 1) := by unfold bLo; rw [if_neg (by omega)]
    rw [e]; unfold bHi; omega
theorem bl_down (k : Nat) (h : k ≤ 64) (h0 : 1 ≤ k) : Lib.bitLen (bLo k - 1) = k - 1 := by
  have e : bLo k - 1 = bHi (k - 1) := by unfold bLo bHi; rw [if_neg (by omega)]
  rw [e]; exact bl_bHi _ (by omega)
theorem bl_up (k : Nat) (h : k < 64) : Lib.bitLen (bHi k + 1) = k + 1 := by
  have e : bHi k + 1 = bLo (k + 1) := by unfold bLo bHi; rw [if_neg (by omega)]; have := Nat.two_pow_pos k; simp; omega
  rw [e]; exact bl_bLo _ (by omega)
end Go.Proofs.Ytpedhlmcgilliaa
