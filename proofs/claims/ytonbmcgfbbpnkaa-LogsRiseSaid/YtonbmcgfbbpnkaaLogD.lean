/- The law LogsRise. -/
import Derived.Test.YtonbmcgfbbpnkaaLogC
set_option linter.unusedVariables false
namespace Go.Proofs.Ytonbmcgfbbpnkaa
open Go.RowKit
set_option maxHeartbeats 1000000
/-- What is asked of two draws in order, and of a power. -/
theorem rise_core (w : World) (a b p x y : Int) (ha : -9223372036854775808 ≤ a ∧ a ≤ 9223372036854775807) (hb : -9223372036854775808 ≤ b ∧ b ≤ 9223372036854775807) (p0 : -9223372036854775808 ≤ p) (p1 : p ≤ 9223372036854775807)
    (hab : (x = a ∧ y = b ∧ ¬ b < a) ∨ (x = b ∧ y = a ∧ b < a)) :
    Calls Try.prog 12 #[.int .i64 a, .int .i64 b, .int .i64 p] w fun e w' => e = .returned (.bool true) ∧ Below w.heap.size w w' := by
  have hxy : x ≤ y := by omega
  have m1 := of_mono hxy
  have m2 := of_le x
  obtain ⟨u, hu⟩ : ∃ u, u = ofN x := ⟨_, rfl⟩
  obtain ⟨v, hv⟩ : ∃ v, v = ofN y := ⟨_, rfl⟩
  rw [← hu, ← hv] at m1
  rw [← hu] at m2
  have t1 : decide (u < v) = false := decide_eq_false (by omega)
  have t2 : decide ((268435456 : Int) < (u : Int)) = false := decide_eq_false (by omega)
  have HU := Lib.hid hu.symm
  have HV := Lib.hid hv.symm
  have hx : -9223372036854775808 ≤ x ∧ x ≤ 9223372036854775807 := by omega
  have hy : -9223372036854775808 ≤ y ∧ y ≤ 9223372036854775807 := by omega
  clear hu hv m1 m2 hxy
  rcases hab with ⟨rfl, rfl, hab⟩ | ⟨rfl, rfl, hab⟩
  all_goals
    by_cases g : p < 0 ∨ 16 < p
    · rcases g with g | g
      · go_enter Try.func12, Try.ntmps12
        go_wp2_with fail
        refine (logs_OfAt _ u (by omega) (by omega) HU.out _).mono ?_; rintro e w' ⟨rfl, rfl⟩
        go_wp2_with fail
        refine (logs_OfAt _ v (by omega) (by omega) HV.out _).mono ?_; rintro e w' ⟨rfl, rfl⟩
        go_wp2_with fail
        refine (log_awake _).mono ?_; rintro e w' ⟨rfl, rfl⟩
        go_wp2
        go_ret
        exact ⟨rfl, Below.refl _ _⟩
      · have g' : ¬ p < 0 := by omega
        go_enter Try.func12, Try.ntmps12
        go_wp2_with fail
        refine (logs_OfAt _ u (by omega) (by omega) HU.out _).mono ?_; rintro e w' ⟨rfl, rfl⟩
        go_wp2_with fail
        refine (logs_OfAt _ v (by omega) (by omega) HV.out _).mono ?_; rintro e w' ⟨rfl, rfl⟩
        go_wp2_with fail
        refine (log_awake _).mono ?_; rintro e w' ⟨rfl, rfl⟩
        go_wp2
        go_ret
        exact ⟨rfl, Below.refl _ _⟩
    · obtain ⟨q, rfl⟩ := Int.eq_ofNat_of_zero_le (show 0 ≤ p by omega)
      have q1 : q ≤ 16 := by omega
      have HP := Lib.hid (of_pow q q1)
      have r1 : decide ((q : Int) < 0) = false := decide_eq_false (by omega)
      have r2 : decide ((16 : Int) < (q : Int)) = false := decide_eq_false (by omega)
      clear g p0 p1
      go_enter Try.func12, Try.ntmps12
      go_wp2_with fail
      refine (logs_OfAt _ u (by omega) (by omega) HU.out _).mono ?_; rintro e w' ⟨rfl, rfl⟩
      go_wp2_with fail
      refine (logs_OfAt _ v (by omega) (by omega) HV.out _).mono ?_; rintro e w' ⟨rfl, rfl⟩
      go_wp2
      go_loop [9, 10] (fun n i => ∃ j : Nat, j ≤ q ∧ i = .int .i64 j ∧ n = .int .i64 ((2 ^ j : Nat) : Int)) (fun _ i => 16 - (intOf i).toNat)
      case atStart => exact ⟨0, by omega, rfl, by simp⟩
      case round =>
        obtain ⟨j, hj, rfl, rfl⟩ := hrel
        by_cases hlt : j < q
        · have hp : 2 ^ j ≤ 32768 := Nat.pow_le_pow_right (n := 2) (by decide) (show j ≤ 15 by omega)
          have hs := Lib.hid (show 2 ^ (j + 1) = 2 * 2 ^ j by rw [Nat.pow_succ, Nat.mul_comm])
          obtain ⟨z, hz⟩ : ∃ z, z = 2 ^ j := ⟨_, rfl⟩
          rw [← hz] at hp ⊢
          have HZ := Lib.hid hz
          clear hz
          have hp' : (z : Int) ≤ 32768 := by omega
          have hlt' : decide (j < q) = true := decide_eq_true hlt
          clear hp
          go_wp2
          go_round
          case rel => exact ⟨j + 1, by omega, by go_num, by rw [hs.out, ← HZ.out] <;> go_num⟩
          case measure => simp [intOf] <;> omega
        · obtain rfl : j = q := by omega
          have hlt' : decide (j < j) = false := decide_eq_false (by omega)
          have hp : 2 ^ j ≤ 65536 := Nat.pow_le_pow_right (n := 2) (by decide) q1
          obtain ⟨z, hz⟩ : ∃ z, z = 2 ^ j := ⟨_, rfl⟩
          rw [← hz] at hp ⊢
          have HZ := Lib.hid hz
          clear hz
          go_wp2_with fail
          refine (logs_OfAt (z : Int) ((16 - j) * 16777216) (by omega) (by omega) (by rw [HZ.out]; exact HP.out) _).mono ?_; rintro e w' ⟨rfl, rfl⟩
          rw [show (((16 - j) * 16777216 : Nat) : Int) = (16 - (j : Int)) * 16777216 by omega]
          have r3 : (0 : Int) ≤ (16 - (j : Int)) := by omega
          have r4 : (16 - (j : Int)) ≤ 16 := by omega
          go_wp2_with fail
          refine (log_awake _).mono ?_; rintro e w' ⟨rfl, rfl⟩
          go_wp2
          go_ret
          exact ⟨rfl, Below.refl _ _⟩
theorem logsRise_walk (w : World) (a : Int) (a0 : -9223372036854775808 ≤ a) (a1 : a ≤ 9223372036854775807) (b : Int) (b0 : -9223372036854775808 ≤ b) (b1 : b ≤ 9223372036854775807) (p : Int) (p0 : -9223372036854775808 ≤ p) (p1 : p ≤ 9223372036854775807) :
    Calls Try.prog 12 #[.int .i64 a, .int .i64 b, .int .i64 p] w fun e w' => e = .returned (.bool true) ∧ Below w.heap.size w w' := by
  by_cases h : b < a
  · exact rise_core w a b p b a ⟨a0, a1⟩ ⟨b0, b1⟩ p0 p1 (.inr ⟨rfl, rfl, h⟩)
  · exact rise_core w a b p a b ⟨a0, a1⟩ ⟨b0, b1⟩ p0 p1 (.inl ⟨rfl, rfl, h⟩)
end Go.Proofs.Ytonbmcgfbbpnkaa
