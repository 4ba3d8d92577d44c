/- mix.Below, mix.Of and the generator. -/
import Derived.Test.YtpedhlmcgilliaaMixA
import Derived.Test.YtpedhlmcgilliaaBits
set_option linter.unusedVariables false
namespace Go.Proofs.Ytpedhlmcgilliaa
open Go.RowKit
set_option maxHeartbeats 400000
theorem below_bd (h n : Int) (h0 : 0 ≤ h) (h1 : h < 18446744073709551616) (n0 : 1 ≤ n) : 0 ≤ h * n / 18446744073709551616 ∧ h * n / 18446744073709551616 < n := by
  have a := Int.mul_nonneg h0 (show (0 : Int) ≤ n by omega)
  have b : h * n ≤ 18446744073709551615 * n := Int.mul_le_mul_of_nonneg_right (by omega) (by omega)
  omega
theorem mix_Below (h n : Int) (w : World) (h0 : 0 ≤ h) (h1 : h < 18446744073709551616) (n0 : 1 ≤ n) (n1 : n ≤ 9223372036854775807) :
    Calls Try.prog 50 #[.int .u64 h, .int .i64 n] w fun e w' => e = .returned (.int .i64 (h * n / 18446744073709551616)) ∧ w = w' := by
  have b := below_bd h n h0 h1 n0
  obtain ⟨b1, b2⟩ := b
  go_enter Try.func50, Try.ntmps50
  go_wp2_with (go_at_call 69; refine (bits_Mul64 _ _ (by omega) (by omega) (by omega) (by omega) _).mono ?_; rintro e w' ⟨rfl, rfl⟩)
  go_ret
  exact ⟨rfl, rfl⟩
theorem mix_Below0 (h n : Int) (w : World) (n0 : n < 1) :
    Calls Try.prog 50 #[.int .u64 h, .int .i64 n] w fun e w' => e = .returned (.int .i64 0) ∧ w = w' := by
  go_enter Try.func50, Try.ntmps50
  go_wp2
  go_ret
  exact ⟨rfl, rfl⟩
theorem ref_Below0 (h n : Int) (w : World) (n0 : n < 1) :
    Calls Try.prog 52 #[.int .u64 h, .int .i64 n] w fun e w' => e = .returned (.int .i64 0) ∧ w = w' := by
  go_enter Try.func52, Try.ntmps52
  go_wp2
  go_ret
  exact ⟨rfl, rfl⟩
theorem mask32 (x : Int) (h0 : 0 ≤ x) (h1 : x < 18446744073709551616) : bits .and .u64 x 4294967295 = x % 4294967296 := by
  obtain ⟨n, rfl⟩ := Int.eq_ofNat_of_zero_le h0
  have h := bits_and_u64_nat n 4294967295 (by omega) (by omega)
  have e : n &&& 4294967295 = n % 4294967296 := Nat.and_two_pow_sub_one_eq_mod n 32
  rw [e] at h
  rw [show ((4294967295 : Nat) : Int) = 4294967295 from rfl] at h
  rw [h]; rfl
theorem hi_form (h n : Int) (h0 : 0 ≤ h) (h1 : h < 18446744073709551616) (n0 : 0 ≤ n) (n1 : n < 18446744073709551616) :
    IntKind.u64.wrap (IntKind.u64.wrap (IntKind.u64.wrap (h / 4294967296 * (n / 4294967296)) +
       IntKind.u64.wrap (IntKind.u64.wrap (h / 4294967296 * bits BinOp.and IntKind.u64 n 4294967295) + IntKind.u64.wrap (bits BinOp.and IntKind.u64 h 4294967295 * bits BinOp.and IntKind.u64 n 4294967295) / 4294967296) / 4294967296) +
       IntKind.u64.wrap (IntKind.u64.wrap (bits BinOp.and IntKind.u64 h 4294967295 * (n / 4294967296)) +
          bits BinOp.and IntKind.u64 (IntKind.u64.wrap (IntKind.u64.wrap (h / 4294967296 * bits BinOp.and IntKind.u64 n 4294967295) + IntKind.u64.wrap (bits BinOp.and IntKind.u64 h 4294967295 * bits BinOp.and IntKind.u64 n 4294967295) / 4294967296)) 4294967295) / 4294967296) =
    h * n / 18446744073709551616 := by
  rw [mask32 _ (wrap_bd _).1 (wrap_bd _).2, mask32 h h0 h1, mask32 n n0 n1]
  simp only [IntKind.wrap_u64]
  rw [Int.add_comm (h % 4294967296 * (n / 4294967296) % 18446744073709551616)]
  exact mul64_arith h n h0 h1 n0 n1
theorem ref_Below (h n : Int) (w : World) (h0 : 0 ≤ h) (h1 : h < 18446744073709551616) (n0 : 1 ≤ n) (n1 : n ≤ 9223372036854775807) :
    Calls Try.prog 52 #[.int .u64 h, .int .i64 n] w fun e w' => e = .returned (.int .i64 (h * n / 18446744073709551616)) ∧ w = w' := by
  go_enter Try.func52, Try.ntmps52
  go_wp2
  go_ret
  have b := below_bd h n h0 h1 n0
  have e := hi_form h n h0 h1 (by omega) (by omega)
  refine ⟨?_, rfl⟩
  show Ending.returned (.int .i64 (wrap64 _)) = _
  rw [e]
  rw [IntWalk.wrap64_in _ ⟨by omega, by omega⟩]
end Go.Proofs.Ytpedhlmcgilliaa
