/- Sums of numbers of 128 bits. -/
import Derived.Test.YtpedhlmcgilliaaWideA
set_option linter.unusedVariables false
namespace Go.Proofs.Ytpedhlmcgilliaa
open Go.RowKit
set_option maxHeartbeats 400000
def sHi (ah al bh bl : Int) : Int := (ah + bh + (al + bl) / 18446744073709551616) % 18446744073709551616
def sLo (al bl : Int) : Int := (al + bl) % 18446744073709551616
/-- The sum has no more than 128 bits. -/
def fits (ah al bh bl : Int) : Bool := decide (ah + bh + (al + bl) / 18446744073709551616 < 18446744073709551616)
theorem s_num (ah al bh bl : Int) : IsNum (sHi ah al bh bl) (sLo al bl) := by unfold sHi sLo; exact ⟨by omega, by omega, by omega, by omega⟩
theorem s_V {ah al bh bl : Int} (ha : IsNum ah al) (hb : IsNum bh bl) (h : fits ah al bh bl = true) : V (sHi ah al bh bl) (sLo al bl) = V ah al + V bh bl := by
  obtain ⟨_, _, _, _⟩ := ha; obtain ⟨_, _, _, _⟩ := hb
  unfold fits at h
  simp only [decide_eq_true_eq] at h
  unfold V sHi sLo; omega
theorem fits_iff {ah al bh bl : Int} (ha : IsNum ah al) (hb : IsNum bh bl) : fits ah al bh bl = true ↔ V ah al + V bh bl < 340282366920938463463374607431768211456 := by
  obtain ⟨_, _, _, _⟩ := ha; obtain ⟨_, _, _, _⟩ := hb
  unfold fits V
  simp only [decide_eq_true_eq]
  omega
theorem wide_Add (ah al bh bl : Int) (ha : IsNum ah al) (hb : IsNum bh bl) (h : fits ah al bh bl = true) (w : World) :
    Calls Try.prog 54 #[.agg #[.int .u64 ah, .int .u64 al], .agg #[.int .u64 bh, .int .u64 bl]] w fun e w' =>
      e = .returned (.tuple #[.agg #[.int .u64 (sHi ah al bh bl), .int .u64 (sLo al bl)], .bool true]) ∧ Below w.heap.size w w' := by
  obtain ⟨a0, a1, c0, c1⟩ := ha; obtain ⟨b0, b1, d0, d1⟩ := hb
  have k0 : 0 ≤ (al + bl) / 18446744073709551616 := by omega
  have k1 : (al + bl) / 18446744073709551616 ≤ 1 := by omega
  have e : (ah + bh + (al + bl) / 18446744073709551616) / 18446744073709551616 = 0 := by
    unfold fits at h
    simp only [decide_eq_true_eq] at h
    omega
  go_enter Try.func54, Try.ntmps54
  go_wp2_with (first | simp only [add64_0 al bl c0 c1 d0 d1] | simp only [add64 ah bh _ a0 a1 b0 b1 k0 k1])
  go_returns
  exact ⟨rfl, by go_grown⟩
theorem wide_AddNo (ah al bh bl : Int) (ha : IsNum ah al) (hb : IsNum bh bl) (h : fits ah al bh bl = false) (w : World) :
    Calls Try.prog 54 #[.agg #[.int .u64 ah, .int .u64 al], .agg #[.int .u64 bh, .int .u64 bl]] w fun e w' =>
      e = .returned (.tuple #[.agg #[.int .u64 0, .int .u64 0], .bool false]) ∧ Below w.heap.size w w' := by
  obtain ⟨a0, a1, c0, c1⟩ := ha; obtain ⟨b0, b1, d0, d1⟩ := hb
  have k0 : 0 ≤ (al + bl) / 18446744073709551616 := by omega
  have k1 : (al + bl) / 18446744073709551616 ≤ 1 := by omega
  have e : (ah + bh + (al + bl) / 18446744073709551616) / 18446744073709551616 = 1 := by
    unfold fits at h
    simp only [decide_eq_false_iff_not] at h
    omega
  go_enter Try.func54, Try.ntmps54
  go_wp2_with (first | simp only [add64_0 al bl c0 c1 d0 d1] | simp only [add64 ah bh _ a0 a1 b0 b1 k0 k1])
  go_returns
  exact ⟨rfl, by go_grown⟩
end Go.Proofs.Ytpedhlmcgilliaa
