/- wide and its law's own functions: what each computes. -/
import Derived.Test.YtpedhlmcgilliaaMixB
import Derived.Test.YtpedhlmcgilliaaOpen
import Derived.Deep.RegionHeld3
import Derived.Deep.QuietTactic
import Derived.BigQuiet
import Derived.RowKit3
import Derived.Handy
set_option linter.unusedVariables false
namespace Go.Proofs.Ytpedhlmcgilliaa
open Go.RowKit
set_option maxHeartbeats 400000
/-- A number of 128 bits: its two halves in range. -/
structure IsNum (h l : Int) : Prop where
  h0 : 0 ≤ h
  h1 : h < 18446744073709551616
  l0 : 0 ≤ l
  l1 : l < 18446744073709551616
def V (h l : Int) : Int := h * 18446744073709551616 + l
/-- -1, 0 or 1, as a number is less than, is, or is more than another one. -/
def cmpI (a b : Int) : Int := if a < b then -1 else if a = b then 0 else 1
theorem V_lt {ah al bh bl : Int} (ha : IsNum ah al) (hb : IsNum bh bl) : V ah al < V bh bl ↔ ah < bh ∨ ah = bh ∧ al < bl := by
  obtain ⟨_, _, _, _⟩ := ha; obtain ⟨_, _, _, _⟩ := hb; unfold V; omega
theorem V_eq {ah al bh bl : Int} (ha : IsNum ah al) (hb : IsNum bh bl) : V ah al = V bh bl ↔ ah = bh ∧ al = bl := by
  obtain ⟨_, _, _, _⟩ := ha; obtain ⟨_, _, _, _⟩ := hb; unfold V; omega
/-- The halves of a product. -/
def pHi (a b : Int) : Int := a * b / 18446744073709551616
def pLo (a b : Int) : Int := a * b % 18446744073709551616
theorem below_bd' (a b : Int) (a0 : 0 ≤ a) (a1 : a < 18446744073709551616) (b0 : 0 ≤ b) (b1 : b < 18446744073709551616) : 0 ≤ a * b ∧ a * b / 18446744073709551616 < 18446744073709551616 := by
  have h := Int.mul_nonneg a0 b0
  have h2 : a * b ≤ 18446744073709551615 * b := Int.mul_le_mul_of_nonneg_right (by omega) b0
  omega
theorem p_num (a b : Int) (a0 : 0 ≤ a) (a1 : a < 18446744073709551616) (b0 : 0 ≤ b) (b1 : b < 18446744073709551616) : IsNum (pHi a b) (pLo a b) := by
  have h := below_bd' a b a0 a1 b0 b1
  unfold pHi pLo
  exact ⟨by omega, by omega, by omega, by omega⟩
theorem p_V (a b : Int) : V (pHi a b) (pLo a b) = a * b := by unfold V pHi pLo; omega
theorem wide_Mul (a b : Int) (a0 : 0 ≤ a) (a1 : a < 18446744073709551616) (b0 : 0 ≤ b) (b1 : b < 18446744073709551616) (w : World) :
    Calls Try.prog 61 #[.int .u64 a, .int .u64 b] w fun e w' => e = .returned (.agg #[.int .u64 (pHi a b), .int .u64 (pLo a b)]) ∧ Below w.heap.size w w' := by
  go_enter Try.func61, Try.ntmps61
  go_wp2_with (go_at_call 69; refine (bits_Mul64 _ _ a0 a1 b0 b1 _).mono ?_; rintro e w' ⟨rfl, rfl⟩)
  simp [bodyPost, results, Try.results61, go_sem]
  exact ⟨⟨rfl, rfl⟩, by go_grown⟩
theorem or_low (m l : Int) (l0 : 0 ≤ l) (l1 : l < 4294967296) : bits .or .u64 (IntKind.u64.wrap (m * 4294967296)) l = m * 4294967296 % 18446744073709551616 + l := by
  have e : IntKind.u64.wrap (m * 4294967296) = m % 4294967296 * 4294967296 := by rw [IntKind.wrap_u64]; omega
  obtain ⟨n, hn⟩ := Int.eq_ofNat_of_zero_le (show 0 ≤ m % 4294967296 by omega)
  obtain ⟨k, rfl⟩ := Int.eq_ofNat_of_zero_le l0
  rw [e, hn, show (n : Int) * 4294967296 = ((n * 4294967296 : Nat) : Int) by omega, u64_or_nat _ _ (by omega) (by omega), nat_join 32 _ _ (by omega) (by omega)]
  omega
theorem lo_arith (x y : Int) (hx0 : 0 ≤ x) (hx : x < 18446744073709551616) (hy0 : 0 ≤ y) (hy : y < 18446744073709551616) :
    ((x % 4294967296 * (y / 4294967296)) % 18446744073709551616 + ((x / 4294967296 * (y % 4294967296)) % 18446744073709551616 + (x % 4294967296 * (y % 4294967296)) % 18446744073709551616 / 4294967296) % 18446744073709551616 % 4294967296) % 18446744073709551616 * 4294967296 % 18446744073709551616 +
      (x % 4294967296 * (y % 4294967296)) % 18446744073709551616 % 4294967296 = x * y % 18446744073709551616 := by
  have ex : x = x / 4294967296 * 4294967296 + x % 4294967296 := by omega
  have ey : y = y / 4294967296 * 4294967296 + y % 4294967296 := by omega
  have b1 : 0 ≤ x / 4294967296 ∧ x / 4294967296 ≤ 4294967295 := by omega
  have b2 : 0 ≤ x % 4294967296 ∧ x % 4294967296 ≤ 4294967295 := by omega
  have b3 : 0 ≤ y / 4294967296 ∧ y / 4294967296 ≤ 4294967295 := by omega
  have b4 : 0 ≤ y % 4294967296 ∧ y % 4294967296 ≤ 4294967295 := by omega
  generalize x / 4294967296 = x1 at *
  generalize x % 4294967296 = x0 at *
  generalize y / 4294967296 = y1 at *
  generalize y % 4294967296 = y0 at *
  subst ex ey
  rw [split_mul]
  have p1 := prod_bound x1 y0 b1.1 b1.2 b4.1 b4.2
  have p2 := prod_bound x0 y1 b2.1 b2.2 b3.1 b3.2
  have p3 := prod_bound x0 y0 b2.1 b2.2 b4.1 b4.2
  clear hx0 hx hy0 hy b1 b2 b3 b4
  generalize x1 * y0 = p at *
  generalize x0 * y1 = q at *
  generalize x0 * y0 = r at *
  generalize x1 * y1 = t at *
  omega
end Go.Proofs.Ytpedhlmcgilliaa
