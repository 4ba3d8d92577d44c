/- Division of 128 bits by 64, digit by digit: the plain arithmetic. -/
import Derived.Test.YtpedhlmcgilliaaNum
set_option linter.unusedVariables false
namespace Go.Proofs.Ytpedhlmcgilliaa
/-- A divisor with its highest bit set, in two halves. -/
structure DV (Y a b : Int) : Prop where
  e : Y = a * 4294967296 + b
  a0 : 2147483648 ≤ a
  a1 : a < 4294967296
  b0 : 0 ≤ b
  b1 : b < 4294967296
/-- The guess q at the digit of u * 2^32 + d by Y, with what is left by the divisor's upper half. -/
structure Guess (Y a b u d q r : Int) : Prop where
  e : u = q * a + r
  q0 : 0 ≤ q
  q1 : q ≤ 4294967297
  r0 : 0 ≤ r
  r1 : r < 4294967296
  up : u * 4294967296 + d < (q + 1) * Y
section
variable {Y a b u d q r : Int}
theorem mul_split (v : DV Y a b) (q : Int) : q * Y = q * a * 4294967296 + q * b := by
  rw [v.e, Int.mul_add, Int.mul_assoc]
theorem guess_first (v : DV Y a b) (u0 : 0 ≤ u) (uY : u < Y) (d0 : 0 ≤ d) (d1 : d < 4294967296) : Guess Y a b u d (u / a) (u % a) := by
  obtain ⟨e, a0, a1, b0, b1⟩ := v
  have h1 := Int.emod_nonneg u (show a ≠ 0 by omega)
  have h2 := Int.emod_lt_of_pos u (show 0 < a by omega)
  have h3 : u = u / a * a + u % a := by rw [Int.mul_comm]; exact (Int.mul_ediv_add_emod u a).symm
  have h4 := Int.ediv_nonneg u0 (show 0 ≤ a by omega)
  have h5 : u / a ≤ 4294967297 := by
    refine Int.le_of_lt_add_one ?_
    rw [Int.ediv_lt_iff_lt_mul (by omega)]
    omega
  refine ⟨h3, h4, h5, h1, by omega, ?_⟩
  have h6 : (u / a + 1) * Y = (u / a + 1) * a * 4294967296 + (u / a + 1) * b := mul_split ⟨e, a0, a1, b0, b1⟩ _
  have h7 : (u / a + 1) * a = u / a * a + a := by rw [Int.add_mul, Int.one_mul]
  have h8 := Int.mul_nonneg (show 0 ≤ u / a + 1 by omega) b0
  omega
/-- The test: the guess is too great. -/
theorem guess_test (v : DV Y a b) (g : Guess Y a b u d q r) : 4294967296 * r + d < q * b ↔ u * 4294967296 + d < q * Y := by
  have h := mul_split v q
  have := g.e
  omega
theorem guess_pos (v : DV Y a b) (g : Guess Y a b u d q r) (u0 : 0 ≤ u) (d0 : 0 ≤ d) (h : 4294967296 ≤ q ∨ 4294967296 * r + d < q * b) : 1 ≤ q := by
  rcases h with h | h
  · omega
  · have h2 := (guess_test v g).1 h
    have := g.q0
    rcases Int.lt_or_le q 1 with hq | hq
    · have : q = 0 := by omega
      subst this
      rw [Int.zero_mul] at h2
      omega
    · exact hq
theorem guess_less (v : DV Y a b) (g : Guess Y a b u d q r) (uY : u < Y) (d1 : d < 4294967296) (h : 4294967296 ≤ q ∨ 4294967296 * r + d < q * b) : u * 4294967296 + d < q * Y := by
  rcases h with h | h
  · have h1 : 4294967296 * Y ≤ q * Y := Int.mul_le_mul_of_nonneg_right h (by have := v.e; have := v.a0; have := v.b0; omega)
    omega
  · exact (guess_test v g).1 h
theorem guess_next (v : DV Y a b) (g : Guess Y a b u d q r) (u0 : 0 ≤ u) (uY : u < Y) (d0 : 0 ≤ d) (d1 : d < 4294967296) (h : 4294967296 ≤ q ∨ 4294967296 * r + d < q * b) (hr : r + a < 4294967296) :
    Guess Y a b u d (q - 1) (r + a) := by
  have h1 := guess_pos v g u0 d0 h
  have h2 := guess_less v g uY d1 h
  obtain ⟨e, q0, q1, r0, r1, up⟩ := g
  have h3 : (q - 1) * a = q * a - a := by rw [Int.sub_mul, Int.one_mul]
  have ha := v.a0
  refine ⟨by omega, by omega, by omega, by omega, hr, ?_⟩
  rw [show q - 1 + 1 = q by omega]
  exact h2
/-- Found: the guess is the digit. -/
theorem guess_found (v : DV Y a b) (g : Guess Y a b u d q r) (h1 : q < 4294967296) (h2 : ¬ 4294967296 * r + d < q * b) : q * Y ≤ u * 4294967296 + d ∧ u * 4294967296 + d < (q + 1) * Y := by
  refine ⟨?_, g.up⟩
  have h := guess_test v g
  omega
/-- Found behind a break. -/
theorem guess_broken (v : DV Y a b) (g : Guess Y a b u d q r) (u0 : 0 ≤ u) (uY : u < Y) (d0 : 0 ≤ d) (d1 : d < 4294967296) (h : 4294967296 ≤ q ∨ 4294967296 * r + d < q * b) (hr : 4294967296 ≤ r + a) :
    (q - 1) * Y ≤ u * 4294967296 + d ∧ u * 4294967296 + d < (q - 1 + 1) * Y := by
  have h1 := guess_pos v g u0 d0 h
  have h2 := guess_less v g uY d1 h
  obtain ⟨e, q0, q1, r0, r1, up⟩ := g
  have h3 : (q - 1) * a = q * a - a := by rw [Int.sub_mul, Int.one_mul]
  have h4 := mul_split v (q - 1)
  have h5 : (q - 1) * b ≤ 4294967296 * 4294967295 := by
    have := mul_le_mul_bd (q - 1) b 4294967296 4294967295 (by omega) (by omega) v.b0 (by have := v.b1; omega)
    exact this
  refine ⟨by omega, ?_⟩
  rw [show q - 1 + 1 = q by omega]
  exact h2
where
  mul_le_mul_bd (x y X Z : Int) (x0 : 0 ≤ x) (x1 : x ≤ X) (y0 : 0 ≤ y) (y1 : y ≤ Z) : x * y ≤ X * Z := by
    have h1 : x * y ≤ X * y := Int.mul_le_mul_of_nonneg_right x1 y0
    have h2 : X * y ≤ X * Z := Int.mul_le_mul_of_nonneg_left y1 (by omega)
    omega
/-- A digit: it is below 2^32, and what is left is below the divisor. -/
theorem digit_bd (v : DV Y a b) (u0 : 0 ≤ u) (uY : u < Y) (d0 : 0 ≤ d) (d1 : d < 4294967296) (h1 : q * Y ≤ u * 4294967296 + d) (h2 : u * 4294967296 + d < (q + 1) * Y) :
    0 ≤ q ∧ q < 4294967296 ∧ 0 ≤ u * 4294967296 + d - q * Y ∧ u * 4294967296 + d - q * Y < Y := by
  have hY : 0 < Y := by have := v.e; have := v.a0; have := v.b0; omega
  have h3 : (q + 1) * Y = q * Y + Y := by rw [Int.add_mul, Int.one_mul]
  refine ⟨?_, ?_, by omega, by omega⟩
  · rcases Int.lt_or_le q 0 with h | h
    · have : (q + 1) * Y ≤ 0 * Y := Int.mul_le_mul_of_nonneg_right (by omega) (by omega)
      omega
    · exact h
  · rcases Int.lt_or_le q 4294967296 with h | h
    · exact h
    · have : 4294967296 * Y ≤ q * Y := Int.mul_le_mul_of_nonneg_right h (by omega)
      omega
/-- Two digits make the quotient. -/
theorem digits_two {q1 q0 r1 r0 d1 d0 U : Int} (e1 : r1 = U * 4294967296 + d1 - q1 * Y) (e0 : r0 = r1 * 4294967296 + d0 - q0 * Y) : U * 18446744073709551616 + d1 * 4294967296 + d0 = (q1 * 4294967296 + q0) * Y + r0 := by
  have h1 : (q1 * 4294967296 + q0) * Y = q1 * Y * 4294967296 + q0 * Y := by
    rw [Int.add_mul, Int.mul_assoc, Int.mul_comm 4294967296 Y, ← Int.mul_assoc]
  omega
end
end Go.Proofs.Ytpedhlmcgilliaa
