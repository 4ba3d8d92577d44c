/- Quotients and shares; WideQuotients. -/
import Derived.Test.YtpedhlmcgilliaaWideE
import Derived.Test.YtpedhlmcgilliaaDivA
import Derived.Test.YtpedhlmcgilliaaObj
set_option linter.unusedVariables false
namespace Go.Proofs.Ytpedhlmcgilliaa
open Go.RowKit
set_option maxHeartbeats 400000
theorem wide_Div_no (h l y : Int) (hn : IsNum h l) (y0 : 0 ≤ y) (y1 : y < 18446744073709551616) (hy : y ≤ h) (w : World) :
    Calls Try.prog 57 #[.agg #[.int .u64 h, .int .u64 l], .int .u64 y] w fun e w' => e = .returned (.tuple #[.int .u64 0, .int .u64 0, .bool false]) ∧ Below w.heap.size w w' := by
  obtain ⟨h0, h1, l0, l1⟩ := hn
  by_cases hz : y = 0
  · subst hz
    go_enter Try.func57, Try.ntmps57
    go_wp2
    go_ret3
    exact ⟨rfl, by go_grown⟩
  · have hz' : (y == 0) = false := by simp [hz]
    have hd : decide (y ≤ h) = true := decide_eq_true hy
    clear hz
    go_enter Try.func57, Try.ntmps57
    go_wp2
    go_ret3
    exact ⟨rfl, by go_grown⟩
theorem wide_Div_yes (h l y : Int) (hn : IsNum h l) (y1 : y < 18446744073709551616) (hy : h < y) (w : World) :
    Calls Try.prog 57 #[.agg #[.int .u64 h, .int .u64 l], .int .u64 y] w fun e w' => e = .returned (.tuple #[.int .u64 (V h l / y), .int .u64 (V h l % y), .bool true]) ∧ Below w.heap.size w w' := by
  obtain ⟨h0, h1, l0, l1⟩ := hn
  have hz' : (y == 0) = false := by simp; omega
  have hd : decide (y ≤ h) = false := decide_eq_false (by omega)
  have A := fun w => bits_Div64 h l y h0 hy l0 l1 y1 w
  have e1 : h * 18446744073709551616 + l = V h l := rfl
  rw [e1] at A
  clear e1
  go_enter Try.func57, Try.ntmps57
  go_wp2_with fail
  refine (A _).mono ?_; rintro e w1 ⟨rfl, d, rfl⟩
  go_wp2
  go_ret3
  exact ⟨rfl, below_drewN (by go_grown) _⟩
/-- What a quotient is told as. -/
def divQ (h l y : Int) : Int := if h < y then V h l / y else 0
def divR (h l y : Int) : Int := if h < y then V h l % y else 0
theorem wide_Div (h l y : Int) (hn : IsNum h l) (y0 : 0 ≤ y) (y1 : y < 18446744073709551616) (w : World) :
    Calls Try.prog 57 #[.agg #[.int .u64 h, .int .u64 l], .int .u64 y] w fun e w' => e = .returned (.tuple #[.int .u64 (divQ h l y), .int .u64 (divR h l y), .bool (decide (h < y))]) ∧ Below w.heap.size w w' := by
  unfold divQ divR
  by_cases hh : h < y
  · rw [if_pos hh, if_pos hh, decide_eq_true hh]
    exact wide_Div_yes h l y hn y1 hh w
  · rw [if_neg hh, if_neg hh, decide_eq_false hh]
    exact wide_Div_no h l y hn y0 y1 (by omega) w
theorem wide_Share (n p y : Int) (n0 : 0 ≤ n) (n1 : n < 18446744073709551616) (p0 : 0 ≤ p) (p1 : p < 18446744073709551616) (y0 : 0 ≤ y) (y1 : y < 18446744073709551616) (w : World) :
    Calls Try.prog 60 #[.int .u64 n, .int .u64 p, .int .u64 y] w fun e w' => e = .returned (.tuple #[.int .u64 (divQ (pHi n p) (pLo n p) y), .bool (decide (pHi n p < y))]) ∧ Below w.heap.size w w' := by
  have hn := p_num n p n0 n1 p0 p1
  go_enter Try.func60, Try.ntmps60
  go_wp2_with fail
  refine (wide_Mul n p n0 n1 p0 p1 _).mono ?_; rintro e w1 ⟨rfl, hx1⟩
  go_wp2_with fail
  refine (wide_Div _ _ y hn y0 y1 _).mono ?_; rintro e w2 ⟨rfl, hx2⟩
  have hb := below_step hx1 hx2
  clear hx1 hx2
  go_wp2
  go_ret2
  exact ⟨rfl, hb⟩
theorem quot_bd {h l y : Int} (hn : IsNum h l) (hy : h < y) : 0 ≤ V h l / y ∧ V h l / y < 18446744073709551616 ∧ 0 ≤ V h l % y ∧ V h l % y < y ∧ V h l = V h l / y * y + V h l % y := by
  obtain ⟨h0, h1, l0, l1⟩ := hn
  have hV : V h l < 18446744073709551616 * y := by unfold V; omega
  have hV0 : 0 ≤ V h l := by unfold V; omega
  refine ⟨Int.ediv_nonneg hV0 (by omega), ?_, Int.emod_nonneg _ (by omega), Int.emod_lt_of_pos _ (by omega), ?_⟩
  · rw [Int.ediv_lt_iff_lt_mul (by omega)]; exact hV
  · rw [Int.mul_comm]; exact (Int.mul_ediv_add_emod _ _).symm
theorem quot_back {h l y : Int} (hn : IsNum h l) (hy : h < y) (y1 : y < 18446744073709551616) :
    fits (pHi (V h l / y) y) (pLo (V h l / y) y) 0 (V h l % y) = true ∧ sHi (pHi (V h l / y) y) (pLo (V h l / y) y) 0 (V h l % y) = h ∧ sLo (pLo (V h l / y) y) (V h l % y) = l := by
  obtain ⟨q0, q1, r0, r1, e⟩ := quot_bd hn hy
  have h0 := hn.h0
  have hp := p_num (V h l / y) y q0 q1 (by omega) y1
  have hr : IsNum 0 (V h l % y) := ⟨by decide, by decide, r0, by omega⟩
  have hv : V (pHi (V h l / y) y) (pLo (V h l / y) y) + V 0 (V h l % y) = V h l := by
    rw [p_V]
    have : V 0 (V h l % y) = V h l % y := by show (0 : Int) * _ + _ = _; omega
    rw [this]; omega
  have hf : fits (pHi (V h l / y) y) (pLo (V h l / y) y) 0 (V h l % y) = true := by
    rw [fits_iff hp hr, hv]
    obtain ⟨a0, a1, a2, a3⟩ := hn
    unfold V; omega
  have hs := s_V hp hr hf
  rw [hv] at hs
  exact ⟨hf, (V_eq (s_num _ _ _ _) hn).1 hs⟩
/-- The share's part: it is not above, and one more is. -/
theorem share_law {n p y : Int} (n0 : 0 ≤ n) (n1 : n < 18446744073709551616) (p0 : 0 ≤ p) (p1 : p < 18446744073709551616) (y1 : y < 18446744073709551616) (hy : pHi n p < y) :
    let s := V (pHi n p) (pLo n p) / y
    ¬ V (pHi n p) (pLo n p) < V (pHi s y) (pLo s y) ∧ (fits (pHi s y) (pLo s y) 0 y = true → V (pHi n p) (pLo n p) < V (sHi (pHi s y) (pLo s y) 0 y) (sLo (pLo s y) y)) := by
  intro s
  have hn := p_num n p n0 n1 p0 p1
  obtain ⟨q0, q1, r0, r1, e⟩ := quot_bd hn hy
  have hp := p_num s y q0 q1 (by have := hn.h0; omega) y1
  refine ⟨by rw [p_V s y]; show ¬ _ < V (pHi n p) (pLo n p) / y * y; omega, fun hf => ?_⟩
  have hr : IsNum 0 y := ⟨by decide, by decide, by have := hn.h0; omega, y1⟩
  rw [s_V hp hr hf, p_V s y]
  have : V 0 y = y := by show (0 : Int) * _ + _ = _; omega
  rw [this]
  show _ < V (pHi n p) (pLo n p) / y * y + y
  omega
end Go.Proofs.Ytpedhlmcgilliaa
