/- What a histogram tells: Ends, Count, Mean. -/
import Derived.Test.YtpedhlmcgilliaaHistD
import Derived.Test.YtpedhlmcgilliaaWideI
import Derived.Test.YtpedhlmcgilliaaUnder
set_option linter.unusedVariables false
namespace Go.Proofs.Ytpedhlmcgilliaa
open Go.RowKit
set_option maxHeartbeats 2000000
set_option maxRecDepth 100000
theorem hist_Ends (b : Nat) (cnt : Nat → Int) (n hi lo least most : Int) (w : World) (h : HistIs w b cnt n hi lo least most) :
    Calls Try.prog 38 #[.pointer (some ⟨b, 0, none⟩)] w fun e w' => e = .returned (.tuple #[.int .u64 least, .int .u64 most]) ∧ Below w.heap.size w w' := by
  obtain ⟨c65, c66, c67, c68, c69⟩ := h.cells
  go_enter Try.func38, Try.ntmps38
  go_wp2_with fail
  go_quiet (fail)
  go_wp2
  go_ret2
  exact ⟨rfl, below_drewN (Below.refl _ _) _⟩
theorem hist_CountYes (b : Nat) (cnt : Nat → Int) (n hi lo least most : Int) (k : Nat) (hk : k < 65) (w : World) (h : HistIs w b cnt n hi lo least most) :
    Calls Try.prog 41 #[.pointer (some ⟨b, 0, none⟩), .int .i64 k] w fun e w' => e = .returned (.int .u64 (cnt k)) ∧ w = w' := by
  have ck := h.cellAt hk
  have f1 : decide ((k : Int) < 0) = false := decide_eq_false (by omega)
  have f2 : decide ((65 : Int) ≤ (k : Int)) = false := decide_eq_false (by omega)
  have f3 : (k : Int) < 65 := by omega
  go_enter Try.func41, Try.ntmps41
  go_wp2
  go_ret
  exact ⟨rfl, rfl⟩
theorem hist_CountNo (b : Nat) (k : Int) (hk : k < 0 ∨ 65 ≤ k) (w : World) :
    Calls Try.prog 41 #[.pointer (some ⟨b, 0, none⟩), .int .i64 k] w fun e w' => e = .returned (.int .u64 0) ∧ w = w' := by
  by_cases h : k < 0
  · have f1 : decide (k < 0) = true := decide_eq_true h
    go_enter Try.func41, Try.ntmps41
    go_wp2
    go_ret
    exact ⟨rfl, rfl⟩
  · have f1 : decide (k < 0) = false := decide_eq_false h
    have f2 : decide (65 ≤ k) = true := decide_eq_true (by omega)
    go_enter Try.func41, Try.ntmps41
    go_wp2
    go_ret
    exact ⟨rfl, rfl⟩
theorem hist_Mean (b : Nat) (cnt : Nat → Int) (n hi lo least most : Int) (hn : 0 < n) (hn1 : n < 18446744073709551616) (hN : IsNum hi lo) (w : World) (h : HistIs w b cnt n hi lo least most) :
    Calls Try.prog 40 #[.pointer (some ⟨b, 0, none⟩)] w fun e w' => e = .returned (.int .u64 (divQ hi lo n)) ∧ Below w.heap.size w w' := by
  obtain ⟨c65, c66, c67, c68, c69⟩ := h.cells
  have g1 : (n == 0) = false := by rw [beq_eq_false_iff_ne]; omega
  have U5 := cell_under c65
  have U6 := cell_under c66
  have U7 := cell_under c67
  go_enter Try.func40, Try.ntmps40
  go_wp2_with fail
  refine (hist_LenAt b n _ c65).mono ?_; rintro e w' ⟨rfl, rfl⟩
  go_wp2_with fail
  refine wp_region_quiet_under (by kernel_rfl) (by kernel_rfl) ?_
  repeat (go_big_quiet_step (((go_at_call 57; exact calls_under (wide_Div hi lo n hN (by omega) hn1 _)))))
  refine wpQuiet_nil ?_
  intro wu hw'
  obtain ⟨pq, hw''⟩ := hw'
  have hU := below_eq hw''
  clear hw'' pq
  go_wp2
  go_ret
  exact ⟨rfl, hU⟩
end Go.Proofs.Ytpedhlmcgilliaa
