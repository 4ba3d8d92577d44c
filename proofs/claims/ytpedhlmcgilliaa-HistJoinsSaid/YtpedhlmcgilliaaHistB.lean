/- A histogram that nobody made. -/
import Derived.Test.YtpedhlmcgilliaaHistA
import Derived.Test.YtpedhlmcgilliaaObj
set_option linter.unusedVariables false
namespace Go.Proofs.Ytpedhlmcgilliaa
open Go.RowKit
set_option maxHeartbeats 2000000
set_option maxRecDepth 100000
theorem hist_AddNil (v : Value) (w : World) : Calls Try.prog 32 #[.pointer none, v] w fun e w' => e = .returned (.tuple #[]) ∧ w = w' := by
  go_enter Try.func32, Try.ntmps32
  go_wp2
  first | (go_end0; exact ⟨rfl, rfl⟩) | (simp only [Exit.inBlock, Exit.then]; refine bodyPost_ret (results_none rfl _ _ _) rfl ⟨rfl, rfl⟩) | (refine bodyPost_ret (results_none rfl _ _ _) rfl ⟨rfl, rfl⟩)
theorem hist_JoinNil (v : Value) (w : World) : Calls Try.prog 36 #[.pointer none, v] w fun e w' => e = .returned (.tuple #[]) ∧ w = w' := by
  go_enter Try.func36, Try.ntmps36
  go_wp2
  first | (go_end0; exact ⟨rfl, rfl⟩) | (simp only [Exit.inBlock, Exit.then]; refine bodyPost_ret (results_none rfl _ _ _) rfl ⟨rfl, rfl⟩) | (refine bodyPost_ret (results_none rfl _ _ _) rfl ⟨rfl, rfl⟩)
theorem hist_ClearNil (w : World) : Calls Try.prog 37 #[.pointer none] w fun e w' => e = .returned (.tuple #[]) ∧ w = w' := by
  go_enter Try.func37, Try.ntmps37
  go_wp2
  first | (go_end0; exact ⟨rfl, rfl⟩) | (simp only [Exit.inBlock, Exit.then]; refine bodyPost_ret (results_none rfl _ _ _) rfl ⟨rfl, rfl⟩) | (refine bodyPost_ret (results_none rfl _ _ _) rfl ⟨rfl, rfl⟩)
theorem hist_EndsNil (w : World) : Calls Try.prog 38 #[.pointer none] w fun e w' => e = .returned (.tuple #[.int .u64 0, .int .u64 0]) ∧ w = w' := by
  go_enter Try.func38, Try.ntmps38
  go_wp2
  go_ret2
  exact ⟨rfl, rfl⟩
theorem hist_LenNil (w : World) : Calls Try.prog 39 #[.pointer none] w fun e w' => e = .returned (.int .u64 0) ∧ w = w' := by
  go_enter Try.func39, Try.ntmps39
  go_wp2
  go_ret
  exact ⟨rfl, rfl⟩
theorem hist_LenAt (b : Nat) (n : Int) (w : World) (hc : w.cell? ⟨b, 65, none⟩ = some (.int .u64 n)) : Calls Try.prog 39 #[.pointer (some ⟨b, 0, none⟩)] w fun e w' => e = .returned (.int .u64 n) ∧ w = w' := by
  go_enter Try.func39, Try.ntmps39
  go_wp2
  go_ret
  exact ⟨rfl, rfl⟩
theorem hist_MeanNil (w : World) : Calls Try.prog 40 #[.pointer none] w fun e w' => e = .returned (.int .u64 0) ∧ w = w' := by
  go_enter Try.func40, Try.ntmps40
  go_wp2_with fail
  refine (hist_LenNil _).mono ?_; rintro e w' ⟨rfl, rfl⟩
  go_wp2
  go_ret
  exact ⟨rfl, rfl⟩
theorem hist_CountNil (k : Int) (w : World) : Calls Try.prog 41 #[.pointer none, .int .i64 k] w fun e w' => e = .returned (.int .u64 0) ∧ w = w' := by
  go_enter Try.func41, Try.ntmps41
  go_wp2
  go_ret
  exact ⟨rfl, rfl⟩
theorem hist_QuantileNil (k : Int) (w : World) : Calls Try.prog 42 #[.pointer none, .int .i64 k] w fun e w' => e = .returned (.int .i64 (-1)) ∧ w = w' := by
  go_enter Try.func42, Try.ntmps42
  go_wp2_with fail
  refine (hist_LenNil _).mono ?_; rintro e w' ⟨rfl, rfl⟩
  go_wp2
  go_ret
  exact ⟨rfl, rfl⟩
theorem hist_JoinNone (b g : Nat) (w : World) (hc : w.cell? ⟨g, 0, none⟩ = some (.pointer none)) : Calls Try.prog 36 #[.pointer (some ⟨b, 0, none⟩), .slice (some ⟨g, 0, none⟩) 1 1] w fun e w' => e = .returned (.tuple #[]) ∧ w = w' := by
  go_enter Try.func36, Try.ntmps36
  go_wp2
  go_loop [14] (fun i => ∃ k : Nat, k ≤ 1 ∧ i = .int .i64 k) (fun i => 1 - (intOf i).toNat)
  case atStart => exact ⟨0, Nat.zero_le _, rfl⟩
  case round =>
    obtain ⟨k, hk, rfl⟩ := hrel
    by_cases hlt : k < 1
    · obtain rfl : k = 0 := by omega
      go_wp2_with fail
      refine (hist_LenNil _).mono ?_; rintro e w' ⟨rfl, rfl⟩
      go_wp2
      go_round
      case rel => exact ⟨1, Nat.le_refl _, by go_num⟩
      case measure => simp [intOf]
    · obtain rfl : k = 1 := by omega
      go_wp2
      first | (go_end0; exact ⟨rfl, rfl⟩) | (refine bodyPost_ret (results_nil rfl _ _ _) rfl ⟨rfl, rfl⟩)
theorem histNobody_walk (w : World) (v : Int) (v0 : 0 ≤ v) (v1 : v < 18446744073709551616) (k : Int) (k0 : -9223372036854775808 ≤ k) (k1 : k ≤ 9223372036854775807) :
    Calls Try.prog 10 #[.int .u64 v, .int .i64 k] w fun e w' => e = .returned (.bool true) ∧ Below w.heap.size w w' := by
  go_enter Try.func10, Try.ntmps10
  go_wp2_with fail
  refine (hist_AddNil _ _).mono ?_; rintro e w' ⟨rfl, rfl⟩
  go_wp2_with fail
  refine (hist_JoinNil _ _).mono ?_; rintro e w' ⟨rfl, rfl⟩
  go_wp2_with fail
  refine (hist_ClearNil _).mono ?_; rintro e w' ⟨rfl, rfl⟩
  go_wp2_with fail
  refine (hist_EndsNil _).mono ?_; rintro e w' ⟨rfl, rfl⟩
  go_wp2_with fail
  have hX := (Blk.new (((w.alloc (.cells #[.int .u64 v] 22)).alloc (.cells Try.zeroCells80 80)).alloc (.cells #[.pointer (some ⟨w.heap.size + 1, 0, none⟩)] 75)) 80 Try.zeroCells80).alloc (.cells #[.pointer none] 75)
  have hG := Blk.new ((((w.alloc (.cells #[.int .u64 v] 22)).alloc (.cells Try.zeroCells80 80)).alloc (.cells #[.pointer (some ⟨w.heap.size + 1, 0, none⟩)] 75)).alloc (.cells Try.zeroCells80 80)) 75 #[.pointer none]
  have hW : Below w.heap.size w (((((w.alloc (.cells #[.int .u64 v] 22)).alloc (.cells Try.zeroCells80 80)).alloc (.cells #[.pointer (some ⟨w.heap.size + 1, 0, none⟩)] 75)).alloc (.cells Try.zeroCells80 80)).alloc (.cells #[.pointer none] 75)) := by go_grown
  simp only [World.size_alloc] at hX hG
  generalize ((((w.alloc (.cells #[.int .u64 v] 22)).alloc (.cells Try.zeroCells80 80)).alloc (.cells #[.pointer (some ⟨w.heap.size + 1, 0, none⟩)] 75)).alloc (.cells Try.zeroCells80 80)).alloc (.cells #[.pointer none] 75) = u at *
  have c65 : u.cell? ⟨w.heap.size + 1 + 1 + 1, 65, none⟩ = some (.int .u64 0) := (hX.cell 65).trans (by kernel_rfl)
  refine (hist_JoinNone _ _ _ (hG.cell 0)).mono ?_; rintro e w' ⟨rfl, rfl⟩
  go_wp2_with fail
  refine (hist_LenNil _).mono ?_; rintro e w' ⟨rfl, rfl⟩
  go_wp2_with fail
  refine (hist_MeanNil _).mono ?_; rintro e w' ⟨rfl, rfl⟩
  go_wp2_with fail
  refine (hist_CountNil _ _).mono ?_; rintro e w' ⟨rfl, rfl⟩
  go_wp2_with fail
  refine (hist_LenAt _ 0 _ c65).mono ?_; rintro e w' ⟨rfl, rfl⟩
  go_wp2_with fail
  refine (hist_QuantileNil _ _).mono ?_; rintro e w' ⟨rfl, rfl⟩
  go_wp2_with fail
  refine (hist_awake _).mono ?_; rintro e w9 ⟨rfl, hx⟩
  go_wp2
  go_ret
  exact ⟨rfl, below_step hW hx⟩
end Go.Proofs.Ytpedhlmcgilliaa
