/- The law LogsDraws. -/
import Derived.Test.YtonbmcgfbbpnkaaTableB
set_option linter.unusedVariables false
namespace Go.Proofs.Ytonbmcgfbbpnkaa
open Go.RowKit
set_option maxHeartbeats 2000000
set_option maxRecDepth 100000
theorem logsDraws_walk (w : World) (a : Int) (a0 : -9223372036854775808 ≤ a) (a1 : a ≤ 9223372036854775807) (b : Int) (b0 : -9223372036854775808 ≤ b) (b1 : b ≤ 9223372036854775807) :
    Calls Try.prog 13 #[.int .i64 a, .int .i64 b] w fun e w' => e = .returned (.bool true) ∧ Below w.heap.size w w' := by
  go_enter Try.func13, Try.ntmps13
  go_wp2_with fail
  have hT : Tab (w.alloc (.cells #[.int .u32 0, .int .i32 0, .int .u32 0, .slice none 0 0] 77)) w.heap.size 77 := .inl (Blk.new _ _ _)
  have hW : Below w.heap.size w (w.alloc (.cells #[.int .u32 0, .int .i32 0, .int .u32 0, .slice none 0 0] 77)) := (Below.refl _ _).alloc (Nat.le_refl _) _
  generalize w.alloc (.cells #[.int .u32 0, .int .i32 0, .int .u32 0, .slice none 0 0] 77) = u at *
  obtain ⟨g, hg⟩ : ∃ g, g = w.heap.size := ⟨_, rfl⟩
  rw [← hg] at hT ⊢
  have HG := Lib.hid hg
  clear hg
  obtain ⟨A, hA⟩ : ∃ A, A = ofN a := ⟨_, rfl⟩
  obtain ⟨B, hB⟩ : ∃ B, B = ofN b := ⟨_, rfl⟩
  have L1 := fun w => logs_OfAt a A a0 a1 hA.symm w
  have L2 : ∀ w, Calls Try.prog 63 #[.int .i64 a] w fun e w' => e = .returned (.int .u64 A) ∧ w = w' := fun w => by rw [hA]; exact ref_LogOf a a0 a1 w
  have L3 : ∀ w, Calls Try.prog 63 #[.int .i64 b] w fun e w' => e = .returned (.int .u64 B) ∧ w = w' := fun w => by rw [hB]; exact ref_LogOf b b0 b1 w
  have L4 := fun w h => table_At g 77 a w h
  have L5 := fun w h => table_At g 77 b w h
  rw [← hA] at L4
  rw [← hB] at L5
  clear hA hB
  refine (L1 _).mono ?_; rintro e w' ⟨rfl, rfl⟩
  go_wp2_with fail
  refine (L2 _).mono ?_; rintro e w' ⟨rfl, rfl⟩
  go_wp2_with fail
  refine (L4 _ hT).mono ?_; rintro e w' ⟨rfl, hT1, hM1⟩
  go_wp2_with fail
  refine (L2 _).mono ?_; rintro e w' ⟨rfl, rfl⟩
  go_wp2_with fail
  refine (L5 _ (.inr hT1)).mono ?_; rintro e w' ⟨rfl, hT2, hM2⟩
  go_wp2_with fail
  refine (L3 _).mono ?_; rintro e w' ⟨rfl, rfl⟩
  go_wp2_with fail
  refine (table_At_nil _ _).mono ?_; rintro e w' ⟨rfl, rfl⟩
  go_wp2_with fail
  refine (log_awake _).mono ?_; rintro e w' ⟨rfl, rfl⟩
  go_wp2
  go_ret
  exact ⟨rfl, below_thenMod hW (Nat.le_refl _) (hM1.trans hM2) (fun i hi => by rw [hi, HG.out]; exact Nat.le_refl _)⟩
end Go.Proofs.Ytonbmcgfbbpnkaa
