/- What the small functions of mix and of its reference compute. -/
import Derived.Test.YtonbmcgfbbpnkaaRows
import Derived.Test.YtonbmcgfbbpnkaaNum
import Derived.WalkKit
import Derived.WalkSpells
import Derived.WalkLawsBesides
namespace Go.Proofs.Ytonbmcgfbbpnkaa
open Go.RowKit
set_option maxHeartbeats 400000
set_option linter.unusedVariables false
theorem mix_One (x : Int) (w : World) (h0 : 0 ≤ x) (h1 : x < 18446744073709551616) :
    Calls Try.prog 46 #[.int .u64 x] w fun e w' => e = .returned (.int .u64 (mixOne x)) ∧ w = w' := by
  go_enter Try.func46, Try.ntmps46
  go_wp2
  go_ret
  exact ⟨rfl, rfl⟩
theorem ref_One (x : Int) (w : World) (h0 : 0 ≤ x) (h1 : x < 18446744073709551616) :
    Calls Try.prog 47 #[.int .u64 x] w fun e w' => e = .returned (.int .u64 (mixOne x)) ∧ w = w' := by
  go_enter Try.func47, Try.ntmps47
  go_wp2
  go_ret
  exact ⟨rfl, rfl⟩
theorem ref_unshift (x : Int) (w : World) (h0 : 0 ≤ x) (h1 : x < 18446744073709551616) :
    Calls Try.prog 122 #[.int .u64 x] w fun e w' => e = .returned (.int .u64 (mixUn x)) ∧ w = w' := by
  go_enter Try.func122, Try.ntmps122
  go_wp2
  go_ret
  exact ⟨rfl, rfl⟩
theorem ref_Back (x : Int) (w : World) (h0 : 0 ≤ x) (h1 : x < 18446744073709551616) :
    Calls Try.prog 48 #[.int .u64 x] w fun e w' => e = .returned (.int .u64 (mixBack x)) ∧ w = w' := by
  go_enter Try.func48, Try.ntmps48
  go_wp2_with fail
  refine (ref_unshift _ _ h0 h1).mono ?_; rintro e w' ⟨rfl, rfl⟩
  go_wp2_with fail
  refine (ref_unshift _ _ (wrap_bd _).1 (wrap_bd _).2).mono ?_; rintro e w' ⟨rfl, rfl⟩
  go_wp2_with fail
  refine (ref_unshift _ _ (wrap_bd _).1 (wrap_bd _).2).mono ?_; rintro e w' ⟨rfl, rfl⟩
  go_wp2
  go_ret
  exact ⟨rfl, rfl⟩
theorem mix_Draw (x : Int) (w : World) (h0 : 0 ≤ x) (h1 : x < 18446744073709551616) :
    Calls Try.prog 53 #[.int .u64 x] w fun e w' => e = .returned (.int .i64 (x / 281474976710656 + 1)) ∧ w = w' := by
  go_enter Try.func53, Try.ntmps53
  go_wp2
  go_ret
  exact ⟨rfl, rfl⟩
theorem mix_awake (w : World) :
    Calls Try.prog 49 #[] w fun e w' => e = .returned (.bool true) ∧ w = w' := by
  have e0 := mixOne_0
  have e1 := mixOne_1
  go_enter Try.func49, Try.ntmps49
  go_wp2_with (first
    | (go_at_call 46; refine (mix_One _ _ (by omega) (by omega)).mono ?_; rintro e w' ⟨rfl, rfl⟩)
    | (go_at_call 53; refine (mix_Draw _ _ (by omega) (by omega)).mono ?_; rintro e w' ⟨rfl, rfl⟩))
  go_ret
  exact ⟨rfl, rfl⟩
theorem mixOnes_walk (w : World) (x : Int) (h0 : 0 ≤ x) (h1 : x < 18446744073709551616) :
    Calls Try.prog 7 #[.int .u64 x] w fun e w' => e = .returned (.bool true) ∧ Below w.heap.size w w' := by
  have e0 := mixBack_one x h0 h1
  have b := mixOne_bd x
  obtain ⟨b1, b2⟩ := b
  go_enter Try.func7, Try.ntmps7
  go_wp2_with (first
    | (go_at_call 46; refine (mix_One _ _ (by omega) (by omega)).mono ?_; rintro e w' ⟨rfl, rfl⟩)
    | (go_at_call 47; refine (ref_One _ _ (by omega) (by omega)).mono ?_; rintro e w' ⟨rfl, rfl⟩)
    | (go_at_call 48; refine (ref_Back _ _ (by omega) (by omega)).mono ?_; rintro e w' ⟨rfl, rfl⟩)
    | (go_at_call 49; refine (mix_awake _).mono ?_; rintro e w' ⟨rfl, rfl⟩))
  go_ret
  exact ⟨rfl, Below.refl _ _⟩
end Go.Proofs.Ytonbmcgfbbpnkaa
