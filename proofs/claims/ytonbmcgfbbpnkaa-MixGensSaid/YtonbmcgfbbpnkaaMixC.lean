/- The generator of mix: NewGen, Next; the law MixGens. -/
import Derived.Test.YtonbmcgfbbpnkaaMixB
set_option linter.unusedVariables false
namespace Go.Proofs.Ytonbmcgfbbpnkaa
open Go.RowKit
set_option maxHeartbeats 400000
theorem mix_NewGen (x : Int) (w : World) :
    Calls Try.prog 50 #[.int .u64 x] w fun e w' => e = .returned (.pointer (some ⟨w.heap.size, 0, none⟩)) ∧ w.alloc (.cells #[.int .u64 x] 160) = w' := by
  go_enter Try.func50, Try.ntmps50
  go_wp2
  go_ret
  exact ⟨rfl, rfl⟩
theorem gen_Next0 (w : World) :
    Calls Try.prog 51 #[.pointer none] w fun e w' => e = .returned (.int .u64 0) ∧ w = w' := by
  go_enter Try.func51, Try.ntmps51
  go_wp2
  go_ret
  exact ⟨rfl, rfl⟩
theorem gen_Next (b : Nat) (x : Int) (w : World) (hc : w.cell? ⟨b, 0, none⟩ = some (.int .u64 x)) (hf : w.frozen? ⟨b, 0, none⟩ = false) (hb : b < w.heap.size) :
    Calls Try.prog 51 #[.pointer (some ⟨b, 0, none⟩)] w fun e w' => e = .returned (.int .u64 (mixOne (IntKind.u64.wrap (x + 11400714819323198485)))) ∧ w.setCell ⟨b, 0, none⟩ (.int .u64 (IntKind.u64.wrap (x + 11400714819323198485))) = w' := by
  have bd := wrap_bd (x + 11400714819323198485)
  obtain ⟨b1, b2⟩ := bd
  go_enter Try.func51, Try.ntmps51
  go_wp2_with (go_at_call 46; refine (mix_One _ _ (by omega) (by omega)).mono ?_; rintro e w' ⟨rfl, rfl⟩)
  go_ret
  exact ⟨rfl, rfl⟩

def genAt (key : Int) : Nat → Int
  | 0 => key
  | k + 1 => IntKind.u64.wrap (genAt key k + 11400714819323198485)
theorem mixGens_walk (w : World) (key : Int) (h0 : 0 ≤ key) (h1 : key < 18446744073709551616) (n : Int) (n0 : -9223372036854775808 ≤ n) (n1 : n ≤ 9223372036854775807) :
    Calls Try.prog 8 #[.int .u64 key, .int .i64 n] w fun e w' => e = .returned (.bool true) ∧ Below w.heap.size w w' := by
  go_enter Try.func8, Try.ntmps8
  go_wp2_with (go_at_call 50; refine (mix_NewGen _ _).mono ?_; rintro e w' ⟨rfl, rfl⟩)
  go_loopw [7, 8] (fun at_ i wr => ∃ k : Nat, k ≤ 40 ∧ i = .int .i64 k ∧ at_ = .int .u64 (genAt key k) ∧ wr.cell? ⟨w.heap.size, 0, none⟩ = some (.int .u64 (genAt key k)) ∧ wr.frozen? ⟨w.heap.size, 0, none⟩ = false ∧ w.heap.size < wr.heap.size ∧ Below w.heap.size w wr)
    (fun _ i _ => 40 - (intOf i).toNat)
  case atStart => exact ⟨0, by omega, rfl, rfl, by simp [genAt], by simp, by simp, (Below.refl _ _).alloc (Nat.le_refl _) _⟩
  case round =>
    obtain ⟨k, hk, rfl, rfl, hc, hf, hs, hb⟩ := hrel
    have bd := wrap_bd (genAt key k + 11400714819323198485)
    obtain ⟨b1, b2⟩ := bd
    by_cases g1 : (k : Int) < n
    · by_cases g2 : k < 40
      · go_wp2_with (first
          | (go_at_call 51; refine (gen_Next _ _ _ hc hf hs).mono ?_; rintro e w' ⟨rfl, rfl⟩)
          | (go_at_call 47; refine (ref_One _ _ (by omega) (by omega)).mono ?_; rintro e w' ⟨rfl, rfl⟩))
        go_roundw
        case rel => exact ⟨k + 1, by omega, by go_num, rfl, World.cell?_setCell_same _ _ _ hc, (World.frozen?_setCell _ _ _ _).trans hf, by simpa using hs, hb.setCell (Nat.le_refl _) _⟩
        case measure => simp [intOf]; omega
      · go_wp2_with (first
          | (go_at_call 51; refine (gen_Next0 _).mono ?_; rintro e w' ⟨rfl, rfl⟩)
          | (go_at_call 49; refine (mix_awake _).mono ?_; rintro e w' ⟨rfl, rfl⟩))
        go_ret
        exact ⟨rfl, hb⟩
    · go_wp2_with (first
        | (go_at_call 51; refine (gen_Next0 _).mono ?_; rintro e w' ⟨rfl, rfl⟩)
        | (go_at_call 49; refine (mix_awake _).mono ?_; rintro e w' ⟨rfl, rfl⟩))
      go_ret
      exact ⟨rfl, hb⟩
end Go.Proofs.Ytonbmcgfbbpnkaa
