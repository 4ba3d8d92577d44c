/- Names and addresses that may be. -/
import Derived.Test.YtdkijmiflommeaaTreePlain
import Derived.Test.YtdkijmiflommeaaUnder
import Derived.Deep.DeepCutAuto
set_option linter.unusedVariables false
namespace Go.Proofs.Ytdkijmiflommeaa
open Go.RowKit
set_option maxHeartbeats 2000000
set_option maxRecDepth 100000
theorem tree_Name (s : ByteArray) (w : World) (hs : s.size ≤ maxLen) :
    Calls Try.prog 17 #[.string s] w fun e w' => e = .returned (.bool (nameOk s)) ∧ w = w' := by
  unfold maxLen at hs
  by_cases g1 : s.size < 1
  · have HN := Lib.hid (name_short g1)
    go_enter Try.func17, Try.ntmps17
    go_wp2
    go_ret
    exact ⟨by rw [HN.out]; rfl, rfl⟩
  by_cases g2 : 32 < s.size
  · have HN := Lib.hid (name_long g2)
    go_enter Try.func17, Try.ntmps17
    go_wp2
    go_ret
    exact ⟨by rw [HN.out]; rfl, rfl⟩
  go_enter Try.func17, Try.ntmps17
  go_wp2
  go_loop [15] (fun i => ∃ k : Nat, k ≤ s.size ∧ i = .int .i64 k ∧ Hid ((s.data.toList.take k).all chOk = true)) (fun i => s.size - (intOf i).toNat)
  case atStart => exact ⟨0, Nat.zero_le _, rfl, Lib.hid (by simp)⟩
  case round =>
    obtain ⟨k, hk, rfl, ha⟩ := hrel
    by_cases hlt : k < s.size
    · have HS := Lib.hid (fun hc => all_step hlt ha.out hc)
      have HB := Lib.hid (fun hc => name_bad (s := s) hlt hc)
      clear ha
      go_wp2
      all_goals first
        | (go_round
           case rel => exact ⟨k + 1, by omega, by go_num, Lib.hid (HS.out (by unfold chP; grind))⟩
           case measure => simp [intOf]; omega)
        | (go_ret
           exact ⟨by rw [HB.out (by unfold chP; grind)]; rfl, rfl⟩)
    · obtain rfl : k = s.size := by omega
      have HN := Lib.hid (name_good (by omega) (by omega) ha.out)
      go_wp2
      go_ret
      exact ⟨by rw [HN.out]; rfl, rfl⟩
end Go.Proofs.Ytdkijmiflommeaa
