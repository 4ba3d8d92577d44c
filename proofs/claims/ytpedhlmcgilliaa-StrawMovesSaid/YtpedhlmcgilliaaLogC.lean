/- logs.Of, the reference's Of, awake; the laws LogsNumbers and LogsRise. -/
import Derived.Test.YtpedhlmcgilliaaLogB
set_option linter.unusedVariables false
namespace Go.Proofs.Ytpedhlmcgilliaa
open Go.RowKit
set_option maxHeartbeats 1000000
theorem ref_LogOf (d : Int) (d0 : -9223372036854775808 ≤ d) (d1 : d ≤ 9223372036854775807) (w : World) :
    Calls Try.prog 48 #[.int .i64 d] w fun e w' => e = .returned (.int .u64 (ofN d)) ∧ w = w' := by
  have hc := clamp_bd d
  have hl := log2_draw (clampN d) hc.1 hc.2
  have ho : ((ofN d : Nat) : Int) = 268435456 - ((log2N (clampN d) : Nat) : Int) := by unfold ofN; omega
  rw [ho]
  have hl' : ((log2N (clampN d) : Nat) : Int) ≤ 268435456 := by omega
  clear hl ho
  by_cases g1 : d < 1
  · have he : Hid (1 = ((clampN d : Nat) : Int)) := by have : ((clampN d : Nat) : Int) = 1 := by unfold clampN; omega
                                                       exact this.symm
    go_enter Try.func48, Try.ntmps48
    go_wp2_with fail
    rw [he.out]
    refine (ref_Log2 (clampN d) (by omega) (by omega) _).mono ?_; rintro e w' ⟨rfl, rfl⟩
    go_wp2
    go_ret
    exact ⟨rfl, rfl⟩
  · by_cases g2 : 65536 < d
    · have he : Hid (65536 = ((clampN d : Nat) : Int)) := by have : ((clampN d : Nat) : Int) = 65536 := by unfold clampN; omega
                                                             exact this.symm
      go_enter Try.func48, Try.ntmps48
      go_wp2_with fail
      rw [he.out]
      refine (ref_Log2 (clampN d) (by omega) (by omega) _).mono ?_; rintro e w' ⟨rfl, rfl⟩
      go_wp2
      go_ret
      exact ⟨rfl, rfl⟩
    · have he : Hid (d = ((clampN d : Nat) : Int)) := by have : ((clampN d : Nat) : Int) = d := by unfold clampN; omega
                                                         exact this.symm
      obtain ⟨c, hcc⟩ : ∃ c, c = clampN d := ⟨_, rfl⟩
      rw [← hcc] at he hl' hc ⊢
      obtain rfl : d = (c : Int) := he
      clear hcc
      go_enter Try.func48, Try.ntmps48
      go_wp2_with fail
      refine (ref_Log2 c (by omega) (by omega) _).mono ?_; rintro e w' ⟨rfl, rfl⟩
      go_wp2
      go_ret
      exact ⟨rfl, rfl⟩
end Go.Proofs.Ytpedhlmcgilliaa
