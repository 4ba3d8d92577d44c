/- logs.Of, the reference's Of, awake; the laws LogsNumbers and LogsRise. -/
import Derived.Test.YtonbmcgfbbpnkaaLogB
set_option linter.unusedVariables false
namespace Go.Proofs.Ytonbmcgfbbpnkaa
open Go.RowKit
set_option maxHeartbeats 1000000
theorem logs_Of (d : Int) (d0 : -9223372036854775808 ≤ d) (d1 : d ≤ 9223372036854775807) (w : World) :
    Calls Try.prog 62 #[.int .i64 d] w fun e w' => e = .returned (.int .u64 (ofN d)) ∧ w = w' := by
  have hc := clamp_bd d
  have hl := log2_draw (clampN d) hc.1 hc.2
  have he : ((clampN d : Nat) : Int) = min (max d 1) 65536 := by unfold clampN; omega
  have ho : ((ofN d : Nat) : Int) = 268435456 - ((log2N (clampN d) : Nat) : Int) := by unfold ofN; omega
  rw [ho]
  have hl' : ((log2N (clampN d) : Nat) : Int) ≤ 268435456 := by omega
  have HE := Lib.hid he
  clear he hl ho
  go_enter Try.func62, Try.ntmps62
  go_wp2_with fail
  rw [← HE.out]
  refine (logs_Log2 (clampN d) (by omega) (by omega) _).mono ?_; rintro e w' ⟨rfl, rfl⟩
  go_wp2
  go_ret
  exact ⟨rfl, rfl⟩
theorem ref_LogOf (d : Int) (d0 : -9223372036854775808 ≤ d) (d1 : d ≤ 9223372036854775807) (w : World) :
    Calls Try.prog 63 #[.int .i64 d] w fun e w' => e = .returned (.int .u64 (ofN d)) ∧ w = w' := by
  have hc := clamp_bd d
  have hl := log2_draw (clampN d) hc.1 hc.2
  have ho : ((ofN d : Nat) : Int) = 268435456 - ((log2N (clampN d) : Nat) : Int) := by unfold ofN; omega
  rw [ho]
  have hl' : ((log2N (clampN d) : Nat) : Int) ≤ 268435456 := by omega
  clear hl ho
  by_cases g1 : d < 1
  · have he : Hid (1 = ((clampN d : Nat) : Int)) := by have : ((clampN d : Nat) : Int) = 1 := by unfold clampN; omega
                                                       exact this.symm
    go_enter Try.func63, Try.ntmps63
    go_wp2_with fail
    rw [he.out]
    refine (ref_Log2 (clampN d) (by omega) (by omega) _).mono ?_; rintro e w' ⟨rfl, rfl⟩
    go_wp2
    go_ret
    exact ⟨rfl, rfl⟩
  · by_cases g2 : 65536 < d
    · have he : Hid (65536 = ((clampN d : Nat) : Int)) := by have : ((clampN d : Nat) : Int) = 65536 := by unfold clampN; omega
                                                             exact this.symm
      go_enter Try.func63, Try.ntmps63
      go_wp2_with fail
      rw [he.out]
      refine (ref_Log2 (clampN d) (by omega) (by omega) _).mono ?_; rintro e w' ⟨rfl, rfl⟩
      go_wp2
      go_ret
      exact ⟨rfl, rfl⟩
    · have he : Hid (d = ((clampN d : Nat) : Int)) := by have : ((clampN d : Nat) : Int) = d := by unfold clampN; omega
                                                         exact this.symm
      obtain ⟨c, hcc⟩ : ∃ c, c = clampN d := ⟨_, rfl⟩
      rw [← hcc] at he hl' hc ⊢
      obtain rfl : d = (c : Int) := he
      clear hcc
      go_enter Try.func63, Try.ntmps63
      go_wp2_with fail
      refine (ref_Log2 c (by omega) (by omega) _).mono ?_; rintro e w' ⟨rfl, rfl⟩
      go_wp2
      go_ret
      exact ⟨rfl, rfl⟩
theorem logs_OfAt (d : Int) (m : Nat) (d0 : -9223372036854775808 ≤ d) (d1 : d ≤ 9223372036854775807) (hm : ofN d = m) (w : World) :
    Calls Try.prog 62 #[.int .i64 d] w fun e w' => e = .returned (.int .u64 m) ∧ w = w' := by
  subst hm; exact logs_Of d d0 d1 w
theorem log_awake (w : World) : Calls Try.prog 61 #[] w fun e w' => e = .returned (.bool true) ∧ w = w' := by
  go_enter Try.func61, Try.ntmps61
  go_wp2_with fail
  refine (logs_OfAt 65536 0 (by decide) (by decide) (of_pow 16 (by decide)) _).mono ?_; rintro e w' ⟨rfl, rfl⟩
  go_wp2_with fail
  refine (logs_OfAt 32768 16777216 (by decide) (by decide) (of_pow 15 (by decide)) _).mono ?_; rintro e w' ⟨rfl, rfl⟩
  go_wp2
  go_ret
  exact ⟨rfl, rfl⟩
theorem logsNumbers_walk (w : World) (n : Int) (h0 : 0 ≤ n) (h1 : n < 18446744073709551616) :
    Calls Try.prog 11 #[.int .u64 n] w fun e w' => e = .returned (.bool true) ∧ Below w.heap.size w w' := by
  obtain ⟨n, rfl⟩ := Int.eq_ofNat_of_zero_le h0
  rcases Nat.eq_zero_or_pos n with h | h
  · subst h
    go_enter Try.func11, Try.ntmps11
    go_wp2_with (first
      | (go_at_call 59; refine (logs_Log2_0 _).mono ?_; rintro e w' ⟨rfl, rfl⟩)
      | (go_at_call 60; refine (ref_Log2_0 _).mono ?_; rintro e w' ⟨rfl, rfl⟩)
      | (go_at_call 61; refine (log_awake _).mono ?_; rintro e w' ⟨rfl, rfl⟩))
    go_ret
    exact ⟨rfl, Below.refl _ _⟩
  · go_enter Try.func11, Try.ntmps11
    go_wp2_with fail
    refine (logs_Log2 n h h1 _).mono ?_; rintro e w' ⟨rfl, rfl⟩
    go_wp2_with fail
    refine (ref_Log2 n h h1 _).mono ?_; rintro e w' ⟨rfl, rfl⟩
    go_wp2_with fail
    refine (log_awake _).mono ?_; rintro e w' ⟨rfl, rfl⟩
    go_wp2
    go_ret
    exact ⟨rfl, Below.refl _ _⟩
end Go.Proofs.Ytonbmcgfbbpnkaa
