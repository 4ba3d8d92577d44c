/- hist.Bucket, hist.Bounds and the law's bucket; HistBuckets. -/
import Derived.Test.YtpedhlmcgilliaaBits
import Derived.Test.YtpedhlmcgilliaaOpen2
import Derived.Test.YtpedhlmcgilliaaBitLen
import Derived.Deep.QuietTactic
import Derived.BigQuiet
set_option linter.unusedVariables false
namespace Go.Proofs.Ytpedhlmcgilliaa
open Go.RowKit
set_option maxHeartbeats 400000
theorem hist_Bucket (v : Int) (h0 : 0 ≤ v) (h1 : v < 18446744073709551616) (w : World) :
    Calls Try.prog 55 #[.int .u64 v] w fun e w' => e = .returned (.int .i64 (Lib.bitLen v.toNat)) ∧ w = w' := by
  go_enter Try.func55, Try.ntmps55
  go_wp2_with (go_at_call 72; refine (bits_Len64 _ h0 h1 _).mono ?_; rintro e w' ⟨rfl, rfl⟩)
  go_ret
  exact ⟨rfl, rfl⟩
theorem pow_toNat (k : Nat) : ((2 : Int) ^ k) = ((2 ^ k : Nat) : Int) := by rw [Int.natCast_pow]; rfl
theorem hist_BoundsMid (k : Nat) (h0 : 1 ≤ k) (h1 : k ≤ 63) (w : World) :
    Calls Try.prog 59 #[.int .i64 k] w fun e w' => e = .returned (.tuple #[.int .u64 (bLo k), .int .u64 (bHi k), .bool true]) ∧ Below w.heap.size w w' := by
  have hl := bLo_lt k (by omega)
  have hh := bHi_lt k (by omega)
  have e1 : (bLo k : Int) = IntKind.u64.wrap (2 ^ (k - 1)) := by
    have : bLo k = 2 ^ (k - 1) := by unfold bLo; rw [if_neg (by omega)]
    rw [pow_toNat, ← this, IntKind.wrap_u64]; omega
  have e2 : (bHi k : Int) = IntKind.u64.wrap (IntKind.u64.wrap (2 ^ k) - 1) := by
    have h2 : 2 ^ k ≤ 9223372036854775808 := Nat.pow_le_pow_right (n := 2) (by decide) h1
    have h3 := Nat.two_pow_pos k
    have : bHi k = 2 ^ k - 1 := rfl
    rw [pow_toNat, this, IntKind.wrap_u64, IntKind.wrap_u64]; omega
  rw [e1, e2]
  clear e1 e2 hl hh
  go_enter Try.func59, Try.ntmps59
  go_wp2
  go_quiet (fail)
  go_wp2
  go_ret3
  refine ⟨?_, below_drewN (Below.refl _ _) _⟩
  simp
theorem hist_Bounds0 (w : World) :
    Calls Try.prog 59 #[.int .i64 0] w fun e w' => e = .returned (.tuple #[.int .u64 0, .int .u64 0, .bool true]) ∧ Below w.heap.size w w' := by
  go_enter Try.func59, Try.ntmps59
  go_wp2
  go_ret3
  exact ⟨rfl, Below.refl _ _⟩
theorem hist_Bounds64 (w : World) :
    Calls Try.prog 59 #[.int .i64 64] w fun e w' => e = .returned (.tuple #[.int .u64 9223372036854775808, .int .u64 18446744073709551615, .bool true]) ∧ Below w.heap.size w w' := by
  go_enter Try.func59, Try.ntmps59
  go_wp2
  go_ret3
  exact ⟨rfl, Below.refl _ _⟩
theorem hist_BoundsNo (k : Int) (h : k < 0 ∨ 64 < k) (w : World) :
    Calls Try.prog 59 #[.int .i64 k] w fun e w' => e = .returned (.tuple #[.int .u64 0, .int .u64 0, .bool false]) ∧ Below w.heap.size w w' := by
  rcases h with h | h
  · go_enter Try.func59, Try.ntmps59
    go_wp2
    go_ret3
    exact ⟨rfl, Below.refl _ _⟩
  · have h' : ¬ k < 0 := by omega
    go_enter Try.func59, Try.ntmps59
    go_wp2
    go_ret3
    exact ⟨rfl, Below.refl _ _⟩
theorem hist_Bounds (k : Nat) (h : k ≤ 64) (w : World) :
    Calls Try.prog 59 #[.int .i64 k] w fun e w' => e = .returned (.tuple #[.int .u64 (bLo k), .int .u64 (bHi k), .bool true]) ∧ Below w.heap.size w w' := by
  rcases Nat.eq_zero_or_pos k with h0 | h0
  · subst h0
    exact hist_Bounds0 w
  · rcases Nat.lt_or_ge k 64 with h1 | h1
    · exact hist_BoundsMid k h0 (by omega) w
    · obtain rfl : k = 64 := by omega
      exact hist_Bounds64 w
def halves (v j : Nat) : Nat := v / 2 ^ j
theorem law_bucket (v : Nat) (h : (v : Int) < 18446744073709551616) (w : World) :
    Calls Try.prog 58 #[.int .u64 v] w fun e w' => e = .returned (.int .i64 (Lib.bitLen v)) ∧ w = w' := by
  have hbl := bl_le v (by omega)
  have H := fun j => bl_half v j (by omega)
  have HH := Lib.hid H
  clear H
  generalize hb : Lib.bitLen v = b at *
  have HV := Lib.hid h
  clear hb h
  go_enter Try.func58, Try.ntmps58
  go_wp2
  go_loop [0, 3, 4] (fun x n i => ∃ j : Nat, j ≤ b ∧ x = .int .u64 (halves v j) ∧ n = .int .i64 j ∧ i = .int .i64 j) (fun _ _ i => b - (intOf i).toNat)
  case atStart => exact ⟨0, by omega, by simp [halves], rfl, rfl⟩
  case round =>
    obtain ⟨j, hj, rfl, rfl, rfl⟩ := hrel
    have hd := HH.out j
    have hd' : 0 < halves v j ↔ j < b := hd
    clear hd
    obtain ⟨q, hq⟩ : ∃ q, q = halves v j := ⟨_, rfl⟩
    have hs := Lib.hid (show halves v (j + 1) = q / 2 by rw [hq]; unfold halves; rw [Nat.pow_succ, ← Nat.div_div_eq_div_mul])
    have hqb : (q : Int) < 18446744073709551616 := by
      have h1 : q ≤ v := by rw [hq]; exact Nat.div_le_self _ _
      have := HV.out
      omega
    rw [← hq] at hd' ⊢
    have hd := hd'
    clear hd' hq
    by_cases hlt : j < b
    · have hp : 0 < q := hd.2 hlt
      clear hd
      have hI : (j : Int) < 64 := by omega
      have hQ : (0 : Int) < q := by omega
      go_wp2
      go_round
      case rel => exact ⟨j + 1, by omega, by rw [hs.out]; go_num, by go_num, by go_num⟩
      case measure => simp [intOf]; omega
    · obtain rfl : j = b := by omega
      obtain rfl : q = 0 := by
        rcases Nat.eq_zero_or_pos q with h | h
        · exact h
        · exact absurd (hd.1 h) hlt
      clear hd
      by_cases h64 : j < 64
      · have hI : (j : Int) < 64 := by omega
        have hQ : ¬ (0 : Int) < ((0 : Nat) : Int) := by omega
        go_wp2
        go_ret
        exact ⟨rfl, rfl⟩
      · have hI : ¬ (j : Int) < 64 := by omega
        go_wp2
        go_ret
        exact ⟨rfl, rfl⟩
theorem hist_awake (w : World) : Calls Try.prog 35 #[] w fun e w' => e = .returned (.bool true) ∧ Below w.heap.size w w' := by
  have e3 : Lib.bitLen 5 = 3 := bl_eq 5 3 (by decide) (by decide) (by decide) (by decide)
  go_enter Try.func35, Try.ntmps35
  go_wp2_with fail
  refine (hist_Bounds 3 (by decide) _).mono ?_; rintro e w1 ⟨rfl, hx⟩
  rw [show bLo 3 = 4 from rfl, show bHi 3 = 7 from rfl]
  go_wp2_with fail
  refine (hist_Bucket 5 (by decide) (by decide) _).mono ?_; rintro e w2 ⟨rfl, rfl⟩
  rw [show (5 : Int).toNat = 5 from rfl, e3]
  go_wp2
  go_ret
  exact ⟨rfl, hx⟩
theorem law_bucket_at (v n : Nat) (h : (v : Int) < 18446744073709551616) (hn : Lib.bitLen v = n) (w : World) :
    Calls Try.prog 58 #[.int .u64 v] w fun e w' => e = .returned (.int .i64 n) ∧ w = w' := by
  subst hn; exact law_bucket v h w
end Go.Proofs.Ytpedhlmcgilliaa
