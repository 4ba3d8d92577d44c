/- hist.Bucket, hist.Bounds and the law's bucket; HistBuckets. -/
import Derived.Test.YtmlbdfcbbiclfaaBits
import Derived.Test.YtmlbdfcbbiclfaaOpen2
import Derived.Test.YtmlbdfcbbiclfaaBitLen
import Derived.Deep.QuietTactic
import Derived.BigQuiet
set_option linter.unusedVariables false
namespace Go.Proofs.Ytmlbdfcbbiclfaa
open Go.RowKit
set_option maxHeartbeats 400000
theorem hist_Bucket (v : Int) (h0 : 0 ≤ v) (h1 : v < 18446744073709551616) (w : World) :
    Calls Try.prog 14 #[.int .u64 v] w fun e w' => e = .returned (.int .i64 (Lib.bitLen v.toNat)) ∧ w = w' := by
  go_enter Try.func14, Try.ntmps14
  go_wp2_with (go_at_call 26; refine (bits_Len64 _ h0 h1 _).mono ?_; rintro e w' ⟨rfl, rfl⟩)
  go_ret
  exact ⟨rfl, rfl⟩
theorem pow_toNat (k : Nat) : ((2 : Int) ^ k) = ((2 ^ k : Nat) : Int) := by rw [Int.natCast_pow]; rfl
theorem hist_BoundsMid (k : Nat) (h0 : 1 ≤ k) (h1 : k ≤ 63) (w : World) :
    Calls Try.prog 15 #[.int .i64 k] w fun e w' => e = .returned (.tuple #[.int .u64 (bLo k), .int .u64 (bHi k), .bool true]) ∧ Below w.heap.size w w' := by
  have hl := bLo_lt k (by omega)
  have hh := bHi_lt k (by omega)
  have e1 : (bLo k : Int) = IntKind.u64.wrap (2 ^ (k - 1)) := by
    have : bLo k = 2 ^ (k - 1) := by unfold bLo; rw [if_neg (by omega)]
    rw [pow_toNat, ← this, IntKind.wrap_u64]; omega
  have e2 : (bHi k : Int) = IntKind.u64.wrap (IntKind.u64.wrap (2 ^ k) - 1) := by
    have h2 : 2 ^ k ≤ 9223372036854775808 := Nat.pow_le_pow_right (n := 2) (by decide) h1
    have h3 := Nat.two_pow_pos k
    have : bHi k = 2 ^ k - 1 := rfl
    rw [pow_toNat, this, IntKind.wrap_u64, IntKind.wrap_u64]; omega
  rw [e1, e2]
  clear e1 e2 hl hh
  go_enter Try.func15, Try.ntmps15
  go_wp2
  go_quiet (fail)
  go_wp2
  go_ret3
  refine ⟨?_, below_drewN (Below.refl _ _) _⟩
  simp
theorem hist_Bounds0 (w : World) :
    Calls Try.prog 15 #[.int .i64 0] w fun e w' => e = .returned (.tuple #[.int .u64 0, .int .u64 0, .bool true]) ∧ Below w.heap.size w w' := by
  go_enter Try.func15, Try.ntmps15
  go_wp2
  go_ret3
  exact ⟨rfl, Below.refl _ _⟩
theorem hist_Bounds64 (w : World) :
    Calls Try.prog 15 #[.int .i64 64] w fun e w' => e = .returned (.tuple #[.int .u64 9223372036854775808, .int .u64 18446744073709551615, .bool true]) ∧ Below w.heap.size w w' := by
  go_enter Try.func15, Try.ntmps15
  go_wp2
  go_ret3
  exact ⟨rfl, Below.refl _ _⟩
theorem hist_BoundsNo (k : Int) (h : k < 0 ∨ 64 < k) (w : World) :
    Calls Try.prog 15 #[.int .i64 k] w fun e w' => e = .returned (.tuple #[.int .u64 0, .int .u64 0, .bool false]) ∧ Below w.heap.size w w' := by
  rcases h with h | h
  · go_enter Try.func15, Try.ntmps15
    go_wp2
    go_ret3
    exact ⟨rfl, Below.refl _ _⟩
  · have h' : ¬ k < 0 := by omega
    go_enter Try.func15, Try.ntmps15
    go_wp2
    go_ret3
    exact ⟨rfl, Below.refl _ _⟩
theorem hist_Bounds (k : Nat) (h : k ≤ 64) (w : World) :
    Calls Try.prog 15 #[.int .i64 k] w fun e w' => e = .returned (.tuple #[.int .u64 (bLo k), .int .u64 (bHi k), .bool true]) ∧ Below w.heap.size w w' := by
  rcases Nat.eq_zero_or_pos k with h0 | h0
  · subst h0
    exact hist_Bounds0 w
  · rcases Nat.lt_or_ge k 64 with h1 | h1
    · exact hist_BoundsMid k h0 (by omega) w
    · obtain rfl : k = 64 := by omega
      exact hist_Bounds64 w
def halves (v j : Nat) : Nat := v / 2 ^ j
theorem law_bucket (v : Nat) (h : (v : Int) < 18446744073709551616) (w : World) :
    Calls Try.prog 16 #[.int .u64 v] w fun e w' => e = .returned (.int .i64 (Lib.bitLen v)) ∧ w = w' := by
  have hbl := bl_le v (by omega)
  have H := fun j => bl_half v j (by omega)
  have HH := Lib.hid H
  clear H
  generalize hb : Lib.bitLen v = b at *
  have HV := Lib.hid h
  clear hb h
  go_enter Try.func16, Try.ntmps16
  go_wp2
  go_loop [0, 3, 4] (fun x n i => ∃ j : Nat, j ≤ b ∧ x = .int .u64 (halves v j) ∧ n = .int .i64 j ∧ i = .int .i64 j) (fun _ _ i => b - (intOf i).toNat)
  case atStart => exact ⟨0, by omega, by simp [halves], rfl, rfl⟩
  case round =>
    obtain ⟨j, hj, rfl, rfl, rfl⟩ := hrel
    have hd := HH.out j
    have hd' : 0 < halves v j ↔ j < b := hd
    clear hd
    obtain ⟨q, hq⟩ : ∃ q, q = halves v j := ⟨_, rfl⟩
    have hs := Lib.hid (show halves v (j + 1) = q / 2 by rw [hq]; unfold halves; rw [Nat.pow_succ, ← Nat.div_div_eq_div_mul])
    have hqb : (q : Int) < 18446744073709551616 := by
      have h1 : q ≤ v := by rw [hq]; exact Nat.div_le_self _ _
      have := HV.out
      omega
    rw [← hq] at hd' ⊢
    have hd := hd'
    clear hd' hq
    by_cases hlt : j < b
    · have hp : 0 < q := hd.2 hlt
      clear hd
      have hI : (j : Int) < 64 := by omega
      have hQ : (0 : Int) < q := by omega
      go_wp2
      go_round
      case rel => exact ⟨j + 1, by omega, by rw [hs.out]; go_num, by go_num, by go_num⟩
      case measure => simp [intOf]; omega
    · obtain rfl : j = b := by omega
      obtain rfl : q = 0 := by
        rcases Nat.eq_zero_or_pos q with h | h
        · exact h
        · exact absurd (hd.1 h) hlt
      clear hd
      by_cases h64 : j < 64
      · have hI : (j : Int) < 64 := by omega
        have hQ : ¬ (0 : Int) < ((0 : Nat) : Int) := by omega
        go_wp2
        go_ret
        exact ⟨rfl, rfl⟩
      · have hI : ¬ (j : Int) < 64 := by omega
        go_wp2
        go_ret
        exact ⟨rfl, rfl⟩
theorem hist_awake (w : World) : Calls Try.prog 17 #[] w fun e w' => e = .returned (.bool true) ∧ Below w.heap.size w w' := by
  have e3 : Lib.bitLen 5 = 3 := bl_eq 5 3 (by decide) (by decide) (by decide) (by decide)
  go_enter Try.func17, Try.ntmps17
  go_wp2_with fail
  refine (hist_Bounds 3 (by decide) _).mono ?_; rintro e w1 ⟨rfl, hx⟩
  rw [show bLo 3 = 4 from rfl, show bHi 3 = 7 from rfl]
  go_wp2_with fail
  refine (hist_Bucket 5 (by decide) (by decide) _).mono ?_; rintro e w2 ⟨rfl, rfl⟩
  rw [show (5 : Int).toNat = 5 from rfl, e3]
  go_wp2
  go_ret
  exact ⟨rfl, hx⟩
theorem law_bucket_at (v n : Nat) (h : (v : Int) < 18446744073709551616) (hn : Lib.bitLen v = n) (w : World) :
    Calls Try.prog 16 #[.int .u64 v] w fun e w' => e = .returned (.int .i64 n) ∧ w = w' := by
  subst hn; exact law_bucket v h w
theorem histBuckets_no (w : World) (v : Nat) (h : (v : Int) < 18446744073709551616) (k : Int) (hk : k < 0 ∨ 64 < k) :
    Calls Try.prog 5 #[.int .u64 v, .int .i64 k] w fun e w' => e = .returned (.bool true) ∧ Below w.heap.size w w' := by
  have hb := bl_le v (by omega)
  have hlo := bLo_lt _ hb
  have hhi := bHi_lt _ hb
  have b1 := bl_between v (by omega)
  have e1 := Lib.hid (bl_bLo _ hb)
  have e2 := Lib.hid (bl_bHi _ hb)
  obtain ⟨b, hbb⟩ : ∃ b, b = Lib.bitLen v := ⟨_, rfl⟩
  rw [← hbb] at hb hlo hhi b1 e1 e2
  obtain ⟨x, hx⟩ : ∃ x, x = bLo b := ⟨_, rfl⟩
  obtain ⟨y, hy⟩ : ∃ y, y = bHi b := ⟨_, rfl⟩
  rw [← hx] at hlo b1 e1
  rw [← hy] at hhi b1 e2
  have HB := Lib.hid hbb
  have HX := Lib.hid hx
  have HY := Lib.hid hy
  clear hbb hx hy
  have hlo' : (x : Int) < 18446744073709551616 := by omega
  have hhi' : (y : Int) < 18446744073709551616 := by omega
  clear hlo hhi
  have i1 : decide (v < x) = false := by simp; omega
  have i2 : decide (y < v) = false := by simp; omega
  go_enter Try.func5, Try.ntmps5
  go_wp2_with fail
  refine (hist_Bucket v (by omega) h _).mono ?_; rintro e w1 ⟨rfl, rfl⟩
  rw [Int.toNat_natCast, ← HB.out]
  go_wp2_with fail
  refine (hist_Bounds b hb _).mono ?_; rintro e w1 ⟨rfl, hx1⟩
  rw [← HX.out, ← HY.out]
  go_wp2_with fail
  refine (hist_BoundsNo k hk _).mono ?_; rintro e w2 ⟨rfl, hx2⟩
  go_wp2_with fail
  refine (law_bucket_at v b h HB.out.symm _).mono ?_; rintro e w3 ⟨rfl, rfl⟩
  go_wp2_with fail
  refine (law_bucket_at x b (by omega) e1.out _).mono ?_; rintro e w3 ⟨rfl, rfl⟩
  go_wp2_with fail
  refine (law_bucket_at y b (by omega) e2.out _).mono ?_; rintro e w3 ⟨rfl, rfl⟩
  rcases hk with hk | hk
  · go_wp2_with fail
    refine (hist_awake _).mono ?_; rintro e w4 ⟨rfl, hx4⟩
    go_wp2
    go_ret
    exact ⟨rfl, below_step (below_step hx1 hx2) hx4⟩
  · have hk' : ¬ k < 0 := by omega
    go_wp2_with fail
    refine (hist_awake _).mono ?_; rintro e w4 ⟨rfl, hx4⟩
    go_wp2
    go_ret
    exact ⟨rfl, below_step (below_step hx1 hx2) hx4⟩
theorem histBuckets_mid (w : World) (v : Nat) (h : (v : Int) < 18446744073709551616) (k : Nat) (k0 : 1 ≤ k) (k1 : k ≤ 63) :
    Calls Try.prog 5 #[.int .u64 v, .int .i64 (k : Int)] w fun e w' => e = .returned (.bool true) ∧ Below w.heap.size w w' := by
  have hb := bl_le v (by omega)
  have hlo := bLo_lt _ hb
  have hhi := bHi_lt _ hb
  have b1 := bl_between v (by omega)
  have e1 := Lib.hid (bl_bLo _ hb)
  have e2 := Lib.hid (bl_bHi _ hb)
  obtain ⟨b, hbb⟩ : ∃ b, b = Lib.bitLen v := ⟨_, rfl⟩
  rw [← hbb] at hb hlo hhi b1 e1 e2
  obtain ⟨x, hx⟩ : ∃ x, x = bLo b := ⟨_, rfl⟩
  obtain ⟨y, hy⟩ : ∃ y, y = bHi b := ⟨_, rfl⟩
  rw [← hx] at hlo b1 e1
  rw [← hy] at hhi b1 e2
  have HB := Lib.hid hbb
  have HX := Lib.hid hx
  have HY := Lib.hid hy
  clear hbb hx hy
  have hlo' : (x : Int) < 18446744073709551616 := by omega
  have hhi' : (y : Int) < 18446744073709551616 := by omega
  clear hlo hhi
  have i1 : decide (v < x) = false := by simp; omega
  have i2 : decide (y < v) = false := by simp; omega
  have d1 := Lib.hid (bl_bLo k (by omega))
  have d2 := Lib.hid (bl_bHi k (by omega))
  have d3 := Lib.hid (bl_down k (by omega) k0)
  have d4 := Lib.hid (bl_up k (by omega))
  have z1 := bLo_lt k (by omega)
  have z2 := bHi_lt (k + 1) (by omega)
  have z3 : bHi k + 1 < 18446744073709551616 := by
    have h2 : 2 ^ k ≤ 9223372036854775808 := Nat.pow_le_pow_right (n := 2) (by decide) k1
    unfold bHi; omega
  have z4 : 1 ≤ bLo k := by unfold bLo; rw [if_neg (by omega)]; exact Nat.two_pow_pos _
  obtain ⟨p, hp⟩ : ∃ p, p = bLo k := ⟨_, rfl⟩
  obtain ⟨q, hq⟩ : ∃ q, q = bHi k := ⟨_, rfl⟩
  rw [← hp] at d1 d3 z1 z4
  rw [← hq] at d2 d4 z3
  have HP := Lib.hid hp
  have HQ := Lib.hid hq
  have z1' : (p : Int) < 18446744073709551616 := by omega
  have z3' : (q : Int) + 1 < 18446744073709551616 := by omega
  have z4' : (1 : Int) ≤ p := by omega
  clear hp hq z2 z1 z3 z4
  have kk0 : ((k : Int) == 0) = false := by simp; omega
  have kk64 : ((k : Int) == 64) = false := by simp; omega
  have kk1 : decide ((64 : Int) < (k : Int)) = false := decide_eq_false (by omega)
  have kk2 : decide ((k : Int) < 0) = false := decide_eq_false (by omega)
  go_enter Try.func5, Try.ntmps5
  go_wp2_with fail
  refine (hist_Bucket v (by omega) h _).mono ?_; rintro e w1 ⟨rfl, rfl⟩
  rw [Int.toNat_natCast, ← HB.out]
  go_wp2_with fail
  refine (hist_Bounds b hb _).mono ?_; rintro e w1 ⟨rfl, hx1⟩
  rw [← HX.out, ← HY.out]
  go_wp2_with fail
  refine (hist_Bounds k (by omega) _).mono ?_; rintro e w2 ⟨rfl, hx2⟩
  rw [← HP.out, ← HQ.out]
  go_wp2_with fail
  refine (law_bucket_at v b h HB.out.symm _).mono ?_; rintro e w3 ⟨rfl, rfl⟩
  go_wp2_with fail
  refine (law_bucket_at x b (by omega) e1.out _).mono ?_; rintro e w3 ⟨rfl, rfl⟩
  go_wp2_with fail
  refine (law_bucket_at y b (by omega) e2.out _).mono ?_; rintro e w3 ⟨rfl, rfl⟩
  go_wp2_with fail
  refine (law_bucket_at p k (by omega) d1.out _).mono ?_; rintro e w3 ⟨rfl, rfl⟩
  go_wp2_with fail
  refine (law_bucket_at q k (by omega) d2.out _).mono ?_; rintro e w3 ⟨rfl, rfl⟩
  go_wp2_with fail
  rw [show ((p : Int) - 1) = ((p - 1 : Nat) : Int) by omega]
  refine (law_bucket_at (p - 1) (k - 1) (by omega) d3.out _).mono ?_; rintro e w3 ⟨rfl, rfl⟩
  rw [show ((k - 1 : Nat) : Int) = (k : Int) - 1 by omega]
  go_wp2_with fail
  rw [show ((q : Int) + 1) = ((q + 1 : Nat) : Int) by omega]
  refine (law_bucket_at (q + 1) (k + 1) (by omega) d4.out _).mono ?_; rintro e w3 ⟨rfl, rfl⟩
  rw [show ((k + 1 : Nat) : Int) = (k : Int) + 1 by omega]
  go_wp2_with fail
  refine (hist_awake _).mono ?_; rintro e w4 ⟨rfl, hx4⟩
  go_wp2
  go_ret
  exact ⟨rfl, below_step (below_step hx1 hx2) hx4⟩
theorem histBuckets_0 (w : World) (v : Nat) (h : (v : Int) < 18446744073709551616) :
    Calls Try.prog 5 #[.int .u64 v, .int .i64 0] w fun e w' => e = .returned (.bool true) ∧ Below w.heap.size w w' := by
  have hb := bl_le v (by omega)
  have hlo := bLo_lt _ hb
  have hhi := bHi_lt _ hb
  have b1 := bl_between v (by omega)
  have e1 := Lib.hid (bl_bLo _ hb)
  have e2 := Lib.hid (bl_bHi _ hb)
  obtain ⟨b, hbb⟩ : ∃ b, b = Lib.bitLen v := ⟨_, rfl⟩
  rw [← hbb] at hb hlo hhi b1 e1 e2
  obtain ⟨x, hx⟩ : ∃ x, x = bLo b := ⟨_, rfl⟩
  obtain ⟨y, hy⟩ : ∃ y, y = bHi b := ⟨_, rfl⟩
  rw [← hx] at hlo b1 e1
  rw [← hy] at hhi b1 e2
  have HB := Lib.hid hbb
  have HX := Lib.hid hx
  have HY := Lib.hid hy
  clear hbb hx hy
  have hlo' : (x : Int) < 18446744073709551616 := by omega
  have hhi' : (y : Int) < 18446744073709551616 := by omega
  clear hlo hhi
  have i1 : decide (v < x) = false := by simp; omega
  have i2 : decide (y < v) = false := by simp; omega
  go_enter Try.func5, Try.ntmps5
  go_wp2_with fail
  refine (hist_Bucket v (by omega) h _).mono ?_; rintro e w1 ⟨rfl, rfl⟩
  rw [Int.toNat_natCast, ← HB.out]
  go_wp2_with fail
  refine (hist_Bounds b hb _).mono ?_; rintro e w1 ⟨rfl, hx1⟩
  rw [← HX.out, ← HY.out]
  go_wp2_with fail
  refine (hist_Bounds0 _).mono ?_; rintro e w2 ⟨rfl, hx2⟩
  go_wp2_with fail
  refine (law_bucket_at v b h HB.out.symm _).mono ?_; rintro e w3 ⟨rfl, rfl⟩
  go_wp2_with fail
  refine (law_bucket_at x b (by omega) e1.out _).mono ?_; rintro e w3 ⟨rfl, rfl⟩
  go_wp2_with fail
  refine (law_bucket_at y b (by omega) e2.out _).mono ?_; rintro e w3 ⟨rfl, rfl⟩
  go_wp2_with fail
  refine (law_bucket_at 0 0 (by decide) bl_zero _).mono ?_; rintro e w3 ⟨rfl, rfl⟩
  go_wp2_with fail
  refine (law_bucket_at 0 0 (by decide) bl_zero _).mono ?_; rintro e w3 ⟨rfl, rfl⟩
  go_wp2_with fail
  refine (law_bucket_at 1 1 (by decide) (bl_up 0 (by decide)) _).mono ?_; rintro e w3 ⟨rfl, rfl⟩
  go_wp2_with fail
  refine (hist_awake _).mono ?_; rintro e w4 ⟨rfl, hx4⟩
  go_wp2
  go_ret
  exact ⟨rfl, below_step (below_step hx1 hx2) hx4⟩
theorem histBuckets_64 (w : World) (v : Nat) (h : (v : Int) < 18446744073709551616) :
    Calls Try.prog 5 #[.int .u64 v, .int .i64 64] w fun e w' => e = .returned (.bool true) ∧ Below w.heap.size w w' := by
  have hb := bl_le v (by omega)
  have hlo := bLo_lt _ hb
  have hhi := bHi_lt _ hb
  have b1 := bl_between v (by omega)
  have e1 := Lib.hid (bl_bLo _ hb)
  have e2 := Lib.hid (bl_bHi _ hb)
  obtain ⟨b, hbb⟩ : ∃ b, b = Lib.bitLen v := ⟨_, rfl⟩
  rw [← hbb] at hb hlo hhi b1 e1 e2
  obtain ⟨x, hx⟩ : ∃ x, x = bLo b := ⟨_, rfl⟩
  obtain ⟨y, hy⟩ : ∃ y, y = bHi b := ⟨_, rfl⟩
  rw [← hx] at hlo b1 e1
  rw [← hy] at hhi b1 e2
  have HB := Lib.hid hbb
  have HX := Lib.hid hx
  have HY := Lib.hid hy
  clear hbb hx hy
  have hlo' : (x : Int) < 18446744073709551616 := by omega
  have hhi' : (y : Int) < 18446744073709551616 := by omega
  clear hlo hhi
  have i1 : decide (v < x) = false := by simp; omega
  have i2 : decide (y < v) = false := by simp; omega
  go_enter Try.func5, Try.ntmps5
  go_wp2_with fail
  refine (hist_Bucket v (by omega) h _).mono ?_; rintro e w1 ⟨rfl, rfl⟩
  rw [Int.toNat_natCast, ← HB.out]
  go_wp2_with fail
  refine (hist_Bounds b hb _).mono ?_; rintro e w1 ⟨rfl, hx1⟩
  rw [← HX.out, ← HY.out]
  go_wp2_with fail
  refine (hist_Bounds64 _).mono ?_; rintro e w2 ⟨rfl, hx2⟩
  go_wp2_with fail
  refine (law_bucket_at v b h HB.out.symm _).mono ?_; rintro e w3 ⟨rfl, rfl⟩
  go_wp2_with fail
  refine (law_bucket_at x b (by omega) e1.out _).mono ?_; rintro e w3 ⟨rfl, rfl⟩
  go_wp2_with fail
  refine (law_bucket_at y b (by omega) e2.out _).mono ?_; rintro e w3 ⟨rfl, rfl⟩
  go_wp2_with fail
  refine (law_bucket_at 9223372036854775808 64 (by decide) (bl_bLo 64 (by decide)) _).mono ?_; rintro e w3 ⟨rfl, rfl⟩
  go_wp2_with fail
  refine (law_bucket_at 18446744073709551615 64 (by decide) (bl_bHi 64 (by decide)) _).mono ?_; rintro e w3 ⟨rfl, rfl⟩
  go_wp2_with fail
  refine (law_bucket_at 9223372036854775807 63 (by decide) (bl_down 64 (by decide) (by decide)) _).mono ?_; rintro e w3 ⟨rfl, rfl⟩
  go_wp2_with fail
  refine (hist_awake _).mono ?_; rintro e w4 ⟨rfl, hx4⟩
  go_wp2
  go_ret
  exact ⟨rfl, below_step (below_step hx1 hx2) hx4⟩
theorem histBuckets_walk (w : World) (v : Int) (h0 : 0 ≤ v) (h1 : v < 18446744073709551616) (k : Int) (k0 : -9223372036854775808 ≤ k) (k1 : k ≤ 9223372036854775807) :
    Calls Try.prog 5 #[.int .u64 v, .int .i64 k] w fun e w' => e = .returned (.bool true) ∧ Below w.heap.size w w' := by
  obtain ⟨v, rfl⟩ := Int.eq_ofNat_of_zero_le h0
  by_cases hk : k < 0 ∨ 64 < k
  · exact histBuckets_no w v h1 k hk
  · obtain ⟨k, rfl⟩ := Int.eq_ofNat_of_zero_le (show 0 ≤ k by omega)
    rcases Nat.eq_zero_or_pos k with h | h
    · subst h; exact histBuckets_0 w v h1
    · by_cases h64 : k = 64
      · subst h64; exact histBuckets_64 w v h1
      · exact histBuckets_mid w v h1 k h (by omega)
end Go.Proofs.Ytmlbdfcbbiclfaa
