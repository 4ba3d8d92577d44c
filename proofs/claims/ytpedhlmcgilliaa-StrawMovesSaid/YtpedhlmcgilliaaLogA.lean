/- logs.Log2 and its reference. -/
import Derived.Test.YtpedhlmcgilliaaBits
import Derived.Test.YtpedhlmcgilliaaOpen2
import Derived.Test.YtpedhlmcgilliaaLogPlain
set_option linter.unusedVariables false
namespace Go.Proofs.Ytpedhlmcgilliaa
open Go.RowKit
set_option maxHeartbeats 400000
theorem or_one (m : Nat) (h : m < 4294967296) : bits .or .u64 ((m : Int) * 2) 1 = ((2 * m + 1 : Nat) : Int) := by
  have := u64_or_nat (2 * m) 1 (by omega) (by omega)
  rw [nat_join 1 (2 * m) 1 (by omega) (by omega)] at this
  rw [← this]
  congr 1
  omega
theorem logs_Log2_0 (w : World) : Calls Try.prog 76 #[.int .u64 0] w fun e w' => e = .returned (.int .u64 0) ∧ w = w' := by
  go_enter Try.func76, Try.ntmps76
  go_wp2
  go_ret
  exact ⟨rfl, rfl⟩
theorem lIter_step (p : Nat × Nat) (k : Nat) : lIter (k + 1) p = lx (lIter k p) := rfl
theorem startShl (n m x0 : Nat) (hx : x0 = n * 2 ^ (31 - m)) (hI : InX x0) : Value.int .u64 (IntKind.u64.wrap ((n : Int) * 2 ^ (31 - m))) = .int .u64 ((lIter 0 (x0, m)).1 : Nat) := by
  have e : (n : Int) * 2 ^ (31 - m) = (x0 : Int) := by rw [hx, Int.natCast_mul, Int.natCast_pow]; rfl
  obtain ⟨_, h2⟩ := hI
  rw [e, IntKind.wrap_u64]
  show Value.int .u64 _ = .int .u64 (x0 : Int)
  congr 1
  omega
theorem logs_Log2 (n : Nat) (h0 : 0 < n) (h : (n : Int) < 18446744073709551616) (w : World) :
    Calls Try.prog 76 #[.int .u64 n] w fun e w' => e = .returned (.int .u64 (log2N n)) ∧ w = w' := by
  obtain ⟨W1, W2, W3⟩ := whole_spec n (by omega) h0
  have hB : Lib.bitLen n = whole n + 1 := by have := (bl_spec n (by omega) h0).1; unfold whole; omega
  have hL : log2N n = (lIter 24 (norm n, whole n)).2 := by unfold log2N; rw [if_neg (by omega)]
  have hI := norm_in n (by omega) h0
  rw [hL]
  have HB := Lib.hid hB
  have hz : ((n : Int) == 0) = false := by simp; omega
  clear hB hL W1 W2
  obtain ⟨m, hm⟩ : ∃ m, m = whole n := ⟨_, rfl⟩
  obtain ⟨x0, hx0⟩ : ∃ x, x = norm n := ⟨_, rfl⟩
  have hX : Hid (x0 = if 31 < m then n / 2 ^ (m - 31) else n * 2 ^ (31 - m)) := by rw [hx0, hm]; exact id rfl
  rw [← hm] at HB W3 ⊢
  rw [← hx0] at hI ⊢
  clear hm hx0
  by_cases g : 31 < m
  · have g' : decide ((31 : Int) < (m : Int)) = true := by simp; omega
    go_enter Try.func76, Try.ntmps76
    go_wp2_with fail
    refine (bits_Len64 n (by omega) h _).mono ?_; rintro e w' ⟨rfl, rfl⟩
    rw [Int.toNat_natCast, HB.out]
    go_wp2
    go_loop [4, 5, 24] (fun x o i => ∃ k : Nat, k ≤ 24 ∧ i = .int .i64 k ∧ x = .int .u64 (lIter k (x0, m)).1 ∧ o = .int .u64 (lIter k (x0, m)).2) (fun _ _ i => 24 - (intOf i).toNat)
    case atStart => exact ⟨0, by omega, rfl, by rw [lIter, hX.out, if_pos g]; simp [Int.natCast_ediv], rfl⟩
    case round =>
      obtain ⟨k, hk, rfl, rfl, rfl⟩ := hrel
      have hi := lIter_in (p := (x0, m)) hI k
      have ho := lIter_out (p := (x0, m)) (m := 64) (show m < 64 by omega) k
      have hst := Lib.hid (lIter_step (x0, m) k)
      by_cases hlt : k < 24
      · have hp : 2 ^ k ≤ 8388608 := Nat.pow_le_pow_right (n := 2) (by decide) (show k ≤ 23 by omega)
        have hsq := sq_bd hi
        obtain ⟨x, hx⟩ : ∃ x, x = (lIter k (x0, m)).1 := ⟨_, rfl⟩
        obtain ⟨o, hoo⟩ : ∃ o, o = (lIter k (x0, m)).2 := ⟨_, rfl⟩
        rw [← hx] at hi hsq ⊢
        rw [← hoo] at ho ⊢
        have HX := Lib.hid hx
        have HO := Lib.hid hoo
        have hs2 : (x : Int) * x ≤ 18446744065119617025 := by rw [← Int.natCast_mul]; omega
        have hs1 : (0 : Int) ≤ (x : Int) * x := by rw [← Int.natCast_mul]; omega
        have ho2 : (o : Int) < 536870912 := by omega
        have hI1 : (k : Int) < 24 := by omega
        by_cases c : 4294967296 ≤ x * x / 2147483648
        · have c' : (4294967296 : Int) ≤ (x : Int) * x / 2147483648 := by rw [← Int.natCast_mul]; omega
          have hr := Lib.hid (show lIter (k + 1) (x0, m) = (x * x / 2147483648 / 2, 2 * o + 1) by rw [hst.out, lx, ← HX.out, ← HO.out, if_pos c])
          have hor := Lib.hid (or_one o (by omega))
          clear hx hoo hst hsq hi ho hp c
          go_wp2
          go_round
          case rel => exact ⟨k + 1, by omega, by go_num, by rw [hr.out]; simp [Int.natCast_ediv, Int.natCast_mul], by rw [hr.out]; exact congrArg (Value.int .u64) hor.out⟩
          case measure => simp [intOf]; omega
        · have c' : ¬ (4294967296 : Int) ≤ (x : Int) * x / 2147483648 := by rw [← Int.natCast_mul]; omega
          have hr := Lib.hid (show lIter (k + 1) (x0, m) = (x * x / 2147483648, 2 * o) by rw [hst.out, lx, ← HX.out, ← HO.out, if_neg c])
          clear hx hoo hst hsq hi ho hp c
          go_wp2
          go_round
          case rel => exact ⟨k + 1, by omega, by go_num, by rw [hr.out]; simp [Int.natCast_ediv, Int.natCast_mul], by rw [hr.out]; go_num⟩
          case measure => simp [intOf]; omega
      · obtain rfl : k = 24 := by omega
        go_wp2
        go_ret
        exact ⟨rfl, rfl⟩
  · have g' : decide ((31 : Int) < (m : Int)) = false := by simp; omega
    go_enter Try.func76, Try.ntmps76
    go_wp2_with fail
    refine (bits_Len64 n (by omega) h _).mono ?_; rintro e w' ⟨rfl, rfl⟩
    rw [Int.toNat_natCast, HB.out]
    go_wp2
    go_loop [4, 5, 24] (fun x o i => ∃ k : Nat, k ≤ 24 ∧ i = .int .i64 k ∧ x = .int .u64 (lIter k (x0, m)).1 ∧ o = .int .u64 (lIter k (x0, m)).2) (fun _ _ i => 24 - (intOf i).toNat)
    case atStart => exact ⟨0, by omega, rfl, startShl n m x0 (by rw [hX.out, if_neg g]) hI, rfl⟩
    case round =>
      obtain ⟨k, hk, rfl, rfl, rfl⟩ := hrel
      have hi := lIter_in (p := (x0, m)) hI k
      have ho := lIter_out (p := (x0, m)) (m := 64) (show m < 64 by omega) k
      have hst := Lib.hid (lIter_step (x0, m) k)
      by_cases hlt : k < 24
      · have hp : 2 ^ k ≤ 8388608 := Nat.pow_le_pow_right (n := 2) (by decide) (show k ≤ 23 by omega)
        have hsq := sq_bd hi
        obtain ⟨x, hx⟩ : ∃ x, x = (lIter k (x0, m)).1 := ⟨_, rfl⟩
        obtain ⟨o, hoo⟩ : ∃ o, o = (lIter k (x0, m)).2 := ⟨_, rfl⟩
        rw [← hx] at hi hsq ⊢
        rw [← hoo] at ho ⊢
        have HX := Lib.hid hx
        have HO := Lib.hid hoo
        have hs2 : (x : Int) * x ≤ 18446744065119617025 := by rw [← Int.natCast_mul]; omega
        have hs1 : (0 : Int) ≤ (x : Int) * x := by rw [← Int.natCast_mul]; omega
        have ho2 : (o : Int) < 536870912 := by omega
        have hI1 : (k : Int) < 24 := by omega
        by_cases c : 4294967296 ≤ x * x / 2147483648
        · have c' : (4294967296 : Int) ≤ (x : Int) * x / 2147483648 := by rw [← Int.natCast_mul]; omega
          have hr := Lib.hid (show lIter (k + 1) (x0, m) = (x * x / 2147483648 / 2, 2 * o + 1) by rw [hst.out, lx, ← HX.out, ← HO.out, if_pos c])
          have hor := Lib.hid (or_one o (by omega))
          clear hx hoo hst hsq hi ho hp c
          go_wp2
          go_round
          case rel => exact ⟨k + 1, by omega, by go_num, by rw [hr.out]; simp [Int.natCast_ediv, Int.natCast_mul], by rw [hr.out]; exact congrArg (Value.int .u64) hor.out⟩
          case measure => simp [intOf]; omega
        · have c' : ¬ (4294967296 : Int) ≤ (x : Int) * x / 2147483648 := by rw [← Int.natCast_mul]; omega
          have hr := Lib.hid (show lIter (k + 1) (x0, m) = (x * x / 2147483648, 2 * o) by rw [hst.out, lx, ← HX.out, ← HO.out, if_neg c])
          clear hx hoo hst hsq hi ho hp c
          go_wp2
          go_round
          case rel => exact ⟨k + 1, by omega, by go_num, by rw [hr.out]; simp [Int.natCast_ediv, Int.natCast_mul], by rw [hr.out]; go_num⟩
          case measure => simp [intOf]; omega
      · obtain rfl : k = 24 := by omega
        go_wp2
        go_ret
        exact ⟨rfl, rfl⟩
end Go.Proofs.Ytpedhlmcgilliaa
