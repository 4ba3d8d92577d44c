/- The reference's Log2. -/
import Derived.Test.YtpedhlmcgilliaaLogA
set_option linter.unusedVariables false
namespace Go.Proofs.Ytpedhlmcgilliaa
open Go.RowKit
set_option maxHeartbeats 1000000
theorem ref_Log2_0 (w : World) : Calls Try.prog 67 #[.int .u64 0] w fun e w' => e = .returned (.int .u64 0) ∧ w = w' := by
  go_enter Try.func67, Try.ntmps67
  go_wp2
  go_ret
  exact ⟨rfl, rfl⟩
theorem divInt (n c : Nat) : (n : Int) / 2 ^ c = ((n / 2 ^ c : Nat) : Int) := by rw [Int.natCast_ediv, Int.natCast_pow]; rfl
def down (n m c : Nat) : Nat := n / 2 ^ (m - c)
def up (n m c : Nat) : Nat := if 31 < m then n / 2 ^ (m - 31) else n * 2 ^ (c - m)
theorem down_step (n m c : Nat) (h : c < m) : down n m c = down n m (c + 1) / 2 := by
  unfold down
  rw [show m - c = (m - (c + 1)) + 1 by omega, Nat.pow_succ, Nat.div_div_eq_div_mul]
theorem up_step (n m c : Nat) (h : m ≤ c) (hm : ¬ 31 < m) : up n m (c + 1) = up n m c * 2 := by
  unfold up
  rw [if_neg hm, if_neg hm, show c + 1 - m = (c - m) + 1 by omega, Nat.pow_succ, Nat.mul_assoc]
theorem up_le (n m c : Nat) (hm : ¬ 31 < m) (hc : c ≤ 31) : up n m c ≤ up n m 31 := by
  unfold up
  rw [if_neg hm, if_neg hm]
  exact Nat.mul_le_mul_left _ (Nat.pow_le_pow_right (by decide) (by omega))
theorem ref_Log2 (n : Nat) (h0 : 0 < n) (h : (n : Int) < 18446744073709551616) (w : World) :
    Calls Try.prog 67 #[.int .u64 n] w fun e w' => e = .returned (.int .u64 (log2N n)) ∧ w = w' := by
  obtain ⟨W1, W2, W3⟩ := whole_spec n (by omega) h0
  have hB : ∀ c, (0 < n / 2 ^ c ↔ c ≤ whole n) := fun c => by rw [bl_half n c (by omega)]; have := (bl_spec n (by omega) h0).1; unfold whole; omega
  have hL : log2N n = (lIter 24 (norm n, whole n)).2 := by unfold log2N; rw [if_neg (by omega)]
  have hI := norm_in n (by omega) h0
  have hN : norm n = up n (whole n) 31 := rfl
  have hN2 : 31 < whole n → norm n = up n (whole n) (whole n) := fun g => by unfold norm up; rw [if_pos g, if_pos g]
  rw [hL]
  have hz : ((n : Int) == 0) = false := by simp; omega
  clear hL W1 W2
  obtain ⟨m, hm⟩ : ∃ m, m = whole n := ⟨_, rfl⟩
  rw [← hm] at W3 hB hN hN2 ⊢
  have HBB := Lib.hid hB
  have HN := Lib.hid hN
  have HN2 := Lib.hid hN2
  clear hm hB hN hN2
  go_enter Try.func67, Try.ntmps67
  go_wp2
  go_loop [3, 4] (fun wh k => ∃ c : Nat, 1 ≤ c ∧ c ≤ 64 ∧ k = .int .u64 c ∧ wh = .int .u64 ((min m (c - 1) : Nat) : Int)) (fun _ k => 64 - (intOf k).toNat)
  case atStart => exact ⟨1, by omega, by omega, rfl, by simp⟩
  case round =>
    obtain ⟨c, c1, c2, rfl, rfl⟩ := hrel
    by_cases hlt : c < 64
    · have hI1 : (c : Int) < 64 := by omega
      by_cases hc : c ≤ m
      · have hT : decide ((0 : Int) < (n : Int) / 2 ^ c) = true := decide_eq_true (by rw [divInt]; have := (HBB.out c).2 hc; omega)
        go_wp2
        go_round
        case rel => exact ⟨c + 1, by omega, by omega, by go_num, by rw [show min m (c + 1 - 1) = c by omega]⟩
        case measure => simp [intOf] <;> omega
      · have hT : decide ((0 : Int) < (n : Int) / 2 ^ c) = false := decide_eq_false (by rw [divInt]; intro hh; exact hc ((HBB.out c).1 (by omega)))
        go_wp2
        go_round
        case rel => exact ⟨c + 1, by omega, by omega, by go_num, by rw [show min m (c + 1 - 1) = min m (c - 1) by omega]⟩
        case measure => simp [intOf] <;> omega
    · have hI1 : ¬ (c : Int) < 64 := by omega
      rw [show min m (c - 1) = m by omega]
      go_wp2
      go_loop [5, 6] (fun x i => ∃ d : Nat, i = .int .u64 d ∧ d ≤ m ∧ (31 ≤ d ∨ d = m) ∧ x = .int .u64 (down n m d)) (fun _ i => (intOf i).toNat)
      case atStart => exact ⟨m, rfl, Nat.le_refl _, .inr rfl, by simp [down]⟩
      case round =>
        obtain ⟨d, rfl, d1, d2, rfl⟩ := hrel
        have hdn : down n m d ≤ n := Nat.div_le_self _ _
        by_cases g : 31 < d
        · obtain ⟨d, rfl⟩ : ∃ d', d = d' + 1 := ⟨d - 1, by omega⟩
          have hs := Lib.hid (down_step n m d (by omega))
          obtain ⟨x, hx⟩ : ∃ x, x = down n m (d + 1) := ⟨_, rfl⟩
          rw [← hx] at hdn ⊢
          have HX := Lib.hid hx
          clear hx
          have hxb : (x : Int) < 18446744073709551616 := by omega
          have hI1 : (31 : Int) < (d : Int) + 1 := by omega
          clear hdn
          go_wp2
          go_round
          case rel => exact ⟨d, by simp, by omega, .inl (by omega), by rw [hs.out, ← HX.out] <;> go_num⟩
          case measure => simp [intOf] <;> omega
        · have hI1 : ¬ (31 : Int) < (d : Int) := by omega
          have hup : down n m d = up n m m := by
            unfold down up
            split
            · rw [show d = 31 by omega]
            · rw [show d = m by omega, Nat.sub_self, Nat.pow_zero, Nat.div_one, Nat.mul_one]
          rw [hup]
          clear hup hdn
          go_wp2
          go_loop [5, 7] (fun x i => ∃ c : Nat, i = .int .u64 c ∧ m ≤ c ∧ (c ≤ 31 ∨ c = m) ∧ x = .int .u64 (up n m c)) (fun _ i => 64 - (intOf i).toNat)
          case atStart => exact ⟨m, rfl, Nat.le_refl _, .inr rfl, rfl⟩
          case round =>
            obtain ⟨c, rfl, c1, c2, rfl⟩ := hrel
            by_cases g3 : c < 31
            · have hs := Lib.hid (up_step n m c c1 (by omega))
              have hle := up_le n m (c + 1) (by omega) (by omega)
              rw [hs.out] at hle
              rw [HN.out] at hI
              have hb2 : (up n m c : Int) * 2 < 4294967296 := by have := hI.2; omega
              obtain ⟨x, hx⟩ : ∃ x, x = up n m c := ⟨_, rfl⟩
              rw [← hx] at hb2 ⊢
              have HX := Lib.hid hx
              clear hx hle hI
              have hI3 : (c : Int) < 31 := by omega
              go_wp2
              go_round
              case rel => exact ⟨c + 1, by go_num, by omega, .inl (by omega), by rw [hs.out, ← HX.out]; go_num⟩
              case measure => simp [intOf] <;> omega
            · have hI3 : ¬ (c : Int) < 31 := by omega
              have hup : up n m c = norm n := by
                by_cases g4 : 31 < m
                · rw [HN2.out g4, show c = m by omega]
                · rw [HN.out, show c = 31 by omega]
              rw [hup]
              clear hup
              obtain ⟨x0, hx0⟩ : ∃ x, x = norm n := ⟨_, rfl⟩
              rw [← hx0] at hI ⊢
              have HX0 := Lib.hid hx0
              clear hx0
              go_wp2
              go_loop [5, 8, 9] (fun x o i => ∃ k : Nat, k ≤ 24 ∧ i = .int .i64 k ∧ x = .int .u64 (lIter k (x0, m)).1 ∧ o = .int .u64 (lIter k (x0, m)).2) (fun _ _ i => 24 - (intOf i).toNat)
              case atStart => exact ⟨0, by omega, rfl, rfl, rfl⟩
              case round =>
                obtain ⟨k, hk, rfl, rfl, rfl⟩ := hrel
                have hi := lIter_in (p := (x0, m)) hI k
                have ho := lIter_out (p := (x0, m)) (m := 64) (show m < 64 by omega) k
                have hst := Lib.hid (lIter_step (x0, m) k)
                by_cases hlt : k < 24
                · have hp : 2 ^ k ≤ 8388608 := Nat.pow_le_pow_right (n := 2) (by decide) (show k ≤ 23 by omega)
                  have hsq := sq_bd hi
                  obtain ⟨x, hx⟩ : ∃ x, x = (lIter k (x0, m)).1 := ⟨_, rfl⟩
                  obtain ⟨o, hoo⟩ : ∃ o, o = (lIter k (x0, m)).2 := ⟨_, rfl⟩
                  rw [← hx] at hi hsq ⊢
                  rw [← hoo] at ho ⊢
                  have HX := Lib.hid hx
                  have HO := Lib.hid hoo
                  have hs2 : (x : Int) * x ≤ 18446744065119617025 := by rw [← Int.natCast_mul]; omega
                  have hs1 : (0 : Int) ≤ (x : Int) * x := by rw [← Int.natCast_mul]; omega
                  have ho2 : (o : Int) < 536870912 := by omega
                  have hI1 : (k : Int) < 24 := by omega
                  by_cases c : 4294967296 ≤ x * x / 2147483648
                  · have c' : (4294967296 : Int) ≤ (x : Int) * x / 2147483648 := by rw [← Int.natCast_mul]; omega
                    have hr := Lib.hid (show lIter (k + 1) (x0, m) = (x * x / 2147483648 / 2, 2 * o + 1) by rw [hst.out, lx, ← HX.out, ← HO.out, if_pos c])
                    clear hx hoo hst hsq hi ho hp c
                    go_wp2
                    go_round
                    case rel => exact ⟨k + 1, by omega, by go_num, by rw [hr.out]; simp [Int.natCast_ediv, Int.natCast_mul], by rw [hr.out]; go_num⟩
                    case measure => simp [intOf] <;> omega
                  · have c' : ¬ (4294967296 : Int) ≤ (x : Int) * x / 2147483648 := by rw [← Int.natCast_mul]; omega
                    have hr := Lib.hid (show lIter (k + 1) (x0, m) = (x * x / 2147483648, 2 * o) by rw [hst.out, lx, ← HX.out, ← HO.out, if_neg c])
                    clear hx hoo hst hsq hi ho hp c
                    go_wp2
                    go_round
                    case rel => exact ⟨k + 1, by omega, by go_num, by rw [hr.out]; simp [Int.natCast_ediv, Int.natCast_mul], by rw [hr.out]; go_num⟩
                    case measure => simp [intOf] <;> omega
                · obtain rfl : k = 24 := by omega
                  go_wp2
                  go_ret
                  exact ⟨by rw [← HX0.out]; rfl, rfl⟩
end Go.Proofs.Ytpedhlmcgilliaa
