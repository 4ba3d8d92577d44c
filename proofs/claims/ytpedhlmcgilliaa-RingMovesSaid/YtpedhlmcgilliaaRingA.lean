/- Primes. -/
import Derived.Test.YtpedhlmcgilliaaUnder
import Derived.Deep.DeepCutAuto
import Derived.Deep.LoopGhost
set_option linter.unusedVariables false
namespace Go.Proofs.Ytpedhlmcgilliaa
open Go.RowKit
set_option maxHeartbeats 4000000
set_option maxRecDepth 100000
def primeP (n : Nat) : Prop := 2 ≤ n ∧ ∀ k, k < n → 2 ≤ k → n % k ≠ 0
instance (n : Nat) : Decidable (primeP n) := by unfold primeP; infer_instance
def noneTo (n k : Nat) : Prop := ∀ j, j < k → 2 ≤ j → n % j ≠ 0
theorem prime_no {n k : Nat} (h2 : 2 ≤ k) (hk : k * k ≤ n) (hm : n % k = 0) : ¬ primeP n := fun h => by
  have hkn : k < n := by
    rcases Nat.lt_or_ge k n with h1 | h1
    · exact h1
    · have := Nat.mul_le_mul_right k h2; omega
  exact h.2 k hkn h2 hm
theorem prime_yes {n k : Nat} (hn : 2 ≤ n) (h : noneTo n k) (hk : n < k * k) : primeP n := by
  refine ⟨hn, fun d hd h2 hm => ?_⟩
  have hdv : d * (n / d) = n := by have := Nat.div_add_mod n d; rw [hm] at this; omega
  rcases Nat.lt_or_ge d k with h1 | h1
  · exact h d h1 h2 hm
  · obtain ⟨q, hq0⟩ : ∃ q, q = n / d := ⟨_, rfl⟩
    rw [← hq0] at hdv
    have hq : q < k := by
      rcases Nat.lt_or_ge q k with h3 | h3
      · exact h3
      · have := Nat.mul_le_mul h1 h3
        rw [hdv] at this
        omega
    have hq2 : 2 ≤ q := by
      rcases Nat.lt_or_ge q 2 with h3 | h3
      · have h4 : q = 0 ∨ q = 1 := by omega
        rcases h4 with h4 | h4
        · rw [h4] at hdv; simp at hdv; omega
        · rw [h4] at hdv; simp at hdv; omega
      · exact h3
    refine h q hq hq2 ?_
    rw [← hdv]
    exact Nat.mul_mod_left d q
theorem sq_le {n k : Nat} (h2 : 2 ≤ k) : k ≤ n / k ↔ k * k ≤ n := by
  rw [Nat.le_div_iff_mul_le (by omega)]
theorem none_step {n k : Nat} (h : noneTo n k) (hm : n % k ≠ 0) : noneTo n (k + 1) := fun j hj h2 => by
  rcases Nat.lt_or_ge j k with h1 | h1
  · exact h j h1 h2
  · obtain rfl : j = k := by omega
    exact hm
theorem ring_Prime (n : Int) (hn : n ≤ 9223372036854775807) (w : World) : Calls Try.prog 19 #[.int .i64 n] w fun e w' => e = .returned (.bool (decide (primeP n.toNat))) ∧ w = w' := by
  by_cases h2 : n < 2
  · have g1 : decide (n < 2) = true := decide_eq_true h2
    have HE := Lib.hid (show decide (primeP n.toNat) = false from decide_eq_false (fun h => by have := h.1; omega))
    go_enter Try.func19, Try.ntmps19
    go_wp2
    go_ret
    exact ⟨by rw [HE.out]; rfl, rfl⟩
  · obtain ⟨N, rfl⟩ : ∃ N : Nat, n = N := ⟨n.toNat, by omega⟩
    rw [Int.toNat_natCast]
    have g1 : decide ((N : Int) < 2) = false := decide_eq_false h2
    have hN2 : 2 ≤ N := by omega
    obtain ⟨R, hR⟩ : ∃ R, R = decide (primeP N) := ⟨_, rfl⟩
    rw [← hR]
    have HR := Lib.hid hR
    clear hR
    go_enter Try.func19, Try.ntmps19
    go_wp2
    go_loopg [3] (N + 1 - 2) (fun gk s3 wr => ∃ k : Nat, 2 ≤ k ∧ k ≤ N + 1 ∧ gk = N + 1 - k ∧ s3 = .int .i64 k ∧ w = wr ∧ Hid (noneTo N k))
    case atStart => exact ⟨2, Nat.le_refl _, by omega, rfl, rfl, rfl, Lib.hid (fun j h1 h2 => by omega)⟩
    case round =>
      obtain ⟨k, hk2, hkN, rfl, rfl, rfl, HK⟩ := hrel
      have hq : (N : Int).tdiv (k : Int) = ((N / k : Nat) : Int) := by rw [Int.tdiv_eq_ediv_of_nonneg (by omega)]; rfl
      have hr : (N : Int).tmod (k : Int) = ((N % k : Nat) : Int) := by rw [Int.tmod_eq_emod_of_nonneg (by omega)]; rfl
      have hqb : N / k ≤ N / 2 := Nat.div_le_div_left hk2 (by decide)
      have hrb : N % k ≤ N := Nat.mod_le _ _
      have hk0 : ¬ (k : Int) = 0 := by omega
      have HSQ := Lib.hid (sq_le (n := N) hk2)
      have HM0 := Lib.hid (rfl : N % k = N % k)
      obtain ⟨Q, hQ⟩ : ∃ Q, Q = N / k := ⟨_, rfl⟩
      obtain ⟨M, hM⟩ : ∃ M, M = N % k := ⟨_, rfl⟩
      rw [← hQ] at hq hqb HSQ
      rw [← hM] at hr hrb
      have HMM := Lib.hid hM
      clear hQ hM HM0
      by_cases hle : k ≤ Q
      · have g2 : decide ((k : Int) ≤ (Q : Int)) = true := decide_eq_true (by omega)
        have hsq := HSQ.out.1 hle
        have hkN2 : k ≤ N := by omega
        by_cases hm : M = 0
        · have g3 : ((M : Int) == 0) = true := by rw [beq_iff_eq]; omega
          have HE := Lib.hid (show R = false from HR.out.trans (decide_eq_false (prime_no hk2 hsq (by rw [← HMM.out]; exact hm))))
          clear hsq hm hkN2
          go_wp2
          go_ret
          exact ⟨by rw [HE.out]; rfl, rfl⟩
        · have g3 : ((M : Int) == 0) = false := by rw [beq_eq_false_iff_ne]; omega
          have HK2 := Lib.hid (none_step HK.out (by rw [← HMM.out]; exact hm))
          clear hsq
          go_wp2
          go_roundg (N + 1 - (k + 1))
          case measure => omega
          case rel => exact ⟨k + 1, by omega, by omega, rfl, by go_num, rfl, HK2⟩
      · have g2 : decide ((k : Int) ≤ (Q : Int)) = false := decide_eq_false (by omega)
        have HE := Lib.hid (show R = true from HR.out.trans (decide_eq_true (prime_yes hN2 HK.out (by have := HSQ.out; omega))))
        go_wp2
        go_ret
        exact ⟨by rw [HE.out]; rfl, rfl⟩
theorem law_prime (n : Int) (hn : n ≤ 1048576) (w : World) : Calls Try.prog 20 #[.int .i64 n] w fun e w' => e = .returned (.bool (decide (primeP n.toNat))) ∧ w = w' := by
  by_cases h2 : n < 2
  · have g1 : decide (n < 2) = true := decide_eq_true h2
    have HE := Lib.hid (show decide (primeP n.toNat) = false from decide_eq_false (fun h => by have := h.1; omega))
    go_enter Try.func20, Try.ntmps20
    go_wp2
    go_ret
    exact ⟨by rw [HE.out]; rfl, rfl⟩
  · obtain ⟨N, rfl⟩ : ∃ N : Nat, n = N := ⟨n.toNat, by omega⟩
    rw [Int.toNat_natCast]
    have g1 : decide ((N : Int) < 2) = false := decide_eq_false h2
    have hN2 : 2 ≤ N := by omega
    obtain ⟨R, hR⟩ : ∃ R, R = decide (primeP N) := ⟨_, rfl⟩
    rw [← hR]
    have HR := Lib.hid hR
    clear hR
    go_enter Try.func20, Try.ntmps20
    go_wp2
    go_loopg [3] (N + 1 - 2) (fun gk s3 wr => ∃ k : Nat, 2 ≤ k ∧ k ≤ N + 1 ∧ gk = N + 1 - k ∧ s3 = .int .i64 k ∧ w = wr ∧ Hid (noneTo N k))
    case atStart => exact ⟨2, Nat.le_refl _, by omega, rfl, rfl, rfl, Lib.hid (fun j h1 h2 => by omega)⟩
    case round =>
      obtain ⟨k, hk2, hkN, rfl, rfl, rfl, HK⟩ := hrel
      have hr : (N : Int).tmod (k : Int) = ((N % k : Nat) : Int) := by rw [Int.tmod_eq_emod_of_nonneg (by omega)]; rfl
      have hrb : N % k ≤ N := Nat.mod_le _ _
      have hk0 : ¬ (k : Int) = 0 := by omega
      have hkk : k * k ≤ 1048577 * 1048577 := Nat.mul_le_mul (by omega) (by omega)
      have hq : (k : Int) * (k : Int) = ((k * k : Nat) : Int) := by simp
      obtain ⟨Q, hQ⟩ : ∃ Q, Q = k * k := ⟨_, rfl⟩
      obtain ⟨M, hM⟩ : ∃ M, M = N % k := ⟨_, rfl⟩
      rw [← hQ] at hq hkk
      rw [← hM] at hr hrb
      have HMM := Lib.hid hM
      have HQQ := Lib.hid hQ
      have hQk : k ≤ Q := by rw [hQ]; exact Nat.le_mul_of_pos_left k (by omega)
      clear hQ hM
      by_cases hle : Q ≤ N
      · have g2 : decide ((Q : Int) ≤ (N : Int)) = true := decide_eq_true (by omega)
        have hsq : k * k ≤ N := by rw [← HQQ.out]; exact hle
        by_cases hm : M = 0
        · have g3 : ((M : Int) == 0) = true := by rw [beq_iff_eq]; omega
          have HE := Lib.hid (show R = false from HR.out.trans (decide_eq_false (prime_no hk2 hsq (by rw [← HMM.out]; exact hm))))
          clear hsq hm
          go_wp2
          go_ret
          exact ⟨by rw [HE.out]; rfl, rfl⟩
        · have g3 : ((M : Int) == 0) = false := by rw [beq_eq_false_iff_ne]; omega
          have HK2 := Lib.hid (none_step HK.out (by rw [← HMM.out]; exact hm))
          clear hsq
          go_wp2
          go_roundg (N + 1 - (k + 1))
          case measure => omega
          case rel => exact ⟨k + 1, by omega, by omega, rfl, by go_num, rfl, HK2⟩
      · have g2 : decide ((Q : Int) ≤ (N : Int)) = false := decide_eq_false (by omega)
        have HE := Lib.hid (show R = true from HR.out.trans (decide_eq_true (prime_yes hN2 HK.out (by rw [← HQQ.out]; omega))))
        go_wp2
        go_ret
        exact ⟨by rw [HE.out]; rfl, rfl⟩
end Go.Proofs.Ytpedhlmcgilliaa
