/- Lemmas for the claim's proof: LogPlain LogA LogB LogC Once TableA. -/
import Derived.WalkKit
import Derived.Tactics
import Derived.Tactics2
import Derived.Defers
import Derived.Laws.Pointers
import Derived.Laws.LoneSync
import Derived.RegionTactic
import Derived.RegionCalls
import Derived.ChangeAlike
import Derived.StillTailTactics
import Derived.Deep.LoopGhost
import Derived.Test.YtblbgafadadbmaaQ01
import Derived.Test.YtblbgafadadbmaaQ02
import Derived.Test.YtblbgafadadbmaaQ04
import Derived.Test.YtblbgafadadbmaaQ13
section
/- The logarithm by squaring: plain. -/
namespace Go.Proofs.Ytblbgafadadbmaa
def lx (p : Nat × Nat) : Nat × Nat := if 4294967296 ≤ p.1 * p.1 / 2147483648 then (p.1 * p.1 / 2147483648 / 2, 2 * p.2 + 1) else (p.1 * p.1 / 2147483648, 2 * p.2)
def lIter : Nat → Nat × Nat → Nat × Nat
  | 0, p => p
  | k + 1, p => lx (lIter k p)
def whole (n : Nat) : Nat := Lib.bitLen n - 1
def norm (n : Nat) : Nat := if 31 < whole n then n / 2 ^ (whole n - 31) else n * 2 ^ (31 - whole n)
def log2N (n : Nat) : Nat := if n = 0 then 0 else (lIter 24 (norm n, whole n)).2
/-- In range: x has 32 bits. -/
def InX (x : Nat) : Prop := 2147483648 ≤ x ∧ x < 4294967296
theorem sq_bd {x : Nat} (h : InX x) : 4611686018427387904 ≤ x * x ∧ x * x ≤ 18446744065119617025 := by
  obtain ⟨a, b⟩ := h
  have h1 := Nat.mul_le_mul a a
  have h2 := Nat.mul_le_mul (show x ≤ 4294967295 by omega) (show x ≤ 4294967295 by omega)
  omega
theorem lx_in {p : Nat × Nat} (h : InX p.1) : InX (lx p).1 := by
  have := sq_bd h
  unfold lx
  split
  · show InX (p.1 * p.1 / 2147483648 / 2); unfold InX; omega
  · show InX (p.1 * p.1 / 2147483648); unfold InX; omega
theorem lIter_in {p : Nat × Nat} (h : InX p.1) : ∀ k, InX (lIter k p).1
  | 0 => h
  | k + 1 => lx_in (lIter_in h k)
theorem lx_out {p : Nat × Nat} {m : Nat} (h : p.2 < m) : (lx p).2 < 2 * m := by
  unfold lx
  split
  · show 2 * p.2 + 1 < 2 * m; omega
  · show 2 * p.2 < 2 * m; omega
theorem lIter_out {p : Nat × Nat} {m : Nat} (h : p.2 < m) : ∀ k, (lIter k p).2 < m * 2 ^ k
  | 0 => by simpa [lIter] using h
  | k + 1 => by
    have := lx_out (lIter_out h k)
    rw [Nat.pow_succ]
    show (lx (lIter k p)).2 < _
    rw [show m * (2 ^ k * 2) = 2 * (m * 2 ^ k) by rw [← Nat.mul_assoc]; omega]
    exact this
/-- In order, first by what stands ahead of the point. -/
def Ahead (p q : Nat × Nat) : Prop := p.2 < q.2 ∨ p.2 = q.2 ∧ p.1 ≤ q.1
theorem lx_mono {p q : Nat × Nat} (h : Ahead p q) : Ahead (lx p) (lx q) := by
  rcases h with h | ⟨h, h1⟩
  · left
    unfold lx
    split <;> split <;> simp only [] <;> omega
  · have h2 : p.1 * p.1 ≤ q.1 * q.1 := Nat.mul_le_mul h1 h1
    have h3 : p.1 * p.1 / 2147483648 ≤ q.1 * q.1 / 2147483648 := Nat.div_le_div_right h2
    unfold lx Ahead
    split <;> split <;> simp only [] <;> omega
theorem lIter_mono {p q : Nat × Nat} (h : Ahead p q) : ∀ k, Ahead (lIter k p) (lIter k q)
  | 0 => h
  | k + 1 => lx_mono (lIter_mono h k)
theorem lx_top (m : Nat) : lx (2147483648, m) = (2147483648, 2 * m) := by
  have e : 2147483648 * 2147483648 / 2147483648 = 2147483648 := Nat.mul_div_cancel _ (by omega)
  unfold lx
  simp only [e]
  rw [if_neg (by omega)]
theorem lIter_pow (p k : Nat) : lIter k (2147483648, p) = (2147483648, p * 2 ^ k) := by
  induction k with
  | zero => rw [Nat.pow_zero, Nat.mul_one]; rfl
  | succ k ih =>
    show lx (lIter k _) = _
    rw [ih, lx_top, Nat.pow_succ, show 2 * (p * 2 ^ k) = p * (2 ^ k * 2) by rw [Nat.mul_comm 2, Nat.mul_assoc]]
theorem whole_spec (n : Nat) (h : n < 18446744073709551616) (h0 : 0 < n) : 2 ^ whole n ≤ n ∧ n < 2 ^ (whole n + 1) ∧ whole n ≤ 63 := by
  obtain ⟨a, c, d⟩ := bl_spec n h h0
  have := bl_le n h
  unfold whole
  refine ⟨c, ?_, by omega⟩
  rw [show Lib.bitLen n - 1 + 1 = Lib.bitLen n by omega]
  exact d
theorem norm_in (n : Nat) (h : n < 18446744073709551616) (h0 : 0 < n) : InX (norm n) := by
  obtain ⟨a, b, c⟩ := whole_spec n h h0
  unfold norm InX
  generalize whole n = m at *
  split
  · rename_i hm
    obtain ⟨r, rfl⟩ : ∃ r, m = r + 31 := ⟨m - 31, by omega⟩
    rw [Nat.add_sub_cancel]
    have hp := Nat.two_pow_pos r
    rw [Nat.pow_add] at a
    rw [show r + 31 + 1 = r + 32 by omega, Nat.pow_add] at b
    constructor
    · rw [Nat.le_div_iff_mul_le hp, Nat.mul_comm]; exact a
    · rw [Nat.div_lt_iff_lt_mul hp, Nat.mul_comm]; exact b
  · rename_i hm
    obtain ⟨r, hr⟩ : ∃ r, 31 = m + r := ⟨31 - m, by omega⟩
    rw [show 31 - m = r by omega]
    have e : 2 ^ m * 2 ^ r = 2147483648 := by rw [← Nat.pow_add, ← hr]
    have e2 : 2 ^ (m + 1) * 2 ^ r = 4294967296 := by rw [Nat.pow_succ, Nat.mul_assoc, Nat.mul_comm 2, ← Nat.mul_assoc, e]
    constructor
    · rw [← e]; exact Nat.mul_le_mul_right _ a
    · rw [← e2]; exact Nat.mul_lt_mul_of_pos_right b (Nat.two_pow_pos _)
theorem start_mono {a b : Nat} (ha : 0 < a) (hab : a ≤ b) (hb : b < 18446744073709551616) : Ahead (norm a, whole a) (norm b, whole b) := by
  obtain ⟨a1, a2, _⟩ := whole_spec a (by omega) ha
  obtain ⟨b1, b2, _⟩ := whole_spec b hb (by omega)
  have hle : whole a ≤ whole b := by
    have : whole a < whole b + 1 := (Nat.pow_lt_pow_iff_right (a := 2) (by decide)).1 (Nat.lt_of_le_of_lt a1 (Nat.lt_of_le_of_lt hab b2))
    omega
  rcases Nat.lt_or_ge (whole a) (whole b) with h | h
  · exact .inl h
  · have e : whole a = whole b := by omega
    refine .inr ⟨e, ?_⟩
    show norm a ≤ norm b
    unfold norm
    rw [e]
    split
    · exact Nat.div_le_div_right hab
    · exact Nat.mul_le_mul_right _ hab
theorem log2_mono {a b : Nat} (ha : 0 < a) (hab : a ≤ b) (hb : b < 18446744073709551616) : log2N a ≤ log2N b := by
  unfold log2N
  rw [if_neg (by omega), if_neg (by omega)]
  rcases lIter_mono (start_mono ha hab hb) 24 with h | h <;> omega
theorem whole_pow (p : Nat) (h : p ≤ 63) : whole (2 ^ p) = p := by
  unfold whole
  have h64 : 2 ^ p ≤ 9223372036854775808 := Nat.pow_le_pow_right (n := 2) (by decide) h
  rw [bl_eq (2 ^ p) (p + 1) (by omega) (by omega) (by simp) (Nat.pow_lt_pow_right (by decide) (by omega))]
  rfl
theorem log2_pow (p : Nat) (h : p ≤ 31) : log2N (2 ^ p) = p * 16777216 := by
  unfold log2N
  rw [if_neg (by have := Nat.two_pow_pos p; omega), whole_pow p (by omega)]
  have : norm (2 ^ p) = 2147483648 := by
    unfold norm
    rw [whole_pow p (by omega), if_neg (by omega), ← Nat.pow_add, show p + (31 - p) = 31 by omega]
  rw [this, lIter_pow]
theorem log2_lt (n : Nat) (h : n < 18446744073709551616) : log2N n < 1073741824 := by
  unfold log2N
  split
  · decide
  · rename_i h0
    have := (whole_spec n h (by omega)).2.2
    have := lIter_out (p := (norm n, whole n)) (m := 64) (show whole n < 64 by omega) 24
    exact this
/-- What a draw is. -/
def clampN (d : Int) : Nat := (min (max d 1) 65536).toNat
def ofN (d : Int) : Nat := 268435456 - log2N (clampN d)
theorem clamp_bd (d : Int) : 1 ≤ clampN d ∧ clampN d ≤ 65536 := by unfold clampN; omega
theorem log2_draw (n : Nat) (h : 1 ≤ n) (h1 : n ≤ 65536) : log2N n ≤ 268435456 := by
  have := log2_mono (show 0 < n by omega) h1 (by decide)
  rw [show (65536 : Nat) = 2 ^ 16 by decide, log2_pow 16 (by decide)] at this
  exact this
theorem of_le (d : Int) : ofN d ≤ 268435456 := Nat.sub_le _ _
theorem of_mono {a b : Int} (h : a ≤ b) : ofN b ≤ ofN a := by
  have h1 : clampN a ≤ clampN b := by unfold clampN; omega
  have := log2_mono (show 0 < clampN a by have := clamp_bd a; omega) h1 (by have := clamp_bd b; omega)
  unfold ofN
  omega
theorem of_pow (p : Nat) (h : p ≤ 16) : ofN (2 ^ p : Nat) = (16 - p) * 16777216 := by
  have e : clampN ((2 ^ p : Nat) : Int) = 2 ^ p := by
    have h1 := Nat.two_pow_pos p
    have h2 : 2 ^ p ≤ 65536 := Nat.pow_le_pow_right (n := 2) (by decide) h
    unfold clampN
    omega
  unfold ofN
  rw [e, log2_pow p (by omega)]
  omega
end Go.Proofs.Ytblbgafadadbmaa
end
section
/- logs.Log2 and its reference. -/
set_option linter.unusedVariables false
namespace Go.Proofs.Ytblbgafadadbmaa
open Go.RowKit
set_option maxHeartbeats 400000
theorem or_one (m : Nat) (h : m < 4294967296) : bits .or .u64 ((m : Int) * 2) 1 = ((2 * m + 1 : Nat) : Int) := by
  have := u64_or_nat (2 * m) 1 (by omega) (by omega)
  rw [nat_join 1 (2 * m) 1 (by omega) (by omega)] at this
  rw [← this]
  congr 1
  omega
theorem logs_Log2_0 (w : World) : Calls Try.prog 99 #[.int .u64 0] w fun e w' => e = .returned (.int .u64 0) ∧ w = w' := by
  go_enter Try.func99, Try.ntmps99
  go_wp2
  go_ret
  exact ⟨rfl, rfl⟩
theorem lIter_step (p : Nat × Nat) (k : Nat) : lIter (k + 1) p = lx (lIter k p) := rfl
theorem startShl (n m x0 : Nat) (hx : x0 = n * 2 ^ (31 - m)) (hI : InX x0) : Value.int .u64 (IntKind.u64.wrap ((n : Int) * 2 ^ (31 - m))) = .int .u64 ((lIter 0 (x0, m)).1 : Nat) := by
  have e : (n : Int) * 2 ^ (31 - m) = (x0 : Int) := by rw [hx, Int.natCast_mul, Int.natCast_pow]; rfl
  obtain ⟨_, h2⟩ := hI
  rw [e, IntKind.wrap_u64]
  show Value.int .u64 _ = .int .u64 (x0 : Int)
  congr 1
  omega
theorem logs_Log2 (n : Nat) (h0 : 0 < n) (h : (n : Int) < 18446744073709551616) (w : World) :
    Calls Try.prog 99 #[.int .u64 n] w fun e w' => e = .returned (.int .u64 (log2N n)) ∧ w = w' := by
  obtain ⟨W1, W2, W3⟩ := whole_spec n (by omega) h0
  have hB : Lib.bitLen n = whole n + 1 := by have := (bl_spec n (by omega) h0).1; unfold whole; omega
  have hL : log2N n = (lIter 24 (norm n, whole n)).2 := by unfold log2N; rw [if_neg (by omega)]
  have hI := norm_in n (by omega) h0
  rw [hL]
  have HB := Lib.hid hB
  have hz : ((n : Int) == 0) = false := by simp; omega
  clear hB hL W1 W2
  obtain ⟨m, hm⟩ : ∃ m, m = whole n := ⟨_, rfl⟩
  obtain ⟨x0, hx0⟩ : ∃ x, x = norm n := ⟨_, rfl⟩
  have hX : Hid (x0 = if 31 < m then n / 2 ^ (m - 31) else n * 2 ^ (31 - m)) := by rw [hx0, hm]; exact id rfl
  rw [← hm] at HB W3 ⊢
  rw [← hx0] at hI ⊢
  clear hm hx0
  by_cases g : 31 < m
  · have g' : decide ((31 : Int) < (m : Int)) = true := by simp; omega
    go_enter Try.func99, Try.ntmps99
    go_wp2_with fail
    refine (bits_Len64 n (by omega) h _).mono ?_; rintro e w' ⟨rfl, rfl⟩
    rw [Int.toNat_natCast, HB.out]
    go_wp2
    go_loop [4, 5, 24] (fun x o i => ∃ k : Nat, k ≤ 24 ∧ i = .int .i64 k ∧ x = .int .u64 (lIter k (x0, m)).1 ∧ o = .int .u64 (lIter k (x0, m)).2) (fun _ _ i => 24 - (intOf i).toNat)
    case atStart => exact ⟨0, by omega, rfl, by rw [lIter, hX.out, if_pos g]; simp [Int.natCast_ediv], rfl⟩
    case round =>
      obtain ⟨k, hk, rfl, rfl, rfl⟩ := hrel
      have hi := lIter_in (p := (x0, m)) hI k
      have ho := lIter_out (p := (x0, m)) (m := 64) (show m < 64 by omega) k
      have hst := Lib.hid (lIter_step (x0, m) k)
      by_cases hlt : k < 24
      · have hp : 2 ^ k ≤ 8388608 := Nat.pow_le_pow_right (n := 2) (by decide) (show k ≤ 23 by omega)
        have hsq := sq_bd hi
        obtain ⟨x, hx⟩ : ∃ x, x = (lIter k (x0, m)).1 := ⟨_, rfl⟩
        obtain ⟨o, hoo⟩ : ∃ o, o = (lIter k (x0, m)).2 := ⟨_, rfl⟩
        rw [← hx] at hi hsq ⊢
        rw [← hoo] at ho ⊢
        have HX := Lib.hid hx
        have HO := Lib.hid hoo
        have hs2 : (x : Int) * x ≤ 18446744065119617025 := by rw [← Int.natCast_mul]; omega
        have hs1 : (0 : Int) ≤ (x : Int) * x := by rw [← Int.natCast_mul]; omega
        have ho2 : (o : Int) < 536870912 := by omega
        have hI1 : (k : Int) < 24 := by omega
        by_cases c : 4294967296 ≤ x * x / 2147483648
        · have c' : (4294967296 : Int) ≤ (x : Int) * x / 2147483648 := by rw [← Int.natCast_mul]; omega
          have hr := Lib.hid (show lIter (k + 1) (x0, m) = (x * x / 2147483648 / 2, 2 * o + 1) by rw [hst.out, lx, ← HX.out, ← HO.out, if_pos c])
          have hor := Lib.hid (or_one o (by omega))
          clear hx hoo hst hsq hi ho hp c
          go_wp2
          go_round
          case rel => exact ⟨k + 1, by omega, by go_num, by rw [hr.out]; simp [Int.natCast_ediv, Int.natCast_mul], by rw [hr.out]; exact congrArg (Value.int .u64) hor.out⟩
          case measure => simp [intOf]; omega
        · have c' : ¬ (4294967296 : Int) ≤ (x : Int) * x / 2147483648 := by rw [← Int.natCast_mul]; omega
          have hr := Lib.hid (show lIter (k + 1) (x0, m) = (x * x / 2147483648, 2 * o) by rw [hst.out, lx, ← HX.out, ← HO.out, if_neg c])
          clear hx hoo hst hsq hi ho hp c
          go_wp2
          go_round
          case rel => exact ⟨k + 1, by omega, by go_num, by rw [hr.out]; simp [Int.natCast_ediv, Int.natCast_mul], by rw [hr.out]; go_num⟩
          case measure => simp [intOf]; omega
      · obtain rfl : k = 24 := by omega
        go_wp2
        go_ret
        exact ⟨rfl, rfl⟩
  · have g' : decide ((31 : Int) < (m : Int)) = false := by simp; omega
    go_enter Try.func99, Try.ntmps99
    go_wp2_with fail
    refine (bits_Len64 n (by omega) h _).mono ?_; rintro e w' ⟨rfl, rfl⟩
    rw [Int.toNat_natCast, HB.out]
    go_wp2
    go_loop [4, 5, 24] (fun x o i => ∃ k : Nat, k ≤ 24 ∧ i = .int .i64 k ∧ x = .int .u64 (lIter k (x0, m)).1 ∧ o = .int .u64 (lIter k (x0, m)).2) (fun _ _ i => 24 - (intOf i).toNat)
    case atStart => exact ⟨0, by omega, rfl, startShl n m x0 (by rw [hX.out, if_neg g]) hI, rfl⟩
    case round =>
      obtain ⟨k, hk, rfl, rfl, rfl⟩ := hrel
      have hi := lIter_in (p := (x0, m)) hI k
      have ho := lIter_out (p := (x0, m)) (m := 64) (show m < 64 by omega) k
      have hst := Lib.hid (lIter_step (x0, m) k)
      by_cases hlt : k < 24
      · have hp : 2 ^ k ≤ 8388608 := Nat.pow_le_pow_right (n := 2) (by decide) (show k ≤ 23 by omega)
        have hsq := sq_bd hi
        obtain ⟨x, hx⟩ : ∃ x, x = (lIter k (x0, m)).1 := ⟨_, rfl⟩
        obtain ⟨o, hoo⟩ : ∃ o, o = (lIter k (x0, m)).2 := ⟨_, rfl⟩
        rw [← hx] at hi hsq ⊢
        rw [← hoo] at ho ⊢
        have HX := Lib.hid hx
        have HO := Lib.hid hoo
        have hs2 : (x : Int) * x ≤ 18446744065119617025 := by rw [← Int.natCast_mul]; omega
        have hs1 : (0 : Int) ≤ (x : Int) * x := by rw [← Int.natCast_mul]; omega
        have ho2 : (o : Int) < 536870912 := by omega
        have hI1 : (k : Int) < 24 := by omega
        by_cases c : 4294967296 ≤ x * x / 2147483648
        · have c' : (4294967296 : Int) ≤ (x : Int) * x / 2147483648 := by rw [← Int.natCast_mul]; omega
          have hr := Lib.hid (show lIter (k + 1) (x0, m) = (x * x / 2147483648 / 2, 2 * o + 1) by rw [hst.out, lx, ← HX.out, ← HO.out, if_pos c])
          have hor := Lib.hid (or_one o (by omega))
          clear hx hoo hst hsq hi ho hp c
          go_wp2
          go_round
          case rel => exact ⟨k + 1, by omega, by go_num, by rw [hr.out]; simp [Int.natCast_ediv, Int.natCast_mul], by rw [hr.out]; exact congrArg (Value.int .u64) hor.out⟩
          case measure => simp [intOf]; omega
        · have c' : ¬ (4294967296 : Int) ≤ (x : Int) * x / 2147483648 := by rw [← Int.natCast_mul]; omega
          have hr := Lib.hid (show lIter (k + 1) (x0, m) = (x * x / 2147483648, 2 * o) by rw [hst.out, lx, ← HX.out, ← HO.out, if_neg c])
          clear hx hoo hst hsq hi ho hp c
          go_wp2
          go_round
          case rel => exact ⟨k + 1, by omega, by go_num, by rw [hr.out]; simp [Int.natCast_ediv, Int.natCast_mul], by rw [hr.out]; go_num⟩
          case measure => simp [intOf]; omega
      · obtain rfl : k = 24 := by omega
        go_wp2
        go_ret
        exact ⟨rfl, rfl⟩
end Go.Proofs.Ytblbgafadadbmaa
end
section
/- The reference's Log2. -/
set_option linter.unusedVariables false
namespace Go.Proofs.Ytblbgafadadbmaa
open Go.RowKit
set_option maxHeartbeats 1000000
theorem ref_Log2_0 (w : World) : Calls Try.prog 71 #[.int .u64 0] w fun e w' => e = .returned (.int .u64 0) ∧ w = w' := by
  go_enter Try.func71, Try.ntmps71
  go_wp2
  go_ret
  exact ⟨rfl, rfl⟩
theorem divInt (n c : Nat) : (n : Int) / 2 ^ c = ((n / 2 ^ c : Nat) : Int) := by rw [Int.natCast_ediv, Int.natCast_pow]; rfl
def down (n m c : Nat) : Nat := n / 2 ^ (m - c)
def upN (n m c : Nat) : Nat := if 31 < m then n / 2 ^ (m - 31) else n * 2 ^ (c - m)
theorem down_step (n m c : Nat) (h : c < m) : down n m c = down n m (c + 1) / 2 := by
  unfold down
  rw [show m - c = (m - (c + 1)) + 1 by omega, Nat.pow_succ, Nat.div_div_eq_div_mul]
theorem upN_step (n m c : Nat) (h : m ≤ c) (hm : ¬ 31 < m) : upN n m (c + 1) = upN n m c * 2 := by
  unfold upN
  rw [if_neg hm, if_neg hm, show c + 1 - m = (c - m) + 1 by omega, Nat.pow_succ, Nat.mul_assoc]
theorem upN_le (n m c : Nat) (hm : ¬ 31 < m) (hc : c ≤ 31) : upN n m c ≤ upN n m 31 := by
  unfold upN
  rw [if_neg hm, if_neg hm]
  exact Nat.mul_le_mul_left _ (Nat.pow_le_pow_right (by decide) (by omega))
theorem ref_Log2 (n : Nat) (h0 : 0 < n) (h : (n : Int) < 18446744073709551616) (w : World) :
    Calls Try.prog 71 #[.int .u64 n] w fun e w' => e = .returned (.int .u64 (log2N n)) ∧ w = w' := by
  obtain ⟨W1, W2, W3⟩ := whole_spec n (by omega) h0
  have hB : ∀ c, (0 < n / 2 ^ c ↔ c ≤ whole n) := fun c => by rw [bl_half n c (by omega)]; have := (bl_spec n (by omega) h0).1; unfold whole; omega
  have hL : log2N n = (lIter 24 (norm n, whole n)).2 := by unfold log2N; rw [if_neg (by omega)]
  have hI := norm_in n (by omega) h0
  have hN : norm n = upN n (whole n) 31 := rfl
  have hN2 : 31 < whole n → norm n = upN n (whole n) (whole n) := fun g => by unfold norm upN; rw [if_pos g, if_pos g]
  rw [hL]
  have hz : ((n : Int) == 0) = false := by simp; omega
  clear hL W1 W2
  obtain ⟨m, hm⟩ : ∃ m, m = whole n := ⟨_, rfl⟩
  rw [← hm] at W3 hB hN hN2 ⊢
  have HBB := Lib.hid hB
  have HN := Lib.hid hN
  have HN2 := Lib.hid hN2
  clear hm hB hN hN2
  go_enter Try.func71, Try.ntmps71
  go_wp2
  go_loop [3, 4] (fun wh k => ∃ c : Nat, 1 ≤ c ∧ c ≤ 64 ∧ k = .int .u64 c ∧ wh = .int .u64 ((min m (c - 1) : Nat) : Int)) (fun _ k => 64 - (intOf k).toNat)
  case atStart => exact ⟨1, by omega, by omega, rfl, by simp⟩
  case round =>
    obtain ⟨c, c1, c2, rfl, rfl⟩ := hrel
    by_cases hlt : c < 64
    · have hI1 : (c : Int) < 64 := by omega
      by_cases hc : c ≤ m
      · have hT : decide ((0 : Int) < (n : Int) / 2 ^ c) = true := decide_eq_true (by rw [divInt]; have := (HBB.out c).2 hc; omega)
        go_wp2
        go_round
        case rel => exact ⟨c + 1, by omega, by omega, by go_num, by rw [show min m (c + 1 - 1) = c by omega]⟩
        case measure => simp [intOf] <;> omega
      · have hT : decide ((0 : Int) < (n : Int) / 2 ^ c) = false := decide_eq_false (by rw [divInt]; intro hh; exact hc ((HBB.out c).1 (by omega)))
        go_wp2
        go_round
        case rel => exact ⟨c + 1, by omega, by omega, by go_num, by rw [show min m (c + 1 - 1) = min m (c - 1) by omega]⟩
        case measure => simp [intOf] <;> omega
    · have hI1 : ¬ (c : Int) < 64 := by omega
      rw [show min m (c - 1) = m by omega]
      go_wp2
      go_loop [5, 6] (fun x i => ∃ d : Nat, i = .int .u64 d ∧ d ≤ m ∧ (31 ≤ d ∨ d = m) ∧ x = .int .u64 (down n m d)) (fun _ i => (intOf i).toNat)
      case atStart => exact ⟨m, rfl, Nat.le_refl _, .inr rfl, by simp [down]⟩
      case round =>
        obtain ⟨d, rfl, d1, d2, rfl⟩ := hrel
        have hdn : down n m d ≤ n := Nat.div_le_self _ _
        by_cases g : 31 < d
        · obtain ⟨d, rfl⟩ : ∃ d', d = d' + 1 := ⟨d - 1, by omega⟩
          have hs := Lib.hid (down_step n m d (by omega))
          obtain ⟨x, hx⟩ : ∃ x, x = down n m (d + 1) := ⟨_, rfl⟩
          rw [← hx] at hdn ⊢
          have HX := Lib.hid hx
          clear hx
          have hxb : (x : Int) < 18446744073709551616 := by omega
          have hI1 : (31 : Int) < (d : Int) + 1 := by omega
          clear hdn
          go_wp2
          go_round
          case rel => exact ⟨d, by simp, by omega, .inl (by omega), by rw [hs.out, ← HX.out] <;> go_num⟩
          case measure => simp [intOf] <;> omega
        · have hI1 : ¬ (31 : Int) < (d : Int) := by omega
          have hup : down n m d = upN n m m := by
            unfold down upN
            split
            · rw [show d = 31 by omega]
            · rw [show d = m by omega, Nat.sub_self, Nat.pow_zero, Nat.div_one, Nat.mul_one]
          rw [hup]
          clear hup hdn
          go_wp2
          go_loop [5, 7] (fun x i => ∃ c : Nat, i = .int .u64 c ∧ m ≤ c ∧ (c ≤ 31 ∨ c = m) ∧ x = .int .u64 (upN n m c)) (fun _ i => 64 - (intOf i).toNat)
          case atStart => exact ⟨m, rfl, Nat.le_refl _, .inr rfl, rfl⟩
          case round =>
            obtain ⟨c, rfl, c1, c2, rfl⟩ := hrel
            by_cases g3 : c < 31
            · have hs := Lib.hid (upN_step n m c c1 (by omega))
              have hle := upN_le n m (c + 1) (by omega) (by omega)
              rw [hs.out] at hle
              rw [HN.out] at hI
              have hb2 : (upN n m c : Int) * 2 < 4294967296 := by have := hI.2; omega
              obtain ⟨x, hx⟩ : ∃ x, x = upN n m c := ⟨_, rfl⟩
              rw [← hx] at hb2 ⊢
              have HX := Lib.hid hx
              clear hx hle hI
              have hI3 : (c : Int) < 31 := by omega
              go_wp2
              go_round
              case rel => exact ⟨c + 1, by go_num, by omega, .inl (by omega), by rw [hs.out, ← HX.out]; go_num⟩
              case measure => simp [intOf] <;> omega
            · have hI3 : ¬ (c : Int) < 31 := by omega
              have hup : upN n m c = norm n := by
                by_cases g4 : 31 < m
                · rw [HN2.out g4, show c = m by omega]
                · rw [HN.out, show c = 31 by omega]
              rw [hup]
              clear hup
              obtain ⟨x0, hx0⟩ : ∃ x, x = norm n := ⟨_, rfl⟩
              rw [← hx0] at hI ⊢
              have HX0 := Lib.hid hx0
              clear hx0
              go_wp2
              go_loop [5, 8, 9] (fun x o i => ∃ k : Nat, k ≤ 24 ∧ i = .int .i64 k ∧ x = .int .u64 (lIter k (x0, m)).1 ∧ o = .int .u64 (lIter k (x0, m)).2) (fun _ _ i => 24 - (intOf i).toNat)
              case atStart => exact ⟨0, by omega, rfl, rfl, rfl⟩
              case round =>
                obtain ⟨k, hk, rfl, rfl, rfl⟩ := hrel
                have hi := lIter_in (p := (x0, m)) hI k
                have ho := lIter_out (p := (x0, m)) (m := 64) (show m < 64 by omega) k
                have hst := Lib.hid (lIter_step (x0, m) k)
                by_cases hlt : k < 24
                · have hp : 2 ^ k ≤ 8388608 := Nat.pow_le_pow_right (n := 2) (by decide) (show k ≤ 23 by omega)
                  have hsq := sq_bd hi
                  obtain ⟨x, hx⟩ : ∃ x, x = (lIter k (x0, m)).1 := ⟨_, rfl⟩
                  obtain ⟨o, hoo⟩ : ∃ o, o = (lIter k (x0, m)).2 := ⟨_, rfl⟩
                  rw [← hx] at hi hsq ⊢
                  rw [← hoo] at ho ⊢
                  have HX := Lib.hid hx
                  have HO := Lib.hid hoo
                  have hs2 : (x : Int) * x ≤ 18446744065119617025 := by rw [← Int.natCast_mul]; omega
                  have hs1 : (0 : Int) ≤ (x : Int) * x := by rw [← Int.natCast_mul]; omega
                  have ho2 : (o : Int) < 536870912 := by omega
                  have hI1 : (k : Int) < 24 := by omega
                  by_cases c : 4294967296 ≤ x * x / 2147483648
                  · have c' : (4294967296 : Int) ≤ (x : Int) * x / 2147483648 := by rw [← Int.natCast_mul]; omega
                    have hr := Lib.hid (show lIter (k + 1) (x0, m) = (x * x / 2147483648 / 2, 2 * o + 1) by rw [hst.out, lx, ← HX.out, ← HO.out, if_pos c])
                    clear hx hoo hst hsq hi ho hp c
                    go_wp2
                    go_round
                    case rel => exact ⟨k + 1, by omega, by go_num, by rw [hr.out]; simp [Int.natCast_ediv, Int.natCast_mul], by rw [hr.out]; go_num⟩
                    case measure => simp [intOf] <;> omega
                  · have c' : ¬ (4294967296 : Int) ≤ (x : Int) * x / 2147483648 := by rw [← Int.natCast_mul]; omega
                    have hr := Lib.hid (show lIter (k + 1) (x0, m) = (x * x / 2147483648, 2 * o) by rw [hst.out, lx, ← HX.out, ← HO.out, if_neg c])
                    clear hx hoo hst hsq hi ho hp c
                    go_wp2
                    go_round
                    case rel => exact ⟨k + 1, by omega, by go_num, by rw [hr.out]; simp [Int.natCast_ediv, Int.natCast_mul], by rw [hr.out]; go_num⟩
                    case measure => simp [intOf] <;> omega
                · obtain rfl : k = 24 := by omega
                  go_wp2
                  go_ret
                  exact ⟨by rw [← HX0.out]; rfl, rfl⟩
end Go.Proofs.Ytblbgafadadbmaa
end
section
/- logs.Of, the reference's Of, awake; the laws LogsNumbers and LogsRise. -/
set_option linter.unusedVariables false
namespace Go.Proofs.Ytblbgafadadbmaa
open Go.RowKit
set_option maxHeartbeats 1000000
theorem ref_LogOf (d : Int) (d0 : -9223372036854775808 ≤ d) (d1 : d ≤ 9223372036854775807) (w : World) :
    Calls Try.prog 47 #[.int .i64 d] w fun e w' => e = .returned (.int .u64 (ofN d)) ∧ w = w' := by
  have hc := clamp_bd d
  have hl := log2_draw (clampN d) hc.1 hc.2
  have ho : ((ofN d : Nat) : Int) = 268435456 - ((log2N (clampN d) : Nat) : Int) := by unfold ofN; omega
  rw [ho]
  have hl' : ((log2N (clampN d) : Nat) : Int) ≤ 268435456 := by omega
  clear hl ho
  by_cases g1 : d < 1
  · have he : Hid (1 = ((clampN d : Nat) : Int)) := by have : ((clampN d : Nat) : Int) = 1 := by unfold clampN; omega
                                                       exact this.symm
    go_enter Try.func47, Try.ntmps47
    go_wp2_with fail
    rw [he.out]
    refine (ref_Log2 (clampN d) (by omega) (by omega) _).mono ?_; rintro e w' ⟨rfl, rfl⟩
    go_wp2
    go_ret
    exact ⟨rfl, rfl⟩
  · by_cases g2 : 65536 < d
    · have he : Hid (65536 = ((clampN d : Nat) : Int)) := by have : ((clampN d : Nat) : Int) = 65536 := by unfold clampN; omega
                                                             exact this.symm
      go_enter Try.func47, Try.ntmps47
      go_wp2_with fail
      rw [he.out]
      refine (ref_Log2 (clampN d) (by omega) (by omega) _).mono ?_; rintro e w' ⟨rfl, rfl⟩
      go_wp2
      go_ret
      exact ⟨rfl, rfl⟩
    · have he : Hid (d = ((clampN d : Nat) : Int)) := by have : ((clampN d : Nat) : Int) = d := by unfold clampN; omega
                                                         exact this.symm
      obtain ⟨c, hcc⟩ : ∃ c, c = clampN d := ⟨_, rfl⟩
      rw [← hcc] at he hl' hc ⊢
      obtain rfl : d = (c : Int) := he
      clear hcc
      go_enter Try.func47, Try.ntmps47
      go_wp2_with fail
      refine (ref_Log2 c (by omega) (by omega) _).mono ?_; rintro e w' ⟨rfl, rfl⟩
      go_wp2
      go_ret
      exact ⟨rfl, rfl⟩
end Go.Proofs.Ytblbgafadadbmaa
end
section
/- sync.Once, one goroutine, the lock free: turned from the kit's worked Lazy texts (LazyParts, LazySlow, LazyWalks), of any function value whose contract is given. -/
set_option linter.unusedVariables false
namespace Go.Proofs.Ytblbgafadadbmaa
open Go.RowKit
set_option maxRecDepth 100000

theorem once_disable (w : World) : (callFunc 111 #[]).run Try.prog w = .ok (.value (.tuple #[])) w := run_call_mark0 Try.func111 (by kernel_rfl) (by kernel_rfl) (by kernel_rfl) .disable (by kernel_rfl) w
theorem once_enable (w : World) : (callFunc 113 #[]).run Try.prog w = .ok (.value (.tuple #[])) w := run_call_mark0 Try.func113 (by kernel_rfl) (by kernel_rfl) (by kernel_rfl) .enable (by kernel_rfl) w
theorem once_acquire (a : Addr) (w : World) : (callFunc 114 #[.pointer (some a)]).run Try.prog w = .ok (.value (.tuple #[])) w := run_call_marked Try.func114 (by kernel_rfl) (by kernel_rfl) (by kernel_rfl) .acquire (by kernel_rfl) a w
theorem once_releaseMerge (a : Addr) (w : World) : (callFunc 116 #[.pointer (some a)]).run Try.prog w = .ok (.value (.tuple #[])) w := run_call_marked Try.func116 (by kernel_rfl) (by kernel_rfl) (by kernel_rfl) .releaseMerge (by kernel_rfl) a w

theorem once_store (a : Addr) (x : Value) (u : FrameMode) (w : World) (hc : w.cell? a = some x) (hz : w.frozen? a = false) :
    CallsD Try.prog 104 #[.pointer (some a), .bool true] u w fun e u' w' => u' = u ∧ (e = .returned (.tuple #[]) ∧ w' = w.drew.setCell a (.int .u32 1)) := by
  have hc' : w.drew.cell? a = some x := by go_simp
  have hz' : w.drew.frozen? a = false := by go_simp
  have hst := run_call_store (P := Try.prog) Try.func109 (by kernel_rfl) (by kernel_rfl) (by kernel_rfl) (by kernel_rfl) (k := .u32) (y := 1) hc' hz'
  go_enter_d Try.func104, Try.ntmps104
  go_wp2
  go_region_calls
  all_goals (go_end0; exact ⟨rfl, rfl⟩)

theorem once_unlock (a : Addr) (u : FrameMode) (w : World) (hc : w.cell? a = some (.int .i32 1)) (hz : w.frozen? a = false) :
    CallsD Try.prog 103 #[.pointer (some a)] u w fun e u' w' => u' = u ∧ (e = .returned (.tuple #[]) ∧ w' = w.setCell a (.int .i32 0)) := by
  have hd := once_disable
  have he := once_enable
  have hr := once_releaseMerge
  have hadd := run_call_add (P := Try.prog) Try.func117 (by kernel_rfl) (by kernel_rfl) (by kernel_rfl) .i32 (by kernel_rfl) (y := -1) (s := 0) hc hz (by simp [go_sem]; rfl)
  have hcv := run_convert_to_unsafe (P := Try.prog) (src := 165) (dst := 169) Try.underlying165 Try.underlying169 (by kernel_rfl) hc
  go_enter_d Try.func103, Try.ntmps103
  go_wp2
  go_end0
  exact ⟨rfl, rfl⟩

theorem once_lock (a : Addr) (w : World) (hc : w.cell? a = some (.int .i32 0)) (hz : w.frozen? a = false) :
    Calls Try.prog 102 #[.pointer (some a)] w fun e w' => e = .returned (.tuple #[]) ∧ w' = w.setCell a (.int .i32 1) := by
  have hd := once_disable
  have he := once_enable
  have ha := once_acquire
  have hcas := run_call_cas_hit (P := Try.prog) Try.func112 (by kernel_rfl) (by kernel_rfl) (by kernel_rfl) .i32 (by kernel_rfl) (y := 1) hc hz
  have hc' : (w.setCell a (.int .i32 1)).cell? a = some (.int .i32 1) := World.cell?_setCell_same w a _ hc
  have hcv := run_convert_to_unsafe (P := Try.prog) (src := 165) (dst := 169) Try.underlying165 Try.underlying169 (by kernel_rfl) hc'
  go_enter Try.func102, Try.ntmps102
  go_wp2
  first | go_end0 | (simp only [Exit.inBlock, Exit.then]; refine bodyPost_ret (results_none rfl _ _ _) rfl ?_) | refine bodyPost_ret (results_none rfl _ _ _) rfl ?_
  all_goals (first | exact ⟨rfl, rfl⟩ | (go_wp2; go_end0; exact ⟨rfl, rfl⟩))

theorem once_load (a : Addr) (d : Int) (w : World) (hc : w.cell? a = some (.int .u32 d)) :
    (callFunc 101 #[.pointer (some a)]).run Try.prog w = .ok (.value (.int .u32 d)) w :=
  run_call_load (P := Try.prog) Try.func101 (by kernel_rfl) (by kernel_rfl) (by kernel_rfl) .u32 (by kernel_rfl) hc

/-- Done already: the function is not called. -/
theorem once_done (a : Addr) (fv : Value) (w : World) (h0 : w.cell? a = some (.int .u32 1)) :
    Calls Try.prog 94 #[.pointer (some a), fv] w fun e w' => e = .returned (.tuple #[]) ∧ w = w' := by
  have hl := once_load a 1 w h0
  have hnot : ∀ (x : Bool) (w : World), (Op.unary .not (.bool x)).run Try.prog w = .ok (.bool (!x)) w := fun _ _ => rfl
  go_enter Try.func94, Try.ntmps94
  go_wp2
  go_end0
  exact ⟨rfl, rfl⟩
end Go.Proofs.Ytblbgafadadbmaa
end
section
/- logs.Table: fill, doSlow, Do, At. -/
set_option linter.unusedVariables false
namespace Go.Proofs.Ytblbgafadadbmaa
open Go.RowKit
set_option maxHeartbeats 2000000
set_option maxRecDepth 100000
/-- The block of a table, and what follows the table in it. -/
structure K6 where
  t : TypeId
  fa : Value
  se : Value
theorem Try.infoU64 : (Try.prog.info? 24).map (fun i => (i.zero, i.size, i.bytes)) = some (some (.int .u64 0), 1, 8) := by kernel_rfl
/-- What the table holds. -/
def drawRow (m : Nat) : Value := .int .u64 (ofN ((m : Int) + 1))
theorem ofN_at (k : Nat) (h : k < 65536) : (ofN ((k : Int) + 1) : Int) = 268435456 - (log2N (k + 1) : Int) ∧ log2N (k + 1) ≤ 268435456 := by
  have hl := log2_draw (k + 1) (by omega) (by omega)
  have : clampN ((k : Int) + 1) = k + 1 := by unfold clampN; omega
  unfold ofN
  rw [this]
  omega
theorem table_fill (b : Nat) (T : K6) (x0 x1 x2 x3 : Value) (w : World) (hB : Blk w b T.t #[x0, x1, x2, x3, T.fa, T.se]) :
    Calls Try.prog 95 #[.pointer (some ⟨b, 0, none⟩)] w fun e w' => e = .returned (.tuple #[]) ∧
      ∃ g, Blk w' b T.t #[x0, x1, x2, .slice (some ⟨g, 0, none⟩) 65536 65536, T.fa, T.se] ∧ w'.rowIs g 24 65536 drawRow ∧ w.heap.size ≤ g ∧ Mod (· = b) w w' := by
  have hlt := hB.lt
  have hmk : ∀ w : World, (Instr.makeSlice 31 (.int .i64 65536) (.int .i64 65536)).run Try.prog w = .ok (.slice (some ⟨w.heap.size, 0, none⟩) 65536 65536) (w.alloc (.cells (madeCells #[.int .u64 0] 65536) 24)) :=
    run_make_row' (P := Try.prog) 31 24 (.int .u64 0) 8 Try.underlying31 Try.infoU64 rfl .i64 .i64 65536 (by omega) (by omega)
  obtain ⟨ob, hob⟩ : ∃ ob, ob = Obj.cells (madeCells #[.int .u64 0] 65536) 24 := ⟨_, rfl⟩
  rw [← hob] at hmk
  have hB1 := hB.alloc ob
  obtain ⟨c0, c1, c2, c3, _⟩ := hB1.cells6
  obtain ⟨f0, f1, f2, f3, _⟩ := hB1.free6
  obtain ⟨sv, hsv⟩ : ∃ sv, sv = Value.slice (some ⟨w.heap.size, 0, none⟩) 65536 65536 := ⟨_, rfl⟩
  have hB2 := (hB.setTo 3 sv (ds := #[x0, x1, x2, sv, T.fa, T.se]) rfl).alloc ob
  have hs0 : (w.setCell ⟨b, 3, none⟩ sv).heap.size = w.heap.size := by simp
  have hg1 : ((w.setCell ⟨b, 3, none⟩ sv).alloc ob).rowIs w.heap.size 24 65536 (fun _ => .int .u64 0) := by
    have := World.rowIs_made (w.setCell ⟨b, 3, none⟩ sv) (.int .u64 0) 65536 24
    rw [hs0, ← hob] at this
    exact this
  have hM2 : Mod (· = b) w ((w.setCell ⟨b, 3, none⟩ sv).alloc ob) := ((Mod.refl _ _).own 3 _).alloc _
  obtain ⟨d0, d1, d2, d3, _⟩ := hB2.cells6
  subst hsv
  clear hob hs0
  go_enter Try.func95, Try.ntmps95
  go_wp2_with fail
  clear c0 c1 c2 c3 f0 f1 f2 f3 d0 d1 d2 d3 hB1 hmk hB
  generalize (w.setCell ⟨b, 3, none⟩ (.slice (some ⟨w.heap.size, 0, none⟩) 65536 65536)).alloc ob = u at *
  generalize hG : w.heap.size = g at *
  have hne : ¬ g = b := by omega
  have HG := Lib.hid hG
  clear hG hlt
  go_loopg [12] 65536 (fun gk i wr => ∃ k : Nat, k ≤ 65536 ∧ gk = 65536 - k ∧ i = .int .i64 k ∧ Blk wr b T.t #[x0, x1, x2, .slice (some ⟨g, 0, none⟩) 65536 65536, T.fa, T.se] ∧ wr.rowIs g 24 65536 (fun m => if m < k then drawRow m else .int .u64 0) ∧ Mod (· = b) w wr)
  case atStart => exact ⟨0, Nat.zero_le _, rfl, rfl, hB2, hg1, hM2⟩
  case round =>
    clear hB2 hg1 hM2
    obtain ⟨k, hk, rfl, rfl, hB, hg, hM⟩ := hrel
    by_cases hlt : k < 65536
    · obtain ⟨c0, c1, c2, c3, _⟩ := hB.cells6
      obtain ⟨e1, e2⟩ := ofN_at k hlt
      have hki : (k : Int) < 65536 := by omega
      have hk0 : (0 : Int) ≤ (k : Int) := by omega
      have A0 : ∀ w : World, Calls Try.prog 99 #[.int .u64 ((k : Int) + 1)] w fun e w' => e = .returned (.int .u64 (log2N (k + 1))) ∧ w' = w := fun w => (logs_Log2 (k + 1) (by omega) (by omega) w).mono fun _ _ ⟨h1, h2⟩ => ⟨h1, h2.symm⟩
      obtain ⟨D, hD⟩ : ∃ D : Int, D = 268435456 - (log2N (k + 1) : Int) := ⟨_, rfl⟩
      have hdr : drawRow k = .int .u64 D := by unfold drawRow; rw [e1, hD]
      have HDR := Lib.hid hdr
      clear e1 hdr
      generalize log2N (k + 1) = N at *
      have k1 : IntKind.u64.wrap (k : Int) = k := by rw [IntKind.wrap_u64]; omega
      have k2 : IntKind.u64.wrap ((k : Int) + 1) = (k : Int) + 1 := by rw [IntKind.wrap_u64]; omega
      have k3 : IntKind.u64.wrap (268435456 - (N : Int)) = D := by rw [IntKind.wrap_u64]; omega
      clear hD
      have hc := hg.cell hlt
      have hfz := hg.frozen k
      go_wp2_with fail
      refine wp_region_still_tail 10 (by kernel_rfl) (by kernel_rfl) ?_
      simp only [List.take_succ_cons, List.take_zero, List.drop_succ_cons, List.drop_zero]
      iterate 8 still_step
      refine wpStill_step (fun K hK => ?_)
      go_simp
      refine ⟨_, A0 _, hK _ ?_⟩
      clear hK K
      refine wpStill_step (fun K hK => ?_)
      go_simp
      refine hK _ ?_
      clear hK K
      refine wpStill_nil ?_
      change wpList _ _ _ _ _ wr.drew
      have hB2 := hB.drew
      have hg2 := hg.drew
      have hM2 := hM.drew
      clear hB hg hM hc hfz c0 c1 c2 c3 k1 k2 k3 A0
      generalize wr.drew = w2 at *
      have hc := hg2.cell hlt
      have hfz := hg2.frozen k
      go_wp2
      go_roundg (65536 - (k + 1))
      case measure => omega
      case rel =>
        refine ⟨k + 1, by omega, rfl, by go_num, hB2.far (Ne.symm hne) _, (hg2.set k _).congr ?_, hM2.fresh (by rw [HG.out]; exact Nat.le_refl _) _ _⟩
        intro m hm
        by_cases e : m = k
        · subst e
          rw [if_pos rfl, if_pos (by omega), HDR.out]
        · rw [if_neg e]
          by_cases e2 : m < k
          · rw [if_pos e2, if_pos (by omega)]
          · rw [if_neg e2, if_neg (by omega)]
    · obtain rfl : k = 65536 := by omega
      go_wp2
      go_end0
      exact ⟨rfl, g, hB, hg.congr (fun m hm => by rw [if_pos hm]), by rw [HG.out]; exact Nat.le_refl _, hM⟩
end Go.Proofs.Ytblbgafadadbmaa
end
