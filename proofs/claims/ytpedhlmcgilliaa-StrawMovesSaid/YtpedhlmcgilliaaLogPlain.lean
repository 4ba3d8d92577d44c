/- The logarithm by squaring: plain. -/
import Derived.Test.YtpedhlmcgilliaaBitLen
namespace Go.Proofs.Ytpedhlmcgilliaa
def lx (p : Nat × Nat) : Nat × Nat := if 4294967296 ≤ p.1 * p.1 / 2147483648 then (p.1 * p.1 / 2147483648 / 2, 2 * p.2 + 1) else (p.1 * p.1 / 2147483648, 2 * p.2)
def lIter : Nat → Nat × Nat → Nat × Nat
  | 0, p => p
  | k + 1, p => lx (lIter k p)
def whole (n : Nat) : Nat := Lib.bitLen n - 1
def norm (n : Nat) : Nat := if 31 < whole n then n / 2 ^ (whole n - 31) else n * 2 ^ (31 - whole n)
def log2N (n : Nat) : Nat := if n = 0 then 0 else (lIter 24 (norm n, whole n)).2
/-- In range: x has 32 bits. -/
def InX (x : Nat) : Prop := 2147483648 ≤ x ∧ x < 4294967296
theorem sq_bd {x : Nat} (h : InX x) : 4611686018427387904 ≤ x * x ∧ x * x ≤ 18446744065119617025 := by
  obtain ⟨a, b⟩ := h
  have h1 := Nat.mul_le_mul a a
  have h2 := Nat.mul_le_mul (show x ≤ 4294967295 by omega) (show x ≤ 4294967295 by omega)
  omega
theorem lx_in {p : Nat × Nat} (h : InX p.1) : InX (lx p).1 := by
  have := sq_bd h
  unfold lx
  split
  · show InX (p.1 * p.1 / 2147483648 / 2); unfold InX; omega
  · show InX (p.1 * p.1 / 2147483648); unfold InX; omega
theorem lIter_in {p : Nat × Nat} (h : InX p.1) : ∀ k, InX (lIter k p).1
  | 0 => h
  | k + 1 => lx_in (lIter_in h k)
theorem lx_out {p : Nat × Nat} {m : Nat} (h : p.2 < m) : (lx p).2 < 2 * m := by
  unfold lx
  split
  · show 2 * p.2 + 1 < 2 * m; omega
  · show 2 * p.2 < 2 * m; omega
theorem lIter_out {p : Nat × Nat} {m : Nat} (h : p.2 < m) : ∀ k, (lIter k p).2 < m * 2 ^ k
  | 0 => by simpa [lIter] using h
  | k + 1 => by
    have := lx_out (lIter_out h k)
    rw [Nat.pow_succ]
    show (lx (lIter k p)).2 < _
    rw [show m * (2 ^ k * 2) = 2 * (m * 2 ^ k) by rw [← Nat.mul_assoc]; omega]
    exact this
/-- In order, first by what stands ahead of the point. -/
def Ahead (p q : Nat × Nat) : Prop := p.2 < q.2 ∨ p.2 = q.2 ∧ p.1 ≤ q.1
theorem lx_mono {p q : Nat × Nat} (h : Ahead p q) : Ahead (lx p) (lx q) := by
  rcases h with h | ⟨h, h1⟩
  · left
    unfold lx
    split <;> split <;> simp only [] <;> omega
  · have h2 : p.1 * p.1 ≤ q.1 * q.1 := Nat.mul_le_mul h1 h1
    have h3 : p.1 * p.1 / 2147483648 ≤ q.1 * q.1 / 2147483648 := Nat.div_le_div_right h2
    unfold lx Ahead
    split <;> split <;> simp only [] <;> omega
theorem lIter_mono {p q : Nat × Nat} (h : Ahead p q) : ∀ k, Ahead (lIter k p) (lIter k q)
  | 0 => h
  | k + 1 => lx_mono (lIter_mono h k)
theorem lx_top (m : Nat) : lx (2147483648, m) = (2147483648, 2 * m) := by
  have e : 2147483648 * 2147483648 / 2147483648 = 2147483648 := Nat.mul_div_cancel _ (by omega)
  unfold lx
  simp only [e]
  rw [if_neg (by omega)]
theorem lIter_pow (p k : Nat) : lIter k (2147483648, p) = (2147483648, p * 2 ^ k) := by
  induction k with
  | zero => rw [Nat.pow_zero, Nat.mul_one]; rfl
  | succ k ih =>
    show lx (lIter k _) = _
    rw [ih, lx_top, Nat.pow_succ, show 2 * (p * 2 ^ k) = p * (2 ^ k * 2) by rw [Nat.mul_comm 2, Nat.mul_assoc]]
theorem whole_spec (n : Nat) (h : n < 18446744073709551616) (h0 : 0 < n) : 2 ^ whole n ≤ n ∧ n < 2 ^ (whole n + 1) ∧ whole n ≤ 63 := by
  obtain ⟨a, c, d⟩ := bl_spec n h h0
  have := bl_le n h
  unfold whole
  refine ⟨c, ?_, by omega⟩
  rw [show Lib.bitLen n - 1 + 1 = Lib.bitLen n by omega]
  exact d
theorem norm_in (n : Nat) (h : n < 18446744073709551616) (h0 : 0 < n) : InX (norm n) := by
  obtain ⟨a, b, c⟩ := whole_spec n h h0
  unfold norm InX
  generalize whole n = m at *
  split
  · rename_i hm
    obtain ⟨r, rfl⟩ : ∃ r, m = r + 31 := ⟨m - 31, by omega⟩
    rw [Nat.add_sub_cancel]
    have hp := Nat.two_pow_pos r
    rw [Nat.pow_add] at a
    rw [show r + 31 + 1 = r + 32 by omega, Nat.pow_add] at b
    constructor
    · rw [Nat.le_div_iff_mul_le hp, Nat.mul_comm]; exact a
    · rw [Nat.div_lt_iff_lt_mul hp, Nat.mul_comm]; exact b
  · rename_i hm
    obtain ⟨r, hr⟩ : ∃ r, 31 = m + r := ⟨31 - m, by omega⟩
    rw [show 31 - m = r by omega]
    have e : 2 ^ m * 2 ^ r = 2147483648 := by rw [← Nat.pow_add, ← hr]
    have e2 : 2 ^ (m + 1) * 2 ^ r = 4294967296 := by rw [Nat.pow_succ, Nat.mul_assoc, Nat.mul_comm 2, ← Nat.mul_assoc, e]
    constructor
    · rw [← e]; exact Nat.mul_le_mul_right _ a
    · rw [← e2]; exact Nat.mul_lt_mul_of_pos_right b (Nat.two_pow_pos _)
theorem start_mono {a b : Nat} (ha : 0 < a) (hab : a ≤ b) (hb : b < 18446744073709551616) : Ahead (norm a, whole a) (norm b, whole b) := by
  obtain ⟨a1, a2, _⟩ := whole_spec a (by omega) ha
  obtain ⟨b1, b2, _⟩ := whole_spec b hb (by omega)
  have hle : whole a ≤ whole b := by
    have : whole a < whole b + 1 := (Nat.pow_lt_pow_iff_right (a := 2) (by decide)).1 (Nat.lt_of_le_of_lt a1 (Nat.lt_of_le_of_lt hab b2))
    omega
  rcases Nat.lt_or_ge (whole a) (whole b) with h | h
  · exact .inl h
  · have e : whole a = whole b := by omega
    refine .inr ⟨e, ?_⟩
    show norm a ≤ norm b
    unfold norm
    rw [e]
    split
    · exact Nat.div_le_div_right hab
    · exact Nat.mul_le_mul_right _ hab
theorem log2_mono {a b : Nat} (ha : 0 < a) (hab : a ≤ b) (hb : b < 18446744073709551616) : log2N a ≤ log2N b := by
  unfold log2N
  rw [if_neg (by omega), if_neg (by omega)]
  rcases lIter_mono (start_mono ha hab hb) 24 with h | h <;> omega
theorem whole_pow (p : Nat) (h : p ≤ 63) : whole (2 ^ p) = p := by
  unfold whole
  have h64 : 2 ^ p ≤ 9223372036854775808 := Nat.pow_le_pow_right (n := 2) (by decide) h
  rw [bl_eq (2 ^ p) (p + 1) (by omega) (by omega) (by simp) (Nat.pow_lt_pow_right (by decide) (by omega))]
  rfl
theorem log2_pow (p : Nat) (h : p ≤ 31) : log2N (2 ^ p) = p * 16777216 := by
  unfold log2N
  rw [if_neg (by have := Nat.two_pow_pos p; omega), whole_pow p (by omega)]
  have : norm (2 ^ p) = 2147483648 := by
    unfold norm
    rw [whole_pow p (by omega), if_neg (by omega), ← Nat.pow_add, show p + (31 - p) = 31 by omega]
  rw [this, lIter_pow]
theorem log2_lt (n : Nat) (h : n < 18446744073709551616) : log2N n < 1073741824 := by
  unfold log2N
  split
  · decide
  · rename_i h0
    have := (whole_spec n h (by omega)).2.2
    have := lIter_out (p := (norm n, whole n)) (m := 64) (show whole n < 64 by omega) 24
    exact this
/-- What a draw is. -/
def clampN (d : Int) : Nat := (min (max d 1) 65536).toNat
def ofN (d : Int) : Nat := 268435456 - log2N (clampN d)
theorem clamp_bd (d : Int) : 1 ≤ clampN d ∧ clampN d ≤ 65536 := by unfold clampN; omega
theorem log2_draw (n : Nat) (h : 1 ≤ n) (h1 : n ≤ 65536) : log2N n ≤ 268435456 := by
  have := log2_mono (show 0 < n by omega) h1 (by decide)
  rw [show (65536 : Nat) = 2 ^ 16 by decide, log2_pow 16 (by decide)] at this
  exact this
theorem of_le (d : Int) : ofN d ≤ 268435456 := Nat.sub_le _ _
theorem of_mono {a b : Int} (h : a ≤ b) : ofN b ≤ ofN a := by
  have h1 : clampN a ≤ clampN b := by unfold clampN; omega
  have := log2_mono (show 0 < clampN a by have := clamp_bd a; omega) h1 (by have := clamp_bd b; omega)
  unfold ofN
  omega
theorem of_pow (p : Nat) (h : p ≤ 16) : ofN (2 ^ p : Nat) = (16 - p) * 16777216 := by
  have e : clampN ((2 ^ p : Nat) : Int) = 2 ^ p := by
    have h1 := Nat.two_pow_pos p
    have h2 : 2 ^ p ≤ 65536 := Nat.pow_le_pow_right (n := 2) (by decide) h
    unfold clampN
    omega
  unfold ofN
  rw [e, log2_pow p (by omega)]
  omega
end Go.Proofs.Ytpedhlmcgilliaa
