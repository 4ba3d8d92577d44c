/- Buckets that fill up again: the plain arithmetic. -/
import Derived.Test.YtonbmcgfbbpnkaaNum
set_option linter.unusedVariables false
namespace Go.Proofs.Ytonbmcgfbbpnkaa
/-- A bucket that may be: e in a unit, m at most, h in it, at the time n. -/
structure RB (e m h n : Int) : Prop where
  e0 : 0 ≤ e
  e1 : e ≤ 1099511627776
  m0 : 1 ≤ m
  m1 : m ≤ 1099511627776
  h0 : 0 ≤ h
  h1 : h ≤ m
  n0 : 0 ≤ n
  n1 : n ≤ 1099511627776
/-- What is in it when d units have gone by. -/
def rGo (e m h d : Int) : Int := if m - h < d * e then m else h + d * e
theorem mul_bd {a b A B : Int} (a0 : 0 ≤ a) (a1 : a ≤ A) (b0 : 0 ≤ b) (b1 : b ≤ B) : 0 ≤ a * b ∧ a * b ≤ A * B := by
  refine ⟨Int.mul_nonneg a0 b0, ?_⟩
  have h1 : a * b ≤ A * b := Int.mul_le_mul_of_nonneg_right a1 b0
  have h2 : A * b ≤ A * B := Int.mul_le_mul_of_nonneg_left b1 (by omega)
  omega
theorem rGo_bd {e m h n d : Int} (r : RB e m h n) (d0 : 0 ≤ d) : h ≤ rGo e m h d ∧ rGo e m h d ≤ m ∧ rGo e m h d ≤ h + d * e := by
  obtain ⟨e0, e1, m0, m1, h0, h1, n0, n1⟩ := r
  have := Int.mul_nonneg d0 e0
  unfold rGo
  split <;> omega
theorem rGo_ok {e m h n t : Int} (r : RB e m h n) (ht : n ≤ t) (ht1 : t ≤ 1099511627776) : RB e m (rGo e m h (t - n)) t := by
  have := rGo_bd r (d := t - n) (by omega)
  obtain ⟨e0, e1, m0, m1, h0, h1, n0, n1⟩ := r
  exact ⟨e0, e1, m0, m1, by omega, by omega, by omega, ht1⟩
theorem rTake_ok {e m h n k : Int} (r : RB e m h n) (k0 : 0 ≤ k) (k1 : k ≤ h) : RB e m (h - k) n := by
  obtain ⟨e0, e1, m0, m1, h0, h1, n0, n1⟩ := r
  exact ⟨e0, e1, m0, m1, by omega, by omega, n0, n1⟩
theorem rGo_zero {e m h n : Int} (r : RB e m h n) : rGo e m h 0 = h := by
  obtain ⟨e0, e1, m0, m1, h0, h1, n0, n1⟩ := r
  unfold rGo
  rw [Int.zero_mul, if_neg (by omega)]; omega
theorem rGo_none {m h n d : Int} (r : RB 0 m h n) : rGo 0 m h d = h := by
  obtain ⟨e0, e1, m0, m1, h0, h1, n0, n1⟩ := r
  unfold rGo
  rw [Int.mul_zero, if_neg (by omega)]; omega
/-- The document's test, by a quotient. -/
theorem room_iff {e r d : Int} (he : 0 < e) : r / e < d ↔ r < d * e := Int.ediv_lt_iff_lt_mul he
def rWait (e m h n k : Int) : Int :=
  if k < 0 ∨ m < k then -1 else if k ≤ h then n else if e = 0 then -1 else if 1099511627776 < n + (k - h - 1) / e + 1 then -1 else n + (k - h - 1) / e + 1
theorem div_bd {a e : Int} (a0 : 0 ≤ a) (he : 1 ≤ e) : 0 ≤ a / e ∧ a / e ≤ a := ⟨Int.ediv_nonneg a0 (by omega), Int.ediv_le_self e a0⟩
theorem div_mul {a e : Int} (he : 1 ≤ e) : a / e * e ≤ a ∧ a < (a / e + 1) * e := by
  have h1 := Int.ediv_mul_le a (b := e) (by omega)
  have h2 := Int.lt_ediv_add_one_mul_self a (b := e) (by omega)
  exact ⟨h1, h2⟩
/-- Never: it has not so many now, and not at the last time. -/
theorem rWait_never {e m h n k : Int} (r : RB e m h n) (k0 : 0 ≤ k) (k1 : k ≤ m) (hw : rWait e m h n k < 0) : h < k ∧ rGo e m h (1099511627776 - n) < k := by
  obtain ⟨e0, e1, m0, m1, h0, h1, n0, n1⟩ := r
  unfold rWait at hw
  rw [if_neg (by omega)] at hw
  split at hw
  · omega
  · rename_i hk
    split at hw
    · rename_i he
      subst he
      exact ⟨by omega, by rw [rGo_none ⟨e0, e1, m0, m1, h0, h1, n0, n1⟩]; omega⟩
    · rename_i he
      have hd := div_bd (a := k - h - 1) (e := e) (by omega) (by omega)
      split at hw
      · rename_i hb
        have hm := div_mul (a := k - h - 1) (e := e) (by omega)
        have h2 : (1099511627776 - n) * e ≤ (k - h - 1) / e * e := Int.mul_le_mul_of_nonneg_right (by omega) e0
        refine ⟨by omega, ?_⟩
        unfold rGo
        rw [if_neg (by omega)]
        omega
      · omega
/-- At once. -/
theorem rWait_now {e m h n k : Int} (r : RB e m h n) (k0 : 0 ≤ k) (k1 : k ≤ m) (hk : k ≤ h) : rWait e m h n k = n := by
  unfold rWait
  rw [if_neg (by omega), if_pos hk]
/-- Later: q units and one more. -/
theorem rWait_later {e m h n k : Int} (r : RB e m h n) (k0 : 0 ≤ k) (k1 : k ≤ m) (hw : 0 ≤ rWait e m h n k) (hk : h < k) :
    n < rWait e m h n k ∧ rWait e m h n k ≤ 1099511627776 ∧ rGo e m h (rWait e m h n k - 1 - n) < k ∧ k ≤ rGo e m (rGo e m h (rWait e m h n k - 1 - n)) (rWait e m h n k - (rWait e m h n k - 1)) := by
  obtain ⟨e0, e1, m0, m1, h0, h1, n0, n1⟩ := r
  have hx : rWait e m h n k = n + (k - h - 1) / e + 1 ∧ e ≠ 0 ∧ n + (k - h - 1) / e + 1 ≤ 1099511627776 := by
    unfold rWait at hw ⊢
    rw [if_neg (by omega), if_neg (by omega)] at hw ⊢
    split at hw
    · omega
    · rename_i he
      rw [if_neg he]
      split at hw
      · omega
      · rename_i hb
        rw [if_neg hb]
        exact ⟨rfl, he, by omega⟩
  obtain ⟨hx, he, hb⟩ := hx
  have hd := div_bd (a := k - h - 1) (e := e) (by omega) (by omega)
  have hm := div_mul (a := k - h - 1) (e := e) (by omega)
  rw [hx]
  have e1' : n + (k - h - 1) / e + 1 - 1 - n = (k - h - 1) / e := by omega
  have e2' : n + (k - h - 1) / e + 1 - (n + (k - h - 1) / e + 1 - 1) = 1 := by omega
  rw [e1', e2']
  have hq := Int.mul_nonneg hd.1 e0
  have hs : ((k - h - 1) / e + 1) * e = (k - h - 1) / e * e + e := by rw [Int.add_mul, Int.one_mul]
  have g : rGo e m h ((k - h - 1) / e) = h + (k - h - 1) / e * e := by
    unfold rGo
    rw [if_neg (by omega)]
  refine ⟨by omega, hb, by rw [g]; omega, ?_⟩
  rw [g]
  unfold rGo
  rw [Int.one_mul]
  split <;> omega
end Go.Proofs.Ytonbmcgfbbpnkaa
