/- Straws: who has the shortest; in plain Lean. -/
import Derived.WalkKit
set_option linter.unusedVariables false
namespace Go.Proofs.Ytpedhlmcgilliaa
/-- Is the straw of a shorter than that of b, or as long, and its number lower? L: how long each number's straw is, without its weight. -/
def shP (L : Int → Int) (a b : Int × Int) : Bool := decide (L a.1 * b.2 < L b.1 * a.2) || (L a.1 * b.2 == L b.1 * a.2 && decide (a.1 < b.1))
theorem sh_iff (L : Int → Int) (a b : Int × Int) : shP L a b = true ↔ L a.1 * b.2 < L b.1 * a.2 ∨ (L a.1 * b.2 = L b.1 * a.2 ∧ a.1 < b.1) := by
  unfold shP
  simp
theorem sh_asym {L : Int → Int} {a b : Int × Int} (h : shP L a b = true) (k : shP L b a = true) : False := by
  rw [sh_iff] at h k
  omega
theorem sh_total {L : Int → Int} {a b : Int × Int} (hab : a.1 ≠ b.1) (h : ¬ shP L a b = true) : shP L b a = true := by
  rw [sh_iff] at h ⊢
  omega
theorem sh_trans {L : Int → Int} {a b c : Int × Int} (ha : 0 < a.2) (hb : 0 < b.2) (hc : 0 < c.2) (h : shP L a b = true) (k : shP L b c = true) : shP L a c = true := by
  rw [sh_iff] at h k ⊢
  generalize L a.1 = x at *
  generalize L b.1 = y at *
  generalize L c.1 = z at *
  have e1 : x * b.2 * c.2 = b.2 * (x * c.2) := by rw [Int.mul_comm x, Int.mul_assoc]
  have e2 : y * a.2 * c.2 = y * c.2 * a.2 := by rw [Int.mul_assoc, Int.mul_comm a.2, ← Int.mul_assoc]
  have e3 : z * b.2 * a.2 = b.2 * (z * a.2) := by rw [Int.mul_comm z, Int.mul_assoc]
  have h' : x * b.2 ≤ y * a.2 := by omega
  have k' : y * c.2 ≤ z * b.2 := by omega
  have m1 : x * b.2 * c.2 ≤ y * a.2 * c.2 := Int.mul_le_mul_of_nonneg_right h' (by omega)
  have m2 : y * c.2 * a.2 ≤ z * b.2 * a.2 := Int.mul_le_mul_of_nonneg_right k' (by omega)
  have m3 : b.2 * (x * c.2) ≤ b.2 * (z * a.2) := by omega
  have m4 : x * c.2 ≤ z * a.2 := Int.le_of_mul_le_mul_left m3 hb
  rcases Int.lt_or_eq_of_le m4 with m5 | m5
  · exact .inl m5
  · refine .inr ⟨m5, ?_⟩
    have q1 : x * b.2 * c.2 = y * a.2 * c.2 := by rw [m5] at e1; omega
    have q2 : y * c.2 * a.2 = z * b.2 * a.2 := by rw [m5] at e1; omega
    have q3 : x * b.2 = y * a.2 := Int.eq_of_mul_eq_mul_right (by omega) q1
    have q4 : y * c.2 = z * b.2 := Int.eq_of_mul_eq_mul_right (by omega) q2
    omega
/-- The place that is picked among the first k. -/
def pickTo (L : Int → Int) (l : List (Int × Int)) : Nat → Int
  | 0 => -1
  | k + 1 => if decide (0 < (l.getD k (0, 0)).2) && (decide (pickTo L l k < 0) || shP L (l.getD k (0, 0)) (l.getD (pickTo L l k).toNat (0, 0))) then (k : Int) else pickTo L l k
theorem pick_bd (L : Int → Int) (l : List (Int × Int)) : ∀ k, -1 ≤ pickTo L l k ∧ pickTo L l k < k
  | 0 => by simp [pickTo]
  | k + 1 => by
    have := pick_bd L l k
    unfold pickTo
    split <;> omega
theorem pick_yes {L : Int → Int} {l : List (Int × Int)} {k : Nat} (h : 0 < (l.getD k (0, 0)).2 ∧ (pickTo L l k < 0 ∨ shP L (l.getD k (0, 0)) (l.getD (pickTo L l k).toNat (0, 0)) = true)) : pickTo L l (k + 1) = k := by
  rw [pickTo]; rw [if_pos]; simpa using h
theorem pick_no {L : Int → Int} {l : List (Int × Int)} {k : Nat} (h : ¬ (0 < (l.getD k (0, 0)).2 ∧ (pickTo L l k < 0 ∨ shP L (l.getD k (0, 0)) (l.getD (pickTo L l k).toNat (0, 0)) = true))) : pickTo L l (k + 1) = pickTo L l k := by
  rw [pickTo]; rw [if_neg]; simpa using h
theorem pick_pos (L : Int → Int) (l : List (Int × Int)) : ∀ k, 0 ≤ pickTo L l k → 0 < (l.getD (pickTo L l k).toNat (0, 0)).2
  | 0, h => by simp [pickTo] at h
  | k + 1, h => by
    by_cases g : 0 < (l.getD k (0, 0)).2 ∧ (pickTo L l k < 0 ∨ shP L (l.getD k (0, 0)) (l.getD (pickTo L l k).toNat (0, 0)) = true)
    · rw [pick_yes g]; simpa using g.1
    · rw [pick_no g] at h ⊢; exact pick_pos L l k h
/-- Of unlike numbers, the picked one's straw is the shortest. -/
theorem pick_best {L : Int → Int} {l : List (Int × Int)} : ∀ n, (∀ i j, i < n → j < i → (l.getD i (0, 0)).1 ≠ (l.getD j (0, 0)).1) → ∀ j, j < n → 0 < (l.getD j (0, 0)).2 →
    0 ≤ pickTo L l n ∧ (pickTo L l n = j ∨ shP L (l.getD (pickTo L l n).toNat (0, 0)) (l.getD j (0, 0)) = true)
  | 0, _, j, hj, _ => by omega
  | n + 1, hd, j, hj, hw => by
    have ih := pick_best (L := L) (l := l) n (fun i j hi hji => hd i j (by omega) hji)
    have hbd := pick_bd L l n
    by_cases g : 0 < (l.getD n (0, 0)).2 ∧ (pickTo L l n < 0 ∨ shP L (l.getD n (0, 0)) (l.getD (pickTo L l n).toNat (0, 0)) = true)
    · rw [pick_yes g]
      refine ⟨by omega, ?_⟩
      by_cases e : j = n
      · subst e; exact .inl rfl
      · right
        have ⟨p0, p1⟩ := ih j (by omega) hw
        have gs : shP L (l.getD n (0, 0)) (l.getD (pickTo L l n).toNat (0, 0)) = true := by
          rcases g.2 with g2 | g2
          · omega
          · exact g2
        rw [show ((n : Int)).toNat = n by omega]
        rcases p1 with p1 | p1
        · rw [p1] at gs
          exact gs
        · exact sh_trans g.1 (pick_pos L l n p0) hw gs p1
    · rw [pick_no g]
      by_cases e : j = n
      · subst e
        have g2 : ¬ (pickTo L l j < 0 ∨ shP L (l.getD j (0, 0)) (l.getD (pickTo L l j).toNat (0, 0)) = true) := fun h => g ⟨hw, h⟩
        have p0 : 0 ≤ pickTo L l j := by
          rcases Int.lt_or_le (pickTo L l j) 0 with h | h
          · exact absurd (.inl h) g2
          · exact h
        exact ⟨p0, .inr (sh_total (hd j _ (by omega) (by omega)) (fun h => g2 (.inr h)))⟩
      · exact ih j (by omega) hw
/-- As one weighs more, it alone may be picked anew; as it weighs less, it alone may be left. -/
theorem pick_moves {L : Int → Int} {l m : List (Int × Int)} {n at_ : Nat} {wt : Int} (hL : ∀ k, 0 ≤ L k) (hn : at_ < n)
    (hm : ∀ k, m.getD k (0, 0) = if k = at_ then ((l.getD at_ (0, 0)).1, wt) else l.getD k (0, 0))
    (hd : ∀ i j, i < n → j < i → (l.getD i (0, 0)).1 ≠ (l.getD j (0, 0)).1) (hw : 0 < wt) (hl : 0 < (l.getD at_ (0, 0)).2) :
    0 ≤ pickTo L l n ∧ 0 ≤ pickTo L m n ∧ (pickTo L l n = pickTo L m n ∨ if (l.getD at_ (0, 0)).2 < wt then pickTo L m n = at_ else pickTo L l n = at_) := by
  have hm1 : ∀ k, (m.getD k (0, 0)).1 = (l.getD k (0, 0)).1 := fun k => by rw [hm k]; split <;> simp_all
  have hma : m.getD at_ (0, 0) = ((l.getD at_ (0, 0)).1, wt) := by rw [hm, if_pos rfl]
  have hdm : ∀ i j, i < n → j < i → (m.getD i (0, 0)).1 ≠ (m.getD j (0, 0)).1 := fun i j hi hj => by rw [hm1, hm1]; exact hd i j hi hj
  have bl := pick_best (L := L) n hd
  have bm := pick_best (L := L) n hdm
  have b1 := pick_bd L l n
  have b2 := pick_bd L m n
  have p1 := (bl at_ hn hl).1
  have p2 := (bm at_ hn (by rw [hma]; exact hw)).1
  have q1 := pick_pos L l n p1
  have q2 := pick_pos L m n p2
  refine ⟨p1, p2, ?_⟩
  obtain ⟨a, ha⟩ := Int.eq_ofNat_of_zero_le p1
  obtain ⟨b, hb⟩ := Int.eq_ofNat_of_zero_le p2
  rw [ha] at bl b1 q1 ⊢
  rw [hb] at bm b2 q2 ⊢
  clear p1 p2 ha hb
  simp only [Int.toNat_natCast] at bl bm q1 q2
  by_cases e : a = b
  · subst e; exact .inl rfl
  · right
    -- neither is the one that turned: they'd each be shorter than the other
    have both : a ≠ at_ → b ≠ at_ → False := fun h1 h2 => by
      have x1 := (bl b (by omega) (by rw [hm, if_neg h2] at q2; exact q2)).2.resolve_left (by omega)
      have x2 := (bm a (by omega) (by rw [hm, if_neg h1]; exact q1)).2.resolve_left (by omega)
      rw [hm b, hm a, if_neg h1, if_neg h2] at x2
      exact sh_asym x1 x2
    split
    · rename_i hlt
      by_cases h2 : b = at_
      · rw [h2]
      · exfalso
        by_cases h1 : a = at_
        · subst h1
          have x1 := (bl b (by omega) (by rw [hm, if_neg h2] at q2; exact q2)).2.resolve_left (by omega)
          have x2 := (bm a (by omega) (by rw [hma]; exact hw)).2.resolve_left (by omega)
          rw [hm b, hma, if_neg h2] at x2
          rw [sh_iff] at x1 x2
          simp only at x2
          have := Int.mul_le_mul_of_nonneg_left (Int.le_of_lt hlt) (hL (l.getD b (0, 0)).1)
          omega
        · exact both h1 h2
    · rename_i hlt
      by_cases h1 : a = at_
      · rw [h1]
      · exfalso
        by_cases h2 : b = at_
        · subst h2
          have x1 := (bl b (by omega) hl).2.resolve_left (by omega)
          have x2 := (bm a (by omega) (by rw [hm, if_neg h1]; exact q1)).2.resolve_left (by omega)
          rw [hma, hm a, if_neg h1] at x2
          rw [sh_iff] at x1 x2
          simp only at x2
          have := Int.mul_le_mul_of_nonneg_left (show wt ≤ (l.getD b (0, 0)).2 by omega) (hL (l.getD a (0, 0)).1)
          omega
        · exact both h1 h2
end Go.Proofs.Ytpedhlmcgilliaa
