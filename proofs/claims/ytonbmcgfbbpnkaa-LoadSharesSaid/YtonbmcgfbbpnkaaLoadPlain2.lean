/- Which level is the first with a host; the sum of all that levels get. -/
import Derived.Test.YtonbmcgfbbpnkaaLoadC
set_option linter.unusedVariables false
namespace Go.Proofs.Ytonbmcgfbbpnkaa
/-- The first of the first k with a host; -1: there is none. -/
def someTo (H : List Int) : Nat → Int
  | 0 => -1
  | k + 1 => if 0 < H.getD k 0 ∧ someTo H k < 0 then k else someTo H k
theorem someTo_spec (H : List Int) : ∀ k, (noneTo H k = true ∧ someTo H k = -1) ∨ (∃ m : Nat, m < k ∧ noneTo H m = true ∧ 0 < H.getD m 0 ∧ someTo H k = m)
  | 0 => .inl ⟨rfl, rfl⟩
  | k + 1 => by
    rcases someTo_spec H k with ⟨h1, h2⟩ | ⟨m, hm, h1, h2, h3⟩
    · by_cases hp : 0 < H.getD k 0
      · right
        refine ⟨k, by omega, h1, hp, ?_⟩
        unfold someTo
        rw [if_pos ⟨hp, by omega⟩]
      · left
        refine ⟨?_, ?_⟩
        · rw [noneTo, h1, decide_eq_true (by omega)]; rfl
        · unfold someTo
          rw [if_neg (fun h => hp h.1), h2]
    · right
      refine ⟨m, by omega, h1, h2, ?_⟩
      unfold someTo
      rw [if_neg (by omega), h3]
theorem someTo_at (H : List Int) {i n : Nat} (hi : i < n) : (noneTo H i && decide (0 < H.getD i 0)) = ((i : Int) == someTo H n) := by
  rcases someTo_spec H n with ⟨h1, h2⟩ | ⟨m, hm, h1, h2, h3⟩
  · rw [h2, decide_eq_false (by have := noneTo_at h1 hi; omega)]
    simp <;> omega
  · rw [h3]
    by_cases e : i = m
    · subst e; rw [h1, decide_eq_true h2]; simp
    · have e2 : ((i : Int) == (m : Int)) = false := by simp; omega
      rw [e2]
      rcases Nat.lt_or_ge i m with hl | hl
      · rw [decide_eq_false (by have := noneTo_at h1 hl; omega)]; simp
      · rw [noneTo_bad h2 (by omega)]; rfl
def sumTo (F : Nat → Int) : Nat → Int
  | 0 => 0
  | k + 1 => sumTo F k + F k
theorem sum_got (H : Nat → Int) (t : Int) : ∀ k, sumTo (got H t) k = 10000 - leftTo H t k
  | 0 => rfl
  | k + 1 => by
    rw [sumTo, sum_got H t k, leftTo]
    unfold got
    omega
theorem sum_ofI (H A : List Int) (f : Int) (n : Nat) : ∀ k, k ≤ n → sumTo (ofI H A f n) k = 10000 - leftTo (hH H A f) (tot H A f n) k + if 0 ≤ someTo H n ∧ someTo H n < k then leftTo (hH H A f) (tot H A f n) n else 0
  | 0, _ => by
    rw [if_neg (by omega)]
    rfl
  | k + 1, hk => by
    rw [sumTo, sum_ofI H A f n k (by omega), ofI, someTo_at H (show k < n by omega), leftTo]
    have e : part (hH H A f) (tot H A f n) (leftTo (hH H A f) (tot H A f n) k) k = got (hH H A f) (tot H A f n) k := rfl
    rw [e]
    by_cases h : (k : Int) = someTo H n
    · have h1 : ((k : Int) == someTo H n) = true := by simp [h]
      rw [h1, if_pos rfl, if_neg (by omega), if_pos (by omega)]
      omega
    · have h1 : ((k : Int) == someTo H n) = false := by simp [h]
      rw [h1]
      simp only [Bool.false_eq_true, if_false]
      by_cases h2 : 0 ≤ someTo H n ∧ someTo H n < k
      · rw [if_pos h2, if_pos (by omega)]
        omega
      · rw [if_neg h2, if_neg (by omega)]
        omega
theorem ofI_bd (H A : List Int) (f : Int) (n k : Nat) : 0 ≤ ofI H A f n k ∧ ofI H A f n k ≤ 20000 := by
  have h1 := got_bd (hH_bd H A f) (tot_bd H A f n).1 k
  have h2 := left_bd (hH_bd H A f) (tot_bd H A f n).1 n
  unfold ofI
  split <;> omega
theorem sumTo_bd {F : Nat → Int} (h : ∀ k, 0 ≤ F k ∧ F k ≤ 20000) : ∀ k, 0 ≤ sumTo F k ∧ sumTo F k ≤ 20000 * k
  | 0 => by simp [sumTo]
  | k + 1 => by
    have := sumTo_bd h k
    have := h k
    rw [sumTo]
    omega
/-- Nothing without a host. -/
theorem ofI_zero {H A : List Int} {f : Int} {n i : Nat} (h : H.getD i 0 = 0) : ofI H A f n i = 0 := by
  unfold ofI
  rw [got_zero (hH_bd H A f) (tot_bd H A f n).1 (by unfold hH; rw [h]; exact hI_zero _ _), h]
  simp
/-- Nothing behind levels that are well enough. -/
theorem ofI_behind {H A : List Int} {f : Int} {n i : Nat} (hi : i < n) (h : 10000 ≤ hSum (hH H A f) i) : ofI H A f n i = 0 := by
  obtain ⟨h1, h2, h3⟩ := got_behind (hH_bd H A f) (t := tot H A f n) rfl (Nat.le_of_lt hi) h
  obtain ⟨_, h4, _⟩ := got_behind (hH_bd H A f) (t := tot H A f n) (n := n) rfl (Nat.le_refl _) (Int.le_trans h (hSum_mono (hH_bd H A f) (Nat.le_of_lt hi)))
  unfold ofI
  rw [h3, h4]
  simp
/-- All to the first level that is well enough. -/
theorem ofI_all {H A : List Int} {f : Int} {n : Nat} (hn : 0 < n) (h : hH H A f 0 = 10000) : ofI H A f n 0 = 10000 := by
  have h1 : hSum (hH H A f) 1 = 10000 := by rw [hSum, hSum, h]; rfl
  obtain ⟨e1, e2, _⟩ := got_behind (hH_bd H A f) (t := tot H A f n) (n := n) (i := n) rfl (Nat.le_refl _) (by have := hSum_mono (hH_bd H A f) (show 1 ≤ n by omega); omega)
  have e3 : got (hH H A f) 10000 0 = 10000 := by
    unfold got part
    rw [h]
    rfl
  unfold ofI
  rw [e2, e1, e3]
  simp
theorem sum_none {H A : List Int} {f : Int} {n : Nat} (hr : ∀ k, k < n → 0 ≤ H.getD k 0) (h : noneTo H n = true) : ∀ k, k ≤ n → sumTo (ofI H A f n) k = 0
  | 0, _ => rfl
  | k + 1, hk => by
    have := noneTo_at h (show k < n by omega)
    have := hr k (by omega)
    rw [sumTo, sum_none hr h k (by omega), ofI_zero (by omega)]
    rfl
end Go.Proofs.Ytonbmcgfbbpnkaa
