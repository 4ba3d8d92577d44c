/- Places of a table whose size is a prime: each row comes by all of them; in plain Lean. -/
import Derived.Test.YtpedhlmcgilliaaRingA
set_option linter.unusedVariables false
namespace Go.Proofs.Ytpedhlmcgilliaa
/-- What maps so many numbers into themselves, no two alike, comes by each. -/
theorem inj_onto : ∀ (n : Nat) (f : Nat → Nat), (∀ i, i < n → f i < n) → (∀ i j, i < n → j < n → f i = f j → i = j) → ∀ y, y < n → ∃ i, i < n ∧ f i = y
  | 0, _, _, _, y, hy => absurd hy (Nat.not_lt_zero y)
  | n + 1, f, hf, hi, y, hy => by
    -- what would come to the last place comes to where the last one goes
    have hg1 : ∀ i, i < n → (if f i = n then f n else f i) < n := fun i h => by
      have h1 := hf i (by omega)
      have h2 := hf n (by omega)
      split
      · rename_i e
        have : f n ≠ n := fun e2 => by have := hi i n (by omega) (by omega) (by omega); omega
        omega
      · omega
    have hg2 : ∀ i j, i < n → j < n → (if f i = n then f n else f i) = (if f j = n then f n else f j) → i = j := fun i j h1 h2 e => by
      by_cases a : f i = n
      · by_cases b : f j = n
        · exact hi i j (by omega) (by omega) (by omega)
        · rw [if_pos a, if_neg b] at e
          have := hi n j (by omega) (by omega) e
          omega
      · by_cases b : f j = n
        · rw [if_neg a, if_pos b] at e
          have := hi i n (by omega) (by omega) e
          omega
        · rw [if_neg a, if_neg b] at e
          exact hi i j (by omega) (by omega) e
    by_cases hfn : y = f n
    · exact ⟨n, by omega, hfn.symm⟩
    · by_cases hyn : y = n
      · -- the last place itself: else no one comes to it, and the n + 1 go to n places
        by_cases he : ∃ i, i < n ∧ f i = n
        · obtain ⟨i, h1, h2⟩ := he
          exact ⟨i, by omega, by omega⟩
        · exfalso
          have h3 := hf n (by omega)
          obtain ⟨i, h1, h2⟩ := inj_onto n (fun i => if f i = n then f n else f i) hg1 hg2 (f n) (by omega)
          by_cases a : f i = n
          · exact he ⟨i, h1, a⟩
          · rw [if_neg a] at h2
            have := hi i n (by omega) (by omega) h2
            omega
      · obtain ⟨i, h1, h2⟩ := inj_onto n (fun i => if f i = n then f n else f i) hg1 hg2 y (by omega)
        by_cases a : f i = n
        · rw [if_pos a] at h2; exact absurd h2.symm hfn
        · rw [if_neg a] at h2; exact ⟨i, by omega, h2⟩
theorem prime_coprime {p a : Nat} (hp : primeP p) (h0 : 0 < a) (ha : a < p) : Nat.gcd p a = 1 := by
  have h1 := Nat.gcd_dvd_left p a
  have h2 := Nat.gcd_dvd_right p a
  have h3 := Nat.le_of_dvd h0 h2
  have h4 : 0 < Nat.gcd p a := Nat.gcd_pos_of_pos_right p h0
  rcases Nat.lt_or_ge (Nat.gcd p a) 2 with h5 | h5
  · omega
  · exact absurd (Nat.mod_eq_zero_of_dvd h1) (hp.2 _ (by omega) h5)
def pos (at_ skip size t : Nat) : Nat := (at_ + t * skip) % size
theorem pos_inj {p at_ skip : Nat} (hp : primeP p) (h0 : 0 < skip) (h1 : skip < p) {i j : Nat} (hi : i < p) (hj : j < p) (e : pos at_ skip p i = pos at_ skip p j) : i = j := by
  have key : ∀ i j, i ≤ j → j < p → pos at_ skip p i = pos at_ skip p j → i = j := fun i j hij hj e => by
    unfold pos at e
    have h2 : p ∣ (at_ + j * skip) - (at_ + i * skip) := Nat.dvd_of_mod_eq_zero (Nat.sub_mod_eq_zero_of_mod_eq e.symm)
    have h3 : (at_ + j * skip) - (at_ + i * skip) = (j - i) * skip := by rw [Nat.sub_mul]; omega
    rw [h3] at h2
    have h4 : p ∣ (j - i) := Nat.Coprime.dvd_of_dvd_mul_right (prime_coprime hp h0 h1) h2
    rcases Nat.eq_zero_or_pos (j - i) with h5 | h5
    · omega
    · have := Nat.le_of_dvd h5 h4
      omega
  rcases Nat.le_total i j with h | h
  · exact key i j h hj e
  · exact (key j i h hi e.symm).symm
theorem pos_onto {p at_ skip : Nat} (hp : primeP p) (h0 : 0 < skip) (h1 : skip < p) {r : Nat} (hr : r < p) : ∃ t, t < p ∧ pos at_ skip p t = r :=
  inj_onto p (pos at_ skip p) (fun i _ => Nat.mod_lt _ (by omega)) (fun i j hi hj e => pos_inj hp h0 h1 hi hj e) r hr
/-- The first place from the t-th on that is free, within so many. -/
def findT (taken : Nat → Bool) (at_ skip size : Nat) : Nat → Nat → Nat
  | 0, t => t
  | f + 1, t => if taken (pos at_ skip size t) = true then findT taken at_ skip size f (t + 1) else t
theorem findT_spec {taken : Nat → Bool} {at_ skip size : Nat} : ∀ (f t u : Nat), t ≤ u → u < t + f → taken (pos at_ skip size u) = false →
    t ≤ findT taken at_ skip size f t ∧ findT taken at_ skip size f t ≤ u ∧ taken (pos at_ skip size (findT taken at_ skip size f t)) = false ∧ ∀ v, t ≤ v → v < findT taken at_ skip size f t → taken (pos at_ skip size v) = true
  | 0, t, u, h1, h2, _ => by omega
  | f + 1, t, u, h1, h2, h3 => by
    rw [findT]
    by_cases ht : taken (pos at_ skip size t) = true
    · rw [if_pos ht]
      have hu : t ≠ u := fun e => by rw [e, h3] at ht; cases ht
      obtain ⟨a, b, c, d⟩ := findT_spec f (t + 1) u (by omega) (by omega) h3
      refine ⟨by omega, b, c, fun v hv1 hv2 => ?_⟩
      by_cases e : v = t
      · rw [e]; exact ht
      · exact d v (by omega) hv2
    · rw [if_neg ht]
      exact ⟨Nat.le_refl _, h1, by simpa using ht, fun v hv1 hv2 => by omega⟩
/-- Among the places of a row from the first that it has not come by there is a free one, if there is one at all. -/
theorem free_ahead {p at_ skip next : Nat} {taken : Nat → Bool} (hp : primeP p) (h0 : 0 < skip) (h1 : skip < p) (hn : ∀ t, t < next → taken (pos at_ skip p t) = true) {r : Nat} (hr : r < p) (hf : taken r = false) :
    ∃ u, next ≤ u ∧ u < p ∧ taken (pos at_ skip p u) = false := by
  obtain ⟨u, hu, e⟩ := pos_onto (at_ := at_) hp h0 h1 hr
  refine ⟨u, ?_, hu, by rw [e]; exact hf⟩
  rcases Nat.lt_or_ge u next with h | h
  · have := hn u h
    rw [e, hf] at this
    cases this
  · exact h
end Go.Proofs.Ytpedhlmcgilliaa
