/- How hosts take places in turn, as a plain function. -/
import Derived.Test.YtpedhlmcgilliaaRingPlain
set_option linter.unusedVariables false
namespace Go.Proofs.Ytpedhlmcgilliaa
/-- The table, how far each row has come, how much of each weight waits, and how many places are left. -/
structure RS where
  out : Nat → Int
  next : Nat → Nat
  due : Nat → Int
  left : Nat
/-- Rows: where each begins, how far it goes on, and what its host weighs. -/
structure Rows4 where
  at_ : Nat → Nat
  skip : Nat → Nat
  wt : Nat → Int
  heavy : Int
  p : Nat
/-- The place that the i-th row comes to next. -/
def RS.u (s : RS) (R : Rows4) (i : Nat) : Nat := findT (fun j => decide (0 ≤ s.out j)) (R.at_ i) (R.skip i) R.p R.p (s.next i)
def stepR (R : Rows4) (s : RS) (i : Nat) : RS :=
  if s.left = 0 then s
  else if s.due i + R.wt i < R.heavy then { s with due := fun j => if j = i then s.due i + R.wt i else s.due j }
  else { out := fun j => if j = pos (R.at_ i) (R.skip i) R.p (s.u R i) then (i : Int) else s.out j
         next := fun j => if j = i then s.u R i + 1 else s.next j
         due := fun j => if j = i then s.due i + R.wt i - R.heavy else s.due j
         left := s.left - 1 }
/-- One round of so many hosts, so many rounds. -/
def partR (R : Rows4) (s : RS) (i : Nat) : RS := (List.range i).foldl (stepR R) s
def roundsR (R : Rows4) (n : Nat) (s : RS) : Nat → RS
  | 0 => s
  | k + 1 => partR R (roundsR R n s k) n
theorem partR_step (R : Rows4) (s : RS) (i : Nat) : partR R s (i + 1) = stepR R (partR R s i) i := by
  unfold partR; rw [List.range_succ, List.foldl_append]; rfl
theorem stepR_done (R : Rows4) (s : RS) (i : Nat) (h : s.left = 0) : stepR R s i = s := by unfold stepR; rw [if_pos h]
theorem partR_done (R : Rows4) (s : RS) (h : s.left = 0) : ∀ i, partR R s i = s
  | 0 => rfl
  | i + 1 => by rw [partR_step, partR_done R s h i, stepR_done R s i h]
theorem partR_stay (R : Rows4) (s : RS) (i : Nat) (h : (partR R s i).left = 0) : ∀ d, partR R s (i + d) = partR R s i
  | 0 => rfl
  | d + 1 => by rw [show i + (d + 1) = (i + d) + 1 by omega, partR_step, partR_stay R s i h d, stepR_done R _ _ h]
theorem roundsR_stay (R : Rows4) (n : Nat) (s : RS) (k : Nat) (h : (roundsR R n s k).left = 0) : ∀ d, roundsR R n s (k + d) = roundsR R n s k
  | 0 => rfl
  | d + 1 => by rw [show k + (d + 1) = (k + d) + 1 by omega, roundsR, roundsR_stay R n s k h d, partR_done R _ h]
/-- The table at the end: wherever in a round no place is left, it is as behind all rounds. -/
theorem done_eq (R : Rows4) (n : Nat) (s : RS) (k i K : Nat) (hi : i ≤ n) (hk : k < K) (h : (partR R (roundsR R n s k) i).left = 0) : partR R (roundsR R n s k) i = roundsR R n s K := by
  have e1 : roundsR R n s (k + 1) = partR R (roundsR R n s k) i := by
    rw [roundsR]
    have := partR_stay R (roundsR R n s k) i h (n - i)
    rwa [show i + (n - i) = n by omega] at this
  have e2 := roundsR_stay R n s (k + 1) (by rw [e1]; exact h) (K - (k + 1))
  rw [show k + 1 + (K - (k + 1)) = K by omega] at e2
  rw [e2, e1]
theorem stepR_left (R : Rows4) (s : RS) (i : Nat) : (stepR R s i).left ≤ s.left := by
  unfold stepR
  split
  · exact Nat.le_refl _
  · split
    · exact Nat.le_refl _
    · show s.left - 1 ≤ s.left
      omega
theorem partR_left (R : Rows4) (s : RS) : ∀ i d, (partR R s (i + d)).left ≤ (partR R s i).left
  | i, 0 => Nat.le_refl _
  | i, d + 1 => by
    rw [show i + (d + 1) = (i + d) + 1 by omega, partR_step]
    exact Nat.le_trans (stepR_left R _ _) (partR_left R s i d)
/-- How many of the first p places are free. -/
def freeN (out : Nat → Int) (p : Nat) : Nat := (List.range p).countP fun j => decide (out j < 0)
theorem freeN_step (out : Nat → Int) (p : Nat) : freeN out (p + 1) = freeN out p + if out p < 0 then 1 else 0 := by
  unfold freeN
  rw [List.range_succ, List.countP_append, List.countP_singleton]
  by_cases h : out p < 0 <;> simp [h]
theorem freeN_some {out : Nat → Int} : ∀ {p : Nat}, 0 < freeN out p → ∃ r, r < p ∧ out r < 0
  | 0, h => by simp [freeN] at h
  | p + 1, h => by
    rw [freeN_step] at h
    by_cases e : out p < 0
    · exact ⟨p, by omega, e⟩
    · rw [if_neg e] at h
      obtain ⟨r, h1, h2⟩ := freeN_some (p := p) (by omega)
      exact ⟨r, by omega, h2⟩
theorem freeN_out {out : Nat → Int} {r : Nat} {z : Int} : ∀ (p : Nat), p ≤ r → freeN (fun j => if j = r then z else out j) p = freeN out p
  | 0, _ => rfl
  | p + 1, h => by
    rw [freeN_step, freeN_step, freeN_out p (by omega), if_neg (show ¬ p = r by omega)]
theorem freeN_take {out : Nat → Int} {r : Nat} {z : Int} (hz : 0 ≤ z) (hr : out r < 0) : ∀ (p : Nat), r < p → freeN (fun j => if j = r then z else out j) p + 1 = freeN out p
  | 0, h => by omega
  | p + 1, h => by
    rw [freeN_step, freeN_step]
    by_cases e : p = r
    · subst e
      rw [if_pos rfl, if_pos hr, if_neg (by omega), freeN_out p (Nat.le_refl _)]
    · rw [if_neg e]
      have ih := freeN_take (p := p) hz hr (by omega)
      omega
/-- What is asked of the rows. -/
structure RR (R : Rows4) (n : Nat) : Prop where
  prime : primeP R.p
  at_ : ∀ i, i < n → R.at_ i < R.p
  skip0 : ∀ i, i < n → 0 < R.skip i
  skip1 : ∀ i, i < n → R.skip i < R.p
  wt0 : ∀ i, i < n → 0 ≤ R.wt i
  wt1 : ∀ i, i < n → R.wt i ≤ R.heavy
/-- What holds of the state all along. -/
structure RI (R : Rows4) (n : Nat) (s : RS) : Prop where
  due0 : ∀ i, i < n → 0 ≤ s.due i
  due1 : ∀ i, i < n → s.due i < R.heavy
  next : ∀ i, i < n → ∀ t, t < s.next i → 0 ≤ s.out (pos (R.at_ i) (R.skip i) R.p t)
  cnt : freeN s.out R.p = s.left
theorem RI.free {R : Rows4} {n : Nat} {s : RS} (h : RI R n s) (h0 : s.left ≠ 0) : ∃ r, r < R.p ∧ s.out r < 0 := freeN_some (by rw [h.cnt]; omega)
/-- The place that a row comes to: the first free one ahead of it. -/
theorem u_spec {R : Rows4} {n : Nat} {s : RS} (hR : RR R n) (h : RI R n s) (h0 : s.left ≠ 0) {i : Nat} (hi : i < n) :
    s.next i ≤ s.u R i ∧ s.u R i < R.p ∧ s.out (pos (R.at_ i) (R.skip i) R.p (s.u R i)) < 0 ∧ ∀ v, v < s.u R i → 0 ≤ s.out (pos (R.at_ i) (R.skip i) R.p v) := by
  obtain ⟨r, hr, hf⟩ := h.free h0
  obtain ⟨u, h1, h2, h3⟩ := free_ahead (taken := fun j => decide (0 ≤ s.out j)) hR.prime (hR.skip0 i hi) (hR.skip1 i hi) (fun t ht => decide_eq_true (h.next i hi t ht)) hr (decide_eq_false (by omega))
  obtain ⟨a, b, c, d⟩ := findT_spec (taken := fun j => decide (0 ≤ s.out j)) (at_ := R.at_ i) (skip := R.skip i) (size := R.p) R.p (s.next i) u h1 (by omega) h3
  refine ⟨a, Nat.lt_of_le_of_lt b h2, by have := of_decide_eq_false c; exact Int.not_le.1 this, fun v hv => ?_⟩
  rcases Nat.lt_or_ge v (s.next i) with h4 | h4
  · exact h.next i hi v h4
  · exact of_decide_eq_true (d v h4 hv)
/-- The place is the one that any search from there on finds. -/
theorem u_eq {R : Rows4} {n : Nat} {s : RS} (hR : RR R n) (h : RI R n s) (h0 : s.left ≠ 0) {i : Nat} (hi : i < n) {u : Nat} (h1 : s.out (pos (R.at_ i) (R.skip i) R.p u) < 0) (h2 : ∀ v, v < u → 0 ≤ s.out (pos (R.at_ i) (R.skip i) R.p v)) : u = s.u R i := by
  obtain ⟨_, _, h3, h4⟩ := u_spec hR h h0 hi
  rcases Nat.lt_trichotomy u (s.u R i) with h5 | h5 | h5
  · have := h4 u h5; omega
  · exact h5
  · have := h2 _ h5; omega
theorem stepR_keeps {R : Rows4} {n : Nat} {s : RS} (hR : RR R n) (h : RI R n s) {i : Nat} (hi : i < n) : RI R n (stepR R s i) := by
  unfold stepR
  by_cases h0 : s.left = 0
  · rw [if_pos h0]; exact h
  · rw [if_neg h0]
    have w0 := hR.wt0 i hi
    have w1 := hR.wt1 i hi
    have d0 := h.due0 i hi
    have d1 := h.due1 i hi
    by_cases hd : s.due i + R.wt i < R.heavy
    · rw [if_pos hd]
      refine ⟨fun j hj => ?_, fun j hj => ?_, h.next, h.cnt⟩
      · show 0 ≤ if j = i then s.due i + R.wt i else s.due j
        split
        · omega
        · exact h.due0 j hj
      · show (if j = i then s.due i + R.wt i else s.due j) < R.heavy
        split
        · exact hd
        · exact h.due1 j hj
    · rw [if_neg hd]
      obtain ⟨u0, u1, u2, u3⟩ := u_spec hR h h0 hi
      have hup : ∀ j, 0 ≤ s.out j → 0 ≤ (if j = pos (R.at_ i) (R.skip i) R.p (s.u R i) then (i : Int) else s.out j) := fun j hj => by
        split
        · omega
        · exact hj
      refine ⟨fun j hj => ?_, fun j hj => ?_, fun j hj t ht => ?_, ?_⟩
      · show 0 ≤ if j = i then s.due i + R.wt i - R.heavy else s.due j
        split
        · omega
        · exact h.due0 j hj
      · show (if j = i then s.due i + R.wt i - R.heavy else s.due j) < R.heavy
        split
        · omega
        · exact h.due1 j hj
      · show 0 ≤ (if pos (R.at_ j) (R.skip j) R.p t = pos (R.at_ i) (R.skip i) R.p (s.u R i) then (i : Int) else s.out (pos (R.at_ j) (R.skip j) R.p t))
        have ht' : t < if j = i then s.u R i + 1 else s.next j := ht
        by_cases e : j = i
        · subst e
          rw [if_pos rfl] at ht'
          by_cases e2 : t = s.u R j
          · rw [e2, if_pos rfl]; omega
          · exact hup _ (u3 t (by omega))
        · rw [if_neg e] at ht'
          exact hup _ (h.next j hj t ht')
      · show freeN (fun j => if j = pos (R.at_ i) (R.skip i) R.p (s.u R i) then (i : Int) else s.out j) R.p = s.left - 1
        have := freeN_take (out := s.out) (r := pos (R.at_ i) (R.skip i) R.p (s.u R i)) (z := i) (by omega) u2 R.p (Nat.mod_lt _ (by have := hR.prime.1; omega))
        rw [h.cnt] at this
        omega
theorem partR_keeps {R : Rows4} {n : Nat} {s : RS} (hR : RR R n) (h : RI R n s) : ∀ i, i ≤ n → RI R n (partR R s i)
  | 0, _ => h
  | i + 1, hi => by rw [partR_step]; exact stepR_keeps hR (partR_keeps hR h i (by omega)) (by omega)
theorem roundsR_keeps {R : Rows4} {n : Nat} {s : RS} (hR : RR R n) (h : RI R n s) : ∀ k, RI R n (roundsR R n s k)
  | 0 => h
  | k + 1 => partR_keeps hR (roundsR_keeps hR h k) n (Nat.le_refl _)
end Go.Proofs.Ytpedhlmcgilliaa
