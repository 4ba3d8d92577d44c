/- The hosts' turns: how many places each has, and that there is an end; in plain Lean. -/
import Derived.Test.YtpedhlmcgilliaaRingPlain2
set_option linter.unusedVariables false
namespace Go.Proofs.Ytpedhlmcgilliaa
/-- How many of the first p places have an item. -/
def cntN (out : Nat → Int) (i p : Nat) : Nat := (List.range p).countP fun j => out j == (i : Int)
theorem cntN_step (out : Nat → Int) (i p : Nat) : cntN out i (p + 1) = cntN out i p + if (out p == (i : Int)) = true then 1 else 0 := by
  unfold cntN
  rw [List.range_succ, List.countP_append, List.countP_singleton]
theorem cntN_le (out : Nat → Int) (i p : Nat) : cntN out i p ≤ p := by
  unfold cntN
  exact Nat.le_trans List.countP_le_length (by rw [List.length_range]; exact Nat.le_refl _)
theorem cntN_out {out : Nat → Int} {r i : Nat} {z : Int} : ∀ (p : Nat), p ≤ r → cntN (fun j => if j = r then z else out j) i p = cntN out i p
  | 0, _ => rfl
  | p + 1, h => by
    rw [cntN_step, cntN_step, cntN_out p (by omega), if_neg (show ¬ p = r by omega)]
theorem cntN_take {out : Nat → Int} {r i : Nat} (hr : out r < 0) (k : Nat) : ∀ (p : Nat), r < p → cntN (fun j => if j = r then (k : Int) else out j) i p = cntN out i p + if i = k then 1 else 0
  | 0, h => by omega
  | p + 1, h => by
    rw [cntN_step, cntN_step]
    by_cases e : p = r
    · subst e
      have h1 : (out p == (i : Int)) = false := by rw [beq_eq_false_iff_ne]; omega
      rw [if_pos rfl, h1, cntN_out p (Nat.le_refl _)]
      by_cases e2 : i = k
      · rw [if_pos e2, e2, if_pos (by simp)]; simp
      · have h2 : ((k : Int) == (i : Int)) = false := by rw [beq_eq_false_iff_ne]; omega
        rw [if_neg e2, h2, Nat.add_zero]
    · rw [if_neg e, cntN_take hr k p (by omega)]
      omega
/-- How much of its weight an item has had, behind so many turns. -/
def FI (R : Rows4) (n : Nat) (s : RS) (m i' : Nat) : Prop := ∀ j, j < n → (cntN s.out j R.p : Int) * R.heavy + s.due j = ((if j < i' then m + 1 else m : Nat) : Int) * R.wt j
theorem FI_step {R : Rows4} {n : Nat} {s : RS} (hR : RR R n) (h : RI R n s) {m i : Nat} (hi : i < n) (hF : FI R n s m i) (h0 : s.left ≠ 0) : FI R n (stepR R s i) m (i + 1) := by
  unfold stepR
  rw [if_neg h0]
  have hFi := hF i hi
  rw [if_neg (Nat.lt_irrefl i)] at hFi
  by_cases hd : s.due i + R.wt i < R.heavy
  · rw [if_pos hd]
    intro j hj
    show (cntN s.out j R.p : Int) * R.heavy + (if j = i then s.due i + R.wt i else s.due j) = _
    by_cases e : j = i
    · subst e
      rw [if_pos rfl, if_pos (Nat.lt_succ_self j), ← Int.add_assoc, hFi]
      rw [show ((m + 1 : Nat) : Int) = (m : Int) + 1 by omega, Int.add_mul, Int.one_mul]
    · rw [if_neg e, hF j hj]
      by_cases e2 : j < i
      · rw [if_pos e2, if_pos (by omega)]
      · rw [if_neg e2, if_neg (by omega)]
  · rw [if_neg hd]
    obtain ⟨u0, u1, u2, u3⟩ := u_spec hR h h0 hi
    intro j hj
    show (cntN (fun q => if q = pos (R.at_ i) (R.skip i) R.p (s.u R i) then (i : Int) else s.out q) j R.p : Int) * R.heavy + (if j = i then s.due i + R.wt i - R.heavy else s.due j) = _
    rw [cntN_take u2 i R.p (Nat.mod_lt _ (by have := hR.prime.1; omega))]
    by_cases e : j = i
    · subst e
      rw [if_pos rfl, if_pos rfl, if_pos (Nat.lt_succ_self j)]
      have e1 : ((cntN s.out j R.p + 1 : Nat) : Int) * R.heavy = (cntN s.out j R.p : Int) * R.heavy + R.heavy := by
        rw [show ((cntN s.out j R.p + 1 : Nat) : Int) = (cntN s.out j R.p : Int) + 1 by omega, Int.add_mul, Int.one_mul]
      have e2 : ((m + 1 : Nat) : Int) * R.wt j = (m : Int) * R.wt j + R.wt j := by
        rw [show ((m + 1 : Nat) : Int) = (m : Int) + 1 by omega, Int.add_mul, Int.one_mul]
      rw [e1, e2]
      omega
    · rw [if_neg e, if_neg e, Nat.add_zero, hF j hj]
      by_cases e2 : j < i
      · rw [if_pos e2, if_pos (by omega)]
      · rw [if_neg e2, if_neg (by omega)]
theorem FI_part {R : Rows4} {n : Nat} {s : RS} (hR : RR R n) (h : RI R n s) (k : Nat) (hs : ∃ m i', FI R n s m i' ∧ (s.left ≠ 0 → m = k ∧ i' = 0)) :
    ∀ i, i ≤ n → ∃ m i', FI R n (partR R s i) m i' ∧ ((partR R s i).left ≠ 0 → m = k ∧ i' = i)
  | 0, _ => hs
  | i + 1, hi => by
    obtain ⟨m, i', hF, hl⟩ := FI_part hR h k hs i (by omega)
    rw [partR_step]
    by_cases h0 : (partR R s i).left = 0
    · rw [stepR_done R _ i h0]
      exact ⟨m, i', hF, fun h1 => absurd h0 h1⟩
    · obtain ⟨rfl, rfl⟩ := hl h0
      exact ⟨m, i' + 1, FI_step hR (partR_keeps hR h i' (by omega)) (by omega) hF h0, fun _ => ⟨rfl, rfl⟩⟩
theorem FI_rounds {R : Rows4} {n : Nat} {s : RS} (hR : RR R n) (h : RI R n s) (hs : FI R n s 0 0) : ∀ k, ∃ m i', FI R n (roundsR R n s k) m i' ∧ ((roundsR R n s k).left ≠ 0 → m = k ∧ i' = 0)
  | 0 => ⟨0, 0, hs, fun _ => ⟨rfl, rfl⟩⟩
  | k + 1 => by
    rw [roundsR]
    obtain ⟨m, i', hF, hl⟩ := FI_part hR (roundsR_keeps hR h k) k (FI_rounds hR h hs k) n (Nat.le_refl _)
    by_cases h0 : (partR R (roundsR R n s k) n).left = 0
    · exact ⟨m, i', hF, fun h1 => absurd h0 h1⟩
    · obtain ⟨rfl, rfl⟩ := hl h0
      refine ⟨m + 1, 0, fun j hj => ?_, fun _ => ⟨rfl, rfl⟩⟩
      have := hF j hj
      rw [if_pos hj] at this
      rw [this, if_neg (Nat.not_lt_zero j)]
/-- An item that weighs more has no fewer places, but one. -/
theorem FI_fair {R : Rows4} {n : Nat} {s : RS} (hR : RR R n) (h : RI R n s) (hh : 0 < R.heavy) {m i' : Nat} (hF : FI R n s m i') {i k : Nat} (hi : i < n) (hk : k < n) (hw : R.wt i < R.wt k) : cntN s.out i R.p ≤ cntN s.out k R.p + 1 := by
  have Fi := hF i hi
  have Fk := hF k hk
  have d0 := h.due0 i hi
  have d1 := h.due1 k hk
  have w0 := hR.wt0 i hi
  have w1 := hR.wt1 i hi
  obtain ⟨a, ha⟩ : ∃ a : Int, a = cntN s.out i R.p := ⟨_, rfl⟩
  obtain ⟨b, hb⟩ : ∃ b : Int, b = cntN s.out k R.p := ⟨_, rfl⟩
  rw [← ha] at Fi
  rw [← hb] at Fk
  have key : ¬ b + 2 ≤ a := fun hle => by
    have e1 : (b + 2) * R.heavy ≤ a * R.heavy := Int.mul_le_mul_of_nonneg_right hle (by omega)
    have e2 : (b + 2) * R.heavy = b * R.heavy + 2 * R.heavy := by rw [Int.add_mul]
    have e3 : ((if i < i' then m + 1 else m : Nat) : Int) * R.wt i ≤ ((m : Int) + 1) * R.wt i := Int.mul_le_mul_of_nonneg_right (by split <;> omega) w0
    have e4 : (m : Int) * R.wt k ≤ ((if k < i' then m + 1 else m : Nat) : Int) * R.wt k := Int.mul_le_mul_of_nonneg_right (by split <;> omega) (by omega)
    have e5 : (m : Int) * R.wt i ≤ (m : Int) * R.wt k := Int.mul_le_mul_of_nonneg_left (by omega) (by omega)
    have e6 : ((m : Int) + 1) * R.wt i = (m : Int) * R.wt i + R.wt i := by rw [Int.add_mul, Int.one_mul]
    omega
  omega
theorem FI_zero {R : Rows4} {n : Nat} {s : RS} (h : RI R n s) (hh : 0 < R.heavy) {m i' : Nat} (hF : FI R n s m i') {i : Nat} (hi : i < n) (hw : R.wt i = 0) : cntN s.out i R.p = 0 := by
  have Fi := hF i hi
  have d0 := h.due0 i hi
  rw [hw, Int.mul_zero] at Fi
  rcases Nat.eq_zero_or_pos (cntN s.out i R.p) with h1 | h1
  · exact h1
  · have : (1 : Int) * R.heavy ≤ (cntN s.out i R.p : Int) * R.heavy := Int.mul_le_mul_of_nonneg_right (by omega) (by omega)
    omega
/-- In each round the heaviest takes a place. -/
theorem stepR_heavy {R : Rows4} {n : Nat} {s : RS} (h : RI R n s) {i : Nat} (hi : i < n) (hw : R.wt i = R.heavy) : (stepR R s i).left = s.left - 1 := by
  unfold stepR
  by_cases h0 : s.left = 0
  · rw [if_pos h0, h0]
  · have := h.due0 i hi
    rw [if_neg h0, if_neg (by omega)]
theorem round_lower {R : Rows4} {n : Nat} {s : RS} (hR : RR R n) (h : RI R n s) {i : Nat} (hi : i < n) (hw : R.wt i = R.heavy) : (partR R s n).left ≤ s.left - 1 := by
  have h1 := partR_left R s (i + 1) (n - (i + 1))
  rw [show i + 1 + (n - (i + 1)) = n by omega, partR_step, stepR_heavy (partR_keeps hR h i (by omega)) hi hw] at h1
  have h2 := partR_left R s 0 i
  rw [Nat.zero_add] at h2
  have h3 : (partR R s 0).left = s.left := rfl
  omega
theorem rounds_lower {R : Rows4} {n : Nat} {s : RS} (hR : RR R n) (h : RI R n s) {i : Nat} (hi : i < n) (hw : R.wt i = R.heavy) : ∀ k, (roundsR R n s k).left ≤ s.left - k
  | 0 => Nat.le_refl _
  | k + 1 => by
    rw [roundsR]
    have := round_lower hR (roundsR_keeps hR h k) hi hw
    have := rounds_lower hR h hi hw k
    omega
theorem rounds_end {R : Rows4} {n : Nat} {s : RS} (hR : RR R n) (h : RI R n s) {i : Nat} (hi : i < n) (hw : R.wt i = R.heavy) {k : Nat} (hk : s.left ≤ k) : (roundsR R n s k).left = 0 := by
  have := rounds_lower hR h hi hw k
  omega
/-- The first state. -/
def rs0 (p : Nat) : RS := ⟨fun _ => -1, fun _ => 0, fun _ => 0, p⟩
theorem freeN_all : ∀ p, freeN (fun _ => -1) p = p
  | 0 => rfl
  | p + 1 => by rw [freeN_step, freeN_all p]; simp
theorem rs0_keeps {R : Rows4} {n : Nat} (hh : 0 < R.heavy) : RI R n (rs0 R.p) :=
  ⟨fun _ _ => Int.le_refl _, fun _ _ => hh, fun _ _ t ht => absurd ht (Nat.not_lt_zero t), freeN_all R.p⟩
theorem cntN_none (i : Nat) : ∀ p, cntN (fun _ => -1) i p = 0
  | 0 => rfl
  | p + 1 => by
    rw [cntN_step, cntN_none i p]
    have : ((-1 : Int) == (i : Int)) = false := by rw [beq_eq_false_iff_ne]; omega
    rw [this]; rfl
theorem rs0_FI {R : Rows4} {n : Nat} : FI R n (rs0 R.p) 0 0 := fun j hj => by
  show (cntN (fun _ => -1) j R.p : Int) * R.heavy + 0 = _
  rw [cntN_none, if_neg (Nat.not_lt_zero j)]
  simp
end Go.Proofs.Ytpedhlmcgilliaa
