/- What a histogram of numbers says of them, sorted; in plain Lean. -/
import Derived.Test.YtpedhlmcgilliaaHistG
set_option linter.unusedVariables false
namespace Go.Proofs.Ytpedhlmcgilliaa
open Go.RowKit
def bl (x : Int) : Nat := Lib.bitLen x.toNat
theorem bl_mono {x y : Int} (hxy : x ≤ y) (hy : y < 18446744073709551616) : bl x ≤ bl y := by
  unfold bl
  rcases Nat.eq_zero_or_pos x.toNat with h | h
  · rw [h, bl_zero]; exact Nat.zero_le _
  · have h1 := bl_spec x.toNat (by omega) h
    have h2 := bl_spec y.toNat (by omega) (by omega)
    rcases Nat.lt_or_ge (Lib.bitLen y.toNat) (Lib.bitLen x.toNat) with h3 | h3
    · have h4 : 2 ^ Lib.bitLen y.toNat ≤ 2 ^ (Lib.bitLen x.toNat - 1) := Nat.pow_le_pow_right (by decide) (by omega)
      omega
    · exact h3
theorem take_snoc_getD' (l : List Int) (j : Nat) (h : j < l.length) : l.take (j + 1) = l.take j ++ [l.getD j 0] := take_snoc_getD l j h
theorem hcnt_count (l : List Int) (k : Nat) : ∀ m, m ≤ l.length → hcnt l k m = ((l.take m).countP (fun x => bl x == k) : Nat)
  | 0, _ => by simp [hcnt]
  | m + 1, h => by
    rw [hcnt, hcnt_count l k m (by omega), take_snoc_getD l m (by omega), List.countP_append, List.countP_singleton]
    unfold bl
    generalize l.getD m 0 = v
    by_cases e : Lib.bitLen v.toNat = k
    · rw [if_pos e, if_pos (by simpa using e)]; omega
    · rw [if_neg e, if_neg (by simpa using e)]; omega
theorem hcnt_all (l : List Int) (k : Nat) : hcnt l k l.length = (l.countP (fun x => bl x == k) : Nat) := by
  rw [hcnt_count l k _ (Nat.le_refl _), List.take_length]
theorem hcnt_srt (l : List Int) (k : Nat) : hcnt (srt l) k l.length = hcnt l k l.length := by
  have := hcnt_all (srt l) k
  rw [srt_len] at this
  rw [this, hcnt_all, srt_count]
theorem csum_count (l : List Int) : ∀ k, csum (fun k => hcnt l k l.length) k = (l.countP (fun x => decide (bl x < k)) : Nat)
  | 0 => by simp [csum]
  | k + 1 => by
    rw [csum, csum_count l k, hcnt_all]
    have : ∀ l : List Int, l.countP (fun x => decide (bl x < k + 1)) = l.countP (fun x => decide (bl x < k)) + l.countP (fun x => bl x == k) := fun l => by
      induction l with
      | nil => rfl
      | cons a t ih =>
        simp only [List.countP_cons, ih]
        (repeat' split) <;> simp_all <;> omega
    rw [this l]; omega
def U64s (l : List Int) : Prop := ∀ v ∈ l, 0 ≤ v ∧ v < 18446744073709551616
theorem U64s.srt {l : List Int} (h : U64s l) : U64s (srt l) := fun v hv => h v ((srt_perm l).mem_iff.1 hv)
theorem U64s.getD {l : List Int} (h : U64s l) (k : Nat) : 0 ≤ l.getD k 0 ∧ l.getD k 0 < 18446744073709551616 := by
  rw [List.getD_eq_getElem?_getD]
  rcases hh : l[k]? with _ | v
  · simp
  · exact h v (List.mem_of_getElem? hh)
theorem csum_all (l : List Int) (h : U64s l) : csum (fun k => hcnt l k l.length) 65 = l.length := by
  rw [csum_count]
  congr 1
  rw [List.countP_eq_length]
  intro v hv
  have := bl_le v.toNat (by have := h v hv; omega)
  exact decide_eq_true (by unfold bl; omega)
/-- Where the r-th number of a rising row lies. -/
theorem quant_at (s : List Int) (h : U64s s) (hs : Rising s) (r : Nat) (hr : r < s.length) (k : Nat) (h1 : csum (fun k => hcnt s k s.length) k ≤ r) (h2 : (r : Int) < csum (fun k => hcnt s k s.length) (k + 1)) : bl (s.getD r 0) = k := by
  rw [csum_count] at h1 h2
  have hm : ∀ k x y : Int, x ≤ y → y ∈ s → decide ((bl y : Int) < k) = true → decide ((bl x : Int) < k) = true := fun k x y hxy hy hd => by
    have := bl_mono hxy (h y hy).2
    simp at *; omega
  -- the row's numbers beyond 64 bits do not matter: cap them
  have key : ∀ k : Nat, (bl (s.getD r 0) < k ↔ r < s.countP (fun x => decide (bl x < k))) := fun k => by
    have q := rising_at (p := fun x => decide (bl (min x 18446744073709551615) < k)) (fun x y hxy hy => by
      have := bl_mono (x := min x 18446744073709551615) (y := min y 18446744073709551615) (by omega) (by omega)
      simp at *; omega) s hs r hr
    have e : s.countP (fun x => decide (bl (min x 18446744073709551615) < k)) = s.countP (fun x => decide (bl x < k)) := List.countP_congr (fun x hx => by
      have := h x hx
      rw [Int.min_eq_left (by omega)])
    rw [e] at q
    have hb := h.getD r
    rw [Int.min_eq_left (by omega)] at q
    rw [← q]; simp
  have a := key k
  have b := key (k + 1)
  omega
theorem hmost_spec (l : List Int) (h : U64s l) : ∀ m, m ≤ l.length → 0 ≤ hmost l m ∧ (∀ i, i < m → l.getD i 0 ≤ hmost l m) ∧ (0 < m → ∃ i, i < m ∧ hmost l m = l.getD i 0)
  | 0, _ => ⟨Int.le_refl _, fun i hi => by omega, fun h => by omega⟩
  | m + 1, hm => by
    obtain ⟨h0, h1, h2⟩ := hmost_spec l h m (by omega)
    have hg := h.getD m
    rw [hmost]
    refine ⟨by omega, fun i hi => ?_, fun _ => ?_⟩
    · rcases Nat.lt_or_ge i m with hi | hi
      · have := h1 i hi; omega
      · obtain rfl : i = m := by omega
        omega
    · rcases Nat.eq_zero_or_pos m with rfl | hp
      · exact ⟨0, by omega, by simp only [hmost]; omega⟩
      · obtain ⟨i, hi, e⟩ := h2 hp
        rcases Int.le_total (hmost l m) (l.getD m 0) with hle | hle
        · exact ⟨m, by omega, by omega⟩
        · exact ⟨i, by omega, by omega⟩
theorem hleast_spec (l : List Int) : ∀ m, (∀ i, i < m → hleast l m ≤ l.getD i 0) ∧ (0 < m → ∃ i, i < m ∧ hleast l m = l.getD i 0)
  | 0 => ⟨fun i hi => by omega, fun h => by omega⟩
  | m + 1 => by
    obtain ⟨h1, h2⟩ := hleast_spec l m
    rw [hleast]
    by_cases hc : m = 0 ∨ l.getD m 0 < hleast l m
    · rw [if_pos hc]
      refine ⟨fun i hi => ?_, fun _ => ⟨m, by omega, rfl⟩⟩
      rcases Nat.lt_or_ge i m with hi | hi
      · have := h1 i hi; omega
      · obtain rfl : i = m := by omega
        omega
    · rw [if_neg hc]
      refine ⟨fun i hi => ?_, fun _ => ?_⟩
      · rcases Nat.lt_or_ge i m with hi | hi
        · exact h1 i hi
        · obtain rfl : i = m := by omega
          omega
      · obtain ⟨i, hi, e⟩ := h2 (by omega)
        exact ⟨i, by omega, e⟩
theorem getD_mem (l : List Int) (i : Nat) (hi : i < l.length) : l.getD i 0 ∈ l := by
  rw [List.getD_eq_getElem?_getD, List.getElem?_eq_getElem hi]; exact List.getElem_mem _
theorem mem_getD {l : List Int} {x : Int} (hx : x ∈ l) : ∃ i, i < l.length ∧ l.getD i 0 = x := by
  obtain ⟨i, hi, e⟩ := List.getElem_of_mem hx
  exact ⟨i, hi, by rw [List.getD_eq_getElem?_getD, List.getElem?_eq_getElem hi]; exact e⟩
theorem least_srt (l : List Int) (h0 : 0 < l.length) : hleast l l.length = (srt l).getD 0 0 := by
  obtain ⟨h1, h2⟩ := hleast_spec l l.length
  obtain ⟨i, hi, e⟩ := h2 h0
  exact (srt_first l _ (e ▸ getD_mem l i hi) (fun x hx => by obtain ⟨j, hj, rfl⟩ := mem_getD hx; exact h1 j hj)).symm
theorem most_srt (l : List Int) (h : U64s l) (h0 : 0 < l.length) : hmost l l.length = (srt l).getD (l.length - 1) 0 := by
  obtain ⟨_, h1, h2⟩ := hmost_spec l h l.length (Nat.le_refl _)
  obtain ⟨i, hi, e⟩ := h2 h0
  exact (srt_last l _ (e ▸ getD_mem l i hi) (fun x hx => by obtain ⟨j, hj, rfl⟩ := mem_getD hx; exact h1 j hj)).symm
/-- The sum of numbers is that of their values. -/
theorem sums_val (l : List Int) (h : U64s l) (hl : (l.length : Int) < 9223372036854775808) : V (sums l).1 (sums l).2 = l.sum ∧ IsNum (sums l).1 (sums l).2 := by
  have key : ∀ k, k ≤ l.length → V (sums (l.take k)).1 (sums (l.take k)).2 = (l.take k).sum := fun k => by
    induction k with
    | zero => intro _; rfl
    | succ k ih =>
      intro hk
      have hv : l[k]? = some (l.getD k 0) := by rw [List.getD_eq_getElem?_getD, List.getElem?_eq_getElem (by omega)]; rfl
      have hb := sums_bd (l.take k) (fun v hv => h v (List.mem_of_mem_take hv)) (by rw [List.length_take]; omega)
      have hg := h.getD k
      rw [sums_take l k _ hv, take_snoc_getD l k (by omega), List.sum_append]
      have hh := ih (by omega)
      have hb2 := hb.2
      rw [List.length_take] at hb2
      obtain ⟨p0, p1, p2, p3⟩ := hb.1
      generalize (sums (l.take k)).1 = a at *
      generalize (sums (l.take k)).2 = b at *
      simp only [List.sum_cons, List.sum_nil, ← hh]
      unfold V sHi sLo
      omega
  have := key l.length (Nat.le_refl _)
  rw [List.take_length] at this
  exact ⟨this, (sums_bd l h hl).1⟩
theorem V_inj {a b c d : Int} (h1 : IsNum a b) (h2 : IsNum c d) (h : V a b = V c d) : a = c ∧ b = d := by
  obtain ⟨p0, p1, p2, p3⟩ := h1
  obtain ⟨q0, q1, q2, q3⟩ := h2
  unfold V at h
  omega
theorem sums_perm {a b : List Int} (hp : a.Perm b) (h : U64s a) (hl : (a.length : Int) < 9223372036854775808) : sums a = sums b := by
  have hb : U64s b := fun v hv => h v (hp.mem_iff.2 hv)
  obtain ⟨h1, n1⟩ := sums_val a h hl
  obtain ⟨h2, n2⟩ := sums_val b hb (by rw [← hp.length_eq]; exact hl)
  have := V_inj n1 n2 (by rw [h1, h2, perm_sum hp])
  exact Prod.ext this.1 this.2
/-- A histogram says what a rising row of numbers says. -/
structure Says (cnt : Nat → Int) (hi lo least most : Int) (s : List Int) : Prop where
  u64 : U64s s
  rising : Rising s
  cnt : ∀ k, k < 65 → cnt k = hcnt s k s.length
  sum : (hi, lo) = sums s
  least : least = s.getD 0 0
  most : most = s.getD (s.length - 1) 0
theorem says_of (l : List Int) (h : U64s l) (hl : (l.length : Int) < 9223372036854775808) : Says (fun k => hcnt l k l.length) (sums l).1 (sums l).2 (hleast l l.length) (hmost l l.length) (srt l) where
  u64 := h.srt
  rising := srt_rising l
  cnt := fun k _ => by rw [srt_len]; exact (hcnt_srt l k).symm
  sum := sums_perm (srt_perm l).symm h hl
  least := by
    rcases Nat.eq_zero_or_pos l.length with h0 | h0
    · obtain rfl := List.length_eq_zero_iff.1 h0
      simp [srt, hleast]
    · exact least_srt l h0
  most := by
    rw [srt_len]
    rcases Nat.eq_zero_or_pos l.length with h0 | h0
    · obtain rfl := List.length_eq_zero_iff.1 h0
      simp [srt, hmost]
    · exact most_srt l h h0
end Go.Proofs.Ytpedhlmcgilliaa
