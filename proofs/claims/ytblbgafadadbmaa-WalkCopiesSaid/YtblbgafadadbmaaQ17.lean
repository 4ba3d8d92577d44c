/- Lemmas for the claim's proof: EligJ LoadPlain RatePlain DivPlain. -/
import Derived.Deep.RegionWith
import Derived.Test.YtblbgafadadbmaaQ13
import Derived.Test.YtblbgafadadbmaaQ16
section
/- Counts. -/
set_option linter.unusedVariables false
namespace Go.Proofs.Ytblbgafadadbmaa
open Go.RowKit
set_option maxHeartbeats 8000000
set_option maxRecDepth 100000
/-- How many of the first m hosts lie in the t-th level. -/
def allTo (l : List Nd) (m : Nat) (t : Nat) : Int := (((idx (isK 4) l).take m).countP (fun h => lev l h == (t : Int)) : Nat)
def haveTo (l : List Nd) (S : Nat → Bool) (m : Nat) (t : Nat) : Int := (((idx (isK 4) l).take m).countP (fun h => lev l h == (t : Int) && S h.toNat) : Nat)
theorem take_stepI (xs : List Int) (m : Nat) (hm : m < xs.length) : xs.take (m + 1) = xs.take m ++ [xs.getD m 0] := by
  rw [List.take_succ_eq_append_getElem hm, List.getD_eq_getElem?_getD, List.getElem?_eq_getElem hm]; rfl
theorem allTo_step (l : List Nd) (m : Nat) (hm : m < (idx (isK 4) l).length) (t : Nat) : allTo l (m + 1) t = allTo l m t + if lev l ((idx (isK 4) l).getD m 0) = t then 1 else 0 := by
  unfold allTo
  rw [take_stepI _ m hm, List.countP_append, List.countP_singleton]
  generalize (idx (isK 4) l).getD m 0 = h
  by_cases e : lev l h = t
  · rw [if_pos e, if_pos (by simpa using e)]; omega
  · rw [if_neg e, if_neg (by simpa using e)]; omega
theorem haveTo_step (l : List Nd) (S : Nat → Bool) (m : Nat) (hm : m < (idx (isK 4) l).length) (t : Nat) : haveTo l S (m + 1) t = haveTo l S m t + if lev l ((idx (isK 4) l).getD m 0) = t ∧ S ((idx (isK 4) l).getD m 0).toNat = true then 1 else 0 := by
  unfold haveTo
  rw [take_stepI _ m hm, List.countP_append, List.countP_singleton]
  generalize (idx (isK 4) l).getD m 0 = h
  by_cases e : lev l h = t ∧ S h.toNat = true
  · rw [if_pos e, if_pos (by simp [e.1, e.2])]; omega
  · rw [if_neg e, if_neg (by simpa using e)]; omega
theorem allTo_bd (l : List Nd) (m t : Nat) : 0 ≤ allTo l m t ∧ allTo l m t ≤ m := by
  unfold allTo
  have := List.countP_le_length (p := fun h => lev l h == (t : Int)) (l := (idx (isK 4) l).take m)
  rw [List.length_take] at this
  omega
theorem haveTo_bd (l : List Nd) (S : Nat → Bool) (m t : Nat) : 0 ≤ haveTo l S m t ∧ haveTo l S m t ≤ m := by
  unfold haveTo
  have := List.countP_le_length (p := fun h => lev l h == (t : Int) && S h.toNat) (l := (idx (isK 4) l).take m)
  rw [List.length_take] at this
  omega
section
variable {w w0 : World} {g b n gw gs : Nat} {W : Nat → Int} {S : Nat → Bool} {vH : Value} {H : List Int} {l : List Nd}
theorem set_Counts (hT : TR w b l) (ht : Tall l) (h : SetIs w g b l.length gw gs W S vH H) : Calls Try.prog 50 #[.pointer (some ⟨g, 0, none⟩)] w fun e w' => ∃ gh ga, e = .returned (.tuple #[.slice (some ⟨gh, 0, none⟩) (idx (isK 1) l).length (idx (isK 1) l).length, .slice (some ⟨ga, 0, none⟩) (idx (isK 1) l).length (idx (isK 1) l).length]) ∧
    w'.rowIs gh 3 (idx (isK 1) l).length (fun t => .int .i64 (haveTo l S (idx (isK 4) l).length t)) ∧ w'.rowIs ga 3 (idx (isK 1) l).length (fun t => .int .i64 (allTo l (idx (isK 4) l).length t)) ∧ Below w.heap.size w w' := by
  have hN := set_none h
  have hfew := hT.few
  have hq1 := idx_le (isK 1) l
  obtain ⟨q, hq⟩ : ∃ q, q = (idx (isK 1) l).length := ⟨_, rfl⟩
  have hLv : ∀ w', Below w.heap.size w w' → Calls Try.prog 56 #[.pointer (some ⟨b, 0, none⟩)] w' fun e w'' => ∃ A c, e = .returned (.slice A (q : Nat) c) ∧ Below w.heap.size w w'' ∧ Below w'.heap.size w' w'' := fun w' hx => (tr_Levels (hT.keep hx)).mono (by
    rintro e w'' ⟨A, c, rfl, _, _, hx2⟩
    rw [hq]
    exact ⟨A, c, rfl, below_step hx hx2, hx2⟩)
  rw [← hq] at hq1
  rw [← hq]
  have HQ := Lib.hid hq.symm
  clear hq
  have hmk := run_make_row' (P := Try.prog) 23 3 (.int .i64 0) 8 Try.underlying23 Try.infoI64 rfl .i64 .i64 q (by omega) (by omega)
  obtain ⟨c0, c1, c2, c3, _⟩ := h.blk.cells4
  have U0 : ∀ w', Below w.heap.size w w' → w'.cell? ⟨g, 0, none⟩ = some (.pointer (some ⟨b, 0, none⟩)) := fun w' hx => cell_keep c0 hx
  go_enter Try.func50, Try.ntmps50
  go_wp2_with fail
  refine hN.mono ?_; rintro e w' ⟨rfl, rfl⟩
  go_upto_region 3 with (fail)
  go_cut [4, 5] (fun s4 s5 wx => ∃ gh ga, s4 = .slice (some ⟨gh, 0, none⟩) q q ∧ s5 = .slice (some ⟨ga, 0, none⟩) q q ∧ gh ≠ ga ∧ w.heap.size ≤ gh ∧ w.heap.size ≤ ga ∧ wx.rowIs gh 3 q (fun _ => .int .i64 0) ∧ wx.rowIs ga 3 q (fun _ => .int .i64 0) ∧ Below w.heap.size w wx)
  case first =>
    clear c1 c2 c3 hN
    have hd : Below w.heap.size w w.drew := Below.drew (Below.refl _ _)
    go_region_with (first
      | (go_at_call 56; refine (hLv _ ?hbl).mono ?_; (case hbl => first | exact hd | exact h2 | exact h2.alloc h2.size _ | exact h1 | exact h1.alloc h1.size _); rintro e w2 ⟨A2, c2', rfl, h3, hk⟩; (first | (have h2 := h1; have h1 := h3) | have h1 := h3); have c0' := U0 _ h1; have c0a := fun o => cell_alloc c0' o))
    all_goals
      go_wp2_with fail
      go_meet
      refine ⟨_, _, rfl, rfl, ?_, ?_, ?_, ?_, ?_, ?_⟩
    all_goals first
      | exact row_made' _ _ _ _ rfl
      | (refine row_made' _ _ _ _ ?_; simp; done)
      | exact (row_made' _ _ _ _ rfl).alloc _
      | exact (row_keep (row_made' _ _ _ _ rfl) hk).alloc _
      | exact h1.size
      | exact h2.size
      | exact h1.alloc h1.size _
      | exact (h1.alloc h1.size _).alloc (h1.alloc h1.size _).size _
      | (have := hk.size; simp at this; omega)
      | (have := h1.size; simp; omega)
      | (simp; done)
  case rest =>
    obtain ⟨gh, ga, rfl, rfl, hne, hgh, hga, hRh, hRa, hb⟩ := hcut
    obtain ⟨w1, rfl⟩ : ∃ w1, w1 = wc := ⟨_, rfl⟩
    have hS1 := h.keep hb
    obtain ⟨d0, d1, d2, d3, _⟩ := hS1.blk.cells4
    clear hLv hmk U0 c0 c1 c2 c3 hN
    go_wp2_with fail
    refine (tr_Hosts (hT.keep hb)).mono ?_; rintro e w3 ⟨A3, c3, rfl, hI3, hfr3, hx3⟩
    have hRh3 := row_keep hRh hx3
    have hRa3 := row_keep hRa hx3
    have hb3 := below_step hb hx3
    have hlt1 := hRh.lt
    have hlt2 := hRa.lt
    have hcap := hI3.cap
    have hsm := hI3.small
    have hle := idx_le (isK 4) l
    have hA3 : 0 < (idx (isK 4) l).length → ∀ ad, A3 = some ad → ¬ (ad.block = gh ∨ ad.block = ga) := fun h0 ad e => by
      have h1 := hfr3 ad e
      omega
    clear hRh hRa hx3 hS1 d0 d1 d2 d3 hfr3 hlt1 hlt2
    obtain ⟨nh, hnh⟩ : ∃ nh, nh = (idx (isK 4) l).length := ⟨_, rfl⟩
    rw [← hnh] at hI3 hcap hle hA3
    rw [← hnh]
    have HNH := Lib.hid hnh.symm
    clear hnh
    have hr := tall_rises ht
    have hR0 := hRh3.congr (g := fun t => .int .i64 (haveTo l S 0 t)) (fun t _ => rfl)
    have hR0' := hRa3.congr (g := fun t => .int .i64 (allTo l 0 t)) (fun t _ => rfl)
    clear hRh3 hRa3
    go_wp2_with fail
    go_loopg [7, 8, 31] nh (fun gk s7 s8 s31 wr => ∃ m : Nat, m ≤ nh ∧ gk = nh - m ∧ s31 = .int .i64 m ∧ wr.rowIs gh 3 q (fun t => .int .i64 (haveTo l S m t)) ∧ wr.rowIs ga 3 q (fun t => .int .i64 (allTo l m t)) ∧ Mod (fun k => k = gh ∨ k = ga) w3 wr)
    case atStart => exact ⟨0, Nat.zero_le _, rfl, rfl, hR0, hR0', Mod.refl _ _⟩
    case round =>
      clear hR0 hR0'
      obtain ⟨m, hm, rfl, rfl, hRh, hRa, hM⟩ := hrel
      have hb4 := below_thenMod hb3 (Nat.le_refl _) hM (fun k hk => by rcases hk with e | e <;> rw [e] <;> assumption)
      by_cases hlt : m < nh
      · obtain ⟨ad, rfl, _, x0, _⟩ := (list_mod hI3 hM hA3).get hlt
        have hmi : (m : Int) < (nh : Int) := by omega
        have hmk : m < (idx (isK 4) l).length := by rw [HNH.out]; exact hlt
        have HAL := Lib.hid (allTo_step l m hmk)
        have HHV := Lib.hid (haveTo_step l S m hmk)
        have hin : (idx (isK 4) l).getD m 0 ∈ idx (isK 4) l := by rw [List.getD_eq_getElem?_getD, List.getElem?_eq_getElem hmk]; exact List.getElem_mem hmk
        obtain ⟨hh, hhe, hhl, hh4⟩ := mem_idx.1 hin
        rw [hhe] at x0 HAL HHV
        rw [Int.toNat_natCast] at HHV
        clear hin hmk hhe hh4
        obtain ⟨i, _, _, _, hlev, hlq⟩ := lev_host ht hhl
        obtain ⟨t, hte⟩ : ∃ t : Nat, lev l hh = t := ⟨_, hlev⟩
        have htq : t < q := by rw [hlev] at hte; rw [← HQ.out]; omega
        rw [hte] at HAL HHV
        clear hlev hlq
        have hLv := tr_Level' (hT.keep hb4) hr (hh : Int)
        have hlv : idxI (up l 1 hh) (idx (isK 1) l) = t := hte
        rw [hlv] at hLv
        clear hlv hte
        have hS4 := h.keep hb4
        obtain ⟨d0, d1, d2, d3, _⟩ := hS4.blk.cells4
        have rs := hS4.rS.cell hhl
        have ra := hRa.cell htq
        have fa := hRa.frozen t
        have hbd1 := allTo_bd l m t
        have hbd2 := haveTo_bd l S m t
        have kq1 : IntKind.i64.wrap (allTo l m t + 1) = allTo l m t + 1 := IntWalk.i64_in _ (by omega)
        have kq2 : IntKind.i64.wrap (haveTo l S m t + 1) = haveTo l S m t + 1 := IntWalk.i64_in _ (by omega)
        have htqi : (t : Int) < (q : Int) := by omega
        have hhli : (hh : Int) < (l.length : Int) := by omega
        have hRa2 := (hRa.set t (.int .i64 (allTo l m t + 1))).congr (g := fun t => .int .i64 (allTo l (m + 1) t)) (fun j _ => by
          rw [HAL.out]
          by_cases e : j = t
          · rw [if_pos e, if_pos (by omega), e]
          · rw [if_neg e, if_neg (by omega)]; simp)
        have hRh2 := hRh.of_block (Below.heap_setCell wr ⟨ga, t, none⟩ (.int .i64 (allTo l m t + 1)) gh hne)
        have hM2 := hM.own' (.inr rfl) t (.int .i64 (allTo l m t + 1))
        have hS5 := hS4.rS.of_block (Below.heap_setCell wr ⟨ga, t, none⟩ (.int .i64 (allTo l m t + 1)) gs (row_type2 hS4.rS hRa (by decide)))
        have d2' := (World.cell?_of_block (w := wr) (Below.heap_setCell wr ⟨ga, t, none⟩ (.int .i64 (allTo l m t + 1)) g (row_type hRa hS4.blk (by decide)).symm)).trans d2
        have rs' := hS5.cell hhl
        have rh' := hRh2.cell htq
        have fh' := hRh2.frozen t
        have hRh3 := hRh2.set t (.int .i64 (haveTo l S m t + 1))
        have hRa3 := hRa2.of_block (Below.heap_setCell _ ⟨gh, t, none⟩ (.int .i64 (haveTo l S m t + 1)) ga (Ne.symm hne))
        have hM3 := hM2.own' (.inl rfl) t (.int .i64 (haveTo l S m t + 1))
        obtain ⟨s, hs⟩ : ∃ s, s = S hh := ⟨_, rfl⟩
        rw [← hs] at rs rs' HHV
        clear hs
        clear hS4 hS5 hRa hRh hM hb4 hbd1 hbd2
        have hRh4 := Lib.hid (fun (e : s = true) => hRh3.congr (g := fun t => .int .i64 (haveTo l S (m + 1) t)) (fun j _ => by
          rw [HHV.out, e]
          by_cases e2 : j = t
          · rw [if_pos e2, if_pos ⟨by omega, rfl⟩, e2]
          · rw [if_neg e2, if_neg (by rintro ⟨h1, _⟩; omega)]; simp))
        have hRh5 := Lib.hid (fun (e : s = false) => hRh2.congr (g := fun t => .int .i64 (haveTo l S (m + 1) t)) (fun j _ => by
          rw [HHV.out, e]
          rw [if_neg (by rintro ⟨_, h1⟩; cases h1)]; simp))
        generalize allTo l m t = al at *
        generalize haveTo l S m t = hv at *
        clear hRh3 HAL HHV
        cases s with
        | true =>
          have hR4 := hRh4.out rfl
          clear hRh4 hRh5
          go_wp2_with fail
          refine hLv.mono ?_; rintro e w' ⟨rfl, rfl⟩
          go_wp2
          go_roundg (nh - (m + 1))
          case measure => omega
          case rel => exact ⟨m + 1, by omega, rfl, by go_num, hR4, hRa3, hM3⟩
        | false =>
          have hR4 := hRh5.out rfl
          clear hRh4 hRh5
          go_wp2_with fail
          refine hLv.mono ?_; rintro e w' ⟨rfl, rfl⟩
          go_wp2
          go_roundg (nh - (m + 1))
          case measure => omega
          case rel => exact ⟨m + 1, by omega, rfl, by go_num, hR4, hRa2, hM2⟩
      · obtain rfl : m = nh := by omega
        go_wp2
        go_ret2
        exact ⟨gh, ga, rfl, by rw [HNH.out]; exact hRh, by rw [HNH.out]; exact hRa, hb4⟩
end
end Go.Proofs.Ytblbgafadadbmaa
end
section
/- How much goes to each level: the plain arithmetic. -/
set_option linter.unusedVariables false
namespace Go.Proofs.Ytblbgafadadbmaa
/-- A level's health. -/
def hI (h a f : Int) : Int := if h < 1 ∨ a < 1 ∨ f < 1 then 0 else if 10000 < f * 100 * h / a then 10000 else f * 100 * h / a
theorem hI_bd (h a f : Int) : 0 ≤ hI h a f ∧ hI h a f ≤ 10000 := by
  unfold hI
  split
  · omega
  · split
    · omega
    · rename_i h1 h2
      have h3 : 0 ≤ f * 100 * h := Int.mul_nonneg (by omega) (by omega)
      have := Int.ediv_nonneg h3 (show 0 ≤ a by omega)
      omega
theorem hI_zero (a f : Int) : hI 0 a f = 0 := by unfold hI; rw [if_pos (.inl (by decide))]
theorem hI_full {h a f : Int} (h1 : 1 ≤ h) (a1 : 1 ≤ a) (hf : 100 * a ≤ f * h) (f1 : 1 ≤ f) : hI h a f = 10000 := by
  unfold hI
  rw [if_neg (by omega)]
  have e : f * 100 * h = 100 * (f * h) := by rw [Int.mul_comm f 100, Int.mul_assoc]
  have : 10000 ≤ f * 100 * h / a := by
    rw [Int.le_ediv_iff_mul_le (by omega), e]
    omega
  split <;> omega
/-- The document's loop: one more fits as long as .. -/
theorem hI_next {h a f n : Int} (h1 : 1 ≤ h) (a1 : 1 ≤ a) (f1 : 1 ≤ f) (hn : n < 10000) : (n + 1) * a ≤ f * 100 * h ↔ n < hI h a f := by
  have e : n + 1 ≤ f * 100 * h / a ↔ (n + 1) * a ≤ f * 100 * h := Int.le_ediv_iff_mul_le (by omega)
  unfold hI
  rw [if_neg (by omega)]
  split <;> omega
/-- The sum of the first k healths. -/
def hSum (H : Nat → Int) : Nat → Int
  | 0 => 0
  | k + 1 => hSum H k + H k
theorem hSum_bd (H : Nat → Int) (h : ∀ k, 0 ≤ H k ∧ H k ≤ 10000) : ∀ k, 0 ≤ hSum H k ∧ hSum H k ≤ 10000 * k
  | 0 => by simp [hSum]
  | k + 1 => by
    have := hSum_bd H h k
    have := h k
    rw [hSum]
    omega
/-- What is left behind the first k, and what the k-th gets. -/
def part (H : Nat → Int) (t : Int) (left : Int) (k : Nat) : Int := if 0 < t then (if left < H k * 10000 / t then left else H k * 10000 / t) else 0
def leftTo (H : Nat → Int) (t : Int) : Nat → Int
  | 0 => 10000
  | k + 1 => leftTo H t k - part H t (leftTo H t k) k
def got (H : Nat → Int) (t : Int) (k : Nat) : Int := part H t (leftTo H t k) k
section
variable {H : Nat → Int} (hH : ∀ k, 0 ≤ H k ∧ H k ≤ 10000) {t : Int} (ht : 0 ≤ t)
include hH ht
theorem part_bd (left : Int) (k : Nat) (h0 : 0 ≤ left) : 0 ≤ part H t left k ∧ part H t left k ≤ left := by
  unfold part
  split
  · have := (hH k).1
    have : 0 ≤ H k * 10000 / t := Int.ediv_nonneg (by omega) ht
    split <;> omega
  · omega
theorem left_bd : ∀ k, 0 ≤ leftTo H t k ∧ leftTo H t k ≤ 10000
  | 0 => by simp [leftTo]
  | k + 1 => by
    have h := left_bd k
    have := part_bd hH ht (leftTo H t k) k h.1
    rw [leftTo]
    omega
theorem got_bd (k : Nat) : 0 ≤ got H t k ∧ got H t k ≤ 10000 := by
  have h := left_bd hH ht k
  have := part_bd hH ht (leftTo H t k) k h.1
  unfold got
  omega
theorem got_zero {k : Nat} (h : H k = 0) : got H t k = 0 := by
  have hb := left_bd hH ht k
  unfold got part
  rw [h]
  split
  · rename_i h0
    rw [Int.zero_mul, Int.zero_ediv, if_neg (by omega)]
  · rfl
end
/-- With all of it told, what is left is what is not told. -/
theorem left_full {H : Nat → Int} (hH : ∀ k, 0 ≤ H k ∧ H k ≤ 10000) : ∀ k, leftTo H 10000 k = if 10000 < hSum H k then 0 else 10000 - hSum H k
  | 0 => by simp [leftTo, hSum]
  | k + 1 => by
    have h := left_full hH k
    have hk := hH k
    have e : H k * 10000 / 10000 = H k := Int.mul_ediv_cancel _ (by decide)
    rw [leftTo, part, if_pos (by decide), e, hSum, h]
    (repeat' split) <;> omega
theorem left_spent {H : Nat → Int} (hH : ∀ k, 0 ≤ H k ∧ H k ≤ 10000) {k : Nat} (h : 10000 ≤ hSum H k) : leftTo H 10000 k = 0 := by
  rw [left_full hH]
  split <;> omega
theorem left_none (H : Nat → Int) : ∀ k, leftTo H 0 k = 10000
  | 0 => rfl
  | k + 1 => by rw [leftTo, left_none H k]; rfl
theorem hSum_mono {H : Nat → Int} (hH : ∀ k, 0 ≤ H k ∧ H k ≤ 10000) {i n : Nat} (h : i ≤ n) : hSum H i ≤ hSum H n := by
  induction n with
  | zero => obtain rfl : i = 0 := (by omega); exact Int.le_refl _
  | succ n ih =>
    by_cases e : i = n + 1
    · subst e; exact Int.le_refl _
    · have := ih (by omega)
      have := (hH n).1
      rw [hSum]
      omega
/-- Nothing behind levels that are well enough. -/
theorem got_behind {H : Nat → Int} (hH : ∀ k, 0 ≤ H k ∧ H k ≤ 10000) {t : Int} {n i : Nat} (ht : t = if 10000 < hSum H n then 10000 else hSum H n) (hi : i ≤ n) (ha : 10000 ≤ hSum H i) : t = 10000 ∧ leftTo H t i = 0 ∧ got H t i = 0 := by
  have hm := hSum_mono hH hi
  have h1 : t = 10000 := by rw [ht]; split <;> omega
  have h2 : leftTo H t i = 0 := by rw [h1]; exact left_spent hH ha
  refine ⟨h1, h2, ?_⟩
  have := got_bd hH (show 0 ≤ t by omega) i
  have hp := part_bd hH (show 0 ≤ t by omega) (leftTo H t i) i (by omega)
  unfold got
  omega
end Go.Proofs.Ytblbgafadadbmaa
end
section
/- Buckets that fill up again: the plain arithmetic. -/
set_option linter.unusedVariables false
namespace Go.Proofs.Ytblbgafadadbmaa
/-- A bucket that may be: e in a unit, m at most, h in it, at the time n. -/
structure RB (e m h n : Int) : Prop where
  e0 : 0 ≤ e
  e1 : e ≤ 1099511627776
  m0 : 1 ≤ m
  m1 : m ≤ 1099511627776
  h0 : 0 ≤ h
  h1 : h ≤ m
  n0 : 0 ≤ n
  n1 : n ≤ 1099511627776
/-- What is in it when d units have gone by. -/
def rGo (e m h d : Int) : Int := if m - h < d * e then m else h + d * e
theorem mul_bd {a b A B : Int} (a0 : 0 ≤ a) (a1 : a ≤ A) (b0 : 0 ≤ b) (b1 : b ≤ B) : 0 ≤ a * b ∧ a * b ≤ A * B := by
  refine ⟨Int.mul_nonneg a0 b0, ?_⟩
  have h1 : a * b ≤ A * b := Int.mul_le_mul_of_nonneg_right a1 b0
  have h2 : A * b ≤ A * B := Int.mul_le_mul_of_nonneg_left b1 (by omega)
  omega
theorem rGo_bd {e m h n d : Int} (r : RB e m h n) (d0 : 0 ≤ d) : h ≤ rGo e m h d ∧ rGo e m h d ≤ m ∧ rGo e m h d ≤ h + d * e := by
  obtain ⟨e0, e1, m0, m1, h0, h1, n0, n1⟩ := r
  have := Int.mul_nonneg d0 e0
  unfold rGo
  split <;> omega
theorem rGo_ok {e m h n t : Int} (r : RB e m h n) (ht : n ≤ t) (ht1 : t ≤ 1099511627776) : RB e m (rGo e m h (t - n)) t := by
  have := rGo_bd r (d := t - n) (by omega)
  obtain ⟨e0, e1, m0, m1, h0, h1, n0, n1⟩ := r
  exact ⟨e0, e1, m0, m1, by omega, by omega, by omega, ht1⟩
theorem rTake_ok {e m h n k : Int} (r : RB e m h n) (k0 : 0 ≤ k) (k1 : k ≤ h) : RB e m (h - k) n := by
  obtain ⟨e0, e1, m0, m1, h0, h1, n0, n1⟩ := r
  exact ⟨e0, e1, m0, m1, by omega, by omega, n0, n1⟩
theorem rGo_zero {e m h n : Int} (r : RB e m h n) : rGo e m h 0 = h := by
  obtain ⟨e0, e1, m0, m1, h0, h1, n0, n1⟩ := r
  unfold rGo
  rw [Int.zero_mul, if_neg (by omega)]; omega
theorem rGo_none {m h n d : Int} (r : RB 0 m h n) : rGo 0 m h d = h := by
  obtain ⟨e0, e1, m0, m1, h0, h1, n0, n1⟩ := r
  unfold rGo
  rw [Int.mul_zero, if_neg (by omega)]; omega
/-- The document's test, by a quotient. -/
theorem room_iff {e r d : Int} (he : 0 < e) : r / e < d ↔ r < d * e := Int.ediv_lt_iff_lt_mul he
def rWait (e m h n k : Int) : Int :=
  if k < 0 ∨ m < k then -1 else if k ≤ h then n else if e = 0 then -1 else if 1099511627776 < n + (k - h - 1) / e + 1 then -1 else n + (k - h - 1) / e + 1
theorem div_bd {a e : Int} (a0 : 0 ≤ a) (he : 1 ≤ e) : 0 ≤ a / e ∧ a / e ≤ a := ⟨Int.ediv_nonneg a0 (by omega), Int.ediv_le_self e a0⟩
theorem div_mul {a e : Int} (he : 1 ≤ e) : a / e * e ≤ a ∧ a < (a / e + 1) * e := by
  have h1 := Int.ediv_mul_le a (b := e) (by omega)
  have h2 := Int.lt_ediv_add_one_mul_self a (b := e) (by omega)
  exact ⟨h1, h2⟩
/-- Never: it has not so many now, and not at the last time. -/
theorem rWait_never {e m h n k : Int} (r : RB e m h n) (k0 : 0 ≤ k) (k1 : k ≤ m) (hw : rWait e m h n k < 0) : h < k ∧ rGo e m h (1099511627776 - n) < k := by
  obtain ⟨e0, e1, m0, m1, h0, h1, n0, n1⟩ := r
  unfold rWait at hw
  rw [if_neg (by omega)] at hw
  split at hw
  · omega
  · rename_i hk
    split at hw
    · rename_i he
      subst he
      exact ⟨by omega, by rw [rGo_none ⟨e0, e1, m0, m1, h0, h1, n0, n1⟩]; omega⟩
    · rename_i he
      have hd := div_bd (a := k - h - 1) (e := e) (by omega) (by omega)
      split at hw
      · rename_i hb
        have hm := div_mul (a := k - h - 1) (e := e) (by omega)
        have h2 : (1099511627776 - n) * e ≤ (k - h - 1) / e * e := Int.mul_le_mul_of_nonneg_right (by omega) e0
        refine ⟨by omega, ?_⟩
        unfold rGo
        rw [if_neg (by omega)]
        omega
      · omega
/-- At once. -/
theorem rWait_now {e m h n k : Int} (r : RB e m h n) (k0 : 0 ≤ k) (k1 : k ≤ m) (hk : k ≤ h) : rWait e m h n k = n := by
  unfold rWait
  rw [if_neg (by omega), if_pos hk]
/-- Later: q units and one more. -/
theorem rWait_later {e m h n k : Int} (r : RB e m h n) (k0 : 0 ≤ k) (k1 : k ≤ m) (hw : 0 ≤ rWait e m h n k) (hk : h < k) :
    n < rWait e m h n k ∧ rWait e m h n k ≤ 1099511627776 ∧ rGo e m h (rWait e m h n k - 1 - n) < k ∧ k ≤ rGo e m (rGo e m h (rWait e m h n k - 1 - n)) (rWait e m h n k - (rWait e m h n k - 1)) := by
  obtain ⟨e0, e1, m0, m1, h0, h1, n0, n1⟩ := r
  have hx : rWait e m h n k = n + (k - h - 1) / e + 1 ∧ e ≠ 0 ∧ n + (k - h - 1) / e + 1 ≤ 1099511627776 := by
    unfold rWait at hw ⊢
    rw [if_neg (by omega), if_neg (by omega)] at hw ⊢
    split at hw
    · omega
    · rename_i he
      rw [if_neg he]
      split at hw
      · omega
      · rename_i hb
        rw [if_neg hb]
        exact ⟨rfl, he, by omega⟩
  obtain ⟨hx, he, hb⟩ := hx
  have hd := div_bd (a := k - h - 1) (e := e) (by omega) (by omega)
  have hm := div_mul (a := k - h - 1) (e := e) (by omega)
  rw [hx]
  have e1' : n + (k - h - 1) / e + 1 - 1 - n = (k - h - 1) / e := by omega
  have e2' : n + (k - h - 1) / e + 1 - (n + (k - h - 1) / e + 1 - 1) = 1 := by omega
  rw [e1', e2']
  have hq := Int.mul_nonneg hd.1 e0
  have hs : ((k - h - 1) / e + 1) * e = (k - h - 1) / e * e + e := by rw [Int.add_mul, Int.one_mul]
  have g : rGo e m h ((k - h - 1) / e) = h + (k - h - 1) / e * e := by
    unfold rGo
    rw [if_neg (by omega)]
  refine ⟨by omega, hb, by rw [g]; omega, ?_⟩
  rw [g]
  unfold rGo
  rw [Int.one_mul]
  split <;> omega
end Go.Proofs.Ytblbgafadadbmaa
end
section
/- Division of 128 bits by 64, digit by digit: the plain arithmetic. -/
set_option linter.unusedVariables false
namespace Go.Proofs.Ytblbgafadadbmaa
/-- A divisor with its highest bit set, in two halves. -/
structure DV (Y a b : Int) : Prop where
  e : Y = a * 4294967296 + b
  a0 : 2147483648 ≤ a
  a1 : a < 4294967296
  b0 : 0 ≤ b
  b1 : b < 4294967296
/-- The guess q at the digit of u * 2^32 + d by Y, with what is left by the divisor's upper half. -/
structure Guess (Y a b u d q r : Int) : Prop where
  e : u = q * a + r
  q0 : 0 ≤ q
  q1 : q ≤ 4294967297
  r0 : 0 ≤ r
  r1 : r < 4294967296
  up : u * 4294967296 + d < (q + 1) * Y
section
variable {Y a b u d q r : Int}
theorem mul_split (v : DV Y a b) (q : Int) : q * Y = q * a * 4294967296 + q * b := by
  rw [v.e, Int.mul_add, Int.mul_assoc]
theorem guess_first (v : DV Y a b) (u0 : 0 ≤ u) (uY : u < Y) (d0 : 0 ≤ d) (d1 : d < 4294967296) : Guess Y a b u d (u / a) (u % a) := by
  obtain ⟨e, a0, a1, b0, b1⟩ := v
  have h1 := Int.emod_nonneg u (show a ≠ 0 by omega)
  have h2 := Int.emod_lt_of_pos u (show 0 < a by omega)
  have h3 : u = u / a * a + u % a := by rw [Int.mul_comm]; exact (Int.mul_ediv_add_emod u a).symm
  have h4 := Int.ediv_nonneg u0 (show 0 ≤ a by omega)
  have h5 : u / a ≤ 4294967297 := by
    refine Int.le_of_lt_add_one ?_
    rw [Int.ediv_lt_iff_lt_mul (by omega)]
    omega
  refine ⟨h3, h4, h5, h1, by omega, ?_⟩
  have h6 : (u / a + 1) * Y = (u / a + 1) * a * 4294967296 + (u / a + 1) * b := mul_split ⟨e, a0, a1, b0, b1⟩ _
  have h7 : (u / a + 1) * a = u / a * a + a := by rw [Int.add_mul, Int.one_mul]
  have h8 := Int.mul_nonneg (show 0 ≤ u / a + 1 by omega) b0
  omega
/-- The test: the guess is too great. -/
theorem guess_test (v : DV Y a b) (g : Guess Y a b u d q r) : 4294967296 * r + d < q * b ↔ u * 4294967296 + d < q * Y := by
  have h := mul_split v q
  have := g.e
  omega
theorem guess_pos (v : DV Y a b) (g : Guess Y a b u d q r) (u0 : 0 ≤ u) (d0 : 0 ≤ d) (h : 4294967296 ≤ q ∨ 4294967296 * r + d < q * b) : 1 ≤ q := by
  rcases h with h | h
  · omega
  · have h2 := (guess_test v g).1 h
    have := g.q0
    rcases Int.lt_or_le q 1 with hq | hq
    · have : q = 0 := by omega
      subst this
      rw [Int.zero_mul] at h2
      omega
    · exact hq
theorem guess_less (v : DV Y a b) (g : Guess Y a b u d q r) (uY : u < Y) (d1 : d < 4294967296) (h : 4294967296 ≤ q ∨ 4294967296 * r + d < q * b) : u * 4294967296 + d < q * Y := by
  rcases h with h | h
  · have h1 : 4294967296 * Y ≤ q * Y := Int.mul_le_mul_of_nonneg_right h (by have := v.e; have := v.a0; have := v.b0; omega)
    omega
  · exact (guess_test v g).1 h
theorem guess_next (v : DV Y a b) (g : Guess Y a b u d q r) (u0 : 0 ≤ u) (uY : u < Y) (d0 : 0 ≤ d) (d1 : d < 4294967296) (h : 4294967296 ≤ q ∨ 4294967296 * r + d < q * b) (hr : r + a < 4294967296) :
    Guess Y a b u d (q - 1) (r + a) := by
  have h1 := guess_pos v g u0 d0 h
  have h2 := guess_less v g uY d1 h
  obtain ⟨e, q0, q1, r0, r1, up⟩ := g
  have h3 : (q - 1) * a = q * a - a := by rw [Int.sub_mul, Int.one_mul]
  have ha := v.a0
  refine ⟨by omega, by omega, by omega, by omega, hr, ?_⟩
  rw [show q - 1 + 1 = q by omega]
  exact h2
/-- Found: the guess is the digit. -/
theorem guess_found (v : DV Y a b) (g : Guess Y a b u d q r) (h1 : q < 4294967296) (h2 : ¬ 4294967296 * r + d < q * b) : q * Y ≤ u * 4294967296 + d ∧ u * 4294967296 + d < (q + 1) * Y := by
  refine ⟨?_, g.up⟩
  have h := guess_test v g
  omega
/-- Found behind a break. -/
theorem guess_broken (v : DV Y a b) (g : Guess Y a b u d q r) (u0 : 0 ≤ u) (uY : u < Y) (d0 : 0 ≤ d) (d1 : d < 4294967296) (h : 4294967296 ≤ q ∨ 4294967296 * r + d < q * b) (hr : 4294967296 ≤ r + a) :
    (q - 1) * Y ≤ u * 4294967296 + d ∧ u * 4294967296 + d < (q - 1 + 1) * Y := by
  have h1 := guess_pos v g u0 d0 h
  have h2 := guess_less v g uY d1 h
  obtain ⟨e, q0, q1, r0, r1, up⟩ := g
  have h3 : (q - 1) * a = q * a - a := by rw [Int.sub_mul, Int.one_mul]
  have h4 := mul_split v (q - 1)
  have h5 : (q - 1) * b ≤ 4294967296 * 4294967295 := by
    have := mul_le_mul_bd (q - 1) b 4294967296 4294967295 (by omega) (by omega) v.b0 (by have := v.b1; omega)
    exact this
  refine ⟨by omega, ?_⟩
  rw [show q - 1 + 1 = q by omega]
  exact h2
where
  mul_le_mul_bd (x y X Z : Int) (x0 : 0 ≤ x) (x1 : x ≤ X) (y0 : 0 ≤ y) (y1 : y ≤ Z) : x * y ≤ X * Z := by
    have h1 : x * y ≤ X * y := Int.mul_le_mul_of_nonneg_right x1 y0
    have h2 : X * y ≤ X * Z := Int.mul_le_mul_of_nonneg_left y1 (by omega)
    omega
/-- A digit: it is below 2^32, and what is left is below the divisor. -/
theorem digit_bd (v : DV Y a b) (u0 : 0 ≤ u) (uY : u < Y) (d0 : 0 ≤ d) (d1 : d < 4294967296) (h1 : q * Y ≤ u * 4294967296 + d) (h2 : u * 4294967296 + d < (q + 1) * Y) :
    0 ≤ q ∧ q < 4294967296 ∧ 0 ≤ u * 4294967296 + d - q * Y ∧ u * 4294967296 + d - q * Y < Y := by
  have hY : 0 < Y := by have := v.e; have := v.a0; have := v.b0; omega
  have h3 : (q + 1) * Y = q * Y + Y := by rw [Int.add_mul, Int.one_mul]
  refine ⟨?_, ?_, by omega, by omega⟩
  · rcases Int.lt_or_le q 0 with h | h
    · have : (q + 1) * Y ≤ 0 * Y := Int.mul_le_mul_of_nonneg_right (by omega) (by omega)
      omega
    · exact h
  · rcases Int.lt_or_le q 4294967296 with h | h
    · exact h
    · have : 4294967296 * Y ≤ q * Y := Int.mul_le_mul_of_nonneg_right h (by omega)
      omega
/-- Two digits make the quotient. -/
theorem digits_two {q1 q0 r1 r0 d1 d0 U : Int} (e1 : r1 = U * 4294967296 + d1 - q1 * Y) (e0 : r0 = r1 * 4294967296 + d0 - q0 * Y) : U * 18446744073709551616 + d1 * 4294967296 + d0 = (q1 * 4294967296 + q0) * Y + r0 := by
  have h1 : (q1 * 4294967296 + q0) * Y = q1 * Y * 4294967296 + q0 * Y := by
    rw [Int.add_mul, Int.mul_assoc, Int.mul_comm 4294967296 Y, ← Int.mul_assoc]
  omega
end
end Go.Proofs.Ytblbgafadadbmaa
end
