/- Counts. -/
import Derived.Test.YtdkijmiflommeaaEligI
import Derived.Test.YtdkijmiflommeaaTreeM
import Derived.Deep.RegionWith
set_option linter.unusedVariables false
namespace Go.Proofs.Ytdkijmiflommeaa
open Go.RowKit
set_option maxHeartbeats 8000000
set_option maxRecDepth 100000
/-- How many of the first m hosts lie in the t-th level. -/
def allTo (l : List Nd) (m : Nat) (t : Nat) : Int := (((idx (isK 4) l).take m).countP (fun h => lev l h == (t : Int)) : Nat)
def haveTo (l : List Nd) (S : Nat → Bool) (m : Nat) (t : Nat) : Int := (((idx (isK 4) l).take m).countP (fun h => lev l h == (t : Int) && S h.toNat) : Nat)
theorem take_stepI (xs : List Int) (m : Nat) (hm : m < xs.length) : xs.take (m + 1) = xs.take m ++ [xs.getD m 0] := by
  rw [List.take_succ_eq_append_getElem hm, List.getD_eq_getElem?_getD, List.getElem?_eq_getElem hm]; rfl
theorem allTo_step (l : List Nd) (m : Nat) (hm : m < (idx (isK 4) l).length) (t : Nat) : allTo l (m + 1) t = allTo l m t + if lev l ((idx (isK 4) l).getD m 0) = t then 1 else 0 := by
  unfold allTo
  rw [take_stepI _ m hm, List.countP_append, List.countP_singleton]
  generalize (idx (isK 4) l).getD m 0 = h
  by_cases e : lev l h = t
  · rw [if_pos e, if_pos (by simpa using e)]; omega
  · rw [if_neg e, if_neg (by simpa using e)]; omega
theorem haveTo_step (l : List Nd) (S : Nat → Bool) (m : Nat) (hm : m < (idx (isK 4) l).length) (t : Nat) : haveTo l S (m + 1) t = haveTo l S m t + if lev l ((idx (isK 4) l).getD m 0) = t ∧ S ((idx (isK 4) l).getD m 0).toNat = true then 1 else 0 := by
  unfold haveTo
  rw [take_stepI _ m hm, List.countP_append, List.countP_singleton]
  generalize (idx (isK 4) l).getD m 0 = h
  by_cases e : lev l h = t ∧ S h.toNat = true
  · rw [if_pos e, if_pos (by simp [e.1, e.2])]; omega
  · rw [if_neg e, if_neg (by simpa using e)]; omega
theorem allTo_bd (l : List Nd) (m t : Nat) : 0 ≤ allTo l m t ∧ allTo l m t ≤ m := by
  unfold allTo
  have := List.countP_le_length (p := fun h => lev l h == (t : Int)) (l := (idx (isK 4) l).take m)
  rw [List.length_take] at this
  omega
theorem haveTo_bd (l : List Nd) (S : Nat → Bool) (m t : Nat) : 0 ≤ haveTo l S m t ∧ haveTo l S m t ≤ m := by
  unfold haveTo
  have := List.countP_le_length (p := fun h => lev l h == (t : Int) && S h.toNat) (l := (idx (isK 4) l).take m)
  rw [List.length_take] at this
  omega
section
variable {w w0 : World} {g b n gw gs : Nat} {W : Nat → Int} {S : Nat → Bool} {vH : Value} {H : List Int} {l : List Nd}
theorem set_Counts (hT : TR w b l) (ht : Tall l) (h : SetIs w g b l.length gw gs W S vH H) : Calls Try.prog 47 #[.pointer (some ⟨g, 0, none⟩)] w fun e w' => ∃ gh ga, e = .returned (.tuple #[.slice (some ⟨gh, 0, none⟩) (idx (isK 1) l).length (idx (isK 1) l).length, .slice (some ⟨ga, 0, none⟩) (idx (isK 1) l).length (idx (isK 1) l).length]) ∧
    w'.rowIs gh 3 (idx (isK 1) l).length (fun t => .int .i64 (haveTo l S (idx (isK 4) l).length t)) ∧ w'.rowIs ga 3 (idx (isK 1) l).length (fun t => .int .i64 (allTo l (idx (isK 4) l).length t)) ∧ Below w.heap.size w w' := by
  have hN := set_none h
  have hfew := hT.few
  have hq1 := idx_le (isK 1) l
  obtain ⟨q, hq⟩ : ∃ q, q = (idx (isK 1) l).length := ⟨_, rfl⟩
  have hLv : ∀ w', Below w.heap.size w w' → Calls Try.prog 27 #[.pointer (some ⟨b, 0, none⟩)] w' fun e w'' => ∃ A c, e = .returned (.slice A (q : Nat) c) ∧ Below w.heap.size w w'' ∧ Below w'.heap.size w' w'' := fun w' hx => (tr_Levels (hT.keep hx)).mono (by
    rintro e w'' ⟨A, c, rfl, _, _, hx2⟩
    rw [hq]
    exact ⟨A, c, rfl, below_step hx hx2, hx2⟩)
  rw [← hq] at hq1
  rw [← hq]
  have HQ := Lib.hid hq.symm
  clear hq
  have hmk := run_make_row' (P := Try.prog) 40 3 (.int .i64 0) 8 Try.underlying40 Try.infoI64 rfl .i64 .i64 q (by omega) (by omega)
  obtain ⟨c0, c1, c2, c3, _⟩ := h.blk.cells4
  have U0 : ∀ w', Below w.heap.size w w' → w'.cell? ⟨g, 0, none⟩ = some (.pointer (some ⟨b, 0, none⟩)) := fun w' hx => cell_keep c0 hx
  go_enter Try.func47, Try.ntmps47
  go_wp2_with fail
  refine hN.mono ?_; rintro e w' ⟨rfl, rfl⟩
  go_upto_region 3 with (fail)
  go_cut [4, 5] (fun s4 s5 wx => ∃ gh ga, s4 = .slice (some ⟨gh, 0, none⟩) q q ∧ s5 = .slice (some ⟨ga, 0, none⟩) q q ∧ gh ≠ ga ∧ w.heap.size ≤ gh ∧ w.heap.size ≤ ga ∧ wx.rowIs gh 3 q (fun _ => .int .i64 0) ∧ wx.rowIs ga 3 q (fun _ => .int .i64 0) ∧ Below w.heap.size w wx)
  case first =>
    clear c1 c2 c3 hN
    have hd : Below w.heap.size w w.drew := Below.drew (Below.refl _ _)
    go_region_with (first
      | (go_at_call 27; refine (hLv _ ?hbl).mono ?_; (case hbl => first | exact hd | exact h2 | exact h2.alloc h2.size _ | exact h1 | exact h1.alloc h1.size _); rintro e w2 ⟨A2, c2', rfl, h3, hk⟩; (first | (have h2 := h1; have h1 := h3) | have h1 := h3); have c0' := U0 _ h1; have c0a := fun o => cell_alloc c0' o))
    all_goals
      go_wp2_with fail
      go_meet
      refine ⟨_, _, rfl, rfl, ?_, ?_, ?_, ?_, ?_, ?_⟩
    all_goals first
      | exact row_made' _ _ _ _ rfl
      | (refine row_made' _ _ _ _ ?_; simp; done)
      | exact (row_made' _ _ _ _ rfl).alloc _
      | exact (row_keep (row_made' _ _ _ _ rfl) hk).alloc _
      | exact h1.size
      | exact h2.size
      | exact h1.alloc h1.size _
      | exact (h1.alloc h1.size _).alloc (h1.alloc h1.size _).size _
      | (have := hk.size; simp at this; omega)
      | (have := h1.size; simp; omega)
      | (simp; done)
  case rest =>
    obtain ⟨gh, ga, rfl, rfl, hne, hgh, hga, hRh, hRa, hb⟩ := hcut
    obtain ⟨w1, rfl⟩ : ∃ w1, w1 = wc := ⟨_, rfl⟩
    have hS1 := h.keep hb
    obtain ⟨d0, d1, d2, d3, _⟩ := hS1.blk.cells4
    clear hLv hmk U0 c0 c1 c2 c3 hN
    go_wp2_with fail
    refine (tr_Hosts (hT.keep hb)).mono ?_; rintro e w3 ⟨A3, c3, rfl, hI3, hfr3, hx3⟩
    have hRh3 := row_keep hRh hx3
    have hRa3 := row_keep hRa hx3
    have hb3 := below_step hb hx3
    have hlt1 := hRh.lt
    have hlt2 := hRa.lt
    have hcap := hI3.cap
    have hsm := hI3.small
    have hle := idx_le (isK 4) l
    have hA3 : 0 < (idx (isK 4) l).length → ∀ ad, A3 = some ad → ¬ (ad.block = gh ∨ ad.block = ga) := fun h0 ad e => by
      have h1 := hfr3 ad e
      omega
    clear hRh hRa hx3 hS1 d0 d1 d2 d3 hfr3 hlt1 hlt2
    obtain ⟨nh, hnh⟩ : ∃ nh, nh = (idx (isK 4) l).length := ⟨_, rfl⟩
    rw [← hnh] at hI3 hcap hle hA3
    rw [← hnh]
    have HNH := Lib.hid hnh.symm
    clear hnh
    have hr := tall_rises ht
    have hR0 := hRh3.congr (g := fun t => .int .i64 (haveTo l S 0 t)) (fun t _ => rfl)
    have hR0' := hRa3.congr (g := fun t => .int .i64 (allTo l 0 t)) (fun t _ => rfl)
    clear hRh3 hRa3
    go_wp2_with fail
    go_loopg [7, 8, 31] nh (fun gk s7 s8 s31 wr => ∃ m : Nat, m ≤ nh ∧ gk = nh - m ∧ s31 = .int .i64 m ∧ wr.rowIs gh 3 q (fun t => .int .i64 (haveTo l S m t)) ∧ wr.rowIs ga 3 q (fun t => .int .i64 (allTo l m t)) ∧ Mod (fun k => k = gh ∨ k = ga) w3 wr)
    case atStart => exact ⟨0, Nat.zero_le _, rfl, rfl, hR0, hR0', Mod.refl _ _⟩
    case round =>
      clear hR0 hR0'
      obtain ⟨m, hm, rfl, rfl, hRh, hRa, hM⟩ := hrel
      have hb4 := below_thenMod hb3 (Nat.le_refl _) hM (fun k hk => by rcases hk with e | e <;> rw [e] <;> assumption)
      by_cases hlt : m < nh
      · obtain ⟨ad, rfl, _, x0, _⟩ := (list_mod hI3 hM hA3).get hlt
        have hmi : (m : Int) < (nh : Int) := by omega
        have hmk : m < (idx (isK 4) l).length := by rw [HNH.out]; exact hlt
        have HAL := Lib.hid (allTo_step l m hmk)
        have HHV := Lib.hid (haveTo_step l S m hmk)
        have hin : (idx (isK 4) l).getD m 0 ∈ idx (isK 4) l := by rw [List.getD_eq_getElem?_getD, List.getElem?_eq_getElem hmk]; exact List.getElem_mem hmk
        obtain ⟨hh, hhe, hhl, hh4⟩ := mem_idx.1 hin
        rw [hhe] at x0 HAL HHV
        rw [Int.toNat_natCast] at HHV
        clear hin hmk hhe hh4
        obtain ⟨i, _, _, _, hlev, hlq⟩ := lev_host ht hhl
        obtain ⟨t, hte⟩ : ∃ t : Nat, lev l hh = t := ⟨_, hlev⟩
        have htq : t < q := by rw [hlev] at hte; rw [← HQ.out]; omega
        rw [hte] at HAL HHV
        clear hlev hlq
        have hLv := tr_Level' (hT.keep hb4) hr (hh : Int)
        have hlv : idxI (up l 1 hh) (idx (isK 1) l) = t := hte
        rw [hlv] at hLv
        clear hlv hte
        have hS4 := h.keep hb4
        obtain ⟨d0, d1, d2, d3, _⟩ := hS4.blk.cells4
        have rs := hS4.rS.cell hhl
        have ra := hRa.cell htq
        have fa := hRa.frozen t
        have hbd1 := allTo_bd l m t
        have hbd2 := haveTo_bd l S m t
        have kq1 : IntKind.i64.wrap (allTo l m t + 1) = allTo l m t + 1 := IntWalk.i64_in _ (by omega)
        have kq2 : IntKind.i64.wrap (haveTo l S m t + 1) = haveTo l S m t + 1 := IntWalk.i64_in _ (by omega)
        have htqi : (t : Int) < (q : Int) := by omega
        have hhli : (hh : Int) < (l.length : Int) := by omega
        have hRa2 := (hRa.set t (.int .i64 (allTo l m t + 1))).congr (g := fun t => .int .i64 (allTo l (m + 1) t)) (fun j _ => by
          rw [HAL.out]
          by_cases e : j = t
          · rw [if_pos e, if_pos (by omega), e]
          · rw [if_neg e, if_neg (by omega)]; simp)
        have hRh2 := hRh.of_block (Below.heap_setCell wr ⟨ga, t, none⟩ (.int .i64 (allTo l m t + 1)) gh hne)
        have hM2 := hM.own' (.inr rfl) t (.int .i64 (allTo l m t + 1))
        have hS5 := hS4.rS.of_block (Below.heap_setCell wr ⟨ga, t, none⟩ (.int .i64 (allTo l m t + 1)) gs (row_type2 hS4.rS hRa (by decide)))
        have d2' := (World.cell?_of_block (w := wr) (Below.heap_setCell wr ⟨ga, t, none⟩ (.int .i64 (allTo l m t + 1)) g (row_type hRa hS4.blk (by decide)).symm)).trans d2
        have rs' := hS5.cell hhl
        have rh' := hRh2.cell htq
        have fh' := hRh2.frozen t
        have hRh3 := hRh2.set t (.int .i64 (haveTo l S m t + 1))
        have hRa3 := hRa2.of_block (Below.heap_setCell _ ⟨gh, t, none⟩ (.int .i64 (haveTo l S m t + 1)) ga (Ne.symm hne))
        have hM3 := hM2.own' (.inl rfl) t (.int .i64 (haveTo l S m t + 1))
        obtain ⟨s, hs⟩ : ∃ s, s = S hh := ⟨_, rfl⟩
        rw [← hs] at rs rs' HHV
        clear hs
        clear hS4 hS5 hRa hRh hM hb4 hbd1 hbd2
        have hRh4 := Lib.hid (fun (e : s = true) => hRh3.congr (g := fun t => .int .i64 (haveTo l S (m + 1) t)) (fun j _ => by
          rw [HHV.out, e]
          by_cases e2 : j = t
          · rw [if_pos e2, if_pos ⟨by omega, rfl⟩, e2]
          · rw [if_neg e2, if_neg (by rintro ⟨h1, _⟩; omega)]; simp))
        have hRh5 := Lib.hid (fun (e : s = false) => hRh2.congr (g := fun t => .int .i64 (haveTo l S (m + 1) t)) (fun j _ => by
          rw [HHV.out, e]
          rw [if_neg (by rintro ⟨_, h1⟩; cases h1)]; simp))
        generalize allTo l m t = al at *
        generalize haveTo l S m t = hv at *
        clear hRh3 HAL HHV
        cases s with
        | true =>
          have hR4 := hRh4.out rfl
          clear hRh4 hRh5
          go_wp2_with fail
          refine hLv.mono ?_; rintro e w' ⟨rfl, rfl⟩
          go_wp2
          go_roundg (nh - (m + 1))
          case measure => omega
          case rel => exact ⟨m + 1, by omega, rfl, by go_num, hR4, hRa3, hM3⟩
        | false =>
          have hR4 := hRh5.out rfl
          clear hRh4 hRh5
          go_wp2_with fail
          refine hLv.mono ?_; rintro e w' ⟨rfl, rfl⟩
          go_wp2
          go_roundg (nh - (m + 1))
          case measure => omega
          case rel => exact ⟨m + 1, by omega, rfl, by go_num, hR4, hRa2, hM2⟩
      · obtain rfl : m = nh := by omega
        go_wp2
        go_ret2
        exact ⟨gh, ga, rfl, by rw [HNH.out]; exact hRh, by rw [HNH.out]; exact hRa, hb4⟩
end
end Go.Proofs.Ytdkijmiflommeaa
