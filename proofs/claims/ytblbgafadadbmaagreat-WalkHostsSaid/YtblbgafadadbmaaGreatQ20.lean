/- Lemmas for the claim's proof: WalkM WalkPlain6 WalkPlain7 WalkO. -/
import Derived.RegionTactic
import Derived.Deep.DeepCutAuto
import Derived.Deep.CutBlock
import Derived.Test.YtblbgafadadbmaaGreatQ19
section
/- The law's loads. -/
set_option linter.unusedVariables false
namespace Go.Proofs.YtblbgafadadbmaaGreat
open Go.RowKit
set_option maxHeartbeats 4000000
set_option maxRecDepth 100000
theorem law26_loads {A : Option Addr} {n c gr : Nat} {l : List Nd} {hosts : List Int} {w : World} (h : IsNodes w A n c l) (ht : Tall l) (hR : w.rowIs gr 24 n (fun j => .int .u64 (wt l hosts j))) (hn1 : n ≤ 1024) (frm f : Int) :
    Calls Tryz.prog 26 #[.slice A n c, .slice (some ⟨gr, 0, none⟩) n n, .int .i64 frm, .int .i64 f] w fun e w' =>
      ∃ A' c', e = .returned (.slice A' (loadsI l (hs l hosts) frm f).length c') ∧ IsList w' .i64 A' (loadsI l (hs l hosts) frm f).length c' (loadsI l (hs l hosts) frm f) ∧ Below w.heap.size w w' := by
  have hcap := h.cap
  have hsm := h.small
  have hlen := h.len
  subst hlen
  have hLv := law26_levels h hn1
  have hq1 := idx_le (isK 1) l
  have HQ1 : lvN l = (idx (isK 1) l).length := rfl
  have hlvn : lvN l ≤ 1024 := by omega
  have hmk := run_make_row' (P := Tryz.prog) 23 3 (.int .i64 0) 8 Tryz.underlying23 Tryz.infoI64 rfl .i64 .i64 (lvN l) (by omega) (by omega)
  have hat := fun (i j : Nat) (hi : i < l.length) (hj : j < lvN l) => lev_at ht hi hj
  obtain ⟨q, hq⟩ : ∃ q, q = lvN l := ⟨_, rfl⟩
  rw [← hq] at hLv hlvn hmk
  have HQ := Lib.hid hq.symm
  clear hq hq1 HQ1
  go_enter Tryz.func26, Tryz.ntmps26
  go_wp2_with fail
  refine hLv.mono ?_; rintro e w1 ⟨AL, cL, rfl, hI, hfI, hx1⟩
  have hcapL := hI.cap
  have hsmL := hI.small
  clear hLv
  go_upto_region 2 with (fail)
  go_cut [10, 11] (fun s10 s11 wx => ∃ gh ga, s10 = .slice (some ⟨gh, 0, none⟩) q q ∧ s11 = .slice (some ⟨ga, 0, none⟩) q q ∧ gh ≠ ga ∧ w1.heap.size ≤ gh ∧ w1.heap.size ≤ ga ∧ wx.rowIs gh 3 q (fun _ => .int .i64 0) ∧ wx.rowIs ga 3 q (fun _ => .int .i64 0) ∧ Below w1.heap.size w1 wx)
  case first =>
    have hd : Below w1.heap.size w1 w1.drew := Below.drew (Below.refl _ _)
    go_region
    all_goals
      go_wp2_with fail
      go_meet
      refine ⟨_, _, rfl, rfl, ?_, ?_, ?_, ?_, ?_, ?_⟩
    all_goals first
      | exact row_made' _ _ _ _ rfl
      | (refine row_made' _ _ _ _ ?_; simp; done)
      | exact (row_made' _ _ _ _ rfl).alloc _
      | exact (hd.alloc hd.size _).alloc (hd.alloc hd.size _).size _
      | exact ((Below.refl _ _).alloc (Nat.le_refl _) _).alloc (by simp) _
      | (simp; done)
      | (simp; omega)
      | omega
  case rest =>
    obtain ⟨gh, ga, rfl, rfl, hne, hgh, hga, hRh, hRa, hb⟩ := hcut
    obtain ⟨w2, rfl⟩ : ∃ w2, w2 = wc := ⟨_, rfl⟩
    have hI2 := hI.keep hb
    have hW2 := below_step hx1 hb
    have hLA : 0 < q → ∀ ad, AL = some ad → ¬ (ad.block = gh ∨ ad.block = ga) := fun h0 ad e => by
      obtain ⟨ad', e', h2, _⟩ := hI.reads.2 h0
      rw [e] at e'
      injection e' with e'
      subst e'
      omega
    have hs1 := hx1.size
    have hgh2 : w.heap.size ≤ gh := by omega
    have hga2 : w.heap.size ≤ ga := by omega
    have HI := Lib.hid hfI
    clear hI hb hx1 hmk hfI
    go_wp2_with fail
    go_loopg [12, 13, 14] l.length (fun gk s12 s13 s14 wr => ∃ k : Nat, k ≤ l.length ∧ gk = l.length - k ∧ s12 = .int .i64 k ∧ wr.rowIs gh 3 q (fun t => .int .i64 (lawHave l (wt l hosts) k t)) ∧ wr.rowIs ga 3 q (fun t => .int .i64 (lawAll l k t)) ∧ IsList wr .i64 AL q cL (idx (isK 1) l) ∧ Below w.heap.size w wr)
    case atStart => exact ⟨0, Nat.zero_le _, rfl, rfl, hRh.congr (fun t _ => by unfold lawHave; rfl), hRa.congr (fun t _ => by unfold lawAll; rfl), hI2, hW2⟩
    case round =>
      clear hRh hRa hI2 hW2
      obtain ⟨k, hk, rfl, rfl, hRh, hRa, hI2, hW2⟩ := hrel
      by_cases hlt : k < l.length
      · have hki : (k : Int) < (l.length : Int) := by omega
        have hNW := h.keep hW2
        obtain ⟨ad, hAd, hbk, d0, d1, d2, d3, d4, d5, d6⟩ := hNW.at_ hlt
        have HSA := Lib.hid (lawAll_step l k)
        have HSH := Lib.hid (lawHave_step l (wt l hosts) k)
        by_cases h4 : (l.getD k nd0).kind = 4
        · obtain ⟨a, b, e1, ha, e2, hb2, e3⟩ := up_host ht hlt h4
          obtain ⟨ad1, hAd1, _, _, _, x2, _⟩ := hNW.at_ ha
          obtain ⟨ad2, hAd2, _, _, _, y2, _⟩ := hNW.at_ hb2
          rw [hAd] at hAd1 hAd2
          injection hAd1 with hAd1
          injection hAd2 with hAd2
          subst hAd1 hAd2
          subst hAd
          rw [e1] at d2
          rw [e2] at x2
          rw [← e3] at y2
          have hai : (a : Int) < (l.length : Int) := by omega
          have hbi : (b : Int) < (l.length : Int) := by omega
          have hRr := (row_keep hR hW2).cell hlt
          have HAT := Lib.hid (fun j hj => hat k j hlt hj)
          obtain ⟨U, hU⟩ : ∃ U, U = up l 1 (k : Int) := ⟨_, rfl⟩
          obtain ⟨V, hV⟩ : ∃ V, V = lev l (k : Int) := ⟨_, rfl⟩
          obtain ⟨y, hy⟩ : ∃ y, y = wt l hosts k := ⟨_, rfl⟩
          rw [← hU] at y2 HAT
          rw [← hV] at HSA HSH HAT
          rw [← hy] at hRr HSH
          rw [h4] at d1
          have H4 := Lib.hid h4
          have g4 : ((4 : Int) != 4) = false := rfl
          have HK := Lib.hid hat
          have HY := Lib.hid hy
          clear e1 e2 e3 h4 hU hV hy d0 d3 d4 d5 d6 hat hNW
          go_wp2_with fail
          obtain ⟨wo, rfl⟩ : ∃ wo, wo = wr := ⟨_, rfl⟩
          go_loopg [14] q (fun gj s14 wr => ∃ j : Nat, j ≤ q ∧ gj = q - j ∧ s14 = .int .i64 j ∧ wr.rowIs gh 3 q (fun t => .int .i64 (lawHave l (wt l hosts) k t + if (t < j ∧ V = (t : Int)) ∧ 0 < y then 1 else 0)) ∧
            wr.rowIs ga 3 q (fun t => .int .i64 (lawAll l k t + if t < j ∧ V = (t : Int) then 1 else 0)) ∧ IsList wr .i64 AL q cL (idx (isK 1) l) ∧ Below w.heap.size w wr)
          case atStart => exact ⟨0, Nat.zero_le _, rfl, rfl, hRh.congr (fun t _ => by rw [if_neg (fun h => absurd h.1.1 (by omega))]; simp), hRa.congr (fun t _ => by rw [if_neg (fun h => absurd h.1 (by omega))]; simp), hI2, hW2⟩
          case round =>
            clear hRh hRa hI2 hW2 x2 y2 d1 d2 hRr
            obtain ⟨j, hj, rfl, rfl, hRh, hRa, hI2, hW2⟩ := hrel
            by_cases hjq : j < q
            · have hji : (j : Int) < (q : Int) := by omega
              obtain ⟨al, rfl, _, z0, _⟩ := hI2.get hjq
              have HZ := Lib.hid (HAT.out j (by rw [HQ.out]; exact hjq))
              obtain ⟨z, hz⟩ : ∃ z, z = (idx (isK 1) l).getD j 0 := ⟨_, rfl⟩
              rw [← hz] at z0 HZ
              by_cases hv : V = (j : Int)
              · have g1 : (z != U) = false := by rw [bne_eq_false_iff_eq]; exact HZ.out.2 hv
                have hRr := (row_keep hR hW2).cell hlt
                rw [← HY.out] at hRr
                have bA := lawAll_bd l k j
                have bH := lawHave_bd l (wt l hosts) k j
                obtain ⟨FA, hFA⟩ : ∃ FA, FA = lawAll l k j := ⟨_, rfl⟩
                obtain ⟨FH, hFH⟩ : ∃ FH, FH = lawHave l (wt l hosts) k j := ⟨_, rfl⟩
                rw [← hFA] at bA
                rw [← hFH] at bH
                have ca : wr.cell? ⟨ga, j, none⟩ = some (.int .i64 FA) := by rw [hRa.cell hjq, if_neg (fun h => absurd h.1 (by omega)), hFA]; simp
                have ch : wr.cell? ⟨gh, j, none⟩ = some (.int .i64 FH) := by rw [hRh.cell hjq, if_neg (fun h => absurd h.1.1 (by omega)), hFH]; simp
                have fa := hRa.frozen j
                have fh := hRh.frozen j
                have kA : IntKind.i64.wrap (FA + 1) = FA + 1 := IntWalk.i64_in _ (by omega)
                have kH : IntKind.i64.wrap (FH + 1) = FH + 1 := IntWalk.i64_in _ (by omega)
                have hgr := hR.lt
                have hg1 : ¬ gr = ga := by omega
                have hg2 : ¬ gr = gh := by omega
                have hne2 : ¬ gh = ga := hne
                have hne3 : ¬ ga = gh := fun e => hne e.symm
                have RA := (hRa.set j (.int .i64 (FA + 1))).congr (fun t ht => show (if t = j then Value.int .i64 (FA + 1) else .int .i64 (lawAll l k t + if t < j ∧ V = (t : Int) then 1 else 0)) = .int .i64 (lawAll l k t + if t < j + 1 ∧ V = (t : Int) then 1 else 0) by
                  by_cases e : t = j
                  · subst e; rw [if_pos rfl, if_pos ⟨by omega, hv⟩, hFA]
                  · rw [if_neg e]
                    by_cases e2 : t < j ∧ V = (t : Int)
                    · rw [if_pos e2, if_pos ⟨by omega, e2.2⟩]
                    · rw [if_neg e2, if_neg (fun h => e2 ⟨by omega, h.2⟩)])
                have hL1 := list_mod hI2 ((Mod.refl (fun b => b = gh ∨ b = ga) wr).setCell (p := ⟨ga, j, none⟩) (.inl (.inr rfl)) (.int .i64 (FA + 1))) hLA
                have hW3 := below_own hW2 hga2 j (.int .i64 (FA + 1))
                have RH := hRh.setOther (a := ⟨ga, j, none⟩) hne (.int .i64 (FA + 1))
                by_cases hy0 : 0 < y
                · have g2 : decide (0 < y) = true := decide_eq_true hy0
                  have RH2 := (RH.set j (.int .i64 (FH + 1))).congr (fun t ht => show (if t = j then Value.int .i64 (FH + 1) else .int .i64 (lawHave l (wt l hosts) k t + if (t < j ∧ V = (t : Int)) ∧ 0 < y then 1 else 0)) = .int .i64 (lawHave l (wt l hosts) k t + if (t < j + 1 ∧ V = (t : Int)) ∧ 0 < y then 1 else 0) by
                    by_cases e : t = j
                    · subst e; rw [if_pos rfl, if_pos ⟨⟨by omega, hv⟩, hy0⟩, hFH]
                    · rw [if_neg e]
                      by_cases e2 : (t < j ∧ V = (t : Int)) ∧ 0 < y
                      · rw [if_pos e2, if_pos ⟨⟨by omega, e2.1.2⟩, e2.2⟩]
                      · rw [if_neg e2, if_neg (fun h => e2 ⟨⟨by omega, h.1.2⟩, h.2⟩)])
                  have RA2 := RA.setOther (a := ⟨gh, j, none⟩) hne.symm (.int .i64 (FH + 1))
                  have hL2 := list_mod hL1 ((Mod.refl (fun b => b = gh ∨ b = ga) (wr.setCell ⟨ga, j, none⟩ (.int .i64 (FA + 1)))).setCell (p := ⟨gh, j, none⟩) (.inl (.inl rfl)) (.int .i64 (FH + 1))) hLA
                  have hW4 := below_own hW3 hgh2 j (.int .i64 (FH + 1))
                  clear hRh hRa hI2 hW2 RH RA hL1 hW3 hFA hFH hv HZ hz
                  go_wp2
                  go_roundg (q - (j + 1))
                  case measure => omega
                  case rel => exact ⟨j + 1, by omega, rfl, by go_num, RH2, RA2, hL2, hW4⟩
                · have g2 : decide (0 < y) = false := decide_eq_false hy0
                  have RH2 := RH.congr (fun t ht => show Value.int .i64 (lawHave l (wt l hosts) k t + if (t < j ∧ V = (t : Int)) ∧ 0 < y then 1 else 0) = .int .i64 (lawHave l (wt l hosts) k t + if (t < j + 1 ∧ V = (t : Int)) ∧ 0 < y then 1 else 0) by
                    rw [if_neg (fun h => hy0 h.2), if_neg (fun h => hy0 h.2)])
                  clear hRh hRa hI2 hW2 RH hFA hFH hv HZ hz
                  go_wp2
                  go_roundg (q - (j + 1))
                  case measure => omega
                  case rel => exact ⟨j + 1, by omega, rfl, by go_num, RH2, RA, hL1, hW3⟩
              · have g1 : (z != U) = true := by rw [bne_iff_ne]; exact fun e => hv (HZ.out.1 e)
                have RA := hRa.congr (fun t ht => show Value.int .i64 (lawAll l k t + if t < j ∧ V = (t : Int) then 1 else 0) = .int .i64 (lawAll l k t + if t < j + 1 ∧ V = (t : Int) then 1 else 0) by
                  by_cases e2 : t < j ∧ V = (t : Int)
                  · rw [if_pos e2, if_pos ⟨by omega, e2.2⟩]
                  · rw [if_neg e2, if_neg (fun h => e2 ⟨by have : t ≠ j := fun e => hv (by rw [← e]; exact h.2)
                                                           omega, h.2⟩)])
                have RH := hRh.congr (fun t ht => show Value.int .i64 (lawHave l (wt l hosts) k t + if (t < j ∧ V = (t : Int)) ∧ 0 < y then 1 else 0) = .int .i64 (lawHave l (wt l hosts) k t + if (t < j + 1 ∧ V = (t : Int)) ∧ 0 < y then 1 else 0) by
                  by_cases e2 : (t < j ∧ V = (t : Int)) ∧ 0 < y
                  · rw [if_pos e2, if_pos ⟨⟨by omega, e2.1.2⟩, e2.2⟩]
                  · rw [if_neg e2, if_neg (fun h => e2 ⟨⟨by have : t ≠ j := fun e => hv (by rw [← e]; exact h.1.2)
                                                            omega, h.1.2⟩, h.2⟩)])
                clear hRh hRa hv HZ hz
                go_wp2
                go_roundg (q - (j + 1))
                case measure => omega
                case rel => exact ⟨j + 1, by omega, rfl, by go_num, RH, RA, hI2, hW2⟩
            · obtain rfl : j = q := by omega
              have RA := hRa.congr (fun t ht => show Value.int .i64 (lawAll l k t + if t < j ∧ V = (t : Int) then 1 else 0) = .int .i64 (lawAll l (k + 1) t) by
                rw [HSA.out]
                by_cases e2 : V = (t : Int)
                · rw [if_pos ⟨ht, e2⟩, if_pos ⟨H4.out, e2⟩]
                · rw [if_neg (fun h => e2 h.2), if_neg (fun h => e2 h.2)])
              have RH := hRh.congr (fun t ht => show Value.int .i64 (lawHave l (wt l hosts) k t + if (t < j ∧ V = (t : Int)) ∧ 0 < y then 1 else 0) = .int .i64 (lawHave l (wt l hosts) (k + 1) t) by
                rw [HSH.out]
                by_cases e2 : V = (t : Int) ∧ 0 < y
                · rw [if_pos ⟨⟨ht, e2.1⟩, e2.2⟩, if_pos ⟨⟨H4.out, e2.1⟩, e2.2⟩]
                · rw [if_neg (fun h => e2 ⟨h.1.2, h.2⟩), if_neg (fun h => e2 ⟨h.1.2, h.2⟩)])
              clear hRh hRa
              go_wp2
              go_roundg (l.length - (k + 1))
              case measure => omega
              case rel => exact ⟨k + 1, by omega, rfl, by go_num, RH, RA, hI2, hW2⟩
        · obtain ⟨kd, hkd⟩ : ∃ kd, kd = (l.getD k nd0).kind := ⟨_, rfl⟩
          rw [← hkd] at d1 h4 HSA HSH
          have g4 : (kd != 4) = true := by rw [bne_iff_ne]; exact h4
          have HSA2 := Lib.hid (show ∀ t, lawAll l (k + 1) t = lawAll l k t + if kd = 4 ∧ lev l k = (t : Int) then 1 else 0 from fun t => by rw [hkd]; exact lawAll_step l k t)
          have HSH2 := Lib.hid (show ∀ t, lawHave l (wt l hosts) (k + 1) t = lawHave l (wt l hosts) k t + if (kd = 4 ∧ lev l k = (t : Int)) ∧ 0 < wt l hosts k then 1 else 0 from fun t => by rw [hkd]; exact lawHave_step l _ k t)
          subst hAd
          clear hkd
          clear d0 d2 d3 d4 d5 d6 hNW
          go_wp2
          go_roundg (l.length - (k + 1))
          case measure => omega
          case rel => exact ⟨k + 1, by omega, rfl, by go_num, hRh.congr (fun t _ => by rw [HSH2.out, if_neg (fun h => h4 h.1.1)]; simp), hRa.congr (fun t _ => by rw [HSA2.out, if_neg (fun h => h4 h.1)]; simp), hI2, hW2⟩
      · obtain rfl : k = l.length := by omega
        have HLD := Lib.hid (show loadsI l (hs l hosts) frm f = loadL (rot (haveL l (hs l hosts)) frm) (rot (allL l) frm) f q by rw [← HQ.out]; rfl)
        have hq4 := idx_le (isK 4) l
        have hbh : ∀ t, 0 ≤ haveTo l (hs l hosts) (hoN l) t ∧ haveTo l (hs l hosts) (hoN l) t ≤ 1000000 := fun t => by
          have := haveTo_bd l (hs l hosts) (hoN l) t
          unfold hoN at *
          omega
        have hba : ∀ t, 0 ≤ allTo l (hoN l) t ∧ allTo l (hoN l) t ≤ 1000000 := fun t => by
          have := allTo_bd l (hoN l) t
          unfold hoN at *
          omega
        have hLh := row_list hRh (haveL l (hs l hosts)) (by unfold haveL; rw [rangeMap_len, HQ.out]) (fun i hi => by unfold haveL; rw [rangeMap_at _ (by rw [HQ.out]; exact hi), lawHave_all ht hosts hn1]) (counts_wf _ _ hbh) (Nat.le_refl _) (by omega) (by omega)
        have hLa := row_list hRa (allL l) (by unfold allL; rw [rangeMap_len, HQ.out]) (fun i hi => by unfold allL; rw [rangeMap_at _ (by rw [HQ.out]; exact hi), lawAll_all]) (counts_wf _ _ hba) (Nat.le_refl _) (by omega) (by omega)
        obtain ⟨LH, hLH⟩ : ∃ LH, LH = haveL l (hs l hosts) := ⟨_, rfl⟩
        obtain ⟨LA, hLA2⟩ : ∃ LA, LA = allL l := ⟨_, rfl⟩
        rw [← hLH] at hLh HLD
        rw [← hLA2] at hLa HLD
        have T1 := load_Turn _ _ _ LH frm _ hLh
        have T2 := fun v h => load_Turn (some ⟨ga, 0, none⟩) q q LA frm v h
        obtain ⟨RH, hRH⟩ : ∃ RH, RH = rot LH frm := ⟨_, rfl⟩
        obtain ⟨RA, hRA⟩ : ∃ RA, RA = rot LA frm := ⟨_, rfl⟩
        rw [← hRH] at T1 HLD
        rw [← hRA] at T2 HLD
        clear hRh hRa hI2 hLH hLA2 hRH hRA hbh hba hq4 hLh hlt
        go_wp2_with fail
        refine T1.mono ?_; rintro e w4 ⟨A1, c1, rfl, hX1, hx4⟩
        clear T1
        go_wp2_with fail
        refine (T2 _ (hLa.keep hx4)).mono ?_; rintro e w5 ⟨A2, c2, rfl, hX2, hx5⟩
        have hX3 := hX1.keep hx5
        have hW5 := below_step (below_step hW2 hx4) hx5
        clear T2 hLa hX1 hx4 hx5 hW2
        go_wp2_with fail
        refine (load_OfL A1 A2 q c1 c2 RH RA f _ hX3 hX2).mono ?_; rintro e w6 ⟨A3, c3, rfl, hX6, _, hx6⟩
        go_wp2
        go_ret
        rw [HLD.out]
        exact ⟨A3, c3, rfl, hX6, below_step hW5 hx6⟩
end Go.Proofs.YtblbgafadadbmaaGreat
end
section
/- Which host is picked: if one can be, one is; and it lies below the level that was drawn, in plain Lean. -/
set_option linter.unusedVariables false
namespace Go.Proofs.YtblbgafadadbmaaGreat
open Go.RowKit
theorem levels_four {l : List Nd} (ht : Tall l) : ∀ k, k ≤ l.length → (l.take k).countP (isK 1) ≤ 4
  | 0, _ => by simp
  | k + 1, hk => by
    have ih := levels_four ht k (by omega)
    rw [take_snocN l k (by omega), List.countP_append, List.countP_singleton]
    by_cases h : isK 1 (l.getD k nd0) = true
    · rw [if_pos h]
      have hf := (whyC_ok (ht k (by omega))).2.2
      unfold full ofKind at hf
      unfold isK at h ih ⊢
      rw [h] at hf
      simp only [Bool.or_eq_false_iff, Bool.true_and, decide_eq_false_iff_not] at hf
      have := hf.1.2
      omega
    · rw [if_neg h]; omega
theorem lv_four {l : List Nd} (ht : Tall l) : lvN l ≤ 4 := by
  have := levels_four ht l.length (Nat.le_refl _)
  rw [List.take_length] at this
  unfold lvN
  rw [idx_count]
  exact this
theorem rowsTo_of {H A : List Int} : ∀ n, (∀ k, k < n → 0 ≤ H.getD k 0 ∧ H.getD k 0 ≤ A.getD k 0 ∧ A.getD k 0 ≤ 1048576) → rowsTo H A n = true
  | 0, _ => rfl
  | n + 1, h => by
    rw [rowsTo, rowsTo_of n (fun k hk => h k (by omega)), Bool.true_and]
    exact decide_eq_true (h n (by omega))
theorem haveL_at (l : List Nd) (S : Nat → Bool) {t : Nat} (h : t < lvN l) : (haveL l S).getD t 0 = haveTo l S (hoN l) t := rangeMap_at _ h
theorem allL_at (l : List Nd) {t : Nat} (h : t < lvN l) : (allL l).getD t 0 = allTo l (hoN l) t := rangeMap_at _ h
theorem have_le_all (l : List Nd) (S : Nat → Bool) (m t : Nat) : haveTo l S m t ≤ allTo l m t := by
  unfold haveTo allTo
  have := List.countP_mono_left (l := (idx (isK 4) l).take m) (p := fun h => lev l h == (t : Int) && S h.toNat) (q := fun h => lev l h == (t : Int)) (fun x _ h => by rw [Bool.and_eq_true] at h; exact h.1)
  omega
theorem loads_right {l : List Nd} (ht : Tall l) (S : Nat → Bool) (hl : l.length ≤ 1024) (frm : Int) {f : Int} (f0 : 100 ≤ f) (f1 : f ≤ 1000) : lRight (rot (haveL l S) frm) (rot (allL l) frm) f = true := by
  have h1 : (rot (haveL l S) frm).length = lvN l := by rw [rot_len]; exact rangeMap_len _ _
  have h2 : (rot (allL l) frm).length = lvN l := by rw [rot_len]; exact rangeMap_len _ _
  have h4 := lv_four ht
  rw [lRight_of ⟨by omega, by omega, f0, f1⟩, h1]
  refine rowsTo_of _ (fun k hk => ?_)
  have e1 := rot_at (l := haveL l S) (f := frm) (i := k) (by unfold haveL; rw [rangeMap_len]; exact hk)
  have e2 := rot_at (l := allL l) (f := frm) (i := k) (by unfold allL; rw [rangeMap_len]; exact hk)
  have l1 : (haveL l S).length = lvN l := rangeMap_len _ _
  have l2 : (allL l).length = lvN l := rangeMap_len _ _
  rw [l1] at e1
  rw [l2] at e2
  have ht' := turnAt_lt (f := frm) hk
  rw [e1, e2, haveL_at l S ht', allL_at l ht']
  have b1 := haveTo_bd l S (hoN l) (turnAt (lvN l) frm k)
  have b2 := allTo_bd l (hoN l) (turnAt (lvN l) frm k)
  have b3 := have_le_all l S (hoN l) (turnAt (lvN l) frm k)
  have b4 := idx_le (isK 4) l
  unfold hoN at *
  omega
/-- The sum of loads that are none below 0. -/
theorem pre_sum (F : Nat → Int) (hF : ∀ k, 0 ≤ F k) (n : Nat) : ∀ k, k ≤ n → pre ((List.range n).map F) k = sumL F k
  | 0, _ => rfl
  | k + 1, hk => by
    have h := hF k
    rw [pre, pre_sum F hF n k (by omega), rangeMap_at F (by omega), sumL]
    unfold pos
    rw [if_neg (by omega)]
theorem have_pos {l : List Nd} {S : Nat → Bool} {t : Nat} : 0 < haveTo l S (hoN l) t ↔ ∃ h : Nat, h < l.length ∧ (l.getD h nd0).kind = 4 ∧ lev l h = t ∧ S h = true := by
  unfold haveTo hoN
  rw [List.take_length]
  constructor
  · intro h
    obtain ⟨x, hx, hp⟩ := List.countP_pos_iff.1 (by omega : 0 < (idx (isK 4) l).countP fun h => lev l h == (t : Int) && S h.toNat)
    obtain ⟨j, rfl, hj, hk⟩ := mem_idx.1 hx
    rw [Bool.and_eq_true, beq_iff_eq, Int.toNat_natCast] at hp
    unfold isK at hk
    exact ⟨j, hj, by simpa using hk, hp.1, hp.2⟩
  · rintro ⟨h, h1, h2, h3, h4⟩
    have : 0 < (idx (isK 4) l).countP fun h => lev l h == (t : Int) && S h.toNat := List.countP_pos_iff.2 ⟨(h : Int), mem_idx.2 ⟨h, rfl, h1, by unfold isK; rw [h2]; rfl⟩, by rw [h3, Int.toNat_natCast, h4]; simp⟩
    omega
/-- The node of a level by its number. -/
theorem lvAt_lev {l : List Nd} (ht : Tall l) {h t : Nat} (hh : h < l.length) (ht2 : t < lvN l) (hl : lev l h = t) : up l 1 h = lvAt l t := by
  have e := (lev_at ht hh ht2).2 hl
  unfold lvAt
  rw [Int.toNat_natCast, e]
  have := up_level ht 4 h (by omega) (by omega) (by rw [ndAt_nat]; exact (tall_head ht h hh).kind1)
  omega
theorem hs_level {l : List Nd} (ht : Tall l) (hosts : List Int) {h t : Nat} (hh : h < l.length) (h4 : (l.getD h nd0).kind = 4) (ht2 : t < lvN l) (hl : lev l h = t) (hp : hs l hosts h = true) (hin : lvAt l t < l.length) (hk : (l.getD (lvAt l t) nd0).kind = 1) : hs l hosts (lvAt l t) = true := by
  rw [hs_any ht hosts 4 _ hin (by rw [hk]; omega), List.any_eq_true]
  refine ⟨h, List.mem_range.2 hh, ?_⟩
  rw [hs_host ht hosts hh h4] at hp
  rw [hk, hp, lvAt_lev ht hh ht2 hl]
  simp
end Go.Proofs.YtblbgafadadbmaaGreat
end
section
/- If a host can be picked, one is; and what is picked lies in the level that was drawn, in plain Lean. -/
set_option linter.unusedVariables false
namespace Go.Proofs.YtblbgafadadbmaaGreat
open Go.RowKit
theorem turn_onto {n : Nat} (f : Int) {t : Nat} (ht : t < n) : ∃ i, i < n ∧ turnAt n f i = t := by
  unfold turnAt
  by_cases h : 0 ≤ f ∧ f < n
  · obtain ⟨k, rfl⟩ := Int.eq_ofNat_of_zero_le h.1
    have hk : k < n := by omega
    by_cases hkt : k ≤ t
    · refine ⟨t - k, by omega, ?_⟩
      rw [if_pos h, Int.toNat_natCast, show t - k + k = t by omega, Nat.mod_eq_of_lt ht]
    · refine ⟨t + n - k, by omega, ?_⟩
      rw [if_pos h, Int.toNat_natCast, show t + n - k + k = t + n by omega, Nat.add_mod_right, Nat.mod_eq_of_lt ht]
  · exact ⟨t, ht, by rw [if_neg h]⟩
theorem way_four {l : List Nd} (ht : Tall l) (hosts : List Int) (hl : l.length ≤ 1024) (seed key : Int) {i : Nat} (hi : i < l.length) (hk : (l.getD i nd0).kind = 1) (hh : hs l hosts i = true) :
    wayI l (wt l hosts) seed key i ≠ [] ∧ ∃ h : Nat, lastI (wayI l (wt l hosts) seed key i) = h ∧ h < l.length ∧ pk l hosts h = true ∧ up l 1 h = i := by
  have := way_has ht hosts hl seed key 4 i hi (by omega) hh
  rw [hk] at this
  exact this
theorem lvAt_in' (l : List Nd) {k : Nat} (h1 : k < lvN l) : (idx (isK 1) l).getD k 0 = lvAt l k ∧ lvAt l k < l.length ∧ (l.getD (lvAt l k) nd0).kind = 1 := by
  have hm : (idx (isK 1) l).getD k 0 ∈ idx (isK 1) l := getD_mem _ _ h1
  obtain ⟨j, hj, hjl, hjk⟩ := mem_idx.1 hm
  unfold lvAt
  rw [Int.toNat_natCast, hj]
  refine ⟨by rw [Int.toNat_natCast], by rw [Int.toNat_natCast]; exact hjl, ?_⟩
  rw [Int.toNat_natCast]
  unfold isK at hjk
  simpa using hjk
theorem lev_of {l : List Nd} (ht : Tall l) {h t : Nat} (hh : h < l.length) (ht2 : t < lvN l) (hu : up l 1 h = lvAt l t) : lev l h = t := by
  refine (lev_at ht hh ht2).1 ?_
  rw [hu]
  have := (lvAt_in' l ht2).1
  exact this
/-- What is picked. -/
theorem host_is {l : List Nd} (ht : Tall l) (hosts : List Int) (hl : l.length ≤ 1024) (frm f seed key : Int) (h0 : 0 ≤ hostI l (wt l hosts) (hs l hosts) frm f seed key) :
    ∃ h t : Nat, hostI l (wt l hosts) (hs l hosts) frm f seed key = h ∧ h < l.length ∧ pk l hosts h = true ∧ lvlI l (hs l hosts) frm f seed key = t ∧ t < lvN l ∧ lev l h = t := by
  unfold hostI at h0 ⊢
  rcases lvl_cases l (hs l hosts) frm f seed key with ⟨_, e⟩ | ⟨i, hi, hl2, _, e, hlt⟩
  · rw [e, if_pos (by decide)] at h0; omega
  · rw [e] at h0 ⊢
    rw [if_neg (by omega)] at h0 ⊢
    obtain ⟨a1, a2, a3⟩ := lvAt_in' l hlt
    cases hh : hs l hosts (lvAt l (turnAt (lvN l) frm i)) with
    | true =>
      obtain ⟨_, h, h1, h2, h3, h4⟩ := way_four ht hosts hl seed key a2 a3 hh
      exact ⟨h, turnAt (lvN l) frm i, h1, h2, h3, rfl, hlt, lev_of ht h2 hlt h4⟩
    | false =>
      rw [way_hasnot ht hosts hl seed key a2 (by omega) hh] at h0
      exact absurd h0 (by decide)
/-- One is picked, if one can be. -/
theorem host_found {l : List Nd} (ht : Tall l) (hosts : List Int) (hl : l.length ≤ 1024) (frm seed key : Int) {f : Int} (f0 : 100 ≤ f) (f1 : f ≤ 1000) {h : Nat} (hh : h < l.length) (hp : pk l hosts h = true) : 0 ≤ hostI l (wt l hosts) (hs l hosts) frm f seed key := by
  have hR := loads_right ht (hs l hosts) hl frm f0 f1
  have hLL : loadsI l (hs l hosts) frm f = (List.range (lvN l)).map (ofI (rot (haveL l (hs l hosts)) frm) (rot (allL l) frm) f (lvN l)) := by unfold loadsI; rw [if_pos hR]
  have hlen : (loadsI l (hs l hosts) frm f).length = lvN l := by rw [hLL]; exact rangeMap_len _ _
  have hrot : ∀ i, i < lvN l → (rot (haveL l (hs l hosts)) frm).getD i 0 = haveTo l (hs l hosts) (hoN l) (turnAt (lvN l) frm i) := fun i hi => by
    have e1 := rot_at (l := haveL l (hs l hosts)) (f := frm) (i := i) (by unfold haveL; rw [rangeMap_len]; exact hi)
    have l1 : (haveL l (hs l hosts)).length = lvN l := rangeMap_len _ _
    rw [l1] at e1
    rw [e1, haveL_at _ _ (turnAt_lt hi)]
  have h4 := (pk_host hp).1
  obtain ⟨i', _, _, _, hlev, hlt⟩ := lev_host ht hh
  obtain ⟨t, htt⟩ : ∃ t : Nat, lev l h = t := ⟨_, hlev⟩
  have htl : t < lvN l := by unfold lvN; omega
  have hpos : 0 < haveTo l (hs l hosts) (hoN l) t := have_pos.2 ⟨h, hh, h4, htt, by rw [hs_host ht hosts hh h4]; exact hp⟩
  obtain ⟨i, hi, hit⟩ := turn_onto frm htl
  have hH : 0 < (rot (haveL l (hs l hosts)) frm).getD i 0 := by rw [hrot i hi, hit]; exact hpos
  have hsome : 0 ≤ someTo (rot (haveL l (hs l hosts)) frm) (lvN l) ∧ someTo (rot (haveL l (hs l hosts)) frm) (lvN l) < lvN l := by
    rcases someTo_spec (rot (haveL l (hs l hosts)) frm) (lvN l) with ⟨h1, _⟩ | ⟨m, hm, _, _, h3⟩
    · have := noneTo_at h1 hi
      omega
    · omega
  have hsum := sum_ofI (rot (haveL l (hs l hosts)) frm) (rot (allL l) frm) f (lvN l) (lvN l) (Nat.le_refl _)
  rw [if_pos hsome] at hsum
  have hpre := pre_sum (ofI (rot (haveL l (hs l hosts)) frm) (rot (allL l) frm) f (lvN l)) (fun k => (ofI_bd _ _ _ _ k).1) (lvN l) (lvN l) (Nat.le_refl _)
  have hd := draw_bd seed key
  unfold hostI
  rcases lvl_cases l (hs l hosts) frm f seed key with ⟨e, _⟩ | ⟨j, hj, _, e, e2, hjl⟩
  · rcases want_spec (loadsI l (hs l hosts) frm f) (drawI seed key) (loadsI l (hs l hosts) frm f).length with ⟨_, h5⟩ | ⟨j, _, e3, _⟩
    · rw [hlen, hLL, hpre, hsum] at h5
      omega
    · rw [e] at e3; omega
  · rw [e2, if_neg (by omega)]
    rcases want_spec (loadsI l (hs l hosts) frm f) (drawI seed key) (loadsI l (hs l hosts) frm f).length with ⟨e3, _⟩ | ⟨j', _, e3, p1, p2⟩
    · rw [e] at e3; omega
    · have hjj : j' = j := by rw [e] at e3; omega
      subst hjj
      have hst : pre (loadsI l (hs l hosts) frm f) (j' + 1) = pre (loadsI l (hs l hosts) frm f) j' + pos ((loadsI l (hs l hosts) frm f).getD j' 0) := rfl
      have hload : 0 < ofI (rot (haveL l (hs l hosts)) frm) (rot (allL l) frm) f (lvN l) j' := by
        have e4 : (loadsI l (hs l hosts) frm f).getD j' 0 = ofI (rot (haveL l (hs l hosts)) frm) (rot (allL l) frm) f (lvN l) j' := by rw [hLL]; exact rangeMap_at _ hj
        rw [e4] at hst
        unfold pos at hst
        split at hst <;> omega
      have hne : (rot (haveL l (hs l hosts)) frm).getD j' 0 ≠ 0 := fun h6 => by rw [ofI_zero h6] at hload; omega
      rw [hrot j' hj] at hne
      have hb := haveTo_bd l (hs l hosts) (hoN l) (turnAt (lvN l) frm j')
      obtain ⟨g, g1, g2, g3, g4⟩ := have_pos.1 (show 0 < haveTo l (hs l hosts) (hoN l) (turnAt (lvN l) frm j') by omega)
      obtain ⟨a1, a2, a3⟩ := lvAt_in' l hjl
      have hs1 := hs_level ht hosts g1 g2 hjl g3 g4 a2 a3
      obtain ⟨_, x, x1, _⟩ := way_four ht hosts hl seed key a2 a3 hs1
      rw [x1]
      omega
end Go.Proofs.YtblbgafadadbmaaGreat
end
section
/- The law's Host. -/
set_option linter.unusedVariables false
namespace Go.Proofs.YtblbgafadadbmaaGreat
open Go.RowKit
set_option maxHeartbeats 4000000
set_option maxRecDepth 100000
theorem turn_int {n k : Nat} {f : Int} (h : 0 ≤ f ∧ f < n) : ((turnAt n f k : Nat) : Int) = ((k : Int) + f) % n := by
  unfold turnAt
  rw [if_pos h]
  obtain ⟨j, rfl⟩ := Int.eq_ofNat_of_zero_le h.1
  rw [Int.toNat_natCast, Int.natCast_emod, Int.natCast_add]
theorem turn_out {n k : Nat} {f : Int} (h : ¬ (0 ≤ f ∧ f < n)) : turnAt n f k = k := by
  unfold turnAt; rw [if_neg h]
theorem law26_Host {A : Option Addr} {n c gr : Nat} {l : List Nd} {hosts : List Int} {w : World} (h : IsNodes w A n c l) (ht : Tall l) (hR : w.rowIs gr 24 n (fun j => .int .u64 (wt l hosts j))) (hn1 : n ≤ 1024)
    (frm : Int) (r0 : -9223372036854775808 ≤ frm) (r1 : frm ≤ 9223372036854775807) (key : Int) (k0 : 0 ≤ key) (k1 : key < 18446744073709551616) (seed : Int) (s0 : 0 ≤ seed) (s1 : seed < 18446744073709551616) (f : Int) :
    Calls Tryz.prog 9 #[.slice A n c, .slice (some ⟨gr, 0, none⟩) n n, .int .i64 frm, .int .u64 key, .int .u64 seed, .int .i64 f] w fun e w' =>
      e = .returned (.int .i64 (hostI l (wt l hosts) (hs l hosts) frm f seed key)) ∧ Below w.heap.size w w' := by
  have hcap := h.cap
  have hsm := h.small
  have hlen := h.len
  subst hlen
  have hWb : ∀ k, k < l.length → 0 ≤ wt l hosts k ∧ wt l hosts k < 18446744073709551616 := fun k hk => wt_nn ht hosts hn1 k hk
  have hLD := law26_loads h ht hR hn1 frm f
  have hLv := fun w (h : IsNodes w A l.length c l) => law26_levels h hn1
  have hDn := fun w (h : IsNodes w A l.length c l) (hR : w.rowIs gr 24 l.length (fun j => .int .u64 (wt l hosts j))) i hi => law26_down h ht hR hWb hn1 seed key s0 s1 k0 k1 i hi
  have HC := Lib.hid (lvl_cases l (hs l hosts) frm f seed key)
  have HB := Lib.hid (loads_bd l (hs l hosts) frm f)
  have HLA := Lib.hid (fun (k : Nat) (h1 : k < lvN l) => lvAt_in' l h1)
  have HH := Lib.hid (show hostI l (wt l hosts) (hs l hosts) frm f seed key = if lvlI l (hs l hosts) frm f seed key < 0 then -1 else lastI (wayI l (wt l hosts) seed key (lvAt l (lvlI l (hs l hosts) frm f seed key))) from rfl)
  obtain ⟨LL, hLL⟩ : ∃ LL, LL = loadsI l (hs l hosts) frm f := ⟨_, rfl⟩
  rw [← hLL] at hLD HC HB
  obtain ⟨V, hV⟩ : ∃ V, V = lvlI l (hs l hosts) frm f seed key := ⟨_, rfl⟩
  rw [← hV] at HC HH
  obtain ⟨m, hm⟩ : ∃ m, m = LL.length := ⟨_, rfl⟩
  have hml : m ≤ lvN l := by rw [hm, hLL]; exact loads_le _ _ _ _
  rw [← hm] at hLD HC
  have hq1 := idx_le (isK 1) l
  have hmb := mixOf_bd seed [key]
  have hdb := draw_bd seed key
  have HD := Lib.hid (show drawI seed key = mixOf seed [key] * 10000 / 18446744073709551616 from rfl)
  have A1 := fun (w' : World) => ref_Of seed _ 1 1 [key] _ s0 s1 (one_list w' 24 key k0 k1)
  have A2 := fun w => ref_Below (mixOf seed [key]) 10000 w hmb.1 hmb.2 (by omega) (by omega)
  have hq : lvN l ≤ 1024 := by unfold lvN; omega
  clear hLL hV hm hq1 hWb
  go_enter Tryz.func9, Tryz.ntmps9
  go_wp2_with fail
  refine hLD.mono ?_; rintro e w1 ⟨AL, cL, rfl, hI, hx1⟩
  have hcapL := hI.cap
  have hsmL := hI.small
  clear hLD
  go_wp2_with fail
  refine (A1 _).mono ?_; rintro e w' ⟨rfl, rfl⟩
  have hI2 := hI.keep ((Below.refl _ _).alloc (Nat.le_refl _) (.cells #[.int .u64 key] 24))
  have hx2 := hx1.alloc hx1.size (.cells #[.int .u64 key] 24)
  go_wp2_with fail
  refine (A2 _).mono ?_; rintro e w' ⟨rfl, rfl⟩
  rw [← HD.out]
  obtain ⟨d, hd⟩ : ∃ d, d = drawI seed key := ⟨_, rfl⟩
  rw [← hd] at hdb HC ⊢
  clear HD hd A1 A2 hI hx1 hmb
  generalize w1.alloc (.cells #[.int .u64 key] 24) = w2 at *
  go_wp2_with fail
  go_loopg [14, 15, 16, 17, 18] m (fun gk s14 s15 s16 s17 s18 wr => ∃ k : Nat, k ≤ m ∧ gk = m - k ∧ s15 = .int .i64 k ∧ s14 = .int .i64 (d - pre LL k) ∧ pre LL k ≤ d ∧ IsList wr .i64 AL m cL LL ∧ Below w.heap.size w wr)
  case atStart => exact ⟨0, Nat.zero_le _, rfl, rfl, by simp [pre], by rw [pre]; exact hdb.1, hI2, hx2⟩
  case round =>
    clear hI2 hx2
    obtain ⟨k, hk, rfl, rfl, rfl, hpd, hI, hx⟩ := hrel
    have hpn := pre_nn LL k
    have hst : pre LL (k + 1) = pre LL k + pos (LL.getD k 0) := rfl
    by_cases hlt : k < m
    · have hki : (k : Int) < (m : Int) := by omega
      obtain ⟨ad, rfl, _, x0, _⟩ := hI.get hlt
      have hxb := HB.out k
      have HW := Lib.hid (fun (h1 : pre LL k ≤ d) (h2 : d < pre LL (k + 1)) => want_hit (n := m) hlt h1 h2)
      obtain ⟨x, hxe⟩ : ∃ x, x = LL.getD k 0 := ⟨_, rfl⟩
      rw [← hxe] at x0 hxb hst
      have hpx : pos x = x := by unfold pos; rw [if_neg (by omega)]
      rw [hpx] at hst
      have HST := Lib.hid hst
      obtain ⟨p, hp⟩ : ∃ p, p = pre LL k := ⟨_, rfl⟩
      rw [← hp] at hpd hpn HST HW ⊢
      clear hst hxe hpx hp
      by_cases hyes : d - p < x
      · have g1 : decide (d - p < x) = true := decide_eq_true hyes
        have hw := HW.out hpd (by rw [HST.out]; omega)
        obtain ⟨_, e1⟩ | ⟨i, hi, hmq, e1, e2, hjl⟩ := HC.out
        · rename_i e0
          rw [hw] at e0; omega
        · have hik : i = k := by rw [hw] at e1; omega
          subst hik
          rw [e2, if_neg (by omega)] at HH
          obtain ⟨a1, a2, a3⟩ := HLA.out _ hjl
          obtain ⟨t, htt⟩ : ∃ t, t = turnAt (lvN l) frm i := ⟨_, rfl⟩
          have HT1 := Lib.hid (show (0 ≤ frm ∧ frm < lvN l) → (t : Int) = ((i : Int) + frm) % lvN l from fun h => by rw [htt]; exact turn_int h)
          have HT2 := Lib.hid (show ¬ (0 ≤ frm ∧ frm < lvN l) → t = i from fun h => by rw [htt]; exact turn_out h)
          rw [← htt] at HH a1 a2 hjl
          obtain ⟨q, hqq⟩ : ∃ q, q = lvN l := ⟨_, rfl⟩
          rw [← hqq] at hLv hmq HT1 HT2 hjl hq hml
          have hDj := fun w h hR => hDn w h hR (lvAt l t) a2
          obtain ⟨j, hj⟩ : ∃ j, j = lvAt l t := ⟨_, rfl⟩
          rw [← hj] at hDj HH a1
          obtain ⟨R, hRR⟩ : ∃ R, R = wayI l (wt l hosts) seed key j := ⟨_, rfl⟩
          rw [← hRR] at hDj HH
          obtain ⟨rn, hrn⟩ : ∃ rn, rn = R.length := ⟨_, rfl⟩
          rw [← hrn] at hDj
          clear hDn HC HB HLA htt hqq hj hRR hw e1 e2 a2 a3 HW HST
          have hnd := h.keep hx
          have hrw := row_keep hR hx
          go_wp2_with fail
          refine (hLv _ hnd).mono ?_; rintro e w4 ⟨AK, cK, rfl, hK, _, hx4⟩
          have hcapK := hK.cap
          have hsmK := hK.small
          have hx5 := below_step hx hx4
          have hti : (t : Int) < (q : Int) := by omega
          obtain ⟨ak, rfl, _, y0, _⟩ := hK.get (k := t) (by omega)
          rw [a1] at y0
          clear hLv hnd hrw hx hx4 hI x0 hK
          by_cases hr : 0 ≤ frm ∧ frm < (q : Int)
          · have g2 : decide (0 ≤ frm) = true := decide_eq_true hr.1
            have g3 : decide (frm < (q : Int)) = true := decide_eq_true hr.2
            have hr1 := hr.1
            have hr2 := hr.2
            have hqn : ((q : Int) == 0) = false := by rw [beq_eq_false_iff_ne]; omega
            have kt : ((i : Int) + frm) % (q : Int) = t := (HT1.out hr).symm
            have ka : IntKind.i64.wrap ((i : Int) + frm) = (i : Int) + frm := IntWalk.i64_in _ (by omega)
            have kb : IntKind.i64.wrap (t : Int) = t := IntWalk.i64_in _ (by omega)
            clear hr HT1 HT2
            go_wp2_with fail
            refine (hDj _ (h.keep hx5) (row_keep hR hx5)).mono ?_; rintro e w6 ⟨AR, cR, rfl, hR6, _, hx6⟩
            clear kt ka kb
            have hx7 := below_step hx5 hx6
            have hcap6 := hR6.cap
            have hsm6 := hR6.small
            clear hDj hx5 hx6 y0
            by_cases h0 : rn = 0
            · have g5 : ((rn : Int) == 0) = true := by rw [beq_iff_eq]; omega
              have HE := Lib.hid (show lastI R = -1 by unfold lastI; rw [if_pos (List.eq_nil_of_length_eq_zero (by rw [← hrn]; exact h0))])
              clear hrn hR6
              subst h0
              go_wp2
              go_ret
              exact ⟨by rw [HH.out, HE.out]; rfl, hx7⟩
            · have g5 : ((rn : Int) == 0) = false := by rw [beq_eq_false_iff_ne]; omega
              obtain ⟨ad3, rfl, _, z0, _⟩ := hR6.get (k := rn - 1) (by omega)
              have HE := Lib.hid (show lastI R = R.getD (rn - 1) 0 by unfold lastI; rw [if_neg (fun h => by rw [h] at hrn; exact h0 hrn), hrn])
              obtain ⟨r, rfl⟩ : ∃ r, rn = r + 1 := ⟨rn - 1, by omega⟩
              have hp : r + 1 - 1 = r := by omega
              rw [hp] at z0 HE
              have kp : IntKind.i64.wrap (((r + 1 : Nat) : Int) - 1) = r := by rw [IntWalk.i64_in _ (by have := hR6.reach; omega)]; omega
              have hpi : (r : Int) < ((r + 1 : Nat) : Int) := by omega
              obtain ⟨z, hz⟩ : ∃ z, z = R.getD r 0 := ⟨_, rfl⟩
              rw [← hz] at z0 HE
              clear hrn hR6 hz h0 hp
              go_wp2
              go_ret
              exact ⟨by rw [HH.out, HE.out]; rfl, hx7⟩
          · have ht0 := HT2.out hr
            subst ht0
            have HR := Lib.hid hr
            by_cases hr1 : 0 ≤ frm
            · have g2 : decide (0 ≤ frm) = true := decide_eq_true hr1
              have hr2 : ¬ frm < (q : Int) := fun h => HR.out ⟨hr1, h⟩
              have g3 : decide (frm < (q : Int)) = false := decide_eq_false hr2
              clear hr HT1 HT2
              go_wp2_with fail
              refine (hDj _ (h.keep hx5) (row_keep hR hx5)).mono ?_; rintro e w6 ⟨AR, cR, rfl, hR6, _, hx6⟩
              have hx7 := below_step hx5 hx6
              have hcap6 := hR6.cap
              have hsm6 := hR6.small
              clear hDj hx5 hx6 y0
              by_cases h0 : rn = 0
              · have g5 : ((rn : Int) == 0) = true := by rw [beq_iff_eq]; omega
                have HE := Lib.hid (show lastI R = -1 by unfold lastI; rw [if_pos (List.eq_nil_of_length_eq_zero (by rw [← hrn]; exact h0))])
                clear hrn hR6
                subst h0
                go_wp2
                go_ret
                exact ⟨by rw [HH.out, HE.out]; rfl, hx7⟩
              · have g5 : ((rn : Int) == 0) = false := by rw [beq_eq_false_iff_ne]; omega
                obtain ⟨ad3, rfl, _, z0, _⟩ := hR6.get (k := rn - 1) (by omega)
                have HE := Lib.hid (show lastI R = R.getD (rn - 1) 0 by unfold lastI; rw [if_neg (fun h => by rw [h] at hrn; exact h0 hrn), hrn])
                obtain ⟨r, rfl⟩ : ∃ r, rn = r + 1 := ⟨rn - 1, by omega⟩
                have hp : r + 1 - 1 = r := by omega
                rw [hp] at z0 HE
                have kp : IntKind.i64.wrap (((r + 1 : Nat) : Int) - 1) = r := by rw [IntWalk.i64_in _ (by have := hR6.reach; omega)]; omega
                have hpi : (r : Int) < ((r + 1 : Nat) : Int) := by omega
                obtain ⟨z, hz⟩ : ∃ z, z = R.getD r 0 := ⟨_, rfl⟩
                rw [← hz] at z0 HE
                clear hrn hR6 hz h0 hp
                go_wp2
                go_ret
                exact ⟨by rw [HH.out, HE.out]; rfl, hx7⟩
            · have g2 : decide (0 ≤ frm) = false := decide_eq_false hr1
              clear hr HT1 HT2
              go_wp2_with fail
              refine (hDj _ (h.keep hx5) (row_keep hR hx5)).mono ?_; rintro e w6 ⟨AR, cR, rfl, hR6, _, hx6⟩
              have hx7 := below_step hx5 hx6
              have hcap6 := hR6.cap
              have hsm6 := hR6.small
              clear hDj hx5 hx6 y0
              by_cases h0 : rn = 0
              · have g5 : ((rn : Int) == 0) = true := by rw [beq_iff_eq]; omega
                have HE := Lib.hid (show lastI R = -1 by unfold lastI; rw [if_pos (List.eq_nil_of_length_eq_zero (by rw [← hrn]; exact h0))])
                clear hrn hR6
                subst h0
                go_wp2
                go_ret
                exact ⟨by rw [HH.out, HE.out]; rfl, hx7⟩
              · have g5 : ((rn : Int) == 0) = false := by rw [beq_eq_false_iff_ne]; omega
                obtain ⟨ad3, rfl, _, z0, _⟩ := hR6.get (k := rn - 1) (by omega)
                have HE := Lib.hid (show lastI R = R.getD (rn - 1) 0 by unfold lastI; rw [if_neg (fun h => by rw [h] at hrn; exact h0 hrn), hrn])
                obtain ⟨r, rfl⟩ : ∃ r, rn = r + 1 := ⟨rn - 1, by omega⟩
                have hp : r + 1 - 1 = r := by omega
                rw [hp] at z0 HE
                have kp : IntKind.i64.wrap (((r + 1 : Nat) : Int) - 1) = r := by rw [IntWalk.i64_in _ (by have := hR6.reach; omega)]; omega
                have hpi : (r : Int) < ((r + 1 : Nat) : Int) := by omega
                obtain ⟨z, hz⟩ : ∃ z, z = R.getD r 0 := ⟨_, rfl⟩
                rw [← hz] at z0 HE
                clear hrn hR6 hz h0 hp
                go_wp2
                go_ret
                exact ⟨by rw [HH.out, HE.out]; rfl, hx7⟩
      · have g1 : decide (d - p < x) = false := decide_eq_false hyes
        have hpd2 : pre LL (k + 1) ≤ d := by rw [HST.out]; omega
        have kd : IntKind.i64.wrap (d - p - x) = d - pre LL (k + 1) := by rw [HST.out, IntWalk.i64_in _ (by omega)]; omega
        clear hyes
        go_wp2
        go_roundg (m - (k + 1))
        case measure => omega
        case rel => exact ⟨k + 1, by omega, rfl, by go_num, rfl, hpd2, hI, hx⟩
    · obtain rfl : k = m := by omega
      have HE := Lib.hid (show hostI l (wt l hosts) (hs l hosts) frm f seed key = -1 by
        obtain ⟨_, e1⟩ | ⟨i, hi, hmq, e1, e2, hjl⟩ := HC.out
        · rw [HH.out, e1]; rfl
        · have := want_none (l := LL) (d := d) (n := k) (.inr hpd)
          rw [this] at e1; omega)
      go_wp2
      go_ret
      exact ⟨by rw [HE.out]; rfl, hx⟩
end Go.Proofs.YtblbgafadadbmaaGreat
end
