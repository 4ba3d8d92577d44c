/- Lemmas for the claim's proof: WalkM WalkN. -/
import Derived.RegionTactic
import Derived.Deep.DeepCutAuto
import Derived.Deep.CutBlock
import Derived.Test.YtblbgafadadbmaaQ13
import Derived.Test.YtblbgafadadbmaaQ16
import Derived.Test.YtblbgafadadbmaaQ22
import Derived.Test.YtblbgafadadbmaaQ25
import Derived.Test.YtblbgafadadbmaaQ26
section
/- The law's loads. -/
set_option linter.unusedVariables false
namespace Go.Proofs.Ytblbgafadadbmaa
open Go.RowKit
set_option maxHeartbeats 4000000
set_option maxRecDepth 100000
theorem law26_loads {A : Option Addr} {n c gr : Nat} {l : List Nd} {hosts : List Int} {w : World} (h : IsNodes w A n c l) (ht : Tall l) (hR : w.rowIs gr 24 n (fun j => .int .u64 (wt l hosts j))) (hn1 : n ≤ 1024) (frm f : Int) :
    Calls Try.prog 19 #[.slice A n c, .slice (some ⟨gr, 0, none⟩) n n, .int .i64 frm, .int .i64 f] w fun e w' =>
      ∃ A' c', e = .returned (.slice A' (loadsI l (hs l hosts) frm f).length c') ∧ IsList w' .i64 A' (loadsI l (hs l hosts) frm f).length c' (loadsI l (hs l hosts) frm f) ∧ Below w.heap.size w w' := by
  have hcap := h.cap
  have hsm := h.small
  have hlen := h.len
  subst hlen
  have hLv := law26_levels h hn1
  have hq1 := idx_le (isK 1) l
  have HQ1 : lvN l = (idx (isK 1) l).length := rfl
  have hlvn : lvN l ≤ 1024 := by omega
  have hmk := run_make_row' (P := Try.prog) 23 3 (.int .i64 0) 8 Try.underlying23 Try.infoI64 rfl .i64 .i64 (lvN l) (by omega) (by omega)
  have hat := fun (i j : Nat) (hi : i < l.length) (hj : j < lvN l) => lev_at ht hi hj
  obtain ⟨q, hq⟩ : ∃ q, q = lvN l := ⟨_, rfl⟩
  rw [← hq] at hLv hlvn hmk
  have HQ := Lib.hid hq.symm
  clear hq hq1 HQ1
  go_enter Try.func19, Try.ntmps19
  go_wp2_with fail
  refine hLv.mono ?_; rintro e w1 ⟨AL, cL, rfl, hI, hfI, hx1⟩
  have hcapL := hI.cap
  have hsmL := hI.small
  clear hLv
  go_upto_region 2 with (fail)
  go_cut [10, 11] (fun s10 s11 wx => ∃ gh ga, s10 = .slice (some ⟨gh, 0, none⟩) q q ∧ s11 = .slice (some ⟨ga, 0, none⟩) q q ∧ gh ≠ ga ∧ w1.heap.size ≤ gh ∧ w1.heap.size ≤ ga ∧ wx.rowIs gh 3 q (fun _ => .int .i64 0) ∧ wx.rowIs ga 3 q (fun _ => .int .i64 0) ∧ Below w1.heap.size w1 wx)
  case first =>
    have hd : Below w1.heap.size w1 w1.drew := Below.drew (Below.refl _ _)
    go_region
    all_goals
      go_wp2_with fail
      go_meet
      refine ⟨_, _, rfl, rfl, ?_, ?_, ?_, ?_, ?_, ?_⟩
    all_goals first
      | exact row_made' _ _ _ _ rfl
      | (refine row_made' _ _ _ _ ?_; simp; done)
      | exact (row_made' _ _ _ _ rfl).alloc _
      | exact (hd.alloc hd.size _).alloc (hd.alloc hd.size _).size _
      | exact ((Below.refl _ _).alloc (Nat.le_refl _) _).alloc (by simp) _
      | (simp; done)
      | (simp; omega)
      | omega
  case rest =>
    obtain ⟨gh, ga, rfl, rfl, hne, hgh, hga, hRh, hRa, hb⟩ := hcut
    obtain ⟨w2, rfl⟩ : ∃ w2, w2 = wc := ⟨_, rfl⟩
    have hI2 := hI.keep hb
    have hW2 := below_step hx1 hb
    have hLA : 0 < q → ∀ ad, AL = some ad → ¬ (ad.block = gh ∨ ad.block = ga) := fun h0 ad e => by
      obtain ⟨ad', e', h2, _⟩ := hI.reads.2 h0
      rw [e] at e'
      injection e' with e'
      subst e'
      omega
    have hs1 := hx1.size
    have hgh2 : w.heap.size ≤ gh := by omega
    have hga2 : w.heap.size ≤ ga := by omega
    have HI := Lib.hid hfI
    clear hI hb hx1 hmk hfI
    go_wp2_with fail
    go_loopg [12, 13, 14] l.length (fun gk s12 s13 s14 wr => ∃ k : Nat, k ≤ l.length ∧ gk = l.length - k ∧ s12 = .int .i64 k ∧ wr.rowIs gh 3 q (fun t => .int .i64 (lawHave l (wt l hosts) k t)) ∧ wr.rowIs ga 3 q (fun t => .int .i64 (lawAll l k t)) ∧ IsList wr .i64 AL q cL (idx (isK 1) l) ∧ Below w.heap.size w wr)
    case atStart => exact ⟨0, Nat.zero_le _, rfl, rfl, hRh.congr (fun t _ => by unfold lawHave; rfl), hRa.congr (fun t _ => by unfold lawAll; rfl), hI2, hW2⟩
    case round =>
      clear hRh hRa hI2 hW2
      obtain ⟨k, hk, rfl, rfl, hRh, hRa, hI2, hW2⟩ := hrel
      by_cases hlt : k < l.length
      · have hki : (k : Int) < (l.length : Int) := by omega
        have hNW := h.keep hW2
        obtain ⟨ad, hAd, hbk, d0, d1, d2, d3, d4, d5, d6⟩ := hNW.at_ hlt
        have HSA := Lib.hid (lawAll_step l k)
        have HSH := Lib.hid (lawHave_step l (wt l hosts) k)
        by_cases h4 : (l.getD k nd0).kind = 4
        · obtain ⟨a, b, e1, ha, e2, hb2, e3⟩ := up_host ht hlt h4
          obtain ⟨ad1, hAd1, _, _, _, x2, _⟩ := hNW.at_ ha
          obtain ⟨ad2, hAd2, _, _, _, y2, _⟩ := hNW.at_ hb2
          rw [hAd] at hAd1 hAd2
          injection hAd1 with hAd1
          injection hAd2 with hAd2
          subst hAd1 hAd2
          subst hAd
          rw [e1] at d2
          rw [e2] at x2
          rw [← e3] at y2
          have hai : (a : Int) < (l.length : Int) := by omega
          have hbi : (b : Int) < (l.length : Int) := by omega
          have hRr := (row_keep hR hW2).cell hlt
          have HAT := Lib.hid (fun j hj => hat k j hlt hj)
          obtain ⟨U, hU⟩ : ∃ U, U = up l 1 (k : Int) := ⟨_, rfl⟩
          obtain ⟨V, hV⟩ : ∃ V, V = lev l (k : Int) := ⟨_, rfl⟩
          obtain ⟨y, hy⟩ : ∃ y, y = wt l hosts k := ⟨_, rfl⟩
          rw [← hU] at y2 HAT
          rw [← hV] at HSA HSH HAT
          rw [← hy] at hRr HSH
          rw [h4] at d1
          have H4 := Lib.hid h4
          have g4 : ((4 : Int) != 4) = false := rfl
          have HK := Lib.hid hat
          have HY := Lib.hid hy
          clear e1 e2 e3 h4 hU hV hy d0 d3 d4 d5 d6 hat hNW
          go_wp2_with fail
          obtain ⟨wo, rfl⟩ : ∃ wo, wo = wr := ⟨_, rfl⟩
          go_loopg [14] q (fun gj s14 wr => ∃ j : Nat, j ≤ q ∧ gj = q - j ∧ s14 = .int .i64 j ∧ wr.rowIs gh 3 q (fun t => .int .i64 (lawHave l (wt l hosts) k t + if (t < j ∧ V = (t : Int)) ∧ 0 < y then 1 else 0)) ∧
            wr.rowIs ga 3 q (fun t => .int .i64 (lawAll l k t + if t < j ∧ V = (t : Int) then 1 else 0)) ∧ IsList wr .i64 AL q cL (idx (isK 1) l) ∧ Below w.heap.size w wr)
          case atStart => exact ⟨0, Nat.zero_le _, rfl, rfl, hRh.congr (fun t _ => by rw [if_neg (fun h => absurd h.1.1 (by omega))]; simp), hRa.congr (fun t _ => by rw [if_neg (fun h => absurd h.1 (by omega))]; simp), hI2, hW2⟩
          case round =>
            clear hRh hRa hI2 hW2 x2 y2 d1 d2 hRr
            obtain ⟨j, hj, rfl, rfl, hRh, hRa, hI2, hW2⟩ := hrel
            by_cases hjq : j < q
            · have hji : (j : Int) < (q : Int) := by omega
              obtain ⟨al, rfl, _, z0, _⟩ := hI2.get hjq
              have HZ := Lib.hid (HAT.out j (by rw [HQ.out]; exact hjq))
              obtain ⟨z, hz⟩ : ∃ z, z = (idx (isK 1) l).getD j 0 := ⟨_, rfl⟩
              rw [← hz] at z0 HZ
              by_cases hv : V = (j : Int)
              · have g1 : (z != U) = false := by rw [bne_eq_false_iff_eq]; exact HZ.out.2 hv
                have hRr := (row_keep hR hW2).cell hlt
                rw [← HY.out] at hRr
                have bA := lawAll_bd l k j
                have bH := lawHave_bd l (wt l hosts) k j
                obtain ⟨FA, hFA⟩ : ∃ FA, FA = lawAll l k j := ⟨_, rfl⟩
                obtain ⟨FH, hFH⟩ : ∃ FH, FH = lawHave l (wt l hosts) k j := ⟨_, rfl⟩
                rw [← hFA] at bA
                rw [← hFH] at bH
                have ca : wr.cell? ⟨ga, j, none⟩ = some (.int .i64 FA) := by rw [hRa.cell hjq, if_neg (fun h => absurd h.1 (by omega)), hFA]; simp
                have ch : wr.cell? ⟨gh, j, none⟩ = some (.int .i64 FH) := by rw [hRh.cell hjq, if_neg (fun h => absurd h.1.1 (by omega)), hFH]; simp
                have fa := hRa.frozen j
                have fh := hRh.frozen j
                have kA : IntKind.i64.wrap (FA + 1) = FA + 1 := IntWalk.i64_in _ (by omega)
                have kH : IntKind.i64.wrap (FH + 1) = FH + 1 := IntWalk.i64_in _ (by omega)
                have hgr := hR.lt
                have hg1 : ¬ gr = ga := by omega
                have hg2 : ¬ gr = gh := by omega
                have hne2 : ¬ gh = ga := hne
                have hne3 : ¬ ga = gh := fun e => hne e.symm
                have RA := (hRa.set j (.int .i64 (FA + 1))).congr (fun t ht => show (if t = j then Value.int .i64 (FA + 1) else .int .i64 (lawAll l k t + if t < j ∧ V = (t : Int) then 1 else 0)) = .int .i64 (lawAll l k t + if t < j + 1 ∧ V = (t : Int) then 1 else 0) by
                  by_cases e : t = j
                  · subst e; rw [if_pos rfl, if_pos ⟨by omega, hv⟩, hFA]
                  · rw [if_neg e]
                    by_cases e2 : t < j ∧ V = (t : Int)
                    · rw [if_pos e2, if_pos ⟨by omega, e2.2⟩]
                    · rw [if_neg e2, if_neg (fun h => e2 ⟨by omega, h.2⟩)])
                have hL1 := list_mod hI2 ((Mod.refl (fun b => b = gh ∨ b = ga) wr).setCell (p := ⟨ga, j, none⟩) (.inl (.inr rfl)) (.int .i64 (FA + 1))) hLA
                have hW3 := below_own hW2 hga2 j (.int .i64 (FA + 1))
                have RH := hRh.setOther (a := ⟨ga, j, none⟩) hne (.int .i64 (FA + 1))
                by_cases hy0 : 0 < y
                · have g2 : decide (0 < y) = true := decide_eq_true hy0
                  have RH2 := (RH.set j (.int .i64 (FH + 1))).congr (fun t ht => show (if t = j then Value.int .i64 (FH + 1) else .int .i64 (lawHave l (wt l hosts) k t + if (t < j ∧ V = (t : Int)) ∧ 0 < y then 1 else 0)) = .int .i64 (lawHave l (wt l hosts) k t + if (t < j + 1 ∧ V = (t : Int)) ∧ 0 < y then 1 else 0) by
                    by_cases e : t = j
                    · subst e; rw [if_pos rfl, if_pos ⟨⟨by omega, hv⟩, hy0⟩, hFH]
                    · rw [if_neg e]
                      by_cases e2 : (t < j ∧ V = (t : Int)) ∧ 0 < y
                      · rw [if_pos e2, if_pos ⟨⟨by omega, e2.1.2⟩, e2.2⟩]
                      · rw [if_neg e2, if_neg (fun h => e2 ⟨⟨by omega, h.1.2⟩, h.2⟩)])
                  have RA2 := RA.setOther (a := ⟨gh, j, none⟩) hne.symm (.int .i64 (FH + 1))
                  have hL2 := list_mod hL1 ((Mod.refl (fun b => b = gh ∨ b = ga) (wr.setCell ⟨ga, j, none⟩ (.int .i64 (FA + 1)))).setCell (p := ⟨gh, j, none⟩) (.inl (.inl rfl)) (.int .i64 (FH + 1))) hLA
                  have hW4 := below_own hW3 hgh2 j (.int .i64 (FH + 1))
                  clear hRh hRa hI2 hW2 RH RA hL1 hW3 hFA hFH hv HZ hz
                  go_wp2
                  go_roundg (q - (j + 1))
                  case measure => omega
                  case rel => exact ⟨j + 1, by omega, rfl, by go_num, RH2, RA2, hL2, hW4⟩
                · have g2 : decide (0 < y) = false := decide_eq_false hy0
                  have RH2 := RH.congr (fun t ht => show Value.int .i64 (lawHave l (wt l hosts) k t + if (t < j ∧ V = (t : Int)) ∧ 0 < y then 1 else 0) = .int .i64 (lawHave l (wt l hosts) k t + if (t < j + 1 ∧ V = (t : Int)) ∧ 0 < y then 1 else 0) by
                    rw [if_neg (fun h => hy0 h.2), if_neg (fun h => hy0 h.2)])
                  clear hRh hRa hI2 hW2 RH hFA hFH hv HZ hz
                  go_wp2
                  go_roundg (q - (j + 1))
                  case measure => omega
                  case rel => exact ⟨j + 1, by omega, rfl, by go_num, RH2, RA, hL1, hW3⟩
              · have g1 : (z != U) = true := by rw [bne_iff_ne]; exact fun e => hv (HZ.out.1 e)
                have RA := hRa.congr (fun t ht => show Value.int .i64 (lawAll l k t + if t < j ∧ V = (t : Int) then 1 else 0) = .int .i64 (lawAll l k t + if t < j + 1 ∧ V = (t : Int) then 1 else 0) by
                  by_cases e2 : t < j ∧ V = (t : Int)
                  · rw [if_pos e2, if_pos ⟨by omega, e2.2⟩]
                  · rw [if_neg e2, if_neg (fun h => e2 ⟨by have : t ≠ j := fun e => hv (by rw [← e]; exact h.2)
                                                           omega, h.2⟩)])
                have RH := hRh.congr (fun t ht => show Value.int .i64 (lawHave l (wt l hosts) k t + if (t < j ∧ V = (t : Int)) ∧ 0 < y then 1 else 0) = .int .i64 (lawHave l (wt l hosts) k t + if (t < j + 1 ∧ V = (t : Int)) ∧ 0 < y then 1 else 0) by
                  by_cases e2 : (t < j ∧ V = (t : Int)) ∧ 0 < y
                  · rw [if_pos e2, if_pos ⟨⟨by omega, e2.1.2⟩, e2.2⟩]
                  · rw [if_neg e2, if_neg (fun h => e2 ⟨⟨by have : t ≠ j := fun e => hv (by rw [← e]; exact h.1.2)
                                                            omega, h.1.2⟩, h.2⟩)])
                clear hRh hRa hv HZ hz
                go_wp2
                go_roundg (q - (j + 1))
                case measure => omega
                case rel => exact ⟨j + 1, by omega, rfl, by go_num, RH, RA, hI2, hW2⟩
            · obtain rfl : j = q := by omega
              have RA := hRa.congr (fun t ht => show Value.int .i64 (lawAll l k t + if t < j ∧ V = (t : Int) then 1 else 0) = .int .i64 (lawAll l (k + 1) t) by
                rw [HSA.out]
                by_cases e2 : V = (t : Int)
                · rw [if_pos ⟨ht, e2⟩, if_pos ⟨H4.out, e2⟩]
                · rw [if_neg (fun h => e2 h.2), if_neg (fun h => e2 h.2)])
              have RH := hRh.congr (fun t ht => show Value.int .i64 (lawHave l (wt l hosts) k t + if (t < j ∧ V = (t : Int)) ∧ 0 < y then 1 else 0) = .int .i64 (lawHave l (wt l hosts) (k + 1) t) by
                rw [HSH.out]
                by_cases e2 : V = (t : Int) ∧ 0 < y
                · rw [if_pos ⟨⟨ht, e2.1⟩, e2.2⟩, if_pos ⟨⟨H4.out, e2.1⟩, e2.2⟩]
                · rw [if_neg (fun h => e2 ⟨h.1.2, h.2⟩), if_neg (fun h => e2 ⟨h.1.2, h.2⟩)])
              clear hRh hRa
              go_wp2
              go_roundg (l.length - (k + 1))
              case measure => omega
              case rel => exact ⟨k + 1, by omega, rfl, by go_num, RH, RA, hI2, hW2⟩
        · obtain ⟨kd, hkd⟩ : ∃ kd, kd = (l.getD k nd0).kind := ⟨_, rfl⟩
          rw [← hkd] at d1 h4 HSA HSH
          have g4 : (kd != 4) = true := by rw [bne_iff_ne]; exact h4
          have HSA2 := Lib.hid (show ∀ t, lawAll l (k + 1) t = lawAll l k t + if kd = 4 ∧ lev l k = (t : Int) then 1 else 0 from fun t => by rw [hkd]; exact lawAll_step l k t)
          have HSH2 := Lib.hid (show ∀ t, lawHave l (wt l hosts) (k + 1) t = lawHave l (wt l hosts) k t + if (kd = 4 ∧ lev l k = (t : Int)) ∧ 0 < wt l hosts k then 1 else 0 from fun t => by rw [hkd]; exact lawHave_step l _ k t)
          subst hAd
          clear hkd
          clear d0 d2 d3 d4 d5 d6 hNW
          go_wp2
          go_roundg (l.length - (k + 1))
          case measure => omega
          case rel => exact ⟨k + 1, by omega, rfl, by go_num, hRh.congr (fun t _ => by rw [HSH2.out, if_neg (fun h => h4 h.1.1)]; simp), hRa.congr (fun t _ => by rw [HSA2.out, if_neg (fun h => h4 h.1)]; simp), hI2, hW2⟩
      · obtain rfl : k = l.length := by omega
        have HLD := Lib.hid (show loadsI l (hs l hosts) frm f = loadL (rot (haveL l (hs l hosts)) frm) (rot (allL l) frm) f q by rw [← HQ.out]; rfl)
        have hq4 := idx_le (isK 4) l
        have hbh : ∀ t, 0 ≤ haveTo l (hs l hosts) (hoN l) t ∧ haveTo l (hs l hosts) (hoN l) t ≤ 1000000 := fun t => by
          have := haveTo_bd l (hs l hosts) (hoN l) t
          unfold hoN at *
          omega
        have hba : ∀ t, 0 ≤ allTo l (hoN l) t ∧ allTo l (hoN l) t ≤ 1000000 := fun t => by
          have := allTo_bd l (hoN l) t
          unfold hoN at *
          omega
        have hLh := row_list hRh (haveL l (hs l hosts)) (by unfold haveL; rw [rangeMap_len, HQ.out]) (fun i hi => by unfold haveL; rw [rangeMap_at _ (by rw [HQ.out]; exact hi), lawHave_all ht hosts hn1]) (counts_wf _ _ hbh) (Nat.le_refl _) (by omega) (by omega)
        have hLa := row_list hRa (allL l) (by unfold allL; rw [rangeMap_len, HQ.out]) (fun i hi => by unfold allL; rw [rangeMap_at _ (by rw [HQ.out]; exact hi), lawAll_all]) (counts_wf _ _ hba) (Nat.le_refl _) (by omega) (by omega)
        obtain ⟨LH, hLH⟩ : ∃ LH, LH = haveL l (hs l hosts) := ⟨_, rfl⟩
        obtain ⟨LA, hLA2⟩ : ∃ LA, LA = allL l := ⟨_, rfl⟩
        rw [← hLH] at hLh HLD
        rw [← hLA2] at hLa HLD
        have T1 := load_Turn _ _ _ LH frm _ hLh
        have T2 := fun v h => load_Turn (some ⟨ga, 0, none⟩) q q LA frm v h
        obtain ⟨RH, hRH⟩ : ∃ RH, RH = rot LH frm := ⟨_, rfl⟩
        obtain ⟨RA, hRA⟩ : ∃ RA, RA = rot LA frm := ⟨_, rfl⟩
        rw [← hRH] at T1 HLD
        rw [← hRA] at T2 HLD
        clear hRh hRa hI2 hLH hLA2 hRH hRA hbh hba hq4 hLh hlt
        go_wp2_with fail
        refine T1.mono ?_; rintro e w4 ⟨A1, c1, rfl, hX1, hx4⟩
        clear T1
        go_wp2_with fail
        refine (T2 _ (hLa.keep hx4)).mono ?_; rintro e w5 ⟨A2, c2, rfl, hX2, hx5⟩
        have hX3 := hX1.keep hx5
        have hW5 := below_step (below_step hW2 hx4) hx5
        clear T2 hLa hX1 hx4 hx5 hW2
        go_wp2_with fail
        refine (load_OfL A1 A2 q c1 c2 RH RA f _ hX3 hX2).mono ?_; rintro e w6 ⟨A3, c3, rfl, hX6, _, hx6⟩
        go_wp2
        go_ret
        rw [HLD.out]
        exact ⟨A3, c3, rfl, hX6, below_step hW5 hx6⟩
end Go.Proofs.Ytblbgafadadbmaa
end
section
/- WalkSteps. -/
set_option linter.unusedVariables false
namespace Go.Proofs.Ytblbgafadadbmaa
open Go.RowKit
set_option maxHeartbeats 8000000
set_option maxRecDepth 100000
theorem step_hasnot {l : List Nd} (ht : Tall l) (hosts : List Int) (hl : l.length ≤ 1024) (seed key : Int) {i : Nat} (hi : i < l.length) (hh : hs l hosts i = false) : stepI l (wt l hosts) seed key i = -1 := by
  by_cases h4 : (l.getD i nd0).kind = 4
  · refine stepL_none fun k hk => ?_
    have h1 := kid_kind ht hk
    have h2 := (tall_head ht k (mem_kids.1 hk).1).kind1
    omega
  · exact (step_has ht hosts hl seed key hi h4).2 hh
theorem walker_new' (w : World) (f seed : Int) : WW w (w.alloc (.cells #[.int .u32 0, .int .i32 0, .int .u32 0, .slice none 0 0, .int .i64 f, .int .u64 seed] 51)) w.heap.size (kw f seed) :=
  ⟨.inl (Blk.new w _ _), Nat.le_refl _, (Below.refl _ _).alloc (Nat.le_refl _) _⟩
theorem walkSteps_walk (w : World) (A : Option Addr) (n0 c : Nat) (l0 : List Nd) (hl0 : IsNodes w A n0 c l0) (Ah : Option Addr) (m0 ch : Nat) (h0 : List Int) (hh0 : IsList w .i64 Ah m0 ch h0)
    (i : Int) (i0 : -9223372036854775808 ≤ i) (i1 : i ≤ 9223372036854775807) (key : Int) (k0 : 0 ≤ key) (k1 : key < 18446744073709551616) (seed : Int) (s0 : 0 ≤ seed) (s1 : seed < 18446744073709551616) (f : Int) (f0 : -9223372036854775808 ≤ f) (f1 : f ≤ 9223372036854775807) :
    Calls Try.prog 3 #[.slice A n0 c, .slice Ah m0 ch, .int .i64 i, .int .u64 key, .int .u64 seed, .int .i64 f] w fun e w' => e = .returned (.bool true) ∧ Below w.heap.size w w' := by
  have hmd := law_Made w A n0 c l0 hl0
  have ht0 := Lib.hid (made_tall (l0.take 60))
  have hl60 : (made (l0.take 60)).length ≤ 60 := Nat.le_trans (made_len _) (by rw [List.length_take]; omega)
  generalize made (l0.take 60) = l at *
  have hFw := fun w => law23_Few Ah m0 ch hh0.cap hh0.small w
  have hH := hh0.cut (k := min m0 30) (by omega)
  generalize min m0 30 = m at *
  generalize h0.take m = hosts at *
  clear hl0 hh0
  go_enter Try.func3, Try.ntmps3
  go_wp2_with fail
  refine hmd.mono ?_; rintro e w1 ⟨b, A1, c1, rfl, hT, hN, hx1⟩
  clear hmd
  have ht := ht0.out
  go_wp2_with fail
  refine (hFw _).mono ?_; rintro e w' ⟨rfl, rfl⟩
  clear hFw
  have hH1 := hH.keep hx1
  go_wp2_with fail
  refine (elig_New hT ht Ah m ch hosts hH1).mono ?_; rintro e w2 ⟨g, gw, gs, vH, rfl, hS, hx2⟩
  have hN2 := hN.keep hx2
  have hH2 := hH1.keep hx2
  have hT2 := hT.keep hx2
  have hW2 := below_step hx1 hx2
  clear hT hN hH1 hH hx1 hx2
  go_wp2_with fail
  refine (law23_Weights hN2 hH2 ht (by omega)).mono ?_; rintro e w3 ⟨gr, rfl, hR3, hx3⟩
  have hS3 := hS.keep hx3
  have hN3 := hN2.keep hx3
  have hT3 := hT2.keep hx3
  have hW3 := below_step hW2 hx3
  clear hS hN2 hH2 hT2 hx3 hW2
  have hw4 := walker_new' w3 f seed
  have hWb : ∀ k, k < l.length → 0 ≤ wt l hosts k ∧ wt l hosts k < 18446744073709551616 := fun k hk => wt_nn ht hosts (by omega) k hk
  have hST := fun v (h : WW w3 v w3.heap.size (kw f seed)) => walk_Step hT3 hS3 hWb h s0 s1 i key k0 k1
  have hDN := fun v (h : WW w3 v w3.heap.size (kw f seed)) => walk_DownW hT3 ht hS3 h s0 s1 i key k0 k1
  have hLD := fun v (h : WW w3 v w3.heap.size (kw f seed)) => walk_Loads (hT3.keep h.bel) ht (hS3.keep h.bel) h.tab.ends.1 i
  by_cases hin : 0 ≤ i ∧ i < l.length
  · obtain ⟨j, rfl⟩ := Int.eq_ofNat_of_zero_le hin.1
    have hj : j < l.length := by omega
    have g0 : decide ((j : Int) < 0) = false := decide_eq_false (by omega)
    have g1 : decide ((l.length : Int) ≤ (j : Int)) = false := decide_eq_false (by omega)
    have hji : (j : Int) < (l.length : Int) := by omega
    have hat : atB (hs l hosts) l.length (j : Int) = hs l hosts j := by unfold atB; rw [if_pos (by omega)]; rfl
    have hlw := fun v (h : WW w3 v w3.heap.size (kw f seed)) => law26_down (hN3.keep h.bel) ht (row_keep hR3 h.bel) hWb (by omega) seed key s0 s1 k0 k1 j hj
    have hls := fun v (h : WW w3 v w3.heap.size (kw f seed)) => law26_step (hN3.keep h.bel) (row_keep hR3 h.bel) hWb (by omega) seed key s0 s1 k0 k1 j hj
    have hll := fun v (h : WW w3 v w3.heap.size (kw f seed)) => law26_loads (hN3.keep h.bel) ht (row_keep hR3 h.bel) (by omega) (j : Int) f
    rw [best_step' l (wt l hosts) (fun k hk => (hWb k hk).1) seed key j] at hls
    have hrow := fun v (h : WW w3 v w3.heap.size (kw f seed)) => (row_keep hR3 h.bel).cell hj
    have hiff := wt_iff ht hosts (by omega : l.length ≤ 1024) hj
    obtain ⟨SI, hSI⟩ : ∃ SI, SI = stepI l (wt l hosts) seed key j := ⟨_, rfl⟩
    rw [← hSI] at hls
    rw [hat, Int.toNat_natCast, ← hSI] at hST
    obtain ⟨LL, hLL⟩ : ∃ LL, LL = loadsI l (hs l hosts) (j : Int) f := ⟨_, rfl⟩
    rw [← hLL] at hll hLD
    obtain ⟨y, hy⟩ : ∃ y, y = wt l hosts j := ⟨_, rfl⟩
    rw [← hy] at hrow hiff
    have SL : ∀ {A A' : Option Addr} {c c' n : Nat} {w : World} {X : List Int}, IsList w .i64 A n c X → IsList w .i64 A' n c' X → Calls Try.prog 17 #[.slice A n c, .slice A' n c'] w fun e w' => e = .returned (.bool true) ∧ Below w.heap.size w w' := fun h h' => by
      have := law26_same h h'
      rwa [decide_eq_true rfl] at this
    clear hN3 hR3 hT3 hS3 hLL hy hWb hin
    have hlt4 := hw4.tab.lt
    cases hh : hs l hosts j with
    | true =>
      rw [hh] at hST hat hiff
      rw [if_pos rfl] at hST
      rw [downR_yes hat] at hDN
      obtain ⟨R, hR⟩ : ∃ R, R = wayI l (wt l hosts) seed key j := ⟨_, rfl⟩
      rw [← hR] at hDN hlw
      have hy0 : 0 < y := hiff.2 rfl
      have g2 : decide (0 < y) = true := decide_eq_true hy0
      have r0 := hrow _ hw4
      clear hiff hat hR hSI hh
      go_wp2_with fail
      generalize hbw : w3.heap.size = bw at *
      generalize w3.alloc (.cells #[.int .u32 0, .int .i32 0, .int .u32 0, .slice none 0 0, .int .i64 f, .int .u64 seed] 51) = w4 at *
      refine (hlw _ hw4).mono ?_; rintro e w5 ⟨AR, cR, rfl, hR5, hfR, hx5⟩
      have hw5 := hw4.keep hx5
      clear hlw r0 hw4 hx5
      go_wp2_with fail
      refine (hST _ hw5).mono ?_; rintro e w6 ⟨rfl, hw6, hm6⟩
      have hR6 := list_mod hR5 hm6 (fun _ ad e => by have := hfR ad e; show ¬ ad.block = bw; omega)
      clear hST hw5 hm6 hR5
      go_wp2_with fail
      refine (hls _ hw6).mono ?_; rintro e w7 ⟨rfl, hx7⟩
      have hw7 := hw6.keep hx7
      have hR7 := hR6.keep hx7
      clear hls hw6 hx7 hR6
      go_wp2_with fail
      refine (hDN _ hw7).mono ?_; rintro e w8 ⟨AD, cD, rfl, hD8, _, hw8, hm8⟩
      have hR8 := list_mod hR7 hm8 (fun _ ad e => by have := hfR ad e; show ¬ ad.block = bw; omega)
      clear hDN hw7 hm8 hR7
      go_wp2_with fail
      refine (SL hD8 hR8).mono ?_; rintro e w9 ⟨rfl, hx9⟩
      have hw9 := hw8.keep hx9
      clear hw8 hx9 hD8 hR8
      go_wp2_with fail
      refine (hLD _ hw9).mono ?_; rintro e w10 ⟨AL, cL, rfl, hL10, _, hx10⟩
      have hw10 := hw9.keep hx10
      clear hLD hw9 hx10
      go_wp2_with fail
      refine (hll _ hw10).mono ?_; rintro e w11 ⟨AM, cM, rfl, hM11, hx11⟩
      have hL11 := hL10.keep hx11
      have hw11 := hw10.keep hx11
      clear hll hw10 hx11 hL10
      go_wp2_with fail
      refine (SL hL11 hM11).mono ?_; rintro e w12 ⟨rfl, hx12⟩
      have hw12 := hw11.keep hx12
      have hW12 := below_step hW3 hw12.bel
      clear hw11 hx12 hL11 hM11 hw12
      go_wp2_with fail
      refine (law26_awake _).mono ?_; rintro e w13 ⟨rfl, hx13⟩
      go_wp2
      go_ret
      exact ⟨rfl, below_step hW12 hx13⟩
    | false =>
      rw [hh] at hST hat hiff
      have hSn := step_hasnot ht hosts (by omega) seed key hj hh
      rw [if_neg (by simp)] at hST
      rw [downR_no hat] at hDN
      rw [← hSI] at hSn
      have hy0 : ¬ 0 < y := fun h => by have := hiff.1 h; cases this
      have g2 : decide (0 < y) = false := decide_eq_false hy0
      have r0 := hrow _ hw4
      rw [hSn] at hls
      clear hiff hat hSI hh hSn hlw
      go_wp2_with fail
      generalize hbw : w3.heap.size = bw at *
      generalize w3.alloc (.cells #[.int .u32 0, .int .i32 0, .int .u32 0, .slice none 0 0, .int .i64 f, .int .u64 seed] 51) = w4 at *
      refine (hST _ hw4).mono ?_; rintro e w6 ⟨rfl, hw6, hm6⟩
      clear hST hw4 hm6 r0
      go_wp2_with fail
      refine (hls _ hw6).mono ?_; rintro e w7 ⟨rfl, hx7⟩
      have hw7 := hw6.keep hx7
      clear hls hw6 hx7
      go_wp2_with fail
      refine (hDN _ hw7).mono ?_; rintro e w8 ⟨AD, cD, rfl, hD8, _, hw8, hm8⟩
      clear hDN hw7 hm8
      go_wp2_with fail
      refine (SL hD8 (isList_nil _ _)).mono ?_; rintro e w9 ⟨rfl, hx9⟩
      have hw9 := hw8.keep hx9
      clear hw8 hx9 hD8
      go_wp2_with fail
      refine (hLD _ hw9).mono ?_; rintro e w10 ⟨AL, cL, rfl, hL10, _, hx10⟩
      have hw10 := hw9.keep hx10
      clear hLD hw9 hx10
      go_wp2_with fail
      refine (hll _ hw10).mono ?_; rintro e w11 ⟨AM, cM, rfl, hM11, hx11⟩
      have hL11 := hL10.keep hx11
      have hw11 := hw10.keep hx11
      clear hll hw10 hx11 hL10
      go_wp2_with fail
      refine (SL hL11 hM11).mono ?_; rintro e w12 ⟨rfl, hx12⟩
      have hw12 := hw11.keep hx12
      have hW12 := below_step hW3 hw12.bel
      clear hw11 hx12 hL11 hM11 hw12
      go_wp2_with fail
      refine (law26_awake _).mono ?_; rintro e w13 ⟨rfl, hx13⟩
      go_wp2
      go_ret
      exact ⟨rfl, below_step hW12 hx13⟩
  · have hat : atB (hs l hosts) l.length i = false := by unfold atB; rw [if_neg hin]
    rw [hat, if_neg (by simp)] at hST
    rw [downR_no hat] at hDN
    clear hN3 hR3 hT3 hS3 hWb hLD hat
    have HIN := Lib.hid hin
    clear hin
    by_cases h1 : i < 0
    · have g0 : decide (i < 0) = true := decide_eq_true h1
      go_wp2_with fail
      refine (hST _ hw4).mono ?_; rintro e w6 ⟨rfl, hw6, _⟩
      clear hST hw4
      go_wp2_with fail
      refine (hDN _ hw6).mono ?_; rintro e w8 ⟨AD, cD, rfl, hD8, _, hw8, _⟩
      have hW8 := below_step hW3 hw8.bel
      clear hDN hw6 hD8 hw8
      go_wp2_with fail
      refine (law26_awake _).mono ?_; rintro e w13 ⟨rfl, hx13⟩
      go_wp2
      go_ret
      exact ⟨rfl, below_step hW8 hx13⟩
    · have g0 : decide (i < 0) = false := decide_eq_false h1
      have h2 : (l.length : Int) ≤ i := by have := HIN.out; omega
      have g1 : decide ((l.length : Int) ≤ i) = true := decide_eq_true h2
      go_wp2_with fail
      refine (hST _ hw4).mono ?_; rintro e w6 ⟨rfl, hw6, _⟩
      clear hST hw4
      go_wp2_with fail
      refine (hDN _ hw6).mono ?_; rintro e w8 ⟨AD, cD, rfl, hD8, _, hw8, _⟩
      have hW8 := below_step hW3 hw8.bel
      clear hDN hw6 hD8 hw8
      go_wp2_with fail
      refine (law26_awake _).mono ?_; rintro e w13 ⟨rfl, hx13⟩
      go_wp2
      go_ret
      exact ⟨rfl, below_step hW8 hx13⟩
end Go.Proofs.Ytblbgafadadbmaa
end
