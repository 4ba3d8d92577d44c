/- Lemmas for the claim's proof: HlI. -/
import Derived.Test.YtcpfekhpbjkgeaaQ30
section
/- The walk of the law HealthRenames. -/
set_option linter.unusedVariables false
namespace Go.Proofs.Ytcpfekhpbjkgeaa
open Go.RowKit Go.Maps
set_option maxHeartbeats 8000000
set_option maxRecDepth 100000
/-- What stands behind the script: the one board with the law's own, and the other one. -/
structure RenSt (u w2 wr : World) (ba pb : Nat) (B : Nat) (sb s : Bd) (v : Value) (L : List Ph) (N : Nat) (r : Rul) : Prop where
  both : Both (Scene.with u w2 (bIn sb)) wr s pb v L N
  bb : s.bb = ba
  r : s.r = r
  nine : ∀ x ∈ L, x.id ≤ 9
  oth : IsBoard w2 B sb
  bel : Below u.heap.size u w2
theorem RenSt.keep {u w2 wr wx : World} {ba pb : Nat} {B : Nat} {sb s : Bd} {v : Value} {L : List Ph} {N : Nat} {r : Rul} (h : RenSt u w2 wr ba pb B sb s v L N r) (hx : Below wr.heap.size wr wx) : RenSt u w2 wx ba pb B sb s v L N r :=
  ⟨h.both.keep hx, h.bb, h.r, h.nine, h.oth, h.bel⟩
theorem healthRenames_walk (w : World) (re rt rr rf : Int) (hw : I64 re ∧ I64 rt ∧ I64 rr ∧ I64 rf) (A : Option Addr) (n c : Nat) (l : List HOp) (hl : IsRow hopShape w A n c l ∧ ∀ t ∈ l, IsHop w t)
    (Ag : Option Addr) (ng cg : Nat) (gone : List Int) (hgone : IsList w .i64 Ag ng cg gone) (more : Int) (hm0 : -9223372036854775808 ≤ more) (hm1 : more ≤ 9223372036854775807) :
    Calls Try.prog 8 #[.agg #[.int .i64 re, .int .i64 rt, .int .i64 rr, .int .i64 rf], .slice A n c, .slice Ag ng cg, .int .i64 more] w fun e w' => e = .returned (.bool true) ∧ Below w.heap.size w w' := by
  have hA := (Below.refl w.heap.size w).alloc (Nat.le_refl _) (.cells #[.int .i64 re, .int .i64 rt, .int .i64 rr, .int .i64 rf] 49)
  have PR := Blk.new w 49 #[.int .i64 re, .int .i64 rt, .int .i64 rr, .int .i64 rf]
  have CRT := fun w => law22_right ⟨re, rt, rr, rf⟩ w
  have CAW := fun w => law22_awake w
  have hq := fun m w => eql_board_nil m w
  have hcap := hl.1.cap
  have hsm := hl.1.small
  have hcapg := hgone.cap
  have hsmg := hgone.small
  have hL1 := hl.1.keep hA
  have hG1 := hgone.keep hA
  have HHOP := Lib.hid (fun t ht => (hl.2 t ht).keep hA)
  have HLEN := Lib.hid hl.1.len
  have HGLEN := Lib.hid hgone.len
  obtain ⟨iI, hiI, hzI, hzI1, hzI2⟩ := info_parts Try.infoIntH
  obtain ⟨iP, hiP, hzP, hzP1, hzP2⟩ := info_parts Try.infoPh
  clear hl hgone
  go_enter Try.func8, Try.ntmps8
  go_upto_region 1 with (fail)
  obtain ⟨rb, hrb⟩ : ∃ q, q = w.heap.size := ⟨_, rfl⟩
  rw [← hrb] at PR ⊢
  clear hrb
  generalize w.alloc (.cells #[.int .i64 re, .int .i64 rt, .int .i64 rr, .int .i64 rf] 49) = u at *
  obtain ⟨p0, p1, p2, p3, _⟩ := PR.cells4
  by_cases hR : RightR ⟨re, rt, rr, rf⟩
  · have HR := Lib.hid hR
    clear hR CRT
    have CNW := fun w => health_NewGood ⟨re, rt, rr, rf⟩ HR.out w
    go_wp2_with fail
    refine (CNW _).mono ?_
    rintro e w1 ⟨⟨ba, wb, mb, V, rfl, hB1⟩, hx1⟩
    have PR1 := PR.keep hx1
    clear PR p0 p1 p2 p3
    obtain ⟨p0, p1, p2, p3, _⟩ := PR1.cells4
    go_wp2_with fail
    refine (CNW _).mono ?_
    rintro e w2 ⟨⟨bb, wb2, mb2, V2, rfl, hB2⟩, hx2⟩
    have PR2 := PR1.keep hx2
    clear PR1 p0 p1 p2 p3 CNW
    obtain ⟨p0, p1, p2, p3, _⟩ := PR2.cells4
    have hb0 := both_new2 HR.out hB1 hx1 hB2 hx2
    have hbel := below_step hx1 hx2
    obtain ⟨sb, hsb⟩ : ∃ s, s = newBd bb wb2 mb2 V2 ⟨re, rt, rr, rf⟩ := ⟨_, rfl⟩
    have HSB := Lib.hid (show sb.bb = bb ∧ sb.l = [] ∧ sb.n = 0 ∧ (∀ i, sb.G i = none) from by rw [hsb]; exact ⟨rfl, rfl, rfl, fun _ => rfl⟩)
    rw [← hsb] at hb0 hB2
    dsimp only at hb0
    have hst : RenSt u w2 _ ba w2.heap.size w1.heap.size sb _ _ [] 0 ⟨re, rt, rr, rf⟩ := ⟨hb0, rfl, rfl, (fun x hx => by cases hx), hB2, hbel⟩
    clear hsb hb0 hB2 hbel hB1
    go_upto_region 6 with (fail)
    obtain ⟨pb, hpb⟩ : ∃ q, q = w2.heap.size := ⟨_, rfl⟩
    rw [← hpb] at hst ⊢
    clear hpb p0 p1 p2 p3 PR2
    generalize w2.alloc (.cells #[.int .i64 re, .int .i64 rt, .int .i64 rr, .int .i64 rf, .slice none 0 0, .int .i64 0] 58) = w3 at *
    generalize newBd ba wb mb V ⟨re, rt, rr, rf⟩ = s0 at *
    go_upto_region 7 with (fail)
    go_loopg [14, 15, 16, 17] n (fun gk s14 s15 s16 s17 wr => ∃ (k : Nat) (s : Bd) (v : Value) (L : List Ph), s14 = .int .i64 k ∧ k ≤ n ∧ k ≤ 100 ∧ gk = n - k ∧ RenSt u w2 wr ba pb w1.heap.size sb s v L k ⟨re, rt, rr, rf⟩)
    case atStart => exact ⟨0, s0, _, [], by go_num, Nat.zero_le _, Nat.zero_le _, rfl, hst⟩
    case round =>
      clear hst
      obtain ⟨k, s, v, L, rfl, hk, hk100, rfl, hst⟩ := hrel
      obtain ⟨D, hD⟩ : ∃ D, D = decide (k < n ∧ k < 100) := ⟨_, rfl⟩
      have HD := Lib.hid hD
      clear hD
      go_upto_region 7 with (fail)
      go_cut [65] (fun q wx => wr = wx ∧ q = .bool D)
      case first =>
        clear hst
        by_cases h1 : k < n
        · have e1 : decide ((k : Int) < (n : Int)) = true := decide_eq_true (by omega)
          by_cases h2 : k < 100
          · have e2 : decide ((k : Int) < 100) = true := decide_eq_true (by omega)
            have HR1 := Lib.hid (show D = true by rw [HD.out]; exact decide_eq_true ⟨h1, h2⟩)
            clear HD
            go_wp2_with fail
            go_meet
            exact ⟨rfl, by rw [HR1.out]⟩
          · have e2 : decide ((k : Int) < 100) = false := decide_eq_false (by omega)
            have HR1 := Lib.hid (show D = false by rw [HD.out]; exact decide_eq_false (fun h => h2 h.2))
            clear HD
            go_wp2_with fail
            go_meet
            exact ⟨rfl, by rw [HR1.out]⟩
        · have e1 : decide ((k : Int) < (n : Int)) = false := decide_eq_false (by omega)
          have HR1 := Lib.hid (show D = false by rw [HD.out]; exact decide_eq_false (fun h => h1 h.1))
          clear HD
          go_wp2_with fail
          go_meet
          exact ⟨rfl, by rw [HR1.out]⟩
      case rest =>
      obtain ⟨rfl, rfl⟩ := hcut
      cases D with
      | true =>
        obtain ⟨hkn, hk2⟩ : k < n ∧ k < 100 := of_decide_eq_true HD.out.symm
        have hkk : (k : Int) < (n : Int) := by omega
        clear HD
        have hL2 := hL1.keep hst.both.below
        obtain ⟨ad, hAd, d0, d1, d2, d3⟩ := hop_at hL2 hkn
        subst hAd
        have hH := HHOP.out _ (hop_mem (l := l) (k := k) (by rw [HLEN.out]; exact hkn))
        have hwf := hL1.wf _ (hop_mem (l := l) (k := k) (by rw [HLEN.out]; exact hkn))
        generalize l.getD k default = y at *
        obtain ⟨yk, ya, yn, yc, yi, yo, yl⟩ := y
        dsimp only at d0 d1 d2 d3
        have HID := Lib.hid hwf.2
        have HYL := Lib.hid (show IsList wr .i64 ya yn yc yl from hH.1.keep hst.both.below)
        have PO := Blk.new wr 62 #[.int .i64 yk, .slice ya yn yc, .int .i64 yi, .bool yo]
        have hA1 := (Below.refl wr.heap.size wr).alloc (Nat.le_refl _) (.cells #[.int .i64 yk, .slice ya yn yc, .int .i64 yi, .bool yo] 62)
        have HST := Lib.hid hst
        clear hL2 hH hwf hst
        go_upto_region 12 with (fail)
        obtain ⟨ob, hob⟩ : ∃ q, q = wr.heap.size := ⟨_, rfl⟩
        have HOB := Lib.hid hob
        have HYL1 := Lib.hid (HYL.out.keep hA1)
        have hyc := HYL.out.cap
        have hys := HYL.out.small
        rw [← hob] at PO ⊢
        obtain ⟨wo, hwo⟩ : ∃ wo, wo = wr := ⟨_, rfl⟩
        subst hwo
        generalize wo.alloc (.cells #[.int .i64 yk, .slice ya yn yc, .int .i64 yi, .bool yo] 62) = wx at *
        clear hob d0 d1 d2 d3 HYL
        go_loopg [16, 17] yn (fun gk s16 s17 wr => ∃ j : Nat, s17 = .int .i64 j ∧ j ≤ yn ∧ j ≤ 30 ∧ gk = yn - j ∧ wr.ownsRow wx.heap.size 3 1 s16 (nineL yl j).length ((nineL yl j).map (Value.int .i64)) ∧ Below wx.heap.size wx wr)
        case atStart => exact ⟨0, by go_num, Nat.zero_le _, Nat.zero_le _, rfl, World.ownsRow_nil _ _ _ 1, Below.refl _ _⟩
        case round =>
          obtain ⟨j, rfl, hj, hj30, rfl, hOi, hW⟩ := hrel
          obtain ⟨Ai, ci, rfl⟩ := ownK_sl hOi
          have PO1 := PO.keep hW
          obtain ⟨p0, p1, p2, p3, _⟩ := PO1.cells4
          obtain ⟨D, hD⟩ : ∃ D, D = decide (j < yn ∧ j < 30) := ⟨_, rfl⟩
          have HD := Lib.hid hD
          clear hD
          go_upto_region 12 with (fail)
          go_cut [80] (fun q wx => wr = wx ∧ q = .bool D)
          case first =>
            clear hOi
            by_cases h1 : j < yn
            · have e1 : decide ((j : Int) < (yn : Int)) = true := decide_eq_true (by omega)
              by_cases h2 : j < 30
              · have e2 : decide ((j : Int) < 30) = true := decide_eq_true (by omega)
                have HR1 := Lib.hid (show D = true by rw [HD.out]; exact decide_eq_true ⟨h1, h2⟩)
                clear HD
                go_wp2_with fail
                go_meet
                exact ⟨rfl, by rw [HR1.out]⟩
              · have e2 : decide ((j : Int) < 30) = false := decide_eq_false (by omega)
                have HR1 := Lib.hid (show D = false by rw [HD.out]; exact decide_eq_false (fun h => h2 h.2))
                clear HD
                go_wp2_with fail
                go_meet
                exact ⟨rfl, by rw [HR1.out]⟩
            · have e1 : decide ((j : Int) < (yn : Int)) = false := decide_eq_false (by omega)
              have HR1 := Lib.hid (show D = false by rw [HD.out]; exact decide_eq_false (fun h => h1 h.1))
              clear HD
              go_wp2_with fail
              go_meet
              exact ⟨rfl, by rw [HR1.out]⟩
          case rest =>
          obtain ⟨rfl, rfl⟩ := hcut
          cases D with
          | true =>
            obtain ⟨hjn, hj2⟩ : j < yn ∧ j < 30 := of_decide_eq_true HD.out.symm
            have hjj : (j : Int) < (yn : Int) := by omega
            clear HD
            obtain ⟨ay, hAy, q0, hy⟩ := listH_at (HYL1.out.keep hW) hjn
            subst hAy
            have hjl : j < yl.length := by rw [HYL1.out.len]; exact hjn
            have HY1 := Lib.hid (fun h0 h9 => nineL_yes hjl h0 h9)
            have HN1 := Lib.hid (fun hn => nineL_no hjl hn)
            have hil := nineL_le yl j
            generalize yl.getD j 0 = y at *
            clear hjl
            by_cases a1 : 0 ≤ y
            · have e3 : decide (0 ≤ y) = true := decide_eq_true a1
              have e4 : decide (y ≥ 0) = true := e3
              by_cases a2 : y ≤ 9
              · have e5 : decide (y ≤ 9) = true := decide_eq_true a2
                have HT := Lib.hid (HY1.out a1 a2)
                clear a1 a2 HY1 HN1
                have hws := hW.size
                go_wp2_with (at_builtin; go_loud (refine wpList_append_any _ rfl (.tmp 97) (.tmp 103) _ rfl wx.heap.size 3 iI _ 1 8 Try.underlying60 hiI hzI hzI1 hzI2 rfl (by decide) _ (nineL yl j).length ((nineL yl j).map (Value.int .i64)) rfl (hOi.alloc _) _ (some ⟨wr.heap.size, 0, none⟩) 1 1 [.int .i64 y] rfl (readsK_new wr 3 1 [.int .i64 y] rfl) (by intro u hu; simp at hu; subst hu; rfl) (by simp only [maxLen]; omega) (by omega) (by simp; omega) ?_; intro v6 w6 hown6 hg6 hat6))
                have hown7 : w6.ownsRow wx.heap.size 3 1 v6 (nineL yl (j + 1)).length ((nineL yl (j + 1)).map (Value.int .i64)) := by rw [HT.out, List.length_append, List.map_append]; exact hown6
                have hW6 := belowK_grown (hW.alloc hws (.cells #[.int .i64 y] 3)) (by simp; omega) hg6 (fun g hg => (hOi.lt g hg).1)
                clear hown6 hg6 hat6 hOi hW PO1 p0 p1 p2 p3 q0
                go_wp2
                go_roundg (yn - (j + 1))
                case measure => omega
                case rel => exact ⟨j + 1, by go_num, by omega, by omega, rfl, hown7, hW6⟩
              · have e5 : decide (y ≤ 9) = false := decide_eq_false a2
                have HT := Lib.hid (HN1.out (fun h => a2 h.2))
                clear a1 a2 HY1 HN1
                go_wp2_with fail
                go_roundg (yn - (j + 1))
                case measure => omega
                case rel => exact ⟨j + 1, by go_num, by omega, by omega, rfl, by rw [HT.out]; exact hOi, hW⟩
            · have e3 : decide (0 ≤ y) = false := decide_eq_false a1
              have e4 : decide (y ≥ 0) = false := e3
              have HT := Lib.hid (HN1.out (fun h => a1 h.1))
              clear a1 HY1 HN1
              go_wp2_with fail
              go_roundg (yn - (j + 1))
              case measure => omega
              case rel => exact ⟨j + 1, by go_num, by omega, by omega, rfl, by rw [HT.out]; exact hOi, hW⟩
          | false =>
            clear HD
            obtain ⟨il, hil0⟩ : ∃ il, il = nineL yl j := ⟨_, rfl⟩
            have HIL := Lib.hid (show ∀ i ∈ il, 0 ≤ i ∧ i ≤ 9 from fun i hi => by rw [hil0] at hi; exact nineL_in hi)
            have hilen := nineL_le yl j
            rw [← hil0] at hOi hilen
            rw [← hil0]
            clear hil0
            have hWo := below_step hA1 hW
            have hno := rowK_not PO1 hOi (by decide)
            have HBS := Lib.hid (show Blk (wr.setCell ⟨ob, 1, none⟩ (.slice Ai il.length ci)) ob 62 #[.int .i64 yk, .slice Ai il.length ci, .int .i64 yi, .bool yo] from PO1.setTo 1 _ rfl)
            have HWS := Lib.hid (hWo.setCell (p := ⟨ob, 1, none⟩) (by rw [HOB.out]; exact Nat.le_refl _) (.slice Ai il.length ci))
            have HOS := Lib.hid (ownK_mod hOi ((Mod.refl (fun g => g = ob) wr).setCell (p := ⟨ob, 1, none⟩) (.inl (show ob = ob from rfl)) (.slice Ai il.length ci)) (fun g hg e => hno (e ▸ hg)))
            obtain ⟨f0, f1, f2, f3⟩ := PO1.free4
            clear hno hWo
            go_upto_region 17 with (fail)
            have hBs := HBS.out
            have hWs := HWS.out
            have hOs := HOS.out
            clear HBS HWS HOS PO1 p0 p1 p2 p3 f0 f1 f2 f3 hOi hW
            generalize wr.setCell ⟨ob, 1, none⟩ (.slice Ai il.length ci) = wy at *
            obtain ⟨p0, p1, p2, p3, _⟩ := hBs.cells4
            have hst1 := HST.out.keep hWs
            have CS := law22_step hst1.both (by omega) (own_isList hOs rfl (fun x hx => by have := HIL.out x hx; unfold I64; omega) (by omega)) (fun h0 ad e => by
              have a1 := (ownK_low hOs ad e).1
              have a2 := hA1.size
              exact ⟨fun h => by have := (HST.out.both.bd.lt h).2; omega, fun h => by have := (HST.out.both.pl.lt h).2; omega⟩) yk yi HID.out yo
            rw [hst1.bb] at CS
            have HS1 := Lib.hid hst1
            clear hst1 hWs hOs hBs
            go_wp2_with fail
            refine CS.mono ?_
            rintro e w9 ⟨rfl, s', v', L', hb', hO', hid'⟩
            have hst2 : RenSt u w2 w9 ba pb w1.heap.size sb s' v' L' (k + 1) ⟨re, rt, rr, rf⟩ := ⟨hb', hO'.1.trans HS1.out.bb, hO'.2.2.2.trans HS1.out.r, fun x hx => by
              rcases hid' x.id (List.mem_map_of_mem hx) with h | h
              · obtain ⟨y, hy, e⟩ := List.mem_map.1 h
                rw [← e]; exact HS1.out.nine y hy
              · exact (HIL.out _ h).2, HS1.out.oth, HS1.out.bel⟩
            clear CS hb' hO' hid' p0 p1 p2 p3
            go_wp2_with fail
            go_roundg (n - (k + 1))
            case measure => omega
            case rel => exact ⟨k + 1, s', v', L', by go_num, by omega, by omega, rfl, hst2⟩
      | false =>
        clear HD
        have HST := Lib.hid hst
        have HBW := Lib.hid (Nat.le_trans hst.both.below.size (Nat.le_refl _))
        obtain ⟨wo, hwo⟩ : ∃ wo, wo = wr := ⟨_, rfl⟩
        subst hwo
        have hmm := @run_makeMap Try.prog
        have hA1 := (Below.refl wo.heap.size wo).alloc (Nat.le_refl _) (.map #[] 0)
        have hM1 := IMap.made Try.prog 3 .i64 wo
        have hG2 := list_below hG1 hst.both.below (fun h0 ad e => by
          obtain ⟨ad', e', hb, _⟩ := hG1.reads.2 (by omega)
          rw [e] at e'; cases e'; exact hb)
        have HG2 := Lib.hid hG2
        obtain ⟨M, hM⟩ : ∃ M, M = L.length := ⟨_, rfl⟩
        have HM := Lib.hid hM
        have hf40 := hst.both.few
        rw [← hM] at hf40
        clear hst hM hG2 hL1
        go_upto_region 20 with (fail)
        obtain ⟨tb, htb⟩ : ∃ q, q = wo.heap.size := ⟨_, rfl⟩
        have HTB := Lib.hid htb
        rw [← htb] at hM1 ⊢
        have htw : tb < (wo.alloc (.map #[] 0)).heap.size := by rw [htb]; simp
        clear htb
        generalize wo.alloc (.map #[] 0) = wm at *
        have hM0 : IMap Try.prog 3 .i64 wm tb 0 (fun i => (renF (staysL gone L 0) i).map (Value.int .i64)) := by
          have e : (fun i => (renF (staysL gone L 0) i).map (Value.int .i64)) = fun _ => none := by funext i; unfold staysL renF; simp
          rw [e]; exact hM1
        clear hM1
        go_upto_region 22 with (fail)
        go_loopg [19, 20, 21, 22, 23] M (fun gk s19 s20 s21 s22 s23 wr => ∃ (i : Nat) (Q : List Ph), s20 = .int .i64 i ∧ i ≤ M ∧ gk = M - i ∧ Hid (Q = (staysL gone L i).map shiftP) ∧ IMap Try.prog 3 .i64 wr tb i (fun j => (renF (staysL gone L i) j).map (Value.int .i64)) ∧ wr.ownsRow wo.heap.size 77 6 s19 Q.length (phShape.flat Q) ∧ Below wo.heap.size wo wr)
        case atStart => exact ⟨0, [], by go_num, Nat.zero_le _, rfl, Lib.hid (by unfold staysL; simp), hM0, World.ownsRow_nil _ _ _ 6, hA1⟩
        case round =>
          clear hM0
          obtain ⟨i, Q, rfl, hi, rfl, HQL, hMp, hOl, hW⟩ := hrel
          obtain ⟨Al, cl, rfl⟩ := ownK_sl hOl
          have hst := HST.out.keep hW
          obtain ⟨Av, cv, hv⟩ := ownK_sl hst.both.pl.row
          rw [← HM.out] at hv
          subst hv
          obtain ⟨c0, c1, c2, c3, c4, c5, _⟩ := hst.both.pl.blk.cells6
          by_cases hiM : i < M
          · have hii : (i : Int) < (M : Int) := by omega
            have hiL : i < L.length := by rw [← HM.out]; exact hiM
            obtain ⟨wq, hwq⟩ : ∃ wq, wq = wr := ⟨_, rfl⟩
            subst hwq
            have HS1 := Lib.hid hst
            have HMP := Lib.hid hMp
            have HOL := Lib.hid hOl
            have HWW := Lib.hid hW
            have HSTEP := Lib.hid (staysL_step (gone := gone) hiL)
            have HHP := Lib.hid (fun (w' : World) (hx : Below wq.heap.size wq w') => (hst.both.pl.keep hx).at_ hiL)
            obtain ⟨x, hx⟩ : ∃ x, x = L.getD i default := ⟨_, rfl⟩
            have HXI := Lib.hid (show 0 ≤ x.id ∧ x.id ≤ 9 from by rw [hx]; exact ⟨(hst.both.sim.ok _ (getD_mem hiL)).id0, hst.nine _ (getD_mem hiL)⟩)
            rw [← hx] at HSTEP HHP
            clear hx hiL hst hMp hOl hW
            go_upto_region 26 with (fail)
            go_loopg [21, 22] ng (fun gk s21 s22 wr => ∃ j : Nat, s22 = .int .i64 j ∧ s21 = .bool ((gone.take j).contains x.id) ∧ j ≤ ng ∧ j ≤ 30 ∧ gk = ng - j ∧ Below wq.heap.size wq wr)
            case atStart => exact ⟨0, by go_num, by simp, Nat.zero_le _, Nat.zero_le _, rfl, Below.refl _ _⟩
            case round =>
              obtain ⟨j, rfl, rfl, hj, hj30, rfl, hW⟩ := hrel
              obtain ⟨D, hD⟩ : ∃ D, D = decide (j < ng ∧ j < 30) := ⟨_, rfl⟩
              have HD := Lib.hid hD
              clear hD
              go_upto_region 26 with (fail)
              go_cut [129] (fun q wx => wr = wx ∧ q = .bool D)
              case first =>
                by_cases h1 : j < ng
                · have e1 : decide ((j : Int) < (ng : Int)) = true := decide_eq_true (by omega)
                  by_cases h2 : j < 30
                  · have e2 : decide ((j : Int) < 30) = true := decide_eq_true (by omega)
                    have HR1 := Lib.hid (show D = true by rw [HD.out]; exact decide_eq_true ⟨h1, h2⟩)
                    clear HD
                    go_wp2_with fail
                    go_meet
                    exact ⟨rfl, by rw [HR1.out]⟩
                  · have e2 : decide ((j : Int) < 30) = false := decide_eq_false (by omega)
                    have HR1 := Lib.hid (show D = false by rw [HD.out]; exact decide_eq_false (fun h => h2 h.2))
                    clear HD
                    go_wp2_with fail
                    go_meet
                    exact ⟨rfl, by rw [HR1.out]⟩
                · have e1 : decide ((j : Int) < (ng : Int)) = false := decide_eq_false (by omega)
                  have HR1 := Lib.hid (show D = false by rw [HD.out]; exact decide_eq_false (fun h => h1 h.1))
                  clear HD
                  go_wp2_with fail
                  go_meet
                  exact ⟨rfl, by rw [HR1.out]⟩
              case rest =>
              obtain ⟨rfl, rfl⟩ := hcut
              obtain ⟨g, n2, cc, hv, hnn, _, _, _, _, hat⟩ := HHP.out _ hW
              cases hv
              clear hnn
              cases D with
              | true =>
                obtain ⟨hjn, hj2⟩ : j < ng ∧ j < 30 := of_decide_eq_true HD.out.symm
                have hjj : (j : Int) < (ng : Int) := by omega
                clear HD
                obtain ⟨ag, hAg, q0, hy⟩ := listH_at (HG2.out.keep (below_step HWW.out hW)) hjn
                subst hAg
                have HT := Lib.hid (show (gone.take (j + 1)).contains x.id = ((gone.take j).contains x.id || (gone.getD j 0 == x.id)) from by
                  rw [takeI_next (by rw [HGLEN.out]; exact hjn), contains_snoc])
                have hcp := (HS1.out.keep hW).both.pl.blk.cells6
                obtain ⟨c0, c1, c2, c3, c4, c5, _⟩ := hcp
                have d3 := hat 3 _ rfl
                generalize gone.getD j 0 = y at *
                have U0 := cell_under c4
                have U1 := cell_under d3
                have U2 := cell_under q0
                obtain ⟨O, hO⟩ : ∃ O, O = (gone.take j).contains x.id := ⟨_, rfl⟩
                rw [← hO] at HT ⊢
                clear hO hat c0 c1 c2 c3 c4 c5 d3 q0
                go_upto_region 28 with (fail)
                cases O with
                | true =>
                  have HT2 := Lib.hid (show (gone.take (j + 1)).contains x.id = true from by rw [HT.out]; rfl)
                  refine wp_region_quiet_under (by kernel_rfl) (by kernel_rfl) ?_
                  repeat (go_big_quiet_step ((fail)))
                  refine wpQuiet_nil ?_
                  intro wu hw'
                  obtain ⟨pq, hw''⟩ := hw'
                  have hU := below_eq hw''
                  clear hw'' pq
                  have hW2 := below_step hW hU
                  clear hW hU U0 U1 U2 HT
                  go_wp2_with fail
                  go_roundg (ng - (j + 1))
                  case measure => omega
                  case rel => exact ⟨j + 1, by go_num, by rw [HT2.out], by omega, by omega, rfl, hW2⟩
                | false =>
                  by_cases hxy : y = x.id
                  · have e3 : (y == x.id) = true := by simp [hxy]
                    have HT2 := Lib.hid (show (gone.take (j + 1)).contains x.id = true from by rw [HT.out, e3]; rfl)
                    clear hxy
                    refine wp_region_quiet_under (by kernel_rfl) (by kernel_rfl) ?_
                    repeat (go_big_quiet_step ((fail)))
                    refine wpQuiet_nil ?_
                    intro wu hw'
                    obtain ⟨pq, hw''⟩ := hw'
                    have hU := below_eq hw''
                    clear hw'' pq
                    have hW2 := below_step hW hU
                    clear hW hU U0 U1 U2 HT
                    go_wp2_with fail
                    go_roundg (ng - (j + 1))
                    case measure => omega
                    case rel => exact ⟨j + 1, by go_num, by rw [HT2.out], by omega, by omega, rfl, hW2⟩
                  · have e3 : (y == x.id) = false := by simp [hxy]
                    have HT2 := Lib.hid (show (gone.take (j + 1)).contains x.id = false from by rw [HT.out, e3]; rfl)
                    clear hxy
                    refine wp_region_quiet_under (by kernel_rfl) (by kernel_rfl) ?_
                    repeat (go_big_quiet_step ((fail)))
                    refine wpQuiet_nil ?_
                    intro wu hw'
                    obtain ⟨pq, hw''⟩ := hw'
                    have hU := below_eq hw''
                    clear hw'' pq
                    have hW2 := below_step hW hU
                    clear hW hU U0 U1 U2 HT
                    go_wp2_with fail
                    go_roundg (ng - (j + 1))
                    case measure => omega
                    case rel => exact ⟨j + 1, by go_num, by rw [HT2.out], by omega, by omega, rfl, hW2⟩
              | false =>
                have HO := Lib.hid (show staysP gone x = !((gone.take j).contains x.id) from by
                  have h0 : ¬ (j < ng ∧ j < 30) := of_decide_eq_false HD.out.symm
                  unfold staysP
                  by_cases h1 : j = 30
                  · rw [h1]
                  · have h2 : j = ng := by omega
                    rw [List.take_of_length_le (by rw [HGLEN.out]; omega), List.take_of_length_le (by rw [HGLEN.out]; omega)])
                obtain ⟨O, hO⟩ : ∃ O, O = (gone.take j).contains x.id := ⟨_, rfl⟩
                rw [← hO] at HO ⊢
                have hMp := HMP.out.keep hW
                have hOl := ownK_keep HOL.out hW
                have hWo := below_step HWW.out hW
                clear hO HD
                cases O with
                | true =>
                  have HL2 := Lib.hid (show staysL gone L (i + 1) = staysL gone L i from by rw [HSTEP.out, HO.out]; rfl)
                  clear hat HO
                  go_wp2_with fail
                  go_roundg (M - (i + 1))
                  case measure => omega
                  case rel => exact ⟨i + 1, Q, by go_num, by omega, rfl, Lib.hid (by rw [HL2.out]; exact HQL.out), by rw [HL2.out]; exact hMp.mono (Nat.le_succ i), hOl, hWo⟩
                | false =>
                  have HL2 := Lib.hid (show staysL gone L (i + 1) = staysL gone L i ++ [x] from by rw [HSTEP.out, HO.out]; rfl)
                  have hcp := (HS1.out.keep hW).both.pl.blk.cells6
                  obtain ⟨c0, c1, c2, c3, c4, c5, _⟩ := hcp
                  have d0 : wr.cell? ⟨g, i * 6, none⟩ = _ := hat 0 _ rfl
                  have d1 := hat 1 _ rfl
                  have d2 := hat 2 _ rfl
                  have d3 := hat 3 _ rfl
                  have d4 := hat 4 _ rfl
                  have d5 := hat 5 _ rfl
                  have PX := Blk.new wr 77 #[.bool x.up, .bool x.asked, .int .i64 x.row, .int .i64 x.id, .int .i64 x.next, .int .i64 x.last]
                  have hA2 := (Below.refl wr.heap.size wr).alloc (Nat.le_refl _) (.cells #[.bool x.up, .bool x.asked, .int .i64 x.row, .int .i64 x.id, .int .i64 x.next, .int .i64 x.last] 77)
                  have hMp2 := hMp.keep hA2
                  have hOl2 := ownK_keep hOl hA2
                  have hWo2 := below_step hWo hA2
                  go_upto_region 31 with (fail)
                  obtain ⟨xb, hxb⟩ : ∃ q, q = wr.heap.size := ⟨_, rfl⟩
                  have HXB := Lib.hid (show wo.heap.size ≤ xb from by rw [hxb]; exact hWo.size)
                  have HXO := Lib.hid (show ∀ q, (Value.slice Al Q.length cl).ownBlock = some q → q ≠ xb from fun q hq e => by have := own_lt hOl hq; omega)
                  rw [← hxb] at PX ⊢
                  clear hat d0 d1 d2 d3 d4 d5 c0 c1 c2 c3 c4 c5 HO hxb hMp hOl hWo hA2 hW
                  generalize wr.alloc (.cells #[.bool x.up, .bool x.asked, .int .i64 x.row, .int .i64 x.id, .int .i64 x.next, .int .i64 x.last] 77) = wb at *
                  obtain ⟨x0, x1, x2, x3, x4, x5, _⟩ := PX.cells6
                  have hxi := HXI.out
                  have hwa : IntKind.i64.wrap (x.id + 20) = x.id + 20 := IntWalk.i64_in _ (by omega)
                  have hwl : (Lit.int .i64 x.id).wf = true := WalkArith.wf_i64 (by omega)
                  have him : i < maxLen := by unfold maxLen; omega
                  clear hxi
                  go_upto_region 32 with (at_mapUpdate; go_loud (refine wpList_put_i _ rfl _ _ _ 75 rfl 3 3 .i64 Try.underlying3 Try.underlying75 tb i _ rfl hMp2 him x.id (.int .i64 (x.id + 20)) rfl rfl hwl ?_; intro w6 hMap6 hturn6))
                  have hMo := turned_mod hturn6
                  have PX6 := PX.mod hMo (fun e => map_notcells hMp2 PX e.symm)
                  have hOl6 := ownK_mod hOl2 hMo (fun q hq e => own_imap_ne hMp2 hOl2 (by rw [← e]; exact hq.symm))
                  have hWo6 := below_mod hWo2 hMo (fun q e => by rw [e, HTB.out]; exact Nat.le_refl _)
                  have hMp6 : IMap Try.prog 3 .i64 w6 tb (i + 1) (fun j => (renF (staysL gone L (i + 1)) j).map (Value.int .i64)) := by rw [HL2.out, renF_snoc]; exact hMap6
                  clear hMo hMap6 hturn6 hMp2 hOl2 hWo2 PX x0 x1 x2 x3 x4 x5
                  obtain ⟨x0, x1, x2, x3, x4, x5, _⟩ := PX6.cells6
                  obtain ⟨f0, f1, f2, f3, f4, f5⟩ := PX6.free6
                  have hMx : Mod (fun q => q = xb) w6 (w6.setCell ⟨xb, 3, none⟩ (.int .i64 (x.id + 20))) := (Mod.refl (fun q => q = xb) w6).setCell (p := ⟨xb, 3, none⟩) (.inl (show xb = xb from rfl)) _
                  have HP7 := Lib.hid (show Blk (w6.setCell ⟨xb, 3, none⟩ (.int .i64 (x.id + 20))) xb 77 #[.bool x.up, .bool x.asked, .int .i64 x.row, .int .i64 (x.id + 20), .int .i64 x.next, .int .i64 x.last] from PX6.setTo 3 _ rfl)
                  have HO7 := Lib.hid (ownK_mod hOl6 hMx (fun q hq e => HXO.out q hq e))
                  have HW7 := Lib.hid (below_mod hWo6 hMx (fun q e => by rw [e]; exact HXB.out))
                  have HM7 := Lib.hid (hMp6.same (hMx.block tb hMp6.lt (fun e => map_notcells hMp6 PX6 e)))
                  clear hMx
                  go_upto_region 33 with (fail)
                  have hP7 := HP7.out
                  have hO7 := HO7.out
                  have hW7 := HW7.out
                  have hM7 := HM7.out
                  clear HP7 HO7 HW7 HM7 hMp6 hOl6 hWo6 PX6 x0 x1 x2 x3 x4 x5 f0 f1 f2 f3 f4 f5
                  generalize w6.setCell ⟨xb, 3, none⟩ (.int .i64 (x.id + 20)) = w7 at *
                  obtain ⟨x0, x1, x2, x3, x4, x5, _⟩ := hP7.cells6
                  have hws := hW7.size
                  have hll := staysL_le gone L i
                  rw [← HM.out] at hll
                  have hll2 : Q.length ≤ 40 := by rw [HQL.out, List.length_map]; omega
                  go_wp2_with (at_builtin; go_loud (refine wpList_append_any _ rfl (.tmp 167) (.tmp 169) _ rfl wo.heap.size 77 iP _ 6 40 Try.underlying56 hiP hzP hzP1 hzP2 rfl (by decide) _ Q.length (phShape.flat Q) rfl (hO7.alloc _) _ (some ⟨w7.heap.size, 0, none⟩) 1 1 [.bool x.up, .bool x.asked, .int .i64 x.row, .int .i64 (x.id + 20), .int .i64 x.next, .int .i64 x.last] rfl (readsK_new w7 77 6 [.bool x.up, .bool x.asked, .int .i64 x.row, .int .i64 (x.id + 20), .int .i64 x.next, .int .i64 x.last] rfl) (by intro u hu; simp at hu; rcases hu with rfl | rfl | rfl | rfl | rfl | rfl <;> rfl) (by simp only [maxLen]; omega) (by omega) (by simp; omega) ?_; intro v8 w8 hown8 hg8 hat8))
                  have HQ2 := Lib.hid (show Q ++ [shiftP x] = (staysL gone L (i + 1)).map shiftP from by rw [HL2.out, List.map_append, HQL.out]; rfl)
                  have hown9 : w8.ownsRow wo.heap.size 77 6 v8 (Q ++ [shiftP x]).length (phShape.flat (Q ++ [shiftP x])) := by
                    rw [List.length_append, phShape.flat_snoc]; exact hown8
                  have hM8 := (hM7.keep ((Below.refl w7.heap.size w7).alloc (Nat.le_refl _) (.cells #[.bool x.up, .bool x.asked, .int .i64 x.row, .int .i64 (x.id + 20), .int .i64 x.next, .int .i64 x.last] 77))).grown hg8 (fun e => own_imap_ne hM7 hO7 e)
                  have hW8 := belowK_grown (hW7.alloc hws (.cells #[.bool x.up, .bool x.asked, .int .i64 x.row, .int .i64 (x.id + 20), .int .i64 x.next, .int .i64 x.last] 77)) (by simp; omega) hg8 (fun q hq => (hO7.lt q hq).1)
                  clear hown8 hg8 hat8 hM7 hO7 hW7 hP7 x0 x1 x2 x3 x4 x5
                  go_wp2_with fail
                  go_roundg (M - (i + 1))
                  case measure => omega
                  case rel => exact ⟨i + 1, Q ++ [shiftP x], by go_num, by omega, rfl, HQ2, hM8, hown9, hW8⟩
          · obtain rfl : i = M := by omega
            have hge : ¬ (i : Int) < (i : Int) := by omega
            have heF : staysL gone L i = L.filter (staysP gone) := by rw [HM.out]; exact staysL_end _ _
            rw [heF] at hMp HQL
            have HOKL := Lib.hid (show ∀ a b, renF (L.filter (staysP gone)) a = some b → okId b from fun a b hab => by
              obtain ⟨x, hx, e1, e2⟩ := (renF_iff _ _ _).1 hab
              have hx1 := (List.mem_filter.1 hx).1
              have := (hst.both.sim.ok x hx1).id0
              have := hst.nine x hx1
              unfold okId; omega)
            have hsi := sim_items hst.both.sim
            have hsn := hst.both.n
            have hnow := hst.both.now
            have hnw0 := hst.both.bd.wh.n0
            have CR := board_Rename hst.both.bd (tv := .map (some tb)) (f := renF (L.filter (staysP gone))) (.inr ⟨tb, i, rfl, hMp⟩) HOKL.out (fun a b k ha hb => by
              obtain ⟨_, _, _, e1⟩ := (renF_iff _ _ _).1 ha
              obtain ⟨_, _, _, e2⟩ := (renF_iff _ _ _).1 hb
              omega) (by have := HM.out; omega) (by omega)
            rw [hst.bb] at CR
            have HS1 := Lib.hid hst
            clear hst HOKL hMp heF
            go_wp2_with fail
            refine CR.mono ?_
            rintro e w6 ⟨rfl, s6, hT6, hbb6, hr6, hn6, hm6, hl6, hG6⟩
            have hA6 := HS1.out.both.toA.board hT6
            have hOl6 := ownK_mod hOl hT6.2.1 (fun g hg => own_notbd HS1.out.both.bd hOl (by decide) (by decide) (by decide) (by decide) hg)
            have hS6 := sim_rename HS1.out.both.sim (c := staysP gone) (f := renF (L.filter (staysP gone))) (fun a b => by
              rw [renF_iff]
              constructor
              · rintro ⟨x, hx, h1, h2⟩; exact ⟨x, (List.mem_filter.1 hx).1, (List.mem_filter.1 hx).2, h1, h2⟩
              · rintro ⟨x, hx, h0, h1, h2⟩; exact ⟨x, List.mem_filter.2 ⟨hx, h0⟩, h1, h2⟩) HS1.out.nine HS1.out.both.rt hnw0 (by omega) hn6 hr6 hl6 hG6
            rw [← HQL.out] at hS6
            have hB6 := other_is HS1.out.oth HS1.out.bel hA6.below hA6.oth
            have hQ40 : Q.length ≤ 40 := by rw [HQL.out, List.length_map]; exact Nat.le_trans (List.length_filter_le _ _) HS1.out.both.few
            obtain ⟨c0, c1, c2, c3, c4, c5, _⟩ := hA6.pl.blk.cells6
            obtain ⟨f0, f1, f2, f3, f4, f5⟩ := hA6.pl.blk.free6
            have hOlu : w6.ownsRow u.heap.size 77 6 (.slice Al Q.length cl) Q.length (phShape.flat Q) := ownK_base hOl6 HBW.out
            have hno := rowK_not hA6.pl.blk hOlu (by decide)
            have HB7 := Lib.hid (show Both (Scene.with u w2 (bIn sb)) (w6.setCell ⟨pb, 4, none⟩ (.slice Al Q.length cl)) s6 pb (.slice Al Q.length cl) Q k from
              hA6.plain3 ⟨by rw [hn6, hr6]; exact hA6.pl.blk.setTo 4 _ rfl, hA6.pl.low, ownK_mod hOlu ((Mod.refl (fun g => g = pb) w6).setCell (p := ⟨pb, 4, none⟩) (.inl (show pb = pb from rfl)) _) (fun g hg e => hno (e ▸ hg))⟩
                ((Mod.refl _ w6).setCell (p := ⟨pb, 4, none⟩) (.inl (show pIn pb (.slice Av i cv) pb from .inl rfl)) _)
                (fun g hg => by
                  rcases hg with rfl | hg
                  · exact .inl (.inl rfl)
                  · exact .inr ⟨own_notbd hA6.bd hOlu (by decide) (by decide) (by decide) (by decide) hg, own_notbd hB6 hOlu (by decide) (by decide) (by decide) (by decide) hg⟩)
                hS6 (by rw [hr6]; exact HS1.out.both.rt) hQ40 (by rw [hn6]; exact hnow) (by rw [hm6]; exact hsn))
            have hb6 : s6.bb = ba := hbb6.trans HS1.out.bb
            clear CR hT6 hA6 hOl6 hOlu hS6 hB6 hno hOl hl6 hG6 hbb6
            go_upto_region 36 with (fail)
            have hb7 := HB7.out
            clear HB7 c0 c1 c2 c3 c4 c5 f0 f1 f2 f3 f4 f5
            generalize w6.setCell ⟨pb, 4, none⟩ (.slice Al Q.length cl) = w7 at *
            have hB7 := other_is HS1.out.oth HS1.out.bel hb7.below hb7.oth
            have CR := board_Rename hB7 (tv := .map none) (f := fun _ => none) (.inl ⟨rfl, fun _ => rfl⟩) (fun _ _ h => by cases h) (fun _ _ _ h => by cases h) (by rw [HSB.out.2.1]; simp) (by rw [HSB.out.2.2.1]; omega)
            rw [HSB.out.1] at CR
            have HBB7 := Lib.hid hB7
            clear hB7
            go_wp2_with fail
            refine CR.mono ?_
            rintro e w8 ⟨rfl, s8, hT8, hbb8, hr8, hn8, hm8, hl8, hG8⟩
            have hb8 := both_other hb7 HBB7.out hx1.size hT8
            have HB8 := Lib.hid hT8.1
            have HS8 := Lib.hid (show s8.bb = bb ∧ s8.n = 0 ∧ ∀ i, s8.G i = none from ⟨hbb8.trans HSB.out.1, hm8.trans HSB.out.2.2.1, fun i => by
              cases hh : s8.G i with
              | none => rfl
              | some h =>
                obtain ⟨_, h1, _⟩ := (hG8 i h).1 hh
                cases h1⟩)
            have HBE8 := Lib.hid hb8.below
            clear CR hT8 hbb8 hr8 hn8 hm8 hl8 hG8 hb7
            have hbel8 : Below u.heap.size u w8 := HBE8.out
            obtain ⟨wp, hwp⟩ : ∃ wp, wp = wr := ⟨_, rfl⟩
            subst hwp
            go_upto_region 38 with (fail)
            go_loopg [24] 31 (fun gk s24 wr => ∃ (j : Nat) (s9 : Bd) (v9 : Value) (L9 : List Ph), s24 = .int .i64 j ∧ j ≤ 30 ∧ gk = 31 - j ∧ Both (Scene.with u w8 (bIn s8)) wr s9 pb v9 L9 (k + j) ∧ s9.bb = ba)
            case atStart => exact ⟨0, s6, _, Q, by go_num, by omega, rfl, hb8, hb6⟩
            case round =>
              clear hb8 hb6
              obtain ⟨j, s9, v9, L9, rfl, hj, rfl, hb, hbb⟩ := hrel
              obtain ⟨D, hD⟩ : ∃ D, D = decide ((j : Int) < more ∧ j < 30) := ⟨_, rfl⟩
              have HD := Lib.hid hD
              clear hD
              go_upto_region 38 with (fail)
              go_cut [186] (fun q wx => wr = wx ∧ q = .bool D)
              case first =>
                clear hb
                by_cases h1 : (j : Int) < more
                · have e1 : decide ((j : Int) < more) = true := decide_eq_true h1
                  by_cases h2 : j < 30
                  · have e2 : decide ((j : Int) < 30) = true := decide_eq_true (by omega)
                    have HR1 := Lib.hid (show D = true by rw [HD.out]; exact decide_eq_true ⟨h1, h2⟩)
                    clear HD
                    go_wp2_with fail
                    go_meet
                    exact ⟨rfl, by rw [HR1.out]⟩
                  · have e2 : decide ((j : Int) < 30) = false := decide_eq_false (by omega)
                    have HR1 := Lib.hid (show D = false by rw [HD.out]; exact decide_eq_false (fun h => h2 h.2))
                    clear HD
                    go_wp2_with fail
                    go_meet
                    exact ⟨rfl, by rw [HR1.out]⟩
                · have e1 : decide ((j : Int) < more) = false := decide_eq_false h1
                  have HR1 := Lib.hid (show D = false by rw [HD.out]; exact decide_eq_false (fun h => h1 h.1))
                  clear HD
                  go_wp2_with fail
                  go_meet
                  exact ⟨rfl, by rw [HR1.out]⟩
              case rest =>
              obtain ⟨rfl, rfl⟩ := hcut
              have CM := law22_same hb (by omega)
              rw [hbb] at CM
              cases D with
              | true =>
                have hj2 : j < 30 := (of_decide_eq_true HD.out.symm).2
                clear HD
                go_wp2_with fail
                refine CM.mono ?_
                rintro e w9 ⟨rfl, hx9⟩
                have hb9 := hb.keep hx9
                have CT := law22_ticks hb9 (by omega)
                rw [hbb] at CT
                clear CM hb hx9
                go_wp2_with fail
                refine CT.mono ?_
                rintro e w10 ⟨rfl, s10, hb10, hO10, _⟩
                have hbb10 : s10.bb = ba := hO10.1.trans hbb
                have hb11 : Both (Scene.with u w8 (bIn s8)) w10 s10 pb v9 _ (k + (j + 1)) := hb10
                clear CT hb9 hb10 hO10 hbb
                go_wp2_with fail
                go_roundg (31 - (j + 1))
                case measure => omega
                case rel => exact ⟨j + 1, s10, v9, _, by go_num, by omega, rfl, hb11, hbb10⟩
              | false =>
                clear HD
                go_wp2_with fail
                refine CM.mono ?_
                rintro e w9 ⟨rfl, hx9⟩
                have hb9 := hb.keep hx9
                have hB9 := other_is HB8.out hbel8 hb9.below hb9.oth
                have CI := board_Ids hB9 (by rw [HS8.out.2.1]; omega)
                rw [HS8.out.1] at CI
                have hW9 : Below w.heap.size w w9 := below_step hA hb9.below
                clear CM hb hx9 hb9 hB9
                go_wp2_with fail
                refine CI.mono ?_
                rintro e w10 ⟨⟨vk, K, rfl, hK, hOk⟩, hx10⟩
                have hk0 := nobody_ids hK HS8.out.2.2
                rw [hk0] at hOk
                obtain ⟨Ak, ck, rfl⟩ := ownK_sl hOk
                have hW10 := below_step hW9 hx10
                clear CI hOk hK hk0 hx10 hW9
                go_wp2_with fail
                refine (CAW _).mono ?_; rintro e w11 ⟨rfl, hx11⟩
                have hW11 := below_step hW10 hx11
                clear hx11 hW10
                go_wp2_with fail
                go_ret
                exact ⟨rfl, hW11⟩
  · rw [rightB_f hR] at CRT
    have CNW := fun w => health_NewBad ⟨re, rt, rr, rf⟩ hR w
    clear hR
    go_wp2_with fail
    refine (CNW _).mono ?_
    rintro e w1 ⟨rfl, hx1⟩
    have PR1 := PR.keep hx1
    have hW1 := below_step hA hx1
    clear PR p0 p1 p2 p3 hx1 hA
    obtain ⟨p0, p1, p2, p3, _⟩ := PR1.cells4
    go_wp2_with fail
    refine (CNW _).mono ?_
    rintro e w2 ⟨rfl, hx2⟩
    have PR2 := PR1.keep hx2
    have hW2 := below_step hW1 hx2
    clear PR1 p0 p1 p2 p3 hx2 hW1 CNW
    obtain ⟨p0, p1, p2, p3, _⟩ := PR2.cells4
    go_wp2_with fail
    refine (CRT _).mono ?_; rintro e w3 ⟨rfl, hx3⟩
    have hW3 := below_step hW2 hx3
    clear PR2 p0 p1 p2 p3 hx3 hW2 CRT
    go_wp2_with fail
    refine (CAW _).mono ?_; rintro e w4 ⟨rfl, hx4⟩
    have hW4 := below_step hW3 hx4
    clear hx4 hW3
    go_wp2_with fail
    go_ret
    exact ⟨rfl, hW4⟩
end Go.Proofs.Ytcpfekhpbjkgeaa
end
