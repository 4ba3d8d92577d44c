/- Lemmas for the claim's proof: WalkS. -/
import Derived.Deep.DeepCutAuto
import Derived.Deep.CutBlock
import Derived.Test.YtblbgafadadbmaaQ25
import Derived.Test.YtblbgafadadbmaaQ29
section
/- DiffFixed. -/
set_option linter.unusedVariables false
namespace Go.Proofs.Ytblbgafadadbmaa
open Go.RowKit
set_option maxHeartbeats 8000000
set_option maxRecDepth 100000
theorem diffFixed_walk (w : World) (A : Option Addr) (n0 c : Nat) (l0 : List Nd) (hl0 : IsNodes w A n0 c l0) (Ah : Option Addr) (m0 ch : Nat) (h0 : List Int) (hh0 : IsList w .i64 Ah m0 ch h0)
    (host : Int) (i0 : -9223372036854775808 ≤ host) (i1 : host ≤ 9223372036854775807) (wg : Int) (g0 : -9223372036854775808 ≤ wg) (g1 : wg ≤ 9223372036854775807) (lv : Int) (lv0 : -9223372036854775808 ≤ lv) (lv1 : lv ≤ 9223372036854775807) (frm : Int) (f0 : 0 ≤ frm) (f1 : frm < 18446744073709551616) :
    Calls Try.prog 7 #[.slice A n0 c, .slice Ah m0 ch, .int .i64 host, .int .i64 wg, .int .i64 lv, .int .u64 frm] w fun e w' => e = .returned (.bool true) ∧ Below w.heap.size w w' := by
  have hmd := law_Made w A n0 c l0 hl0
  have ht0 := Lib.hid (made_tall (l0.take 60))
  have hl60 : (made (l0.take 60)).length ≤ 60 := Nat.le_trans (made_len _) (by rw [List.length_take]; omega)
  generalize made (l0.take 60) = l at *
  have hFw := fun w => law23_Few Ah m0 ch hh0.cap hh0.small w
  have hH := hh0.cut (k := min m0 30) (by omega)
  generalize min m0 30 = m at *
  generalize h0.take m = hosts at *
  clear hl0 hh0
  go_enter Try.func7, Try.ntmps7
  go_wp2_with fail
  refine hmd.mono ?_; rintro e w1 ⟨b, A1, c1, rfl, hT, hN, hx1⟩
  clear hmd
  have ht := ht0.out
  go_wp2_with fail
  refine (hFw _).mono ?_; rintro e w' ⟨rfl, rfl⟩
  clear hFw
  have hH1 := hH.keep hx1
  go_wp2_with fail
  refine (elig_New hT ht Ah m ch hosts hH1).mono ?_; rintro e w2 ⟨g, gw, gs, vH, rfl, hS, hx2⟩
  have hN2 := hN.keep hx2
  have hH2 := hH1.keep hx2
  have hT2 := hT.keep hx2
  have hW2 := below_step hx1 hx2
  clear hT hN hH1 hH hx1 hx2
  have hcap := hN2.cap
  have hsm := hN2.small
  by_cases hin : 0 ≤ host ∧ host < l.length
  · obtain ⟨j, rfl⟩ := Int.eq_ofNat_of_zero_le hin.1
    have hj : j < l.length := by omega
    have hji : (j : Int) < (l.length : Int) := by omega
    have q0 : decide (0 ≤ (j : Int)) = true := decide_eq_true (by omega)
    have q1 : decide ((j : Int) < (l.length : Int)) = true := decide_eq_true (by omega)
    have HF := Lib.hid (show fixedS l (j : Int) = fixF l 4 (l.getD j nd0).above by unfold fixedS fixedI; rw [if_pos hin, ndAt_nat])
    obtain ⟨ad, rfl, _, _, _, d2, _⟩ := hN2.at_ hj
    obtain ⟨z0, hz0⟩ : ∃ z, z = (l.getD j nd0).above := ⟨_, rfl⟩
    rw [← hz0] at d2 HF
    clear hz0 hin
    go_upto_block 0 with (fail)
    go_cut [16, 17, 18] (fun s16 s17 s18 wx => w2 = wx ∧ s16 = .bool (fixedS l (j : Int)))
    case first =>
      go_wp2_with fail
      go_loopg [16, 17, 18] 4 (fun gk s16 s17 s18 wr => ∃ (z : Int) (k : Nat) (acc : Bool), k ≤ 4 ∧ gk = 4 - k ∧ s16 = .bool acc ∧ s17 = .int .i64 z ∧ s18 = .int .i64 k ∧ Hid (fixedS l (j : Int) = (acc && fixF l (4 - k) z)) ∧ w2 = wr)
      case atStart => exact ⟨z0, 0, true, by omega, rfl, rfl, rfl, rfl, Lib.hid (by rw [HF.out]; rfl), rfl⟩
      case round =>
        clear d2 HF
        obtain ⟨z, k, acc, hk, rfl, rfl, rfl, rfl, HZ, rfl⟩ := hrel
        by_cases hk4 : k < 4
        · have q2 : decide ((k : Int) < 4) = true := decide_eq_true (by omega)
          by_cases hz0 : 0 ≤ z
          · have q3 : decide (0 ≤ z) = true := decide_eq_true hz0
            by_cases hz1 : z < l.length
            · have q4 : decide (z < (l.length : Int)) = true := decide_eq_true hz1
              obtain ⟨a, rfl⟩ := Int.eq_ofNat_of_zero_le hz0
              have ha : a < l.length := by omega
              have hai : (a : Int) < (l.length : Int) := by omega
              obtain ⟨ad', e', _, _, e1, e2, e3, _⟩ := hN2.at_ ha
              injection e' with e'
              subst e'
              obtain ⟨f, hf⟩ : ∃ f, 4 - k = f + 1 := ⟨3 - k, by omega⟩
              have hf2 : 4 - (k + 1) = f := by omega
              rw [hf, fix_in l f ha, ← hf2] at HZ
              generalize l.getD a nd0 = y at *
              clear hf hf2 hz0 hz1
              cases acc with
              | false =>
                have HE := Lib.hid (show fixedS l (j : Int) = (false && fixF l (4 - (k + 1)) y.above) by rw [HZ.out]; rfl)
                clear HZ
                go_wp2
                go_roundg (4 - (k + 1))
                case measure => omega
                case rel => exact ⟨y.above, k + 1, false, by omega, rfl, rfl, rfl, by go_num, HE, rfl⟩
              | true =>
                by_cases hk1 : y.kind = 1
                · have q5 : (y.kind == 1) = true := by rw [beq_iff_eq]; exact hk1
                  have HE := Lib.hid (show fixedS l (j : Int) = (true && fixF l (4 - (k + 1)) y.above) by rw [HZ.out, q5]; rfl)
                  clear HZ
                  go_wp2
                  go_roundg (4 - (k + 1))
                  case measure => omega
                  case rel => exact ⟨y.above, k + 1, true, by omega, rfl, rfl, rfl, by go_num, HE, rfl⟩
                · have q5 : (y.kind == 1) = false := by rw [beq_eq_false_iff_ne]; exact hk1
                  obtain ⟨B, hB⟩ : ∃ B, B = decide (0 < y.weight) := ⟨_, rfl⟩
                  have HE := Lib.hid (show fixedS l (j : Int) = (B && fixF l (4 - (k + 1)) y.above) by rw [HZ.out, q5, hB]; rfl)
                  have q6 : decide (0 < y.weight) = B := hB.symm
                  clear HZ hB
                  cases B with
                  | true =>
                    have q7 : 0 < y.weight := of_decide_eq_true q6
                    go_wp2
                    go_roundg (4 - (k + 1))
                    case measure => omega
                    case rel => exact ⟨y.above, k + 1, true, by omega, rfl, rfl, rfl, by go_num, HE, rfl⟩
                  | false =>
                    have q7 : ¬ 0 < y.weight := of_decide_eq_false q6
                    go_wp2
                    go_roundg (4 - (k + 1))
                    case measure => omega
                    case rel => exact ⟨y.above, k + 1, false, by omega, rfl, rfl, rfl, by go_num, HE, rfl⟩
            · have q4 : decide (z < (l.length : Int)) = false := decide_eq_false hz1
              have HE := Lib.hid (show fixedS l (j : Int) = acc by rw [HZ.out, fix_out l _ (by omega), Bool.and_true])
              clear HZ
              go_wp2_with fail
              go_meet
              exact ⟨rfl, by rw [HE.out]⟩
          · have q3 : decide (0 ≤ z) = false := decide_eq_false hz0
            have HE := Lib.hid (show fixedS l (j : Int) = acc by rw [HZ.out, fix_out l _ (by omega), Bool.and_true])
            clear HZ
            go_wp2_with fail
            go_meet
            exact ⟨rfl, by rw [HE.out]⟩
        · have q2 : decide ((k : Int) < 4) = false := decide_eq_false (by omega)
          have HE := Lib.hid (show fixedS l (j : Int) = acc by rw [HZ.out, show 4 - k = 0 by omega]; simp [fixF])
          clear HZ
          go_wp2_with fail
          go_meet
          exact ⟨rfl, by rw [HE.out]⟩
    case rest =>
      obtain ⟨rfl, rfl⟩ := hcut
      have hFx := diff_Fixed hT2 ht hS (j : Int)
      have HFI := Lib.hid (show fixedS l (j : Int) = fixedI l (j : Int) by unfold fixedS; rw [if_pos (by omega)])
      obtain ⟨B, hB⟩ : ∃ B, B = fixedS l (j : Int) := ⟨_, rfl⟩
      rw [← hB] at hFx HFI
      rw [← hB]
      clear hB HF q0 q1
      cases B with
      | false =>
        go_wp2_with fail
        refine hFx.mono ?_; rintro e w3 ⟨rfl, hx3⟩
        have hW3 := below_step hW2 hx3
        go_wp2_with fail
        refine (law43_awake _).mono ?_; rintro e w9 ⟨rfl, hx9⟩
        go_wp2
        go_ret
        exact ⟨rfl, below_step hW3 hx9⟩
      | true =>
        go_wp2_with fail
        refine hFx.mono ?_; rintro e w3 ⟨rfl, hx3⟩
        have hW3 := below_step hW2 hx3
        have hN3 := hN2.keep hx3
        have hT3 := hT2.keep hx3
        have hS3 := hS.keep hx3
        have hH3 := hH2.keep hx3
        clear hN2 hT2 hS hH2 hx3 hFx hW2
        obtain ⟨ad', e', hbk, d0, d1, d2, d3, d4, d5, d6⟩ := hN3.at_ hj
        injection e' with e'
        subst e'
        have hWt := set_Weight hS3 (j : Int)
        have ew : atI (wt l hosts) l.length (j : Int) = wt l hosts j := by unfold atI; rw [if_pos (by omega)]; rfl
        rw [ew] at hWt
        have hpos := wt_iff ht hosts (by omega : l.length ≤ 1024) hj
        have hynn := (wt_nn ht hosts (by omega : l.length ≤ 1024) j hj).1
        obtain ⟨y, hy⟩ : ∃ y, y = wt l hosts j := ⟨_, rfl⟩
        rw [← hy] at hWt hpos hynn
        have HPH := Lib.hid (show ∀ h4 : (l.getD j nd0).kind = 4, hs l hosts j = pk l hosts j from fun h4 => hs_host ht hosts hj h4)
        obtain ⟨x, hx⟩ : ∃ x, x = l.getD j nd0 := ⟨_, rfl⟩
        have HXE := Lib.hid hx
        rw [← hx] at d0 d1 d2 d3 d4 d5 d6
        clear hy ew hx
        by_cases h4 : x.kind = 4
        · have p1 : (x.kind != 4) = false := by rw [bne_eq_false_iff_eq]; exact h4
          by_cases hy0 : y = 0
          · have p2 : (y == 0) = true := by rw [beq_iff_eq]; exact hy0
            clear h4 hpos hynn
            go_wp2_with fail
            refine hWt.mono ?_; rintro e w' ⟨rfl, rfl⟩
            go_wp2_with fail
            refine (law43_awake _).mono ?_; rintro e w9 ⟨rfl, hx9⟩
            go_wp2
            go_ret
            exact ⟨rfl, below_step hW3 hx9⟩
          · have p2 : (y == 0) = false := by rw [beq_eq_false_iff_ne]; exact hy0
            by_cases hw1 : wg < 1
            · have p3 : decide (wg < 1) = true := decide_eq_true hw1
              clear h4 hpos hynn
              go_wp2_with fail
              refine hWt.mono ?_; rintro e w' ⟨rfl, rfl⟩
              go_wp2_with fail
              refine (law43_awake _).mono ?_; rintro e w9 ⟨rfl, hx9⟩
              go_wp2
              go_ret
              exact ⟨rfl, below_step hW3 hx9⟩
            · have p3 : decide (wg < 1) = false := decide_eq_false hw1
              by_cases hw2 : 65535 < wg
              · have p4 : decide (65535 < wg) = true := decide_eq_true hw2
                clear h4 hpos hynn
                go_wp2_with fail
                refine hWt.mono ?_; rintro e w' ⟨rfl, rfl⟩
                go_wp2_with fail
                refine (law43_awake _).mono ?_; rintro e w9 ⟨rfl, hx9⟩
                go_wp2
                go_ret
                exact ⟨rfl, below_step hW3 hx9⟩
              · have p4 : decide (65535 < wg) = false := decide_eq_false hw2
                by_cases hw3 : wg = x.weight
                · have p5 : (wg == x.weight) = true := by rw [beq_iff_eq]; exact hw3
                  clear h4 hpos hynn hw3
                  go_wp2_with fail
                  refine hWt.mono ?_; rintro e w' ⟨rfl, rfl⟩
                  go_wp2_with fail
                  refine (law43_awake _).mono ?_; rintro e w9 ⟨rfl, hx9⟩
                  go_wp2
                  go_ret
                  exact ⟨rfl, below_step hW3 hx9⟩
                · have p5 : (wg == x.weight) = false := by rw [beq_eq_false_iff_ne]; exact hw3
                  have HW3 := Lib.hid hw3
                  have H4 := Lib.hid h4
                  have HY := Lib.hid (hpos.1 (by omega))
                  clear h4 hpos hynn hw3
                  go_wp2_with fail
                  refine hWt.mono ?_; rintro e w' ⟨rfl, rfl⟩
                  clear hWt
                  have hown0 := World.ownsRow_lit (base := w3.heap.size) (e := 64) (size := 7) w3 #[] 0 (Nat.le_refl _) (by decide) rfl
                  have hBA : Below w3.heap.size w3 (w3.alloc (.cells #[] 64)) := (Below.refl _ _).alloc (Nat.le_refl _) _
                  have hNA := hN3.keep hBA
                  have hszA : w3.heap.size ≤ (w3.alloc (.cells #[] 64)).heap.size := by simp
                  obtain ⟨iN, hiN, hzN, hzN1, hzN2⟩ := info_parts Try.infoNode
                  have hwfl := hN3.wf
                  go_wp2_with (at_builtin; go_loud (refine wpList_append_any _ rfl (.tmp 124) (.tmp 125) _ rfl w3.heap.size 64 iN _ 7 64 Try.underlying22 hiN hzN hzN1 hzN2 rfl (by omega) (.slice (some ⟨w3.heap.size, 0, none⟩) 0 0) 0 [] rfl hown0 _ (some ad) l.length c1 (flat l) rfl hNA.reads (flat_one l) (by simp only [maxLen]; omega) (by omega) hszA ?_; intro v6 w6 hown6 hg6 hat6; rw [Nat.zero_add, List.nil_append] at hown6; obtain ⟨gm, cap, rfl, hgb, hglt⟩ := hown6.form (by omega); have ff0 := hown6.frozenAt (j * 7); have ff1 := hown6.frozenAt (j * 7 + 1); have ff2 := hown6.frozenAt (j * 7 + 2); have ff3 := hown6.frozenAt (j * 7 + 3); have ff4 := hown6.frozenAt (j * 7 + 4); have ff5 := hown6.frozenAt (j * 7 + 5); have ff6 := hown6.frozenAt (j * 7 + 6); have hgn : ¬ gm = w6.heap.size := (by omega); have hgn2 : ¬ w6.heap.size = gm := (by omega); obtain ⟨A6, c6, e6, N6, _⟩ := own_nodes hown6 hwfl (by omega); injection e6 with e7 _ e8; subst e7 e8; have B6 := hBA.grown hg6 hszA (fun k hk => by simp [Value.ownBlock] at hk; omega); obtain ⟨ad9, e9, _, m0, m1, m2, m3, m4, m5, m6⟩ := N6.at_ hj; have e10 := Option.some.inj e9; rw [← e10] at m0 m1 m2 m3 m4 m5 m6; clear e9 e10; rw [zero_add_off] at m0 m1 m2 m3 m4 m5 m6; rw [← HXE.out] at m0 m1 m2 m3 m4 m5 m6; clear hat6 hg6 d0 d1 d2 d3 d4 d5 d6))
                  have h4j : (l.getD j nd0).kind = 4 := by rw [← HXE.out]; exact H4.out
                  have hPJ : pk l hosts j = true := by rw [← HPH.out h4j]; exact HY.out
                  have hwp : 0 < (l.getD j nd0).weight := (pk_host hPJ).2.1
                  have tM := weigh_tall (z := wg) ht hj h4j (by omega) (by omega)
                  have lM := weigh_len l j wg
                  have em : made ((weigh l j wg).take 60) = weigh l j wg := by rw [List.take_of_length_le (by rw [lM]; exact hl60), made_id tM]
                  have N7 := N6.write (z := wg) hj (by omega) (by omega)
                  have B7 : Below w3.heap.size w3 (seven w6 gm (j * 7) { l.getD j nd0 with weight := wg }) := below_seven B6 hgb _ _
                  rw [← HXE.out] at N7 B7
                  obtain ⟨ob, hob⟩ : ∃ ob, ob = Obj.cells #[.string x.name, .int .i64 x.kind, .int .i64 x.above, .int .i64 wg, .bool x.six, .int .u64 x.hi, .int .u64 x.lo] 64 := ⟨_, rfl⟩
                  have N8 := N7.keep ((Below.refl _ _).alloc (Nat.le_refl _) ob)
                  have B8 := B7.alloc B7.size ob
                  obtain ⟨w8, hw8⟩ : ∃ w8, w8 = (seven w6 gm (j * 7) { x with weight := wg }).alloc ob := ⟨_, rfl⟩
                  rw [← hw8] at N8 B8
                  rw [hob] at hw8
                  have hmd := law_Made w8 _ _ _ _ N8
                  rw [em] at hmd
                  have HFX := Lib.hid (fixed_weigh ht wg hj)
                  have HUP := Lib.hid (fun (h : (l.getD j nd0).weight < wg) => hv_up ht hj h4j hwp h (by omega) (by omega : l.length ≤ 1024))
                  have HDN := Lib.hid (fun (h : wg < (l.getD j nd0).weight) => hv_down (z := wg) ht hj h4j (by omega) h (by omega) (by omega : l.length ≤ 1024))
                  obtain ⟨M, hM⟩ : ∃ M, M = weigh l j wg := ⟨_, rfl⟩
                  rw [← hM] at hmd tM lM HFX HUP HDN
                  clear m0 m1 m2 m3 m4 m5 m6 ff0 ff1 ff2 ff3 ff4 ff5 ff6 hown6 N6 N7 N8 B6 B7 hgb hglt hgn hgn2 hown0 hBA hNA hszA hwfl em hob
                  change Calls Try.prog _ _ ((seven w6 gm (j * 7) { x with weight := wg }).alloc (.cells #[.string x.name, .int .i64 x.kind, .int .i64 x.above, .int .i64 wg, .bool x.six, .int .u64 x.hi, .int .u64 x.lo] 64)) _
                  rw [← hw8]
                  clear hw8
                  refine hmd.mono ?_; rintro e w9 ⟨b2, A2, c2, rfl, hT9, _, hx9⟩
                  have B9 := below_step B8 hx9
                  clear hmd B8 hx9
                  go_wp2_with fail
                  refine (elig_New hT9 tM Ah m ch hosts (hH3.keep B9)).mono ?_; rintro e w10 ⟨g2, gw2, gs2, vH2, rfl, hS10, hx10⟩
                  have B10 := below_step B9 hx10
                  have hTu := hT9.keep hx10
                  have hTt := hT3.keep B10
                  have hSt := hS3.keep B10
                  have hNt := hN3.keep B10
                  have hW10 := below_step hW3 B10
                  clear hT9 hx10 B9 B10 hT3 hS3 hN3 hH3 hW3
                  have hw11 := walker_new w10 140 3
                  obtain ⟨xx, hxx⟩ : ∃ xx : Nat → Int, xx = fun k => hostI l (wt l hosts) (hs l hosts) lv 140 3 (keyI frm k) := ⟨_, rfl⟩
                  obtain ⟨yy, hyy⟩ : ∃ yy : Nat → Int, yy = fun k => hostI M (wt M hosts) (hs M hosts) lv 140 3 (keyI frm k) := ⟨_, rfl⟩
                  have hx' : ∀ k, xx k = hostI l (wt l hosts) (hs l hosts) lv 140 3 (keyI frm k) := fun k => by rw [hxx]
                  have hy' : ∀ k, yy k = hostI M (wt M hosts) (hs M hosts) lv 140 3 (keyI frm k) := fun k => by rw [hyy]
                  have K30 := fun v (h : WW w10 v w10.heap.size (kw 140 3)) => diff_Keys hTt ht hSt hTu tM hS10 h (by omega) (by omega) lv (j : Int) frm 30 f0 f1 30 (by decide) xx yy hx' hy'
                  have HTO := Lib.hid (fun (h : (l.getD j nd0).weight < wg) => cnt_to (x := xx) (y := yy) (host := (j : Int)) (fun k hne => by
                    rw [hx', hy'] at hne ⊢
                    exact (HUP.out h).hosts_ hosts lv 140 3 (keyI frm k) HFI.out.symm hne) 30)
                  have HFR := Lib.hid (fun (h : wg < (l.getD j nd0).weight) => cnt_from (x := xx) (y := yy) (host := (j : Int)) (fun k hne => by
                    rw [hx', hy'] at hne ⊢
                    exact (HDN.out h).hosts_ hosts lv 140 3 (keyI frm k) (by rw [HFX.out]; exact HFI.out.symm) (fun e => hne e.symm)) 30)
                  obtain ⟨C1, hC1⟩ : ∃ C1, C1 = cntT (otherP xx yy) 30 := ⟨_, rfl⟩
                  obtain ⟨C2, hC2⟩ : ∃ C2, C2 = cntT (toP xx yy (j : Int)) 30 := ⟨_, rfl⟩
                  obtain ⟨C3, hC3⟩ : ∃ C3, C3 = cntT (fromP xx yy (j : Int)) 30 := ⟨_, rfl⟩
                  rw [← hC1, ← hC2, ← hC3] at K30
                  rw [← hC1, ← hC2, ← hC3] at HTO HFR
                  clear hxx hyy hx' hy' hC1 hC2 hC3 hTu hTt hSt hS10
                  go_wp2_with fail
                  generalize hbw : w10.heap.size = bw at *
                  generalize w10.alloc (.cells #[.int .u32 0, .int .i32 0, .int .u32 0, .slice none 0 0, .int .i64 140, .int .u64 3] 51) = w11 at *
                  refine (K30 _ hw11).mono ?_; rintro e w12 ⟨rfl, hw12, _⟩
                  have hb12 : Below w10.heap.size w10 w12 := hw12.bel
                  have hN12 := hNt.keep hb12
                  obtain ⟨ad5, e5, _, _, _, _, v3, _⟩ := hN12.at_ hj
                  have e6 := Option.some.inj e5
                  rw [← e6] at v3
                  rw [← HXE.out] at v3 HTO HFR
                  have v4 := cell_alloc v3 (.cells #[.int .i64 30, .int .i64 C1, .int .i64 C2, .int .i64 C3] 76)
                  have hW12 := below_step hW10 hb12
                  have hW13 := hW12.alloc hW12.size (.cells #[.int .i64 30, .int .i64 C1, .int .i64 C2, .int .i64 C3] 76)
                  have Q13 := Blk.new w12 76 #[.int .i64 30, .int .i64 C1, .int .i64 C2, .int .i64 C3]
                  obtain ⟨q0', q1', q2', q3', _⟩ := Q13.cells4
                  clear K30 hw11 hw12 hb12 hN12 e5 e6 hNt Q13 v3 hW12
                  by_cases hup : x.weight < wg
                  · have p6 : decide (x.weight < wg) = true := decide_eq_true hup
                    obtain ⟨k1, k2⟩ := HTO.out hup
                    have p7 : (C1 == C2) = true := by rw [beq_iff_eq]; exact k1
                    have p8 : (C3 == 0) = true := by rw [beq_iff_eq]; exact k2
                    clear k1 k2
                    go_wp2_with fail
                    refine (law43_awake _).mono ?_; rintro e w14 ⟨rfl, hx14⟩
                    go_wp2
                    go_ret
                    exact ⟨rfl, below_step hW13 hx14⟩
                  · have p6 : decide (x.weight < wg) = false := decide_eq_false hup
                    obtain ⟨k1, k2⟩ := HFR.out (by have := HW3.out; omega)
                    have p7 : (C1 == C3) = true := by rw [beq_iff_eq]; exact k1
                    have p8 : (C2 == 0) = true := by rw [beq_iff_eq]; exact k2
                    clear k1 k2
                    go_wp2_with fail
                    refine (law43_awake _).mono ?_; rintro e w14 ⟨rfl, hx14⟩
                    go_wp2
                    go_ret
                    exact ⟨rfl, below_step hW13 hx14⟩
        · have p1 : (x.kind != 4) = true := by rw [bne_iff_ne]; exact h4
          clear hWt hpos hynn
          go_wp2_with fail
          refine (law43_awake _).mono ?_; rintro e w9 ⟨rfl, hx9⟩
          go_wp2
          go_ret
          exact ⟨rfl, below_step hW3 hx9⟩
  · have HF := Lib.hid (show fixedS l host = false by unfold fixedS; rw [if_neg hin])
    have hFx := diff_Fixed hT2 ht hS host
    rw [HF.out] at hFx
    by_cases h1 : 0 ≤ host
    · have q0 : decide (0 ≤ host) = true := decide_eq_true h1
      have q1 : decide (host < (l.length : Int)) = false := decide_eq_false (by omega)
      clear hin
      go_wp2_with fail
      refine hFx.mono ?_; rintro e w3 ⟨rfl, hx3⟩
      go_wp2_with fail
      refine (law43_awake _).mono ?_; rintro e w4 ⟨rfl, hx4⟩
      go_wp2
      go_ret
      exact ⟨rfl, below_step (below_step hW2 hx3) hx4⟩
    · have q0 : decide (0 ≤ host) = false := decide_eq_false h1
      clear hin
      go_wp2_with fail
      refine hFx.mono ?_; rintro e w3 ⟨rfl, hx3⟩
      go_wp2_with fail
      refine (law43_awake _).mono ?_; rintro e w4 ⟨rfl, hx4⟩
      go_wp2
      go_ret
      exact ⟨rfl, below_step (below_step hW2 hx3) hx4⟩
end Go.Proofs.Ytblbgafadadbmaa
end
