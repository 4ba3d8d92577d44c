/- Lemmas for the claim's proof: WalkV. -/
import Derived.Deep.RegionWith
import Derived.Deep.DeepCutAuto
import Derived.Test.YtblbgafadadbmaaQ25
import Derived.Test.YtblbgafadadbmaaQ26
import Derived.Test.YtblbgafadadbmaaQ29
import Derived.Test.YtblbgafadadbmaaQ31
section
/- WalkMoves. -/
set_option linter.unusedVariables false
namespace Go.Proofs.Ytblbgafadadbmaa
open Go.RowKit
set_option maxHeartbeats 8000000
set_option maxRecDepth 100000
theorem walkMoves_walk (w : World) (A : Option Addr) (n0 c : Nat) (l0 : List Nd) (hl0 : IsNodes w A n0 c l0) (Ah : Option Addr) (m0 ch : Nat) (h0 : List Int) (hh0 : IsList w .i64 Ah m0 ch h0)
    (host : Int) (i0 : -9223372036854775808 ≤ host) (i1 : host ≤ 9223372036854775807) (wg : Int) (g0 : -9223372036854775808 ≤ wg) (g1 : wg ≤ 9223372036854775807) (key : Int) (k0 : 0 ≤ key) (k1 : key < 18446744073709551616) :
    Calls Try.prog 4 #[.slice A n0 c, .slice Ah m0 ch, .int .i64 host, .int .i64 wg, .int .u64 key] w fun e w' => e = .returned (.bool true) ∧ Below w.heap.size w w' := by
  have hmd := law_Made w A n0 c l0 hl0
  have ht0 := Lib.hid (made_tall (l0.take 60))
  have hl60 : (made (l0.take 60)).length ≤ 60 := Nat.le_trans (made_len _) (by rw [List.length_take]; omega)
  generalize made (l0.take 60) = l at *
  have hFw := fun w => law23_Few Ah m0 ch hh0.cap hh0.small w
  have hH := hh0.cut (k := min m0 30) (by omega)
  generalize min m0 30 = m at *
  generalize h0.take m = hosts at *
  clear hl0 hh0
  go_enter Try.func4, Try.ntmps4
  go_wp2_with fail
  refine hmd.mono ?_; rintro e w1 ⟨b, A1, c1, rfl, hT, hN, hx1⟩
  clear hmd
  have ht := ht0.out
  go_wp2_with fail
  refine (hFw _).mono ?_; rintro e w' ⟨rfl, rfl⟩
  clear hFw
  have hH1 := hH.keep hx1
  go_wp2_with fail
  refine (elig_New hT ht Ah m ch hosts hH1).mono ?_; rintro e w2 ⟨g, gw, gs, vH, rfl, hS, hx2⟩
  have hN2 := hN.keep hx2
  have hH2 := hH1.keep hx2
  have hT2 := hT.keep hx2
  have hW2 := below_step hx1 hx2
  clear hT hN hH1 hH hx1 hx2
  have hcap := hN2.cap
  have hsm := hN2.small
  by_cases hin : 0 ≤ host ∧ host < l.length
  · obtain ⟨j, rfl⟩ := Int.eq_ofNat_of_zero_le hin.1
    have hj : j < l.length := by omega
    have hji : (j : Int) < (l.length : Int) := by omega
    have q0 : decide ((j : Int) < 0) = false := decide_eq_false (by omega)
    have q1 : decide ((l.length : Int) ≤ (j : Int)) = false := decide_eq_false (by omega)
    clear hin
    obtain ⟨w3, rfl⟩ : ∃ w3, w3 = w2 := ⟨_, rfl⟩
    obtain ⟨hN3, hT3, hS3, hH3, hW3⟩ := And.intro hN2 (And.intro hT2 (And.intro hS (And.intro hH2 hW2)))
    clear hN2 hT2 hS hH2 hW2
    obtain ⟨ad, e', hbk, d0, d1, d2, d3, d4, d5, d6⟩ := hN3.at_ hj
    subst e'
    have hWt := set_Weight hS3 (j : Int)
    have ew : atI (wt l hosts) l.length (j : Int) = wt l hosts j := by unfold atI; rw [if_pos (by omega)]; rfl
    rw [ew] at hWt
    have hpos := wt_iff ht hosts (by omega : l.length ≤ 1024) hj
    have hynn := (wt_nn ht hosts (by omega : l.length ≤ 1024) j hj).1
    obtain ⟨y, hy⟩ : ∃ y, y = wt l hosts j := ⟨_, rfl⟩
    rw [← hy] at hWt hpos hynn
    have HPH := Lib.hid (show ∀ h4 : (l.getD j nd0).kind = 4, hs l hosts j = pk l hosts j from fun h4 => hs_host ht hosts hj h4)
    obtain ⟨x, hx⟩ : ∃ x, x = l.getD j nd0 := ⟨_, rfl⟩
    have HXE := Lib.hid hx
    rw [← hx] at d0 d1 d2 d3 d4 d5 d6
    clear hy ew hx
    by_cases h4 : x.kind = 4
    · have p1 : (x.kind != 4) = false := by rw [bne_eq_false_iff_eq]; exact h4
      by_cases hy0 : y = 0
      · have p2 : (y == 0) = true := by rw [beq_iff_eq]; exact hy0
        clear h4 hpos hynn
        go_wp2_with fail
        refine hWt.mono ?_; rintro e w' ⟨rfl, rfl⟩
        go_wp2_with fail
        refine (law26_awake _).mono ?_; rintro e w9 ⟨rfl, hx9⟩
        go_wp2
        go_ret
        exact ⟨rfl, below_step hW3 hx9⟩
      · have p2 : (y == 0) = false := by rw [beq_eq_false_iff_ne]; exact hy0
        by_cases hw1 : wg < 1
        · have p3 : decide (wg < 1) = true := decide_eq_true hw1
          clear h4 hpos hynn
          go_wp2_with fail
          refine hWt.mono ?_; rintro e w' ⟨rfl, rfl⟩
          go_wp2_with fail
          refine (law26_awake _).mono ?_; rintro e w9 ⟨rfl, hx9⟩
          go_wp2
          go_ret
          exact ⟨rfl, below_step hW3 hx9⟩
        · have p3 : decide (wg < 1) = false := decide_eq_false hw1
          by_cases hw2 : 65535 < wg
          · have p4 : decide (65535 < wg) = true := decide_eq_true hw2
            clear h4 hpos hynn
            go_wp2_with fail
            refine hWt.mono ?_; rintro e w' ⟨rfl, rfl⟩
            go_wp2_with fail
            refine (law26_awake _).mono ?_; rintro e w9 ⟨rfl, hx9⟩
            go_wp2
            go_ret
            exact ⟨rfl, below_step hW3 hx9⟩
          · have p4 : decide (65535 < wg) = false := decide_eq_false hw2
            by_cases hw3 : wg = x.weight
            · have p5 : (wg == x.weight) = true := by rw [beq_iff_eq]; exact hw3
              clear h4 hpos hynn hw3
              go_wp2_with fail
              refine hWt.mono ?_; rintro e w' ⟨rfl, rfl⟩
              go_wp2_with fail
              refine (law26_awake _).mono ?_; rintro e w9 ⟨rfl, hx9⟩
              go_wp2
              go_ret
              exact ⟨rfl, below_step hW3 hx9⟩
            · have p5 : (wg == x.weight) = false := by rw [beq_eq_false_iff_ne]; exact hw3
              have HW3 := Lib.hid hw3
              have H4 := Lib.hid h4
              have HY := Lib.hid (hpos.1 (by omega))
              clear h4 hpos hynn hw3
              go_wp2_with fail
              refine hWt.mono ?_; rintro e w' ⟨rfl, rfl⟩
              clear hWt
              have hown0 := World.ownsRow_lit (base := w3.heap.size) (e := 64) (size := 7) w3 #[] 0 (Nat.le_refl _) (by decide) rfl
              have hBA : Below w3.heap.size w3 (w3.alloc (.cells #[] 64)) := (Below.refl _ _).alloc (Nat.le_refl _) _
              have hNA := hN3.keep hBA
              have hszA : w3.heap.size ≤ (w3.alloc (.cells #[] 64)).heap.size := by simp
              obtain ⟨iN, hiN, hzN, hzN1, hzN2⟩ := info_parts Try.infoNode
              have hwfl := hN3.wf
              go_wp2_with (at_builtin; go_loud (refine wpList_append_any _ rfl (.tmp 78) (.tmp 79) _ rfl w3.heap.size 64 iN _ 7 64 Try.underlying22 hiN hzN hzN1 hzN2 rfl (by omega) (.slice (some ⟨w3.heap.size, 0, none⟩) 0 0) 0 [] rfl hown0 _ (some ad) l.length c1 (flat l) rfl hNA.reads (flat_one l) (by simp only [maxLen]; omega) (by omega) hszA ?_; intro v6 w6 hown6 hg6 hat6; rw [Nat.zero_add, List.nil_append] at hown6; obtain ⟨gm, cap, rfl, hgb, hglt⟩ := hown6.form (by omega); have ff0 := hown6.frozenAt (j * 7); have ff1 := hown6.frozenAt (j * 7 + 1); have ff2 := hown6.frozenAt (j * 7 + 2); have ff3 := hown6.frozenAt (j * 7 + 3); have ff4 := hown6.frozenAt (j * 7 + 4); have ff5 := hown6.frozenAt (j * 7 + 5); have ff6 := hown6.frozenAt (j * 7 + 6); have hgn : ¬ gm = w6.heap.size := (by omega); have hgn2 : ¬ w6.heap.size = gm := (by omega); obtain ⟨A6, c6, e6, N6, _⟩ := own_nodes hown6 hwfl (by omega); injection e6 with e7 _ e8; subst e7 e8; have B6 := hBA.grown hg6 hszA (fun k hk => by simp [Value.ownBlock] at hk; omega); obtain ⟨ad9, e9, _, m0, m1, m2, m3, m4, m5, m6⟩ := N6.at_ hj; have e10 := Option.some.inj e9; rw [← e10] at m0 m1 m2 m3 m4 m5 m6; clear e9 e10; rw [zero_add_off] at m0 m1 m2 m3 m4 m5 m6; rw [← HXE.out] at m0 m1 m2 m3 m4 m5 m6; clear hat6 hg6 d0 d1 d2 d3 d4 d5 d6))
              have h4j : (l.getD j nd0).kind = 4 := by rw [← HXE.out]; exact H4.out
              have hPJ : pk l hosts j = true := by rw [← HPH.out h4j]; exact HY.out
              have hwp : 0 < (l.getD j nd0).weight := (pk_host hPJ).2.1
              have tM := weigh_tall (z := wg) ht hj h4j (by omega) (by omega)
              have lM := weigh_len l j wg
              have em : made ((weigh l j wg).take 60) = weigh l j wg := by rw [List.take_of_length_le (by rw [lM]; exact hl60), made_id tM]
              have N7 := N6.write (z := wg) hj (by omega) (by omega)
              have B7 : Below w3.heap.size w3 (seven w6 gm (j * 7) { l.getD j nd0 with weight := wg }) := below_seven B6 hgb _ _
              rw [← HXE.out] at N7 B7
              obtain ⟨ob, hob⟩ : ∃ ob, ob = Obj.cells #[.string x.name, .int .i64 x.kind, .int .i64 x.above, .int .i64 wg, .bool x.six, .int .u64 x.hi, .int .u64 x.lo] 64 := ⟨_, rfl⟩
              have N8 := N7.keep ((Below.refl _ _).alloc (Nat.le_refl _) ob)
              have B8 := B7.alloc B7.size ob
              obtain ⟨w8, hw8⟩ : ∃ w8, w8 = (seven w6 gm (j * 7) { x with weight := wg }).alloc ob := ⟨_, rfl⟩
              rw [← hw8] at N8 B8
              rw [hob] at hw8
              have hmd := law_Made w8 _ _ _ _ N8
              rw [em] at hmd
              have HFX := Lib.hid (fixed_weigh ht wg hj)
              have HUP := Lib.hid (fun (h : (l.getD j nd0).weight < wg) => hv_up ht hj h4j hwp h (by omega) (by omega : l.length ≤ 1024))
              have HDN := Lib.hid (fun (h : wg < (l.getD j nd0).weight) => hv_down (z := wg) ht hj h4j (by omega) h (by omega) (by omega : l.length ≤ 1024))
              have HKD := Lib.hid (fun i => (weigh_fields l j wg hj i).1)
              obtain ⟨M, hM⟩ : ∃ M, M = weigh l j wg := ⟨_, rfl⟩
              rw [← hM] at hmd tM lM HFX HUP HDN HKD
              clear m0 m1 m2 m3 m4 m5 m6 ff0 ff1 ff2 ff3 ff4 ff5 ff6 hown6 N6 N7 N8 B6 B7 hgb hglt hgn hgn2 hown0 hBA hNA hszA hwfl em hob
              change Calls Try.prog _ _ ((seven w6 gm (j * 7) { x with weight := wg }).alloc (.cells #[.string x.name, .int .i64 x.kind, .int .i64 x.above, .int .i64 wg, .bool x.six, .int .u64 x.hi, .int .u64 x.lo] 64)) _
              rw [← hw8]
              clear hw8
              refine hmd.mono ?_; rintro e w9 ⟨b2, A2, c2, rfl, hT9, _, hx9⟩
              have B9 := below_step B8 hx9
              clear hmd B8 hx9
              go_wp2_with fail
              refine (elig_New hT9 tM Ah m ch hosts (hH3.keep B9)).mono ?_; rintro e w10 ⟨g2, gw2, gs2, vH2, rfl, hS10, hx10⟩
              have B10 := below_step B9 hx10
              have hTu := hT9.keep hx10
              have hTt := hT3.keep B10
              have hSt := hS3.keep B10
              have hNt := hN3.keep B10
              have hW10 := below_step hW3 B10
              clear hT9 hx10 B9 B10 hT3 hS3 hN3 hH3 hW3
              have hw11 := walker_new w10 140 9
              have D1 := fun v (h : WW w10 v w10.heap.size (kw 140 9)) i => walk_DownW hTt ht hSt h (by omega) (by omega) i key k0 k1
              have D2 := fun v (h : WW w10 v w10.heap.size (kw 140 9)) i => walk_DownW hTu tM hS10 h (by omega) (by omega) i key k0 k1
              have hD1 := fun i (hi : i < l.length) (hk : (l.getD i nd0).kind = 1) v (h : WW w10 v w10.heap.size (kw 140 9)) => way_down ht hosts (by omega : l.length ≤ 1024) 9 key hi hk ▸ D1 v h (i : Int)
              have hD2 := fun i (hi : i < l.length) (hk : (l.getD i nd0).kind = 1) v (h : WW w10 v w10.heap.size (kw 140 9)) => way_down tM hosts (by omega : M.length ≤ 1024) 9 key (show i < M.length by omega) (by rw [HKD.out]; exact hk) ▸ D2 v h (i : Int)
              have hWQ := fun i (hi : i < l.length) (hk : (l.getD i nd0).kind = 1) => show WellQ l j ((l.getD j nd0).weight < wg) (wayI l (wt l hosts) 9 key i) (wayI M (wt M hosts) 9 key i) from by
                by_cases hup : (l.getD j nd0).weight < wg
                · exact well_up (HUP.out hup) hosts 9 key hi hk hup
                · exact well_down (HDN.out (by have := HW3.out; rw [HXE.out] at this; omega)) hosts 9 key hi hk hup HFX.out
              have hLS := fun w (h' : IsNodes w (some ad) l.length c1 l) => law26_levels h' (by omega)
              have HLA := Lib.hid (fun (k : Nat) (h1 : k < lvN l) => lvAt_in' l h1)
              have HMW := Lib.hid hM
              have HQL := Lib.hid (show lvN l ≤ 1024 by have := idx_le (isK 1) l; unfold lvN; omega)
              obtain ⟨q, hq⟩ : ∃ q, q = lvN l := ⟨_, rfl⟩
              rw [← hq] at hLS HLA HQL
              have hq2 := HQL.out
              clear hTu hTt hSt hS10 hM hq D1 D2 HUP HDN HFX HKD
              go_wp2_with fail
              generalize hbw : w10.heap.size = bw at *
              generalize w10.alloc (.cells #[.int .u32 0, .int .i32 0, .int .u32 0, .slice none 0 0, .int .i64 140, .int .u64 9] 51) = w11 at *
              have hb11 : Below w10.heap.size w10 w11 := hw11.bel
              refine (hLS _ (hNt.keep hb11)).mono ?_; rintro e w12 ⟨AK, cK, rfl, hK, hfK, hx12⟩
              have hw12 := hw11.keep hx12
              have hlt11 := hw11.tab.lt
              have hcapK := hK.cap
              have hsmK := hK.small
              have hneK : 0 < q → ∀ ad, AK = some ad → ¬ ad.block = bw := fun _ ad e => by have := hfK ad e; omega
              clear hLS hw11 hb11 hx12 hfK p1 p2 p3 p4 p5
              go_wp2_with fail
              go_loopg [21, 22, 23, 24, 25, 26, 27] q (fun gk s21 s22 s23 s24 s25 s26 s27 wr => ∃ t : Nat, t ≤ q ∧ gk = q - t ∧ s21 = .int .i64 t ∧ WW w10 wr bw (kw 140 9) ∧ IsList wr .i64 AK q cK (idx (isK 1) l))
              case atStart => exact ⟨0, Nat.zero_le _, rfl, rfl, hw12, hK⟩
              case round =>
                clear hw12 hK
                obtain ⟨t, htq, rfl, rfl, hwr, hK⟩ := hrel
                by_cases htl : t < q
                · have hti : (t : Int) < (q : Int) := by omega
                  obtain ⟨ak, rfl, _, x0, _⟩ := hK.get htl
                  obtain ⟨a1, a2, a3⟩ := HLA.out t htl
                  rw [a1] at x0
                  have E1 := hD1 (lvAt l t) a2 a3
                  have E2 := hD2 (lvAt l t) a2 a3
                  have HWQ := Lib.hid (hWQ (lvAt l t) a2 a3)
                  obtain ⟨v, hv⟩ : ∃ v, v = lvAt l t := ⟨_, rfl⟩
                  rw [← hv] at x0 E1 E2 HWQ
                  obtain ⟨AA, hAA⟩ : ∃ AA, AA = wayI l (wt l hosts) 9 key v := ⟨_, rfl⟩
                  obtain ⟨BB, hBB⟩ : ∃ BB, BB = wayI M (wt M hosts) 9 key v := ⟨_, rfl⟩
                  rw [← hAA] at E1 HWQ
                  rw [← hBB] at E2 HWQ
                  clear a1 a2 a3 hv hAA hBB
                  have hwW : WW w10 wr.drew bw (kw 140 9) := hwr.keep (Below.drew (Below.refl _ _))
                  have hKW : IsList wr.drew .i64 (some ak) q cK (idx (isK 1) l) := hK.keep (Below.drew (Below.refl _ _))
                  have x1 : wr.drew.cell? (ak.add t) = some (.int .i64 (v : Int)) := x0
                  have hak : ¬ ak.block = bw := hneK (by omega) ak rfl
                  obtain ⟨nA, hnA⟩ : ∃ nA, nA = AA.length := ⟨_, rfl⟩
                  obtain ⟨nB, hnB⟩ : ∃ nB, nB = BB.length := ⟨_, rfl⟩
                  rw [← hnA] at E1
                  rw [← hnB] at E2
                  have HNA := Lib.hid hnA
                  have HNB := Lib.hid hnB
                  clear hnA hnB
                  clear hwr hK
                  go_upto_region 17 with (fail)
                  go_cut [22, 23] (fun s22 s23 wx => ∃ Aa ca Ab cb, s22 = .slice Aa nA ca ∧ s23 = .slice Ab nB cb ∧ IsList wx .i64 Aa nA ca AA ∧ IsList wx .i64 Ab nB cb BB ∧ WW w10 wx bw (kw 140 9) ∧ IsList wx .i64 (some ak) q cK (idx (isK 1) l))
                  case first =>
                    go_region_with (first
                      | (go_at_call_of 13 (some (Addr.mk g 0 none)); have hl1 := hwW.tab.lt; refine (E1 _ ?_).mono ?_; exact hwW; rintro en w' ⟨Aa, ca, rfl, hA, hfA, hw', hm'⟩; have hneA : 0 < nA → ∀ ad, Aa = some ad → ¬ ad.block = bw := (fun _ ad e => by have := hfA ad e; omega); replace hwW := hw'; replace hKW := list_mod hKW hm' hneK; replace x1 := cella_mod x1 hm' hak; (try replace hB := list_mod hB hm' hneB))
                      | (go_at_call_of 13 (some (Addr.mk g2 0 none)); have hl2 := hwW.tab.lt; refine (E2 _ ?_).mono ?_; exact hwW; rintro en w' ⟨Ab, cb, rfl, hB, hfB, hw', hm'⟩; have hneB : 0 < nB → ∀ ad, Ab = some ad → ¬ ad.block = bw := (fun _ ad e => by have := hfB ad e; omega); replace hwW := hw'; replace hKW := list_mod hKW hm' hneK; replace x1 := cella_mod x1 hm' hak; (try replace hA := list_mod hA hm' hneA)))
                    all_goals
                      go_wp2_with fail
                      go_meet
                      exact ⟨_, _, _, _, rfl, rfl, hA, hB, hwW, hKW⟩
                  case rest =>
                    obtain ⟨Aa, ca, Ab, cb, rfl, rfl, hA, hB, hwW', hKW'⟩ := hcut
                    obtain ⟨w14, rfl⟩ : ∃ w14, w14 = wc := ⟨_, rfl⟩
                    have hSp := walk_Split hA hB
                    have hcA := hA.cap
                    have hsA := hA.small
                    have hcB := hB.cap
                    have hsB := hB.small
                    clear hwW hKW x0 x1 E1 E2
                    rcases HWQ.out with heq | ⟨k, k1, k2, k3, k4, k5, k6⟩
                    · obtain rfl : nB = nA := by rw [HNB.out, HNA.out, heq]
                      have hs : splitF AA BB = nB := by rw [← heq, split_self, HNA.out]
                      rw [hs] at hSp
                      clear hs heq HNA HNB HWQ
                      go_wp2_with fail
                      refine hSp.mono ?_; rintro e w15 ⟨rfl, hx15⟩
                      have hw15 := hwW'.keep hx15
                      have hK15 := hKW'.keep hx15
                      clear hSp hA hB hwW' hKW' hx15
                      go_wp2
                      go_roundg (q - (t + 1))
                      case measure => omega
                      case rel => exact ⟨t + 1, by omega, rfl, by go_num, hw15, hK15⟩
                    · obtain rfl : nB = nA := by rw [HNB.out, HNA.out, k2]
                      rw [k1] at hSp
                      rw [← HNA.out] at k3
                      obtain ⟨p, hp⟩ : ∃ p, p = k - 1 := ⟨_, rfl⟩
                      have kne : ((k : Int) == (nB : Int)) = false := by rw [beq_eq_false_iff_ne]; omega
                      have k0' : ((k : Int) == 0) = false := by rw [beq_eq_false_iff_ne]; omega
                      have kp : IntKind.i64.wrap ((k : Int) - 1) = p := by rw [IntWalk.i64_in _ (by omega)]; omega
                      have kl : (k : Int) < (nB : Int) := by omega
                      have kl2 : (p : Int) < (nB : Int) := by omega
                      obtain ⟨ra, rb, r1, r2, r3, r4, _⟩ := up_host ht hj h4j
                      have rai : (ra : Int) < (l.length : Int) := by omega
                      have rbi : (rb : Int) < (l.length : Int) := by omega
                      rw [← HXE.out] at k5 k6
                      have HK5 := Lib.hid k5
                      have HK6 := Lib.hid k6
                      have HP := Lib.hid hp
                      have hpn : p < nB := by omega
                      clear k5 k6 hp
                      clear HNA HNB HWQ k1 k2 k4
                      go_wp2_with fail
                      refine hSp.mono ?_; rintro e w15 ⟨rfl, hx15⟩
                      replace hA := hA.keep hx15
                      replace hB := hB.keep hx15
                      have hw15 := hwW'.keep hx15
                      have hK15 := hKW'.keep hx15
                      have hb15 : Below w10.heap.size w10 w15 := hw15.bel
                      have hN15 := hNt.keep hb15
                      obtain ⟨ad5, e5, _, _, _, s2, s3, _⟩ := hN15.at_ hj
                      obtain ⟨ad6, e6, _, _, _, u2, u3, _⟩ := hN15.at_ r2
                      obtain ⟨ad7, e7, _, _, _, _, v3, _⟩ := hN15.at_ r4
                      have e5' := Option.some.inj e5
                      have e6' := Option.some.inj e6
                      have e7' := Option.some.inj e7
                      rw [← e5'] at s2 s3
                      rw [← e6'] at u2 u3
                      rw [← e7'] at v3
                      rw [r1] at s2
                      rw [r3] at u2
                      rw [← HXE.out] at s3
                      clear hSp hwW' hKW' hx15 e5 e6 e7 e5' e6' e7' hb15
                      by_cases hup : x.weight < wg
                      · have g1' : decide (wg < x.weight) = false := decide_eq_false (by omega)
                        have hQ := HK5.out hup
                        obtain ⟨at1, e1, _, t1, _⟩ := hB.get (k := p) hpn
                        obtain ⟨at2, e2, _, t2, _⟩ := hB.get (k := k) k3
                        obtain ⟨af, e3, _, t3, _⟩ := hA.get (k := k) k3
                        have b1 := hQ.one
                        have b2 := hQ.two
                        have b3 := hQ.thr
                        have b4 := Lib.hid hQ.fou
                        rw [← HP.out] at b1
                        subst e1
                        have e4 := Option.some.inj e2
                        rw [← e4] at t2
                        subst e3
                        obtain ⟨z1, hz1⟩ : ∃ z, z = BB.getD p 0 := ⟨_, rfl⟩
                        obtain ⟨z2, hz2⟩ : ∃ z, z = BB.getD k 0 := ⟨_, rfl⟩
                        obtain ⟨z3, hz3⟩ : ∃ z, z = AA.getD k 0 := ⟨_, rfl⟩
                        rw [← hz1] at t1 b1
                        rw [← hz2] at t2 b2 b4
                        rw [← hz3] at t3 b3
                        have L1 := fun w (h : IsNodes w (some ad) l.length c1 l) => law26_above h (j : Int) z1
                        have L2 := fun w (h : IsNodes w (some ad) l.length c1 l) => law26_above h (j : Int) z2
                        have L3 := fun w (h : IsNodes w (some ad) l.length c1 l) => law26_above h (j : Int) z3
                        rw [b1] at L1
                        rw [b2] at L2
                        rw [b3] at L3
                        clear hQ b1 b2 b3 hz1 hz2 hz3 e2 e4 hA hB
                        go_wp2_with fail
                        refine (L1 _ hN15).mono ?_; rintro e w' ⟨rfl, rfl⟩
                        go_wp2_with fail
                        refine (L2 _ hN15).mono ?_; rintro e w' ⟨rfl, rfl⟩
                        go_wp2_with fail
                        refine (L3 _ hN15).mono ?_; rintro e w' ⟨rfl, rfl⟩
                        clear L1 L2 L3
                        by_cases wa : 0 < (l.getD ra nd0).weight
                        · by_cases wb : 0 < (l.getD rb nd0).weight
                          · have hz := b4.out (fixed_of ht hj h4j r1 r2 r3 r4 wa wb)
                            have c1' : (z2 != (j : Int)) = false := by rw [bne_eq_false_iff_eq]; exact hz
                            obtain ⟨ya, hya⟩ : ∃ y, y = (l.getD ra nd0).weight := ⟨_, rfl⟩
                            obtain ⟨yb, hyb⟩ : ∃ y, y = (l.getD rb nd0).weight := ⟨_, rfl⟩
                            rw [← hya] at wa u3
                            rw [← hyb] at wb v3
                            have c2' : decide (0 < ya) = true := decide_eq_true wa
                            have c3' : decide (0 < yb) = true := decide_eq_true wb
                            clear hya hyb hz
                            go_wp2
                            go_roundg (q - (t + 1))
                            case measure => omega
                            case rel => exact ⟨t + 1, by omega, rfl, by go_num, hw15, hK15⟩
                          · obtain ⟨ya, hya⟩ : ∃ y, y = (l.getD ra nd0).weight := ⟨_, rfl⟩
                            obtain ⟨yb, hyb⟩ : ∃ y, y = (l.getD rb nd0).weight := ⟨_, rfl⟩
                            rw [← hya] at wa u3
                            rw [← hyb] at wb v3
                            have c2' : decide (0 < ya) = true := decide_eq_true wa
                            have c3' : decide (0 < yb) = false := decide_eq_false wb
                            clear hya hyb
                            go_wp2
                            go_roundg (q - (t + 1))
                            case measure => omega
                            case rel => exact ⟨t + 1, by omega, rfl, by go_num, hw15, hK15⟩
                        · obtain ⟨ya, hya⟩ : ∃ y, y = (l.getD ra nd0).weight := ⟨_, rfl⟩
                          rw [← hya] at wa u3
                          have c2' : decide (0 < ya) = false := decide_eq_false wa
                          clear hya
                          go_wp2
                          go_roundg (q - (t + 1))
                          case measure => omega
                          case rel => exact ⟨t + 1, by omega, rfl, by go_num, hw15, hK15⟩
                      · have g1' : decide (wg < x.weight) = true := decide_eq_true (by have := HW3.out; omega)
                        have hQ := HK6.out (by omega)
                        obtain ⟨at1, e1, _, t1, _⟩ := hA.get (k := p) hpn
                        obtain ⟨at2, e2, _, t2, _⟩ := hA.get (k := k) k3
                        obtain ⟨af, e3, _, t3, _⟩ := hB.get (k := k) k3
                        have b1 := hQ.one
                        have b2 := hQ.two
                        have b3 := hQ.thr
                        have b4 := Lib.hid hQ.fou
                        rw [← HP.out] at b1
                        subst e1
                        have e4 := Option.some.inj e2
                        rw [← e4] at t2
                        subst e3
                        obtain ⟨z1, hz1⟩ : ∃ z, z = AA.getD p 0 := ⟨_, rfl⟩
                        obtain ⟨z2, hz2⟩ : ∃ z, z = AA.getD k 0 := ⟨_, rfl⟩
                        obtain ⟨z3, hz3⟩ : ∃ z, z = BB.getD k 0 := ⟨_, rfl⟩
                        rw [← hz1] at t1 b1
                        rw [← hz2] at t2 b2 b4
                        rw [← hz3] at t3 b3
                        have L1 := fun w (h : IsNodes w (some ad) l.length c1 l) => law26_above h (j : Int) z1
                        have L2 := fun w (h : IsNodes w (some ad) l.length c1 l) => law26_above h (j : Int) z2
                        have L3 := fun w (h : IsNodes w (some ad) l.length c1 l) => law26_above h (j : Int) z3
                        rw [b1] at L1
                        rw [b2] at L2
                        rw [b3] at L3
                        clear hQ b1 b2 b3 hz1 hz2 hz3 e2 e4 hA hB
                        go_wp2_with fail
                        refine (L1 _ hN15).mono ?_; rintro e w' ⟨rfl, rfl⟩
                        go_wp2_with fail
                        refine (L2 _ hN15).mono ?_; rintro e w' ⟨rfl, rfl⟩
                        go_wp2_with fail
                        refine (L3 _ hN15).mono ?_; rintro e w' ⟨rfl, rfl⟩
                        clear L1 L2 L3
                        by_cases wa : 0 < (l.getD ra nd0).weight
                        · by_cases wb : 0 < (l.getD rb nd0).weight
                          · have hz := b4.out (fixed_of ht hj h4j r1 r2 r3 r4 wa wb)
                            have c1' : (z2 != (j : Int)) = false := by rw [bne_eq_false_iff_eq]; exact hz
                            obtain ⟨ya, hya⟩ : ∃ y, y = (l.getD ra nd0).weight := ⟨_, rfl⟩
                            obtain ⟨yb, hyb⟩ : ∃ y, y = (l.getD rb nd0).weight := ⟨_, rfl⟩
                            rw [← hya] at wa u3
                            rw [← hyb] at wb v3
                            have c2' : decide (0 < ya) = true := decide_eq_true wa
                            have c3' : decide (0 < yb) = true := decide_eq_true wb
                            clear hya hyb hz
                            go_wp2
                            go_roundg (q - (t + 1))
                            case measure => omega
                            case rel => exact ⟨t + 1, by omega, rfl, by go_num, hw15, hK15⟩
                          · obtain ⟨ya, hya⟩ : ∃ y, y = (l.getD ra nd0).weight := ⟨_, rfl⟩
                            obtain ⟨yb, hyb⟩ : ∃ y, y = (l.getD rb nd0).weight := ⟨_, rfl⟩
                            rw [← hya] at wa u3
                            rw [← hyb] at wb v3
                            have c2' : decide (0 < ya) = true := decide_eq_true wa
                            have c3' : decide (0 < yb) = false := decide_eq_false wb
                            clear hya hyb
                            go_wp2
                            go_roundg (q - (t + 1))
                            case measure => omega
                            case rel => exact ⟨t + 1, by omega, rfl, by go_num, hw15, hK15⟩
                        · obtain ⟨ya, hya⟩ : ∃ y, y = (l.getD ra nd0).weight := ⟨_, rfl⟩
                          rw [← hya] at wa u3
                          have c2' : decide (0 < ya) = false := decide_eq_false wa
                          clear hya
                          go_wp2
                          go_roundg (q - (t + 1))
                          case measure => omega
                          case rel => exact ⟨t + 1, by omega, rfl, by go_num, hw15, hK15⟩
                · obtain rfl : t = q := by omega
                  have hWr := below_step hW10 hwr.bel
                  go_wp2_with fail
                  refine (law26_awake _).mono ?_; rintro e w13 ⟨rfl, hx13⟩
                  go_wp2
                  go_ret
                  exact ⟨rfl, below_step hWr hx13⟩
    · have p1 : (x.kind != 4) = true := by rw [bne_iff_ne]; exact h4
      clear hWt hpos hynn
      go_wp2_with fail
      refine (law26_awake _).mono ?_; rintro e w9 ⟨rfl, hx9⟩
      go_wp2
      go_ret
      exact ⟨rfl, below_step hW3 hx9⟩
  · by_cases h1 : host < 0
    · have q0 : decide (host < 0) = true := decide_eq_true h1
      clear hin
      go_wp2_with fail
      refine (law26_awake _).mono ?_; rintro e w9 ⟨rfl, hx9⟩
      go_wp2
      go_ret
      exact ⟨rfl, below_step hW2 hx9⟩
    · have q0 : decide (host < 0) = false := decide_eq_false h1
      have q1 : decide ((l.length : Int) ≤ host) = true := decide_eq_true (by omega)
      clear hin
      go_wp2_with fail
      refine (law26_awake _).mono ?_; rintro e w9 ⟨rfl, hx9⟩
      go_wp2
      go_ret
      exact ⟨rfl, below_step hW2 hx9⟩
end Go.Proofs.Ytblbgafadadbmaa
end
