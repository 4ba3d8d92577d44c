/- Lemmas for the claim's proof: WheelP2 RowzArg WheelP3. -/
import Derived.Test.YtcpfekhpbjkgeaaQ01
import Derived.Test.YtcpfekhpbjkgeaaQ07
import Derived.Test.YtcpfekhpbjkgeaaQ13
section
/- WheelPlays. -/
set_option linter.unusedVariables false
namespace Go.Proofs.Ytcpfekhpbjkgeaa
open Go.RowKit
set_option maxHeartbeats 8000000
set_option maxRecDepth 100000
theorem add_zero_it (ad : Addr) : ad.add 0 = ad := by cases ad; unfold Addr.add; split <;> simp_all
theorem wheelPlays_walk (w : World) (A : Option Addr) (n c : Nat) (ol : List POp) (hs : IsRow popShape w A n c ol) :
    Calls Try.prog 4 #[.slice A n c] w fun e w' => e = .returned (.bool true) ∧ Below w.heap.size w w' := by
  have hcap := hs.cap
  have hsm := hs.small
  go_enter Try.func4, Try.ntmps4
  go_upto_region 2 with (fail)
  have hA := (Below.refl w.heap.size w).alloc (Nat.le_refl _) (.cells Try.zeroCells27 27)
  have W0 := wheel_new (B := w.heap.size) (Blk.new w 27 Try.zeroCells27) zero_wheel (Nat.le_refl _)
  have hP : Pl _ w.heap.size _ [] 0 none 0 := ⟨W0, ⟨⟨rfl, fun h => absurd h (Nat.lt_irrefl _)⟩, rfl, Nat.le_refl _, by decide⟩, fun ad e => by cases e⟩
  clear W0
  generalize w.alloc (.cells Try.zeroCells27 27) = u at *
  obtain ⟨a, ha⟩ : ∃ a, a = w.heap.size := ⟨_, rfl⟩
  rw [← ha] at hP ⊢
  have HA := Lib.hid ha
  clear ha
  go_wp2_with fail
  go_loopg [4, 5, 6, 7, 8, 9, 10, 11, 12, 13] n (fun gk s4 s5 s6 s7 s8 s9 s10 s11 s12 s13 wr => ∃ (i : Nat) (V : Nat → Value) (l : List It) (now : Int) (lA : Option Addr) (lc : Nat), s6 = .int .i64 i ∧ s5 = .int .i64 now ∧ s4 = .slice lA l.length lc ∧ i ≤ n ∧ gk = n - i ∧ l.length ≤ i ∧ i ≤ 60 ∧ Pl wr a V l now lA lc ∧ Below w.heap.size w wr)
  case atStart => exact ⟨0, _, [], 0, none, 0, rfl, rfl, rfl, Nat.zero_le _, rfl, Nat.le_refl _, by decide, hP, hA⟩
  case round =>
    clear hP hA
    obtain ⟨i, V, l, now, lA, lc, rfl, rfl, rfl, hi, rfl, hli, hi60, hP, hW⟩ := hrel
    go_upto_region 5 with (fail)
    go_cut [23] (fun q wx => wr = wx ∧ q = .bool (decide (i < n ∧ i < 60)))
    case first =>
      by_cases h1 : i < n
      · have e1 : decide ((i : Int) < (n : Int)) = true := decide_eq_true (by omega)
        by_cases h2 : i < 60
        · have e2 : decide ((i : Int) < 60) = true := decide_eq_true (by omega)
          have HD := Lib.hid (show decide (i < n ∧ i < 60) = true from decide_eq_true ⟨h1, h2⟩)
          generalize decide (i < n ∧ i < 60) = D at *
          go_wp2_with fail
          go_meet
          exact ⟨rfl, by rw [HD.out]⟩
        · have e2 : decide ((i : Int) < 60) = false := decide_eq_false (by omega)
          have HD := Lib.hid (show decide (i < n ∧ i < 60) = false from decide_eq_false (fun h => h2 h.2))
          generalize decide (i < n ∧ i < 60) = D at *
          go_wp2_with fail
          go_meet
          exact ⟨rfl, by rw [HD.out]⟩
      · have e1 : decide ((i : Int) < (n : Int)) = false := decide_eq_false (by omega)
        have HD := Lib.hid (show decide (i < n ∧ i < 60) = false from decide_eq_false (fun h => h1 h.1))
        generalize decide (i < n ∧ i < 60) = D at *
        go_wp2_with fail
        go_meet
        exact ⟨rfl, by rw [HD.out]⟩
    case rest =>
    obtain ⟨rfl, rfl⟩ := hcut
    have HD := Lib.hid (fun h : decide (i < n ∧ i < 60) = true => of_decide_eq_true h)
    generalize decide (i < n ∧ i < 60) = D at *
    cases D with
    | false =>
      go_wp2_with fail
      refine (law21_awake _).mono ?_; rintro e w7 ⟨rfl, hx7⟩
      go_wp2
      go_ret
      exact ⟨rfl, below_step hW hx7⟩
    | true =>
      obtain ⟨hin, hi6⟩ := HD.out rfl
      have hii : (i : Int) < (n : Int) := by omega
      obtain ⟨ad, rfl, hadb, k0, k1, k2, hOw⟩ := pop_at hs hin
      have k0 := cell_keep k0 hW
      have k1 := cell_keep k1 hW
      have k2 := cell_keep k2 hW
      obtain ⟨o, ho⟩ : ∃ o, o = ol.getD i ⟨0, 0, 0⟩ := ⟨_, rfl⟩
      rw [← ho] at k0 k1 k2 hOw
      clear ho HD
      obtain ⟨kd, xt, xi⟩ := o
      dsimp only at k0 k1 k2 hOw
      go_upto_region 8 with (fail)
      have hA1 := (Below.refl wr.heap.size wr).alloc (Nat.le_refl _) (.cells #[.int .i64 xt, .int .i64 xi] 31)
      have PX := Blk.new wr 31 #[.int .i64 xt, .int .i64 xi]
      have hP1 := hP.keep hA1
      have hW1 := below_step hW hA1
      have k3 := cell_keep k0 hA1
      obtain ⟨xb, hxb⟩ : ∃ xb, xb = wr.heap.size := ⟨_, rfl⟩
      rw [← hxb] at PX ⊢
      have hxlt : ∀ g, wIn a V g → g < xb := fun g hg => by rw [hxb]; exact (hP.wh.lt hg).2
      clear hP hW hA1 hxb k0 k1 k2
      generalize wr.alloc (.cells #[.int .i64 xt, .int .i64 xi] 31) = v at *
      go_upto_block 2 with (fail)
      go_cut [4, 5] (fun s4 s5 wx => ∃ (V : Nat → Value) (l : List It) (now : Int) (lA : Option Addr) (lc : Nat), s4 = .slice lA l.length lc ∧ s5 = .int .i64 now ∧ l.length ≤ i + 1 ∧ Pl wx a V l now lA lc ∧ Below w.heap.size w wx)
      case first =>
        obtain ⟨x0, x1, hxl⟩ := PX.cells2
        by_cases hk2 : kd = 2
        · have g1 : (kd == 2) = true := by rw [beq_iff_eq]; exact hk2
          clear hk2
          have CW := law21_without hP1.rd xi (by omega)
          go_wp2_with fail
          refine CW.mono ?_; rintro e w1 ⟨⟨v1, rfl, hO1⟩, hx1⟩
          obtain ⟨A1, c1, rfl⟩ := own_sl hO1
          have hP2 := hP1.keep hx1
          have hW2 := below_step hW1 hx1
          have y1 := cell_keep x1 hx1
          have CC := wheel_Cancel hP2.wh xi (by omega)
          obtain ⟨F, hF⟩ : ∃ F, F = l.filter (fun x => x.id != xi) := ⟨_, rfl⟩
          have hFl : F.length ≤ l.length := by rw [hF]; exact List.length_filter_le _ _
          rw [← hF] at hO1 CC ⊢
          have HV := Lib.hid (fun g (hg : wIn a V g) => (hP1.wh.lt hg).2)
          have hHl := Lib.hid (fun g (hg : (Value.slice A1 F.length c1).ownBlock = some g) => (hO1.lt g hg))
          have wd : IntKind.i64.wrap ((l.length : Int) - (F.length : Int)) = (l.length : Int) - (F.length : Int) := by rw [IntKind.wrap_i64]; omega
          have g2 : (((l.length : Int) - (F.length : Int)) != ((l.length : Int) - (F.length : Int))) = false := by simp
          clear CW hP1 hW1 x0 x1 hF
          go_wp2_with fail
          refine CC.mono ?_; rintro e w2 ⟨rfl, hTo⟩
          obtain ⟨V2, h1, h2, h3⟩ := hTo
          have hO2 := ownR_mod hO1 h2 (fun g hg hh => by have := (hHl.out g hg).1; have := HV.out g hh; omega)
          have hPn := pl_between h1 hO2 (fun g hg => (hHl.out g hg).2) (fun g hg => by
            rcases h3 g hg with h4 | h4
            · exact .inl (HV.out g h4)
            · exact .inr h4)
          have hWn := hW2.trans ((hP2.wh.below (Nat.le_trans (Nat.le_of_eq HA.out) hW2.size) h2).mono (Nat.le_of_eq HA.out.symm))
          clear CC hP2 hW2 hO1 h1 h2 h3 hO2
          go_wp2_with fail
          go_meet
          exact ⟨V2, F, now, A1, c1, rfl, rfl, by omega, hPn, hWn⟩
        · have g1 : (kd == 2) = false := by rw [beq_eq_false_iff_ne]; exact hk2
          clear hk2
          have hXw : itShape.Wf ⟨xt, xi⟩ := ⟨hOw.2.1, hOw.2.2⟩
          by_cases hk3 : kd = 3
          · have g3 : (kd == 3) = true := by rw [beq_iff_eq]; exact hk3
            clear hk3
            by_cases hok : now ≤ xt ∧ xt ≤ 1099511627776
            · have CG := wheel_Go hP1.wh xt hok.1 hok.2 (by omega) (by have h1 := hW1.size; have h2 := HA.out; omega)
              have g4 : decide (xt < now) = false := decide_eq_false (by omega)
              have g5 : decide (1099511627776 < xt) = false := decide_eq_false (by omega)
              have hxno : ¬ wIn a V xb := fun hh => by have := hxlt _ hh; omega
              clear hok
              go_wp2_with fail
              refine CG.mono ?_; rintro e w2 hGG
              obtain ⟨vg, rfl, hO, hTo, hfr⟩ := hGG.to
              obtain ⟨V2, h1, h2, h3⟩ := hTo
              rw [dueN_len] at hO
              obtain ⟨Ag, cg, rfl⟩ := own_sl hO
              have hrd2 := readsIt_mod hP1.rd h2 hP1.no
              have y0 := cell_mod (p := ⟨xb, 0, none⟩) x0 h2 hxno
              have hno2 : ∀ ad, lA = some ad → 0 < l.length → ¬ wIn a V2 ad.block := fun ad e h0 hh => by
                rcases h3 _ hh with h4 | h4
                · exact hP1.no ad e h0 h4
                · obtain ⟨ad', e', hb, _⟩ := hP1.rd.1.2 h0
                  rw [e] at e'; cases e'
                  omega
              have hWn := hW1.trans ((hP1.wh.below (Nat.le_trans (Nat.le_of_eq HA.out) hW1.size) h2).mono (Nat.le_of_eq HA.out.symm))
              have hDN := dueN_le xt l
              have HD1 := Lib.hid (fun (k : Nat) (h : k < dueN xt l) => show (l.getD k default).t ≤ xt from dueN_before h)
              have HD2 := Lib.hid (fun (h : dueN xt l < l.length) => show xt < (l.getD (dueN xt l) default).t from dueN_at h)
              have hlc := hrd2.2.2.1
              clear CG hGG hP1 hW1 x0 x1 h2 h3 hfr
              generalize dueN xt l = dn at *
              go_upto_region 25 with (fail)
              go_upto_block 3 with (fail)
              go_cut [11] (fun q wx => q = .int .i64 (dn : Int) ∧ Below w2.heap.size w2 wx)
              case first =>
                clear hno2
                go_wp2_with fail
                go_loopg [11] dn (fun gk s11 wr => ∃ k : Nat, k ≤ dn ∧ gk = dn - k ∧ s11 = .int .i64 k ∧ Below w2.heap.size w2 wr)
                case atStart => exact ⟨0, Nat.zero_le _, rfl, rfl, Below.refl _ _⟩
                case round =>
                  obtain ⟨k, hk, rfl, rfl, hb⟩ := hrel
                  have U1 := cell_under (cell_keep y0 hb)
                  by_cases hkl : k < l.length
                  · have hkk : (k : Int) < (l.length : Int) := by omega
                    have e1 : decide ((k : Int) < (l.length : Int)) = true := decide_eq_true hkk
                    obtain ⟨ae, rfl, _, d0, _⟩ := (hrd2.keep hb).at_ hkl
                    have U0 := cell_under d0
                    clear d0
                    by_cases hkd : k < dn
                    · have e2 : decide ((l.getD k default).t ≤ xt) = true := decide_eq_true (HD1.out k hkd)
                      generalize (l.getD k default).t = X at *
                      go_upto_region 26 with (fail)
                      refine wp_region_quiet_under (by kernel_rfl) (by kernel_rfl) ?_
                      repeat (go_big_quiet_step ((fail)))
                      refine wpQuiet_nil ?_
                      intro wu hw'
                      obtain ⟨pq, hw''⟩ := hw'
                      have hU := below_eq hw''
                      clear hw'' pq
                      go_wp2
                      go_roundg (dn - (k + 1))
                      case measure => omega
                      case rel => exact ⟨k + 1, by omega, rfl, by go_num, below_step hb hU⟩
                    · obtain rfl : k = dn := by omega
                      have e2 : decide ((l.getD k default).t ≤ xt) = false := decide_eq_false (by have := HD2.out hkl; omega)
                      generalize (l.getD k default).t = X at *
                      go_upto_region 26 with (fail)
                      refine wp_region_quiet_under (by kernel_rfl) (by kernel_rfl) ?_
                      repeat (go_big_quiet_step ((fail)))
                      refine wpQuiet_nil ?_
                      intro wu hw'
                      obtain ⟨pq, hw''⟩ := hw'
                      have hU := below_eq hw''
                      clear hw'' pq
                      go_wp2_with fail
                      go_meet
                      exact ⟨rfl, below_step hb hU⟩
                  · obtain rfl : k = dn := by omega
                    have e1 : decide ((k : Int) < (l.length : Int)) = false := decide_eq_false (by omega)
                    go_upto_region 26 with (fail)
                    refine wp_region_quiet_under (by kernel_rfl) (by kernel_rfl) ?_
                    repeat (go_big_quiet_step ((fail)))
                    refine wpQuiet_nil ?_
                    intro wu hw'
                    obtain ⟨pq, hw''⟩ := hw'
                    have hU := below_eq hw''
                    clear hw'' pq
                    go_wp2_with fail
                    go_meet
                    exact ⟨rfl, below_step hb hU⟩
              case rest =>
              obtain ⟨rfl, hb⟩ := hcut
              have CS := law21_same ((own_it hO).keep hb) ((hrd2.keep hb).cut hDN)
              have hdc : dn ≤ lc := by omega
              have hdi : (dn : Int) ≤ (lc : Int) := by omega
              have hdl : (dn : Int) ≤ (l.length : Int) := by omega
              have h1 := h1.keep hb
              have hrd3 := hrd2.keep hb
              have y1 := cell_keep y0 hb
              have hW3 := below_step hWn hb
              clear hO hrd2 y0 hb hWn HD1 HD2
              go_wp2_with fail
              refine CS.mono ?_; rintro e w3 ⟨rfl, hx3⟩
              have h1 := h1.keep hx3
              have hrd4 := readsIt_drop (hrd3.keep hx3) hDN
              have y2 := cell_keep y1 hx3
              have hW4 := below_step hW3 hx3
              clear CS hrd3 y1 hW3 hx3
              go_wp2_with fail
              case inl =>
                rename_i hcd
                have hdn : l.drop dn = [] := List.eq_nil_of_length_eq_zero (by rw [List.length_drop]; omega)
                rw [hdn] at h1 hrd4
                go_meet
                refine ⟨V2, [], xt, lA, 0, ?_, rfl, by simp, ⟨h1, ⟨⟨rfl, fun h => absurd h (Nat.lt_irrefl _)⟩, rfl, Nat.le_refl _, by decide⟩, fun ad e h0 => absurd h0 (Nat.lt_irrefl _)⟩, hW4⟩
                rw [show l.length - dn = 0 by omega]; rfl
              case inr =>
                have hDL : (l.drop dn).length = l.length - dn := List.length_drop
                go_meet
                refine ⟨V2, l.drop dn, xt, lA.map fun x => x.add (dn * 2), lc - dn, ?_, rfl, ?_, ⟨h1, ?_, fun ad e h0 => ?_⟩, hW4⟩
                · rw [hDL]
                · rw [hDL]; omega
                · rw [hDL]; exact hrd4
                · obtain ⟨ad', e', rfl⟩ := Option.map_eq_some_iff.1 e
                  rw [block_of_add]
                  exact hno2 ad' e' (by rw [hDL] at h0; omega)
            · have CB := wheel_GoBad hP1.wh xt hok
              by_cases h1 : xt < now
              · have e1 : decide (xt < now) = true := decide_eq_true h1
                clear hok h1
                go_wp2_with fail
                refine CB.mono ?_; rintro e w2 ⟨rfl, rfl⟩
                clear CB
                go_wp2_with fail
                go_meet
                exact ⟨V, l, now, lA, lc, rfl, rfl, by omega, hP1, hW1⟩
              · have e1 : decide (xt < now) = false := decide_eq_false h1
                have e2 : decide (1099511627776 < xt) = true := decide_eq_true (by omega)
                clear hok h1
                go_wp2_with fail
                refine CB.mono ?_; rintro e w2 ⟨rfl, rfl⟩
                clear CB
                go_wp2_with fail
                go_meet
                exact ⟨V, l, now, lA, lc, rfl, rfl, by omega, hP1, hW1⟩
          · have g3 : (kd == 3) = false := by rw [beq_eq_false_iff_ne]; exact hk3
            clear hk3
            have HAE := Lib.hid (show addE now ⟨xt, xi⟩ = if now < xt ∧ xt ≤ 1099511627776 then 0 else 5 from rfl)
            have HAL := Lib.hid (show addL now l ⟨xt, xi⟩ = if now < xt ∧ xt ≤ 1099511627776 then putL l ⟨xt, xi⟩ else l from rfl)
            by_cases hok : now < xt ∧ xt ≤ 1099511627776
            · have e1 : decide (now < xt) = true := decide_eq_true hok.1
              have e2 : decide (xt ≤ 1099511627776) = true := decide_eq_true hok.2
              have HOKK := Lib.hid hok
              clear hok
              have CW := law21_put hP1.rd ⟨xt, xi⟩ (by omega)
              go_wp2_with fail
              refine CW.mono ?_; rintro e w1 ⟨⟨v1, rfl, hO1⟩, hx1⟩
              obtain ⟨A1, c1, rfl⟩ := own_sl hO1
              have hP2 := hP1.keep hx1
              have hW2 := below_step hW1 hx1
              have y0 := cell_keep x0 hx1
              have y1 := cell_keep x1 hx1
              have CC := wheel_Add hP2.wh ⟨xt, xi⟩ hXw (by omega)
              rw [HAE.out, if_pos HOKK.out, HAL.out, if_pos HOKK.out] at CC
              obtain ⟨F, hF⟩ : ∃ F, F = putL l ⟨xt, xi⟩ := ⟨_, rfl⟩
              have hFl : F.length = l.length + 1 := by rw [hF, (putL_perm _ l).length_eq]; rfl
              rw [← hF] at hO1 CC ⊢
              have HFL := Lib.hid hFl
              have HV := Lib.hid (fun g (hg : wIn a V g) => (hP1.wh.lt hg).2)
              have hHl := Lib.hid (fun g (hg : (Value.slice A1 F.length c1).ownBlock = some g) => (hO1.lt g hg))
              clear CW hP1 hW1 x0 x1 hF hFl
              go_wp2_with fail
              refine CC.mono ?_; rintro e w2 ⟨rfl, hTo⟩
              obtain ⟨V2, h1, h2, h3⟩ := hTo
              have hO2 := ownR_mod hO1 h2 (fun g hg hh => by have := (hHl.out g hg).1; have := HV.out g hh; omega)
              have hPn := pl_between h1 hO2 (fun g hg => (hHl.out g hg).2) (fun g hg => by
                rcases h3 g hg with h4 | h4
                · exact .inl (HV.out g h4)
                · exact .inr h4)
              have hWn := hW2.trans ((hP2.wh.below (Nat.le_trans (Nat.le_of_eq HA.out) hW2.size) h2).mono (Nat.le_of_eq HA.out.symm))
              clear CC hP2 hW2 hO1 h1 h2 h3 hO2
              go_wp2_with fail
              go_meet
              exact ⟨V2, F, now, A1, c1, rfl, rfl, by have := HFL.out; omega, hPn, hWn⟩
            · have CC := wheel_Add hP1.wh ⟨xt, xi⟩ hXw (by omega)
              rw [HAE.out, if_neg hok, HAL.out, if_neg hok] at CC
              have hWs := hW1.size
              by_cases h1 : now < xt
              · have e1 : decide (now < xt) = true := decide_eq_true h1
                have e2 : decide (xt ≤ 1099511627776) = false := decide_eq_false (fun h => hok ⟨h1, h⟩)
                clear hok h1
                go_wp2_with fail
                refine CC.mono ?_; rintro e w2 ⟨rfl, hTo⟩
                obtain ⟨V2, h1, h2, h3, h4⟩ := hP1.to hTo
                have hWn := hW1.trans ((hP1.wh.below (Nat.le_trans (Nat.le_of_eq HA.out) hWs) h4).mono (Nat.le_of_eq HA.out.symm))
                clear CC hP1 hW1 hTo h4
                go_wp2_with fail
                go_meet
                exact ⟨V2, l, now, lA, lc, rfl, rfl, by omega, ⟨h1, h2, h3⟩, hWn⟩
              · have e1 : decide (now < xt) = false := decide_eq_false h1
                clear hok h1
                go_wp2_with fail
                refine CC.mono ?_; rintro e w2 ⟨rfl, hTo⟩
                obtain ⟨V2, h1, h2, h3, h4⟩ := hP1.to hTo
                have hWn := hW1.trans ((hP1.wh.below (Nat.le_trans (Nat.le_of_eq HA.out) hWs) h4).mono (Nat.le_of_eq HA.out.symm))
                clear CC hP1 hW1 hTo h4
                go_wp2_with fail
                go_meet
                exact ⟨V2, l, now, lA, lc, rfl, rfl, by omega, ⟨h1, h2, h3⟩, hWn⟩
      case rest =>
        clear hP1 hW1 PX hxlt k3 hli
        obtain ⟨V, l, now, lA, lc, rfl, rfl, hli, hP, hW⟩ := hcut
        have CN := wheel_Now hP.wh
        have CL := wheel_Len hP.wh
        have CX := wheel_Next hP.wh (by omega)
        have CA := wheel_All hP.wh (by omega)
        have hrd := hP.rd
        go_upto_if 128 with (fail)
        go_cut [13] (fun q wx => wc = wx ∧ q = .int .i64 (nextT l))
        case first =>
          cases l with
          | nil =>
            go_wp2_with fail
            go_meet
            exact ⟨rfl, rfl⟩
          | cons x l =>
            obtain ⟨ad2, rfl, _, d0, _⟩ := hrd.at_ (k := 0) (by simp)
            have hlt : (0 : Int) < ((x :: l).length : Int) := by simp only [List.length_cons]; omega
            have HNX := Lib.hid (show nextT (x :: l) = x.t from rfl)
            rw [show (x :: l).getD 0 default = x from rfl] at d0
            simp only [Nat.zero_mul] at d0
            have d1 : wc.cell? ad2 = some (.int .i64 x.t) := by rw [← d0, add_zero_it]
            clear d0 CN CL CX CA hrd
            generalize nextT (x :: l) = nx at *
            generalize (x :: l).length = ll at *
            go_wp2_with fail
            go_meet
            exact ⟨rfl, by rw [HNX.out]⟩
        case rest =>
          obtain ⟨rfl, rfl⟩ := hcut
          generalize nextT l = nx at *
          have g1 : (now != now) = false := by simp
          have g2 : ((l.length : Int) != (l.length : Int)) = false := by simp
          have g3 : (nx != nx) = false := by simp
          clear CA
          go_wp2_with fail
          refine CN.mono ?_; rintro e w1 ⟨rfl, rfl⟩
          go_wp2_with fail
          refine CL.mono ?_; rintro e w1 ⟨rfl, rfl⟩
          go_wp2_with fail
          refine CX.mono ?_; rintro e w1 ⟨rfl, hx1⟩
          have hP1 := hP.keep hx1
          have hW1 := below_step hW hx1
          have CA := wheel_All hP1.wh (by omega)
          clear CN CL CX hP hW hx1 hrd
          go_wp2_with fail
          refine CA.mono ?_; rintro e w2 ⟨⟨v1, rfl, hO1⟩, hx2⟩
          obtain ⟨A1, c1, rfl⟩ := own_sl hO1
          have hP2 := hP1.keep hx2
          have hW2 := below_step hW1 hx2
          have CS := law21_same (own_it hO1) hP2.rd
          clear CA hP1 hW1 hx2 hO1
          go_wp2_with fail
          refine CS.mono ?_; rintro e w3 ⟨rfl, hx3⟩
          have hP3 := hP2.keep hx3
          have hW3 := below_step hW2 hx3
          clear CS hP2 hW2 hx3
          go_wp2
          go_roundg (n - (i + 1))
          case measure => omega
          case rel => exact ⟨i + 1, V, l, now, lA, lc, by go_num, rfl, rfl, by omega, rfl, hli, by omega, hP3, hW3⟩
end Go.Proofs.Ytcpfekhpbjkgeaa
end
section
/- A slice of structs of any shape among the arguments. -/
set_option linter.unusedVariables false
namespace Go.Proofs.Ytcpfekhpbjkgeaa
open Go.ChangeShapes Go.WideShapes Go.ChangeAt Go.RowKit Go.Deep
set_option maxRecDepth 100000 in
theorem open_rowsV {α : Type} {C : Shape α} {H : Type} {enc : TypeId × Value → H} {W : World} {base : Nat} {r : Reach} {b0 : Nat} {t e : TypeId} {v : Value} {d : DataW H} {p : List MemPlace}
    (hT : ∀ (fuel : Nat) (cs : List Value) (x : DataW H × List MemPlace), DataW.trod enc Try.prog W base (fun _ => true) true fuel e cs = some x → ∃ y : α, cs = C.cells y ∧ C.Wf y) (hc : Try.prog.cellsOf e = C.size)
    (ht : Try.prog.underlying t = some (.slice e)) (hby : 16 ≤ Try.prog.bytesOf e)
    (hv : Value.okWide Try.prog W r b0 t v) (h : DataW.Trod enc Try.prog W base (fun _ => true) true t v d p) (hlt : ∀ x ∈ p, x.block < W.heap.size)
    (hs : ∀ (e : TypeId) (elems spare : List (DataW H)), d = .slice elems spare → Try.prog.underlying t = some (.slice e) → (elems.length + spare.length) * Try.prog.bytesOf e ≤ reachBytes) :
    ∃ (A : Option Addr) (n c : Nat) (l : List α), v = .slice A n c ∧ IsRow C W A n c l := by
  obtain ⟨a0, len, cap, rfl⟩ := okWide_slice ht hv
  obtain ⟨fuel, hf⟩ := h
  obtain ⟨A, n, c, l, hcs, hr⟩ := open_rows hT hc ht hby hf hlt (fun elems spare e2 => hs _ elems spare e2 ht)
  simp [Value.cells] at hcs
  obtain ⟨rfl, rfl, rfl⟩ := hcs
  exact ⟨_, _, _, l, rfl, hr⟩
end Go.Proofs.Ytcpfekhpbjkgeaa
end
section
/- The law's script as an argument. -/
set_option linter.unusedVariables false
namespace Go.Proofs.Ytcpfekhpbjkgeaa
open Go.ChangeShapes Go.WideShapes Go.ChangeAt Go.RowKit Go.Deep
set_option maxRecDepth 100000 in
theorem open_pops {H : Type} {enc : TypeId × Value → H} {W : World} {base : Nat} {r : Reach} {b0 : Nat} {v : Value} {d : DataW H} {p : List MemPlace}
    (hv : Value.okWide Try.prog W r b0 39 v) (h : DataW.Trod enc Try.prog W base (fun _ => true) true 39 v d p) (hlt : ∀ x ∈ p, x.block < W.heap.size)
    (hs : ∀ (e : TypeId) (elems spare : List (DataW H)), d = .slice elems spare → Try.prog.underlying 39 = some (.slice e) → (elems.length + spare.length) * Try.prog.bytesOf e ≤ reachBytes) :
    ∃ (A : Option Addr) (n c : Nat) (l : List POp), v = .slice A n c ∧ IsRow popShape W A n c l :=
  open_rowsV (C := popShape) (fun fuel cs x h => trod_pop ⟨Try.underlying41, Try.underlying31, (by as_aux_lemma => kernel_rfl), (by as_aux_lemma => kernel_rfl), ⟨rfl, (by as_aux_lemma => kernel_rfl)⟩, rfl, ⟨rfl, (by as_aux_lemma => kernel_rfl)⟩, ⟨rfl, (by as_aux_lemma => kernel_rfl)⟩, Try.underlying3, Try.underlying2, Try.underlying3⟩ h)
    (by as_aux_lemma => kernel_rfl) Try.underlying39 (of_decide_eq_true (by as_aux_lemma => kernel_rfl)) hv h hlt hs
end Go.Proofs.Ytcpfekhpbjkgeaa
end
