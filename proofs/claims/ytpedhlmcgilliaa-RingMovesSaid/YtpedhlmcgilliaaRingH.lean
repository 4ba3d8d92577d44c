/- RingPicks. -/
import Derived.Test.YtpedhlmcgilliaaRingG
set_option linter.unusedVariables false
namespace Go.Proofs.Ytpedhlmcgilliaa
open Go.RowKit
set_option maxHeartbeats 8000000
set_option maxRecDepth 100000
theorem ringOut_or {seed : Int} {p : Nat} {l : List (Int × Int)} (h : RightP p l) : ∀ j, j < p → ringOut seed p l j = -1 ∨ (0 ≤ ringOut seed p l j ∧ ringOut seed p l j < l.length) := fun j hj => by
  by_cases hh : 0 < heavyTo l l.length
  · exact .inr (ringOut_in h hh j hj)
  · left; unfold ringOut; rw [if_neg hh]
theorem ring_FI {seed : Int} {p : Nat} {l : List (Int × Int)} (h : RightP p l) (hh : 0 < heavyTo l l.length) :
    RI (ringRows seed p l) l.length (roundsR (ringRows seed p l) l.length (rs0 p) p) ∧ ∃ m i', FI (ringRows seed p l) l.length (roundsR (ringRows seed p l) l.length (rs0 p) p) m i' := by
  have hI0 : RI (ringRows seed p l) l.length (rs0 p) := rs0_keeps (R := ringRows seed p l) hh
  obtain ⟨m, i', hF, _⟩ := FI_rounds (ring_RR (seed := seed) h) hI0 (rs0_FI (R := ringRows seed p l)) p
  exact ⟨roundsR_keeps (ring_RR h) hI0 p, m, i', hF⟩
theorem ring_fair {seed : Int} {p : Nat} {l : List (Int × Int)} (h : RightP p l) {i k : Nat} (hi : i < l.length) (hk : k < l.length) (hw : (itm l i).2 < (itm l k).2) : cntN (ringOut seed p l) i p ≤ cntN (ringOut seed p l) k p + 1 := by
  have hh : 0 < heavyTo l l.length := by
    have := (heavyTo_ge l l.length).2 k hk
    have := (okTo_at h.ok hi).1
    omega
  obtain ⟨hI, m, i', hF⟩ := ring_FI (seed := seed) h hh
  have := FI_fair (ring_RR (seed := seed) h) hI hh hF hi hk hw
  unfold ringOut
  rw [if_pos hh]
  exact this
theorem ring_zero {seed : Int} {p : Nat} {l : List (Int × Int)} (h : RightP p l) {i : Nat} (hi : i < l.length) (hw : (itm l i).2 = 0) : cntN (ringOut seed p l) i p = 0 := by
  by_cases hh : 0 < heavyTo l l.length
  · obtain ⟨hI, m, i', hF⟩ := ring_FI (seed := seed) h hh
    have := FI_zero hI hh hF hi hw
    unfold ringOut
    rw [if_pos hh]
    exact this
  · unfold ringOut
    rw [if_neg hh]
    exact cntN_none i p
theorem IsPairs.mod2 {w w' : World} {S : Nat → Prop} {k0 k1 : IntKind} {A : Option Addr} {n c : Nat} {l : List (Int × Int)} (h : IsPairs w k0 k1 A n c l) (hx : Mod S w w') (hn : 0 < n → ∀ ad, A = some ad → ¬ S ad.block) : IsPairs w' k0 k1 A n c l :=
  ⟨h.len, h.cap, h.small, h.reach, h.wf, fun h0 => by
    obtain ⟨ad, e, hb, hc⟩ := h.cells h0
    exact ⟨ad, e, Nat.lt_of_lt_of_le hb hx.size, fun i p hp => ⟨(hx.cell (by rw [block_of_add]; exact hb) (by rw [block_of_add]; exact hn h0 ad e)).trans (hc i p hp).1, (hx.cell (by rw [block_of_add]; exact hb) (by rw [block_of_add]; exact hn h0 ad e)).trans (hc i p hp).2⟩⟩⟩
theorem ringPicks_walk (w : World) (seed : Int) (s0 : 0 ≤ seed) (s1 : seed < 18446744073709551616) (size : Int) (z0 : -9223372036854775808 ≤ size) (z1 : size ≤ 9223372036854775807)
    (A : Option Addr) (n0 c : Nat) (l0 : List (Int × Int)) (hl0 : IsPairs w .u64 .i64 A n0 c l0) (key : Int) (k0 : 0 ≤ key) (k1 : key < 18446744073709551616) :
    Calls Try.prog 7 #[.int .u64 seed, .int .i64 size, .slice A n0 c, .int .u64 key] w fun e w' => e = .returned (.bool true) ∧ Below w.heap.size w w' := by
  have hFw := fun w => law_few A n0 c hl0.cap hl0.small w
  have hl := hl0.take (k := min n0 20) (by omega)
  have hn20 : min n0 20 ≤ 20 := by omega
  generalize min n0 20 = n at *
  generalize l0.take n = l at *
  clear hl0
  have hlen := Lib.hid hl.len
  have hcap := hl.cap
  have hsm := hl.small
  by_cases hbig : 600 < size
  · go_enter Try.func7, Try.ntmps7
    go_wp2_with fail
    refine (hFw _).mono ?_; rintro e w' ⟨rfl, rfl⟩
    go_wp2_with fail
    refine (law_awake39 _).mono ?_; rintro e w9 ⟨rfl, hx9⟩
    go_wp2
    go_ret
    exact ⟨rfl, hx9⟩
  · cases hr : rightB size l with
    | false =>
      have hN := ring_NewBad w seed size z1 A n c l hl (by omega) hr
      have hR := fun w (h : IsPairs w .u64 .i64 A n c l) => ring_Right w A n c l h (by omega) size z1
      have hG := fun w (h : IsPairs w .u64 .i64 A n c l) => law_right w A n c l h (by omega) size z1
      rw [hr] at hR hG
      clear hr
      go_enter Try.func7, Try.ntmps7
      go_wp2_with fail
      refine (hFw _).mono ?_; rintro e w' ⟨rfl, rfl⟩
      go_wp2_with fail
      refine hN.mono ?_; rintro e w1 ⟨he, hx1⟩
      obtain rfl := he
      have hl1 := hl.keep hx1
      go_wp2_with fail
      refine (hR _ hl1).mono ?_; rintro e w2 ⟨rfl, hx2⟩
      have hl2 := hl1.keep hx2
      have hW2 := below_step hx1 hx2
      go_wp2_with fail
      refine (hG _ hl2).mono ?_; rintro e w3 ⟨rfl, hx3⟩
      have hl3 := hl2.keep hx3
      have hW3 := below_step hW2 hx3
      go_wp2_with fail
      refine (hG _ hl3).mono ?_; rintro e w4 ⟨rfl, hx4⟩
      have hW4 := below_step hW3 hx4
      go_wp2_with fail
      refine (law_awake39 _).mono ?_; rintro e w9 ⟨rfl, hx9⟩
      go_wp2
      go_ret
      exact ⟨rfl, below_step hW4 hx9⟩
    | true =>
      obtain ⟨p, rfl, hP⟩ := right_parts hr
      have hp0 := hP.p0
      have hp1 := hP.p1
      have HP := Lib.hid hP
      have hN := ring_NewGood w seed s0 s1 p A n c l hl (by omega) hP
      have hR := fun w (h : IsPairs w .u64 .i64 A n c l) => ring_Right w A n c l h (by omega) p z1
      have hG := fun w (h : IsPairs w .u64 .i64 A n c l) => law_right w A n c l h (by omega) p z1
      rw [hr] at hR hG
      clear hr hP
      have hPL := fun w (h : IsPairs w .u64 .i64 A n c l) => law_places w seed s0 s1 p A n c l h (by omega) HP.out
      have hm2 := fun w => run_make_row' (P := Try.prog) 54 3 (.int .i64 0) 8 Try.underlying54 Try.infoI64 rfl .i64 .i64 n (by omega) (by omega) w
      go_enter Try.func7, Try.ntmps7
      go_wp2_with fail
      refine (hFw _).mono ?_; rintro e w' ⟨rfl, rfl⟩
      go_wp2_with fail
      refine hN.mono ?_; rintro e w1 ⟨⟨gq, gl, rfl, hB, hrow⟩, hx1⟩
      have hRG : RG w1 gq gl p (ringOut seed p l) := ⟨hB, hrow⟩
      have HOR := Lib.hid (fun j hj => ringOut_or (seed := seed) HP.out j hj)
      have HFA := Lib.hid (fun i k hi hk hw => ring_fair (seed := seed) HP.out (i := i) (k := k) hi hk hw)
      have HZE := Lib.hid (fun i hi hw => ring_zero (seed := seed) HP.out (i := i) hi hw)
      rw [hlen.out] at HOR HFA HZE
      obtain ⟨out, hout⟩ : ∃ out, out = ringOut seed p l := ⟨_, rfl⟩
      rw [← hout] at hRG HOR HFA HZE hPL
      clear hout hB hrow hN
      have hl1 := hl.keep hx1
      clear hl
      go_wp2_with fail
      refine (hR _ hl1).mono ?_; rintro e w2 ⟨rfl, hx2⟩
      have hl2 := hl1.keep hx2
      have hRG2 := hRG.keep hx2
      have hW2 := below_step hx1 hx2
      clear hl1 hRG hx1 hx2 hR
      go_wp2_with fail
      refine (hG _ hl2).mono ?_; rintro e w3 ⟨rfl, hx3⟩
      have hl3 := hl2.keep hx3
      have hRG3 := hRG2.keep hx3
      have hW3 := below_step hW2 hx3
      clear hl2 hRG2 hx3 hW2
      go_wp2_with fail
      refine (hG _ hl3).mono ?_; rintro e w4 ⟨rfl, hx4⟩
      have hl4 := hl3.keep hx4
      have hRG4 := hRG3.keep hx4
      have hW4 := below_step hW3 hx4
      clear hl3 hRG3 hx4 hW3 hG
      go_wp2_with fail
      refine (ring_Size hRG4).mono ?_; rintro e w' ⟨rfl, rfl⟩
      go_wp2_with fail
      refine (hPL _ hl4).mono ?_; rintro e w5 ⟨gp, rfl, hPR, hx5⟩
      have hl5 := hl4.keep hx5
      have hRG5 := hRG4.keep hx5
      have hW5 := below_step hW4 hx5
      clear hl4 hRG4 hx5 hW4 hPL
      go_wp2_with fail
      refine (ring_Shares hRG5 hp1 n (by omega)).mono ?_; rintro e w6 ⟨gs, rfl, hSR, hx6⟩
      have hl6 := hl5.keep hx6
      have hRG6 := hRG5.keep hx6
      have hPR6 := row_keep hPR hx6
      have hW6 := below_step hW5 hx6
      clear hl5 hRG5 hPR hx6 hW5
      have e1 := World.rowIs_made w6 (.int .i64 0) n 3
      have hx7 : Below w6.heap.size w6 (w6.alloc (.cells (madeCells #[.int .i64 0] n) 3)) := (Below.refl _ _).alloc (Nat.le_refl _) _
      have hl7 := hl6.keep hx7
      have hRG7 := hRG6.keep hx7
      have hPR7 := row_keep hPR6 hx7
      have hSR7 := row_keep hSR hx7
      have hW7 := below_step hW6 hx7
      have hgp := hPR6.lt
      have hgs := hSR.lt
      have hgl := hRG6.row.lt
      have hgq := hRG6.blk.lt
      have hw6 := hW6.size
      have hAd : ∀ ad, A = some ad → 0 < n → ad.block < w6.heap.size := fun ad e h0 => by
        obtain ⟨ad', e', hb, _⟩ := hl6.cells h0
        rw [e] at e'; injection e' with e'; rw [e']; exact hb
      clear hl6 hRG6 hPR6 hSR hW6 hx7
      go_wp2_with fail
      clear hm2
      generalize w6.alloc (.cells (madeCells #[.int .i64 0] n) 3) = u at *
      obtain ⟨gc, hgc⟩ : ∃ gc, gc = w6.heap.size := ⟨_, rfl⟩
      rw [← hgc] at e1 hgp hgs hgl hgq hw6 hAd ⊢
      clear hgc
      go_loopg [14] p (fun gk s14 wr => ∃ k : Nat, k ≤ p ∧ gk = p - k ∧ s14 = .int .i64 k ∧ wr.rowIs gc 3 n (fun i => .int .i64 (cntN out i k : Nat)) ∧ Mod (· = gc) u wr)
      case atStart => exact ⟨0, Nat.zero_le _, rfl, rfl, e1.congr (fun j _ => rfl), Mod.refl _ _⟩
      case round =>
        clear e1
        obtain ⟨k, hk, rfl, rfl, hC, hM⟩ := hrel
        have hP8 := row_mod hPR7 hM (by omega)
        have hRG8 : RG wr gq gl p out := ⟨hRG7.blk.mod hM (by omega), row_mod hRG7.row hM (by omega)⟩
        have hW8 := below_thenMod hW7 (Nat.le_refl _) hM (fun k hk => by omega)
        by_cases hkp : k < p
        · have hki : (k : Int) < (p : Int) := by omega
          have hPk := fun (w : World) (h : RG w gq gl p out) => ring_Pick h hp0 hp1 k (by omega)
          rw [Nat.mod_eq_of_lt hkp] at hPk
          have ck := hP8.cell hkp
          have HORk := Lib.hid (HOR.out k hkp)
          have HST := Lib.hid (fun i => cntN_step out i k)
          obtain ⟨z, hz⟩ : ∃ z, z = out k := ⟨_, rfl⟩
          rw [← hz] at hPk ck HORk HST
          have HZ := Lib.hid hz
          clear hz
          have kw : IntKind.u64.wrap (k : Int) = (k : Int) := by rw [IntKind.wrap_u64]; omega
          have U0 := cell_under ck
          clear ck
          go_wp2_with fail
          refine wp_region_quiet_under (by kernel_rfl) (by kernel_rfl) ?_
          repeat (go_big_quiet_step (((go_at_call 29; exact calls_under (hPk _ (hRG8.keep (under_below _ _)))))))
          refine wpQuiet_nil ?_
          intro wu hw'
          obtain ⟨pq, hw''⟩ := hw'
          have hU := below_eq hw''
          clear hw'' pq
          have hMu := hM.thenB hU
          have hC9 := row_keep hC hU
          have hP9 := row_keep hP8 hU
          have ck := hP9.cell hkp
          have hor := HORk.out
          clear U0 hU hPk hC hM hP8 hRG8 hW8 kw
          rw [← HZ.out] at ck
          by_cases hz0 : 0 ≤ z
          · obtain ⟨i, rfl⟩ : ∃ i : Nat, z = i := ⟨z.toNat, by omega⟩
            have hin : i < n := by omega
            have hii : (i : Int) < (n : Int) := by omega
            have g1 : decide (0 ≤ (i : Int)) = true := decide_eq_true hz0
            have hi0 : (0 : Int) ≤ (i : Int) := by omega
            have ci := hC9.cell hin
            have hle := cntN_le out i k
            have HSTi := Lib.hid (fun j => show cntN out j (k + 1) = if j = i then cntN out i k + 1 else cntN out j k by
              rw [HST.out]
              by_cases e : j = i
              · subst e; rw [if_pos (by simp), if_pos rfl]
              · rw [if_neg (by simp; omega), if_neg e, Nat.add_zero])
            have hCg := hC9
            obtain ⟨ct, hct⟩ : ∃ ct, ct = cntN out i k := ⟨_, rfl⟩
            rw [← hct] at ci hle HSTi
            clear hct
            have kc : IntKind.i64.wrap ((ct : Int) + 1) = (ct : Int) + 1 := IntWalk.i64_in _ (by omega)
            go_upto_region 22 with (fail)
            have V0 := cell_under ck
            have V1 := cell_under ci
            clear ck ci
            refine wp_region_under_tail 13 (by kernel_rfl) (by kernel_rfl) ?_
            simp only [List.take_succ_cons, List.take_zero, List.drop_succ_cons, List.drop_zero]
            repeat (go_big_quiet_step ((fail)))
            refine wpQuiet_nil ?_
            intro wv hw'
            obtain ⟨pq, hw''⟩ := hw'
            have hV := below_eq hw''
            clear hw'' pq
            have hMv := hMu.thenB hV
            have hC10 := row_keep hCg hV
            have c10 := hC10.cell hin
            have f10 := hC10.frozen i
            have hC11 := (hC10.set i (.int .i64 ((ct : Int) + 1))).congr (g := fun j => .int .i64 (cntN out j (k + 1) : Nat)) (fun j _ => by
              rw [HSTi.out]
              by_cases e : j = i
              · rw [if_pos e, if_pos e]; rfl
              · rw [if_neg e, if_neg e])
            have hM11 := hMv.own i (.int .i64 ((ct : Int) + 1))
            clear V0 V1 hV hMu hC9 hCg hC10 hMv hP9
            go_wp2
            go_roundg (p - (k + 1))
            case measure => omega
            case rel => exact ⟨k + 1, by omega, rfl, by go_num, hC11, hM11⟩
          · have g1 : decide (0 ≤ z) = false := decide_eq_false hz0
            have hC11 := hC9.congr (g := fun j => .int .i64 (cntN out j (k + 1) : Nat)) (fun j hj => by
              rw [HST.out, if_neg (by simp; omega), Nat.add_zero])
            clear hC9 hP9
            go_wp2
            go_roundg (p - (k + 1))
            case measure => omega
            case rel => exact ⟨k + 1, by omega, rfl, by go_num, hC11, hMu⟩
        · obtain rfl : k = p := by omega
          have hl8 := hl7.mod2 hM (fun h0 ad e h => by have := hAd ad e h0; omega)
          have hS8 := row_mod hSR7 hM (by omega)
          obtain ⟨we, rfl⟩ : ∃ we, we = wr := ⟨_, rfl⟩
          clear hl7 hRG7 hPR7 hSR7 hW7 hM
          go_wp2_with fail
          go_loopg [15, 16] n (fun gk s15 s16 wr => ∃ i : Nat, i ≤ n ∧ gk = n - i ∧ s15 = .int .i64 i ∧ Below we.heap.size we wr)
          case atStart => exact ⟨0, Nat.zero_le _, rfl, rfl, Below.refl _ _⟩
          case round =>
            obtain ⟨i, hi, rfl, rfl, hV⟩ := hrel
            by_cases hin : i < n
            · have hii : (i : Int) < (n : Int) := by omega
              obtain ⟨ad, rfl, hbk, y0, y1, _⟩ := (hl8.keep hV).at_ hin
              have cs := (row_keep hS8 hV).cell hin
              have cc := (row_keep hC hV).cell hin
              have HZi := Lib.hid (HZE.out i hin)
              have HFi := Lib.hid (fun j hj hw => HFA.out i j hin hj hw)
              have hle := cntN_le out i k
              obtain ⟨ct, hct⟩ : ∃ ct, ct = cntN out i k := ⟨_, rfl⟩
              rw [← hct] at cs cc HZi HFi hle
              clear hct
              obtain ⟨W, hW⟩ : ∃ W, W = (itm l i).2 := ⟨_, rfl⟩
              rw [show (l.getD i (0, 0)).2 = W from hW.symm] at y1
              rw [← hW] at HZi HFi
              clear hW y0
              have U0 := cell_under cs
              have U1 := cell_under cc
              have U2 := cell_under y1
              clear cs
              go_upto_region 26 with (fail)
              go_cut [139] (fun s wx => s = .bool false ∧ Below we.heap.size we wx)
              case first =>
                by_cases hw0 : W = 0
                · have g1 : (W == 0) = true := by rw [beq_iff_eq]; exact hw0
                  have g2 : (ct : Int) = 0 := by have := HZi.out hw0; omega
                  have g3 : ((ct : Int) != 0) = false := by rw [g2]; rfl
                  clear hw0
                  refine wp_region_quiet_under (by kernel_rfl) (by kernel_rfl) ?_
                  repeat (go_big_quiet_step ((fail)))
                  refine wpQuiet_nil ?_
                  intro wu hw'
                  obtain ⟨pq, hw''⟩ := hw'
                  have hU := below_eq hw''
                  clear hw'' pq
                  have hVu := below_step hV hU
                  go_wp2_with fail
                  go_meet
                  exact ⟨rfl, hVu⟩
                · have g1 : (W == 0) = false := by rw [beq_eq_false_iff_ne]; exact hw0
                  clear hw0
                  refine wp_region_quiet_under (by kernel_rfl) (by kernel_rfl) ?_
                  repeat (go_big_quiet_step ((fail)))
                  refine wpQuiet_nil ?_
                  intro wu hw'
                  obtain ⟨pq, hw''⟩ := hw'
                  have hU := below_eq hw''
                  clear hw'' pq
                  have hVu := below_step hV hU
                  go_wp2_with fail
                  go_meet
                  exact ⟨rfl, hVu⟩
              case rest =>
                obtain ⟨rfl, hV2⟩ := hcut
                clear hV U0 U1 U2 cc y1 hbk
                obtain ⟨wf, rfl⟩ : ∃ wf, wf = wc := ⟨_, rfl⟩
                go_wp2_with fail
                go_loopg [16] n (fun gk s16 wr => ∃ j : Nat, j ≤ n ∧ gk = n - j ∧ s16 = .int .i64 j ∧ Below wf.heap.size wf wr)
                case atStart => exact ⟨0, Nat.zero_le _, rfl, rfl, Below.refl _ _⟩
                case round =>
                  obtain ⟨j, hj, rfl, rfl, hX⟩ := hrel
                  have hY := below_step hV2 hX
                  by_cases hjn : j < n
                  · have hji : (j : Int) < (n : Int) := by omega
                    obtain ⟨ad1, e1, _, _, x1, _⟩ := (hl8.keep hY).at_ hin
                    obtain rfl : ad = ad1 := by injection e1
                    obtain ⟨ad2, e2, _, _, y1, _⟩ := (hl8.keep hY).at_ hjn
                    obtain rfl : ad = ad2 := by injection e2
                    have cc := (row_keep hC hY).cell hin
                    have cj := (row_keep hC hY).cell hjn
                    have HFj := Lib.hid (HFA.out i j hin hjn)
                    have hle2 := cntN_le out j k
                    have hle1 := cntN_le out i k
                    obtain ⟨a, ha⟩ : ∃ a, a = cntN out i k := ⟨_, rfl⟩
                    obtain ⟨b, hb⟩ : ∃ b, b = cntN out j k := ⟨_, rfl⟩
                    rw [← ha] at cc HFj hle1
                    rw [← hb] at cj HFj hle2
                    obtain ⟨Wi, hWi⟩ : ∃ W, W = (itm l i).2 := ⟨_, rfl⟩
                    obtain ⟨Wj, hWj⟩ : ∃ W, W = (itm l j).2 := ⟨_, rfl⟩
                    rw [show (l.getD i (0, 0)).2 = Wi from hWi.symm] at x1
                    rw [show (l.getD j (0, 0)).2 = Wj from hWj.symm] at y1
                    rw [← hWi, ← hWj] at HFj
                    clear hWi hWj ha hb
                    have kc : IntKind.i64.wrap ((a : Int) - 1) = (a : Int) - 1 := IntWalk.i64_in _ (by omega)
                    have U0 := cell_under cc
                    have U1 := cell_under cj
                    have U2 := cell_under x1
                    have U3 := cell_under y1
                    clear cc cj x1 y1
                    go_upto_region 31 with (fail)
                    go_cut [168] (fun s wx => s = .bool false ∧ Below wf.heap.size wf wx)
                    case first =>
                      by_cases hlt : Wi < Wj
                      · have g1 : decide (Wi < Wj) = true := decide_eq_true hlt
                        have h2 := HFj.out hlt
                        have g2 : decide ((b : Int) < (a : Int) - 1) = false := decide_eq_false (by omega)
                        have g3 : ¬ ((b : Int) < (a : Int) - 1) := by omega
                        clear hlt
                        refine wp_region_quiet_under (by kernel_rfl) (by kernel_rfl) ?_
                        repeat (go_big_quiet_step ((fail)))
                        refine wpQuiet_nil ?_
                        intro wu hw'
                        obtain ⟨pq, hw''⟩ := hw'
                        have hU := below_eq hw''
                        clear hw'' pq
                        have hXu := below_step hX hU
                        go_wp2_with fail
                        go_meet
                        exact ⟨rfl, hXu⟩
                      · have g1 : decide (Wi < Wj) = false := decide_eq_false hlt
                        clear hlt
                        refine wp_region_quiet_under (by kernel_rfl) (by kernel_rfl) ?_
                        repeat (go_big_quiet_step ((fail)))
                        refine wpQuiet_nil ?_
                        intro wu hw'
                        obtain ⟨pq, hw''⟩ := hw'
                        have hU := below_eq hw''
                        clear hw'' pq
                        have hXu := below_step hX hU
                        go_wp2_with fail
                        go_meet
                        exact ⟨rfl, hXu⟩
                    case rest =>
                      obtain ⟨rfl, hX2⟩ := hcut
                      go_wp2
                      go_roundg (n - (j + 1))
                      case measure => omega
                      case rel => exact ⟨j + 1, by omega, rfl, by go_num, hX2⟩
                  · obtain rfl : j = n := by omega
                    go_wp2
                    go_roundg (j - (i + 1))
                    case measure => omega
                    case rel => exact ⟨i + 1, by omega, rfl, by go_num, hY⟩
            · obtain rfl : i = n := by omega
              obtain ⟨K, rfl⟩ : ∃ K : Nat, key = K := ⟨key.toNat, by omega⟩
              have hRG9 := hRG8.keep hV
              have hP9 := row_keep hP8 hV
              have hW9 := below_step hW8 hV
              have hPk := fun (w : World) (h : RG w gq gl k out) => ring_Pick h hp0 hp1 K (by omega)
              have hKp : K % k < k := Nat.mod_lt _ (by omega)
              have ck := hP9.cell hKp
              have hmod : (K : Int).tmod (k : Int) = ((K % k : Nat) : Int) := by rw [Int.tmod_eq_emod_of_nonneg (by omega)]; rfl
              have hle := Nat.mod_le K k
              have kw : IntKind.u64.wrap (k : Int) = (k : Int) := by rw [IntKind.wrap_u64]; omega
              have hkz : ¬ (k : Int) = 0 := by omega
              obtain ⟨r, hr⟩ : ∃ r, r = K % k := ⟨_, rfl⟩
              rw [← hr] at hPk hKp ck hmod hle
              have kw2 : IntKind.i64.wrap (r : Int) = (r : Int) := IntWalk.i64_in _ (by omega)
              have hri : (r : Int) < (k : Int) := by omega
              obtain ⟨z, hz⟩ : ∃ z, z = out r := ⟨_, rfl⟩
              rw [← hz] at hPk ck
              clear hr hz hl8 hS8 hC hP8 hRG8 hW8 hV hP9
              have U0 := cell_under ck
              clear ck
              go_wp2_with fail
              refine wp_region_quiet_under (by kernel_rfl) (by kernel_rfl) ?_
              repeat (go_big_quiet_step (((first | (go_at_call 29; exact calls_under (hPk _ (hRG9.keep (under_below _ _)))) | (go_at_call 21; exact calls_under (law_awake39 _))))))
              refine wpQuiet_nil ?_
              intro wu hw'
              obtain ⟨pq, hw''⟩ := hw'
              have hU := below_eq hw''
              clear hw'' pq
              go_wp2
              go_ret
              exact ⟨by simp, below_step hW9 hU⟩
end Go.Proofs.Ytpedhlmcgilliaa
