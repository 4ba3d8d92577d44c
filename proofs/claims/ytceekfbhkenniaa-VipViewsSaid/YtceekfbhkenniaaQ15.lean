/- Lemmas for the claim's proof: ValidL ValidM. -/
import Derived.Test.YtceekfbhkenniaaQ13
import Derived.Test.YtceekfbhkenniaaQ14
section
/- The law's same. -/
set_option linter.unusedVariables false
namespace Go.Proofs.Ytceekfbhkenniaa
open Go.RowKit
set_option maxHeartbeats 8000000
set_option maxRecDepth 100000
theorem law19_same (a b : Conf) (w : World) (ha : IsConf w a) (hb : IsConf w b) :
    Calls Try.prog 13 #[.agg a.cells, .agg b.cells] w fun e w' => e = .returned (.bool (sameC a b)) ∧ Below w.heap.size w w' := by
  have HC := Lib.hid (show sameC a b = (a.factor == b.factor && (a.domain == b.domain && ((sameAd a.s4 b.s4 && sameAd a.s6 b.s6) && (a.nn == b.nn && (a.vn == b.vn && (a.wn == b.wn && (allI sameNd nd0 a.nodes b.nodes a.nn && (allI sameVp vp0 a.vips b.vips a.vn && allI sameVw vw0 a.views b.views a.wn)))))))) from rfl)
  obtain ⟨haN, haV, haW, _, _, _, _⟩ := ha
  obtain ⟨hbN, hbV, hbW, _, _, _, _⟩ := hb
  generalize sameC a b = SC at *
  have a1 := haN.cap
  have a2 := haN.small
  have a3 := haV.cap
  have a4 := haV.small
  have a5 := haW.cap
  have a6 := haW.small
  have b1 := hbN.cap
  have b2 := hbN.small
  have b3 := hbV.cap
  have b4 := hbV.small
  have b5 := hbW.cap
  have b6 := hbW.small
  obtain ⟨ana, ann, anc, ava, avn, avc, awa, awn, awc, af, ad, ⟨ax, ay, az⟩, ⟨au, av, aw⟩, aN, aV, aW⟩ := a
  obtain ⟨kna, knn, knc, kva, kvn, kvc, kwa, kwn, kwc, kf, kd, ⟨kx, ky, kz⟩, ⟨ku, kv, kw⟩, kN, kV, kW⟩ := b
  unfold Conf.cells
  dsimp only at *
  have P := (Blk.new w 33 #[.slice ana ann anc, .slice ava avn avc, .slice awa awn awc, .int .i64 af, .int .i64 ad, .bool ax, .int .u64 ay, .int .u64 az, .bool au, .int .u64 av, .int .u64 aw]).alloc (.cells #[.slice kna knn knc, .slice kva kvn kvc, .slice kwa kwn kwc, .int .i64 kf, .int .i64 kd, .bool kx, .int .u64 ky, .int .u64 kz, .bool ku, .int .u64 kv, .int .u64 kw] 33)
  have Q := Blk.new (w.alloc (.cells #[.slice ana ann anc, .slice ava avn avc, .slice awa awn awc, .int .i64 af, .int .i64 ad, .bool ax, .int .u64 ay, .int .u64 az, .bool au, .int .u64 av, .int .u64 aw] 33)) 33 #[.slice kna knn knc, .slice kva kvn kvc, .slice kwa kwn kwc, .int .i64 kf, .int .i64 kd, .bool kx, .int .u64 ky, .int .u64 kz, .bool ku, .int .u64 kv, .int .u64 kw]
  have hsz : (w.alloc (.cells #[.slice ana ann anc, .slice ava avn avc, .slice awa awn awc, .int .i64 af, .int .i64 ad, .bool ax, .int .u64 ay, .int .u64 az, .bool au, .int .u64 av, .int .u64 aw] 33)).heap.size = w.heap.size + 1 := by simp
  rw [hsz] at Q
  have hW : Below w.heap.size w ((w.alloc (.cells #[.slice ana ann anc, .slice ava avn avc, .slice awa awn awc, .int .i64 af, .int .i64 ad, .bool ax, .int .u64 ay, .int .u64 az, .bool au, .int .u64 av, .int .u64 aw] 33)).alloc (.cells #[.slice kna knn knc, .slice kva kvn kvc, .slice kwa kwn kwc, .int .i64 kf, .int .i64 kd, .bool kx, .int .u64 ky, .int .u64 kz, .bool ku, .int .u64 kv, .int .u64 kw] 33)) := ((Below.refl _ _).alloc (Nat.le_refl _) _).alloc (by simp) _
  have hR := fun w => run_neq_two ax au kx ku ay az av aw ky kz kv kw w
  have hG := fun x y w => eqG_two .neq x y ax au kx ku ay az av aw ky kz kv kw w
  have hE6 : ((ax == kx && ay == ky && az == kz) && (au == ku && av == kv && aw == kw)) = (sameAd ⟨ax, ay, az⟩ ⟨kx, ky, kz⟩ && sameAd ⟨au, av, aw⟩ ⟨ku, kv, kw⟩) := rfl
  rw [hE6] at hR
  clear hE6
  generalize (sameAd ⟨ax, ay, az⟩ ⟨kx, ky, kz⟩ && sameAd ⟨au, av, aw⟩ ⟨ku, kv, kw⟩) = E6 at *
  go_enter Try.func13, Try.ntmps13
  go_upto_region 1 with (fail)
  generalize ((w.alloc (.cells #[.slice ana ann anc, .slice ava avn avc, .slice awa awn awc, .int .i64 af, .int .i64 ad, .bool ax, .int .u64 ay, .int .u64 az, .bool au, .int .u64 av, .int .u64 aw] 33)).alloc (.cells #[.slice kna knn knc, .slice kva kvn kvc, .slice kwa kwn kwc, .int .i64 kf, .int .i64 kd, .bool kx, .int .u64 ky, .int .u64 kz, .bool ku, .int .u64 kv, .int .u64 kw] 33)) = u at *
  clear hsz
  obtain ⟨p0, p1, p2, p3, p4, p5, p6, p7, p8, p9, p10, _⟩ := P.cells11
  obtain ⟨q0, q1, q2, q3, q4, q5, q6, q7, q8, q9, q10, _⟩ := Q.cells11
  by_cases c0 : af = kf
  · have g0 : (af != kf) = false := by rw [bne_eq_false_iff_eq]; omega
    have f0 : (af == kf) = true := by rw [beq_iff_eq]; exact c0
    rw [f0] at HC
    replace HC := Lib.hid (HC.out.trans (Bool.true_and _))
    have K0 := Lib.hid c0
    clear f0 c0
    by_cases c1 : ad = kd
    · have g1 : (ad != kd) = false := by rw [bne_eq_false_iff_eq]; omega
      have f1 : (ad == kd) = true := by rw [beq_iff_eq]; exact c1
      rw [f1] at HC
      replace HC := Lib.hid (HC.out.trans (Bool.true_and _))
      have K1 := Lib.hid c1
      clear f1 c1
      cases E6 with
      | false =>
        have HE := Lib.hid (show SC = false by rw [HC.out]; rfl)
        replace hR : ∀ w, (binOp .neq 31 (.agg #[.bool ax, .int .u64 ay, .int .u64 az, .bool au, .int .u64 av, .int .u64 aw]) (.agg #[.bool kx, .int .u64 ky, .int .u64 kz, .bool ku, .int .u64 kv, .int .u64 kw])).run Try.prog w = .ok (.bool true) w := hR
        clear HC
        go_wp2
        go_ret
        exact ⟨by rw [HE.out]; rfl, hW⟩
      | true =>
        replace hR : ∀ w, (binOp .neq 31 (.agg #[.bool ax, .int .u64 ay, .int .u64 az, .bool au, .int .u64 av, .int .u64 aw]) (.agg #[.bool kx, .int .u64 ky, .int .u64 kz, .bool ku, .int .u64 kv, .int .u64 kw])).run Try.prog w = .ok (.bool false) w := hR
        replace HC := Lib.hid (HC.out.trans (Bool.true_and _))
        by_cases c3 : ann = knn
        · have g3 : ((ann : Int) != (knn : Int)) = false := by rw [bne_eq_false_iff_eq]; omega
          have f3 : (ann == knn) = true := by rw [beq_iff_eq]; exact c3
          rw [f3] at HC
          replace HC := Lib.hid (HC.out.trans (Bool.true_and _))
          have K3 := Lib.hid c3
          clear f3 c3
          by_cases c4 : avn = kvn
          · have g4 : ((avn : Int) != (kvn : Int)) = false := by rw [bne_eq_false_iff_eq]; omega
            have f4 : (avn == kvn) = true := by rw [beq_iff_eq]; exact c4
            rw [f4] at HC
            replace HC := Lib.hid (HC.out.trans (Bool.true_and _))
            have K4 := Lib.hid c4
            clear f4 c4
            by_cases c5 : awn = kwn
            · have g5 : ((awn : Int) != (kwn : Int)) = false := by rw [bne_eq_false_iff_eq]; omega
              have f5 : (awn == kwn) = true := by rw [beq_iff_eq]; exact c5
              rw [f5] at HC
              replace HC := Lib.hid (HC.out.trans (Bool.true_and _))
              have K5 := Lib.hid c5
              clear f5 c5
              skip
              obtain ⟨F0, hF0⟩ : ∃ F, F = allI sameNd nd0 aN kN ann := ⟨_, rfl⟩
              rw [← hF0] at HC
              have HF0 := Lib.hid hF0
              clear hF0
              go_wp2_with fail
              go_loopg [5] ann (fun gk s5 wr => ∃ i : Nat, i ≤ ann ∧ gk = ann - i ∧ s5 = .int .i64 i ∧ Hid (allI sameNd nd0 aN kN i = true) ∧ Blk wr w.heap.size 33 #[.slice ana ann anc, .slice ava avn avc, .slice awa awn awc, .int .i64 af, .int .i64 ad, .bool ax, .int .u64 ay, .int .u64 az, .bool au, .int .u64 av, .int .u64 aw] ∧ Blk wr (w.heap.size + 1) 33 #[.slice kna knn knc, .slice kva kvn kvc, .slice kwa kwn kwc, .int .i64 kf, .int .i64 kd, .bool kx, .int .u64 ky, .int .u64 kz, .bool ku, .int .u64 kv, .int .u64 kw] ∧ Below w.heap.size w wr)
              case atStart => exact ⟨0, Nat.zero_le _, rfl, rfl, Lib.hid rfl, P, Q, hW⟩
              case round =>
                clear P Q hW p0 p1 p2 p3 p4 p5 p6 p7 p8 p9 p10 q0 q1 q2 q3 q4 q5 q6 q7 q8 q9 q10
                obtain ⟨i0, hi0, rfl, rfl, HK0, P1, Q1, hW1⟩ := hrel
                obtain ⟨p0, p1, p2, p3, p4, p5, p6, p7, p8, p9, p10, _⟩ := P1.cells11
                obtain ⟨q0, q1, q2, q3, q4, q5, q6, q7, q8, q9, q10, _⟩ := Q1.cells11
                by_cases hin : i0 < ann
                · have hii : (i0 : Int) < (ann : Int) := by omega
                  have hik : (i0 : Int) < (knn : Int) := by have := K3.out; omega
                  have HB := Lib.hid (fun h => HF0.out.trans (allI_hit (p := sameNd) (z := nd0) (la := aN) (lb := kN) hin h))
                  have HG := Lib.hid (fun h => allI_step (p := sameNd) (z := nd0) (la := aN) (lb := kN) HK0.out h)
                  obtain ⟨x0, rfl, hbx, hatx⟩ := (haN.keep hW1).at_ hin
                  obtain ⟨y0, rfl, hby, haty⟩ := (hbN.keep hW1).at_ (k := i0) (by have := K3.out; omega)
                  obtain ⟨c0, c1, c2, c3, c4, c5, c6⟩ := hatx
                  obtain ⟨d0, d1, d2, d3, d4, d5, d6⟩ := haty
                  obtain ⟨X, hX⟩ : ∃ X, X = aN.getD i0 nd0 := ⟨_, rfl⟩
                  obtain ⟨Y, hY⟩ : ∃ Y, Y = kN.getD i0 nd0 := ⟨_, rfl⟩
                  rw [← hX] at HB HG c0 c1 c2 c3 c4 c5 c6
                  rw [← hY] at HB HG d0 d1 d2 d3 d4 d5 d6
                  clear hX hY
                  have U0 := cell_under c0
                  have V0 := cell_under d0
                  have U1 := cell_under c1
                  have V1 := cell_under d1
                  have U2 := cell_under c2
                  have V2 := cell_under d2
                  have U3 := cell_under c3
                  have V3 := cell_under d3
                  have U4 := cell_under c4
                  have V4 := cell_under d4
                  have U5 := cell_under c5
                  have V5 := cell_under d5
                  have U6 := cell_under c6
                  have V6 := cell_under d6
                  have UP := cell_under p0
                  have UQ := cell_under q0
                  obtain ⟨EV, hEV⟩ : ∃ EV, EV = !sameNd X Y := ⟨_, rfl⟩
                  go_upto_region 6 with (fail)
                  refine wp_region_quiet_under (by kernel_rfl) (by kernel_rfl) ?_
                  repeat (go_big_quiet_step (fail))
                  go_big_quiet_want
                  refine quiet_neq_nd (a := X) (b := Y) (E := EV) hEV.symm rfl rfl rfl ?_
                  simp only [Act.put, List.setIfInBounds_toArray, List.set_cons_zero, List.set_cons_succ]
                  go_big_quiet_on
                  repeat (go_big_quiet_step (fail))
                  refine wpQuiet_nil ?_
                  intro wu hw'
                  obtain ⟨pq, hw''⟩ := hw'
                  have hU := below_eq hw''
                  clear hw'' pq
                  have P9 := P1.keep hU
                  have Q9 := Q1.keep hU
                  have hW9 := below_step hW1 hU
                  clear P1 Q1 hW1 hU UP UQ U0 V0 U1 V1 U2 V2 U3 V3 U4 V4 U5 V5 U6 V6 c0 c1 c2 c3 c4 c5 c6 d0 d1 d2 d3 d4 d5 d6 p0 p1 p2 p3 p4 p5 p6 p7 p8 p9 p10 q0 q1 q2 q3 q4 q5 q6 q7 q8 q9 q10
                  cases EV with
                  | false =>
                    have HG2 := Lib.hid (HG.out (by simpa using hEV.symm))
                    clear HG HB hEV
                    go_wp2
                    go_roundg (ann - (i0 + 1))
                    case measure => omega
                    case rel => exact ⟨i0 + 1, by omega, rfl, by go_num, HG2, P9, Q9, hW9⟩
                  | true =>
                    have hfa := HB.out (by simpa using hEV.symm)
                    have HE := Lib.hid (show SC = false by rw [HC.out, hfa] <;> rfl)
                    clear HG HB hEV HC hfa
                    go_wp2
                    go_ret
                    exact ⟨by rw [HE.out]; rfl, hW9⟩
                · have hie : ann = i0 := by omega
                  have hft := HF0.out
                  have hkt := HK0.out
                  rw [← hie] at hkt
                  rw [hkt] at hft
                  rw [hft] at HC
                  replace HC := Lib.hid (HC.out.trans (Bool.true_and _))
                  subst hie
                  clear hft hkt HF0 HK0 hin
                  obtain ⟨F1, hF1⟩ : ∃ F, F = allI sameVp vp0 aV kV avn := ⟨_, rfl⟩
                  rw [← hF1] at HC
                  have HF1 := Lib.hid hF1
                  clear hF1
                  go_wp2_with fail
                  go_loopg [6] avn (fun gk s6 wr => ∃ i : Nat, i ≤ avn ∧ gk = avn - i ∧ s6 = .int .i64 i ∧ Hid (allI sameVp vp0 aV kV i = true) ∧ Blk wr w.heap.size 33 #[.slice ana ann anc, .slice ava avn avc, .slice awa awn awc, .int .i64 af, .int .i64 ad, .bool ax, .int .u64 ay, .int .u64 az, .bool au, .int .u64 av, .int .u64 aw] ∧ Blk wr (w.heap.size + 1) 33 #[.slice kna knn knc, .slice kva kvn kvc, .slice kwa kwn kwc, .int .i64 kf, .int .i64 kd, .bool kx, .int .u64 ky, .int .u64 kz, .bool ku, .int .u64 kv, .int .u64 kw] ∧ Below w.heap.size w wr)
                  case atStart => exact ⟨0, Nat.zero_le _, rfl, rfl, Lib.hid rfl, P1, Q1, hW1⟩
                  case round =>
                    clear P1 Q1 hW1 p0 p1 p2 p3 p4 p5 p6 p7 p8 p9 p10 q0 q1 q2 q3 q4 q5 q6 q7 q8 q9 q10
                    obtain ⟨i1, hi1, rfl, rfl, HK1, P2, Q2, hW2⟩ := hrel
                    obtain ⟨p0, p1, p2, p3, p4, p5, p6, p7, p8, p9, p10, _⟩ := P2.cells11
                    obtain ⟨q0, q1, q2, q3, q4, q5, q6, q7, q8, q9, q10, _⟩ := Q2.cells11
                    by_cases hin : i1 < avn
                    · have hii : (i1 : Int) < (avn : Int) := by omega
                      have hik : (i1 : Int) < (kvn : Int) := by have := K4.out; omega
                      have HB := Lib.hid (fun h => HF1.out.trans (allI_hit (p := sameVp) (z := vp0) (la := aV) (lb := kV) hin h))
                      have HG := Lib.hid (fun h => allI_step (p := sameVp) (z := vp0) (la := aV) (lb := kV) HK1.out h)
                      obtain ⟨x1, rfl, hbx, hatx⟩ := (haV.keep hW2).vpat_ hin
                      obtain ⟨y1, rfl, hby, haty⟩ := (hbV.keep hW2).vpat_ (k := i1) (by have := K4.out; omega)
                      obtain ⟨c0, c1, c2, c3, c4, c5, c6⟩ := hatx
                      obtain ⟨d0, d1, d2, d3, d4, d5, d6⟩ := haty
                      have hz : vpShape.z = vp0 := rfl
                      rw [hz] at c0 c1 c2 c3 c4 c5 c6 d0 d1 d2 d3 d4 d5 d6
                      clear hz
                      obtain ⟨X, hX⟩ : ∃ X, X = aV.getD i1 vp0 := ⟨_, rfl⟩
                      obtain ⟨Y, hY⟩ : ∃ Y, Y = kV.getD i1 vp0 := ⟨_, rfl⟩
                      rw [← hX] at HB HG c0 c1 c2 c3 c4 c5 c6
                      rw [← hY] at HB HG d0 d1 d2 d3 d4 d5 d6
                      clear hX hY
                      have U0 := cell_under c0
                      have V0 := cell_under d0
                      have U1 := cell_under c1
                      have V1 := cell_under d1
                      have U2 := cell_under c2
                      have V2 := cell_under d2
                      have U3 := cell_under c3
                      have V3 := cell_under d3
                      have U4 := cell_under c4
                      have V4 := cell_under d4
                      have U5 := cell_under c5
                      have V5 := cell_under d5
                      have U6 := cell_under c6
                      have V6 := cell_under d6
                      have UP := cell_under p1
                      have UQ := cell_under q1
                      obtain ⟨EV, hEV⟩ : ∃ EV, EV = !sameVp X Y := ⟨_, rfl⟩
                      go_upto_region 11 with (fail)
                      refine wp_region_quiet_under (by kernel_rfl) (by kernel_rfl) ?_
                      repeat (go_big_quiet_step (fail))
                      go_big_quiet_want
                      refine quiet_neq_vp (a := X) (b := Y) (E := EV) hEV.symm rfl rfl rfl ?_
                      simp only [Act.put, List.setIfInBounds_toArray, List.set_cons_zero, List.set_cons_succ]
                      go_big_quiet_on
                      repeat (go_big_quiet_step (fail))
                      refine wpQuiet_nil ?_
                      intro wu hw'
                      obtain ⟨pq, hw''⟩ := hw'
                      have hU := below_eq hw''
                      clear hw'' pq
                      have P9 := P2.keep hU
                      have Q9 := Q2.keep hU
                      have hW9 := below_step hW2 hU
                      clear P2 Q2 hW2 hU UP UQ U0 V0 U1 V1 U2 V2 U3 V3 U4 V4 U5 V5 U6 V6 c0 c1 c2 c3 c4 c5 c6 d0 d1 d2 d3 d4 d5 d6 p0 p1 p2 p3 p4 p5 p6 p7 p8 p9 p10 q0 q1 q2 q3 q4 q5 q6 q7 q8 q9 q10
                      cases EV with
                      | false =>
                        have HG2 := Lib.hid (HG.out (by simpa using hEV.symm))
                        clear HG HB hEV
                        go_wp2
                        go_roundg (avn - (i1 + 1))
                        case measure => omega
                        case rel => exact ⟨i1 + 1, by omega, rfl, by go_num, HG2, P9, Q9, hW9⟩
                      | true =>
                        have hfa := HB.out (by simpa using hEV.symm)
                        have HE := Lib.hid (show SC = false by rw [HC.out, hfa] <;> rfl)
                        clear HG HB hEV HC hfa
                        go_wp2
                        go_ret
                        exact ⟨by rw [HE.out]; rfl, hW9⟩
                    · have hie : avn = i1 := by omega
                      have hft := HF1.out
                      have hkt := HK1.out
                      rw [← hie] at hkt
                      rw [hkt] at hft
                      rw [hft] at HC
                      replace HC := Lib.hid (HC.out.trans (Bool.true_and _))
                      subst hie
                      clear hft hkt HF1 HK1 hin
                      obtain ⟨F2, hF2⟩ : ∃ F, F = allI sameVw vw0 aW kW awn := ⟨_, rfl⟩
                      rw [← hF2] at HC
                      have HF2 := Lib.hid hF2
                      clear hF2
                      go_wp2_with fail
                      go_loopg [7] awn (fun gk s7 wr => ∃ i : Nat, i ≤ awn ∧ gk = awn - i ∧ s7 = .int .i64 i ∧ Hid (allI sameVw vw0 aW kW i = true) ∧ Blk wr w.heap.size 33 #[.slice ana ann anc, .slice ava avn avc, .slice awa awn awc, .int .i64 af, .int .i64 ad, .bool ax, .int .u64 ay, .int .u64 az, .bool au, .int .u64 av, .int .u64 aw] ∧ Blk wr (w.heap.size + 1) 33 #[.slice kna knn knc, .slice kva kvn kvc, .slice kwa kwn kwc, .int .i64 kf, .int .i64 kd, .bool kx, .int .u64 ky, .int .u64 kz, .bool ku, .int .u64 kv, .int .u64 kw] ∧ Below w.heap.size w wr)
                      case atStart => exact ⟨0, Nat.zero_le _, rfl, rfl, Lib.hid rfl, P2, Q2, hW2⟩
                      case round =>
                        clear P2 Q2 hW2 p0 p1 p2 p3 p4 p5 p6 p7 p8 p9 p10 q0 q1 q2 q3 q4 q5 q6 q7 q8 q9 q10
                        obtain ⟨i2, hi2, rfl, rfl, HK2, P3, Q3, hW3⟩ := hrel
                        obtain ⟨p0, p1, p2, p3, p4, p5, p6, p7, p8, p9, p10, _⟩ := P3.cells11
                        obtain ⟨q0, q1, q2, q3, q4, q5, q6, q7, q8, q9, q10, _⟩ := Q3.cells11
                        by_cases hin : i2 < awn
                        · have hii : (i2 : Int) < (awn : Int) := by omega
                          have hik : (i2 : Int) < (kwn : Int) := by have := K5.out; omega
                          have HB := Lib.hid (fun h => HF2.out.trans (allI_hit (p := sameVw) (z := vw0) (la := aW) (lb := kW) hin h))
                          have HG := Lib.hid (fun h => allI_step (p := sameVw) (z := vw0) (la := aW) (lb := kW) HK2.out h)
                          obtain ⟨x2, rfl, hbx, hatx⟩ := (haW.keep hW3).vwat_ hin
                          obtain ⟨y2, rfl, hby, haty⟩ := (hbW.keep hW3).vwat_ (k := i2) (by have := K5.out; omega)
                          obtain ⟨c0, c1, c2, c3, c4⟩ := hatx
                          obtain ⟨d0, d1, d2, d3, d4⟩ := haty
                          have hz : vwShape.z = vw0 := rfl
                          rw [hz] at c0 c1 c2 c3 c4 d0 d1 d2 d3 d4
                          clear hz
                          obtain ⟨X, hX⟩ : ∃ X, X = aW.getD i2 vw0 := ⟨_, rfl⟩
                          obtain ⟨Y, hY⟩ : ∃ Y, Y = kW.getD i2 vw0 := ⟨_, rfl⟩
                          rw [← hX] at HB HG c0 c1 c2 c3 c4
                          rw [← hY] at HB HG d0 d1 d2 d3 d4
                          clear hX hY
                          have U0 := cell_under c0
                          have V0 := cell_under d0
                          have U1 := cell_under c1
                          have V1 := cell_under d1
                          have U2 := cell_under c2
                          have V2 := cell_under d2
                          have U3 := cell_under c3
                          have V3 := cell_under d3
                          have U4 := cell_under c4
                          have V4 := cell_under d4
                          have UP := cell_under p2
                          have UQ := cell_under q2
                          obtain ⟨EV, hEV⟩ : ∃ EV, EV = !sameVw X Y := ⟨_, rfl⟩
                          go_upto_region 16 with (fail)
                          refine wp_region_quiet_under (by kernel_rfl) (by kernel_rfl) ?_
                          repeat (go_big_quiet_step (fail))
                          go_big_quiet_want
                          refine quiet_neq_vw (a := X) (b := Y) (E := EV) hEV.symm rfl rfl rfl ?_
                          simp only [Act.put, List.setIfInBounds_toArray, List.set_cons_zero, List.set_cons_succ]
                          go_big_quiet_on
                          repeat (go_big_quiet_step (fail))
                          refine wpQuiet_nil ?_
                          intro wu hw'
                          obtain ⟨pq, hw''⟩ := hw'
                          have hU := below_eq hw''
                          clear hw'' pq
                          have P9 := P3.keep hU
                          have Q9 := Q3.keep hU
                          have hW9 := below_step hW3 hU
                          clear P3 Q3 hW3 hU UP UQ U0 V0 U1 V1 U2 V2 U3 V3 U4 V4 c0 c1 c2 c3 c4 d0 d1 d2 d3 d4 p0 p1 p2 p3 p4 p5 p6 p7 p8 p9 p10 q0 q1 q2 q3 q4 q5 q6 q7 q8 q9 q10
                          cases EV with
                          | false =>
                            have HG2 := Lib.hid (HG.out (by simpa using hEV.symm))
                            clear HG HB hEV
                            go_wp2
                            go_roundg (awn - (i2 + 1))
                            case measure => omega
                            case rel => exact ⟨i2 + 1, by omega, rfl, by go_num, HG2, P9, Q9, hW9⟩
                          | true =>
                            have hfa := HB.out (by simpa using hEV.symm)
                            have HE := Lib.hid (show SC = false by rw [HC.out, hfa] <;> rfl)
                            clear HG HB hEV HC hfa
                            go_wp2
                            go_ret
                            exact ⟨by rw [HE.out]; rfl, hW9⟩
                        · have hie : awn = i2 := by omega
                          have hft := HF2.out
                          have hkt := HK2.out
                          rw [← hie] at hkt
                          rw [hkt] at hft
                          rw [hft] at HC
                          subst hie
                          have HE := Lib.hid HC.out
                          clear hft hkt HF2 HK2 HC
                          go_wp2
                          go_ret
                          exact ⟨by rw [HE.out]; rfl, hW3⟩
            · have g5 : ((awn : Int) != (kwn : Int)) = true := by rw [bne_iff_ne]; omega
              have f5 : (awn == kwn) = false := by rw [beq_eq_false_iff_ne]; exact c5
              rw [f5] at HC
              have HE := Lib.hid (HC.out.trans (Bool.false_and _))
              clear f5 c5
              clear HC
              go_wp2
              go_ret
              exact ⟨by rw [HE.out]; rfl, hW⟩
          · have g4 : ((avn : Int) != (kvn : Int)) = true := by rw [bne_iff_ne]; omega
            have f4 : (avn == kvn) = false := by rw [beq_eq_false_iff_ne]; exact c4
            rw [f4] at HC
            have HE := Lib.hid (HC.out.trans (Bool.false_and _))
            clear f4 c4
            clear HC
            go_wp2
            go_ret
            exact ⟨by rw [HE.out]; rfl, hW⟩
        · have g3 : ((ann : Int) != (knn : Int)) = true := by rw [bne_iff_ne]; omega
          have f3 : (ann == knn) = false := by rw [beq_eq_false_iff_ne]; exact c3
          rw [f3] at HC
          have HE := Lib.hid (HC.out.trans (Bool.false_and _))
          clear f3 c3
          clear HC
          go_wp2
          go_ret
          exact ⟨by rw [HE.out]; rfl, hW⟩
    · have g1 : (ad != kd) = true := by rw [bne_iff_ne]; omega
      have f1 : (ad == kd) = false := by rw [beq_eq_false_iff_ne]; exact c1
      rw [f1] at HC
      have HE := Lib.hid (HC.out.trans (Bool.false_and _))
      clear f1 c1
      clear HC
      go_wp2
      go_ret
      exact ⟨by rw [HE.out]; rfl, hW⟩
  · have g0 : (af != kf) = true := by rw [bne_iff_ne]; omega
    have f0 : (af == kf) = false := by rw [beq_eq_false_iff_ne]; exact c0
    rw [f0] at HC
    have HE := Lib.hid (HC.out.trans (Bool.false_and _))
    clear f0 c0
    clear HC
    go_wp2
    go_ret
    exact ⟨by rw [HE.out]; rfl, hW⟩
end Go.Proofs.Ytceekfbhkenniaa
end
section
/- ValidSames. -/
set_option linter.unusedVariables false
namespace Go.Proofs.Ytceekfbhkenniaa
open Go.RowKit
set_option maxHeartbeats 8000000
set_option maxRecDepth 100000
theorem validSames_walk (w : World) (a : Conf) (ha : IsConf w a) (b : Conf) (hb : IsConf w b) :
    Calls Try.prog 5 #[.agg a.cells, .agg b.cells] w fun e w' => e = .returned (.bool true) ∧ Below w.heap.size w w' := by
  have hFa := fun w h => law18_Few a w h
  have hFb := fun w h => law18_Few b w h
  have hfa := ha.few
  have hfb := hb.few
  generalize a.few = s at *
  generalize b.few = t at *
  have hS1 := fun w h1 h2 => valid_Same s t w h1 h2
  have hS2 := fun w h1 h2 => law19_same s t w h1 h2
  have hS3 := fun w h1 => valid_Same s s w h1 h1
  have hS4 := sameC_self s
  rw [hS4] at hS3
  clear hS4
  generalize sameC s t = SC at *
  obtain ⟨sna, snn, snc, sva, svn, svc, swa, swn, swc, sf, sd, ⟨sx, sy, sz⟩, ⟨su, sv, sw⟩, sN, sV, sW⟩ := s
  obtain ⟨tna, tnn, tnc, tva, tvn, tvc, twa, twn, twc, tf, td, ⟨tx, ty, tz⟩, ⟨tu, tv, tw⟩, tN, tV, tW⟩ := t
  obtain ⟨ana, ann, anc, ava, avn, avc, awa, awn, awc, af, ad, ⟨ax, ay, az⟩, ⟨au, av, aw⟩, aN, aV, aW⟩ := a
  obtain ⟨kna, knn, knc, kva, kvn, kvc, kwa, kwn, kwc, kf, kd, ⟨kx, ky, kz⟩, ⟨ku, kv, kw⟩, kN, kV, kW⟩ := b
  unfold Conf.cells at *
  dsimp only at *
  have P := (Blk.new w 33 #[.slice ana ann anc, .slice ava avn avc, .slice awa awn awc, .int .i64 af, .int .i64 ad, .bool ax, .int .u64 ay, .int .u64 az, .bool au, .int .u64 av, .int .u64 aw]).alloc (.cells #[.slice kna knn knc, .slice kva kvn kvc, .slice kwa kwn kwc, .int .i64 kf, .int .i64 kd, .bool kx, .int .u64 ky, .int .u64 kz, .bool ku, .int .u64 kv, .int .u64 kw] 33)
  have Q := Blk.new (w.alloc (.cells #[.slice ana ann anc, .slice ava avn avc, .slice awa awn awc, .int .i64 af, .int .i64 ad, .bool ax, .int .u64 ay, .int .u64 az, .bool au, .int .u64 av, .int .u64 aw] 33)) 33 #[.slice kna knn knc, .slice kva kvn kvc, .slice kwa kwn kwc, .int .i64 kf, .int .i64 kd, .bool kx, .int .u64 ky, .int .u64 kz, .bool ku, .int .u64 kv, .int .u64 kw]
  have hsz : (w.alloc (.cells #[.slice ana ann anc, .slice ava avn avc, .slice awa awn awc, .int .i64 af, .int .i64 ad, .bool ax, .int .u64 ay, .int .u64 az, .bool au, .int .u64 av, .int .u64 aw] 33)).heap.size = w.heap.size + 1 := by simp
  rw [hsz] at Q
  have hW : Below w.heap.size w ((w.alloc (.cells #[.slice ana ann anc, .slice ava avn avc, .slice awa awn awc, .int .i64 af, .int .i64 ad, .bool ax, .int .u64 ay, .int .u64 az, .bool au, .int .u64 av, .int .u64 aw] 33)).alloc (.cells #[.slice kna knn knc, .slice kva kvn kvc, .slice kwa kwn kwc, .int .i64 kf, .int .i64 kd, .bool kx, .int .u64 ky, .int .u64 kz, .bool ku, .int .u64 kv, .int .u64 kw] 33)) := ((Below.refl _ _).alloc (Nat.le_refl _) _).alloc (by simp) _
  go_enter Try.func5, Try.ntmps5
  go_upto_region 1 with (fail)
  generalize ((w.alloc (.cells #[.slice ana ann anc, .slice ava avn avc, .slice awa awn awc, .int .i64 af, .int .i64 ad, .bool ax, .int .u64 ay, .int .u64 az, .bool au, .int .u64 av, .int .u64 aw] 33)).alloc (.cells #[.slice kna knn knc, .slice kva kvn kvc, .slice kwa kwn kwc, .int .i64 kf, .int .i64 kd, .bool kx, .int .u64 ky, .int .u64 kz, .bool ku, .int .u64 kv, .int .u64 kw] 33)) = u at *
  clear hsz
  obtain ⟨p0, p1, p2, p3, p4, p5, p6, p7, p8, p9, p10, _⟩ := P.cells11
  go_wp2_with fail
  refine (hFa _ (ha.keep hW)).mono ?_; rintro e w1 ⟨rfl, hx1⟩
  have P1 := P.keep hx1
  have Q1 := Q.keep hx1
  have hW1 := below_step hW hx1
  clear P Q hW hx1 p0 p1 p2 p3 p4 p5 p6 p7 p8 p9 p10 hFa
  obtain ⟨p0, p1, p2, p3, p4, p5, p6, p7, p8, p9, p10, _⟩ := P1.cells11
  obtain ⟨f0, f1, f2, f3, f4, f5, f6, f7, f8, f9, f10⟩ := P1.free11
  go_upto_region 2 with (fail)
  have P2 := P1.turn11 (.slice sna snn snc) (.slice sva svn svc) (.slice swa swn swc) (.int .i64 sf) (.int .i64 sd) (.bool sx) (.int .u64 sy) (.int .u64 sz) (.bool su) (.int .u64 sv) (.int .u64 sw)
  have hW2 := below_turn11 (g := w.heap.size) hW1 (Nat.le_refl _) (.slice sna snn snc) (.slice sva svn svc) (.slice swa swn swc) (.int .i64 sf) (.int .i64 sd) (.bool sx) (.int .u64 sy) (.int .u64 sz) (.bool su) (.int .u64 sv) (.int .u64 sw)
  have Q2 : Blk (((((((((((w1.setCell ⟨w.heap.size, 0, none⟩ (.slice sna snn snc)).setCell ⟨w.heap.size, 1, none⟩ (.slice sva svn svc)).setCell ⟨w.heap.size, 2, none⟩ (.slice swa swn swc)).setCell ⟨w.heap.size, 3, none⟩ (.int .i64 sf)).setCell ⟨w.heap.size, 4, none⟩ (.int .i64 sd)).setCell ⟨w.heap.size, 5, none⟩ (.bool sx)).setCell ⟨w.heap.size, 6, none⟩ (.int .u64 sy)).setCell ⟨w.heap.size, 7, none⟩ (.int .u64 sz)).setCell ⟨w.heap.size, 8, none⟩ (.bool su)).setCell ⟨w.heap.size, 9, none⟩ (.int .u64 sv)).setCell ⟨w.heap.size, 10, none⟩ (.int .u64 sw)) (w.heap.size + 1) 33 #[.slice kna knn knc, .slice kva kvn kvc, .slice kwa kwn kwc, .int .i64 kf, .int .i64 kd, .bool kx, .int .u64 ky, .int .u64 kz, .bool ku, .int .u64 kv, .int .u64 kw] := (((((((((((Q1.far (p := ⟨w.heap.size, 0, none⟩) (by simp) (.slice sna snn snc)).far (p := ⟨w.heap.size, 1, none⟩) (by simp) (.slice sva svn svc)).far (p := ⟨w.heap.size, 2, none⟩) (by simp) (.slice swa swn swc)).far (p := ⟨w.heap.size, 3, none⟩) (by simp) (.int .i64 sf)).far (p := ⟨w.heap.size, 4, none⟩) (by simp) (.int .i64 sd)).far (p := ⟨w.heap.size, 5, none⟩) (by simp) (.bool sx)).far (p := ⟨w.heap.size, 6, none⟩) (by simp) (.int .u64 sy)).far (p := ⟨w.heap.size, 7, none⟩) (by simp) (.int .u64 sz)).far (p := ⟨w.heap.size, 8, none⟩) (by simp) (.bool su)).far (p := ⟨w.heap.size, 9, none⟩) (by simp) (.int .u64 sv)).far (p := ⟨w.heap.size, 10, none⟩) (by simp) (.int .u64 sw))
  clear P1 Q1 hW1 p0 p1 p2 p3 p4 p5 p6 p7 p8 p9 p10 f0 f1 f2 f3 f4 f5 f6 f7 f8 f9 f10
  generalize (((((((((((w1.setCell ⟨w.heap.size, 0, none⟩ (.slice sna snn snc)).setCell ⟨w.heap.size, 1, none⟩ (.slice sva svn svc)).setCell ⟨w.heap.size, 2, none⟩ (.slice swa swn swc)).setCell ⟨w.heap.size, 3, none⟩ (.int .i64 sf)).setCell ⟨w.heap.size, 4, none⟩ (.int .i64 sd)).setCell ⟨w.heap.size, 5, none⟩ (.bool sx)).setCell ⟨w.heap.size, 6, none⟩ (.int .u64 sy)).setCell ⟨w.heap.size, 7, none⟩ (.int .u64 sz)).setCell ⟨w.heap.size, 8, none⟩ (.bool su)).setCell ⟨w.heap.size, 9, none⟩ (.int .u64 sv)).setCell ⟨w.heap.size, 10, none⟩ (.int .u64 sw)) = u2 at *
  obtain ⟨q0, q1, q2, q3, q4, q5, q6, q7, q8, q9, q10, _⟩ := Q2.cells11
  go_wp2_with fail
  refine (hFb _ (hb.keep hW2)).mono ?_; rintro e w3 ⟨rfl, hx3⟩
  have P3 := P2.keep hx3
  have Q3 := Q2.keep hx3
  have hW3 := below_step hW2 hx3
  clear P2 Q2 hW2 hx3 q0 q1 q2 q3 q4 q5 q6 q7 q8 q9 q10 hFb
  obtain ⟨q0, q1, q2, q3, q4, q5, q6, q7, q8, q9, q10, _⟩ := Q3.cells11
  obtain ⟨f0, f1, f2, f3, f4, f5, f6, f7, f8, f9, f10⟩ := Q3.free11
  go_upto_region 3 with (fail)
  have Q4 := Q3.turn11 (.slice tna tnn tnc) (.slice tva tvn tvc) (.slice twa twn twc) (.int .i64 tf) (.int .i64 td) (.bool tx) (.int .u64 ty) (.int .u64 tz) (.bool tu) (.int .u64 tv) (.int .u64 tw)
  have hW4 := below_turn11 (g := w.heap.size + 1) hW3 (Nat.le_succ _) (.slice tna tnn tnc) (.slice tva tvn tvc) (.slice twa twn twc) (.int .i64 tf) (.int .i64 td) (.bool tx) (.int .u64 ty) (.int .u64 tz) (.bool tu) (.int .u64 tv) (.int .u64 tw)
  have P4 : Blk (((((((((((w3.setCell ⟨w.heap.size + 1, 0, none⟩ (.slice tna tnn tnc)).setCell ⟨w.heap.size + 1, 1, none⟩ (.slice tva tvn tvc)).setCell ⟨w.heap.size + 1, 2, none⟩ (.slice twa twn twc)).setCell ⟨w.heap.size + 1, 3, none⟩ (.int .i64 tf)).setCell ⟨w.heap.size + 1, 4, none⟩ (.int .i64 td)).setCell ⟨w.heap.size + 1, 5, none⟩ (.bool tx)).setCell ⟨w.heap.size + 1, 6, none⟩ (.int .u64 ty)).setCell ⟨w.heap.size + 1, 7, none⟩ (.int .u64 tz)).setCell ⟨w.heap.size + 1, 8, none⟩ (.bool tu)).setCell ⟨w.heap.size + 1, 9, none⟩ (.int .u64 tv)).setCell ⟨w.heap.size + 1, 10, none⟩ (.int .u64 tw)) w.heap.size 33 #[.slice sna snn snc, .slice sva svn svc, .slice swa swn swc, .int .i64 sf, .int .i64 sd, .bool sx, .int .u64 sy, .int .u64 sz, .bool su, .int .u64 sv, .int .u64 sw] := (((((((((((P3.far (p := ⟨w.heap.size + 1, 0, none⟩) (by simp) (.slice tna tnn tnc)).far (p := ⟨w.heap.size + 1, 1, none⟩) (by simp) (.slice tva tvn tvc)).far (p := ⟨w.heap.size + 1, 2, none⟩) (by simp) (.slice twa twn twc)).far (p := ⟨w.heap.size + 1, 3, none⟩) (by simp) (.int .i64 tf)).far (p := ⟨w.heap.size + 1, 4, none⟩) (by simp) (.int .i64 td)).far (p := ⟨w.heap.size + 1, 5, none⟩) (by simp) (.bool tx)).far (p := ⟨w.heap.size + 1, 6, none⟩) (by simp) (.int .u64 ty)).far (p := ⟨w.heap.size + 1, 7, none⟩) (by simp) (.int .u64 tz)).far (p := ⟨w.heap.size + 1, 8, none⟩) (by simp) (.bool tu)).far (p := ⟨w.heap.size + 1, 9, none⟩) (by simp) (.int .u64 tv)).far (p := ⟨w.heap.size + 1, 10, none⟩) (by simp) (.int .u64 tw))
  clear P3 Q3 hW3 q0 q1 q2 q3 q4 q5 q6 q7 q8 q9 q10 f0 f1 f2 f3 f4 f5 f6 f7 f8 f9 f10
  generalize (((((((((((w3.setCell ⟨w.heap.size + 1, 0, none⟩ (.slice tna tnn tnc)).setCell ⟨w.heap.size + 1, 1, none⟩ (.slice tva tvn tvc)).setCell ⟨w.heap.size + 1, 2, none⟩ (.slice twa twn twc)).setCell ⟨w.heap.size + 1, 3, none⟩ (.int .i64 tf)).setCell ⟨w.heap.size + 1, 4, none⟩ (.int .i64 td)).setCell ⟨w.heap.size + 1, 5, none⟩ (.bool tx)).setCell ⟨w.heap.size + 1, 6, none⟩ (.int .u64 ty)).setCell ⟨w.heap.size + 1, 7, none⟩ (.int .u64 tz)).setCell ⟨w.heap.size + 1, 8, none⟩ (.bool tu)).setCell ⟨w.heap.size + 1, 9, none⟩ (.int .u64 tv)).setCell ⟨w.heap.size + 1, 10, none⟩ (.int .u64 tw)) = u4 at *
  obtain ⟨p0, p1, p2, p3, p4, p5, p6, p7, p8, p9, p10, _⟩ := P4.cells11
  obtain ⟨q0, q1, q2, q3, q4, q5, q6, q7, q8, q9, q10, _⟩ := Q4.cells11
  have hs := hfa.keep hW4
  have ht := hfb.keep hW4
  have U0 := cell_under p0
  have V0 := cell_under q0
  have U1 := cell_under p1
  have V1 := cell_under q1
  have U2 := cell_under p2
  have V2 := cell_under q2
  have U3 := cell_under p3
  have V3 := cell_under q3
  have U4 := cell_under p4
  have V4 := cell_under q4
  have U5 := cell_under p5
  have V5 := cell_under q5
  have U6 := cell_under p6
  have V6 := cell_under q6
  have U7 := cell_under p7
  have V7 := cell_under q7
  have U8 := cell_under p8
  have V8 := cell_under q8
  have U9 := cell_under p9
  have V9 := cell_under q9
  have U10 := cell_under p10
  have V10 := cell_under q10
  clear P4 Q4 p0 p1 p2 p3 p4 p5 p6 p7 p8 p9 p10 q0 q1 q2 q3 q4 q5 q6 q7 q8 q9 q10
  refine wp_region_quiet_under (by kernel_rfl) (by kernel_rfl) ?_
  repeat (go_big_quiet_step (((first | (go_at_call 16; first | (with_reducible exact calls_under (hS3 _ (hs.keep (under_below _ _)))) | (with_reducible exact calls_under (hS1 _ (hs.keep (under_below _ _)) (ht.keep (under_below _ _))))) | (go_at_call 13; exact calls_under (hS2 _ (hs.keep (under_below _ _)) (ht.keep (under_below _ _)))) | (go_at_call 9; exact calls_under (law19_awake _))))))
  refine wpQuiet_nil ?_
  intro wu hw'
  obtain ⟨pq, hw''⟩ := hw'
  have hU := below_eq hw''
  clear hw'' pq
  go_wp2
  all_goals
    go_ret
    exact ⟨by simp, below_step hW4 hU⟩
end Go.Proofs.Ytceekfbhkenniaa
end
