/- Lemmas for the claim's proof: ValidN ValidO. -/
import Derived.Test.YtceekfbhkenniaaQ13
section
/- The law's vips. -/
set_option linter.unusedVariables false
namespace Go.Proofs.Ytceekfbhkenniaa
open Go.RowKit
set_option maxHeartbeats 8000000
set_option maxRecDepth 100000
theorem any_take_hit {α : Type} {z : α} {p : α → Bool} {l : List α} {k i : Nat} (hk : k < i) (hi : i ≤ l.length) (h2 : p (l.getD k z) = true) : (l.take i).any p = true := by
  refine any_hitG (z := z) (k := k) (by rw [List.length_take]; omega) ?_
  have : (l.take i).getD k z = l.getD k z := by
    rw [List.getD_eq_getElem?_getD, List.getD_eq_getElem?_getD, List.getElem?_take, if_pos hk]
  rw [this]; exact h2
theorem law19_vips (A : Option Addr) (n c : Nat) (l : List Vp) (w : World) (hl : IsRow vpShape w A n c l) :
    Calls Try.prog 35 #[.slice A n c] w fun e w' => e = .returned (.int .i64 (vipsI l)) ∧ Below w.heap.size w w' := by
  obtain ⟨f, hf⟩ : ∃ f : Nat → Int, f = fun i => vipI (l.getD i vp0) (l.take i) := ⟨_, rfl⟩
  have HV := Lib.hid (show vipsI l = errTo f n by rw [hf, ← hl.len]; rfl)
  have HF := Lib.hid hf
  clear hf
  generalize vipsI l = VS at *
  have hcap := hl.cap
  have hsm := hl.small
  have hrc := hl.reach
  have hlen := Lib.hid hl.len
  go_enter Try.func35, Try.ntmps35
  go_wp2_with fail
  go_loopg [3, 4, 5] n (fun gk s3 s4 s5 wr => ∃ i : Nat, i ≤ n ∧ gk = n - i ∧ s3 = .int .i64 i ∧ Hid (errTo f i = 0) ∧ Below w.heap.size w wr)
  case atStart => exact ⟨0, Nat.zero_le _, rfl, rfl, Lib.hid rfl, Below.refl _ _⟩
  case round =>
    obtain ⟨i, hi, rfl, rfl, HK, hW⟩ := hrel
    obtain ⟨wo, rfl⟩ : ∃ wo, wo = wr := ⟨_, rfl⟩
    by_cases hin : i < n
    · have hii : (i : Int) < (n : Int) := by omega
      have HB := Lib.hid (fun h => HV.out.trans (errTo_hit (f := f) HK.out h n hin))
      have HG := Lib.hid (fun h => errTo_none (f := f) HK.out h)
      have hfi := congrFun HF.out i
      (try dsimp only at hfi)
      have hil : i ≤ l.length := by rw [hlen.out]; omega
      have HT := Lib.hid (fun v k hk h1 h2 => any_stepG (z := vp0) (p := fun x => sameKey x v) (l := l) (k := k) hk h1 h2)
      have HH := Lib.hid (fun v k hk h2 => any_take_hit (z := vp0) (p := fun x => sameKey x v) (l := l) (k := k) (i := i) hk hil h2)
      obtain ⟨ad, rfl, hbk, hat⟩ := (hl.keep hW).vpat_ hin
      obtain ⟨c0, c1, c2, c3, c4, c5, c6⟩ := hat
      have hvp : vpShape.z = vp0 := rfl
      rw [hvp] at c0 c1 c2 c3 c4 c5 c6
      have HR8 := Lib.hid (fun h h2 => hfi.trans (vipI_twice (v := l.getD i vp0) (l := l.take i) h h2))
      have HR0 := Lib.hid (fun h h2 => hfi.trans (vipI_zero (v := l.getD i vp0) (l := l.take i) h h2))
      have HRH := Lib.hid (fun h => hfi.trans (vipI_head (v := l.getD i vp0) (l := l.take i) h))
      have HSK := Lib.hid (fun x => show sameKey x (l.getD i vp0) = ((x.six == (l.getD i vp0).six && x.hi == (l.getD i vp0).hi && x.lo == (l.getD i vp0).lo) && x.proto == (l.getD i vp0).proto && x.port == (l.getD i vp0).port) from rfl)
      clear hvp hfi HK hil
      replace HT := Lib.hid (HT.out (l.getD i vp0))
      replace HH := Lib.hid (HH.out (l.getD i vp0))
      obtain ⟨v, hv⟩ : ∃ v, v = l.getD i vp0 := ⟨_, rfl⟩
      rw [← hv] at HR8 HR0 HRH HSK HT HH c0 c1 c2 c3 c4 c5 c6
      clear hv
      have HN := Lib.hid (show (l.take 0).any (fun x => sameKey x v) = false from rfl)
      obtain ⟨six, hi', lo, proto, port, copies, nat⟩ := v
      dsimp only at *
      go_upto_region 5 with (fail)
      have Q := Blk.new wo 35 #[.bool six, .int .u64 hi', .int .u64 lo, .int .i64 proto, .int .i64 port, .int .i64 copies, .bool nat]
      have hW1 := hW.alloc hW.size (.cells #[.bool six, .int .u64 hi', .int .u64 lo, .int .i64 proto, .int .i64 port, .int .i64 copies, .bool nat] 35)
      have hwr := hW.size
      clear hW c0 c1 c2 c3 c4 c5 c6
      generalize wo.alloc (.cells #[.bool six, .int .u64 hi', .int .u64 lo, .int .i64 proto, .int .i64 port, .int .i64 copies, .bool nat] 35) = u1 at *
      obtain ⟨q0, q1, q2, q3, q4, q5, q6, _⟩ := Q.cells7
      go_wp2_with fail
      refine (addr_Right six hi' lo _).mono ?_; rintro e w2 ⟨rfl, hx2⟩
      have Q2 := Q.keep hx2
      have hW2 := below_step hW1 hx2
      clear Q hW1 hx2 q0 q1 q2 q3 q4 q5 q6
      obtain ⟨q0, q1, q2, q3, q4, q5, q6, _⟩ := Q2.cells7
      cases hA : addrOk six hi' lo with
      | false =>
        have h18 : vipHead ⟨six, hi', lo, proto, port, copies, nat⟩ = 18 := by unfold vipHead; dsimp only; rw [if_pos hA]
        have hfi := (HRH.out (by rw [h18]; decide)).trans h18
        have HE := Lib.hid ((HB.out (by rw [hfi]; decide)).trans hfi)
        clear HB HG HR8 HR0 HRH hA h18 hfi HT HH
        go_wp2
        go_ret
        exact ⟨by rw [HE.out]; rfl, hW2⟩
      | true =>
        by_cases hv0 : vipHead ⟨six, hi', lo, proto, port, copies, nat⟩ = 0
        · obtain ⟨_, k0, k1, hcs⟩ := vip_cases _ hv0
          dsimp only at k0 k1 hcs
          replace HR8 := Lib.hid (HR8.out hv0)
          replace HR0 := Lib.hid (HR0.out hv0)
          clear HRH hv0 hA
          have g0 : decide (port < 0) = false := decide_eq_false (by omega)
          have g1 : decide (65535 < port) = false := decide_eq_false (by omega)
          have g2 : decide (copies < 1) = false := decide_eq_false (by omega)
          have g3 : decide (8 < copies) = false := decide_eq_false (by omega)
          rcases hcs with ⟨rfl, rfl⟩ | ⟨rfl, rfl⟩ | ⟨rfl, q4', q5'⟩
          · go_wp2_with fail
            go_loopg [5] i (fun gk s5 wr => ∃ k : Nat, k ≤ i ∧ gk = i - k ∧ s5 = .int .i64 k ∧ Hid ((l.take k).any (fun x => sameKey x _) = false) ∧ Blk wr wo.heap.size 35 _ ∧ Below w.heap.size w wr)
            case atStart => exact ⟨0, Nat.zero_le _, rfl, rfl, HN, Q2, hW2⟩
            case round =>
              clear Q2 hW2 q0 q1 q2 q3 q4 q5 q6
              obtain ⟨k, hk, rfl, rfl, HK, Q3, hW3⟩ := hrel
              obtain ⟨q0, q1, q2, q3, q4, q5, q6, _⟩ := Q3.cells7
              by_cases hki : k < i
              · have hkii : (k : Int) < (i : Int) := by omega
                have hkn : (k : Int) < (n : Int) := by omega
                have HT2 := Lib.hid (HT.out k (by rw [hlen.out]; omega) HK.out)
                have HH2 := Lib.hid (HH.out k hki)
                have HS2 := Lib.hid (HSK.out (l.getD k vp0))
                obtain ⟨ad2, e2, hbk2, hat2⟩ := (hl.keep hW3).vpat_ (k := k) (by omega)
                obtain rfl := Option.some.inj e2
                obtain ⟨d0, d1, d2, d3, d4, _, _⟩ := hat2
                have hvp : vpShape.z = vp0 := rfl
                rw [hvp] at d0 d1 d2 d3 d4
                clear hvp HK HT HH HSK e2
                generalize l.getD k vp0 = y at *
                obtain ⟨y6, yh, yl, yp, yo, yc, yn⟩ := y
                dsimp only at *
                have U0 := cell_under d0
                have U1 := cell_under d1
                have U2 := cell_under d2
                have U3 := cell_under d3
                have U4 := cell_under d4
                have V0 := cell_under q0
                have V1 := cell_under q1
                have V2 := cell_under q2
                have V3 := cell_under q3
                have V4 := cell_under q4
                clear d0 d1 d2 d3 d4 q0 q1 q2 q3 q4 q5 q6
                go_wp2_with fail
                obtain ⟨E1, hE1⟩ : ∃ E, E = (y6 == six && yh == hi' && yl == lo) := ⟨_, rfl⟩
                have HEA := Lib.hid hE1.symm
                rw [← hE1] at HS2
                clear hE1
                cases E1 with
                | false =>
                  have HG2 := Lib.hid (HT2.out HS2.out)
                  refine wp_region_quiet_under (by kernel_rfl) (by kernel_rfl) ?_
                  repeat (go_big_quiet_step (fail))
                  go_big_quiet_want
                  refine quiet_eq_addr HEA.out rfl rfl rfl ?_
                  simp only [Act.put, List.setIfInBounds_toArray, List.set_cons_zero, List.set_cons_succ]
                  go_big_quiet_on
                  repeat (go_big_quiet_step (fail))
                  refine wpQuiet_nil ?_
                  intro wu hw'
                  obtain ⟨pq, hw''⟩ := hw'
                  have hU := below_eq hw''
                  clear hw'' pq
                  have Q4 := Q3.keep hU
                  have hW4 := below_step hW3 hU
                  go_wp2
                  go_roundg (i - (k + 1))
                  case measure => omega
                  case rel => exact ⟨k + 1, by omega, rfl, by go_num, HG2, Q4, hW4⟩
                | true =>
                  by_cases hyp : yp = 6
                  · have m1 : (yp == 6) = true := by rw [beq_iff_eq]; exact hyp
                    rw [m1] at HS2
                    by_cases hyo : yo = port
                    · have m2 : (yo == port) = true := by rw [beq_iff_eq]; exact hyo
                      rw [m2] at HS2
                      have hfi := HR8.out (HH2.out HS2.out)
                      have HE := Lib.hid ((HB.out (by rw [hfi]; decide)).trans hfi)
                      clear hyp hyo HB HG HR8 HR0 hfi HH2 HT2 HS2
                      refine wp_region_quiet_under (by kernel_rfl) (by kernel_rfl) ?_
                      repeat (go_big_quiet_step (fail))
                      go_big_quiet_want
                      refine quiet_eq_addr HEA.out rfl rfl rfl ?_
                      simp only [Act.put, List.setIfInBounds_toArray, List.set_cons_zero, List.set_cons_succ]
                      go_big_quiet_on
                      repeat (go_big_quiet_step (fail))
                      refine wpQuiet_nil ?_
                      intro wu hw'
                      obtain ⟨pq, hw''⟩ := hw'
                      have hU := below_eq hw''
                      clear hw'' pq
                      have Q4 := Q3.keep hU
                      have hW4 := below_step hW3 hU
                      go_wp2
                      go_ret
                      exact ⟨by rw [HE.out]; rfl, hW4⟩
                    · have m2 : (yo == port) = false := by rw [beq_eq_false_iff_ne]; exact hyo
                      rw [m2] at HS2
                      have HG2 := Lib.hid (HT2.out HS2.out)
                      clear hyp hyo
                      refine wp_region_quiet_under (by kernel_rfl) (by kernel_rfl) ?_
                      repeat (go_big_quiet_step (fail))
                      go_big_quiet_want
                      refine quiet_eq_addr HEA.out rfl rfl rfl ?_
                      simp only [Act.put, List.setIfInBounds_toArray, List.set_cons_zero, List.set_cons_succ]
                      go_big_quiet_on
                      repeat (go_big_quiet_step (fail))
                      refine wpQuiet_nil ?_
                      intro wu hw'
                      obtain ⟨pq, hw''⟩ := hw'
                      have hU := below_eq hw''
                      clear hw'' pq
                      have Q4 := Q3.keep hU
                      have hW4 := below_step hW3 hU
                      go_wp2
                      go_roundg (i - (k + 1))
                      case measure => omega
                      case rel => exact ⟨k + 1, by omega, rfl, by go_num, HG2, Q4, hW4⟩
                  · have m1 : (yp == 6) = false := by rw [beq_eq_false_iff_ne]; exact hyp
                    rw [m1] at HS2
                    have HG2 := Lib.hid (HT2.out HS2.out)
                    clear hyp
                    refine wp_region_quiet_under (by kernel_rfl) (by kernel_rfl) ?_
                    repeat (go_big_quiet_step (fail))
                    go_big_quiet_want
                    refine quiet_eq_addr HEA.out rfl rfl rfl ?_
                    simp only [Act.put, List.setIfInBounds_toArray, List.set_cons_zero, List.set_cons_succ]
                    go_big_quiet_on
                    repeat (go_big_quiet_step (fail))
                    refine wpQuiet_nil ?_
                    intro wu hw'
                    obtain ⟨pq, hw''⟩ := hw'
                    have hU := below_eq hw''
                    clear hw'' pq
                    have Q4 := Q3.keep hU
                    have hW4 := below_step hW3 hU
                    go_wp2
                    go_roundg (i - (k + 1))
                    case measure => omega
                    case rel => exact ⟨k + 1, by omega, rfl, by go_num, HG2, Q4, hW4⟩
              · obtain rfl : k = i := by omega
                have hfi := HR0.out HK.out
                have HE := Lib.hid (HG.out hfi)
                clear HB HG HR8 HR0 hfi HT HH HSK HK
                go_wp2
                go_roundg (n - (k + 1))
                case measure => omega
                case rel => exact ⟨k + 1, by omega, rfl, by go_num, HE, hW3⟩
          · go_wp2_with fail
            go_loopg [5] i (fun gk s5 wr => ∃ k : Nat, k ≤ i ∧ gk = i - k ∧ s5 = .int .i64 k ∧ Hid ((l.take k).any (fun x => sameKey x _) = false) ∧ Blk wr wo.heap.size 35 _ ∧ Below w.heap.size w wr)
            case atStart => exact ⟨0, Nat.zero_le _, rfl, rfl, HN, Q2, hW2⟩
            case round =>
              clear Q2 hW2 q0 q1 q2 q3 q4 q5 q6
              obtain ⟨k, hk, rfl, rfl, HK, Q3, hW3⟩ := hrel
              obtain ⟨q0, q1, q2, q3, q4, q5, q6, _⟩ := Q3.cells7
              by_cases hki : k < i
              · have hkii : (k : Int) < (i : Int) := by omega
                have hkn : (k : Int) < (n : Int) := by omega
                have HT2 := Lib.hid (HT.out k (by rw [hlen.out]; omega) HK.out)
                have HH2 := Lib.hid (HH.out k hki)
                have HS2 := Lib.hid (HSK.out (l.getD k vp0))
                obtain ⟨ad2, e2, hbk2, hat2⟩ := (hl.keep hW3).vpat_ (k := k) (by omega)
                obtain rfl := Option.some.inj e2
                obtain ⟨d0, d1, d2, d3, d4, _, _⟩ := hat2
                have hvp : vpShape.z = vp0 := rfl
                rw [hvp] at d0 d1 d2 d3 d4
                clear hvp HK HT HH HSK e2
                generalize l.getD k vp0 = y at *
                obtain ⟨y6, yh, yl, yp, yo, yc, yn⟩ := y
                dsimp only at *
                have U0 := cell_under d0
                have U1 := cell_under d1
                have U2 := cell_under d2
                have U3 := cell_under d3
                have U4 := cell_under d4
                have V0 := cell_under q0
                have V1 := cell_under q1
                have V2 := cell_under q2
                have V3 := cell_under q3
                have V4 := cell_under q4
                clear d0 d1 d2 d3 d4 q0 q1 q2 q3 q4 q5 q6
                go_wp2_with fail
                obtain ⟨E1, hE1⟩ : ∃ E, E = (y6 == six && yh == hi' && yl == lo) := ⟨_, rfl⟩
                have HEA := Lib.hid hE1.symm
                rw [← hE1] at HS2
                clear hE1
                cases E1 with
                | false =>
                  have HG2 := Lib.hid (HT2.out HS2.out)
                  refine wp_region_quiet_under (by kernel_rfl) (by kernel_rfl) ?_
                  repeat (go_big_quiet_step (fail))
                  go_big_quiet_want
                  refine quiet_eq_addr HEA.out rfl rfl rfl ?_
                  simp only [Act.put, List.setIfInBounds_toArray, List.set_cons_zero, List.set_cons_succ]
                  go_big_quiet_on
                  repeat (go_big_quiet_step (fail))
                  refine wpQuiet_nil ?_
                  intro wu hw'
                  obtain ⟨pq, hw''⟩ := hw'
                  have hU := below_eq hw''
                  clear hw'' pq
                  have Q4 := Q3.keep hU
                  have hW4 := below_step hW3 hU
                  go_wp2
                  go_roundg (i - (k + 1))
                  case measure => omega
                  case rel => exact ⟨k + 1, by omega, rfl, by go_num, HG2, Q4, hW4⟩
                | true =>
                  by_cases hyp : yp = 17
                  · have m1 : (yp == 17) = true := by rw [beq_iff_eq]; exact hyp
                    rw [m1] at HS2
                    by_cases hyo : yo = port
                    · have m2 : (yo == port) = true := by rw [beq_iff_eq]; exact hyo
                      rw [m2] at HS2
                      have hfi := HR8.out (HH2.out HS2.out)
                      have HE := Lib.hid ((HB.out (by rw [hfi]; decide)).trans hfi)
                      clear hyp hyo HB HG HR8 HR0 hfi HH2 HT2 HS2
                      refine wp_region_quiet_under (by kernel_rfl) (by kernel_rfl) ?_
                      repeat (go_big_quiet_step (fail))
                      go_big_quiet_want
                      refine quiet_eq_addr HEA.out rfl rfl rfl ?_
                      simp only [Act.put, List.setIfInBounds_toArray, List.set_cons_zero, List.set_cons_succ]
                      go_big_quiet_on
                      repeat (go_big_quiet_step (fail))
                      refine wpQuiet_nil ?_
                      intro wu hw'
                      obtain ⟨pq, hw''⟩ := hw'
                      have hU := below_eq hw''
                      clear hw'' pq
                      have Q4 := Q3.keep hU
                      have hW4 := below_step hW3 hU
                      go_wp2
                      go_ret
                      exact ⟨by rw [HE.out]; rfl, hW4⟩
                    · have m2 : (yo == port) = false := by rw [beq_eq_false_iff_ne]; exact hyo
                      rw [m2] at HS2
                      have HG2 := Lib.hid (HT2.out HS2.out)
                      clear hyp hyo
                      refine wp_region_quiet_under (by kernel_rfl) (by kernel_rfl) ?_
                      repeat (go_big_quiet_step (fail))
                      go_big_quiet_want
                      refine quiet_eq_addr HEA.out rfl rfl rfl ?_
                      simp only [Act.put, List.setIfInBounds_toArray, List.set_cons_zero, List.set_cons_succ]
                      go_big_quiet_on
                      repeat (go_big_quiet_step (fail))
                      refine wpQuiet_nil ?_
                      intro wu hw'
                      obtain ⟨pq, hw''⟩ := hw'
                      have hU := below_eq hw''
                      clear hw'' pq
                      have Q4 := Q3.keep hU
                      have hW4 := below_step hW3 hU
                      go_wp2
                      go_roundg (i - (k + 1))
                      case measure => omega
                      case rel => exact ⟨k + 1, by omega, rfl, by go_num, HG2, Q4, hW4⟩
                  · have m1 : (yp == 17) = false := by rw [beq_eq_false_iff_ne]; exact hyp
                    rw [m1] at HS2
                    have HG2 := Lib.hid (HT2.out HS2.out)
                    clear hyp
                    refine wp_region_quiet_under (by kernel_rfl) (by kernel_rfl) ?_
                    repeat (go_big_quiet_step (fail))
                    go_big_quiet_want
                    refine quiet_eq_addr HEA.out rfl rfl rfl ?_
                    simp only [Act.put, List.setIfInBounds_toArray, List.set_cons_zero, List.set_cons_succ]
                    go_big_quiet_on
                    repeat (go_big_quiet_step (fail))
                    refine wpQuiet_nil ?_
                    intro wu hw'
                    obtain ⟨pq, hw''⟩ := hw'
                    have hU := below_eq hw''
                    clear hw'' pq
                    have Q4 := Q3.keep hU
                    have hW4 := below_step hW3 hU
                    go_wp2
                    go_roundg (i - (k + 1))
                    case measure => omega
                    case rel => exact ⟨k + 1, by omega, rfl, by go_num, HG2, Q4, hW4⟩
              · obtain rfl : k = i := by omega
                have hfi := HR0.out HK.out
                have HE := Lib.hid (HG.out hfi)
                clear HB HG HR8 HR0 hfi HT HH HSK HK
                go_wp2
                go_roundg (n - (k + 1))
                case measure => omega
                case rel => exact ⟨k + 1, by omega, rfl, by go_num, HE, hW3⟩
          · have q6' := decide_eq_true q4'
            go_wp2_with fail
            go_loopg [5] i (fun gk s5 wr => ∃ k : Nat, k ≤ i ∧ gk = i - k ∧ s5 = .int .i64 k ∧ Hid ((l.take k).any (fun x => sameKey x _) = false) ∧ Blk wr wo.heap.size 35 _ ∧ Below w.heap.size w wr)
            case atStart => exact ⟨0, Nat.zero_le _, rfl, rfl, HN, Q2, hW2⟩
            case round =>
              clear Q2 hW2 q0 q1 q2 q3 q4 q5 q6
              obtain ⟨k, hk, rfl, rfl, HK, Q3, hW3⟩ := hrel
              obtain ⟨q0, q1, q2, q3, q4, q5, q6, _⟩ := Q3.cells7
              by_cases hki : k < i
              · have hkii : (k : Int) < (i : Int) := by omega
                have hkn : (k : Int) < (n : Int) := by omega
                have HT2 := Lib.hid (HT.out k (by rw [hlen.out]; omega) HK.out)
                have HH2 := Lib.hid (HH.out k hki)
                have HS2 := Lib.hid (HSK.out (l.getD k vp0))
                obtain ⟨ad2, e2, hbk2, hat2⟩ := (hl.keep hW3).vpat_ (k := k) (by omega)
                obtain rfl := Option.some.inj e2
                obtain ⟨d0, d1, d2, d3, d4, _, _⟩ := hat2
                have hvp : vpShape.z = vp0 := rfl
                rw [hvp] at d0 d1 d2 d3 d4
                clear hvp HK HT HH HSK e2
                generalize l.getD k vp0 = y at *
                obtain ⟨y6, yh, yl, yp, yo, yc, yn⟩ := y
                dsimp only at *
                have U0 := cell_under d0
                have U1 := cell_under d1
                have U2 := cell_under d2
                have U3 := cell_under d3
                have U4 := cell_under d4
                have V0 := cell_under q0
                have V1 := cell_under q1
                have V2 := cell_under q2
                have V3 := cell_under q3
                have V4 := cell_under q4
                clear d0 d1 d2 d3 d4 q0 q1 q2 q3 q4 q5 q6
                go_wp2_with fail
                obtain ⟨E1, hE1⟩ : ∃ E, E = (y6 == six && yh == hi' && yl == lo) := ⟨_, rfl⟩
                have HEA := Lib.hid hE1.symm
                rw [← hE1] at HS2
                clear hE1
                cases E1 with
                | false =>
                  have HG2 := Lib.hid (HT2.out HS2.out)
                  refine wp_region_quiet_under (by kernel_rfl) (by kernel_rfl) ?_
                  repeat (go_big_quiet_step (fail))
                  go_big_quiet_want
                  refine quiet_eq_addr HEA.out rfl rfl rfl ?_
                  simp only [Act.put, List.setIfInBounds_toArray, List.set_cons_zero, List.set_cons_succ]
                  go_big_quiet_on
                  repeat (go_big_quiet_step (fail))
                  refine wpQuiet_nil ?_
                  intro wu hw'
                  obtain ⟨pq, hw''⟩ := hw'
                  have hU := below_eq hw''
                  clear hw'' pq
                  have Q4 := Q3.keep hU
                  have hW4 := below_step hW3 hU
                  go_wp2
                  go_roundg (i - (k + 1))
                  case measure => omega
                  case rel => exact ⟨k + 1, by omega, rfl, by go_num, HG2, Q4, hW4⟩
                | true =>
                  by_cases hyp : yp = 17
                  · have m1 : (yp == 17) = true := by rw [beq_iff_eq]; exact hyp
                    rw [m1] at HS2
                    by_cases hyo : yo = port
                    · have m2 : (yo == port) = true := by rw [beq_iff_eq]; exact hyo
                      rw [m2] at HS2
                      have hfi := HR8.out (HH2.out HS2.out)
                      have HE := Lib.hid ((HB.out (by rw [hfi]; decide)).trans hfi)
                      clear hyp hyo HB HG HR8 HR0 hfi HH2 HT2 HS2
                      refine wp_region_quiet_under (by kernel_rfl) (by kernel_rfl) ?_
                      repeat (go_big_quiet_step (fail))
                      go_big_quiet_want
                      refine quiet_eq_addr HEA.out rfl rfl rfl ?_
                      simp only [Act.put, List.setIfInBounds_toArray, List.set_cons_zero, List.set_cons_succ]
                      go_big_quiet_on
                      repeat (go_big_quiet_step (fail))
                      refine wpQuiet_nil ?_
                      intro wu hw'
                      obtain ⟨pq, hw''⟩ := hw'
                      have hU := below_eq hw''
                      clear hw'' pq
                      have Q4 := Q3.keep hU
                      have hW4 := below_step hW3 hU
                      go_wp2
                      go_ret
                      exact ⟨by rw [HE.out]; rfl, hW4⟩
                    · have m2 : (yo == port) = false := by rw [beq_eq_false_iff_ne]; exact hyo
                      rw [m2] at HS2
                      have HG2 := Lib.hid (HT2.out HS2.out)
                      clear hyp hyo
                      refine wp_region_quiet_under (by kernel_rfl) (by kernel_rfl) ?_
                      repeat (go_big_quiet_step (fail))
                      go_big_quiet_want
                      refine quiet_eq_addr HEA.out rfl rfl rfl ?_
                      simp only [Act.put, List.setIfInBounds_toArray, List.set_cons_zero, List.set_cons_succ]
                      go_big_quiet_on
                      repeat (go_big_quiet_step (fail))
                      refine wpQuiet_nil ?_
                      intro wu hw'
                      obtain ⟨pq, hw''⟩ := hw'
                      have hU := below_eq hw''
                      clear hw'' pq
                      have Q4 := Q3.keep hU
                      have hW4 := below_step hW3 hU
                      go_wp2
                      go_roundg (i - (k + 1))
                      case measure => omega
                      case rel => exact ⟨k + 1, by omega, rfl, by go_num, HG2, Q4, hW4⟩
                  · have m1 : (yp == 17) = false := by rw [beq_eq_false_iff_ne]; exact hyp
                    rw [m1] at HS2
                    have HG2 := Lib.hid (HT2.out HS2.out)
                    clear hyp
                    refine wp_region_quiet_under (by kernel_rfl) (by kernel_rfl) ?_
                    repeat (go_big_quiet_step (fail))
                    go_big_quiet_want
                    refine quiet_eq_addr HEA.out rfl rfl rfl ?_
                    simp only [Act.put, List.setIfInBounds_toArray, List.set_cons_zero, List.set_cons_succ]
                    go_big_quiet_on
                    repeat (go_big_quiet_step (fail))
                    refine wpQuiet_nil ?_
                    intro wu hw'
                    obtain ⟨pq, hw''⟩ := hw'
                    have hU := below_eq hw''
                    clear hw'' pq
                    have Q4 := Q3.keep hU
                    have hW4 := below_step hW3 hU
                    go_wp2
                    go_roundg (i - (k + 1))
                    case measure => omega
                    case rel => exact ⟨k + 1, by omega, rfl, by go_num, HG2, Q4, hW4⟩
              · obtain rfl : k = i := by omega
                have hfi := HR0.out HK.out
                have HE := Lib.hid (HG.out hfi)
                clear HB HG HR8 HR0 hfi HT HH HSK HK
                go_wp2
                go_roundg (n - (k + 1))
                case measure => omega
                case rel => exact ⟨k + 1, by omega, rfl, by go_num, HE, hW3⟩
        · have hfi := HRH.out hv0
          have HE := Lib.hid ((HB.out (by rw [hfi]; exact hv0)).trans hfi)
          clear HB HG HR8 HR0 HRH hfi HT HH HSK HN
          have H0 := Lib.hid hv0
          clear hv0
          have hcs : proto = 6 ∨ proto = 17 ∨ (proto ≠ 6 ∧ proto ≠ 17) := by omega
          rcases hcs with rfl | rfl | ⟨z1, z2⟩
          · have W5 := Lib.hid (fun (h : port < 0 ∨ 65535 < port ∨ copies < 1 ∨ 1 < copies) => HE.out.trans (vh5 (nat := nat) (port := port) (copies := copies) hA (.inl rfl) (by omega)))
            have W0 := Lib.hid (fun (a : 0 ≤ port ∧ port ≤ 65535 ∧ 1 ≤ copies ∧ copies ≤ 1) => H0.out (vh0 (nat := nat) (port := port) (copies := copies) hA (.inl rfl) (by omega) (by omega) (by omega) (by omega) (by omega)))
            clear H0 hA HE
            go_wp2
            all_goals first
              | (focus (exfalso; refine W0.out ?_; omega))
              | (focus (go_ret; refine ⟨ret_int (W5.out ?_).symm, hW2⟩; omega))
          · have W5 := Lib.hid (fun (h : port < 0 ∨ 65535 < port ∨ copies < 1 ∨ 8 < copies) => HE.out.trans (vh5 (nat := nat) (port := port) (copies := copies) hA (.inr rfl) (by omega)))
            have W0 := Lib.hid (fun (a : 0 ≤ port ∧ port ≤ 65535 ∧ 1 ≤ copies ∧ copies ≤ 8) => H0.out (vh0 (nat := nat) (port := port) (copies := copies) hA (.inr rfl) (by omega) (by omega) (by omega) (by omega) (by omega)))
            clear H0 hA HE
            go_wp2
            all_goals first
              | (focus (exfalso; refine W0.out ?_; omega))
              | (focus (go_ret; refine ⟨ret_int (W5.out ?_).symm, hW2⟩; omega))
          · have W := Lib.hid (HE.out.trans (vh14 (nat := nat) (port := port) (copies := copies) hA z1 z2))
            have g1 : (proto != 6) = true := by simpa using z1
            have g2 : (proto != 17) = true := by simpa using z2
            clear H0 hA z1 z2 HE
            go_wp2
            go_ret
            exact ⟨ret_int W.out.symm, hW2⟩
    · obtain rfl : i = n := by omega
      have HE := Lib.hid (HV.out.trans HK.out)
      clear HV HF
      go_wp2
      go_ret
      exact ⟨by rw [HE.out]; rfl, hW⟩
end Go.Proofs.Ytceekfbhkenniaa
end
section
/- The law's views. -/
set_option linter.unusedVariables false
namespace Go.Proofs.Ytceekfbhkenniaa
open Go.RowKit
set_option maxHeartbeats 8000000
set_option maxRecDepth 100000
theorem eq_pfx (a a' : Bool) (p q b p' q' b' : Int) (w : World) : (Op.equalIn 10000 37 (.agg #[.bool a, .int .u64 p, .int .u64 q, .int .i64 b]) (.agg #[.bool a', .int .u64 p', .int .u64 q', .int .i64 b'])).run Try.prog w = .ok ((a == a' && p == p' && q == q') && b == b') w := by
  go_simp
  (repeat' split) <;> simp_all
theorem eqG_pfx (op : BinOp) (x y : Operand) (a a' : Bool) (p q b p' q' b' : Int) (w : World) : (eqGuard op 37 x y (.agg #[.bool a, .int .u64 p, .int .u64 q, .int .i64 b]) (.agg #[.bool a', .int .u64 p', .int .u64 q', .int .i64 b'])).run Try.prog w = .ok () w := by
  go_simp
theorem quiet_eq_pfx {A : Act} {o : Oper} {x y : Operand} {t : TypeId} {a a' : Bool} {p q b p' q' b' : Int} {E : Bool} {C : World → Prop} {K : Act → Prop} (hE : ((a == a' && p == p' && q == q') && b == b') = E) (ho : o.op = .binOp .eql 37 x y t) (hx : A.eval x = .agg #[.bool a, .int .u64 p, .int .u64 q, .int .i64 b]) (hy : A.eval y = .agg #[.bool a', .int .u64 p', .int .u64 q', .int .i64 b'])
    (h : K (A.put o.dst (.bool E))) : o.quiet Try.prog A C K :=
  ⟨.bool E, fun w _ => by
    unfold Oper.quietAt execOp
    simp only [ho, hx, hy, Sem.run_bind, eqG_pfx .eql x y a a' p q b p' q' b' w, run_eql_struct, eq_pfx a a' p q b p' q' b' w, Result.andThen_ok, Sem.run_pure, hE]
    exact ⟨rfl, rfl⟩, h⟩
theorem law19_views (A : Option Addr) (n c : Nat) (l : List Vw) (m : Int) (w : World) (hl : IsRow vwShape w A n c l) :
    Calls Try.prog 36 #[.slice A n c, .int .i64 m] w fun e w' => e = .returned (.int .i64 (viewsI l m)) ∧ Below w.heap.size w w' := by
  obtain ⟨f, hf⟩ : ∃ f : Nat → Int, f = fun i => viewI (l.getD i vw0) (l.take i) m := ⟨_, rfl⟩
  have HV := Lib.hid (show viewsI l m = errTo f n by rw [hf, ← hl.len]; rfl)
  have HF := Lib.hid hf
  clear hf
  generalize viewsI l m = VS at *
  have hcap := hl.cap
  have hsm := hl.small
  have hrc := hl.reach
  have hlen := Lib.hid hl.len
  go_enter Try.func36, Try.ntmps36
  go_wp2_with fail
  go_loopg [5, 6] n (fun gk s5 s6 wr => ∃ i : Nat, i ≤ n ∧ gk = n - i ∧ s5 = .int .i64 i ∧ Hid (errTo f i = 0) ∧ Below w.heap.size w wr)
  case atStart => exact ⟨0, Nat.zero_le _, rfl, rfl, Lib.hid rfl, Below.refl _ _⟩
  case round =>
    obtain ⟨i, hi, rfl, rfl, HK, hW⟩ := hrel
    obtain ⟨wo, rfl⟩ : ∃ wo, wo = wr := ⟨_, rfl⟩
    by_cases hin : i < n
    · have hii : (i : Int) < (n : Int) := by omega
      have HB := Lib.hid (fun h => HV.out.trans (errTo_hit (f := f) HK.out h n hin))
      have HG := Lib.hid (fun h => errTo_none (f := f) HK.out h)
      have hfi := congrFun HF.out i
      (try dsimp only at hfi)
      have hil : i ≤ l.length := by rw [hlen.out]; omega
      have HT := Lib.hid (fun v k hk h1 h2 => any_stepG (z := vw0) (p := fun x => samePfx x v) (l := l) (k := k) hk h1 h2)
      have HH := Lib.hid (fun v k hk h2 => any_take_hit (z := vw0) (p := fun x => samePfx x v) (l := l) (k := k) (i := i) hk hil h2)
      have hat0 := fun w' (h : Below w.heap.size w w') => (hl.keep h).vwat_ hin
      obtain ⟨ad, rfl, hbk, hat⟩ := hat0 _ hW
      have hvp : vwShape.z = vw0 := rfl
      rw [hvp] at hat hat0
      have HR8 := Lib.hid (fun h h2 => hfi.trans (viewI_twice (v := l.getD i vw0) (l := l.take i) (m := m) h h2))
      have HR0 := Lib.hid (fun h h2 => hfi.trans (viewI_zero (v := l.getD i vw0) (l := l.take i) (m := m) h h2))
      have HRH := Lib.hid (fun h => hfi.trans (viewI_head (v := l.getD i vw0) (l := l.take i) (m := m) h))
      have HSK := Lib.hid (fun x => show samePfx x (l.getD i vw0) = ((x.six == (l.getD i vw0).six && x.hi == (l.getD i vw0).hi && x.lo == (l.getD i vw0).lo) && x.bits == (l.getD i vw0).bits) from rfl)
      have hsp := view_split (l.getD i vw0) m
      clear hvp hfi HK hil
      replace HT := Lib.hid (HT.out (l.getD i vw0))
      replace HH := Lib.hid (HH.out (l.getD i vw0))
      obtain ⟨v, hv⟩ : ∃ v, v = l.getD i vw0 := ⟨_, rfl⟩
      rw [← hv] at HR8 HR0 HRH HSK HT HH hat hat0 hsp
      clear hv
      have HN := Lib.hid (show (l.take 0).any (fun x => samePfx x v) = false from rfl)
      obtain ⟨six, hi', lo, bb, lev⟩ := v
      have HAT := Lib.hid hat0
      clear hat0
      obtain ⟨c0, c1, c2, c3, c4⟩ := hat
      dsimp only at *
      go_wp2_with fail
      refine (pfx_Right six hi' lo bb _).mono ?_; rintro e w2 ⟨rfl, hx2⟩
      have hW2 := below_step hW hx2
      clear hW hx2 c0 c1 c2 c3 c4
      obtain ⟨ad1, e1, _, hat1⟩ := HAT.out _ hW2
      obtain rfl := Option.some.inj e1
      obtain ⟨c0, c1, c2, c3, c4⟩ := hat1
      dsimp only at c0 c1 c2 c3 c4
      clear e1
      rcases hsp with ⟨hA, h18⟩ | ⟨hA, hlv, h5⟩ | ⟨hA, v0, v1, hv0⟩
      · rw [hA]
        have hfi := (HRH.out (by rw [h18]; decide)).trans h18
        have HE := Lib.hid ((HB.out (by rw [hfi]; decide)).trans hfi)
        clear HB HG HR8 HR0 HRH hA h18 hfi HT HH HSK HAT
        go_wp2
        go_ret
        exact ⟨by rw [HE.out]; rfl, hW2⟩
      · rw [hA]
        have hfi := (HRH.out (by rw [h5]; decide)).trans h5
        have HE := Lib.hid ((HB.out (by rw [hfi]; decide)).trans hfi)
        clear HB HG HR8 HR0 HRH hA h5 hfi HT HH HSK HAT
        go_wp2
        all_goals first
          | (exfalso; omega)
          | (focus (go_ret; exact ⟨ret_int HE.out.symm, hW2⟩))
      · rw [hA]
        replace HR8 := Lib.hid (HR8.out hv0)
        replace HR0 := Lib.hid (HR0.out hv0)
        have g1 : decide (lev < 0) = false := decide_eq_false (by omega)
        have g2 : decide (m ≤ lev) = false := decide_eq_false (by omega)
        clear HRH hv0 hA
        go_wp2_with fail
        go_loopg [6] i (fun gk s6 wr => ∃ k : Nat, k ≤ i ∧ gk = i - k ∧ s6 = .int .i64 k ∧ Hid ((l.take k).any (fun x => samePfx x _) = false) ∧ Below w.heap.size w wr)
        case atStart => exact ⟨0, Nat.zero_le _, rfl, rfl, HN, hW2⟩
        case round =>
          clear hW2 c0 c1 c2 c3 c4
          obtain ⟨k, hk, rfl, rfl, HK, hW3⟩ := hrel
          by_cases hki : k < i
          · have hkii : (k : Int) < (i : Int) := by omega
            have hkn : (k : Int) < (n : Int) := by omega
            have HT2 := Lib.hid (HT.out k (by rw [hlen.out]; omega) HK.out)
            have HH2 := Lib.hid (HH.out k hki)
            have HS2 := Lib.hid (HSK.out (l.getD k vw0))
            obtain ⟨ad1, e1, _, hat1⟩ := HAT.out _ hW3
            obtain rfl := Option.some.inj e1
            obtain ⟨c0, c1, c2, c3, c4⟩ := hat1
            dsimp only at c0 c1 c2 c3 c4
            obtain ⟨ad2, e2, _, hat2⟩ := (hl.keep hW3).vwat_ (k := k) (by omega)
            obtain rfl := Option.some.inj e2
            obtain ⟨d0, d1, d2, d3, d4⟩ := hat2
            have hvp : vwShape.z = vw0 := rfl
            rw [hvp] at d0 d1 d2 d3 d4
            clear hvp HK HT HH HSK e1 e2 HAT
            generalize l.getD k vw0 = y at *
            obtain ⟨y6, yh, yl, yb, yv⟩ := y
            dsimp only at *
            have U0 := cell_under d0
            have U1 := cell_under d1
            have U2 := cell_under d2
            have U3 := cell_under d3
            have V0 := cell_under c0
            have V1 := cell_under c1
            have V2 := cell_under c2
            have V3 := cell_under c3
            clear d0 d1 d2 d3 d4 c0 c1 c2 c3 c4
            go_wp2_with fail
            obtain ⟨E1, hE1⟩ : ∃ E, E = ((y6 == six && yh == hi' && yl == lo) && yb == bb) := ⟨_, rfl⟩
            have HEA := Lib.hid hE1.symm
            rw [← hE1] at HS2
            clear hE1
            refine wp_region_quiet_under (by kernel_rfl) (by kernel_rfl) ?_
            repeat (go_big_quiet_step (fail))
            go_big_quiet_want
            refine quiet_eq_pfx HEA.out rfl rfl rfl ?_
            simp only [Act.put, List.setIfInBounds_toArray, List.set_cons_zero, List.set_cons_succ]
            go_big_quiet_on
            repeat (go_big_quiet_step (fail))
            refine wpQuiet_nil ?_
            intro wu hw'
            obtain ⟨pq, hw''⟩ := hw'
            have hU := below_eq hw''
            clear hw'' pq
            have hW4 := below_step hW3 hU
            clear U0 U1 U2 U3 V0 V1 V2 V3 hU hW3
            cases E1 with
            | false =>
              have HG2 := Lib.hid (HT2.out HS2.out)
              go_wp2
              go_roundg (i - (k + 1))
              case measure => omega
              case rel => exact ⟨k + 1, by omega, rfl, by go_num, HG2, hW4⟩
            | true =>
              have hfi := HR8.out (HH2.out HS2.out)
              have HE := Lib.hid ((HB.out (by rw [hfi]; decide)).trans hfi)
              clear HB HG HR8 HR0 hfi HH2 HT2 HS2
              go_wp2
              go_ret
              exact ⟨by rw [HE.out]; rfl, hW4⟩
          · obtain rfl : k = i := by omega
            have hfi := HR0.out HK.out
            have HE := Lib.hid (HG.out hfi)
            clear HB HG HR8 HR0 hfi HT HH HSK HK HAT
            go_wp2
            go_roundg (n - (k + 1))
            case measure => omega
            case rel => exact ⟨k + 1, by omega, rfl, by go_num, HE, hW3⟩
    · obtain rfl : i = n := by omega
      have HE := Lib.hid (HV.out.trans HK.out)
      clear HV HF
      go_wp2
      go_ret
      exact ⟨by rw [HE.out]; rfl, hW⟩
end Go.Proofs.Ytceekfbhkenniaa
end
