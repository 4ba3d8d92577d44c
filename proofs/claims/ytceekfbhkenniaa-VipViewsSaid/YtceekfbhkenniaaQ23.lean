/- Lemmas for the claim's proof: VipJ VipPlain. -/
import Derived.Test.YtceekfbhkenniaaQ22
section
/- The law's match (written by gen_vipj.py). -/
set_option linter.unusedVariables false
namespace Go.Proofs.Ytceekfbhkenniaa
open Go.RowKit
set_option maxHeartbeats 8000000
set_option maxRecDepth 100000
theorem law30_match {w : World} {A : Option Addr} {n c : Nat} {vips : List Vp} (hl : IsRow vpShape w A n c vips) (pr : Int) (s6 : Bool) (sh sl : Int) (d6 : Bool) (dh dl sp dp : Int) :
    Calls Try.prog 19 #[.slice A n c, .agg #[.int .i64 pr, .bool s6, .int .u64 sh, .int .u64 sl, .bool d6, .int .u64 dh, .int .u64 dl, .int .i64 sp, .int .i64 dp]] w fun e w' => MatchOut vips pr d6 dh dl dp e ∧ Below w.heap.size w w' := by
  have hlen := Lib.hid hl.len
  have hcap := hl.cap
  have hsm := hl.small
  have hrc := hl.reach
  have OK1 := Lib.hid (fun (i : Nat) (e : Ending) (h1 : i < vips.length) (h2 : sameKey (vips.getD i vp0) (kx pr d6 dh dl dp) = true) (h3 : e = .returned (.tuple #[vpAgg (vips.getD i vp0), .bool true])) => show MatchOut vips pr d6 dh dl dp e from .inl ⟨i, h1, h2, h3⟩)
  have OK2 := Lib.hid (fun (i : Nat) (e : Ending) (h0 : (vips.any fun y => sameKey y (kx pr d6 dh dl dp)) = false) (h1 : i < vips.length) (h2 : sameKey (vips.getD i vp0) (kx pr d6 dh dl 0) = true) (h3 : e = .returned (.tuple #[vpAgg (vips.getD i vp0), .bool true])) => show MatchOut vips pr d6 dh dl dp e from .inr (.inl ⟨h0, i, h1, h2, h3⟩))
  have OK3 := Lib.hid (fun (e : Ending) (h0 : (vips.any fun y => sameKey y (kx pr d6 dh dl dp)) = false) (h1 : (vips.any fun y => sameKey y (kx pr d6 dh dl 0)) = false) (h3 : e = .returned (.tuple #[.agg #[.bool false, .int .u64 0, .int .u64 0, .int .i64 0, .int .i64 0, .int .i64 0, .bool false], .bool false])) => show MatchOut vips pr d6 dh dl dp e from .inr (.inr ⟨h0, h1, h3⟩))
  generalize MatchOut vips pr d6 dh dl dp = MO at *
  have P := (Blk.new w 55 #[.int .i64 pr, .bool s6, .int .u64 sh, .int .u64 sl, .bool d6, .int .u64 dh, .int .u64 dl, .int .i64 sp, .int .i64 dp]).alloc (.cells #[.bool false, .int .u64 0, .int .u64 0, .int .i64 0, .int .i64 0, .int .i64 0, .bool false] 35)
  have Q := Blk.new (w.alloc (.cells #[.int .i64 pr, .bool s6, .int .u64 sh, .int .u64 sl, .bool d6, .int .u64 dh, .int .u64 dl, .int .i64 sp, .int .i64 dp] 55)) 35 #[.bool false, .int .u64 0, .int .u64 0, .int .i64 0, .int .i64 0, .int .i64 0, .bool false]
  have hsz : (w.alloc (.cells #[.int .i64 pr, .bool s6, .int .u64 sh, .int .u64 sl, .bool d6, .int .u64 dh, .int .u64 dl, .int .i64 sp, .int .i64 dp] 55)).heap.size = w.heap.size + 1 := by simp
  rw [hsz] at Q
  have hW : Below w.heap.size w ((w.alloc (.cells #[.int .i64 pr, .bool s6, .int .u64 sh, .int .u64 sl, .bool d6, .int .u64 dh, .int .u64 dl, .int .i64 sp, .int .i64 dp] 55)).alloc (.cells #[.bool false, .int .u64 0, .int .u64 0, .int .i64 0, .int .i64 0, .int .i64 0, .bool false] 35)) := ((Below.refl _ _).alloc (Nat.le_refl _) _).alloc (by simp) _
  go_enter Try.func19, Try.ntmps19
  go_upto_region 1 with (fail)
  generalize ((w.alloc (.cells #[.int .i64 pr, .bool s6, .int .u64 sh, .int .u64 sl, .bool d6, .int .u64 dh, .int .u64 dl, .int .i64 sp, .int .i64 dp] 55)).alloc (.cells #[.bool false, .int .u64 0, .int .u64 0, .int .i64 0, .int .i64 0, .int .i64 0, .bool false] 35)) = u at *
  clear hsz
  go_wp2_with fail
  go_loopg [6, 7, 8] 2 (fun gk s6' s7 s8 wr => ∃ k : Nat, k ≤ 2 ∧ gk = 2 - k ∧ s6' = .int .i64 k ∧ Hid (1 ≤ k → (vips.any fun y => sameKey y (kx pr d6 dh dl dp)) = false) ∧ Hid (2 ≤ k → (vips.any fun y => sameKey y (kx pr d6 dh dl 0)) = false) ∧ Blk wr w.heap.size 55 #[.int .i64 pr, .bool s6, .int .u64 sh, .int .u64 sl, .bool d6, .int .u64 dh, .int .u64 dl, .int .i64 sp, .int .i64 dp] ∧ Blk wr (w.heap.size + 1) 35 #[.bool false, .int .u64 0, .int .u64 0, .int .i64 0, .int .i64 0, .int .i64 0, .bool false] ∧ Below w.heap.size w wr)
  case atStart => exact ⟨0, Nat.zero_le _, rfl, rfl, Lib.hid (fun h => by omega), Lib.hid (fun h => by omega), P, Q, hW⟩
  case round =>
    clear P Q hW
    obtain ⟨k, hk, rfl, rfl, HB1, HB2, P2, Q2, hW2⟩ := hrel
    obtain ⟨wo, rfl⟩ : ∃ wo, wo = wr := ⟨_, rfl⟩
    rcases (by omega : k = 0 ∨ k = 1 ∨ k = 2) with rfl | rfl | rfl
    · clear OK2 OK3
      go_wp2_with fail
      go_loopg [7, 8] n (fun gk s7 s8 wr => ∃ i : Nat, i ≤ n ∧ gk = n - i ∧ s7 = .int .i64 i ∧ Hid ((vips.take i).any (fun y => sameKey y (kx pr d6 dh dl dp)) = false) ∧ Blk wr w.heap.size 55 #[.int .i64 pr, .bool s6, .int .u64 sh, .int .u64 sl, .bool d6, .int .u64 dh, .int .u64 dl, .int .i64 sp, .int .i64 dp] ∧ Blk wr (w.heap.size + 1) 35 #[.bool false, .int .u64 0, .int .u64 0, .int .i64 0, .int .i64 0, .int .i64 0, .bool false] ∧ Below w.heap.size w wr)
      case atStart => exact ⟨0, Nat.zero_le _, rfl, rfl, Lib.hid rfl, P2, Q2, hW2⟩
      case round =>
        clear P2 Q2 hW2
        obtain ⟨i, hi, rfl, rfl, HK, P3, Q3, hW3⟩ := hrel
        obtain ⟨p0, p1, p2, p3, p4, p5, p6, p7, p8, _⟩ := P3.cells9
        by_cases hin : i < n
        · have hii : (i : Int) < (n : Int) := by omega
          have hil : i < vips.length := by rw [hlen.out]; exact hin
          have HT2 := Lib.hid (fun h2 => any_stepG (z := vp0) (p := fun y => sameKey y (kx pr d6 dh dl dp)) hil HK.out h2)
          have HS2 := Lib.hid (show sameKey (vips.getD i vp0) (kx pr d6 dh dl dp) = (((vips.getD i vp0).six == d6 && (vips.getD i vp0).hi == dh && (vips.getD i vp0).lo == dl) && (vips.getD i vp0).proto == pr && (vips.getD i vp0).port == dp) from rfl)
          obtain ⟨ad2, rfl, hbk2, hat2⟩ := (hl.keep hW3).vpat_ hin
          obtain ⟨d0, d1, d2, d3, d4, _, _⟩ := hat2
          have hvp : vpShape.z = vp0 := rfl
          rw [hvp] at d0 d1 d2 d3 d4
          clear hvp HK hil
          obtain ⟨y, hy⟩ : ∃ y, y = vips.getD i vp0 := ⟨_, rfl⟩
          rw [← hy] at HS2 HT2 d0 d1 d2 d3 d4
          have HY := Lib.hid hy
          clear hy
          obtain ⟨y6, yh, yl, yp, yo, yc, yn⟩ := y
          dsimp only at *
          have U0 := cell_under d0
          have U1 := cell_under d1
          have U2 := cell_under d2
          have U3 := cell_under d3
          have U4 := cell_under d4
          have V0 := cell_under p0
          have V4 := cell_under p4
          have V5 := cell_under p5
          have V6 := cell_under p6
          clear d0 d1 d2 d3 d4
          go_upto_region 10 with (fail)
          clear p0 p1 p2 p3 p4 p5 p6 p7 p8
          obtain ⟨E1, hE1⟩ : ∃ E, E = (y6 == d6 && yh == dh && yl == dl) := ⟨_, rfl⟩
          have HEA := Lib.hid hE1.symm
          rw [← hE1] at HS2
          clear hE1
          cases E1 with
          | false =>
            have HG2 := Lib.hid (HT2.out HS2.out)
            refine wp_region_quiet_under (by kernel_rfl) (by kernel_rfl) ?_
            repeat (go_big_quiet_step (fail))
            go_big_quiet_want
            refine quiet_eq_addr HEA.out rfl rfl rfl ?_
            simp only [Act.put, List.setIfInBounds_toArray, List.set_cons_zero, List.set_cons_succ]
            go_big_quiet_on
            repeat (go_big_quiet_step (fail))
            refine wpQuiet_nil ?_
            intro wu hw'
            obtain ⟨pq, hw''⟩ := hw'
            have hU := below_eq hw''
            clear hw'' pq
            have P4 := P3.keep hU
            have Q4 := Q3.keep hU
            have hW4 := below_step hW3 hU
            go_wp2
            go_roundg (n - (i + 1))
            case measure => omega
            case rel => exact ⟨i + 1, by omega, rfl, by go_num, HG2, P4, Q4, hW4⟩
          | true =>
            by_cases hyp : yp = pr
            · have m1 : (yp == pr) = true := by rw [beq_iff_eq]; exact hyp
              rw [m1] at HS2
              by_cases hyo : yo = dp
              · have m2 : (yo == dp) = true := by rw [beq_iff_eq]; exact hyo
                rw [m2] at HS2
                clear hyp hyo HT2
                refine wp_region_quiet_under (by kernel_rfl) (by kernel_rfl) ?_
                repeat (go_big_quiet_step (fail))
                go_big_quiet_want
                refine quiet_eq_addr HEA.out rfl rfl rfl ?_
                simp only [Act.put, List.setIfInBounds_toArray, List.set_cons_zero, List.set_cons_succ]
                go_big_quiet_on
                repeat (go_big_quiet_step (fail))
                refine wpQuiet_nil ?_
                intro wu hw'
                obtain ⟨pq, hw''⟩ := hw'
                have hU := below_eq hw''
                clear hw'' pq
                have P4 := P3.keep hU
                have Q4 := Q3.keep hU
                have hW4 := below_step hW3 hU
                obtain ⟨ad3, e3, hbk3, hat3⟩ := (hl.keep hW4).vpat_ hin
                obtain rfl := Option.some.inj e3
                obtain ⟨d0, d1, d2, d3, d4, d5, d6'⟩ := hat3
                have hvp : vpShape.z = vp0 := rfl
                rw [hvp, ← HY.out] at d0 d1 d2 d3 d4 d5 d6'
                dsimp only at d0 d1 d2 d3 d4 d5 d6'
                have HOO := Lib.hid (fun e h3 => OK1.out i e (by rw [hlen.out]; exact hin) (by rw [← HY.out]; exact HS2.out) h3)
                rw [← HY.out] at HOO
                unfold vpAgg at HOO
                dsimp only at HOO
                obtain ⟨q0, q1, q2, q3, q4, q5, q6, _⟩ := Q4.cells7
                obtain ⟨f0, f1, f2, f3, f4, f5, f6⟩ := Q4.free7
                clear e3 hbk3 hvp P4 P3 Q3
                go_wp2
                have hQ := Q4.turn7 (.bool y6) (.int .u64 yh) (.int .u64 yl) (.int .i64 yp) (.int .i64 yo) (.int .i64 yc) (.bool yn)
                have hB := below_turn7 (g := w.heap.size + 1) hW4 (Nat.le_succ _) (.bool y6) (.int .u64 yh) (.int .u64 yl) (.int .i64 yp) (.int .i64 yo) (.int .i64 yc) (.bool yn)
                exact bodyPost_ret (results_cell_two rfl _ _ _ _ _ (0, 0) _ rfl hQ Try.underlying35 rfl sizeVip) rfl ⟨HOO.out _ rfl, hB⟩
              · have m2 : (yo == dp) = false := by rw [beq_eq_false_iff_ne]; exact hyo
                rw [m2] at HS2
                have HG2 := Lib.hid (HT2.out HS2.out)
                clear hyp hyo
                refine wp_region_quiet_under (by kernel_rfl) (by kernel_rfl) ?_
                repeat (go_big_quiet_step (fail))
                go_big_quiet_want
                refine quiet_eq_addr HEA.out rfl rfl rfl ?_
                simp only [Act.put, List.setIfInBounds_toArray, List.set_cons_zero, List.set_cons_succ]
                go_big_quiet_on
                repeat (go_big_quiet_step (fail))
                refine wpQuiet_nil ?_
                intro wu hw'
                obtain ⟨pq, hw''⟩ := hw'
                have hU := below_eq hw''
                clear hw'' pq
                have P4 := P3.keep hU
                have Q4 := Q3.keep hU
                have hW4 := below_step hW3 hU
                go_wp2
                go_roundg (n - (i + 1))
                case measure => omega
                case rel => exact ⟨i + 1, by omega, rfl, by go_num, HG2, P4, Q4, hW4⟩
            · have m1 : (yp == pr) = false := by rw [beq_eq_false_iff_ne]; exact hyp
              rw [m1] at HS2
              have HG2 := Lib.hid (HT2.out HS2.out)
              clear hyp
              refine wp_region_quiet_under (by kernel_rfl) (by kernel_rfl) ?_
              repeat (go_big_quiet_step (fail))
              go_big_quiet_want
              refine quiet_eq_addr HEA.out rfl rfl rfl ?_
              simp only [Act.put, List.setIfInBounds_toArray, List.set_cons_zero, List.set_cons_succ]
              go_big_quiet_on
              repeat (go_big_quiet_step (fail))
              refine wpQuiet_nil ?_
              intro wu hw'
              obtain ⟨pq, hw''⟩ := hw'
              have hU := below_eq hw''
              clear hw'' pq
              have P4 := P3.keep hU
              have Q4 := Q3.keep hU
              have hW4 := below_step hW3 hU
              go_wp2
              go_roundg (n - (i + 1))
              case measure => omega
              case rel => exact ⟨i + 1, by omega, rfl, by go_num, HG2, P4, Q4, hW4⟩
        · have hke : n = i := by omega
          subst hke
          have HA := Lib.hid (show (vips.any (fun y => sameKey y (kx pr d6 dh dl dp))) = false by
            have h := HK.out
            rw [List.take_of_length_le (by rw [hlen.out]; exact Nat.le_refl _)] at h
            exact h)
          clear HK
          go_wp2
          go_roundg (2 - (0 + 1))
          case measure => omega
          case rel => exact ⟨0 + 1, by omega, rfl, by go_num, Lib.hid (fun _ => HA.out), Lib.hid (fun h => by omega), P3, Q3, hW3⟩
    · clear OK1 OK3
      go_wp2_with fail
      go_loopg [7, 8] n (fun gk s7 s8 wr => ∃ i : Nat, i ≤ n ∧ gk = n - i ∧ s7 = .int .i64 i ∧ Hid ((vips.take i).any (fun y => sameKey y (kx pr d6 dh dl 0)) = false) ∧ Blk wr w.heap.size 55 #[.int .i64 pr, .bool s6, .int .u64 sh, .int .u64 sl, .bool d6, .int .u64 dh, .int .u64 dl, .int .i64 sp, .int .i64 dp] ∧ Blk wr (w.heap.size + 1) 35 #[.bool false, .int .u64 0, .int .u64 0, .int .i64 0, .int .i64 0, .int .i64 0, .bool false] ∧ Below w.heap.size w wr)
      case atStart => exact ⟨0, Nat.zero_le _, rfl, rfl, Lib.hid rfl, P2, Q2, hW2⟩
      case round =>
        clear P2 Q2 hW2
        obtain ⟨i, hi, rfl, rfl, HK, P3, Q3, hW3⟩ := hrel
        obtain ⟨p0, p1, p2, p3, p4, p5, p6, p7, p8, _⟩ := P3.cells9
        by_cases hin : i < n
        · have hii : (i : Int) < (n : Int) := by omega
          have hil : i < vips.length := by rw [hlen.out]; exact hin
          have HT2 := Lib.hid (fun h2 => any_stepG (z := vp0) (p := fun y => sameKey y (kx pr d6 dh dl 0)) hil HK.out h2)
          have HS2 := Lib.hid (show sameKey (vips.getD i vp0) (kx pr d6 dh dl 0) = (((vips.getD i vp0).six == d6 && (vips.getD i vp0).hi == dh && (vips.getD i vp0).lo == dl) && (vips.getD i vp0).proto == pr && (vips.getD i vp0).port == 0) from rfl)
          obtain ⟨ad2, rfl, hbk2, hat2⟩ := (hl.keep hW3).vpat_ hin
          obtain ⟨d0, d1, d2, d3, d4, _, _⟩ := hat2
          have hvp : vpShape.z = vp0 := rfl
          rw [hvp] at d0 d1 d2 d3 d4
          clear hvp HK hil
          obtain ⟨y, hy⟩ : ∃ y, y = vips.getD i vp0 := ⟨_, rfl⟩
          rw [← hy] at HS2 HT2 d0 d1 d2 d3 d4
          have HY := Lib.hid hy
          clear hy
          obtain ⟨y6, yh, yl, yp, yo, yc, yn⟩ := y
          dsimp only at *
          have U0 := cell_under d0
          have U1 := cell_under d1
          have U2 := cell_under d2
          have U3 := cell_under d3
          have U4 := cell_under d4
          have V0 := cell_under p0
          have V4 := cell_under p4
          have V5 := cell_under p5
          have V6 := cell_under p6
          clear d0 d1 d2 d3 d4
          go_upto_region 10 with (fail)
          clear p0 p1 p2 p3 p4 p5 p6 p7 p8
          obtain ⟨E1, hE1⟩ : ∃ E, E = (y6 == d6 && yh == dh && yl == dl) := ⟨_, rfl⟩
          have HEA := Lib.hid hE1.symm
          rw [← hE1] at HS2
          clear hE1
          cases E1 with
          | false =>
            have HG2 := Lib.hid (HT2.out HS2.out)
            refine wp_region_quiet_under (by kernel_rfl) (by kernel_rfl) ?_
            repeat (go_big_quiet_step (fail))
            go_big_quiet_want
            refine quiet_eq_addr HEA.out rfl rfl rfl ?_
            simp only [Act.put, List.setIfInBounds_toArray, List.set_cons_zero, List.set_cons_succ]
            go_big_quiet_on
            repeat (go_big_quiet_step (fail))
            refine wpQuiet_nil ?_
            intro wu hw'
            obtain ⟨pq, hw''⟩ := hw'
            have hU := below_eq hw''
            clear hw'' pq
            have P4 := P3.keep hU
            have Q4 := Q3.keep hU
            have hW4 := below_step hW3 hU
            go_wp2
            go_roundg (n - (i + 1))
            case measure => omega
            case rel => exact ⟨i + 1, by omega, rfl, by go_num, HG2, P4, Q4, hW4⟩
          | true =>
            by_cases hyp : yp = pr
            · have m1 : (yp == pr) = true := by rw [beq_iff_eq]; exact hyp
              rw [m1] at HS2
              by_cases hyo : yo = 0
              · have m2 : (yo == 0) = true := by rw [beq_iff_eq]; exact hyo
                rw [m2] at HS2
                clear hyp hyo HT2
                refine wp_region_quiet_under (by kernel_rfl) (by kernel_rfl) ?_
                repeat (go_big_quiet_step (fail))
                go_big_quiet_want
                refine quiet_eq_addr HEA.out rfl rfl rfl ?_
                simp only [Act.put, List.setIfInBounds_toArray, List.set_cons_zero, List.set_cons_succ]
                go_big_quiet_on
                repeat (go_big_quiet_step (fail))
                refine wpQuiet_nil ?_
                intro wu hw'
                obtain ⟨pq, hw''⟩ := hw'
                have hU := below_eq hw''
                clear hw'' pq
                have P4 := P3.keep hU
                have Q4 := Q3.keep hU
                have hW4 := below_step hW3 hU
                obtain ⟨ad3, e3, hbk3, hat3⟩ := (hl.keep hW4).vpat_ hin
                obtain rfl := Option.some.inj e3
                obtain ⟨d0, d1, d2, d3, d4, d5, d6'⟩ := hat3
                have hvp : vpShape.z = vp0 := rfl
                rw [hvp, ← HY.out] at d0 d1 d2 d3 d4 d5 d6'
                dsimp only at d0 d1 d2 d3 d4 d5 d6'
                have HOO := Lib.hid (fun e h3 => OK2.out i e (HB1.out (Nat.le_refl _)) (by rw [hlen.out]; exact hin) (by rw [← HY.out]; exact HS2.out) h3)
                rw [← HY.out] at HOO
                unfold vpAgg at HOO
                dsimp only at HOO
                obtain ⟨q0, q1, q2, q3, q4, q5, q6, _⟩ := Q4.cells7
                obtain ⟨f0, f1, f2, f3, f4, f5, f6⟩ := Q4.free7
                clear e3 hbk3 hvp P4 P3 Q3
                go_wp2
                have hQ := Q4.turn7 (.bool y6) (.int .u64 yh) (.int .u64 yl) (.int .i64 yp) (.int .i64 yo) (.int .i64 yc) (.bool yn)
                have hB := below_turn7 (g := w.heap.size + 1) hW4 (Nat.le_succ _) (.bool y6) (.int .u64 yh) (.int .u64 yl) (.int .i64 yp) (.int .i64 yo) (.int .i64 yc) (.bool yn)
                exact bodyPost_ret (results_cell_two rfl _ _ _ _ _ (0, 0) _ rfl hQ Try.underlying35 rfl sizeVip) rfl ⟨HOO.out _ rfl, hB⟩
              · have m2 : (yo == 0) = false := by rw [beq_eq_false_iff_ne]; exact hyo
                rw [m2] at HS2
                have HG2 := Lib.hid (HT2.out HS2.out)
                clear hyp hyo
                refine wp_region_quiet_under (by kernel_rfl) (by kernel_rfl) ?_
                repeat (go_big_quiet_step (fail))
                go_big_quiet_want
                refine quiet_eq_addr HEA.out rfl rfl rfl ?_
                simp only [Act.put, List.setIfInBounds_toArray, List.set_cons_zero, List.set_cons_succ]
                go_big_quiet_on
                repeat (go_big_quiet_step (fail))
                refine wpQuiet_nil ?_
                intro wu hw'
                obtain ⟨pq, hw''⟩ := hw'
                have hU := below_eq hw''
                clear hw'' pq
                have P4 := P3.keep hU
                have Q4 := Q3.keep hU
                have hW4 := below_step hW3 hU
                go_wp2
                go_roundg (n - (i + 1))
                case measure => omega
                case rel => exact ⟨i + 1, by omega, rfl, by go_num, HG2, P4, Q4, hW4⟩
            · have m1 : (yp == pr) = false := by rw [beq_eq_false_iff_ne]; exact hyp
              rw [m1] at HS2
              have HG2 := Lib.hid (HT2.out HS2.out)
              clear hyp
              refine wp_region_quiet_under (by kernel_rfl) (by kernel_rfl) ?_
              repeat (go_big_quiet_step (fail))
              go_big_quiet_want
              refine quiet_eq_addr HEA.out rfl rfl rfl ?_
              simp only [Act.put, List.setIfInBounds_toArray, List.set_cons_zero, List.set_cons_succ]
              go_big_quiet_on
              repeat (go_big_quiet_step (fail))
              refine wpQuiet_nil ?_
              intro wu hw'
              obtain ⟨pq, hw''⟩ := hw'
              have hU := below_eq hw''
              clear hw'' pq
              have P4 := P3.keep hU
              have Q4 := Q3.keep hU
              have hW4 := below_step hW3 hU
              go_wp2
              go_roundg (n - (i + 1))
              case measure => omega
              case rel => exact ⟨i + 1, by omega, rfl, by go_num, HG2, P4, Q4, hW4⟩
        · have hke : n = i := by omega
          subst hke
          have HA := Lib.hid (show (vips.any (fun y => sameKey y (kx pr d6 dh dl 0))) = false by
            have h := HK.out
            rw [List.take_of_length_le (by rw [hlen.out]; exact Nat.le_refl _)] at h
            exact h)
          clear HK
          go_wp2
          go_roundg (2 - (1 + 1))
          case measure => omega
          case rel => exact ⟨1 + 1, by omega, rfl, by go_num, Lib.hid (fun _ => HB1.out (Nat.le_refl _)), Lib.hid (fun _ => HA.out), P3, Q3, hW3⟩
    · have hb1 := HB1.out (by omega)
      have hb2 := HB2.out (by omega)
      have OO := Lib.hid (fun (e : Ending) => OK3.out e hb1 hb2)
      clear hb1 hb2 OK1 OK2 OK3
      obtain ⟨q0, q1, q2, q3, q4, q5, q6, _⟩ := Q2.cells7
      obtain ⟨f0, f1, f2, f3, f4, f5, f6⟩ := Q2.free7
      go_wp2
      have hQ := Q2.turn7 (.bool false) (.int .u64 0) (.int .u64 0) (.int .i64 0) (.int .i64 0) (.int .i64 0) (.bool false)
      have hB := below_turn7 (g := w.heap.size + 1) hW2 (Nat.le_succ _) (.bool false) (.int .u64 0) (.int .u64 0) (.int .i64 0) (.int .i64 0) (.int .i64 0) (.bool false)
      exact bodyPost_ret (results_cell_two rfl _ _ _ _ _ (0, 0) _ rfl hQ Try.underlying35 rfl sizeVip) rfl ⟨OO.out _ rfl, hB⟩
end Go.Proofs.Ytceekfbhkenniaa
end
section
/- Prefixes, in plain Lean: what an address keeps of one is the bits that it begins with. -/
set_option linter.unusedVariables false
namespace Go.Proofs.Ytceekfbhkenniaa
open Go.RowKit
set_option maxHeartbeats 4000000
set_option maxRecDepth 100000
theorem word_bits {M x y : Nat} (hx : x < 2 ^ M) (hy : y < 2 ^ M) : ∀ n, n ≤ M → ((∀ i, i < n → x / 2 ^ (M - 1 - i) % 2 = y / 2 ^ (M - 1 - i) % 2) ↔ x / 2 ^ (M - n) = y / 2 ^ (M - n))
  | 0, _ => by
    rw [Nat.sub_zero, Nat.div_eq_of_lt hx, Nat.div_eq_of_lt hy]
    simp
  | n + 1, h => by
    have ih := word_bits hx hy n (by omega)
    have e : M - n = (M - (n + 1)) + 1 := by omega
    have hx2 : x / 2 ^ (M - n) = x / 2 ^ (M - (n + 1)) / 2 := by rw [e, Nat.pow_succ, Nat.div_div_eq_div_mul]
    have hy2 : y / 2 ^ (M - n) = y / 2 ^ (M - (n + 1)) / 2 := by rw [e, Nat.pow_succ, Nat.div_div_eq_div_mul]
    rw [hx2, hy2] at ih
    have e2 : M - 1 - n = M - (n + 1) := by omega
    constructor
    · intro H
      have h1 := ih.1 (fun i hi => H i (by omega))
      have h2 := H n (by omega)
      rw [e2] at h2
      omega
    · intro H i hi
      by_cases e3 : i = n
      · subst e3
        rw [e2, H]
      · exact ih.2 (by rw [H]) i (by omega)
theorem cut_nat : ∀ k : Fin 65, cutI ((64 - k.val : Nat) : Int) = ((2 ^ 64 - 2 ^ k.val : Nat) : Int) := by decide +kernel
theorem and_mask {x k : Nat} (hx : x < 2 ^ 64) (hk : k ≤ 64) : x &&& (2 ^ 64 - 2 ^ k) = x / 2 ^ k * 2 ^ k := by
  have e : 2 ^ 64 - 2 ^ k = (2 ^ (64 - k) - 1) <<< k := by
    rw [Nat.shiftLeft_eq, Nat.sub_mul, Nat.one_mul, ← Nat.pow_add]
    congr 2
    omega
  rw [e, ← Nat.shiftRight_eq_div_pow, ← Nat.shiftLeft_eq]
  apply Nat.eq_of_testBit_eq
  intro i
  rw [Nat.testBit_and, Nat.testBit_shiftLeft, Nat.testBit_shiftLeft, Nat.testBit_shiftRight, Nat.testBit_two_pow_sub_one]
  by_cases hi : k ≤ i
  · have e2 : k + (i - k) = i := by omega
    rw [e2]
    by_cases h2 : i - k < 64 - k
    · simp [hi, h2]
    · have : x.testBit i = false := Nat.testBit_lt_two_pow (Nat.lt_of_lt_of_le hx (Nat.pow_le_pow_right (by decide) (by omega)))
      simp [this]
  · simp [hi]
theorem cut_keeps {x k : Nat} (hx : x < 2 ^ 64) (hk : k ≤ 64) : bits .and .u64 (x : Int) (cutI ((64 - k : Nat) : Int)) = ((x / 2 ^ k * 2 ^ k : Nat) : Int) := by
  rw [cut_nat ⟨k, by omega⟩]
  have h2 : 2 ^ 64 - 2 ^ k < 18446744073709551616 := by
    have : 0 < 2 ^ k := Nat.pos_of_ne_zero (by simp)
    omega
  have := bits_and_u64_nat x (2 ^ 64 - 2 ^ k) (by omega) h2
  rw [and_mask hx hk] at this
  exact this
theorem mul_div_pow {y q k : Nat} (h : q * 2 ^ k = y) : y / 2 ^ k = q := by
  rw [← h]
  exact Nat.mul_div_cancel _ (Nat.pos_of_ne_zero (by simp))
/-- A word kept to its first n bits is one that is so kept, just if they begin alike. -/
theorem keep_iff {x y n : Nat} (hx : x < 2 ^ 64) (hy : y < 2 ^ 64) (hn : n ≤ 64) (hk : bits .and .u64 (y : Int) (cutI (n : Int)) = y) :
    bits .and .u64 (x : Int) (cutI (n : Int)) = y ↔ x / 2 ^ (64 - n) = y / 2 ^ (64 - n) := by
  have e : (n : Int) = ((64 - (64 - n) : Nat) : Int) := by omega
  rw [e, cut_keeps hy (by omega)] at hk
  rw [e, cut_keeps hx (by omega)]
  have hk' : y / 2 ^ (64 - n) * 2 ^ (64 - n) = y := by exact_mod_cast hk
  constructor
  · intro h
    have h' : x / 2 ^ (64 - n) * 2 ^ (64 - n) = y := by exact_mod_cast h
    exact (mul_div_pow h').symm
  · intro h
    rw [h, hk']
theorem u64_nat {x : Int} (h : U64 x) : ∃ n : Nat, x = n ∧ n < 2 ^ 64 := by
  obtain ⟨h0, h1⟩ := h
  obtain ⟨n, rfl⟩ := Int.eq_ofNat_of_zero_le h0
  exact ⟨n, rfl, by omega⟩
theorem bit_nat (x k : Nat) : ((x : Int) / 2 ^ k) % 2 = ((x / 2 ^ k % 2 : Nat) : Int) := by
  have e : ((x : Int) / 2 ^ k) = ((x / 2 ^ k : Nat) : Int) := by simp
  rw [e]; omega
theorem path_iff (s : Bool) (h l h' l' : Int) (n : Nat) : path s h l n = path s h' l' n ↔ ∀ i, i < n → bitI s h l (i : Int) = bitI s h' l' (i : Int) := by
  unfold path
  constructor
  · intro e i hi
    have := congrArg (fun z : List Int => z[i]?) e
    simpa [hi] using this
  · intro e
    apply List.map_congr_left
    intro i hi
    exact e i (List.mem_range.1 hi)
theorem path_len (s : Bool) (h l : Int) (n : Nat) : (path s h l n).length = n := by unfold path; simp
/-- Bits 0 to n of a word whose first is M - 1. -/
theorem bits_all {M x y n : Nat} (hx : x < 2 ^ M) (hy : y < 2 ^ M) (hn : n ≤ M) : (∀ i : Nat, i < n → ((x : Int) / 2 ^ (M - 1 - i)) % 2 = ((y : Int) / 2 ^ (M - 1 - i)) % 2) ↔ x / 2 ^ (M - n) = y / 2 ^ (M - n) := by
  rw [← word_bits hx hy n hn]
  constructor
  · intro h i hi
    have := h i hi
    rw [bit_nat, bit_nat] at this
    omega
  · intro h i hi
    rw [bit_nat, bit_nat, h i hi]
/-- An address begins with a prefix, just if it is the prefix's when its bits behind are struck. -/
def begins (six : Bool) (hi lo ph pl b : Int) : Bool := if six = true then keepHi hi b == ph && keepLo lo b == pl else hi == ph && keepLo4 lo b == pl
theorem path_begins {six : Bool} {hi lo ph pl b : Int} (w0 : U64 hi) (w1 : U64 lo) (w2 : U64 ph) (w3 : U64 pl) (hok : pfxOk six ph pl b = true) (ha : addrOk six hi lo = true) :
    path six hi lo b.toNat = path six ph pl b.toNat ↔ begins six hi lo ph pl b = true := by
  obtain ⟨hb0, hb1⟩ := pfxOk_bits hok
  obtain ⟨m, rfl⟩ := Int.eq_ofNat_of_zero_le hb0
  rw [Int.toNat_natCast, path_iff]
  obtain ⟨h, rfl, hh⟩ := u64_nat w0
  obtain ⟨l, rfl, hl⟩ := u64_nat w1
  obtain ⟨p, rfl, hp⟩ := u64_nat w2
  obtain ⟨q, rfl, hq⟩ := u64_nat w3
  unfold pfxOk at hok
  have hTF : ¬ (true = false) := by decide
  cases six with
  | true =>
    rw [if_pos rfl] at hb1
    simp only [Bool.and_eq_true, decide_eq_true_eq, if_true, beq_iff_eq] at hok
    obtain ⟨⟨⟨_, _⟩, _⟩, k1, k2⟩ := hok
    have hm : m ≤ 128 := by omega
    unfold begins
    rw [if_pos rfl, Bool.and_eq_true, beq_iff_eq, beq_iff_eq]
    unfold keepHi keepLo at *
    have e1 : (if 64 < (m : Int) then (64 : Int) else (m : Int)) = ((min m 64 : Nat) : Int) := by split <;> omega
    have e2 : (if (m : Int) - 64 < 0 then (0 : Int) else (m : Int) - 64) = ((m - 64 : Nat) : Int) := by split <;> omega
    rw [e1] at k1 ⊢
    rw [e2] at k2 ⊢
    rw [keep_iff hh hp (by omega) k1, keep_iff hl hq (by omega) k2, ← bits_all hh hp (by omega), ← bits_all hl hq (by omega)]
    constructor
    · intro H
      refine ⟨fun i hi => ?_, fun i hi => ?_⟩
      · have := H i (by omega)
        unfold bitI at this
        rw [if_neg hTF, if_neg hTF, if_pos (by omega), if_pos (by omega)] at this
        have e : (63 - (i : Int)).toNat = 64 - 1 - i := by omega
        rw [e] at this
        exact this
      · have := H (i + 64) (by omega)
        unfold bitI at this
        rw [if_neg hTF, if_neg hTF, if_neg (by omega), if_neg (by omega)] at this
        have e : (127 - ((i + 64 : Nat) : Int)).toNat = 64 - 1 - i := by omega
        rw [e] at this
        exact this
    · rintro ⟨H1, H2⟩ i hi
      unfold bitI
      rw [if_neg hTF, if_neg hTF]
      by_cases h6 : i < 64
      · rw [if_pos (by omega), if_pos (by omega)]
        have e : (63 - (i : Int)).toNat = 64 - 1 - i := by omega
        rw [e]
        exact H1 i (by omega)
      · rw [if_neg (by omega), if_neg (by omega)]
        have e : (127 - (i : Int)).toNat = 64 - 1 - (i - 64) := by omega
        rw [e]
        exact H2 (i - 64) (by omega)
  | false =>
    rw [if_neg (by decide)] at hb1
    simp only [Bool.and_eq_true, decide_eq_true_eq, Bool.false_eq_true, if_false, beq_iff_eq] at hok
    obtain ⟨⟨⟨ho, _⟩, _⟩, k1⟩ := hok
    have hm : m ≤ 32 := by omega
    unfold addrOk at ho ha
    simp only [Bool.false_or, Bool.and_eq_true, beq_iff_eq, decide_eq_true_eq] at ho ha
    unfold begins
    rw [if_neg (by decide), Bool.and_eq_true, beq_iff_eq, beq_iff_eq]
    unfold keepLo4 at *
    have e1 : (m : Int) + 32 = ((m + 32 : Nat) : Int) := by omega
    rw [e1] at k1 ⊢
    rw [keep_iff hl hq (by omega) k1]
    have e3 : 64 - (m + 32) = 32 - m := by omega
    rw [e3, ← bits_all (M := 32) (n := m) (by omega) (by omega) (by omega)]
    constructor
    · intro H
      refine ⟨by omega, fun i hi => ?_⟩
      have := H i hi
      unfold bitI at this
      rw [if_pos rfl, if_pos rfl] at this
      have e : (31 - (i : Int)).toNat = 32 - 1 - i := by omega
      rw [e] at this
      exact this
    · rintro ⟨_, H⟩ i hi
      unfold bitI
      rw [if_pos rfl, if_pos rfl]
      have e : (31 - (i : Int)).toNat = 32 - 1 - i := by omega
      rw [e]
      exact H i hi
theorem pfxOk_addr {six : Bool} {hi lo b : Int} (h : pfxOk six hi lo b = true) : addrOk six hi lo = true := by
  unfold pfxOk at h
  simp only [Bool.and_eq_true] at h
  exact h.1.1.1
theorem begins_self {six : Bool} {hi lo b : Int} (h : pfxOk six hi lo b = true) : begins six hi lo hi lo b = true := by
  unfold pfxOk at h
  unfold begins
  simp only [Bool.and_eq_true] at h
  cases six <;> simp_all
/-- Two prefixes of one version whose bits are the same are the same. -/
theorem pfx_same {six : Bool} {h l p q b c : Int} (w0 : U64 h) (w1 : U64 l) (w2 : U64 p) (w3 : U64 q) (h1 : pfxOk six h l b = true) (h2 : pfxOk six p q c = true) (he : path six h l b.toNat = path six p q c.toNat) : h = p ∧ l = q ∧ b = c := by
  have hb := pfxOk_bits h1
  have hc := pfxOk_bits h2
  have hn : b.toNat = c.toNat := by
    have := congrArg List.length he
    rwa [path_len, path_len] at this
  have hbc : b = c := by omega
  subst hbc
  have g1 := (path_begins w0 w1 w2 w3 h2 (pfxOk_addr h1)).1 he
  have g2 := begins_self h1
  unfold begins at g1 g2
  cases six with
  | true =>
    rw [if_pos rfl, Bool.and_eq_true, beq_iff_eq, beq_iff_eq] at g1 g2
    exact ⟨g2.1.symm.trans g1.1, g2.2.symm.trans g1.2, rfl⟩
  | false =>
    rw [if_neg (by decide), Bool.and_eq_true, beq_iff_eq, beq_iff_eq] at g1 g2
    exact ⟨g1.1, g2.2.symm.trans g1.2, rfl⟩
/-- Does an address begin with a view's prefix? -/
def hasV (v : Vw) (six : Bool) (hi lo : Int) : Bool := pfxOk v.six v.hi v.lo v.bits && (six == v.six) && begins six hi lo v.hi v.lo v.bits
theorem hasV_path {v : Vw} {six : Bool} {hi lo : Int} (w0 : U64 hi) (w1 : U64 lo) (w2 : U64 v.hi) (w3 : U64 v.lo) (hok : pfxOk v.six v.hi v.lo v.bits = true) (ha : addrOk six hi lo = true) :
    hasV v six hi lo = true ↔ v.six = six ∧ vwPath v = path six hi lo v.bits.toNat := by
  unfold hasV vwPath
  rw [hok, Bool.true_and, Bool.and_eq_true, beq_iff_eq]
  constructor
  · rintro ⟨rfl, h⟩
    exact ⟨rfl, ((path_begins w0 w1 w2 w3 hok ha).2 h).symm⟩
  · rintro ⟨rfl, h⟩
    exact ⟨rfl, (path_begins w0 w1 w2 w3 hok ha).1 h.symm⟩
/-- What the law finds among so many views: level, and length. -/
structure LV (l : List Vw) (six : Bool) (hi lo : Int) (k : Nat) (lev lg : Int) : Prop where
  or : (lev = 0 ∧ lg = -1 ∧ ∀ i, i < k → hasV (l.getD i vw0) six hi lo = false) ∨
    ∃ i, i < k ∧ hasV (l.getD i vw0) six hi lo = true ∧ lev = (l.getD i vw0).level ∧ lg = (l.getD i vw0).bits ∧ ∀ j, j < k → hasV (l.getD j vw0) six hi lo = true → (l.getD j vw0).bits ≤ lg
theorem lv_start (l : List Vw) (six : Bool) (hi lo : Int) : LV l six hi lo 0 0 (-1) := ⟨.inl ⟨rfl, rfl, fun i h => absurd h (Nat.not_lt_zero _)⟩⟩
theorem hasV_bits {v : Vw} {six : Bool} {hi lo : Int} (h : hasV v six hi lo = true) : 0 ≤ v.bits ∧ v.bits ≤ if v.six = true then 128 else 32 := by
  unfold hasV at h
  simp only [Bool.and_eq_true] at h
  exact pfxOk_bits h.1.1
theorem lv_yes {l : List Vw} {six : Bool} {hi lo : Int} {k : Nat} {lev lg : Int} (h : LV l six hi lo k lev lg) (h1 : hasV (l.getD k vw0) six hi lo = true) (h2 : lg < (l.getD k vw0).bits) : LV l six hi lo (k + 1) (l.getD k vw0).level (l.getD k vw0).bits := by
  refine ⟨.inr ⟨k, Nat.lt_succ_self _, h1, rfl, rfl, fun j hj hh => ?_⟩⟩
  by_cases e : j = k
  · subst e; exact Int.le_refl _
  · rcases h.or with ⟨_, _, h3⟩ | ⟨i, _, _, _, h4, h5⟩
    · rw [h3 j (by omega)] at hh; cases hh
    · have := h5 j (by omega) hh
      omega
theorem lv_no {l : List Vw} {six : Bool} {hi lo : Int} {k : Nat} {lev lg : Int} (h : LV l six hi lo k lev lg) (h1 : hasV (l.getD k vw0) six hi lo = false ∨ (l.getD k vw0).bits ≤ lg) : LV l six hi lo (k + 1) lev lg := by
  rcases h.or with ⟨a, b, h3⟩ | ⟨i, hi', a, b, c, h5⟩
  · subst a b
    refine ⟨.inl ⟨rfl, rfl, fun j hj => ?_⟩⟩
    by_cases e : j = k
    · subst e
      cases hc : hasV (l.getD j vw0) six hi lo with
      | false => rfl
      | true =>
        rcases h1 with h1 | h1
        · rw [hc] at h1; exact h1
        · have := (hasV_bits hc).1; omega
    · exact h3 j (by omega)
  · refine ⟨.inr ⟨i, by omega, a, b, c, fun j hj hh => ?_⟩⟩
    by_cases e : j = k
    · subst e
      rcases h1 with h1 | h1
      · rw [h1] at hh; cases hh
      · exact h1
    · exact h5 j (by omega) hh
theorem best_miss {α : Type} {g : Nat → Bool} {f : Nat → α} {z : α} : ∀ k, (∀ i, i < k → g i = false) → best g f z k = z
  | 0, _ => rfl
  | k + 1, h => by rw [best, h k (Nat.lt_succ_self _), if_neg (by decide)]; exact best_miss k (fun i hi => h i (by omega))
theorem best_at {α : Type} {g : Nat → Bool} {f : Nat → α} {z : α} {m : Nat} (hm : g m = true) : ∀ k, m < k → (∀ i, m < i → i < k → g i = false) → best g f z k = f m
  | 0, h, _ => absurd h (Nat.not_lt_zero _)
  | k + 1, h, h2 => by
    by_cases e : m = k
    · subst e; rw [best, if_pos hm]
    · rw [best, h2 k (by omega) (Nat.lt_succ_self _), if_neg (by decide)]
      exact best_at hm k (by omega) (fun i a b => h2 i a (by omega))
/-- The trie's answer is the law's. -/
theorem lv_best {T : Tri} {l : List Vw} {six : Bool} {hi lo lev lg : Int} (w0 : U64 hi) (w1 : U64 lo) (hwf : ∀ v ∈ l, U64 v.hi ∧ U64 v.lo) (hok : ∀ v ∈ l, pfxOk v.six v.hi v.lo v.bits = true) (hT : ViewsIn T l l.length) (ha : addrOk six hi lo = true) (h : LV l six hi lo l.length lev lg) :
    bestV T six hi lo (bitsN six + 1) = lev := by
  have hin : ∀ i, i < l.length → l.getD i vw0 ∈ l := fun i hi => by
    have e : l[i]? = some (l.getD i vw0) := by rw [List.getD_eq_getElem?_getD, List.getElem?_eq_getElem hi]; rfl
    exact List.mem_of_getElem? e
  have hit : ∀ i, i < l.length → (hasV (l.getD i vw0) six hi lo = true ↔ (l.getD i vw0).six = six ∧ vwPath (l.getD i vw0) = path six hi lo (l.getD i vw0).bits.toNat) := fun i hi' => hasV_path w0 w1 (hwf _ (hin i hi')).1 (hwf _ (hin i hi')).2 (hok _ (hin i hi')) ha
  have hlen : ∀ i, i < l.length → (vwPath (l.getD i vw0)).length = (l.getD i vw0).bits.toNat := fun i _ => by unfold vwPath; exact path_len _ _ _ _
  have hh : ∀ m, T.has six (path six hi lo m) = true → ∃ i, i < l.length ∧ hasV (l.getD i vw0) six hi lo = true ∧ (l.getD i vw0).bits.toNat = m := fun m hm => by
    obtain ⟨i, a, b, c⟩ := (hT.has _ _).1 hm
    have e := hlen i a
    rw [c, path_len] at e
    exact ⟨i, a, (hit i a).2 ⟨b, by rw [← e]; exact c⟩, e.symm⟩
  rcases h.or with ⟨rfl, _, h3⟩ | ⟨i, a, b, rfl, c, h5⟩
  · refine best_miss _ (fun m _ => ?_)
    rw [← Bool.not_eq_true]
    intro hm
    obtain ⟨i, a, b, _⟩ := hh m hm
    rw [h3 i a] at b; cases b
  · obtain ⟨e1, e2⟩ := (hit i a).1 b
    have hb := hasV_bits b
    rw [e1] at hb
    have hb2 : (l.getD i vw0).bits.toNat < bitsN six + 1 := by
      unfold bitsN
      cases six <;> simp at hb ⊢ <;> omega
    have hm : T.has six (path six hi lo (l.getD i vw0).bits.toNat) = true := (hT.has _ _).2 ⟨i, a, e1, e2⟩
    unfold bestV
    rw [best_at (m := (l.getD i vw0).bits.toNat) hm _ hb2 (fun m a1 a2 => ?_), ← e2]
    · have := hT.val i a
      rw [e1] at this
      exact this
    · rw [← Bool.not_eq_true]
      intro hm2
      obtain ⟨j, b1, b2, b3⟩ := hh m hm2
      have := h5 j b1 b2
      have := (hasV_bits b2).1
      omega
/-- The same, of any address: one that may not be begins with no prefix. -/
def LW (l : List Vw) (six : Bool) (hi lo : Int) (k : Nat) (lev lg : Int) : Prop := if addrOk six hi lo = true then LV l six hi lo k lev lg else lev = 0
theorem lw_start (l : List Vw) (six : Bool) (hi lo : Int) : LW l six hi lo 0 0 (-1) := by
  unfold LW
  split
  · exact lv_start _ _ _ _
  · rfl
theorem lw_yes {l : List Vw} {six : Bool} {hi lo : Int} {k : Nat} {lev lg : Int} (h : LW l six hi lo k lev lg) (ha : addrOk six hi lo = true) (h1 : hasV (l.getD k vw0) six hi lo = true) (h2 : lg < (l.getD k vw0).bits) : LW l six hi lo (k + 1) (l.getD k vw0).level (l.getD k vw0).bits := by
  unfold LW at *
  rw [if_pos ha] at *
  exact lv_yes h h1 h2
theorem lw_no {l : List Vw} {six : Bool} {hi lo : Int} {k : Nat} {lev lg : Int} (h : LW l six hi lo k lev lg) (h1 : addrOk six hi lo = false ∨ hasV (l.getD k vw0) six hi lo = false ∨ (l.getD k vw0).bits ≤ lg) : LW l six hi lo (k + 1) lev lg := by
  unfold LW at *
  split at h
  · rename_i e
    rw [if_pos e]
    rcases h1 with h1 | h1
    · rw [e] at h1; cases h1
    · exact lv_no h h1
  · rename_i e
    rw [if_neg e]; exact h
theorem lw_end {T : Tri} {l : List Vw} {six : Bool} {hi lo lev lg : Int} (w0 : U64 hi) (w1 : U64 lo) (hwf : ∀ v ∈ l, U64 v.hi ∧ U64 v.lo) (hok : ∀ v ∈ l, pfxOk v.six v.hi v.lo v.bits = true) (hT : ViewsIn T l l.length) (h : LW l six hi lo l.length lev lg) :
    (if addrOk six hi lo = true then bestV T six hi lo (bitsN six + 1) else 0) = lev := by
  unfold LW at h
  split
  · rename_i e
    rw [if_pos e] at h
    exact lv_best w0 w1 hwf hok hT e h
  · rename_i e
    rw [if_neg e] at h
    exact h.symm
end Go.Proofs.Ytceekfbhkenniaa
end
