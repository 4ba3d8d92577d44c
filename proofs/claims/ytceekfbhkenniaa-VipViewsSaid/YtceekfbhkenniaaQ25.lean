/- Lemmas for the claim's proof: VipM VipN. -/
import Derived.Test.YtceekfbhkenniaaQ24
section
/- pfx.Has. -/
set_option linter.unusedVariables false
namespace Go.Proofs.Ytceekfbhkenniaa
open Go.RowKit
set_option maxHeartbeats 8000000
set_option maxRecDepth 100000
theorem pfx_Has (six : Bool) (hi lo b : Int) (d6 : Bool) (dh dl : Int) (w : World) :
    Calls Try.prog 24 #[.agg #[.bool six, .int .u64 hi, .int .u64 lo, .int .i64 b], .agg #[.bool d6, .int .u64 dh, .int .u64 dl]] w fun e w' => e = .returned (.bool (pfxOk six hi lo b && (d6 == six) && begins d6 dh dl hi lo b)) ∧ Below w.heap.size w w' := by
  have P := (Blk.new w 37 #[.bool six, .int .u64 hi, .int .u64 lo, .int .i64 b]).alloc (.cells #[.bool d6, .int .u64 dh, .int .u64 dl] 25)
  have Q := Blk.new (w.alloc (.cells #[.bool six, .int .u64 hi, .int .u64 lo, .int .i64 b] 37)) 25 #[.bool d6, .int .u64 dh, .int .u64 dl]
  have hsz : (w.alloc (.cells #[.bool six, .int .u64 hi, .int .u64 lo, .int .i64 b] 37)).heap.size = w.heap.size + 1 := by simp
  rw [hsz] at Q
  have hW : Below w.heap.size w ((w.alloc (.cells #[.bool six, .int .u64 hi, .int .u64 lo, .int .i64 b] 37)).alloc (.cells #[.bool d6, .int .u64 dh, .int .u64 dl] 25)) := ((Below.refl _ _).alloc (Nat.le_refl _) _).alloc (by simp) _
  have CR := fun w => pfx_Right six hi lo b w
  have hb := fun h => pfxOk_bits (six := six) (hi := hi) (lo := lo) (b := b) h
  clear hsz
  generalize pfxOk six hi lo b = OK at *
  go_enter Try.func24, Try.ntmps24
  go_upto_region 2 with (fail)
  generalize ((w.alloc (.cells #[.bool six, .int .u64 hi, .int .u64 lo, .int .i64 b] 37)).alloc (.cells #[.bool d6, .int .u64 dh, .int .u64 dl] 25)) = u at *
  obtain ⟨p0, p1, p2, p3, _⟩ := P.cells4
  obtain ⟨q0, q1, q2, _⟩ := Q.cells3
  have U0 := cell_under p0
  have U1 := cell_under p1
  have U2 := cell_under p2
  have U3 := cell_under p3
  have V0 := cell_under q0
  have V1 := cell_under q1
  have V2 := cell_under q2
  clear P Q p0 p1 p2 p3 q0 q1 q2
  cases OK with
  | false =>
    clear hb
    refine wp_region_quiet_under (by kernel_rfl) (by kernel_rfl) ?_
    repeat (go_big_quiet_step (((go_at_call 40; exact calls_under (CR _)))))
    refine wpQuiet_nil ?_
    intro wu hw'
    obtain ⟨pq, hw''⟩ := hw'
    have hU := below_eq hw''
    clear hw'' pq
    go_wp2
    go_ret
    exact ⟨by simp, below_step hW hU⟩
  | true =>
    obtain ⟨b0, b1⟩ := hb rfl
    cases hs : (d6 == six) with
    | false =>
      clear b0 b1
      refine wp_region_quiet_under (by kernel_rfl) (by kernel_rfl) ?_
      repeat (go_big_quiet_step (((go_at_call 40; exact calls_under (CR _)))))
      refine wpQuiet_nil ?_
      intro wu hw'
      obtain ⟨pq, hw''⟩ := hw'
      have hU := below_eq hw''
      clear hw'' pq
      go_wp2
      go_ret
      exact ⟨by simp, below_step hW hU⟩
    | true =>
      obtain rfl : d6 = six := eq_of_beq hs
      clear hs
      cases d6 with
      | true =>
        rw [if_pos rfl] at b1
        have CM := fun w => pfx_Mask6 dh dl b b0 b1 w
        obtain ⟨E, hE⟩ : ∃ E, E = begins true dh dl hi lo b := ⟨_, rfl⟩
        have HQ : (true == true && keepHi dh b == hi && keepLo dl b == lo) = E := by rw [hE]; unfold begins; rw [if_pos rfl]; simp
        have HEE := Lib.hid hE
        clear hE b0 b1
        refine wp_region_quiet_under (by kernel_rfl) (by kernel_rfl) ?_
        repeat (go_big_quiet_step ((first | (go_at_call 40; exact calls_under (CR _)) | (go_at_call 41; exact calls_under (CM _)))))
        go_big_quiet_want
        refine quiet_eq_addr HQ rfl rfl rfl ?_
        simp only [Act.put, List.setIfInBounds_toArray, List.set_cons_zero, List.set_cons_succ]
        go_big_quiet_on
        repeat (go_big_quiet_step (fail))
        refine wpQuiet_nil ?_
        intro wu hw'
        obtain ⟨pq, hw''⟩ := hw'
        have hU := below_eq hw''
        clear hw'' pq
        go_wp2
        go_ret
        exact ⟨by rw [HEE.out]; simp, below_step hW hU⟩
      | false =>
        rw [if_neg (by decide)] at b1
        have CM := fun w => pfx_Mask4 dh dl b b0 b1 w
        obtain ⟨E, hE⟩ : ∃ E, E = begins false dh dl hi lo b := ⟨_, rfl⟩
        have HQ : (false == false && dh == hi && keepLo4 dl b == lo) = E := by rw [hE]; unfold begins; rw [if_neg (by decide)]; simp
        have HEE := Lib.hid hE
        clear hE b0 b1
        refine wp_region_quiet_under (by kernel_rfl) (by kernel_rfl) ?_
        repeat (go_big_quiet_step ((first | (go_at_call 40; exact calls_under (CR _)) | (go_at_call 41; exact calls_under (CM _)))))
        go_big_quiet_want
        refine quiet_eq_addr HQ rfl rfl rfl ?_
        simp only [Act.put, List.setIfInBounds_toArray, List.set_cons_zero, List.set_cons_succ]
        go_big_quiet_on
        repeat (go_big_quiet_step (fail))
        refine wpQuiet_nil ?_
        intro wu hw'
        obtain ⟨pq, hw''⟩ := hw'
        have hU := below_eq hw''
        clear hw'' pq
        go_wp2
        go_ret
        exact ⟨by rw [HEE.out]; simp, below_step hW hU⟩
end Go.Proofs.Ytceekfbhkenniaa
end
section
/- VipViews. -/
set_option linter.unusedVariables false
namespace Go.Proofs.Ytceekfbhkenniaa
open Go.RowKit
set_option maxHeartbeats 8000000
set_option maxRecDepth 100000
theorem Blk.far11v {w : World} {g h : Nat} {t : TypeId} {cs : Array Value} (P : Blk w h t cs) (hne : h ≠ g) (v0 v1 v2 v3 v4 v5 v6 v7 v8 v9 v10 : Value) :
    Blk (((((((((((w.setCell ⟨g, 0, none⟩ v0).setCell ⟨g, 1, none⟩ v1).setCell ⟨g, 2, none⟩ v2).setCell ⟨g, 3, none⟩ v3).setCell ⟨g, 4, none⟩ v4).setCell ⟨g, 5, none⟩ v5).setCell ⟨g, 6, none⟩ v6).setCell ⟨g, 7, none⟩ v7).setCell ⟨g, 8, none⟩ v8).setCell ⟨g, 9, none⟩ v9).setCell ⟨g, 10, none⟩ v10) h t cs :=
  ((((((((((P.far (p := ⟨g, 0, none⟩) hne _).far (p := ⟨g, 1, none⟩) hne _).far (p := ⟨g, 2, none⟩) hne _).far (p := ⟨g, 3, none⟩) hne _).far (p := ⟨g, 4, none⟩) hne _).far (p := ⟨g, 5, none⟩) hne _).far (p := ⟨g, 6, none⟩) hne _).far (p := ⟨g, 7, none⟩) hne _).far (p := ⟨g, 8, none⟩) hne _).far (p := ⟨g, 9, none⟩) hne _).far (p := ⟨g, 10, none⟩) hne _
theorem vipViews_walk (w : World) (a : Conf) (ha : IsConf w a) (d6 : Bool) (dh dl : Int) (w2' : U64 dh) (w3' : U64 dl) :
    Calls Try.prog 8 #[.agg a.cells, .agg #[.bool d6, .int .u64 dh, .int .u64 dl]] w fun e w' => e = .returned (.bool true) ∧ Below w.heap.size w w' := by
  have hFa := fun w h => law18_Few a w h
  have hfa := ha.few
  have hn := few_nn a
  have hv20 : a.few.vn ≤ 20 := by show min a.vn 20 ≤ 20; omega
  have hw20 : a.few.wn ≤ 20 := by show min a.wn 20 ≤ 20; omega
  generalize a.few = s at *
  have hNW := fun w h => valid_New s w h hn
  have hNV := Lib.hid (fun (e : Ending) (w' : World) (h : NewV s e w') => (show (whyI s ≠ 0 ∧ e = .returned (.tuple #[.pointer none, .int .i64 (whyI s)])) ∨
      (whyI s = 0 ∧ ∃ vb b A1 k1 A2 k2 A3 k3, e = .returned (.tuple #[.pointer (some ⟨vb, 0, none⟩), .int .i64 0]) ∧
        Blk w' vb 50 (vcells (s.with A1 k1 A2 k2 A3 k3) b) ∧ IsConf w' (s.with A1 k1 A2 k2 A3 k3) ∧ TR w' b s.nodes) from h))
  have hVN := fun A1 k1 A2 k2 A3 k3 vb b w h1 h2 h3 h4 => vip_New (s.with A1 k1 A2 k2 A3 k3) vb b w h1 h2 (show s.vn ≤ 64 by omega) (show s.wn ≤ 64 by omega) h3 h4
  have HVW := Lib.hid (fun (h : whyI s = 0) => vws_ok (why_zero h).2 hfa.views.wf)
  generalize NewV s = PO at *
  generalize whyI s = WY at *
  obtain ⟨sna, snn, snc, sva, svn, svc, swa, swn, swc, sf, sd, ⟨sx, sy, sz⟩, ⟨su, sv, sw⟩, sN, sV, sW⟩ := s
  obtain ⟨ana, ann, anc, ava, avn, avc, awa, awn, awc, af, ad, ⟨ax, ay, az⟩, ⟨au, av, aw⟩, aN, aV, aW⟩ := a
  unfold Conf.with Conf.cells at *
  dsimp only at *
  have P := (Blk.new w 33 #[.slice ana ann anc, .slice ava avn avc, .slice awa awn awc, .int .i64 af, .int .i64 ad, .bool ax, .int .u64 ay, .int .u64 az, .bool au, .int .u64 av, .int .u64 aw]).alloc (.cells #[.bool d6, .int .u64 dh, .int .u64 dl] 25)
  have X := Blk.new (w.alloc (.cells #[.slice ana ann anc, .slice ava avn avc, .slice awa awn awc, .int .i64 af, .int .i64 ad, .bool ax, .int .u64 ay, .int .u64 az, .bool au, .int .u64 av, .int .u64 aw] 33)) 25 #[.bool d6, .int .u64 dh, .int .u64 dl]
  have hsz : (w.alloc (.cells #[.slice ana ann anc, .slice ava avn avc, .slice awa awn awc, .int .i64 af, .int .i64 ad, .bool ax, .int .u64 ay, .int .u64 az, .bool au, .int .u64 av, .int .u64 aw] 33)).heap.size = w.heap.size + 1 := by simp
  rw [hsz] at X
  have hW : Below w.heap.size w ((w.alloc (.cells #[.slice ana ann anc, .slice ava avn avc, .slice awa awn awc, .int .i64 af, .int .i64 ad, .bool ax, .int .u64 ay, .int .u64 az, .bool au, .int .u64 av, .int .u64 aw] 33)).alloc (.cells #[.bool d6, .int .u64 dh, .int .u64 dl] 25)) := ((Below.refl _ _).alloc (Nat.le_refl _) _).alloc (by simp) _
  go_enter Try.func8, Try.ntmps8
  go_upto_region 1 with (fail)
  generalize ((w.alloc (.cells #[.slice ana ann anc, .slice ava avn avc, .slice awa awn awc, .int .i64 af, .int .i64 ad, .bool ax, .int .u64 ay, .int .u64 az, .bool au, .int .u64 av, .int .u64 aw] 33)).alloc (.cells #[.bool d6, .int .u64 dh, .int .u64 dl] 25)) = u at *
  clear hsz
  obtain ⟨p0, p1, p2, p3, p4, p5, p6, p7, p8, p9, p10, _⟩ := P.cells11
  go_wp2_with fail
  refine (hFa _ (ha.keep hW)).mono ?_; rintro e w1 ⟨rfl, hx1⟩
  have P1 := P.keep hx1
  have X1 := X.keep hx1
  have hW1 := below_step hW hx1
  clear P X hW hx1 p0 p1 p2 p3 p4 p5 p6 p7 p8 p9 p10 hFa ha
  obtain ⟨p0, p1, p2, p3, p4, p5, p6, p7, p8, p9, p10, _⟩ := P1.cells11
  obtain ⟨f0, f1, f2, f3, f4, f5, f6, f7, f8, f9, f10⟩ := P1.free11
  go_upto_region 2 with (fail)
  have P2 := P1.turn11 (.slice sna snn snc) (.slice sva svn svc) (.slice swa swn swc) (.int .i64 sf) (.int .i64 sd) (.bool sx) (.int .u64 sy) (.int .u64 sz) (.bool su) (.int .u64 sv) (.int .u64 sw)
  have X2 := X1.far11v (g := w.heap.size) (by omega) (.slice sna snn snc) (.slice sva svn svc) (.slice swa swn swc) (.int .i64 sf) (.int .i64 sd) (.bool sx) (.int .u64 sy) (.int .u64 sz) (.bool su) (.int .u64 sv) (.int .u64 sw)
  have hW2 := below_turn11 (g := w.heap.size) hW1 (Nat.le_refl _) (.slice sna snn snc) (.slice sva svn svc) (.slice swa swn swc) (.int .i64 sf) (.int .i64 sd) (.bool sx) (.int .u64 sy) (.int .u64 sz) (.bool su) (.int .u64 sv) (.int .u64 sw)
  clear P1 X1 hW1 p0 p1 p2 p3 p4 p5 p6 p7 p8 p9 p10 f0 f1 f2 f3 f4 f5 f6 f7 f8 f9 f10
  generalize (((((((((((w1.setCell ⟨w.heap.size, 0, none⟩ (.slice sna snn snc)).setCell ⟨w.heap.size, 1, none⟩ (.slice sva svn svc)).setCell ⟨w.heap.size, 2, none⟩ (.slice swa swn swc)).setCell ⟨w.heap.size, 3, none⟩ (.int .i64 sf)).setCell ⟨w.heap.size, 4, none⟩ (.int .i64 sd)).setCell ⟨w.heap.size, 5, none⟩ (.bool sx)).setCell ⟨w.heap.size, 6, none⟩ (.int .u64 sy)).setCell ⟨w.heap.size, 7, none⟩ (.int .u64 sz)).setCell ⟨w.heap.size, 8, none⟩ (.bool su)).setCell ⟨w.heap.size, 9, none⟩ (.int .u64 sv)).setCell ⟨w.heap.size, 10, none⟩ (.int .u64 sw)) = u2 at *
  obtain ⟨p0, p1, p2, p3, p4, p5, p6, p7, p8, p9, p10, _⟩ := P2.cells11
  have hs2 := hfa.keep hW2
  go_wp2_with fail
  refine (hNW _ hs2).mono ?_
  rintro e w3 ⟨hPO, hx3⟩
  have P3 := P2.keep hx3
  have X3 := X2.keep hx3
  have hW3 := below_step hW2 hx3
  have hs3 := hs2.keep hx3
  clear P2 X2 hW2 hs2 p0 p1 p2 p3 p4 p5 p6 p7 p8 p9 p10 hNW
  rcases hNV.out _ _ hPO with ⟨hwy, rfl⟩ | ⟨rfl, vb, b, A1, k1, A2, k2, A3, k3, rfl, hV, hCV, hTV⟩
  · have g1 : (WY != 0) = true := by rw [bne_iff_ne]; exact hwy
    clear hNV hPO hx3 hVN hwy HVW
    go_wp2_with fail
    refine (law30_awake _).mono ?_; rintro e w5 ⟨rfl, hx5⟩
    go_wp2
    go_ret
    exact ⟨rfl, below_step hW3 hx5⟩
  · have hvw := HVW.out rfl
    have hNw := hVN A1 k1 A2 k2 A3 k3 vb b w3 hV hCV hvw.1 hvw.2
    clear hNV hPO hx3 hVN HVW hV hCV hTV
    go_wp2_with fail
    refine hNw.mono ?_
    rintro e w4 ⟨⟨tb, tr, m1, m2, AT, kT, rfl, hT, T, B, hTr, hVI⟩, hx4⟩
    have P4 := P3.keep hx4
    have X4 := X3.keep hx4
    have hs4 := hs3.keep hx4
    have hW4 := below_step hW3 hx4
    clear P3 X3 hs3 hW3 hx4 hNw
    have hHF := Lib.hid hvw
    clear hvw
    have hn := hs4.views.len
    have hwl := Lib.hid hn
    have hwf := Lib.hid hs4.views.wf
    have hS4 := hs4.views
    have hcc := hS4.cap
    have hcs := hS4.small
    dsimp only at hn hwl hwf hS4 hcc hcs
    clear hn hs4
    have q2 := P4.cell 2
    have HVI := Lib.hid hVI
    clear hVI
    go_wp2_with fail
    go_loopg [8, 9, 10, 11] swn (fun gk s8 s9 s10 s11 wr => ∃ (i : Nat) (lev lg : Int), i ≤ swn ∧ gk = swn - i ∧ s10 = .int .i64 i ∧ s8 = .int .i64 lev ∧ s9 = .int .i64 lg ∧ Hid (LW sW d6 dh dl i lev lg) ∧ Blk wr w.heap.size 33 #[.slice sna snn snc, .slice sva svn svc, .slice swa swn swc, .int .i64 sf, .int .i64 sd, .bool sx, .int .u64 sy, .int .u64 sz, .bool su, .int .u64 sv, .int .u64 sw] ∧ Blk wr (w.heap.size + 1) 25 #[.bool d6, .int .u64 dh, .int .u64 dl] ∧ TabV wr tb tr m1 m2 sV AT svn kT ∧ IsTrie wr tr B T ∧ IsRow vwShape wr swa swn swc sW ∧ Below w.heap.size w wr)
    case atStart => exact ⟨0, 0, -1, Nat.zero_le _, rfl, rfl, rfl, rfl, Lib.hid (lw_start _ _ _ _), P4, X4, hT, hTr, hS4, hW4⟩
    case round =>
      clear P4 X4 hT hTr hS4 hW4 q2
      obtain ⟨i, lev, lg, hi, rfl, rfl, rfl, rfl, HL, P5, X5, T5, R5, S5, hW5⟩ := hrel
      have q2 := P5.cell 2
      by_cases hin : i < swn
      · have hii : (i : Int) < (swn : Int) := by omega
        obtain ⟨ad, rfl, hbk, hat⟩ := S5.vwat_ hin
        obtain ⟨c0, c1, c2, c3, c4⟩ := hat
        have hvz : vwShape.z = vw0 := rfl
        rw [hvz] at c0 c1 c2 c3 c4
        clear hvz
        have HYES := Lib.hid (fun ha h1 h2 => lw_yes HL.out ha h1 h2)
        have HNO := Lib.hid (fun h => lw_no HL.out h)
        unfold hasV at HYES HNO
        clear HL
        obtain ⟨y, hy⟩ : ∃ y, y = sW.getD i vw0 := ⟨_, rfl⟩
        rw [← hy] at c0 c1 c2 c3 c4 HYES HNO
        clear hy
        obtain ⟨x6, xh, xl, xb, xv⟩ := y
        dsimp only at c0 c1 c2 c3 c4 HYES HNO
        have hHas := fun w => pfx_Has x6 xh xl xb d6 dh dl w
        generalize (pfxOk x6 xh xl xb && (d6 == x6) && begins d6 dh dl xh xl xb) = E at *
        go_upto_region 13 with (fail)
        have hA3 : Below wr.heap.size wr (wr.alloc (.cells #[.bool x6, .int .u64 xh, .int .u64 xl, .int .i64 xb] 37)) := (Below.refl _ _).alloc (Nat.le_refl _) _
        have Q6 := Blk.new wr 37 #[.bool x6, .int .u64 xh, .int .u64 xl, .int .i64 xb]
        have P6 := P5.keep hA3
        have X6 := X5.keep hA3
        have T6 := T5.keep hA3
        have R6 := R5.keep hA3
        have S6 := S5.keep hA3
        have hW6 := below_step hW5 hA3
        have e4 := cell_keep c4 hA3
        clear P5 X5 T5 R5 S5 hW5 hA3 c0 c1 c2 c3 c4 q2
        generalize wr.heap.size = g11 at *
        generalize wr.alloc (.cells #[.bool x6, .int .u64 xh, .int .u64 xl, .int .i64 xb] 37) = u at *
        obtain ⟨b0, b1, b2, b3, _⟩ := Q6.cells4
        obtain ⟨a0, a1, a2, _⟩ := X6.cells3
        cases E with
        | false =>
          go_wp2_with fail
          refine (hHas _).mono ?_; rintro e wu ⟨rfl, hU⟩
          obtain ⟨a0, a1, a2, _⟩ := (X6.keep hU).cells3
          obtain ⟨b0, b1, b2, b3, _⟩ := (Q6.keep hU).cells4
          go_wp2
          go_roundg (swn - (i + 1))
          case measure => omega
          case rel => exact ⟨i + 1, lev, lg, by omega, rfl, by go_num, rfl, rfl, Lib.hid (HNO.out (Or.inr (Or.inl (by trivial)))), P6.keep hU, X6.keep hU, T6.keep hU, R6.keep hU, S6.keep hU, below_step hW6 hU⟩
        | true =>
          by_cases hlt : lg < xb
          · cases d6 with
            | true =>
              go_wp2_with fail
              refine (hHas _).mono ?_; rintro e wu ⟨rfl, hU⟩
              obtain ⟨a0, a1, a2, _⟩ := (X6.keep hU).cells3
              obtain ⟨b0, b1, b2, b3, _⟩ := (Q6.keep hU).cells4
              have P7 := P6.keep hU
              have q2 := P7.cell 2
              have e5 := cell_keep e4 hU
              clear hHas
              go_wp2
              go_roundg (swn - (i + 1))
              case measure => omega
              case rel => exact ⟨i + 1, xv, xb, by omega, rfl, by go_num, rfl, rfl, Lib.hid (HYES.out rfl (by trivial) hlt), P7, X6.keep hU, T6.keep hU, R6.keep hU, S6.keep hU, below_step hW6 hU⟩
            | false =>
              by_cases hz : dh = 0
              · subst hz
                by_cases hl4 : dl < 4294967296
                · have hok : addrOk false 0 dl = true := by unfold addrOk; simp [hl4]
                  go_wp2_with fail
                  refine (hHas _).mono ?_; rintro e wu ⟨rfl, hU⟩
                  obtain ⟨a0, a1, a2, _⟩ := (X6.keep hU).cells3
                  obtain ⟨b0, b1, b2, b3, _⟩ := (Q6.keep hU).cells4
                  have P7 := P6.keep hU
                  have q2 := P7.cell 2
                  have e5 := cell_keep e4 hU
                  clear hHas
                  go_wp2
                  go_roundg (swn - (i + 1))
                  case measure => omega
                  case rel => exact ⟨i + 1, xv, xb, by omega, rfl, by go_num, rfl, rfl, Lib.hid (HYES.out hok (by trivial) hlt), P7, X6.keep hU, T6.keep hU, R6.keep hU, S6.keep hU, below_step hW6 hU⟩
                · have hok : addrOk false 0 dl = false := by unfold addrOk; simp; omega
                  go_wp2_with fail
                  refine (hHas _).mono ?_; rintro e wu ⟨rfl, hU⟩
                  obtain ⟨a0, a1, a2, _⟩ := (X6.keep hU).cells3
                  obtain ⟨b0, b1, b2, b3, _⟩ := (Q6.keep hU).cells4
                  go_wp2
                  go_roundg (swn - (i + 1))
                  case measure => omega
                  case rel => exact ⟨i + 1, lev, lg, by omega, rfl, by go_num, rfl, rfl, Lib.hid (HNO.out (Or.inl hok)), P6.keep hU, X6.keep hU, T6.keep hU, R6.keep hU, S6.keep hU, below_step hW6 hU⟩
              · have hzz : (dh == 0) = false := by rw [beq_eq_false_iff_ne]; exact hz
                have hok : addrOk false dh dl = false := by unfold addrOk; simp [hz]
                go_wp2_with fail
                refine (hHas _).mono ?_; rintro e wu ⟨rfl, hU⟩
                obtain ⟨a0, a1, a2, _⟩ := (X6.keep hU).cells3
                obtain ⟨b0, b1, b2, b3, _⟩ := (Q6.keep hU).cells4
                go_wp2
                go_roundg (swn - (i + 1))
                case measure => omega
                case rel => exact ⟨i + 1, lev, lg, by omega, rfl, by go_num, rfl, rfl, Lib.hid (HNO.out (Or.inl hok)), P6.keep hU, X6.keep hU, T6.keep hU, R6.keep hU, S6.keep hU, below_step hW6 hU⟩
          · have hle : ¬ lg < xb := hlt
            go_wp2_with fail
            refine (hHas _).mono ?_; rintro e wu ⟨rfl, hU⟩
            obtain ⟨a0, a1, a2, _⟩ := (X6.keep hU).cells3
            obtain ⟨b0, b1, b2, b3, _⟩ := (Q6.keep hU).cells4
            go_wp2
            go_roundg (swn - (i + 1))
            case measure => omega
            case rel => exact ⟨i + 1, lev, lg, by omega, rfl, by go_num, rfl, rfl, Lib.hid (HNO.out (Or.inr (Or.inr (by omega)))), P6.keep hU, X6.keep hU, T6.keep hU, R6.keep hU, S6.keep hU, below_step hW6 hU⟩
      · have hke : swn = i := by omega
        subst hke
        have hend := lw_end (T := T) w2' w3' (fun v hv => ⟨(hwf.out v hv).1, (hwf.out v hv).2.1⟩) hHF.out.1 (by rw [hwl.out]; exact HVI.out) (by rw [hwl.out]; exact HL.out)
        have hF := fun w h1 h2 => vip_FromYes (w := w) (vips := sV) (A := AT) (n := svn) (c := kT) (m1 := m1) (m2 := m2) (tb := tb) (tr := tr) (B := B) h1 (T := T) h2 d6 dh dl w2' w3'
        have hLn := fun w h2 => trie_Len (w := w) (tr := tr) (B := B) (T := T) h2
        rw [hend] at hF
        rw [HVI.out.n] at hLn
        clear hend HL HVI hHF hwl hwf
        have hF1 := fun p => hF (under wr p) (T5.keep (under_below wr p)) (R5.keep (under_below wr p))
        have hL1 := fun p => hLn (under wr p) (R5.keep (under_below wr p))
        have hAw := fun w => law30_awake w
        clear hF hLn
        have g1 : (lev == lev) = true := beq_self_eq_true _
        have g2 : ((swn : Int) == (swn : Int)) = true := beq_self_eq_true _
        obtain ⟨a0, a1, a2, _⟩ := X5.cells3
        obtain ⟨t0, t1, t2, t3, _⟩ := T5.blk.cells4
        have U0 := cell_under a0
        have U1 := cell_under a1
        have U2 := cell_under a2
        have V0 := cell_under t0
        have VQ := cell_under q2
        clear P5 X5 T5 R5 S5 a0 a1 a2 t0 t1 t2 t3
        go_upto_region 16 with (fail)
        clear q2
        refine wp_region_quiet_under (by kernel_rfl) (by kernel_rfl) ?_
        repeat (go_big_quiet_step (((first | (go_at_call 23; exact calls_under (hF1 _)) | (go_at_call 25; exact calls_under_same (hL1 _)) | (go_at_call 17; exact calls_under (hAw _))))))
        refine wpQuiet_nil ?_
        intro wu hw'
        obtain ⟨pq, hw''⟩ := hw'
        have hU := below_eq hw''
        clear hw'' pq
        go_wp2
        go_ret
        exact ⟨rfl, below_step hW5 hU⟩
end Go.Proofs.Ytceekfbhkenniaa
end
