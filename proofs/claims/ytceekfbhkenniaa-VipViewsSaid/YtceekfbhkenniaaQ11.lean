/- Lemmas for the claim's proof: ValidH. -/
import Derived.Test.YtceekfbhkenniaaQ10
section
/- valid.New. -/
set_option linter.unusedVariables false
namespace Go.Proofs.Ytceekfbhkenniaa
open Go.RowKit
set_option maxHeartbeats 4000000
set_option maxRecDepth 100000
def treeI (l : List Nd) : Int := errTo (fun j => whyC (l.getD j nd0) (l.take j)) l.length
def lvls (l : List Nd) : Nat := (idx (isK 1) l).length
/-- Why a configuration may not be; 0: it may. -/
def whyI (c : Conf) : Int :=
  if plainI c ≠ 0 then plainI c else if treeI c.nodes ≠ 0 then treeI c.nodes else if selfI c = false then 7 else if vipsI c.vips ≠ 0 then vipsI c.vips else viewsI c.views (lvls c.nodes)
theorem plain_few {c : Conf} (h : plainI c = 0) : c.vn ≤ 64 ∧ c.wn ≤ 64 := by
  unfold plainI at h
  split at h
  · cases h
  · split at h
    · cases h
    · split at h
      · cases h
      · omega
/-- The cells of a configuration that may be. -/
def vcells (c : Conf) (b : Nat) : Array Value := #[.slice c.na c.nn c.nc, .slice c.va c.vn c.vc, .slice c.wa c.wn c.wc, .int .i64 c.factor, .int .i64 c.domain, .bool c.s4.six, .int .u64 c.s4.hi, .int .u64 c.s4.lo, .bool c.s6.six, .int .u64 c.s6.hi, .int .u64 c.s6.lo, .pointer (some ⟨b, 0, none⟩)]
/-- What New hands back. -/
def NewV (c : Conf) (e : Ending) (w' : World) : Prop :=
  (whyI c ≠ 0 ∧ e = .returned (.tuple #[.pointer none, .int .i64 (whyI c)])) ∨
  (whyI c = 0 ∧ ∃ vb b A1 k1 A2 k2 A3 k3, e = .returned (.tuple #[.pointer (some ⟨vb, 0, none⟩), .int .i64 0]) ∧
    Blk w' vb 50 (vcells (c.with A1 k1 A2 k2 A3 k3) b) ∧ IsConf w' (c.with A1 k1 A2 k2 A3 k3) ∧ TR w' b c.nodes)
theorem why_plain {c : Conf} (h : plainI c ≠ 0) : whyI c = plainI c := by unfold whyI; rw [if_pos h]
theorem why_tree {c : Conf} (h : plainI c = 0) (h2 : treeI c.nodes ≠ 0) : whyI c = treeI c.nodes := by unfold whyI; rw [if_neg (by omega), if_pos h2]
theorem why_self {c : Conf} (h : plainI c = 0) (h2 : treeI c.nodes = 0) (h3 : selfI c = false) : whyI c = 7 := by unfold whyI; rw [if_neg (by omega), if_neg (by omega), if_pos h3]
theorem why_vips {c : Conf} (h : plainI c = 0) (h2 : treeI c.nodes = 0) (h3 : selfI c = true) (h4 : vipsI c.vips ≠ 0) : whyI c = vipsI c.vips := by unfold whyI; rw [if_neg (by omega), if_neg (by omega), h3, if_neg (by decide), if_pos h4]
theorem why_views {c : Conf} (h : plainI c = 0) (h2 : treeI c.nodes = 0) (h3 : selfI c = true) (h4 : vipsI c.vips = 0) : whyI c = viewsI c.views (lvls c.nodes) := by unfold whyI; rw [if_neg (by omega), if_neg (by omega), h3, if_neg (by decide), if_neg (by omega)]
theorem tree_bad {l : List Nd} {k : Nat} (hk : k < l.length) (h : ∀ j, j < k → okAt l j) (hb : whyC (l.getD k nd0) (l.take k) ≠ 0) : treeI l = whyC (l.getD k nd0) (l.take k) :=
  errTo_hit (f := fun j => whyC (l.getD j nd0) (l.take j)) (errTo_zero k h) hb l.length hk
theorem tree_ok {l : List Nd} (h : ∀ j, j < l.length → okAt l j) : treeI l = 0 := errTo_zero l.length h
theorem valid_New (c : Conf) (w : World) (hc : IsConf w c) (hn : c.nn ≤ 1024) :
    Calls Try.prog 10 #[.agg c.cells] w fun e w' => NewV c e w' ∧ Below w.heap.size w w' := by
  have hpl := fun w => valid_plain c w (Nat.le_trans hc.vips.cap hc.vips.small) (Nat.le_trans hc.views.cap hc.views.small)
  have hse := fun w h => valid_self c w h
  have hco := fun w h h1 h2 => valid_copyOf c w h hn h1 h2
  have hfew := plain_few (c := c)
  have W1 := Lib.hid (why_plain (c := c))
  have W2 := Lib.hid (why_tree (c := c))
  have W3 := Lib.hid (why_self (c := c))
  have W4 := Lib.hid (why_vips (c := c))
  have W5 := Lib.hid (why_views (c := c))
  have hN : ∀ e w', NewV c e w' ↔ ((whyI c ≠ 0 ∧ e = .returned (.tuple #[.pointer none, .int .i64 (whyI c)])) ∨
      (whyI c = 0 ∧ ∃ vb b A1 k1 A2 k2 A3 k3, e = .returned (.tuple #[.pointer (some ⟨vb, 0, none⟩), .int .i64 0]) ∧
        Blk w' vb 50 (vcells (c.with A1 k1 A2 k2 A3 k3) b) ∧ IsConf w' (c.with A1 k1 A2 k2 A3 k3) ∧ TR w' b c.nodes)) := fun e w' => Iff.rfl
  have HNV := Lib.hid hN
  clear hN
  generalize NewV c = PO at *
  generalize whyI c = WY at *
  generalize plainI c = PL at *
  generalize selfI c = SF at *
  obtain ⟨na, nn, nc, va, vn, vc, wa, wn, wc, factor, domain, ⟨a6, ah, al⟩, ⟨b6, bh, bl⟩, nodes, vips, views⟩ := c
  unfold Conf.with Conf.cells at *
  unfold vcells at *
  dsimp only at *
  have HOK := Lib.hid (show ∀ (w9 : World) (b : Nat) (A1 : Option Addr) (k1 : Nat) (A2 : Option Addr) (k2 : Nat) (A3 : Option Addr) (k3 : Nat), WY = 0 → IsConf w9 ⟨A1, nn, k1, A2, vn, k2, A3, wn, k3, factor, domain, ⟨a6, ah, al⟩, ⟨b6, bh, bl⟩, nodes, vips, views⟩ → TR w9 b nodes →
      PO (.returned (.tuple #[.pointer (some ⟨w9.heap.size, 0, none⟩), .int .i64 0])) (w9.alloc (.cells #[.slice A1 nn k1, .slice A2 vn k2, .slice A3 wn k3, .int .i64 factor, .int .i64 domain, .bool a6, .int .u64 ah, .int .u64 al, .bool b6, .int .u64 bh, .int .u64 bl, .pointer (some ⟨b, 0, none⟩)] 50)) from fun w9 b A1 k1 A2 k2 A3 k3 hz hC hT => by
    have hA : Below w9.heap.size w9 (w9.alloc (.cells #[.slice A1 nn k1, .slice A2 vn k2, .slice A3 wn k3, .int .i64 factor, .int .i64 domain, .bool a6, .int .u64 ah, .int .u64 al, .bool b6, .int .u64 bh, .int .u64 bl, .pointer (some ⟨b, 0, none⟩)] 50)) := (Below.refl _ _).alloc (Nat.le_refl _) _
    exact (HNV.out _ _).2 (.inr ⟨hz, w9.heap.size, b, A1, k1, A2, k2, A3, k3, rfl, Blk.new w9 _ _, hC.keep hA, hT.keep hA⟩))
  have hP := Blk.new w 33 #[.slice na nn nc, .slice va vn vc, .slice wa wn wc, .int .i64 factor, .int .i64 domain, .bool a6, .int .u64 ah, .int .u64 al, .bool b6, .int .u64 bh, .int .u64 bl]
  have hW : Below w.heap.size w (w.alloc (.cells #[.slice na nn nc, .slice va vn vc, .slice wa wn wc, .int .i64 factor, .int .i64 domain, .bool a6, .int .u64 ah, .int .u64 al, .bool b6, .int .u64 bh, .int .u64 bl] 33)) := (Below.refl _ _).alloc (Nat.le_refl _) _
  go_enter Try.func10, Try.ntmps10
  go_upto_region 1 with (fail)
  generalize w.alloc (.cells #[.slice na nn nc, .slice va vn vc, .slice wa wn wc, .int .i64 factor, .int .i64 domain, .bool a6, .int .u64 ah, .int .u64 al, .bool b6, .int .u64 bh, .int .u64 bl] 33) = u at *
  obtain ⟨p0, p1, p2, p3, p4, p5, p6, p7, p8, p9, p10, _⟩ := hP.cells11
  go_wp2_with fail
  refine (hpl _).mono ?_; rintro e w1 ⟨rfl, hx1⟩
  have P1 := hP.keep hx1
  have hW1 := below_step hW hx1
  clear hP hW hx1 p0 p1 p2 p3 p4 p5 p6 p7 p8 p9 p10 hpl
  obtain ⟨p0, p1, p2, p3, p4, p5, p6, p7, p8, p9, p10, _⟩ := P1.cells11
  by_cases h1 : PL = 0
  · subst h1
    obtain ⟨hv64, hw64⟩ := hfew rfl
    replace W2 := Lib.hid (W2.out rfl)
    replace W3 := Lib.hid (W3.out rfl)
    replace W4 := Lib.hid (W4.out rfl)
    replace W5 := Lib.hid (W5.out rfl)
    clear W1 hfew
    go_wp2_with fail
    refine (tree_New na nn nc nodes w1 (hc.nodes.keep hW1)).mono ?_
    rintro e w2 ⟨hNP, hx2⟩
    have P2 := P1.keep hx2
    have hW2 := below_step hW1 hx2
    have hlen : nodes.length = nn := hc.nodes.len
    clear P1 hW1 hx2 p0 p1 p2 p3 p4 p5 p6 p7 p8 p9 p10
    obtain ⟨p0, p1, p2, p3, p4, p5, p6, p7, p8, p9, p10, _⟩ := P2.cells11
    rcases hNP with ⟨kf, hkf, hok, hbad, rfl⟩ | ⟨hok, b, hbw, rfl, hTA⟩
    · have hE := tree_bad (by rw [hlen]; exact hkf) hok hbad
      rw [← hE] at hbad ⊢
      have HE := Lib.hid (W2.out hbad)
      have g1 : (treeI nodes != 0) = true := by rw [bne_iff_ne]; exact hbad
      generalize treeI nodes = TI at *
      clear hok hE
      go_wp2
      go_ret2
      exact ⟨(HNV.out _ _).2 (.inl ⟨by rw [HE.out]; exact hbad, by rw [HE.out]; rfl⟩), hW2⟩
    · have hz := tree_ok (l := nodes) (fun j hj => hok j (by omega))
      replace W3 := Lib.hid (W3.out hz)
      replace W4 := Lib.hid (W4.out hz)
      replace W5 := Lib.hid (W5.out hz)
      have hT2 := hTA.reads hc.nodes.wf (by omega)
      clear W2 hok hz hTA hbw
      go_wp2_with fail
      refine (hse _ (hc.nodes.keep hW2)).mono ?_; rintro e w3 ⟨rfl, hx3⟩
      have P3 := P2.keep hx3
      have hW3 := below_step hW2 hx3
      have hT3 := hT2.keep hx3
      clear P2 hW2 hT2 hx3 p0 p1 p2 p3 p4 p5 p6 p7 p8 p9 p10 hse
      obtain ⟨p0, p1, p2, p3, p4, p5, p6, p7, p8, p9, p10, _⟩ := P3.cells11
      cases SF with
      | false =>
        have HE := Lib.hid (W3.out rfl)
        clear W3 W4 W5
        go_wp2
        go_ret2
        exact ⟨(HNV.out _ _).2 (.inl ⟨by rw [HE.out]; decide, by rw [HE.out]; rfl⟩), hW3⟩
      | true =>
        replace W4 := Lib.hid (W4.out rfl)
        replace W5 := Lib.hid (W5.out rfl)
        clear W3
        have hvl := Lib.hid (show vips.length = vn from hc.vips.len)
        have hwl := Lib.hid (show views.length = wn from hc.views.len)
        have hvc : vn ≤ vc := hc.vips.cap
        have hvs : vc ≤ 9223372036854775807 := hc.vips.small
        have hwc : wn ≤ wc := hc.views.cap
        have hws : wc ≤ 9223372036854775807 := hc.views.small
        obtain ⟨fv, hfv⟩ : ∃ fv : Nat → Int, fv = fun i => vipI (vips.getD i vp0) (vips.take i) := ⟨_, rfl⟩
        have HVI := Lib.hid (show vipsI vips = errTo fv vn by rw [hfv, ← hvl.out]; rfl)
        have HFV := Lib.hid hfv
        clear hfv
        go_wp2_with fail
        go_loopg [8, 9, 10, 35] vn (fun gk s8 s9 s10 s35 wr => ∃ k : Nat, k ≤ vn ∧ gk = vn - k ∧ s35 = .int .i64 k ∧ Hid (errTo fv k = 0) ∧ Blk wr w.heap.size 33 #[.slice na nn nc, .slice va vn vc, .slice wa wn wc, .int .i64 factor, .int .i64 domain, .bool a6, .int .u64 ah, .int .u64 al, .bool b6, .int .u64 bh, .int .u64 bl] ∧ Below w.heap.size w wr ∧ TR wr b nodes)
        case atStart => exact ⟨0, Nat.zero_le _, rfl, rfl, Lib.hid rfl, P3, hW3, hT3⟩
        case round =>
          clear P3 hW3 hT3 p0 p1 p2 p3 p4 p5 p6 p7 p8 p9 p10
          obtain ⟨k, hk, rfl, rfl, HK, P4, hW4, hT4⟩ := hrel
          have hltb := P4.lt
          by_cases hkn : k < vn
          · have hki : (k : Int) < (vn : Int) := by omega
            have hkc : (k : Int) ≤ (vc : Int) := by omega
            have HB := Lib.hid (fun h => errTo_hit (f := fv) HK.out h vn hkn)
            have HG := Lib.hid (fun h => errTo_none (f := fv) HK.out h)
            have hfk := congrFun HFV.out k
            have hcutV := fun w' h => ((hc.vips.keep (w' := w') h).cut (k := k) hk)
            obtain ⟨ad, rfl, hbk, hat⟩ := (hc.vips.keep hW4).vpat_ hkn
            obtain ⟨c0, c1, c2, c3, c4, c5, c6⟩ := hat
            have hvp : vpShape.z = vp0 := rfl
            rw [hvp] at c0 c1 c2 c3 c4 c5 c6
            clear hvp HK W5
            generalize vips.getD k vp0 = y at *
            obtain ⟨x6, xh, xl, xp, xo, xc, xn⟩ := y
            dsimp only at *
            have hvv := fun w' h => valid_vip ⟨x6, xh, xl, xp, xo, xc, xn⟩ (some ad) k vc (vips.take k) w' (hcutV w' h)
            rw [← hfk] at hvv
            clear hfk hcutV
            obtain ⟨p0, p1, p2, p3, p4, p5, p6, p7, p8, p9, p10, _⟩ := P4.cells11
            go_upto_region 12 with (fail)
            have Q := Blk.new wr 35 #[.bool x6, .int .u64 xh, .int .u64 xl, .int .i64 xp, .int .i64 xo, .int .i64 xc, .bool xn]
            have P5 := P4.alloc (.cells #[.bool x6, .int .u64 xh, .int .u64 xl, .int .i64 xp, .int .i64 xo, .int .i64 xc, .bool xn] 35)
            have hW5 := hW4.alloc hW4.size (.cells #[.bool x6, .int .u64 xh, .int .u64 xl, .int .i64 xp, .int .i64 xo, .int .i64 xc, .bool xn] 35)
            have hT5 := hT4.keep ((Below.refl _ _).alloc (Nat.le_refl _) (.cells #[.bool x6, .int .u64 xh, .int .u64 xl, .int .i64 xp, .int .i64 xo, .int .i64 xc, .bool xn] 35))
            clear P4 hW4 hT4 p0 p1 p2 p3 p4 p5 p6 p7 p8 p9 p10 c0 c1 c2 c3 c4 c5 c6
            generalize wr.alloc (.cells #[.bool x6, .int .u64 xh, .int .u64 xl, .int .i64 xp, .int .i64 xo, .int .i64 xc, .bool xn] 35) = u3 at *
            obtain ⟨p0, p1, p2, p3, p4, p5, p6, p7, p8, p9, p10, _⟩ := P5.cells11
            obtain ⟨c0, c1, c2, c3, c4, c5, c6, _⟩ := Q.cells7
            have U0 := cell_under c0
            have U1 := cell_under c1
            have U2 := cell_under c2
            have U3 := cell_under c3
            have U4 := cell_under c4
            have U5 := cell_under c5
            have U6 := cell_under c6
            have U7 := cell_under p1
            clear p0 p1 p2 p3 p4 p5 p6 p7 p8 p9 p10 c0 c1 c2 c3 c4 c5 c6 Q
            generalize fv k = EV at *
            refine wp_region_quiet_under (by kernel_rfl) (by kernel_rfl) ?_
            repeat (go_big_quiet_step (((go_at_call 30; exact calls_under (hvv _ (below_step hW5 (under_below _ _)))))))
            refine wpQuiet_nil ?_
            intro wu hw'
            obtain ⟨pq, hw''⟩ := hw'
            have hU := below_eq hw''
            clear hw'' pq
            have P6 := P5.keep hU
            have hW6 := below_step hW5 hU
            have hT6 := hT5.keep hU
            clear P5 hW5 hT5 hU U0 U1 U2 U3 U4 U5 U6 U7 hvv
            by_cases hEV : EV = 0
            · have HG2 := Lib.hid (HG.out hEV)
              subst hEV
              clear HG HB
              go_wp2
              go_roundg (vn - (k + 1))
              case measure => omega
              case rel => exact ⟨k + 1, by omega, rfl, by go_num, HG2, P6, hW6, hT6⟩
            · have HB2 := HB.out hEV
              have h9 : vipsI vips ≠ 0 := by rw [HVI.out, HB2]; exact hEV
              have HE := Lib.hid ((W4.out h9).trans (HVI.out.trans HB2))
              have g1 : (EV != 0) = true := by rw [bne_iff_ne]; exact hEV
              clear HG HB W4 HB2 h9
              go_wp2
              go_ret2
              exact ⟨(HNV.out _ _).2 (.inl ⟨by rw [HE.out]; exact hEV, by rw [HE.out]; rfl⟩), hW6⟩
          · obtain rfl : vn = k := by omega
            have hW5 := W5.out (HVI.out.trans HK.out)
            obtain ⟨fw, hfw⟩ : ∃ fw : Nat → Int, fw = fun i => viewI (views.getD i vw0) (views.take i) (lvls nodes) := ⟨_, rfl⟩
            have HWI := Lib.hid (show WY = errTo fw wn by rw [hW5, hfw, ← hwl.out]; rfl)
            have HFW := Lib.hid hfw
            clear hfw hW5 W4 W5 HVI HFV HK hvl hwl
            obtain ⟨p0, p1, p2, p3, p4, p5, p6, p7, p8, p9, p10, _⟩ := P4.cells11
            go_wp2_with fail
            go_loopg [11, 12, 13, 53] wn (fun gk s11 s12 s13 s53 wr => ∃ j : Nat, j ≤ wn ∧ gk = wn - j ∧ s53 = .int .i64 j ∧ Hid (errTo fw j = 0) ∧ Blk wr w.heap.size 33 #[.slice na nn nc, .slice va vn vc, .slice wa wn wc, .int .i64 factor, .int .i64 domain, .bool a6, .int .u64 ah, .int .u64 al, .bool b6, .int .u64 bh, .int .u64 bl] ∧ Below w.heap.size w wr ∧ TR wr b nodes)
            case atStart => exact ⟨0, Nat.zero_le _, rfl, rfl, Lib.hid rfl, P4, hW4, hT4⟩
            case round =>
              clear P4 hW4 hT4 p0 p1 p2 p3 p4 p5 p6 p7 p8 p9 p10
              obtain ⟨j, hj, rfl, rfl, HK, P4, hW4, hT4⟩ := hrel
              have hltb := P4.lt
              by_cases hjn : j < wn
              · have hji : (j : Int) < (wn : Int) := by omega
                have hjc : (j : Int) ≤ (wc : Int) := by omega
                have HB := Lib.hid (fun h => errTo_hit (f := fw) HK.out h wn hjn)
                have HG := Lib.hid (fun h => errTo_none (f := fw) HK.out h)
                have hfj := congrFun HFW.out j
                have hcutW := fun w' h => ((hc.views.keep (w' := w') h).cut (k := j) hj)
                obtain ⟨ad, rfl, hbk, hat⟩ := (hc.views.keep hW4).vwat_ hjn
                obtain ⟨c0, c1, c2, c3, c4⟩ := hat
                have hvp : vwShape.z = vw0 := rfl
                rw [hvp] at c0 c1 c2 c3 c4
                clear hvp HK
                generalize views.getD j vw0 = y at *
                obtain ⟨y6, yh, yl, yb, yv⟩ := y
                dsimp only at *
                have hvw := fun w' h => valid_view ⟨y6, yh, yl, yb, yv⟩ (some ad) j wc (views.take j) ((idx (isK 1) nodes).length : Int) w' (hcutW w' h)
                have hfj2 : viewI ⟨y6, yh, yl, yb, yv⟩ (views.take j) ((idx (isK 1) nodes).length : Int) = fw j := hfj.symm
                rw [hfj2] at hvw
                clear hfj hfj2 hcutW
                obtain ⟨p0, p1, p2, p3, p4, p5, p6, p7, p8, p9, p10, _⟩ := P4.cells11
                go_upto_region 19 with (fail)
                have Q := Blk.new wr 39 #[.bool y6, .int .u64 yh, .int .u64 yl, .int .i64 yb, .int .i64 yv]
                have P5 := P4.alloc (.cells #[.bool y6, .int .u64 yh, .int .u64 yl, .int .i64 yb, .int .i64 yv] 39)
                have hW5 := hW4.alloc hW4.size (.cells #[.bool y6, .int .u64 yh, .int .u64 yl, .int .i64 yb, .int .i64 yv] 39)
                have hT5 := hT4.keep ((Below.refl _ _).alloc (Nat.le_refl _) (.cells #[.bool y6, .int .u64 yh, .int .u64 yl, .int .i64 yb, .int .i64 yv] 39))
                clear P4 hW4 hT4 p0 p1 p2 p3 p4 p5 p6 p7 p8 p9 p10 c0 c1 c2 c3 c4
                generalize wr.alloc (.cells #[.bool y6, .int .u64 yh, .int .u64 yl, .int .i64 yb, .int .i64 yv] 39) = u3 at *
                obtain ⟨p0, p1, p2, p3, p4, p5, p6, p7, p8, p9, p10, _⟩ := P5.cells11
                obtain ⟨c0, c1, c2, c3, c4, _⟩ := Q.cells5
                have hd0 : Below u3.heap.size u3 u3.drew := (Below.refl _ _).drew
                have hLv := tr_Levels (hT5.keep hd0)
                generalize fw j = EV at *
                generalize (idx (isK 1) nodes).length = LV at *
                go_region_held3 (fun w' => w'.cell? ⟨wr.heap.size, 0, none⟩ = some (.bool y6) ∧ w'.cell? ⟨wr.heap.size, 1, none⟩ = some (.int .u64 yh) ∧ w'.cell? ⟨wr.heap.size, 2, none⟩ = some (.int .u64 yl) ∧ w'.cell? ⟨wr.heap.size, 3, none⟩ = some (.int .i64 yb) ∧ w'.cell? ⟨wr.heap.size, 4, none⟩ = some (.int .i64 yv) ∧ w'.cell? ⟨w.heap.size, 2, none⟩ = some (.slice (some ad) wn wc) ∧ Below u3.heap.size u3 w')
                  (exact ⟨cell_keep c0 (by assumption), cell_keep c1 (by assumption), cell_keep c2 (by assumption), cell_keep c3 (by assumption), cell_keep c4 (by assumption), cell_keep p2 (by assumption), by assumption⟩)
                  (first
                    | (go_at_call 32; refine hLv.mono ?_; rintro e w4 ⟨AL, cL, rfl, _, _, hx4⟩; have hb4 := below_step hd0 hx4)
                    | (go_at_call 31; refine (hvw _ (below_step hW5 hb4)).mono ?_; rintro e w5 ⟨rfl, hx5⟩; have hb5 := below_step hb4 hx5))
                all_goals
                  have P6 := P5.keep hb5
                  have hW6 := below_step hW5 hb5
                  have hT6 := hT5.keep hb5
                  clear P5 hW5 hT5 hb5 hb4 hx4 hx5 hLv hvw hd0 p0 p1 p2 p3 p4 p5 p6 p7 p8 p9 p10 c0 c1 c2 c3 c4 Q
                  by_cases hEV : EV = 0
                  · have HG2 := Lib.hid (HG.out hEV)
                    subst hEV
                    clear HG HB
                    go_wp2
                    go_roundg (wn - (j + 1))
                    case measure => omega
                    case rel => exact ⟨j + 1, by omega, rfl, by go_num, HG2, P6, hW6, hT6⟩
                  · have HE := Lib.hid (HWI.out.trans (HB.out hEV))
                    have g1 : (EV != 0) = true := by rw [bne_iff_ne]; exact hEV
                    clear HG HB
                    go_wp2
                    go_ret2
                    exact ⟨(HNV.out _ _).2 (.inl ⟨by rw [HE.out]; exact hEV, by rw [HE.out]; rfl⟩), hW6⟩
              · obtain rfl : j = wn := by omega
                have hz := HWI.out.trans HK.out
                clear HWI HK HFW
                obtain ⟨p0, p1, p2, p3, p4, p5, p6, p7, p8, p9, p10, _⟩ := P4.cells11
                go_wp2_with fail
                refine (hco _ (hc.keep hW4) hv64 hw64).mono ?_
                rintro e w9 ⟨⟨A1, k1, A2, k2, A3, k3, rfl, hC9⟩, hx9⟩
                have hW9 := below_step hW4 hx9
                have hT9 := hT4.keep hx9
                clear P4 hW4 hT4 hx9 hco p0 p1 p2 p3 p4 p5 p6 p7 p8 p9 p10
                go_wp2
                go_ret2
                refine ⟨?_, hW9.alloc hW9.size _⟩
                exact HOK.out w9 b A1 k1 A2 k2 A3 k3 hz hC9 hT9
  · have HE := Lib.hid (W1.out h1)
    have g1 : (PL != 0) = true := by rw [bne_iff_ne]; exact h1
    clear W1 W2 W3 W4 W5
    go_wp2
    go_ret2
    exact ⟨(HNV.out _ _).2 (.inl ⟨by rw [HE.out]; exact h1, by rw [HE.out]; rfl⟩), hW1⟩
end Go.Proofs.Ytceekfbhkenniaa
end
