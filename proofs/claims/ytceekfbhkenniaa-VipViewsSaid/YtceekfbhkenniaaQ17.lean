/- Lemmas for the claim's proof: ValidP0 ValidQ. -/
import Derived.Test.YtceekfbhkenniaaQ15
import Derived.Test.YtceekfbhkenniaaQ16
section
/- The law's why. -/
set_option linter.unusedVariables false
namespace Go.Proofs.Ytceekfbhkenniaa
open Go.RowKit
set_option maxHeartbeats 8000000
set_option maxRecDepth 100000
theorem lvls_step (l : List Nd) {k : Nat} (hk : k < l.length) : lvls (l.take (k + 1)) = lvls (l.take k) + if (l.getD k nd0).kind = 1 then 1 else 0 := by
  unfold lvls
  rw [take_snocN l k hk, idx_snoc, List.length_append]
  by_cases h : (l.getD k nd0).kind = 1
  · have hk1 : isK 1 (l.getD k nd0) = true := by unfold isK; rw [beq_iff_eq]; exact h
    rw [if_pos h, if_pos hk1]; rfl
  · have hk1 : ¬ isK 1 (l.getD k nd0) = true := by unfold isK; rw [beq_iff_eq]; exact h
    rw [if_neg h, if_neg hk1]; rfl
theorem lvls_le (l : List Nd) : lvls l ≤ l.length := idx_le (isK 1) l
theorem law19_why (c : Conf) (w : World) (hc : IsConf w c) (hn : c.nn ≤ 1024) :
    Calls Try.prog 12 #[.agg c.cells] w fun e w' => e = .returned (.int .i64 (whyI c)) ∧ Below w.heap.size w w' := by
  obtain ⟨hcN, hcV, hcW, _, _, _, _⟩ := hc
  have X1 := Lib.hid (why_plain (c := c))
  have X2 := Lib.hid (why_tree (c := c))
  have X3 := Lib.hid (why_self (c := c))
  have X4 := Lib.hid (why_vips (c := c))
  have X5 := Lib.hid (why_views (c := c))
  have HF := Lib.hid (fun k hk h2 => show selfI c = false from all_hitG (z := nd0) (p := selfN c) (l := c.nodes) (k := k) hk h2)
  have HTS := Lib.hid (fun k hk h1 h2 => all_stepG (z := nd0) (p := selfN c) (l := c.nodes) (k := k) hk h1 h2)
  have HSN := Lib.hid (fun x => show selfN c x = !(x.kind == 4 && noAd (if x.six = true then c.s6 else c.s4)) from rfl)
  have HN := Lib.hid (show (c.nodes.take 0).all (selfN c) = true from rfl)
  have HL := Lib.hid (show (c.nodes.take c.nn).all (selfN c) = selfI c by rw [List.take_of_length_le (by rw [hcN.len]; exact Nat.le_refl _)]; rfl)
  have h1 := Nat.le_trans hcV.cap hcV.small
  have h2 := Nat.le_trans hcW.cap hcW.small
  have hcap := hcN.cap
  have hsm := hcN.small
  have hlen := Lib.hid (show c.nodes.length = c.nn from hcN.len)
  generalize whyI c = WY at *
  generalize selfI c = SI at *
  generalize selfN c = pf at *
  have W5 := Lib.hid (plain5 (c := c))
  have W18 := Lib.hid (plain18 (c := c))
  have W6 := Lib.hid (plain6 (c := c))
  have W0 := Lib.hid (plain0 (c := c))
  have hz := noAd_zero (a := c.s6)
  have hno := Lib.hid (show noAd c.s6 = (!c.s6.six && c.s6.hi == 0 && c.s6.lo == 0) from rfl)
  generalize plainI c = PI at *
  generalize noAd c.s6 = no6 at *
  obtain ⟨na, nn, nc, va, vn, vc, wa, wn, wc, factor, domain, ⟨a6, ah, al⟩, ⟨b6, bh, bl⟩, nodes, vips, views⟩ := c
  unfold Conf.cells
  dsimp only at *
  have P := (Blk.new w 33 #[.slice na nn nc, .slice va vn vc, .slice wa wn wc, .int .i64 factor, .int .i64 domain, .bool a6, .int .u64 ah, .int .u64 al, .bool b6, .int .u64 bh, .int .u64 bl]).alloc (.cells #[.bool false, .int .u64 0, .int .u64 0] 25)
  have Q := Blk.new (w.alloc (.cells #[.slice na nn nc, .slice va vn vc, .slice wa wn wc, .int .i64 factor, .int .i64 domain, .bool a6, .int .u64 ah, .int .u64 al, .bool b6, .int .u64 bh, .int .u64 bl] 33)) 25 #[.bool false, .int .u64 0, .int .u64 0]
  have hsz : (w.alloc (.cells #[.slice na nn nc, .slice va vn vc, .slice wa wn wc, .int .i64 factor, .int .i64 domain, .bool a6, .int .u64 ah, .int .u64 al, .bool b6, .int .u64 bh, .int .u64 bl] 33)).heap.size = w.heap.size + 1 := by simp
  rw [hsz] at Q
  have hW : Below w.heap.size w ((w.alloc (.cells #[.slice na nn nc, .slice va vn vc, .slice wa wn wc, .int .i64 factor, .int .i64 domain, .bool a6, .int .u64 ah, .int .u64 al, .bool b6, .int .u64 bh, .int .u64 bl] 33)).alloc (.cells #[.bool false, .int .u64 0, .int .u64 0] 25)) := ((Below.refl _ _).alloc (Nat.le_refl _) _).alloc (by simp) _
  go_enter Try.func12, Try.ntmps12
  go_upto_region 2 with (fail)
  generalize ((w.alloc (.cells #[.slice na nn nc, .slice va vn vc, .slice wa wn wc, .int .i64 factor, .int .i64 domain, .bool a6, .int .u64 ah, .int .u64 al, .bool b6, .int .u64 bh, .int .u64 bl] 33)).alloc (.cells #[.bool false, .int .u64 0, .int .u64 0] 25)) = u at *
  clear hsz
  obtain ⟨p0, p1, p2, p3, p4, p5, p6, p7, p8, p9, p10, _⟩ := P.cells11
  obtain ⟨q0, q1, q2, _⟩ := Q.cells3
  by_cases hA : factor < 100 ∨ 1000 < factor ∨ (domain ≠ 2 ∧ domain ≠ 3)
  · have hpi := W5.out hA
    have HE := Lib.hid ((X1.out (by rw [hpi]; decide)).trans hpi)
    clear hpi
    clear W5 W18 W6 W0 hz hno
    by_cases a1 : factor < 100
    · have g1 : decide (factor < 100) = true := decide_eq_true a1
      go_wp2
      go_ret
      exact ⟨ret_int HE.out.symm, hW⟩
    · have g1 : decide (factor < 100) = false := decide_eq_false a1
      by_cases a2 : 1000 < factor
      · have g2 : decide (1000 < factor) = true := decide_eq_true a2
        go_wp2
        go_ret
        exact ⟨ret_int HE.out.symm, hW⟩
      · have g2 : decide (1000 < factor) = false := decide_eq_false a2
        have g3 : (domain != 2) = true := by rw [bne_iff_ne]; omega
        have g4 : (domain != 3) = true := by rw [bne_iff_ne]; omega
        clear hA
        go_wp2
        go_ret
        exact ⟨ret_int HE.out.symm, hW⟩
  · have g1 : decide (factor < 100) = false := decide_eq_false (by omega)
    have g2 : decide (1000 < factor) = false := decide_eq_false (by omega)
    replace W18 := Lib.hid (W18.out hA)
    replace W6 := Lib.hid (W6.out hA)
    replace W0 := Lib.hid (W0.out hA)
    clear W5
    have hd : domain = 2 ∨ domain = 3 := by omega
    clear hA
    rcases hd with rfl | rfl
    all_goals
      go_upto_region 4 with (fail)
      by_cases hB : a6 = true ∨ addrOk a6 ah al = false ∨ (no6 = false ∧ b6 = false)
      · have hpi := W18.out hB
        have HE := Lib.hid ((X1.out (by rw [hpi]; decide)).trans hpi)
        clear hpi
        clear W18 W6 W0 hz
        cases a6 with
        | true =>
          go_wp2
          go_ret
          exact ⟨ret_int HE.out.symm, hW⟩
        | false =>
          go_wp2_with fail
          refine (addr_Right false ah al _).mono ?_; rintro e w1 ⟨rfl, hx⟩
          have P1 := P.keep hx
          have Q1 := Q.keep hx
          have hW1 := below_step hW hx
          clear P Q hW hx p0 p1 p2 p3 p4 p5 p6 p7 p8 p9 p10 q0 q1 q2
          obtain ⟨p0, p1, p2, p3, p4, p5, p6, p7, p8, p9, p10, _⟩ := P1.cells11
          obtain ⟨q0, q1, q2, _⟩ := Q1.cells3
          cases hok : addrOk false ah al with
          | false =>
            clear hB hok
            go_wp2
            go_ret
            exact ⟨ret_int HE.out.symm, hW1⟩
          | true =>
            have h2 : no6 = false ∧ b6 = false := by
              rcases hB with h | h | h
              · cases h
              · rw [hok] at h; cases h
              · exact h
            obtain ⟨rfl, rfl⟩ := h2
            have hno2 := hno.out
            have g5 : (bh == 0 && bl == 0) = false := by simpa using hno2.symm
            clear hno hno2 hB hok
            go_wp2
            all_goals first
              | (focus (exfalso; have g6 := g5; simp [*] at g6; done))
              | (focus (go_ret; exact ⟨ret_int HE.out.symm, hW1⟩))
      · replace W6 := Lib.hid (W6.out hB)
        replace W0 := Lib.hid (W0.out hB)
        clear W18
        have h6 : a6 = false := by
          cases a6 with
          | false => rfl
          | true => exact absurd (.inl rfl) hB
        subst h6
        have hok : addrOk false ah al = true := by
          cases h : addrOk false ah al with
          | true => rfl
          | false => exact absurd (.inr (.inl h)) hB
        have h26 : no6 = true ∨ b6 = true := by
          cases no6 with
          | true => exact .inl rfl
          | false =>
            cases b6 with
            | true => exact .inr rfl
            | false => exact absurd (.inr (.inr ⟨rfl, rfl⟩)) hB
        clear hB
        go_wp2_with fail
        refine (addr_Right false ah al _).mono ?_; rintro e w1 ⟨rfl, hx⟩
        rw [hok]
        have P1 := P.keep hx
        have Q1 := Q.keep hx
        have hW1 := below_step hW hx
        clear P Q hW hx p0 p1 p2 p3 p4 p5 p6 p7 p8 p9 p10 q0 q1 q2 hok
        obtain ⟨p0, p1, p2, p3, p4, p5, p6, p7, p8, p9, p10, _⟩ := P1.cells11
        obtain ⟨q0, q1, q2, _⟩ := Q1.cells3
        rcases h26 with h | h
        · obtain ⟨rfl, rfl, rfl⟩ := hz h
          clear hz hno h
          by_cases hC : 64 < vn ∨ 64 < wn
          · have hpi := W6.out hC
            have HE := Lib.hid ((X1.out (by rw [hpi]; decide)).trans hpi)
            clear hpi
            clear W6 W0
            go_wp2
            all_goals first
              | (exfalso; omega)
              | (focus (go_ret; exact ⟨ret_int HE.out.symm, hW1⟩))
          · have hpi := W0.out hC
            replace X2 := Lib.hid (X2.out hpi)
            replace X3 := Lib.hid (X3.out hpi)
            replace X4 := Lib.hid (X4.out hpi)
            replace X5 := Lib.hid (X5.out hpi)
            clear W6 W0 hpi X1
            have gv : decide ((64 : Int) < (vn : Int)) = false := decide_eq_false (by omega)
            have gw : decide ((64 : Int) < (wn : Int)) = false := decide_eq_false (by omega)
            clear hC
            go_wp2_with fail
            refine (tree_New na nn nc nodes w1 (hcN.keep hW1)).mono ?_
            rintro e w2 ⟨hNP, hx2⟩
            have P2 := P1.keep hx2
            have Q2 := Q1.keep hx2
            have hW2 := below_step hW1 hx2
            clear P1 Q1 hW1 hx2 p0 p1 p2 p3 p4 p5 p6 p7 p8 p9 p10 q0 q1 q2 gv gw
            obtain ⟨p0, p1, p2, p3, p4, p5, p6, p7, p8, p9, p10, _⟩ := P2.cells11
            obtain ⟨q0, q1, q2, _⟩ := Q2.cells3
            rcases hNP with ⟨kf, hkf, hok, hbad, rfl⟩ | ⟨hok, b, hbw, rfl, hTA⟩
            · have hE := tree_bad (l := nodes) (by rw [hlen.out]; exact hkf) hok hbad
              rw [← hE] at hbad ⊢
              have HE := Lib.hid (X2.out hbad)
              have g1 : (treeI nodes != 0) = true := by rw [bne_iff_ne]; exact hbad
              generalize treeI nodes = TI at *
              clear hok hE X2 X3 X4 X5
              go_wp2
              go_ret
              exact ⟨ret_int HE.out.symm, hW2⟩
            · have hz := tree_ok (l := nodes) (fun j hj => hok j (by have := hlen.out; omega))
              replace X3 := Lib.hid (X3.out hz)
              replace X4 := Lib.hid (X4.out hz)
              replace X5 := Lib.hid (X5.out hz)
              clear X2 hok hz hTA hbw
              go_wp2_with fail
              go_loopg [7, 8, 9] nn (fun gk s7 s8 s9 wr => ∃ k : Nat, k ≤ nn ∧ gk = nn - k ∧ s8 = .int .i64 k ∧ s7 = .int .i64 (lvls (nodes.take k) : Nat) ∧ Hid ((nodes.take k).all pf = true) ∧ Blk wr w.heap.size 33 _ ∧ Blk wr (w.heap.size + 1) 25 #[.bool false, .int .u64 0, .int .u64 0] ∧ Below w.heap.size w wr)
              case atStart => exact ⟨0, Nat.zero_le _, rfl, rfl, rfl, HN, P2, Q2, hW2⟩
              case round =>
                clear P2 Q2 hW2 p0 p1 p2 p3 p4 p5 p6 p7 p8 p9 p10 q0 q1 q2
                obtain ⟨k, hk, rfl, rfl, rfl, HK, P3, Q3, hW3⟩ := hrel
                have hltp := P3.lt
                have hltq := Q3.lt
                obtain ⟨p0, p1, p2, p3, p4, p5, p6, p7, p8, p9, p10, _⟩ := P3.cells11
                obtain ⟨q0, q1, q2, _⟩ := Q3.cells3
                by_cases hkn : k < nn
                · have hki : (k : Int) < (nn : Int) := by omega
                  have hlle := lvls_le (nodes.take k)
                  rw [List.length_take] at hlle
                  have HLS := Lib.hid (lvls_step nodes (k := k) (by rw [hlen.out]; exact hkn))
                  have HT2 := Lib.hid (HTS.out k (by rw [hlen.out]; exact hkn) HK.out)
                  have HF2 := Lib.hid (fun h => X3.out (HF.out k (by rw [hlen.out]; exact hkn) h))
                  have HS2 := Lib.hid (HSN.out (nodes.getD k nd0))
                  obtain ⟨ad, rfl, hbk, c0, c1, c2, c3, c4, c5, c6⟩ := (hcN.keep hW3).at_ hkn
                  clear HTS HF HSN HK X3 X4 X5
                  generalize nodes.getD k nd0 = y at *
                  generalize lvls (nodes.take k) = LV at *
                  obtain ⟨yn, yk, ya, yw, y6, yh, yl⟩ := y
                  dsimp only at *
                  go_upto_region 16 with (fail)
                  have R4 := Blk.new wr 27 #[.string yn, .int .i64 yk, .int .i64 ya, .int .i64 yw, .bool y6, .int .u64 yh, .int .u64 yl]
                  have P4 := P3.alloc (.cells #[.string yn, .int .i64 yk, .int .i64 ya, .int .i64 yw, .bool y6, .int .u64 yh, .int .u64 yl] 27)
                  have Q4 := Q3.alloc (.cells #[.string yn, .int .i64 yk, .int .i64 ya, .int .i64 yw, .bool y6, .int .u64 yh, .int .u64 yl] 27)
                  have hW4 := hW3.alloc hW3.size (.cells #[.string yn, .int .i64 yk, .int .i64 ya, .int .i64 yw, .bool y6, .int .u64 yh, .int .u64 yl] 27)
                  clear P3 Q3 hW3 c0 c1 c2 c3 c4 c5 c6 p0 p1 p2 p3 p4 p5 p6 p7 p8 p9 p10 q0 q1 q2
                  generalize wr.alloc (.cells #[.string yn, .int .i64 yk, .int .i64 ya, .int .i64 yw, .bool y6, .int .u64 yh, .int .u64 yl] 27) = u3 at *
                  obtain ⟨p0, p1, p2, p3, p4, p5, p6, p7, p8, p9, p10, _⟩ := P4.cells11
                  obtain ⟨q0, q1, q2, _⟩ := Q4.cells3
                  obtain ⟨c0, c1, c2, c3, c4, c5, c6, _⟩ := R4.cells7
                  by_cases hk4 : yk = 4
                  · have g1 : (yk == 4) = true := by rw [beq_iff_eq]; exact hk4
                    have g2 : (yk == 1) = false := by rw [beq_eq_false_iff_ne]; omega
                    have HL4 := Lib.hid (show lvls (nodes.take (k + 1)) = LV by rw [HLS.out, if_neg (by omega)]; rfl)
                    cases y6 with
                    | true =>
                      have HS3 := Lib.hid (show pf ⟨yn, yk, ya, yw, true, yh, yl⟩ = !noAd ⟨false, 0, 0⟩ by rw [HS2.out, g1]; rfl)
                      clear HS2 hk4 HLS
                      go_wp2
                      have HE := Lib.hid (HF2.out (by rw [HS3.out]; rfl))
                      go_ret
                      exact ⟨ret_int HE.out.symm, hW4⟩
                    | false =>
                      have HS3 := Lib.hid (show pf ⟨yn, yk, ya, yw, false, yh, yl⟩ = !(ah == 0 && al == 0) by rw [HS2.out, g1]; rfl)
                      clear HS2 hk4 HLS
                      go_wp2
                      all_goals first
                        | (focus (go_ret; refine ⟨ret_int (HF2.out ?_).symm, hW4⟩; rw [HS3.out]; simp [*]; done))
                        | (focus
                            ((try (have hq : ah = 0 := (by assumption); subst hq))
                             (try (have hq : al = 0 := (by assumption); subst hq))
                             go_roundg (nn - (k + 1))
                             case measure => omega
                             case rel => (refine ⟨k + 1, by omega, rfl, by go_num, by rw [HL4.out], Lib.hid (HT2.out ?_), P4, Q4, hW4⟩; rw [HS3.out]; simp [*]; done)))
                        | skip
                  · have g1 : (yk == 4) = false := by rw [beq_eq_false_iff_ne]; exact hk4
                    have HG := Lib.hid (HT2.out (by rw [HS2.out, g1]; rfl))
                    by_cases hk1 : yk = 1
                    · have g2 : (yk == 1) = true := by rw [beq_iff_eq]; exact hk1
                      have HL4 := Lib.hid (show lvls (nodes.take (k + 1)) = LV + 1 by rw [HLS.out, if_pos hk1])
                      clear HS2 HT2 HF2 hk4 hk1 HLS
                      go_wp2
                      go_roundg (nn - (k + 1))
                      case measure => omega
                      case rel => exact ⟨k + 1, by omega, rfl, by go_num, by rw [HL4.out]; go_num, HG, P4, Q4, hW4⟩
                    · have g2 : (yk == 1) = false := by rw [beq_eq_false_iff_ne]; exact hk1
                      have HL4 := Lib.hid (show lvls (nodes.take (k + 1)) = LV by rw [HLS.out, if_neg hk1]; rfl)
                      clear HS2 HT2 HF2 hk4 hk1 HLS
                      go_wp2
                      go_roundg (nn - (k + 1))
                      case measure => omega
                      case rel => exact ⟨k + 1, by omega, rfl, by go_num, by rw [HL4.out], HG, P4, Q4, hW4⟩
                · have hke : nn = k := by omega
                  have hsi := HL.out.symm
                  rw [hke] at hsi
                  have hsi2 := hsi.trans HK.out
                  replace X4 := Lib.hid (X4.out hsi2)
                  replace X5 := Lib.hid (X5.out hsi2)
                  have hlv : lvls (nodes.take k) = lvls nodes := by rw [List.take_of_length_le (by rw [hlen.out, hke]; exact Nat.le_refl _)]
                  rw [hlv]
                  have hvv := fun w' h => law19_vips va vn vc vips w' (hcV.keep (w' := w') h)
                  have hww := fun w' h => law19_views wa wn wc views (lvls nodes : Nat) w' (hcW.keep (w' := w') h)
                  clear hsi hsi2 HL HK HTS HF HSN X3 hlv hke
                  generalize lvls nodes = LV at *
                  go_wp2_with fail
                  refine (hvv _ hW3).mono ?_; rintro e w5 ⟨rfl, hx5⟩
                  have P5 := P3.keep hx5
                  have hW5 := below_step hW3 hx5
                  clear P3 Q3 hW3 hx5 hvv p0 p1 p2 p3 p4 p5 p6 p7 p8 p9 p10 q0 q1 q2
                  obtain ⟨p0, p1, p2, p3, p4, p5, p6, p7, p8, p9, p10, _⟩ := P5.cells11
                  by_cases hvi : vipsI vips = 0
                  · have HE := Lib.hid (X5.out hvi)
                    have g3 : (vipsI vips != 0) = false := by rw [bne_eq_false_iff_eq]; exact hvi
                    generalize vipsI vips = VI at *
                    clear X4 X5 hvi
                    go_wp2_with fail
                    refine (hww _ hW5).mono ?_; rintro e w6 ⟨rfl, hx6⟩
                    go_wp2
                    go_ret
                    exact ⟨ret_int HE.out.symm, below_step hW5 hx6⟩
                  · have HE := Lib.hid (X4.out hvi)
                    have g3 : (vipsI vips != 0) = true := by rw [bne_iff_ne]; exact hvi
                    generalize vipsI vips = VI at *
                    clear X4 X5 hvi
                    go_wp2
                    go_ret
                    exact ⟨ret_int HE.out.symm, hW5⟩
        · subst h
          clear hz hno
          by_cases hC : 64 < vn ∨ 64 < wn
          · have hpi := W6.out hC
            have HE := Lib.hid ((X1.out (by rw [hpi]; decide)).trans hpi)
            clear hpi
            clear W6 W0
            go_wp2
            all_goals first
              | (exfalso; omega)
              | (focus (go_ret; exact ⟨ret_int HE.out.symm, hW1⟩))
          · have hpi := W0.out hC
            replace X2 := Lib.hid (X2.out hpi)
            replace X3 := Lib.hid (X3.out hpi)
            replace X4 := Lib.hid (X4.out hpi)
            replace X5 := Lib.hid (X5.out hpi)
            clear W6 W0 hpi X1
            have gv : decide ((64 : Int) < (vn : Int)) = false := decide_eq_false (by omega)
            have gw : decide ((64 : Int) < (wn : Int)) = false := decide_eq_false (by omega)
            clear hC
            go_wp2_with fail
            refine (tree_New na nn nc nodes w1 (hcN.keep hW1)).mono ?_
            rintro e w2 ⟨hNP, hx2⟩
            have P2 := P1.keep hx2
            have Q2 := Q1.keep hx2
            have hW2 := below_step hW1 hx2
            clear P1 Q1 hW1 hx2 p0 p1 p2 p3 p4 p5 p6 p7 p8 p9 p10 q0 q1 q2 gv gw
            obtain ⟨p0, p1, p2, p3, p4, p5, p6, p7, p8, p9, p10, _⟩ := P2.cells11
            obtain ⟨q0, q1, q2, _⟩ := Q2.cells3
            rcases hNP with ⟨kf, hkf, hok, hbad, rfl⟩ | ⟨hok, b, hbw, rfl, hTA⟩
            · have hE := tree_bad (l := nodes) (by rw [hlen.out]; exact hkf) hok hbad
              rw [← hE] at hbad ⊢
              have HE := Lib.hid (X2.out hbad)
              have g1 : (treeI nodes != 0) = true := by rw [bne_iff_ne]; exact hbad
              generalize treeI nodes = TI at *
              clear hok hE X2 X3 X4 X5
              go_wp2
              go_ret
              exact ⟨ret_int HE.out.symm, hW2⟩
            · have hz := tree_ok (l := nodes) (fun j hj => hok j (by have := hlen.out; omega))
              replace X3 := Lib.hid (X3.out hz)
              replace X4 := Lib.hid (X4.out hz)
              replace X5 := Lib.hid (X5.out hz)
              clear X2 hok hz hTA hbw
              go_wp2_with fail
              go_loopg [7, 8, 9] nn (fun gk s7 s8 s9 wr => ∃ k : Nat, k ≤ nn ∧ gk = nn - k ∧ s8 = .int .i64 k ∧ s7 = .int .i64 (lvls (nodes.take k) : Nat) ∧ Hid ((nodes.take k).all pf = true) ∧ Blk wr w.heap.size 33 _ ∧ Blk wr (w.heap.size + 1) 25 #[.bool false, .int .u64 0, .int .u64 0] ∧ Below w.heap.size w wr)
              case atStart => exact ⟨0, Nat.zero_le _, rfl, rfl, rfl, HN, P2, Q2, hW2⟩
              case round =>
                clear P2 Q2 hW2 p0 p1 p2 p3 p4 p5 p6 p7 p8 p9 p10 q0 q1 q2
                obtain ⟨k, hk, rfl, rfl, rfl, HK, P3, Q3, hW3⟩ := hrel
                have hltp := P3.lt
                have hltq := Q3.lt
                obtain ⟨p0, p1, p2, p3, p4, p5, p6, p7, p8, p9, p10, _⟩ := P3.cells11
                obtain ⟨q0, q1, q2, _⟩ := Q3.cells3
                by_cases hkn : k < nn
                · have hki : (k : Int) < (nn : Int) := by omega
                  have hlle := lvls_le (nodes.take k)
                  rw [List.length_take] at hlle
                  have HLS := Lib.hid (lvls_step nodes (k := k) (by rw [hlen.out]; exact hkn))
                  have HT2 := Lib.hid (HTS.out k (by rw [hlen.out]; exact hkn) HK.out)
                  have HF2 := Lib.hid (fun h => X3.out (HF.out k (by rw [hlen.out]; exact hkn) h))
                  have HS2 := Lib.hid (HSN.out (nodes.getD k nd0))
                  obtain ⟨ad, rfl, hbk, c0, c1, c2, c3, c4, c5, c6⟩ := (hcN.keep hW3).at_ hkn
                  clear HTS HF HSN HK X3 X4 X5
                  generalize nodes.getD k nd0 = y at *
                  generalize lvls (nodes.take k) = LV at *
                  obtain ⟨yn, yk, ya, yw, y6, yh, yl⟩ := y
                  dsimp only at *
                  go_upto_region 16 with (fail)
                  have R4 := Blk.new wr 27 #[.string yn, .int .i64 yk, .int .i64 ya, .int .i64 yw, .bool y6, .int .u64 yh, .int .u64 yl]
                  have P4 := P3.alloc (.cells #[.string yn, .int .i64 yk, .int .i64 ya, .int .i64 yw, .bool y6, .int .u64 yh, .int .u64 yl] 27)
                  have Q4 := Q3.alloc (.cells #[.string yn, .int .i64 yk, .int .i64 ya, .int .i64 yw, .bool y6, .int .u64 yh, .int .u64 yl] 27)
                  have hW4 := hW3.alloc hW3.size (.cells #[.string yn, .int .i64 yk, .int .i64 ya, .int .i64 yw, .bool y6, .int .u64 yh, .int .u64 yl] 27)
                  clear P3 Q3 hW3 c0 c1 c2 c3 c4 c5 c6 p0 p1 p2 p3 p4 p5 p6 p7 p8 p9 p10 q0 q1 q2
                  generalize wr.alloc (.cells #[.string yn, .int .i64 yk, .int .i64 ya, .int .i64 yw, .bool y6, .int .u64 yh, .int .u64 yl] 27) = u3 at *
                  obtain ⟨p0, p1, p2, p3, p4, p5, p6, p7, p8, p9, p10, _⟩ := P4.cells11
                  obtain ⟨q0, q1, q2, _⟩ := Q4.cells3
                  obtain ⟨c0, c1, c2, c3, c4, c5, c6, _⟩ := R4.cells7
                  by_cases hk4 : yk = 4
                  · have g1 : (yk == 4) = true := by rw [beq_iff_eq]; exact hk4
                    have g2 : (yk == 1) = false := by rw [beq_eq_false_iff_ne]; omega
                    have HL4 := Lib.hid (show lvls (nodes.take (k + 1)) = LV by rw [HLS.out, if_neg (by omega)]; rfl)
                    cases y6 with
                    | true =>
                      have HS3 := Lib.hid (show pf ⟨yn, yk, ya, yw, true, yh, yl⟩ = !noAd ⟨true, bh, bl⟩ by rw [HS2.out, g1]; rfl)
                      clear HS2 hk4 HLS
                      go_wp2
                      have HE := Lib.hid (HT2.out (by rw [HS3.out]; rfl))
                      go_roundg (nn - (k + 1))
                      case measure => omega
                      case rel => exact ⟨k + 1, by omega, rfl, by go_num, by rw [HL4.out], HE, P4, Q4, hW4⟩
                    | false =>
                      have HS3 := Lib.hid (show pf ⟨yn, yk, ya, yw, false, yh, yl⟩ = !(ah == 0 && al == 0) by rw [HS2.out, g1]; rfl)
                      clear HS2 hk4 HLS
                      go_wp2
                      all_goals first
                        | (focus (go_ret; refine ⟨ret_int (HF2.out ?_).symm, hW4⟩; rw [HS3.out]; simp [*]; done))
                        | (focus
                            ((try (have hq : ah = 0 := (by assumption); subst hq))
                             (try (have hq : al = 0 := (by assumption); subst hq))
                             go_roundg (nn - (k + 1))
                             case measure => omega
                             case rel => (refine ⟨k + 1, by omega, rfl, by go_num, by rw [HL4.out], Lib.hid (HT2.out ?_), P4, Q4, hW4⟩; rw [HS3.out]; simp [*]; done)))
                        | skip
                  · have g1 : (yk == 4) = false := by rw [beq_eq_false_iff_ne]; exact hk4
                    have HG := Lib.hid (HT2.out (by rw [HS2.out, g1]; rfl))
                    by_cases hk1 : yk = 1
                    · have g2 : (yk == 1) = true := by rw [beq_iff_eq]; exact hk1
                      have HL4 := Lib.hid (show lvls (nodes.take (k + 1)) = LV + 1 by rw [HLS.out, if_pos hk1])
                      clear HS2 HT2 HF2 hk4 hk1 HLS
                      go_wp2
                      go_roundg (nn - (k + 1))
                      case measure => omega
                      case rel => exact ⟨k + 1, by omega, rfl, by go_num, by rw [HL4.out]; go_num, HG, P4, Q4, hW4⟩
                    · have g2 : (yk == 1) = false := by rw [beq_eq_false_iff_ne]; exact hk1
                      have HL4 := Lib.hid (show lvls (nodes.take (k + 1)) = LV by rw [HLS.out, if_neg hk1]; rfl)
                      clear HS2 HT2 HF2 hk4 hk1 HLS
                      go_wp2
                      go_roundg (nn - (k + 1))
                      case measure => omega
                      case rel => exact ⟨k + 1, by omega, rfl, by go_num, by rw [HL4.out], HG, P4, Q4, hW4⟩
                · have hke : nn = k := by omega
                  have hsi := HL.out.symm
                  rw [hke] at hsi
                  have hsi2 := hsi.trans HK.out
                  replace X4 := Lib.hid (X4.out hsi2)
                  replace X5 := Lib.hid (X5.out hsi2)
                  have hlv : lvls (nodes.take k) = lvls nodes := by rw [List.take_of_length_le (by rw [hlen.out, hke]; exact Nat.le_refl _)]
                  rw [hlv]
                  have hvv := fun w' h => law19_vips va vn vc vips w' (hcV.keep (w' := w') h)
                  have hww := fun w' h => law19_views wa wn wc views (lvls nodes : Nat) w' (hcW.keep (w' := w') h)
                  clear hsi hsi2 HL HK HTS HF HSN X3 hlv hke
                  generalize lvls nodes = LV at *
                  go_wp2_with fail
                  refine (hvv _ hW3).mono ?_; rintro e w5 ⟨rfl, hx5⟩
                  have P5 := P3.keep hx5
                  have hW5 := below_step hW3 hx5
                  clear P3 Q3 hW3 hx5 hvv p0 p1 p2 p3 p4 p5 p6 p7 p8 p9 p10 q0 q1 q2
                  obtain ⟨p0, p1, p2, p3, p4, p5, p6, p7, p8, p9, p10, _⟩ := P5.cells11
                  by_cases hvi : vipsI vips = 0
                  · have HE := Lib.hid (X5.out hvi)
                    have g3 : (vipsI vips != 0) = false := by rw [bne_eq_false_iff_eq]; exact hvi
                    generalize vipsI vips = VI at *
                    clear X4 X5 hvi
                    go_wp2_with fail
                    refine (hww _ hW5).mono ?_; rintro e w6 ⟨rfl, hx6⟩
                    go_wp2
                    go_ret
                    exact ⟨ret_int HE.out.symm, below_step hW5 hx6⟩
                  · have HE := Lib.hid (X4.out hvi)
                    have g3 : (vipsI vips != 0) = true := by rw [bne_iff_ne]; exact hvi
                    generalize vipsI vips = VI at *
                    clear X4 X5 hvi
                    go_wp2
                    go_ret
                    exact ⟨ret_int HE.out.symm, hW5⟩
end Go.Proofs.Ytceekfbhkenniaa
end
section
/- ValidNews. -/
set_option linter.unusedVariables false
namespace Go.Proofs.Ytceekfbhkenniaa
open Go.RowKit
set_option maxHeartbeats 8000000
set_option maxRecDepth 100000
theorem few_nn (c : Conf) : c.few.nn ≤ 1024 := by show min c.nn 60 ≤ 1024; omega
theorem validNews_walk (w : World) (a : Conf) (ha : IsConf w a) :
    Calls Try.prog 4 #[.agg a.cells] w fun e w' => e = .returned (.bool true) ∧ Below w.heap.size w w' := by
  have hFa := fun w h => law18_Few a w h
  have hfa := ha.few
  have hn := few_nn a
  generalize a.few = s at *
  have hNW := fun w h => valid_New s w h hn
  have hWH := fun w h => law19_why s w h hn
  have hSM := fun A1 k1 A2 k2 A3 k3 w h1 h2 => law19_same (s.with A1 k1 A2 k2 A3 k3) s w h1 h2
  have hSW := fun A1 k1 A2 k2 A3 k3 => sameC_with s A1 k1 A2 k2 A3 k3
  have hNV := Lib.hid (fun (e : Ending) (w' : World) (h : NewV s e w') => (show (whyI s ≠ 0 ∧ e = .returned (.tuple #[.pointer none, .int .i64 (whyI s)])) ∨
      (whyI s = 0 ∧ ∃ vb b A1 k1 A2 k2 A3 k3, e = .returned (.tuple #[.pointer (some ⟨vb, 0, none⟩), .int .i64 0]) ∧
        Blk w' vb 50 (vcells (s.with A1 k1 A2 k2 A3 k3) b) ∧ IsConf w' (s.with A1 k1 A2 k2 A3 k3) ∧ TR w' b s.nodes) from h))
  generalize NewV s = PO at *
  generalize whyI s = WY at *
  have hsl := hfa.nodes.len
  have hsc := hfa.nodes.cap
  have hss := hfa.nodes.small
  obtain ⟨sna, snn, snc, sva, svn, svc, swa, swn, swc, sf, sd, ⟨sx, sy, sz⟩, ⟨su, sv, sw⟩, sN, sV, sW⟩ := s
  obtain ⟨ana, ann, anc, ava, avn, avc, awa, awn, awc, af, ad, ⟨ax, ay, az⟩, ⟨au, av, aw⟩, aN, aV, aW⟩ := a
  simp only [hSW] at hSM
  clear hSW
  unfold Conf.with Conf.cells at *
  unfold vcells at *
  dsimp only at *
  have HSL := Lib.hid hsl
  clear hsl
  have P := Blk.new w 33 #[.slice ana ann anc, .slice ava avn avc, .slice awa awn awc, .int .i64 af, .int .i64 ad, .bool ax, .int .u64 ay, .int .u64 az, .bool au, .int .u64 av, .int .u64 aw]
  have hW : Below w.heap.size w (w.alloc (.cells #[.slice ana ann anc, .slice ava avn avc, .slice awa awn awc, .int .i64 af, .int .i64 ad, .bool ax, .int .u64 ay, .int .u64 az, .bool au, .int .u64 av, .int .u64 aw] 33)) := (Below.refl _ _).alloc (Nat.le_refl _) _
  go_enter Try.func4, Try.ntmps4
  go_upto_region 1 with (fail)
  generalize w.alloc (.cells #[.slice ana ann anc, .slice ava avn avc, .slice awa awn awc, .int .i64 af, .int .i64 ad, .bool ax, .int .u64 ay, .int .u64 az, .bool au, .int .u64 av, .int .u64 aw] 33) = u at *
  obtain ⟨p0, p1, p2, p3, p4, p5, p6, p7, p8, p9, p10, _⟩ := P.cells11
  go_wp2_with fail
  refine (hFa _ (ha.keep hW)).mono ?_; rintro e w1 ⟨rfl, hx1⟩
  have P1 := P.keep hx1
  have hW1 := below_step hW hx1
  clear P hW hx1 p0 p1 p2 p3 p4 p5 p6 p7 p8 p9 p10 hFa ha
  obtain ⟨p0, p1, p2, p3, p4, p5, p6, p7, p8, p9, p10, _⟩ := P1.cells11
  obtain ⟨f0, f1, f2, f3, f4, f5, f6, f7, f8, f9, f10⟩ := P1.free11
  go_upto_region 2 with (fail)
  have P2 := P1.turn11 (.slice sna snn snc) (.slice sva svn svc) (.slice swa swn swc) (.int .i64 sf) (.int .i64 sd) (.bool sx) (.int .u64 sy) (.int .u64 sz) (.bool su) (.int .u64 sv) (.int .u64 sw)
  have hW2 := below_turn11 (g := w.heap.size) hW1 (Nat.le_refl _) (.slice sna snn snc) (.slice sva svn svc) (.slice swa swn swc) (.int .i64 sf) (.int .i64 sd) (.bool sx) (.int .u64 sy) (.int .u64 sz) (.bool su) (.int .u64 sv) (.int .u64 sw)
  clear P1 hW1 p0 p1 p2 p3 p4 p5 p6 p7 p8 p9 p10 f0 f1 f2 f3 f4 f5 f6 f7 f8 f9 f10
  generalize (((((((((((w1.setCell ⟨w.heap.size, 0, none⟩ (.slice sna snn snc)).setCell ⟨w.heap.size, 1, none⟩ (.slice sva svn svc)).setCell ⟨w.heap.size, 2, none⟩ (.slice swa swn swc)).setCell ⟨w.heap.size, 3, none⟩ (.int .i64 sf)).setCell ⟨w.heap.size, 4, none⟩ (.int .i64 sd)).setCell ⟨w.heap.size, 5, none⟩ (.bool sx)).setCell ⟨w.heap.size, 6, none⟩ (.int .u64 sy)).setCell ⟨w.heap.size, 7, none⟩ (.int .u64 sz)).setCell ⟨w.heap.size, 8, none⟩ (.bool su)).setCell ⟨w.heap.size, 9, none⟩ (.int .u64 sv)).setCell ⟨w.heap.size, 10, none⟩ (.int .u64 sw)) = u2 at *
  obtain ⟨p0, p1, p2, p3, p4, p5, p6, p7, p8, p9, p10, _⟩ := P2.cells11
  have hs2 := hfa.keep hW2
  go_wp2_with fail
  refine (hNW _ hs2).mono ?_
  rintro e w3 ⟨hPO, hx3⟩
  have P3 := P2.keep hx3
  have hW3 := below_step hW2 hx3
  have hs3 := hs2.keep hx3
  clear P2 hW2 hs2 p0 p1 p2 p3 p4 p5 p6 p7 p8 p9 p10 hNW
  obtain ⟨p0, p1, p2, p3, p4, p5, p6, p7, p8, p9, p10, _⟩ := P3.cells11
  rcases hNV.out _ _ hPO with ⟨hwy, rfl⟩ | ⟨rfl, vb, b, A1, k1, A2, k2, A3, k3, rfl, hV, hCV, hTV⟩
  · clear hNV hPO hSM hx3
    go_wp2_with fail
    refine (hWH _ hs3).mono ?_; rintro e w4 ⟨rfl, hx4⟩
    have hW4 := below_step hW3 hx4
    clear hW3 hx4 hs3 P3 hWH p0 p1 p2 p3 p4 p5 p6 p7 p8 p9 p10
    have g0 : (WY != WY) = false := by simp
    have g1 : (WY != 0) = true := by rw [bne_iff_ne]; exact hwy
    clear hwy
    go_wp2_with fail
    refine (law19_awake _).mono ?_; rintro e w5 ⟨rfl, hx5⟩
    go_wp2
    go_ret
    exact ⟨rfl, below_step hW4 hx5⟩
  · have hSM2 := hSM A1 k1 A2 k2 A3 k3
    clear hNV hPO hSM hx3
    go_wp2_with fail
    refine (hWH _ hs3).mono ?_; rintro e w4 ⟨rfl, hx4⟩
    have P4 := P3.keep hx4
    have hW4 := below_step hW3 hx4
    have hs4 := hs3.keep hx4
    have hV4 := hV.keep hx4
    have hC4 := hCV.keep hx4
    have hT4 := hTV.keep hx4
    clear hW3 hx4 hs3 P3 hWH hV hCV hTV p0 p1 p2 p3 p4 p5 p6 p7 p8 p9 p10
    obtain ⟨p0, p1, p2, p3, p4, p5, p6, p7, p8, p9, p10, _⟩ := P4.cells11
    have v0 := hV4.cell 0
    have v1 := hV4.cell 1
    have v2 := hV4.cell 2
    have v3 := hV4.cell 3
    have v4 := hV4.cell 4
    have v5 := hV4.cell 5
    have v6 := hV4.cell 6
    have v7 := hV4.cell 7
    have v8 := hV4.cell 8
    have v9 := hV4.cell 9
    have v10 := hV4.cell 10
    have v11 := hV4.cell 11
    have U0 := cell_under p0
    have V0 := cell_under v0
    have U1 := cell_under p1
    have V1 := cell_under v1
    have U2 := cell_under p2
    have V2 := cell_under v2
    have U3 := cell_under p3
    have V3 := cell_under v3
    have U4 := cell_under p4
    have V4 := cell_under v4
    have U5 := cell_under p5
    have V5 := cell_under v5
    have U6 := cell_under p6
    have V6 := cell_under v6
    have U7 := cell_under p7
    have V7 := cell_under v7
    have U8 := cell_under p8
    have V8 := cell_under v8
    have U9 := cell_under p9
    have V9 := cell_under v9
    have U10 := cell_under p10
    have V10 := cell_under v10
    have V11 := cell_under v11
    go_upto_region 7 with (fail)
    have hLn := fun w h => tr_Len (b := b) (l := sN) (w := w) h
    rw [HSL.out] at hLn
    clear p0 p1 p2 p3 p4 p5 p6 p7 p8 p9 p10 v0 v1 v2 v3 v4 v5 v6 v7 v8 v9 v10 v11
    refine wp_region_quiet_under (by kernel_rfl) (by kernel_rfl) ?_
    repeat (go_big_quiet_step (((first | (go_at_call 13; exact calls_under (hSM2 _ (hC4.keep (under_below _ _)) (hs4.keep (under_below _ _)))) | (go_at_call 14; exact calls_under_same (hLn _ (hT4.keep (under_below _ _))))))))
    refine wpQuiet_nil ?_
    intro wu hw'
    obtain ⟨pq, hw''⟩ := hw'
    have hU := below_eq hw''
    clear hw'' pq
    obtain ⟨w5, rfl⟩ : ∃ w5, w5 = wu := ⟨_, rfl⟩
    have P5 := P4.keep hU
    have hW5 := below_step hW4 hU
    have hs5 := hs4.keep hU
    have hV5 := hV4.keep hU
    have hT5 := hT4.keep hU
    clear P4 hW4 hs4 hV4 hC4 hT4 hU hSM2 hLn U0 V0 U1 V1 U2 V2 U3 V3 U4 V4 U5 V5 U6 V6 U7 V7 U8 V8 U9 V9 U10 V10 V11
    obtain ⟨p0, p1, p2, p3, p4, p5, p6, p7, p8, p9, p10, _⟩ := P5.cells11
    go_wp2_with fail
    go_loopg [5] snn (fun gk s5 wr => ∃ k : Nat, k ≤ snn ∧ gk = snn - k ∧ s5 = .int .i64 k ∧ Below w5.heap.size w5 wr)
    case atStart => exact ⟨0, Nat.zero_le _, rfl, rfl, Below.refl _ _⟩
    case round =>
      obtain ⟨k, hk, rfl, rfl, hX⟩ := hrel
      have P6 := P5.keep hX
      have hs6 := hs5.keep hX
      have hV6 := hV5.keep hX
      have hT6 := hT5.keep hX
      clear p0 p1 p2 p3 p4 p5 p6 p7 p8 p9 p10
      obtain ⟨p0, p1, p2, p3, p4, p5, p6, p7, p8, p9, p10, _⟩ := P6.cells11
      by_cases hkn : k < snn
      · have hki : (k : Int) < (snn : Int) := by omega
        have v11 := hV6.cell 11
        obtain ⟨ad, rfl, hbk, c0, c1, c2, c3, c4, c5, c6⟩ := hs6.nodes.at_ hkn
        have hNd := fun w h => tr_NodeIn (b := b) (l := sN) (w := w) h k (by rw [HSL.out]; exact hkn)
        obtain ⟨x, hx⟩ : ∃ x, x = sN.getD k nd0 := ⟨_, rfl⟩
        rw [← hx] at hNd c0 c1 c2 c3 c4 c5 c6
        clear hx
        unfold Nd.val at hNd
        have U0 := cell_under c0
        have U1 := cell_under c1
        have U2 := cell_under c2
        have U3 := cell_under c3
        have U4 := cell_under c4
        have U5 := cell_under c5
        have U6 := cell_under c6
        have U7 := cell_under p0
        have U8 := cell_under v11
        go_upto_region 12 with (fail)
        clear p0 p1 p2 p3 p4 p5 p6 p7 p8 p9 p10 c0 c1 c2 c3 c4 c5 c6 v11
        refine wp_region_quiet_under (by kernel_rfl) (by kernel_rfl) ?_
        iterate 11 (go_big_quiet_step ((go_at_call 15; exact calls_under (hNd _ (hT6.keep (under_below _ _))))))
        go_big_quiet_want
        refine quiet_neq_nd (a := x) (b := x) (E := false) (by rw [sameNd_self]; rfl) rfl rfl rfl ?_
        simp only [Act.put, List.setIfInBounds_toArray, List.set_cons_zero, List.set_cons_succ]
        go_big_quiet_on
        repeat (go_big_quiet_step (fail))
        refine wpQuiet_nil ?_
        intro wv hw'
        obtain ⟨pq, hw''⟩ := hw'
        have hU := below_eq hw''
        clear hw'' pq
        have hXu := below_step hX hU
        clear U0 U1 U2 U3 U4 U5 U6 U7 U8 hU hX P6 hs6 hV6 hT6 hNd
        go_wp2
        go_roundg (snn - (k + 1))
        case measure => omega
        case rel => exact ⟨k + 1, by omega, rfl, by go_num, hXu⟩
      · have hWz := below_step hW5 hX
        have hkz : (snn : Int) ≤ (k : Int) := by omega
        clear hW5 hX hs6 hV6 hT6
        go_wp2_with fail
        refine (law19_awake _).mono ?_; rintro e w7 ⟨rfl, hx7⟩
        go_wp2
        go_ret
        exact ⟨rfl, below_step hWz hx7⟩
end Go.Proofs.Ytceekfbhkenniaa
end
