/- Lemmas for the claim's proof: HealthV. -/
import Derived.Test.YtcpfekhpbjkgeaaQ20
import Derived.Test.YtcpfekhpbjkgeaaQ21
section
/- The law's own board: tick. -/
set_option linter.unusedVariables false
namespace Go.Proofs.Ytcpfekhpbjkgeaa
open Go.RowKit Go.Maps
set_option maxHeartbeats 8000000
set_option maxRecDepth 100000
/-- All that stands in a round of the law's tick. -/
structure PEnv (w0 w : World) (B pb : Nat) (v : Value) (L : List Ph) (now : Int) (r : Rul) (la : List Int) (lo : List Chg) (va vo : Value) : Prop where
  pl : IsPlain w B pb v L now r
  md : Mod (pIn pb v) w0 w
  oa : w.ownsRow w0.heap.size 3 1 va la.length (la.map (Value.int .i64))
  oc : w.ownsRow w0.heap.size 126 3 vo lo.length (chgShape.flat lo)
section
variable {w0 w w' : World} {B pb : Nat} {v va vo va' vo' : Value} {L L' : List Ph} {now now' : Int} {r : Rul} {la la' : List Int} {lo lo' : List Chg}
theorem own_notpl {B' : Nat} {e : TypeId} {s n : Nat} {u : Value} {xs : List Value} (hP : IsPlain w B pb v L now r) (h : w.ownsRow B' e s u n xs) (h1 : e ≠ 58) (h2 : e ≠ 77) {g : Nat} (hg : u.ownBlock = some g) : ¬ pIn pb v g := by
  rintro (rfl | h3)
  · exact rowK_not hP.blk h h1 hg
  · exact own_two h hP.row h2 hg h3
theorem PEnv.step (h : PEnv w0 w B pb v L now r la lo va vo) (k : IsPlain w' B pb v L' now' r) (hM : Mod (pIn pb v) w w') : PEnv w0 w' B pb v L' now' r la lo va vo :=
  ⟨k, h.md.trans hM, ownK_mod h.oa hM (fun g hg => own_notpl h.pl h.oa (by decide) (by decide) hg), ownK_mod h.oc hM (fun g hg => own_notpl h.pl h.oc (by decide) (by decide) hg)⟩
theorem PEnv.keep (h : PEnv w0 w B pb v L now r la lo va vo) (hx : Below w.heap.size w w') : PEnv w0 w' B pb v L now r la lo va vo :=
  h.step (h.pl.keep hx) (Mod.of_below hx)
theorem mod_young {D E : Nat → Prop} (h : Mod D w0 w) (k : Mod E w w') (hE : ∀ g, E g → w0.heap.size ≤ g) : Mod D w0 w' :=
  ⟨k.os.trans h.os, k.tape.trans h.tape, k.output.trans h.output, Nat.le_trans h.size k.size, fun q hq hn => (k.block q (Nat.lt_of_lt_of_le hq h.size) (fun e => by have := hE q e; omega)).trans (h.block q hq hn)⟩
theorem PEnv.growA (h : PEnv w0 w B pb v L now r la lo va vo) (hg : w.grownBy w' va.ownBlock) (ho : w'.ownsRow w0.heap.size 3 1 va' la'.length (la'.map (Value.int .i64))) : PEnv w0 w' B pb v L now r la' lo va' vo := by
  have hM : Mod (fun g => va.ownBlock = some g) w w' := modK_grown hg (fun g e => e)
  exact ⟨h.pl.mod hM (fun g hp hg => own_notpl h.pl h.oa (by decide) (by decide) hg hp), mod_young h.md hM (fun g hg => (h.oa.lt g hg).1), ho, ownK_mod h.oc hM (fun g hg e => own_two h.oc h.oa (by decide) hg e)⟩
theorem PEnv.growO (h : PEnv w0 w B pb v L now r la lo va vo) (hg : w.grownBy w' vo.ownBlock) (ho : w'.ownsRow w0.heap.size 126 3 vo' lo'.length (chgShape.flat lo')) : PEnv w0 w' B pb v L now r la lo' va vo' := by
  have hM : Mod (fun g => vo.ownBlock = some g) w w' := modK_grown hg (fun g e => e)
  exact ⟨h.pl.mod hM (fun g hp hg => own_notpl h.pl h.oc (by decide) (by decide) hg hp), mod_young h.md hM (fun g hg => (h.oc.lt g hg).1), ownK_mod h.oa hM (fun g hg e => own_two h.oa h.oc (by decide) hg e), ho⟩
end
theorem set_same (L : List Ph) (k : Nat) : L.set k (L.getD k default) = L := by
  apply List.ext_getElem?
  intro i
  rw [List.getElem?_set]
  split
  · rename_i e
    subst e
    by_cases h : k < L.length
    · rw [if_pos h, List.getD_eq_getElem?_getD, List.getElem?_eq_getElem h]; rfl
    · rw [if_neg h, List.getElem?_eq_none (by omega)]
  · rfl
/-- So many hosts have had their tick. -/
def goneOn (f : Ph → Ph) (L : List Ph) (k : Nat) : List Ph := (L.take k).map f ++ L.drop k
theorem goneOn_len (f : Ph → Ph) (L : List Ph) (k : Nat) : (goneOn f L k).length = L.length := by unfold goneOn; simp; omega
theorem goneOn_at (f : Ph → Ph) {L : List Ph} {k : Nat} (h : k < L.length) : (goneOn f L k).getD k default = L.getD k default := by
  unfold goneOn
  rw [List.getD_eq_getElem?_getD, List.getD_eq_getElem?_getD, List.getElem?_append_right (by simp; omega)]
  congr 1
  rw [List.getElem?_drop]
  congr 1
  simp; omega
theorem goneOn_step (f : Ph → Ph) {L : List Ph} {k : Nat} (h : k < L.length) : (goneOn f L k).set k (f (L.getD k default)) = goneOn f L (k + 1) := by
  unfold goneOn
  have e : L.drop k = L.getD k default :: L.drop (k + 1) := by
    rw [List.drop_eq_getElem_cons h, List.getD_eq_getElem?_getD, List.getElem?_eq_getElem h]; rfl
  rw [List.set_append_right _ _ (by simp; omega), e, takeP_next h]
  have : k - (List.map f (L.take k)).length = 0 := by simp; omega
  rw [this]
  simp
theorem goneOn_end (f : Ph → Ph) (L : List Ph) : goneOn f L L.length = L.map f := by unfold goneOn; simp
theorem goneOn_zero (f : Ph → Ph) (L : List Ph) : goneOn f L 0 = L := by unfold goneOn; simp
theorem law22_tick {w : World} {B pb : Nat} {v : Value} {L : List Ph} {now : Int} {r : Rul} (h : IsPlain w B pb v L now r) (hr : RightR r) (hok : ∀ x ∈ L, PhOk r now x) (h0 : 0 ≤ now) (h1 : now + 1 + r.every ≤ 1099511627776) (hl : L.length ≤ 40) (hBw : B ≤ w.heap.size) :
    Calls Try.prog 64 #[.pointer (some ⟨pb, 0, none⟩)] w fun e w' => ∃ va vo, e = .returned (.tuple #[va, vo]) ∧ PEnv w w' B pb v (L.map (tickPh r (now + 1))) (now + 1) r (L.flatMap (askOut (now + 1))) (L.flatMap (missOut r (now + 1))) va vo := by
  obtain ⟨iC, hiC, hzC, hzC1, hzC2⟩ := info_parts Try.infoChg
  obtain ⟨iI, hiI, hzI, hzI1, hzI2⟩ := info_parts Try.infoIntH
  have hre : 1 ≤ r.every ∧ 1 ≤ r.timeout ∧ r.timeout ≤ r.every := by unfold RightR at hr; omega
  have hadd : IntKind.i64.wrap (now + 1) = now + 1 := IntWalk.i64_in _ (by omega)
  obtain ⟨c0, c1, c2, c3, c4, c5, _⟩ := h.blk.cells6
  obtain ⟨f0, f1, f2, f3, f4, f5⟩ := h.blk.free6
  have HP1 := Lib.hid (show IsPlain (w.setCell ⟨pb, 5, none⟩ (.int .i64 (now + 1))) B pb v L (now + 1) r from ⟨h.blk.setTo 5 _ rfl, h.low, ownK_mod h.row ((Mod.refl (fun g => g = pb) w).setCell (p := ⟨pb, 5, none⟩) (.inl (show pb = pb from rfl)) _) (fun g hg e => h.no (e ▸ hg))⟩)
  have HM1 := Lib.hid ((Mod.refl (pIn pb v) w).setCell (p := ⟨pb, 5, none⟩) (.inl (show pIn pb v pb from .inl rfl)) (.int .i64 (now + 1)))
  have hws : w.heap.size ≤ (w.setCell ⟨pb, 5, none⟩ (.int .i64 (now + 1))).heap.size := by simp
  go_enter Try.func64, Try.ntmps64
  go_upto_region 2 with (fail)
  have hP1 := HP1.out
  have hM1 := HM1.out
  have hE := PEnv.mk hP1 hM1 (la := []) (lo := []) (va := .slice none 0 0) (vo := .slice none 0 0) (World.ownsRow_nil _ _ _ 1) (World.ownsRow_nil _ _ _ 3)
  clear HP1 HM1 hP1 hM1 c0 c1 c2 c3 c4 c5 f0 f1 f2 f3 f4 f5 h
  generalize w.setCell ⟨pb, 5, none⟩ (.int .i64 (now + 1)) = u at *
  obtain ⟨z, hz⟩ : ∃ z, z = now + 1 := ⟨_, rfl⟩
  have HZ := Lib.hid hz
  rw [← hz] at hE ⊢
  obtain ⟨N, hN⟩ : ∃ N, N = L.length := ⟨_, rfl⟩
  have HN := Lib.hid hN
  rw [← hN] at hl
  have HOK := Lib.hid hok
  have hzz : 0 ≤ z ∧ z + r.every ≤ 1099511627776 := by omega
  clear hz hN hok hadd hws h0 h1
  rw [← goneOn_zero (tickPh r z) L] at hE
  go_wp2_with fail
  go_loopg [4, 5, 6, 7] N (fun gk s4 s5 s6 s7 wr => ∃ k : Nat, s6 = .int .i64 k ∧ k ≤ N ∧ gk = N - k ∧ PEnv w wr B pb v (goneOn (tickPh r z) L k) z r ((L.take k).flatMap (askOut z)) ((L.take k).flatMap (missOut r z)) s4 s5)
  case atStart => exact ⟨0, by go_num, Nat.zero_le _, rfl, hE⟩
  case round =>
    clear hE
    obtain ⟨k, rfl, hk, rfl, hE⟩ := hrel
    obtain ⟨c0, c1, c2, c3, c4, c5, _⟩ := hE.pl.blk.cells6
    by_cases hkn : k < N
    · have hkL : k < L.length := by rw [← HN.out]; exact hkn
      have HKL := Lib.hid hkL
      have hkG : k < (goneOn (tickPh r z) L k).length := by rw [goneOn_len]; exact hkL
      obtain ⟨g, n, c, hv, hn, hc1, hc2, hg, hpg, hat⟩ := hE.pl.at_ hkG
      rw [goneOn_len, ← HN.out] at hn
      subst hn
      subst hv
      rw [goneOn_at _ hkL] at hat
      have hkk : (k : Int) < (n : Int) := by omega
      have HX := Lib.hid (HOK.out (L.getD k default) (by rw [List.getD_eq_getElem?_getD, List.getElem?_eq_getElem hkL]; exact List.getElem_mem _))
      have HHEAR := Lib.hid (fun (w1 : World) (h : IsPlain w1 B pb (.slice (some ⟨g, 0, none⟩) n c) (goneOn (tickPh r z) L k) z r) => by
        have := law22_hear h hr hkG (by rw [goneOn_at _ hkL]; exact HX.out.row0) (by rw [goneOn_at _ hkL]; exact HX.out.row1) false
        rw [goneOn_at _ hkL] at this
        exact this)
      have HSTEP := Lib.hid (goneOn_step (tickPh r z) hkL)
      have HTK := Lib.hid (takeP_next hkL)
      have HSAME := Lib.hid (show (goneOn (tickPh r z) L k).set k (L.getD k default) = goneOn (tickPh r z) L k from by
        rw [← goneOn_at (tickPh r z) hkL]
        exact set_same _ _)
      have HLK := Lib.hid (show (goneOn (tickPh r z) L k).length = n from by rw [goneOn_len, HN.out])
      have hla : ((L.take k).flatMap (askOut z)).length ≤ 40 ∧ ((L.take k).flatMap (missOut r z)).length ≤ 40 := by
        have a1 : ∀ (f : Ph → Nat) (K : List Ph), True := fun _ _ => trivial
        have e1 : ∀ K : List Ph, (K.flatMap (askOut z)).length ≤ K.length := fun K => by
          induction K with
          | nil => simp
          | cons y K ih =>
            rw [List.flatMap_cons, List.length_append, List.length_cons]
            have : (askOut z y).length ≤ 1 := by unfold askOut; split <;> simp
            omega
        have e2 : ∀ K : List Ph, (K.flatMap (missOut r z)).length ≤ K.length := fun K => by
          induction K with
          | nil => simp
          | cons y K ih =>
            rw [List.flatMap_cons, List.length_append, List.length_cons]
            have : (missOut r z y).length ≤ 1 := by unfold missOut; split <;> simp
            omega
        have t1 := e1 (L.take k)
        have t2 := e2 (L.take k)
        rw [List.length_take] at t1 t2
        omega
      have d0 : wr.cell? ⟨g, k * 6, none⟩ = _ := hat 0 _ rfl
      have d1 := hat 1 _ rfl
      have d2 := hat 2 _ rfl
      have d3 := hat 3 _ rfl
      have d4 := hat 4 _ rfl
      have d5 := hat 5 _ rfl
      clear hat hkG hkL
      generalize L.getD k default = x at *
      go_upto_region 7 with (fail)
      have HPL := Lib.hid hE.pl
      obtain ⟨D, hD⟩ : ∃ D, D = decide (lateP r z x = true ∧ x.asked = true ∧ turnPh r x false = true) := ⟨_, rfl⟩
      have HD := Lib.hid hD
      obtain ⟨M1, hM1⟩ : ∃ M1, M1 = missP r z x := ⟨_, rfl⟩
      have HM1 := Lib.hid hM1
      clear hD hM1
      go_cut [70] (fun q wx => q = .bool D ∧ IsPlain wx B pb (.slice (some ⟨g, 0, none⟩) n c) ((goneOn (tickPh r z) L k).set k M1) z r ∧ Mod (pIn pb (.slice (some ⟨g, 0, none⟩) n c)) wr wx)
      case first =>
        have U0 := cell_under c4
        have U1 := cell_under c5
        have U2 := cell_under c1
        have U3 := cell_under d5
        have HNOT := Lib.hid (show (¬ (lateP r z x = true ∧ x.asked = true)) → D = false ∧ M1 = x from fun hh => ⟨by rw [HD.out]; exact decide_eq_false (fun h2 => hh ⟨h2.1, h2.2.1⟩), by rw [HM1.out]; unfold missP; rw [if_neg hh]⟩)
        have HYES := Lib.hid (show (lateP r z x = true ∧ x.asked = true) → D = turnPh r x false ∧ M1 = hearPh r x false from fun hh => ⟨by rw [HD.out]; cases turnPh r x false <;> simp [hh.1, hh.2], by rw [HM1.out]; unfold missP; rw [if_pos hh]⟩)
        by_cases a1 : 0 ≤ x.last
        · have e1 : decide (0 ≤ x.last) = true := decide_eq_true a1
          have hxl := HX.out.last
          have hzn := HZ.out
          have hadd : IntKind.i64.wrap (x.last + r.timeout) = x.last + r.timeout := IntWalk.i64_in _ (by unfold RightR at hr; omega)
          clear hxl hzn
          by_cases a2 : z = x.last + r.timeout
          · have e2 : (z == x.last + r.timeout) = true := by simp [a2]
            have HLATE := Lib.hid (show lateP r z x = true by unfold lateP; rw [decide_eq_true a1, decide_eq_true a2]; rfl)
            clear a2
            cases ha : x.asked with
            | true =>
              rw [ha] at d1
              have U4 := cell_under d1
              have HY := Lib.hid (HYES.out ⟨HLATE.out, ha⟩)
              clear ha c0 c1 c2 c3 c4 c5 d0 d1 d2 d3 d4 d5 hE HYES HNOT HD a1
              refine wp_region_under_tail 44 (by kernel_rfl) (by kernel_rfl) ?_
              simp only [List.take_succ_cons, List.take_zero, List.drop_succ_cons, List.drop_zero]
              repeat (go_big_quiet_step ((fail)))
              refine wpQuiet_nil ?_
              intro wu hw'
              obtain ⟨pq, hw''⟩ := hw'
              have hU := below_eq hw''
              clear hw'' pq
              have CH := HHEAR.out wu (HPL.out.keep hU)
              have hMB := Mod.of_below (S := pIn pb (.slice (some ⟨g, 0, none⟩) n c)) hU
              clear U0 U1 U2 U3 U4 hU
              go_wp2_with fail
              refine CH.mono ?_; rintro e w2 ⟨rfl, hP2, hM2⟩
              clear CH
              go_wp2_with fail
              go_meet
              exact ⟨by rw [HY.out.1], by rw [HY.out.2]; exact hP2, hMB.trans hM2⟩
            | false =>
              rw [ha] at d1
              have U4 := cell_under d1
              have HY := Lib.hid (HNOT.out (fun hh => by rw [ha] at hh; cases hh.2))
              clear ha c0 c1 c2 c3 c4 c5 d0 d1 d2 d3 d4 d5 hE HYES HNOT HD a1
              refine wp_region_under_tail 44 (by kernel_rfl) (by kernel_rfl) ?_
              simp only [List.take_succ_cons, List.take_zero, List.drop_succ_cons, List.drop_zero]
              repeat (go_big_quiet_step ((fail)))
              refine wpQuiet_nil ?_
              intro wu hw'
              obtain ⟨pq, hw''⟩ := hw'
              have hU := below_eq hw''
              clear hw'' pq
              have hP2 := HPL.out.keep hU
              have hMB := Mod.of_below (S := pIn pb (.slice (some ⟨g, 0, none⟩) n c)) hU
              clear U0 U1 U2 U3 U4 hU
              go_wp2_with fail
              go_meet
              exact ⟨by rw [HY.out.1], by rw [HY.out.2, HSAME.out]; exact hP2, hMB⟩
          · have e2 : (z == x.last + r.timeout) = false := by simp [a2]
            have HY := Lib.hid (HNOT.out (fun hh => by
              have h1 := hh.1
              unfold lateP at h1
              rw [Bool.and_eq_true] at h1
              exact a2 (of_decide_eq_true h1.2)))
            clear a2 c0 c1 c2 c3 c4 c5 d0 d1 d2 d3 d4 d5 hE HYES HNOT HD a1
            refine wp_region_under_tail 44 (by kernel_rfl) (by kernel_rfl) ?_
            simp only [List.take_succ_cons, List.take_zero, List.drop_succ_cons, List.drop_zero]
            repeat (go_big_quiet_step ((fail)))
            refine wpQuiet_nil ?_
            intro wu hw'
            obtain ⟨pq, hw''⟩ := hw'
            have hU := below_eq hw''
            clear hw'' pq
            have hP2 := HPL.out.keep hU
            have hMB := Mod.of_below (S := pIn pb (.slice (some ⟨g, 0, none⟩) n c)) hU
            clear U0 U1 U2 U3 hU
            go_wp2_with fail
            go_meet
            exact ⟨by rw [HY.out.1], by rw [HY.out.2, HSAME.out]; exact hP2, hMB⟩
        · have e1 : decide (0 ≤ x.last) = false := decide_eq_false a1
          have HY := Lib.hid (HNOT.out (fun hh => by
            have h1 := hh.1
            unfold lateP at h1
            rw [Bool.and_eq_true] at h1
            exact a1 (of_decide_eq_true h1.1)))
          clear c0 c1 c2 c3 c4 c5 d0 d1 d2 d3 d4 d5 hE HYES HNOT HD a1
          refine wp_region_under_tail 44 (by kernel_rfl) (by kernel_rfl) ?_
          simp only [List.take_succ_cons, List.take_zero, List.drop_succ_cons, List.drop_zero]
          repeat (go_big_quiet_step ((fail)))
          refine wpQuiet_nil ?_
          intro wu hw'
          obtain ⟨pq, hw''⟩ := hw'
          have hU := below_eq hw''
          clear hw'' pq
          have hP2 := HPL.out.keep hU
          have hMB := Mod.of_below (S := pIn pb (.slice (some ⟨g, 0, none⟩) n c)) hU
          clear U0 U1 U2 U3 hU
          go_wp2_with fail
          go_meet
          exact ⟨by rw [HY.out.1], by rw [HY.out.2, HSAME.out]; exact hP2, hMB⟩
      case rest =>
        obtain ⟨rfl, hP1, hM1⟩ := hcut
        have hE1 := hE.step hP1 hM1
        clear hE hP1 hM1 c0 c1 c2 c3 c4 c5 d0 d1 d2 d3 d4 d5 HHEAR
        obtain ⟨L1, hL1⟩ : ∃ L1, L1 = (goneOn (tickPh r z) L k).set k M1 := ⟨_, rfl⟩
        have HL1 := Lib.hid (show L1.length = n ∧ L1.getD k default = M1 from by
          rw [hL1]
          exact ⟨by rw [List.length_set]; exact HLK.out, by rw [List.getD_eq_getElem?_getD, List.getElem?_set_self (by rw [HLK.out]; exact hkn)]; rfl⟩)
        have HS1 := Lib.hid (show ∀ y, L1.set k y = (goneOn (tickPh r z) L k).set k y from fun y => by rw [hL1, List.set_set])
        have HMS := Lib.hid (show M1.id = x.id ∧ M1.next = x.next ∧ M1.last = x.last from by rw [HM1.out]; exact missP_same r z x)
        have HTP := Lib.hid (show tickPh r z x = if z = M1.next then ⟨M1.up, true, M1.row, M1.id, z + r.every, z⟩ else M1 from by unfold tickPh askP; rw [← HM1.out])
        rw [← hL1] at hE1
        clear hL1 HSAME HLK HPL
        obtain ⟨c0, c1, c2, c3, c4, c5, _⟩ := hE1.pl.blk.cells6
        obtain ⟨_, _, _, hv, hnn, _, _, hg1, _, hat⟩ := hE1.pl.at_ (by rw [HL1.out.1]; exact hkn)
        cases hv
        clear hnn
        rw [HL1.out.2] at hat
        have d0 : wc.cell? ⟨g, k * 6, none⟩ = _ := hat 0 _ rfl
        have d1 := hat 1 _ rfl
        have d2 := hat 2 _ rfl
        have d3 := hat 3 _ rfl
        have d4 := hat 4 _ rfl
        have d5 := hat 5 _ rfl
        clear hat
        go_upto_if 70 with (fail)
        go_cut [5] (fun q wx => PEnv w wx B pb (.slice (some ⟨g, 0, none⟩) n c) L1 z r ((L.take k).flatMap (askOut z)) ((L.take k).flatMap (missOut r z) ++ missOut r z x) u4 q)
        case first =>
          cases D with
          | false =>
            have HMO := Lib.hid (show missOut r z x = [] from by unfold missOut; rw [if_neg (fun hh => by have := HD.out; rw [decide_eq_true hh] at this; cases this)])
            have HE2 := Lib.hid hE1
            clear hE1 HD c0 c1 c2 c3 c4 c5 d0 d1 d2 d3 d4 d5
            go_wp2_with fail
            go_meet
            rw [HMO.out, List.append_nil]
            exact HE2.out
          | true =>
            have HMO := Lib.hid (show missOut r z x = [⟨z, M1.id, false⟩] from by
              unfold missOut
              rw [HMS.out.1]
              exact if_pos (of_decide_eq_true HD.out.symm))
            have HN1 := Lib.hid (fun e => own_notpl hE1.pl hE1.oc (by decide) (by decide) (g := pb) e (.inl rfl))
            have HN2 := Lib.hid (fun e => own_notpl hE1.pl hE1.oc (by decide) (by decide) (g := g) e (.inr rfl))
            go_upto_region 8 with (fail)
            have hE2 := hE1.keep ((Below.refl wc.heap.size wc).drew)
            clear hE1 HD
            refine wp_region_noPanic ?_
            refine wp_region_held_drew (S := (fun w' => w'.cell? ⟨pb, 4, none⟩ = some (.slice (some ⟨g, 0, none⟩) n c) ∧ w'.cell? ⟨pb, 5, none⟩ = some (.int .i64 z) ∧ w'.cell? ⟨g, k * 6 + 3, none⟩ = some (.int .i64 M1.id))) (by kernel_rfl) (show wc.drew.cell? ⟨pb, 4, none⟩ = some (.slice (some ⟨g, 0, none⟩) n c) ∧ wc.drew.cell? ⟨pb, 5, none⟩ = some (.int .i64 z) ∧ wc.drew.cell? ⟨g, k * 6 + 3, none⟩ = some (.int .i64 M1.id) from ⟨c4, c5, d3⟩) (fun hHeld => ?_)
            refine take_one (i := 0) (oi := ?oi_1) (v := ?v_1) ?hi_1 (by kernel_rfl) (by kernel_rfl) (by kernel_rfl) ?hq_1 ?hw_1 ?hy_1 (by assumption) ?rest_1
            case hi_1 => (simp only [List.getElem?_toArray, List.getElem?_cons_zero]; rfl)
            case hq_1 => exact fun _ _ _ h => h
            case hw_1 => rfl
            case hy_1 => (intro w' hSw; (have q1 := hSw.1; have q2 := hSw.2.1; have q3 := hSw.2.2); go_simp; first | done | with_reducible rfl)
            try simp only [Act.put, List.setIfInBounds_toArray, List.set_cons_zero, List.set_cons_succ]
            refine take_one (i := 1) (oi := ?oi_2) (v := ?v_2) ?hi_2 (by kernel_rfl) (by kernel_rfl) (by kernel_rfl) ?hq_2 ?hw_2 ?hy_2 (by assumption) ?rest_2
            case hi_2 => (simp only [List.getElem?_toArray, List.getElem?_cons_succ, List.getElem?_cons_zero]; rfl)
            case hq_2 => exact fun _ _ _ h => h
            case hw_2 => rfl
            case hy_2 => (intro w' hSw; (have q1 := hSw.1; have q2 := hSw.2.1; have q3 := hSw.2.2); go_simp; first | done | with_reducible rfl)
            try simp only [Act.put, List.setIfInBounds_toArray, List.set_cons_zero, List.set_cons_succ]
            refine take_one (i := 2) (oi := ?oi_3) (v := ?v_3) ?hi_3 (by kernel_rfl) (by kernel_rfl) (by kernel_rfl) ?hq_3 ?hw_3 ?hy_3 (by assumption) ?rest_3
            case hi_3 => (simp only [List.getElem?_toArray, List.getElem?_cons_succ, List.getElem?_cons_zero]; rfl)
            case hq_3 => exact fun _ _ _ h => h
            case hw_3 => rfl
            case hy_3 => (intro w' hSw; (have q1 := hSw.1; have q2 := hSw.2.1; have q3 := hSw.2.2); go_simp; first | done | with_reducible rfl)
            try simp only [Act.put, List.setIfInBounds_toArray, List.set_cons_zero, List.set_cons_succ]
            refine take_one (i := 3) (oi := ?oi_4) (v := ?v_4) ?hi_4 (by kernel_rfl) (by kernel_rfl) (by kernel_rfl) ?hq_4 ?hw_4 ?hy_4 (by assumption) ?rest_4
            case hi_4 => (simp only [List.getElem?_toArray, List.getElem?_cons_succ, List.getElem?_cons_zero]; rfl)
            case hq_4 => exact fun _ _ _ h => h
            case hw_4 => rfl
            case hy_4 => (intro w' hSw; (have q1 := hSw.1; have q2 := hSw.2.1; have q3 := hSw.2.2); go_simp; first | done | with_reducible rfl)
            try simp only [Act.put, List.setIfInBounds_toArray, List.set_cons_zero, List.set_cons_succ]
            refine take_one (i := 4) (oi := ?oi_5) (v := ?v_5) ?hi_5 (by kernel_rfl) (by kernel_rfl) (by kernel_rfl) ?hq_5 ?hw_5 ?hy_5 (by assumption) ?rest_5
            case hi_5 => (simp only [List.getElem?_toArray, List.getElem?_cons_succ, List.getElem?_cons_zero]; rfl)
            case hq_5 => exact fun _ _ _ h => h
            case hw_5 => rfl
            case hy_5 => (intro w' hSw; (have q1 := hSw.1; have q2 := hSw.2.1; have q3 := hSw.2.2); go_simp; first | done | with_reducible rfl)
            try simp only [Act.put, List.setIfInBounds_toArray, List.set_cons_zero, List.set_cons_succ]
            refine take_one (i := 5) (oi := ?oi_6) (v := ?v_6) ?hi_6 (by kernel_rfl) (by kernel_rfl) (by kernel_rfl) ?hq_6 ?hw_6 ?hy_6 (by assumption) ?rest_6
            case hi_6 => (simp only [List.getElem?_toArray, List.getElem?_cons_succ, List.getElem?_cons_zero]; rfl)
            case hq_6 => exact fun _ _ _ h => h
            case hw_6 => rfl
            case hy_6 => (intro w' hSw; (have q1 := hSw.1; have q2 := hSw.2.1; have q3 := hSw.2.2); go_simp; first | done | with_reducible rfl)
            try simp only [Act.put, List.setIfInBounds_toArray, List.set_cons_zero, List.set_cons_succ]
            refine take_one (i := 6) (oi := ?oi_7) (v := ?v_7) ?hi_7 (by kernel_rfl) (by kernel_rfl) (by kernel_rfl) ?hq_7 ?hw_7 ?hy_7 (by assumption) ?rest_7
            case hi_7 => (simp only [List.getElem?_toArray, List.getElem?_cons_succ, List.getElem?_cons_zero]; rfl)
            case hq_7 => exact fun _ _ _ h => h
            case hw_7 => rfl
            case hy_7 => (intro w' hSw; (have q1 := hSw.1; have q2 := hSw.2.1; have q3 := hSw.2.2); go_simp; first | done | with_reducible rfl)
            try simp only [Act.put, List.setIfInBounds_toArray, List.set_cons_zero, List.set_cons_succ]
            refine take_one (i := 7) (oi := ?oi_8) (v := ?v_8) ?hi_8 (by kernel_rfl) (by kernel_rfl) (by kernel_rfl) ?hq_8 ?hw_8 ?hy_8 (by assumption) ?rest_8
            case hi_8 => (simp only [List.getElem?_toArray, List.getElem?_cons_succ, List.getElem?_cons_zero]; rfl)
            case hq_8 => exact fun _ _ _ h => h
            case hw_8 => rfl
            case hy_8 => (intro w' hSw; (have q1 := hSw.1; have q2 := hSw.2.1; have q3 := hSw.2.2); go_simp; first | done | with_reducible rfl)
            try simp only [Act.put, List.setIfInBounds_toArray, List.set_cons_zero, List.set_cons_succ]
            refine take_one (i := 8) (oi := ?oi_9) (v := ?v_9) ?hi_9 (by kernel_rfl) (by kernel_rfl) (by kernel_rfl) ?hq_9 ?hw_9 ?hy_9 (by assumption) ?rest_9
            case hi_9 => (simp only [List.getElem?_toArray, List.getElem?_cons_succ, List.getElem?_cons_zero]; rfl)
            case hq_9 => exact fun _ _ _ h => h
            case hw_9 => rfl
            case hy_9 => (intro w' hSw; (have q1 := hSw.1; have q2 := hSw.2.1; have q3 := hSw.2.2); go_simp; first | done | with_reducible rfl)
            try simp only [Act.put, List.setIfInBounds_toArray, List.set_cons_zero, List.set_cons_succ]
            refine take_one (i := 9) (oi := ?oi_10) (v := ?v_10) ?hi_10 (by kernel_rfl) (by kernel_rfl) (by kernel_rfl) ?hq_10 ?hw_10 ?hy_10 (by assumption) ?rest_10
            case hi_10 => (simp only [List.getElem?_toArray, List.getElem?_cons_succ, List.getElem?_cons_zero]; rfl)
            case hq_10 => exact fun _ _ _ h => h
            case hw_10 => rfl
            case hy_10 => (intro w' hSw; (have q1 := hSw.1; have q2 := hSw.2.1; have q3 := hSw.2.2); go_simp; first | done | with_reducible rfl)
            try simp only [Act.put, List.setIfInBounds_toArray, List.set_cons_zero, List.set_cons_succ]
            refine take_one (i := 10) (oi := ?oi_11) (v := ?v_11) ?hi_11 (by kernel_rfl) (by kernel_rfl) (by kernel_rfl) ?hq_11 ?hw_11 ?hy_11 (by assumption) ?rest_11
            case hi_11 => (simp only [List.getElem?_toArray, List.getElem?_cons_succ, List.getElem?_cons_zero]; rfl)
            case hq_11 => exact fun _ _ _ h => h
            case hw_11 => rfl
            case hy_11 => (intro w' hSw; (have q1 := hSw.1; have q2 := hSw.2.1; have q3 := hSw.2.2); go_simp; first | done | with_reducible rfl)
            try simp only [Act.put, List.setIfInBounds_toArray, List.set_cons_zero, List.set_cons_succ]
            refine take_one (i := 11) (oi := ?oi_12) (v := ?v_12) ?hi_12 (by kernel_rfl) (by kernel_rfl) (by kernel_rfl) ?hq_12 ?hw_12 ?hy_12 (by assumption) ?rest_12
            case hi_12 => (simp only [List.getElem?_toArray, List.getElem?_cons_succ, List.getElem?_cons_zero]; rfl)
            case hq_12 => exact fun _ _ _ h => h
            case hw_12 => rfl
            case hy_12 => (intro w' hSw; (have q1 := hSw.1; have q2 := hSw.2.1; have q3 := hSw.2.2); go_simp; first | done | with_reducible rfl)
            try simp only [Act.put, List.setIfInBounds_toArray, List.set_cons_zero, List.set_cons_succ]
            refine take_one (i := 12) (oi := ?oi_13) (v := ?v_13) ?hi_13 (by kernel_rfl) (by kernel_rfl) (by kernel_rfl) ?hq_13 ?hw_13 ?hy_13 (by assumption) ?rest_13
            case hi_13 => (simp only [List.getElem?_toArray, List.getElem?_cons_succ, List.getElem?_cons_zero]; rfl)
            case hq_13 => exact fun _ _ _ h => h
            case hw_13 => rfl
            case hy_13 => (intro w' hSw; (have q1 := hSw.1; have q2 := hSw.2.1; have q3 := hSw.2.2); go_simp; first | done | with_reducible rfl)
            try simp only [Act.put, List.setIfInBounds_toArray, List.set_cons_zero, List.set_cons_succ]
            refine take_one (i := 13) (oi := ?oi_14) (v := ?v_14) ?hi_14 (by kernel_rfl) (by kernel_rfl) (by kernel_rfl) ?hq_14 ?hw_14 ?hy_14 (by assumption) ?rest_14
            case hi_14 => (simp only [List.getElem?_toArray, List.getElem?_cons_succ, List.getElem?_cons_zero]; rfl)
            case hq_14 => exact fun _ _ _ h => h
            case hw_14 => rfl
            case hy_14 => (intro w' hSw; (have q1 := hSw.1; have q2 := hSw.2.1; have q3 := hSw.2.2); go_simp; first | done | with_reducible rfl)
            try simp only [Act.put, List.setIfInBounds_toArray, List.set_cons_zero, List.set_cons_succ]
            generalize wc.drew = vx0 at *
            refine wpAnyH_ready (rs := [14]) (by kernel_rfl) (by simp) ?_
            refine AllReadyH.cons (i := 14) (o := ?o_15_14) ?h_15_14 (fun K hK => ?_) AllReadyH.nil
            case h_15_14 => (simp only [List.getElem?_toArray, List.getElem?_cons_succ, List.getElem?_cons_zero]; rfl)
            have hR9 := readsK_new (vx0) 126 3 [.int .i64 z, .int .i64 M1.id, .bool false] rfl
            have hE3 := hE2.keep ((Below.refl _ (vx0)).alloc (Nat.le_refl _) (.cells #[.int .i64 z, .int .i64 M1.id, .bool false] 126))
            clear hE2
            go_simp
            refine hK.out _ _ ⟨cell_alloc hHeld.1 _, cell_alloc hHeld.2.1 _, cell_alloc hHeld.2.2 _⟩ (fun hHeld => ?_)
            clear hK K
            try simp only [Act.put, List.setIfInBounds_toArray, List.set_cons_zero, List.set_cons_succ]
            obtain ⟨gx, hgx⟩ : ∃ q, q = (vx0).heap.size := ⟨_, rfl⟩
            rw [← hgx] at hR9 ⊢
            clear hgx
            generalize (vx0).alloc (.cells #[.int .i64 z, .int .i64 M1.id, .bool false] 126) = vx16 at *
            refine wpAnyH_ready (rs := [15]) (by kernel_rfl) (by simp) ?_
            refine AllReadyH.cons (i := 15) (o := ?o_17_15) ?h_17_15 (fun K hK => ?_) AllReadyH.nil
            case h_17_15 => (simp only [List.getElem?_toArray, List.getElem?_cons_succ, List.getElem?_cons_zero]; rfl)
            have hws := hE3.md.size
            refine step_append_any _ rfl (.tmp 71) (.tmp 85) _ rfl w.heap.size 126 iC _ 3 24 Try.underlying66 hiC hzC hzC1 hzC2 rfl (by decide) _ ((L.take k).flatMap (missOut r z)).length (chgShape.flat ((L.take k).flatMap (missOut r z))) rfl hE3.oc _ _ 1 1 [.int .i64 z, .int .i64 M1.id, .bool false] rfl hR9 (by intro u hu; simp at hu; rcases hu with rfl | rfl | rfl <;> rfl) (by simp only [maxLen]; omega) (by omega) hws ?_
            intro v6 vx18 hown6 hg6 hat6
            have hown7 : (vx18).ownsRow w.heap.size 126 3 v6 ((L.take k).flatMap (missOut r z) ++ [(⟨z, M1.id, false⟩ : Chg)]).length (chgShape.flat ((L.take k).flatMap (missOut r z) ++ [⟨z, M1.id, false⟩])) := by rw [List.length_append, chgShape.flat_snoc]; exact hown6
            have hE4 := hE3.growO hg6 hown7
            refine hK.out _ _ ⟨hg6.cell hHeld.1 (fun e => HN1.out e.symm), hg6.cell hHeld.2.1 (fun e => HN1.out e.symm), hg6.cell hHeld.2.2 (fun e => HN2.out e.symm)⟩ (fun hHeld => ?_)
            clear hK K hown6 hg6 hat6 hE3 hown7 hws hR9
            try simp only [Act.put, List.setIfInBounds_toArray, List.set_cons_zero, List.set_cons_succ]
            refine take_one (i := 16) (oi := ?oi_19) (v := ?v_19) ?hi_19 (by kernel_rfl) (by kernel_rfl) (by kernel_rfl) ?hq_19 ?hw_19 ?hy_19 (by assumption) ?rest_19
            case hi_19 => (simp only [List.getElem?_toArray, List.getElem?_cons_succ, List.getElem?_cons_zero]; rfl)
            case hq_19 => exact fun _ _ _ h => h
            case hw_19 => rfl
            case hy_19 => (intro w' hSw; (have q1 := hSw.1; have q2 := hSw.2.1; have q3 := hSw.2.2); go_simp; first | done | with_reducible rfl)
            try simp only [Act.put, List.setIfInBounds_toArray, List.set_cons_zero, List.set_cons_succ]
            refine wpAnyH_done (by kernel_rfl) (NoPanic.normal ?_) _
            go_wp2_with fail
            go_meet
            rw [HMO.out]
            exact hE4
        case rest =>
          clear hE1 c0 c1 c2 c3 c4 c5 d0 d1 d2 d3 d4 d5 HD
          have hE2 : PEnv w wc B pb (.slice (some ⟨g, 0, none⟩) n c) L1 z r ((L.take k).flatMap (askOut z)) ((L.take (k + 1)).flatMap (missOut r z)) u4 u5 := by
            rw [HTK.out, List.flatMap_append, List.flatMap_cons, List.flatMap_nil, List.append_nil]
            exact hcut
          have HASK := Lib.hid (show (L.take (k + 1)).flatMap (askOut z) = (L.take k).flatMap (askOut z) ++ (if z = M1.next then [M1.id] else []) from by
            rw [HTK.out, List.flatMap_append, List.flatMap_cons, List.flatMap_nil, List.append_nil, HMS.out.2.1, HMS.out.1]; rfl)
          clear hcut
          obtain ⟨c0, c1, c2, c3, c4, c5, _⟩ := hE2.pl.blk.cells6
          obtain ⟨_, _, _, hv, hnn, _, _, hg1, _, hat⟩ := hE2.pl.at_ (by rw [HL1.out.1]; exact hkn)
          cases hv
          clear hnn
          rw [HL1.out.2] at hat
          have d4 := hat 4 _ rfl
          have U0 := cell_under c4
          have U1 := cell_under c5
          have U2 := cell_under d4
          clear hat c0 c1 c2 c3 c4 c5 d4
          go_upto_region 9 with (fail)
          by_cases b1 : z = M1.next
          · have e1 : (z == M1.next) = true := by simp [b1]
            have HB1 := Lib.hid b1
            clear b1
            refine wp_region_quiet_under (by kernel_rfl) (by kernel_rfl) ?_
            repeat (go_big_quiet_step ((fail)))
            refine wpQuiet_nil ?_
            intro wu hw'
            obtain ⟨pq, hw''⟩ := hw'
            have hU := below_eq hw''
            clear hw'' pq
            have hE3 := hE2.keep hU
            clear hE2 hU U0 U1 U2
            obtain ⟨c0, c1, c2, c3, c4, c5, _⟩ := hE3.pl.blk.cells6
            obtain ⟨_, _, _, hv, hnn, _, _, hg1, _, hat⟩ := hE3.pl.at_ (by rw [HL1.out.1]; exact hkn)
            cases hv
            clear hnn
            rw [HL1.out.2] at hat
            have d0 : wu.cell? ⟨g, k * 6, none⟩ = _ := hat 0 _ rfl
            have d1 := hat 1 _ rfl
            have d2 := hat 2 _ rfl
            have d3 := hat 3 _ rfl
            have d4 := hat 4 _ rfl
            have d5 := hat 5 _ rfl
            clear hat
            have PX := Blk.new wu 77 #[.bool M1.up, .bool M1.asked, .int .i64 M1.row, .int .i64 M1.id, .int .i64 M1.next, .int .i64 M1.last]
            have hA := (Below.refl wu.heap.size wu).alloc (Nat.le_refl _) (.cells #[.bool M1.up, .bool M1.asked, .int .i64 M1.row, .int .i64 M1.id, .int .i64 M1.next, .int .i64 M1.last] 77)
            have hE4 := hE3.keep hA
            have hpw := hE3.pl.blk.lt
            go_upto_region 11 with (fail)
            obtain ⟨xb, hxb⟩ : ∃ q, q = wu.heap.size := ⟨_, rfl⟩
            have HXB := Lib.hid hxb
            have HXW := Lib.hid (Nat.le_trans hE3.md.size (Nat.le_of_eq hxb.symm))
            rw [← hxb] at PX ⊢
            have hxg : g ≠ xb := fun e => by omega
            have hpx : pb ≠ xb := fun e => by omega
            have HXNA := Lib.hid (show ∀ q, pIn pb (.slice (some ⟨g, 0, none⟩) n c) q → ¬ q = xb from fun q hq e => by
              have := (hE3.pl.lt hq).2
              omega)
            clear hxb d0 d1 d2 d3 d4 d5 c0 c1 c2 c3 c4 c5 hE3 hA hpw
            generalize wu.alloc (.cells #[.bool M1.up, .bool M1.asked, .int .i64 M1.row, .int .i64 M1.id, .int .i64 M1.next, .int .i64 M1.last] 77) = u1 at *
            obtain ⟨x0, x1, x2, x3, x4, x5, _⟩ := PX.cells6
            obtain ⟨f0, f1, f2, f3, f4, f5⟩ := PX.free6
            obtain ⟨c0, c1, c2, c3, c4, c5, _⟩ := hE4.pl.blk.cells6
            have HB := Lib.hid ((PX.setTo 1 (.bool true) (ds := #[.bool M1.up, .bool true, .int .i64 M1.row, .int .i64 M1.id, .int .i64 M1.next, .int .i64 M1.last]) rfl).setTo 5 (.int .i64 z) (ds := #[.bool M1.up, .bool true, .int .i64 M1.row, .int .i64 M1.id, .int .i64 M1.next, .int .i64 z]) rfl)
            have HM := Lib.hid (((Mod.refl (fun q => q = xb) u1).setCell (p := ⟨xb, 1, none⟩) (.inl (show xb = xb from rfl)) (.bool true)).setCell (p := ⟨xb, 5, none⟩) (.inl (show xb = xb from rfl)) (.int .i64 z))
            have HMV := Lib.hid (show ∀ w2, Mod (fun q => q = xb) u1 w2 → PEnv w w2 B pb (.slice (some ⟨g, 0, none⟩) n c) L1 z r ((L.take k).flatMap (askOut z)) ((L.take (k + 1)).flatMap (missOut r z)) u4 u5 from fun w2 hm =>
              ⟨hE4.pl.mod hm (fun q hq => HXNA.out q hq), mod_young hE4.md hm (fun q e => by rw [e]; exact HXW.out), ownK_mod hE4.oa hm (fun q hq e => rowK_not PX hE4.oa (by decide) (e ▸ hq)), ownK_mod hE4.oc hm (fun q hq e => rowK_not PX hE4.oc (by decide) (e ▸ hq))⟩)
            go_upto_region 13 with (fail)
            have hB := HB.out
            have hE5 := HMV.out _ HM.out
            clear HB HM HMV hE4 PX x0 x1 x2 x3 x4 x5 f0 f1 f2 f3 f4 f5 c0 c1 c2 c3 c4 c5
            generalize (u1.setCell ⟨xb, 1, none⟩ (.bool true)).setCell ⟨xb, 5, none⟩ (.int .i64 z) = u2 at *
            obtain ⟨c0, c1, c2, c3, c4, c5, _⟩ := hE5.pl.blk.cells6
            have U0 := cell_under c5
            have U1 := cell_under c0
            have hadd : IntKind.i64.wrap (z + r.every) = z + r.every := IntWalk.i64_in _ (by omega)
            clear c0 c1 c2 c3 c4 c5
            refine wp_region_under_tail 10 (by kernel_rfl) (by kernel_rfl) ?_
            simp only [List.take_succ_cons, List.take_zero, List.drop_succ_cons, List.drop_zero]
            repeat (go_big_quiet_step ((fail)))
            refine wpQuiet_nil ?_
            intro wu3 hw'
            obtain ⟨pq, hw''⟩ := hw'
            have hU := below_eq hw''
            clear hw'' pq
            have hE6 := hE5.keep hU
            have hB6 := hB.keep hU
            clear U0 U1 hU hE5 hB hadd
            obtain ⟨x0, x1, x2, x3, x4, x5, _⟩ := hB6.cells6
            obtain ⟨f0, f1, f2, f3, f4, f5⟩ := hB6.free6
            have HB := Lib.hid (hB6.setTo 4 (.int .i64 (z + r.every)) (ds := #[.bool M1.up, .bool true, .int .i64 M1.row, .int .i64 M1.id, .int .i64 (z + r.every), .int .i64 z]) rfl)
            have HM := Lib.hid ((Mod.refl (fun q => q = xb) wu3).setCell (p := ⟨xb, 4, none⟩) (.inl (show xb = xb from rfl)) (.int .i64 (z + r.every)))
            have HMV := Lib.hid (show ∀ w2, Mod (fun q => q = xb) wu3 w2 → PEnv w w2 B pb (.slice (some ⟨g, 0, none⟩) n c) L1 z r ((L.take k).flatMap (askOut z)) ((L.take (k + 1)).flatMap (missOut r z)) u4 u5 from fun w2 hm =>
              ⟨hE6.pl.mod hm (fun q hq => HXNA.out q hq), mod_young hE6.md hm (fun q e => by rw [e]; exact HXW.out), ownK_mod hE6.oa hm (fun q hq e => rowK_not hB6 hE6.oa (by decide) (e ▸ hq)), ownK_mod hE6.oc hm (fun q hq e => rowK_not hB6 hE6.oc (by decide) (e ▸ hq))⟩)
            go_upto_region 14 with (fail)
            have hB := HB.out
            have hE7 := HMV.out _ HM.out
            clear HB HM HMV hE6 hB6 x0 x1 x2 x3 x4 x5 f0 f1 f2 f3 f4 f5
            generalize wu3.setCell ⟨xb, 4, none⟩ (.int .i64 (z + r.every)) = u4w at *
            obtain ⟨c0, c1, c2, c3, c4, c5, _⟩ := hE7.pl.blk.cells6
            obtain ⟨x0, x1, x2, x3, x4, x5, _⟩ := hB.cells6
            have U0 := cell_under c4
            have V0 := cell_under x0
            have V1 := cell_under x1
            have V2 := cell_under x2
            have V3 := cell_under x3
            have V4 := cell_under x4
            have V5 := cell_under x5
            clear c0 c1 c2 c3 c4 c5 x0 x1 x2 x3 x4 x5
            refine wp_region_under_tail 6 (by kernel_rfl) (by kernel_rfl) ?_
            simp only [List.take_succ_cons, List.take_zero, List.drop_succ_cons, List.drop_zero]
            repeat (go_big_quiet_step ((fail)))
            refine wpQuiet_nil ?_
            intro wu5 hw'
            obtain ⟨pq, hw''⟩ := hw'
            have hU := below_eq hw''
            clear hw'' pq
            have hE8 := hE7.keep hU
            have hB8 := hB.keep hU
            clear U0 V0 V1 V2 V3 V4 V5 hE7 hU hB
            obtain ⟨_, _, _, hv, hnn, _, _, hg1, _, hat⟩ := hE8.pl.at_ (by rw [HL1.out.1]; exact hkn)
            cases hv
            clear hnn
            have d0 : wu5.cell? ⟨g, k * 6, none⟩ = _ := hat 0 _ rfl
            have d1 := hat 1 _ rfl
            have d2 := hat 2 _ rfl
            have d3 := hat 3 _ rfl
            have d4 := hat 4 _ rfl
            have d5 := hat 5 _ rfl
            have f0 := hE8.pl.free (k * 6)
            have f1 := hE8.pl.free (k * 6 + 1)
            have f2 := hE8.pl.free (k * 6 + 2)
            have f3 := hE8.pl.free (k * 6 + 3)
            have f4 := hE8.pl.free (k * 6 + 4)
            have f5 := hE8.pl.free (k * 6 + 5)
            have HSET := Lib.hid (hE8.pl.set (by rw [HL1.out.1]; exact hkn) ⟨M1.up, true, M1.row, M1.id, z + r.every, z⟩)
            clear hat
            go_upto_region 15 with (fail)
            have hE9 := hE8.step HSET.out.1 HSET.out.2
            have hgx : g ≠ xb := hxg
            have hB9 := hB8.mod (((((((Mod.refl (fun q => q = g) wu5).setCell (p := ⟨g, k * 6, none⟩) (.inl (show g = g from rfl)) (.bool M1.up)).setCell (p := ⟨g, k * 6 + 1, none⟩) (.inl (show g = g from rfl)) (.bool true)).setCell (p := ⟨g, k * 6 + 2, none⟩) (.inl (show g = g from rfl)) (.int .i64 M1.row)).setCell (p := ⟨g, k * 6 + 3, none⟩) (.inl (show g = g from rfl)) (.int .i64 M1.id)).setCell (p := ⟨g, k * 6 + 4, none⟩) (.inl (show g = g from rfl)) (.int .i64 (z + r.every))).setCell (p := ⟨g, k * 6 + 5, none⟩) (.inl (show g = g from rfl)) (.int .i64 z)) (fun e => hxg e.symm)
            unfold six at hE9
            dsimp only at hE9
            clear HSET d0 d1 d2 d3 d4 d5 f0 f1 f2 f3 f4 f5 hE8 hB8
            generalize (((((wu5.setCell ⟨g, k * 6, none⟩ (.bool M1.up)).setCell ⟨g, k * 6 + 1, none⟩ (.bool true)).setCell ⟨g, k * 6 + 2, none⟩ (.int .i64 M1.row)).setCell ⟨g, k * 6 + 3, none⟩ (.int .i64 M1.id)).setCell ⟨g, k * 6 + 4, none⟩ (.int .i64 (z + r.every))).setCell ⟨g, k * 6 + 5, none⟩ (.int .i64 z) = u6 at *
            obtain ⟨x0, x1, x2, x3, x4, x5, _⟩ := hB9.cells6
            have HL2 := Lib.hid (show L1.set k ⟨M1.up, true, M1.row, M1.id, z + r.every, z⟩ = goneOn (tickPh r z) L (k + 1) from by
              rw [HS1.out, ← HSTEP.out, HTP.out, if_pos HB1.out])
            have HA2 := Lib.hid (show (L.take (k + 1)).flatMap (askOut z) = (L.take k).flatMap (askOut z) ++ [M1.id] from by rw [HASK.out, if_pos HB1.out])
            rw [HL2.out] at hE9
            have hws := hE9.md.size
            have hlaa := hla.1
            go_wp2_with (at_builtin; go_loud (refine wpList_append_any _ rfl (.tmp 132) (.tmp 135) _ rfl w.heap.size 3 iI _ 1 8 Try.underlying60 hiI hzI hzI1 hzI2 rfl (by decide) _ ((L.take k).flatMap (askOut z)).length (((L.take k).flatMap (askOut z)).map (Value.int .i64)) rfl (hE9.oa.alloc _) _ (some ⟨u6.heap.size, 0, none⟩) 1 1 [.int .i64 M1.id] rfl (readsK_new u6 3 1 [.int .i64 M1.id] rfl) (by intro u hu; simp at hu; subst hu; rfl) (by simp only [maxLen]; omega) (by omega) (by simp; omega) ?_; intro v6 w6 hown6 hg6 hat6))
            have hown7 : w6.ownsRow w.heap.size 3 1 v6 ((L.take (k + 1)).flatMap (askOut z)).length (((L.take (k + 1)).flatMap (askOut z)).map (Value.int .i64)) := by rw [HA2.out, List.length_append, List.map_append]; exact hown6
            have hE10 := (hE9.keep ((Below.refl u6.heap.size u6).alloc (Nat.le_refl _) (.cells #[.int .i64 M1.id] 3))).growA hg6 hown7
            clear hown6 hg6 hat6 hE9 hown7 hB9 x0 x1 x2 x3 x4 x5 hws hlaa
            go_wp2
            go_roundg (n - (k + 1))
            case measure => omega
            case rel => exact ⟨k + 1, by go_num, by omega, rfl, hE10⟩
          · have e1 : (z == M1.next) = false := by simp [b1]
            have HL2 := Lib.hid (show L1 = goneOn (tickPh r z) L (k + 1) from by
              rw [← HSTEP.out, HTP.out, if_neg b1, ← HS1.out, ← HL1.out.2]
              exact (set_same _ _).symm)
            have HA2 := Lib.hid (show (L.take (k + 1)).flatMap (askOut z) = (L.take k).flatMap (askOut z) from by rw [HASK.out, if_neg b1, List.append_nil])
            clear b1
            refine wp_region_quiet_under (by kernel_rfl) (by kernel_rfl) ?_
            repeat (go_big_quiet_step ((fail)))
            refine wpQuiet_nil ?_
            intro wu hw'
            obtain ⟨pq, hw''⟩ := hw'
            have hU := below_eq hw''
            clear hw'' pq
            have hE3 := hE2.keep hU
            rw [HL2.out, ← HA2.out] at hE3
            clear hE2 hU U0 U1 U2
            go_wp2
            go_roundg (n - (k + 1))
            case measure => omega
            case rel => exact ⟨k + 1, by go_num, by omega, rfl, hE3⟩
    · obtain rfl : k = N := by omega
      obtain ⟨A, c, hv⟩ := ownK_sl hE.pl.row
      rw [goneOn_len, ← HN.out] at hv
      subst hv
      have hge : ¬ (k : Int) < (k : Int) := by omega
      have e1 : goneOn (tickPh r z) L k = L.map (tickPh r z) := by rw [HN.out]; exact goneOn_end _ _
      have e2 : L.take k = L := List.take_of_length_le (by rw [← HN.out]; exact Nat.le_refl _)
      rw [e1, e2] at hE
      have HE2 := Lib.hid hE
      clear e1 e2
      clear hE
      go_wp2
      go_ret2
      exact ⟨_, _, rfl, by rw [← HZ.out]; exact HE2.out⟩
end Go.Proofs.Ytcpfekhpbjkgeaa
end
