/- Lemmas for the claim's proof: HlE RowzDeep. -/
import Derived.Test.YtcpfekhpbjkgeaaQ14
import Derived.Test.YtcpfekhpbjkgeaaQ26
section
/- The law's step. -/
set_option linter.unusedVariables false
namespace Go.Proofs.Ytcpfekhpbjkgeaa
open Go.RowKit Go.Maps
set_option maxHeartbeats 8000000
set_option maxRecDepth 100000
/-- What a step leaves. -/
def StepTo (W : Scene) (w' : World) (s : Bd) (pb : Nat) (L : List Ph) (ids : List Int) (N : Nat) : Prop := ∃ s' v' L', Both W w' s' pb v' L' (N + 1) ∧ OneB s s' ∧ ∀ i ∈ L'.map Ph.id, i ∈ L.map Ph.id ∨ i ∈ ids
theorem StepTo.keep {W : Scene} {w w' : World} {s : Bd} {pb : Nat} {L : List Ph} {ids : List Int} {N : Nat} (h : StepTo W w s pb L ids N) (hx : Below w.heap.size w w') : StepTo W w' s pb L ids N := by
  obtain ⟨s', v', L', h1, h2⟩ := h
  exact ⟨s', v', L', h1.keep hx, h2⟩
theorem sim_uniq {s : Bd} {L : List Ph} (h : Sim s L) {k : Nat} (hk : k < L.length) : ∀ x ∈ L, x.id = (L.getD k default).id → x = L.getD k default := fun x hx e => by
  have h1 := find_mem (rise_nodup h.ids.1) hx
  have h2 := find_mem (rise_nodup h.ids.1) (getD_mem hk)
  rw [e, h2] at h1
  exact (Option.some.inj h1).symm
theorem set_ids (r : Rul) (L : List Ph) (k : Nat) (ok : Bool) : (L.set k (hearPh r (L.getD k default) ok)).map Ph.id = L.map Ph.id := by
  apply List.ext_getElem?
  intro i
  rw [List.getElem?_map, List.getElem?_map, List.getElem?_set]
  split
  · rename_i e
    subst e
    by_cases h : k < L.length
    · rw [if_pos h, List.getD_eq_getElem?_getD, List.getElem?_eq_getElem h]
      simp [(hearPh_same r L[k] ok).1]
    · rw [if_neg h, List.getElem?_eq_none (by omega)]
  · rfl
theorem place_mem {L : List Ph} {i : Int} (h : i ∈ L.map Ph.id) : ∃ k : Nat, placeOf L i = k ∧ k < L.length ∧ (L.getD k default).id = i := by
  unfold placeOf
  cases hc : L.findIdx? (fun x => x.id == i) with
  | none =>
    rw [List.findIdx?_eq_none_iff] at hc
    obtain ⟨x, hx, rfl⟩ := List.mem_map.1 h
    have := hc x hx
    simp at this
  | some k =>
    obtain ⟨hk, h1, h2⟩ := List.findIdx?_eq_some_iff_getElem.1 hc
    refine ⟨k, rfl, hk, ?_⟩
    rw [List.getD_eq_getElem?_getD, List.getElem?_eq_getElem hk]
    simpa using h1
theorem law22_step {W : Scene} {w : World} {s : Bd} {pb : Nat} {v : Value} {L : List Ph} {N : Nat} (h : Both W w s pb v L N) (hN : N ≤ 900) {A : Option Addr} {n c : Nat} {ids : List Int} (hI0 : IsList w .i64 A n c ids) (hA : 0 < n → ∀ ad, A = some ad → ¬ bIn s ad.block ∧ ¬ pIn pb v ad.block) (kd id : Int) (hid : I64 id) (ok : Bool) :
    Calls Try.prog 28 #[.pointer (some ⟨s.bb, 0, none⟩), .pointer (some ⟨pb, 0, none⟩), .agg #[.int .i64 kd, .slice A n c, .int .i64 id, .bool ok]] w fun e w' => e = .returned (.bool true) ∧ StepTo W w' s pb L ids N := by
  have hnow := h.now
  have hf := h.few
  have hn := h.n
  have hnw0 := h.bd.wh.n0
  have hA0 := (Below.refl w.heap.size w).alloc (Nat.le_refl _) (.cells #[.int .i64 kd, .slice A n c, .int .i64 id, .bool ok] 62)
  have PO := Blk.new w 62 #[.int .i64 kd, .slice A n c, .int .i64 id, .bool ok]
  have h1 := h.keep hA0
  have hI := hI0.keep hA0
  have hpo : ∀ g, bIn s g ∨ pIn pb v g → g ≠ w.heap.size := fun g hg e => by
    rcases hg with hg | hg
    · have := (h.bd.lt hg).2; omega
    · have := (h.pl.lt hg).2; omega
  go_enter Try.func28, Try.ntmps28
  go_upto_region 1 with (fail)
  obtain ⟨ob, hob⟩ : ∃ q, q = w.heap.size := ⟨_, rfl⟩
  rw [← hob] at PO hpo ⊢
  clear hob h hA0 hI0
  generalize w.alloc (.cells #[.int .i64 kd, .slice A n c, .int .i64 id, .bool ok] 62) = u at *
  obtain ⟨p0, p1, p2, p3, _⟩ := PO.cells4
  have HH := Lib.hid h1
  have HPO := Lib.hid (And.intro PO hpo)
  by_cases k0 : kd = 0
  · have e0 : (kd == 0) = true := by simp [k0]
    clear k0
    have CF := law22_few hI
    go_wp2_with fail
    refine CF.mono ?_; rintro e w1 ⟨⟨m, rfl, hL1, hm⟩, rfl⟩
    have CS := law22_set h1.pl (by omega) hnw0 (by omega) hL1 (fun hm0 ad e hp => (hA (by
        have := hL1.len
        rw [List.length_take, hI.len] at this
        omega) ad e).2 hp) hm h1.below.size
    go_wp2_with fail
    refine CS.mono ?_; rintro e w2 ⟨rfl, v', L', hP2, hST, hL2⟩
    have hB2 := h1.plain2 hP2
    have PO2 := PO.mod hP2.2.1 (fun hg => hpo ob (.inr hg) rfl)
    have hP2M := hP2.2.1
    clear CS CF hP2 PO p0 p1 p2 p3
    obtain ⟨p0, p1, p2, p3, _⟩ := PO2.cells4
    have hI2 := list_mod hI hP2M (fun h0 ad e => (hA h0 ad e).2)
    have CF := law22_few hI2
    go_wp2_with fail
    refine CF.mono ?_; rintro e w3 ⟨⟨m2, rfl, hL3, hm2⟩, rfl⟩
    have CS := solo_Set hB2.bd HH.out.sim HH.out.rt HH.out.few (by omega) hL3 (fun hm0 ad e hb => (hA (by
        have := hL3.len
        rw [List.length_take, hI.len] at this
        omega) ad e).1 hb) (by omega) (by omega) hST
    go_wp2_with fail
    refine CS.mono ?_; rintro e w4 ⟨rfl, s', hT4, hO4, hS4, hn4, hm4⟩
    have hb4 : Both W w4 s' pb v' L' (N + 1) := BothB.board (s' := s') (by rw [hn4, hO4.2.2.2]; exact hB2) hT4 hS4 (by rw [hO4.2.2.2]; exact HH.out.rt) hL2 (by rw [hn4]; omega) (by omega)
    have HR := Lib.hid (show StepTo W w4 s pb L ids N from ⟨s', v', L', hb4, hO4, fun i hi => .inr (List.mem_of_mem_take ((hST.mem i).1 hi).1)⟩)
    clear CS CF hb4 hT4 hO4 hS4 hB2 hST
    go_wp2
    go_ret
    exact ⟨rfl, HR.out⟩
  · have e0 : (kd == 0) = false := by simp [k0]
    clear k0
    by_cases k12 : kd = 1 ∨ kd = 2
    ·
      have e12 : ((kd == 1) = true) ∨ ((kd == 1) = false ∧ (kd == 2) = true) := by
        rcases k12 with h | h
        · exact .inl (by simp [h])
        · exact .inr ⟨by simp [h], by simp [h]⟩
      clear k12
      rcases e12 with e1 | ⟨e1, e2⟩
      all_goals
        by_cases hm : id ∈ L.map Ph.id
        · obtain ⟨k, hk1, hk2, hk3⟩ := place_mem hm
          have e7 : ¬ (k : Int) < 0 := by omega
          have e8 : decide ((k : Int) < 0) = false := decide_eq_false e7
          have HK2 := Lib.hid hk2
          clear hm
          cases ha : (L.getD k default).asked with
          | false =>
            have CA := solo_AnswerNot h1.bd h1.sim hid (fun x hx e => by rw [sim_uniq h1.sim hk2 x hx (e.trans hk3.symm)]; exact ha) ok
            go_wp2_with fail
            refine CA.mono ?_; rintro e w2 ⟨rfl, hT⟩
            have hA2 := HH.out.toA.board hT
            have PO2 := PO.mod hT.2.1 (fun hg => hpo ob (.inl hg) rfl)
            have CF := law22_find hA2.pl id (by omega)
            rw [hk1] at CF
            clear CA PO p0 p1 p2 p3
            obtain ⟨p0, p1, p2, p3, _⟩ := PO2.cells4
            go_wp2_with fail
            refine CF.mono ?_; rintro e w3 ⟨rfl, rfl⟩
            obtain ⟨g, nn, cc, hv, hnn, _, _, _, _, hat⟩ := hA2.pl.at_ hk2
            subst hv
            have hkn : (k : Int) < (nn : Int) := by omega
            obtain ⟨c0, c1, c2, c3, c4, c5, _⟩ := hA2.pl.blk.cells6
            have d1 := hat 1 _ rfl
            rw [ha] at d1
            clear hnn hat CF ha hk1 hk2 hk3
            have HR := Lib.hid (show StepTo W w2 s pb L ids N from ⟨s, _, L, ((hA2.plain (PlTo.same hA2.pl (Below.refl _ _)) HH.out.sim HH.out.rt HH.out.few HH.out.now HH.out.n).more (Nat.le_succ N)), ⟨rfl, rfl, rfl, rfl⟩, fun i hi => .inl hi⟩)
            clear hA2 hT
            go_wp2
            go_ret
            exact ⟨rfl, HR.out⟩
          | true =>
            have CA := solo_Answer h1.bd h1.sim h1.rt hk2 ha ok
            obtain ⟨T, hT2⟩ : ∃ T, T = turnPh s.r (L.getD k default) ok := ⟨_, rfl⟩
            rw [hk3, ← hT2] at CA
            have HT2 := Lib.hid hT2
            clear hT2
            go_wp2_with fail
            refine CA.mono ?_; rintro e w2 ⟨rfl, s', hT, hO, hS, hn', hm'⟩
            have hA2 := HH.out.toA.board hT
            have PO2 := PO.mod hT.2.1 (fun hg => hpo ob (.inl hg) rfl)
            have CF := law22_find hA2.pl id (by omega)
            rw [hk1] at CF
            clear CA PO p0 p1 p2 p3
            obtain ⟨p0, p1, p2, p3, _⟩ := PO2.cells4
            go_wp2_with fail
            refine CF.mono ?_; rintro e w3 ⟨rfl, rfl⟩
            have CH := law22_hear hA2.pl HH.out.rt hk2 (HH.out.sim.ok _ (getD_mem hk2)).row0 (HH.out.sim.ok _ (getD_mem hk2)).row1 ok
            obtain ⟨g, nn, cc, hv, hnn, _, _, _, _, hat⟩ := hA2.pl.at_ hk2
            subst hv
            have hkn : (k : Int) < (nn : Int) := by omega
            obtain ⟨c0, c1, c2, c3, c4, c5, _⟩ := hA2.pl.blk.cells6
            have d1 := hat 1 _ rfl
            rw [ha] at d1
            have HA2 := Lib.hid hA2
            have HEQ := Lib.hid (And.intro hO (And.intro hS (And.intro hn' hm')))
            rw [← HT2.out] at CH
            clear hnn hat CF ha hk1 hk2 hk3 hA2 hT hO hS hn' hm'
            go_wp2_with fail
            refine CH.mono ?_; rintro e w4 ⟨rfl, hP4, hM4⟩
            have hb4 := HA2.out.plain ⟨by rw [HEQ.out.2.2.1, HEQ.out.1.2.2.2]; exact hP4, hM4, fun g hg => .inl hg⟩ HEQ.out.2.1 (by rw [HEQ.out.1.2.2.2]; exact HH.out.rt) (by rw [List.length_set]; exact hf) (M := N + 1) (by rw [HEQ.out.2.2.1]; omega) (by rw [HEQ.out.2.2.2]; omega)
            have HR := Lib.hid (show StepTo W w4 s pb L ids N from ⟨s', _, _, hb4, HEQ.out.1, fun i hi => .inl (by rw [set_ids] at hi; exact hi)⟩)
            clear CH hP4 hM4 hb4 c0 c1 c2 c3 c4 c5 d1
            go_wp2
            go_ret
            exact ⟨by simp, HR.out⟩
        · have hp : placeOf L id = -1 := place_none (fun x hx e => hm (e ▸ List.mem_map_of_mem hx))
          have CA := solo_AnswerNot h1.bd h1.sim hid (fun x hx e => absurd (e ▸ List.mem_map_of_mem hx) hm) ok
          clear hm
          go_wp2_with fail
          refine CA.mono ?_; rintro e w2 ⟨rfl, hT⟩
          have hA2 := HH.out.toA.board hT
          have PO2 := PO.mod hT.2.1 (fun hg => hpo ob (.inl hg) rfl)
          have CF := law22_find hA2.pl id (by omega)
          rw [hp] at CF
          clear CA PO p0 p1 p2 p3
          obtain ⟨p0, p1, p2, p3, _⟩ := PO2.cells4
          go_wp2_with fail
          refine CF.mono ?_; rintro e w3 ⟨rfl, rfl⟩
          have HR := Lib.hid (show StepTo W w2 s pb L ids N from ⟨s, _, L, ((hA2.plain (PlTo.same hA2.pl (Below.refl _ _)) HH.out.sim HH.out.rt HH.out.few HH.out.now HH.out.n).more (Nat.le_succ N)), ⟨rfl, rfl, rfl, rfl⟩, fun i hi => .inl hi⟩)
          clear hA2 hT CF
          go_wp2
          go_ret
          exact ⟨rfl, HR.out⟩
    · by_cases k6 : kd = 6
      ·
        have e1 : (kd == 1) = false := by simp [k6]
        have e2 : (kd == 2) = false := by simp [k6]
        have e6 : (kd == 6) = true := by simp [k6]
        clear k12 k6
        obtain ⟨F, hF⟩ : ∃ F : Ph → Ph, F = fun x => if x.asked = true then hearPh s.r x ok else x := ⟨_, rfl⟩
        have HF := Lib.hid hF
        obtain ⟨M, hM⟩ : ∃ M, M = L.length := ⟨_, rfl⟩
        have HM := Lib.hid hM
        rw [← hM] at hf
        have h10 : Both W u s pb v (goneOn F L 0) N := by rw [goneOn_zero]; exact h1
        have HIDF := Lib.hid (show ∀ x, (F x).id = x.id from fun x => by
          rw [hF]
          show (if x.asked = true then hearPh s.r x ok else x).id = x.id
          split
          · exact (hearPh_same s.r x ok).1
          · rfl)
        clear hF hM h1
        go_upto_region 15 with (fail)
        go_loopg [10, 11, 12] M (fun gk s10 s11 s12 wr => ∃ (k : Nat) (sk : Bd), s10 = .int .i64 k ∧ k ≤ M ∧ gk = M - k ∧ Both W wr sk pb v (goneOn F L k) N ∧ Hid (OneB s sk) ∧ Blk wr ob 62 #[.int .i64 kd, .slice A n c, .int .i64 id, .bool ok] ∧ Hid (∀ g, bIn sk g ∨ pIn pb v g → g ≠ ob))
        case atStart => exact ⟨0, s, by go_num, Nat.zero_le _, rfl, h10, Lib.hid ⟨rfl, rfl, rfl, rfl⟩, PO, Lib.hid hpo⟩
        case round =>
          clear h10 PO hpo p0 p1 p2 p3
          obtain ⟨k, sk, rfl, hk, rfl, hb, HO, PO, HPB⟩ := hrel
          obtain ⟨p0, p1, p2, p3, _⟩ := PO.cells4
          obtain ⟨c0, c1, c2, c3, c4, c5, _⟩ := hb.pl.blk.cells6
          by_cases hkm : k < M
          · have hkL : k < L.length := by rw [← HM.out]; exact hkm
            have hkG : k < (goneOn F L k).length := by rw [goneOn_len]; exact hkL
            obtain ⟨g, nn, cc, hv, hnn, _, _, _, _, hat⟩ := hb.pl.at_ hkG
            rw [goneOn_len, ← HM.out] at hnn
            subst hnn
            subst hv
            have hkk : (k : Int) < (nn : Int) := by omega
            rw [goneOn_at _ hkL] at hat
            have d1 := hat 1 _ rfl
            have d3 := hat 3 _ rfl
            have HGA := Lib.hid (goneOn_at F hkL)
            have HGS := Lib.hid (goneOn_step F hkL)
            have HKG := Lib.hid hkG
            generalize L.getD k default = x at *
            clear hat hkL hkG
            cases hxa : x.asked with
            | false =>
              rw [hxa] at d1
              have HG1 := Lib.hid (show goneOn F L k = goneOn F L (k + 1) from by
                rw [← HGS.out, HF.out]
                show _ = (goneOn _ L k).set k (if x.asked = true then hearPh s.r x ok else x)
                rw [hxa, if_neg (by simp), ← HF.out, ← HGA.out]
                exact (set_same _ _).symm)
              have hb2 : Both W wr sk pb (.slice (some ⟨g, 0, none⟩) nn cc) (goneOn F L (k + 1)) N := by rw [← HG1.out]; exact hb
              clear hb hxa
              go_wp2_with fail
              go_roundg (nn - (k + 1))
              case measure => omega
              case rel => exact ⟨k + 1, sk, by go_num, by omega, rfl, hb2, HO, PO, HPB⟩
            | true =>
              rw [hxa] at d1
              have HG1 := Lib.hid (show (goneOn F L k).set k (hearPh s.r x ok) = goneOn F L (k + 1) from by
                rw [← HGS.out, HF.out]
                show _ = (goneOn _ L k).set k (if x.asked = true then hearPh s.r x ok else x)
                rw [hxa, if_pos rfl])
              obtain ⟨T, hT⟩ : ∃ T, T = turnPh s.r x ok := ⟨_, rfl⟩
              have HT := Lib.hid hT
              have HCA := Lib.hid (fun (w1 : World) (hb : Both W w1 sk pb (.slice (some ⟨g, 0, none⟩) nn cc) (goneOn F L k) N) => (show Calls Try.prog 32 #[.pointer (some ⟨s.bb, 0, none⟩), .int .i64 x.id, .bool ok] w1 fun e w' => e = .returned (.tuple #[.bool T, .int .i64 0]) ∧ ∃ s', BdTo w1 w' W.heap.size sk s' ∧ OneB sk s' ∧ Sim s' ((goneOn F L k).set k (hearPh s.r x ok)) ∧ s'.now = sk.now ∧ s'.n = sk.n from by
                have := solo_Answer hb.bd hb.sim hb.rt HKG.out (by rw [HGA.out]; exact hxa) ok
                rw [HGA.out, HO.out.1, HO.out.2.2.2, ← hT] at this
                exact this))
              have HCH := Lib.hid (fun (w1 : World) (h : IsPlain w1 W.heap.size pb (.slice (some ⟨g, 0, none⟩) nn cc) (goneOn F L k) sk.now s.r) => (show Calls Try.prog 58 #[.pointer (some ⟨pb, 0, none⟩), .int .i64 k, .bool ok] w1 fun e w' => e = .returned (.bool T) ∧ IsPlain w' W.heap.size pb (.slice (some ⟨g, 0, none⟩) nn cc) ((goneOn F L k).set k (hearPh s.r x ok)) sk.now s.r ∧ Mod (pIn pb (.slice (some ⟨g, 0, none⟩) nn cc)) w1 w' from by
                have hok := hb.sim.ok _ (getD_mem HKG.out)
                have := law22_hear h HH.out.rt HKG.out hok.row0 hok.row1 ok
                rw [HGA.out, ← hT] at this
                exact this))
              clear hT hxa
              go_upto_region 18 with (fail)
              have hb1 := hb.keep ((Below.refl wr.heap.size wr).drew)
              have PO1 := PO.keep ((Below.refl wr.heap.size wr).drew)
              have HN1 := Lib.hid (show ¬ bIn sk pb from fun h => hb.apart _ h (.inl rfl))
              have HN2 := Lib.hid (show ¬ bIn sk g from fun h => hb.apart _ h (.inr rfl))
              have HN3 := Lib.hid (show ¬ bIn sk ob from fun h => HPB.out ob (.inl h) rfl)
              clear hb PO
              refine wp_region_noPanic ?_
              refine wp_region_held_drew (S := (fun w' => w'.cell? ⟨pb, 4, none⟩ = some (.slice (some ⟨g, 0, none⟩) nn cc) ∧ w'.cell? ⟨g, k * 6 + 3, none⟩ = some (.int .i64 x.id) ∧ w'.cell? ⟨ob, 3, none⟩ = some (.bool ok))) (by kernel_rfl) (show wr.drew.cell? ⟨pb, 4, none⟩ = some (.slice (some ⟨g, 0, none⟩) nn cc) ∧ wr.drew.cell? ⟨g, k * 6 + 3, none⟩ = some (.int .i64 x.id) ∧ wr.drew.cell? ⟨ob, 3, none⟩ = some (.bool ok) from ⟨c4, d3, p3⟩) (fun hHeld => ?_)
              refine take_one (i := 0) (oi := ?oi_1) (v := ?v_1) ?hi_1 (by kernel_rfl) (by kernel_rfl) (by kernel_rfl) ?hq_1 ?hw_1 ?hy_1 (by assumption) ?rest_1
              case hi_1 => (simp only [List.getElem?_toArray, List.getElem?_cons_zero]; rfl)
              case hq_1 => exact fun _ _ _ h => h
              case hw_1 => rfl
              case hy_1 => (intro w' hSw; (have q1 := hSw.1; have q2 := hSw.2.1; have q3 := hSw.2.2); go_simp; first | done | with_reducible rfl)
              try simp only [Act.put, List.setIfInBounds_toArray, List.set_cons_zero, List.set_cons_succ]
              refine take_one (i := 1) (oi := ?oi_2) (v := ?v_2) ?hi_2 (by kernel_rfl) (by kernel_rfl) (by kernel_rfl) ?hq_2 ?hw_2 ?hy_2 (by assumption) ?rest_2
              case hi_2 => (simp only [List.getElem?_toArray, List.getElem?_cons_succ, List.getElem?_cons_zero]; rfl)
              case hq_2 => exact fun _ _ _ h => h
              case hw_2 => rfl
              case hy_2 => (intro w' hSw; (have q1 := hSw.1; have q2 := hSw.2.1; have q3 := hSw.2.2); go_simp; first | done | with_reducible rfl)
              try simp only [Act.put, List.setIfInBounds_toArray, List.set_cons_zero, List.set_cons_succ]
              refine take_one (i := 2) (oi := ?oi_3) (v := ?v_3) ?hi_3 (by kernel_rfl) (by kernel_rfl) (by kernel_rfl) ?hq_3 ?hw_3 ?hy_3 (by assumption) ?rest_3
              case hi_3 => (simp only [List.getElem?_toArray, List.getElem?_cons_succ, List.getElem?_cons_zero]; rfl)
              case hq_3 => exact fun _ _ _ h => h
              case hw_3 => rfl
              case hy_3 => (intro w' hSw; (have q1 := hSw.1; have q2 := hSw.2.1; have q3 := hSw.2.2); go_simp; first | done | with_reducible rfl)
              try simp only [Act.put, List.setIfInBounds_toArray, List.set_cons_zero, List.set_cons_succ]
              refine take_one (i := 3) (oi := ?oi_4) (v := ?v_4) ?hi_4 (by kernel_rfl) (by kernel_rfl) (by kernel_rfl) ?hq_4 ?hw_4 ?hy_4 (by assumption) ?rest_4
              case hi_4 => (simp only [List.getElem?_toArray, List.getElem?_cons_succ, List.getElem?_cons_zero]; rfl)
              case hq_4 => exact fun _ _ _ h => h
              case hw_4 => rfl
              case hy_4 => (intro w' hSw; (have q1 := hSw.1; have q2 := hSw.2.1; have q3 := hSw.2.2); go_simp; first | done | with_reducible rfl)
              try simp only [Act.put, List.setIfInBounds_toArray, List.set_cons_zero, List.set_cons_succ]
              refine take_one (i := 4) (oi := ?oi_5) (v := ?v_5) ?hi_5 (by kernel_rfl) (by kernel_rfl) (by kernel_rfl) ?hq_5 ?hw_5 ?hy_5 (by assumption) ?rest_5
              case hi_5 => (simp only [List.getElem?_toArray, List.getElem?_cons_succ, List.getElem?_cons_zero]; rfl)
              case hq_5 => exact fun _ _ _ h => h
              case hw_5 => rfl
              case hy_5 => (intro w' hSw; (have q1 := hSw.1; have q2 := hSw.2.1; have q3 := hSw.2.2); go_simp; first | done | with_reducible rfl)
              try simp only [Act.put, List.setIfInBounds_toArray, List.set_cons_zero, List.set_cons_succ]
              refine take_one (i := 5) (oi := ?oi_6) (v := ?v_6) ?hi_6 (by kernel_rfl) (by kernel_rfl) (by kernel_rfl) ?hq_6 ?hw_6 ?hy_6 (by assumption) ?rest_6
              case hi_6 => (simp only [List.getElem?_toArray, List.getElem?_cons_succ, List.getElem?_cons_zero]; rfl)
              case hq_6 => exact fun _ _ _ h => h
              case hw_6 => rfl
              case hy_6 => (intro w' hSw; (have q1 := hSw.1; have q2 := hSw.2.1; have q3 := hSw.2.2); go_simp; first | done | with_reducible rfl)
              try simp only [Act.put, List.setIfInBounds_toArray, List.set_cons_zero, List.set_cons_succ]
              refine take_one (i := 6) (oi := ?oi_7) (v := ?v_7) ?hi_7 (by kernel_rfl) (by kernel_rfl) (by kernel_rfl) ?hq_7 ?hw_7 ?hy_7 (by assumption) ?rest_7
              case hi_7 => (simp only [List.getElem?_toArray, List.getElem?_cons_succ, List.getElem?_cons_zero]; rfl)
              case hq_7 => exact fun _ _ _ h => h
              case hw_7 => rfl
              case hy_7 => (intro w' hSw; (have q1 := hSw.1; have q2 := hSw.2.1; have q3 := hSw.2.2); go_simp; first | done | with_reducible rfl)
              try simp only [Act.put, List.setIfInBounds_toArray, List.set_cons_zero, List.set_cons_succ]
              refine take_one (i := 7) (oi := ?oi_8) (v := ?v_8) ?hi_8 (by kernel_rfl) (by kernel_rfl) (by kernel_rfl) ?hq_8 ?hw_8 ?hy_8 (by assumption) ?rest_8
              case hi_8 => (simp only [List.getElem?_toArray, List.getElem?_cons_succ, List.getElem?_cons_zero]; rfl)
              case hq_8 => exact fun _ _ _ h => h
              case hw_8 => rfl
              case hy_8 => (intro w' hSw; (have q1 := hSw.1; have q2 := hSw.2.1; have q3 := hSw.2.2); go_simp; first | done | with_reducible rfl)
              try simp only [Act.put, List.setIfInBounds_toArray, List.set_cons_zero, List.set_cons_succ]
              refine take_one (i := 8) (oi := ?oi_9) (v := ?v_9) ?hi_9 (by kernel_rfl) (by kernel_rfl) (by kernel_rfl) ?hq_9 ?hw_9 ?hy_9 (by assumption) ?rest_9
              case hi_9 => (simp only [List.getElem?_toArray, List.getElem?_cons_succ, List.getElem?_cons_zero]; rfl)
              case hq_9 => exact fun _ _ _ h => h
              case hw_9 => rfl
              case hy_9 => (intro w' hSw; (have q1 := hSw.1; have q2 := hSw.2.1; have q3 := hSw.2.2); go_simp; first | done | with_reducible rfl)
              try simp only [Act.put, List.setIfInBounds_toArray, List.set_cons_zero, List.set_cons_succ]
              refine take_one (i := 9) (oi := ?oi_10) (v := ?v_10) ?hi_10 (by kernel_rfl) (by kernel_rfl) (by kernel_rfl) ?hq_10 ?hw_10 ?hy_10 (by assumption) ?rest_10
              case hi_10 => (simp only [List.getElem?_toArray, List.getElem?_cons_succ, List.getElem?_cons_zero]; rfl)
              case hq_10 => exact fun _ _ _ h => h
              case hw_10 => rfl
              case hy_10 => (intro w' hSw; (have q1 := hSw.1; have q2 := hSw.2.1; have q3 := hSw.2.2); go_simp; first | done | with_reducible rfl)
              try simp only [Act.put, List.setIfInBounds_toArray, List.set_cons_zero, List.set_cons_succ]
              refine take_one (i := 10) (oi := ?oi_11) (v := ?v_11) ?hi_11 (by kernel_rfl) (by kernel_rfl) (by kernel_rfl) ?hq_11 ?hw_11 ?hy_11 (by assumption) ?rest_11
              case hi_11 => (simp only [List.getElem?_toArray, List.getElem?_cons_succ, List.getElem?_cons_zero]; rfl)
              case hq_11 => exact fun _ _ _ h => h
              case hw_11 => rfl
              case hy_11 => (intro w' hSw; (have q1 := hSw.1; have q2 := hSw.2.1; have q3 := hSw.2.2); go_simp; first | done | with_reducible rfl)
              try simp only [Act.put, List.setIfInBounds_toArray, List.set_cons_zero, List.set_cons_succ]
              generalize wr.drew = vx0 at *
              refine wpAnyH_ready (rs := [11]) (by kernel_rfl) (by simp) ?_
              refine AllReadyH.cons (i := 11) (o := ?o_12_11) ?h_12_11 (fun K hK => ?_) AllReadyH.nil
              case h_12_11 => (simp only [List.getElem?_toArray, List.getElem?_cons_succ, List.getElem?_cons_zero]; rfl)
              go_simp
              go_at_call 32
              refine (HCA.out _ hb1).mono ?_
              rintro e vx13 ⟨rfl, s2, hT2, hO2, hS2, hn2, hm2⟩
              try dsimp only
              refine hK.out _ _ ⟨cell_mod hHeld.1 hT2.2.1 HN1.out, cell_mod hHeld.2.1 hT2.2.1 HN2.out, cell_mod hHeld.2.2 hT2.2.1 HN3.out⟩ (fun hHeld => ?_)
              clear hK K
              try simp only [Act.put, List.setIfInBounds_toArray, List.set_cons_zero, List.set_cons_succ]
              refine take_one (i := 12) (oi := ?oi_14) (v := ?v_14) ?hi_14 (by kernel_rfl) (by kernel_rfl) (by kernel_rfl) ?hq_14 ?hw_14 ?hy_14 (by assumption) ?rest_14
              case hi_14 => (simp only [List.getElem?_toArray, List.getElem?_cons_succ, List.getElem?_cons_zero]; rfl)
              case hq_14 => exact fun _ _ _ h => h
              case hw_14 => rfl
              case hy_14 => (intro w' hSw; (have q1 := hSw.1; have q2 := hSw.2.1; have q3 := hSw.2.2); go_simp; first | done | with_reducible rfl)
              try simp only [Act.put, List.setIfInBounds_toArray, List.set_cons_zero, List.set_cons_succ]
              refine take_one (i := 13) (oi := ?oi_15) (v := ?v_15) ?hi_15 (by kernel_rfl) (by kernel_rfl) (by kernel_rfl) ?hq_15 ?hw_15 ?hy_15 (by assumption) ?rest_15
              case hi_15 => (simp only [List.getElem?_toArray, List.getElem?_cons_succ, List.getElem?_cons_zero]; rfl)
              case hq_15 => exact fun _ _ _ h => h
              case hw_15 => rfl
              case hy_15 => (intro w' hSw; (have q1 := hSw.1; have q2 := hSw.2.1; have q3 := hSw.2.2); go_simp; first | done | with_reducible rfl)
              try simp only [Act.put, List.setIfInBounds_toArray, List.set_cons_zero, List.set_cons_succ]
              refine take_one (i := 14) (oi := ?oi_16) (v := ?v_16) ?hi_16 (by kernel_rfl) (by kernel_rfl) (by kernel_rfl) ?hq_16 ?hw_16 ?hy_16 (by assumption) ?rest_16
              case hi_16 => (simp only [List.getElem?_toArray, List.getElem?_cons_succ, List.getElem?_cons_zero]; rfl)
              case hq_16 => exact fun _ _ _ h => h
              case hw_16 => rfl
              case hy_16 => (intro w' hSw; (have q1 := hSw.1; have q2 := hSw.2.1; have q3 := hSw.2.2); go_simp; first | done | with_reducible rfl)
              try simp only [Act.put, List.setIfInBounds_toArray, List.set_cons_zero, List.set_cons_succ]
              refine wpAnyH_ready (rs := [15]) (by kernel_rfl) (by simp) ?_
              refine AllReadyH.cons (i := 15) (o := ?o_17_15) ?h_17_15 (fun K hK => ?_) AllReadyH.nil
              case h_17_15 => (simp only [List.getElem?_toArray, List.getElem?_cons_succ, List.getElem?_cons_zero]; rfl)
              go_simp
              refine hK.out _ _ hHeld (fun hHeld => ?_)
              clear hK K
              try simp only [Act.put, List.setIfInBounds_toArray, List.set_cons_zero, List.set_cons_succ]
              refine wpAnyH_ready (rs := [16]) (by kernel_rfl) (by simp) ?_
              refine AllReadyH.cons (i := 16) (o := ?o_19_16) ?h_19_16 (fun K hK => ?_) AllReadyH.nil
              case h_19_16 => (simp only [List.getElem?_toArray, List.getElem?_cons_succ, List.getElem?_cons_zero]; rfl)
              go_simp
              refine hK.out _ _ hHeld (fun hHeld => ?_)
              clear hK K
              try simp only [Act.put, List.setIfInBounds_toArray, List.set_cons_zero, List.set_cons_succ]
              refine wpAnyH_done (by kernel_rfl) (NoPanic.normal ?_) _
              have hA2 := hb1.toA.board hT2
              have PO2 := PO1.mod hT2.2.1 HN3.out
              have HPB2 := Lib.hid (show ∀ q, bIn s2 q ∨ pIn pb (.slice (some ⟨g, 0, none⟩) nn cc) q → q ≠ ob from fun q hq => by
                rcases hq with hq | hq
                · rcases hT2.2.2 q hq with h4 | h4
                  · exact HPB.out q (.inl h4)
                  · have := PO1.lt; omega
                · exact HPB.out q (.inr hq))
              have hskr : sk.r = s.r := HO.out.2.2.2
              have CH := HCH.out _ (by rw [← hskr]; exact hA2.pl)
              have HA2 := Lib.hid hA2
              have HB1 := Lib.hid hb1
              have HEQ := Lib.hid (And.intro hO2 (And.intro hS2 (And.intro hn2 hm2)))
              have hp3 := hHeld.2.2
              have hobn : ob ≠ pb ∧ ob ≠ g := ⟨fun e => HPB.out pb (.inr (.inl rfl)) e.symm, fun e => HPB.out g (.inr (.inr rfl)) e.symm⟩
              clear hA2 hb1 PO1 hT2 hO2 hS2 hn2 hm2 hHeld c0 c1 c2 c3 c4 c5 d1 d3 p0 p1 p2 p3 HCA HCH
              have hp3 : vx13.cell? ⟨ob, 3, none⟩ = some (.bool ok) := hp3
              go_wp2_with fail
              refine CH.mono ?_; rintro e w4 ⟨rfl, hP4, hM4⟩
              have PO4 := PO2.mod hM4 (fun h => by
                rcases h with h | h
                · exact hobn.1 h
                · exact hobn.2 (by injection h with h; exact h.symm))
              have hb4 : Both W w4 s2 pb (.slice (some ⟨g, 0, none⟩) nn cc) (goneOn F L (k + 1)) N := by
                rw [← HG1.out]
                exact HA2.out.plain ⟨by rw [HEQ.out.2.2.1, HEQ.out.1.2.2.2, hskr]; exact hP4, hM4, fun g hg => .inl hg⟩ (by rw [← hskr] at *; exact HEQ.out.2.1) (by rw [HEQ.out.1.2.2.2]; exact HB1.out.rt) (by rw [List.length_set]; exact HB1.out.few) (by rw [HEQ.out.2.2.1]; exact HB1.out.now) (by rw [HEQ.out.2.2.2]; exact HB1.out.n)
              have HO4 := Lib.hid (show OneB s s2 from ⟨HEQ.out.1.1.trans HO.out.1, HEQ.out.1.2.1.trans HO.out.2.1, HEQ.out.1.2.2.1.trans HO.out.2.2.1, HEQ.out.1.2.2.2.trans HO.out.2.2.2⟩)
              clear CH hP4 hM4 PO2 hp3 hskr
              go_wp2_with fail
              go_roundg (nn - (k + 1))
              case measure => omega
              case rel => exact ⟨k + 1, s2, by go_num, by omega, rfl, hb4, HO4, PO4, HPB2⟩
          · obtain rfl : k = M := by omega
            obtain ⟨Av, cv, hv⟩ := ownK_sl hb.pl.row
            rw [goneOn_len, ← HM.out] at hv
            subst hv
            have hge : ¬ (k : Int) < (k : Int) := by omega
            have HR := Lib.hid (show StepTo W wr s pb L ids N from ⟨sk, _, goneOn F L k, hb.more (Nat.le_succ N), HO.out, fun i hi => .inl (by
              unfold goneOn at hi
              rw [List.map_append, List.map_map] at hi
              rw [show (Ph.id ∘ F) = Ph.id from funext HIDF.out, ← List.map_append, List.take_append_drop] at hi
              exact hi)⟩)
            clear hb
            go_wp2
            go_ret
            exact ⟨rfl, HR.out⟩
      · have e1 : (kd == 1) = false := by simp; omega
        have e2 : (kd == 2) = false := by simp; omega
        have e6 : (kd == 6) = false := by simp [k6]
        clear k12 k6
        have CT := law22_ticks h1 (by omega)
        go_wp2_with fail
        refine CT.mono ?_; rintro e w1 ⟨rfl, s', hb, hO, hn'⟩
        have HR := Lib.hid (show StepTo W w1 s pb L ids N from ⟨s', v, _, hb, hO, fun i hi => .inl (by
          rw [List.map_map] at hi
          obtain ⟨x, hx, rfl⟩ := List.mem_map.1 hi
          rw [Function.comp_apply, tickPh_id]
          exact List.mem_map_of_mem hx)⟩)
        clear CT hb hO hn'
        go_wp2
        go_ret
        exact ⟨rfl, HR.out⟩
end Go.Proofs.Ytcpfekhpbjkgeaa
end
section
/- Slices of structs that hold slices, among the arguments. -/
set_option linter.unusedVariables false
namespace Go.Proofs.Ytcpfekhpbjkgeaa
open Go.ChangeShapes Go.WideShapes Go.ChangeAt Go.RowKit Go.Deep
section
variable {H : Type}
def Small (t : TypeId) (d : DataW H) : Prop := (d.weights Try.prog t).all (· ≤ reachBytes) = true
theorem small_at {ts : List TypeId} {ds : List (DataW H)} (h : (DataW.weightsEach Try.prog ts ds).all (· ≤ reachBytes) = true) {j : Nat} {t : TypeId} {d : DataW H} (ht : ts[j]? = some t) (hd : ds[j]? = some d) : Small t d :=
  List.all_eq_true.2 fun n hn => List.all_eq_true.1 h _ (DataW.weights_mem_each ht hd n hn)
theorem weights_all {e : TypeId} {n : Nat} : ∀ {l : List (DataW H)} {d : DataW H}, d ∈ l → n ∈ d.weights Try.prog e → n ∈ DataW.weightsAll Try.prog e l
  | x :: l, d, hd, hn => by
    rw [DataW.weightsAll, List.mem_append]
    rcases List.mem_cons.1 hd with rfl | hd
    · exact .inl hn
    · exact .inr (weights_all hd hn)
theorem small_slice {t e : TypeId} {es sp : List (DataW H)} (ht : Try.prog.underlying t = some (.slice e)) (h : Small t (.slice es sp)) : (es.length + sp.length) * Try.prog.bytesOf e ≤ reachBytes ∧ ∀ d ∈ es, Small e d := by
  unfold Small at h
  rw [DataW.weights, ht] at h
  have h := List.all_eq_true.1 h
  refine ⟨of_decide_eq_true (h _ List.mem_cons_self), fun d hd => List.all_eq_true.2 fun n hn => h n (List.mem_cons_of_mem _ (List.mem_append_left _ (weights_all hd hn)))⟩
theorem small_struct {t : TypeId} {fs : Array Field} {ps : List (DataW H)} (ht : Try.prog.underlying t = some (.struct fs)) (h : Small t (.agg ps)) {j : Nat} {f : Field} {d : DataW H} (hf : fs[j]? = some f) (hd : ps[j]? = some d) : Small f.type d := by
  unfold Small at h
  rw [DataW.weights, ht] at h
  exact small_at h (by rw [List.getElem?_map, Array.getElem?_toList, hf]; rfl) hd
variable {enc : TypeId × Value → H} {W : World} {base : Nat}
/-- What a reading of an argument bears. -/
def Good (W : World) (t : TypeId) (x : DataW H × List MemPlace) : Prop := (∀ q ∈ x.2, q.block < W.heap.size) ∧ Small t x.1
set_option maxRecDepth 100000 in
theorem open_rowsD {α : Type} {C : Shape α} (E : α → Prop) {t e : TypeId} (hT : ∀ (fuel : Nat) (cs : List Value) (x : DataW H × List MemPlace), DataW.trod enc Try.prog W base (fun _ => true) true fuel e cs = some x → Good W e x → ∃ y : α, cs = C.cells y ∧ C.Wf y ∧ E y) (hc : Try.prog.cellsOf e = C.size)
    (ht : Try.prog.underlying t = some (.slice e)) (hby : 16 ≤ Try.prog.bytesOf e) {fuel : Nat} {cs : List Value} {x : DataW H × List MemPlace}
    (hf : DataW.trod enc Try.prog W base (fun _ => true) true fuel t cs = some x) (hg : Good W t x) :
    ∃ (A : Option Addr) (n c : Nat) (l : List α), cs = [.slice A n c] ∧ IsRow C W A n c l ∧ ∀ y ∈ l, E y := by
  rcases open_slice ht hf with ⟨hcs, hx⟩ | ⟨a, len, cap, m, n, D, Pl, hcs, _, hl, hm, hmm, hx, hi⟩
  · exact ⟨none, 0, 0, [], hcs, isRow_nil C W, fun y hy => by cases hy⟩
  · simp only [if_true] at hmm
    subst hmm
    rw [hc] at hx hi
    obtain ⟨x1, x2⟩ := x
    simp only [Prod.mk.injEq] at hx
    obtain ⟨rfl, rfl⟩ := hx
    obtain ⟨hlt, hsm⟩ := hg
    obtain ⟨hs, hse⟩ := small_slice ht hsm
    have hat : ∀ i, i < len → ∃ y : α, (C.Wf y ∧ E y) ∧ ∀ j, j < C.size → W.cell? (a.add (i * C.size + j)) = (C.cells y)[j]? := by
      intro i him
      obtain ⟨cs', hc2, ht'⟩ := hi i (by omega)
      obtain ⟨y, rfl, hw, he⟩ := hT _ _ _ ht' ⟨fun q hq => hlt q (List.mem_append_right _ (List.mem_flatMap.2 ⟨i, List.mem_range.2 (by omega), hq⟩)), hse _ (List.mem_map.2 ⟨i, List.mem_range.2 him, rfl⟩)⟩
      obtain ⟨_, hcl, hcat⟩ := World.cells?_some hc2
      exact ⟨y, ⟨hw, he⟩, fun j hj => by rw [← add_of_add]; exact hcat j hj⟩
    obtain ⟨l, hll, hcl⟩ : ∃ l : List α, l.length = len ∧ ∀ i q, l[i]? = some q → (C.Wf q ∧ E q) ∧ ∀ j, j < C.size → W.cell? (a.add (i * C.size + j)) = (C.cells q)[j]? := by
      refine ⟨(List.range len).map fun i => if hi : i < len then (hat i hi).choose else C.z, by simp, fun i q hq => ?_⟩
      rw [List.getElem?_map] at hq
      obtain ⟨j, hj, rfl⟩ := Option.map_eq_some_iff.1 hq
      have hlen : i < len := by
        rcases Nat.lt_or_ge i len with h1 | h1
        · exact h1
        · rw [List.getElem?_eq_none (by simpa using h1)] at hj; cases hj
      rw [List.getElem?_range hlen] at hj
      obtain rfl := Option.some.inj hj
      rw [dif_pos hlen]
      exact (hat i hlen).choose_spec
    refine ⟨some a, len, m, l, hcs, ⟨⟨by rw [C.flat_len, hll], fun hn => ⟨a, rfl, ?_, fun j u hu => ?_⟩⟩, hll, hl, (by unfold maxLen at hm; omega), ?_, fun q hq => ?_⟩, fun q hq => ?_⟩
    · have hp := C.pos
      have h0 : 0 < m * C.size := Nat.mul_pos (by omega) hp
      have := hlt (MemPlace.cell a.block a.off) (by
        refine List.mem_append_left _ ?_
        unfold MemPlace.row
        refine List.mem_map.2 ⟨0, List.mem_range.2 h0, ?_⟩
        simp)
      exact this
    · obtain ⟨e, hj⟩ := C.split j
      rw [e, C.flat_at _ _ _ hj] at hu
      obtain ⟨q, hq, hu⟩ := Option.bind_eq_some_iff.1 hu
      rw [e, (hcl _ q hq).2 _ hj]
      exact hu
    · simp only [List.length_map, List.length_range, reachBytes] at hs
      have h2 : (len + (m - len)) * 16 ≤ (len + (m - len)) * Try.prog.bytesOf e := Nat.mul_le_mul_left _ hby
      omega
    · obtain ⟨i, hi⟩ := List.mem_iff_getElem?.1 hq
      exact (hcl i q hi).1.1
    · obtain ⟨i, hi⟩ := List.mem_iff_getElem?.1 hq
      exact (hcl i q hi).1.2
set_option maxRecDepth 100000 in
/-- A slice whose elements are not looked at: its length, and its bound. -/
theorem open_sliceN {t e : TypeId} (ht : Try.prog.underlying t = some (.slice e)) (hby : 1 ≤ Try.prog.bytesOf e) {fuel : Nat} {cs : List Value} {x : DataW H × List MemPlace}
    (hf : DataW.trod enc Try.prog W base (fun _ => true) true fuel t cs = some x) (hg : Good W t x) : ∃ (A : Option Addr) (n c : Nat), cs = [.slice A n c] ∧ n ≤ c ∧ n ≤ 140737488355328 ∧ c ≤ 9223372036854775807 := by
  rcases open_slice ht hf with ⟨hcs, hx⟩ | ⟨a, len, cap, m, n, D, Pl, hcs, _, hl, hm, hmm, hx, hi⟩
  · exact ⟨none, 0, 0, hcs, Nat.le_refl _, by omega, by omega⟩
  · obtain ⟨x1, x2⟩ := x
    simp only [Prod.mk.injEq] at hx
    obtain ⟨rfl, rfl⟩ := hx
    obtain ⟨hs, _⟩ := small_slice ht hg.2
    simp only [List.length_map, List.length_range, reachBytes] at hs
    have h2 := Nat.mul_le_mul_left (len + (m - len)) hby
    refine ⟨some a, len, cap, hcs, hl, by omega, by unfold maxLen at hm; omega⟩
set_option maxRecDepth 100000 in
theorem open_rowsDV {α : Type} {C : Shape α} {E : α → Prop} {r : Reach} {b0 : Nat} {t e : TypeId} {v : Value} {d : DataW H} {p : List MemPlace}
    (hT : ∀ (fuel : Nat) (cs : List Value) (x : DataW H × List MemPlace), DataW.trod enc Try.prog W base (fun _ => true) true fuel e cs = some x → Good W e x → ∃ y : α, cs = C.cells y ∧ C.Wf y ∧ E y) (hc : Try.prog.cellsOf e = C.size)
    (ht : Try.prog.underlying t = some (.slice e)) (hby : 16 ≤ Try.prog.bytesOf e)
    (hv : Value.okWide Try.prog W r b0 t v) (h : DataW.Trod enc Try.prog W base (fun _ => true) true t v d p) (hlt : ∀ x ∈ p, x.block < W.heap.size) (hs : Small t d) :
    ∃ (A : Option Addr) (n c : Nat) (l : List α), v = .slice A n c ∧ IsRow C W A n c l ∧ ∀ y ∈ l, E y := by
  obtain ⟨a0, len, cap, rfl⟩ := okWide_slice ht hv
  obtain ⟨fuel, hf⟩ := h
  obtain ⟨A, n, c, l, hcs, hr⟩ := open_rowsD E hT hc ht hby hf ⟨hlt, hs⟩
  simp [Value.cells] at hcs
  obtain ⟨rfl, rfl, rfl⟩ := hcs
  exact ⟨_, _, _, l, rfl, hr⟩
end
end Go.Proofs.Ytcpfekhpbjkgeaa
end
