/- Lemmas for the claim's proof: HealthO HealthP HealthQ HealthPl1. -/
import Derived.Test.YtcpfekhpbjkgeaaQ17
section
/- A board's Set. -/
set_option linter.unusedVariables false
namespace Go.Proofs.Ytcpfekhpbjkgeaa
open Go.RowKit Go.Maps
set_option maxHeartbeats 8000000
set_option maxRecDepth 100000
theorem board_Set {w : World} {B : Nat} {s : Bd} (hB : IsBoard w B s) {A : Option Addr} {n c : Nat} {ids : List Int} (hl : IsList w .i64 A n c ids) (hA : 0 < n → ∀ ad, A = some ad → ¬ bIn s ad.block)
    (hn : s.n + n ≤ 1000000) (hll : s.l.length + n ≤ 4000) :
    Calls Try.prog 30 #[.pointer (some ⟨s.bb, 0, none⟩), .slice A n c] w fun e w' => e = .returned (.int .i64 0) ∧ SetDone w w' B s ids n := by
  have CN := board_none hB
  obtain ⟨c0, c1, c2, c3, c4, c5, _⟩ := hB.blk.cells6
  have hmap := hB.map
  have HB := Lib.hid hB
  have HLN := Lib.hid hl.len
  have hcap := hl.cap
  have hsm := hl.small
  have HMEM := Lib.hid (show ∀ y, (ptrF s.G y).isSome = (s.G y).isSome from fun y => by unfold ptrF; simp)
  go_enter Try.func30, Try.ntmps30
  go_wp2_with fail
  refine CN.mono ?_; rintro e w1 ⟨rfl, rfl⟩
  clear CN
  go_wp2_with (at_range; go_loud (refine wpList_range_i _ rfl _ 81 rfl 3 123 .i64 Try.underlying3 Try.underlying81 s.mb s.n (ptrF s.G) rfl hmap ?_; intro w0 cnt hrg0 hg0 hs0 hcn))
  go_frame
  have hW0 := belowK_grown (Below.refl w.heap.size w) (Nat.le_refl _) hg0 (fun g hg => by cases hg)
  have hT0 := BdTo.same hB hW0
  obtain ⟨rb, hrb⟩ : ∃ q, q = w.heap.size := ⟨_, rfl⟩
  have HRB := Lib.hid hrb
  rw [← hrb] at hrg0 ⊢
  clear hs0 hg0 hmap hrb hcn c0 c1 c2 c3 c4 c5 hW0
  have HMET := Lib.hid (come_start (fun x => (ptrF s.G x).isSome))
  have HMEM2 := Lib.hid (show ∀ y, (fun x => (ptrF s.G x).isSome) y = (s.G y).isSome from HMEM.out)
  generalize hmem : (fun x => (ptrF s.G x).isSome) = mem at *
  clear hmem
  go_loopg [5] cnt (fun gk s5 wr => ∃ (left : Int → Bool) (ks : List Int) (ct : Nat) (V' : Nat → Value), gk = ct ∧ IRange Try.prog 3 .i64 wr s.mb rb s.n (ptrF (cutAll s.G (goneL ids ks))) left ct ∧ Hid (Come mem left ks) ∧ BdTo w wr B s (s.sub V' (goneL ids ks)))
  case atStart => exact ⟨mem, [], cnt, s.V, rfl, by show IRange _ _ _ _ _ _ _ (ptrF (cutAll s.G [])) _ _; rw [cutAll_nil]; exact hrg0, HMET, by show BdTo _ _ _ _ (s.sub s.V []); rw [sub_nil]; exact hT0⟩
  case round =>
    clear hrg0 hT0 HMET
    obtain ⟨left, ks, ct, V', hgk, hrg, HMET, hT⟩ := hrel
    subst hgk
    have hV : ∀ x v, ptrF (cutAll s.G (goneL ids ks)) x = some v → ∃ c : Nat, v = Value.pointer (some ⟨c, 0, none⟩) := fun x v hx => by
      unfold ptrF at hx
      obtain ⟨h, _, rfl⟩ := Option.map_eq_some_iff.1 hx
      exact ⟨h.b, rfl⟩
    go_wp2_with (at_next; go_loud (refine wpList_next_i _ rfl _ rfl 3 .i64 Try.underlying3 (fun c : Nat => Value.pointer (some ⟨c, 0, none⟩)) s.mb rb s.n _ hV left gk rfl hrg ?_ ?_))
    · intro hl0
      have HK := Lib.hid (show ∀ i, i ∈ ks ↔ (s.G i).isSome = true from fun i => ⟨fun hh => by rw [← HMEM2.out]; exact HMET.out.sub i hh, fun hh => HMET.out.all hl0 (by rw [HMEM2.out]; exact hh)⟩)
      have HND := Lib.hid HMET.out.nodup
      have HQL := Lib.hid (rmvL_fold s.l (goneL ids ks))
      obtain ⟨q0, hq0⟩ : ∃ q0, q0 = (viewG (cutAll s.G (goneL ids ks)), (goneL ids ks).foldl rmvL s.l) := ⟨_, rfl⟩
      have HQ0 := Lib.hid hq0
      have HQL : Hid (q0.2.length ≤ s.l.length) := by rw [hq0]; exact HQL
      have HS0 : Hid ((viewG (s.sub V' (goneL ids ks)).G, (s.sub V' (goneL ids ks)).l) = q0) := Lib.hid (by rw [hq0]; rfl)
      clear hq0 hrg hV HMET hl0
      obtain ⟨wo, hwo⟩ : ∃ wo, wo = wr := ⟨_, rfl⟩
      subst hwo
      go_upto_region 11 with (fail)
      go_loopg [7, 44] n (fun gk s7 s44 wr => ∃ (k : Nat) (s2 : Bd), s44 = .int .i64 k ∧ k ≤ n ∧ gk = n - k ∧ BdTo w wr B s s2 ∧ Hid (OneB s s2) ∧ Hid (s2.now = s.now) ∧ Hid (s2.n ≤ s.n + k) ∧ Hid ((viewG s2.G, s2.l) = (ids.take k).foldl (addV s.now) q0))
      case atStart => exact ⟨0, s.sub V' (goneL ids ks), by go_num, Nat.zero_le _, rfl, hT, Lib.hid ⟨rfl, rfl, rfl, rfl⟩, Lib.hid rfl, Lib.hid (Nat.le_refl _), HS0⟩
      case round =>
        clear hT HS0
        obtain ⟨k, s2, rfl, hk, rfl, hT, HO, HNOW, HN, HV⟩ := hrel
        by_cases hkn : k < n
        · have hkk : (k : Int) < (n : Int) := by omega
          have hx1 := HB.out.below (Nat.le_refl _) hT.2.1
          obtain ⟨ad, hAd, d0, hy⟩ := listH_at (list_mod hl hT.2.1 hA) hkn
          have HT := Lib.hid (show (ids.take (k + 1)).foldl (addV s.now) q0 = addV s.now ((ids.take k).foldl (addV s.now) q0) (ids.getD k 0) by rw [takeI_next (by rw [HLN.out]; exact hkn), List.foldl_append]; rfl)
          have HLEN := Lib.hid (show ((ids.take k).foldl (addV s.now) q0).2.length < 4096 from by
            have h1 := addV_fold s.now (ids.take k) q0
            have h2 := HQL.out
            rw [List.length_take] at h1
            omega)
          generalize ids.getD k 0 = y at *
          have HN1 := Lib.hid (show s2.n ≤ s.n + (k + 1) from Nat.le_succ_of_le HN.out)
          obtain ⟨o1, o2, o3, o4⟩ := HO.out
          have HA1 := hT.1.blk.cells6
          rw [o1, o2, o3] at HA1
          obtain ⟨c0, c1, c2, c3, c4, c5, _⟩ := HA1
          subst hAd
          by_cases hy0 : y < 0
          · have e1 : decide (y < 0) = true := decide_eq_true hy0
            have HV1 := Lib.hid (HV.out.trans ((addV_skip (.inl hy0)).symm.trans HT.out.symm))
            clear hy0
            go_wp2
            go_roundg (n - (k + 1))
            case measure => omega
            case rel => exact ⟨k + 1, s2, by go_num, by omega, rfl, hT, HO, HNOW, HN1, HV1⟩
          · have e1 : decide (y < 0) = false := decide_eq_false hy0
            by_cases hy1 : y > 1048576
            · have e2 : decide (y > 1048576) = true := decide_eq_true hy1
              have e3 : decide (1048576 < y) = true := e2
              have HV1 := Lib.hid (HV.out.trans ((addV_skip (.inr (.inl hy1))).symm.trans HT.out.symm))
              clear hy1 hy0
              go_wp2
              go_roundg (n - (k + 1))
              case measure => omega
              case rel => exact ⟨k + 1, s2, by go_num, by omega, rfl, hT, HO, HNOW, HN1, HV1⟩
            · have e2 : decide (y > 1048576) = false := decide_eq_false hy1
              have e3 : decide (1048576 < y) = false := e2
              have hwl : (Lit.int .i64 y).wf = true := by unfold I64 at hy; exact WalkArith.wf_i64 hy
              have hmap := hT.1.map
              rw [o3] at hmap
              have hlk := ptr_look s2.G y
              have hrun := hmap.look (t := 81) Try.underlying3 Try.underlying81 (Try.zeroValue123 _) hwl
              rw [hlk] at hrun
              have hq1 := fun m w => neq_ptr_nil m w
              cases hg : s2.G y with
              | some h =>
                rw [hg] at hrun
                dsimp only [hPtr] at hrun
                have HV1 := Lib.hid (HV.out.trans ((addV_skip (.inr (.inr (by rw [← HV.out]; show (viewG s2.G y).isSome = true; rw [view_some, hg]; rfl)))).symm.trans HT.out.symm))
                clear hy1 hy0 hlk hg hmap
                go_wp2
                go_roundg (n - (k + 1))
                case measure => omega
                case rel => exact ⟨k + 1, s2, by go_num, by omega, rfl, hT, HO, HNOW, HN1, HV1⟩
              | none =>
                rw [hg] at hrun
                dsimp only at hrun
                have HY := Lib.hid (show 0 ≤ y ∧ y ≤ 1048576 by omega)
                have hid : IdOk y := by unfold IdOk; omega
                have HGN := Lib.hid hg
                have hB2 := hT.1
                have hnM : s2.n < maxLen := by have := HN.out; unfold maxLen; omega
                have hA0 := (Below.refl wr.heap.size wr).alloc (Nat.le_refl _) (.cells #[.bool false, .bool false, .int .i64 0] 72)
                have hm2 := hmap.keep hA0
                clear hy1 hy0 hlk hg
                go_wp2_with (at_mapUpdate; go_loud (refine wpList_put_i _ rfl _ _ _ 81 rfl 3 123 .i64 Try.underlying3 Try.underlying81 s.mb s2.n (ptrF s2.G) rfl hm2 hnM y (.pointer (some ⟨wr.heap.size, 0, none⟩)) rfl rfl hwl ?_; intro w6 hMap6 hturn6))
                go_upto_region 15 with (fail)
                go_frame
                have hAdd := hB2.add (w1 := w6) HY.out (by have := hx1.size; have := HB.out.lowb; have := HB.out.blk.lt; omega) HGN.out (o3.symm ▸ hMap6) (o3.symm ▸ hturn6)
                have hT6 := hT.trans hAdd
                have hB6 := hT6.1
                have HVA := Lib.hid (addV_add HY.out.1 HY.out.2 HGN.out wr.heap.size s.now)
                obtain ⟨s3, hs3⟩ : ∃ s3, s3 = s2.add y wr.heap.size := ⟨_, rfl⟩
                have HV3 := Lib.hid (show addV s.now ((ids.take k).foldl (addV s.now) q0) y = (viewG s3.G, addL s.now s3.l ⟨s.now + 1, 2 * y + 1⟩) by rw [← HV.out, HVA.out, hs3]; rfl)
                have HL3 := Lib.hid (show s3.l.length < 4096 by
                  have h1 := HLEN.out
                  rw [← HV.out] at h1
                  rw [hs3]
                  exact h1)
                have p1 : s3.bb = s.bb := by rw [hs3]; exact o1
                have p2 : s3.wb = s.wb := by rw [hs3]; exact o2
                have p3 : s3.mb = s.mb := by rw [hs3]; exact o3
                have p4 : s3.r = s.r := by rw [hs3]; exact o4
                have p5 : s3.now = s.now := by rw [hs3]; exact HNOW.out
                have HN3 := Lib.hid (show s3.n ≤ s.n + (k + 1) by rw [hs3]; have := HN.out; show s2.n + 1 ≤ _; omega)
                rw [← hs3] at hT6 hB6
                clear hs3 hAdd hMap6 hturn6 hm2 hA0 hmap hrun hT hB2 HVA hx1 d0 c0 c1 c2 c3 c4 c5 hq1 o1 o2 o3 o4 HNOW HN HN1 HLEN HO HV
                have HA1 := hB6.blk.cells6
                rw [p1, p2, p3] at HA1
                obtain ⟨c0, c1, c2, c3, c4, c5, _⟩ := HA1
                have n0 := hB6.wh.n0
                have n1 := hB6.wh.n1
                rw [p5] at n0 n1
                have hadd : IntKind.i64.wrap (s.now + 1) = s.now + 1 := IntWalk.i64_in _ (by omega)
                have U0 := cell_under c0
                have CAsk := fun w => health_ask y hid w
                have CNow : ∀ {w : World}, IsBoard w B s3 → Calls Try.prog 14 #[.pointer (some ⟨s.wb, 0, none⟩)] w fun e w' => e = .returned (.int .i64 s.now) ∧ w = w' := fun h => by
                  have := wheel_Now h.wh
                  rw [p2, p5] at this
                  exact this
                refine wp_region_under_tail 13 (by kernel_rfl) (by kernel_rfl) ?_
                simp only [List.take_succ_cons, List.take_zero, List.drop_succ_cons, List.drop_zero]
                repeat (go_big_quiet_step ((first | (go_at_call 61; exact calls_under_same (CAsk _)) | (go_at_call 14; exact calls_under_same (CNow (hB6.keep (under_below _ _)))))))
                refine wpQuiet_nil ?_
                intro wu hw'
                obtain ⟨pq, hw''⟩ := hw'
                have hU := below_eq hw''
                clear hw'' pq
                have hT7 := BdTo.same hB6 hU
                have hB7 := hB6.keep hU
                have CD := wheel_Add hB7.wh ⟨s.now + 1, 2 * y + 1⟩ (by show I64 (s.now + 1) ∧ I64 (2 * y + 1); have := HY.out; unfold I64; omega) HL3.out
                rw [p2, p5] at CD
                dsimp only at CD
                clear U0 CNow CAsk c0 c1 c2 c3 c4 c5 n0 n1 hadd
                go_wp2_with fail
                refine CD.mono ?_; rintro e w7 ⟨rfl, hWT⟩
                rw [← p2] at hWT
                obtain ⟨V7, hT8⟩ := hB7.wheel hWT
                have hT9 := hT6.trans (hT7.trans hT8)
                clear CD hWT hT8 hT7 hB7 hB6 hT6 hU
                go_wp2
                go_roundg (n - (k + 1))
                case measure => omega
                case rel => exact ⟨k + 1, _, by go_num, by omega, rfl, hT9, Lib.hid ⟨p1, p2, p3, p4⟩, Lib.hid rfl, HN3, Lib.hid (by rw [HT.out, HV3.out]; rfl)⟩
        · obtain rfl : k = n := by omega
          have hge : ¬ (k : Int) < (k : Int) := by omega
          have HV2 := Lib.hid (show (viewG s2.G, s2.l) = ids.foldl (addV s.now) (viewG (cutAll s.G (goneL ids ks)), (goneL ids ks).foldl rmvL s.l) by
            have h1 := HV.out
            rw [List.take_of_length_le (by rw [HLN.out]; exact Nat.le_refl _), HQ0.out] at h1
            exact h1)
          have HTT := Lib.hid hT
          clear hT
          go_wp2
          go_ret
          exact ⟨rfl, s2, ks, HTT.out, HO.out, HNOW.out, HN.out, HK.out, HND.out, HV2.out⟩
    · intro x cc w1 cnt1 hlx hfx hwx hrg1 hlt hg1 hs1 hen
      have HMET1 := Lib.hid (HMET.out.step hlx)
      have hni : ¬ bIn (s.sub V' (goneL ids ks)) rb := bd_notiter (s := s.sub V' (goneL ids ks)) hT.1 hrg
      have hmb : w1.heap[s.mb]? = wr.heap[s.mb]? := (modK_grown (D := fun g => g = rb) hg1 (fun g e => by cases e; rfl)).block s.mb hT.1.map.lt (fun e => hrg.ne e.symm)
      have hT1 := bd_fresh hT hg1 (by rw [HRB.out]; exact Nat.le_refl _) hni hmb
      have hB1 := hT1.1
      have hx1 := HB.out.below (Nat.le_refl _) hT1.2.1
      have hl1 : IsList w1 .i64 A n c ids := list_mod hl hT1.2.1 hA
      have CC := contains_H hl1 x
      have hxm : 0 ≤ x ∧ x ≤ 1048576 := by
        have h1 := HMET.out.left_eq x
        rw [hlx] at h1
        have h2 := h1.symm
        rw [Bool.and_eq_true, HMEM2.out] at h2
        obtain ⟨h, hh⟩ := Option.isSome_iff_exists.1 h2.1
        exact HB.out.keys x h hh
      have HA1 := hB1.blk.cells6
      dsimp only [Bd.sub] at HA1
      obtain ⟨c0, c1, c2, c3, c4, c5, _⟩ := HA1
      clear hlx hg1 hs1 hfx hni hmb hT hrg HMET hV
      cases hcx : ids.contains x with
      | true =>
        rw [hcx] at CC
        have HG := Lib.hid (goneL_in (ks := ks) hcx)
        clear hcx
        go_wp2_with fail
        refine CC.mono ?_; rintro e w2 ⟨rfl, rfl⟩
        clear CC
        go_wp2
        go_roundg cnt1
        case measure => omega
        case rel => exact ⟨_, ks ++ [x], cnt1, V', rfl, by rw [HG.out]; exact hrg1, HMET1, by rw [HG.out]; exact hT1⟩
      | false =>
        rw [hcx] at CC
        have HG := Lib.hid (goneL_out (ks := ks) hcx)
        clear hcx
        have HWX := Lib.hid hxm
        have hid : IdOk x := by unfold IdOk; omega
        clear hxm
        go_wp2_with fail
        refine CC.mono ?_; rintro e w2 ⟨rfl, rfl⟩
        clear CC
        obtain ⟨w3, cnt2, hdr, hrg2, hlt2, hmt⟩ := hrg1.drop (t := 81) (e := 123) Try.underlying3 Try.underlying81 hwx 0
        go_upto_region 8 with (fail)
        have hC := hB1.cut hrg2.map hmt
        have hT2 := hT1.trans hC
        have hB2 := hT2.1
        have HIR := Lib.hid (show IRange Try.prog 3 .i64 w3 s.mb rb s.n (ptrF (cutAll s.G (goneL ids ks ++ [x]))) (fun y => left y && y != x) cnt2 from by
          rw [cutAll_snoc, ptrF_cut]
          have e : (fun y => (fun y => left y && y != x) y && y != x) = fun y => left y && y != x := by funext y; simp [Bool.and_assoc]
          rw [e] at hrg2
          exact hrg2)
        have HLL := Lib.hid (show ((s.sub V' (goneL ids ks)).cut x).l.length < 4096 from by
          have h1 := rmvL_fold s.l (goneL ids ks)
          show ((goneL ids ks).foldl rmvL s.l).length < 4096
          omega)
        have HA1 := hB2.blk.cells6
        dsimp only [Bd.sub, Bd.cut] at HA1
        clear c0 c1 c2 c3 c4 c5
        obtain ⟨c0, c1, c2, c3, c4, c5, _⟩ := HA1
        clear hrg2 hmt hrg1 hC hT1 hB1 hx1 hl1
        obtain ⟨s1, hs1⟩ : ∃ s1, s1 = (s.sub V' (goneL ids ks)).cut x := ⟨_, rfl⟩
        have HS1 := Lib.hid hs1
        have hw1 : s1.wb = s.wb := by rw [hs1]; rfl
        have hm1 : s1.mb = s.mb := by rw [hs1]; rfl
        rw [← hs1] at hT2 hB2 HLL
        clear hs1
        have U0 := cell_under c0
        have CAsk := fun w => health_ask x hid w
        refine wp_region_under_tail 6 (by kernel_rfl) (by kernel_rfl) ?_
        simp only [List.take_succ_cons, List.take_zero, List.drop_succ_cons, List.drop_zero]
        repeat (go_big_quiet_step (((go_at_call 61; exact calls_under_same (CAsk _)))))
        refine wpQuiet_nil ?_
        intro wu hw'
        obtain ⟨pq, hw''⟩ := hw'
        have hU := below_eq hw''
        clear hw'' pq
        have hT3 := BdTo.same hB2 hU
        have hB3 := hB2.keep hU
        have hI3 := (hm1 ▸ HIR.out : IRange Try.prog 3 .i64 w3 s1.mb rb s.n (ptrF (cutAll s.G (goneL ids ks ++ [x]))) (fun y => left y && y != x) cnt2).keep hU
        have CK := wheel_Cancel hB3.wh (2 * x + 1) HLL.out
        rw [hw1] at CK
        clear c0 c1 c2 c3 c4 c5 U0 HIR
        go_wp2_with fail
        refine CK.mono ?_; rintro e w4 ⟨rfl, hWT⟩
        rw [← hw1] at hWT
        have hI4 := iter_wheel hB3 hI3 hWT
        obtain ⟨V4, hT4⟩ := hB3.wheel hWT
        have hT5 := hT2.trans (hT3.trans hT4)
        have hB4 := hT4.1
        have HLL2 := Lib.hid (show (s1.wheel V4 (s1.l.filter fun y => y.id != 2 * x + 1) s1.now).l.length < 4096 from Nat.lt_of_le_of_lt (List.length_filter_le _ _) HLL.out)
        have HA1 := hB4.blk.cells6
        dsimp only [Bd.wheel] at HA1
        have hbb : s1.bb = s.bb := by rw [HS1.out]; rfl
        rw [hbb, hw1, hm1] at HA1
        obtain ⟨c0, c1, c2, c3, c4, c5, _⟩ := HA1
        clear CK hWT hI3 hT3 hT4 hT2 hB3 hB2 hU HLL
        have U0 := cell_under c0
        have CLate := fun w => health_late x hid w
        go_upto_region 9 with (fail)
        refine wp_region_under_tail 6 (by kernel_rfl) (by kernel_rfl) ?_
        simp only [List.take_succ_cons, List.take_zero, List.drop_succ_cons, List.drop_zero]
        repeat (go_big_quiet_step (((go_at_call 62; exact calls_under_same (CLate _)))))
        refine wpQuiet_nil ?_
        intro wv hw'
        obtain ⟨pq, hw''⟩ := hw'
        have hU := below_eq hw''
        clear hw'' pq
        have hT3 := BdTo.same hB4 hU
        have hB3 := hB4.keep hU
        have hI5 := hI4.keep hU
        have CK := wheel_Cancel hB3.wh (2 * x) HLL2.out
        have hw2 : (s1.wheel V4 (s1.l.filter fun y => y.id != 2 * x + 1) s1.now).wb = s.wb := hw1
        rw [hw2] at CK
        clear c0 c1 c2 c3 c4 c5 U0
        go_wp2_with fail
        refine CK.mono ?_; rintro e w5 ⟨rfl, hWT⟩
        rw [← hw2] at hWT
        have hI6 := iter_wheel hB3 hI5 hWT
        obtain ⟨V5, hT4⟩ := hB3.wheel hWT
        have hT6 := hT5.trans (hT3.trans hT4)
        have HE := Lib.hid (sub_snoc s V' V4 V5 (goneL ids ks) x)
        have hT7 : BdTo w w5 B s (s.sub V5 (goneL ids ks ++ [x])) := by
          rw [← HE.out]
          have e := HS1.out
          subst e
          exact hT6
        have hI7 : IRange Try.prog 3 .i64 w5 s.mb rb s.n (ptrF (cutAll s.G (goneL ids ks ++ [x]))) (fun y => left y && y != x) cnt2 := hm1 ▸ hI6
        clear CK hWT hI5 hI6 hI4 hT3 hT4 hT5 hT6 hB3 hB4 hU HLL2
        go_wp2
        go_roundg cnt2
        case measure => omega
        case rel => exact ⟨_, ks ++ [x], cnt2, V5, rfl, by rw [HG.out]; exact hI7, HMET1, by rw [HG.out]; exact hT7⟩
end Go.Proofs.Ytcpfekhpbjkgeaa
end
section
/- Boards that nobody made. -/
set_option linter.unusedVariables false
namespace Go.Proofs.Ytcpfekhpbjkgeaa
open Go.RowKit Go.Maps
set_option maxHeartbeats 8000000
set_option maxRecDepth 100000
/-- A board that nobody made. -/
def NoBoard (w : World) (v : Value) : Prop := v = .pointer none ∨ ∃ b, v = .pointer (some ⟨b, 0, none⟩) ∧ Blk w b 83 zeroBoard
theorem NoBoard.keep {w w' : World} {v : Value} (h : NoBoard w v) (hx : Below w.heap.size w w') : NoBoard w' v := by
  rcases h with h | ⟨b, h, k⟩
  · exact .inl h
  · exact .inr ⟨b, h, k.keep hx⟩
theorem nobody_none {w : World} {v : Value} (h : NoBoard w v) : Calls Try.prog 59 #[v] w fun e w' => e = .returned (.bool true) ∧ w = w' := by
  rcases h with rfl | ⟨b, rfl, h⟩
  · exact board_noneNil w
  · exact board_noneZero h
theorem nobody_Set {w : World} {v : Value} (h : NoBoard w v) (A : Option Addr) (n c : Nat) : Calls Try.prog 30 #[v, .slice A n c] w fun e w' => e = .returned (.int .i64 9) ∧ w = w' := by
  have CN := nobody_none h
  go_enter Try.func30, Try.ntmps30
  go_wp2_with fail
  refine CN.mono ?_; rintro e w1 ⟨rfl, rfl⟩
  go_wp2
  go_ret
  exact ⟨rfl, rfl⟩
theorem nobody_Tick {w : World} {v : Value} (h : NoBoard w v) : Calls Try.prog 31 #[v] w fun e w' => e = .returned (.tuple #[.slice none 0 0, .slice none 0 0]) ∧ w = w' := by
  have CN := nobody_none h
  go_enter Try.func31, Try.ntmps31
  go_wp2_with fail
  refine CN.mono ?_; rintro e w1 ⟨rfl, rfl⟩
  go_wp2
  go_ret2
  exact ⟨rfl, rfl⟩
theorem nobody_Ids {w : World} {v : Value} (h : NoBoard w v) : Calls Try.prog 36 #[v] w fun e w' => e = .returned (.slice none 0 0) ∧ w = w' := by
  have CN := nobody_none h
  go_enter Try.func36, Try.ntmps36
  go_wp2_with fail
  refine CN.mono ?_; rintro e w1 ⟨rfl, rfl⟩
  go_wp2
  go_ret
  exact ⟨rfl, rfl⟩
theorem nobody_Up {w : World} {v : Value} (h : NoBoard w v) : Calls Try.prog 37 #[v] w fun e w' => e = .returned (.slice none 0 0) ∧ w = w' := by
  have CI := nobody_Ids h
  go_enter Try.func37, Try.ntmps37
  go_wp2_with fail
  refine CI.mono ?_; rintro e w1 ⟨rfl, rfl⟩
  clear CI
  go_wp2
  go_loopg [3, 5, 6, 7, 11] 0 (fun gk s3 s5 s6 s7 s11 wr => s3 = .slice none 0 0 ∧ s11 = .int .i64 0 ∧ w = wr)
  case atStart => exact ⟨rfl, by go_num, rfl⟩
  case round =>
    obtain ⟨rfl, rfl, rfl⟩ := hrel
    go_wp2
    go_ret
    exact ⟨rfl, rfl⟩
theorem nobody_Answer {w : World} {v : Value} (h : NoBoard w v) (i : Int) (ok : Bool) : Calls Try.prog 32 #[v, .int .i64 i, .bool ok] w fun e w' => e = .returned (.tuple #[.bool false, .int .i64 9]) ∧ w = w' := by
  have CN := nobody_none h
  go_enter Try.func32, Try.ntmps32
  go_wp2_with fail
  refine CN.mono ?_; rintro e w1 ⟨rfl, rfl⟩
  go_wp2
  go_ret2
  exact ⟨rfl, rfl⟩
theorem nobody_Rename {w : World} {v : Value} (h : NoBoard w v) (m : Value) : Calls Try.prog 34 #[v, m] w fun e w' => e = .returned (.tuple #[]) ∧ w = w' := by
  have CN := nobody_none h
  go_enter Try.func34, Try.ntmps34
  go_wp2_with fail
  refine CN.mono ?_; rintro e w1 ⟨rfl, rfl⟩
  go_wp2
  first | (go_end0; exact ⟨rfl, rfl⟩) | (simp only [Exit.inBlock, Exit.then]; refine bodyPost_ret (results_none rfl _ _ _) rfl ⟨rfl, rfl⟩) | (refine bodyPost_ret (results_none rfl _ _ _) rfl ⟨rfl, rfl⟩)
theorem nobody_Get {w : World} {v : Value} (h : NoBoard w v) (i : Int) : Calls Try.prog 33 #[v, .int .i64 i] w fun e w' => e = .returned (.tuple #[.agg #[.bool false, .bool false, .int .i64 0], .bool false]) ∧ Below w.heap.size w w' := by
  have hA := (Below.refl w.heap.size w).alloc (Nat.le_refl _) (.cells #[.bool false, .bool false, .int .i64 0] 72)
  have PR := Blk.new w 72 #[.bool false, .bool false, .int .i64 0]
  have CN := nobody_none (h.keep hA)
  have hle := hA
  go_enter Try.func33, Try.ntmps33
  go_upto_region 1 with (fail)
  obtain ⟨rb, hrb⟩ : ∃ q, q = w.heap.size := ⟨_, rfl⟩
  rw [← hrb] at PR ⊢
  have HRB := Lib.hid hrb
  clear hrb h
  generalize w.alloc (.cells #[.bool false, .bool false, .int .i64 0] 72) = u at *
  go_wp2_with fail
  refine CN.mono ?_; rintro e w1 ⟨rfl, rfl⟩
  clear CN
  obtain ⟨f0, f1, f2⟩ := PR.free3
  obtain ⟨q0, q1, q2, _⟩ := PR.cells3
  go_wp2
  have hQ : Blk _ rb 72 #[.bool false, .bool false, .int .i64 0] := ((PR.setTo 0 (.bool false) (ds := #[.bool false, .bool false, .int .i64 0]) rfl).setTo 1 (.bool false) (ds := #[.bool false, .bool false, .int .i64 0]) rfl).setTo 2 (.int .i64 0) rfl
  refine bodyPost_ret (v := .tuple #[.agg #[.bool false, .bool false, .int .i64 0], .bool false]) ?_ rfl ⟨rfl, ((hle.setCell (p := ⟨rb, 0, none⟩) (by rw [HRB.out]; exact Nat.le_refl _) _).setCell (p := ⟨rb, 1, none⟩) (by rw [HRB.out]; exact Nat.le_refl _) _).setCell (p := ⟨rb, 2, none⟩) (by rw [HRB.out]; exact Nat.le_refl _) _⟩
  exact results_host2 (p := 4) (q := 5) rfl _ _ _ _ _ (0, 0) _ rfl hQ Try.underlying72 rfl sizeHost
end Go.Proofs.Ytcpfekhpbjkgeaa
end
section
/- A board's Tick: what it makes of hosts and items. -/
set_option linter.unusedVariables false
namespace Go.Proofs.Ytcpfekhpbjkgeaa
open Go.RowKit Go.Maps
set_option maxHeartbeats 8000000
set_option maxRecDepth 100000
/-- A host that is otherwise. -/
structure Chg where
  t : Int
  id : Int
  up : Bool
instance : Inhabited Chg := ⟨⟨0, 0, false⟩⟩
def encChg (x : Chg) : List Value := [.int .i64 x.t, .int .i64 x.id, .bool x.up]
def chgShape : Shape Chg where
  z := ⟨0, 0, false⟩
  size := 3
  cells := encChg
  Wf := fun x => I64 x.t ∧ I64 x.id
  pos := by decide
  len := fun _ => rfl
  one := fun x u hu => by
    unfold encChg at hu
    simp only [List.mem_cons, List.not_mem_nil, or_false] at hu
    rcases hu with rfl | rfl | rfl <;> rfl
  zwf := ⟨by unfold I64; decide, by unfold I64; decide⟩
/-- What a tick has so far. -/
structure TS where
  G : Int → Option Hg
  l : List It
  asked : List Int
  out : List Chg
/-- An item that is due. -/
def tickS (r : Rul) (now : Int) (q : TS) (x : It) : TS :=
  match q.G (x.id.tdiv 2) with
  | none => q
  | some h => if x.id = 2 * (x.id.tdiv 2) then (if h.asked = true then ⟨updG q.G (x.id.tdiv 2) (hearG r h false), q.l, q.asked, if hearT r h false = true then q.out ++ [⟨x.t, x.id.tdiv 2, (hearG r h false).up⟩] else q.out⟩ else q)
    else ⟨updG q.G (x.id.tdiv 2) ⟨h.up, true, h.row, h.b⟩, addL now (addL now q.l ⟨x.t + r.timeout, 2 * (x.id.tdiv 2)⟩) ⟨x.t + r.every, 2 * (x.id.tdiv 2) + 1⟩, q.asked ++ [x.id.tdiv 2], q.out⟩
theorem addL_le (now : Int) (l : List It) (x : It) : (addL now l x).length ≤ l.length + 1 := by
  unfold addL
  split
  · rw [(putL_perm _ _).length_eq]; simp
  · omega
theorem tickS_len (r : Rul) (now : Int) (q : TS) (x : It) : (tickS r now q x).l.length ≤ q.l.length + 2 ∧ (tickS r now q x).asked.length ≤ q.asked.length + 1 ∧ (tickS r now q x).out.length ≤ q.out.length + 1 := by
  unfold tickS
  split
  · omega
  · split
    · split
      · dsimp only
        split <;> simp
      · omega
    · have h1 := addL_le now q.l ⟨x.t + r.timeout, 2 * (x.id.tdiv 2)⟩
      have h2 := addL_le now (addL now q.l ⟨x.t + r.timeout, 2 * (x.id.tdiv 2)⟩) ⟨x.t + r.every, 2 * (x.id.tdiv 2) + 1⟩
      simp only [List.length_append, List.length_cons, List.length_nil]
      omega
theorem tickS_fold (r : Rul) (now : Int) : ∀ (l : List It) (q : TS), (l.foldl (tickS r now) q).l.length ≤ q.l.length + 2 * l.length ∧ (l.foldl (tickS r now) q).asked.length ≤ q.asked.length + l.length ∧ (l.foldl (tickS r now) q).out.length ≤ q.out.length + l.length
  | [], q => by simp
  | x :: l, q => by
    have h1 := tickS_len r now q x
    have h2 := tickS_fold r now l (tickS r now q x)
    rw [List.foldl_cons, List.length_cons]
    omega
/-- Hosts whose rows are short. -/
def RowsG (G : Int → Option Hg) : Prop := ∀ i h, G i = some h → h.row < 4611686018427387904
theorem RowsG.upd {G : Int → Option Hg} (h : RowsG G) {i : Int} {k : Hg} (hk : k.row < 4611686018427387904) : RowsG (updG G i k) := fun j q hj => by
  unfold updG at hj
  split at hj
  · cases hj; exact hk
  · exact h j q hj
theorem hearG_short {r : Rul} (hr : RightR r) {h : Hg} (ok : Bool) : (hearG r h ok).row < 4611686018427387904 := by
  unfold RightR at hr
  unfold hearG
  by_cases c : ok = h.up
  · rw [if_pos c]; show (0 : Int) < _; omega
  · rw [if_neg c]
    by_cases d : h.row + 1 < (if ok = true then r.rise else r.fall)
    · rw [if_pos d]
      show h.row + 1 < _
      cases ok <;> simp at d <;> omega
    · rw [if_neg d]; show (0 : Int) < _; omega
theorem tickS_rows {r : Rul} (hr : RightR r) (now : Int) (q : TS) (x : It) (h : RowsG q.G) : RowsG (tickS r now q x).G := by
  unfold tickS
  split
  · exact h
  · rename_i k hk
    split
    · split
      · exact h.upd (hearG_short hr false)
      · exact h
    · exact h.upd (h _ k hk)
/-- What Tick leaves. -/
def TickDone (w w' : World) (B : Nat) (s : Bd) (e : Ending) : Prop := ∃ va vo s' q, q = (s.l.take (dueN (s.now + 1) s.l)).foldl (tickS s.r (s.now + 1)) ⟨s.G, s.l.drop (dueN (s.now + 1) s.l), [], []⟩ ∧
  e = .returned (.tuple #[va, vo]) ∧ BdTo w w' B s s' ∧ OneB s s' ∧ s'.now = s.now + 1 ∧ s'.n = s.n ∧ s'.G = q.G ∧ s'.l = q.l ∧
  w'.ownsRow w.heap.size 3 1 va q.asked.length (q.asked.map (Value.int .i64)) ∧ w'.ownsRow w.heap.size 126 3 vo q.out.length (chgShape.flat q.out)
/-- Behind a call of the wheel's that takes no new block. -/
theorem IsBoard.wheel2 {w w' : World} {B : Nat} {s : Bd} (hB : IsBoard w B s) {V' : Nat → Value} {l : List It} {z : Int} (h1 : WheelIs w' B s.wb V' l z) (h2 : Mod (wIn s.wb s.V) w w') (h3 : ∀ g, wIn s.wb V' g → wIn s.wb s.V g) : BdTo w w' B s (s.wheel V' l z) ∧ ∀ g, bIn (s.wheel V' l z) g → bIn s g := by
  have hI : ∀ g, bIn (s.wheel V' l z) g → bIn s g := fun g hg => by
    rcases hg with h4 | h4 | h4 | h4
    · exact .inl h4
    · exact .inr (.inl (h3 g h4))
    · exact .inr (.inr (.inl h4))
    · exact .inr (.inr (.inr h4))
  exact ⟨⟨⟨hB.blk.mod h2 (wheel_notblk (s := s) hB.wh hB.blk (by decide) (by decide)), hB.lowb, hB.lowm, h1, hB.map.same (h2.block s.mb hB.map.lt (wheel_notmap (s := s) hB.wh hB.map)), fun i h hi => ⟨(hB.host i h hi).1.mod h2 (wheel_notblk (s := s) hB.wh (hB.host i h hi).1 (by decide) (by decide)), (hB.host i h hi).2⟩, hB.inj, hB.keys⟩, h2.mono (fun g hg => .inr (.inl hg)), fun g hg => .inl (hI g hg)⟩, hI⟩
theorem own_two {w : World} {B B' : Nat} {e e' : TypeId} {s s' n n' : Nat} {v v' : Value} {xs xs' : List Value} (h : w.ownsRow B e s v n xs) (k : w.ownsRow B' e' s' v' n' xs') (hne : e ≠ e') {g : Nat} (hg : v.ownBlock = some g) : v'.ownBlock ≠ some g := by
  rcases h.2 with ⟨rfl, _⟩ | ⟨b, cap, cur, rfl, _, hb, _⟩
  · simp [Value.ownBlock] at hg
  · simp only [Value.ownBlock, Option.some.injEq] at hg
    subst hg
    exact rowK_not (T := e) (cs := cur) hb k (fun e1 => hne e1.symm)
theorem own_notbd {w : World} {B B' : Nat} {b : Bd} {e : TypeId} {s n : Nat} {v : Value} {xs : List Value} (hB : IsBoard w B b) (h : w.ownsRow B' e s v n xs) (h1 : e ≠ 83) (h2 : e ≠ 27) (h3 : e ≠ 72) (h4 : e ≠ 31) {g : Nat} (hg : v.ownBlock = some g) : ¬ bIn b g := by
  rintro (rfl | (rfl | ⟨j, hj, hj2⟩) | rfl | ⟨i, k, hk, rfl⟩)
  · exact rowK_not hB.blk h h1 hg
  · obtain ⟨S, hS, _⟩ := hB.wh.ex
    exact rowK_not hS.blk h h2 hg
  · obtain ⟨S, hS, _⟩ := hB.wh.ex
    exact own_two h (hS.row j hj) h4 hg hj2
  · exact own_imap_ne hB.map h hg.symm
  · exact rowK_not (hB.host i k hk).1 h h3 hg
theorem i64_half {x : Int} (h : I64 x) : I64 (x.tdiv 2) := by
  unfold I64 at h ⊢
  rcases Int.le_total 0 x with h0 | h0
  · rw [Int.tdiv_eq_ediv_of_nonneg h0]; omega
  · have e : x.tdiv 2 = -((-x).tdiv 2) := by rw [Int.neg_tdiv]; omega
    rw [e, Int.tdiv_eq_ediv_of_nonneg (by omega)]; omega
end Go.Proofs.Ytcpfekhpbjkgeaa
end
section
/- The document's board in plain Lean, and what ties it to a board: a tick of both. -/
set_option linter.unusedVariables false
namespace Go.Proofs.Ytcpfekhpbjkgeaa
open Go.Sort
/-- A host of the document's board. -/
structure Ph where
  up : Bool
  asked : Bool
  row : Int
  id : Int
  next : Int
  last : Int
deriving DecidableEq
instance : Inhabited Ph := ⟨⟨false, false, 0, 0, 0, 0⟩⟩
def Ph.hg (x : Ph) : Hg := ⟨x.up, x.asked, x.row, 0⟩
def Ph.see (x : Ph) : Bool × Bool × Int := (x.up, x.asked, x.row)
/-- An answer counts. -/
def hearPh (r : Rul) (x : Ph) (ok : Bool) : Ph :=
  if x.up = ok then ⟨x.up, false, 0, x.id, x.next, x.last⟩ else if x.row + 1 < (if ok then r.rise else r.fall) then ⟨x.up, false, x.row + 1, x.id, x.next, x.last⟩ else ⟨ok, false, 0, x.id, x.next, x.last⟩
def turnPh (r : Rul) (x : Ph) (ok : Bool) : Bool := if x.up = ok then false else if x.row + 1 < (if ok then r.rise else r.fall) then false else true
theorem hearPh_g (r : Rul) (x : Ph) (h : Hg) (ok : Bool) (e : x.see = hv h) : (hearPh r x ok).see = hv (hearG r h ok) ∧ turnPh r x ok = hearT r h ok := by
  obtain ⟨u, a, w, i, n, l⟩ := x
  obtain ⟨hu, ha, hw, hb⟩ := h
  unfold Ph.see hv at e
  simp only [Prod.mk.injEq] at e
  obtain ⟨rfl, rfl, rfl⟩ := e
  unfold hearPh turnPh hearG hearT Ph.see hv
  by_cases c : u = ok
  · subst c; simp
  · have c' : ¬ ok = u := fun e => c e.symm
    simp only [if_neg c, if_neg c']
    generalize (if ok = true then r.rise else r.fall) = z
    by_cases d : w + 1 < z <;> simp [d]
theorem hearPh_same (r : Rul) (x : Ph) (ok : Bool) : (hearPh r x ok).id = x.id ∧ (hearPh r x ok).next = x.next ∧ (hearPh r x ok).last = x.last := by
  unfold hearPh
  generalize (if ok = true then r.rise else r.fall) = z
  split
  · exact ⟨rfl, rfl, rfl⟩
  · split <;> exact ⟨rfl, rfl, rfl⟩
/-- A row stays short. -/
theorem hearPh_row {r : Rul} (hr : RightR r) {x : Ph} (ok : Bool) (h0 : 0 ≤ x.row) (h1 : x.row ≤ 100) : 0 ≤ (hearPh r x ok).row ∧ (hearPh r x ok).row ≤ 100 := by
  unfold RightR at hr
  unfold hearPh
  have hz : (if ok = true then r.rise else r.fall) ≤ 100 := by cases ok <;> simp <;> omega
  generalize (if ok = true then r.rise else r.fall) = z at *
  by_cases c : x.up = ok
  · rw [if_pos c]; dsimp only; omega
  · rw [if_neg c]
    by_cases d : x.row + 1 < z
    · rw [if_pos d]; dsimp only; omega
    · rw [if_neg d]; dsimp only; omega
/-- Is an answer late at a time? -/
def lateP (r : Rul) (now : Int) (x : Ph) : Bool := decide (0 ≤ x.last) && decide (now = x.last + r.timeout)
/-- A host at a tick: first, no answer came. -/
def missP (r : Rul) (now : Int) (x : Ph) : Ph := if lateP r now x = true ∧ x.asked = true then hearPh r x false else x
def missOut (r : Rul) (now : Int) (x : Ph) : List Chg := if lateP r now x = true ∧ x.asked = true ∧ turnPh r x false = true then [⟨now, x.id, false⟩] else []
/-- Then it is asked. -/
def askP (r : Rul) (now : Int) (x : Ph) : Ph := if now = x.next then ⟨x.up, true, x.row, x.id, now + r.every, now⟩ else x
def tickPh (r : Rul) (now : Int) (x : Ph) : Ph := askP r now (missP r now x)
def askOut (now : Int) (x : Ph) : List Int := if now = x.next then [x.id] else []
theorem missP_same (r : Rul) (now : Int) (x : Ph) : (missP r now x).id = x.id ∧ (missP r now x).next = x.next ∧ (missP r now x).last = x.last := by
  unfold missP
  split
  · exact hearPh_same r x false
  · exact ⟨rfl, rfl, rfl⟩
theorem tickPh_id (r : Rul) (now : Int) (x : Ph) : (tickPh r now x).id = x.id := by
  unfold tickPh askP
  split
  · exact (missP_same r now x).1
  · exact (missP_same r now x).1
/-- The items of a host. -/
def itemsP (r : Rul) (now : Int) (x : Ph) : List It := (if 0 ≤ x.last ∧ now < x.last + r.timeout then [⟨x.last + r.timeout, 2 * x.id⟩] else []) ++ [⟨x.next, 2 * x.id + 1⟩]
/-- A host as it may be. -/
structure PhOk (r : Rul) (now : Int) (x : Ph) : Prop where
  id0 : 0 ≤ x.id
  id1 : x.id ≤ 1048576
  last : x.last ≤ now
  lo : -1 ≤ x.last
  next : now < x.next
  far : x.next ≤ now + r.every
  every : 0 ≤ x.last → x.next = x.last + r.every
  row0 : 0 ≤ x.row
  row1 : x.row ≤ 100
/-- The board has just the document's hosts, and their items. -/
structure Sim (s : Bd) (L : List Ph) : Prop where
  ids : RiseOf (L.map Ph.id) s.G
  view : ∀ x ∈ L, viewG s.G x.id = some x.see
  list : s.l.Perm (L.flatMap (itemsP s.r s.now))
  ok : ∀ x ∈ L, PhOk s.r s.now x
/-- What is due of a host. -/
def dueP (r : Rul) (now : Int) (x : Ph) : List It := (if lateP r now x = true then [⟨now, 2 * x.id⟩] else []) ++ (if now = x.next then [⟨now, 2 * x.id + 1⟩] else [])
theorem due_items {r : Rul} {now : Int} {x : Ph} (h : PhOk r now x) : (itemsP r now x).filter (due (now + 1)) = dueP r (now + 1) x := by
  have h1 := h.next
  have h2 := h.far
  unfold itemsP dueP lateP
  rw [List.filter_append]
  congr 1
  · by_cases c : 0 ≤ x.last ∧ now < x.last + r.timeout
    · rw [if_pos c]
      by_cases d : now + 1 = x.last + r.timeout
      · rw [if_pos (by rw [Bool.and_eq_true]; exact ⟨decide_eq_true c.1, decide_eq_true d⟩), List.filter_cons_of_pos (by unfold due; exact decide_eq_true (by dsimp only; omega)), d]; rfl
      · rw [if_neg (by rw [Bool.and_eq_true]; rintro ⟨_, h⟩; exact d (of_decide_eq_true h)), List.filter_cons_of_neg (by unfold due; rw [decide_eq_true_eq]; dsimp only; omega)]; rfl
    · rw [if_neg c, if_neg (by rw [Bool.and_eq_true]; rintro ⟨h3, h4⟩; have h3 := of_decide_eq_true h3; have h4 := of_decide_eq_true h4; exact c ⟨h3, by omega⟩)]; rfl
  · by_cases d : now + 1 = x.next
    · rw [if_pos d, List.filter_cons_of_pos (by unfold due; exact decide_eq_true (by dsimp only; omega)), d]; rfl
    · rw [if_neg d, List.filter_cons_of_neg (by unfold due; rw [decide_eq_true_eq]; dsimp only; omega)]; rfl
/-- What a host that is asked puts in. -/
def newP (r : Rul) (now : Int) (x : Ph) : List It := if now = x.next then [⟨now + r.timeout, 2 * x.id⟩, ⟨now + r.every, 2 * x.id + 1⟩] else []
theorem rest_items {r : Rul} (hr : RightR r) {now : Int} (h0 : 0 ≤ now) {x : Ph} (h : PhOk r now x) : (itemsP r now x).filter (fun y => !due (now + 1) y) ++ newP r (now + 1) x = itemsP r (now + 1) (tickPh r (now + 1) x) := by
  have h1 := h.next
  have h2 := h.far
  have h3 := h.every
  have h4 := h.last
  unfold RightR at hr
  obtain ⟨m1, m2, m3⟩ := missP_same r (now + 1) x
  unfold tickPh askP
  rw [m2]
  have late0 : ∀ P : Prop, [Decidable P] → ∀ a : It, (if P then [a] else []).filter (fun y => !due (now + 1) y) = if P ∧ ¬ a.t ≤ now + 1 then [a] else [] := fun P _ a => by
    by_cases hp : P
    · rw [if_pos hp]
      by_cases hq : a.t ≤ now + 1
      · rw [List.filter_cons_of_neg (by unfold due; simp [hq]), if_neg (fun hh => hh.2 hq)]; rfl
      · rw [List.filter_cons_of_pos (by unfold due; simp [hq]), if_pos ⟨hp, hq⟩]; rfl
    · rw [if_neg hp, if_neg (fun hh => hp hh.1)]; rfl
  by_cases d : now + 1 = x.next
  · rw [if_pos d]
    unfold itemsP newP
    dsimp only
    rw [if_pos d, List.filter_append, late0, if_neg (by dsimp only; intro hh; have := h3 hh.1.1; omega), List.filter_cons_of_neg (by unfold due; simp; omega), if_pos (by omega), m1]
    rfl
  · rw [if_neg d]
    unfold itemsP newP
    rw [if_neg d, List.append_nil, List.filter_append, late0, m1, m2, m3, List.filter_cons_of_pos (by unfold due; simp; omega)]
    congr 1
    dsimp only
    by_cases e : 0 ≤ x.last ∧ now + 1 < x.last + r.timeout
    · rw [if_pos e, if_pos ⟨⟨e.1, by omega⟩, by omega⟩]
    · rw [if_neg e, if_neg (by intro hh; exact e ⟨hh.1.1, by omega⟩)]
/-- A host behind a tick is as it may be. -/
theorem tick_ok {r : Rul} (hr : RightR r) {now : Int} (h0 : 0 ≤ now) {x : Ph} (h : PhOk r now x) : PhOk r (now + 1) (tickPh r (now + 1) x) := by
  obtain ⟨a1, a2, a3, a4, a5, a6, a7, a8, a9⟩ := h
  have hr0 := hr
  unfold RightR at hr
  obtain ⟨m1, m2, m3⟩ := missP_same r (now + 1) x
  have m4 : 0 ≤ (missP r (now + 1) x).row ∧ (missP r (now + 1) x).row ≤ 100 := by
    unfold missP
    split
    · exact hearPh_row hr0 false a8 a9
    · exact ⟨a8, a9⟩
  unfold tickPh askP
  rw [m2]
  by_cases d : now + 1 = x.next
  · rw [if_pos d]
    exact ⟨by dsimp only; omega, by dsimp only; omega, by dsimp only; omega, by dsimp only; omega, by dsimp only; omega, by dsimp only; omega, fun _ => rfl, m4.1, m4.2⟩
  · rw [if_neg d]
    exact ⟨by omega, by omega, by omega, by omega, by omega, by omega, fun h => by rw [m2, m3]; exact a7 (by omega), m4.1, m4.2⟩
end Go.Proofs.Ytcpfekhpbjkgeaa
end
