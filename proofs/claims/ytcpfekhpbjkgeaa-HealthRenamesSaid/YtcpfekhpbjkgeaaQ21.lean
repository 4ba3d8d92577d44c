/- Lemmas for the claim's proof: HealthR. -/
import Derived.Test.YtcpfekhpbjkgeaaQ19
section
/- A board's Tick. -/
set_option linter.unusedVariables false
namespace Go.Proofs.Ytcpfekhpbjkgeaa
open Go.RowKit Go.Maps
set_option maxHeartbeats 8000000
set_option maxRecDepth 100000
theorem Try.infoChg : (Try.prog.info? 126).map (fun i => (i.zero, i.size, i.bytes)) = some (some (.agg #[.int .i64 0, .int .i64 0, .bool false]), 3, 24) := by kernel_rfl
theorem due_time {n : Int} : ∀ {l : List It} {x : It}, x ∈ l.take (dueN n l) → x.t ≤ n
  | [], x, h => by simp at h
  | y :: l, x, h => by
    unfold dueN at h
    by_cases c : y.t ≤ n
    · rw [if_pos c, List.take_succ_cons] at h
      rcases List.mem_cons.1 h with rfl | h
      · exact c
      · exact due_time h
    · rw [if_neg c] at h; cases h
theorem board_Tick {w : World} {B : Nat} {s : Bd} (hB : IsBoard w B s) (hr : RightR s.r) (hrow : RowsG s.G) (hnow : s.now + 1 ≤ 1099511627776) (hll : s.l.length ≤ 1000) :
    Calls Try.prog 31 #[.pointer (some ⟨s.bb, 0, none⟩)] w fun e w' => TickDone w w' B s e := by
  obtain ⟨iC, hiC, hzC, hzC1, hzC2⟩ := info_parts Try.infoChg
  obtain ⟨iI, hiI, hzI, hzI1, hzI2⟩ := info_parts Try.infoIntH
  have CN := board_none hB
  obtain ⟨c0, c1, c2, c3, c4, c5, _⟩ := hB.blk.cells6
  have n0 := hB.wh.n0
  have hadd : IntKind.i64.wrap (s.now + 1) = s.now + 1 := IntWalk.i64_in _ (by omega)
  have hBw : B ≤ w.heap.size := by have := hB.lowb; have := hB.blk.lt; omega
  go_enter Try.func31, Try.ntmps31
  go_wp2_with fail
  refine CN.mono ?_; rintro e w1 ⟨rfl, rfl⟩
  clear CN
  go_upto_region 3 with (fail)
  have hB0 := hB.keep ((Below.refl w.heap.size w).drew)
  have hD0 : Below w.heap.size w w.drew := (Below.refl w.heap.size w).drew
  refine wp_region_noPanic ?_
  refine wp_region_held_drew (S := (fun w' => w'.cell? ⟨s.bb, 0, none⟩ = some (.pointer (some ⟨s.wb, 0, none⟩)))) (by kernel_rfl) (cell_keep c0 ((Below.refl w.heap.size w).drew)) (fun hHeld => ?_)
  refine take_one (i := 0) (oi := ?oi_1) (v := ?v_1) ?hi_1 (by kernel_rfl) (by kernel_rfl) (by kernel_rfl) ?hq_1 ?hw_1 ?hy_1 (by assumption) ?rest_1
  case hi_1 => (simp only [List.getElem?_toArray, List.getElem?_cons_zero]; rfl)
  case hq_1 => exact fun _ _ _ h => h
  case hw_1 => rfl
  case hy_1 => (intro w' hSw; (have u0 := hSw); go_simp; first | done | with_reducible rfl)
  try simp only [Act.put, List.setIfInBounds_toArray, List.set_cons_zero, List.set_cons_succ]
  refine take_one (i := 1) (oi := ?oi_2) (v := ?v_2) ?hi_2 (by kernel_rfl) (by kernel_rfl) (by kernel_rfl) ?hq_2 ?hw_2 ?hy_2 (by assumption) ?rest_2
  case hi_2 => (simp only [List.getElem?_toArray, List.getElem?_cons_succ, List.getElem?_cons_zero]; rfl)
  case hq_2 => exact fun _ _ _ h => h
  case hw_2 => rfl
  case hy_2 => (intro w' hSw; (have u0 := hSw); go_simp; first | done | with_reducible rfl)
  try simp only [Act.put, List.setIfInBounds_toArray, List.set_cons_zero, List.set_cons_succ]
  refine take_one (i := 2) (oi := ?oi_3) (v := ?v_3) ?hi_3 (by kernel_rfl) (by kernel_rfl) (by kernel_rfl) ?hq_3 ?hw_3 ?hy_3 (by assumption) ?rest_3
  case hi_3 => (simp only [List.getElem?_toArray, List.getElem?_cons_succ, List.getElem?_cons_zero]; rfl)
  case hq_3 => exact fun _ _ _ h => h
  case hw_3 => rfl
  case hy_3 => (intro w' hSw; (have u0 := hSw); go_simp; first | done | with_reducible rfl)
  try simp only [Act.put, List.setIfInBounds_toArray, List.set_cons_zero, List.set_cons_succ]
  refine take_one (i := 3) (oi := ?oi_4) (v := ?v_4) ?hi_4 (by kernel_rfl) (by kernel_rfl) (by kernel_rfl) ?hq_4 ?hw_4 ?hy_4 (by assumption) ?rest_4
  case hi_4 => (simp only [List.getElem?_toArray, List.getElem?_cons_succ, List.getElem?_cons_zero]; rfl)
  case hq_4 => exact fun _ _ _ h => h
  case hw_4 => rfl
  case hy_4 => (intro w' hSw; (have u0 := hSw); go_simp; first | done | with_reducible rfl)
  try simp only [Act.put, List.setIfInBounds_toArray, List.set_cons_zero, List.set_cons_succ]
  refine take_one (i := 4) (oi := ?oi_5) (v := ?v_5) ?hi_5 (by kernel_rfl) (by kernel_rfl) (by kernel_rfl) ?hq_5 ?hw_5 ?hy_5 (by assumption) ?rest_5
  case hi_5 => (simp only [List.getElem?_toArray, List.getElem?_cons_succ, List.getElem?_cons_zero]; rfl)
  case hq_5 => exact fun _ _ _ h => h
  case hw_5 => rfl
  case hy_5 => (intro w' hSw; (have u0 := hSw); go_simp; first | done | with_reducible rfl)
  try simp only [Act.put, List.setIfInBounds_toArray, List.set_cons_zero, List.set_cons_succ]
  refine take_one (i := 5) (oi := ?oi_6) (v := ?v_6) ?hi_6 (by kernel_rfl) (by kernel_rfl) (by kernel_rfl) ?hq_6 ?hw_6 ?hy_6 (by assumption) ?rest_6
  case hi_6 => (simp only [List.getElem?_toArray, List.getElem?_cons_succ, List.getElem?_cons_zero]; rfl)
  case hq_6 => exact fun _ _ _ h => h
  case hw_6 => rfl
  case hy_6 => (intro w' hSw; (have u0 := hSw); go_simp; first | done | with_reducible rfl)
  try simp only [Act.put, List.setIfInBounds_toArray, List.set_cons_zero, List.set_cons_succ]
  refine take_one (i := 6) (oi := ?oi_7) (v := ?v_7) ?hi_7 (by kernel_rfl) (by kernel_rfl) (by kernel_rfl) ?hq_7 ?hw_7 ?hy_7 (by assumption) ?rest_7
  case hi_7 => (simp only [List.getElem?_toArray, List.getElem?_cons_succ, List.getElem?_cons_zero]; rfl)
  case hq_7 => exact fun _ _ _ h => h
  case hw_7 => rfl
  case hy_7 => (intro w' hSw; (have u0 := hSw); go_simp; first | done | with_reducible rfl)
  try simp only [Act.put, List.setIfInBounds_toArray, List.set_cons_zero, List.set_cons_succ]
  refine take_one (i := 7) (oi := ?oi_8) (v := ?v_8) ?hi_8 (by kernel_rfl) (by kernel_rfl) (by kernel_rfl) ?hq_8 ?hw_8 ?hy_8 (by assumption) ?rest_8
  case hi_8 => (simp only [List.getElem?_toArray, List.getElem?_cons_succ, List.getElem?_cons_zero]; rfl)
  case hq_8 => exact fun _ _ _ h => h
  case hw_8 => rfl
  case hy_8 => (intro w' hSw; (have u0 := hSw); go_simp; first | done | with_reducible rfl)
  try simp only [Act.put, List.setIfInBounds_toArray, List.set_cons_zero, List.set_cons_succ]
  generalize w.drew = vx0 at *
  refine wpAnyH_ready (rs := [8]) (by kernel_rfl) (by simp) ?_
  refine AllReadyH.cons (i := 8) (o := ?o_9_8) ?h_9_8 (fun K hK => ?_) AllReadyH.nil
  case h_9_8 => (simp only [List.getElem?_toArray, List.getElem?_cons_succ, List.getElem?_cons_zero]; rfl)
  go_simp
  go_at_call 14
  refine (wheel_Now hB0.wh).mono ?_
  rintro e vx10 ⟨rfl, hxvx10⟩
  try dsimp only
  have hD1 : Below w.heap.size w vx10 := hxvx10 ▸ hD0
  have hB1 : IsBoard vx10 B s := hxvx10 ▸ hB0
  refine hK.out _ _ (hxvx10 ▸ hHeld) (fun hHeld => ?_)
  clear hK K
  try simp only [Act.put, List.setIfInBounds_toArray, List.set_cons_zero, List.set_cons_succ]
  refine take_one (i := 9) (oi := ?oi_11) (v := ?v_11) ?hi_11 (by kernel_rfl) (by kernel_rfl) (by kernel_rfl) ?hq_11 ?hw_11 ?hy_11 (by assumption) ?rest_11
  case hi_11 => (simp only [List.getElem?_toArray, List.getElem?_cons_succ, List.getElem?_cons_zero]; rfl)
  case hq_11 => exact fun _ _ _ h => h
  case hw_11 => rfl
  case hy_11 => (intro w' hSw; (have u0 := hSw); go_simp; first | done | with_reducible rfl)
  try simp only [Act.put, List.setIfInBounds_toArray, List.set_cons_zero, List.set_cons_succ]
  refine wpAnyH_ready (rs := [10]) (by kernel_rfl) (by simp) ?_
  refine AllReadyH.cons (i := 10) (o := ?o_12_10) ?h_12_10 (fun K hK => ?_) AllReadyH.nil
  case h_12_10 => (simp only [List.getElem?_toArray, List.getElem?_cons_succ, List.getElem?_cons_zero]; rfl)
  go_simp
  go_at_call 15
  refine (wheel_Go hB1.wh (s.now + 1) (by omega) hnow (by omega) (Nat.le_trans hBw hD1.size)).mono ?_
  rintro e vx13 ⟨v, rfl, hO, V2, hW2, hM2, hI2⟩
  try dsimp only
  have hcell : vx13.cell? ⟨s.bb, 0, none⟩ = some (.pointer (some ⟨s.wb, 0, none⟩)) := cell_mod hHeld hM2 (wheel_notblk (s := s) hB1.wh hB1.blk (by decide) (by decide))
  refine hK.out _ _ hcell (fun hHeld => ?_)
  clear hK K
  try simp only [Act.put, List.setIfInBounds_toArray, List.set_cons_zero, List.set_cons_succ]
  refine take_one (i := 11) (oi := ?oi_14) (v := ?v_14) ?hi_14 (by kernel_rfl) (by kernel_rfl) (by kernel_rfl) ?hq_14 ?hw_14 ?hy_14 (by assumption) ?rest_14
  case hi_14 => (simp only [List.getElem?_toArray, List.getElem?_cons_succ, List.getElem?_cons_zero]; rfl)
  case hq_14 => exact fun _ _ _ h => h
  case hw_14 => rfl
  case hy_14 => (intro w' hSw; (have u0 := hSw); go_simp; first | done | with_reducible rfl)
  try simp only [Act.put, List.setIfInBounds_toArray, List.set_cons_zero, List.set_cons_succ]
  refine take_one (i := 12) (oi := ?oi_15) (v := ?v_15) ?hi_15 (by kernel_rfl) (by kernel_rfl) (by kernel_rfl) ?hq_15 ?hw_15 ?hy_15 (by assumption) ?rest_15
  case hi_15 => (simp only [List.getElem?_toArray, List.getElem?_cons_succ, List.getElem?_cons_zero]; rfl)
  case hq_15 => exact fun _ _ _ h => h
  case hw_15 => rfl
  case hy_15 => (intro w' hSw; (have u0 := hSw); go_simp; first | done | with_reducible rfl)
  try simp only [Act.put, List.setIfInBounds_toArray, List.set_cons_zero, List.set_cons_succ]
  refine take_one (i := 13) (oi := ?oi_16) (v := ?v_16) ?hi_16 (by kernel_rfl) (by kernel_rfl) (by kernel_rfl) ?hq_16 ?hw_16 ?hy_16 (by assumption) ?rest_16
  case hi_16 => (simp only [List.getElem?_toArray, List.getElem?_cons_succ, List.getElem?_cons_zero]; rfl)
  case hq_16 => exact fun _ _ _ h => h
  case hw_16 => rfl
  case hy_16 => (intro w' hSw; (have u0 := hSw); go_simp; first | done | with_reducible rfl)
  try simp only [Act.put, List.setIfInBounds_toArray, List.set_cons_zero, List.set_cons_succ]
  refine wpAnyH_ready (rs := [14]) (by kernel_rfl) (by simp) ?_
  refine AllReadyH.cons (i := 14) (o := ?o_17_14) ?h_17_14 (fun K hK => ?_) AllReadyH.nil
  case h_17_14 => (simp only [List.getElem?_toArray, List.getElem?_cons_succ, List.getElem?_cons_zero]; rfl)
  go_simp
  refine hK.out _ _ hHeld (fun hHeld => ?_)
  clear hK K
  try simp only [Act.put, List.setIfInBounds_toArray, List.set_cons_zero, List.set_cons_succ]
  refine wpAnyH_ready (rs := [15]) (by kernel_rfl) (by simp) ?_
  refine AllReadyH.cons (i := 15) (o := ?o_19_15) ?h_19_15 (fun K hK => ?_) AllReadyH.nil
  case h_19_15 => (simp only [List.getElem?_toArray, List.getElem?_cons_succ, List.getElem?_cons_zero]; rfl)
  go_simp
  refine hK.out _ _ hHeld (fun hHeld => ?_)
  clear hK K
  try simp only [Act.put, List.setIfInBounds_toArray, List.set_cons_zero, List.set_cons_succ]
  refine wpAnyH_done (by kernel_rfl) (NoPanic.normal ?_) _
  have hT0 := BdTo.same hB hD1
  obtain ⟨hT1, hBI⟩ := hB1.wheel2 hW2 hM2 hI2
  have HBI := Lib.hid (show ∀ g, bIn (s.wheel V2 (s.l.drop (dueN (s.now + 1) s.l)) (s.now + 1)) g → g < _ from fun g hg => (hB1.lt (hBI g hg)).2)
  clear hBI
  have hT := hT0.trans hT1
  have HNW := Lib.hid hD1.size
  have HRI := Lib.hid hI2
  have HLD := Lib.hid (show s.l.length = (s.l.take (dueN (s.now + 1) s.l)).length + (s.l.drop (dueN (s.now + 1) s.l)).length by rw [← List.length_append, List.take_append_drop])
  have HDT := Lib.hid (fun x (hx : x ∈ s.l.take (dueN (s.now + 1) s.l)) => Int.le_trans (due_time hx) hnow)
  have HWF := Lib.hid (fun x (hx : x ∈ s.l.take (dueN (s.now + 1) s.l)) => hB.wh.wf x (List.mem_of_mem_take hx))
  obtain ⟨L, hL⟩ : ∃ L, L = s.l.take (dueN (s.now + 1) s.l) := ⟨_, rfl⟩
  have HL := Lib.hid hL
  rw [← hL] at hO HLD HWF HDT
  obtain ⟨q0, hq0⟩ : ∃ q0 : TS, q0 = ⟨s.G, s.l.drop (dueN (s.now + 1) s.l), [], []⟩ := ⟨_, rfl⟩
  have HQ0 := Lib.hid hq0
  obtain ⟨m, hm⟩ : ∃ m, m = L.length := ⟨_, rfl⟩
  have HM := Lib.hid hm
  rw [← hm] at hO
  obtain ⟨A, c, rfl⟩ := ownK_sl hO
  have HO := Lib.hid hO
  have HX0 := Lib.hid hT0
  have hcap := ownK_cap hO
  clear hL hq0 hm hO hW2 hM2 hI2 hB1 hD1 hT0 hT1
  have HNI := Lib.hid (show ∀ g, (Value.slice A m c).ownBlock = some g → ¬ bIn (s.wheel V2 (s.l.drop (dueN (s.now + 1) s.l)) (s.now + 1)) g from fun g hg hb => by
    have h1 := HBI.out g hb
    have h2 := (HO.out.lt g hg).1
    omega)
  have HG0 := Lib.hid (show q0.G = (s.wheel V2 (s.l.drop (dueN (s.now + 1) s.l)) (s.now + 1)).G ∧ q0.l = (s.wheel V2 (s.l.drop (dueN (s.now + 1) s.l)) (s.now + 1)).l ∧ q0.asked = [] ∧ q0.out = [] from by rw [HQ0.out]; exact ⟨rfl, rfl, rfl, rfl⟩)
  have HR0 := Lib.hid (show RowsG q0.G from by rw [HQ0.out]; exact hrow)
  have HLL := Lib.hid (show L.length ≤ 1000 ∧ ∀ k, ((L.take k).foldl (tickS s.r (s.now + 1)) q0).l.length ≤ 3000 ∧ ((L.take k).foldl (tickS s.r (s.now + 1)) q0).asked.length ≤ 1000 ∧ ((L.take k).foldl (tickS s.r (s.now + 1)) q0).out.length ≤ 1000 from by
    have h1 := HLD.out
    have h2 : q0.l.length = (s.l.drop (dueN (s.now + 1) s.l)).length ∧ q0.asked.length = 0 ∧ q0.out.length = 0 := by rw [HQ0.out]; exact ⟨rfl, rfl, rfl⟩
    refine ⟨by omega, fun k => ?_⟩
    have h3 := tickS_fold s.r (s.now + 1) (L.take k) q0
    rw [List.length_take] at h3
    omega)
  have hE := TEnv.mk hT (la := q0.asked) (lo := q0.out) (v6 := .slice none 0 0) (v7 := .slice none 0 0) (by rw [HG0.out.2.2.1]; exact World.ownsRow_nil _ _ _ 1) (by rw [HG0.out.2.2.2]; exact World.ownsRow_nil _ _ _ 3) HO.out HNI.out
  clear HO hrow c0 c1 c2 c3 c4 c5 n0 hadd hHeld HX0 hT HNI
  go_upto_region 7 with (fail)
  go_loopg [6, 7, 9, 10, 11, 30, 82, 85] m (fun gk s6 s7 s9 s10 s11 s30 s82 s85 wr => ∃ (k : Nat) (sk : Bd) (q : TS), s30 = .int .i64 k ∧ k ≤ m ∧ gk = m - k ∧ TEnv w wr B s sk q.asked q.out s6 s7 vx10.heap.size (.slice A m c) m L ∧ Hid (OneB s sk ∧ sk.now = s.now + 1 ∧ sk.n = s.n) ∧ Hid (q = (L.take k).foldl (tickS s.r (s.now + 1)) q0) ∧ Hid (q.G = sk.G ∧ q.l = sk.l ∧ RowsG q.G))
  case atStart => exact ⟨0, _, q0, by go_num, Nat.zero_le _, rfl, hE, Lib.hid ⟨⟨rfl, rfl, rfl, rfl⟩, rfl, rfl⟩, Lib.hid rfl, Lib.hid ⟨HG0.out.1, HG0.out.2.1, HR0.out⟩⟩
  case round =>
    clear hE HG0 HR0
    obtain ⟨k, sk, q, rfl, hk, rfl, hE, HS, HQ, HGL⟩ := hrel
    by_cases hkm : k < m
    · have hkk : (k : Int) < (m : Int) := by omega
      obtain ⟨ad, hAd, _, d0, d1⟩ := (own_it hE.oi).at_ hkm
      have HT := Lib.hid (show (L.take (k + 1)).foldl (tickS s.r (s.now + 1)) q0 = tickS s.r (s.now + 1) q (L.getD k default) by rw [takeK_next (z := default) (by rw [← HM.out]; exact hkm), List.foldl_append, ← HQ.out]; rfl)
      have HX := Lib.hid (HWF.out (L.getD k default) (by rw [List.getD_eq_getElem?_getD, List.getElem?_eq_getElem (by rw [← HM.out]; exact hkm)]; exact List.getElem_mem _))
      have HXT := Lib.hid (HDT.out (L.getD k default) (by rw [List.getD_eq_getElem?_getD, List.getElem?_eq_getElem (by rw [← HM.out]; exact hkm)]; exact List.getElem_mem _))
      have HLQ := Lib.hid (show q.l.length ≤ 3000 ∧ q.asked.length ≤ 1000 ∧ q.out.length ≤ 1000 by rw [HQ.out]; exact HLL.out.2 k)
      generalize L.getD k default = x at *
      obtain ⟨xt, xi⟩ := x
      dsimp only at d0 d1
      subst hAd
      have PX := Blk.new wr 31 #[.int .i64 xt, .int .i64 xi]
      have hA := (Below.refl wr.heap.size wr).alloc (Nat.le_refl _) (.cells #[.int .i64 xt, .int .i64 xi] 31)
      have hE1 := hE.keep hA
      have XB : XBox (wr.alloc (.cells #[.int .i64 xt, .int .i64 xi] 31)) sk wr.heap.size xt xi := ⟨PX, fun hb => by have := (hE.bd.1.lt hb).2; omega⟩
      go_upto_region 9 with (fail)
      obtain ⟨xb, hxb⟩ : ∃ xb, xb = wr.heap.size := ⟨_, rfl⟩
      rw [← hxb] at PX XB ⊢
      generalize wr.alloc (.cells #[.int .i64 xt, .int .i64 xi] 31) = wx at *
      clear hxb hA hE d0 d1
      have hxw : (Lit.int .i64 xi).wf = true := by have := HX.out.2; unfold I64 at this; exact WalkArith.wf_i64 this
      obtain ⟨x0, x1, _⟩ := PX.cells2
      have hjj := i64_half HX.out.2
      dsimp only at hjj
      have hww : IntKind.i64.wrap (xi.tdiv 2) = xi.tdiv 2 := IntWalk.i64_in _ (by unfold I64 at hjj; omega)
      have hw6 : RowKit.wrap64 (xi.tdiv 2) = xi.tdiv 2 := IntWalk.wrap64_in _ (by unfold I64 at hjj; omega)
      go_upto_region 10 with (fail)
      obtain ⟨j, hj⟩ : ∃ j, j = xi.tdiv 2 := ⟨_, rfl⟩
      have HJ := Lib.hid hj
      rw [← hj] at hjj ⊢
      clear hj hww hw6
      have hwl : (Lit.int .i64 j).wf = true := by unfold I64 at hjj; exact WalkArith.wf_i64 hjj
      obtain ⟨o1, o2, o3, o4⟩ := HS.out.1
      have hB1 := hE1.bd.1
      have HA1 := hB1.blk.cells6
      rw [o1, o2, o3] at HA1
      obtain ⟨c0, c1, c2, c3, c4, c5, _⟩ := HA1
      have hmap := hB1.map
      rw [o3] at hmap
      have hlk := ptr_look sk.G j
      have hq1 := fun m w => eql_ptr_nil m w
      cases hg : sk.G j with
      | none =>
        rw [hg] at hlk
        dsimp only at hlk
        have HQ1 := Lib.hid (show q = (L.take (k + 1)).foldl (tickS s.r (s.now + 1)) q0 by
          rw [HT.out]
          unfold tickS
          dsimp only
          rw [← HJ.out, HGL.out.1, hg])
        clear hg XB PX HT o1 o2 o3 o4
        go_wp2_with (at_lookup; go_loud (refine wpList_look_iv _ rfl _ _ 81 rfl 3 123 .i64 Try.underlying3 Try.underlying81 (Try.zeroValue123 _) s.mb sk.n (ptrF sk.G) rfl hmap j rfl hwl _ hlk ?_))
        go_roundg (m - (k + 1))
        case measure => omega
        case rel => exact ⟨k + 1, sk, q, by go_num, by omega, rfl, hE1, HS, HQ1, HGL⟩
      | some h =>
        rw [hg] at hlk
        dsimp only [hPtr] at hlk
        have hkj := hB1.keys j h hg
        have HIK := Lib.hid hkj
        have hid : IdOk j := by unfold IdOk; omega
        have CLate := fun w => health_late j hid w
        have CAsk := fun w => health_ask j hid w
        have HG := Lib.hid hg
        have HROW := Lib.hid (HGL.out.2.2 j h (by rw [HGL.out.1]; exact hg))
        clear hg
        go_upto_region 16 with (at_lookup; go_loud (refine wpList_look_iv _ rfl _ _ 81 rfl 3 123 .i64 Try.underlying3 Try.underlying81 (Try.zeroValue123 _) s.mb sk.n (ptrF sk.G) rfl hmap j rfl hwl _ hlk ?_))
        have U0 := cell_under x1
        clear hmap hlk hq1 c0 c1 c2 c3 c4 c5 x0 x1 hkj hid
        by_cases hxe : xi = 2 * j
        · have e1 : (xi == 2 * j) = true := by simp [hxe]
          have HXE := Lib.hid hxe
          clear hxe
          refine wp_region_quiet_under (by kernel_rfl) (by kernel_rfl) ?_
          repeat (go_big_quiet_step (((go_at_call 62; exact calls_under_same (CLate _)))))
          refine wpQuiet_nil ?_
          intro wu hw'
          obtain ⟨pq, hw''⟩ := hw'
          have hU := below_eq hw''
          clear hw'' pq
          have hE2 := hE1.keep hU
          have XB2 := XB.keep hU
          have hB2 := hE2.bd.1
          clear hE1 XB hB1 PX U0 hU CLate
          have PH := (hB2.host j h HG.out).1
          by_cases ha : h.asked = true
          · have CH := board_hear hB2 HG.out HROW.out false
            rw [o1] at CH
            obtain ⟨p0, p1, p2, _⟩ := PH.cells3
            rw [ha] at p1
            have HT1 := Lib.hid (show tickS s.r (s.now + 1) q ⟨xt, xi⟩ = ⟨updG sk.G j (hearG s.r h false), q.l, q.asked, if hearT s.r h false = true then q.out ++ [⟨xt, j, (hearG s.r h false).up⟩] else q.out⟩ by
              unfold tickS
              dsimp only
              rw [← HJ.out, HGL.out.1, HG.out]
              dsimp only
              rw [if_pos HXE.out, if_pos ha])
            have HGR := Lib.hid (show RowsG (updG sk.G j (hearG s.r h false)) from by
              have h1 : RowsG sk.G := by rw [← HGL.out.1]; exact HGL.out.2.2
              exact h1.upd (hearG_short hr false))
            have HHB := Lib.hid (hearG_b s.r h false)
            rw [o4] at CH
            have HTN := Lib.hid (fun w2 hP2 hM2 => (hB2.turn (w' := w2) (k := hearG s.r h false) HG.out (hearG_b s.r h false) (hearG_row s.r h false (hB2.host j h HG.out).2.2 HROW.out) hP2 hM2 : BdTo wu w2 B sk (sk.turn j (hearG s.r h false))))
            obtain ⟨TT, hTT⟩ : ∃ TT, TT = hearT s.r h false := ⟨_, rfl⟩
            have HTT := Lib.hid hTT
            rw [← hTT] at CH
            clear hTT ha
            go_upto_region 17 with (fail)
            go_wp2_with fail
            refine CH.mono ?_; rintro e w2 ⟨rfl, hP2, hM2⟩
            have hT2 := HTN.out w2 hP2 hM2
            have hE3 := hE2.step hT2
            have XB3 := XB2.step hT2
            clear CH hM2 hT2 hE2 XB2 hB2 PH HTN p0 p1 p2
            cases TT with
            | false =>
              have HQ1 := Lib.hid (show (⟨updG sk.G j (hearG s.r h false), q.l, q.asked, q.out⟩ : TS) = (L.take (k + 1)).foldl (tickS s.r (s.now + 1)) q0 by
                rw [HT.out, HT1.out, ← HTT.out, if_neg (by simp)])
              have HGL1 := Lib.hid (show updG sk.G j (hearG s.r h false) = (sk.turn j (hearG s.r h false)).G ∧ q.l = (sk.turn j (hearG s.r h false)).l ∧ RowsG (updG sk.G j (hearG s.r h false)) from ⟨rfl, HGL.out.2.1, HGR.out⟩)
              have HS1 := Lib.hid (show OneB s (sk.turn j (hearG s.r h false)) ∧ (sk.turn j (hearG s.r h false)).now = s.now + 1 ∧ (sk.turn j (hearG s.r h false)).n = s.n from HS.out)
              clear HT HT1 HTT HGR HHB HG o1 o2 o3 o4 hP2
              go_wp2
              go_roundg (m - (k + 1))
              case measure => omega
              case rel => exact ⟨k + 1, sk.turn j (hearG s.r h false), ⟨updG sk.G j (hearG s.r h false), q.l, q.asked, q.out⟩, by go_num, by omega, rfl, hE3, HS1, HQ1, HGL1⟩
            | true =>
              obtain ⟨h2, hh2⟩ : ∃ h2, h2 = hearG s.r h false := ⟨_, rfl⟩
              have HH2 := Lib.hid hh2
              rw [← hh2] at hP2 hE3 XB3 HT1 HGR HHB
              have HQ1 := Lib.hid (show (⟨updG sk.G j h2, q.l, q.asked, q.out ++ [⟨xt, j, h2.up⟩]⟩ : TS) = (L.take (k + 1)).foldl (tickS s.r (s.now + 1)) q0 by
                rw [HT.out, HT1.out, ← HTT.out, if_pos rfl])
              have HGL1 := Lib.hid (show updG sk.G j h2 = (sk.turn j h2).G ∧ q.l = (sk.turn j h2).l ∧ RowsG (updG sk.G j h2) from ⟨rfl, HGL.out.2.1, HGR.out⟩)
              have HS1 := Lib.hid (show OneB s (sk.turn j h2) ∧ (sk.turn j h2).now = s.now + 1 ∧ (sk.turn j h2).n = s.n from HS.out)
              clear HT HT1 HTT HGR HG o1 o2 o3 o4 hh2
              obtain ⟨hu2, ha2, hw2, hb2⟩ := h2
              obtain ⟨p0, p1, p2, _⟩ := hP2.cells3
              obtain ⟨x0, x1, _⟩ := XB3.blk.cells2
              have HN1 := Lib.hid (rowK_not hP2 hE3.oc (by decide))
              have HN2 := Lib.hid (rowK_not XB3.blk hE3.oc (by decide))
              clear p1 p2 x1 hP2
              go_upto_region 18 with (fail)
              have hE4 := hE3.keep ((Below.refl w2.heap.size w2).drew)
              have hla := HLQ.out.2.2
              clear hE3 XB3
              refine wp_region_noPanic ?_
              refine wp_region_held_drew (S := (fun w' => w'.cell? ⟨h.b, 0, none⟩ = some (.bool hu2) ∧ w'.cell? ⟨xb, 0, none⟩ = some (.int .i64 xt))) (by kernel_rfl) (show w2.drew.cell? ⟨h.b, 0, none⟩ = some (.bool hu2) ∧ w2.drew.cell? ⟨xb, 0, none⟩ = some (.int .i64 xt) from ⟨p0, x0⟩) (fun hHeld => ?_)
              refine take_one (i := 0) (oi := ?oi_501) (v := ?v_501) ?hi_501 (by kernel_rfl) (by kernel_rfl) (by kernel_rfl) ?hq_501 ?hw_501 ?hy_501 (by assumption) ?rest_501
              case hi_501 => (simp only [List.getElem?_toArray, List.getElem?_cons_zero]; rfl)
              case hq_501 => exact fun _ _ _ h => h
              case hw_501 => rfl
              case hy_501 => (intro w' hSw; (have u1 := hSw.1; have u2 := hSw.2); go_simp; first | done | with_reducible rfl)
              try simp only [Act.put, List.setIfInBounds_toArray, List.set_cons_zero, List.set_cons_succ]
              refine take_one (i := 1) (oi := ?oi_502) (v := ?v_502) ?hi_502 (by kernel_rfl) (by kernel_rfl) (by kernel_rfl) ?hq_502 ?hw_502 ?hy_502 (by assumption) ?rest_502
              case hi_502 => (simp only [List.getElem?_toArray, List.getElem?_cons_succ, List.getElem?_cons_zero]; rfl)
              case hq_502 => exact fun _ _ _ h => h
              case hw_502 => rfl
              case hy_502 => (intro w' hSw; (have u1 := hSw.1; have u2 := hSw.2); go_simp; first | done | with_reducible rfl)
              try simp only [Act.put, List.setIfInBounds_toArray, List.set_cons_zero, List.set_cons_succ]
              refine take_one (i := 2) (oi := ?oi_503) (v := ?v_503) ?hi_503 (by kernel_rfl) (by kernel_rfl) (by kernel_rfl) ?hq_503 ?hw_503 ?hy_503 (by assumption) ?rest_503
              case hi_503 => (simp only [List.getElem?_toArray, List.getElem?_cons_succ, List.getElem?_cons_zero]; rfl)
              case hq_503 => exact fun _ _ _ h => h
              case hw_503 => rfl
              case hy_503 => (intro w' hSw; (have u1 := hSw.1; have u2 := hSw.2); go_simp; first | done | with_reducible rfl)
              try simp only [Act.put, List.setIfInBounds_toArray, List.set_cons_zero, List.set_cons_succ]
              refine take_one (i := 3) (oi := ?oi_504) (v := ?v_504) ?hi_504 (by kernel_rfl) (by kernel_rfl) (by kernel_rfl) ?hq_504 ?hw_504 ?hy_504 (by assumption) ?rest_504
              case hi_504 => (simp only [List.getElem?_toArray, List.getElem?_cons_succ, List.getElem?_cons_zero]; rfl)
              case hq_504 => exact fun _ _ _ h => h
              case hw_504 => rfl
              case hy_504 => (intro w' hSw; (have u1 := hSw.1; have u2 := hSw.2); go_simp; first | done | with_reducible rfl)
              try simp only [Act.put, List.setIfInBounds_toArray, List.set_cons_zero, List.set_cons_succ]
              refine take_one (i := 4) (oi := ?oi_505) (v := ?v_505) ?hi_505 (by kernel_rfl) (by kernel_rfl) (by kernel_rfl) ?hq_505 ?hw_505 ?hy_505 (by assumption) ?rest_505
              case hi_505 => (simp only [List.getElem?_toArray, List.getElem?_cons_succ, List.getElem?_cons_zero]; rfl)
              case hq_505 => exact fun _ _ _ h => h
              case hw_505 => rfl
              case hy_505 => (intro w' hSw; (have u1 := hSw.1; have u2 := hSw.2); go_simp; first | done | with_reducible rfl)
              try simp only [Act.put, List.setIfInBounds_toArray, List.set_cons_zero, List.set_cons_succ]
              refine take_one (i := 5) (oi := ?oi_506) (v := ?v_506) ?hi_506 (by kernel_rfl) (by kernel_rfl) (by kernel_rfl) ?hq_506 ?hw_506 ?hy_506 (by assumption) ?rest_506
              case hi_506 => (simp only [List.getElem?_toArray, List.getElem?_cons_succ, List.getElem?_cons_zero]; rfl)
              case hq_506 => exact fun _ _ _ h => h
              case hw_506 => rfl
              case hy_506 => (intro w' hSw; (have u1 := hSw.1; have u2 := hSw.2); go_simp; first | done | with_reducible rfl)
              try simp only [Act.put, List.setIfInBounds_toArray, List.set_cons_zero, List.set_cons_succ]
              refine take_one (i := 6) (oi := ?oi_507) (v := ?v_507) ?hi_507 (by kernel_rfl) (by kernel_rfl) (by kernel_rfl) ?hq_507 ?hw_507 ?hy_507 (by assumption) ?rest_507
              case hi_507 => (simp only [List.getElem?_toArray, List.getElem?_cons_succ, List.getElem?_cons_zero]; rfl)
              case hq_507 => exact fun _ _ _ h => h
              case hw_507 => rfl
              case hy_507 => (intro w' hSw; (have u1 := hSw.1; have u2 := hSw.2); go_simp; first | done | with_reducible rfl)
              try simp only [Act.put, List.setIfInBounds_toArray, List.set_cons_zero, List.set_cons_succ]
              refine take_one (i := 7) (oi := ?oi_508) (v := ?v_508) ?hi_508 (by kernel_rfl) (by kernel_rfl) (by kernel_rfl) ?hq_508 ?hw_508 ?hy_508 (by assumption) ?rest_508
              case hi_508 => (simp only [List.getElem?_toArray, List.getElem?_cons_succ, List.getElem?_cons_zero]; rfl)
              case hq_508 => exact fun _ _ _ h => h
              case hw_508 => rfl
              case hy_508 => (intro w' hSw; (have u1 := hSw.1; have u2 := hSw.2); go_simp; first | done | with_reducible rfl)
              try simp only [Act.put, List.setIfInBounds_toArray, List.set_cons_zero, List.set_cons_succ]
              refine take_one (i := 8) (oi := ?oi_509) (v := ?v_509) ?hi_509 (by kernel_rfl) (by kernel_rfl) (by kernel_rfl) ?hq_509 ?hw_509 ?hy_509 (by assumption) ?rest_509
              case hi_509 => (simp only [List.getElem?_toArray, List.getElem?_cons_succ, List.getElem?_cons_zero]; rfl)
              case hq_509 => exact fun _ _ _ h => h
              case hw_509 => rfl
              case hy_509 => (intro w' hSw; (have u1 := hSw.1; have u2 := hSw.2); go_simp; first | done | with_reducible rfl)
              try simp only [Act.put, List.setIfInBounds_toArray, List.set_cons_zero, List.set_cons_succ]
              generalize w2.drew = vx0 at *
              refine wpAnyH_ready (rs := [9]) (by kernel_rfl) (by simp) ?_
              refine AllReadyH.cons (i := 9) (o := ?o_510_9) ?h_510_9 (fun K hK => ?_) AllReadyH.nil
              case h_510_9 => (simp only [List.getElem?_toArray, List.getElem?_cons_succ, List.getElem?_cons_zero]; rfl)
              have hR9 := readsK_new (vx0) 126 3 [.int .i64 xt, .int .i64 j, .bool hu2] rfl
              have hE5 := hE4.keep ((Below.refl _ (vx0)).alloc (Nat.le_refl _) (.cells #[.int .i64 xt, .int .i64 j, .bool hu2] 126))
              clear hE4
              go_simp
              refine hK.out _ _ ⟨cell_alloc hHeld.1 _, cell_alloc hHeld.2 _⟩ (fun hHeld => ?_)
              clear hK K
              try simp only [Act.put, List.setIfInBounds_toArray, List.set_cons_zero, List.set_cons_succ]
              obtain ⟨gx, hgx⟩ : ∃ q, q = (vx0).heap.size := ⟨_, rfl⟩
              rw [← hgx] at hR9 ⊢
              clear hgx
              generalize (vx0).alloc (.cells #[.int .i64 xt, .int .i64 j, .bool hu2] 126) = vx511 at *
              refine wpAnyH_ready (rs := [10]) (by kernel_rfl) (by simp) ?_
              refine AllReadyH.cons (i := 10) (o := ?o_512_10) ?h_512_10 (fun K hK => ?_) AllReadyH.nil
              case h_512_10 => (simp only [List.getElem?_toArray, List.getElem?_cons_succ, List.getElem?_cons_zero]; rfl)
              have hws := hE5.below
              refine step_append_any _ rfl (.tmp 100) (.tmp 109) _ rfl w.heap.size 126 iC _ 3 24 Try.underlying66 hiC hzC hzC1 hzC2 rfl (by decide) _ q.out.length (chgShape.flat q.out) rfl hE5.oc _ _ 1 1 [.int .i64 xt, .int .i64 j, .bool hu2] rfl hR9 (by intro u hu; simp at hu; rcases hu with rfl | rfl | rfl <;> rfl) (by simp only [maxLen]; omega) (by omega) hws ?_
              intro v6 vx513 hown6 hg6 hat6
              have hown7 : (vx513).ownsRow w.heap.size 126 3 v6 (q.out ++ [(⟨xt, j, hu2⟩ : Chg)]).length (chgShape.flat (q.out ++ [⟨xt, j, hu2⟩])) := by rw [List.length_append, chgShape.flat_snoc]; exact hown6
              have hE6 := hE5.grow7 hg6 hown7
              refine hK.out _ _ ⟨hg6.cell hHeld.1 (fun e => HN1.out e.symm), hg6.cell hHeld.2 (fun e => HN2.out e.symm)⟩ (fun hHeld => ?_)
              clear hK K hown6 hg6 hat6 hE5 hown7 hws hR9
              try simp only [Act.put, List.setIfInBounds_toArray, List.set_cons_zero, List.set_cons_succ]
              refine take_one (i := 11) (oi := ?oi_514) (v := ?v_514) ?hi_514 (by kernel_rfl) (by kernel_rfl) (by kernel_rfl) ?hq_514 ?hw_514 ?hy_514 (by assumption) ?rest_514
              case hi_514 => (simp only [List.getElem?_toArray, List.getElem?_cons_succ, List.getElem?_cons_zero]; rfl)
              case hq_514 => exact fun _ _ _ h => h
              case hw_514 => rfl
              case hy_514 => (intro w' hSw; (have u1 := hSw.1; have u2 := hSw.2); go_simp; first | done | with_reducible rfl)
              try simp only [Act.put, List.setIfInBounds_toArray, List.set_cons_zero, List.set_cons_succ]
              refine wpAnyH_done (by kernel_rfl) (NoPanic.normal ?_) _
              go_wp2
              go_roundg (m - (k + 1))
              case measure => omega
              case rel => exact ⟨k + 1, _, ⟨_, q.l, q.asked, q.out ++ [⟨xt, j, hu2⟩]⟩, by go_num, by omega, rfl, hE6, HS1, HQ1, HGL1⟩
          · have ha2 : h.asked = false := by simpa using ha
            have HQ1 := Lib.hid (show q = (L.take (k + 1)).foldl (tickS s.r (s.now + 1)) q0 by
              rw [HT.out]
              unfold tickS
              dsimp only
              rw [← HJ.out, HGL.out.1, HG.out]
              dsimp only
              rw [if_pos HXE.out, if_neg ha])
            obtain ⟨p0, p1, p2, _⟩ := PH.cells3
            rw [ha2] at p1
            clear ha ha2 HT o1 o2 o3 o4 hB2 PH
            go_wp2
            go_roundg (m - (k + 1))
            case measure => omega
            case rel => exact ⟨k + 1, sk, q, by go_num, by omega, rfl, hE2, HS, HQ1, HGL⟩
        · have e1 : (xi == 2 * j) = false := by simp [hxe]
          have HXE := Lib.hid hxe
          clear hxe
          refine wp_region_quiet_under (by kernel_rfl) (by kernel_rfl) ?_
          repeat (go_big_quiet_step (((go_at_call 62; exact calls_under_same (CLate _)))))
          refine wpQuiet_nil ?_
          intro wu hw'
          obtain ⟨pq, hw''⟩ := hw'
          have hU := below_eq hw''
          clear hw'' pq
          have hE2 := hE1.keep hU
          have XB2 := XB.keep hU
          have hB2 := hE2.bd.1
          clear hE1 XB hB1 PX U0 hU
          have PH := (hB2.host j h HG.out).1
          have HT1 := Lib.hid (show tickS s.r (s.now + 1) q ⟨xt, xi⟩ = ⟨updG sk.G j ⟨h.up, true, h.row, h.b⟩, addL (s.now + 1) (addL (s.now + 1) sk.l ⟨xt + s.r.timeout, 2 * j⟩) ⟨xt + s.r.every, 2 * j + 1⟩, q.asked ++ [j], q.out⟩ by
            unfold tickS
            dsimp only
            rw [← HJ.out, HGL.out.1, HG.out, HGL.out.2.1]
            dsimp only
            rw [if_neg HXE.out])
          have HGR := Lib.hid (show RowsG (updG sk.G j ⟨h.up, true, h.row, h.b⟩) from by
            have h1 : RowsG sk.G := by rw [← HGL.out.1]; exact HGL.out.2.2
            exact h1.upd HROW.out)
          obtain ⟨p0, p1, p2, _⟩ := PH.cells3
          obtain ⟨f0, f1, f2⟩ := PH.free3
          have HT2 := Lib.hid (hB2.turn (k := ⟨h.up, true, h.row, h.b⟩) HG.out rfl (hB2.host j h HG.out).2.2 (PH.setTo 1 (.bool true) rfl) ((Mod.refl (fun g => g = h.b) wu).setCell (p := ⟨h.b, 1, none⟩) (.inl (show h.b = h.b from rfl)) (.bool true)))
          clear hB2 PH
          go_upto_region 12 with (fail)
          have hT2 := HT2.out
          generalize wu.setCell ⟨h.b, 1, none⟩ (.bool true) = wv at *
          have hE3 := hE2.step hT2
          have XB3 := XB2.step hT2
          clear hE2 XB2 hT2 HT2 p0 p1 p2 f0 f1 f2
          have hws := hE3.below
          have hla := HLQ.out.2.1
          go_upto_region 13 with (at_builtin; go_loud (refine wpList_append_any _ rfl (.tmp 46) (.tmp 48) _ rfl w.heap.size 3 iI _ 1 8 Try.underlying60 hiI hzI hzI1 hzI2 rfl (by decide) _ q.asked.length (q.asked.map (Value.int .i64)) rfl (hE3.oa.alloc _) _ (some ⟨wv.heap.size, 0, none⟩) 1 1 [.int .i64 j] rfl (readsK_new wv 3 1 [.int .i64 j] rfl) (by intro u hu; simp at hu; subst hu; rfl) (by simp only [maxLen]; omega) (by omega) (by simp; omega) ?_; intro v6 w6 hown6 hg6 hat6))
          have hown7 : w6.ownsRow w.heap.size 3 1 v6 (q.asked ++ [j]).length ((q.asked ++ [j]).map (Value.int .i64)) := by rw [List.length_append, List.map_append]; exact hown6
          have hA3 := (Below.refl wv.heap.size wv).alloc (Nat.le_refl _) (.cells #[.int .i64 j] 3)
          have hE4 := hE3.keep hA3
          have XB4 := (XB3.keep hA3).grow hE4.oa (by decide) hg6
          have hE5 := hE4.grow6 hg6 hown7
          clear hown6 hg6 hat6 hE3 hE4 XB3 hA3 hown7 hws
          obtain ⟨s5, hs5⟩ : ∃ s5, s5 = sk.turn j ⟨h.up, true, h.row, h.b⟩ := ⟨_, rfl⟩
          have HS5 := Lib.hid hs5
          rw [← hs5] at hE5 XB4
          have p1 : s5.bb = s.bb := by rw [hs5]; exact o1
          have p2 : s5.wb = s.wb := by rw [hs5]; exact o2
          have p3 : s5.mb = s.mb := by rw [hs5]; exact o3
          have p4 : s5.r = s.r := by rw [hs5]; exact o4
          have p5 : s5.now = s.now + 1 := by rw [hs5]; exact HS.out.2.1
          have HLN5 := Lib.hid (show s5.l = sk.l ∧ s5.l.length ≤ 3000 from by rw [hs5]; exact ⟨rfl, by show sk.l.length ≤ 3000; rw [← HGL.out.2.1]; exact HLQ.out.1⟩)
          clear hs5 o1 o2 o3 o4
          have hB5 := hE5.bd.1
          have HA1 := hB5.blk.cells6
          unfold Bd.cells at HA1
          rw [p1, p2, p3, p4] at HA1
          obtain ⟨c0, c1, c2, c3, c4, c5, _⟩ := HA1
          obtain ⟨x0, x1, _⟩ := XB4.blk.cells2
          have U0 := cell_under c0
          have U2 := cell_under c2
          have UX := cell_under x0
          have hxt := HXT.out
          dsimp only at hxt
          have hxl := HX.out.1
          unfold I64 at hxl
          dsimp only at hxl
          have hadd2 : IntKind.i64.wrap (xt + s.r.timeout) = xt + s.r.timeout := IntWalk.i64_in _ (by unfold RightR at hr; omega)
          have hadd3 : IntKind.i64.wrap (xt + s.r.every) = xt + s.r.every := IntWalk.i64_in _ (by unfold RightR at hr; omega)
          have HWF1 := Lib.hid (show itShape.Wf ⟨xt + s.r.timeout, 2 * j⟩ from by show I64 (xt + s.r.timeout) ∧ I64 (2 * j); unfold RightR at hr; have := HIK.out; unfold I64; omega)
          have HWF2 := Lib.hid (show itShape.Wf ⟨xt + s.r.every, 2 * j + 1⟩ from by show I64 (xt + s.r.every) ∧ I64 (2 * j + 1); unfold RightR at hr; have := HIK.out; unfold I64; omega)
          clear c0 c1 c2 c3 c4 c5 x0 x1 hxt hxl
          refine wp_region_under_tail 15 (by kernel_rfl) (by kernel_rfl) ?_
          simp only [List.take_succ_cons, List.take_zero, List.drop_succ_cons, List.drop_zero]
          repeat (go_big_quiet_step (((go_at_call 62; exact calls_under_same (CLate _)))))
          refine wpQuiet_nil ?_
          intro wu5 hw'
          obtain ⟨pq, hw''⟩ := hw'
          have hU := below_eq hw''
          clear hw'' pq
          have hE6 := hE5.keep hU
          have XB6 := XB4.keep hU
          have hB6 := hE6.bd.1
          clear hE5 XB4 hB5 hU U0 U2 UX
          have CD := wheel_Add hB6.wh ⟨xt + s.r.timeout, 2 * j⟩ HWF1.out (by have := HLN5.out.2; omega)
          rw [p2, p5] at CD
          dsimp only at CD
          go_wp2_with fail
          refine CD.mono ?_; rintro e w7 ⟨rfl, hWT⟩
          rw [← p2] at hWT
          have hB6' := hB6
          obtain ⟨V7, hT7⟩ := hB6.wheel hWT
          obtain ⟨s7, hs7⟩ : ∃ s7, s7 = s5.wheel V7 (addL (s.now + 1) s5.l ⟨xt + s.r.timeout, 2 * j⟩) (s.now + 1) := ⟨_, rfl⟩
          rw [← hs7] at hT7
          have hE7 := hE6.step hT7
          have XB7 := XB6.step hT7
          clear hB6 hB6' hWT hT7 hE6 XB6 CD
          have r1 : s7.bb = s.bb := by rw [hs7]; exact p1
          have r2 : s7.wb = s.wb := by rw [hs7]; exact p2
          have r3 : s7.mb = s.mb := by rw [hs7]; exact p3
          have r4 : s7.r = s.r := by rw [hs7]; exact p4
          have r5 : s7.now = s.now + 1 := by rw [hs7]; rfl
          have HLN7 := Lib.hid (show s7.l = addL (s.now + 1) sk.l ⟨xt + s.r.timeout, 2 * j⟩ ∧ s7.l.length ≤ 3001 ∧ s7.n = s.n ∧ s7.G = updG sk.G j ⟨h.up, true, h.row, h.b⟩ from by
            have h1 := HLN5.out
            rw [hs7]
            refine ⟨?_, ?_, ?_, ?_⟩
            · show addL (s.now + 1) s5.l _ = _
              rw [h1.1]
            · show (addL (s.now + 1) s5.l _).length ≤ 3001
              have := addL_le (s.now + 1) s5.l ⟨xt + s.r.timeout, 2 * j⟩
              omega
            · show s5.n = s.n
              rw [HS5.out]; exact HS.out.2.2
            · show s5.G = _
              rw [HS5.out]; rfl)
          clear hs7 p1 p2 p3 p4 p5 HLN5 HS5 HWF1
          have hB7 := hE7.bd.1
          have HA1 := hB7.blk.cells6
          unfold Bd.cells at HA1
          rw [r1, r2, r3, r4] at HA1
          obtain ⟨c0, c1, c2, c3, c4, c5, _⟩ := HA1
          obtain ⟨x0, x1, _⟩ := XB7.blk.cells2
          have U0 := cell_under c0
          have U2 := cell_under c1
          have UX := cell_under x0
          clear c0 c1 c2 c3 c4 c5 x0 x1
          go_upto_region 14 with (fail)
          refine wp_region_under_tail 15 (by kernel_rfl) (by kernel_rfl) ?_
          simp only [List.take_succ_cons, List.take_zero, List.drop_succ_cons, List.drop_zero]
          repeat (go_big_quiet_step (((go_at_call 61; exact calls_under_same (CAsk _)))))
          refine wpQuiet_nil ?_
          intro wu6 hw'
          obtain ⟨pq, hw''⟩ := hw'
          have hU := below_eq hw''
          clear hw'' pq
          have hE8 := hE7.keep hU
          have hB8 := hE8.bd.1
          clear hE7 XB7 hB7 hU U0 U2 UX
          have CD := wheel_Add hB8.wh ⟨xt + s.r.every, 2 * j + 1⟩ HWF2.out (by have := HLN7.out.2.1; omega)
          rw [r2, r5] at CD
          dsimp only at CD
          go_wp2_with fail
          refine CD.mono ?_; rintro e w9 ⟨rfl, hWT⟩
          rw [← r2] at hWT
          obtain ⟨V9, hT9⟩ := hB8.wheel hWT
          have hE9 := hE8.step hT9
          have HQ1 := Lib.hid (show (⟨updG sk.G j ⟨h.up, true, h.row, h.b⟩, addL (s.now + 1) (addL (s.now + 1) sk.l ⟨xt + s.r.timeout, 2 * j⟩) ⟨xt + s.r.every, 2 * j + 1⟩, q.asked ++ [j], q.out⟩ : TS) = (L.take (k + 1)).foldl (tickS s.r (s.now + 1)) q0 from by rw [HT.out, HT1.out])
          have HGL1 := Lib.hid (show updG sk.G j ⟨h.up, true, h.row, h.b⟩ = (s7.wheel V9 (addL (s.now + 1) s7.l ⟨xt + s.r.every, 2 * j + 1⟩) (s.now + 1)).G ∧ addL (s.now + 1) (addL (s.now + 1) sk.l ⟨xt + s.r.timeout, 2 * j⟩) ⟨xt + s.r.every, 2 * j + 1⟩ = (s7.wheel V9 (addL (s.now + 1) s7.l ⟨xt + s.r.every, 2 * j + 1⟩) (s.now + 1)).l ∧ RowsG (updG sk.G j ⟨h.up, true, h.row, h.b⟩) from
            ⟨HLN7.out.2.2.2.symm, by show _ = addL (s.now + 1) s7.l _; rw [HLN7.out.1], HGR.out⟩)
          have HS1 := Lib.hid (show OneB s (s7.wheel V9 (addL (s.now + 1) s7.l ⟨xt + s.r.every, 2 * j + 1⟩) (s.now + 1)) ∧ (s7.wheel V9 (addL (s.now + 1) s7.l ⟨xt + s.r.every, 2 * j + 1⟩) (s.now + 1)).now = s.now + 1 ∧ (s7.wheel V9 (addL (s.now + 1) s7.l ⟨xt + s.r.every, 2 * j + 1⟩) (s.now + 1)).n = s.n from ⟨⟨r1, r2, r3, r4⟩, rfl, HLN7.out.2.2.1⟩)
          clear hB8 hWT hT9 hE8 CD HT HT1 HLN7 HGR HG r1 r2 r3 r4 r5
          go_wp2
          go_roundg (m - (k + 1))
          case measure => omega
          case rel => exact ⟨k + 1, _, ⟨_, _, q.asked ++ [j], q.out⟩, by go_num, by omega, rfl, hE9, HS1, HQ1, HGL1⟩
    · obtain rfl : k = m := by omega
      have hge : ¬ (k : Int) < (k : Int) := by omega
      have HDONE := Lib.hid hE
      have HQ2 := Lib.hid (show q = (s.l.take (dueN (s.now + 1) s.l)).foldl (tickS s.r (s.now + 1)) ⟨s.G, s.l.drop (dueN (s.now + 1) s.l), [], []⟩ by
        rw [HQ.out, List.take_of_length_le (by rw [HM.out]; exact Nat.le_refl _), HQ0.out, HL.out])
      clear hE
      go_wp2
      go_ret2
      exact ⟨_, _, sk, q, HQ2.out, rfl, HDONE.out.bd, HS.out.1, HS.out.2.1, HS.out.2.2, HGL.out.1.symm, HGL.out.2.1.symm, HDONE.out.oa, HDONE.out.oc⟩
end Go.Proofs.Ytcpfekhpbjkgeaa
end
