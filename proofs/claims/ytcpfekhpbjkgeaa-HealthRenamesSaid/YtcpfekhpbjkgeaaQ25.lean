/- Lemmas for the claim's proof: HlA HlB HlC HlD0. -/
import Derived.ChangeKeysEq
import Derived.Test.YtcpfekhpbjkgeaaQ22
import Derived.Test.YtcpfekhpbjkgeaaQ24
section
/- Structs compared: what turned, and hosts. The law's ticks. -/
set_option linter.unusedVariables false
namespace Go.Proofs.Ytcpfekhpbjkgeaa
open Go.RowKit Go.Maps
set_option maxHeartbeats 8000000
set_option maxRecDepth 100000
def sameChg (a b : Chg) : Bool := a.t == b.t && a.id == b.id && a.up == b.up
theorem sameChg_self (x : Chg) : sameChg x x = true := by unfold sameChg; simp
theorem eq_chg (x y : Chg) (w : World) : (Op.equalIn 10000 126 (.agg #[.int .i64 x.t, .int .i64 x.id, .bool x.up]) (.agg #[.int .i64 y.t, .int .i64 y.id, .bool y.up])).run Try.prog w = .ok (sameChg x y) w := by
  obtain ⟨x1, x2, x3⟩ := x
  obtain ⟨y1, y2, y3⟩ := y
  unfold sameChg
  dsimp only
  go_simp
  (repeat' split) <;> simp_all
theorem eqG_chg (op : BinOp) (a b : Operand) (x y : Chg) (w : World) : (eqGuard op 126 a b (.agg #[.int .i64 x.t, .int .i64 x.id, .bool x.up]) (.agg #[.int .i64 y.t, .int .i64 y.id, .bool y.up])).run Try.prog w = .ok () w := by
  go_simp
theorem quiet_neq_chg {A : Act} {o : Oper} {x y : Operand} {t : TypeId} {a b : Chg} {E : Bool} {C : World → Prop} {K : Act → Prop} (hE : (!sameChg a b) = E) (ho : o.op = .binOp .neq 126 x y t) (hx : A.eval x = .agg #[.int .i64 a.t, .int .i64 a.id, .bool a.up]) (hy : A.eval y = .agg #[.int .i64 b.t, .int .i64 b.id, .bool b.up])
    (h : K (A.put o.dst (.bool E))) : o.quiet Try.prog A C K :=
  ⟨.bool E, fun w _ => by
    unfold Oper.quietAt execOp
    simp only [ho, hx, hy, Sem.run_bind, eqG_chg .neq x y a b w, run_neq_struct, eq_chg a b w, Result.andThen_ok, Sem.run_pure, hE]
    exact ⟨rfl, rfl⟩, h⟩
/-- What is seen of a host, as a struct. -/
structure Hst where
  up : Bool
  asked : Bool
  row : Int
def sameHst (a b : Hst) : Bool := a.up == b.up && a.asked == b.asked && a.row == b.row
theorem sameHst_self (x : Hst) : sameHst x x = true := by unfold sameHst; simp
theorem eq_hst (x y : Hst) (w : World) : (Op.equalIn 10000 72 (.agg #[.bool x.up, .bool x.asked, .int .i64 x.row]) (.agg #[.bool y.up, .bool y.asked, .int .i64 y.row])).run Try.prog w = .ok (sameHst x y) w := by
  obtain ⟨x1, x2, x3⟩ := x
  obtain ⟨y1, y2, y3⟩ := y
  unfold sameHst
  dsimp only
  go_simp
  (repeat' split) <;> simp_all
theorem eqG_hst (op : BinOp) (a b : Operand) (x y : Hst) (w : World) : (eqGuard op 72 a b (.agg #[.bool x.up, .bool x.asked, .int .i64 x.row]) (.agg #[.bool y.up, .bool y.asked, .int .i64 y.row])).run Try.prog w = .ok () w := by
  go_simp
theorem quiet_neq_hst {A : Act} {o : Oper} {x y : Operand} {t : TypeId} {a b : Hst} {E : Bool} {C : World → Prop} {K : Act → Prop} (hE : (!sameHst a b) = E) (ho : o.op = .binOp .neq 72 x y t) (hx : A.eval x = .agg #[.bool a.up, .bool a.asked, .int .i64 a.row]) (hy : A.eval y = .agg #[.bool b.up, .bool b.asked, .int .i64 b.row])
    (h : K (A.put o.dst (.bool E))) : o.quiet Try.prog A C K :=
  ⟨.bool E, fun w _ => by
    unfold Oper.quietAt execOp
    simp only [ho, hx, hy, Sem.run_bind, eqG_hst .neq x y a b w, run_neq_struct, eq_hst a b w, Result.andThen_ok, Sem.run_pure, hE]
    exact ⟨rfl, rfl⟩, h⟩
theorem ownC_at {w : World} {B n c : Nat} {A : Option Addr} {l : List Chg} (h : w.ownsRow B 126 3 (.slice A n c) n (chgShape.flat l)) {k : Nat} (hk : k < n) : ∃ g, A = some ⟨g, 0, none⟩ ∧ w.cell? ⟨g, k * 3, none⟩ = some (.int .i64 (l.getD k default).t) ∧ w.cell? ⟨g, k * 3 + 1, none⟩ = some (.int .i64 (l.getD k default).id) ∧ w.cell? ⟨g, k * 3 + 2, none⟩ = some (.bool (l.getD k default).up) := by
  have hl : l.length = n := ownK_len (C := chgShape) h
  have hg0 : ∃ g, A = some ⟨g, 0, none⟩ := by
    rcases h.2 with ⟨e, e2⟩ | ⟨g, cap, cur, e, _⟩
    · omega
    · cases e; exact ⟨g, rfl⟩
  obtain ⟨g, rfl⟩ := hg0
  obtain ⟨ad, e, hb, hc⟩ := (ownK_reads h).2 (by omega)
  cases e
  have hk2 : k < l.length := by omega
  have e2 : l[k]? = some (l.getD k default) := by rw [List.getD_eq_getElem?_getD, List.getElem?_eq_getElem hk2]; rfl
  have at_ : ∀ j u, j < 3 → (encChg (l.getD k default))[j]? = some u → w.cell? ⟨g, k * 3 + j, none⟩ = some u := fun j u hj hu => by
    have e0 : (⟨g, k * 3 + j, none⟩ : Addr) = (⟨g, 0, none⟩ : Addr).add (k * 3 + j) := by unfold Addr.add; split <;> simp_all
    rw [e0]
    refine hc _ u ?_
    rw [show k * 3 + j = k * chgShape.size + j from rfl, chgShape.flat_at _ _ _ hj, e2]
    exact hu
  exact ⟨g, rfl, at_ 0 _ (by decide) rfl, at_ 1 _ (by decide) rfl, at_ 2 _ (by decide) rfl⟩
end Go.Proofs.Ytcpfekhpbjkgeaa
end
section
/- The law's ticks. -/
set_option linter.unusedVariables false
namespace Go.Proofs.Ytcpfekhpbjkgeaa
open Go.RowKit Go.Maps
set_option maxHeartbeats 8000000
set_option maxRecDepth 100000
theorem askOut_len (z : Int) (L : List Ph) : (L.flatMap (askOut z)).length ≤ L.length := by
  induction L with
  | nil => simp
  | cons y K ih =>
    rw [List.flatMap_cons, List.length_append, List.length_cons]
    have : (askOut z y).length ≤ 1 := by unfold askOut; split <;> simp
    omega
theorem missOut_len (r : Rul) (z : Int) (L : List Ph) : (L.flatMap (missOut r z)).length ≤ L.length := by
  induction L with
  | nil => simp
  | cons y K ih =>
    rw [List.flatMap_cons, List.length_append, List.length_cons]
    have : (missOut r z y).length ≤ 1 := by unfold missOut; split <;> simp
    omega
theorem law22_ticks {W : Scene} {w : World} {s : Bd} {pb : Nat} {v : Value} {L : List Ph} {N : Nat} (h : Both W w s pb v L N) (hN : N ≤ 1000) :
    Calls Try.prog 35 #[.pointer (some ⟨s.bb, 0, none⟩), .pointer (some ⟨pb, 0, none⟩)] w fun e w' => e = .returned (.bool true) ∧ ∃ s', Both W w' s' pb v (L.map (tickPh s.r (s.now + 1))) (N + 1) ∧ OneB s s' ∧ s'.now = s.now + 1 := by
  have hnow := h.now
  have hf := h.few
  have CT := solo_Tick h.bd h.sim h.rt h.few (by omega)
  have HH := Lib.hid h
  have hla := askOut_len (s.now + 1) L
  have hlo := missOut_len s.r (s.now + 1) L
  clear h
  go_enter Try.func35, Try.ntmps35
  go_wp2_with fail
  refine CT.mono ?_
  rintro e w1 ⟨va, vo, s', rfl, hT, hO, hS, hn, hm, hOa, hOc⟩
  have hA := HH.out.toA.board hT
  have hev := right_every HH.out.rt
  have hnw0 := HH.out.bd.wh.n0
  have CL := law22_tick hA.pl HH.out.rt HH.out.sim.ok hnw0 (by omega) hf (Nat.le_trans HH.out.below.size hT.2.1.size)
  clear CT
  go_wp2_with fail
  refine CL.mono ?_
  rintro e w2 ⟨va2, vo2, rfl, hE⟩
  have hOa1 := ownK_mod hOa hE.md (fun g hg => own_notpl hA.pl hOa (by decide) (by decide) hg)
  have hOc1 := ownK_mod hOc hE.md (fun g hg => own_notpl hA.pl hOc (by decide) (by decide) hg)
  have hb2 : Both W w2 s' pb v (L.map (tickPh s.r (s.now + 1))) (N + 1) := hA.plain ⟨by rw [hn, hO.2.2.2]; exact hE.pl, hE.md, fun g hg => .inl hg⟩ hS (by rw [hO.2.2.2]; exact HH.out.rt) (by rw [List.length_map]; exact hf) (by rw [hn]; omega) (by rw [hm]; have := HH.out.n; omega)
  have HB2 := Lib.hid (And.intro hb2 (And.intro hO hn))
  have hOa2 := hE.oa
  have hOc2 := hE.oc
  clear CL hOa hOc hE hA hb2 hT hS hn hm hO HH hnow
  generalize L.flatMap (askOut (s.now + 1)) = la at *
  generalize L.flatMap (missOut s.r (s.now + 1)) = lo at *
  obtain ⟨A1, c1, rfl⟩ := ownK_sl hOa1
  obtain ⟨A2, c2, rfl⟩ := ownK_sl hOa2
  obtain ⟨A3, c3, rfl⟩ := ownK_sl hOc1
  obtain ⟨A4, c4, rfl⟩ := ownK_sl hOc2
  have k1 := ownK_cap hOa1
  have k2 := ownK_cap hOa2
  have k3 := ownK_cap hOc1
  have k4 := ownK_cap hOc2
  obtain ⟨m, hm⟩ : ∃ m, m = la.length := ⟨_, rfl⟩
  obtain ⟨q, hq⟩ : ∃ q, q = lo.length := ⟨_, rfl⟩
  have HM := Lib.hid hm
  have HQ := Lib.hid hq
  rw [← hm] at hOa1 hOa2 k1 k2 hla
  rw [← hq] at hOc1 hOc2 k3 k4 hlo
  rw [← hm, ← hq]
  clear hm hq hev hnw0
  go_upto_region 6 with (fail)
  go_loopg [9] m (fun gk s9 wr => ∃ k : Nat, s9 = .int .i64 k ∧ k ≤ m ∧ gk = m - k ∧ Below w2.heap.size w2 wr)
  case atStart => exact ⟨0, by go_num, Nat.zero_le _, rfl, Below.refl _ _⟩
  case round =>
    obtain ⟨k, rfl, hk, rfl, hW⟩ := hrel
    by_cases hkm : k < m
    · have hkk : (k : Int) < (m : Int) := by omega
      obtain ⟨a1, e1, d1⟩ := ownI_at (ownK_keep hOa1 hW) HM.out.symm hkm
      obtain ⟨a2, e2, d2⟩ := ownI_at (ownK_keep hOa2 hW) HM.out.symm hkm
      subst e1 e2
      generalize la.getD k 0 = y at *
      have U1 := cell_under d1
      have U2 := cell_under d2
      clear d1 d2
      go_upto_region 8 with (fail)
      refine wp_region_quiet_under (by kernel_rfl) (by kernel_rfl) ?_
      repeat (go_big_quiet_step ((fail)))
      refine wpQuiet_nil ?_
      intro wu hw'
      obtain ⟨pq, hw''⟩ := hw'
      have hU := below_eq hw''
      clear hw'' pq
      have hW2 := below_step hW hU
      clear hW hU U1 U2
      go_wp2
      go_roundg (m - (k + 1))
      case measure => omega
      case rel => exact ⟨k + 1, by go_num, by omega, rfl, hW2⟩
    · obtain rfl : k = m := by omega
      have hge : ¬ (k : Int) < (k : Int) := by omega
      obtain ⟨wo, hwo⟩ : ∃ wo, wo = wr := ⟨_, rfl⟩
      subst hwo
      have HW := Lib.hid hW
      clear hOa1 hOa2 k1 k2
      go_upto_region 11 with (fail)
      go_loopg [10] q (fun gk s10 wr => ∃ j : Nat, s10 = .int .i64 j ∧ j ≤ q ∧ gk = q - j ∧ Below w2.heap.size w2 wr)
      case atStart => exact ⟨0, by go_num, Nat.zero_le _, rfl, HW.out⟩
      case round =>
        clear hW
        obtain ⟨j, rfl, hj, rfl, hW⟩ := hrel
        by_cases hjq : j < q
        · have hjj : (j : Int) < (q : Int) := by omega
          obtain ⟨a1, e1, x0, x1, x2⟩ := ownC_at (ownK_keep hOc1 hW) hjq
          obtain ⟨a2, e2, y0, y1, y2⟩ := ownC_at (ownK_keep hOc2 hW) hjq
          subst e1 e2
          obtain ⟨X, hX⟩ : ∃ X, X = lo.getD j default := ⟨_, rfl⟩
          obtain ⟨Y, hY⟩ : ∃ Y, Y = lo.getD j default := ⟨_, rfl⟩
          have HXY := Lib.hid (show sameChg X Y = true by rw [hX, hY]; exact sameChg_self _)
          rw [← hX] at x0 x1 x2
          rw [← hY] at y0 y1 y2
          clear hX hY
          have U0 := cell_under x0
          have U1 := cell_under x1
          have U2 := cell_under x2
          have V0 := cell_under y0
          have V1 := cell_under y1
          have V2 := cell_under y2
          clear x0 x1 x2 y0 y1 y2
          obtain ⟨EV, hEV⟩ : ∃ EV, EV = !sameChg X Y := ⟨_, rfl⟩
          have HEV := Lib.hid (show EV = false by rw [hEV, HXY.out]; rfl)
          go_upto_region 13 with (fail)
          refine wp_region_quiet_under (by kernel_rfl) (by kernel_rfl) ?_
          repeat (go_big_quiet_step (fail))
          go_big_quiet_want
          refine quiet_neq_chg (a := X) (b := Y) (E := EV) hEV.symm rfl rfl rfl ?_
          simp only [Act.put, List.setIfInBounds_toArray, List.set_cons_zero, List.set_cons_succ]
          go_big_quiet_on
          repeat (go_big_quiet_step (fail))
          refine wpQuiet_nil ?_
          intro wu hw'
          obtain ⟨pq, hw''⟩ := hw'
          have hU := below_eq hw''
          clear hw'' pq
          have hW2 := below_step hW hU
          clear hW hU U0 U1 U2 V0 V1 V2 hEV
          rw [HEV.out]
          go_wp2
          go_roundg (q - (j + 1))
          case measure => omega
          case rel => exact ⟨j + 1, by go_num, by omega, rfl, hW2⟩
        · obtain rfl : j = q := by omega
          have hge2 : ¬ (j : Int) < (j : Int) := by omega
          have HW2 := Lib.hid hW
          clear hW
          go_wp2
          go_ret
          exact ⟨rfl, _, HB2.out.1.keep HW2.out, HB2.out.2.1, HB2.out.2.2⟩
end Go.Proofs.Ytcpfekhpbjkgeaa
end
section
/- The law's same. -/
set_option linter.unusedVariables false
namespace Go.Proofs.Ytcpfekhpbjkgeaa
open Go.RowKit Go.Maps
set_option maxHeartbeats 8000000
set_option maxRecDepth 100000
theorem take_split {L : List Ph} {i : Nat} (hi : i < L.length) : L = L.take i ++ L.getD i default :: L.drop (i + 1) := by
  have e : L.drop i = L.getD i default :: L.drop (i + 1) := by
    rw [List.drop_eq_getElem_cons hi, List.getD_eq_getElem?_getD, List.getElem?_eq_getElem hi]; rfl
  rw [← e, List.take_append_drop]
theorem up_at {L : List Ph} {i : Nat} (hi : i < L.length) (hu : (L.getD i default).up = true) : ((L.take i).filter Ph.up).length < (L.filter Ph.up).length ∧ ((L.filter Ph.up).map Ph.id).getD ((L.take i).filter Ph.up).length 0 = (L.getD i default).id := by
  have e : L.filter Ph.up = (L.take i).filter Ph.up ++ L.getD i default :: (L.drop (i + 1)).filter Ph.up := by
    conv => lhs; rw [take_split hi]
    rw [List.filter_append, List.filter_cons_of_pos hu]
  rw [e]
  refine ⟨by simp, ?_⟩
  rw [List.map_append, List.getD_eq_getElem?_getD, List.getElem?_append_right (by simp)]
  simp
theorem up_step {L : List Ph} {i : Nat} (hi : i < L.length) : ((L.take (i + 1)).filter Ph.up).length = ((L.take i).filter Ph.up).length + if (L.getD i default).up = true then 1 else 0 := by
  rw [takeP_next hi, List.filter_append, List.length_append]
  congr 1
  by_cases c : (L.getD i default).up = true
  · rw [if_pos c, List.filter_cons_of_pos c]; rfl
  · rw [if_neg c, List.filter_cons_of_neg c]; rfl
theorem map_getD {L : List Ph} {i : Nat} (hi : i < L.length) : (L.map Ph.id).getD i 0 = (L.getD i default).id := by
  rw [List.getD_eq_getElem?_getD, List.getElem?_map, List.getD_eq_getElem?_getD, List.getElem?_eq_getElem hi]; rfl
theorem ownI_row {w : World} {B n c : Nat} {A : Option Addr} {l : List Int} (h : w.ownsRow B 3 1 (.slice A n c) n (l.map (Value.int .i64))) (hl : l.length = n) {k : Nat} (hk : k < n) : ∃ g, A = some ⟨g, 0, none⟩ ∧ w.cell? ⟨g, k, none⟩ = some (.int .i64 (l.getD k 0)) := by
  have hg0 : ∃ g, A = some ⟨g, 0, none⟩ := by
    rcases h.2 with ⟨e, e2⟩ | ⟨g, cap, cur, e, _⟩
    · omega
    · cases e; exact ⟨g, rfl⟩
  obtain ⟨g, rfl⟩ := hg0
  obtain ⟨ad, e, hc⟩ := ownI_at h hl hk
  cases e
  have e0 : (⟨g, k, none⟩ : Addr) = (⟨g, 0, none⟩ : Addr).add k := by unfold Addr.add; split <;> simp_all
  exact ⟨g, rfl, by rw [e0]; exact hc⟩
theorem law22_same {W : Scene} {w : World} {s : Bd} {pb : Nat} {v : Value} {L : List Ph} {N : Nat} (h : Both W w s pb v L N) (hN : N ≤ 1000) :
    Calls Try.prog 29 #[.pointer (some ⟨s.bb, 0, none⟩), .pointer (some ⟨pb, 0, none⟩)] w fun e w' => e = .returned (.bool true) ∧ Below w.heap.size w w' := by
  have hf := h.few
  have hsn := h.n
  have HH := Lib.hid h
  have CI := solo_Ids h.bd h.sim (by omega)
  go_enter Try.func29, Try.ntmps29
  go_wp2_with fail
  refine CI.mono ?_
  rintro e w1 ⟨⟨vi, rfl, hOi⟩, hx1⟩
  have h1 := h.keep hx1
  obtain ⟨A1, k1, rfl⟩ := ownK_sl hOi
  have hc1 := ownK_cap hOi
  obtain ⟨A, c, rfl⟩ := ownK_sl h1.pl.row
  have hc2 := ownK_cap h1.pl.row
  obtain ⟨M, hM⟩ : ∃ M, M = L.length := ⟨_, rfl⟩
  have HM := Lib.hid hM
  obtain ⟨p0, p1, p2, p3, p4, p5, _⟩ := h1.pl.blk.cells6
  obtain ⟨b0, b1, b2, b3, b4, b5, _⟩ := h1.bd.blk.cells6
  rw [← hM] at p4 hOi hc1 hc2 hf ⊢
  have U0 := cell_under p4
  have U1 := cell_under p5
  have U2 := cell_under b0
  have HB1 := Lib.hid h1
  clear h hM p0 p1 p2 p3 p4 p5 b0 b1 b2 b3 b4 b5 CI
  go_upto_region 2 with (fail)
  refine wp_region_quiet_under (by kernel_rfl) (by kernel_rfl) ?_
  repeat (go_big_quiet_step (((go_at_call 14; exact calls_under_same (wheel_Now (HB1.out.bd.keep (under_below _ _)).wh)))))
  refine wpQuiet_nil ?_
  intro wu hw'
  obtain ⟨pq, hw''⟩ := hw'
  have hU := below_eq hw''
  clear hw'' pq
  have h2 := h1.keep hU
  have hOi2 := ownK_keep hOi hU
  have hx2 := below_step hx1 hU
  clear U0 U1 U2 h1 hOi hx1 hU HB1
  have CU := solo_Up h2.bd h2.sim h2.few (by omega)
  go_wp2_with fail
  refine CU.mono ?_
  rintro e w2 ⟨⟨vu, rfl, hOu⟩, hx3⟩
  have h3 := h2.keep hx3
  have hOi3 := ownK_keep hOi2 hx3
  have hx4 := below_step hx2 hx3
  obtain ⟨A3, k3, rfl⟩ := ownK_sl hOu
  have hc3 := ownK_cap hOu
  have HFL := Lib.hid (show (L.filter Ph.up).length ≤ L.length from List.length_filter_le _ _)
  obtain ⟨Q, hQ⟩ : ∃ Q, Q = (L.filter Ph.up).length := ⟨_, rfl⟩
  have HQ := Lib.hid hQ
  rw [← hQ] at hOu hc3 ⊢
  have H3 := Lib.hid h3
  clear CU h2 hOi2 hx2 hx3 hQ h3 HH
  go_upto_region 7 with (fail)
  go_loopg [6, 8, 9, 10] M (fun gk s6 s8 s9 s10 wr => ∃ k : Nat, s8 = .int .i64 k ∧ s6 = .int .i64 ((L.take k).filter Ph.up).length ∧ k ≤ M ∧ gk = M - k ∧ Below w2.heap.size w2 wr)
  case atStart => exact ⟨0, by go_num, by go_num, Nat.zero_le _, rfl, Below.refl _ _⟩
  case round =>
    obtain ⟨k, rfl, rfl, hk, rfl, hW⟩ := hrel
    by_cases hkm : k < M
    · have hkk : (k : Int) < (M : Int) := by omega
      have hkL : k < L.length := by rw [← HM.out]; exact hkm
      have h4 := H3.out.keep hW
      obtain ⟨gi, ei, di⟩ := ownI_row (ownK_keep hOi3 hW) (by rw [List.length_map]; exact HM.out.symm) hkm
      subst ei
      rw [map_getD hkL] at di
      have HUP := Lib.hid (fun hu => up_at hkL hu)
      have HST := Lib.hid (up_step hkL)
      obtain ⟨x, hx⟩ : ∃ x, x = L.getD k default := ⟨_, rfl⟩
      have hxm : x ∈ L := hx ▸ getD_mem hkL
      have CG := solo_Get h4.bd h4.sim hxm
      have HX := Lib.hid hx
      rw [← hx] at di HUP HST
      clear hx hxm
      go_wp2_with fail
      refine CG.mono ?_
      rintro e w5 ⟨rfl, hx5⟩
      have hW5 := below_step hW hx5
      clear CG hW hx5 di h4
      go_upto_region 10 with (fail)
      have hA5 := (Below.refl w5.heap.size w5).alloc (Nat.le_refl _) (.cells #[.bool x.up, .bool x.asked, .int .i64 x.row] 72)
      have PX := Blk.new w5 72 #[.bool x.up, .bool x.asked, .int .i64 x.row]
      have hW6 := below_step hW5 hA5
      obtain ⟨xb, hxb⟩ : ∃ q, q = w5.heap.size := ⟨_, rfl⟩
      rw [← hxb] at PX ⊢
      clear hxb hA5 hW5
      generalize w5.alloc (.cells #[.bool x.up, .bool x.asked, .int .i64 x.row] 72) = w6 at *
      have h6 := H3.out.keep hW6
      obtain ⟨gi', ei, di⟩ := ownI_row (ownK_keep hOi3 hW6) (by rw [List.length_map]; exact HM.out.symm) hkm
      cases ei
      rw [map_getD hkL, ← HX.out] at di
      obtain ⟨g, n2, c2, hv, hn2, _, _, _, _, hat⟩ := h6.pl.at_ hkL
      cases hv
      clear hn2
      rw [← HX.out] at hat
      have d0 : w6.cell? ⟨g, k * 6, none⟩ = _ := hat 0 _ rfl
      have d1 := hat 1 _ rfl
      have d2 := hat 2 _ rfl
      have d3 := hat 3 _ rfl
      obtain ⟨p0, p1, p2, p3, p4, p5, _⟩ := h6.pl.blk.cells6
      rw [← HM.out] at p4
      obtain ⟨x0, x1, x2, _⟩ := PX.cells3
      clear hat h6
      have HPX := Lib.hid PX
      obtain ⟨X, hX⟩ : ∃ X : Hst, X = ⟨x.up, x.asked, x.row⟩ := ⟨_, rfl⟩
      obtain ⟨Y, hY⟩ : ∃ Y : Hst, Y = ⟨x.up, x.asked, x.row⟩ := ⟨_, rfl⟩
      have HXY := Lib.hid (show sameHst X Y = true by rw [hX, hY]; exact sameHst_self _)
      have x0 : w6.cell? ⟨xb, 0, none⟩ = some (.bool X.up) := by rw [hX]; exact x0
      have x1 : w6.cell? ⟨xb, 1, none⟩ = some (.bool X.asked) := by rw [hX]; exact x1
      have x2 : w6.cell? ⟨xb, 2, none⟩ = some (.int .i64 X.row) := by rw [hX]; exact x2
      have d0 : w6.cell? ⟨g, k * 6, none⟩ = some (.bool Y.up) := by rw [hY]; exact d0
      have d1 : w6.cell? ⟨g, k * 6 + 1, none⟩ = some (.bool Y.asked) := by rw [hY]; exact d1
      have d2 : w6.cell? ⟨g, k * 6 + 2, none⟩ = some (.int .i64 Y.row) := by rw [hY]; exact d2
      have U0 := cell_under x0
      have U1 := cell_under x1
      have U2 := cell_under x2
      have V0 := cell_under d0
      have V1 := cell_under d1
      have V2 := cell_under d2
      have V3 := cell_under d3
      have V4 := cell_under p4
      have V5 := cell_under di
      clear x0 x1 x2 d0 d1 d2 d3 p0 p1 p2 p3 p4 p5 di hX hY PX
      obtain ⟨EV, hEV⟩ : ∃ EV, EV = !sameHst X Y := ⟨_, rfl⟩
      have HEV := Lib.hid (show EV = false by rw [hEV, HXY.out]; rfl)
      refine wp_region_quiet_under (by kernel_rfl) (by kernel_rfl) ?_
      repeat (go_big_quiet_step (fail))
      go_big_quiet_want
      refine quiet_neq_hst (a := X) (b := Y) (E := EV) hEV.symm rfl rfl rfl ?_
      simp only [Act.put, List.setIfInBounds_toArray, List.set_cons_zero, List.set_cons_succ]
      go_big_quiet_on
      clear hEV
      obtain rfl := HEV.out
      repeat (go_big_quiet_step (fail))
      refine wpQuiet_nil ?_
      intro wu2 hw'
      obtain ⟨pq, hw''⟩ := hw'
      have hU := below_eq hw''
      clear hw'' pq
      have hW7 := below_step hW6 hU
      have PX7 := HPX.out.keep hU
      clear hW6 hU U0 U1 U2 V0 V1 V2 V3 V4 V5
      obtain ⟨x0, x1, x2, _⟩ := PX7.cells3
      obtain ⟨F, hF⟩ : ∃ F, F = ((L.take k).filter Ph.up).length := ⟨_, rfl⟩
      have HF := Lib.hid hF
      rw [← hF] at HUP HST
      rw [← hF]
      clear hF
      cases hu : x.up with
      | false =>
        rw [hu] at x0
        have HST2 := Lib.hid (show F = ((L.take (k + 1)).filter Ph.up).length from by rw [HST.out, hu]; rfl)
        clear hu
        go_wp2
        go_roundg (M - (k + 1))
        case measure => omega
        case rel => exact ⟨k + 1, by go_num, by rw [← HST2.out], by omega, rfl, hW7⟩
      | true =>
        rw [hu] at x0
        have HST2 := Lib.hid (show ((L.take (k + 1)).filter Ph.up).length = F + 1 from by rw [HST.out, hu]; rfl)
        obtain ⟨hlt, hat⟩ := HUP.out hu
        rw [← HQ.out] at hlt
        have HAT := Lib.hid hat
        clear hu hat
        obtain ⟨gu, eu, du⟩ := ownI_row (ownK_keep hOu hW7) (by rw [List.length_map]; exact HQ.out.symm) hlt
        rw [HAT.out] at du
        subst eu
        obtain ⟨gi', ei, di⟩ := ownI_row (ownK_keep hOi3 hW7) (by rw [List.length_map]; exact HM.out.symm) hkm
        cases ei
        rw [map_getD hkL, ← HX.out] at di
        have hlt1 : (F : Int) < (Q : Int) := by omega
        have e1 : decide ((Q : Int) ≤ (F : Int)) = false := decide_eq_false (by omega)
        have e2 : decide ((F : Int) ≥ (Q : Int)) = false := e1
        have e3 : decide (Q ≤ F) = false := decide_eq_false (by omega)
        have U0 := cell_under du
        have U1 := cell_under di
        have hfq : F < 1000 := by have := HFL.out; have := HQ.out; have := HM.out; omega
        have hw1 : IntKind.i64.wrap ((F : Int) + 1) = (F : Int) + 1 := IntWalk.i64_in _ (by omega)
        go_upto_region 13 with (fail)
        clear du di x0 x1 x2 PX7
        refine wp_region_quiet_under (by kernel_rfl) (by kernel_rfl) ?_
        repeat (go_big_quiet_step ((fail)))
        refine wpQuiet_nil ?_
        intro wu3 hw'
        obtain ⟨pq, hw''⟩ := hw'
        have hU := below_eq hw''
        clear hw'' pq
        have hW8 := below_step hW7 hU
        clear hW7 hU U0 U1 e1 e2 e3
        go_wp2
        go_roundg (M - (k + 1))
        case measure => omega
        case rel => exact ⟨k + 1, by go_num, by rw [HST2.out]; go_num, by omega, rfl, hW8⟩
    · obtain rfl : k = M := by omega
      have hge : ¬ (k : Int) < (k : Int) := by omega
      have HE := Lib.hid (show ((L.take k).filter Ph.up).length = Q from by rw [List.take_of_length_le (by rw [HM.out]; exact Nat.le_refl _), HQ.out])
      have hx5 := below_step hx4 hW
      generalize ((L.take k).filter Ph.up).length = q2 at *
      obtain rfl := HE.out
      clear hW hx4 hc3
      go_wp2
      go_ret
      exact ⟨rfl, hx5⟩
end Go.Proofs.Ytcpfekhpbjkgeaa
end
section
/- The law's set, in plain Lean. -/
set_option linter.unusedVariables false
namespace Go.Proofs.Ytcpfekhpbjkgeaa
open Go.Sort
theorem nodup_len : ∀ {K M : List Int}, K.Nodup → (∀ x ∈ K, x ∈ M) → K.length ≤ M.length
  | [], M, _, _ => Nat.zero_le _
  | a :: K, M, hn, hs => by
    obtain ⟨h1, h2⟩ := List.nodup_cons.1 hn
    have ha := hs a (List.mem_cons_self)
    have := nodup_len (M := M.erase a) h2 (fun b hb => (List.mem_erase_of_ne (fun (e : b = a) => h1 (e ▸ hb))).2 (hs b (List.mem_cons_of_mem _ hb)))
    rw [List.length_erase_of_mem ha] at this
    have hm : 0 < M.length := List.length_pos_of_mem ha
    rw [List.length_cons]; omega
/-- The last one's number. -/
def lastP (O : List Ph) : Int := match O.getLast? with | some x => x.id | none => -1
theorem lastP_snoc (O : List Ph) (x : Ph) : lastP (O ++ [x]) = x.id := by unfold lastP; simp
theorem lastP_at {O : List Ph} (h : 0 < O.length) : lastP O = (O.getD (O.length - 1) default).id := by
  unfold lastP
  rw [List.getLast?_eq_getElem?, List.getD_eq_getElem?_getD, List.getElem?_eq_getElem (by omega)]; rfl
/-- What the law's out holds. -/
structure OutOk (now : Int) (ids : List Int) (L O : List Ph) : Prop where
  rise : (O.map Ph.id).Pairwise (· < ·)
  top : ∀ x ∈ O, x.id ≤ lastP O
  sub : ∀ x ∈ O, x.id ∈ ids ∧ okId x.id ∧ x = keepPh now L x.id
  all : ∀ i ∈ ids, okId i → i ≤ lastP O → i ∈ O.map Ph.id
/-- May a number come next? -/
def candP (O : List Ph) (i : Int) : Prop := okId i ∧ lastP O < i
instance (O : List Ph) (i : Int) : Decidable (candP O i) := by unfold candP; infer_instance
/-- The best so far. -/
def BestAt (O : List Ph) (ids : List Int) (z : Int) : Prop := (z = -1 ∧ ∀ i ∈ ids, ¬ candP O i) ∨ (z ∈ ids ∧ candP O z ∧ ∀ i ∈ ids, candP O i → z ≤ i)
theorem best_start (O : List Ph) : BestAt O [] (-1) := .inl ⟨rfl, fun i h => by cases h⟩
theorem best_no {O : List Ph} {ids : List Int} {z i : Int} (h : BestAt O ids z) (hi : ¬ candP O i) : BestAt O (ids ++ [i]) z := by
  rcases h with ⟨h1, h2⟩ | ⟨h1, h2, h3⟩
  · exact .inl ⟨h1, fun j hj => by
      rcases List.mem_append.1 hj with hj | hj
      · exact h2 j hj
      · rw [List.mem_singleton] at hj; subst hj; exact hi⟩
  · exact .inr ⟨List.mem_append_left _ h1, h2, fun j hj hc => by
      rcases List.mem_append.1 hj with hj | hj
      · exact h3 j hj hc
      · rw [List.mem_singleton] at hj; subst hj; exact absurd hc hi⟩
theorem best_keep {O : List Ph} {ids : List Int} {z i : Int} (h : BestAt O ids z) (h0 : ¬ (z < 0)) (h1 : ¬ i < z) : BestAt O (ids ++ [i]) z := by
  rcases h with ⟨rfl, h2⟩ | ⟨h2, h3, h4⟩
  · omega
  · exact .inr ⟨List.mem_append_left _ h2, h3, fun j hj hc => by
      rcases List.mem_append.1 hj with hj | hj
      · exact h4 j hj hc
      · rw [List.mem_singleton] at hj; subst hj; omega⟩
theorem best_new {O : List Ph} {ids : List Int} {z i : Int} (h : BestAt O ids z) (hi : candP O i) (h0 : z < 0 ∨ i < z) : BestAt O (ids ++ [i]) i := by
  refine .inr ⟨List.mem_append_right _ (List.mem_singleton.2 rfl), hi, fun j hj hc => ?_⟩
  rcases List.mem_append.1 hj with hj | hj
  · rcases h with ⟨rfl, h2⟩ | ⟨h2, h3, h4⟩
    · exact absurd hc (h2 j hj)
    · have h5 := h4 j hj hc
      have h6 := h3.1
      unfold okId at h6
      omega
  · rw [List.mem_singleton] at hj; subst hj; exact Int.le_refl _
theorem out_start (now : Int) (ids : List Int) (L : List Ph) : OutOk now ids L [] :=
  ⟨List.Pairwise.nil, (fun x h => by cases h), (fun x h => by cases h), fun i hi h1 h2 => by
    unfold okId at h1
    have h2 : i ≤ -1 := h2
    omega⟩
theorem keep_id (now : Int) {L : List Ph} (i : Int) : (keepPh now L i).id = i := by
  unfold keepPh
  cases h : findPh L i with
  | none => rfl
  | some x =>
    unfold findPh at h
    have := List.find?_some h
    simpa using this
theorem out_step {now : Int} {ids : List Int} {L O : List Ph} (h : OutOk now ids L O) {z : Int} (hb : BestAt O ids z) (h0 : ¬ z < 0) : OutOk now ids L (O ++ [keepPh now L z]) := by
  rcases hb with ⟨rfl, _⟩ | ⟨h1, h2, h3⟩
  · omega
  · have hid := keep_id now (L := L) z
    refine ⟨?_, fun x hx => ?_, fun x hx => ?_, fun i hi ho hl => ?_⟩
    · rw [List.map_append, List.pairwise_append]
      refine ⟨h.rise, List.pairwise_singleton _ _, fun a ha b hb => ?_⟩
      obtain ⟨x, hx, rfl⟩ := List.mem_map.1 ha
      simp at hb
      rw [hb, hid]
      have := h.top x hx
      have := h2.2
      omega
    · rw [lastP_snoc, hid]
      rcases List.mem_append.1 hx with hx | hx
      · have := h.top x hx
        have := h2.2
        omega
      · rw [List.mem_singleton] at hx; subst hx; rw [hid]; exact Int.le_refl _
    · rcases List.mem_append.1 hx with hx | hx
      · exact h.sub x hx
      · rw [List.mem_singleton] at hx; subst hx; rw [hid]; exact ⟨h1, h2.1, rfl⟩
    · rw [lastP_snoc, hid] at hl
      rw [List.map_append, List.mem_append]
      by_cases c : i ≤ lastP O
      · exact .inl (h.all i hi ho c)
      · have := h3 i hi ⟨ho, by omega⟩
        right
        simp only [List.map_cons, List.map_nil, List.mem_singleton]
        rw [hid]; omega
theorem out_len {now : Int} {ids : List Int} {L O : List Ph} (h : OutOk now ids L O) : O.length ≤ ids.length := by
  have := nodup_len (rise_nodup h.rise) (M := ids) (fun x hx => by
    obtain ⟨y, hy, rfl⟩ := List.mem_map.1 hx
    exact (h.sub y hy).1)
  simpa using this
theorem out_end {now : Int} {ids : List Int} {L O : List Ph} (h : OutOk now ids L O) {z : Int} (hb : BestAt O ids z) (h0 : z < 0) : SetTo now ids L O := by
  refine ⟨h.rise, fun i => ⟨fun hi => ?_, fun ⟨hi, ho⟩ => ?_⟩, fun x hx => (h.sub x hx).2.2⟩
  · obtain ⟨x, hx, rfl⟩ := List.mem_map.1 hi
    exact ⟨(h.sub x hx).1, (h.sub x hx).2.1⟩
  · rcases hb with ⟨_, h2⟩ | ⟨_, h2, _⟩
    · refine h.all i hi ho ?_
      have := h2 i hi
      unfold candP at this
      rcases Int.lt_or_le (lastP O) i with h3 | h3
      · exact absurd ⟨ho, h3⟩ this
      · exact h3
    · have := h2.1
      unfold okId at this
      omega
theorem place_of (now : Int) (L : List Ph) (i : Int) : (∃ k : Nat, placeOf L i = k ∧ k < L.length ∧ L.getD k default = keepPh now L i) ∨ (placeOf L i = -1 ∧ keepPh now L i = freshPh now i) := by
  unfold placeOf keepPh findPh
  cases h : L.findIdx? (fun x => x.id == i) with
  | none =>
    right
    rw [List.findIdx?_eq_none_iff] at h
    rw [List.find?_eq_none.2 (fun x hx => by rw [h x hx]; simp)]
    exact ⟨rfl, rfl⟩
  | some k =>
    left
    obtain ⟨hk, h1, h2⟩ := List.findIdx?_eq_some_iff_getElem.1 h
    refine ⟨k, rfl, hk, ?_⟩
    have h3 : L.find? (fun x => x.id == i) = some L[k] := by
      rw [List.find?_eq_some_iff_getElem]
      exact ⟨h1, k, hk, rfl, fun j hj => by have := h2 j hj; simpa using this⟩
    rw [h3, List.getD_eq_getElem?_getD, List.getElem?_eq_getElem hk]; rfl
end Go.Proofs.Ytcpfekhpbjkgeaa
end
