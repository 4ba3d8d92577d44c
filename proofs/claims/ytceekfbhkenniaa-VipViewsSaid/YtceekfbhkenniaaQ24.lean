/- Lemmas for the claim's proof: VipK VipL. -/
import Derived.Test.YtceekfbhkenniaaQ17
import Derived.Test.YtceekfbhkenniaaQ23
section
/- The plain law of what a flow goes to; VipMatches. -/
set_option linter.unusedVariables false
namespace Go.Proofs.Ytceekfbhkenniaa
open Go.RowKit
set_option maxHeartbeats 8000000
set_option maxRecDepth 100000
theorem why_zero {c : Conf} (h : whyI c = 0) : vipsI c.vips = 0 ∧ viewsI c.views (lvls c.nodes) = 0 := by
  unfold whyI at h
  split at h
  · omega
  · split at h
    · omega
    · split at h
      · cases h
      · split at h
        · omega
        · exact ⟨by omega, h⟩
theorem vips_apart {l : List Vp} (h : vipsI l = 0) : ∀ i j, i < j → j < l.length → sameKey (l.getD i vp0) (l.getD j vp0) = false := by
  intro i j hij hj
  have h1 := errTo_all _ h j hj
  have hh : vipHead (l.getD j vp0) = 0 := by
    by_cases e : vipHead (l.getD j vp0) = 0
    · exact e
    · rw [vipI_head e] at h1; exact absurd h1 e
  cases e : (l.take j).any (fun x => sameKey x (l.getD j vp0)) with
  | true => rw [vipI_twice hh e] at h1; cases h1
  | false =>
    cases e2 : sameKey (l.getD i vp0) (l.getD j vp0) with
    | false => rfl
    | true => 
      have : (l.take j).any (fun x => sameKey x (l.getD j vp0)) = true := (any_at_take (by omega)).2 ⟨i, hij, e2⟩
      rw [e] at this; cases this
theorem sameKey_join {x y z : Vp} (h1 : sameKey x z = true) (h2 : sameKey y z = true) : sameKey x y = true := by
  unfold sameKey at *
  simp only [Bool.and_eq_true, beq_iff_eq] at *
  obtain ⟨⟨⟨⟨a1, a2⟩, a3⟩, a4⟩, a5⟩ := h1
  obtain ⟨⟨⟨⟨b1, b2⟩, b3⟩, b4⟩, b5⟩ := h2
  exact ⟨⟨⟨⟨a1.trans b1.symm, a2.trans b2.symm⟩, a3.trans b3.symm⟩, a4.trans b4.symm⟩, a5.trans b5.symm⟩
theorem key_one {l : List Vp} (h : vipsI l = 0) {i j : Nat} (hi : i < l.length) (hj : j < l.length) {x : Vp} (h1 : sameKey (l.getD i vp0) x = true) (h2 : sameKey (l.getD j vp0) x = true) : i = j := by
  rcases Nat.lt_trichotomy i j with hlt | he | hgt
  · have := vips_apart h i j hlt hj
    rw [sameKey_join h1 h2] at this; cases this
  · exact he
  · have := vips_apart h j i hgt hi
    rw [sameKey_join h2 h1] at this; cases this
theorem any_no {l : List Vp} {p : Vp → Bool} (h : l.any p = false) {i : Nat} (hi : i < l.length) : p (l.getD i vp0) = false := by
  cases e : p (l.getD i vp0) with
  | false => rfl
  | true => rw [any_hitG hi e] at h; cases h
/-- Where no two have one key, what is told is told. -/
theorem matchOut_one {l : List Vp} (h : vipsI l = 0) {pr : Int} {d6 : Bool} {dh dl dp : Int} {e e' : Ending} (h1 : MatchOut l pr d6 dh dl dp e) (h2 : MatchOut l pr d6 dh dl dp e') : e = e' := by
  rcases h1 with ⟨i, a1, a2, a3⟩ | ⟨a0, i, a1, a2, a3⟩ | ⟨a0, a1, a3⟩
  · rcases h2 with ⟨j, b1, b2, b3⟩ | ⟨b0, j, b1, b2, b3⟩ | ⟨b0, b1, b3⟩
    · rw [a3, b3, key_one h a1 b1 a2 b2]
    · rw [any_no b0 a1] at a2; cases a2
    · rw [any_no b0 a1] at a2; cases a2
  · rcases h2 with ⟨j, b1, b2, b3⟩ | ⟨b0, j, b1, b2, b3⟩ | ⟨b0, b1, b3⟩
    · rw [any_no a0 b1] at b2; cases b2
    · rw [a3, b3, key_one h a1 b1 a2 b2]
    · rw [any_no b1 a1] at a2; cases a2
  · rcases h2 with ⟨j, b1, b2, b3⟩ | ⟨b0, j, b1, b2, b3⟩ | ⟨b0, b1, b3⟩
    · rw [any_no a0 b1] at b2; cases b2
    · rw [any_no a1 b1] at b2; cases b2
    · rw [a3, b3]
theorem matchOut_form {l : List Vp} {pr : Int} {d6 : Bool} {dh dl dp : Int} {e : Ending} (h1 : MatchOut l pr d6 dh dl dp e) : ∃ (y : Vp) (b : Bool), e = .returned (.tuple #[vpAgg y, .bool b]) := by
  rcases h1 with ⟨i, a1, a2, a3⟩ | ⟨a0, i, a1, a2, a3⟩ | ⟨a0, a1, a3⟩
  · exact ⟨_, _, a3⟩
  · exact ⟨_, _, a3⟩
  · exact ⟨⟨false, 0, 0, 0, 0, 0, false⟩, false, a3⟩
theorem quiet_eq_vp {A : Act} {o : Oper} {x y : Operand} {t : TypeId} {a b : Vp} {E : Bool} {C : World → Prop} {K : Act → Prop} (hE : sameVp a b = E) (ho : o.op = .binOp .eql 35 x y t) (hx : A.eval x = .agg #[.bool a.six, .int .u64 a.hi, .int .u64 a.lo, .int .i64 a.proto, .int .i64 a.port, .int .i64 a.copies, .bool a.nat]) (hy : A.eval y = .agg #[.bool b.six, .int .u64 b.hi, .int .u64 b.lo, .int .i64 b.proto, .int .i64 b.port, .int .i64 b.copies, .bool b.nat])
    (h : K (A.put o.dst (.bool E))) : o.quiet Try.prog A C K :=
  ⟨.bool E, fun w _ => by
    unfold Oper.quietAt execOp
    simp only [ho, hx, hy, Sem.run_bind, eqG_vp .eql x y a b w, run_eql_struct, eq_vp a b w, Result.andThen_ok, Sem.run_pure, hE]
    exact ⟨rfl, rfl⟩, h⟩
theorem run_eql_vp (a b : Vp) (w : World) : (binOp .eql 35 (.agg #[.bool a.six, .int .u64 a.hi, .int .u64 a.lo, .int .i64 a.proto, .int .i64 a.port, .int .i64 a.copies, .bool a.nat]) (.agg #[.bool b.six, .int .u64 b.hi, .int .u64 b.lo, .int .i64 b.proto, .int .i64 b.port, .int .i64 b.copies, .bool b.nat])).run Try.prog w = .ok (.bool (sameVp a b)) w := by
  rw [run_eql_struct, eq_vp a b w]; rfl
theorem tup_inj {y z : Vp} {a b : Bool} (h : Ending.returned (.tuple #[vpAgg y, .bool a]) = Ending.returned (.tuple #[vpAgg z, .bool b])) : y = z ∧ a = b := by
  obtain ⟨y1, y2, y3, y4, y5, y6, y7⟩ := y
  obtain ⟨z1, z2, z3, z4, z5, z6, z7⟩ := z
  unfold vpAgg at h
  simp at h
  obtain ⟨⟨h1, h2, h3, h4, h5, h6, h7⟩, h8⟩ := h
  exact ⟨by rw [h1, h2, h3, h4, h5, h6, h7], h8⟩
theorem views_at {l : List Vw} {m : Int} (h : viewsI l m = 0) {j : Nat} (hj : j < l.length) : viewHead (l.getD j vw0) m = 0 ∧ (l.take j).any (fun x => samePfx x (l.getD j vw0)) = false := by
  have h1 := errTo_all _ h j hj
  have hh : viewHead (l.getD j vw0) m = 0 := by
    by_cases e : viewHead (l.getD j vw0) m = 0
    · exact e
    · rw [viewI_head e] at h1; exact absurd h1 e
  refine ⟨hh, ?_⟩
  cases e : (l.take j).any (fun x => samePfx x (l.getD j vw0)) with
  | true => rw [viewI_twice hh e] at h1; cases h1
  | false => rfl
theorem vws_ok {l : List Vw} {m : Int} (h : viewsI l m = 0) (hwf : ∀ v ∈ l, vwShape.Wf v) : (∀ v ∈ l, pfxOk v.six v.hi v.lo v.bits = true) ∧ Apart l := by
  have hok : ∀ j, j < l.length → pfxOk (l.getD j vw0).six (l.getD j vw0).hi (l.getD j vw0).lo (l.getD j vw0).bits = true := fun j hj => by
    have h1 := (views_at h hj).1
    unfold viewHead at h1
    split at h1
    · cases h1
    · rename_i e
      simpa using e
  have hw : ∀ j, j < l.length → vwShape.Wf (l.getD j vw0) := fun j hj => hwf _ (by
    have e : l[j]? = some (l.getD j vw0) := by rw [List.getD_eq_getElem?_getD, List.getElem?_eq_getElem hj]; rfl
    exact List.mem_of_getElem? e)
  refine ⟨fun v hv => ?_, fun i j hij hj he => ?_⟩
  · obtain ⟨j, hj, rfl⟩ := List.mem_iff_getElem.1 hv
    have := hok j hj
    rwa [List.getD_eq_getElem?_getD, List.getElem?_eq_getElem hj] at this
  · have h2 := (views_at h hj).2
    have a1 := hok i (by omega)
    have a2 := hok j hj
    have b1 := hw i (by omega)
    have b2 := hw j hj
    rw [he.1] at a1
    have hp := he.2
    unfold vwPath at hp
    rw [he.1] at hp
    obtain ⟨c1, c2, c3⟩ := pfx_same b1.1 b1.2.1 b2.1 b2.2.1 a1 a2 hp
    have hs : samePfx (l.getD i vw0) (l.getD j vw0) = true := by
      unfold samePfx
      rw [he.1, c1, c2, c3]
      simp
    have e : (l.take j)[i]? = some (l.getD i vw0) := by rw [List.getElem?_take, if_pos hij, List.getD_eq_getElem?_getD, List.getElem?_eq_getElem (by omega)]; rfl
    have : (l.take j).any (fun x => samePfx x (l.getD j vw0)) = true := List.any_eq_true.2 ⟨_, List.mem_of_getElem? e, hs⟩
    rw [h2] at this; cases this
end Go.Proofs.Ytceekfbhkenniaa
end
section
/- VipMatches. -/
set_option linter.unusedVariables false
namespace Go.Proofs.Ytceekfbhkenniaa
open Go.RowKit
set_option maxHeartbeats 8000000
set_option maxRecDepth 100000
theorem Blk.far11 {w : World} {g h : Nat} {t : TypeId} {cs : Array Value} (P : Blk w h t cs) (hne : h ≠ g) (v0 v1 v2 v3 v4 v5 v6 v7 v8 v9 v10 : Value) :
    Blk (((((((((((w.setCell ⟨g, 0, none⟩ v0).setCell ⟨g, 1, none⟩ v1).setCell ⟨g, 2, none⟩ v2).setCell ⟨g, 3, none⟩ v3).setCell ⟨g, 4, none⟩ v4).setCell ⟨g, 5, none⟩ v5).setCell ⟨g, 6, none⟩ v6).setCell ⟨g, 7, none⟩ v7).setCell ⟨g, 8, none⟩ v8).setCell ⟨g, 9, none⟩ v9).setCell ⟨g, 10, none⟩ v10) h t cs :=
  ((((((((((P.far (p := ⟨g, 0, none⟩) hne _).far (p := ⟨g, 1, none⟩) hne _).far (p := ⟨g, 2, none⟩) hne _).far (p := ⟨g, 3, none⟩) hne _).far (p := ⟨g, 4, none⟩) hne _).far (p := ⟨g, 5, none⟩) hne _).far (p := ⟨g, 6, none⟩) hne _).far (p := ⟨g, 7, none⟩) hne _).far (p := ⟨g, 8, none⟩) hne _).far (p := ⟨g, 9, none⟩) hne _).far (p := ⟨g, 10, none⟩) hne _
theorem vipMatches_walk (w : World) (a : Conf) (ha : IsConf w a) (pr : Int) (t6 : Bool) (th tl : Int) (d6 : Bool) (dh dl sp dp : Int) (w1' : I64 pr) (w2' : U64 dh) (w3' : U64 dl) (w4' : I64 dp) :
    Calls Try.prog 6 #[.agg a.cells, .agg #[.int .i64 pr, .bool t6, .int .u64 th, .int .u64 tl, .bool d6, .int .u64 dh, .int .u64 dl, .int .i64 sp, .int .i64 dp]] w fun e w' => e = .returned (.bool true) ∧ Below w.heap.size w w' := by
  have hFa := fun w h => law18_Few a w h
  have hfa := ha.few
  have hn := few_nn a
  have hv20 : a.few.vn ≤ 20 := by show min a.vn 20 ≤ 20; omega
  have hw20 : a.few.wn ≤ 20 := by show min a.wn 20 ≤ 20; omega
  generalize a.few = s at *
  have hNW := fun w h => valid_New s w h hn
  have hNV := Lib.hid (fun (e : Ending) (w' : World) (h : NewV s e w') => (show (whyI s ≠ 0 ∧ e = .returned (.tuple #[.pointer none, .int .i64 (whyI s)])) ∨
      (whyI s = 0 ∧ ∃ vb b A1 k1 A2 k2 A3 k3, e = .returned (.tuple #[.pointer (some ⟨vb, 0, none⟩), .int .i64 0]) ∧
        Blk w' vb 50 (vcells (s.with A1 k1 A2 k2 A3 k3) b) ∧ IsConf w' (s.with A1 k1 A2 k2 A3 k3) ∧ TR w' b s.nodes) from h))
  have HOne := Lib.hid (fun (h : whyI s = 0) e e' => matchOut_one (l := s.vips) (why_zero h).1 (pr := pr) (d6 := d6) (dh := dh) (dl := dl) (dp := dp) (e := e) (e' := e'))
  have hVN := fun A1 k1 A2 k2 A3 k3 vb b w h1 h2 h3 h4 => vip_New (s.with A1 k1 A2 k2 A3 k3) vb b w h1 h2 (show s.vn ≤ 64 by omega) (show s.wn ≤ 64 by omega) h3 h4
  have HVW := Lib.hid (fun (h : whyI s = 0) => vws_ok (why_zero h).2 hfa.views.wf)
  generalize NewV s = PO at *
  generalize whyI s = WY at *
  obtain ⟨sna, snn, snc, sva, svn, svc, swa, swn, swc, sf, sd, ⟨sx, sy, sz⟩, ⟨su, sv, sw⟩, sN, sV, sW⟩ := s
  obtain ⟨ana, ann, anc, ava, avn, avc, awa, awn, awc, af, ad, ⟨ax, ay, az⟩, ⟨au, av, aw⟩, aN, aV, aW⟩ := a
  unfold Conf.with Conf.cells at *
  dsimp only at *
  have P := (Blk.new w 33 #[.slice ana ann anc, .slice ava avn avc, .slice awa awn awc, .int .i64 af, .int .i64 ad, .bool ax, .int .u64 ay, .int .u64 az, .bool au, .int .u64 av, .int .u64 aw]).alloc (.cells #[.int .i64 pr, .bool t6, .int .u64 th, .int .u64 tl, .bool d6, .int .u64 dh, .int .u64 dl, .int .i64 sp, .int .i64 dp] 55)
  have X := Blk.new (w.alloc (.cells #[.slice ana ann anc, .slice ava avn avc, .slice awa awn awc, .int .i64 af, .int .i64 ad, .bool ax, .int .u64 ay, .int .u64 az, .bool au, .int .u64 av, .int .u64 aw] 33)) 55 #[.int .i64 pr, .bool t6, .int .u64 th, .int .u64 tl, .bool d6, .int .u64 dh, .int .u64 dl, .int .i64 sp, .int .i64 dp]
  have hsz : (w.alloc (.cells #[.slice ana ann anc, .slice ava avn avc, .slice awa awn awc, .int .i64 af, .int .i64 ad, .bool ax, .int .u64 ay, .int .u64 az, .bool au, .int .u64 av, .int .u64 aw] 33)).heap.size = w.heap.size + 1 := by simp
  rw [hsz] at X
  have hW : Below w.heap.size w ((w.alloc (.cells #[.slice ana ann anc, .slice ava avn avc, .slice awa awn awc, .int .i64 af, .int .i64 ad, .bool ax, .int .u64 ay, .int .u64 az, .bool au, .int .u64 av, .int .u64 aw] 33)).alloc (.cells #[.int .i64 pr, .bool t6, .int .u64 th, .int .u64 tl, .bool d6, .int .u64 dh, .int .u64 dl, .int .i64 sp, .int .i64 dp] 55)) := ((Below.refl _ _).alloc (Nat.le_refl _) _).alloc (by simp) _
  go_enter Try.func6, Try.ntmps6
  go_upto_region 1 with (fail)
  generalize ((w.alloc (.cells #[.slice ana ann anc, .slice ava avn avc, .slice awa awn awc, .int .i64 af, .int .i64 ad, .bool ax, .int .u64 ay, .int .u64 az, .bool au, .int .u64 av, .int .u64 aw] 33)).alloc (.cells #[.int .i64 pr, .bool t6, .int .u64 th, .int .u64 tl, .bool d6, .int .u64 dh, .int .u64 dl, .int .i64 sp, .int .i64 dp] 55)) = u at *
  clear hsz
  obtain ⟨p0, p1, p2, p3, p4, p5, p6, p7, p8, p9, p10, _⟩ := P.cells11
  go_wp2_with fail
  refine (hFa _ (ha.keep hW)).mono ?_; rintro e w1 ⟨rfl, hx1⟩
  have P1 := P.keep hx1
  have X1 := X.keep hx1
  have hW1 := below_step hW hx1
  clear P X hW hx1 p0 p1 p2 p3 p4 p5 p6 p7 p8 p9 p10 hFa ha
  obtain ⟨p0, p1, p2, p3, p4, p5, p6, p7, p8, p9, p10, _⟩ := P1.cells11
  obtain ⟨f0, f1, f2, f3, f4, f5, f6, f7, f8, f9, f10⟩ := P1.free11
  go_upto_region 2 with (fail)
  have P2 := P1.turn11 (.slice sna snn snc) (.slice sva svn svc) (.slice swa swn swc) (.int .i64 sf) (.int .i64 sd) (.bool sx) (.int .u64 sy) (.int .u64 sz) (.bool su) (.int .u64 sv) (.int .u64 sw)
  have X2 := X1.far11 (g := w.heap.size) (by omega) (.slice sna snn snc) (.slice sva svn svc) (.slice swa swn swc) (.int .i64 sf) (.int .i64 sd) (.bool sx) (.int .u64 sy) (.int .u64 sz) (.bool su) (.int .u64 sv) (.int .u64 sw)
  have hW2 := below_turn11 (g := w.heap.size) hW1 (Nat.le_refl _) (.slice sna snn snc) (.slice sva svn svc) (.slice swa swn swc) (.int .i64 sf) (.int .i64 sd) (.bool sx) (.int .u64 sy) (.int .u64 sz) (.bool su) (.int .u64 sv) (.int .u64 sw)
  clear P1 X1 hW1 p0 p1 p2 p3 p4 p5 p6 p7 p8 p9 p10 f0 f1 f2 f3 f4 f5 f6 f7 f8 f9 f10
  generalize (((((((((((w1.setCell ⟨w.heap.size, 0, none⟩ (.slice sna snn snc)).setCell ⟨w.heap.size, 1, none⟩ (.slice sva svn svc)).setCell ⟨w.heap.size, 2, none⟩ (.slice swa swn swc)).setCell ⟨w.heap.size, 3, none⟩ (.int .i64 sf)).setCell ⟨w.heap.size, 4, none⟩ (.int .i64 sd)).setCell ⟨w.heap.size, 5, none⟩ (.bool sx)).setCell ⟨w.heap.size, 6, none⟩ (.int .u64 sy)).setCell ⟨w.heap.size, 7, none⟩ (.int .u64 sz)).setCell ⟨w.heap.size, 8, none⟩ (.bool su)).setCell ⟨w.heap.size, 9, none⟩ (.int .u64 sv)).setCell ⟨w.heap.size, 10, none⟩ (.int .u64 sw)) = u2 at *
  obtain ⟨p0, p1, p2, p3, p4, p5, p6, p7, p8, p9, p10, _⟩ := P2.cells11
  have hs2 := hfa.keep hW2
  go_wp2_with fail
  refine (hNW _ hs2).mono ?_
  rintro e w3 ⟨hPO, hx3⟩
  have P3 := P2.keep hx3
  have X3 := X2.keep hx3
  have hW3 := below_step hW2 hx3
  have hs3 := hs2.keep hx3
  clear P2 X2 hW2 hs2 p0 p1 p2 p3 p4 p5 p6 p7 p8 p9 p10 hNW
  rcases hNV.out _ _ hPO with ⟨hwy, rfl⟩ | ⟨rfl, vb, b, A1, k1, A2, k2, A3, k3, rfl, hV, hCV, hTV⟩
  · have g1 : (WY != 0) = true := by rw [bne_iff_ne]; exact hwy
    clear hNV hPO hx3 hVN hwy HOne HVW
    go_wp2_with fail
    refine (law30_awake _).mono ?_; rintro e w5 ⟨rfl, hx5⟩
    go_wp2
    go_ret
    exact ⟨rfl, below_step hW3 hx5⟩
  · have hOne := HOne.out rfl
    have hvw := HVW.out rfl
    have hNw := hVN A1 k1 A2 k2 A3 k3 vb b w3 hV hCV hvw.1 hvw.2
    have HOK := Lib.hid hOne
    clear hNV hPO hx3 hVN HOne HVW hV hCV hTV hOne hvw
    go_wp2_with fail
    refine hNw.mono ?_
    rintro e w4 ⟨⟨tb, tr, m1, m2, AT, kT, rfl, hT, _⟩, hx4⟩
    have P4 := P3.keep hx4
    have X4 := X3.keep hx4
    have hs4 := hs3.keep hx4
    have hW4 := below_step hW3 hx4
    clear P3 X3 hs3 hW3 hx4 hNw
    have hLM := law30_match hs4.vips pr t6 th tl d6 dh dl sp dp
    have q1 := P4.cell 1
    obtain ⟨x0, x1, x2, x3, x4, x5, x6, x7, x8, _⟩ := X4.cells9
    go_wp2_with fail
    refine hLM.mono ?_
    rintro e w5 ⟨hO, hx5⟩
    obtain ⟨y, yb, rfl⟩ := matchOut_form hO
    have P5 := P4.keep hx5
    have X5 := X4.keep hx5
    have hs5 := hs4.keep hx5
    have hW5 := below_step hW4 hx5
    have hT5 := hT.keep hx5
    have HO := Lib.hid (fun e' h => HOK.out _ e' hO h)
    clear P4 X4 hs4 hW4 hx5 hT hLM hO HOK q1 x0 x1 x2 x3 x4 x5 x6 x7 x8
    obtain ⟨y6, yh, yl, yp, yo, yc, yn⟩ := y
    rw [show vpAgg ⟨y6, yh, yl, yp, yo, yc, yn⟩ = .agg #[.bool y6, .int .u64 yh, .int .u64 yl, .int .i64 yp, .int .i64 yo, .int .i64 yc, .bool yn] from rfl]
    go_upto_region 9 with (fail)
    have hA : Below w5.heap.size w5 (w5.alloc (.cells #[.bool y6, .int .u64 yh, .int .u64 yl, .int .i64 yp, .int .i64 yo, .int .i64 yc, .bool yn] 35)) := (Below.refl _ _).alloc (Nat.le_refl _) _
    have Y6 := Blk.new w5 35 #[.bool y6, .int .u64 yh, .int .u64 yl, .int .i64 yp, .int .i64 yo, .int .i64 yc, .bool yn]
    have P6 := P5.keep hA
    have X6 := X5.keep hA
    have hs6 := hs5.keep hA
    have hW6 := below_step hW5 hA
    have hT6 := hT5.keep hA
    clear P5 X5 hs5 hW5 hT5 hA
    generalize w5.heap.size = g8 at *
    generalize w5.alloc (.cells #[.bool y6, .int .u64 yh, .int .u64 yl, .int .i64 yp, .int .i64 yo, .int .i64 yc, .bool yn] 35) = u6 at *
    obtain ⟨x0, x1, x2, x3, x4, x5, x6, x7, x8, _⟩ := X6.cells9
    have hMt := vip_MatchYes hT6 pr t6 th tl d6 dh dl sp dp w1' w2' w3' w4'
    go_wp2_with fail
    refine hMt.mono ?_
    rintro e w7 ⟨hO, hx7⟩
    obtain ⟨z, zb, rfl⟩ := matchOut_form hO
    obtain ⟨HEQ, rfl⟩ := tup_inj (HO.out _ hO)
    have P7 := P6.keep hx7
    have X7 := X6.keep hx7
    have hs7 := hs6.keep hx7
    have hW7 := below_step hW6 hx7
    have hT7 := hT6.keep hx7
    have Y7 := Y6.keep hx7
    have HSE := Lib.hid (show sameVp z ⟨y6, yh, yl, yp, yo, yc, yn⟩ = true by rw [← HEQ]; exact sameVp_self _)
    have hrz := fun w => run_eql_vp z ⟨y6, yh, yl, yp, yo, yc, yn⟩ w
    rw [HSE.out] at hrz
    clear P6 X6 hs6 hW6 hT6 Y6 hx7 hMt hO HO HEQ HSE x0 x1 x2 x3 x4 x5 x6 x7 x8
    obtain ⟨z6, zh, zl, zp, zo, zc, zn⟩ := z
    dsimp only at hrz
    rw [show vpAgg ⟨z6, zh, zl, zp, zo, zc, zn⟩ = .agg #[.bool z6, .int .u64 zh, .int .u64 zl, .int .i64 zp, .int .i64 zo, .int .i64 zc, .bool zn] from rfl]
    go_upto_region 10 with (fail)
    have hA : Below w7.heap.size w7 (w7.alloc (.cells #[.bool z6, .int .u64 zh, .int .u64 zl, .int .i64 zp, .int .i64 zo, .int .i64 zc, .bool zn] 35)) := (Below.refl _ _).alloc (Nat.le_refl _) _
    have Z8 := Blk.new w7 35 #[.bool z6, .int .u64 zh, .int .u64 zl, .int .i64 zp, .int .i64 zo, .int .i64 zc, .bool zn]
    have P8 := P7.keep hA
    have X8 := X7.keep hA
    have hs8 := hs7.keep hA
    have hW8 := below_step hW7 hA
    have hT8 := hT7.keep hA
    have Y8 := Y7.keep hA
    clear P7 X7 hs7 hW7 hT7 Y7 hA
    generalize w7.heap.size = g10 at *
    generalize w7.alloc (.cells #[.bool z6, .int .u64 zh, .int .u64 zl, .int .i64 zp, .int .i64 zo, .int .i64 zc, .bool zn] 35) = u8 at *
    have hLi := vip_ListYes hT8 (show svn ≤ 64 by omega)
    go_wp2_with fail
    refine hLi.mono ?_
    rintro e w9 ⟨⟨A9, c9, rfl, hR9⟩, hx9⟩
    have P9 := P8.keep hx9
    have X9 := X8.keep hx9
    have hs9 := hs8.keep hx9
    have hW9 := below_step hW8 hx9
    have hT9 := hT8.keep hx9
    have Y9 := Y8.keep hx9
    have Z9 := Z8.keep hx9
    clear P8 X8 hs8 hW8 hT8 Y8 Z8 hx9 hLi
    have q1 := P9.cell 1
    have hg0 : ((svn : Int) != (svn : Int)) = false := by simp
    have hvl := hR9.len
    have hvcap := hs9.vips.cap
    have hvsm := hs9.vips.small
    have hcc := hR9.cap
    have hcs := hR9.small
    have HVL := Lib.hid hvl
    have hS9 := hs9.vips
    dsimp only at hvl hvcap hvsm hcc hcs HVL hS9
    clear hs9 hvl
    go_wp2_with fail
    go_loopg [12, 14] svn (fun gk s12 s14 wr => ∃ i : Nat, i ≤ svn ∧ gk = svn - i ∧ s14 = .int .i64 i ∧ s12 = .bool ((sV.take i).any (fun y => sameAdr y (kx 0 d6 dh dl 0))) ∧ Blk wr w.heap.size 33 #[.slice sna snn snc, .slice sva svn svc, .slice swa swn swc, .int .i64 sf, .int .i64 sd, .bool sx, .int .u64 sy, .int .u64 sz, .bool su, .int .u64 sv, .int .u64 sw] ∧ Blk wr (w.heap.size + 1) 55 #[.int .i64 pr, .bool t6, .int .u64 th, .int .u64 tl, .bool d6, .int .u64 dh, .int .u64 dl, .int .i64 sp, .int .i64 dp] ∧ TabV wr tb tr m1 m2 sV AT svn kT ∧ Blk wr g8 35 #[.bool y6, .int .u64 yh, .int .u64 yl, .int .i64 yp, .int .i64 yo, .int .i64 yc, .bool yn] ∧ Blk wr g10 35 #[.bool z6, .int .u64 zh, .int .u64 zl, .int .i64 zp, .int .i64 zo, .int .i64 zc, .bool zn] ∧ IsRow vpShape wr A9 svn c9 sV ∧ IsRow vpShape wr sva svn svc sV ∧ Below w.heap.size w wr)
    case atStart => exact ⟨0, Nat.zero_le _, rfl, rfl, rfl, P9, X9, hT9, Y9, Z9, hR9, hS9, hW9⟩
    case round =>
      clear P9 X9 hT9 Y9 Z9 hR9 hS9 hW9 q1
      obtain ⟨i, hi, rfl, rfl, rfl, P4, X4, T4, Y4, Z4, R4, S4, hW4⟩ := hrel
      by_cases hin : i < svn
      · have hii : (i : Int) < (svn : Int) := by omega
        have HB2 := Lib.hid (show (sV.take (i + 1)).any (fun y => sameAdr y (kx 0 d6 dh dl 0)) = ((sV.take i).any (fun y => sameAdr y (kx 0 d6 dh dl 0)) || sameAdr (sV.getD i vp0) (kx 0 d6 dh dl 0)) by
          rw [take_snocV (by rw [HVL.out]; exact hin), List.any_append]; simp)
        cases hB : (sV.take i).any (fun y => sameAdr y (kx 0 d6 dh dl 0)) with
        | true =>
          rw [hB, Bool.true_or] at HB2
          go_upto_region 17 with (fail)
          refine wp_region_quiet_under (by kernel_rfl) (by kernel_rfl) ?_
          repeat (go_big_quiet_step ((fail)))
          refine wpQuiet_nil ?_
          intro wu hw'
          obtain ⟨pq, hw''⟩ := hw'
          have hU := below_eq hw''
          clear hw'' pq
          have P5 := P4.keep hU
          have X5 := X4.keep hU
          have T5 := T4.keep hU
          have Y5 := Y4.keep hU
          have Z5 := Z4.keep hU
          have R5 := R4.keep hU
          have S5 := S4.keep hU
          have hW5 := below_step hW4 hU
          clear hU
          obtain ⟨ad, rfl, hbk, hat⟩ := R5.vpat_ hin
          obtain ⟨d0, d1, d2, d3, d4, d5, d6'⟩ := hat
          obtain ⟨ae, rfl, hbe, hae⟩ := S5.vpat_ hin
          obtain ⟨e0, e1, e2, e3, e4, e5, e6⟩ := hae
          have q1 := P5.cell 1
          have hvp : vpShape.z = vp0 := rfl
          rw [hvp] at d0 d1 d2 d3 d4 d5 d6' e0 e1 e2 e3 e4 e5 e6
          clear hvp
          have U0 := cell_under d0
          have U1 := cell_under d1
          have U2 := cell_under d2
          have U3 := cell_under d3
          have U4 := cell_under d4
          have U5 := cell_under d5
          have U6 := cell_under d6'
          have HS0 := Lib.hid (sameVp_self (sV.getD i vp0))
          obtain ⟨k, hk⟩ : ∃ k, k = sV.getD i vp0 := ⟨_, rfl⟩
          rw [← hk] at U0 U1 U2 U3 U4 U5 U6
          have HSV := Lib.hid (show (!sameVp k (sV.getD i vp0)) = false by rw [hk, HS0.out]; rfl)
          clear hk HS0
          generalize sV.getD i vp0 = k' at *
          have V0 := cell_under e0
          have V1 := cell_under e1
          have V2 := cell_under e2
          have V3 := cell_under e3
          have V4 := cell_under e4
          have V5 := cell_under e5
          have V6 := cell_under e6
          have VQ := cell_under q1
          obtain ⟨k1, k2, k3, k4, k5, k6, k7⟩ := k
          obtain ⟨l1, l2, l3, l4, l5, l6, l7⟩ := k'
          dsimp only at U0 U1 U2 U3 U4 U5 U6 V0 V1 V2 V3 V4 V5 V6
          clear d0 d1 d2 d3 d4 d5 d6' e0 e1 e2 e3 e4 e5 e6 q1
          go_upto_region 18 with (fail)
          refine wp_region_quiet_under (by kernel_rfl) (by kernel_rfl) ?_
          repeat (go_big_quiet_step (fail))
          go_big_quiet_want
          refine quiet_neq_vp (a := ⟨k1, k2, k3, k4, k5, k6, k7⟩) (b := ⟨l1, l2, l3, l4, l5, l6, l7⟩) HSV.out rfl rfl rfl ?_
          simp only [Act.put, List.setIfInBounds_toArray, List.set_cons_zero, List.set_cons_succ]
          go_big_quiet_on
          repeat (go_big_quiet_step (fail))
          refine wpQuiet_nil ?_
          intro wv hw'
          obtain ⟨pq, hw''⟩ := hw'
          have hU := below_eq hw''
          clear hw'' pq U0 U1 U2 U3 U4 U5 U6 V0 V1 V2 V3 V4 V5 V6 VQ
          go_wp2
          go_roundg (svn - (i + 1))
          case measure => omega
          case rel => exact ⟨i + 1, by omega, rfl, by go_num, by rw [HB2.out], P5.keep hU, X5.keep hU, T5.keep hU, Y5.keep hU, Z5.keep hU, R5.keep hU, S5.keep hU, below_step hW5 hU⟩
        | false =>
          rw [hB, Bool.false_or] at HB2
          obtain ⟨ad, rfl, hbk, hat⟩ := R4.vpat_ hin
          obtain ⟨d0, d1, d2, _, _, _, _⟩ := hat
          have hvp : vpShape.z = vp0 := rfl
          rw [hvp] at d0 d1 d2
          clear hvp
          obtain ⟨x0, x1, x2, x3, x4, x5, x6, x7, x8, _⟩ := X4.cells9
          have U0 := cell_under d0
          have U1 := cell_under d1
          have U2 := cell_under d2
          have V4 := cell_under x4
          have V5 := cell_under x5
          have V6 := cell_under x6
          clear d0 d1 d2 x0 x1 x2 x3 x4 x5 x6 x7 x8
          obtain ⟨E1, hE1⟩ : ∃ E, E = sameAdr (sV.getD i vp0) (kx 0 d6 dh dl 0) := ⟨_, rfl⟩
          rw [← hE1] at HB2
          have HEA := Lib.hid (show ((sV.getD i vp0).six == d6 && (sV.getD i vp0).hi == dh && (sV.getD i vp0).lo == dl) = E1 from hE1.symm)
          clear hE1
          obtain ⟨k, hk⟩ : ∃ k, k = sV.getD i vp0 := ⟨_, rfl⟩
          rw [← hk] at U0 U1 U2 HEA
          clear hk
          obtain ⟨k1, k2, k3, k4, k5, k6, k7⟩ := k
          dsimp only at U0 U1 U2 HEA
          go_upto_region 17 with (fail)
          refine wp_region_quiet_under (by kernel_rfl) (by kernel_rfl) ?_
          repeat (go_big_quiet_step (fail))
          go_big_quiet_want
          refine quiet_eq_addr HEA.out rfl rfl rfl ?_
          simp only [Act.put, List.setIfInBounds_toArray, List.set_cons_zero, List.set_cons_succ]
          go_big_quiet_on
          repeat (go_big_quiet_step (fail))
          refine wpQuiet_nil ?_
          intro wu hw'
          obtain ⟨pq, hw''⟩ := hw'
          have hU := below_eq hw''
          clear hw'' pq U0 U1 U2 V4 V5 V6 HEA
          have P5 := P4.keep hU
          have X5 := X4.keep hU
          have T5 := T4.keep hU
          have Y5 := Y4.keep hU
          have Z5 := Z4.keep hU
          have R5 := R4.keep hU
          have S5 := S4.keep hU
          have hW5 := below_step hW4 hU
          clear hU
          obtain ⟨ad2, e2, hbk, hat⟩ := R5.vpat_ hin
          obtain rfl := Option.some.inj e2
          obtain ⟨d0, d1, d2, d3, d4, d5, d6'⟩ := hat
          obtain ⟨ae, rfl, hbe, hae⟩ := S5.vpat_ hin
          obtain ⟨e0, e1, e2, e3, e4, e5, e6⟩ := hae
          have q1 := P5.cell 1
          have hvp : vpShape.z = vp0 := rfl
          rw [hvp] at d0 d1 d2 d3 d4 d5 d6' e0 e1 e2 e3 e4 e5 e6
          clear hvp
          have U0 := cell_under d0
          have U1 := cell_under d1
          have U2 := cell_under d2
          have U3 := cell_under d3
          have U4 := cell_under d4
          have U5 := cell_under d5
          have U6 := cell_under d6'
          have HS0 := Lib.hid (sameVp_self (sV.getD i vp0))
          obtain ⟨k, hk⟩ : ∃ k, k = sV.getD i vp0 := ⟨_, rfl⟩
          rw [← hk] at U0 U1 U2 U3 U4 U5 U6
          have HSV := Lib.hid (show (!sameVp k (sV.getD i vp0)) = false by rw [hk, HS0.out]; rfl)
          clear hk HS0
          generalize sV.getD i vp0 = k' at *
          have V0 := cell_under e0
          have V1 := cell_under e1
          have V2 := cell_under e2
          have V3 := cell_under e3
          have V4 := cell_under e4
          have V5 := cell_under e5
          have V6 := cell_under e6
          have VQ := cell_under q1
          obtain ⟨k1, k2, k3, k4, k5, k6, k7⟩ := k
          obtain ⟨l1, l2, l3, l4, l5, l6, l7⟩ := k'
          dsimp only at U0 U1 U2 U3 U4 U5 U6 V0 V1 V2 V3 V4 V5 V6
          clear d0 d1 d2 d3 d4 d5 d6' e0 e1 e2 e3 e4 e5 e6 q1
          go_upto_region 18 with (fail)
          refine wp_region_quiet_under (by kernel_rfl) (by kernel_rfl) ?_
          repeat (go_big_quiet_step (fail))
          go_big_quiet_want
          refine quiet_neq_vp (a := ⟨k1, k2, k3, k4, k5, k6, k7⟩) (b := ⟨l1, l2, l3, l4, l5, l6, l7⟩) HSV.out rfl rfl rfl ?_
          simp only [Act.put, List.setIfInBounds_toArray, List.set_cons_zero, List.set_cons_succ]
          go_big_quiet_on
          repeat (go_big_quiet_step (fail))
          refine wpQuiet_nil ?_
          intro wv hw'
          obtain ⟨pq, hw''⟩ := hw'
          have hU := below_eq hw''
          clear hw'' pq U0 U1 U2 U3 U4 U5 U6 V0 V1 V2 V3 V4 V5 V6 VQ
          go_wp2
          go_roundg (svn - (i + 1))
          case measure => omega
          case rel => exact ⟨i + 1, by omega, rfl, by go_num, by rw [HB2.out], P5.keep hU, X5.keep hU, T5.keep hU, Y5.keep hU, Z5.keep hU, R5.keep hU, S5.keep hU, below_step hW5 hU⟩
      · have hke : svn = i := by omega
        subst hke
        have hBa : ((sV.take svn).any (fun y => sameAdr y (kx 0 d6 dh dl 0))) = sV.any (fun y => sameAdr y (kx 0 d6 dh dl 0)) := by rw [List.take_of_length_le (by rw [HVL.out]; exact Nat.le_refl _)]
        rw [hBa]
        clear hBa
        have hOu := vip_OursYes T4 d6 dh dl w2' w3'
        generalize (sV.any fun y => sameAdr y (kx 0 d6 dh dl 0)) = BB at *
        obtain ⟨x0, x1, x2, x3, x4, x5, x6, x7, x8, _⟩ := X4.cells9
        obtain ⟨y0, y1, y2, y3, y4, y5, y6', _⟩ := Y4.cells7
        obtain ⟨z0, z1, z2, z3, z4, z5, z6', _⟩ := Z4.cells7
        go_wp2_with fail
        refine hOu.mono ?_; rintro e w8 ⟨rfl, hx8⟩
        have hW8 := below_step hW4 hx8
        clear hW4 hx8 hOu P4 X4 T4 Y4 Z4 R4 S4 x0 x1 x2 x3 x4 x5 x6 x7 x8 y0 y1 y2 y3 y4 y5 y6' z0 z1 z2 z3 z4 z5 z6'
        go_wp2_with fail
        refine (law30_awake _).mono ?_; rintro e w9 ⟨rfl, hx9⟩
        go_wp2
        go_ret
        exact ⟨rfl, below_step hW8 hx9⟩
end Go.Proofs.Ytceekfbhkenniaa
end
