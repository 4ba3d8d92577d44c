/- Lemmas for the claim's proof: OpsArg HlF. -/
import Derived.Test.YtcpfekhpbjkgeaaQ06
import Derived.Test.YtcpfekhpbjkgeaaQ22
import Derived.Test.YtcpfekhpbjkgeaaQ27
section
/- A script of calls of a board as an argument. -/
set_option linter.unusedVariables false
namespace Go.Proofs.Ytcpfekhpbjkgeaa
open Go.ChangeShapes Go.WideShapes Go.ChangeAt Go.RowKit Go.Deep
/-- A call; its numbers beside it. -/
structure HOp where
  kind : Int
  a : Option Addr
  n : Nat
  c : Nat
  id : Int
  ok : Bool
  ids : List Int
  deriving Inhabited
def hopShape : Shape HOp where
  z := ⟨0, none, 0, 0, 0, false, []⟩
  size := 4
  cells := fun x => [.int .i64 x.kind, .slice x.a x.n x.c, .int .i64 x.id, .bool x.ok]
  Wf := fun x => I64 x.kind ∧ I64 x.id
  pos := by decide
  len := fun _ => rfl
  one := fun x u hu => by
    simp at hu
    rcases hu with rfl | rfl | rfl | rfl <;> rfl
  zwf := by unfold I64; decide
/-- Its numbers can be read. -/
def IsHop (w : World) (y : HOp) : Prop := IsList w .i64 y.a y.n y.c y.ids ∧ (0 < y.n → ∀ ad, y.a = some ad → ad.block < w.heap.size)
section
variable {H : Type} {enc : TypeId × Value → H} {W : World} {base : Nat}
theorem open_listD {t e : TypeId} (ht : Try.prog.underlying t = some (.slice e)) (he : Try.prog.underlying e = some (.int .i64)) (hc : Try.prog.cellsOf e = 1) (hby : Try.prog.bytesOf e = 8) {fuel : Nat} {cs : List Value} {x : DataW H × List MemPlace}
    (hf : DataW.trod enc Try.prog W base (fun _ => true) true fuel t cs = some x) (hg : Good W t x) : ∃ (A : Option Addr) (n c : Nat) (zs : List Int), cs = [.slice A n c] ∧ IsList W .i64 A n c zs ∧ (0 < n → ∀ ad, A = some ad → ad.block < W.heap.size) := by
  rcases open_ints ht he hc hf with ⟨hcs, hx⟩ | ⟨a, len', cap', zs, hcs, _, hl, hm, hz, hx, hcell, hwz⟩
  · exact ⟨none, 0, 0, [], hcs, isList_nil W .i64, fun h => absurd h (by decide)⟩
  · obtain ⟨x1, x2⟩ := x
    simp only [Prod.mk.injEq] at hx
    obtain ⟨rfl, rfl⟩ := hx
    simp only [if_true] at hz
    obtain ⟨hs, _⟩ := small_slice ht hg.2
    have hlen : (zs.take len').length = len' := by simp; omega
    have hblk : 0 < len' → a.block < W.heap.size := fun hn => by
      have h0 : 0 < zs.length := by omega
      cases zs with
      | nil => simp at h0
      | cons z zs => exact hg.1 (MemPlace.cell a.block a.off) (by simp [MemPlace.row])
    refine ⟨some a, len', cap', zs.take len', hcs, ⟨⟨by rw [List.length_map, hlen, Nat.mul_one], fun hn => ⟨a, rfl, hblk hn, fun j u hu => ?_⟩⟩, hlen, hl, (by unfold maxLen at hm; omega), fun n hn => hwz n (List.mem_of_mem_take hn), ?_⟩, fun hn ad e => by cases e; exact hblk hn⟩
    · rw [List.getElem?_map, List.getElem?_take] at hu
      split at hu
      · rename_i hj
        rw [hcell j (by omega)]
        rw [List.getElem?_eq_getElem (by omega)] at hu
        simp only [Option.map_some, Option.some.injEq] at hu
        rw [← hu]
        simp [List.getD, List.getElem?_eq_getElem (show j < zs.length by omega)]
      · cases hu
    · rw [hby] at hs
      simp only [lits, List.length_map, List.length_take, List.length_drop, reachBytes] at hs
      omega
structure HopType (e : TypeId) (f0 f1 f2 f3 : Field) (b : TypeId) : Prop where
  he : Try.prog.underlying e = some (.struct #[f0, f1, f2, f3])
  hc : Try.prog.cellsOf e = 4
  c0 : f0.offset = 0 ∧ Try.prog.cellsOf f0.type = 1
  c1 : f1.offset = 1 ∧ Try.prog.cellsOf f1.type = 1
  c2 : f2.offset = 2 ∧ Try.prog.cellsOf f2.type = 1
  c3 : f3.offset = 3 ∧ Try.prog.cellsOf f3.type = 1
  e0 : Try.prog.underlying f0.type = some (.int .i64)
  e1 : Try.prog.underlying f1.type = some (.slice b)
  eb : Try.prog.underlying b = some (.int .i64)
  cb : Try.prog.cellsOf b = 1
  bb : Try.prog.bytesOf b = 8
  e2 : Try.prog.underlying f2.type = some (.int .i64)
  e3 : Try.prog.underlying f3.type = some .bool
theorem trod_hop {e : TypeId} {f0 f1 f2 f3 : Field} {b : TypeId} (hT : HopType e f0 f1 f2 f3 b) {fuel : Nat} {cs : List Value} {x : DataW H × List MemPlace}
    (h : DataW.trod enc Try.prog W base (fun _ => true) true fuel e cs = some x) (hg : Good W e x) : ∃ y : HOp, cs = hopShape.cells y ∧ hopShape.Wf y ∧ IsHop W y := by
  obtain ⟨ys, n, _, rfl, hlen, hyl, hf⟩ := DataW.trod_struct hT.he h
  rw [hT.hc] at hlen
  have hs : ys.length = 4 := hyl
  have t0 := hf 0 f0 rfl
  have t1 := hf 1 f1 rfl
  have t2 := hf 2 f2 rfl
  have t3 := hf 3 f3 rfl
  rw [hT.c0.1, hT.c0.2] at t0
  rw [hT.c1.1, hT.c1.2] at t1
  rw [hT.c2.1, hT.c2.2] at t2
  rw [hT.c3.1, hT.c3.2] at t3
  obtain ⟨y0, q0⟩ : ∃ y, ys[0]? = some y := ⟨_, List.getElem?_eq_getElem (by omega)⟩
  obtain ⟨y1, q1⟩ : ∃ y, ys[1]? = some y := ⟨_, List.getElem?_eq_getElem (by omega)⟩
  obtain ⟨y2, q2⟩ : ∃ y, ys[2]? = some y := ⟨_, List.getElem?_eq_getElem (by omega)⟩
  obtain ⟨y3, q3⟩ : ∃ y, ys[3]? = some y := ⟨_, List.getElem?_eq_getElem (by omega)⟩
  obtain ⟨z0, r0, _, m0⟩ := DataW.trod_int hT.e0 (t0.trans q0)
  obtain ⟨z2, r2, _, m2⟩ := DataW.trod_int hT.e2 (t2.trans q2)
  obtain ⟨z3, r3, _⟩ := DataW.trod_bool hT.e3 (t3.trans q3)
  have hg1 : Good W f1.type y1 := ⟨fun q hq => hg.1 q (List.mem_flatMap.2 ⟨y1, List.mem_of_getElem? q1, hq⟩), small_struct hT.he hg.2 (j := 1) rfl (by rw [List.getElem?_map, q1]; rfl)⟩
  obtain ⟨A, k, c, l, r1, hR⟩ := open_listD hT.e1 hT.eb hT.cb hT.bb (t1.trans q1) hg1
  clear t0 t1 t2 t3 hf h
  match cs, hlen with
  | [a0, a1, a2, a3], _ =>
    simp at r0 r1 r2 r3
    subst r0 r1 r2 r3
    exact ⟨⟨z0, A, k, c, z2, z3, l⟩, rfl, ⟨i64_of_wf m0, i64_of_wf m2⟩, hR⟩
end
set_option maxRecDepth 100000 in
theorem open_hops {H : Type} {enc : TypeId × Value → H} {W : World} {base : Nat} {r : Reach} {b0 : Nat} {v : Value} {d : DataW H} {p : List MemPlace}
    (hv : Value.okWide Try.prog W r b0 50 v) (h : DataW.Trod enc Try.prog W base (fun _ => true) true 50 v d p) (hlt : ∀ x ∈ p, x.block < W.heap.size) (hs : Small 50 d) :
    ∃ (A : Option Addr) (n c : Nat) (l : List HOp), v = .slice A n c ∧ IsRow hopShape W A n c l ∧ ∀ t ∈ l, IsHop W t :=
  open_rowsDV (C := hopShape) (E := IsHop W) (fun fuel cs x h hg => trod_hop ⟨Try.underlying62, (by as_aux_lemma => kernel_rfl), ⟨rfl, (by as_aux_lemma => kernel_rfl)⟩, ⟨rfl, (by as_aux_lemma => kernel_rfl)⟩, ⟨rfl, (by as_aux_lemma => kernel_rfl)⟩, ⟨rfl, (by as_aux_lemma => kernel_rfl)⟩, Try.underlying3, Try.underlying60, Try.underlying3, (by as_aux_lemma => kernel_rfl), (by as_aux_lemma => kernel_rfl), Try.underlying3, Try.underlying4⟩ h hg)
    (by as_aux_lemma => kernel_rfl) Try.underlying50 (of_decide_eq_true (by as_aux_lemma => kernel_rfl)) hv h hlt hs
end Go.Proofs.Ytcpfekhpbjkgeaa
end
section
/- The walk of the law HealthPlays. -/
set_option linter.unusedVariables false
namespace Go.Proofs.Ytcpfekhpbjkgeaa
open Go.RowKit Go.Maps
set_option maxHeartbeats 8000000
set_option maxRecDepth 100000
/-- A scene without others. -/
abbrev Scene.of (u : World) : Scene := ⟨u, fun _ => False, fun _ => none, 0⟩
/-- Both boards, new. -/
theorem both_new {u w2 : World} {bb wb mb : Nat} {V : Nat → Value} {r : Rul} (hr : RightR r) (hB : IsBoard w2 u.heap.size (newBd bb wb mb V r)) (hx : Below u.heap.size u w2) :
    Both (Scene.of u) (w2.alloc (.cells #[.int .i64 r.every, .int .i64 r.timeout, .int .i64 r.rise, .int .i64 r.fall, .slice none 0 0, .int .i64 0] 58)) (newBd bb wb mb V r) w2.heap.size (.slice none 0 0) [] 0 := by
  have hA := (Below.refl w2.heap.size w2).alloc (Nat.le_refl _) (.cells #[.int .i64 r.every, .int .i64 r.timeout, .int .i64 r.rise, .int .i64 r.fall, .slice none 0 0, .int .i64 0] 58)
  refine ⟨hB.keep hA, ⟨Blk.new w2 58 _, hx.size, World.ownsRow_nil _ _ _ 6⟩, fun g hg hp => ?_, sim_new _ _ _ _ _, hr, by simp, below_step hx hA, Int.le_refl _, Nat.le_refl _, ⟨fun g hg => hg.elim, Nat.zero_le _⟩⟩
  rcases hp with h | h
  · have := (hB.lt hg).2; omega
  · simp [Value.ownBlock] at h
theorem hop_at {w : World} {A : Option Addr} {n c : Nat} {l : List HOp} (h : IsRow hopShape w A n c l) {k : Nat} (hk : k < n) : ∃ ad, A = some ad ∧ w.cell? (ad.add (k * 4)) = some (.int .i64 (l.getD k default).kind) ∧ w.cell? ⟨(ad.add (k * 4)).block, (ad.add (k * 4)).off + 1, none⟩ = some (.slice (l.getD k default).a (l.getD k default).n (l.getD k default).c) ∧ w.cell? ⟨(ad.add (k * 4)).block, (ad.add (k * 4)).off + 2, none⟩ = some (.int .i64 (l.getD k default).id) ∧ w.cell? ⟨(ad.add (k * 4)).block, (ad.add (k * 4)).off + 3, none⟩ = some (.bool (l.getD k default).ok) := by
  obtain ⟨ad, e, hb, hat⟩ := h.at_ hk
  have e0 : l.getD k default = l.getD k hopShape.z := by
    have hl : k < l.length := by rw [h.len]; exact hk
    rw [List.getD_eq_getElem?_getD, List.getD_eq_getElem?_getD, List.getElem?_eq_getElem hl]; rfl
  rw [e0]
  have hat : ∀ j u, (hopShape.cells (l.getD k hopShape.z))[j]? = some u → w.cell? (ad.add (k * 4 + j)) = some u := hat
  refine ⟨ad, e, hat 0 _ rfl, ?_, ?_, ?_⟩ <;> rw [← add_far _ _ _ (by omega)]
  · exact hat 1 _ rfl
  · exact hat 2 _ rfl
  · exact hat 3 _ rfl
theorem IsHop.keep {w w' : World} {y : HOp} (h : IsHop w y) (hx : Below w.heap.size w w') : IsHop w' y := ⟨h.1.keep hx, fun h0 ad e => Nat.lt_of_lt_of_le (h.2 h0 ad e) hx.size⟩
theorem hop_mem {l : List HOp} {k : Nat} (hk : k < l.length) : l.getD k default ∈ l := by
  rw [List.getD_eq_getElem?_getD, List.getElem?_eq_getElem hk]; exact List.getElem_mem _
theorem healthPlays_walk (w : World) (re rt rr rf : Int) (hw : I64 re ∧ I64 rt ∧ I64 rr ∧ I64 rf) (A : Option Addr) (n c : Nat) (l : List HOp) (hl : IsRow hopShape w A n c l ∧ ∀ t ∈ l, IsHop w t) :
    Calls Try.prog 6 #[.agg #[.int .i64 re, .int .i64 rt, .int .i64 rr, .int .i64 rf], .slice A n c] w fun e w' => e = .returned (.bool true) ∧ Below w.heap.size w w' := by
  have hA := (Below.refl w.heap.size w).alloc (Nat.le_refl _) (.cells #[.int .i64 re, .int .i64 rt, .int .i64 rr, .int .i64 rf] 49)
  have PR := Blk.new w 49 #[.int .i64 re, .int .i64 rt, .int .i64 rr, .int .i64 rf]
  have CRT := fun w => law22_right ⟨re, rt, rr, rf⟩ w
  have CRH := fun w => health_Right ⟨re, rt, rr, rf⟩ w
  have CAW := fun w => law22_awake w
  have hq := fun m w => eql_board_nil m w
  have hcap := hl.1.cap
  have hsm := hl.1.small
  have hL1 := hl.1.keep hA
  have HHOP := Lib.hid (fun t ht => (hl.2 t ht).keep hA)
  have HLEN := Lib.hid hl.1.len
  clear hl
  go_enter Try.func6, Try.ntmps6
  go_upto_region 1 with (fail)
  obtain ⟨rb, hrb⟩ : ∃ q, q = w.heap.size := ⟨_, rfl⟩
  rw [← hrb] at PR ⊢
  clear hrb
  generalize w.alloc (.cells #[.int .i64 re, .int .i64 rt, .int .i64 rr, .int .i64 rf] 49) = u at *
  obtain ⟨p0, p1, p2, p3, _⟩ := PR.cells4
  by_cases hR : RightR ⟨re, rt, rr, rf⟩
  · rw [rightB_t hR] at CRT CRH
    have HR := Lib.hid hR
    clear hR
    have CNW := health_NewGood ⟨re, rt, rr, rf⟩ HR.out
    go_wp2_with fail
    refine (CNW _).mono ?_
    rintro e w2 ⟨⟨bb, wb, mb, V, rfl, hB2⟩, hx2⟩
    have PR2 := PR.keep hx2
    clear PR p0 p1 p2 p3 CNW
    obtain ⟨p0, p1, p2, p3, _⟩ := PR2.cells4
    have U0 := cell_under p0
    have U1 := cell_under p1
    have U2 := cell_under p2
    have U3 := cell_under p3
    clear p0 p1 p2 p3
    go_upto_region 2 with (fail)
    refine wp_region_quiet_under (by kernel_rfl) (by kernel_rfl) ?_
    repeat (go_big_quiet_step ((first | (go_at_call 25; exact calls_under (CRH _)) | (go_at_call 26; exact calls_under (CRT _)))))
    refine wpQuiet_nil ?_
    intro wu hw'
    obtain ⟨pq, hw''⟩ := hw'
    have hU := below_eq hw''
    clear hw'' pq
    have hB3 := hB2.keep hU
    have hx3 := below_step hx2 hU
    have PR3 := PR2.keep hU
    clear hB2 hx2 PR2 hU U0 U1 U2 U3
    obtain ⟨p0, p1, p2, p3, _⟩ := PR3.cells4
    go_wp2_with fail
    refine (CRT _).mono ?_; rintro e w4 ⟨rfl, hx4⟩
    have hB4 := hB3.keep hx4
    have hx5 := below_step hx3 hx4
    have PR4 := PR3.keep hx4
    clear hB3 hx3 PR3 p0 p1 p2 p3 hx4 CRT CRH
    obtain ⟨p0, p1, p2, p3, _⟩ := PR4.cells4
    have hb0 := both_new HR.out hB4 hx5
    have hbb : (newBd bb wb mb V ⟨re, rt, rr, rf⟩).bb = bb := rfl
    obtain ⟨s1, hs1⟩ : ∃ s, s = newBd bb wb mb V ⟨re, rt, rr, rf⟩ := ⟨_, rfl⟩
    rw [← hs1] at hb0 hbb
    dsimp only at hb0
    clear hs1 hB4 hx5
    go_upto_region 9 with (fail)
    obtain ⟨pb, hpb⟩ : ∃ q, q = w4.heap.size := ⟨_, rfl⟩
    rw [← hpb] at hb0 ⊢
    clear hpb p0 p1 p2 p3 PR4
    generalize w4.alloc (.cells #[.int .i64 re, .int .i64 rt, .int .i64 rr, .int .i64 rf, .slice none 0 0, .int .i64 0] 58) = w5 at *
    go_upto_region 10 with (fail)
    go_loopg [8] n (fun gk s8 wr => ∃ (k : Nat) (s : Bd) (v : Value) (L : List Ph), s8 = .int .i64 k ∧ k ≤ n ∧ k ≤ 100 ∧ gk = n - k ∧ Both (Scene.of u) wr s pb v L k ∧ s.bb = bb)
    case atStart => exact ⟨0, s1, _, [], by go_num, Nat.zero_le _, Nat.zero_le _, rfl, hb0, hbb⟩
    case round =>
      clear hb0 hbb
      obtain ⟨k, s, v, L, rfl, hk, hk100, rfl, hb, hbb⟩ := hrel
      by_cases hkn : k < n
      · have hkk : (k : Int) < (n : Int) := by omega
        have e1 : decide ((k : Int) < (n : Int)) = true := decide_eq_true hkk
        by_cases hk2 : k < 100
        · have e2 : decide ((k : Int) < 100) = true := decide_eq_true (by omega)
          have hL2 := hL1.keep hb.below
          obtain ⟨ad, hAd, d0, d1, d2, d3⟩ := hop_at hL2 hkn
          subst hAd
          have hH := HHOP.out _ (hop_mem (l := l) (k := k) (by rw [HLEN.out]; exact hkn))
          have hwf := hL1.wf _ (hop_mem (l := l) (k := k) (by rw [HLEN.out]; exact hkn))
          generalize l.getD k default = y at *
          obtain ⟨yk, ya, yn, yc, yi, yo, yl⟩ := y
          dsimp only at d0 d1 d2 d3
          have hHw := hH.1.keep hb.below
          have CS := law22_step hb (by omega) hHw (fun h0 ad e => ⟨fun h => absurd (hH.2 h0 ad e) (Nat.not_lt.2 (hb.bd.lt h).1), fun h => absurd (hH.2 h0 ad e) (Nat.not_lt.2 (hb.pl.lt h).1)⟩) yk yi hwf.2 yo
          rw [hbb] at CS
          dsimp only at CS
          clear hL2 hH hwf hHw
          go_wp2_with fail
          refine CS.mono ?_
          rintro e w6 ⟨rfl, s', v', L', hb', hO', _⟩
          have hbb' : s'.bb = bb := hO'.1.trans hbb
          have CM := law22_same hb' (by omega)
          rw [hbb'] at CM
          clear CS hb hbb hO' d0 d1 d2 d3
          go_wp2_with fail
          refine CM.mono ?_
          rintro e w7 ⟨rfl, hx7⟩
          have hb7 := hb'.keep hx7
          clear CM hb' hx7 e1 e2
          go_wp2_with fail
          go_roundg (n - (k + 1))
          case measure => omega
          case rel => exact ⟨k + 1, s', v', L', by go_num, by omega, by omega, rfl, hb7, hbb'⟩
        · have e2 : decide ((k : Int) < 100) = false := decide_eq_false (by omega)
          have hW := below_step hA hb.below
          clear hb
          go_wp2_with fail
          refine (CAW _).mono ?_; rintro e w6 ⟨rfl, hx6⟩
          have hW2 := below_step hW hx6
          clear hW hx6
          go_wp2_with fail
          go_ret
          exact ⟨rfl, hW2⟩
      · have hge : ¬ (k : Int) < (n : Int) := by omega
        have e1 : decide ((k : Int) < (n : Int)) = false := decide_eq_false hge
        have hW := below_step hA hb.below
        clear hb
        go_wp2_with fail
        refine (CAW _).mono ?_; rintro e w6 ⟨rfl, hx6⟩
        have hW2 := below_step hW hx6
        clear hW hx6
        go_wp2_with fail
        go_ret
        exact ⟨rfl, hW2⟩
  · rw [rightB_f hR] at CRT CRH
    have CNW := health_NewBad ⟨re, rt, rr, rf⟩ hR
    clear hR
    go_wp2_with fail
    refine (CNW _).mono ?_
    rintro e w2 ⟨rfl, hx2⟩
    have PR2 := PR.keep hx2
    clear PR p0 p1 p2 p3 CNW
    obtain ⟨p0, p1, p2, p3, _⟩ := PR2.cells4
    have U0 := cell_under p0
    have U1 := cell_under p1
    have U2 := cell_under p2
    have U3 := cell_under p3
    clear p0 p1 p2 p3
    go_upto_region 2 with (fail)
    refine wp_region_quiet_under (by kernel_rfl) (by kernel_rfl) ?_
    repeat (go_big_quiet_step ((first | (go_at_call 25; exact calls_under (CRH _)) | (go_at_call 26; exact calls_under (CRT _)))))
    refine wpQuiet_nil ?_
    intro wu hw'
    obtain ⟨pq, hw''⟩ := hw'
    have hU := below_eq hw''
    clear hw'' pq
    have hx3 := below_step hx2 hU
    have PR3 := PR2.keep hU
    clear hx2 PR2 hU U0 U1 U2 U3
    obtain ⟨p0, p1, p2, p3, _⟩ := PR3.cells4
    go_wp2_with fail
    refine (CRT _).mono ?_; rintro e w4 ⟨rfl, hx4⟩
    have hx5 := below_step hA (below_step hx3 hx4)
    clear PR3 p0 p1 p2 p3 hx4 CRT CRH hx3 hA
    go_wp2_with fail
    refine (CAW _).mono ?_; rintro e w6 ⟨rfl, hx6⟩
    have hW2 := below_step hx5 hx6
    clear hx5 hx6
    go_wp2_with fail
    go_ret
    exact ⟨rfl, hW2⟩
end Go.Proofs.Ytcpfekhpbjkgeaa
end
