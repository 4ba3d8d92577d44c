/- Lemmas for the claim's proof: ConfA TreePlain ValidPlain Quiet3 Under TreeA TreeB. -/
import Derived.Deep.QuietTactic
import Derived.BigQuiet
import Derived.Deep.DeepCutAuto
import Derived.Test.YtceekfbhkenniaaQ01
import Derived.Test.YtceekfbhkenniaaQ02
import Derived.Test.YtceekfbhkenniaaQ03
section
/- Addresses, prefixes, balanced addresses, views and whole configurations as arguments. -/
set_option linter.unusedVariables false
namespace Go.Proofs.Ytceekfbhkenniaa
open Go.ChangeShapes Go.WideShapes Go.ChangeAt Go.RowKit Go.Deep
section
variable {H : Type} {enc : TypeId × Value → H} {W : World} {base : Nat} {sp : Nat → Bool} {held : Bool}
/-- The fields of an address, as the form lays them. -/
structure AddrType (e : TypeId) (g0 g1 g2 : Field) : Prop where
  ha : Try.prog.underlying e = some (.struct #[g0, g1, g2])
  hc : Try.prog.cellsOf e = 3
  d0 : g0.offset = 0 ∧ Try.prog.cellsOf g0.type = 1
  d1 : g1.offset = 1 ∧ Try.prog.cellsOf g1.type = 1
  d2 : g2.offset = 2 ∧ Try.prog.cellsOf g2.type = 1
  k0 : Try.prog.underlying g0.type = some .bool
  k1 : Try.prog.underlying g1.type = some (.int .u64)
  k2 : Try.prog.underlying g2.type = some (.int .u64)
theorem trod_addr {e : TypeId} {g0 g1 g2 : Field} (hT : AddrType e g0 g1 g2) {fuel : Nat} {cs : List Value} {x : DataW H × List MemPlace}
    (h : DataW.trod enc Try.prog W base sp held fuel e cs = some x) : ∃ (b : Bool) (y z : Int), cs = [.bool b, .int .u64 y, .int .u64 z] ∧ U64 y ∧ U64 z := by
  obtain ⟨zs, m, _, _, hlen2, hzl, hg⟩ := DataW.trod_struct hT.ha h
  rw [hT.hc] at hlen2
  have hs2 : zs.length = 3 := hzl
  have some_of2 : ∀ i, i < 3 → ∃ y, zs[i]? = some y := fun i hi => ⟨_, List.getElem?_eq_getElem (by omega)⟩
  have u0 := hg 0 g0 rfl
  have u1 := hg 1 g1 rfl
  have u2 := hg 2 g2 rfl
  rw [hT.d0.1, hT.d0.2] at u0
  rw [hT.d1.1, hT.d1.2] at u1
  rw [hT.d2.1, hT.d2.2] at u2
  obtain ⟨x0, v0⟩ := some_of2 0 (by omega)
  obtain ⟨x1, v1⟩ := some_of2 1 (by omega)
  obtain ⟨x2, v2⟩ := some_of2 2 (by omega)
  obtain ⟨b, r4, _⟩ := DataW.trod_bool hT.k0 (u0.trans v0)
  obtain ⟨z5, r5, _, w5⟩ := DataW.trod_int hT.k1 (u1.trans v1)
  obtain ⟨z6, r6, _, w6⟩ := DataW.trod_int hT.k2 (u2.trans v2)
  clear u0 u1 u2 hg h
  match cs, hlen2 with
  | [a0, a1, a2], _ =>
    simp at r4 r5 r6
    subst r4 r5 r6
    exact ⟨b, z5, z6, rfl, u64_of_wf w5, u64_of_wf w6⟩
structure VipType (e : TypeId) (f0 f1 f2 f3 f4 g0 g1 g2 : Field) : Prop where
  he : Try.prog.underlying e = some (.struct #[f0, f1, f2, f3, f4])
  ha : AddrType f0.type g0 g1 g2
  hc : Try.prog.cellsOf e = 7
  c0 : f0.offset = 0
  c1 : f1.offset = 3 ∧ Try.prog.cellsOf f1.type = 1
  c2 : f2.offset = 4 ∧ Try.prog.cellsOf f2.type = 1
  c3 : f3.offset = 5 ∧ Try.prog.cellsOf f3.type = 1
  c4 : f4.offset = 6 ∧ Try.prog.cellsOf f4.type = 1
  e1 : Try.prog.underlying f1.type = some (.int .i64)
  e2 : Try.prog.underlying f2.type = some (.int .i64)
  e3 : Try.prog.underlying f3.type = some (.int .i64)
  e4 : Try.prog.underlying f4.type = some .bool
theorem trod_vp {e : TypeId} {f0 f1 f2 f3 f4 g0 g1 g2 : Field} (hT : VipType e f0 f1 f2 f3 f4 g0 g1 g2) {fuel : Nat} {cs : List Value} {x : DataW H × List MemPlace}
    (h : DataW.trod enc Try.prog W base sp held fuel e cs = some x) : ∃ y : Vp, cs = vpShape.cells y ∧ vpShape.Wf y := by
  obtain ⟨ys, n, _, _, hlen, hyl, hf⟩ := DataW.trod_struct hT.he h
  rw [hT.hc] at hlen
  have hs : ys.length = 5 := hyl
  have some_of : ∀ i, i < 5 → ∃ y, ys[i]? = some y := fun i hi => ⟨_, List.getElem?_eq_getElem (by omega)⟩
  have t0 := hf 0 f0 rfl
  have t1 := hf 1 f1 rfl
  have t2 := hf 2 f2 rfl
  have t3 := hf 3 f3 rfl
  have t4 := hf 4 f4 rfl
  rw [hT.c0, hT.ha.hc] at t0
  rw [hT.c1.1, hT.c1.2] at t1
  rw [hT.c2.1, hT.c2.2] at t2
  rw [hT.c3.1, hT.c3.2] at t3
  rw [hT.c4.1, hT.c4.2] at t4
  obtain ⟨y0, q0⟩ := some_of 0 (by omega)
  obtain ⟨y1, q1⟩ := some_of 1 (by omega)
  obtain ⟨y2, q2⟩ := some_of 2 (by omega)
  obtain ⟨y3, q3⟩ := some_of 3 (by omega)
  obtain ⟨y4, q4⟩ := some_of 4 (by omega)
  obtain ⟨b, p1, p2, r0, w1, w2⟩ := trod_addr hT.ha (t0.trans q0)
  obtain ⟨z1, r1, _, m1⟩ := DataW.trod_int hT.e1 (t1.trans q1)
  obtain ⟨z2, r2, _, m2⟩ := DataW.trod_int hT.e2 (t2.trans q2)
  obtain ⟨z3, r3, _, m3⟩ := DataW.trod_int hT.e3 (t3.trans q3)
  obtain ⟨b4, r4, _⟩ := DataW.trod_bool hT.e4 (t4.trans q4)
  clear t0 t1 t2 t3 t4 hf h
  match cs, hlen with
  | [a0, a1, a2, a3, a4, a5, a6], _ =>
    simp at r0 r1 r2 r3 r4
    obtain ⟨rfl, rfl, rfl⟩ := r0
    subst r1 r2 r3 r4
    exact ⟨⟨b, p1, p2, z1, z2, z3, b4⟩, rfl, w1, w2, i64_of_wf m1, i64_of_wf m2, i64_of_wf m3⟩
structure ViewType (e : TypeId) (f0 f1 h0 h1 g0 g1 g2 : Field) : Prop where
  he : Try.prog.underlying e = some (.struct #[f0, f1])
  hp : Try.prog.underlying f0.type = some (.struct #[h0, h1])
  ha : AddrType h0.type g0 g1 g2
  hc : Try.prog.cellsOf e = 5
  hc2 : Try.prog.cellsOf f0.type = 4
  c0 : f0.offset = 0
  c1 : f1.offset = 4 ∧ Try.prog.cellsOf f1.type = 1
  d0 : h0.offset = 0
  d1 : h1.offset = 3 ∧ Try.prog.cellsOf h1.type = 1
  e1 : Try.prog.underlying f1.type = some (.int .i64)
  k1 : Try.prog.underlying h1.type = some (.int .i64)
theorem trod_vw {e : TypeId} {f0 f1 h0 h1 g0 g1 g2 : Field} (hT : ViewType e f0 f1 h0 h1 g0 g1 g2) {fuel : Nat} {cs : List Value} {x : DataW H × List MemPlace}
    (h : DataW.trod enc Try.prog W base sp held fuel e cs = some x) : ∃ y : Vw, cs = vwShape.cells y ∧ vwShape.Wf y := by
  obtain ⟨ys, n, _, _, hlen, hyl, hf⟩ := DataW.trod_struct hT.he h
  rw [hT.hc] at hlen
  have hs : ys.length = 2 := hyl
  have t0 := hf 0 f0 rfl
  have t1 := hf 1 f1 rfl
  rw [hT.c0, hT.hc2] at t0
  rw [hT.c1.1, hT.c1.2] at t1
  obtain ⟨y0, q0⟩ : ∃ y, ys[0]? = some y := ⟨_, List.getElem?_eq_getElem (by omega)⟩
  obtain ⟨y1, q1⟩ : ∃ y, ys[1]? = some y := ⟨_, List.getElem?_eq_getElem (by omega)⟩
  obtain ⟨zs, m, _, _, hlen2, hzl, hg⟩ := DataW.trod_struct hT.hp (t0.trans q0)
  have hs2 : zs.length = 2 := hzl
  have u0 := hg 0 h0 rfl
  have u1 := hg 1 h1 rfl
  rw [hT.d0, hT.ha.hc] at u0
  rw [hT.d1.1, hT.d1.2] at u1
  obtain ⟨x0, v0⟩ : ∃ y, zs[0]? = some y := ⟨_, List.getElem?_eq_getElem (by omega)⟩
  obtain ⟨x1, v1⟩ : ∃ y, zs[1]? = some y := ⟨_, List.getElem?_eq_getElem (by omega)⟩
  obtain ⟨b, p1, p2, r0, w1, w2⟩ := trod_addr hT.ha (u0.trans v0)
  obtain ⟨z1, r1, _, m1⟩ := DataW.trod_int hT.k1 (u1.trans v1)
  obtain ⟨z2, r2, _, m2⟩ := DataW.trod_int hT.e1 (t1.trans q1)
  clear t0 t1 u0 u1 hg hf h
  match cs, hlen with
  | [a0, a1, a2, a3, a4], _ =>
    simp at r0 r1 r2
    obtain ⟨rfl, rfl, rfl⟩ := r0
    subst r1 r2
    exact ⟨⟨b, p1, p2, z1, z2⟩, rfl, w1, w2, i64_of_wf m1, i64_of_wf m2⟩
end
/-- An address. -/
structure Ad where
  six : Bool
  hi : Int
  lo : Int
def Ad.Wf (a : Ad) : Prop := U64 a.hi ∧ U64 a.lo
/-- A configuration in memory: its three slices. -/
structure Conf where
  na : Option Addr
  nn : Nat
  nc : Nat
  va : Option Addr
  vn : Nat
  vc : Nat
  wa : Option Addr
  wn : Nat
  wc : Nat
  factor : Int
  domain : Int
  s4 : Ad
  s6 : Ad
  nodes : List Nd
  vips : List Vp
  views : List Vw
def Conf.cells (c : Conf) : Array Value := #[.slice c.na c.nn c.nc, .slice c.va c.vn c.vc, .slice c.wa c.wn c.wc, .int .i64 c.factor, .int .i64 c.domain, .bool c.s4.six, .int .u64 c.s4.hi, .int .u64 c.s4.lo, .bool c.s6.six, .int .u64 c.s6.hi, .int .u64 c.s6.lo]
structure IsConf (w : World) (c : Conf) : Prop where
  nodes : IsNodes w c.na c.nn c.nc c.nodes
  vips : IsRow vpShape w c.va c.vn c.vc c.vips
  views : IsRow vwShape w c.wa c.wn c.wc c.views
  factor : I64 c.factor
  domain : I64 c.domain
  s4 : c.s4.Wf
  s6 : c.s6.Wf
theorem IsConf.keep {w w' : World} {c : Conf} (h : IsConf w c) (hx : Below w.heap.size w w') : IsConf w' c :=
  ⟨h.nodes.keep hx, h.vips.keep hx, h.views.keep hx, h.factor, h.domain, h.s4, h.s6⟩
section
variable {H : Type} {enc : TypeId × Value → H} {W : World} {base : Nat} {sp : Nat → Bool} {held : Bool}
theorem nodes_at {t e : TypeId} {f0 f1 f2 f3 f4 g0 g1 g2 : Field} (hT : NodeType e f0 f1 f2 f3 f4 g0 g1 g2) (ht : Try.prog.underlying t = some (.slice e)) (hby : 16 ≤ Try.prog.bytesOf e) {fuel : Nat} {cs : List Value} {x : DataW H × List MemPlace}
    (hf : DataW.trod enc Try.prog W base (fun _ => true) true fuel t cs = some x) (hlt : ∀ q ∈ x.2, q.block < W.heap.size)
    (hs : ∀ (elems spare : List (DataW H)), x.1 = .slice elems spare → (elems.length + spare.length) * Try.prog.bytesOf e ≤ reachBytes) :
    ∃ (A : Option Addr) (n c : Nat) (l : List Nd), cs = [.slice A n c] ∧ IsNodes W A n c l := by
  let S : Shape Nd := ⟨nd0, 7, Nd.cells, Nd.Wf, by decide, Nd.len, cells_one, nd0_wf⟩
  obtain ⟨A, n, c, l, h1, h2⟩ := open_rows (C := S) (fun fuel cs x h => trod_node hT h) hT.hc ht hby hf hlt hs
  exact ⟨A, n, c, l, h1, ⟨h2.reads, h2.len, h2.cap, h2.small, h2.reach, h2.wf⟩⟩
structure ConfType (e : TypeId) (f0 f1 f2 f3 f4 f5 : Field) (n0 n1 n2 n3 n4 v0 v1 v2 v3 v4 w0 w1 h0 h1 g0 g1 g2 : Field) (en ev ew ea : TypeId) : Prop where
  he : Try.prog.underlying e = some (.struct #[f0, f1, f2, f3, f4, f5])
  hc : Try.prog.cellsOf e = 11
  c0 : f0.offset = 0 ∧ Try.prog.cellsOf f0.type = 1
  c1 : f1.offset = 1 ∧ Try.prog.cellsOf f1.type = 1
  c2 : f2.offset = 2 ∧ Try.prog.cellsOf f2.type = 1
  c3 : f3.offset = 3 ∧ Try.prog.cellsOf f3.type = 1
  c4 : f4.offset = 4 ∧ Try.prog.cellsOf f4.type = 1
  c5 : f5.offset = 5 ∧ Try.prog.cellsOf f5.type = 6
  e0 : Try.prog.underlying f0.type = some (.slice en)
  e1 : Try.prog.underlying f1.type = some (.slice ev)
  e2 : Try.prog.underlying f2.type = some (.slice ew)
  e3 : Try.prog.underlying f3.type = some (.int .i64)
  e4 : Try.prog.underlying f4.type = some (.int .i64)
  e5 : Try.prog.underlying f5.type = some (.array 2 ea)
  hn : NodeType en n0 n1 n2 n3 n4 g0 g1 g2
  hv : VipType ev v0 v1 v2 v3 v4 g0 g1 g2
  hw : ViewType ew w0 w1 h0 h1 g0 g1 g2
  ha : AddrType ea g0 g1 g2
  bn : 16 ≤ Try.prog.bytesOf en
  bv : 16 ≤ Try.prog.bytesOf ev
  bw : 16 ≤ Try.prog.bytesOf ew
set_option maxRecDepth 100000 in
theorem open_config {r : Reach} {b0 : Nat} {e : TypeId} {f0 f1 f2 f3 f4 f5 : Field} {n0 n1 n2 n3 n4 v0 v1 v2 v3 v4 w0 w1 h0 h1 g0 g1 g2 : Field} {en ev ew ea : TypeId} (hT : ConfType e f0 f1 f2 f3 f4 f5 n0 n1 n2 n3 n4 v0 v1 v2 v3 v4 w0 w1 h0 h1 g0 g1 g2 en ev ew ea)
    {v : Value} {d : DataW H} {p : List MemPlace} {ts : List TypeId} {ds : List (DataW H)} {j : Nat}
    (hv : Value.okWide Try.prog W r b0 e v) (h : DataW.Trod enc Try.prog W base (fun _ => true) true e v d p) (hlt : ∀ x ∈ p, x.block < W.heap.size)
    (hsz : (DataW.weightsEach Try.prog ts ds).all (· ≤ reachBytes) = true) (hj : ts[j]? = some e) (hd : ds[j]? = some d) :
    ∃ c : Conf, v = .agg c.cells ∧ IsConf W c := by
  obtain ⟨cs, rfl, _⟩ := okWide_struct hT.he hv
  obtain ⟨fuel, hf⟩ := h
  obtain ⟨ys, n, _, hx, hlen, hyl, hg⟩ := DataW.trod_struct hT.he hf
  simp only [Prod.mk.injEq] at hx
  obtain ⟨rfl, rfl⟩ := hx
  have hsz2 := sized_struct hsz hj hd hT.he
  rw [hT.hc] at hlen
  have hs : ys.length = 6 := hyl
  have some_of : ∀ i, i < 6 → ∃ y, ys[i]? = some y := fun i hi => ⟨_, List.getElem?_eq_getElem (by omega)⟩
  have mem_of : ∀ (i : Nat) (y : DataW H × List MemPlace), ys[i]? = some y → ∀ q ∈ y.2, q.block < W.heap.size := fun i y hy q hq => hlt q (List.mem_flatMap.2 ⟨y, List.mem_of_getElem? hy, hq⟩)
  have sized_of : ∀ (i : Nat) (f : Field) (y : DataW H × List MemPlace), (#[f0, f1, f2, f3, f4, f5] : Array Field)[i]? = some f → ys[i]? = some y → ∀ e', Try.prog.underlying f.type = some (.slice e') → ∀ (elems spare : List (DataW H)), y.1 = .slice elems spare → (elems.length + spare.length) * Try.prog.bytesOf e' ≤ reachBytes :=
    fun i f y hfi hy e' hu elems spare hd2 => sized_slice hsz2 (j := i) (t := f.type) (by rw [List.getElem?_map, Array.getElem?_toList, hfi]; rfl) (by rw [List.getElem?_map, hy]; exact congrArg some hd2) hu
  have t0 := hg 0 f0 rfl
  have t1 := hg 1 f1 rfl
  have t2 := hg 2 f2 rfl
  have t3 := hg 3 f3 rfl
  have t4 := hg 4 f4 rfl
  have t5 := hg 5 f5 rfl
  rw [hT.c0.1, hT.c0.2] at t0
  rw [hT.c1.1, hT.c1.2] at t1
  rw [hT.c2.1, hT.c2.2] at t2
  rw [hT.c3.1, hT.c3.2] at t3
  rw [hT.c4.1, hT.c4.2] at t4
  rw [hT.c5.1, hT.c5.2] at t5
  obtain ⟨y0, q0⟩ := some_of 0 (by omega)
  obtain ⟨y1, q1⟩ := some_of 1 (by omega)
  obtain ⟨y2, q2⟩ := some_of 2 (by omega)
  obtain ⟨y3, q3⟩ := some_of 3 (by omega)
  obtain ⟨y4, q4⟩ := some_of 4 (by omega)
  obtain ⟨y5, q5⟩ := some_of 5 (by omega)
  obtain ⟨na, nn, nc, nodes, r0, R0⟩ := nodes_at hT.hn hT.e0 hT.bn (t0.trans q0) (mem_of 0 y0 q0) (sized_of 0 f0 y0 rfl q0 en hT.e0)
  obtain ⟨va, vn, vc, vips, r1, R1⟩ := open_rows (C := vpShape) (fun fuel cs x h => trod_vp hT.hv h) hT.hv.hc hT.e1 hT.bv (t1.trans q1) (mem_of 1 y1 q1) (sized_of 1 f1 y1 rfl q1 ev hT.e1)
  obtain ⟨wa, wn, wc, views, r2, R2⟩ := open_rows (C := vwShape) (fun fuel cs x h => trod_vw hT.hw h) hT.hw.hc hT.e2 hT.bw (t2.trans q2) (mem_of 2 y2 q2) (sized_of 2 f2 y2 rfl q2 ew hT.e2)
  obtain ⟨z3, r3, _, m3⟩ := DataW.trod_int hT.e3 (t3.trans q3)
  obtain ⟨z4, r4, _, m4⟩ := DataW.trod_int hT.e4 (t4.trans q4)
  obtain ⟨xs, m, _, _, _, hxl, hxs⟩ := DataW.trod_array hT.e5 (t5.trans q5)
  have u0 := hxs 0 (by omega)
  have u1 := hxs 1 (by omega)
  rw [hT.ha.hc] at u0 u1
  obtain ⟨x0, s0⟩ : ∃ y, xs[0]? = some y := ⟨_, List.getElem?_eq_getElem (by omega)⟩
  obtain ⟨x1, s1⟩ : ∃ y, xs[1]? = some y := ⟨_, List.getElem?_eq_getElem (by omega)⟩
  obtain ⟨a6, ah, al, r5, w5, w5'⟩ := trod_addr hT.ha (u0.trans s0)
  obtain ⟨b6, bh, bl, r6, w6, w6'⟩ := trod_addr hT.ha (u1.trans s1)
  clear t0 t1 t2 t3 t4 t5 u0 u1 hxs hg hf hv
  have hcs : ∃ l, cs = ⟨l⟩ := ⟨cs.toList, rfl⟩
  obtain ⟨l, rfl⟩ := hcs
  simp only [Value.cells] at hlen r0 r1 r2 r3 r4 r5 r6
  match l, hlen with
  | [k0, k1, k2, k3, k4, k5, k6, k7, k8, k9, k10], _ =>
    simp at r0 r1 r2 r3 r4 r5 r6
    obtain ⟨rfl, rfl, rfl⟩ := r5
    obtain ⟨rfl, rfl, rfl⟩ := r6
    subst r0 r1 r2 r3 r4
    exact ⟨⟨na, nn, nc, va, vn, vc, wa, wn, wc, z3, z4, ⟨a6, ah, al⟩, ⟨b6, bh, bl⟩, nodes, vips, views⟩, rfl, ⟨R0, R1, R2, i64_of_wf m3, i64_of_wf m4, ⟨w5, w5'⟩, ⟨w6, w6'⟩⟩⟩
end
end Go.Proofs.Ytceekfbhkenniaa
end
section
/- Which nodes may stand behind which, in plain Lean. -/
set_option linter.unusedVariables false
namespace Go.Proofs.Ytceekfbhkenniaa
def chP (v : Int) : Prop := (97 ≤ v ∧ v ≤ 122) ∨ (65 ≤ v ∧ v ≤ 90) ∨ (48 ≤ v ∧ v ≤ 57) ∨ v = 45 ∨ v = 95 ∨ v = 46
instance (v : Int) : Decidable (chP v) := by unfold chP; infer_instance
def chOk (c : UInt8) : Bool := decide (chP (c.toNat : Int))
def nameOk (s : ByteArray) : Bool := decide (1 ≤ s.size ∧ s.size ≤ 32) && s.data.toList.all chOk
theorem name_short {s : ByteArray} (h : s.size < 1) : nameOk s = false := by
  unfold nameOk
  rw [decide_eq_false (by omega)]; rfl
theorem name_long {s : ByteArray} (h : 32 < s.size) : nameOk s = false := by
  unfold nameOk
  rw [decide_eq_false (by omega)]; rfl
theorem take_at (s : ByteArray) (k : Nat) (h : k < s.size) : s.data.toList.take (k + 1) = s.data.toList.take k ++ [s[k]] := by
  rw [List.take_succ_eq_append_getElem (by simpa using h)]; rfl
theorem all_step {s : ByteArray} {k : Nat} (h : k < s.size) (ha : (s.data.toList.take k).all chOk = true) (hc : chP (s[k].toNat : Int)) : (s.data.toList.take (k + 1)).all chOk = true := by
  rw [take_at s k h, List.all_append, ha]
  simp [chOk, hc]
theorem name_bad {s : ByteArray} {k : Nat} (h : k < s.size) (hc : ¬ chP (s[k].toNat : Int)) : nameOk s = false := by
  unfold nameOk
  rw [Bool.and_eq_false_iff]
  right
  rw [List.all_eq_false]
  refine ⟨s[k], ?_, by simp [chOk, hc]⟩
  have : s[k] = s.data.toList[k]'(by simpa using h) := rfl
  rw [this]
  exact List.getElem_mem _
theorem name_good {s : ByteArray} (h1 : 1 ≤ s.size) (h2 : s.size ≤ 32) (ha : (s.data.toList.take s.size).all chOk = true) : nameOk s = true := by
  unfold nameOk
  rw [List.take_of_length_le (by simp)] at ha
  rw [ha, decide_eq_true ⟨h1, h2⟩]; rfl
def addrOk (six : Bool) (hi lo : Int) : Bool := six || (hi == 0 && decide (lo < 4294967296))
def Nd.addr (x : Nd) : Bool × Int × Int := (x.six, x.hi, x.lo)
def noAddr (x : Nd) : Bool := !x.six && x.hi == 0 && x.lo == 0
def sameAddr (x y : Nd) : Bool := x.six == y.six && x.hi == y.hi && x.lo == y.lo
def sameName (a b : ByteArray) : Bool := a.toList == b.toList
def twice (n y : Nd) : Bool := sameName y.name n.name || (n.kind == 4 && y.kind == 4 && sameAddr y n)
/-- Why a node may not stand behind others, but for those that are like it. -/
def headC (n : Nd) (l : List Nd) : Int :=
  if nameOk n.name = false ∨ n.kind < 1 ∨ 4 < n.kind then 1
  else if n.weight < 0 ∨ 65535 < n.weight ∨ (n.kind = 1 ∧ n.weight ≠ 0) then 17
  else if (n.kind = 1 ∧ n.above ≠ -1) ∨ (1 < n.kind ∧ (n.above < 0 ∨ (l.length : Int) ≤ n.above)) then 16
  else if 1 < n.kind ∧ (l.getD n.above.toNat nd0).kind ≠ n.kind - 1 then 16
  else if addrOk n.six n.hi n.lo = false ∨ (n.kind ≠ 4 ∧ noAddr n = false) then 18
  else 0
def rightC (n : Nd) (l : List Nd) : Int := if headC n l ≠ 0 then headC n l else if l.any (twice n) then 8 else 0
structure HeadOk (x : Nd) (l : List Nd) : Prop where
  name : nameOk x.name = true
  kind0 : 1 ≤ x.kind
  kind1 : x.kind ≤ 4
  weight0 : 0 ≤ x.weight
  weight1 : x.weight ≤ 65535
  level : x.kind = 1 → x.weight = 0 ∧ x.above = -1
  below : 1 < x.kind → 0 ≤ x.above ∧ x.above < l.length ∧ (l.getD x.above.toNat nd0).kind = x.kind - 1
  addr : addrOk x.six x.hi x.lo = true
  plain : x.kind ≠ 4 → x.six = false ∧ x.hi = 0 ∧ x.lo = 0
theorem headC_zero {x : Nd} {l : List Nd} (h : headC x l = 0) : HeadOk x l := by
  unfold headC noAddr at h
  constructor <;> grind
theorem rightC_head {x : Nd} {l : List Nd} (h : headC x l ≠ 0) : rightC x l = headC x l := by unfold rightC; rw [if_pos h]
theorem rightC_twice {x : Nd} {l : List Nd} (h : headC x l = 0) (h2 : l.any (twice x) = true) : rightC x l = 8 := by unfold rightC; rw [if_neg (by omega), if_pos h2]
theorem rightC_zero {x : Nd} {l : List Nd} (h : headC x l = 0) (h2 : l.any (twice x) = false) : rightC x l = 0 := by unfold rightC; rw [if_neg (by omega), h2]; rfl
theorem any_take_step {x : Nd} {l : List Nd} {k : Nat} (hk : k < l.length) (h : (l.take k).any (twice x) = false) (h2 : twice x (l.getD k nd0) = false) : (l.take (k + 1)).any (twice x) = false := by
  rw [List.take_succ_eq_append_getElem hk, List.any_append, h]
  rw [List.getD_eq_getElem?_getD, List.getElem?_eq_getElem hk] at h2
  simpa using h2
theorem any_at {x : Nd} {l : List Nd} {k : Nat} (hk : k < l.length) (h2 : twice x (l.getD k nd0) = true) : l.any (twice x) = true := by
  rw [List.any_eq_true]
  refine ⟨_, List.getElem_mem hk, ?_⟩
  rwa [List.getD_eq_getElem?_getD, List.getElem?_eq_getElem hk] at h2
def ofKind (k : Int) (l : List Nd) : Nat := l.countP (fun x => x.kind == k)
def full (n : Nd) (l : List Nd) : Bool := decide (1024 ≤ l.length) || (n.kind == 1 && decide (4 ≤ ofKind 1 l)) || (n.kind == 4 && decide (512 ≤ ofKind 4 l))
/-- Why a node may not stand behind others; 0: it may. -/
def whyC (n : Nd) (l : List Nd) : Int := if rightC n l ≠ 0 then rightC n l else if full n l then 6 else 0
end Go.Proofs.Ytceekfbhkenniaa
end
section
/- Which configurations may be, in plain Lean. -/
set_option linter.unusedVariables false
namespace Go.Proofs.Ytceekfbhkenniaa
/-- The first fault of so many. -/
def errTo (f : Nat → Int) : Nat → Int
  | 0 => 0
  | n + 1 => if errTo f n ≠ 0 then errTo f n else f n
theorem errTo_hit {f : Nat → Int} {i : Nat} (h0 : errTo f i = 0) (hi : f i ≠ 0) : ∀ n, i < n → errTo f n = f i
  | 0, h => absurd h (Nat.not_lt_zero _)
  | n + 1, h => by
    rw [errTo]
    by_cases e : i = n
    · subst e
      rw [if_neg (by omega)]
    · rw [errTo_hit h0 hi n (by omega), if_pos hi]
theorem errTo_none {f : Nat → Int} {i : Nat} (h0 : errTo f i = 0) (hi : f i = 0) : errTo f (i + 1) = 0 := by
  rw [errTo, if_neg (by omega), hi]
theorem errTo_all {f : Nat → Int} : ∀ n, errTo f n = 0 → ∀ i, i < n → f i = 0
  | 0, _, i, h => absurd h (Nat.not_lt_zero _)
  | n + 1, h0, i, h => by
    rw [errTo] at h0
    by_cases e : errTo f n ≠ 0
    · rw [if_pos e] at h0; exact absurd h0 e
    · rw [if_neg e] at h0
      rcases Nat.lt_or_ge i n with h1 | h1
      · exact errTo_all n (by omega) i h1
      · obtain rfl : i = n := by omega
        exact h0
theorem errTo_zero {f : Nat → Int} : ∀ n, (∀ i, i < n → f i = 0) → errTo f n = 0
  | 0, _ => rfl
  | n + 1, h => errTo_none (errTo_zero n (fun i hi => h i (by omega))) (h n (by omega))
theorem errTo_congr {f g : Nat → Int} : ∀ n, (∀ i, i < n → f i = g i) → errTo f n = errTo g n
  | 0, _ => rfl
  | n + 1, h => by rw [errTo, errTo, errTo_congr n (fun i hi => h i (by omega)), h n (by omega)]
/-! Balanced addresses. -/
def vipHead (v : Vp) : Int :=
  if addrOk v.six v.hi v.lo = false then 18
  else if v.proto ≠ 6 ∧ v.proto ≠ 17 then 14
  else if v.port < 0 ∨ 65535 < v.port ∨ v.copies < 1 ∨ 8 < v.copies ∨ (1 < v.copies ∧ v.proto ≠ 17) then 5
  else 0
def sameKey (x v : Vp) : Bool := (x.six == v.six && x.hi == v.hi && x.lo == v.lo) && x.proto == v.proto && x.port == v.port
def vp0 : Vp := vpShape.z
def vipI (v : Vp) (l : List Vp) : Int := if vipHead v ≠ 0 then vipHead v else if l.any (fun x => sameKey x v) then 8 else 0
def vipsI (l : List Vp) : Int := errTo (fun i => vipI (l.getD i vp0) (l.take i)) l.length
theorem vipI_head {v : Vp} {l : List Vp} (h : vipHead v ≠ 0) : vipI v l = vipHead v := by unfold vipI; rw [if_pos h]
theorem vipI_twice {v : Vp} {l : List Vp} (h : vipHead v = 0) (h2 : (l.any fun x => sameKey x v) = true) : vipI v l = 8 := by unfold vipI; rw [if_neg (by omega), if_pos h2]
theorem vipI_zero {v : Vp} {l : List Vp} (h : vipHead v = 0) (h2 : (l.any fun x => sameKey x v) = false) : vipI v l = 0 := by unfold vipI; rw [if_neg (by omega), h2]; rfl
theorem any_stepG {α : Type} {z : α} {p : α → Bool} {l : List α} {k : Nat} (hk : k < l.length) (h : (l.take k).any p = false) (h2 : p (l.getD k z) = false) : (l.take (k + 1)).any p = false := by
  rw [List.take_succ_eq_append_getElem hk, List.any_append, h]
  rw [List.getD_eq_getElem?_getD, List.getElem?_eq_getElem hk] at h2
  simpa using h2
theorem any_hitG {α : Type} {z : α} {p : α → Bool} {l : List α} {k : Nat} (hk : k < l.length) (h2 : p (l.getD k z) = true) : l.any p = true := by
  rw [List.any_eq_true]
  refine ⟨_, List.getElem_mem hk, ?_⟩
  rwa [List.getD_eq_getElem?_getD, List.getElem?_eq_getElem hk] at h2
/-! Views. -/
def cutI (b : Int) : Int := if b = 0 then 0 else IntKind.u64.wrap (18446744073709551615 * 2 ^ (64 - b).toNat)
def vw0 : Vw := vwShape.z
/-- The parts of an address that a prefix keeps. -/
def keepHi (hi b : Int) : Int := Go.bits .and .u64 hi (cutI (if 64 < b then 64 else b))
def keepLo (lo b : Int) : Int := Go.bits .and .u64 lo (cutI (if b - 64 < 0 then 0 else b - 64))
def keepLo4 (lo b : Int) : Int := Go.bits .and .u64 lo (cutI (b + 32))
/-- May a prefix be? -/
def pfxOk (six : Bool) (hi lo b : Int) : Bool :=
  addrOk six hi lo && decide (0 ≤ b) && decide (b ≤ if six = true then 128 else 32) && (if six = true then keepHi hi b == hi && keepLo lo b == lo else keepLo4 lo b == lo)
def viewHead (v : Vw) (levels : Int) : Int := if pfxOk v.six v.hi v.lo v.bits = false then 18 else if v.level < 0 ∨ levels ≤ v.level then 5 else 0
def samePfx (x v : Vw) : Bool := (x.six == v.six && x.hi == v.hi && x.lo == v.lo) && x.bits == v.bits
def viewI (v : Vw) (l : List Vw) (levels : Int) : Int := if viewHead v levels ≠ 0 then viewHead v levels else if l.any (fun x => samePfx x v) then 8 else 0
def viewsI (l : List Vw) (levels : Int) : Int := errTo (fun i => viewI (l.getD i vw0) (l.take i) levels) l.length
theorem viewI_head {v : Vw} {l : List Vw} {m : Int} (h : viewHead v m ≠ 0) : viewI v l m = viewHead v m := by unfold viewI; rw [if_pos h]
theorem viewI_twice {v : Vw} {l : List Vw} {m : Int} (h : viewHead v m = 0) (h2 : (l.any fun x => samePfx x v) = true) : viewI v l m = 8 := by unfold viewI; rw [if_neg (by omega), if_pos h2]
theorem viewI_zero {v : Vw} {l : List Vw} {m : Int} (h : viewHead v m = 0) (h2 : (l.any fun x => samePfx x v) = false) : viewI v l m = 0 := by unfold viewI; rw [if_neg (by omega), h2]; rfl
end Go.Proofs.Ytceekfbhkenniaa
end
section
/- Quiet regions behind quiet regions. -/
set_option linter.unusedVariables false
namespace Go.Proofs.Ytceekfbhkenniaa
section
variable {P : Program} {f : FuncId} {args : Array Value} {w : World} {a n : Nat} {v : Value}
theorem quiet_add (h : Calls P f args (w.drewN (a + n)) fun e w' => e = .returned v ∧ ∃ m, w' = (w.drewN (a + n)).drewN m) :
    Calls P f args (w.drewN (a + n)) fun e w'' => e = .returned v ∧ ∃ m, w'' = w.drewN (a + m) :=
  h.mono fun _ _ ⟨he, m, hm⟩ => ⟨he, n + m, by rw [hm, World.drewN_drewN, Nat.add_assoc]⟩
theorem quiet_add_left (h : Calls P f args (w.drewN (a + n)) fun e w' => e = .returned v ∧ w.drewN (a + n) = w') :
    Calls P f args (w.drewN (a + n)) fun e w'' => e = .returned v ∧ ∃ m, w'' = w.drewN (a + m) :=
  h.mono fun _ _ ⟨he, hm⟩ => ⟨he, n, hm.symm⟩
theorem quiet_left (h : Calls P f args (w.drewN n) fun e w' => e = .returned v ∧ w.drewN n = w') : Calls P f args (w.drewN n) fun e w'' => e = .returned v ∧ ∃ m, w'' = w.drewN m :=
  h.mono fun _ _ ⟨he, hm⟩ => ⟨he, n, hm.symm⟩
end
end Go.Proofs.Ytceekfbhkenniaa
end
section
/- Regions that draw their order, whose operations only read and whose callees may make memory: one walk, in the order of the text. -/
set_option linter.unusedVariables false
namespace Go.Proofs.Ytceekfbhkenniaa
open Go.RowKit
/-- What a world has beside another one: blocks behind its own, and a count of draws. -/
structure UP where
  h : Array Obj
  d : Nat
  deriving Inhabited
/-- A world with more blocks, and another count. -/
def under (w : World) (p : UP) : World := { w with heap := w.heap ++ p.h, drawn := p.d }
theorem under_below (w : World) (p : UP) : Below w.heap.size w (under w p) :=
  ⟨rfl, rfl, rfl, by simp [under], fun k hk => by simp only [under]; exact Array.getElem?_append_left hk⟩
theorem under_of_below {w w' : World} (h : Below w.heap.size w w') : ∃ p : UP, w' = under w p := by
  refine ⟨⟨w'.heap.extract w.heap.size w'.heap.size, w'.drawn⟩, ?_⟩
  obtain ⟨ho, ht, hp, hs, hb⟩ := h
  have e : w.heap ++ w'.heap.extract w.heap.size w'.heap.size = w'.heap := by
    apply Array.ext_getElem?
    intro i
    rcases Nat.lt_or_ge i w.heap.size with hi | hi
    · rw [Array.getElem?_append_left hi, hb i hi]
    · rw [Array.getElem?_append_right hi, Array.getElem?_extract]
      split
      · congr 1; omega
      · rw [Array.getElem?_eq_none]; omega
  cases w; cases w'
  simp only [under] at *
  subst ho ht hp
  rw [e]
theorem under_under (w : World) (p q : UP) : under (under w p) q = under w ⟨p.h ++ q.h, q.d⟩ := by
  simp [under, Array.append_assoc]
theorem under_drew (w : World) : ({ w with drawn := w.drawn + 1 } : World) = under w ⟨#[], w.drawn + 1⟩ := by simp [under]
theorem cell_under {w : World} {a : Addr} {v : Value} (h : w.cell? a = some v) (p : UP) : (under w p).cell? a = some v := cell_keep h (under_below w p)
theorem Blk.under {w : World} {g : Nat} {t : TypeId} {cs : Array Value} (h : Blk w g t cs) (p : UP) : Blk (under w p) g t cs := h.keep (under_below w p)
theorem wp_region_quiet_under {P : Program} {id : Nat} {Q : Exit → Act → World → Prop} {a : Act} {w : World} {l : List Oper} (hm : P.follows .mixedOrders = true) (hB : Region.lexB .any l.toArray = true)
    (h : wpQuiet P l.toArray (fun w' => ∃ p : UP, w' = under w p) (fun a' => ∀ w', (∃ p : UP, w' = under w p) → Q .normal a' w') l a) : (Code.region id l.toArray true).wp P Q a w :=
  wp_region_quiet (C := fun w' => ∃ p : UP, w' = under w p) hm hB ⟨_, under_drew w⟩ (by simpa using h)
theorem calls_under {P : Program} {f : FuncId} {args : Array Value} {w : World} {p : UP} {v : Value}
    (h : Calls P f args (under w p) fun e w' => e = .returned v ∧ Below (under w p).heap.size (under w p) w') : Calls P f args (under w p) fun e w'' => e = .returned v ∧ ∃ q : UP, w'' = under w q :=
  h.mono fun _ _ ⟨he, hb⟩ => by
    obtain ⟨q, hq⟩ := under_of_below hb
    exact ⟨he, _, hq.trans (under_under w p q)⟩
theorem calls_under_same {P : Program} {f : FuncId} {args : Array Value} {w : World} {p : UP} {v : Value}
    (h : Calls P f args (under w p) fun e w' => e = .returned v ∧ under w p = w') : Calls P f args (under w p) fun e w'' => e = .returned v ∧ ∃ q : UP, w'' = under w q :=
  h.mono fun _ _ ⟨he, hb⟩ => ⟨he, _, hb.symm⟩
theorem calls_under_drewN {P : Program} {f : FuncId} {args : Array Value} {w : World} {p : UP} {v : Value}
    (h : Calls P f args (under w p) fun e w' => e = .returned v ∧ ∃ d, w' = (under w p).drewN d) : Calls P f args (under w p) fun e w'' => e = .returned v ∧ ∃ q : UP, w'' = under w q :=
  h.mono fun _ _ ⟨he, d, hb⟩ => ⟨he, ⟨p.h, p.d + d⟩, by rw [hb]; rfl⟩
theorem below_eq {w w' : World} {p : UP} (h : w' = under w p) : Below w.heap.size w w' := h ▸ under_below w p
end Go.Proofs.Ytceekfbhkenniaa
end
section
/- Names and addresses that may be. -/
set_option linter.unusedVariables false
namespace Go.Proofs.Ytceekfbhkenniaa
open Go.RowKit
set_option maxHeartbeats 2000000
set_option maxRecDepth 100000
theorem tree_Name (s : ByteArray) (w : World) (hs : s.size ≤ maxLen) :
    Calls Try.prog 49 #[.string s] w fun e w' => e = .returned (.bool (nameOk s)) ∧ w = w' := by
  unfold maxLen at hs
  by_cases g1 : s.size < 1
  · have HN := Lib.hid (name_short g1)
    go_enter Try.func49, Try.ntmps49
    go_wp2
    go_ret
    exact ⟨by rw [HN.out]; rfl, rfl⟩
  by_cases g2 : 32 < s.size
  · have HN := Lib.hid (name_long g2)
    go_enter Try.func49, Try.ntmps49
    go_wp2
    go_ret
    exact ⟨by rw [HN.out]; rfl, rfl⟩
  go_enter Try.func49, Try.ntmps49
  go_wp2
  go_loop [15] (fun i => ∃ k : Nat, k ≤ s.size ∧ i = .int .i64 k ∧ Hid ((s.data.toList.take k).all chOk = true)) (fun i => s.size - (intOf i).toNat)
  case atStart => exact ⟨0, Nat.zero_le _, rfl, Lib.hid (by simp)⟩
  case round =>
    obtain ⟨k, hk, rfl, ha⟩ := hrel
    by_cases hlt : k < s.size
    · have HS := Lib.hid (fun hc => all_step hlt ha.out hc)
      have HB := Lib.hid (fun hc => name_bad (s := s) hlt hc)
      clear ha
      go_wp2
      all_goals first
        | (go_round
           case rel => exact ⟨k + 1, by omega, by go_num, Lib.hid (HS.out (by unfold chP; grind))⟩
           case measure => simp [intOf]; omega)
        | (go_ret
           exact ⟨by rw [HB.out (by unfold chP; grind)]; rfl, rfl⟩)
    · obtain rfl : k = s.size := by omega
      have HN := Lib.hid (name_good (by omega) (by omega) ha.out)
      go_wp2
      go_ret
      exact ⟨by rw [HN.out]; rfl, rfl⟩
end Go.Proofs.Ytceekfbhkenniaa
end
section
/- tree.right and the law's why. -/
set_option linter.unusedVariables false
namespace Go.Proofs.Ytceekfbhkenniaa
open Go.RowKit
set_option maxHeartbeats 4000000
set_option maxRecDepth 100000
theorem ret_int {k : IntKind} {a b : Int} (h : a = b) : Ending.returned (.int k a) = .returned (.int k b) := by rw [h]
theorem addr_Right (six : Bool) (hi lo : Int) (w : World) :
    Calls Try.prog 34 #[.agg #[.bool six, .int .u64 hi, .int .u64 lo]] w fun e w' => e = .returned (.bool (addrOk six hi lo)) ∧ Below w.heap.size w w' := by
  go_enter Try.func34, Try.ntmps34
  go_wp2
  all_goals
    go_ret
    exact ⟨by simp_all [addrOk], (Below.refl _ _).alloc (Nat.le_refl _) _⟩
/-- A node, by value. -/
def Nd.val (x : Nd) : Value := .agg #[.string x.name, .int .i64 x.kind, .int .i64 x.above, .int .i64 x.weight, .bool x.six, .int .u64 x.hi, .int .u64 x.lo]
theorem right_early (x : Nd) (hx : x.Wf) (A : Option Addr) (n c : Nat) (l : List Nd) (w : World) (hl : IsNodes w A n c l) (h : headC x l ≠ 0 ) :
    Calls Try.prog 42 #[.agg #[.string x.name, .int .i64 x.kind, .int .i64 x.above, .int .i64 x.weight, .bool x.six, .int .u64 x.hi, .int .u64 x.lo], .slice A n c] w fun e w' => e = .returned (.int .i64 (headC x l)) ∧ Below w.heap.size w w' := by
  obtain ⟨s, kd, ab, wt, six, hi, lo⟩ := x
  obtain ⟨hs, b1, b2, b3, b4, b5, b6, b7, b8, b9, b10⟩ := hx
  dsimp only at *
  have hcap := hl.cap
  have hsm := hl.small
  have hlen := hl.len
  have H0 := Lib.hid h
  clear h
  have A0 := fun w => tree_Name s w hs
  have P := Blk.new w 27 #[.string s, .int .i64 kd, .int .i64 ab, .int .i64 wt, .bool six, .int .u64 hi, .int .u64 lo]
  have hW : Below w.heap.size w (w.alloc (.cells #[.string s, .int .i64 kd, .int .i64 ab, .int .i64 wt, .bool six, .int .u64 hi, .int .u64 lo] 27)) := (Below.refl _ _).alloc (Nat.le_refl _) _
  go_enter Try.func42, Try.ntmps42
  go_wp2_with ((go_at_call 49; refine (A0 _).mono ?_; rintro e w1 ⟨rfl, rfl⟩))
  all_goals first
    | (go_ret
       exact ⟨ret_int (by unfold headC; dsimp only; grind), (Below.refl _ _).alloc (Nat.le_refl _) _⟩)
    | skip
  · have hk : kd = 1 := by assumption
    subst hk
    generalize w.alloc (.cells #[.string s, .int .i64 1, .int .i64 ab, .int .i64 wt, .bool six, .int .u64 hi, .int .u64 lo] 27) = u at *
    obtain ⟨p0, p1, p2, p3, p4, p5, p6, _⟩ := P.cells7
    have U1 := cell_under p1
    have U2 := cell_under p2
    refine wp_region_quiet_under (by kernel_rfl) (by kernel_rfl) ?_
    repeat (go_big_quiet_step ((fail)))
    refine wpQuiet_nil ?_
    intro wu hw'
    obtain ⟨pq, hw''⟩ := hw'
    have hU := below_eq hw''
    clear hw'' pq
    have P1 := P.keep hU
    have hW1 := below_keep hW (hU.mono (Nat.le_refl _))
    clear P hW hU U1 U2 p0 p1 p2 p3 p4 p5 p6
    obtain ⟨p0, p1, p2, p3, p4, p5, p6, _⟩ := P1.cells7
    go_wp2_with fail
    refine (addr_Right six hi lo _).mono ?_; rintro e w1 ⟨rfl, hx⟩
    have P2 := P1.keep hx
    have hW2 := below_step hW1 hx
    clear P1 hW1 hx p0 p1 p2 p3 p4 p5 p6
    obtain ⟨p0, p1, p2, p3, p4, p5, p6, _⟩ := P2.cells7
    go_wp2
    all_goals first
      | (go_ret
         exact ⟨ret_int (by unfold headC noAddr; dsimp only; grind), hW2⟩)
      | (exfalso
         exact H0.out (by unfold headC noAddr; dsimp only; grind))
  · obtain ⟨ad, rfl, hbk, hat⟩ := hl.at_ (k := ab.toNat) (by omega)
    have U3 := cell_under (cell_alloc hat.kind (.cells #[.string s, .int .i64 kd, .int .i64 ab, .int .i64 wt, .bool six, .int .u64 hi, .int .u64 lo] 27))
    clear hat
    have hab : ab < (n : Int) := by omega
    have hkk : IntKind.i64.wrap (kd - 1) = kd - 1 := IntWalk.i64_in _ (by omega)
    generalize w.alloc (.cells #[.string s, .int .i64 kd, .int .i64 ab, .int .i64 wt, .bool six, .int .u64 hi, .int .u64 lo] 27) = u at *
    obtain ⟨p0, p1, p2, p3, p4, p5, p6, _⟩ := P.cells7
    have U1 := cell_under p1
    have U2 := cell_under p2
    obtain ⟨z, hz⟩ : ∃ z, z = (l.getD ab.toNat nd0).kind := ⟨_, rfl⟩
    rw [← hz] at U3
    have HZ := Lib.hid hz
    clear hz
    refine wp_region_quiet_under (by kernel_rfl) (by kernel_rfl) ?_
    repeat (go_big_quiet_step ((fail)))
    refine wpQuiet_nil ?_
    intro wu hw'
    obtain ⟨pq, hw''⟩ := hw'
    have hU := below_eq hw''
    clear hw'' pq
    clear hkk U3
    by_cases hzk : z = kd - 1
    · have g1 : (z != kd - 1) = false := by simp [hzk]
      have HZK := Lib.hid hzk
      clear hzk
      have P1 := P.keep hU
      have hW1 := below_keep hW (hU.mono (Nat.le_refl _))
      clear P hW hU U1 U2 p0 p1 p2 p3 p4 p5 p6
      obtain ⟨p0, p1, p2, p3, p4, p5, p6, _⟩ := P1.cells7
      go_wp2_with fail
      refine (addr_Right six hi lo _).mono ?_; rintro e w1 ⟨rfl, hx⟩
      have P2 := P1.keep hx
      have hW2 := below_step hW1 hx
      clear P1 hW1 hx p0 p1 p2 p3 p4 p5 p6
      obtain ⟨p0, p1, p2, p3, p4, p5, p6, _⟩ := P2.cells7
      go_wp2
      all_goals first
        | (go_ret
           exact ⟨ret_int (by have hz := HZ.out; have hzk := HZK.out; unfold headC noAddr; dsimp only; grind), hW2⟩)
        | (exfalso
           exact H0.out (by have hz := HZ.out; have hzk := HZK.out; unfold headC noAddr; dsimp only; grind))
    · have g1 : (z != kd - 1) = true := by simp [hzk]
      have HZK := Lib.hid hzk
      have hW1 := below_keep hW (hU.mono (Nat.le_refl _))
      clear P hW hU U1 U2 p0 p1 p2 p3 p4 p5 p6 hzk
      go_wp2
      go_ret
      exact ⟨ret_int (by have hz := HZ.out; have hzk := HZK.out; unfold headC noAddr; dsimp only; grind), hW1⟩
end Go.Proofs.Ytceekfbhkenniaa
end
