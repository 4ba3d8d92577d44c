/- Lemmas for the claim's proof: TraceA AppendAny Quiet3 Under QTail OwnKit. -/
import Derived.Maps.AppendAt
import Derived.Deep.AppendLies
import Derived.RegionTactic
import Derived.OwnWalk
import Derived.Deep.QuietTactic
import Derived.BigQuiet
import Derived.StillTail
import Derived.Deep.DeepCutAuto
import Derived.Deep.CutBlock
import Derived.Deep.RegionHeld3
import Derived.Test.YtcpfekhpbjkgeaaT01
import Derived.Test.YtcpfekhpbjkgeaaT02
import Derived.Test.YtcpfekhpbjkgeaaT03
section
/- What ops come to, in memory: packets, results, ops, rows of a log. -/
set_option linter.unusedVariables false
namespace Go.Proofs.Ytcpfekhpbjkgeaa
open Go.ChangeShapes Go.WideShapes Go.ChangeAt Go.RowKit Go.Deep
/-- A packet that goes out: to whom, and its bytes' slice. -/
structure OutV where
  host : Int
  a : Option Addr
  n : Nat
  c : Nat
  deriving Inhabited
def outShape : Shape OutV where
  z := ⟨0, none, 0, 0⟩
  size := 2
  cells := fun x => [.int .i64 x.host, .slice x.a x.n x.c]
  Wf := fun x => I64 x.host ∧ x.n ≤ x.c ∧ x.n ≤ 140737488355328 ∧ x.c ≤ 9223372036854775807
  pos := by decide
  len := fun _ => rfl
  one := fun x u hu => by
    simp at hu
    rcases hu with rfl | rfl <;> rfl
  zwf := by unfold I64; decide
/-- What an op came to; its packets beside it. -/
structure TV where
  err : Int
  a : Option Addr
  n : Nat
  c : Nat
  num : Int
  outs : List OutV
  deriving Inhabited
def tvShape : Shape TV where
  z := ⟨0, none, 0, 0, 0, []⟩
  size := 3
  cells := fun x => [.int .i64 x.err, .slice x.a x.n x.c, .int .i64 x.num]
  Wf := fun x => I64 x.err ∧ I64 x.num
  pos := by decide
  len := fun _ => rfl
  one := fun x u hu => by
    simp at hu
    rcases hu with rfl | rfl | rfl <;> rfl
  zwf := by unfold I64; decide
/-- Its packets can be read. -/
def IsOuts (w : World) (t : TV) : Prop := IsRow outShape w t.a t.n t.c t.outs
theorem IsOuts.keep {w w' : World} {t : TV} (h : IsOuts w t) (hx : Below w.heap.size w w') : IsOuts w' t := IsRow.keep h hx
/-- An op. -/
structure OpV where
  kind : Int
  a : Option Addr
  n : Nat
  c : Nat
  name : ByteArray
  host : Int
  num : Int
  up : Bool
  deriving Inhabited
def opShape : Shape OpV where
  z := ⟨0, none, 0, 0, ByteArray.empty, 0, 0, false⟩
  size := 6
  cells := fun x => [.int .i64 x.kind, .slice x.a x.n x.c, .string x.name, .int .i64 x.host, .int .i64 x.num, .bool x.up]
  Wf := fun x => I64 x.kind
  pos := by decide
  len := fun _ => rfl
  one := fun x u hu => by
    simp at hu
    rcases hu with rfl | rfl | rfl | rfl | rfl | rfl <;> rfl
  zwf := by unfold I64; decide
/-- A row of a log. -/
structure RV where
  op : OpV
  told : TV
  deriving Inhabited
def rvShape : Shape RV where
  z := ⟨opShape.z, tvShape.z⟩
  size := 9
  cells := fun x => opShape.cells x.op ++ tvShape.cells x.told
  Wf := fun x => opShape.Wf x.op ∧ tvShape.Wf x.told
  pos := by decide
  len := fun _ => rfl
  one := fun x u hu => by
    rcases List.mem_append.1 hu with h | h
    · exact opShape.one _ _ h
    · exact tvShape.one _ _ h
  zwf := ⟨opShape.zwf, tvShape.zwf⟩
section
variable {H : Type} {enc : TypeId × Value → H} {W : World} {base : Nat}
structure OutType (e : TypeId) (f0 f1 : Field) (b : TypeId) : Prop where
  he : Try.prog.underlying e = some (.struct #[f0, f1])
  hc : Try.prog.cellsOf e = 2
  c0 : f0.offset = 0 ∧ Try.prog.cellsOf f0.type = 1
  c1 : f1.offset = 1 ∧ Try.prog.cellsOf f1.type = 1
  e0 : Try.prog.underlying f0.type = some (.int .i64)
  e1 : Try.prog.underlying f1.type = some (.slice b)
  hb : 1 ≤ Try.prog.bytesOf b
theorem trod_out {e : TypeId} {f0 f1 : Field} {b : TypeId} (hT : OutType e f0 f1 b) {fuel : Nat} {cs : List Value} {x : DataW H × List MemPlace}
    (h : DataW.trod enc Try.prog W base (fun _ => true) true fuel e cs = some x) (hg : Good W e x) : ∃ y : OutV, cs = outShape.cells y ∧ outShape.Wf y ∧ True := by
  obtain ⟨ys, n, _, rfl, hlen, hyl, hf⟩ := DataW.trod_struct hT.he h
  rw [hT.hc] at hlen
  have hs : ys.length = 2 := hyl
  have t0 := hf 0 f0 rfl
  have t1 := hf 1 f1 rfl
  rw [hT.c0.1, hT.c0.2] at t0
  rw [hT.c1.1, hT.c1.2] at t1
  obtain ⟨y0, q0⟩ : ∃ y, ys[0]? = some y := ⟨_, List.getElem?_eq_getElem (by omega)⟩
  obtain ⟨y1, q1⟩ : ∃ y, ys[1]? = some y := ⟨_, List.getElem?_eq_getElem (by omega)⟩
  obtain ⟨z0, r0, _, m0⟩ := DataW.trod_int hT.e0 (t0.trans q0)
  have hg1 : Good W f1.type y1 := ⟨fun q hq => hg.1 q (List.mem_flatMap.2 ⟨y1, List.mem_of_getElem? q1, hq⟩), small_struct hT.he hg.2 (j := 1) rfl (by rw [List.getElem?_map, q1]; rfl)⟩
  obtain ⟨A, k, c, r1, h1, h2, h3⟩ := open_sliceN hT.e1 hT.hb (t1.trans q1) hg1
  clear t0 t1 hf h
  match cs, hlen with
  | [a0, a1], _ =>
    simp at r0 r1
    subst r0 r1
    exact ⟨⟨z0, A, k, c⟩, rfl, ⟨i64_of_wf m0, h1, h2, h3⟩, trivial⟩
structure ToldType (e : TypeId) (f0 f1 f2 : Field) (o : TypeId) (g0 g1 : Field) (b : TypeId) : Prop where
  he : Try.prog.underlying e = some (.struct #[f0, f1, f2])
  hc : Try.prog.cellsOf e = 3
  c0 : f0.offset = 0 ∧ Try.prog.cellsOf f0.type = 1
  c1 : f1.offset = 1 ∧ Try.prog.cellsOf f1.type = 1
  c2 : f2.offset = 2 ∧ Try.prog.cellsOf f2.type = 1
  e0 : Try.prog.underlying f0.type = some (.int .i64)
  e1 : Try.prog.underlying f1.type = some (.slice o)
  e2 : Try.prog.underlying f2.type = some (.int .i64)
  ho : OutType o g0 g1 b
  hby : 16 ≤ Try.prog.bytesOf o
theorem trod_told {e : TypeId} {f0 f1 f2 : Field} {o : TypeId} {g0 g1 : Field} {b : TypeId} (hT : ToldType e f0 f1 f2 o g0 g1 b) {fuel : Nat} {cs : List Value} {x : DataW H × List MemPlace}
    (h : DataW.trod enc Try.prog W base (fun _ => true) true fuel e cs = some x) (hg : Good W e x) : ∃ y : TV, cs = tvShape.cells y ∧ tvShape.Wf y ∧ IsOuts W y := by
  obtain ⟨ys, n, _, rfl, hlen, hyl, hf⟩ := DataW.trod_struct hT.he h
  rw [hT.hc] at hlen
  have hs : ys.length = 3 := hyl
  have t0 := hf 0 f0 rfl
  have t1 := hf 1 f1 rfl
  have t2 := hf 2 f2 rfl
  rw [hT.c0.1, hT.c0.2] at t0
  rw [hT.c1.1, hT.c1.2] at t1
  rw [hT.c2.1, hT.c2.2] at t2
  obtain ⟨y0, q0⟩ : ∃ y, ys[0]? = some y := ⟨_, List.getElem?_eq_getElem (by omega)⟩
  obtain ⟨y1, q1⟩ : ∃ y, ys[1]? = some y := ⟨_, List.getElem?_eq_getElem (by omega)⟩
  obtain ⟨y2, q2⟩ : ∃ y, ys[2]? = some y := ⟨_, List.getElem?_eq_getElem (by omega)⟩
  obtain ⟨z0, r0, _, m0⟩ := DataW.trod_int hT.e0 (t0.trans q0)
  obtain ⟨z2, r2, _, m2⟩ := DataW.trod_int hT.e2 (t2.trans q2)
  have hg1 : Good W f1.type y1 := ⟨fun q hq => hg.1 q (List.mem_flatMap.2 ⟨y1, List.mem_of_getElem? q1, hq⟩), small_struct hT.he hg.2 (j := 1) rfl (by rw [List.getElem?_map, q1]; rfl)⟩
  obtain ⟨A, k, c, l, r1, hR, _⟩ := open_rowsD (C := outShape) (fun _ => True) (fun fuel cs x h hg => trod_out hT.ho h hg) hT.ho.hc hT.e1 hT.hby (t1.trans q1) hg1
  clear t0 t1 t2 hf h
  match cs, hlen with
  | [a0, a1, a2], _ =>
    simp at r0 r1 r2
    subst r0 r1 r2
    exact ⟨⟨z0, A, k, c, z2, l⟩, rfl, ⟨i64_of_wf m0, i64_of_wf m2⟩, hR⟩
end
set_option maxRecDepth 100000 in
theorem open_tolds {H : Type} {enc : TypeId × Value → H} {W : World} {base : Nat} {r : Reach} {b0 : Nat} {v : Value} {d : DataW H} {p : List MemPlace}
    (hv : Value.okWide Try.prog W r b0 85 v) (h : DataW.Trod enc Try.prog W base (fun _ => true) true 85 v d p) (hlt : ∀ x ∈ p, x.block < W.heap.size) (hs : Small 85 d) :
    ∃ (A : Option Addr) (n c : Nat) (l : List TV), v = .slice A n c ∧ IsRow tvShape W A n c l ∧ ∀ t ∈ l, IsOuts W t :=
  open_rowsDV (C := tvShape) (E := IsOuts W) (fun fuel cs x h hg => trod_told ⟨Try.underlying102, (by as_aux_lemma => kernel_rfl), ⟨rfl, (by as_aux_lemma => kernel_rfl)⟩, ⟨rfl, (by as_aux_lemma => kernel_rfl)⟩, ⟨rfl, (by as_aux_lemma => kernel_rfl)⟩, Try.underlying28, Try.underlying89, Try.underlying3,
    ⟨Try.underlying95, (by as_aux_lemma => kernel_rfl), ⟨rfl, (by as_aux_lemma => kernel_rfl)⟩, ⟨rfl, (by as_aux_lemma => kernel_rfl)⟩, Try.underlying3, Try.underlying93, (of_decide_eq_true (by as_aux_lemma => kernel_rfl))⟩, (of_decide_eq_true (by as_aux_lemma => kernel_rfl))⟩ h hg)
    (by as_aux_lemma => kernel_rfl) Try.underlying85 (of_decide_eq_true (by as_aux_lemma => kernel_rfl)) hv h hlt hs
end Go.Proofs.Ytcpfekhpbjkgeaa
end
section
/- append onto a row of the call's own, the source nil, empty or not (after the kit's page on words for memory). -/
set_option linter.unusedVariables false
namespace Go.Proofs.Ytcpfekhpbjkgeaa
open Go.RowKit
section
variable {P : Program} (w : World)

theorem run_append_of_nil (base : Nat) (t ty e : TypeId) (i : TypeInfo) (size : Nat) (ht : P.underlying t = some (.slice e)) (hi : P.info? e = some i)
    (v : Value) (n : Nat) (xs : List Value) (hown : w.ownsRow base e size v n xs) (c : Nat) : (Builtin.append_ #[t, t] ty #[v, .slice none 0 c]).run P w = .ok v w := by
  rcases hown.2 with ⟨rfl, rfl⟩ | ⟨g, cap, cur, rfl, _, _, hnc, _⟩
  · simp [Builtin.append_, run_underlying ht, sizeOf, typeInfo, hi, Builtin.lenOf, Builtin.firstCells]
  · simp [Builtin.append_, run_underlying ht, sizeOf, typeInfo, hi, Builtin.lenOf, Builtin.firstCells, hnc, storeCells]

theorem run_append_any (base : Nat) (t ty e : TypeId) (i : TypeInfo) (z : Value) (size bytes : Nat) (ht : P.underlying t = some (.slice e)) (hi : P.info? e = some i) (hz : i.zero = some z)
    (hsize : i.size = size) (hby : i.bytes = bytes) (hzs : z.cells.size = size) (hsz : 0 < size)
    (v : Value) (n : Nat) (xs : List Value) (hown : w.ownsRow base e size v n xs)
    (B : Nat) (A : Option Addr) (m c : Nat) (news : List Value) (hr : Reads w B size A m news) (h1 : ∀ u ∈ news, u.oneCell' = true)
    (h63 : n + m ≤ maxLen) (hbytes : (n + m) * bytes ≤ 140737488355328) (hbase : base ≤ w.heap.size) :
    ∃ v' w', (Builtin.append_ #[t, t] ty #[v, .slice A m c]).run P w = .ok v' w' ∧ w'.ownsRow base e size v' (n + m) (xs ++ news) ∧ w.grownBy w' v.ownBlock ∧
      (v'.ownBlock = v.ownBlock ∨ v'.ownBlock = some w.heap.size) := by
  rcases A with _ | ad
  · have hm : m = 0 := by
      rcases Nat.eq_zero_or_pos m with h0 | h0
      · exact h0
      · obtain ⟨ad, h, _⟩ := hr.2 h0
        cases h
    subst hm
    have hn : news = [] := List.eq_nil_of_length_eq_zero (by simpa using hr.1)
    subst hn
    exact ⟨v, w, run_append_of_nil w base t ty e i size ht hi v n xs hown c, by simpa using hown, World.grownBy.refl w _, .inl rfl⟩
  · have hcells : ∀ j u, news[j]? = some u → w.cell? (ad.add j) = some u := by
      intro j u hu
      rcases Nat.eq_zero_or_pos m with h0 | h0
      · subst h0
        have hn : news = [] := List.eq_nil_of_length_eq_zero (by simpa using hr.1)
        subst hn
        simp at hu
      · obtain ⟨ad', h, _, hc⟩ := hr.2 h0
        injection h with h
        subst h
        exact hc j u hu
    obtain ⟨v', w', hrun, h2, h3, _, h5⟩ := run_append_own_at (P := P) w base t ty e i z size bytes ht hi hz hsize hby hzs hsz v n xs hown ad m c news hr.1 hcells h1 h63 hbytes hbase
    exact ⟨v', w', hrun, h2, h3, h5⟩

theorem wp_append_any {o : Oper} {a : Act} {K : Act → World → Prop} {Q : Exit → Act → World → Prop} (s x : Operand) (t : TypeId)
    (ho : o.op = .call { callee := .builtin .append, args := #[s, x], argTypes := #[t, t] })
    (base : Nat) (e : TypeId) (i : TypeInfo) (z : Value) (size bytes : Nat) (ht : P.underlying t = some (.slice e)) (hi : P.info? e = some i) (hz : i.zero = some z)
    (hsize : i.size = size) (hby : i.bytes = bytes) (hzs : z.cells.size = size) (hsz : 0 < size)
    (v : Value) (n : Nat) (xs : List Value) (hs : a.eval s = v) (hown : w.ownsRow base e size v n xs)
    (B : Nat) (A : Option Addr) (m c : Nat) (news : List Value) (hx : a.eval x = .slice A m c) (hr : Reads w B size A m news) (h1 : ∀ u ∈ news, u.oneCell' = true)
    (h63 : n + m ≤ maxLen) (hbytes : (n + m) * bytes ≤ 140737488355328) (hbase : base ≤ w.heap.size)
    (h : ∀ v' w', w'.ownsRow base e size v' (n + m) (xs ++ news) → w.grownBy w' v.ownBlock → (v'.ownBlock = v.ownBlock ∨ v'.ownBlock = some w.heap.size) → K (a.put o.dst v') w') : o.wp P a w K Q := by
  obtain ⟨v', w', hrun, h2, h3, h4⟩ := run_append_any (P := P) w base t o.type e i z size bytes ht hi hz hsize hby hzs hsz v n xs hown B A m c news hr h1 h63 hbytes hbase
  unfold Oper.wp execOp
  simp only [ho, resolve, invoke, builtin, Sem.run_bind, Sem.run_pure, Result.andThen_ok, List.map_toArray, List.map_cons, List.map_nil, hs, hx, hrun]
  exact h v' w' h2 h3 h4

theorem wpList_append_any {ops : Array Oper} {rest : List Oper} {o : Oper} {a : Act} {Q : Exit → Act → World → Prop} (hgd : o.guard = none) (s x : Operand) (t : TypeId)
    (ho : o.op = .call { callee := .builtin .append, args := #[s, x], argTypes := #[t, t] })
    (base : Nat) (e : TypeId) (i : TypeInfo) (z : Value) (size bytes : Nat) (ht : P.underlying t = some (.slice e)) (hi : P.info? e = some i) (hz : i.zero = some z)
    (hsize : i.size = size) (hby : i.bytes = bytes) (hzs : z.cells.size = size) (hsz : 0 < size)
    (v : Value) (n : Nat) (xs : List Value) (hs : a.eval s = v) (hown : w.ownsRow base e size v n xs)
    (B : Nat) (A : Option Addr) (m c : Nat) (news : List Value) (hx : a.eval x = .slice A m c) (hr : Reads w B size A m news) (h1 : ∀ u ∈ news, u.oneCell' = true)
    (h63 : n + m ≤ maxLen) (hbytes : (n + m) * bytes ≤ 140737488355328) (hbase : base ≤ w.heap.size)
    (h : ∀ v' w', w'.ownsRow base e size v' (n + m) (xs ++ news) → w.grownBy w' v.ownBlock → (v'.ownBlock = v.ownBlock ∨ v'.ownBlock = some w.heap.size) → wpList P ops Q rest (a.put o.dst v') w') : wpList P ops Q (o :: rest) a w :=
  wpList_plain hgd fun _ hK => wp_append_any w s x t ho base e i z size bytes ht hi hz hsize hby hzs hsz v n xs hs hown B A m c news hx hr h1 h63 hbytes hbase fun v' w' h2 h3 h4 => hK _ _ (h v' w' h2 h3 h4)

theorem step_append_any {ops : Array Oper} {o : Oper} {a : Act} {K : Act → World → Prop} {Q : Exit → Act → World → Prop} {E : Prop} (hgd : o.guard = none) (s x : Operand) (t : TypeId)
    (ho : o.op = .call { callee := .builtin .append, args := #[s, x], argTypes := #[t, t] })
    (base : Nat) (e : TypeId) (i : TypeInfo) (z : Value) (size bytes : Nat) (ht : P.underlying t = some (.slice e)) (hi : P.info? e = some i) (hz : i.zero = some z)
    (hsize : i.size = size) (hby : i.bytes = bytes) (hzs : z.cells.size = size) (hsz : 0 < size)
    (v : Value) (n : Nat) (xs : List Value) (hs : a.eval s = v) (hown : w.ownsRow base e size v n xs)
    (B : Nat) (A : Option Addr) (m c : Nat) (news : List Value) (hx : a.eval x = .slice A m c) (hr : Reads w B size A m news) (h1 : ∀ u ∈ news, u.oneCell' = true)
    (h63 : n + m ≤ maxLen) (hbytes : (n + m) * bytes ≤ 140737488355328) (hbase : base ≤ w.heap.size)
    (h : ∀ v' w', w'.ownsRow base e size v' (n + m) (xs ++ news) → w.grownBy w' v.ownBlock → (v'.ownBlock = v.ownBlock ∨ v'.ownBlock = some w.heap.size) → K (a.put o.dst v') w') :
    if Region.wanted o (yielded ops a.tmps) = true then Oper.wp P o a w K Q else E := by
  have hw : Region.wanted o (yielded ops a.tmps) = true := by simp [Region.wanted, hgd]
  rw [if_pos hw]
  exact wp_append_any w s x t ho base e i z size bytes ht hi hz hsize hby hzs hsz v n xs hs hown B A m c news hx hr h1 h63 hbytes hbase h
end
/-- A row of the call's own, read as a list. -/
theorem own_list {w : World} {base : Nat} {e : TypeId} {K : IntKind} {v : Value} {n : Nat} {l : List Int} (h : w.ownsRow base e 1 v n (l.map (Value.int K))) (hwf : ∀ z ∈ l, (Lit.int K z).wf = true) (hr : n ≤ 17592186043904) :
    ∃ A c, v = .slice A n c ∧ IsList w K A n c l ∧ (∀ ad, A = some ad → base ≤ ad.block) := by
  have hlen : l.length = n := by have := h.1; simpa using this
  rcases h.2 with ⟨rfl, rfl⟩ | ⟨g, cap, cur, rfl, hb, hh, hnc, hcm, hsz, htk⟩
  · have : l = [] := List.eq_nil_of_length_eq_zero hlen
    subst this
    exact ⟨none, 0, rfl, ⟨⟨by simp, fun h => absurd h (by omega)⟩, rfl, Nat.le_refl _, by omega, fun z hz => (by cases hz), hr⟩, fun ad h => (by cases h)⟩
  · refine ⟨some ⟨g, 0, none⟩, cap, rfl, ⟨?_, hlen, hnc, by unfold maxLen at hcm; omega, hwf, hr⟩, fun ad h => by cases h; exact hb⟩
    refine ⟨by simp [hlen], fun hn => ⟨_, rfl, (Array.getElem?_eq_some_iff.1 hh).1, h.cells (g := g) rfl⟩⟩
end Go.Proofs.Ytcpfekhpbjkgeaa
end
section
/- Quiet regions behind quiet regions. -/
set_option linter.unusedVariables false
namespace Go.Proofs.Ytcpfekhpbjkgeaa
section
variable {P : Program} {f : FuncId} {args : Array Value} {w : World} {a n : Nat} {v : Value}
theorem quiet_add (h : Calls P f args (w.drewN (a + n)) fun e w' => e = .returned v ∧ ∃ m, w' = (w.drewN (a + n)).drewN m) :
    Calls P f args (w.drewN (a + n)) fun e w'' => e = .returned v ∧ ∃ m, w'' = w.drewN (a + m) :=
  h.mono fun _ _ ⟨he, m, hm⟩ => ⟨he, n + m, by rw [hm, World.drewN_drewN, Nat.add_assoc]⟩
theorem quiet_add_left (h : Calls P f args (w.drewN (a + n)) fun e w' => e = .returned v ∧ w.drewN (a + n) = w') :
    Calls P f args (w.drewN (a + n)) fun e w'' => e = .returned v ∧ ∃ m, w'' = w.drewN (a + m) :=
  h.mono fun _ _ ⟨he, hm⟩ => ⟨he, n, hm.symm⟩
theorem quiet_left (h : Calls P f args (w.drewN n) fun e w' => e = .returned v ∧ w.drewN n = w') : Calls P f args (w.drewN n) fun e w'' => e = .returned v ∧ ∃ m, w'' = w.drewN m :=
  h.mono fun _ _ ⟨he, hm⟩ => ⟨he, n, hm.symm⟩
end
end Go.Proofs.Ytcpfekhpbjkgeaa
end
section
/- Regions that draw their order, whose operations only read and whose callees may make memory: one walk, in the order of the text. -/
set_option linter.unusedVariables false
namespace Go.Proofs.Ytcpfekhpbjkgeaa
open Go.RowKit
/-- What a world has beside another one: blocks behind its own, and a count of draws. -/
structure UP where
  h : Array Obj
  d : Nat
  deriving Inhabited
/-- A world with more blocks, and another count. -/
def under (w : World) (p : UP) : World := { w with heap := w.heap ++ p.h, drawn := p.d }
theorem under_below (w : World) (p : UP) : Below w.heap.size w (under w p) :=
  ⟨rfl, rfl, rfl, by simp [under], fun k hk => by simp only [under]; exact Array.getElem?_append_left hk⟩
theorem under_of_below {w w' : World} (h : Below w.heap.size w w') : ∃ p : UP, w' = under w p := by
  refine ⟨⟨w'.heap.extract w.heap.size w'.heap.size, w'.drawn⟩, ?_⟩
  obtain ⟨ho, ht, hp, hs, hb⟩ := h
  have e : w.heap ++ w'.heap.extract w.heap.size w'.heap.size = w'.heap := by
    apply Array.ext_getElem?
    intro i
    rcases Nat.lt_or_ge i w.heap.size with hi | hi
    · rw [Array.getElem?_append_left hi, hb i hi]
    · rw [Array.getElem?_append_right hi, Array.getElem?_extract]
      split
      · congr 1; omega
      · rw [Array.getElem?_eq_none]; omega
  cases w; cases w'
  simp only [under] at *
  subst ho ht hp
  rw [e]
theorem under_under (w : World) (p q : UP) : under (under w p) q = under w ⟨p.h ++ q.h, q.d⟩ := by
  simp [under, Array.append_assoc]
theorem under_drew (w : World) : ({ w with drawn := w.drawn + 1 } : World) = under w ⟨#[], w.drawn + 1⟩ := by simp [under]
theorem cell_under {w : World} {a : Addr} {v : Value} (h : w.cell? a = some v) (p : UP) : (under w p).cell? a = some v := cell_keep h (under_below w p)
theorem Blk.under {w : World} {g : Nat} {t : TypeId} {cs : Array Value} (h : Blk w g t cs) (p : UP) : Blk (under w p) g t cs := h.keep (under_below w p)
theorem wp_region_quiet_under {P : Program} {id : Nat} {Q : Exit → Act → World → Prop} {a : Act} {w : World} {l : List Oper} (hm : P.follows .mixedOrders = true) (hB : Region.lexB .any l.toArray = true)
    (h : wpQuiet P l.toArray (fun w' => ∃ p : UP, w' = under w p) (fun a' => ∀ w', (∃ p : UP, w' = under w p) → Q .normal a' w') l a) : (Code.region id l.toArray true).wp P Q a w :=
  wp_region_quiet (C := fun w' => ∃ p : UP, w' = under w p) hm hB ⟨_, under_drew w⟩ (by simpa using h)
theorem calls_under {P : Program} {f : FuncId} {args : Array Value} {w : World} {p : UP} {v : Value}
    (h : Calls P f args (under w p) fun e w' => e = .returned v ∧ Below (under w p).heap.size (under w p) w') : Calls P f args (under w p) fun e w'' => e = .returned v ∧ ∃ q : UP, w'' = under w q :=
  h.mono fun _ _ ⟨he, hb⟩ => by
    obtain ⟨q, hq⟩ := under_of_below hb
    exact ⟨he, _, hq.trans (under_under w p q)⟩
theorem calls_under_same {P : Program} {f : FuncId} {args : Array Value} {w : World} {p : UP} {v : Value}
    (h : Calls P f args (under w p) fun e w' => e = .returned v ∧ under w p = w') : Calls P f args (under w p) fun e w'' => e = .returned v ∧ ∃ q : UP, w'' = under w q :=
  h.mono fun _ _ ⟨he, hb⟩ => ⟨he, _, hb.symm⟩
theorem calls_under_drewN {P : Program} {f : FuncId} {args : Array Value} {w : World} {p : UP} {v : Value}
    (h : Calls P f args (under w p) fun e w' => e = .returned v ∧ ∃ d, w' = (under w p).drewN d) : Calls P f args (under w p) fun e w'' => e = .returned v ∧ ∃ q : UP, w'' = under w q :=
  h.mono fun _ _ ⟨he, d, hb⟩ => ⟨he, ⟨p.h, p.d + d⟩, by rw [hb]; rfl⟩
theorem below_eq {w w' : World} {p : UP} (h : w' = under w p) : Below w.heap.size w w' := h ▸ under_below w p
end Go.Proofs.Ytcpfekhpbjkgeaa
end
section
/- Regions that draw their order: all operations but the last few are quiet in a class of worlds (they read; callees keep the class), and those last ones come in one forced order: one walk. -/
set_option linter.unusedVariables false
namespace Go.Proofs.Ytcpfekhpbjkgeaa
open Go.RowKit Go
section
variable {P : Program} {ops : Array Oper} {md : Region.Mode} {C : World → Prop}
/-- All that may come up stands ahead of n, is quiet in the class, and L holds behind so many. -/
def qHead (P : Program) (md : Region.Mode) (ops : Array Oper) (C : World → Prop) (n : Nat) (L : Array Bool → Act → Prop) : Nat → Array Bool → Act → Prop
  | 0, listed, a => L listed a
  | f + 1, listed, a => Region.ready md ops listed ≠ [] ∧ ∀ i ∈ Region.ready md ops listed, i < n ∧ qOp P ops C i (qHead P md ops C n L f (listed.setIfInBounds i true)) a
theorem any_of_qHead {n g : Nat} {L : Array Bool → Act → Prop} {Q' : Exit → Act → World → Prop} (hL : ∀ listed a w, C w → L listed a → wpAny P md ops Q' g listed a w) :
    ∀ (f : Nat) (listed : Array Bool) (a : Act) (w : World), C w → qHead P md ops C n L f listed a → wpAny P md ops Q' (f + g) listed a w := by
  intro f
  induction f with
  | zero => intro listed a w hw h; rw [Nat.zero_add]; exact hL _ _ _ hw h
  | succ f ih =>
    intro listed a w hw h
    rw [show f + 1 + g = (f + g) + 1 by omega]
    exact ⟨fun h0 => absurd h0 h.1, fun i hi => wpOp_of_qOp hw (fun a' w' hw' h' => ih _ a' w' hw' h') (h.2 i hi).2⟩
theorem qHead_first {n i : Nat} {oi : Oper} {v : Value} {L : Array Bool → Act → Prop} (hi : ops[i]? = some oi) (hsel : ∀ (j : Nat) (o : Oper) cs b, ops[j]? = some o → o.op ≠ .select cs b)
    (hs : Region.sinkB md ops n = true) (hc : Region.chainB md ops n = true) (hn : n < ops.size) (hin : i < n)
    (hdone : ∀ listed a, L listed a → ∀ j ∈ Region.ready md ops listed, n ≤ j) :
    ∀ (f : Nat) (listed : Array Bool) (a : Act), HeadInv md ops n listed →
      (∀ j oj, ops[j]? = some oj → j ≠ i → listed.getD j true = false → (∀ e ∈ oj.after, Region.binds md e = true → e.on ≠ i) → oi.apart ops oj = true) →
      i ∈ Region.ready md ops listed → YieldsIn P ops C oi v a →
      qHead P md ops C n L f (listed.setIfInBounds i true) (a.put oi.dst v) → qHead P md ops C n L (f + 1) listed a := by
  intro f
  induction f with
  | zero =>
    intro listed a inv _ hr hy H
    refine ⟨fun h => (by rw [h] at hr; cases hr), fun j hj => ?_⟩
    have hjn : j < n := Nat.lt_of_not_le fun h => tail_waits hs hc hn inv _ i rfl hin (mem_ready.1 hr).1 j h hj
    refine ⟨hjn, ?_⟩
    by_cases hji : j = i
    · subst hji; exact hy.qOp hi H
    · have := hdone _ _ H j (ready_mono hj hji)
      omega
  | succ f ih =>
    intro listed a inv hfree hr hy H
    have hun := (mem_ready.1 hr).1
    refine ⟨fun h => (by rw [h] at hr; cases hr), fun j hj => ?_⟩
    have hjn : j < n := Nat.lt_of_not_le fun h => tail_waits hs hc hn inv _ i rfl hin hun j h hj
    refine ⟨hjn, ?_⟩
    by_cases hji : j = i
    · subst hji; exact hy.qOp hi H
    · have h1 := (H.2 j (ready_mono hj hji)).2
      obtain ⟨hjun, oj, hoj, hall⟩ := mem_ready.1 hj
      have hnot : ∀ e ∈ oj.after, Region.binds md e = true → e.on ≠ i := fun e he hb heq => by
        have h3 := hall e he hb
        rw [heq, getD_both hun] at h3
        cases h3
      have h2 := qOp_put hoj (hfree j oj hoj hji hjun hnot) (fun cs b => hsel i oi cs b hi) (fun cs b => hsel j oj cs b hoj) hy h1
      refine qOp_mono (fun a' h3 => ih (listed.setIfInBounds j true) a' (inv.set hj hjn) (fun k ok hk hki hun' hno => hfree k ok hk hki ?_ hno) (ready_mono hr (Ne.symm hji)) h3.1 ?_) h2
      · by_cases hjk : j = k
        · subst hjk; exact hjun
        · rwa [getD_set_ne true hjk] at hun'
      · rw [Array.setIfInBounds_comm _ _ hji]
        exact h3.2
theorem qHead_lex {n g : Nat} {Lq : Act → Prop} (hsel : Region.noSelect ops = true) (hs : Region.sinkB md ops n = true) (hc : Region.chainB md ops n = true) (hn : n < ops.size) :
    ∀ (l : List Oper) (k : Nat) (listed : Array Bool) (a : Act), (∀ j, j < l.length → l[j]? = ops[k + j]?) → k + l.length = n → HeadInv md ops n listed →
    Region.lexHead md ops g l.length k listed = true → wpQuiet P ops C Lq l a →
    qHead P md ops C n (fun listed' a' => Region.seqB md ops g n listed' = true ∧ Lq a') l.length listed a := by
  intro l
  induction l with
  | nil =>
    intro k listed a _ hk _ hB h
    obtain rfl : k = n := by simpa using hk
    exact ⟨by simpa [Region.lexHead] using hB, h⟩
  | cons o l ih =>
    intro k listed a hl hk inv hB h
    have h0 : ops[k]? = some o := by simpa using (hl 0 (by simp)).symm
    simp only [List.length_cons, Region.lexHead, Bool.and_eq_true] at hB
    obtain ⟨⟨hr, hf⟩, hB'⟩ := hB
    rw [List.length_cons] at hk
    have hkn : k < n := by omega
    have hr' : k ∈ Region.ready md ops listed := by simpa using hr
    have hst : qOp P ops C k (wpQuiet P ops C Lq l) a := by unfold qOp; simp only [h0]; exact h
    obtain ⟨v, hy, hK⟩ := yieldsIn_of_qOp h0 hst
    refine qHead_first h0 (Region.noSelect_spec hsel) hs hc hn hkn (fun listed' a' hL => seqB_ready hL.1) l.length listed a inv (Region.free_spec h0 hf) hr' hy ?_
    refine ih (k + 1) _ _ (fun j hj => ?_) (by omega) (inv.set hr' hkn) hB' hK
    have := hl (j + 1) (by simp; omega)
    simpa [Nat.add_assoc, Nat.add_comm 1 j] using this
/-- All but the operations from n on are quiet; those come last, in their order, from whichever world of the class. -/
theorem wp_region_quiet_tail {id : Nat} {Q : Exit → Act → World → Prop} {a : Act} {w : World} {l : List Oper} (n : Nat) (hm : P.follows .mixedOrders = true) (hB : Region.lexTailB .any l.toArray n = true) (hC : C w.drew)
    (h : wpQuiet P l.toArray C (fun a' => ∀ w', C w' → wpList P l.toArray Q (l.drop n) a' w') (l.take n) a) : (Code.region id l.toArray true).wp P Q a w := by
  simp only [Region.lexTailB, Bool.and_eq_true, decide_eq_true_eq] at hB
  obtain ⟨⟨⟨⟨hsel, hn⟩, hs⟩, hc⟩, hlex⟩ := hB
  have hn' : n < l.length := by simpa using hn
  have htl : (l.take n).length = n := by simp; omega
  have hdl : (l.drop n).length = l.toArray.size - n := by simp
  have inv0 : HeadInv .any l.toArray n (Array.replicate l.toArray.size false) :=
    ⟨by simp, fun j oj _ hl => (by rw [getD_replicate_false] at hl; cases hl), fun t _ ht => getD_in (by simpa using ht) (getD_replicate_false _ _)⟩
  have H := qHead_lex (P := P) (C := C) (md := .any) (g := l.toArray.size - n) hsel hs hc hn (l.take n) 0 (Array.replicate l.toArray.size false) a (fun j hj => by
    have hj' : j < n := by rw [htl] at hj; exact hj
    simp [hj']) (by simpa using htl) inv0 (by rw [htl]; exact hlex) h
  refine wp_region_any hm ?_
  have := any_of_qHead (Q' := Q) (g := l.toArray.size - n) (fun listed a' w' hw' hL => by
    have := wpAny_of_seq (md := .any) (Q' := Q) (l.drop n) n listed a' w' (fun j => by simp [List.getElem?_drop]) (by rw [hdl]; exact hL.1) (hL.2 w' hw')
    rwa [hdl] at this) _ _ _ _ hC H
  rw [htl, show n + (l.toArray.size - n) = l.toArray.size by omega] at this
  exact this
end
theorem wp_region_under_tail {P : Program} {id : Nat} {Q : Exit → Act → World → Prop} {a : Act} {w : World} {l : List Oper} (n : Nat) (hm : P.follows .mixedOrders = true) (hB : Region.lexTailB .any l.toArray n = true)
    (h : wpQuiet P l.toArray (fun w' => ∃ p : UP, w' = under w p) (fun a' => ∀ w', (∃ p : UP, w' = under w p) → wpList P l.toArray Q (l.drop n) a' w') (l.take n) a) : (Code.region id l.toArray true).wp P Q a w :=
  wp_region_quiet_tail (C := fun w' => ∃ p : UP, w' = under w p) n hm hB ⟨_, under_drew w⟩ h
end Go.Proofs.Ytcpfekhpbjkgeaa
end
section
/- Rows of any shape that a call owns. -/
set_option linter.unusedVariables false
namespace Go.Proofs.Ytcpfekhpbjkgeaa
open Go.RowKit
section
variable {α : Type} {C : Shape α} {w w' : World} {B n c : Nat} {e : TypeId} {s : Nat} {v : Value} {A : Option Addr} {l : List α} {xs : List Value}
theorem ownK_sl (h : w.ownsRow B e s v n xs) : ∃ A c, v = .slice A n c := by
  rcases h.2 with ⟨rfl, rfl⟩ | ⟨g, cap, cur, rfl, _⟩
  · exact ⟨none, 0, rfl⟩
  · exact ⟨_, _, rfl⟩
theorem ownK_len (h : w.ownsRow B e C.size v n (C.flat l)) : l.length = n := by
  have := h.1
  rw [C.flat_len] at this
  exact Nat.eq_of_mul_eq_mul_right C.pos this
theorem ownK_cap (h : w.ownsRow B e s (.slice A n c) n xs) : n ≤ c ∧ c ≤ 9223372036854775807 := by
  rcases h.2 with ⟨h1, _⟩ | ⟨g, cap, a, h1, hb, hg, h2, h3, h4, h5⟩
  · cases h1; omega
  · cases h1; unfold maxLen at h3; omega
theorem ownK_reads (h : w.ownsRow B e s (.slice A n c) n xs) : Reads w w.heap.size s A n xs := by
  refine ⟨h.1, fun hn => ?_⟩
  rcases h.2 with ⟨h1, _⟩ | ⟨g, cap, a, h1, _, hg, _, _, h4, h5⟩
  · cases h1; omega
  · cases h1
    refine ⟨_, rfl, (Array.getElem?_eq_some_iff.1 hg).1, fun j u hu => ?_⟩
    have h2 : (⟨g, 0, none⟩ : Addr).add j = ⟨g, j, none⟩ := by unfold Addr.add; split <;> simp_all
    rw [h2]
    rw [← h5] at hu
    simp only [World.cell?, hg]
    rcases Nat.lt_or_ge j (n * s) with hj | hj
    · rw [List.getElem?_take_of_lt hj, Array.getElem?_toList] at hu; exact hu
    · rw [List.getElem?_take_eq_none hj] at hu; cases hu
theorem ownK_row (h : w.ownsRow B e C.size (.slice A n c) n (C.flat l)) (hwf : ∀ x ∈ l, C.Wf x) (hr : n ≤ 8796093021952) : IsRow C w A n c l :=
  ⟨ownK_reads h, ownK_len h, (ownK_cap h).1, (ownK_cap h).2, hr, hwf⟩
theorem ownK_keep (h : w.ownsRow B e s v n xs) (hx : Below w.heap.size w w') : w'.ownsRow B e s v n xs := by
  refine ⟨h.1, ?_⟩
  rcases h.2 with hn | ⟨g, cap, cur, rfl, hb, hg, rest⟩
  · exact .inl hn
  · exact .inr ⟨g, cap, cur, rfl, hb, (hx.block g (Array.getElem?_eq_some_iff.1 hg).1).trans hg, rest⟩
theorem ownK_mod {D : Nat → Prop} (h : w.ownsRow B e s v n xs) (hx : Mod D w w') (hn : ∀ g, v.ownBlock = some g → ¬ D g) : w'.ownsRow B e s v n xs := by
  refine ⟨h.1, ?_⟩
  rcases h.2 with h0 | ⟨g, cap, cur, rfl, hb, hg, rest⟩
  · exact .inl h0
  · exact .inr ⟨g, cap, cur, rfl, hb, (hx.block g (Array.getElem?_eq_some_iff.1 hg).1 (hn g rfl)).trans hg, rest⟩
theorem ownK_low (h : w.ownsRow B e s (.slice A n c) n xs) : ∀ ad, A = some ad → B ≤ ad.block ∧ ad.block < w.heap.size := fun ad e1 => by
  rcases h.2 with ⟨h1, _⟩ | ⟨g, cap, a, h1, hb, hg, _⟩
  · cases h1; cases e1
  · cases h1; cases e1; exact ⟨hb, (Array.getElem?_eq_some_iff.1 hg).1⟩
theorem IsRow.modK {D : Nat → Prop} (h : IsRow C w A n c l) (hx : Mod D w w') (hn : ∀ ad, A = some ad → 0 < n → ¬ D ad.block) : IsRow C w' A n c l := by
  refine ⟨⟨h.reads.1, fun h0 => ?_⟩, h.len, h.cap, h.small, h.reach, h.wf⟩
  obtain ⟨ad, e, hb, hc⟩ := h.reads.2 h0
  exact ⟨ad, e, Nat.lt_of_lt_of_le hb hx.size, fun j u hu => cella_mod (hc j u hu) hx (hn ad e h0)⟩
theorem takeK_next {z : α} {i : Nat} (h : i < l.length) : l.take (i + 1) = l.take i ++ [l.getD i z] := by
  rw [List.take_add_one, List.getD_eq_getElem?_getD, List.getElem?_eq_getElem h]; rfl
end
theorem belowK_grown {B : Nat} {w w1 w2 : World} {row : Option Nat} (h : Below B w w1) (hB : B ≤ w1.heap.size) (hg : w1.grownBy w2 row) (hr : ∀ g, row = some g → B ≤ g) : Below B w w2 :=
  h.trans ⟨hg.os, hg.tape, hg.output, hg.size, fun i hi => hg.block i (by omega) (fun e => by have := hr i e.symm; omega)⟩
theorem modK_grown {D : Nat → Prop} {w w' : World} {row : Option Nat} (h : w.grownBy w' row) (hr : ∀ g, row = some g → D g) : Mod D w w' :=
  ⟨h.os, h.tape, h.output, h.size, fun i hi hn => h.block i hi (fun e => hn (hr i e.symm))⟩
theorem ownK_at {v v' : Value} {m : Nat} (h : v'.ownBlock = v.ownBlock ∨ v'.ownBlock = some m) {g : Nat} (hg : v'.ownBlock = some g) : v.ownBlock = some g ∨ m ≤ g := by
  rcases h with h | h
  · exact .inl (h ▸ hg)
  · rw [h] at hg; cases hg; exact .inr (Nat.le_refl _)
theorem readsK_new (w : World) (T : TypeId) (size : Nat) (cs : List Value) (h : cs.length = size) : Reads (w.alloc (.cells ⟨cs⟩ T)) (w.alloc (.cells ⟨cs⟩ T)).heap.size size (some ⟨w.heap.size, 0, none⟩) 1 cs :=
  ⟨by omega, fun _ => ⟨_, rfl, by simp, fun j u hu => by
    have e : (⟨w.heap.size, 0, none⟩ : Addr).add j = ⟨w.heap.size, j, none⟩ := by unfold Addr.add; split <;> simp_all
    rw [e, (Blk.new w T ⟨cs⟩).cell j]
    simpa using hu⟩⟩
theorem rowK_not {e : TypeId} {s m b : Nat} {w : World} {v : Value} {xs : List Value} {B : Nat} {cs : Array Value} {T : TypeId} (P : Blk w b T cs) (h : w.ownsRow B e s v m xs) (hne : e ≠ T) : v.ownBlock ≠ some b := by
  rcases h.2 with ⟨rfl, _⟩ | ⟨g, cap, cur, rfl, _, hg, _⟩
  · simp [Value.ownBlock]
  · intro e1
    simp only [Value.ownBlock, Option.some.injEq] at e1
    subst e1
    unfold Blk at P
    rw [hg] at P
    injection P with P
    injection P with _ P
    exact hne P
end Go.Proofs.Ytcpfekhpbjkgeaa
end
