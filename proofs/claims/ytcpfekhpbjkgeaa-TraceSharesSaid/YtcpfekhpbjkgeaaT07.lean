/- Lemmas for the claim's proof: MapI TracePlain SortLays SortOwn TraceH. -/
import Derived.Maps.RangeWalk
import Derived.Maps.Ext
import Derived.Shelf.SlSortCmp.WholeK
import Derived.Shelf.SlSortCmp.NoneTotal
import Derived.Test.YtcpfekhpbjkgeaaT01
import Derived.Test.YtcpfekhpbjkgeaaT03
import Derived.Test.YtcpfekhpbjkgeaaT04
import Derived.Test.YtcpfekhpbjkgeaaT06
section
/- Maps keyed by integers: what stands at each key, as a function; elements of whatever kind. -/
set_option linter.unusedVariables false
namespace Go.Proofs.Ytcpfekhpbjkgeaa
open Go.Maps Go.RowKit
/-- An element reads as itself. -/
def selfR (v : Value) : Option (DataW Value × List MemPlace) := some (.held v, [])
/-- What a reading holds, by its keys. -/
def View (q : IntKind) (D : DataW Value) (f : Int → Option Value) : Prop := ∀ x, (∀ v, f x = some v → has D (.int q x) = true ∧ ∀ z, D.atKey (.int q x) z = .held v) ∧ (f x = none → has D (.int q x) = false)
def putF (f : Int → Option Value) (x : Int) (v : Value) : Int → Option Value := fun y => if y = x then some v else f y
def delF (f : Int → Option Value) (x : Int) : Int → Option Value := fun y => if y = x then none else f y
theorem key_int (q : IntKind) (x : Int) : WideAt.IsKeyLit (.int q x) := trivial
theorem lit_ne {q : IntKind} {x y : Int} (h : y ≠ x) : Lit.int q y ≠ Lit.int q x := fun e => h (by injection e)
theorem View.empty (q : IntKind) : View q (.map []) fun _ => none := fun x => ⟨(fun v h => by cases h), fun _ => rfl⟩
theorem View.put {q : IntKind} {D : DataW Value} {f : Int → Option Value} (h : View q D f) (hD : IsMap D) (x : Int) (v : Value) : View q (D.put (.int q x) (.held v)) (putF f x v) := fun y => by
  unfold putF
  by_cases e : y = x
  · subst e
    rw [if_pos rfl]
    exact ⟨(fun v' hv => by cases hv; exact ⟨has_put_same hD (key_int q y) _, fun z => atKey_put_same hD (key_int q y) _ _⟩), (fun hn => by cases hn)⟩
  · rw [if_neg e]
    refine ⟨fun v' hv => ?_, fun hn => ?_⟩
    · obtain ⟨h1, h2⟩ := (h y).1 v' hv
      exact ⟨by rw [has_put_other (lit_ne e)]; exact h1, fun z => by rw [atKey_put_other (lit_ne e)]; exact h2 z⟩
    · rw [has_put_other (lit_ne e)]; exact (h y).2 hn
theorem View.del {q : IntKind} {D : DataW Value} {f : Int → Option Value} (h : View q D f) (x : Int) : View q (D.del (.int q x)) (delF f x) := fun y => by
  unfold delF
  by_cases e : y = x
  · subst e
    rw [if_pos rfl]
    exact ⟨(fun v' hv => by cases hv), fun _ => has_del_same⟩
  · rw [if_neg e]
    refine ⟨fun v' hv => ?_, fun hn => ?_⟩
    · obtain ⟨h1, h2⟩ := (h y).1 v' hv
      exact ⟨by rw [has_del_other (lit_ne e)]; exact h1, fun z => by rw [atKey_del_other (lit_ne e)]; exact h2 z⟩
    · rw [has_del_other (lit_ne e)]; exact (h y).2 hn
theorem View.at_ {q : IntKind} {D : DataW Value} {f : Int → Option Value} (h : View q D f) (x : Int) (z : Value) : D.atKey (.int q x) (.held z) = .held ((f x).getD z) := by
  cases e : f x with
  | none => rw [atKey_of_not_has ((h x).2 e)]; rfl
  | some v => exact ((h x).1 v e).2 _
theorem View.has_ {q : IntKind} {D : DataW Value} {f : Int → Option Value} (h : View q D f) (x : Int) : has D (.int q x) = (f x).isSome := by
  cases e : f x with
  | none => exact (h x).2 e
  | some v => exact ((h x).1 v e).1
/-- A map in block b of at most n entries: at key x stands f x. -/
def IMap (P : Program) (k : TypeId) (q : IntKind) (w : World) (b n : Nat) (f : Int → Option Value) : Prop := ∃ D, w.ownsMap P k selfR b n D ∧ View q D f
section
variable {P : Program} {t k e : TypeId} {q : IntKind} {w w' : World} {b n : Nat} {f : Int → Option Value}
theorem IMap.made (P : Program) (k : TypeId) (q : IntKind) (w : World) : IMap P k q (w.alloc (.map #[] 0)) w.heap.size 0 fun _ => none := ⟨_, World.ownsMap_made w P k selfR, View.empty q⟩
theorem IMap.lt (h : IMap P k q w b n f) : b < w.heap.size := by obtain ⟨D, h1, _⟩ := h; exact h1.lt
theorem IMap.mono (h : IMap P k q w b n f) {m : Nat} (hm : n ≤ m) : IMap P k q w b m f := by obtain ⟨D, h1, h2⟩ := h; exact ⟨D, h1.mono hm, h2⟩
theorem IMap.grown {row : Option Nat} (h : IMap P k q w b n f) (hg : w.grownBy w' row) (hne : some b ≠ row) : IMap P k q w' b n f := by obtain ⟨D, h1, h2⟩ := h; exact ⟨D, h1.kept hg hne, h2⟩
theorem IMap.same (h : IMap P k q w b n f) (hb : w'.heap[b]? = w.heap[b]?) : IMap P k q w' b n f := by
  obtain ⟨D, ⟨es, clock, h1, h2⟩, h3⟩ := h
  exact ⟨D, ⟨es, clock, hb.trans h1, h2⟩, h3⟩
theorem IMap.keep (h : IMap P k q w b n f) (hx : Below w.heap.size w w') : IMap P k q w' b n f := h.same (hx.block b h.lt)
theorem IMap.drew (h : IMap P k q w b n f) : IMap P k q w.drew b n f := h
theorem IMap.setCell (h : IMap P k q w b n f) {a : Addr} (ha : b ≠ a.block) (u : Value) : IMap P k q (w.setCell a u) b n f := by obtain ⟨D, h1, h2⟩ := h; exact ⟨D, h1.setCell ha u, h2⟩
/-- 'm[x]'. -/
theorem IMap.look (h : IMap P k q w b n f) (hk : P.underlying k = some (.int q)) (ht : P.underlying t = some (.map k e)) {z : Value} (hz : (zeroValue e).run P w = .ok z w) {x : Int} (hx : (Lit.int q x).wf = true) :
    (Instr.lookup t (.map (some b)) (.int q x) false).run P w = .ok ((f x).getD z) w := by
  obtain ⟨D, h1, h2⟩ := h
  obtain ⟨v, ps, hr, hv⟩ := h1.lookup (int_keyed hk) ht hz (zd := .held z) (zp := []) rfl (keyOf_int_mk hk hx)
  rw [h2.at_] at hv
  unfold selfR at hv
  simp only [Option.some.injEq, Prod.mk.injEq, DataW.held.injEq] at hv
  rw [hr, hv.1]
/-- 'v, ok := m[x]'. -/
theorem IMap.look_ok (h : IMap P k q w b n f) (hk : P.underlying k = some (.int q)) (ht : P.underlying t = some (.map k e)) {z : Value} (hz : (zeroValue e).run P w = .ok z w) {x : Int} (hx : (Lit.int q x).wf = true) :
    (Instr.lookup t (.map (some b)) (.int q x) true).run P w = .ok (.tuple #[(f x).getD z, .bool (f x).isSome]) w := by
  obtain ⟨D, h1, h2⟩ := h
  obtain ⟨v, ps, hr, hv⟩ := h1.look_ok (int_keyed hk) ht hz (zd := .held z) (zp := []) rfl (keyOf_int_mk hk hx)
  rw [h2.at_] at hv
  unfold selfR at hv
  simp only [Option.some.injEq, Prod.mk.injEq, DataW.held.injEq] at hv
  rw [hr, hv.1, h2.has_]
/-- 'm[x] = v'. -/
theorem IMap.store (h : IMap P k q w b n f) (hk : P.underlying k = some (.int q)) (ht : P.underlying t = some (.map k e)) (hn : n < maxLen) {x : Int} (hx : (Lit.int q x).wf = true) (v : Value) :
    ∃ w', (Instr.mapUpdate t (.map (some b)) (.int q x) v).run P w = .ok () w' ∧ IMap P k q w' b (n + 1) (putF f x v) ∧ w.mapTurned w' b := by
  obtain ⟨D, h1, h2⟩ := h
  obtain ⟨w', hr, h3, h4⟩ := h1.store (int_keyed hk) ht hn (keyOf_int_mk hk hx) (val := v) (d := .held v) (ps := []) rfl
  exact ⟨w', hr, ⟨_, h3, h2.put h1.isMap x v⟩, h4⟩
/-- 'delete(m, x)'. -/
theorem IMap.drop (h : IMap P k q w b n f) (hk : P.underlying k = some (.int q)) (ht : P.underlying t = some (.map k e)) {x : Int} (hx : (Lit.int q x).wf = true) (ty : TypeId) :
    ∃ w', (Builtin.delete_ #[t, k] ty #[.map (some b), .int q x]).run P w = .ok (.tuple #[]) w' ∧ IMap P k q w' b n (delF f x) ∧ w.mapTurned w' b := by
  obtain ⟨D, h1, h2⟩ := h
  obtain ⟨w', hr, h3, h4⟩ := h1.drop (int_keyed hk) ht (keyOf_int_mk hk hx) ty
  exact ⟨w', hr, ⟨_, h3, h2.del x⟩, h4⟩
end
/-! A map that is ranged over: which keys are still to come. -/
def IRange (P : Program) (k : TypeId) (q : IntKind) (w : World) (b r n : Nat) (f : Int → Option Value) (left : Int → Bool) (cnt : Nat) : Prop :=
  ∃ D L, w.ranges P k selfR b r n D L cnt ∧ View q D f ∧ (∀ x, L (.int q x) = left x) ∧ ∀ x, left x = true → (f x).isSome = true ∧ (Lit.int q x).wf = true
section
variable {P : Program} {t k e : TypeId} {q : IntKind} {w w' : World} {b r n : Nat} {f : Int → Option Value} {left : Int → Bool} {cnt : Nat}
theorem IRange.map (h : IRange P k q w b r n f left cnt) : IMap P k q w b n f := by obtain ⟨D, L, h1, h2, _⟩ := h; exact ⟨D, h1.owns, h2⟩
theorem IRange.grown {row : Option Nat} (h : IRange P k q w b r n f left cnt) (hg : w.grownBy w' row) (hb : some b ≠ row) (hr : some r ≠ row) : IRange P k q w' b r n f left cnt := by
  obtain ⟨D, L, h1, h2⟩ := h; exact ⟨D, L, h1.kept hg hb hr, h2⟩
theorem IRange.lt (h : IRange P k q w b r n f left cnt) : r < w.heap.size := by obtain ⟨D, L, h1, h2⟩ := h; exact h1.lt
theorem IRange.ne (h : IRange P k q w b r n f left cnt) : r ≠ b := by obtain ⟨D, L, h1, h2⟩ := h; exact h1.ne
theorem IRange.same (h : IRange P k q w b r n f left cnt) (hb : w'.heap[b]? = w.heap[b]?) (hr : w'.heap[r]? = w.heap[r]?) : IRange P k q w' b r n f left cnt := by
  obtain ⟨D, L, ⟨es, clock, since, seen, c0, h1, h2, h3, h4, h5, h6⟩, h7⟩ := h
  exact ⟨D, L, ⟨es, clock, since, seen, c0, hb.trans h1, h2, h3, h4, hr.trans h5, h6⟩, h7⟩
theorem IRange.keep (h : IRange P k q w b r n f left cnt) (hx : Below w.heap.size w w') : IRange P k q w' b r n f left cnt := h.same (hx.block b h.map.lt) (hx.block r h.lt)
theorem IRange.was (h : IRange P k q w b r n f left cnt) {x : Int} (hx : left x = true) : ∃ v, f x = some v := by
  obtain ⟨D, L, _, _, _, h4⟩ := h
  exact Option.isSome_iff_exists.1 (h4 x hx).1
/-- 'range m'. -/
theorem IMap.range (h : IMap P k q w b n f) (hk : P.underlying k = some (.int q)) (ht : P.underlying t = some (.map k e)) :
    ∃ w' cnt, (Instr.range t (.map (some b))).run P w = .ok (.pointer (some ⟨w.heap.size, 0, none⟩)) w' ∧ IRange P k q w' b w.heap.size n f (fun x => (f x).isSome) cnt ∧ w.grownBy w' none ∧ w'.heap.size = w.heap.size + 1 ∧ cnt ≤ n := by
  obtain ⟨D, h1, h2⟩ := h
  obtain ⟨w', hr, h3, h4, h5⟩ := h1.range (int_keyed hk) ht
  refine ⟨w', _, hr, ⟨D, _, h3, h2, fun x => h2.has_ x, fun x hx => ⟨hx, ?_⟩⟩, h4, h5, h1.size_le⟩
  obtain ⟨es, clock, hb, F, _, rfl⟩ := h1
  have hx : (f x).isSome = true := hx
  rw [← h2.has_] at hx
  obtain ⟨p, hp, hpk⟩ := List.any_eq_true.1 hx
  obtain ⟨y, hy, rfl⟩ := List.mem_map.1 (mem_sorted.1 hp)
  obtain ⟨z, hz⟩ := F.reads y hy
  have e := WideAt.sameKey_eq hpk
  rw [WideElems.rg_of hz] at e
  obtain ⟨x', _, e2, hw⟩ := keyOf_int_inv hk (e ▸ WideElems.rd_key hz)
  injection e2 with _ e2
  rw [e2]; exact hw
/-- THE STEP. -/
theorem IRange.next (h : IRange P k q w b r n f left cnt) (hk : P.underlying k = some (.int q)) (ty : TypeId) :
    ((∀ x, left x = false) ∧ (Instr.next (.pointer (some ⟨r, 0, none⟩)) false ty).run P w = .ok (.tuple #[.bool false]) w) ∨
    ∃ x v w' cnt', left x = true ∧ f x = some v ∧ (Lit.int q x).wf = true ∧ (Instr.next (.pointer (some ⟨r, 0, none⟩)) false ty).run P w = .ok (.tuple #[.bool true, .int q x, v]) w' ∧
      IRange P k q w' b r n f (fun y => left y && y != x) cnt' ∧ cnt' < cnt ∧ w.grownBy w' (some r) ∧ w'.heap.size = w.heap.size ∧ (Instr.entry (.pointer (some ⟨r, 0, none⟩))).run P w' = .ok (.tuple #[.int q x, v]) w' := by
  obtain ⟨D, L, h1, h2, h3, h4⟩ := h
  rcases h1.next (int_keyed hk) ty with ⟨_, hl, hrun⟩ | ⟨key, v, kl, y, w', cnt', hkey, hlk, hv, hat, hrun, hrg, hlt, hgr, hsz, hen⟩
  · exact .inl ⟨fun x => by rw [← h3]; exact hl _, hrun⟩
  · obtain ⟨x, rfl, rfl, hw⟩ := keyOf_int_inv hk hkey
    unfold selfR at hv
    simp only [Option.some.injEq] at hv
    subst hv
    have hl : left x = true := by rw [← h3]; exact hlk
    obtain ⟨v', hv'⟩ := Option.isSome_iff_exists.1 (h4 x hl).1
    have e : (DataW.held v : DataW Value) = .held v' := (hat .nil).symm.trans (((h2 x).1 v' hv').2 .nil)
    injection e with e
    subst e
    refine .inr ⟨x, v, w', cnt', hl, hv', hw, hrun, ⟨D, _, hrg, h2, fun y => ?_, fun y hy => h4 y (by rw [Bool.and_eq_true] at hy; exact hy.1)⟩, hlt, hgr, hsz, hen⟩
    show (L (.int q y) && !(Lit.int q y).sameKey (.int q x)) = (left y && y != x)
    rw [h3 y]
    by_cases e : y = x
    · subst e; rw [WideAt.sameKey_self (show WideAt.IsKeyLit (.int q y) from trivial)]; simp
    · rw [sameKey_ne (lit_ne e)]; simp [e]
/-- 'delete(m, x)' in the round. -/
theorem IRange.drop (h : IRange P k q w b r n f left cnt) (hk : P.underlying k = some (.int q)) (ht : P.underlying t = some (.map k e)) {x : Int} (hx : (Lit.int q x).wf = true) (ty : TypeId) :
    ∃ w' cnt', (Builtin.delete_ #[t, k] ty #[.map (some b), .int q x]).run P w = .ok (.tuple #[]) w' ∧ IRange P k q w' b r n (delF f x) (fun y => left y && y != x) cnt' ∧ cnt' ≤ cnt ∧ w.mapTurned w' b := by
  obtain ⟨D, L, h1, h2, h3, h4⟩ := h
  obtain ⟨w', cnt', hr, h5, h6, h7⟩ := h1.drop (int_keyed hk) ht (keyOf_int_mk hk hx) ty
  refine ⟨w', cnt', hr, ⟨_, _, h5, h2.del x, fun y => ?_, fun y hy => ?_⟩, h6, h7⟩
  · show (L (.int q y) && !(Lit.int q y).sameKey (.int q x)) = (left y && y != x)
    rw [h3 y]
    by_cases e : y = x
    · subst e; rw [WideAt.sameKey_self (show WideAt.IsKeyLit (.int q y) from trivial)]; simp
    · rw [sameKey_ne (lit_ne e)]; simp [e]
  · simp only [Bool.and_eq_true, bne_iff_ne] at hy
    unfold delF
    rw [if_neg hy.2]
    exact h4 y hy.1
end
/-! At the operations. -/
section
variable {P : Program} (w : World) {ops : Array Oper} {rest : List Oper} {o : Oper} {a : Act} {Q : Exit → Act → World → Prop}
theorem wpList_look_i (hg : o.guard = none) (m x : Operand) (t : TypeId) (hop : o.op = Op.lookup t m x false) (k e : TypeId) (q : IntKind) (hk : P.underlying k = some (.int q)) (ht : P.underlying t = some (.map k e)) {z : Value} (hz : (zeroValue e).run P w = .ok z w)
    (b n : Nat) (f : Int → Option Value) (hm : a.eval m = .map (some b)) (h : IMap P k q w b n f) (y : Int) (hx : a.eval x = .int q y) (hw : (Lit.int q y).wf = true)
    (hK : wpList P ops Q rest (a.put o.dst ((f y).getD z)) w) : wpList P ops Q (o :: rest) a w := by
  refine wpList_plain hg fun K' hK' => ?_
  unfold Oper.wp
  simp [execOp, hop, hm, hx, h.look hk ht hz hw, Result.andThen]
  exact hK' _ _ hK
theorem wpList_look_iv (hg : o.guard = none) (m x : Operand) (t : TypeId) (hop : o.op = Op.lookup t m x false) (k e : TypeId) (q : IntKind) (hk : P.underlying k = some (.int q)) (ht : P.underlying t = some (.map k e)) {z : Value} (hz : (zeroValue e).run P w = .ok z w)
    (b n : Nat) (f : Int → Option Value) (hm : a.eval m = .map (some b)) (h : IMap P k q w b n f) (y : Int) (hx : a.eval x = .int q y) (hw : (Lit.int q y).wf = true) (v : Value) (hv : (f y).getD z = v)
    (hK : wpList P ops Q rest (a.put o.dst v) w) : wpList P ops Q (o :: rest) a w := by
  subst hv
  exact wpList_look_i w hg m x t hop k e q hk ht hz b n f hm h y hx hw hK
theorem wpList_look_ok_i (hg : o.guard = none) (m x : Operand) (t : TypeId) (hop : o.op = Op.lookup t m x true) (k e : TypeId) (q : IntKind) (hk : P.underlying k = some (.int q)) (ht : P.underlying t = some (.map k e)) {z : Value} (hz : (zeroValue e).run P w = .ok z w)
    (b n : Nat) (f : Int → Option Value) (hm : a.eval m = .map (some b)) (h : IMap P k q w b n f) (y : Int) (hx : a.eval x = .int q y) (hw : (Lit.int q y).wf = true)
    (hK : wpList P ops Q rest (a.put o.dst (.tuple #[(f y).getD z, .bool (f y).isSome])) w) : wpList P ops Q (o :: rest) a w := by
  refine wpList_plain hg fun K' hK' => ?_
  unfold Oper.wp
  simp [execOp, hop, hm, hx, h.look_ok hk ht hz hw, Result.andThen]
  exact hK' _ _ hK
theorem wpList_put_i (hg : o.guard = none) (m x v : Operand) (t : TypeId) (hop : o.op = Op.mapUpdate t m x v) (k e : TypeId) (q : IntKind) (hk : P.underlying k = some (.int q)) (ht : P.underlying t = some (.map k e))
    (b n : Nat) (f : Int → Option Value) (hm : a.eval m = .map (some b)) (h : IMap P k q w b n f) (hn : n < maxLen) (y : Int) (u : Value) (hx : a.eval x = .int q y) (hv : a.eval v = u) (hw : (Lit.int q y).wf = true)
    (hK : ∀ w', IMap P k q w' b (n + 1) (putF f y u) → w.mapTurned w' b → wpList P ops Q rest (a.put o.dst undef) w') : wpList P ops Q (o :: rest) a w := by
  refine wpList_plain hg fun K' hK' => ?_
  obtain ⟨w', hr, h1, h2⟩ := h.store hk ht hn hw u
  unfold Oper.wp
  simp [execOp, hop, hm, hx, hv, hr, Result.andThen]
  exact hK' _ _ (hK w' h1 h2)
theorem wpList_range_i (hg : o.guard = none) (m : Operand) (t : TypeId) (hop : o.op = Op.range t m) (k e : TypeId) (q : IntKind) (hk : P.underlying k = some (.int q)) (ht : P.underlying t = some (.map k e))
    (b n : Nat) (f : Int → Option Value) (hm : a.eval m = .map (some b)) (h : IMap P k q w b n f)
    (hK : ∀ w' cnt, IRange P k q w' b w.heap.size n f (fun x => (f x).isSome) cnt → w.grownBy w' none → w'.heap.size = w.heap.size + 1 → cnt ≤ n → wpList P ops Q rest (a.put o.dst (.pointer (some ⟨w.heap.size, 0, none⟩))) w') : wpList P ops Q (o :: rest) a w := by
  refine wpList_plain hg fun K' hK' => ?_
  obtain ⟨w', cnt, hr, h1, h2, h3, h4⟩ := h.range hk ht
  unfold Oper.wp
  simp [execOp, hop, hm, hr, Result.andThen]
  exact hK' _ _ (hK w' cnt h1 h2 h3 h4)
/-- THE STEP: mkV says the elements' shape. -/
theorem wpList_next_i {β : Type} (hg : o.guard = none) (it : Operand) (hop : o.op = Op.next it false) (k : TypeId) (q : IntKind) (hk : P.underlying k = some (.int q)) (mkV : β → Value) (b r n : Nat) (f : Int → Option Value) (hV : ∀ x v, f x = some v → ∃ c, v = mkV c)
    (left : Int → Bool) (cnt : Nat) (hit : a.eval it = .pointer (some ⟨r, 0, none⟩)) (h : IRange P k q w b r n f left cnt)
    (hDone : (∀ x, left x = false) → wpList P ops Q rest (a.put o.dst (.tuple #[.bool false])) w)
    (hMore : ∀ (x : Int) (c : β) (w' : World) (cnt' : Nat), left x = true → f x = some (mkV c) → (Lit.int q x).wf = true → IRange P k q w' b r n f (fun y => left y && y != x) cnt' → cnt' < cnt → w.grownBy w' (some r) → w'.heap.size = w.heap.size →
      (Instr.entry (.pointer (some ⟨r, 0, none⟩))).run P w' = .ok (.tuple #[.int q x, mkV c]) w' → wpList P ops Q rest (a.put o.dst (.tuple #[.bool true, .int q x, mkV c])) w') : wpList P ops Q (o :: rest) a w := by
  refine wpList_plain hg fun K' hK' => ?_
  unfold Oper.wp
  rcases h.next hk o.type with ⟨hl, hr⟩ | ⟨x, v, w', cnt', h1, h2, h3, hr, h4, h5, h6, h7, h8⟩
  · simp [execOp, hop, hit, hr, Result.andThen]
    exact hK' _ _ (hDone hl)
  · obtain ⟨c, rfl⟩ := hV x v h2
    simp [execOp, hop, hit, hr, Result.andThen]
    exact hK' _ _ (hMore x c w' cnt' h1 h2 h3 h4 h5 h6 h7 h8)
theorem wpList_drop_i (hg : o.guard = none) (m x : Operand) (t k : TypeId) (hop : o.op = Op.call { callee := Callee.builtin Builtin.delete, args := #[m, x], argTypes := #[t, k] }) (e : TypeId) (q : IntKind) (hk : P.underlying k = some (.int q)) (ht : P.underlying t = some (.map k e))
    (b r n : Nat) (f : Int → Option Value) (left : Int → Bool) (cnt : Nat) (hm : a.eval m = .map (some b)) (h : IRange P k q w b r n f left cnt) (y : Int) (hx : a.eval x = .int q y) (hw : (Lit.int q y).wf = true)
    (hK : ∀ w' cnt', IRange P k q w' b r n (delF f y) (fun z => left z && z != y) cnt' → cnt' ≤ cnt → w.mapTurned w' b → wpList P ops Q rest (a.put o.dst (.tuple #[])) w') : wpList P ops Q (o :: rest) a w := by
  refine wpList_plain hg fun K' hK' => ?_
  obtain ⟨w', cnt', hr, h1, h2, h3⟩ := h.drop hk ht hw o.type
  unfold Oper.wp
  simp [execOp, hop, resolve, invoke, builtin, hm, hx, hr, Result.andThen]
  exact hK' _ _ (hK w' cnt' h1 h2 h3)
end
end Go.Proofs.Ytcpfekhpbjkgeaa
end
section
/- What each host got: plain. -/
set_option linter.unusedVariables false
namespace Go.Proofs.Ytcpfekhpbjkgeaa
def hostsOf (P : List OutV) : List Int := P.map (·.host)
def cntH (P : List OutV) (h : Int) : Nat := (P.filter fun o => o.host == h).length
def bytH (P : List OutV) (h : Int) : Nat := ((P.filter fun o => o.host == h).map (·.n)).sum
structure Sh where
  host : Int
  outs : Int
  bytes : Int
  deriving Inhabited
def shShape : Shape Sh where
  z := ⟨0, 0, 0⟩
  size := 3
  cells := fun x => [.int .i64 x.host, .int .i64 x.outs, .int .i64 x.bytes]
  Wf := fun _ => True
  pos := by decide
  len := fun _ => rfl
  one := fun x u hu => by
    simp at hu
    rcases hu with rfl | rfl | rfl <;> rfl
  zwf := trivial
def shOf (P : List OutV) (h : Int) : Sh := ⟨h, cntH P h, bytH P h⟩
def shareF (P : List OutV) : Int → Option Value := fun h => if h ∈ hostsOf P then some (.agg #[.int .i64 h, .int .i64 (cntH P h), .int .i64 (bytH P h)]) else none
theorem shareF_nil : shareF [] = fun _ => none := by funext h; unfold shareF hostsOf; simp
theorem cnt_none {P : List OutV} {h : Int} (hh : h ∉ hostsOf P) : P.filter (fun o => o.host == h) = [] := by
  rw [List.filter_eq_nil_iff]
  intro o ho e
  exact hh (List.mem_map.2 ⟨o, ho, by simpa using e⟩)
theorem shareF_look (P : List OutV) (h : Int) : ∃ h0, (shareF P h).getD (.agg #[.int .i64 0, .int .i64 0, .int .i64 0]) = .agg #[.int .i64 h0, .int .i64 (cntH P h), .int .i64 (bytH P h)] := by
  unfold shareF
  by_cases hh : h ∈ hostsOf P
  · rw [if_pos hh]; exact ⟨h, rfl⟩
  · rw [if_neg hh]
    refine ⟨0, ?_⟩
    unfold cntH bytH
    rw [cnt_none hh]
    rfl
theorem cntH_snoc (P : List OutV) (o : OutV) (h : Int) : cntH (P ++ [o]) h = cntH P h + if o.host = h then 1 else 0 := by
  unfold cntH
  rw [List.filter_append, List.length_append]
  by_cases e : o.host = h
  · rw [if_pos e, List.filter_cons_of_pos (by simpa using e)]; rfl
  · rw [if_neg e, List.filter_cons_of_neg (by simpa using e)]; rfl
theorem bytH_snoc (P : List OutV) (o : OutV) (h : Int) : bytH (P ++ [o]) h = bytH P h + if o.host = h then o.n else 0 := by
  unfold bytH
  rw [List.filter_append, List.map_append, List.sum_append]
  by_cases e : o.host = h
  · rw [if_pos e, List.filter_cons_of_pos (by simpa using e)]; simp
  · rw [if_neg e, List.filter_cons_of_neg (by simpa using e)]; simp
theorem shareF_step (P : List OutV) (o : OutV) : putF (shareF P) o.host (.agg #[.int .i64 o.host, .int .i64 ((cntH P o.host : Int) + 1), .int .i64 ((bytH P o.host : Int) + o.n)]) = shareF (P ++ [o]) := by
  funext h
  unfold putF shareF
  by_cases e : h = o.host
  · subst e
    rw [if_pos rfl, if_pos (by unfold hostsOf; simp), cntH_snoc, bytH_snoc, if_pos rfl, if_pos rfl]
    simp
  · rw [if_neg e, cntH_snoc, bytH_snoc, if_neg (show ¬ o.host = h from fun q => e q.symm), if_neg (show ¬ o.host = h from fun q => e q.symm)]
    have : h ∈ hostsOf (P ++ [o]) ↔ h ∈ hostsOf P := by unfold hostsOf; simp [e]
    by_cases hh : h ∈ hostsOf P
    · rw [if_pos hh, if_pos (this.2 hh)]; simp
    · rw [if_neg hh, if_neg (fun h => hh (this.1 h))]
theorem cntH_le (P : List OutV) (h : Int) : cntH P h ≤ P.length := List.length_filter_le _ _
theorem bytH_le {P : List OutV} {m : Nat} (hm : ∀ o ∈ P, o.n ≤ m) (h : Int) : bytH P h ≤ P.length * m := by
  induction P with
  | nil => simp [bytH]
  | cons o P ih =>
    have h1 := ih (fun x hx => hm x (List.mem_cons_of_mem _ hx))
    have h2 := hm o List.mem_cons_self
    unfold bytH at h1 ⊢
    rw [List.length_cons, Nat.succ_mul]
    by_cases e : o.host = h
    · rw [List.filter_cons_of_pos (by simpa using e), List.map_cons, List.sum_cons]; omega
    · rw [List.filter_cons_of_neg (by simpa using e)]; omega
/-! Keys as they come out of a map, in whatever order. -/
structure Met (mem : Int → Bool) (left : Int → Bool) (ks : List Int) : Prop where
  nodup : ks.Nodup
  sub : ∀ k ∈ ks, mem k = true
  left_eq : ∀ y, left y = (mem y && !ks.contains y)
end Go.Proofs.Ytcpfekhpbjkgeaa
end
section
/- slices.SortFunc at pairs and at shares: the library's contract, laid by the shelf's tool in its plain mode. -/
set_option linter.unusedVariables false
namespace Go.Proofs.Ytcpfekhpbjkgeaa
open Go.Shelf Go.Proofs
def Try.sortPairs_ren : Go.Shelf.Ren := ⟨fun | 6 => 69 | 15 => 77 | 14 => 80 | 28 => 93 | 29 => 94 | 20 => 103 | 21 => 104 | 22 => 105 | 23 => 106 | 24 => 107 | 25 => 108 | 26 => 109 | 27 => 110 | 46 => 120 | 47 => 113 | 48 => 114 | 49 => 121 | 50 => 122 | 57 => 126 | n => n, fun | 22 => 99 | 24 => 103 | 25 => 136 | 3 => 3 | 39 => 144 | 0 => 0 | 53 => 159 | 55 => 161 | 4 => 4 | 46 => 152 | 45 => 151 | 50 => 127 | 5 => 5 | 9 => 9 | 66 => 172 | 70 => 176 | 76 => 182 | 77 => 183 | n => n, fun | n => n⟩
theorem Try.sortPairs : Go.Proofs.SlLaysF0.n6 Try.prog Try.sortPairs_ren := {
  mixed := by kernel_rfl
  f6 := ⟨Try.f69.name, by decide, Try.func69.trans (congrArg some (by kernel_rfl))⟩
  f14 := ⟨Try.f80.name, by decide, Try.func80.trans (congrArg some (by kernel_rfl))⟩
  f15 := Try.func77.trans (congrArg some (by kernel_rfl))
  f20 := ⟨Try.f103.name, by decide, Try.func103.trans (congrArg some (by kernel_rfl))⟩
  f21 := ⟨Try.f104.name, by decide, Try.func104.trans (congrArg some (by kernel_rfl))⟩
  f22 := ⟨Try.f105.name, by decide, Try.func105.trans (congrArg some (by kernel_rfl))⟩
  f23 := ⟨Try.f106.name, by decide, Try.func106.trans (congrArg some (by kernel_rfl))⟩
  f24 := ⟨Try.f107.name, by decide, Try.func107.trans (congrArg some (by kernel_rfl))⟩
  f25 := ⟨Try.f108.name, by decide, Try.func108.trans (congrArg some (by kernel_rfl))⟩
  f26 := ⟨Try.f109.name, by decide, Try.func109.trans (congrArg some (by kernel_rfl))⟩
  f27 := ⟨Try.f110.name, by decide, Try.func110.trans (congrArg some (by kernel_rfl))⟩
  f28 := Try.func93.trans (congrArg some (by kernel_rfl))
  f29 := Try.func94.trans (congrArg some (by kernel_rfl))
  f46 := ⟨Try.f120.name, by decide, Try.func120.trans (congrArg some (by kernel_rfl))⟩
  f47 := Try.func113.trans (congrArg some (by kernel_rfl))
  f48 := Try.func114.trans (congrArg some (by kernel_rfl))
  f49 := ⟨Try.f121.name, by decide, Try.func121.trans (congrArg some (by kernel_rfl))⟩
  f50 := ⟨Try.f122.name, by decide, Try.func122.trans (congrArg some (by kernel_rfl))⟩
  f57 := ⟨Try.f126.name, by decide, Try.func126.trans (congrArg some (by kernel_rfl))⟩
  t0 := Try.underlying0
  a0 := Try.isAgg0
  z0 := Try.sizeOf0
  v0 := Try.zeroValue0
  t3 := Try.underlying3
  a3 := Try.isAgg3
  z3 := Try.sizeOf3
  v3 := Try.zeroValue3
  t4 := Try.underlying4
  a4 := Try.isAgg4
  z4 := Try.sizeOf4
  v4 := Try.zeroValue4
  t5 := Try.underlying5
  a5 := Try.isAgg5
  z5 := Try.sizeOf5
  v5 := Try.zeroValue5
  t9 := Try.underlying9
  a9 := Try.isAgg9
  z9 := Try.sizeOf9
  v9 := Try.zeroValue9
  t22 := Try.underlying99
  a22 := Try.isAgg99
  z22 := Try.sizeOf99
  v22 := Try.zeroValue99
  t25 := Try.underlying136
  a25 := Try.isAgg136
  z25 := Try.sizeOf136
  v25 := Try.zeroValue136
  t39 := Try.underlying144
  a39 := Try.isAgg144
  z39 := Try.sizeOf144
  v39 := Try.zeroValue144
  t45 := Try.underlying151
  a45 := Try.isAgg151
  z45 := Try.sizeOf151
  v45 := Try.zeroValue151
  t46 := Try.underlying152
  a46 := Try.isAgg152
  z46 := Try.sizeOf152
  v46 := Try.zeroValue152
  t50 := Try.underlying127
  a50 := Try.isAgg127
  z50 := Try.sizeOf127
  v50 := Try.zeroValue127
  t53 := Try.underlying159
  a53 := Try.isAgg159
  z53 := Try.sizeOf159
  v53 := Try.zeroValue159
  t55 := Try.underlying161
  a55 := Try.isAgg161
  z55 := Try.sizeOf161
  v55 := Try.zeroValue161
  t66 := Try.underlying172
  a66 := Try.isAgg172
  z66 := Try.sizeOf172
  v66 := Try.zeroValue172
  t70 := Try.underlying176
  a70 := Try.isAgg176
  z70 := Try.sizeOf176
  v70 := Try.zeroValue176
  t76 := Try.underlying182
  a76 := Try.isAgg182
  z76 := Try.sizeOf182
  v76 := Try.zeroValue182
  t77 := Try.underlying183
  a77 := Try.isAgg183
  z77 := Try.sizeOf183
  v77 := Try.zeroValue183 }
def Try.sortShares_ren : Go.Shelf.Ren := ⟨fun | 6 => 66 | 15 => 77 | 14 => 78 | 28 => 93 | 29 => 94 | 20 => 95 | 21 => 96 | 22 => 97 | 23 => 98 | 24 => 99 | 25 => 100 | 26 => 101 | 27 => 102 | 46 => 117 | 47 => 113 | 48 => 114 | 49 => 118 | 50 => 119 | 57 => 125 | n => n, fun | 22 => 91 | 24 => 97 | 25 => 133 | 3 => 3 | 39 => 144 | 0 => 0 | 53 => 159 | 55 => 161 | 4 => 4 | 46 => 152 | 45 => 151 | 50 => 127 | 5 => 5 | 9 => 9 | 66 => 172 | 70 => 176 | 76 => 182 | 77 => 183 | n => n, fun | n => n⟩
theorem Try.sortShares : Go.Proofs.SlLaysF0.n6 Try.prog Try.sortShares_ren := {
  mixed := by kernel_rfl
  f6 := ⟨Try.f66.name, by decide, Try.func66.trans (congrArg some (by kernel_rfl))⟩
  f14 := ⟨Try.f78.name, by decide, Try.func78.trans (congrArg some (by kernel_rfl))⟩
  f15 := Try.func77.trans (congrArg some (by kernel_rfl))
  f20 := ⟨Try.f95.name, by decide, Try.func95.trans (congrArg some (by kernel_rfl))⟩
  f21 := ⟨Try.f96.name, by decide, Try.func96.trans (congrArg some (by kernel_rfl))⟩
  f22 := ⟨Try.f97.name, by decide, Try.func97.trans (congrArg some (by kernel_rfl))⟩
  f23 := ⟨Try.f98.name, by decide, Try.func98.trans (congrArg some (by kernel_rfl))⟩
  f24 := ⟨Try.f99.name, by decide, Try.func99.trans (congrArg some (by kernel_rfl))⟩
  f25 := ⟨Try.f100.name, by decide, Try.func100.trans (congrArg some (by kernel_rfl))⟩
  f26 := ⟨Try.f101.name, by decide, Try.func101.trans (congrArg some (by kernel_rfl))⟩
  f27 := ⟨Try.f102.name, by decide, Try.func102.trans (congrArg some (by kernel_rfl))⟩
  f28 := Try.func93.trans (congrArg some (by kernel_rfl))
  f29 := Try.func94.trans (congrArg some (by kernel_rfl))
  f46 := ⟨Try.f117.name, by decide, Try.func117.trans (congrArg some (by kernel_rfl))⟩
  f47 := Try.func113.trans (congrArg some (by kernel_rfl))
  f48 := Try.func114.trans (congrArg some (by kernel_rfl))
  f49 := ⟨Try.f118.name, by decide, Try.func118.trans (congrArg some (by kernel_rfl))⟩
  f50 := ⟨Try.f119.name, by decide, Try.func119.trans (congrArg some (by kernel_rfl))⟩
  f57 := ⟨Try.f125.name, by decide, Try.func125.trans (congrArg some (by kernel_rfl))⟩
  t0 := Try.underlying0
  a0 := Try.isAgg0
  z0 := Try.sizeOf0
  v0 := Try.zeroValue0
  t3 := Try.underlying3
  a3 := Try.isAgg3
  z3 := Try.sizeOf3
  v3 := Try.zeroValue3
  t4 := Try.underlying4
  a4 := Try.isAgg4
  z4 := Try.sizeOf4
  v4 := Try.zeroValue4
  t5 := Try.underlying5
  a5 := Try.isAgg5
  z5 := Try.sizeOf5
  v5 := Try.zeroValue5
  t9 := Try.underlying9
  a9 := Try.isAgg9
  z9 := Try.sizeOf9
  v9 := Try.zeroValue9
  t22 := Try.underlying91
  a22 := Try.isAgg91
  z22 := Try.sizeOf91
  v22 := Try.zeroValue91
  t25 := Try.underlying133
  a25 := Try.isAgg133
  z25 := Try.sizeOf133
  v25 := Try.zeroValue133
  t39 := Try.underlying144
  a39 := Try.isAgg144
  z39 := Try.sizeOf144
  v39 := Try.zeroValue144
  t45 := Try.underlying151
  a45 := Try.isAgg151
  z45 := Try.sizeOf151
  v45 := Try.zeroValue151
  t46 := Try.underlying152
  a46 := Try.isAgg152
  z46 := Try.sizeOf152
  v46 := Try.zeroValue152
  t50 := Try.underlying127
  a50 := Try.isAgg127
  z50 := Try.sizeOf127
  v50 := Try.zeroValue127
  t53 := Try.underlying159
  a53 := Try.isAgg159
  z53 := Try.sizeOf159
  v53 := Try.zeroValue159
  t55 := Try.underlying161
  a55 := Try.isAgg161
  z55 := Try.sizeOf161
  v55 := Try.zeroValue161
  t66 := Try.underlying172
  a66 := Try.isAgg172
  z66 := Try.sizeOf172
  v66 := Try.zeroValue172
  t70 := Try.underlying176
  a70 := Try.isAgg176
  z70 := Try.sizeOf176
  v70 := Try.zeroValue176
  t76 := Try.underlying182
  a76 := Try.isAgg182
  z76 := Try.sizeOf182
  v76 := Try.zeroValue182
  t77 := Try.underlying183
  a77 := Try.isAgg183
  z77 := Try.sizeOf183
  v77 := Try.zeroValue183 }
end Go.Proofs.Ytcpfekhpbjkgeaa
end
section
/- slices.SortFunc, of rows that a slice owns: structs of any shape. -/
set_option linter.unusedVariables false
namespace Go.Proofs.Ytcpfekhpbjkgeaa
open Go.RowKit Go.Sort Go.Shelf
set_option maxRecDepth 100000
section
variable {α : Type} [Inhabited α] (C : Shape α)
theorem flatC_at (d : Array α) (j : Nat) (h : j < d.size * C.size) : (C.flat d.toList)[j]? = some ((flatK C.cells C.size d)[j]!) := by
  obtain ⟨e, hj⟩ := C.split j
  rw [get_flatK _ _ _ _ h]
  have hi : j / C.size < d.size := by rwa [Nat.div_lt_iff_lt_mul C.pos]
  rw [show (C.flat d.toList)[j]? = (C.flat d.toList)[j / C.size * C.size + j % C.size]? by rw [← e], C.flat_at _ _ _ hj]
  rw [show d.toList[j / C.size]? = some d[j / C.size]! by rw [Array.getElem?_toList, Array.getElem?_eq_getElem hi, getElem!_pos d _ hi]]
  show (C.cells d[j / C.size]!)[j % C.size]? = some ((C.cells d[j / C.size]!)[j % C.size]!)
  rw [List.getElem?_eq_getElem (by rw [C.len]; exact hj), getElem!_pos (C.cells d[j / C.size]!) _ (by rw [C.len]; exact hj)]
theorem holdsC_row {w : World} {B g cap : Nat} {T : TypeId} {l : List α} (h : w.ownsRow B T C.size (.slice (some ⟨g, 0, none⟩) l.length cap) l.length (C.flat l)) : HoldsK C.cells C.size w g 0 l.toArray := by
  obtain ⟨h0, ⟨e, _⟩ | ⟨g', cap', cur, e, hb, hg, h1, h2, h3, h4⟩⟩ := h
  · cases e
  · cases e
    intro j hj
    rw [size_flatK] at hj
    have hj2 : j < l.length * C.size := by simpa using hj
    have e1 := flatC_at C l.toArray j hj
    rw [show l.toArray.toList = l from rfl, ← h4, List.getElem?_take_of_lt hj2, Array.getElem?_toList] at e1
    refine ⟨?_, by simp [World.frozen?, hg]⟩
    simp only [World.cell?, hg, Nat.zero_add]
    exact e1
theorem heapC_put {w : World} {g n : Nat} {os : Array Obj} {cur : Array Value} {e : TypeId} {fr : Nat × Nat} (F : Array Value) (hb : w.heap[g]? = some (.cells cur e fr)) :
    (grow (putRow id (Go.Sort.ahead w n) g 0 F) os).heap[g]? = some (.cells (putCells id 0 F cur) e fr) := by
  have hg : g < w.heap.size := (Array.getElem?_eq_some_iff.1 hb).1
  rw [heap_grow_old _ _ (by simpa using hg)]
  simp [putRow, mapBlock, Go.Sort.ahead, Array.getElem?_modify, hb, onCells]
theorem grownC_put {w : World} {g n : Nat} {os : Array Obj} (F : Array Value) : w.grownBy (grow (putRow id (Go.Sort.ahead w n) g 0 F) os) (some g) := by
  refine ⟨rfl, rfl, rfl, by simp, fun k hk hne => ?_⟩
  rw [heap_grow_old _ _ (by simpa using hk)]
  have : g ≠ k := fun e => hne (by rw [e])
  simp [putRow, mapBlock, Go.Sort.ahead, Array.getElem?_modify, this]
theorem takeC_put (cur : Array Value) (d : Array α) (h : d.size * C.size ≤ cur.size) : (putCells id 0 (flatK C.cells C.size d) cur).toList.take (d.size * C.size) = C.flat d.toList := by
  apply List.ext_getElem?
  intro j
  by_cases hj : j < d.size * C.size
  · rw [List.getElem?_take_of_lt hj, Array.getElem?_toList, flatC_at C d j hj]
    simp [putCells, hj, show j < cur.size by omega]
  · rw [List.getElem?_take_eq_none (by omega), List.getElem?_eq_none (by rw [C.flat_len, Array.length_toList]; omega)]
theorem sortedC_of {lt : α → α → Bool} {d : Array α} (h : SortedIn lt 0 d.size d) : d.toList.Pairwise fun x y => lt y x = false := by
  rw [List.pairwise_iff_getElem]
  intro i j hi hj hij
  have := h i j (Nat.zero_le _) hij (by simpa using hj)
  rw [getElem!_pos d j (by simpa using hj), getElem!_pos d i (by simpa using hi)] at this
  simpa using this
theorem permC_of {d d' : Array α} (h : PermIn 0 d.size d d') : d'.toList.Perm d.toList := by
  have h2 := h.2.2
  rw [show d.extract 0 d.size = d by simp, show d'.extract 0 d.size = d' by rw [← h.1]; simp] at h2
  exact h2
/-- The slice owns the same, sorted. -/
theorem sort_own {ρ : Ren} (L : SlLaysF0.n6 Try.prog ρ) (T : TypeId) (aE : ∀ w, (isAgg (ρ.t 24)).run Try.prog w = .ok true w) (zE : ∀ w, (Go.sizeOf (ρ.t 24)).run Try.prog w = .ok C.size w)
    (cf : α → α → Int) (hO : SWO (ltOf cf)) (g : Nat) (eg : ∀ args w, (callFunc g args).run Try.prog w = .ok (.enter g args) w)
    (hcmp : ∀ (x y : α) (W : World), Calls Try.prog g #[.agg (C.cells x).toArray, .agg (C.cells y).toArray] W fun e w' => e = .returned (.int .i64 (cf x y)) ∧ ∃ q os', w' = grow (W.drewN q) os')
    {w : World} {B : Nat} {v : Value} (l : List α) (h : w.ownsRow B T C.size v l.length (C.flat l)) (hn : l.length < 4611686018427387904) :
    Calls Try.prog (ρ.f 6) #[v, .func (.func g) #[] #[]] w fun e w' => e = .returned (.tuple #[]) ∧ ∃ o, o.Pairwise (fun x y => ltOf cf y x = false) ∧ o.Perm l ∧ w'.ownsRow B T C.size v l.length (C.flat o) ∧ w.grownBy w' v.ownBlock := by
  have H := h
  obtain ⟨h0, ⟨rfl, hz⟩ | ⟨b, cap, cur, rfl, hb, hg, h1, h2, h3, h4⟩⟩ := H
  · have hl : l = [] := List.length_eq_zero_iff.1 hz
    subst hl
    refine (AnyF.slices_SortFunc_none L none 0 _ w).mono ?_
    rintro e w' ⟨rfl, rfl⟩
    exact ⟨rfl, [], List.Pairwise.nil, List.Perm.refl _, h, ⟨rfl, rfl, rfl, Nat.le_refl _, fun _ _ _ => rfl⟩⟩
  · have hH := holdsC_row C h
    have hgl : b < w.heap.size := (Array.getElem?_eq_some_iff.1 hg).1
    have hc := AnyQ.slices_SortFunc L C.size aE zE C.cells C.len C.one cf hO g #[] b 0 cap l.toArray w eg (fun _ _ _ _ x y => hcmp x y _) hH hgl (by simpa using hn)
    rw [show l.toArray.size = l.length by simp] at hc
    refine hc.mono ?_
    rintro e w' ⟨rfl, d', n, os, hP, hS, rfl⟩
    have hsz : d'.size = l.length := by rw [hP.1]; simp
    refine ⟨rfl, d'.toList, sortedC_of (by rw [hsz]; exact hS), ?_, ⟨by rw [C.flat_len, Array.length_toList, hsz], .inr ⟨b, cap, putCells id 0 (flatK C.cells C.size d') cur, rfl, hb, heapC_put _ hg, h1, h2, by simp [putCells, h3], ?_⟩⟩, grownC_put _⟩
    · exact permC_of (d := l.toArray) (d' := d') (by rw [show l.toArray.size = l.length by simp]; exact hP)
    · rw [← hsz]; exact takeC_put C cur d' (by rw [hsz, h3]; exact Nat.mul_le_mul_right _ h1)
end
end Go.Proofs.Ytcpfekhpbjkgeaa
end
section
/- trace.Shares. -/
set_option linter.unusedVariables false
namespace Go.Proofs.Ytcpfekhpbjkgeaa
open Go.RowKit Go.Maps Go.Sort Go.Shelf
set_option maxHeartbeats 8000000
set_option maxRecDepth 100000
theorem isNaNK_int (x : Int) (w : World) : Calls Try.prog 79 #[.int .i64 x] w fun e w' => e = .returned (.bool false) ∧ w = w' := by
  have h : (x != x) = false := by simp
  go_enter Try.func79, Try.ntmps79
  go_wp2
  go_ret
  exact ⟨rfl, rfl⟩
def cmpK (a b : Int) : Int := if a < b then -1 else if b < a then 1 else 0
theorem compareK_int (a b : Int) (w : World) : Calls Try.prog 68 #[.int .i64 a, .int .i64 b] w fun e w' => e = .returned (.int .i64 (cmpK a b)) ∧ w = w' := by
  have h1 := fun x => isNaNK_int x w
  have HS := Lib.hid (show cmpK a b = if a < b then -1 else if b < a then 1 else 0 from rfl)
  generalize cmpK a b = C at *
  go_enter Try.func68, Try.ntmps68
  go_wp2_with fail
  refine (h1 a).mono ?_; rintro e w1 ⟨rfl, rfl⟩
  go_wp2_with fail
  refine (h1 b).mono ?_; rintro e w1 ⟨rfl, rfl⟩
  clear h1
  by_cases c1 : a < b
  · go_wp2
    go_ret
    exact ⟨by rw [HS.out, if_pos c1]; rfl, rfl⟩
  · by_cases c2 : b < a
    · go_wp2
      go_ret
      exact ⟨by rw [HS.out, if_neg (show ¬ a < b by omega), if_pos c2]; rfl, rfl⟩
    · go_wp2
      go_ret
      exact ⟨by rw [HS.out, if_neg (show ¬ a < b by omega), if_neg (show ¬ b < a by omega)]; rfl, rfl⟩
theorem cmpK_lt (a b : Int) : (cmpK a b < 0) ↔ a < b := by
  unfold cmpK
  split
  · omega
  · split <;> omega
def shCmp (x y : Sh) : Int := cmpK x.host y.host
theorem shCmp_lt (x y : Sh) : ltOf shCmp x y = decide (x.host < y.host) := by
  unfold ltOf shCmp
  simp only [cmpK_lt]
theorem shCmp_swo : SWO (ltOf shCmp) where
  irrefl x := by rw [shCmp_lt]; simp
  trans x y z h1 h2 := by rw [shCmp_lt] at *; simp at *; omega
  ntrans x y z h1 h2 := by rw [shCmp_lt] at *; simp at *; omega
theorem shares_closure (x y : Sh) (W : World) : Calls Try.prog 67 #[.agg (shShape.cells x).toArray, .agg (shShape.cells y).toArray] W fun e w' => e = .returned (.int .i64 (shCmp x y)) ∧ ∃ q os', w' = grow (W.drewN q) os' := by
  have hcon := fun W' => compareK_int x.host y.host W'
  have HS := Lib.hid (show shCmp x y = cmpK x.host y.host from rfl)
  generalize shCmp x y = C at *
  obtain ⟨x0, x1, x2⟩ := x
  obtain ⟨y0, y1, y2⟩ := y
  dsimp only [shShape] at *
  go_enter Try.func67, Try.ntmps67
  go_wp2_with fail
  refine (hcon _).mono ?_; rintro e w1 ⟨rfl, rfl⟩
  clear hcon
  go_wp2
  go_ret
  exact ⟨by rw [HS.out]; rfl, 0, _, by rw [alloc_eq_grow, alloc_eq_grow, grow_grow]; rfl⟩
end Go.Proofs.Ytcpfekhpbjkgeaa
end
