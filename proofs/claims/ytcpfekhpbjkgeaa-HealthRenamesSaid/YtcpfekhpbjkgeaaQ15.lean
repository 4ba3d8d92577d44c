/- Lemmas for the claim's proof: MapI OwnKit HealthA HealthB. -/
import Derived.Maps.RangeWalk
import Derived.Maps.Ext
import Derived.Deep.DeepCutAuto
import Derived.Deep.CutBlock
import Derived.Deep.RegionHeld3
import Derived.Laws.Cover3
import Derived.Test.YtcpfekhpbjkgeaaQ01
import Derived.Test.YtcpfekhpbjkgeaaQ03
import Derived.Test.YtcpfekhpbjkgeaaQ07
import Derived.Test.YtcpfekhpbjkgeaaQ13
section
/- Maps keyed by integers: what stands at each key, as a function; elements of whatever kind. -/
set_option linter.unusedVariables false
namespace Go.Proofs.Ytcpfekhpbjkgeaa
open Go.Maps Go.RowKit
/-- An element reads as itself. -/
def selfR (v : Value) : Option (DataW Value × List MemPlace) := some (.held v, [])
/-- What a reading holds, by its keys. -/
def View (q : IntKind) (D : DataW Value) (f : Int → Option Value) : Prop := ∀ x, (∀ v, f x = some v → has D (.int q x) = true ∧ ∀ z, D.atKey (.int q x) z = .held v) ∧ (f x = none → has D (.int q x) = false)
def putF (f : Int → Option Value) (x : Int) (v : Value) : Int → Option Value := fun y => if y = x then some v else f y
def delF (f : Int → Option Value) (x : Int) : Int → Option Value := fun y => if y = x then none else f y
theorem key_int (q : IntKind) (x : Int) : WideAt.IsKeyLit (.int q x) := trivial
theorem lit_ne {q : IntKind} {x y : Int} (h : y ≠ x) : Lit.int q y ≠ Lit.int q x := fun e => h (by injection e)
theorem View.empty (q : IntKind) : View q (.map []) fun _ => none := fun x => ⟨(fun v h => by cases h), fun _ => rfl⟩
theorem View.put {q : IntKind} {D : DataW Value} {f : Int → Option Value} (h : View q D f) (hD : IsMap D) (x : Int) (v : Value) : View q (D.put (.int q x) (.held v)) (putF f x v) := fun y => by
  unfold putF
  by_cases e : y = x
  · subst e
    rw [if_pos rfl]
    exact ⟨(fun v' hv => by cases hv; exact ⟨has_put_same hD (key_int q y) _, fun z => atKey_put_same hD (key_int q y) _ _⟩), (fun hn => by cases hn)⟩
  · rw [if_neg e]
    refine ⟨fun v' hv => ?_, fun hn => ?_⟩
    · obtain ⟨h1, h2⟩ := (h y).1 v' hv
      exact ⟨by rw [has_put_other (lit_ne e)]; exact h1, fun z => by rw [atKey_put_other (lit_ne e)]; exact h2 z⟩
    · rw [has_put_other (lit_ne e)]; exact (h y).2 hn
theorem View.del {q : IntKind} {D : DataW Value} {f : Int → Option Value} (h : View q D f) (x : Int) : View q (D.del (.int q x)) (delF f x) := fun y => by
  unfold delF
  by_cases e : y = x
  · subst e
    rw [if_pos rfl]
    exact ⟨(fun v' hv => by cases hv), fun _ => has_del_same⟩
  · rw [if_neg e]
    refine ⟨fun v' hv => ?_, fun hn => ?_⟩
    · obtain ⟨h1, h2⟩ := (h y).1 v' hv
      exact ⟨by rw [has_del_other (lit_ne e)]; exact h1, fun z => by rw [atKey_del_other (lit_ne e)]; exact h2 z⟩
    · rw [has_del_other (lit_ne e)]; exact (h y).2 hn
theorem View.at_ {q : IntKind} {D : DataW Value} {f : Int → Option Value} (h : View q D f) (x : Int) (z : Value) : D.atKey (.int q x) (.held z) = .held ((f x).getD z) := by
  cases e : f x with
  | none => rw [atKey_of_not_has ((h x).2 e)]; rfl
  | some v => exact ((h x).1 v e).2 _
theorem View.has_ {q : IntKind} {D : DataW Value} {f : Int → Option Value} (h : View q D f) (x : Int) : has D (.int q x) = (f x).isSome := by
  cases e : f x with
  | none => exact (h x).2 e
  | some v => exact ((h x).1 v e).1
/-- A map in block b of at most n entries: at key x stands f x. -/
def IMap (P : Program) (k : TypeId) (q : IntKind) (w : World) (b n : Nat) (f : Int → Option Value) : Prop := ∃ D, w.ownsMap P k selfR b n D ∧ View q D f
section
variable {P : Program} {t k e : TypeId} {q : IntKind} {w w' : World} {b n : Nat} {f : Int → Option Value}
theorem IMap.made (P : Program) (k : TypeId) (q : IntKind) (w : World) : IMap P k q (w.alloc (.map #[] 0)) w.heap.size 0 fun _ => none := ⟨_, World.ownsMap_made w P k selfR, View.empty q⟩
theorem IMap.lt (h : IMap P k q w b n f) : b < w.heap.size := by obtain ⟨D, h1, _⟩ := h; exact h1.lt
theorem IMap.mono (h : IMap P k q w b n f) {m : Nat} (hm : n ≤ m) : IMap P k q w b m f := by obtain ⟨D, h1, h2⟩ := h; exact ⟨D, h1.mono hm, h2⟩
theorem IMap.grown {row : Option Nat} (h : IMap P k q w b n f) (hg : w.grownBy w' row) (hne : some b ≠ row) : IMap P k q w' b n f := by obtain ⟨D, h1, h2⟩ := h; exact ⟨D, h1.kept hg hne, h2⟩
theorem IMap.same (h : IMap P k q w b n f) (hb : w'.heap[b]? = w.heap[b]?) : IMap P k q w' b n f := by
  obtain ⟨D, ⟨es, clock, h1, h2⟩, h3⟩ := h
  exact ⟨D, ⟨es, clock, hb.trans h1, h2⟩, h3⟩
theorem IMap.keep (h : IMap P k q w b n f) (hx : Below w.heap.size w w') : IMap P k q w' b n f := h.same (hx.block b h.lt)
theorem IMap.drew (h : IMap P k q w b n f) : IMap P k q w.drew b n f := h
theorem IMap.setCell (h : IMap P k q w b n f) {a : Addr} (ha : b ≠ a.block) (u : Value) : IMap P k q (w.setCell a u) b n f := by obtain ⟨D, h1, h2⟩ := h; exact ⟨D, h1.setCell ha u, h2⟩
/-- 'm[x]'. -/
theorem IMap.look (h : IMap P k q w b n f) (hk : P.underlying k = some (.int q)) (ht : P.underlying t = some (.map k e)) {z : Value} (hz : (zeroValue e).run P w = .ok z w) {x : Int} (hx : (Lit.int q x).wf = true) :
    (Instr.lookup t (.map (some b)) (.int q x) false).run P w = .ok ((f x).getD z) w := by
  obtain ⟨D, h1, h2⟩ := h
  obtain ⟨v, ps, hr, hv⟩ := h1.lookup (int_keyed hk) ht hz (zd := .held z) (zp := []) rfl (keyOf_int_mk hk hx)
  rw [h2.at_] at hv
  unfold selfR at hv
  simp only [Option.some.injEq, Prod.mk.injEq, DataW.held.injEq] at hv
  rw [hr, hv.1]
/-- 'v, ok := m[x]'. -/
theorem IMap.look_ok (h : IMap P k q w b n f) (hk : P.underlying k = some (.int q)) (ht : P.underlying t = some (.map k e)) {z : Value} (hz : (zeroValue e).run P w = .ok z w) {x : Int} (hx : (Lit.int q x).wf = true) :
    (Instr.lookup t (.map (some b)) (.int q x) true).run P w = .ok (.tuple #[(f x).getD z, .bool (f x).isSome]) w := by
  obtain ⟨D, h1, h2⟩ := h
  obtain ⟨v, ps, hr, hv⟩ := h1.look_ok (int_keyed hk) ht hz (zd := .held z) (zp := []) rfl (keyOf_int_mk hk hx)
  rw [h2.at_] at hv
  unfold selfR at hv
  simp only [Option.some.injEq, Prod.mk.injEq, DataW.held.injEq] at hv
  rw [hr, hv.1, h2.has_]
/-- 'm[x] = v'. -/
theorem IMap.store (h : IMap P k q w b n f) (hk : P.underlying k = some (.int q)) (ht : P.underlying t = some (.map k e)) (hn : n < maxLen) {x : Int} (hx : (Lit.int q x).wf = true) (v : Value) :
    ∃ w', (Instr.mapUpdate t (.map (some b)) (.int q x) v).run P w = .ok () w' ∧ IMap P k q w' b (n + 1) (putF f x v) ∧ w.mapTurned w' b := by
  obtain ⟨D, h1, h2⟩ := h
  obtain ⟨w', hr, h3, h4⟩ := h1.store (int_keyed hk) ht hn (keyOf_int_mk hk hx) (val := v) (d := .held v) (ps := []) rfl
  exact ⟨w', hr, ⟨_, h3, h2.put h1.isMap x v⟩, h4⟩
/-- 'delete(m, x)'. -/
theorem IMap.drop (h : IMap P k q w b n f) (hk : P.underlying k = some (.int q)) (ht : P.underlying t = some (.map k e)) {x : Int} (hx : (Lit.int q x).wf = true) (ty : TypeId) :
    ∃ w', (Builtin.delete_ #[t, k] ty #[.map (some b), .int q x]).run P w = .ok (.tuple #[]) w' ∧ IMap P k q w' b n (delF f x) ∧ w.mapTurned w' b := by
  obtain ⟨D, h1, h2⟩ := h
  obtain ⟨w', hr, h3, h4⟩ := h1.drop (int_keyed hk) ht (keyOf_int_mk hk hx) ty
  exact ⟨w', hr, ⟨_, h3, h2.del x⟩, h4⟩
end
/-! A map that is ranged over: which keys are still to come. -/
def IRange (P : Program) (k : TypeId) (q : IntKind) (w : World) (b r n : Nat) (f : Int → Option Value) (left : Int → Bool) (cnt : Nat) : Prop :=
  ∃ D L, w.ranges P k selfR b r n D L cnt ∧ View q D f ∧ (∀ x, L (.int q x) = left x) ∧ ∀ x, left x = true → (f x).isSome = true ∧ (Lit.int q x).wf = true
section
variable {P : Program} {t k e : TypeId} {q : IntKind} {w w' : World} {b r n : Nat} {f : Int → Option Value} {left : Int → Bool} {cnt : Nat}
theorem IRange.map (h : IRange P k q w b r n f left cnt) : IMap P k q w b n f := by obtain ⟨D, L, h1, h2, _⟩ := h; exact ⟨D, h1.owns, h2⟩
theorem IRange.grown {row : Option Nat} (h : IRange P k q w b r n f left cnt) (hg : w.grownBy w' row) (hb : some b ≠ row) (hr : some r ≠ row) : IRange P k q w' b r n f left cnt := by
  obtain ⟨D, L, h1, h2⟩ := h; exact ⟨D, L, h1.kept hg hb hr, h2⟩
theorem IRange.lt (h : IRange P k q w b r n f left cnt) : r < w.heap.size := by obtain ⟨D, L, h1, h2⟩ := h; exact h1.lt
theorem IRange.ne (h : IRange P k q w b r n f left cnt) : r ≠ b := by obtain ⟨D, L, h1, h2⟩ := h; exact h1.ne
theorem IRange.same (h : IRange P k q w b r n f left cnt) (hb : w'.heap[b]? = w.heap[b]?) (hr : w'.heap[r]? = w.heap[r]?) : IRange P k q w' b r n f left cnt := by
  obtain ⟨D, L, ⟨es, clock, since, seen, c0, h1, h2, h3, h4, h5, h6⟩, h7⟩ := h
  exact ⟨D, L, ⟨es, clock, since, seen, c0, hb.trans h1, h2, h3, h4, hr.trans h5, h6⟩, h7⟩
theorem IRange.keep (h : IRange P k q w b r n f left cnt) (hx : Below w.heap.size w w') : IRange P k q w' b r n f left cnt := h.same (hx.block b h.map.lt) (hx.block r h.lt)
theorem IRange.was (h : IRange P k q w b r n f left cnt) {x : Int} (hx : left x = true) : ∃ v, f x = some v := by
  obtain ⟨D, L, _, _, _, h4⟩ := h
  exact Option.isSome_iff_exists.1 (h4 x hx).1
/-- 'range m'. -/
theorem IMap.range (h : IMap P k q w b n f) (hk : P.underlying k = some (.int q)) (ht : P.underlying t = some (.map k e)) :
    ∃ w' cnt, (Instr.range t (.map (some b))).run P w = .ok (.pointer (some ⟨w.heap.size, 0, none⟩)) w' ∧ IRange P k q w' b w.heap.size n f (fun x => (f x).isSome) cnt ∧ w.grownBy w' none ∧ w'.heap.size = w.heap.size + 1 ∧ cnt ≤ n := by
  obtain ⟨D, h1, h2⟩ := h
  obtain ⟨w', hr, h3, h4, h5⟩ := h1.range (int_keyed hk) ht
  refine ⟨w', _, hr, ⟨D, _, h3, h2, fun x => h2.has_ x, fun x hx => ⟨hx, ?_⟩⟩, h4, h5, h1.size_le⟩
  obtain ⟨es, clock, hb, F, _, rfl⟩ := h1
  have hx : (f x).isSome = true := hx
  rw [← h2.has_] at hx
  obtain ⟨p, hp, hpk⟩ := List.any_eq_true.1 hx
  obtain ⟨y, hy, rfl⟩ := List.mem_map.1 (mem_sorted.1 hp)
  obtain ⟨z, hz⟩ := F.reads y hy
  have e := WideAt.sameKey_eq hpk
  rw [WideElems.rg_of hz] at e
  obtain ⟨x', _, e2, hw⟩ := keyOf_int_inv hk (e ▸ WideElems.rd_key hz)
  injection e2 with _ e2
  rw [e2]; exact hw
/-- THE STEP. -/
theorem IRange.next (h : IRange P k q w b r n f left cnt) (hk : P.underlying k = some (.int q)) (ty : TypeId) :
    ((∀ x, left x = false) ∧ (Instr.next (.pointer (some ⟨r, 0, none⟩)) false ty).run P w = .ok (.tuple #[.bool false]) w) ∨
    ∃ x v w' cnt', left x = true ∧ f x = some v ∧ (Lit.int q x).wf = true ∧ (Instr.next (.pointer (some ⟨r, 0, none⟩)) false ty).run P w = .ok (.tuple #[.bool true, .int q x, v]) w' ∧
      IRange P k q w' b r n f (fun y => left y && y != x) cnt' ∧ cnt' < cnt ∧ w.grownBy w' (some r) ∧ w'.heap.size = w.heap.size ∧ (Instr.entry (.pointer (some ⟨r, 0, none⟩))).run P w' = .ok (.tuple #[.int q x, v]) w' := by
  obtain ⟨D, L, h1, h2, h3, h4⟩ := h
  rcases h1.next (int_keyed hk) ty with ⟨_, hl, hrun⟩ | ⟨key, v, kl, y, w', cnt', hkey, hlk, hv, hat, hrun, hrg, hlt, hgr, hsz, hen⟩
  · exact .inl ⟨fun x => by rw [← h3]; exact hl _, hrun⟩
  · obtain ⟨x, rfl, rfl, hw⟩ := keyOf_int_inv hk hkey
    unfold selfR at hv
    simp only [Option.some.injEq] at hv
    subst hv
    have hl : left x = true := by rw [← h3]; exact hlk
    obtain ⟨v', hv'⟩ := Option.isSome_iff_exists.1 (h4 x hl).1
    have e : (DataW.held v : DataW Value) = .held v' := (hat .nil).symm.trans (((h2 x).1 v' hv').2 .nil)
    injection e with e
    subst e
    refine .inr ⟨x, v, w', cnt', hl, hv', hw, hrun, ⟨D, _, hrg, h2, fun y => ?_, fun y hy => h4 y (by rw [Bool.and_eq_true] at hy; exact hy.1)⟩, hlt, hgr, hsz, hen⟩
    show (L (.int q y) && !(Lit.int q y).sameKey (.int q x)) = (left y && y != x)
    rw [h3 y]
    by_cases e : y = x
    · subst e; rw [WideAt.sameKey_self (show WideAt.IsKeyLit (.int q y) from trivial)]; simp
    · rw [sameKey_ne (lit_ne e)]; simp [e]
/-- 'delete(m, x)' in the round. -/
theorem IRange.drop (h : IRange P k q w b r n f left cnt) (hk : P.underlying k = some (.int q)) (ht : P.underlying t = some (.map k e)) {x : Int} (hx : (Lit.int q x).wf = true) (ty : TypeId) :
    ∃ w' cnt', (Builtin.delete_ #[t, k] ty #[.map (some b), .int q x]).run P w = .ok (.tuple #[]) w' ∧ IRange P k q w' b r n (delF f x) (fun y => left y && y != x) cnt' ∧ cnt' ≤ cnt ∧ w.mapTurned w' b := by
  obtain ⟨D, L, h1, h2, h3, h4⟩ := h
  obtain ⟨w', cnt', hr, h5, h6, h7⟩ := h1.drop (int_keyed hk) ht (keyOf_int_mk hk hx) ty
  refine ⟨w', cnt', hr, ⟨_, _, h5, h2.del x, fun y => ?_, fun y hy => ?_⟩, h6, h7⟩
  · show (L (.int q y) && !(Lit.int q y).sameKey (.int q x)) = (left y && y != x)
    rw [h3 y]
    by_cases e : y = x
    · subst e; rw [WideAt.sameKey_self (show WideAt.IsKeyLit (.int q y) from trivial)]; simp
    · rw [sameKey_ne (lit_ne e)]; simp [e]
  · simp only [Bool.and_eq_true, bne_iff_ne] at hy
    unfold delF
    rw [if_neg hy.2]
    exact h4 y hy.1
end
/-! At the operations. -/
section
variable {P : Program} (w : World) {ops : Array Oper} {rest : List Oper} {o : Oper} {a : Act} {Q : Exit → Act → World → Prop}
theorem wpList_look_i (hg : o.guard = none) (m x : Operand) (t : TypeId) (hop : o.op = Op.lookup t m x false) (k e : TypeId) (q : IntKind) (hk : P.underlying k = some (.int q)) (ht : P.underlying t = some (.map k e)) {z : Value} (hz : (zeroValue e).run P w = .ok z w)
    (b n : Nat) (f : Int → Option Value) (hm : a.eval m = .map (some b)) (h : IMap P k q w b n f) (y : Int) (hx : a.eval x = .int q y) (hw : (Lit.int q y).wf = true)
    (hK : wpList P ops Q rest (a.put o.dst ((f y).getD z)) w) : wpList P ops Q (o :: rest) a w := by
  refine wpList_plain hg fun K' hK' => ?_
  unfold Oper.wp
  simp [execOp, hop, hm, hx, h.look hk ht hz hw, Result.andThen]
  exact hK' _ _ hK
theorem wpList_look_iv (hg : o.guard = none) (m x : Operand) (t : TypeId) (hop : o.op = Op.lookup t m x false) (k e : TypeId) (q : IntKind) (hk : P.underlying k = some (.int q)) (ht : P.underlying t = some (.map k e)) {z : Value} (hz : (zeroValue e).run P w = .ok z w)
    (b n : Nat) (f : Int → Option Value) (hm : a.eval m = .map (some b)) (h : IMap P k q w b n f) (y : Int) (hx : a.eval x = .int q y) (hw : (Lit.int q y).wf = true) (v : Value) (hv : (f y).getD z = v)
    (hK : wpList P ops Q rest (a.put o.dst v) w) : wpList P ops Q (o :: rest) a w := by
  subst hv
  exact wpList_look_i w hg m x t hop k e q hk ht hz b n f hm h y hx hw hK
theorem wpList_look_ok_i (hg : o.guard = none) (m x : Operand) (t : TypeId) (hop : o.op = Op.lookup t m x true) (k e : TypeId) (q : IntKind) (hk : P.underlying k = some (.int q)) (ht : P.underlying t = some (.map k e)) {z : Value} (hz : (zeroValue e).run P w = .ok z w)
    (b n : Nat) (f : Int → Option Value) (hm : a.eval m = .map (some b)) (h : IMap P k q w b n f) (y : Int) (hx : a.eval x = .int q y) (hw : (Lit.int q y).wf = true)
    (hK : wpList P ops Q rest (a.put o.dst (.tuple #[(f y).getD z, .bool (f y).isSome])) w) : wpList P ops Q (o :: rest) a w := by
  refine wpList_plain hg fun K' hK' => ?_
  unfold Oper.wp
  simp [execOp, hop, hm, hx, h.look_ok hk ht hz hw, Result.andThen]
  exact hK' _ _ hK
theorem wpList_put_i (hg : o.guard = none) (m x v : Operand) (t : TypeId) (hop : o.op = Op.mapUpdate t m x v) (k e : TypeId) (q : IntKind) (hk : P.underlying k = some (.int q)) (ht : P.underlying t = some (.map k e))
    (b n : Nat) (f : Int → Option Value) (hm : a.eval m = .map (some b)) (h : IMap P k q w b n f) (hn : n < maxLen) (y : Int) (u : Value) (hx : a.eval x = .int q y) (hv : a.eval v = u) (hw : (Lit.int q y).wf = true)
    (hK : ∀ w', IMap P k q w' b (n + 1) (putF f y u) → w.mapTurned w' b → wpList P ops Q rest (a.put o.dst undef) w') : wpList P ops Q (o :: rest) a w := by
  refine wpList_plain hg fun K' hK' => ?_
  obtain ⟨w', hr, h1, h2⟩ := h.store hk ht hn hw u
  unfold Oper.wp
  simp [execOp, hop, hm, hx, hv, hr, Result.andThen]
  exact hK' _ _ (hK w' h1 h2)
theorem wpList_range_i (hg : o.guard = none) (m : Operand) (t : TypeId) (hop : o.op = Op.range t m) (k e : TypeId) (q : IntKind) (hk : P.underlying k = some (.int q)) (ht : P.underlying t = some (.map k e))
    (b n : Nat) (f : Int → Option Value) (hm : a.eval m = .map (some b)) (h : IMap P k q w b n f)
    (hK : ∀ w' cnt, IRange P k q w' b w.heap.size n f (fun x => (f x).isSome) cnt → w.grownBy w' none → w'.heap.size = w.heap.size + 1 → cnt ≤ n → wpList P ops Q rest (a.put o.dst (.pointer (some ⟨w.heap.size, 0, none⟩))) w') : wpList P ops Q (o :: rest) a w := by
  refine wpList_plain hg fun K' hK' => ?_
  obtain ⟨w', cnt, hr, h1, h2, h3, h4⟩ := h.range hk ht
  unfold Oper.wp
  simp [execOp, hop, hm, hr, Result.andThen]
  exact hK' _ _ (hK w' cnt h1 h2 h3 h4)
/-- THE STEP: mkV says the elements' shape. -/
theorem wpList_next_i {β : Type} (hg : o.guard = none) (it : Operand) (hop : o.op = Op.next it false) (k : TypeId) (q : IntKind) (hk : P.underlying k = some (.int q)) (mkV : β → Value) (b r n : Nat) (f : Int → Option Value) (hV : ∀ x v, f x = some v → ∃ c, v = mkV c)
    (left : Int → Bool) (cnt : Nat) (hit : a.eval it = .pointer (some ⟨r, 0, none⟩)) (h : IRange P k q w b r n f left cnt)
    (hDone : (∀ x, left x = false) → wpList P ops Q rest (a.put o.dst (.tuple #[.bool false])) w)
    (hMore : ∀ (x : Int) (c : β) (w' : World) (cnt' : Nat), left x = true → f x = some (mkV c) → (Lit.int q x).wf = true → IRange P k q w' b r n f (fun y => left y && y != x) cnt' → cnt' < cnt → w.grownBy w' (some r) → w'.heap.size = w.heap.size →
      (Instr.entry (.pointer (some ⟨r, 0, none⟩))).run P w' = .ok (.tuple #[.int q x, mkV c]) w' → wpList P ops Q rest (a.put o.dst (.tuple #[.bool true, .int q x, mkV c])) w') : wpList P ops Q (o :: rest) a w := by
  refine wpList_plain hg fun K' hK' => ?_
  unfold Oper.wp
  rcases h.next hk o.type with ⟨hl, hr⟩ | ⟨x, v, w', cnt', h1, h2, h3, hr, h4, h5, h6, h7, h8⟩
  · simp [execOp, hop, hit, hr, Result.andThen]
    exact hK' _ _ (hDone hl)
  · obtain ⟨c, rfl⟩ := hV x v h2
    simp [execOp, hop, hit, hr, Result.andThen]
    exact hK' _ _ (hMore x c w' cnt' h1 h2 h3 h4 h5 h6 h7 h8)
theorem wpList_drop_i (hg : o.guard = none) (m x : Operand) (t k : TypeId) (hop : o.op = Op.call { callee := Callee.builtin Builtin.delete, args := #[m, x], argTypes := #[t, k] }) (e : TypeId) (q : IntKind) (hk : P.underlying k = some (.int q)) (ht : P.underlying t = some (.map k e))
    (b r n : Nat) (f : Int → Option Value) (left : Int → Bool) (cnt : Nat) (hm : a.eval m = .map (some b)) (h : IRange P k q w b r n f left cnt) (y : Int) (hx : a.eval x = .int q y) (hw : (Lit.int q y).wf = true)
    (hK : ∀ w' cnt', IRange P k q w' b r n (delF f y) (fun z => left z && z != y) cnt' → cnt' ≤ cnt → w.mapTurned w' b → wpList P ops Q rest (a.put o.dst (.tuple #[])) w') : wpList P ops Q (o :: rest) a w := by
  refine wpList_plain hg fun K' hK' => ?_
  obtain ⟨w', cnt', hr, h1, h2, h3⟩ := h.drop hk ht hw o.type
  unfold Oper.wp
  simp [execOp, hop, resolve, invoke, builtin, hm, hx, hr, Result.andThen]
  exact hK' _ _ (hK w' cnt' h1 h2 h3)
end
end Go.Proofs.Ytcpfekhpbjkgeaa
end
section
/- Rows of any shape that a call owns. -/
set_option linter.unusedVariables false
namespace Go.Proofs.Ytcpfekhpbjkgeaa
open Go.RowKit
section
variable {α : Type} {C : Shape α} {w w' : World} {B n c : Nat} {e : TypeId} {s : Nat} {v : Value} {A : Option Addr} {l : List α} {xs : List Value}
theorem ownK_sl (h : w.ownsRow B e s v n xs) : ∃ A c, v = .slice A n c := by
  rcases h.2 with ⟨rfl, rfl⟩ | ⟨g, cap, cur, rfl, _⟩
  · exact ⟨none, 0, rfl⟩
  · exact ⟨_, _, rfl⟩
theorem ownK_len (h : w.ownsRow B e C.size v n (C.flat l)) : l.length = n := by
  have := h.1
  rw [C.flat_len] at this
  exact Nat.eq_of_mul_eq_mul_right C.pos this
theorem ownK_cap (h : w.ownsRow B e s (.slice A n c) n xs) : n ≤ c ∧ c ≤ 9223372036854775807 := by
  rcases h.2 with ⟨h1, _⟩ | ⟨g, cap, a, h1, hb, hg, h2, h3, h4, h5⟩
  · cases h1; omega
  · cases h1; unfold maxLen at h3; omega
theorem ownK_reads (h : w.ownsRow B e s (.slice A n c) n xs) : Reads w w.heap.size s A n xs := by
  refine ⟨h.1, fun hn => ?_⟩
  rcases h.2 with ⟨h1, _⟩ | ⟨g, cap, a, h1, _, hg, _, _, h4, h5⟩
  · cases h1; omega
  · cases h1
    refine ⟨_, rfl, (Array.getElem?_eq_some_iff.1 hg).1, fun j u hu => ?_⟩
    have h2 : (⟨g, 0, none⟩ : Addr).add j = ⟨g, j, none⟩ := by unfold Addr.add; split <;> simp_all
    rw [h2]
    rw [← h5] at hu
    simp only [World.cell?, hg]
    rcases Nat.lt_or_ge j (n * s) with hj | hj
    · rw [List.getElem?_take_of_lt hj, Array.getElem?_toList] at hu; exact hu
    · rw [List.getElem?_take_eq_none hj] at hu; cases hu
theorem ownK_row (h : w.ownsRow B e C.size (.slice A n c) n (C.flat l)) (hwf : ∀ x ∈ l, C.Wf x) (hr : n ≤ 8796093021952) : IsRow C w A n c l :=
  ⟨ownK_reads h, ownK_len h, (ownK_cap h).1, (ownK_cap h).2, hr, hwf⟩
theorem ownK_keep (h : w.ownsRow B e s v n xs) (hx : Below w.heap.size w w') : w'.ownsRow B e s v n xs := by
  refine ⟨h.1, ?_⟩
  rcases h.2 with hn | ⟨g, cap, cur, rfl, hb, hg, rest⟩
  · exact .inl hn
  · exact .inr ⟨g, cap, cur, rfl, hb, (hx.block g (Array.getElem?_eq_some_iff.1 hg).1).trans hg, rest⟩
theorem ownK_mod {D : Nat → Prop} (h : w.ownsRow B e s v n xs) (hx : Mod D w w') (hn : ∀ g, v.ownBlock = some g → ¬ D g) : w'.ownsRow B e s v n xs := by
  refine ⟨h.1, ?_⟩
  rcases h.2 with h0 | ⟨g, cap, cur, rfl, hb, hg, rest⟩
  · exact .inl h0
  · exact .inr ⟨g, cap, cur, rfl, hb, (hx.block g (Array.getElem?_eq_some_iff.1 hg).1 (hn g rfl)).trans hg, rest⟩
theorem ownK_low (h : w.ownsRow B e s (.slice A n c) n xs) : ∀ ad, A = some ad → B ≤ ad.block ∧ ad.block < w.heap.size := fun ad e1 => by
  rcases h.2 with ⟨h1, _⟩ | ⟨g, cap, a, h1, hb, hg, _⟩
  · cases h1; cases e1
  · cases h1; cases e1; exact ⟨hb, (Array.getElem?_eq_some_iff.1 hg).1⟩
theorem IsRow.modK {D : Nat → Prop} (h : IsRow C w A n c l) (hx : Mod D w w') (hn : ∀ ad, A = some ad → 0 < n → ¬ D ad.block) : IsRow C w' A n c l := by
  refine ⟨⟨h.reads.1, fun h0 => ?_⟩, h.len, h.cap, h.small, h.reach, h.wf⟩
  obtain ⟨ad, e, hb, hc⟩ := h.reads.2 h0
  exact ⟨ad, e, Nat.lt_of_lt_of_le hb hx.size, fun j u hu => cella_mod (hc j u hu) hx (hn ad e h0)⟩
theorem takeK_next {z : α} {i : Nat} (h : i < l.length) : l.take (i + 1) = l.take i ++ [l.getD i z] := by
  rw [List.take_add_one, List.getD_eq_getElem?_getD, List.getElem?_eq_getElem h]; rfl
end
theorem belowK_grown {B : Nat} {w w1 w2 : World} {row : Option Nat} (h : Below B w w1) (hB : B ≤ w1.heap.size) (hg : w1.grownBy w2 row) (hr : ∀ g, row = some g → B ≤ g) : Below B w w2 :=
  h.trans ⟨hg.os, hg.tape, hg.output, hg.size, fun i hi => hg.block i (by omega) (fun e => by have := hr i e.symm; omega)⟩
theorem modK_grown {D : Nat → Prop} {w w' : World} {row : Option Nat} (h : w.grownBy w' row) (hr : ∀ g, row = some g → D g) : Mod D w w' :=
  ⟨h.os, h.tape, h.output, h.size, fun i hi hn => h.block i hi (fun e => hn (hr i e.symm))⟩
theorem ownK_at {v v' : Value} {m : Nat} (h : v'.ownBlock = v.ownBlock ∨ v'.ownBlock = some m) {g : Nat} (hg : v'.ownBlock = some g) : v.ownBlock = some g ∨ m ≤ g := by
  rcases h with h | h
  · exact .inl (h ▸ hg)
  · rw [h] at hg; cases hg; exact .inr (Nat.le_refl _)
theorem readsK_new (w : World) (T : TypeId) (size : Nat) (cs : List Value) (h : cs.length = size) : Reads (w.alloc (.cells ⟨cs⟩ T)) (w.alloc (.cells ⟨cs⟩ T)).heap.size size (some ⟨w.heap.size, 0, none⟩) 1 cs :=
  ⟨by omega, fun _ => ⟨_, rfl, by simp, fun j u hu => by
    have e : (⟨w.heap.size, 0, none⟩ : Addr).add j = ⟨w.heap.size, j, none⟩ := by unfold Addr.add; split <;> simp_all
    rw [e, (Blk.new w T ⟨cs⟩).cell j]
    simpa using hu⟩⟩
theorem rowK_not {e : TypeId} {s m b : Nat} {w : World} {v : Value} {xs : List Value} {B : Nat} {cs : Array Value} {T : TypeId} (P : Blk w b T cs) (h : w.ownsRow B e s v m xs) (hne : e ≠ T) : v.ownBlock ≠ some b := by
  rcases h.2 with ⟨rfl, _⟩ | ⟨g, cap, cur, rfl, _, hg, _⟩
  · simp [Value.ownBlock]
  · intro e1
    simp only [Value.ownBlock, Option.some.injEq] at e1
    subst e1
    unfold Blk at P
    rw [hg] at P
    injection P with P
    injection P with _ P
    exact hne P
end Go.Proofs.Ytcpfekhpbjkgeaa
end
section
/- A board in memory. -/
set_option linter.unusedVariables false
namespace Go.Proofs.Ytcpfekhpbjkgeaa
open Go.RowKit Go.Maps
set_option maxHeartbeats 8000000
set_option maxRecDepth 100000
/-- A host, and its block. -/
structure Hg where
  up : Bool
  asked : Bool
  row : Int
  b : Nat
/-- A rule. -/
structure Rul where
  every : Int
  timeout : Int
  rise : Int
  fall : Int
/-- A board: its blocks, its wheel's list, its hosts by their numbers. -/
structure Bd where
  bb : Nat
  wb : Nat
  mb : Nat
  n : Nat
  V : Nat → Value
  l : List It
  now : Int
  r : Rul
  G : Int → Option Hg
def hPtr (h : Hg) : Value := .pointer (some ⟨h.b, 0, none⟩)
def ptrF (G : Int → Option Hg) : Int → Option Value := fun i => (G i).map hPtr
def Hg.cells (h : Hg) : Array Value := #[.bool h.up, .bool h.asked, .int .i64 h.row]
def Bd.cells (s : Bd) : Array Value := #[.pointer (some ⟨s.wb, 0, none⟩), .int .i64 s.r.every, .int .i64 s.r.timeout, .int .i64 s.r.rise, .int .i64 s.r.fall, .map (some s.mb)]
structure IsBoard (w : World) (B : Nat) (s : Bd) : Prop where
  blk : Blk w s.bb 83 s.cells
  lowb : B ≤ s.bb
  lowm : B ≤ s.mb
  wh : WheelIs w B s.wb s.V s.l s.now
  map : IMap Try.prog 3 .i64 w s.mb s.n (ptrF s.G)
  host : ∀ i h, s.G i = some h → Blk w h.b 72 h.cells ∧ B ≤ h.b ∧ I64 h.row
  inj : ∀ i j h k, s.G i = some h → s.G j = some k → h.b = k.b → i = j
  keys : ∀ i h, s.G i = some h → 0 ≤ i ∧ i ≤ 1048576
/-- The blocks of a board. -/
def bIn (s : Bd) (g : Nat) : Prop := g = s.bb ∨ wIn s.wb s.V g ∨ g = s.mb ∨ ∃ i h, s.G i = some h ∧ g = h.b
def updG (G : Int → Option Hg) (i : Int) (h : Hg) : Int → Option Hg := fun j => if j = i then some h else G j
def cutG (G : Int → Option Hg) (i : Int) : Int → Option Hg := fun j => if j = i then none else G j
theorem ptrF_upd (G : Int → Option Hg) (i : Int) (h : Hg) : ptrF (updG G i h) = putF (ptrF G) i (hPtr h) := by
  funext j; unfold ptrF updG putF; by_cases e : j = i <;> simp [e]
theorem ptrF_cut (G : Int → Option Hg) (i : Int) : ptrF (cutG G i) = delF (ptrF G) i := by
  funext j; unfold ptrF cutG delF; by_cases e : j = i <;> simp [e]
/-- A host turned where it lies. -/
theorem ptrF_turn {G : Int → Option Hg} {i : Int} {h k : Hg} (hi : G i = some h) (e : k.b = h.b) : ptrF (updG G i k) = ptrF G := by
  funext j
  unfold ptrF updG
  by_cases c : j = i
  · subst c; rw [if_pos rfl, hi]; simp [hPtr, e]
  · rw [if_neg c]
section
variable {w w' : World} {B : Nat} {s : Bd}
theorem IsBoard.keep (h : IsBoard w B s) (hx : Below w.heap.size w w') : IsBoard w' B s :=
  ⟨h.blk.keep hx, h.lowb, h.lowm, h.wh.keep hx, h.map.keep hx, fun i k hk => ⟨(h.host i k hk).1.keep hx, (h.host i k hk).2⟩, h.inj, h.keys⟩
theorem IsBoard.lt (h : IsBoard w B s) {g : Nat} (hg : bIn s g) : B ≤ g ∧ g < w.heap.size := by
  rcases hg with rfl | hg | rfl | ⟨i, k, hk, rfl⟩
  · exact ⟨h.lowb, h.blk.lt⟩
  · exact h.wh.lt hg
  · exact ⟨h.lowm, h.map.lt⟩
  · exact ⟨(h.host i k hk).2.1, (h.host i k hk).1.lt⟩
theorem IsBoard.below (h : IsBoard w B s) {m : Nat} (hm : m ≤ B) (hx : Mod (bIn s) w w') : Below m w w' :=
  ⟨hx.os, hx.tape, hx.output, hx.size, fun i hi => hx.block i (by have := (h.lt (.inl rfl)); omega) (fun hg => by have := (h.lt hg).1; omega)⟩
/-- What a call leaves of a board. -/
def BdTo (w w' : World) (B : Nat) (s s' : Bd) : Prop := IsBoard w' B s' ∧ Mod (bIn s) w w' ∧ ∀ g, bIn s' g → bIn s g ∨ w.heap.size ≤ g
theorem BdTo.same (h : IsBoard w B s) (hx : Below w.heap.size w w') : BdTo w w' B s s := ⟨h.keep hx, Mod.of_below hx, fun g hg => .inl hg⟩
theorem BdTo.trans {w'' : World} {s' s'' : Bd} (h : BdTo w w' B s s') (k : BdTo w' w'' B s' s'') : BdTo w w'' B s s'' := by
  obtain ⟨h1, h2, h3⟩ := h
  obtain ⟨k1, k2, k3⟩ := k
  refine ⟨k1, ⟨k2.os.trans h2.os, k2.tape.trans h2.tape, k2.output.trans h2.output, Nat.le_trans h2.size k2.size, fun g hg hn => (k2.block g (Nat.lt_of_lt_of_le hg h2.size) (fun hh => ?_)).trans (h2.block g hg hn)⟩, fun g hg => ?_⟩
  · rcases h3 g hh with h4 | h4
    · exact hn h4
    · omega
  · rcases k3 g hg with h4 | h4
    · exact h3 g h4
    · exact .inr (Nat.le_trans h2.size h4)
theorem map_notcells {b n : Nat} {f : Int → Option Value} {T : TypeId} {cs : Array Value} {g : Nat} (h : IMap Try.prog 3 .i64 w b n f) (k : Blk w g T cs) : b ≠ g := by
  rintro rfl
  obtain ⟨D, ⟨es, clock, hb, _⟩, _⟩ := h
  unfold Blk at k
  rw [hb] at k; cases k
theorem wheel_notmap {b n : Nat} {f : Int → Option Value} (hw : WheelIs w B s.wb s.V s.l s.now) (h : IMap Try.prog 3 .i64 w b n f) : ¬ wIn s.wb s.V b := by
  rintro (rfl | ⟨k, hk, hg⟩)
  · obtain ⟨S, hS, _⟩ := hw.ex
    exact map_notcells h hS.blk rfl
  · obtain ⟨S, hS, _⟩ := hw.ex
    have ho := hS.row k hk
    obtain ⟨D, ⟨es, clock, hb, _⟩, _⟩ := h
    rcases ho.2 with ⟨e, _⟩ | ⟨g, cap, cur, e, _, hg2, _⟩
    · rw [e] at hg; cases hg
    · rw [e] at hg
      simp only [Value.ownBlock, Option.some.injEq] at hg
      subst hg
      rw [hb] at hg2; cases hg2
theorem wheel_notblk {T : TypeId} {cs : Array Value} {g : Nat} (hw : WheelIs w B s.wb s.V s.l s.now) (k : Blk w g T cs) (h1 : T ≠ 27) (h2 : 31 ≠ T) : ¬ wIn s.wb s.V g := by
  rintro (rfl | ⟨j, hj, hg⟩)
  · obtain ⟨S, hS, _⟩ := hw.ex
    exact k.ne_ hS.blk h1 rfl
  · obtain ⟨S, hS, _⟩ := hw.ex
    exact rowK_not k (hS.row j hj) h2 hg
end
end Go.Proofs.Ytcpfekhpbjkgeaa
end
section
/- A board's small calls: ask, late, none, hear. -/
set_option linter.unusedVariables false
namespace Go.Proofs.Ytcpfekhpbjkgeaa
open Go.RowKit Go.Maps
set_option maxHeartbeats 8000000
set_option maxRecDepth 100000
def IdOk (i : Int) : Prop := -4611686018427387904 ≤ i ∧ i ≤ 4611686018427387902
theorem health_ask (i : Int) (hi : IdOk i) (w : World) : Calls Try.prog 61 #[.int .i64 i] w fun e w' => e = .returned (.int .i64 (2 * i + 1)) ∧ w = w' := by
  unfold IdOk at hi
  have w1 : IntKind.i64.wrap (2 * i) = 2 * i := by rw [IntKind.wrap_i64]; omega
  have w2 : IntKind.i64.wrap (2 * i + 1) = 2 * i + 1 := by rw [IntKind.wrap_i64]; omega
  go_enter Try.func61, Try.ntmps61
  go_wp2
  go_ret
  exact ⟨rfl, rfl⟩
theorem health_late (i : Int) (hi : IdOk i) (w : World) : Calls Try.prog 62 #[.int .i64 i] w fun e w' => e = .returned (.int .i64 (2 * i)) ∧ w = w' := by
  unfold IdOk at hi
  have w1 : IntKind.i64.wrap (2 * i) = 2 * i := by rw [IntKind.wrap_i64]; omega
  go_enter Try.func62, Try.ntmps62
  go_wp2
  go_ret
  exact ⟨rfl, rfl⟩
theorem eql_map_nil (m : Option Nat) (w : World) : (binOp .eql 81 (.map m) (.map none)).run Try.prog w = .ok (.bool m.isNone) w := by
  have h := run_equal_map_nil (P := Try.prog) (w := w) _ _ _ m Try.underlying81
  show ((Op.equal 81 (.map m) (.map none) >>= fun b => pure (.bool b) : Sem Value)).run Try.prog w = _
  rw [Sem.run_bind, h]; rfl
theorem board_none {w : World} {B : Nat} {s : Bd} (h : IsBoard w B s) : Calls Try.prog 59 #[.pointer (some ⟨s.bb, 0, none⟩)] w fun e w' => e = .returned (.bool false) ∧ w = w' := by
  obtain ⟨c0, c1, c2, c3, c4, c5, _⟩ := h.blk.cells6
  have hq := fun w => eql_map_nil (some s.mb) w
  go_enter Try.func59, Try.ntmps59
  go_wp2
  go_ret
  exact ⟨rfl, rfl⟩
theorem board_noneNil (w : World) : Calls Try.prog 59 #[.pointer none] w fun e w' => e = .returned (.bool true) ∧ w = w' := by
  go_enter Try.func59, Try.ntmps59
  go_wp2
  go_ret
  exact ⟨rfl, rfl⟩
/-- A board that nobody made. -/
def zeroBoard : Array Value := #[.pointer none, .int .i64 0, .int .i64 0, .int .i64 0, .int .i64 0, .map none]
theorem board_noneZero {w : World} {b : Nat} (h : Blk w b 83 zeroBoard) : Calls Try.prog 59 #[.pointer (some ⟨b, 0, none⟩)] w fun e w' => e = .returned (.bool true) ∧ w = w' := by
  obtain ⟨c0, c1, c2, c3, c4, c5, _⟩ := h.cells6
  have hq := fun w => eql_map_nil none w
  go_enter Try.func59, Try.ntmps59
  go_wp2
  go_ret
  exact ⟨rfl, rfl⟩
/-- What hearing an answer makes of a host, and whether it turned. -/
def hearG (r : Rul) (h : Hg) (ok : Bool) : Hg :=
  if ok = h.up then ⟨h.up, false, 0, h.b⟩ else if h.row + 1 < (if ok then r.rise else r.fall) then ⟨h.up, false, h.row + 1, h.b⟩ else ⟨ok, false, 0, h.b⟩
def hearT (r : Rul) (h : Hg) (ok : Bool) : Bool := if ok = h.up then false else if h.row + 1 < (if ok then r.rise else r.fall) then false else true
theorem hearG_b (r : Rul) (h : Hg) (ok : Bool) : (hearG r h ok).b = h.b := by
  unfold hearG
  by_cases c : ok = h.up
  · rw [if_pos c]
  · rw [if_neg c]
    by_cases d : h.row + 1 < (if ok then r.rise else r.fall)
    · rw [if_pos d]
    · rw [if_neg d]
theorem board_hear {w : World} {B : Nat} {s : Bd} (hB : IsBoard w B s) {i : Int} {h : Hg} (hi : s.G i = some h) (hr : h.row < 4611686018427387904) (ok : Bool) :
    Calls Try.prog 63 #[.pointer (some ⟨s.bb, 0, none⟩), .pointer (some ⟨h.b, 0, none⟩), .bool ok] w fun e w' => e = .returned (.bool (hearT s.r h ok)) ∧ Blk w' h.b 72 (hearG s.r h ok).cells ∧ Mod (fun g => g = h.b) w w' := by
  obtain ⟨c0, c1, c2, c3, c4, c5, _⟩ := hB.blk.cells6
  have PH := (hB.host i h hi).1
  have hrow := (hB.host i h hi).2.2
  have hne : s.bb ≠ h.b := hB.blk.ne_ PH (by decide)
  unfold I64 at hrow
  obtain ⟨p0, p1, p2, _⟩ := PH.cells3
  obtain ⟨f0, f1, f2⟩ := PH.free3
  have w1 : IntKind.i64.wrap (h.row + 1) = h.row + 1 := by rw [IntKind.wrap_i64]; omega
  have HG := Lib.hid (show hearG s.r h ok = if ok = h.up then ⟨h.up, false, 0, h.b⟩ else if h.row + 1 < (if ok then s.r.rise else s.r.fall) then ⟨h.up, false, h.row + 1, h.b⟩ else ⟨ok, false, 0, h.b⟩ from rfl)
  have HT := Lib.hid (show hearT s.r h ok = if ok = h.up then false else if h.row + 1 < (if ok then s.r.rise else s.r.fall) then false else true from rfl)
  have HPH := Lib.hid PH
  generalize hearG s.r h ok = G at *
  generalize hearT s.r h ok = T at *
  obtain ⟨hu, ha, hw, hb⟩ := h
  dsimp only at *
  generalize s.bb = bb at *
  generalize s.wb = wb at *
  generalize s.mb = mb at *
  generalize s.r = r at *
  obtain ⟨re, rt, rr, rf⟩ := r
  dsimp only at *
  clear hB hi hrow PH
  go_enter Try.func63, Try.ntmps63
  by_cases c : ok = hu
  · have g1 : (ok == hu) = true := by simp [c]
    have HC := Lib.hid c
    have hG : G = ⟨hu, false, 0, hb⟩ := by rw [HG.out, if_pos c]
    have hT : T = false := by rw [HT.out, if_pos c]
    have HG2 := Lib.hid hG
    have HT2 := Lib.hid hT
    clear c hG hT HG HT
    go_wp2
    go_ret
    refine ⟨by rw [HT2.out]; rfl, ?_, ((Mod.refl (fun g => g = hb) _).setCell (p := ⟨hb, 1, none⟩) (.inl (show hb = hb from rfl)) _).setCell (p := ⟨hb, 2, none⟩) (.inl (show hb = hb from rfl)) _⟩
    rw [HG2.out]
    exact (HPH.out.setTo 1 _ (ds := #[.bool hu, .bool false, .int .i64 hw]) rfl).setTo 2 _ rfl
  · have g1 : (ok == hu) = false := by simp [c]
    cases ok with
    | true =>
      by_cases d : hw + 1 < rr
      · have hG : G = ⟨hu, false, hw + 1, hb⟩ := by rw [HG.out, if_neg c, if_pos (show hw + 1 < (if true = true then rr else rf) from d)]
        have hT : T = false := by rw [HT.out, if_neg c, if_pos (show hw + 1 < (if true = true then rr else rf) from d)]
        have HG2 := Lib.hid hG
        have HT2 := Lib.hid hT
        clear c hG hT HG HT
        go_wp2
        go_ret
        refine ⟨by rw [HT2.out]; rfl, ?_, ((Mod.refl (fun g => g = hb) _).setCell (p := ⟨hb, 1, none⟩) (.inl (show hb = hb from rfl)) _).setCell (p := ⟨hb, 2, none⟩) (.inl (show hb = hb from rfl)) _⟩
        rw [HG2.out]
        exact (HPH.out.setTo 1 _ (ds := #[.bool hu, .bool false, .int .i64 hw]) rfl).setTo 2 _ rfl
      · have hG : G = ⟨true, false, 0, hb⟩ := by rw [HG.out, if_neg c, if_neg (show ¬ hw + 1 < (if true = true then rr else rf) from d)]
        have hT : T = true := by rw [HT.out, if_neg c, if_neg (show ¬ hw + 1 < (if true = true then rr else rf) from d)]
        have HG2 := Lib.hid hG
        have HT2 := Lib.hid hT
        clear c hG hT HG HT
        go_wp2
        go_ret
        refine ⟨by rw [HT2.out]; rfl, ?_, ((((Mod.refl (fun g => g = hb) _).setCell (p := ⟨hb, 1, none⟩) (.inl (show hb = hb from rfl)) _).setCell (p := ⟨hb, 2, none⟩) (.inl (show hb = hb from rfl)) _).setCell (p := ⟨hb, 0, none⟩) (.inl (show hb = hb from rfl)) _).setCell (p := ⟨hb, 2, none⟩) (.inl (show hb = hb from rfl)) _⟩
        rw [HG2.out]
        exact (((HPH.out.setTo 1 _ (ds := #[.bool hu, .bool false, .int .i64 hw]) rfl).setTo 2 _ (ds := #[.bool hu, .bool false, .int .i64 (hw + 1)]) rfl).setTo 0 _ (ds := #[.bool true, .bool false, .int .i64 (hw + 1)]) rfl).setTo 2 _ rfl
    | false =>
      by_cases d : hw + 1 < rf
      · have hG : G = ⟨hu, false, hw + 1, hb⟩ := by rw [HG.out, if_neg c, if_pos (show hw + 1 < (if false = true then rr else rf) from d)]
        have hT : T = false := by rw [HT.out, if_neg c, if_pos (show hw + 1 < (if false = true then rr else rf) from d)]
        have HG2 := Lib.hid hG
        have HT2 := Lib.hid hT
        clear c hG hT HG HT
        go_wp2
        go_ret
        refine ⟨by rw [HT2.out]; rfl, ?_, ((Mod.refl (fun g => g = hb) _).setCell (p := ⟨hb, 1, none⟩) (.inl (show hb = hb from rfl)) _).setCell (p := ⟨hb, 2, none⟩) (.inl (show hb = hb from rfl)) _⟩
        rw [HG2.out]
        exact (HPH.out.setTo 1 _ (ds := #[.bool hu, .bool false, .int .i64 hw]) rfl).setTo 2 _ rfl
      · have hG : G = ⟨false, false, 0, hb⟩ := by rw [HG.out, if_neg c, if_neg (show ¬ hw + 1 < (if false = true then rr else rf) from d)]
        have hT : T = true := by rw [HT.out, if_neg c, if_neg (show ¬ hw + 1 < (if false = true then rr else rf) from d)]
        have HG2 := Lib.hid hG
        have HT2 := Lib.hid hT
        clear c hG hT HG HT
        go_wp2
        go_ret
        refine ⟨by rw [HT2.out]; rfl, ?_, ((((Mod.refl (fun g => g = hb) _).setCell (p := ⟨hb, 1, none⟩) (.inl (show hb = hb from rfl)) _).setCell (p := ⟨hb, 2, none⟩) (.inl (show hb = hb from rfl)) _).setCell (p := ⟨hb, 0, none⟩) (.inl (show hb = hb from rfl)) _).setCell (p := ⟨hb, 2, none⟩) (.inl (show hb = hb from rfl)) _⟩
        rw [HG2.out]
        exact (((HPH.out.setTo 1 _ (ds := #[.bool hu, .bool false, .int .i64 hw]) rfl).setTo 2 _ (ds := #[.bool hu, .bool false, .int .i64 (hw + 1)]) rfl).setTo 0 _ (ds := #[.bool false, .bool false, .int .i64 (hw + 1)]) rfl).setTo 2 _ rfl
end Go.Proofs.Ytcpfekhpbjkgeaa
end
