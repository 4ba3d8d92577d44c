/- Lemmas for the claim's proof: Nodes TreePlain AppendAny. -/
import Derived.Deep.Slices
import Derived.Deep.Fields
import Derived.ChangeSame
import Derived.Maps.AppendAt
import Derived.Deep.AppendLies
import Derived.RegionTactic
import Derived.OwnWalk
import Derived.Test.YtblbgafadadbmaaQ02
section
/- Nodes: what one is in memory, slices of them, and both as arguments. -/
set_option linter.unusedVariables false
namespace Go.Proofs.Ytblbgafadadbmaa
open Go.ChangeShapes Go.WideShapes Go.ChangeAt Go.RowKit Go.Deep
structure Nd where
  name : ByteArray
  kind : Int
  above : Int
  weight : Int
  six : Bool
  hi : Int
  lo : Int
instance : Inhabited Nd := ⟨⟨ByteArray.empty, 0, 0, 0, false, 0, 0⟩⟩
/-- The node that nobody made. -/
def nd0 : Nd := ⟨ByteArray.empty, 0, 0, 0, false, 0, 0⟩
def Nd.cells (x : Nd) : List Value := [.string x.name, .int .i64 x.kind, .int .i64 x.above, .int .i64 x.weight, .bool x.six, .int .u64 x.hi, .int .u64 x.lo]
structure Nd.Wf (x : Nd) : Prop where
  name : x.name.size ≤ maxLen
  kind0 : -9223372036854775808 ≤ x.kind
  kind1 : x.kind ≤ 9223372036854775807
  above0 : -9223372036854775808 ≤ x.above
  above1 : x.above ≤ 9223372036854775807
  weight0 : -9223372036854775808 ≤ x.weight
  weight1 : x.weight ≤ 9223372036854775807
  hi0 : 0 ≤ x.hi
  hi1 : x.hi < 18446744073709551616
  lo0 : 0 ≤ x.lo
  lo1 : x.lo < 18446744073709551616
theorem nd0_wf : nd0.Wf := by
  constructor <;> decide
def flat (l : List Nd) : List Value := l.flatMap Nd.cells
theorem Nd.len (x : Nd) : x.cells.length = 7 := rfl
theorem flat_len : ∀ l : List Nd, (flat l).length = l.length * 7
  | [] => rfl
  | x :: l => by
    have := flat_len l
    simp only [flat, List.flatMap_cons, List.length_append, Nd.len, List.length_cons] at this ⊢
    omega
theorem flat_at : ∀ (l : List Nd) (i j : Nat), j < 7 → (flat l)[i * 7 + j]? = (l[i]?).bind fun x => x.cells[j]?
  | [], i, j, _ => by simp [flat]
  | x :: l, 0, j, h => by
    simp only [flat, List.flatMap_cons, Nat.zero_mul, Nat.zero_add, List.getElem?_cons_zero, Option.bind_some]
    rw [List.getElem?_append_left (by rw [Nd.len]; exact h)]
  | x :: l, i + 1, j, h => by
    have := flat_at l i j h
    simp only [flat, List.flatMap_cons] at this ⊢
    rw [List.getElem?_append_right (by rw [Nd.len]; omega), Nd.len, List.getElem?_cons_succ, ← this]
    congr 1
    omega
theorem flat_take (l : List Nd) (k : Nat) : (flat l).take (k * 7) = flat (l.take k) := by
  apply List.ext_getElem?
  intro i
  rw [List.getElem?_take]
  have e : i = i / 7 * 7 + i % 7 := by omega
  split
  · rename_i h
    rw [e, flat_at _ _ _ (by omega), flat_at _ _ _ (by omega), List.getElem?_take, if_pos (by omega)]
  · rename_i h
    rw [e, flat_at _ _ _ (by omega), List.getElem?_take, if_neg (by omega)]
    rfl
theorem flat_snoc (l : List Nd) (x : Nd) : flat (l ++ [x]) = flat l ++ x.cells := by simp [flat]
theorem cells_one (x : Nd) : ∀ u ∈ x.cells, u.oneCell' = true := by
  intro u hu
  simp [Nd.cells] at hu
  rcases hu with rfl | rfl | rfl | rfl | rfl | rfl | rfl <;> rfl
/-- A slice of nodes. -/
structure IsNodes (w : World) (A : Option Addr) (n c : Nat) (l : List Nd) : Prop where
  reads : Reads w w.heap.size 7 A n (flat l)
  len : l.length = n
  cap : n ≤ c
  small : c ≤ 9223372036854775807
  reach : n ≤ 8796093021952
  wf : ∀ x ∈ l, x.Wf
theorem isNodes_nil (w : World) : IsNodes w none 0 0 [] where
  reads := Reads.none_
  len := rfl
  cap := Nat.le_refl _
  small := Nat.zero_le _
  reach := by simp
  wf := fun z hz => by cases hz
theorem IsNodes.wfd {w : World} {A : Option Addr} {n c : Nat} {l : List Nd} (h : IsNodes w A n c l) (k : Nat) : (l.getD k nd0).Wf := by
  rcases Nat.lt_or_ge k l.length with hl | hl
  · have e : l[k]? = some (l.getD k nd0) := by rw [List.getD_eq_getElem?_getD, List.getElem?_eq_getElem hl]; rfl
    exact h.wf _ (List.mem_of_getElem? e)
  · rw [List.getD_eq_getElem?_getD, List.getElem?_eq_none hl]
    exact nd0_wf
/-- The cells of a node at an address. -/
structure NdAt (w : World) (ad : Addr) (k : Nat) (x : Nd) : Prop where
  name : w.cell? (ad.add (k * 7)) = some (.string x.name)
  kind : w.cell? ⟨(ad.add (k * 7)).block, (ad.add (k * 7)).off + 1, none⟩ = some (.int .i64 x.kind)
  above : w.cell? ⟨(ad.add (k * 7)).block, (ad.add (k * 7)).off + 2, none⟩ = some (.int .i64 x.above)
  weight : w.cell? ⟨(ad.add (k * 7)).block, (ad.add (k * 7)).off + 3, none⟩ = some (.int .i64 x.weight)
  six : w.cell? ⟨(ad.add (k * 7)).block, (ad.add (k * 7)).off + 4, none⟩ = some (.bool x.six)
  hi : w.cell? ⟨(ad.add (k * 7)).block, (ad.add (k * 7)).off + 5, none⟩ = some (.int .u64 x.hi)
  lo : w.cell? ⟨(ad.add (k * 7)).block, (ad.add (k * 7)).off + 6, none⟩ = some (.int .u64 x.lo)
theorem add_far (ad : Addr) (i j : Nat) (hj : 0 < j) : ad.add (i + j) = ⟨(ad.add i).block, (ad.add i).off + j, none⟩ := by
  rw [← add_of_add]
  generalize ad.add i = q
  unfold Addr.add
  rw [if_neg (by omega)]
theorem IsNodes.at_ {w : World} {A : Option Addr} {n c : Nat} {l : List Nd} (h : IsNodes w A n c l) {k : Nat} (hk : k < n) :
    ∃ ad, A = some ad ∧ ad.block < w.heap.size ∧ NdAt w ad k (l.getD k nd0) := by
  obtain ⟨ad, e, hb, hc⟩ := h.reads.2 (by omega)
  have hl : k < l.length := by rw [h.len]; exact hk
  have e2 : l[k]? = some (l.getD k nd0) := by rw [List.getD_eq_getElem?_getD, List.getElem?_eq_getElem hl]; rfl
  have hat : ∀ j u, j < 7 → (l.getD k nd0).cells[j]? = some u → w.cell? (ad.add (k * 7 + j)) = some u := fun j u hj hu => hc _ u (by rw [flat_at _ _ _ hj, e2]; exact hu)
  refine ⟨ad, e, hb, hat 0 _ (by omega) rfl, ?_, ?_, ?_, ?_, ?_, ?_⟩ <;> rw [← add_far _ _ _ (by omega)]
  · exact hat 1 _ (by omega) rfl
  · exact hat 2 _ (by omega) rfl
  · exact hat 3 _ (by omega) rfl
  · exact hat 4 _ (by omega) rfl
  · exact hat 5 _ (by omega) rfl
  · exact hat 6 _ (by omega) rfl
theorem IsNodes.keep {w w' : World} {A : Option Addr} {n c : Nat} {l : List Nd} (h : IsNodes w A n c l) (hx : Below w.heap.size w w') : IsNodes w' A n c l :=
  ⟨(h.reads.below hx).more hx.size, h.len, h.cap, h.small, h.reach, h.wf⟩
theorem IsNodes.cut {w : World} {A : Option Addr} {n c : Nat} {l : List Nd} (h : IsNodes w A n c l) {k : Nat} (hk : k ≤ n) : IsNodes w A k c (l.take k) :=
  ⟨flat_take l k ▸ h.reads.take hk, by rw [List.length_take, h.len]; omega, Nat.le_trans hk h.cap, h.small, Nat.le_trans hk h.reach, fun p hp => h.wf p (List.mem_of_mem_take hp)⟩
theorem IsNodes.reads' {w : World} {A : Option Addr} {n c : Nat} {l : List Nd} (h : IsNodes w A n c l) : Reads w w.heap.size 7 A n (flat l) := h.reads
section
variable {H : Type} {enc : TypeId × Value → H} {W : World} {base : Nat} {sp : Nat → Bool} {held : Bool}
/-- The fields of a node, as the form lays them. -/
structure NodeType (e : TypeId) (f0 f1 f2 f3 f4 g0 g1 g2 : Field) : Prop where
  he : Try.prog.underlying e = some (.struct #[f0, f1, f2, f3, f4])
  ha : Try.prog.underlying f4.type = some (.struct #[g0, g1, g2])
  hc : Try.prog.cellsOf e = 7
  c0 : f0.offset = 0 ∧ Try.prog.cellsOf f0.type = 1
  c1 : f1.offset = 1 ∧ Try.prog.cellsOf f1.type = 1
  c2 : f2.offset = 2 ∧ Try.prog.cellsOf f2.type = 1
  c3 : f3.offset = 3 ∧ Try.prog.cellsOf f3.type = 1
  c4 : f4.offset = 4 ∧ Try.prog.cellsOf f4.type = 3
  d0 : g0.offset = 0 ∧ Try.prog.cellsOf g0.type = 1
  d1 : g1.offset = 1 ∧ Try.prog.cellsOf g1.type = 1
  d2 : g2.offset = 2 ∧ Try.prog.cellsOf g2.type = 1
  e0 : Try.prog.underlying f0.type = some .string
  e1 : Try.prog.underlying f1.type = some (.int .i64)
  e2 : Try.prog.underlying f2.type = some (.int .i64)
  e3 : Try.prog.underlying f3.type = some (.int .i64)
  k0 : Try.prog.underlying g0.type = some .bool
  k1 : Try.prog.underlying g1.type = some (.int .u64)
  k2 : Try.prog.underlying g2.type = some (.int .u64)
theorem trod_node {e : TypeId} {f0 f1 f2 f3 f4 g0 g1 g2 : Field} (hT : NodeType e f0 f1 f2 f3 f4 g0 g1 g2) {fuel : Nat} {cs : List Value} {x : DataW H × List MemPlace}
    (h : DataW.trod enc Try.prog W base sp held fuel e cs = some x) : ∃ y : Nd, cs = y.cells ∧ y.Wf := by
  obtain ⟨ys, n, _, _, hlen, hyl, hf⟩ := DataW.trod_struct hT.he h
  rw [hT.hc] at hlen
  have hs : ys.length = 5 := hyl
  have some_of : ∀ i, i < 5 → ∃ y, ys[i]? = some y := fun i hi => ⟨_, List.getElem?_eq_getElem (by omega)⟩
  have t0 := hf 0 f0 rfl
  have t1 := hf 1 f1 rfl
  have t2 := hf 2 f2 rfl
  have t3 := hf 3 f3 rfl
  have t4 := hf 4 f4 rfl
  rw [hT.c0.1, hT.c0.2] at t0
  rw [hT.c1.1, hT.c1.2] at t1
  rw [hT.c2.1, hT.c2.2] at t2
  rw [hT.c3.1, hT.c3.2] at t3
  rw [hT.c4.1, hT.c4.2] at t4
  obtain ⟨y0, q0⟩ := some_of 0 (by omega)
  obtain ⟨y1, q1⟩ := some_of 1 (by omega)
  obtain ⟨y2, q2⟩ := some_of 2 (by omega)
  obtain ⟨y3, q3⟩ := some_of 3 (by omega)
  obtain ⟨y4, q4⟩ := some_of 4 (by omega)
  obtain ⟨s0, r0, _, w0⟩ := DataW.trod_string hT.e0 (t0.trans q0)
  obtain ⟨z1, r1, _, w1⟩ := DataW.trod_int hT.e1 (t1.trans q1)
  obtain ⟨z2, r2, _, w2⟩ := DataW.trod_int hT.e2 (t2.trans q2)
  obtain ⟨z3, r3, _, w3⟩ := DataW.trod_int hT.e3 (t3.trans q3)
  obtain ⟨zs, m, _, _, hlen2, hzl, hg⟩ := DataW.trod_struct hT.ha (t4.trans q4)
  have hs2 : zs.length = 3 := hzl
  have some_of2 : ∀ i, i < 3 → ∃ y, zs[i]? = some y := fun i hi => ⟨_, List.getElem?_eq_getElem (by omega)⟩
  have u0 := hg 0 g0 rfl
  have u1 := hg 1 g1 rfl
  have u2 := hg 2 g2 rfl
  rw [hT.d0.1, hT.d0.2] at u0
  rw [hT.d1.1, hT.d1.2] at u1
  rw [hT.d2.1, hT.d2.2] at u2
  obtain ⟨x0, v0⟩ := some_of2 0 (by omega)
  obtain ⟨x1, v1⟩ := some_of2 1 (by omega)
  obtain ⟨x2, v2⟩ := some_of2 2 (by omega)
  obtain ⟨b, r4, _⟩ := DataW.trod_bool hT.k0 (u0.trans v0)
  obtain ⟨z5, r5, _, w5⟩ := DataW.trod_int hT.k1 (u1.trans v1)
  obtain ⟨z6, r6, _, w6⟩ := DataW.trod_int hT.k2 (u2.trans v2)
  clear t0 t1 t2 t3 t4 u0 u1 u2 hf hg h
  match cs, hlen with
  | [a0, a1, a2, a3, a4, a5, a6], _ =>
    simp at r0 r1 r2 r3 r4 r5 r6
    subst r0 r1 r2 r3 r4 r5 r6
    have b1 := i64_of_wf w1
    have b2 := i64_of_wf w2
    have b3 := i64_of_wf w3
    have b5 := u64_of_wf w5
    have b6 := u64_of_wf w6
    exact ⟨⟨s0, z1, z2, z3, b, z5, z6⟩, rfl, ⟨w0, b1.1, b1.2, b2.1, b2.2, b3.1, b3.2, b5.1, b5.2, b6.1, b6.2⟩⟩
set_option maxRecDepth 100000 in
theorem open_node {r : Reach} {b0 : Nat} {e : TypeId} {f0 f1 f2 f3 f4 g0 g1 g2 : Field} (hT : NodeType e f0 f1 f2 f3 f4 g0 g1 g2) {v : Value} {d : DataW H} {p : List MemPlace}
    (hv : Value.okWide Try.prog W r b0 e v) (h : DataW.Trod enc Try.prog W base sp held e v d p) : ∃ x : Nd, v = .agg ⟨x.cells⟩ ∧ x.Wf := by
  obtain ⟨cs, rfl, _⟩ := okWide_struct hT.he hv
  obtain ⟨fuel, hf⟩ := h
  obtain ⟨x, hx, hw⟩ := trod_node hT hf
  refine ⟨x, ?_, hw⟩
  have : cs.toList = x.cells := by simpa [Value.cells] using hx
  rw [← this]
set_option maxRecDepth 100000 in
theorem open_nodes {r : Reach} {b0 : Nat} {t e : TypeId} {f0 f1 f2 f3 f4 g0 g1 g2 : Field} (hT : NodeType e f0 f1 f2 f3 f4 g0 g1 g2) (ht : Try.prog.underlying t = some (.slice e)) (hby : 16 ≤ Try.prog.bytesOf e) {v : Value} {d : DataW H} {p : List MemPlace}
    (hv : Value.okWide Try.prog W r b0 t v) (h : DataW.Trod enc Try.prog W base (fun _ => true) true t v d p) (hlt : ∀ x ∈ p, x.block < W.heap.size)
    (hs : ∀ (e : TypeId) (elems spare : List (DataW H)), d = .slice elems spare → Try.prog.underlying t = some (.slice e) → (elems.length + spare.length) * Try.prog.bytesOf e ≤ reachBytes) :
    ∃ (A : Option Addr) (n c : Nat) (l : List Nd), v = .slice A n c ∧ IsNodes W A n c l := by
  obtain ⟨a0, len, cap, rfl⟩ := okWide_slice ht hv
  obtain ⟨fuel, hf⟩ := h
  rcases open_slice ht hf with ⟨hcs, hx⟩ | ⟨a, len', cap', m, n, D, Pl, hcs, _, hl, hm, hmm, hx, hi⟩
  · simp [Value.cells] at hcs
    obtain ⟨rfl, rfl, rfl⟩ := hcs
    exact ⟨none, 0, 0, [], rfl, isNodes_nil W⟩
  · simp [Value.cells] at hcs
    obtain ⟨rfl, rfl, rfl⟩ := hcs
    simp only [if_true] at hmm
    subst hmm
    rw [hT.hc] at hx hi
    simp only [Prod.mk.injEq] at hx
    obtain ⟨rfl, rfl⟩ := hx
    have hat : ∀ i, i < len → ∃ y : Nd, y.Wf ∧ ∀ j, j < 7 → W.cell? (a.add (i * 7 + j)) = y.cells[j]? := by
      intro i him
      obtain ⟨cs', hc, ht'⟩ := hi i (by omega)
      obtain ⟨y, rfl, hw⟩ := trod_node hT ht'
      obtain ⟨_, hcl, hcat⟩ := World.cells?_some hc
      exact ⟨y, hw, fun j hj => by rw [← add_of_add]; exact hcat j hj⟩
    obtain ⟨l, hll, hcl⟩ : ∃ l : List Nd, l.length = len ∧ ∀ i q, l[i]? = some q → q.Wf ∧ ∀ j, j < 7 → W.cell? (a.add (i * 7 + j)) = q.cells[j]? := by
      refine ⟨(List.range len).map fun i => if hi : i < len then (hat i hi).choose else nd0, by simp, fun i q hq => ?_⟩
      rw [List.getElem?_map] at hq
      obtain ⟨j, hj, rfl⟩ := Option.map_eq_some_iff.1 hq
      have hlen : i < len := by
        rcases Nat.lt_or_ge i len with h1 | h1
        · exact h1
        · rw [List.getElem?_eq_none (by simpa using h1)] at hj; cases hj
      rw [List.getElem?_range hlen] at hj
      obtain rfl := Option.some.inj hj
      rw [dif_pos hlen]
      exact (hat i hlen).choose_spec
    refine ⟨some a, len, m, l, rfl, ⟨by rw [flat_len, hll], fun hn => ⟨a, rfl, ?_, fun j u hu => ?_⟩⟩, hll, hl, (by unfold maxLen at hm; omega), ?_, fun q hq => ?_⟩
    · have := hlt (MemPlace.cell a.block a.off) (by
        refine List.mem_append_left _ ?_
        simp [MemPlace.row]
        omega)
      exact this
    · have e : j = j / 7 * 7 + j % 7 := by omega
      rw [e, flat_at _ _ _ (by omega)] at hu
      obtain ⟨q, hq, hu⟩ := Option.bind_eq_some_iff.1 hu
      rw [e, (hcl _ q hq).2 _ (by omega)]
      exact hu
    · have := hs e _ _ rfl ht
      simp only [List.length_map, List.length_range, reachBytes] at this
      have h2 : (len + (m - len)) * 16 ≤ (len + (m - len)) * Try.prog.bytesOf e := Nat.mul_le_mul_left _ hby
      omega
    · obtain ⟨i, hi⟩ := List.mem_iff_getElem?.1 hq
      exact (hcl i q hi).1
end
end Go.Proofs.Ytblbgafadadbmaa
end
section
/- Which nodes may stand behind which, in plain Lean. -/
set_option linter.unusedVariables false
namespace Go.Proofs.Ytblbgafadadbmaa
def chP (v : Int) : Prop := (97 ≤ v ∧ v ≤ 122) ∨ (65 ≤ v ∧ v ≤ 90) ∨ (48 ≤ v ∧ v ≤ 57) ∨ v = 45 ∨ v = 95 ∨ v = 46
instance (v : Int) : Decidable (chP v) := by unfold chP; infer_instance
def chOk (c : UInt8) : Bool := decide (chP (c.toNat : Int))
def nameOk (s : ByteArray) : Bool := decide (1 ≤ s.size ∧ s.size ≤ 32) && s.data.toList.all chOk
theorem name_short {s : ByteArray} (h : s.size < 1) : nameOk s = false := by
  unfold nameOk
  rw [decide_eq_false (by omega)]; rfl
theorem name_long {s : ByteArray} (h : 32 < s.size) : nameOk s = false := by
  unfold nameOk
  rw [decide_eq_false (by omega)]; rfl
theorem take_at (s : ByteArray) (k : Nat) (h : k < s.size) : s.data.toList.take (k + 1) = s.data.toList.take k ++ [s[k]] := by
  rw [List.take_succ_eq_append_getElem (by simpa using h)]; rfl
theorem all_step {s : ByteArray} {k : Nat} (h : k < s.size) (ha : (s.data.toList.take k).all chOk = true) (hc : chP (s[k].toNat : Int)) : (s.data.toList.take (k + 1)).all chOk = true := by
  rw [take_at s k h, List.all_append, ha]
  simp [chOk, hc]
theorem name_bad {s : ByteArray} {k : Nat} (h : k < s.size) (hc : ¬ chP (s[k].toNat : Int)) : nameOk s = false := by
  unfold nameOk
  rw [Bool.and_eq_false_iff]
  right
  rw [List.all_eq_false]
  refine ⟨s[k], ?_, by simp [chOk, hc]⟩
  have : s[k] = s.data.toList[k]'(by simpa using h) := rfl
  rw [this]
  exact List.getElem_mem _
theorem name_good {s : ByteArray} (h1 : 1 ≤ s.size) (h2 : s.size ≤ 32) (ha : (s.data.toList.take s.size).all chOk = true) : nameOk s = true := by
  unfold nameOk
  rw [List.take_of_length_le (by simp)] at ha
  rw [ha, decide_eq_true ⟨h1, h2⟩]; rfl
def addrOk (six : Bool) (hi lo : Int) : Bool := six || (hi == 0 && decide (lo < 4294967296))
def Nd.addr (x : Nd) : Bool × Int × Int := (x.six, x.hi, x.lo)
def noAddr (x : Nd) : Bool := !x.six && x.hi == 0 && x.lo == 0
def sameAddr (x y : Nd) : Bool := x.six == y.six && x.hi == y.hi && x.lo == y.lo
def sameName (a b : ByteArray) : Bool := a.toList == b.toList
def twice (n y : Nd) : Bool := sameName y.name n.name || (n.kind == 4 && y.kind == 4 && sameAddr y n)
/-- Why a node may not stand behind others, but for those that are like it. -/
def headC (n : Nd) (l : List Nd) : Int :=
  if nameOk n.name = false ∨ n.kind < 1 ∨ 4 < n.kind then 1
  else if n.weight < 0 ∨ 65535 < n.weight ∨ (n.kind = 1 ∧ n.weight ≠ 0) then 17
  else if (n.kind = 1 ∧ n.above ≠ -1) ∨ (1 < n.kind ∧ (n.above < 0 ∨ (l.length : Int) ≤ n.above)) then 16
  else if 1 < n.kind ∧ (l.getD n.above.toNat nd0).kind ≠ n.kind - 1 then 16
  else if addrOk n.six n.hi n.lo = false ∨ (n.kind ≠ 4 ∧ noAddr n = false) then 18
  else 0
def rightC (n : Nd) (l : List Nd) : Int := if headC n l ≠ 0 then headC n l else if l.any (twice n) then 8 else 0
structure HeadOk (x : Nd) (l : List Nd) : Prop where
  name : nameOk x.name = true
  kind0 : 1 ≤ x.kind
  kind1 : x.kind ≤ 4
  weight0 : 0 ≤ x.weight
  weight1 : x.weight ≤ 65535
  level : x.kind = 1 → x.weight = 0 ∧ x.above = -1
  below : 1 < x.kind → 0 ≤ x.above ∧ x.above < l.length ∧ (l.getD x.above.toNat nd0).kind = x.kind - 1
  addr : addrOk x.six x.hi x.lo = true
  plain : x.kind ≠ 4 → x.six = false ∧ x.hi = 0 ∧ x.lo = 0
theorem headC_zero {x : Nd} {l : List Nd} (h : headC x l = 0) : HeadOk x l := by
  unfold headC noAddr at h
  constructor <;> grind
theorem rightC_head {x : Nd} {l : List Nd} (h : headC x l ≠ 0) : rightC x l = headC x l := by unfold rightC; rw [if_pos h]
theorem rightC_twice {x : Nd} {l : List Nd} (h : headC x l = 0) (h2 : l.any (twice x) = true) : rightC x l = 8 := by unfold rightC; rw [if_neg (by omega), if_pos h2]
theorem rightC_zero {x : Nd} {l : List Nd} (h : headC x l = 0) (h2 : l.any (twice x) = false) : rightC x l = 0 := by unfold rightC; rw [if_neg (by omega), h2]; rfl
theorem any_take_step {x : Nd} {l : List Nd} {k : Nat} (hk : k < l.length) (h : (l.take k).any (twice x) = false) (h2 : twice x (l.getD k nd0) = false) : (l.take (k + 1)).any (twice x) = false := by
  rw [List.take_succ_eq_append_getElem hk, List.any_append, h]
  rw [List.getD_eq_getElem?_getD, List.getElem?_eq_getElem hk] at h2
  simpa using h2
theorem any_at {x : Nd} {l : List Nd} {k : Nat} (hk : k < l.length) (h2 : twice x (l.getD k nd0) = true) : l.any (twice x) = true := by
  rw [List.any_eq_true]
  refine ⟨_, List.getElem_mem hk, ?_⟩
  rwa [List.getD_eq_getElem?_getD, List.getElem?_eq_getElem hk] at h2
def ofKind (k : Int) (l : List Nd) : Nat := l.countP (fun x => x.kind == k)
def full (n : Nd) (l : List Nd) : Bool := decide (1024 ≤ l.length) || (n.kind == 1 && decide (4 ≤ ofKind 1 l)) || (n.kind == 4 && decide (512 ≤ ofKind 4 l))
/-- Why a node may not stand behind others; 0: it may. -/
def whyC (n : Nd) (l : List Nd) : Int := if rightC n l ≠ 0 then rightC n l else if full n l then 6 else 0
end Go.Proofs.Ytblbgafadadbmaa
end
section
/- append onto a row of the call's own, the source nil, empty or not (after the kit's page on words for memory). -/
set_option linter.unusedVariables false
namespace Go.Proofs.Ytblbgafadadbmaa
open Go.RowKit
section
variable {P : Program} (w : World)

theorem run_append_of_nil (base : Nat) (t ty e : TypeId) (i : TypeInfo) (size : Nat) (ht : P.underlying t = some (.slice e)) (hi : P.info? e = some i)
    (v : Value) (n : Nat) (xs : List Value) (hown : w.ownsRow base e size v n xs) (c : Nat) : (Builtin.append_ #[t, t] ty #[v, .slice none 0 c]).run P w = .ok v w := by
  rcases hown.2 with ⟨rfl, rfl⟩ | ⟨g, cap, cur, rfl, _, _, hnc, _⟩
  · simp [Builtin.append_, run_underlying ht, sizeOf, typeInfo, hi, Builtin.lenOf, Builtin.firstCells]
  · simp [Builtin.append_, run_underlying ht, sizeOf, typeInfo, hi, Builtin.lenOf, Builtin.firstCells, hnc, storeCells]

theorem run_append_any (base : Nat) (t ty e : TypeId) (i : TypeInfo) (z : Value) (size bytes : Nat) (ht : P.underlying t = some (.slice e)) (hi : P.info? e = some i) (hz : i.zero = some z)
    (hsize : i.size = size) (hby : i.bytes = bytes) (hzs : z.cells.size = size) (hsz : 0 < size)
    (v : Value) (n : Nat) (xs : List Value) (hown : w.ownsRow base e size v n xs)
    (B : Nat) (A : Option Addr) (m c : Nat) (news : List Value) (hr : Reads w B size A m news) (h1 : ∀ u ∈ news, u.oneCell' = true)
    (h63 : n + m ≤ maxLen) (hbytes : (n + m) * bytes ≤ 140737488355328) (hbase : base ≤ w.heap.size) :
    ∃ v' w', (Builtin.append_ #[t, t] ty #[v, .slice A m c]).run P w = .ok v' w' ∧ w'.ownsRow base e size v' (n + m) (xs ++ news) ∧ w.grownBy w' v.ownBlock ∧
      (v'.ownBlock = v.ownBlock ∨ v'.ownBlock = some w.heap.size) := by
  rcases A with _ | ad
  · have hm : m = 0 := by
      rcases Nat.eq_zero_or_pos m with h0 | h0
      · exact h0
      · obtain ⟨ad, h, _⟩ := hr.2 h0
        cases h
    subst hm
    have hn : news = [] := List.eq_nil_of_length_eq_zero (by simpa using hr.1)
    subst hn
    exact ⟨v, w, run_append_of_nil w base t ty e i size ht hi v n xs hown c, by simpa using hown, World.grownBy.refl w _, .inl rfl⟩
  · have hcells : ∀ j u, news[j]? = some u → w.cell? (ad.add j) = some u := by
      intro j u hu
      rcases Nat.eq_zero_or_pos m with h0 | h0
      · subst h0
        have hn : news = [] := List.eq_nil_of_length_eq_zero (by simpa using hr.1)
        subst hn
        simp at hu
      · obtain ⟨ad', h, _, hc⟩ := hr.2 h0
        injection h with h
        subst h
        exact hc j u hu
    obtain ⟨v', w', hrun, h2, h3, _, h5⟩ := run_append_own_at (P := P) w base t ty e i z size bytes ht hi hz hsize hby hzs hsz v n xs hown ad m c news hr.1 hcells h1 h63 hbytes hbase
    exact ⟨v', w', hrun, h2, h3, h5⟩

theorem wp_append_any {o : Oper} {a : Act} {K : Act → World → Prop} {Q : Exit → Act → World → Prop} (s x : Operand) (t : TypeId)
    (ho : o.op = .call { callee := .builtin .append, args := #[s, x], argTypes := #[t, t] })
    (base : Nat) (e : TypeId) (i : TypeInfo) (z : Value) (size bytes : Nat) (ht : P.underlying t = some (.slice e)) (hi : P.info? e = some i) (hz : i.zero = some z)
    (hsize : i.size = size) (hby : i.bytes = bytes) (hzs : z.cells.size = size) (hsz : 0 < size)
    (v : Value) (n : Nat) (xs : List Value) (hs : a.eval s = v) (hown : w.ownsRow base e size v n xs)
    (B : Nat) (A : Option Addr) (m c : Nat) (news : List Value) (hx : a.eval x = .slice A m c) (hr : Reads w B size A m news) (h1 : ∀ u ∈ news, u.oneCell' = true)
    (h63 : n + m ≤ maxLen) (hbytes : (n + m) * bytes ≤ 140737488355328) (hbase : base ≤ w.heap.size)
    (h : ∀ v' w', w'.ownsRow base e size v' (n + m) (xs ++ news) → w.grownBy w' v.ownBlock → (v'.ownBlock = v.ownBlock ∨ v'.ownBlock = some w.heap.size) → K (a.put o.dst v') w') : o.wp P a w K Q := by
  obtain ⟨v', w', hrun, h2, h3, h4⟩ := run_append_any (P := P) w base t o.type e i z size bytes ht hi hz hsize hby hzs hsz v n xs hown B A m c news hr h1 h63 hbytes hbase
  unfold Oper.wp execOp
  simp only [ho, resolve, invoke, builtin, Sem.run_bind, Sem.run_pure, Result.andThen_ok, List.map_toArray, List.map_cons, List.map_nil, hs, hx, hrun]
  exact h v' w' h2 h3 h4

theorem wpList_append_any {ops : Array Oper} {rest : List Oper} {o : Oper} {a : Act} {Q : Exit → Act → World → Prop} (hgd : o.guard = none) (s x : Operand) (t : TypeId)
    (ho : o.op = .call { callee := .builtin .append, args := #[s, x], argTypes := #[t, t] })
    (base : Nat) (e : TypeId) (i : TypeInfo) (z : Value) (size bytes : Nat) (ht : P.underlying t = some (.slice e)) (hi : P.info? e = some i) (hz : i.zero = some z)
    (hsize : i.size = size) (hby : i.bytes = bytes) (hzs : z.cells.size = size) (hsz : 0 < size)
    (v : Value) (n : Nat) (xs : List Value) (hs : a.eval s = v) (hown : w.ownsRow base e size v n xs)
    (B : Nat) (A : Option Addr) (m c : Nat) (news : List Value) (hx : a.eval x = .slice A m c) (hr : Reads w B size A m news) (h1 : ∀ u ∈ news, u.oneCell' = true)
    (h63 : n + m ≤ maxLen) (hbytes : (n + m) * bytes ≤ 140737488355328) (hbase : base ≤ w.heap.size)
    (h : ∀ v' w', w'.ownsRow base e size v' (n + m) (xs ++ news) → w.grownBy w' v.ownBlock → (v'.ownBlock = v.ownBlock ∨ v'.ownBlock = some w.heap.size) → wpList P ops Q rest (a.put o.dst v') w') : wpList P ops Q (o :: rest) a w :=
  wpList_plain hgd fun _ hK => wp_append_any w s x t ho base e i z size bytes ht hi hz hsize hby hzs hsz v n xs hs hown B A m c news hx hr h1 h63 hbytes hbase fun v' w' h2 h3 h4 => hK _ _ (h v' w' h2 h3 h4)

theorem step_append_any {ops : Array Oper} {o : Oper} {a : Act} {K : Act → World → Prop} {Q : Exit → Act → World → Prop} {E : Prop} (hgd : o.guard = none) (s x : Operand) (t : TypeId)
    (ho : o.op = .call { callee := .builtin .append, args := #[s, x], argTypes := #[t, t] })
    (base : Nat) (e : TypeId) (i : TypeInfo) (z : Value) (size bytes : Nat) (ht : P.underlying t = some (.slice e)) (hi : P.info? e = some i) (hz : i.zero = some z)
    (hsize : i.size = size) (hby : i.bytes = bytes) (hzs : z.cells.size = size) (hsz : 0 < size)
    (v : Value) (n : Nat) (xs : List Value) (hs : a.eval s = v) (hown : w.ownsRow base e size v n xs)
    (B : Nat) (A : Option Addr) (m c : Nat) (news : List Value) (hx : a.eval x = .slice A m c) (hr : Reads w B size A m news) (h1 : ∀ u ∈ news, u.oneCell' = true)
    (h63 : n + m ≤ maxLen) (hbytes : (n + m) * bytes ≤ 140737488355328) (hbase : base ≤ w.heap.size)
    (h : ∀ v' w', w'.ownsRow base e size v' (n + m) (xs ++ news) → w.grownBy w' v.ownBlock → (v'.ownBlock = v.ownBlock ∨ v'.ownBlock = some w.heap.size) → K (a.put o.dst v') w') :
    if Region.wanted o (yielded ops a.tmps) = true then Oper.wp P o a w K Q else E := by
  have hw : Region.wanted o (yielded ops a.tmps) = true := by simp [Region.wanted, hgd]
  rw [if_pos hw]
  exact wp_append_any w s x t ho base e i z size bytes ht hi hz hsize hby hzs hsz v n xs hs hown B A m c news hx hr h1 h63 hbytes hbase h
end
/-- A row of the call's own, read as a list. -/
theorem own_list {w : World} {base : Nat} {e : TypeId} {K : IntKind} {v : Value} {n : Nat} {l : List Int} (h : w.ownsRow base e 1 v n (l.map (Value.int K))) (hwf : ∀ z ∈ l, (Lit.int K z).wf = true) (hr : n ≤ 17592186043904) :
    ∃ A c, v = .slice A n c ∧ IsList w K A n c l ∧ (∀ ad, A = some ad → base ≤ ad.block) := by
  have hlen : l.length = n := by have := h.1; simpa using this
  rcases h.2 with ⟨rfl, rfl⟩ | ⟨g, cap, cur, rfl, hb, hh, hnc, hcm, hsz, htk⟩
  · have : l = [] := List.eq_nil_of_length_eq_zero hlen
    subst this
    exact ⟨none, 0, rfl, ⟨⟨by simp, fun h => absurd h (by omega)⟩, rfl, Nat.le_refl _, by omega, fun z hz => (by cases hz), hr⟩, fun ad h => (by cases h)⟩
  · refine ⟨some ⟨g, 0, none⟩, cap, rfl, ⟨?_, hlen, hnc, by unfold maxLen at hcm; omega, hwf, hr⟩, fun ad h => by cases h; exact hb⟩
    refine ⟨by simp [hlen], fun hn => ⟨_, rfl, (Array.getElem?_eq_some_iff.1 hh).1, h.cells (g := g) rfl⟩⟩
end Go.Proofs.Ytblbgafadadbmaa
end
