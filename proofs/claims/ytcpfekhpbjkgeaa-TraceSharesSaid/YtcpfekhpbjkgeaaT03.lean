/- Lemmas for the claim's proof: Nodes Rowz RowzArg RowzDeep. -/
import Derived.Deep.Slices
import Derived.Deep.Fields
import Derived.ChangeSame
import Derived.Test.YtcpfekhpbjkgeaaT01
import Derived.Test.YtcpfekhpbjkgeaaT02
section
/- Nodes: what one is in memory, slices of them, and both as arguments. -/
set_option linter.unusedVariables false
namespace Go.Proofs.Ytcpfekhpbjkgeaa
open Go.ChangeShapes Go.WideShapes Go.ChangeAt Go.RowKit Go.Deep
structure Nd where
  name : ByteArray
  kind : Int
  above : Int
  weight : Int
  six : Bool
  hi : Int
  lo : Int
instance : Inhabited Nd := ⟨⟨ByteArray.empty, 0, 0, 0, false, 0, 0⟩⟩
/-- The node that nobody made. -/
def nd0 : Nd := ⟨ByteArray.empty, 0, 0, 0, false, 0, 0⟩
def Nd.cells (x : Nd) : List Value := [.string x.name, .int .i64 x.kind, .int .i64 x.above, .int .i64 x.weight, .bool x.six, .int .u64 x.hi, .int .u64 x.lo]
structure Nd.Wf (x : Nd) : Prop where
  name : x.name.size ≤ maxLen
  kind0 : -9223372036854775808 ≤ x.kind
  kind1 : x.kind ≤ 9223372036854775807
  above0 : -9223372036854775808 ≤ x.above
  above1 : x.above ≤ 9223372036854775807
  weight0 : -9223372036854775808 ≤ x.weight
  weight1 : x.weight ≤ 9223372036854775807
  hi0 : 0 ≤ x.hi
  hi1 : x.hi < 18446744073709551616
  lo0 : 0 ≤ x.lo
  lo1 : x.lo < 18446744073709551616
theorem nd0_wf : nd0.Wf := by
  constructor <;> decide
def flat (l : List Nd) : List Value := l.flatMap Nd.cells
theorem Nd.len (x : Nd) : x.cells.length = 7 := rfl
theorem flat_len : ∀ l : List Nd, (flat l).length = l.length * 7
  | [] => rfl
  | x :: l => by
    have := flat_len l
    simp only [flat, List.flatMap_cons, List.length_append, Nd.len, List.length_cons] at this ⊢
    omega
theorem flat_at : ∀ (l : List Nd) (i j : Nat), j < 7 → (flat l)[i * 7 + j]? = (l[i]?).bind fun x => x.cells[j]?
  | [], i, j, _ => by simp [flat]
  | x :: l, 0, j, h => by
    simp only [flat, List.flatMap_cons, Nat.zero_mul, Nat.zero_add, List.getElem?_cons_zero, Option.bind_some]
    rw [List.getElem?_append_left (by rw [Nd.len]; exact h)]
  | x :: l, i + 1, j, h => by
    have := flat_at l i j h
    simp only [flat, List.flatMap_cons] at this ⊢
    rw [List.getElem?_append_right (by rw [Nd.len]; omega), Nd.len, List.getElem?_cons_succ, ← this]
    congr 1
    omega
theorem flat_take (l : List Nd) (k : Nat) : (flat l).take (k * 7) = flat (l.take k) := by
  apply List.ext_getElem?
  intro i
  rw [List.getElem?_take]
  have e : i = i / 7 * 7 + i % 7 := by omega
  split
  · rename_i h
    rw [e, flat_at _ _ _ (by omega), flat_at _ _ _ (by omega), List.getElem?_take, if_pos (by omega)]
  · rename_i h
    rw [e, flat_at _ _ _ (by omega), List.getElem?_take, if_neg (by omega)]
    rfl
theorem flat_snoc (l : List Nd) (x : Nd) : flat (l ++ [x]) = flat l ++ x.cells := by simp [flat]
theorem cells_one (x : Nd) : ∀ u ∈ x.cells, u.oneCell' = true := by
  intro u hu
  simp [Nd.cells] at hu
  rcases hu with rfl | rfl | rfl | rfl | rfl | rfl | rfl <;> rfl
/-- A slice of nodes. -/
structure IsNodes (w : World) (A : Option Addr) (n c : Nat) (l : List Nd) : Prop where
  reads : Reads w w.heap.size 7 A n (flat l)
  len : l.length = n
  cap : n ≤ c
  small : c ≤ 9223372036854775807
  reach : n ≤ 8796093021952
  wf : ∀ x ∈ l, x.Wf
theorem isNodes_nil (w : World) : IsNodes w none 0 0 [] where
  reads := Reads.none_
  len := rfl
  cap := Nat.le_refl _
  small := Nat.zero_le _
  reach := by simp
  wf := fun z hz => by cases hz
theorem IsNodes.wfd {w : World} {A : Option Addr} {n c : Nat} {l : List Nd} (h : IsNodes w A n c l) (k : Nat) : (l.getD k nd0).Wf := by
  rcases Nat.lt_or_ge k l.length with hl | hl
  · have e : l[k]? = some (l.getD k nd0) := by rw [List.getD_eq_getElem?_getD, List.getElem?_eq_getElem hl]; rfl
    exact h.wf _ (List.mem_of_getElem? e)
  · rw [List.getD_eq_getElem?_getD, List.getElem?_eq_none hl]
    exact nd0_wf
/-- The cells of a node at an address. -/
structure NdAt (w : World) (ad : Addr) (k : Nat) (x : Nd) : Prop where
  name : w.cell? (ad.add (k * 7)) = some (.string x.name)
  kind : w.cell? ⟨(ad.add (k * 7)).block, (ad.add (k * 7)).off + 1, none⟩ = some (.int .i64 x.kind)
  above : w.cell? ⟨(ad.add (k * 7)).block, (ad.add (k * 7)).off + 2, none⟩ = some (.int .i64 x.above)
  weight : w.cell? ⟨(ad.add (k * 7)).block, (ad.add (k * 7)).off + 3, none⟩ = some (.int .i64 x.weight)
  six : w.cell? ⟨(ad.add (k * 7)).block, (ad.add (k * 7)).off + 4, none⟩ = some (.bool x.six)
  hi : w.cell? ⟨(ad.add (k * 7)).block, (ad.add (k * 7)).off + 5, none⟩ = some (.int .u64 x.hi)
  lo : w.cell? ⟨(ad.add (k * 7)).block, (ad.add (k * 7)).off + 6, none⟩ = some (.int .u64 x.lo)
theorem add_far (ad : Addr) (i j : Nat) (hj : 0 < j) : ad.add (i + j) = ⟨(ad.add i).block, (ad.add i).off + j, none⟩ := by
  rw [← add_of_add]
  generalize ad.add i = q
  unfold Addr.add
  rw [if_neg (by omega)]
theorem IsNodes.at_ {w : World} {A : Option Addr} {n c : Nat} {l : List Nd} (h : IsNodes w A n c l) {k : Nat} (hk : k < n) :
    ∃ ad, A = some ad ∧ ad.block < w.heap.size ∧ NdAt w ad k (l.getD k nd0) := by
  obtain ⟨ad, e, hb, hc⟩ := h.reads.2 (by omega)
  have hl : k < l.length := by rw [h.len]; exact hk
  have e2 : l[k]? = some (l.getD k nd0) := by rw [List.getD_eq_getElem?_getD, List.getElem?_eq_getElem hl]; rfl
  have hat : ∀ j u, j < 7 → (l.getD k nd0).cells[j]? = some u → w.cell? (ad.add (k * 7 + j)) = some u := fun j u hj hu => hc _ u (by rw [flat_at _ _ _ hj, e2]; exact hu)
  refine ⟨ad, e, hb, hat 0 _ (by omega) rfl, ?_, ?_, ?_, ?_, ?_, ?_⟩ <;> rw [← add_far _ _ _ (by omega)]
  · exact hat 1 _ (by omega) rfl
  · exact hat 2 _ (by omega) rfl
  · exact hat 3 _ (by omega) rfl
  · exact hat 4 _ (by omega) rfl
  · exact hat 5 _ (by omega) rfl
  · exact hat 6 _ (by omega) rfl
theorem IsNodes.keep {w w' : World} {A : Option Addr} {n c : Nat} {l : List Nd} (h : IsNodes w A n c l) (hx : Below w.heap.size w w') : IsNodes w' A n c l :=
  ⟨(h.reads.below hx).more hx.size, h.len, h.cap, h.small, h.reach, h.wf⟩
theorem IsNodes.cut {w : World} {A : Option Addr} {n c : Nat} {l : List Nd} (h : IsNodes w A n c l) {k : Nat} (hk : k ≤ n) : IsNodes w A k c (l.take k) :=
  ⟨flat_take l k ▸ h.reads.take hk, by rw [List.length_take, h.len]; omega, Nat.le_trans hk h.cap, h.small, Nat.le_trans hk h.reach, fun p hp => h.wf p (List.mem_of_mem_take hp)⟩
theorem IsNodes.reads' {w : World} {A : Option Addr} {n c : Nat} {l : List Nd} (h : IsNodes w A n c l) : Reads w w.heap.size 7 A n (flat l) := h.reads
section
variable {H : Type} {enc : TypeId × Value → H} {W : World} {base : Nat} {sp : Nat → Bool} {held : Bool}
/-- The fields of a node, as the form lays them. -/
structure NodeType (e : TypeId) (f0 f1 f2 f3 f4 g0 g1 g2 : Field) : Prop where
  he : Try.prog.underlying e = some (.struct #[f0, f1, f2, f3, f4])
  ha : Try.prog.underlying f4.type = some (.struct #[g0, g1, g2])
  hc : Try.prog.cellsOf e = 7
  c0 : f0.offset = 0 ∧ Try.prog.cellsOf f0.type = 1
  c1 : f1.offset = 1 ∧ Try.prog.cellsOf f1.type = 1
  c2 : f2.offset = 2 ∧ Try.prog.cellsOf f2.type = 1
  c3 : f3.offset = 3 ∧ Try.prog.cellsOf f3.type = 1
  c4 : f4.offset = 4 ∧ Try.prog.cellsOf f4.type = 3
  d0 : g0.offset = 0 ∧ Try.prog.cellsOf g0.type = 1
  d1 : g1.offset = 1 ∧ Try.prog.cellsOf g1.type = 1
  d2 : g2.offset = 2 ∧ Try.prog.cellsOf g2.type = 1
  e0 : Try.prog.underlying f0.type = some .string
  e1 : Try.prog.underlying f1.type = some (.int .i64)
  e2 : Try.prog.underlying f2.type = some (.int .i64)
  e3 : Try.prog.underlying f3.type = some (.int .i64)
  k0 : Try.prog.underlying g0.type = some .bool
  k1 : Try.prog.underlying g1.type = some (.int .u64)
  k2 : Try.prog.underlying g2.type = some (.int .u64)
theorem trod_node {e : TypeId} {f0 f1 f2 f3 f4 g0 g1 g2 : Field} (hT : NodeType e f0 f1 f2 f3 f4 g0 g1 g2) {fuel : Nat} {cs : List Value} {x : DataW H × List MemPlace}
    (h : DataW.trod enc Try.prog W base sp held fuel e cs = some x) : ∃ y : Nd, cs = y.cells ∧ y.Wf := by
  obtain ⟨ys, n, _, _, hlen, hyl, hf⟩ := DataW.trod_struct hT.he h
  rw [hT.hc] at hlen
  have hs : ys.length = 5 := hyl
  have some_of : ∀ i, i < 5 → ∃ y, ys[i]? = some y := fun i hi => ⟨_, List.getElem?_eq_getElem (by omega)⟩
  have t0 := hf 0 f0 rfl
  have t1 := hf 1 f1 rfl
  have t2 := hf 2 f2 rfl
  have t3 := hf 3 f3 rfl
  have t4 := hf 4 f4 rfl
  rw [hT.c0.1, hT.c0.2] at t0
  rw [hT.c1.1, hT.c1.2] at t1
  rw [hT.c2.1, hT.c2.2] at t2
  rw [hT.c3.1, hT.c3.2] at t3
  rw [hT.c4.1, hT.c4.2] at t4
  obtain ⟨y0, q0⟩ := some_of 0 (by omega)
  obtain ⟨y1, q1⟩ := some_of 1 (by omega)
  obtain ⟨y2, q2⟩ := some_of 2 (by omega)
  obtain ⟨y3, q3⟩ := some_of 3 (by omega)
  obtain ⟨y4, q4⟩ := some_of 4 (by omega)
  obtain ⟨s0, r0, _, w0⟩ := DataW.trod_string hT.e0 (t0.trans q0)
  obtain ⟨z1, r1, _, w1⟩ := DataW.trod_int hT.e1 (t1.trans q1)
  obtain ⟨z2, r2, _, w2⟩ := DataW.trod_int hT.e2 (t2.trans q2)
  obtain ⟨z3, r3, _, w3⟩ := DataW.trod_int hT.e3 (t3.trans q3)
  obtain ⟨zs, m, _, _, hlen2, hzl, hg⟩ := DataW.trod_struct hT.ha (t4.trans q4)
  have hs2 : zs.length = 3 := hzl
  have some_of2 : ∀ i, i < 3 → ∃ y, zs[i]? = some y := fun i hi => ⟨_, List.getElem?_eq_getElem (by omega)⟩
  have u0 := hg 0 g0 rfl
  have u1 := hg 1 g1 rfl
  have u2 := hg 2 g2 rfl
  rw [hT.d0.1, hT.d0.2] at u0
  rw [hT.d1.1, hT.d1.2] at u1
  rw [hT.d2.1, hT.d2.2] at u2
  obtain ⟨x0, v0⟩ := some_of2 0 (by omega)
  obtain ⟨x1, v1⟩ := some_of2 1 (by omega)
  obtain ⟨x2, v2⟩ := some_of2 2 (by omega)
  obtain ⟨b, r4, _⟩ := DataW.trod_bool hT.k0 (u0.trans v0)
  obtain ⟨z5, r5, _, w5⟩ := DataW.trod_int hT.k1 (u1.trans v1)
  obtain ⟨z6, r6, _, w6⟩ := DataW.trod_int hT.k2 (u2.trans v2)
  clear t0 t1 t2 t3 t4 u0 u1 u2 hf hg h
  match cs, hlen with
  | [a0, a1, a2, a3, a4, a5, a6], _ =>
    simp at r0 r1 r2 r3 r4 r5 r6
    subst r0 r1 r2 r3 r4 r5 r6
    have b1 := i64_of_wf w1
    have b2 := i64_of_wf w2
    have b3 := i64_of_wf w3
    have b5 := u64_of_wf w5
    have b6 := u64_of_wf w6
    exact ⟨⟨s0, z1, z2, z3, b, z5, z6⟩, rfl, ⟨w0, b1.1, b1.2, b2.1, b2.2, b3.1, b3.2, b5.1, b5.2, b6.1, b6.2⟩⟩
set_option maxRecDepth 100000 in
theorem open_node {r : Reach} {b0 : Nat} {e : TypeId} {f0 f1 f2 f3 f4 g0 g1 g2 : Field} (hT : NodeType e f0 f1 f2 f3 f4 g0 g1 g2) {v : Value} {d : DataW H} {p : List MemPlace}
    (hv : Value.okWide Try.prog W r b0 e v) (h : DataW.Trod enc Try.prog W base sp held e v d p) : ∃ x : Nd, v = .agg ⟨x.cells⟩ ∧ x.Wf := by
  obtain ⟨cs, rfl, _⟩ := okWide_struct hT.he hv
  obtain ⟨fuel, hf⟩ := h
  obtain ⟨x, hx, hw⟩ := trod_node hT hf
  refine ⟨x, ?_, hw⟩
  have : cs.toList = x.cells := by simpa [Value.cells] using hx
  rw [← this]
set_option maxRecDepth 100000 in
theorem open_nodes {r : Reach} {b0 : Nat} {t e : TypeId} {f0 f1 f2 f3 f4 g0 g1 g2 : Field} (hT : NodeType e f0 f1 f2 f3 f4 g0 g1 g2) (ht : Try.prog.underlying t = some (.slice e)) (hby : 16 ≤ Try.prog.bytesOf e) {v : Value} {d : DataW H} {p : List MemPlace}
    (hv : Value.okWide Try.prog W r b0 t v) (h : DataW.Trod enc Try.prog W base (fun _ => true) true t v d p) (hlt : ∀ x ∈ p, x.block < W.heap.size)
    (hs : ∀ (e : TypeId) (elems spare : List (DataW H)), d = .slice elems spare → Try.prog.underlying t = some (.slice e) → (elems.length + spare.length) * Try.prog.bytesOf e ≤ reachBytes) :
    ∃ (A : Option Addr) (n c : Nat) (l : List Nd), v = .slice A n c ∧ IsNodes W A n c l := by
  obtain ⟨a0, len, cap, rfl⟩ := okWide_slice ht hv
  obtain ⟨fuel, hf⟩ := h
  rcases open_slice ht hf with ⟨hcs, hx⟩ | ⟨a, len', cap', m, n, D, Pl, hcs, _, hl, hm, hmm, hx, hi⟩
  · simp [Value.cells] at hcs
    obtain ⟨rfl, rfl, rfl⟩ := hcs
    exact ⟨none, 0, 0, [], rfl, isNodes_nil W⟩
  · simp [Value.cells] at hcs
    obtain ⟨rfl, rfl, rfl⟩ := hcs
    simp only [if_true] at hmm
    subst hmm
    rw [hT.hc] at hx hi
    simp only [Prod.mk.injEq] at hx
    obtain ⟨rfl, rfl⟩ := hx
    have hat : ∀ i, i < len → ∃ y : Nd, y.Wf ∧ ∀ j, j < 7 → W.cell? (a.add (i * 7 + j)) = y.cells[j]? := by
      intro i him
      obtain ⟨cs', hc, ht'⟩ := hi i (by omega)
      obtain ⟨y, rfl, hw⟩ := trod_node hT ht'
      obtain ⟨_, hcl, hcat⟩ := World.cells?_some hc
      exact ⟨y, hw, fun j hj => by rw [← add_of_add]; exact hcat j hj⟩
    obtain ⟨l, hll, hcl⟩ : ∃ l : List Nd, l.length = len ∧ ∀ i q, l[i]? = some q → q.Wf ∧ ∀ j, j < 7 → W.cell? (a.add (i * 7 + j)) = q.cells[j]? := by
      refine ⟨(List.range len).map fun i => if hi : i < len then (hat i hi).choose else nd0, by simp, fun i q hq => ?_⟩
      rw [List.getElem?_map] at hq
      obtain ⟨j, hj, rfl⟩ := Option.map_eq_some_iff.1 hq
      have hlen : i < len := by
        rcases Nat.lt_or_ge i len with h1 | h1
        · exact h1
        · rw [List.getElem?_eq_none (by simpa using h1)] at hj; cases hj
      rw [List.getElem?_range hlen] at hj
      obtain rfl := Option.some.inj hj
      rw [dif_pos hlen]
      exact (hat i hlen).choose_spec
    refine ⟨some a, len, m, l, rfl, ⟨by rw [flat_len, hll], fun hn => ⟨a, rfl, ?_, fun j u hu => ?_⟩⟩, hll, hl, (by unfold maxLen at hm; omega), ?_, fun q hq => ?_⟩
    · have := hlt (MemPlace.cell a.block a.off) (by
        refine List.mem_append_left _ ?_
        simp [MemPlace.row]
        omega)
      exact this
    · have e : j = j / 7 * 7 + j % 7 := by omega
      rw [e, flat_at _ _ _ (by omega)] at hu
      obtain ⟨q, hq, hu⟩ := Option.bind_eq_some_iff.1 hu
      rw [e, (hcl _ q hq).2 _ (by omega)]
      exact hu
    · have := hs e _ _ rfl ht
      simp only [List.length_map, List.length_range, reachBytes] at this
      have h2 : (len + (m - len)) * 16 ≤ (len + (m - len)) * Try.prog.bytesOf e := Nat.mul_le_mul_left _ hby
      omega
    · obtain ⟨i, hi⟩ := List.mem_iff_getElem?.1 hq
      exact (hcl i q hi).1
end
end Go.Proofs.Ytcpfekhpbjkgeaa
end
section
/- Rows of structs of any one shape in memory, and as arguments. -/
set_option linter.unusedVariables false
namespace Go.Proofs.Ytcpfekhpbjkgeaa
open Go.ChangeShapes Go.WideShapes Go.ChangeAt Go.RowKit Go.Deep
structure Shape (α : Type) where
  z : α
  size : Nat
  cells : α → List Value
  Wf : α → Prop
  pos : 0 < size
  len : ∀ x, (cells x).length = size
  one : ∀ x, ∀ u ∈ cells x, u.oneCell' = true
  zwf : Wf z
section
variable {α : Type} (C : Shape α)
def Shape.flat (l : List α) : List Value := l.flatMap C.cells
theorem Shape.flat_len : ∀ l : List α, (C.flat l).length = l.length * C.size
  | [] => by simp [Shape.flat]
  | x :: l => by
    have := Shape.flat_len l
    simp only [Shape.flat, List.flatMap_cons, List.length_append, C.len, List.length_cons, Nat.succ_mul] at this ⊢
    omega
theorem Shape.flat_at : ∀ (l : List α) (i j : Nat), j < C.size → (C.flat l)[i * C.size + j]? = (l[i]?).bind fun x => (C.cells x)[j]?
  | [], i, j, _ => by simp [Shape.flat]
  | x :: l, 0, j, h => by
    simp only [Shape.flat, List.flatMap_cons, Nat.zero_mul, Nat.zero_add, List.getElem?_cons_zero, Option.bind_some]
    rw [List.getElem?_append_left (by rw [C.len]; exact h)]
  | x :: l, i + 1, j, h => by
    have := Shape.flat_at l i j h
    simp only [Shape.flat, List.flatMap_cons] at this ⊢
    rw [List.getElem?_append_right (by rw [C.len, Nat.succ_mul]; omega), C.len, List.getElem?_cons_succ, ← this]
    congr 1
    rw [Nat.succ_mul]
    omega
theorem Shape.split (i : Nat) : i = i / C.size * C.size + i % C.size ∧ i % C.size < C.size := ⟨(Nat.div_add_mod' i C.size).symm, Nat.mod_lt _ C.pos⟩
theorem Shape.flat_take (l : List α) (k : Nat) : (C.flat l).take (k * C.size) = C.flat (l.take k) := by
  apply List.ext_getElem?
  intro i
  obtain ⟨e, h⟩ := C.split i
  rw [List.getElem?_take, e, C.flat_at _ _ _ h, C.flat_at _ _ _ h, List.getElem?_take]
  have hk : i / C.size * C.size + i % C.size < k * C.size ↔ i / C.size < k := by
    rw [← e, Nat.div_lt_iff_lt_mul C.pos]
  by_cases h2 : i / C.size < k
  · rw [if_pos (hk.2 h2), if_pos h2]
  · rw [if_neg (fun h => h2 (hk.1 h)), if_neg h2]; rfl
theorem Shape.flat_snoc (l : List α) (x : α) : C.flat (l ++ [x]) = C.flat l ++ C.cells x := by simp [Shape.flat]
/-- A slice of such. -/
structure IsRow (w : World) (A : Option Addr) (n c : Nat) (l : List α) : Prop where
  reads : Reads w w.heap.size C.size A n (C.flat l)
  len : l.length = n
  cap : n ≤ c
  small : c ≤ 9223372036854775807
  reach : n ≤ 8796093021952
  wf : ∀ x ∈ l, C.Wf x
theorem isRow_nil (w : World) : IsRow C w none 0 0 [] where
  reads := Reads.none_
  len := rfl
  cap := Nat.le_refl _
  small := Nat.zero_le _
  reach := by simp
  wf := fun z hz => by cases hz
variable {C}
section
variable {w w' : World} {A : Option Addr} {n c : Nat} {l : List α}
theorem IsRow.wfd (h : IsRow C w A n c l) (k : Nat) : C.Wf (l.getD k C.z) := by
  rcases Nat.lt_or_ge k l.length with hl | hl
  · have e : l[k]? = some (l.getD k C.z) := by rw [List.getD_eq_getElem?_getD, List.getElem?_eq_getElem hl]; rfl
    exact h.wf _ (List.mem_of_getElem? e)
  · rw [List.getD_eq_getElem?_getD, List.getElem?_eq_none hl]
    exact C.zwf
theorem IsRow.at_ (h : IsRow C w A n c l) {k : Nat} (hk : k < n) :
    ∃ ad, A = some ad ∧ ad.block < w.heap.size ∧ ∀ j u, (C.cells (l.getD k C.z))[j]? = some u → w.cell? (ad.add (k * C.size + j)) = some u := by
  obtain ⟨ad, e, hb, hc⟩ := h.reads.2 (by omega)
  have hl : k < l.length := by rw [h.len]; exact hk
  have e2 : l[k]? = some (l.getD k C.z) := by rw [List.getD_eq_getElem?_getD, List.getElem?_eq_getElem hl]; rfl
  refine ⟨ad, e, hb, fun j u hu => hc _ u ?_⟩
  have hj : j < C.size := by
    rw [← C.len (l.getD k C.z)]
    rcases Nat.lt_or_ge j (C.cells (l.getD k C.z)).length with h1 | h1
    · exact h1
    · rw [List.getElem?_eq_none h1] at hu; cases hu
  rw [C.flat_at _ _ _ hj, e2]
  exact hu
theorem IsRow.keep (h : IsRow C w A n c l) (hx : Below w.heap.size w w') : IsRow C w' A n c l :=
  ⟨(h.reads.below hx).more hx.size, h.len, h.cap, h.small, h.reach, h.wf⟩
theorem IsRow.cut (h : IsRow C w A n c l) {k : Nat} (hk : k ≤ n) : IsRow C w A k c (l.take k) :=
  ⟨C.flat_take l k ▸ h.reads.take hk, by rw [List.length_take, h.len]; omega, Nat.le_trans hk h.cap, h.small, Nat.le_trans hk h.reach, fun p hp => h.wf p (List.mem_of_mem_take hp)⟩
end
section
variable {H : Type} {enc : TypeId × Value → H} {W : World} {base : Nat} {sp : Nat → Bool} {held : Bool}
set_option maxRecDepth 100000 in
theorem open_rows {t e : TypeId} (hT : ∀ (fuel : Nat) (cs : List Value) (x : DataW H × List MemPlace), DataW.trod enc Try.prog W base (fun _ => true) true fuel e cs = some x → ∃ y : α, cs = C.cells y ∧ C.Wf y) (hc : Try.prog.cellsOf e = C.size)
    (ht : Try.prog.underlying t = some (.slice e)) (hby : 16 ≤ Try.prog.bytesOf e) {fuel : Nat} {cs : List Value} {x : DataW H × List MemPlace}
    (hf : DataW.trod enc Try.prog W base (fun _ => true) true fuel t cs = some x) (hlt : ∀ q ∈ x.2, q.block < W.heap.size)
    (hs : ∀ (elems spare : List (DataW H)), x.1 = .slice elems spare → (elems.length + spare.length) * Try.prog.bytesOf e ≤ reachBytes) :
    ∃ (A : Option Addr) (n c : Nat) (l : List α), cs = [.slice A n c] ∧ IsRow C W A n c l := by
  rcases open_slice ht hf with ⟨hcs, hx⟩ | ⟨a, len, cap, m, n, D, Pl, hcs, _, hl, hm, hmm, hx, hi⟩
  · exact ⟨none, 0, 0, [], hcs, isRow_nil C W⟩
  · simp only [if_true] at hmm
    subst hmm
    rw [hc] at hx hi
    obtain ⟨x1, x2⟩ := x
    simp only [Prod.mk.injEq] at hx
    obtain ⟨rfl, rfl⟩ := hx
    have hat : ∀ i, i < len → ∃ y : α, C.Wf y ∧ ∀ j, j < C.size → W.cell? (a.add (i * C.size + j)) = (C.cells y)[j]? := by
      intro i him
      obtain ⟨cs', hc2, ht'⟩ := hi i (by omega)
      obtain ⟨y, rfl, hw⟩ := hT _ _ _ ht'
      obtain ⟨_, hcl, hcat⟩ := World.cells?_some hc2
      exact ⟨y, hw, fun j hj => by rw [← add_of_add]; exact hcat j hj⟩
    obtain ⟨l, hll, hcl⟩ : ∃ l : List α, l.length = len ∧ ∀ i q, l[i]? = some q → C.Wf q ∧ ∀ j, j < C.size → W.cell? (a.add (i * C.size + j)) = (C.cells q)[j]? := by
      refine ⟨(List.range len).map fun i => if hi : i < len then (hat i hi).choose else C.z, by simp, fun i q hq => ?_⟩
      rw [List.getElem?_map] at hq
      obtain ⟨j, hj, rfl⟩ := Option.map_eq_some_iff.1 hq
      have hlen : i < len := by
        rcases Nat.lt_or_ge i len with h1 | h1
        · exact h1
        · rw [List.getElem?_eq_none (by simpa using h1)] at hj; cases hj
      rw [List.getElem?_range hlen] at hj
      obtain rfl := Option.some.inj hj
      rw [dif_pos hlen]
      exact (hat i hlen).choose_spec
    refine ⟨some a, len, m, l, hcs, ⟨by rw [C.flat_len, hll], fun hn => ⟨a, rfl, ?_, fun j u hu => ?_⟩⟩, hll, hl, (by unfold maxLen at hm; omega), ?_, fun q hq => ?_⟩
    · have hp := C.pos
      have h0 : 0 < m * C.size := Nat.mul_pos (by omega) hp
      have := hlt (MemPlace.cell a.block a.off) (by
        refine List.mem_append_left _ ?_
        unfold MemPlace.row
        refine List.mem_map.2 ⟨0, List.mem_range.2 h0, ?_⟩
        simp)
      exact this
    · obtain ⟨e, hj⟩ := C.split j
      rw [e, C.flat_at _ _ _ hj] at hu
      obtain ⟨q, hq, hu⟩ := Option.bind_eq_some_iff.1 hu
      rw [e, (hcl _ q hq).2 _ hj]
      exact hu
    · have := hs _ _ rfl
      simp only [List.length_map, List.length_range, reachBytes] at this
      have h2 : (len + (m - len)) * 16 ≤ (len + (m - len)) * Try.prog.bytesOf e := Nat.mul_le_mul_left _ hby
      omega
    · obtain ⟨i, hi⟩ := List.mem_iff_getElem?.1 hq
      exact (hcl i q hi).1
theorem sized_struct {ts : List TypeId} {ds : List (DataW H)} (h : (DataW.weightsEach Try.prog ts ds).all (· ≤ reachBytes) = true) {j : Nat} {t : TypeId} {fs : Array Field} {parts : List (DataW H)} (ht : ts[j]? = some t) (hd : ds[j]? = some (.agg parts)) (hu : Try.prog.underlying t = some (.struct fs)) :
    (DataW.weightsEach Try.prog (fs.toList.map (·.type)) parts).all (· ≤ reachBytes) = true := by
  rw [List.all_eq_true]
  intro x hx
  exact List.all_eq_true.1 h _ (DataW.weights_mem_each ht hd x (by simp only [DataW.weights, hu]; exact hx))
end
end
/-! The shapes of addresses that are balanced, and of views. -/
structure Vp where
  six : Bool
  hi : Int
  lo : Int
  proto : Int
  port : Int
  copies : Int
  nat : Bool
structure Vw where
  six : Bool
  hi : Int
  lo : Int
  bits : Int
  level : Int
def U64 (x : Int) : Prop := 0 ≤ x ∧ x < 18446744073709551616
def I64 (x : Int) : Prop := -9223372036854775808 ≤ x ∧ x ≤ 9223372036854775807
def vpShape : Shape Vp where
  z := ⟨false, 0, 0, 0, 0, 0, false⟩
  size := 7
  cells := fun x => [.bool x.six, .int .u64 x.hi, .int .u64 x.lo, .int .i64 x.proto, .int .i64 x.port, .int .i64 x.copies, .bool x.nat]
  Wf := fun x => U64 x.hi ∧ U64 x.lo ∧ I64 x.proto ∧ I64 x.port ∧ I64 x.copies
  pos := by decide
  len := fun _ => rfl
  one := fun x u hu => by
    simp at hu
    rcases hu with rfl | rfl | rfl | rfl | rfl | rfl | rfl <;> rfl
  zwf := by unfold U64 I64; decide
def vwShape : Shape Vw where
  z := ⟨false, 0, 0, 0, 0⟩
  size := 5
  cells := fun x => [.bool x.six, .int .u64 x.hi, .int .u64 x.lo, .int .i64 x.bits, .int .i64 x.level]
  Wf := fun x => U64 x.hi ∧ U64 x.lo ∧ I64 x.bits ∧ I64 x.level
  pos := by decide
  len := fun _ => rfl
  one := fun x u hu => by
    simp at hu
    rcases hu with rfl | rfl | rfl | rfl | rfl <;> rfl
  zwf := by unfold U64 I64; decide
/-- The cells of one, at an address. -/
structure VpAt (w : World) (ad : Addr) (k : Nat) (x : Vp) : Prop where
  six : w.cell? (ad.add (k * 7)) = some (.bool x.six)
  hi : w.cell? ⟨(ad.add (k * 7)).block, (ad.add (k * 7)).off + 1, none⟩ = some (.int .u64 x.hi)
  lo : w.cell? ⟨(ad.add (k * 7)).block, (ad.add (k * 7)).off + 2, none⟩ = some (.int .u64 x.lo)
  proto : w.cell? ⟨(ad.add (k * 7)).block, (ad.add (k * 7)).off + 3, none⟩ = some (.int .i64 x.proto)
  port : w.cell? ⟨(ad.add (k * 7)).block, (ad.add (k * 7)).off + 4, none⟩ = some (.int .i64 x.port)
  copies : w.cell? ⟨(ad.add (k * 7)).block, (ad.add (k * 7)).off + 5, none⟩ = some (.int .i64 x.copies)
  nat : w.cell? ⟨(ad.add (k * 7)).block, (ad.add (k * 7)).off + 6, none⟩ = some (.bool x.nat)
theorem IsRow.vpat_ {w : World} {A : Option Addr} {n c : Nat} {l : List Vp} (h : IsRow vpShape w A n c l) {k : Nat} (hk : k < n) : ∃ ad, A = some ad ∧ ad.block < w.heap.size ∧ VpAt w ad k (l.getD k vpShape.z) := by
  obtain ⟨ad, e, hb, hat⟩ := h.at_ hk
  have hat : ∀ j u, (vpShape.cells (l.getD k vpShape.z))[j]? = some u → w.cell? (ad.add (k * 7 + j)) = some u := hat
  refine ⟨ad, e, hb, hat 0 _ rfl, ?_, ?_, ?_, ?_, ?_, ?_⟩ <;> rw [← add_far _ _ _ (by omega)]
  · exact hat 1 _ rfl
  · exact hat 2 _ rfl
  · exact hat 3 _ rfl
  · exact hat 4 _ rfl
  · exact hat 5 _ rfl
  · exact hat 6 _ rfl
/-- The cells of one, at an address. -/
structure VwAt (w : World) (ad : Addr) (k : Nat) (x : Vw) : Prop where
  six : w.cell? (ad.add (k * 5)) = some (.bool x.six)
  hi : w.cell? ⟨(ad.add (k * 5)).block, (ad.add (k * 5)).off + 1, none⟩ = some (.int .u64 x.hi)
  lo : w.cell? ⟨(ad.add (k * 5)).block, (ad.add (k * 5)).off + 2, none⟩ = some (.int .u64 x.lo)
  bits : w.cell? ⟨(ad.add (k * 5)).block, (ad.add (k * 5)).off + 3, none⟩ = some (.int .i64 x.bits)
  level : w.cell? ⟨(ad.add (k * 5)).block, (ad.add (k * 5)).off + 4, none⟩ = some (.int .i64 x.level)
theorem IsRow.vwat_ {w : World} {A : Option Addr} {n c : Nat} {l : List Vw} (h : IsRow vwShape w A n c l) {k : Nat} (hk : k < n) : ∃ ad, A = some ad ∧ ad.block < w.heap.size ∧ VwAt w ad k (l.getD k vwShape.z) := by
  obtain ⟨ad, e, hb, hat⟩ := h.at_ hk
  have hat : ∀ j u, (vwShape.cells (l.getD k vwShape.z))[j]? = some u → w.cell? (ad.add (k * 5 + j)) = some u := hat
  refine ⟨ad, e, hb, hat 0 _ rfl, ?_, ?_, ?_, ?_⟩ <;> rw [← add_far _ _ _ (by omega)]
  · exact hat 1 _ rfl
  · exact hat 2 _ rfl
  · exact hat 3 _ rfl
  · exact hat 4 _ rfl
end Go.Proofs.Ytcpfekhpbjkgeaa
end
section
/- A slice of structs of any shape among the arguments. -/
set_option linter.unusedVariables false
namespace Go.Proofs.Ytcpfekhpbjkgeaa
open Go.ChangeShapes Go.WideShapes Go.ChangeAt Go.RowKit Go.Deep
set_option maxRecDepth 100000 in
theorem open_rowsV {α : Type} {C : Shape α} {H : Type} {enc : TypeId × Value → H} {W : World} {base : Nat} {r : Reach} {b0 : Nat} {t e : TypeId} {v : Value} {d : DataW H} {p : List MemPlace}
    (hT : ∀ (fuel : Nat) (cs : List Value) (x : DataW H × List MemPlace), DataW.trod enc Try.prog W base (fun _ => true) true fuel e cs = some x → ∃ y : α, cs = C.cells y ∧ C.Wf y) (hc : Try.prog.cellsOf e = C.size)
    (ht : Try.prog.underlying t = some (.slice e)) (hby : 16 ≤ Try.prog.bytesOf e)
    (hv : Value.okWide Try.prog W r b0 t v) (h : DataW.Trod enc Try.prog W base (fun _ => true) true t v d p) (hlt : ∀ x ∈ p, x.block < W.heap.size)
    (hs : ∀ (e : TypeId) (elems spare : List (DataW H)), d = .slice elems spare → Try.prog.underlying t = some (.slice e) → (elems.length + spare.length) * Try.prog.bytesOf e ≤ reachBytes) :
    ∃ (A : Option Addr) (n c : Nat) (l : List α), v = .slice A n c ∧ IsRow C W A n c l := by
  obtain ⟨a0, len, cap, rfl⟩ := okWide_slice ht hv
  obtain ⟨fuel, hf⟩ := h
  obtain ⟨A, n, c, l, hcs, hr⟩ := open_rows hT hc ht hby hf hlt (fun elems spare e2 => hs _ elems spare e2 ht)
  simp [Value.cells] at hcs
  obtain ⟨rfl, rfl, rfl⟩ := hcs
  exact ⟨_, _, _, l, rfl, hr⟩
end Go.Proofs.Ytcpfekhpbjkgeaa
end
section
/- Slices of structs that hold slices, among the arguments. -/
set_option linter.unusedVariables false
namespace Go.Proofs.Ytcpfekhpbjkgeaa
open Go.ChangeShapes Go.WideShapes Go.ChangeAt Go.RowKit Go.Deep
section
variable {H : Type}
def Small (t : TypeId) (d : DataW H) : Prop := (d.weights Try.prog t).all (· ≤ reachBytes) = true
theorem small_at {ts : List TypeId} {ds : List (DataW H)} (h : (DataW.weightsEach Try.prog ts ds).all (· ≤ reachBytes) = true) {j : Nat} {t : TypeId} {d : DataW H} (ht : ts[j]? = some t) (hd : ds[j]? = some d) : Small t d :=
  List.all_eq_true.2 fun n hn => List.all_eq_true.1 h _ (DataW.weights_mem_each ht hd n hn)
theorem weights_all {e : TypeId} {n : Nat} : ∀ {l : List (DataW H)} {d : DataW H}, d ∈ l → n ∈ d.weights Try.prog e → n ∈ DataW.weightsAll Try.prog e l
  | x :: l, d, hd, hn => by
    rw [DataW.weightsAll, List.mem_append]
    rcases List.mem_cons.1 hd with rfl | hd
    · exact .inl hn
    · exact .inr (weights_all hd hn)
theorem small_slice {t e : TypeId} {es sp : List (DataW H)} (ht : Try.prog.underlying t = some (.slice e)) (h : Small t (.slice es sp)) : (es.length + sp.length) * Try.prog.bytesOf e ≤ reachBytes ∧ ∀ d ∈ es, Small e d := by
  unfold Small at h
  rw [DataW.weights, ht] at h
  have h := List.all_eq_true.1 h
  refine ⟨of_decide_eq_true (h _ List.mem_cons_self), fun d hd => List.all_eq_true.2 fun n hn => h n (List.mem_cons_of_mem _ (List.mem_append_left _ (weights_all hd hn)))⟩
theorem small_struct {t : TypeId} {fs : Array Field} {ps : List (DataW H)} (ht : Try.prog.underlying t = some (.struct fs)) (h : Small t (.agg ps)) {j : Nat} {f : Field} {d : DataW H} (hf : fs[j]? = some f) (hd : ps[j]? = some d) : Small f.type d := by
  unfold Small at h
  rw [DataW.weights, ht] at h
  exact small_at h (by rw [List.getElem?_map, Array.getElem?_toList, hf]; rfl) hd
variable {enc : TypeId × Value → H} {W : World} {base : Nat}
/-- What a reading of an argument bears. -/
def Good (W : World) (t : TypeId) (x : DataW H × List MemPlace) : Prop := (∀ q ∈ x.2, q.block < W.heap.size) ∧ Small t x.1
set_option maxRecDepth 100000 in
theorem open_rowsD {α : Type} {C : Shape α} (E : α → Prop) {t e : TypeId} (hT : ∀ (fuel : Nat) (cs : List Value) (x : DataW H × List MemPlace), DataW.trod enc Try.prog W base (fun _ => true) true fuel e cs = some x → Good W e x → ∃ y : α, cs = C.cells y ∧ C.Wf y ∧ E y) (hc : Try.prog.cellsOf e = C.size)
    (ht : Try.prog.underlying t = some (.slice e)) (hby : 16 ≤ Try.prog.bytesOf e) {fuel : Nat} {cs : List Value} {x : DataW H × List MemPlace}
    (hf : DataW.trod enc Try.prog W base (fun _ => true) true fuel t cs = some x) (hg : Good W t x) :
    ∃ (A : Option Addr) (n c : Nat) (l : List α), cs = [.slice A n c] ∧ IsRow C W A n c l ∧ ∀ y ∈ l, E y := by
  rcases open_slice ht hf with ⟨hcs, hx⟩ | ⟨a, len, cap, m, n, D, Pl, hcs, _, hl, hm, hmm, hx, hi⟩
  · exact ⟨none, 0, 0, [], hcs, isRow_nil C W, fun y hy => by cases hy⟩
  · simp only [if_true] at hmm
    subst hmm
    rw [hc] at hx hi
    obtain ⟨x1, x2⟩ := x
    simp only [Prod.mk.injEq] at hx
    obtain ⟨rfl, rfl⟩ := hx
    obtain ⟨hlt, hsm⟩ := hg
    obtain ⟨hs, hse⟩ := small_slice ht hsm
    have hat : ∀ i, i < len → ∃ y : α, (C.Wf y ∧ E y) ∧ ∀ j, j < C.size → W.cell? (a.add (i * C.size + j)) = (C.cells y)[j]? := by
      intro i him
      obtain ⟨cs', hc2, ht'⟩ := hi i (by omega)
      obtain ⟨y, rfl, hw, he⟩ := hT _ _ _ ht' ⟨fun q hq => hlt q (List.mem_append_right _ (List.mem_flatMap.2 ⟨i, List.mem_range.2 (by omega), hq⟩)), hse _ (List.mem_map.2 ⟨i, List.mem_range.2 him, rfl⟩)⟩
      obtain ⟨_, hcl, hcat⟩ := World.cells?_some hc2
      exact ⟨y, ⟨hw, he⟩, fun j hj => by rw [← add_of_add]; exact hcat j hj⟩
    obtain ⟨l, hll, hcl⟩ : ∃ l : List α, l.length = len ∧ ∀ i q, l[i]? = some q → (C.Wf q ∧ E q) ∧ ∀ j, j < C.size → W.cell? (a.add (i * C.size + j)) = (C.cells q)[j]? := by
      refine ⟨(List.range len).map fun i => if hi : i < len then (hat i hi).choose else C.z, by simp, fun i q hq => ?_⟩
      rw [List.getElem?_map] at hq
      obtain ⟨j, hj, rfl⟩ := Option.map_eq_some_iff.1 hq
      have hlen : i < len := by
        rcases Nat.lt_or_ge i len with h1 | h1
        · exact h1
        · rw [List.getElem?_eq_none (by simpa using h1)] at hj; cases hj
      rw [List.getElem?_range hlen] at hj
      obtain rfl := Option.some.inj hj
      rw [dif_pos hlen]
      exact (hat i hlen).choose_spec
    refine ⟨some a, len, m, l, hcs, ⟨⟨by rw [C.flat_len, hll], fun hn => ⟨a, rfl, ?_, fun j u hu => ?_⟩⟩, hll, hl, (by unfold maxLen at hm; omega), ?_, fun q hq => ?_⟩, fun q hq => ?_⟩
    · have hp := C.pos
      have h0 : 0 < m * C.size := Nat.mul_pos (by omega) hp
      have := hlt (MemPlace.cell a.block a.off) (by
        refine List.mem_append_left _ ?_
        unfold MemPlace.row
        refine List.mem_map.2 ⟨0, List.mem_range.2 h0, ?_⟩
        simp)
      exact this
    · obtain ⟨e, hj⟩ := C.split j
      rw [e, C.flat_at _ _ _ hj] at hu
      obtain ⟨q, hq, hu⟩ := Option.bind_eq_some_iff.1 hu
      rw [e, (hcl _ q hq).2 _ hj]
      exact hu
    · simp only [List.length_map, List.length_range, reachBytes] at hs
      have h2 : (len + (m - len)) * 16 ≤ (len + (m - len)) * Try.prog.bytesOf e := Nat.mul_le_mul_left _ hby
      omega
    · obtain ⟨i, hi⟩ := List.mem_iff_getElem?.1 hq
      exact (hcl i q hi).1.1
    · obtain ⟨i, hi⟩ := List.mem_iff_getElem?.1 hq
      exact (hcl i q hi).1.2
set_option maxRecDepth 100000 in
/-- A slice whose elements are not looked at: its length, and its bound. -/
theorem open_sliceN {t e : TypeId} (ht : Try.prog.underlying t = some (.slice e)) (hby : 1 ≤ Try.prog.bytesOf e) {fuel : Nat} {cs : List Value} {x : DataW H × List MemPlace}
    (hf : DataW.trod enc Try.prog W base (fun _ => true) true fuel t cs = some x) (hg : Good W t x) : ∃ (A : Option Addr) (n c : Nat), cs = [.slice A n c] ∧ n ≤ c ∧ n ≤ 140737488355328 ∧ c ≤ 9223372036854775807 := by
  rcases open_slice ht hf with ⟨hcs, hx⟩ | ⟨a, len, cap, m, n, D, Pl, hcs, _, hl, hm, hmm, hx, hi⟩
  · exact ⟨none, 0, 0, hcs, Nat.le_refl _, by omega, by omega⟩
  · obtain ⟨x1, x2⟩ := x
    simp only [Prod.mk.injEq] at hx
    obtain ⟨rfl, rfl⟩ := hx
    obtain ⟨hs, _⟩ := small_slice ht hg.2
    simp only [List.length_map, List.length_range, reachBytes] at hs
    have h2 := Nat.mul_le_mul_left (len + (m - len)) hby
    refine ⟨some a, len, cap, hcs, hl, by omega, by unfold maxLen at hm; omega⟩
set_option maxRecDepth 100000 in
theorem open_rowsDV {α : Type} {C : Shape α} {E : α → Prop} {r : Reach} {b0 : Nat} {t e : TypeId} {v : Value} {d : DataW H} {p : List MemPlace}
    (hT : ∀ (fuel : Nat) (cs : List Value) (x : DataW H × List MemPlace), DataW.trod enc Try.prog W base (fun _ => true) true fuel e cs = some x → Good W e x → ∃ y : α, cs = C.cells y ∧ C.Wf y ∧ E y) (hc : Try.prog.cellsOf e = C.size)
    (ht : Try.prog.underlying t = some (.slice e)) (hby : 16 ≤ Try.prog.bytesOf e)
    (hv : Value.okWide Try.prog W r b0 t v) (h : DataW.Trod enc Try.prog W base (fun _ => true) true t v d p) (hlt : ∀ x ∈ p, x.block < W.heap.size) (hs : Small t d) :
    ∃ (A : Option Addr) (n c : Nat) (l : List α), v = .slice A n c ∧ IsRow C W A n c l ∧ ∀ y ∈ l, E y := by
  obtain ⟨a0, len, cap, rfl⟩ := okWide_slice ht hv
  obtain ⟨fuel, hf⟩ := h
  obtain ⟨A, n, c, l, hcs, hr⟩ := open_rowsD E hT hc ht hby hf ⟨hlt, hs⟩
  simp [Value.cells] at hcs
  obtain ⟨rfl, rfl, rfl⟩ := hcs
  exact ⟨_, _, _, l, rfl, hr⟩
end
end Go.Proofs.Ytcpfekhpbjkgeaa
end
