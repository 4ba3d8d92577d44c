/- Lemmas for the claim's proof: Rowz StabH AppendAny. -/
import Derived.Maps.AppendAt
import Derived.Deep.AppendLies
import Derived.RegionTactic
import Derived.OwnWalk
import Derived.Test.YtcpfekhpbjkgeaaQ03
import Derived.Test.YtcpfekhpbjkgeaaQ06
section
/- Rows of structs of any one shape in memory, and as arguments. -/
set_option linter.unusedVariables false
namespace Go.Proofs.Ytcpfekhpbjkgeaa
open Go.ChangeShapes Go.WideShapes Go.ChangeAt Go.RowKit Go.Deep
structure Shape (α : Type) where
  z : α
  size : Nat
  cells : α → List Value
  Wf : α → Prop
  pos : 0 < size
  len : ∀ x, (cells x).length = size
  one : ∀ x, ∀ u ∈ cells x, u.oneCell' = true
  zwf : Wf z
section
variable {α : Type} (C : Shape α)
def Shape.flat (l : List α) : List Value := l.flatMap C.cells
theorem Shape.flat_len : ∀ l : List α, (C.flat l).length = l.length * C.size
  | [] => by simp [Shape.flat]
  | x :: l => by
    have := Shape.flat_len l
    simp only [Shape.flat, List.flatMap_cons, List.length_append, C.len, List.length_cons, Nat.succ_mul] at this ⊢
    omega
theorem Shape.flat_at : ∀ (l : List α) (i j : Nat), j < C.size → (C.flat l)[i * C.size + j]? = (l[i]?).bind fun x => (C.cells x)[j]?
  | [], i, j, _ => by simp [Shape.flat]
  | x :: l, 0, j, h => by
    simp only [Shape.flat, List.flatMap_cons, Nat.zero_mul, Nat.zero_add, List.getElem?_cons_zero, Option.bind_some]
    rw [List.getElem?_append_left (by rw [C.len]; exact h)]
  | x :: l, i + 1, j, h => by
    have := Shape.flat_at l i j h
    simp only [Shape.flat, List.flatMap_cons] at this ⊢
    rw [List.getElem?_append_right (by rw [C.len, Nat.succ_mul]; omega), C.len, List.getElem?_cons_succ, ← this]
    congr 1
    rw [Nat.succ_mul]
    omega
theorem Shape.split (i : Nat) : i = i / C.size * C.size + i % C.size ∧ i % C.size < C.size := ⟨(Nat.div_add_mod' i C.size).symm, Nat.mod_lt _ C.pos⟩
theorem Shape.flat_take (l : List α) (k : Nat) : (C.flat l).take (k * C.size) = C.flat (l.take k) := by
  apply List.ext_getElem?
  intro i
  obtain ⟨e, h⟩ := C.split i
  rw [List.getElem?_take, e, C.flat_at _ _ _ h, C.flat_at _ _ _ h, List.getElem?_take]
  have hk : i / C.size * C.size + i % C.size < k * C.size ↔ i / C.size < k := by
    rw [← e, Nat.div_lt_iff_lt_mul C.pos]
  by_cases h2 : i / C.size < k
  · rw [if_pos (hk.2 h2), if_pos h2]
  · rw [if_neg (fun h => h2 (hk.1 h)), if_neg h2]; rfl
theorem Shape.flat_snoc (l : List α) (x : α) : C.flat (l ++ [x]) = C.flat l ++ C.cells x := by simp [Shape.flat]
/-- A slice of such. -/
structure IsRow (w : World) (A : Option Addr) (n c : Nat) (l : List α) : Prop where
  reads : Reads w w.heap.size C.size A n (C.flat l)
  len : l.length = n
  cap : n ≤ c
  small : c ≤ 9223372036854775807
  reach : n ≤ 8796093021952
  wf : ∀ x ∈ l, C.Wf x
theorem isRow_nil (w : World) : IsRow C w none 0 0 [] where
  reads := Reads.none_
  len := rfl
  cap := Nat.le_refl _
  small := Nat.zero_le _
  reach := by simp
  wf := fun z hz => by cases hz
variable {C}
section
variable {w w' : World} {A : Option Addr} {n c : Nat} {l : List α}
theorem IsRow.wfd (h : IsRow C w A n c l) (k : Nat) : C.Wf (l.getD k C.z) := by
  rcases Nat.lt_or_ge k l.length with hl | hl
  · have e : l[k]? = some (l.getD k C.z) := by rw [List.getD_eq_getElem?_getD, List.getElem?_eq_getElem hl]; rfl
    exact h.wf _ (List.mem_of_getElem? e)
  · rw [List.getD_eq_getElem?_getD, List.getElem?_eq_none hl]
    exact C.zwf
theorem IsRow.at_ (h : IsRow C w A n c l) {k : Nat} (hk : k < n) :
    ∃ ad, A = some ad ∧ ad.block < w.heap.size ∧ ∀ j u, (C.cells (l.getD k C.z))[j]? = some u → w.cell? (ad.add (k * C.size + j)) = some u := by
  obtain ⟨ad, e, hb, hc⟩ := h.reads.2 (by omega)
  have hl : k < l.length := by rw [h.len]; exact hk
  have e2 : l[k]? = some (l.getD k C.z) := by rw [List.getD_eq_getElem?_getD, List.getElem?_eq_getElem hl]; rfl
  refine ⟨ad, e, hb, fun j u hu => hc _ u ?_⟩
  have hj : j < C.size := by
    rw [← C.len (l.getD k C.z)]
    rcases Nat.lt_or_ge j (C.cells (l.getD k C.z)).length with h1 | h1
    · exact h1
    · rw [List.getElem?_eq_none h1] at hu; cases hu
  rw [C.flat_at _ _ _ hj, e2]
  exact hu
theorem IsRow.keep (h : IsRow C w A n c l) (hx : Below w.heap.size w w') : IsRow C w' A n c l :=
  ⟨(h.reads.below hx).more hx.size, h.len, h.cap, h.small, h.reach, h.wf⟩
theorem IsRow.cut (h : IsRow C w A n c l) {k : Nat} (hk : k ≤ n) : IsRow C w A k c (l.take k) :=
  ⟨C.flat_take l k ▸ h.reads.take hk, by rw [List.length_take, h.len]; omega, Nat.le_trans hk h.cap, h.small, Nat.le_trans hk h.reach, fun p hp => h.wf p (List.mem_of_mem_take hp)⟩
end
section
variable {H : Type} {enc : TypeId × Value → H} {W : World} {base : Nat} {sp : Nat → Bool} {held : Bool}
set_option maxRecDepth 100000 in
theorem open_rows {t e : TypeId} (hT : ∀ (fuel : Nat) (cs : List Value) (x : DataW H × List MemPlace), DataW.trod enc Try.prog W base (fun _ => true) true fuel e cs = some x → ∃ y : α, cs = C.cells y ∧ C.Wf y) (hc : Try.prog.cellsOf e = C.size)
    (ht : Try.prog.underlying t = some (.slice e)) (hby : 16 ≤ Try.prog.bytesOf e) {fuel : Nat} {cs : List Value} {x : DataW H × List MemPlace}
    (hf : DataW.trod enc Try.prog W base (fun _ => true) true fuel t cs = some x) (hlt : ∀ q ∈ x.2, q.block < W.heap.size)
    (hs : ∀ (elems spare : List (DataW H)), x.1 = .slice elems spare → (elems.length + spare.length) * Try.prog.bytesOf e ≤ reachBytes) :
    ∃ (A : Option Addr) (n c : Nat) (l : List α), cs = [.slice A n c] ∧ IsRow C W A n c l := by
  rcases open_slice ht hf with ⟨hcs, hx⟩ | ⟨a, len, cap, m, n, D, Pl, hcs, _, hl, hm, hmm, hx, hi⟩
  · exact ⟨none, 0, 0, [], hcs, isRow_nil C W⟩
  · simp only [if_true] at hmm
    subst hmm
    rw [hc] at hx hi
    obtain ⟨x1, x2⟩ := x
    simp only [Prod.mk.injEq] at hx
    obtain ⟨rfl, rfl⟩ := hx
    have hat : ∀ i, i < len → ∃ y : α, C.Wf y ∧ ∀ j, j < C.size → W.cell? (a.add (i * C.size + j)) = (C.cells y)[j]? := by
      intro i him
      obtain ⟨cs', hc2, ht'⟩ := hi i (by omega)
      obtain ⟨y, rfl, hw⟩ := hT _ _ _ ht'
      obtain ⟨_, hcl, hcat⟩ := World.cells?_some hc2
      exact ⟨y, hw, fun j hj => by rw [← add_of_add]; exact hcat j hj⟩
    obtain ⟨l, hll, hcl⟩ : ∃ l : List α, l.length = len ∧ ∀ i q, l[i]? = some q → C.Wf q ∧ ∀ j, j < C.size → W.cell? (a.add (i * C.size + j)) = (C.cells q)[j]? := by
      refine ⟨(List.range len).map fun i => if hi : i < len then (hat i hi).choose else C.z, by simp, fun i q hq => ?_⟩
      rw [List.getElem?_map] at hq
      obtain ⟨j, hj, rfl⟩ := Option.map_eq_some_iff.1 hq
      have hlen : i < len := by
        rcases Nat.lt_or_ge i len with h1 | h1
        · exact h1
        · rw [List.getElem?_eq_none (by simpa using h1)] at hj; cases hj
      rw [List.getElem?_range hlen] at hj
      obtain rfl := Option.some.inj hj
      rw [dif_pos hlen]
      exact (hat i hlen).choose_spec
    refine ⟨some a, len, m, l, hcs, ⟨by rw [C.flat_len, hll], fun hn => ⟨a, rfl, ?_, fun j u hu => ?_⟩⟩, hll, hl, (by unfold maxLen at hm; omega), ?_, fun q hq => ?_⟩
    · have hp := C.pos
      have h0 : 0 < m * C.size := Nat.mul_pos (by omega) hp
      have := hlt (MemPlace.cell a.block a.off) (by
        refine List.mem_append_left _ ?_
        unfold MemPlace.row
        refine List.mem_map.2 ⟨0, List.mem_range.2 h0, ?_⟩
        simp)
      exact this
    · obtain ⟨e, hj⟩ := C.split j
      rw [e, C.flat_at _ _ _ hj] at hu
      obtain ⟨q, hq, hu⟩ := Option.bind_eq_some_iff.1 hu
      rw [e, (hcl _ q hq).2 _ hj]
      exact hu
    · have := hs _ _ rfl
      simp only [List.length_map, List.length_range, reachBytes] at this
      have h2 : (len + (m - len)) * 16 ≤ (len + (m - len)) * Try.prog.bytesOf e := Nat.mul_le_mul_left _ hby
      omega
    · obtain ⟨i, hi⟩ := List.mem_iff_getElem?.1 hq
      exact (hcl i q hi).1
theorem sized_struct {ts : List TypeId} {ds : List (DataW H)} (h : (DataW.weightsEach Try.prog ts ds).all (· ≤ reachBytes) = true) {j : Nat} {t : TypeId} {fs : Array Field} {parts : List (DataW H)} (ht : ts[j]? = some t) (hd : ds[j]? = some (.agg parts)) (hu : Try.prog.underlying t = some (.struct fs)) :
    (DataW.weightsEach Try.prog (fs.toList.map (·.type)) parts).all (· ≤ reachBytes) = true := by
  rw [List.all_eq_true]
  intro x hx
  exact List.all_eq_true.1 h _ (DataW.weights_mem_each ht hd x (by simp only [DataW.weights, hu]; exact hx))
end
end
/-! The shapes of addresses that are balanced, and of views. -/
structure Vp where
  six : Bool
  hi : Int
  lo : Int
  proto : Int
  port : Int
  copies : Int
  nat : Bool
structure Vw where
  six : Bool
  hi : Int
  lo : Int
  bits : Int
  level : Int
def U64 (x : Int) : Prop := 0 ≤ x ∧ x < 18446744073709551616
def I64 (x : Int) : Prop := -9223372036854775808 ≤ x ∧ x ≤ 9223372036854775807
def vpShape : Shape Vp where
  z := ⟨false, 0, 0, 0, 0, 0, false⟩
  size := 7
  cells := fun x => [.bool x.six, .int .u64 x.hi, .int .u64 x.lo, .int .i64 x.proto, .int .i64 x.port, .int .i64 x.copies, .bool x.nat]
  Wf := fun x => U64 x.hi ∧ U64 x.lo ∧ I64 x.proto ∧ I64 x.port ∧ I64 x.copies
  pos := by decide
  len := fun _ => rfl
  one := fun x u hu => by
    simp at hu
    rcases hu with rfl | rfl | rfl | rfl | rfl | rfl | rfl <;> rfl
  zwf := by unfold U64 I64; decide
def vwShape : Shape Vw where
  z := ⟨false, 0, 0, 0, 0⟩
  size := 5
  cells := fun x => [.bool x.six, .int .u64 x.hi, .int .u64 x.lo, .int .i64 x.bits, .int .i64 x.level]
  Wf := fun x => U64 x.hi ∧ U64 x.lo ∧ I64 x.bits ∧ I64 x.level
  pos := by decide
  len := fun _ => rfl
  one := fun x u hu => by
    simp at hu
    rcases hu with rfl | rfl | rfl | rfl | rfl <;> rfl
  zwf := by unfold U64 I64; decide
/-- The cells of one, at an address. -/
structure VpAt (w : World) (ad : Addr) (k : Nat) (x : Vp) : Prop where
  six : w.cell? (ad.add (k * 7)) = some (.bool x.six)
  hi : w.cell? ⟨(ad.add (k * 7)).block, (ad.add (k * 7)).off + 1, none⟩ = some (.int .u64 x.hi)
  lo : w.cell? ⟨(ad.add (k * 7)).block, (ad.add (k * 7)).off + 2, none⟩ = some (.int .u64 x.lo)
  proto : w.cell? ⟨(ad.add (k * 7)).block, (ad.add (k * 7)).off + 3, none⟩ = some (.int .i64 x.proto)
  port : w.cell? ⟨(ad.add (k * 7)).block, (ad.add (k * 7)).off + 4, none⟩ = some (.int .i64 x.port)
  copies : w.cell? ⟨(ad.add (k * 7)).block, (ad.add (k * 7)).off + 5, none⟩ = some (.int .i64 x.copies)
  nat : w.cell? ⟨(ad.add (k * 7)).block, (ad.add (k * 7)).off + 6, none⟩ = some (.bool x.nat)
theorem IsRow.vpat_ {w : World} {A : Option Addr} {n c : Nat} {l : List Vp} (h : IsRow vpShape w A n c l) {k : Nat} (hk : k < n) : ∃ ad, A = some ad ∧ ad.block < w.heap.size ∧ VpAt w ad k (l.getD k vpShape.z) := by
  obtain ⟨ad, e, hb, hat⟩ := h.at_ hk
  have hat : ∀ j u, (vpShape.cells (l.getD k vpShape.z))[j]? = some u → w.cell? (ad.add (k * 7 + j)) = some u := hat
  refine ⟨ad, e, hb, hat 0 _ rfl, ?_, ?_, ?_, ?_, ?_, ?_⟩ <;> rw [← add_far _ _ _ (by omega)]
  · exact hat 1 _ rfl
  · exact hat 2 _ rfl
  · exact hat 3 _ rfl
  · exact hat 4 _ rfl
  · exact hat 5 _ rfl
  · exact hat 6 _ rfl
/-- The cells of one, at an address. -/
structure VwAt (w : World) (ad : Addr) (k : Nat) (x : Vw) : Prop where
  six : w.cell? (ad.add (k * 5)) = some (.bool x.six)
  hi : w.cell? ⟨(ad.add (k * 5)).block, (ad.add (k * 5)).off + 1, none⟩ = some (.int .u64 x.hi)
  lo : w.cell? ⟨(ad.add (k * 5)).block, (ad.add (k * 5)).off + 2, none⟩ = some (.int .u64 x.lo)
  bits : w.cell? ⟨(ad.add (k * 5)).block, (ad.add (k * 5)).off + 3, none⟩ = some (.int .i64 x.bits)
  level : w.cell? ⟨(ad.add (k * 5)).block, (ad.add (k * 5)).off + 4, none⟩ = some (.int .i64 x.level)
theorem IsRow.vwat_ {w : World} {A : Option Addr} {n c : Nat} {l : List Vw} (h : IsRow vwShape w A n c l) {k : Nat} (hk : k < n) : ∃ ad, A = some ad ∧ ad.block < w.heap.size ∧ VwAt w ad k (l.getD k vwShape.z) := by
  obtain ⟨ad, e, hb, hat⟩ := h.at_ hk
  have hat : ∀ j u, (vwShape.cells (l.getD k vwShape.z))[j]? = some u → w.cell? (ad.add (k * 5 + j)) = some u := hat
  refine ⟨ad, e, hb, hat 0 _ rfl, ?_, ?_, ?_, ?_⟩ <;> rw [← add_far _ _ _ (by omega)]
  · exact hat 1 _ rfl
  · exact hat 2 _ rfl
  · exact hat 3 _ rfl
  · exact hat 4 _ rfl
end Go.Proofs.Ytcpfekhpbjkgeaa
end
section
/- slices.SortStableFunc, of items that a slice owns. -/
set_option linter.unusedVariables false
namespace Go.Proofs.Ytcpfekhpbjkgeaa
open Go.RowKit Go.Sort
set_option maxHeartbeats 16000000
set_option maxRecDepth 1000000
def itShape : Shape It where
  z := ⟨0, 0⟩
  size := 2
  cells := encIt
  Wf := fun x => I64 x.t ∧ I64 x.id
  pos := by decide
  len := fun _ => rfl
  one := fun x u hu => by
    simp [encIt] at hu
    rcases hu with rfl | rfl <;> rfl
  zwf := by unfold I64; decide
theorem flatK_at (d : Array It) (j : Nat) (h : j < d.size * 2) : (itShape.flat d.toList)[j]? = some ((flatK encIt 2 d)[j]!) := by
  have e : j = j / 2 * itShape.size + j % 2 := by show j = j / 2 * 2 + j % 2; omega
  have hj : j % 2 < 2 := by omega
  rw [get_flatK _ _ _ _ h]
  rw [show (itShape.flat d.toList)[j]? = (itShape.flat d.toList)[j / 2 * itShape.size + j % 2]? by rw [← e], itShape.flat_at _ _ _ hj]
  have hi : j / 2 < d.size := by omega
  rw [show d.toList[j / 2]? = some d[j / 2]! by rw [Array.getElem?_toList, Array.getElem?_eq_getElem hi, getElem!_pos d _ hi]]
  show (encIt d[j / 2]!)[j % 2]? = some ((encIt d[j / 2]!)[j % 2]!)
  rw [List.getElem?_eq_getElem (by show j % 2 < 2; exact hj), getElem!_pos (encIt d[j / 2]!) _ (by show j % 2 < 2; exact hj)]
theorem holds_row {w : World} {B g cap : Nat} {T : TypeId} {l : List It} (h : w.ownsRow B T 2 (.slice (some ⟨g, 0, none⟩) l.length cap) l.length (itShape.flat l)) : HoldsK encIt 2 w g 0 l.toArray := by
  obtain ⟨h0, ⟨e, _⟩ | ⟨g', cap', cur, e, hb, hg, h1, h2, h3, h4⟩⟩ := h
  · cases e
  · cases e
    intro j hj
    rw [size_flatK] at hj
    have hj2 : j < l.length * 2 := by simpa using hj
    have e1 := flatK_at l.toArray j hj
    rw [show l.toArray.toList = l from rfl, ← h4, List.getElem?_take_of_lt hj2, Array.getElem?_toList] at e1
    refine ⟨?_, by simp [World.frozen?, hg]⟩
    simp only [World.cell?, hg, Nat.zero_add]
    exact e1
theorem heap_put {w : World} {g n : Nat} {os : Array Obj} {cur : Array Value} {e : TypeId} {fr : Nat × Nat} (F : Array Value) (hb : w.heap[g]? = some (.cells cur e fr)) :
    (grow (putRow id (Go.Sort.ahead w n) g 0 F) os).heap[g]? = some (.cells (putCells id 0 F cur) e fr) := by
  have hg : g < w.heap.size := (Array.getElem?_eq_some_iff.1 hb).1
  rw [heap_grow_old _ _ (by simpa using hg)]
  simp [putRow, mapBlock, Go.Sort.ahead, Array.getElem?_modify, hb, onCells]
theorem grown_put {w : World} {g n : Nat} {os : Array Obj} (F : Array Value) : w.grownBy (grow (putRow id (Go.Sort.ahead w n) g 0 F) os) (some g) := by
  refine ⟨rfl, rfl, rfl, by simp, fun k hk hne => ?_⟩
  rw [heap_grow_old _ _ (by simpa using hk)]
  have : g ≠ k := fun e => hne (by rw [e])
  simp [putRow, mapBlock, Go.Sort.ahead, Array.getElem?_modify, this]
theorem take_put (cur : Array Value) (d : Array It) (h : d.size * 2 ≤ cur.size) : (putCells id 0 (flatK encIt 2 d) cur).toList.take (d.size * 2) = itShape.flat d.toList := by
  apply List.ext_getElem?
  intro j
  by_cases hj : j < d.size * 2
  · rw [List.getElem?_take_of_lt hj, Array.getElem?_toList, flatK_at d j hj]
    simp [putCells, hj, show j < cur.size by omega]
  · rw [List.getElem?_take_eq_none (by omega), List.getElem?_eq_none (by rw [itShape.flat_len]; show d.toList.length * 2 ≤ j; rw [Array.length_toList]; omega)]
theorem ordered_of {d : Array It} (h : SortedIn itB 0 d.size d) : Ordered d.toList := by
  unfold Ordered
  rw [List.pairwise_iff_getElem]
  intro i j hi hj hij
  have := h i j (Nat.zero_le _) hij (by simpa using hj)
  rw [getElem!_pos d j (by simpa using hj), getElem!_pos d i (by simpa using hi)] at this
  simpa using this
theorem perm_of {d d' : Array It} (h : PermIn 0 d.size d d') : d'.toList.Perm d.toList := by
  have h2 := h.2.2
  rw [show d.extract 0 d.size = d by simp, show d'.extract 0 d.size = d' by rw [← h.1]; simp] at h2
  exact h2
/-- The slice owns the same items, in order. -/
theorem sortStable_own {w : World} {B : Nat} {v : Value} (l : List It) (h : w.ownsRow B 31 2 v l.length (itShape.flat l)) (hn : l.length < 1152921504606846976) :
    Calls Try.prog 50 #[v, .func (.func 51) #[] #[]] w fun e w' =>
      e = .returned (.tuple #[]) ∧ ∃ o, Ordered o ∧ o.Perm l ∧ w'.ownsRow B 31 2 v l.length (itShape.flat o) ∧ w.grownBy w' v.ownBlock := by
  have H := h
  obtain ⟨h0, ⟨rfl, hz⟩ | ⟨g, cap, cur, rfl, hb, hg, h1, h2, h3, h4⟩⟩ := H
  · have hl : l = [] := List.length_eq_zero_iff.1 hz
    subst hl
    have HX := Lib.hid h
    clear h h0 hn hz
    have hI : ∀ w, Calls Try.prog 81 #[.slice none 0 0, .int .i64 0, .int .i64 0, .func (.func 51) #[] #[]] w fun e w' => e = .returned (.tuple #[]) ∧ w = w' := by
      intro w
      go_enter Try.func81, Try.ntmps81
      go_wp2_with fail
      go_loopg [8] 0 (fun gk s8 wr => gk = 0 ∧ s8 = .int .i64 1 ∧ w = wr)
      case atStart => exact ⟨rfl, rfl, rfl⟩
      case round =>
        obtain ⟨rfl, rfl, rfl⟩ := hrel
        go_wp2
        go_end0
        exact ⟨rfl, rfl⟩
    have hS : ∀ w, Calls Try.prog 71 #[.slice none 0 0, .int .i64 0, .func (.func 51) #[] #[]] w fun e w' => e = .returned (.tuple #[]) ∧ w = w' := by
      intro w
      go_enter Try.func71, Try.ntmps71
      go_wp2_with fail
      go_loopg [7, 8] 0 (fun gk s7 s8 wr => gk = 0 ∧ s7 = .int .i64 0 ∧ s8 = .int .i64 20 ∧ w = wr)
      case atStart => exact ⟨rfl, rfl, rfl, rfl⟩
      case round =>
        obtain ⟨rfl, rfl, rfl, rfl⟩ := hrel
        go_wp2_with fail
        refine (hI _).mono ?_; rintro e w2 ⟨rfl, rfl⟩
        go_wp2_with fail
        go_loopg [6, 7, 8, 9] 0 (fun gk s6 s7 s8 s9 wr => gk = 0 ∧ s6 = .int .i64 20 ∧ w = wr)
        case atStart => exact ⟨rfl, rfl, rfl⟩
        case round =>
          obtain ⟨rfl, rfl, rfl⟩ := hrel
          go_wp2
          go_end0
          exact ⟨rfl, rfl⟩
    clear hI
    go_enter Try.func50, Try.ntmps50
    go_wp2_with fail
    refine (hS _).mono ?_; rintro e w2 ⟨rfl, rfl⟩
    go_wp2
    go_end0
    exact ⟨rfl, [], List.Pairwise.nil, List.Perm.refl _, HX.out, ⟨rfl, rfl, rfl, Nat.le_refl _, fun _ _ _ => rfl⟩⟩
  · have hH := holds_row h
    have hgl : g < w.heap.size := (Array.getElem?_eq_some_iff.1 hg).1
    have R : RowK encIt 2 w g 0 l.toArray := ⟨fun _ => rfl, fun x => itShape.one x, hH, hgl⟩
    have hcall := stable_items g 0 cap l.toArray l.toArray w w R rfl (SWK.start hH) (by simpa using hn)
    rw [show l.toArray.size = l.length by simp] at hcall
    have HOUT := Lib.hid (fun (w' : World) (d' : Array It) (hP : PermIn 0 l.length l.toArray d') (hS : SortedIn itB 0 l.length d') (hW : SWK encIt 2 w g 0 d' w') => (show ∃ o, Ordered o ∧ o.Perm l ∧ w'.ownsRow B 31 2 (.slice (some ⟨g, 0, none⟩) l.length cap) l.length (itShape.flat o) ∧ w.grownBy w' (some g) by
      obtain ⟨n, os, rfl⟩ := hW
      have hsz : d'.size = l.length := by rw [hP.1]; simp
      refine ⟨d'.toList, ordered_of (by rw [hsz]; exact hS), ?_, ⟨by rw [itShape.flat_len, Array.length_toList, hsz]; rfl, .inr ⟨g, cap, putCells id 0 (flatK encIt 2 d') cur, rfl, hb, heap_put _ hg, h1, h2, by simp [putCells, h3], ?_⟩⟩, grown_put _⟩
      · have := perm_of (d := l.toArray) (d' := d') (by rw [show l.toArray.size = l.length by simp]; exact hP)
        exact this
      · rw [← hsz]; exact take_put cur d' (by rw [hsz, h3]; exact Nat.mul_le_mul_right 2 h1)))
    clear hH hgl R h h0 hg h1 h2 h3 h4 hb
    go_enter Try.func50, Try.ntmps50
    go_wp2_with fail
    refine hcall.mono ?_; rintro e w2 ⟨rfl, d', hP, hS, hW⟩
    have HR := Lib.hid (HOUT.out w2 d' hP hS hW)
    clear hcall hP hS hW HOUT
    go_wp2
    go_end0
    exact ⟨rfl, HR.out⟩
end Go.Proofs.Ytcpfekhpbjkgeaa
end
section
/- append onto a row of the call's own, the source nil, empty or not (after the kit's page on words for memory). -/
set_option linter.unusedVariables false
namespace Go.Proofs.Ytcpfekhpbjkgeaa
open Go.RowKit
section
variable {P : Program} (w : World)

theorem run_append_of_nil (base : Nat) (t ty e : TypeId) (i : TypeInfo) (size : Nat) (ht : P.underlying t = some (.slice e)) (hi : P.info? e = some i)
    (v : Value) (n : Nat) (xs : List Value) (hown : w.ownsRow base e size v n xs) (c : Nat) : (Builtin.append_ #[t, t] ty #[v, .slice none 0 c]).run P w = .ok v w := by
  rcases hown.2 with ⟨rfl, rfl⟩ | ⟨g, cap, cur, rfl, _, _, hnc, _⟩
  · simp [Builtin.append_, run_underlying ht, sizeOf, typeInfo, hi, Builtin.lenOf, Builtin.firstCells]
  · simp [Builtin.append_, run_underlying ht, sizeOf, typeInfo, hi, Builtin.lenOf, Builtin.firstCells, hnc, storeCells]

theorem run_append_any (base : Nat) (t ty e : TypeId) (i : TypeInfo) (z : Value) (size bytes : Nat) (ht : P.underlying t = some (.slice e)) (hi : P.info? e = some i) (hz : i.zero = some z)
    (hsize : i.size = size) (hby : i.bytes = bytes) (hzs : z.cells.size = size) (hsz : 0 < size)
    (v : Value) (n : Nat) (xs : List Value) (hown : w.ownsRow base e size v n xs)
    (B : Nat) (A : Option Addr) (m c : Nat) (news : List Value) (hr : Reads w B size A m news) (h1 : ∀ u ∈ news, u.oneCell' = true)
    (h63 : n + m ≤ maxLen) (hbytes : (n + m) * bytes ≤ 140737488355328) (hbase : base ≤ w.heap.size) :
    ∃ v' w', (Builtin.append_ #[t, t] ty #[v, .slice A m c]).run P w = .ok v' w' ∧ w'.ownsRow base e size v' (n + m) (xs ++ news) ∧ w.grownBy w' v.ownBlock ∧
      (v'.ownBlock = v.ownBlock ∨ v'.ownBlock = some w.heap.size) := by
  rcases A with _ | ad
  · have hm : m = 0 := by
      rcases Nat.eq_zero_or_pos m with h0 | h0
      · exact h0
      · obtain ⟨ad, h, _⟩ := hr.2 h0
        cases h
    subst hm
    have hn : news = [] := List.eq_nil_of_length_eq_zero (by simpa using hr.1)
    subst hn
    exact ⟨v, w, run_append_of_nil w base t ty e i size ht hi v n xs hown c, by simpa using hown, World.grownBy.refl w _, .inl rfl⟩
  · have hcells : ∀ j u, news[j]? = some u → w.cell? (ad.add j) = some u := by
      intro j u hu
      rcases Nat.eq_zero_or_pos m with h0 | h0
      · subst h0
        have hn : news = [] := List.eq_nil_of_length_eq_zero (by simpa using hr.1)
        subst hn
        simp at hu
      · obtain ⟨ad', h, _, hc⟩ := hr.2 h0
        injection h with h
        subst h
        exact hc j u hu
    obtain ⟨v', w', hrun, h2, h3, _, h5⟩ := run_append_own_at (P := P) w base t ty e i z size bytes ht hi hz hsize hby hzs hsz v n xs hown ad m c news hr.1 hcells h1 h63 hbytes hbase
    exact ⟨v', w', hrun, h2, h3, h5⟩

theorem wp_append_any {o : Oper} {a : Act} {K : Act → World → Prop} {Q : Exit → Act → World → Prop} (s x : Operand) (t : TypeId)
    (ho : o.op = .call { callee := .builtin .append, args := #[s, x], argTypes := #[t, t] })
    (base : Nat) (e : TypeId) (i : TypeInfo) (z : Value) (size bytes : Nat) (ht : P.underlying t = some (.slice e)) (hi : P.info? e = some i) (hz : i.zero = some z)
    (hsize : i.size = size) (hby : i.bytes = bytes) (hzs : z.cells.size = size) (hsz : 0 < size)
    (v : Value) (n : Nat) (xs : List Value) (hs : a.eval s = v) (hown : w.ownsRow base e size v n xs)
    (B : Nat) (A : Option Addr) (m c : Nat) (news : List Value) (hx : a.eval x = .slice A m c) (hr : Reads w B size A m news) (h1 : ∀ u ∈ news, u.oneCell' = true)
    (h63 : n + m ≤ maxLen) (hbytes : (n + m) * bytes ≤ 140737488355328) (hbase : base ≤ w.heap.size)
    (h : ∀ v' w', w'.ownsRow base e size v' (n + m) (xs ++ news) → w.grownBy w' v.ownBlock → (v'.ownBlock = v.ownBlock ∨ v'.ownBlock = some w.heap.size) → K (a.put o.dst v') w') : o.wp P a w K Q := by
  obtain ⟨v', w', hrun, h2, h3, h4⟩ := run_append_any (P := P) w base t o.type e i z size bytes ht hi hz hsize hby hzs hsz v n xs hown B A m c news hr h1 h63 hbytes hbase
  unfold Oper.wp execOp
  simp only [ho, resolve, invoke, builtin, Sem.run_bind, Sem.run_pure, Result.andThen_ok, List.map_toArray, List.map_cons, List.map_nil, hs, hx, hrun]
  exact h v' w' h2 h3 h4

theorem wpList_append_any {ops : Array Oper} {rest : List Oper} {o : Oper} {a : Act} {Q : Exit → Act → World → Prop} (hgd : o.guard = none) (s x : Operand) (t : TypeId)
    (ho : o.op = .call { callee := .builtin .append, args := #[s, x], argTypes := #[t, t] })
    (base : Nat) (e : TypeId) (i : TypeInfo) (z : Value) (size bytes : Nat) (ht : P.underlying t = some (.slice e)) (hi : P.info? e = some i) (hz : i.zero = some z)
    (hsize : i.size = size) (hby : i.bytes = bytes) (hzs : z.cells.size = size) (hsz : 0 < size)
    (v : Value) (n : Nat) (xs : List Value) (hs : a.eval s = v) (hown : w.ownsRow base e size v n xs)
    (B : Nat) (A : Option Addr) (m c : Nat) (news : List Value) (hx : a.eval x = .slice A m c) (hr : Reads w B size A m news) (h1 : ∀ u ∈ news, u.oneCell' = true)
    (h63 : n + m ≤ maxLen) (hbytes : (n + m) * bytes ≤ 140737488355328) (hbase : base ≤ w.heap.size)
    (h : ∀ v' w', w'.ownsRow base e size v' (n + m) (xs ++ news) → w.grownBy w' v.ownBlock → (v'.ownBlock = v.ownBlock ∨ v'.ownBlock = some w.heap.size) → wpList P ops Q rest (a.put o.dst v') w') : wpList P ops Q (o :: rest) a w :=
  wpList_plain hgd fun _ hK => wp_append_any w s x t ho base e i z size bytes ht hi hz hsize hby hzs hsz v n xs hs hown B A m c news hx hr h1 h63 hbytes hbase fun v' w' h2 h3 h4 => hK _ _ (h v' w' h2 h3 h4)

theorem step_append_any {ops : Array Oper} {o : Oper} {a : Act} {K : Act → World → Prop} {Q : Exit → Act → World → Prop} {E : Prop} (hgd : o.guard = none) (s x : Operand) (t : TypeId)
    (ho : o.op = .call { callee := .builtin .append, args := #[s, x], argTypes := #[t, t] })
    (base : Nat) (e : TypeId) (i : TypeInfo) (z : Value) (size bytes : Nat) (ht : P.underlying t = some (.slice e)) (hi : P.info? e = some i) (hz : i.zero = some z)
    (hsize : i.size = size) (hby : i.bytes = bytes) (hzs : z.cells.size = size) (hsz : 0 < size)
    (v : Value) (n : Nat) (xs : List Value) (hs : a.eval s = v) (hown : w.ownsRow base e size v n xs)
    (B : Nat) (A : Option Addr) (m c : Nat) (news : List Value) (hx : a.eval x = .slice A m c) (hr : Reads w B size A m news) (h1 : ∀ u ∈ news, u.oneCell' = true)
    (h63 : n + m ≤ maxLen) (hbytes : (n + m) * bytes ≤ 140737488355328) (hbase : base ≤ w.heap.size)
    (h : ∀ v' w', w'.ownsRow base e size v' (n + m) (xs ++ news) → w.grownBy w' v.ownBlock → (v'.ownBlock = v.ownBlock ∨ v'.ownBlock = some w.heap.size) → K (a.put o.dst v') w') :
    if Region.wanted o (yielded ops a.tmps) = true then Oper.wp P o a w K Q else E := by
  have hw : Region.wanted o (yielded ops a.tmps) = true := by simp [Region.wanted, hgd]
  rw [if_pos hw]
  exact wp_append_any w s x t ho base e i z size bytes ht hi hz hsize hby hzs hsz v n xs hs hown B A m c news hx hr h1 h63 hbytes hbase h
end
/-- A row of the call's own, read as a list. -/
theorem own_list {w : World} {base : Nat} {e : TypeId} {K : IntKind} {v : Value} {n : Nat} {l : List Int} (h : w.ownsRow base e 1 v n (l.map (Value.int K))) (hwf : ∀ z ∈ l, (Lit.int K z).wf = true) (hr : n ≤ 17592186043904) :
    ∃ A c, v = .slice A n c ∧ IsList w K A n c l ∧ (∀ ad, A = some ad → base ≤ ad.block) := by
  have hlen : l.length = n := by have := h.1; simpa using this
  rcases h.2 with ⟨rfl, rfl⟩ | ⟨g, cap, cur, rfl, hb, hh, hnc, hcm, hsz, htk⟩
  · have : l = [] := List.eq_nil_of_length_eq_zero hlen
    subst this
    exact ⟨none, 0, rfl, ⟨⟨by simp, fun h => absurd h (by omega)⟩, rfl, Nat.le_refl _, by omega, fun z hz => (by cases hz), hr⟩, fun ad h => (by cases h)⟩
  · refine ⟨some ⟨g, 0, none⟩, cap, rfl, ⟨?_, hlen, hnc, by unfold maxLen at hcm; omega, hwf, hr⟩, fun ad h => by cases h; exact hb⟩
    refine ⟨by simp [hlen], fun hn => ⟨_, rfl, (Array.getElem?_eq_some_iff.1 hh).1, h.cells (g := g) rfl⟩⟩
end Go.Proofs.Ytcpfekhpbjkgeaa
end
