/- Arguments opened: integers to their bounds, slices of integers to lists. -/
import Derived.Test.YtpedhlmcgilliaaFrame
import Derived.Deep.AppendLies
import Derived.Lib.Hide
import Derived.Deep.Draws
import Derived.Laws.OwnMore
set_option linter.unusedVariables false
namespace Go.Proofs.Ytpedhlmcgilliaa
open Go.ChangeShapes Go.WideShapes Go.ChangeAt Go.RowKit
theorem u64_of_wf {x : Int} (h : (Lit.int .u64 x).wf = true) : 0 ≤ x ∧ x < 18446744073709551616 := by
  simp [Lit.wf, IntKind.min, IntKind.max, IntKind.signed, IntKind.bits] at h
  exact ⟨by omega, by omega⟩
theorem i64_of_wf {x : Int} (h : (Lit.int .i64 x).wf = true) : -9223372036854775808 ≤ x ∧ x ≤ 9223372036854775807 := by
  simp [Lit.wf, IntKind.min, IntKind.max, IntKind.signed, IntKind.bits] at h
  exact ⟨by omega, by omega⟩
theorem Try.cellsU64 : Try.prog.cellsOf 22 = 1 := by kernel_rfl
theorem Try.cellsInt : Try.prog.cellsOf 3 = 1 := by kernel_rfl

/-! A slice value that reads as a list of cells: nil, empty, or at an address below block B. -/
theorem block_of_add (a : Addr) (n : Nat) : (a.add n).block = a.block := by unfold Addr.add; split <;> rfl
theorem add_of_add (a : Addr) (i j : Nat) : (a.add i).add j = a.add (i + j) := by
  unfold Addr.add
  by_cases hi : i = 0 <;> by_cases hj : j = 0 <;> simp [hi, hj, Nat.add_assoc]
def Reads (w : World) (B size : Nat) (A : Option Addr) (n : Nat) (xs : List Value) : Prop :=
  xs.length = n * size ∧ (0 < n → ∃ ad, A = some ad ∧ ad.block < B ∧ ∀ j u, xs[j]? = some u → w.cell? (ad.add j) = some u)
section
variable {w w' : World} {B B' size n : Nat} {A : Option Addr} {xs : List Value}
theorem Reads.none_ : Reads w B size A 0 [] := ⟨by simp, fun h => absurd h (by omega)⟩
theorem Reads.at_ {k : Nat} (h : Reads w B 1 A n xs) (hk : k < n) : ∃ ad u, A = some ad ∧ ad.block < B ∧ xs[k]? = some u ∧ w.cell? (ad.add k) = some u := by
  obtain ⟨ad, e, hb, hc⟩ := h.2 (by omega)
  have hl : k < xs.length := by have := h.1; omega
  exact ⟨ad, xs[k], e, hb, List.getElem?_eq_getElem hl, hc k _ (List.getElem?_eq_getElem hl)⟩
theorem Reads.keep (h : Reads w B size A n xs) (hk : ∀ p : Addr, p.block < B → w'.cell? p = w.cell? p) : Reads w' B size A n xs :=
  ⟨h.1, fun hn => by
    obtain ⟨ad, e, hb, hc⟩ := h.2 hn
    exact ⟨ad, e, hb, fun j u hu => (hk _ (by rw [block_of_add]; exact hb)).trans (hc j u hu)⟩⟩
theorem Reads.more (h : Reads w B size A n xs) (hB : B ≤ B') : Reads w B' size A n xs :=
  ⟨h.1, fun hn => by
    obtain ⟨ad, e, hb, hc⟩ := h.2 hn
    exact ⟨ad, e, by omega, hc⟩⟩
theorem Reads.below (h : Reads w B size A n xs) (hb : Below B w w') : Reads w' B size A n xs := h.keep fun _ hp => hb.cell hp
theorem Reads.drew (h : Reads w B size A n xs) : Reads w.drew B size A n xs := h
theorem Reads.drewN (h : Reads w B size A n xs) (k : Nat) : Reads (w.drewN k) B size A n xs := h
theorem Reads.alloc (h : Reads w B size A n xs) (hB : B ≤ w.heap.size) (o : Obj) : Reads (w.alloc o) B size A n xs := h.keep fun p hp => World.cell?_alloc_lt w o p (by omega)
theorem Reads.setCell (h : Reads w B size A n xs) {p : Addr} (hB : B ≤ p.block) (u : Value) : Reads (w.setCell p u) B size A n xs :=
  h.keep fun q hq => World.cell?_setCell_other w p q u (fun e => by subst e; omega)
theorem Reads.grown (h : Reads w B size A n xs) {row : Option Nat} (hg : w.grownBy w' row) (hB : B ≤ w.heap.size) (hr : ∀ g, row = some g → B ≤ g) : Reads w' B size A n xs :=
  h.keep fun p hp => World.cell?_of_block (hg.block p.block (by omega) (fun e => by have := hr _ e.symm; omega))
theorem Reads.cut (h : Reads w B size A n xs) {k cap : Nat} (hk : k ≤ n) (hc : n ≤ cap) :
    Reads w B size (if cap = k then A else A.map (·.add (k * size))) (n - k) (xs.drop (k * size)) := by
  refine ⟨by rw [List.length_drop, h.1, Nat.sub_mul], fun hn => ?_⟩
  obtain ⟨ad, rfl, hb, hcell⟩ := h.2 (by omega)
  rw [if_neg (by omega)]
  refine ⟨ad.add (k * size), rfl, by rw [block_of_add]; exact hb, fun j u hu => ?_⟩
  rw [add_of_add]
  exact hcell _ u (by rw [← hu, List.getElem?_drop])
theorem Reads.take (h : Reads w B size A n xs) {k : Nat} (hk : k ≤ n) : Reads w B size A k (xs.take (k * size)) := by
  refine ⟨?_, fun hn => ?_⟩
  · rw [List.length_take, h.1]; exact Nat.min_eq_left (Nat.mul_le_mul_right _ hk)
  · obtain ⟨ad, rfl, hb, hcell⟩ := h.2 (by omega)
    refine ⟨ad, rfl, hb, fun j u hu => hcell j u ?_⟩
    rw [List.getElem?_take] at hu
    split at hu
    · exact hu
    · cases hu
theorem Reads.of_own {base : Nat} {e : TypeId} {c : Nat} (h : w.ownsRow base e size (.slice A n c) n xs) : Reads w w.heap.size size A n xs := by
  refine ⟨h.1, fun hn => ?_⟩
  obtain ⟨g, cap, hv, _, hlt⟩ := h.form hn
  have hA : A = some ⟨g, 0, none⟩ := by injection hv
  subst hA
  exact ⟨_, rfl, hlt, h.cells (g := g) rfl⟩
end
/-- A slice of integers of kind k: the list zs, within the kind's bounds, its length within the form's reach. -/
structure IsList (w : World) (k : IntKind) (A : Option Addr) (n c : Nat) (zs : List Int) : Prop where
  reads : Reads w w.heap.size 1 A n (zs.map (Value.int k))
  len : zs.length = n
  cap : n ≤ c
  small : c ≤ 9223372036854775807
  wf : ∀ z ∈ zs, (Lit.int k z).wf = true
  reach : n ≤ 17592186043904
theorem isList_nil (w : World) (k : IntKind) : IsList w k none 0 0 [] where
  reads := Reads.none_
  len := rfl
  cap := Nat.le_refl _
  small := Nat.zero_le _
  wf := fun z hz => by cases hz
  reach := by simp
theorem sized_at {P : Program} {H : Type} {ts : List TypeId} {ds : List (DataW H)} (h : (DataW.weightsEach P ts ds).all (· ≤ reachBytes) = true) {j : Nat} {t : TypeId} {d : DataW H} (ht : ts[j]? = some t) (hd : ds[j]? = some d) :
    ∀ (e : TypeId) (elems spare : List (DataW H)), d = .slice elems spare → P.underlying t = some (.slice e) → (elems.length + spare.length) * P.bytesOf e ≤ reachBytes :=
  fun e elems spare he hu => sized_slice h ht (by rw [hd, he]) hu
theorem Try.bytesU64 : Try.prog.bytesOf 22 = 8 := by kernel_rfl
theorem Try.bytesInt : Try.prog.bytesOf 3 = 8 := by kernel_rfl
set_option maxRecDepth 100000 in
theorem open_list {H : Type} {enc : TypeId × Value → H} {W : World} {base : Nat} {r : Reach} {b0 : Nat} {t e : TypeId} {k : IntKind} {v : Value} {d : DataW H} {p : List MemPlace}
    (ht : Try.prog.underlying t = some (.slice e)) (he : Try.prog.underlying e = some (.int k)) (hc : Try.prog.cellsOf e = 1) (hby : Try.prog.bytesOf e = 8)
    (hv : Value.okWide Try.prog W r b0 t v) (h : DataW.Trod enc Try.prog W base (fun _ => true) true t v d p) (hlt : ∀ x ∈ p, x.block < W.heap.size)
    (hs : ∀ (e : TypeId) (elems spare : List (DataW H)), d = .slice elems spare → Try.prog.underlying t = some (.slice e) → (elems.length + spare.length) * Try.prog.bytesOf e ≤ reachBytes) :
    ∃ (A : Option Addr) (n c : Nat) (zs : List Int), v = .slice A n c ∧ IsList W k A n c zs := by
  obtain ⟨a0, len, cap, rfl⟩ := okWide_slice ht hv
  obtain ⟨fuel, hf⟩ := h
  rcases open_ints ht he hc hf with ⟨hcs, hx⟩ | ⟨a, len', cap', zs, hcs, _, hl, hm, hz, hx, hcell, hwz⟩
  · simp [Value.cells] at hcs
    obtain ⟨rfl, rfl, rfl⟩ := hcs
    exact ⟨none, 0, 0, [], rfl, isList_nil W k⟩
  · simp [Value.cells] at hcs
    obtain ⟨rfl, rfl, rfl⟩ := hcs
    simp only [Prod.mk.injEq] at hx
    obtain ⟨rfl, rfl⟩ := hx
    simp only [if_true] at hz
    have hlen : (zs.take len).length = len := by simp; omega
    refine ⟨some a, len, cap, zs.take len, rfl, ⟨⟨by rw [List.length_map, hlen, Nat.mul_one], fun hn => ⟨a, rfl, ?_, fun j u hu => ?_⟩⟩, hlen, hl, (by unfold maxLen at hm; omega), fun n hn => hwz n (List.mem_of_mem_take hn), ?_⟩⟩
    · have h0 : 0 < zs.length := by omega
      cases zs with
      | nil => simp at h0
      | cons z zs =>
        have := hlt (MemPlace.cell a.block a.off) (by simp [MemPlace.row])
        exact this
    · rw [List.getElem?_map, List.getElem?_take] at hu
      split at hu
      · rename_i hj
        rw [hcell j (by omega)]
        rw [List.getElem?_eq_getElem (by omega)] at hu
        simp only [Option.map_some, Option.some.injEq] at hu
        rw [← hu]
        simp [List.getD, List.getElem?_eq_getElem (show j < zs.length by omega)]
      · cases hu
    · have := hs e _ _ rfl ht
      rw [hby] at this
      simp only [lits, List.length_map, List.length_take, List.length_drop, reachBytes] at this
      omega

/-! Cells behind a call that leaves all that was there as it was. -/
theorem below_step {w u v : World} (h : Below w.heap.size w u) (k : Below u.heap.size u v) : Below w.heap.size w v := h.trans (k.mono h.size)
theorem kept0 {u v : World} {p : Addr} {x : Value} (hb : Below u.heap.size u v) (hp : p.block < u.heap.size) (h : u.cell? p = some x) : v.cell? p = some x := (hb.cell hp).trans h
theorem below_alloc' {B : Nat} {w u : World} {o : Obj} (h : Below B w u) (hs : B < u.heap.size) : Below B w (u.alloc o) := h.alloc (Nat.le_of_lt hs) o
theorem below_setCell' {B : Nat} {w u : World} {p : Addr} {v : Value} (h : Below B w u) (hs : B ≤ p.block) : Below B w (u.setCell p v) := h.setCell hs v
theorem keptc {u v : World} {b o : Nat} {x : Value} (hb : Below u.heap.size u v) (hp : b < u.heap.size) (h : u.cell? ⟨b, o, none⟩ = some x) : v.cell? ⟨b, o, none⟩ = some x := (hb.cell (p := ⟨b, o, none⟩) hp).trans h
theorem kepta {u v : World} {ad : Addr} {k : Nat} {x : Value} (hb : Below u.heap.size u v) (hp : ad.block < u.heap.size) (h : u.cell? (ad.add k) = some x) : v.cell? (ad.add k) = some x := (hb.cell (p := ad.add k) (by rw [block_of_add]; exact hp)).trans h
theorem frozenc {u v : World} {b o : Nat} {x : Bool} (hb : Below u.heap.size u v) (hp : b < u.heap.size) (h : u.frozen? ⟨b, o, none⟩ = x) : v.frozen? ⟨b, o, none⟩ = x := (hb.frozen (p := ⟨b, o, none⟩) hp).trans h
theorem keptc_a {u v : World} {b o : Nat} {x : Value} {ob : Obj} (hb : Below u.heap.size u v) (hp : b < u.heap.size) (h : u.cell? ⟨b, o, none⟩ = some x) : (v.alloc ob).cell? ⟨b, o, none⟩ = some x :=
  (World.cell?_alloc_lt v ob ⟨b, o, none⟩ (Nat.lt_of_lt_of_le hp hb.size)).trans (keptc hb hp h)
theorem kepta_a {u v : World} {ad : Addr} {k : Nat} {x : Value} {ob : Obj} (hb : Below u.heap.size u v) (hp : ad.block < u.heap.size) (h : u.cell? (ad.add k) = some x) : (v.alloc ob).cell? (ad.add k) = some x :=
  (World.cell?_alloc_lt v ob (ad.add k) (by rw [block_of_add]; exact Nat.lt_of_lt_of_le hp hb.size)).trans (kepta hb hp h)
theorem frozenc_a {u v : World} {b o : Nat} {x : Bool} {ob : Obj} (hb : Below u.heap.size u v) (hp : b < u.heap.size) (h : u.frozen? ⟨b, o, none⟩ = x) : (v.alloc ob).frozen? ⟨b, o, none⟩ = x :=
  (World.frozen?_alloc_old v ob ⟨b, o, none⟩ (Nat.ne_of_lt (Nat.lt_of_lt_of_le hp hb.size))).trans (frozenc hb hp h)
theorem alloc_a {u : World} {ad : Addr} {k : Nat} {x : Value} {ob : Obj} (hp : ad.block < u.heap.size) (h : u.cell? (ad.add k) = some x) : (u.alloc ob).cell? (ad.add k) = some x :=
  (World.cell?_alloc_lt u ob (ad.add k) (by rw [block_of_add]; exact hp)).trans h
theorem alloc_ad {u : World} {ad : Addr} {k : Nat} {x : Value} {ob : Obj} (hp : ad.block < u.heap.size) (h : u.cell? (ad.add k) = some x) : (u.alloc ob).drew.cell? (ad.add k) = some x := alloc_a hp h
theorem set_a {u : World} {ad p : Addr} {k : Nat} {x y : Value} (hp : ad.block ≠ p.block) (h : u.cell? (ad.add k) = some x) : (u.setCell p y).cell? (ad.add k) = some x :=
  (World.cell?_setCell_other u p (ad.add k) y (fun e => hp (by rw [e, block_of_add]))).trans h
/-- A block that was laid just ahead of a call, behind it. -/
theorem newblk {u v : World} {cs : Array Value} {t : TypeId} (hx : Below (u.alloc (.cells cs t)).drew.heap.size (u.alloc (.cells cs t)).drew v) :
    (∀ i x, cs[i]? = some x → v.cell? ⟨u.heap.size, i, none⟩ = some x) ∧ (∀ i, v.frozen? ⟨u.heap.size, i, none⟩ = false) ∧ u.heap.size < v.heap.size := by
  have hz : u.heap.size < (u.alloc (.cells cs t)).drew.heap.size := by simp
  refine ⟨fun i x h => (hx.cell (p := ⟨u.heap.size, i, none⟩) hz).trans ?_, fun i => (hx.frozen (p := ⟨u.heap.size, i, none⟩) hz).trans ?_, Nat.lt_of_lt_of_le hz hx.size⟩
  · simp [h]
  · simp
theorem keptc_d {u v : World} {b o : Nat} {x : Value} (hb : Below u.drew.heap.size u.drew v) (hp : b < u.heap.size) (h : u.cell? ⟨b, o, none⟩ = some x) : v.cell? ⟨b, o, none⟩ = some x := keptc hb hp h
theorem frozenc_d {u v : World} {b o : Nat} {x : Bool} (hb : Below u.drew.heap.size u.drew v) (hp : b < u.heap.size) (h : u.frozen? ⟨b, o, none⟩ = x) : v.frozen? ⟨b, o, none⟩ = x := frozenc hb hp h
theorem lt_d {u v : World} {b : Nat} (hb : Below u.drew.heap.size u.drew v) (hp : b < u.heap.size) : b < v.heap.size := Nat.lt_of_lt_of_le hp hb.size
theorem below_d {w u v : World} (hb : Below u.drew.heap.size u.drew v) (h : Below w.heap.size w u) : Below w.heap.size w v := below_step h.drew hb
theorem keptc_ad {u v : World} {b o : Nat} {x : Value} {ob : Obj} (hb : Below (u.alloc ob).drew.heap.size (u.alloc ob).drew v) (hp : b < u.heap.size) (h : u.cell? ⟨b, o, none⟩ = some x) : v.cell? ⟨b, o, none⟩ = some x := keptc hb (by simp only [World.size_drew, World.size_alloc]; omega) ((World.cell?_alloc_lt u ob ⟨b, o, none⟩ hp).trans h)
theorem frozenc_ad {u v : World} {b o : Nat} {x : Bool} {ob : Obj} (hb : Below (u.alloc ob).drew.heap.size (u.alloc ob).drew v) (hp : b < u.heap.size) (h : u.frozen? ⟨b, o, none⟩ = x) : v.frozen? ⟨b, o, none⟩ = x := frozenc hb (by simp only [World.size_drew, World.size_alloc]; omega) ((World.frozen?_alloc_old u ob ⟨b, o, none⟩ (Nat.ne_of_lt hp)).trans h)
theorem lt_ad {u v : World} {b : Nat} {ob : Obj} (hb : Below (u.alloc ob).drew.heap.size (u.alloc ob).drew v) (hp : b < u.heap.size) : b < v.heap.size := Nat.lt_of_lt_of_le (by simp only [World.size_drew, World.size_alloc]; omega) hb.size
theorem below_ad {w u v : World} {ob : Obj} (hb : Below (u.alloc ob).drew.heap.size (u.alloc ob).drew v) (h : Below w.heap.size w u) : Below w.heap.size w v := below_step (h.alloc h.size ob).drew hb
theorem lt_0 {u v : World} {z : Nat} (hb : Below u.heap.size u v) (h : z < u.heap.size) : z < v.heap.size := Nat.lt_of_lt_of_le h hb.size
theorem below_0 {w u v : World} (hb : Below u.heap.size u v) (h : Below w.heap.size w u) : Below w.heap.size w v := below_step h hb
theorem lt_a {u v : World} {z : Nat} {ob : Obj} (hb : Below u.heap.size u v) (h : z < u.heap.size) : z < (v.alloc ob).heap.size := by
  have := hb.size; simp only [World.size_alloc]; omega
theorem below_a {w u v : World} {ob : Obj} (hb : Below u.heap.size u v) (h : Below w.heap.size w u) : Below w.heap.size w (v.alloc ob) := (below_step h hb).alloc (below_step h hb).size _
theorem kept1 {u v : World} {o : Obj} {p : Addr} {x : Value} (hb : Below (u.alloc o).heap.size (u.alloc o) v) (hp : p.block < u.heap.size) (h : u.cell? p = some x) : v.cell? p = some x :=
  (hb.cell (by simp only [World.size_alloc]; omega)).trans ((World.cell?_alloc_lt u o p hp).trans h)
theorem kept2 {u v : World} {o o' : Obj} {p : Addr} {x : Value} (hb : Below ((u.alloc o).alloc o').heap.size ((u.alloc o).alloc o') v) (hp : p.block < u.heap.size) (h : u.cell? p = some x) : v.cell? p = some x :=
  (hb.cell (by simp only [World.size_alloc]; omega)).trans ((World.cell?_alloc_lt _ o' p (by simp only [World.size_alloc]; omega)).trans ((World.cell?_alloc_lt u o p hp).trans h))
end Go.Proofs.Ytpedhlmcgilliaa
