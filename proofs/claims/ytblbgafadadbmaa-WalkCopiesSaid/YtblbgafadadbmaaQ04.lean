/- Lemmas for the claim's proof: TreeF Quiet3 Under. -/
import Derived.Deep.QuietTactic
import Derived.BigQuiet
import Derived.Test.YtblbgafadadbmaaQ01
import Derived.Test.YtblbgafadadbmaaQ02
import Derived.Test.YtblbgafadadbmaaQ03
section
/- A tree in memory, as it grows. -/
set_option linter.unusedVariables false
namespace Go.Proofs.Ytblbgafadadbmaa
open Go.RowKit
set_option maxRecDepth 100000
/-- The places of those of a kind of node. -/
def idx (p : Nd → Bool) (l : List Nd) : List Int := ((List.range l.length).filter fun k => p (l.getD k nd0)).map fun k : Nat => (k : Int)
theorem getD_left (l : List Nd) (x : Nd) (k : Nat) (h : k < l.length) : (l ++ [x]).getD k nd0 = l.getD k nd0 := by
  rw [List.getD_eq_getElem?_getD, List.getD_eq_getElem?_getD, List.getElem?_append_left h]
theorem getD_last (l : List Nd) (x : Nd) : (l ++ [x]).getD l.length nd0 = x := by
  rw [List.getD_eq_getElem?_getD, List.getElem?_append_right (Nat.le_refl _)]; simp
theorem idx_snoc (p : Nd → Bool) (l : List Nd) (x : Nd) : idx p (l ++ [x]) = idx p l ++ if p x = true then [(l.length : Int)] else [] := by
  unfold idx
  rw [List.length_append, List.length_singleton, List.range_succ, List.filter_append, List.map_append]
  congr 1
  · congr 1
    apply List.filter_congr
    intro k hk
    rw [getD_left l x k (by simpa using hk)]
  · by_cases h : p x = true <;> simp [List.filter, h]
theorem idx_nil (p : Nd → Bool) : idx p [] = [] := rfl
def isK (k : Int) (x : Nd) : Bool := x.kind == k
def under_ (i : Nat) (x : Nd) : Bool := x.above == (i : Int)
theorem snoc_ind {α : Type} {P : List α → Prop} (h0 : P []) (hs : ∀ l x, P l → P (l ++ [x])) (l : List α) : P l := by
  have h : ∀ m : List α, P m.reverse := by
    intro m
    induction m with
    | nil => exact h0
    | cons x m ih => rw [List.reverse_cons]; exact hs _ _ ih
  have := h l.reverse
  rwa [List.reverse_reverse] at this
theorem idx_count (p : Nd → Bool) (l : List Nd) : (idx p l).length = l.countP p := by
  induction l using snoc_ind with
  | h0 => rfl
  | hs l x ih =>
    rw [idx_snoc, List.length_append, ih, List.countP_append, List.countP_singleton]
    split <;> simp_all
theorem idx_bd (p : Nd → Bool) (l : List Nd) : ∀ z ∈ idx p l, 0 ≤ z ∧ z < l.length := by
  intro z hz
  simp only [idx, List.mem_map, List.mem_filter, List.mem_range] at hz
  obtain ⟨k, ⟨hk, _⟩, rfl⟩ := hz
  omega
abbrev ints (l : List Int) : List Value := l.map (Value.int .i64)
theorem ints_one' (l : List Int) : ∀ u ∈ ints l, u.oneCell' = true := ints_oneCell .i64 l
/-- A tree at b: its nodes lN; of nK of them the lists of those below; the levels and the hosts. r tells whose block is whose. -/
structure TS (w : World) (b : Nat) (vN vK vT vH : Value) (lN : List Nd) (nK : Nat) (ks : List Value) (lT lH : List Int) (kids : Nat → List Int) (r : Nat → Nat) : Prop where
  blk : Blk w b 114 #[vN, vK, vT, vH]
  rN : w.ownsRow (b + 1) 64 7 vN lN.length (flat lN)
  rK : w.ownsRow (b + 1) 23 1 vK nK ks
  rT : w.ownsRow (b + 1) 3 1 vT lT.length (ints lT)
  rH : w.ownsRow (b + 1) 3 1 vH lH.length (ints lH)
  rk : ∀ i, i < nK → w.ownsRow (b + 1) 3 1 (ks.getD i undef) (kids i).length (ints (kids i))
  dT : ∀ g, vT.ownBlock = some g → r g = 0
  dH : ∀ g, vH.ownBlock = some g → r g = 1
  dk : ∀ i g, i < nK → (ks.getD i undef).ownBlock = some g → r g = i + 2
section
variable {w w' : World} {b : Nat} {vN vK vT vH v' : Value} {lN : List Nd} {nK : Nat} {ks : List Value} {lT lH : List Int} {kids : Nat → List Int} {r : Nat → Nat}
theorem TS.len (h : TS w b vN vK vT vH lN nK ks lT lH kids r) : ks.length = nK := by have := h.rK.1; omega
theorem TS.alloc (h : TS w b vN vK vT vH lN nK ks lT lH kids r) (o : Obj) : TS (w.alloc o) b vN vK vT vH lN nK ks lT lH kids r :=
  ⟨h.blk.alloc o, h.rN.alloc o, h.rK.alloc o, h.rT.alloc o, h.rH.alloc o, fun i hi => (h.rk i hi).alloc o, h.dT, h.dH, h.dk⟩
theorem TS.drew (h : TS w b vN vK vT vH lN nK ks lT lH kids r) : TS w.drew b vN vK vT vH lN nK ks lT lH kids r :=
  ⟨h.blk, h.rN, h.rK, h.rT, h.rH, h.rk, h.dT, h.dH, h.dk⟩
theorem own_type {base : Nat} {e e' : TypeId} {s s' n n' : Nat} {v v' : Value} {xs xs' : List Value} (h : w.ownsRow base e s v n xs) (h' : w.ownsRow base e' s' v' n' xs') (hne : e ≠ e') : v.ownBlock = none ∨ v.ownBlock ≠ v'.ownBlock := by
  rcases h.2 with ⟨rfl, _⟩ | ⟨g, cap, cur, rfl, _, hg, _⟩
  · exact .inl rfl
  · right
    rcases h'.2 with ⟨rfl, _⟩ | ⟨g', cap', cur', rfl, _, hg', _⟩
    · simp [Value.ownBlock]
    · simp only [Value.ownBlock, ne_eq, Option.some.injEq]
      intro e2
      subst e2
      rw [hg] at hg'
      injection hg' with hg'
      injection hg' with _ ht _
      exact hne ht
theorem own_label {v v' : Value} {a c : Nat} (h : ∀ g, v.ownBlock = some g → r g = a) (h' : ∀ g, v'.ownBlock = some g → r g = c) (hne : a ≠ c) : v.ownBlock = none ∨ v.ownBlock ≠ v'.ownBlock := by
  cases hv : v.ownBlock with
  | none => exact .inl rfl
  | some g =>
    right
    intro e
    have h1 := h g hv
    have h2 := h' g e.symm
    omega
theorem own_block {base : Nat} {e : TypeId} {s n : Nat} {v : Value} {xs : List Value} (h : w.ownsRow (b + 1) e s v n xs) : some b ≠ v.ownBlock := by
  intro e2
  have := (h.lt b e2.symm).1
  omega
/-- The block b is as it was behind a row's growth, and takes a new slice. -/
theorem TS.tail (h : TS w b vN vK vT vH lN nK ks lT lH kids r) (hg : w.grownBy w' v'.ownBlock) (hb : some b ≠ v'.ownBlock) : Blk w' b 114 #[vN, vK, vT, vH] := h.blk.grown hg hb
theorem set_below {base : Nat} {e : TypeId} {s n : Nat} {v : Value} {xs : List Value} (h : w.ownsRow (b + 1) e s v n xs) (j : Nat) (u : Value) : (w.setCell ⟨b, j, none⟩ u).ownsRow (b + 1) e s v n xs :=
  ownsRow_setCell_below h (a := ⟨b, j, none⟩) (Nat.lt_succ_self b) u
theorem TS.pushN (h : TS w b vN vK vT vH lN nK ks lT lH kids r) (x : Nd) (hg : w.grownBy w' vN.ownBlock) (hown : w'.ownsRow (b + 1) 64 7 v' (lN.length + 1) (flat lN ++ x.cells)) :
    TS (w'.setCell ⟨b, 0, none⟩ v') b v' vK vT vH (lN ++ [x]) nK ks lT lH kids r where
  blk := (h.blk.grown hg (own_block (base := b + 1) h.rN)).setTo 0 v' rfl
  rN := set_below (base := 0) (by rw [flat_snoc, List.length_append]; exact hown) 0 v'
  rK := set_below (base := 0) (h.rK.kept hg (own_type h.rK h.rN (by decide))) 0 v'
  rT := set_below (base := 0) (h.rT.kept hg (own_type h.rT h.rN (by decide))) 0 v'
  rH := set_below (base := 0) (h.rH.kept hg (own_type h.rH h.rN (by decide))) 0 v'
  rk := fun i hi => set_below (base := 0) ((h.rk i hi).kept hg (own_type (h.rk i hi) h.rN (by decide))) 0 v'
  dT := h.dT
  dH := h.dH
  dk := h.dk
theorem getD_snocV (ks : List Value) (z : Value) (i : Nat) (h : i < ks.length) : (ks ++ [z]).getD i undef = ks.getD i undef := by
  rw [List.getD_eq_getElem?_getD, List.getD_eq_getElem?_getD, List.getElem?_append_left h]
theorem getD_lastV (ks : List Value) (z : Value) : (ks ++ [z]).getD ks.length undef = z := by
  rw [List.getD_eq_getElem?_getD, List.getElem?_append_right (Nat.le_refl _)]; simp
theorem TS.pushK (h : TS w b vN vK vT vH lN nK ks lT lH kids r) (hg : w.grownBy w' vK.ownBlock) (hown : w'.ownsRow (b + 1) 23 1 v' (nK + 1) (ks ++ [.slice none 0 0])) (hk : kids nK = []) :
    TS (w'.setCell ⟨b, 1, none⟩ v') b vN v' vT vH lN (nK + 1) (ks ++ [.slice none 0 0]) lT lH kids r where
  blk := (h.blk.grown hg (own_block (base := b + 1) h.rK)).setTo 1 v' rfl
  rN := set_below (base := 0) (h.rN.kept hg (own_type h.rN h.rK (by decide))) 1 v'
  rK := set_below (base := 0) hown 1 v'
  rT := set_below (base := 0) (h.rT.kept hg (own_type h.rT h.rK (by decide))) 1 v'
  rH := set_below (base := 0) (h.rH.kept hg (own_type h.rH h.rK (by decide))) 1 v'
  rk := fun i hi => by
    by_cases e : i = nK
    · subst e
      have e2 : (ks ++ [Value.slice none 0 0]).getD i undef = .slice none 0 0 := by rw [← h.len]; exact getD_lastV _ _
      rw [e2, hk]
      exact World.ownsRow_nil _ _ _ _
    · rw [getD_snocV _ _ _ (by rw [h.len]; omega)]
      have hi' : i < nK := by omega
      exact set_below (base := 0) ((h.rk i hi').kept hg (own_type (h.rk i hi') h.rK (by decide))) 1 v'
  dT := h.dT
  dH := h.dH
  dk := fun i g hi hb => by
    by_cases e : i = nK
    · subst e
      have e2 : (ks ++ [Value.slice none 0 0]).getD i undef = .slice none 0 0 := by rw [← h.len]; exact getD_lastV _ _
      rw [e2] at hb
      simp [Value.ownBlock] at hb
    · rw [getD_snocV _ _ _ (by rw [h.len]; omega)] at hb
      exact h.dk i g (by omega) hb
/-- A label of its own for a new block. -/
def lab (w : World) (a : Nat) (r : Nat → Nat) (g : Nat) : Nat := if g = w.heap.size then a else r g
theorem lab_old {base : Nat} {e : TypeId} {s n a c : Nat} {v : Value} {xs : List Value} (h : w.ownsRow base e s v n xs) (hr : ∀ g, v.ownBlock = some g → r g = c) : ∀ g, v.ownBlock = some g → lab w a r g = c := fun g hg => by
  have := (h.lt g hg).2
  unfold lab
  rw [if_neg (by omega)]
  exact hr g hg
theorem lab_new {a : Nat} {v v' : Value} (hat : v'.ownBlock = v.ownBlock ∨ v'.ownBlock = some w.heap.size) {base : Nat} {e : TypeId} {s n : Nat} {xs : List Value} (h : w.ownsRow base e s v n xs) (hr : ∀ g, v.ownBlock = some g → r g = a) : ∀ g, v'.ownBlock = some g → lab w a r g = a := fun g hg => by
  rcases hat with e | e
  · exact lab_old h hr g (e ▸ hg)
  · rw [e] at hg
    injection hg with hg
    unfold lab
    rw [if_pos hg.symm]
theorem TS.pushT (h : TS w b vN vK vT vH lN nK ks lT lH kids r) (z : Int) (hg : w.grownBy w' vT.ownBlock) (hown : w'.ownsRow (b + 1) 3 1 v' (lT.length + 1) (ints lT ++ [.int .i64 z])) (hat : v'.ownBlock = vT.ownBlock ∨ v'.ownBlock = some w.heap.size) :
    TS (w'.setCell ⟨b, 2, none⟩ v') b vN vK v' vH lN nK ks (lT ++ [z]) lH kids (lab w 0 r) where
  blk := (h.blk.grown hg (own_block (base := b + 1) h.rT)).setTo 2 v' rfl
  rN := set_below (base := 0) (h.rN.kept hg (own_type h.rN h.rT (by decide))) 2 v'
  rK := set_below (base := 0) (h.rK.kept hg (own_type h.rK h.rT (by decide))) 2 v'
  rT := set_below (base := 0) (by simpa [ints] using hown) 2 v'
  rH := set_below (base := 0) (h.rH.kept hg (own_label h.dH h.dT (by decide))) 2 v'
  rk := fun i hi => set_below (base := 0) ((h.rk i hi).kept hg (own_label (fun g hg => h.dk i g hi hg) h.dT (by omega))) 2 v'
  dT := lab_new hat h.rT h.dT
  dH := lab_old h.rH h.dH
  dk := fun i g hi hg => lab_old (h.rk i hi) (fun g hg => h.dk i g hi hg) g hg
theorem TS.pushH (h : TS w b vN vK vT vH lN nK ks lT lH kids r) (z : Int) (hg : w.grownBy w' vH.ownBlock) (hown : w'.ownsRow (b + 1) 3 1 v' (lH.length + 1) (ints lH ++ [.int .i64 z])) (hat : v'.ownBlock = vH.ownBlock ∨ v'.ownBlock = some w.heap.size) :
    TS (w'.setCell ⟨b, 3, none⟩ v') b vN vK vT v' lN nK ks lT (lH ++ [z]) kids (lab w 1 r) where
  blk := (h.blk.grown hg (own_block (base := b + 1) h.rH)).setTo 3 v' rfl
  rN := set_below (base := 0) (h.rN.kept hg (own_type h.rN h.rH (by decide))) 3 v'
  rK := set_below (base := 0) (h.rK.kept hg (own_type h.rK h.rH (by decide))) 3 v'
  rT := set_below (base := 0) (h.rT.kept hg (own_label h.dT h.dH (by decide))) 3 v'
  rH := set_below (base := 0) (by simpa [ints] using hown) 3 v'
  rk := fun i hi => set_below (base := 0) ((h.rk i hi).kept hg (own_label (fun g hg => h.dk i g hi hg) h.dH (by omega))) 3 v'
  dT := lab_old h.rT h.dT
  dH := lab_new hat h.rH h.dH
  dk := fun i g hi hg => lab_old (h.rk i hi) (fun g hg => h.dk i g hi hg) g hg
theorem getD_setV (ks : List Value) (k : Nat) (z : Value) (hk : k < ks.length) (i : Nat) : (ks.set k z).getD i undef = if i = k then z else ks.getD i undef := by
  rw [List.getD_eq_getElem?_getD, List.getElem?_set]
  by_cases h : k = i
  · subst h; simp [hk]
  · rw [if_neg h, if_neg (fun e => h e.symm), List.getD_eq_getElem?_getD]
/-- One more below the k-th node. -/
theorem TS.pushKid (h : TS w b vN vK vT vH lN nK ks lT lH kids r) {k : Nat} (hk : k < nK) (z : Int) (hg : w.grownBy w' (ks.getD k undef).ownBlock)
    (hown : w'.ownsRow (b + 1) 3 1 v' ((kids k).length + 1) (ints (kids k) ++ [.int .i64 z])) (hat : v'.ownBlock = (ks.getD k undef).ownBlock ∨ v'.ownBlock = some w.heap.size)
    {gK cK : Nat} (hvK : vK = .slice (some ⟨gK, 0, none⟩) nK cK) :
    TS (w'.setCell ⟨gK, k, none⟩ v') b vN vK vT vH lN nK (ks.set k v') lT lH (fun i => if i = k then kids k ++ [z] else kids i) (lab w (k + 2) r) := by
  subst hvK
  have K1 := h.rK.kept hg (own_type h.rK (h.rk k hk) (by decide))
  obtain ⟨K2, G2⟩ := K1.stored k v'
  have hKb : (Value.slice (some ⟨gK, 0, none⟩) nK cK).ownBlock = some gK := rfl
  have hbK : b ≠ gK := fun e => own_block (base := b + 1) h.rK (by rw [hKb, e])
  have kN := h.rN.kept hg (own_type h.rN (h.rk k hk) (by decide))
  have kT := h.rT.kept hg (own_label h.dT (fun g hg => h.dk k g hk hg) (by omega))
  have kH := h.rH.kept hg (own_label h.dH (fun g hg => h.dk k g hk hg) (by omega))
  refine ⟨?_, kN.kept G2 ?_, K2, kT.kept G2 ?_, kH.kept G2 ?_, fun i hi => ?_, lab_old h.rT h.dT, lab_old h.rH h.dH, fun i g hi hb => ?_⟩
  · exact (h.blk.grown hg (own_block (base := b + 1) (h.rk k hk))).far (p := ⟨gK, k, none⟩) hbK v'
  · have := own_type kN K1 (by decide)
    rwa [hKb] at this
  · have := own_type kT K1 (by decide)
    rwa [hKb] at this
  · have := own_type kH K1 (by decide)
    rwa [hKb] at this
  · rw [getD_setV _ _ _ (by rw [h.len]; exact hk)]
    by_cases e : i = k
    · subst e
      rw [if_pos rfl, if_pos rfl]
      have hown' : w'.ownsRow (b + 1) 3 1 v' (kids i ++ [z]).length (ints (kids i ++ [z])) := by simpa [ints] using hown
      have := own_type hown' K1 (by decide)
      rw [hKb] at this
      exact hown'.kept G2 this
    · rw [if_neg e, if_neg e]
      have ki := (h.rk i hi).kept hg (own_label (fun g hg => h.dk i g hi hg) (fun g hg => h.dk k g hk hg) (by omega))
      have := own_type ki K1 (by decide)
      rw [hKb] at this
      exact ki.kept G2 this
  · rw [getD_setV _ _ _ (by rw [h.len]; exact hk)] at hb
    by_cases e : i = k
    · subst e
      rw [if_pos rfl] at hb
      exact lab_new hat (h.rk i hi) (fun g hg => h.dk i g hi hg) g hb
    · rw [if_neg e] at hb
      exact lab_old (h.rk i hi) (fun g hg => h.dk i g hi hg) g hb
end
end Go.Proofs.Ytblbgafadadbmaa
end
section
/- Quiet regions behind quiet regions. -/
set_option linter.unusedVariables false
namespace Go.Proofs.Ytblbgafadadbmaa
section
variable {P : Program} {f : FuncId} {args : Array Value} {w : World} {a n : Nat} {v : Value}
theorem quiet_add (h : Calls P f args (w.drewN (a + n)) fun e w' => e = .returned v ∧ ∃ m, w' = (w.drewN (a + n)).drewN m) :
    Calls P f args (w.drewN (a + n)) fun e w'' => e = .returned v ∧ ∃ m, w'' = w.drewN (a + m) :=
  h.mono fun _ _ ⟨he, m, hm⟩ => ⟨he, n + m, by rw [hm, World.drewN_drewN, Nat.add_assoc]⟩
theorem quiet_add_left (h : Calls P f args (w.drewN (a + n)) fun e w' => e = .returned v ∧ w.drewN (a + n) = w') :
    Calls P f args (w.drewN (a + n)) fun e w'' => e = .returned v ∧ ∃ m, w'' = w.drewN (a + m) :=
  h.mono fun _ _ ⟨he, hm⟩ => ⟨he, n, hm.symm⟩
theorem quiet_left (h : Calls P f args (w.drewN n) fun e w' => e = .returned v ∧ w.drewN n = w') : Calls P f args (w.drewN n) fun e w'' => e = .returned v ∧ ∃ m, w'' = w.drewN m :=
  h.mono fun _ _ ⟨he, hm⟩ => ⟨he, n, hm.symm⟩
end
end Go.Proofs.Ytblbgafadadbmaa
end
section
/- Regions that draw their order, whose operations only read and whose callees may make memory: one walk, in the order of the text. -/
set_option linter.unusedVariables false
namespace Go.Proofs.Ytblbgafadadbmaa
open Go.RowKit
/-- What a world has beside another one: blocks behind its own, and a count of draws. -/
structure UP where
  h : Array Obj
  d : Nat
  deriving Inhabited
/-- A world with more blocks, and another count. -/
def under (w : World) (p : UP) : World := { w with heap := w.heap ++ p.h, drawn := p.d }
theorem under_below (w : World) (p : UP) : Below w.heap.size w (under w p) :=
  ⟨rfl, rfl, rfl, by simp [under], fun k hk => by simp only [under]; exact Array.getElem?_append_left hk⟩
theorem under_of_below {w w' : World} (h : Below w.heap.size w w') : ∃ p : UP, w' = under w p := by
  refine ⟨⟨w'.heap.extract w.heap.size w'.heap.size, w'.drawn⟩, ?_⟩
  obtain ⟨ho, ht, hp, hs, hb⟩ := h
  have e : w.heap ++ w'.heap.extract w.heap.size w'.heap.size = w'.heap := by
    apply Array.ext_getElem?
    intro i
    rcases Nat.lt_or_ge i w.heap.size with hi | hi
    · rw [Array.getElem?_append_left hi, hb i hi]
    · rw [Array.getElem?_append_right hi, Array.getElem?_extract]
      split
      · congr 1; omega
      · rw [Array.getElem?_eq_none]; omega
  cases w; cases w'
  simp only [under] at *
  subst ho ht hp
  rw [e]
theorem under_under (w : World) (p q : UP) : under (under w p) q = under w ⟨p.h ++ q.h, q.d⟩ := by
  simp [under, Array.append_assoc]
theorem under_drew (w : World) : ({ w with drawn := w.drawn + 1 } : World) = under w ⟨#[], w.drawn + 1⟩ := by simp [under]
theorem cell_under {w : World} {a : Addr} {v : Value} (h : w.cell? a = some v) (p : UP) : (under w p).cell? a = some v := cell_keep h (under_below w p)
theorem Blk.under {w : World} {g : Nat} {t : TypeId} {cs : Array Value} (h : Blk w g t cs) (p : UP) : Blk (under w p) g t cs := h.keep (under_below w p)
theorem wp_region_quiet_under {P : Program} {id : Nat} {Q : Exit → Act → World → Prop} {a : Act} {w : World} {l : List Oper} (hm : P.follows .mixedOrders = true) (hB : Region.lexB .any l.toArray = true)
    (h : wpQuiet P l.toArray (fun w' => ∃ p : UP, w' = under w p) (fun a' => ∀ w', (∃ p : UP, w' = under w p) → Q .normal a' w') l a) : (Code.region id l.toArray true).wp P Q a w :=
  wp_region_quiet (C := fun w' => ∃ p : UP, w' = under w p) hm hB ⟨_, under_drew w⟩ (by simpa using h)
theorem calls_under {P : Program} {f : FuncId} {args : Array Value} {w : World} {p : UP} {v : Value}
    (h : Calls P f args (under w p) fun e w' => e = .returned v ∧ Below (under w p).heap.size (under w p) w') : Calls P f args (under w p) fun e w'' => e = .returned v ∧ ∃ q : UP, w'' = under w q :=
  h.mono fun _ _ ⟨he, hb⟩ => by
    obtain ⟨q, hq⟩ := under_of_below hb
    exact ⟨he, _, hq.trans (under_under w p q)⟩
theorem calls_under_same {P : Program} {f : FuncId} {args : Array Value} {w : World} {p : UP} {v : Value}
    (h : Calls P f args (under w p) fun e w' => e = .returned v ∧ under w p = w') : Calls P f args (under w p) fun e w'' => e = .returned v ∧ ∃ q : UP, w'' = under w q :=
  h.mono fun _ _ ⟨he, hb⟩ => ⟨he, _, hb.symm⟩
theorem calls_under_drewN {P : Program} {f : FuncId} {args : Array Value} {w : World} {p : UP} {v : Value}
    (h : Calls P f args (under w p) fun e w' => e = .returned v ∧ ∃ d, w' = (under w p).drewN d) : Calls P f args (under w p) fun e w'' => e = .returned v ∧ ∃ q : UP, w'' = under w q :=
  h.mono fun _ _ ⟨he, d, hb⟩ => ⟨he, ⟨p.h, p.d + d⟩, by rw [hb]; rfl⟩
theorem below_eq {w w' : World} {p : UP} (h : w' = under w p) : Below w.heap.size w w' := h ▸ under_below w p
end Go.Proofs.Ytblbgafadadbmaa
end
