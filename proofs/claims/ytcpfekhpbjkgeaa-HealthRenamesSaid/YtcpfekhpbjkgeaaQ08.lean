/- Lemmas for the claim's proof: WheelA WheelB. -/
import Derived.Deep.RegionHeld3
import Derived.Test.YtcpfekhpbjkgeaaQ03
import Derived.Test.YtcpfekhpbjkgeaaQ07
section
/- A wheel in memory. -/
set_option linter.unusedVariables false
namespace Go.Proofs.Ytcpfekhpbjkgeaa
open Go.RowKit
set_option maxHeartbeats 8000000
set_option maxRecDepth 100000
def slotCells (V : Nat → Value) (now n : Int) : Array Value := ((List.range 64).map V ++ [Value.int .i64 now, Value.int .i64 n]).toArray
def updV (V : Nat → Value) (k : Nat) (v : Value) : Nat → Value := fun j => if j = k then v else V j
theorem slot_at (V : Nat → Value) (now n : Int) {k : Nat} (hk : k < 64) : (slotCells V now n)[k]? = some (V k) := by
  unfold slotCells
  rw [List.getElem?_toArray, List.getElem?_append_left (by simpa using hk), List.getElem?_map, List.getElem?_range hk]; rfl
theorem slot_now (V : Nat → Value) (now n : Int) : (slotCells V now n)[64]? = some (.int .i64 now) := by
  unfold slotCells
  rw [List.getElem?_toArray, List.getElem?_append_right (by simp)]; simp
theorem slot_n (V : Nat → Value) (now n : Int) : (slotCells V now n)[65]? = some (.int .i64 n) := by
  unfold slotCells
  rw [List.getElem?_toArray, List.getElem?_append_right (by simp)]; simp
theorem slot_size (V : Nat → Value) (now n : Int) : (slotCells V now n).size = 66 := by unfold slotCells; simp
theorem slot_ext {V : Nat → Value} {now n : Int} {a : Array Value} (hs : a.size = 66) (h : ∀ k, k < 64 → a[k]? = some (V k)) (h1 : a[64]? = some (.int .i64 now)) (h2 : a[65]? = some (.int .i64 n)) : a = slotCells V now n := by
  apply Array.ext_getElem?
  intro i
  by_cases c : i < 64
  · rw [h i c, slot_at _ _ _ c]
  · by_cases c1 : i = 64
    · subst c1; rw [h1, slot_now]
    · by_cases c2 : i = 65
      · subst c2; rw [h2, slot_n]
      · rw [Array.getElem?_eq_none (by omega), Array.getElem?_eq_none (by rw [slot_size]; omega)]
theorem slot_set (V : Nat → Value) (now n : Int) {k : Nat} (hk : k < 64) (v : Value) : (slotCells V now n).setIfInBounds k v = slotCells (updV V k v) now n := by
  apply slot_ext (by simp [slot_size])
  · intro j hj
    rw [Array.getElem?_setIfInBounds]
    unfold updV
    by_cases e : k = j
    · subst e; rw [if_pos rfl, if_pos (by rw [slot_size]; omega), if_pos rfl]
    · rw [if_neg e, if_neg (fun h => e h.symm)]; exact slot_at _ _ _ hj
  · rw [Array.getElem?_setIfInBounds, if_neg (by omega)]; exact slot_now _ _ _
  · rw [Array.getElem?_setIfInBounds, if_neg (by omega)]; exact slot_n _ _ _
theorem slot_set_now (V : Nat → Value) (now n z : Int) : (slotCells V now n).setIfInBounds 64 (.int .i64 z) = slotCells V z n := by
  apply slot_ext (by simp [slot_size])
  · intro j hj; rw [Array.getElem?_setIfInBounds, if_neg (by omega)]; exact slot_at _ _ _ hj
  · rw [Array.getElem?_setIfInBounds, if_pos rfl, if_pos (by rw [slot_size]; omega)]
  · rw [Array.getElem?_setIfInBounds, if_neg (by omega)]; exact slot_n _ _ _
theorem slot_set_n (V : Nat → Value) (now n z : Int) : (slotCells V now n).setIfInBounds 65 (.int .i64 z) = slotCells V now z := by
  apply slot_ext (by simp [slot_size])
  · intro j hj; rw [Array.getElem?_setIfInBounds, if_neg (by omega)]; exact slot_at _ _ _ hj
  · rw [Array.getElem?_setIfInBounds, if_neg (by omega)]; exact slot_now _ _ _
  · rw [Array.getElem?_setIfInBounds, if_pos rfl, if_pos (by rw [slot_size]; omega)]
/-- The blocks of a wheel. -/
def wIn (b : Nat) (V : Nat → Value) (g : Nat) : Prop := g = b ∨ ∃ k, k < 64 ∧ (V k).ownBlock = some g
structure IsWheel (w : World) (B b : Nat) (V : Nat → Value) (S : Nat → List It) (now n : Int) : Prop where
  blk : Blk w b 27 (slotCells V now n)
  low : B ≤ b
  row : ∀ k, k < 64 → w.ownsRow B 31 2 (V k) (S k).length (itShape.flat (S k))
  apart : ∀ i j, i < 64 → j < 64 → i ≠ j → (V i).ownBlock = none ∨ (V i).ownBlock ≠ (V j).ownBlock
section
variable {w w' : World} {B b : Nat} {V : Nat → Value} {S : Nat → List It} {now n : Int}
theorem row_not {e : TypeId} {s m : Nat} {v : Value} {xs : List Value} {cs : Array Value} {T : TypeId} (P : Blk w b T cs) (h : w.ownsRow B e s v m xs) (hne : e ≠ T) : v.ownBlock ≠ some b := by
  rcases h.2 with ⟨rfl, _⟩ | ⟨g, cap, cur, rfl, _, hg, _⟩
  · simp [Value.ownBlock]
  · intro e1
    simp only [Value.ownBlock, Option.some.injEq] at e1
    subst e1
    unfold Blk at P
    rw [hg] at P
    injection P with P
    injection P with _ P
    exact hne P
theorem IsWheel.no (h : IsWheel w B b V S now n) {k : Nat} (hk : k < 64) : (V k).ownBlock ≠ some b := row_not h.blk (h.row k hk) (by decide)
theorem ownR_keep {e : TypeId} {s m : Nat} {v : Value} {xs : List Value} (h : w.ownsRow B e s v m xs) (hx : Below w.heap.size w w') : w'.ownsRow B e s v m xs := by
  refine ⟨h.1, ?_⟩
  rcases h.2 with hn | ⟨g, cap, cur, rfl, hb, hg, rest⟩
  · exact .inl hn
  · exact .inr ⟨g, cap, cur, rfl, hb, (hx.block g (Array.getElem?_eq_some_iff.1 hg).1).trans hg, rest⟩
theorem IsWheel.keep (h : IsWheel w B b V S now n) (hx : Below w.heap.size w w') : IsWheel w' B b V S now n :=
  ⟨h.blk.keep hx, h.low, fun k hk => ownR_keep (h.row k hk) hx, h.apart⟩
theorem IsWheel.drew (h : IsWheel w B b V S now n) : IsWheel w.drew B b V S now n := ⟨h.blk, h.low, fun k hk => h.row k hk, h.apart⟩
theorem ownR_mod {D : Nat → Prop} {e : TypeId} {s m : Nat} {v : Value} {xs : List Value} (h : w.ownsRow B e s v m xs) (hx : Mod D w w') (hn : ∀ g, v.ownBlock = some g → ¬ D g) : w'.ownsRow B e s v m xs := by
  refine ⟨h.1, ?_⟩
  rcases h.2 with h0 | ⟨g, cap, cur, rfl, hb, hg, rest⟩
  · exact .inl h0
  · exact .inr ⟨g, cap, cur, rfl, hb, (hx.block g (Array.getElem?_eq_some_iff.1 hg).1 (hn g rfl)).trans hg, rest⟩
theorem IsWheel.mod {D : Nat → Prop} (h : IsWheel w B b V S now n) (hx : Mod D w w') (hn : ∀ g, wIn b V g → ¬ D g) : IsWheel w' B b V S now n :=
  ⟨h.blk.mod hx (hn b (.inl rfl)), h.low, fun k hk => ownR_mod (h.row k hk) hx (fun g hg => hn g (.inr ⟨k, hk, hg⟩)), h.apart⟩
theorem IsWheel.lt (h : IsWheel w B b V S now n) {g : Nat} (hg : wIn b V g) : B ≤ g ∧ g < w.heap.size := by
  rcases hg with rfl | ⟨k, hk, hg⟩
  · exact ⟨h.low, h.blk.lt⟩
  · exact (h.row k hk).lt g hg
theorem IsWheel.congr {S' : Nat → List It} (h : IsWheel w B b V S now n) (e : ∀ k, k < 64 → S k = S' k) : IsWheel w B b V S' now n :=
  ⟨h.blk, h.low, fun k hk => e k hk ▸ h.row k hk, h.apart⟩
/-- Where one slot's slice has grown, or has been made anew: what stands when it is laid in. -/
theorem IsWheel.put (h : IsWheel w B b V S now n) {k : Nat} (hk : k < 64) (hg : w.grownBy w' (V k).ownBlock) {v' : Value} {r : List It} (hown : w'.ownsRow B 31 2 v' r.length (itShape.flat r))
    (hat : ∀ g, v'.ownBlock = some g → (V k).ownBlock = some g ∨ w.heap.size ≤ g) : IsWheel (w'.setCell ⟨b, k, none⟩ v') B b (updV V k v') (upd S k r) now n := by
  have hb' : Blk w' b 27 (slotCells V now n) := h.blk.grown hg (fun e => h.no hk e.symm)
  have hv' : v'.ownBlock ≠ some b := row_not hb' hown (by decide)
  refine ⟨(hb'.set_ k v').eq_ (slot_set _ _ _ hk _), h.low, fun j hj => ?_, fun i j hi hj hij => ?_⟩
  · unfold updV upd
    by_cases e : j = k
    · subst e
      rw [if_pos rfl, if_pos rfl]
      exact ownsRow_setCell_other hown (a := ⟨b, j, none⟩) hv' v'
    · rw [if_neg e, if_neg e]
      exact ownsRow_setCell_other ((h.row j hj).kept hg (h.apart j k hj hk e)) (a := ⟨b, k, none⟩) (h.no hj) v'
  · have fresh : ∀ j, j < 64 → j ≠ k → (V j).ownBlock = none ∨ (V j).ownBlock ≠ v'.ownBlock := fun j hj e => by
      rcases h.apart j k hj hk e with h0 | h0
      · exact .inl h0
      · cases hv : (V j).ownBlock with
        | none => exact .inl rfl
        | some g =>
          refine .inr (fun e2 => ?_)
          rcases hat g e2.symm with h1 | h1
          · exact h0 (hv.trans h1.symm)
          · have := ((h.row j hj).lt g hv).2; omega
    unfold updV
    by_cases e1 : i = k
    · by_cases e2 : j = k
      · omega
      · rw [if_pos e1, if_neg e2]
        rcases fresh j hj e2 with h0 | h0
        · cases hv : v'.ownBlock with
          | none => exact .inl rfl
          | some g => exact .inr (by rw [h0]; simp)
        · exact .inr (fun e => h0 e.symm)
    · by_cases e2 : j = k
      · rw [if_neg e1, if_pos e2]; exact fresh i hi e1
      · rw [if_neg e1, if_neg e2]; exact h.apart i j hi hj hij
theorem wIn_put {k : Nat} {v' : Value} {m : Nat} (hk : k < 64) (hat : ∀ g, v'.ownBlock = some g → (V k).ownBlock = some g ∨ m ≤ g) {g : Nat} (hg : wIn b (updV V k v') g) : wIn b V g ∨ m ≤ g := by
  rcases hg with rfl | ⟨j, hj, hg⟩
  · exact .inl (.inl rfl)
  · unfold updV at hg
    split at hg
    · rcases hat g hg with h | h
      · exact .inl (.inr ⟨k, hk, h⟩)
      · exact .inr h
    · exact .inl (.inr ⟨j, hj, hg⟩)
theorem IsWheel.setNow (h : IsWheel w B b V S now n) (z : Int) : IsWheel (w.setCell ⟨b, 64, none⟩ (.int .i64 z)) B b V S z n :=
  ⟨(h.blk.set_ 64 _).eq_ (slot_set_now _ _ _ _), h.low, fun k hk => ownsRow_setCell_other (h.row k hk) (a := ⟨b, 64, none⟩) (h.no hk) _, h.apart⟩
theorem IsWheel.setN (h : IsWheel w B b V S now n) (z : Int) : IsWheel (w.setCell ⟨b, 65, none⟩ (.int .i64 z)) B b V S now z :=
  ⟨(h.blk.set_ 65 _).eq_ (slot_set_n _ _ _ _), h.low, fun k hk => ownsRow_setCell_other (h.row k hk) (a := ⟨b, 65, none⟩) (h.no hk) _, h.apart⟩
theorem IsWheel.cNow (h : IsWheel w B b V S now n) : w.cell? ⟨b, 64, none⟩ = some (.int .i64 now) := (h.blk.cell 64).trans (slot_now _ _ _)
theorem IsWheel.cN (h : IsWheel w B b V S now n) : w.cell? ⟨b, 65, none⟩ = some (.int .i64 n) := (h.blk.cell 65).trans (slot_n _ _ _)
theorem IsWheel.cSlot (h : IsWheel w B b V S now n) {k : Nat} (hk : k < 64) : w.cell? ⟨b, k, none⟩ = some (V k) := (h.blk.cell k).trans (slot_at _ _ _ hk)
theorem slot_le (S : Nat → List It) {k : Nat} : ∀ {n : Nat}, k < n → (S k).length ≤ (allOf S n).length
  | 0, h => absurd h (Nat.not_lt_zero _)
  | n + 1, h => by
    rw [allOf_succ, List.length_append]
    by_cases e : k = n
    · subst e; omega
    · have := slot_le S (k := k) (n := n) (by omega); omega
theorem mod_wheel (h : Mod (wIn b V) w w') (o : Obj) : Mod (wIn b V) w (w'.alloc o) := h.alloc o
end
/-- A wheel, and what it holds, in order. -/
structure WheelIs (w : World) (B b : Nat) (V : Nat → Value) (l : List It) (now : Int) : Prop where
  ex : ∃ S, IsWheel w B b V S now l.length ∧ SlotsOk S now ∧ l.Perm (allOf S 64)
  ord : Ordered l
  wf : ∀ x ∈ l, itShape.Wf x
  n0 : 0 ≤ now
  n1 : now ≤ 1099511627776
section
variable {w w' : World} {B b : Nat} {V : Nat → Value} {l : List It} {now : Int}
theorem WheelIs.keep (h : WheelIs w B b V l now) (hx : Below w.heap.size w w') : WheelIs w' B b V l now := by
  obtain ⟨S, h1, h2, h3⟩ := h.ex
  exact ⟨⟨S, h1.keep hx, h2, h3⟩, h.ord, h.wf, h.n0, h.n1⟩
theorem WheelIs.mod {D : Nat → Prop} (h : WheelIs w B b V l now) (hx : Mod D w w') (hn : ∀ g, wIn b V g → ¬ D g) : WheelIs w' B b V l now := by
  obtain ⟨S, h1, h2, h3⟩ := h.ex
  exact ⟨⟨S, h1.mod hx hn, h2, h3⟩, h.ord, h.wf, h.n0, h.n1⟩
theorem WheelIs.lt (h : WheelIs w B b V l now) {g : Nat} (hg : wIn b V g) : B ≤ g ∧ g < w.heap.size := by
  obtain ⟨S, h1, _⟩ := h.ex
  exact h1.lt hg
theorem WheelIs.cNow (h : WheelIs w B b V l now) : w.cell? ⟨b, 64, none⟩ = some (.int .i64 now) := by
  obtain ⟨S, h1, _⟩ := h.ex
  exact h1.cNow
theorem WheelIs.cN (h : WheelIs w B b V l now) : w.cell? ⟨b, 65, none⟩ = some (.int .i64 l.length) := by
  obtain ⟨S, h1, _⟩ := h.ex
  exact h1.cN
theorem wheel_new {cs : Array Value} (hb : Blk w b 27 cs) (hc : cs = slotCells (fun _ => .slice none 0 0) 0 0) (hB : B ≤ b) : WheelIs w B b (fun _ => .slice none 0 0) [] 0 :=
  ⟨⟨fun _ => [], ⟨hb.eq_ hc, hB, fun k hk => World.ownsRow_nil w B _ 2, fun i j _ _ _ => .inl rfl⟩, fun k hk x hx => (by cases hx), by rw [allOf_nil]⟩, List.Pairwise.nil, fun x hx => (by cases hx), Int.le_refl _, by decide⟩
theorem wheel_Now (h : WheelIs w B b V l now) : Calls Try.prog 14 #[.pointer (some ⟨b, 0, none⟩)] w fun e w' => e = .returned (.int .i64 now) ∧ w = w' := by
  have c := h.cNow
  go_enter Try.func14, Try.ntmps14
  go_wp2
  go_ret
  exact ⟨rfl, rfl⟩
theorem wheel_Len (h : WheelIs w B b V l now) : Calls Try.prog 22 #[.pointer (some ⟨b, 0, none⟩)] w fun e w' => e = .returned (.int .i64 l.length) ∧ w = w' := by
  have c := h.cN
  go_enter Try.func22, Try.ntmps22
  go_wp2
  go_ret
  exact ⟨rfl, rfl⟩
end
end Go.Proofs.Ytcpfekhpbjkgeaa
end
section
/- wheel.Add. -/
set_option linter.unusedVariables false
namespace Go.Proofs.Ytcpfekhpbjkgeaa
open Go.RowKit
set_option maxHeartbeats 8000000
set_option maxRecDepth 100000
theorem Try.infoItem : (Try.prog.info? 31).map (fun i => (i.zero, i.size, i.bytes)) = some (some (.agg #[.int .i64 0, .int .i64 0]), 2, 16) := by kernel_rfl
theorem Try.infoItems : (Try.prog.info? 22).map (fun i => (i.zero, i.size, i.bytes)) = some (some (.slice none 0 0), 1, 24) := by kernel_rfl
theorem take_one {P : Program} {md : Region.Mode} {ops : Array Oper} {Q : Exit → Act → World → Prop} {S : World → Prop} {i : Nat} {oi : Oper} {v : Value} {fuel : Nat} {listed : Array Bool} {a : Act} {w : World} (hi : ops[i]? = some oi)
    (hs : Region.noSelect ops = true) (hf : Region.free md ops listed i = true) (hr : (Region.ready md ops listed).contains i = true)
    (hQ : ∀ c a w, Q (.panic c) (a.put oi.dst v) w → Q (.panic c) a w) (hw : Region.wanted oi (yielded ops a.tmps) = true) (hy : ∀ w, S w → (execOp a.eval oi).run P w = .ok (.value v) w) (hS : S w)
    (h : wpAnyH P md ops Q S fuel (listed.setIfInBounds i true) (a.put oi.dst v) w) : wpAnyH P md ops Q S (fuel + 1) listed a w :=
  wpAnyH_take hi hs hf hr hQ (.inl ⟨hw, hy⟩) hS h
theorem it_reads (w : World) (T : TypeId) (size : Nat) (cs : List Value) (h : cs.length = size) : Reads (w.alloc (.cells ⟨cs⟩ T)) (w.alloc (.cells ⟨cs⟩ T)).heap.size size (some ⟨w.heap.size, 0, none⟩) 1 cs :=
  ⟨by omega, fun _ => ⟨_, rfl, by simp, fun j u hu => by
    have e : (⟨w.heap.size, 0, none⟩ : Addr).add j = ⟨w.heap.size, j, none⟩ := by unfold Addr.add; split <;> simp_all
    rw [e, (Blk.new w T ⟨cs⟩).cell j]
    simpa using hu⟩⟩
theorem add_slots {S : Nat → List It} {now : Int} (h : SlotsOk S now) {x : It} (h1 : now < x.t) (h2 : x.t ≤ 1099511627776) {k : Nat} (hk : (k : Int) = x.t % 64) : SlotsOk (upd S k (S k ++ [x])) now := fun j hj y hy => by
  by_cases e : j = k
  · subst e
    rw [upd_same] at hy
    rcases List.mem_append.1 hy with hy | hy
    · exact h j hj y hy
    · obtain rfl := List.mem_singleton.1 hy
      exact ⟨hk.symm, h1, h2⟩
  · rw [upd_far _ _ e] at hy; exact h j hj y hy
theorem add_perm {S : Nat → List It} {l : List It} (hp : l.Perm (allOf S 64)) (x : It) {k : Nat} (hk : k < 64) : (putL l x).Perm (allOf (upd S k (S k ++ [x])) 64) := by
  have a1 := allOf_upd S k (S k ++ [x]) 64 hk
  have a2 : (allOf S 64 ++ (S k ++ [x])).Perm ((allOf S 64 ++ [x]) ++ S k) := by
    rw [List.append_assoc]; exact List.Perm.append_left _ List.perm_append_comm
  have a3 := (List.perm_append_right_iff _).1 (a1.trans a2)
  exact (((putL_perm x l).trans (hp.cons x)).trans (List.perm_append_comm (l₁ := [x]))).trans a3.symm
/-- What Add answers, and what there is then. -/
def addE (now : Int) (x : It) : Int := if now < x.t ∧ x.t ≤ 1099511627776 then 0 else 5
def addL (now : Int) (l : List It) (x : It) : List It := if now < x.t ∧ x.t ≤ 1099511627776 then putL l x else l
theorem own_sl {w : World} {base : Nat} {e : TypeId} {s n : Nat} {v : Value} {xs : List Value} (h : w.ownsRow base e s v n xs) : ∃ A c, v = .slice A n c := by
  rcases h.2 with ⟨rfl, rfl⟩ | ⟨g, cap, cur, rfl, _⟩
  · exact ⟨none, 0, rfl⟩
  · exact ⟨_, _, rfl⟩
theorem own_at {v v' : Value} {m : Nat} (h : v'.ownBlock = v.ownBlock ∨ v'.ownBlock = some m) {g : Nat} (hg : v'.ownBlock = some g) : v.ownBlock = some g ∨ m ≤ g := by
  rcases h with h | h
  · exact .inl (h ▸ hg)
  · rw [h] at hg; cases hg; exact .inr (Nat.le_refl _)
theorem mod_grown {D : Nat → Prop} {w w' : World} {row : Option Nat} (h : w.grownBy w' row) (hr : ∀ g, row = some g → D g) : Mod D w w' :=
  ⟨h.os, h.tape, h.output, h.size, fun i hi hn => h.block i hi (fun e => hn (hr i e.symm))⟩
/-- What a call leaves of a wheel. -/
def WheelTo (w w' : World) (B b : Nat) (V : Nat → Value) (l : List It) (now : Int) : Prop :=
  ∃ V', WheelIs w' B b V' l now ∧ Mod (wIn b V) w w' ∧ ∀ g, wIn b V' g → wIn b V g ∨ w.heap.size ≤ g
theorem WheelTo.same {w w' : World} {B b : Nat} {V : Nat → Value} {l : List It} {now : Int} (h : WheelIs w B b V l now) (hx : Below w.heap.size w w') : WheelTo w w' B b V l now :=
  ⟨V, h.keep hx, Mod.of_below hx, fun g hg => .inl hg⟩
theorem wheel_Add {w : World} {B b : Nat} {V : Nat → Value} {l : List It} {now : Int} (h : WheelIs w B b V l now) (x : It) (hx : itShape.Wf x) (hl : l.length < 4096) :
    Calls Try.prog 13 #[.pointer (some ⟨b, 0, none⟩), .agg #[.int .i64 x.t, .int .i64 x.id]] w fun e w' => e = .returned (.int .i64 (addE now x)) ∧ WheelTo w w' B b V (addL now l x) now := by
  obtain ⟨xt, xi⟩ := x
  have HE := Lib.hid (show addE now ⟨xt, xi⟩ = if now < xt ∧ xt ≤ 1099511627776 then 0 else 5 from rfl)
  have HA := Lib.hid (show addL now l ⟨xt, xi⟩ = if now < xt ∧ xt ≤ 1099511627776 then putL l ⟨xt, xi⟩ else l from rfl)
  have HX := Lib.hid hx
  generalize addE now ⟨xt, xi⟩ = E at *
  generalize addL now l ⟨xt, xi⟩ = L at *
  dsimp only
  have hA : Below w.heap.size w (w.alloc (.cells #[.int .i64 xt, .int .i64 xi] 31)) := (Below.refl _ _).alloc (Nat.le_refl _) _
  have P := Blk.new w 31 #[.int .i64 xt, .int .i64 xi]
  have h1 := h.keep hA
  have HNB := Lib.hid (fun g hg => (h.lt (g := g) hg).2)
  clear hx h
  go_enter Try.func13, Try.ntmps13
  go_upto_region 1 with (fail)
  obtain ⟨xb, hxb⟩ : ∃ q, q = w.heap.size := ⟨_, rfl⟩
  rw [← hxb] at P ⊢
  have HXB := Lib.hid hxb
  generalize w.alloc (.cells #[.int .i64 xt, .int .i64 xi] 31) = u at *
  obtain ⟨p0, p1, _⟩ := P.cells2
  have c64 := h1.cNow
  have U0 := cell_under p0
  have U1 := cell_under p1
  have U2 := cell_under c64
  clear p0 p1 c64 hxb
  by_cases c1 : now < xt
  · by_cases c2 : xt ≤ 1099511627776
    · have g1 : ¬ xt ≤ now := by omega
      have g2 : ¬ 1099511627776 < xt := by omega
      have HC := Lib.hid (And.intro c1 c2)
      refine wp_region_quiet_under (by kernel_rfl) (by kernel_rfl) ?_
      repeat (go_big_quiet_step ((fail)))
      refine wpQuiet_nil ?_
      intro w2 hw'
      obtain ⟨pq, hw''⟩ := hw'
      have hU := below_eq hw''
      clear hw'' pq
      have P2 := P.keep hU
      have h2 := h1.keep hU
      have hA2 := below_step hA hU
      obtain ⟨p0, p1, _⟩ := P2.cells2
      clear U0 U1 U2 P h1 hU hA
      obtain ⟨S, hS, hOK, hPe⟩ := h2.ex
      have hn0 := h2.n0
      obtain ⟨k, hk⟩ : ∃ k : Nat, (k : Int) = xt % 64 := ⟨(xt % 64).toNat, by omega⟩
      have hk64 : k < 64 := by omega
      have hkz : (k : Int) < 64 := by omega
      have hkm : xt % 64 = (k : Int) := hk.symm
      have hkt : Int.tmod xt 64 = (k : Int) := by rw [Int.tmod_eq_emod_of_nonneg (by omega)]; exact hk.symm
      have HK := Lib.hid hk
      have HOK := Lib.hid (And.intro hOK hPe)
      have HORD := Lib.hid (And.intro h2.ord (And.intro h2.wf (And.intro h2.n0 h2.n1)))
      clear hk hOK hPe h2 hn0
      go_upto_region 4 with (fail)
      obtain ⟨iI, hiI, hzI, hzI1, hzI2⟩ := info_parts Try.infoItem
      have hIW := hS.drew
      have c7 := hIW.cSlot hk64
      have hAW : Below w.heap.size w w2.drew := hA2.drew
      have hne : some xb ≠ (V k).ownBlock := fun e => by
        have := HNB.out xb (.inr ⟨k, hk64, e.symm⟩)
        have := HXB.out
        omega
      have hlen4 : (S k).length < 4096 := by
        have h1 := HOK.out.2.length_eq
        have h2 : (S k).length ≤ (allOf S 64).length := slot_le S hk64
        omega
      have hB0 : B ≤ w.heap.size := by have := hIW.low; have := HNB.out b (.inl rfl); omega
      have HW := Lib.hid (fun e => hIW.no hk64 e)
      refine wp_region_noPanic ?_
      refine wp_region_held_drew (S := (fun w' => w'.cell? ⟨xb, 0, none⟩ = some (.int .i64 xt) ∧ w'.cell? ⟨xb, 1, none⟩ = some (.int .i64 xi))) (by kernel_rfl) (show w2.drew.cell? ⟨xb, 0, none⟩ = some (.int .i64 xt) ∧ w2.drew.cell? ⟨xb, 1, none⟩ = some (.int .i64 xi) from ⟨p0, p1⟩) (fun hHeld => ?_)
      refine take_one (i := 0) (oi := ?oi_1) (v := ?v_1) ?hi_1 (by kernel_rfl) (by kernel_rfl) (by kernel_rfl) ?hq_1 ?hw_1 ?hy_1 (by assumption) ?rest_1
      case hi_1 => (simp only [List.getElem?_toArray, List.getElem?_cons_zero]; rfl)
      case hq_1 => exact fun _ _ _ h => h
      case hw_1 => rfl
      case hy_1 => (intro w' hSw; (have u1 := hSw.1; have u2 := hSw.2); go_simp; first | done | with_reducible rfl)
      try simp only [Act.put, List.setIfInBounds_toArray, List.set_cons_zero, List.set_cons_succ]
      refine take_one (i := 1) (oi := ?oi_2) (v := ?v_2) ?hi_2 (by kernel_rfl) (by kernel_rfl) (by kernel_rfl) ?hq_2 ?hw_2 ?hy_2 (by assumption) ?rest_2
      case hi_2 => (simp only [List.getElem?_toArray, List.getElem?_cons_succ, List.getElem?_cons_zero]; rfl)
      case hq_2 => exact fun _ _ _ h => h
      case hw_2 => rfl
      case hy_2 => (intro w' hSw; (have u1 := hSw.1; have u2 := hSw.2); go_simp; first | done | with_reducible rfl)
      try simp only [Act.put, List.setIfInBounds_toArray, List.set_cons_zero, List.set_cons_succ]
      refine take_one (i := 2) (oi := ?oi_3) (v := ?v_3) ?hi_3 (by kernel_rfl) (by kernel_rfl) (by kernel_rfl) ?hq_3 ?hw_3 ?hy_3 (by assumption) ?rest_3
      case hi_3 => (simp only [List.getElem?_toArray, List.getElem?_cons_succ, List.getElem?_cons_zero]; rfl)
      case hq_3 => exact fun _ _ _ h => h
      case hw_3 => rfl
      case hy_3 => (intro w' hSw; (have u1 := hSw.1; have u2 := hSw.2); go_simp; first | done | with_reducible rfl)
      try simp only [Act.put, List.setIfInBounds_toArray, List.set_cons_zero, List.set_cons_succ]
      refine take_one (i := 3) (oi := ?oi_4) (v := ?v_4) ?hi_4 (by kernel_rfl) (by kernel_rfl) (by kernel_rfl) ?hq_4 ?hw_4 ?hy_4 (by assumption) ?rest_4
      case hi_4 => (simp only [List.getElem?_toArray, List.getElem?_cons_succ, List.getElem?_cons_zero]; rfl)
      case hq_4 => exact fun _ _ _ h => h
      case hw_4 => rfl
      case hy_4 => (intro w' hSw; (have u1 := hSw.1; have u2 := hSw.2); go_simp; first | done | with_reducible rfl)
      try simp only [Act.put, List.setIfInBounds_toArray, List.set_cons_zero, List.set_cons_succ]
      refine take_one (i := 4) (oi := ?oi_5) (v := ?v_5) ?hi_5 (by kernel_rfl) (by kernel_rfl) (by kernel_rfl) ?hq_5 ?hw_5 ?hy_5 (by assumption) ?rest_5
      case hi_5 => (simp only [List.getElem?_toArray, List.getElem?_cons_succ, List.getElem?_cons_zero]; rfl)
      case hq_5 => exact fun _ _ _ h => h
      case hw_5 => rfl
      case hy_5 => (intro w' hSw; (have u1 := hSw.1; have u2 := hSw.2); go_simp; first | done | with_reducible rfl)
      try simp only [Act.put, List.setIfInBounds_toArray, List.set_cons_zero, List.set_cons_succ]
      refine take_one (i := 5) (oi := ?oi_6) (v := ?v_6) ?hi_6 (by kernel_rfl) (by kernel_rfl) (by kernel_rfl) ?hq_6 ?hw_6 ?hy_6 (by assumption) ?rest_6
      case hi_6 => (simp only [List.getElem?_toArray, List.getElem?_cons_succ, List.getElem?_cons_zero]; rfl)
      case hq_6 => exact fun _ _ _ h => h
      case hw_6 => rfl
      case hy_6 => (intro w' hSw; (have u1 := hSw.1; have u2 := hSw.2); go_simp; first | done | with_reducible rfl)
      try simp only [Act.put, List.setIfInBounds_toArray, List.set_cons_zero, List.set_cons_succ]
      refine take_one (i := 6) (oi := ?oi_7) (v := ?v_7) ?hi_7 (by kernel_rfl) (by kernel_rfl) (by kernel_rfl) ?hq_7 ?hw_7 ?hy_7 (by assumption) ?rest_7
      case hi_7 => (simp only [List.getElem?_toArray, List.getElem?_cons_succ, List.getElem?_cons_zero]; rfl)
      case hq_7 => exact fun _ _ _ h => h
      case hw_7 => rfl
      case hy_7 => (intro w' hSw; (have u1 := hSw.1; have u2 := hSw.2); go_simp; first | done | with_reducible rfl)
      try simp only [Act.put, List.setIfInBounds_toArray, List.set_cons_zero, List.set_cons_succ]
      refine take_one (i := 8) (oi := ?oi_8) (v := ?v_8) ?hi_8 (by kernel_rfl) (by kernel_rfl) (by kernel_rfl) ?hq_8 ?hw_8 ?hy_8 (by assumption) ?rest_8
      case hi_8 => (simp only [List.getElem?_toArray, List.getElem?_cons_succ, List.getElem?_cons_zero]; rfl)
      case hq_8 => exact fun _ _ _ h => h
      case hw_8 => rfl
      case hy_8 => (intro w' hSw; (have u1 := hSw.1; have u2 := hSw.2); go_simp; first | done | with_reducible rfl)
      try simp only [Act.put, List.setIfInBounds_toArray, List.set_cons_zero, List.set_cons_succ]
      refine take_one (i := 11) (oi := ?oi_9) (v := ?v_9) ?hi_9 (by kernel_rfl) (by kernel_rfl) (by kernel_rfl) ?hq_9 ?hw_9 ?hy_9 (by assumption) ?rest_9
      case hi_9 => (simp only [List.getElem?_toArray, List.getElem?_cons_succ, List.getElem?_cons_zero]; rfl)
      case hq_9 => exact fun _ _ _ h => h
      case hw_9 => rfl
      case hy_9 => (intro w' hSw; (have u1 := hSw.1; have u2 := hSw.2); go_simp; first | done | with_reducible rfl)
      try simp only [Act.put, List.setIfInBounds_toArray, List.set_cons_zero, List.set_cons_succ]
      refine take_one (i := 12) (oi := ?oi_10) (v := ?v_10) ?hi_10 (by kernel_rfl) (by kernel_rfl) (by kernel_rfl) ?hq_10 ?hw_10 ?hy_10 (by assumption) ?rest_10
      case hi_10 => (simp only [List.getElem?_toArray, List.getElem?_cons_succ, List.getElem?_cons_zero]; rfl)
      case hq_10 => exact fun _ _ _ h => h
      case hw_10 => rfl
      case hy_10 => (intro w' hSw; (have u1 := hSw.1; have u2 := hSw.2); go_simp; first | done | with_reducible rfl)
      try simp only [Act.put, List.setIfInBounds_toArray, List.set_cons_zero, List.set_cons_succ]
      generalize w2.drew = vx0 at *
      refine wpAnyH_ready (rs := [7, 9]) (by kernel_rfl) (by simp) ?_
      refine AllReadyH.cons (i := 7) (o := ?o_11_7) ?h_11_7 (fun K hK => ?_) (AllReadyH.cons (i := 9) (o := ?o_11_9) ?h_11_9 (fun K hK => ?_) AllReadyH.nil)
      case h_11_7 => (simp only [List.getElem?_toArray, List.getElem?_cons_succ, List.getElem?_cons_zero]; rfl)
      case h_11_9 => (simp only [List.getElem?_toArray, List.getElem?_cons_succ, List.getElem?_cons_zero]; rfl)
      · as_aux_lemma =>
          go_simp
          refine hK.out _ _ hHeld (fun hHeld => ?_)
          clear hK K
          try simp only [Act.put, List.setIfInBounds_toArray, List.set_cons_zero, List.set_cons_succ]
          refine wpAnyH_ready (rs := [9]) (by kernel_rfl) (by simp) ?_
          refine AllReadyH.cons (i := 9) (o := ?o_13_9) ?h_13_9 (fun K hK => ?_) AllReadyH.nil
          case h_13_9 => (simp only [List.getElem?_toArray, List.getElem?_cons_succ, List.getElem?_cons_zero]; rfl)
          have hR9 := it_reads (vx0) 31 2 [.int .i64 xt, .int .i64 xi] rfl
          have hIW := hIW.keep ((Below.refl _ (vx0)).alloc (Nat.le_refl _) (.cells #[.int .i64 xt, .int .i64 xi] 31))
          have c7 := hIW.cSlot hk64
          have hAW := hAW.alloc hAW.size (.cells #[.int .i64 xt, .int .i64 xi] 31)
          go_simp
          refine hK.out _ _ ⟨cell_alloc hHeld.1 _, cell_alloc hHeld.2 _⟩ (fun hHeld => ?_)
          clear hK K
          try simp only [Act.put, List.setIfInBounds_toArray, List.set_cons_zero, List.set_cons_succ]
          obtain ⟨gx, hgx⟩ : ∃ q, q = (vx0).heap.size := ⟨_, rfl⟩
          rw [← hgx] at hR9 ⊢
          clear hgx
          generalize (vx0).alloc (.cells #[.int .i64 xt, .int .i64 xi] 31) = vx14 at *
          refine wpAnyH_ready (rs := [10]) (by kernel_rfl) (by simp) ?_
          refine AllReadyH.cons (i := 10) (o := ?o_15_10) ?h_15_10 (fun K hK => ?_) AllReadyH.nil
          case h_15_10 => (simp only [List.getElem?_toArray, List.getElem?_cons_succ, List.getElem?_cons_zero]; rfl)
          refine step_append_any _ rfl (.tmp 32) (.tmp 34) _ rfl B 31 iI _ 2 16 Try.underlying22 hiI hzI hzI1 hzI2 rfl (by omega) (V k) (S k).length (itShape.flat (S k)) rfl (hIW.row k hk64) _ _ 1 1 [.int .i64 xt, .int .i64 xi] rfl hR9 (by intro u hu; simp at hu; rcases hu with rfl | rfl <;> rfl) (by unfold maxLen; omega) (by omega) (Nat.le_trans hB0 hAW.size) ?_
          intro v4 vx16 hown4 hg4 hat4
          obtain ⟨A4, cc4, rfl⟩ := own_sl hown4
          refine hK.out _ _ ⟨hg4.cell hHeld.1 hne, hg4.cell hHeld.2 hne⟩ (fun hHeld => ?_)
          clear hK K
          try simp only [Act.put, List.setIfInBounds_toArray, List.set_cons_zero, List.set_cons_succ]
          refine take_one (i := 13) (oi := ?oi_17) (v := ?v_17) ?hi_17 (by kernel_rfl) (by kernel_rfl) (by kernel_rfl) ?hq_17 ?hw_17 ?hy_17 (by assumption) ?rest_17
          case hi_17 => (simp only [List.getElem?_toArray, List.getElem?_cons_succ, List.getElem?_cons_zero]; rfl)
          case hq_17 => exact fun _ _ _ h => h
          case hw_17 => rfl
          case hy_17 => (intro w' hSw; (have u1 := hSw.1; have u2 := hSw.2); go_simp; first | done | with_reducible rfl)
          try simp only [Act.put, List.setIfInBounds_toArray, List.set_cons_zero, List.set_cons_succ]
          refine wpAnyH_ready (rs := [14]) (by kernel_rfl) (by simp) ?_
          refine AllReadyH.cons (i := 14) (o := ?o_18_14) ?h_18_14 (fun K hK => ?_) AllReadyH.nil
          case h_18_14 => (simp only [List.getElem?_toArray, List.getElem?_cons_succ, List.getElem?_cons_zero]; rfl)
          have hB4 := hIW.blk.grown hg4 (fun e => HW.out e.symm)
          have d0 := (hB4.cell k).trans (slot_at _ _ _ hk64)
          have e0 := hB4.free k
          have hxbb : ¬ b = xb := fun e => by have := HNB.out b (.inl rfl); have := HXB.out; omega
          have hx0 := (World.cell?_setCell_other (vx16) ⟨b, k, none⟩ ⟨xb, 0, none⟩ (.slice A4 ((S k).length + 1) cc4) (fun e => hxbb (congrArg Addr.block e))).trans hHeld.1
          have hx1 := (World.cell?_setCell_other (vx16) ⟨b, k, none⟩ ⟨xb, 1, none⟩ (.slice A4 ((S k).length + 1) cc4) (fun e => hxbb (congrArg Addr.block e))).trans hHeld.2
          go_simp
          refine hK.out _ _ ⟨hx0, hx1⟩ (fun hHeld => ?_)
          clear hK K d0 e0 hx0 hx1 hHeld hB4
          try simp only [Act.put, List.setIfInBounds_toArray, List.set_cons_zero, List.set_cons_succ]
          have hat' := fun g (hg : (Value.slice A4 ((S k).length + 1) cc4).ownBlock = some g) => own_at hat4 hg
          have hI5 := hIW.put (r := S k ++ [⟨xt, xi⟩]) hk64 hg4 (by rw [List.length_append, itShape.flat_snoc]; exact hown4) hat'
          have HIN := Lib.hid (fun g hg => (wIn_put (b := b) hk64 hat' (g := g) hg).imp id (Nat.le_trans hAW.size))
          have hM5 := ((Mod.of_below (S := wIn b V) hAW).trans (mod_grown hg4 (fun g hg => .inr ⟨k, hk64, hg⟩))).setCell (p := ⟨b, k, none⟩) (.inl (.inl rfl)) (.slice A4 ((S k).length + 1) cc4)
          clear hg4 hown4 hat4 hat' hIW hAW HW
          generalize (vx16).setCell ⟨b, k, none⟩ (.slice A4 ((S k).length + 1) cc4) = vx19 at *
          refine wpAnyH_done (by kernel_rfl) (NoPanic.normal ?_) _
          have c65 := hI5.cN
          have f65 := hI5.blk.free 65
          have wl1 : IntKind.i64.wrap ((l.length : Int) + 1) = (l.length : Int) + 1 := by rw [IntKind.wrap_i64]; omega
          have hI6 := hI5.setN ((l.length : Int) + 1)
          have hM6 := hM5.setCell (p := ⟨b, 65, none⟩) (.inl (.inl rfl)) (.int .i64 ((l.length : Int) + 1))
          have HFIN := Lib.hid (show WheelIs _ B b _ (putL l ⟨xt, xi⟩) now from ⟨⟨_, by rw [show (((putL l ⟨xt, xi⟩).length : Nat) : Int) = (l.length : Int) + 1 by rw [(putL_perm _ _).length_eq]; simp]; exact hI6, add_slots HOK.out.1 HC.out.1 HC.out.2 HK.out, add_perm HOK.out.2 _ hk64⟩, putL_ordered _ HORD.out.1, fun y hy => by
            rcases List.mem_cons.1 ((putL_perm _ _).subset hy) with rfl | hy
            · exact HX.out
            · exact HORD.out.2.1 y hy, HORD.out.2.2.1, HORD.out.2.2.2⟩)
          have HMM := Lib.hid hM6
          clear hI5 hI6 hM5 hM6
          go_wp2
          go_ret
          exact ⟨by rw [HE.out, if_pos HC.out]; rfl, _, by rw [HA.out, if_pos HC.out]; exact HFIN.out, HMM.out, HIN.out⟩
      · as_aux_lemma =>
          have hR9 := it_reads (vx0) 31 2 [.int .i64 xt, .int .i64 xi] rfl
          have hIW := hIW.keep ((Below.refl _ (vx0)).alloc (Nat.le_refl _) (.cells #[.int .i64 xt, .int .i64 xi] 31))
          have c7 := hIW.cSlot hk64
          have hAW := hAW.alloc hAW.size (.cells #[.int .i64 xt, .int .i64 xi] 31)
          go_simp
          refine hK.out _ _ ⟨cell_alloc hHeld.1 _, cell_alloc hHeld.2 _⟩ (fun hHeld => ?_)
          clear hK K
          try simp only [Act.put, List.setIfInBounds_toArray, List.set_cons_zero, List.set_cons_succ]
          obtain ⟨gx, hgx⟩ : ∃ q, q = (vx0).heap.size := ⟨_, rfl⟩
          rw [← hgx] at hR9 ⊢
          clear hgx
          generalize (vx0).alloc (.cells #[.int .i64 xt, .int .i64 xi] 31) = vx20 at *
          refine wpAnyH_ready (rs := [7]) (by kernel_rfl) (by simp) ?_
          refine AllReadyH.cons (i := 7) (o := ?o_21_7) ?h_21_7 (fun K hK => ?_) AllReadyH.nil
          case h_21_7 => (simp only [List.getElem?_toArray, List.getElem?_cons_succ, List.getElem?_cons_zero]; rfl)
          go_simp
          refine hK.out _ _ hHeld (fun hHeld => ?_)
          clear hK K
          try simp only [Act.put, List.setIfInBounds_toArray, List.set_cons_zero, List.set_cons_succ]
          refine wpAnyH_ready (rs := [10]) (by kernel_rfl) (by simp) ?_
          refine AllReadyH.cons (i := 10) (o := ?o_23_10) ?h_23_10 (fun K hK => ?_) AllReadyH.nil
          case h_23_10 => (simp only [List.getElem?_toArray, List.getElem?_cons_succ, List.getElem?_cons_zero]; rfl)
          refine step_append_any _ rfl (.tmp 32) (.tmp 34) _ rfl B 31 iI _ 2 16 Try.underlying22 hiI hzI hzI1 hzI2 rfl (by omega) (V k) (S k).length (itShape.flat (S k)) rfl (hIW.row k hk64) _ _ 1 1 [.int .i64 xt, .int .i64 xi] rfl hR9 (by intro u hu; simp at hu; rcases hu with rfl | rfl <;> rfl) (by unfold maxLen; omega) (by omega) (Nat.le_trans hB0 hAW.size) ?_
          intro v4 vx24 hown4 hg4 hat4
          obtain ⟨A4, cc4, rfl⟩ := own_sl hown4
          refine hK.out _ _ ⟨hg4.cell hHeld.1 hne, hg4.cell hHeld.2 hne⟩ (fun hHeld => ?_)
          clear hK K
          try simp only [Act.put, List.setIfInBounds_toArray, List.set_cons_zero, List.set_cons_succ]
          refine take_one (i := 13) (oi := ?oi_25) (v := ?v_25) ?hi_25 (by kernel_rfl) (by kernel_rfl) (by kernel_rfl) ?hq_25 ?hw_25 ?hy_25 (by assumption) ?rest_25
          case hi_25 => (simp only [List.getElem?_toArray, List.getElem?_cons_succ, List.getElem?_cons_zero]; rfl)
          case hq_25 => exact fun _ _ _ h => h
          case hw_25 => rfl
          case hy_25 => (intro w' hSw; (have u1 := hSw.1; have u2 := hSw.2); go_simp; first | done | with_reducible rfl)
          try simp only [Act.put, List.setIfInBounds_toArray, List.set_cons_zero, List.set_cons_succ]
          refine wpAnyH_ready (rs := [14]) (by kernel_rfl) (by simp) ?_
          refine AllReadyH.cons (i := 14) (o := ?o_26_14) ?h_26_14 (fun K hK => ?_) AllReadyH.nil
          case h_26_14 => (simp only [List.getElem?_toArray, List.getElem?_cons_succ, List.getElem?_cons_zero]; rfl)
          have hB4 := hIW.blk.grown hg4 (fun e => HW.out e.symm)
          have d0 := (hB4.cell k).trans (slot_at _ _ _ hk64)
          have e0 := hB4.free k
          have hxbb : ¬ b = xb := fun e => by have := HNB.out b (.inl rfl); have := HXB.out; omega
          have hx0 := (World.cell?_setCell_other (vx24) ⟨b, k, none⟩ ⟨xb, 0, none⟩ (.slice A4 ((S k).length + 1) cc4) (fun e => hxbb (congrArg Addr.block e))).trans hHeld.1
          have hx1 := (World.cell?_setCell_other (vx24) ⟨b, k, none⟩ ⟨xb, 1, none⟩ (.slice A4 ((S k).length + 1) cc4) (fun e => hxbb (congrArg Addr.block e))).trans hHeld.2
          go_simp
          refine hK.out _ _ ⟨hx0, hx1⟩ (fun hHeld => ?_)
          clear hK K d0 e0 hx0 hx1 hHeld hB4
          try simp only [Act.put, List.setIfInBounds_toArray, List.set_cons_zero, List.set_cons_succ]
          have hat' := fun g (hg : (Value.slice A4 ((S k).length + 1) cc4).ownBlock = some g) => own_at hat4 hg
          have hI5 := hIW.put (r := S k ++ [⟨xt, xi⟩]) hk64 hg4 (by rw [List.length_append, itShape.flat_snoc]; exact hown4) hat'
          have HIN := Lib.hid (fun g hg => (wIn_put (b := b) hk64 hat' (g := g) hg).imp id (Nat.le_trans hAW.size))
          have hM5 := ((Mod.of_below (S := wIn b V) hAW).trans (mod_grown hg4 (fun g hg => .inr ⟨k, hk64, hg⟩))).setCell (p := ⟨b, k, none⟩) (.inl (.inl rfl)) (.slice A4 ((S k).length + 1) cc4)
          clear hg4 hown4 hat4 hat' hIW hAW HW
          generalize (vx24).setCell ⟨b, k, none⟩ (.slice A4 ((S k).length + 1) cc4) = vx27 at *
          refine wpAnyH_done (by kernel_rfl) (NoPanic.normal ?_) _
          have c65 := hI5.cN
          have f65 := hI5.blk.free 65
          have wl1 : IntKind.i64.wrap ((l.length : Int) + 1) = (l.length : Int) + 1 := by rw [IntKind.wrap_i64]; omega
          have hI6 := hI5.setN ((l.length : Int) + 1)
          have hM6 := hM5.setCell (p := ⟨b, 65, none⟩) (.inl (.inl rfl)) (.int .i64 ((l.length : Int) + 1))
          have HFIN := Lib.hid (show WheelIs _ B b _ (putL l ⟨xt, xi⟩) now from ⟨⟨_, by rw [show (((putL l ⟨xt, xi⟩).length : Nat) : Int) = (l.length : Int) + 1 by rw [(putL_perm _ _).length_eq]; simp]; exact hI6, add_slots HOK.out.1 HC.out.1 HC.out.2 HK.out, add_perm HOK.out.2 _ hk64⟩, putL_ordered _ HORD.out.1, fun y hy => by
            rcases List.mem_cons.1 ((putL_perm _ _).subset hy) with rfl | hy
            · exact HX.out
            · exact HORD.out.2.1 y hy, HORD.out.2.2.1, HORD.out.2.2.2⟩)
          have HMM := Lib.hid hM6
          clear hI5 hI6 hM5 hM6
          go_wp2
          go_ret
          exact ⟨by rw [HE.out, if_pos HC.out]; rfl, _, by rw [HA.out, if_pos HC.out]; exact HFIN.out, HMM.out, HIN.out⟩
    · have g1 : ¬ xt ≤ now := by omega
      have g2 : 1099511627776 < xt := by omega
      refine wp_region_quiet_under (by kernel_rfl) (by kernel_rfl) ?_
      repeat (go_big_quiet_step ((fail)))
      refine wpQuiet_nil ?_
      intro w2 hw'
      obtain ⟨pq, hw''⟩ := hw'
      have hU := below_eq hw''
      clear hw'' pq
      have HF := Lib.hid (show ¬ (now < xt ∧ xt ≤ 1099511627776) from fun h => c2 h.2)
      have h2 := h1.keep hU
      have hA2 := below_step hA hU
      clear U0 U1 U2 P h1 hU hA
      go_wp2
      go_ret
      exact ⟨by rw [HE.out, if_neg HF.out]; rfl, V, by rw [HA.out, if_neg HF.out]; exact h2, Mod.of_below hA2, fun g hg => .inl hg⟩
  · have g1 : xt ≤ now := by omega
    refine wp_region_quiet_under (by kernel_rfl) (by kernel_rfl) ?_
    repeat (go_big_quiet_step ((fail)))
    refine wpQuiet_nil ?_
    intro w2 hw'
    obtain ⟨pq, hw''⟩ := hw'
    have hU := below_eq hw''
    clear hw'' pq
    have HF := Lib.hid (show ¬ (now < xt ∧ xt ≤ 1099511627776) from fun h => c1 h.1)
    have h2 := h1.keep hU
    have hA2 := below_step hA hU
    clear U0 U1 U2 P h1 hU hA
    go_wp2
    go_ret
    exact ⟨by rw [HE.out, if_neg HF.out]; rfl, V, by rw [HA.out, if_neg HF.out]; exact h2, Mod.of_below hA2, fun g hg => .inl hg⟩
end Go.Proofs.Ytcpfekhpbjkgeaa
end
