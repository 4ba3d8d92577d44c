/- Lemmas for the claim's proof: TreeO1 DiffA. -/
import Derived.Test.YtblbgafadadbmaaQ22
section
/- Three rows that grow side by side, and a node that is turned; nodes compared. -/
set_option linter.unusedVariables false
namespace Go.Proofs.Ytblbgafadadbmaa
open Go.RowKit
set_option maxHeartbeats 4000000
set_option maxRecDepth 100000
def apart (a b : Value) : Prop := ∀ g, a.ownBlock = some g → b.ownBlock ≠ some g
theorem apart.symm {a b : Value} (h : apart a b) : apart b a := fun g hb ha => h g ha hb
theorem apart.kept {a b : Value} (h : apart a b) : a.ownBlock = none ∨ a.ownBlock ≠ b.ownBlock := by
  cases ha : a.ownBlock with
  | none => exact .inl rfl
  | some g => exact .inr (fun e => h g ha e.symm)
theorem apart_nil (v : Value) : apart (.slice none 0 0) v := fun g h => by simp [Value.ownBlock] at h
structure R3 (w : World) (B : Nat) (a b c : Value) (la lb lc : List Int) : Prop where
  ra : w.ownsRow B 3 1 a la.length (ints la)
  rb : w.ownsRow B 3 1 b lb.length (ints lb)
  rc : w.ownsRow B 3 1 c lc.length (ints lc)
  ab : apart a b
  ac : apart a c
  bc : apart b c
section
variable {w w' : World} {B : Nat} {a b c a' : Value} {la lb lc : List Int}
theorem R3.rot (h : R3 w B a b c la lb lc) : R3 w B b c a lb lc la := ⟨h.rb, h.rc, h.ra, h.bc, h.ab.symm, h.ac.symm⟩
theorem R3.rot' (h : R3 w B a b c la lb lc) : R3 w B c a b lc la lb := h.rot.rot
theorem R3.alloc (h : R3 w B a b c la lb lc) (o : Obj) : R3 (w.alloc o) B a b c la lb lc := ⟨h.ra.alloc o, h.rb.alloc o, h.rc.alloc o, h.ab, h.ac, h.bc⟩
theorem apart_new {v : Value} {base : Nat} {e : TypeId} {s n : Nat} {xs : List Value} (hv : w.ownsRow base e s v n xs) (h : apart a v) (hat : a'.ownBlock = a.ownBlock ∨ a'.ownBlock = some w.heap.size) : apart a' v := fun g hg hv' => by
  rcases hat with e | e
  · exact h g (e ▸ hg) hv'
  · rw [e] at hg
    injection hg with hg
    have := (hv.lt g hv').2
    omega
theorem R3.push (h : R3 w B a b c la lb lc) (z : Int) (hg : w.grownBy w' a.ownBlock) (hown : w'.ownsRow B 3 1 a' (la.length + 1) (ints la ++ [.int .i64 z])) (hat : a'.ownBlock = a.ownBlock ∨ a'.ownBlock = some w.heap.size) : R3 w' B a' b c (la ++ [z]) lb lc where
  ra := by simpa [ints] using hown
  rb := h.rb.kept hg h.ab.symm.kept
  rc := h.rc.kept hg h.ac.symm.kept
  ab := apart_new h.rb h.ab hat
  ac := apart_new h.rc h.ac hat
  bc := h.bc
theorem R3.setBelow (h : R3 w B a b c la lb lc) {g : Nat} (hg : g < B) (j : Nat) (u : Value) : R3 (w.setCell ⟨g, j, none⟩ u) B a b c la lb lc :=
  ⟨ownsRow_setCell_below h.ra (a := ⟨g, j, none⟩) hg u, ownsRow_setCell_below h.rb (a := ⟨g, j, none⟩) hg u, ownsRow_setCell_below h.rc (a := ⟨g, j, none⟩) hg u, h.ab, h.ac, h.bc⟩
end
def turns (w2 : World) (g : Nat) (i : Nat) : Prop := i = g ∨ w2.heap.size ≤ i
/-- The state of a loop that gathers three rows, and a node at g. -/
structure LS (w2 : World) (g : Nat) (w : World) (a b c : Value) (la lb lc : List Int) (z : Nd) : Prop where
  r3 : R3 w w2.heap.size a b c la lb lc
  blk : Blk w g 64 #[.string z.name, .int .i64 z.kind, .int .i64 z.above, .int .i64 z.weight, .bool z.six, .int .u64 z.hi, .int .u64 z.lo]
  hm : Mod (turns w2 g) w2 w
  hg : g < w2.heap.size
section
variable {w2 : World} {g : Nat} {w w' : World} {a b c a' : Value} {la lb lc : List Int} {z : Nd}
theorem LS.alloc (h : LS w2 g w a b c la lb lc z) (o : Obj) : LS w2 g (w.alloc o) a b c la lb lc z := ⟨h.r3.alloc o, h.blk.alloc o, h.hm.alloc o, h.hg⟩
theorem LS.drewN (h : LS w2 g w a b c la lb lc z) (m : Nat) : LS w2 g (w.drewN m) a b c la lb lc z := ⟨⟨h.r3.ra, h.r3.rb, h.r3.rc, h.r3.ab, h.r3.ac, h.r3.bc⟩, h.blk.drewN m, ⟨h.hm.os, h.hm.tape, h.hm.output, h.hm.size, h.hm.block⟩, h.hg⟩
theorem LS.rot (h : LS w2 g w a b c la lb lc z) : LS w2 g w b c a lb lc la z := ⟨h.r3.rot, h.blk, h.hm, h.hg⟩
theorem LS.size (h : LS w2 g w a b c la lb lc z) : w2.heap.size ≤ w.heap.size := h.hm.size
theorem LS.push (h : LS w2 g w a b c la lb lc z) (k : Int) (hg : w.grownBy w' a.ownBlock) (hown : w'.ownsRow w2.heap.size 3 1 a' (la.length + 1) (ints la ++ [.int .i64 k])) (hat : a'.ownBlock = a.ownBlock ∨ a'.ownBlock = some w.heap.size) : LS w2 g w' a' b c (la ++ [k]) lb lc z where
  r3 := h.r3.push k hg hown hat
  blk := h.blk.grown hg (blk_type h.blk h.r3.ra (by decide))
  hm := h.hm.trans ⟨hg.os, hg.tape, hg.output, hg.size, fun i hi hn => hg.block i hi (fun e => hn (.inr (own_from h.r3.ra i e.symm)))⟩
  hg := h.hg
theorem LS.turn (h : LS w2 g w a b c la lb lc z) (x : Nd) : LS w2 g (((((((w.setCell ⟨g, 0, none⟩ (.string x.name)).setCell ⟨g, 1, none⟩ (.int .i64 x.kind)).setCell ⟨g, 2, none⟩ (.int .i64 x.above)).setCell ⟨g, 3, none⟩ (.int .i64 x.weight)).setCell ⟨g, 4, none⟩ (.bool x.six)).setCell ⟨g, 5, none⟩ (.int .u64 x.hi)).setCell ⟨g, 6, none⟩ (.int .u64 x.lo)) a b c la lb lc x where
  r3 := ((((((h.r3.setBelow h.hg 0 _).setBelow h.hg 1 _).setBelow h.hg 2 _).setBelow h.hg 3 _).setBelow h.hg 4 _).setBelow h.hg 5 _).setBelow h.hg 6 _
  blk := h.blk.turn7 _ _ _ _ _ _ _
  hm := ((((((h.hm.setCell (p := ⟨g, 0, none⟩) (.inl (.inl rfl)) _).setCell (p := ⟨g, 1, none⟩) (.inl (.inl rfl)) _).setCell (p := ⟨g, 2, none⟩) (.inl (.inl rfl)) _).setCell (p := ⟨g, 3, none⟩) (.inl (.inl rfl)) _).setCell (p := ⟨g, 4, none⟩) (.inl (.inl rfl)) _).setCell (p := ⟨g, 5, none⟩) (.inl (.inl rfl)) _).setCell (p := ⟨g, 6, none⟩) (.inl (.inl rfl)) _
  hg := h.hg
end
theorem IsNodes.mod {w w' : World} {S : Nat → Prop} {A : Option Addr} {n c : Nat} {l : List Nd} (h : IsNodes w A n c l) (hx : Mod S w w') (hn : 0 < n → ∀ ad, A = some ad → ¬ S ad.block) : IsNodes w' A n c l :=
  ⟨⟨h.reads.1, fun hnn => by
    obtain ⟨ad, e, hb, hc⟩ := h.reads.2 hnn
    have hs := hn hnn ad e
    exact ⟨ad, e, Nat.lt_of_lt_of_le hb hx.size, fun j u hu => (hx.cell (by rw [block_of_add]; exact hb) (by rw [block_of_add]; exact hs)).trans (hc j u hu)⟩⟩, h.len, h.cap, h.small, h.reach, h.wf⟩
/-- Are two nodes the same? -/
def sameNd (x y : Nd) : Bool := sameName x.name y.name && x.kind == y.kind && x.above == y.above && x.weight == y.weight && sameAddr x y
theorem eq_nd (x y : Nd) (w : World) : (Op.equalIn 10000 64 x.val y.val).run Try.prog w = .ok (sameNd x y) w := by
  obtain ⟨xn, xk, xa, xw, x6, xh, xl⟩ := x
  obtain ⟨yn, yk, ya, yw, y6, yh, yl⟩ := y
  unfold Nd.val sameNd sameName sameAddr
  dsimp only
  go_simp
  (repeat' split) <;> simp_all
theorem eqG_nd (op : BinOp) (a b : Operand) (x y : Nd) (w : World) : (eqGuard op 64 a b x.val y.val).run Try.prog w = .ok () w := by
  unfold Nd.val
  go_simp
theorem run_eq_nd (x y : Nd) (w : World) : (binOp .eql 64 x.val y.val).run Try.prog w = .ok (.bool (sameNd x y)) w := by
  have h := eq_nd x y w
  unfold Nd.val at h ⊢
  rw [run_eql_struct, h]; rfl
theorem run_neq_nd (x y : Nd) (w : World) : (binOp .neq 64 x.val y.val).run Try.prog w = .ok (.bool (!sameNd x y)) w := by
  have h := eq_nd x y w
  unfold Nd.val at h ⊢
  rw [run_neq_struct, h]; rfl
theorem quiet_eq_nd {A : Act} {o : Oper} {x y : Operand} {t : TypeId} {a b : Nd} {E : Bool} {C : World → Prop} {K : Act → Prop} (hE : sameNd a b = E) (ho : o.op = .binOp .eql 64 x y t) (hx : A.eval x = .agg #[.string a.name, .int .i64 a.kind, .int .i64 a.above, .int .i64 a.weight, .bool a.six, .int .u64 a.hi, .int .u64 a.lo]) (hy : A.eval y = .agg #[.string b.name, .int .i64 b.kind, .int .i64 b.above, .int .i64 b.weight, .bool b.six, .int .u64 b.hi, .int .u64 b.lo])
    (h : K (A.put o.dst (.bool E))) : o.quiet Try.prog A C K :=
  ⟨.bool E, fun w _ => by
    unfold Oper.quietAt execOp
    have h1 := eqG_nd .eql x y a b w
    have h2 := run_eq_nd a b w
    unfold Nd.val at h1 h2
    simp only [ho, hx, hy, Sem.run_bind, h1, h2, Result.andThen_ok, Sem.run_pure, hE]
    exact ⟨rfl, rfl⟩, h⟩
theorem quiet_neq_nd {A : Act} {o : Oper} {x y : Operand} {t : TypeId} {a b : Nd} {E : Bool} {C : World → Prop} {K : Act → Prop} (hE : (!sameNd a b) = E) (ho : o.op = .binOp .neq 64 x y t) (hx : A.eval x = .agg #[.string a.name, .int .i64 a.kind, .int .i64 a.above, .int .i64 a.weight, .bool a.six, .int .u64 a.hi, .int .u64 a.lo]) (hy : A.eval y = .agg #[.string b.name, .int .i64 b.kind, .int .i64 b.above, .int .i64 b.weight, .bool b.six, .int .u64 b.hi, .int .u64 b.lo])
    (h : K (A.put o.dst (.bool E))) : o.quiet Try.prog A C K :=
  ⟨.bool E, fun w _ => by
    unfold Oper.quietAt execOp
    have h1 := eqG_nd .neq x y a b w
    have h2 := run_neq_nd a b w
    unfold Nd.val at h1 h2
    simp only [ho, hx, hy, Sem.run_bind, h1, h2, Result.andThen_ok, Sem.run_pure, hE]
    exact ⟨rfl, rfl⟩, h⟩
theorem sameNd_self (x : Nd) : sameNd x x = true := by
  unfold sameNd sameName sameAddr
  simp
end Go.Proofs.Ytblbgafadadbmaa
end
section
/- What is otherwise between nodes: in plain Lean; find and above. -/
set_option linter.unusedVariables false
namespace Go.Proofs.Ytblbgafadadbmaa
open Go.RowKit
set_option maxHeartbeats 4000000
set_option maxRecDepth 100000
/-- The place of a name; -1: there is none. -/
def findN (l : List Nd) (s : ByteArray) : Int := idxF (fun x => sameName x.name s) l
/-- The name above a node. -/
def aboveN (l : List Nd) (x : Nd) : ByteArray := (ndAt l x.above).name
theorem findN_lt (l : List Nd) (s : ByteArray) : findN l s < l.length ∧ -1 ≤ findN l s := by
  unfold findN idxF
  cases h : l.findIdx? (fun x => sameName x.name s) with
  | none => dsimp only; omega
  | some k =>
    rw [List.findIdx?_eq_some_iff_getElem] at h
    obtain ⟨hk, _⟩ := h
    dsimp only; omega
/-- What has become of a node: (4) its place, (5) its address, (3) its weight. -/
def parts (nm : ByteArray) (c4 c5 c3 : Bool) (j : Nat) : List (ByteArray × Int) :=
  (if 0 < j ∧ c4 = true then [(nm, 4)] else []) ++ ((if 1 < j ∧ c5 = true then [(nm, 5)] else []) ++ (if 2 < j ∧ c3 = true then [(nm, 3)] else []))
def placeN (was now : List Nd) (x n : Nd) : Bool := x.kind != n.kind || !sameName (aboveN was x) (aboveN now n)
def moreOf (was now : List Nd) (n : Nd) : List (ByteArray × Int) :=
  if findN was n.name < 0 then [(n.name, 2)] else parts n.name (placeN was now (ndAt was (findN was n.name)) n) (!sameAddr (ndAt was (findN was n.name)) n) ((ndAt was (findN was n.name)).weight != n.weight) 3
def goneOf (now : List Nd) (x : Nd) : List (ByteArray × Int) := if findN now x.name < 0 then [(x.name, 1)] else []
def goneTo (was now : List Nd) (k : Nat) : List (ByteArray × Int) := (was.take k).flatMap (goneOf now)
def moreTo (was now : List Nd) (k : Nat) : List (ByteArray × Int) := (now.take k).flatMap (moreOf was now)
def chC (l : List (ByteArray × Int)) : List Value := l.flatMap fun x => [.string x.1, .int .i64 x.2]
theorem chC_append (a b : List (ByteArray × Int)) : chC (a ++ b) = chC a ++ chC b := by unfold chC; rw [List.flatMap_append]
theorem chC_len : ∀ l : List (ByteArray × Int), (chC l).length = l.length * 2
  | [] => rfl
  | x :: l => by
    have := chC_len l
    unfold chC at this ⊢
    rw [List.flatMap_cons, List.length_append, this, List.length_cons]
    simp; omega
theorem chC_at : ∀ (l : List (ByteArray × Int)) (i : Nat), i < l.length → (chC l)[i * 2]? = some (.string (l.getD i (ByteArray.empty, 0)).1) ∧ (chC l)[i * 2 + 1]? = some (.int .i64 (l.getD i (ByteArray.empty, 0)).2)
  | [], i, h => absurd h (by simp)
  | x :: l, 0, _ => ⟨rfl, rfl⟩
  | x :: l, i + 1, h => by
    have ih := chC_at l i (by simpa using h)
    unfold chC at ih ⊢
    rw [List.flatMap_cons, show (i + 1) * 2 = i * 2 + 1 + 1 by omega]
    simpa using ih
theorem flatTo_step {α : Type} (f : Nd → List α) (l : List Nd) (k : Nat) (hk : k < l.length) : (l.take (k + 1)).flatMap f = (l.take k).flatMap f ++ f (l.getD k nd0) := by
  rw [List.take_succ_eq_append_getElem hk, List.flatMap_append, List.getD_eq_getElem?_getD, List.getElem?_eq_getElem hk]
  simp
theorem flatTo_le {α : Type} (f : Nd → List α) (m : Nat) (hf : ∀ x, (f x).length ≤ m) : ∀ (l : List Nd) (k : Nat), ((l.take k).flatMap f).length ≤ k * m
  | l, 0 => by simp
  | [], k + 1 => by simp
  | x :: l, k + 1 => by
    rw [List.take_succ_cons, List.flatMap_cons, List.length_append]
    have := flatTo_le f m hf l k
    have := hf x
    rw [Nat.add_mul]; omega
theorem parts_le (nm : ByteArray) (a b c : Bool) (j : Nat) : (parts nm a b c j).length ≤ 3 := by
  unfold parts
  rw [List.length_append, List.length_append]
  split <;> split <;> split <;> simp
theorem moreOf_le (was now : List Nd) (n : Nd) : (moreOf was now n).length ≤ 3 := by
  unfold moreOf; split
  · simp
  · exact parts_le _ _ _ _ _
theorem goneOf_le (now : List Nd) (n : Nd) : (goneOf now n).length ≤ 1 := by
  unfold goneOf; split <;> simp
theorem goneTo_step (was now : List Nd) (k : Nat) (hk : k < was.length) : goneTo was now (k + 1) = goneTo was now k ++ goneOf now (was.getD k nd0) := flatTo_step _ _ _ hk
theorem moreTo_step (was now : List Nd) (k : Nat) (hk : k < now.length) : moreTo was now (k + 1) = moreTo was now k ++ moreOf was now (now.getD k nd0) := flatTo_step _ _ _ hk
theorem goneTo_le (was now : List Nd) (k : Nat) : (goneTo was now k).length ≤ k := by have := flatTo_le (goneOf now) 1 (goneOf_le now) was k; rw [Nat.mul_one] at this; exact this
theorem moreTo_le (was now : List Nd) (k : Nat) : (moreTo was now k).length ≤ k * 3 := flatTo_le _ 3 (moreOf_le was now) now k
theorem results_cell_row2 {P : Program} {fn : Func} {p q : Tmp} {ty : TypeId} (h : fn.results = #[.cell p ty, .tmp q]) (tmps : Array Value) (w : World) (g : Nat) (t : TypeId) (cs : Array Value) (fr : Nat × Nat) (d : TypeDesc)
    (hp : tmps.getD p undef = .pointer (some ⟨g, 0, none⟩)) (hg : w.heap[g]? = some (.cells cs t fr))
    (hu : P.underlying ty = some d) (hd : (match d with | .struct _ | .array _ _ => true | _ => false) = true) (hi : (P.info? ty).map (·.size) = some cs.size) :
    (results fn tmps).run P w = .ok (.tuple #[.agg cs, tmps.getD q undef]) w := by
  have hp' : tmps[p]?.getD undef = .pointer (some ⟨g, 0, none⟩) := by simpa using hp
  simp [results, h, hp', asAddr, run_loadVar_row w g t ty cs fr d hg hu hd hi]
theorem asks_dfind (g : Nat) (s : ByteArray) (w : World) (hg : w.cell? ⟨g, 0, none⟩ = some (.string s)) : Asks 93 #[.pointer (some ⟨g, 0, none⟩)] (fun x => sameName x.name s) w := by
  refine ⟨Go.Proofs.enters_of Try.func93 (by kernel_rfl) rfl, fun W x hx hb => ?_⟩
  have hc : W.cell? ⟨g, 0, none⟩ = some (.string s) := cell_keep hg hb
  have hc2 := cell_alloc hc (.cells #[.string x.name, .int .i64 x.kind, .int .i64 x.above, .int .i64 x.weight, .bool x.six, .int .u64 x.hi, .int .u64 x.lo] 64)
  have hP := Blk.new W 64 #[.string x.name, .int .i64 x.kind, .int .i64 x.above, .int .i64 x.weight, .bool x.six, .int .u64 x.hi, .int .u64 x.lo]
  obtain ⟨p0, p1, p2, p3, p4, p5, p6, _⟩ := hP.cells7
  have hW : Below W.heap.size W (W.alloc (.cells #[.string x.name, .int .i64 x.kind, .int .i64 x.above, .int .i64 x.weight, .bool x.six, .int .u64 x.hi, .int .u64 x.lo] 64)) := (Below.refl _ _).alloc (Nat.le_refl _) _
  show Calls Try.prog 93 #[.agg #[.string x.name, .int .i64 x.kind, .int .i64 x.above, .int .i64 x.weight, .bool x.six, .int .u64 x.hi, .int .u64 x.lo], .pointer (some ⟨g, 0, none⟩)] W _
  go_enter Try.func93, Try.ntmps93
  go_upto_region 1 with (fail)
  generalize W.alloc (.cells #[.string x.name, .int .i64 x.kind, .int .i64 x.above, .int .i64 x.weight, .bool x.six, .int .u64 x.hi, .int .u64 x.lo] 64) = u at *
  go_wp2_with fail
  go_ret
  exact ⟨rfl, hW⟩
theorem diff_find (A : Option Addr) (n c : Nat) (l : List Nd) (s : ByteArray) (w : World) (h : IsNodes w A n c l) :
    Calls Try.prog 85 #[.slice A n c, .string s] w fun e w' => e = .returned (.tuple #[(ndAt l (findN l s)).val, .bool (decide (0 ≤ findN l s))]) ∧ Below w.heap.size w w' := by
  have hA : Below w.heap.size w (w.alloc (.cells #[.string s] 9)) := (Below.refl _ _).alloc (Nat.le_refl _) _
  have hA2 : Below w.heap.size w ((w.alloc (.cells #[.string s] 9)).alloc (.cells #[.string ⟨#[]⟩, .int .i64 0, .int .i64 0, .int .i64 0, .bool false, .int .u64 0, .int .u64 0] 64)) := hA.alloc hA.size _
  have hP := (Blk.new w 9 #[.string s]).alloc (.cells #[.string ⟨#[]⟩, .int .i64 0, .int .i64 0, .int .i64 0, .bool false, .int .u64 0, .int .u64 0] 64)
  have hZ := Blk.new (w.alloc (.cells #[.string s] 9)) 64 #[.string ⟨#[]⟩, .int .i64 0, .int .i64 0, .int .i64 0, .bool false, .int .u64 0, .int .u64 0]
  have hsz : (w.alloc (.cells #[.string s] 9)).heap.size = w.heap.size + 1 := by simp
  rw [hsz] at hZ
  have h1 := h.keep hA2
  obtain ⟨F, hF⟩ : ∃ F, F = findN l s := ⟨_, rfl⟩
  have hlt := findN_lt l s
  rw [← hF] at hlt ⊢
  have hcap := h.cap
  have hsm := h.small
  have hlen := h.len
  rw [hlen] at hlt
  clear h hsz hlen
  go_enter Try.func85, Try.ntmps85
  go_upto_region 1 with (fail)
  generalize ((w.alloc (.cells #[.string s] 9)).alloc (.cells #[.string ⟨#[]⟩, .int .i64 0, .int .i64 0, .int .i64 0, .bool false, .int .u64 0, .int .u64 0] 64)) = u at *
  have hI := indexFunc_nodes _ _ _ A n c l _ h1 (asks_dfind _ s _ hP.cells1.1)
  rw [show idxF (fun x => sameName x.name s) l = F from hF.symm] at hI
  clear hF
  go_wp2_with fail
  refine hI.mono ?_; rintro e w' ⟨rfl, hx⟩
  have hZ1 := hZ.keep hx
  have h2 := h1.keep hx
  have hW := below_step hA2 hx
  obtain ⟨f0, f1, f2, f3, f4, f5, f6⟩ := hZ1.free7
  obtain ⟨q0, q1, q2, q3, q4, q5, q6, _⟩ := hZ1.cells7
  clear hI hZ h1 hP hx hA hA2
  by_cases h0 : F < 0
  · have g1 : decide (F < 0) = true := decide_eq_true h0
    have HE := Lib.hid (And.intro (show (ndAt l F) = nd0 from ndAt_out l F (.inl h0)) (show decide (0 ≤ F) = false from decide_eq_false (by omega)))
    go_wp2
    have hQ := hZ1.turn7 (.string ⟨#[]⟩) (.int .i64 0) (.int .i64 0) (.int .i64 0) (.bool false) (.int .u64 0) (.int .u64 0)
    refine bodyPost_ret (v := .tuple #[nd0.val, .bool false]) ?_ rfl ⟨by rw [HE.out.1, HE.out.2], below_turn7 hW (by omega) _ _ _ _ _ _ _⟩
    exact results_cell_row2 (p := 4) (q := 5) rfl _ _ _ _ _ (0, 0) _ rfl hQ Try.underlying64 rfl sizeNode
  · have g1 : decide (F < 0) = false := decide_eq_false h0
    obtain ⟨k, rfl⟩ : ∃ k : Nat, F = k := ⟨F.toNat, by omega⟩
    have hkn : k < n := by omega
    obtain ⟨ad, rfl, hbk, d0, d1, d2, d3, d4, d5, d6⟩ := h2.at_ hkn
    have HE := Lib.hid (And.intro (show (ndAt l k) = l.getD k nd0 from ndAt_nat l k) (show decide (0 ≤ (k : Int)) = true from decide_eq_true (by omega)))
    obtain ⟨x, hx⟩ : ∃ x, x = l.getD k nd0 := ⟨_, rfl⟩
    rw [← hx] at d0 d1 d2 d3 d4 d5 d6 HE
    clear hx
    have hki : (k : Int) < (n : Int) := by omega
    have hk0 : (0 : Int) ≤ (k : Int) := by omega
    go_wp2
    have hQ := hZ1.turn7 (.string x.name) (.int .i64 x.kind) (.int .i64 x.above) (.int .i64 x.weight) (.bool x.six) (.int .u64 x.hi) (.int .u64 x.lo)
    refine bodyPost_ret (v := .tuple #[x.val, .bool true]) ?_ rfl ⟨by rw [HE.out.1, HE.out.2], below_turn7 hW (by omega) _ _ _ _ _ _ _⟩
    exact results_cell_row2 (p := 4) (q := 5) rfl _ _ _ _ _ (0, 0) _ rfl hQ Try.underlying64 rfl sizeNode
def aboveP (f : FuncId) : Prop := ∀ (A : Option Addr) (n c : Nat) (l : List Nd) (x : Nd) (w : World), IsNodes w A n c l → Calls Try.prog f #[.slice A n c, x.val] w fun e w' => e = .returned (.string (aboveN l x)) ∧ Below w.heap.size w w'
theorem diff_above : aboveP 86 := by
  intro A n c l x w h
  have hA : Below w.heap.size w (w.alloc (.cells #[.string x.name, .int .i64 x.kind, .int .i64 x.above, .int .i64 x.weight, .bool x.six, .int .u64 x.hi, .int .u64 x.lo] 64)) := (Below.refl _ _).alloc (Nat.le_refl _) _
  have hP := Blk.new w 64 #[.string x.name, .int .i64 x.kind, .int .i64 x.above, .int .i64 x.weight, .bool x.six, .int .u64 x.hi, .int .u64 x.lo]
  obtain ⟨p0, p1, p2, p3, p4, p5, p6, _⟩ := hP.cells7
  have h1 := h.keep hA
  have hcap := h.cap
  have hsm := h.small
  have hlen := h.len
  have hab := Lib.hid (show aboveN l x = (ndAt l x.above).name from rfl)
  generalize aboveN l x = R at *
  unfold Nd.val
  go_enter Try.func86, Try.ntmps86
  go_upto_region 1 with (fail)
  generalize w.alloc (.cells #[.string x.name, .int .i64 x.kind, .int .i64 x.above, .int .i64 x.weight, .bool x.six, .int .u64 x.hi, .int .u64 x.lo] 64) = u at *
  obtain ⟨z, hz⟩ : ∃ z, z = x.above := ⟨_, rfl⟩
  rw [← hz] at p2 hab
  clear hz hP h
  by_cases h0 : z < 0
  · have g1 : decide (z < 0) = true := decide_eq_true h0
    have HE := Lib.hid (show R = ByteArray.empty by rw [hab.out, ndAt_out l z (.inl h0)]; rfl)
    go_wp2
    go_ret
    exact ⟨by rw [HE.out]; rfl, hA⟩
  · have g1 : decide (z < 0) = false := decide_eq_false h0
    by_cases h2 : z < n
    · have g2 : decide ((n : Int) ≤ z) = false := decide_eq_false (by omega)
      obtain ⟨k, rfl⟩ : ∃ k : Nat, z = k := ⟨z.toNat, by omega⟩
      obtain ⟨ad, rfl, hbk, d0, d1, d2, d3, d4, d5, d6⟩ := h1.at_ (k := k) (by omega)
      rw [ndAt_nat] at hab
      generalize l.getD k nd0 = y at *
      go_wp2
      go_ret
      exact ⟨by rw [hab.out]; rfl, hA⟩
    · have g2 : decide ((n : Int) ≤ z) = true := decide_eq_true (by omega)
      have HE := Lib.hid (show R = ByteArray.empty by rw [hab.out, ndAt_out l z (.inr (by omega))]; rfl)
      go_wp2
      go_ret
      exact ⟨by rw [HE.out]; rfl, hA⟩
end Go.Proofs.Ytblbgafadadbmaa
end
