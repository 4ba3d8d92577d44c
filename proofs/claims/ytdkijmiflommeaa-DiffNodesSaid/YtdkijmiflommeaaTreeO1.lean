/- Three rows that grow side by side, and a node that is turned; nodes compared. -/
import Derived.Test.YtdkijmiflommeaaTreeN
set_option linter.unusedVariables false
namespace Go.Proofs.Ytdkijmiflommeaa
open Go.RowKit
set_option maxHeartbeats 4000000
set_option maxRecDepth 100000
def apart (a b : Value) : Prop := ∀ g, a.ownBlock = some g → b.ownBlock ≠ some g
theorem apart.symm {a b : Value} (h : apart a b) : apart b a := fun g hb ha => h g ha hb
theorem apart.kept {a b : Value} (h : apart a b) : a.ownBlock = none ∨ a.ownBlock ≠ b.ownBlock := by
  cases ha : a.ownBlock with
  | none => exact .inl rfl
  | some g => exact .inr (fun e => h g ha e.symm)
theorem apart_nil (v : Value) : apart (.slice none 0 0) v := fun g h => by simp [Value.ownBlock] at h
structure R3 (w : World) (B : Nat) (a b c : Value) (la lb lc : List Int) : Prop where
  ra : w.ownsRow B 3 1 a la.length (ints la)
  rb : w.ownsRow B 3 1 b lb.length (ints lb)
  rc : w.ownsRow B 3 1 c lc.length (ints lc)
  ab : apart a b
  ac : apart a c
  bc : apart b c
section
variable {w w' : World} {B : Nat} {a b c a' : Value} {la lb lc : List Int}
theorem R3.rot (h : R3 w B a b c la lb lc) : R3 w B b c a lb lc la := ⟨h.rb, h.rc, h.ra, h.bc, h.ab.symm, h.ac.symm⟩
theorem R3.rot' (h : R3 w B a b c la lb lc) : R3 w B c a b lc la lb := h.rot.rot
theorem R3.alloc (h : R3 w B a b c la lb lc) (o : Obj) : R3 (w.alloc o) B a b c la lb lc := ⟨h.ra.alloc o, h.rb.alloc o, h.rc.alloc o, h.ab, h.ac, h.bc⟩
theorem apart_new {v : Value} {base : Nat} {e : TypeId} {s n : Nat} {xs : List Value} (hv : w.ownsRow base e s v n xs) (h : apart a v) (hat : a'.ownBlock = a.ownBlock ∨ a'.ownBlock = some w.heap.size) : apart a' v := fun g hg hv' => by
  rcases hat with e | e
  · exact h g (e ▸ hg) hv'
  · rw [e] at hg
    injection hg with hg
    have := (hv.lt g hv').2
    omega
theorem R3.push (h : R3 w B a b c la lb lc) (z : Int) (hg : w.grownBy w' a.ownBlock) (hown : w'.ownsRow B 3 1 a' (la.length + 1) (ints la ++ [.int .i64 z])) (hat : a'.ownBlock = a.ownBlock ∨ a'.ownBlock = some w.heap.size) : R3 w' B a' b c (la ++ [z]) lb lc where
  ra := by simpa [ints] using hown
  rb := h.rb.kept hg h.ab.symm.kept
  rc := h.rc.kept hg h.ac.symm.kept
  ab := apart_new h.rb h.ab hat
  ac := apart_new h.rc h.ac hat
  bc := h.bc
theorem R3.setBelow (h : R3 w B a b c la lb lc) {g : Nat} (hg : g < B) (j : Nat) (u : Value) : R3 (w.setCell ⟨g, j, none⟩ u) B a b c la lb lc :=
  ⟨ownsRow_setCell_below h.ra (a := ⟨g, j, none⟩) hg u, ownsRow_setCell_below h.rb (a := ⟨g, j, none⟩) hg u, ownsRow_setCell_below h.rc (a := ⟨g, j, none⟩) hg u, h.ab, h.ac, h.bc⟩
end
def turns (w2 : World) (g : Nat) (i : Nat) : Prop := i = g ∨ w2.heap.size ≤ i
/-- The state of a loop that gathers three rows, and a node at g. -/
structure LS (w2 : World) (g : Nat) (w : World) (a b c : Value) (la lb lc : List Int) (z : Nd) : Prop where
  r3 : R3 w w2.heap.size a b c la lb lc
  blk : Blk w g 34 #[.string z.name, .int .i64 z.kind, .int .i64 z.above, .int .i64 z.weight, .bool z.six, .int .u64 z.hi, .int .u64 z.lo]
  hm : Mod (turns w2 g) w2 w
  hg : g < w2.heap.size
section
variable {w2 : World} {g : Nat} {w w' : World} {a b c a' : Value} {la lb lc : List Int} {z : Nd}
theorem LS.alloc (h : LS w2 g w a b c la lb lc z) (o : Obj) : LS w2 g (w.alloc o) a b c la lb lc z := ⟨h.r3.alloc o, h.blk.alloc o, h.hm.alloc o, h.hg⟩
theorem LS.drewN (h : LS w2 g w a b c la lb lc z) (m : Nat) : LS w2 g (w.drewN m) a b c la lb lc z := ⟨⟨h.r3.ra, h.r3.rb, h.r3.rc, h.r3.ab, h.r3.ac, h.r3.bc⟩, h.blk.drewN m, ⟨h.hm.os, h.hm.tape, h.hm.output, h.hm.size, h.hm.block⟩, h.hg⟩
theorem LS.rot (h : LS w2 g w a b c la lb lc z) : LS w2 g w b c a lb lc la z := ⟨h.r3.rot, h.blk, h.hm, h.hg⟩
theorem LS.size (h : LS w2 g w a b c la lb lc z) : w2.heap.size ≤ w.heap.size := h.hm.size
theorem LS.push (h : LS w2 g w a b c la lb lc z) (k : Int) (hg : w.grownBy w' a.ownBlock) (hown : w'.ownsRow w2.heap.size 3 1 a' (la.length + 1) (ints la ++ [.int .i64 k])) (hat : a'.ownBlock = a.ownBlock ∨ a'.ownBlock = some w.heap.size) : LS w2 g w' a' b c (la ++ [k]) lb lc z where
  r3 := h.r3.push k hg hown hat
  blk := h.blk.grown hg (blk_type h.blk h.r3.ra (by decide))
  hm := h.hm.trans ⟨hg.os, hg.tape, hg.output, hg.size, fun i hi hn => hg.block i hi (fun e => hn (.inr (own_from h.r3.ra i e.symm)))⟩
  hg := h.hg
theorem LS.turn (h : LS w2 g w a b c la lb lc z) (x : Nd) : LS w2 g (((((((w.setCell ⟨g, 0, none⟩ (.string x.name)).setCell ⟨g, 1, none⟩ (.int .i64 x.kind)).setCell ⟨g, 2, none⟩ (.int .i64 x.above)).setCell ⟨g, 3, none⟩ (.int .i64 x.weight)).setCell ⟨g, 4, none⟩ (.bool x.six)).setCell ⟨g, 5, none⟩ (.int .u64 x.hi)).setCell ⟨g, 6, none⟩ (.int .u64 x.lo)) a b c la lb lc x where
  r3 := ((((((h.r3.setBelow h.hg 0 _).setBelow h.hg 1 _).setBelow h.hg 2 _).setBelow h.hg 3 _).setBelow h.hg 4 _).setBelow h.hg 5 _).setBelow h.hg 6 _
  blk := h.blk.turn7 _ _ _ _ _ _ _
  hm := ((((((h.hm.setCell (p := ⟨g, 0, none⟩) (.inl (.inl rfl)) _).setCell (p := ⟨g, 1, none⟩) (.inl (.inl rfl)) _).setCell (p := ⟨g, 2, none⟩) (.inl (.inl rfl)) _).setCell (p := ⟨g, 3, none⟩) (.inl (.inl rfl)) _).setCell (p := ⟨g, 4, none⟩) (.inl (.inl rfl)) _).setCell (p := ⟨g, 5, none⟩) (.inl (.inl rfl)) _).setCell (p := ⟨g, 6, none⟩) (.inl (.inl rfl)) _
  hg := h.hg
end
theorem IsNodes.mod {w w' : World} {S : Nat → Prop} {A : Option Addr} {n c : Nat} {l : List Nd} (h : IsNodes w A n c l) (hx : Mod S w w') (hn : 0 < n → ∀ ad, A = some ad → ¬ S ad.block) : IsNodes w' A n c l :=
  ⟨⟨h.reads.1, fun hnn => by
    obtain ⟨ad, e, hb, hc⟩ := h.reads.2 hnn
    have hs := hn hnn ad e
    exact ⟨ad, e, Nat.lt_of_lt_of_le hb hx.size, fun j u hu => (hx.cell (by rw [block_of_add]; exact hb) (by rw [block_of_add]; exact hs)).trans (hc j u hu)⟩⟩, h.len, h.cap, h.small, h.reach, h.wf⟩
/-- Are two nodes the same? -/
def sameNd (x y : Nd) : Bool := sameName x.name y.name && x.kind == y.kind && x.above == y.above && x.weight == y.weight && sameAddr x y
theorem eq_nd (x y : Nd) (w : World) : (Op.equalIn 10000 34 x.val y.val).run Try.prog w = .ok (sameNd x y) w := by
  obtain ⟨xn, xk, xa, xw, x6, xh, xl⟩ := x
  obtain ⟨yn, yk, ya, yw, y6, yh, yl⟩ := y
  unfold Nd.val sameNd sameName sameAddr
  dsimp only
  go_simp
  (repeat' split) <;> simp_all
theorem eqG_nd (op : BinOp) (a b : Operand) (x y : Nd) (w : World) : (eqGuard op 34 a b x.val y.val).run Try.prog w = .ok () w := by
  unfold Nd.val
  go_simp
theorem run_eq_nd (x y : Nd) (w : World) : (binOp .eql 34 x.val y.val).run Try.prog w = .ok (.bool (sameNd x y)) w := by
  have h := eq_nd x y w
  unfold Nd.val at h ⊢
  rw [run_eql_struct, h]; rfl
theorem run_neq_nd (x y : Nd) (w : World) : (binOp .neq 34 x.val y.val).run Try.prog w = .ok (.bool (!sameNd x y)) w := by
  have h := eq_nd x y w
  unfold Nd.val at h ⊢
  rw [run_neq_struct, h]; rfl
theorem quiet_eq_nd {A : Act} {o : Oper} {x y : Operand} {t : TypeId} {a b : Nd} {E : Bool} {C : World → Prop} {K : Act → Prop} (hE : sameNd a b = E) (ho : o.op = .binOp .eql 34 x y t) (hx : A.eval x = .agg #[.string a.name, .int .i64 a.kind, .int .i64 a.above, .int .i64 a.weight, .bool a.six, .int .u64 a.hi, .int .u64 a.lo]) (hy : A.eval y = .agg #[.string b.name, .int .i64 b.kind, .int .i64 b.above, .int .i64 b.weight, .bool b.six, .int .u64 b.hi, .int .u64 b.lo])
    (h : K (A.put o.dst (.bool E))) : o.quiet Try.prog A C K :=
  ⟨.bool E, fun w _ => by
    unfold Oper.quietAt execOp
    have h1 := eqG_nd .eql x y a b w
    have h2 := run_eq_nd a b w
    unfold Nd.val at h1 h2
    simp only [ho, hx, hy, Sem.run_bind, h1, h2, Result.andThen_ok, Sem.run_pure, hE]
    exact ⟨rfl, rfl⟩, h⟩
theorem quiet_neq_nd {A : Act} {o : Oper} {x y : Operand} {t : TypeId} {a b : Nd} {E : Bool} {C : World → Prop} {K : Act → Prop} (hE : (!sameNd a b) = E) (ho : o.op = .binOp .neq 34 x y t) (hx : A.eval x = .agg #[.string a.name, .int .i64 a.kind, .int .i64 a.above, .int .i64 a.weight, .bool a.six, .int .u64 a.hi, .int .u64 a.lo]) (hy : A.eval y = .agg #[.string b.name, .int .i64 b.kind, .int .i64 b.above, .int .i64 b.weight, .bool b.six, .int .u64 b.hi, .int .u64 b.lo])
    (h : K (A.put o.dst (.bool E))) : o.quiet Try.prog A C K :=
  ⟨.bool E, fun w _ => by
    unfold Oper.quietAt execOp
    have h1 := eqG_nd .neq x y a b w
    have h2 := run_neq_nd a b w
    unfold Nd.val at h1 h2
    simp only [ho, hx, hy, Sem.run_bind, h1, h2, Result.andThen_ok, Sem.run_pure, hE]
    exact ⟨rfl, rfl⟩, h⟩
theorem sameNd_self (x : Nd) : sameNd x x = true := by
  unfold sameNd sameName sameAddr
  simp
end Go.Proofs.Ytdkijmiflommeaa
