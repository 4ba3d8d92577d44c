/- A ring is made. -/
import Derived.Test.YtpedhlmcgilliaaRingD
import Derived.Test.YtpedhlmcgilliaaMixD
import Derived.Test.YtpedhlmcgilliaaMakeInt
import Derived.Laws.MakeOwn
import Derived.Deep.RegionHeld3
set_option linter.unusedVariables false
namespace Go.Proofs.Ytpedhlmcgilliaa
open Go.RowKit
set_option maxHeartbeats 4000000
set_option maxRecDepth 100000
theorem Try.infoRow : (Try.prog.info? 101).map (fun i => (i.zero, i.size, i.bytes)) = some (some (.agg #[.int .i64 0, .int .i64 0, .int .i64 0, .int .i64 0]), 4, 32) := by kernel_rfl
theorem run_make_rows (n : Nat) (hn : n ≤ 65537) (w : World) : (Instr.makeSlice 98 (.int .i64 (n : Int)) (.int .i64 (n : Int))).run Try.prog w = .ok (.slice (some ⟨w.heap.size, 0, none⟩) n n) (w.alloc (.cells (madeCells #[.int .i64 0, .int .i64 0, .int .i64 0, .int .i64 0] (n * 4)) 101)) := by
  obtain ⟨i, hi, hzz⟩ := Option.map_eq_some_iff.1 Try.infoRow
  simp only [Prod.mk.injEq] at hzz
  obtain ⟨hz, hs, hb⟩ := hzz
  have hr := run_make (P := Try.prog) w 98 101 i _ Try.underlying98 hi hz .i64 .i64 n n (by omega) (Int.le_refl _) (by rw [hb]; omega) (by omega)
  simp only [Int.toNat_natCast, hs] at hr
  exact hr
theorem rows_made (w : World) (n : Nat) : (w.alloc (.cells (madeCells #[.int .i64 0, .int .i64 0, .int .i64 0, .int .i64 0] (n * 4)) 101)).rowIs w.heap.size 101 (n * 4) (fun _ => .int .i64 0) := by
  have h := World.rowIs_alloc w (madeCells #[.int .i64 0, .int .i64 0, .int .i64 0, .int .i64 0] (n * 4)) 101 (fun _ => .int .i64 0) (fun i hi => by
    rw [size_madeCells] at hi
    simp [madeCells, hi]
    have : i % 4 < 4 := Nat.mod_lt _ (by decide)
    generalize i % 4 = m at *
    match m, this with
    | 0, _ => rfl
    | 1, _ => rfl
    | 2, _ => rfl
    | 3, _ => rfl)
  rw [size_madeCells] at h
  exact h
theorem two_list (w : World) (t : TypeId) (a b : Int) (ha : 0 ≤ a ∧ a < 18446744073709551616) (hb : 0 ≤ b ∧ b < 18446744073709551616) : IsList (w.alloc (.cells #[.int .u64 a, .int .u64 b] t)) .u64 (some ⟨w.heap.size, 0, none⟩) 2 2 [a, b] := by
  have h1 : (w.alloc (.cells #[.int .u64 a, .int .u64 b] t)).rowIs w.heap.size t 2 (fun i => .int .u64 ([a, b].getD i 0)) := ⟨_, Blk.new w t _, rfl, fun i hi => by
    rcases (by omega : i = 0 ∨ i = 1) with rfl | rfl <;> rfl⟩
  refine row_list h1 [a, b] rfl (fun i hi => rfl) (fun z hz => ?_) (Nat.le_refl _) (by decide) (by decide)
  simp at hz
  rcases hz with rfl | rfl <;> simp [Lit.wf, IntKind.min, IntKind.max, IntKind.signed, IntKind.bits] <;> omega
theorem two_list' (w : World) (t : TypeId) (g : Nat) (a b : Int) (hg : g = w.heap.size) (ha : 0 ≤ a ∧ a < 18446744073709551616) (hb : 0 ≤ b ∧ b < 18446744073709551616) : IsList (w.alloc (.cells #[.int .u64 a, .int .u64 b] t)) .u64 (some ⟨g, 0, none⟩) 2 2 [a, b] := by
  subst hg; exact two_list w t a b ha hb
theorem IsList.drew' {w : World} {K : IntKind} {A : Option Addr} {n c : Nat} {l : List Int} (h : IsList w K A n c l) : IsList w.drew K A n c l := h.keep (Below.refl _ _).drew
theorem IsList.alloc' {w : World} {K : IntKind} {A : Option Addr} {n c : Nat} {l : List Int} (h : IsList w K A n c l) (o : Obj) : IsList (w.alloc o) K A n c l := h.keep ((Below.refl _ _).alloc (Nat.le_refl _) o)
/-- How much the heaviest of the first k items weighs. -/
def heavyTo (l : List (Int × Int)) : Nat → Int
  | 0 => 0
  | k + 1 => max (heavyTo l k) (itm l k).2
theorem heavyTo_ge (l : List (Int × Int)) : ∀ k, 0 ≤ heavyTo l k ∧ ∀ i, i < k → (itm l i).2 ≤ heavyTo l k
  | 0 => ⟨Int.le_refl _, fun i h => absurd h (Nat.not_lt_zero i)⟩
  | k + 1 => by
    obtain ⟨h0, h1⟩ := heavyTo_ge l k
    refine ⟨by rw [heavyTo]; omega, fun i hi => ?_⟩
    rw [heavyTo]
    by_cases e : i = k
    · subst e; omega
    · have := h1 i (by omega); omega
theorem heavyTo_some (l : List (Int × Int)) : ∀ k, 0 < heavyTo l k → ∃ i, i < k ∧ (itm l i).2 = heavyTo l k
  | 0, h => absurd h (Int.lt_irrefl 0)
  | k + 1, h => by
    rw [heavyTo] at h ⊢
    by_cases e : heavyTo l k ≤ (itm l k).2
    · exact ⟨k, Nat.lt_succ_self k, by omega⟩
    · obtain ⟨i, hi, he⟩ := heavyTo_some l k (by omega)
      exact ⟨i, by omega, by omega⟩
theorem heavyTo_le (l : List (Int × Int)) (m : Int) (hm : 0 ≤ m) : ∀ k, (∀ i, i < k → (itm l i).2 ≤ m) → heavyTo l k ≤ m
  | 0, _ => hm
  | k + 1, h => by
    rw [heavyTo]
    have := heavyTo_le l m hm k (fun i hi => h i (by omega))
    have := h k (Nat.lt_succ_self k)
    omega
/-- Where a host's row begins, and how far it goes on. -/
def atI (seed : Int) (p : Nat) (l : List (Int × Int)) (i : Nat) : Nat := (mixOf seed [(itm l i).1, 1] * (p : Int) / 18446744073709551616).toNat
def skI (seed : Int) (p : Nat) (l : List (Int × Int)) (i : Nat) : Nat := (1 + mixOf seed [(itm l i).1, 2] * ((p : Int) - 1) / 18446744073709551616).toNat
def ringRows (seed : Int) (p : Nat) (l : List (Int × Int)) : Rows4 := ⟨atI seed p l, skI seed p l, fun i => (itm l i).2, heavyTo l l.length, p⟩
/-- A ring's places. -/
def ringOut (seed : Int) (p : Nat) (l : List (Int × Int)) : Nat → Int := if 0 < heavyTo l l.length then (roundsR (ringRows seed p l) l.length (rs0 p) p).out else fun _ => -1
theorem atI_val {seed : Int} {p : Nat} {l : List (Int × Int)} {i : Nat} (hp : 2 ≤ p) : mixOf seed [(itm l i).1, 1] * (p : Int) / 18446744073709551616 = (atI seed p l i : Nat) ∧ atI seed p l i < p := by
  have h1 := mixOf_bd seed [(itm l i).1, 1]
  have h2 := below_bd _ (p : Int) h1.1 h1.2 (by omega)
  unfold atI
  omega
theorem skI_val {seed : Int} {p : Nat} {l : List (Int × Int)} {i : Nat} (hp : 2 ≤ p) : 1 + mixOf seed [(itm l i).1, 2] * ((p : Int) - 1) / 18446744073709551616 = (skI seed p l i : Nat) ∧ 0 < skI seed p l i ∧ skI seed p l i < p := by
  have h1 := mixOf_bd seed [(itm l i).1, 2]
  have h2 := below_bd _ ((p : Int) - 1) h1.1 h1.2 (by omega)
  unfold skI
  omega
theorem okTo_at {l : List (Int × Int)} {n k : Nat} (h : okTo l n = true) (hk : k < n) : 0 ≤ (itm l k).2 ∧ (itm l k).2 ≤ 65535 := by
  unfold okTo at h
  rw [List.all_eq_true] at h
  have := h k (List.mem_range.2 hk)
  simp only [Bool.and_eq_true, decide_eq_true_eq] at this
  exact this.1
structure RightP (p : Nat) (l : List (Int × Int)) : Prop where
  p0 : 2 ≤ p
  p1 : p ≤ 65537
  prime : primeP p
  len : l.length ≤ p
  ok : okTo l l.length = true
theorem right_parts {size : Int} {l : List (Int × Int)} (h : rightB size l = true) : ∃ p : Nat, size = p ∧ RightP p l := by
  unfold rightB at h
  simp only [Bool.and_eq_true, decide_eq_true_eq] at h
  obtain ⟨⟨⟨⟨h1, h2⟩, h3⟩, h4⟩, h5⟩ := h
  exact ⟨size.toNat, by omega, ⟨by omega, by omega, h3, by omega, h5⟩⟩
theorem ring_RR {seed : Int} {p : Nat} {l : List (Int × Int)} (h : RightP p l) : RR (ringRows seed p l) l.length :=
  ⟨h.prime, fun i _ => (atI_val h.p0).2, fun i _ => (skI_val h.p0).2.1, fun i _ => (skI_val h.p0).2.2, fun i hi => (okTo_at h.ok hi).1, fun i hi => (heavyTo_ge l l.length).2 i hi⟩
/-- The rows as the first k are laid. -/
def rowsTo (seed : Int) (p : Nat) (l : List (Int × Int)) (k : Nat) : Rows4 := ⟨fun i => if i < k then atI seed p l i else 0, fun i => if i < k then skI seed p l i else 0, fun _ => 0, 0, p⟩
theorem rowsTo_zero (seed : Int) (p : Nat) (l : List (Int × Int)) (j : Nat) : rowF (rowsTo seed p l 0) (fun _ => 0) (fun _ => 0) j = .int .i64 0 := by
  unfold rowF rowsTo
  dsimp only
  rw [if_neg (Nat.not_lt_zero _), if_neg (Nat.not_lt_zero _)]
  split
  · rfl
  · split
    · rfl
    · split <;> rfl
theorem rowsTo_step (seed : Int) (p : Nat) (l : List (Int × Int)) (i j : Nat) :
    (if j = i * 4 + 3 then Value.int .i64 0 else if j = i * 4 + 2 then .int .i64 0 else if j = i * 4 + 1 then .int .i64 (skI seed p l i : Nat) else if j = i * 4 then .int .i64 (atI seed p l i : Nat) else rowF (rowsTo seed p l i) (fun _ => 0) (fun _ => 0) j) =
      rowF (rowsTo seed p l (i + 1)) (fun _ => 0) (fun _ => 0) j := by
  by_cases e3 : j = i * 4 + 3
  · rw [if_pos e3, e3, rowF3]
  · rw [if_neg e3]
    by_cases e2 : j = i * 4 + 2
    · rw [if_pos e2, e2, rowF2]; rfl
    · rw [if_neg e2]
      by_cases e1 : j = i * 4 + 1
      · rw [if_pos e1, e1, rowF1]
        unfold rowsTo; dsimp only; rw [if_pos (Nat.lt_succ_self i)]
      · rw [if_neg e1]
        by_cases e0 : j = i * 4
        · rw [if_pos e0, e0, rowF0]
          unfold rowsTo; dsimp only; rw [if_pos (Nat.lt_succ_self i)]
        · rw [if_neg e0]
          unfold rowF rowsTo
          dsimp only
          by_cases h1 : j / 4 < i
          · rw [if_pos h1, if_pos h1, if_pos (show j / 4 < i + 1 by omega), if_pos (show j / 4 < i + 1 by omega)]
          · rw [if_neg h1, if_neg h1, if_neg (show ¬ j / 4 < i + 1 by omega), if_neg (show ¬ j / 4 < i + 1 by omega)]
theorem rowsTo_all (seed : Int) (p : Nat) (l : List (Int × Int)) (j : Nat) (hj : j < l.length * 4) : rowF (rowsTo seed p l l.length) (fun _ => 0) (fun _ => 0) j = rowF (ringRows seed p l) (fun _ => 0) (fun _ => 0) j := by
  unfold rowF rowsTo ringRows
  dsimp only
  rw [if_pos (show j / 4 < l.length by omega), if_pos (show j / 4 < l.length by omega)]
theorem row_blk {w : World} {f : Nat → Value} {t t' : TypeId} {cs : Array Value} {x y : Nat} {m : Nat} (h : w.rowIs x t m f) (h' : Blk w y t' cs) (hne : t ≠ t') : x ≠ y := fun e => by
  subst e
  obtain ⟨c, h1, _⟩ := h
  unfold Blk at h'
  rw [h1] at h'
  injection h' with h'
  injection h' with _ ht _
  exact hne ht
theorem row_row {w : World} {f f' : Nat → Value} {t t' : TypeId} {x y m m' : Nat} (h : w.rowIs x t m f) (h' : w.rowIs y t' m' f') (hne : t ≠ t') : x ≠ y := fun e => by
  subst e
  obtain ⟨c, h1, _⟩ := h
  obtain ⟨c', h2, _⟩ := h'
  rw [h1] at h2
  injection h2 with h2
  injection h2 with _ ht _
  exact hne ht
theorem take_one {P : Program} {md : Region.Mode} {ops : Array Oper} {Q : Exit → Act → World → Prop} {S : World → Prop} {i : Nat} {oi : Oper} {v : Value} {fuel : Nat} {listed : Array Bool} {a : Act} {w : World} (hi : ops[i]? = some oi)
    (hs : Region.noSelect ops = true) (hf : Region.free md ops listed i = true) (hr : (Region.ready md ops listed).contains i = true)
    (hQ : ∀ c a w, Q (.panic c) (a.put oi.dst v) w → Q (.panic c) a w) (hw : Region.wanted oi (yielded ops a.tmps) = true) (hy : ∀ w, S w → (execOp a.eval oi).run P w = .ok (.value v) w) (hS : S w)
    (h : wpAnyH P md ops Q S fuel (listed.setIfInBounds i true) (a.put oi.dst v) w) : wpAnyH P md ops Q S (fuel + 1) listed a w :=
  wpAnyH_take hi hs hf hr hQ (.inl ⟨hw, hy⟩) hS h
theorem cdrew {w : World} {a : Addr} {v : Value} (h : w.cell? a = some v) : w.drew.cell? a = some v := h
/-- A row's four cells are laid. -/
def four (w : World) (gr o : Nat) (a b : Int) : World := (((w.setCell ⟨gr, o, none⟩ (.int .i64 a)).setCell ⟨gr, o + 1, none⟩ (.int .i64 b)).setCell ⟨gr, o + 2, none⟩ (.int .i64 0)).setCell ⟨gr, o + 3, none⟩ (.int .i64 0)
theorem four_row {w : World} {gr n i : Nat} {f : Nat → Value} (h : w.rowIs gr 101 (n * 4) f) (a b : Int) : (four w gr (i * 4) a b).rowIs gr 101 (n * 4) (fun j => if j = i * 4 + 3 then Value.int .i64 0 else if j = i * 4 + 2 then .int .i64 0 else if j = i * 4 + 1 then .int .i64 b else if j = i * 4 then .int .i64 a else f j) :=
  (((h.set (i * 4) _).set (i * 4 + 1) _).set (i * 4 + 2) _).set (i * 4 + 3) _
theorem four_other {w : World} {gr o g m : Nat} {t : TypeId} {f : Nat → Value} (h : w.rowIs g t m f) (hne : g ≠ gr) (a b : Int) : (four w gr o a b).rowIs g t m f :=
  (((h.setOther (a := ⟨gr, o, none⟩) hne _).setOther (a := ⟨gr, o + 1, none⟩) hne _).setOther (a := ⟨gr, o + 2, none⟩) hne _).setOther (a := ⟨gr, o + 3, none⟩) hne _
theorem four_blk {w : World} {gr o g : Nat} {t : TypeId} {cs : Array Value} (h : Blk w g t cs) (hne : g ≠ gr) (a b : Int) : Blk (four w gr o a b) g t cs :=
  (((h.far (p := ⟨gr, o, none⟩) hne _).far (p := ⟨gr, o + 1, none⟩) hne _).far (p := ⟨gr, o + 2, none⟩) hne _).far (p := ⟨gr, o + 3, none⟩) hne _
theorem four_below {B : Nat} {w0 w : World} {gr : Nat} (h : Below B w0 w) (hg : B ≤ gr) (o : Nat) (a b : Int) : Below B w0 (four w gr o a b) :=
  below_own (below_own (below_own (below_own h hg _ _) hg _ _) hg _ _) hg _ _
def newBad (e : Ending) : Prop := e = .returned (.tuple #[.pointer none, .int .i64 1])
def newGood (seed : Int) (l : List (Int × Int)) (p : Nat) (e : Ending) (w' : World) : Prop :=
  ∃ gq gl : Nat, e = .returned (.tuple #[.pointer (some ⟨gq, 0, none⟩), .int .i64 0]) ∧ Blk w' gq 97 #[.slice (some ⟨gl, 0, none⟩) p p] ∧ w'.rowIs gl 3 p (fun j => .int .i64 (ringOut seed p l j))
theorem ring_NewBad (w : World) (seed size : Int) (hs : size ≤ 9223372036854775807) (A : Option Addr) (n c : Nat) (l : List (Int × Int)) (hl : IsPairs w .u64 .i64 A n c l) (hn : n ≤ 512) (hr : rightB size l = false) :
    Calls Try.prog 23 #[.int .u64 seed, .int .i64 size, .slice A n c] w fun e w' => newBad e ∧ Below w.heap.size w w' := by
  have hR := ring_Right w A n c l hl hn size hs
  rw [hr] at hR
  go_enter Try.func23, Try.ntmps23
  go_wp2_with fail
  refine hR.mono ?_; rintro e w1 ⟨rfl, hx⟩
  go_wp2
  exact bodyPost_ret (results_tmp2 (t := 6) (u := 7) rfl _ _ _) rfl ⟨rfl, hx⟩
theorem ring_NewGood (w : World) (seed : Int) (s0 : 0 ≤ seed) (s1 : seed < 18446744073709551616) (p : Nat) (A : Option Addr) (n c : Nat) (l : List (Int × Int)) (hl : IsPairs w .u64 .i64 A n c l) (hn : n ≤ 512) (hP : RightP p l) :
    Calls Try.prog 23 #[.int .u64 seed, .int .i64 p, .slice A n c] w fun e w' => newGood seed l p e w' ∧ Below w.heap.size w w' := by
  have hR := ring_Right w A n c l hl hn p (by have := hP.p1; omega)
  have hcap := hl.cap
  have hsm := hl.small
  have hr1 : rightB (p : Int) l = true := by
    unfold rightB
    simp only [Bool.and_eq_true, decide_eq_true_eq, Int.toNat_natCast]
    have := hP.p0; have := hP.p1; have := hP.len
    exact ⟨⟨⟨by omega, hP.prime⟩, by omega⟩, hP.ok⟩
  rw [hr1] at hR
  have hp0 := hP.p0
  have hp1 := hP.p1
  have HP := Lib.hid hP
  have hlen := Lib.hid hl.len
  clear hr1
  have hm1 := fun w => run_make_row' (P := Try.prog) 54 3 (.int .i64 0) 8 Try.underlying54 Try.infoI64 rfl .i64 .i64 p (by omega) (by omega) w
  have hm2 := run_make_rows n (by omega)
  go_enter Try.func23, Try.ntmps23
  go_wp2_with fail
  refine hR.mono ?_; rintro e w1 ⟨rfl, hx⟩
  clear hR
  have hlx := hl.keep hx
  have e1 := World.rowIs_made w1 (.int .i64 0) p 3
  have e2 := Blk.new (w1.alloc (.cells (madeCells #[.int .i64 0] p) 3)) 97 #[.slice (some ⟨w1.heap.size, 0, none⟩) p p]
  have e3 : Below w.heap.size w (w1.alloc (.cells (madeCells #[.int .i64 0] p) 3)) := hx.alloc hx.size _
  have e4 : Below w.heap.size w ((w1.alloc (.cells (madeCells #[.int .i64 0] p) 3)).alloc (.cells #[.slice (some ⟨w1.heap.size, 0, none⟩) p p] 97)) := e3.alloc e3.size _
  have e5 := e1.alloc (.cells #[.slice (some ⟨w1.heap.size, 0, none⟩) p p] 97)
  have hz : (w1.alloc (.cells (madeCells #[.int .i64 0] p) 3)).heap.size = w1.heap.size + 1 := by simp
  rw [hz] at e2
  have hwl := hx.size
  clear e1 e3 hz hlx hx
  go_wp2_with fail
  generalize (w1.alloc (.cells (madeCells #[.int .i64 0] p) 3)).alloc (.cells #[.slice (some ⟨w1.heap.size, 0, none⟩) p p] 97) = u at *
  obtain ⟨gl, hgl⟩ : ∃ gl, gl = w1.heap.size := ⟨_, rfl⟩
  rw [← hgl] at e2 e5 hwl ⊢
  clear hgl
  go_loopg [27] p (fun gk s27 wr => ∃ k : Nat, k ≤ p ∧ gk = p - k ∧ s27 = .int .i64 k ∧ wr.rowIs gl 3 p (fun j => .int .i64 (if j < k then -1 else 0)) ∧ Blk wr (gl + 1) 97 #[.slice (some ⟨gl, 0, none⟩) p p] ∧ Below w.heap.size w wr)
  case atStart => exact ⟨0, Nat.zero_le _, rfl, rfl, e5.congr (fun j _ => by rw [if_neg (Nat.not_lt_zero j)]), e2, e4⟩
  case round =>
    clear e2 e4 e5
    obtain ⟨k, hk, rfl, rfl, hG, hQ, hW⟩ := hrel
    have c0 := hQ.cells1.1
    by_cases hkp : k < p
    · have hki : (k : Int) < (p : Int) := by omega
      have ck := hG.cell hkp
      have zk := hG.frozen k
      have hG2 := (hG.set k (.int .i64 (-1))).congr (g := fun j => .int .i64 (if j < k + 1 then -1 else 0)) (fun j _ => by
        by_cases e : j = k
        · rw [if_pos e, if_pos (by omega)]
        · rw [if_neg e]
          by_cases e2 : j < k
          · rw [if_pos e2, if_pos (by omega)]
          · rw [if_neg e2, if_neg (by omega)])
      have hQ2 := hQ.far (p := ⟨gl, k, none⟩) (show gl + 1 ≠ gl by omega) (.int .i64 (-1))
      have hW2 := below_own hW hwl k (.int .i64 (-1))
      go_wp2
      go_roundg (p - (k + 1))
      case measure => omega
      case rel => exact ⟨k + 1, by omega, rfl, by go_num, hG2, hQ2, hW2⟩
    · obtain rfl : k = p := by omega
      have hG1 := hG.congr (g := fun _ => .int .i64 (-1)) (fun j hj => by rw [if_pos hj])
      have r1 := rows_made wr n
      have r2 := hG1.alloc (.cells (madeCells #[.int .i64 0, .int .i64 0, .int .i64 0, .int .i64 0] (n * 4)) 101)
      have r3 := hQ.alloc (.cells (madeCells #[.int .i64 0, .int .i64 0, .int .i64 0, .int .i64 0] (n * 4)) 101)
      have r4 := hW.alloc hW.size (.cells (madeCells #[.int .i64 0, .int .i64 0, .int .i64 0, .int .i64 0] (n * 4)) 101)
      have hwr := hW.size
      clear hG hQ hG1 c0 hW
      go_wp2_with fail
      generalize wr.alloc (.cells (madeCells #[.int .i64 0, .int .i64 0, .int .i64 0, .int .i64 0] (n * 4)) 101) = v at *
      obtain ⟨gr, hgr⟩ : ∃ gr, gr = wr.heap.size := ⟨_, rfl⟩
      rw [← hgr] at r1 hwr ⊢
      clear hgr
      go_loopg [11, 42] n (fun gk s11 s42 wr => ∃ i : Nat, i ≤ n ∧ gk = n - i ∧ s42 = .int .i64 i ∧ s11 = .int .i64 (heavyTo l i) ∧ wr.rowIs gr 101 (n * 4) (rowF (rowsTo seed k l i) (fun _ => 0) (fun _ => 0)) ∧ wr.rowIs gl 3 k (fun _ => .int .i64 (-1)) ∧ Blk wr (gl + 1) 97 #[.slice (some ⟨gl, 0, none⟩) k k] ∧ Below w.heap.size w wr)
      case atStart => exact ⟨0, Nat.zero_le _, rfl, rfl, rfl, r1.congr (fun j _ => (rowsTo_zero seed k l j).symm), r2, r3, r4⟩
      case round =>
        clear r1 r2 r3 r4
        obtain ⟨i, hi, rfl, rfl, rfl, hF, hG, hQ, hW⟩ := hrel
        have hh0 := (heavyTo_ge l i).1
        have hh1 := heavyTo_le l 65535 (by omega) i (fun j hj => (okTo_at HP.out.ok (show j < l.length by rw [hlen.out]; omega)).2)
        by_cases hin : i < n
        · have hii : (i : Int) < (n : Int) := by omega
          obtain ⟨ad, rfl, hbk, y0, y1, wf0, wf1⟩ := (hl.keep hW).at_ hin
          have ha := u64_of_wf wf0
          have hb := okTo_at HP.out.ok (show i < l.length by rw [hlen.out]; omega)
          have HHS := Lib.hid (show heavyTo l (i + 1) = max (heavyTo l i) (itm l i).2 from rfl)
          obtain ⟨va, ba⟩ := atI_val (seed := seed) (p := k) (l := l) (i := i) hp0
          obtain ⟨vs, bs0, bs1⟩ := skI_val (seed := seed) (p := k) (l := l) (i := i) hp0
          have HRS := Lib.hid (fun j => rowsTo_step seed k l i j)
          obtain ⟨x, hx⟩ : ∃ x, x = itm l i := ⟨_, rfl⟩
          rw [show l.getD i (0, 0) = x from hx.symm] at y0 y1 ha
          rw [← hx] at HHS hb va vs
          clear hx wf0 wf1
          obtain ⟨a, b⟩ := x
          dsimp only at *
          have m2 := mixOf_bd seed [a, 2]
          have bz := below_bd (mixOf seed [a, 2]) ((k : Int) - 1) m2.1 m2.2 (by omega)
          have kz : IntKind.i64.wrap (1 + mixOf seed [a, 2] * ((k : Int) - 1) / 18446744073709551616) = 1 + mixOf seed [a, 2] * ((k : Int) - 1) / 18446744073709551616 := IntWalk.i64_in _ (by omega)
          clear m2 bz
          generalize atI seed k l i = At at *
          generalize skI seed k l i = Sk at *
          have kz2 : IntKind.i64.wrap (Sk : Int) = (Sk : Int) := IntWalk.i64_in _ (by omega)
          have kk : IntKind.i64.wrap ((k : Int) - 1) = (k : Int) - 1 := IntWalk.i64_in _ (by omega)
          have hP := Blk.new wr 70 #[.int .u64 a, .int .i64 b]
          have hF1 := hF.alloc (.cells #[.int .u64 a, .int .i64 b] 70)
          have hG1 := hG.alloc (.cells #[.int .u64 a, .int .i64 b] 70)
          have hQ1 := hQ.alloc (.cells #[.int .u64 a, .int .i64 b] 70)
          have hW1 := hW.alloc hW.size (.cells #[.int .u64 a, .int .i64 b] 70)
          go_upto_region 14 with (fail)
          generalize wr.alloc (.cells #[.int .u64 a, .int .i64 b] 70) = v1 at *
          have hitr : wr.heap.size ≠ gr := fun e => row_blk hF1 hP (by decide) e.symm
          have hql : gl + 1 ≠ gr := fun e => row_blk hF1 hQ1 (by decide) e.symm
          have hgl : gl ≠ gr := fun e => row_row hF1 hG1 (by decide) e.symm
          obtain ⟨it, hit⟩ : ∃ it, it = wr.heap.size := ⟨_, rfl⟩
          rw [← hit] at hP hitr ⊢
          clear hit
          obtain ⟨pc0, pc1, _⟩ := hP.cells2
          have hd0 : Below v1.heap.size v1 v1.drew := (Below.refl _ _).drew
          have S0 : v1.drew.cell? ⟨it, 0, none⟩ = some (.int .u64 a) := cdrew pc0
          have SD2 : ∀ (o1 o2 : Obj), ((v1.alloc o1).alloc o2).drew.cell? ⟨it, 0, none⟩ = some (.int .u64 a) := fun o1 o2 => cdrew (cell_alloc (cell_alloc pc0 o1) o2)
          have S1 : ∀ (o : Obj), (v1.alloc o).drew.cell? ⟨it, 0, none⟩ = some (.int .u64 a) := fun o => cdrew (cell_alloc pc0 o)
          have SS : ∀ (w' : World) (k : Nat) (u : Value), w'.cell? ⟨it, 0, none⟩ = some (.int .u64 a) → (w'.setCell ⟨gr, k, none⟩ u).cell? ⟨it, 0, none⟩ = some (.int .u64 a) := fun w' k u h => cell_mod h ((Mod.refl (S := (· = gr)) w').own k u) hitr
          have S4 : ∀ (o1 o2 : Obj) (k0 k1 k2 k3 : Nat) (x0 x1 x2 x3 : Value), ((((((v1.alloc o1).alloc o2).setCell ⟨gr, k0, none⟩ x0).setCell ⟨gr, k1, none⟩ x1).setCell ⟨gr, k2, none⟩ x2).setCell ⟨gr, k3, none⟩ x3).drew.cell? ⟨it, 0, none⟩ = some (.int .u64 a) := fun o1 o2 k0 k1 k2 k3 x0 x1 x2 x3 => cdrew (SS _ _ _ (SS _ _ _ (SS _ _ _ (SS _ _ _ (cell_alloc (cell_alloc pc0 o1) o2)))))
          clear SS
          have KF : ∀ o1 o2 : Obj, (four ((v1.alloc o1).alloc o2) gr (i * 4) At Sk).drew.rowIs gr 101 (n * 4) (rowF (rowsTo seed k l (i + 1)) (fun _ => 0) (fun _ => 0)) := fun o1 o2 => (four_row ((hF1.alloc o1).alloc o2) _ _).drew.congr (fun j _ => HRS.out j)
          have KG : ∀ o1 o2 : Obj, (four ((v1.alloc o1).alloc o2) gr (i * 4) At Sk).drew.rowIs gl 3 k (fun _ => .int .i64 (-1)) := fun o1 o2 => (four_other ((hG1.alloc o1).alloc o2) hgl _ _).drew
          have KQ : ∀ o1 o2 : Obj, Blk (four ((v1.alloc o1).alloc o2) gr (i * 4) At Sk).drew (gl + 1) 97 #[.slice (some ⟨gl, 0, none⟩) k k] := fun o1 o2 => (four_blk ((hQ1.alloc o1).alloc o2) hql _ _).drew
          have KW : ∀ o1 o2 : Obj, Below w.heap.size w (four ((v1.alloc o1).alloc o2) gr (i * 4) At Sk).drew := fun o1 o2 => (four_below ((hW1.alloc hW1.size o1).alloc (Nat.le_trans hW1.size (by simp)) o2) hwr _ _ _).drew
          have KC : ∀ o1 o2 : Obj, (four ((v1.alloc o1).alloc o2) gr (i * 4) At Sk).drew.cell? ⟨it, 1, none⟩ = some (.int .i64 b) := fun o1 o2 => (four_blk ((hP.alloc o1).alloc o2) hitr _ _).drew.cells2.2.1
          have R0 : ∀ o1 o2 : Obj, (((v1.alloc o1).alloc o2).drew).cell? ⟨gr, i * 4, none⟩ = some (rowF (rowsTo seed k l i) (fun _ => 0) (fun _ => 0) (i * 4)) := fun o1 o2 => ((hF1.alloc o1).alloc o2).drew.cell (by omega)
          have R1 : ∀ o1 o2 : Obj, (((v1.alloc o1).alloc o2).drew).cell? ⟨gr, i * 4 + 1, none⟩ = some (rowF (rowsTo seed k l i) (fun _ => 0) (fun _ => 0) (i * 4 + 1)) := fun o1 o2 => ((hF1.alloc o1).alloc o2).drew.cell (by omega)
          have R2 : ∀ o1 o2 : Obj, (((v1.alloc o1).alloc o2).drew).cell? ⟨gr, i * 4 + 2, none⟩ = some (rowF (rowsTo seed k l i) (fun _ => 0) (fun _ => 0) (i * 4 + 2)) := fun o1 o2 => ((hF1.alloc o1).alloc o2).drew.cell (by omega)
          have R3 : ∀ o1 o2 : Obj, (((v1.alloc o1).alloc o2).drew).cell? ⟨gr, i * 4 + 3, none⟩ = some (rowF (rowsTo seed k l i) (fun _ => 0) (fun _ => 0) (i * 4 + 3)) := fun o1 o2 => ((hF1.alloc o1).alloc o2).drew.cell (by omega)
          have T0 : ∀ o1 o2 : Obj, ((v1.alloc o1).alloc o2).cell? ⟨gr, i * 4, none⟩ = some (rowF (rowsTo seed k l i) (fun _ => 0) (fun _ => 0) (i * 4)) := fun o1 o2 => ((hF1.alloc o1).alloc o2).cell (by omega)
          generalize rowF (rowsTo seed k l i) (fun _ => 0) (fun _ => 0) (i * 4) = r0 at R0 T0
          have T1 : ∀ o1 o2 : Obj, ((v1.alloc o1).alloc o2).cell? ⟨gr, i * 4 + 1, none⟩ = some (rowF (rowsTo seed k l i) (fun _ => 0) (fun _ => 0) (i * 4 + 1)) := fun o1 o2 => ((hF1.alloc o1).alloc o2).cell (by omega)
          generalize rowF (rowsTo seed k l i) (fun _ => 0) (fun _ => 0) (i * 4 + 1) = r1 at R1 T1
          have T2 : ∀ o1 o2 : Obj, ((v1.alloc o1).alloc o2).cell? ⟨gr, i * 4 + 2, none⟩ = some (rowF (rowsTo seed k l i) (fun _ => 0) (fun _ => 0) (i * 4 + 2)) := fun o1 o2 => ((hF1.alloc o1).alloc o2).cell (by omega)
          generalize rowF (rowsTo seed k l i) (fun _ => 0) (fun _ => 0) (i * 4 + 2) = r2 at R2 T2
          have T3 : ∀ o1 o2 : Obj, ((v1.alloc o1).alloc o2).cell? ⟨gr, i * 4 + 3, none⟩ = some (rowF (rowsTo seed k l i) (fun _ => 0) (fun _ => 0) (i * 4 + 3)) := fun o1 o2 => ((hF1.alloc o1).alloc o2).cell (by omega)
          generalize rowF (rowsTo seed k l i) (fun _ => 0) (fun _ => 0) (i * 4 + 3) = r3 at R3 T3
          have Z : ∀ (o1 o2 : Obj) (j : Nat), (((v1.alloc o1).alloc o2).drew).frozen? ⟨gr, j, none⟩ = false := fun o1 o2 j => ((hF1.alloc o1).alloc o2).drew.frozen j
          have Z2 : ∀ (o1 o2 : Obj) (j : Nat), ((v1.alloc o1).alloc o2).frozen? ⟨gr, j, none⟩ = false := fun o1 o2 j => ((hF1.alloc o1).alloc o2).frozen j
          clear hF1 hG1 hQ1 hP hF hG hQ hW hW1 hd0 pc0 pc1 y0 y1 HRS
          obtain ⟨mx, hmx⟩ : ∃ mx : Int → Int, ∀ t, mx t = mixOf seed [a, t] := ⟨_, fun _ => rfl⟩
          have CA : ∀ (t : Int) (ht : 0 ≤ t ∧ t < 18446744073709551616) (w : World) (g : Nat) (hg : g = w.heap.size), Calls Try.prog 47 #[.int .u64 seed, .slice (some ⟨g, 0, none⟩) 2 2] (w.alloc (.cells #[.int .u64 a, .int .u64 t] 22)).drew fun e w' => e = .returned (.int .u64 (mx t)) ∧ (w.alloc (.cells #[.int .u64 a, .int .u64 t] 22)).drew = w' := fun t ht w g hg => by
            rw [hmx]; exact mix_Of seed (some ⟨g, 0, none⟩) 2 2 [a, t] (w.alloc (.cells #[.int .u64 a, .int .u64 t] 22)).drew s0 s1 (two_list' w 22 g a t hg ha ht).drew'
          have CB : ∀ (t : Int) (ht : 0 ≤ t ∧ t < 18446744073709551616) (w : World) (o : Obj) (g : Nat) (hg : g = w.heap.size), Calls Try.prog 47 #[.int .u64 seed, .slice (some ⟨g, 0, none⟩) 2 2] ((w.alloc (.cells #[.int .u64 a, .int .u64 t] 22)).alloc o).drew fun e w' => e = .returned (.int .u64 (mx t)) ∧ ((w.alloc (.cells #[.int .u64 a, .int .u64 t] 22)).alloc o).drew = w' := fun t ht w o g hg => by
            rw [hmx]; exact mix_Of seed (some ⟨g, 0, none⟩) 2 2 [a, t] ((w.alloc (.cells #[.int .u64 a, .int .u64 t] 22)).alloc o).drew s0 s1 ((two_list' w 22 g a t hg ha ht).alloc' o).drew'
          have CC : ∀ (t m : Int) (w : World) (hm : 1 ≤ m) (hm2 : m ≤ 9223372036854775807), Calls Try.prog 50 #[.int .u64 (mx t), .int .i64 m] w fun e w' => e = .returned (.int .i64 (mx t * m / 18446744073709551616)) ∧ w = w' := fun t m w hm hm2 => by
            rw [hmx]; exact mix_Below (mixOf seed [a, t]) m w (mixOf_bd seed [a, t]).1 (mixOf_bd seed [a, t]).2 hm hm2
          rw [← hmx] at va vs kz
          clear hmx
          go_cut [] (fun wx => wx.rowIs gr 101 (n * 4) (rowF (rowsTo seed k l (i + 1)) (fun _ => 0) (fun _ => 0)) ∧ wx.rowIs gl 3 k (fun _ => .int .i64 (-1)) ∧ Blk wx (gl + 1) 97 #[.slice (some ⟨gl, 0, none⟩) k k] ∧ Below w.heap.size w wx ∧ wx.cell? ⟨it, 1, none⟩ = some (.int .i64 b))
          case first =>
            refine wp_region_noPanic ?_
            refine wp_region_held_drew (S := (fun w' => w'.cell? ⟨it, 0, none⟩ = some (.int .u64 a))) (by kernel_rfl) (by (with_reducible first | assumption | exact S0 | exact S1 _ | exact SD2 _ _ | exact S4 _ _ _ _ _ _ _ _ _ _)) (fun hHeld => ?_)
            refine take_one (i := 0) (oi := ?oi_1) (v := ?v_1) ?hi_1 (by kernel_rfl) (by kernel_rfl) (by kernel_rfl) ?hq_1 ?hw_1 ?hy_1 (by assumption) ?rest_1
            case hi_1 => (simp only [List.getElem?_toArray, List.getElem?_cons_succ, List.getElem?_cons_zero]; rfl)
            case hq_1 => exact fun _ _ _ h => h
            case hw_1 => rfl
            case hy_1 => (intro w' hSw; (try dsimp only at hSw); go_simp; first | done | with_reducible rfl)
            try simp only [Act.put, List.setIfInBounds_toArray, List.set_cons_zero, List.set_cons_succ]
            refine take_one (i := 1) (oi := ?oi_2) (v := ?v_2) ?hi_2 (by kernel_rfl) (by kernel_rfl) (by kernel_rfl) ?hq_2 ?hw_2 ?hy_2 (by assumption) ?rest_2
            case hi_2 => (simp only [List.getElem?_toArray, List.getElem?_cons_succ, List.getElem?_cons_zero]; rfl)
            case hq_2 => exact fun _ _ _ h => h
            case hw_2 => rfl
            case hy_2 => (intro w' hSw; (try dsimp only at hSw); go_simp; first | done | with_reducible rfl)
            try simp only [Act.put, List.setIfInBounds_toArray, List.set_cons_zero, List.set_cons_succ]
            refine take_one (i := 2) (oi := ?oi_3) (v := ?v_3) ?hi_3 (by kernel_rfl) (by kernel_rfl) (by kernel_rfl) ?hq_3 ?hw_3 ?hy_3 (by assumption) ?rest_3
            case hi_3 => (simp only [List.getElem?_toArray, List.getElem?_cons_succ, List.getElem?_cons_zero]; rfl)
            case hq_3 => exact fun _ _ _ h => h
            case hw_3 => rfl
            case hy_3 => (intro w' hSw; (try dsimp only at hSw); go_simp; first | done | with_reducible rfl)
            try simp only [Act.put, List.setIfInBounds_toArray, List.set_cons_zero, List.set_cons_succ]
            refine take_one (i := 3) (oi := ?oi_4) (v := ?v_4) ?hi_4 (by kernel_rfl) (by kernel_rfl) (by kernel_rfl) ?hq_4 ?hw_4 ?hy_4 (by assumption) ?rest_4
            case hi_4 => (simp only [List.getElem?_toArray, List.getElem?_cons_succ, List.getElem?_cons_zero]; rfl)
            case hq_4 => exact fun _ _ _ h => h
            case hw_4 => rfl
            case hy_4 => (intro w' hSw; (try dsimp only at hSw); go_simp; first | done | with_reducible rfl)
            try simp only [Act.put, List.setIfInBounds_toArray, List.set_cons_zero, List.set_cons_succ]
            refine take_one (i := 4) (oi := ?oi_5) (v := ?v_5) ?hi_5 (by kernel_rfl) (by kernel_rfl) (by kernel_rfl) ?hq_5 ?hw_5 ?hy_5 (by assumption) ?rest_5
            case hi_5 => (simp only [List.getElem?_toArray, List.getElem?_cons_succ, List.getElem?_cons_zero]; rfl)
            case hq_5 => exact fun _ _ _ h => h
            case hw_5 => rfl
            case hy_5 => (intro w' hSw; (try dsimp only at hSw); go_simp; first | done | with_reducible rfl)
            try simp only [Act.put, List.setIfInBounds_toArray, List.set_cons_zero, List.set_cons_succ]
            refine take_one (i := 7) (oi := ?oi_6) (v := ?v_6) ?hi_6 (by kernel_rfl) (by kernel_rfl) (by kernel_rfl) ?hq_6 ?hw_6 ?hy_6 (by assumption) ?rest_6
            case hi_6 => (simp only [List.getElem?_toArray, List.getElem?_cons_succ, List.getElem?_cons_zero]; rfl)
            case hq_6 => exact fun _ _ _ h => h
            case hw_6 => rfl
            case hy_6 => (intro w' hSw; (try dsimp only at hSw); go_simp; first | done | with_reducible rfl)
            try simp only [Act.put, List.setIfInBounds_toArray, List.set_cons_zero, List.set_cons_succ]
            refine take_one (i := 9) (oi := ?oi_7) (v := ?v_7) ?hi_7 (by kernel_rfl) (by kernel_rfl) (by kernel_rfl) ?hq_7 ?hw_7 ?hy_7 (by assumption) ?rest_7
            case hi_7 => (simp only [List.getElem?_toArray, List.getElem?_cons_succ, List.getElem?_cons_zero]; rfl)
            case hq_7 => exact fun _ _ _ h => h
            case hw_7 => rfl
            case hy_7 => (intro w' hSw; (try dsimp only at hSw); go_simp; first | done | with_reducible rfl)
            try simp only [Act.put, List.setIfInBounds_toArray, List.set_cons_zero, List.set_cons_succ]
            refine take_one (i := 10) (oi := ?oi_8) (v := ?v_8) ?hi_8 (by kernel_rfl) (by kernel_rfl) (by kernel_rfl) ?hq_8 ?hw_8 ?hy_8 (by assumption) ?rest_8
            case hi_8 => (simp only [List.getElem?_toArray, List.getElem?_cons_succ, List.getElem?_cons_zero]; rfl)
            case hq_8 => exact fun _ _ _ h => h
            case hw_8 => rfl
            case hy_8 => (intro w' hSw; (try dsimp only at hSw); go_simp; first | done | with_reducible rfl)
            try simp only [Act.put, List.setIfInBounds_toArray, List.set_cons_zero, List.set_cons_succ]
            refine take_one (i := 11) (oi := ?oi_9) (v := ?v_9) ?hi_9 (by kernel_rfl) (by kernel_rfl) (by kernel_rfl) ?hq_9 ?hw_9 ?hy_9 (by assumption) ?rest_9
            case hi_9 => (simp only [List.getElem?_toArray, List.getElem?_cons_succ, List.getElem?_cons_zero]; rfl)
            case hq_9 => exact fun _ _ _ h => h
            case hw_9 => rfl
            case hy_9 => (intro w' hSw; (try dsimp only at hSw); go_simp; first | done | with_reducible rfl)
            try simp only [Act.put, List.setIfInBounds_toArray, List.set_cons_zero, List.set_cons_succ]
            refine take_one (i := 14) (oi := ?oi_10) (v := ?v_10) ?hi_10 (by kernel_rfl) (by kernel_rfl) (by kernel_rfl) ?hq_10 ?hw_10 ?hy_10 (by assumption) ?rest_10
            case hi_10 => (simp only [List.getElem?_toArray, List.getElem?_cons_succ, List.getElem?_cons_zero]; rfl)
            case hq_10 => exact fun _ _ _ h => h
            case hw_10 => rfl
            case hy_10 => (intro w' hSw; (try dsimp only at hSw); go_simp; first | done | with_reducible rfl)
            try simp only [Act.put, List.setIfInBounds_toArray, List.set_cons_zero, List.set_cons_succ]
            refine take_one (i := 15) (oi := ?oi_11) (v := ?v_11) ?hi_11 (by kernel_rfl) (by kernel_rfl) (by kernel_rfl) ?hq_11 ?hw_11 ?hy_11 (by assumption) ?rest_11
            case hi_11 => (simp only [List.getElem?_toArray, List.getElem?_cons_succ, List.getElem?_cons_zero]; rfl)
            case hq_11 => exact fun _ _ _ h => h
            case hw_11 => rfl
            case hy_11 => (intro w' hSw; (try dsimp only at hSw); go_simp; first | done | with_reducible rfl)
            try simp only [Act.put, List.setIfInBounds_toArray, List.set_cons_zero, List.set_cons_succ]
            refine wpAnyH_ready (rs := [5, 12]) (by kernel_rfl) (by simp) ?_
            refine AllReadyH.cons (i := 5) (o := ?o_12_0) ?h_12_0 (fun K hK => ?_) (AllReadyH.cons (i := 12) (o := ?o_12_1) ?h_12_1 (fun K hK => ?_) AllReadyH.nil)
            case h_12_0 => (simp only [List.getElem?_toArray, List.getElem?_cons_succ, List.getElem?_cons_zero]; rfl)
            case h_12_1 => (simp only [List.getElem?_toArray, List.getElem?_cons_succ, List.getElem?_cons_zero]; rfl)
            · as_aux_lemma =>
                go_simp
                refine hK.out _ _ (by (with_reducible first | assumption | exact S0 | exact S1 _ | exact SD2 _ _ | exact S4 _ _ _ _ _ _ _ _ _ _)) (fun hHeld => ?_)
                clear hK K
                try simp only [Act.put, List.setIfInBounds_toArray, List.set_cons_zero, List.set_cons_succ]
                refine wpAnyH_ready (rs := [6, 12]) (by kernel_rfl) (by simp) ?_
                refine AllReadyH.cons (i := 6) (o := ?o_13_0) ?h_13_0 (fun K hK => ?_) (AllReadyH.cons (i := 12) (o := ?o_13_1) ?h_13_1 (fun K hK => ?_) AllReadyH.nil)
                case h_13_0 => (simp only [List.getElem?_toArray, List.getElem?_cons_succ, List.getElem?_cons_zero]; rfl)
                case h_13_1 => (simp only [List.getElem?_toArray, List.getElem?_cons_succ, List.getElem?_cons_zero]; rfl)
                · as_aux_lemma =>
                    go_simp
                    (first | (go_at_call 47; refine (CA _ ?_ _ _ ?_).mono ?_; (decide); (focus (simp; done)); rintro en w' ⟨rfl, rfl⟩) | (go_at_call 47; refine (CB _ ?_ _ _ _ ?_).mono ?_; (decide); (focus (simp; done)); rintro en w' ⟨rfl, rfl⟩) | (go_at_call 50; refine (CC _ _ _ ?_ ?_).mono ?_; (omega); (omega); rintro en w' ⟨rfl, rfl⟩))
                    try dsimp only
                    refine hK.out _ _ (by (with_reducible first | assumption | exact S0 | exact S1 _ | exact SD2 _ _ | exact S4 _ _ _ _ _ _ _ _ _ _)) (fun hHeld => ?_)
                    clear hK K
                    try simp only [Act.put, List.setIfInBounds_toArray, List.set_cons_zero, List.set_cons_succ]
                    refine wpAnyH_ready (rs := [8, 12]) (by kernel_rfl) (by simp) ?_
                    refine AllReadyH.cons (i := 8) (o := ?o_14_0) ?h_14_0 (fun K hK => ?_) (AllReadyH.cons (i := 12) (o := ?o_14_1) ?h_14_1 (fun K hK => ?_) AllReadyH.nil)
                    case h_14_0 => (simp only [List.getElem?_toArray, List.getElem?_cons_succ, List.getElem?_cons_zero]; rfl)
                    case h_14_1 => (simp only [List.getElem?_toArray, List.getElem?_cons_succ, List.getElem?_cons_zero]; rfl)
                    · as_aux_lemma =>
                        go_simp
                        (first | (go_at_call 47; refine (CA _ ?_ _ _ ?_).mono ?_; (decide); (focus (simp; done)); rintro en w' ⟨rfl, rfl⟩) | (go_at_call 47; refine (CB _ ?_ _ _ _ ?_).mono ?_; (decide); (focus (simp; done)); rintro en w' ⟨rfl, rfl⟩) | (go_at_call 50; refine (CC _ _ _ ?_ ?_).mono ?_; (omega); (omega); rintro en w' ⟨rfl, rfl⟩))
                        try dsimp only
                        refine hK.out _ _ (by (with_reducible first | assumption | exact S0 | exact S1 _ | exact SD2 _ _ | exact S4 _ _ _ _ _ _ _ _ _ _)) (fun hHeld => ?_)
                        clear hK K
                        try simp only [Act.put, List.setIfInBounds_toArray, List.set_cons_zero, List.set_cons_succ]
                        refine wpAnyH_ready (rs := [12]) (by kernel_rfl) (by simp) ?_
                        refine AllReadyH.cons (i := 12) (o := ?o_15) ?h_15 (fun K hK => ?_) AllReadyH.nil
                        case h_15 => (simp only [List.getElem?_toArray, List.getElem?_cons_succ, List.getElem?_cons_zero]; rfl)
                        go_simp
                        refine hK.out _ _ (by (with_reducible first | assumption | exact S0 | exact S1 _ | exact SD2 _ _ | exact S4 _ _ _ _ _ _ _ _ _ _)) (fun hHeld => ?_)
                        clear hK K
                        try simp only [Act.put, List.setIfInBounds_toArray, List.set_cons_zero, List.set_cons_succ]
                        refine wpAnyH_ready (rs := [13]) (by kernel_rfl) (by simp) ?_
                        refine AllReadyH.cons (i := 13) (o := ?o_16) ?h_16 (fun K hK => ?_) AllReadyH.nil
                        case h_16 => (simp only [List.getElem?_toArray, List.getElem?_cons_succ, List.getElem?_cons_zero]; rfl)
                        go_simp
                        (first | (go_at_call 47; refine (CA _ ?_ _ _ ?_).mono ?_; (decide); (focus (simp; done)); rintro en w' ⟨rfl, rfl⟩) | (go_at_call 47; refine (CB _ ?_ _ _ _ ?_).mono ?_; (decide); (focus (simp; done)); rintro en w' ⟨rfl, rfl⟩) | (go_at_call 50; refine (CC _ _ _ ?_ ?_).mono ?_; (omega); (omega); rintro en w' ⟨rfl, rfl⟩))
                        try dsimp only
                        refine hK.out _ _ (by (with_reducible first | assumption | exact S0 | exact S1 _ | exact SD2 _ _ | exact S4 _ _ _ _ _ _ _ _ _ _)) (fun hHeld => ?_)
                        clear hK K
                        try simp only [Act.put, List.setIfInBounds_toArray, List.set_cons_zero, List.set_cons_succ]
                        refine wpAnyH_ready (rs := [16]) (by kernel_rfl) (by simp) ?_
                        refine AllReadyH.cons (i := 16) (o := ?o_17) ?h_17 (fun K hK => ?_) AllReadyH.nil
                        case h_17 => (simp only [List.getElem?_toArray, List.getElem?_cons_succ, List.getElem?_cons_zero]; rfl)
                        go_simp
                        (first | (go_at_call 47; refine (CA _ ?_ _ _ ?_).mono ?_; (decide); (focus (simp; done)); rintro en w' ⟨rfl, rfl⟩) | (go_at_call 47; refine (CB _ ?_ _ _ _ ?_).mono ?_; (decide); (focus (simp; done)); rintro en w' ⟨rfl, rfl⟩) | (go_at_call 50; refine (CC _ _ _ ?_ ?_).mono ?_; (omega); (omega); rintro en w' ⟨rfl, rfl⟩))
                        try dsimp only
                        refine hK.out _ _ (by (with_reducible first | assumption | exact S0 | exact S1 _ | exact SD2 _ _ | exact S4 _ _ _ _ _ _ _ _ _ _)) (fun hHeld => ?_)
                        clear hK K
                        try simp only [Act.put, List.setIfInBounds_toArray, List.set_cons_zero, List.set_cons_succ]
                        refine take_one (i := 17) (oi := ?oi_18) (v := ?v_18) ?hi_18 (by kernel_rfl) (by kernel_rfl) (by kernel_rfl) ?hq_18 ?hw_18 ?hy_18 (by assumption) ?rest_18
                        case hi_18 => (simp only [List.getElem?_toArray, List.getElem?_cons_succ, List.getElem?_cons_zero]; rfl)
                        case hq_18 => exact fun _ _ _ h => h
                        case hw_18 => rfl
                        case hy_18 => (intro w' hSw; (try dsimp only at hSw); go_simp; first | done | with_reducible rfl)
                        try simp only [Act.put, List.setIfInBounds_toArray, List.set_cons_zero, List.set_cons_succ]
                        refine take_one (i := 18) (oi := ?oi_19) (v := ?v_19) ?hi_19 (by kernel_rfl) (by kernel_rfl) (by kernel_rfl) ?hq_19 ?hw_19 ?hy_19 (by assumption) ?rest_19
                        case hi_19 => (simp only [List.getElem?_toArray, List.getElem?_cons_succ, List.getElem?_cons_zero]; rfl)
                        case hq_19 => exact fun _ _ _ h => h
                        case hw_19 => rfl
                        case hy_19 => (intro w' hSw; (try dsimp only at hSw); go_simp; first | done | with_reducible rfl)
                        try simp only [Act.put, List.setIfInBounds_toArray, List.set_cons_zero, List.set_cons_succ]
                        refine take_one (i := 19) (oi := ?oi_20) (v := ?v_20) ?hi_20 (by kernel_rfl) (by kernel_rfl) (by kernel_rfl) ?hq_20 ?hw_20 ?hy_20 (by assumption) ?rest_20
                        case hi_20 => (simp only [List.getElem?_toArray, List.getElem?_cons_succ, List.getElem?_cons_zero]; rfl)
                        case hq_20 => exact fun _ _ _ h => h
                        case hw_20 => rfl
                        case hy_20 => (intro w' hSw; (try dsimp only at hSw); go_simp; first | done | with_reducible rfl)
                        try simp only [Act.put, List.setIfInBounds_toArray, List.set_cons_zero, List.set_cons_succ]
                        refine wpAnyH_ready (rs := [20]) (by kernel_rfl) (by simp) ?_
                        refine AllReadyH.cons (i := 20) (o := ?o_21) ?h_21 (fun K hK => ?_) AllReadyH.nil
                        case h_21 => (simp only [List.getElem?_toArray, List.getElem?_cons_succ, List.getElem?_cons_zero]; rfl)
                        go_simp
                        refine hK.out _ _ (by (with_reducible first | assumption | exact S0 | exact S1 _ | exact SD2 _ _ | exact S4 _ _ _ _ _ _ _ _ _ _)) (fun hHeld => ?_)
                        clear hK K
                        try simp only [Act.put, List.setIfInBounds_toArray, List.set_cons_zero, List.set_cons_succ]
                        refine wpAnyH_done (by kernel_rfl) (NoPanic.normal ?_) _
                        go_wp2_with fail
                        go_meet
                        exact ⟨KF _ _, KG _ _, KQ _ _, KW _ _, KC _ _⟩
                    · as_aux_lemma =>
                        go_simp
                        refine hK.out _ _ (by (with_reducible first | assumption | exact S0 | exact S1 _ | exact SD2 _ _ | exact S4 _ _ _ _ _ _ _ _ _ _)) (fun hHeld => ?_)
                        clear hK K
                        try simp only [Act.put, List.setIfInBounds_toArray, List.set_cons_zero, List.set_cons_succ]
                        refine wpAnyH_ready (rs := [8]) (by kernel_rfl) (by simp) ?_
                        refine AllReadyH.cons (i := 8) (o := ?o_22) ?h_22 (fun K hK => ?_) AllReadyH.nil
                        case h_22 => (simp only [List.getElem?_toArray, List.getElem?_cons_succ, List.getElem?_cons_zero]; rfl)
                        go_simp
                        (first | (go_at_call 47; refine (CA _ ?_ _ _ ?_).mono ?_; (decide); (focus (simp; done)); rintro en w' ⟨rfl, rfl⟩) | (go_at_call 47; refine (CB _ ?_ _ _ _ ?_).mono ?_; (decide); (focus (simp; done)); rintro en w' ⟨rfl, rfl⟩) | (go_at_call 50; refine (CC _ _ _ ?_ ?_).mono ?_; (omega); (omega); rintro en w' ⟨rfl, rfl⟩))
                        try dsimp only
                        refine hK.out _ _ (by (with_reducible first | assumption | exact S0 | exact S1 _ | exact SD2 _ _ | exact S4 _ _ _ _ _ _ _ _ _ _)) (fun hHeld => ?_)
                        clear hK K
                        try simp only [Act.put, List.setIfInBounds_toArray, List.set_cons_zero, List.set_cons_succ]
                        refine wpAnyH_ready (rs := [13]) (by kernel_rfl) (by simp) ?_
                        refine AllReadyH.cons (i := 13) (o := ?o_23) ?h_23 (fun K hK => ?_) AllReadyH.nil
                        case h_23 => (simp only [List.getElem?_toArray, List.getElem?_cons_succ, List.getElem?_cons_zero]; rfl)
                        go_simp
                        (first | (go_at_call 47; refine (CA _ ?_ _ _ ?_).mono ?_; (decide); (focus (simp; done)); rintro en w' ⟨rfl, rfl⟩) | (go_at_call 47; refine (CB _ ?_ _ _ _ ?_).mono ?_; (decide); (focus (simp; done)); rintro en w' ⟨rfl, rfl⟩) | (go_at_call 50; refine (CC _ _ _ ?_ ?_).mono ?_; (omega); (omega); rintro en w' ⟨rfl, rfl⟩))
                        try dsimp only
                        refine hK.out _ _ (by (with_reducible first | assumption | exact S0 | exact S1 _ | exact SD2 _ _ | exact S4 _ _ _ _ _ _ _ _ _ _)) (fun hHeld => ?_)
                        clear hK K
                        try simp only [Act.put, List.setIfInBounds_toArray, List.set_cons_zero, List.set_cons_succ]
                        refine wpAnyH_ready (rs := [16]) (by kernel_rfl) (by simp) ?_
                        refine AllReadyH.cons (i := 16) (o := ?o_24) ?h_24 (fun K hK => ?_) AllReadyH.nil
                        case h_24 => (simp only [List.getElem?_toArray, List.getElem?_cons_succ, List.getElem?_cons_zero]; rfl)
                        go_simp
                        (first | (go_at_call 47; refine (CA _ ?_ _ _ ?_).mono ?_; (decide); (focus (simp; done)); rintro en w' ⟨rfl, rfl⟩) | (go_at_call 47; refine (CB _ ?_ _ _ _ ?_).mono ?_; (decide); (focus (simp; done)); rintro en w' ⟨rfl, rfl⟩) | (go_at_call 50; refine (CC _ _ _ ?_ ?_).mono ?_; (omega); (omega); rintro en w' ⟨rfl, rfl⟩))
                        try dsimp only
                        refine hK.out _ _ (by (with_reducible first | assumption | exact S0 | exact S1 _ | exact SD2 _ _ | exact S4 _ _ _ _ _ _ _ _ _ _)) (fun hHeld => ?_)
                        clear hK K
                        try simp only [Act.put, List.setIfInBounds_toArray, List.set_cons_zero, List.set_cons_succ]
                        refine take_one (i := 17) (oi := ?oi_25) (v := ?v_25) ?hi_25 (by kernel_rfl) (by kernel_rfl) (by kernel_rfl) ?hq_25 ?hw_25 ?hy_25 (by assumption) ?rest_25
                        case hi_25 => (simp only [List.getElem?_toArray, List.getElem?_cons_succ, List.getElem?_cons_zero]; rfl)
                        case hq_25 => exact fun _ _ _ h => h
                        case hw_25 => rfl
                        case hy_25 => (intro w' hSw; (try dsimp only at hSw); go_simp; first | done | with_reducible rfl)
                        try simp only [Act.put, List.setIfInBounds_toArray, List.set_cons_zero, List.set_cons_succ]
                        refine take_one (i := 18) (oi := ?oi_26) (v := ?v_26) ?hi_26 (by kernel_rfl) (by kernel_rfl) (by kernel_rfl) ?hq_26 ?hw_26 ?hy_26 (by assumption) ?rest_26
                        case hi_26 => (simp only [List.getElem?_toArray, List.getElem?_cons_succ, List.getElem?_cons_zero]; rfl)
                        case hq_26 => exact fun _ _ _ h => h
                        case hw_26 => rfl
                        case hy_26 => (intro w' hSw; (try dsimp only at hSw); go_simp; first | done | with_reducible rfl)
                        try simp only [Act.put, List.setIfInBounds_toArray, List.set_cons_zero, List.set_cons_succ]
                        refine take_one (i := 19) (oi := ?oi_27) (v := ?v_27) ?hi_27 (by kernel_rfl) (by kernel_rfl) (by kernel_rfl) ?hq_27 ?hw_27 ?hy_27 (by assumption) ?rest_27
                        case hi_27 => (simp only [List.getElem?_toArray, List.getElem?_cons_succ, List.getElem?_cons_zero]; rfl)
                        case hq_27 => exact fun _ _ _ h => h
                        case hw_27 => rfl
                        case hy_27 => (intro w' hSw; (try dsimp only at hSw); go_simp; first | done | with_reducible rfl)
                        try simp only [Act.put, List.setIfInBounds_toArray, List.set_cons_zero, List.set_cons_succ]
                        refine wpAnyH_ready (rs := [20]) (by kernel_rfl) (by simp) ?_
                        refine AllReadyH.cons (i := 20) (o := ?o_28) ?h_28 (fun K hK => ?_) AllReadyH.nil
                        case h_28 => (simp only [List.getElem?_toArray, List.getElem?_cons_succ, List.getElem?_cons_zero]; rfl)
                        go_simp
                        refine hK.out _ _ (by (with_reducible first | assumption | exact S0 | exact S1 _ | exact SD2 _ _ | exact S4 _ _ _ _ _ _ _ _ _ _)) (fun hHeld => ?_)
                        clear hK K
                        try simp only [Act.put, List.setIfInBounds_toArray, List.set_cons_zero, List.set_cons_succ]
                        refine wpAnyH_done (by kernel_rfl) (NoPanic.normal ?_) _
                        go_wp2_with fail
                        go_meet
                        exact ⟨KF _ _, KG _ _, KQ _ _, KW _ _, KC _ _⟩
                · as_aux_lemma =>
                    go_simp
                    refine hK.out _ _ (by (with_reducible first | assumption | exact S0 | exact S1 _ | exact SD2 _ _ | exact S4 _ _ _ _ _ _ _ _ _ _)) (fun hHeld => ?_)
                    clear hK K
                    try simp only [Act.put, List.setIfInBounds_toArray, List.set_cons_zero, List.set_cons_succ]
                    refine wpAnyH_ready (rs := [6]) (by kernel_rfl) (by simp) ?_
                    refine AllReadyH.cons (i := 6) (o := ?o_29) ?h_29 (fun K hK => ?_) AllReadyH.nil
                    case h_29 => (simp only [List.getElem?_toArray, List.getElem?_cons_succ, List.getElem?_cons_zero]; rfl)
                    go_simp
                    (first | (go_at_call 47; refine (CA _ ?_ _ _ ?_).mono ?_; (decide); (focus (simp; done)); rintro en w' ⟨rfl, rfl⟩) | (go_at_call 47; refine (CB _ ?_ _ _ _ ?_).mono ?_; (decide); (focus (simp; done)); rintro en w' ⟨rfl, rfl⟩) | (go_at_call 50; refine (CC _ _ _ ?_ ?_).mono ?_; (omega); (omega); rintro en w' ⟨rfl, rfl⟩))
                    try dsimp only
                    refine hK.out _ _ (by (with_reducible first | assumption | exact S0 | exact S1 _ | exact SD2 _ _ | exact S4 _ _ _ _ _ _ _ _ _ _)) (fun hHeld => ?_)
                    clear hK K
                    try simp only [Act.put, List.setIfInBounds_toArray, List.set_cons_zero, List.set_cons_succ]
                    refine wpAnyH_ready (rs := [8]) (by kernel_rfl) (by simp) ?_
                    refine AllReadyH.cons (i := 8) (o := ?o_30) ?h_30 (fun K hK => ?_) AllReadyH.nil
                    case h_30 => (simp only [List.getElem?_toArray, List.getElem?_cons_succ, List.getElem?_cons_zero]; rfl)
                    go_simp
                    (first | (go_at_call 47; refine (CA _ ?_ _ _ ?_).mono ?_; (decide); (focus (simp; done)); rintro en w' ⟨rfl, rfl⟩) | (go_at_call 47; refine (CB _ ?_ _ _ _ ?_).mono ?_; (decide); (focus (simp; done)); rintro en w' ⟨rfl, rfl⟩) | (go_at_call 50; refine (CC _ _ _ ?_ ?_).mono ?_; (omega); (omega); rintro en w' ⟨rfl, rfl⟩))
                    try dsimp only
                    refine hK.out _ _ (by (with_reducible first | assumption | exact S0 | exact S1 _ | exact SD2 _ _ | exact S4 _ _ _ _ _ _ _ _ _ _)) (fun hHeld => ?_)
                    clear hK K
                    try simp only [Act.put, List.setIfInBounds_toArray, List.set_cons_zero, List.set_cons_succ]
                    refine wpAnyH_ready (rs := [13]) (by kernel_rfl) (by simp) ?_
                    refine AllReadyH.cons (i := 13) (o := ?o_31) ?h_31 (fun K hK => ?_) AllReadyH.nil
                    case h_31 => (simp only [List.getElem?_toArray, List.getElem?_cons_succ, List.getElem?_cons_zero]; rfl)
                    go_simp
                    (first | (go_at_call 47; refine (CA _ ?_ _ _ ?_).mono ?_; (decide); (focus (simp; done)); rintro en w' ⟨rfl, rfl⟩) | (go_at_call 47; refine (CB _ ?_ _ _ _ ?_).mono ?_; (decide); (focus (simp; done)); rintro en w' ⟨rfl, rfl⟩) | (go_at_call 50; refine (CC _ _ _ ?_ ?_).mono ?_; (omega); (omega); rintro en w' ⟨rfl, rfl⟩))
                    try dsimp only
                    refine hK.out _ _ (by (with_reducible first | assumption | exact S0 | exact S1 _ | exact SD2 _ _ | exact S4 _ _ _ _ _ _ _ _ _ _)) (fun hHeld => ?_)
                    clear hK K
                    try simp only [Act.put, List.setIfInBounds_toArray, List.set_cons_zero, List.set_cons_succ]
                    refine wpAnyH_ready (rs := [16]) (by kernel_rfl) (by simp) ?_
                    refine AllReadyH.cons (i := 16) (o := ?o_32) ?h_32 (fun K hK => ?_) AllReadyH.nil
                    case h_32 => (simp only [List.getElem?_toArray, List.getElem?_cons_succ, List.getElem?_cons_zero]; rfl)
                    go_simp
                    (first | (go_at_call 47; refine (CA _ ?_ _ _ ?_).mono ?_; (decide); (focus (simp; done)); rintro en w' ⟨rfl, rfl⟩) | (go_at_call 47; refine (CB _ ?_ _ _ _ ?_).mono ?_; (decide); (focus (simp; done)); rintro en w' ⟨rfl, rfl⟩) | (go_at_call 50; refine (CC _ _ _ ?_ ?_).mono ?_; (omega); (omega); rintro en w' ⟨rfl, rfl⟩))
                    try dsimp only
                    refine hK.out _ _ (by (with_reducible first | assumption | exact S0 | exact S1 _ | exact SD2 _ _ | exact S4 _ _ _ _ _ _ _ _ _ _)) (fun hHeld => ?_)
                    clear hK K
                    try simp only [Act.put, List.setIfInBounds_toArray, List.set_cons_zero, List.set_cons_succ]
                    refine take_one (i := 17) (oi := ?oi_33) (v := ?v_33) ?hi_33 (by kernel_rfl) (by kernel_rfl) (by kernel_rfl) ?hq_33 ?hw_33 ?hy_33 (by assumption) ?rest_33
                    case hi_33 => (simp only [List.getElem?_toArray, List.getElem?_cons_succ, List.getElem?_cons_zero]; rfl)
                    case hq_33 => exact fun _ _ _ h => h
                    case hw_33 => rfl
                    case hy_33 => (intro w' hSw; (try dsimp only at hSw); go_simp; first | done | with_reducible rfl)
                    try simp only [Act.put, List.setIfInBounds_toArray, List.set_cons_zero, List.set_cons_succ]
                    refine take_one (i := 18) (oi := ?oi_34) (v := ?v_34) ?hi_34 (by kernel_rfl) (by kernel_rfl) (by kernel_rfl) ?hq_34 ?hw_34 ?hy_34 (by assumption) ?rest_34
                    case hi_34 => (simp only [List.getElem?_toArray, List.getElem?_cons_succ, List.getElem?_cons_zero]; rfl)
                    case hq_34 => exact fun _ _ _ h => h
                    case hw_34 => rfl
                    case hy_34 => (intro w' hSw; (try dsimp only at hSw); go_simp; first | done | with_reducible rfl)
                    try simp only [Act.put, List.setIfInBounds_toArray, List.set_cons_zero, List.set_cons_succ]
                    refine take_one (i := 19) (oi := ?oi_35) (v := ?v_35) ?hi_35 (by kernel_rfl) (by kernel_rfl) (by kernel_rfl) ?hq_35 ?hw_35 ?hy_35 (by assumption) ?rest_35
                    case hi_35 => (simp only [List.getElem?_toArray, List.getElem?_cons_succ, List.getElem?_cons_zero]; rfl)
                    case hq_35 => exact fun _ _ _ h => h
                    case hw_35 => rfl
                    case hy_35 => (intro w' hSw; (try dsimp only at hSw); go_simp; first | done | with_reducible rfl)
                    try simp only [Act.put, List.setIfInBounds_toArray, List.set_cons_zero, List.set_cons_succ]
                    refine wpAnyH_ready (rs := [20]) (by kernel_rfl) (by simp) ?_
                    refine AllReadyH.cons (i := 20) (o := ?o_36) ?h_36 (fun K hK => ?_) AllReadyH.nil
                    case h_36 => (simp only [List.getElem?_toArray, List.getElem?_cons_succ, List.getElem?_cons_zero]; rfl)
                    go_simp
                    refine hK.out _ _ (by (with_reducible first | assumption | exact S0 | exact S1 _ | exact SD2 _ _ | exact S4 _ _ _ _ _ _ _ _ _ _)) (fun hHeld => ?_)
                    clear hK K
                    try simp only [Act.put, List.setIfInBounds_toArray, List.set_cons_zero, List.set_cons_succ]
                    refine wpAnyH_done (by kernel_rfl) (NoPanic.normal ?_) _
                    go_wp2_with fail
                    go_meet
                    exact ⟨KF _ _, KG _ _, KQ _ _, KW _ _, KC _ _⟩
            · as_aux_lemma =>
                go_simp
                refine hK.out _ _ (by (with_reducible first | assumption | exact S0 | exact S1 _ | exact SD2 _ _ | exact S4 _ _ _ _ _ _ _ _ _ _)) (fun hHeld => ?_)
                clear hK K
                try simp only [Act.put, List.setIfInBounds_toArray, List.set_cons_zero, List.set_cons_succ]
                refine wpAnyH_ready (rs := [5]) (by kernel_rfl) (by simp) ?_
                refine AllReadyH.cons (i := 5) (o := ?o_37) ?h_37 (fun K hK => ?_) AllReadyH.nil
                case h_37 => (simp only [List.getElem?_toArray, List.getElem?_cons_succ, List.getElem?_cons_zero]; rfl)
                go_simp
                refine hK.out _ _ (by (with_reducible first | assumption | exact S0 | exact S1 _ | exact SD2 _ _ | exact S4 _ _ _ _ _ _ _ _ _ _)) (fun hHeld => ?_)
                clear hK K
                try simp only [Act.put, List.setIfInBounds_toArray, List.set_cons_zero, List.set_cons_succ]
                refine wpAnyH_ready (rs := [6]) (by kernel_rfl) (by simp) ?_
                refine AllReadyH.cons (i := 6) (o := ?o_38) ?h_38 (fun K hK => ?_) AllReadyH.nil
                case h_38 => (simp only [List.getElem?_toArray, List.getElem?_cons_succ, List.getElem?_cons_zero]; rfl)
                go_simp
                (first | (go_at_call 47; refine (CA _ ?_ _ _ ?_).mono ?_; (decide); (focus (simp; done)); rintro en w' ⟨rfl, rfl⟩) | (go_at_call 47; refine (CB _ ?_ _ _ _ ?_).mono ?_; (decide); (focus (simp; done)); rintro en w' ⟨rfl, rfl⟩) | (go_at_call 50; refine (CC _ _ _ ?_ ?_).mono ?_; (omega); (omega); rintro en w' ⟨rfl, rfl⟩))
                try dsimp only
                refine hK.out _ _ (by (with_reducible first | assumption | exact S0 | exact S1 _ | exact SD2 _ _ | exact S4 _ _ _ _ _ _ _ _ _ _)) (fun hHeld => ?_)
                clear hK K
                try simp only [Act.put, List.setIfInBounds_toArray, List.set_cons_zero, List.set_cons_succ]
                refine wpAnyH_ready (rs := [8]) (by kernel_rfl) (by simp) ?_
                refine AllReadyH.cons (i := 8) (o := ?o_39) ?h_39 (fun K hK => ?_) AllReadyH.nil
                case h_39 => (simp only [List.getElem?_toArray, List.getElem?_cons_succ, List.getElem?_cons_zero]; rfl)
                go_simp
                (first | (go_at_call 47; refine (CA _ ?_ _ _ ?_).mono ?_; (decide); (focus (simp; done)); rintro en w' ⟨rfl, rfl⟩) | (go_at_call 47; refine (CB _ ?_ _ _ _ ?_).mono ?_; (decide); (focus (simp; done)); rintro en w' ⟨rfl, rfl⟩) | (go_at_call 50; refine (CC _ _ _ ?_ ?_).mono ?_; (omega); (omega); rintro en w' ⟨rfl, rfl⟩))
                try dsimp only
                refine hK.out _ _ (by (with_reducible first | assumption | exact S0 | exact S1 _ | exact SD2 _ _ | exact S4 _ _ _ _ _ _ _ _ _ _)) (fun hHeld => ?_)
                clear hK K
                try simp only [Act.put, List.setIfInBounds_toArray, List.set_cons_zero, List.set_cons_succ]
                refine wpAnyH_ready (rs := [13]) (by kernel_rfl) (by simp) ?_
                refine AllReadyH.cons (i := 13) (o := ?o_40) ?h_40 (fun K hK => ?_) AllReadyH.nil
                case h_40 => (simp only [List.getElem?_toArray, List.getElem?_cons_succ, List.getElem?_cons_zero]; rfl)
                go_simp
                (first | (go_at_call 47; refine (CA _ ?_ _ _ ?_).mono ?_; (decide); (focus (simp; done)); rintro en w' ⟨rfl, rfl⟩) | (go_at_call 47; refine (CB _ ?_ _ _ _ ?_).mono ?_; (decide); (focus (simp; done)); rintro en w' ⟨rfl, rfl⟩) | (go_at_call 50; refine (CC _ _ _ ?_ ?_).mono ?_; (omega); (omega); rintro en w' ⟨rfl, rfl⟩))
                try dsimp only
                refine hK.out _ _ (by (with_reducible first | assumption | exact S0 | exact S1 _ | exact SD2 _ _ | exact S4 _ _ _ _ _ _ _ _ _ _)) (fun hHeld => ?_)
                clear hK K
                try simp only [Act.put, List.setIfInBounds_toArray, List.set_cons_zero, List.set_cons_succ]
                refine wpAnyH_ready (rs := [16]) (by kernel_rfl) (by simp) ?_
                refine AllReadyH.cons (i := 16) (o := ?o_41) ?h_41 (fun K hK => ?_) AllReadyH.nil
                case h_41 => (simp only [List.getElem?_toArray, List.getElem?_cons_succ, List.getElem?_cons_zero]; rfl)
                go_simp
                (first | (go_at_call 47; refine (CA _ ?_ _ _ ?_).mono ?_; (decide); (focus (simp; done)); rintro en w' ⟨rfl, rfl⟩) | (go_at_call 47; refine (CB _ ?_ _ _ _ ?_).mono ?_; (decide); (focus (simp; done)); rintro en w' ⟨rfl, rfl⟩) | (go_at_call 50; refine (CC _ _ _ ?_ ?_).mono ?_; (omega); (omega); rintro en w' ⟨rfl, rfl⟩))
                try dsimp only
                refine hK.out _ _ (by (with_reducible first | assumption | exact S0 | exact S1 _ | exact SD2 _ _ | exact S4 _ _ _ _ _ _ _ _ _ _)) (fun hHeld => ?_)
                clear hK K
                try simp only [Act.put, List.setIfInBounds_toArray, List.set_cons_zero, List.set_cons_succ]
                refine take_one (i := 17) (oi := ?oi_42) (v := ?v_42) ?hi_42 (by kernel_rfl) (by kernel_rfl) (by kernel_rfl) ?hq_42 ?hw_42 ?hy_42 (by assumption) ?rest_42
                case hi_42 => (simp only [List.getElem?_toArray, List.getElem?_cons_succ, List.getElem?_cons_zero]; rfl)
                case hq_42 => exact fun _ _ _ h => h
                case hw_42 => rfl
                case hy_42 => (intro w' hSw; (try dsimp only at hSw); go_simp; first | done | with_reducible rfl)
                try simp only [Act.put, List.setIfInBounds_toArray, List.set_cons_zero, List.set_cons_succ]
                refine take_one (i := 18) (oi := ?oi_43) (v := ?v_43) ?hi_43 (by kernel_rfl) (by kernel_rfl) (by kernel_rfl) ?hq_43 ?hw_43 ?hy_43 (by assumption) ?rest_43
                case hi_43 => (simp only [List.getElem?_toArray, List.getElem?_cons_succ, List.getElem?_cons_zero]; rfl)
                case hq_43 => exact fun _ _ _ h => h
                case hw_43 => rfl
                case hy_43 => (intro w' hSw; (try dsimp only at hSw); go_simp; first | done | with_reducible rfl)
                try simp only [Act.put, List.setIfInBounds_toArray, List.set_cons_zero, List.set_cons_succ]
                refine take_one (i := 19) (oi := ?oi_44) (v := ?v_44) ?hi_44 (by kernel_rfl) (by kernel_rfl) (by kernel_rfl) ?hq_44 ?hw_44 ?hy_44 (by assumption) ?rest_44
                case hi_44 => (simp only [List.getElem?_toArray, List.getElem?_cons_succ, List.getElem?_cons_zero]; rfl)
                case hq_44 => exact fun _ _ _ h => h
                case hw_44 => rfl
                case hy_44 => (intro w' hSw; (try dsimp only at hSw); go_simp; first | done | with_reducible rfl)
                try simp only [Act.put, List.setIfInBounds_toArray, List.set_cons_zero, List.set_cons_succ]
                refine wpAnyH_ready (rs := [20]) (by kernel_rfl) (by simp) ?_
                refine AllReadyH.cons (i := 20) (o := ?o_45) ?h_45 (fun K hK => ?_) AllReadyH.nil
                case h_45 => (simp only [List.getElem?_toArray, List.getElem?_cons_succ, List.getElem?_cons_zero]; rfl)
                go_simp
                refine hK.out _ _ (by (with_reducible first | assumption | exact S0 | exact S1 _ | exact SD2 _ _ | exact S4 _ _ _ _ _ _ _ _ _ _)) (fun hHeld => ?_)
                clear hK K
                try simp only [Act.put, List.setIfInBounds_toArray, List.set_cons_zero, List.set_cons_succ]
                refine wpAnyH_done (by kernel_rfl) (NoPanic.normal ?_) _
                go_wp2_with fail
                go_meet
                exact ⟨KF _ _, KG _ _, KQ _ _, KW _ _, KC _ _⟩
          case rest =>
            obtain ⟨hF2, hG2, hQ2, hW2, hc1⟩ := hcut
            clear R0 R1 R2 R3 T0 T1 T2 T3 Z Z2 S0 S1 SD2 S4 CA CB CC KF KG KQ KW KC
            go_wp2
            go_roundg (n - (i + 1))
            case measure => omega
            case rel => exact ⟨i + 1, by omega, rfl, by go_num, by rw [HHS.out], hF2, hG2, hQ2, hW2⟩
        · obtain rfl : i = n := by omega
          have hll := hlen.out
          have hF2 : wr.rowIs gr 101 (i * 4) (rowF (ringRows seed k l) (fun _ => 0) (fun _ => 0)) := hF.congr (fun j hj => by
            have := rowsTo_all seed k l j (by rw [hll]; exact hj)
            rw [hll] at this
            exact this)
          have hqr : gl + 1 ≠ gr := fun e => row_blk hF hQ (by decide) e.symm
          obtain ⟨H, hH⟩ : ∃ H, H = heavyTo l i := ⟨_, rfl⟩
          rw [← hH] at hh0 hh1 ⊢
          by_cases hpos : 0 < H
          · have g1 : decide (0 < H) = true := decide_eq_true hpos
            obtain ⟨i0, hi0, hw0⟩ := heavyTo_some l i (by rw [← hH]; exact hpos)
            have hRR := ring_RR (seed := seed) HP.out
            rw [hll] at hRR
            have hRh : (ringRows seed k l).heavy = H := by rw [hH, ← hll]; rfl
            have HO := Lib.hid (show ringOut seed k l = (roundsR (ringRows seed k l) i (rs0 k) k).out by unfold ringOut; rw [hll, if_pos (by rw [← hH]; exact hpos)])
            have hfill := ring_fill wr (gl + 1) gr gl i (ringRows seed k l) A c l (hl.keep hW) (fun j _ => rfl) (fun ad e => by
              obtain ⟨ad', e', hb, _⟩ := hl.cells (by omega)
              obtain rfl : ad = ad' := by rw [e] at e'; injection e'
              omega) hQ hqr (by omega) ⟨hF2, hG, Mod.refl _ _⟩ hRR hp1 (by rw [hRh]; exact hpos) (by rw [hRh]; exact hh1) (by omega) hi0 (by rw [hRh, hH]; exact hw0)
            rw [hRh] at hfill
            have hk1 : (ringRows seed k l).p = k := rfl
            rw [hk1] at hfill
            clear hk1 hRh hRR hpos hH hF hF2 hw0
            go_wp2_with fail
            refine hfill.mono ?_; rintro e w5 ⟨rfl, hO, hM⟩
            have hQ5 := hQ.mod hM (fun h => h.elim (fun e => hqr e) (by omega))
            have hW5 : Below w.heap.size w w5 := below_thenMod hW (Nat.le_refl _) hM (fun k hk => by rcases hk with rfl | rfl <;> omega)
            clear hfill hM hQ hG hW
            go_wp2
            exact bodyPost_ret (results_tmp2 (t := 6) (u := 7) rfl _ _ _) rfl ⟨⟨gl + 1, gl, rfl, hQ5, by rw [HO.out]; exact hO⟩, hW5⟩
          · have g1 : decide (0 < H) = false := decide_eq_false hpos
            have HO := Lib.hid (show ringOut seed k l = fun _ => -1 by unfold ringOut; rw [hll, if_neg (by rw [← hH]; exact hpos)])
            clear hpos hH hF hF2
            go_wp2
            exact bodyPost_ret (results_tmp2 (t := 6) (u := 7) rfl _ _ _) rfl ⟨⟨gl + 1, gl, rfl, hQ, by rw [HO.out]; exact hG⟩, hW⟩
end Go.Proofs.Ytpedhlmcgilliaa
