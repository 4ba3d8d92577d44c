/- Lemmas for the claim's proof: TreeC TreeD TreeE QTail. -/
import Derived.StillTail
import Derived.Test.YtceekfbhkenniaaQ04
section
/- tree.right, whole. (Written by gen_treec.py.) -/
set_option linter.unusedVariables false
namespace Go.Proofs.Ytceekfbhkenniaa
open Go.RowKit
set_option maxHeartbeats 4000000
set_option maxRecDepth 100000
theorem right_late1 (x : Nd) (hx : x.Wf) (A : Option Addr) (n c : Nat) (l : List Nd) (w : World) (hl : IsNodes w A n c l) (h : headC x l = 0) (hk1 : x.kind = 1) :
    Calls Try.prog 42 #[.agg #[.string x.name, .int .i64 x.kind, .int .i64 x.above, .int .i64 x.weight, .bool x.six, .int .u64 x.hi, .int .u64 x.lo], .slice A n c] w fun e w' => e = .returned (.int .i64 (rightC x l)) ∧ Below w.heap.size w w' := by
  have HK := headC_zero h
  have HR8 := Lib.hid (fun h2 => rightC_twice h h2)
  have HR0 := Lib.hid (fun h2 => rightC_zero h h2)
  have HT := Lib.hid (fun k hk h1 h2 => any_take_step (x := x) (l := l) (k := k) hk h1 h2)
  have HA := Lib.hid (fun k hk h2 => any_at (x := x) (l := l) (k := k) hk h2)
  clear h
  obtain ⟨s, kd, ab, wt, six, hi, lo⟩ := x
  obtain ⟨hs, b1, b2, b3, b4, b5, b6, b7, b8, b9, b10⟩ := hx
  obtain ⟨q1, q2, q3, q4, q5, q6, q7, q8, q9⟩ := HK
  dsimp only at *
  subst hk1
  obtain ⟨rfl, rfl⟩ := q6 rfl
  obtain ⟨rfl, rfl, rfl⟩ := q9 (by decide)
  clear q6 q7 q9 q2 q3 q4 q5
  have hcap := hl.cap
  have hsm := hl.small
  have hlen := Lib.hid hl.len
  have A0 := fun w => tree_Name s w hs
  have P := Blk.new w 27 #[.string s, .int .i64 1, .int .i64 (-1), .int .i64 0, .bool false, .int .u64 0, .int .u64 0]
  have hW : Below w.heap.size w (w.alloc (.cells #[.string s, .int .i64 1, .int .i64 (-1), .int .i64 0, .bool false, .int .u64 0, .int .u64 0] 27)) := (Below.refl _ _).alloc (Nat.le_refl _) _
  go_enter Try.func42, Try.ntmps42
  go_wp2_with ((go_at_call 49; refine (A0 _).mono ?_; rintro e w1 ⟨rfl, rfl⟩))
  generalize w.alloc (.cells #[.string s, .int .i64 1, .int .i64 (-1), .int .i64 0, .bool false, .int .u64 0, .int .u64 0] 27) = u at *
  obtain ⟨p0, p1, p2, p3, p4, p5, p6, _⟩ := P.cells7
  have U1 := cell_under p1
  have U2 := cell_under p2
  refine wp_region_quiet_under (by kernel_rfl) (by kernel_rfl) ?_
  repeat (go_big_quiet_step ((fail)))
  refine wpQuiet_nil ?_
  intro wu hw'
  obtain ⟨pq, hw''⟩ := hw'
  have hU := below_eq hw''
  clear hw'' pq
  have P1 := P.keep hU
  have hW1 := below_keep hW (hU.mono (Nat.le_refl _))
  clear P hW hU U1 U2 p0 p1 p2 p3 p4 p5 p6
  obtain ⟨p0, p1, p2, p3, p4, p5, p6, _⟩ := P1.cells7
  go_wp2_with fail
  refine (addr_Right _ _ _ _).mono ?_; rintro e w1 ⟨rfl, hx⟩
  have P2 := P1.keep hx
  have hW2 := below_step hW1 hx
  clear P1 hW1 hx p0 p1 p2 p3 p4 p5 p6
  obtain ⟨p0, p1, p2, p3, p4, p5, p6, _⟩ := P2.cells7
  go_wp2_with fail
  go_loopg [99] n (fun gk s99 wr => ∃ k : Nat, k ≤ n ∧ gk = n - k ∧ s99 = .int .i64 k ∧ Hid ((l.take k).any (twice ⟨s, 1, (-1), 0, false, 0, 0⟩) = false) ∧ Blk wr w.heap.size 27 #[.string s, .int .i64 1, .int .i64 (-1), .int .i64 0, .bool false, .int .u64 0, .int .u64 0] ∧ Below w.heap.size w wr)
  case atStart => exact ⟨0, Nat.zero_le _, rfl, rfl, Lib.hid rfl, P2, hW2⟩
  case round =>
    clear P2 hW2 p0 p1 p2 p3 p4 p5 p6
    obtain ⟨k, hk, rfl, rfl, ha, P3, hW3⟩ := hrel
    by_cases hlt : k < n
    · obtain ⟨ad', e', hbk', c0, c1, c2, c3, c4, c5, c6⟩ := (hl.keep hW3).at_ hlt
      subst e'
      have hki : (k : Int) < (n : Int) := by omega
      have HT2 := Lib.hid (HT.out k (by rw [hlen.out]; exact hlt) ha.out)
      have HA2 := Lib.hid (HA.out k (by rw [hlen.out]; exact hlt))
      clear HT HA
      generalize l.getD k nd0 = y at *
      obtain ⟨ys, yk, ya, yw, y6, yh, yl⟩ := y
      dsimp only at *
      obtain ⟨p0, p1, p2, p3, p4, p5, p6, _⟩ := P3.cells7
      have p0 := fun o : Obj => cell_alloc p0 o
      have p1 := fun o : Obj => cell_alloc p1 o
      have p2 := fun o : Obj => cell_alloc p2 o
      have p3 := fun o : Obj => cell_alloc p3 o
      have p4 := fun o : Obj => cell_alloc p4 o
      have p5 := fun o : Obj => cell_alloc p5 o
      have p6 := fun o : Obj => cell_alloc p6 o
      go_wp2
      all_goals first
        | (go_ret
           exact ⟨ret_int (HR8.out (HA2.out (by unfold twice sameName sameAddr; dsimp only; grind))).symm, hW3.alloc hW3.size _⟩)
        | (have HS := Lib.hid (HT2.out (by unfold twice sameName sameAddr; dsimp only; grind))
           go_roundg (n - (k + 1))
           case measure => omega
           case rel => exact ⟨k + 1, by omega, rfl, by go_num, HS, P3.alloc _, hW3.alloc hW3.size _⟩)
        | (exfalso; grind)
    · obtain rfl : k = n := by omega
      have HN := Lib.hid (HR0.out (by have := ha.out; rwa [List.take_of_length_le (by rw [hlen.out]; exact Nat.le_refl _)] at this))
      go_wp2
      go_ret
      exact ⟨by rw [HN.out]; rfl, hW3⟩
theorem right_late2 (x : Nd) (hx : x.Wf) (A : Option Addr) (n c : Nat) (l : List Nd) (w : World) (hl : IsNodes w A n c l) (h : headC x l = 0) (hk1 : x.kind = 2) :
    Calls Try.prog 42 #[.agg #[.string x.name, .int .i64 x.kind, .int .i64 x.above, .int .i64 x.weight, .bool x.six, .int .u64 x.hi, .int .u64 x.lo], .slice A n c] w fun e w' => e = .returned (.int .i64 (rightC x l)) ∧ Below w.heap.size w w' := by
  have HK := headC_zero h
  have HR8 := Lib.hid (fun h2 => rightC_twice h h2)
  have HR0 := Lib.hid (fun h2 => rightC_zero h h2)
  have HT := Lib.hid (fun k hk h1 h2 => any_take_step (x := x) (l := l) (k := k) hk h1 h2)
  have HA := Lib.hid (fun k hk h2 => any_at (x := x) (l := l) (k := k) hk h2)
  clear h
  obtain ⟨s, kd, ab, wt, six, hi, lo⟩ := x
  obtain ⟨hs, b1, b2, b3, b4, b5, b6, b7, b8, b9, b10⟩ := hx
  obtain ⟨q1, q2, q3, q4, q5, q6, q7, q8, q9⟩ := HK
  dsimp only at *
  subst hk1
  obtain ⟨r1, r2, r3⟩ := q7 (by decide)
  obtain ⟨rfl, rfl, rfl⟩ := q9 (by decide)
  rw [hl.len] at r2
  clear q6 q7 q9 q2 q3
  have hcap := hl.cap
  have hsm := hl.small
  have hlen := Lib.hid hl.len
  have A0 := fun w => tree_Name s w hs
  have P := Blk.new w 27 #[.string s, .int .i64 2, .int .i64 ab, .int .i64 wt, .bool false, .int .u64 0, .int .u64 0]
  have hW : Below w.heap.size w (w.alloc (.cells #[.string s, .int .i64 2, .int .i64 ab, .int .i64 wt, .bool false, .int .u64 0, .int .u64 0] 27)) := (Below.refl _ _).alloc (Nat.le_refl _) _
  obtain ⟨ad, rfl, hbk, hat⟩ := hl.at_ (k := ab.toNat) (by omega)
  have U3 := cell_under (cell_alloc hat.kind (.cells #[.string s, .int .i64 2, .int .i64 ab, .int .i64 wt, .bool false, .int .u64 0, .int .u64 0] 27))
  rw [r3] at U3
  clear hat r3
  go_enter Try.func42, Try.ntmps42
  go_wp2_with ((go_at_call 49; refine (A0 _).mono ?_; rintro e w1 ⟨rfl, rfl⟩))
  generalize w.alloc (.cells #[.string s, .int .i64 2, .int .i64 ab, .int .i64 wt, .bool false, .int .u64 0, .int .u64 0] 27) = u at *
  obtain ⟨p0, p1, p2, p3, p4, p5, p6, _⟩ := P.cells7
  have U1 := cell_under p1
  have U2 := cell_under p2
  refine wp_region_quiet_under (by kernel_rfl) (by kernel_rfl) ?_
  repeat (go_big_quiet_step ((fail)))
  refine wpQuiet_nil ?_
  intro wu hw'
  obtain ⟨pq, hw''⟩ := hw'
  have hU := below_eq hw''
  clear hw'' pq
  have P1 := P.keep hU
  have hW1 := below_keep hW (hU.mono (Nat.le_refl _))
  clear P hW hU U1 U2 p0 p1 p2 p3 p4 p5 p6
  obtain ⟨p0, p1, p2, p3, p4, p5, p6, _⟩ := P1.cells7
  go_wp2_with fail
  refine (addr_Right _ _ _ _).mono ?_; rintro e w1 ⟨rfl, hx⟩
  have P2 := P1.keep hx
  have hW2 := below_step hW1 hx
  clear P1 hW1 hx p0 p1 p2 p3 p4 p5 p6
  obtain ⟨p0, p1, p2, p3, p4, p5, p6, _⟩ := P2.cells7
  go_wp2_with fail
  go_loopg [99] n (fun gk s99 wr => ∃ k : Nat, k ≤ n ∧ gk = n - k ∧ s99 = .int .i64 k ∧ Hid ((l.take k).any (twice ⟨s, 2, ab, wt, false, 0, 0⟩) = false) ∧ Blk wr w.heap.size 27 #[.string s, .int .i64 2, .int .i64 ab, .int .i64 wt, .bool false, .int .u64 0, .int .u64 0] ∧ Below w.heap.size w wr)
  case atStart => exact ⟨0, Nat.zero_le _, rfl, rfl, Lib.hid rfl, P2, hW2⟩
  case round =>
    clear P2 hW2 p0 p1 p2 p3 p4 p5 p6
    obtain ⟨k, hk, rfl, rfl, ha, P3, hW3⟩ := hrel
    by_cases hlt : k < n
    · obtain ⟨ad', e', hbk', c0, c1, c2, c3, c4, c5, c6⟩ := (hl.keep hW3).at_ hlt
      obtain rfl : ad' = ad := by injection e' with e'; exact e'.symm
      have hki : (k : Int) < (n : Int) := by omega
      have HT2 := Lib.hid (HT.out k (by rw [hlen.out]; exact hlt) ha.out)
      have HA2 := Lib.hid (HA.out k (by rw [hlen.out]; exact hlt))
      clear HT HA
      generalize l.getD k nd0 = y at *
      obtain ⟨ys, yk, ya, yw, y6, yh, yl⟩ := y
      dsimp only at *
      obtain ⟨p0, p1, p2, p3, p4, p5, p6, _⟩ := P3.cells7
      have p0 := fun o : Obj => cell_alloc p0 o
      have p1 := fun o : Obj => cell_alloc p1 o
      have p2 := fun o : Obj => cell_alloc p2 o
      have p3 := fun o : Obj => cell_alloc p3 o
      have p4 := fun o : Obj => cell_alloc p4 o
      have p5 := fun o : Obj => cell_alloc p5 o
      have p6 := fun o : Obj => cell_alloc p6 o
      go_wp2
      all_goals first
        | (go_ret
           exact ⟨ret_int (HR8.out (HA2.out (by unfold twice sameName sameAddr; dsimp only; grind))).symm, hW3.alloc hW3.size _⟩)
        | (have HS := Lib.hid (HT2.out (by unfold twice sameName sameAddr; dsimp only; grind))
           go_roundg (n - (k + 1))
           case measure => omega
           case rel => exact ⟨k + 1, by omega, rfl, by go_num, HS, P3.alloc _, hW3.alloc hW3.size _⟩)
        | (exfalso; grind)
    · obtain rfl : k = n := by omega
      have HN := Lib.hid (HR0.out (by have := ha.out; rwa [List.take_of_length_le (by rw [hlen.out]; exact Nat.le_refl _)] at this))
      go_wp2
      go_ret
      exact ⟨by rw [HN.out]; rfl, hW3⟩
theorem right_late3 (x : Nd) (hx : x.Wf) (A : Option Addr) (n c : Nat) (l : List Nd) (w : World) (hl : IsNodes w A n c l) (h : headC x l = 0) (hk1 : x.kind = 3) :
    Calls Try.prog 42 #[.agg #[.string x.name, .int .i64 x.kind, .int .i64 x.above, .int .i64 x.weight, .bool x.six, .int .u64 x.hi, .int .u64 x.lo], .slice A n c] w fun e w' => e = .returned (.int .i64 (rightC x l)) ∧ Below w.heap.size w w' := by
  have HK := headC_zero h
  have HR8 := Lib.hid (fun h2 => rightC_twice h h2)
  have HR0 := Lib.hid (fun h2 => rightC_zero h h2)
  have HT := Lib.hid (fun k hk h1 h2 => any_take_step (x := x) (l := l) (k := k) hk h1 h2)
  have HA := Lib.hid (fun k hk h2 => any_at (x := x) (l := l) (k := k) hk h2)
  clear h
  obtain ⟨s, kd, ab, wt, six, hi, lo⟩ := x
  obtain ⟨hs, b1, b2, b3, b4, b5, b6, b7, b8, b9, b10⟩ := hx
  obtain ⟨q1, q2, q3, q4, q5, q6, q7, q8, q9⟩ := HK
  dsimp only at *
  subst hk1
  obtain ⟨r1, r2, r3⟩ := q7 (by decide)
  obtain ⟨rfl, rfl, rfl⟩ := q9 (by decide)
  rw [hl.len] at r2
  clear q6 q7 q9 q2 q3
  have hcap := hl.cap
  have hsm := hl.small
  have hlen := Lib.hid hl.len
  have A0 := fun w => tree_Name s w hs
  have P := Blk.new w 27 #[.string s, .int .i64 3, .int .i64 ab, .int .i64 wt, .bool false, .int .u64 0, .int .u64 0]
  have hW : Below w.heap.size w (w.alloc (.cells #[.string s, .int .i64 3, .int .i64 ab, .int .i64 wt, .bool false, .int .u64 0, .int .u64 0] 27)) := (Below.refl _ _).alloc (Nat.le_refl _) _
  obtain ⟨ad, rfl, hbk, hat⟩ := hl.at_ (k := ab.toNat) (by omega)
  have U3 := cell_under (cell_alloc hat.kind (.cells #[.string s, .int .i64 3, .int .i64 ab, .int .i64 wt, .bool false, .int .u64 0, .int .u64 0] 27))
  rw [r3] at U3
  clear hat r3
  go_enter Try.func42, Try.ntmps42
  go_wp2_with ((go_at_call 49; refine (A0 _).mono ?_; rintro e w1 ⟨rfl, rfl⟩))
  generalize w.alloc (.cells #[.string s, .int .i64 3, .int .i64 ab, .int .i64 wt, .bool false, .int .u64 0, .int .u64 0] 27) = u at *
  obtain ⟨p0, p1, p2, p3, p4, p5, p6, _⟩ := P.cells7
  have U1 := cell_under p1
  have U2 := cell_under p2
  refine wp_region_quiet_under (by kernel_rfl) (by kernel_rfl) ?_
  repeat (go_big_quiet_step ((fail)))
  refine wpQuiet_nil ?_
  intro wu hw'
  obtain ⟨pq, hw''⟩ := hw'
  have hU := below_eq hw''
  clear hw'' pq
  have P1 := P.keep hU
  have hW1 := below_keep hW (hU.mono (Nat.le_refl _))
  clear P hW hU U1 U2 p0 p1 p2 p3 p4 p5 p6
  obtain ⟨p0, p1, p2, p3, p4, p5, p6, _⟩ := P1.cells7
  go_wp2_with fail
  refine (addr_Right _ _ _ _).mono ?_; rintro e w1 ⟨rfl, hx⟩
  have P2 := P1.keep hx
  have hW2 := below_step hW1 hx
  clear P1 hW1 hx p0 p1 p2 p3 p4 p5 p6
  obtain ⟨p0, p1, p2, p3, p4, p5, p6, _⟩ := P2.cells7
  go_wp2_with fail
  go_loopg [99] n (fun gk s99 wr => ∃ k : Nat, k ≤ n ∧ gk = n - k ∧ s99 = .int .i64 k ∧ Hid ((l.take k).any (twice ⟨s, 3, ab, wt, false, 0, 0⟩) = false) ∧ Blk wr w.heap.size 27 #[.string s, .int .i64 3, .int .i64 ab, .int .i64 wt, .bool false, .int .u64 0, .int .u64 0] ∧ Below w.heap.size w wr)
  case atStart => exact ⟨0, Nat.zero_le _, rfl, rfl, Lib.hid rfl, P2, hW2⟩
  case round =>
    clear P2 hW2 p0 p1 p2 p3 p4 p5 p6
    obtain ⟨k, hk, rfl, rfl, ha, P3, hW3⟩ := hrel
    by_cases hlt : k < n
    · obtain ⟨ad', e', hbk', c0, c1, c2, c3, c4, c5, c6⟩ := (hl.keep hW3).at_ hlt
      obtain rfl : ad' = ad := by injection e' with e'; exact e'.symm
      have hki : (k : Int) < (n : Int) := by omega
      have HT2 := Lib.hid (HT.out k (by rw [hlen.out]; exact hlt) ha.out)
      have HA2 := Lib.hid (HA.out k (by rw [hlen.out]; exact hlt))
      clear HT HA
      generalize l.getD k nd0 = y at *
      obtain ⟨ys, yk, ya, yw, y6, yh, yl⟩ := y
      dsimp only at *
      obtain ⟨p0, p1, p2, p3, p4, p5, p6, _⟩ := P3.cells7
      have p0 := fun o : Obj => cell_alloc p0 o
      have p1 := fun o : Obj => cell_alloc p1 o
      have p2 := fun o : Obj => cell_alloc p2 o
      have p3 := fun o : Obj => cell_alloc p3 o
      have p4 := fun o : Obj => cell_alloc p4 o
      have p5 := fun o : Obj => cell_alloc p5 o
      have p6 := fun o : Obj => cell_alloc p6 o
      go_wp2
      all_goals first
        | (go_ret
           exact ⟨ret_int (HR8.out (HA2.out (by unfold twice sameName sameAddr; dsimp only; grind))).symm, hW3.alloc hW3.size _⟩)
        | (have HS := Lib.hid (HT2.out (by unfold twice sameName sameAddr; dsimp only; grind))
           go_roundg (n - (k + 1))
           case measure => omega
           case rel => exact ⟨k + 1, by omega, rfl, by go_num, HS, P3.alloc _, hW3.alloc hW3.size _⟩)
        | (exfalso; grind)
    · obtain rfl : k = n := by omega
      have HN := Lib.hid (HR0.out (by have := ha.out; rwa [List.take_of_length_le (by rw [hlen.out]; exact Nat.le_refl _)] at this))
      go_wp2
      go_ret
      exact ⟨by rw [HN.out]; rfl, hW3⟩
theorem right_late4 (x : Nd) (hx : x.Wf) (A : Option Addr) (n c : Nat) (l : List Nd) (w : World) (hl : IsNodes w A n c l) (h : headC x l = 0) (hk1 : x.kind = 4) :
    Calls Try.prog 42 #[.agg #[.string x.name, .int .i64 x.kind, .int .i64 x.above, .int .i64 x.weight, .bool x.six, .int .u64 x.hi, .int .u64 x.lo], .slice A n c] w fun e w' => e = .returned (.int .i64 (rightC x l)) ∧ Below w.heap.size w w' := by
  have HK := headC_zero h
  have HR8 := Lib.hid (fun h2 => rightC_twice h h2)
  have HR0 := Lib.hid (fun h2 => rightC_zero h h2)
  have HT := Lib.hid (fun k hk h1 h2 => any_take_step (x := x) (l := l) (k := k) hk h1 h2)
  have HA := Lib.hid (fun k hk h2 => any_at (x := x) (l := l) (k := k) hk h2)
  clear h
  obtain ⟨s, kd, ab, wt, six, hi, lo⟩ := x
  obtain ⟨hs, b1, b2, b3, b4, b5, b6, b7, b8, b9, b10⟩ := hx
  obtain ⟨q1, q2, q3, q4, q5, q6, q7, q8, q9⟩ := HK
  dsimp only at *
  subst hk1
  obtain ⟨r1, r2, r3⟩ := q7 (by decide)
  rw [hl.len] at r2
  clear q6 q7 q9 q2 q3
  have hcap := hl.cap
  have hsm := hl.small
  have hlen := Lib.hid hl.len
  have A0 := fun w => tree_Name s w hs
  have P := Blk.new w 27 #[.string s, .int .i64 4, .int .i64 ab, .int .i64 wt, .bool six, .int .u64 hi, .int .u64 lo]
  have hW : Below w.heap.size w (w.alloc (.cells #[.string s, .int .i64 4, .int .i64 ab, .int .i64 wt, .bool six, .int .u64 hi, .int .u64 lo] 27)) := (Below.refl _ _).alloc (Nat.le_refl _) _
  obtain ⟨ad, rfl, hbk, hat⟩ := hl.at_ (k := ab.toNat) (by omega)
  have U3 := cell_under (cell_alloc hat.kind (.cells #[.string s, .int .i64 4, .int .i64 ab, .int .i64 wt, .bool six, .int .u64 hi, .int .u64 lo] 27))
  rw [r3] at U3
  clear hat r3
  go_enter Try.func42, Try.ntmps42
  go_wp2_with ((go_at_call 49; refine (A0 _).mono ?_; rintro e w1 ⟨rfl, rfl⟩))
  generalize w.alloc (.cells #[.string s, .int .i64 4, .int .i64 ab, .int .i64 wt, .bool six, .int .u64 hi, .int .u64 lo] 27) = u at *
  obtain ⟨p0, p1, p2, p3, p4, p5, p6, _⟩ := P.cells7
  have U1 := cell_under p1
  have U2 := cell_under p2
  refine wp_region_quiet_under (by kernel_rfl) (by kernel_rfl) ?_
  repeat (go_big_quiet_step ((fail)))
  refine wpQuiet_nil ?_
  intro wu hw'
  obtain ⟨pq, hw''⟩ := hw'
  have hU := below_eq hw''
  clear hw'' pq
  have P1 := P.keep hU
  have hW1 := below_keep hW (hU.mono (Nat.le_refl _))
  clear P hW hU U1 U2 p0 p1 p2 p3 p4 p5 p6
  obtain ⟨p0, p1, p2, p3, p4, p5, p6, _⟩ := P1.cells7
  go_wp2_with fail
  refine (addr_Right _ _ _ _).mono ?_; rintro e w1 ⟨rfl, hx⟩
  have P2 := P1.keep hx
  have hW2 := below_step hW1 hx
  clear P1 hW1 hx p0 p1 p2 p3 p4 p5 p6
  obtain ⟨p0, p1, p2, p3, p4, p5, p6, _⟩ := P2.cells7
  go_wp2_with fail
  go_loopg [99] n (fun gk s99 wr => ∃ k : Nat, k ≤ n ∧ gk = n - k ∧ s99 = .int .i64 k ∧ Hid ((l.take k).any (twice ⟨s, 4, ab, wt, six, hi, lo⟩) = false) ∧ Blk wr w.heap.size 27 #[.string s, .int .i64 4, .int .i64 ab, .int .i64 wt, .bool six, .int .u64 hi, .int .u64 lo] ∧ Below w.heap.size w wr)
  case atStart => exact ⟨0, Nat.zero_le _, rfl, rfl, Lib.hid rfl, P2, hW2⟩
  case round =>
    clear P2 hW2 p0 p1 p2 p3 p4 p5 p6
    obtain ⟨k, hk, rfl, rfl, ha, P3, hW3⟩ := hrel
    by_cases hlt : k < n
    · obtain ⟨ad', e', hbk', c0, c1, c2, c3, c4, c5, c6⟩ := (hl.keep hW3).at_ hlt
      obtain rfl : ad' = ad := by injection e' with e'; exact e'.symm
      have hki : (k : Int) < (n : Int) := by omega
      have HT2 := Lib.hid (HT.out k (by rw [hlen.out]; exact hlt) ha.out)
      have HA2 := Lib.hid (HA.out k (by rw [hlen.out]; exact hlt))
      clear HT HA
      generalize l.getD k nd0 = y at *
      obtain ⟨ys, yk, ya, yw, y6, yh, yl⟩ := y
      dsimp only at *
      obtain ⟨p0, p1, p2, p3, p4, p5, p6, _⟩ := P3.cells7
      have p0 := fun o : Obj => cell_alloc p0 o
      have p1 := fun o : Obj => cell_alloc p1 o
      have p2 := fun o : Obj => cell_alloc p2 o
      have p3 := fun o : Obj => cell_alloc p3 o
      have p4 := fun o : Obj => cell_alloc p4 o
      have p5 := fun o : Obj => cell_alloc p5 o
      have p6 := fun o : Obj => cell_alloc p6 o
      go_wp2
      all_goals first
        | (go_ret
           exact ⟨ret_int (HR8.out (HA2.out (by unfold twice sameName sameAddr; dsimp only; grind))).symm, hW3.alloc hW3.size _⟩)
        | (have HS := Lib.hid (HT2.out (by unfold twice sameName sameAddr; dsimp only; grind))
           go_roundg (n - (k + 1))
           case measure => omega
           case rel => exact ⟨k + 1, by omega, rfl, by go_num, HS, P3.alloc _, hW3.alloc hW3.size _⟩)
        | (exfalso; grind)
    · obtain rfl : k = n := by omega
      have HN := Lib.hid (HR0.out (by have := ha.out; rwa [List.take_of_length_le (by rw [hlen.out]; exact Nat.le_refl _)] at this))
      go_wp2
      go_ret
      exact ⟨by rw [HN.out]; rfl, hW3⟩
theorem tree_right (x : Nd) (hx : x.Wf) (A : Option Addr) (n c : Nat) (l : List Nd) (w : World) (hl : IsNodes w A n c l) :
    Calls Try.prog 42 #[.agg #[.string x.name, .int .i64 x.kind, .int .i64 x.above, .int .i64 x.weight, .bool x.six, .int .u64 x.hi, .int .u64 x.lo], .slice A n c] w fun e w' => e = .returned (.int .i64 (rightC x l)) ∧ Below w.heap.size w w' := by
  by_cases h : headC x l = 0
  · have hk := headC_zero h
    have h0 := hk.kind0
    have h1 := hk.kind1
    rcases (by omega : x.kind = 1 ∨ x.kind = 2 ∨ x.kind = 3 ∨ x.kind = 4) with e | e | e | e
    · exact right_late1 x hx A n c l w hl h e
    · exact right_late2 x hx A n c l w hl h e
    · exact right_late3 x hx A n c l w hl h e
    · exact right_late4 x hx A n c l w hl h e
  · rw [rightC_head h]
    exact right_early x hx A n c l w hl h
end Go.Proofs.Ytceekfbhkenniaa
end
section
/- The law's own: name, Few, and why, up to those that are like it. (Written by gen_treed.py.) -/
set_option linter.unusedVariables false
namespace Go.Proofs.Ytceekfbhkenniaa
open Go.RowKit
set_option maxHeartbeats 4000000
set_option maxRecDepth 100000
end Go.Proofs.Ytceekfbhkenniaa
end
section
/- The law's why, whole. (Written by gen_treee.py.) -/
set_option linter.unusedVariables false
namespace Go.Proofs.Ytceekfbhkenniaa
open Go.RowKit
set_option maxHeartbeats 4000000
set_option maxRecDepth 100000
theorem eq_addr (a b : Bool) (p q r s : Int) (w : World) : (Op.equalIn 10000 25 (.agg #[.bool a, .int .u64 p, .int .u64 q]) (.agg #[.bool b, .int .u64 r, .int .u64 s])).run Try.prog w = .ok (a == b && p == r && q == s) w := by
  go_simp
  (repeat' split) <;> simp_all
theorem eqG_addr (x y : Operand) (a b : Bool) (p q r s : Int) (w : World) : (eqGuard .eql 25 x y (.agg #[.bool a, .int .u64 p, .int .u64 q]) (.agg #[.bool b, .int .u64 r, .int .u64 s])).run Try.prog w = .ok () w := by
  go_simp
theorem eq_addr_op {A : Act} {o : Oper} {x y : Operand} {t : TypeId} {a b : Bool} {p q r s : Int} (ho : o.op = .binOp .eql 25 x y t) (hx : A.eval x = .agg #[.bool a, .int .u64 p, .int .u64 q]) (hy : A.eval y = .agg #[.bool b, .int .u64 r, .int .u64 s]) (w : World) :
    (execOp A.eval o).run Try.prog w = .ok (.value (.bool (a == b && p == r && q == s))) w := by
  have h1 := eqG_addr x y a b p q r s w
  have h2 := eq_addr a b p q r s w
  unfold execOp
  simp only [ho, hx, hy, Sem.run_bind, h1, Result.andThen_ok, run_eql_struct, h2, Sem.run_pure]
theorem quiet_eq_addr {A : Act} {o : Oper} {x y : Operand} {t : TypeId} {a b : Bool} {p q r s : Int} {E : Bool} {C : World → Prop} {K : Act → Prop} (hE : (a == b && p == r && q == s) = E) (ho : o.op = .binOp .eql 25 x y t) (hx : A.eval x = .agg #[.bool a, .int .u64 p, .int .u64 q]) (hy : A.eval y = .agg #[.bool b, .int .u64 r, .int .u64 s])
    (h : K (A.put o.dst (.bool E))) : o.quiet Try.prog A C K :=
  ⟨.bool E, fun w _ => by unfold Oper.quietAt; rw [eq_addr_op ho hx hy w, hE]; exact ⟨rfl, rfl⟩, h⟩
theorem ofKind_le (k : Int) (l : List Nd) (m : Nat) : ofKind k (l.take m) ≤ m := by
  unfold ofKind
  have := List.countP_le_length (p := fun x : Nd => x.kind == k) (l := l.take m)
  have h2 := List.length_take_le m l
  omega
theorem ofKind_step (kd : Int) (l : List Nd) {k : Nat} (hk : k < l.length) : ofKind kd (l.take (k + 1)) = ofKind kd (l.take k) + if (l.getD k nd0).kind = kd then 1 else 0 := by
  unfold ofKind
  rw [List.take_succ_eq_append_getElem hk, List.countP_append, List.countP_singleton, List.getD_eq_getElem?_getD, List.getElem?_eq_getElem hk]
  simp
theorem whyC_right {x : Nd} {l : List Nd} (h : rightC x l ≠ 0) : whyC x l = rightC x l := by unfold whyC; rw [if_pos h]
theorem whyC_full {x : Nd} {l : List Nd} (h : rightC x l = 0) (h2 : full x l = true) : whyC x l = 6 := by unfold whyC; rw [if_neg (by omega), if_pos h2]
theorem whyC_zero {x : Nd} {l : List Nd} (h : rightC x l = 0) (h2 : full x l = false) : whyC x l = 0 := by unfold whyC; rw [if_neg (by omega), h2]; rfl
end Go.Proofs.Ytceekfbhkenniaa
end
section
/- Regions that draw their order: all operations but the last few are quiet in a class of worlds (they read; callees keep the class), and those last ones come in one forced order: one walk. -/
set_option linter.unusedVariables false
namespace Go.Proofs.Ytceekfbhkenniaa
open Go.RowKit Go
section
variable {P : Program} {ops : Array Oper} {md : Region.Mode} {C : World → Prop}
/-- All that may come up stands ahead of n, is quiet in the class, and L holds behind so many. -/
def qHead (P : Program) (md : Region.Mode) (ops : Array Oper) (C : World → Prop) (n : Nat) (L : Array Bool → Act → Prop) : Nat → Array Bool → Act → Prop
  | 0, listed, a => L listed a
  | f + 1, listed, a => Region.ready md ops listed ≠ [] ∧ ∀ i ∈ Region.ready md ops listed, i < n ∧ qOp P ops C i (qHead P md ops C n L f (listed.setIfInBounds i true)) a
theorem any_of_qHead {n g : Nat} {L : Array Bool → Act → Prop} {Q' : Exit → Act → World → Prop} (hL : ∀ listed a w, C w → L listed a → wpAny P md ops Q' g listed a w) :
    ∀ (f : Nat) (listed : Array Bool) (a : Act) (w : World), C w → qHead P md ops C n L f listed a → wpAny P md ops Q' (f + g) listed a w := by
  intro f
  induction f with
  | zero => intro listed a w hw h; rw [Nat.zero_add]; exact hL _ _ _ hw h
  | succ f ih =>
    intro listed a w hw h
    rw [show f + 1 + g = (f + g) + 1 by omega]
    exact ⟨fun h0 => absurd h0 h.1, fun i hi => wpOp_of_qOp hw (fun a' w' hw' h' => ih _ a' w' hw' h') (h.2 i hi).2⟩
theorem qHead_first {n i : Nat} {oi : Oper} {v : Value} {L : Array Bool → Act → Prop} (hi : ops[i]? = some oi) (hsel : ∀ (j : Nat) (o : Oper) cs b, ops[j]? = some o → o.op ≠ .select cs b)
    (hs : Region.sinkB md ops n = true) (hc : Region.chainB md ops n = true) (hn : n < ops.size) (hin : i < n)
    (hdone : ∀ listed a, L listed a → ∀ j ∈ Region.ready md ops listed, n ≤ j) :
    ∀ (f : Nat) (listed : Array Bool) (a : Act), HeadInv md ops n listed →
      (∀ j oj, ops[j]? = some oj → j ≠ i → listed.getD j true = false → (∀ e ∈ oj.after, Region.binds md e = true → e.on ≠ i) → oi.apart ops oj = true) →
      i ∈ Region.ready md ops listed → YieldsIn P ops C oi v a →
      qHead P md ops C n L f (listed.setIfInBounds i true) (a.put oi.dst v) → qHead P md ops C n L (f + 1) listed a := by
  intro f
  induction f with
  | zero =>
    intro listed a inv _ hr hy H
    refine ⟨fun h => (by rw [h] at hr; cases hr), fun j hj => ?_⟩
    have hjn : j < n := Nat.lt_of_not_le fun h => tail_waits hs hc hn inv _ i rfl hin (mem_ready.1 hr).1 j h hj
    refine ⟨hjn, ?_⟩
    by_cases hji : j = i
    · subst hji; exact hy.qOp hi H
    · have := hdone _ _ H j (ready_mono hj hji)
      omega
  | succ f ih =>
    intro listed a inv hfree hr hy H
    have hun := (mem_ready.1 hr).1
    refine ⟨fun h => (by rw [h] at hr; cases hr), fun j hj => ?_⟩
    have hjn : j < n := Nat.lt_of_not_le fun h => tail_waits hs hc hn inv _ i rfl hin hun j h hj
    refine ⟨hjn, ?_⟩
    by_cases hji : j = i
    · subst hji; exact hy.qOp hi H
    · have h1 := (H.2 j (ready_mono hj hji)).2
      obtain ⟨hjun, oj, hoj, hall⟩ := mem_ready.1 hj
      have hnot : ∀ e ∈ oj.after, Region.binds md e = true → e.on ≠ i := fun e he hb heq => by
        have h3 := hall e he hb
        rw [heq, getD_both hun] at h3
        cases h3
      have h2 := qOp_put hoj (hfree j oj hoj hji hjun hnot) (fun cs b => hsel i oi cs b hi) (fun cs b => hsel j oj cs b hoj) hy h1
      refine qOp_mono (fun a' h3 => ih (listed.setIfInBounds j true) a' (inv.set hj hjn) (fun k ok hk hki hun' hno => hfree k ok hk hki ?_ hno) (ready_mono hr (Ne.symm hji)) h3.1 ?_) h2
      · by_cases hjk : j = k
        · subst hjk; exact hjun
        · rwa [getD_set_ne true hjk] at hun'
      · rw [Array.setIfInBounds_comm _ _ hji]
        exact h3.2
theorem qHead_lex {n g : Nat} {Lq : Act → Prop} (hsel : Region.noSelect ops = true) (hs : Region.sinkB md ops n = true) (hc : Region.chainB md ops n = true) (hn : n < ops.size) :
    ∀ (l : List Oper) (k : Nat) (listed : Array Bool) (a : Act), (∀ j, j < l.length → l[j]? = ops[k + j]?) → k + l.length = n → HeadInv md ops n listed →
    Region.lexHead md ops g l.length k listed = true → wpQuiet P ops C Lq l a →
    qHead P md ops C n (fun listed' a' => Region.seqB md ops g n listed' = true ∧ Lq a') l.length listed a := by
  intro l
  induction l with
  | nil =>
    intro k listed a _ hk _ hB h
    obtain rfl : k = n := by simpa using hk
    exact ⟨by simpa [Region.lexHead] using hB, h⟩
  | cons o l ih =>
    intro k listed a hl hk inv hB h
    have h0 : ops[k]? = some o := by simpa using (hl 0 (by simp)).symm
    simp only [List.length_cons, Region.lexHead, Bool.and_eq_true] at hB
    obtain ⟨⟨hr, hf⟩, hB'⟩ := hB
    rw [List.length_cons] at hk
    have hkn : k < n := by omega
    have hr' : k ∈ Region.ready md ops listed := by simpa using hr
    have hst : qOp P ops C k (wpQuiet P ops C Lq l) a := by unfold qOp; simp only [h0]; exact h
    obtain ⟨v, hy, hK⟩ := yieldsIn_of_qOp h0 hst
    refine qHead_first h0 (Region.noSelect_spec hsel) hs hc hn hkn (fun listed' a' hL => seqB_ready hL.1) l.length listed a inv (Region.free_spec h0 hf) hr' hy ?_
    refine ih (k + 1) _ _ (fun j hj => ?_) (by omega) (inv.set hr' hkn) hB' hK
    have := hl (j + 1) (by simp; omega)
    simpa [Nat.add_assoc, Nat.add_comm 1 j] using this
/-- All but the operations from n on are quiet; those come last, in their order, from whichever world of the class. -/
theorem wp_region_quiet_tail {id : Nat} {Q : Exit → Act → World → Prop} {a : Act} {w : World} {l : List Oper} (n : Nat) (hm : P.follows .mixedOrders = true) (hB : Region.lexTailB .any l.toArray n = true) (hC : C w.drew)
    (h : wpQuiet P l.toArray C (fun a' => ∀ w', C w' → wpList P l.toArray Q (l.drop n) a' w') (l.take n) a) : (Code.region id l.toArray true).wp P Q a w := by
  simp only [Region.lexTailB, Bool.and_eq_true, decide_eq_true_eq] at hB
  obtain ⟨⟨⟨⟨hsel, hn⟩, hs⟩, hc⟩, hlex⟩ := hB
  have hn' : n < l.length := by simpa using hn
  have htl : (l.take n).length = n := by simp; omega
  have hdl : (l.drop n).length = l.toArray.size - n := by simp
  have inv0 : HeadInv .any l.toArray n (Array.replicate l.toArray.size false) :=
    ⟨by simp, fun j oj _ hl => (by rw [getD_replicate_false] at hl; cases hl), fun t _ ht => getD_in (by simpa using ht) (getD_replicate_false _ _)⟩
  have H := qHead_lex (P := P) (C := C) (md := .any) (g := l.toArray.size - n) hsel hs hc hn (l.take n) 0 (Array.replicate l.toArray.size false) a (fun j hj => by
    have hj' : j < n := by rw [htl] at hj; exact hj
    simp [hj']) (by simpa using htl) inv0 (by rw [htl]; exact hlex) h
  refine wp_region_any hm ?_
  have := any_of_qHead (Q' := Q) (g := l.toArray.size - n) (fun listed a' w' hw' hL => by
    have := wpAny_of_seq (md := .any) (Q' := Q) (l.drop n) n listed a' w' (fun j => by simp [List.getElem?_drop]) (by rw [hdl]; exact hL.1) (hL.2 w' hw')
    rwa [hdl] at this) _ _ _ _ hC H
  rw [htl, show n + (l.toArray.size - n) = l.toArray.size by omega] at this
  exact this
end
theorem wp_region_under_tail {P : Program} {id : Nat} {Q : Exit → Act → World → Prop} {a : Act} {w : World} {l : List Oper} (n : Nat) (hm : P.follows .mixedOrders = true) (hB : Region.lexTailB .any l.toArray n = true)
    (h : wpQuiet P l.toArray (fun w' => ∃ p : UP, w' = under w p) (fun a' => ∀ w', (∃ p : UP, w' = under w p) → wpList P l.toArray Q (l.drop n) a' w') (l.take n) a) : (Code.region id l.toArray true).wp P Q a w :=
  wp_region_quiet_tail (C := fun w' => ∃ p : UP, w' = under w p) n hm hB ⟨_, under_drew w⟩ h
end Go.Proofs.Ytceekfbhkenniaa
end
