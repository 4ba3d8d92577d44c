/- Lemmas for the claim's proof: TreeC TreeD. -/
import Derived.Test.YtblbgafadadbmaaQ05
section
/- tree.right, whole. (Written by gen_treec.py.) -/
set_option linter.unusedVariables false
namespace Go.Proofs.Ytblbgafadadbmaa
open Go.RowKit
set_option maxHeartbeats 4000000
set_option maxRecDepth 100000
theorem right_late1 (x : Nd) (hx : x.Wf) (A : Option Addr) (n c : Nat) (l : List Nd) (w : World) (hl : IsNodes w A n c l) (h : headC x l = 0) (hk1 : x.kind = 1) :
    Calls Try.prog 60 #[.agg #[.string x.name, .int .i64 x.kind, .int .i64 x.above, .int .i64 x.weight, .bool x.six, .int .u64 x.hi, .int .u64 x.lo], .slice A n c] w fun e w' => e = .returned (.int .i64 (rightC x l)) ∧ Below w.heap.size w w' := by
  have HK := headC_zero h
  have HR8 := Lib.hid (fun h2 => rightC_twice h h2)
  have HR0 := Lib.hid (fun h2 => rightC_zero h h2)
  have HT := Lib.hid (fun k hk h1 h2 => any_take_step (x := x) (l := l) (k := k) hk h1 h2)
  have HA := Lib.hid (fun k hk h2 => any_at (x := x) (l := l) (k := k) hk h2)
  clear h
  obtain ⟨s, kd, ab, wt, six, hi, lo⟩ := x
  obtain ⟨hs, b1, b2, b3, b4, b5, b6, b7, b8, b9, b10⟩ := hx
  obtain ⟨q1, q2, q3, q4, q5, q6, q7, q8, q9⟩ := HK
  dsimp only at *
  subst hk1
  obtain ⟨rfl, rfl⟩ := q6 rfl
  obtain ⟨rfl, rfl, rfl⟩ := q9 (by decide)
  clear q6 q7 q9 q2 q3 q4 q5
  have hcap := hl.cap
  have hsm := hl.small
  have hlen := Lib.hid hl.len
  have A0 := fun w => tree_Name s w hs
  have P := Blk.new w 64 #[.string s, .int .i64 1, .int .i64 (-1), .int .i64 0, .bool false, .int .u64 0, .int .u64 0]
  have hW : Below w.heap.size w (w.alloc (.cells #[.string s, .int .i64 1, .int .i64 (-1), .int .i64 0, .bool false, .int .u64 0, .int .u64 0] 64)) := (Below.refl _ _).alloc (Nat.le_refl _) _
  go_enter Try.func60, Try.ntmps60
  go_wp2_with ((go_at_call 87; refine (A0 _).mono ?_; rintro e w1 ⟨rfl, rfl⟩))
  generalize w.alloc (.cells #[.string s, .int .i64 1, .int .i64 (-1), .int .i64 0, .bool false, .int .u64 0, .int .u64 0] 64) = u at *
  obtain ⟨p0, p1, p2, p3, p4, p5, p6, _⟩ := P.cells7
  have U1 := cell_under p1
  have U2 := cell_under p2
  refine wp_region_quiet_under (by kernel_rfl) (by kernel_rfl) ?_
  repeat (go_big_quiet_step ((fail)))
  refine wpQuiet_nil ?_
  intro wu hw'
  obtain ⟨pq, hw''⟩ := hw'
  have hU := below_eq hw''
  clear hw'' pq
  have P1 := P.keep hU
  have hW1 := below_keep hW (hU.mono (Nat.le_refl _))
  clear P hW hU U1 U2 p0 p1 p2 p3 p4 p5 p6
  obtain ⟨p0, p1, p2, p3, p4, p5, p6, _⟩ := P1.cells7
  go_wp2_with fail
  refine (addr_Right _ _ _ _).mono ?_; rintro e w1 ⟨rfl, hx⟩
  have P2 := P1.keep hx
  have hW2 := below_step hW1 hx
  clear P1 hW1 hx p0 p1 p2 p3 p4 p5 p6
  obtain ⟨p0, p1, p2, p3, p4, p5, p6, _⟩ := P2.cells7
  go_wp2_with fail
  go_loopg [99] n (fun gk s99 wr => ∃ k : Nat, k ≤ n ∧ gk = n - k ∧ s99 = .int .i64 k ∧ Hid ((l.take k).any (twice ⟨s, 1, (-1), 0, false, 0, 0⟩) = false) ∧ Blk wr w.heap.size 64 #[.string s, .int .i64 1, .int .i64 (-1), .int .i64 0, .bool false, .int .u64 0, .int .u64 0] ∧ Below w.heap.size w wr)
  case atStart => exact ⟨0, Nat.zero_le _, rfl, rfl, Lib.hid rfl, P2, hW2⟩
  case round =>
    clear P2 hW2 p0 p1 p2 p3 p4 p5 p6
    obtain ⟨k, hk, rfl, rfl, ha, P3, hW3⟩ := hrel
    by_cases hlt : k < n
    · obtain ⟨ad', e', hbk', c0, c1, c2, c3, c4, c5, c6⟩ := (hl.keep hW3).at_ hlt
      subst e'
      have hki : (k : Int) < (n : Int) := by omega
      have HT2 := Lib.hid (HT.out k (by rw [hlen.out]; exact hlt) ha.out)
      have HA2 := Lib.hid (HA.out k (by rw [hlen.out]; exact hlt))
      clear HT HA
      generalize l.getD k nd0 = y at *
      obtain ⟨ys, yk, ya, yw, y6, yh, yl⟩ := y
      dsimp only at *
      obtain ⟨p0, p1, p2, p3, p4, p5, p6, _⟩ := P3.cells7
      have p0 := fun o : Obj => cell_alloc p0 o
      have p1 := fun o : Obj => cell_alloc p1 o
      have p2 := fun o : Obj => cell_alloc p2 o
      have p3 := fun o : Obj => cell_alloc p3 o
      have p4 := fun o : Obj => cell_alloc p4 o
      have p5 := fun o : Obj => cell_alloc p5 o
      have p6 := fun o : Obj => cell_alloc p6 o
      go_wp2
      all_goals first
        | (go_ret
           exact ⟨ret_int (HR8.out (HA2.out (by unfold twice sameName sameAddr; dsimp only; grind))).symm, hW3.alloc hW3.size _⟩)
        | (have HS := Lib.hid (HT2.out (by unfold twice sameName sameAddr; dsimp only; grind))
           go_roundg (n - (k + 1))
           case measure => omega
           case rel => exact ⟨k + 1, by omega, rfl, by go_num, HS, P3.alloc _, hW3.alloc hW3.size _⟩)
        | (exfalso; grind)
    · obtain rfl : k = n := by omega
      have HN := Lib.hid (HR0.out (by have := ha.out; rwa [List.take_of_length_le (by rw [hlen.out]; exact Nat.le_refl _)] at this))
      go_wp2
      go_ret
      exact ⟨by rw [HN.out]; rfl, hW3⟩
theorem right_late2 (x : Nd) (hx : x.Wf) (A : Option Addr) (n c : Nat) (l : List Nd) (w : World) (hl : IsNodes w A n c l) (h : headC x l = 0) (hk1 : x.kind = 2) :
    Calls Try.prog 60 #[.agg #[.string x.name, .int .i64 x.kind, .int .i64 x.above, .int .i64 x.weight, .bool x.six, .int .u64 x.hi, .int .u64 x.lo], .slice A n c] w fun e w' => e = .returned (.int .i64 (rightC x l)) ∧ Below w.heap.size w w' := by
  have HK := headC_zero h
  have HR8 := Lib.hid (fun h2 => rightC_twice h h2)
  have HR0 := Lib.hid (fun h2 => rightC_zero h h2)
  have HT := Lib.hid (fun k hk h1 h2 => any_take_step (x := x) (l := l) (k := k) hk h1 h2)
  have HA := Lib.hid (fun k hk h2 => any_at (x := x) (l := l) (k := k) hk h2)
  clear h
  obtain ⟨s, kd, ab, wt, six, hi, lo⟩ := x
  obtain ⟨hs, b1, b2, b3, b4, b5, b6, b7, b8, b9, b10⟩ := hx
  obtain ⟨q1, q2, q3, q4, q5, q6, q7, q8, q9⟩ := HK
  dsimp only at *
  subst hk1
  obtain ⟨r1, r2, r3⟩ := q7 (by decide)
  obtain ⟨rfl, rfl, rfl⟩ := q9 (by decide)
  rw [hl.len] at r2
  clear q6 q7 q9 q2 q3
  have hcap := hl.cap
  have hsm := hl.small
  have hlen := Lib.hid hl.len
  have A0 := fun w => tree_Name s w hs
  have P := Blk.new w 64 #[.string s, .int .i64 2, .int .i64 ab, .int .i64 wt, .bool false, .int .u64 0, .int .u64 0]
  have hW : Below w.heap.size w (w.alloc (.cells #[.string s, .int .i64 2, .int .i64 ab, .int .i64 wt, .bool false, .int .u64 0, .int .u64 0] 64)) := (Below.refl _ _).alloc (Nat.le_refl _) _
  obtain ⟨ad, rfl, hbk, hat⟩ := hl.at_ (k := ab.toNat) (by omega)
  have U3 := cell_under (cell_alloc hat.kind (.cells #[.string s, .int .i64 2, .int .i64 ab, .int .i64 wt, .bool false, .int .u64 0, .int .u64 0] 64))
  rw [r3] at U3
  clear hat r3
  go_enter Try.func60, Try.ntmps60
  go_wp2_with ((go_at_call 87; refine (A0 _).mono ?_; rintro e w1 ⟨rfl, rfl⟩))
  generalize w.alloc (.cells #[.string s, .int .i64 2, .int .i64 ab, .int .i64 wt, .bool false, .int .u64 0, .int .u64 0] 64) = u at *
  obtain ⟨p0, p1, p2, p3, p4, p5, p6, _⟩ := P.cells7
  have U1 := cell_under p1
  have U2 := cell_under p2
  refine wp_region_quiet_under (by kernel_rfl) (by kernel_rfl) ?_
  repeat (go_big_quiet_step ((fail)))
  refine wpQuiet_nil ?_
  intro wu hw'
  obtain ⟨pq, hw''⟩ := hw'
  have hU := below_eq hw''
  clear hw'' pq
  have P1 := P.keep hU
  have hW1 := below_keep hW (hU.mono (Nat.le_refl _))
  clear P hW hU U1 U2 p0 p1 p2 p3 p4 p5 p6
  obtain ⟨p0, p1, p2, p3, p4, p5, p6, _⟩ := P1.cells7
  go_wp2_with fail
  refine (addr_Right _ _ _ _).mono ?_; rintro e w1 ⟨rfl, hx⟩
  have P2 := P1.keep hx
  have hW2 := below_step hW1 hx
  clear P1 hW1 hx p0 p1 p2 p3 p4 p5 p6
  obtain ⟨p0, p1, p2, p3, p4, p5, p6, _⟩ := P2.cells7
  go_wp2_with fail
  go_loopg [99] n (fun gk s99 wr => ∃ k : Nat, k ≤ n ∧ gk = n - k ∧ s99 = .int .i64 k ∧ Hid ((l.take k).any (twice ⟨s, 2, ab, wt, false, 0, 0⟩) = false) ∧ Blk wr w.heap.size 64 #[.string s, .int .i64 2, .int .i64 ab, .int .i64 wt, .bool false, .int .u64 0, .int .u64 0] ∧ Below w.heap.size w wr)
  case atStart => exact ⟨0, Nat.zero_le _, rfl, rfl, Lib.hid rfl, P2, hW2⟩
  case round =>
    clear P2 hW2 p0 p1 p2 p3 p4 p5 p6
    obtain ⟨k, hk, rfl, rfl, ha, P3, hW3⟩ := hrel
    by_cases hlt : k < n
    · obtain ⟨ad', e', hbk', c0, c1, c2, c3, c4, c5, c6⟩ := (hl.keep hW3).at_ hlt
      obtain rfl : ad' = ad := by injection e' with e'; exact e'.symm
      have hki : (k : Int) < (n : Int) := by omega
      have HT2 := Lib.hid (HT.out k (by rw [hlen.out]; exact hlt) ha.out)
      have HA2 := Lib.hid (HA.out k (by rw [hlen.out]; exact hlt))
      clear HT HA
      generalize l.getD k nd0 = y at *
      obtain ⟨ys, yk, ya, yw, y6, yh, yl⟩ := y
      dsimp only at *
      obtain ⟨p0, p1, p2, p3, p4, p5, p6, _⟩ := P3.cells7
      have p0 := fun o : Obj => cell_alloc p0 o
      have p1 := fun o : Obj => cell_alloc p1 o
      have p2 := fun o : Obj => cell_alloc p2 o
      have p3 := fun o : Obj => cell_alloc p3 o
      have p4 := fun o : Obj => cell_alloc p4 o
      have p5 := fun o : Obj => cell_alloc p5 o
      have p6 := fun o : Obj => cell_alloc p6 o
      go_wp2
      all_goals first
        | (go_ret
           exact ⟨ret_int (HR8.out (HA2.out (by unfold twice sameName sameAddr; dsimp only; grind))).symm, hW3.alloc hW3.size _⟩)
        | (have HS := Lib.hid (HT2.out (by unfold twice sameName sameAddr; dsimp only; grind))
           go_roundg (n - (k + 1))
           case measure => omega
           case rel => exact ⟨k + 1, by omega, rfl, by go_num, HS, P3.alloc _, hW3.alloc hW3.size _⟩)
        | (exfalso; grind)
    · obtain rfl : k = n := by omega
      have HN := Lib.hid (HR0.out (by have := ha.out; rwa [List.take_of_length_le (by rw [hlen.out]; exact Nat.le_refl _)] at this))
      go_wp2
      go_ret
      exact ⟨by rw [HN.out]; rfl, hW3⟩
theorem right_late3 (x : Nd) (hx : x.Wf) (A : Option Addr) (n c : Nat) (l : List Nd) (w : World) (hl : IsNodes w A n c l) (h : headC x l = 0) (hk1 : x.kind = 3) :
    Calls Try.prog 60 #[.agg #[.string x.name, .int .i64 x.kind, .int .i64 x.above, .int .i64 x.weight, .bool x.six, .int .u64 x.hi, .int .u64 x.lo], .slice A n c] w fun e w' => e = .returned (.int .i64 (rightC x l)) ∧ Below w.heap.size w w' := by
  have HK := headC_zero h
  have HR8 := Lib.hid (fun h2 => rightC_twice h h2)
  have HR0 := Lib.hid (fun h2 => rightC_zero h h2)
  have HT := Lib.hid (fun k hk h1 h2 => any_take_step (x := x) (l := l) (k := k) hk h1 h2)
  have HA := Lib.hid (fun k hk h2 => any_at (x := x) (l := l) (k := k) hk h2)
  clear h
  obtain ⟨s, kd, ab, wt, six, hi, lo⟩ := x
  obtain ⟨hs, b1, b2, b3, b4, b5, b6, b7, b8, b9, b10⟩ := hx
  obtain ⟨q1, q2, q3, q4, q5, q6, q7, q8, q9⟩ := HK
  dsimp only at *
  subst hk1
  obtain ⟨r1, r2, r3⟩ := q7 (by decide)
  obtain ⟨rfl, rfl, rfl⟩ := q9 (by decide)
  rw [hl.len] at r2
  clear q6 q7 q9 q2 q3
  have hcap := hl.cap
  have hsm := hl.small
  have hlen := Lib.hid hl.len
  have A0 := fun w => tree_Name s w hs
  have P := Blk.new w 64 #[.string s, .int .i64 3, .int .i64 ab, .int .i64 wt, .bool false, .int .u64 0, .int .u64 0]
  have hW : Below w.heap.size w (w.alloc (.cells #[.string s, .int .i64 3, .int .i64 ab, .int .i64 wt, .bool false, .int .u64 0, .int .u64 0] 64)) := (Below.refl _ _).alloc (Nat.le_refl _) _
  obtain ⟨ad, rfl, hbk, hat⟩ := hl.at_ (k := ab.toNat) (by omega)
  have U3 := cell_under (cell_alloc hat.kind (.cells #[.string s, .int .i64 3, .int .i64 ab, .int .i64 wt, .bool false, .int .u64 0, .int .u64 0] 64))
  rw [r3] at U3
  clear hat r3
  go_enter Try.func60, Try.ntmps60
  go_wp2_with ((go_at_call 87; refine (A0 _).mono ?_; rintro e w1 ⟨rfl, rfl⟩))
  generalize w.alloc (.cells #[.string s, .int .i64 3, .int .i64 ab, .int .i64 wt, .bool false, .int .u64 0, .int .u64 0] 64) = u at *
  obtain ⟨p0, p1, p2, p3, p4, p5, p6, _⟩ := P.cells7
  have U1 := cell_under p1
  have U2 := cell_under p2
  refine wp_region_quiet_under (by kernel_rfl) (by kernel_rfl) ?_
  repeat (go_big_quiet_step ((fail)))
  refine wpQuiet_nil ?_
  intro wu hw'
  obtain ⟨pq, hw''⟩ := hw'
  have hU := below_eq hw''
  clear hw'' pq
  have P1 := P.keep hU
  have hW1 := below_keep hW (hU.mono (Nat.le_refl _))
  clear P hW hU U1 U2 p0 p1 p2 p3 p4 p5 p6
  obtain ⟨p0, p1, p2, p3, p4, p5, p6, _⟩ := P1.cells7
  go_wp2_with fail
  refine (addr_Right _ _ _ _).mono ?_; rintro e w1 ⟨rfl, hx⟩
  have P2 := P1.keep hx
  have hW2 := below_step hW1 hx
  clear P1 hW1 hx p0 p1 p2 p3 p4 p5 p6
  obtain ⟨p0, p1, p2, p3, p4, p5, p6, _⟩ := P2.cells7
  go_wp2_with fail
  go_loopg [99] n (fun gk s99 wr => ∃ k : Nat, k ≤ n ∧ gk = n - k ∧ s99 = .int .i64 k ∧ Hid ((l.take k).any (twice ⟨s, 3, ab, wt, false, 0, 0⟩) = false) ∧ Blk wr w.heap.size 64 #[.string s, .int .i64 3, .int .i64 ab, .int .i64 wt, .bool false, .int .u64 0, .int .u64 0] ∧ Below w.heap.size w wr)
  case atStart => exact ⟨0, Nat.zero_le _, rfl, rfl, Lib.hid rfl, P2, hW2⟩
  case round =>
    clear P2 hW2 p0 p1 p2 p3 p4 p5 p6
    obtain ⟨k, hk, rfl, rfl, ha, P3, hW3⟩ := hrel
    by_cases hlt : k < n
    · obtain ⟨ad', e', hbk', c0, c1, c2, c3, c4, c5, c6⟩ := (hl.keep hW3).at_ hlt
      obtain rfl : ad' = ad := by injection e' with e'; exact e'.symm
      have hki : (k : Int) < (n : Int) := by omega
      have HT2 := Lib.hid (HT.out k (by rw [hlen.out]; exact hlt) ha.out)
      have HA2 := Lib.hid (HA.out k (by rw [hlen.out]; exact hlt))
      clear HT HA
      generalize l.getD k nd0 = y at *
      obtain ⟨ys, yk, ya, yw, y6, yh, yl⟩ := y
      dsimp only at *
      obtain ⟨p0, p1, p2, p3, p4, p5, p6, _⟩ := P3.cells7
      have p0 := fun o : Obj => cell_alloc p0 o
      have p1 := fun o : Obj => cell_alloc p1 o
      have p2 := fun o : Obj => cell_alloc p2 o
      have p3 := fun o : Obj => cell_alloc p3 o
      have p4 := fun o : Obj => cell_alloc p4 o
      have p5 := fun o : Obj => cell_alloc p5 o
      have p6 := fun o : Obj => cell_alloc p6 o
      go_wp2
      all_goals first
        | (go_ret
           exact ⟨ret_int (HR8.out (HA2.out (by unfold twice sameName sameAddr; dsimp only; grind))).symm, hW3.alloc hW3.size _⟩)
        | (have HS := Lib.hid (HT2.out (by unfold twice sameName sameAddr; dsimp only; grind))
           go_roundg (n - (k + 1))
           case measure => omega
           case rel => exact ⟨k + 1, by omega, rfl, by go_num, HS, P3.alloc _, hW3.alloc hW3.size _⟩)
        | (exfalso; grind)
    · obtain rfl : k = n := by omega
      have HN := Lib.hid (HR0.out (by have := ha.out; rwa [List.take_of_length_le (by rw [hlen.out]; exact Nat.le_refl _)] at this))
      go_wp2
      go_ret
      exact ⟨by rw [HN.out]; rfl, hW3⟩
theorem right_late4 (x : Nd) (hx : x.Wf) (A : Option Addr) (n c : Nat) (l : List Nd) (w : World) (hl : IsNodes w A n c l) (h : headC x l = 0) (hk1 : x.kind = 4) :
    Calls Try.prog 60 #[.agg #[.string x.name, .int .i64 x.kind, .int .i64 x.above, .int .i64 x.weight, .bool x.six, .int .u64 x.hi, .int .u64 x.lo], .slice A n c] w fun e w' => e = .returned (.int .i64 (rightC x l)) ∧ Below w.heap.size w w' := by
  have HK := headC_zero h
  have HR8 := Lib.hid (fun h2 => rightC_twice h h2)
  have HR0 := Lib.hid (fun h2 => rightC_zero h h2)
  have HT := Lib.hid (fun k hk h1 h2 => any_take_step (x := x) (l := l) (k := k) hk h1 h2)
  have HA := Lib.hid (fun k hk h2 => any_at (x := x) (l := l) (k := k) hk h2)
  clear h
  obtain ⟨s, kd, ab, wt, six, hi, lo⟩ := x
  obtain ⟨hs, b1, b2, b3, b4, b5, b6, b7, b8, b9, b10⟩ := hx
  obtain ⟨q1, q2, q3, q4, q5, q6, q7, q8, q9⟩ := HK
  dsimp only at *
  subst hk1
  obtain ⟨r1, r2, r3⟩ := q7 (by decide)
  rw [hl.len] at r2
  clear q6 q7 q9 q2 q3
  have hcap := hl.cap
  have hsm := hl.small
  have hlen := Lib.hid hl.len
  have A0 := fun w => tree_Name s w hs
  have P := Blk.new w 64 #[.string s, .int .i64 4, .int .i64 ab, .int .i64 wt, .bool six, .int .u64 hi, .int .u64 lo]
  have hW : Below w.heap.size w (w.alloc (.cells #[.string s, .int .i64 4, .int .i64 ab, .int .i64 wt, .bool six, .int .u64 hi, .int .u64 lo] 64)) := (Below.refl _ _).alloc (Nat.le_refl _) _
  obtain ⟨ad, rfl, hbk, hat⟩ := hl.at_ (k := ab.toNat) (by omega)
  have U3 := cell_under (cell_alloc hat.kind (.cells #[.string s, .int .i64 4, .int .i64 ab, .int .i64 wt, .bool six, .int .u64 hi, .int .u64 lo] 64))
  rw [r3] at U3
  clear hat r3
  go_enter Try.func60, Try.ntmps60
  go_wp2_with ((go_at_call 87; refine (A0 _).mono ?_; rintro e w1 ⟨rfl, rfl⟩))
  generalize w.alloc (.cells #[.string s, .int .i64 4, .int .i64 ab, .int .i64 wt, .bool six, .int .u64 hi, .int .u64 lo] 64) = u at *
  obtain ⟨p0, p1, p2, p3, p4, p5, p6, _⟩ := P.cells7
  have U1 := cell_under p1
  have U2 := cell_under p2
  refine wp_region_quiet_under (by kernel_rfl) (by kernel_rfl) ?_
  repeat (go_big_quiet_step ((fail)))
  refine wpQuiet_nil ?_
  intro wu hw'
  obtain ⟨pq, hw''⟩ := hw'
  have hU := below_eq hw''
  clear hw'' pq
  have P1 := P.keep hU
  have hW1 := below_keep hW (hU.mono (Nat.le_refl _))
  clear P hW hU U1 U2 p0 p1 p2 p3 p4 p5 p6
  obtain ⟨p0, p1, p2, p3, p4, p5, p6, _⟩ := P1.cells7
  go_wp2_with fail
  refine (addr_Right _ _ _ _).mono ?_; rintro e w1 ⟨rfl, hx⟩
  have P2 := P1.keep hx
  have hW2 := below_step hW1 hx
  clear P1 hW1 hx p0 p1 p2 p3 p4 p5 p6
  obtain ⟨p0, p1, p2, p3, p4, p5, p6, _⟩ := P2.cells7
  go_wp2_with fail
  go_loopg [99] n (fun gk s99 wr => ∃ k : Nat, k ≤ n ∧ gk = n - k ∧ s99 = .int .i64 k ∧ Hid ((l.take k).any (twice ⟨s, 4, ab, wt, six, hi, lo⟩) = false) ∧ Blk wr w.heap.size 64 #[.string s, .int .i64 4, .int .i64 ab, .int .i64 wt, .bool six, .int .u64 hi, .int .u64 lo] ∧ Below w.heap.size w wr)
  case atStart => exact ⟨0, Nat.zero_le _, rfl, rfl, Lib.hid rfl, P2, hW2⟩
  case round =>
    clear P2 hW2 p0 p1 p2 p3 p4 p5 p6
    obtain ⟨k, hk, rfl, rfl, ha, P3, hW3⟩ := hrel
    by_cases hlt : k < n
    · obtain ⟨ad', e', hbk', c0, c1, c2, c3, c4, c5, c6⟩ := (hl.keep hW3).at_ hlt
      obtain rfl : ad' = ad := by injection e' with e'; exact e'.symm
      have hki : (k : Int) < (n : Int) := by omega
      have HT2 := Lib.hid (HT.out k (by rw [hlen.out]; exact hlt) ha.out)
      have HA2 := Lib.hid (HA.out k (by rw [hlen.out]; exact hlt))
      clear HT HA
      generalize l.getD k nd0 = y at *
      obtain ⟨ys, yk, ya, yw, y6, yh, yl⟩ := y
      dsimp only at *
      obtain ⟨p0, p1, p2, p3, p4, p5, p6, _⟩ := P3.cells7
      have p0 := fun o : Obj => cell_alloc p0 o
      have p1 := fun o : Obj => cell_alloc p1 o
      have p2 := fun o : Obj => cell_alloc p2 o
      have p3 := fun o : Obj => cell_alloc p3 o
      have p4 := fun o : Obj => cell_alloc p4 o
      have p5 := fun o : Obj => cell_alloc p5 o
      have p6 := fun o : Obj => cell_alloc p6 o
      go_wp2
      all_goals first
        | (go_ret
           exact ⟨ret_int (HR8.out (HA2.out (by unfold twice sameName sameAddr; dsimp only; grind))).symm, hW3.alloc hW3.size _⟩)
        | (have HS := Lib.hid (HT2.out (by unfold twice sameName sameAddr; dsimp only; grind))
           go_roundg (n - (k + 1))
           case measure => omega
           case rel => exact ⟨k + 1, by omega, rfl, by go_num, HS, P3.alloc _, hW3.alloc hW3.size _⟩)
        | (exfalso; grind)
    · obtain rfl : k = n := by omega
      have HN := Lib.hid (HR0.out (by have := ha.out; rwa [List.take_of_length_le (by rw [hlen.out]; exact Nat.le_refl _)] at this))
      go_wp2
      go_ret
      exact ⟨by rw [HN.out]; rfl, hW3⟩
theorem tree_right (x : Nd) (hx : x.Wf) (A : Option Addr) (n c : Nat) (l : List Nd) (w : World) (hl : IsNodes w A n c l) :
    Calls Try.prog 60 #[.agg #[.string x.name, .int .i64 x.kind, .int .i64 x.above, .int .i64 x.weight, .bool x.six, .int .u64 x.hi, .int .u64 x.lo], .slice A n c] w fun e w' => e = .returned (.int .i64 (rightC x l)) ∧ Below w.heap.size w w' := by
  by_cases h : headC x l = 0
  · have hk := headC_zero h
    have h0 := hk.kind0
    have h1 := hk.kind1
    rcases (by omega : x.kind = 1 ∨ x.kind = 2 ∨ x.kind = 3 ∨ x.kind = 4) with e | e | e | e
    · exact right_late1 x hx A n c l w hl h e
    · exact right_late2 x hx A n c l w hl h e
    · exact right_late3 x hx A n c l w hl h e
    · exact right_late4 x hx A n c l w hl h e
  · rw [rightC_head h]
    exact right_early x hx A n c l w hl h
end Go.Proofs.Ytblbgafadadbmaa
end
section
/- The law's own: name, Few, and why, up to those that are like it. (Written by gen_treed.py.) -/
set_option linter.unusedVariables false
namespace Go.Proofs.Ytblbgafadadbmaa
open Go.RowKit
set_option maxHeartbeats 4000000
set_option maxRecDepth 100000
theorem law_name (s : ByteArray) (w : World) (hs : s.size ≤ maxLen) :
    Calls Try.prog 58 #[.string s] w fun e w' => e = .returned (.bool (nameOk s)) ∧ w = w' := by
  unfold maxLen at hs
  by_cases g1 : s.size < 1
  · have HN := Lib.hid (name_short g1)
    go_enter Try.func58, Try.ntmps58
    go_wp2
    go_ret
    exact ⟨by rw [HN.out]; rfl, rfl⟩
  by_cases g2 : 32 < s.size
  · have HN := Lib.hid (name_long g2)
    go_enter Try.func58, Try.ntmps58
    go_wp2
    go_ret
    exact ⟨by rw [HN.out]; rfl, rfl⟩
  go_enter Try.func58, Try.ntmps58
  go_wp2
  go_loop [3] (fun i => ∃ k : Nat, k ≤ s.size ∧ i = .int .i64 k ∧ Hid ((s.data.toList.take k).all chOk = true)) (fun i => s.size - (intOf i).toNat)
  case atStart => exact ⟨0, Nat.zero_le _, rfl, Lib.hid (by simp)⟩
  case round =>
    obtain ⟨k, hk, rfl, ha⟩ := hrel
    by_cases hlt : k < s.size
    · have HS := Lib.hid (fun hc => all_step hlt ha.out hc)
      have HB := Lib.hid (fun hc => name_bad (s := s) hlt hc)
      clear ha
      go_wp2
      all_goals first
        | (go_round
           case rel => exact ⟨k + 1, by omega, by go_num, Lib.hid (HS.out (by unfold chP; grind))⟩
           case measure => simp [intOf]; omega)
        | (go_ret
           exact ⟨by rw [HB.out (by unfold chP; grind)]; rfl, rfl⟩)
    · obtain rfl : k = s.size := by omega
      have HN := Lib.hid (name_good (by omega) (by omega) ha.out)
      go_wp2
      go_ret
      exact ⟨by rw [HN.out]; rfl, rfl⟩
theorem law_Few (A : Option Addr) (n c : Nat) (hn : n ≤ c) (hc : c ≤ 9223372036854775807) (w : World) :
    Calls Try.prog 34 #[.slice A n c] w fun e w' => e = .returned (.slice A (min n 60) c) ∧ w = w' := by
  by_cases h : n ≤ 60
  · have h30 : decide ((60 : Int) < (n : Int)) = false := decide_eq_false (by omega)
    have hm := Lib.hid (show n = min n 60 by omega)
    go_enter Try.func34, Try.ntmps34
    go_wp2
    go_ret
    exact ⟨by rw [← hm.out]; rfl, rfl⟩
  · have h30 : decide ((60 : Int) < (n : Int)) = true := decide_eq_true (by omega)
    have hm := Lib.hid (show 60 = min n 60 by omega)
    have h3 : 60 ≤ c := by omega
    go_enter Try.func34, Try.ntmps34
    go_wp2
    go_ret
    exact ⟨by rw [← hm.out]; rfl, rfl⟩
theorem why_early (x : Nd) (hx : x.Wf) (A : Option Addr) (n c : Nat) (l : List Nd) (w : World) (hl : IsNodes w A n c l) (h : headC x l ≠ 0 ) :
    Calls Try.prog 35 #[.agg #[.string x.name, .int .i64 x.kind, .int .i64 x.above, .int .i64 x.weight, .bool x.six, .int .u64 x.hi, .int .u64 x.lo], .slice A n c] w fun e w' => e = .returned (.int .i64 (headC x l)) ∧ Below w.heap.size w w' := by
  obtain ⟨s, kd, ab, wt, six, hi, lo⟩ := x
  obtain ⟨hs, b1, b2, b3, b4, b5, b6, b7, b8, b9, b10⟩ := hx
  dsimp only at *
  have hcap := hl.cap
  have hsm := hl.small
  have hlen := hl.len
  have H0 := Lib.hid h
  clear h
  have A0 := fun w => law_name s w hs
  have P := Blk.new w 64 #[.string s, .int .i64 kd, .int .i64 ab, .int .i64 wt, .bool six, .int .u64 hi, .int .u64 lo]
  have hW : Below w.heap.size w (w.alloc (.cells #[.string s, .int .i64 kd, .int .i64 ab, .int .i64 wt, .bool six, .int .u64 hi, .int .u64 lo] 64)) := (Below.refl _ _).alloc (Nat.le_refl _) _
  go_enter Try.func35, Try.ntmps35
  go_wp2_with ((go_at_call 58; refine (A0 _).mono ?_; rintro e w1 ⟨rfl, rfl⟩))
  all_goals first
    | (go_ret
       exact ⟨ret_int (by unfold headC; dsimp only; grind), (Below.refl _ _).alloc (Nat.le_refl _) _⟩)
    | skip
  · have hk : kd = 1 := by assumption
    subst hk
    have hk2 : ab = -1 := by assumption
    subst hk2
    generalize w.alloc (.cells #[.string s, .int .i64 1, .int .i64 (-1), .int .i64 wt, .bool six, .int .u64 hi, .int .u64 lo] 64) = u at *
    obtain ⟨p0, p1, p2, p3, p4, p5, p6, _⟩ := P.cells7
    have U1 := cell_under p1
    have U2 := cell_under p2
    refine wp_region_quiet_under (by kernel_rfl) (by kernel_rfl) ?_
    repeat (go_big_quiet_step ((fail)))
    refine wpQuiet_nil ?_
    intro wu hw'
    obtain ⟨pq, hw''⟩ := hw'
    have hU := below_eq hw''
    clear hw'' pq
    have P1 := P.keep hU
    have hW1 := below_keep hW (hU.mono (Nat.le_refl _))
    clear P hW hU U1 U2 p0 p1 p2 p3 p4 p5 p6
    obtain ⟨p0, p1, p2, p3, p4, p5, p6, _⟩ := P1.cells7
    go_wp2_with fail
    refine (addr_Right six hi lo _).mono ?_; rintro e w1 ⟨rfl, hx⟩
    have P2 := P1.keep hx
    have hW2 := below_step hW1 hx
    clear P1 hW1 hx p0 p1 p2 p3 p4 p5 p6
    obtain ⟨p0, p1, p2, p3, p4, p5, p6, _⟩ := P2.cells7
    go_wp2
    all_goals first
      | (go_ret
         exact ⟨ret_int (by unfold headC noAddr; dsimp only; grind), hW2⟩)
      | (exfalso
         exact H0.out (by unfold headC noAddr; dsimp only; grind))
  · obtain ⟨ad, rfl, hbk, hat⟩ := hl.at_ (k := ab.toNat) (by omega)
    have U3 := cell_under (cell_alloc hat.kind (.cells #[.string s, .int .i64 kd, .int .i64 ab, .int .i64 wt, .bool six, .int .u64 hi, .int .u64 lo] 64))
    clear hat
    have hab : ab < (n : Int) := by omega
    have hab0 : (0 : Int) ≤ ab := by omega
    have hkk : IntKind.i64.wrap (kd - 1) = kd - 1 := IntWalk.i64_in _ (by omega)
    generalize w.alloc (.cells #[.string s, .int .i64 kd, .int .i64 ab, .int .i64 wt, .bool six, .int .u64 hi, .int .u64 lo] 64) = u at *
    obtain ⟨p0, p1, p2, p3, p4, p5, p6, _⟩ := P.cells7
    have U1 := cell_under p1
    have U2 := cell_under p2
    obtain ⟨z, hz⟩ : ∃ z, z = (l.getD ab.toNat nd0).kind := ⟨_, rfl⟩
    rw [← hz] at U3
    have HZ := Lib.hid hz
    clear hz
    refine wp_region_quiet_under (by kernel_rfl) (by kernel_rfl) ?_
    repeat (go_big_quiet_step ((fail)))
    refine wpQuiet_nil ?_
    intro wu hw'
    obtain ⟨pq, hw''⟩ := hw'
    have hU := below_eq hw''
    clear hw'' pq
    clear hkk U3
    by_cases hzk : z = kd - 1
    · have g1 : (z != kd - 1) = false := by simp [hzk]
      have HZK := Lib.hid hzk
      clear hzk
      have P1 := P.keep hU
      have hW1 := below_keep hW (hU.mono (Nat.le_refl _))
      clear P hW hU U1 U2 p0 p1 p2 p3 p4 p5 p6
      obtain ⟨p0, p1, p2, p3, p4, p5, p6, _⟩ := P1.cells7
      go_wp2_with fail
      refine (addr_Right six hi lo _).mono ?_; rintro e w1 ⟨rfl, hx⟩
      have P2 := P1.keep hx
      have hW2 := below_step hW1 hx
      clear P1 hW1 hx p0 p1 p2 p3 p4 p5 p6
      obtain ⟨p0, p1, p2, p3, p4, p5, p6, _⟩ := P2.cells7
      go_wp2
      all_goals first
        | (go_ret
           exact ⟨ret_int (by have hz := HZ.out; have hzk := HZK.out; unfold headC noAddr; dsimp only; grind), hW2⟩)
        | (exfalso
           exact H0.out (by have hz := HZ.out; have hzk := HZK.out; unfold headC noAddr; dsimp only; grind))
    · have g1 : (z != kd - 1) = true := by simp [hzk]
      have HZK := Lib.hid hzk
      have hW1 := below_keep hW (hU.mono (Nat.le_refl _))
      clear P hW hU U1 U2 p0 p1 p2 p3 p4 p5 p6 hzk
      go_wp2
      go_ret
      exact ⟨ret_int (by have hz := HZ.out; have hzk := HZK.out; unfold headC noAddr; dsimp only; grind), hW1⟩
end Go.Proofs.Ytblbgafadadbmaa
end
