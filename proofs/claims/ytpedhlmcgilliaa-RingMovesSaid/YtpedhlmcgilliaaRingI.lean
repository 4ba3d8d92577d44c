/- RingMoves. -/
import Derived.Test.YtpedhlmcgilliaaRingH
import Derived.DeepKeys
set_option linter.unusedVariables false
namespace Go.Proofs.Ytpedhlmcgilliaa
open Go.RowKit
set_option maxHeartbeats 8000000
set_option maxRecDepth 100000
theorem sizeTwo : (Try.prog.info? 103).map (·.size) = some 2 := by kernel_rfl
/-- A host's number, and whether there is one. -/
def idA (l : List (Int × Int)) (k : Int) : Int := if 0 ≤ k ∧ k < l.length then 1 else 0
def idB (l : List (Int × Int)) (k : Int) : Int := if 0 ≤ k ∧ k < l.length then (itm l k.toNat).1 else 0
theorem ring_id (A : Option Addr) (n c : Nat) (l : List (Int × Int)) (z : Int) (w : World) (h : IsPairs w .u64 .i64 A n c l) :
    Calls Try.prog 53 #[.int .i64 z, .slice A n c] w fun e w' => e = .returned (.agg #[.int .u64 (idA l z), .int .u64 (idB l z)]) ∧ Below w.heap.size w w' := by
  have hA : Below w.heap.size w (w.alloc (.cells #[.int .u64 0, .int .u64 0] 103)) := (Below.refl _ _).alloc (Nat.le_refl _) _
  have hP := Blk.new w 103 #[.int .u64 0, .int .u64 0]
  obtain ⟨p0, p1, _⟩ := hP.cells2
  obtain ⟨f0, f1⟩ := hP.free2
  have h1 := h.keep hA
  have hcap := h.cap
  have hsm := h.small
  have hlen := h.len
  have HIA := Lib.hid (show idA l z = if 0 ≤ z ∧ z < l.length then 1 else 0 from rfl)
  have HIB := Lib.hid (show idB l z = if 0 ≤ z ∧ z < l.length then (itm l z.toNat).1 else 0 from rfl)
  rw [hlen] at HIA HIB
  generalize idA l z = ia at *
  generalize idB l z = ib at *
  clear hlen h
  go_enter Try.func53, Try.ntmps53
  go_upto_region 1 with (fail)
  generalize w.alloc (.cells #[.int .u64 0, .int .u64 0] 103) = u at *
  by_cases hz : 0 ≤ z ∧ z < n
  · obtain ⟨k, rfl⟩ : ∃ k : Nat, z = k := ⟨z.toNat, by omega⟩
    have hkn : k < n := by omega
    have g1 : decide ((k : Int) < 0) = false := decide_eq_false (by omega)
    have g2 : decide ((n : Int) ≤ (k : Int)) = false := decide_eq_false (by omega)
    have hki : (k : Int) < (n : Int) := by omega
    rw [if_pos hz] at HIA HIB
    rw [Int.toNat_natCast] at HIB
    obtain ⟨ad, rfl, hbk, y0, y1, _⟩ := h1.at_ hkn
    obtain ⟨a, ha⟩ : ∃ a, a = (itm l k).1 := ⟨_, rfl⟩
    rw [show (l.getD k (0, 0)).1 = a from ha.symm] at y0
    rw [← ha] at HIB
    clear ha hz y1
    go_wp2
    have hQ : Blk ((u.setCell ⟨w.heap.size, 0, none⟩ (.int .u64 1)).setCell ⟨w.heap.size, 1, none⟩ (.int .u64 a)) w.heap.size 103 #[.int .u64 1, .int .u64 a] := (hP.setTo 0 (.int .u64 1) rfl).setTo 1 (.int .u64 a) rfl
    refine bodyPost_ret (v := .agg #[.int .u64 1, .int .u64 a]) ?_ rfl ⟨by rw [HIA.out, HIB.out], below_own (below_own hA (Nat.le_refl _) 0 _) (Nat.le_refl _) 1 _⟩
    exact results_cell_row rfl _ _ _ _ _ (0, 0) _ rfl hQ Try.underlying103 rfl sizeTwo
  · rw [if_neg hz] at HIA HIB
    by_cases hz0 : z < 0
    · have g1 : decide (z < 0) = true := decide_eq_true hz0
      clear hz
      go_wp2
      have hQ : Blk ((u.setCell ⟨w.heap.size, 0, none⟩ (.int .u64 0)).setCell ⟨w.heap.size, 1, none⟩ (.int .u64 0)) w.heap.size 103 #[.int .u64 0, .int .u64 0] := (hP.setTo 0 (.int .u64 0) rfl).setTo 1 (.int .u64 0) rfl
      refine bodyPost_ret (v := .agg #[.int .u64 0, .int .u64 0]) ?_ rfl ⟨by rw [HIA.out, HIB.out], below_own (below_own hA (Nat.le_refl _) 0 _) (Nat.le_refl _) 1 _⟩
      exact results_cell_row rfl _ _ _ _ _ (0, 0) _ rfl hQ Try.underlying103 rfl sizeTwo
    · have g1 : decide (z < 0) = false := decide_eq_false hz0
      have g2 : decide ((n : Int) ≤ z) = true := decide_eq_true (by omega)
      clear hz
      go_wp2
      have hQ : Blk ((u.setCell ⟨w.heap.size, 0, none⟩ (.int .u64 0)).setCell ⟨w.heap.size, 1, none⟩ (.int .u64 0)) w.heap.size 103 #[.int .u64 0, .int .u64 0] := (hP.setTo 0 (.int .u64 0) rfl).setTo 1 (.int .u64 0) rfl
      refine bodyPost_ret (v := .agg #[.int .u64 0, .int .u64 0]) ?_ rfl ⟨by rw [HIA.out, HIB.out], below_own (below_own hA (Nat.le_refl _) 0 _) (Nat.le_refl _) 1 _⟩
      exact results_cell_row rfl _ _ _ _ _ (0, 0) _ rfl hQ Try.underlying103 rfl sizeTwo
theorem key_two : Try.prog.keyTypeAt 2 103 = true := by kernel_rfl
theorem cells_two : Try.prog.cellsOf 103 = 2 := by kernel_rfl
theorem lits_two (a b : Int) (ha : (Lit.int .u64 a).wf = true) (hb : (Lit.int .u64 b).wf = true) : Try.prog.keyLits 5 103 [.int .u64 a, .int .u64 b] = some [.int .u64 a, .int .u64 b] := by
  have h1 : ∀ z, (Lit.int .u64 z).wf = true → Try.prog.keyLits 4 22 [.int .u64 z] = some [.int .u64 z] := fun z hz => by
    unfold Program.keyLits
    rw [Try.underlying22]
    simp [hz]
  unfold Program.keyLits
  rw [Try.underlying103]
  simp [cells_two, Try.cellsU64, List.range_succ, h1 a ha, h1 b hb]
theorem idA_wf (l : List (Int × Int)) (z : Int) : (Lit.int .u64 (idA l z)).wf = true := by unfold idA; split <;> decide
theorem idB_wf {w : World} {A : Option Addr} {n c : Nat} {l : List (Int × Int)} (h : IsPairs w .u64 .i64 A n c l) (z : Int) : (Lit.int .u64 (idB l z)).wf = true := by
  unfold idB
  split
  · rename_i hz
    have e : l[z.toNat]? = some (itm l z.toNat) := by unfold itm; rw [List.getD_eq_getElem?_getD, List.getElem?_eq_getElem (by omega)]; rfl
    exact (h.wf _ (List.mem_of_getElem? e)).1
  · decide
theorem formed_two (a b : Int) : (Value.agg #[.int .u64 a, .int .u64 b]).formed Try.prog 103 = true := by kernel_rfl
theorem eq_two (a b c d : Int) (ha : (Lit.int .u64 a).wf = true) (hb : (Lit.int .u64 b).wf = true) (hc : (Lit.int .u64 c).wf = true) (hd : (Lit.int .u64 d).wf = true) (w : World) : (Op.equalIn 10000 103 (.agg #[.int .u64 a, .int .u64 b]) (.agg #[.int .u64 c, .int .u64 d])).run Try.prog w = .ok (a == c && b == d) w := by
  obtain ⟨r, h1, h2⟩ := run_equalIn_deep 9998 2 103 key_two w 5 5 _ _ _ _ (formed_two a b) (formed_two c d) (lits_two a b ha hb) (lits_two c d hc hd)
  rw [show (10000 : Nat) = 9998 + 2 from rfl, h1]
  have : r = (a == c && b == d) := by
    apply Bool.eq_iff_iff.2
    rw [h2]
    simp
  rw [this]
theorem run_neq_two (a b c d : Int) (ha : (Lit.int .u64 a).wf = true) (hb : (Lit.int .u64 b).wf = true) (hc : (Lit.int .u64 c).wf = true) (hd : (Lit.int .u64 d).wf = true) (w : World) : (binOp .neq 103 (.agg #[.int .u64 a, .int .u64 b]) (.agg #[.int .u64 c, .int .u64 d])).run Try.prog w = .ok (.bool (!(a == c && b == d))) w := by
  rw [run_neq_struct, eq_two a b c d ha hb hc hd]; rfl
/-- Have two places unlike items? -/
def unlikeN (x y : List (Int × Int)) (a b : Int) : Bool := !(idA x a == idA y b && idB x a == idB y b)
def movedTo (x y : List (Int × Int)) (oa ob : Nat → Int) (k : Nat) : Nat := (List.range k).countP fun i => unlikeN x y (oa i) (ob i)
theorem movedTo_step (x y : List (Int × Int)) (oa ob : Nat → Int) (k : Nat) : movedTo x y oa ob (k + 1) = movedTo x y oa ob k + if unlikeN x y (oa k) (ob k) = true then 1 else 0 := by
  unfold movedTo; rw [List.range_succ, List.countP_append, List.countP_singleton]
theorem movedTo_le (x y : List (Int × Int)) (oa ob : Nat → Int) (k : Nat) : movedTo x y oa ob k ≤ k := by
  unfold movedTo
  exact Nat.le_trans List.countP_le_length (by rw [List.length_range]; exact Nat.le_refl _)
theorem movedTo_same (x : List (Int × Int)) (oa : Nat → Int) (k : Nat) : movedTo x x oa oa k = 0 := by
  unfold movedTo
  rw [List.countP_eq_zero]
  intro i _
  simp [unlikeN]
theorem ring_MovedSizes {w : World} {ga la p gb lb q : Nat} {oa ob : Nat → Int} (ha : RG w ga la p oa) (hb : RG w gb lb q ob) (hpq : p ≠ q) (v v' : Value) :
    Calls Try.prog 30 #[.pointer (some ⟨ga, 0, none⟩), v, .pointer (some ⟨gb, 0, none⟩), v'] w fun e w' => e = .returned (.int .i64 (-1)) ∧ w = w' := by
  have hA := ring_Size ha
  have hB := ring_Size hb
  have g1 : ((p : Int) != (q : Int)) = true := by simp; omega
  go_enter Try.func30, Try.ntmps30
  go_wp2_with fail
  refine hA.mono ?_; rintro e w' ⟨rfl, rfl⟩
  go_wp2_with fail
  refine hB.mono ?_; rintro e w' ⟨rfl, rfl⟩
  go_wp2
  go_ret
  exact ⟨rfl, rfl⟩
theorem ring_Moved {w : World} {ga la p gb lb : Nat} {oa ob : Nat → Int} (ha : RG w ga la p oa) (hb : RG w gb lb p ob) (hp1 : p ≤ 65537) (A : Option Addr) (n c : Nat) (x : List (Int × Int)) (hx : IsPairs w .u64 .i64 A n c x) (A' : Option Addr) (n' c' : Nat) (y : List (Int × Int)) (hy : IsPairs w .u64 .i64 A' n' c' y) :
    Calls Try.prog 30 #[.pointer (some ⟨ga, 0, none⟩), .slice A n c, .pointer (some ⟨gb, 0, none⟩), .slice A' n' c'] w fun e w' => e = .returned (.int .i64 (movedTo x y oa ob p : Nat)) ∧ Below w.heap.size w w' := by
  have hA := ring_Size ha
  have hB := ring_Size hb
  have g1 : ((p : Int) != (p : Int)) = false := by simp
  go_enter Try.func30, Try.ntmps30
  go_wp2_with fail
  refine hA.mono ?_; rintro e w' ⟨rfl, rfl⟩
  go_wp2_with fail
  refine hB.mono ?_; rintro e w' ⟨rfl, rfl⟩
  clear hB
  go_wp2_with fail
  refine hA.mono ?_; rintro e w' ⟨rfl, rfl⟩
  clear hA g1
  go_wp2_with fail
  go_loopg [9, 20] p (fun gk s9 s20 wr => ∃ k : Nat, k ≤ p ∧ gk = p - k ∧ s20 = .int .i64 k ∧ s9 = .int .i64 (movedTo x y oa ob k : Nat) ∧ Below w.heap.size w wr)
  case atStart => exact ⟨0, Nat.zero_le _, rfl, rfl, rfl, Below.refl _ _⟩
  case round =>
    obtain ⟨k, hk, rfl, rfl, rfl, hW⟩ := hrel
    have hle := movedTo_le x y oa ob k
    by_cases hkp : k < p
    · have hki : (k : Int) < (p : Int) := by omega
      have HST := Lib.hid (movedTo_step x y oa ob k)
      have ca := (ha.keep hW).row.cell hkp
      have cb := (hb.keep hW).row.cell hkp
      have qa := (ha.keep hW).blk.cells1.1
      have qb := (hb.keep hW).blk.cells1.1
      obtain ⟨za, hza⟩ : ∃ z, z = oa k := ⟨_, rfl⟩
      obtain ⟨zb, hzb⟩ : ∃ z, z = ob k := ⟨_, rfl⟩
      rw [← hza] at ca HST
      rw [← hzb] at cb HST
      clear hza hzb
      have IX := fun (w : World) (z : Int) (h : IsPairs w .u64 .i64 A n c x) => ring_id A n c x z w h
      have IY := fun (w : World) (z : Int) (h : IsPairs w .u64 .i64 A' n' c' y) => ring_id A' n' c' y z w h
      have HUL := Lib.hid (show unlikeN x y za zb = !(idA x za == idA y zb && idB x za == idB y zb) from rfl)
      have ha1 := fun w h => IX w za h
      have hb1 := fun w h => IY w zb h
      have f1 := idA_wf x za
      have f2 := idB_wf hx za
      have f3 := idA_wf y zb
      have f4 := idB_wf hy zb
      generalize idA x za = xa at *
      generalize idB x za = xb at *
      generalize idA y zb = ya at *
      generalize idB y zb = yb at *
      clear IX IY
      obtain ⟨mt, hmt⟩ : ∃ m, m = movedTo x y oa ob k := ⟨_, rfl⟩
      rw [← hmt] at hle HST ⊢
      clear hmt
      go_wp2_with fail
      go_cut [11, 12] (fun s11 s12 wx => ∃ b1 b2 : Nat, s11 = .pointer (some ⟨b1, 0, none⟩) ∧ s12 = .pointer (some ⟨b2, 0, none⟩) ∧ Blk wx b1 103 #[.int .u64 xa, .int .u64 xb] ∧ Blk wx b2 103 #[.int .u64 ya, .int .u64 yb] ∧ Below wr.heap.size wr wx)
      case first =>
        refine wp_region_noPanic ?_
        refine wp_region_held_drew (S := fun w' => Below wr.heap.size wr w') (by kernel_rfl) (Below.refl _ _).drew (fun hHeld => ?_)
        refine take_one (i := 0) (oi := ?oi_1) (v := ?v_1) ?hi_1 (by kernel_rfl) (by kernel_rfl) (by kernel_rfl) ?hq_1 ?hw_1 ?hy_1 (by assumption) ?rest_1
        case hi_1 => (simp only [List.getElem?_toArray, List.getElem?_cons_succ, List.getElem?_cons_zero]; rfl)
        case hq_1 => exact fun _ _ _ h => h
        case hw_1 => rfl
        case hy_1 => (intro w' hSw; (have u1 := cell_keep qa hSw; have u2 := cell_keep qb hSw; have u3 := cell_keep ca hSw; have u4 := cell_keep cb hSw); go_simp; first | done | with_reducible rfl)
        try simp only [Act.put, List.setIfInBounds_toArray, List.set_cons_zero, List.set_cons_succ]
        refine take_one (i := 1) (oi := ?oi_2) (v := ?v_2) ?hi_2 (by kernel_rfl) (by kernel_rfl) (by kernel_rfl) ?hq_2 ?hw_2 ?hy_2 (by assumption) ?rest_2
        case hi_2 => (simp only [List.getElem?_toArray, List.getElem?_cons_succ, List.getElem?_cons_zero]; rfl)
        case hq_2 => exact fun _ _ _ h => h
        case hw_2 => rfl
        case hy_2 => (intro w' hSw; (have u1 := cell_keep qa hSw; have u2 := cell_keep qb hSw; have u3 := cell_keep ca hSw; have u4 := cell_keep cb hSw); go_simp; first | done | with_reducible rfl)
        try simp only [Act.put, List.setIfInBounds_toArray, List.set_cons_zero, List.set_cons_succ]
        refine take_one (i := 2) (oi := ?oi_3) (v := ?v_3) ?hi_3 (by kernel_rfl) (by kernel_rfl) (by kernel_rfl) ?hq_3 ?hw_3 ?hy_3 (by assumption) ?rest_3
        case hi_3 => (simp only [List.getElem?_toArray, List.getElem?_cons_succ, List.getElem?_cons_zero]; rfl)
        case hq_3 => exact fun _ _ _ h => h
        case hw_3 => rfl
        case hy_3 => (intro w' hSw; (have u1 := cell_keep qa hSw; have u2 := cell_keep qb hSw; have u3 := cell_keep ca hSw; have u4 := cell_keep cb hSw); go_simp; first | done | with_reducible rfl)
        try simp only [Act.put, List.setIfInBounds_toArray, List.set_cons_zero, List.set_cons_succ]
        refine take_one (i := 3) (oi := ?oi_4) (v := ?v_4) ?hi_4 (by kernel_rfl) (by kernel_rfl) (by kernel_rfl) ?hq_4 ?hw_4 ?hy_4 (by assumption) ?rest_4
        case hi_4 => (simp only [List.getElem?_toArray, List.getElem?_cons_succ, List.getElem?_cons_zero]; rfl)
        case hq_4 => exact fun _ _ _ h => h
        case hw_4 => rfl
        case hy_4 => (intro w' hSw; (have u1 := cell_keep qa hSw; have u2 := cell_keep qb hSw; have u3 := cell_keep ca hSw; have u4 := cell_keep cb hSw); go_simp; first | done | with_reducible rfl)
        try simp only [Act.put, List.setIfInBounds_toArray, List.set_cons_zero, List.set_cons_succ]
        refine take_one (i := 4) (oi := ?oi_5) (v := ?v_5) ?hi_5 (by kernel_rfl) (by kernel_rfl) (by kernel_rfl) ?hq_5 ?hw_5 ?hy_5 (by assumption) ?rest_5
        case hi_5 => (simp only [List.getElem?_toArray, List.getElem?_cons_succ, List.getElem?_cons_zero]; rfl)
        case hq_5 => exact fun _ _ _ h => h
        case hw_5 => rfl
        case hy_5 => (intro w' hSw; (have u1 := cell_keep qa hSw; have u2 := cell_keep qb hSw; have u3 := cell_keep ca hSw; have u4 := cell_keep cb hSw); go_simp; first | done | with_reducible rfl)
        try simp only [Act.put, List.setIfInBounds_toArray, List.set_cons_zero, List.set_cons_succ]
        refine take_one (i := 5) (oi := ?oi_6) (v := ?v_6) ?hi_6 (by kernel_rfl) (by kernel_rfl) (by kernel_rfl) ?hq_6 ?hw_6 ?hy_6 (by assumption) ?rest_6
        case hi_6 => (simp only [List.getElem?_toArray, List.getElem?_cons_succ, List.getElem?_cons_zero]; rfl)
        case hq_6 => exact fun _ _ _ h => h
        case hw_6 => rfl
        case hy_6 => (intro w' hSw; (have u1 := cell_keep qa hSw; have u2 := cell_keep qb hSw; have u3 := cell_keep ca hSw; have u4 := cell_keep cb hSw); go_simp; first | done | with_reducible rfl)
        try simp only [Act.put, List.setIfInBounds_toArray, List.set_cons_zero, List.set_cons_succ]
        refine take_one (i := 6) (oi := ?oi_7) (v := ?v_7) ?hi_7 (by kernel_rfl) (by kernel_rfl) (by kernel_rfl) ?hq_7 ?hw_7 ?hy_7 (by assumption) ?rest_7
        case hi_7 => (simp only [List.getElem?_toArray, List.getElem?_cons_succ, List.getElem?_cons_zero]; rfl)
        case hq_7 => exact fun _ _ _ h => h
        case hw_7 => rfl
        case hy_7 => (intro w' hSw; (have u1 := cell_keep qa hSw; have u2 := cell_keep qb hSw; have u3 := cell_keep ca hSw; have u4 := cell_keep cb hSw); go_simp; first | done | with_reducible rfl)
        try simp only [Act.put, List.setIfInBounds_toArray, List.set_cons_zero, List.set_cons_succ]
        refine take_one (i := 7) (oi := ?oi_8) (v := ?v_8) ?hi_8 (by kernel_rfl) (by kernel_rfl) (by kernel_rfl) ?hq_8 ?hw_8 ?hy_8 (by assumption) ?rest_8
        case hi_8 => (simp only [List.getElem?_toArray, List.getElem?_cons_succ, List.getElem?_cons_zero]; rfl)
        case hq_8 => exact fun _ _ _ h => h
        case hw_8 => rfl
        case hy_8 => (intro w' hSw; (have u1 := cell_keep qa hSw; have u2 := cell_keep qb hSw; have u3 := cell_keep ca hSw; have u4 := cell_keep cb hSw); go_simp; first | done | with_reducible rfl)
        try simp only [Act.put, List.setIfInBounds_toArray, List.set_cons_zero, List.set_cons_succ]
        refine take_one (i := 9) (oi := ?oi_9) (v := ?v_9) ?hi_9 (by kernel_rfl) (by kernel_rfl) (by kernel_rfl) ?hq_9 ?hw_9 ?hy_9 (by assumption) ?rest_9
        case hi_9 => (simp only [List.getElem?_toArray, List.getElem?_cons_succ, List.getElem?_cons_zero]; rfl)
        case hq_9 => exact fun _ _ _ h => h
        case hw_9 => rfl
        case hy_9 => (intro w' hSw; (have u1 := cell_keep qa hSw; have u2 := cell_keep qb hSw; have u3 := cell_keep ca hSw; have u4 := cell_keep cb hSw); go_simp; first | done | with_reducible rfl)
        try simp only [Act.put, List.setIfInBounds_toArray, List.set_cons_zero, List.set_cons_succ]
        refine take_one (i := 10) (oi := ?oi_10) (v := ?v_10) ?hi_10 (by kernel_rfl) (by kernel_rfl) (by kernel_rfl) ?hq_10 ?hw_10 ?hy_10 (by assumption) ?rest_10
        case hi_10 => (simp only [List.getElem?_toArray, List.getElem?_cons_succ, List.getElem?_cons_zero]; rfl)
        case hq_10 => exact fun _ _ _ h => h
        case hw_10 => rfl
        case hy_10 => (intro w' hSw; (have u1 := cell_keep qa hSw; have u2 := cell_keep qb hSw; have u3 := cell_keep ca hSw; have u4 := cell_keep cb hSw); go_simp; first | done | with_reducible rfl)
        try simp only [Act.put, List.setIfInBounds_toArray, List.set_cons_zero, List.set_cons_succ]
        refine take_one (i := 11) (oi := ?oi_11) (v := ?v_11) ?hi_11 (by kernel_rfl) (by kernel_rfl) (by kernel_rfl) ?hq_11 ?hw_11 ?hy_11 (by assumption) ?rest_11
        case hi_11 => (simp only [List.getElem?_toArray, List.getElem?_cons_succ, List.getElem?_cons_zero]; rfl)
        case hq_11 => exact fun _ _ _ h => h
        case hw_11 => rfl
        case hy_11 => (intro w' hSw; (have u1 := cell_keep qa hSw; have u2 := cell_keep qb hSw; have u3 := cell_keep ca hSw; have u4 := cell_keep cb hSw); go_simp; first | done | with_reducible rfl)
        try simp only [Act.put, List.setIfInBounds_toArray, List.set_cons_zero, List.set_cons_succ]
        refine take_one (i := 12) (oi := ?oi_12) (v := ?v_12) ?hi_12 (by kernel_rfl) (by kernel_rfl) (by kernel_rfl) ?hq_12 ?hw_12 ?hy_12 (by assumption) ?rest_12
        case hi_12 => (simp only [List.getElem?_toArray, List.getElem?_cons_succ, List.getElem?_cons_zero]; rfl)
        case hq_12 => exact fun _ _ _ h => h
        case hw_12 => rfl
        case hy_12 => (intro w' hSw; (have u1 := cell_keep qa hSw; have u2 := cell_keep qb hSw; have u3 := cell_keep ca hSw; have u4 := cell_keep cb hSw); go_simp; first | done | with_reducible rfl)
        try simp only [Act.put, List.setIfInBounds_toArray, List.set_cons_zero, List.set_cons_succ]
        refine take_one (i := 13) (oi := ?oi_13) (v := ?v_13) ?hi_13 (by kernel_rfl) (by kernel_rfl) (by kernel_rfl) ?hq_13 ?hw_13 ?hy_13 (by assumption) ?rest_13
        case hi_13 => (simp only [List.getElem?_toArray, List.getElem?_cons_succ, List.getElem?_cons_zero]; rfl)
        case hq_13 => exact fun _ _ _ h => h
        case hw_13 => rfl
        case hy_13 => (intro w' hSw; (have u1 := cell_keep qa hSw; have u2 := cell_keep qb hSw; have u3 := cell_keep ca hSw; have u4 := cell_keep cb hSw); go_simp; first | done | with_reducible rfl)
        try simp only [Act.put, List.setIfInBounds_toArray, List.set_cons_zero, List.set_cons_succ]
        refine take_one (i := 14) (oi := ?oi_14) (v := ?v_14) ?hi_14 (by kernel_rfl) (by kernel_rfl) (by kernel_rfl) ?hq_14 ?hw_14 ?hy_14 (by assumption) ?rest_14
        case hi_14 => (simp only [List.getElem?_toArray, List.getElem?_cons_succ, List.getElem?_cons_zero]; rfl)
        case hq_14 => exact fun _ _ _ h => h
        case hw_14 => rfl
        case hy_14 => (intro w' hSw; (have u1 := cell_keep qa hSw; have u2 := cell_keep qb hSw; have u3 := cell_keep ca hSw; have u4 := cell_keep cb hSw); go_simp; first | done | with_reducible rfl)
        try simp only [Act.put, List.setIfInBounds_toArray, List.set_cons_zero, List.set_cons_succ]
        refine take_one (i := 15) (oi := ?oi_15) (v := ?v_15) ?hi_15 (by kernel_rfl) (by kernel_rfl) (by kernel_rfl) ?hq_15 ?hw_15 ?hy_15 (by assumption) ?rest_15
        case hi_15 => (simp only [List.getElem?_toArray, List.getElem?_cons_succ, List.getElem?_cons_zero]; rfl)
        case hq_15 => exact fun _ _ _ h => h
        case hw_15 => rfl
        case hy_15 => (intro w' hSw; (have u1 := cell_keep qa hSw; have u2 := cell_keep qb hSw; have u3 := cell_keep ca hSw; have u4 := cell_keep cb hSw); go_simp; first | done | with_reducible rfl)
        try simp only [Act.put, List.setIfInBounds_toArray, List.set_cons_zero, List.set_cons_succ]
        refine take_one (i := 16) (oi := ?oi_16) (v := ?v_16) ?hi_16 (by kernel_rfl) (by kernel_rfl) (by kernel_rfl) ?hq_16 ?hw_16 ?hy_16 (by assumption) ?rest_16
        case hi_16 => (simp only [List.getElem?_toArray, List.getElem?_cons_succ, List.getElem?_cons_zero]; rfl)
        case hq_16 => exact fun _ _ _ h => h
        case hw_16 => rfl
        case hy_16 => (intro w' hSw; (have u1 := cell_keep qa hSw; have u2 := cell_keep qb hSw; have u3 := cell_keep ca hSw; have u4 := cell_keep cb hSw); go_simp; first | done | with_reducible rfl)
        try simp only [Act.put, List.setIfInBounds_toArray, List.set_cons_zero, List.set_cons_succ]
        generalize wr.drew = vx0 at *
        refine wpAnyH_ready (rs := [8, 18, 19]) (by kernel_rfl) (by simp) ?_
        refine AllReadyH.cons (i := 8) (o := ?o_17_8) ?h_17_8 (fun K hK => ?_) (AllReadyH.cons (i := 18) (o := ?o_17_18) ?h_17_18 (fun K hK => ?_) (AllReadyH.cons (i := 19) (o := ?o_17_19) ?h_17_19 (fun K hK => ?_) AllReadyH.nil))
        case h_17_8 => (simp only [List.getElem?_toArray, List.getElem?_cons_succ, List.getElem?_cons_zero]; rfl)
        case h_17_18 => (simp only [List.getElem?_toArray, List.getElem?_cons_succ, List.getElem?_cons_zero]; rfl)
        case h_17_19 => (simp only [List.getElem?_toArray, List.getElem?_cons_succ, List.getElem?_cons_zero]; rfl)
        · as_aux_lemma =>
            go_simp
            (go_at_call 53; refine (ha1 vx0 ((hx.keep hW).keep hHeld)).mono ?_; rintro e vx18 ⟨rfl, hxvx18⟩)
            try dsimp only
            refine hK.out _ _ (below_step hHeld hxvx18) (fun hHeld => ?_)
            clear hK K
            try simp only [Act.put, List.setIfInBounds_toArray, List.set_cons_zero, List.set_cons_succ]
            refine wpAnyH_ready (rs := [17, 18, 19]) (by kernel_rfl) (by simp) ?_
            refine AllReadyH.cons (i := 17) (o := ?o_19_17) ?h_19_17 (fun K hK => ?_) (AllReadyH.cons (i := 18) (o := ?o_19_18) ?h_19_18 (fun K hK => ?_) (AllReadyH.cons (i := 19) (o := ?o_19_19) ?h_19_19 (fun K hK => ?_) AllReadyH.nil))
            case h_19_17 => (simp only [List.getElem?_toArray, List.getElem?_cons_succ, List.getElem?_cons_zero]; rfl)
            case h_19_18 => (simp only [List.getElem?_toArray, List.getElem?_cons_succ, List.getElem?_cons_zero]; rfl)
            case h_19_19 => (simp only [List.getElem?_toArray, List.getElem?_cons_succ, List.getElem?_cons_zero]; rfl)
            · as_aux_lemma =>
                go_simp
                (go_at_call 53; refine (hb1 vx18 ((hy.keep hW).keep hHeld)).mono ?_; rintro e vx20 ⟨rfl, hxvx20⟩)
                try dsimp only
                refine hK.out _ _ (below_step hHeld hxvx20) (fun hHeld => ?_)
                clear hK K
                try simp only [Act.put, List.setIfInBounds_toArray, List.set_cons_zero, List.set_cons_succ]
                refine wpAnyH_ready (rs := [18, 19]) (by kernel_rfl) (by simp) ?_
                refine AllReadyH.cons (i := 18) (o := ?o_21_18) ?h_21_18 (fun K hK => ?_) (AllReadyH.cons (i := 19) (o := ?o_21_19) ?h_21_19 (fun K hK => ?_) AllReadyH.nil)
                case h_21_18 => (simp only [List.getElem?_toArray, List.getElem?_cons_succ, List.getElem?_cons_zero]; rfl)
                case h_21_19 => (simp only [List.getElem?_toArray, List.getElem?_cons_succ, List.getElem?_cons_zero]; rfl)
                · as_aux_lemma =>
                    have B_p := Blk.new vx20 103 #[.int .u64 0, .int .u64 0]
                    have G_p : wr.heap.size ≤ vx20.heap.size := hHeld.size
                    have H_22 := Below.alloc hHeld hHeld.size (.cells #[.int .u64 0, .int .u64 0] 103)
                    go_simp
                    refine hK.out _ _ H_22 (fun hHeld => ?_)
                    clear hK K H_22
                    try simp only [Act.put, List.setIfInBounds_toArray, List.set_cons_zero, List.set_cons_succ]
                    generalize vx20.alloc (.cells #[.int .u64 0, .int .u64 0] 103) = vx22 at *
                    obtain ⟨b_p, hb_p⟩ : ∃ b, b = vx20.heap.size := ⟨_, rfl⟩
                    rw [← hb_p] at B_p G_p  ⊢
                    clear hb_p
                    refine wpAnyH_ready (rs := [19]) (by kernel_rfl) (by simp) ?_
                    refine AllReadyH.cons (i := 19) (o := ?o_23_19) ?h_23_19 (fun K hK => ?_) AllReadyH.nil
                    case h_23_19 => (simp only [List.getElem?_toArray, List.getElem?_cons_succ, List.getElem?_cons_zero]; rfl)
                    have B_q := Blk.new vx22 103 #[.int .u64 0, .int .u64 0]
                    have N_p_q : b_p ≠ vx22.heap.size := by have := B_p.lt; omega
                    have B_p := B_p.alloc (.cells #[.int .u64 0, .int .u64 0] 103)
                    have G_q : wr.heap.size ≤ vx22.heap.size := hHeld.size
                    have H_24 := Below.alloc hHeld hHeld.size (.cells #[.int .u64 0, .int .u64 0] 103)
                    go_simp
                    refine hK.out _ _ H_24 (fun hHeld => ?_)
                    clear hK K H_24
                    try simp only [Act.put, List.setIfInBounds_toArray, List.set_cons_zero, List.set_cons_succ]
                    generalize vx22.alloc (.cells #[.int .u64 0, .int .u64 0] 103) = vx24 at *
                    obtain ⟨b_q, hb_q⟩ : ∃ b, b = vx22.heap.size := ⟨_, rfl⟩
                    rw [← hb_q] at B_q G_q N_p_q ⊢
                    clear hb_q
                    refine wpAnyH_ready (rs := [20]) (by kernel_rfl) (by simp) ?_
                    refine AllReadyH.cons (i := 20) (o := ?o_25_20) ?h_25_20 (fun K hK => ?_) AllReadyH.nil
                    case h_25_20 => (simp only [List.getElem?_toArray, List.getElem?_cons_succ, List.getElem?_cons_zero]; rfl)
                    have H_26 := (below_own (below_own hHeld G_p 0 (.int .u64 xa)) G_p 1 (.int .u64 xb))
                    obtain ⟨cx26_0, cx26_1, _⟩ := B_p.cells2
                    obtain ⟨fx26_0, fx26_1⟩ := B_p.free2
                    have C_q := (Blk.far (p := ⟨b_p, 1, none⟩) (Blk.far (p := ⟨b_p, 0, none⟩) B_q N_p_q.symm (.int .u64 xa)) N_p_q.symm (.int .u64 xb))
                    have C_p := (Blk.setTo (Blk.setTo B_p 0 (.int .u64 xa) rfl) 1 (.int .u64 xb) rfl)
                    go_simp
                    refine hK.out _ _ H_26 (fun hHeld => ?_)
                    clear hK K H_26 cx26_0 fx26_0 cx26_1 fx26_1
                    try simp only [Act.put, List.setIfInBounds_toArray, List.set_cons_zero, List.set_cons_succ]
                    clear B_p B_q
                    have B_p := C_p
                    have B_q := C_q
                    clear C_p C_q
                    generalize ((vx24.setCell ⟨b_p, 0, none⟩ (.int .u64 xa)).setCell ⟨b_p, 1, none⟩ (.int .u64 xb)) = vx26 at *
                    refine wpAnyH_ready (rs := [21]) (by kernel_rfl) (by simp) ?_
                    refine AllReadyH.cons (i := 21) (o := ?o_27_21) ?h_27_21 (fun K hK => ?_) AllReadyH.nil
                    case h_27_21 => (simp only [List.getElem?_toArray, List.getElem?_cons_succ, List.getElem?_cons_zero]; rfl)
                    have H_28 := (below_own (below_own hHeld G_q 0 (.int .u64 ya)) G_q 1 (.int .u64 yb))
                    obtain ⟨cx28_0, cx28_1, _⟩ := B_q.cells2
                    obtain ⟨fx28_0, fx28_1⟩ := B_q.free2
                    have C_p := (Blk.far (p := ⟨b_q, 1, none⟩) (Blk.far (p := ⟨b_q, 0, none⟩) B_p N_p_q (.int .u64 ya)) N_p_q (.int .u64 yb))
                    have C_q := (Blk.setTo (Blk.setTo B_q 0 (.int .u64 ya) rfl) 1 (.int .u64 yb) rfl)
                    go_simp
                    refine hK.out _ _ H_28 (fun hHeld => ?_)
                    clear hK K H_28 cx28_0 fx28_0 cx28_1 fx28_1
                    try simp only [Act.put, List.setIfInBounds_toArray, List.set_cons_zero, List.set_cons_succ]
                    clear B_p B_q
                    have B_p := C_p
                    have B_q := C_q
                    clear C_p C_q
                    generalize ((vx26.setCell ⟨b_q, 0, none⟩ (.int .u64 ya)).setCell ⟨b_q, 1, none⟩ (.int .u64 yb)) = vx28 at *
                    refine wpAnyH_done (by kernel_rfl) (NoPanic.normal ?_) _
                    go_wp2_with fail
                    go_meet
                    exact ⟨_, _, rfl, rfl, B_p, B_q, hHeld⟩
                · as_aux_lemma =>
                    have B_q := Blk.new vx20 103 #[.int .u64 0, .int .u64 0]
                    have G_q : wr.heap.size ≤ vx20.heap.size := hHeld.size
                    have H_29 := Below.alloc hHeld hHeld.size (.cells #[.int .u64 0, .int .u64 0] 103)
                    go_simp
                    refine hK.out _ _ H_29 (fun hHeld => ?_)
                    clear hK K H_29
                    try simp only [Act.put, List.setIfInBounds_toArray, List.set_cons_zero, List.set_cons_succ]
                    generalize vx20.alloc (.cells #[.int .u64 0, .int .u64 0] 103) = vx29 at *
                    obtain ⟨b_q, hb_q⟩ : ∃ b, b = vx20.heap.size := ⟨_, rfl⟩
                    rw [← hb_q] at B_q G_q  ⊢
                    clear hb_q
                    refine wpAnyH_ready (rs := [18]) (by kernel_rfl) (by simp) ?_
                    refine AllReadyH.cons (i := 18) (o := ?o_30_18) ?h_30_18 (fun K hK => ?_) AllReadyH.nil
                    case h_30_18 => (simp only [List.getElem?_toArray, List.getElem?_cons_succ, List.getElem?_cons_zero]; rfl)
                    have B_p := Blk.new vx29 103 #[.int .u64 0, .int .u64 0]
                    have N_q_p : b_q ≠ vx29.heap.size := by have := B_q.lt; omega
                    have B_q := B_q.alloc (.cells #[.int .u64 0, .int .u64 0] 103)
                    have G_p : wr.heap.size ≤ vx29.heap.size := hHeld.size
                    have H_31 := Below.alloc hHeld hHeld.size (.cells #[.int .u64 0, .int .u64 0] 103)
                    go_simp
                    refine hK.out _ _ H_31 (fun hHeld => ?_)
                    clear hK K H_31
                    try simp only [Act.put, List.setIfInBounds_toArray, List.set_cons_zero, List.set_cons_succ]
                    generalize vx29.alloc (.cells #[.int .u64 0, .int .u64 0] 103) = vx31 at *
                    obtain ⟨b_p, hb_p⟩ : ∃ b, b = vx29.heap.size := ⟨_, rfl⟩
                    rw [← hb_p] at B_p G_p N_q_p ⊢
                    clear hb_p
                    refine wpAnyH_ready (rs := [20]) (by kernel_rfl) (by simp) ?_
                    refine AllReadyH.cons (i := 20) (o := ?o_32_20) ?h_32_20 (fun K hK => ?_) AllReadyH.nil
                    case h_32_20 => (simp only [List.getElem?_toArray, List.getElem?_cons_succ, List.getElem?_cons_zero]; rfl)
                    have H_33 := (below_own (below_own hHeld G_p 0 (.int .u64 xa)) G_p 1 (.int .u64 xb))
                    obtain ⟨cx33_0, cx33_1, _⟩ := B_p.cells2
                    obtain ⟨fx33_0, fx33_1⟩ := B_p.free2
                    have C_q := (Blk.far (p := ⟨b_p, 1, none⟩) (Blk.far (p := ⟨b_p, 0, none⟩) B_q N_q_p (.int .u64 xa)) N_q_p (.int .u64 xb))
                    have C_p := (Blk.setTo (Blk.setTo B_p 0 (.int .u64 xa) rfl) 1 (.int .u64 xb) rfl)
                    go_simp
                    refine hK.out _ _ H_33 (fun hHeld => ?_)
                    clear hK K H_33 cx33_0 fx33_0 cx33_1 fx33_1
                    try simp only [Act.put, List.setIfInBounds_toArray, List.set_cons_zero, List.set_cons_succ]
                    clear B_q B_p
                    have B_q := C_q
                    have B_p := C_p
                    clear C_q C_p
                    generalize ((vx31.setCell ⟨b_p, 0, none⟩ (.int .u64 xa)).setCell ⟨b_p, 1, none⟩ (.int .u64 xb)) = vx33 at *
                    refine wpAnyH_ready (rs := [21]) (by kernel_rfl) (by simp) ?_
                    refine AllReadyH.cons (i := 21) (o := ?o_34_21) ?h_34_21 (fun K hK => ?_) AllReadyH.nil
                    case h_34_21 => (simp only [List.getElem?_toArray, List.getElem?_cons_succ, List.getElem?_cons_zero]; rfl)
                    have H_35 := (below_own (below_own hHeld G_q 0 (.int .u64 ya)) G_q 1 (.int .u64 yb))
                    obtain ⟨cx35_0, cx35_1, _⟩ := B_q.cells2
                    obtain ⟨fx35_0, fx35_1⟩ := B_q.free2
                    have C_p := (Blk.far (p := ⟨b_q, 1, none⟩) (Blk.far (p := ⟨b_q, 0, none⟩) B_p N_q_p.symm (.int .u64 ya)) N_q_p.symm (.int .u64 yb))
                    have C_q := (Blk.setTo (Blk.setTo B_q 0 (.int .u64 ya) rfl) 1 (.int .u64 yb) rfl)
                    go_simp
                    refine hK.out _ _ H_35 (fun hHeld => ?_)
                    clear hK K H_35 cx35_0 fx35_0 cx35_1 fx35_1
                    try simp only [Act.put, List.setIfInBounds_toArray, List.set_cons_zero, List.set_cons_succ]
                    clear B_q B_p
                    have B_q := C_q
                    have B_p := C_p
                    clear C_q C_p
                    generalize ((vx33.setCell ⟨b_q, 0, none⟩ (.int .u64 ya)).setCell ⟨b_q, 1, none⟩ (.int .u64 yb)) = vx35 at *
                    refine wpAnyH_done (by kernel_rfl) (NoPanic.normal ?_) _
                    go_wp2_with fail
                    go_meet
                    exact ⟨_, _, rfl, rfl, B_p, B_q, hHeld⟩
            · as_aux_lemma =>
                have B_p := Blk.new vx18 103 #[.int .u64 0, .int .u64 0]
                have G_p : wr.heap.size ≤ vx18.heap.size := hHeld.size
                have H_36 := Below.alloc hHeld hHeld.size (.cells #[.int .u64 0, .int .u64 0] 103)
                go_simp
                refine hK.out _ _ H_36 (fun hHeld => ?_)
                clear hK K H_36
                try simp only [Act.put, List.setIfInBounds_toArray, List.set_cons_zero, List.set_cons_succ]
                generalize vx18.alloc (.cells #[.int .u64 0, .int .u64 0] 103) = vx36 at *
                obtain ⟨b_p, hb_p⟩ : ∃ b, b = vx18.heap.size := ⟨_, rfl⟩
                rw [← hb_p] at B_p G_p  ⊢
                clear hb_p
                refine wpAnyH_ready (rs := [17, 19]) (by kernel_rfl) (by simp) ?_
                refine AllReadyH.cons (i := 17) (o := ?o_37_17) ?h_37_17 (fun K hK => ?_) (AllReadyH.cons (i := 19) (o := ?o_37_19) ?h_37_19 (fun K hK => ?_) AllReadyH.nil)
                case h_37_17 => (simp only [List.getElem?_toArray, List.getElem?_cons_succ, List.getElem?_cons_zero]; rfl)
                case h_37_19 => (simp only [List.getElem?_toArray, List.getElem?_cons_succ, List.getElem?_cons_zero]; rfl)
                · as_aux_lemma =>
                    go_simp
                    (go_at_call 53; refine (hb1 vx36 ((hy.keep hW).keep hHeld)).mono ?_; rintro e vx38 ⟨rfl, hxvx38⟩)
                    try dsimp only
                    refine hK.out _ _ (below_step hHeld hxvx38) (fun hHeld => ?_)
                    clear hK K
                    try simp only [Act.put, List.setIfInBounds_toArray, List.set_cons_zero, List.set_cons_succ]
                    have B_p := B_p.keep hxvx38
                    refine wpAnyH_ready (rs := [19]) (by kernel_rfl) (by simp) ?_
                    refine AllReadyH.cons (i := 19) (o := ?o_39_19) ?h_39_19 (fun K hK => ?_) AllReadyH.nil
                    case h_39_19 => (simp only [List.getElem?_toArray, List.getElem?_cons_succ, List.getElem?_cons_zero]; rfl)
                    have B_q := Blk.new vx38 103 #[.int .u64 0, .int .u64 0]
                    have N_p_q : b_p ≠ vx38.heap.size := by have := B_p.lt; omega
                    have B_p := B_p.alloc (.cells #[.int .u64 0, .int .u64 0] 103)
                    have G_q : wr.heap.size ≤ vx38.heap.size := hHeld.size
                    have H_40 := Below.alloc hHeld hHeld.size (.cells #[.int .u64 0, .int .u64 0] 103)
                    go_simp
                    refine hK.out _ _ H_40 (fun hHeld => ?_)
                    clear hK K H_40
                    try simp only [Act.put, List.setIfInBounds_toArray, List.set_cons_zero, List.set_cons_succ]
                    generalize vx38.alloc (.cells #[.int .u64 0, .int .u64 0] 103) = vx40 at *
                    obtain ⟨b_q, hb_q⟩ : ∃ b, b = vx38.heap.size := ⟨_, rfl⟩
                    rw [← hb_q] at B_q G_q N_p_q ⊢
                    clear hb_q
                    refine wpAnyH_ready (rs := [20]) (by kernel_rfl) (by simp) ?_
                    refine AllReadyH.cons (i := 20) (o := ?o_41_20) ?h_41_20 (fun K hK => ?_) AllReadyH.nil
                    case h_41_20 => (simp only [List.getElem?_toArray, List.getElem?_cons_succ, List.getElem?_cons_zero]; rfl)
                    have H_42 := (below_own (below_own hHeld G_p 0 (.int .u64 xa)) G_p 1 (.int .u64 xb))
                    obtain ⟨cx42_0, cx42_1, _⟩ := B_p.cells2
                    obtain ⟨fx42_0, fx42_1⟩ := B_p.free2
                    have C_q := (Blk.far (p := ⟨b_p, 1, none⟩) (Blk.far (p := ⟨b_p, 0, none⟩) B_q N_p_q.symm (.int .u64 xa)) N_p_q.symm (.int .u64 xb))
                    have C_p := (Blk.setTo (Blk.setTo B_p 0 (.int .u64 xa) rfl) 1 (.int .u64 xb) rfl)
                    go_simp
                    refine hK.out _ _ H_42 (fun hHeld => ?_)
                    clear hK K H_42 cx42_0 fx42_0 cx42_1 fx42_1
                    try simp only [Act.put, List.setIfInBounds_toArray, List.set_cons_zero, List.set_cons_succ]
                    clear B_p B_q
                    have B_p := C_p
                    have B_q := C_q
                    clear C_p C_q
                    generalize ((vx40.setCell ⟨b_p, 0, none⟩ (.int .u64 xa)).setCell ⟨b_p, 1, none⟩ (.int .u64 xb)) = vx42 at *
                    refine wpAnyH_ready (rs := [21]) (by kernel_rfl) (by simp) ?_
                    refine AllReadyH.cons (i := 21) (o := ?o_43_21) ?h_43_21 (fun K hK => ?_) AllReadyH.nil
                    case h_43_21 => (simp only [List.getElem?_toArray, List.getElem?_cons_succ, List.getElem?_cons_zero]; rfl)
                    have H_44 := (below_own (below_own hHeld G_q 0 (.int .u64 ya)) G_q 1 (.int .u64 yb))
                    obtain ⟨cx44_0, cx44_1, _⟩ := B_q.cells2
                    obtain ⟨fx44_0, fx44_1⟩ := B_q.free2
                    have C_p := (Blk.far (p := ⟨b_q, 1, none⟩) (Blk.far (p := ⟨b_q, 0, none⟩) B_p N_p_q (.int .u64 ya)) N_p_q (.int .u64 yb))
                    have C_q := (Blk.setTo (Blk.setTo B_q 0 (.int .u64 ya) rfl) 1 (.int .u64 yb) rfl)
                    go_simp
                    refine hK.out _ _ H_44 (fun hHeld => ?_)
                    clear hK K H_44 cx44_0 fx44_0 cx44_1 fx44_1
                    try simp only [Act.put, List.setIfInBounds_toArray, List.set_cons_zero, List.set_cons_succ]
                    clear B_p B_q
                    have B_p := C_p
                    have B_q := C_q
                    clear C_p C_q
                    generalize ((vx42.setCell ⟨b_q, 0, none⟩ (.int .u64 ya)).setCell ⟨b_q, 1, none⟩ (.int .u64 yb)) = vx44 at *
                    refine wpAnyH_done (by kernel_rfl) (NoPanic.normal ?_) _
                    go_wp2_with fail
                    go_meet
                    exact ⟨_, _, rfl, rfl, B_p, B_q, hHeld⟩
                · as_aux_lemma =>
                    have B_q := Blk.new vx36 103 #[.int .u64 0, .int .u64 0]
                    have N_p_q : b_p ≠ vx36.heap.size := by have := B_p.lt; omega
                    have B_p := B_p.alloc (.cells #[.int .u64 0, .int .u64 0] 103)
                    have G_q : wr.heap.size ≤ vx36.heap.size := hHeld.size
                    have H_45 := Below.alloc hHeld hHeld.size (.cells #[.int .u64 0, .int .u64 0] 103)
                    go_simp
                    refine hK.out _ _ H_45 (fun hHeld => ?_)
                    clear hK K H_45
                    try simp only [Act.put, List.setIfInBounds_toArray, List.set_cons_zero, List.set_cons_succ]
                    generalize vx36.alloc (.cells #[.int .u64 0, .int .u64 0] 103) = vx45 at *
                    obtain ⟨b_q, hb_q⟩ : ∃ b, b = vx36.heap.size := ⟨_, rfl⟩
                    rw [← hb_q] at B_q G_q N_p_q ⊢
                    clear hb_q
                    refine wpAnyH_ready (rs := [17]) (by kernel_rfl) (by simp) ?_
                    refine AllReadyH.cons (i := 17) (o := ?o_46_17) ?h_46_17 (fun K hK => ?_) AllReadyH.nil
                    case h_46_17 => (simp only [List.getElem?_toArray, List.getElem?_cons_succ, List.getElem?_cons_zero]; rfl)
                    go_simp
                    (go_at_call 53; refine (hb1 vx45 ((hy.keep hW).keep hHeld)).mono ?_; rintro e vx47 ⟨rfl, hxvx47⟩)
                    try dsimp only
                    refine hK.out _ _ (below_step hHeld hxvx47) (fun hHeld => ?_)
                    clear hK K
                    try simp only [Act.put, List.setIfInBounds_toArray, List.set_cons_zero, List.set_cons_succ]
                    have B_p := B_p.keep hxvx47
                    have B_q := B_q.keep hxvx47
                    refine wpAnyH_ready (rs := [20]) (by kernel_rfl) (by simp) ?_
                    refine AllReadyH.cons (i := 20) (o := ?o_48_20) ?h_48_20 (fun K hK => ?_) AllReadyH.nil
                    case h_48_20 => (simp only [List.getElem?_toArray, List.getElem?_cons_succ, List.getElem?_cons_zero]; rfl)
                    have H_49 := (below_own (below_own hHeld G_p 0 (.int .u64 xa)) G_p 1 (.int .u64 xb))
                    obtain ⟨cx49_0, cx49_1, _⟩ := B_p.cells2
                    obtain ⟨fx49_0, fx49_1⟩ := B_p.free2
                    have C_q := (Blk.far (p := ⟨b_p, 1, none⟩) (Blk.far (p := ⟨b_p, 0, none⟩) B_q N_p_q.symm (.int .u64 xa)) N_p_q.symm (.int .u64 xb))
                    have C_p := (Blk.setTo (Blk.setTo B_p 0 (.int .u64 xa) rfl) 1 (.int .u64 xb) rfl)
                    go_simp
                    refine hK.out _ _ H_49 (fun hHeld => ?_)
                    clear hK K H_49 cx49_0 fx49_0 cx49_1 fx49_1
                    try simp only [Act.put, List.setIfInBounds_toArray, List.set_cons_zero, List.set_cons_succ]
                    clear B_p B_q
                    have B_p := C_p
                    have B_q := C_q
                    clear C_p C_q
                    generalize ((vx47.setCell ⟨b_p, 0, none⟩ (.int .u64 xa)).setCell ⟨b_p, 1, none⟩ (.int .u64 xb)) = vx49 at *
                    refine wpAnyH_ready (rs := [21]) (by kernel_rfl) (by simp) ?_
                    refine AllReadyH.cons (i := 21) (o := ?o_50_21) ?h_50_21 (fun K hK => ?_) AllReadyH.nil
                    case h_50_21 => (simp only [List.getElem?_toArray, List.getElem?_cons_succ, List.getElem?_cons_zero]; rfl)
                    have H_51 := (below_own (below_own hHeld G_q 0 (.int .u64 ya)) G_q 1 (.int .u64 yb))
                    obtain ⟨cx51_0, cx51_1, _⟩ := B_q.cells2
                    obtain ⟨fx51_0, fx51_1⟩ := B_q.free2
                    have C_p := (Blk.far (p := ⟨b_q, 1, none⟩) (Blk.far (p := ⟨b_q, 0, none⟩) B_p N_p_q (.int .u64 ya)) N_p_q (.int .u64 yb))
                    have C_q := (Blk.setTo (Blk.setTo B_q 0 (.int .u64 ya) rfl) 1 (.int .u64 yb) rfl)
                    go_simp
                    refine hK.out _ _ H_51 (fun hHeld => ?_)
                    clear hK K H_51 cx51_0 fx51_0 cx51_1 fx51_1
                    try simp only [Act.put, List.setIfInBounds_toArray, List.set_cons_zero, List.set_cons_succ]
                    clear B_p B_q
                    have B_p := C_p
                    have B_q := C_q
                    clear C_p C_q
                    generalize ((vx49.setCell ⟨b_q, 0, none⟩ (.int .u64 ya)).setCell ⟨b_q, 1, none⟩ (.int .u64 yb)) = vx51 at *
                    refine wpAnyH_done (by kernel_rfl) (NoPanic.normal ?_) _
                    go_wp2_with fail
                    go_meet
                    exact ⟨_, _, rfl, rfl, B_p, B_q, hHeld⟩
            · as_aux_lemma =>
                have B_q := Blk.new vx18 103 #[.int .u64 0, .int .u64 0]
                have G_q : wr.heap.size ≤ vx18.heap.size := hHeld.size
                have H_52 := Below.alloc hHeld hHeld.size (.cells #[.int .u64 0, .int .u64 0] 103)
                go_simp
                refine hK.out _ _ H_52 (fun hHeld => ?_)
                clear hK K H_52
                try simp only [Act.put, List.setIfInBounds_toArray, List.set_cons_zero, List.set_cons_succ]
                generalize vx18.alloc (.cells #[.int .u64 0, .int .u64 0] 103) = vx52 at *
                obtain ⟨b_q, hb_q⟩ : ∃ b, b = vx18.heap.size := ⟨_, rfl⟩
                rw [← hb_q] at B_q G_q  ⊢
                clear hb_q
                refine wpAnyH_ready (rs := [17, 18]) (by kernel_rfl) (by simp) ?_
                refine AllReadyH.cons (i := 17) (o := ?o_53_17) ?h_53_17 (fun K hK => ?_) (AllReadyH.cons (i := 18) (o := ?o_53_18) ?h_53_18 (fun K hK => ?_) AllReadyH.nil)
                case h_53_17 => (simp only [List.getElem?_toArray, List.getElem?_cons_succ, List.getElem?_cons_zero]; rfl)
                case h_53_18 => (simp only [List.getElem?_toArray, List.getElem?_cons_succ, List.getElem?_cons_zero]; rfl)
                · as_aux_lemma =>
                    go_simp
                    (go_at_call 53; refine (hb1 vx52 ((hy.keep hW).keep hHeld)).mono ?_; rintro e vx54 ⟨rfl, hxvx54⟩)
                    try dsimp only
                    refine hK.out _ _ (below_step hHeld hxvx54) (fun hHeld => ?_)
                    clear hK K
                    try simp only [Act.put, List.setIfInBounds_toArray, List.set_cons_zero, List.set_cons_succ]
                    have B_q := B_q.keep hxvx54
                    refine wpAnyH_ready (rs := [18]) (by kernel_rfl) (by simp) ?_
                    refine AllReadyH.cons (i := 18) (o := ?o_55_18) ?h_55_18 (fun K hK => ?_) AllReadyH.nil
                    case h_55_18 => (simp only [List.getElem?_toArray, List.getElem?_cons_succ, List.getElem?_cons_zero]; rfl)
                    have B_p := Blk.new vx54 103 #[.int .u64 0, .int .u64 0]
                    have N_q_p : b_q ≠ vx54.heap.size := by have := B_q.lt; omega
                    have B_q := B_q.alloc (.cells #[.int .u64 0, .int .u64 0] 103)
                    have G_p : wr.heap.size ≤ vx54.heap.size := hHeld.size
                    have H_56 := Below.alloc hHeld hHeld.size (.cells #[.int .u64 0, .int .u64 0] 103)
                    go_simp
                    refine hK.out _ _ H_56 (fun hHeld => ?_)
                    clear hK K H_56
                    try simp only [Act.put, List.setIfInBounds_toArray, List.set_cons_zero, List.set_cons_succ]
                    generalize vx54.alloc (.cells #[.int .u64 0, .int .u64 0] 103) = vx56 at *
                    obtain ⟨b_p, hb_p⟩ : ∃ b, b = vx54.heap.size := ⟨_, rfl⟩
                    rw [← hb_p] at B_p G_p N_q_p ⊢
                    clear hb_p
                    refine wpAnyH_ready (rs := [20]) (by kernel_rfl) (by simp) ?_
                    refine AllReadyH.cons (i := 20) (o := ?o_57_20) ?h_57_20 (fun K hK => ?_) AllReadyH.nil
                    case h_57_20 => (simp only [List.getElem?_toArray, List.getElem?_cons_succ, List.getElem?_cons_zero]; rfl)
                    have H_58 := (below_own (below_own hHeld G_p 0 (.int .u64 xa)) G_p 1 (.int .u64 xb))
                    obtain ⟨cx58_0, cx58_1, _⟩ := B_p.cells2
                    obtain ⟨fx58_0, fx58_1⟩ := B_p.free2
                    have C_q := (Blk.far (p := ⟨b_p, 1, none⟩) (Blk.far (p := ⟨b_p, 0, none⟩) B_q N_q_p (.int .u64 xa)) N_q_p (.int .u64 xb))
                    have C_p := (Blk.setTo (Blk.setTo B_p 0 (.int .u64 xa) rfl) 1 (.int .u64 xb) rfl)
                    go_simp
                    refine hK.out _ _ H_58 (fun hHeld => ?_)
                    clear hK K H_58 cx58_0 fx58_0 cx58_1 fx58_1
                    try simp only [Act.put, List.setIfInBounds_toArray, List.set_cons_zero, List.set_cons_succ]
                    clear B_q B_p
                    have B_q := C_q
                    have B_p := C_p
                    clear C_q C_p
                    generalize ((vx56.setCell ⟨b_p, 0, none⟩ (.int .u64 xa)).setCell ⟨b_p, 1, none⟩ (.int .u64 xb)) = vx58 at *
                    refine wpAnyH_ready (rs := [21]) (by kernel_rfl) (by simp) ?_
                    refine AllReadyH.cons (i := 21) (o := ?o_59_21) ?h_59_21 (fun K hK => ?_) AllReadyH.nil
                    case h_59_21 => (simp only [List.getElem?_toArray, List.getElem?_cons_succ, List.getElem?_cons_zero]; rfl)
                    have H_60 := (below_own (below_own hHeld G_q 0 (.int .u64 ya)) G_q 1 (.int .u64 yb))
                    obtain ⟨cx60_0, cx60_1, _⟩ := B_q.cells2
                    obtain ⟨fx60_0, fx60_1⟩ := B_q.free2
                    have C_p := (Blk.far (p := ⟨b_q, 1, none⟩) (Blk.far (p := ⟨b_q, 0, none⟩) B_p N_q_p.symm (.int .u64 ya)) N_q_p.symm (.int .u64 yb))
                    have C_q := (Blk.setTo (Blk.setTo B_q 0 (.int .u64 ya) rfl) 1 (.int .u64 yb) rfl)
                    go_simp
                    refine hK.out _ _ H_60 (fun hHeld => ?_)
                    clear hK K H_60 cx60_0 fx60_0 cx60_1 fx60_1
                    try simp only [Act.put, List.setIfInBounds_toArray, List.set_cons_zero, List.set_cons_succ]
                    clear B_q B_p
                    have B_q := C_q
                    have B_p := C_p
                    clear C_q C_p
                    generalize ((vx58.setCell ⟨b_q, 0, none⟩ (.int .u64 ya)).setCell ⟨b_q, 1, none⟩ (.int .u64 yb)) = vx60 at *
                    refine wpAnyH_done (by kernel_rfl) (NoPanic.normal ?_) _
                    go_wp2_with fail
                    go_meet
                    exact ⟨_, _, rfl, rfl, B_p, B_q, hHeld⟩
                · as_aux_lemma =>
                    have B_p := Blk.new vx52 103 #[.int .u64 0, .int .u64 0]
                    have N_q_p : b_q ≠ vx52.heap.size := by have := B_q.lt; omega
                    have B_q := B_q.alloc (.cells #[.int .u64 0, .int .u64 0] 103)
                    have G_p : wr.heap.size ≤ vx52.heap.size := hHeld.size
                    have H_61 := Below.alloc hHeld hHeld.size (.cells #[.int .u64 0, .int .u64 0] 103)
                    go_simp
                    refine hK.out _ _ H_61 (fun hHeld => ?_)
                    clear hK K H_61
                    try simp only [Act.put, List.setIfInBounds_toArray, List.set_cons_zero, List.set_cons_succ]
                    generalize vx52.alloc (.cells #[.int .u64 0, .int .u64 0] 103) = vx61 at *
                    obtain ⟨b_p, hb_p⟩ : ∃ b, b = vx52.heap.size := ⟨_, rfl⟩
                    rw [← hb_p] at B_p G_p N_q_p ⊢
                    clear hb_p
                    refine wpAnyH_ready (rs := [17]) (by kernel_rfl) (by simp) ?_
                    refine AllReadyH.cons (i := 17) (o := ?o_62_17) ?h_62_17 (fun K hK => ?_) AllReadyH.nil
                    case h_62_17 => (simp only [List.getElem?_toArray, List.getElem?_cons_succ, List.getElem?_cons_zero]; rfl)
                    go_simp
                    (go_at_call 53; refine (hb1 vx61 ((hy.keep hW).keep hHeld)).mono ?_; rintro e vx63 ⟨rfl, hxvx63⟩)
                    try dsimp only
                    refine hK.out _ _ (below_step hHeld hxvx63) (fun hHeld => ?_)
                    clear hK K
                    try simp only [Act.put, List.setIfInBounds_toArray, List.set_cons_zero, List.set_cons_succ]
                    have B_q := B_q.keep hxvx63
                    have B_p := B_p.keep hxvx63
                    refine wpAnyH_ready (rs := [20]) (by kernel_rfl) (by simp) ?_
                    refine AllReadyH.cons (i := 20) (o := ?o_64_20) ?h_64_20 (fun K hK => ?_) AllReadyH.nil
                    case h_64_20 => (simp only [List.getElem?_toArray, List.getElem?_cons_succ, List.getElem?_cons_zero]; rfl)
                    have H_65 := (below_own (below_own hHeld G_p 0 (.int .u64 xa)) G_p 1 (.int .u64 xb))
                    obtain ⟨cx65_0, cx65_1, _⟩ := B_p.cells2
                    obtain ⟨fx65_0, fx65_1⟩ := B_p.free2
                    have C_q := (Blk.far (p := ⟨b_p, 1, none⟩) (Blk.far (p := ⟨b_p, 0, none⟩) B_q N_q_p (.int .u64 xa)) N_q_p (.int .u64 xb))
                    have C_p := (Blk.setTo (Blk.setTo B_p 0 (.int .u64 xa) rfl) 1 (.int .u64 xb) rfl)
                    go_simp
                    refine hK.out _ _ H_65 (fun hHeld => ?_)
                    clear hK K H_65 cx65_0 fx65_0 cx65_1 fx65_1
                    try simp only [Act.put, List.setIfInBounds_toArray, List.set_cons_zero, List.set_cons_succ]
                    clear B_q B_p
                    have B_q := C_q
                    have B_p := C_p
                    clear C_q C_p
                    generalize ((vx63.setCell ⟨b_p, 0, none⟩ (.int .u64 xa)).setCell ⟨b_p, 1, none⟩ (.int .u64 xb)) = vx65 at *
                    refine wpAnyH_ready (rs := [21]) (by kernel_rfl) (by simp) ?_
                    refine AllReadyH.cons (i := 21) (o := ?o_66_21) ?h_66_21 (fun K hK => ?_) AllReadyH.nil
                    case h_66_21 => (simp only [List.getElem?_toArray, List.getElem?_cons_succ, List.getElem?_cons_zero]; rfl)
                    have H_67 := (below_own (below_own hHeld G_q 0 (.int .u64 ya)) G_q 1 (.int .u64 yb))
                    obtain ⟨cx67_0, cx67_1, _⟩ := B_q.cells2
                    obtain ⟨fx67_0, fx67_1⟩ := B_q.free2
                    have C_p := (Blk.far (p := ⟨b_q, 1, none⟩) (Blk.far (p := ⟨b_q, 0, none⟩) B_p N_q_p.symm (.int .u64 ya)) N_q_p.symm (.int .u64 yb))
                    have C_q := (Blk.setTo (Blk.setTo B_q 0 (.int .u64 ya) rfl) 1 (.int .u64 yb) rfl)
                    go_simp
                    refine hK.out _ _ H_67 (fun hHeld => ?_)
                    clear hK K H_67 cx67_0 fx67_0 cx67_1 fx67_1
                    try simp only [Act.put, List.setIfInBounds_toArray, List.set_cons_zero, List.set_cons_succ]
                    clear B_q B_p
                    have B_q := C_q
                    have B_p := C_p
                    clear C_q C_p
                    generalize ((vx65.setCell ⟨b_q, 0, none⟩ (.int .u64 ya)).setCell ⟨b_q, 1, none⟩ (.int .u64 yb)) = vx67 at *
                    refine wpAnyH_done (by kernel_rfl) (NoPanic.normal ?_) _
                    go_wp2_with fail
                    go_meet
                    exact ⟨_, _, rfl, rfl, B_p, B_q, hHeld⟩
        · as_aux_lemma =>
            have B_p := Blk.new vx0 103 #[.int .u64 0, .int .u64 0]
            have G_p : wr.heap.size ≤ vx0.heap.size := hHeld.size
            have H_68 := Below.alloc hHeld hHeld.size (.cells #[.int .u64 0, .int .u64 0] 103)
            go_simp
            refine hK.out _ _ H_68 (fun hHeld => ?_)
            clear hK K H_68
            try simp only [Act.put, List.setIfInBounds_toArray, List.set_cons_zero, List.set_cons_succ]
            generalize vx0.alloc (.cells #[.int .u64 0, .int .u64 0] 103) = vx68 at *
            obtain ⟨b_p, hb_p⟩ : ∃ b, b = vx0.heap.size := ⟨_, rfl⟩
            rw [← hb_p] at B_p G_p  ⊢
            clear hb_p
            refine wpAnyH_ready (rs := [8, 19]) (by kernel_rfl) (by simp) ?_
            refine AllReadyH.cons (i := 8) (o := ?o_69_8) ?h_69_8 (fun K hK => ?_) (AllReadyH.cons (i := 19) (o := ?o_69_19) ?h_69_19 (fun K hK => ?_) AllReadyH.nil)
            case h_69_8 => (simp only [List.getElem?_toArray, List.getElem?_cons_succ, List.getElem?_cons_zero]; rfl)
            case h_69_19 => (simp only [List.getElem?_toArray, List.getElem?_cons_succ, List.getElem?_cons_zero]; rfl)
            · as_aux_lemma =>
                go_simp
                (go_at_call 53; refine (ha1 vx68 ((hx.keep hW).keep hHeld)).mono ?_; rintro e vx70 ⟨rfl, hxvx70⟩)
                try dsimp only
                refine hK.out _ _ (below_step hHeld hxvx70) (fun hHeld => ?_)
                clear hK K
                try simp only [Act.put, List.setIfInBounds_toArray, List.set_cons_zero, List.set_cons_succ]
                have B_p := B_p.keep hxvx70
                refine wpAnyH_ready (rs := [17, 19]) (by kernel_rfl) (by simp) ?_
                refine AllReadyH.cons (i := 17) (o := ?o_71_17) ?h_71_17 (fun K hK => ?_) (AllReadyH.cons (i := 19) (o := ?o_71_19) ?h_71_19 (fun K hK => ?_) AllReadyH.nil)
                case h_71_17 => (simp only [List.getElem?_toArray, List.getElem?_cons_succ, List.getElem?_cons_zero]; rfl)
                case h_71_19 => (simp only [List.getElem?_toArray, List.getElem?_cons_succ, List.getElem?_cons_zero]; rfl)
                · as_aux_lemma =>
                    go_simp
                    (go_at_call 53; refine (hb1 vx70 ((hy.keep hW).keep hHeld)).mono ?_; rintro e vx72 ⟨rfl, hxvx72⟩)
                    try dsimp only
                    refine hK.out _ _ (below_step hHeld hxvx72) (fun hHeld => ?_)
                    clear hK K
                    try simp only [Act.put, List.setIfInBounds_toArray, List.set_cons_zero, List.set_cons_succ]
                    have B_p := B_p.keep hxvx72
                    refine wpAnyH_ready (rs := [19]) (by kernel_rfl) (by simp) ?_
                    refine AllReadyH.cons (i := 19) (o := ?o_73_19) ?h_73_19 (fun K hK => ?_) AllReadyH.nil
                    case h_73_19 => (simp only [List.getElem?_toArray, List.getElem?_cons_succ, List.getElem?_cons_zero]; rfl)
                    have B_q := Blk.new vx72 103 #[.int .u64 0, .int .u64 0]
                    have N_p_q : b_p ≠ vx72.heap.size := by have := B_p.lt; omega
                    have B_p := B_p.alloc (.cells #[.int .u64 0, .int .u64 0] 103)
                    have G_q : wr.heap.size ≤ vx72.heap.size := hHeld.size
                    have H_74 := Below.alloc hHeld hHeld.size (.cells #[.int .u64 0, .int .u64 0] 103)
                    go_simp
                    refine hK.out _ _ H_74 (fun hHeld => ?_)
                    clear hK K H_74
                    try simp only [Act.put, List.setIfInBounds_toArray, List.set_cons_zero, List.set_cons_succ]
                    generalize vx72.alloc (.cells #[.int .u64 0, .int .u64 0] 103) = vx74 at *
                    obtain ⟨b_q, hb_q⟩ : ∃ b, b = vx72.heap.size := ⟨_, rfl⟩
                    rw [← hb_q] at B_q G_q N_p_q ⊢
                    clear hb_q
                    refine wpAnyH_ready (rs := [20]) (by kernel_rfl) (by simp) ?_
                    refine AllReadyH.cons (i := 20) (o := ?o_75_20) ?h_75_20 (fun K hK => ?_) AllReadyH.nil
                    case h_75_20 => (simp only [List.getElem?_toArray, List.getElem?_cons_succ, List.getElem?_cons_zero]; rfl)
                    have H_76 := (below_own (below_own hHeld G_p 0 (.int .u64 xa)) G_p 1 (.int .u64 xb))
                    obtain ⟨cx76_0, cx76_1, _⟩ := B_p.cells2
                    obtain ⟨fx76_0, fx76_1⟩ := B_p.free2
                    have C_q := (Blk.far (p := ⟨b_p, 1, none⟩) (Blk.far (p := ⟨b_p, 0, none⟩) B_q N_p_q.symm (.int .u64 xa)) N_p_q.symm (.int .u64 xb))
                    have C_p := (Blk.setTo (Blk.setTo B_p 0 (.int .u64 xa) rfl) 1 (.int .u64 xb) rfl)
                    go_simp
                    refine hK.out _ _ H_76 (fun hHeld => ?_)
                    clear hK K H_76 cx76_0 fx76_0 cx76_1 fx76_1
                    try simp only [Act.put, List.setIfInBounds_toArray, List.set_cons_zero, List.set_cons_succ]
                    clear B_p B_q
                    have B_p := C_p
                    have B_q := C_q
                    clear C_p C_q
                    generalize ((vx74.setCell ⟨b_p, 0, none⟩ (.int .u64 xa)).setCell ⟨b_p, 1, none⟩ (.int .u64 xb)) = vx76 at *
                    refine wpAnyH_ready (rs := [21]) (by kernel_rfl) (by simp) ?_
                    refine AllReadyH.cons (i := 21) (o := ?o_77_21) ?h_77_21 (fun K hK => ?_) AllReadyH.nil
                    case h_77_21 => (simp only [List.getElem?_toArray, List.getElem?_cons_succ, List.getElem?_cons_zero]; rfl)
                    have H_78 := (below_own (below_own hHeld G_q 0 (.int .u64 ya)) G_q 1 (.int .u64 yb))
                    obtain ⟨cx78_0, cx78_1, _⟩ := B_q.cells2
                    obtain ⟨fx78_0, fx78_1⟩ := B_q.free2
                    have C_p := (Blk.far (p := ⟨b_q, 1, none⟩) (Blk.far (p := ⟨b_q, 0, none⟩) B_p N_p_q (.int .u64 ya)) N_p_q (.int .u64 yb))
                    have C_q := (Blk.setTo (Blk.setTo B_q 0 (.int .u64 ya) rfl) 1 (.int .u64 yb) rfl)
                    go_simp
                    refine hK.out _ _ H_78 (fun hHeld => ?_)
                    clear hK K H_78 cx78_0 fx78_0 cx78_1 fx78_1
                    try simp only [Act.put, List.setIfInBounds_toArray, List.set_cons_zero, List.set_cons_succ]
                    clear B_p B_q
                    have B_p := C_p
                    have B_q := C_q
                    clear C_p C_q
                    generalize ((vx76.setCell ⟨b_q, 0, none⟩ (.int .u64 ya)).setCell ⟨b_q, 1, none⟩ (.int .u64 yb)) = vx78 at *
                    refine wpAnyH_done (by kernel_rfl) (NoPanic.normal ?_) _
                    go_wp2_with fail
                    go_meet
                    exact ⟨_, _, rfl, rfl, B_p, B_q, hHeld⟩
                · as_aux_lemma =>
                    have B_q := Blk.new vx70 103 #[.int .u64 0, .int .u64 0]
                    have N_p_q : b_p ≠ vx70.heap.size := by have := B_p.lt; omega
                    have B_p := B_p.alloc (.cells #[.int .u64 0, .int .u64 0] 103)
                    have G_q : wr.heap.size ≤ vx70.heap.size := hHeld.size
                    have H_79 := Below.alloc hHeld hHeld.size (.cells #[.int .u64 0, .int .u64 0] 103)
                    go_simp
                    refine hK.out _ _ H_79 (fun hHeld => ?_)
                    clear hK K H_79
                    try simp only [Act.put, List.setIfInBounds_toArray, List.set_cons_zero, List.set_cons_succ]
                    generalize vx70.alloc (.cells #[.int .u64 0, .int .u64 0] 103) = vx79 at *
                    obtain ⟨b_q, hb_q⟩ : ∃ b, b = vx70.heap.size := ⟨_, rfl⟩
                    rw [← hb_q] at B_q G_q N_p_q ⊢
                    clear hb_q
                    refine wpAnyH_ready (rs := [17]) (by kernel_rfl) (by simp) ?_
                    refine AllReadyH.cons (i := 17) (o := ?o_80_17) ?h_80_17 (fun K hK => ?_) AllReadyH.nil
                    case h_80_17 => (simp only [List.getElem?_toArray, List.getElem?_cons_succ, List.getElem?_cons_zero]; rfl)
                    go_simp
                    (go_at_call 53; refine (hb1 vx79 ((hy.keep hW).keep hHeld)).mono ?_; rintro e vx81 ⟨rfl, hxvx81⟩)
                    try dsimp only
                    refine hK.out _ _ (below_step hHeld hxvx81) (fun hHeld => ?_)
                    clear hK K
                    try simp only [Act.put, List.setIfInBounds_toArray, List.set_cons_zero, List.set_cons_succ]
                    have B_p := B_p.keep hxvx81
                    have B_q := B_q.keep hxvx81
                    refine wpAnyH_ready (rs := [20]) (by kernel_rfl) (by simp) ?_
                    refine AllReadyH.cons (i := 20) (o := ?o_82_20) ?h_82_20 (fun K hK => ?_) AllReadyH.nil
                    case h_82_20 => (simp only [List.getElem?_toArray, List.getElem?_cons_succ, List.getElem?_cons_zero]; rfl)
                    have H_83 := (below_own (below_own hHeld G_p 0 (.int .u64 xa)) G_p 1 (.int .u64 xb))
                    obtain ⟨cx83_0, cx83_1, _⟩ := B_p.cells2
                    obtain ⟨fx83_0, fx83_1⟩ := B_p.free2
                    have C_q := (Blk.far (p := ⟨b_p, 1, none⟩) (Blk.far (p := ⟨b_p, 0, none⟩) B_q N_p_q.symm (.int .u64 xa)) N_p_q.symm (.int .u64 xb))
                    have C_p := (Blk.setTo (Blk.setTo B_p 0 (.int .u64 xa) rfl) 1 (.int .u64 xb) rfl)
                    go_simp
                    refine hK.out _ _ H_83 (fun hHeld => ?_)
                    clear hK K H_83 cx83_0 fx83_0 cx83_1 fx83_1
                    try simp only [Act.put, List.setIfInBounds_toArray, List.set_cons_zero, List.set_cons_succ]
                    clear B_p B_q
                    have B_p := C_p
                    have B_q := C_q
                    clear C_p C_q
                    generalize ((vx81.setCell ⟨b_p, 0, none⟩ (.int .u64 xa)).setCell ⟨b_p, 1, none⟩ (.int .u64 xb)) = vx83 at *
                    refine wpAnyH_ready (rs := [21]) (by kernel_rfl) (by simp) ?_
                    refine AllReadyH.cons (i := 21) (o := ?o_84_21) ?h_84_21 (fun K hK => ?_) AllReadyH.nil
                    case h_84_21 => (simp only [List.getElem?_toArray, List.getElem?_cons_succ, List.getElem?_cons_zero]; rfl)
                    have H_85 := (below_own (below_own hHeld G_q 0 (.int .u64 ya)) G_q 1 (.int .u64 yb))
                    obtain ⟨cx85_0, cx85_1, _⟩ := B_q.cells2
                    obtain ⟨fx85_0, fx85_1⟩ := B_q.free2
                    have C_p := (Blk.far (p := ⟨b_q, 1, none⟩) (Blk.far (p := ⟨b_q, 0, none⟩) B_p N_p_q (.int .u64 ya)) N_p_q (.int .u64 yb))
                    have C_q := (Blk.setTo (Blk.setTo B_q 0 (.int .u64 ya) rfl) 1 (.int .u64 yb) rfl)
                    go_simp
                    refine hK.out _ _ H_85 (fun hHeld => ?_)
                    clear hK K H_85 cx85_0 fx85_0 cx85_1 fx85_1
                    try simp only [Act.put, List.setIfInBounds_toArray, List.set_cons_zero, List.set_cons_succ]
                    clear B_p B_q
                    have B_p := C_p
                    have B_q := C_q
                    clear C_p C_q
                    generalize ((vx83.setCell ⟨b_q, 0, none⟩ (.int .u64 ya)).setCell ⟨b_q, 1, none⟩ (.int .u64 yb)) = vx85 at *
                    refine wpAnyH_done (by kernel_rfl) (NoPanic.normal ?_) _
                    go_wp2_with fail
                    go_meet
                    exact ⟨_, _, rfl, rfl, B_p, B_q, hHeld⟩
            · as_aux_lemma =>
                have B_q := Blk.new vx68 103 #[.int .u64 0, .int .u64 0]
                have N_p_q : b_p ≠ vx68.heap.size := by have := B_p.lt; omega
                have B_p := B_p.alloc (.cells #[.int .u64 0, .int .u64 0] 103)
                have G_q : wr.heap.size ≤ vx68.heap.size := hHeld.size
                have H_86 := Below.alloc hHeld hHeld.size (.cells #[.int .u64 0, .int .u64 0] 103)
                go_simp
                refine hK.out _ _ H_86 (fun hHeld => ?_)
                clear hK K H_86
                try simp only [Act.put, List.setIfInBounds_toArray, List.set_cons_zero, List.set_cons_succ]
                generalize vx68.alloc (.cells #[.int .u64 0, .int .u64 0] 103) = vx86 at *
                obtain ⟨b_q, hb_q⟩ : ∃ b, b = vx68.heap.size := ⟨_, rfl⟩
                rw [← hb_q] at B_q G_q N_p_q ⊢
                clear hb_q
                refine wpAnyH_ready (rs := [8]) (by kernel_rfl) (by simp) ?_
                refine AllReadyH.cons (i := 8) (o := ?o_87_8) ?h_87_8 (fun K hK => ?_) AllReadyH.nil
                case h_87_8 => (simp only [List.getElem?_toArray, List.getElem?_cons_succ, List.getElem?_cons_zero]; rfl)
                go_simp
                (go_at_call 53; refine (ha1 vx86 ((hx.keep hW).keep hHeld)).mono ?_; rintro e vx88 ⟨rfl, hxvx88⟩)
                try dsimp only
                refine hK.out _ _ (below_step hHeld hxvx88) (fun hHeld => ?_)
                clear hK K
                try simp only [Act.put, List.setIfInBounds_toArray, List.set_cons_zero, List.set_cons_succ]
                have B_p := B_p.keep hxvx88
                have B_q := B_q.keep hxvx88
                refine wpAnyH_ready (rs := [17]) (by kernel_rfl) (by simp) ?_
                refine AllReadyH.cons (i := 17) (o := ?o_89_17) ?h_89_17 (fun K hK => ?_) AllReadyH.nil
                case h_89_17 => (simp only [List.getElem?_toArray, List.getElem?_cons_succ, List.getElem?_cons_zero]; rfl)
                go_simp
                (go_at_call 53; refine (hb1 vx88 ((hy.keep hW).keep hHeld)).mono ?_; rintro e vx90 ⟨rfl, hxvx90⟩)
                try dsimp only
                refine hK.out _ _ (below_step hHeld hxvx90) (fun hHeld => ?_)
                clear hK K
                try simp only [Act.put, List.setIfInBounds_toArray, List.set_cons_zero, List.set_cons_succ]
                have B_p := B_p.keep hxvx90
                have B_q := B_q.keep hxvx90
                refine wpAnyH_ready (rs := [20]) (by kernel_rfl) (by simp) ?_
                refine AllReadyH.cons (i := 20) (o := ?o_91_20) ?h_91_20 (fun K hK => ?_) AllReadyH.nil
                case h_91_20 => (simp only [List.getElem?_toArray, List.getElem?_cons_succ, List.getElem?_cons_zero]; rfl)
                have H_92 := (below_own (below_own hHeld G_p 0 (.int .u64 xa)) G_p 1 (.int .u64 xb))
                obtain ⟨cx92_0, cx92_1, _⟩ := B_p.cells2
                obtain ⟨fx92_0, fx92_1⟩ := B_p.free2
                have C_q := (Blk.far (p := ⟨b_p, 1, none⟩) (Blk.far (p := ⟨b_p, 0, none⟩) B_q N_p_q.symm (.int .u64 xa)) N_p_q.symm (.int .u64 xb))
                have C_p := (Blk.setTo (Blk.setTo B_p 0 (.int .u64 xa) rfl) 1 (.int .u64 xb) rfl)
                go_simp
                refine hK.out _ _ H_92 (fun hHeld => ?_)
                clear hK K H_92 cx92_0 fx92_0 cx92_1 fx92_1
                try simp only [Act.put, List.setIfInBounds_toArray, List.set_cons_zero, List.set_cons_succ]
                clear B_p B_q
                have B_p := C_p
                have B_q := C_q
                clear C_p C_q
                generalize ((vx90.setCell ⟨b_p, 0, none⟩ (.int .u64 xa)).setCell ⟨b_p, 1, none⟩ (.int .u64 xb)) = vx92 at *
                refine wpAnyH_ready (rs := [21]) (by kernel_rfl) (by simp) ?_
                refine AllReadyH.cons (i := 21) (o := ?o_93_21) ?h_93_21 (fun K hK => ?_) AllReadyH.nil
                case h_93_21 => (simp only [List.getElem?_toArray, List.getElem?_cons_succ, List.getElem?_cons_zero]; rfl)
                have H_94 := (below_own (below_own hHeld G_q 0 (.int .u64 ya)) G_q 1 (.int .u64 yb))
                obtain ⟨cx94_0, cx94_1, _⟩ := B_q.cells2
                obtain ⟨fx94_0, fx94_1⟩ := B_q.free2
                have C_p := (Blk.far (p := ⟨b_q, 1, none⟩) (Blk.far (p := ⟨b_q, 0, none⟩) B_p N_p_q (.int .u64 ya)) N_p_q (.int .u64 yb))
                have C_q := (Blk.setTo (Blk.setTo B_q 0 (.int .u64 ya) rfl) 1 (.int .u64 yb) rfl)
                go_simp
                refine hK.out _ _ H_94 (fun hHeld => ?_)
                clear hK K H_94 cx94_0 fx94_0 cx94_1 fx94_1
                try simp only [Act.put, List.setIfInBounds_toArray, List.set_cons_zero, List.set_cons_succ]
                clear B_p B_q
                have B_p := C_p
                have B_q := C_q
                clear C_p C_q
                generalize ((vx92.setCell ⟨b_q, 0, none⟩ (.int .u64 ya)).setCell ⟨b_q, 1, none⟩ (.int .u64 yb)) = vx94 at *
                refine wpAnyH_done (by kernel_rfl) (NoPanic.normal ?_) _
                go_wp2_with fail
                go_meet
                exact ⟨_, _, rfl, rfl, B_p, B_q, hHeld⟩
        · as_aux_lemma =>
            have B_q := Blk.new vx0 103 #[.int .u64 0, .int .u64 0]
            have G_q : wr.heap.size ≤ vx0.heap.size := hHeld.size
            have H_95 := Below.alloc hHeld hHeld.size (.cells #[.int .u64 0, .int .u64 0] 103)
            go_simp
            refine hK.out _ _ H_95 (fun hHeld => ?_)
            clear hK K H_95
            try simp only [Act.put, List.setIfInBounds_toArray, List.set_cons_zero, List.set_cons_succ]
            generalize vx0.alloc (.cells #[.int .u64 0, .int .u64 0] 103) = vx95 at *
            obtain ⟨b_q, hb_q⟩ : ∃ b, b = vx0.heap.size := ⟨_, rfl⟩
            rw [← hb_q] at B_q G_q  ⊢
            clear hb_q
            refine wpAnyH_ready (rs := [8, 18]) (by kernel_rfl) (by simp) ?_
            refine AllReadyH.cons (i := 8) (o := ?o_96_8) ?h_96_8 (fun K hK => ?_) (AllReadyH.cons (i := 18) (o := ?o_96_18) ?h_96_18 (fun K hK => ?_) AllReadyH.nil)
            case h_96_8 => (simp only [List.getElem?_toArray, List.getElem?_cons_succ, List.getElem?_cons_zero]; rfl)
            case h_96_18 => (simp only [List.getElem?_toArray, List.getElem?_cons_succ, List.getElem?_cons_zero]; rfl)
            · as_aux_lemma =>
                go_simp
                (go_at_call 53; refine (ha1 vx95 ((hx.keep hW).keep hHeld)).mono ?_; rintro e vx97 ⟨rfl, hxvx97⟩)
                try dsimp only
                refine hK.out _ _ (below_step hHeld hxvx97) (fun hHeld => ?_)
                clear hK K
                try simp only [Act.put, List.setIfInBounds_toArray, List.set_cons_zero, List.set_cons_succ]
                have B_q := B_q.keep hxvx97
                refine wpAnyH_ready (rs := [17, 18]) (by kernel_rfl) (by simp) ?_
                refine AllReadyH.cons (i := 17) (o := ?o_98_17) ?h_98_17 (fun K hK => ?_) (AllReadyH.cons (i := 18) (o := ?o_98_18) ?h_98_18 (fun K hK => ?_) AllReadyH.nil)
                case h_98_17 => (simp only [List.getElem?_toArray, List.getElem?_cons_succ, List.getElem?_cons_zero]; rfl)
                case h_98_18 => (simp only [List.getElem?_toArray, List.getElem?_cons_succ, List.getElem?_cons_zero]; rfl)
                · as_aux_lemma =>
                    go_simp
                    (go_at_call 53; refine (hb1 vx97 ((hy.keep hW).keep hHeld)).mono ?_; rintro e vx99 ⟨rfl, hxvx99⟩)
                    try dsimp only
                    refine hK.out _ _ (below_step hHeld hxvx99) (fun hHeld => ?_)
                    clear hK K
                    try simp only [Act.put, List.setIfInBounds_toArray, List.set_cons_zero, List.set_cons_succ]
                    have B_q := B_q.keep hxvx99
                    refine wpAnyH_ready (rs := [18]) (by kernel_rfl) (by simp) ?_
                    refine AllReadyH.cons (i := 18) (o := ?o_100_18) ?h_100_18 (fun K hK => ?_) AllReadyH.nil
                    case h_100_18 => (simp only [List.getElem?_toArray, List.getElem?_cons_succ, List.getElem?_cons_zero]; rfl)
                    have B_p := Blk.new vx99 103 #[.int .u64 0, .int .u64 0]
                    have N_q_p : b_q ≠ vx99.heap.size := by have := B_q.lt; omega
                    have B_q := B_q.alloc (.cells #[.int .u64 0, .int .u64 0] 103)
                    have G_p : wr.heap.size ≤ vx99.heap.size := hHeld.size
                    have H_101 := Below.alloc hHeld hHeld.size (.cells #[.int .u64 0, .int .u64 0] 103)
                    go_simp
                    refine hK.out _ _ H_101 (fun hHeld => ?_)
                    clear hK K H_101
                    try simp only [Act.put, List.setIfInBounds_toArray, List.set_cons_zero, List.set_cons_succ]
                    generalize vx99.alloc (.cells #[.int .u64 0, .int .u64 0] 103) = vx101 at *
                    obtain ⟨b_p, hb_p⟩ : ∃ b, b = vx99.heap.size := ⟨_, rfl⟩
                    rw [← hb_p] at B_p G_p N_q_p ⊢
                    clear hb_p
                    refine wpAnyH_ready (rs := [20]) (by kernel_rfl) (by simp) ?_
                    refine AllReadyH.cons (i := 20) (o := ?o_102_20) ?h_102_20 (fun K hK => ?_) AllReadyH.nil
                    case h_102_20 => (simp only [List.getElem?_toArray, List.getElem?_cons_succ, List.getElem?_cons_zero]; rfl)
                    have H_103 := (below_own (below_own hHeld G_p 0 (.int .u64 xa)) G_p 1 (.int .u64 xb))
                    obtain ⟨cx103_0, cx103_1, _⟩ := B_p.cells2
                    obtain ⟨fx103_0, fx103_1⟩ := B_p.free2
                    have C_q := (Blk.far (p := ⟨b_p, 1, none⟩) (Blk.far (p := ⟨b_p, 0, none⟩) B_q N_q_p (.int .u64 xa)) N_q_p (.int .u64 xb))
                    have C_p := (Blk.setTo (Blk.setTo B_p 0 (.int .u64 xa) rfl) 1 (.int .u64 xb) rfl)
                    go_simp
                    refine hK.out _ _ H_103 (fun hHeld => ?_)
                    clear hK K H_103 cx103_0 fx103_0 cx103_1 fx103_1
                    try simp only [Act.put, List.setIfInBounds_toArray, List.set_cons_zero, List.set_cons_succ]
                    clear B_q B_p
                    have B_q := C_q
                    have B_p := C_p
                    clear C_q C_p
                    generalize ((vx101.setCell ⟨b_p, 0, none⟩ (.int .u64 xa)).setCell ⟨b_p, 1, none⟩ (.int .u64 xb)) = vx103 at *
                    refine wpAnyH_ready (rs := [21]) (by kernel_rfl) (by simp) ?_
                    refine AllReadyH.cons (i := 21) (o := ?o_104_21) ?h_104_21 (fun K hK => ?_) AllReadyH.nil
                    case h_104_21 => (simp only [List.getElem?_toArray, List.getElem?_cons_succ, List.getElem?_cons_zero]; rfl)
                    have H_105 := (below_own (below_own hHeld G_q 0 (.int .u64 ya)) G_q 1 (.int .u64 yb))
                    obtain ⟨cx105_0, cx105_1, _⟩ := B_q.cells2
                    obtain ⟨fx105_0, fx105_1⟩ := B_q.free2
                    have C_p := (Blk.far (p := ⟨b_q, 1, none⟩) (Blk.far (p := ⟨b_q, 0, none⟩) B_p N_q_p.symm (.int .u64 ya)) N_q_p.symm (.int .u64 yb))
                    have C_q := (Blk.setTo (Blk.setTo B_q 0 (.int .u64 ya) rfl) 1 (.int .u64 yb) rfl)
                    go_simp
                    refine hK.out _ _ H_105 (fun hHeld => ?_)
                    clear hK K H_105 cx105_0 fx105_0 cx105_1 fx105_1
                    try simp only [Act.put, List.setIfInBounds_toArray, List.set_cons_zero, List.set_cons_succ]
                    clear B_q B_p
                    have B_q := C_q
                    have B_p := C_p
                    clear C_q C_p
                    generalize ((vx103.setCell ⟨b_q, 0, none⟩ (.int .u64 ya)).setCell ⟨b_q, 1, none⟩ (.int .u64 yb)) = vx105 at *
                    refine wpAnyH_done (by kernel_rfl) (NoPanic.normal ?_) _
                    go_wp2_with fail
                    go_meet
                    exact ⟨_, _, rfl, rfl, B_p, B_q, hHeld⟩
                · as_aux_lemma =>
                    have B_p := Blk.new vx97 103 #[.int .u64 0, .int .u64 0]
                    have N_q_p : b_q ≠ vx97.heap.size := by have := B_q.lt; omega
                    have B_q := B_q.alloc (.cells #[.int .u64 0, .int .u64 0] 103)
                    have G_p : wr.heap.size ≤ vx97.heap.size := hHeld.size
                    have H_106 := Below.alloc hHeld hHeld.size (.cells #[.int .u64 0, .int .u64 0] 103)
                    go_simp
                    refine hK.out _ _ H_106 (fun hHeld => ?_)
                    clear hK K H_106
                    try simp only [Act.put, List.setIfInBounds_toArray, List.set_cons_zero, List.set_cons_succ]
                    generalize vx97.alloc (.cells #[.int .u64 0, .int .u64 0] 103) = vx106 at *
                    obtain ⟨b_p, hb_p⟩ : ∃ b, b = vx97.heap.size := ⟨_, rfl⟩
                    rw [← hb_p] at B_p G_p N_q_p ⊢
                    clear hb_p
                    refine wpAnyH_ready (rs := [17]) (by kernel_rfl) (by simp) ?_
                    refine AllReadyH.cons (i := 17) (o := ?o_107_17) ?h_107_17 (fun K hK => ?_) AllReadyH.nil
                    case h_107_17 => (simp only [List.getElem?_toArray, List.getElem?_cons_succ, List.getElem?_cons_zero]; rfl)
                    go_simp
                    (go_at_call 53; refine (hb1 vx106 ((hy.keep hW).keep hHeld)).mono ?_; rintro e vx108 ⟨rfl, hxvx108⟩)
                    try dsimp only
                    refine hK.out _ _ (below_step hHeld hxvx108) (fun hHeld => ?_)
                    clear hK K
                    try simp only [Act.put, List.setIfInBounds_toArray, List.set_cons_zero, List.set_cons_succ]
                    have B_q := B_q.keep hxvx108
                    have B_p := B_p.keep hxvx108
                    refine wpAnyH_ready (rs := [20]) (by kernel_rfl) (by simp) ?_
                    refine AllReadyH.cons (i := 20) (o := ?o_109_20) ?h_109_20 (fun K hK => ?_) AllReadyH.nil
                    case h_109_20 => (simp only [List.getElem?_toArray, List.getElem?_cons_succ, List.getElem?_cons_zero]; rfl)
                    have H_110 := (below_own (below_own hHeld G_p 0 (.int .u64 xa)) G_p 1 (.int .u64 xb))
                    obtain ⟨cx110_0, cx110_1, _⟩ := B_p.cells2
                    obtain ⟨fx110_0, fx110_1⟩ := B_p.free2
                    have C_q := (Blk.far (p := ⟨b_p, 1, none⟩) (Blk.far (p := ⟨b_p, 0, none⟩) B_q N_q_p (.int .u64 xa)) N_q_p (.int .u64 xb))
                    have C_p := (Blk.setTo (Blk.setTo B_p 0 (.int .u64 xa) rfl) 1 (.int .u64 xb) rfl)
                    go_simp
                    refine hK.out _ _ H_110 (fun hHeld => ?_)
                    clear hK K H_110 cx110_0 fx110_0 cx110_1 fx110_1
                    try simp only [Act.put, List.setIfInBounds_toArray, List.set_cons_zero, List.set_cons_succ]
                    clear B_q B_p
                    have B_q := C_q
                    have B_p := C_p
                    clear C_q C_p
                    generalize ((vx108.setCell ⟨b_p, 0, none⟩ (.int .u64 xa)).setCell ⟨b_p, 1, none⟩ (.int .u64 xb)) = vx110 at *
                    refine wpAnyH_ready (rs := [21]) (by kernel_rfl) (by simp) ?_
                    refine AllReadyH.cons (i := 21) (o := ?o_111_21) ?h_111_21 (fun K hK => ?_) AllReadyH.nil
                    case h_111_21 => (simp only [List.getElem?_toArray, List.getElem?_cons_succ, List.getElem?_cons_zero]; rfl)
                    have H_112 := (below_own (below_own hHeld G_q 0 (.int .u64 ya)) G_q 1 (.int .u64 yb))
                    obtain ⟨cx112_0, cx112_1, _⟩ := B_q.cells2
                    obtain ⟨fx112_0, fx112_1⟩ := B_q.free2
                    have C_p := (Blk.far (p := ⟨b_q, 1, none⟩) (Blk.far (p := ⟨b_q, 0, none⟩) B_p N_q_p.symm (.int .u64 ya)) N_q_p.symm (.int .u64 yb))
                    have C_q := (Blk.setTo (Blk.setTo B_q 0 (.int .u64 ya) rfl) 1 (.int .u64 yb) rfl)
                    go_simp
                    refine hK.out _ _ H_112 (fun hHeld => ?_)
                    clear hK K H_112 cx112_0 fx112_0 cx112_1 fx112_1
                    try simp only [Act.put, List.setIfInBounds_toArray, List.set_cons_zero, List.set_cons_succ]
                    clear B_q B_p
                    have B_q := C_q
                    have B_p := C_p
                    clear C_q C_p
                    generalize ((vx110.setCell ⟨b_q, 0, none⟩ (.int .u64 ya)).setCell ⟨b_q, 1, none⟩ (.int .u64 yb)) = vx112 at *
                    refine wpAnyH_done (by kernel_rfl) (NoPanic.normal ?_) _
                    go_wp2_with fail
                    go_meet
                    exact ⟨_, _, rfl, rfl, B_p, B_q, hHeld⟩
            · as_aux_lemma =>
                have B_p := Blk.new vx95 103 #[.int .u64 0, .int .u64 0]
                have N_q_p : b_q ≠ vx95.heap.size := by have := B_q.lt; omega
                have B_q := B_q.alloc (.cells #[.int .u64 0, .int .u64 0] 103)
                have G_p : wr.heap.size ≤ vx95.heap.size := hHeld.size
                have H_113 := Below.alloc hHeld hHeld.size (.cells #[.int .u64 0, .int .u64 0] 103)
                go_simp
                refine hK.out _ _ H_113 (fun hHeld => ?_)
                clear hK K H_113
                try simp only [Act.put, List.setIfInBounds_toArray, List.set_cons_zero, List.set_cons_succ]
                generalize vx95.alloc (.cells #[.int .u64 0, .int .u64 0] 103) = vx113 at *
                obtain ⟨b_p, hb_p⟩ : ∃ b, b = vx95.heap.size := ⟨_, rfl⟩
                rw [← hb_p] at B_p G_p N_q_p ⊢
                clear hb_p
                refine wpAnyH_ready (rs := [8]) (by kernel_rfl) (by simp) ?_
                refine AllReadyH.cons (i := 8) (o := ?o_114_8) ?h_114_8 (fun K hK => ?_) AllReadyH.nil
                case h_114_8 => (simp only [List.getElem?_toArray, List.getElem?_cons_succ, List.getElem?_cons_zero]; rfl)
                go_simp
                (go_at_call 53; refine (ha1 vx113 ((hx.keep hW).keep hHeld)).mono ?_; rintro e vx115 ⟨rfl, hxvx115⟩)
                try dsimp only
                refine hK.out _ _ (below_step hHeld hxvx115) (fun hHeld => ?_)
                clear hK K
                try simp only [Act.put, List.setIfInBounds_toArray, List.set_cons_zero, List.set_cons_succ]
                have B_q := B_q.keep hxvx115
                have B_p := B_p.keep hxvx115
                refine wpAnyH_ready (rs := [17]) (by kernel_rfl) (by simp) ?_
                refine AllReadyH.cons (i := 17) (o := ?o_116_17) ?h_116_17 (fun K hK => ?_) AllReadyH.nil
                case h_116_17 => (simp only [List.getElem?_toArray, List.getElem?_cons_succ, List.getElem?_cons_zero]; rfl)
                go_simp
                (go_at_call 53; refine (hb1 vx115 ((hy.keep hW).keep hHeld)).mono ?_; rintro e vx117 ⟨rfl, hxvx117⟩)
                try dsimp only
                refine hK.out _ _ (below_step hHeld hxvx117) (fun hHeld => ?_)
                clear hK K
                try simp only [Act.put, List.setIfInBounds_toArray, List.set_cons_zero, List.set_cons_succ]
                have B_q := B_q.keep hxvx117
                have B_p := B_p.keep hxvx117
                refine wpAnyH_ready (rs := [20]) (by kernel_rfl) (by simp) ?_
                refine AllReadyH.cons (i := 20) (o := ?o_118_20) ?h_118_20 (fun K hK => ?_) AllReadyH.nil
                case h_118_20 => (simp only [List.getElem?_toArray, List.getElem?_cons_succ, List.getElem?_cons_zero]; rfl)
                have H_119 := (below_own (below_own hHeld G_p 0 (.int .u64 xa)) G_p 1 (.int .u64 xb))
                obtain ⟨cx119_0, cx119_1, _⟩ := B_p.cells2
                obtain ⟨fx119_0, fx119_1⟩ := B_p.free2
                have C_q := (Blk.far (p := ⟨b_p, 1, none⟩) (Blk.far (p := ⟨b_p, 0, none⟩) B_q N_q_p (.int .u64 xa)) N_q_p (.int .u64 xb))
                have C_p := (Blk.setTo (Blk.setTo B_p 0 (.int .u64 xa) rfl) 1 (.int .u64 xb) rfl)
                go_simp
                refine hK.out _ _ H_119 (fun hHeld => ?_)
                clear hK K H_119 cx119_0 fx119_0 cx119_1 fx119_1
                try simp only [Act.put, List.setIfInBounds_toArray, List.set_cons_zero, List.set_cons_succ]
                clear B_q B_p
                have B_q := C_q
                have B_p := C_p
                clear C_q C_p
                generalize ((vx117.setCell ⟨b_p, 0, none⟩ (.int .u64 xa)).setCell ⟨b_p, 1, none⟩ (.int .u64 xb)) = vx119 at *
                refine wpAnyH_ready (rs := [21]) (by kernel_rfl) (by simp) ?_
                refine AllReadyH.cons (i := 21) (o := ?o_120_21) ?h_120_21 (fun K hK => ?_) AllReadyH.nil
                case h_120_21 => (simp only [List.getElem?_toArray, List.getElem?_cons_succ, List.getElem?_cons_zero]; rfl)
                have H_121 := (below_own (below_own hHeld G_q 0 (.int .u64 ya)) G_q 1 (.int .u64 yb))
                obtain ⟨cx121_0, cx121_1, _⟩ := B_q.cells2
                obtain ⟨fx121_0, fx121_1⟩ := B_q.free2
                have C_p := (Blk.far (p := ⟨b_q, 1, none⟩) (Blk.far (p := ⟨b_q, 0, none⟩) B_p N_q_p.symm (.int .u64 ya)) N_q_p.symm (.int .u64 yb))
                have C_q := (Blk.setTo (Blk.setTo B_q 0 (.int .u64 ya) rfl) 1 (.int .u64 yb) rfl)
                go_simp
                refine hK.out _ _ H_121 (fun hHeld => ?_)
                clear hK K H_121 cx121_0 fx121_0 cx121_1 fx121_1
                try simp only [Act.put, List.setIfInBounds_toArray, List.set_cons_zero, List.set_cons_succ]
                clear B_q B_p
                have B_q := C_q
                have B_p := C_p
                clear C_q C_p
                generalize ((vx119.setCell ⟨b_q, 0, none⟩ (.int .u64 ya)).setCell ⟨b_q, 1, none⟩ (.int .u64 yb)) = vx121 at *
                refine wpAnyH_done (by kernel_rfl) (NoPanic.normal ?_) _
                go_wp2_with fail
                go_meet
                exact ⟨_, _, rfl, rfl, B_p, B_q, hHeld⟩
      case rest =>
        obtain ⟨b1, b2, rfl, rfl, hB1, hB2, hU⟩ := hcut
        have hWu := below_step hW hU
        obtain ⟨p0, p1, _⟩ := hB1.cells2
        obtain ⟨q0, q1, _⟩ := hB2.cells2
        have hq := fun w => run_neq_two xa xb ya yb f1 f2 f3 f4 w
        rw [← HUL.out] at hq
        generalize unlikeN x y za zb = B at *
        clear hW hU ca cb qa qb ha1 hb1 HUL hB1 hB2
        cases B with
        | true =>
          have HE := Lib.hid (show movedTo x y oa ob (k + 1) = mt + 1 by rw [HST.out]; rfl)
          go_wp2
          go_roundg (p - (k + 1))
          case measure => omega
          case rel => exact ⟨k + 1, by omega, rfl, by go_num, by rw [HE.out]; go_num, hWu⟩
        | false =>
          have HE := Lib.hid (show movedTo x y oa ob (k + 1) = mt by rw [HST.out]; rfl)
          go_wp2
          go_roundg (p - (k + 1))
          case measure => omega
          case rel => exact ⟨k + 1, by omega, rfl, by go_num, by rw [HE.out], hWu⟩
    · obtain rfl : k = p := by omega
      go_wp2
      go_ret
      exact ⟨rfl, hW⟩
end Go.Proofs.Ytpedhlmcgilliaa
