/- WideProducts. -/
import Derived.Test.YtonbmcgfbbpnkaaWideD
set_option linter.unusedVariables false
namespace Go.Proofs.Ytonbmcgfbbpnkaa
open Go.RowKit
set_option maxHeartbeats 400000
theorem mul_ex (w : World) : Calls Try.prog 34 #[.int .u64 9223372036854775808, .int .u64 4] w fun e w' => e = .returned (.agg #[.int .u64 2, .int .u64 0]) ∧ Below w.heap.size w w' :=
  (wide_Mul 9223372036854775808 4 (by decide) (by decide) (by decide) (by decide) w).mono fun e w' ⟨he, hb⟩ => ⟨he.trans (by rw [show pHi 9223372036854775808 4 = 2 from by decide +kernel, show pLo 9223372036854775808 4 = 0 from by decide +kernel]), hb⟩
theorem wide_awake (w : World) : Calls Try.prog 38 #[] w fun e w' => e = .returned (.bool true) ∧ Below w.heap.size w w' := by
  go_enter Try.func38, Try.ntmps38
  go_wp2_with fail
  refine (mul_ex _).mono ?_; rintro e w1 ⟨rfl, hb1⟩
  go_wp2
  go_ret
  exact ⟨rfl, hb1⟩
/-- What add answers, in both cases. -/
def addRes (ah al bh bl : Int) : Value := .tuple #[.agg #[.int .u64 (if fits ah al bh bl then sHi ah al bh bl else 0), .int .u64 (if fits ah al bh bl then sLo al bl else 0)], .bool (fits ah al bh bl)]
def addH (ah al bh bl : Int) : Int := if fits ah al bh bl then sHi ah al bh bl else 0
def addL (ah al bh bl : Int) : Int := if fits ah al bh bl then sLo al bl else 0
theorem wide_AddAny (ah al bh bl : Int) (ha : IsNum ah al) (hb : IsNum bh bl) (w : World) :
    Calls Try.prog 32 #[.agg #[.int .u64 ah, .int .u64 al], .agg #[.int .u64 bh, .int .u64 bl]] w fun e w' =>
      e = .returned (.tuple #[.agg #[.int .u64 (addH ah al bh bl), .int .u64 (addL ah al bh bl)], .bool (fits ah al bh bl)]) ∧ Below w.heap.size w w' := by
  unfold addH addL
  cases h : fits ah al bh bl with
  | true => exact wide_Add ah al bh bl ha hb h w
  | false => exact wide_AddNo ah al bh bl ha hb h w
theorem law_addAny (ah al bh bl : Int) (ha : IsNum ah al) (hb : IsNum bh bl) (w : World) :
    Calls Try.prog 33 #[.agg #[.int .u64 ah, .int .u64 al], .agg #[.int .u64 bh, .int .u64 bl]] w fun e w' =>
      e = .returned (.tuple #[.agg #[.int .u64 (addH ah al bh bl), .int .u64 (addL ah al bh bl)], .bool (fits ah al bh bl)]) ∧ Below w.heap.size w w' := by
  unfold addH addL
  cases h : fits ah al bh bl with
  | true => exact law_add ah al bh bl ha hb h w
  | false => exact law_addNo ah al bh bl ha hb h w
theorem add_num {ah al bh bl : Int} : IsNum (addH ah al bh bl) (addL ah al bh bl) := by
  unfold addH addL
  cases h : fits ah al bh bl with
  | true => exact s_num _ _ _ _
  | false => exact ⟨Int.le_refl _, (by simp), Int.le_refl _, (by simp)⟩
set_option maxHeartbeats 1600000 in
theorem wideProducts_walk (w : World) (a : Int) (a0 : 0 ≤ a) (a1 : a < 18446744073709551616) (b : Int) (b0 : 0 ≤ b) (b1 : b < 18446744073709551616) (xh xl : Int) (hnx : IsNum xh xl) (yh yl : Int) (hny : IsNum yh yl) :
    Calls Try.prog 3 #[.int .u64 a, .int .u64 b, .agg #[.int .u64 xh, .int .u64 xl], .agg #[.int .u64 yh, .int .u64 yl]] w fun e w' => e = .returned (.bool true) ∧ Below w.heap.size w w' := by
  go_enter Try.func3, Try.ntmps3
  go_wp2_with fail
  refine (wide_AddAny xh xl yh yl hnx hny _).mono ?_; rintro e w1 ⟨rfl, hb1⟩
  have f0 := (hb1.cell (p := ⟨w.heap.size, 0, none⟩) (by simp only [World.size_alloc]; omega)).trans (show _ = some (Value.int .u64 xh) by simp)
  have f1 := (hb1.cell (p := ⟨w.heap.size, 1, none⟩) (by simp only [World.size_alloc]; omega)).trans (show _ = some (Value.int .u64 xl) by simp)
  have f2 := (hb1.cell (p := ⟨w.heap.size + 1, 0, none⟩) (by simp only [World.size_alloc]; omega)).trans (show _ = some (Value.int .u64 yh) by simp)
  have f3 := (hb1.cell (p := ⟨w.heap.size + 1, 1, none⟩) (by simp only [World.size_alloc]; omega)).trans (show _ = some (Value.int .u64 yl) by simp)
  have s1 : w.heap.size < w1.heap.size := by have := hb1.size; simp only [World.size_alloc] at this; omega
  have s2 : w.heap.size + 1 < w1.heap.size := by have := hb1.size; simp only [World.size_alloc] at this; omega
  have hb0 := Lib.hid (show Below w.heap.size w w1 from below_step (by go_grown) hb1)
  clear hb1
  go_wp2_with fail
  refine (law_addAny xh xl yh yl hnx hny _).mono ?_; rintro e w2 ⟨rfl, hb2⟩
  have g0 := kept1 hb2 s1 f0
  have g1 := kept1 hb2 s1 f1
  have g2 := kept1 hb2 s2 f2
  have g3 := kept1 hb2 s2 f3
  have g4 := (hb2.cell (p := ⟨w1.heap.size, 0, none⟩) (by simp only [World.size_alloc]; omega)).trans (show _ = some (Value.int .u64 (addH xh xl yh yl)) by simp)
  have g5 := (hb2.cell (p := ⟨w1.heap.size, 1, none⟩) (by simp only [World.size_alloc]; omega)).trans (show _ = some (Value.int .u64 (addL xh xl yh yl)) by simp)
  have t1 : w.heap.size < w2.heap.size := by have := hb2.size; simp only [World.size_alloc] at this; omega
  have t2 : w.heap.size + 1 < w2.heap.size := by have := hb2.size; simp only [World.size_alloc] at this; omega
  have t3 : w1.heap.size < w2.heap.size := by have := hb2.size; simp only [World.size_alloc] at this; omega
  have hb3 := Lib.hid (show Below w.heap.size w w2 from below_step (below_step hb0.out (by go_grown)) hb2)
  clear hb2 f0 f1 f2 f3
  go_wp2_with fail
  generalize hu : w2.alloc (.cells #[.int .u64 (addH xh xl yh yl), .int .u64 (addL xh xl yh yl)] 24) = u
  have p0 : u.cell? ⟨w.heap.size, 0, none⟩ = some (.int .u64 xh) := by rw [← hu]; exact (World.cell?_alloc_lt _ _ _ t1).trans g0
  have p1 : u.cell? ⟨w.heap.size, 1, none⟩ = some (.int .u64 xl) := by rw [← hu]; exact (World.cell?_alloc_lt _ _ _ t1).trans g1
  have p2 : u.cell? ⟨w.heap.size + 1, 0, none⟩ = some (.int .u64 yh) := by rw [← hu]; exact (World.cell?_alloc_lt _ _ _ t2).trans g2
  have p3 : u.cell? ⟨w.heap.size + 1, 1, none⟩ = some (.int .u64 yl) := by rw [← hu]; exact (World.cell?_alloc_lt _ _ _ t2).trans g3
  have p4 : u.cell? ⟨w1.heap.size, 0, none⟩ = some (.int .u64 (addH xh xl yh yl)) := by rw [← hu]; exact (World.cell?_alloc_lt _ _ _ t3).trans g4
  have p5 : u.cell? ⟨w1.heap.size, 1, none⟩ = some (.int .u64 (addL xh xl yh yl)) := by rw [← hu]; exact (World.cell?_alloc_lt _ _ _ t3).trans g5
  have p6 : u.cell? ⟨w2.heap.size, 0, none⟩ = some (.int .u64 (addH xh xl yh yl)) := by rw [← hu]; simp
  have p7 : u.cell? ⟨w2.heap.size, 1, none⟩ = some (.int .u64 (addL xh xl yh yl)) := by rw [← hu]; simp
  have p8 : w2.heap.size < u.heap.size := by rw [← hu]; simp
  have p9 : Below w.heap.size w u := by rw [← hu]; exact hb3.out.alloc (by omega) _
  clear hu g0 g1 g2 g3 g4 g5 hb3 hb0
  have p9d := p9.drew
  go_region_held3 (fun w' => w'.cell? ⟨w.heap.size, 0, none⟩ = some (.int .u64 xh) ∧ w'.cell? ⟨w.heap.size, 1, none⟩ = some (.int .u64 xl) ∧ w'.cell? ⟨w.heap.size + 1, 0, none⟩ = some (.int .u64 yh) ∧ w'.cell? ⟨w.heap.size + 1, 1, none⟩ = some (.int .u64 yl) ∧ w'.cell? ⟨w1.heap.size, 0, none⟩ = some (.int .u64 (addH xh xl yh yl)) ∧ w'.cell? ⟨w1.heap.size, 1, none⟩ = some (.int .u64 (addL xh xl yh yl)) ∧ w'.cell? ⟨w2.heap.size, 0, none⟩ = some (.int .u64 (addH xh xl yh yl)) ∧ w'.cell? ⟨w2.heap.size, 1, none⟩ = some (.int .u64 (addL xh xl yh yl)) ∧ w2.heap.size < w'.heap.size ∧ Below w.heap.size w w')
    (((try (rename_i hS hK0 hK1; obtain ⟨q0, q1, q2, q3, q4, q5, q6, q7, q8, q9⟩ := hS)); (repeat' apply And.intro) <;> first | assumption | exact Below.drew (by assumption) | (refine keptc hx ?_ ?_ <;> first | omega | assumption | exact Below.drew (by assumption)) | (refine lt_0 hx ?_ <;> first | omega | assumption | exact Below.drew (by assumption)) | (refine below_0 hx ?_ <;> first | omega | assumption | exact Below.drew (by assumption)) | (refine keptc_a hx ?_ ?_ <;> first | omega | assumption | exact Below.drew (by assumption)) | (refine lt_a hx ?_ <;> first | omega | assumption | exact Below.drew (by assumption)) | (refine below_a hx ?_ <;> first | omega | assumption | exact Below.drew (by assumption)) | (refine Below.drew (Below.alloc (by assumption : Below w.heap.size w _) ?_ _) <;> omega) | (refine Below.alloc (by assumption : Below w.heap.size w _) ?_ _ <;> omega) | (refine Below.setCell (by assumption : Below w.heap.size w _) ?_ _ <;> first | omega | (simp; omega)) | (refine Below.drew (Below.setCell (by assumption : Below w.heap.size w _) ?_ _) <;> first | omega | (simp; omega)) | (simp [go_sem, *]; done) | (simp [go_sem, *]; omega)))
    (first
      | (go_at_call 34; refine (wide_Mul a b a0 a1 b0 b1 _).mono ?_; rintro e w' ⟨rfl, hx⟩)
      | (go_at_call 35; refine (law_mul a b a0 a1 b0 b1 _).mono ?_; rintro e w' ⟨rfl, hx⟩)
      | (go_at_call 36; refine (wide_Cmp xh xl yh yl hnx hny _).mono ?_; rintro e w' ⟨rfl, hx⟩)
      | (go_at_call 37; refine (law_cmp xh xl yh yl hnx hny _).mono ?_; rintro e w' ⟨rfl, hx⟩)
      | (go_at_call 38; refine (wide_awake _).mono ?_; rintro e w' ⟨rfl, hx⟩))
  go_wp2
  go_ret
  rename_i hS
  exact ⟨rfl, hS.2.2.2.2.2.2.2.2.2⟩
end Go.Proofs.Ytonbmcgfbbpnkaa
