/- Fractions held against each other. -/
import Derived.Test.YtpedhlmcgilliaaWideE
set_option linter.unusedVariables false
namespace Go.Proofs.Ytpedhlmcgilliaa
open Go.RowKit
set_option maxHeartbeats 1000000
def fracI (au ad bu bd : Int) : Int := if ad = 0 then (if bd = 0 then 0 else 1) else if bd = 0 then -1 else cmpI (au * bd) (bu * ad)
theorem frac_pos {au ad bu bd : Int} (h1 : ad ≠ 0) (h2 : bd ≠ 0) : fracI au ad bu bd = cmpI (V (pHi au bd) (pLo au bd)) (V (pHi bu ad) (pLo bu ad)) := by
  unfold fracI; rw [if_neg h1, if_neg h2, p_V, p_V]
set_option maxRecDepth 100000 in
theorem wide_FracCmp (au ad bu bd : Int) (ha : IsNum au ad) (hb : IsNum bu bd) (w : World) :
    Calls Try.prog 43 #[.agg #[.int .u64 au, .int .u64 ad], .agg #[.int .u64 bu, .int .u64 bd]] w fun e w' =>
      e = .returned (.int .i64 (fracI au ad bu bd)) ∧ Below w.heap.size w w' := by
  obtain ⟨a0, a1, a2, a3⟩ := ha
  obtain ⟨b0, b1, b2, b3⟩ := hb
  by_cases h1 : ad = 0
  · subst h1
    by_cases h2 : bd = 0
    · subst h2
      rw [show fracI au 0 bu 0 = 0 from by unfold fracI; rw [if_pos rfl, if_pos rfl]]
      go_enter Try.func43, Try.ntmps43
      go_wp2
      go_ret
      exact ⟨rfl, by go_grown⟩
    · rw [show fracI au 0 bu bd = 1 from by unfold fracI; rw [if_pos rfl, if_neg h2]]
      have h2' : (bd == 0) = false := by simp [h2]
      go_enter Try.func43, Try.ntmps43
      go_wp2
      go_ret
      exact ⟨rfl, by go_grown⟩
  · have h1' : (ad == 0) = false := by simp [h1]
    by_cases h2 : bd = 0
    · subst h2
      rw [show fracI au ad bu 0 = -1 from by unfold fracI; rw [if_neg h1, if_pos rfl]]
      clear h1
      go_enter Try.func43, Try.ntmps43
      go_wp2
      go_ret
      exact ⟨rfl, by go_grown⟩
    · have h2' : (bd == 0) = false := by simp [h2]
      rw [frac_pos h1 h2]
      have n1 := Lib.hid (p_num au bd a0 a1 b2 b3)
      have n2 := Lib.hid (p_num bu ad b0 b1 a2 a3)
      clear h1 h2
      go_enter Try.func43, Try.ntmps43
      go_wp2_with fail
      generalize hu : (w.alloc (.cells #[.int .u64 au, .int .u64 ad] 48)).alloc (.cells #[.int .u64 bu, .int .u64 bd] 48) = u
      have p0 : u.cell? ⟨w.heap.size, 0, none⟩ = some (.int .u64 au) := by rw [← hu]; simp
      have p1 : u.cell? ⟨w.heap.size, 1, none⟩ = some (.int .u64 ad) := by rw [← hu]; simp
      have p2 : u.cell? ⟨w.heap.size + 1, 0, none⟩ = some (.int .u64 bu) := by rw [← hu]; simp
      have p3 : u.cell? ⟨w.heap.size + 1, 1, none⟩ = some (.int .u64 bd) := by rw [← hu]; simp
      have p4 : w.heap.size + 1 < u.heap.size := by rw [← hu]; simp
      have p5 : Below w.heap.size w u := by rw [← hu]; go_grown
      have p5d := p5.drew
      have p4d : w.heap.size + 1 < u.drew.heap.size := p4
      clear hu
      go_region_held3 (fun w' => w'.cell? ⟨w.heap.size, 0, none⟩ = some (.int .u64 au) ∧ w'.cell? ⟨w.heap.size, 1, none⟩ = some (.int .u64 ad) ∧ w'.cell? ⟨w.heap.size + 1, 0, none⟩ = some (.int .u64 bu) ∧ w'.cell? ⟨w.heap.size + 1, 1, none⟩ = some (.int .u64 bd) ∧ w.heap.size + 1 < w'.heap.size ∧ Below w.heap.size w w')
        (((try (rename_i hS hK0 hK1; obtain ⟨q0, q1, q2, q3, q4, q5⟩ := hS)); (repeat' apply And.intro) <;> first | assumption | exact Below.drew (by assumption) | (refine keptc hx ?_ ?_ <;> first | omega | assumption | exact Below.drew (by assumption)) | (refine lt_0 hx ?_ <;> first | omega | assumption | exact Below.drew (by assumption)) | (refine below_0 hx ?_ <;> first | omega | assumption | exact Below.drew (by assumption)) | (refine keptc_a hx ?_ ?_ <;> first | omega | assumption | exact Below.drew (by assumption)) | (refine lt_a hx ?_ <;> first | omega | assumption | exact Below.drew (by assumption)) | (refine below_a hx ?_ <;> first | omega | assumption | exact Below.drew (by assumption)) | (refine Below.drew (Below.alloc (by assumption : Below w.heap.size w _) ?_ _) <;> omega) | (refine Below.alloc (by assumption : Below w.heap.size w _) ?_ _ <;> omega) | (refine Below.setCell (by assumption : Below w.heap.size w _) ?_ _ <;> first | omega | (simp; omega)) | (refine Below.drew (Below.setCell (by assumption : Below w.heap.size w _) ?_ _) <;> first | omega | (simp; omega)) | (simp [go_sem, *]; done) | (simp [go_sem, *]; omega)))
        (first
          | (go_at_call 61; first | ((with_reducible refine (wide_Mul au bd a0 a1 b2 b3 _).mono ?_); rintro e w' ⟨rfl, hx⟩) | ((with_reducible refine (wide_Mul bu ad b0 b1 a2 a3 _).mono ?_); rintro e w' ⟨rfl, hx⟩))
          | (go_at_call 62; refine (wide_Cmp _ _ _ _ n1.out n2.out _).mono ?_; rintro e w' ⟨rfl, hx⟩))
      go_wp2
      go_ret
      rename_i hS
      exact ⟨rfl, hS.2.2.2.2.2⟩
end Go.Proofs.Ytpedhlmcgilliaa
