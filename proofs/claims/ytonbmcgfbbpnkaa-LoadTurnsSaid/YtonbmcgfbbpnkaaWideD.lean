/- How numbers of 128 bits compare. -/
import Derived.Test.YtonbmcgfbbpnkaaWideC
set_option linter.unusedVariables false
namespace Go.Proofs.Ytonbmcgfbbpnkaa
open Go.RowKit
set_option maxHeartbeats 400000
theorem cmp_lt {a b : Int} (h : a < b) : cmpI a b = -1 := by unfold cmpI; rw [if_pos h]
theorem cmp_eq {a b : Int} (h : a = b) : cmpI a b = 0 := by unfold cmpI; rw [if_neg (by omega), if_pos h]
theorem cmp_gt {a b : Int} (h : b < a) : cmpI a b = 1 := by unfold cmpI; rw [if_neg (by omega), if_neg (by omega)]
theorem cmpI_bd (a b : Int) : -1 ≤ cmpI a b ∧ cmpI a b ≤ 1 := by unfold cmpI; (repeat' split) <;> omega
theorem wide_Cmp (ah al bh bl : Int) (ha : IsNum ah al) (hb : IsNum bh bl) (w : World) :
    Calls Try.prog 36 #[.agg #[.int .u64 ah, .int .u64 al], .agg #[.int .u64 bh, .int .u64 bl]] w fun e w' =>
      e = .returned (.int .i64 (cmpI (V ah al) (V bh bl))) ∧ Below w.heap.size w w' := by
  by_cases g1 : ah < bh
  · rw [cmp_lt ((V_lt ha hb).2 (.inl g1))]
    clear ha hb
    go_enter Try.func36, Try.ntmps36
    go_wp2
    go_ret
    exact ⟨rfl, by go_grown⟩
  · by_cases g2 : ah = bh
    · subst g2
      by_cases g3 : al < bl
      · rw [cmp_lt ((V_lt ha hb).2 (.inr ⟨rfl, g3⟩))]
        clear ha hb
        go_enter Try.func36, Try.ntmps36
        go_wp2
        go_ret
        exact ⟨rfl, by go_grown⟩
      · by_cases g4 : al = bl
        · subst g4
          rw [cmp_eq rfl]
          clear ha hb
          go_enter Try.func36, Try.ntmps36
          go_wp2
          go_ret
          exact ⟨rfl, by go_grown⟩
        · rw [cmp_gt ((V_lt hb ha).2 (.inr ⟨rfl, by omega⟩))]
          clear ha hb
          go_enter Try.func36, Try.ntmps36
          go_wp2
          go_ret
          exact ⟨rfl, by go_grown⟩
    · rw [cmp_gt ((V_lt hb ha).2 (.inl (by omega)))]
      clear ha hb
      go_enter Try.func36, Try.ntmps36
      go_wp2
      go_ret
      exact ⟨rfl, by go_grown⟩
theorem law_less (ah al bh bl : Int) (ha : IsNum ah al) (hb : IsNum bh bl) (w : World) :
    Calls Try.prog 45 #[.agg #[.int .u64 ah, .int .u64 al], .agg #[.int .u64 bh, .int .u64 bl]] w fun e w' =>
      e = .returned (.bool (decide (V ah al < V bh bl))) ∧ Below w.heap.size w w' := by
  by_cases g1 : ah < bh
  · rw [show decide (V ah al < V bh bl) = true by simp only [decide_eq_true_eq]; exact (V_lt ha hb).2 (.inl g1)]
    clear ha hb
    go_enter Try.func45, Try.ntmps45
    go_wp2
    go_ret
    exact ⟨rfl, by go_grown⟩
  · by_cases g2 : ah = bh
    · subst g2
      by_cases g3 : al < bl
      · rw [show decide (V ah al < V ah bl) = true by simp only [decide_eq_true_eq]; exact (V_lt ha hb).2 (.inr ⟨rfl, g3⟩)]
        clear ha hb
        go_enter Try.func45, Try.ntmps45
        go_wp2
        go_ret
        exact ⟨rfl, by go_grown⟩
      · rw [show decide (V ah al < V ah bl) = false by simp only [decide_eq_false_iff_not, V_lt ha hb]; omega]
        clear ha hb
        go_enter Try.func45, Try.ntmps45
        go_wp2
        go_ret
        exact ⟨rfl, by go_grown⟩
    · rw [show decide (V ah al < V bh bl) = false by simp only [decide_eq_false_iff_not, V_lt ha hb]; omega]
      clear ha hb
      go_enter Try.func45, Try.ntmps45
      go_wp2
      go_ret
      exact ⟨rfl, by go_grown⟩
theorem law_cmp (ah al bh bl : Int) (ha : IsNum ah al) (hb : IsNum bh bl) (w : World) :
    Calls Try.prog 37 #[.agg #[.int .u64 ah, .int .u64 al], .agg #[.int .u64 bh, .int .u64 bl]] w fun e w' =>
      e = .returned (.int .i64 (cmpI (V ah al) (V bh bl))) ∧ Below w.heap.size w w' := by
  have key : ∀ (x y : Bool), decide (V ah al < V bh bl) = x → decide (V bh bl < V ah al) = y → (cmpI (V ah al) (V bh bl) = if x then -1 else if y then 1 else 0) := by
    intro x y hx hy; subst hx hy; unfold cmpI; simp only [decide_eq_true_eq]; (repeat' split) <;> omega
  cases hx : decide (V ah al < V bh bl) with
  | true =>
    rw [key _ _ hx rfl]
    go_enter Try.func37, Try.ntmps37
    go_wp2_with fail
    refine (law_less _ _ _ _ ha hb _).mono ?_; rintro e w1 ⟨rfl, hb1⟩
    rw [hx]
    go_wp2
    go_ret
    exact ⟨rfl, below_step (by go_grown) hb1⟩
  | false =>
    cases hy : decide (V bh bl < V ah al) with
    | true =>
      rw [key _ _ hx hy]
      go_enter Try.func37, Try.ntmps37
      go_wp2_with fail
      refine (law_less _ _ _ _ ha hb _).mono ?_; rintro e w1 ⟨rfl, hb1⟩
      rw [hx]
      have f0 := (hb1.cell (p := ⟨w.heap.size, 0, none⟩) (by simp only [World.size_alloc]; omega)).trans (show _ = some (Value.int .u64 ah) by simp)
      have f1 := (hb1.cell (p := ⟨w.heap.size, 1, none⟩) (by simp only [World.size_alloc]; omega)).trans (show _ = some (Value.int .u64 al) by simp)
      have f2 := (hb1.cell (p := ⟨w.heap.size + 1, 0, none⟩) (by simp only [World.size_alloc]; omega)).trans (show _ = some (Value.int .u64 bh) by simp)
      have f3 := (hb1.cell (p := ⟨w.heap.size + 1, 1, none⟩) (by simp only [World.size_alloc]; omega)).trans (show _ = some (Value.int .u64 bl) by simp)
      have hb0 := Lib.hid (show Below w.heap.size w w1 from below_step (by go_grown) hb1)
      clear hb1
      go_wp2_with fail
      refine (law_less _ _ _ _ hb ha _).mono ?_; rintro e w2 ⟨rfl, hb2⟩
      rw [hy]
      go_wp2
      go_ret
      exact ⟨rfl, below_step hb0.out hb2⟩
    | false =>
      rw [key _ _ hx hy]
      go_enter Try.func37, Try.ntmps37
      go_wp2_with fail
      refine (law_less _ _ _ _ ha hb _).mono ?_; rintro e w1 ⟨rfl, hb1⟩
      rw [hx]
      have f0 := (hb1.cell (p := ⟨w.heap.size, 0, none⟩) (by simp only [World.size_alloc]; omega)).trans (show _ = some (Value.int .u64 ah) by simp)
      have f1 := (hb1.cell (p := ⟨w.heap.size, 1, none⟩) (by simp only [World.size_alloc]; omega)).trans (show _ = some (Value.int .u64 al) by simp)
      have f2 := (hb1.cell (p := ⟨w.heap.size + 1, 0, none⟩) (by simp only [World.size_alloc]; omega)).trans (show _ = some (Value.int .u64 bh) by simp)
      have f3 := (hb1.cell (p := ⟨w.heap.size + 1, 1, none⟩) (by simp only [World.size_alloc]; omega)).trans (show _ = some (Value.int .u64 bl) by simp)
      have hb0 := Lib.hid (show Below w.heap.size w w1 from below_step (by go_grown) hb1)
      clear hb1
      go_wp2_with fail
      refine (law_less _ _ _ _ hb ha _).mono ?_; rintro e w2 ⟨rfl, hb2⟩
      rw [hy]
      go_wp2
      go_ret
      exact ⟨rfl, below_step hb0.out hb2⟩
end Go.Proofs.Ytonbmcgfbbpnkaa
