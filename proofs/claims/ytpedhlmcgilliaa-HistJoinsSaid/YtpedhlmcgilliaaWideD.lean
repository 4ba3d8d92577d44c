/- How numbers of 128 bits compare. -/
import Derived.Test.YtpedhlmcgilliaaWideC
set_option linter.unusedVariables false
namespace Go.Proofs.Ytpedhlmcgilliaa
open Go.RowKit
set_option maxHeartbeats 400000
theorem cmp_lt {a b : Int} (h : a < b) : cmpI a b = -1 := by unfold cmpI; rw [if_pos h]
theorem cmp_eq {a b : Int} (h : a = b) : cmpI a b = 0 := by unfold cmpI; rw [if_neg (by omega), if_pos h]
theorem cmp_gt {a b : Int} (h : b < a) : cmpI a b = 1 := by unfold cmpI; rw [if_neg (by omega), if_neg (by omega)]
theorem cmpI_bd (a b : Int) : -1 ≤ cmpI a b ∧ cmpI a b ≤ 1 := by unfold cmpI; (repeat' split) <;> omega
theorem wide_Cmp (ah al bh bl : Int) (ha : IsNum ah al) (hb : IsNum bh bl) (w : World) :
    Calls Try.prog 62 #[.agg #[.int .u64 ah, .int .u64 al], .agg #[.int .u64 bh, .int .u64 bl]] w fun e w' =>
      e = .returned (.int .i64 (cmpI (V ah al) (V bh bl))) ∧ Below w.heap.size w w' := by
  by_cases g1 : ah < bh
  · rw [cmp_lt ((V_lt ha hb).2 (.inl g1))]
    clear ha hb
    go_enter Try.func62, Try.ntmps62
    go_wp2
    go_ret
    exact ⟨rfl, by go_grown⟩
  · by_cases g2 : ah = bh
    · subst g2
      by_cases g3 : al < bl
      · rw [cmp_lt ((V_lt ha hb).2 (.inr ⟨rfl, g3⟩))]
        clear ha hb
        go_enter Try.func62, Try.ntmps62
        go_wp2
        go_ret
        exact ⟨rfl, by go_grown⟩
      · by_cases g4 : al = bl
        · subst g4
          rw [cmp_eq rfl]
          clear ha hb
          go_enter Try.func62, Try.ntmps62
          go_wp2
          go_ret
          exact ⟨rfl, by go_grown⟩
        · rw [cmp_gt ((V_lt hb ha).2 (.inr ⟨rfl, by omega⟩))]
          clear ha hb
          go_enter Try.func62, Try.ntmps62
          go_wp2
          go_ret
          exact ⟨rfl, by go_grown⟩
    · rw [cmp_gt ((V_lt hb ha).2 (.inl (by omega)))]
      clear ha hb
      go_enter Try.func62, Try.ntmps62
      go_wp2
      go_ret
      exact ⟨rfl, by go_grown⟩
end Go.Proofs.Ytpedhlmcgilliaa
