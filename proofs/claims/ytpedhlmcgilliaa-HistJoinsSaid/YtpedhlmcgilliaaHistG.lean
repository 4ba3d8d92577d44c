/- Quantile. -/
import Derived.Test.YtpedhlmcgilliaaHistF
import Derived.Deep.MidRow
set_option linter.unusedVariables false
namespace Go.Proofs.Ytpedhlmcgilliaa
open Go.RowKit
set_option maxHeartbeats 2000000
set_option maxRecDepth 100000
def csum (cnt : Nat → Int) : Nat → Int
  | 0 => 0
  | k + 1 => csum cnt k + cnt k
theorem csum_nn (cnt : Nat → Int) (h : ∀ k, 0 ≤ cnt k) : ∀ k, 0 ≤ csum cnt k
  | 0 => Int.le_refl _
  | k + 1 => by
    have := csum_nn cnt h k
    have := h k
    rw [csum]; omega
def cntRow (cnt : Nat → Int) : List Value := (List.range 65).map fun k => .int .u64 (cnt k)
theorem cntRow_len (cnt : Nat → Int) : (cntRow cnt).length = 65 := by simp [cntRow]
theorem cntRow_at (cnt : Nat → Int) {k : Nat} (hk : k < 65) : (cntRow cnt)[k]? = some (.int .u64 (cnt k)) := by
  simp [cntRow, hk]
theorem HistIs.range {w : World} {b : Nat} {cnt : Nat → Int} {n hi lo least most : Int} (h : HistIs w b cnt n hi lo least most) : w.rangeAt b 0 (cntRow cnt) := by
  intro j v hj
  have hj65 : j < 65 := by
    rcases Nat.lt_or_ge j 65 with h1 | h1
    · exact h1
    · rw [List.getElem?_eq_none (by rw [cntRow_len]; exact h1)] at hj; cases hj
  rw [cntRow_at cnt hj65] at hj
  rw [Nat.zero_add, h.cellAt hj65]
  exact hj
theorem idx_row (cnt : Nat → Int) {k : Nat} (hk : k < 65) (w : World) : (Instr.index 76 (.agg (cntRow cnt).toArray) (.int .i64 (k : Int))).run Try.prog w = .ok (.int .u64 (cnt k)) w := by
  have h : (0 : Int) ≤ (k : Int) ∧ (k : Int) < ((65 : Nat) : Int) := by omega
  have hc := cntRow_at cnt hk
  simp [Instr.index, run_underlying Try.underlying76, asIntOf, h, go_sem]
  rw [if_pos hk, hc]
  rfl
theorem share_rank (n p : Int) (n0 : 0 ≤ n) (n1 : n ≤ 1000000) (p0 : 0 ≤ p) (p1 : p ≤ 1000) : divQ (pHi n p) (pLo n p) 1000 = n * p / 1000 ∧ 0 ≤ n * p / 1000 ∧ n * p / 1000 ≤ n := by
  have h1 : 0 ≤ n * p := Int.mul_nonneg n0 p0
  have h2 : n * p ≤ n * 1000 := Int.mul_le_mul_of_nonneg_left p1 n0
  have hz : pHi n p = 0 := by unfold pHi; omega
  have hv := p_V n p
  unfold divQ
  rw [hv, if_pos (by rw [hz]; decide)]
  omega
def QPost (cnt : Nat → Int) (r : Int) (e : Ending) : Prop := ∃ k : Nat, k < 65 ∧ e = .returned (.int .i64 (k : Int)) ∧ csum cnt k ≤ r ∧ r < csum cnt (k + 1)
theorem hist_Quantile (b : Nat) (cnt : Nat → Int) (n hi lo least most : Int) (n0 : 0 < n) (n1 : n ≤ 1000000) (p : Int) (p0 : 0 ≤ p) (p1 : p ≤ 1000) (hc0 : ∀ k, 0 ≤ cnt k ∧ cnt k ≤ n) (hsum : csum cnt 65 = n) (w : World) (h : HistIs w b cnt n hi lo least most) :
    Calls Try.prog 42 #[.pointer (some ⟨b, 0, none⟩), .int .i64 p] w fun e w' => QPost cnt ((n - 1) * p / 1000) e ∧ Below w.heap.size w w' := by
  obtain ⟨c65, c66, c67, c68, c69⟩ := h.cells
  have g1 : (n == 0) = false := by rw [beq_eq_false_iff_ne]; omega
  have g2 : decide (p < 0) = false := decide_eq_false (by omega)
  have g3 : decide (1000 < p) = false := decide_eq_false (by omega)
  have e1 : IntKind.u64.wrap p = p := by rw [IntKind.wrap_u64]; omega
  have e2 : IntKind.u64.wrap (n - 1) = n - 1 := by rw [IntKind.wrap_u64]; omega
  obtain ⟨hq, hr0, hr1⟩ := share_rank (n - 1) p (by omega) (by omega) p0 p1
  have A := fun w => wide_Share (n - 1) p 1000 (by omega) (by omega) p0 (by omega) (by decide) (by decide) w
  rw [hq] at A
  have hlt := h.lt
  clear hq
  generalize (n - 1) * p / 1000 = r0 at *
  go_enter Try.func42, Try.ntmps42
  go_wp2_with fail
  refine (hist_LenAt b n _ c65).mono ?_; rintro e w' ⟨rfl, rfl⟩
  go_wp2_with fail
  refine (A _).mono ?_; rintro e w1 ⟨rfl, hx⟩
  have h1 := h.keep hx
  have hR := h1.range
  clear A c65 c66 c67 c68 c69
  go_wp2_with (refine wpList_load_mid rfl _ _ rfl b 0 rfl (cntRow cnt) _ hR Try.underlying76 rfl (by rw [cntRow_len]; kernel_rfl) ?_)
  clear hR h1
  go_loopg [5, 35] 65 (fun gk s5 s35 wr => ∃ k : Nat, k ≤ 65 ∧ gk = 65 - k ∧ s35 = .int .i64 k ∧ s5 = .int .u64 (r0 - csum cnt k) ∧ csum cnt k ≤ r0 ∧ Below w.heap.size w wr)
  case atStart => exact ⟨0, Nat.zero_le _, rfl, rfl, by simp [csum], hr0, hx⟩
  case round =>
    clear hx
    obtain ⟨k, hk, rfl, rfl, rfl, hle, hW⟩ := hrel
    by_cases hlt65 : k < 65
    · have hki : (k : Int) < 65 := by omega
      have hat := fun w => idx_row cnt hlt65 w
      have hst := Lib.hid (show csum cnt (k + 1) = csum cnt k + cnt k from rfl)
      obtain ⟨q0, q1⟩ := hc0 k
      have hSn := csum_nn cnt (fun k => (hc0 k).1) k
      obtain ⟨S, hS0⟩ : ∃ S, S = csum cnt k := ⟨_, rfl⟩
      rw [← hS0] at hle hSn ⊢
      have hS := Lib.hid hS0.symm
      clear hS0
      generalize cnt k = q at *
      by_cases hin : r0 - S < q
      · have f1 : decide (r0 - S < q) = true := decide_eq_true hin
        go_wp2
        go_ret
        exact ⟨⟨k, hlt65, rfl, by rw [hS.out]; exact hle, by rw [hst.out, hS.out]; omega⟩, hW⟩
      · have f1 : decide (r0 - S < q) = false := decide_eq_false hin
        have kq : IntKind.u64.wrap (r0 - S - q) = r0 - S - q := by rw [IntKind.wrap_u64]; omega
        have hS2 := Lib.hid (show r0 - csum cnt (k + 1) = r0 - S - q by rw [hst.out, hS.out]; omega)
        have hS3 := Lib.hid (show csum cnt (k + 1) ≤ r0 by rw [hst.out, hS.out]; omega)
        go_wp2
        go_roundg (65 - (k + 1))
        case measure => omega
        case rel => exact ⟨k + 1, by omega, rfl, by go_num, by rw [hS2.out], hS3.out, hW⟩
    · obtain rfl : k = 65 := by omega
      exact absurd hsum (by omega)
end Go.Proofs.Ytpedhlmcgilliaa
