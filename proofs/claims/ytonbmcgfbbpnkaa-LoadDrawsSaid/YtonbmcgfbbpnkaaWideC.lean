/- The law's own sum. -/
import Derived.Test.YtonbmcgfbbpnkaaWideB
set_option linter.unusedVariables false
namespace Go.Proofs.Ytonbmcgfbbpnkaa
open Go.RowKit
set_option maxHeartbeats 400000
theorem law_add (ah al bh bl : Int) (ha : IsNum ah al) (hb : IsNum bh bl) (h : fits ah al bh bl = true) (w : World) :
    Calls Try.prog 33 #[.agg #[.int .u64 ah, .int .u64 al], .agg #[.int .u64 bh, .int .u64 bl]] w fun e w' =>
      e = .returned (.tuple #[.agg #[.int .u64 (sHi ah al bh bl), .int .u64 (sLo al bl)], .bool true]) ∧ Below w.heap.size w w' := by
  obtain ⟨a0, a1, c0, c1⟩ := ha; obtain ⟨b0, b1, d0, d1⟩ := hb
  unfold fits at h
  simp only [decide_eq_true_eq] at h
  by_cases g : al + bl < 18446744073709551616
  · have e1 : sLo al bl = al + bl := by unfold sLo; omega
    have e2 : sHi ah al bh bl = ah + bh := by unfold sHi; omega
    have g2 : ah + bh < 18446744073709551616 := by omega
    rw [e1, e2]
    clear e1 e2 h
    go_enter Try.func33, Try.ntmps33
    go_wp2
    go_returns
    exact ⟨rfl, by go_grown⟩
  · have e1 : sLo al bl = al + bl - 18446744073709551616 := by unfold sLo; omega
    have e2 : sHi ah al bh bl = ah + bh + 1 := by unfold sHi; omega
    have g2 : ah + bh + 1 < 18446744073709551616 := by omega
    have e3 : IntKind.u64.wrap (al + bl) = al + bl - 18446744073709551616 := by rw [IntKind.wrap_u64]; omega
    rw [e1, e2]
    clear e1 e2 h
    go_enter Try.func33, Try.ntmps33
    go_wp2
    go_returns
    exact ⟨rfl, by go_grown⟩
theorem law_addNo (ah al bh bl : Int) (ha : IsNum ah al) (hb : IsNum bh bl) (h : fits ah al bh bl = false) (w : World) :
    Calls Try.prog 33 #[.agg #[.int .u64 ah, .int .u64 al], .agg #[.int .u64 bh, .int .u64 bl]] w fun e w' =>
      e = .returned (.tuple #[.agg #[.int .u64 0, .int .u64 0], .bool false]) ∧ Below w.heap.size w w' := by
  obtain ⟨a0, a1, c0, c1⟩ := ha; obtain ⟨b0, b1, d0, d1⟩ := hb
  unfold fits at h
  simp only [decide_eq_false_iff_not] at h
  by_cases g : al + bl < 18446744073709551616
  · have g2 : ¬ ah + bh < 18446744073709551616 := by omega
    have e3 : IntKind.u64.wrap (ah + bh) = ah + bh - 18446744073709551616 := by rw [IntKind.wrap_u64]; omega
    clear h
    go_enter Try.func33, Try.ntmps33
    go_wp2
    go_returns
    exact ⟨rfl, by go_grown⟩
  · have e4 : IntKind.u64.wrap (al + bl) = al + bl - 18446744073709551616 := by rw [IntKind.wrap_u64]; omega
    by_cases g2 : ah + bh < 18446744073709551616
    · have g3 : ah + bh = 18446744073709551615 := by omega
      have e3 : IntKind.u64.wrap (ah + bh + 1) = 0 := by rw [IntKind.wrap_u64]; omega
      have e5 : IntKind.u64.wrap (ah + bh) = ah + bh := by rw [IntKind.wrap_u64]; omega
      have g4 : 0 < ah + bh := by omega
      clear h g3
      go_enter Try.func33, Try.ntmps33
      go_wp2
      go_returns
      exact ⟨rfl, by go_grown⟩
    · have e3 : IntKind.u64.wrap (ah + bh) = ah + bh - 18446744073709551616 := by rw [IntKind.wrap_u64]; omega
      clear h
      go_enter Try.func33, Try.ntmps33
      go_wp2
      go_returns
      exact ⟨rfl, by go_grown⟩
end Go.Proofs.Ytonbmcgfbbpnkaa
