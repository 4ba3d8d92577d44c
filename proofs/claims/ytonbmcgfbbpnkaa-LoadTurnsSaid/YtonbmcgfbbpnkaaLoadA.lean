/- A level's health, by both. -/
import Derived.Test.YtonbmcgfbbpnkaaLoadPlain
import Derived.Test.YtonbmcgfbbpnkaaRatePlain
import Derived.Test.YtonbmcgfbbpnkaaWideI
import Derived.Test.YtonbmcgfbbpnkaaUnder
set_option linter.unusedVariables false
namespace Go.Proofs.Ytonbmcgfbbpnkaa
open Go.RowKit
set_option maxHeartbeats 400000
theorem hI_none {h a f : Int} (hn : h < 1 ∨ a < 1 ∨ f < 1) : hI h a f = 0 := by unfold hI; rw [if_pos hn]
theorem load_Health (h a f : Int) (h1 : h ≤ 1048576) (a1 : a ≤ 1048576) (f1 : f ≤ 1048576) (w : World) :
    Calls Try.prog 104 #[.int .i64 h, .int .i64 a, .int .i64 f] w fun e w' => e = .returned (.int .i64 (hI h a f)) ∧ Below w.heap.size w w' := by
  by_cases hn : h < 1 ∨ a < 1 ∨ f < 1
  · rw [hI_none hn]
    by_cases c1 : h < 1
    all_goals
      by_cases c2 : a < 1
      all_goals
        first
          | (have d1 : decide (h < 1) = true := decide_eq_true (by omega))
          | (have d1 : decide (h < 1) = false := decide_eq_false (by omega); first | (have d2 : decide (a < 1) = true := decide_eq_true (by omega)) | (have d2 : decide (a < 1) = false := decide_eq_false (by omega); have d3 : decide (f < 1) = true := decide_eq_true (by omega)))
        clear hn c1 c2
        go_enter Try.func104, Try.ntmps104
        go_wp2
        go_ret
        exact ⟨rfl, Below.refl _ _⟩
  · have d1 : decide (h < 1) = false := decide_eq_false (by omega)
    have d2 : decide (a < 1) = false := decide_eq_false (by omega)
    have d3 : decide (f < 1) = false := decide_eq_false (by omega)
    have q := mul_bd (a := f * 100) (b := h) (A := 104857600) (B := 1048576) (by omega) (by omega) (by omega) h1
    have e1 : pHi (f * 100) h = 0 := by unfold pHi; omega
    have e2 : V (pHi (f * 100) h) (pLo (f * 100) h) = f * 100 * h := p_V _ _
    have e3 : divQ (pHi (f * 100) h) (pLo (f * 100) h) a = f * 100 * h / a := by unfold divQ; rw [if_pos (by omega), e2]
    have e4 : decide (pHi (f * 100) h < a) = true := decide_eq_true (by omega)
    have hb := div_bd (a := f * 100 * h) (e := a) q.1 (by omega)
    have A := fun w => wide_Share (f * 100) h a (by omega) (by omega) (by omega) (by omega) (by omega) (by omega) w
    rw [e3, e4] at A
    have hh : hI h a f = if 10000 < f * 100 * h / a then 10000 else f * 100 * h / a := by unfold hI; rw [if_neg hn]
    have HH := Lib.hid hh
    have h0 : 1 ≤ h := by omega
    have a0 : 1 ≤ a := by omega
    have f0 : 1 ≤ f := by omega
    have hq : f * 100 * h / a ≤ 109951162777600 := by omega
    clear e1 e2 e3 e4 hh hn q
    generalize f * 100 * h / a = R at *
    by_cases hR : 10000 < R
    all_goals
      go_enter Try.func104, Try.ntmps104
      go_wp2_with (go_at_call 44; refine (A _).mono ?_; rintro e w' ⟨rfl, hx⟩)
      go_ret
      exact ⟨by (rw [HH.out]; first | (rw [if_pos hR]; rfl) | (rw [if_neg hR]; rfl) | (rw [if_pos (by omega)]; rfl) | (rw [if_neg (by omega)]; rfl)), by assumption⟩
theorem law_health (h a f : Int) (h1 : h ≤ 1048576) (a1 : a ≤ 1048576) (f1 : f ≤ 1048576) (w : World) :
    Calls Try.prog 105 #[.int .i64 h, .int .i64 a, .int .i64 f] w fun e w' => e = .returned (.int .i64 (hI h a f)) ∧ w = w' := by
  by_cases hn : h < 1 ∨ a < 1 ∨ f < 1
  · rw [hI_none hn]
    by_cases c1 : h < 1
    all_goals
      by_cases c2 : a < 1
      all_goals
        first
          | (have d1 : decide (h < 1) = true := decide_eq_true (by omega))
          | (have d1 : decide (h < 1) = false := decide_eq_false (by omega); first | (have d2 : decide (a < 1) = true := decide_eq_true (by omega)) | (have d2 : decide (a < 1) = false := decide_eq_false (by omega); have d3 : decide (f < 1) = true := decide_eq_true (by omega)))
        clear hn c1 c2
        go_enter Try.func105, Try.ntmps105
        go_wp2
        go_ret
        exact ⟨rfl, rfl⟩
  · have d1 : decide (h < 1) = false := decide_eq_false (by omega)
    have d2 : decide (a < 1) = false := decide_eq_false (by omega)
    have d3 : decide (f < 1) = false := decide_eq_false (by omega)
    have h0 : 1 ≤ h := by omega
    have a0 : 1 ≤ a := by omega
    have f0 : 1 ≤ f := by omega
    by_cases hfull : a ≤ h ∧ 100 ≤ f
    · obtain ⟨g1, g2⟩ := hfull
      have q : 100 * a ≤ f * h := by
        have x1 : 100 * a ≤ 100 * h := by omega
        have x2 : 100 * h ≤ f * h := Int.mul_le_mul_of_nonneg_right g2 (by omega)
        omega
      rw [hI_full h0 a0 q f0]
      have d4 : decide (a ≤ h) = true := decide_eq_true g1
      have d5 : decide (100 ≤ f) = true := decide_eq_true g2
      clear hn q
      go_enter Try.func105, Try.ntmps105
      go_wp2
      go_ret
      exact ⟨rfl, rfl⟩
    · have hd : decide (a ≤ h) = false ∨ decide (a ≤ h) = true ∧ decide (100 ≤ f) = false := by
        by_cases g1 : a ≤ h
        · exact .inr ⟨decide_eq_true g1, decide_eq_false (fun g2 => hfull ⟨g1, g2⟩)⟩
        · exact .inl (decide_eq_false g1)
      have hN := fun n (hn : n < 10000) => hI_next (h := h) (a := a) (f := f) (n := n) h0 a0 f0 hn
      have HN := Lib.hid hN
      have hbd := hI_bd h a f
      have q := mul_bd (a := f * 100) (b := h) (A := 104857600) (B := 1048576) (by omega) (by omega) (by omega) h1
      have w1 : IntKind.i64.wrap (f * 100 * h) = f * 100 * h := IntWalk.i64_in _ (by omega)
      obtain ⟨T, hT⟩ : ∃ T, T = hI h a f := ⟨_, rfl⟩
      rw [← hT] at hbd ⊢
      have HT := Lib.hid hT
      clear hN hn hfull hT
      rcases hd with g1 | ⟨g1, g2⟩
      all_goals
        go_enter Try.func105, Try.ntmps105
        go_wp2
        go_loop [7] (fun x => ∃ n : Int, 0 ≤ n ∧ n ≤ T ∧ x = .int .i64 n) (fun x => 10000 - (intOf x).toNat)
        case atStart => exact ⟨0, Int.le_refl _, hbd.1, rfl⟩
        case round =>
          obtain ⟨n, n0, n1, rfl⟩ := hrel
          have p := mul_bd (a := n + 1) (b := a) (A := 10001) (B := 1048576) (by omega) (by omega) (by omega) a1
          have w2 : IntKind.i64.wrap ((n + 1) * a) = (n + 1) * a := IntWalk.i64_in _ (by omega)
          clear p
          by_cases hlt : n < 10000
          · have hk := HN.out n hlt
            rw [← HT.out] at hk
            by_cases hmore : n < T
            · have hm := hk.2 hmore
              have dm : decide ((n + 1) * a ≤ f * 100 * h) = true := decide_eq_true hm
              clear hk hm
              go_wp2
              go_round
              case rel => exact ⟨n + 1, by omega, by omega, rfl⟩
              case measure => simp [intOf]; omega
            · have dm : decide ((n + 1) * a ≤ f * 100 * h) = false := decide_eq_false (fun hh => hmore (hk.1 hh))
              obtain rfl : n = T := by omega
              clear hk
              go_wp2
              go_ret
              exact ⟨rfl, rfl⟩
          · have dn : decide (n < 10000) = false := decide_eq_false hlt
            obtain rfl : n = T := by omega
            go_wp2
            go_ret
            exact ⟨rfl, rfl⟩
theorem load_least (a b : Int) (w : World) :
    Calls Try.prog 132 #[.int .i64 a, .int .i64 b] w fun e w' => e = .returned (.int .i64 (if b < a then b else a)) ∧ w = w' := by
  by_cases h : b < a
  · rw [if_pos h]
    go_enter Try.func132, Try.ntmps132
    go_wp2
    go_ret
    exact ⟨rfl, rfl⟩
  · rw [if_neg h]
    go_enter Try.func132, Try.ntmps132
    go_wp2
    go_ret
    exact ⟨rfl, rfl⟩
end Go.Proofs.Ytonbmcgfbbpnkaa
