/- Which counts may be, by both. -/
import Derived.Test.YtonbmcgfbbpnkaaLoadA
import Derived.Test.YtonbmcgfbbpnkaaLists
set_option linter.unusedVariables false
namespace Go.Proofs.Ytonbmcgfbbpnkaa
open Go.RowKit
set_option maxHeartbeats 1000000
def rowOk (h a : Int) : Bool := decide (0 ≤ h ∧ h ≤ a ∧ a ≤ 1048576)
def rowsTo (H A : List Int) : Nat → Bool
  | 0 => true
  | k + 1 => rowsTo H A k && rowOk (H.getD k 0) (A.getD k 0)
/-- May counts be? -/
def lRight (H A : List Int) (f : Int) : Bool := decide (H.length = A.length ∧ H.length ≤ 4 ∧ 100 ≤ f ∧ f ≤ 1000) && rowsTo H A H.length
theorem rowsTo_at {H A : List Int} : ∀ {n k : Nat}, rowsTo H A n = true → k < n → rowOk (H.getD k 0) (A.getD k 0) = true
  | 0, _, _, h => by omega
  | n + 1, k, h, hk => by
    rw [rowsTo, Bool.and_eq_true] at h
    by_cases e : k = n
    · subst e; exact h.2
    · exact rowsTo_at h.1 (by omega)
theorem rowsTo_bad {H A : List Int} {k : Nat} (hb : rowOk (H.getD k 0) (A.getD k 0) = false) : ∀ {n : Nat}, k < n → rowsTo H A n = false
  | 0, h => by omega
  | n + 1, h => by
    rw [rowsTo]
    by_cases e : k = n
    · subst e; rw [hb]; simp
    · rw [rowsTo_bad hb (by omega)]; rfl
theorem lRight_of {H A : List Int} {f : Int} (h : H.length = A.length ∧ H.length ≤ 4 ∧ 100 ≤ f ∧ f ≤ 1000) : lRight H A f = rowsTo H A H.length := by unfold lRight; rw [decide_eq_true h]; rfl
theorem lRight_no {H A : List Int} {f : Int} (h : ¬ (H.length = A.length ∧ H.length ≤ 4 ∧ 100 ≤ f ∧ f ≤ 1000)) : lRight H A f = false := by unfold lRight; rw [decide_eq_false h]; rfl
theorem rowOk_f {h a : Int} (hn : ¬ (0 ≤ h ∧ h ≤ a ∧ a ≤ 1048576)) : rowOk h a = false := decide_eq_false hn
theorem rowOk_t {h a : Int} (hn : 0 ≤ h ∧ h ≤ a ∧ a ≤ 1048576) : rowOk h a = true := decide_eq_true hn
theorem load_Right (A1 A2 : Option Addr) (n1 n2 c1 c2 : Nat) (H A : List Int) (f : Int) (w : World) (hH : IsList w .i64 A1 n1 c1 H) (hA : IsList w .i64 A2 n2 c2 A) :
    Calls Try.prog 107 #[.slice A1 n1 c1, .slice A2 n2 c2, .int .i64 f] w fun e w' => e = .returned (.bool (lRight H A f)) ∧ ∃ d, w' = w.drewN d := by
  have L1 := hH.len
  have L2 := hA.len
  have hc1 := hH.cap
  have hc2 := hA.cap
  have hs1 := hH.small
  have hs2 := hA.small
  by_cases hok : n1 = n2 ∧ n1 ≤ 4 ∧ 100 ≤ f ∧ f ≤ 1000
  · obtain ⟨rfl, g1, g2, g3⟩ := hok
    rw [lRight_of (by rw [L1, L2]; exact ⟨rfl, g1, g2, g3⟩), L1]
    have d1 : (n1 != n1) = false := by simp
    have d2 : decide ((4 : Int) < (n1 : Int)) = false := decide_eq_false (by omega)
    have d3 : decide (f < 100) = false := decide_eq_false (by omega)
    have d4 : decide (1000 < f) = false := decide_eq_false (by omega)
    clear L1 L2
    go_enter Try.func107, Try.ntmps107
    go_wp2
    go_loopg [28] n1 (fun gk i wr => ∃ k : Nat, k ≤ n1 ∧ gk = n1 - k ∧ i = .int .i64 k ∧ rowsTo H A k = true ∧ ∃ d, wr = w.drewN d)
    case atStart => exact ⟨0, Nat.zero_le _, rfl, rfl, rfl, 0, rfl⟩
    case round =>
      obtain ⟨k, hk, rfl, rfl, hr, d, rfl⟩ := hrel
      by_cases hlt : k < n1
      · obtain ⟨ad, rfl, _, x0, _⟩ := hH.get hlt
        obtain ⟨ad2, rfl, _, y0, _⟩ := hA.get hlt
        have hst : rowsTo H A (k + 1) = rowOk (H.getD k 0) (A.getD k 0) := by rw [rowsTo, hr]; rfl
        have hbad := fun hb => rowsTo_bad (H := H) (A := A) (k := k) hb hlt
        have HST := Lib.hid hst
        have HB := Lib.hid hbad
        have HR := Lib.hid hr
        clear hst hbad hr
        generalize H.getD k 0 = h at *
        generalize A.getD k 0 = a at *
        have hki : (k : Int) < (n1 : Int) := by omega
        have hk0 : (0 : Int) ≤ (k : Int) := by omega
        by_cases b1 : h < 0
        · have HS := Lib.hid (HB.out (rowOk_f (by omega)))
          have e1 : decide (h < 0) = true := decide_eq_true b1
          clear b1
          go_wp2
          go_quiet (fail)
          go_wp2
          go_ret
          exact ⟨by rw [HS.out]; rfl, by first | exact ⟨_, rfl⟩ | exact ⟨_, World.drewN_drewN _ _ _⟩⟩
        · have e1 : decide (h < 0) = false := decide_eq_false b1
          by_cases b2 : a < h
          · have HS := Lib.hid (HB.out (rowOk_f (by omega)))
            have e2 : decide (a < h) = true := decide_eq_true b2
            clear b1 b2
            go_wp2
            go_quiet (fail)
            go_wp2
            go_ret
            exact ⟨by rw [HS.out]; rfl, by first | exact ⟨_, rfl⟩ | exact ⟨_, World.drewN_drewN _ _ _⟩⟩
          · have e2 : decide (a < h) = false := decide_eq_false b2
            by_cases b3 : 1048576 < a
            · have HS := Lib.hid (HB.out (rowOk_f (by omega)))
              have e3 : decide (1048576 < a) = true := decide_eq_true b3
              clear b1 b2 b3
              go_wp2
              go_quiet (fail)
              go_wp2
              go_ret
              exact ⟨by rw [HS.out]; rfl, by first | exact ⟨_, rfl⟩ | exact ⟨_, World.drewN_drewN _ _ _⟩⟩
            · have e3 : decide (1048576 < a) = false := decide_eq_false b3
              have HS := Lib.hid (HST.out.trans (rowOk_t (by omega)))
              clear b1 b2 b3
              go_wp2
              go_quiet (fail)
              go_wp2
              go_roundg (n1 - (k + 1))
              case measure => omega
              case rel => exact ⟨k + 1, by omega, rfl, by go_num, HS.out, _, rfl⟩
      · obtain rfl : k = n1 := by omega
        have HS := Lib.hid hr
        clear hr
        go_wp2
        go_ret
        exact ⟨by rw [HS.out]; rfl, by first | exact ⟨_, rfl⟩ | exact ⟨_, World.drewN_drewN _ _ _⟩⟩
  · rw [lRight_no (by rw [L1, L2]; exact hok)]
    clear L1 L2
    by_cases b1 : n1 = n2
    · subst b1
      have d1 : (n1 != n1) = false := by simp
      by_cases b2 : 4 < n1
      · have d2 : decide ((4 : Int) < (n1 : Int)) = true := decide_eq_true (by omega)
        clear hok
        go_enter Try.func107, Try.ntmps107
        go_wp2
        go_ret
        exact ⟨rfl, 0, rfl⟩
      · have d2 : decide ((4 : Int) < (n1 : Int)) = false := decide_eq_false (by omega)
        by_cases b3 : f < 100
        · have d3 : decide (f < 100) = true := decide_eq_true b3
          clear hok
          go_enter Try.func107, Try.ntmps107
          go_wp2
          go_ret
          exact ⟨rfl, 0, rfl⟩
        · have d3 : decide (f < 100) = false := decide_eq_false b3
          have d4 : decide (1000 < f) = true := decide_eq_true (by omega)
          clear hok
          go_enter Try.func107, Try.ntmps107
          go_wp2
          go_ret
          exact ⟨rfl, 0, rfl⟩
    · have d1 : (n1 != n2) = true := by simp [b1]
      have d1' : ((n1 : Int) != (n2 : Int)) = true := by simp; omega
      clear hok b1
      go_enter Try.func107, Try.ntmps107
      go_wp2
      go_ret
      exact ⟨rfl, 0, rfl⟩
theorem law24_right (A1 A2 : Option Addr) (n1 n2 c1 c2 : Nat) (H A : List Int) (f : Int) (w : World) (hH : IsList w .i64 A1 n1 c1 H) (hA : IsList w .i64 A2 n2 c2 A) :
    Calls Try.prog 108 #[.slice A1 n1 c1, .slice A2 n2 c2, .int .i64 f] w fun e w' => e = .returned (.bool (lRight H A f)) ∧ ∃ d, w' = w.drewN d := by
  have L1 := hH.len
  have L2 := hA.len
  have hc1 := hH.cap
  have hc2 := hA.cap
  have hs1 := hH.small
  have hs2 := hA.small
  by_cases hok : n1 = n2 ∧ n1 ≤ 4 ∧ 100 ≤ f ∧ f ≤ 1000
  · obtain ⟨rfl, g1, g2, g3⟩ := hok
    rw [lRight_of (by rw [L1, L2]; exact ⟨rfl, g1, g2, g3⟩), L1]
    have d1 : (n1 != n1) = false := by simp
    have d2 : decide ((4 : Int) < (n1 : Int)) = false := decide_eq_false (by omega)
    have d3 : decide (f < 100) = false := decide_eq_false (by omega)
    have d4 : decide (1000 < f) = false := decide_eq_false (by omega)
    clear L1 L2
    go_enter Try.func108, Try.ntmps108
    go_wp2
    go_loopg [7] n1 (fun gk i wr => ∃ k : Nat, k ≤ n1 ∧ gk = n1 - k ∧ i = .int .i64 k ∧ rowsTo H A k = true ∧ ∃ d, wr = w.drewN d)
    case atStart => exact ⟨0, Nat.zero_le _, rfl, rfl, rfl, 0, rfl⟩
    case round =>
      obtain ⟨k, hk, rfl, rfl, hr, d, rfl⟩ := hrel
      by_cases hlt : k < n1
      · obtain ⟨ad, rfl, _, x0, _⟩ := hH.get hlt
        obtain ⟨ad2, rfl, _, y0, _⟩ := hA.get hlt
        have hst : rowsTo H A (k + 1) = rowOk (H.getD k 0) (A.getD k 0) := by rw [rowsTo, hr]; rfl
        have hbad := fun hb => rowsTo_bad (H := H) (A := A) (k := k) hb hlt
        have HST := Lib.hid hst
        have HB := Lib.hid hbad
        have HR := Lib.hid hr
        clear hst hbad hr
        generalize H.getD k 0 = h at *
        generalize A.getD k 0 = a at *
        have hki : (k : Int) < (n1 : Int) := by omega
        have hk0 : (0 : Int) ≤ (k : Int) := by omega
        by_cases b1 : h < 0
        · have HS := Lib.hid (HB.out (rowOk_f (by omega)))
          have e1 : decide (h < 0) = true := decide_eq_true b1
          clear b1
          go_wp2
          go_quiet (fail)
          go_wp2
          go_ret
          exact ⟨by rw [HS.out]; rfl, by first | exact ⟨_, rfl⟩ | exact ⟨_, World.drewN_drewN _ _ _⟩⟩
        · have e1 : decide (h < 0) = false := decide_eq_false b1
          by_cases b2 : a < h
          · have HS := Lib.hid (HB.out (rowOk_f (by omega)))
            have e2 : decide (a < h) = true := decide_eq_true b2
            clear b1 b2
            go_wp2
            go_quiet (fail)
            go_wp2
            go_ret
            exact ⟨by rw [HS.out]; rfl, by first | exact ⟨_, rfl⟩ | exact ⟨_, World.drewN_drewN _ _ _⟩⟩
          · have e2 : decide (a < h) = false := decide_eq_false b2
            by_cases b3 : 1048576 < a
            · have HS := Lib.hid (HB.out (rowOk_f (by omega)))
              have e3 : decide (1048576 < a) = true := decide_eq_true b3
              clear b1 b2 b3
              go_wp2
              go_quiet (fail)
              go_wp2
              go_ret
              exact ⟨by rw [HS.out]; rfl, by first | exact ⟨_, rfl⟩ | exact ⟨_, World.drewN_drewN _ _ _⟩⟩
            · have e3 : decide (1048576 < a) = false := decide_eq_false b3
              have HS := Lib.hid (HST.out.trans (rowOk_t (by omega)))
              clear b1 b2 b3
              go_wp2
              go_quiet (fail)
              go_wp2
              go_roundg (n1 - (k + 1))
              case measure => omega
              case rel => exact ⟨k + 1, by omega, rfl, by go_num, HS.out, _, rfl⟩
      · obtain rfl : k = n1 := by omega
        have HS := Lib.hid hr
        clear hr
        go_wp2
        go_ret
        exact ⟨by rw [HS.out]; rfl, by first | exact ⟨_, rfl⟩ | exact ⟨_, World.drewN_drewN _ _ _⟩⟩
  · rw [lRight_no (by rw [L1, L2]; exact hok)]
    clear L1 L2
    by_cases b1 : n1 = n2
    · subst b1
      have d1 : (n1 != n1) = false := by simp
      by_cases b2 : 4 < n1
      · have d2 : decide ((4 : Int) < (n1 : Int)) = true := decide_eq_true (by omega)
        clear hok
        go_enter Try.func108, Try.ntmps108
        go_wp2
        go_ret
        exact ⟨rfl, 0, rfl⟩
      · have d2 : decide ((4 : Int) < (n1 : Int)) = false := decide_eq_false (by omega)
        by_cases b3 : f < 100
        · have d3 : decide (f < 100) = true := decide_eq_true b3
          clear hok
          go_enter Try.func108, Try.ntmps108
          go_wp2
          go_ret
          exact ⟨rfl, 0, rfl⟩
        · have d3 : decide (f < 100) = false := decide_eq_false b3
          have d4 : decide (1000 < f) = true := decide_eq_true (by omega)
          clear hok
          go_enter Try.func108, Try.ntmps108
          go_wp2
          go_ret
          exact ⟨rfl, 0, rfl⟩
    · have d1 : (n1 != n2) = true := by simp [b1]
      have d1' : ((n1 : Int) != (n2 : Int)) = true := by simp; omega
      clear hok b1
      go_enter Try.func108, Try.ntmps108
      go_wp2
      go_ret
      exact ⟨rfl, 0, rfl⟩
end Go.Proofs.Ytonbmcgfbbpnkaa
