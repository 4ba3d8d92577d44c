/- Which level a number draws. -/
import Derived.Test.YtonbmcgfbbpnkaaLoadPlain3
import Derived.Test.YtonbmcgfbbpnkaaLoadD
set_option linter.unusedVariables false
namespace Go.Proofs.Ytonbmcgfbbpnkaa
open Go.RowKit
set_option maxHeartbeats 2000000
set_option maxRecDepth 100000
theorem load_Level (A : Option Addr) (n c : Nat) (l : List Int) (d : Int) (d0 : -9223372036854775808 ≤ d) (d1 : d ≤ 9223372036854775807) (w : World) (hl : IsList w .i64 A n c l) :
    Calls Try.prog 109 #[.slice A n c, .int .i64 d] w fun e w' => e = .returned (.int .i64 (wantTo l d n)) ∧ ∃ q, w' = w.drewN q := by
  have hc := hl.cap
  have hs := hl.small
  by_cases hd : d < 0
  · have HN := Lib.hid (want_none (l := l) (n := n) (.inl hd))
    go_enter Try.func109, Try.ntmps109
    go_wp2
    go_ret
    exact ⟨by rw [HN.out]; rfl, 0, rfl⟩
  · have hd' : decide (d < 0) = false := decide_eq_false hd
    go_enter Try.func109, Try.ntmps109
    go_wp2
    go_loopg [1, 11] n (fun gk s1 i wr => ∃ k : Nat, k ≤ n ∧ gk = n - k ∧ i = .int .i64 k ∧ s1 = .int .i64 (d - pre l k) ∧ pre l k ≤ d ∧ ∃ q, wr = w.drewN q)
    case atStart => exact ⟨0, Nat.zero_le _, rfl, rfl, by simp [pre], by simp [pre]; omega, 0, rfl⟩
    case round =>
      obtain ⟨k, hk, rfl, rfl, rfl, hp, q, rfl⟩ := hrel
      have hpn := pre_nn l k
      have hst : pre l (k + 1) = pre l k + pos (l.getD k 0) := rfl
      by_cases hlt : k < n
      · obtain ⟨ad, rfl, _, x0, xw⟩ := hl.get hlt
        have xb := i64_of_wf xw
        have HIT := Lib.hid (fun h1 h2 => want_hit (l := l) (d := d) hlt h1 h2)
        have HST := Lib.hid hst
        have hki : (k : Int) < (n : Int) := by omega
        clear hst xw
        generalize l.getD k 0 = x at *
        obtain ⟨p, hpe⟩ : ∃ p, p = pre l k := ⟨_, rfl⟩
        rw [← hpe] at hp hpn HST HIT ⊢
        clear hpe
        by_cases hx : 0 < x
        · have hpx : pos x = x := by unfold pos; rw [if_neg (by omega)]
          by_cases hdx : d - p < x
          · have HN := Lib.hid (HIT.out hp (by rw [HST.out, hpx]; omega))
            clear hpx HIT
            go_wp2
            go_ret
            exact ⟨by rw [HN.out]; rfl, _, rfl⟩
          · have hdx' : decide (d - p < x) = false := decide_eq_false hdx
            have HS := Lib.hid (HST.out.trans (by rw [hpx]))
            have hmx : max x 0 = x := Int.max_eq_left (by omega)
            clear hpx HIT HST
            go_wp2
            go_roundg (n - (k + 1))
            case measure => omega
            case rel => exact ⟨k + 1, by omega, rfl, by go_num, by rw [HS.out] <;> first | rfl | (congr 1; omega), by rw [HS.out]; omega, _, rfl⟩
        · have hx' : decide (0 < x) = false := decide_eq_false hx
          have HS := Lib.hid (HST.out.trans (show p + pos x = p by unfold pos; split <;> omega))
          have hmx : max x 0 = 0 := Int.max_eq_right (by omega)
          clear HIT HST
          go_wp2
          go_roundg (n - (k + 1))
          case measure => omega
          case rel => exact ⟨k + 1, by omega, rfl, by go_num, by rw [HS.out] <;> first | rfl | (congr 1; omega), by rw [HS.out]; omega, _, rfl⟩
      · obtain rfl : k = n := by omega
        have HN := Lib.hid (want_none (l := l) (n := k) (.inr hp))
        go_wp2
        go_ret
        exact ⟨by rw [HN.out]; rfl, _, rfl⟩
end Go.Proofs.Ytonbmcgfbbpnkaa
