/- LoadTurns. -/
import Derived.Test.YtonbmcgfbbpnkaaLoadG
import Derived.Test.YtonbmcgfbbpnkaaUnder
import Derived.Deep.DeepCutAuto
set_option linter.unusedVariables false
namespace Go.Proofs.Ytonbmcgfbbpnkaa
open Go.RowKit
set_option maxHeartbeats 4000000
set_option maxRecDepth 100000
/-- The place that a turned list's i-th has. -/
def turnAt (n : Nat) (f : Int) (i : Nat) : Nat := if 0 ≤ f ∧ f < n then (i + f.toNat) % n else i
theorem rot_at {l : List Int} {f : Int} {i : Nat} (hi : i < l.length) : (rot l f).getD i 0 = l.getD (turnAt l.length f i) 0 := by
  unfold rot turnAt
  by_cases h : 0 ≤ f ∧ f < l.length
  · rw [if_neg (by omega), if_pos h]
    obtain ⟨k, rfl⟩ := Int.eq_ofNat_of_zero_le h.1
    have hk : k < l.length := by omega
    rw [Int.toNat_natCast]
    simp only [List.getD_eq_getElem?_getD]
    congr 1
    by_cases hs : i + k < l.length
    · rw [Nat.mod_eq_of_lt hs, List.getElem?_append_left (by rw [List.length_drop]; omega), List.getElem?_drop, Nat.add_comm]
    · have e : (i + k) % l.length = i + k - l.length := by
        rw [Nat.mod_eq_sub_mod (by omega), Nat.mod_eq_of_lt (by omega)]
      rw [e, List.getElem?_append_right (by rw [List.length_drop]; omega), List.length_drop, List.getElem?_take, if_pos (by omega)]
      congr 1
      omega
  · rw [if_pos (by omega), if_neg h]
theorem turnAt_lt {n : Nat} {f : Int} {i : Nat} (hi : i < n) : turnAt n f i < n := by
  unfold turnAt
  split
  · exact Nat.mod_lt _ (by omega)
  · exact hi
theorem loadTurns_walk (w : World) (A : Option Addr) (n c : Nat) (l : List Int) (hl : IsList w .i64 A n c l) (f : Int) (f0 : -9223372036854775808 ≤ f) (f1 : f ≤ 9223372036854775807) (v : Int) (v0 : -9223372036854775808 ≤ v) (v1 : v ≤ 9223372036854775807) :
    Calls Try.prog 28 #[.slice A n c, .int .i64 f, .int .i64 v] w fun e w' => e = .returned (.bool true) ∧ Below w.heap.size w w' := by
  have hcap := hl.cap
  have hsm := hl.small
  go_enter Try.func28, Try.ntmps28
  go_upto_if 12 with (fail)
  go_cut [0] (fun s wx => w = wx ∧ ∃ (n' : Nat) (l' : List Int), s = .slice A n' c ∧ n' ≤ 40 ∧ IsList w .i64 A n' c l')
  case first =>
    by_cases h : n ≤ 40
    · have h40 : decide ((40 : Int) < (n : Int)) = false := decide_eq_false (by omega)
      go_wp2_with fail
      go_meet
      exact ⟨rfl, n, l, rfl, h, hl⟩
    · have h40 : decide ((40 : Int) < (n : Int)) = true := decide_eq_true (by omega)
      have hc40 : 40 ≤ c := by omega
      go_wp2_with fail
      go_meet
      exact ⟨rfl, 40, l.take 40, rfl, Nat.le_refl _, hl.cut (by omega)⟩
  case rest =>
    obtain ⟨rfl, n', l', rfl, hn40, hl'⟩ := hcut
    clear hcap hsm hl
    have hcap := hl'.cap
    have hsm := hl'.small
    have hlen := Lib.hid hl'.len
    go_wp2_with fail
    refine (load_Turn A n' c l' f _ hl').mono ?_; rintro e w1 ⟨A', c', rfl, hx, hW⟩
    have hl1 := hl'.keep hW
    have hsm' := hx.small
    have hcap' := hx.cap
    clear hl'
    go_wp2_with fail
    go_loopg [8] n' (fun gk i wr => ∃ k : Nat, k ≤ n' ∧ gk = n' - k ∧ i = .int .i64 k ∧ Below w1.heap.size w1 wr)
    case atStart => exact ⟨0, Nat.zero_le _, rfl, rfl, Below.refl _ _⟩
    case round =>
      obtain ⟨i, hi, rfl, rfl, hb⟩ := hrel
      by_cases hlt : i < n'
      · have hta := turnAt_lt (f := f) hlt
        have hra := rot_at (l := l') (f := f) (i := i) (by rw [hlen.out]; exact hlt)
        rw [hlen.out] at hra
        have hki : (i : Int) < (n' : Int) := by omega
        have hk0 : (0 : Int) ≤ (i : Int) := by omega
        have hback : ∀ w, Calls Try.prog 111 #[.int .i64 i, .int .i64 f, .int .i64 n'] w fun e w' => e = .returned (.int .i64 (turnAt n' f i : Nat)) ∧ w = w' := by
          intro w
          unfold turnAt
          by_cases h : 0 ≤ f ∧ f < n'
          · rw [if_pos h]
            have e : (((i + f.toNat) % n' : Nat) : Int) = ((i : Int) + f) % (n' : Int) := by
              rw [Int.natCast_emod, Int.natCast_add, Int.toNat_of_nonneg h.1]
            rw [e]
            exact load_Back_in i f n' hk0 hki h.1 h.2 (by omega) w
          · rw [if_neg h]
            exact load_Back i f n' (by omega) w
        obtain ⟨ad, rfl, _, x0, _⟩ := (hx.keep hb).get hlt
        obtain ⟨ad2, rfl, _, y0, _⟩ := (hl1.keep hb).get hta
        rw [hra] at x0
        clear hra
        have U0 := cell_under x0
        have U1 := cell_under y0
        clear x0 y0
        by_cases h : 0 ≤ f ∧ f < n'
        · have htv : ((turnAt n' f i : Nat) : Int) = ((i : Int) + f) % (n' : Int) := by
            unfold turnAt
            rw [if_pos h, Int.natCast_emod, Int.natCast_add, Int.toNat_of_nonneg h.1]
          generalize turnAt n' f i = t at *
          generalize l'.getD t 0 = x at *
          have d1 : decide (0 ≤ f) = true := decide_eq_true h.1
          have d2 : decide (f < (n' : Int)) = true := decide_eq_true h.2
          have hnz : ((n' : Int) == 0) = false := by simp; omega
          have ht0 : (0 : Int) ≤ (t : Int) := by omega
          have htn : (t : Int) < (n' : Int) := by omega
          have k1 : ((i : Int) + f) % (n' : Int) = (t : Int) := htv.symm
          obtain ⟨h1, h2⟩ := h
          clear htv
          go_wp2_with fail
          refine wp_region_quiet_under (by kernel_rfl) (by kernel_rfl) ?_
          repeat (go_big_quiet_step (((go_at_call 111; exact calls_under_same (hback _)))))
          refine wpQuiet_nil ?_
          intro wu hw'
          obtain ⟨pq, hw''⟩ := hw'
          have hU := below_eq hw''
          clear hw'' pq
          clear U0 U1 hback
          go_wp2
          go_roundg (n' - (i + 1))
          case measure => omega
          case rel => exact ⟨i + 1, by omega, rfl, by go_num, below_step hb hU⟩
        · have htv : turnAt n' f i = i := by unfold turnAt; rw [if_neg h]
          rw [htv] at hback U1 U0
          generalize l'.getD i 0 = x at *
          clear htv hta
          by_cases h1 : 0 ≤ f
          · have d1 : decide (0 ≤ f) = true := decide_eq_true h1
            have d2 : decide (f < (n' : Int)) = false := decide_eq_false (fun h2 => h ⟨h1, h2⟩)
            clear h
            go_wp2_with fail
            refine wp_region_quiet_under (by kernel_rfl) (by kernel_rfl) ?_
            repeat (go_big_quiet_step (((go_at_call 111; exact calls_under_same (hback _)))))
            refine wpQuiet_nil ?_
            intro wu hw'
            obtain ⟨pq, hw''⟩ := hw'
            have hU := below_eq hw''
            clear hw'' pq
            clear U0 U1 hback
            go_wp2
            go_roundg (n' - (i + 1))
            case measure => omega
            case rel => exact ⟨i + 1, by omega, rfl, by go_num, below_step hb hU⟩
          · have d1 : decide (0 ≤ f) = false := decide_eq_false h1
            clear h
            go_wp2_with fail
            refine wp_region_quiet_under (by kernel_rfl) (by kernel_rfl) ?_
            repeat (go_big_quiet_step (((go_at_call 111; exact calls_under_same (hback _)))))
            refine wpQuiet_nil ?_
            intro wu hw'
            obtain ⟨pq, hw''⟩ := hw'
            have hU := below_eq hw''
            clear hw'' pq
            clear U0 U1 hback
            go_wp2
            go_roundg (n' - (i + 1))
            case measure => omega
            case rel => exact ⟨i + 1, by omega, rfl, by go_num, below_step hb hU⟩
      · obtain rfl : i = n' := by omega
        have hWx := below_step hW hb
        by_cases hv : v < 0 ∨ (i : Int) ≤ v
        · have A0 := fun w => load_Back v f i (by omega) w
          by_cases c1 : v < 0
          all_goals
            first
              | (have d1 : decide (v < 0) = true := decide_eq_true (by omega))
              | (have d1 : decide (v < 0) = false := decide_eq_false (by omega); have d2 : decide ((i : Int) ≤ v) = true := decide_eq_true (by omega))
            clear hv c1
            go_wp2_with fail
            refine (A0 _).mono ?_; rintro e w' ⟨rfl, rfl⟩
            go_wp2_with fail
            refine (law24_awake _).mono ?_; rintro e w9 ⟨rfl, hx9⟩
            go_wp2
            go_ret
            exact ⟨rfl, below_step hWx hx9⟩
        · have d1 : decide (v < 0) = false := decide_eq_false (by omega)
          have d2 : decide ((i : Int) ≤ v) = false := decide_eq_false (by omega)
          clear hv
          go_wp2_with fail
          refine (law24_awake _).mono ?_; rintro e w9 ⟨rfl, hx9⟩
          go_wp2
          go_ret
          exact ⟨rfl, below_step hWx hx9⟩
end Go.Proofs.Ytonbmcgfbbpnkaa
