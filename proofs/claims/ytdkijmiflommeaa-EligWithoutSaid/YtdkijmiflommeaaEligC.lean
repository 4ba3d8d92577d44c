/- The law's picked, below, has; what a set tells: Weight, Has, List. -/
import Derived.Test.YtdkijmiflommeaaEligB
set_option linter.unusedVariables false
namespace Go.Proofs.Ytdkijmiflommeaa
open Go.RowKit
set_option maxHeartbeats 4000000
set_option maxRecDepth 100000
/-- Is a node another one, or below it, within so many steps? -/
def belF (l : List Nd) (a : Int) : Nat → Int → Bool
  | 0, _ => false
  | f + 1, i => if 0 ≤ i ∧ i < l.length then (if i = a then true else belF l a f (ndAt l i).above) else false
theorem bel_up {l : List Nd} (h : Tall l) (a : Int) (ha0 : 0 ≤ a) (ha1 : a < l.length) : ∀ (f : Nat) (i : Int), (0 ≤ i ∧ i < l.length → (ndAt l i).kind ≤ f) → belF l a f i = (up l (ndAt l a).kind i == a)
  | 0, i, hk => by
    have hn : ¬ (0 ≤ i ∧ i < l.length) := fun hi => by
      have := hk hi
      have := (tall_head h i.toNat (by omega)).kind0
      rw [← ndAt_in hi.1] at this
      omega
    rw [belF, up_out l _ i (by omega)]
    symm; rw [beq_eq_false_iff_ne]; omega
  | f + 1, i, hk => by
    rw [belF]
    by_cases hi : 0 ≤ i ∧ i < l.length
    · rw [if_pos hi]
      have hkf := hk hi
      have hd := tall_head h i.toNat (by omega)
      rw [← ndAt_in hi.1] at hd
      have hk0 := hd.kind0
      by_cases e : i = a
      · subst e
        rw [if_pos rfl, up_hit l _ i hi.1 hi.2 rfl]; simp
      · rw [if_neg e]
        have hab : 0 ≤ (ndAt l i).above ∧ (ndAt l i).above < l.length → (ndAt l (ndAt l i).above).kind = (ndAt l i).kind - 1 := fun hr => by
          by_cases h2 : 1 < (ndAt l i).kind
          · have hb := tall_below h i.toNat (by omega) (by rw [← ndAt_in hi.1]; exact h2)
            rw [← ndAt_in hi.1] at hb
            exact hb.2.2
          · have := (hd.level (by omega)).2
            omega
        rw [bel_up h a ha0 ha1 f _ (fun hr => by rw [hab hr]; omega)]
        by_cases hka : (ndAt l i).kind = (ndAt l a).kind
        · rw [up_hit l _ i hi.1 hi.2 hka]
          have h1 : (i == a) = false := by rw [beq_eq_false_iff_ne]; exact e
          rw [h1, beq_eq_false_iff_ne]
          by_cases hr : 0 ≤ (ndAt l i).above ∧ (ndAt l i).above < l.length
          · have h5 := hab hr
            have h6 := (tall_head h (ndAt l i).above.toNat (by omega)).kind1
            rw [← ndAt_in hr.1] at h6
            rw [up_lower h _ 4 _ hr.1 hr.2 h6 (by omega)]; omega
          · rw [up_out l _ _ (by omega)]; omega
        · rw [up_step l (tall_rises h) _ i hi.1 hi.2 hka]
    · rw [if_neg hi, up_out l _ i (by omega)]
      symm; rw [beq_eq_false_iff_ne]; omega
theorem bel_four {l : List Nd} (h : Tall l) (a : Int) (ha0 : 0 ≤ a) (ha1 : a < l.length) (i : Int) : belF l a 4 i = (up l (ndAt l a).kind i == a) :=
  bel_up h a ha0 ha1 4 i (fun hi => by
    have := (tall_head h i.toNat (by omega)).kind1
    rwa [← ndAt_in hi.1] at this)
theorem law23_below {A : Option Addr} {n c : Nat} {l : List Nd} {w : World} (h : IsNodes w A n c l) (i a : Int) : Calls Try.prog 49 #[.slice A n c, .int .i64 i, .int .i64 a] w fun e w' => e = .returned (.bool (belF l a 4 i)) ∧ w = w' := by
  have hcap := h.cap
  have hsm := h.small
  have hlen := h.len
  subst hlen
  go_enter Try.func49, Try.ntmps49
  go_wp2
  go_loopg [1, 7] 4 (fun gg s1 s7 wr => ∃ (k : Int) (m : Nat), m ≤ 4 ∧ gg = 4 - m ∧ s1 = .int .i64 k ∧ s7 = .int .i64 m ∧ w = wr ∧ Hid (belF l a (4 - m) k = belF l a 4 i))
  case atStart => exact ⟨i, 0, Nat.zero_le _, rfl, rfl, rfl, rfl, Lib.hid rfl⟩
  case round =>
    obtain ⟨k, m, hm, rfl, rfl, rfl, rfl, HU⟩ := hrel
    by_cases hm4 : m < 4
    · have gm : decide ((m : Int) < 4) = true := decide_eq_true (by omega)
      obtain ⟨f, hf⟩ : ∃ f, 4 - m = f + 1 := ⟨3 - m, by omega⟩
      have hf2 : 4 - (m + 1) = f := by omega
      rw [hf, belF] at HU
      by_cases h0 : 0 ≤ k
      · have g0 : decide (0 ≤ k) = true := decide_eq_true h0
        by_cases h1 : k < l.length
        · have g1 : decide (k < (l.length : Int)) = true := decide_eq_true h1
          rw [if_pos ⟨h0, h1⟩] at HU
          by_cases hx : k = a
          · have g2 : (k == a) = true := by rw [beq_iff_eq]; exact hx
            rw [if_pos hx] at HU
            have HE := Lib.hid HU.out.symm
            clear HU hx hf hf2
            go_wp2
            go_ret
            exact ⟨by rw [HE.out]; rfl, rfl⟩
          · have g2 : (k == a) = false := by rw [beq_eq_false_iff_ne]; exact hx
            rw [if_neg hx, ← hf2] at HU
            have hat := h.at_ (k := k.toNat) (by omega)
            have e : ndAt l k = l.getD k.toNat nd0 := by unfold ndAt; rw [if_pos h0]
            rw [← e] at hat
            obtain ⟨ad, rfl, hbk, d0, d1, d2, d3, d4, d5, d6⟩ := hat
            clear e
            generalize ndAt l k = x at *
            clear hx hf hf2
            go_wp2
            go_roundg (4 - (m + 1))
            case measure => omega
            case rel => exact ⟨x.above, m + 1, by omega, rfl, rfl, by go_num, rfl, HU⟩
        · have g1 : decide (k < (l.length : Int)) = false := decide_eq_false h1
          rw [if_neg (by omega)] at HU
          clear hf hf2
          go_wp2
          go_ret
          exact ⟨by rw [← HU.out]; rfl, rfl⟩
      · have g0 : decide (0 ≤ k) = false := decide_eq_false h0
        rw [if_neg (by omega)] at HU
        clear hf hf2
        go_wp2
        go_ret
        exact ⟨by rw [← HU.out]; rfl, rfl⟩
    · obtain rfl : m = 4 := by omega
      rw [show 4 - 4 = 0 from rfl, belF] at HU
      go_wp2
      go_ret
      exact ⟨by rw [← HU.out]; rfl, rfl⟩
theorem law23_picked {A A' : Option Addr} {n c n' c' : Nat} {l : List Nd} {hosts : List Int} {w : World} (h : IsNodes w A n c l) (h' : IsList w .i64 A' n' c' hosts) (ht : Tall l) (i : Nat) (hi : i < n) : Calls Try.prog 45 #[.slice A n c, .slice A' n' c', .int .i64 i] w fun e w' => e = .returned (.bool (pk l hosts i)) ∧ w = w' := by
  have hcap := h.cap
  have hsm := h.small
  have hcap' := h'.cap
  have hsm' := h'.small
  have hlen := Lib.hid h.len
  have hlen' := Lib.hid h'.len
  have g0 : decide ((i : Int) < 0) = false := decide_eq_false (by omega)
  have g1 : decide ((n : Int) ≤ (i : Int)) = false := decide_eq_false (by omega)
  have hii : (i : Int) < (n : Int) := by omega
  obtain ⟨ad, rfl, hbk, d0, d1, d2, d3, d4, d5, d6⟩ := h.at_ hi
  have HW := Lib.hid (tall_head ht i (by rw [hlen.out]; exact hi)).weight0
  obtain ⟨R, hR⟩ : ∃ R, R = pk l hosts i := ⟨_, rfl⟩
  rw [← hR]
  have HR := Lib.hid (show R = ((l.getD i nd0).kind == 4 && decide (0 < (l.getD i nd0).weight) && hosts.contains (i : Int)) from hR)
  clear hR
  generalize l.getD i nd0 = x at *
  by_cases h4 : x.kind = 4
  · have g2 : (x.kind != 4) = false := by simp [h4]
    by_cases hw : x.weight = 0
    · have g3 : (x.weight == 0) = true := by simp [hw]
      have HE := Lib.hid (show R = false by rw [HR.out, hw]; simp)
      clear hw h4
      go_enter Try.func45, Try.ntmps45
      go_wp2
      go_ret
      exact ⟨by rw [HE.out]; rfl, rfl⟩
    · have g3 : (x.weight == 0) = false := by simp [hw]
      have HE := Lib.hid (show R = hosts.contains (i : Int) by
        have := HW.out
        have h5 : 0 < x.weight := by omega
        rw [HR.out, h4]; simp [h5])
      clear hw h4
      go_enter Try.func45, Try.ntmps45
      go_wp2
      go_loopg [7] n' (fun gg s7 wr => ∃ m : Nat, m ≤ n' ∧ gg = n' - m ∧ s7 = .int .i64 m ∧ w = wr ∧ Hid (∀ j, j < m → ¬ hosts.getD j 0 = i))
      case atStart => exact ⟨0, Nat.zero_le _, rfl, rfl, rfl, Lib.hid (fun j hj => absurd hj (Nat.not_lt_zero _))⟩
      case round =>
        obtain ⟨m, hm, rfl, rfl, rfl, HN⟩ := hrel
        by_cases hlt : m < n'
        · obtain ⟨ad', rfl, _, x0, _⟩ := h'.get hlt
          have hmi : (m : Int) < (n' : Int) := by omega
          have hml : m < hosts.length := by rw [hlen'.out]; exact hlt
          have HH := Lib.hid (show hosts.getD m 0 = i → R = true from fun e => by
            rw [HE.out, List.contains_iff_mem, ← e, List.getD_eq_getElem?_getD, List.getElem?_eq_getElem hml]
            exact List.getElem_mem hml)
          have HM := Lib.hid (show ¬ hosts.getD m 0 = i → ∀ j, j < m + 1 → ¬ hosts.getD j 0 = i from fun h j hj => (by
            by_cases e : j = m
            · rw [e]; exact h
            · exact HN.out j (by omega)))
          generalize hosts.getD m 0 = z at *
          by_cases hz : z = i
          · have g4 : (z == (i : Int)) = true := by rw [beq_iff_eq]; exact hz
            have HX := Lib.hid (HH.out hz)
            clear HH HM hz
            go_wp2
            go_ret
            exact ⟨by rw [HX.out]; rfl, rfl⟩
          · have g4 : (z == (i : Int)) = false := by rw [beq_eq_false_iff_ne]; exact hz
            have HX := Lib.hid (HM.out hz)
            clear HH HM hz
            go_wp2
            go_roundg (n' - (m + 1))
            case measure => omega
            case rel => exact ⟨m + 1, by omega, rfl, by go_num, rfl, HX⟩
        · obtain rfl : m = n' := by omega
          have HX := Lib.hid (show R = false by
            rw [HE.out]
            apply Bool.eq_false_iff.2
            intro hc
            rw [List.contains_iff_mem] at hc
            obtain ⟨j, hj, e⟩ := List.getElem_of_mem hc
            refine HN.out j (by rw [← hlen'.out]; exact hj) ?_
            rw [List.getD_eq_getElem?_getD, List.getElem?_eq_getElem hj]; exact e)
          go_wp2
          go_ret
          exact ⟨by rw [HX.out]; rfl, rfl⟩
  · have g2 : (x.kind != 4) = true := by simp [h4]
    have HE := Lib.hid (show R = false by rw [HR.out]; simp [h4])
    clear h4
    go_enter Try.func45, Try.ntmps45
    go_wp2
    go_ret
    exact ⟨by rw [HE.out]; rfl, rfl⟩
theorem law23_has {A A' : Option Addr} {n c n' c' : Nat} {l : List Nd} {hosts : List Int} {w : World} (h : IsNodes w A n c l) (h' : IsList w .i64 A' n' c' hosts) (ht : Tall l) (i : Nat) (hi : i < n) : Calls Try.prog 44 #[.slice A n c, .slice A' n' c', .int .i64 i] w fun e w' => e = .returned (.bool (hs l hosts i)) ∧ w = w' := by
  have hcap := h.cap
  have hsm := h.small
  have hlen := Lib.hid h.len
  have HA := Lib.hid (hs_any ht hosts 4 i (by rw [hlen.out]; exact hi) (by have := (tall_head ht i (by rw [hlen.out]; exact hi)).kind0; omega))
  obtain ⟨R, hR⟩ : ∃ R, R = hs l hosts i := ⟨_, rfl⟩
  rw [← hR] at HA
  rw [← hR]
  clear hR
  have P := fun k hk => law23_picked h h' ht k hk
  have B := fun k : Int => law23_below h k (i : Int)
  have HB := Lib.hid (fun k : Int => bel_four ht (i : Int) (by omega) (by rw [hlen.out]; omega) k)
  go_enter Try.func44, Try.ntmps44
  go_wp2
  go_loopg [7] n (fun gg s7 wr => ∃ m : Nat, m ≤ n ∧ gg = n - m ∧ s7 = .int .i64 m ∧ w = wr ∧ Hid (∀ j, j < m → (pk l hosts j && belF l i 4 j) = false))
  case atStart => exact ⟨0, Nat.zero_le _, rfl, rfl, rfl, Lib.hid (fun j hj => absurd hj (Nat.not_lt_zero _))⟩
  case round =>
    obtain ⟨m, hm, rfl, rfl, rfl, HN⟩ := hrel
    by_cases hlt : m < n
    · have hmi : (m : Int) < (n : Int) := by omega
      have P1 := P m hlt
      have B1 := B m
      have HH := Lib.hid (show (pk l hosts m && belF l i 4 m) = true → R = true from fun e => by
        rw [HA.out, List.any_eq_true]
        refine ⟨m, List.mem_range.2 (by rw [hlen.out]; exact hlt), ?_⟩
        rw [HB.out, ndAt_nat] at e
        exact e)
      have HM := Lib.hid (show (pk l hosts m && belF l i 4 m) = false → ∀ j, j < m + 1 → (pk l hosts j && belF l i 4 j) = false from fun h j hj => (by
        by_cases e : j = m
        · rw [e]; exact h
        · exact HN.out j (by omega)))
      generalize pk l hosts m = p at *
      generalize belF l (i : Int) 4 (m : Int) = q at *
      clear P B
      cases p with
      | true =>
        cases q with
        | true =>
          have HX := Lib.hid (HH.out rfl)
          go_wp2_with fail
          refine P1.mono ?_; rintro e w' ⟨rfl, rfl⟩
          go_wp2_with fail
          refine B1.mono ?_; rintro e w' ⟨rfl, rfl⟩
          go_wp2
          go_ret
          exact ⟨by rw [HX.out]; rfl, rfl⟩
        | false =>
          have HX := Lib.hid (HM.out rfl)
          go_wp2_with fail
          refine P1.mono ?_; rintro e w' ⟨rfl, rfl⟩
          go_wp2_with fail
          refine B1.mono ?_; rintro e w' ⟨rfl, rfl⟩
          go_wp2
          go_roundg (n - (m + 1))
          case measure => omega
          case rel => exact ⟨m + 1, by omega, rfl, by go_num, rfl, HX⟩
      | false =>
        have HX := Lib.hid (HM.out rfl)
        go_wp2_with fail
        refine P1.mono ?_; rintro e w' ⟨rfl, rfl⟩
        go_wp2
        go_roundg (n - (m + 1))
        case measure => omega
        case rel => exact ⟨m + 1, by omega, rfl, by go_num, rfl, HX⟩
    · obtain rfl : m = n := by omega
      have HX := Lib.hid (show R = false by
        rw [HA.out, List.any_eq_false]
        intro j hj
        have := HN.out j (by rw [← hlen.out]; exact List.mem_range.1 hj)
        rw [HB.out, ndAt_nat] at this
        rw [this]; simp)
      go_wp2
      go_ret
      exact ⟨by rw [HX.out]; rfl, rfl⟩
end Go.Proofs.Ytdkijmiflommeaa
