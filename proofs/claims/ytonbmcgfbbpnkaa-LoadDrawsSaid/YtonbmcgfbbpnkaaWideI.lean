/- Quotients and shares; WideQuotients. -/
import Derived.Test.YtonbmcgfbbpnkaaWideE
import Derived.Test.YtonbmcgfbbpnkaaDivA
import Derived.Test.YtonbmcgfbbpnkaaObj
set_option linter.unusedVariables false
namespace Go.Proofs.Ytonbmcgfbbpnkaa
open Go.RowKit
set_option maxHeartbeats 400000
theorem wide_Div_no (h l y : Int) (hn : IsNum h l) (y0 : 0 ≤ y) (y1 : y < 18446744073709551616) (hy : y ≤ h) (w : World) :
    Calls Try.prog 43 #[.agg #[.int .u64 h, .int .u64 l], .int .u64 y] w fun e w' => e = .returned (.tuple #[.int .u64 0, .int .u64 0, .bool false]) ∧ Below w.heap.size w w' := by
  obtain ⟨h0, h1, l0, l1⟩ := hn
  by_cases hz : y = 0
  · subst hz
    go_enter Try.func43, Try.ntmps43
    go_wp2
    go_ret3
    exact ⟨rfl, by go_grown⟩
  · have hz' : (y == 0) = false := by simp [hz]
    have hd : decide (y ≤ h) = true := decide_eq_true hy
    clear hz
    go_enter Try.func43, Try.ntmps43
    go_wp2
    go_ret3
    exact ⟨rfl, by go_grown⟩
theorem wide_Div_yes (h l y : Int) (hn : IsNum h l) (y1 : y < 18446744073709551616) (hy : h < y) (w : World) :
    Calls Try.prog 43 #[.agg #[.int .u64 h, .int .u64 l], .int .u64 y] w fun e w' => e = .returned (.tuple #[.int .u64 (V h l / y), .int .u64 (V h l % y), .bool true]) ∧ Below w.heap.size w w' := by
  obtain ⟨h0, h1, l0, l1⟩ := hn
  have hz' : (y == 0) = false := by simp; omega
  have hd : decide (y ≤ h) = false := decide_eq_false (by omega)
  have A := fun w => bits_Div64 h l y h0 hy l0 l1 y1 w
  have e1 : h * 18446744073709551616 + l = V h l := rfl
  rw [e1] at A
  clear e1
  go_enter Try.func43, Try.ntmps43
  go_wp2_with fail
  refine (A _).mono ?_; rintro e w1 ⟨rfl, d, rfl⟩
  go_wp2
  go_ret3
  exact ⟨rfl, below_drewN (by go_grown) _⟩
/-- What a quotient is told as. -/
def divQ (h l y : Int) : Int := if h < y then V h l / y else 0
def divR (h l y : Int) : Int := if h < y then V h l % y else 0
theorem wide_Div (h l y : Int) (hn : IsNum h l) (y0 : 0 ≤ y) (y1 : y < 18446744073709551616) (w : World) :
    Calls Try.prog 43 #[.agg #[.int .u64 h, .int .u64 l], .int .u64 y] w fun e w' => e = .returned (.tuple #[.int .u64 (divQ h l y), .int .u64 (divR h l y), .bool (decide (h < y))]) ∧ Below w.heap.size w w' := by
  unfold divQ divR
  by_cases hh : h < y
  · rw [if_pos hh, if_pos hh, decide_eq_true hh]
    exact wide_Div_yes h l y hn y1 hh w
  · rw [if_neg hh, if_neg hh, decide_eq_false hh]
    exact wide_Div_no h l y hn y0 y1 (by omega) w
theorem wide_Share (n p y : Int) (n0 : 0 ≤ n) (n1 : n < 18446744073709551616) (p0 : 0 ≤ p) (p1 : p < 18446744073709551616) (y0 : 0 ≤ y) (y1 : y < 18446744073709551616) (w : World) :
    Calls Try.prog 44 #[.int .u64 n, .int .u64 p, .int .u64 y] w fun e w' => e = .returned (.tuple #[.int .u64 (divQ (pHi n p) (pLo n p) y), .bool (decide (pHi n p < y))]) ∧ Below w.heap.size w w' := by
  have hn := p_num n p n0 n1 p0 p1
  go_enter Try.func44, Try.ntmps44
  go_wp2_with fail
  refine (wide_Mul n p n0 n1 p0 p1 _).mono ?_; rintro e w1 ⟨rfl, hx1⟩
  go_wp2_with fail
  refine (wide_Div _ _ y hn y0 y1 _).mono ?_; rintro e w2 ⟨rfl, hx2⟩
  have hb := below_step hx1 hx2
  clear hx1 hx2
  go_wp2
  go_ret2
  exact ⟨rfl, hb⟩
theorem quot_bd {h l y : Int} (hn : IsNum h l) (hy : h < y) : 0 ≤ V h l / y ∧ V h l / y < 18446744073709551616 ∧ 0 ≤ V h l % y ∧ V h l % y < y ∧ V h l = V h l / y * y + V h l % y := by
  obtain ⟨h0, h1, l0, l1⟩ := hn
  have hV : V h l < 18446744073709551616 * y := by unfold V; omega
  have hV0 : 0 ≤ V h l := by unfold V; omega
  refine ⟨Int.ediv_nonneg hV0 (by omega), ?_, Int.emod_nonneg _ (by omega), Int.emod_lt_of_pos _ (by omega), ?_⟩
  · rw [Int.ediv_lt_iff_lt_mul (by omega)]; exact hV
  · rw [Int.mul_comm]; exact (Int.mul_ediv_add_emod _ _).symm
theorem quot_back {h l y : Int} (hn : IsNum h l) (hy : h < y) (y1 : y < 18446744073709551616) :
    fits (pHi (V h l / y) y) (pLo (V h l / y) y) 0 (V h l % y) = true ∧ sHi (pHi (V h l / y) y) (pLo (V h l / y) y) 0 (V h l % y) = h ∧ sLo (pLo (V h l / y) y) (V h l % y) = l := by
  obtain ⟨q0, q1, r0, r1, e⟩ := quot_bd hn hy
  have h0 := hn.h0
  have hp := p_num (V h l / y) y q0 q1 (by omega) y1
  have hr : IsNum 0 (V h l % y) := ⟨by decide, by decide, r0, by omega⟩
  have hv : V (pHi (V h l / y) y) (pLo (V h l / y) y) + V 0 (V h l % y) = V h l := by
    rw [p_V]
    have : V 0 (V h l % y) = V h l % y := by show (0 : Int) * _ + _ = _; omega
    rw [this]; omega
  have hf : fits (pHi (V h l / y) y) (pLo (V h l / y) y) 0 (V h l % y) = true := by
    rw [fits_iff hp hr, hv]
    obtain ⟨a0, a1, a2, a3⟩ := hn
    unfold V; omega
  have hs := s_V hp hr hf
  rw [hv] at hs
  exact ⟨hf, (V_eq (s_num _ _ _ _) hn).1 hs⟩
/-- The share's part: it is not above, and one more is. -/
theorem share_law {n p y : Int} (n0 : 0 ≤ n) (n1 : n < 18446744073709551616) (p0 : 0 ≤ p) (p1 : p < 18446744073709551616) (y1 : y < 18446744073709551616) (hy : pHi n p < y) :
    let s := V (pHi n p) (pLo n p) / y
    ¬ V (pHi n p) (pLo n p) < V (pHi s y) (pLo s y) ∧ (fits (pHi s y) (pLo s y) 0 y = true → V (pHi n p) (pLo n p) < V (sHi (pHi s y) (pLo s y) 0 y) (sLo (pLo s y) y)) := by
  intro s
  have hn := p_num n p n0 n1 p0 p1
  obtain ⟨q0, q1, r0, r1, e⟩ := quot_bd hn hy
  have hp := p_num s y q0 q1 (by have := hn.h0; omega) y1
  refine ⟨by rw [p_V s y]; show ¬ _ < V (pHi n p) (pLo n p) / y * y; omega, fun hf => ?_⟩
  have hr : IsNum 0 y := ⟨by decide, by decide, by have := hn.h0; omega, y1⟩
  rw [s_V hp hr hf, p_V s y]
  have : V 0 y = y := by show (0 : Int) * _ + _ = _; omega
  rw [this]
  show _ < V (pHi n p) (pLo n p) / y * y + y
  omega
set_option maxHeartbeats 2000000 in
theorem wideQuotients_walk (w : World) (h l : Int) (hn : IsNum h l) (y : Int) (y0 : 0 ≤ y) (y1 : y < 18446744073709551616) (n : Int) (n0 : 0 ≤ n) (n1 : n < 18446744073709551616) (p : Int) (p0 : 0 ≤ p) (p1 : p < 18446744073709551616) :
    Calls Try.prog 6 #[.agg #[.int .u64 h, .int .u64 l], .int .u64 y, .int .u64 n, .int .u64 p] w fun e w' => e = .returned (.bool true) ∧ Below w.heap.size w w' := by
  have hnp := p_num n p n0 n1 p0 p1
  have hh0 := hn.h0
  have hh00 := hnp.h0
  go_enter Try.func6, Try.ntmps6
  go_wp2_with fail
  by_cases hh : h < y
  · obtain ⟨q0, q1, r0, r1, _⟩ := quot_bd hn hh
    obtain ⟨hf, eh, el⟩ := quot_back hn hh y1
    refine (wide_Div_yes h l y hn y1 hh _).mono ?_; rintro e w1 ⟨rfl, hx⟩
    have hX := (Blk.new w 24 #[.int .u64 h, .int .u64 l]).keep hx
    have hW : Below w.heap.size w w1 := below_step (by go_grown) hx
    clear hx
    obtain ⟨c0, c1, z⟩ := hX.cells2
    have hz' : (y == 0) = false := by simp; omega
    have hd : decide (y ≤ h) = false := decide_eq_false (by omega)
    have HF := Lib.hid hf
    have EH := Lib.hid eh
    have EL := Lib.hid el
    clear hf eh el
    generalize V h l / y = q at *
    generalize V h l % y = r at *
    go_wp2_with fail
    refine (law_mul q y q0 q1 y0 y1 _).mono ?_; rintro e w2 ⟨rfl, hx⟩
    have hX2 := hX.keep hx
    have hW2 := below_step hW hx
    clear hx hX hW c0 c1 z
    obtain ⟨c0, c1, z⟩ := hX2.cells2
    go_wp2_with fail
    refine (law_add _ _ 0 r (p_num q y q0 q1 y0 y1) ⟨by decide, by decide, r0, by omega⟩ HF.out _).mono ?_; rintro e w3 ⟨rfl, hx⟩
    rw [EH.out, EL.out]
    have hX3 := hX2.keep hx
    have hW3 := below_step hW2 hx
    clear hx hX2 hW2 c0 c1 z
    obtain ⟨c0, c1, z⟩ := hX3.cells2
    have hrd : decide (y ≤ r) = false := decide_eq_false (by omega)
    go_wp2_with fail
    clear hX3 c0 c1 z EH EL HF q0 q1 r0 r1 hrd hz' hd hh
    refine (law_mul n p n0 n1 p0 p1 _).mono ?_; rintro e w4 ⟨rfl, hx⟩
    have hW4 := below_step (hW3.alloc hW3.size _) hx
    clear hx
    go_wp2_with fail
    refine (wide_Share n p y n0 n1 p0 p1 y0 y1 _).mono ?_; rintro e w5 ⟨rfl, hx⟩
    have hP := (Blk.new w4 24 #[.int .u64 (pHi n p), .int .u64 (pLo n p)]).keep hx
    have hW5 := below_step (hW4.alloc hW4.size _) hx
    clear hx hW4
    by_cases hs : pHi n p < y
    · obtain ⟨q0, q1, r0, r1, _⟩ := quot_bd hnp hs
      obtain ⟨sl1, sl2⟩ := share_law n0 n1 p0 p1 y1 hs
      have hq : divQ (pHi n p) (pLo n p) y = V (pHi n p) (pLo n p) / y := by unfold divQ; rw [if_pos hs]
      rw [hq, decide_eq_true hs]
      clear hq r0 r1
      have hz2 : (y == 0) = false := by simp; omega
      have hd2 : decide (y ≤ pHi n p) = false := decide_eq_false (by omega)
      have SL1 := Lib.hid (show decide (V (pHi n p) (pLo n p) < V (pHi (V (pHi n p) (pLo n p) / y) y) (pLo (V (pHi n p) (pLo n p) / y) y)) = false from decide_eq_false sl1)
      have SL2 := Lib.hid sl2
      clear sl1 sl2 hs
      generalize V (pHi n p) (pLo n p) / y = s at *
      have hsn := p_num s y q0 q1 y0 y1
      obtain ⟨c0, c1, z⟩ := hP.cells2
      go_wp2_with fail
      refine (law_mul s y q0 q1 y0 y1 _).mono ?_; rintro e w6 ⟨rfl, hx⟩
      have hP6 := hP.keep hx
      have hW6 := below_step hW5 hx
      clear hx hP hW5 c0 c1 z
      go_wp2_with fail
      refine (law_addAny (pHi s y) (pLo s y) 0 y hsn ⟨by decide, by decide, y0, y1⟩ _).mono ?_; rintro e w7 ⟨rfl, hx⟩
      have hP7 := Blk.keepA hP6 hx
      have hL7 := blk_newA hx
      have hW7 := below_step (hW6.alloc hW6.size _) hx
      clear hx hP6 hW6
      have hP8 := hP7.alloc (.cells #[.int .u64 (addH (pHi s y) (pLo s y) 0 y), .int .u64 (addL (pHi s y) (pLo s y) 0 y)] 24)
      have hL8 := hL7.alloc (.cells #[.int .u64 (addH (pHi s y) (pLo s y) 0 y), .int .u64 (addL (pHi s y) (pLo s y) 0 y)] 24)
      have hH8 := Blk.new w7 24 #[.int .u64 (addH (pHi s y) (pLo s y) 0 y), .int .u64 (addL (pHi s y) (pLo s y) 0 y)]
      have hW8 := hW7.alloc hW7.size (.cells #[.int .u64 (addH (pHi s y) (pLo s y) 0 y), .int .u64 (addL (pHi s y) (pLo s y) 0 y)] 24)
      obtain ⟨c0, c1, z⟩ := hP7.cells2
      obtain ⟨d0, d1, dz⟩ := hL7.cells2
      clear hP7 hL7 hW7
      go_wp2_with fail
      refine (law_less _ _ _ _ hnp hsn _).mono ?_; rintro e w9 ⟨rfl, hx⟩
      rw [SL1.out]
      have hP9 := hP8.keep hx
      have hH9 := hH8.keep hx
      have hW9 := below_step hW8 hx
      clear hx hP8 hL8 hH8 hW8 c0 c1 z d0 d1 dz
      obtain ⟨c0, c1, z⟩ := hP9.cells2
      obtain ⟨d0, d1, dz⟩ := hH9.cells2
      by_cases hf : fits (pHi s y) (pLo s y) 0 y = true
      · have hlt := SL2.out hf
        have ea : addH (pHi s y) (pLo s y) 0 y = sHi (pHi s y) (pLo s y) 0 y := by unfold addH; rw [if_pos hf]
        have eb : addL (pHi s y) (pLo s y) 0 y = sLo (pLo s y) y := by unfold addL; rw [if_pos hf]
        have HL := Lib.hid (show decide (V (pHi n p) (pLo n p) < V (addH (pHi s y) (pLo s y) 0 y) (addL (pHi s y) (pLo s y) 0 y)) = true by rw [ea, eb]; exact decide_eq_true hlt)
        clear hlt ea eb
        rw [hf]
        clear hf
        go_wp2_with fail
        refine (law_less _ _ _ _ hnp add_num _).mono ?_; rintro e w10 ⟨rfl, hx⟩
        rw [HL.out]
        have hW10 := below_step hW9 hx
        clear hx hP9 hH9 hW9 c0 c1 z d0 d1 dz
        go_wp2_with fail
        refine (wide_awake _).mono ?_; rintro e w11 ⟨rfl, hx⟩
        go_wp2
        go_ret
        exact ⟨rfl, below_step hW10 hx⟩
      · have hf' : fits (pHi s y) (pLo s y) 0 y = false := by simpa using hf
        rw [hf']
        clear hf hf'
        go_wp2_with fail
        refine (wide_awake _).mono ?_; rintro e w11 ⟨rfl, hx⟩
        go_wp2
        go_ret
        exact ⟨rfl, below_step hW9 hx⟩
    · have hq : divQ (pHi n p) (pLo n p) y = 0 := by unfold divQ; rw [if_neg hs]
      rw [hq, decide_eq_false hs]
      clear hq
      have hd2 : decide (y ≤ pHi n p) = true := decide_eq_true (by omega)
      clear hs
      obtain ⟨c0, c1, z⟩ := hP.cells2
      by_cases hz : y = 0
      all_goals
        first
          | subst hz
          | (have hz2 : (y == 0) = false := by simp [hz])
        go_wp2_with fail
        refine (wide_awake _).mono ?_; rintro e w6 ⟨rfl, hx⟩
        go_wp2
        go_ret
        exact ⟨rfl, below_step hW5 hx⟩
  · refine (wide_Div_no h l y hn y0 y1 (by omega) _).mono ?_; rintro e w1 ⟨rfl, hx⟩
    have hX := (Blk.new w 24 #[.int .u64 h, .int .u64 l]).keep hx
    have hW : Below w.heap.size w w1 := below_step (by go_grown) hx
    clear hx
    obtain ⟨c0, c1, z⟩ := hX.cells2
    have hd : decide (y ≤ h) = true := decide_eq_true (by omega)
    by_cases hyz : y = 0
    all_goals
      first
        | (have hz' : (y == 0) = true := by simp [hyz])
        | (have hz' : (y == 0) = false := by simp [hyz])
      clear hyz
      go_wp2_with fail
      clear hX c0 c1 z hd hh hz'
      refine (law_mul n p n0 n1 p0 p1 _).mono ?_; rintro e w4 ⟨rfl, hx⟩
      have hW4 := below_step (hW) hx
      clear hx
      go_wp2_with fail
      refine (wide_Share n p y n0 n1 p0 p1 y0 y1 _).mono ?_; rintro e w5 ⟨rfl, hx⟩
      have hP := (Blk.new w4 24 #[.int .u64 (pHi n p), .int .u64 (pLo n p)]).keep hx
      have hW5 := below_step (hW4.alloc hW4.size _) hx
      clear hx hW4
      by_cases hs : pHi n p < y
      · obtain ⟨q0, q1, r0, r1, _⟩ := quot_bd hnp hs
        obtain ⟨sl1, sl2⟩ := share_law n0 n1 p0 p1 y1 hs
        have hq : divQ (pHi n p) (pLo n p) y = V (pHi n p) (pLo n p) / y := by unfold divQ; rw [if_pos hs]
        rw [hq, decide_eq_true hs]
        clear hq r0 r1
        have hz2 : (y == 0) = false := by simp; omega
        have hd2 : decide (y ≤ pHi n p) = false := decide_eq_false (by omega)
        have SL1 := Lib.hid (show decide (V (pHi n p) (pLo n p) < V (pHi (V (pHi n p) (pLo n p) / y) y) (pLo (V (pHi n p) (pLo n p) / y) y)) = false from decide_eq_false sl1)
        have SL2 := Lib.hid sl2
        clear sl1 sl2 hs
        generalize V (pHi n p) (pLo n p) / y = s at *
        have hsn := p_num s y q0 q1 y0 y1
        obtain ⟨c0, c1, z⟩ := hP.cells2
        go_wp2_with fail
        refine (law_mul s y q0 q1 y0 y1 _).mono ?_; rintro e w6 ⟨rfl, hx⟩
        have hP6 := hP.keep hx
        have hW6 := below_step hW5 hx
        clear hx hP hW5 c0 c1 z
        go_wp2_with fail
        refine (law_addAny (pHi s y) (pLo s y) 0 y hsn ⟨by decide, by decide, y0, y1⟩ _).mono ?_; rintro e w7 ⟨rfl, hx⟩
        have hP7 := Blk.keepA hP6 hx
        have hL7 := blk_newA hx
        have hW7 := below_step (hW6.alloc hW6.size _) hx
        clear hx hP6 hW6
        have hP8 := hP7.alloc (.cells #[.int .u64 (addH (pHi s y) (pLo s y) 0 y), .int .u64 (addL (pHi s y) (pLo s y) 0 y)] 24)
        have hL8 := hL7.alloc (.cells #[.int .u64 (addH (pHi s y) (pLo s y) 0 y), .int .u64 (addL (pHi s y) (pLo s y) 0 y)] 24)
        have hH8 := Blk.new w7 24 #[.int .u64 (addH (pHi s y) (pLo s y) 0 y), .int .u64 (addL (pHi s y) (pLo s y) 0 y)]
        have hW8 := hW7.alloc hW7.size (.cells #[.int .u64 (addH (pHi s y) (pLo s y) 0 y), .int .u64 (addL (pHi s y) (pLo s y) 0 y)] 24)
        obtain ⟨c0, c1, z⟩ := hP7.cells2
        obtain ⟨d0, d1, dz⟩ := hL7.cells2
        clear hP7 hL7 hW7
        go_wp2_with fail
        refine (law_less _ _ _ _ hnp hsn _).mono ?_; rintro e w9 ⟨rfl, hx⟩
        rw [SL1.out]
        have hP9 := hP8.keep hx
        have hH9 := hH8.keep hx
        have hW9 := below_step hW8 hx
        clear hx hP8 hL8 hH8 hW8 c0 c1 z d0 d1 dz
        obtain ⟨c0, c1, z⟩ := hP9.cells2
        obtain ⟨d0, d1, dz⟩ := hH9.cells2
        by_cases hf : fits (pHi s y) (pLo s y) 0 y = true
        · have hlt := SL2.out hf
          have ea : addH (pHi s y) (pLo s y) 0 y = sHi (pHi s y) (pLo s y) 0 y := by unfold addH; rw [if_pos hf]
          have eb : addL (pHi s y) (pLo s y) 0 y = sLo (pLo s y) y := by unfold addL; rw [if_pos hf]
          have HL := Lib.hid (show decide (V (pHi n p) (pLo n p) < V (addH (pHi s y) (pLo s y) 0 y) (addL (pHi s y) (pLo s y) 0 y)) = true by rw [ea, eb]; exact decide_eq_true hlt)
          clear hlt ea eb
          rw [hf]
          clear hf
          go_wp2_with fail
          refine (law_less _ _ _ _ hnp add_num _).mono ?_; rintro e w10 ⟨rfl, hx⟩
          rw [HL.out]
          have hW10 := below_step hW9 hx
          clear hx hP9 hH9 hW9 c0 c1 z d0 d1 dz
          go_wp2_with fail
          refine (wide_awake _).mono ?_; rintro e w11 ⟨rfl, hx⟩
          go_wp2
          go_ret
          exact ⟨rfl, below_step hW10 hx⟩
        · have hf' : fits (pHi s y) (pLo s y) 0 y = false := by simpa using hf
          rw [hf']
          clear hf hf'
          go_wp2_with fail
          refine (wide_awake _).mono ?_; rintro e w11 ⟨rfl, hx⟩
          go_wp2
          go_ret
          exact ⟨rfl, below_step hW9 hx⟩
      · have hq : divQ (pHi n p) (pLo n p) y = 0 := by unfold divQ; rw [if_neg hs]
        rw [hq, decide_eq_false hs]
        clear hq
        have hd2 : decide (y ≤ pHi n p) = true := decide_eq_true (by omega)
        clear hs
        obtain ⟨c0, c1, z⟩ := hP.cells2
        by_cases hz : y = 0
        all_goals
          first
            | subst hz
            | (have hz2 : (y == 0) = false := by simp [hz])
          go_wp2_with fail
          refine (wide_awake _).mono ?_; rintro e w6 ⟨rfl, hx⟩
          go_wp2
          go_ret
          exact ⟨rfl, below_step hW5 hx⟩
end Go.Proofs.Ytonbmcgfbbpnkaa
