/- Lemmas for the claim's proof: DivA WideI LoadA LoadB. -/
import Derived.Deep.QuietTactic
import Derived.BigQuiet
import Derived.Deep.CutBlock
import Derived.Deep.DeepCutAuto
import Derived.Test.YtblbgafadadbmaaQ01
import Derived.Test.YtblbgafadadbmaaQ02
import Derived.Test.YtblbgafadadbmaaQ04
import Derived.Test.YtblbgafadadbmaaQ13
import Derived.Test.YtblbgafadadbmaaQ15
import Derived.Test.YtblbgafadadbmaaQ17
section
/- math/bits.Div64. -/
set_option linter.unusedVariables false
namespace Go.Proofs.Ytblbgafadadbmaa
open Go.RowKit
set_option maxHeartbeats 400000
set_option maxRecDepth 100000
theorem or_pow (m l : Int) (s : Nat) (hs : s ≤ 63) (m0 : 0 ≤ m) (m1 : m * 2 ^ s < 18446744073709551616) (l0 : 0 ≤ l) (l1 : l < 2 ^ s) : bits .or .u64 (m * 2 ^ s) l = m * 2 ^ s + l := by
  obtain ⟨n, rfl⟩ := Int.eq_ofNat_of_zero_le m0
  obtain ⟨k, rfl⟩ := Int.eq_ofNat_of_zero_le l0
  have e : ((n : Int) * 2 ^ s) = ((n * 2 ^ s : Nat) : Int) := by rw [Int.natCast_mul, Int.natCast_pow]; rfl
  have e2 : (2 : Int) ^ s = ((2 ^ s : Nat) : Int) := by rw [Int.natCast_pow]; rfl
  rw [e] at m1 ⊢
  rw [e2] at l1
  have hp : 2 ^ s ≤ 2 ^ 63 := Nat.pow_le_pow_right (by decide) hs
  rw [u64_or_nat _ _ (by omega) (by omega), nat_join s _ _ (Nat.mul_mod_left _ _) (by omega)]
  omega
/-- The divisor and the number, moved up until the divisor's highest bit is set. -/
theorem div_norm (h l y : Int) (bl s : Nat) (h0 : 0 < h) (h1 : h < y) (l0 : 0 ≤ l) (l1 : l < 18446744073709551616) (b1 : 1 ≤ bl) (hb1 : 2 ^ (bl - 1) ≤ y.toNat) (hb2 : y.toNat < 2 ^ bl) (hs : s + bl = 64) :
    ∃ Y U V : Int, IntKind.u64.wrap (y * 2 ^ s) = Y ∧ bits .or .u64 (IntKind.u64.wrap (h * 2 ^ s)) (l / 2 ^ (64 - s)) = U ∧ IntKind.u64.wrap (l * 2 ^ s) = V ∧ Y = y * 2 ^ s ∧
      9223372036854775808 ≤ Y ∧ Y < 18446744073709551616 ∧ 0 ≤ U ∧ U < Y ∧ 0 ≤ V ∧ V < 18446744073709551616 ∧ U * 18446744073709551616 + V = (h * 18446744073709551616 + l) * 2 ^ s := by
  have e2 : (2 : Int) ^ s = ((2 ^ s : Nat) : Int) := by rw [Int.natCast_pow]; rfl
  have e3 : (2 : Int) ^ (64 - s) = ((2 ^ (64 - s) : Nat) : Int) := by rw [Int.natCast_pow]; rfl
  have hp : 2 ^ s * 2 ^ (64 - s) = 18446744073709551616 := by rw [← Nat.pow_add, show s + (64 - s) = 64 by omega]
  have hq : 2 ^ s * 2 ^ (bl - 1) = 9223372036854775808 := by rw [← Nat.pow_add, show s + (bl - 1) = 63 by omega]
  have hbl : 2 ^ bl = 2 ^ (64 - s) := by rw [show bl = 64 - s by omega]
  have p0 : 0 < 2 ^ s := Nat.two_pow_pos s
  have q0 : 0 < 2 ^ (64 - s) := Nat.two_pow_pos _
  rw [hbl] at hb2
  obtain ⟨yn, rfl⟩ := Int.eq_ofNat_of_zero_le (show 0 ≤ y by omega)
  obtain ⟨hn, rfl⟩ := Int.eq_ofNat_of_zero_le (show 0 ≤ h by omega)
  obtain ⟨ln, rfl⟩ := Int.eq_ofNat_of_zero_le l0
  simp only [Int.toNat_natCast] at hb1 hb2
  have hor := or_pow hn (((ln / 2 ^ (64 - s) : Nat)) : Int) s (by omega)
  rw [e2, e3] 
  rw [e2] at hor
  generalize hP : 2 ^ s = P at *
  generalize hQ : 2 ^ (64 - s) = Q at *
  have hy1 : yn * P < 18446744073709551616 := by
    have : yn * P < Q * P := Nat.mul_lt_mul_of_pos_right hb2 p0
    rw [Nat.mul_comm Q P, hp] at this
    exact this
  have hy2 : 9223372036854775808 ≤ yn * P := by
    have := Nat.mul_le_mul_left P hb1
    rw [hq, Nat.mul_comm] at this
    exact this
  have hh : hn * P < yn * P := Nat.mul_lt_mul_of_pos_right (by omega) p0
  have hh2 : hn * P + P ≤ yn * P := by
    have := Nat.mul_le_mul_right P (show hn + 1 ≤ yn by omega)
    rw [Nat.add_mul, Nat.one_mul] at this
    exact this
  have hlq : ln / Q < P := by
    rw [Nat.div_lt_iff_lt_mul q0, hp]
    omega
  have k1 : ln * P / 18446744073709551616 = ln / Q := by
    rw [← hp, Nat.mul_comm P Q]
    exact Nat.mul_div_mul_right ln Q p0
  have k2 : ((hn : Int) * 18446744073709551616 + (ln : Int)) * (P : Int) = ((hn * P : Nat) : Int) * 18446744073709551616 + ((ln * P : Nat) : Int) := by
    rw [Int.add_mul, Int.natCast_mul, Int.natCast_mul, Int.mul_assoc, Int.mul_comm 18446744073709551616, ← Int.mul_assoc]
  rw [← Int.natCast_ediv, k2]
  rw [← Int.natCast_mul] at hor
  rw [← Int.natCast_mul, ← Int.natCast_mul, ← Int.natCast_mul]
  generalize ln / Q = D at *
  generalize hn * P = H at *
  generalize yn * P = Z at *
  generalize ln * P = L at *
  have w1 : IntKind.u64.wrap (H : Int) = (H : Int) := by rw [IntKind.wrap_u64]; omega
  have w2 : IntKind.u64.wrap (Z : Int) = (Z : Int) := by rw [IntKind.wrap_u64]; omega
  have eU := hor (by omega) (by omega) (by omega) (by omega)
  rw [w1, w2, eU]
  refine ⟨_, _, _, rfl, rfl, rfl, rfl, by omega, by omega, by omega, by omega, ?_, ?_, ?_⟩
  · rw [IntKind.wrap_u64]; omega
  · rw [IntKind.wrap_u64]; omega
  · rw [IntKind.wrap_u64]; omega
theorem bits_LeadingZeros64 (x : Int) (h0 : 0 ≤ x) (h1 : x < 18446744073709551616) (w : World) :
    Calls Try.prog 106 #[.int .u64 x] w fun e w' => e = .returned (.int .i64 (64 - Lib.bitLen x.toNat)) ∧ w = w' := by
  have hb := bl_le x.toNat (by omega)
  generalize hq : Lib.bitLen x.toNat = q at *
  have HQ := Lib.hid hq
  clear hq
  go_enter Try.func106, Try.ntmps106
  go_wp2_with (go_at_call 105; refine (bits_Len64 _ h0 h1 _).mono ?_; rintro e w' ⟨rfl, rfl⟩; rw [HQ.out])
  go_ret
  exact ⟨rfl, rfl⟩
theorem bits_Div64_small (l y : Int) (l0 : 0 ≤ l) (l1 : l < 18446744073709551616) (y0 : 0 < y) (y1 : y < 18446744073709551616) (w : World) :
    Calls Try.prog 100 #[.int .u64 0, .int .u64 l, .int .u64 y] w fun e w' => e = .returned (.tuple #[.int .u64 (l / y), .int .u64 (l % y)]) ∧ ∃ d, w' = w.drewN d := by
  have h1 : (y == 0) = false := by simp; omega
  have h3 : decide (y ≤ 0) = false := decide_eq_false (by omega)
  have h2 := div_bdN l y l0 y0
  have t1 : l.tdiv y = l / y := Int.tdiv_eq_ediv_of_nonneg l0
  have t2 : l.tmod y = l % y := Int.tmod_eq_emod_of_nonneg l0
  have k1 : IntKind.u64.wrap (l / y) = l / y := by rw [IntKind.wrap_u64]; omega
  have k2 : IntKind.u64.wrap (l % y) = l % y := by rw [IntKind.wrap_u64]; omega
  go_enter Try.func100, Try.ntmps100
  go_wp2_with fail
  go_quiet (fail)
  clear t1 t2 k1 k2
  go_wp2
  go_ret2
  exact ⟨rfl, _, rfl⟩
where
  div_bdN (a e : Int) (a0 : 0 ≤ a) (he : 0 < e) : 0 ≤ a / e ∧ a / e ≤ a ∧ 0 ≤ a % e ∧ a % e < e := ⟨Int.ediv_nonneg a0 (by omega), Int.ediv_le_self e a0, Int.emod_nonneg a (by omega), Int.emod_lt_of_pos a he⟩
theorem mulb_le {q b : Int} (q0 : 0 ≤ q) (q1 : q ≤ 4294967297) (b0 : 0 ≤ b) (b1 : b < 4294967296) : q * b ≤ 18446744073709551615 := by
  have h1 : q * b ≤ 4294967297 * b := Int.mul_le_mul_of_nonneg_right q1 b0
  omega
theorem shift_out {N P Q y r : Int} (e : N * P = Q * (y * P) + r) (r0 : 0 ≤ r) (r1 : r < y * P) (p0 : 0 < P) (y0 : 0 < y) : N / y = Q ∧ N % y = r / P := by
  have h1 : r = (N - Q * y) * P := by rw [Int.sub_mul, Int.mul_assoc]; omega
  have h2 : r / P = N - Q * y := by rw [h1]; exact Int.mul_ediv_cancel _ (by omega)
  have h3 : 0 ≤ N - Q * y := by rw [← h2]; exact Int.ediv_nonneg r0 (by omega)
  have h4 : N - Q * y < y := by rw [← h2]; exact Int.ediv_lt_of_lt_mul p0 r1
  have h5 : N = N - Q * y + y * Q := by rw [Int.mul_comm y Q]; omega
  have h6 : (N - Q * y) / y = 0 := Int.ediv_eq_zero_of_lt h3 h4
  have h7 : (N - Q * y) % y = N - Q * y := Int.emod_eq_of_lt h3 h4
  rw [h2]
  constructor
  · rw [h5, Int.add_mul_ediv_left _ _ (by omega)]; omega
  · rw [← h7]
    conv => lhs; rw [h5]
    rw [Int.add_mul_emod_self_left]
theorem bits_Div64_great (h l y : Int) (h0 : 0 < h) (h1 : h < y) (l0 : 0 ≤ l) (l1 : l < 18446744073709551616) (y1 : y < 18446744073709551616) (w : World) :
    Calls Try.prog 100 #[.int .u64 h, .int .u64 l, .int .u64 y] w fun e w' => e = .returned (.tuple #[.int .u64 ((h * 18446744073709551616 + l) / y), .int .u64 ((h * 18446744073709551616 + l) % y)]) ∧ ∃ d, w' = w.drewN d := by
  have e1 : (y == 0) = false := by simp; omega
  have e2 : decide (y ≤ h) = false := decide_eq_false (by omega)
  have e3 : (h == 0) = false := by simp; omega
  go_enter Try.func100, Try.ntmps100
  go_wp2_with fail
  refine (bits_LeadingZeros64 y (by omega) y1 _).mono ?_; rintro e w' ⟨rfl, rfl⟩
  have hs := bl_spec y.toNat (by omega) (by omega)
  have hs2 := bl_le y.toNat (by omega)
  obtain ⟨s, hse⟩ : ∃ s : Nat, (64 : Int) - (Lib.bitLen y.toNat : Int) = (s : Int) := ⟨64 - Lib.bitLen y.toNat, by omega⟩
  have hs63 : s ≤ 63 := by omega
  rw [hse]
  have HS := Lib.hid hs
  have HSE := Lib.hid hse
  clear hs hse hs2
  obtain ⟨hs1, hs2, hs3⟩ := HS.out
  obtain ⟨Y, U, V, eY, eU, eV, yY, Y0, Y1, U0, U1, V0, V1, eN⟩ := div_norm h l y _ s h0 h1 l0 l1 hs1 hs2 hs3 (by have := HSE.out; omega)
  clear hs1 hs2 hs3 HS HSE
  have HyY := Lib.hid yY
  have HeN := Lib.hid eN
  clear yY eN
  have hb : bits .and .u64 Y 4294967295 = Y % 4294967296 := mask32 Y (by omega) Y1
  have hd : bits .and .u64 V 4294967295 = V % 4294967296 := mask32 V V0 V1
  obtain ⟨a, ha⟩ : ∃ a, Y / 4294967296 = a := ⟨_, rfl⟩
  obtain ⟨b, hb'⟩ : ∃ b, Y % 4294967296 = b := ⟨_, rfl⟩
  obtain ⟨d, hd1⟩ : ∃ d, V / 4294967296 = d := ⟨_, rfl⟩
  obtain ⟨f, hd0⟩ : ∃ f, V % 4294967296 = f := ⟨_, rfl⟩
  have v : DV Y a b := ⟨by omega, by omega, by omega, by omega, by omega⟩
  have HV := Lib.hid (show V = d * 4294967296 + f by omega)
  have d0 : 0 ≤ d := by omega
  have d1 : d < 4294967296 := by omega
  have f0 : 0 ≤ f := by omega
  have f1 : f < 4294967296 := by omega
  have a0 := v.a0
  have a1 := v.a1
  have b0 := v.b0
  have b1 := v.b1
  have g := guess_first v U0 U1 d0 d1
  obtain ⟨q, hq⟩ : ∃ q, U / a = q := ⟨_, rfl⟩
  obtain ⟨r, hr⟩ : ∃ r, U % a = r := ⟨_, rfl⟩
  rw [hq, hr] at g
  clear hr
  have q0 := g.q0
  have q1 := g.q1
  have r0 := g.r0
  have r1 := g.r1
  have ge := g.e
  have hqa : 0 ≤ q * a := Int.mul_nonneg q0 (by omega)
  have w1 : IntKind.u64.wrap (q * a) = q * a := by rw [IntKind.wrap_u64]; omega
  have w2 : U - q * a = r := by omega
  clear ge
  go_upto_block 0 with (fail)
  have HQ := Lib.hid hq
  clear w1 w2 hqa hq hb hd ha hb' hd1 hd0 eY eU eV q0 q1 r0 r1
  go_cut [15, 16] (fun s15 s16 wx => w = wx ∧ ∃ Q : Int, s15 = .int .u64 Q ∧ Q * Y ≤ U * 4294967296 + d ∧ U * 4294967296 + d < (Q + 1) * Y)
  case first =>
    go_wp2_with fail
    go_loop [15, 16] (fun x y => ∃ Q R : Int, x = .int .u64 Q ∧ y = .int .u64 R ∧ Guess Y a b U d Q R) (fun x _ => (intOf x).toNat)
    case atStart => exact ⟨_, _, rfl, rfl, by rw [HQ.out]; exact g⟩
    case round =>
      clear g
      obtain ⟨Q, R, rfl, rfl, g⟩ := hrel
      have q0 := g.q0
      have q1 := g.q1
      have r0 := g.r0
      have r1 := g.r1
      have m0 := Int.mul_nonneg q0 b0
      have m1 : Q * b ≤ 18446744073709551615 := mulb_le q0 q1 b0 b1
      have w1 : IntKind.u64.wrap (Q * b) = Q * b := by rw [IntKind.wrap_u64]; omega
      clear m0 m1
      by_cases hbig : 4294967296 ≤ Q ∨ 4294967296 * R + d < Q * b
      · have qp := guess_pos v g (by omega) (by omega) hbig
        have hc : decide (4294967296 ≤ Q) = true ∨ decide (4294967296 ≤ Q) = false ∧ decide (4294967296 * R + d < Q * b) = true := by
          rcases Int.lt_or_le Q 4294967296 with h | h
          · exact .inr ⟨decide_eq_false (by omega), decide_eq_true (hbig.resolve_left (by omega))⟩
          · exact .inl (decide_eq_true h)
        by_cases hr : 4294967296 ≤ R + a
        · have hf := Lib.hid (guess_broken v g (by omega) (by omega) (by omega) (by omega) hbig hr)
          clear hbig g
          rcases hc with hc | ⟨hc, hc2⟩
          all_goals
            go_wp2
            go_meet
            exact ⟨rfl, _, rfl, hf.out⟩
        · have g' := Lib.hid (guess_next v g (by omega) (by omega) (by omega) (by omega) hbig (by omega))
          clear hbig g
          rcases hc with hc | ⟨hc, hc2⟩
          all_goals
            go_wp2
            go_round
            case rel => exact ⟨_, _, rfl, rfl, g'.out⟩
            case measure => simp [intOf]; omega
      · have hlt : Q < 4294967296 := by omega
        have hn : ¬ 4294967296 * R + d < Q * b := by omega
        have hc2 : decide (4294967296 * R + d < Q * b) = false := decide_eq_false hn
        have hf := Lib.hid (guess_found v g hlt hn)
        clear hbig g hn
        go_wp2
        go_meet
        exact ⟨rfl, _, rfl, hf.out⟩
  case rest =>
    obtain ⟨rfl, Q, rfl, k1, k2⟩ := hcut
    obtain ⟨Q0, Q1, R0, R1⟩ := digit_bd v U0 U1 d0 d1 k1 k2
    clear g k1 k2
    obtain ⟨W, hW⟩ : ∃ W, U * 4294967296 + d - Q * Y = W := ⟨_, rfl⟩
    rw [hW] at R0 R1
    have HW := Lib.hid hW
    have w1 : IntKind.u64.wrap (IntKind.u64.wrap (IntKind.u64.wrap (U * 4294967296) + d) - IntKind.u64.wrap (Q * Y)) = W := by
      simp only [IntKind.wrap_u64]; omega
    obtain ⟨q2, hq2⟩ : ∃ q2, W / a = q2 := ⟨_, rfl⟩
    obtain ⟨r2, hr2⟩ : ∃ r2, W % a = r2 := ⟨_, rfl⟩
    have g := guess_first v R0 R1 f0 f1
    rw [hq2, hr2] at g
    clear hr2 hW
    have q20 := g.q0
    have ge := g.e
    have r20 := g.r0
    have hqa : 0 ≤ q2 * a := Int.mul_nonneg q20 (by omega)
    have w2 : IntKind.u64.wrap (q2 * a) = q2 * a := by rw [IntKind.wrap_u64]; omega
    have w3 : W - q2 * a = r2 := by omega
    have HQ2 := Lib.hid hq2
    clear ge
    go_upto_block 2 with (fail)
    clear w1 w2 w3 hqa q20 r20 hq2
    go_cut [18, 16] (fun s18 s16 wx => w = wx ∧ ∃ Q : Int, s18 = .int .u64 Q ∧ Q * Y ≤ W * 4294967296 + f ∧ W * 4294967296 + f < (Q + 1) * Y)
    case first =>
      go_wp2_with fail
      go_loop [18, 16] (fun x y => ∃ Q R : Int, x = .int .u64 Q ∧ y = .int .u64 R ∧ Guess Y a b W f Q R) (fun x _ => (intOf x).toNat)
      case atStart => exact ⟨_, _, rfl, rfl, by rw [HQ2.out]; exact g⟩
      case round =>
        clear g
        obtain ⟨Q, R, rfl, rfl, g⟩ := hrel
        have q0 := g.q0
        have q1 := g.q1
        have r0 := g.r0
        have r1 := g.r1
        have m0 := Int.mul_nonneg q0 b0
        have m1 : Q * b ≤ 18446744073709551615 := mulb_le q0 q1 b0 b1
        have w1 : IntKind.u64.wrap (Q * b) = Q * b := by rw [IntKind.wrap_u64]; omega
        clear m0 m1
        by_cases hbig : 4294967296 ≤ Q ∨ 4294967296 * R + f < Q * b
        · have qp := guess_pos v g (by omega) (by omega) hbig
          have hc : decide (4294967296 ≤ Q) = true ∨ decide (4294967296 ≤ Q) = false ∧ decide (4294967296 * R + f < Q * b) = true := by
            rcases Int.lt_or_le Q 4294967296 with h | h
            · exact .inr ⟨decide_eq_false (by omega), decide_eq_true (hbig.resolve_left (by omega))⟩
            · exact .inl (decide_eq_true h)
          by_cases hr : 4294967296 ≤ R + a
          · have hf := Lib.hid (guess_broken v g (by omega) (by omega) (by omega) (by omega) hbig hr)
            clear hbig g
            rcases hc with hc | ⟨hc, hc2⟩
            all_goals
              go_wp2
              go_meet
              exact ⟨rfl, _, rfl, hf.out⟩
          · have g' := Lib.hid (guess_next v g (by omega) (by omega) (by omega) (by omega) hbig (by omega))
            clear hbig g
            rcases hc with hc | ⟨hc, hc2⟩
            all_goals
              go_wp2
              go_round
              case rel => exact ⟨_, _, rfl, rfl, g'.out⟩
              case measure => simp [intOf]; omega
        · have hlt : Q < 4294967296 := by omega
          have hn : ¬ 4294967296 * R + f < Q * b := by omega
          have hc2 : decide (4294967296 * R + f < Q * b) = false := decide_eq_false hn
          have hf := Lib.hid (guess_found v g hlt hn)
          clear hbig g hn
          go_wp2
          go_meet
          exact ⟨rfl, _, rfl, hf.out⟩
    case rest =>
      obtain ⟨rfl, T, rfl, k1, k2⟩ := hcut
      obtain ⟨T0, T1, S0, S1⟩ := digit_bd v R0 R1 f0 f1 k1 k2
      clear g k1 k2
      have hmain : (h * 18446744073709551616 + l) / y = Q * 4294967296 + T ∧ (h * 18446744073709551616 + l) % y = (W * 4294967296 + f - T * Y) / 2 ^ s := by
        have e := digits_two (q1 := Q) (q0 := T) (Y := Y) HW.out.symm (rfl : W * 4294967296 + f - T * Y = _)
        have hN := HeN.out
        have hv := HV.out
        have hy := HyY.out
        have p0 : (0 : Int) < 2 ^ s := by
          rw [show (2 : Int) ^ s = ((2 ^ s : Nat) : Int) by rw [Int.natCast_pow]; rfl]
          have := Nat.two_pow_pos s
          omega
        refine shift_out ?_ S0 (by rw [← hy]; exact S1) p0 (by omega)
        rw [← hN, ← hy]
        omega
      obtain ⟨m1, m2⟩ := hmain
      have HM := Lib.hid m2
      have HM1 := Lib.hid m1
      clear m1 m2 HW
      have w1 : IntKind.u64.wrap (IntKind.u64.wrap (IntKind.u64.wrap (W * 4294967296) + f) - IntKind.u64.wrap (T * Y)) = W * 4294967296 + f - T * Y := by
        simp only [IntKind.wrap_u64]; omega
      go_wp2
      go_ret2
      exact ⟨by rw [HM1.out, HM.out]; rfl, 0, rfl⟩
theorem bits_Div64 (h l y : Int) (h0 : 0 ≤ h) (h1 : h < y) (l0 : 0 ≤ l) (l1 : l < 18446744073709551616) (y1 : y < 18446744073709551616) (w : World) :
    Calls Try.prog 100 #[.int .u64 h, .int .u64 l, .int .u64 y] w fun e w' => e = .returned (.tuple #[.int .u64 ((h * 18446744073709551616 + l) / y), .int .u64 ((h * 18446744073709551616 + l) % y)]) ∧ ∃ d, w' = w.drewN d := by
  rcases Int.lt_or_le 0 h with hh | hh
  · exact bits_Div64_great h l y hh h1 l0 l1 y1 w
  · obtain rfl : h = 0 := by omega
    rw [Int.zero_mul, Int.zero_add]
    exact bits_Div64_small l y l0 l1 h1 y1 w
end Go.Proofs.Ytblbgafadadbmaa
end
section
/- Quotients and shares; WideQuotients. -/
set_option linter.unusedVariables false
namespace Go.Proofs.Ytblbgafadadbmaa
open Go.RowKit
set_option maxHeartbeats 400000
theorem wide_Div_no (h l y : Int) (hn : IsNum h l) (y0 : 0 ≤ y) (y1 : y < 18446744073709551616) (hy : y ≤ h) (w : World) :
    Calls Try.prog 96 #[.agg #[.int .u64 h, .int .u64 l], .int .u64 y] w fun e w' => e = .returned (.tuple #[.int .u64 0, .int .u64 0, .bool false]) ∧ Below w.heap.size w w' := by
  obtain ⟨h0, h1, l0, l1⟩ := hn
  by_cases hz : y = 0
  · subst hz
    go_enter Try.func96, Try.ntmps96
    go_wp2
    go_ret3
    exact ⟨rfl, by go_grown⟩
  · have hz' : (y == 0) = false := by simp [hz]
    have hd : decide (y ≤ h) = true := decide_eq_true hy
    clear hz
    go_enter Try.func96, Try.ntmps96
    go_wp2
    go_ret3
    exact ⟨rfl, by go_grown⟩
theorem wide_Div_yes (h l y : Int) (hn : IsNum h l) (y1 : y < 18446744073709551616) (hy : h < y) (w : World) :
    Calls Try.prog 96 #[.agg #[.int .u64 h, .int .u64 l], .int .u64 y] w fun e w' => e = .returned (.tuple #[.int .u64 (V h l / y), .int .u64 (V h l % y), .bool true]) ∧ Below w.heap.size w w' := by
  obtain ⟨h0, h1, l0, l1⟩ := hn
  have hz' : (y == 0) = false := by simp; omega
  have hd : decide (y ≤ h) = false := decide_eq_false (by omega)
  have A := fun w => bits_Div64 h l y h0 hy l0 l1 y1 w
  have e1 : h * 18446744073709551616 + l = V h l := rfl
  rw [e1] at A
  clear e1
  go_enter Try.func96, Try.ntmps96
  go_wp2_with fail
  refine (A _).mono ?_; rintro e w1 ⟨rfl, d, rfl⟩
  go_wp2
  go_ret3
  exact ⟨rfl, below_drewN (by go_grown) _⟩
/-- What a quotient is told as. -/
def divQ (h l y : Int) : Int := if h < y then V h l / y else 0
def divR (h l y : Int) : Int := if h < y then V h l % y else 0
theorem wide_Div (h l y : Int) (hn : IsNum h l) (y0 : 0 ≤ y) (y1 : y < 18446744073709551616) (w : World) :
    Calls Try.prog 96 #[.agg #[.int .u64 h, .int .u64 l], .int .u64 y] w fun e w' => e = .returned (.tuple #[.int .u64 (divQ h l y), .int .u64 (divR h l y), .bool (decide (h < y))]) ∧ Below w.heap.size w w' := by
  unfold divQ divR
  by_cases hh : h < y
  · rw [if_pos hh, if_pos hh, decide_eq_true hh]
    exact wide_Div_yes h l y hn y1 hh w
  · rw [if_neg hh, if_neg hh, decide_eq_false hh]
    exact wide_Div_no h l y hn y0 y1 (by omega) w
theorem wide_Share (n p y : Int) (n0 : 0 ≤ n) (n1 : n < 18446744073709551616) (p0 : 0 ≤ p) (p1 : p < 18446744073709551616) (y0 : 0 ≤ y) (y1 : y < 18446744073709551616) (w : World) :
    Calls Try.prog 90 #[.int .u64 n, .int .u64 p, .int .u64 y] w fun e w' => e = .returned (.tuple #[.int .u64 (divQ (pHi n p) (pLo n p) y), .bool (decide (pHi n p < y))]) ∧ Below w.heap.size w w' := by
  have hn := p_num n p n0 n1 p0 p1
  go_enter Try.func90, Try.ntmps90
  go_wp2_with fail
  refine (wide_Mul n p n0 n1 p0 p1 _).mono ?_; rintro e w1 ⟨rfl, hx1⟩
  go_wp2_with fail
  refine (wide_Div _ _ y hn y0 y1 _).mono ?_; rintro e w2 ⟨rfl, hx2⟩
  have hb := below_step hx1 hx2
  clear hx1 hx2
  go_wp2
  go_ret2
  exact ⟨rfl, hb⟩
theorem quot_bd {h l y : Int} (hn : IsNum h l) (hy : h < y) : 0 ≤ V h l / y ∧ V h l / y < 18446744073709551616 ∧ 0 ≤ V h l % y ∧ V h l % y < y ∧ V h l = V h l / y * y + V h l % y := by
  obtain ⟨h0, h1, l0, l1⟩ := hn
  have hV : V h l < 18446744073709551616 * y := by unfold V; omega
  have hV0 : 0 ≤ V h l := by unfold V; omega
  refine ⟨Int.ediv_nonneg hV0 (by omega), ?_, Int.emod_nonneg _ (by omega), Int.emod_lt_of_pos _ (by omega), ?_⟩
  · rw [Int.ediv_lt_iff_lt_mul (by omega)]; exact hV
  · rw [Int.mul_comm]; exact (Int.mul_ediv_add_emod _ _).symm
theorem quot_back {h l y : Int} (hn : IsNum h l) (hy : h < y) (y1 : y < 18446744073709551616) :
    fits (pHi (V h l / y) y) (pLo (V h l / y) y) 0 (V h l % y) = true ∧ sHi (pHi (V h l / y) y) (pLo (V h l / y) y) 0 (V h l % y) = h ∧ sLo (pLo (V h l / y) y) (V h l % y) = l := by
  obtain ⟨q0, q1, r0, r1, e⟩ := quot_bd hn hy
  have h0 := hn.h0
  have hp := p_num (V h l / y) y q0 q1 (by omega) y1
  have hr : IsNum 0 (V h l % y) := ⟨by decide, by decide, r0, by omega⟩
  have hv : V (pHi (V h l / y) y) (pLo (V h l / y) y) + V 0 (V h l % y) = V h l := by
    rw [p_V]
    have : V 0 (V h l % y) = V h l % y := by show (0 : Int) * _ + _ = _; omega
    rw [this]; omega
  have hf : fits (pHi (V h l / y) y) (pLo (V h l / y) y) 0 (V h l % y) = true := by
    rw [fits_iff hp hr, hv]
    obtain ⟨a0, a1, a2, a3⟩ := hn
    unfold V; omega
  have hs := s_V hp hr hf
  rw [hv] at hs
  exact ⟨hf, (V_eq (s_num _ _ _ _) hn).1 hs⟩
/-- The share's part: it is not above, and one more is. -/
theorem share_law {n p y : Int} (n0 : 0 ≤ n) (n1 : n < 18446744073709551616) (p0 : 0 ≤ p) (p1 : p < 18446744073709551616) (y1 : y < 18446744073709551616) (hy : pHi n p < y) :
    let s := V (pHi n p) (pLo n p) / y
    ¬ V (pHi n p) (pLo n p) < V (pHi s y) (pLo s y) ∧ (fits (pHi s y) (pLo s y) 0 y = true → V (pHi n p) (pLo n p) < V (sHi (pHi s y) (pLo s y) 0 y) (sLo (pLo s y) y)) := by
  intro s
  have hn := p_num n p n0 n1 p0 p1
  obtain ⟨q0, q1, r0, r1, e⟩ := quot_bd hn hy
  have hp := p_num s y q0 q1 (by have := hn.h0; omega) y1
  refine ⟨by rw [p_V s y]; show ¬ _ < V (pHi n p) (pLo n p) / y * y; omega, fun hf => ?_⟩
  have hr : IsNum 0 y := ⟨by decide, by decide, by have := hn.h0; omega, y1⟩
  rw [s_V hp hr hf, p_V s y]
  have : V 0 y = y := by show (0 : Int) * _ + _ = _; omega
  rw [this]
  show _ < V (pHi n p) (pLo n p) / y * y + y
  omega
end Go.Proofs.Ytblbgafadadbmaa
end
section
/- A level's health, by both. -/
set_option linter.unusedVariables false
namespace Go.Proofs.Ytblbgafadadbmaa
open Go.RowKit
set_option maxHeartbeats 400000
theorem hI_none {h a f : Int} (hn : h < 1 ∨ a < 1 ∨ f < 1) : hI h a f = 0 := by unfold hI; rw [if_pos hn]
theorem load_Health (h a f : Int) (h1 : h ≤ 1048576) (a1 : a ≤ 1048576) (f1 : f ≤ 1048576) (w : World) :
    Calls Try.prog 75 #[.int .i64 h, .int .i64 a, .int .i64 f] w fun e w' => e = .returned (.int .i64 (hI h a f)) ∧ Below w.heap.size w w' := by
  by_cases hn : h < 1 ∨ a < 1 ∨ f < 1
  · rw [hI_none hn]
    by_cases c1 : h < 1
    all_goals
      by_cases c2 : a < 1
      all_goals
        first
          | (have d1 : decide (h < 1) = true := decide_eq_true (by omega))
          | (have d1 : decide (h < 1) = false := decide_eq_false (by omega); first | (have d2 : decide (a < 1) = true := decide_eq_true (by omega)) | (have d2 : decide (a < 1) = false := decide_eq_false (by omega); have d3 : decide (f < 1) = true := decide_eq_true (by omega)))
        clear hn c1 c2
        go_enter Try.func75, Try.ntmps75
        go_wp2
        go_ret
        exact ⟨rfl, Below.refl _ _⟩
  · have d1 : decide (h < 1) = false := decide_eq_false (by omega)
    have d2 : decide (a < 1) = false := decide_eq_false (by omega)
    have d3 : decide (f < 1) = false := decide_eq_false (by omega)
    have q := mul_bd (a := f * 100) (b := h) (A := 104857600) (B := 1048576) (by omega) (by omega) (by omega) h1
    have e1 : pHi (f * 100) h = 0 := by unfold pHi; omega
    have e2 : V (pHi (f * 100) h) (pLo (f * 100) h) = f * 100 * h := p_V _ _
    have e3 : divQ (pHi (f * 100) h) (pLo (f * 100) h) a = f * 100 * h / a := by unfold divQ; rw [if_pos (by omega), e2]
    have e4 : decide (pHi (f * 100) h < a) = true := decide_eq_true (by omega)
    have hb := div_bd (a := f * 100 * h) (e := a) q.1 (by omega)
    have A := fun w => wide_Share (f * 100) h a (by omega) (by omega) (by omega) (by omega) (by omega) (by omega) w
    rw [e3, e4] at A
    have hh : hI h a f = if 10000 < f * 100 * h / a then 10000 else f * 100 * h / a := by unfold hI; rw [if_neg hn]
    have HH := Lib.hid hh
    have h0 : 1 ≤ h := by omega
    have a0 : 1 ≤ a := by omega
    have f0 : 1 ≤ f := by omega
    have hq : f * 100 * h / a ≤ 109951162777600 := by omega
    clear e1 e2 e3 e4 hh hn q
    generalize f * 100 * h / a = R at *
    by_cases hR : 10000 < R
    all_goals
      go_enter Try.func75, Try.ntmps75
      go_wp2_with (go_at_call 90; refine (A _).mono ?_; rintro e w' ⟨rfl, hx⟩)
      go_ret
      exact ⟨by (rw [HH.out]; first | (rw [if_pos hR]; rfl) | (rw [if_neg hR]; rfl) | (rw [if_pos (by omega)]; rfl) | (rw [if_neg (by omega)]; rfl)), by assumption⟩
theorem load_least (a b : Int) (w : World) :
    Calls Try.prog 76 #[.int .i64 a, .int .i64 b] w fun e w' => e = .returned (.int .i64 (if b < a then b else a)) ∧ w = w' := by
  by_cases h : b < a
  · rw [if_pos h]
    go_enter Try.func76, Try.ntmps76
    go_wp2
    go_ret
    exact ⟨rfl, rfl⟩
  · rw [if_neg h]
    go_enter Try.func76, Try.ntmps76
    go_wp2
    go_ret
    exact ⟨rfl, rfl⟩
end Go.Proofs.Ytblbgafadadbmaa
end
section
/- Which counts may be, by both. -/
set_option linter.unusedVariables false
namespace Go.Proofs.Ytblbgafadadbmaa
open Go.RowKit
set_option maxHeartbeats 1000000
def rowOk (h a : Int) : Bool := decide (0 ≤ h ∧ h ≤ a ∧ a ≤ 1048576)
def rowsTo (H A : List Int) : Nat → Bool
  | 0 => true
  | k + 1 => rowsTo H A k && rowOk (H.getD k 0) (A.getD k 0)
/-- May counts be? -/
def lRight (H A : List Int) (f : Int) : Bool := decide (H.length = A.length ∧ H.length ≤ 4 ∧ 100 ≤ f ∧ f ≤ 1000) && rowsTo H A H.length
theorem rowsTo_at {H A : List Int} : ∀ {n k : Nat}, rowsTo H A n = true → k < n → rowOk (H.getD k 0) (A.getD k 0) = true
  | 0, _, _, h => by omega
  | n + 1, k, h, hk => by
    rw [rowsTo, Bool.and_eq_true] at h
    by_cases e : k = n
    · subst e; exact h.2
    · exact rowsTo_at h.1 (by omega)
theorem rowsTo_bad {H A : List Int} {k : Nat} (hb : rowOk (H.getD k 0) (A.getD k 0) = false) : ∀ {n : Nat}, k < n → rowsTo H A n = false
  | 0, h => by omega
  | n + 1, h => by
    rw [rowsTo]
    by_cases e : k = n
    · subst e; rw [hb]; simp
    · rw [rowsTo_bad hb (by omega)]; rfl
theorem lRight_of {H A : List Int} {f : Int} (h : H.length = A.length ∧ H.length ≤ 4 ∧ 100 ≤ f ∧ f ≤ 1000) : lRight H A f = rowsTo H A H.length := by unfold lRight; rw [decide_eq_true h]; rfl
theorem lRight_no {H A : List Int} {f : Int} (h : ¬ (H.length = A.length ∧ H.length ≤ 4 ∧ 100 ≤ f ∧ f ≤ 1000)) : lRight H A f = false := by unfold lRight; rw [decide_eq_false h]; rfl
theorem rowOk_f {h a : Int} (hn : ¬ (0 ≤ h ∧ h ≤ a ∧ a ≤ 1048576)) : rowOk h a = false := decide_eq_false hn
theorem rowOk_t {h a : Int} (hn : 0 ≤ h ∧ h ≤ a ∧ a ≤ 1048576) : rowOk h a = true := decide_eq_true hn
theorem load_Right (A1 A2 : Option Addr) (n1 n2 c1 c2 : Nat) (H A : List Int) (f : Int) (w : World) (hH : IsList w .i64 A1 n1 c1 H) (hA : IsList w .i64 A2 n2 c2 A) :
    Calls Try.prog 74 #[.slice A1 n1 c1, .slice A2 n2 c2, .int .i64 f] w fun e w' => e = .returned (.bool (lRight H A f)) ∧ ∃ d, w' = w.drewN d := by
  have L1 := hH.len
  have L2 := hA.len
  have hc1 := hH.cap
  have hc2 := hA.cap
  have hs1 := hH.small
  have hs2 := hA.small
  by_cases hok : n1 = n2 ∧ n1 ≤ 4 ∧ 100 ≤ f ∧ f ≤ 1000
  · obtain ⟨rfl, g1, g2, g3⟩ := hok
    rw [lRight_of (by rw [L1, L2]; exact ⟨rfl, g1, g2, g3⟩), L1]
    have d1 : (n1 != n1) = false := by simp
    have d2 : decide ((4 : Int) < (n1 : Int)) = false := decide_eq_false (by omega)
    have d3 : decide (f < 100) = false := decide_eq_false (by omega)
    have d4 : decide (1000 < f) = false := decide_eq_false (by omega)
    clear L1 L2
    go_enter Try.func74, Try.ntmps74
    go_wp2
    go_loopg [28] n1 (fun gk i wr => ∃ k : Nat, k ≤ n1 ∧ gk = n1 - k ∧ i = .int .i64 k ∧ rowsTo H A k = true ∧ ∃ d, wr = w.drewN d)
    case atStart => exact ⟨0, Nat.zero_le _, rfl, rfl, rfl, 0, rfl⟩
    case round =>
      obtain ⟨k, hk, rfl, rfl, hr, d, rfl⟩ := hrel
      by_cases hlt : k < n1
      · obtain ⟨ad, rfl, _, x0, _⟩ := hH.get hlt
        obtain ⟨ad2, rfl, _, y0, _⟩ := hA.get hlt
        have hst : rowsTo H A (k + 1) = rowOk (H.getD k 0) (A.getD k 0) := by rw [rowsTo, hr]; rfl
        have hbad := fun hb => rowsTo_bad (H := H) (A := A) (k := k) hb hlt
        have HST := Lib.hid hst
        have HB := Lib.hid hbad
        have HR := Lib.hid hr
        clear hst hbad hr
        generalize H.getD k 0 = h at *
        generalize A.getD k 0 = a at *
        have hki : (k : Int) < (n1 : Int) := by omega
        have hk0 : (0 : Int) ≤ (k : Int) := by omega
        by_cases b1 : h < 0
        · have HS := Lib.hid (HB.out (rowOk_f (by omega)))
          have e1 : decide (h < 0) = true := decide_eq_true b1
          clear b1
          go_wp2
          go_quiet (fail)
          go_wp2
          go_ret
          exact ⟨by rw [HS.out]; rfl, by first | exact ⟨_, rfl⟩ | exact ⟨_, World.drewN_drewN _ _ _⟩⟩
        · have e1 : decide (h < 0) = false := decide_eq_false b1
          by_cases b2 : a < h
          · have HS := Lib.hid (HB.out (rowOk_f (by omega)))
            have e2 : decide (a < h) = true := decide_eq_true b2
            clear b1 b2
            go_wp2
            go_quiet (fail)
            go_wp2
            go_ret
            exact ⟨by rw [HS.out]; rfl, by first | exact ⟨_, rfl⟩ | exact ⟨_, World.drewN_drewN _ _ _⟩⟩
          · have e2 : decide (a < h) = false := decide_eq_false b2
            by_cases b3 : 1048576 < a
            · have HS := Lib.hid (HB.out (rowOk_f (by omega)))
              have e3 : decide (1048576 < a) = true := decide_eq_true b3
              clear b1 b2 b3
              go_wp2
              go_quiet (fail)
              go_wp2
              go_ret
              exact ⟨by rw [HS.out]; rfl, by first | exact ⟨_, rfl⟩ | exact ⟨_, World.drewN_drewN _ _ _⟩⟩
            · have e3 : decide (1048576 < a) = false := decide_eq_false b3
              have HS := Lib.hid (HST.out.trans (rowOk_t (by omega)))
              clear b1 b2 b3
              go_wp2
              go_quiet (fail)
              go_wp2
              go_roundg (n1 - (k + 1))
              case measure => omega
              case rel => exact ⟨k + 1, by omega, rfl, by go_num, HS.out, _, rfl⟩
      · obtain rfl : k = n1 := by omega
        have HS := Lib.hid hr
        clear hr
        go_wp2
        go_ret
        exact ⟨by rw [HS.out]; rfl, by first | exact ⟨_, rfl⟩ | exact ⟨_, World.drewN_drewN _ _ _⟩⟩
  · rw [lRight_no (by rw [L1, L2]; exact hok)]
    clear L1 L2
    by_cases b1 : n1 = n2
    · subst b1
      have d1 : (n1 != n1) = false := by simp
      by_cases b2 : 4 < n1
      · have d2 : decide ((4 : Int) < (n1 : Int)) = true := decide_eq_true (by omega)
        clear hok
        go_enter Try.func74, Try.ntmps74
        go_wp2
        go_ret
        exact ⟨rfl, 0, rfl⟩
      · have d2 : decide ((4 : Int) < (n1 : Int)) = false := decide_eq_false (by omega)
        by_cases b3 : f < 100
        · have d3 : decide (f < 100) = true := decide_eq_true b3
          clear hok
          go_enter Try.func74, Try.ntmps74
          go_wp2
          go_ret
          exact ⟨rfl, 0, rfl⟩
        · have d3 : decide (f < 100) = false := decide_eq_false b3
          have d4 : decide (1000 < f) = true := decide_eq_true (by omega)
          clear hok
          go_enter Try.func74, Try.ntmps74
          go_wp2
          go_ret
          exact ⟨rfl, 0, rfl⟩
    · have d1 : (n1 != n2) = true := by simp [b1]
      have d1' : ((n1 : Int) != (n2 : Int)) = true := by simp; omega
      clear hok b1
      go_enter Try.func74, Try.ntmps74
      go_wp2
      go_ret
      exact ⟨rfl, 0, rfl⟩
end Go.Proofs.Ytblbgafadadbmaa
end
