/- Lemmas for the claim's proof: WalkD WalkE WalkPlain5 WalkL. -/
import Derived.Test.YtblbgafadadbmaaQ14
import Derived.Test.YtblbgafadadbmaaQ20
import Derived.Test.YtblbgafadadbmaaQ21
import Derived.Test.YtblbgafadadbmaaQ22
section
/- The law's step of a walk. -/
set_option linter.unusedVariables false
namespace Go.Proofs.Ytblbgafadadbmaa
open Go.RowKit
set_option maxHeartbeats 4000000
set_option maxRecDepth 100000
theorem best_no {L : Int → Int} {l : List Nd} {W : Nat → Int} {i k : Nat} {B : Int} (hB : B = bestTo L l W i k) (h : ¬ ((l.getD k nd0).above = (i : Int) ∧ W k ≠ 0 ∧ (B < 0 ∨ L (k : Int) * W B.toNat < L B * W k))) : bestTo L l W i (k + 1) = B := by
  subst hB; rw [bestTo, if_neg h]
theorem best_yes {L : Int → Int} {l : List Nd} {W : Nat → Int} {i k : Nat} {B : Int} (hB : B = bestTo L l W i k) (h : (l.getD k nd0).above = (i : Int) ∧ W k ≠ 0 ∧ (B < 0 ∨ L (k : Int) * W B.toNat < L B * W k)) : bestTo L l W i (k + 1) = k := by
  subst hB; rw [bestTo, if_pos h]
theorem best_bd (L : Int → Int) (l : List Nd) (W : Nat → Int) (i : Nat) : ∀ k, -1 ≤ bestTo L l W i k ∧ bestTo L l W i k < k
  | 0 => by rw [bestTo]; omega
  | k + 1 => by
    have := best_bd L l W i k
    rw [bestTo]
    split <;> omega
theorem cmp_neg (a b : Int) : decide (cmpI a b < 0) = decide (a < b) := by
  unfold cmpI
  by_cases h : a < b
  · rw [if_pos h, decide_eq_true h]; rfl
  · rw [if_neg h, decide_eq_false h]
    split <;> rfl
theorem drw_wraps (u k : Int) : IntKind.i64.wrap (mixOf u [k] / 281474976710656) = mixOf u [k] / 281474976710656 ∧ IntKind.i64.wrap (mixOf u [k] / 281474976710656 + 1) = drwI u k ∧
    ∀ w, Calls Try.prog 47 #[.int .i64 (drwI u k)] w fun e w' => e = .returned (.int .u64 (ofN (drwI u k))) ∧ w = w' := by
  have hm2 := mixOf_bd u [k]
  have hdb := drw_bd u k
  exact ⟨IntWalk.i64_in _ (by omega), IntWalk.i64_in _ (by omega), fun w => ref_LogOf (drwI u k) (by omega) (by omega) w⟩
theorem law26_step {A : Option Addr} {n c gr : Nat} {l : List Nd} {W : Nat → Int} {w : World} (h : IsNodes w A n c l) (hR : w.rowIs gr 24 n (fun j => .int .u64 (W j))) (hWb : ∀ k, k < n → 0 ≤ W k ∧ W k < 18446744073709551616) (hn1 : n ≤ 1024)
    (seed key : Int) (s0 : 0 ≤ seed) (s1 : seed < 18446744073709551616) (k0 : 0 ≤ key) (k1 : key < 18446744073709551616) (i : Nat) (hi : i < n) :
    Calls Try.prog 16 #[.slice A n c, .slice (some ⟨gr, 0, none⟩) n n, .int .u64 seed, .int .i64 i, .int .u64 key] w fun e w' => e = .returned (.int .i64 (bestTo (lenI (mixOf seed [key, (i : Int)])) l W i n)) ∧ Below w.heap.size w w' := by
  have hcap := h.cap
  have hsm := h.small
  have hlen := Lib.hid h.len
  have ki : IntKind.u64.wrap (i : Int) = i := by rw [IntKind.wrap_u64]; omega
  have A1 := fun (w' : World) => ref_Of seed _ 2 2 [key, (i : Int)] _ s0 s1 (two_list (Blk.new w' 24 _) ⟨k0, k1⟩ (show 0 ≤ (i : Int) ∧ (i : Int) < 18446744073709551616 by omega))
  have hmb := mixOf_bd seed [key, (i : Int)]
  have hx0 : Below w.heap.size w (w.alloc (.cells #[.int .u64 key, .int .u64 (i : Int)] 24)) := (Below.refl _ _).alloc (Nat.le_refl _) _
  go_enter Try.func16, Try.ntmps16
  go_wp2_with fail
  refine (A1 _).mono ?_; rintro e w' ⟨rfl, rfl⟩
  obtain ⟨u, hu⟩ : ∃ u, u = mixOf seed [key, (i : Int)] := ⟨_, rfl⟩
  rw [← hu] at hmb ⊢
  have HU := Lib.hid hu
  clear hu A1
  go_wp2_with fail
  generalize w.alloc (.cells #[.int .u64 key, .int .u64 (i : Int)] 24) = w1 at *
  go_loopg [12, 13, 14, 15] n (fun gk s12 s13 s14 s15 wr => ∃ (k : Nat) (lg : Int), k ≤ n ∧ gk = n - k ∧ s14 = .int .i64 k ∧ s12 = .int .i64 (bestTo (lenI u) l W i k) ∧ s13 = .int .u64 lg ∧ 0 ≤ lg ∧ lg < 18446744073709551616 ∧ Hid (0 ≤ bestTo (lenI u) l W i k → lg = lenI u (bestTo (lenI u) l W i k)) ∧ Below w.heap.size w wr)
  case atStart => exact ⟨0, 0, Nat.zero_le _, rfl, rfl, rfl, rfl, by omega, by omega, Lib.hid (fun h => absurd h (by rw [bestTo]; decide)), hx0⟩
  case round =>
    clear hx0
    obtain ⟨k, lg, hk, rfl, rfl, rfl, rfl, l0, l1, HL, hx⟩ := hrel
    have hbd := best_bd (lenI u) l W i k
    obtain ⟨B, hB⟩ : ∃ B, B = bestTo (lenI u) l W i k := ⟨_, rfl⟩
    rw [← hB] at hbd HL ⊢
    have HB := Lib.hid hB
    clear hB
    by_cases hlt : k < n
    · have hki : (k : Int) < (n : Int) := by omega
      obtain ⟨ad, rfl, hbk, d0, d1, d2, d3, d4, d5, d6⟩ := (h.keep hx).at_ hlt
      have hRk := row_keep hR hx
      have r0 := hRk.cell hlt
      have hWk := hWb k hlt
      obtain ⟨x, hxe⟩ : ∃ x, x = l.getD k nd0 := ⟨_, rfl⟩
      rw [← hxe] at d0 d1 d2 d3 d4 d5 d6
      have HX := Lib.hid hxe
      obtain ⟨y, hy⟩ : ∃ y, y = W k := ⟨_, rfl⟩
      rw [← hy] at r0 hWk
      have HY := Lib.hid hy
      clear hxe hy d0 d1 d3 d4 d5 d6
      by_cases ha : x.above = (i : Int)
      · have g1 : (x.above != (i : Int)) = false := by simp [ha]
        by_cases hz : y = 0
        · have g2 : (y == 0) = true := by simp [hz]
          have HS := Lib.hid (best_no HB.out (fun h => h.2.1 (by rw [← HY.out]; exact hz)))
          clear ha hz
          go_wp2
          go_roundg (n - (k + 1))
          case measure => omega
          case rel => exact ⟨k + 1, lg, by omega, rfl, by go_num, by rw [HS.out], rfl, l0, l1, by rw [HS.out]; exact HL, hx⟩
        · have g2 : (y == 0) = false := by simp [hz]
          have kk : IntKind.u64.wrap (k : Int) = k := by rw [IntKind.wrap_u64]; omega
          have A2 := fun (w' : World) => ref_Of u _ 1 1 [(k : Int)] _ hmb.1 hmb.2 (one_list w' 24 k (by omega) (by omega))
          obtain ⟨k2, k3, A0⟩ := drw_wraps u (k : Int)
          have hm2 := mixOf_bd u [(k : Int)]
          have hdb := drw_bd u k
          have hlb := len_bd u k
          have HLN := Lib.hid (show lenI u k = ofN (drwI u k) from rfl)
          have hxw := hx.alloc hx.size (.cells #[.int .u64 (k : Int)] 24)
          have HA := Lib.hid ha
          clear hRk ha
          go_wp2_with fail
          refine (A2 _).mono ?_; rintro e w' ⟨rfl, rfl⟩
          go_wp2_with fail
          refine (A0 _).mono ?_; rintro e w' ⟨rfl, rfl⟩
          rw [← HLN.out]
          obtain ⟨L, hL⟩ : ∃ L, L = lenI u k := ⟨_, rfl⟩
          rw [← hL] at hlb ⊢
          have HLL := Lib.hid hL
          clear hL A0 A2 k2 k3 hm2 hdb d2 r0 kk
          generalize wr.alloc (.cells #[.int .u64 (k : Int)] 24) = w3 at *
          have hR3 := row_keep hR hxw
          have r0 := hR3.cell hlt
          rw [← HY.out] at r0
          have U0 := cell_under r0
          by_cases hneg : B < 0
          · have g3 : decide (B < 0) = true := decide_eq_true hneg
            have HS := Lib.hid (best_yes HB.out ⟨by rw [← HX.out]; exact HA.out, by rw [← HY.out]; exact hz, .inl hneg⟩)
            clear hneg r0 hR3
            go_wp2_with fail
            refine wp_region_quiet_under (by kernel_rfl) (by kernel_rfl) ?_
            repeat (go_big_quiet_step ((fail)))
            refine wpQuiet_nil ?_
            intro wu hw'
            obtain ⟨pq, hw''⟩ := hw'
            have hU := below_eq hw''
            clear hw'' pq
            have hxu := below_step hxw hU
            clear hU U0 hxw hx
            go_wp2
            go_roundg (n - (k + 1))
            case measure => omega
            case rel => exact ⟨k + 1, L, by omega, rfl, by go_num, by rw [HS.out], rfl, by omega, by omega, by rw [HS.out]; exact Lib.hid (fun _ => HLL.out), hxu⟩
          · have g3 : decide (B < 0) = false := decide_eq_false hneg
            obtain ⟨b, rfl⟩ := Int.eq_ofNat_of_zero_le (show 0 ≤ B by omega)
            have r1 := hR3.cell (i := b) (by omega)
            have hWbb := hWb b (by omega)
            have hbn : (b : Int) < (n : Int) := by omega
            have HLB := Lib.hid (HL.out (by omega))
            obtain ⟨z, hz2⟩ : ∃ z, z = W b := ⟨_, rfl⟩
            rw [← hz2] at r1 hWbb
            have HZ := Lib.hid hz2
            have U1 := cell_under r1
            have N1 := p_num L z (by omega) (by omega) hWbb.1 hWbb.2
            have N2 := p_num lg y (by omega) (by omega) hWk.1 hWk.2
            obtain ⟨zb0, zb1⟩ := hWbb
            obtain ⟨yb0, yb1⟩ := hWk
            have C1 := fun w => wide_Cmp _ _ _ _ N1 N2 w
            rw [p_V, p_V] at C1
            have HC := cmp_neg (L * z) (lg * y)
            obtain ⟨C, hC⟩ : ∃ C, C = cmpI (L * z) (lg * y) := ⟨_, rfl⟩
            rw [← hC] at C1 HC
            have HCH := Lib.hid HC
            clear hC HC hz2 r0 r1 hR3 hneg N1 N2
            go_wp2_with fail
            refine wp_region_quiet_under (by kernel_rfl) (by kernel_rfl) ?_
            repeat (go_big_quiet_step ((first | (go_at_call 48; exact calls_under (wide_Mul _ _ (by omega) (by omega) (by omega) (by omega) _)) | (go_at_call 49; exact calls_under (C1 _)))))
            refine wpQuiet_nil ?_
            intro wu hw'
            obtain ⟨pq, hw''⟩ := hw'
            have hU := below_eq hw''
            clear hw'' pq
            have hxu := below_step hxw hU
            clear hU U0 U1 hxw hx C1
            by_cases hc : C < 0
            · have g4 : decide (C < 0) = true := decide_eq_true hc
              rw [g4] at HCH
              have HS := Lib.hid (best_yes HB.out ⟨by rw [← HX.out]; exact HA.out, by rw [← HY.out]; exact hz, .inr (by rw [Int.toNat_natCast, ← HZ.out, ← HY.out, ← HLL.out, ← HLB.out]; exact of_decide_eq_true HCH.out.symm)⟩)
              clear HCH
              go_wp2
              go_roundg (n - (k + 1))
              case measure => omega
              case rel => exact ⟨k + 1, L, by omega, rfl, by go_num, by rw [HS.out], rfl, by omega, by omega, by rw [HS.out]; exact Lib.hid (fun _ => HLL.out), hxu⟩
            · have g4 : decide (C < 0) = false := decide_eq_false hc
              rw [g4] at HCH
              have HS := Lib.hid (best_no HB.out (fun h => h.2.2.elim (fun h2 => by omega) (fun h2 => by
                rw [Int.toNat_natCast, ← HZ.out, ← HY.out, ← HLL.out, ← HLB.out] at h2
                exact absurd h2 (of_decide_eq_false HCH.out.symm))))
              clear HCH
              go_wp2
              go_roundg (n - (k + 1))
              case measure => omega
              case rel => exact ⟨k + 1, lg, by omega, rfl, by go_num, by rw [HS.out], rfl, l0, l1, by rw [HS.out]; exact HL, hxu⟩
      · have g1 : (x.above != (i : Int)) = true := by simp [ha]
        have HS := Lib.hid (best_no HB.out (fun h => ha (by rw [HX.out]; exact h.1)))
        clear ha
        go_wp2
        go_roundg (n - (k + 1))
        case measure => omega
        case rel => exact ⟨k + 1, lg, by omega, rfl, by go_num, by rw [HS.out], rfl, l0, l1, by rw [HS.out]; exact HL, hx⟩
    · obtain rfl : k = n := by omega
      go_wp2
      go_ret
      exact ⟨by rw [← HU.out, ← HB.out]; rfl, hx⟩
end Go.Proofs.Ytblbgafadadbmaa
end
section
/- The law's way down. -/
set_option linter.unusedVariables false
namespace Go.Proofs.Ytblbgafadadbmaa
open Go.RowKit
set_option maxHeartbeats 4000000
set_option maxRecDepth 100000
theorem best_step' (l : List Nd) (W : Nat → Int) (hW : ∀ k, k < l.length → 0 ≤ W k) (seed key : Int) (i : Nat) : bestTo (lenI (mixOf seed [key, (i : Int)])) l W i l.length = stepI l W seed key i := by
  have e1 : ∀ L k, k ≤ l.length → bestTo L l W i k = bestTo L l (fun j => if j < l.length then W j else 0) i k := fun L k => by
    induction k with
    | zero => intro _; rfl
    | succ k ih =>
      intro hk
      have hb := best_bd L l W i k
      have ih' := ih (by omega)
      rw [bestTo, bestTo, ← ih', if_pos (show k < l.length by omega)]
      by_cases hn : bestTo L l W i k < 0
      · simp [hn]
      · rw [if_pos (show (bestTo L l W i k).toNat < l.length by omega)]
  rw [e1 _ _ (Nat.le_refl _), best_step l _ (fun k => by
    by_cases h : k < l.length
    · rw [if_pos h]; exact hW k h
    · rw [if_neg h]; omega)]
  unfold stepI stepL
  have e2 : items (fun j => if j < l.length then W j else 0) (kidsN l i) = items W (kidsN l i) := by
    unfold items
    exact List.map_congr_left (fun k hk => by show ((k : Int), (if k < l.length then W k else 0)) = _; rw [if_pos (mem_kids.1 hk).1])
  rw [e2]
theorem node_kind_at {A : Option Addr} {n c : Nat} {l : List Nd} {w : World} (h : IsNodes w A n c l) {a : Nat} (ha : a < n) : ∃ ad, A = some ad ∧ w.cell? ⟨(ad.add (a * 7)).block, (ad.add (a * 7)).off + 1, none⟩ = some (.int .i64 (l.getD a nd0).kind) := by
  obtain ⟨ad, e, _, h2⟩ := h.at_ ha
  exact ⟨ad, e, h2.kind⟩
theorem law26_down {A : Option Addr} {n c gr : Nat} {l : List Nd} {W : Nat → Int} {w : World} (h : IsNodes w A n c l) (ht : Tall l) (hR : w.rowIs gr 24 n (fun j => .int .u64 (W j))) (hWb : ∀ k, k < n → 0 ≤ W k ∧ W k < 18446744073709551616) (hn1 : n ≤ 1024)
    (seed key : Int) (s0 : 0 ≤ seed) (s1 : seed < 18446744073709551616) (k0 : 0 ≤ key) (k1 : key < 18446744073709551616) (i : Nat) (hi : i < n) :
    Calls Try.prog 15 #[.slice A n c, .slice (some ⟨gr, 0, none⟩) n n, .int .u64 seed, .int .i64 i, .int .u64 key] w fun e w' =>
      ∃ A' c', e = .returned (.slice A' (wayI l W seed key i).length c') ∧ IsList w' .i64 A' (wayI l W seed key i).length c' (wayI l W seed key i) ∧ (∀ ad, A' = some ad → w.heap.size ≤ ad.block) ∧ Below w.heap.size w w' := by
  have hcap := h.cap
  have hsm := h.small
  have hlen := h.len
  subst hlen
  obtain ⟨R, hR0⟩ : ∃ R, R = wayI l W seed key i := ⟨_, rfl⟩
  have hRb := way_bd ht W seed key i hi
  have hRl := way_len l W seed key i
  rw [← hR0] at hRb hRl ⊢
  have HR := Lib.hid hR0
  have hWnn : ∀ k, k < l.length → 0 ≤ W k := fun k hk => (hWb k hk).1
  clear hR0
  obtain ⟨iI, hiI, hzI, hzI1, hzI2⟩ := info_parts Try.infoI
  go_enter Try.func15, Try.ntmps15
  go_wp2_with fail
  go_loopg [3, 11, 12] (4 - (l.getD i nd0).kind.toNat + 1) (fun gk s3 s11 s12 wr => ∃ (z : Int) (pre : List Int) (m : Nat), s3 = .int .i64 z ∧ s12 = .int .i64 m ∧ m ≤ 4 ∧ wr.ownsRow w.heap.size 3 1 s11 pre.length (ints pre) ∧ Below w.heap.size w wr ∧
    ((z = -1 ∧ gk = 0 ∧ Hid (R = [])) ∨ ∃ a : Nat, z = a ∧ gk = 4 - (l.getD a nd0).kind.toNat + 1 ∧ a < l.length ∧ m + 1 ≤ (l.getD a nd0).kind.toNat ∧ pre.length = m ∧ Hid (R = joinW pre (wayI l W seed key a))))
  case atStart => exact ⟨i, [], 0, rfl, rfl, by omega, World.ownsRow_nil _ _ _ _, Below.refl _ _, .inr ⟨i, rfl, rfl, hi, by have := (tall_head ht i hi).kind0; omega, rfl, Lib.hid (by rw [joinW_start]; exact HR.out)⟩⟩
  case round =>
    obtain ⟨z, pre, m, rfl, rfl, hm4, hown, hx, ⟨rfl, rfl, HE⟩ | ⟨a, rfl, rfl, hal, hmk, hpm, HJ⟩⟩ := hrel
    · have HL := Lib.hid (show R.length = 0 by rw [HE.out]; rfl)
      clear hown hRb hRl
      by_cases hm : m < 4
      · have g0 : decide ((m : Int) < 4) = true := decide_eq_true (by omega)
        go_wp2
        go_ret
        exact ⟨none, 0, by rw [HL.out]; rfl, by rw [HE.out]; exact isList_nil _ _, fun ad h => (by cases h), hx⟩
      · have g0 : decide ((m : Int) < 4) = false := decide_eq_false (by omega)
        go_wp2
        go_ret
        exact ⟨none, 0, by rw [HL.out]; rfl, by rw [HE.out]; exact isList_nil _ _, fun ad h => (by cases h), hx⟩
    have hd := tall_head ht a hal
    obtain ⟨hd0, hd1⟩ := And.intro hd.kind0 hd.kind1
    have hSt := fun (w : World) (h : IsNodes w A l.length c l) (hR : w.rowIs gr 24 l.length (fun j => .int .u64 (W j))) => law26_step h hR hWb hn1 seed key s0 s1 k0 k1 a hal
    obtain ⟨ad, rfl, hbk, d0, d1, d2, d3, d4, d5, d6⟩ := (h.keep hx).at_ hal
    obtain ⟨x, hxe⟩ : ∃ x, x = l.getD a nd0 := ⟨_, rfl⟩
    rw [← hxe] at d0 d1 d2 d3 d4 d5 d6 hd0 hd1 hmk
    have HX := Lib.hid hxe
    have g0 : decide ((m : Int) < 4) = true := decide_eq_true (by omega)
    have g1 : decide (0 ≤ (a : Int)) = true := decide_eq_true (by omega)
    have hai : (a : Int) < (l.length : Int) := by omega
    clear hd hxe d0 d2 d3 d4 d5 d6
    by_cases h4 : x.kind = 4
    · have g2 : (x.kind == 4) = true := by rw [beq_iff_eq]; exact h4
      have HE := Lib.hid (show R = pre ++ [(a : Int)] by rw [HJ.out, way_host (by rw [← HX.out]; exact h4)]; rfl)
      clear h4 HJ hSt
      go_wp2_with (at_builtin; go_loud (refine wpList_append_any _ rfl (.tmp 21) (.tmp 23) _ rfl w.heap.size 3 iI _ 1 8 Try.underlying23 hiI hzI hzI1 hzI2 rfl (by decide) _ pre.length (ints pre) rfl (hown.alloc _) _ (some ⟨wr.heap.size, 0, none⟩) 1 1 [.int .i64 a] rfl (one_reads wr 3 1 [.int .i64 a] rfl) (by intro u hu; simp at hu; subst hu; rfl) (by simp only [maxLen]; omega) (by omega) (by have := hx.size; simp; omega) ?_; intro v6 w6 hown6 hg6 hat6; have hx6 := push_below (hx.alloc hx.size _) hg6 (own_from hown); obtain ⟨ad', e', e1⟩ := node_kind_at (h.keep hx6) hal; obtain rfl : ad' = ad := (by injection e' with e'; exact e'.symm); rw [← HX.out] at e1; clear d1))
      have hRl2 : R.length = pre.length + 1 := by rw [HE.out]; simp
      have hown7 : w6.ownsRow w.heap.size 3 1 v6 R.length (ints R) := by rw [hRl2, HE.out]; simpa [ints] using hown6
      obtain ⟨AR, cR, rfl, hIR, hfr⟩ := own_list hown7 (fun z hz => by
        have := hRb z hz
        simp [Lit.wf, IntKind.min, IntKind.max, IntKind.signed, IntKind.bits]
        omega) (by omega)
      clear hown6 hown7 hat6 hg6 hRl2
      go_wp2
      go_ret
      exact ⟨AR, cR, rfl, hIR, hfr, hx6⟩
    · have g2 : (x.kind == 4) = false := by rw [beq_eq_false_iff_ne]; exact h4
      have H4 := Lib.hid h4
      clear h4
      go_wp2_with (at_builtin; go_loud (refine wpList_append_any _ rfl (.tmp 21) (.tmp 23) _ rfl w.heap.size 3 iI _ 1 8 Try.underlying23 hiI hzI hzI1 hzI2 rfl (by decide) _ pre.length (ints pre) rfl (hown.alloc _) _ (some ⟨wr.heap.size, 0, none⟩) 1 1 [.int .i64 a] rfl (one_reads wr 3 1 [.int .i64 a] rfl) (by intro u hu; simp at hu; subst hu; rfl) (by simp only [maxLen]; omega) (by omega) (by have := hx.size; simp; omega) ?_; intro v6 w6 hown6 hg6 hat6; have hx6 := push_below (hx.alloc hx.size _) hg6 (own_from hown); obtain ⟨ad', e', e1⟩ := node_kind_at (h.keep hx6) hal; obtain rfl : ad' = ad := (by injection e' with e'; exact e'.symm); rw [← HX.out] at e1; clear d1))
      have hown7 : w6.ownsRow w.heap.size 3 1 v6 (pre ++ [(a : Int)]).length (ints (pre ++ [(a : Int)])) := by rw [List.length_append]; simpa [ints] using hown6
      clear hown6 hat6 hg6 hown e1
      have hSt6 := hSt w6 (h.keep hx6) (row_keep hR hx6)
      rw [best_step' l W hWnn seed key a] at hSt6
      go_wp2_with fail
      refine hSt6.mono ?_; rintro e w7 ⟨rfl, hx7⟩
      have hx8 := below_step hx6 hx7
      have hown8 := own_keep hown7 hx7
      clear hSt hSt6 hx6 hx7 hown7 hx
      by_cases hs : 0 ≤ stepI l W seed key a
      · obtain ⟨b, hb, hbl, hba, hb0⟩ := stepI_in hs
        have hsk := step_kind ht hb
        have HJ2 := Lib.hid (show R = joinW (pre ++ [(a : Int)]) (wayI l W seed key b) by rw [← joinW_one, ← way_step ht hal (by rw [← HX.out]; exact H4.out) hb]; exact HJ.out)
        rw [hb]
        rw [← HX.out] at hsk
        have hsk2 := hsk.2.1
        have hkd := (tall_head ht b hbl).kind1
        obtain ⟨y, hy⟩ : ∃ y, y = (l.getD b nd0).kind := ⟨_, rfl⟩
        rw [← hy] at hsk2 hkd
        have HY := Lib.hid hy
        clear hs hsk HJ hy hb
        go_wp2
        go_roundg (4 - y.toNat + 1)
        case measure => (rw [← HX.out]; omega)
        case rel => exact ⟨b, pre ++ [(a : Int)], m + 1, rfl, by go_num, by omega, hown8, hx8, .inr ⟨b, rfl, by rw [HY.out], hbl, by rw [← HY.out]; omega, by rw [List.length_append]; simp; omega, HJ2⟩⟩
      · have HE := Lib.hid (show R = [] by rw [HJ.out, way_none (by rw [← HX.out]; exact H4.out) hs]; rfl)
        have hsn := stepI_neg hs
        rw [hsn]
        have hRl2 : R.length = 0 := by rw [HE.out]; rfl
        clear hs hsn HJ hRb hRl hRl2
        go_wp2
        go_roundg 0
        case measure => omega
        case rel => exact ⟨-1, pre ++ [(a : Int)], m + 1, rfl, by go_num, by omega, hown8, hx8, .inl ⟨rfl, rfl, HE⟩⟩
end Go.Proofs.Ytblbgafadadbmaa
end
section
/- The law's counts of hosts of levels, in plain Lean. -/
set_option linter.unusedVariables false
namespace Go.Proofs.Ytblbgafadadbmaa
open Go.RowKit
def lawAll (l : List Nd) (k t : Nat) : Int := (((List.range k).countP fun i => (l.getD i nd0).kind == 4 && lev l i == (t : Int) : Nat) : Int)
def lawHave (l : List Nd) (W : Nat → Int) (k t : Nat) : Int := (((List.range k).countP fun i => ((l.getD i nd0).kind == 4 && lev l i == (t : Int)) && decide (0 < W i) : Nat) : Int)
theorem lawAll_step (l : List Nd) (k t : Nat) : lawAll l (k + 1) t = lawAll l k t + if (l.getD k nd0).kind = 4 ∧ lev l k = (t : Int) then 1 else 0 := by
  unfold lawAll
  rw [List.range_succ, List.countP_append, List.countP_singleton]
  by_cases h : (l.getD k nd0).kind = 4 ∧ lev l k = (t : Int)
  · rw [if_pos h, if_pos (by rw [h.1, h.2]; simp)]; omega
  · rw [if_neg h, if_neg (by rw [Bool.and_eq_true, beq_iff_eq, beq_iff_eq]; exact h)]; omega
theorem lawHave_step (l : List Nd) (W : Nat → Int) (k t : Nat) : lawHave l W (k + 1) t = lawHave l W k t + if ((l.getD k nd0).kind = 4 ∧ lev l k = (t : Int)) ∧ 0 < W k then 1 else 0 := by
  unfold lawHave
  rw [List.range_succ, List.countP_append, List.countP_singleton]
  by_cases h : ((l.getD k nd0).kind = 4 ∧ lev l k = (t : Int)) ∧ 0 < W k
  · rw [if_pos h, if_pos (by rw [h.1.1, h.1.2, decide_eq_true h.2]; simp)]; omega
  · rw [if_neg h, if_neg (by rw [Bool.and_eq_true, Bool.and_eq_true, beq_iff_eq, beq_iff_eq, decide_eq_true_eq]; exact h)]; omega
theorem lawAll_bd (l : List Nd) (k t : Nat) : 0 ≤ lawAll l k t ∧ lawAll l k t ≤ k := by
  unfold lawAll
  have := List.countP_le_length (p := fun i => (l.getD i nd0).kind == 4 && lev l i == (t : Int)) (l := List.range k)
  rw [List.length_range] at this
  omega
theorem lawHave_bd (l : List Nd) (W : Nat → Int) (k t : Nat) : 0 ≤ lawHave l W k t ∧ lawHave l W k t ≤ k := by
  unfold lawHave
  have := List.countP_le_length (p := fun i => ((l.getD i nd0).kind == 4 && lev l i == (t : Int)) && decide (0 < W i)) (l := List.range k)
  rw [List.length_range] at this
  omega
theorem lawAll_all (l : List Nd) (t : Nat) : lawAll l l.length t = allTo l (hoN l) t := by
  unfold lawAll allTo hoN
  rw [List.take_length]
  congr 1
  unfold idx
  rw [List.countP_map, List.countP_filter]
  apply List.countP_congr
  intro k hk
  simp only [Function.comp_apply]
  rw [Bool.and_comm]
  exact Iff.rfl
theorem lawHave_all {l : List Nd} (ht : Tall l) (hosts : List Int) (hl : l.length ≤ 1024) (t : Nat) : lawHave l (wt l hosts) l.length t = haveTo l (hs l hosts) (hoN l) t := by
  unfold lawHave haveTo hoN
  rw [List.take_length]
  congr 1
  unfold idx
  rw [List.countP_map, List.countP_filter]
  apply List.countP_congr
  intro k hk
  rw [List.mem_range] at hk
  simp only [Function.comp_apply, Int.toNat_natCast]
  have e : decide (0 < wt l hosts k) = hs l hosts k := by
    cases h : hs l hosts k with
    | true => exact decide_eq_true ((wt_iff ht hosts hl hk).2 h)
    | false => exact decide_eq_false (fun h2 => by rw [(wt_iff ht hosts hl hk).1 h2] at h; cases h)
  rw [e]
  unfold isK
  cases (l.getD k nd0).kind == 4 <;> cases lev l k == (t : Int) <;> cases hs l hosts k <;> simp
theorem idx_nodup (p : Nd → Bool) (l : List Nd) : (idx p l).Nodup := by
  unfold idx
  exact List.Pairwise.map _ (fun a b (h : a ≠ b) => by show ((a : Nat) : Int) ≠ (b : Nat); omega) (List.Pairwise.filter _ List.nodup_range)
/-- The level of a host by its number in the list of levels. -/
theorem lev_at {l : List Nd} (ht : Tall l) {i j : Nat} (hi : i < l.length) (hj : j < lvN l) : (idx (isK 1) l).getD j 0 = up l 1 i ↔ lev l i = j := by
  obtain ⟨i', h1, h2, h3, h4, h5⟩ := lev_host ht hi
  have hp : isK 1 (l.getD i' nd0) = true := by unfold isK; rw [h3]; rfl
  have hat := (selTo_at (p := fun k => isK 1 (l.getD k nd0)) h2 hp).2
  rw [← idx_sel] at hat
  rw [h1, h4]
  constructor
  · intro h
    have e : (idx (isK 1) l)[j]'hj = (idx (isK 1) l)[(selTo (fun k => isK 1 (l.getD k nd0)) i').length]'h5 := by
      rw [List.getD_eq_getElem?_getD, List.getElem?_eq_getElem hj] at h
      rw [List.getD_eq_getElem?_getD, List.getElem?_eq_getElem h5] at hat
      exact h.trans hat.symm
    have hnd := List.pairwise_iff_getElem.1 (idx_nodup (isK 1) l)
    rcases Nat.lt_trichotomy j (selTo (fun k => isK 1 (l.getD k nd0)) i').length with h6 | h6 | h6
    · exact absurd e (hnd _ _ hj h5 h6)
    · omega
    · exact absurd e.symm (hnd _ _ h5 hj h6)
  · intro h
    have : j = (selTo (fun k => isK 1 (l.getD k nd0)) i').length := by omega
    rw [this]; exact hat
/-- The level above a host. -/
theorem up_host {l : List Nd} (ht : Tall l) {i : Nat} (hi : i < l.length) (h4 : (l.getD i nd0).kind = 4) :
    ∃ a b : Nat, (l.getD i nd0).above = a ∧ a < l.length ∧ (l.getD a nd0).above = b ∧ b < l.length ∧ up l 1 i = (l.getD b nd0).above := by
  have hr := tall_rises ht
  have hb1 := tall_below ht i hi (by omega)
  obtain ⟨a, ha⟩ : ∃ a : Nat, (l.getD i nd0).above = a := ⟨_, (Int.toNat_of_nonneg hb1.1).symm⟩
  rw [ha, ndAt_nat] at hb1
  have hal : a < l.length := by omega
  have hb2 := tall_below ht a hal (by omega)
  obtain ⟨b, hb⟩ : ∃ b : Nat, (l.getD a nd0).above = b := ⟨_, (Int.toNat_of_nonneg hb2.1).symm⟩
  rw [hb, ndAt_nat] at hb2
  have hbl : b < l.length := by omega
  have hb3 := tall_below ht b hbl (by omega)
  obtain ⟨c, hc⟩ : ∃ c : Nat, (l.getD b nd0).above = c := ⟨_, (Int.toNat_of_nonneg hb3.1).symm⟩
  rw [hc, ndAt_nat] at hb3
  refine ⟨a, b, ha, hal, hb, hbl, ?_⟩
  rw [up_step l hr 1 i (by omega) (by omega) (by rw [ndAt_nat]; omega), ndAt_nat, ha, up_step l hr 1 a (by omega) (by omega) (by rw [ndAt_nat]; omega), ndAt_nat, hb, up_step l hr 1 b (by omega) (by omega) (by rw [ndAt_nat]; omega), ndAt_nat, hc]
  exact up_hit l 1 c (by omega) (by omega) (by rw [ndAt_nat]; omega)
end Go.Proofs.Ytblbgafadadbmaa
end
section
/- The law's levels, loads and awake. -/
set_option linter.unusedVariables false
namespace Go.Proofs.Ytblbgafadadbmaa
open Go.RowKit
set_option maxHeartbeats 4000000
set_option maxRecDepth 100000
theorem lvTake_step (l : List Nd) (k : Nat) (hk : k < l.length) : idx (isK 1) (l.take (k + 1)) = idx (isK 1) (l.take k) ++ if (l.getD k nd0).kind = 1 then [(k : Int)] else [] := by
  rw [idx_take (isK 1) l k hk]
  congr 1
  unfold isK
  by_cases h : (l.getD k nd0).kind = 1
  · rw [if_pos h, if_pos (by rw [h]; rfl)]
  · rw [if_neg h, if_neg (by rw [beq_iff_eq]; exact h)]
theorem law26_levels {A : Option Addr} {n c : Nat} {l : List Nd} {w : World} (h : IsNodes w A n c l) (hn : n ≤ 1024) : Calls Try.prog 21 #[.slice A n c] w fun e w' =>
    ∃ A' c', e = .returned (.slice A' (lvN l) c') ∧ IsList w' .i64 A' (lvN l) c' (idx (isK 1) l) ∧ (∀ ad, A' = some ad → w.heap.size ≤ ad.block) ∧ Below w.heap.size w w' := by
  have hcap := h.cap
  have hsm := h.small
  have hlen := h.len
  subst hlen
  obtain ⟨iI, hiI, hzI, hzI1, hzI2⟩ := info_parts Try.infoI
  go_enter Try.func21, Try.ntmps21
  go_wp2_with fail
  go_loopg [3, 4] l.length (fun gk s3 s4 wr => ∃ (k : Nat) (out : List Int), k ≤ l.length ∧ gk = l.length - k ∧ s4 = .int .i64 k ∧ wr.ownsRow w.heap.size 3 1 s3 out.length (ints out) ∧ Below w.heap.size w wr ∧ Hid (out = idx (isK 1) (l.take k)))
  case atStart => exact ⟨0, [], Nat.zero_le _, rfl, rfl, World.ownsRow_nil _ _ _ _, Below.refl _ _, Lib.hid rfl⟩
  case round =>
    obtain ⟨k, out, hk, rfl, rfl, hown, hx, HO⟩ := hrel
    have hol : out.length ≤ k := by
      rw [HO.out]
      refine Nat.le_trans (idx_le _ _) ?_
      rw [List.length_take]; omega
    by_cases hlt : k < l.length
    · have hki : (k : Int) < (l.length : Int) := by omega
      have HST := Lib.hid (lvTake_step l k hlt)
      obtain ⟨ad, rfl, hbk, d0, d1, d2, d3, d4, d5, d6⟩ := (h.keep hx).at_ hlt
      generalize l.getD k nd0 = x at *
      clear d0 d2 d3 d4 d5 d6
      by_cases h1 : x.kind = 1
      · have g1 : (x.kind == 1) = true := by rw [beq_iff_eq]; exact h1
        have HE := Lib.hid (show out ++ [(k : Int)] = idx (isK 1) (l.take (k + 1)) by rw [HST.out, if_pos h1, HO.out])
        clear h1 HST HO
        go_wp2_with (at_builtin; go_loud (refine wpList_append_any _ rfl (.tmp 17) (.tmp 19) _ rfl w.heap.size 3 iI _ 1 8 Try.underlying23 hiI hzI hzI1 hzI2 rfl (by decide) _ out.length (ints out) rfl (hown.alloc _) _ (some ⟨wr.heap.size, 0, none⟩) 1 1 [.int .i64 k] rfl (one_reads wr 3 1 [.int .i64 k] rfl) (by intro u hu; simp at hu; subst hu; rfl) (by simp only [maxLen]; omega) (by omega) (by have := hx.size; simp; omega) ?_; intro v6 w6 hown6 hg6 hat6))
        have hx6 := push_below (hx.alloc hx.size _) hg6 (own_from hown)
        go_wp2
        go_roundg (l.length - (k + 1))
        case measure => omega
        case rel => exact ⟨k + 1, out ++ [(k : Int)], by omega, rfl, by go_num, by simpa [ints] using hown6, hx6, HE⟩
      · have g1 : (x.kind == 1) = false := by rw [beq_eq_false_iff_ne]; exact h1
        have HE := Lib.hid (show out = idx (isK 1) (l.take (k + 1)) by rw [HST.out, if_neg h1, HO.out, List.append_nil])
        clear h1 HST HO
        go_wp2
        go_roundg (l.length - (k + 1))
        case measure => omega
        case rel => exact ⟨k + 1, out, by omega, rfl, by go_num, hown, hx, HE⟩
    · obtain rfl : k = l.length := by omega
      have HE := Lib.hid (show out = idx (isK 1) l by rw [HO.out, List.take_length])
      have hlv := Lib.hid (show out.length = lvN l by rw [HE.out]; rfl)
      obtain ⟨AR, cR, rfl, hIR, hfr⟩ := own_list hown (fun z hz => by
        rw [HE.out] at hz
        exact idx_wf _ _ hn z hz) (by omega)
      clear hown HO hlt
      rw [HE.out] at hIR
      go_wp2
      go_ret
      have e1 := hlv.out
      rw [HE.out] at e1
      exact ⟨AR, cR, by rw [HE.out, e1]; rfl, by rw [← e1]; exact hIR, hfr, hx⟩
theorem walkl_list {w : World} {g : Nat} {T : TypeId} {a b c : Int} (h : Blk w g T #[.int .i64 a, .int .i64 b, .int .i64 c]) (hw : ∀ z ∈ [a, b, c], (Lit.int .i64 z).wf = true) : IsList w .i64 (some ⟨g, 0, none⟩) 3 3 [a, b, c] := isList_blk h [a, b, c] rfl hw (by simp)
theorem law26_awake (w : World) : Calls Try.prog 14 #[] w fun e w' => e = .returned (.bool true) ∧ Below w.heap.size w w' := by
  have P := (Blk.new w 3 #[.int .i64 0, .int .i64 1, .int .i64 2]).alloc (.cells #[.int .i64 0, .int .i64 1, .int .i64 5] 3)
  have Q := Blk.new (w.alloc (.cells #[.int .i64 0, .int .i64 1, .int .i64 2] 3)) 3 #[.int .i64 0, .int .i64 1, .int .i64 5]
  have hz : (w.alloc (.cells #[.int .i64 0, .int .i64 1, .int .i64 2] 3)).heap.size = w.heap.size + 1 := by simp
  rw [hz] at Q
  have hx : Below w.heap.size w ((w.alloc (.cells #[.int .i64 0, .int .i64 1, .int .i64 2] 3)).alloc (.cells #[.int .i64 0, .int .i64 1, .int .i64 5] 3)) := ((Below.refl _ _).alloc (Nat.le_refl _) _).alloc (by simp) _
  have hS := walk_Split (walkl_list P (by decide)) (walkl_list Q (by decide))
  have hsp : splitF [0, 1, 2] [0, 1, 5] = 2 := by decide
  rw [hsp] at hS
  clear hz hsp P Q
  go_enter Try.func14, Try.ntmps14
  go_wp2_with fail
  generalize (w.alloc (.cells #[.int .i64 0, .int .i64 1, .int .i64 2] 3)).alloc (.cells #[.int .i64 0, .int .i64 1, .int .i64 5] 3) = w2 at *
  refine hS.mono ?_; rintro e w3 ⟨rfl, hx3⟩
  go_wp2_with fail
  refine (walk_HostNil _ _ _ _).mono ?_; rintro e w' ⟨rfl, rfl⟩
  go_wp2
  go_ret
  exact ⟨rfl, below_step hx hx3⟩
end Go.Proofs.Ytblbgafadadbmaa
end
