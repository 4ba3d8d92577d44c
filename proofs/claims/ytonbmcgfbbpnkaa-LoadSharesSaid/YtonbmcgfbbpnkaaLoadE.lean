/- LoadShares. -/
import Derived.Test.YtonbmcgfbbpnkaaLoadPlain2
import Derived.Test.YtonbmcgfbbpnkaaLoadD
set_option linter.unusedVariables false
namespace Go.Proofs.Ytonbmcgfbbpnkaa
open Go.RowKit
set_option maxHeartbeats 4000000
set_option maxRecDepth 100000
theorem loadShares_no (w : World) (A1 A2 : Option Addr) (n1 n2 c1 c2 : Nat) (H A : List Int) (f : Int) (hHl : IsList w .i64 A1 n1 c1 H) (hAl : IsList w .i64 A2 n2 c2 A) (h : lRight H A f = false) :
    Calls Try.prog 26 #[.slice A1 n1 c1, .slice A2 n2 c2, .int .i64 f] w fun e w' => e = .returned (.bool true) ∧ Below w.heap.size w w' := by
  go_enter Try.func26, Try.ntmps26
  go_wp2_with fail
  refine (load_Of_no A1 A2 n1 n2 c1 c2 H A f _ hHl hAl h).mono ?_; rintro e w1 ⟨rfl, hW⟩
  have hH1 := hHl.keep hW
  have hA1 := hAl.keep hW
  go_wp2_with fail
  refine (load_Right A1 A2 n1 n2 c1 c2 H A f _ hH1 hA1).mono ?_; rintro e w' ⟨rfl, d, rfl⟩
  go_wp2_with fail
  refine (law24_right A1 A2 n1 n2 c1 c2 H A f _ (hH1.keep (below_drewN (Below.refl _ _) d)) (hA1.keep (below_drewN (Below.refl _ _) d))).mono ?_; rintro e w' ⟨rfl, d2, rfl⟩
  rw [h]
  have hH2 := hH1.keep (below_drewN (below_drewN (Below.refl _ _) d) d2)
  have hA2 := hA1.keep (below_drewN (below_drewN (Below.refl _ _) d) d2)
  have hW2 := below_drewN (below_drewN hW d) d2
  generalize (w1.drewN d).drewN d2 = w2 at *
  clear hH1 hA1 hW
  go_wp2_with fail
  refine (law24_right A1 A2 n1 n2 c1 c2 H A f _ hH2 hA2).mono ?_; rintro e w' ⟨rfl, d3, rfl⟩
  rw [h]
  go_wp2_with fail
  refine (law24_awake _).mono ?_; rintro e w3 ⟨rfl, hx⟩
  go_wp2
  go_ret
  exact ⟨rfl, below_step (below_drewN hW2 d3) hx⟩
theorem ofI_of {H A : List Int} {f : Int} {n m : Nat} (hm : m < n) : ((m : Int) = someTo H n → ofI H A f n m = got (hH H A f) (tot H A f n) m + leftTo (hH H A f) (tot H A f n) n) ∧ (¬ (m : Int) = someTo H n → ofI H A f n m = got (hH H A f) (tot H A f n) m) := by
  unfold ofI
  rw [someTo_at H hm]
  constructor
  · intro h
    have : ((m : Int) == someTo H n) = true := by simp [h]
    rw [this]; rfl
  · intro h
    have : ((m : Int) == someTo H n) = false := by simp [h]
    rw [this]; simp
theorem loadShares_yes (w : World) (A1 A2 : Option Addr) (n c1 c2 : Nat) (H A : List Int) (f : Int) (hHl : IsList w .i64 A1 n c1 H) (hAl : IsList w .i64 A2 n c2 A) (h : lRight H A f = true) :
    Calls Try.prog 26 #[.slice A1 n c1, .slice A2 n c2, .int .i64 f] w fun e w' => e = .returned (.bool true) ∧ Below w.heap.size w w' := by
  have hc1 := hHl.cap
  have hc2 := hAl.cap
  have hs1 := hHl.small
  have hs2 := hAl.small
  have hrt := load_Of.rowsTo_of h
  rw [hHl.len] at hrt
  obtain ⟨hn4, hf1, hf2, hrows⟩ := hrt
  have HROWS := Lib.hid hrows
  clear hrows
  have hmk := run_make_row' (P := Try.prog) 126 3 (.int .i64 0) 8 Try.underlying126 Try.infoInt rfl .i64 .i64 n (by omega) (by omega)
  go_enter Try.func26, Try.ntmps26
  go_wp2_with fail
  refine (load_Of A1 A2 n c1 c2 H A f _ hHl hAl h).mono ?_; rintro e w1 ⟨g, rfl, hgB, hg, hW⟩
  have hH1 := hHl.keep hW
  have hA1 := hAl.keep hW
  go_wp2_with fail
  refine (load_Right A1 A2 n n c1 c2 H A f _ hH1 hA1).mono ?_; rintro e w' ⟨rfl, d, rfl⟩
  go_wp2_with fail
  refine (law24_right A1 A2 n n c1 c2 H A f _ (hH1.keep (below_drewN (Below.refl _ _) d)) (hA1.keep (below_drewN (Below.refl _ _) d))).mono ?_; rintro e w' ⟨rfl, d2, rfl⟩
  have hH2 := hH1.keep (below_drewN (below_drewN (Below.refl _ _) d) d2)
  have hA2 := hA1.keep (below_drewN (below_drewN (Below.refl _ _) d) d2)
  have hg2 := row_drewN (row_drewN hg d) d2
  have hW2 := below_drewN (below_drewN hW d) d2
  generalize (w1.drewN d).drewN d2 = w2 at *
  clear hH1 hA1 hW hg
  go_wp2_with fail
  refine (law24_right A1 A2 n n c1 c2 H A f _ hH2 hA2).mono ?_; rintro e w' ⟨rfl, d3, rfl⟩
  have hH3 := hH2.keep (below_drewN (Below.refl _ _) d3)
  have hA3 := hA2.keep (below_drewN (Below.refl _ _) d3)
  have hg3 := row_drewN hg2 d3
  have hW3 := below_drewN hW2 d3
  generalize w2.drewN d3 = w3 at *
  clear hH2 hA2 hW2 hg2
  rw [h]
  go_wp2_with fail
  go_loopg [8, 9, 10] n (fun gk s8 s9 i wr => ∃ k : Nat, k ≤ n ∧ gk = n - k ∧ i = .int .i64 k ∧ s8 = .int .i64 (hSum (hH H A f) k) ∧ s9 = .int .i64 (someTo H k) ∧ ∃ p, wr = under w3 p)
  case atStart => exact ⟨0, Nat.zero_le _, rfl, rfl, rfl, rfl, ⟨#[], w3.drawn⟩, by simp [under]⟩
  case round =>
    obtain ⟨k, hk, rfl, rfl, rfl, rfl, p, rfl⟩ := hrel
    have hsb := hSum_bd _ (hH_bd H A f) k
    have hst : hSum (hH H A f) (k + 1) = hSum (hH H A f) k + hI (H.getD k 0) (A.getD k 0) f := rfl
    have hso : someTo H (k + 1) = if 0 < H.getD k 0 ∧ someTo H k < 0 then (k : Int) else someTo H k := rfl
    have HST := Lib.hid hst
    have HSO := Lib.hid hso
    clear hst hso
    by_cases hlt : k < n
    · obtain ⟨r1, r2, r3⟩ := HROWS.out k hlt
      obtain ⟨ad, rfl, _, x0, _⟩ := hH3.get hlt
      obtain ⟨ad2, rfl, _, y0, _⟩ := hA3.get hlt
      have U0 := cell_under x0
      have U1 := cell_under y0
      have V0 := fun q => cell_under (cell_under x0 p) q
      have V1 := fun q => cell_under (cell_under y0 p) q
      have hib := hI_bd (H.getD k 0) (A.getD k 0) f
      have hki : (k : Int) < (n : Int) := by omega
      have hk0 : (0 : Int) ≤ (k : Int) := by omega
      have A0 := fun w => law_health (H.getD k 0) (A.getD k 0) f (by omega) r3 (by omega) w
      clear x0 y0 r1 r2 r3
      generalize hSum (hH H A f) k = S at *
      generalize someTo H k = T at *
      have k1 : IntKind.i64.wrap (S + hI (H.getD k 0) (A.getD k 0) f) = S + hI (H.getD k 0) (A.getD k 0) f := IntWalk.i64_in _ (by omega)
      generalize H.getD k 0 = x at *
      generalize A.getD k 0 = y at *
      go_wp2_with fail
      refine wp_region_quiet_under (by kernel_rfl) (by kernel_rfl) ?_
      repeat (go_big_quiet_step ((go_at_call 105; exact calls_under_same (A0 _))))
      refine wpQuiet_nil ?_
      intro wu hw'
      obtain ⟨pq, hw''⟩ := hw'
      subst hw''
      rw [under_under]
      clear V0 V1 A0 k1
      by_cases hx : 0 < x ∧ T < 0
      · obtain ⟨hx1, hx2⟩ := hx
        have HS := Lib.hid (HSO.out.trans (if_pos ⟨hx1, hx2⟩))
        clear HSO
        go_wp2
        go_roundg (n - (k + 1))
        case measure => omega
        case rel => exact ⟨k + 1, by omega, rfl, by go_num, by rw [HST.out], by rw [HS.out], _, rfl⟩
      · have HS := Lib.hid (HSO.out.trans (if_neg hx))
        clear HSO
        by_cases hx1 : 0 < x
        · have hx2 : decide (T < 0) = false := decide_eq_false (fun h => hx ⟨hx1, h⟩)
          clear hx
          go_wp2
          go_roundg (n - (k + 1))
          case measure => omega
          case rel => exact ⟨k + 1, by omega, rfl, by go_num, by rw [HST.out], by rw [HS.out], _, rfl⟩
        · have hx2 : decide (0 < x) = false := decide_eq_false hx1
          clear hx
          go_wp2
          go_roundg (n - (k + 1))
          case measure => omega
          case rel => exact ⟨k + 1, by omega, rfl, by go_num, by rw [HST.out], by rw [HS.out], _, rfl⟩
    · obtain rfl : k = n := by omega
      clear HST HSO hlt
      have hH4 := hH3.keep (under_below w3 p)
      have hA4 := hA3.keep (under_below w3 p)
      have hg4 := row_keep hg3 (under_below w3 p)
      have hW4 := below_step hW3 (under_below w3 p)
      generalize under w3 p = w4 at *
      clear hH3 hA3 hg3 hW3
      have HTOT := Lib.hid (show tot H A f k = if 10000 < hSum (hH H A f) k then 10000 else hSum (hH H A f) k from rfl)
      have htb := tot_bd H A f k
      generalize hSum (hH H A f) k = S at *
      obtain ⟨t, ht⟩ : ∃ t, t = tot H A f k := ⟨_, rfl⟩
      rw [← ht] at htb HTOT
      have HT := Lib.hid ht
      clear ht
      go_upto_if 78 with (fail)
      go_cut [8] (fun s wx => w4 = wx ∧ s = .int .i64 t)
      case first =>
        by_cases hS : 10000 < S
        · have HS := Lib.hid (HTOT.out.trans (if_pos hS))
          go_wp2_with fail
          go_meet
          exact ⟨rfl, by rw [HS.out]⟩
        · have HS := Lib.hid (HTOT.out.trans (if_neg hS))
          go_wp2_with fail
          go_meet
          exact ⟨rfl, by rw [HS.out]⟩
      case rest =>
        obtain ⟨rfl, rfl⟩ := hcut
        clear HTOT hsb
        have hk0 := World.rowIs_made w4 (.int .i64 0) k 3
        have hg5 := hg4.alloc (.cells (madeCells #[.int .i64 0] k) 3)
        have hW5 := hW4.alloc hW4.size (.cells (madeCells #[.int .i64 0] k) 3)
        have hq : w.heap.size ≤ w4.heap.size := hW4.size
        have hgq : g < w4.heap.size := hg4.lt
        go_wp2_with fail
        generalize w4.alloc (.cells (madeCells #[.int .i64 0] k) 3) = w5 at *
        generalize hqq : w4.heap.size = q at *
        clear hH4 hA4 hg4 hW4 hmk hqq
        have hgq' : g ≠ q := Nat.ne_of_lt hgq
        go_loopg [11, 15] k (fun gk s11 i wr => ∃ j : Nat, j ≤ k ∧ gk = k - j ∧ i = .int .i64 j ∧ s11 = .int .i64 (leftTo (hH H A f) t j) ∧ wr.rowIs q 3 k (fun m => .int .i64 (if m < j then got (hH H A f) t m else 0)) ∧ wr.rowIs g 3 k (fun m => .int .i64 (ofI H A f k m)) ∧ Below w.heap.size w wr)
        case atStart => exact ⟨0, Nat.zero_le _, rfl, rfl, rfl, hk0, hg5, hW5⟩
        case round =>
          clear hk0 hg5 hW5
          obtain ⟨j, hj, rfl, rfl, rfl, hq2, hg, hW⟩ := hrel
          have hlb := left_bd (hH_bd H A f) htb.1 j
          have hgb := got_bd (hH_bd H A f) htb.1 j
          have hst : leftTo (hH H A f) t (j + 1) = leftTo (hH H A f) t j - got (hH H A f) t j := rfl
          by_cases hlt : j < k
          · obtain ⟨r1, r2, r3⟩ := HROWS.out j hlt
            obtain ⟨ad, rfl, _, x0, _⟩ := (hHl.keep hW).get hlt
            obtain ⟨ad2, rfl, _, y0, _⟩ := (hAl.keep hW).get hlt
            have U0 := cell_under x0
            have U1 := cell_under y0
            have hib := hI_bd (H.getD j 0) (A.getD j 0) f
            have hgt : got (hH H A f) t j = if 0 < t then (if leftTo (hH H A f) t j < hI (H.getD j 0) (A.getD j 0) f * 10000 / t then leftTo (hH H A f) t j else hI (H.getD j 0) (A.getD j 0) f * 10000 / t) else 0 := rfl
            have HST := Lib.hid hst
            have HGT := Lib.hid hgt
            have hki : (j : Int) < (k : Int) := by omega
            have hk0 : (0 : Int) ≤ (j : Int) := by omega
            have A0 := fun w => law_health (H.getD j 0) (A.getD j 0) f (by omega) r3 (by omega) w
            clear hst hgt x0 y0 r1 r2 r3
            generalize H.getD j 0 = x at *
            generalize A.getD j 0 = y at *
            obtain ⟨L, hL⟩ : ∃ L, L = leftTo (hH H A f) t j := ⟨_, rfl⟩
            obtain ⟨G, hGt⟩ : ∃ G, G = got (hH H A f) t j := ⟨_, rfl⟩
            rw [← hL, ← hGt] at HST HGT
            rw [← hL] at hlb ⊢
            rw [← hGt] at hgb
            have HGG := Lib.hid hGt
            clear hL hGt
            go_wp2_with fail
            refine wp_region_quiet_under (by kernel_rfl) (by kernel_rfl) ?_
            repeat (go_big_quiet_step (((go_at_call 105; exact calls_under_same (A0 _)))))
            refine wpQuiet_nil ?_
            intro wu hw'
            obtain ⟨pq, hw''⟩ := hw'
            have hU := below_eq hw''
            clear hw'' pq
            have hq3 := row_keep hq2 hU
            have hg3 := row_keep hg hU
            have hW3 := below_step hW hU
            have hc := hq3.cell hlt
            have hfz := hq3.frozen j
            clear hq2 hg hW hU U0 U1 A0
            generalize hI x y f = h0 at *
            have fin : ∀ m, m < k → (if m = j then Value.int .i64 G else Value.int .i64 (if m < j then got (hH H A f) t m else 0)) = Value.int .i64 (if m < j + 1 then got (hH H A f) t m else 0) := by
              intro m hm
              by_cases e : m = j
              · subst e
                rw [if_pos rfl, if_pos (by omega), ← HGG.out]
              · rw [if_neg e]
                by_cases e2 : m < j
                · rw [if_pos e2, if_pos (by omega)]
                · rw [if_neg e2, if_neg (by omega)]
            have FIN := Lib.hid fin
            clear fin
            by_cases htp : 0 < t
            · have hdv := div_bd (a := h0 * 10000) (e := t) (by omega) (by omega)
              have hgt := HGT.out
              rw [if_pos htp] at hgt
              clear HGT
              by_cases hLQ : L < h0 * 10000 / t
              · rw [if_pos hLQ] at hgt
                have HGL := Lib.hid hgt
                clear hgt
                go_wp2
                go_roundg (k - (j + 1))
                case measure => omega
                case rel => exact ⟨j + 1, by omega, rfl, by go_num, by rw [HST.out, HGL.out] <;> first | rfl | (congr 1; omega), by rw [← HGL.out]; exact (hq3.set j (.int .i64 G)).congr FIN.out, hg3.setOther hgq' _, below_own hW3 hq _ _⟩
              · rw [if_neg hLQ] at hgt
                have HGL := Lib.hid hgt
                clear hgt
                go_wp2
                go_roundg (k - (j + 1))
                case measure => omega
                case rel => exact ⟨j + 1, by omega, rfl, by go_num, by rw [HST.out, HGL.out] <;> first | rfl | (congr 1; omega), by rw [← HGL.out]; exact (hq3.set j (.int .i64 G)).congr FIN.out, hg3.setOther hgq' _, below_own hW3 hq _ _⟩
            · have hgt := HGT.out
              rw [if_neg htp] at hgt
              have HGL := Lib.hid hgt
              have htd : decide (0 < t) = false := decide_eq_false htp
              have hl0 : decide (L < 0) = false := decide_eq_false (by omega)
              clear HGT hgt
              go_wp2
              go_roundg (k - (j + 1))
              case measure => omega
              case rel => exact ⟨j + 1, by omega, rfl, by go_num, by rw [HST.out, HGL.out] <;> first | rfl | (congr 1; omega), (hq3.set j (.int .i64 0)).congr (fun m hm => by have h2 := FIN.out m hm; rw [HGL.out] at h2; exact h2), hg3.setOther hgq' _, below_own hW3 hq _ _⟩
          · obtain rfl : j = k := by omega
            have hq' : wr.rowIs q 3 j (fun m => .int .i64 (got (hH H A f) t m)) := hq2.congr (fun m hm => by rw [if_pos hm])
            clear hq2 hst hgb
            obtain ⟨L, hL⟩ : ∃ L, L = leftTo (hH H A f) t j := ⟨_, rfl⟩
            rw [← hL] at hlb ⊢
            have HL := Lib.hid hL
            clear hL
            obtain ⟨T, hTT⟩ : ∃ T, T = someTo H j := ⟨_, rfl⟩
            have HTT := Lib.hid hTT
            rw [← hTT]
            clear hTT
            obtain ⟨wo, rfl⟩ : ∃ wo, wo = wr := ⟨_, rfl⟩
            go_wp2_with fail
            go_loopg [12, 13, 18] j (fun gk s12 s13 i wx => ∃ m : Nat, m ≤ j ∧ gk = j - m ∧ i = .int .i64 m ∧ s12 = .int .i64 (hSum (hH H A f) m) ∧ s13 = .int .i64 (sumTo (ofI H A f j) m) ∧ Below wo.heap.size wo wx)
            case atStart => exact ⟨0, Nat.zero_le _, rfl, rfl, rfl, rfl, Below.refl _ _⟩
            case round =>
              obtain ⟨m, hm, rfl, rfl, rfl, rfl, hx⟩ := hrel
              have hsb := hSum_bd _ (hH_bd H A f) m
              have hub := sumTo_bd (ofI_bd H A f j) m
              by_cases hmj : m < j
              · obtain ⟨r1, r2, r3⟩ := HROWS.out m hmj
                obtain ⟨ad, rfl, _, x0, _⟩ := (hHl.keep (below_step hW hx)).get hmj
                obtain ⟨ad2, rfl, _, y0, _⟩ := (hAl.keep (below_step hW hx)).get hmj
                have cq := (row_keep hq' hx).cell hmj
                have cg := (row_keep hg hx).cell hmj
                have hfb := ofI_bd H A f j m
                have hgb := got_bd (hH_bd H A f) htb.1 m
                obtain ⟨of1, of2⟩ := ofI_of (H := H) (A := A) (f := f) hmj
                rw [← HT.out, ← HTT.out, ← HL.out] at of1
                rw [← HT.out, ← HTT.out] at of2
                have oz := ofI_zero (H := H) (A := A) (f := f) (n := j) (i := m)
                have ob := ofI_behind (H := H) (A := A) (f := f) hmj
                have hst : hSum (hH H A f) (m + 1) = hSum (hH H A f) m + hI (H.getD m 0) (A.getD m 0) f := rfl
                have hsu : sumTo (ofI H A f j) (m + 1) = sumTo (ofI H A f j) m + ofI H A f j m := rfl
                have HST := Lib.hid hst
                have HSU := Lib.hid hsu
                have OF1 := Lib.hid of1
                have OF2 := Lib.hid of2
                have OZ := Lib.hid oz
                have OB := Lib.hid ob
                have hib := hI_bd (H.getD m 0) (A.getD m 0) f
                have U0 := cell_under x0
                have U1 := cell_under y0
                have hmi : (m : Int) < (j : Int) := by omega
                have hm0 : (0 : Int) ≤ (m : Int) := by omega
                have A0 := fun w => law_health (H.getD m 0) (A.getD m 0) f (by omega) r3 (by omega) w
                clear of1 of2 oz ob hst hsu y0
                generalize ofI H A f j m = F at *
                generalize got (hH H A f) t m = G at *
                generalize hSum (hH H A f) m = S at *
                generalize sumTo (ofI H A f j) m = Z at *
                generalize H.getD m 0 = x at *
                generalize A.getD m 0 = y at *
                go_upto_if 127 with (fail)
                go_cut [19] (fun s wy => wr = wy ∧ s = .int .i64 F)
                case first =>
                  by_cases hms : (m : Int) = T
                  · have HF := Lib.hid (OF1.out hms)
                    have hms' : ((m : Int) == T) = true := by simp [hms]
                    clear hms
                    go_wp2_with fail
                    go_meet
                    exact ⟨rfl, by rw [HF.out]⟩
                  · have HF := Lib.hid (OF2.out hms)
                    have hms' : ((m : Int) == T) = false := by simp [hms]
                    clear hms
                    go_wp2_with fail
                    go_meet
                    exact ⟨rfl, by rw [HF.out]⟩
                case rest =>
                  obtain ⟨rfl, rfl⟩ := hcut
                  have k1 : IntKind.i64.wrap (S + hI x y f) = S + hI x y f := IntWalk.i64_in _ (by omega)
                  have hFF : (F != F) = false := by simp
                  clear OF1 OF2 cq
                  by_cases hz : x = 0
                  · have hF0 := OZ.out hz
                    subst hF0
                    have hxz : (x == 0) = true := by simp [hz]
                    clear hz
                    by_cases hah : 10000 ≤ S
                    all_goals
                      go_wp2_with fail
                      refine wp_region_quiet_under (by kernel_rfl) (by kernel_rfl) ?_
                      repeat (go_big_quiet_step (((go_at_call 105; exact calls_under_same (A0 _)))))
                      refine wpQuiet_nil ?_
                      intro wu hw'
                      obtain ⟨pq, hw''⟩ := hw'
                      have hU := below_eq hw''
                      clear hw'' pq
                      clear U0 U1 A0 k1 x0 cg hxz
                      go_wp2
                      go_roundg (j - (m + 1))
                      case measure => omega
                      case rel => exact ⟨m + 1, by omega, rfl, by go_num, by rw [HST.out], by rw [HSU.out] <;> first | rfl | (congr 1; omega), below_step hx hU⟩
                  · have hxz : (x == 0) = false := by simp [hz]
                    clear hz
                    by_cases hah : 10000 ≤ S
                    · have hF0 := OB.out hah
                      subst hF0
                      go_wp2_with fail
                      refine wp_region_quiet_under (by kernel_rfl) (by kernel_rfl) ?_
                      repeat (go_big_quiet_step (((go_at_call 105; exact calls_under_same (A0 _)))))
                      refine wpQuiet_nil ?_
                      intro wu hw'
                      obtain ⟨pq, hw''⟩ := hw'
                      have hU := below_eq hw''
                      clear hw'' pq
                      clear U0 U1 A0 k1 x0 cg hxz
                      go_wp2
                      go_roundg (j - (m + 1))
                      case measure => omega
                      case rel => exact ⟨m + 1, by omega, rfl, by go_num, by rw [HST.out], by rw [HSU.out] <;> first | rfl | (congr 1; omega), below_step hx hU⟩
                    · have hah' : decide (10000 ≤ S) = false := decide_eq_false hah
                      go_wp2_with fail
                      refine wp_region_quiet_under (by kernel_rfl) (by kernel_rfl) ?_
                      repeat (go_big_quiet_step (((go_at_call 105; exact calls_under_same (A0 _)))))
                      refine wpQuiet_nil ?_
                      intro wu hw'
                      obtain ⟨pq, hw''⟩ := hw'
                      have hU := below_eq hw''
                      clear hw'' pq
                      clear U0 U1 A0 k1 x0 cg hxz
                      go_wp2
                      go_roundg (j - (m + 1))
                      case measure => omega
                      case rel => exact ⟨m + 1, by omega, rfl, by go_num, by rw [HST.out], by rw [HSU.out] <;> first | rfl | (congr 1; omega), below_step hx hU⟩
              · obtain rfl : m = j := by omega
                have hWx := below_step hW hx
                have hgx := row_keep hg hx
                clear hq' hg
                rcases someTo_spec H m with ⟨s1, s2⟩ | ⟨i0, hi0, s1, s2, s3⟩
                · have hs0 := Lib.hid (sum_none (H := H) (A := A) (f := f) (fun k hk => (HROWS.out k hk).1) s1 m (Nat.le_refl _))
                  have hT := HTT.out.trans s2
                  subst hT
                  rw [hs0.out]
                  clear s2
                  go_wp2_with fail
                  refine (law24_awake _).mono ?_; rintro e w9 ⟨rfl, hx9⟩
                  go_wp2
                  go_ret
                  exact ⟨rfl, below_step hWx hx9⟩
                · have hm0 : 0 < m := by omega
                  have hsum : sumTo (ofI H A f m) m = 10000 := by
                    rw [sum_ofI H A f m m (Nat.le_refl _), if_pos (by omega)]
                    omega
                  have HSM := Lib.hid hsum
                  clear hsum
                  obtain ⟨Z, hZ⟩ : ∃ Z, Z = sumTo (ofI H A f m) m := ⟨_, rfl⟩
                  rw [← hZ] at hub HSM ⊢
                  clear hZ
                  have hZ := HSM.out
                  subst hZ
                  have hTT := HTT.out.trans s3
                  subst hTT
                  obtain ⟨r1, r2, r3⟩ := HROWS.out 0 hm0
                  obtain ⟨ad, rfl, _, x0, _⟩ := (hHl.keep hWx).get hm0
                  obtain ⟨ad2, rfl, _, y0, _⟩ := (hAl.keep hWx).get hm0
                  have e0 : ∀ a : Addr, a.add 0 = a := fun a => by unfold Addr.add; simp
                  have x0' := x0
                  have y0' := y0
                  rw [e0] at x0' y0'
                  have cg := hgx.cell hm0
                  have hfull : 1 ≤ H.getD 0 0 → 1 ≤ A.getD 0 0 → 100 * A.getD 0 0 ≤ f * H.getD 0 0 → ofI H A f m 0 = 10000 := fun a1 a2 a3 => ofI_all hm0 (hI_full a1 a2 a3 (by omega))
                  have HFULL := Lib.hid hfull
                  clear hfull e0 s3
                  have hp := mul_bd (a := f) (b := H.getD 0 0) (A := 1000) (B := 1048576) (by omega) hf2 r1 (by omega)
                  generalize ofI H A f m 0 = F at *
                  generalize H.getD 0 0 = x at *
                  generalize A.getD 0 0 = y at *
                  have U0 := cell_under x0
                  have U1 := cell_under y0
                  have U2 := cell_under x0'
                  have U3 := cell_under y0'
                  have U4 := cell_under cg
                  have k1 : IntKind.i64.wrap (f * x) = f * x := IntWalk.i64_in _ (by omega)
                  have k2 : IntKind.i64.wrap (100 * y) = 100 * y := IntWalk.i64_in _ (by omega)
                  have hmi : (0 : Int) < (m : Int) := by omega
                  clear x0 y0 x0' y0' cg
                  by_cases b1 : f * x < 100 * y
                  · have d1 : decide (f * x < 100 * y) = true := decide_eq_true b1
                    clear b1
                    go_wp2_with fail
                    refine wp_region_quiet_under (by kernel_rfl) (by kernel_rfl) ?_
                    repeat (go_big_quiet_step (((go_at_call 103; exact calls_under (law24_awake _)))))
                    refine wpQuiet_nil ?_
                    intro wu hw'
                    obtain ⟨pq, hw''⟩ := hw'
                    have hU := below_eq hw''
                    clear hw'' pq
                    go_wp2
                    go_ret
                    exact ⟨rfl, below_step hWx hU⟩
                  · have d1 : decide (f * x < 100 * y) = false := decide_eq_false b1
                    by_cases b2 : x = 0
                    · have d2 : (x == 0) = true := by simp [b2]
                      clear b1 b2
                      go_wp2_with fail
                      refine wp_region_quiet_under (by kernel_rfl) (by kernel_rfl) ?_
                      repeat (go_big_quiet_step (((go_at_call 103; exact calls_under (law24_awake _)))))
                      refine wpQuiet_nil ?_
                      intro wu hw'
                      obtain ⟨pq, hw''⟩ := hw'
                      have hU := below_eq hw''
                      clear hw'' pq
                      go_wp2
                      go_ret
                      exact ⟨rfl, below_step hWx hU⟩
                    · have d2 : (x == 0) = false := by simp [b2]
                      have hF := HFULL.out (by omega) (by omega) (by omega)
                      subst hF
                      clear b1 b2
                      go_wp2_with fail
                      refine wp_region_quiet_under (by kernel_rfl) (by kernel_rfl) ?_
                      repeat (go_big_quiet_step (((go_at_call 103; exact calls_under (law24_awake _)))))
                      refine wpQuiet_nil ?_
                      intro wu hw'
                      obtain ⟨pq, hw''⟩ := hw'
                      have hU := below_eq hw''
                      clear hw'' pq
                      go_wp2
                      go_ret
                      exact ⟨rfl, below_step hWx hU⟩
theorem loadShares_walk (w : World) (A1 : Option Addr) (n1 c1 : Nat) (H : List Int) (hHl : IsList w .i64 A1 n1 c1 H) (A2 : Option Addr) (n2 c2 : Nat) (A : List Int) (hAl : IsList w .i64 A2 n2 c2 A) (f : Int) (_ : -9223372036854775808 ≤ f) (_ : f ≤ 9223372036854775807) :
    Calls Try.prog 26 #[.slice A1 n1 c1, .slice A2 n2 c2, .int .i64 f] w fun e w' => e = .returned (.bool true) ∧ Below w.heap.size w w' := by
  cases h : lRight H A f with
  | true =>
    have hn : n1 = n2 := by
      unfold lRight at h
      rw [Bool.and_eq_true, decide_eq_true_eq] at h
      have := h.1.1
      rw [hHl.len, hAl.len] at this
      exact this
    subst hn
    exact loadShares_yes w A1 A2 n1 c1 c2 H A f hHl hAl h
  | false => exact loadShares_no w A1 A2 n1 n2 c1 c2 H A f hHl hAl h
end Go.Proofs.Ytonbmcgfbbpnkaa
