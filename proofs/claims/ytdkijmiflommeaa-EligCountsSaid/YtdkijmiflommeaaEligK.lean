/- EligCounts. -/
import Derived.Test.YtdkijmiflommeaaEligJ
set_option linter.unusedVariables false
namespace Go.Proofs.Ytdkijmiflommeaa
open Go.RowKit
set_option maxHeartbeats 8000000
set_option maxRecDepth 100000
def lvP (l : List Nd) (k : Nat) : Bool := isK 1 (l.getD k nd0)
theorem lev_bel {l : List Nd} (ht : Tall l) {i k : Nat} (hi : i < l.length) (hki : (l.getD i nd0).kind = 1) (hk : k < l.length) : (lev l k == ((selTo (lvP l) i).length : Int)) = belF l i 4 k := by
  rw [bel_four ht i (by omega) (by omega), ndAt_nat, hki]
  obtain ⟨i', h1, h2, h3, h4, _⟩ := lev_host ht hk
  have hp : ∀ j, (l.getD j nd0).kind = 1 → lvP l j = true := fun j h => by unfold lvP isK; rw [h]; rfl
  rw [h1, h4]
  show (((selTo (lvP l) i').length : Int) == ((selTo (lvP l) i).length : Int)) = ((i' : Int) == (i : Int))
  rcases Nat.lt_trichotomy i' i with hlt | rfl | hlt
  · have := (selTo_at (p := lvP l) hlt (hp i' h3)).1
    have e1 : (((selTo (lvP l) i').length : Int) == ((selTo (lvP l) i).length : Int)) = false := by rw [beq_eq_false_iff_ne]; omega
    have e2 : ((i' : Int) == (i : Int)) = false := by rw [beq_eq_false_iff_ne]; omega
    rw [e1, e2]
  · simp
  · have := (selTo_at (p := lvP l) hlt (hp i hki)).1
    have e1 : (((selTo (lvP l) i').length : Int) == ((selTo (lvP l) i).length : Int)) = false := by rw [beq_eq_false_iff_ne]; omega
    have e2 : ((i' : Int) == (i : Int)) = false := by rw [beq_eq_false_iff_ne]; omega
    rw [e1, e2]
def bTo (l : List Nd) (i k : Nat) : Nat := (List.range k).countP fun k => (l.getD k nd0).kind == 4 && belF l i 4 k
def aTo (l : List Nd) (hosts : List Int) (i k : Nat) : Nat := (List.range k).countP fun k => ((l.getD k nd0).kind == 4 && belF l i 4 k) && pk l hosts k
theorem bTo_step (l : List Nd) (i k : Nat) : bTo l i (k + 1) = bTo l i k + if ((l.getD k nd0).kind == 4 && belF l i 4 k) = true then 1 else 0 := by
  unfold bTo; rw [List.range_succ, List.countP_append, List.countP_singleton]
theorem aTo_step (l : List Nd) (hosts : List Int) (i k : Nat) : aTo l hosts i (k + 1) = aTo l hosts i k + if (((l.getD k nd0).kind == 4 && belF l i 4 k) && pk l hosts k) = true then 1 else 0 := by
  unfold aTo; rw [List.range_succ, List.countP_append, List.countP_singleton]
theorem bTo_le (l : List Nd) (i k : Nat) : bTo l i k ≤ k := by
  unfold bTo
  exact Nat.le_trans List.countP_le_length (by rw [List.length_range]; exact Nat.le_refl _)
theorem aTo_le (l : List Nd) (hosts : List Int) (i k : Nat) : aTo l hosts i k ≤ k := by
  unfold aTo
  exact Nat.le_trans List.countP_le_length (by rw [List.length_range]; exact Nat.le_refl _)
theorem all_law {l : List Nd} (ht : Tall l) {i : Nat} (hi : i < l.length) (hki : (l.getD i nd0).kind = 1) : allTo l (idx (isK 4) l).length (selTo (lvP l) i).length = bTo l i l.length := by
  unfold allTo bTo
  rw [List.take_length]
  congr 1
  unfold idx
  rw [List.countP_map, List.countP_filter]
  apply List.countP_congr
  intro k hk
  rw [List.mem_range] at hk
  simp only [Function.comp_apply]
  rw [lev_bel ht hi hki hk, Bool.and_comm]
  rfl
theorem have_law {l : List Nd} (ht : Tall l) (hosts : List Int) {i : Nat} (hi : i < l.length) (hki : (l.getD i nd0).kind = 1) : haveTo l (hs l hosts) (idx (isK 4) l).length (selTo (lvP l) i).length = aTo l hosts i l.length := by
  unfold haveTo aTo
  rw [List.take_length]
  congr 1
  unfold idx
  rw [List.countP_map, List.countP_filter]
  apply List.countP_congr
  intro k hk
  rw [List.mem_range] at hk
  simp only [Function.comp_apply, Int.toNat_natCast]
  rw [lev_bel ht hi hki hk]
  unfold isK
  by_cases h4 : (l.getD k nd0).kind = 4
  · rw [hs_host ht hosts hk h4, h4]
    cases belF l i 4 k <;> cases pk l hosts k <;> simp
  · have e : ((l.getD k nd0).kind == 4) = false := by rw [beq_eq_false_iff_ne]; exact h4
    rw [e]; simp
theorem eligCounts_walk (w : World) (A : Option Addr) (n0 c : Nat) (l0 : List Nd) (hl0 : IsNodes w A n0 c l0) (Ah : Option Addr) (m0 ch : Nat) (h0 : List Int) (hh0 : IsList w .i64 Ah m0 ch h0) (kind : Int) (i0 : -9223372036854775808 ≤ kind) (i1 : kind ≤ 9223372036854775807) :
    Calls Try.prog 9 #[.slice A n0 c, .slice Ah m0 ch, .int .i64 kind] w fun e w' => e = .returned (.bool true) ∧ Below w.heap.size w w' := by
  have hmd := law_Made w A n0 c l0 hl0
  have ht0 := Lib.hid (made_tall (l0.take 60))
  have hl60 : (made (l0.take 60)).length ≤ 60 := Nat.le_trans (made_len _) (by rw [List.length_take]; omega)
  generalize made (l0.take 60) = l at *
  have hFw := fun w => law23_Few Ah m0 ch hh0.cap hh0.small w
  have hH := hh0.cut (k := min m0 30) (by omega)
  generalize min m0 30 = m at *
  generalize h0.take m = hosts at *
  clear hl0 hh0
  go_enter Try.func9, Try.ntmps9
  go_wp2_with fail
  refine hmd.mono ?_; rintro e w1 ⟨b, A1, c1, rfl, hT, hN, hx1⟩
  clear hmd
  have ht := ht0.out
  go_wp2_with fail
  refine (hFw _).mono ?_; rintro e w' ⟨rfl, rfl⟩
  clear hFw
  have hH1 := hH.keep hx1
  go_wp2_with fail
  refine (elig_New hT ht Ah m ch hosts hH1).mono ?_; rintro e w2 ⟨g, gw, gs, vH, rfl, hS, hx2⟩
  have hN2 := hN.keep hx2
  have hH2 := hH1.keep hx2
  have hT2 := hT.keep hx2
  have hW2 := below_step hx1 hx2
  clear hT hN hH1 hH hx1 hx2
  go_wp2_with fail
  refine (set_Counts hT2 ht hS).mono ?_; rintro e w3 ⟨gh, ga, rfl, hRh, hRa, hx3⟩
  have hS3 := hS.keep hx3
  have hN3 := hN2.keep hx3
  have hH3 := hH2.keep hx3
  have hT3 := hT2.keep hx3
  have hW3 := below_step hW2 hx3
  clear hS hN2 hH2 hT2 hx3 hW2
  go_wp2_with fail
  refine (set_Domains hT3 hS3 kind).mono ?_; rintro e w4 ⟨AD, cD, rfl, hD, hx4⟩
  have hN4 := hN3.keep hx4
  have hH4 := hH3.keep hx4
  have hRh4 := row_keep hRh hx4
  have hRa4 := row_keep hRa hx4
  have hW4 := below_step hW3 hx4
  clear hS3 hN3 hH3 hT3 hRh hRa hx4 hW3
  have hLV : idx (isK 1) l = selTo (lvP l) l.length := rfl
  rw [hLV] at hRh4 hRa4
  rw [hLV]
  clear hLV
  obtain ⟨n, hn⟩ : ∃ n, n = l.length := ⟨_, rfl⟩
  rw [← hn] at hN4 hRh4 hRa4 hD hl60
  rw [← hn]
  have HN := Lib.hid hn.symm
  clear hn
  have hcap := hN4.cap
  have hsm := hN4.small
  have hcapD := hD.cap
  have hsmD := hD.small
  have hqn := selTo_le (domP l (hs l hosts) kind) n
  have hvn := selTo_le (lvP l) n
  obtain ⟨q, hq⟩ : ∃ q, q = (selTo (domP l (hs l hosts) kind) n).length := ⟨_, rfl⟩
  rw [← hq] at hD hcapD hqn
  rw [← hq]
  have HQ := Lib.hid hq.symm
  clear hq
  obtain ⟨v, hv⟩ : ∃ v, v = (selTo (lvP l) n).length := ⟨_, rfl⟩
  rw [← hv] at hRh4 hRa4 hvn
  rw [← hv]
  have HV := Lib.hid hv.symm
  clear hv
  go_wp2_with fail
  go_loopg [13, 14, 15, 16, 17, 18] n (fun gk s13 s14 s15 s16 s17 s18 wr => ∃ (k t u : Nat), k ≤ n ∧ gk = n - k ∧ s15 = .int .i64 k ∧ s13 = .int .i64 t ∧ s14 = .int .i64 u ∧ Hid (t = (selTo (lvP l) k).length) ∧ Hid (u = (selTo (domP l (hs l hosts) kind) k).length) ∧ w4 = wr)
  case atStart => exact ⟨0, 0, 0, Nat.zero_le _, rfl, rfl, rfl, rfl, Lib.hid rfl, Lib.hid rfl, rfl⟩
  case round =>
    obtain ⟨k, t, u, hk, rfl, rfl, rfl, rfl, HT, HU, rfl⟩ := hrel
    have htk : t ≤ k := by rw [HT.out]; exact selTo_le _ _
    have huk : u ≤ k := by rw [HU.out]; exact selTo_le _ _
    by_cases hkn : k < n
    · have hki : (k : Int) < (n : Int) := by omega
      have hkl : k < l.length := by rw [HN.out]; exact hkn
      have CL := law23_has hN4 hH4 ht k hkn
      have HSD := Lib.hid (selTo_step (domP l (hs l hosts) kind) k)
      have HSV := Lib.hid (selTo_step (lvP l) k)
      have HAD := Lib.hid (fun h => selTo_at (p := domP l (hs l hosts) kind) hkn h)
      have HAV := Lib.hid (fun h => selTo_at (p := lvP l) hkn h)
      have HDP := Lib.hid (show domP l (hs l hosts) kind k = (hs l hosts k && (l.getD k nd0).kind == kind) from rfl)
      have HVP := Lib.hid (show lvP l k = ((l.getD k nd0).kind == 1) from rfl)
      have HAL := Lib.hid (fun h => all_law ht (i := k) hkl h)
      have HHV := Lib.hid (fun h => have_law ht hosts (i := k) hkl h)
      have hat := hN4.at_ hkn
      obtain ⟨x, hx⟩ : ∃ x, x = l.getD k nd0 := ⟨_, rfl⟩
      rw [← hx] at hat HDP HVP HAL HHV
      clear hx
      obtain ⟨ad, rfl, hbk, d0, d1, d2, d3, d4, d5, d6⟩ := hat
      obtain ⟨hk', hhk⟩ : ∃ h, h = hs l hosts k := ⟨_, rfl⟩
      rw [← hhk] at CL HDP
      clear hhk
      obtain ⟨u', hu'⟩ : ∃ u', u' = (selTo (domP l (hs l hosts) kind) (k + 1)).length := ⟨_, rfl⟩
      have HU' := Lib.hid hu'
      go_upto_region 12 with (fail)
      go_cut [57] (fun s wx => w4 = wx ∧ s = .bool (decide (hk' = true ∧ x.kind = kind)))
      case first =>
        by_cases hkd : x.kind = kind
        · have g1 : (x.kind == kind) = true := by rw [beq_iff_eq]; exact hkd
          have HE := Lib.hid (show decide (hk' = true ∧ x.kind = kind) = hk' by cases hk' <;> simp [hkd])
          clear hkd
          go_wp2_with fail
          refine CL.mono ?_; rintro e w' ⟨rfl, rfl⟩
          go_wp2_with fail
          go_meet
          exact ⟨rfl, by rw [HE.out]⟩
        · have g1 : (x.kind == kind) = false := by rw [beq_eq_false_iff_ne]; exact hkd
          have HE := Lib.hid (show decide (hk' = true ∧ x.kind = kind) = false by simp [hkd])
          clear hkd
          go_wp2_with fail
          go_meet
          exact ⟨rfl, by rw [HE.out]⟩
      case rest =>
        obtain ⟨rfl, rfl⟩ := hcut
        go_upto_if 57 with (fail)
        go_cut [14] (fun s wx => w4 = wx ∧ s = .int .i64 u')
        case first =>
          by_cases hc : hk' = true ∧ x.kind = kind
          · have hdp : domP l (hs l hosts) kind k = true := by rw [HDP.out, hc.1, hc.2]; simp
            have hat := HAD.out hdp
            rw [HQ.out, ← HU.out] at hat
            obtain ⟨huq, hue⟩ := hat
            have HE := Lib.hid (show ((u + 1 : Nat) : Int) = u' by rw [HU'.out, HSD.out, if_pos hdp, List.length_append, ← HU.out]; rfl)
            obtain ⟨ad', rfl, _, x0, _⟩ := hD.get huq
            rw [hue] at x0
            have huqi : (u : Int) < (q : Int) := by omega
            have g1 : decide ((q : Int) ≤ (u : Int)) = false := decide_eq_false (by omega)
            rw [decide_eq_true hc]
            clear hc hdp hue hu'
            go_wp2_with fail
            go_meet
            exact ⟨rfl, by rw [← HE.out]; go_num⟩
          · have hdp : domP l (hs l hosts) kind k = false := by
              rw [HDP.out]
              cases hk' with
              | false => rfl
              | true => simp at hc ⊢; exact hc
            have HE := Lib.hid (show u = u' by rw [HU'.out, HSD.out, hdp, if_neg (by simp), List.append_nil]; exact HU.out)
            rw [decide_eq_false hc]
            clear hc hdp hu'
            go_wp2_with fail
            go_meet
            exact ⟨rfl, by rw [HE.out]⟩
        case rest =>
          obtain ⟨rfl, rfl⟩ := hcut
          clear hu' CL
          have HUF := Lib.hid HU'.out
          by_cases h1 : x.kind = 1
          · have g1 : (x.kind != 1) = false := by simp [h1]
            have hlv : lvP l k = true := by rw [HVP.out, h1]; rfl
            have hat := HAV.out hlv
            rw [HV.out, ← HT.out] at hat
            have htv := hat.1
            have HE := Lib.hid (show t + 1 = (selTo (lvP l) (k + 1)).length by rw [HSV.out, if_pos hlv, List.length_append, ← HT.out]; rfl)
            have e1 := HAL.out h1
            have e2 := HHV.out h1
            rw [HN.out, ← HT.out] at e1 e2
            have ra := hRa4.cell htv
            have rh := hRh4.cell htv
            rw [e1] at ra
            rw [e2] at rh
            have hb60 := bTo_le l k n
            have ha60 := aTo_le l hosts k n
            have htvi : (t : Int) < (v : Int) := by omega
            have g2 : decide ((v : Int) ≤ (t : Int)) = false := decide_eq_false (by omega)
            clear e1 e2 hat hlv h1 HAL HHV HAV HAD HSV HSD
            go_wp2_with fail
            go_loopg [16, 17, 18] n (fun gg s16 s17 s18 wr => ∃ j : Nat, j ≤ n ∧ gg = n - j ∧ s18 = .int .i64 j ∧ s16 = .int .i64 (aTo l hosts k j : Nat) ∧ s17 = .int .i64 (bTo l k j : Nat) ∧ w4 = wr)
            case atStart => exact ⟨0, Nat.zero_le _, rfl, rfl, rfl, rfl, rfl⟩
            case round =>
              obtain ⟨j, hj, rfl, rfl, rfl, rfl, rfl⟩ := hrel
              have ha1 := aTo_le l hosts k j
              have hb1 := bTo_le l k j
              by_cases hjn : j < n
              · have hji : (j : Int) < (n : Int) := by omega
                have CB := law23_below hN4 (j : Int) (k : Int)
                have CP := law23_picked hN4 hH4 ht j hjn
                have HBS := Lib.hid (bTo_step l k j)
                have HAS := Lib.hid (aTo_step l hosts k j)
                obtain ⟨ad3, e3, _, _, y1, _⟩ := hN4.at_ hjn
                obtain rfl : ad = ad3 := by injection e3
                generalize l.getD j nd0 = y at *
                generalize belF l (k : Int) 4 (j : Int) = B at *
                generalize pk l hosts j = p at *
                generalize aTo l hosts k j = av at *
                generalize bTo l k j = bv at *
                by_cases h4 : y.kind = 4
                · have f1 : (y.kind == 4) = true := by rw [beq_iff_eq]; exact h4
                  rw [f1] at HBS HAS
                  clear h4
                  cases B with
                  | true =>
                    have HB1 := Lib.hid (show bTo l k (j + 1) = bv + 1 by rw [HBS.out]; rfl)
                    cases p with
                    | true =>
                      have HA1 := Lib.hid (show aTo l hosts k (j + 1) = av + 1 by rw [HAS.out]; rfl)
                      clear HBS HAS
                      go_wp2_with fail
                      refine CB.mono ?_; rintro e w' ⟨rfl, rfl⟩
                      go_wp2_with fail
                      refine CP.mono ?_; rintro e w' ⟨rfl, rfl⟩
                      go_wp2
                      go_roundg (n - (j + 1))
                      case measure => omega
                      case rel => exact ⟨j + 1, by omega, rfl, by go_num, by rw [HA1.out]; go_num, by rw [HB1.out]; go_num, rfl⟩
                    | false =>
                      have HA1 := Lib.hid (show aTo l hosts k (j + 1) = av by rw [HAS.out]; rfl)
                      clear HBS HAS
                      go_wp2_with fail
                      refine CB.mono ?_; rintro e w' ⟨rfl, rfl⟩
                      go_wp2_with fail
                      refine CP.mono ?_; rintro e w' ⟨rfl, rfl⟩
                      go_wp2
                      go_roundg (n - (j + 1))
                      case measure => omega
                      case rel => exact ⟨j + 1, by omega, rfl, by go_num, by rw [HA1.out], by rw [HB1.out]; go_num, rfl⟩
                  | false =>
                    have HB1 := Lib.hid (show bTo l k (j + 1) = bv by rw [HBS.out]; rfl)
                    have HA1 := Lib.hid (show aTo l hosts k (j + 1) = av by rw [HAS.out]; rfl)
                    clear HBS HAS
                    go_wp2_with fail
                    refine CB.mono ?_; rintro e w' ⟨rfl, rfl⟩
                    go_wp2
                    go_roundg (n - (j + 1))
                    case measure => omega
                    case rel => exact ⟨j + 1, by omega, rfl, by go_num, by rw [HA1.out], by rw [HB1.out], rfl⟩
                · have f1 : (y.kind == 4) = false := by rw [beq_eq_false_iff_ne]; exact h4
                  rw [f1] at HBS HAS
                  have HB1 := Lib.hid (show bTo l k (j + 1) = bv by rw [HBS.out]; rfl)
                  have HA1 := Lib.hid (show aTo l hosts k (j + 1) = av by rw [HAS.out]; rfl)
                  clear h4 HBS HAS
                  go_wp2
                  go_roundg (n - (j + 1))
                  case measure => omega
                  case rel => exact ⟨j + 1, by omega, rfl, by go_num, by rw [HA1.out], by rw [HB1.out], rfl⟩
              · obtain rfl : j = n := by omega
                generalize aTo l hosts k j = av at *
                generalize bTo l k j = bv at *
                go_wp2
                go_roundg (j - (k + 1))
                case measure => omega
                case rel => exact ⟨k + 1, t + 1, u', by omega, rfl, by go_num, by go_num, rfl, HE, HUF, rfl⟩
          · have g1 : (x.kind != 1) = true := by simp [h1]
            have hlv : lvP l k = false := by rw [HVP.out, beq_eq_false_iff_ne]; exact h1
            have HE := Lib.hid (show t = (selTo (lvP l) (k + 1)).length by rw [HSV.out, hlv, if_neg (by simp), List.append_nil]; exact HT.out)
            clear hlv h1
            go_wp2
            go_roundg (n - (k + 1))
            case measure => omega
            case rel => exact ⟨k + 1, t, u', by omega, rfl, by go_num, rfl, rfl, HE, HUF, rfl⟩
    · obtain rfl : k = n := by omega
      obtain rfl : t = v := by rw [HT.out, HV.out]
      obtain rfl : u = q := by rw [HU.out, HQ.out]
      go_wp2_with fail
      refine (law23_awake _).mono ?_; rintro e w9 ⟨rfl, hx9⟩
      go_wp2
      go_ret
      exact ⟨by simp, below_step hW4 hx9⟩
end Go.Proofs.Ytdkijmiflommeaa
