/- EligWeighs. -/
import Derived.Test.YtdkijmiflommeaaEligE
set_option linter.unusedVariables false
namespace Go.Proofs.Ytdkijmiflommeaa
open Go.RowKit
set_option maxHeartbeats 8000000
set_option maxRecDepth 100000
theorem picks_wf (l : List Nd) (hosts : List Int) (h : l.length ≤ 1024) : ∀ z ∈ picks l hosts, (Lit.int .i64 z).wf = true := fun z hz => idx_wf (isK 4) l h z (List.mem_filter.1 hz).1
theorem picks_le (l : List Nd) (hosts : List Int) : (picks l hosts).length ≤ l.length := by rw [← pkTo_all]; exact pkTo_le _ _ _
theorem eligWeighs_walk (w : World) (A : Option Addr) (n0 c : Nat) (l0 : List Nd) (hl0 : IsNodes w A n0 c l0) (Ah : Option Addr) (m0 ch : Nat) (h0 : List Int) (hh0 : IsList w .i64 Ah m0 ch h0) (i : Int) (i0 : -9223372036854775808 ≤ i) (i1 : i ≤ 9223372036854775807) :
    Calls Try.prog 8 #[.slice A n0 c, .slice Ah m0 ch, .int .i64 i] w fun e w' => e = .returned (.bool true) ∧ Below w.heap.size w w' := by
  have hmd := law_Made w A n0 c l0 hl0
  have ht0 := Lib.hid (made_tall (l0.take 60))
  have hl60 : (made (l0.take 60)).length ≤ 60 := Nat.le_trans (made_len _) (by rw [List.length_take]; omega)
  generalize made (l0.take 60) = l at *
  have hFw := fun w => law23_Few Ah m0 ch hh0.cap hh0.small w
  have hH := hh0.cut (k := min m0 30) (by omega)
  generalize min m0 30 = m at *
  generalize h0.take m = hosts at *
  clear hl0 hh0
  go_enter Try.func8, Try.ntmps8
  go_wp2_with fail
  refine hmd.mono ?_; rintro e w1 ⟨b, A1, c1, rfl, hT, hN, hx1⟩
  clear hmd
  have ht := ht0.out
  go_wp2_with fail
  refine (hFw _).mono ?_; rintro e w' ⟨rfl, rfl⟩
  clear hFw
  have hH1 := hH.keep hx1
  go_wp2_with fail
  refine (elig_New hT ht Ah m ch hosts hH1).mono ?_; rintro e w2 ⟨g, gw, gs, vH, rfl, hS, hx2⟩
  have hN2 := hN.keep hx2
  have hH2 := hH1.keep hx2
  have hW2 := below_step hx1 hx2
  clear hT hN hH1 hH hx1 hx2
  go_wp2_with fail
  refine (law23_Weights hN2 hH2 ht (by omega)).mono ?_; rintro e w3 ⟨gr, rfl, hR, hx3⟩
  have hS3 := hS.keep hx3
  have hN3 := hN2.keep hx3
  have hH3 := hH2.keep hx3
  have hW3 := below_step hW2 hx3
  clear hS hN2 hH2 hx3 hW2
  go_wp2_with fail
  refine (set_List hS3 (picks_wf l hosts (by omega)) (by have := picks_le l hosts; omega)).mono ?_; rintro e w4 ⟨AL, cL, rfl, hL, hx4⟩
  have hS4 := hS3.keep hx4
  have hN4 := hN3.keep hx4
  have hH4 := hH3.keep hx4
  have hR4 := row_keep hR hx4
  have hW4 := below_step hW3 hx4
  clear hS3 hN3 hH3 hR hx4 hW3
  rw [← pkTo_all] at hL
  rw [← pkTo_all]
  obtain ⟨n, hn⟩ : ∃ n, n = l.length := ⟨_, rfl⟩
  rw [← hn] at hS4 hN4 hR4 hL hl60
  rw [← hn]
  have HN := Lib.hid hn.symm
  clear hn
  have hcap := hN4.cap
  have hsm := hN4.small
  have hcapL := hL.cap
  have hsmL := hL.small
  have hqn := pkTo_le l hosts n
  obtain ⟨q, hq⟩ : ∃ q, q = (pkTo l hosts n).length := ⟨_, rfl⟩
  rw [← hq] at hL hcapL hqn
  rw [← hq]
  have HQ := Lib.hid hq.symm
  clear hq
  go_wp2_with fail
  go_loopg [12, 13] n (fun gk s12 s13 wr => ∃ (k : Nat) (t : Nat), k ≤ n ∧ gk = n - k ∧ s13 = .int .i64 k ∧ s12 = .int .i64 t ∧ Hid (t = (pkTo l hosts k).length) ∧ Below w4.heap.size w4 wr)
  case atStart => exact ⟨0, 0, Nat.zero_le _, rfl, rfl, rfl, Lib.hid rfl, Below.refl _ _⟩
  case round =>
    obtain ⟨k, t, hk, rfl, rfl, rfl, HT, hW⟩ := hrel
    have hS5 := hS4.keep hW
    have hN5 := hN4.keep hW
    have hH5 := hH4.keep hW
    have hR5 := row_keep hR4 hW
    have hL5 := hL.keep hW
    have htk : t ≤ k := by rw [HT.out]; exact pkTo_le _ _ _
    by_cases hkn : k < n
    · have hki : (k : Int) < (n : Int) := by omega
      have hkl : k < l.length := by rw [HN.out]; exact hkn
      have rk := hR5.cell hkn
      have eW : atI (wt l hosts) n k = wt l hosts k := by unfold atI; rw [if_pos ⟨by omega, hki⟩]; rfl
      have eH : atB (hs l hosts) n k = hs l hosts k := by unfold atB; rw [if_pos ⟨by omega, hki⟩]; rfl
      have CW := fun (w : World) (h : SetIs w g b n gw gs (wt l hosts) (hs l hosts) vH (picks l hosts)) => set_Weight h k
      have CH := fun (w : World) (h : SetIs w g b n gw gs (wt l hosts) (hs l hosts) vH (picks l hosts)) => set_Has h k
      have CL := fun (w : World) (h : IsNodes w A1 n c1 l) (h' : IsList w .i64 Ah m ch hosts) => law23_has h h' ht k hkn
      have CP := fun (w : World) (h : IsNodes w A1 n c1 l) (h' : IsList w .i64 Ah m ch hosts) => law23_picked h h' ht k hkn
      rw [eW] at CW
      rw [eH] at CH
      have HST := Lib.hid (pkTo_step l hosts k)
      have HAT := Lib.hid (fun h => pkTo_at (l := l) (hosts := hosts) hkn h)
      generalize wt l hosts k = wk at *
      generalize hs l hosts k = hk' at *
      obtain ⟨p, hp⟩ : ∃ p, p = pk l hosts k := ⟨_, rfl⟩
      rw [← hp] at CP HST HAT
      clear eW eH hp
      have U0 := cell_under rk
      clear rk
      go_wp2_with fail
      refine wp_region_quiet_under (by kernel_rfl) (by kernel_rfl) ?_
      repeat (go_big_quiet_step (((first | (go_at_call 42; exact calls_under_same (CW _ (hS5.keep (under_below _ _)))) | (go_at_call 43; exact calls_under_same (CH _ (hS5.keep (under_below _ _)))) | (go_at_call 44; exact calls_under_same (CL _ (hN5.keep (under_below _ _)) (hH5.keep (under_below _ _))))))))
      refine wpQuiet_nil ?_
      intro wu hw'
      obtain ⟨pq, hw''⟩ := hw'
      have hU := below_eq hw''
      clear hw'' pq
      have hWu := below_step hW hU
      have hN6 := hN5.keep hU
      have hH6 := hH5.keep hU
      have hL6 := hL5.keep hU
      clear U0 hU hS5 hN5 hH5 hR5 hL5 hW CW CH CL
      go_wp2_with fail
      refine (CP _ hN6 hH6).mono ?_; rintro e w' ⟨rfl, rfl⟩
      clear CP hN6 hH6
      cases p with
      | true =>
        have hat := HAT.out rfl
        rw [HQ.out, ← HT.out] at hat
        obtain ⟨htq, hte⟩ := hat
        have HE := Lib.hid (show t + 1 = (pkTo l hosts (k + 1)).length by rw [HST.out, if_pos rfl, List.length_append, ← HT.out]; rfl)
        obtain ⟨ad, rfl, _, x0, _⟩ := hL6.get htq
        rw [hte] at x0
        have htqi : (t : Int) < (q : Int) := by omega
        have g1 : decide ((q : Int) ≤ (t : Int)) = false := decide_eq_false (by omega)
        clear hte hL6
        go_wp2
        go_roundg (n - (k + 1))
        case measure => omega
        case rel => exact ⟨k + 1, t + 1, by omega, rfl, by go_num, by go_num, HE, hWu⟩
      | false =>
        have HE := Lib.hid (show t = (pkTo l hosts (k + 1)).length by rw [HST.out, if_neg (by simp), List.append_nil]; exact HT.out)
        go_wp2
        go_roundg (n - (k + 1))
        case measure => omega
        case rel => exact ⟨k + 1, t, by omega, rfl, by go_num, rfl, HE, hWu⟩
    · obtain rfl : k = n := by omega
      obtain rfl : t = q := by rw [HT.out, HQ.out]
      have hWe := below_step hW4 hW
      have CW := set_Weight hS5 i
      have CH := set_Has hS5 i
      clear hN5 hH5 hR5 hL5 hS4 hN4 hH4 hR4 hL HT
      by_cases hi : 0 ≤ i ∧ i < k
      · have g1 : decide (i < 0) = false := decide_eq_false (by omega)
        have g2 : decide ((k : Int) ≤ i) = false := decide_eq_false (by omega)
        clear hi
        go_wp2_with fail
        refine (law23_awake _).mono ?_; rintro e w9 ⟨rfl, hx9⟩
        go_wp2
        go_ret
        exact ⟨by simp, below_step hWe hx9⟩
      · have e1 : atI (wt l hosts) k i = 0 := by unfold atI; rw [if_neg hi]
        have e2 : atB (hs l hosts) k i = false := by unfold atB; rw [if_neg hi]
        rw [e1] at CW
        rw [e2] at CH
        clear e1 e2
        by_cases hi0 : i < 0
        · have g1 : decide (i < 0) = true := decide_eq_true hi0
          clear hi
          go_wp2_with fail
          refine CW.mono ?_; rintro e w' ⟨rfl, rfl⟩
          go_wp2_with fail
          refine CH.mono ?_; rintro e w' ⟨rfl, rfl⟩
          go_wp2_with fail
          refine (law23_awake _).mono ?_; rintro e w9 ⟨rfl, hx9⟩
          go_wp2
          go_ret
          exact ⟨by simp, below_step hWe hx9⟩
        · have g1 : decide (i < 0) = false := decide_eq_false hi0
          have g2 : decide ((k : Int) ≤ i) = true := decide_eq_true (by omega)
          clear hi
          go_wp2_with fail
          refine CW.mono ?_; rintro e w' ⟨rfl, rfl⟩
          go_wp2_with fail
          refine CH.mono ?_; rintro e w' ⟨rfl, rfl⟩
          go_wp2_with fail
          refine (law23_awake _).mono ?_; rintro e w9 ⟨rfl, hx9⟩
          go_wp2
          go_ret
          exact ⟨by simp, below_step hWe hx9⟩
end Go.Proofs.Ytdkijmiflommeaa
