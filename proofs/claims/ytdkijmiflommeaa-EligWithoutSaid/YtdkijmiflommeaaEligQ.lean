/- EligWithout. -/
import Derived.Test.YtdkijmiflommeaaEligP
set_option linter.unusedVariables false
namespace Go.Proofs.Ytdkijmiflommeaa
open Go.RowKit
set_option maxHeartbeats 8000000
set_option maxRecDepth 100000
def anyT (p : Int → Bool) (l : List Int) (j : Nat) : Bool := (l.take j).any p
theorem anyT_step (p : Int → Bool) (l : List Int) (j : Nat) (hj : j < l.length) : anyT p l (j + 1) = (anyT p l j || p (l.getD j 0)) := by
  unfold anyT
  rw [take_stepI l j hj, List.any_append]
  simp
theorem anyT_all (p : Int → Bool) (l : List Int) : anyT p l l.length = l.any p := by unfold anyT; rw [List.take_length]
theorem keepN_wf (l : List Nd) (hosts nodes : List Int) (h : l.length ≤ 1024) : ∀ z ∈ keepN l hosts nodes, (Lit.int .i64 z).wf = true := fun z hz => picks_wf l hosts h z (List.mem_filter.1 hz).1
theorem keepN_le (l : List Nd) (hosts nodes : List Int) : (keepN l hosts nodes).length ≤ (picks l hosts).length := List.length_filter_le _ _
theorem eligWithout_walk (w : World) (A : Option Addr) (n0 c : Nat) (l0 : List Nd) (hl0 : IsNodes w A n0 c l0) (Ah : Option Addr) (m0 ch : Nat) (h0 : List Int) (hh0 : IsList w .i64 Ah m0 ch h0) (An : Option Addr) (k0 cn : Nat) (d0 : List Int) (hd0 : IsList w .i64 An k0 cn d0) :
    Calls Try.prog 10 #[.slice A n0 c, .slice Ah m0 ch, .slice An k0 cn] w fun e w' => e = .returned (.bool true) ∧ Below w.heap.size w w' := by
  have hmd := law_Made w A n0 c l0 hl0
  have ht0 := Lib.hid (made_tall (l0.take 60))
  have hl60 : (made (l0.take 60)).length ≤ 60 := Nat.le_trans (made_len _) (by rw [List.length_take]; omega)
  generalize made (l0.take 60) = l at *
  have hFw := fun w => law23_Few Ah m0 ch hh0.cap hh0.small w
  have hFn := fun w => law23_Few An k0 cn hd0.cap hd0.small w
  have hH := hh0.cut (k := min m0 30) (by omega)
  have hD := hd0.cut (k := min k0 30) (by omega)
  have hd30 : min k0 30 ≤ 30 := by omega
  generalize min m0 30 = m at *
  generalize h0.take m = hosts at *
  generalize min k0 30 = d at *
  generalize d0.take d = nodes at *
  clear hl0 hh0 hd0
  go_enter Try.func10, Try.ntmps10
  go_wp2_with fail
  refine hmd.mono ?_; rintro e w1 ⟨b, A1, c1, rfl, hT, hN, hx1⟩
  clear hmd
  have ht := ht0.out
  go_wp2_with fail
  refine (hFw _).mono ?_; rintro e w' ⟨rfl, rfl⟩
  clear hFw
  go_wp2_with fail
  refine (hFn _).mono ?_; rintro e w' ⟨rfl, rfl⟩
  clear hFn
  have hH1 := hH.keep hx1
  have hD1 := hD.keep hx1
  go_wp2_with fail
  refine (elig_New hT ht Ah m ch hosts hH1).mono ?_; rintro e w2 ⟨g, gw, gs, vH, rfl, hS, hx2⟩
  have hN2 := hN.keep hx2
  have hT2 := hT.keep hx2
  have hD2 := hD1.keep hx2
  have hW2 := below_step hx1 hx2
  clear hT hN hH1 hH hD hD1 hx1 hx2
  have hqn0 := picks_le l hosts
  have hWo : Calls Try.prog 50 #[.pointer (some ⟨g, 0, none⟩), .slice An d cn] w2 fun e w' => ∃ g' gw' gs' vH', e = .returned (.pointer (some ⟨g', 0, none⟩)) ∧
      SetIs w' g' b l.length gw' gs' (wt l (keepN l hosts nodes)) (hs l (keepN l hosts nodes)) vH' (picks l (keepN l hosts nodes)) ∧ Below w2.heap.size w2 w' := set_Without hT2 ht hS (picks_wf l hosts (by omega)) (by omega) An d cn nodes hD2
  rw [picks_keepN] at hWo
  have hkwf := keepN_wf l hosts nodes (by omega)
  have hkle := keepN_le l hosts nodes
  go_wp2_with fail
  refine hWo.mono ?_; rintro e w3 ⟨g', gw', gs', vH', rfl, hX, hx3⟩
  have hS3 := hS.keep hx3
  have hN3 := hN2.keep hx3
  have hD3 := hD2.keep hx3
  have hW3 := below_step hW2 hx3
  clear hS hN2 hD2 hx3 hW2 hWo hT2
  go_wp2_with fail
  refine (set_List hX hkwf (by omega)).mono ?_; rintro e w4 ⟨AL, cL, rfl, hL, hx4⟩
  have hS4 := hS3.keep hx4
  have hX4 := hX.keep hx4
  have hN4 := hN3.keep hx4
  have hD4 := hD3.keep hx4
  have hW4 := below_step hW3 hx4
  clear hS3 hX hN3 hD3 hx4 hW3
  go_wp2_with fail
  refine (set_List hS4 (picks_wf l hosts (by omega)) (by omega)).mono ?_; rintro e w5 ⟨AM, cM, rfl, hM, hx5⟩
  have hX5 := hX4.keep hx5
  have hN5 := hN4.keep hx5
  have hD5 := hD4.keep hx5
  have hL5 := hL.keep hx5
  have hW5 := below_step hW4 hx5
  clear hS4 hX4 hN4 hD4 hL hx5 hW4
  have HKA := Lib.hid (show (keepN l hosts nodes).length = (kpTo (fun h => nodes.any (outN l h)) (picks l hosts) (picks l hosts).length).length by rw [kpTo_all]; rfl)
  have HKP : ∀ i, i < (picks l hosts).length → (nodes.any (outN l ((picks l hosts).getD i 0))) = false → (kpTo (fun h => nodes.any (outN l h)) (picks l hosts) i).length < (keepN l hosts nodes).length ∧ (keepN l hosts nodes).getD (kpTo (fun h => nodes.any (outN l h)) (picks l hosts) i).length 0 = (picks l hosts).getD i 0 := fun i hi h => kpTo_at (p := fun h => nodes.any (outN l h)) hi h
  have HKS : ∀ i, i < (picks l hosts).length → kpTo (fun h => nodes.any (outN l h)) (picks l hosts) (i + 1) = kpTo (fun h => nodes.any (outN l h)) (picks l hosts) i ++ if (nodes.any (outN l ((picks l hosts).getD i 0))) = true then [] else [(picks l hosts).getD i 0] := fun i hi => kpTo_step (fun h => nodes.any (outN l h)) (picks l hosts) i hi
  have HP := Lib.hid HKP
  have HQ := Lib.hid HKS
  clear HKP HKS hkwf
  obtain ⟨n, hn⟩ : ∃ n, n = l.length := ⟨_, rfl⟩
  rw [← hn] at hX5 hN5 hl60 hqn0 ⊢
  have HN := Lib.hid hn.symm
  clear hn
  generalize hKs : keepN l hosts nodes = K at *
  generalize hHs : picks l hosts = H at *
  clear hKs hHs
  obtain ⟨q, hq⟩ : ∃ q, q = K.length := ⟨_, rfl⟩
  rw [← hq] at hL5 hkle HKA HP ⊢
  have HKq := Lib.hid hq.symm
  clear hq
  obtain ⟨r, hr⟩ : ∃ r, r = H.length := ⟨_, rfl⟩
  rw [← hr] at hM hkle HKA HP HQ hqn0 ⊢
  have HR := Lib.hid hr.symm
  clear hr
  have hcap := hN5.cap
  have hsm := hN5.small
  have hcapL := hL5.cap
  have hsmL := hL5.small
  have hcapM := hM.cap
  have hsmM := hM.small
  have hcapD := hD5.cap
  have hsmD := hD5.small
  have hdl := Lib.hid hD5.len
  go_wp2_with fail
  go_loopg [13, 14, 15, 16] r (fun gk s13 s14 s15 s16 wr => ∃ (i : Nat) (t : Nat), i ≤ r ∧ gk = r - i ∧ s14 = .int .i64 i ∧ s13 = .int .i64 t ∧ Hid (t = (kpTo (fun h => nodes.any (outN l h)) H i).length) ∧ Below w5.heap.size w5 wr)
  case atStart => exact ⟨0, 0, Nat.zero_le _, rfl, rfl, rfl, Lib.hid rfl, Below.refl _ _⟩
  case round =>
    obtain ⟨i, t, hi, rfl, rfl, rfl, HT, hW⟩ := hrel
    have hX6 := hX5.keep hW
    have hN6 := hN5.keep hW
    have hD6 := hD5.keep hW
    have hL6 := hL5.keep hW
    have hM6 := hM.keep hW
    have hti : t ≤ i := by rw [HT.out]; exact kpTo_le _ _ _
    by_cases hir : i < r
    · have hii : (i : Int) < (r : Int) := by omega
      have HPi := Lib.hid (HP.out i hir)
      have HQi := Lib.hid (HQ.out i hir)
      obtain ⟨adM, rfl, _, xi, _⟩ := hM6.get hir
      obtain ⟨h, hh⟩ : ∃ h, h = H.getD i 0 := ⟨_, rfl⟩
      rw [← hh] at HPi HQi xi
      clear hh
      obtain ⟨wo, rfl⟩ : ∃ wo, wo = wr := ⟨_, rfl⟩
      go_wp2_with fail
      go_loopg [15, 16] d (fun gk s15 s16 wr => ∃ j : Nat, j ≤ d ∧ gk = d - j ∧ s16 = .int .i64 j ∧ s15 = .bool (anyT (outN l h) nodes j) ∧ Below wo.heap.size wo wr)
      case atStart => exact ⟨0, Nat.zero_le _, rfl, rfl, rfl, Below.refl _ _⟩
      case round =>
        obtain ⟨j, hj, rfl, rfl, rfl, hV⟩ := hrel
        by_cases hjd : j < d
        · have hji : (j : Int) < (d : Int) := by omega
          have xi2 := cell_keep xi hV
          obtain ⟨adD, rfl, _, xj, _⟩ := (hD6.keep hV).get hjd
          have HST := Lib.hid (anyT_step (outN l h) nodes j (by rw [hdl.out]; exact hjd))
          obtain ⟨z, hz⟩ : ∃ z, z = nodes.getD j 0 := ⟨_, rfl⟩
          rw [← hz] at HST xj
          clear hz
          have HO := Lib.hid (outN_law ht h z)
          rw [HN.out] at HO
          have CB := fun (w : World) (hn : IsNodes w A1 n c1 l) => law23_below hn h z
          have hN7 := hN6.keep hV
          have U0 := cell_under xi2
          have U1 := cell_under xj
          clear xi2 xj
          generalize anyT (outN l h) nodes j = B at *
          cases B with
          | true =>
            have HE := Lib.hid (show anyT (outN l h) nodes (j + 1) = true by rw [HST.out]; rfl)
            clear HST HO CB
            go_wp2_with fail
            refine wp_region_quiet_under (by kernel_rfl) (by kernel_rfl) ?_
            repeat (go_big_quiet_step ((fail)))
            refine wpQuiet_nil ?_
            intro wu hw'
            obtain ⟨pq, hw''⟩ := hw'
            have hU := below_eq hw''
            clear hw'' pq
            have hVu := below_step hV hU
            clear U0 U1 hU hV
            go_wp2
            go_roundg (d - (j + 1))
            case measure => omega
            case rel => exact ⟨j + 1, by omega, rfl, by go_num, by rw [HE.out], hVu⟩
          | false =>
            by_cases hz0 : 0 ≤ z
            · have g1 : decide ((0 : Int) ≤ z) = true := decide_eq_true hz0
              by_cases hz1 : z < (n : Int)
              · have g2 : decide (z < (n : Int)) = true := decide_eq_true hz1
                have HE := Lib.hid (show anyT (outN l h) nodes (j + 1) = belF l z 4 h by rw [HST.out, HO.out, decide_eq_true ⟨hz0, hz1⟩]; rfl)
                clear HST HO hz0 hz1
                generalize belF l z 4 h = bb at *
                go_wp2_with fail
                refine wp_region_quiet_under (by kernel_rfl) (by kernel_rfl) ?_
                repeat (go_big_quiet_step (((go_at_call 49; exact calls_under_same (CB _ (hN7.keep (under_below _ _)))))))
                refine wpQuiet_nil ?_
                intro wu hw'
                obtain ⟨pq, hw''⟩ := hw'
                have hU := below_eq hw''
                clear hw'' pq
                have hVu := below_step hV hU
                clear U0 U1 hU hV CB hN7
                go_wp2
                go_roundg (d - (j + 1))
                case measure => omega
                case rel => exact ⟨j + 1, by omega, rfl, by go_num, by rw [HE.out], hVu⟩
              · have g2 : decide (z < (n : Int)) = false := decide_eq_false hz1
                have HE := Lib.hid (show anyT (outN l h) nodes (j + 1) = false by rw [HST.out, HO.out, decide_eq_false (by omega)]; rfl)
                clear HST HO hz0 hz1 CB
                go_wp2_with fail
                refine wp_region_quiet_under (by kernel_rfl) (by kernel_rfl) ?_
                repeat (go_big_quiet_step ((fail)))
                refine wpQuiet_nil ?_
                intro wu hw'
                obtain ⟨pq, hw''⟩ := hw'
                have hU := below_eq hw''
                clear hw'' pq
                have hVu := below_step hV hU
                clear U0 U1 hU hV
                go_wp2
                go_roundg (d - (j + 1))
                case measure => omega
                case rel => exact ⟨j + 1, by omega, rfl, by go_num, by rw [HE.out], hVu⟩
            · have g1 : decide ((0 : Int) ≤ z) = false := decide_eq_false hz0
              have HE := Lib.hid (show anyT (outN l h) nodes (j + 1) = false by rw [HST.out, HO.out, decide_eq_false (by omega)]; rfl)
              clear HST HO hz0 CB
              go_wp2_with fail
              refine wp_region_quiet_under (by kernel_rfl) (by kernel_rfl) ?_
              repeat (go_big_quiet_step ((fail)))
              refine wpQuiet_nil ?_
              intro wu hw'
              obtain ⟨pq, hw''⟩ := hw'
              have hU := below_eq hw''
              clear hw'' pq
              have hVu := below_step hV hU
              clear U0 U1 hU hV
              go_wp2
              go_roundg (d - (j + 1))
              case measure => omega
              case rel => exact ⟨j + 1, by omega, rfl, by go_num, by rw [HE.out], hVu⟩
        · obtain rfl : j = d := by omega
          have HA := Lib.hid (show anyT (outN l h) nodes j = nodes.any (outN l h) by rw [← hdl.out]; exact anyT_all _ _)
          have xi2 := cell_keep xi hV
          have hL7 := hL6.keep hV
          have hWv := below_step hW hV
          obtain ⟨B, hB⟩ : ∃ B, B = anyT (outN l h) nodes j := ⟨_, rfl⟩
          rw [← hB] at HA ⊢
          rw [← HA.out] at HPi HQi
          clear hB hV hW xi hX6 hN6 hD6 hL6 hM6
          cases B with
          | true =>
            have HE := Lib.hid (show t = (kpTo (fun h => nodes.any (outN l h)) H (i + 1)).length by rw [HQi.out, if_pos rfl, List.append_nil]; exact HT.out)
            clear HPi HQi
            go_wp2
            go_roundg (r - (i + 1))
            case measure => omega
            case rel => exact ⟨i + 1, t, by omega, rfl, by go_num, rfl, HE, hWv⟩
          | false =>
            have hat := HPi.out rfl
            rw [← HT.out] at hat
            obtain ⟨htq, hte⟩ := hat
            have HE := Lib.hid (show t + 1 = (kpTo (fun h => nodes.any (outN l h)) H (i + 1)).length by rw [HQi.out, if_neg (by simp), List.length_append, ← HT.out]; rfl)
            obtain ⟨ad, rfl, _, x0, _⟩ := hL7.get htq
            rw [hte] at x0
            have htqi : (t : Int) < (q : Int) := by omega
            have g1 : decide ((q : Int) ≤ (t : Int)) = false := decide_eq_false (by omega)
            clear hte hL7 HPi HQi
            have U0 := cell_under x0
            have U1 := cell_under xi2
            have g3 : decide (q ≤ t) = false := decide_eq_false (by omega)
            have g4 : ¬ q ≤ t := by omega
            clear x0 xi2
            go_wp2_with fail
            refine wp_region_quiet_under (by kernel_rfl) (by kernel_rfl) ?_
            repeat (go_big_quiet_step ((fail)))
            refine wpQuiet_nil ?_
            intro wu hw'
            obtain ⟨pq, hw''⟩ := hw'
            have hU := below_eq hw''
            clear hw'' pq
            have hWu := below_step hWv hU
            clear U0 U1 hU hWv
            go_wp2
            go_roundg (r - (i + 1))
            case measure => omega
            case rel => exact ⟨i + 1, t + 1, by omega, rfl, by go_num, by go_num, HE, hWu⟩
    · obtain rfl : i = r := by omega
      obtain rfl : t = q := by rw [HT.out, HKA.out]
      have hWe := below_step hW5 hW
      clear HP HQ hX5 hN5 hD5 hL5 hM hM6 hD6 HT
      go_wp2_with fail
      refine (law23_Weights hN6 hL6 ht (by omega)).mono ?_; rintro e w7 ⟨gr, rfl, hR7, hx7⟩
      have hX7 := hX6.keep hx7
      have hW7 := below_step hWe hx7
      clear hX6 hN6 hL6 hx7 hWe hW
      go_wp2_with fail
      go_loopg [18] n (fun gk s18 wr => ∃ k : Nat, k ≤ n ∧ gk = n - k ∧ s18 = .int .i64 k ∧ Below w7.heap.size w7 wr)
      case atStart => exact ⟨0, Nat.zero_le _, rfl, rfl, Below.refl _ _⟩
      case round =>
        obtain ⟨k, hk, rfl, rfl, hV⟩ := hrel
        by_cases hkn : k < n
        · have hki : (k : Int) < (n : Int) := by omega
          have hX8 := hX7.keep hV
          have rk := (row_keep hR7 hV).cell hkn
          have CW := fun (w : World) (h : SetIs w g' b n gw' gs' (wt l K) (hs l K) vH' K) => set_Weight h k
          have eW : atI (wt l K) n k = wt l K k := by unfold atI; rw [if_pos ⟨by omega, hki⟩]; rfl
          rw [eW] at CW
          generalize wt l K k = wk at *
          clear eW
          have U0 := cell_under rk
          clear rk
          go_wp2_with fail
          refine wp_region_quiet_under (by kernel_rfl) (by kernel_rfl) ?_
          repeat (go_big_quiet_step (((go_at_call 42; exact calls_under_same (CW _ (hX8.keep (under_below _ _)))))))
          refine wpQuiet_nil ?_
          intro wu hw'
          obtain ⟨pq, hw''⟩ := hw'
          have hU := below_eq hw''
          clear hw'' pq
          have hVu := below_step hV hU
          clear U0 hU hV CW hX8
          go_wp2
          go_roundg (n - (k + 1))
          case measure => omega
          case rel => exact ⟨k + 1, by omega, rfl, by go_num, hVu⟩
        · obtain rfl : k = n := by omega
          have hWz := below_step hW7 hV
          clear hX7 hR7 hV hW7
          go_wp2_with fail
          refine (law23_awake _).mono ?_; rintro e w9 ⟨rfl, hx9⟩
          go_wp2
          go_ret
          exact ⟨by simp, below_step hWz hx9⟩
end Go.Proofs.Ytdkijmiflommeaa
