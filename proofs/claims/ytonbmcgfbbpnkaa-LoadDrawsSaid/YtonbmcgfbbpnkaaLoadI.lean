/- LoadDraws. -/
import Derived.Test.YtonbmcgfbbpnkaaLoadF
import Derived.Test.YtonbmcgfbbpnkaaUnder
import Derived.Deep.DeepCutAuto
set_option linter.unusedVariables false
namespace Go.Proofs.Ytonbmcgfbbpnkaa
open Go.RowKit
set_option maxHeartbeats 4000000
set_option maxRecDepth 100000
theorem pre_leB (l : List Int) : ∀ (k : Nat), (∀ j, j < k → l.getD j 0 ≤ 1048576) → pre l k ≤ 1048576 * k
  | 0, _ => by simp [pre]
  | k + 1, h => by
    have h1 := pre_leB l k (fun j hj => h j (by omega))
    have h2 := h k (by omega)
    have h3 : pos (l.getD k 0) ≤ 1048576 := by unfold pos; split <;> omega
    rw [pre]
    omega
theorem want_bd (l : List Int) (d : Int) (k : Nat) : -1 ≤ wantTo l d k ∧ wantTo l d k < k := by
  rcases want_spec l d k with ⟨e, _⟩ | ⟨i, hi, e, _⟩
  · rw [e]; omega
  · rw [e]; omega
theorem want_in {l : List Int} {d : Int} {n : Nat} (d0 : 0 ≤ d) (d1 : d < pre l n) : ∃ i : Nat, i < n ∧ wantTo l d n = i := by
  rcases want_spec l d n with ⟨e, h⟩ | ⟨i, hi, e, _⟩
  · omega
  · exact ⟨i, hi, e⟩
theorem loadDraws_walk (w : World) (A : Option Addr) (n c : Nat) (l : List Int) (hl : IsList w .i64 A n c l) (d : Int) (d0 : -9223372036854775808 ≤ d) (d1 : d ≤ 9223372036854775807) :
    Calls Try.prog 27 #[.slice A n c, .int .i64 d] w fun e w' => e = .returned (.bool true) ∧ Below w.heap.size w w' := by
  have hcap := hl.cap
  have hsm := hl.small
  go_enter Try.func27, Try.ntmps27
  go_upto_if 15 with (fail)
  go_cut [0] (fun s wx => w = wx ∧ ∃ (n' : Nat) (l' : List Int), s = .slice A n' c ∧ n' ≤ 4 ∧ IsList w .i64 A n' c l')
  case first =>
    by_cases h : n ≤ 4
    · have h40 : decide ((4 : Int) < (n : Int)) = false := decide_eq_false (by omega)
      go_wp2_with fail
      go_meet
      exact ⟨rfl, n, l, rfl, h, hl⟩
    · have h40 : decide ((4 : Int) < (n : Int)) = true := decide_eq_true (by omega)
      have hc40 : 4 ≤ c := by omega
      go_wp2_with fail
      go_meet
      exact ⟨rfl, 4, l.take 4, rfl, Nat.le_refl _, hl.cut (by omega)⟩
  case rest =>
    obtain ⟨rfl, n', l', rfl, hn4, hl'⟩ := hcut
    clear hcap hsm hl
    have hcap := hl'.cap
    have hsm := hl'.small
    go_wp2_with fail
    go_loopg [5, 6, 7] n' (fun gk s5 s6 i wr => ∃ k : Nat, k ≤ n' ∧ gk = n' - k ∧ i = .int .i64 k ∧ s5 = .int .i64 (pre l' k) ∧ s6 = .int .i64 (wantTo l' d k) ∧ (∀ j, j < k → l'.getD j 0 ≤ 1048576) ∧ Below w.heap.size w wr)
    case atStart => exact ⟨0, Nat.zero_le _, rfl, rfl, rfl, rfl, fun j hj => by omega, Below.refl _ _⟩
    case round =>
      obtain ⟨k, hk, rfl, rfl, rfl, rfl, hall, hb⟩ := hrel
      have hpl := pre_leB l' k hall
      have hpn := pre_nn l' k
      have HALL := Lib.hid hall
      clear hall
      have hst : pre l' (k + 1) = pre l' k + pos (l'.getD k 0) := rfl
      have hwt : wantTo l' d (k + 1) = if pre l' k ≤ d ∧ d < pre l' (k + 1) then (k : Int) else wantTo l' d k := rfl
      by_cases hlt : k < n'
      · obtain ⟨ad, rfl, _, x0, xw⟩ := (hl'.keep hb).get hlt
        have xb := i64_of_wf xw
        have HST := Lib.hid hst
        have HWT := Lib.hid hwt
        have hki : (k : Int) < (n' : Int) := by omega
        clear hst hwt xw
        obtain ⟨x, hx⟩ : ∃ x, x = l'.getD k 0 := ⟨_, rfl⟩
        have HX := Lib.hid hx
        rw [← hx] at x0 xb HST
        clear hx
        obtain ⟨p, hp⟩ : ∃ p, p = pre l' k := ⟨_, rfl⟩
        rw [← hp] at hpl hpn HST HWT ⊢
        clear hp
        obtain ⟨T, hT⟩ : ∃ T, T = wantTo l' d k := ⟨_, rfl⟩
        rw [← hT] at HWT ⊢
        clear hT
        by_cases hbig : 1048576 < x
        · go_wp2_with fail
          refine (law24_awake _).mono ?_; rintro e w9 ⟨rfl, hx9⟩
          go_wp2
          go_ret
          exact ⟨rfl, below_step hb hx9⟩
        · have hall2 : ∀ j, j < k + 1 → l'.getD j 0 ≤ 1048576 := by
            intro j hj
            by_cases e : j = k
            · subst e; rw [← HX.out]; omega
            · exact HALL.out j (by omega)
          have HALL2 := Lib.hid hall2
          clear hall2
          by_cases hneg : x < 0
          · have HS := Lib.hid (HST.out.trans (show p + pos x = p by unfold pos; rw [if_pos hneg]; omega))
            have HW := Lib.hid (HWT.out.trans (if_neg (by rw [HS.out]; omega)))
            have e1 : decide (d < p) = true ∨ decide (d < p) = false := by cases decide (d < p) <;> simp
            clear HST HWT
            by_cases hdp : p ≤ d
            · have e2 : decide (p ≤ d) = true := decide_eq_true hdp
              have e3 : decide (d < p) = false := decide_eq_false (by omega)
              clear e1
              go_wp2
              go_roundg (n' - (k + 1))
              case measure => omega
              case rel => exact ⟨k + 1, by omega, rfl, by go_num, by rw [HS.out], by rw [HW.out], HALL2.out, hb⟩
            · have e2 : decide (p ≤ d) = false := decide_eq_false hdp
              clear e1
              go_wp2
              go_roundg (n' - (k + 1))
              case measure => omega
              case rel => exact ⟨k + 1, by omega, rfl, by go_num, by rw [HS.out], by rw [HW.out], HALL2.out, hb⟩
          · have HS := Lib.hid (HST.out.trans (show p + pos x = p + x by unfold pos; rw [if_neg hneg]))
            have hwt := HWT.out
            rw [HS.out] at hwt
            clear HST HWT
            by_cases hdp : p ≤ d
            · have e2 : decide (p ≤ d) = true := decide_eq_true hdp
              by_cases hdx : d < p + x
              · rw [if_pos ⟨hdp, hdx⟩] at hwt
                have HW := Lib.hid hwt
                have e3 : decide (d < p + x) = true := decide_eq_true hdx
                clear hwt
                go_wp2
                go_roundg (n' - (k + 1))
                case measure => omega
                case rel => exact ⟨k + 1, by omega, rfl, by go_num, by rw [HS.out], by rw [HW.out], HALL2.out, hb⟩
              · rw [if_neg (fun h => hdx h.2)] at hwt
                have HW := Lib.hid hwt
                have e3 : decide (d < p + x) = false := decide_eq_false hdx
                clear hwt
                go_wp2
                go_roundg (n' - (k + 1))
                case measure => omega
                case rel => exact ⟨k + 1, by omega, rfl, by go_num, by rw [HS.out], by rw [HW.out], HALL2.out, hb⟩
            · rw [if_neg (fun h => hdp h.1)] at hwt
              have HW := Lib.hid hwt
              have e2 : decide (p ≤ d) = false := decide_eq_false hdp
              clear hwt
              go_wp2
              go_roundg (n' - (k + 1))
              case measure => omega
              case rel => exact ⟨k + 1, by omega, rfl, by go_num, by rw [HS.out], by rw [HW.out], HALL2.out, hb⟩
      · obtain rfl : k = n' := by omega
        clear hst hwt hlt
        have hl1 := hl'.keep hb
        go_wp2_with fail
        refine (load_Level A k c l' d d0 d1 _ hl1).mono ?_; rintro e w' ⟨rfl, q, rfl⟩
        obtain ⟨S, hS⟩ : ∃ S, S = pre l' k := ⟨_, rfl⟩
        rw [← hS] at hpl hpn ⊢
        have HSS := Lib.hid hS
        clear hS
        by_cases hbig : 10000 < S
        · go_wp2_with fail
          refine (law24_awake _).mono ?_; rintro e w9 ⟨rfl, hx9⟩
          go_wp2
          go_ret
          exact ⟨rfl, below_step (below_drewN hb q) hx9⟩
        · have hmk := run_make_row' (P := Try.prog) 126 3 (.int .i64 0) 8 Try.underlying126 Try.infoInt rfl .i64 .i64 k (by omega) (by omega)
          have hg0 := World.rowIs_made (wr.drewN q) (.int .i64 0) k 3
          have hW0 := (below_drewN hb q).alloc hb.size (.cells (madeCells #[.int .i64 0] k) 3)
          have hgB : w.heap.size ≤ wr.heap.size := hb.size
          have hgz : (wr.drewN q).heap.size = wr.heap.size := rfl
          rw [hgz] at hg0
          clear hgz
          go_wp2_with fail
          generalize hG : wr.heap.size = g at *
          generalize (wr.drewN q).alloc (.cells (madeCells #[.int .i64 0] k) 3) = w2 at *
          clear hb hmk hG hl1
          go_loopg [10] S.toNat (fun gk s10 wx => ∃ D : Nat, (D : Int) ≤ S ∧ gk = S.toNat - D ∧ s10 = .int .i64 D ∧ wx.rowIs g 3 k (fun i => .int .i64 (cntI l' i D)) ∧ Below w.heap.size w wx)
          case atStart => exact ⟨0, by omega, rfl, rfl, hg0.congr (fun i hi => by rw [show ((0 : Nat) : Int) = 0 from rfl, cnt_zero]), hW0⟩
          case round =>
            clear hg0 hW0
            obtain ⟨D, hD, rfl, rfl, hg, hW⟩ := hrel
            by_cases hlt : (D : Int) < S
            · obtain ⟨i, hi, hwi⟩ := want_in (l := l') (d := (D : Int)) (n := k) (by omega) (by rw [← HSS.out]; exact hlt)
              have hcn := fun m (hm : m < k) => cnt_next (l := l') (i := m) (n := k) (d := (D : Int)) hm (by omega) (by rw [← HSS.out]; exact hlt)
              have hcb := cnt_bd l' i (D : Int) (by omega)
              rw [hwi] at hcn
              have HWI := Lib.hid hwi
              have HCN := Lib.hid hcn
              clear hwi hcn
              have hik : (i : Int) < (k : Int) := by omega
              go_wp2_with fail
              refine (load_Level A k c l' (D : Int) (by omega) (by omega) _ (hl'.keep hW)).mono ?_; rintro e w' ⟨rfl, q2, rfl⟩
              rw [HWI.out]
              have hg2 := row_drewN hg q2
              have hW2 := below_drewN hW q2
              have hc := hg2.cell hi
              have hfz := hg2.frozen i
              have e1 : decide ((i : Int) < 0) = false := decide_eq_false (by omega)
              have e2 : decide ((k : Int) ≤ (i : Int)) = false := decide_eq_false (by omega)
              have e2' : decide (k ≤ i) = false := decide_eq_false (by omega)
              obtain ⟨C, hC⟩ : ∃ C, C = cntI l' i (D : Int) := ⟨_, rfl⟩
              rw [← hC] at hc hcb
              have HC := Lib.hid hC
              clear hC
              go_wp2
              go_roundg (S.toNat - (D + 1))
              case measure => omega
              case rel =>
                refine ⟨D + 1, by omega, rfl, by go_num, (hg2.set i _).congr ?_, below_own hW2 hgB _ _⟩
                intro m hm
                have h := HCN.out m hm
                rw [show ((D + 1 : Nat) : Int) = (D : Int) + 1 by omega, h]
                by_cases e : m = i
                · subst e
                  rw [if_pos rfl, if_pos rfl, HC.out]
                · rw [if_neg e, if_neg (by omega)]
            · have hDS : (D : Int) = S := by omega
              have hg' : wr.rowIs g 3 k (fun i => .int .i64 (pos (l'.getD i 0))) := hg.congr (fun i hi => by rw [hDS, HSS.out, cnt_all hi])
              have hDS' : decide ((D : Int) < S) = false := decide_eq_false hlt
              have HN := Lib.hid (want_none (l := l') (d := S) (n := k) (.inr (by rw [HSS.out]; exact Int.le_refl _)))
              clear hg hDS hlt
              obtain ⟨wo, rfl⟩ : ∃ wo, wo = wr := ⟨_, rfl⟩
              go_wp2_with fail
              go_loopg [12] k (fun gk s12 wx => ∃ m : Nat, m ≤ k ∧ gk = k - m ∧ s12 = .int .i64 m ∧ Below wo.heap.size wo wx)
              case atStart => exact ⟨0, Nat.zero_le _, rfl, rfl, Below.refl _ _⟩
              case round =>
                obtain ⟨m, hm, rfl, rfl, hx⟩ := hrel
                by_cases hmk : m < k
                · obtain ⟨ad, rfl, _, x0, xw⟩ := (hl'.keep (below_step hW hx)).get hmk
                  have xb := i64_of_wf xw
                  have cg := (row_keep hg' hx).cell hmk
                  have hmi : (m : Int) < (k : Int) := by omega
                  have hm0 : (0 : Int) ≤ (m : Int) := by omega
                  clear xw
                  by_cases hp : 0 ≤ l'.getD m 0
                  · have e1 : pos (l'.getD m 0) = l'.getD m 0 := by unfold pos; rw [if_neg (by omega)]
                    rw [e1] at cg
                    have e2 : decide (0 ≤ l'.getD m 0) = true := decide_eq_true hp
                    have e3 : decide (l'.getD m 0 < 0) = false := decide_eq_false (by omega)
                    clear e1
                    generalize l'.getD m 0 = x at *
                    have e4 : (x != x) = false := by simp
                    go_wp2_with fail
                    go_quiet (fail)
                    go_wp2
                    go_roundg (k - (m + 1))
                    case measure => omega
                    case rel => exact ⟨m + 1, by omega, rfl, by go_num, below_drewN hx _⟩
                  · have e1 : pos (l'.getD m 0) = 0 := by unfold pos; rw [if_pos (by omega)]
                    rw [e1] at cg
                    have e2 : decide (0 ≤ l'.getD m 0) = false := decide_eq_false hp
                    have e3 : decide (l'.getD m 0 < 0) = true := decide_eq_true (by omega)
                    clear e1
                    generalize l'.getD m 0 = x at *
                    go_wp2_with fail
                    go_quiet (fail)
                    go_wp2
                    go_roundg (k - (m + 1))
                    case measure => omega
                    case rel => exact ⟨m + 1, by omega, rfl, by go_num, below_drewN hx _⟩
                · obtain rfl : m = k := by omega
                  have hWx := below_step hW hx
                  go_wp2_with fail
                  refine (load_Level A m c l' S (by omega) (by omega) _ (hl'.keep hWx)).mono ?_; rintro e w' ⟨rfl, q3, rfl⟩
                  rw [HN.out]
                  go_wp2_with fail
                  refine (law24_awake _).mono ?_; rintro e w9 ⟨rfl, hx9⟩
                  go_wp2
                  go_ret
                  exact ⟨rfl, below_step (below_drewN hWx q3) hx9⟩
end Go.Proofs.Ytonbmcgfbbpnkaa
