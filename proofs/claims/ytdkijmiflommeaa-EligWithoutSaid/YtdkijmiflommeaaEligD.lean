/- What a set tells: Weight, Has, List; the law's Few and Weights. -/
import Derived.Test.YtdkijmiflommeaaEligC
set_option linter.unusedVariables false
namespace Go.Proofs.Ytdkijmiflommeaa
open Go.RowKit
set_option maxHeartbeats 4000000
set_option maxRecDepth 100000
section
variable {w : World} {g b n gw gs : Nat} {W : Nat → Int} {S : Nat → Bool} {vH : Value} {H : List Int}
theorem set_none (h : SetIs w g b n gw gs W S vH H) : Calls Try.prog 69 #[.pointer (some ⟨g, 0, none⟩)] w fun e w' => e = .returned (.bool false) ∧ w = w' := by
  obtain ⟨c0, c1, c2, c3, _⟩ := h.blk.cells4
  go_enter Try.func69, Try.ntmps69
  go_wp2
  go_ret
  exact ⟨rfl, rfl⟩
def atI (W : Nat → Int) (n : Nat) (i : Int) : Int := if 0 ≤ i ∧ i < n then W i.toNat else 0
def atB (S : Nat → Bool) (n : Nat) (i : Int) : Bool := if 0 ≤ i ∧ i < n then S i.toNat else false
theorem set_Weight (h : SetIs w g b n gw gs W S vH H) (i : Int) : Calls Try.prog 42 #[.pointer (some ⟨g, 0, none⟩), .int .i64 i] w fun e w' => e = .returned (.int .u64 (atI W n i)) ∧ w = w' := by
  have hN := set_none h
  obtain ⟨c0, c1, c2, c3, _⟩ := h.blk.cells4
  by_cases h0 : 0 ≤ i
  · have g0 : decide (i < 0) = false := decide_eq_false (by omega)
    by_cases h1 : i < n
    · obtain ⟨j, rfl⟩ : ∃ j : Nat, i = j := ⟨i.toNat, by omega⟩
      have g1 : decide ((n : Int) ≤ (j : Int)) = false := decide_eq_false (by omega)
      have hc := h.rW.cell (i := j) (by omega)
      have HE := Lib.hid (show atI W n j = W j by unfold atI; rw [if_pos ⟨h0, h1⟩]; rfl)
      have hj0 : (0 : Int) ≤ (j : Int) := h0
      generalize W j = z at *
      go_enter Try.func42, Try.ntmps42
      go_wp2_with fail
      refine hN.mono ?_; rintro e w' ⟨rfl, rfl⟩
      go_wp2
      go_ret
      exact ⟨by rw [HE.out]; rfl, rfl⟩
    · have g1 : decide ((n : Int) ≤ i) = true := decide_eq_true (by omega)
      have HE := Lib.hid (show atI W n i = 0 by unfold atI; rw [if_neg (by omega)])
      go_enter Try.func42, Try.ntmps42
      go_wp2_with fail
      refine hN.mono ?_; rintro e w' ⟨rfl, rfl⟩
      go_wp2
      go_ret
      exact ⟨by rw [HE.out]; rfl, rfl⟩
  · have g0 : decide (i < 0) = true := decide_eq_true (by omega)
    have HE := Lib.hid (show atI W n i = 0 by unfold atI; rw [if_neg (by omega)])
    go_enter Try.func42, Try.ntmps42
    go_wp2_with fail
    refine hN.mono ?_; rintro e w' ⟨rfl, rfl⟩
    go_wp2
    go_ret
    exact ⟨by rw [HE.out]; rfl, rfl⟩
theorem set_Has (h : SetIs w g b n gw gs W S vH H) (i : Int) : Calls Try.prog 43 #[.pointer (some ⟨g, 0, none⟩), .int .i64 i] w fun e w' => e = .returned (.bool (atB S n i)) ∧ w = w' := by
  have hN := set_none h
  obtain ⟨c0, c1, c2, c3, _⟩ := h.blk.cells4
  by_cases h0 : 0 ≤ i
  · have g0 : decide (0 ≤ i) = true := decide_eq_true h0
    by_cases h1 : i < n
    · obtain ⟨j, rfl⟩ : ∃ j : Nat, i = j := ⟨i.toNat, by omega⟩
      have g1 : decide ((j : Int) < (n : Int)) = true := decide_eq_true h1
      have hc := h.rS.cell (i := j) (by omega)
      have HE := Lib.hid (show atB S n j = S j by unfold atB; rw [if_pos ⟨h0, h1⟩]; rfl)
      generalize S j = z at *
      go_enter Try.func43, Try.ntmps43
      go_wp2_with fail
      refine hN.mono ?_; rintro e w' ⟨rfl, rfl⟩
      go_wp2
      go_ret
      exact ⟨by rw [HE.out]; rfl, rfl⟩
    · have g1 : decide (i < (n : Int)) = false := decide_eq_false h1
      have HE := Lib.hid (show atB S n i = false by unfold atB; rw [if_neg (by omega)])
      go_enter Try.func43, Try.ntmps43
      go_wp2_with fail
      refine hN.mono ?_; rintro e w' ⟨rfl, rfl⟩
      go_wp2
      go_ret
      exact ⟨by rw [HE.out]; rfl, rfl⟩
  · have g0 : decide (0 ≤ i) = false := decide_eq_false h0
    have HE := Lib.hid (show atB S n i = false by unfold atB; rw [if_neg (by omega)])
    go_enter Try.func43, Try.ntmps43
    go_wp2_with fail
    refine hN.mono ?_; rintro e w' ⟨rfl, rfl⟩
    go_wp2
    go_ret
    exact ⟨by rw [HE.out]; rfl, rfl⟩
theorem set_List (h : SetIs w g b n gw gs W S vH H) (hwf : ∀ z ∈ H, (Lit.int .i64 z).wf = true) (hl : H.length ≤ 1024) : Calls Try.prog 41 #[.pointer (some ⟨g, 0, none⟩)] w fun e w' => ∃ A c, e = .returned (.slice A H.length c) ∧ IsList w' .i64 A H.length c H ∧ Below w.heap.size w w' := by
  have hN := set_none h
  obtain ⟨c0, c1, c2, c3, _⟩ := h.blk.cells4
  obtain ⟨iI, hiI, hzI, hzI1, hzI2⟩ := info_parts Try.infoI
  obtain ⟨A0, a0, rfl, hI0, _⟩ := own_list h.rH hwf (by omega)
  have hR := hI0.reads
  go_enter Try.func41, Try.ntmps41
  go_wp2_with fail
  refine hN.mono ?_; rintro e w' ⟨rfl, rfl⟩
  go_wp2_with (at_builtin; go_loud (refine wpList_append_any _ rfl _ (.tmp 8) _ rfl w.heap.size 3 iI _ 1 8 Try.underlying40 hiI hzI hzI1 hzI2 rfl (by decide) (.slice none 0 0) 0 [] rfl (World.ownsRow_nil _ _ _ _) _ A0 H.length a0 (ints H) rfl hR (ints_one' H) (by simp only [maxLen]; omega) (by omega) (Nat.le_refl _) ?_; intro v6 w6 hown6 hg6 hat6))
  obtain ⟨A1, a1, rfl, hI1, _⟩ := own_list (l := H) (n := H.length) (by simpa using hown6) hwf (by omega)
  have hW6 := push_below (Below.refl w.heap.size w) hg6 (fun k hk => by simp [Value.ownBlock] at hk)
  go_wp2
  go_ret
  exact ⟨A1, a1, by simp, hI1, hW6⟩
end
theorem law23_Few (A : Option Addr) (n c : Nat) (hn : n ≤ c) (hc : c ≤ 9223372036854775807) (w : World) :
    Calls Try.prog 38 #[.slice A n c] w fun e w' => e = .returned (.slice A (min n 30) c) ∧ w = w' := by
  by_cases h : n ≤ 30
  · have h30 : decide ((30 : Int) < (n : Int)) = false := decide_eq_false (by omega)
    have hm := Lib.hid (show n = min n 30 by omega)
    go_enter Try.func38, Try.ntmps38
    go_wp2
    go_ret
    exact ⟨by rw [← hm.out]; rfl, rfl⟩
  · have h30 : decide ((30 : Int) < (n : Int)) = true := decide_eq_true (by omega)
    have hm := Lib.hid (show 30 = min n 30 by omega)
    have h3 : 30 ≤ c := by omega
    go_enter Try.func38, Try.ntmps38
    go_wp2
    go_ret
    exact ⟨by rw [← hm.out]; rfl, rfl⟩
/-- The sum of the weights of those of the first k nodes that are right below one. -/
def sumUp (l : List Nd) (hosts : List Int) (i k : Nat) : Int := ((List.range k).filter fun k => (l.getD k nd0).above == (i : Int)).foldl (fun a k => IntKind.u64.wrap (a + wt l hosts k)) 0
theorem sumUp_step (l : List Nd) (hosts : List Int) (i k : Nat) : sumUp l hosts i (k + 1) = if (l.getD k nd0).above = i then IntKind.u64.wrap (sumUp l hosts i k + wt l hosts k) else sumUp l hosts i k := by
  unfold sumUp
  rw [List.range_succ, List.filter_append, List.foldl_append]
  by_cases h : (l.getD k nd0).above = i
  · rw [if_pos h]
    have : List.filter (fun k => (l.getD k nd0).above == (i : Int)) [k] = [k] := by rw [List.filter_cons, if_pos (by simpa using h)]; rfl
    rw [this]; rfl
  · rw [if_neg h]
    have : List.filter (fun k => (l.getD k nd0).above == (i : Int)) [k] = [] := by rw [List.filter_cons, if_neg (by simpa using h)]; rfl
    rw [this]; rfl
theorem sumUp_start {l : List Nd} (h : Tall l) (hosts : List Int) (i : Nat) (hi : i < l.length) : sumUp l hosts i (i + 1) = 0 := by
  unfold sumUp
  have : (List.range (i + 1)).filter (fun k => (l.getD k nd0).above == (i : Int)) = [] := by
    rw [List.filter_eq_nil_iff]
    intro k hk
    rw [List.mem_range] at hk
    have := (tall_rises h) k (by omega)
    simp only [beq_iff_eq]
    omega
  rw [this]; rfl
theorem sumUp_all (l : List Nd) (hosts : List Int) (i : Nat) : sumUp l hosts i l.length = (kidsN l i).foldl (fun a k => IntKind.u64.wrap (a + wt l hosts k)) 0 := rfl
theorem wt_law {l : List Nd} (h : Tall l) (hosts : List Int) {i : Nat} (hi : i < l.length) : wt l hosts i = if hs l hosts i = true then (if 0 < (l.getD i nd0).weight then (l.getD i nd0).weight else sumUp l hosts i l.length) else 0 := by
  cases hh : hs l hosts i with
  | false =>
    rw [if_neg (by simp)]
    exact wt_none h hosts 4 i hi (by have := (tall_head h i hi).kind0; omega) hh
  | true =>
    rw [if_pos rfl]
    by_cases hk : (l.getD i nd0).kind = 4
    · rw [hs_host h hosts hi hk] at hh
      rw [wt_host h hosts hi hk, hh, if_pos rfl, if_pos (pk_host hh).2.1]
    · rw [wt_node h hosts hi hk, hh]
      by_cases hw : 0 < (l.getD i nd0).weight
      · rw [if_pos ⟨hw, rfl⟩, if_pos hw]
      · rw [if_neg (by rintro ⟨h1, _⟩; exact hw h1), if_neg hw, sumUp_all]
theorem law23_Weights {A A' : Option Addr} {n c n' c' : Nat} {l : List Nd} {hosts : List Int} {w : World} (h : IsNodes w A n c l) (h' : IsList w .i64 A' n' c' hosts) (ht : Tall l) (hn : n ≤ 1024) :
    Calls Try.prog 40 #[.slice A n c, .slice A' n' c'] w fun e w' => ∃ g : Nat, e = .returned (.slice (some ⟨g, 0, none⟩) n n) ∧ w'.rowIs g 30 n (fun j => .int .u64 (wt l hosts j)) ∧ Below w.heap.size w w' := by
  have hcap := h.cap
  have hsm := h.small
  have hlen := Lib.hid h.len
  have hm1 := run_make_row' (P := Try.prog) 63 30 (.int .u64 0) 8 Try.underlying63 Try.infoU64e rfl .i64 .i64 n (by omega) (by omega)
  go_enter Try.func40, Try.ntmps40
  go_wp2_with fail
  have hg0 := World.rowIs_made w (.int .u64 0) n 30
  have hW0 : Below w.heap.size w (w.alloc (.cells (madeCells #[.int .u64 0] n) 30)) := (Below.refl _ _).alloc (Nat.le_refl _) _
  clear hm1
  generalize w.alloc (.cells (madeCells #[.int .u64 0] n) 30) = u at *
  go_loopg [6, 7] n (fun gk s6 s7 wr => ∃ (k : Nat) (z : Int), k ≤ n ∧ k = gk ∧ z = (k : Int) - 1 ∧ s6 = .int .i64 z ∧ wr.rowIs w.heap.size 30 n (fun j => .int .u64 (if k ≤ j then wt l hosts j else 0)) ∧ Below w.heap.size w wr)
  case atStart => exact ⟨n, _, Nat.le_refl _, rfl, rfl, rfl, hg0.congr (fun j hj => by rw [if_neg (by omega)]), hW0⟩
  case round =>
    clear hg0 hW0
    obtain ⟨k, z, hk, rfl, hz, rfl, hg, hW⟩ := hrel
    by_cases hk0 : k = 0
    · subst hk0
      obtain rfl : z = -1 := by omega
      have hg2 := hg.congr (g := fun j => .int .u64 (wt l hosts j)) (fun j hj => by rw [if_pos (Nat.zero_le _)])
      clear hz
      go_wp2
      go_ret
      exact ⟨w.heap.size, rfl, hg2, hW⟩
    · obtain ⟨i, rfl⟩ : ∃ i, k = i + 1 := ⟨k - 1, by omega⟩
      have hi : i < n := by omega
      obtain rfl : z = (i : Int) := by omega
      clear hz hk0
      have hi0 : (0 : Int) ≤ (i : Int) := by omega
      have hii : (i : Int) < (n : Int) := by omega
      have hil : i < l.length := by rw [hlen.out]; exact hi
      have HWT := Lib.hid (wt_law ht hosts hil)
      have HSt := Lib.hid (sumUp_start ht hosts i hil)
      have HWB := Lib.hid (tall_head ht i hil)
      rw [hlen.out] at HWT
      obtain ⟨ad, rfl, hbk, d0, d1, d2, d3, d4, d5, d6⟩ := (h.keep hW).at_ hi
      have hHas := law23_has (h.keep hW) (h'.keep hW) ht i hi
      have hcl := hg.cell (i := i) hi
      have hfz := hg.frozen i
      rw [if_neg (by omega)] at hcl
      generalize hs l hosts i = B at *
      obtain ⟨x, hx⟩ : ∃ x, x = l.getD i nd0 := ⟨_, rfl⟩
      rw [← hx] at d0 d1 d2 d3 d4 d5 d6 HWB HWT
      clear hx
      cases B with
      | false =>
        have hg2 := hg.congr (g := fun j => .int .u64 (if i ≤ j then wt l hosts j else 0)) (fun j hj => by
          by_cases e : j = i
          · subst e
            rw [if_neg (by omega), if_pos (Nat.le_refl _), HWT.out, if_neg (by simp)]
          · by_cases e2 : i + 1 ≤ j
            · rw [if_pos e2, if_pos (by omega)]
            · rw [if_neg e2, if_neg (by omega)])
        go_wp2_with fail
        refine hHas.mono ?_; rintro e w' ⟨rfl, rfl⟩
        go_wp2
        go_roundg i
        case measure => omega
        case rel => exact ⟨i, _, by omega, rfl, rfl, by go_num, hg2, hW⟩
      | true =>
        rw [if_pos rfl] at HWT
        by_cases hw : 0 < x.weight
        · have f1 : decide (0 < x.weight) = true := decide_eq_true hw
          rw [if_pos hw] at HWT
          have hlo := HWB.out.weight0
          have hhi := HWB.out.weight1
          have kq : IntKind.u64.wrap x.weight = x.weight := by rw [IntKind.wrap_u64]; omega
          have hg2 := (hg.set i (.int .u64 x.weight)).congr (g := fun j => .int .u64 (if i ≤ j then wt l hosts j else 0)) (fun j hj => by
            by_cases e : j = i
            · subst e
              rw [if_pos rfl, if_pos (Nat.le_refl _), HWT.out]
            · rw [if_neg e]
              by_cases e2 : i + 1 ≤ j
              · rw [if_pos e2, if_pos (by omega)]
              · rw [if_neg e2, if_neg (by omega)])
          have hW2 := below_own hW (Nat.le_refl _) i (.int .u64 x.weight)
          clear hw
          go_wp2_with fail
          refine hHas.mono ?_; rintro e w' ⟨rfl, rfl⟩
          go_wp2
          go_roundg i
          case measure => omega
          case rel => exact ⟨i, _, by omega, rfl, rfl, by go_num, hg2, hW2⟩
        · have f1 : decide (0 < x.weight) = false := decide_eq_false hw
          rw [if_neg hw] at HWT
          have hgi := hg.congr (g := fun j => .int .u64 (if j = i then sumUp l hosts i (i + 1) else if i ≤ j then wt l hosts j else 0)) (fun j hj => by
            by_cases e : j = i
            · subst e
              rw [if_neg (by omega), if_pos rfl, HSt.out]
            · rw [if_neg e]
              by_cases e2 : i + 1 ≤ j
              · rw [if_pos e2, if_pos (by omega)]
              · rw [if_neg e2, if_neg (by omega)])
          clear hw hg hcl hfz HSt HWB
          obtain ⟨wo, rfl⟩ : ∃ wo, wo = wr := ⟨_, rfl⟩
          go_wp2_with fail
          refine hHas.mono ?_; rintro e w' ⟨rfl, rfl⟩
          go_wp2_with fail
          clear d0 d1 d2 d3 d4 d5 d6
          go_loopg [7] (n - (i + 1)) (fun gk s7 wx => ∃ k : Nat, i < k ∧ k ≤ n ∧ gk = n - k ∧ s7 = .int .i64 k ∧ wx.rowIs w.heap.size 30 n (fun j => .int .u64 (if j = i then sumUp l hosts i k else if i ≤ j then wt l hosts j else 0)) ∧ Below w.heap.size w wx)
          case atStart => exact ⟨i + 1, Nat.lt_succ_self i, by omega, rfl, by go_num, hgi, hW⟩
          case round =>
            clear hgi hW hHas
            obtain ⟨k, hik, hkn, rfl, rfl, hg, hW⟩ := hrel
            by_cases hlt : k < n
            · obtain ⟨ad2, e2, _, d0, d1, d2, d3, d4, d5, d6⟩ := (h.keep hW).at_ hlt
              obtain rfl : ad = ad2 := by injection e2
              have hki : (k : Int) < (n : Int) := by omega
              have HSU := Lib.hid (sumUp_step l hosts i k)
              have ci := hg.cell (i := i) hi
              have ck := hg.cell (i := k) hlt
              rw [if_pos rfl] at ci
              rw [if_neg (by omega), if_pos (by omega)] at ck
              generalize l.getD k nd0 = y at *
              by_cases ha : y.above = i
              · have g1 : (y.above == (i : Int)) = true := by rw [beq_iff_eq]; exact ha
                rw [if_pos ha] at HSU
                obtain ⟨sm, hsm0⟩ : ∃ sm, sm = sumUp l hosts i k := ⟨_, rfl⟩
                obtain ⟨wk, hwk0⟩ : ∃ wk, wk = wt l hosts k := ⟨_, rfl⟩
                rw [← hsm0, ← hwk0] at HSU
                rw [← hsm0] at ci
                rw [← hwk0] at ck
                clear hsm0 hwk0 ha
                go_upto_region 12 with (fail)
                have U1 := cell_under ci
                have U2 := cell_under ck
                clear ci ck
                refine wp_region_under_tail 11 (by kernel_rfl) (by kernel_rfl) ?_
                simp only [List.take_succ_cons, List.take_zero, List.drop_succ_cons, List.drop_zero]
                repeat (go_big_quiet_step ((fail)))
                refine wpQuiet_nil ?_
                intro wu hw'
                obtain ⟨pq, hw''⟩ := hw'
                have hU := below_eq hw''
                clear hw'' pq
                have hg1 := row_keep hg hU
                have hW1 := below_step hW hU
                have hfz := hg1.frozen i
                have hcl := hg1.cell (i := i) hi
                have hg2 := (hg1.set i (.int .u64 (IntKind.u64.wrap (sm + wk)))).congr (g := fun j => .int .u64 (if j = i then sumUp l hosts i (k + 1) else if i ≤ j then wt l hosts j else 0)) (fun j hj => by
                  by_cases e : j = i
                  · rw [if_pos e, if_pos e, HSU.out]
                  · rw [if_neg e, if_neg e, if_neg e])
                have hW2 := below_own hW1 (Nat.le_refl _) i (.int .u64 (IntKind.u64.wrap (sm + wk)))
                clear U1 U2 hU hg hW hg1 hW1 d0 d1 d2 d3 d4 d5 d6
                go_wp2
                go_roundg (n - (k + 1))
                case measure => omega
                case rel => exact ⟨k + 1, by omega, by omega, rfl, by go_num, hg2, hW2⟩
              · have g1 : (y.above == (i : Int)) = false := by rw [beq_eq_false_iff_ne]; exact ha
                rw [if_neg ha] at HSU
                have hg2 := hg.congr (g := fun j => .int .u64 (if j = i then sumUp l hosts i (k + 1) else if i ≤ j then wt l hosts j else 0)) (fun j hj => by rw [HSU.out])
                clear ha ci ck
                go_wp2
                go_roundg (n - (k + 1))
                case measure => omega
                case rel => exact ⟨k + 1, by omega, by omega, rfl, by go_num, hg2, hW⟩
            · obtain rfl : k = n := by omega
              have hg2 := hg.congr (g := fun j => .int .u64 (if i ≤ j then wt l hosts j else 0)) (fun j hj => by
                by_cases e : j = i
                · subst e; rw [if_pos rfl, if_pos (Nat.le_refl _), HWT.out]
                · rw [if_neg e])
              go_wp2
              go_roundg i
              case measure => omega
              case rel => exact ⟨i, _, by omega, rfl, rfl, by go_num, hg2, hW⟩
end Go.Proofs.Ytdkijmiflommeaa
