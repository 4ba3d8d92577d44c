/- Lemmas for the claim's proof: EligD EligE EligF EligH Num Bits BitLen. -/
import Derived.WalkKit
import Derived.WalkSpells
import Derived.WalkLawsBesides
import Derived.Shelf.Bits.Mul64
import Derived.Shelf.Strconv.Itoa0
import Derived.Shelf.Small.Bits
import Derived.Laws.Externs
import Derived.Test.YtblbgafadadbmaaRows
import Derived.Lib.BitFns
import Derived.Test.YtblbgafadadbmaaQ12
section
/- What a set tells: Weight, Has, List; the law's Few and Weights. -/
set_option linter.unusedVariables false
namespace Go.Proofs.Ytblbgafadadbmaa
open Go.RowKit
set_option maxHeartbeats 4000000
set_option maxRecDepth 100000
section
variable {w : World} {g b n gw gs : Nat} {W : Nat → Int} {S : Nat → Bool} {vH : Value} {H : List Int}
theorem set_none (h : SetIs w g b n gw gs W S vH H) : Calls Try.prog 53 #[.pointer (some ⟨g, 0, none⟩)] w fun e w' => e = .returned (.bool false) ∧ w = w' := by
  obtain ⟨c0, c1, c2, c3, _⟩ := h.blk.cells4
  go_enter Try.func53, Try.ntmps53
  go_wp2
  go_ret
  exact ⟨rfl, rfl⟩
def atI (W : Nat → Int) (n : Nat) (i : Int) : Int := if 0 ≤ i ∧ i < n then W i.toNat else 0
def atB (S : Nat → Bool) (n : Nat) (i : Int) : Bool := if 0 ≤ i ∧ i < n then S i.toNat else false
theorem set_Weight (h : SetIs w g b n gw gs W S vH H) (i : Int) : Calls Try.prog 20 #[.pointer (some ⟨g, 0, none⟩), .int .i64 i] w fun e w' => e = .returned (.int .u64 (atI W n i)) ∧ w = w' := by
  have hN := set_none h
  obtain ⟨c0, c1, c2, c3, _⟩ := h.blk.cells4
  by_cases h0 : 0 ≤ i
  · have g0 : decide (i < 0) = false := decide_eq_false (by omega)
    by_cases h1 : i < n
    · obtain ⟨j, rfl⟩ : ∃ j : Nat, i = j := ⟨i.toNat, by omega⟩
      have g1 : decide ((n : Int) ≤ (j : Int)) = false := decide_eq_false (by omega)
      have hc := h.rW.cell (i := j) (by omega)
      have HE := Lib.hid (show atI W n j = W j by unfold atI; rw [if_pos ⟨h0, h1⟩]; rfl)
      have hj0 : (0 : Int) ≤ (j : Int) := h0
      generalize W j = z at *
      go_enter Try.func20, Try.ntmps20
      go_wp2_with fail
      refine hN.mono ?_; rintro e w' ⟨rfl, rfl⟩
      go_wp2
      go_ret
      exact ⟨by rw [HE.out]; rfl, rfl⟩
    · have g1 : decide ((n : Int) ≤ i) = true := decide_eq_true (by omega)
      have HE := Lib.hid (show atI W n i = 0 by unfold atI; rw [if_neg (by omega)])
      go_enter Try.func20, Try.ntmps20
      go_wp2_with fail
      refine hN.mono ?_; rintro e w' ⟨rfl, rfl⟩
      go_wp2
      go_ret
      exact ⟨by rw [HE.out]; rfl, rfl⟩
  · have g0 : decide (i < 0) = true := decide_eq_true (by omega)
    have HE := Lib.hid (show atI W n i = 0 by unfold atI; rw [if_neg (by omega)])
    go_enter Try.func20, Try.ntmps20
    go_wp2_with fail
    refine hN.mono ?_; rintro e w' ⟨rfl, rfl⟩
    go_wp2
    go_ret
    exact ⟨by rw [HE.out]; rfl, rfl⟩
theorem set_Has (h : SetIs w g b n gw gs W S vH H) (i : Int) : Calls Try.prog 42 #[.pointer (some ⟨g, 0, none⟩), .int .i64 i] w fun e w' => e = .returned (.bool (atB S n i)) ∧ w = w' := by
  have hN := set_none h
  obtain ⟨c0, c1, c2, c3, _⟩ := h.blk.cells4
  by_cases h0 : 0 ≤ i
  · have g0 : decide (0 ≤ i) = true := decide_eq_true h0
    by_cases h1 : i < n
    · obtain ⟨j, rfl⟩ : ∃ j : Nat, i = j := ⟨i.toNat, by omega⟩
      have g1 : decide ((j : Int) < (n : Int)) = true := decide_eq_true h1
      have hc := h.rS.cell (i := j) (by omega)
      have HE := Lib.hid (show atB S n j = S j by unfold atB; rw [if_pos ⟨h0, h1⟩]; rfl)
      generalize S j = z at *
      go_enter Try.func42, Try.ntmps42
      go_wp2_with fail
      refine hN.mono ?_; rintro e w' ⟨rfl, rfl⟩
      go_wp2
      go_ret
      exact ⟨by rw [HE.out]; rfl, rfl⟩
    · have g1 : decide (i < (n : Int)) = false := decide_eq_false h1
      have HE := Lib.hid (show atB S n i = false by unfold atB; rw [if_neg (by omega)])
      go_enter Try.func42, Try.ntmps42
      go_wp2_with fail
      refine hN.mono ?_; rintro e w' ⟨rfl, rfl⟩
      go_wp2
      go_ret
      exact ⟨by rw [HE.out]; rfl, rfl⟩
  · have g0 : decide (0 ≤ i) = false := decide_eq_false h0
    have HE := Lib.hid (show atB S n i = false by unfold atB; rw [if_neg (by omega)])
    go_enter Try.func42, Try.ntmps42
    go_wp2_with fail
    refine hN.mono ?_; rintro e w' ⟨rfl, rfl⟩
    go_wp2
    go_ret
    exact ⟨by rw [HE.out]; rfl, rfl⟩
theorem set_List (h : SetIs w g b n gw gs W S vH H) (hwf : ∀ z ∈ H, (Lit.int .i64 z).wf = true) (hl : H.length ≤ 1024) : Calls Try.prog 78 #[.pointer (some ⟨g, 0, none⟩)] w fun e w' => ∃ A c, e = .returned (.slice A H.length c) ∧ IsList w' .i64 A H.length c H ∧ Below w.heap.size w w' := by
  have hN := set_none h
  obtain ⟨c0, c1, c2, c3, _⟩ := h.blk.cells4
  obtain ⟨iI, hiI, hzI, hzI1, hzI2⟩ := info_parts Try.infoI
  obtain ⟨A0, a0, rfl, hI0, _⟩ := own_list h.rH hwf (by omega)
  have hR := hI0.reads
  go_enter Try.func78, Try.ntmps78
  go_wp2_with fail
  refine hN.mono ?_; rintro e w' ⟨rfl, rfl⟩
  go_wp2_with (at_builtin; go_loud (refine wpList_append_any _ rfl _ (.tmp 8) _ rfl w.heap.size 3 iI _ 1 8 Try.underlying23 hiI hzI hzI1 hzI2 rfl (by decide) (.slice none 0 0) 0 [] rfl (World.ownsRow_nil _ _ _ _) _ A0 H.length a0 (ints H) rfl hR (ints_one' H) (by simp only [maxLen]; omega) (by omega) (Nat.le_refl _) ?_; intro v6 w6 hown6 hg6 hat6))
  obtain ⟨A1, a1, rfl, hI1, _⟩ := own_list (l := H) (n := H.length) (by simpa using hown6) hwf (by omega)
  have hW6 := push_below (Below.refl w.heap.size w) hg6 (fun k hk => by simp [Value.ownBlock] at hk)
  go_wp2
  go_ret
  exact ⟨A1, a1, by simp, hI1, hW6⟩
end
theorem law23_Few (A : Option Addr) (n c : Nat) (hn : n ≤ c) (hc : c ≤ 9223372036854775807) (w : World) :
    Calls Try.prog 9 #[.slice A n c] w fun e w' => e = .returned (.slice A (min n 30) c) ∧ w = w' := by
  by_cases h : n ≤ 30
  · have h30 : decide ((30 : Int) < (n : Int)) = false := decide_eq_false (by omega)
    have hm := Lib.hid (show n = min n 30 by omega)
    go_enter Try.func9, Try.ntmps9
    go_wp2
    go_ret
    exact ⟨by rw [← hm.out]; rfl, rfl⟩
  · have h30 : decide ((30 : Int) < (n : Int)) = true := decide_eq_true (by omega)
    have hm := Lib.hid (show 30 = min n 30 by omega)
    have h3 : 30 ≤ c := by omega
    go_enter Try.func9, Try.ntmps9
    go_wp2
    go_ret
    exact ⟨by rw [← hm.out]; rfl, rfl⟩
/-- The sum of the weights of those of the first k nodes that are right below one. -/
def sumUp (l : List Nd) (hosts : List Int) (i k : Nat) : Int := ((List.range k).filter fun k => (l.getD k nd0).above == (i : Int)).foldl (fun a k => IntKind.u64.wrap (a + wt l hosts k)) 0
theorem sumUp_step (l : List Nd) (hosts : List Int) (i k : Nat) : sumUp l hosts i (k + 1) = if (l.getD k nd0).above = i then IntKind.u64.wrap (sumUp l hosts i k + wt l hosts k) else sumUp l hosts i k := by
  unfold sumUp
  rw [List.range_succ, List.filter_append, List.foldl_append]
  by_cases h : (l.getD k nd0).above = i
  · rw [if_pos h]
    have : List.filter (fun k => (l.getD k nd0).above == (i : Int)) [k] = [k] := by rw [List.filter_cons, if_pos (by simpa using h)]; rfl
    rw [this]; rfl
  · rw [if_neg h]
    have : List.filter (fun k => (l.getD k nd0).above == (i : Int)) [k] = [] := by rw [List.filter_cons, if_neg (by simpa using h)]; rfl
    rw [this]; rfl
theorem sumUp_start {l : List Nd} (h : Tall l) (hosts : List Int) (i : Nat) (hi : i < l.length) : sumUp l hosts i (i + 1) = 0 := by
  unfold sumUp
  have : (List.range (i + 1)).filter (fun k => (l.getD k nd0).above == (i : Int)) = [] := by
    rw [List.filter_eq_nil_iff]
    intro k hk
    rw [List.mem_range] at hk
    have := (tall_rises h) k (by omega)
    simp only [beq_iff_eq]
    omega
  rw [this]; rfl
theorem sumUp_all (l : List Nd) (hosts : List Int) (i : Nat) : sumUp l hosts i l.length = (kidsN l i).foldl (fun a k => IntKind.u64.wrap (a + wt l hosts k)) 0 := rfl
theorem wt_law {l : List Nd} (h : Tall l) (hosts : List Int) {i : Nat} (hi : i < l.length) : wt l hosts i = if hs l hosts i = true then (if 0 < (l.getD i nd0).weight then (l.getD i nd0).weight else sumUp l hosts i l.length) else 0 := by
  cases hh : hs l hosts i with
  | false =>
    rw [if_neg (by simp)]
    exact wt_none h hosts 4 i hi (by have := (tall_head h i hi).kind0; omega) hh
  | true =>
    rw [if_pos rfl]
    by_cases hk : (l.getD i nd0).kind = 4
    · rw [hs_host h hosts hi hk] at hh
      rw [wt_host h hosts hi hk, hh, if_pos rfl, if_pos (pk_host hh).2.1]
    · rw [wt_node h hosts hi hk, hh]
      by_cases hw : 0 < (l.getD i nd0).weight
      · rw [if_pos ⟨hw, rfl⟩, if_pos hw]
      · rw [if_neg (by rintro ⟨h1, _⟩; exact hw h1), if_neg hw, sumUp_all]
theorem law23_Weights {A A' : Option Addr} {n c n' c' : Nat} {l : List Nd} {hosts : List Int} {w : World} (h : IsNodes w A n c l) (h' : IsList w .i64 A' n' c' hosts) (ht : Tall l) (hn : n ≤ 1024) :
    Calls Try.prog 11 #[.slice A n c, .slice A' n' c'] w fun e w' => ∃ g : Nat, e = .returned (.slice (some ⟨g, 0, none⟩) n n) ∧ w'.rowIs g 24 n (fun j => .int .u64 (wt l hosts j)) ∧ Below w.heap.size w w' := by
  have hcap := h.cap
  have hsm := h.small
  have hlen := Lib.hid h.len
  have hm1 := run_make_row' (P := Try.prog) 31 24 (.int .u64 0) 8 Try.underlying31 Try.infoU64e rfl .i64 .i64 n (by omega) (by omega)
  go_enter Try.func11, Try.ntmps11
  go_wp2_with fail
  have hg0 := World.rowIs_made w (.int .u64 0) n 24
  have hW0 : Below w.heap.size w (w.alloc (.cells (madeCells #[.int .u64 0] n) 24)) := (Below.refl _ _).alloc (Nat.le_refl _) _
  clear hm1
  generalize w.alloc (.cells (madeCells #[.int .u64 0] n) 24) = u at *
  go_loopg [6, 7] n (fun gk s6 s7 wr => ∃ (k : Nat) (z : Int), k ≤ n ∧ k = gk ∧ z = (k : Int) - 1 ∧ s6 = .int .i64 z ∧ wr.rowIs w.heap.size 24 n (fun j => .int .u64 (if k ≤ j then wt l hosts j else 0)) ∧ Below w.heap.size w wr)
  case atStart => exact ⟨n, _, Nat.le_refl _, rfl, rfl, rfl, hg0.congr (fun j hj => by rw [if_neg (by omega)]), hW0⟩
  case round =>
    clear hg0 hW0
    obtain ⟨k, z, hk, rfl, hz, rfl, hg, hW⟩ := hrel
    by_cases hk0 : k = 0
    · subst hk0
      obtain rfl : z = -1 := by omega
      have hg2 := hg.congr (g := fun j => .int .u64 (wt l hosts j)) (fun j hj => by rw [if_pos (Nat.zero_le _)])
      clear hz
      go_wp2
      go_ret
      exact ⟨w.heap.size, rfl, hg2, hW⟩
    · obtain ⟨i, rfl⟩ : ∃ i, k = i + 1 := ⟨k - 1, by omega⟩
      have hi : i < n := by omega
      obtain rfl : z = (i : Int) := by omega
      clear hz hk0
      have hi0 : (0 : Int) ≤ (i : Int) := by omega
      have hii : (i : Int) < (n : Int) := by omega
      have hil : i < l.length := by rw [hlen.out]; exact hi
      have HWT := Lib.hid (wt_law ht hosts hil)
      have HSt := Lib.hid (sumUp_start ht hosts i hil)
      have HWB := Lib.hid (tall_head ht i hil)
      rw [hlen.out] at HWT
      obtain ⟨ad, rfl, hbk, d0, d1, d2, d3, d4, d5, d6⟩ := (h.keep hW).at_ hi
      have hHas := law23_has (h.keep hW) (h'.keep hW) ht i hi
      have hcl := hg.cell (i := i) hi
      have hfz := hg.frozen i
      rw [if_neg (by omega)] at hcl
      generalize hs l hosts i = B at *
      obtain ⟨x, hx⟩ : ∃ x, x = l.getD i nd0 := ⟨_, rfl⟩
      rw [← hx] at d0 d1 d2 d3 d4 d5 d6 HWB HWT
      clear hx
      cases B with
      | false =>
        have hg2 := hg.congr (g := fun j => .int .u64 (if i ≤ j then wt l hosts j else 0)) (fun j hj => by
          by_cases e : j = i
          · subst e
            rw [if_neg (by omega), if_pos (Nat.le_refl _), HWT.out, if_neg (by simp)]
          · by_cases e2 : i + 1 ≤ j
            · rw [if_pos e2, if_pos (by omega)]
            · rw [if_neg e2, if_neg (by omega)])
        go_wp2_with fail
        refine hHas.mono ?_; rintro e w' ⟨rfl, rfl⟩
        go_wp2
        go_roundg i
        case measure => omega
        case rel => exact ⟨i, _, by omega, rfl, rfl, by go_num, hg2, hW⟩
      | true =>
        rw [if_pos rfl] at HWT
        by_cases hw : 0 < x.weight
        · have f1 : decide (0 < x.weight) = true := decide_eq_true hw
          rw [if_pos hw] at HWT
          have hlo := HWB.out.weight0
          have hhi := HWB.out.weight1
          have kq : IntKind.u64.wrap x.weight = x.weight := by rw [IntKind.wrap_u64]; omega
          have hg2 := (hg.set i (.int .u64 x.weight)).congr (g := fun j => .int .u64 (if i ≤ j then wt l hosts j else 0)) (fun j hj => by
            by_cases e : j = i
            · subst e
              rw [if_pos rfl, if_pos (Nat.le_refl _), HWT.out]
            · rw [if_neg e]
              by_cases e2 : i + 1 ≤ j
              · rw [if_pos e2, if_pos (by omega)]
              · rw [if_neg e2, if_neg (by omega)])
          have hW2 := below_own hW (Nat.le_refl _) i (.int .u64 x.weight)
          clear hw
          go_wp2_with fail
          refine hHas.mono ?_; rintro e w' ⟨rfl, rfl⟩
          go_wp2
          go_roundg i
          case measure => omega
          case rel => exact ⟨i, _, by omega, rfl, rfl, by go_num, hg2, hW2⟩
        · have f1 : decide (0 < x.weight) = false := decide_eq_false hw
          rw [if_neg hw] at HWT
          have hgi := hg.congr (g := fun j => .int .u64 (if j = i then sumUp l hosts i (i + 1) else if i ≤ j then wt l hosts j else 0)) (fun j hj => by
            by_cases e : j = i
            · subst e
              rw [if_neg (by omega), if_pos rfl, HSt.out]
            · rw [if_neg e]
              by_cases e2 : i + 1 ≤ j
              · rw [if_pos e2, if_pos (by omega)]
              · rw [if_neg e2, if_neg (by omega)])
          clear hw hg hcl hfz HSt HWB
          obtain ⟨wo, rfl⟩ : ∃ wo, wo = wr := ⟨_, rfl⟩
          go_wp2_with fail
          refine hHas.mono ?_; rintro e w' ⟨rfl, rfl⟩
          go_wp2_with fail
          clear d0 d1 d2 d3 d4 d5 d6
          go_loopg [7] (n - (i + 1)) (fun gk s7 wx => ∃ k : Nat, i < k ∧ k ≤ n ∧ gk = n - k ∧ s7 = .int .i64 k ∧ wx.rowIs w.heap.size 24 n (fun j => .int .u64 (if j = i then sumUp l hosts i k else if i ≤ j then wt l hosts j else 0)) ∧ Below w.heap.size w wx)
          case atStart => exact ⟨i + 1, Nat.lt_succ_self i, by omega, rfl, by go_num, hgi, hW⟩
          case round =>
            clear hgi hW hHas
            obtain ⟨k, hik, hkn, rfl, rfl, hg, hW⟩ := hrel
            by_cases hlt : k < n
            · obtain ⟨ad2, e2, _, d0, d1, d2, d3, d4, d5, d6⟩ := (h.keep hW).at_ hlt
              obtain rfl : ad = ad2 := by injection e2
              have hki : (k : Int) < (n : Int) := by omega
              have HSU := Lib.hid (sumUp_step l hosts i k)
              have ci := hg.cell (i := i) hi
              have ck := hg.cell (i := k) hlt
              rw [if_pos rfl] at ci
              rw [if_neg (by omega), if_pos (by omega)] at ck
              generalize l.getD k nd0 = y at *
              by_cases ha : y.above = i
              · have g1 : (y.above == (i : Int)) = true := by rw [beq_iff_eq]; exact ha
                rw [if_pos ha] at HSU
                obtain ⟨sm, hsm0⟩ : ∃ sm, sm = sumUp l hosts i k := ⟨_, rfl⟩
                obtain ⟨wk, hwk0⟩ : ∃ wk, wk = wt l hosts k := ⟨_, rfl⟩
                rw [← hsm0, ← hwk0] at HSU
                rw [← hsm0] at ci
                rw [← hwk0] at ck
                clear hsm0 hwk0 ha
                go_upto_region 12 with (fail)
                have U1 := cell_under ci
                have U2 := cell_under ck
                clear ci ck
                refine wp_region_under_tail 11 (by kernel_rfl) (by kernel_rfl) ?_
                simp only [List.take_succ_cons, List.take_zero, List.drop_succ_cons, List.drop_zero]
                repeat (go_big_quiet_step ((fail)))
                refine wpQuiet_nil ?_
                intro wu hw'
                obtain ⟨pq, hw''⟩ := hw'
                have hU := below_eq hw''
                clear hw'' pq
                have hg1 := row_keep hg hU
                have hW1 := below_step hW hU
                have hfz := hg1.frozen i
                have hcl := hg1.cell (i := i) hi
                have hg2 := (hg1.set i (.int .u64 (IntKind.u64.wrap (sm + wk)))).congr (g := fun j => .int .u64 (if j = i then sumUp l hosts i (k + 1) else if i ≤ j then wt l hosts j else 0)) (fun j hj => by
                  by_cases e : j = i
                  · rw [if_pos e, if_pos e, HSU.out]
                  · rw [if_neg e, if_neg e, if_neg e])
                have hW2 := below_own hW1 (Nat.le_refl _) i (.int .u64 (IntKind.u64.wrap (sm + wk)))
                clear U1 U2 hU hg hW hg1 hW1 d0 d1 d2 d3 d4 d5 d6
                go_wp2
                go_roundg (n - (k + 1))
                case measure => omega
                case rel => exact ⟨k + 1, by omega, by omega, rfl, by go_num, hg2, hW2⟩
              · have g1 : (y.above == (i : Int)) = false := by rw [beq_eq_false_iff_ne]; exact ha
                rw [if_neg ha] at HSU
                have hg2 := hg.congr (g := fun j => .int .u64 (if j = i then sumUp l hosts i (k + 1) else if i ≤ j then wt l hosts j else 0)) (fun j hj => by rw [HSU.out])
                clear ha ci ck
                go_wp2
                go_roundg (n - (k + 1))
                case measure => omega
                case rel => exact ⟨k + 1, by omega, by omega, rfl, by go_num, hg2, hW⟩
            · obtain rfl : k = n := by omega
              have hg2 := hg.congr (g := fun j => .int .u64 (if i ≤ j then wt l hosts j else 0)) (fun j hj => by
                by_cases e : j = i
                · subst e; rw [if_pos rfl, if_pos (Nat.le_refl _), HWT.out]
                · rw [if_neg e])
              go_wp2
              go_roundg i
              case measure => omega
              case rel => exact ⟨i, _, by omega, rfl, rfl, by go_num, hg2, hW⟩
end Go.Proofs.Ytblbgafadadbmaa
end
section
/- The example; EligWeighs. -/
set_option linter.unusedVariables false
namespace Go.Proofs.Ytblbgafadadbmaa
open Go.RowKit
set_option maxHeartbeats 8000000
set_option maxRecDepth 100000
def elNodes : List Nd := [⟨⟨#[108]⟩, 1, -1, 0, false, 0, 0⟩, ⟨⟨#[122]⟩, 2, 0, 9, false, 0, 0⟩, ⟨⟨#[114]⟩, 3, 1, 0, false, 0, 0⟩, ⟨⟨#[104]⟩, 4, 2, 5, false, 0, 0⟩]
theorem el_tall : Tall elNodes := by
  intro j hj
  have hj4 : j < 4 := hj
  rcases (by omega : j = 0 ∨ j = 1 ∨ j = 2 ∨ j = 3) with rfl | rfl | rfl | rfl <;> (unfold okAt; decide +kernel)
theorem el_wf : ∀ x ∈ elNodes, x.Wf := by
  intro x hx
  simp [elNodes] at hx
  rcases hx with rfl | rfl | rfl | rfl <;> constructor <;> decide
theorem el_w0 : atI (wt elNodes []) 4 1 = 0 := by decide +kernel
theorem el_w1 : atI (wt elNodes [3]) 4 1 = 9 := by decide +kernel
theorem el_w2 : atI (wt elNodes [3]) 4 2 = 5 := by decide +kernel
theorem el_h0 : atB (hs elNodes [3]) 4 0 = true := by decide +kernel
/-- Those of the first k nodes that are hosts that may be picked. -/
def pkTo (l : List Nd) (hosts : List Int) (k : Nat) : List Int := ((List.range k).filter (pk l hosts)).map fun j : Nat => (j : Int)
theorem pkTo_step (l : List Nd) (hosts : List Int) (k : Nat) : pkTo l hosts (k + 1) = pkTo l hosts k ++ if pk l hosts k = true then [(k : Int)] else [] := by
  unfold pkTo
  rw [List.range_succ, List.filter_append, List.map_append]
  congr 1
  by_cases h : pk l hosts k = true <;> simp [List.filter, h]
theorem pkTo_all (l : List Nd) (hosts : List Int) : pkTo l hosts l.length = picks l hosts := by
  unfold pkTo picks idx
  rw [List.filter_map, List.filter_filter]
  congr 1
  apply List.filter_congr
  intro k _
  simp only [Function.comp_apply, Int.toNat_natCast]
  cases h : pk l hosts k with
  | false => rfl
  | true => have := (pk_host h).1; unfold isK; rw [this]; rfl
theorem pkTo_le (l : List Nd) (hosts : List Int) (k : Nat) : (pkTo l hosts k).length ≤ k := by
  unfold pkTo
  rw [List.length_map]
  exact Nat.le_trans (List.length_filter_le _ _) (by rw [List.length_range]; exact Nat.le_refl _)
theorem pkTo_prefix (l : List Nd) (hosts : List Int) (k : Nat) : ∀ d, pkTo l hosts k <+: pkTo l hosts (k + d)
  | 0 => List.prefix_refl _
  | d + 1 => by
    rw [show k + (d + 1) = (k + d) + 1 by omega, pkTo_step]
    exact (pkTo_prefix l hosts k d).trans (List.prefix_append _ _)
theorem pkTo_at {l : List Nd} {hosts : List Int} {k n : Nat} (hk : k < n) (h : pk l hosts k = true) : (pkTo l hosts k).length < (pkTo l hosts n).length ∧ (pkTo l hosts n).getD (pkTo l hosts k).length 0 = k := by
  have hp := pkTo_prefix l hosts (k + 1) (n - (k + 1))
  rw [show k + 1 + (n - (k + 1)) = n by omega, pkTo_step, if_pos h] at hp
  obtain ⟨t, ht⟩ := hp
  rw [← ht]
  refine ⟨by simp, ?_⟩
  rw [List.getD_eq_getElem?_getD]
  simp
end Go.Proofs.Ytblbgafadadbmaa
end
section
/- EligWeighs. -/
set_option linter.unusedVariables false
namespace Go.Proofs.Ytblbgafadadbmaa
open Go.RowKit
set_option maxHeartbeats 8000000
set_option maxRecDepth 100000
theorem picks_wf (l : List Nd) (hosts : List Int) (h : l.length ≤ 1024) : ∀ z ∈ picks l hosts, (Lit.int .i64 z).wf = true := fun z hz => idx_wf (isK 4) l h z (List.mem_filter.1 hz).1
theorem picks_le (l : List Nd) (hosts : List Int) : (picks l hosts).length ≤ l.length := by rw [← pkTo_all]; exact pkTo_le _ _ _
end Go.Proofs.Ytblbgafadadbmaa
end
section
/- How many hosts of each level may be picked, and which nodes of a kind have one. -/
set_option linter.unusedVariables false
namespace Go.Proofs.Ytblbgafadadbmaa
open Go.RowKit
set_option maxHeartbeats 8000000
set_option maxRecDepth 100000
/-- Those of the first k places of which something is so. -/
def selTo (p : Nat → Bool) (k : Nat) : List Int := ((List.range k).filter p).map fun j : Nat => (j : Int)
theorem selTo_step (p : Nat → Bool) (k : Nat) : selTo p (k + 1) = selTo p k ++ if p k = true then [(k : Int)] else [] := by
  unfold selTo
  rw [List.range_succ, List.filter_append, List.map_append]
  congr 1
  by_cases h : p k = true <;> simp [List.filter, h]
theorem selTo_le (p : Nat → Bool) (k : Nat) : (selTo p k).length ≤ k := by
  unfold selTo
  rw [List.length_map]
  exact Nat.le_trans (List.length_filter_le _ _) (by rw [List.length_range]; exact Nat.le_refl _)
theorem selTo_prefix (p : Nat → Bool) (k : Nat) : ∀ d, selTo p k <+: selTo p (k + d)
  | 0 => List.prefix_refl _
  | d + 1 => by
    rw [show k + (d + 1) = (k + d) + 1 by omega, selTo_step]
    exact (selTo_prefix p k d).trans (List.prefix_append _ _)
theorem selTo_at {p : Nat → Bool} {k n : Nat} (hk : k < n) (h : p k = true) : (selTo p k).length < (selTo p n).length ∧ (selTo p n).getD (selTo p k).length 0 = k := by
  have hp := selTo_prefix p (k + 1) (n - (k + 1))
  rw [show k + 1 + (n - (k + 1)) = n by omega, selTo_step, if_pos h] at hp
  obtain ⟨t, ht⟩ := hp
  rw [← ht]
  refine ⟨by simp, ?_⟩
  rw [List.getD_eq_getElem?_getD]
  simp
theorem selTo_mem {p : Nat → Bool} {k : Nat} {z : Int} : z ∈ selTo p k ↔ ∃ j : Nat, z = j ∧ j < k ∧ p j = true := by
  unfold selTo
  rw [List.mem_map]
  constructor
  · rintro ⟨j, hj, rfl⟩
    rw [List.mem_filter, List.mem_range] at hj
    exact ⟨j, rfl, hj.1, hj.2⟩
  · rintro ⟨j, rfl, h1, h2⟩
    exact ⟨j, by rw [List.mem_filter, List.mem_range]; exact ⟨h1, h2⟩, rfl⟩
theorem selTo_idx {p : Nat → Bool} {k n : Nat} (hk : k < n) (h : p k = true) : idxI k (selTo p n) = (selTo p k).length := by
  obtain ⟨h1, h2⟩ := selTo_at hk h
  refine idxI_hit h1 h2 fun j hj => ?_
  have hpre := selTo_prefix p k (n - k)
  rw [show k + (n - k) = n by omega] at hpre
  obtain ⟨t, ht⟩ := hpre
  rw [← ht, List.getD_eq_getElem?_getD, List.getElem?_append_left hj, List.getElem?_eq_getElem hj]
  intro e
  have hm : (selTo p k)[j] ∈ selTo p k := List.getElem_mem hj
  simp only [Option.getD_some] at e
  rw [e] at hm
  obtain ⟨j', e', hlt, _⟩ := selTo_mem.1 hm
  omega
theorem idx_sel (p : Nd → Bool) (l : List Nd) : idx p l = selTo (fun k => p (l.getD k nd0)) l.length := rfl
theorem idx_sel_take (p : Nd → Bool) (l : List Nd) (k : Nat) (hk : k ≤ l.length) : idx p (l.take k) = selTo (fun k => p (l.getD k nd0)) k := by
  unfold idx selTo
  rw [List.length_take, Nat.min_eq_left hk]
  congr 1
  apply List.filter_congr
  intro j hj
  rw [List.mem_range] at hj
  rw [List.getD_eq_getElem?_getD, List.getD_eq_getElem?_getD, List.getElem?_take, if_pos hj]
/-- What is found above is of that kind. -/
theorem up_is {l : List Nd} (ht : Tall l) (kind : Int) : ∀ (f : Nat) (i : Int), 0 ≤ i → i < l.length → (ndAt l i).kind ≤ f → 0 ≤ up l kind i → up l kind i < l.length ∧ (ndAt l (up l kind i)).kind = kind
  | 0, i, h0, h1, hk, _ => by
    have := (tall_head ht i.toNat (by omega)).kind0
    rw [← ndAt_in h0] at this
    omega
  | f + 1, i, h0, h1, hk, hu => by
    by_cases hi : (ndAt l i).kind = kind
    · rw [up_hit l kind i h0 h1 hi]; exact ⟨h1, hi⟩
    · rw [up_step l (tall_rises ht) kind i h0 h1 hi] at hu ⊢
      have hd := tall_head ht i.toNat (by omega)
      rw [← ndAt_in h0] at hd
      by_cases h2 : 1 < (ndAt l i).kind
      · have hb := tall_below ht i.toNat (by omega) (by rw [← ndAt_in h0]; exact h2)
        rw [← ndAt_in h0] at hb
        exact up_is ht kind f _ hb.1 (by omega) (by omega) hu
      · have := (hd.level (by have := hd.kind0; omega)).2
        rw [this, up_out l kind (-1) (by omega)] at hu
        omega
/-- The number of the level of a host. -/
def lev (l : List Nd) (h : Int) : Int := idxI (up l 1 h) (idx (isK 1) l)
theorem lev_host {l : List Nd} (ht : Tall l) {h : Nat} (hh : h < l.length) : ∃ i : Nat, up l 1 h = i ∧ i < l.length ∧ (l.getD i nd0).kind = 1 ∧ lev l h = (selTo (fun k => isK 1 (l.getD k nd0)) i).length ∧ (selTo (fun k => isK 1 (l.getD k nd0)) i).length < (idx (isK 1) l).length := by
  have k1 := (tall_head ht h hh).kind1
  have hu := up_level ht 4 h (by omega) (by omega) (by rw [ndAt_nat]; exact k1)
  obtain ⟨i, hi⟩ : ∃ i : Nat, up l 1 h = i := ⟨(up l 1 h).toNat, by omega⟩
  have hin : i < l.length ∧ (l.getD i nd0).kind = 1 := by
    have := up_is ht 1 4 h (by omega) (by omega) (by rw [ndAt_nat]; exact k1) (by rw [hi]; omega)
    rw [hi, ndAt_nat] at this
    exact ⟨by omega, this.2⟩
  have hp : isK 1 (l.getD i nd0) = true := by unfold isK; rw [hin.2]; rfl
  refine ⟨i, hi, hin.1, hin.2, ?_, ?_⟩
  · unfold lev; rw [hi, idx_sel]
    exact selTo_idx (p := fun k => isK 1 (l.getD k nd0)) hin.1 hp
  · rw [idx_sel]
    exact (selTo_at (p := fun k => isK 1 (l.getD k nd0)) hin.1 hp).1
end Go.Proofs.Ytblbgafadadbmaa
end
section
/- Plain arithmetic of 64 bits: no program in sight. -/
namespace Go.Proofs.Ytblbgafadadbmaa
open Go.RowKit

theorem xor_nat (a b : Nat) (ha : a < 18446744073709551616) (hb : b < 18446744073709551616) : bits .xor .u64 (a : Int) (b : Int) = ((a ^^^ b : Nat) : Int) := u64_xor_nat a b ha hb
theorem wrap_nat (a : Nat) : IntKind.u64.wrap (a : Int) = ((a % 18446744073709551616 : Nat) : Int) := by rw [IntKind.wrap_u64]; omega
theorem wrap_bd (a : Int) : 0 ≤ IntKind.u64.wrap a ∧ IntKind.u64.wrap a < 18446744073709551616 := by rw [IntKind.wrap_u64]; omega
theorem bits_bd (o : BinOp) (a b : Int) : 0 ≤ bits o .u64 a b ∧ bits o .u64 a b < 18446744073709551616 := by
  unfold bits; split <;> exact wrap_bd _

def mixOne (x : Int) : Int :=
  bits .xor .u64 (IntKind.u64.wrap (bits .xor .u64 (IntKind.u64.wrap (bits .xor .u64 x (x / 8589934592) * 18397679294719823053)) (IntKind.u64.wrap (bits .xor .u64 x (x / 8589934592) * 18397679294719823053) / 8589934592) * 14181476777654086739))
    (IntKind.u64.wrap (bits .xor .u64 (IntKind.u64.wrap (bits .xor .u64 x (x / 8589934592) * 18397679294719823053)) (IntKind.u64.wrap (bits .xor .u64 x (x / 8589934592) * 18397679294719823053) / 8589934592) * 14181476777654086739) / 8589934592)
def mixUn (x : Int) : Int := bits .xor .u64 x (x / 8589934592)
def mixBack (x : Int) : Int := mixUn (IntKind.u64.wrap (mixUn (IntKind.u64.wrap (mixUn x * 11291846944257947611)) * 5725274745694666757))
theorem mixOne_bd (x : Int) : 0 ≤ mixOne x ∧ mixOne x < 18446744073709551616 := bits_bd _ _ _
theorem mixUn_bd (x : Int) : 0 ≤ mixUn x ∧ mixUn x < 18446744073709551616 := bits_bd _ _ _

theorem mixOne_eq (x : Int) : mixOne x = mixUn (IntKind.u64.wrap (mixUn (IntKind.u64.wrap (mixUn x * 18397679294719823053)) * 14181476777654086739)) := rfl

def unN (n : Nat) : Nat := n ^^^ (n / 8589934592)
theorem unN_lt (n : Nat) (h : n < 18446744073709551616) : unN n < 18446744073709551616 :=
  Nat.xor_lt_two_pow (n := 64) h (Nat.lt_of_le_of_lt (Nat.div_le_self _ _) h)
theorem mixUn_nat (n : Nat) (h : n < 18446744073709551616) : mixUn (n : Int) = (unN n : Nat) := by
  unfold mixUn unN
  rw [← xor_nat n _ h (Nat.lt_of_le_of_lt (Nat.div_le_self _ _) h)]
  rfl
theorem unN_unN (n : Nat) (h : n < 18446744073709551616) : unN (unN n) = n := by
  unfold unN
  have e : ∀ m : Nat, m / 8589934592 = m >>> 33 := fun m => by rw [Nat.shiftRight_eq_div_pow]
  rw [e, e, Nat.shiftRight_xor_distrib, ← Nat.shiftRight_add]
  have z : n >>> 66 = 0 := by rw [Nat.shiftRight_eq_div_pow]; exact Nat.div_eq_of_lt (by omega)
  rw [show 33 + 33 = 66 from rfl, z, Nat.xor_zero, Nat.xor_assoc, Nat.xor_self, Nat.xor_zero]
theorem mulinv (n c d : Nat) (h : n < 18446744073709551616) (hcd : c * d % 18446744073709551616 = 1) : (n * c % 18446744073709551616) * d % 18446744073709551616 = n := by
  rw [Nat.mod_mul_mod, Nat.mul_assoc, Nat.mul_mod, hcd, Nat.mul_one, Nat.mod_mod, Nat.mod_eq_of_lt h]
theorem mixBack_one (x : Int) (h0 : 0 ≤ x) (h1 : x < 18446744073709551616) : mixBack (mixOne x) = x := by
  obtain ⟨n, rfl⟩ := Int.eq_ofNat_of_zero_le h0
  have hn : n < 18446744073709551616 := by omega
  rw [mixOne_eq, mixBack]
  have hm : ∀ (a c : Nat), IntKind.u64.wrap ((a : Int) * (c : Int)) = ((a * c % 18446744073709551616 : Nat) : Int) := fun a c => by rw [← wrap_nat, Int.natCast_mul]
  have hl : ∀ a : Nat, a % 18446744073709551616 < 18446744073709551616 := fun a => Nat.mod_lt _ (by decide)
  rw [mixUn_nat n hn]
  have g1 := hm (unN n) 18397679294719823053
  rw [show ((18397679294719823053 : Nat) : Int) = 18397679294719823053 from rfl] at g1
  rw [g1, mixUn_nat _ (hl _)]
  have g2 := hm (unN (unN n * 18397679294719823053 % 18446744073709551616)) 14181476777654086739
  rw [show ((14181476777654086739 : Nat) : Int) = 14181476777654086739 from rfl] at g2
  rw [g2, mixUn_nat _ (hl _), mixUn_nat _ (unN_lt _ (hl _)), unN_unN _ (hl _)]
  have g3 := hm (unN (unN n * 18397679294719823053 % 18446744073709551616) * 14181476777654086739 % 18446744073709551616) 11291846944257947611
  rw [show ((11291846944257947611 : Nat) : Int) = 11291846944257947611 from rfl] at g3
  rw [g3, mulinv _ _ _ (unN_lt _ (hl _)) (by decide), mixUn_nat _ (unN_lt _ (hl _)), unN_unN _ (hl _)]
  have g4 := hm (unN n * 18397679294719823053 % 18446744073709551616) 5725274745694666757
  rw [show ((5725274745694666757 : Nat) : Int) = 5725274745694666757 from rfl] at g4
  rw [g4, mulinv _ _ _ (unN_lt _ hn) (by decide), mixUn_nat _ (unN_lt _ hn), unN_unN _ hn]
theorem mixOne_0 : mixOne 0 = 0 := by decide +kernel
theorem mixOne_1 : (mixOne 1 != 0) = true := by decide +kernel
end Go.Proofs.Ytblbgafadadbmaa
end
section
/- math/bits at this translation: Len64, Mul64, Add64 by the library's contracts, laid by the shelf's tool in its plain mode. -/
set_option linter.unusedVariables false
namespace Go.Proofs.Ytblbgafadadbmaa
open Go.Shelf
def Try.lays129_ren : Go.Shelf.Ren := ⟨fun | 129 => 105 | n => n, fun | 53 => 24 | 3 => 3 | 4 => 4 | 46 => 130 | 5 => 5 | 9 => 9 | n => n, fun | n => n⟩
theorem Try.lays129 : Go.Proofs.Lays.n129 Try.prog Try.lays129_ren := {
  mixed := by kernel_rfl
  f129 := Try.func105.trans (congrArg some (by kernel_rfl))
  t3 := Try.underlying3
  a3 := Try.isAgg3
  z3 := Try.sizeOf3
  v3 := Try.zeroValue3
  t4 := Try.underlying4
  a4 := Try.isAgg4
  z4 := Try.sizeOf4
  v4 := Try.zeroValue4
  t5 := Try.underlying5
  a5 := Try.isAgg5
  z5 := Try.sizeOf5
  v5 := Try.zeroValue5
  t9 := Try.underlying9
  a9 := Try.isAgg9
  z9 := Try.sizeOf9
  v9 := Try.zeroValue9
  t46 := Try.underlying130
  a46 := Try.isAgg130
  z46 := Try.sizeOf130
  v46 := Try.zeroValue130
  t53 := Try.underlying24
  a53 := Try.isAgg24
  z53 := Try.sizeOf24
  v53 := Try.zeroValue24 }
/-- bits.Len64: "Len64 returns the minimum number of bits required to represent x; the result is 0 for x == 0.": IT RETURNS 'Lib.bitLen x'; the world is as it was. ('h0', 'h1': x is a uint64.) (LAID: no walk: one application.) -/
theorem Try.bits_Len64 (x : Int) (w : World) (h0 : 0 ≤ x) (h1 : x ≤ 18446744073709551615) :
    Calls Try.prog 105 #[.int .u64 x] w fun e w' => e = .returned (.int .i64 (Lib.bitLen x.toNat)) ∧ w' = w := Any.bits_Len64 Try.lays129 x w h0 h1
def Try.lays264_ren : Go.Shelf.Ren := ⟨fun | 264 => 72 | n => n, fun | 53 => 24 | 46 => 130 | n => n, fun | n => n⟩
theorem Try.lays264 : Go.Proofs.Lays.n264 Try.prog Try.lays264_ren := {
  mixed := by kernel_rfl
  f264 := Try.func72.trans (congrArg some (by kernel_rfl))
  t46 := Try.underlying130
  a46 := Try.isAgg130
  z46 := Try.sizeOf130
  v46 := Try.zeroValue130
  t53 := Try.underlying24
  a53 := Try.isAgg24
  z53 := Try.sizeOf24
  v53 := Try.zeroValue24 }
open Go.RowKit Go.Lib in
theorem Try.bits_Mul64 (x y : Nat) (hx : x < 18446744073709551616) (hy : y < 18446744073709551616) (w : World) :
    Calls Try.prog 72 #[.int .u64 x, .int .u64 y] w fun e w' => e = .returned (.tuple #[.int .u64 ((x * y / 18446744073709551616 : Nat) : Int), .int .u64 ((x * y % 18446744073709551616 : Nat) : Int)]) ∧ w' = w := Any.bits_Mul64 Try.lays264 x y hx hy w

theorem bits_Mul64 (x y : Int) (hx : 0 ≤ x) (hx' : x < 18446744073709551616) (hy : 0 ≤ y) (hy' : y < 18446744073709551616) (w : World) :
    Calls Try.prog 72 #[.int .u64 x, .int .u64 y] w fun e w' => e = .returned (.tuple #[.int .u64 (x * y / 18446744073709551616), .int .u64 (x * y % 18446744073709551616)]) ∧ w = w' := by
  obtain ⟨x, rfl⟩ := Int.eq_ofNat_of_zero_le hx
  obtain ⟨y, rfl⟩ := Int.eq_ofNat_of_zero_le hy
  refine (Try.bits_Mul64 x y (by omega) (by omega) w).mono ?_
  rintro e w' ⟨rfl, rfl⟩
  exact ⟨by rw [Int.natCast_ediv, Int.natCast_emod, Int.natCast_mul]; rfl, rfl⟩
theorem bits_Len64 (x : Int) (h0 : 0 ≤ x) (h1 : x < 18446744073709551616) (w : World) :
    Calls Try.prog 105 #[.int .u64 x] w fun e w' => e = .returned (.int .i64 (Lib.bitLen x.toNat)) ∧ w = w' :=
  (Try.bits_Len64 x w h0 (by omega)).mono fun e w' ⟨he, hw⟩ => ⟨he, hw.symm⟩
end Go.Proofs.Ytblbgafadadbmaa
end
section
/- How many bits a number has: plain. -/
namespace Go.Proofs.Ytblbgafadadbmaa
theorem bla : ∀ (f x : Nat), x < 2 ^ f → (x = 0 → Lib.bitLenAux f x = 0) ∧ (0 < x → 1 ≤ Lib.bitLenAux f x ∧ Lib.bitLenAux f x ≤ f ∧ 2 ^ (Lib.bitLenAux f x - 1) ≤ x ∧ x < 2 ^ Lib.bitLenAux f x) := by
  intro f
  induction f with
  | zero => intro x h; refine ⟨fun _ => rfl, fun h0 => ?_⟩; simp at h; omega
  | succ f ih =>
    intro x h
    unfold Lib.bitLenAux
    by_cases hx : x = 0
    · subst hx; exact ⟨fun _ => by simp, fun h0 => absurd h0 (by omega)⟩
    · rw [if_neg hx]
      refine ⟨fun h0 => absurd h0 hx, fun _ => ?_⟩
      have hp : 2 ^ (f + 1) = 2 * 2 ^ f := by rw [Nat.pow_succ]; omega
      have h2 : x / 2 < 2 ^ f := by omega
      obtain ⟨i0, i1⟩ := ih (x / 2) h2
      rcases Nat.eq_zero_or_pos (x / 2) with h3 | h3
      · rw [i0 h3]
        have : x = 1 := by omega
        subst this
        simp
      · obtain ⟨a, b, c, d⟩ := i1 h3
        generalize Lib.bitLenAux f (x / 2) = m at *
        obtain ⟨m, rfl⟩ : ∃ m', m = m' + 1 := ⟨m - 1, by omega⟩
        have e1 : 2 ^ (1 + (m + 1) - 1) = 2 * 2 ^ m := by rw [show 1 + (m + 1) - 1 = m + 1 by omega, Nat.pow_succ]; omega
        have e2 : 2 ^ (1 + (m + 1)) = 2 * 2 ^ (m + 1) := by rw [Nat.add_comm 1 (m + 1), Nat.pow_succ 2 (m + 1)]; omega
        rw [Nat.add_sub_cancel] at c
        rw [e1, e2]
        omega
theorem bl_zero : Lib.bitLen 0 = 0 := (bla 64 0 (by decide)).1 rfl
theorem bl_le (x : Nat) (h : x < 18446744073709551616) : Lib.bitLen x ≤ 64 := by
  rcases Nat.eq_zero_or_pos x with h0 | h0
  · subst h0; rw [bl_zero]; omega
  · exact ((bla 64 x h).2 h0).2.1
theorem bl_spec (x : Nat) (h : x < 18446744073709551616) (h0 : 0 < x) : 1 ≤ Lib.bitLen x ∧ 2 ^ (Lib.bitLen x - 1) ≤ x ∧ x < 2 ^ Lib.bitLen x := by
  obtain ⟨a, _, c, d⟩ := (bla 64 x h).2 h0
  exact ⟨a, c, d⟩
theorem bl_eq (x b : Nat) (h : x < 18446744073709551616) (hb : 1 ≤ b) (h1 : 2 ^ (b - 1) ≤ x) (h2 : x < 2 ^ b) : Lib.bitLen x = b := by
  have h0 : 0 < x := Nat.lt_of_lt_of_le (Nat.two_pow_pos _) h1
  obtain ⟨a, c, d⟩ := bl_spec x h h0
  have l1 : b - 1 < Lib.bitLen x := (Nat.pow_lt_pow_iff_right (a := 2) (by decide)).1 (Nat.lt_of_le_of_lt h1 d)
  have l2 : Lib.bitLen x - 1 < b := (Nat.pow_lt_pow_iff_right (a := 2) (by decide)).1 (Nat.lt_of_le_of_lt c h2)
  omega
theorem bl_half (x j : Nat) (h : x < 18446744073709551616) : (0 < x / 2 ^ j ↔ j < Lib.bitLen x) := by
  rcases Nat.eq_zero_or_pos x with h0 | h0
  · subst h0; rw [bl_zero]; simp
  · obtain ⟨a, c, d⟩ := bl_spec x h h0
    constructor
    · intro hp
      have : 2 ^ j ≤ x := (Nat.div_pos_iff.1 hp).2
      exact (Nat.pow_lt_pow_iff_right (a := 2) (by decide)).1 (Nat.lt_of_le_of_lt this d)
    · intro hj
      refine Nat.div_pos_iff.2 ⟨Nat.two_pow_pos _, Nat.le_trans (Nat.pow_le_pow_right (by decide) ?_) c⟩
      omega
/-- The ends of the bucket k. -/
def bLo (k : Nat) : Nat := if k = 0 then 0 else 2 ^ (k - 1)
def bHi (k : Nat) : Nat := 2 ^ k - 1
theorem pow64 (k : Nat) (h : k ≤ 64) : 2 ^ k ≤ 18446744073709551616 := Nat.pow_le_pow_right (n := 2) (by decide) h
theorem bLo_lt (k : Nat) (h : k ≤ 64) : bLo k < 18446744073709551616 := by
  unfold bLo
  split
  · decide
  · have := Nat.pow_le_pow_right (n := 2) (by decide) (show k - 1 ≤ 63 by omega)
    omega
theorem bHi_lt (k : Nat) (h : k ≤ 64) : bHi k < 18446744073709551616 := by
  have := pow64 k h; have := Nat.two_pow_pos k; unfold bHi; omega
theorem bl_bLo (k : Nat) (h : k ≤ 64) : Lib.bitLen (bLo k) = k := by
  rcases Nat.eq_zero_or_pos k with h0 | h0
  · subst h0; exact bl_zero
  · have e : bLo k = 2 ^ (k - 1) := by unfold bLo; rw [if_neg (by omega)]
    refine bl_eq _ k (bLo_lt k h) h0 (by rw [e]; exact Nat.le_refl _) ?_
    rw [e]; exact Nat.pow_lt_pow_right (by decide) (by omega)
theorem bl_bHi (k : Nat) (h : k ≤ 64) : Lib.bitLen (bHi k) = k := by
  rcases Nat.eq_zero_or_pos k with h0 | h0
  · subst h0; exact bl_zero
  · refine bl_eq _ k (bHi_lt k h) h0 ?_ (by unfold bHi; have := Nat.two_pow_pos k; omega)
    have : 2 ^ (k - 1) < 2 ^ k := Nat.pow_lt_pow_right (by decide) (by omega)
    unfold bHi; omega
theorem bl_between (x : Nat) (h : x < 18446744073709551616) : bLo (Lib.bitLen x) ≤ x ∧ x ≤ bHi (Lib.bitLen x) := by
  rcases Nat.eq_zero_or_pos x with h0 | h0
  · subst h0; rw [bl_zero]; decide
  · obtain ⟨a, c, d⟩ := bl_spec x h h0
    have e : bLo (Lib.bitLen x) = 2 ^ (Lib.bitLen x - 1) := by unfold bLo; rw [if_neg (by omega)]
    rw [e]; unfold bHi; omega
theorem bl_down (k : Nat) (h : k ≤ 64) (h0 : 1 ≤ k) : Lib.bitLen (bLo k - 1) = k - 1 := by
  have e : bLo k - 1 = bHi (k - 1) := by unfold bLo bHi; rw [if_neg (by omega)]
  rw [e]; exact bl_bHi _ (by omega)
theorem bl_up (k : Nat) (h : k < 64) : Lib.bitLen (bHi k + 1) = k + 1 := by
  have e : bHi k + 1 = bLo (k + 1) := by unfold bLo bHi; rw [if_neg (by omega)]; have := Nat.two_pow_pos k; simp; omega
  rw [e]; exact bl_bLo _ (by omega)
end Go.Proofs.Ytblbgafadadbmaa
end
