/- WideFracs. -/
import Derived.Test.YtonbmcgfbbpnkaaFracPlain
import Derived.Deep.DeepCutAuto
set_option linter.unusedVariables false
namespace Go.Proofs.Ytonbmcgfbbpnkaa
open Go.RowKit
set_option maxHeartbeats 2000000
set_option maxRecDepth 100000
theorem fracs_wf {w : World} {A : Option Addr} {n c : Nat} {l : List (Int × Int)} (hl : IsPairs w .u64 .u64 A n c l) (k : Nat) : FN (l.getD k (0, 0)) := by
  rcases Nat.lt_or_ge k l.length with h | h
  · have e : l[k]? = some (l.getD k (0, 0)) := by rw [List.getD_eq_getElem?_getD, List.getElem?_eq_getElem h]; rfl
    obtain ⟨w0, w1⟩ := hl.wf _ (List.mem_of_getElem? e)
    exact ⟨(u64_of_wf w0).1, (u64_of_wf w1).1⟩
  · rw [List.getD_eq_getElem?_getD, List.getElem?_eq_none h]
    exact ⟨by decide, by decide⟩
theorem wideFracs_walk (w : World) (au ad : Int) (ha : IsNum au ad) (bu bd : Int) (hb : IsNum bu bd) (A : Option Addr) (n c : Nat) (l : List (Int × Int)) (hl : IsPairs w .u64 .u64 A n c l) :
    Calls Try.prog 5 #[.agg #[.int .u64 au, .int .u64 ad], .agg #[.int .u64 bu, .int .u64 bd], .slice A n c] w fun e w' => e = .returned (.bool true) ∧ Below w.heap.size w w' := by
  have hcap := hl.cap
  have hsm := hl.small
  have hrc := hl.reach
  go_enter Try.func5, Try.ntmps5
  go_upto_if 14 with (fail)
  go_cut [2] (fun s wx => wx = (w.alloc (.cells #[.int .u64 au, .int .u64 ad] 37)).alloc (.cells #[.int .u64 bu, .int .u64 bd] 37) ∧ ∃ (n' : Nat) (l' : List (Int × Int)), s = .slice A n' c ∧ IsPairs w .u64 .u64 A n' c l')
  case first =>
    by_cases h : n ≤ 40
    · have h40 : decide ((40 : Int) < (n : Int)) = false := decide_eq_false (by omega)
      go_wp2_with fail
      go_meet
      exact ⟨rfl, n, l, rfl, hl⟩
    · have h40 : decide ((40 : Int) < (n : Int)) = true := decide_eq_true (by omega)
      have hc40 : 40 ≤ c := by omega
      go_wp2_with fail
      go_meet
      exact ⟨rfl, 40, l.take 40, rfl, hl.take (by omega)⟩
  case rest =>
    obtain ⟨rfl, n', l', rfl, hl'⟩ := hcut
    clear hcap hsm hrc hl
    have hcap := hl'.cap
    have hsm := hl'.small
    have hrc := hl'.reach
    have hA0 := (Blk.new w 37 #[.int .u64 au, .int .u64 ad]).alloc (.cells #[.int .u64 bu, .int .u64 bd] 37)
    have hB0 := Blk.new (w.alloc (.cells #[.int .u64 au, .int .u64 ad] 37)) 37 #[.int .u64 bu, .int .u64 bd]
    have hW0 : Below w.heap.size w ((w.alloc (.cells #[.int .u64 au, .int .u64 ad] 37)).alloc (.cells #[.int .u64 bu, .int .u64 bd] 37)) := by go_grown
    simp only [World.size_alloc] at hB0
    generalize (w.alloc (.cells #[.int .u64 au, .int .u64 ad] 37)).alloc (.cells #[.int .u64 bu, .int .u64 bd] 37) = w0 at *
    go_wp2_with fail
    go_loopg [7, 8] n' (fun gk s7 s8 wr => ∃ i : Nat, i ≤ n' ∧ gk = n' - i ∧ s8 = .int .i64 i ∧ s7 = .int .i64 (bestTo l' n' i) ∧ Blk wr w.heap.size 37 #[.int .u64 au, .int .u64 ad] ∧ Blk wr (w.heap.size + 1) 37 #[.int .u64 bu, .int .u64 bd] ∧ Below w.heap.size w wr)
    case atStart => exact ⟨0, Nat.zero_le _, rfl, rfl, rfl, hA0, hB0, hW0⟩
    case round =>
      clear hA0 hB0 hW0
      obtain ⟨i, hi, rfl, rfl, rfl, hA, hB, hW⟩ := hrel
      obtain ⟨wo, rfl⟩ : ∃ wo, wo = wr := ⟨_, rfl⟩
      have hst : bestTo l' n' (i + 1) = if firstTo l' i n' then (i : Int) else bestTo l' n' i := rfl
      by_cases hlt : i < n'
      · obtain ⟨ad', e', hbk, _, _, w0', w1'⟩ := hl'.at_ hlt
        have n2 := Lib.hid (show IsNum (l'.getD i (0, 0)).1 (l'.getD i (0, 0)).2 from ⟨(u64_of_wf w0').1, (u64_of_wf w0').2, (u64_of_wf w1').1, (u64_of_wf w1').2⟩)
        clear w0' w1' hbk e'
        have HST := Lib.hid hst
        clear hst
        obtain ⟨bst, hbst⟩ : ∃ b, b = bestTo l' n' i := ⟨_, rfl⟩
        rw [← hbst] at HST ⊢
        clear hbst
        go_wp2_with fail
        go_loopg [9, 10] n' (fun gk s9 s10 wx => ∃ k : Nat, k ≤ n' ∧ gk = n' - k ∧ s10 = .int .i64 k ∧ s9 = .bool (firstTo l' i k) ∧ Below wo.heap.size wo wx)
        case atStart => exact ⟨0, Nat.zero_le _, rfl, rfl, rfl, Below.refl _ _⟩
        case round =>
          obtain ⟨k, hk, rfl, rfl, rfl, hx⟩ := hrel
          have hstk : firstTo l' i (k + 1) = (firstTo l' i k && !(decide (fracP (l'.getD k (0, 0)) (l'.getD i (0, 0)) < 0) || (fracP (l'.getD k (0, 0)) (l'.getD i (0, 0)) == 0 && decide (k < i)))) := rfl
          obtain ⟨fb, hfb⟩ : ∃ b, b = firstTo l' i k := ⟨_, rfl⟩
          have HFB := Lib.hid hfb
          rw [← hfb] at hstk ⊢
          clear hfb
          by_cases hkn : k < n'
          · have hlx := hl'.keep (below_step hW hx)
            obtain ⟨ad', rfl, hbk, c0, c1, w0', w1'⟩ := hlx.at_ hkn
            obtain ⟨ad2, e', _, g0, g1, _, _⟩ := hlx.at_ hlt
            obtain rfl : ad2 = ad' := by injection e' with e'; exact e'.symm
            have n1 := Lib.hid (show IsNum (l'.getD k (0, 0)).1 (l'.getD k (0, 0)).2 from ⟨(u64_of_wf w0').1, (u64_of_wf w0').2, (u64_of_wf w1').1, (u64_of_wf w1').2⟩)
            clear w0' w1' hbk e' hlx
            have U0 := cell_under c0
            have U1 := cell_under c1
            have U2 := cell_under g0
            have U3 := cell_under g1
            have hki : (k : Int) < (n' : Int) := by omega
            have hii : (i : Int) < (n' : Int) := by omega
            have hk0 : (0 : Int) ≤ (k : Int) := by omega
            have hi0 : (0 : Int) ≤ (i : Int) := by omega
            clear c0 c1 g0 g1
            have e0 : fracP (l'.getD k (0, 0)) (l'.getD i (0, 0)) = fracI (l'.getD k (0, 0)).1 (l'.getD k (0, 0)).2 (l'.getD i (0, 0)).1 (l'.getD i (0, 0)).2 := rfl
            rw [e0] at hstk
            clear e0
            have HSK := Lib.hid hstk
            clear hstk
            generalize l'.getD k (0, 0) = fk at *
            generalize l'.getD i (0, 0) = fi at *
            go_wp2_with fail
            refine wp_region_quiet_under (by kernel_rfl) (by kernel_rfl) ?_
            repeat (go_big_quiet_step (((go_at_call 40; exact calls_under (law_fracs _ _ _ _ n1.out n2.out _)))))
            refine wpQuiet_nil ?_
            intro wu hw'
            obtain ⟨pq, hw''⟩ := hw'
            have hU := below_eq hw''
            clear hw'' pq
            have hx3 := below_step hx hU
            clear hx hU U0 U1 U2 U3 n1 n2
            have hstk := HSK.out
            clear HSK
            generalize fracI fk.1 fk.2 fi.1 fi.2 = C at *
            by_cases h1 : C < 0
            · have HS := Lib.hid (show firstTo l' i (k + 1) = false by rw [hstk, decide_eq_true h1]; simp)
              clear hstk
              go_wp2
              go_roundg (n' - (k + 1))
              case measure => omega
              case rel => exact ⟨k + 1, by omega, rfl, by go_num, by rw [HS.out], hx3⟩
            · have h1' : decide (C < 0) = false := decide_eq_false h1
              by_cases h2 : C = 0
              · subst h2
                by_cases h3 : k < i
                · have HS := Lib.hid (show firstTo l' i (k + 1) = false by rw [hstk, decide_eq_true h3]; simp)
                  clear hstk h1
                  go_wp2
                  go_roundg (n' - (k + 1))
                  case measure => omega
                  case rel => exact ⟨k + 1, by omega, rfl, by go_num, by rw [HS.out], hx3⟩
                · have HS := Lib.hid (show firstTo l' i (k + 1) = fb by rw [hstk, decide_eq_false h3]; simp)
                  clear hstk h1
                  go_wp2
                  go_roundg (n' - (k + 1))
                  case measure => omega
                  case rel => exact ⟨k + 1, by omega, rfl, by go_num, by rw [HS.out], hx3⟩
              · have h2' : (C == 0) = false := by simp [h2]
                have HS := Lib.hid (show firstTo l' i (k + 1) = fb by rw [hstk, h1', h2']; simp)
                clear hstk h1 h2
                go_wp2
                go_roundg (n' - (k + 1))
                case measure => omega
                case rel => exact ⟨k + 1, by omega, rfl, by go_num, by rw [HS.out], hx3⟩
          · obtain rfl : k = n' := by omega
            have hst := HST.out
            rw [← HFB.out] at hst
            have hA' := hA.keep hx
            have hB' := hB.keep hx
            have hW' := below_step hW hx
            clear HST hstk HFB hA hB hW hx
            cases fb with
            | true =>
              have HS := Lib.hid (show bestTo l' k (i + 1) = (i : Int) by rw [hst]; rfl)
              clear hst
              go_wp2
              go_roundg (k - (i + 1))
              case measure => omega
              case rel => exact ⟨i + 1, by omega, rfl, by go_num, by rw [HS.out], hA', hB', hW'⟩
            | false =>
              have HS := Lib.hid (show bestTo l' k (i + 1) = bst by rw [hst]; rfl)
              clear hst
              go_wp2
              go_roundg (k - (i + 1))
              case measure => omega
              case rel => exact ⟨i + 1, by omega, rfl, by go_num, by rw [HS.out], hA', hB', hW'⟩
      · obtain rfl : i = n' := by omega
        have hbl := best_least l' (fracs_wf hl') i
        rw [hbl]
        clear hst hbl
        obtain ⟨c0, c1, z⟩ := hA.cells2
        obtain ⟨d0, d1, dz⟩ := hB.cells2
        have U0 := cell_under c0
        have U1 := cell_under c1
        have U2 := cell_under d0
        have U3 := cell_under d1
        have hlx := hl'.keep hW
        have k1 : IntKind.i64.wrap (-fracI au ad bu bd) = fracI bu bd au ad := by
          have := fracI_bd au ad bu bd
          have h2 := fracI_anti au ad bu bd
          rw [h2]
          exact IntWalk.i64_in _ (by omega)
        clear c0 c1 z d0 d1 dz
        go_wp2_with fail
        refine wp_region_quiet_under (by kernel_rfl) (by kernel_rfl) ?_
        repeat (go_big_quiet_step ((first | (go_at_call 41; exact calls_under (wide_FracCmp _ _ _ _ (by assumption) (by assumption) _)) | (go_at_call 40; exact calls_under (law_fracs _ _ _ _ (by assumption) (by assumption) _)) | (go_at_call 42; exact calls_under (wide_Least _ _ _ _ _ (hlx.keep (under_below _ _)))) | (go_at_call 38; exact calls_under (wide_awake _)))))
        refine wpQuiet_nil ?_
        intro wu hw'
        obtain ⟨pq, hw''⟩ := hw'
        have hU := below_eq hw''
        clear hw'' pq
        go_wp2
        go_ret
        exact ⟨rfl, below_step hW hU⟩
end Go.Proofs.Ytonbmcgfbbpnkaa
