/- wide.Least. -/
import Derived.Test.YtonbmcgfbbpnkaaWideG
import Derived.Test.YtonbmcgfbbpnkaaPairs2
import Derived.Test.YtonbmcgfbbpnkaaUnder
set_option linter.unusedVariables false
namespace Go.Proofs.Ytonbmcgfbbpnkaa
open Go.RowKit
set_option maxHeartbeats 1000000
def fracP (a b : Int × Int) : Int := fracI a.1 a.2 b.1 b.2
/-- The place of the least one of the first k, of alike ones the first; -1: none. -/
def leastTo (l : List (Int × Int)) : Nat → Int
  | 0 => -1
  | k + 1 => if leastTo l k < 0 then k else if fracP (l.getD k (0, 0)) (l.getD (leastTo l k).toNat (0, 0)) < 0 then k else leastTo l k
theorem leastTo_bd (l : List (Int × Int)) : ∀ k, -1 ≤ leastTo l k ∧ leastTo l k < k
  | 0 => by simp [leastTo]
  | k + 1 => by
    have := leastTo_bd l k
    unfold leastTo
    (repeat' split) <;> omega
theorem leastTo_pos (l : List (Int × Int)) : ∀ k, 0 < k → 0 ≤ leastTo l k
  | 0, h => absurd h (by omega)
  | k + 1, _ => by
    unfold leastTo
    split
    · omega
    · split <;> omega
theorem wide_Least (A : Option Addr) (n c : Nat) (l : List (Int × Int)) (w : World) (hl : IsPairs w .u64 .u64 A n c l) :
    Calls Try.prog 42 #[.slice A n c] w fun e w' => e = .returned (.int .i64 (leastTo l n)) ∧ Below w.heap.size w w' := by
  have hn := hl.reach
  have hcap := hl.cap
  have hsm := hl.small
  go_enter Try.func42, Try.ntmps42
  go_wp2
  go_loopw [3, 8] (fun b i wr => ∃ k : Nat, k ≤ n ∧ i = .int .i64 k ∧ b = .int .i64 (leastTo l k) ∧ Below w.heap.size w wr) (fun _ i _ => n - (intOf i).toNat)
  case atStart => exact ⟨0, Nat.zero_le _, rfl, rfl, Below.refl _ _⟩
  case round =>
    obtain ⟨k, hk, rfl, rfl, hb⟩ := hrel
    have hbd := leastTo_bd l k
    have hst : Hid (leastTo l (k + 1) = if leastTo l k < 0 then (k : Int) else if fracP (l.getD k (0, 0)) (l.getD (leastTo l k).toNat (0, 0)) < 0 then (k : Int) else leastTo l k) := rfl
    have hpos := leastTo_pos l k
    obtain ⟨B, hB⟩ : ∃ B, B = leastTo l k := ⟨_, rfl⟩
    rw [← hB] at hbd hst hpos ⊢
    have HB := Lib.hid hB
    clear hB
    by_cases hlt : k < n
    · obtain ⟨ad, rfl, hbk, c0, c1, w0, w1⟩ := hl.at_ hlt
      have d0 := (hb.cell (p := ad.add (k * 2)) (by rw [block_of_add]; exact hbk)).trans c0
      have d1 := (hb.cell (p := ⟨(ad.add (k * 2)).block, (ad.add (k * 2)).off + 1, none⟩) (by show (ad.add (k * 2)).block < _; rw [block_of_add]; exact hbk)).trans c1
      obtain ⟨fu, hfu⟩ : ∃ f, f = l.getD k (0, 0) := ⟨_, rfl⟩
      rw [← hfu] at hst d0 d1 w0 w1
      clear c0 c1 hfu
      by_cases hneg : B < 0
      · have hg : decide (B < 0) = true := decide_eq_true hneg
        have hs := Lib.hid (show leastTo l (k + 1) = k by rw [hst.out, if_pos hneg])
        clear hst hpos w0 w1
        go_wp2_with fail
        go_quiet (fail)
        go_wp2
        go_roundw
        case rel => exact ⟨k + 1, by omega, by go_num, by rw [hs.out], below_drewN (hb.alloc hb.size _) _⟩
        case measure => simp [intOf] <;> omega
      · have hg : decide (B < 0) = false := decide_eq_false hneg
        have hB0 : 0 ≤ B := by omega
        have hs := Lib.hid (show leastTo l (k + 1) = if fracP fu (l.getD B.toNat (0, 0)) < 0 then (k : Int) else B by rw [hst.out, if_neg hneg])
        obtain ⟨ad', e', _, c0, c1, v0, v1⟩ := hl.at_ (k := B.toNat) (by omega)
        obtain rfl : ad' = ad := by injection e' with e'; exact e'.symm
        obtain ⟨gu, hgu⟩ : ∃ f, f = l.getD B.toNat (0, 0) := ⟨_, rfl⟩
        rw [← hgu] at hs c0 c1 v0 v1
        have g0 := (hb.cell (p := ad'.add (B.toNat * 2)) (by rw [block_of_add]; exact hbk)).trans c0
        have g1 := (hb.cell (p := ⟨(ad'.add (B.toNat * 2)).block, (ad'.add (B.toNat * 2)).off + 1, none⟩) (by show (ad'.add (B.toNat * 2)).block < _; rw [block_of_add]; exact hbk)).trans c1
        have n1 := Lib.hid (show IsNum fu.1 fu.2 from ⟨(u64_of_wf w0).1, (u64_of_wf w0).2, (u64_of_wf w1).1, (u64_of_wf w1).2⟩)
        have n2 := Lib.hid (show IsNum gu.1 gu.2 from ⟨(u64_of_wf v0).1, (u64_of_wf v0).2, (u64_of_wf v1).1, (u64_of_wf v1).2⟩)
        clear hst hpos w0 w1 v0 v1 c0 c1 e' hgu
        have hBn : B < (n : Int) := by omega
        go_wp2_with fail
        have hF := Blk.new wr 37 #[.int .u64 fu.1, .int .u64 fu.2]
        have G0 := cell_alloc g0 (.cells #[.int .u64 fu.1, .int .u64 fu.2] 37)
        have G1 := cell_alloc g1 (.cells #[.int .u64 fu.1, .int .u64 fu.2] 37)
        have hb2 := hb.alloc hb.size (.cells #[.int .u64 fu.1, .int .u64 fu.2] 37)
        generalize wr.alloc (.cells #[.int .u64 fu.1, .int .u64 fu.2] 37) = u at *
        clear g0 g1 d0 d1
        have U0 := cell_under hF.cells2.1
        have U1 := cell_under hF.cells2.2.1
        have U2 := cell_under G0
        have U3 := cell_under G1
        clear G0 G1
        refine wp_region_quiet_under (by kernel_rfl) (by kernel_rfl) ?_
        repeat (go_big_quiet_step (((go_at_call 41; exact calls_under (wide_FracCmp _ _ _ _ n1.out n2.out _)))))
        refine wpQuiet_nil ?_
        intro wu hw'
        obtain ⟨pq, hw''⟩ := hw'
        have hU := below_eq hw''
        clear hw'' pq
        have hs2 := hs.out
        have e0 : fracP fu gu = fracI fu.1 fu.2 gu.1 gu.2 := rfl
        rw [e0] at hs2
        clear e0 hs n1 n2 U0 U1 U2 U3
        have hb3 := below_step hb2 hU
        clear hb2 hU hF hb
        generalize fracI fu.1 fu.2 gu.1 gu.2 = C at *
        by_cases hC : C < 0
        · rw [if_pos hC] at hs2
          have HS := Lib.hid hs2
          have hC' : decide (C < 0) = true := decide_eq_true hC
          clear hs2
          go_wp2
          go_roundw
          case rel => exact ⟨k + 1, by omega, by go_num, by rw [HS.out], hb3⟩
          case measure => simp [intOf] <;> omega
        · rw [if_neg hC] at hs2
          have HS := Lib.hid hs2
          have hC' : decide (C < 0) = false := decide_eq_false hC
          clear hs2
          go_wp2
          go_roundw
          case rel => exact ⟨k + 1, by omega, by go_num, by rw [HS.out], hb3⟩
          case measure => simp [intOf] <;> omega
    · obtain rfl : k = n := by omega
      go_wp2
      go_ret
      exact ⟨by rw [← HB.out]; rfl, hb⟩
end Go.Proofs.Ytonbmcgfbbpnkaa
