/- The law's pick. -/
import Derived.Test.YtpedhlmcgilliaaStrawA
import Derived.Deep.DeepCutAuto
set_option linter.unusedVariables false
namespace Go.Proofs.Ytpedhlmcgilliaa
open Go.RowKit
set_option maxHeartbeats 2000000
set_option maxRecDepth 100000
theorem pick_yes' {L : Int → Int} {l : List (Int × Int)} {k : Nat} {B : Int} (hB : B = pickTo L l k) {x : Int × Int} (hx : x = l.getD k (0, 0)) (h : 0 < x.2 ∧ (B < 0 ∨ shP L x (l.getD B.toNat (0, 0)) = true)) : pickTo L l (k + 1) = k := by
  subst hB hx; exact pick_yes h
theorem pick_no' {L : Int → Int} {l : List (Int × Int)} {k : Nat} {B : Int} (hB : B = pickTo L l k) {x : Int × Int} (hx : x = l.getD k (0, 0)) (h : ¬ (0 < x.2 ∧ (B < 0 ∨ shP L x (l.getD B.toNat (0, 0)) = true))) : pickTo L l (k + 1) = B := by
  subst hB hx; exact pick_no h
theorem law_pick (key : Int) (A : Option Addr) (n c : Nat) (l : List (Int × Int)) (k0 : 0 ≤ key) (k1 : key < 18446744073709551616) (w : World) (hl : IsPairs w .u64 .u64 A n c l) :
    Calls Try.prog 14 #[.int .u64 key, .slice A n c] w fun e w' => e = .returned (.int .i64 (pickTo (lenI key) l n)) ∧ Below w.heap.size w w' := by
  have hn := hl.reach
  have hcap := hl.cap
  have hsm := hl.small
  go_enter Try.func14, Try.ntmps14
  go_wp2
  go_loopw [5, 6] (fun b i wr => ∃ k : Nat, k ≤ n ∧ i = .int .i64 k ∧ b = .int .i64 (pickTo (lenI key) l k) ∧ Below w.heap.size w wr) (fun _ i _ => n - (intOf i).toNat)
  case atStart => exact ⟨0, Nat.zero_le _, rfl, rfl, Below.refl _ _⟩
  case round =>
    obtain ⟨k, hk, rfl, rfl, hb⟩ := hrel
    have hbd := pick_bd (lenI key) l k
    obtain ⟨B, hB⟩ : ∃ B, B = pickTo (lenI key) l k := ⟨_, rfl⟩
    rw [← hB] at hbd ⊢
    have HB := Lib.hid hB
    clear hB
    by_cases hlt : k < n
    · obtain ⟨ad, rfl, hbk, c0, c1, w0, w1⟩ := (hl.keep hb).at_ hlt
      have hki : (k : Int) < (n : Int) := by omega
      obtain ⟨x, hx⟩ : ∃ f, f = l.getD k (0, 0) := ⟨_, rfl⟩
      rw [← hx] at c0 c1 w0 w1
      have HX := Lib.hid hx
      clear hx
      have U0 := cell_under c0
      have U1 := cell_under c1
      have nx := Lib.hid (show IsNum x.1 x.2 from ⟨(u64_of_wf w0).1, (u64_of_wf w0).2, (u64_of_wf w1).1, (u64_of_wf w1).2⟩)
      have x2 := (u64_of_wf w1).1
      clear c0 c1 w0 w1
      by_cases hw : 0 < x.2
      · have hw' : decide (0 < x.2) = true := decide_eq_true hw
        by_cases hneg : B < 0
        · have hg : decide (B < 0) = true := decide_eq_true hneg
          have HS := Lib.hid (pick_yes' HB.out HX.out ⟨hw, .inl hneg⟩)
          go_wp2_with fail
          refine wp_region_quiet_under (by kernel_rfl) (by kernel_rfl) ?_
          repeat (go_big_quiet_step ((fail)))
          refine wpQuiet_nil ?_
          intro wu hw'
          obtain ⟨pq, hw''⟩ := hw'
          have hU := below_eq hw''
          clear hw'' pq
          have hb2 := below_step hb hU
          clear hU U0 U1 hb
          go_wp2
          go_roundw
          case rel => exact ⟨k + 1, by omega, by go_num, by rw [HS.out], hb2⟩
          case measure => simp [intOf] <;> omega
        · have hg : decide (B < 0) = false := decide_eq_false hneg
          have hB0 : 0 ≤ B := by omega
          have hBn : B < (n : Int) := by omega
          obtain ⟨ad', e', _, c0, c1, v0, v1⟩ := (hl.keep hb).at_ (k := B.toNat) (by omega)
          obtain rfl : ad' = ad := by injection e' with e'; exact e'.symm
          obtain ⟨y, hy⟩ : ∃ f, f = l.getD B.toNat (0, 0) := ⟨_, rfl⟩
          rw [← hy] at c0 c1 v0 v1
          have HY := Lib.hid hy
          clear hy
          have U2 := cell_under c0
          have U3 := cell_under c1
          have ny := Lib.hid (show IsNum y.1 y.2 from ⟨(u64_of_wf v0).1, (u64_of_wf v0).2, (u64_of_wf v1).1, (u64_of_wf v1).2⟩)
          clear c0 c1 v0 v1 e'
          have D1 := fun w => law_shorter key x.1 x.2 y.1 y.2 k0 k1 nx.out ny.out w
          obtain ⟨S, hS⟩ : ∃ S, S = shP (lenI key) (x.1, x.2) (y.1, y.2) := ⟨_, rfl⟩
          rw [← hS] at D1
          have HSS := Lib.hid hS
          clear hS nx ny
          go_wp2_with fail
          refine wp_region_quiet_under (by kernel_rfl) (by kernel_rfl) ?_
          repeat (go_big_quiet_step (((go_at_call 44; exact calls_under (D1 _)))))
          refine wpQuiet_nil ?_
          intro wu hw'
          obtain ⟨pq, hw''⟩ := hw'
          have hU := below_eq hw''
          clear hw'' pq
          have hb2 := below_step hb hU
          clear hU U0 U1 U2 U3 hb D1
          cases S with
          | true =>
            have HS := Lib.hid (pick_yes' HB.out HX.out ⟨hw, .inr (by rw [← HY.out]; exact HSS.out.symm)⟩)
            clear HSS
            go_wp2
            go_roundw
            case rel => exact ⟨k + 1, by omega, by go_num, by rw [HS.out], hb2⟩
            case measure => simp [intOf] <;> omega
          | false =>
            have HS := Lib.hid (pick_no' HB.out HX.out (fun h => by
              rcases h.2 with h2 | h2
              · omega
              · rw [← HY.out] at h2
                exact absurd (h2.symm.trans HSS.out.symm) (by decide)))
            clear HSS
            go_wp2
            go_roundw
            case rel => exact ⟨k + 1, by omega, by go_num, by rw [HS.out], hb2⟩
            case measure => simp [intOf] <;> omega
      · have hw' : decide (0 < x.2) = false := decide_eq_false hw
        have HS := Lib.hid (pick_no' HB.out HX.out (fun h => hw h.1))
        go_wp2_with fail
        refine wp_region_quiet_under (by kernel_rfl) (by kernel_rfl) ?_
        repeat (go_big_quiet_step ((fail)))
        refine wpQuiet_nil ?_
        intro wu hw'
        obtain ⟨pq, hw''⟩ := hw'
        have hU := below_eq hw''
        clear hw'' pq
        have hb2 := below_step hb hU
        clear hU U0 U1 hb
        go_wp2
        go_roundw
        case rel => exact ⟨k + 1, by omega, by go_num, by rw [HS.out], hb2⟩
        case measure => simp [intOf] <;> omega
    · obtain rfl : k = n := by omega
      go_wp2
      go_ret
      exact ⟨by rw [← HB.out]; rfl, hb⟩
end Go.Proofs.Ytpedhlmcgilliaa
