/- RateWaits. -/
import Derived.Test.YtonbmcgfbbpnkaaRateC
import Derived.Test.YtonbmcgfbbpnkaaPairs2
set_option linter.unusedVariables false
namespace Go.Proofs.Ytonbmcgfbbpnkaa
open Go.RowKit
set_option maxHeartbeats 4000000
/-- Both buckets alike, and the rule, in a world of which all that was there at first is as it was. -/
def WaitsRel (w0 : World) (b p R : Nat) (e m : Int) (wr : World) : Prop :=
  ∃ h n : Int, RB e m h n ∧ BK wr b e m h n ∧ PK wr p e m h n ∧ Blk wr R 80 #[.int .i64 e, .int .i64 m] ∧ Below w0.heap.size w0 wr
theorem rule_ne {w : World} {b p R : Nat} {e m h n h' n' : Int} (hR : Blk w R 80 #[.int .i64 e, .int .i64 m]) (hB : BK w b e m h n) (hP : PK w p e m h' n') : ¬ (R = b ∨ R = p) := by
  rintro (h | h)
  · exact hR.ne_ hB (by decide) h
  · exact hR.ne_ hP (by decide) h
theorem both_ge {z b p : Nat} (hb : z ≤ b) (hp : z ≤ p) : ∀ i, (i = b ∨ i = p) → z ≤ i := by
  rintro i (rfl | rfl) <;> assumption
theorem rateWaits_no (w : World) (e m : Int) (h : rRight e m = false) (A : Option Addr) (n c : Nat) (l : List (Int × Int)) (N : Int) :
    Calls Try.prog 14 #[.agg #[.int .i64 e, .int .i64 m], .slice A n c, .int .i64 N] w fun en w' => en = .returned (.bool true) ∧ Below w.heap.size w w' := by
  go_enter Try.func14, Try.ntmps14
  go_wp2_with fail
  refine (rate_New_no e m h _).mono ?_; rintro en w1 ⟨rfl, hx⟩
  have hW : Below w.heap.size w w1 := below_step (by go_grown) hx
  clear hx
  go_wp2_with (go_at_call 66; refine (law37_awake _).mono ?_; rintro en w3 ⟨rfl, hx⟩)
  go_ret
  exact ⟨rfl, below_step hW hx⟩
theorem rateWaits_yes (w : World) (e m : Int) (h : rRight e m = true) (A : Option Addr) (n c : Nat) (l : List (Int × Int)) (hl : IsPairs w .i64 .i64 A n c l) (N : Int) (N0 : -9223372036854775808 ≤ N) (N1 : N ≤ 9223372036854775807) :
    Calls Try.prog 14 #[.agg #[.int .i64 e, .int .i64 m], .slice A n c, .int .i64 N] w fun en w' => en = .returned (.bool true) ∧ Below w.heap.size w w' := by
  have hn := hl.reach
  have hcap := hl.cap
  have hsm := hl.small
  have r0 : RB e m m 0 := by
    have := of_decide_eq_true h
    constructor <;> omega
  go_enter Try.func14, Try.ntmps14
  go_wp2_with fail
  refine (rate_New_yes e m h _).mono ?_; rintro en w1 ⟨b, rfl, hb, hB, hx⟩
  have hR := (Blk.new w 80 #[.int .i64 e, .int .i64 m]).keep hx
  have hW : Below w.heap.size w w1 := below_step (by go_grown) hx
  have hb' : w.heap.size ≤ b := by simp at hb; omega
  clear hx hb
  obtain ⟨c0, c1, z⟩ := hR.cells2
  go_wp2_with fail
  have hbp : b ≠ w1.heap.size := Nat.ne_of_lt (Blk.lt hB)
  have hp0 : w.heap.size ≤ w1.heap.size := hW.size
  go_loopg [10] n (fun gk i wr => ∃ k : Nat, k ≤ n ∧ gk = n - k ∧ i = .int .i64 k ∧ WaitsRel w b w1.heap.size w.heap.size e m wr)
  case atStart => exact ⟨0, Nat.zero_le _, rfl, rfl, m, 0, r0, Blk.alloc hB _, Blk.new _ _ _, Blk.alloc hR _, hW.alloc hW.size _⟩
  case round =>
    clear c0 c1 z hR hB hW
    obtain ⟨k, hk, rfl, rfl, x, y, r, hB, hP, hR, hW⟩ := hrel
    obtain ⟨e0, e1, m0, m1, h0, h1, n0, n1⟩ := id r
    obtain ⟨c0, c1, z⟩ := hR.cells2
    obtain ⟨p0, p1, p2, p3, pz⟩ := Blk.cells4 hP
    by_cases hgo : k < n ∧ k < 60
    · obtain ⟨hlt, h60⟩ := hgo
      obtain ⟨ad, rfl, hbk, a0, a1, q0, q1⟩ := hl.at_ hlt
      have a0' := (hW.cell (p := ad.add (k * 2)) (by rw [block_of_add]; exact hbk)).trans a0
      have a1' := (hW.cell (p := ⟨(ad.add (k * 2)).block, (ad.add (k * 2)).off + 1, none⟩) (by show (ad.add (k * 2)).block < _; rw [block_of_add]; exact hbk)).trans a1
      clear a0 a1 q0 q1 hbk c0 c1 z p0 p1 p2 p3 pz
      generalize l.getD k (0, 0) = q at *
      go_wp2_with fail
      refine (law_step q.1 q.2 _ hB hP hbp r).mono ?_; rintro en w3 ⟨x', y', rfl, r', hB', hP', hm⟩
      have hR' := hR.mod hm (rule_ne hR hB hP)
      have hW' := below_thenMod hW (Nat.le_refl _) hm (both_ge hb' hp0)
      clear hR hB hP hW hm
      go_wp2
      go_roundg (n - (k + 1))
      case measure => omega
      case rel => exact ⟨k + 1, by omega, rfl, by go_num, x', y', r', hB', hP', hR', hW'⟩
    · by_cases hlt : k < n
      all_goals
        first
          | (have h60 : decide ((k : Int) < 60) = false := decide_eq_false (by omega))
          | skip
        clear hgo
        by_cases hN0 : N < 0
        · have hT : rWait e m x y N = -1 := by unfold rWait; rw [if_pos (.inl hN0)]
          go_wp2_with fail
          refine (rate_Wait N N0 N1 _ hB r).mono ?_; rintro en w' ⟨rfl, d, rfl⟩
          rw [hT]
          clear hT
          go_wp2_with (go_at_call 66; refine (law37_awake _).mono ?_; rintro en w3 ⟨rfl, hx⟩)
          go_ret
          exact ⟨rfl, below_step (below_drewN hW d) hx⟩
        · by_cases hN1 : m < N
          · have hT : rWait e m x y N = -1 := by unfold rWait; rw [if_pos (.inr hN1)]
            go_wp2_with fail
            refine (rate_Wait N N0 N1 _ hB r).mono ?_; rintro en w' ⟨rfl, d, rfl⟩
            rw [hT]
            clear hT
            go_wp2_with (go_at_call 66; refine (law37_awake _).mono ?_; rintro en w3 ⟨rfl, hx⟩)
            go_ret
            exact ⟨rfl, below_step (below_drewN hW d) hx⟩
          · have hd0 : decide (N < 0) = false := decide_eq_false hN0
            have hd1 : decide (m < N) = false := decide_eq_false hN1
            by_cases hw : rWait e m x y N < 0
            · obtain ⟨g1, g2⟩ := rWait_never (k := N) r (by omega) (by omega) hw
              have hg1 : decide (N ≤ x) = false := decide_eq_false (by omega)
              have hr2 := rGo_ok r (t := 1099511627776) n1 (by decide)
              go_wp2_with fail
              refine (rate_Wait N N0 N1 _ hB r).mono ?_; rintro en w' ⟨rfl, d, rfl⟩
              generalize rWait e m x y N = T at *
              go_wp2_with fail
              refine (rate_Have _ (Blk.drewN hB d) r).mono ?_; rintro en w' ⟨rfl, rfl⟩
              go_wp2_with fail
              refine (rate_Go_yes 1099511627776 _ (Blk.drewN hB d) r n1 (by decide)).mono ?_; rintro en w3 ⟨rfl, hB3, hM3⟩
              have hW3 := below_thenMod (below_drewN hW d) (Nat.le_refl _) hM3 (fun i hi => hi ▸ hb')
              clear hM3 hW hB hP hR
              generalize rGo e m x (1099511627776 - y) = G at *
              go_wp2_with (first | (go_at_call 69; refine (rate_Have _ hB3 hr2).mono ?_; rintro en w' ⟨rfl, rfl⟩) | (go_at_call 66; refine (law37_awake _).mono ?_; rintro en w3 ⟨rfl, hx⟩))
              go_ret
              exact ⟨rfl, below_step hW3 hx⟩
            · have hw0 : decide (rWait e m x y N < 0) = false := decide_eq_false hw
              by_cases hnow : N ≤ x
              · have hT := rWait_now r (by omega) (by omega) hnow
                have hr2 := rGo_ok r (t := y) (Int.le_refl _) n1
                rw [Int.sub_self, rGo_zero r] at hr2
                go_wp2_with fail
                refine (rate_Wait N N0 N1 _ hB r).mono ?_; rintro en w' ⟨rfl, d, rfl⟩
                rw [hT] at hw0 ⊢
                clear hT hw
                go_wp2_with fail
                refine (rate_Go_yes y _ (Blk.drewN hB d) r (Int.le_refl _) n1).mono ?_; rintro en w3 ⟨rfl, hB3, hM3⟩
                rw [Int.sub_self, rGo_zero r] at hB3
                have hW3 := below_thenMod (below_drewN hW d) (Nat.le_refl _) hM3 (fun i hi => hi ▸ hb')
                clear hM3 hW hB hP hR
                by_cases hz : N = 0
                · subst hz
                  go_wp2_with (go_at_call 66; refine (law37_awake _).mono ?_; rintro en w3 ⟨rfl, hx⟩)
                  go_ret
                  exact ⟨rfl, below_step hW3 hx⟩
                · have hz' : (N == 0) = false := by simp [hz]
                  clear hz
                  go_wp2_with fail
                  refine (rate_Take_yes N _ hB3 hr2 (by omega) hnow).mono ?_; rintro en w4 ⟨rfl, hB4, hM4⟩
                  have hW4 := below_thenMod hW3 (Nat.le_refl _) hM4 (fun i hi => hi ▸ hb')
                  clear hM4 hW3 hB3
                  go_wp2_with (go_at_call 66; refine (law37_awake _).mono ?_; rintro en w3 ⟨rfl, hx⟩)
                  go_ret
                  exact ⟨rfl, below_step hW4 hx⟩
              · obtain ⟨t0, t1, t2, t3⟩ := rWait_later (k := N) r (by omega) (by omega) (by omega) (by omega)
                have hr2 := rGo_ok r (t := rWait e m x y N - 1) (by omega) (by omega)
                have hr3 := rGo_ok hr2 (t := rWait e m x y N) (by omega) t1
                have hz' : (N == 0) = false := by simp; omega
                go_wp2_with fail
                refine (rate_Wait N N0 N1 _ hB r).mono ?_; rintro en w' ⟨rfl, d, rfl⟩
                generalize rWait e m x y N = T at *
                have hTy : decide (T < y) = false := decide_eq_false (by omega)
                go_wp2_with fail
                refine (rate_Go_yes (T - 1) _ (Blk.drewN hB d) r (by omega) (by omega)).mono ?_; rintro en w3 ⟨rfl, hB3, hM3⟩
                have hW3 := below_thenMod (below_drewN hW d) (Nat.le_refl _) hM3 (fun i hi => hi ▸ hb')
                have hP3 := (Blk.drewN hP d).mod hM3 (Ne.symm hbp)
                clear hM3 hW hB hP hR p0 p1 p2 p3 pz
                obtain ⟨p0, p1, p2, p3, pz⟩ := Blk.cells4 hP3
                go_wp2_with fail
                refine (rate_Take_no N _ hB3 hr2 (.inr t2)).mono ?_; rintro en w' ⟨rfl, d2, rfl⟩
                go_wp2_with fail
                refine (rate_Go_yes T _ (Blk.drewN hB3 d2) hr2 (by omega) t1).mono ?_; rintro en w4 ⟨rfl, hB4, hM4⟩
                have hW4 := below_thenMod (below_drewN hW3 d2) (Nat.le_refl _) hM4 (fun i hi => hi ▸ hb')
                clear hM4 hW3 hB3 hP3 p0 p1 p2 p3 pz
                go_wp2_with fail
                refine (rate_Take_yes N _ hB4 hr3 (by omega) t3).mono ?_; rintro en w5 ⟨rfl, hB5, hM5⟩
                have hW5 := below_thenMod hW4 (Nat.le_refl _) hM5 (fun i hi => hi ▸ hb')
                clear hM5 hW4 hB4
                go_wp2_with (go_at_call 66; refine (law37_awake _).mono ?_; rintro en w3 ⟨rfl, hx⟩)
                go_ret
                exact ⟨rfl, below_step hW5 hx⟩
theorem rateWaits_walk (w : World) (e m : Int) (_ : -9223372036854775808 ≤ e) (_ : e ≤ 9223372036854775807) (_ : -9223372036854775808 ≤ m) (_ : m ≤ 9223372036854775807) (A : Option Addr) (n c : Nat) (l : List (Int × Int)) (hl : IsPairs w .i64 .i64 A n c l) (N : Int) (N0 : -9223372036854775808 ≤ N) (N1 : N ≤ 9223372036854775807) :
    Calls Try.prog 14 #[.agg #[.int .i64 e, .int .i64 m], .slice A n c, .int .i64 N] w fun en w' => en = .returned (.bool true) ∧ Below w.heap.size w w' := by
  cases h : rRight e m with
  | true => exact rateWaits_yes w e m h A n c l hl N N0 N1
  | false => exact rateWaits_no w e m h A n c l N
end Go.Proofs.Ytonbmcgfbbpnkaa
