/- RateTwos. -/
import Derived.Test.YtonbmcgfbbpnkaaRateC
import Derived.Test.YtonbmcgfbbpnkaaPairs2
set_option linter.unusedVariables false
namespace Go.Proofs.Ytonbmcgfbbpnkaa
open Go.RowKit
set_option maxHeartbeats 400000
theorem rate_Have_nil (w : World) : Calls Try.prog 69 #[.pointer none] w fun en w' => en = .returned (.int .i64 0) ∧ w = w' := by
  go_enter Try.func69, Try.ntmps69
  go_wp2_with (go_at_call 129; refine (rate_none_nil _).mono ?_; rintro en w' ⟨rfl, rfl⟩)
  go_ret
  exact ⟨rfl, rfl⟩
theorem rate_Go_nil (k : Int) (w : World) : Calls Try.prog 70 #[.pointer none, .int .i64 k] w fun en w' => en = .returned (.int .i64 9) ∧ w = w' := by
  go_enter Try.func70, Try.ntmps70
  go_wp2_with (go_at_call 129; refine (rate_none_nil _).mono ?_; rintro en w' ⟨rfl, rfl⟩)
  go_ret
  exact ⟨rfl, rfl⟩
theorem rate_Wait_nil (k : Int) (w : World) : Calls Try.prog 68 #[.pointer none, .int .i64 k] w fun en w' => en = .returned (.int .i64 (-1)) ∧ w = w' := by
  go_enter Try.func68, Try.ntmps68
  go_wp2_with (go_at_call 129; refine (rate_none_nil _).mono ?_; rintro en w' ⟨rfl, rfl⟩)
  go_ret
  exact ⟨rfl, rfl⟩
theorem rate_Now_zero {b : Nat} (w : World) (hB : BK w b 0 0 0 0) : Calls Try.prog 74 #[bp b] w fun en w' => en = .returned (.int .i64 0) ∧ w = w' := by
  go_enter Try.func74, Try.ntmps74
  go_wp2_with (go_at_call 129; refine (rate_none_zero _ hB).mono ?_; rintro en w' ⟨rfl, rfl⟩)
  go_ret
  exact ⟨rfl, rfl⟩
theorem rate_Take_zero {b : Nat} (k : Int) (w : World) (hB : BK w b 0 0 0 0) : Calls Try.prog 71 #[bp b, .int .i64 k] w fun en w' => en = .returned (.bool false) ∧ w = w' := by
  go_enter Try.func71, Try.ntmps71
  go_wp2_with (go_at_call 129; refine (rate_none_zero _ hB).mono ?_; rintro en w' ⟨rfl, rfl⟩)
  go_ret
  exact ⟨rfl, rfl⟩
theorem rate_Pass_nil (w : World) : Calls Try.prog 75 #[.agg #[.pointer none, .pointer none], .int .i64 0] w fun en w' => en = .returned (.bool false) ∧ Below w.heap.size w w' := by
  go_enter Try.func75, Try.ntmps75
  go_wp2_with (first | (go_at_call 129; refine (rate_none_nil _).mono ?_; rintro en w' ⟨rfl, rfl⟩) | (go_at_call 69; refine (rate_Have_nil _).mono ?_; rintro en w' ⟨rfl, rfl⟩))
  go_ret
  exact ⟨rfl, by go_grown⟩
section
variable {a b : Nat} {e m x u f p y v : Int}
theorem rate_Pass_no (n : Int) (w : World) (hA : BK w a e m x u) (r : RB e m x u) (hB : BK w b f p y v) (s : RB f p y v) (hn : ¬ (0 ≤ n ∧ n ≤ x ∧ n ≤ y)) :
    Calls Try.prog 75 #[.agg #[bp a, bp b], .int .i64 n] w fun en w' => en = .returned (.bool false) ∧ Below w.heap.size w w' := by
  by_cases h1 : x < n
  all_goals
    by_cases h2 : y < n
    all_goals
      first
        | (have d0 : decide (x < n) = true := decide_eq_true (by omega))
        | (have d0 : decide (x < n) = false := decide_eq_false (by omega); first | (have d1 : decide (y < n) = true := decide_eq_true (by omega)) | (have d1 : decide (y < n) = false := decide_eq_false (by omega); have d2 : decide (n < 0) = true := decide_eq_true (by omega)))
      clear hn h1 h2
      go_enter Try.func75, Try.ntmps75
      go_wp2_with (first | (go_at_call_of 69 (bp a); refine (rate_Have (b := a) _ (Blk.alloc hA _) r).mono ?_; rintro en w' ⟨rfl, rfl⟩) | (go_at_call_of 69 (bp b); refine (rate_Have (b := b) _ (Blk.alloc hB _) s).mono ?_; rintro en w' ⟨rfl, rfl⟩))
      go_ret
      exact ⟨rfl, by go_grown⟩
theorem rate_Pass_yes (n : Int) (w : World) (hA : BK w a e m x u) (r : RB e m x u) (hB : BK w b f p y v) (s : RB f p y v) (hab : a ≠ b) (n0 : 0 ≤ n) (n1 : n ≤ x) (n2 : n ≤ y) :
    Calls Try.prog 75 #[.agg #[bp a, bp b], .int .i64 n] w fun en w' => en = .returned (.bool true) ∧ BK w' a e m (x - n) u ∧ BK w' b f p (y - n) v ∧ Mod (fun k => k = a ∨ k = b) w w' := by
  have d0 : decide (x < n) = false := decide_eq_false (by omega)
  have d1 : decide (y < n) = false := decide_eq_false (by omega)
  have d2 : decide (n < 0) = false := decide_eq_false (by omega)
  go_enter Try.func75, Try.ntmps75
  go_wp2_with fail
  have hT := Blk.new w 102 #[bp a, bp b]
  have hA1 := Blk.alloc hA (.cells #[bp a, bp b] 102)
  have hB1 := Blk.alloc hB (.cells #[bp a, bp b] 102)
  have hM1 : Mod (fun k => k = a ∨ k = b) w (w.alloc (.cells #[bp a, bp b] 102)) := (Mod.refl _ _).alloc _
  have hTa : w.heap.size ≠ a := Ne.symm (Nat.ne_of_lt (Blk.lt hA))
  have hTb : w.heap.size ≠ b := Ne.symm (Nat.ne_of_lt (Blk.lt hB))
  generalize w.alloc (.cells #[bp a, bp b] 102) = w0 at *
  clear hA hB
  obtain ⟨t0, t1, tz⟩ := hT.cells2
  go_wp2_with fail
  refine (rate_Have _ hA1 r).mono ?_; rintro en w' ⟨rfl, rfl⟩
  go_wp2_with fail
  refine (rate_Have _ hB1 s).mono ?_; rintro en w' ⟨rfl, rfl⟩
  go_wp2_with fail
  refine (rate_none _ hA1 r).mono ?_; rintro en w' ⟨rfl, rfl⟩
  go_wp2_with fail
  refine (rate_none _ hB1 s).mono ?_; rintro en w' ⟨rfl, rfl⟩
  go_wp2_with fail
  refine (rate_Take_yes n _ hA1 r n0 n1).mono ?_; rintro en w2 ⟨rfl, hA2, hm⟩
  have hT2 := hT.mod hm hTa
  have hB2 := Blk.mod hB1 hm (Ne.symm hab)
  have hM2 := hM1.trans (hm.mono (fun i hi => Or.inl hi))
  clear hA1 hB1 hM1 hT hm t0 t1 tz
  obtain ⟨t0, t1, tz⟩ := hT2.cells2
  go_wp2_with fail
  refine (rate_Take_yes n _ hB2 s n0 n2).mono ?_; rintro en w3 ⟨rfl, hB3, hm⟩
  have hA3 := Blk.mod hA2 hm hab
  have hM3 := hM2.trans (hm.mono (fun i hi => Or.inr hi))
  clear hA2 hB2 hM2 hT2 hm t0 t1 tz
  go_wp2
  go_ret
  exact ⟨rfl, hA3, hB3, hM3⟩
end
/-- Two buckets, in a world of which all that was there at first is as it was. -/
def TwosRel (w0 : World) (a b : Nat) (e m f p : Int) (wr : World) : Prop :=
  ∃ x u y v : Int, RB e m x u ∧ RB f p y v ∧ BK wr a e m x u ∧ BK wr b f p y v ∧ Below w0.heap.size w0 wr
theorem both_ge {z b p : Nat} (hb : z ≤ b) (hp : z ≤ p) : ∀ i, (i = b ∨ i = p) → z ≤ i := by
  rintro i (rfl | rfl) <;> assumption
def TwosNext (w0 : World) (a b : Nat) (e m f p : Int) (en : Ending) (wr : World) : Prop :=
  ∃ (o : Value) (x u y v : Int), en = .returned o ∧ RB e m x u ∧ RB f p y v ∧ BK wr a e m x u ∧ BK wr b f p y v ∧ Below w0.heap.size w0 wr
section
variable {w0 : World} {a b : Nat} {e m x u f p y v : Int}
theorem twos_Take (q : Int) (w : World) (hA : BK w a e m x u) (r : RB e m x u) (hB : BK w b f p y v) (s : RB f p y v) (hab : a ≠ b) (hW : Below w0.heap.size w0 w) (ha : w0.heap.size ≤ a) (hb : w0.heap.size ≤ b) :
    Calls Try.prog 71 #[bp a, .int .i64 q] w (TwosNext w0 a b e m f p) := by
  by_cases hq : 0 ≤ q ∧ q ≤ x
  · refine (rate_Take_yes q w hA r hq.1 hq.2).mono ?_
    rintro en w' ⟨rfl, hA', hm⟩
    exact ⟨_, _, _, _, _, rfl, rTake_ok r hq.1 hq.2, s, hA', Blk.mod hB hm (Ne.symm hab), below_thenMod hW (Nat.le_refl _) hm (fun i hi => hi ▸ ha)⟩
  · refine (rate_Take_no q w hA r (by omega)).mono ?_
    rintro en w' ⟨rfl, d, rfl⟩
    exact ⟨_, _, _, _, _, rfl, r, s, Blk.drewN hA _, Blk.drewN hB _, below_drewN hW _⟩
theorem twos_Go (q : Int) (w : World) (hA : BK w a e m x u) (r : RB e m x u) (hB : BK w b f p y v) (s : RB f p y v) (hab : a ≠ b) (hW : Below w0.heap.size w0 w) (ha : w0.heap.size ≤ a) (hb : w0.heap.size ≤ b) :
    Calls Try.prog 70 #[bp b, .int .i64 q] w (TwosNext w0 a b e m f p) := by
  by_cases hq : v ≤ q ∧ q ≤ 1099511627776
  · refine (rate_Go_yes q w hB s hq.1 hq.2).mono ?_
    rintro en w' ⟨rfl, hB', hm⟩
    exact ⟨_, _, _, _, _, rfl, r, rGo_ok s hq.1 hq.2, Blk.mod hA hm hab, hB', below_thenMod hW (Nat.le_refl _) hm (fun i hi => hi ▸ hb)⟩
  · refine (rate_Go_no q w hB s (by omega)).mono ?_
    rintro en w' ⟨rfl, rfl⟩
    exact ⟨_, _, _, _, _, rfl, r, s, hA, hB, hW⟩
end
set_option maxHeartbeats 4000000
theorem rateTwos_yes (w : World) (e m f p : Int) (h : rRight e m = true) (h' : rRight f p = true) (A : Option Addr) (n c : Nat) (l : List (Int × Int)) (hl : IsPairs w .i64 .i64 A n c l) (N : Int) (N0 : -9223372036854775808 ≤ N) (N1 : N ≤ 9223372036854775807) :
    Calls Try.prog 17 #[.agg #[.int .i64 e, .int .i64 m], .agg #[.int .i64 f, .int .i64 p], .slice A n c, .int .i64 N] w fun en w' => en = .returned (.bool true) ∧ Below w.heap.size w w' := by
  have hn := hl.reach
  have hcap := hl.cap
  have hsm := hl.small
  have r0 : RB e m m 0 := by
    have := of_decide_eq_true h
    constructor <;> omega
  have s0 : RB f p p 0 := by
    have := of_decide_eq_true h'
    constructor <;> omega
  go_enter Try.func17, Try.ntmps17
  go_wp2_with fail
  have hR := (Blk.new w 80 #[.int .i64 e, .int .i64 m]).alloc (.cells #[.int .i64 f, .int .i64 p] 80)
  have hS := Blk.new (w.alloc (.cells #[.int .i64 e, .int .i64 m] 80)) 80 #[.int .i64 f, .int .i64 p]
  have hZ := Blk.new ((w.alloc (.cells #[.int .i64 e, .int .i64 m] 80)).alloc (.cells #[.int .i64 f, .int .i64 p] 80)) 99 #[.int .i64 0, .int .i64 0, .int .i64 0, .int .i64 0]
  have hR1 := hR.alloc (.cells #[.int .i64 0, .int .i64 0, .int .i64 0, .int .i64 0] 99)
  have hS1 := hS.alloc (.cells #[.int .i64 0, .int .i64 0, .int .i64 0, .int .i64 0] 99)
  have hW1 : Below w.heap.size w (((w.alloc (.cells #[.int .i64 e, .int .i64 m] 80)).alloc (.cells #[.int .i64 f, .int .i64 p] 80)).alloc (.cells #[.int .i64 0, .int .i64 0, .int .i64 0, .int .i64 0] 99)) := by go_grown
  simp only [World.size_alloc] at hS1 hZ
  generalize (((w.alloc (.cells #[.int .i64 e, .int .i64 m] 80)).alloc (.cells #[.int .i64 f, .int .i64 p] 80)).alloc (.cells #[.int .i64 0, .int .i64 0, .int .i64 0, .int .i64 0] 99)) = w1 at *
  clear hR hS
  have hZ1 : BK w1 (w.heap.size + 1 + 1) 0 0 0 0 := hZ
  clear hZ
  go_wp2_with (first
    | (go_at_call 69; refine (rate_Have_nil _).mono ?_; rintro en w' ⟨rfl, rfl⟩)
    | (go_at_call 74; refine (rate_Now_zero _ hZ1).mono ?_; rintro en w' ⟨rfl, rfl⟩)
    | (go_at_call 70; refine (rate_Go_nil _ _).mono ?_; rintro en w' ⟨rfl, rfl⟩)
    | (go_at_call 71; refine (rate_Take_zero _ _ hZ1).mono ?_; rintro en w' ⟨rfl, rfl⟩)
    | (go_at_call 68; refine (rate_Wait_nil _ _).mono ?_; rintro en w' ⟨rfl, rfl⟩))
  refine (rate_Pass_nil _).mono ?_; rintro en w2 ⟨rfl, hx⟩
  have hR2 := hR1.keep hx
  have hS2 := hS1.keep hx
  have hW2 := below_step hW1 hx
  clear hx hR1 hS1 hW1 hZ1
  obtain ⟨c0, c1, z⟩ := hR2.cells2
  obtain ⟨d0, d1, dz⟩ := hS2.cells2
  go_wp2_with fail
  refine (rate_New_yes e m h _).mono ?_; rintro en w3 ⟨a, rfl, ha, hA, hx⟩
  have hS3 := hS2.keep hx
  have hW3 := below_step hW2 hx
  have ha' : w.heap.size ≤ a := Nat.le_trans hW2.size ha
  clear hx ha hR2 hS2 hW2 c0 c1 z d0 d1 dz
  obtain ⟨d0, d1, dz⟩ := hS3.cells2
  go_wp2_with fail
  refine (rate_New_yes f p h' _).mono ?_; rintro en w4 ⟨b, rfl, hb, hB, hx⟩
  have hA4 : BK w4 a e m m 0 := Blk.keep hA hx
  have hW4 := below_step hW3 hx
  have hb' : w.heap.size ≤ b := Nat.le_trans hW3.size hb
  have hab : a ≠ b := Nat.ne_of_lt (Nat.lt_of_lt_of_le (Blk.lt hA) hb)
  clear hx hb hA hS3 hW3 d0 d1 dz
  go_wp2_with fail
  go_loopg [15] n (fun gk i wr => ∃ k : Nat, k ≤ n ∧ gk = n - k ∧ i = .int .i64 k ∧ TwosRel w a b e m f p wr)
  case atStart => exact ⟨0, Nat.zero_le _, rfl, rfl, m, 0, p, 0, r0, s0, hA4, hB, hW4⟩
  case round =>
    clear hA4 hB hW4
    obtain ⟨k, hk, rfl, rfl, x, u, y, v, r, s, hA, hB, hW⟩ := hrel
    have rx := r.h1
    have rx' := r.m1
    have sy := s.h1
    have sy' := s.m1
    have rx0 := r.h0
    have sy0 := s.h0
    by_cases hgo : k < n ∧ k < 60
    · obtain ⟨hlt, h60⟩ := hgo
      obtain ⟨ad, rfl, hbk, a0, a1, q0, q1⟩ := hl.at_ hlt
      have a0' := (hW.cell (p := ad.add (k * 2)) (by rw [block_of_add]; exact hbk)).trans a0
      have a1' := (hW.cell (p := ⟨(ad.add (k * 2)).block, (ad.add (k * 2)).off + 1, none⟩) (by show (ad.add (k * 2)).block < _; rw [block_of_add]; exact hbk)).trans a1
      clear a0 a1 q0 q1 hbk
      generalize l.getD k (0, 0) = q at *
      obtain ⟨q0, q1⟩ := q
      by_cases hk2 : q0 = 2
      · subst hk2
        go_wp2_with fail
        refine (twos_Go _ _ hA r hB s hab hW ha' hb').mono ?_; rintro en w5 ⟨er, x', u', y', v', rfl, r', s', hA', hB', hW'⟩
        clear hA hB hW
        go_wp2
        go_roundg (n - (k + 1))
        case measure => omega
        case rel => exact ⟨k + 1, by omega, rfl, by go_num, x', u', y', v', r', s', hA', hB', hW'⟩
      · have hk3 : (q0 != 2) = true := by simp [hk2]
        have hk4 : (q0 == 2) = false := by simp [hk2]
        clear hk2
        go_wp2_with fail
        refine (twos_Take _ _ hA r hB s hab hW ha' hb').mono ?_; rintro en w5 ⟨er, x', u', y', v', rfl, r', s', hA', hB', hW'⟩
        clear hA hB hW
        go_wp2
        go_roundg (n - (k + 1))
        case measure => omega
        case rel => exact ⟨k + 1, by omega, rfl, by go_num, x', u', y', v', r', s', hA', hB', hW'⟩
    · by_cases hlt : k < n
      all_goals
        first
          | (have h60 : decide ((k : Int) < 60) = false := decide_eq_false (by omega))
          | skip
        clear hgo
        by_cases hok : 0 ≤ N ∧ N ≤ x ∧ N ≤ y
        · obtain ⟨n0, n1, n2⟩ := hok
          go_wp2_with fail
          refine (rate_Have _ hA r).mono ?_; rintro en w' ⟨rfl, rfl⟩
          go_wp2_with fail
          refine (rate_Have _ hB s).mono ?_; rintro en w' ⟨rfl, rfl⟩
          go_wp2_with fail
          refine (rate_Pass_yes N _ (Blk.alloc hA _) r (Blk.alloc hB _) s hab n0 n1 n2).mono ?_; rintro en w5 ⟨rfl, hA5, hB5, hm⟩
          have hW5 := below_thenMod (hW.alloc hW.size _) (Nat.le_refl _) hm (both_ge ha' hb')
          have r5 := rTake_ok r n0 n1
          have s5 := rTake_ok s n0 n2
          clear hA hB hW hm
          go_wp2_with fail
          refine (rate_Have _ hA5 r5).mono ?_; rintro en w' ⟨rfl, rfl⟩
          go_wp2_with fail
          refine (rate_Have _ hB5 s5).mono ?_; rintro en w' ⟨rfl, rfl⟩
          go_wp2_with (go_at_call 66; refine (law37_awake _).mono ?_; rintro en w3 ⟨rfl, hx⟩)
          go_ret
          exact ⟨rfl, below_step hW5 hx⟩
        · have hno := Lib.hid hok
          by_cases n0 : 0 ≤ N
          all_goals
            by_cases n1 : N ≤ x
            all_goals
              first
                | (have d0 : decide (0 ≤ N) = false := decide_eq_false (by omega))
                | (have d0 : decide (0 ≤ N) = true := decide_eq_true (by omega); first | (have d1 : decide (N ≤ x) = false := decide_eq_false (by omega)) | (have d1 : decide (N ≤ x) = true := decide_eq_true (by omega); have d2 : decide (N ≤ y) = false := decide_eq_false (by omega)))
              clear hok n0 n1
              go_wp2_with fail
              refine (rate_Have _ hA r).mono ?_; rintro en w' ⟨rfl, rfl⟩
              go_wp2_with fail
              refine (rate_Have _ hB s).mono ?_; rintro en w' ⟨rfl, rfl⟩
              go_wp2_with fail
              refine (rate_Pass_no N _ (Blk.alloc hA _) r (Blk.alloc hB _) s hno.out).mono ?_; rintro en w5 ⟨rfl, hx⟩
              have hA5 : BK w5 a e m x u := Blk.keepA hA hx
              have hB5 : BK w5 b f p y v := Blk.keepA hB hx
              have hW5 := below_step (hW.alloc hW.size _) hx
              clear hA hB hW hx
              go_wp2_with fail
              refine (rate_Have _ hA5 r).mono ?_; rintro en w' ⟨rfl, rfl⟩
              go_wp2_with fail
              refine (rate_Have _ hB5 s).mono ?_; rintro en w' ⟨rfl, rfl⟩
              go_wp2_with (go_at_call 66; refine (law37_awake _).mono ?_; rintro en w3 ⟨rfl, hx⟩)
              go_ret
              exact ⟨rfl, below_step hW5 hx⟩
theorem rateTwos_nn (w : World) (e m f p : Int) (h : rRight e m = false) (h' : rRight f p = false) (A : Option Addr) (n c : Nat) (l : List (Int × Int)) (hl : IsPairs w .i64 .i64 A n c l) (N : Int) (N0 : -9223372036854775808 ≤ N) (N1 : N ≤ 9223372036854775807) :
    Calls Try.prog 17 #[.agg #[.int .i64 e, .int .i64 m], .agg #[.int .i64 f, .int .i64 p], .slice A n c, .int .i64 N] w fun en w' => en = .returned (.bool true) ∧ Below w.heap.size w w' := by
  have hn := hl.reach
  have hcap := hl.cap
  have hsm := hl.small
  go_enter Try.func17, Try.ntmps17
  go_wp2_with fail
  have hR := (Blk.new w 80 #[.int .i64 e, .int .i64 m]).alloc (.cells #[.int .i64 f, .int .i64 p] 80)
  have hS := Blk.new (w.alloc (.cells #[.int .i64 e, .int .i64 m] 80)) 80 #[.int .i64 f, .int .i64 p]
  have hZ := Blk.new ((w.alloc (.cells #[.int .i64 e, .int .i64 m] 80)).alloc (.cells #[.int .i64 f, .int .i64 p] 80)) 99 #[.int .i64 0, .int .i64 0, .int .i64 0, .int .i64 0]
  have hR1 := hR.alloc (.cells #[.int .i64 0, .int .i64 0, .int .i64 0, .int .i64 0] 99)
  have hS1 := hS.alloc (.cells #[.int .i64 0, .int .i64 0, .int .i64 0, .int .i64 0] 99)
  have hW1 : Below w.heap.size w (((w.alloc (.cells #[.int .i64 e, .int .i64 m] 80)).alloc (.cells #[.int .i64 f, .int .i64 p] 80)).alloc (.cells #[.int .i64 0, .int .i64 0, .int .i64 0, .int .i64 0] 99)) := by go_grown
  simp only [World.size_alloc] at hS1 hZ
  generalize (((w.alloc (.cells #[.int .i64 e, .int .i64 m] 80)).alloc (.cells #[.int .i64 f, .int .i64 p] 80)).alloc (.cells #[.int .i64 0, .int .i64 0, .int .i64 0, .int .i64 0] 99)) = w1 at *
  clear hR hS
  have hZ1 : BK w1 (w.heap.size + 1 + 1) 0 0 0 0 := hZ
  clear hZ
  go_wp2_with (first
    | (go_at_call 69; refine (rate_Have_nil _).mono ?_; rintro en w' ⟨rfl, rfl⟩)
    | (go_at_call 74; refine (rate_Now_zero _ hZ1).mono ?_; rintro en w' ⟨rfl, rfl⟩)
    | (go_at_call 70; refine (rate_Go_nil _ _).mono ?_; rintro en w' ⟨rfl, rfl⟩)
    | (go_at_call 71; refine (rate_Take_zero _ _ hZ1).mono ?_; rintro en w' ⟨rfl, rfl⟩)
    | (go_at_call 68; refine (rate_Wait_nil _ _).mono ?_; rintro en w' ⟨rfl, rfl⟩))
  refine (rate_Pass_nil _).mono ?_; rintro en w2 ⟨rfl, hx⟩
  have hR2 := hR1.keep hx
  have hS2 := hS1.keep hx
  have hW2 := below_step hW1 hx
  clear hx hR1 hS1 hW1 hZ1
  obtain ⟨c0, c1, z⟩ := hR2.cells2
  obtain ⟨d0, d1, dz⟩ := hS2.cells2
  go_wp2_with fail
  refine (rate_New_no e m h _).mono ?_; rintro en w3 ⟨rfl, hx⟩
  have hS3 := hS2.keep hx
  have hW3 := below_step hW2 hx
  clear hx hR2 hS2 hW2 c0 c1 z d0 d1 dz
  obtain ⟨d0, d1, dz⟩ := hS3.cells2
  go_wp2_with fail
  refine (rate_New_no f p h' _).mono ?_; rintro en w4 ⟨rfl, hx⟩
  have hW4 := below_step hW3 hx
  clear hx
  go_wp2_with (go_at_call 66; refine (law37_awake _).mono ?_; rintro en w5 ⟨rfl, hx⟩)
  go_ret
  exact ⟨rfl, below_step hW4 hx⟩
theorem rateTwos_ny (w : World) (e m f p : Int) (h : rRight e m = false) (h' : rRight f p = true) (A : Option Addr) (n c : Nat) (l : List (Int × Int)) (hl : IsPairs w .i64 .i64 A n c l) (N : Int) (N0 : -9223372036854775808 ≤ N) (N1 : N ≤ 9223372036854775807) :
    Calls Try.prog 17 #[.agg #[.int .i64 e, .int .i64 m], .agg #[.int .i64 f, .int .i64 p], .slice A n c, .int .i64 N] w fun en w' => en = .returned (.bool true) ∧ Below w.heap.size w w' := by
  have hn := hl.reach
  have hcap := hl.cap
  have hsm := hl.small
  go_enter Try.func17, Try.ntmps17
  go_wp2_with fail
  have hR := (Blk.new w 80 #[.int .i64 e, .int .i64 m]).alloc (.cells #[.int .i64 f, .int .i64 p] 80)
  have hS := Blk.new (w.alloc (.cells #[.int .i64 e, .int .i64 m] 80)) 80 #[.int .i64 f, .int .i64 p]
  have hZ := Blk.new ((w.alloc (.cells #[.int .i64 e, .int .i64 m] 80)).alloc (.cells #[.int .i64 f, .int .i64 p] 80)) 99 #[.int .i64 0, .int .i64 0, .int .i64 0, .int .i64 0]
  have hR1 := hR.alloc (.cells #[.int .i64 0, .int .i64 0, .int .i64 0, .int .i64 0] 99)
  have hS1 := hS.alloc (.cells #[.int .i64 0, .int .i64 0, .int .i64 0, .int .i64 0] 99)
  have hW1 : Below w.heap.size w (((w.alloc (.cells #[.int .i64 e, .int .i64 m] 80)).alloc (.cells #[.int .i64 f, .int .i64 p] 80)).alloc (.cells #[.int .i64 0, .int .i64 0, .int .i64 0, .int .i64 0] 99)) := by go_grown
  simp only [World.size_alloc] at hS1 hZ
  generalize (((w.alloc (.cells #[.int .i64 e, .int .i64 m] 80)).alloc (.cells #[.int .i64 f, .int .i64 p] 80)).alloc (.cells #[.int .i64 0, .int .i64 0, .int .i64 0, .int .i64 0] 99)) = w1 at *
  clear hR hS
  have hZ1 : BK w1 (w.heap.size + 1 + 1) 0 0 0 0 := hZ
  clear hZ
  go_wp2_with (first
    | (go_at_call 69; refine (rate_Have_nil _).mono ?_; rintro en w' ⟨rfl, rfl⟩)
    | (go_at_call 74; refine (rate_Now_zero _ hZ1).mono ?_; rintro en w' ⟨rfl, rfl⟩)
    | (go_at_call 70; refine (rate_Go_nil _ _).mono ?_; rintro en w' ⟨rfl, rfl⟩)
    | (go_at_call 71; refine (rate_Take_zero _ _ hZ1).mono ?_; rintro en w' ⟨rfl, rfl⟩)
    | (go_at_call 68; refine (rate_Wait_nil _ _).mono ?_; rintro en w' ⟨rfl, rfl⟩))
  refine (rate_Pass_nil _).mono ?_; rintro en w2 ⟨rfl, hx⟩
  have hR2 := hR1.keep hx
  have hS2 := hS1.keep hx
  have hW2 := below_step hW1 hx
  clear hx hR1 hS1 hW1 hZ1
  obtain ⟨c0, c1, z⟩ := hR2.cells2
  obtain ⟨d0, d1, dz⟩ := hS2.cells2
  go_wp2_with fail
  refine (rate_New_no e m h _).mono ?_; rintro en w3 ⟨rfl, hx⟩
  have hS3 := hS2.keep hx
  have hW3 := below_step hW2 hx
  clear hx hR2 hS2 hW2 c0 c1 z d0 d1 dz
  obtain ⟨d0, d1, dz⟩ := hS3.cells2
  go_wp2_with fail
  refine (rate_New_yes f p h' _).mono ?_; rintro en w4 ⟨b, rfl, hb, hB, hx⟩
  have hW4 := below_step hW3 hx
  clear hx
  go_wp2_with (go_at_call 66; refine (law37_awake _).mono ?_; rintro en w5 ⟨rfl, hx⟩)
  go_ret
  exact ⟨rfl, below_step hW4 hx⟩
theorem rateTwos_yn (w : World) (e m f p : Int) (h : rRight e m = true) (h' : rRight f p = false) (A : Option Addr) (n c : Nat) (l : List (Int × Int)) (hl : IsPairs w .i64 .i64 A n c l) (N : Int) (N0 : -9223372036854775808 ≤ N) (N1 : N ≤ 9223372036854775807) :
    Calls Try.prog 17 #[.agg #[.int .i64 e, .int .i64 m], .agg #[.int .i64 f, .int .i64 p], .slice A n c, .int .i64 N] w fun en w' => en = .returned (.bool true) ∧ Below w.heap.size w w' := by
  have hn := hl.reach
  have hcap := hl.cap
  have hsm := hl.small
  go_enter Try.func17, Try.ntmps17
  go_wp2_with fail
  have hR := (Blk.new w 80 #[.int .i64 e, .int .i64 m]).alloc (.cells #[.int .i64 f, .int .i64 p] 80)
  have hS := Blk.new (w.alloc (.cells #[.int .i64 e, .int .i64 m] 80)) 80 #[.int .i64 f, .int .i64 p]
  have hZ := Blk.new ((w.alloc (.cells #[.int .i64 e, .int .i64 m] 80)).alloc (.cells #[.int .i64 f, .int .i64 p] 80)) 99 #[.int .i64 0, .int .i64 0, .int .i64 0, .int .i64 0]
  have hR1 := hR.alloc (.cells #[.int .i64 0, .int .i64 0, .int .i64 0, .int .i64 0] 99)
  have hS1 := hS.alloc (.cells #[.int .i64 0, .int .i64 0, .int .i64 0, .int .i64 0] 99)
  have hW1 : Below w.heap.size w (((w.alloc (.cells #[.int .i64 e, .int .i64 m] 80)).alloc (.cells #[.int .i64 f, .int .i64 p] 80)).alloc (.cells #[.int .i64 0, .int .i64 0, .int .i64 0, .int .i64 0] 99)) := by go_grown
  simp only [World.size_alloc] at hS1 hZ
  generalize (((w.alloc (.cells #[.int .i64 e, .int .i64 m] 80)).alloc (.cells #[.int .i64 f, .int .i64 p] 80)).alloc (.cells #[.int .i64 0, .int .i64 0, .int .i64 0, .int .i64 0] 99)) = w1 at *
  clear hR hS
  have hZ1 : BK w1 (w.heap.size + 1 + 1) 0 0 0 0 := hZ
  clear hZ
  go_wp2_with (first
    | (go_at_call 69; refine (rate_Have_nil _).mono ?_; rintro en w' ⟨rfl, rfl⟩)
    | (go_at_call 74; refine (rate_Now_zero _ hZ1).mono ?_; rintro en w' ⟨rfl, rfl⟩)
    | (go_at_call 70; refine (rate_Go_nil _ _).mono ?_; rintro en w' ⟨rfl, rfl⟩)
    | (go_at_call 71; refine (rate_Take_zero _ _ hZ1).mono ?_; rintro en w' ⟨rfl, rfl⟩)
    | (go_at_call 68; refine (rate_Wait_nil _ _).mono ?_; rintro en w' ⟨rfl, rfl⟩))
  refine (rate_Pass_nil _).mono ?_; rintro en w2 ⟨rfl, hx⟩
  have hR2 := hR1.keep hx
  have hS2 := hS1.keep hx
  have hW2 := below_step hW1 hx
  clear hx hR1 hS1 hW1 hZ1
  obtain ⟨c0, c1, z⟩ := hR2.cells2
  obtain ⟨d0, d1, dz⟩ := hS2.cells2
  go_wp2_with fail
  refine (rate_New_yes e m h _).mono ?_; rintro en w3 ⟨a, rfl, ha, hA, hx⟩
  have hS3 := hS2.keep hx
  have hW3 := below_step hW2 hx
  clear hx hR2 hS2 hW2 c0 c1 z d0 d1 dz
  obtain ⟨d0, d1, dz⟩ := hS3.cells2
  go_wp2_with fail
  refine (rate_New_no f p h' _).mono ?_; rintro en w4 ⟨rfl, hx⟩
  have hW4 := below_step hW3 hx
  clear hx
  go_wp2_with (go_at_call 66; refine (law37_awake _).mono ?_; rintro en w5 ⟨rfl, hx⟩)
  go_ret
  exact ⟨rfl, below_step hW4 hx⟩
theorem rateTwos_walk (w : World) (e m : Int) (_ : -9223372036854775808 ≤ e) (_ : e ≤ 9223372036854775807) (_ : -9223372036854775808 ≤ m) (_ : m ≤ 9223372036854775807) (f p : Int) (_ : -9223372036854775808 ≤ f) (_ : f ≤ 9223372036854775807) (_ : -9223372036854775808 ≤ p) (_ : p ≤ 9223372036854775807) (A : Option Addr) (n c : Nat) (l : List (Int × Int)) (hl : IsPairs w .i64 .i64 A n c l) (N : Int) (N0 : -9223372036854775808 ≤ N) (N1 : N ≤ 9223372036854775807) :
    Calls Try.prog 17 #[.agg #[.int .i64 e, .int .i64 m], .agg #[.int .i64 f, .int .i64 p], .slice A n c, .int .i64 N] w fun en w' => en = .returned (.bool true) ∧ Below w.heap.size w w' := by
  cases h : rRight e m with
  | true =>
    cases h' : rRight f p with
    | true => exact rateTwos_yes w e m f p h h' A n c l hl N N0 N1
    | false => exact rateTwos_yn w e m f p h h' A n c l hl N N0 N1
  | false =>
    cases h' : rRight f p with
    | true => exact rateTwos_ny w e m f p h h' A n c l hl N N0 N1
    | false => exact rateTwos_nn w e m f p h h' A n c l hl N N0 N1
end Go.Proofs.Ytonbmcgfbbpnkaa
