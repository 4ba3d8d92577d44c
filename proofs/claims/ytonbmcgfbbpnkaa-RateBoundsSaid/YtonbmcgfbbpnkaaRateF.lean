/- RateBounds. -/
import Derived.Test.YtonbmcgfbbpnkaaRateC
import Derived.Test.YtonbmcgfbbpnkaaPairs2
import Derived.Test.YtonbmcgfbbpnkaaQuiet3
set_option linter.unusedVariables false
namespace Go.Proofs.Ytonbmcgfbbpnkaa
open Go.RowKit
theorem bounds_go {e m h n s t : Int} (r : RB e m h n) (ht : n ≤ t) (hs : s + h ≤ m + e * n) : s + rGo e m h (t - n) ≤ m + e * t := by
  have h1 := (rGo_bd r (d := t - n) (by omega)).2.2
  have h2 : (t - n) * e = e * t - e * n := by rw [Int.sub_mul, Int.mul_comm t, Int.mul_comm n]
  omega
/-- What has gone by, and the bucket, in a world of which all that was there at first is as it was. -/
def BoundsRel (w0 : World) (b R : Nat) (e m s : Int) (wr : World) : Prop :=
  ∃ h n : Int, RB e m h n ∧ 0 ≤ s ∧ s + h ≤ m + e * n ∧ BK wr b e m h n ∧ Blk wr R 80 #[.int .i64 e, .int .i64 m] ∧ Below w0.heap.size w0 wr
theorem rule_ne1 {w : World} {b R : Nat} {e m h n : Int} (hR : Blk w R 80 #[.int .i64 e, .int .i64 m]) (hB : BK w b e m h n) : ¬ R = b := hR.ne_ hB (by decide)
set_option maxHeartbeats 4000000
theorem rateBounds_no (w : World) (e m : Int) (h : rRight e m = false) (A : Option Addr) (n c : Nat) :
    Calls Try.prog 16 #[.agg #[.int .i64 e, .int .i64 m], .slice A n c] w fun en w' => en = .returned (.bool true) ∧ Below w.heap.size w w' := by
  go_enter Try.func16, Try.ntmps16
  go_wp2_with fail
  refine (rate_New_no e m h _).mono ?_; rintro en w1 ⟨rfl, hx⟩
  have hW : Below w.heap.size w w1 := below_step (by go_grown) hx
  clear hx
  go_wp2_with (go_at_call 66; refine (law37_awake _).mono ?_; rintro en w3 ⟨rfl, hx⟩)
  go_ret
  exact ⟨rfl, below_step hW hx⟩
theorem rateBounds_great (w : World) (e m : Int) (h : rRight e m = true) (hg : 1048576 < e ∨ 1048576 < m) (A : Option Addr) (n c : Nat) :
    Calls Try.prog 16 #[.agg #[.int .i64 e, .int .i64 m], .slice A n c] w fun en w' => en = .returned (.bool true) ∧ Below w.heap.size w w' := by
  by_cases h1 : 1048576 < e
  all_goals
    first
      | (have h2 : decide (1048576 < e) = true := decide_eq_true (by omega))
      | (have h2 : decide (1048576 < e) = false := decide_eq_false (by omega); have h3 : decide (1048576 < m) = true := decide_eq_true (by omega))
    clear hg h1
    go_enter Try.func16, Try.ntmps16
    go_wp2_with fail
    refine (rate_New_yes e m h _).mono ?_; rintro en w1 ⟨b, rfl, hb, hB, hx⟩
    have hR := (Blk.new w 80 #[.int .i64 e, .int .i64 m]).keep hx
    have hW : Below w.heap.size w w1 := below_step (by go_grown) hx
    clear hx hb
    obtain ⟨c0, c1, z⟩ := hR.cells2
    go_wp2_with (go_at_call 66; refine (law37_awake _).mono ?_; rintro en w3 ⟨rfl, hx⟩)
    go_ret
    exact ⟨rfl, below_step hW hx⟩
theorem rateBounds_yes (w : World) (e m : Int) (h : rRight e m = true) (he : e ≤ 1048576) (hm20 : m ≤ 1048576) (A : Option Addr) (n c : Nat) (l : List (Int × Int)) (hl : IsPairs w .i64 .i64 A n c l) :
    Calls Try.prog 16 #[.agg #[.int .i64 e, .int .i64 m], .slice A n c] w fun en w' => en = .returned (.bool true) ∧ Below w.heap.size w w' := by
  have hn := hl.reach
  have hcap := hl.cap
  have hsm := hl.small
  have r0 : RB e m m 0 := by
    have := of_decide_eq_true h
    constructor <;> omega
  go_enter Try.func16, Try.ntmps16
  go_wp2_with fail
  refine (rate_New_yes e m h _).mono ?_; rintro en w1 ⟨b, rfl, hb, hB, hx⟩
  have hR := (Blk.new w 80 #[.int .i64 e, .int .i64 m]).keep hx
  have hW : Below w.heap.size w w1 := below_step (by go_grown) hx
  have hb' : w.heap.size ≤ b := by simp at hb; omega
  clear hx hb
  obtain ⟨c0, c1, z⟩ := hR.cells2
  go_wp2_with fail
  go_loopg [7, 8] n (fun gk s i wr => ∃ (k : Nat) (S : Int), k ≤ n ∧ gk = n - k ∧ i = .int .i64 k ∧ s = .int .i64 S ∧ BoundsRel w b w.heap.size e m S wr)
  case atStart => exact ⟨0, 0, Nat.zero_le _, rfl, rfl, rfl, m, 0, r0, Int.le_refl _, by omega, hB, hR, hW⟩
  case round =>
    clear c0 c1 z hR hB hW
    obtain ⟨k, S, hk, rfl, rfl, rfl, x, y, r, hS0, hS, hB, hR, hW⟩ := hrel
    obtain ⟨e0, e1, m0, m1, h0, h1, n0, n1⟩ := id r
    by_cases hlt : k < n
    · by_cases h60 : k < 60
      · obtain ⟨ad, rfl, hbk, a0, a1, q0, q1⟩ := hl.at_ hlt
        have a0' := (hW.cell (p := ad.add (k * 2)) (by rw [block_of_add]; exact hbk)).trans a0
        have a1' := (hW.cell (p := ⟨(ad.add (k * 2)).block, (ad.add (k * 2)).off + 1, none⟩) (by show (ad.add (k * 2)).block < _; rw [block_of_add]; exact hbk)).trans a1
        have hq0 := i64_of_wf q0
        have hq1 := i64_of_wf q1
        clear a0 a1 q0 q1 hbk
        generalize l.getD k (0, 0) = q at *
        obtain ⟨q0, q1⟩ := q
        have HS := Lib.hid hS
        have hen := mul_bd (a := e) (b := y) (A := 1048576) (B := 1099511627776) e0 he n0 n1
        have hO : ∀ (v : World), Blk (v.alloc (.cells #[.int .i64 q0, .int .i64 q1] 91)) v.heap.size 91 #[.int .i64 q0, .int .i64 q1] := fun v => Blk.new v _ _
        -- what becomes of the bucket and of the sum, in each case
        by_cases hk2 : q0 = 2
        · subst hk2
          by_cases hq : q1 ≤ 1099511627776
          · by_cases hy : y ≤ q1
            · have hs' := bounds_go r hy hS
              have r' := rGo_ok r hy hq
              have hen' := mul_bd (a := e) (b := q1) (A := 1048576) (B := 1099511627776) e0 he (by omega) hq
              have hg0 := r'.h0
              have k0 : decide (m + e * q1 < S) = false := decide_eq_false (by omega)
              have k1 : IntKind.i64.wrap (e * q1) = e * q1 := IntWalk.i64_in _ (by omega)
              have k2 : IntKind.i64.wrap (m + e * q1) = m + e * q1 := IntWalk.i64_in _ (by omega)
              have HS' := Lib.hid hs'
              clear hS hs' hen hen'
              go_wp2_with fail
              refine (rate_Go_yes q1 _ (Blk.alloc hB _) r hy hq).mono ?_; rintro en w3 ⟨rfl, hB3, hm⟩
              have hR3 := (Blk.alloc hR _).mod hm (rule_ne1 hR hB)
              have hW3 := below_thenMod (hW.alloc hW.size _) (Nat.le_refl _) hm (fun i hi => hi ▸ hb')
              clear hm hR hB hW hO
              obtain ⟨c0, c1, z⟩ := hR3.cells2
              generalize rGo e m x (q1 - y) = G at *
              go_wp2_with fail
              go_quiet ((go_at_call 74; exact Calls.quiet_of_same ((rate_Now _ (Blk.drewN hB3 _) r').mono fun en w' ⟨h1, h2⟩ => ⟨h1, h2.symm⟩)))
              go_wp2
              go_roundg (n - (k + 1))
              case measure => omega
              case rel => exact ⟨k + 1, S, by omega, rfl, by go_num, rfl, G, q1, r', hS0, HS'.out, Blk.drewN hB3 _, Blk.drewN hR3 _, below_drewN hW3 _⟩
            · have k0 : decide (m + e * y < S) = false := decide_eq_false (by omega)
              have k1 : IntKind.i64.wrap (e * y) = e * y := IntWalk.i64_in _ (by omega)
              have k2 : IntKind.i64.wrap (m + e * y) = m + e * y := IntWalk.i64_in _ (by omega)
              clear hS hen
              go_wp2_with fail
              refine (rate_Go_no q1 _ (Blk.alloc hB _) r (by omega)).mono ?_; rintro en w3 ⟨rfl, rfl⟩
              obtain ⟨c0, c1, z⟩ := (Blk.alloc hR (.cells #[.int .i64 2, .int .i64 q1] 91)).cells2
              go_wp2_with fail
              go_quiet ((go_at_call 74; exact Calls.quiet_of_same ((rate_Now _ (Blk.drewN (Blk.alloc hB _) _) r).mono fun en w' ⟨h1, h2⟩ => ⟨h1, h2.symm⟩)))
              go_wp2
              go_roundg (n - (k + 1))
              case measure => omega
              case rel => exact ⟨k + 1, S, by omega, rfl, by go_num, rfl, x, y, r, hS0, HS.out, Blk.drewN (Blk.alloc hB _) _, Blk.drewN (Blk.alloc hR _) _, below_drewN (hW.alloc hW.size _) _⟩
          · have k0 : decide (m + e * y < S) = false := decide_eq_false (by omega)
            have k1 : IntKind.i64.wrap (e * y) = e * y := IntWalk.i64_in _ (by omega)
            have k2 : IntKind.i64.wrap (m + e * y) = m + e * y := IntWalk.i64_in _ (by omega)
            have k3 : decide (q1 ≤ 1099511627776) = false := decide_eq_false hq
            clear hS hen
            obtain ⟨c0, c1, z⟩ := (Blk.alloc hR (.cells #[.int .i64 2, .int .i64 q1] 91)).cells2
            go_wp2_with fail
            go_quiet ((go_at_call 74; exact Calls.quiet_of_same ((rate_Now _ (Blk.drewN (Blk.alloc hB _) _) r).mono fun en w' ⟨h1, h2⟩ => ⟨h1, h2.symm⟩)))
            go_wp2
            go_roundg (n - (k + 1))
            case measure => omega
            case rel => exact ⟨k + 1, S, by omega, rfl, by go_num, rfl, x, y, r, hS0, HS.out, Blk.drewN (Blk.alloc hB _) _, Blk.drewN (Blk.alloc hR _) _, below_drewN (hW.alloc hW.size _) _⟩
        · have hk3 : (q0 != 2) = true := by simp [hk2]
          have hk4 : (q0 == 2) = false := by simp [hk2]
          clear hk2
          by_cases hq : 0 ≤ q1 ∧ q1 ≤ x
          · have r' := rTake_ok r hq.1 hq.2
            have k0 : decide (m + e * y < S + q1) = false := decide_eq_false (by omega)
            have k1 : IntKind.i64.wrap (e * y) = e * y := IntWalk.i64_in _ (by omega)
            have k2 : IntKind.i64.wrap (m + e * y) = m + e * y := IntWalk.i64_in _ (by omega)
            have k3 : S + q1 ≤ 9223372036854775807 := by omega
            have k4 : 0 ≤ S + q1 := by omega
            have HS' := Lib.hid (show S + q1 + (x - q1) ≤ m + e * y by omega)
            obtain ⟨hq1', hq2'⟩ := hq
            clear hS hen
            go_wp2_with fail
            refine (rate_Take_yes q1 _ (Blk.alloc hB _) r hq1' hq2').mono ?_; rintro en w3 ⟨rfl, hB3, hm⟩
            have hR3 := (Blk.alloc hR _).mod hm (rule_ne1 hR hB)
            have hW3 := below_thenMod (hW.alloc hW.size _) (Nat.le_refl _) hm (fun i hi => hi ▸ hb')
            have hO3 := (hO wr).mod hm (Ne.symm (Nat.ne_of_lt (Blk.lt hB)))
            clear hm hR hB hW hO
            obtain ⟨c0, c1, z⟩ := hR3.cells2
            obtain ⟨o0, o1, oz⟩ := hO3.cells2
            go_wp2_with fail
            go_quiet ((go_at_call 74; exact Calls.quiet_of_same ((rate_Now _ (Blk.drewN hB3 _) r').mono fun en w' ⟨h1, h2⟩ => ⟨h1, h2.symm⟩)))
            go_wp2
            go_roundg (n - (k + 1))
            case measure => omega
            case rel => exact ⟨k + 1, S + q1, by omega, rfl, by go_num, rfl, x - q1, y, r', k4, HS'.out, Blk.drewN hB3 _, Blk.drewN hR3 _, below_drewN hW3 _⟩
          · have k0 : decide (m + e * y < S) = false := decide_eq_false (by omega)
            have k1 : IntKind.i64.wrap (e * y) = e * y := IntWalk.i64_in _ (by omega)
            have k2 : IntKind.i64.wrap (m + e * y) = m + e * y := IntWalk.i64_in _ (by omega)
            have hq' := Lib.hid (show q1 < 0 ∨ x < q1 by omega)
            clear hS hen hq
            go_wp2_with fail
            refine (rate_Take_no q1 _ (Blk.alloc hB _) r hq'.out).mono ?_; rintro en w3 ⟨rfl, d, rfl⟩
            obtain ⟨c0, c1, z⟩ := (Blk.alloc hR (.cells #[.int .i64 q0, .int .i64 q1] 91)).cells2
            go_wp2_with fail
            go_quiet ((go_at_call 74; exact quiet_add_left (rate_Now _ (Blk.drewN (Blk.alloc hB _) _) r)))
            go_wp2
            go_roundg (n - (k + 1))
            case measure => omega
            case rel => exact ⟨k + 1, S, by omega, rfl, by go_num, rfl, x, y, r, hS0, HS.out, Blk.drewN (Blk.alloc hB _) _, Blk.drewN (Blk.alloc hR _) _, below_drewN (hW.alloc hW.size _) _⟩
      · have h60' : decide ((k : Int) < 60) = false := decide_eq_false (by omega)
        go_wp2_with (go_at_call 66; refine (law37_awake _).mono ?_; rintro en w3 ⟨rfl, hx⟩)
        go_ret
        exact ⟨rfl, below_step hW hx⟩
    · go_wp2_with (go_at_call 66; refine (law37_awake _).mono ?_; rintro en w3 ⟨rfl, hx⟩)
      go_ret
      exact ⟨rfl, below_step hW hx⟩
theorem rateBounds_walk (w : World) (e m : Int) (_ : -9223372036854775808 ≤ e) (_ : e ≤ 9223372036854775807) (_ : -9223372036854775808 ≤ m) (_ : m ≤ 9223372036854775807) (A : Option Addr) (n c : Nat) (l : List (Int × Int)) (hl : IsPairs w .i64 .i64 A n c l) :
    Calls Try.prog 16 #[.agg #[.int .i64 e, .int .i64 m], .slice A n c] w fun en w' => en = .returned (.bool true) ∧ Below w.heap.size w w' := by
  cases h : rRight e m with
  | true =>
    by_cases hg : 1048576 < e ∨ 1048576 < m
    · exact rateBounds_great w e m h hg A n c
    · exact rateBounds_yes w e m h (by omega) (by omega) A n c l hl
  | false => exact rateBounds_no w e m h A n c
end Go.Proofs.Ytonbmcgfbbpnkaa
