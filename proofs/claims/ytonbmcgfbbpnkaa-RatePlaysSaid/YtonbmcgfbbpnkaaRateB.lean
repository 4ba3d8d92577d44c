/- Buckets: time goes by; so many are taken; when there are so many. -/
import Derived.Test.YtonbmcgfbbpnkaaRateA
import Derived.BigRegion
import Derived.BigQuiet
import Derived.Deep.QuietTactic
import Derived.Deep.DeepCutAuto
set_option linter.unusedVariables false
namespace Go.Proofs.Ytonbmcgfbbpnkaa
open Go.RowKit
set_option maxHeartbeats 400000
section
variable {b : Nat} {e m h n : Int}
theorem bkS {w0 w : World} (hB : BK w b e m h n) (hM : Mod (· = b) w0 w) : (w.cell? ⟨b, 0, none⟩ = some (.int .i64 e) ∧ w.cell? ⟨b, 1, none⟩ = some (.int .i64 m) ∧ w.cell? ⟨b, 2, none⟩ = some (.int .i64 h) ∧ w.cell? ⟨b, 3, none⟩ = some (.int .i64 n)) ∧ BK w b e m h n ∧ Mod (· = b) w0 w := by
  obtain ⟨c0, c1, c2, c3, z⟩ := Blk.cells4 hB
  exact ⟨⟨c0, c1, c2, c3⟩, hB, hM⟩
theorem rate_Take_yes (k : Int) (w : World) (hB : BK w b e m h n) (r : RB e m h n) (k0 : 0 ≤ k) (k1 : k ≤ h) : Calls Try.prog 71 #[bp b, .int .i64 k] w fun en w' => en = .returned (.bool true) ∧ BK w' b e m (h - k) n ∧ Mod (· = b) w w' := by
  obtain ⟨c0, c1, c2, c3, z⟩ := Blk.cells4 hB
  obtain ⟨f0, f1, f2, f3⟩ := Blk.free4 hB
  have h1 := r.h1
  have m1 := r.m1
  go_enter Try.func71, Try.ntmps71
  go_wp2_with (go_at_call 129; refine (rate_none _ hB r).mono ?_; rintro en w' ⟨rfl, rfl⟩)
  go_ret
  exact ⟨rfl, Blk.setTo hB 2 _ rfl, (Mod.refl _ _).own _ _⟩
theorem rate_Go_yes (t : Int) (w : World) (hB : BK w b e m h n) (r : RB e m h n) (ht : n ≤ t) (ht1 : t ≤ 1099511627776) :
    Calls Try.prog 70 #[bp b, .int .i64 t] w fun en w' => en = .returned (.int .i64 0) ∧ BK w' b e m (rGo e m h (t - n)) t ∧ Mod (· = b) w w' := by
  obtain ⟨c0, c1, c2, c3, z⟩ := Blk.cells4 hB
  obtain ⟨f0, f1, f2, f3⟩ := Blk.free4 hB
  obtain ⟨e0, e1, m0, m1, h0, h1, n0, n1⟩ := id r
  have q := mul_bd (a := t - n) (b := e) (A := 1099511627776) (B := 1099511627776) (by omega) (by omega) e0 e1
  go_enter Try.func70, Try.ntmps70
  go_wp2_with (go_at_call 129; refine (rate_none _ hB r).mono ?_; rintro en w' ⟨rfl, rfl⟩)
  have k1 : IntKind.i64.wrap (t - n) = t - n := IntWalk.i64_in _ (by omega)
  have k2 : IntKind.u64.wrap (t - n) = t - n := by rw [IntKind.wrap_u64]; omega
  have k3 : IntKind.u64.wrap e = e := by rw [IntKind.wrap_u64]; omega
  have A1 := fun w => wide_Mul (t - n) e (by omega) (by omega) e0 (by omega) w
  have hlt : b < w.heap.size := z
  go_cut [5] (fun s5 wx => ∃ g : Nat, s5 = bp g ∧ Blk wx g 24 #[.int .u64 (pHi (t - n) e), .int .u64 (pLo (t - n) e)] ∧ w.heap.size ≤ g ∧ BK wx b e m h n ∧ Mod (· = b) w wx)
  case first =>
    go_region_held3 (fun w' => (w'.cell? ⟨b, 0, none⟩ = some (.int .i64 e) ∧ w'.cell? ⟨b, 1, none⟩ = some (.int .i64 m) ∧ w'.cell? ⟨b, 2, none⟩ = some (.int .i64 h) ∧ w'.cell? ⟨b, 3, none⟩ = some (.int .i64 n)) ∧ BK w' b e m h n ∧ Mod (· = b) w w')
      ((first | exact bkS hB (Mod.refl _ _) | exact bkS (Blk.drew hB) (Mod.refl _ _).drew | exact bkS (Blk.drew (Blk.alloc hB _)) ((Mod.refl _ _).alloc _).drew | exact bkS hB1 hM1 | exact bkS (Blk.alloc hB1 _) (hM1.alloc _) | exact bkS (Blk.far hB1 (Nat.ne_of_lt hlt) _) (hM1.fresh (Nat.le_refl _) _ _) | exact bkS (Blk.far (Blk.far hB1 (Nat.ne_of_lt hlt) _) (Nat.ne_of_lt hlt) _) ((hM1.fresh (Nat.le_refl _) _ _).fresh (Nat.le_refl _) _ _)))
      ((go_at_call 34; refine (A1 _).mono ?_; rintro en w1 ⟨rfl, hx⟩; (first | (have hB1 := Blk.keepD hB hx; have hM1 := (Mod.refl (· = b) _).thenBD hx; clear hx) | (have hB1 := Blk.keepAD hB hx; have hN := blk_newAD hx; have hM1 := (Mod.refl (· = b) _).thenAD hx; clear hx; obtain ⟨x0, x1, xz⟩ := hN.cells2; obtain ⟨y0, y1⟩ := hN.free2)); obtain ⟨d0, d1, d2, d3, dz⟩ := Blk.cells4 hB1))
    all_goals
      go_wp2_with fail
      go_meet
      first
        | exact ⟨_, rfl, Blk.new _ _ _, hM1.size, Blk.alloc hB1 _, hM1.alloc _⟩
        | exact ⟨_, rfl, (hN.set_ 0 _).set_ 1 _, Nat.le_refl _, Blk.far (Blk.far hB1 (Nat.ne_of_lt hlt) _) (Nat.ne_of_lt hlt) _, (hM1.fresh (Nat.le_refl _) _ _).fresh (Nat.le_refl _) _ _⟩
  case rest =>
    obtain ⟨g, rfl, hN, hg, hB2, hM2⟩ := hcut
    have q' := q
    clear c0 c1 c2 c3 f0 f1 f2 f3 hB A1 k1 k2 k3
    obtain ⟨c0, c1, c2, c3, z'⟩ := Blk.cells4 hB2
    obtain ⟨f0, f1, f2, f3⟩ := Blk.free4 hB2
    obtain ⟨x0, x1, xz⟩ := hN.cells2
    have hn := p_num (t - n) e (by omega) (by omega) e0 (by omega)
    have hpv : pHi (t - n) e = (t - n) * e / 18446744073709551616 := rfl
    have hpl : pLo (t - n) e = (t - n) * e % 18446744073709551616 := rfl
    have k4 : IntKind.i64.wrap (m - h) = m - h := IntWalk.i64_in _ (by omega)
    have k5 : IntKind.u64.wrap (m - h) = m - h := by rw [IntKind.wrap_u64]; omega
    by_cases hlt : m - h < (t - n) * e
    · have hr := Lib.hid (show rGo e m h (t - n) = m by unfold rGo; rw [if_pos hlt])
      by_cases hh : 0 < pHi (t - n) e
      · clear hpv hpl q q' hn
        generalize pHi (t - n) e = H at *
        generalize pLo (t - n) e = L at *
        go_wp2_with fail
        go_quiet (fail)
        go_wp2
        go_ret
        exact ⟨rfl, by rw [hr.out]; exact Blk.setTo (Blk.setTo (Blk.drewN hB2 _) 2 _ rfl) 3 _ rfl, ((hM2.drewN _).own _ _).own _ _⟩
      · have hl : m - h < pLo (t - n) e := by omega
        have hh' : decide (0 < pHi (t - n) e) = false := decide_eq_false hh
        clear hpv hpl q q' hn
        clear hh
        generalize pHi (t - n) e = H at *
        generalize pLo (t - n) e = L at *
        go_wp2_with fail
        go_quiet (fail)
        go_wp2
        go_ret
        exact ⟨rfl, by rw [hr.out]; exact Blk.setTo (Blk.setTo (Blk.drewN hB2 _) 2 _ rfl) 3 _ rfl, ((hM2.drewN _).own _ _).own _ _⟩
    · have hr := Lib.hid (show rGo e m h (t - n) = h + pLo (t - n) e by unfold rGo; rw [if_neg hlt]; omega)
      have hh' : decide (0 < pHi (t - n) e) = false := decide_eq_false (by omega)
      have hl : decide (m - h < pLo (t - n) e) = false := decide_eq_false (by omega)
      have k6 : IntKind.i64.wrap (pLo (t - n) e) = pLo (t - n) e := IntWalk.i64_in _ (by omega)
      have k7 : IntKind.i64.wrap (h + pLo (t - n) e) = h + pLo (t - n) e := IntWalk.i64_in _ (by omega)
      clear hpv hpl q q' hn
      generalize pHi (t - n) e = H at *
      generalize pLo (t - n) e = L at *
      go_wp2_with fail
      go_quiet (fail)
      go_wp2
      go_region
      all_goals
        go_wp2
        go_ret
        exact ⟨rfl, by rw [hr.out]; exact Blk.setTo (Blk.setTo (Blk.drewN hB2 _) 2 _ rfl) 3 _ rfl, ((hM2.drewN _).own _ _).own _ _⟩
theorem rate_Wait (k : Int) (k0 : -9223372036854775808 ≤ k) (k1 : k ≤ 9223372036854775807) (w : World) (hB : BK w b e m h n) (r : RB e m h n) :
    Calls Try.prog 68 #[bp b, .int .i64 k] w fun en w' => en = .returned (.int .i64 (rWait e m h n k)) ∧ ∃ d, w' = w.drewN d := by
  obtain ⟨c0, c1, c2, c3, z⟩ := Blk.cells4 hB
  obtain ⟨e0, e1, m0, m1, h0, h1, n0, n1⟩ := id r
  by_cases hk0 : k < 0
  · rw [show rWait e m h n k = -1 from by unfold rWait; rw [if_pos (.inl hk0)]]
    go_enter Try.func68, Try.ntmps68
    go_wp2_with (go_at_call 129; refine (rate_none _ hB r).mono ?_; rintro en w' ⟨rfl, rfl⟩)
    go_ret
    exact ⟨rfl, 0, rfl⟩
  · by_cases hk1 : m < k
    · rw [show rWait e m h n k = -1 from by unfold rWait; rw [if_pos (.inr hk1)]]
      go_enter Try.func68, Try.ntmps68
      go_wp2_with (go_at_call 129; refine (rate_none _ hB r).mono ?_; rintro en w' ⟨rfl, rfl⟩)
      go_ret
      exact ⟨rfl, 0, rfl⟩
    · by_cases hk2 : k ≤ h
      · rw [rWait_now r (by omega) (by omega) hk2]
        go_enter Try.func68, Try.ntmps68
        go_wp2_with (go_at_call 129; refine (rate_none _ hB r).mono ?_; rintro en w' ⟨rfl, rfl⟩)
        go_ret
        exact ⟨rfl, 0, rfl⟩
      · by_cases hk3 : e = 0
        · rw [show rWait e m h n k = -1 from by unfold rWait; rw [if_neg (by omega), if_neg hk2, if_pos hk3]]
          subst hk3
          go_enter Try.func68, Try.ntmps68
          go_wp2_with (go_at_call 129; refine (rate_none _ hB r).mono ?_; rintro en w' ⟨rfl, rfl⟩)
          go_ret
          exact ⟨rfl, 0, rfl⟩
        · have hw : rWait e m h n k = if 1099511627776 < n + (k - h - 1) / e + 1 then -1 else n + (k - h - 1) / e + 1 := by unfold rWait; rw [if_neg (by omega), if_neg hk2, if_neg hk3]
          have hd := div_bd (a := k - h - 1) (e := e) (by omega) (by omega)
          have he : (e == 0) = false := by simp [hk3]
          have s3 : (k - h - 1).tdiv e = (k - h - 1) / e := Int.tdiv_eq_ediv_of_nonneg (by omega)
          obtain ⟨q, hq⟩ : ∃ q, q = (k - h - 1) / e := ⟨_, rfl⟩
          rw [← hq] at hw hd s3
          clear hq
          have s1 : IntKind.i64.wrap (k - h) = k - h := IntWalk.i64_in _ (by omega)
          have s2 : IntKind.i64.wrap (k - h - 1) = k - h - 1 := IntWalk.i64_in _ (by omega)
          have s4 : IntKind.i64.wrap q = q := IntWalk.i64_in _ (by omega)
          have s5 : IntKind.i64.wrap (n + q) = n + q := IntWalk.i64_in _ (by omega)
          have s6 : IntKind.i64.wrap (n + q + 1) = n + q + 1 := IntWalk.i64_in _ (by omega)
          by_cases hk4 : 1099511627776 < n + q + 1
          · rw [hw, if_pos hk4]
            clear hw
            go_enter Try.func68, Try.ntmps68
            go_wp2_with (go_at_call 129; refine (rate_none _ hB r).mono ?_; rintro en w' ⟨rfl, rfl⟩)
            go_quiet (fail)
            clear s1 s2 s3 s4 s5 s6
            go_wp2
            go_ret
            exact ⟨rfl, _, rfl⟩
          · rw [hw, if_neg hk4]
            clear hw
            go_enter Try.func68, Try.ntmps68
            go_wp2_with (go_at_call 129; refine (rate_none _ hB r).mono ?_; rintro en w' ⟨rfl, rfl⟩)
            go_quiet (fail)
            clear s1 s2 s3 s4 s5 s6
            go_wp2
            go_ret
            exact ⟨rfl, _, rfl⟩
end
end Go.Proofs.Ytonbmcgfbbpnkaa
