/- The law's own bucket, and a call of both. -/
import Derived.Test.YtonbmcgfbbpnkaaRateB
import Derived.Deep.RegionHeld3
set_option linter.unusedVariables false
namespace Go.Proofs.Ytonbmcgfbbpnkaa
open Go.RowKit
set_option maxHeartbeats 400000
theorem results_nil {fn : Func} (h : fn.results = #[]) (tmps : Array Value) (P : Program) (w : World) : (results fn tmps).run P w = .ok (.tuple #[]) w := by simp [results, h]
def PK (w : World) (b : Nat) (e m h n : Int) : Prop := Blk w b 88 #[.int .i64 e, .int .i64 m, .int .i64 h, .int .i64 n]
section
variable {b p : Nat} {e m h n : Int}
theorem law_fill (u : Int) (u0 : 0 ≤ u) (u1 : u ≤ 1099511627776) (w : World) (hB : PK w p e m h n) (r : RB e m h n) :
    Calls Try.prog 128 #[bp p, .int .i64 u] w fun en w' => en = .returned (.tuple #[]) ∧ PK w' p e m (rGo e m h u) n ∧ Mod (· = p) w w' := by
  obtain ⟨c0, c1, c2, c3, z⟩ := Blk.cells4 hB
  obtain ⟨f0, f1, f2, f3⟩ := Blk.free4 hB
  obtain ⟨e0, e1, m0, m1, h0, h1, n0, n1⟩ := id r
  by_cases he : e = 0
  · subst he
    rw [rGo_none r]
    go_enter Try.func128, Try.ntmps128
    go_wp2
    refine bodyPost_ret (results_nil rfl _ _ _) rfl ⟨rfl, hB, Mod.refl _ _⟩
  · have he' : (e == 0) = false := by simp [he]
    by_cases hu : u = 0
    · subst hu
      rw [rGo_zero r]
      clear he
      go_enter Try.func128, Try.ntmps128
      go_wp2
      refine bodyPost_ret (results_nil rfl _ _ _) rfl ⟨rfl, hB, Mod.refl _ _⟩
    · have hu' : (u == 0) = false := by simp [hu]
      have hq := room_iff (e := e) (r := m - h) (d := u) (by omega)
      have hd := div_bd (a := m - h) (e := e) (by omega) (by omega)
      have ep : 1 ≤ e := by omega
      by_cases hlt : m - h < u * e
      · rw [show rGo e m h u = m by unfold rGo; rw [if_pos hlt]]
        have hq' := hq.2 hlt
        have hs : decide ((m - h) / e < u) = true := decide_eq_true hq'
        have k1 : IntKind.i64.wrap (m - h) = m - h := IntWalk.i64_in _ (by omega)
        clear hq he hu hlt
        go_enter Try.func128, Try.ntmps128
        go_wp2
        go_quiet (fail)
        clear k1
        go_wp2
        go_end0
        exact ⟨rfl, Blk.setTo (Blk.drewN hB _) 2 _ rfl, ((Mod.refl _ _).drewN _).own _ _⟩
      · have hm := Int.mul_nonneg u0 e0
        rw [show rGo e m h u = h + u * e by unfold rGo; rw [if_neg hlt]]
        have hq' : ¬ (m - h) / e < u := fun hh => hlt (hq.1 hh)
        have hs : decide ((m - h) / e < u) = false := decide_eq_false hq'
        have k1 : IntKind.i64.wrap (m - h) = m - h := IntWalk.i64_in _ (by omega)
        have k2 : IntKind.i64.wrap (u * e) = u * e := IntWalk.i64_in _ (by omega)
        have k3 : IntKind.i64.wrap (h + u * e) = h + u * e := IntWalk.i64_in _ (by omega)
        clear hq he hu hlt
        go_enter Try.func128, Try.ntmps128
        go_wp2
        go_quiet (fail)
        clear k1
        go_wp2
        go_region
        all_goals
          go_wp2
          go_end0
          exact ⟨rfl, Blk.setTo (Blk.drewN hB _) 2 _ rfl, ((Mod.refl _ _).drewN _).own _ _⟩
/-- Both buckets, alike, behind a call. -/
def Both (b p : Nat) (e m : Int) (w : World) (en : Ending) (w' : World) : Prop := ∃ h n : Int, en = .returned (.bool true) ∧ RB e m h n ∧ BK w' b e m h n ∧ PK w' p e m h n ∧ Mod (fun k => k = b ∨ k = p) w w'
theorem law_step_take (k x : Int) (w : World) (hB : BK w b e m h n) (hP : PK w p e m h n) (hne : b ≠ p) (r : RB e m h n) (hk : k ≠ 2) (x0 : 0 ≤ x) (x1 : x ≤ h) :
    Calls Try.prog 67 #[bp b, bp p, .agg #[.int .i64 k, .int .i64 x]] w (Both b p e m w) := by
  obtain ⟨c0, c1, c2, c3, z⟩ := Blk.cells4 hP
  obtain ⟨f0, f1, f2, f3⟩ := Blk.free4 hP
  obtain ⟨e0, e1, m0, m1, h0, h1, n0, n1⟩ := id r
  have hk' : (k == 2) = false := by simp [hk]
  have hk2 : (k != 2) = true := by simp [hk]
  have k1 : IntKind.i64.wrap (h - x) = h - x := IntWalk.i64_in _ (by omega)
  clear hk
  go_enter Try.func67, Try.ntmps67
  go_wp2_with fail
  go_quiet (fail)
  go_wp2_with fail
  go_region
  all_goals
    go_wp2_with (go_at_call 71; refine (rate_Take_yes _ _ ?_ r x0 x1).mono ?_; (exact Blk.far (Blk.drewN (Blk.alloc hB _) _) (p := ⟨p, 2, none⟩) hne _); rintro en w1 ⟨rfl, hB3, hM⟩)
    go_ret
    exact ⟨h - x, n, rfl, rTake_ok r x0 x1, hB3, Blk.mod (Blk.setTo (Blk.drewN (Blk.alloc hP _) _) 2 _ rfl) hM (Ne.symm hne),
      Mod.trans (((((Mod.refl _ w).alloc _).drewN _).setCell (p := ⟨p, 2, none⟩) (.inl (.inr rfl)) _)) (hM.mono (fun i hi => .inl hi))⟩
theorem law_step_takeNo (k x : Int) (w : World) (hB : BK w b e m h n) (hP : PK w p e m h n) (hne : b ≠ p) (r : RB e m h n) (hk : k ≠ 2) (x0 : x < 0 ∨ h < x) :
    Calls Try.prog 67 #[bp b, bp p, .agg #[.int .i64 k, .int .i64 x]] w (Both b p e m w) := by
  obtain ⟨c0, c1, c2, c3, z⟩ := Blk.cells4 hP
  obtain ⟨e0, e1, m0, m1, h0, h1, n0, n1⟩ := id r
  have hk' : (k == 2) = false := by simp [hk]
  have hk2 : (k != 2) = true := by simp [hk]
  clear hk
  by_cases hx : x < 0
  all_goals
    first
      | (have hd1 : decide (0 ≤ x) = false := decide_eq_false (by omega))
      | (have hd1 : decide (0 ≤ x) = true := decide_eq_true (by omega); have hd2 : decide (x ≤ h) = false := decide_eq_false (by omega))
    have X0 := Lib.hid x0
    clear x0
    go_enter Try.func67, Try.ntmps67
    go_wp2_with fail
    go_quiet (fail)
    go_wp2_with (go_at_call 71; refine (rate_Take_no _ _ ?_ r X0.out).mono ?_; (exact Blk.drewN (Blk.alloc hB _) _); rintro en w1 ⟨rfl, d, rfl⟩)
    go_ret
    exact ⟨h, n, rfl, r, Blk.drewN (Blk.alloc hB _) _, Blk.drewN (Blk.alloc hP _) _, ((Mod.refl _ w).alloc _).drewN _⟩
theorem law_step_goNo (x : Int) (w : World) (hB : BK w b e m h n) (hP : PK w p e m h n) (hne : b ≠ p) (r : RB e m h n) (x0 : x < n ∨ 1099511627776 < x) :
    Calls Try.prog 67 #[bp b, bp p, .agg #[.int .i64 2, .int .i64 x]] w (Both b p e m w) := by
  obtain ⟨c0, c1, c2, c3, z⟩ := Blk.cells4 hP
  obtain ⟨e0, e1, m0, m1, h0, h1, n0, n1⟩ := id r
  by_cases hx : x < n
  all_goals
    first
      | (have hd1 : decide (x < n) = true := decide_eq_true (by omega))
      | (have hd1 : decide (x < n) = false := decide_eq_false (by omega); have hd2 : decide (1099511627776 < x) = true := decide_eq_true (by omega))
    have X0 := Lib.hid x0
    clear x0
    go_enter Try.func67, Try.ntmps67
    go_wp2_with fail
    go_quiet (fail)
    go_wp2_with (go_at_call 70; refine (rate_Go_no _ _ ?_ r X0.out).mono ?_; (exact Blk.drewN (Blk.alloc hB _) _); rintro en w1 ⟨rfl, rfl⟩)
    go_ret
    exact ⟨h, n, rfl, r, (Blk.drewN (Blk.alloc hB _) _), (Blk.drewN (Blk.alloc hP _) _), (((Mod.refl _ w).alloc _).drewN _)⟩
theorem law_step_go (x : Int) (w : World) (hB : BK w b e m h n) (hP : PK w p e m h n) (hne : b ≠ p) (r : RB e m h n) (x0 : n ≤ x) (x1 : x ≤ 1099511627776) :
    Calls Try.prog 67 #[bp b, bp p, .agg #[.int .i64 2, .int .i64 x]] w (Both b p e m w) := by
  obtain ⟨c0, c1, c2, c3, z⟩ := Blk.cells4 hP
  obtain ⟨e0, e1, m0, m1, h0, h1, n0, n1⟩ := id r
  have k1 : IntKind.i64.wrap (x - n) = x - n := IntWalk.i64_in _ (by omega)
  go_enter Try.func67, Try.ntmps67
  go_wp2_with fail
  go_quiet (fail)
  go_wp2_with fail
  have hO1 := (Blk.new w 91 #[.int .i64 2, .int .i64 x]).drewN nq
  have hB1 := Blk.drewN (Blk.alloc hB (.cells #[.int .i64 2, .int .i64 x] 91)) nq
  have hP1 := Blk.drewN (Blk.alloc hP (.cells #[.int .i64 2, .int .i64 x] 91)) nq
  have hM1 : Mod (fun k => k = b ∨ k = p) w ((w.alloc (.cells #[.int .i64 2, .int .i64 x] 91)).drewN nq) := ((Mod.refl _ w).alloc _).drewN _
  have hz := Blk.lt hP
  generalize (w.alloc (.cells #[.int .i64 2, .int .i64 x] 91)).drewN nq = u at *
  clear c0 c1 c2 c3 z hB hP
  obtain ⟨c0, c1, c2, c3, z⟩ := Blk.cells4 hP1
  obtain ⟨y0, y1, yz⟩ := hO1.cells2
  go_region_held3 (fun w' => w'.cell? ⟨p, 3, none⟩ = some (.int .i64 n) ∧ w'.cell? ⟨w.heap.size, 1, none⟩ = some (.int .i64 x))
    ((first | exact ⟨c3, y1⟩ | exact ⟨(Blk.cells4 hP2).2.2.2.1, (Blk.cells2 hO2).2.1⟩))
    ((go_at_call 128; refine (law_fill _ (by omega) (by omega) _ (Blk.drew hP1) r).mono ?_; rintro en w1 ⟨rfl, hP2, hM2⟩; have hO2 := hO1.drew.mod hM2 (Ne.symm (Nat.ne_of_lt hz)); have hB2 := (Blk.drew hB1).mod hM2 hne))
  obtain ⟨g0, g1, g2, g3⟩ := Blk.free4 hP2
  obtain ⟨d0, d1, d2, d3, dz⟩ := Blk.cells4 hP2
  obtain ⟨v0, v1, vz⟩ := hO2.cells2
  clear c0 c1 c2 c3 z y0 y1 yz k1
  go_wp2_with (go_at_call 70; refine (rate_Go_yes _ _ ?_ r x0 x1).mono ?_; (exact Blk.far hB2 (p := ⟨p, 3, none⟩) hne _); rintro en w2 ⟨rfl, hB3, hM3⟩)
  go_ret
  exact ⟨_, _, rfl, rGo_ok r x0 x1, hB3, Blk.mod (Blk.setTo hP2 3 _ rfl) hM3 (Ne.symm hne),
    Mod.trans ((Mod.trans hM1.drew (hM2.mono (fun i hi => .inr hi))).setCell (p := ⟨p, 3, none⟩) (.inl (.inr rfl)) _) (hM3.mono (fun i hi => .inl hi))⟩
theorem law_step (k x : Int) (w : World) (hB : BK w b e m h n) (hP : PK w p e m h n) (hne : b ≠ p) (r : RB e m h n) :
    Calls Try.prog 67 #[bp b, bp p, .agg #[.int .i64 k, .int .i64 x]] w (Both b p e m w) := by
  by_cases hk : k = 2
  · subst hk
    by_cases hx : n ≤ x ∧ x ≤ 1099511627776
    · exact law_step_go x w hB hP hne r hx.1 hx.2
    · exact law_step_goNo x w hB hP hne r (by omega)
  · by_cases hx : 0 ≤ x ∧ x ≤ h
    · exact law_step_take k x w hB hP hne r hk hx.1 hx.2
    · exact law_step_takeNo k x w hB hP hne r hk (by omega)
theorem law_right (e m : Int) (w : World) :
    Calls Try.prog 73 #[.agg #[.int .i64 e, .int .i64 m]] w fun en w' => en = .returned (.bool (rRight e m)) ∧ Below w.heap.size w w' := by
  by_cases h1 : 0 ≤ e
  · by_cases h2 : e ≤ 1099511627776
    · by_cases h3 : 1 ≤ m
      · by_cases h4 : m ≤ 1099511627776
        · rw [rRight_t ⟨h1, h2, h3, h4⟩]
          go_enter Try.func73, Try.ntmps73
          go_wp2
          go_ret
          exact ⟨rfl, by go_grown⟩
        · rw [rRight_f (fun h => h4 h.2.2.2)]
          go_enter Try.func73, Try.ntmps73
          go_wp2
          go_ret
          exact ⟨rfl, by go_grown⟩
      · rw [rRight_f (fun h => h3 h.2.2.1)]
        go_enter Try.func73, Try.ntmps73
        go_wp2
        go_ret
        exact ⟨rfl, by go_grown⟩
    · rw [rRight_f (fun h => h2 h.2.1)]
      go_enter Try.func73, Try.ntmps73
      go_wp2
      go_ret
      exact ⟨rfl, by go_grown⟩
  · rw [rRight_f (fun h => h1 h.1)]
    go_enter Try.func73, Try.ntmps73
    go_wp2
    go_ret
    exact ⟨rfl, by go_grown⟩
theorem law37_awake (w : World) : Calls Try.prog 66 #[] w fun en w' => en = .returned (.bool true) ∧ Below w.heap.size w w' := by
  have r0 : RB 2 5 5 0 := by constructor <;> decide
  have r1 : RB 2 5 0 0 := by constructor <;> decide
  have r2 : RB 2 5 4 2 := by constructor <;> decide
  go_enter Try.func66, Try.ntmps66
  go_wp2_with fail
  refine (rate_New_yes 2 5 (by decide) _).mono ?_; rintro en w1 ⟨b, rfl, hb, hB, hW⟩
  go_wp2_with fail
  refine (rate_Take_yes 5 _ hB r0 (by decide) (by decide)).mono ?_; rintro en w2 ⟨rfl, hB, hM⟩
  have hW2 := below_thenMod hW (Nat.le_refl _) hM (fun i hi => hi ▸ hb)
  clear hW hM
  go_wp2_with fail
  refine (rate_Go_yes 2 _ hB r1 (by decide) (by decide)).mono ?_; rintro en w3 ⟨rfl, hB, hM⟩
  have hW3 := below_thenMod hW2 (Nat.le_refl _) hM (fun i hi => hi ▸ hb)
  clear hW2 hM
  have hB' : BK w3 b 2 5 4 2 := hB
  go_wp2_with fail
  refine (rate_Have _ hB' r2).mono ?_; rintro en w' ⟨rfl, rfl⟩
  go_wp2_with fail
  refine (rate_Wait 5 (by decide) (by decide) _ hB' r2).mono ?_; rintro en w' ⟨rfl, d, rfl⟩
  rw [show rWait 2 5 4 2 5 = 3 from by decide]
  go_wp2
  go_ret
  exact ⟨rfl, below_drewN hW3 _⟩
end
end Go.Proofs.Ytonbmcgfbbpnkaa
