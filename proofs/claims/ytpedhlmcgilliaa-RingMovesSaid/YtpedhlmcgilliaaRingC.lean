/- The hosts' turns in memory: fill. -/
import Derived.Test.YtpedhlmcgilliaaRingB
import Derived.Test.YtpedhlmcgilliaaRingPlain3
import Derived.Test.YtpedhlmcgilliaaPairs2
import Derived.Test.YtpedhlmcgilliaaQTail
import Derived.WalkMore
import Derived.Deep.RegionHeld3
set_option linter.unusedVariables false
namespace Go.Proofs.Ytpedhlmcgilliaa
open Go.RowKit
set_option maxHeartbeats 4000000
set_option maxRecDepth 100000
/-- The rows in memory. -/
def rowF (R : Rows4) (nx : Nat → Nat) (du : Nat → Int) (j : Nat) : Value :=
  if j % 4 = 0 then .int .i64 (R.at_ (j / 4) : Nat) else if j % 4 = 1 then .int .i64 (R.skip (j / 4) : Nat) else if j % 4 = 2 then .int .i64 (nx (j / 4) : Nat) else .int .i64 (du (j / 4))
section
variable (R : Rows4) (nx : Nat → Nat) (du : Nat → Int) (i : Nat)
theorem rowF0 : rowF R nx du (i * 4) = .int .i64 (R.at_ i : Nat) := by
  unfold rowF; rw [if_pos (by omega), show i * 4 / 4 = i by omega]
theorem rowF1 : rowF R nx du (i * 4 + 1) = .int .i64 (R.skip i : Nat) := by
  unfold rowF; rw [if_neg (by omega), if_pos (by omega), show (i * 4 + 1) / 4 = i by omega]
theorem rowF2 : rowF R nx du (i * 4 + 2) = .int .i64 (nx i : Nat) := by
  unfold rowF; rw [if_neg (by omega), if_neg (by omega), if_pos (by omega), show (i * 4 + 2) / 4 = i by omega]
theorem rowF3 : rowF R nx du (i * 4 + 3) = .int .i64 (du i) := by
  unfold rowF; rw [if_neg (by omega), if_neg (by omega), if_neg (by omega), show (i * 4 + 3) / 4 = i by omega]
theorem rowF_due (z : Int) (j : Nat) : (if j = i * 4 + 3 then Value.int .i64 z else rowF R nx du j) = rowF R nx (fun k => if k = i then z else du k) j := by
  by_cases e : j = i * 4 + 3
  · subst e; rw [if_pos rfl, rowF3, if_pos rfl]
  · rw [if_neg e]
    unfold rowF
    by_cases h0 : j % 4 = 0
    · rw [if_pos h0, if_pos h0]
    · rw [if_neg h0, if_neg h0]
      by_cases h1 : j % 4 = 1
      · rw [if_pos h1, if_pos h1]
      · rw [if_neg h1, if_neg h1]
        by_cases h2 : j % 4 = 2
        · rw [if_pos h2, if_pos h2]
        · rw [if_neg h2, if_neg h2]
          dsimp only
          rw [if_neg (by omega)]
theorem rowF_next (z : Nat) (j : Nat) : (if j = i * 4 + 2 then Value.int .i64 (z : Nat) else rowF R nx du j) = rowF R (fun k => if k = i then z else nx k) du j := by
  by_cases e : j = i * 4 + 2
  · subst e; rw [if_pos rfl, rowF2, if_pos rfl]
  · rw [if_neg e]
    unfold rowF
    by_cases h0 : j % 4 = 0
    · rw [if_pos h0, if_pos h0]
    · rw [if_neg h0, if_neg h0]
      by_cases h1 : j % 4 = 1
      · rw [if_pos h1, if_pos h1]
      · rw [if_neg h1, if_neg h1]
        by_cases h2 : j % 4 = 2
        · rw [if_pos h2, if_pos h2]
          dsimp only
          rw [if_neg (by omega)]
        · rw [if_neg h2, if_neg h2]
end
theorem IsPairs.mod {w w' : World} {S : Nat → Prop} {k0 k1 : IntKind} {A : Option Addr} {n c : Nat} {l : List (Int × Int)} (h : IsPairs w k0 k1 A n c l) (hx : Mod S w w') (hn : ∀ ad, A = some ad → ¬ S ad.block) : IsPairs w' k0 k1 A n c l :=
  ⟨h.len, h.cap, h.small, h.reach, h.wf, fun h0 => by
    obtain ⟨ad, e, hb, hc⟩ := h.cells h0
    exact ⟨ad, e, Nat.lt_of_lt_of_le hb hx.size, fun i p hp => ⟨(hx.cell (by rw [block_of_add]; exact hb) (by rw [block_of_add]; exact hn ad e)).trans (hc i p hp).1, (hx.cell (by rw [block_of_add]; exact hb) (by rw [block_of_add]; exact hn ad e)).trans (hc i p hp).2⟩⟩⟩
theorem stepR_wait {R : Rows4} {s : RS} {i : Nat} (h0 : s.left ≠ 0) (h : s.due i + R.wt i < R.heavy) : stepR R s i = { s with due := fun j => if j = i then s.due i + R.wt i else s.due j } := by
  unfold stepR; rw [if_neg h0, if_pos h]
theorem stepR_take {R : Rows4} {s : RS} {i : Nat} (h0 : s.left ≠ 0) (h : ¬ s.due i + R.wt i < R.heavy) : stepR R s i = ⟨fun j => if j = pos (R.at_ i) (R.skip i) R.p (s.u R i) then (i : Int) else s.out j, fun j => if j = i then s.u R i + 1 else s.next j, fun j => if j = i then s.due i + R.wt i - R.heavy else s.due j, s.left - 1⟩ := by
  unfold stepR; rw [if_neg h0, if_neg h]
/-- The state in memory. -/
structure FS (w0 w : World) (gr gl n p : Nat) (R : Rows4) (nx : Nat → Nat) (du : Nat → Int) (out : Nat → Int) : Prop where
  rr : w.rowIs gr 101 (n * 4) (rowF R nx du)
  rl : w.rowIs gl 3 p (fun j => .int .i64 (out j))
  hm : Mod (fun k => k = gr ∨ k = gl) w0 w
section
variable {w0 w w' : World} {gr gl n p : Nat} {R : Rows4} {nx : Nat → Nat} {du : Nat → Int} {out : Nat → Int}
theorem FS.keep (h : FS w0 w gr gl n p R nx du out) (hx : Below w.heap.size w w') : FS w0 w' gr gl n p R nx du out := ⟨row_keep h.rr hx, row_keep h.rl hx, h.hm.thenB hx⟩
theorem FS.ne (h : FS w0 w gr gl n p R nx du out) : gr ≠ gl := fun e => by
  obtain ⟨_, h1, _⟩ := h.rr
  obtain ⟨_, h2, _⟩ := h.rl
  rw [e] at h1
  rw [h1] at h2
  injection h2 with h2
  injection h2 with _ ht _
  exact absurd ht (by decide)
theorem FS.due (h : FS w0 w gr gl n p R nx du out) (i : Nat) (z : Int) : FS w0 (w.setCell ⟨gr, i * 4 + 3, none⟩ (.int .i64 z)) gr gl n p R nx (fun k => if k = i then z else du k) out :=
  ⟨(h.rr.set (i * 4 + 3) (.int .i64 z)).congr (fun j _ => rowF_due R nx du i z j), h.rl.setOther (a := ⟨gr, i * 4 + 3, none⟩) (fun e => h.ne e.symm) _, h.hm.setCell (p := ⟨gr, i * 4 + 3, none⟩) (.inl (.inl rfl)) _⟩
theorem FS.put (h : FS w0 w gr gl n p R nx du out) (k : Nat) (z : Int) : FS w0 (w.setCell ⟨gl, k, none⟩ (.int .i64 z)) gr gl n p R nx du (fun j => if j = k then z else out j) :=
  ⟨h.rr.setOther (a := ⟨gl, k, none⟩) h.ne _, (h.rl.set k (.int .i64 z)).congr (fun j _ => by
    by_cases e : j = k
    · rw [if_pos e, if_pos e]
    · rw [if_neg e, if_neg e]), h.hm.setCell (p := ⟨gl, k, none⟩) (.inl (.inr rfl)) _⟩
end
theorem free_step {w0 w : World} {gr gl n : Nat} {R : Rows4} {s : RS} {du : Nat → Int} (h : FS w0 w gr gl n R.p R s.next du s.out) (hR : RR R n) (hI : RI R n s) (h0 : s.left ≠ 0) (hp1 : R.p ≤ 65537) {i : Nat} (hi : i < n) :
    Calls Try.prog 70 #[.pointer (some ⟨gr, i * 4, none⟩), .slice (some ⟨gl, 0, none⟩) R.p R.p] w fun e w' => ∃ k : Nat, k = pos (R.at_ i) (R.skip i) R.p (s.u R i) ∧ k < R.p ∧ e = .returned (.int .i64 k) ∧
      FS w0 w' gr gl n R.p R (fun j => if j = i then s.u R i + 1 else s.next j) du s.out ∧ Mod (· = gr) w w' := by
  obtain ⟨r, hr, hf⟩ := hI.free h0
  refine (ring_free w gr (i * 4) (n * 4) gl R.p _ s.out (R.at_ i) (R.skip i) (s.next i) h.rr h.rl h.ne (by omega) (rowF0 _ _ _ _) (rowF1 _ _ _ _) (rowF2 _ _ _ _) hR.prime hp1 (hR.at_ i hi) (hR.skip0 i hi) (hR.skip1 i hi) (hI.next i hi) r hr hf).mono ?_
  rintro e w' ⟨u, hu0, hu1, hu2, hu3, rfl, hr1, hm1⟩
  have hu := u_eq hR hI h0 hi hu2 hu3
  subst hu
  refine ⟨_, rfl, Nat.mod_lt _ (by omega), rfl, ⟨hr1.congr (fun j _ => rowF_next R s.next du i _ j), row_mod h.rl hm1 (fun e => h.ne e.symm), h.hm.trans (hm1.mono (fun k hk => .inl hk))⟩, hm1⟩
theorem ring_fill (w : World) (gq gr gl n : Nat) (R : Rows4) (A : Option Addr) (c : Nat) (l : List (Int × Int)) (hl : IsPairs w .u64 .i64 A n c l) (hlw : ∀ i, i < n → (l.getD i (0, 0)).2 = R.wt i) (hA : ∀ ad, A = some ad → ad.block ≠ gr ∧ ad.block ≠ gl)
    (hq : Blk w gq 97 #[.slice (some ⟨gl, 0, none⟩) R.p R.p]) (hqr : gq ≠ gr) (hql : gq ≠ gl) (hF : FS w w gr gl n R.p R (fun _ => 0) (fun _ => 0) (fun _ => -1)) (hR : RR R n) (hp1 : R.p ≤ 65537) (hh0 : 0 < R.heavy) (hh1 : R.heavy ≤ 65535) (hn : n ≤ 65537) {i0 : Nat} (hi0 : i0 < n) (hw0 : R.wt i0 = R.heavy) :
    Calls Try.prog 51 #[.pointer (some ⟨gq, 0, none⟩), .slice (some ⟨gr, 0, none⟩) n n, .slice A n c, .int .i64 R.heavy] w fun e w' => e = .returned (.tuple #[]) ∧ w'.rowIs gl 3 R.p (fun j => .int .i64 ((roundsR R n (rs0 R.p) R.p).out j)) ∧ Mod (fun k => k = gr ∨ k = gl) w w' := by
  have hI0 : RI R n (rs0 R.p) := rs0_keeps hh0
  have hq0 := hq.cells1.1
  have hcap := hl.cap
  have hsm := hl.small
  have hp2 := hR.prime.1
  have HLW := Lib.hid hlw
  clear hlw
  obtain ⟨hv, hhv⟩ : ∃ hv, hv = R.heavy := ⟨_, rfl⟩
  obtain ⟨p, hp⟩ : ∃ p, p = R.p := ⟨_, rfl⟩
  have HHV := Lib.hid hhv
  have HPP := Lib.hid hp
  rw [← hhv] at hh0 hh1 ⊢
  rw [← hp] at hF hp1 hq0 hp2 hI0 ⊢
  clear hhv hp hq
  go_enter Try.func51, Try.ntmps51
  go_wp2
  go_step3
  go_wp2
  go_step3
  go_wp2
  go_loopg [8] p (fun gk s8 wr => ∃ (k : Nat) (s : RS), Hid (s = roundsR R n (rs0 p) k) ∧ 0 < s.left ∧ gk = s.left ∧ s8 = .int .i64 (s.left : Nat) ∧ FS w wr gr gl n p R s.next s.due s.out)
  case atStart => exact ⟨0, rs0 p, Lib.hid rfl, by show 0 < p; omega, rfl, rfl, hF⟩
  case round =>
    clear hF
    obtain ⟨k, s, HS, hs0, rfl, rfl, hF⟩ := hrel
    have HI := Lib.hid (show RI R n s by rw [HS.out]; exact roundsR_keeps hR hI0 k)
    obtain ⟨wo, rfl⟩ : ∃ wo, wo = wr := ⟨_, rfl⟩
    go_wp2_with fail
    go_loopg [8, 17] n (fun gk s8 s17 wr => ∃ (i : Nat) (s' : RS), i ≤ n ∧ gk = n - i ∧ Hid (s' = partR R s i) ∧ 0 < s'.left ∧ s8 = .int .i64 (s'.left : Nat) ∧ s17 = .int .i64 i ∧ FS w wr gr gl n p R s'.next s'.due s'.out)
    case atStart => exact ⟨0, s, Nat.zero_le _, rfl, Lib.hid rfl, hs0, rfl, rfl, hF⟩
    case round =>
      clear hF
      obtain ⟨i, s', hi, rfl, HS', hs', rfl, rfl, hF⟩ := hrel
      by_cases hin : i < n
      · have hii : (i : Int) < (n : Int) := by omega
        have hI' : RI R n s' := by rw [HS'.out]; exact partR_keeps hR HI.out i hi
        have hlp : s'.left ≤ p := by
          rw [← hI'.cnt, HPP.out]
          unfold freeN
          exact Nat.le_trans List.countP_le_length (by rw [List.length_range]; exact Nat.le_refl _)
        have HPS := Lib.hid (partR_step R s i)
        rw [← HS'.out] at HPS
        have d0 := hI'.due0 i hin
        have d1 := hI'.due1 i hin
        have w0 := hR.wt0 i hin
        have w1 := hR.wt1 i hin
        rw [← HHV.out] at d1 w1
        have hP1 := hl.mod hF.hm (fun ad e h => h.elim (hA ad e).1 (hA ad e).2)
        obtain ⟨ad, rfl, hbk, y0, y1, _⟩ := hP1.at_ hin
        rw [HLW.out i hin] at y1
        have c3 := hF.rr.cell (i := i * 4 + 3) (by omega)
        rw [rowF3] at c3
        have HWA := Lib.hid (fun h => stepR_wait (R := R) (s := s') (i := i) (by omega) h)
        have HTA := Lib.hid (fun h => stepR_take (R := R) (s := s') (i := i) (by omega) h)
        have HUE := Lib.hid (fun (w1 : World) (du : Nat → Int) (h : FS w w1 gr gl n R.p R s'.next du s'.out) => free_step h hR hI' (by omega) (by rw [← HPP.out]; exact hp1) hin)
        obtain ⟨D, hD⟩ : ∃ D, D = s'.due i := ⟨_, rfl⟩
        obtain ⟨W, hW⟩ : ∃ W, W = R.wt i := ⟨_, rfl⟩
        have HD := Lib.hid hD
        have HW := Lib.hid hW
        rw [← hD] at d0 d1 c3
        rw [← hW] at w0 w1 y1
        clear hD hW
        have hq1 := cell_mod hq0 hF.hm (fun h => h.elim hqr hql)
        have k1 : IntKind.i64.wrap (D + W) = D + W := IntWalk.i64_in _ (by omega)
        have k2 : IntKind.i64.wrap (D + W - hv) = D + W - hv := IntWalk.i64_in _ (by omega)
        clear y0 HI
        go_upto_region 4 with (fail)
        have U0 := cell_under c3
        have U1 := cell_under y1
        refine wp_region_under_tail 11 (by kernel_rfl) (by kernel_rfl) ?_
        simp only [List.take_succ_cons, List.take_zero, List.drop_succ_cons, List.drop_zero]
        repeat (go_big_quiet_step ((fail)))
        refine wpQuiet_nil ?_
        intro wu hw'
        obtain ⟨pq, hw''⟩ := hw'
        have hU := below_eq hw''
        clear hw'' pq
        have hF1 := hF.keep hU
        have hq2 := cell_keep hq1 hU
        have hF2 := hF1.due i (D + W)
        have hq3 : (wu.setCell ⟨gr, i * 4 + 3, none⟩ (.int .i64 (D + W))).cell? ⟨gq, 0, none⟩ = some (.slice (some ⟨gl, 0, none⟩) p p) := cell_mod hq0 hF2.hm (fun h => h.elim hqr hql)
        have e3 := hF2.rr.cell (i := i * 4 + 3) (by omega)
        rw [rowF3, if_pos rfl] at e3
        have z3 := hF2.rr.frozen (i * 4 + 3)
        have x3 := hF1.rr.cell (i := i * 4 + 3) (by omega)
        rw [rowF3] at x3
        have v3 := hF1.rr.frozen (i * 4 + 3)
        clear U0 U1 hU hF hF1 hq1 hq2 c3 y1 hP1 hbk
        go_upto_region 5 with (fail)
        clear x3 v3
        generalize wu.setCell ⟨gr, i * 4 + 3, none⟩ (.int .i64 (D + W)) = wa at *
        by_cases hlt : D + W < hv
        · have g1 : decide (D + W < hv) = true := decide_eq_true hlt
          have HE := Lib.hid (HWA.out (by rw [← HD.out, ← HW.out, ← HHV.out]; exact hlt))
          rw [← HD.out, ← HW.out] at HE
          clear hlt
          go_wp2
          go_roundg (n - (i + 1))
          case measure => omega
          case rel => exact ⟨i + 1, _, by omega, rfl, Lib.hid (HPS.out.trans HE.out).symm, hs', rfl, by go_num, hF2⟩
        · have g1 : decide (D + W < hv) = false := decide_eq_false hlt
          have HE := Lib.hid (HTA.out (by rw [← HD.out, ← HW.out, ← HHV.out]; omega))
          rw [← HD.out, ← HW.out, ← HHV.out] at HE
          have hF3 := hF2.due i (D + W - hv)
          have hcong : FS w (wa.setCell ⟨gr, i * 4 + 3, none⟩ (.int .i64 (D + W - hv))) gr gl n p R s'.next (fun j => if j = i then D + W - hv else s'.due j) s'.out := ⟨hF3.rr.congr (fun j _ => by congr 1; funext k; by_cases e : k = i <;> simp [e]), hF3.rl, hF3.hm⟩
          have hq4 : (wa.setCell ⟨gr, i * 4 + 3, none⟩ (.int .i64 (D + W - hv))).cell? ⟨gq, 0, none⟩ = some (.slice (some ⟨gl, 0, none⟩) p p) := cell_mod hq0 hF3.hm (fun h => h.elim hqr hql)
          clear hlt hF3
          go_upto_region 7 with (fail)
          clear hF2 hq3 e3 z3
          generalize wa.setCell ⟨gr, i * 4 + 3, none⟩ (.int .i64 (D + W - hv)) = wb at *
          have hFd : FS w wb.drew gr gl n p R s'.next (fun j => if j = i then D + W - hv else s'.due j) s'.out := ⟨hcong.rr.drew, hcong.rl.drew, hcong.hm.drew⟩
          have hcall := HUE.out wb.drew _ (by rw [← HPP.out]; exact hFd)
          rw [← HPP.out] at hcall
          clear hcong HUE HWA HTA
          go_region_held3 (fun w' => w'.cell? ⟨gq, 0, none⟩ = some (.slice (some ⟨gl, 0, none⟩) p p))
            (first | exact hq4 | exact hq5 | exact hq6)
            (first
              | (go_at_call 70; refine hcall.mono ?_; rintro e w1 ⟨k', hk', hkp, rfl, hF5, hM5⟩; have HK' := Lib.hid hk'; clear hk'; have hq5 := cell_modD hq4 (hM5.mono (S' := fun k => k = gr ∨ k = gl) (fun k h => .inl h)) (fun h => h.elim hqr hql); have e5 := hF5.rl.cell hkp; have z5 := hF5.rl.frozen k'; have hkpi : (k' : Int) < (p : Int) := (by omega); have hF6 := hF5.put k' i; have hq6 := cell_mod hq0 hF6.hm (fun h => h.elim hqr hql)))
          rw [← HPP.out] at HE
          obtain rfl := HK'.out
          clear hcall hFd hq4 hq5 e5 z5 hF5 hM5 hkpi
          obtain ⟨L, hL⟩ : ∃ L, L = s'.left := ⟨_, rfl⟩
          have HL := Lib.hid hL
          rw [← hL] at hs' hlp
          rw [← HL.out]
          clear hL
          have HRL := Lib.hid (rounds_lower hR hI0 hi0 hw0 k)
          by_cases h1 : L = 1
          · have g2 : ((L : Int) - 1 == 0) = true := by rw [beq_iff_eq]; omega
            have HD := Lib.hid (show roundsR R n (rs0 p) p = stepR R s' i from by
              have hk : k < p := by
                have := HRL.out
                rw [← HS.out] at this
                have : (rs0 p).left = p := rfl
                omega
              have := done_eq R n (rs0 p) k (i + 1) p (by omega) hk (by rw [← HS.out, HPS.out, HE.out]; show s'.left - 1 = 0; rw [← HL.out]; omega)
              rw [← this, ← HS.out]; exact HPS.out)
            clear h1
            have HO := Lib.hid (show (roundsR R n (rs0 p) p).out = fun j => if j = pos (R.at_ i) (R.skip i) p (s'.u R i) then (i : Int) else s'.out j by rw [HD.out, HE.out])
            clear HD
            go_wp2
            exact bodyPost_end (results_none rfl _ _ _) rfl ⟨rfl, by rw [HO.out]; exact hF6.rl, hF6.hm⟩
          · have g2 : ((L : Int) - 1 == 0) = false := by rw [beq_eq_false_iff_ne]; omega
            go_wp2
            go_roundg (n - (i + 1))
            case measure => omega
            case rel => exact ⟨i + 1, _, by omega, rfl, Lib.hid (HPS.out.trans HE.out).symm, by show 0 < s'.left - 1; rw [← HL.out]; omega, by show Value.int .i64 ((L : Int) - 1) = .int .i64 ((s'.left - 1 : Nat) : Int); rw [← HL.out]; congr 1; omega, by go_num, hF6⟩
      · obtain rfl : i = n := by omega
        have HRW := Lib.hid (round_lower hR HI.out hi0 hw0)
        go_wp2
        go_roundg s'.left
        case measure => have := HRW.out; rw [← HS'.out] at this; omega
        case rel => exact ⟨k + 1, s', Lib.hid (by rw [HS'.out, HS.out]; rfl), hs', rfl, rfl, hF⟩
end Go.Proofs.Ytpedhlmcgilliaa
