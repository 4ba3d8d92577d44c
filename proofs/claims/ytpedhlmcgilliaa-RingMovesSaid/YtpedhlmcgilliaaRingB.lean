/- The next free place of a row. -/
import Derived.Test.YtpedhlmcgilliaaRingPlain
import Derived.Test.YtpedhlmcgilliaaLists
import Derived.Test.YtpedhlmcgilliaaQuiet3
import Derived.Deep.QuietTactic
set_option linter.unusedVariables false
namespace Go.Proofs.Ytpedhlmcgilliaa
open Go.RowKit
set_option maxHeartbeats 4000000
set_option maxRecDepth 100000
theorem ring_free (w : World) (gr o N gl p : Nat) (f : Nat → Value) (out : Nat → Int) (at_ skip next : Nat) (hr : w.rowIs gr 101 N f) (hl : w.rowIs gl 3 p (fun j => .int .i64 (out j))) (hne : gr ≠ gl)
    (ho : o + 3 < N) (f0 : f o = .int .i64 at_) (f1 : f (o + 1) = .int .i64 skip) (f2 : f (o + 2) = .int .i64 next) (hp : primeP p) (hp1 : p ≤ 65537) (hat : at_ < p) (hs0 : 0 < skip) (hs1 : skip < p)
    (hn : ∀ t, t < next → 0 ≤ out (pos at_ skip p t)) (r : Nat) (hrp : r < p) (hrf : out r < 0) :
    Calls Try.prog 70 #[.pointer (some ⟨gr, o, none⟩), .slice (some ⟨gl, 0, none⟩) p p] w fun e w' => ∃ u, next ≤ u ∧ u < p ∧ out (pos at_ skip p u) < 0 ∧ (∀ v, v < u → 0 ≤ out (pos at_ skip p v)) ∧
      e = .returned (.int .i64 (pos at_ skip p u : Nat)) ∧ w'.rowIs gr 101 N (fun j => if j = o + 2 then .int .i64 ((u + 1 : Nat) : Int) else f j) ∧ Mod (· = gr) w w' := by
  obtain ⟨ub, hu0, hu1, hu2⟩ := free_ahead (taken := fun j => decide (0 ≤ out j)) hp hs0 hs1 (fun t ht => decide_eq_true (hn t ht)) hrp (decide_eq_false (by omega))
  have hu2' : out (pos at_ skip p ub) < 0 := by have := of_decide_eq_false hu2; omega
  have hp2 := hp.1
  have HN := Lib.hid hn
  clear hu2 hn hrf hrp
  go_enter Try.func70, Try.ntmps70
  go_wp2
  go_loopg [5] (ub - next) (fun gk s5 wr => ∃ t : Nat, next ≤ t ∧ t ≤ ub ∧ gk = ub - t ∧ Hid (∀ v, v < t → 0 ≤ out (pos at_ skip p v)) ∧ wr.rowIs gr 101 N (fun j => if j = o + 2 then .int .i64 t else f j) ∧ Mod (· = gr) w wr)
  case atStart =>
    refine ⟨next, Nat.le_refl _, hu0, rfl, HN, hr.congr (fun j _ => ?_), Mod.refl _ _⟩
    split
    · rename_i e; rw [e, f2]
    · rfl
  case round =>
    obtain ⟨t, ht0, ht1, rfl, HT, hR, hM⟩ := hrel
    have hL := row_mod hl hM (fun e => hne e.symm)
    have c0 := hR.cell (i := o) (by omega)
    have c1 := hR.cell (i := o + 1) (by omega)
    have c2 := hR.cell (i := o + 2) (by omega)
    rw [if_neg (by omega), f0] at c0
    rw [if_neg (by omega), f1] at c1
    rw [if_pos rfl] at c2
    have z2 := hR.frozen (o + 2)
    have hts : t * skip ≤ 65537 * 65537 := Nat.mul_le_mul (by omega) (by omega)
    have hml : (t : Int) * (skip : Int) = ((t * skip : Nat) : Int) := by simp
    have HPOS := Lib.hid (show pos at_ skip p t = (at_ + t * skip) % p from rfl)
    obtain ⟨ts, hts0⟩ : ∃ ts, ts = t * skip := ⟨_, rfl⟩
    rw [← hts0] at hts hml HPOS
    clear hts0
    have hmod : ((at_ : Int) + (ts : Int)).tmod (p : Int) = (((at_ + ts) % p : Nat) : Int) := by
      rw [Int.tmod_eq_emod_of_nonneg (by omega)]; rfl
    have hpl : (at_ + ts) % p < p := Nat.mod_lt _ (by omega)
    rw [← HPOS.out] at hmod hpl
    have xk := hL.cell hpl
    have HK := Lib.hid (show (0 ≤ out (pos at_ skip p t) → ∀ v, v < t + 1 → 0 ≤ out (pos at_ skip p v)) from fun h v hv => by
      by_cases e : v = t
      · rw [e]; exact h
      · exact HT.out v (by omega))
    have HUB := Lib.hid (show t = ub → out (pos at_ skip p t) < 0 from fun e => by rw [e]; exact hu2')
    obtain ⟨k, hk⟩ : ∃ k, k = pos at_ skip p t := ⟨_, rfl⟩
    have HKK := Lib.hid hk
    rw [← hk] at hmod hpl xk HUB HK
    clear hk
    have hp0 : ¬ (p : Int) = 0 := by omega
    have hki : (k : Int) < (p : Int) := by omega
    go_wp2_with fail
    go_quiet (fail)
    have hRd := row_drewN hR nq
    have hLd := row_drewN hL nq
    have hMd : Mod (· = gr) w (wr.drewN nq) := ⟨hM.os, hM.tape, hM.output, hM.size, hM.block⟩
    have e0 := hRd.cell (i := o) (by omega)
    have e2 := hRd.cell (i := o + 2) (by omega)
    rw [if_neg (by omega), f0] at e0
    rw [if_pos rfl] at e2
    have z2 := hRd.frozen (o + 2)
    have hR2 := (hRd.set (o + 2) (.int .i64 ((t : Int) + 1))).congr (g := fun j => if j = o + 2 then .int .i64 ((t + 1 : Nat) : Int) else f j) (fun j _ => by
      by_cases e : j = o + 2
      · rw [if_pos e, if_pos e]; rfl
      · rw [if_neg e, if_neg e, if_neg e])
    have hL2 := hLd.setOther (a := ⟨gr, o + 2, none⟩) (fun e => hne e.symm) (.int .i64 ((t : Int) + 1))
    have hM2 := hMd.own (o + 2) (.int .i64 ((t : Int) + 1))
    have yk := hL2.cell hpl
    clear hR hL hM c0 c1 c2 xk hRd hLd hMd
    generalize wr.drewN nq = wa at *
    obtain ⟨z, hzz⟩ : ∃ z, z = out k := ⟨_, rfl⟩
    rw [← hzz] at yk HUB HK
    have HZZ := Lib.hid hzz
    clear hzz
    by_cases hz : z < 0
    · have g1 : decide (z < 0) = true := decide_eq_true hz
      have HZ := Lib.hid hz
      clear hz
      go_wp2
      go_ret
      exact ⟨t, ht0, by omega, by rw [← HKK.out, ← HZZ.out]; exact HZ.out, HT.out, by rw [← HKK.out]; rfl, hR2, hM2⟩
    · have g1 : decide (z < 0) = false := decide_eq_false hz
      have HT2 := Lib.hid (HK.out (by omega))
      have hne2 : t ≠ ub := fun e => by have := HUB.out e; omega
      clear hz
      go_wp2
      go_roundg (ub - (t + 1))
      case measure => omega
      case rel => exact ⟨t + 1, by omega, by omega, rfl, HT2, hR2, hM2⟩
end Go.Proofs.Ytpedhlmcgilliaa
