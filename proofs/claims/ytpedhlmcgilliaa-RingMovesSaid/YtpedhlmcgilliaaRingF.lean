/- What a ring tells: Size, Pick, Shares; the example. -/
import Derived.Test.YtpedhlmcgilliaaRingE
set_option linter.unusedVariables false
namespace Go.Proofs.Ytpedhlmcgilliaa
open Go.RowKit
set_option maxHeartbeats 4000000
set_option maxRecDepth 100000
/-- A ring in memory, by its places. -/
structure RG (w : World) (gq gl p : Nat) (out : Nat → Int) : Prop where
  blk : Blk w gq 97 #[.slice (some ⟨gl, 0, none⟩) p p]
  row : w.rowIs gl 3 p (fun j => .int .i64 (out j))
theorem RG.keep {w w' : World} {gq gl p : Nat} {out : Nat → Int} (h : RG w gq gl p out) (hx : Below w.heap.size w w') : RG w' gq gl p out := ⟨h.blk.keep hx, row_keep h.row hx⟩
theorem ring_Size {w : World} {gq gl p : Nat} {out : Nat → Int} (h : RG w gq gl p out) : Calls Try.prog 26 #[.pointer (some ⟨gq, 0, none⟩)] w fun e w' => e = .returned (.int .i64 (p : Int)) ∧ w = w' := by
  have c0 := h.blk.cells1.1
  go_enter Try.func26, Try.ntmps26
  go_wp2
  go_ret
  exact ⟨rfl, rfl⟩
theorem ring_Pick {w : World} {gq gl p : Nat} {out : Nat → Int} (h : RG w gq gl p out) (hp0 : 2 ≤ p) (hp1 : p ≤ 65537) (key : Nat) (hk : key < 18446744073709551616) :
    Calls Try.prog 29 #[.pointer (some ⟨gq, 0, none⟩), .int .u64 (key : Int)] w fun e w' => e = .returned (.int .i64 (out (key % p))) ∧ Below w.heap.size w w' := by
  have c0 := h.blk.cells1.1
  have hS := ring_Size h
  have hkp : key % p < p := Nat.mod_lt _ (by omega)
  have ck := h.row.cell hkp
  have hmod : (key : Int).tmod (p : Int) = ((key % p : Nat) : Int) := by rw [Int.tmod_eq_emod_of_nonneg (by omega)]; rfl
  have hle : key % p ≤ key := Nat.mod_le _ _
  have kw : IntKind.u64.wrap (p : Int) = (p : Int) := by rw [IntKind.wrap_u64]; omega
  have hp0' : ((p : Int) == 0) = false := by rw [beq_eq_false_iff_ne]; omega
  have hpz : ¬ (p : Int) = 0 := by omega
  obtain ⟨r, hr⟩ : ∃ r, r = key % p := ⟨_, rfl⟩
  rw [← hr] at hkp ck hmod hle ⊢
  clear hr
  obtain ⟨z, hz⟩ : ∃ z, z = out r := ⟨_, rfl⟩
  rw [← hz] at ck ⊢
  clear hz
  have hri : (r : Int) < (p : Int) := by omega
  go_enter Try.func29, Try.ntmps29
  go_wp2_with fail
  refine hS.mono ?_; rintro e w' ⟨rfl, rfl⟩
  have U0 := cell_under c0
  have U1 := cell_under ck
  clear c0 ck hS
  go_wp2_with fail
  refine wp_region_quiet_under (by kernel_rfl) (by kernel_rfl) ?_
  repeat (go_big_quiet_step ((fail)))
  refine wpQuiet_nil ?_
  intro wu hw'
  obtain ⟨pq, hw''⟩ := hw'
  have hU := below_eq hw''
  clear hw'' pq
  go_wp2
  go_ret
  exact ⟨rfl, hU⟩
theorem law_few (A : Option Addr) (n c : Nat) (hn : n ≤ c) (hc : c ≤ 9223372036854775807) (w : World) :
    Calls Try.prog 22 #[.slice A n c] w fun e w' => e = .returned (.slice A (min n 20) c) ∧ w = w' := by
  by_cases h : n ≤ 20
  · have h20 : decide ((20 : Int) < (n : Int)) = false := decide_eq_false (by omega)
    have hm := Lib.hid (show n = min n 20 by omega)
    go_enter Try.func22, Try.ntmps22
    go_wp2
    go_ret
    exact ⟨by rw [← hm.out]; rfl, rfl⟩
  · have h20 : decide ((20 : Int) < (n : Int)) = true := decide_eq_true (by omega)
    have hm := Lib.hid (show 20 = min n 20 by omega)
    have h3 : 20 ≤ c := by omega
    go_enter Try.func22, Try.ntmps22
    go_wp2
    go_ret
    exact ⟨by rw [← hm.out]; rfl, rfl⟩
/-- What stands at a place is none or one of the items. -/
theorem stepR_in {R : Rows4} {n : Nat} {s : RS} (h : ∀ j, s.out j < n) {i : Nat} (hi : i < n) : ∀ j, (stepR R s i).out j < n := by
  intro j
  unfold stepR
  split
  · exact h j
  · split
    · exact h j
    · show (if j = _ then (i : Int) else s.out j) < n
      split
      · omega
      · exact h j
theorem partR_in {R : Rows4} {n : Nat} {s : RS} (h : ∀ j, s.out j < n) : ∀ i, i ≤ n → ∀ j, (partR R s i).out j < n
  | 0, _ => h
  | i + 1, hi => by rw [partR_step]; exact stepR_in (partR_in h i (by omega)) (by omega)
theorem roundsR_in {R : Rows4} {n : Nat} {s : RS} (h : ∀ j, s.out j < n) : ∀ k j, (roundsR R n s k).out j < n
  | 0 => h
  | k + 1 => partR_in (roundsR_in h k) n (Nat.le_refl _)
theorem freeN_zero {out : Nat → Int} {p : Nat} (h : freeN out p = 0) : ∀ j, j < p → 0 ≤ out j := fun j hj => by
  unfold freeN at h
  rw [List.countP_eq_zero] at h
  have := h j (List.mem_range.2 hj)
  simp only [decide_eq_true_eq] at this
  omega
/-- What a ring's places have: all are taken, if an item weighs something. -/
theorem ringOut_in {seed : Int} {p : Nat} {l : List (Int × Int)} (h : RightP p l) (hh : 0 < heavyTo l l.length) : ∀ j, j < p → 0 ≤ ringOut seed p l j ∧ ringOut seed p l j < l.length := by
  intro j hj
  have hRR := ring_RR (seed := seed) h
  have hI0 : RI (ringRows seed p l) l.length (rs0 p) := rs0_keeps (R := ringRows seed p l) hh
  obtain ⟨i0, hi0, hw0⟩ := heavyTo_some l l.length hh
  have hK := roundsR_keeps hRR hI0 p
  have hend : (roundsR (ringRows seed p l) l.length (rs0 p) p).left = 0 := rounds_end hRR hI0 hi0 hw0 (Nat.le_refl _)
  unfold ringOut
  rw [if_pos hh]
  refine ⟨freeN_zero (p := p) (by have := hK.cnt; rw [hend] at this; exact this) j hj, roundsR_in (fun j => ?_) p j⟩
  show (-1 : Int) < _
  omega
theorem prime_7 : decide (primeP (7 : Int).toNat) = true := by decide +kernel
theorem prime_9 : decide (primeP (9 : Int).toNat) = false := by decide +kernel
theorem awake_right : RightP 7 [(5, 2)] := ⟨by decide, by decide, by decide +kernel, by decide, by decide +kernel⟩
theorem law_awake39 (w : World) : Calls Try.prog 21 #[] w fun e w' => e = .returned (.bool true) ∧ Below w.heap.size w w' := by
  have hP := Blk.new w 70 #[.int .u64 5, .int .i64 2]
  have hx : Below w.heap.size w (w.alloc (.cells #[.int .u64 5, .int .i64 2] 70)) := (Below.refl _ _).alloc (Nat.le_refl _) _
  have hL : IsPairs (w.alloc (.cells #[.int .u64 5, .int .i64 2] 70)) .u64 .i64 (some ⟨w.heap.size, 0, none⟩) 1 1 [(5, 2)] :=
    ⟨rfl, Nat.le_refl _, by decide, by decide, fun p hp => by simp at hp; subst hp; decide, fun _ => ⟨_, rfl, hP.lt, fun i q hq => by
      rcases i with _ | i
      · simp at hq; subst hq
        exact ⟨hP.cell 0, hP.cell 1⟩
      · simp at hq⟩⟩
  have hN := ring_NewGood _ 1 (by decide) (by decide) 7 _ 1 1 _ hL (by decide) awake_right
  have ho := (ringOut_in (seed := 1) awake_right (by decide +kernel)) 1 (by decide)
  have ho0 : ringOut 1 7 [(5, 2)] 1 = 0 := by have := ho.2; simp at this; omega
  have p7 := fun w => ring_Prime 7 (by decide) w
  have p9 := fun w => ring_Prime 9 (by decide) w
  rw [prime_7] at p7
  rw [prime_9] at p9
  go_enter Try.func21, Try.ntmps21
  go_wp2_with fail
  refine hN.mono ?_; rintro e w1 ⟨⟨gq, gl, rfl, hB, hR⟩, hx1⟩
  have hW := below_step hx hx1
  have hPk := ring_Pick (w := w1) ⟨hB, hR⟩ (by decide) (by decide) 99 (by decide)
  rw [show 99 % 7 = 1 from rfl, ho0] at hPk
  clear hN hP hL ho ho0 hx hx1
  go_wp2_with fail
  refine hPk.mono ?_; rintro e w2 ⟨rfl, hx2⟩
  go_wp2_with fail
  refine (p7 _).mono ?_; rintro e w' ⟨rfl, rfl⟩
  go_wp2_with fail
  refine (p9 _).mono ?_; rintro e w' ⟨rfl, rfl⟩
  go_wp2
  go_ret
  exact ⟨rfl, below_step hW hx2⟩
theorem ringPrimes_walk (w : World) (n : Int) (n0 : -9223372036854775808 ≤ n) (n1 : n ≤ 9223372036854775807) :
    Calls Try.prog 6 #[.int .i64 n] w fun e w' => e = .returned (.bool true) ∧ Below w.heap.size w w' := by
  by_cases h : 1048576 < n
  · go_enter Try.func6, Try.ntmps6
    go_wp2_with fail
    refine (law_awake39 _).mono ?_; rintro e w9 ⟨rfl, hx9⟩
    go_wp2
    go_ret
    exact ⟨rfl, hx9⟩
  · have hA := fun w => ring_Prime n n1 w
    have hB := fun w => law_prime n (by omega) w
    generalize decide (primeP n.toNat) = b at *
    have hbb : (b == b) = true := by simp
    go_enter Try.func6, Try.ntmps6
    go_wp2_with fail
    refine (hA _).mono ?_; rintro e w' ⟨rfl, rfl⟩
    go_wp2_with fail
    refine (hB _).mono ?_; rintro e w' ⟨rfl, rfl⟩
    go_wp2_with fail
    refine (law_awake39 _).mono ?_; rintro e w9 ⟨rfl, hx9⟩
    go_wp2
    go_ret
    exact ⟨by simp, hx9⟩
theorem ring_Shares {w : World} {gq gl p : Nat} {out : Nat → Int} (h : RG w gq gl p out) (hp1 : p ≤ 65537) (n : Nat) (hn : n ≤ 512) :
    Calls Try.prog 28 #[.pointer (some ⟨gq, 0, none⟩), .int .i64 (n : Int)] w fun e w' => ∃ g : Nat, e = .returned (.slice (some ⟨g, 0, none⟩) n n) ∧ w'.rowIs g 3 n (fun i => .int .i64 (cntN out i p : Nat)) ∧ Below w.heap.size w w' := by
  have hm1 := run_make_row' (P := Try.prog) 54 3 (.int .i64 0) 8 Try.underlying54 Try.infoI64 rfl .i64 .i64 n (by omega) (by omega)
  have hmx : min (max (n : Int) 0) 512 = (n : Int) := by omega
  have hmn : min (n : Int) 512 = (n : Int) := by omega
  have e1 := World.rowIs_made w (.int .i64 0) n 3
  have e2 : Below w.heap.size w (w.alloc (.cells (madeCells #[.int .i64 0] n) 3)) := (Below.refl _ _).alloc (Nat.le_refl _) _
  have h1 := h.keep e2
  have c0 := h1.blk.cells1.1
  have hgl : gl ≠ w.heap.size := fun e => by have := h.row.lt; omega
  go_enter Try.func28, Try.ntmps28
  go_upto_region 2 with (fail)
  generalize w.alloc (.cells (madeCells #[.int .i64 0] n) 3) = u at *
  clear hm1 h
  go_wp2_with fail
  go_loopg [20] p (fun gk s20 wr => ∃ k : Nat, k ≤ p ∧ gk = p - k ∧ s20 = .int .i64 k ∧ wr.rowIs w.heap.size 3 n (fun i => .int .i64 (cntN out i k : Nat)) ∧ Mod (· = w.heap.size) u wr)
  case atStart => exact ⟨0, Nat.zero_le _, rfl, rfl, e1.congr (fun j _ => rfl), Mod.refl _ _⟩
  case round =>
    clear e1
    obtain ⟨k, hk, rfl, rfl, hS, hM⟩ := hrel
    by_cases hkp : k < p
    · have hki : (k : Int) < (p : Int) := by omega
      have ck := cell_mod (h1.row.cell hkp) hM hgl
      have HST := Lib.hid (fun i => cntN_step out i k)
      obtain ⟨z, hz⟩ : ∃ z, z = out k := ⟨_, rfl⟩
      rw [← hz] at ck HST
      clear hz c0
      by_cases hz0 : 0 ≤ z
      · by_cases hzn : z < n
        · obtain ⟨i, rfl⟩ : ∃ i : Nat, z = i := ⟨z.toNat, by omega⟩
          have hin : i < n := by omega
          have ci := hS.cell hin
          have zi := hS.frozen i
          have hle := cntN_le out i k
          have hS2 := (hS.set i (.int .i64 ((cntN out i k : Nat) + 1 : Int))).congr (g := fun j => .int .i64 (cntN out j (k + 1) : Nat)) (fun j _ => by
            rw [HST.out]
            by_cases e : j = i
            · subst e; rw [if_pos rfl, if_pos (by simp)]; rfl
            · rw [if_neg e, if_neg (by simp; omega), Nat.add_zero])
          have hM2 := hM.own i (.int .i64 ((cntN out i k : Nat) + 1 : Int))
          generalize cntN out i k = ct at *
          go_wp2
          go_roundg (p - (k + 1))
          case measure => omega
          case rel => exact ⟨k + 1, by omega, rfl, by go_num, hS2, hM2⟩
        · have g2 : decide (z < (n : Int)) = false := decide_eq_false hzn
          have hS2 := hS.congr (g := fun j => .int .i64 (cntN out j (k + 1) : Nat)) (fun j hj => by
            rw [HST.out, if_neg (by simp; omega), Nat.add_zero])
          go_wp2
          go_roundg (p - (k + 1))
          case measure => omega
          case rel => exact ⟨k + 1, by omega, rfl, by go_num, hS2, hM⟩
      · have hS2 := hS.congr (g := fun j => .int .i64 (cntN out j (k + 1) : Nat)) (fun j hj => by
          rw [HST.out, if_neg (by simp; omega), Nat.add_zero])
        go_wp2
        go_roundg (p - (k + 1))
        case measure => omega
        case rel => exact ⟨k + 1, by omega, rfl, by go_num, hS2, hM⟩
    · obtain rfl : k = p := by omega
      have hW := below_thenMod e2 (Nat.le_refl _) hM (fun k hk => by omega)
      go_wp2
      go_ret
      exact ⟨w.heap.size, rfl, hS, hW⟩
end Go.Proofs.Ytpedhlmcgilliaa
