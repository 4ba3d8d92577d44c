/- The law's own: name, Few, and why, up to those that are like it. (Written by gen_treed.py.) -/
import Derived.Test.YtdkijmiflommeaaTreeC
set_option linter.unusedVariables false
namespace Go.Proofs.Ytdkijmiflommeaa
open Go.RowKit
set_option maxHeartbeats 4000000
set_option maxRecDepth 100000
theorem law_name (s : ByteArray) (w : World) (hs : s.size ≤ maxLen) :
    Calls Try.prog 18 #[.string s] w fun e w' => e = .returned (.bool (nameOk s)) ∧ w = w' := by
  unfold maxLen at hs
  by_cases g1 : s.size < 1
  · have HN := Lib.hid (name_short g1)
    go_enter Try.func18, Try.ntmps18
    go_wp2
    go_ret
    exact ⟨by rw [HN.out]; rfl, rfl⟩
  by_cases g2 : 32 < s.size
  · have HN := Lib.hid (name_long g2)
    go_enter Try.func18, Try.ntmps18
    go_wp2
    go_ret
    exact ⟨by rw [HN.out]; rfl, rfl⟩
  go_enter Try.func18, Try.ntmps18
  go_wp2
  go_loop [3] (fun i => ∃ k : Nat, k ≤ s.size ∧ i = .int .i64 k ∧ Hid ((s.data.toList.take k).all chOk = true)) (fun i => s.size - (intOf i).toNat)
  case atStart => exact ⟨0, Nat.zero_le _, rfl, Lib.hid (by simp)⟩
  case round =>
    obtain ⟨k, hk, rfl, ha⟩ := hrel
    by_cases hlt : k < s.size
    · have HS := Lib.hid (fun hc => all_step hlt ha.out hc)
      have HB := Lib.hid (fun hc => name_bad (s := s) hlt hc)
      clear ha
      go_wp2
      all_goals first
        | (go_round
           case rel => exact ⟨k + 1, by omega, by go_num, Lib.hid (HS.out (by unfold chP; grind))⟩
           case measure => simp [intOf]; omega)
        | (go_ret
           exact ⟨by rw [HB.out (by unfold chP; grind)]; rfl, rfl⟩)
    · obtain rfl : k = s.size := by omega
      have HN := Lib.hid (name_good (by omega) (by omega) ha.out)
      go_wp2
      go_ret
      exact ⟨by rw [HN.out]; rfl, rfl⟩
theorem law_Few (A : Option Addr) (n c : Nat) (hn : n ≤ c) (hc : c ≤ 9223372036854775807) (w : World) :
    Calls Try.prog 15 #[.slice A n c] w fun e w' => e = .returned (.slice A (min n 60) c) ∧ w = w' := by
  by_cases h : n ≤ 60
  · have h30 : decide ((60 : Int) < (n : Int)) = false := decide_eq_false (by omega)
    have hm := Lib.hid (show n = min n 60 by omega)
    go_enter Try.func15, Try.ntmps15
    go_wp2
    go_ret
    exact ⟨by rw [← hm.out]; rfl, rfl⟩
  · have h30 : decide ((60 : Int) < (n : Int)) = true := decide_eq_true (by omega)
    have hm := Lib.hid (show 60 = min n 60 by omega)
    have h3 : 60 ≤ c := by omega
    go_enter Try.func15, Try.ntmps15
    go_wp2
    go_ret
    exact ⟨by rw [← hm.out]; rfl, rfl⟩
theorem why_early (x : Nd) (hx : x.Wf) (A : Option Addr) (n c : Nat) (l : List Nd) (w : World) (hl : IsNodes w A n c l) (h : headC x l ≠ 0 ) :
    Calls Try.prog 19 #[.agg #[.string x.name, .int .i64 x.kind, .int .i64 x.above, .int .i64 x.weight, .bool x.six, .int .u64 x.hi, .int .u64 x.lo], .slice A n c] w fun e w' => e = .returned (.int .i64 (headC x l)) ∧ Below w.heap.size w w' := by
  obtain ⟨s, kd, ab, wt, six, hi, lo⟩ := x
  obtain ⟨hs, b1, b2, b3, b4, b5, b6, b7, b8, b9, b10⟩ := hx
  dsimp only at *
  have hcap := hl.cap
  have hsm := hl.small
  have hlen := hl.len
  have H0 := Lib.hid h
  clear h
  have A0 := fun w => law_name s w hs
  have P := Blk.new w 34 #[.string s, .int .i64 kd, .int .i64 ab, .int .i64 wt, .bool six, .int .u64 hi, .int .u64 lo]
  have hW : Below w.heap.size w (w.alloc (.cells #[.string s, .int .i64 kd, .int .i64 ab, .int .i64 wt, .bool six, .int .u64 hi, .int .u64 lo] 34)) := (Below.refl _ _).alloc (Nat.le_refl _) _
  go_enter Try.func19, Try.ntmps19
  go_wp2_with ((go_at_call 18; refine (A0 _).mono ?_; rintro e w1 ⟨rfl, rfl⟩))
  all_goals first
    | (go_ret
       exact ⟨ret_int (by unfold headC; dsimp only; grind), (Below.refl _ _).alloc (Nat.le_refl _) _⟩)
    | skip
  · have hk : kd = 1 := by assumption
    subst hk
    have hk2 : ab = -1 := by assumption
    subst hk2
    generalize w.alloc (.cells #[.string s, .int .i64 1, .int .i64 (-1), .int .i64 wt, .bool six, .int .u64 hi, .int .u64 lo] 34) = u at *
    obtain ⟨p0, p1, p2, p3, p4, p5, p6, _⟩ := P.cells7
    have U1 := cell_under p1
    have U2 := cell_under p2
    refine wp_region_quiet_under (by kernel_rfl) (by kernel_rfl) ?_
    repeat (go_big_quiet_step ((fail)))
    refine wpQuiet_nil ?_
    intro wu hw'
    obtain ⟨pq, hw''⟩ := hw'
    have hU := below_eq hw''
    clear hw'' pq
    have P1 := P.keep hU
    have hW1 := below_keep hW (hU.mono (Nat.le_refl _))
    clear P hW hU U1 U2 p0 p1 p2 p3 p4 p5 p6
    obtain ⟨p0, p1, p2, p3, p4, p5, p6, _⟩ := P1.cells7
    go_wp2_with fail
    refine (addr_Right six hi lo _).mono ?_; rintro e w1 ⟨rfl, hx⟩
    have P2 := P1.keep hx
    have hW2 := below_step hW1 hx
    clear P1 hW1 hx p0 p1 p2 p3 p4 p5 p6
    obtain ⟨p0, p1, p2, p3, p4, p5, p6, _⟩ := P2.cells7
    go_wp2
    all_goals first
      | (go_ret
         exact ⟨ret_int (by unfold headC noAddr; dsimp only; grind), hW2⟩)
      | (exfalso
         exact H0.out (by unfold headC noAddr; dsimp only; grind))
  · obtain ⟨ad, rfl, hbk, hat⟩ := hl.at_ (k := ab.toNat) (by omega)
    have U3 := cell_under (cell_alloc hat.kind (.cells #[.string s, .int .i64 kd, .int .i64 ab, .int .i64 wt, .bool six, .int .u64 hi, .int .u64 lo] 34))
    clear hat
    have hab : ab < (n : Int) := by omega
    have hab0 : (0 : Int) ≤ ab := by omega
    have hkk : IntKind.i64.wrap (kd - 1) = kd - 1 := IntWalk.i64_in _ (by omega)
    generalize w.alloc (.cells #[.string s, .int .i64 kd, .int .i64 ab, .int .i64 wt, .bool six, .int .u64 hi, .int .u64 lo] 34) = u at *
    obtain ⟨p0, p1, p2, p3, p4, p5, p6, _⟩ := P.cells7
    have U1 := cell_under p1
    have U2 := cell_under p2
    obtain ⟨z, hz⟩ : ∃ z, z = (l.getD ab.toNat nd0).kind := ⟨_, rfl⟩
    rw [← hz] at U3
    have HZ := Lib.hid hz
    clear hz
    refine wp_region_quiet_under (by kernel_rfl) (by kernel_rfl) ?_
    repeat (go_big_quiet_step ((fail)))
    refine wpQuiet_nil ?_
    intro wu hw'
    obtain ⟨pq, hw''⟩ := hw'
    have hU := below_eq hw''
    clear hw'' pq
    clear hkk U3
    by_cases hzk : z = kd - 1
    · have g1 : (z != kd - 1) = false := by simp [hzk]
      have HZK := Lib.hid hzk
      clear hzk
      have P1 := P.keep hU
      have hW1 := below_keep hW (hU.mono (Nat.le_refl _))
      clear P hW hU U1 U2 p0 p1 p2 p3 p4 p5 p6
      obtain ⟨p0, p1, p2, p3, p4, p5, p6, _⟩ := P1.cells7
      go_wp2_with fail
      refine (addr_Right six hi lo _).mono ?_; rintro e w1 ⟨rfl, hx⟩
      have P2 := P1.keep hx
      have hW2 := below_step hW1 hx
      clear P1 hW1 hx p0 p1 p2 p3 p4 p5 p6
      obtain ⟨p0, p1, p2, p3, p4, p5, p6, _⟩ := P2.cells7
      go_wp2
      all_goals first
        | (go_ret
           exact ⟨ret_int (by have hz := HZ.out; have hzk := HZK.out; unfold headC noAddr; dsimp only; grind), hW2⟩)
        | (exfalso
           exact H0.out (by have hz := HZ.out; have hzk := HZK.out; unfold headC noAddr; dsimp only; grind))
    · have g1 : (z != kd - 1) = true := by simp [hzk]
      have HZK := Lib.hid hzk
      have hW1 := below_keep hW (hU.mono (Nat.le_refl _))
      clear P hW hU U1 U2 p0 p1 p2 p3 p4 p5 p6 hzk
      go_wp2
      go_ret
      exact ⟨ret_int (by have hz := HZ.out; have hzk := HZK.out; unfold headC noAddr; dsimp only; grind), hW1⟩
end Go.Proofs.Ytdkijmiflommeaa
