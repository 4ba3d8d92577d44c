/- Lemmas for the claim's proof: HealthZ HealthZ1 RuleArg. -/
import Derived.Test.YtcpfekhpbjkgeaaQ01
import Derived.Test.YtcpfekhpbjkgeaaQ07
import Derived.Test.YtcpfekhpbjkgeaaQ22
section
/- A host that answers well each time, and one that never does: the law HealthRises. -/
set_option linter.unusedVariables false
namespace Go.Proofs.Ytcpfekhpbjkgeaa
open Go.RowKit Go.Maps
set_option maxHeartbeats 8000000
set_option maxRecDepth 100000
/-- How both hosts are behind so many ticks and askings. -/
structure RiseAt (r : Rul) (k n : Int) (x1 x2 : Ph) : Prop where
  id1 : x1.id = 1
  id2 : x2.id = 2
  up1 : x1.up = decide (r.rise ≤ n)
  as1 : x1.asked = false
  row1 : x1.row = if r.rise ≤ n then 0 else n
  up2 : x2.up = false
  row2 : x2.row = 0
  next1 : x1.next = 1 + r.every * n
  next2 : x2.next = 1 + r.every * n
  lt : k < 1 + r.every * n
  le : 1 + r.every * n ≤ k + r.every
  n0 : 0 ≤ n
theorem rise_start {r : Rul} (hr : RightR r) : RiseAt r 0 0 (freshPh 0 1) (freshPh 0 2) := by
  unfold RightR at hr
  unfold freshPh
  refine ⟨rfl, rfl, ?_, rfl, ?_, rfl, rfl, ?_, ?_, ?_, ?_, Int.le_refl _⟩
  · exact (decide_eq_false (by omega)).symm
  · rw [if_neg (by omega)]
  all_goals (rw [Int.mul_zero]; (try dsimp only); omega)
theorem rise_missO {r : Rul} {k n : Int} {x1 x2 : Ph} (h : RiseAt r k n x1 x2) (z : Int) : [x1, x2].flatMap (missOut r z) = [] := by
  have h1 : missOut r z x1 = [] := by unfold missOut; rw [if_neg (fun hh => by rw [h.as1] at hh; cases hh.2.1)]
  have h2 : missOut r z x2 = [] := by
    unfold missOut
    rw [if_neg (fun hh => by
      have := hh.2.2
      unfold turnPh at this
      rw [if_pos h.up2] at this; cases this)]
  simp [h1, h2]
theorem rise_quiet {r : Rul} (hr : RightR r) {k n : Int} {x1 x2 : Ph} (h : RiseAt r k n x1 x2) (hk : k + 1 ≠ 1 + r.every * n) : [x1, x2].flatMap (askOut (k + 1)) = [] ∧ RiseAt r (k + 1) n (tickPh r (k + 1) x1) (tickPh r (k + 1) x2) := by
  have m1 : missP r (k + 1) x1 = x1 := by unfold missP; rw [if_neg (fun hh => by rw [h.as1] at hh; cases hh.2)]
  obtain ⟨a1, a2, a3⟩ := missP_same r (k + 1) x2
  have m2 : (missP r (k + 1) x2).up = false ∧ (missP r (k + 1) x2).row = 0 := by
    unfold missP
    split
    · unfold hearPh; rw [if_pos h.up2]; exact ⟨h.up2, rfl⟩
    · exact ⟨h.up2, h.row2⟩
  have t1 : tickPh r (k + 1) x1 = x1 := by unfold tickPh askP; rw [m1, if_neg (by rw [h.next1]; exact hk)]
  have t2 : tickPh r (k + 1) x2 = missP r (k + 1) x2 := by unfold tickPh askP; rw [if_neg (by rw [a2, h.next2]; exact hk)]
  have e1 : askOut (k + 1) x1 = [] := by unfold askOut; rw [if_neg (by rw [h.next1]; exact hk)]
  have e2 : askOut (k + 1) x2 = [] := by unfold askOut; rw [if_neg (by rw [h.next2]; exact hk)]
  refine ⟨by simp [e1, e2], ?_⟩
  rw [t1, t2]
  have := h.lt
  have := h.le
  exact ⟨h.id1, by rw [a1]; exact h.id2, h.up1, h.as1, h.row1, m2.1, m2.2, h.next1, by rw [a2]; exact h.next2, by omega, by omega, h.n0⟩
theorem rise_ask {r : Rul} (hr : RightR r) {k n : Int} {x1 x2 : Ph} (h : RiseAt r k n x1 x2) (hk : k + 1 = 1 + r.every * n) : [x1, x2].flatMap (askOut (k + 1)) = [1, 2] ∧ (tickPh r (k + 1) x1).id = 1 ∧ (tickPh r (k + 1) x1).asked = true ∧
    turnPh r (tickPh r (k + 1) x1) true = decide (n + 1 = r.rise) ∧ RiseAt r (k + 1) (n + 1) (hearPh r (tickPh r (k + 1) x1) true) (tickPh r (k + 1) x2) := by
  have m1 : missP r (k + 1) x1 = x1 := by unfold missP; rw [if_neg (fun hh => by rw [h.as1] at hh; cases hh.2)]
  obtain ⟨a1, a2, a3⟩ := missP_same r (k + 1) x2
  have m2 : (missP r (k + 1) x2).up = false ∧ (missP r (k + 1) x2).row = 0 := by
    unfold missP
    split
    · unfold hearPh; rw [if_pos h.up2]; exact ⟨h.up2, rfl⟩
    · exact ⟨h.up2, h.row2⟩
  have t1 : tickPh r (k + 1) x1 = ⟨x1.up, true, x1.row, x1.id, k + 1 + r.every, k + 1⟩ := by unfold tickPh askP; rw [m1, if_pos (by rw [h.next1]; exact hk)]
  have t2 : tickPh r (k + 1) x2 = ⟨(missP r (k + 1) x2).up, true, (missP r (k + 1) x2).row, (missP r (k + 1) x2).id, k + 1 + r.every, k + 1⟩ := by unfold tickPh askP; rw [if_pos (by rw [a2, h.next2]; exact hk)]
  have e1 : askOut (k + 1) x1 = [1] := by unfold askOut; rw [if_pos (by rw [h.next1]; exact hk), h.id1]
  have e2 : askOut (k + 1) x2 = [2] := by unfold askOut; rw [if_pos (by rw [h.next2]; exact hk), h.id2]
  refine ⟨by simp [e1, e2], by rw [t1]; exact h.id1, by rw [t1], ?_⟩
  rw [t1, t2]
  have hn0 := h.n0
  have hm : r.every * (n + 1) = r.every * n + r.every := by rw [Int.mul_add, Int.mul_one]
  unfold RightR at hr
  have hup := h.up1
  have hrow := h.row1
  unfold turnPh hearPh
  dsimp only
  simp only [if_true]
  by_cases c : r.rise ≤ n
  · rw [decide_eq_true c] at hup
    rw [hup]
    rw [if_pos rfl, if_pos rfl]
    refine ⟨(decide_eq_false (by omega)).symm, ?_⟩
    exact ⟨h.id1, by dsimp only; rw [a1]; exact h.id2, by dsimp only; exact (decide_eq_true (by omega)).symm, rfl, by dsimp only; rw [if_pos (by omega)], m2.1, m2.2, by dsimp only; omega, by dsimp only; omega, by omega, by omega, by omega⟩
  · rw [decide_eq_false c] at hup
    rw [if_neg c] at hrow
    rw [hup, hrow]
    rw [if_neg (show ¬ (false = true) by decide), if_neg (show ¬ (false = true) by decide)]
    by_cases d : n + 1 < r.rise
    · rw [if_pos d, if_pos d]
      refine ⟨(decide_eq_false (by omega)).symm, ?_⟩
      exact ⟨h.id1, by dsimp only; rw [a1]; exact h.id2, by dsimp only; exact (decide_eq_false (by omega)).symm, rfl, by dsimp only; rw [if_neg (by omega)], m2.1, m2.2, by dsimp only; omega, by dsimp only; omega, by omega, by omega, by omega⟩
    · rw [if_neg d, if_neg d]
      refine ⟨(decide_eq_true (by omega)).symm, ?_⟩
      exact ⟨h.id1, by dsimp only; rw [a1]; exact h.id2, by dsimp only; exact (decide_eq_true (by omega)).symm, rfl, by dsimp only; rw [if_pos (by omega)], m2.1, m2.2, by dsimp only; omega, by dsimp only; omega, by omega, by omega, by omega⟩
theorem rise_end {r : Rul} (hr : RightR r) (h20 : r.every ≤ 20) {k n : Int} {x1 x2 : Ph} (h : RiseAt r k n x1 x2) (hk : 2100 ≤ k) : r.rise < n := by
  have h1 := h.lt
  have h0 := h.n0
  unfold RightR at hr
  rcases Int.lt_or_le r.rise n with h2 | h2
  · exact h2
  · exfalso
    have : r.every * n ≤ 20 * n := Int.mul_le_mul_of_nonneg_right h20 h0
    omega
theorem rise_set (now : Int) (h : now = 0) : SetTo now [1, 2] [] [freshPh 0 1, freshPh 0 2] where
  rise := by decide
  mem := fun i => by
    show i ∈ [1, 2] ↔ _
    constructor
    · intro hh; exact ⟨hh, by simp at hh; rcases hh with rfl | rfl <;> (unfold okId; decide)⟩
    · exact fun hh => hh.1
  keep := fun x hx => by subst h; simp at hx; rcases hx with rfl | rfl <;> rfl
end Go.Proofs.Ytcpfekhpbjkgeaa
end
section
/- The walk of the law HealthRises. -/
set_option linter.unusedVariables false
namespace Go.Proofs.Ytcpfekhpbjkgeaa
open Go.RowKit Go.Maps
set_option maxHeartbeats 8000000
set_option maxRecDepth 100000
/-- The board behind so many rounds. -/
structure RiseSt (W w : World) (bb : Nat) (r : Rul) (k n : Int) : Prop where
  ex : ∃ s x1 x2, IsBoard w W.heap.size s ∧ s.bb = bb ∧ s.r = r ∧ s.now = k ∧ s.n ≤ 10 ∧ Sim s [x1, x2] ∧ RiseAt r k n x1 x2
  below : Below W.heap.size W w
/-- The board when both are asked. -/
structure AskSt (W w : World) (bb : Nat) (r : Rul) (k n : Int) : Prop where
  ex : ∃ s y1 y2, IsBoard w W.heap.size s ∧ s.bb = bb ∧ s.r = r ∧ s.now = k ∧ s.n ≤ 10 ∧ Sim s [y1, y2] ∧ y1.id = 1 ∧ y1.asked = true ∧ turnPh r y1 true = decide (n + 1 = r.rise) ∧ RiseAt r k (n + 1) (hearPh r y1 true) y2
  below : Below W.heap.size W w
/-- While the asked ones are gone through. -/
def Inn (W w : World) (bb : Nat) (r : Rul) (k n : Int) (la : List Int) (kk : Nat) (n' : Int) : Prop :=
  (la = [] ∧ n' = n ∧ RiseSt W w bb r k n) ∨ (la = [1, 2] ∧ kk = 0 ∧ n' = n ∧ AskSt W w bb r k n) ∨ (la = [1, 2] ∧ 0 < kk ∧ n' = n + 1 ∧ RiseSt W w bb r k (n + 1))
theorem RiseSt.keep {W w w' : World} {bb : Nat} {r : Rul} {k n : Int} (h : RiseSt W w bb r k n) (hx : Below w.heap.size w w') : RiseSt W w' bb r k n := by
  obtain ⟨s, x1, x2, hB, h2⟩ := h.ex
  exact ⟨⟨s, x1, x2, hB.keep hx, h2⟩, below_step h.below hx⟩
/-- A tick. -/
theorem rise_Tick {W w : World} {bb : Nat} {r : Rul} {n : Int} {k : Nat} (hr : RightR r) (hk : k ≤ 2100) (h : RiseSt W w bb r k n) :
    Calls Try.prog 31 #[.pointer (some ⟨bb, 0, none⟩)] w fun e w' => ∃ va vo la, e = .returned (.tuple #[va, vo]) ∧ Inn W w' bb r ((k : Int) + 1) n la 0 n ∧ w'.ownsRow w.heap.size 3 1 va la.length (la.map (Value.int .i64)) ∧ (∃ A c, vo = .slice A 0 c) := by
  obtain ⟨s, x1, x2, hB, rfl, rfl, hnow, hnn, hS, hX⟩ := h.ex
  refine (solo_Tick hB hS hr (by simp) (by omega)).mono ?_
  rintro e w' ⟨va, vo, s', rfl, hT, hO, hS', hn', hm', hOa, hOc⟩
  have hW := h.below.trans (hB.below (Nat.le_refl _) hT.2.1)
  rw [rise_missO hX] at hOc
  rw [hnow] at hS' hn' hOa
  have hvo : ∃ A c, vo = .slice A 0 c := ownK_sl hOc
  by_cases hk2 : (k : Int) + 1 = 1 + s.r.every * n
  · obtain ⟨a1, a2, a3, a4, a5⟩ := rise_ask hr hX hk2
    rw [a1] at hOa
    exact ⟨va, vo, [1, 2], rfl, .inr (.inl ⟨rfl, rfl, rfl, ⟨⟨s', _, _, hT.1, hO.1, hO.2.2.2, hn', by omega, hS', a2, a3, a4, a5⟩, hW⟩⟩), hOa, hvo⟩
  · obtain ⟨a1, a2⟩ := rise_quiet hr hX hk2
    rw [a1] at hOa
    exact ⟨va, vo, [], rfl, .inl ⟨rfl, rfl, ⟨⟨s', _, _, hT.1, hO.1, hO.2.2.2, hn', by omega, hS', a2⟩, hW⟩⟩, hOa, hvo⟩
/-- The first one's answer; rows of numbers stand. -/
theorem rise_Answer {W w : World} {bb : Nat} {r : Rul} {k n : Int} (hr : RightR r) (h : AskSt W w bb r k n) {b0 m : Nat} {v : Value} {xs : List Value} (hO : w.ownsRow b0 3 1 v m xs) :
    Calls Try.prog 32 #[.pointer (some ⟨bb, 0, none⟩), .int .i64 1, .bool true] w fun e w' => e = .returned (.tuple #[.bool (decide (n + 1 = r.rise)), .int .i64 0]) ∧ RiseSt W w' bb r k (n + 1) ∧ w'.ownsRow b0 3 1 v m xs := by
  obtain ⟨s, y1, y2, hB, rfl, rfl, hnow, hnn, hS, h1, h2, h3, h4⟩ := h.ex
  have hA := solo_Answer hB hS hr (k := 0) (by simp) h2 true
  simp only [List.getD_cons_zero, h1] at hA
  refine hA.mono ?_
  rintro e w' ⟨rfl, s', hT, hO', hS', hn', hm'⟩
  exact ⟨by rw [h3], ⟨⟨s', _, _, hT.1, hO'.1, hO'.2.2.2, hn'.trans hnow, by omega, hS', h4⟩, h.below.trans (hB.below (Nat.le_refl _) hT.2.1)⟩, ownK_mod hO hT.2.1 (fun g hg => own_notbd hB hO (by decide) (by decide) (by decide) (by decide) hg)⟩
theorem rise_Get1 {W w : World} {bb : Nat} {r : Rul} {k n : Int} (h : RiseSt W w bb r k n) :
    Calls Try.prog 33 #[.pointer (some ⟨bb, 0, none⟩), .int .i64 1] w fun e w' => (∃ a z, e = .returned (.tuple #[.agg #[.bool (decide (r.rise ≤ n)), .bool a, .int .i64 z], .bool true])) ∧ Below w.heap.size w w' := by
  obtain ⟨s, x1, x2, hB, rfl, rfl, hnow, hnn, hS, hX⟩ := h.ex
  have hG := solo_Get hB hS (x := x1) (by simp)
  rw [hX.id1, hX.up1] at hG
  refine hG.mono ?_
  rintro e w' ⟨rfl, hx⟩
  exact ⟨⟨_, _, rfl⟩, hx⟩
theorem rise_Get2 {W w : World} {bb : Nat} {r : Rul} {k n : Int} (h : RiseSt W w bb r k n) :
    Calls Try.prog 33 #[.pointer (some ⟨bb, 0, none⟩), .int .i64 2] w fun e w' => (∃ a z, e = .returned (.tuple #[.agg #[.bool false, .bool a, .int .i64 z], .bool true])) ∧ Below w.heap.size w w' := by
  obtain ⟨s, x1, x2, hB, rfl, rfl, hnow, hnn, hS, hX⟩ := h.ex
  have hG := solo_Get hB hS (x := x2) (by simp)
  rw [hX.id2, hX.up2] at hG
  refine hG.mono ?_
  rintro e w' ⟨rfl, hx⟩
  exact ⟨⟨_, _, rfl⟩, hx⟩
theorem RiseSt.end_ {W w : World} {bb : Nat} {r : Rul} {k n : Int} (h : RiseSt W w bb r k n) (hr : RightR r) (h20 : r.every ≤ 20) (hk : 2100 ≤ k) : r.rise < n := by
  obtain ⟨s, x1, x2, _, _, _, _, _, _, hX⟩ := h.ex
  exact rise_end hr h20 hX hk
theorem healthRises_walk (w : World) (re rt rr rf : Int) (hw : I64 re ∧ I64 rt ∧ I64 rr ∧ I64 rf) :
    Calls Try.prog 7 #[.agg #[.int .i64 re, .int .i64 rt, .int .i64 rr, .int .i64 rf]] w fun e w' => e = .returned (.bool true) ∧ Below w.heap.size w w' := by
  have hA := (Below.refl w.heap.size w).alloc (Nat.le_refl _) (.cells #[.int .i64 re, .int .i64 rt, .int .i64 rr, .int .i64 rf] 49)
  have PR := Blk.new w 49 #[.int .i64 re, .int .i64 rt, .int .i64 rr, .int .i64 rf]
  have CRT := fun w => law22_right ⟨re, rt, rr, rf⟩ w
  have CAW := fun w => law22_awake w
  have hq := fun m w => eql_board_nil m w
  go_enter Try.func7, Try.ntmps7
  go_upto_region 1 with (fail)
  obtain ⟨rb, hrb⟩ : ∃ q, q = w.heap.size := ⟨_, rfl⟩
  rw [← hrb] at PR ⊢
  clear hrb
  generalize w.alloc (.cells #[.int .i64 re, .int .i64 rt, .int .i64 rr, .int .i64 rf] 49) = u at *
  obtain ⟨p0, p1, p2, p3, _⟩ := PR.cells4
  by_cases hR : RightR ⟨re, rt, rr, rf⟩
  · rw [rightB_t hR] at CRT
    have HR := Lib.hid hR
    have hrr : 1 ≤ re ∧ 1 ≤ rr ∧ rr ≤ 100 := by unfold RightR at hR; dsimp only at hR; omega
    clear hR
    by_cases h20 : re ≤ 20
    · have e1 : decide (20 < re) = false := decide_eq_false (by omega)
      have e2 : decide (re > 20) = false := e1
      go_wp2_with fail
      refine (CRT _).mono ?_; rintro e w1 ⟨rfl, hx1⟩
      have hW1 := below_step hA hx1
      have PR1 := PR.keep hx1
      have PR1' := PR1
      clear PR p0 p1 p2 p3 hA hx1 CRT
      obtain ⟨p0, p1, p2, p3, _⟩ := PR1.cells4
      have CNW := health_NewGood ⟨re, rt, rr, rf⟩ HR.out
      go_wp2_with fail
      refine (CNW _).mono ?_
      rintro e w2 ⟨⟨bb, wb, mb, V, rfl, hB2⟩, hx2⟩
      have hS2 := sim_new bb wb mb V ⟨re, rt, rr, rf⟩
      obtain ⟨s2, hs2⟩ : ∃ s, s = newBd bb wb mb V ⟨re, rt, rr, rf⟩ := ⟨_, rfl⟩
      have hbb : s2.bb = bb := by rw [hs2]; rfl
      have hnw : s2.now = 0 := by rw [hs2]; rfl
      have hsr : s2.r = ⟨re, rt, rr, rf⟩ := by rw [hs2]; rfl
      have hnn : s2.n = 0 := by rw [hs2]; rfl
      rw [← hs2] at hB2 hS2
      have PR2 := PR1.keep hx2
      clear PR1 p0 p1 p2 p3 CNW hs2
      obtain ⟨p0, p1, p2, p3, _⟩ := PR2.cells4
      have hA2 := (Below.refl w2.heap.size w2).alloc (Nat.le_refl _) (.cells #[.int .i64 1, .int .i64 2] 3)
      have hB3 := hB2.keep hA2
      have hL := list_laid w2 [1, 2] (fun x hx => by simp at hx; rcases hx with rfl | rfl <;> (unfold I64; decide)) (by decide) (by decide)
      have hNB : 0 < 2 → ∀ ad, (some ⟨w2.heap.size, 0, none⟩ : Option Addr) = some ad → ¬ bIn s2 ad.block := fun _ ad e hb => by
        cases e
        have := (hB2.lt hb).2
        simp at this
      have CS := solo_Set hB3 hS2 (by rw [hsr]; exact HR.out) (by simp) (by omega) hL hNB (by decide) (by omega) (rise_set _ hnw)
      rw [hbb] at CS
      have PR3 := PR2.keep hA2
      have hx3 := hx2.trans (Below.mono hA2 hx2.size)
      clear hNB hL hS2 PR2 hx2 p0 p1 p2 p3 hA2 hB2
      go_wp2_with fail
      refine CS.mono ?_
      rintro e w3 ⟨rfl, s3, hT3, hO3, hS3, hn3, hm3⟩
      have hR0 : RiseSt w1 w3 bb ⟨re, rt, rr, rf⟩ ((0 : Nat) : Int) 0 := ⟨⟨s3, _, _, hT3.1, hO3.1.trans hbb, hO3.2.2.2.trans hsr, hn3.trans hnw, by simp at hm3; omega, hS3, rise_start HR.out⟩, hx3.trans (hB3.below (Nat.le_refl _) hT3.2.1)⟩
      have HPR := Lib.hid (fun (w' : World) (h : Below w1.heap.size w1 w') => PR1'.keep h)
      clear CS hT3 hO3 hS3 hn3 hm3 hB3 PR3 hx3 hbb hnw hsr hnn
      go_upto_region 9 with (fail)
      go_loopg [5, 6, 7, 8, 9, 10, 11, 12, 13, 14, 15] 2100 (fun gk s5 s6 s7 s8 s9 s10 s11 s12 s13 s14 s15 wr => ∃ (k : Nat) (n : Int), s6 = .int .i64 k ∧ s5 = .int .i64 n ∧ k ≤ 2100 ∧ gk = 2100 - k ∧ n ≤ rr + 1 ∧ 0 ≤ n ∧ RiseSt w1 wr bb ⟨re, rt, rr, rf⟩ k n)
      case atStart => exact ⟨0, 0, by go_num, by go_num, Nat.zero_le _, rfl, by omega, by omega, hR0⟩
      case round =>
        clear hR0
        obtain ⟨k, n, rfl, rfl, hk, rfl, hn, hn0, hSt⟩ := hrel
        have PRr := HPR.out _ hSt.below
        obtain ⟨p0, p1, p2, p3, _⟩ := PRr.cells4
        clear PRr
        by_cases hk2 : k < 2100
        · have e3 : decide ((k : Int) < 2100) = true := decide_eq_true (by omega)
          by_cases hnr : n ≤ rr
          · have e4 : decide (n ≤ rr) = true := decide_eq_true hnr
            have CT := rise_Tick HR.out hk hSt
            have HSB := Lib.hid hSt.below
            clear hSt
            go_wp2_with fail
            refine CT.mono ?_
            rintro e w4 ⟨va, vo, la, rfl, hI, hOa, Ac, cc, rfl⟩
            clear CT e3 e4 p0 p1 p2 p3
            obtain ⟨Al, cl, rfl⟩ := ownK_sl hOa
            have hcl := ownK_cap hOa
            obtain ⟨m, hm⟩ : ∃ m, m = la.length := ⟨_, rfl⟩
            have HM := Lib.hid hm
            rw [← hm] at hOa hcl ⊢
            have hm2 : m ≤ 2 := by
              rw [hm]
              rcases hI with ⟨h, _⟩ | ⟨h, _⟩ | ⟨h, _⟩ <;> rw [h] <;> simp
            have HI0 := Lib.hid hI
            obtain ⟨b0, hb0⟩ : ∃ q, q = wr.heap.size := ⟨_, rfl⟩
            rw [← hb0] at hOa
            obtain ⟨wo, hwo⟩ : ∃ wo, wo = wr := ⟨_, rfl⟩
            subst hwo
            clear hm hb0 hI HSB
            go_upto_region 15 with (fail)
            go_loopg [5, 9, 10, 11] m (fun gk s5 s9 s10 s11 wr => ∃ (kk : Nat) (n' : Int), s9 = .int .i64 kk ∧ s5 = .int .i64 n' ∧ kk ≤ m ∧ gk = m - kk ∧ n' ≤ rr + 1 ∧ 0 ≤ n' ∧ Hid (Inn w1 wr bb ⟨re, rt, rr, rf⟩ ((k : Int) + 1) n la kk n') ∧ wr.ownsRow b0 3 1 (.slice Al m cl) m (la.map (Value.int .i64)))
            case atStart => exact ⟨0, n, by go_num, rfl, Nat.zero_le _, rfl, by omega, by omega, HI0, hOa⟩
            case round =>
              clear hOa HI0
              obtain ⟨kk, n', rfl, rfl, hkk, rfl, hn', hn0', HI, hOa⟩ := hrel
              by_cases hkm : kk < m
              · have hkm2 : (kk : Int) < (m : Int) := by omega
                obtain ⟨ad, hAd, d0⟩ := ownI_at hOa HM.out.symm hkm
                subst hAd
                rcases HI.out with ⟨h, _⟩ | ⟨hla, hk0, rfl, hAsk⟩ | ⟨hla, hk0, hnn, hRs⟩
                · exact absurd hkm (by rw [HM.out, h]; simp)
                · rw [show la.getD kk 0 = 1 by rw [hla, hk0]; rfl] at d0
                  have HK0 := Lib.hid hk0
                  clear hk0
                  have CA := rise_Answer HR.out hAsk hOa
                  dsimp only at CA
                  have hw1' : IntKind.i64.wrap (n' + 1) = n' + 1 := IntWalk.i64_in _ (by omega)
                  have PRa := HPR.out _ hAsk.below
                  obtain ⟨p0, p1, p2, p3, _⟩ := PRa.cells4
                  clear PRa HI
                  have HLA := Lib.hid hla
                  clear hla hAsk hOa
                  go_wp2_with fail
                  refine CA.mono ?_
                  rintro e w5 ⟨rfl, hRs, hOa⟩
                  have PRa := HPR.out _ hRs.below
                  clear CA p0 p1 p2 p3 d0
                  obtain ⟨p0, p1, p2, p3, _⟩ := PRa.cells4
                  have HI1 := Lib.hid (show Inn w1 w5 bb ⟨re, rt, rr, rf⟩ ((k : Int) + 1) n' la (kk + 1) (n' + 1) from .inr (.inr ⟨HLA.out, Nat.succ_pos _, rfl, hRs⟩))
                  clear PRa hRs
                  by_cases hnr2 : n' + 1 = rr
                  · have e7 : decide (n' + 1 = rr) = true := decide_eq_true hnr2
                    have e8 : (n' + 1 == rr) = true := by simp [hnr2]
                    rw [e7]
                    clear hnr2 e7
                    go_wp2_with fail
                    go_roundg (m - (kk + 1))
                    case measure => omega
                    case rel => exact ⟨kk + 1, n' + 1, by go_num, by go_num, hkm, rfl, by omega, by omega, HI1, hOa⟩
                  · have e7 : decide (n' + 1 = rr) = false := decide_eq_false hnr2
                    have e8 : (n' + 1 == rr) = false := by simp [hnr2]
                    rw [e7]
                    clear hnr2 e7
                    go_wp2_with fail
                    go_roundg (m - (kk + 1))
                    case measure => omega
                    case rel => exact ⟨kk + 1, n' + 1, by go_num, by go_num, hkm, rfl, by omega, by omega, HI1, hOa⟩
                · have hkk1 : kk = 1 := by
                    have : m = 2 := by rw [HM.out, hla]; rfl
                    omega
                  rw [show la.getD kk 0 = 2 by rw [hla, hkk1]; rfl] at d0
                  have HI1 := Lib.hid (show Inn w1 wr bb ⟨re, rt, rr, rf⟩ ((k : Int) + 1) n la (kk + 1) n' from .inr (.inr ⟨hla, Nat.succ_pos _, hnn, hRs⟩))
                  clear HI hla hnn hRs hk0 hkk1
                  go_wp2_with fail
                  go_roundg (m - (kk + 1))
                  case measure => omega
                  case rel => exact ⟨kk + 1, n', by go_num, rfl, hkm, rfl, hn', hn0', HI1, hOa⟩
              · obtain rfl : kk = m := by omega
                have hge : ¬ (kk : Int) < (kk : Int) := by omega
                have hRs : RiseSt w1 wr bb ⟨re, rt, rr, rf⟩ ((k : Int) + 1) n' := by
                  rcases HI.out with ⟨_, rfl, h⟩ | ⟨hla, h0, _⟩ | ⟨_, _, rfl, h⟩
                  · exact h
                  · have : kk = 2 := by rw [HM.out, hla]; rfl
                    omega
                  · exact h
                have CG := rise_Get1 hRs
                dsimp only at CG
                clear HI hOa hm2 hcl
                go_wp2_with fail
                refine CG.mono ?_
                rintro e w5 ⟨⟨ga, gz, rfl⟩, hx5⟩
                have hRs5 := hRs.keep hx5
                clear CG hRs hx5
                go_upto_region 23 with (fail)
                have hA5 := (Below.refl w5.heap.size w5).alloc (Nat.le_refl _) (.cells #[.bool (decide (rr ≤ n')), .bool ga, .int .i64 gz] 72)
                have PX := Blk.new w5 72 #[.bool (decide (rr ≤ n')), .bool ga, .int .i64 gz]
                have hRs6 := hRs5.keep hA5
                obtain ⟨xb, hxb⟩ : ∃ q, q = w5.heap.size := ⟨_, rfl⟩
                rw [← hxb] at PX ⊢
                clear hxb hA5 hRs5
                generalize w5.alloc (.cells #[.bool (decide (rr ≤ n')), .bool ga, .int .i64 gz] 72) = w6 at *
                have CG := rise_Get2 hRs6
                go_wp2_with fail
                refine CG.mono ?_
                rintro e w7 ⟨⟨ha, hz, rfl⟩, hx7⟩
                have hRs7 := hRs6.keep hx7
                have PX7 := PX.keep hx7
                clear CG hRs6 hx7 PX
                go_upto_region 24 with (fail)
                have hA7 := (Below.refl w7.heap.size w7).alloc (Nat.le_refl _) (.cells #[.bool false, .bool ha, .int .i64 hz] 72)
                have PY := Blk.new w7 72 #[.bool false, .bool ha, .int .i64 hz]
                have hRs8 := hRs7.keep hA7
                have PX8 := PX7.keep hA7
                obtain ⟨yb, hyb⟩ : ∃ q, q = w7.heap.size := ⟨_, rfl⟩
                rw [← hyb] at PY ⊢
                clear hyb hA7 hRs7 PX7
                generalize w7.alloc (.cells #[.bool false, .bool ha, .int .i64 hz] 72) = w8 at *
                have PR8 := HPR.out _ hRs8.below
                obtain ⟨p0, p1, p2, p3, _⟩ := PR8.cells4
                obtain ⟨x0, x1, x2, _⟩ := PX8.cells3
                obtain ⟨y0, y1, y2, _⟩ := PY.cells3
                clear PR8 PX8 PY
                have hRs9 : RiseSt w1 w8 bb ⟨re, rt, rr, rf⟩ ((k + 1 : Nat) : Int) n' := by
                  rw [show ((k + 1 : Nat) : Int) = (k : Int) + 1 by omega]; exact hRs8
                clear hRs8
                by_cases hrn : rr ≤ n'
                · have e7 : decide (rr ≤ n') = true := decide_eq_true hrn
                  have e8 : decide (n' ≥ rr) = true := e7
                  rw [e7] at x0
                  clear hrn
                  go_wp2_with fail
                  go_roundg (2100 - (k + 1))
                  case measure => omega
                  case rel => exact ⟨k + 1, n', by go_num, rfl, by omega, rfl, hn', hn0', hRs9⟩
                · have e7 : decide (rr ≤ n') = false := decide_eq_false hrn
                  have e8 : decide (n' ≥ rr) = false := e7
                  rw [e7] at x0
                  clear hrn
                  go_wp2_with fail
                  go_roundg (2100 - (k + 1))
                  case measure => omega
                  case rel => exact ⟨k + 1, n', by go_num, rfl, by omega, rfl, hn', hn0', hRs9⟩
          · have e4 : decide (n ≤ rr) = false := decide_eq_false hnr
            have e5 : decide (rr < n) = true := decide_eq_true (by omega)
            have e6 : decide (n > rr) = true := e5
            have hW2 := below_step hW1 hSt.below
            clear hSt hnr
            go_wp2_with fail
            refine (CAW _).mono ?_; rintro e w5 ⟨rfl, hx5⟩
            have hW3 := below_step hW2 hx5
            clear hW2 hx5 p0 p1 p2 p3
            go_wp2_with fail
            go_ret
            exact ⟨rfl, hW3⟩
        · obtain rfl : k = 2100 := by omega
          have e3 : decide (((2100 : Nat) : Int) < 2100) = false := decide_eq_false (by omega)
          have hE := hSt.end_ HR.out h20 (by omega)
          dsimp only at hE
          have e5 : decide (rr < n) = true := decide_eq_true hE
          have e6 : decide (n > rr) = true := e5
          have hW2 := below_step hW1 hSt.below
          clear hSt hE
          go_wp2_with fail
          refine (CAW _).mono ?_; rintro e w5 ⟨rfl, hx5⟩
          have hW3 := below_step hW2 hx5
          clear hW2 hx5 p0 p1 p2 p3
          go_wp2_with fail
          go_ret
          exact ⟨rfl, hW3⟩
    · have e1 : decide (20 < re) = true := decide_eq_true (by omega)
      have e2 : decide (re > 20) = true := e1
      go_wp2_with fail
      refine (CRT _).mono ?_; rintro e w1 ⟨rfl, hx1⟩
      have hW1 := below_step hA hx1
      have PR1 := PR.keep hx1
      clear PR p0 p1 p2 p3 hA hx1 CRT
      obtain ⟨p0, p1, p2, p3, _⟩ := PR1.cells4
      go_wp2_with fail
      refine (CAW _).mono ?_; rintro e w5 ⟨rfl, hx5⟩
      have hW3 := below_step hW1 hx5
      clear hW1 hx5 p0 p1 p2 p3
      go_wp2_with fail
      go_ret
      exact ⟨rfl, hW3⟩
  · rw [rightB_f hR] at CRT
    clear hR
    go_wp2_with fail
    refine (CRT _).mono ?_; rintro e w1 ⟨rfl, hx1⟩
    have hW1 := below_step hA hx1
    clear PR p0 p1 p2 p3 hA hx1 CRT
    go_wp2_with fail
    refine (CAW _).mono ?_; rintro e w5 ⟨rfl, hx5⟩
    have hW3 := below_step hW1 hx5
    clear hW1 hx5
    go_wp2_with fail
    go_ret
    exact ⟨rfl, hW3⟩
end Go.Proofs.Ytcpfekhpbjkgeaa
end
section
/- A rule as an argument. -/
set_option linter.unusedVariables false
namespace Go.Proofs.Ytcpfekhpbjkgeaa
open Go.ChangeShapes Go.WideShapes Go.ChangeAt Go.RowKit Go.Joins Go.Deep
set_option maxRecDepth 100000 in
theorem open_rule {H : Type} {enc : TypeId × Value → H} {W : World} {base : Nat} {sp : Nat → Bool} {held : Bool} {r : Reach} {b0 : Nat} {v : Value} {d : DataW H} {p : List MemPlace}
    (hv : Value.okWide Try.prog W r b0 49 v) (h : DataW.Trod enc Try.prog W base sp held 49 v d p) :
    ∃ re rt rr rf : Int, v = .agg #[.int .i64 re, .int .i64 rt, .int .i64 rr, .int .i64 rf] ∧ I64 re ∧ I64 rt ∧ I64 rr ∧ I64 rf := by
  obtain ⟨c0, c1, c2, c3, y0, y1, y2, y3, m, rfl, rfl, rfl, hy0, hy1, hy2, hy3⟩ := open_agg4 Try.underlying49 (by as_aux_lemma => kernel_rfl) (by as_aux_lemma => kernel_rfl) hv h
  obtain ⟨a, ea, _, wa⟩ := DataW.trod_int Try.underlying2 hy0
  obtain ⟨b, eb, _, wb⟩ := DataW.trod_int Try.underlying2 hy1
  obtain ⟨c, ec, _, wc⟩ := DataW.trod_int Try.underlying3 hy2
  obtain ⟨e, ee, _, we⟩ := DataW.trod_int Try.underlying3 hy3
  simp at ea eb ec ee
  subst ea eb ec ee
  exact ⟨a, b, c, e, rfl, i64_of_wf wa, i64_of_wf wb, i64_of_wf wc, i64_of_wf we⟩
end Go.Proofs.Ytcpfekhpbjkgeaa
end
