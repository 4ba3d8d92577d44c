/- Chapter 24's example; LoadHealth. -/
import Derived.Test.YtonbmcgfbbpnkaaLoadC
set_option linter.unusedVariables false
namespace Go.Proofs.Ytonbmcgfbbpnkaa
open Go.RowKit
set_option maxHeartbeats 2000000
set_option maxRecDepth 100000
theorem isList_blk {w : World} {g : Nat} {t : TypeId} {cs : Array Value} {K : IntKind} (h : Blk w g t cs) (l : List Int) (hc : cs = (l.map (Value.int K)).toArray) (hwf : ∀ z ∈ l, (Lit.int K z).wf = true) (hl : l.length ≤ 17592186043904) : IsList w K (some ⟨g, 0, none⟩) l.length l.length l where
  reads := ⟨by simp, fun hn => ⟨_, rfl, h.lt, fun j u hu => by
    have e : (⟨g, 0, none⟩ : Addr).add j = ⟨g, j, none⟩ := by unfold Addr.add; split <;> simp_all
    rw [e, h.cell j, hc]
    simpa using hu⟩⟩
  len := rfl
  cap := Nat.le_refl _
  small := by omega
  wf := hwf
  reach := hl
theorem law24_awake (w : World) : Calls Try.prog 103 #[] w fun e w' => e = .returned (.bool true) ∧ Below w.heap.size w w' := by
  have o0 : ofI [5, 10] [10, 10] 140 2 0 = 7000 := by decide +kernel
  have o1 : ofI [5, 10] [10, 10] 140 2 1 = 3000 := by decide +kernel
  have hr : lRight [5, 10] [10, 10] 140 = true := by decide +kernel
  have A0 := fun w g h => load_Of (some ⟨g, 0, none⟩) (some ⟨h, 0, none⟩) 2 2 2 [5, 10] [10, 10] 140 w
  go_enter Try.func103, Try.ntmps103
  go_wp2_with fail
  have hB1 := (Blk.new w 3 #[.int .i64 5, .int .i64 10]).alloc (.cells #[.int .i64 10, .int .i64 10] 3)
  have hB2 := Blk.new (w.alloc (.cells #[.int .i64 5, .int .i64 10] 3)) 3 #[.int .i64 10, .int .i64 10]
  have hW : Below w.heap.size w ((w.alloc (.cells #[.int .i64 5, .int .i64 10] 3)).alloc (.cells #[.int .i64 10, .int .i64 10] 3)) := by go_grown
  simp only [World.size_alloc] at hB2
  generalize (w.alloc (.cells #[.int .i64 5, .int .i64 10] 3)).alloc (.cells #[.int .i64 10, .int .i64 10] 3) = u at *
  have wf : ∀ (a b : Int), 0 ≤ a → a ≤ 1000 → 0 ≤ b → b ≤ 1000 → ∀ z ∈ [a, b], (Lit.int .i64 z).wf = true := by
    intro a b a0 a1 b0 b1 z hz
    simp at hz
    rcases hz with rfl | rfl
    · exact WalkArith.wf_i64 (by omega)
    · exact WalkArith.wf_i64 (by omega)
  have hL1 := isList_blk (K := .i64) hB1 [5, 10] rfl (wf 5 10 (by decide) (by decide) (by decide) (by decide)) (by decide)
  have hL2 := isList_blk (K := .i64) hB2 [10, 10] rfl (wf 10 10 (by decide) (by decide) (by decide) (by decide)) (by decide)
  refine (A0 _ _ _ hL1 hL2 hr).mono ?_; rintro e w1 ⟨g, rfl, hg, hrow, hx⟩
  have c0 := hrow.cell (i := 0) (by decide)
  have c1 := hrow.cell (i := 1) (by decide)
  rw [o0] at c0
  rw [o1] at c1
  have hW1 := below_step hW hx
  clear hrow hx hW hL1 hL2 hB1 hB2 A0 wf o0 o1 hr
  go_wp2
  go_ret
  exact ⟨rfl, hW1⟩
theorem loadHealth_walk (w : World) (h : Int) (_ : -9223372036854775808 ≤ h) (_ : h ≤ 9223372036854775807) (a : Int) (_ : -9223372036854775808 ≤ a) (_ : a ≤ 9223372036854775807) (f : Int) (_ : -9223372036854775808 ≤ f) (_ : f ≤ 9223372036854775807) :
    Calls Try.prog 25 #[.int .i64 h, .int .i64 a, .int .i64 f] w fun e w' => e = .returned (.bool true) ∧ Below w.heap.size w w' := by
  by_cases hok : h ≤ 1048576 ∧ a ≤ 1048576 ∧ f ≤ 1048576
  · obtain ⟨h1, h2, h3⟩ := hok
    have d1 : decide (1048576 < h) = false := decide_eq_false (by omega)
    have d2 : decide (1048576 < a) = false := decide_eq_false (by omega)
    have d3 : decide (1048576 < f) = false := decide_eq_false (by omega)
    go_enter Try.func25, Try.ntmps25
    go_wp2_with fail
    refine (load_Health h a f h1 h2 h3 _).mono ?_; rintro e w1 ⟨rfl, hx⟩
    go_wp2_with fail
    refine (law_health h a f h1 h2 h3 _).mono ?_; rintro e w' ⟨rfl, rfl⟩
    go_wp2_with fail
    refine (law24_awake _).mono ?_; rintro e w2 ⟨rfl, hx2⟩
    go_wp2
    go_ret
    exact ⟨rfl, below_step hx hx2⟩
  · by_cases c1 : 1048576 < h
    all_goals
      by_cases c2 : 1048576 < a
      all_goals
        first
          | (have d1 : decide (1048576 < h) = true := decide_eq_true (by omega))
          | (have d1 : decide (1048576 < h) = false := decide_eq_false (by omega); first | (have d2 : decide (1048576 < a) = true := decide_eq_true (by omega)) | (have d2 : decide (1048576 < a) = false := decide_eq_false (by omega); have d3 : decide (1048576 < f) = true := decide_eq_true (by omega)))
        clear hok c1 c2
        go_enter Try.func25, Try.ntmps25
        go_wp2_with fail
        refine (law24_awake _).mono ?_; rintro e w2 ⟨rfl, hx2⟩
        go_wp2
        go_ret
        exact ⟨rfl, hx2⟩
end Go.Proofs.Ytonbmcgfbbpnkaa
