import Derived.Test.YtpedhlmcgilliaaMixE
import Derived.Test.YtpedhlmcgilliaaTextPlain2
set_option linter.unusedVariables false
namespace Go.Proofs.Ytpedhlmcgilliaa
open Go.RowKit
set_option maxHeartbeats 1600000
theorem Try.infoU64 : (Try.prog.info? 22).map (fun i => (i.zero, i.size, i.bytes)) = some (some (.int .u64 0), 1, 8) := by kernel_rfl
theorem textInts_wf (b : List UInt8) (z : Int) (h : z ∈ textInts b) : (Lit.int .u64 z).wf = true := by
  unfold textInts textWords at h
  rw [List.map_map, List.mem_map] at h
  obtain ⟨j, _, rfl⟩ := h
  have := word_lt9 ((b.drop (8 * j)).take 8) (by rw [List.length_take]; omega)
  have e : (Int.ofNat ∘ fun j => word ((b.drop (8 * j)).take 8)) j = ((word ((b.drop (8 * j)).take 8) : Nat) : Int) := rfl
  rw [e]
  exact WalkArith.wf_u64 (by omega)
/-- What the call owns reads as a list. -/
theorem owned_list {w wr : World} {K : IntKind} {e : TypeId} {v : Value} {l : List Int} (hown : wr.ownsRow w.heap.size e 1 v l.length (l.map (Value.int K))) (hwf : ∀ z ∈ l, (Lit.int K z).wf = true) (hl : (l.length : Int) ≤ 17592186043904) (hb : Below w.heap.size w wr) :
    ∃ A n c, Ending.returned v = .returned (.slice A n c) ∧ IsList wr K A n c l ∧ Below w.heap.size w wr := by
  rcases Nat.eq_zero_or_pos l.length with h0 | h0
  · obtain rfl : l = [] := List.length_eq_zero_iff.1 h0
    rcases hown.2 with ⟨rfl, _⟩ | ⟨g, cap, cur, rfl, hbg, hg, hnc, hcap, hcs, _⟩
    · exact ⟨none, 0, 0, rfl, isList_nil _ _, hb⟩
    · exact ⟨_, _, _, rfl, ⟨⟨rfl, fun h => absurd h (by simp)⟩, rfl, Nat.zero_le _, (by unfold maxLen at hcap; omega), (fun z hz => by cases hz), by simp⟩, hb⟩
  · obtain ⟨g, cap, rfl, hbg, hgs⟩ := hown.form h0
    have hr := Reads.of_own hown
    rcases hown.2 with ⟨hv, _⟩ | ⟨g', cap', cur, hv, _, hg, hnc, hcap, hcs, _⟩
    · cases hv
    · injection hv with h1 h2 h3
      subst h3
      exact ⟨_, _, _, rfl, ⟨hr, rfl, by omega, (by unfold maxLen at hcap; omega), hwf, by omega⟩, hb⟩
end Go.Proofs.Ytpedhlmcgilliaa
