/- The reference's Text; the law MixLists. -/
import Derived.Test.YtpedhlmcgilliaaMixF
set_option linter.unusedVariables false
namespace Go.Proofs.Ytpedhlmcgilliaa
open Go.RowKit
set_option maxHeartbeats 400000
theorem IsList.take {w : World} {K : IntKind} {A : Option Addr} {n c k : Nat} {l : List Int} (h : IsList w K A n c l) (hk : k ≤ n) : IsList w K A k c (l.take k) where
  reads := by have := h.reads.take hk; rwa [Nat.mul_one, ← List.map_take] at this
  len := by rw [List.length_take, h.len]; omega
  cap := by have := h.cap; omega
  small := h.small
  wf := fun z hz => h.wf z (List.mem_of_mem_take hz)
  reach := by have := h.reach; omega
theorem IsList.below {w w' : World} {K : IntKind} {A : Option Addr} {n c : Nat} {l : List Int} (h : IsList w K A n c l) (hb : Below w.heap.size w w') : IsList w' K A n c l where
  reads := (h.reads.below hb).more hb.size
  len := h.len
  cap := h.cap
  small := h.small
  wf := h.wf
  reach := h.reach
end Go.Proofs.Ytpedhlmcgilliaa
