/- The k-th of a slice of structs of two integers. -/
import Derived.Test.YtpedhlmcgilliaaPairs
set_option linter.unusedVariables false
namespace Go.Proofs.Ytpedhlmcgilliaa
open Go.RowKit
theorem IsPairs.at_ {w : World} {k0 k1 : IntKind} {A : Option Addr} {n c : Nat} {l : List (Int × Int)} (h : IsPairs w k0 k1 A n c l) {k : Nat} (hk : k < n) :
    ∃ ad, A = some ad ∧ ad.block < w.heap.size ∧ w.cell? (ad.add (k * 2)) = some (.int k0 (l.getD k (0, 0)).1) ∧ w.cell? ⟨(ad.add (k * 2)).block, (ad.add (k * 2)).off + 1, none⟩ = some (.int k1 (l.getD k (0, 0)).2) ∧
      (Lit.int k0 (l.getD k (0, 0)).1).wf = true ∧ (Lit.int k1 (l.getD k (0, 0)).2).wf = true := by
  obtain ⟨ad, ha, hb, hc⟩ := h.cells (by omega)
  have hl : k < l.length := by rw [h.len]; exact hk
  have e : l[k]? = some (l.getD k (0, 0)) := by rw [List.getD_eq_getElem?_getD, List.getElem?_eq_getElem hl]; rfl
  obtain ⟨c0, c1⟩ := hc k _ e
  obtain ⟨w0, w1⟩ := h.wf _ (List.mem_of_getElem? e)
  exact ⟨ad, ha, hb, c0, by rw [← add_of_add] at c1; exact c1, w0, w1⟩
theorem IsPairs.keep {w w' : World} {k0 k1 : IntKind} {A : Option Addr} {n c : Nat} {l : List (Int × Int)} (h : IsPairs w k0 k1 A n c l) (hx : Below w.heap.size w w') : IsPairs w' k0 k1 A n c l :=
  ⟨h.len, h.cap, h.small, h.reach, h.wf, fun hn => by
    obtain ⟨ad, ha, hb, hc⟩ := h.cells hn
    exact ⟨ad, ha, Nat.lt_of_lt_of_le hb hx.size, fun i q hq => ⟨(hx.cell (by rw [block_of_add]; exact hb)).trans (hc i q hq).1, (hx.cell (by rw [block_of_add]; exact hb)).trans (hc i q hq).2⟩⟩⟩
theorem IsPairs.take {w : World} {k0 k1 : IntKind} {A : Option Addr} {n c k : Nat} {l : List (Int × Int)} (h : IsPairs w k0 k1 A n c l) (hk : k ≤ n) : IsPairs w k0 k1 A k c (l.take k) :=
  ⟨by rw [List.length_take, h.len]; omega, Nat.le_trans hk h.cap, h.small, Nat.le_trans hk h.reach, fun p hp => h.wf p (List.mem_of_mem_take hp), fun hn => by
    obtain ⟨ad, ha, hb, hc⟩ := h.cells (by omega)
    refine ⟨ad, ha, hb, fun i q hq => hc i q ?_⟩
    rw [List.getElem?_take] at hq
    split at hq
    · exact hq
    · cases hq⟩
theorem IsPairs.below {w w' : World} {B : Nat} {k0 k1 : IntKind} {A : Option Addr} {n c : Nat} {l : List (Int × Int)} (h : IsPairs w k0 k1 A n c l) (hB : w.heap.size ≤ B) (hx : Below B w w') : IsPairs w' k0 k1 A n c l := h.keep (hx.mono hB)
end Go.Proofs.Ytpedhlmcgilliaa
