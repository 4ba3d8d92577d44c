/- Slices of integers, read by their places. -/
import Derived.Test.YtpedhlmcgilliaaObj
import Derived.Deep.OwnRows
set_option linter.unusedVariables false
namespace Go.Proofs.Ytpedhlmcgilliaa
open Go.RowKit
section
variable {w w' : World} {K : IntKind} {A : Option Addr} {n c : Nat} {l : List Int}
theorem IsList.get (h : IsList w K A n c l) {k : Nat} (hk : k < n) :
    ∃ ad, A = some ad ∧ ad.block < w.heap.size ∧ w.cell? (ad.add k) = some (.int K (l.getD k 0)) ∧ (Lit.int K (l.getD k 0)).wf = true := by
  obtain ⟨ad, u, e, hb, hu, hc⟩ := h.reads.at_ hk
  have hl : k < l.length := by rw [h.len]; exact hk
  have e2 : l[k]? = some (l.getD k 0) := by rw [List.getD_eq_getElem?_getD, List.getElem?_eq_getElem hl]; rfl
  rw [List.getElem?_map, e2] at hu
  obtain rfl := Option.some.inj hu
  exact ⟨ad, e, hb, hc, h.wf _ (List.mem_of_getElem? e2)⟩
theorem IsList.keep (h : IsList w K A n c l) (hx : Below w.heap.size w w') : IsList w' K A n c l :=
  ⟨(h.reads.below hx).more hx.size, h.len, h.cap, h.small, h.wf, h.reach⟩
theorem IsList.cut (h : IsList w K A n c l) {k : Nat} (hk : k ≤ n) : IsList w K A k c (l.take k) where
  reads := ⟨by simp [List.length_take, h.len]; omega, fun hn => by
    obtain ⟨ad, e, hb, hc⟩ := h.reads.2 (by omega)
    refine ⟨ad, e, hb, fun j u hu => hc j u ?_⟩
    rw [List.getElem?_map, List.getElem?_take] at hu
    rw [List.getElem?_map]
    split at hu
    · exact hu
    · simp at hu⟩
  len := by rw [List.length_take, h.len]; omega
  cap := Nat.le_trans hk h.cap
  small := h.small
  wf := fun z hz => h.wf z (List.mem_of_mem_take hz)
  reach := Nat.le_trans hk h.reach
end
section
variable {w w' : World} {b : Nat} {t : TypeId} {n : Nat} {f : Nat → Value} {S : Nat → Prop}
theorem row_keep (h : w.rowIs b t n f) (hx : Below w.heap.size w w') : w'.rowIs b t n f := h.of_block (hx.block b h.lt)
theorem row_keepA {ob : Obj} (h : w.rowIs b t n f) (hx : Below (w.alloc ob).heap.size (w.alloc ob) w') : w'.rowIs b t n f := row_keep (h.alloc ob) hx
theorem row_keepD (h : w.rowIs b t n f) (hx : Below w.drew.heap.size w.drew w') : w'.rowIs b t n f := row_keep h.drew hx
theorem row_drewN (h : w.rowIs b t n f) (d : Nat) : (w.drewN d).rowIs b t n f := h
theorem row_mod (h : w.rowIs b t n f) (hx : Mod S w w') (hn : ¬ S b) : w'.rowIs b t n f := h.of_block (hx.block b h.lt hn)
/-- A row of integers of one's own is a list. -/
theorem row_list (h : w.rowIs b t n f) {K : IntKind} (l : List Int) (hl : l.length = n) (hf : ∀ i, i < n → f i = .int K (l.getD i 0)) (hwf : ∀ z ∈ l, (Lit.int K z).wf = true) {c : Nat} (hc : n ≤ c) (hs : c ≤ 9223372036854775807) (hr : n ≤ 17592186043904) :
    IsList w K (some ⟨b, 0, none⟩) n c l where
  reads := ⟨by simp [hl], fun hn => ⟨_, rfl, h.lt, fun j u hu => by
    rw [List.getElem?_map] at hu
    obtain ⟨z, hz, rfl⟩ := Option.map_eq_some_iff.1 hu
    have hj : j < n := by
      rcases Nat.lt_or_ge j l.length with h1 | h1
      · omega
      · rw [List.getElem?_eq_none h1] at hz; cases hz
    have e : (⟨b, 0, none⟩ : Addr).add j = ⟨b, j, none⟩ := by unfold Addr.add; split <;> simp_all
    rw [e, h.cell hj, hf j hj, List.getD_eq_getElem?_getD, hz]
    rfl⟩⟩
  len := hl
  cap := hc
  small := hs
  wf := hwf
  reach := hr
end
end Go.Proofs.Ytpedhlmcgilliaa
