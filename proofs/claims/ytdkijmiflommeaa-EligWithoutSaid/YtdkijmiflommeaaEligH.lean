/- How many hosts of each level may be picked, and which nodes of a kind have one. -/
import Derived.Test.YtdkijmiflommeaaEligF
set_option linter.unusedVariables false
namespace Go.Proofs.Ytdkijmiflommeaa
open Go.RowKit
set_option maxHeartbeats 8000000
set_option maxRecDepth 100000
/-- Those of the first k places of which something is so. -/
def selTo (p : Nat → Bool) (k : Nat) : List Int := ((List.range k).filter p).map fun j : Nat => (j : Int)
theorem selTo_step (p : Nat → Bool) (k : Nat) : selTo p (k + 1) = selTo p k ++ if p k = true then [(k : Int)] else [] := by
  unfold selTo
  rw [List.range_succ, List.filter_append, List.map_append]
  congr 1
  by_cases h : p k = true <;> simp [List.filter, h]
theorem selTo_le (p : Nat → Bool) (k : Nat) : (selTo p k).length ≤ k := by
  unfold selTo
  rw [List.length_map]
  exact Nat.le_trans (List.length_filter_le _ _) (by rw [List.length_range]; exact Nat.le_refl _)
theorem selTo_prefix (p : Nat → Bool) (k : Nat) : ∀ d, selTo p k <+: selTo p (k + d)
  | 0 => List.prefix_refl _
  | d + 1 => by
    rw [show k + (d + 1) = (k + d) + 1 by omega, selTo_step]
    exact (selTo_prefix p k d).trans (List.prefix_append _ _)
theorem selTo_at {p : Nat → Bool} {k n : Nat} (hk : k < n) (h : p k = true) : (selTo p k).length < (selTo p n).length ∧ (selTo p n).getD (selTo p k).length 0 = k := by
  have hp := selTo_prefix p (k + 1) (n - (k + 1))
  rw [show k + 1 + (n - (k + 1)) = n by omega, selTo_step, if_pos h] at hp
  obtain ⟨t, ht⟩ := hp
  rw [← ht]
  refine ⟨by simp, ?_⟩
  rw [List.getD_eq_getElem?_getD]
  simp
theorem selTo_mem {p : Nat → Bool} {k : Nat} {z : Int} : z ∈ selTo p k ↔ ∃ j : Nat, z = j ∧ j < k ∧ p j = true := by
  unfold selTo
  rw [List.mem_map]
  constructor
  · rintro ⟨j, hj, rfl⟩
    rw [List.mem_filter, List.mem_range] at hj
    exact ⟨j, rfl, hj.1, hj.2⟩
  · rintro ⟨j, rfl, h1, h2⟩
    exact ⟨j, by rw [List.mem_filter, List.mem_range]; exact ⟨h1, h2⟩, rfl⟩
theorem selTo_idx {p : Nat → Bool} {k n : Nat} (hk : k < n) (h : p k = true) : idxI k (selTo p n) = (selTo p k).length := by
  obtain ⟨h1, h2⟩ := selTo_at hk h
  refine idxI_hit h1 h2 fun j hj => ?_
  have hpre := selTo_prefix p k (n - k)
  rw [show k + (n - k) = n by omega] at hpre
  obtain ⟨t, ht⟩ := hpre
  rw [← ht, List.getD_eq_getElem?_getD, List.getElem?_append_left hj, List.getElem?_eq_getElem hj]
  intro e
  have hm : (selTo p k)[j] ∈ selTo p k := List.getElem_mem hj
  simp only [Option.getD_some] at e
  rw [e] at hm
  obtain ⟨j', e', hlt, _⟩ := selTo_mem.1 hm
  omega
theorem idx_sel (p : Nd → Bool) (l : List Nd) : idx p l = selTo (fun k => p (l.getD k nd0)) l.length := rfl
theorem idx_sel_take (p : Nd → Bool) (l : List Nd) (k : Nat) (hk : k ≤ l.length) : idx p (l.take k) = selTo (fun k => p (l.getD k nd0)) k := by
  unfold idx selTo
  rw [List.length_take, Nat.min_eq_left hk]
  congr 1
  apply List.filter_congr
  intro j hj
  rw [List.mem_range] at hj
  rw [List.getD_eq_getElem?_getD, List.getD_eq_getElem?_getD, List.getElem?_take, if_pos hj]
/-- What is found above is of that kind. -/
theorem up_is {l : List Nd} (ht : Tall l) (kind : Int) : ∀ (f : Nat) (i : Int), 0 ≤ i → i < l.length → (ndAt l i).kind ≤ f → 0 ≤ up l kind i → up l kind i < l.length ∧ (ndAt l (up l kind i)).kind = kind
  | 0, i, h0, h1, hk, _ => by
    have := (tall_head ht i.toNat (by omega)).kind0
    rw [← ndAt_in h0] at this
    omega
  | f + 1, i, h0, h1, hk, hu => by
    by_cases hi : (ndAt l i).kind = kind
    · rw [up_hit l kind i h0 h1 hi]; exact ⟨h1, hi⟩
    · rw [up_step l (tall_rises ht) kind i h0 h1 hi] at hu ⊢
      have hd := tall_head ht i.toNat (by omega)
      rw [← ndAt_in h0] at hd
      by_cases h2 : 1 < (ndAt l i).kind
      · have hb := tall_below ht i.toNat (by omega) (by rw [← ndAt_in h0]; exact h2)
        rw [← ndAt_in h0] at hb
        exact up_is ht kind f _ hb.1 (by omega) (by omega) hu
      · have := (hd.level (by have := hd.kind0; omega)).2
        rw [this, up_out l kind (-1) (by omega)] at hu
        omega
/-- The number of the level of a host. -/
def lev (l : List Nd) (h : Int) : Int := idxI (up l 1 h) (idx (isK 1) l)
theorem lev_host {l : List Nd} (ht : Tall l) {h : Nat} (hh : h < l.length) : ∃ i : Nat, up l 1 h = i ∧ i < l.length ∧ (l.getD i nd0).kind = 1 ∧ lev l h = (selTo (fun k => isK 1 (l.getD k nd0)) i).length ∧ (selTo (fun k => isK 1 (l.getD k nd0)) i).length < (idx (isK 1) l).length := by
  have k1 := (tall_head ht h hh).kind1
  have hu := up_level ht 4 h (by omega) (by omega) (by rw [ndAt_nat]; exact k1)
  obtain ⟨i, hi⟩ : ∃ i : Nat, up l 1 h = i := ⟨(up l 1 h).toNat, by omega⟩
  have hin : i < l.length ∧ (l.getD i nd0).kind = 1 := by
    have := up_is ht 1 4 h (by omega) (by omega) (by rw [ndAt_nat]; exact k1) (by rw [hi]; omega)
    rw [hi, ndAt_nat] at this
    exact ⟨by omega, this.2⟩
  have hp : isK 1 (l.getD i nd0) = true := by unfold isK; rw [hin.2]; rfl
  refine ⟨i, hi, hin.1, hin.2, ?_, ?_⟩
  · unfold lev; rw [hi, idx_sel]
    exact selTo_idx (p := fun k => isK 1 (l.getD k nd0)) hin.1 hp
  · rw [idx_sel]
    exact (selTo_at (p := fun k => isK 1 (l.getD k nd0)) hin.1 hp).1
end Go.Proofs.Ytdkijmiflommeaa
