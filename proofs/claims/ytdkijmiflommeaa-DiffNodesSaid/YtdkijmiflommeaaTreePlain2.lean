/- Nodes above one another, in plain Lean. -/
import Derived.Test.YtdkijmiflommeaaTreeL
set_option linter.unusedVariables false
namespace Go.Proofs.Ytdkijmiflommeaa
open Go.RowKit
theorem ndAt_in {l : List Nd} {i : Int} (h0 : 0 ≤ i) : ndAt l i = l.getD i.toNat nd0 := by unfold ndAt; rw [if_pos h0]
/-- What a node that may stand is like. -/
theorem tall_head {l : List Nd} (h : Tall l) (j : Nat) (hj : j < l.length) : HeadOk (l.getD j nd0) (l.take j) := headC_zero (whyC_ok (h j hj)).1
theorem tall_below {l : List Nd} (h : Tall l) (j : Nat) (hj : j < l.length) (hk : 1 < (l.getD j nd0).kind) :
    0 ≤ (l.getD j nd0).above ∧ (l.getD j nd0).above < j ∧ (ndAt l (l.getD j nd0).above).kind = (l.getD j nd0).kind - 1 := by
  obtain ⟨h0, h1, h2⟩ := (tall_head h j hj).below hk
  rw [List.length_take] at h1
  refine ⟨h0, by omega, ?_⟩
  rw [ndAt_in h0, ← h2]
  generalize (l.getD j nd0).above = a at *
  rw [List.getD_eq_getElem?_getD, List.getD_eq_getElem?_getD, List.getElem?_take, if_pos (by omega)]
/-- Four steps are enough. -/
theorem upF_kind {l : List Nd} (h : Tall l) (kind : Int) : ∀ (f : Nat) (i : Int), 0 ≤ i → i < l.length → (ndAt l i).kind ≤ f → upF l kind f i = up l kind i
  | 0, i, h0, h1, hk => by
    have := (tall_head h i.toNat (by omega)).kind0
    rw [← ndAt_in h0] at this
    omega
  | f + 1, i, h0, h1, hk => by
    rw [upF, if_pos ⟨h0, h1⟩]
    by_cases hi : (ndAt l i).kind = kind
    · rw [if_pos hi, up_hit l kind i h0 h1 hi]
    · rw [if_neg hi, up_step l (tall_rises h) kind i h0 h1 hi]
      by_cases h2 : 1 < (ndAt l i).kind
      · have hb := tall_below h i.toNat (by omega) (by rw [← ndAt_in h0]; exact h2)
        rw [← ndAt_in h0] at hb
        exact upF_kind h kind f _ hb.1 (by omega) (by omega)
      · have hd := tall_head h i.toNat (by omega)
        rw [← ndAt_in h0] at hd
        have := (hd.level (by have := hd.kind0; omega)).2
        rw [this, up_out l kind (-1) (by omega)]
        cases f with
        | zero => rfl
        | succ f => rw [upF, if_neg (by omega)]
theorem up_four {l : List Nd} (h : Tall l) (kind i : Int) : upF l kind 4 i = up l kind i := by
  by_cases hi : 0 ≤ i ∧ i < l.length
  · have hd := tall_head h i.toNat (by omega)
    rw [← ndAt_in hi.1] at hd
    exact upF_kind h kind 4 i hi.1 hi.2 hd.kind1
  · rw [upF, if_neg hi, up_out l kind i (by omega)]
/-- Above each node is a level. -/
theorem up_level {l : List Nd} (h : Tall l) : ∀ (f : Nat) (i : Int), 0 ≤ i → i < l.length → (ndAt l i).kind ≤ f → 0 ≤ up l 1 i
  | 0, i, h0, h1, hk => by
    have := (tall_head h i.toNat (by omega)).kind0
    rw [← ndAt_in h0] at this
    omega
  | f + 1, i, h0, h1, hk => by
    by_cases hi : (ndAt l i).kind = 1
    · rw [up_hit l 1 i h0 h1 hi]; exact h0
    · rw [up_step l (tall_rises h) 1 i h0 h1 hi]
      have hd := tall_head h i.toNat (by omega)
      rw [← ndAt_in h0] at hd
      have hk0 := hd.kind0
      have hb := tall_below h i.toNat (by omega) (by rw [← ndAt_in h0]; omega)
      rw [← ndAt_in h0] at hb
      exact up_level h f _ hb.1 (by omega) (by omega)
/-- The places of those of a kind of node, as they are found one by one. -/
theorem idx_take (p : Nd → Bool) (l : List Nd) (k : Nat) (hk : k < l.length) : idx p (l.take (k + 1)) = idx p (l.take k) ++ if p (l.getD k nd0) = true then [(k : Int)] else [] := by
  rw [take_snocN l k hk, idx_snoc, List.length_take, Nat.min_eq_left (by omega)]
theorem idxI_snoc (z : Int) (xs : List Int) (y : Int) : idxI z (xs ++ [y]) = if z ∈ xs then idxI z xs else if y = z then (xs.length : Int) else -1 := by
  by_cases hz : z ∈ xs
  · rw [if_pos hz]
    unfold idxI
    have : xs.findIdx? (fun x => x == z) ≠ none := by
      rw [ne_eq, List.findIdx?_eq_none_iff]
      intro h
      have := h z hz
      simp at this
    rw [List.findIdx?_append]
    cases h : xs.findIdx? (fun x => x == z) with
    | none => exact absurd h this
    | some k => rfl
  · rw [if_neg hz]
    have e : xs.findIdx? (fun x => x == z) = none := by
      rw [List.findIdx?_eq_none_iff]
      intro x hx
      have : x ≠ z := fun e => hz (e ▸ hx)
      simpa using this
    unfold idxI
    rw [List.findIdx?_append, e]
    by_cases hy : y = z
    · rw [if_pos hy]; simp [List.findIdx?_cons, hy]
    · rw [if_neg hy]; simp [List.findIdx?_cons, hy]
theorem idxI_none {z : Int} {xs : List Int} (h : ¬ z ∈ xs) : idxI z xs = -1 := by
  unfold idxI
  have e : xs.findIdx? (fun x => x == z) = none := by
    rw [List.findIdx?_eq_none_iff]
    intro x hx
    have : x ≠ z := fun e => h (e ▸ hx)
    simpa using this
  rw [e]
/-- One more level is looked at. -/
theorem level_step {l : List Nd} (u : Int) (k : Nat) (hk : k < l.length) :
    idxI u (idx (isK 1) (l.take (k + 1))) = if (l.getD k nd0).kind = 1 ∧ u = k then ((idx (isK 1) (l.take k)).length : Int) else idxI u (idx (isK 1) (l.take k)) := by
  have hn : u = k → ¬ u ∈ idx (isK 1) (l.take k) := fun e h => by
    have := (idx_bd _ _ _ h).2
    rw [List.length_take] at this
    omega
  rw [idx_take _ l k hk]
  by_cases h1 : (l.getD k nd0).kind = 1
  · rw [if_pos (by unfold isK; simpa using h1), idxI_snoc]
    by_cases hu : u = k
    · rw [if_neg (hn hu), if_pos hu.symm, if_pos ⟨h1, hu⟩]
    · rw [if_neg (fun h : _ ∧ _ => hu h.2)]
      by_cases hm : u ∈ idx (isK 1) (l.take k)
      · rw [if_pos hm]
      · rw [if_neg hm, if_neg (fun e => hu e.symm), idxI_none hm]
  · rw [if_neg (by unfold isK; simpa using h1), List.append_nil, if_neg (fun h : _ ∧ _ => h1 h.1)]
/-- The hosts below a node, as they are found one by one. -/
def belowTo (l : List Nd) (i : Int) (k : Nat) : List Int := if (ndAt l i).kind = 0 then [] else (idx (isK 4) (l.take k)).filter fun h => up l (ndAt l i).kind h == i
theorem below_step' {l : List Nd} (i : Int) (k : Nat) (hk : k < l.length) : belowTo l i (k + 1) = belowTo l i k ++ if (ndAt l i).kind ≠ 0 ∧ (l.getD k nd0).kind = 4 ∧ up l (ndAt l i).kind k = i then [(k : Int)] else [] := by
  unfold belowTo
  by_cases h0 : (ndAt l i).kind = 0
  · rw [if_pos h0, if_pos h0, if_neg (by rintro ⟨h1, _⟩; exact h1 h0)]; rw [List.append_nil]
  · rw [if_neg h0, if_neg h0, idx_take _ l k hk, List.filter_append]
    congr 1
    unfold isK
    by_cases h4 : (l.getD k nd0).kind = 4
    · rw [if_pos (by simpa using h4)]
      by_cases hu : up l (ndAt l i).kind k = i
      · rw [if_pos ⟨h0, h4, hu⟩]; simp [hu]
      · rw [if_neg (fun h => hu h.2.2)]; simp [hu]
    · rw [if_neg (by simpa using h4), if_neg (fun h => h4 h.2.1)]; rfl
theorem below_all (l : List Nd) (i : Int) : belowTo l i l.length = belowOf l i := by
  unfold belowTo belowOf
  rw [List.take_length]
theorem kind_zero {l : List Nd} (h : Tall l) (i : Int) : (ndAt l i).kind = 0 ↔ (i < 0 ∨ l.length ≤ i) := by
  constructor
  · intro h0
    rcases Int.lt_or_le i 0 with hi | hi
    · exact .inl hi
    · rcases Int.lt_or_le i l.length with h1 | h1
      · have := (tall_head h i.toNat (by omega)).kind0
        rw [← ndAt_in hi] at this
        omega
      · exact .inr h1
  · intro hi
    rw [ndAt_out l i hi]; rfl
theorem level_all {l : List Nd} (i : Int) : (if up l 1 i < 0 then -1 else idxI (up l 1 i) (idx (isK 1) l)) = idxI (up l 1 i) (idx (isK 1) l) := by
  by_cases h : up l 1 i < 0
  · rw [if_pos h, idxI_none (fun hm => by have := (idx_bd _ _ _ hm).1; omega)]
  · rw [if_neg h]
end Go.Proofs.Ytdkijmiflommeaa
