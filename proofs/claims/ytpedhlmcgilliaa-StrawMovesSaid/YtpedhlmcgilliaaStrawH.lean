/- Items as a row of cells, and a row whose one item is turned. -/
import Derived.Test.YtpedhlmcgilliaaStrawG
import Derived.Test.YtpedhlmcgilliaaAppendAny
set_option linter.unusedVariables false
namespace Go.Proofs.Ytpedhlmcgilliaa
open Go.RowKit
set_option maxHeartbeats 2000000
set_option maxRecDepth 100000
def flatP (l : List (Int × Int)) : List Value := l.flatMap fun p => [.int .u64 p.1, .int .u64 p.2]
theorem flatP_len : ∀ l : List (Int × Int), (flatP l).length = l.length * 2
  | [] => rfl
  | x :: l => by
    have := flatP_len l
    simp only [flatP, List.flatMap_cons, List.length_append, List.length_cons, List.length_nil] at this ⊢
    omega
theorem flatP_at : ∀ (l : List (Int × Int)) (i j : Nat), j < 2 → (flatP l)[i * 2 + j]? = (l[i]?).bind fun p => [Value.int .u64 p.1, Value.int .u64 p.2][j]?
  | [], i, j, _ => by simp [flatP]
  | x :: l, 0, j, h => by
    simp only [flatP, List.flatMap_cons, Nat.zero_mul, Nat.zero_add, List.getElem?_cons_zero, Option.bind_some]
    rw [List.getElem?_append_left (by simpa using h)]
  | x :: l, i + 1, j, h => by
    have := flatP_at l i j h
    simp only [flatP, List.flatMap_cons] at this ⊢
    rw [List.getElem?_append_right (by simp; omega), List.getElem?_cons_succ, ← this]
    congr 1
    simp
    omega
theorem flatP_one (l : List (Int × Int)) : ∀ u ∈ flatP l, u.oneCell' = true := by
  intro u hu
  simp only [flatP, List.mem_flatMap] at hu
  obtain ⟨p, _, hu⟩ := hu
  simp at hu
  rcases hu with rfl | rfl <;> rfl
theorem IsPairs.reads2 {w : World} {A : Option Addr} {n c : Nat} {l : List (Int × Int)} (h : IsPairs w .u64 .u64 A n c l) : Reads w w.heap.size 2 A n (flatP l) :=
  ⟨by rw [flatP_len, h.len], fun hn => by
    obtain ⟨ad, ha, hb, hc⟩ := h.cells hn
    refine ⟨ad, ha, hb, fun j u hu => ?_⟩
    have e : j = j / 2 * 2 + j % 2 := by omega
    rw [e, flatP_at _ _ _ (by omega)] at hu
    obtain ⟨p, hp, hu⟩ := Option.bind_eq_some_iff.1 hu
    obtain ⟨c0, c1⟩ := hc _ p hp
    rcases (by omega : j % 2 = 0 ∨ j % 2 = 1) with h0 | h0
    · rw [h0] at hu
      rw [e, h0, Nat.add_zero, c0]; exact hu
    · rw [h0] at hu
      rw [e, h0, c1]; exact hu⟩
theorem own_pairs {w : World} {base : Nat} {e : TypeId} {g n c : Nat} {l : List (Int × Int)} (h : w.ownsRow base e 2 (.slice (some ⟨g, 0, none⟩) n c) n (flatP l)) (hl : l.length = n) (hc : n ≤ c) (hs : c ≤ 9223372036854775807) (hlt : g < w.heap.size)
    (hwf : ∀ p ∈ l, (Lit.int .u64 p.1).wf = true ∧ (Lit.int .u64 p.2).wf = true) (hr : n ≤ 8796093021952) : IsPairs w .u64 .u64 (some ⟨g, 0, none⟩) n c l where
  len := hl
  cap := hc
  small := hs
  reach := hr
  wf := hwf
  cells := fun hn => ⟨_, rfl, hlt, fun i p hp => by
    have h0 := h.cells (g := g) rfl (i * 2 + 0) (.int .u64 p.1) (by rw [flatP_at _ _ _ (by omega), hp]; rfl)
    have h1 := h.cells (g := g) rfl (i * 2 + 1) (.int .u64 p.2) (by rw [flatP_at _ _ _ (by omega), hp]; rfl)
    exact ⟨h0, h1⟩⟩
theorem add_off0 (g j : Nat) : (⟨g, 0, none⟩ : Addr).add j = ⟨g, j, none⟩ := by unfold Addr.add; split <;> simp_all
theorem own_cap {w : World} {base : Nat} {e : TypeId} {size g n c : Nat} {xs : List Value} (h : w.ownsRow base e size (.slice (some ⟨g, 0, none⟩) n c) n xs) : n ≤ c ∧ c ≤ 9223372036854775807 := by
  rcases h.2 with ⟨h', _⟩ | ⟨g', cap', cur, h', _, _, hc, hm, _⟩
  · simp at h'
  · simp at h'
    obtain ⟨_, rfl⟩ := h'
    exact ⟨hc, by unfold maxLen at hm; omega⟩
theorem IsPairs.turn {w w' : World} {g n c k : Nat} {l : List (Int × Int)} {a b : Int} (h : IsPairs w .u64 .u64 (some ⟨g, 0, none⟩) n c l) (hk : k < n) (ha : (Lit.int .u64 a).wf = true) (hb : (Lit.int .u64 b).wf = true) (hz : w.heap.size ≤ w'.heap.size)
    (h0 : w'.cell? ⟨g, k * 2, none⟩ = some (.int .u64 a)) (h1 : w'.cell? ⟨g, k * 2 + 1, none⟩ = some (.int .u64 b)) (hoth : ∀ j, j ≠ k * 2 → j ≠ k * 2 + 1 → w'.cell? ⟨g, j, none⟩ = w.cell? ⟨g, j, none⟩) :
    IsPairs w' .u64 .u64 (some ⟨g, 0, none⟩) n c (l.set k (a, b)) where
  len := by rw [List.length_set, h.len]
  cap := h.cap
  small := h.small
  reach := h.reach
  wf := fun p hp => by
    rcases List.mem_or_eq_of_mem_set hp with h1 | h1
    · exact h.wf p h1
    · subst h1; exact ⟨ha, hb⟩
  cells := fun hn => by
    obtain ⟨ad, e, hlt, hc⟩ := h.cells hn
    obtain rfl := Option.some.inj e
    refine ⟨_, rfl, Nat.lt_of_lt_of_le hlt hz, fun i p hp => ?_⟩
    have ea : ∀ j : Nat, ((⟨g, 0, none⟩ : Addr).add j) = ⟨g, j, none⟩ := fun j => by unfold Addr.add; split <;> simp_all
    rw [ea, ea]
    rw [List.getElem?_set] at hp
    by_cases hik : k = i
    · subst hik
      rw [if_pos rfl, if_pos (by rw [h.len]; exact hk)] at hp
      obtain rfl := Option.some.inj hp
      exact ⟨h0, h1⟩
    · rw [if_neg hik] at hp
      have := hc i p hp
      rw [ea, ea] at this
      exact ⟨(hoth _ (by omega) (by omega)).trans this.1, (hoth _ (by omega) (by omega)).trans this.2⟩
theorem set_getD (l : List (Int × Int)) (k : Nat) (p : Int × Int) (hk : k < l.length) (i : Nat) : (l.set k p).getD i (0, 0) = if i = k then p else l.getD i (0, 0) := by
  rw [List.getD_eq_getElem?_getD, List.getElem?_set]
  by_cases h : k = i
  · subst h; simp [hk]
  · rw [if_neg h, if_neg (fun e => h e.symm), List.getD_eq_getElem?_getD]
end Go.Proofs.Ytpedhlmcgilliaa
