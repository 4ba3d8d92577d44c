/- Copies of rows; places in them. -/
import Derived.Test.YtdkijmiflommeaaTreeH
set_option linter.unusedVariables false
namespace Go.Proofs.Ytdkijmiflommeaa
open Go.RowKit
set_option maxHeartbeats 4000000
set_option maxRecDepth 100000
theorem own_nodes {w : World} {base : Nat} {v : Value} {n : Nat} {l : List Nd} (h : w.ownsRow base 34 7 v n (flat l)) (hwf : ∀ x ∈ l, x.Wf) (hr : n ≤ 8796093021952) :
    ∃ A c, v = .slice A n c ∧ IsNodes w A n c l ∧ (∀ ad, A = some ad → base ≤ ad.block) := by
  have hlen : l.length = n := by have := h.1; rw [flat_len] at this; omega
  rcases h.2 with ⟨rfl, rfl⟩ | ⟨g, cap, cur, rfl, hb, hh, hnc, hcm, hsz, htk⟩
  · have : l = [] := List.eq_nil_of_length_eq_zero hlen
    subst this
    exact ⟨none, 0, rfl, isNodes_nil w, fun ad h => (by cases h)⟩
  · refine ⟨some ⟨g, 0, none⟩, cap, rfl, ⟨⟨by rw [flat_len, hlen], fun hn => ⟨_, rfl, (Array.getElem?_eq_some_iff.1 hh).1, h.cells (g := g) rfl⟩⟩, hlen, hnc, by unfold maxLen at hcm; omega, hr, hwf⟩, fun ad h => by cases h; exact hb⟩
theorem nil_len {w : World} {B size n : Nat} {xs : List Value} (h : Reads w B size none n xs) : n = 0 := by
  rcases Nat.eq_zero_or_pos n with h0 | h0
  · exact h0
  · obtain ⟨ad, e, _⟩ := h.2 h0
    cases e
theorem clone_ints (A : Option Addr) (n c : Nat) (l : List Int) (w : World) (hl : IsList w .i64 A n c l) :
    Calls Try.prog 61 #[.slice A n c] w fun e w' => ∃ A' c', e = .returned (.slice A' n c') ∧ IsList w' .i64 A' n c' l ∧ (∀ ad, A' = some ad → w.heap.size ≤ ad.block) ∧ Below w.heap.size w w' := by
  have hlen := hl.len
  have hrc := hl.reach
  have hwf := hl.wf
  obtain ⟨iI, hiI, hzI, hzI1, hzI2⟩ := info_parts Try.infoI
  have q22 : ∀ (w : World) (a : Option Addr) (n c n' c' : Nat), (binOp .eql 40 (.slice a n c) (.slice none n' c')).run Try.prog w = .ok (.bool a.isNone) w := fun w a n c n' c' => Lib.run_eql_slice_nil w _ _ a n c n' c' Try.underlying40
  cases A with
  | none =>
    obtain rfl := nil_len hl.reads
    obtain rfl := List.eq_nil_of_length_eq_zero hlen
    go_enter Try.func61, Try.ntmps61
    go_wp2
    go_ret
    exact ⟨none, 0, rfl, isList_nil _ _, fun ad h => (by cases h), Below.refl _ _⟩
  | some ad =>
    have hR := hl.reads.alloc (Nat.le_refl _) (.cells #[] 3)
    go_enter Try.func61, Try.ntmps61
    go_wp2_with (at_builtin; refine wpList_append_any _ rfl (.tmp 5) (.tmp 6) _ rfl w.heap.size 3 iI _ 1 8 Try.underlying40 hiI hzI hzI1 hzI2 rfl (by decide) _ 0 [] rfl (World.ownsRow_made w #[] 0 (Nat.le_refl _) (Nat.zero_le _) rfl) _ (some ad) n c (ints l) rfl hR (ints_one' l) (by simp only [maxLen]; omega) (by omega) (by simp) ?_; intro v1 w1 hown hg hat)
    obtain ⟨A1, c1, rfl, hI, hb⟩ := own_list (by simpa using hown) hwf hrc
    go_wp2
    go_ret
    exact ⟨A1, c1, by simp, hI, hb, ((Below.refl _ w).alloc (Nat.le_refl _) _).grown hg (by simp) (by intro k hk; cases hk; exact Nat.le_refl _)⟩
theorem flat_one (l : List Nd) : ∀ u ∈ flat l, u.oneCell' = true := by
  intro u hu
  obtain ⟨x, _, hx⟩ := List.mem_flatMap.1 hu
  exact cells_one x u hx
theorem clone_nodes (A : Option Addr) (n c : Nat) (l : List Nd) (w : World) (hl : IsNodes w A n c l) (hn6 : n ≤ 1000000) :
    Calls Try.prog 60 #[.slice A n c] w fun e w' => ∃ A' c', e = .returned (.slice A' n c') ∧ IsNodes w' A' n c' l ∧ (∀ ad, A' = some ad → w.heap.size ≤ ad.block) ∧ Below w.heap.size w w' := by
  have hlen := hl.len
  have hrc := hl.reach
  have hwf := hl.wf
  obtain ⟨iI, hiI, hzI, hzI1, hzI2⟩ := info_parts Try.infoNode
  have q22 : ∀ (w : World) (a : Option Addr) (n c n' c' : Nat), (binOp .eql 22 (.slice a n c) (.slice none n' c')).run Try.prog w = .ok (.bool a.isNone) w := fun w a n c n' c' => Lib.run_eql_slice_nil w _ _ a n c n' c' Try.underlying22
  cases A with
  | none =>
    obtain rfl := nil_len hl.reads
    obtain rfl := List.eq_nil_of_length_eq_zero hlen
    go_enter Try.func60, Try.ntmps60
    go_wp2
    go_ret
    exact ⟨none, 0, rfl, isNodes_nil _, fun ad h => (by cases h), Below.refl _ _⟩
  | some ad =>
    have hR := hl.reads.alloc (Nat.le_refl _) (.cells #[] 34)
    go_enter Try.func60, Try.ntmps60
    go_wp2_with (at_builtin; refine wpList_append_any _ rfl (.tmp 5) (.tmp 6) _ rfl w.heap.size 34 iI _ 7 64 Try.underlying22 hiI hzI hzI1 hzI2 rfl (by decide) _ 0 [] rfl (World.ownsRow_made w #[] 0 (Nat.le_refl _) (Nat.zero_le _) rfl) _ (some ad) n c (flat l) rfl hR (flat_one l) (by simp only [maxLen]; omega) (by omega) (by simp) ?_; intro v1 w1 hown hg hat)
    obtain ⟨A1, c1, rfl, hI, hb⟩ := own_nodes (by simpa using hown) hwf hrc
    go_wp2
    go_ret
    exact ⟨A1, c1, by simp, hI, hb, ((Below.refl _ w).alloc (Nat.le_refl _) _).grown hg (by simp) (by intro k hk; cases hk; exact Nat.le_refl _)⟩
end Go.Proofs.Ytdkijmiflommeaa
