/- A histogram in memory; Add. -/
import Derived.Test.YtpedhlmcgilliaaHistB
import Derived.Test.YtpedhlmcgilliaaHistPlain
import Derived.Test.YtpedhlmcgilliaaLists
import Derived.Test.YtpedhlmcgilliaaWideF
import Derived.Deep.RegionWith
import Derived.RegionTactic
set_option linter.unusedVariables false
namespace Go.Proofs.Ytpedhlmcgilliaa
open Go.RowKit
set_option maxHeartbeats 2000000
set_option maxRecDepth 100000
/-- A histogram at b: its counts, how many, their sum, the least and the most. -/
def HistIs (w : World) (b : Nat) (cnt : Nat → Int) (n hi lo least most : Int) : Prop :=
  ∃ cs : Array Value, Blk w b 80 cs ∧ cs.size = 70 ∧ (∀ k, k < 65 → cs[k]? = some (.int .u64 (cnt k))) ∧ cs[65]? = some (.int .u64 n) ∧ cs[66]? = some (.int .u64 hi) ∧ cs[67]? = some (.int .u64 lo) ∧ cs[68]? = some (.int .u64 least) ∧ cs[69]? = some (.int .u64 most)
section
variable {w w' : World} {b : Nat} {cnt : Nat → Int} {n hi lo least most : Int}
theorem HistIs.lt (h : HistIs w b cnt n hi lo least most) : b < w.heap.size := by obtain ⟨cs, h, _⟩ := h; exact h.lt
theorem HistIs.cellAt (h : HistIs w b cnt n hi lo least most) {k : Nat} (hk : k < 65) : w.cell? ⟨b, k, none⟩ = some (.int .u64 (cnt k)) := by obtain ⟨cs, h, _, hc, _⟩ := h; exact (h.cell k).trans (hc k hk)
theorem HistIs.cells (h : HistIs w b cnt n hi lo least most) : w.cell? ⟨b, 65, none⟩ = some (.int .u64 n) ∧ w.cell? ⟨b, 66, none⟩ = some (.int .u64 hi) ∧ w.cell? ⟨b, 67, none⟩ = some (.int .u64 lo) ∧ w.cell? ⟨b, 68, none⟩ = some (.int .u64 least) ∧ w.cell? ⟨b, 69, none⟩ = some (.int .u64 most) := by
  obtain ⟨cs, h, _, _, h5, h6, h7, h8, h9⟩ := h
  exact ⟨(h.cell _).trans h5, (h.cell _).trans h6, (h.cell _).trans h7, (h.cell _).trans h8, (h.cell _).trans h9⟩
theorem HistIs.free (h : HistIs w b cnt n hi lo least most) (k : Nat) : w.frozen? ⟨b, k, none⟩ = false := by obtain ⟨cs, h, _⟩ := h; exact h.free k
theorem HistIs.keep (h : HistIs w b cnt n hi lo least most) (hx : Below w.heap.size w w') : HistIs w' b cnt n hi lo least most := by obtain ⟨cs, h, r⟩ := h; exact ⟨cs, h.keep hx, r⟩
theorem HistIs.alloc (h : HistIs w b cnt n hi lo least most) (o : Obj) : HistIs (w.alloc o) b cnt n hi lo least most := by obtain ⟨cs, h, r⟩ := h; exact ⟨cs, h.alloc o, r⟩
theorem HistIs.drewN (h : HistIs w b cnt n hi lo least most) (m : Nat) : HistIs (w.drewN m) b cnt n hi lo least most := by obtain ⟨cs, h, r⟩ := h; exact ⟨cs, h.drewN m, r⟩
theorem HistIs.mod {S : Nat → Prop} (h : HistIs w b cnt n hi lo least most) (hm : Mod S w w') (hn : ¬ S b) : HistIs w' b cnt n hi lo least most := by obtain ⟨cs, h, r⟩ := h; exact ⟨cs, h.mod hm hn, r⟩
theorem setI {cs : Array Value} {i : Nat} (hi : i < cs.size) (u : Value) (j : Nat) : (cs.setIfInBounds i u)[j]? = if j = i then some u else cs[j]? := by
  rw [Array.getElem?_setIfInBounds]
  by_cases h : i = j
  · subst h; simp [hi]
  · rw [if_neg h, if_neg (fun e => h e.symm)]
theorem HistIs.setCnt (h : HistIs w b cnt n hi lo least most) {k : Nat} (hk : k < 65) (z : Int) : HistIs (w.setCell ⟨b, k, none⟩ (.int .u64 z)) b (fun j => if j = k then z else cnt j) n hi lo least most := by
  obtain ⟨cs, h, hs, hc, h5, h6, h7, h8, h9⟩ := h
  refine ⟨_, h.set_ k _, by simpa using hs, fun j hj => ?_, ?_, ?_, ?_, ?_, ?_⟩
  · rw [setI (by omega)]
    by_cases e : j = k
    · simp [e]
    · simp [e, hc j hj]
  all_goals rw [setI (by omega), if_neg (by omega)]; assumption
theorem HistIs.setN (h : HistIs w b cnt n hi lo least most) (z : Int) : HistIs (w.setCell ⟨b, 65, none⟩ (.int .u64 z)) b cnt z hi lo least most := by
  obtain ⟨cs, h, hs, hc, h5, h6, h7, h8, h9⟩ := h
  refine ⟨_, h.set_ 65 _, by simpa using hs, fun j hj => ?_, ?_, ?_, ?_, ?_, ?_⟩
  · rw [setI (by omega), if_neg (by omega), hc j hj]
  · rw [setI (by omega), if_pos rfl]
  all_goals rw [setI (by omega), if_neg (by omega)]; assumption
theorem HistIs.setHi (h : HistIs w b cnt n hi lo least most) (z : Int) : HistIs (w.setCell ⟨b, 66, none⟩ (.int .u64 z)) b cnt n z lo least most := by
  obtain ⟨cs, h, hs, hc, h5, h6, h7, h8, h9⟩ := h
  refine ⟨_, h.set_ 66 _, by simpa using hs, fun j hj => ?_, ?_, ?_, ?_, ?_, ?_⟩
  · rw [setI (by omega), if_neg (by omega), hc j hj]
  · rw [setI (by omega), if_neg (by omega)]; assumption
  · rw [setI (by omega), if_pos rfl]
  all_goals rw [setI (by omega), if_neg (by omega)]; assumption
theorem HistIs.setLo (h : HistIs w b cnt n hi lo least most) (z : Int) : HistIs (w.setCell ⟨b, 67, none⟩ (.int .u64 z)) b cnt n hi z least most := by
  obtain ⟨cs, h, hs, hc, h5, h6, h7, h8, h9⟩ := h
  refine ⟨_, h.set_ 67 _, by simpa using hs, fun j hj => ?_, ?_, ?_, ?_, ?_, ?_⟩
  · rw [setI (by omega), if_neg (by omega), hc j hj]
  · rw [setI (by omega), if_neg (by omega)]; assumption
  · rw [setI (by omega), if_neg (by omega)]; assumption
  · rw [setI (by omega), if_pos rfl]
  all_goals rw [setI (by omega), if_neg (by omega)]; assumption
theorem HistIs.setLeast (h : HistIs w b cnt n hi lo least most) (z : Int) : HistIs (w.setCell ⟨b, 68, none⟩ (.int .u64 z)) b cnt n hi lo z most := by
  obtain ⟨cs, h, hs, hc, h5, h6, h7, h8, h9⟩ := h
  refine ⟨_, h.set_ 68 _, by simpa using hs, fun j hj => ?_, ?_, ?_, ?_, ?_, ?_⟩
  · rw [setI (by omega), if_neg (by omega), hc j hj]
  · rw [setI (by omega), if_neg (by omega)]; assumption
  · rw [setI (by omega), if_neg (by omega)]; assumption
  · rw [setI (by omega), if_neg (by omega)]; assumption
  · rw [setI (by omega), if_pos rfl]
  all_goals rw [setI (by omega), if_neg (by omega)]; assumption
theorem HistIs.setMost (h : HistIs w b cnt n hi lo least most) (z : Int) : HistIs (w.setCell ⟨b, 69, none⟩ (.int .u64 z)) b cnt n hi lo least z := by
  obtain ⟨cs, h, hs, hc, h5, h6, h7, h8, h9⟩ := h
  refine ⟨_, h.set_ 69 _, by simpa using hs, fun j hj => ?_, ?_, ?_, ?_, ?_, ?_⟩
  · rw [setI (by omega), if_neg (by omega), hc j hj]
  · rw [setI (by omega), if_neg (by omega)]; assumption
  · rw [setI (by omega), if_neg (by omega)]; assumption
  · rw [setI (by omega), if_neg (by omega)]; assumption
  · rw [setI (by omega), if_neg (by omega)]; assumption
  · rw [setI (by omega), if_pos rfl]
end
/-- How many of the first m numbers have k bits. -/
def hcnt (l : List Int) (k : Nat) : Nat → Int
  | 0 => 0
  | m + 1 => hcnt l k m + if Lib.bitLen (l.getD m 0).toNat = k then 1 else 0
def hleast (l : List Int) : Nat → Int
  | 0 => 0
  | m + 1 => if m = 0 ∨ l.getD m 0 < hleast l m then l.getD m 0 else hleast l m
def hmost (l : List Int) : Nat → Int
  | 0 => 0
  | m + 1 => max (hmost l m) (l.getD m 0)
theorem hcnt_bd (l : List Int) (k : Nat) : ∀ m, 0 ≤ hcnt l k m ∧ hcnt l k m ≤ m
  | 0 => by simp [hcnt]
  | m + 1 => by
    have := hcnt_bd l k m
    rw [hcnt]
    split <;> omega
end Go.Proofs.Ytpedhlmcgilliaa
