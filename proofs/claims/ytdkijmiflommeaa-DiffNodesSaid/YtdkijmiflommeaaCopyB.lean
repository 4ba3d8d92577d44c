/- The first place of a row at which something is so. -/
import Derived.Test.YtdkijmiflommeaaCopy
set_option linter.unusedVariables false
namespace Go.Proofs.Ytdkijmiflommeaa
open Go.RowKit
set_option maxHeartbeats 4000000
set_option maxRecDepth 100000
/-- The first place at which something is so; -1: nowhere. -/
def idxF (p : Nd → Bool) (l : List Nd) : Int := match l.findIdx? p with
  | some k => k
  | none => -1
theorem idxF_hit {p : Nd → Bool} {l : List Nd} {k : Nat} (hk : k < l.length) (h : p (l.getD k nd0) = true) (hn : ∀ j, j < k → p (l.getD j nd0) = false) : idxF p l = k := by
  have e : ∀ j (hj : j < l.length), l.getD j nd0 = l[j] := fun j hj => by rw [List.getD_eq_getElem?_getD, List.getElem?_eq_getElem hj]; rfl
  have : l.findIdx? p = some k := by
    rw [List.findIdx?_eq_some_iff_getElem]
    refine ⟨hk, ?_, fun j hj => ?_⟩
    · rw [← e k hk]; exact h
    · rw [← e j (by omega), hn j hj]; simp
  unfold idxF
  rw [this]
theorem idxF_miss {p : Nd → Bool} {l : List Nd} (hn : ∀ j, j < l.length → p (l.getD j nd0) = false) : idxF p l = -1 := by
  have e : ∀ j (hj : j < l.length), l.getD j nd0 = l[j] := fun j hj => by rw [List.getD_eq_getElem?_getD, List.getElem?_eq_getElem hj]; rfl
  have : l.findIdx? p = none := by
    rw [List.findIdx?_eq_none_iff]
    intro x hx
    obtain ⟨j, hj, rfl⟩ := List.getElem_of_mem hx
    rw [← e j hj]
    exact hn j hj
  unfold idxF
  rw [this]
/-- The first place of a number. -/
def idxI (z : Int) (l : List Int) : Int := match l.findIdx? (fun x => x == z) with
  | some k => k
  | none => -1
theorem idxI_hit {z : Int} {l : List Int} {k : Nat} (hk : k < l.length) (h : l.getD k 0 = z) (hn : ∀ j, j < k → ¬ l.getD j 0 = z) : idxI z l = k := by
  have e : ∀ j (hj : j < l.length), l.getD j 0 = l[j] := fun j hj => by rw [List.getD_eq_getElem?_getD, List.getElem?_eq_getElem hj]; rfl
  have : l.findIdx? (fun x => x == z) = some k := by
    rw [List.findIdx?_eq_some_iff_getElem]
    refine ⟨hk, ?_, fun j hj => ?_⟩
    · rw [← e k hk, h]; simp
    · rw [← e j (by omega)]; simpa using hn j hj
  unfold idxI
  rw [this]
theorem idxI_miss {z : Int} {l : List Int} (hn : ∀ j, j < l.length → ¬ l.getD j 0 = z) : idxI z l = -1 := by
  have e : ∀ j (hj : j < l.length), l.getD j 0 = l[j] := fun j hj => by rw [List.getD_eq_getElem?_getD, List.getElem?_eq_getElem hj]; rfl
  have : l.findIdx? (fun x => x == z) = none := by
    rw [List.findIdx?_eq_none_iff]
    intro x hx
    obtain ⟨j, hj, rfl⟩ := List.getElem_of_mem hx
    rw [← e j hj]
    simpa using hn j hj
  unfold idxI
  rw [this]
/-- What is asked of a function that tells of a node: it may make memory, and turns nothing. -/
def Asks (g : FuncId) (lb : Array Value) (p : Nd → Bool) (w : World) : Prop :=
  (∀ args w, (callFunc g args).run Try.prog w = .ok (.enter g args) w) ∧
  ∀ (W : World) (x : Nd), x.Wf → Below w.heap.size w W → Calls Try.prog g (#[x.val] ++ lb) W fun e w' => e = .returned (.bool (p x)) ∧ Below W.heap.size W w'
theorem indexFunc_nodes (g : FuncId) (lb : Array Value) (p : Nd → Bool) (A : Option Addr) (n c : Nat) (l : List Nd) (w : World) (hl : IsNodes w A n c l) (hp : Asks g lb p w) :
    Calls Try.prog 62 #[.slice A n c, .func (.func g) #[] lb] w fun e w' => e = .returned (.int .i64 (idxF p l)) ∧ Below w.heap.size w w' := by
  have hlen := Lib.hid hl.len
  have hcap := hl.cap
  have hsm := hl.small
  obtain ⟨eg, hpp⟩ := hp
  go_enter Try.func62, Try.ntmps62
  go_wp2
  go_loopg [5, 8] n (fun gg _ s8 wr => ∃ k : Nat, k ≤ n ∧ gg = n - k ∧ s8 = .int .i64 k ∧ Below w.heap.size w wr ∧ Hid (∀ j, j < k → p (l.getD j nd0) = false))
  case atStart => exact ⟨0, Nat.zero_le _, rfl, rfl, Below.refl _ _, Lib.hid (fun j hj => absurd hj (Nat.not_lt_zero _))⟩
  case round =>
    obtain ⟨k, hk, rfl, rfl, hW, HN⟩ := hrel
    by_cases hkn : k < n
    · obtain ⟨ad, rfl, hbk, d0, d1, d2, d3, d4, d5, d6⟩ := (hl.keep hW).at_ hkn
      have hki : (k : Int) < (n : Int) := by omega
      have hxw := hl.wfd k
      have hcall := hpp wr (l.getD k nd0) hxw hW
      clear hpp
      have HH := Lib.hid (fun h => idxF_hit (p := p) (l := l) (k := k) (by rw [hlen.out]; exact hkn) h HN.out)
      have HM := Lib.hid (show p (l.getD k nd0) = false → ∀ j, j < k + 1 → p (l.getD j nd0) = false from fun (h : p (l.getD k nd0) = false) (j : Nat) (hj : j < k + 1) => show p (l.getD j nd0) = false from (by
        by_cases e : j = k
        · rw [e]; exact h
        · exact HN.out j (by omega)))
      unfold Nd.val at hcall
      generalize l.getD k nd0 = x at *
      generalize p x = b at *
      cases b with
      | true =>
        go_wp2_with fail
        refine hcall.mono ?_; rintro e w' ⟨rfl, hb'⟩
        go_wp2
        go_ret
        exact ⟨by rw [HH.out (by trivial)]; rfl, below_step hW hb'⟩
      | false =>
        go_wp2_with fail
        refine hcall.mono ?_; rintro e w' ⟨rfl, hb'⟩
        go_wp2
        go_roundg (n - (k + 1))
        case measure => omega
        case rel => exact ⟨k + 1, by omega, rfl, by go_num, below_step hW hb', Lib.hid (HM.out (by trivial))⟩
    · obtain rfl : k = n := by omega
      have HM := Lib.hid (idxF_miss (p := p) (l := l) (fun j hj => HN.out j (by rw [← hlen.out]; exact hj)))
      go_wp2
      go_ret
      exact ⟨by rw [HM.out]; rfl, hW⟩
theorem index_ints (A : Option Addr) (n c : Nat) (l : List Int) (z : Int) (w : World) (hl : IsList w .i64 A n c l) :
    Calls Try.prog 64 #[.slice A n c, .int .i64 z] w fun e w' => e = .returned (.int .i64 (idxI z l)) ∧ w = w' := by
  have hlen := Lib.hid hl.len
  have hcap := hl.cap
  have hsm := hl.small
  go_enter Try.func64, Try.ntmps64
  go_wp2
  go_loopg [5, 8] n (fun gg _ s8 wr => ∃ k : Nat, k ≤ n ∧ gg = n - k ∧ s8 = .int .i64 k ∧ w = wr ∧ Hid (∀ j, j < k → ¬ l.getD j 0 = z))
  case atStart => exact ⟨0, Nat.zero_le _, rfl, rfl, rfl, Lib.hid (fun j hj => absurd hj (Nat.not_lt_zero _))⟩
  case round =>
    obtain ⟨k, hk, rfl, rfl, rfl, HN⟩ := hrel
    by_cases hkn : k < n
    · obtain ⟨ad, rfl, hbk, x0, xw⟩ := hl.get hkn
      have hki : (k : Int) < (n : Int) := by omega
      have HH := Lib.hid (show l.getD k 0 = z → idxI z l = k from fun h => idxI_hit (by rw [hlen.out]; exact hkn) h HN.out)
      have HM := Lib.hid (show ¬ l.getD k 0 = z → ∀ j, j < k + 1 → ¬ l.getD j 0 = z from fun h j hj => (by
        by_cases e : j = k
        · rw [e]; exact h
        · exact HN.out j (by omega)))
      generalize l.getD k 0 = x at *
      by_cases hx : x = z
      · have g1 : (z == x) = true := by rw [beq_iff_eq]; exact hx.symm
        have HE := Lib.hid (HH.out hx)
        clear HH HM hx
        go_wp2
        go_ret
        exact ⟨by rw [HE.out]; rfl, rfl⟩
      · have g1 : (z == x) = false := by rw [beq_eq_false_iff_ne]; exact fun h => hx h.symm
        have HE := Lib.hid (HM.out hx)
        clear HH HM hx
        go_wp2
        go_roundg (n - (k + 1))
        case measure => omega
        case rel => exact ⟨k + 1, by omega, rfl, by go_num, rfl, HE⟩
    · obtain rfl : k = n := by omega
      have HM := Lib.hid (idxI_miss (z := z) (l := l) (fun j hj => HN.out j (by rw [← hlen.out]; exact hj)))
      go_wp2
      go_ret
      exact ⟨by rw [HM.out]; rfl, rfl⟩
end Go.Proofs.Ytdkijmiflommeaa
