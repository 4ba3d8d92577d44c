/- Which nodes may stand behind which, in plain Lean. -/
import Derived.Test.YtdkijmiflommeaaNodes
set_option linter.unusedVariables false
namespace Go.Proofs.Ytdkijmiflommeaa
def chP (v : Int) : Prop := (97 ≤ v ∧ v ≤ 122) ∨ (65 ≤ v ∧ v ≤ 90) ∨ (48 ≤ v ∧ v ≤ 57) ∨ v = 45 ∨ v = 95 ∨ v = 46
instance (v : Int) : Decidable (chP v) := by unfold chP; infer_instance
def chOk (c : UInt8) : Bool := decide (chP (c.toNat : Int))
def nameOk (s : ByteArray) : Bool := decide (1 ≤ s.size ∧ s.size ≤ 32) && s.data.toList.all chOk
theorem name_short {s : ByteArray} (h : s.size < 1) : nameOk s = false := by
  unfold nameOk
  rw [decide_eq_false (by omega)]; rfl
theorem name_long {s : ByteArray} (h : 32 < s.size) : nameOk s = false := by
  unfold nameOk
  rw [decide_eq_false (by omega)]; rfl
theorem take_at (s : ByteArray) (k : Nat) (h : k < s.size) : s.data.toList.take (k + 1) = s.data.toList.take k ++ [s[k]] := by
  rw [List.take_succ_eq_append_getElem (by simpa using h)]; rfl
theorem all_step {s : ByteArray} {k : Nat} (h : k < s.size) (ha : (s.data.toList.take k).all chOk = true) (hc : chP (s[k].toNat : Int)) : (s.data.toList.take (k + 1)).all chOk = true := by
  rw [take_at s k h, List.all_append, ha]
  simp [chOk, hc]
theorem name_bad {s : ByteArray} {k : Nat} (h : k < s.size) (hc : ¬ chP (s[k].toNat : Int)) : nameOk s = false := by
  unfold nameOk
  rw [Bool.and_eq_false_iff]
  right
  rw [List.all_eq_false]
  refine ⟨s[k], ?_, by simp [chOk, hc]⟩
  have : s[k] = s.data.toList[k]'(by simpa using h) := rfl
  rw [this]
  exact List.getElem_mem _
theorem name_good {s : ByteArray} (h1 : 1 ≤ s.size) (h2 : s.size ≤ 32) (ha : (s.data.toList.take s.size).all chOk = true) : nameOk s = true := by
  unfold nameOk
  rw [List.take_of_length_le (by simp)] at ha
  rw [ha, decide_eq_true ⟨h1, h2⟩]; rfl
def addrOk (six : Bool) (hi lo : Int) : Bool := six || (hi == 0 && decide (lo < 4294967296))
def Nd.addr (x : Nd) : Bool × Int × Int := (x.six, x.hi, x.lo)
def noAddr (x : Nd) : Bool := !x.six && x.hi == 0 && x.lo == 0
def sameAddr (x y : Nd) : Bool := x.six == y.six && x.hi == y.hi && x.lo == y.lo
def sameName (a b : ByteArray) : Bool := a.toList == b.toList
def twice (n y : Nd) : Bool := sameName y.name n.name || (n.kind == 4 && y.kind == 4 && sameAddr y n)
/-- Why a node may not stand behind others, but for those that are like it. -/
def headC (n : Nd) (l : List Nd) : Int :=
  if nameOk n.name = false ∨ n.kind < 1 ∨ 4 < n.kind then 1
  else if n.weight < 0 ∨ 65535 < n.weight ∨ (n.kind = 1 ∧ n.weight ≠ 0) then 17
  else if (n.kind = 1 ∧ n.above ≠ -1) ∨ (1 < n.kind ∧ (n.above < 0 ∨ (l.length : Int) ≤ n.above)) then 16
  else if 1 < n.kind ∧ (l.getD n.above.toNat nd0).kind ≠ n.kind - 1 then 16
  else if addrOk n.six n.hi n.lo = false ∨ (n.kind ≠ 4 ∧ noAddr n = false) then 18
  else 0
def rightC (n : Nd) (l : List Nd) : Int := if headC n l ≠ 0 then headC n l else if l.any (twice n) then 8 else 0
structure HeadOk (x : Nd) (l : List Nd) : Prop where
  name : nameOk x.name = true
  kind0 : 1 ≤ x.kind
  kind1 : x.kind ≤ 4
  weight0 : 0 ≤ x.weight
  weight1 : x.weight ≤ 65535
  level : x.kind = 1 → x.weight = 0 ∧ x.above = -1
  below : 1 < x.kind → 0 ≤ x.above ∧ x.above < l.length ∧ (l.getD x.above.toNat nd0).kind = x.kind - 1
  addr : addrOk x.six x.hi x.lo = true
  plain : x.kind ≠ 4 → x.six = false ∧ x.hi = 0 ∧ x.lo = 0
theorem headC_zero {x : Nd} {l : List Nd} (h : headC x l = 0) : HeadOk x l := by
  unfold headC noAddr at h
  constructor <;> grind
theorem rightC_head {x : Nd} {l : List Nd} (h : headC x l ≠ 0) : rightC x l = headC x l := by unfold rightC; rw [if_pos h]
theorem rightC_twice {x : Nd} {l : List Nd} (h : headC x l = 0) (h2 : l.any (twice x) = true) : rightC x l = 8 := by unfold rightC; rw [if_neg (by omega), if_pos h2]
theorem rightC_zero {x : Nd} {l : List Nd} (h : headC x l = 0) (h2 : l.any (twice x) = false) : rightC x l = 0 := by unfold rightC; rw [if_neg (by omega), h2]; rfl
theorem any_take_step {x : Nd} {l : List Nd} {k : Nat} (hk : k < l.length) (h : (l.take k).any (twice x) = false) (h2 : twice x (l.getD k nd0) = false) : (l.take (k + 1)).any (twice x) = false := by
  rw [List.take_succ_eq_append_getElem hk, List.any_append, h]
  rw [List.getD_eq_getElem?_getD, List.getElem?_eq_getElem hk] at h2
  simpa using h2
theorem any_at {x : Nd} {l : List Nd} {k : Nat} (hk : k < l.length) (h2 : twice x (l.getD k nd0) = true) : l.any (twice x) = true := by
  rw [List.any_eq_true]
  refine ⟨_, List.getElem_mem hk, ?_⟩
  rwa [List.getD_eq_getElem?_getD, List.getElem?_eq_getElem hk] at h2
def ofKind (k : Int) (l : List Nd) : Nat := l.countP (fun x => x.kind == k)
def full (n : Nd) (l : List Nd) : Bool := decide (1024 ≤ l.length) || (n.kind == 1 && decide (4 ≤ ofKind 1 l)) || (n.kind == 4 && decide (512 ≤ ofKind 4 l))
/-- Why a node may not stand behind others; 0: it may. -/
def whyC (n : Nd) (l : List Nd) : Int := if rightC n l ≠ 0 then rightC n l else if full n l then 6 else 0
end Go.Proofs.Ytdkijmiflommeaa
