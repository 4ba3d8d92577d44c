/- A struct of two numbers of 64 bits, as an argument. -/
import Derived.Test.YtpedhlmcgilliaaOpen
import Derived.Lib.SmallJoins
set_option linter.unusedVariables false
namespace Go.Proofs.Ytpedhlmcgilliaa
open Go.ChangeShapes Go.WideShapes Go.ChangeAt Go.RowKit Go.Joins Go.Deep
set_option maxRecDepth 100000 in
theorem open_pair {H : Type} {enc : TypeId × Value → H} {W : World} {base : Nat} {sp : Nat → Bool} {held : Bool} {r : Reach} {b0 : Nat} {t : TypeId} {f0 f1 : Field} {v : Value} {d : DataW H} {p : List MemPlace}
    (hs : Try.prog.underlying t = some (.struct #[f0, f1])) (hone : oneCellFields Try.prog #[f0, f1] = true) (hC : Try.prog.cellsOf t = 2) (e0 : Try.prog.underlying f0.type = some (.int .u64)) (e1 : Try.prog.underlying f1.type = some (.int .u64))
    (hv : Value.okWide Try.prog W r b0 t v) (h : DataW.Trod enc Try.prog W base sp held t v d p) :
    ∃ x y : Int, v = .agg #[.int .u64 x, .int .u64 y] ∧ (0 ≤ x ∧ x < 18446744073709551616) ∧ (0 ≤ y ∧ y < 18446744073709551616) := by
  obtain ⟨c0, c1, y0, y1, m, rfl, rfl, rfl, hy0, hy1⟩ := open_agg2 hs hone hC hv h
  obtain ⟨a, ea, _, wa⟩ := DataW.trod_int e0 hy0
  obtain ⟨b, eb, _, wb⟩ := DataW.trod_int e1 hy1
  simp at ea eb
  subst ea eb
  exact ⟨a, b, rfl, u64_of_wf wa, u64_of_wf wb⟩
set_option maxRecDepth 100000 in
theorem open_pairK {H : Type} {enc : TypeId × Value → H} {W : World} {base : Nat} {sp : Nat → Bool} {held : Bool} {r : Reach} {b0 : Nat} {t : TypeId} {f0 f1 : Field} {v : Value} {d : DataW H} {p : List MemPlace} {k0 k1 : IntKind}
    (hs : Try.prog.underlying t = some (.struct #[f0, f1])) (hone : oneCellFields Try.prog #[f0, f1] = true) (hC : Try.prog.cellsOf t = 2) (e0 : Try.prog.underlying f0.type = some (.int k0)) (e1 : Try.prog.underlying f1.type = some (.int k1))
    (hv : Value.okWide Try.prog W r b0 t v) (h : DataW.Trod enc Try.prog W base sp held t v d p) :
    ∃ x y : Int, v = .agg #[.int k0 x, .int k1 y] ∧ (Lit.int k0 x).wf = true ∧ (Lit.int k1 y).wf = true := by
  obtain ⟨c0, c1, y0, y1, m, rfl, rfl, rfl, hy0, hy1⟩ := open_agg2 hs hone hC hv h
  obtain ⟨a, ea, _, wa⟩ := DataW.trod_int e0 hy0
  obtain ⟨b, eb, _, wb⟩ := DataW.trod_int e1 hy1
  simp at ea eb
  subst ea eb
  exact ⟨a, b, rfl, wa, wb⟩
theorem Try.cellsNum : Try.prog.cellsOf 78 = 2 := by kernel_rfl
theorem Try.cellsFrac : Try.prog.cellsOf 48 = 2 := by kernel_rfl
end Go.Proofs.Ytpedhlmcgilliaa
