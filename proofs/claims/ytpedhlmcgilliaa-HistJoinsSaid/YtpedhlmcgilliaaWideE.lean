/- WideProducts. -/
import Derived.Test.YtpedhlmcgilliaaWideD
set_option linter.unusedVariables false
namespace Go.Proofs.Ytpedhlmcgilliaa
open Go.RowKit
set_option maxHeartbeats 400000
theorem mul_ex (w : World) : Calls Try.prog 61 #[.int .u64 9223372036854775808, .int .u64 4] w fun e w' => e = .returned (.agg #[.int .u64 2, .int .u64 0]) ∧ Below w.heap.size w w' :=
  (wide_Mul 9223372036854775808 4 (by decide) (by decide) (by decide) (by decide) w).mono fun e w' ⟨he, hb⟩ => ⟨he.trans (by rw [show pHi 9223372036854775808 4 = 2 from by decide +kernel, show pLo 9223372036854775808 4 = 0 from by decide +kernel]), hb⟩
/-- What add answers, in both cases. -/
def addRes (ah al bh bl : Int) : Value := .tuple #[.agg #[.int .u64 (if fits ah al bh bl then sHi ah al bh bl else 0), .int .u64 (if fits ah al bh bl then sLo al bl else 0)], .bool (fits ah al bh bl)]
def addH (ah al bh bl : Int) : Int := if fits ah al bh bl then sHi ah al bh bl else 0
def addL (ah al bh bl : Int) : Int := if fits ah al bh bl then sLo al bl else 0
theorem wide_AddAny (ah al bh bl : Int) (ha : IsNum ah al) (hb : IsNum bh bl) (w : World) :
    Calls Try.prog 54 #[.agg #[.int .u64 ah, .int .u64 al], .agg #[.int .u64 bh, .int .u64 bl]] w fun e w' =>
      e = .returned (.tuple #[.agg #[.int .u64 (addH ah al bh bl), .int .u64 (addL ah al bh bl)], .bool (fits ah al bh bl)]) ∧ Below w.heap.size w w' := by
  unfold addH addL
  cases h : fits ah al bh bl with
  | true => exact wide_Add ah al bh bl ha hb h w
  | false => exact wide_AddNo ah al bh bl ha hb h w
theorem add_num {ah al bh bl : Int} : IsNum (addH ah al bh bl) (addL ah al bh bl) := by
  unfold addH addL
  cases h : fits ah al bh bl with
  | true => exact s_num _ _ _ _
  | false => exact ⟨Int.le_refl _, (by simp), Int.le_refl _, (by simp)⟩
end Go.Proofs.Ytpedhlmcgilliaa
