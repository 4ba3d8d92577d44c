/-
  No cell of these rows narrows 'for every input' (looked for: loops, veiled, ifaces, maps, wideKeys, modest, calm, conditions, laid).
  DERIVED. THE GIVEN ROWS OF THIS SEAT. 10 by the template 'for every input the law returns true; each argument reads behind the call as it read before'; 0 by the template 'total and deterministic' (their statements: YtcpfekhpbjkgeaaTotals.lean).
  GIVEN WITH THE SEED: the statements are not yours to turn. If you find one false, say at which input.
  Laid BY PROGRAM, IN A SANDBOX (cutbox-rows.mjs): the forced cells as the released guide's own fill.sh prints them over the translation 1555a0d6350f2fa4… (all of the seat's roots in one cut). By AI agents, Wed Nov 11 2026. No macro, syntax, notation, axiom, sorry.
-/
import Derived.Test.YtcpfekhpbjkgeaaChecked
import GoSem.Claim
import GoSem.ClaimJoined
import GoSem.ClaimMapViews
import Derived.JoinedTies
import Derived.KernelRfl
namespace Go.Proofs.Ytcpfekhpbjkgeaa
/- THE CELL 'sum', in the pinned program and in every row, IS THE sha256 OF THE DUMP (.gsa) THAT YtcpfekhpbjkgeaaProg.lean LOADS. Nothing in Lean hashes anything: it is a label: what it is worth is what the hold of that sum in a sandbox is worth. -/
noncomputable def Try.pinned : Pinned := { name := "ytcpfekhpbjkgeaa", sum := "1555a0d6350f2fa407decfd4e8ef8fce46ee5d6d490f6ceac9bbea29bf01c4ec", checked := Try.checked }
namespace Rows
def none {H : Type} : Left H := { results := [], args := [] }

/-- 'distributarylaw21.WheelParts': WHATEVER THE INPUT: true; the input reads as it did. -/
def wheelPartsSpec : ChangeSpec := { name := "wheelParts", fn := fun _ => fun
  | [d1, d2] => { results := [.lit (.bool true)], args := [d1, d2] }
  | _ => none }
def wheelPartsRow : OpenClaim := { program := "ytcpfekhpbjkgeaa", sum := "1555a0d6350f2fa407decfd4e8ef8fce46ee5d6d490f6ceac9bbea29bf01c4ec", func := "distributary/distributarylaw21.WheelParts", spec := "wheelParts", unfollowed := true, recurses := true, apart := false }
def WheelPartsSaid : Prop := wheelPartsRow.holds Try.pinned (OpenSpec.ofChange wheelPartsSpec)

/-- ITS FALSE NEIGHBOUR: 'it returns false'. Refute it at one input. -/
def wheelPartsWrong : ChangeSpec := { name := "wheelParts", fn := fun _ => fun
  | [d1, d2] => { results := [.lit (.bool false)], args := [d1, d2] }
  | _ => none }
def WheelPartsWrongFalsely : Prop := wheelPartsRow.holds Try.pinned (OpenSpec.ofChange wheelPartsWrong)

/-- 'distributarylaw21.WheelPlays': WHATEVER THE INPUT: true; the input reads as it did. -/
def wheelPlaysSpec : ChangeSpec := { name := "wheelPlays", fn := fun _ => fun
  | [d] => { results := [.lit (.bool true)], args := [d] }
  | _ => none }
def wheelPlaysRow : OpenClaim := { program := "ytcpfekhpbjkgeaa", sum := "1555a0d6350f2fa407decfd4e8ef8fce46ee5d6d490f6ceac9bbea29bf01c4ec", func := "distributary/distributarylaw21.WheelPlays", spec := "wheelPlays", unfollowed := true, recurses := true, apart := false }
def WheelPlaysSaid : Prop := wheelPlaysRow.holds Try.pinned (OpenSpec.ofChange wheelPlaysSpec)

/-- ITS FALSE NEIGHBOUR: 'it returns false'. Refute it at one input. -/
def wheelPlaysWrong : ChangeSpec := { name := "wheelPlays", fn := fun _ => fun
  | [d] => { results := [.lit (.bool false)], args := [d] }
  | _ => none }
def WheelPlaysWrongFalsely : Prop := wheelPlaysRow.holds Try.pinned (OpenSpec.ofChange wheelPlaysWrong)

/-- 'distributarylaw21.WheelNobody': WHATEVER THE INPUT: true; the input reads as it did. -/
def wheelNobodySpec : ChangeSpec := { name := "wheelNobody", fn := fun _ => fun
  | [d] => { results := [.lit (.bool true)], args := [d] }
  | _ => none }
def wheelNobodyRow : OpenClaim := { program := "ytcpfekhpbjkgeaa", sum := "1555a0d6350f2fa407decfd4e8ef8fce46ee5d6d490f6ceac9bbea29bf01c4ec", func := "distributary/distributarylaw21.WheelNobody", spec := "wheelNobody", unfollowed := true, recurses := true, apart := false }
def WheelNobodySaid : Prop := wheelNobodyRow.holds Try.pinned (OpenSpec.ofChange wheelNobodySpec)

/-- ITS FALSE NEIGHBOUR: 'it returns false'. Refute it at one input. -/
def wheelNobodyWrong : ChangeSpec := { name := "wheelNobody", fn := fun _ => fun
  | [d] => { results := [.lit (.bool false)], args := [d] }
  | _ => none }
def WheelNobodyWrongFalsely : Prop := wheelNobodyRow.holds Try.pinned (OpenSpec.ofChange wheelNobodyWrong)

/-- 'distributarylaw22.HealthPlays': WHATEVER THE INPUT: true; the input reads as it did. -/
def healthPlaysSpec : ChangeSpec := { name := "healthPlays", fn := fun _ => fun
  | [d1, d2] => { results := [.lit (.bool true)], args := [d1, d2] }
  | _ => none }
def healthPlaysRow : OpenClaim := { program := "ytcpfekhpbjkgeaa", sum := "1555a0d6350f2fa407decfd4e8ef8fce46ee5d6d490f6ceac9bbea29bf01c4ec", func := "distributary/distributarylaw22.HealthPlays", spec := "healthPlays", unfollowed := true, recurses := true, apart := false }
def HealthPlaysSaid : Prop := healthPlaysRow.holds Try.pinned (OpenSpec.ofChange healthPlaysSpec)

/-- ITS FALSE NEIGHBOUR: 'it returns false'. Refute it at one input. -/
def healthPlaysWrong : ChangeSpec := { name := "healthPlays", fn := fun _ => fun
  | [d1, d2] => { results := [.lit (.bool false)], args := [d1, d2] }
  | _ => none }
def HealthPlaysWrongFalsely : Prop := healthPlaysRow.holds Try.pinned (OpenSpec.ofChange healthPlaysWrong)

/-- 'distributarylaw22.HealthRises': WHATEVER THE INPUT: true; the input reads as it did. -/
def healthRisesSpec : ChangeSpec := { name := "healthRises", fn := fun _ => fun
  | [d] => { results := [.lit (.bool true)], args := [d] }
  | _ => none }
def healthRisesRow : OpenClaim := { program := "ytcpfekhpbjkgeaa", sum := "1555a0d6350f2fa407decfd4e8ef8fce46ee5d6d490f6ceac9bbea29bf01c4ec", func := "distributary/distributarylaw22.HealthRises", spec := "healthRises", unfollowed := true, recurses := true, apart := false }
def HealthRisesSaid : Prop := healthRisesRow.holds Try.pinned (OpenSpec.ofChange healthRisesSpec)

/-- ITS FALSE NEIGHBOUR: 'it returns false'. Refute it at one input. -/
def healthRisesWrong : ChangeSpec := { name := "healthRises", fn := fun _ => fun
  | [d] => { results := [.lit (.bool false)], args := [d] }
  | _ => none }
def HealthRisesWrongFalsely : Prop := healthRisesRow.holds Try.pinned (OpenSpec.ofChange healthRisesWrong)

/-- 'distributarylaw22.HealthRenames': WHATEVER THE INPUT: true; the input reads as it did. -/
def healthRenamesSpec : ChangeSpec := { name := "healthRenames", fn := fun _ => fun
  | [d1, d2, d3, d4] => { results := [.lit (.bool true)], args := [d1, d2, d3, d4] }
  | _ => none }
def healthRenamesRow : OpenClaim := { program := "ytcpfekhpbjkgeaa", sum := "1555a0d6350f2fa407decfd4e8ef8fce46ee5d6d490f6ceac9bbea29bf01c4ec", func := "distributary/distributarylaw22.HealthRenames", spec := "healthRenames", unfollowed := true, recurses := true, apart := false }
def HealthRenamesSaid : Prop := healthRenamesRow.holds Try.pinned (OpenSpec.ofChange healthRenamesSpec)

/-- ITS FALSE NEIGHBOUR: 'it returns false'. Refute it at one input. -/
def healthRenamesWrong : ChangeSpec := { name := "healthRenames", fn := fun _ => fun
  | [d1, d2, d3, d4] => { results := [.lit (.bool false)], args := [d1, d2, d3, d4] }
  | _ => none }
def HealthRenamesWrongFalsely : Prop := healthRenamesRow.holds Try.pinned (OpenSpec.ofChange healthRenamesWrong)

/-- 'distributarylaw22.HealthNobody': WHATEVER THE INPUT: true; the input reads as it did. -/
def healthNobodySpec : ChangeSpec := { name := "healthNobody", fn := fun _ => fun
  | [d] => { results := [.lit (.bool true)], args := [d] }
  | _ => none }
def healthNobodyRow : OpenClaim := { program := "ytcpfekhpbjkgeaa", sum := "1555a0d6350f2fa407decfd4e8ef8fce46ee5d6d490f6ceac9bbea29bf01c4ec", func := "distributary/distributarylaw22.HealthNobody", spec := "healthNobody", unfollowed := true, recurses := true, apart := false }
def HealthNobodySaid : Prop := healthNobodyRow.holds Try.pinned (OpenSpec.ofChange healthNobodySpec)

/-- ITS FALSE NEIGHBOUR: 'it returns false'. Refute it at one input. -/
def healthNobodyWrong : ChangeSpec := { name := "healthNobody", fn := fun _ => fun
  | [d] => { results := [.lit (.bool false)], args := [d] }
  | _ => none }
def HealthNobodyWrongFalsely : Prop := healthNobodyRow.holds Try.pinned (OpenSpec.ofChange healthNobodyWrong)

/-- 'distributarylaw41.TraceShares': WHATEVER THE INPUT: true; the input reads as it did. -/
def traceSharesSpec : ChangeSpec := { name := "traceShares", fn := fun _ => fun
  | [d] => { results := [.lit (.bool true)], args := [d] }
  | _ => none }
def traceSharesRow : OpenClaim := { program := "ytcpfekhpbjkgeaa", sum := "1555a0d6350f2fa407decfd4e8ef8fce46ee5d6d490f6ceac9bbea29bf01c4ec", func := "distributary/distributarylaw41.TraceShares", spec := "traceShares", unfollowed := true, recurses := true, apart := false }
def TraceSharesSaid : Prop := traceSharesRow.holds Try.pinned (OpenSpec.ofChange traceSharesSpec)

/-- ITS FALSE NEIGHBOUR: 'it returns false'. Refute it at one input. -/
def traceSharesWrong : ChangeSpec := { name := "traceShares", fn := fun _ => fun
  | [d] => { results := [.lit (.bool false)], args := [d] }
  | _ => none }
def TraceSharesWrongFalsely : Prop := traceSharesRow.holds Try.pinned (OpenSpec.ofChange traceSharesWrong)

/-- 'distributarylaw41.TraceErrs': WHATEVER THE INPUT: true; the input reads as it did. -/
def traceErrsSpec : ChangeSpec := { name := "traceErrs", fn := fun _ => fun
  | [d1, d2, d3, d4] => { results := [.lit (.bool true)], args := [d1, d2, d3, d4] }
  | _ => none }
def traceErrsRow : OpenClaim := { program := "ytcpfekhpbjkgeaa", sum := "1555a0d6350f2fa407decfd4e8ef8fce46ee5d6d490f6ceac9bbea29bf01c4ec", func := "distributary/distributarylaw41.TraceErrs", spec := "traceErrs", unfollowed := true, recurses := true, apart := false }
def TraceErrsSaid : Prop := traceErrsRow.holds Try.pinned (OpenSpec.ofChange traceErrsSpec)

/-- ITS FALSE NEIGHBOUR: 'it returns false'. Refute it at one input. -/
def traceErrsWrong : ChangeSpec := { name := "traceErrs", fn := fun _ => fun
  | [d1, d2, d3, d4] => { results := [.lit (.bool false)], args := [d1, d2, d3, d4] }
  | _ => none }
def TraceErrsWrongFalsely : Prop := traceErrsRow.holds Try.pinned (OpenSpec.ofChange traceErrsWrong)

/-- 'distributarylaw41.TraceNobody': WHATEVER THE INPUT: true; the input reads as it did. -/
def traceNobodySpec : ChangeSpec := { name := "traceNobody", fn := fun _ => fun
  | [d1, d2] => { results := [.lit (.bool true)], args := [d1, d2] }
  | _ => none }
def traceNobodyRow : OpenClaim := { program := "ytcpfekhpbjkgeaa", sum := "1555a0d6350f2fa407decfd4e8ef8fce46ee5d6d490f6ceac9bbea29bf01c4ec", func := "distributary/distributarylaw41.TraceNobody", spec := "traceNobody", unfollowed := true, recurses := true, apart := false }
def TraceNobodySaid : Prop := traceNobodyRow.holds Try.pinned (OpenSpec.ofChange traceNobodySpec)

/-- ITS FALSE NEIGHBOUR: 'it returns false'. Refute it at one input. -/
def traceNobodyWrong : ChangeSpec := { name := "traceNobody", fn := fun _ => fun
  | [d1, d2] => { results := [.lit (.bool false)], args := [d1, d2] }
  | _ => none }
def TraceNobodyWrongFalsely : Prop := traceNobodyRow.holds Try.pinned (OpenSpec.ofChange traceNobodyWrong)

/- THE SECOND FORM. 'bulk': how many values and letters a reading holds, each counted each time it is reached (what is shared counts as often as it is met; a slice's spare places count too). A statement '..UptoSaid' is the law's where the arguments, and the package variables that the reading takes, are together of bulk at most 1048576: NARROWER than '..Said'. Prove '..Said' where nothing that the law and all that it calls make is longer than what came in: it says more and counts as full. Else prove '..UptoSaid'. A law counts once. -/
mutual
def uptoBulk {H : Type} : DataW H → Nat
  | .lit (.string bytes) => bytes.length + 1
  | .lit _ => 1
  | .nil => 1
  | .ptr d => uptoBulk d + 1
  | .slice elems spare => uptoBulkAll elems + uptoBulkAll spare + 1
  | .agg parts => uptoBulkAll parts + 1
  | .iface _ d => uptoBulk d + 1
  | .map entries => uptoBulkEntries entries + 1
  | .held _ => 1
def uptoBulkAll {H : Type} : List (DataW H) → Nat
  | [] => 0
  | d :: r => uptoBulk d + uptoBulkAll r
def uptoBulkEntries {H : Type} : List (Lit × DataW H) → Nat
  | [] => 0
  | x :: r => uptoBulkEntry x + uptoBulkEntries r
def uptoBulkEntry {H : Type} : Lit × DataW H → Nat
  | (.string bytes, d) => bytes.length + uptoBulk d + 1
  | (_, d) => uptoBulk d + 1
 end
def uptoSmall : (H : Type) → List (DataW H) → Bool := fun _ ds => decide (uptoBulkAll ds ≤ 1048576)
def OpenSpec.upto (s : _root_.Go.ChangeSpec) : _root_.Go.OpenSpec := { _root_.Go.OpenSpec.ofChange s with cond := some uptoSmall }

/-- 'distributarylaw21.WheelParts', WHERE WHAT IT READS IS OF BULK AT MOST 1048576: true; the input reads as it did. -/
def wheelPartsUptoRow : OpenClaim := { program := "ytcpfekhpbjkgeaa", sum := "1555a0d6350f2fa407decfd4e8ef8fce46ee5d6d490f6ceac9bbea29bf01c4ec", func := "distributary/distributarylaw21.WheelParts", spec := "wheelParts", unfollowed := true, recurses := true, apart := false, narrowed := true }
def WheelPartsUptoSaid : Prop := wheelPartsUptoRow.holds Try.pinned (OpenSpec.upto wheelPartsSpec)

/-- 'distributarylaw21.WheelPlays', WHERE WHAT IT READS IS OF BULK AT MOST 1048576: true; the input reads as it did. -/
def wheelPlaysUptoRow : OpenClaim := { program := "ytcpfekhpbjkgeaa", sum := "1555a0d6350f2fa407decfd4e8ef8fce46ee5d6d490f6ceac9bbea29bf01c4ec", func := "distributary/distributarylaw21.WheelPlays", spec := "wheelPlays", unfollowed := true, recurses := true, apart := false, narrowed := true }
def WheelPlaysUptoSaid : Prop := wheelPlaysUptoRow.holds Try.pinned (OpenSpec.upto wheelPlaysSpec)

/-- 'distributarylaw21.WheelNobody', WHERE WHAT IT READS IS OF BULK AT MOST 1048576: true; the input reads as it did. -/
def wheelNobodyUptoRow : OpenClaim := { program := "ytcpfekhpbjkgeaa", sum := "1555a0d6350f2fa407decfd4e8ef8fce46ee5d6d490f6ceac9bbea29bf01c4ec", func := "distributary/distributarylaw21.WheelNobody", spec := "wheelNobody", unfollowed := true, recurses := true, apart := false, narrowed := true }
def WheelNobodyUptoSaid : Prop := wheelNobodyUptoRow.holds Try.pinned (OpenSpec.upto wheelNobodySpec)

/-- 'distributarylaw22.HealthPlays', WHERE WHAT IT READS IS OF BULK AT MOST 1048576: true; the input reads as it did. -/
def healthPlaysUptoRow : OpenClaim := { program := "ytcpfekhpbjkgeaa", sum := "1555a0d6350f2fa407decfd4e8ef8fce46ee5d6d490f6ceac9bbea29bf01c4ec", func := "distributary/distributarylaw22.HealthPlays", spec := "healthPlays", unfollowed := true, recurses := true, apart := false, narrowed := true }
def HealthPlaysUptoSaid : Prop := healthPlaysUptoRow.holds Try.pinned (OpenSpec.upto healthPlaysSpec)

/-- 'distributarylaw22.HealthRises', WHERE WHAT IT READS IS OF BULK AT MOST 1048576: true; the input reads as it did. -/
def healthRisesUptoRow : OpenClaim := { program := "ytcpfekhpbjkgeaa", sum := "1555a0d6350f2fa407decfd4e8ef8fce46ee5d6d490f6ceac9bbea29bf01c4ec", func := "distributary/distributarylaw22.HealthRises", spec := "healthRises", unfollowed := true, recurses := true, apart := false, narrowed := true }
def HealthRisesUptoSaid : Prop := healthRisesUptoRow.holds Try.pinned (OpenSpec.upto healthRisesSpec)

/-- 'distributarylaw22.HealthRenames', WHERE WHAT IT READS IS OF BULK AT MOST 1048576: true; the input reads as it did. -/
def healthRenamesUptoRow : OpenClaim := { program := "ytcpfekhpbjkgeaa", sum := "1555a0d6350f2fa407decfd4e8ef8fce46ee5d6d490f6ceac9bbea29bf01c4ec", func := "distributary/distributarylaw22.HealthRenames", spec := "healthRenames", unfollowed := true, recurses := true, apart := false, narrowed := true }
def HealthRenamesUptoSaid : Prop := healthRenamesUptoRow.holds Try.pinned (OpenSpec.upto healthRenamesSpec)

/-- 'distributarylaw22.HealthNobody', WHERE WHAT IT READS IS OF BULK AT MOST 1048576: true; the input reads as it did. -/
def healthNobodyUptoRow : OpenClaim := { program := "ytcpfekhpbjkgeaa", sum := "1555a0d6350f2fa407decfd4e8ef8fce46ee5d6d490f6ceac9bbea29bf01c4ec", func := "distributary/distributarylaw22.HealthNobody", spec := "healthNobody", unfollowed := true, recurses := true, apart := false, narrowed := true }
def HealthNobodyUptoSaid : Prop := healthNobodyUptoRow.holds Try.pinned (OpenSpec.upto healthNobodySpec)

/-- 'distributarylaw41.TraceShares', WHERE WHAT IT READS IS OF BULK AT MOST 1048576: true; the input reads as it did. -/
def traceSharesUptoRow : OpenClaim := { program := "ytcpfekhpbjkgeaa", sum := "1555a0d6350f2fa407decfd4e8ef8fce46ee5d6d490f6ceac9bbea29bf01c4ec", func := "distributary/distributarylaw41.TraceShares", spec := "traceShares", unfollowed := true, recurses := true, apart := false, narrowed := true }
def TraceSharesUptoSaid : Prop := traceSharesUptoRow.holds Try.pinned (OpenSpec.upto traceSharesSpec)

/-- 'distributarylaw41.TraceErrs', WHERE WHAT IT READS IS OF BULK AT MOST 1048576: true; the input reads as it did. -/
def traceErrsUptoRow : OpenClaim := { program := "ytcpfekhpbjkgeaa", sum := "1555a0d6350f2fa407decfd4e8ef8fce46ee5d6d490f6ceac9bbea29bf01c4ec", func := "distributary/distributarylaw41.TraceErrs", spec := "traceErrs", unfollowed := true, recurses := true, apart := false, narrowed := true }
def TraceErrsUptoSaid : Prop := traceErrsUptoRow.holds Try.pinned (OpenSpec.upto traceErrsSpec)

/-- 'distributarylaw41.TraceNobody', WHERE WHAT IT READS IS OF BULK AT MOST 1048576: true; the input reads as it did. -/
def traceNobodyUptoRow : OpenClaim := { program := "ytcpfekhpbjkgeaa", sum := "1555a0d6350f2fa407decfd4e8ef8fce46ee5d6d490f6ceac9bbea29bf01c4ec", func := "distributary/distributarylaw41.TraceNobody", spec := "traceNobody", unfollowed := true, recurses := true, apart := false, narrowed := true }
def TraceNobodyUptoSaid : Prop := traceNobodyUptoRow.holds Try.pinned (OpenSpec.upto traceNobodySpec)

end Rows
end Go.Proofs.Ytcpfekhpbjkgeaa
