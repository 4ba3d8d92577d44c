/-
  No cell of these rows narrows 'for every input' (looked for: loops, veiled, ifaces, maps, wideKeys, modest, calm, conditions, laid).
  DERIVED. THE GIVEN ROWS OF THIS SEAT. 12 by the template 'for every input the law returns true; each argument reads behind the call as it read before'; 0 by the template 'total and deterministic' (their statements: YtdkijmiflommeaaTotals.lean).
  GIVEN WITH THE SEED: the statements are not yours to turn. If you find one false, say at which input.
  Laid BY PROGRAM, IN A SANDBOX (cutbox-rows.mjs): the forced cells as the released guide's own fill.sh prints them over the translation f586294fa33ad252… (all of the seat's roots in one cut). By AI agents, Wed Nov 11 2026. No macro, syntax, notation, axiom, sorry.
-/
import Derived.Test.YtdkijmiflommeaaChecked
import GoSem.Claim
import GoSem.ClaimJoined
import GoSem.ClaimMapViews
import Derived.JoinedTies
import Derived.KernelRfl
namespace Go.Proofs.Ytdkijmiflommeaa
/- THE CELL 'sum', in the pinned program and in every row, IS THE sha256 OF THE DUMP (.gsa) THAT YtdkijmiflommeaaProg.lean LOADS. Nothing in Lean hashes anything: it is a label: what it is worth is what the hold of that sum in a sandbox is worth. -/
noncomputable def Try.pinned : Pinned := { name := "ytdkijmiflommeaa", sum := "f586294fa33ad25244a456ea8116ab47fe4ee9e9c9b81256f1040667b5952595", checked := Try.checked }
namespace Rows
def none {H : Type} : Left H := { results := [], args := [] }

/-- 'distributarylaw16.TreeNews': WHATEVER THE INPUT: true; the input reads as it did. -/
def treeNewsSpec : ChangeSpec := { name := "treeNews", fn := fun _ => fun
  | [d1, d2] => { results := [.lit (.bool true)], args := [d1, d2] }
  | _ => none }
def treeNewsRow : OpenClaim := { program := "ytdkijmiflommeaa", sum := "f586294fa33ad25244a456ea8116ab47fe4ee9e9c9b81256f1040667b5952595", func := "distributary/distributarylaw16.TreeNews", spec := "treeNews", apart := false }
def TreeNewsSaid : Prop := treeNewsRow.holds Try.pinned (OpenSpec.ofChange treeNewsSpec)

/-- ITS FALSE NEIGHBOUR: 'it returns false'. Refute it at one input. -/
def treeNewsWrong : ChangeSpec := { name := "treeNews", fn := fun _ => fun
  | [d1, d2] => { results := [.lit (.bool false)], args := [d1, d2] }
  | _ => none }
def TreeNewsWrongFalsely : Prop := treeNewsRow.holds Try.pinned (OpenSpec.ofChange treeNewsWrong)

/-- 'distributarylaw16.TreeLooks': WHATEVER THE INPUT: true; the input reads as it did. -/
def treeLooksSpec : ChangeSpec := { name := "treeLooks", fn := fun _ => fun
  | [d1, d2, d3] => { results := [.lit (.bool true)], args := [d1, d2, d3] }
  | _ => none }
def treeLooksRow : OpenClaim := { program := "ytdkijmiflommeaa", sum := "f586294fa33ad25244a456ea8116ab47fe4ee9e9c9b81256f1040667b5952595", func := "distributary/distributarylaw16.TreeLooks", spec := "treeLooks", unfollowed := true, recurses := true, apart := false }
def TreeLooksSaid : Prop := treeLooksRow.holds Try.pinned (OpenSpec.ofChange treeLooksSpec)

/-- ITS FALSE NEIGHBOUR: 'it returns false'. Refute it at one input. -/
def treeLooksWrong : ChangeSpec := { name := "treeLooks", fn := fun _ => fun
  | [d1, d2, d3] => { results := [.lit (.bool false)], args := [d1, d2, d3] }
  | _ => none }
def TreeLooksWrongFalsely : Prop := treeLooksRow.holds Try.pinned (OpenSpec.ofChange treeLooksWrong)

/-- 'distributarylaw16.TreeUps': WHATEVER THE INPUT: true; the input reads as it did. -/
def treeUpsSpec : ChangeSpec := { name := "treeUps", fn := fun _ => fun
  | [d1, d2, d3] => { results := [.lit (.bool true)], args := [d1, d2, d3] }
  | _ => none }
def treeUpsRow : OpenClaim := { program := "ytdkijmiflommeaa", sum := "f586294fa33ad25244a456ea8116ab47fe4ee9e9c9b81256f1040667b5952595", func := "distributary/distributarylaw16.TreeUps", spec := "treeUps", apart := false }
def TreeUpsSaid : Prop := treeUpsRow.holds Try.pinned (OpenSpec.ofChange treeUpsSpec)

/-- ITS FALSE NEIGHBOUR: 'it returns false'. Refute it at one input. -/
def treeUpsWrong : ChangeSpec := { name := "treeUps", fn := fun _ => fun
  | [d1, d2, d3] => { results := [.lit (.bool false)], args := [d1, d2, d3] }
  | _ => none }
def TreeUpsWrongFalsely : Prop := treeUpsRow.holds Try.pinned (OpenSpec.ofChange treeUpsWrong)

/-- 'distributarylaw16.TreeNobody': WHATEVER THE INPUT: true; the input reads as it did. -/
def treeNobodySpec : ChangeSpec := { name := "treeNobody", fn := fun _ => fun
  | [d1, d2] => { results := [.lit (.bool true)], args := [d1, d2] }
  | _ => none }
def treeNobodyRow : OpenClaim := { program := "ytdkijmiflommeaa", sum := "f586294fa33ad25244a456ea8116ab47fe4ee9e9c9b81256f1040667b5952595", func := "distributary/distributarylaw16.TreeNobody", spec := "treeNobody", unfollowed := true, recurses := true, apart := false }
def TreeNobodySaid : Prop := treeNobodyRow.holds Try.pinned (OpenSpec.ofChange treeNobodySpec)

/-- ITS FALSE NEIGHBOUR: 'it returns false'. Refute it at one input. -/
def treeNobodyWrong : ChangeSpec := { name := "treeNobody", fn := fun _ => fun
  | [d1, d2] => { results := [.lit (.bool false)], args := [d1, d2] }
  | _ => none }
def TreeNobodyWrongFalsely : Prop := treeNobodyRow.holds Try.pinned (OpenSpec.ofChange treeNobodyWrong)

/-- 'distributarylaw43.DiffNodes': WHATEVER THE INPUT: true; the input reads as it did. -/
def diffNodesSpec : ChangeSpec := { name := "diffNodes", fn := fun _ => fun
  | [d1, d2] => { results := [.lit (.bool true)], args := [d1, d2] }
  | _ => none }
def diffNodesRow : OpenClaim := { program := "ytdkijmiflommeaa", sum := "f586294fa33ad25244a456ea8116ab47fe4ee9e9c9b81256f1040667b5952595", func := "distributary/distributarylaw43.DiffNodes", spec := "diffNodes", unfollowed := true, recurses := true, apart := false }
def DiffNodesSaid : Prop := diffNodesRow.holds Try.pinned (OpenSpec.ofChange diffNodesSpec)

/-- ITS FALSE NEIGHBOUR: 'it returns false'. Refute it at one input. -/
def diffNodesWrong : ChangeSpec := { name := "diffNodes", fn := fun _ => fun
  | [d1, d2] => { results := [.lit (.bool false)], args := [d1, d2] }
  | _ => none }
def DiffNodesWrongFalsely : Prop := diffNodesRow.holds Try.pinned (OpenSpec.ofChange diffNodesWrong)

/-- 'distributarylaw23.EligWeighs': WHATEVER THE INPUT: true; the input reads as it did. -/
def eligWeighsSpec : ChangeSpec := { name := "eligWeighs", fn := fun _ => fun
  | [d1, d2, d3] => { results := [.lit (.bool true)], args := [d1, d2, d3] }
  | _ => none }
def eligWeighsRow : OpenClaim := { program := "ytdkijmiflommeaa", sum := "f586294fa33ad25244a456ea8116ab47fe4ee9e9c9b81256f1040667b5952595", func := "distributary/distributarylaw23.EligWeighs", spec := "eligWeighs", apart := false }
def EligWeighsSaid : Prop := eligWeighsRow.holds Try.pinned (OpenSpec.ofChange eligWeighsSpec)

/-- ITS FALSE NEIGHBOUR: 'it returns false'. Refute it at one input. -/
def eligWeighsWrong : ChangeSpec := { name := "eligWeighs", fn := fun _ => fun
  | [d1, d2, d3] => { results := [.lit (.bool false)], args := [d1, d2, d3] }
  | _ => none }
def EligWeighsWrongFalsely : Prop := eligWeighsRow.holds Try.pinned (OpenSpec.ofChange eligWeighsWrong)

/-- 'distributarylaw23.EligCounts': WHATEVER THE INPUT: true; the input reads as it did. -/
def eligCountsSpec : ChangeSpec := { name := "eligCounts", fn := fun _ => fun
  | [d1, d2, d3] => { results := [.lit (.bool true)], args := [d1, d2, d3] }
  | _ => none }
def eligCountsRow : OpenClaim := { program := "ytdkijmiflommeaa", sum := "f586294fa33ad25244a456ea8116ab47fe4ee9e9c9b81256f1040667b5952595", func := "distributary/distributarylaw23.EligCounts", spec := "eligCounts", apart := false }
def EligCountsSaid : Prop := eligCountsRow.holds Try.pinned (OpenSpec.ofChange eligCountsSpec)

/-- ITS FALSE NEIGHBOUR: 'it returns false'. Refute it at one input. -/
def eligCountsWrong : ChangeSpec := { name := "eligCounts", fn := fun _ => fun
  | [d1, d2, d3] => { results := [.lit (.bool false)], args := [d1, d2, d3] }
  | _ => none }
def EligCountsWrongFalsely : Prop := eligCountsRow.holds Try.pinned (OpenSpec.ofChange eligCountsWrong)

/-- 'distributarylaw23.EligWithout': WHATEVER THE INPUT: true; the input reads as it did. -/
def eligWithoutSpec : ChangeSpec := { name := "eligWithout", fn := fun _ => fun
  | [d1, d2, d3] => { results := [.lit (.bool true)], args := [d1, d2, d3] }
  | _ => none }
def eligWithoutRow : OpenClaim := { program := "ytdkijmiflommeaa", sum := "f586294fa33ad25244a456ea8116ab47fe4ee9e9c9b81256f1040667b5952595", func := "distributary/distributarylaw23.EligWithout", spec := "eligWithout", unfollowed := true, recurses := true, apart := false }
def EligWithoutSaid : Prop := eligWithoutRow.holds Try.pinned (OpenSpec.ofChange eligWithoutSpec)

/-- ITS FALSE NEIGHBOUR: 'it returns false'. Refute it at one input. -/
def eligWithoutWrong : ChangeSpec := { name := "eligWithout", fn := fun _ => fun
  | [d1, d2, d3] => { results := [.lit (.bool false)], args := [d1, d2, d3] }
  | _ => none }
def EligWithoutWrongFalsely : Prop := eligWithoutRow.holds Try.pinned (OpenSpec.ofChange eligWithoutWrong)

/-- 'distributarylaw23.EligNobody': WHATEVER THE INPUT: true; the input reads as it did. -/
def eligNobodySpec : ChangeSpec := { name := "eligNobody", fn := fun _ => fun
  | [d] => { results := [.lit (.bool true)], args := [d] }
  | _ => none }
def eligNobodyRow : OpenClaim := { program := "ytdkijmiflommeaa", sum := "f586294fa33ad25244a456ea8116ab47fe4ee9e9c9b81256f1040667b5952595", func := "distributary/distributarylaw23.EligNobody", spec := "eligNobody", unfollowed := true, recurses := true, apart := false }
def EligNobodySaid : Prop := eligNobodyRow.holds Try.pinned (OpenSpec.ofChange eligNobodySpec)

/-- ITS FALSE NEIGHBOUR: 'it returns false'. Refute it at one input. -/
def eligNobodyWrong : ChangeSpec := { name := "eligNobody", fn := fun _ => fun
  | [d] => { results := [.lit (.bool false)], args := [d] }
  | _ => none }
def EligNobodyWrongFalsely : Prop := eligNobodyRow.holds Try.pinned (OpenSpec.ofChange eligNobodyWrong)

/-- 'distributarylaw19.ValidFull': WHATEVER THE INPUT: true; the input reads as it did. -/
def validFullSpec : ChangeSpec := { name := "validFull", fn := fun _ => fun
  | [d1, d2] => { results := [.lit (.bool true)], args := [d1, d2] }
  | _ => none }
def validFullRow : OpenClaim := { program := "ytdkijmiflommeaa", sum := "f586294fa33ad25244a456ea8116ab47fe4ee9e9c9b81256f1040667b5952595", func := "distributary/distributarylaw19.ValidFull", spec := "validFull", apart := false }
def ValidFullSaid : Prop := validFullRow.holds Try.pinned (OpenSpec.ofChange validFullSpec)

/-- ITS FALSE NEIGHBOUR: 'it returns false'. Refute it at one input. -/
def validFullWrong : ChangeSpec := { name := "validFull", fn := fun _ => fun
  | [d1, d2] => { results := [.lit (.bool false)], args := [d1, d2] }
  | _ => none }
def ValidFullWrongFalsely : Prop := validFullRow.holds Try.pinned (OpenSpec.ofChange validFullWrong)

/-- 'distributarylaw19.ValidNews': WHATEVER THE INPUT: true; the input reads as it did. -/
def validNewsSpec : ChangeSpec := { name := "validNews", fn := fun _ => fun
  | [d] => { results := [.lit (.bool true)], args := [d] }
  | _ => none }
def validNewsRow : OpenClaim := { program := "ytdkijmiflommeaa", sum := "f586294fa33ad25244a456ea8116ab47fe4ee9e9c9b81256f1040667b5952595", func := "distributary/distributarylaw19.ValidNews", spec := "validNews", apart := false }
def ValidNewsSaid : Prop := validNewsRow.holds Try.pinned (OpenSpec.ofChange validNewsSpec)

/-- ITS FALSE NEIGHBOUR: 'it returns false'. Refute it at one input. -/
def validNewsWrong : ChangeSpec := { name := "validNews", fn := fun _ => fun
  | [d] => { results := [.lit (.bool false)], args := [d] }
  | _ => none }
def ValidNewsWrongFalsely : Prop := validNewsRow.holds Try.pinned (OpenSpec.ofChange validNewsWrong)

/-- 'distributarylaw19.ValidSames': WHATEVER THE INPUT: true; the input reads as it did. -/
def validSamesSpec : ChangeSpec := { name := "validSames", fn := fun _ => fun
  | [d1, d2] => { results := [.lit (.bool true)], args := [d1, d2] }
  | _ => none }
def validSamesRow : OpenClaim := { program := "ytdkijmiflommeaa", sum := "f586294fa33ad25244a456ea8116ab47fe4ee9e9c9b81256f1040667b5952595", func := "distributary/distributarylaw19.ValidSames", spec := "validSames", apart := false }
def ValidSamesSaid : Prop := validSamesRow.holds Try.pinned (OpenSpec.ofChange validSamesSpec)

/-- ITS FALSE NEIGHBOUR: 'it returns false'. Refute it at one input. -/
def validSamesWrong : ChangeSpec := { name := "validSames", fn := fun _ => fun
  | [d1, d2] => { results := [.lit (.bool false)], args := [d1, d2] }
  | _ => none }
def ValidSamesWrongFalsely : Prop := validSamesRow.holds Try.pinned (OpenSpec.ofChange validSamesWrong)

/- THE SECOND FORM. 'bulk': how many values and letters a reading holds, each counted each time it is reached (what is shared counts as often as it is met; a slice's spare places count too). A statement '..UptoSaid' is the law's where the arguments, and the package variables that the reading takes, are together of bulk at most 1048576: NARROWER than '..Said'. Prove '..Said' where nothing that the law and all that it calls make is longer than what came in: it says more and counts as full. Else prove '..UptoSaid'. A law counts once. -/
mutual
def uptoBulk {H : Type} : DataW H → Nat
  | .lit (.string bytes) => bytes.length + 1
  | .lit _ => 1
  | .nil => 1
  | .ptr d => uptoBulk d + 1
  | .slice elems spare => uptoBulkAll elems + uptoBulkAll spare + 1
  | .agg parts => uptoBulkAll parts + 1
  | .iface _ d => uptoBulk d + 1
  | .map entries => uptoBulkEntries entries + 1
  | .held _ => 1
def uptoBulkAll {H : Type} : List (DataW H) → Nat
  | [] => 0
  | d :: r => uptoBulk d + uptoBulkAll r
def uptoBulkEntries {H : Type} : List (Lit × DataW H) → Nat
  | [] => 0
  | x :: r => uptoBulkEntry x + uptoBulkEntries r
def uptoBulkEntry {H : Type} : Lit × DataW H → Nat
  | (.string bytes, d) => bytes.length + uptoBulk d + 1
  | (_, d) => uptoBulk d + 1
 end
def uptoSmall : (H : Type) → List (DataW H) → Bool := fun _ ds => decide (uptoBulkAll ds ≤ 1048576)
def OpenSpec.upto (s : _root_.Go.ChangeSpec) : _root_.Go.OpenSpec := { _root_.Go.OpenSpec.ofChange s with cond := some uptoSmall }

/-- 'distributarylaw16.TreeNews', WHERE WHAT IT READS IS OF BULK AT MOST 1048576: true; the input reads as it did. -/
def treeNewsUptoRow : OpenClaim := { program := "ytdkijmiflommeaa", sum := "f586294fa33ad25244a456ea8116ab47fe4ee9e9c9b81256f1040667b5952595", func := "distributary/distributarylaw16.TreeNews", spec := "treeNews", apart := false, narrowed := true }
def TreeNewsUptoSaid : Prop := treeNewsUptoRow.holds Try.pinned (OpenSpec.upto treeNewsSpec)

/-- 'distributarylaw16.TreeLooks', WHERE WHAT IT READS IS OF BULK AT MOST 1048576: true; the input reads as it did. -/
def treeLooksUptoRow : OpenClaim := { program := "ytdkijmiflommeaa", sum := "f586294fa33ad25244a456ea8116ab47fe4ee9e9c9b81256f1040667b5952595", func := "distributary/distributarylaw16.TreeLooks", spec := "treeLooks", unfollowed := true, recurses := true, apart := false, narrowed := true }
def TreeLooksUptoSaid : Prop := treeLooksUptoRow.holds Try.pinned (OpenSpec.upto treeLooksSpec)

/-- 'distributarylaw16.TreeUps', WHERE WHAT IT READS IS OF BULK AT MOST 1048576: true; the input reads as it did. -/
def treeUpsUptoRow : OpenClaim := { program := "ytdkijmiflommeaa", sum := "f586294fa33ad25244a456ea8116ab47fe4ee9e9c9b81256f1040667b5952595", func := "distributary/distributarylaw16.TreeUps", spec := "treeUps", apart := false, narrowed := true }
def TreeUpsUptoSaid : Prop := treeUpsUptoRow.holds Try.pinned (OpenSpec.upto treeUpsSpec)

/-- 'distributarylaw16.TreeNobody', WHERE WHAT IT READS IS OF BULK AT MOST 1048576: true; the input reads as it did. -/
def treeNobodyUptoRow : OpenClaim := { program := "ytdkijmiflommeaa", sum := "f586294fa33ad25244a456ea8116ab47fe4ee9e9c9b81256f1040667b5952595", func := "distributary/distributarylaw16.TreeNobody", spec := "treeNobody", unfollowed := true, recurses := true, apart := false, narrowed := true }
def TreeNobodyUptoSaid : Prop := treeNobodyUptoRow.holds Try.pinned (OpenSpec.upto treeNobodySpec)

/-- 'distributarylaw43.DiffNodes', WHERE WHAT IT READS IS OF BULK AT MOST 1048576: true; the input reads as it did. -/
def diffNodesUptoRow : OpenClaim := { program := "ytdkijmiflommeaa", sum := "f586294fa33ad25244a456ea8116ab47fe4ee9e9c9b81256f1040667b5952595", func := "distributary/distributarylaw43.DiffNodes", spec := "diffNodes", unfollowed := true, recurses := true, apart := false, narrowed := true }
def DiffNodesUptoSaid : Prop := diffNodesUptoRow.holds Try.pinned (OpenSpec.upto diffNodesSpec)

/-- 'distributarylaw23.EligWeighs', WHERE WHAT IT READS IS OF BULK AT MOST 1048576: true; the input reads as it did. -/
def eligWeighsUptoRow : OpenClaim := { program := "ytdkijmiflommeaa", sum := "f586294fa33ad25244a456ea8116ab47fe4ee9e9c9b81256f1040667b5952595", func := "distributary/distributarylaw23.EligWeighs", spec := "eligWeighs", apart := false, narrowed := true }
def EligWeighsUptoSaid : Prop := eligWeighsUptoRow.holds Try.pinned (OpenSpec.upto eligWeighsSpec)

/-- 'distributarylaw23.EligCounts', WHERE WHAT IT READS IS OF BULK AT MOST 1048576: true; the input reads as it did. -/
def eligCountsUptoRow : OpenClaim := { program := "ytdkijmiflommeaa", sum := "f586294fa33ad25244a456ea8116ab47fe4ee9e9c9b81256f1040667b5952595", func := "distributary/distributarylaw23.EligCounts", spec := "eligCounts", apart := false, narrowed := true }
def EligCountsUptoSaid : Prop := eligCountsUptoRow.holds Try.pinned (OpenSpec.upto eligCountsSpec)

/-- 'distributarylaw23.EligWithout', WHERE WHAT IT READS IS OF BULK AT MOST 1048576: true; the input reads as it did. -/
def eligWithoutUptoRow : OpenClaim := { program := "ytdkijmiflommeaa", sum := "f586294fa33ad25244a456ea8116ab47fe4ee9e9c9b81256f1040667b5952595", func := "distributary/distributarylaw23.EligWithout", spec := "eligWithout", unfollowed := true, recurses := true, apart := false, narrowed := true }
def EligWithoutUptoSaid : Prop := eligWithoutUptoRow.holds Try.pinned (OpenSpec.upto eligWithoutSpec)

/-- 'distributarylaw23.EligNobody', WHERE WHAT IT READS IS OF BULK AT MOST 1048576: true; the input reads as it did. -/
def eligNobodyUptoRow : OpenClaim := { program := "ytdkijmiflommeaa", sum := "f586294fa33ad25244a456ea8116ab47fe4ee9e9c9b81256f1040667b5952595", func := "distributary/distributarylaw23.EligNobody", spec := "eligNobody", unfollowed := true, recurses := true, apart := false, narrowed := true }
def EligNobodyUptoSaid : Prop := eligNobodyUptoRow.holds Try.pinned (OpenSpec.upto eligNobodySpec)

/-- 'distributarylaw19.ValidFull', WHERE WHAT IT READS IS OF BULK AT MOST 1048576: true; the input reads as it did. -/
def validFullUptoRow : OpenClaim := { program := "ytdkijmiflommeaa", sum := "f586294fa33ad25244a456ea8116ab47fe4ee9e9c9b81256f1040667b5952595", func := "distributary/distributarylaw19.ValidFull", spec := "validFull", apart := false, narrowed := true }
def ValidFullUptoSaid : Prop := validFullUptoRow.holds Try.pinned (OpenSpec.upto validFullSpec)

/-- 'distributarylaw19.ValidNews', WHERE WHAT IT READS IS OF BULK AT MOST 1048576: true; the input reads as it did. -/
def validNewsUptoRow : OpenClaim := { program := "ytdkijmiflommeaa", sum := "f586294fa33ad25244a456ea8116ab47fe4ee9e9c9b81256f1040667b5952595", func := "distributary/distributarylaw19.ValidNews", spec := "validNews", apart := false, narrowed := true }
def ValidNewsUptoSaid : Prop := validNewsUptoRow.holds Try.pinned (OpenSpec.upto validNewsSpec)

/-- 'distributarylaw19.ValidSames', WHERE WHAT IT READS IS OF BULK AT MOST 1048576: true; the input reads as it did. -/
def validSamesUptoRow : OpenClaim := { program := "ytdkijmiflommeaa", sum := "f586294fa33ad25244a456ea8116ab47fe4ee9e9c9b81256f1040667b5952595", func := "distributary/distributarylaw19.ValidSames", spec := "validSames", apart := false, narrowed := true }
def ValidSamesUptoSaid : Prop := validSamesUptoRow.holds Try.pinned (OpenSpec.upto validSamesSpec)

end Rows
end Go.Proofs.Ytdkijmiflommeaa
