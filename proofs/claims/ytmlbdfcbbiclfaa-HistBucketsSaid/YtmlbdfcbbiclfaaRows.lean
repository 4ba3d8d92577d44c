/-
  No cell of these rows narrows 'for every input' (looked for: loops, veiled, ifaces, maps, wideKeys, modest, calm, conditions, laid).
  DERIVED. THE GIVEN ROWS OF THIS SEAT. 5 by the template 'for every input the law returns true; each argument reads behind the call as it read before'; 0 by the template 'total and deterministic' (their statements: YtmlbdfcbbiclfaaTotals.lean).
  GIVEN WITH THE SEED: the statements are not yours to turn. If you find one false, say at which input.
  Laid BY PROGRAM, IN A SANDBOX (cutbox-rows.mjs): the forced cells as the released guide's own fill.sh prints them over the translation 09722b5531bfb414… (all of the seat's roots in one cut). By AI agents, Wed Nov 11 2026. No macro, syntax, notation, axiom, sorry.
-/
import Derived.Test.YtmlbdfcbbiclfaaChecked
import GoSem.Claim
import GoSem.ClaimJoined
import GoSem.ClaimMapViews
import Derived.JoinedTies
import Derived.KernelRfl
namespace Go.Proofs.Ytmlbdfcbbiclfaa
/- THE CELL 'sum', in the pinned program and in every row, IS THE sha256 OF THE DUMP (.gsa) THAT YtmlbdfcbbiclfaaProg.lean LOADS. Nothing in Lean hashes anything: it is a label: what it is worth is what the hold of that sum in a sandbox is worth. -/
noncomputable def Try.pinned : Pinned := { name := "ytmlbdfcbbiclfaa", sum := "09722b5531bfb414c63d8bc473bc9e6aaeed84f626a0472b688239fe19689863", checked := Try.checked }
namespace Rows
def none {H : Type} : Left H := { results := [], args := [] }

/-- 'distributarylaw02.MixOnes': WHATEVER THE INPUT: true; the input reads as it did. -/
def mixOnesSpec : ChangeSpec := { name := "mixOnes", fn := fun _ => fun
  | [d] => { results := [.lit (.bool true)], args := [d] }
  | _ => none }
def mixOnesRow : OpenClaim := { program := "ytmlbdfcbbiclfaa", sum := "09722b5531bfb414c63d8bc473bc9e6aaeed84f626a0472b688239fe19689863", func := "distributary/distributarylaw02.MixOnes", spec := "mixOnes", apart := false }
def MixOnesSaid : Prop := mixOnesRow.holds Try.pinned (OpenSpec.ofChange mixOnesSpec)

/-- ITS FALSE NEIGHBOUR: 'it returns false'. Refute it at one input. -/
def mixOnesWrong : ChangeSpec := { name := "mixOnes", fn := fun _ => fun
  | [d] => { results := [.lit (.bool false)], args := [d] }
  | _ => none }
def MixOnesWrongFalsely : Prop := mixOnesRow.holds Try.pinned (OpenSpec.ofChange mixOnesWrong)

/-- 'distributarylaw02.MixGens': WHATEVER THE INPUT: true; the input reads as it did. -/
def mixGensSpec : ChangeSpec := { name := "mixGens", fn := fun _ => fun
  | [d1, d2] => { results := [.lit (.bool true)], args := [d1, d2] }
  | _ => none }
def mixGensRow : OpenClaim := { program := "ytmlbdfcbbiclfaa", sum := "09722b5531bfb414c63d8bc473bc9e6aaeed84f626a0472b688239fe19689863", func := "distributary/distributarylaw02.MixGens", spec := "mixGens", apart := false }
def MixGensSaid : Prop := mixGensRow.holds Try.pinned (OpenSpec.ofChange mixGensSpec)

/-- ITS FALSE NEIGHBOUR: 'it returns false'. Refute it at one input. -/
def mixGensWrong : ChangeSpec := { name := "mixGens", fn := fun _ => fun
  | [d1, d2] => { results := [.lit (.bool false)], args := [d1, d2] }
  | _ => none }
def MixGensWrongFalsely : Prop := mixGensRow.holds Try.pinned (OpenSpec.ofChange mixGensWrong)

/-- 'distributarylaw38.HistBuckets': WHATEVER THE INPUT: true; the input reads as it did. -/
def histBucketsSpec : ChangeSpec := { name := "histBuckets", fn := fun _ => fun
  | [d1, d2] => { results := [.lit (.bool true)], args := [d1, d2] }
  | _ => none }
def histBucketsRow : OpenClaim := { program := "ytmlbdfcbbiclfaa", sum := "09722b5531bfb414c63d8bc473bc9e6aaeed84f626a0472b688239fe19689863", func := "distributary/distributarylaw38.HistBuckets", spec := "histBuckets", apart := false }
def HistBucketsSaid : Prop := histBucketsRow.holds Try.pinned (OpenSpec.ofChange histBucketsSpec)

/-- ITS FALSE NEIGHBOUR: 'it returns false'. Refute it at one input. -/
def histBucketsWrong : ChangeSpec := { name := "histBuckets", fn := fun _ => fun
  | [d1, d2] => { results := [.lit (.bool false)], args := [d1, d2] }
  | _ => none }
def HistBucketsWrongFalsely : Prop := histBucketsRow.holds Try.pinned (OpenSpec.ofChange histBucketsWrong)

/-- 'distributarylaw02.MixBelows': WHATEVER THE INPUT: true; the input reads as it did. -/
def mixBelowsSpec : ChangeSpec := { name := "mixBelows", fn := fun _ => fun
  | [d1, d2] => { results := [.lit (.bool true)], args := [d1, d2] }
  | _ => none }
def mixBelowsRow : OpenClaim := { program := "ytmlbdfcbbiclfaa", sum := "09722b5531bfb414c63d8bc473bc9e6aaeed84f626a0472b688239fe19689863", func := "distributary/distributarylaw02.MixBelows", spec := "mixBelows", apart := false }
def MixBelowsSaid : Prop := mixBelowsRow.holds Try.pinned (OpenSpec.ofChange mixBelowsSpec)

/-- ITS FALSE NEIGHBOUR: 'it returns false'. Refute it at one input. -/
def mixBelowsWrong : ChangeSpec := { name := "mixBelows", fn := fun _ => fun
  | [d1, d2] => { results := [.lit (.bool false)], args := [d1, d2] }
  | _ => none }
def MixBelowsWrongFalsely : Prop := mixBelowsRow.holds Try.pinned (OpenSpec.ofChange mixBelowsWrong)

/-- 'distributarylaw02.MixLists': WHATEVER THE INPUT: true; the input reads as it did. -/
def mixListsSpec : ChangeSpec := { name := "mixLists", fn := fun _ => fun
  | [d1, d2, d3] => { results := [.lit (.bool true)], args := [d1, d2, d3] }
  | _ => none }
def mixListsRow : OpenClaim := { program := "ytmlbdfcbbiclfaa", sum := "09722b5531bfb414c63d8bc473bc9e6aaeed84f626a0472b688239fe19689863", func := "distributary/distributarylaw02.MixLists", spec := "mixLists", apart := false }
def MixListsSaid : Prop := mixListsRow.holds Try.pinned (OpenSpec.ofChange mixListsSpec)

/-- ITS FALSE NEIGHBOUR: 'it returns false'. Refute it at one input. -/
def mixListsWrong : ChangeSpec := { name := "mixLists", fn := fun _ => fun
  | [d1, d2, d3] => { results := [.lit (.bool false)], args := [d1, d2, d3] }
  | _ => none }
def MixListsWrongFalsely : Prop := mixListsRow.holds Try.pinned (OpenSpec.ofChange mixListsWrong)

/- THE SECOND FORM. 'bulk': how many values and letters a reading holds, each counted each time it is reached (what is shared counts as often as it is met; a slice's spare places count too). A statement '..UptoSaid' is the law's where the arguments, and the package variables that the reading takes, are together of bulk at most 1048576: NARROWER than '..Said'. Prove '..Said' where nothing that the law and all that it calls make is longer than what came in: it says more and counts as full. Else prove '..UptoSaid'. A law counts once. -/
mutual
def uptoBulk {H : Type} : DataW H → Nat
  | .lit (.string bytes) => bytes.length + 1
  | .lit _ => 1
  | .nil => 1
  | .ptr d => uptoBulk d + 1
  | .slice elems spare => uptoBulkAll elems + uptoBulkAll spare + 1
  | .agg parts => uptoBulkAll parts + 1
  | .iface _ d => uptoBulk d + 1
  | .map entries => uptoBulkEntries entries + 1
  | .held _ => 1
def uptoBulkAll {H : Type} : List (DataW H) → Nat
  | [] => 0
  | d :: r => uptoBulk d + uptoBulkAll r
def uptoBulkEntries {H : Type} : List (Lit × DataW H) → Nat
  | [] => 0
  | x :: r => uptoBulkEntry x + uptoBulkEntries r
def uptoBulkEntry {H : Type} : Lit × DataW H → Nat
  | (.string bytes, d) => bytes.length + uptoBulk d + 1
  | (_, d) => uptoBulk d + 1
 end
def uptoSmall : (H : Type) → List (DataW H) → Bool := fun _ ds => decide (uptoBulkAll ds ≤ 1048576)
def OpenSpec.upto (s : _root_.Go.ChangeSpec) : _root_.Go.OpenSpec := { _root_.Go.OpenSpec.ofChange s with cond := some uptoSmall }

/-- 'distributarylaw02.MixOnes', WHERE WHAT IT READS IS OF BULK AT MOST 1048576: true; the input reads as it did. -/
def mixOnesUptoRow : OpenClaim := { program := "ytmlbdfcbbiclfaa", sum := "09722b5531bfb414c63d8bc473bc9e6aaeed84f626a0472b688239fe19689863", func := "distributary/distributarylaw02.MixOnes", spec := "mixOnes", apart := false, narrowed := true }
def MixOnesUptoSaid : Prop := mixOnesUptoRow.holds Try.pinned (OpenSpec.upto mixOnesSpec)

/-- 'distributarylaw02.MixGens', WHERE WHAT IT READS IS OF BULK AT MOST 1048576: true; the input reads as it did. -/
def mixGensUptoRow : OpenClaim := { program := "ytmlbdfcbbiclfaa", sum := "09722b5531bfb414c63d8bc473bc9e6aaeed84f626a0472b688239fe19689863", func := "distributary/distributarylaw02.MixGens", spec := "mixGens", apart := false, narrowed := true }
def MixGensUptoSaid : Prop := mixGensUptoRow.holds Try.pinned (OpenSpec.upto mixGensSpec)

/-- 'distributarylaw38.HistBuckets', WHERE WHAT IT READS IS OF BULK AT MOST 1048576: true; the input reads as it did. -/
def histBucketsUptoRow : OpenClaim := { program := "ytmlbdfcbbiclfaa", sum := "09722b5531bfb414c63d8bc473bc9e6aaeed84f626a0472b688239fe19689863", func := "distributary/distributarylaw38.HistBuckets", spec := "histBuckets", apart := false, narrowed := true }
def HistBucketsUptoSaid : Prop := histBucketsUptoRow.holds Try.pinned (OpenSpec.upto histBucketsSpec)

/-- 'distributarylaw02.MixBelows', WHERE WHAT IT READS IS OF BULK AT MOST 1048576: true; the input reads as it did. -/
def mixBelowsUptoRow : OpenClaim := { program := "ytmlbdfcbbiclfaa", sum := "09722b5531bfb414c63d8bc473bc9e6aaeed84f626a0472b688239fe19689863", func := "distributary/distributarylaw02.MixBelows", spec := "mixBelows", apart := false, narrowed := true }
def MixBelowsUptoSaid : Prop := mixBelowsUptoRow.holds Try.pinned (OpenSpec.upto mixBelowsSpec)

/-- 'distributarylaw02.MixLists', WHERE WHAT IT READS IS OF BULK AT MOST 1048576: true; the input reads as it did. -/
def mixListsUptoRow : OpenClaim := { program := "ytmlbdfcbbiclfaa", sum := "09722b5531bfb414c63d8bc473bc9e6aaeed84f626a0472b688239fe19689863", func := "distributary/distributarylaw02.MixLists", spec := "mixLists", apart := false, narrowed := true }
def MixListsUptoSaid : Prop := mixListsUptoRow.holds Try.pinned (OpenSpec.upto mixListsSpec)

end Rows
end Go.Proofs.Ytmlbdfcbbiclfaa
