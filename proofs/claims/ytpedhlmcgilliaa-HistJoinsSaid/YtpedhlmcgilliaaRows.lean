/-
  No cell of these rows narrows 'for every input' (looked for: loops, veiled, ifaces, maps, wideKeys, modest, calm, conditions, laid).
  DERIVED. THE GIVEN ROWS OF THIS SEAT. 9 by the template 'for every input the law returns true; each argument reads behind the call as it read before'; 0 by the template 'total and deterministic' (their statements: YtpedhlmcgilliaaTotals.lean).
  GIVEN WITH THE SEED: the statements are not yours to turn. If you find one false, say at which input.
  Laid BY PROGRAM, IN A SANDBOX (cutbox-rows.mjs): the forced cells as the released guide's own fill.sh prints them over the translation 1b3028d47358034a… (all of the seat's roots in one cut). By AI agents, Wed Nov 11 2026. No macro, syntax, notation, axiom, sorry.
-/
import Derived.Test.YtpedhlmcgilliaaChecked
import GoSem.Claim
import GoSem.ClaimJoined
import GoSem.ClaimMapViews
import Derived.JoinedTies
import Derived.KernelRfl
namespace Go.Proofs.Ytpedhlmcgilliaa
/- THE CELL 'sum', in the pinned program and in every row, IS THE sha256 OF THE DUMP (.gsa) THAT YtpedhlmcgilliaaProg.lean LOADS. Nothing in Lean hashes anything: it is a label: what it is worth is what the hold of that sum in a sandbox is worth. -/
noncomputable def Try.pinned : Pinned := { name := "ytpedhlmcgilliaa", sum := "1b3028d47358034a0ea8f8b63d49c462df3a1e04861db379b024831117e57e95", checked := Try.checked }
namespace Rows
def none {H : Type} : Left H := { results := [], args := [] }

/-- 'distributarylaw25.StrawPicks': WHATEVER THE INPUT: true; the input reads as it did. -/
def strawPicksSpec : ChangeSpec := { name := "strawPicks", fn := fun _ => fun
  | [d1, d2, d3] => { results := [.lit (.bool true)], args := [d1, d2, d3] }
  | _ => none }
def strawPicksRow : OpenClaim := { program := "ytpedhlmcgilliaa", sum := "1b3028d47358034a0ea8f8b63d49c462df3a1e04861db379b024831117e57e95", func := "distributary/distributarylaw25.StrawPicks", spec := "strawPicks", inPlace := ["sync/atomic.LoadUint32", "(*internal/sync.Mutex).Lock", "internal/race.Disable", "sync/atomic.CompareAndSwapInt32", "internal/race.Enable", "internal/race.Acquire", "(*internal/sync.Mutex).lockSlow", "internal/sync.runtime_canSpin", "internal/sync.runtime_doSpin", "internal/sync.throw", "internal/sync.runtime_nanotime", "internal/sync.runtime_SemacquireMutex", "sync/atomic.AddInt32", "(*internal/sync.Mutex).Unlock", "internal/race.ReleaseMerge", "(*internal/sync.Mutex).unlockSlow", "internal/sync.fatal", "internal/sync.runtime_Semrelease", "sync/atomic.StoreUint32"], unfollowed := true, recurses := true, apart := false }
def StrawPicksSaid : Prop := strawPicksRow.holds Try.pinned (OpenSpec.ofChange strawPicksSpec)

/-- ITS FALSE NEIGHBOUR: 'it returns false'. Refute it at one input. -/
def strawPicksWrong : ChangeSpec := { name := "strawPicks", fn := fun _ => fun
  | [d1, d2, d3] => { results := [.lit (.bool false)], args := [d1, d2, d3] }
  | _ => none }
def StrawPicksWrongFalsely : Prop := strawPicksRow.holds Try.pinned (OpenSpec.ofChange strawPicksWrong)

/-- 'distributarylaw25.StrawMoves': WHATEVER THE INPUT: true; the input reads as it did. -/
def strawMovesSpec : ChangeSpec := { name := "strawMoves", fn := fun _ => fun
  | [d1, d2, d3, d4] => { results := [.lit (.bool true)], args := [d1, d2, d3, d4] }
  | _ => none }
def strawMovesRow : OpenClaim := { program := "ytpedhlmcgilliaa", sum := "1b3028d47358034a0ea8f8b63d49c462df3a1e04861db379b024831117e57e95", func := "distributary/distributarylaw25.StrawMoves", spec := "strawMoves", inPlace := ["sync/atomic.LoadUint32", "(*internal/sync.Mutex).Lock", "internal/race.Disable", "sync/atomic.CompareAndSwapInt32", "internal/race.Enable", "internal/race.Acquire", "(*internal/sync.Mutex).lockSlow", "internal/sync.runtime_canSpin", "internal/sync.runtime_doSpin", "internal/sync.throw", "internal/sync.runtime_nanotime", "internal/sync.runtime_SemacquireMutex", "sync/atomic.AddInt32", "(*internal/sync.Mutex).Unlock", "internal/race.ReleaseMerge", "(*internal/sync.Mutex).unlockSlow", "internal/sync.fatal", "internal/sync.runtime_Semrelease", "sync/atomic.StoreUint32"], unfollowed := true, recurses := true, apart := false }
def StrawMovesSaid : Prop := strawMovesRow.holds Try.pinned (OpenSpec.ofChange strawMovesSpec)

/-- ITS FALSE NEIGHBOUR: 'it returns false'. Refute it at one input. -/
def strawMovesWrong : ChangeSpec := { name := "strawMoves", fn := fun _ => fun
  | [d1, d2, d3, d4] => { results := [.lit (.bool false)], args := [d1, d2, d3, d4] }
  | _ => none }
def StrawMovesWrongFalsely : Prop := strawMovesRow.holds Try.pinned (OpenSpec.ofChange strawMovesWrong)

/-- 'distributarylaw25.StrawCounts': WHATEVER THE INPUT: true; the input reads as it did. -/
def strawCountsSpec : ChangeSpec := { name := "strawCounts", fn := fun _ => fun
  | [d1, d2, d3] => { results := [.lit (.bool true)], args := [d1, d2, d3] }
  | _ => none }
def strawCountsRow : OpenClaim := { program := "ytpedhlmcgilliaa", sum := "1b3028d47358034a0ea8f8b63d49c462df3a1e04861db379b024831117e57e95", func := "distributary/distributarylaw25.StrawCounts", spec := "strawCounts", inPlace := ["sync/atomic.LoadUint32", "(*internal/sync.Mutex).Lock", "internal/race.Disable", "sync/atomic.CompareAndSwapInt32", "internal/race.Enable", "internal/race.Acquire", "(*internal/sync.Mutex).lockSlow", "internal/sync.runtime_canSpin", "internal/sync.runtime_doSpin", "internal/sync.throw", "internal/sync.runtime_nanotime", "internal/sync.runtime_SemacquireMutex", "sync/atomic.AddInt32", "(*internal/sync.Mutex).Unlock", "internal/race.ReleaseMerge", "(*internal/sync.Mutex).unlockSlow", "internal/sync.fatal", "internal/sync.runtime_Semrelease", "sync/atomic.StoreUint32"], unfollowed := true, recurses := true, apart := false }
def StrawCountsSaid : Prop := strawCountsRow.holds Try.pinned (OpenSpec.ofChange strawCountsSpec)

/-- ITS FALSE NEIGHBOUR: 'it returns false'. Refute it at one input. -/
def strawCountsWrong : ChangeSpec := { name := "strawCounts", fn := fun _ => fun
  | [d1, d2, d3] => { results := [.lit (.bool false)], args := [d1, d2, d3] }
  | _ => none }
def StrawCountsWrongFalsely : Prop := strawCountsRow.holds Try.pinned (OpenSpec.ofChange strawCountsWrong)

/-- 'distributarylaw39.RingPrimes': WHATEVER THE INPUT: true; the input reads as it did. -/
def ringPrimesSpec : ChangeSpec := { name := "ringPrimes", fn := fun _ => fun
  | [d] => { results := [.lit (.bool true)], args := [d] }
  | _ => none }
def ringPrimesRow : OpenClaim := { program := "ytpedhlmcgilliaa", sum := "1b3028d47358034a0ea8f8b63d49c462df3a1e04861db379b024831117e57e95", func := "distributary/distributarylaw39.RingPrimes", spec := "ringPrimes", apart := false }
def RingPrimesSaid : Prop := ringPrimesRow.holds Try.pinned (OpenSpec.ofChange ringPrimesSpec)

/-- ITS FALSE NEIGHBOUR: 'it returns false'. Refute it at one input. -/
def ringPrimesWrong : ChangeSpec := { name := "ringPrimes", fn := fun _ => fun
  | [d] => { results := [.lit (.bool false)], args := [d] }
  | _ => none }
def RingPrimesWrongFalsely : Prop := ringPrimesRow.holds Try.pinned (OpenSpec.ofChange ringPrimesWrong)

/-- 'distributarylaw39.RingPicks': WHATEVER THE INPUT: true; the input reads as it did. -/
def ringPicksSpec : ChangeSpec := { name := "ringPicks", fn := fun _ => fun
  | [d1, d2, d3, d4] => { results := [.lit (.bool true)], args := [d1, d2, d3, d4] }
  | _ => none }
def ringPicksRow : OpenClaim := { program := "ytpedhlmcgilliaa", sum := "1b3028d47358034a0ea8f8b63d49c462df3a1e04861db379b024831117e57e95", func := "distributary/distributarylaw39.RingPicks", spec := "ringPicks", apart := false }
def RingPicksSaid : Prop := ringPicksRow.holds Try.pinned (OpenSpec.ofChange ringPicksSpec)

/-- ITS FALSE NEIGHBOUR: 'it returns false'. Refute it at one input. -/
def ringPicksWrong : ChangeSpec := { name := "ringPicks", fn := fun _ => fun
  | [d1, d2, d3, d4] => { results := [.lit (.bool false)], args := [d1, d2, d3, d4] }
  | _ => none }
def RingPicksWrongFalsely : Prop := ringPicksRow.holds Try.pinned (OpenSpec.ofChange ringPicksWrong)

/-- 'distributarylaw39.RingMoves': WHATEVER THE INPUT: true; the input reads as it did. -/
def ringMovesSpec : ChangeSpec := { name := "ringMoves", fn := fun _ => fun
  | [d1, d2, d3, d4, d5] => { results := [.lit (.bool true)], args := [d1, d2, d3, d4, d5] }
  | _ => none }
def ringMovesRow : OpenClaim := { program := "ytpedhlmcgilliaa", sum := "1b3028d47358034a0ea8f8b63d49c462df3a1e04861db379b024831117e57e95", func := "distributary/distributarylaw39.RingMoves", spec := "ringMoves", apart := false }
def RingMovesSaid : Prop := ringMovesRow.holds Try.pinned (OpenSpec.ofChange ringMovesSpec)

/-- ITS FALSE NEIGHBOUR: 'it returns false'. Refute it at one input. -/
def ringMovesWrong : ChangeSpec := { name := "ringMoves", fn := fun _ => fun
  | [d1, d2, d3, d4, d5] => { results := [.lit (.bool false)], args := [d1, d2, d3, d4, d5] }
  | _ => none }
def RingMovesWrongFalsely : Prop := ringMovesRow.holds Try.pinned (OpenSpec.ofChange ringMovesWrong)

/-- 'distributarylaw38.HistSays': WHATEVER THE INPUT: true; the input reads as it did. -/
def histSaysSpec : ChangeSpec := { name := "histSays", fn := fun _ => fun
  | [d1, d2] => { results := [.lit (.bool true)], args := [d1, d2] }
  | _ => none }
def histSaysRow : OpenClaim := { program := "ytpedhlmcgilliaa", sum := "1b3028d47358034a0ea8f8b63d49c462df3a1e04861db379b024831117e57e95", func := "distributary/distributarylaw38.HistSays", spec := "histSays", inPlace := ["math/bits.Add64"], unfollowed := true, recurses := true, named := ["math/bits.divideError", "math/bits.overflowError"], apart := false }
def HistSaysSaid : Prop := histSaysRow.holds Try.pinned (OpenSpec.ofChange histSaysSpec)

/-- ITS FALSE NEIGHBOUR: 'it returns false'. Refute it at one input. -/
def histSaysWrong : ChangeSpec := { name := "histSays", fn := fun _ => fun
  | [d1, d2] => { results := [.lit (.bool false)], args := [d1, d2] }
  | _ => none }
def HistSaysWrongFalsely : Prop := histSaysRow.holds Try.pinned (OpenSpec.ofChange histSaysWrong)

/-- 'distributarylaw38.HistNobody': WHATEVER THE INPUT: true; the input reads as it did. -/
def histNobodySpec : ChangeSpec := { name := "histNobody", fn := fun _ => fun
  | [d1, d2] => { results := [.lit (.bool true)], args := [d1, d2] }
  | _ => none }
def histNobodyRow : OpenClaim := { program := "ytpedhlmcgilliaa", sum := "1b3028d47358034a0ea8f8b63d49c462df3a1e04861db379b024831117e57e95", func := "distributary/distributarylaw38.HistNobody", spec := "histNobody", inPlace := ["math/bits.Add64"], unfollowed := true, recurses := true, named := ["math/bits.divideError", "math/bits.overflowError"], apart := false }
def HistNobodySaid : Prop := histNobodyRow.holds Try.pinned (OpenSpec.ofChange histNobodySpec)

/-- ITS FALSE NEIGHBOUR: 'it returns false'. Refute it at one input. -/
def histNobodyWrong : ChangeSpec := { name := "histNobody", fn := fun _ => fun
  | [d1, d2] => { results := [.lit (.bool false)], args := [d1, d2] }
  | _ => none }
def HistNobodyWrongFalsely : Prop := histNobodyRow.holds Try.pinned (OpenSpec.ofChange histNobodyWrong)

/-- 'distributarylaw38.HistJoins': WHATEVER THE INPUT: true; the input reads as it did. -/
def histJoinsSpec : ChangeSpec := { name := "histJoins", fn := fun _ => fun
  | [d1, d2, d3] => { results := [.lit (.bool true)], args := [d1, d2, d3] }
  | _ => none }
def histJoinsRow : OpenClaim := { program := "ytpedhlmcgilliaa", sum := "1b3028d47358034a0ea8f8b63d49c462df3a1e04861db379b024831117e57e95", func := "distributary/distributarylaw38.HistJoins", spec := "histJoins", inPlace := ["math/bits.Add64"], unfollowed := true, recurses := true, named := ["math/bits.divideError", "math/bits.overflowError"], apart := false }
def HistJoinsSaid : Prop := histJoinsRow.holds Try.pinned (OpenSpec.ofChange histJoinsSpec)

/-- ITS FALSE NEIGHBOUR: 'it returns false'. Refute it at one input. -/
def histJoinsWrong : ChangeSpec := { name := "histJoins", fn := fun _ => fun
  | [d1, d2, d3] => { results := [.lit (.bool false)], args := [d1, d2, d3] }
  | _ => none }
def HistJoinsWrongFalsely : Prop := histJoinsRow.holds Try.pinned (OpenSpec.ofChange histJoinsWrong)

/- THE SECOND FORM. 'bulk': how many values and letters a reading holds, each counted each time it is reached (what is shared counts as often as it is met; a slice's spare places count too). A statement '..UptoSaid' is the law's where the arguments, and the package variables that the reading takes, are together of bulk at most 1048576: NARROWER than '..Said'. Prove '..Said' where nothing that the law and all that it calls make is longer than what came in: it says more and counts as full. Else prove '..UptoSaid'. A law counts once. -/
mutual
def uptoBulk {H : Type} : DataW H → Nat
  | .lit (.string bytes) => bytes.length + 1
  | .lit _ => 1
  | .nil => 1
  | .ptr d => uptoBulk d + 1
  | .slice elems spare => uptoBulkAll elems + uptoBulkAll spare + 1
  | .agg parts => uptoBulkAll parts + 1
  | .iface _ d => uptoBulk d + 1
  | .map entries => uptoBulkEntries entries + 1
  | .held _ => 1
def uptoBulkAll {H : Type} : List (DataW H) → Nat
  | [] => 0
  | d :: r => uptoBulk d + uptoBulkAll r
def uptoBulkEntries {H : Type} : List (Lit × DataW H) → Nat
  | [] => 0
  | x :: r => uptoBulkEntry x + uptoBulkEntries r
def uptoBulkEntry {H : Type} : Lit × DataW H → Nat
  | (.string bytes, d) => bytes.length + uptoBulk d + 1
  | (_, d) => uptoBulk d + 1
 end
def uptoSmall : (H : Type) → List (DataW H) → Bool := fun _ ds => decide (uptoBulkAll ds ≤ 1048576)
def OpenSpec.upto (s : _root_.Go.ChangeSpec) : _root_.Go.OpenSpec := { _root_.Go.OpenSpec.ofChange s with cond := some uptoSmall }

/-- 'distributarylaw25.StrawPicks', WHERE WHAT IT READS IS OF BULK AT MOST 1048576: true; the input reads as it did. -/
def strawPicksUptoRow : OpenClaim := { program := "ytpedhlmcgilliaa", sum := "1b3028d47358034a0ea8f8b63d49c462df3a1e04861db379b024831117e57e95", func := "distributary/distributarylaw25.StrawPicks", spec := "strawPicks", inPlace := ["sync/atomic.LoadUint32", "(*internal/sync.Mutex).Lock", "internal/race.Disable", "sync/atomic.CompareAndSwapInt32", "internal/race.Enable", "internal/race.Acquire", "(*internal/sync.Mutex).lockSlow", "internal/sync.runtime_canSpin", "internal/sync.runtime_doSpin", "internal/sync.throw", "internal/sync.runtime_nanotime", "internal/sync.runtime_SemacquireMutex", "sync/atomic.AddInt32", "(*internal/sync.Mutex).Unlock", "internal/race.ReleaseMerge", "(*internal/sync.Mutex).unlockSlow", "internal/sync.fatal", "internal/sync.runtime_Semrelease", "sync/atomic.StoreUint32"], unfollowed := true, recurses := true, apart := false, narrowed := true }
def StrawPicksUptoSaid : Prop := strawPicksUptoRow.holds Try.pinned (OpenSpec.upto strawPicksSpec)

/-- 'distributarylaw25.StrawMoves', WHERE WHAT IT READS IS OF BULK AT MOST 1048576: true; the input reads as it did. -/
def strawMovesUptoRow : OpenClaim := { program := "ytpedhlmcgilliaa", sum := "1b3028d47358034a0ea8f8b63d49c462df3a1e04861db379b024831117e57e95", func := "distributary/distributarylaw25.StrawMoves", spec := "strawMoves", inPlace := ["sync/atomic.LoadUint32", "(*internal/sync.Mutex).Lock", "internal/race.Disable", "sync/atomic.CompareAndSwapInt32", "internal/race.Enable", "internal/race.Acquire", "(*internal/sync.Mutex).lockSlow", "internal/sync.runtime_canSpin", "internal/sync.runtime_doSpin", "internal/sync.throw", "internal/sync.runtime_nanotime", "internal/sync.runtime_SemacquireMutex", "sync/atomic.AddInt32", "(*internal/sync.Mutex).Unlock", "internal/race.ReleaseMerge", "(*internal/sync.Mutex).unlockSlow", "internal/sync.fatal", "internal/sync.runtime_Semrelease", "sync/atomic.StoreUint32"], unfollowed := true, recurses := true, apart := false, narrowed := true }
def StrawMovesUptoSaid : Prop := strawMovesUptoRow.holds Try.pinned (OpenSpec.upto strawMovesSpec)

/-- 'distributarylaw25.StrawCounts', WHERE WHAT IT READS IS OF BULK AT MOST 1048576: true; the input reads as it did. -/
def strawCountsUptoRow : OpenClaim := { program := "ytpedhlmcgilliaa", sum := "1b3028d47358034a0ea8f8b63d49c462df3a1e04861db379b024831117e57e95", func := "distributary/distributarylaw25.StrawCounts", spec := "strawCounts", inPlace := ["sync/atomic.LoadUint32", "(*internal/sync.Mutex).Lock", "internal/race.Disable", "sync/atomic.CompareAndSwapInt32", "internal/race.Enable", "internal/race.Acquire", "(*internal/sync.Mutex).lockSlow", "internal/sync.runtime_canSpin", "internal/sync.runtime_doSpin", "internal/sync.throw", "internal/sync.runtime_nanotime", "internal/sync.runtime_SemacquireMutex", "sync/atomic.AddInt32", "(*internal/sync.Mutex).Unlock", "internal/race.ReleaseMerge", "(*internal/sync.Mutex).unlockSlow", "internal/sync.fatal", "internal/sync.runtime_Semrelease", "sync/atomic.StoreUint32"], unfollowed := true, recurses := true, apart := false, narrowed := true }
def StrawCountsUptoSaid : Prop := strawCountsUptoRow.holds Try.pinned (OpenSpec.upto strawCountsSpec)

/-- 'distributarylaw39.RingPrimes', WHERE WHAT IT READS IS OF BULK AT MOST 1048576: true; the input reads as it did. -/
def ringPrimesUptoRow : OpenClaim := { program := "ytpedhlmcgilliaa", sum := "1b3028d47358034a0ea8f8b63d49c462df3a1e04861db379b024831117e57e95", func := "distributary/distributarylaw39.RingPrimes", spec := "ringPrimes", apart := false, narrowed := true }
def RingPrimesUptoSaid : Prop := ringPrimesUptoRow.holds Try.pinned (OpenSpec.upto ringPrimesSpec)

/-- 'distributarylaw39.RingPicks', WHERE WHAT IT READS IS OF BULK AT MOST 1048576: true; the input reads as it did. -/
def ringPicksUptoRow : OpenClaim := { program := "ytpedhlmcgilliaa", sum := "1b3028d47358034a0ea8f8b63d49c462df3a1e04861db379b024831117e57e95", func := "distributary/distributarylaw39.RingPicks", spec := "ringPicks", apart := false, narrowed := true }
def RingPicksUptoSaid : Prop := ringPicksUptoRow.holds Try.pinned (OpenSpec.upto ringPicksSpec)

/-- 'distributarylaw39.RingMoves', WHERE WHAT IT READS IS OF BULK AT MOST 1048576: true; the input reads as it did. -/
def ringMovesUptoRow : OpenClaim := { program := "ytpedhlmcgilliaa", sum := "1b3028d47358034a0ea8f8b63d49c462df3a1e04861db379b024831117e57e95", func := "distributary/distributarylaw39.RingMoves", spec := "ringMoves", apart := false, narrowed := true }
def RingMovesUptoSaid : Prop := ringMovesUptoRow.holds Try.pinned (OpenSpec.upto ringMovesSpec)

/-- 'distributarylaw38.HistSays', WHERE WHAT IT READS IS OF BULK AT MOST 1048576: true; the input reads as it did. -/
def histSaysUptoRow : OpenClaim := { program := "ytpedhlmcgilliaa", sum := "1b3028d47358034a0ea8f8b63d49c462df3a1e04861db379b024831117e57e95", func := "distributary/distributarylaw38.HistSays", spec := "histSays", inPlace := ["math/bits.Add64"], unfollowed := true, recurses := true, named := ["math/bits.divideError", "math/bits.overflowError"], apart := false, narrowed := true }
def HistSaysUptoSaid : Prop := histSaysUptoRow.holds Try.pinned (OpenSpec.upto histSaysSpec)

/-- 'distributarylaw38.HistNobody', WHERE WHAT IT READS IS OF BULK AT MOST 1048576: true; the input reads as it did. -/
def histNobodyUptoRow : OpenClaim := { program := "ytpedhlmcgilliaa", sum := "1b3028d47358034a0ea8f8b63d49c462df3a1e04861db379b024831117e57e95", func := "distributary/distributarylaw38.HistNobody", spec := "histNobody", inPlace := ["math/bits.Add64"], unfollowed := true, recurses := true, named := ["math/bits.divideError", "math/bits.overflowError"], apart := false, narrowed := true }
def HistNobodyUptoSaid : Prop := histNobodyUptoRow.holds Try.pinned (OpenSpec.upto histNobodySpec)

/-- 'distributarylaw38.HistJoins', WHERE WHAT IT READS IS OF BULK AT MOST 1048576: true; the input reads as it did. -/
def histJoinsUptoRow : OpenClaim := { program := "ytpedhlmcgilliaa", sum := "1b3028d47358034a0ea8f8b63d49c462df3a1e04861db379b024831117e57e95", func := "distributary/distributarylaw38.HistJoins", spec := "histJoins", inPlace := ["math/bits.Add64"], unfollowed := true, recurses := true, named := ["math/bits.divideError", "math/bits.overflowError"], apart := false, narrowed := true }
def HistJoinsUptoSaid : Prop := histJoinsUptoRow.holds Try.pinned (OpenSpec.upto histJoinsSpec)

end Rows
end Go.Proofs.Ytpedhlmcgilliaa
