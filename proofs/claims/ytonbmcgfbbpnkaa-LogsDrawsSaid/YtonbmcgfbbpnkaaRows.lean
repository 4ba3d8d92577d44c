/-
  No cell of these rows narrows 'for every input' (looked for: loops, veiled, ifaces, maps, wideKeys, modest, calm, conditions, laid).
  DERIVED. THE GIVEN ROWS OF THIS SEAT. 29 by the template 'for every input the law returns true; each argument reads behind the call as it read before'; 0 by the template 'total and deterministic' (their statements: YtonbmcgfbbpnkaaTotals.lean).
  GIVEN WITH THE SEED: the statements are not yours to turn. If you find one false, say at which input.
  Laid BY PROGRAM, IN A SANDBOX (cutbox-rows.mjs): the forced cells as the released guide's own fill.sh prints them over the translation 80b2f7545dca1da6… (all of the seat's roots in one cut). By AI agents, Wed Nov 11 2026. No macro, syntax, notation, axiom, sorry.
-/
import Derived.Test.YtonbmcgfbbpnkaaChecked
import GoSem.Claim
import GoSem.ClaimJoined
import GoSem.ClaimMapViews
import Derived.JoinedTies
import Derived.KernelRfl
namespace Go.Proofs.Ytonbmcgfbbpnkaa
/- THE CELL 'sum', in the pinned program and in every row, IS THE sha256 OF THE DUMP (.gsa) THAT YtonbmcgfbbpnkaaProg.lean LOADS. Nothing in Lean hashes anything: it is a label: what it is worth is what the hold of that sum in a sandbox is worth. -/
noncomputable def Try.pinned : Pinned := { name := "ytonbmcgfbbpnkaa", sum := "80b2f7545dca1da693218b07071ca999bdefb431820c2910fab3618bd2c77ce5", checked := Try.checked }
namespace Rows
def none {H : Type} : Left H := { results := [], args := [] }

/-- 'distributarylaw01.WideProducts': WHATEVER THE INPUT: true; the input reads as it did. -/
def wideProductsSpec : ChangeSpec := { name := "wideProducts", fn := fun _ => fun
  | [d1, d2, d3, d4] => { results := [.lit (.bool true)], args := [d1, d2, d3, d4] }
  | _ => none }
def wideProductsRow : OpenClaim := { program := "ytonbmcgfbbpnkaa", sum := "80b2f7545dca1da693218b07071ca999bdefb431820c2910fab3618bd2c77ce5", func := "distributary/distributarylaw01.WideProducts", spec := "wideProducts", inPlace := ["math/bits.Add64"], apart := false }
def WideProductsSaid : Prop := wideProductsRow.holds Try.pinned (OpenSpec.ofChange wideProductsSpec)

/-- ITS FALSE NEIGHBOUR: 'it returns false'. Refute it at one input. -/
def wideProductsWrong : ChangeSpec := { name := "wideProducts", fn := fun _ => fun
  | [d1, d2, d3, d4] => { results := [.lit (.bool false)], args := [d1, d2, d3, d4] }
  | _ => none }
def WideProductsWrongFalsely : Prop := wideProductsRow.holds Try.pinned (OpenSpec.ofChange wideProductsWrong)

/-- 'distributarylaw01.WideSums': WHATEVER THE INPUT: true; the input reads as it did. -/
def wideSumsSpec : ChangeSpec := { name := "wideSums", fn := fun _ => fun
  | [d] => { results := [.lit (.bool true)], args := [d] }
  | _ => none }
def wideSumsRow : OpenClaim := { program := "ytonbmcgfbbpnkaa", sum := "80b2f7545dca1da693218b07071ca999bdefb431820c2910fab3618bd2c77ce5", func := "distributary/distributarylaw01.WideSums", spec := "wideSums", inPlace := ["math/bits.Add64"], apart := false }
def WideSumsSaid : Prop := wideSumsRow.holds Try.pinned (OpenSpec.ofChange wideSumsSpec)

/-- ITS FALSE NEIGHBOUR: 'it returns false'. Refute it at one input. -/
def wideSumsWrong : ChangeSpec := { name := "wideSums", fn := fun _ => fun
  | [d] => { results := [.lit (.bool false)], args := [d] }
  | _ => none }
def WideSumsWrongFalsely : Prop := wideSumsRow.holds Try.pinned (OpenSpec.ofChange wideSumsWrong)

/-- 'distributarylaw01.WideFracs': WHATEVER THE INPUT: true; the input reads as it did. -/
def wideFracsSpec : ChangeSpec := { name := "wideFracs", fn := fun _ => fun
  | [d1, d2, d3] => { results := [.lit (.bool true)], args := [d1, d2, d3] }
  | _ => none }
def wideFracsRow : OpenClaim := { program := "ytonbmcgfbbpnkaa", sum := "80b2f7545dca1da693218b07071ca999bdefb431820c2910fab3618bd2c77ce5", func := "distributary/distributarylaw01.WideFracs", spec := "wideFracs", apart := false }
def WideFracsSaid : Prop := wideFracsRow.holds Try.pinned (OpenSpec.ofChange wideFracsSpec)

/-- ITS FALSE NEIGHBOUR: 'it returns false'. Refute it at one input. -/
def wideFracsWrong : ChangeSpec := { name := "wideFracs", fn := fun _ => fun
  | [d1, d2, d3] => { results := [.lit (.bool false)], args := [d1, d2, d3] }
  | _ => none }
def WideFracsWrongFalsely : Prop := wideFracsRow.holds Try.pinned (OpenSpec.ofChange wideFracsWrong)

/-- 'distributarylaw01.WideQuotients': WHATEVER THE INPUT: true; the input reads as it did. -/
def wideQuotientsSpec : ChangeSpec := { name := "wideQuotients", fn := fun _ => fun
  | [d1, d2, d3, d4] => { results := [.lit (.bool true)], args := [d1, d2, d3, d4] }
  | _ => none }
def wideQuotientsRow : OpenClaim := { program := "ytonbmcgfbbpnkaa", sum := "80b2f7545dca1da693218b07071ca999bdefb431820c2910fab3618bd2c77ce5", func := "distributary/distributarylaw01.WideQuotients", spec := "wideQuotients", named := ["math/bits.divideError", "math/bits.overflowError"], apart := false }
def WideQuotientsSaid : Prop := wideQuotientsRow.holds Try.pinned (OpenSpec.ofChange wideQuotientsSpec)

/-- ITS FALSE NEIGHBOUR: 'it returns false'. Refute it at one input. -/
def wideQuotientsWrong : ChangeSpec := { name := "wideQuotients", fn := fun _ => fun
  | [d1, d2, d3, d4] => { results := [.lit (.bool false)], args := [d1, d2, d3, d4] }
  | _ => none }
def WideQuotientsWrongFalsely : Prop := wideQuotientsRow.holds Try.pinned (OpenSpec.ofChange wideQuotientsWrong)

/-- 'distributarylaw02.MixOnes': WHATEVER THE INPUT: true; the input reads as it did. -/
def mixOnesSpec : ChangeSpec := { name := "mixOnes", fn := fun _ => fun
  | [d] => { results := [.lit (.bool true)], args := [d] }
  | _ => none }
def mixOnesRow : OpenClaim := { program := "ytonbmcgfbbpnkaa", sum := "80b2f7545dca1da693218b07071ca999bdefb431820c2910fab3618bd2c77ce5", func := "distributary/distributarylaw02.MixOnes", spec := "mixOnes", apart := false }
def MixOnesSaid : Prop := mixOnesRow.holds Try.pinned (OpenSpec.ofChange mixOnesSpec)

/-- ITS FALSE NEIGHBOUR: 'it returns false'. Refute it at one input. -/
def mixOnesWrong : ChangeSpec := { name := "mixOnes", fn := fun _ => fun
  | [d] => { results := [.lit (.bool false)], args := [d] }
  | _ => none }
def MixOnesWrongFalsely : Prop := mixOnesRow.holds Try.pinned (OpenSpec.ofChange mixOnesWrong)

/-- 'distributarylaw02.MixGens': WHATEVER THE INPUT: true; the input reads as it did. -/
def mixGensSpec : ChangeSpec := { name := "mixGens", fn := fun _ => fun
  | [d1, d2] => { results := [.lit (.bool true)], args := [d1, d2] }
  | _ => none }
def mixGensRow : OpenClaim := { program := "ytonbmcgfbbpnkaa", sum := "80b2f7545dca1da693218b07071ca999bdefb431820c2910fab3618bd2c77ce5", func := "distributary/distributarylaw02.MixGens", spec := "mixGens", apart := false }
def MixGensSaid : Prop := mixGensRow.holds Try.pinned (OpenSpec.ofChange mixGensSpec)

/-- ITS FALSE NEIGHBOUR: 'it returns false'. Refute it at one input. -/
def mixGensWrong : ChangeSpec := { name := "mixGens", fn := fun _ => fun
  | [d1, d2] => { results := [.lit (.bool false)], args := [d1, d2] }
  | _ => none }
def MixGensWrongFalsely : Prop := mixGensRow.holds Try.pinned (OpenSpec.ofChange mixGensWrong)

/-- 'distributarylaw02.MixBelows': WHATEVER THE INPUT: true; the input reads as it did. -/
def mixBelowsSpec : ChangeSpec := { name := "mixBelows", fn := fun _ => fun
  | [d1, d2] => { results := [.lit (.bool true)], args := [d1, d2] }
  | _ => none }
def mixBelowsRow : OpenClaim := { program := "ytonbmcgfbbpnkaa", sum := "80b2f7545dca1da693218b07071ca999bdefb431820c2910fab3618bd2c77ce5", func := "distributary/distributarylaw02.MixBelows", spec := "mixBelows", apart := false }
def MixBelowsSaid : Prop := mixBelowsRow.holds Try.pinned (OpenSpec.ofChange mixBelowsSpec)

/-- ITS FALSE NEIGHBOUR: 'it returns false'. Refute it at one input. -/
def mixBelowsWrong : ChangeSpec := { name := "mixBelows", fn := fun _ => fun
  | [d1, d2] => { results := [.lit (.bool false)], args := [d1, d2] }
  | _ => none }
def MixBelowsWrongFalsely : Prop := mixBelowsRow.holds Try.pinned (OpenSpec.ofChange mixBelowsWrong)

/-- 'distributarylaw02.MixLists': WHATEVER THE INPUT: true; the input reads as it did. -/
def mixListsSpec : ChangeSpec := { name := "mixLists", fn := fun _ => fun
  | [d1, d2, d3] => { results := [.lit (.bool true)], args := [d1, d2, d3] }
  | _ => none }
def mixListsRow : OpenClaim := { program := "ytonbmcgfbbpnkaa", sum := "80b2f7545dca1da693218b07071ca999bdefb431820c2910fab3618bd2c77ce5", func := "distributary/distributarylaw02.MixLists", spec := "mixLists", apart := false }
def MixListsSaid : Prop := mixListsRow.holds Try.pinned (OpenSpec.ofChange mixListsSpec)

/-- ITS FALSE NEIGHBOUR: 'it returns false'. Refute it at one input. -/
def mixListsWrong : ChangeSpec := { name := "mixLists", fn := fun _ => fun
  | [d1, d2, d3] => { results := [.lit (.bool false)], args := [d1, d2, d3] }
  | _ => none }
def MixListsWrongFalsely : Prop := mixListsRow.holds Try.pinned (OpenSpec.ofChange mixListsWrong)

/-- 'distributarylaw03.LogsNumbers': WHATEVER THE INPUT: true; the input reads as it did. -/
def logsNumbersSpec : ChangeSpec := { name := "logsNumbers", fn := fun _ => fun
  | [d] => { results := [.lit (.bool true)], args := [d] }
  | _ => none }
def logsNumbersRow : OpenClaim := { program := "ytonbmcgfbbpnkaa", sum := "80b2f7545dca1da693218b07071ca999bdefb431820c2910fab3618bd2c77ce5", func := "distributary/distributarylaw03.LogsNumbers", spec := "logsNumbers", apart := false }
def LogsNumbersSaid : Prop := logsNumbersRow.holds Try.pinned (OpenSpec.ofChange logsNumbersSpec)

/-- ITS FALSE NEIGHBOUR: 'it returns false'. Refute it at one input. -/
def logsNumbersWrong : ChangeSpec := { name := "logsNumbers", fn := fun _ => fun
  | [d] => { results := [.lit (.bool false)], args := [d] }
  | _ => none }
def LogsNumbersWrongFalsely : Prop := logsNumbersRow.holds Try.pinned (OpenSpec.ofChange logsNumbersWrong)

/-- 'distributarylaw03.LogsRise': WHATEVER THE INPUT: true; the input reads as it did. -/
def logsRiseSpec : ChangeSpec := { name := "logsRise", fn := fun _ => fun
  | [d1, d2, d3] => { results := [.lit (.bool true)], args := [d1, d2, d3] }
  | _ => none }
def logsRiseRow : OpenClaim := { program := "ytonbmcgfbbpnkaa", sum := "80b2f7545dca1da693218b07071ca999bdefb431820c2910fab3618bd2c77ce5", func := "distributary/distributarylaw03.LogsRise", spec := "logsRise", apart := false }
def LogsRiseSaid : Prop := logsRiseRow.holds Try.pinned (OpenSpec.ofChange logsRiseSpec)

/-- ITS FALSE NEIGHBOUR: 'it returns false'. Refute it at one input. -/
def logsRiseWrong : ChangeSpec := { name := "logsRise", fn := fun _ => fun
  | [d1, d2, d3] => { results := [.lit (.bool false)], args := [d1, d2, d3] }
  | _ => none }
def LogsRiseWrongFalsely : Prop := logsRiseRow.holds Try.pinned (OpenSpec.ofChange logsRiseWrong)

/-- 'distributarylaw03.LogsDraws': WHATEVER THE INPUT: true; the input reads as it did. -/
def logsDrawsSpec : ChangeSpec := { name := "logsDraws", fn := fun _ => fun
  | [d1, d2] => { results := [.lit (.bool true)], args := [d1, d2] }
  | _ => none }
def logsDrawsRow : OpenClaim := { program := "ytonbmcgfbbpnkaa", sum := "80b2f7545dca1da693218b07071ca999bdefb431820c2910fab3618bd2c77ce5", func := "distributary/distributarylaw03.LogsDraws", spec := "logsDraws", inPlace := ["sync/atomic.LoadUint32", "(*internal/sync.Mutex).Lock", "internal/race.Disable", "sync/atomic.CompareAndSwapInt32", "internal/race.Enable", "internal/race.Acquire", "(*internal/sync.Mutex).lockSlow", "internal/sync.runtime_canSpin", "internal/sync.runtime_doSpin", "internal/sync.throw", "internal/sync.runtime_nanotime", "internal/sync.runtime_SemacquireMutex", "sync/atomic.AddInt32", "(*internal/sync.Mutex).Unlock", "internal/race.ReleaseMerge", "(*internal/sync.Mutex).unlockSlow", "internal/sync.fatal", "internal/sync.runtime_Semrelease", "sync/atomic.StoreUint32"], unfollowed := true, recurses := true, apart := false }
def LogsDrawsSaid : Prop := logsDrawsRow.holds Try.pinned (OpenSpec.ofChange logsDrawsSpec)

/-- ITS FALSE NEIGHBOUR: 'it returns false'. Refute it at one input. -/
def logsDrawsWrong : ChangeSpec := { name := "logsDraws", fn := fun _ => fun
  | [d1, d2] => { results := [.lit (.bool false)], args := [d1, d2] }
  | _ => none }
def LogsDrawsWrongFalsely : Prop := logsDrawsRow.holds Try.pinned (OpenSpec.ofChange logsDrawsWrong)

/-- 'distributarylaw37.RateWaits': WHATEVER THE INPUT: true; the input reads as it did. -/
def rateWaitsSpec : ChangeSpec := { name := "rateWaits", fn := fun _ => fun
  | [d1, d2, d3] => { results := [.lit (.bool true)], args := [d1, d2, d3] }
  | _ => none }
def rateWaitsRow : OpenClaim := { program := "ytonbmcgfbbpnkaa", sum := "80b2f7545dca1da693218b07071ca999bdefb431820c2910fab3618bd2c77ce5", func := "distributary/distributarylaw37.RateWaits", spec := "rateWaits", apart := false }
def RateWaitsSaid : Prop := rateWaitsRow.holds Try.pinned (OpenSpec.ofChange rateWaitsSpec)

/-- ITS FALSE NEIGHBOUR: 'it returns false'. Refute it at one input. -/
def rateWaitsWrong : ChangeSpec := { name := "rateWaits", fn := fun _ => fun
  | [d1, d2, d3] => { results := [.lit (.bool false)], args := [d1, d2, d3] }
  | _ => none }
def RateWaitsWrongFalsely : Prop := rateWaitsRow.holds Try.pinned (OpenSpec.ofChange rateWaitsWrong)

/-- 'distributarylaw37.RatePlays': WHATEVER THE INPUT: true; the input reads as it did. -/
def ratePlaysSpec : ChangeSpec := { name := "ratePlays", fn := fun _ => fun
  | [d1, d2] => { results := [.lit (.bool true)], args := [d1, d2] }
  | _ => none }
def ratePlaysRow : OpenClaim := { program := "ytonbmcgfbbpnkaa", sum := "80b2f7545dca1da693218b07071ca999bdefb431820c2910fab3618bd2c77ce5", func := "distributary/distributarylaw37.RatePlays", spec := "ratePlays", apart := false }
def RatePlaysSaid : Prop := ratePlaysRow.holds Try.pinned (OpenSpec.ofChange ratePlaysSpec)

/-- ITS FALSE NEIGHBOUR: 'it returns false'. Refute it at one input. -/
def ratePlaysWrong : ChangeSpec := { name := "ratePlays", fn := fun _ => fun
  | [d1, d2] => { results := [.lit (.bool false)], args := [d1, d2] }
  | _ => none }
def RatePlaysWrongFalsely : Prop := ratePlaysRow.holds Try.pinned (OpenSpec.ofChange ratePlaysWrong)

/-- 'distributarylaw37.RateBounds': WHATEVER THE INPUT: true; the input reads as it did. -/
def rateBoundsSpec : ChangeSpec := { name := "rateBounds", fn := fun _ => fun
  | [d1, d2] => { results := [.lit (.bool true)], args := [d1, d2] }
  | _ => none }
def rateBoundsRow : OpenClaim := { program := "ytonbmcgfbbpnkaa", sum := "80b2f7545dca1da693218b07071ca999bdefb431820c2910fab3618bd2c77ce5", func := "distributary/distributarylaw37.RateBounds", spec := "rateBounds", apart := false }
def RateBoundsSaid : Prop := rateBoundsRow.holds Try.pinned (OpenSpec.ofChange rateBoundsSpec)

/-- ITS FALSE NEIGHBOUR: 'it returns false'. Refute it at one input. -/
def rateBoundsWrong : ChangeSpec := { name := "rateBounds", fn := fun _ => fun
  | [d1, d2] => { results := [.lit (.bool false)], args := [d1, d2] }
  | _ => none }
def RateBoundsWrongFalsely : Prop := rateBoundsRow.holds Try.pinned (OpenSpec.ofChange rateBoundsWrong)

/-- 'distributarylaw37.RateTwos': WHATEVER THE INPUT: true; the input reads as it did. -/
def rateTwosSpec : ChangeSpec := { name := "rateTwos", fn := fun _ => fun
  | [d1, d2, d3, d4] => { results := [.lit (.bool true)], args := [d1, d2, d3, d4] }
  | _ => none }
def rateTwosRow : OpenClaim := { program := "ytonbmcgfbbpnkaa", sum := "80b2f7545dca1da693218b07071ca999bdefb431820c2910fab3618bd2c77ce5", func := "distributary/distributarylaw37.RateTwos", spec := "rateTwos", apart := false }
def RateTwosSaid : Prop := rateTwosRow.holds Try.pinned (OpenSpec.ofChange rateTwosSpec)

/-- ITS FALSE NEIGHBOUR: 'it returns false'. Refute it at one input. -/
def rateTwosWrong : ChangeSpec := { name := "rateTwos", fn := fun _ => fun
  | [d1, d2, d3, d4] => { results := [.lit (.bool false)], args := [d1, d2, d3, d4] }
  | _ => none }
def RateTwosWrongFalsely : Prop := rateTwosRow.holds Try.pinned (OpenSpec.ofChange rateTwosWrong)

/-- 'distributarylaw38.HistBuckets': WHATEVER THE INPUT: true; the input reads as it did. -/
def histBucketsSpec : ChangeSpec := { name := "histBuckets", fn := fun _ => fun
  | [d1, d2] => { results := [.lit (.bool true)], args := [d1, d2] }
  | _ => none }
def histBucketsRow : OpenClaim := { program := "ytonbmcgfbbpnkaa", sum := "80b2f7545dca1da693218b07071ca999bdefb431820c2910fab3618bd2c77ce5", func := "distributary/distributarylaw38.HistBuckets", spec := "histBuckets", apart := false }
def HistBucketsSaid : Prop := histBucketsRow.holds Try.pinned (OpenSpec.ofChange histBucketsSpec)

/-- ITS FALSE NEIGHBOUR: 'it returns false'. Refute it at one input. -/
def histBucketsWrong : ChangeSpec := { name := "histBuckets", fn := fun _ => fun
  | [d1, d2] => { results := [.lit (.bool false)], args := [d1, d2] }
  | _ => none }
def HistBucketsWrongFalsely : Prop := histBucketsRow.holds Try.pinned (OpenSpec.ofChange histBucketsWrong)

/-- 'distributarylaw38.HistSays': WHATEVER THE INPUT: true; the input reads as it did. -/
def histSaysSpec : ChangeSpec := { name := "histSays", fn := fun _ => fun
  | [d1, d2] => { results := [.lit (.bool true)], args := [d1, d2] }
  | _ => none }
def histSaysRow : OpenClaim := { program := "ytonbmcgfbbpnkaa", sum := "80b2f7545dca1da693218b07071ca999bdefb431820c2910fab3618bd2c77ce5", func := "distributary/distributarylaw38.HistSays", spec := "histSays", inPlace := ["math/bits.Add64"], unfollowed := true, recurses := true, named := ["math/bits.divideError", "math/bits.overflowError"], apart := false }
def HistSaysSaid : Prop := histSaysRow.holds Try.pinned (OpenSpec.ofChange histSaysSpec)

/-- ITS FALSE NEIGHBOUR: 'it returns false'. Refute it at one input. -/
def histSaysWrong : ChangeSpec := { name := "histSays", fn := fun _ => fun
  | [d1, d2] => { results := [.lit (.bool false)], args := [d1, d2] }
  | _ => none }
def HistSaysWrongFalsely : Prop := histSaysRow.holds Try.pinned (OpenSpec.ofChange histSaysWrong)

/-- 'distributarylaw38.HistNobody': WHATEVER THE INPUT: true; the input reads as it did. -/
def histNobodySpec : ChangeSpec := { name := "histNobody", fn := fun _ => fun
  | [d1, d2] => { results := [.lit (.bool true)], args := [d1, d2] }
  | _ => none }
def histNobodyRow : OpenClaim := { program := "ytonbmcgfbbpnkaa", sum := "80b2f7545dca1da693218b07071ca999bdefb431820c2910fab3618bd2c77ce5", func := "distributary/distributarylaw38.HistNobody", spec := "histNobody", inPlace := ["math/bits.Add64"], unfollowed := true, recurses := true, named := ["math/bits.divideError", "math/bits.overflowError"], apart := false }
def HistNobodySaid : Prop := histNobodyRow.holds Try.pinned (OpenSpec.ofChange histNobodySpec)

/-- ITS FALSE NEIGHBOUR: 'it returns false'. Refute it at one input. -/
def histNobodyWrong : ChangeSpec := { name := "histNobody", fn := fun _ => fun
  | [d1, d2] => { results := [.lit (.bool false)], args := [d1, d2] }
  | _ => none }
def HistNobodyWrongFalsely : Prop := histNobodyRow.holds Try.pinned (OpenSpec.ofChange histNobodyWrong)

/-- 'distributarylaw38.HistJoins': WHATEVER THE INPUT: true; the input reads as it did. -/
def histJoinsSpec : ChangeSpec := { name := "histJoins", fn := fun _ => fun
  | [d1, d2, d3] => { results := [.lit (.bool true)], args := [d1, d2, d3] }
  | _ => none }
def histJoinsRow : OpenClaim := { program := "ytonbmcgfbbpnkaa", sum := "80b2f7545dca1da693218b07071ca999bdefb431820c2910fab3618bd2c77ce5", func := "distributary/distributarylaw38.HistJoins", spec := "histJoins", inPlace := ["math/bits.Add64"], unfollowed := true, recurses := true, named := ["math/bits.divideError", "math/bits.overflowError"], apart := false }
def HistJoinsSaid : Prop := histJoinsRow.holds Try.pinned (OpenSpec.ofChange histJoinsSpec)

/-- ITS FALSE NEIGHBOUR: 'it returns false'. Refute it at one input. -/
def histJoinsWrong : ChangeSpec := { name := "histJoins", fn := fun _ => fun
  | [d1, d2, d3] => { results := [.lit (.bool false)], args := [d1, d2, d3] }
  | _ => none }
def HistJoinsWrongFalsely : Prop := histJoinsRow.holds Try.pinned (OpenSpec.ofChange histJoinsWrong)

/-- 'distributarylaw39.RingPrimes': WHATEVER THE INPUT: true; the input reads as it did. -/
def ringPrimesSpec : ChangeSpec := { name := "ringPrimes", fn := fun _ => fun
  | [d] => { results := [.lit (.bool true)], args := [d] }
  | _ => none }
def ringPrimesRow : OpenClaim := { program := "ytonbmcgfbbpnkaa", sum := "80b2f7545dca1da693218b07071ca999bdefb431820c2910fab3618bd2c77ce5", func := "distributary/distributarylaw39.RingPrimes", spec := "ringPrimes", apart := false }
def RingPrimesSaid : Prop := ringPrimesRow.holds Try.pinned (OpenSpec.ofChange ringPrimesSpec)

/-- ITS FALSE NEIGHBOUR: 'it returns false'. Refute it at one input. -/
def ringPrimesWrong : ChangeSpec := { name := "ringPrimes", fn := fun _ => fun
  | [d] => { results := [.lit (.bool false)], args := [d] }
  | _ => none }
def RingPrimesWrongFalsely : Prop := ringPrimesRow.holds Try.pinned (OpenSpec.ofChange ringPrimesWrong)

/-- 'distributarylaw39.RingPicks': WHATEVER THE INPUT: true; the input reads as it did. -/
def ringPicksSpec : ChangeSpec := { name := "ringPicks", fn := fun _ => fun
  | [d1, d2, d3, d4] => { results := [.lit (.bool true)], args := [d1, d2, d3, d4] }
  | _ => none }
def ringPicksRow : OpenClaim := { program := "ytonbmcgfbbpnkaa", sum := "80b2f7545dca1da693218b07071ca999bdefb431820c2910fab3618bd2c77ce5", func := "distributary/distributarylaw39.RingPicks", spec := "ringPicks", apart := false }
def RingPicksSaid : Prop := ringPicksRow.holds Try.pinned (OpenSpec.ofChange ringPicksSpec)

/-- ITS FALSE NEIGHBOUR: 'it returns false'. Refute it at one input. -/
def ringPicksWrong : ChangeSpec := { name := "ringPicks", fn := fun _ => fun
  | [d1, d2, d3, d4] => { results := [.lit (.bool false)], args := [d1, d2, d3, d4] }
  | _ => none }
def RingPicksWrongFalsely : Prop := ringPicksRow.holds Try.pinned (OpenSpec.ofChange ringPicksWrong)

/-- 'distributarylaw39.RingMoves': WHATEVER THE INPUT: true; the input reads as it did. -/
def ringMovesSpec : ChangeSpec := { name := "ringMoves", fn := fun _ => fun
  | [d1, d2, d3, d4, d5] => { results := [.lit (.bool true)], args := [d1, d2, d3, d4, d5] }
  | _ => none }
def ringMovesRow : OpenClaim := { program := "ytonbmcgfbbpnkaa", sum := "80b2f7545dca1da693218b07071ca999bdefb431820c2910fab3618bd2c77ce5", func := "distributary/distributarylaw39.RingMoves", spec := "ringMoves", apart := false }
def RingMovesSaid : Prop := ringMovesRow.holds Try.pinned (OpenSpec.ofChange ringMovesSpec)

/-- ITS FALSE NEIGHBOUR: 'it returns false'. Refute it at one input. -/
def ringMovesWrong : ChangeSpec := { name := "ringMoves", fn := fun _ => fun
  | [d1, d2, d3, d4, d5] => { results := [.lit (.bool false)], args := [d1, d2, d3, d4, d5] }
  | _ => none }
def RingMovesWrongFalsely : Prop := ringMovesRow.holds Try.pinned (OpenSpec.ofChange ringMovesWrong)

/-- 'distributarylaw24.LoadHealth': WHATEVER THE INPUT: true; the input reads as it did. -/
def loadHealthSpec : ChangeSpec := { name := "loadHealth", fn := fun _ => fun
  | [d1, d2, d3] => { results := [.lit (.bool true)], args := [d1, d2, d3] }
  | _ => none }
def loadHealthRow : OpenClaim := { program := "ytonbmcgfbbpnkaa", sum := "80b2f7545dca1da693218b07071ca999bdefb431820c2910fab3618bd2c77ce5", func := "distributary/distributarylaw24.LoadHealth", spec := "loadHealth", named := ["math/bits.divideError", "math/bits.overflowError"], apart := false }
def LoadHealthSaid : Prop := loadHealthRow.holds Try.pinned (OpenSpec.ofChange loadHealthSpec)

/-- ITS FALSE NEIGHBOUR: 'it returns false'. Refute it at one input. -/
def loadHealthWrong : ChangeSpec := { name := "loadHealth", fn := fun _ => fun
  | [d1, d2, d3] => { results := [.lit (.bool false)], args := [d1, d2, d3] }
  | _ => none }
def LoadHealthWrongFalsely : Prop := loadHealthRow.holds Try.pinned (OpenSpec.ofChange loadHealthWrong)

/-- 'distributarylaw24.LoadShares': WHATEVER THE INPUT: true; the input reads as it did. -/
def loadSharesSpec : ChangeSpec := { name := "loadShares", fn := fun _ => fun
  | [d1, d2, d3] => { results := [.lit (.bool true)], args := [d1, d2, d3] }
  | _ => none }
def loadSharesRow : OpenClaim := { program := "ytonbmcgfbbpnkaa", sum := "80b2f7545dca1da693218b07071ca999bdefb431820c2910fab3618bd2c77ce5", func := "distributary/distributarylaw24.LoadShares", spec := "loadShares", named := ["math/bits.divideError", "math/bits.overflowError"], apart := false }
def LoadSharesSaid : Prop := loadSharesRow.holds Try.pinned (OpenSpec.ofChange loadSharesSpec)

/-- ITS FALSE NEIGHBOUR: 'it returns false'. Refute it at one input. -/
def loadSharesWrong : ChangeSpec := { name := "loadShares", fn := fun _ => fun
  | [d1, d2, d3] => { results := [.lit (.bool false)], args := [d1, d2, d3] }
  | _ => none }
def LoadSharesWrongFalsely : Prop := loadSharesRow.holds Try.pinned (OpenSpec.ofChange loadSharesWrong)

/-- 'distributarylaw24.LoadDraws': WHATEVER THE INPUT: true; the input reads as it did. -/
def loadDrawsSpec : ChangeSpec := { name := "loadDraws", fn := fun _ => fun
  | [d1, d2] => { results := [.lit (.bool true)], args := [d1, d2] }
  | _ => none }
def loadDrawsRow : OpenClaim := { program := "ytonbmcgfbbpnkaa", sum := "80b2f7545dca1da693218b07071ca999bdefb431820c2910fab3618bd2c77ce5", func := "distributary/distributarylaw24.LoadDraws", spec := "loadDraws", named := ["math/bits.divideError", "math/bits.overflowError"], apart := false }
def LoadDrawsSaid : Prop := loadDrawsRow.holds Try.pinned (OpenSpec.ofChange loadDrawsSpec)

/-- ITS FALSE NEIGHBOUR: 'it returns false'. Refute it at one input. -/
def loadDrawsWrong : ChangeSpec := { name := "loadDraws", fn := fun _ => fun
  | [d1, d2] => { results := [.lit (.bool false)], args := [d1, d2] }
  | _ => none }
def LoadDrawsWrongFalsely : Prop := loadDrawsRow.holds Try.pinned (OpenSpec.ofChange loadDrawsWrong)

/-- 'distributarylaw24.LoadTurns': WHATEVER THE INPUT: true; the input reads as it did. -/
def loadTurnsSpec : ChangeSpec := { name := "loadTurns", fn := fun _ => fun
  | [d1, d2, d3] => { results := [.lit (.bool true)], args := [d1, d2, d3] }
  | _ => none }
def loadTurnsRow : OpenClaim := { program := "ytonbmcgfbbpnkaa", sum := "80b2f7545dca1da693218b07071ca999bdefb431820c2910fab3618bd2c77ce5", func := "distributary/distributarylaw24.LoadTurns", spec := "loadTurns", named := ["math/bits.divideError", "math/bits.overflowError"], apart := false }
def LoadTurnsSaid : Prop := loadTurnsRow.holds Try.pinned (OpenSpec.ofChange loadTurnsSpec)

/-- ITS FALSE NEIGHBOUR: 'it returns false'. Refute it at one input. -/
def loadTurnsWrong : ChangeSpec := { name := "loadTurns", fn := fun _ => fun
  | [d1, d2, d3] => { results := [.lit (.bool false)], args := [d1, d2, d3] }
  | _ => none }
def LoadTurnsWrongFalsely : Prop := loadTurnsRow.holds Try.pinned (OpenSpec.ofChange loadTurnsWrong)

/-- 'distributarylaw25.StrawPicks': WHATEVER THE INPUT: true; the input reads as it did. -/
def strawPicksSpec : ChangeSpec := { name := "strawPicks", fn := fun _ => fun
  | [d1, d2, d3] => { results := [.lit (.bool true)], args := [d1, d2, d3] }
  | _ => none }
def strawPicksRow : OpenClaim := { program := "ytonbmcgfbbpnkaa", sum := "80b2f7545dca1da693218b07071ca999bdefb431820c2910fab3618bd2c77ce5", func := "distributary/distributarylaw25.StrawPicks", spec := "strawPicks", inPlace := ["sync/atomic.LoadUint32", "(*internal/sync.Mutex).Lock", "internal/race.Disable", "sync/atomic.CompareAndSwapInt32", "internal/race.Enable", "internal/race.Acquire", "(*internal/sync.Mutex).lockSlow", "internal/sync.runtime_canSpin", "internal/sync.runtime_doSpin", "internal/sync.throw", "internal/sync.runtime_nanotime", "internal/sync.runtime_SemacquireMutex", "sync/atomic.AddInt32", "(*internal/sync.Mutex).Unlock", "internal/race.ReleaseMerge", "(*internal/sync.Mutex).unlockSlow", "internal/sync.fatal", "internal/sync.runtime_Semrelease", "sync/atomic.StoreUint32"], unfollowed := true, recurses := true, apart := false }
def StrawPicksSaid : Prop := strawPicksRow.holds Try.pinned (OpenSpec.ofChange strawPicksSpec)

/-- ITS FALSE NEIGHBOUR: 'it returns false'. Refute it at one input. -/
def strawPicksWrong : ChangeSpec := { name := "strawPicks", fn := fun _ => fun
  | [d1, d2, d3] => { results := [.lit (.bool false)], args := [d1, d2, d3] }
  | _ => none }
def StrawPicksWrongFalsely : Prop := strawPicksRow.holds Try.pinned (OpenSpec.ofChange strawPicksWrong)

/-- 'distributarylaw25.StrawMoves': WHATEVER THE INPUT: true; the input reads as it did. -/
def strawMovesSpec : ChangeSpec := { name := "strawMoves", fn := fun _ => fun
  | [d1, d2, d3, d4] => { results := [.lit (.bool true)], args := [d1, d2, d3, d4] }
  | _ => none }
def strawMovesRow : OpenClaim := { program := "ytonbmcgfbbpnkaa", sum := "80b2f7545dca1da693218b07071ca999bdefb431820c2910fab3618bd2c77ce5", func := "distributary/distributarylaw25.StrawMoves", spec := "strawMoves", inPlace := ["sync/atomic.LoadUint32", "(*internal/sync.Mutex).Lock", "internal/race.Disable", "sync/atomic.CompareAndSwapInt32", "internal/race.Enable", "internal/race.Acquire", "(*internal/sync.Mutex).lockSlow", "internal/sync.runtime_canSpin", "internal/sync.runtime_doSpin", "internal/sync.throw", "internal/sync.runtime_nanotime", "internal/sync.runtime_SemacquireMutex", "sync/atomic.AddInt32", "(*internal/sync.Mutex).Unlock", "internal/race.ReleaseMerge", "(*internal/sync.Mutex).unlockSlow", "internal/sync.fatal", "internal/sync.runtime_Semrelease", "sync/atomic.StoreUint32"], unfollowed := true, recurses := true, apart := false }
def StrawMovesSaid : Prop := strawMovesRow.holds Try.pinned (OpenSpec.ofChange strawMovesSpec)

/-- ITS FALSE NEIGHBOUR: 'it returns false'. Refute it at one input. -/
def strawMovesWrong : ChangeSpec := { name := "strawMoves", fn := fun _ => fun
  | [d1, d2, d3, d4] => { results := [.lit (.bool false)], args := [d1, d2, d3, d4] }
  | _ => none }
def StrawMovesWrongFalsely : Prop := strawMovesRow.holds Try.pinned (OpenSpec.ofChange strawMovesWrong)

/-- 'distributarylaw25.StrawCounts': WHATEVER THE INPUT: true; the input reads as it did. -/
def strawCountsSpec : ChangeSpec := { name := "strawCounts", fn := fun _ => fun
  | [d1, d2, d3] => { results := [.lit (.bool true)], args := [d1, d2, d3] }
  | _ => none }
def strawCountsRow : OpenClaim := { program := "ytonbmcgfbbpnkaa", sum := "80b2f7545dca1da693218b07071ca999bdefb431820c2910fab3618bd2c77ce5", func := "distributary/distributarylaw25.StrawCounts", spec := "strawCounts", inPlace := ["sync/atomic.LoadUint32", "(*internal/sync.Mutex).Lock", "internal/race.Disable", "sync/atomic.CompareAndSwapInt32", "internal/race.Enable", "internal/race.Acquire", "(*internal/sync.Mutex).lockSlow", "internal/sync.runtime_canSpin", "internal/sync.runtime_doSpin", "internal/sync.throw", "internal/sync.runtime_nanotime", "internal/sync.runtime_SemacquireMutex", "sync/atomic.AddInt32", "(*internal/sync.Mutex).Unlock", "internal/race.ReleaseMerge", "(*internal/sync.Mutex).unlockSlow", "internal/sync.fatal", "internal/sync.runtime_Semrelease", "sync/atomic.StoreUint32"], unfollowed := true, recurses := true, apart := false }
def StrawCountsSaid : Prop := strawCountsRow.holds Try.pinned (OpenSpec.ofChange strawCountsSpec)

/-- ITS FALSE NEIGHBOUR: 'it returns false'. Refute it at one input. -/
def strawCountsWrong : ChangeSpec := { name := "strawCounts", fn := fun _ => fun
  | [d1, d2, d3] => { results := [.lit (.bool false)], args := [d1, d2, d3] }
  | _ => none }
def StrawCountsWrongFalsely : Prop := strawCountsRow.holds Try.pinned (OpenSpec.ofChange strawCountsWrong)

/- THE SECOND FORM. 'bulk': how many values and letters a reading holds, each counted each time it is reached (what is shared counts as often as it is met; a slice's spare places count too). A statement '..UptoSaid' is the law's where the arguments, and the package variables that the reading takes, are together of bulk at most 1048576: NARROWER than '..Said'. Prove '..Said' where nothing that the law and all that it calls make is longer than what came in: it says more and counts as full. Else prove '..UptoSaid'. A law counts once. -/
mutual
def uptoBulk {H : Type} : DataW H → Nat
  | .lit (.string bytes) => bytes.length + 1
  | .lit _ => 1
  | .nil => 1
  | .ptr d => uptoBulk d + 1
  | .slice elems spare => uptoBulkAll elems + uptoBulkAll spare + 1
  | .agg parts => uptoBulkAll parts + 1
  | .iface _ d => uptoBulk d + 1
  | .map entries => uptoBulkEntries entries + 1
  | .held _ => 1
def uptoBulkAll {H : Type} : List (DataW H) → Nat
  | [] => 0
  | d :: r => uptoBulk d + uptoBulkAll r
def uptoBulkEntries {H : Type} : List (Lit × DataW H) → Nat
  | [] => 0
  | x :: r => uptoBulkEntry x + uptoBulkEntries r
def uptoBulkEntry {H : Type} : Lit × DataW H → Nat
  | (.string bytes, d) => bytes.length + uptoBulk d + 1
  | (_, d) => uptoBulk d + 1
 end
def uptoSmall : (H : Type) → List (DataW H) → Bool := fun _ ds => decide (uptoBulkAll ds ≤ 1048576)
def OpenSpec.upto (s : _root_.Go.ChangeSpec) : _root_.Go.OpenSpec := { _root_.Go.OpenSpec.ofChange s with cond := some uptoSmall }

/-- 'distributarylaw01.WideProducts', WHERE WHAT IT READS IS OF BULK AT MOST 1048576: true; the input reads as it did. -/
def wideProductsUptoRow : OpenClaim := { program := "ytonbmcgfbbpnkaa", sum := "80b2f7545dca1da693218b07071ca999bdefb431820c2910fab3618bd2c77ce5", func := "distributary/distributarylaw01.WideProducts", spec := "wideProducts", inPlace := ["math/bits.Add64"], apart := false, narrowed := true }
def WideProductsUptoSaid : Prop := wideProductsUptoRow.holds Try.pinned (OpenSpec.upto wideProductsSpec)

/-- 'distributarylaw01.WideSums', WHERE WHAT IT READS IS OF BULK AT MOST 1048576: true; the input reads as it did. -/
def wideSumsUptoRow : OpenClaim := { program := "ytonbmcgfbbpnkaa", sum := "80b2f7545dca1da693218b07071ca999bdefb431820c2910fab3618bd2c77ce5", func := "distributary/distributarylaw01.WideSums", spec := "wideSums", inPlace := ["math/bits.Add64"], apart := false, narrowed := true }
def WideSumsUptoSaid : Prop := wideSumsUptoRow.holds Try.pinned (OpenSpec.upto wideSumsSpec)

/-- 'distributarylaw01.WideFracs', WHERE WHAT IT READS IS OF BULK AT MOST 1048576: true; the input reads as it did. -/
def wideFracsUptoRow : OpenClaim := { program := "ytonbmcgfbbpnkaa", sum := "80b2f7545dca1da693218b07071ca999bdefb431820c2910fab3618bd2c77ce5", func := "distributary/distributarylaw01.WideFracs", spec := "wideFracs", apart := false, narrowed := true }
def WideFracsUptoSaid : Prop := wideFracsUptoRow.holds Try.pinned (OpenSpec.upto wideFracsSpec)

/-- 'distributarylaw01.WideQuotients', WHERE WHAT IT READS IS OF BULK AT MOST 1048576: true; the input reads as it did. -/
def wideQuotientsUptoRow : OpenClaim := { program := "ytonbmcgfbbpnkaa", sum := "80b2f7545dca1da693218b07071ca999bdefb431820c2910fab3618bd2c77ce5", func := "distributary/distributarylaw01.WideQuotients", spec := "wideQuotients", named := ["math/bits.divideError", "math/bits.overflowError"], apart := false, narrowed := true }
def WideQuotientsUptoSaid : Prop := wideQuotientsUptoRow.holds Try.pinned (OpenSpec.upto wideQuotientsSpec)

/-- 'distributarylaw02.MixOnes', WHERE WHAT IT READS IS OF BULK AT MOST 1048576: true; the input reads as it did. -/
def mixOnesUptoRow : OpenClaim := { program := "ytonbmcgfbbpnkaa", sum := "80b2f7545dca1da693218b07071ca999bdefb431820c2910fab3618bd2c77ce5", func := "distributary/distributarylaw02.MixOnes", spec := "mixOnes", apart := false, narrowed := true }
def MixOnesUptoSaid : Prop := mixOnesUptoRow.holds Try.pinned (OpenSpec.upto mixOnesSpec)

/-- 'distributarylaw02.MixGens', WHERE WHAT IT READS IS OF BULK AT MOST 1048576: true; the input reads as it did. -/
def mixGensUptoRow : OpenClaim := { program := "ytonbmcgfbbpnkaa", sum := "80b2f7545dca1da693218b07071ca999bdefb431820c2910fab3618bd2c77ce5", func := "distributary/distributarylaw02.MixGens", spec := "mixGens", apart := false, narrowed := true }
def MixGensUptoSaid : Prop := mixGensUptoRow.holds Try.pinned (OpenSpec.upto mixGensSpec)

/-- 'distributarylaw02.MixBelows', WHERE WHAT IT READS IS OF BULK AT MOST 1048576: true; the input reads as it did. -/
def mixBelowsUptoRow : OpenClaim := { program := "ytonbmcgfbbpnkaa", sum := "80b2f7545dca1da693218b07071ca999bdefb431820c2910fab3618bd2c77ce5", func := "distributary/distributarylaw02.MixBelows", spec := "mixBelows", apart := false, narrowed := true }
def MixBelowsUptoSaid : Prop := mixBelowsUptoRow.holds Try.pinned (OpenSpec.upto mixBelowsSpec)

/-- 'distributarylaw02.MixLists', WHERE WHAT IT READS IS OF BULK AT MOST 1048576: true; the input reads as it did. -/
def mixListsUptoRow : OpenClaim := { program := "ytonbmcgfbbpnkaa", sum := "80b2f7545dca1da693218b07071ca999bdefb431820c2910fab3618bd2c77ce5", func := "distributary/distributarylaw02.MixLists", spec := "mixLists", apart := false, narrowed := true }
def MixListsUptoSaid : Prop := mixListsUptoRow.holds Try.pinned (OpenSpec.upto mixListsSpec)

/-- 'distributarylaw03.LogsNumbers', WHERE WHAT IT READS IS OF BULK AT MOST 1048576: true; the input reads as it did. -/
def logsNumbersUptoRow : OpenClaim := { program := "ytonbmcgfbbpnkaa", sum := "80b2f7545dca1da693218b07071ca999bdefb431820c2910fab3618bd2c77ce5", func := "distributary/distributarylaw03.LogsNumbers", spec := "logsNumbers", apart := false, narrowed := true }
def LogsNumbersUptoSaid : Prop := logsNumbersUptoRow.holds Try.pinned (OpenSpec.upto logsNumbersSpec)

/-- 'distributarylaw03.LogsRise', WHERE WHAT IT READS IS OF BULK AT MOST 1048576: true; the input reads as it did. -/
def logsRiseUptoRow : OpenClaim := { program := "ytonbmcgfbbpnkaa", sum := "80b2f7545dca1da693218b07071ca999bdefb431820c2910fab3618bd2c77ce5", func := "distributary/distributarylaw03.LogsRise", spec := "logsRise", apart := false, narrowed := true }
def LogsRiseUptoSaid : Prop := logsRiseUptoRow.holds Try.pinned (OpenSpec.upto logsRiseSpec)

/-- 'distributarylaw03.LogsDraws', WHERE WHAT IT READS IS OF BULK AT MOST 1048576: true; the input reads as it did. -/
def logsDrawsUptoRow : OpenClaim := { program := "ytonbmcgfbbpnkaa", sum := "80b2f7545dca1da693218b07071ca999bdefb431820c2910fab3618bd2c77ce5", func := "distributary/distributarylaw03.LogsDraws", spec := "logsDraws", inPlace := ["sync/atomic.LoadUint32", "(*internal/sync.Mutex).Lock", "internal/race.Disable", "sync/atomic.CompareAndSwapInt32", "internal/race.Enable", "internal/race.Acquire", "(*internal/sync.Mutex).lockSlow", "internal/sync.runtime_canSpin", "internal/sync.runtime_doSpin", "internal/sync.throw", "internal/sync.runtime_nanotime", "internal/sync.runtime_SemacquireMutex", "sync/atomic.AddInt32", "(*internal/sync.Mutex).Unlock", "internal/race.ReleaseMerge", "(*internal/sync.Mutex).unlockSlow", "internal/sync.fatal", "internal/sync.runtime_Semrelease", "sync/atomic.StoreUint32"], unfollowed := true, recurses := true, apart := false, narrowed := true }
def LogsDrawsUptoSaid : Prop := logsDrawsUptoRow.holds Try.pinned (OpenSpec.upto logsDrawsSpec)

/-- 'distributarylaw37.RateWaits', WHERE WHAT IT READS IS OF BULK AT MOST 1048576: true; the input reads as it did. -/
def rateWaitsUptoRow : OpenClaim := { program := "ytonbmcgfbbpnkaa", sum := "80b2f7545dca1da693218b07071ca999bdefb431820c2910fab3618bd2c77ce5", func := "distributary/distributarylaw37.RateWaits", spec := "rateWaits", apart := false, narrowed := true }
def RateWaitsUptoSaid : Prop := rateWaitsUptoRow.holds Try.pinned (OpenSpec.upto rateWaitsSpec)

/-- 'distributarylaw37.RatePlays', WHERE WHAT IT READS IS OF BULK AT MOST 1048576: true; the input reads as it did. -/
def ratePlaysUptoRow : OpenClaim := { program := "ytonbmcgfbbpnkaa", sum := "80b2f7545dca1da693218b07071ca999bdefb431820c2910fab3618bd2c77ce5", func := "distributary/distributarylaw37.RatePlays", spec := "ratePlays", apart := false, narrowed := true }
def RatePlaysUptoSaid : Prop := ratePlaysUptoRow.holds Try.pinned (OpenSpec.upto ratePlaysSpec)

/-- 'distributarylaw37.RateBounds', WHERE WHAT IT READS IS OF BULK AT MOST 1048576: true; the input reads as it did. -/
def rateBoundsUptoRow : OpenClaim := { program := "ytonbmcgfbbpnkaa", sum := "80b2f7545dca1da693218b07071ca999bdefb431820c2910fab3618bd2c77ce5", func := "distributary/distributarylaw37.RateBounds", spec := "rateBounds", apart := false, narrowed := true }
def RateBoundsUptoSaid : Prop := rateBoundsUptoRow.holds Try.pinned (OpenSpec.upto rateBoundsSpec)

/-- 'distributarylaw37.RateTwos', WHERE WHAT IT READS IS OF BULK AT MOST 1048576: true; the input reads as it did. -/
def rateTwosUptoRow : OpenClaim := { program := "ytonbmcgfbbpnkaa", sum := "80b2f7545dca1da693218b07071ca999bdefb431820c2910fab3618bd2c77ce5", func := "distributary/distributarylaw37.RateTwos", spec := "rateTwos", apart := false, narrowed := true }
def RateTwosUptoSaid : Prop := rateTwosUptoRow.holds Try.pinned (OpenSpec.upto rateTwosSpec)

/-- 'distributarylaw38.HistBuckets', WHERE WHAT IT READS IS OF BULK AT MOST 1048576: true; the input reads as it did. -/
def histBucketsUptoRow : OpenClaim := { program := "ytonbmcgfbbpnkaa", sum := "80b2f7545dca1da693218b07071ca999bdefb431820c2910fab3618bd2c77ce5", func := "distributary/distributarylaw38.HistBuckets", spec := "histBuckets", apart := false, narrowed := true }
def HistBucketsUptoSaid : Prop := histBucketsUptoRow.holds Try.pinned (OpenSpec.upto histBucketsSpec)

/-- 'distributarylaw38.HistSays', WHERE WHAT IT READS IS OF BULK AT MOST 1048576: true; the input reads as it did. -/
def histSaysUptoRow : OpenClaim := { program := "ytonbmcgfbbpnkaa", sum := "80b2f7545dca1da693218b07071ca999bdefb431820c2910fab3618bd2c77ce5", func := "distributary/distributarylaw38.HistSays", spec := "histSays", inPlace := ["math/bits.Add64"], unfollowed := true, recurses := true, named := ["math/bits.divideError", "math/bits.overflowError"], apart := false, narrowed := true }
def HistSaysUptoSaid : Prop := histSaysUptoRow.holds Try.pinned (OpenSpec.upto histSaysSpec)

/-- 'distributarylaw38.HistNobody', WHERE WHAT IT READS IS OF BULK AT MOST 1048576: true; the input reads as it did. -/
def histNobodyUptoRow : OpenClaim := { program := "ytonbmcgfbbpnkaa", sum := "80b2f7545dca1da693218b07071ca999bdefb431820c2910fab3618bd2c77ce5", func := "distributary/distributarylaw38.HistNobody", spec := "histNobody", inPlace := ["math/bits.Add64"], unfollowed := true, recurses := true, named := ["math/bits.divideError", "math/bits.overflowError"], apart := false, narrowed := true }
def HistNobodyUptoSaid : Prop := histNobodyUptoRow.holds Try.pinned (OpenSpec.upto histNobodySpec)

/-- 'distributarylaw38.HistJoins', WHERE WHAT IT READS IS OF BULK AT MOST 1048576: true; the input reads as it did. -/
def histJoinsUptoRow : OpenClaim := { program := "ytonbmcgfbbpnkaa", sum := "80b2f7545dca1da693218b07071ca999bdefb431820c2910fab3618bd2c77ce5", func := "distributary/distributarylaw38.HistJoins", spec := "histJoins", inPlace := ["math/bits.Add64"], unfollowed := true, recurses := true, named := ["math/bits.divideError", "math/bits.overflowError"], apart := false, narrowed := true }
def HistJoinsUptoSaid : Prop := histJoinsUptoRow.holds Try.pinned (OpenSpec.upto histJoinsSpec)

/-- 'distributarylaw39.RingPrimes', WHERE WHAT IT READS IS OF BULK AT MOST 1048576: true; the input reads as it did. -/
def ringPrimesUptoRow : OpenClaim := { program := "ytonbmcgfbbpnkaa", sum := "80b2f7545dca1da693218b07071ca999bdefb431820c2910fab3618bd2c77ce5", func := "distributary/distributarylaw39.RingPrimes", spec := "ringPrimes", apart := false, narrowed := true }
def RingPrimesUptoSaid : Prop := ringPrimesUptoRow.holds Try.pinned (OpenSpec.upto ringPrimesSpec)

/-- 'distributarylaw39.RingPicks', WHERE WHAT IT READS IS OF BULK AT MOST 1048576: true; the input reads as it did. -/
def ringPicksUptoRow : OpenClaim := { program := "ytonbmcgfbbpnkaa", sum := "80b2f7545dca1da693218b07071ca999bdefb431820c2910fab3618bd2c77ce5", func := "distributary/distributarylaw39.RingPicks", spec := "ringPicks", apart := false, narrowed := true }
def RingPicksUptoSaid : Prop := ringPicksUptoRow.holds Try.pinned (OpenSpec.upto ringPicksSpec)

/-- 'distributarylaw39.RingMoves', WHERE WHAT IT READS IS OF BULK AT MOST 1048576: true; the input reads as it did. -/
def ringMovesUptoRow : OpenClaim := { program := "ytonbmcgfbbpnkaa", sum := "80b2f7545dca1da693218b07071ca999bdefb431820c2910fab3618bd2c77ce5", func := "distributary/distributarylaw39.RingMoves", spec := "ringMoves", apart := false, narrowed := true }
def RingMovesUptoSaid : Prop := ringMovesUptoRow.holds Try.pinned (OpenSpec.upto ringMovesSpec)

/-- 'distributarylaw24.LoadHealth', WHERE WHAT IT READS IS OF BULK AT MOST 1048576: true; the input reads as it did. -/
def loadHealthUptoRow : OpenClaim := { program := "ytonbmcgfbbpnkaa", sum := "80b2f7545dca1da693218b07071ca999bdefb431820c2910fab3618bd2c77ce5", func := "distributary/distributarylaw24.LoadHealth", spec := "loadHealth", named := ["math/bits.divideError", "math/bits.overflowError"], apart := false, narrowed := true }
def LoadHealthUptoSaid : Prop := loadHealthUptoRow.holds Try.pinned (OpenSpec.upto loadHealthSpec)

/-- 'distributarylaw24.LoadShares', WHERE WHAT IT READS IS OF BULK AT MOST 1048576: true; the input reads as it did. -/
def loadSharesUptoRow : OpenClaim := { program := "ytonbmcgfbbpnkaa", sum := "80b2f7545dca1da693218b07071ca999bdefb431820c2910fab3618bd2c77ce5", func := "distributary/distributarylaw24.LoadShares", spec := "loadShares", named := ["math/bits.divideError", "math/bits.overflowError"], apart := false, narrowed := true }
def LoadSharesUptoSaid : Prop := loadSharesUptoRow.holds Try.pinned (OpenSpec.upto loadSharesSpec)

/-- 'distributarylaw24.LoadDraws', WHERE WHAT IT READS IS OF BULK AT MOST 1048576: true; the input reads as it did. -/
def loadDrawsUptoRow : OpenClaim := { program := "ytonbmcgfbbpnkaa", sum := "80b2f7545dca1da693218b07071ca999bdefb431820c2910fab3618bd2c77ce5", func := "distributary/distributarylaw24.LoadDraws", spec := "loadDraws", named := ["math/bits.divideError", "math/bits.overflowError"], apart := false, narrowed := true }
def LoadDrawsUptoSaid : Prop := loadDrawsUptoRow.holds Try.pinned (OpenSpec.upto loadDrawsSpec)

/-- 'distributarylaw24.LoadTurns', WHERE WHAT IT READS IS OF BULK AT MOST 1048576: true; the input reads as it did. -/
def loadTurnsUptoRow : OpenClaim := { program := "ytonbmcgfbbpnkaa", sum := "80b2f7545dca1da693218b07071ca999bdefb431820c2910fab3618bd2c77ce5", func := "distributary/distributarylaw24.LoadTurns", spec := "loadTurns", named := ["math/bits.divideError", "math/bits.overflowError"], apart := false, narrowed := true }
def LoadTurnsUptoSaid : Prop := loadTurnsUptoRow.holds Try.pinned (OpenSpec.upto loadTurnsSpec)

/-- 'distributarylaw25.StrawPicks', WHERE WHAT IT READS IS OF BULK AT MOST 1048576: true; the input reads as it did. -/
def strawPicksUptoRow : OpenClaim := { program := "ytonbmcgfbbpnkaa", sum := "80b2f7545dca1da693218b07071ca999bdefb431820c2910fab3618bd2c77ce5", func := "distributary/distributarylaw25.StrawPicks", spec := "strawPicks", inPlace := ["sync/atomic.LoadUint32", "(*internal/sync.Mutex).Lock", "internal/race.Disable", "sync/atomic.CompareAndSwapInt32", "internal/race.Enable", "internal/race.Acquire", "(*internal/sync.Mutex).lockSlow", "internal/sync.runtime_canSpin", "internal/sync.runtime_doSpin", "internal/sync.throw", "internal/sync.runtime_nanotime", "internal/sync.runtime_SemacquireMutex", "sync/atomic.AddInt32", "(*internal/sync.Mutex).Unlock", "internal/race.ReleaseMerge", "(*internal/sync.Mutex).unlockSlow", "internal/sync.fatal", "internal/sync.runtime_Semrelease", "sync/atomic.StoreUint32"], unfollowed := true, recurses := true, apart := false, narrowed := true }
def StrawPicksUptoSaid : Prop := strawPicksUptoRow.holds Try.pinned (OpenSpec.upto strawPicksSpec)

/-- 'distributarylaw25.StrawMoves', WHERE WHAT IT READS IS OF BULK AT MOST 1048576: true; the input reads as it did. -/
def strawMovesUptoRow : OpenClaim := { program := "ytonbmcgfbbpnkaa", sum := "80b2f7545dca1da693218b07071ca999bdefb431820c2910fab3618bd2c77ce5", func := "distributary/distributarylaw25.StrawMoves", spec := "strawMoves", inPlace := ["sync/atomic.LoadUint32", "(*internal/sync.Mutex).Lock", "internal/race.Disable", "sync/atomic.CompareAndSwapInt32", "internal/race.Enable", "internal/race.Acquire", "(*internal/sync.Mutex).lockSlow", "internal/sync.runtime_canSpin", "internal/sync.runtime_doSpin", "internal/sync.throw", "internal/sync.runtime_nanotime", "internal/sync.runtime_SemacquireMutex", "sync/atomic.AddInt32", "(*internal/sync.Mutex).Unlock", "internal/race.ReleaseMerge", "(*internal/sync.Mutex).unlockSlow", "internal/sync.fatal", "internal/sync.runtime_Semrelease", "sync/atomic.StoreUint32"], unfollowed := true, recurses := true, apart := false, narrowed := true }
def StrawMovesUptoSaid : Prop := strawMovesUptoRow.holds Try.pinned (OpenSpec.upto strawMovesSpec)

/-- 'distributarylaw25.StrawCounts', WHERE WHAT IT READS IS OF BULK AT MOST 1048576: true; the input reads as it did. -/
def strawCountsUptoRow : OpenClaim := { program := "ytonbmcgfbbpnkaa", sum := "80b2f7545dca1da693218b07071ca999bdefb431820c2910fab3618bd2c77ce5", func := "distributary/distributarylaw25.StrawCounts", spec := "strawCounts", inPlace := ["sync/atomic.LoadUint32", "(*internal/sync.Mutex).Lock", "internal/race.Disable", "sync/atomic.CompareAndSwapInt32", "internal/race.Enable", "internal/race.Acquire", "(*internal/sync.Mutex).lockSlow", "internal/sync.runtime_canSpin", "internal/sync.runtime_doSpin", "internal/sync.throw", "internal/sync.runtime_nanotime", "internal/sync.runtime_SemacquireMutex", "sync/atomic.AddInt32", "(*internal/sync.Mutex).Unlock", "internal/race.ReleaseMerge", "(*internal/sync.Mutex).unlockSlow", "internal/sync.fatal", "internal/sync.runtime_Semrelease", "sync/atomic.StoreUint32"], unfollowed := true, recurses := true, apart := false, narrowed := true }
def StrawCountsUptoSaid : Prop := strawCountsUptoRow.holds Try.pinned (OpenSpec.upto strawCountsSpec)

end Rows
end Go.Proofs.Ytonbmcgfbbpnkaa
