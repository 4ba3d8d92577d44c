/- Regions that draw their order and whose operations, callees too, keep the world within a class: one walk, in the order of the text. -/
import Derived.Test.YtpedhlmcgilliaaUnder
set_option linter.unusedVariables false
namespace Go.Proofs.Ytpedhlmcgilliaa
open Go.RowKit
/-- A world of a class. -/
structure Held (C : World → Prop) where
  w : World
  h : C w
theorem wp_region_quiet_held {P : Program} {id : Nat} {Q : Exit → Act → World → Prop} {a : Act} {w : World} {l : List Oper} {C : World → Prop} (hm : P.follows .mixedOrders = true) (hB : Region.lexB .any l.toArray = true) (h0 : C w.drew)
    (h : wpQuiet P l.toArray (fun w' => ∃ p : Held C, w' = p.w) (fun a' => ∀ w', (∃ p : Held C, w' = p.w) → Q .normal a' w') l a) : (Code.region id l.toArray true).wp P Q a w :=
  wp_region_quiet (C := fun w' => ∃ p : Held C, w' = p.w) hm hB ⟨⟨w.drew, h0⟩, rfl⟩ (by simpa using h)
theorem calls_held {P : Program} {f : FuncId} {args : Array Value} {C : World → Prop} {p : Held C} {v : Value}
    (h : Calls P f args p.w fun e w' => e = .returned v ∧ C w') : Calls P f args p.w fun e w'' => e = .returned v ∧ ∃ q : Held C, w'' = q.w :=
  h.mono fun _ w' ⟨he, hc⟩ => ⟨he, ⟨w', hc⟩, rfl⟩
end Go.Proofs.Ytpedhlmcgilliaa
