/- Regions that draw their order, whose operations only read and whose callees may make memory: one walk, in the order of the text. -/
import Derived.Test.YtpedhlmcgilliaaObj
import Derived.Test.YtpedhlmcgilliaaQuiet3
set_option linter.unusedVariables false
namespace Go.Proofs.Ytpedhlmcgilliaa
open Go.RowKit
/-- What a world has beside another one: blocks behind its own, and a count of draws. -/
structure UP where
  h : Array Obj
  d : Nat
  deriving Inhabited
/-- A world with more blocks, and another count. -/
def under (w : World) (p : UP) : World := { w with heap := w.heap ++ p.h, drawn := p.d }
theorem under_below (w : World) (p : UP) : Below w.heap.size w (under w p) :=
  ⟨rfl, rfl, rfl, by simp [under], fun k hk => by simp only [under]; exact Array.getElem?_append_left hk⟩
theorem under_of_below {w w' : World} (h : Below w.heap.size w w') : ∃ p : UP, w' = under w p := by
  refine ⟨⟨w'.heap.extract w.heap.size w'.heap.size, w'.drawn⟩, ?_⟩
  obtain ⟨ho, ht, hp, hs, hb⟩ := h
  have e : w.heap ++ w'.heap.extract w.heap.size w'.heap.size = w'.heap := by
    apply Array.ext_getElem?
    intro i
    rcases Nat.lt_or_ge i w.heap.size with hi | hi
    · rw [Array.getElem?_append_left hi, hb i hi]
    · rw [Array.getElem?_append_right hi, Array.getElem?_extract]
      split
      · congr 1; omega
      · rw [Array.getElem?_eq_none]; omega
  cases w; cases w'
  simp only [under] at *
  subst ho ht hp
  rw [e]
theorem under_under (w : World) (p q : UP) : under (under w p) q = under w ⟨p.h ++ q.h, q.d⟩ := by
  simp [under, Array.append_assoc]
theorem under_drew (w : World) : ({ w with drawn := w.drawn + 1 } : World) = under w ⟨#[], w.drawn + 1⟩ := by simp [under]
theorem cell_under {w : World} {a : Addr} {v : Value} (h : w.cell? a = some v) (p : UP) : (under w p).cell? a = some v := cell_keep h (under_below w p)
theorem Blk.under {w : World} {g : Nat} {t : TypeId} {cs : Array Value} (h : Blk w g t cs) (p : UP) : Blk (under w p) g t cs := h.keep (under_below w p)
theorem wp_region_quiet_under {P : Program} {id : Nat} {Q : Exit → Act → World → Prop} {a : Act} {w : World} {l : List Oper} (hm : P.follows .mixedOrders = true) (hB : Region.lexB .any l.toArray = true)
    (h : wpQuiet P l.toArray (fun w' => ∃ p : UP, w' = under w p) (fun a' => ∀ w', (∃ p : UP, w' = under w p) → Q .normal a' w') l a) : (Code.region id l.toArray true).wp P Q a w :=
  wp_region_quiet (C := fun w' => ∃ p : UP, w' = under w p) hm hB ⟨_, under_drew w⟩ (by simpa using h)
theorem calls_under {P : Program} {f : FuncId} {args : Array Value} {w : World} {p : UP} {v : Value}
    (h : Calls P f args (under w p) fun e w' => e = .returned v ∧ Below (under w p).heap.size (under w p) w') : Calls P f args (under w p) fun e w'' => e = .returned v ∧ ∃ q : UP, w'' = under w q :=
  h.mono fun _ _ ⟨he, hb⟩ => by
    obtain ⟨q, hq⟩ := under_of_below hb
    exact ⟨he, _, hq.trans (under_under w p q)⟩
theorem calls_under_same {P : Program} {f : FuncId} {args : Array Value} {w : World} {p : UP} {v : Value}
    (h : Calls P f args (under w p) fun e w' => e = .returned v ∧ under w p = w') : Calls P f args (under w p) fun e w'' => e = .returned v ∧ ∃ q : UP, w'' = under w q :=
  h.mono fun _ _ ⟨he, hb⟩ => ⟨he, _, hb.symm⟩
theorem calls_under_drewN {P : Program} {f : FuncId} {args : Array Value} {w : World} {p : UP} {v : Value}
    (h : Calls P f args (under w p) fun e w' => e = .returned v ∧ ∃ d, w' = (under w p).drewN d) : Calls P f args (under w p) fun e w'' => e = .returned v ∧ ∃ q : UP, w'' = under w q :=
  h.mono fun _ _ ⟨he, d, hb⟩ => ⟨he, ⟨p.h, p.d + d⟩, by rw [hb]; rfl⟩
theorem below_eq {w w' : World} {p : UP} (h : w' = under w p) : Below w.heap.size w w' := h ▸ under_below w p
end Go.Proofs.Ytpedhlmcgilliaa
