/- WideFracs is true for every two fractions and every list of fractions: no condition. -/
import Derived.Test.YtonbmcgfbbpnkaaFrame
import Derived.Test.YtonbmcgfbbpnkaaOpen
import Derived.Test.YtonbmcgfbbpnkaaPair
import Derived.Test.YtonbmcgfbbpnkaaPairs
import Derived.Test.YtonbmcgfbbpnkaaWideJ
set_option linter.unusedVariables false
namespace Go.Proofs.Ytonbmcgfbbpnkaa
open Go.ChangeShapes Go.WideShapes Go.ChangeAt Go.RowKit
open Go.ChangeMaps (open_string shut_string)
set_option maxRecDepth 100000 in
theorem wideFracs_lifted (os : Os) (started : os.Started) (H : Type) (enc : TypeId × Value → H) :
    ReturnsInHanded {} Try.checked os 5 .any (Rows.wideFracsSpec.pre6 enc Try.prog Try.f5 Rows.wideFracsRow.domain false) (Rows.wideFracsSpec.post enc Try.prog Try.f5 false true false false) := by
  refine law_lifted (C := Try.checked) (tb := 4) Try.own started (by as_aux_lemma => kernel_rfl) Try.func5
    (ChangeSpec.witness6 (enc := enc) (C := Try.checked) false ⟨#[], #[.agg #[.int .u64 0, .int .u64 0], .agg #[.int .u64 0, .int .u64 0], .slice none 0 0], []⟩ 8 (by as_aux_lemma => kernel_rfl) (by as_aux_lemma => kernel_rfl) (by as_aux_lemma => kernel_rfl) (by as_aux_lemma => kernel_rfl))
    Try.laidOut (by as_aux_lemma => kernel_rfl) rfl (by as_aux_lemma => kernel_rfl) Try.underlying4 (by intro ds h; match ds, h with | [_, _, _], _ => rfl) ?_
  intro W base args ds p hval0 hA0 hlt hsz0
  have hval : ∀ (j : Nat) t v, Try.f5.params[j]? = some t → args[j]? = some v → Value.okWide Try.prog W .any base t v := hval0
  have hA : DataW.TrodAll enc Try.prog W 0 (fun _ => true) true Try.f5.params.toList args.toList ds p := hA0
  have hsz : (DataW.weightsEach Try.prog Try.f5.params.toList ds).all (· ≤ reachBytes) = true := hsz0
  clear hval0 hA0 hsz0
  rw [Try.params5] at hA hval hsz
  obtain ⟨v0, v1, v2, d0, d1, d2, p0, p1, p2, rfl, rfl, rfl, h0, h1, h2⟩ := trodAll_three hA
  have hlt0 : ∀ x ∈ p0, x.block < W.heap.size := fun x hx => hlt x (by simp [hx])
  have hlt1 : ∀ x ∈ p1, x.block < W.heap.size := fun x hx => hlt x (by simp [hx])
  have hlt2 : ∀ x ∈ p2, x.block < W.heap.size := fun x hx => hlt x (by simp [hx])
  obtain ⟨a_h, a_l, rfl, N0, M0⟩ := open_pair Try.underlying37 (by as_aux_lemma => kernel_rfl) Try.cellsFrac Try.underlying22 Try.underlying22 (hval 0 37 v0 rfl rfl) h0
  obtain ⟨b_h, b_l, rfl, N1, M1⟩ := open_pair Try.underlying37 (by as_aux_lemma => kernel_rfl) Try.cellsFrac Try.underlying22 Try.underlying22 (hval 1 37 v1 rfl rfl) h1
  obtain ⟨l_a, l_n, l_c, l, rfl, R2⟩ := open_pairs (k0 := .u64) (k1 := .u64) Try.underlying38 Try.underlying37 (by as_aux_lemma => kernel_rfl) (by as_aux_lemma => kernel_rfl) (by as_aux_lemma => kernel_rfl) Try.underlying22 Try.underlying22 (hval 2 38 v2 rfl rfl) h2 hlt2 (sized_at hsz (j := 2) (t := 38) rfl rfl)
  exact (wideFracs_walk W a_h a_l ⟨N0.1, N0.2, M0.1, M0.2⟩ b_h b_l ⟨N1.1, N1.2, M1.1, M1.2⟩ l_a l_n l_c l R2).mono fun e W' ⟨he, hw⟩ => ⟨he, hw⟩

theorem wideFracs_facts : joinedFacts Try.prog 5 Try.f5 Rows.wideFracsSpec Rows.wideFracsRow = true :=
  joined_mk (by as_aux_lemma => kernel_rfl) Try.laidOut Try.mapsRowed (by as_aux_lemma => kernel_rfl) (by as_aux_lemma => kernel_rfl) (by as_aux_lemma => kernel_rfl) Try.stops (by as_aux_lemma => kernel_rfl) Try.stopKnobs (by as_aux_lemma => kernel_rfl) (by as_aux_lemma => kernel_rfl) (by as_aux_lemma => kernel_rfl) (by as_aux_lemma => kernel_rfl) (by as_aux_lemma => kernel_rfl) (by as_aux_lemma => kernel_rfl) (by as_aux_lemma => kernel_rfl) (by as_aux_lemma => kernel_rfl) (by as_aux_lemma => kernel_rfl) (by as_aux_lemma => kernel_rfl) (by as_aux_lemma => kernel_rfl) (by as_aux_lemma => kernel_rfl) (by as_aux_lemma => kernel_rfl) (by show (_ == Try.prog.plainKeys) = true; rw [Try.plainKeys]; rfl) (by as_aux_lemma => kernel_rfl) Try.stopsHeard Try.mayEnter (by show (_ == Try.prog.liftsFinal) = true; rw [Try.liftsFinal]; rfl) (by show (Try.prog.make == _) = true; rw [Try.make]; rfl) (by as_aux_lemma => kernel_rfl) (by as_aux_lemma => kernel_rfl) (by as_aux_lemma => kernel_rfl) (by as_aux_lemma => kernel_rfl)
theorem wideFracs_holds : Rows.WideFracsSaid :=
  OpenClaim.holds_of_wide 5 Try.f5 rfl rfl rfl rfl rfl rfl rfl ⟨rfl, rfl, rfl, rfl, rfl⟩ rfl rfl rfl rfl rfl (by as_aux_lemma => kernel_rfl) Try.func5 wideFracs_facts
    (of_decide_eq_true (by as_aux_lemma => kernel_rfl)) (by unfold Func.isWrapper; rw [if_neg (of_decide_eq_false (by as_aux_lemma => kernel_rfl))]; exact ⟨rfl, rfl⟩)
    (fun os started H enc _ => wideFracs_lifted os started H enc)
#print axioms wideFracs_holds
end Go.Proofs.Ytonbmcgfbbpnkaa
