/- HealthRises is true for every rule: no condition. -/
import Derived.Test.YtcpfekhpbjkgeaaQ01
import Derived.Test.YtcpfekhpbjkgeaaQ23
section
/- HealthRises is true for every rule: no condition. -/
set_option linter.unusedVariables false
namespace Go.Proofs.Ytcpfekhpbjkgeaa
open Go.ChangeShapes Go.WideShapes Go.ChangeAt Go.RowKit
open Go.ChangeMaps (open_string shut_string)
set_option maxRecDepth 100000 in
theorem healthRises_lifted (os : Os) (started : os.Started) (H : Type) (enc : TypeId × Value → H) :
    ReturnsInHanded {} Try.checked os 7 .any (Rows.healthRisesSpec.pre6 enc Try.prog Try.f7 Rows.healthRisesRow.domain false) (Rows.healthRisesSpec.post enc Try.prog Try.f7 false true false false) := by
  refine law_lifted (C := Try.checked) (tb := 4) Try.own started (by as_aux_lemma => kernel_rfl) Try.func7
    (ChangeSpec.witness6 (enc := enc) (C := Try.checked) false ⟨#[], #[.agg #[.int .i64 0, .int .i64 0, .int .i64 0, .int .i64 0]], []⟩ 8 (by as_aux_lemma => kernel_rfl) (by as_aux_lemma => kernel_rfl) (by as_aux_lemma => kernel_rfl) (by as_aux_lemma => kernel_rfl))
    Try.laidOut (by as_aux_lemma => kernel_rfl) rfl (by as_aux_lemma => kernel_rfl) Try.underlying4 (by intro ds h; match ds, h with | [_], _ => rfl) ?_
  intro W base args ds p hval0 hA0 hlt hsz0
  have hval : ∀ (j : Nat) t v, Try.f7.params[j]? = some t → args[j]? = some v → Value.okWide Try.prog W .any base t v := hval0
  have hA : DataW.TrodAll enc Try.prog W 0 (fun _ => true) true Try.f7.params.toList args.toList ds p := hA0
  have hsz : (DataW.weightsEach Try.prog Try.f7.params.toList ds).all (· ≤ reachBytes) = true := hsz0
  clear hval0 hA0 hsz0
  rw [Try.params7] at hA hval hsz
  obtain ⟨v0, d0, rfl, rfl, h0⟩ := trodAll_one hA
  have hlt0 : ∀ x ∈ p, x.block < W.heap.size := hlt
  obtain ⟨r_e, r_t, r_r, r_f, rfl, F0⟩ := open_rule (enc := enc) (hval 0 49 v0 rfl rfl) h0
  exact (healthRises_walk W r_e r_t r_r r_f F0).mono fun e W' ⟨he, hw⟩ => ⟨he, hw⟩

theorem healthRises_facts : joinedFacts Try.prog 7 Try.f7 Rows.healthRisesSpec Rows.healthRisesRow = true :=
  joined_mk (by as_aux_lemma => kernel_rfl) Try.laidOut Try.mapsRowed (by as_aux_lemma => kernel_rfl) (by as_aux_lemma => kernel_rfl) (by as_aux_lemma => kernel_rfl) Try.stops (by as_aux_lemma => kernel_rfl) Try.stopKnobs (by as_aux_lemma => kernel_rfl) (by as_aux_lemma => kernel_rfl) (by as_aux_lemma => kernel_rfl) (by as_aux_lemma => kernel_rfl) (by as_aux_lemma => kernel_rfl) (by as_aux_lemma => kernel_rfl) (by as_aux_lemma => kernel_rfl) (by as_aux_lemma => kernel_rfl) (by as_aux_lemma => kernel_rfl) (by as_aux_lemma => kernel_rfl) (by as_aux_lemma => kernel_rfl) (by as_aux_lemma => kernel_rfl) (by as_aux_lemma => kernel_rfl) (by show (_ == Try.prog.plainKeys) = true; rw [Try.plainKeys]; rfl) (by as_aux_lemma => kernel_rfl) Try.stopsHeard Try.mayEnter (by show (_ == Try.prog.liftsFinal) = true; rw [Try.liftsFinal]; rfl) (by show (Try.prog.make == _) = true; rw [Try.make]; rfl) (by as_aux_lemma => kernel_rfl) (by as_aux_lemma => kernel_rfl) (by as_aux_lemma => kernel_rfl) (by as_aux_lemma => kernel_rfl)
theorem healthRises_holds : Rows.HealthRisesSaid :=
  OpenClaim.holds_of_wide 7 Try.f7 rfl rfl rfl rfl rfl rfl rfl ⟨rfl, rfl, rfl, rfl, rfl⟩ rfl rfl rfl rfl rfl (by as_aux_lemma => kernel_rfl) Try.func7 healthRises_facts
    (of_decide_eq_true (by as_aux_lemma => kernel_rfl)) (by unfold Func.isWrapper; rw [if_neg (of_decide_eq_false (by as_aux_lemma => kernel_rfl))]; exact ⟨rfl, rfl⟩)
    (fun os started H enc _ => healthRises_lifted os started H enc)
#print axioms healthRises_holds
end Go.Proofs.Ytcpfekhpbjkgeaa
end
