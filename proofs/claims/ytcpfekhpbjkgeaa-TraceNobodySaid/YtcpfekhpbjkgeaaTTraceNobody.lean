/- TraceNobody is true for any ops and any results: no condition. -/
import Derived.Test.YtcpfekhpbjkgeaaT01
import Derived.Test.YtcpfekhpbjkgeaaT09
section
/- TraceNobody is true for any ops and any results: no condition. -/
set_option linter.unusedVariables false
namespace Go.Proofs.Ytcpfekhpbjkgeaa
open Go.ChangeShapes Go.WideShapes Go.ChangeAt Go.RowKit
open Go.ChangeMaps (open_string shut_string)
set_option maxRecDepth 100000 in
theorem traceNobody_lifted (os : Os) (started : os.Started) (H : Type) (enc : TypeId × Value → H) :
    ReturnsInHanded {} Try.checked os 12 .any (Rows.traceNobodySpec.pre6 enc Try.prog Try.f12 Rows.traceNobodyRow.domain false) (Rows.traceNobodySpec.post enc Try.prog Try.f12 false true false false) := by
  refine law_lifted (C := Try.checked) (tb := 4) Try.own started (by as_aux_lemma => kernel_rfl) Try.func12
    (ChangeSpec.witness6 (enc := enc) (C := Try.checked) false ⟨#[], #[.slice none 0 0, .slice none 0 0], []⟩ 8 (by as_aux_lemma => kernel_rfl) (by as_aux_lemma => kernel_rfl) (by as_aux_lemma => kernel_rfl) (by as_aux_lemma => kernel_rfl))
    Try.laidOut (by as_aux_lemma => kernel_rfl) rfl (by as_aux_lemma => kernel_rfl) Try.underlying4 (by intro ds h; match ds, h with | [_, _], _ => rfl) ?_
  intro W base args ds p hval0 hA0 hlt hsz0
  have hval : ∀ (j : Nat) t v, Try.f12.params[j]? = some t → args[j]? = some v → Value.okWide Try.prog W .any base t v := hval0
  have hA : DataW.TrodAll enc Try.prog W 0 (fun _ => true) true Try.f12.params.toList args.toList ds p := hA0
  have hsz : (DataW.weightsEach Try.prog Try.f12.params.toList ds).all (· ≤ reachBytes) = true := hsz0
  clear hval0 hA0 hsz0
  rw [Try.params12] at hA hval hsz
  obtain ⟨v0, v1, d0, d1, p0, p1, rfl, rfl, rfl, h0, h1⟩ := trodAll_two hA
  have hlt0 : ∀ x ∈ p0, x.block < W.heap.size := fun x hx => hlt x (by simp [hx])
  have hlt1 : ∀ x ∈ p1, x.block < W.heap.size := fun x hx => hlt x (by simp [hx])
  obtain ⟨o_a, o_n, o_c, o, rfl, R0⟩ := open_ops (enc := enc) (hval 0 106 v0 rfl rfl) h0 hlt0 (small_at hsz (j := 0) (t := 106) rfl rfl)
  obtain ⟨l_a, l_n, l_c, l, rfl, R1⟩ := open_tolds (enc := enc) (hval 1 85 v1 rfl rfl) h1 hlt1 (small_at hsz (j := 1) (t := 85) rfl rfl)
  exact (traceNobody_walk W o_a o_n o_c o R0 l_a l_n l_c l R1).mono fun e W' ⟨he, hw⟩ => ⟨he, hw⟩

theorem traceNobody_facts : joinedFacts Try.prog 12 Try.f12 Rows.traceNobodySpec Rows.traceNobodyRow = true :=
  joined_mk (by as_aux_lemma => kernel_rfl) Try.laidOut Try.mapsRowed (by as_aux_lemma => kernel_rfl) (by as_aux_lemma => kernel_rfl) (by as_aux_lemma => kernel_rfl) Try.stops (by as_aux_lemma => kernel_rfl) Try.stopKnobs (by as_aux_lemma => kernel_rfl) (by as_aux_lemma => kernel_rfl) (by as_aux_lemma => kernel_rfl) (by as_aux_lemma => kernel_rfl) (by as_aux_lemma => kernel_rfl) (by as_aux_lemma => kernel_rfl) (by as_aux_lemma => kernel_rfl) (by as_aux_lemma => kernel_rfl) (by as_aux_lemma => kernel_rfl) (by as_aux_lemma => kernel_rfl) (by as_aux_lemma => kernel_rfl) (by as_aux_lemma => kernel_rfl) (by as_aux_lemma => kernel_rfl) (by show (_ == Try.prog.plainKeys) = true; rw [Try.plainKeys]; rfl) (by as_aux_lemma => kernel_rfl) Try.stopsHeard Try.mayEnter (by show (_ == Try.prog.liftsFinal) = true; rw [Try.liftsFinal]; rfl) (by show (Try.prog.make == _) = true; rw [Try.make]; rfl) (by as_aux_lemma => kernel_rfl) (by as_aux_lemma => kernel_rfl) (by as_aux_lemma => kernel_rfl) (by as_aux_lemma => kernel_rfl)
theorem traceNobody_holds : Rows.TraceNobodySaid :=
  OpenClaim.holds_of_wide 12 Try.f12 rfl rfl rfl rfl rfl rfl rfl ⟨rfl, rfl, rfl, rfl, rfl⟩ rfl rfl rfl rfl rfl (by as_aux_lemma => kernel_rfl) Try.func12 traceNobody_facts
    (of_decide_eq_true (by as_aux_lemma => kernel_rfl)) (by unfold Func.isWrapper; rw [if_neg (of_decide_eq_false (by as_aux_lemma => kernel_rfl))]; exact ⟨rfl, rfl⟩)
    (fun os started H enc _ => traceNobody_lifted os started H enc)
#print axioms traceNobody_holds
end Go.Proofs.Ytcpfekhpbjkgeaa
end
