/- TraceErrs is true for any results, kinds, kind and error: no condition. -/
import Derived.Test.YtcpfekhpbjkgeaaT01
import Derived.Test.YtcpfekhpbjkgeaaT10
section
/- TraceErrs is true for any results, kinds, kind and error: no condition. -/
set_option linter.unusedVariables false
namespace Go.Proofs.Ytcpfekhpbjkgeaa
open Go.ChangeShapes Go.WideShapes Go.ChangeAt Go.RowKit
open Go.ChangeMaps (open_string shut_string)
set_option maxRecDepth 100000 in
theorem traceErrs_lifted (os : Os) (started : os.Started) (H : Type) (enc : TypeId × Value → H) :
    ReturnsInHanded {} Try.checked os 11 .any (Rows.traceErrsSpec.pre6 enc Try.prog Try.f11 Rows.traceErrsRow.domain false) (Rows.traceErrsSpec.post enc Try.prog Try.f11 false true false false) := by
  refine law_lifted (C := Try.checked) (tb := 4) Try.own started (by as_aux_lemma => kernel_rfl) Try.func11
    (ChangeSpec.witness6 (enc := enc) (C := Try.checked) false ⟨#[], #[.slice none 0 0, .slice none 0 0, .int .i64 0, .int .i64 0], []⟩ 8 (by as_aux_lemma => kernel_rfl) (by as_aux_lemma => kernel_rfl) (by as_aux_lemma => kernel_rfl) (by as_aux_lemma => kernel_rfl))
    Try.laidOut (by as_aux_lemma => kernel_rfl) rfl (by as_aux_lemma => kernel_rfl) Try.underlying4 (by intro ds h; match ds, h with | [_, _, _, _], _ => rfl) ?_
  intro W base args ds p hval0 hA0 hlt hsz0
  have hval : ∀ (j : Nat) t v, Try.f11.params[j]? = some t → args[j]? = some v → Value.okWide Try.prog W .any base t v := hval0
  have hA : DataW.TrodAll enc Try.prog W 0 (fun _ => true) true Try.f11.params.toList args.toList ds p := hA0
  have hsz : (DataW.weightsEach Try.prog Try.f11.params.toList ds).all (· ≤ reachBytes) = true := hsz0
  clear hval0 hA0 hsz0
  rw [Try.params11] at hA hval hsz
  obtain ⟨v0, v1, v2, v3, d0, d1, d2, d3, p0, p1, p2, p3, rfl, rfl, rfl, h0, h1, h2, h3⟩ := trodAll_four hA
  have hlt0 : ∀ x ∈ p0, x.block < W.heap.size := fun x hx => hlt x (by simp [hx])
  have hlt1 : ∀ x ∈ p1, x.block < W.heap.size := fun x hx => hlt x (by simp [hx])
  have hlt2 : ∀ x ∈ p2, x.block < W.heap.size := fun x hx => hlt x (by simp [hx])
  have hlt3 : ∀ x ∈ p3, x.block < W.heap.size := fun x hx => hlt x (by simp [hx])
  obtain ⟨l_a, l_n, l_c, l, rfl, R0⟩ := open_tolds (enc := enc) (hval 0 85 v0 rfl rfl) h0 hlt0 (small_at hsz (j := 0) (t := 85) rfl rfl)
  obtain ⟨kinds_a, kinds_n, kinds_c, kinds, rfl, R1⟩ := open_list (k := .i64) Try.underlying60 Try.underlying3 Try.cellsInt Try.bytesInt (hval 1 60 v1 rfl rfl) h1 hlt1 (sized_at hsz (j := 1) (t := 60) rfl rfl)
  obtain ⟨kind, rfl, rfl, rfl, w2⟩ := open_int Try.underlying3 (hval 2 3 v2 rfl rfl) h2
  obtain ⟨e, rfl, rfl, rfl, w3⟩ := open_int Try.underlying3 (hval 3 3 v3 rfl rfl) h3
  exact (traceErrs_walk W l_a l_n l_c l R0 kinds_a kinds_n kinds_c kinds R1 kind (i64_of_wf w2).1 (i64_of_wf w2).2 e (i64_of_wf w3).1 (i64_of_wf w3).2).mono fun e W' ⟨he, hw⟩ => ⟨he, hw⟩

theorem traceErrs_facts : joinedFacts Try.prog 11 Try.f11 Rows.traceErrsSpec Rows.traceErrsRow = true :=
  joined_mk (by as_aux_lemma => kernel_rfl) Try.laidOut Try.mapsRowed (by as_aux_lemma => kernel_rfl) (by as_aux_lemma => kernel_rfl) (by as_aux_lemma => kernel_rfl) Try.stops (by as_aux_lemma => kernel_rfl) Try.stopKnobs (by as_aux_lemma => kernel_rfl) (by as_aux_lemma => kernel_rfl) (by as_aux_lemma => kernel_rfl) (by as_aux_lemma => kernel_rfl) (by as_aux_lemma => kernel_rfl) (by as_aux_lemma => kernel_rfl) (by as_aux_lemma => kernel_rfl) (by as_aux_lemma => kernel_rfl) (by as_aux_lemma => kernel_rfl) (by as_aux_lemma => kernel_rfl) (by as_aux_lemma => kernel_rfl) (by as_aux_lemma => kernel_rfl) (by as_aux_lemma => kernel_rfl) (by show (_ == Try.prog.plainKeys) = true; rw [Try.plainKeys]; rfl) (by as_aux_lemma => kernel_rfl) Try.stopsHeard Try.mayEnter (by show (_ == Try.prog.liftsFinal) = true; rw [Try.liftsFinal]; rfl) (by show (Try.prog.make == _) = true; rw [Try.make]; rfl) (by as_aux_lemma => kernel_rfl) (by as_aux_lemma => kernel_rfl) (by as_aux_lemma => kernel_rfl) (by as_aux_lemma => kernel_rfl)
theorem traceErrs_holds : Rows.TraceErrsSaid :=
  OpenClaim.holds_of_wide 11 Try.f11 rfl rfl rfl rfl rfl rfl rfl ⟨rfl, rfl, rfl, rfl, rfl⟩ rfl rfl rfl rfl rfl (by as_aux_lemma => kernel_rfl) Try.func11 traceErrs_facts
    (of_decide_eq_true (by as_aux_lemma => kernel_rfl)) (by unfold Func.isWrapper; rw [if_neg (of_decide_eq_false (by as_aux_lemma => kernel_rfl))]; exact ⟨rfl, rfl⟩)
    (fun os started H enc _ => traceErrs_lifted os started H enc)
#print axioms traceErrs_holds
end Go.Proofs.Ytcpfekhpbjkgeaa
end
