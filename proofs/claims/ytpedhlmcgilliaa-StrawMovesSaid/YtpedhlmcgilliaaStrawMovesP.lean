/- StrawMoves is true for every key, every items, every place and every weight: no condition. -/
import Derived.Test.YtpedhlmcgilliaaFrame
import Derived.Test.YtpedhlmcgilliaaOpen
import Derived.Test.YtpedhlmcgilliaaPairs
import Derived.Test.YtpedhlmcgilliaaStrawI
set_option linter.unusedVariables false
namespace Go.Proofs.Ytpedhlmcgilliaa
open Go.ChangeShapes Go.WideShapes Go.ChangeAt Go.RowKit
open Go.ChangeMaps (open_string shut_string)
set_option maxRecDepth 100000 in
theorem strawMoves_lifted (os : Os) (started : os.Started) (H : Type) (enc : TypeId × Value → H) :
    ReturnsInHanded {} Try.checked os 4 .any (Rows.strawMovesSpec.pre6 enc Try.prog Try.f4 Rows.strawMovesRow.domain false) (Rows.strawMovesSpec.post enc Try.prog Try.f4 false true false false) := by
  refine law_lifted (C := Try.checked) (tb := 4) Try.own started (by as_aux_lemma => kernel_rfl) Try.func4
    (ChangeSpec.witness6 (enc := enc) (C := Try.checked) false ⟨#[], #[.int .u64 0, .slice none 0 0, .int .i64 0, .int .u64 0], []⟩ 8 (by as_aux_lemma => kernel_rfl) (by as_aux_lemma => kernel_rfl) (by as_aux_lemma => kernel_rfl) (by as_aux_lemma => kernel_rfl))
    Try.laidOut (by as_aux_lemma => kernel_rfl) rfl (by as_aux_lemma => kernel_rfl) Try.underlying4 (by intro ds h; match ds, h with | [_, _, _, _], _ => rfl) ?_
  intro W base args ds p hval0 hA0 hlt hsz0
  have hval : ∀ (j : Nat) t v, Try.f4.params[j]? = some t → args[j]? = some v → Value.okWide Try.prog W .any base t v := hval0
  have hA : DataW.TrodAll enc Try.prog W 0 (fun _ => true) true Try.f4.params.toList args.toList ds p := hA0
  have hsz : (DataW.weightsEach Try.prog Try.f4.params.toList ds).all (· ≤ reachBytes) = true := hsz0
  clear hval0 hA0 hsz0
  rw [Try.params4] at hA hval hsz
  obtain ⟨v0, v1, v2, v3, d0, d1, d2, d3, p0, p1, p2, p3, rfl, rfl, rfl, h0, h1, h2, h3⟩ := trodAll_four hA
  have hlt0 : ∀ x ∈ p0, x.block < W.heap.size := fun x hx => hlt x (by simp [hx])
  have hlt1 : ∀ x ∈ p1, x.block < W.heap.size := fun x hx => hlt x (by simp [hx])
  have hlt2 : ∀ x ∈ p2, x.block < W.heap.size := fun x hx => hlt x (by simp [hx])
  have hlt3 : ∀ x ∈ p3, x.block < W.heap.size := fun x hx => hlt x (by simp [hx])
  obtain ⟨key, rfl, rfl, rfl, w0⟩ := open_int Try.underlying22 (hval 0 22 v0 rfl rfl) h0
  obtain ⟨l_a, l_n, l_c, l, rfl, R1⟩ := open_pairs (k0 := .u64) (k1 := .u64) Try.underlying23 Try.underlying25 (by as_aux_lemma => kernel_rfl) (by as_aux_lemma => kernel_rfl) (by as_aux_lemma => kernel_rfl) Try.underlying22 Try.underlying22 (hval 1 23 v1 rfl rfl) h1 hlt1 (sized_at hsz (j := 1) (t := 23) rfl rfl)
  obtain ⟨at_, rfl, rfl, rfl, w2⟩ := open_int Try.underlying3 (hval 2 3 v2 rfl rfl) h2
  obtain ⟨weight, rfl, rfl, rfl, w3⟩ := open_int Try.underlying22 (hval 3 22 v3 rfl rfl) h3
  exact (strawMoves_walk W key (u64_of_wf w0).1 (u64_of_wf w0).2 l_a l_n l_c l R1 at_ (i64_of_wf w2).1 (i64_of_wf w2).2 weight (u64_of_wf w3).1 (u64_of_wf w3).2).mono fun e W' ⟨he, hw⟩ => ⟨he, hw⟩

theorem strawMoves_facts : joinedFacts Try.prog 4 Try.f4 Rows.strawMovesSpec Rows.strawMovesRow = true :=
  joined_mk (by as_aux_lemma => kernel_rfl) Try.laidOut Try.mapsRowed (by as_aux_lemma => kernel_rfl) (by as_aux_lemma => kernel_rfl) (by as_aux_lemma => kernel_rfl) Try.stops (by as_aux_lemma => kernel_rfl) Try.stopKnobs (by as_aux_lemma => kernel_rfl) (by as_aux_lemma => kernel_rfl) (by as_aux_lemma => kernel_rfl) (by as_aux_lemma => kernel_rfl) (by as_aux_lemma => kernel_rfl) (by as_aux_lemma => kernel_rfl) (by as_aux_lemma => kernel_rfl) (by as_aux_lemma => kernel_rfl) (by as_aux_lemma => kernel_rfl) (by as_aux_lemma => kernel_rfl) (by as_aux_lemma => kernel_rfl) (by as_aux_lemma => kernel_rfl) (by as_aux_lemma => kernel_rfl) (by show (_ == Try.prog.plainKeys) = true; rw [Try.plainKeys]; rfl) (by as_aux_lemma => kernel_rfl) Try.stopsHeard Try.mayEnter (by show (_ == Try.prog.liftsFinal) = true; rw [Try.liftsFinal]; rfl) (by show (Try.prog.make == _) = true; rw [Try.make]; rfl) (by as_aux_lemma => kernel_rfl) (by as_aux_lemma => kernel_rfl) (by as_aux_lemma => kernel_rfl) (by as_aux_lemma => kernel_rfl)
theorem strawMoves_holds : Rows.StrawMovesSaid :=
  OpenClaim.holds_of_wide 4 Try.f4 rfl rfl rfl rfl rfl rfl rfl ⟨rfl, rfl, rfl, rfl, rfl⟩ rfl rfl rfl rfl rfl (by as_aux_lemma => kernel_rfl) Try.func4 strawMoves_facts
    (of_decide_eq_true (by as_aux_lemma => kernel_rfl)) (by unfold Func.isWrapper; rw [if_neg (of_decide_eq_false (by as_aux_lemma => kernel_rfl))]; exact ⟨rfl, rfl⟩)
    (fun os started H enc _ => strawMoves_lifted os started H enc)
#print axioms strawMoves_holds
end Go.Proofs.Ytpedhlmcgilliaa
