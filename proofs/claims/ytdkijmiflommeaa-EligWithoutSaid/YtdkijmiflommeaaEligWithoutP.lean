/- EligWithout is true for every list of nodes, every list of hosts and every list of nodes that are left out: no condition. -/
import Derived.Test.YtdkijmiflommeaaFrame
import Derived.Test.YtdkijmiflommeaaOpen
import Derived.Test.YtdkijmiflommeaaEligQ
set_option linter.unusedVariables false
namespace Go.Proofs.Ytdkijmiflommeaa
open Go.ChangeShapes Go.WideShapes Go.ChangeAt Go.RowKit
open Go.ChangeMaps (open_string shut_string)
set_option maxRecDepth 100000 in
theorem eligWithout_lifted (os : Os) (started : os.Started) (H : Type) (enc : TypeId × Value → H) :
    ReturnsInHanded {} Try.checked os 10 .any (Rows.eligWithoutSpec.pre6 enc Try.prog Try.f10 Rows.eligWithoutRow.domain false) (Rows.eligWithoutSpec.post enc Try.prog Try.f10 false true false false) := by
  refine law_lifted (C := Try.checked) (tb := 4) Try.own started (by as_aux_lemma => kernel_rfl) Try.func10
    (ChangeSpec.witness6 (enc := enc) (C := Try.checked) false ⟨#[], #[.slice none 0 0, .slice none 0 0, .slice none 0 0], []⟩ 8 (by as_aux_lemma => kernel_rfl) (by as_aux_lemma => kernel_rfl) (by as_aux_lemma => kernel_rfl) (by as_aux_lemma => kernel_rfl))
    Try.laidOut (by as_aux_lemma => kernel_rfl) rfl (by as_aux_lemma => kernel_rfl) Try.underlying4 (by intro ds h; match ds, h with | [_, _, _], _ => rfl) ?_
  intro W base args ds p hval0 hA0 hlt hsz0
  have hval : ∀ (j : Nat) t v, Try.f10.params[j]? = some t → args[j]? = some v → Value.okWide Try.prog W .any base t v := hval0
  have hA : DataW.TrodAll enc Try.prog W 0 (fun _ => true) true Try.f10.params.toList args.toList ds p := hA0
  have hsz : (DataW.weightsEach Try.prog Try.f10.params.toList ds).all (· ≤ reachBytes) = true := hsz0
  clear hval0 hA0 hsz0
  rw [Try.params10] at hA hval hsz
  obtain ⟨v0, v1, v2, d0, d1, d2, p0, p1, p2, rfl, rfl, rfl, h0, h1, h2⟩ := trodAll_three hA
  have hlt0 : ∀ x ∈ p0, x.block < W.heap.size := fun x hx => hlt x (by simp [hx])
  have hlt1 : ∀ x ∈ p1, x.block < W.heap.size := fun x hx => hlt x (by simp [hx])
  have hlt2 : ∀ x ∈ p2, x.block < W.heap.size := fun x hx => hlt x (by simp [hx])
  obtain ⟨l_a, l_n, l_c, l, rfl, R0⟩ := open_nodes ⟨Try.underlying34, Try.underlying32, (by as_aux_lemma => kernel_rfl), ⟨rfl, (by as_aux_lemma => kernel_rfl)⟩, ⟨rfl, (by as_aux_lemma => kernel_rfl)⟩, ⟨rfl, (by as_aux_lemma => kernel_rfl)⟩, ⟨rfl, (by as_aux_lemma => kernel_rfl)⟩, ⟨rfl, (by as_aux_lemma => kernel_rfl)⟩, ⟨rfl, (by as_aux_lemma => kernel_rfl)⟩, ⟨rfl, (by as_aux_lemma => kernel_rfl)⟩, ⟨rfl, (by as_aux_lemma => kernel_rfl)⟩, Try.underlying9, Try.underlying3, Try.underlying3, Try.underlying3, Try.underlying4, Try.underlying30, Try.underlying30⟩ Try.underlying22 (of_decide_eq_true (by as_aux_lemma => kernel_rfl)) (hval 0 22 v0 rfl rfl) h0 hlt0 (sized_at hsz (j := 0) (t := 22) rfl rfl)
  obtain ⟨hosts_a, hosts_n, hosts_c, hosts, rfl, R1⟩ := open_list (k := .i64) Try.underlying40 Try.underlying3 Try.cellsInt Try.bytesInt (hval 1 40 v1 rfl rfl) h1 hlt1 (sized_at hsz (j := 1) (t := 40) rfl rfl)
  obtain ⟨nodes_a, nodes_n, nodes_c, nodes, rfl, R2⟩ := open_list (k := .i64) Try.underlying40 Try.underlying3 Try.cellsInt Try.bytesInt (hval 2 40 v2 rfl rfl) h2 hlt2 (sized_at hsz (j := 2) (t := 40) rfl rfl)
  exact (eligWithout_walk W l_a l_n l_c l R0 hosts_a hosts_n hosts_c hosts R1 nodes_a nodes_n nodes_c nodes R2).mono fun e W' ⟨he, hw⟩ => ⟨he, hw⟩

theorem eligWithout_facts : joinedFacts Try.prog 10 Try.f10 Rows.eligWithoutSpec Rows.eligWithoutRow = true :=
  joined_mk (by as_aux_lemma => kernel_rfl) Try.laidOut Try.mapsRowed (by as_aux_lemma => kernel_rfl) (by as_aux_lemma => kernel_rfl) (by as_aux_lemma => kernel_rfl) Try.stops (by as_aux_lemma => kernel_rfl) Try.stopKnobs (by as_aux_lemma => kernel_rfl) (by as_aux_lemma => kernel_rfl) (by as_aux_lemma => kernel_rfl) (by as_aux_lemma => kernel_rfl) (by as_aux_lemma => kernel_rfl) (by as_aux_lemma => kernel_rfl) (by as_aux_lemma => kernel_rfl) (by as_aux_lemma => kernel_rfl) (by as_aux_lemma => kernel_rfl) (by as_aux_lemma => kernel_rfl) (by as_aux_lemma => kernel_rfl) (by as_aux_lemma => kernel_rfl) (by as_aux_lemma => kernel_rfl) (by show (_ == Try.prog.plainKeys) = true; rw [Try.plainKeys]; rfl) (by as_aux_lemma => kernel_rfl) Try.stopsHeard Try.mayEnter (by show (_ == Try.prog.liftsFinal) = true; rw [Try.liftsFinal]; rfl) (by show (Try.prog.make == _) = true; rw [Try.make]; rfl) (by as_aux_lemma => kernel_rfl) (by as_aux_lemma => kernel_rfl) (by as_aux_lemma => kernel_rfl) (by as_aux_lemma => kernel_rfl)
theorem eligWithout_holds : Rows.EligWithoutSaid :=
  OpenClaim.holds_of_wide 10 Try.f10 rfl rfl rfl rfl rfl rfl rfl ⟨rfl, rfl, rfl, rfl, rfl⟩ rfl rfl rfl rfl rfl (by as_aux_lemma => kernel_rfl) Try.func10 eligWithout_facts
    (of_decide_eq_true (by as_aux_lemma => kernel_rfl)) (by unfold Func.isWrapper; rw [if_neg (of_decide_eq_false (by as_aux_lemma => kernel_rfl))]; exact ⟨rfl, rfl⟩)
    (fun os started H enc _ => eligWithout_lifted os started H enc)
#print axioms eligWithout_holds
end Go.Proofs.Ytdkijmiflommeaa
