/- WalkHosts is true for every list of nodes, every list of hosts, every level, key, seed and factor: no condition. -/
import Derived.Test.YtblbgafadadbmaaGreatQ01
import Derived.Test.YtblbgafadadbmaaGreatQ21
section
/- WalkHosts is true for every list of nodes, every list of hosts, every level, key, seed and factor: no condition. -/
set_option linter.unusedVariables false
namespace Go.Proofs.YtblbgafadadbmaaGreat
open Go.ChangeShapes Go.WideShapes Go.ChangeAt Go.RowKit
open Go.ChangeMaps (open_string shut_string)
set_option maxRecDepth 100000 in
theorem walkHosts_lifted (os : Os) (started : os.Started) (H : Type) (enc : TypeId × Value → H) :
    ReturnsInHanded {} Tryz.checked os 3 .any (Rows.walkHostsSpec.pre6 enc Tryz.prog Tryz.f3 Rows.walkHostsRow.domain false) (Rows.walkHostsSpec.post enc Tryz.prog Tryz.f3 false true false false) := by
  refine law_lifted (C := Tryz.checked) (tb := 4) Tryz.own started (by as_aux_lemma => kernel_rfl) Tryz.func3
    (ChangeSpec.witness6 (enc := enc) (C := Tryz.checked) false ⟨#[], #[.slice none 0 0, .slice none 0 0, .int .i64 0, .int .u64 0, .int .u64 0, .int .i64 0], []⟩ 8 (by as_aux_lemma => kernel_rfl) (by as_aux_lemma => kernel_rfl) (by as_aux_lemma => kernel_rfl) (by as_aux_lemma => kernel_rfl))
    Tryz.laidOut (by as_aux_lemma => kernel_rfl) rfl (by as_aux_lemma => kernel_rfl) Tryz.underlying4 (by intro ds h; match ds, h with | [_, _, _, _, _, _], _ => rfl) ?_
  intro W base args ds p hval0 hA0 hlt hsz0
  have hval : ∀ (j : Nat) t v, Tryz.f3.params[j]? = some t → args[j]? = some v → Value.okWide Tryz.prog W .any base t v := hval0
  have hA : DataW.TrodAll enc Tryz.prog W 0 (fun _ => true) true Tryz.f3.params.toList args.toList ds p := hA0
  have hsz : (DataW.weightsEach Tryz.prog Tryz.f3.params.toList ds).all (· ≤ reachBytes) = true := hsz0
  clear hval0 hA0 hsz0
  rw [Tryz.params3] at hA hval hsz
  obtain ⟨v0, vs0, d0, ds0, p0, q0, hargs, rfl, rfl, h0, r0⟩ := trodAll_cons hA
  obtain ⟨v1, vs1, d1, ds1, p1, q1, rfl, rfl, rfl, h1, r1⟩ := trodAll_cons r0
  obtain ⟨v2, vs2, d2, ds2, p2, q2, rfl, rfl, rfl, h2, r2⟩ := trodAll_cons r1
  obtain ⟨v3, vs3, d3, ds3, p3, q3, rfl, rfl, rfl, h3, r3⟩ := trodAll_cons r2
  obtain ⟨v4, vs4, d4, ds4, p4, q4, rfl, rfl, rfl, h4, r4⟩ := trodAll_cons r3
  obtain ⟨v5, vs5, d5, ds5, p5, q5, rfl, rfl, rfl, h5, r5⟩ := trodAll_cons r4
  obtain ⟨rfl, rfl, rfl⟩ := trodAll_nil r5
  obtain rfl : args = #[v0, v1, v2, v3, v4, v5] := by cases args; simpa using hargs
  have hlt0 : ∀ x ∈ p0, x.block < W.heap.size := fun x hx => hlt x (by simp [hx])
  have hlt1 : ∀ x ∈ p1, x.block < W.heap.size := fun x hx => hlt x (by simp [hx])
  have hlt2 : ∀ x ∈ p2, x.block < W.heap.size := fun x hx => hlt x (by simp [hx])
  have hlt3 : ∀ x ∈ p3, x.block < W.heap.size := fun x hx => hlt x (by simp [hx])
  have hlt4 : ∀ x ∈ p4, x.block < W.heap.size := fun x hx => hlt x (by simp [hx])
  have hlt5 : ∀ x ∈ p5, x.block < W.heap.size := fun x hx => hlt x (by simp [hx])
  obtain ⟨l_a, l_n, l_c, l, rfl, R0⟩ := open_nodes ⟨Tryz.underlying60, Tryz.underlying58, (by as_aux_lemma => kernel_rfl), ⟨rfl, (by as_aux_lemma => kernel_rfl)⟩, ⟨rfl, (by as_aux_lemma => kernel_rfl)⟩, ⟨rfl, (by as_aux_lemma => kernel_rfl)⟩, ⟨rfl, (by as_aux_lemma => kernel_rfl)⟩, ⟨rfl, (by as_aux_lemma => kernel_rfl)⟩, ⟨rfl, (by as_aux_lemma => kernel_rfl)⟩, ⟨rfl, (by as_aux_lemma => kernel_rfl)⟩, ⟨rfl, (by as_aux_lemma => kernel_rfl)⟩, Tryz.underlying9, Tryz.underlying3, Tryz.underlying3, Tryz.underlying3, Tryz.underlying4, Tryz.underlying24, Tryz.underlying24⟩ Tryz.underlying22 (of_decide_eq_true (by as_aux_lemma => kernel_rfl)) (hval 0 22 v0 rfl rfl) h0 hlt0 (sized_at hsz (j := 0) (t := 22) rfl rfl)
  obtain ⟨hosts_a, hosts_n, hosts_c, hosts, rfl, R1⟩ := open_list (k := .i64) Tryz.underlying23 Tryz.underlying3 Tryz.cellsInt Tryz.bytesInt (hval 1 23 v1 rfl rfl) h1 hlt1 (sized_at hsz (j := 1) (t := 23) rfl rfl)
  obtain ⟨frm, rfl, rfl, rfl, w2⟩ := open_int Tryz.underlying3 (hval 2 3 v2 rfl rfl) h2
  obtain ⟨key, rfl, rfl, rfl, w3⟩ := open_int Tryz.underlying24 (hval 3 24 v3 rfl rfl) h3
  obtain ⟨seed, rfl, rfl, rfl, w4⟩ := open_int Tryz.underlying24 (hval 4 24 v4 rfl rfl) h4
  obtain ⟨factor, rfl, rfl, rfl, w5⟩ := open_int Tryz.underlying3 (hval 5 3 v5 rfl rfl) h5
  exact (walkHosts_walk W l_a l_n l_c l R0 hosts_a hosts_n hosts_c hosts R1 frm (i64_of_wf w2).1 (i64_of_wf w2).2 key (u64_of_wf w3).1 (u64_of_wf w3).2 seed (u64_of_wf w4).1 (u64_of_wf w4).2 factor (i64_of_wf w5).1 (i64_of_wf w5).2).mono fun e W' ⟨he, hw⟩ => ⟨he, hw⟩

theorem walkHosts_facts : joinedFacts Tryz.prog 3 Tryz.f3 Rows.walkHostsSpec Rows.walkHostsRow = true :=
  joined_mk (by as_aux_lemma => kernel_rfl) Tryz.laidOut Tryz.mapsRowed (by as_aux_lemma => kernel_rfl) (by as_aux_lemma => kernel_rfl) (by as_aux_lemma => kernel_rfl) Tryz.stops (by as_aux_lemma => kernel_rfl) Tryz.stopKnobs (by as_aux_lemma => kernel_rfl) (by as_aux_lemma => kernel_rfl) (by as_aux_lemma => kernel_rfl) (by as_aux_lemma => kernel_rfl) (by as_aux_lemma => kernel_rfl) (by as_aux_lemma => kernel_rfl) (by as_aux_lemma => kernel_rfl) (by as_aux_lemma => kernel_rfl) (by as_aux_lemma => kernel_rfl) (by as_aux_lemma => kernel_rfl) (by as_aux_lemma => kernel_rfl) (by as_aux_lemma => kernel_rfl) (by as_aux_lemma => kernel_rfl) (by show (_ == Tryz.prog.plainKeys) = true; rw [Tryz.plainKeys]; rfl) (by as_aux_lemma => kernel_rfl) Tryz.stopsHeard Tryz.mayEnter (by show (_ == Tryz.prog.liftsFinal) = true; rw [Tryz.liftsFinal]; rfl) (by show (Tryz.prog.make == _) = true; rw [Tryz.make]; rfl) (by as_aux_lemma => kernel_rfl) (by as_aux_lemma => kernel_rfl) (by as_aux_lemma => kernel_rfl) (by as_aux_lemma => kernel_rfl)
theorem walkHosts_holds : Rows.WalkHostsSaid :=
  OpenClaim.holds_of_wide 3 Tryz.f3 rfl rfl rfl rfl rfl rfl rfl ⟨rfl, rfl, rfl, rfl, rfl⟩ rfl rfl rfl rfl rfl (by as_aux_lemma => kernel_rfl) Tryz.func3 walkHosts_facts
    (of_decide_eq_true (by as_aux_lemma => kernel_rfl)) (by unfold Func.isWrapper; rw [if_neg (of_decide_eq_false (by as_aux_lemma => kernel_rfl))]; exact ⟨rfl, rfl⟩)
    (fun os started H enc _ => walkHosts_lifted os started H enc)
#print axioms walkHosts_holds
end Go.Proofs.YtblbgafadadbmaaGreat
end
