/- Lemmas for the claim's proof: HealthPl2 HealthPl3 HealthQ2. -/
import Derived.Test.YtcpfekhpbjkgeaaQ18
section
/- A tick of a board and of the document's board. -/
set_option linter.unusedVariables false
namespace Go.Proofs.Ytcpfekhpbjkgeaa
open Go.Sort
theorem half_even (i : Int) : (2 * i).tdiv 2 = i := Int.mul_tdiv_cancel_left i (by decide)
theorem half_odd {i : Int} (h : 0 ≤ i) : (2 * i + 1).tdiv 2 = i := by
  rw [Int.tdiv_eq_ediv_of_nonneg (by omega)]; omega
theorem view_some' {G : Int → Option Hg} {i : Int} {v : Bool × Bool × Int} (h : viewG G i = some v) : ∃ k, G i = some k ∧ hv k = v := by
  unfold viewG at h
  exact Option.map_eq_some_iff.1 h
theorem view_upd (G : Int → Option Hg) (i j : Int) (h : Hg) : viewG (updG G i h) j = if j = i then some (hv h) else viewG G j := by
  unfold viewG updG
  split <;> rfl
theorem tick_late {r : Rul} {now : Int} {q : TS} {x : Ph} (h : viewG q.G x.id = some x.see) : ∃ G', tickS r now q ⟨now, 2 * x.id⟩ = ⟨G', q.l, q.asked, q.out ++ (if x.asked = true ∧ turnPh r x false = true then [⟨now, x.id, false⟩] else [])⟩ ∧
    viewG G' x.id = some (if x.asked = true then hearPh r x false else x).see ∧ ∀ j, j ≠ x.id → viewG G' j = viewG q.G j := by
  obtain ⟨k, hk, e⟩ := view_some' h
  have ea : k.asked = x.asked := by unfold hv Ph.see at e; simp only [Prod.mk.injEq] at e; exact e.2.1
  obtain ⟨g1, g2⟩ := hearPh_g r x k false e.symm
  unfold tickS
  dsimp only
  rw [half_even, hk]
  dsimp only
  rw [if_pos rfl, ea]
  by_cases c : x.asked = true
  · rw [if_pos c]
    refine ⟨updG q.G x.id (hearG r k false), ?_, ?_, fun j hj => ?_⟩
    · rw [← g2]
      by_cases d : turnPh r x false = true
      · have hu : (hearG r k false).up = false := by
          rw [g2] at d
          unfold hearT at d
          unfold hearG
          by_cases d1 : false = k.up
          · rw [if_pos d1] at d; cases d
          · rw [if_neg d1] at d ⊢
            by_cases d2 : k.row + 1 < (if false = true then r.rise else r.fall)
            · rw [if_pos d2] at d; cases d
            · rw [if_neg d2]
        rw [if_pos d, if_pos ⟨c, d⟩, hu]
      · rw [if_neg d, if_neg (fun hh => d hh.2), List.append_nil]
    · rw [view_upd, if_pos rfl, if_pos c, g1]
    · rw [view_upd, if_neg hj]
  · rw [if_neg c]
    exact ⟨q.G, by rw [if_neg (fun hh => c hh.1), List.append_nil], by rw [if_neg c]; exact h, fun _ _ => rfl⟩
theorem tick_ask {r : Rul} (hr : RightR r) {now : Int} (hn : now + r.every ≤ 1099511627776) {q : TS} {x : Ph} (h : viewG q.G x.id = some x.see) (h0 : 0 ≤ x.id) : ∃ G' l', tickS r now q ⟨now, 2 * x.id + 1⟩ = ⟨G', l', q.asked ++ [x.id], q.out⟩ ∧
    l'.Perm (q.l ++ [⟨now + r.timeout, 2 * x.id⟩, ⟨now + r.every, 2 * x.id + 1⟩]) ∧ (Ordered q.l → Ordered l') ∧
    viewG G' x.id = some (x.up, true, x.row) ∧ ∀ j, j ≠ x.id → viewG G' j = viewG q.G j := by
  obtain ⟨k, hk, e⟩ := view_some' h
  unfold RightR at hr
  unfold hv Ph.see at e
  simp only [Prod.mk.injEq] at e
  unfold tickS
  dsimp only
  rw [half_odd h0, hk]
  dsimp only
  rw [if_neg (by omega)]
  refine ⟨_, _, rfl, ?_, ?_, ?_, fun j hj => ?_⟩
  · unfold addL
    dsimp only
    rw [if_pos ⟨by omega, by omega⟩, if_pos ⟨by omega, by omega⟩]
    refine (putL_perm _ _).trans (((putL_perm _ _).cons _).trans ?_)
    refine (List.Perm.swap _ _ _).trans ?_
    exact (List.perm_append_comm (l₁ := [_, _]))
  · intro ho
    unfold addL
    dsimp only
    rw [if_pos ⟨by omega, by omega⟩, if_pos ⟨by omega, by omega⟩]
    exact putL_ordered _ (putL_ordered _ ho)
  · rw [view_upd, if_pos rfl]
    unfold hv
    rw [e.1, e.2.2]
  · rw [view_upd, if_neg hj]
theorem tick_host {r : Rul} (hr : RightR r) {now : Int} (hn : now + r.every ≤ 1099511627776) (q : TS) (x : Ph) (h : viewG q.G x.id = some x.see) (h0 : 0 ≤ x.id) : ∃ G' l', (dueP r now x).foldl (tickS r now) q = ⟨G', l', q.asked ++ askOut now x, q.out ++ missOut r now x⟩ ∧
    l'.Perm (q.l ++ newP r now x) ∧ viewG G' x.id = some (tickPh r now x).see ∧ ∀ j, j ≠ x.id → viewG G' j = viewG q.G j := by
  have key : ∃ G1, (if lateP r now x = true then [(⟨now, 2 * x.id⟩ : It)] else []).foldl (tickS r now) q = ⟨G1, q.l, q.asked, q.out ++ missOut r now x⟩ ∧ viewG G1 x.id = some (missP r now x).see ∧ ∀ j, j ≠ x.id → viewG G1 j = viewG q.G j := by
    by_cases c : lateP r now x = true
    · rw [if_pos c]
      obtain ⟨G', e1, e2, e3⟩ := tick_late (r := r) (now := now) h
      refine ⟨G', ?_, ?_, e3⟩
      · show tickS r now q _ = _
        rw [e1]
        unfold missOut
        simp only [c, true_and]
      · rw [e2]; unfold missP; simp only [c, true_and]
    · rw [if_neg c]
      refine ⟨q.G, ?_, ?_, fun _ _ => rfl⟩
      · unfold missOut; rw [if_neg (fun hh => c hh.1), List.append_nil]; rfl
      · unfold missP; rw [if_neg (fun hh => c hh.1)]; exact h
  obtain ⟨G1, e1, e2, e3⟩ := key
  unfold dueP
  rw [List.foldl_append, e1]
  obtain ⟨m1, m2, m3⟩ := missP_same r now x
  unfold askOut newP tickPh askP
  rw [m2]
  by_cases d : now = x.next
  · rw [if_pos d, if_pos d, if_pos d, if_pos d]
    have e2' : viewG G1 (missP r now x).id = some (missP r now x).see := by rw [m1]; exact e2
    obtain ⟨G2, l2, f1, f2, f3, f4, f5⟩ := tick_ask hr hn (q := ⟨G1, q.l, q.asked, q.out ++ missOut r now x⟩) (x := missP r now x) e2' (by rw [m1]; exact h0)
    rw [m1] at f1 f2 f4 f5
    refine ⟨G2, l2, ?_, f2, f4, fun j hj => (f5 j hj).trans (e3 j hj)⟩
    show tickS r now _ _ = _
    rw [f1]
  · rw [if_neg d, if_neg d, if_neg d, if_neg d, List.append_nil, List.append_nil]
    exact ⟨G1, q.l, rfl, List.Perm.refl _, e2, e3⟩
theorem tick_fold {r : Rul} (hr : RightR r) {now : Int} (hn : now + r.every ≤ 1099511627776) : ∀ (L : List Ph) (q : TS), (L.map Ph.id).Nodup → (∀ x ∈ L, viewG q.G x.id = some x.see ∧ 0 ≤ x.id) →
    ∃ G' l', (L.flatMap (dueP r now)).foldl (tickS r now) q = ⟨G', l', q.asked ++ L.flatMap (askOut now), q.out ++ L.flatMap (missOut r now)⟩ ∧
    l'.Perm (q.l ++ L.flatMap (newP r now)) ∧ (∀ x ∈ L, viewG G' x.id = some (tickPh r now x).see) ∧ ∀ j, (∀ x ∈ L, j ≠ x.id) → viewG G' j = viewG q.G j
  | [], q, _, _ => ⟨q.G, q.l, by simp, by simp, (fun x hx => by cases hx), fun _ _ => rfl⟩
  | x :: L, q, hd, hq => by
    rw [List.map_cons, List.nodup_cons] at hd
    obtain ⟨G1, l1, e1, e2, e3, e4⟩ := tick_host hr hn q x (hq x (List.mem_cons_self)).1 (hq x (List.mem_cons_self)).2
    have hne : ∀ y ∈ L, y.id ≠ x.id := fun y hy e => hd.1 (by rw [← e]; exact List.mem_map_of_mem hy)
    obtain ⟨G2, l2, f1, f2, f3, f4⟩ := tick_fold hr hn L ⟨G1, l1, q.asked ++ askOut now x, q.out ++ missOut r now x⟩ hd.2 (fun y hy => ⟨by rw [e4 y.id (hne y hy)]; exact (hq y (List.mem_cons_of_mem _ hy)).1, (hq y (List.mem_cons_of_mem _ hy)).2⟩)
    refine ⟨G2, l2, ?_, ?_, ?_, ?_⟩
    · rw [List.flatMap_cons, List.foldl_append, e1, f1, List.flatMap_cons, List.flatMap_cons]
      simp [List.append_assoc]
    · rw [List.flatMap_cons, ← List.append_assoc]
      exact f2.trans (List.Perm.append_right _ e2)
    · intro y hy
      rcases List.mem_cons.1 hy with rfl | hy
      · rw [f4 y.id (fun z hz e => hne z hz e.symm)]; exact e3
      · exact f3 y hy
    · intro j hj
      rw [f4 j (fun y hy => hj y (List.mem_cons_of_mem _ hy)), e4 j (hj x (List.mem_cons_self))]
theorem due_mem {r : Rul} {now : Int} {x : Ph} {y : It} (h : y ∈ dueP r now x) : y.t = now ∧ (y.id = 2 * x.id ∨ y.id = 2 * x.id + 1) := by
  unfold dueP at h
  rcases List.mem_append.1 h with h | h
  · split at h
    · rw [List.mem_singleton] at h; subst h; exact ⟨rfl, .inl rfl⟩
    · cases h
  · split at h
    · rw [List.mem_singleton] at h; subst h; exact ⟨rfl, .inr rfl⟩
    · cases h
theorem due_ordered (r : Rul) (now : Int) : ∀ {L : List Ph}, (L.map Ph.id).Pairwise (· < ·) → Ordered (L.flatMap (dueP r now))
  | [], _ => List.Pairwise.nil
  | x :: L, h => by
    rw [List.map_cons, List.pairwise_cons] at h
    rw [List.flatMap_cons]
    unfold Ordered
    rw [List.pairwise_append]
    refine ⟨?_, due_ordered r now h.2, fun a ha b hb => ?_⟩
    · unfold dueP
      rw [List.pairwise_append]
      refine ⟨?_, ?_, fun a ha b hb => ?_⟩
      · split
        · exact List.pairwise_singleton _ _
        · exact List.Pairwise.nil
      · split
        · exact List.pairwise_singleton _ _
        · exact List.Pairwise.nil
      · split at ha
        · split at hb
          · rw [List.mem_singleton] at ha hb
            subst ha; subst hb
            rw [itB_no]; dsimp only; omega
          · cases hb
        · cases ha
    · obtain ⟨y, hy, hb⟩ := List.mem_flatMap.1 hb
      have h1 := due_mem ha
      have h2 := due_mem hb
      have h3 := h.1 y.id (List.mem_map_of_mem hy)
      rw [itB_no]; omega
theorem flatMap_perm {α β : Type} {f g : α → List β} : ∀ {L : List α}, (∀ x ∈ L, (f x).Perm (g x)) → (L.flatMap f).Perm (L.flatMap g)
  | [], _ => List.Perm.refl _
  | x :: L, h => by
    rw [List.flatMap_cons, List.flatMap_cons]
    exact (h x (List.mem_cons_self)).append (flatMap_perm fun y hy => h y (List.mem_cons_of_mem _ hy))
theorem flatMap_eq {α β : Type} {f g : α → List β} : ∀ {L : List α}, (∀ x ∈ L, f x = g x) → L.flatMap f = L.flatMap g
  | [], _ => rfl
  | x :: L, h => by
    rw [List.flatMap_cons, List.flatMap_cons, h x (List.mem_cons_self), flatMap_eq fun y hy => h y (List.mem_cons_of_mem _ hy)]
theorem flatMap_two {α β : Type} (f g : α → List β) : ∀ (L : List α), (L.flatMap f ++ L.flatMap g).Perm (L.flatMap fun x => f x ++ g x)
  | [] => List.Perm.refl _
  | x :: L => by
    rw [List.flatMap_cons, List.flatMap_cons, List.flatMap_cons]
    have ih := flatMap_two f g L
    have h1 : (f x ++ L.flatMap f ++ (g x ++ L.flatMap g)).Perm (f x ++ (g x ++ (L.flatMap f ++ L.flatMap g))) := by
      rw [List.append_assoc]
      refine List.Perm.append_left _ ?_
      rw [← List.append_assoc, ← List.append_assoc]
      exact List.Perm.append_right _ List.perm_append_comm
    refine h1.trans ?_
    rw [List.append_assoc]
    exact List.Perm.append_left _ (List.Perm.append_left _ ih)
theorem rise_nodup {K : List Int} (h : K.Pairwise (· < ·)) : K.Nodup := h.imp fun {a b} hab => by omega
/-- A tick of both. -/
theorem sim_tick {s s' : Bd} {L : List Ph} (h : Sim s L) (ho : Ordered s.l) (hr : RightR s.r) (h0 : 0 ≤ s.now) (hn : s.now + 1 + s.r.every ≤ 1099511627776) {q : TS}
    (hq : q = (s.l.take (dueN (s.now + 1) s.l)).foldl (tickS s.r (s.now + 1)) ⟨s.G, s.l.drop (dueN (s.now + 1) s.l), [], []⟩) (e1 : s'.now = s.now + 1) (e2 : s'.G = q.G) (e3 : s'.l = q.l) (e4 : s'.r = s.r) :
    Sim s' (L.map (tickPh s.r (s.now + 1))) ∧ q.asked = L.flatMap (askOut (s.now + 1)) ∧ q.out = L.flatMap (missOut s.r (s.now + 1)) := by
  obtain ⟨d1, d2⟩ := dueN_split (s.now + 1) ho
  have t1 : s.l.take (dueN (s.now + 1) s.l) = L.flatMap (dueP s.r (s.now + 1)) := by
    rw [d1]
    refine ordered_unique (filter_ordered ho _) (due_ordered _ _ h.ids.1) ?_
    refine (h.list.filter _).trans ?_
    rw [List.filter_flatMap, flatMap_eq fun x hx => due_items (h.ok x hx)]
  have t2 : (s.l.drop (dueN (s.now + 1) s.l)).Perm (L.flatMap fun x => (itemsP s.r s.now x).filter fun y => !due (s.now + 1) y) := by
    rw [d2]
    refine (h.list.filter _).trans ?_
    rw [List.filter_flatMap]
  rw [t1] at hq
  obtain ⟨G', l', f1, f2, f3, f4⟩ := tick_fold hr hn L ⟨s.G, s.l.drop (dueN (s.now + 1) s.l), [], []⟩ (rise_nodup h.ids.1) (fun x hx => ⟨h.view x hx, (h.ok x hx).id0⟩)
  rw [f1] at hq
  subst hq
  dsimp only at e2 e3 f2 f4 ⊢
  have hids : (L.map (tickPh s.r (s.now + 1))).map Ph.id = L.map Ph.id := by
    rw [List.map_map]; exact List.map_congr_left fun x hx => tickPh_id _ _ _
  refine ⟨⟨⟨by rw [hids]; exact h.ids.1, fun i => ?_⟩, fun x hx => ?_, ?_, fun x hx => ?_⟩, rfl, rfl⟩
  · rw [hids, h.ids.2, ← view_some s.G, ← view_some s'.G, e2]
    by_cases c : i ∈ L.map Ph.id
    · obtain ⟨x, hx, rfl⟩ := List.mem_map.1 c
      rw [f3 x hx, h.view x hx]; simp
    · rw [f4 i (fun x hx e => c (e ▸ List.mem_map_of_mem hx))]
  · obtain ⟨y, hy, rfl⟩ := List.mem_map.1 hx
    rw [tickPh_id, e2]; exact f3 y hy
  · rw [e3, e4, e1, List.flatMap_map]
    refine f2.trans ((List.Perm.append_right _ t2).trans ((flatMap_two _ _ _).trans ?_))
    rw [flatMap_eq fun x hx => rest_items hr h0 (h.ok x hx)]
  · obtain ⟨y, hy, rfl⟩ := List.mem_map.1 hx
    rw [e4, e1]; exact tick_ok hr h0 (h.ok y hy)
end Go.Proofs.Ytcpfekhpbjkgeaa
end
section
/- Set and Answer, of a board and of the document's board. -/
set_option linter.unusedVariables false
namespace Go.Proofs.Ytcpfekhpbjkgeaa
open Go.Sort
def okId (i : Int) : Prop := 0 ≤ i ∧ i ≤ 1048576
instance (i : Int) : Decidable (okId i) := by unfold okId; infer_instance
def freshPh (now i : Int) : Ph := ⟨false, false, 0, i, now + 1, -1⟩
def findPh (L : List Ph) (i : Int) : Option Ph := L.find? fun x => x.id == i
def keepPh (now : Int) (L : List Ph) (i : Int) : Ph := (findPh L i).getD (freshPh now i)
theorem find_mem : ∀ {L : List Ph} {x : Ph}, (L.map Ph.id).Nodup → x ∈ L → findPh L x.id = some x
  | [], _, _, h => by cases h
  | y :: L, x, hd, h => by
    rw [List.map_cons, List.nodup_cons] at hd
    unfold findPh
    rcases List.mem_cons.1 h with rfl | h
    · rw [List.find?_cons_of_pos (by simp)]
    · rw [List.find?_cons_of_neg (by
        intro e
        have e : y.id = x.id := by simpa using e
        exact hd.1 (e ▸ List.mem_map_of_mem h))]
      exact find_mem hd.2 h
theorem find_none' {L : List Ph} {i : Int} (h : i ∉ L.map Ph.id) : findPh L i = none := by
  unfold findPh
  rw [List.find?_eq_none]
  intro x hx e
  have e : x.id = i := by simpa using e
  exact h (e ▸ List.mem_map_of_mem hx)
/-- What the document's Set makes. -/
structure SetTo (now : Int) (ids : List Int) (L L' : List Ph) : Prop where
  rise : (L'.map Ph.id).Pairwise (· < ·)
  mem : ∀ i, i ∈ L'.map Ph.id ↔ i ∈ ids ∧ okId i
  keep : ∀ x ∈ L', x = keepPh now L x.id
/-- Hosts, in whatever order, that a view and items speak of. -/
structure Says2 (r : Rul) (now : Int) (q : (Int → Option (Bool × Bool × Int)) × List It) (M : List Ph) : Prop where
  nodup : (M.map Ph.id).Nodup
  view : ∀ x ∈ M, q.1 x.id = some x.see
  none : ∀ i, i ∉ M.map Ph.id → q.1 i = none
  list : q.2.Perm (M.flatMap (itemsP r now))
theorem items_fresh (r : Rul) (now i : Int) : itemsP r now (freshPh now i) = [⟨now + 1, 2 * i + 1⟩] := by
  unfold itemsP freshPh
  rw [if_neg (by dsimp only; omega)]; rfl
theorem says_add {r : Rul} {now : Int} (hn : now + 1 ≤ 1099511627776) {q : (Int → Option (Bool × Bool × Int)) × List It} {M : List Ph} (h : Says2 r now q M) (i : Int) :
    Says2 r now (addV now q i) (if okId i ∧ i ∉ M.map Ph.id then M ++ [freshPh now i] else M) := by
  have hs : (q.1 i).isSome = true ↔ i ∈ M.map Ph.id := by
    constructor
    · intro hh
      by_cases c : i ∈ M.map Ph.id
      · exact c
      · rw [h.none i c] at hh; cases hh
    · intro hh
      obtain ⟨x, hx, rfl⟩ := List.mem_map.1 hh
      rw [h.view x hx]; rfl
  unfold addV
  by_cases c : okId i ∧ i ∉ M.map Ph.id
  · obtain ⟨c1, c2⟩ := c
    rw [if_pos (show okId i ∧ i ∉ M.map Ph.id from ⟨c1, c2⟩)]
    unfold okId at c1
    rw [if_neg (by
      rintro (h1 | h1 | h1)
      · omega
      · omega
      · exact c2 (hs.1 h1))]
    refine ⟨?_, fun x hx => ?_, fun j hj => ?_, ?_⟩
    · rw [List.map_append, List.nodup_append]
      exact ⟨h.nodup, by simp, fun a ha b hb e => by simp at hb; subst hb; subst e; exact c2 ha⟩
    · dsimp only
      rcases List.mem_append.1 hx with hx | hx
      · rw [if_neg (fun (e : x.id = i) => c2 (e ▸ List.mem_map_of_mem hx))]; exact h.view x hx
      · rw [List.mem_singleton] at hx; subst hx; rw [if_pos (show (freshPh now i).id = i from rfl)]; rfl
    · dsimp only
      rw [List.map_append, List.mem_append] at hj
      rw [if_neg (fun (e : j = i) => hj (.inr (by subst e; simp [freshPh])))]
      exact h.none j (fun e => hj (.inl e))
    · dsimp only
      unfold addL
      dsimp only
      rw [if_pos ⟨by omega, hn⟩, List.flatMap_append, List.flatMap_cons, List.flatMap_nil, List.append_nil, items_fresh]
      exact (putL_perm _ _).trans ((h.list.cons _).trans (List.perm_append_comm (l₁ := [_])))
  · rw [if_neg c, if_pos (by
      by_cases c1 : okId i
      · exact .inr (.inr (hs.2 (Classical.not_not.1 fun c2 => c ⟨c1, c2⟩)))
      · unfold okId at c1; omega)]
    exact h
theorem says_fold {r : Rul} {now : Int} (hn : now + 1 ≤ 1099511627776) : ∀ (ids : List Int) {q : (Int → Option (Bool × Bool × Int)) × List It} {M : List Ph}, Says2 r now q M →
    ∃ M', Says2 r now (ids.foldl (addV now) q) M' ∧ ∀ x, x ∈ M' ↔ x ∈ M ∨ (x.id ∈ ids ∧ okId x.id ∧ x.id ∉ M.map Ph.id ∧ x = freshPh now x.id)
  | [], q, M, h => ⟨M, h, fun x => ⟨.inl, fun h => h.elim id (fun h => by cases h.1)⟩⟩
  | i :: ids, q, M, h => by
    obtain ⟨M', h1, h2⟩ := says_fold hn ids (says_add hn h i)
    refine ⟨M', h1, fun x => ?_⟩
    rw [h2]
    by_cases c : okId i ∧ i ∉ M.map Ph.id
    · rw [if_pos c]
      constructor
      · rintro (h3 | ⟨h3, h4, h5, h6⟩)
        · rcases List.mem_append.1 h3 with h3 | h3
          · exact .inl h3
          · rw [List.mem_singleton] at h3
            subst h3
            exact .inr ⟨List.mem_cons_self, c.1, c.2, rfl⟩
        · exact .inr ⟨List.mem_cons_of_mem _ h3, h4, fun e => h5 (by rw [List.map_append]; exact List.mem_append_left _ e), h6⟩
      · rintro (h3 | ⟨h3, h4, h5, h6⟩)
        · exact .inl (List.mem_append_left _ h3)
        · by_cases e : x.id = i
          · left
            refine List.mem_append_right _ ?_
            rw [List.mem_singleton, h6, e]
          · rcases List.mem_cons.1 h3 with h3 | h3
            · exact absurd h3 e
            · refine .inr ⟨h3, h4, fun hh => ?_, h6⟩
              rw [List.map_append, List.mem_append] at hh
              rcases hh with hh | hh
              · exact h5 hh
              · exact e (by simpa [freshPh] using hh)
    · rw [if_neg c]
      constructor
      · rintro (h3 | ⟨h3, h4, h5, h6⟩)
        · exact .inl h3
        · exact .inr ⟨List.mem_cons_of_mem _ h3, h4, h5, h6⟩
      · rintro (h3 | ⟨h3, h4, h5, h6⟩)
        · exact .inl h3
        · rcases List.mem_cons.1 h3 with h3 | h3
          · exact absurd (h3 ▸ ⟨h4, h5⟩) c
          · exact .inr ⟨h3, h4, h5, h6⟩
theorem rmv_fold_eq : ∀ (R : List Int) (l : List It), R.foldl rmvL l = l.filter fun y => R.all fun k => y.id != 2 * k + 1 && y.id != 2 * k
  | [], l => (List.filter_eq_self.2 fun _ _ => rfl).symm
  | k :: R, l => by
    rw [List.foldl_cons, rmv_fold_eq R]
    unfold rmvL
    rw [List.filter_filter, List.filter_filter]
    refine List.filter_congr fun y _ => ?_
    simp only [List.all_cons]
    cases (y.id != 2 * k + 1) <;> cases (y.id != 2 * k) <;> simp
theorem items_id {r : Rul} {now : Int} {x : Ph} {y : It} (h : y ∈ itemsP r now x) : y.id = 2 * x.id ∨ y.id = 2 * x.id + 1 := by
  unfold itemsP at h
  rcases List.mem_append.1 h with h | h
  · split at h
    · rw [List.mem_singleton] at h; subst h; exact .inl rfl
    · cases h
  · rw [List.mem_singleton] at h; subst h; exact .inr rfl
theorem flatMap_filter_if {α β : Type} (p : α → Bool) (f : α → List β) : ∀ (L : List α), (L.flatMap fun x => if p x = true then f x else []) = (L.filter p).flatMap f
  | [] => rfl
  | x :: L => by
    rw [List.flatMap_cons, flatMap_filter_if p f L]
    by_cases c : p x = true
    · rw [if_pos c, List.filter_cons_of_pos c, List.flatMap_cons]
    · rw [if_neg c, List.filter_cons_of_neg c]; rfl
/-- Set, of both. -/
theorem sim_set {s s' : Bd} {L L' : List Ph} {ids ks : List Int} (h : Sim s L) (hr : RightR s.r) (h0 : 0 ≤ s.now) (hn : s.now + 1 ≤ 1099511627776) (hk : ∀ i, i ∈ ks ↔ (s.G i).isSome = true)
    (hv : (viewG s'.G, s'.l) = ids.foldl (addV s.now) (viewG (cutAll s.G (goneL ids ks)), (goneL ids ks).foldl rmvL s.l)) (e1 : s'.now = s.now) (e2 : s'.r = s.r) (hS : SetTo s.now ids L L') : Sim s' L' := by
  have hnd := rise_nodup h.ids.1
  have hgone : ∀ i, i ∈ L.map Ph.id → ((goneL ids ks).contains i = true ↔ i ∉ ids) := fun i hi => by
    unfold goneL
    rw [List.contains_iff_mem, List.mem_filter, hk, ← h.ids.2]
    simp [hi]
  have S0 : Says2 s.r s.now (viewG (cutAll s.G (goneL ids ks)), (goneL ids ks).foldl rmvL s.l) (L.filter fun x => ids.contains x.id) := by
    have hv0 : ∀ i, viewG (cutAll s.G (goneL ids ks)) i = if (goneL ids ks).contains i = true then none else viewG s.G i := fun i => by
      unfold viewG cutAll
      split <;> rfl
    refine ⟨hnd.sublist (List.filter_sublist.map _), fun x hx => ?_, fun i hi => ?_, ?_⟩
    · obtain ⟨hx1, hx2⟩ := List.mem_filter.1 hx
      dsimp only
      rw [hv0, if_neg (fun c => (hgone x.id (List.mem_map_of_mem hx1)).1 c (by simpa using hx2))]
      exact h.view x hx1
    · dsimp only
      rw [hv0]
      by_cases c : i ∈ L.map Ph.id
      · rw [if_pos ((hgone i c).2 fun e => by
          obtain ⟨x, hx, rfl⟩ := List.mem_map.1 c
          exact hi (List.mem_map_of_mem (List.mem_filter.2 ⟨hx, by simpa using e⟩)))]
      · split
        · rfl
        · rw [h.ids.2, ← view_some] at c
          simpa using c
    · dsimp only
      rw [rmv_fold_eq]
      refine (h.list.filter _).trans ?_
      rw [List.filter_flatMap, ← flatMap_filter_if]
      rw [flatMap_eq (g := fun x => if ids.contains x.id = true then itemsP s.r s.now x else []) fun x hx => ?_]
      by_cases c : ids.contains x.id = true
      · rw [if_pos c]
        refine List.filter_eq_self.2 fun y hy => ?_
        rw [List.all_eq_true]
        intro k hk2
        have hg : (goneL ids ks).contains x.id ≠ true := fun e => (hgone x.id (List.mem_map_of_mem hx)).1 e (by simpa using c)
        have hkx : k ≠ x.id := fun e => hg (by rw [List.contains_iff_mem]; exact e ▸ hk2)
        have := items_id hy
        simp only [Bool.and_eq_true, bne_iff_ne]
        omega
      · rw [if_neg c]
        refine List.filter_eq_nil_iff.2 fun y hy => ?_
        rw [List.all_eq_true]
        intro hall
        have hg := hall x.id (by rw [← List.contains_iff_mem]; exact (hgone x.id (List.mem_map_of_mem hx)).2 (by simpa using c))
        have := items_id hy
        simp only [Bool.and_eq_true, bne_iff_ne] at hg
        omega
  obtain ⟨M, S1, hM⟩ := says_fold hn ids S0
  rw [← hv] at S1
  have hmem : ∀ x, x ∈ M ↔ x ∈ L' := fun x => by
    rw [hM]
    constructor
    · rintro (h1 | ⟨h1, h2, h3, h4⟩)
      · obtain ⟨h1, h2⟩ := List.mem_filter.1 h1
        have hi : x.id ∈ L'.map Ph.id := (hS.mem x.id).2 ⟨by simpa using h2, (h.ok x h1).id0, (h.ok x h1).id1⟩
        obtain ⟨y, hy, e⟩ := List.mem_map.1 hi
        have hy2 := hS.keep y hy
        rw [e] at hy2
        unfold keepPh at hy2
        rw [find_mem hnd h1] at hy2
        have hy2 : y = x := hy2
        exact hy2 ▸ hy
      · have hi : x.id ∈ L'.map Ph.id := (hS.mem x.id).2 ⟨h1, h2⟩
        obtain ⟨y, hy, e⟩ := List.mem_map.1 hi
        have hy2 := hS.keep y hy
        rw [e] at hy2
        have hn2 : x.id ∉ L.map Ph.id := fun hh => by
          obtain ⟨z, hz, ez⟩ := List.mem_map.1 hh
          exact h3 (List.mem_map.2 ⟨z, List.mem_filter.2 ⟨hz, by rw [ez]; simpa using h1⟩, ez⟩)
        unfold keepPh at hy2
        rw [find_none' hn2] at hy2
        have hy2 : y = freshPh s.now x.id := hy2
        rw [h4, ← hy2]; exact hy
    · intro hx
      obtain ⟨h1, h2⟩ := (hS.mem x.id).1 (List.mem_map_of_mem hx)
      have hk2 := hS.keep x hx
      unfold keepPh at hk2
      by_cases c : x.id ∈ L.map Ph.id
      · obtain ⟨y, hy, e⟩ := List.mem_map.1 c
        rw [← e, find_mem hnd hy] at hk2
        have hk2 : x = y := hk2
        exact .inl (List.mem_filter.2 ⟨hk2 ▸ hy, by simpa using h1⟩)
      · rw [find_none' c] at hk2
        refine .inr ⟨h1, h2, fun hh => ?_, hk2⟩
        obtain ⟨z, hz, ez⟩ := List.mem_map.1 hh
        exact c (List.mem_map.2 ⟨z, (List.mem_filter.1 hz).1, ez⟩)
  have hnd2 : ∀ {K : List Ph}, (K.map Ph.id).Nodup → K.Nodup := fun {K} hK => by
    induction K with
    | nil => exact List.nodup_nil
    | cons a K ih =>
      rw [List.map_cons, List.nodup_cons] at hK
      exact List.nodup_cons.2 ⟨fun e => hK.1 (List.mem_map_of_mem e), ih hK.2⟩
  have hperm : M.Perm L' := (List.perm_ext_iff_of_nodup (hnd2 S1.nodup) (hnd2 (rise_nodup hS.rise))).2 hmem
  refine ⟨⟨hS.rise, fun i => ?_⟩, fun x hx => S1.view x ((hmem x).2 hx), ?_, fun x hx => ?_⟩
  · rw [← view_some]
    have hi : i ∈ M.map Ph.id ↔ i ∈ L'.map Ph.id := (hperm.map Ph.id).mem_iff
    rw [← hi]
    constructor
    · intro hh
      obtain ⟨x, hx, rfl⟩ := List.mem_map.1 hh
      have := S1.view x hx
      dsimp only at this
      rw [this]; rfl
    · intro hh
      by_cases c : i ∈ M.map Ph.id
      · exact c
      · have := S1.none i c
        dsimp only at this
        rw [this] at hh; cases hh
  · rw [e1, e2]
    exact S1.list.trans (hperm.flatMap_right _)
  · rw [e1, e2]
    have hk2 := hS.keep x hx
    unfold keepPh at hk2
    by_cases c : x.id ∈ L.map Ph.id
    · obtain ⟨y, hy, e⟩ := List.mem_map.1 c
      rw [← e, find_mem hnd hy] at hk2
      have hk2 : x = y := hk2
      rw [hk2]; exact h.ok y hy
    · rw [find_none' c] at hk2
      have hk2 : x = freshPh s.now x.id := hk2
      obtain ⟨_, h2⟩ := (hS.mem x.id).1 (List.mem_map_of_mem hx)
      unfold okId at h2
      unfold RightR at hr
      generalize x.id = i at *
      subst hk2
      unfold freshPh
      exact ⟨h2.1, h2.2, by dsimp only; omega, by dsimp only; omega, by dsimp only; omega, by dsimp only; omega, fun hh => by dsimp only at hh; omega, Int.le_refl _, by dsimp only; omega⟩
/-- A host turned, of both. -/
theorem sim_turn {s : Bd} {L : List Ph} (h : Sim s L) (hr : RightR s.r) {k : Nat} (hk : k < L.length) {g : Hg} (hg : s.G (L.getD k default).id = some g) (ok : Bool) :
    Sim (s.turn (L.getD k default).id (hearG s.r g ok)) (L.set k (hearPh s.r (L.getD k default) ok)) ∧ turnPh s.r (L.getD k default) ok = hearT s.r g ok ∧ (L.getD k default).asked = g.asked := by
  obtain ⟨x, hx⟩ : ∃ x, x = L.getD k default := ⟨_, rfl⟩
  rw [← hx] at hg ⊢
  have hxe : L[k] = x := by rw [hx, List.getD_eq_getElem?_getD, List.getElem?_eq_getElem hk]; rfl
  have hxm : x ∈ L := hxe ▸ List.getElem_mem hk
  have hsee : x.see = hv g := by
    have h1 := h.view x hxm
    unfold viewG at h1
    rw [hg] at h1
    exact (Option.some.inj h1).symm
  obtain ⟨p1, p2⟩ := hearPh_g s.r x g ok hsee
  obtain ⟨q1, q2, q3⟩ := hearPh_same s.r x ok
  have hids : (L.set k (hearPh s.r x ok)).map Ph.id = L.map Ph.id := by
    rw [List.map_set, q1]
    refine List.ext_getElem (by simp) fun i h1 h2 => ?_
    rw [List.getElem_set]
    split
    · rename_i e; subst e; rw [List.getElem_map, hxe]
    · rfl
  have hit : ∀ y, y.id = x.id → y.next = x.next → y.last = x.last → itemsP s.r s.now y = itemsP s.r s.now x := fun y a b c => by unfold itemsP; rw [a, b, c]
  have hmm : ∀ y ∈ L.set k (hearPh s.r x ok), y = hearPh s.r x ok ∨ (y ∈ L ∧ y.id ≠ x.id) := fun y hy => by
    obtain ⟨i, hi, e⟩ := List.mem_iff_getElem.1 hy
    rw [List.getElem_set] at e
    split at e
    · exact .inl e.symm
    · rename_i hne
      refine .inr ⟨e ▸ List.getElem_mem _, fun e2 => hne ?_⟩
      have hi' : i < L.length := by simpa using hi
      have h1 : (L.map Ph.id)[k]'(by simpa using hk) = (L.map Ph.id)[i]'(by simpa using hi') := by
        rw [List.getElem_map, List.getElem_map, hxe, e, e2]
      exact (List.getElem_inj (h₀ := by simpa using hk) (h₁ := by simpa using hi') (rise_nodup h.ids.1)).1 h1
  refine ⟨⟨⟨by rw [hids]; exact h.ids.1, fun i => ?_⟩, fun y hy => ?_, ?_, fun y hy => ?_⟩, p2, ?_⟩
  · rw [hids, h.ids.2]
    show _ ↔ (updG s.G x.id _ i).isSome = true
    unfold updG
    by_cases c : i = x.id
    · rw [if_pos c, c, hg]; simp
    · rw [if_neg c]
  · show viewG (updG s.G x.id _) y.id = _
    rw [view_upd]
    rcases hmm y hy with rfl | ⟨hy, hne⟩
    · rw [q1, if_pos rfl, p1]
    · rw [if_neg hne]; exact h.view y hy
  · show s.l.Perm ((L.set k (hearPh s.r x ok)).flatMap (itemsP s.r s.now))
    refine h.list.trans (List.Perm.of_eq ?_)
    rw [List.flatMap_def, List.flatMap_def, List.map_set, hit _ q1 q2 q3]
    congr 1
    refine List.ext_getElem (by simp) fun i h1 h2 => ?_
    rw [List.getElem_set]
    split
    · rename_i e; subst e; rw [List.getElem_map, hxe]
    · rfl
  · rcases hmm y hy with rfl | ⟨hy, hne⟩
    · obtain ⟨a1, a2, a3, a4, a5, a6, a7, a8, a9⟩ := h.ok x hxm
      have hrow := hearPh_row hr ok a8 a9
      show PhOk s.r s.now _
      exact ⟨by rw [q1]; exact a1, by rw [q1]; exact a2, by rw [q3]; exact a3, by rw [q3]; exact a4, by rw [q2]; exact a5, by rw [q2]; exact a6, by rw [q2, q3]; exact a7, hrow.1, hrow.2⟩
    · exact h.ok y hy
  · unfold Ph.see hv at hsee
    simp only [Prod.mk.injEq] at hsee
    exact hsee.2.1
end Go.Proofs.Ytcpfekhpbjkgeaa
end
section
/- A board's Tick: all that stands while its due items are gone through. -/
set_option linter.unusedVariables false
namespace Go.Proofs.Ytcpfekhpbjkgeaa
open Go.RowKit Go.Maps
set_option maxHeartbeats 8000000
set_option maxRecDepth 100000
section
variable {w0 w w' : World} {B : Nat} {s0 s b b' : Bd}
theorem IsBoard.modN (h1 : IsBoard w B s) {D : Nat → Prop} (hM : Mod D w w') (hn : ∀ g, bIn s g → ¬ D g) : IsBoard w' B s :=
  ⟨h1.blk.mod hM (hn _ (.inl rfl)), h1.lowb, h1.lowm, h1.wh.mod hM (fun g hg => hn g (.inr (.inl hg))), h1.map.same (hM.block s.mb h1.map.lt (hn _ (.inr (.inr (.inl rfl))))), fun i k hk => ⟨(h1.host i k hk).1.mod hM (hn _ (.inr (.inr (.inr ⟨i, k, hk, rfl⟩)))), (h1.host i k hk).2⟩, h1.inj, h1.keys⟩
theorem BdTo.fresh (h : BdTo w0 w B s0 s) {D : Nat → Prop} (hM : Mod D w w') (hn : ∀ g, D g → w0.heap.size ≤ g ∧ ¬ bIn s g) : BdTo w0 w' B s0 s := by
  obtain ⟨h1, h2, h3⟩ := h
  exact ⟨h1.modN hM (fun g hg hd => (hn g hd).2 hg), ⟨hM.os.trans h2.os, hM.tape.trans h2.tape, hM.output.trans h2.output, Nat.le_trans h2.size hM.size, fun g hgl hn2 => (hM.block g (Nat.lt_of_lt_of_le hgl h2.size) (fun e => by have := (hn g e).1; omega)).trans (h2.block g hgl hn2)⟩, h3⟩
/-- All that stands in a round. -/
structure TEnv (w0 w : World) (B : Nat) (s0 b : Bd) (la : List Int) (lo : List Chg) (v6 v7 : Value) (b2 : Nat) (iv : Value) (m : Nat) (L : List It) : Prop where
  bd : BdTo w0 w B s0 b
  oa : w.ownsRow w0.heap.size 3 1 v6 la.length (la.map (Value.int .i64))
  oc : w.ownsRow w0.heap.size 126 3 v7 lo.length (chgShape.flat lo)
  oi : w.ownsRow b2 31 2 iv m (itShape.flat L)
  ni : ∀ g, iv.ownBlock = some g → ¬ bIn b g
variable {la : List Int} {lo : List Chg} {v6 v7 : Value} {b2 : Nat} {iv : Value} {m : Nat} {L : List It}
theorem own_lt {B' : Nat} {e : TypeId} {s n : Nat} {v : Value} {xs : List Value} (h : w.ownsRow B' e s v n xs) {g : Nat} (hg : v.ownBlock = some g) : g < w.heap.size := (h.lt g hg).2
theorem TEnv.step (h : TEnv w0 w B s0 b la lo v6 v7 b2 iv m L) (k : BdTo w w' B b b') : TEnv w0 w' B s0 b' la lo v6 v7 b2 iv m L := by
  have hB := h.bd.1
  refine ⟨h.bd.trans k, ownK_mod h.oa k.2.1 (fun g hg => own_notbd hB h.oa (by decide) (by decide) (by decide) (by decide) hg), ownK_mod h.oc k.2.1 (fun g hg => own_notbd hB h.oc (by decide) (by decide) (by decide) (by decide) hg), ownK_mod h.oi k.2.1 h.ni, fun g hg hb => ?_⟩
  rcases k.2.2 g hb with h1 | h1
  · exact h.ni g hg h1
  · have := own_lt h.oi hg; omega
theorem TEnv.below (h : TEnv w0 w B s0 b la lo v6 v7 b2 iv m L) : w0.heap.size ≤ w.heap.size := h.bd.2.1.size
theorem TEnv.keep (h : TEnv w0 w B s0 b la lo v6 v7 b2 iv m L) (hx : Below w.heap.size w w') : TEnv w0 w' B s0 b la lo v6 v7 b2 iv m L :=
  h.step (BdTo.same h.bd.1 hx)
theorem TEnv.grow6 (h : TEnv w0 w B s0 b la lo v6 v7 b2 iv m L) (hg : w.grownBy w' v6.ownBlock) {v6' : Value} {la' : List Int} (ho : w'.ownsRow w0.heap.size 3 1 v6' la'.length (la'.map (Value.int .i64))) : TEnv w0 w' B s0 b la' lo v6' v7 b2 iv m L := by
  have hB := h.bd.1
  have hM : Mod (fun g => v6.ownBlock = some g) w w' := modK_grown hg (fun g e => e)
  exact ⟨h.bd.fresh hM (fun g hg => ⟨(h.oa.lt g hg).1, own_notbd hB h.oa (by decide) (by decide) (by decide) (by decide) hg⟩), ho, ownK_mod h.oc hM (fun g hg e => own_two h.oc h.oa (by decide) hg e), ownK_mod h.oi hM (fun g hg e => own_two h.oi h.oa (by decide) hg e), h.ni⟩
theorem TEnv.grow7 (h : TEnv w0 w B s0 b la lo v6 v7 b2 iv m L) (hg : w.grownBy w' v7.ownBlock) {v7' : Value} {lo' : List Chg} (ho : w'.ownsRow w0.heap.size 126 3 v7' lo'.length (chgShape.flat lo')) : TEnv w0 w' B s0 b la lo' v6 v7' b2 iv m L := by
  have hB := h.bd.1
  have hM : Mod (fun g => v7.ownBlock = some g) w w' := modK_grown hg (fun g e => e)
  exact ⟨h.bd.fresh hM (fun g hg => ⟨(h.oc.lt g hg).1, own_notbd hB h.oc (by decide) (by decide) (by decide) (by decide) hg⟩), ownK_mod h.oa hM (fun g hg e => own_two h.oa h.oc (by decide) hg e), ho, ownK_mod h.oi hM (fun g hg e => own_two h.oi h.oc (by decide) hg e), h.ni⟩
/-- An item's box. -/
structure XBox (w : World) (b : Bd) (xb : Nat) (xt xi : Int) : Prop where
  blk : Blk w xb 31 #[.int .i64 xt, .int .i64 xi]
  no : ¬ bIn b xb
theorem XBox.step {xb : Nat} {xt xi : Int} (h : XBox w b xb xt xi) (k : BdTo w w' B b b') : XBox w' b' xb xt xi :=
  ⟨h.blk.mod k.2.1 h.no, fun hb => (k.2.2 xb hb).elim h.no (fun h1 => by have := h.blk.lt; omega)⟩
theorem XBox.keep {xb : Nat} {xt xi : Int} (h : XBox w b xb xt xi) (hx : Below w.heap.size w w') : XBox w' b xb xt xi := ⟨h.blk.keep hx, h.no⟩
theorem XBox.grow {xb : Nat} {xt xi : Int} (h : XBox w b xb xt xi) {B' : Nat} {e : TypeId} {s n : Nat} {v : Value} {xs : List Value} (ho : w.ownsRow B' e s v n xs) (he : e ≠ 31) (hg : w.grownBy w' v.ownBlock) : XBox w' b xb xt xi :=
  ⟨h.blk.mod (modK_grown (D := fun g => v.ownBlock = some g) hg (fun g e => e)) (fun e => rowK_not h.blk ho he e), h.no⟩
end
end Go.Proofs.Ytcpfekhpbjkgeaa
end
