/- Lemmas for the claim's proof: StabPlain WheelPlain WheelPlain2 Open2. -/
import Derived.Sort.LotA
import Derived.Handy
import Derived.Test.YtcpfekhpbjkgeaaQ01
section
/- Stable sorting by merging in place, in plain Lean. -/
set_option linter.unusedVariables false
namespace Go.Proofs.Ytcpfekhpbjkgeaa
open Go.Sort
section
variable {α : Type} [Inhabited α] {lt : α → α → Bool}
/-- Two ranges that are exchanged. -/
def Swr (d d' : Array α) (a b n : Nat) : Prop := d'.size = d.size ∧ ∀ k, d'[k]! = if a ≤ k ∧ k < a + n then d[k + (b - a)]! else if b ≤ k ∧ k < b + n then d[k - (b - a)]! else d[k]!
/-- What lies from m up to e, laid ahead of what lies from s up to m. -/
def Rot (d d' : Array α) (s m e : Nat) : Prop := d'.size = d.size ∧ ∀ k, d'[k]! = if s ≤ k ∧ k < s + (e - m) then d[k + (m - s)]! else if s + (e - m) ≤ k ∧ k < e then d[k - (e - m)]! else d[k]!
theorem at_eq (d : Array α) {i j : Nat} (h : i = j) : d[i]! = d[j]! := by rw [h]
theorem Swr.none (d : Array α) (a b : Nat) : Swr d d a b 0 := ⟨rfl, fun k => by rw [if_neg (by omega), if_neg (by omega)]⟩
theorem Swr.step {d d' : Array α} {a b i n : Nat} (h : Swr d d' a b i) (hi : i < n) (hab : a + n ≤ b) (hb : b + n ≤ d.size) : Swr d (swp d' (a + i) (b + i)) a b (i + 1) := by
  refine ⟨by rw [swp_size]; exact h.1, fun k => ?_⟩
  have h1 : a + i < d'.size := by rw [h.1]; omega
  have h2 : b + i < d'.size := by rw [h.1]; omega
  rw [swp_get d' h1 h2, h.2, h.2, h.2]
  repeat' split
  all_goals first | omega | exact at_eq d (by omega)
theorem Rot.same {d : Array α} {s m e : Nat} (hs : s ≤ m) (he : m ≤ e) (h : s = m ∨ m = e) : Rot d d s m e := by
  refine ⟨rfl, fun k => ?_⟩
  repeat' split
  all_goals first | rfl | omega | exact at_eq d (by omega)
theorem Rot.left {d d1 d' : Array α} {m i j : Nat} (hi : i ≤ m) (hj : j < i) (h : Swr d d1 (m - i) m j) (h2 : Rot d1 d' (m - (i - j)) m (m + j)) : Rot d d' (m - i) m (m + j) := by
  refine ⟨h2.1.trans h.1, fun k => ?_⟩
  rw [h2.2 k]
  simp only [h.2]
  repeat' split
  all_goals first | omega | exact at_eq d (by omega)
theorem Rot.right {d d1 d' : Array α} {m i j : Nat} (hi : i ≤ m) (hj : i < j) (h : Swr d d1 (m - i) (m + j - i) i) (h2 : Rot d1 d' (m - i) m (m + (j - i))) : Rot d d' (m - i) m (m + j) := by
  refine ⟨h2.1.trans h.1, fun k => ?_⟩
  rw [h2.2 k]
  simp only [h.2]
  repeat' split
  all_goals first | omega | exact at_eq d (by omega)
theorem Rot.last {d d' : Array α} {m i : Nat} (hi : i ≤ m) (h : Swr d d' (m - i) m i) : Rot d d' (m - i) m (m + i) := by
  refine ⟨h.1, fun k => ?_⟩
  rw [h.2 k]
  repeat' split
  all_goals first | omega | exact at_eq d (by omega)
theorem Rot.up {d d' : Array α} {a k : Nat} (h : Rot d d' a (a + 1) (k + 1)) (ha : a ≤ k) (hk : k + 1 < d.size) : Rot d (swp d' k (k + 1)) a (a + 1) (k + 2) := by
  refine ⟨by rw [swp_size]; exact h.1, fun q => ?_⟩
  rw [swp_get d' (by rw [h.1]; omega) (by rw [h.1]; omega), h.2, h.2, h.2]
  repeat' split
  all_goals first | omega | exact at_eq d (by omega)
theorem Rot.down {d d' : Array α} {k m : Nat} (h : Rot d d' (k + 1) m (m + 1)) (hk : k + 1 ≤ m) (hm : m < d.size) : Rot d (swp d' (k + 1) k) k m (m + 1) := by
  refine ⟨by rw [swp_size]; exact h.1, fun q => ?_⟩
  rw [swp_get d' (by rw [h.1]; omega) (by rw [h.1]; omega), h.2, h.2, h.2]
  repeat' split
  all_goals first | omega | exact at_eq d (by omega)
theorem sorted_le (hS : SWO lt) {a b : Nat} {d : Array α} (h : SortedIn lt a b d) {i j : Nat} (hi : a ≤ i) (hij : i ≤ j) (hj : j < b) : lt d[j]! d[i]! = false := by
  by_cases e : i = j
  · subst e; exact hS.irrefl _
  · exact h i j hi (by omega) hj
theorem sorted_glue (hS : SWO lt) {a m b : Nat} {d : Array α} (h1 : SortedIn lt a m d) (h2 : SortedIn lt m b d) (h : m ≤ a ∨ b ≤ m ∨ lt d[m]! d[m - 1]! = false) : SortedIn lt a b d := by
  intro i j hi hij hj
  by_cases c1 : j < m
  · exact h1 i j hi hij c1
  · by_cases c2 : m ≤ i
    · exact h2 i j c2 hij hj
    · rcases h with h | h | h
      · omega
      · omega
      · exact hS.ntrans _ _ _ (sorted_le hS h2 (Nat.le_refl m) (by omega) hj) (hS.ntrans _ _ _ h (sorted_le hS h1 hi (by omega) (by omega)))
theorem sorted_cross {a m b : Nat} {d : Array α} (h1 : SortedIn lt a m d) (h2 : SortedIn lt m b d) (h : ∀ i j, a ≤ i → i < m → m ≤ j → j < b → lt d[j]! d[i]! = false) : SortedIn lt a b d := by
  intro i j hi hij hj
  by_cases c1 : j < m
  · exact h1 i j hi hij c1
  · by_cases c2 : m ≤ i
    · exact h2 i j c2 hij hj
    · exact h i j hi (by omega) (by omega) hj
/-- What the four parts are behind the turning. -/
theorem merge_parts (hS : SWO lt) {a m b start fin mid : Nat} {d d1 : Array α} (s1 : SortedIn lt a m d) (s2 : SortedIn lt m b d) (h1 : a ≤ start) (h2 : start ≤ m) (h3 : m ≤ fin) (h4 : fin ≤ b) (hm : start + (fin - m) = mid)
    (hl : start = a ∨ fin = b ∨ lt d[fin]! d[start - 1]! = false) (hr : start = m ∨ fin = m ∨ lt d[fin - 1]! d[start]! = true) (hrot : Rot d d1 start m fin) :
    SortedIn lt a start d1 ∧ SortedIn lt start mid d1 ∧ SortedIn lt mid fin d1 ∧ SortedIn lt fin b d1 ∧ ∀ i j, a ≤ i → i < mid → mid ≤ j → j < b → lt d1[j]! d1[i]! = false := by
  have e1 : ∀ k, k < start → d1[k]! = d[k]! := fun k hk => by rw [hrot.2, if_neg (by omega), if_neg (by omega)]
  have e2 : ∀ k, start ≤ k → k < mid → d1[k]! = d[k + (m - start)]! := fun k hk hk2 => by rw [hrot.2, if_pos (by omega)]
  have e3 : ∀ k, mid ≤ k → k < fin → d1[k]! = d[k - (fin - m)]! := fun k hk hk2 => by rw [hrot.2, if_neg (by omega), if_pos (by omega)]
  have e4 : ∀ k, fin ≤ k → d1[k]! = d[k]! := fun k hk => by rw [hrot.2, if_neg (by omega), if_neg (by omega)]
  refine ⟨fun i j hi hij hj => ?_, fun i j hi hij hj => ?_, fun i j hi hij hj => ?_, fun i j hi hij hj => ?_, fun i j hi hi2 hj hj2 => ?_⟩
  · rw [e1 i (by omega), e1 j hj]; exact s1 i j hi hij (by omega)
  · rw [e2 i hi (by omega), e2 j (by omega) hj]; exact s2 _ _ (by omega) (by omega) (by omega)
  · rw [e3 i hi (by omega), e3 j (by omega) hj]; exact s1 _ _ (by omega) (by omega) (by omega)
  · rw [e4 i hi, e4 j (by omega)]; exact s2 _ _ (by omega) hij hj
  · by_cases c1 : i < start
    · rw [e1 i c1]
      by_cases c2 : j < fin
      · rw [e3 j hj c2]; exact s1 _ _ hi (by omega) (by omega)
      · rw [e4 j (by omega)]
        rcases hl with hl | hl | hl
        · omega
        · omega
        · exact hS.ntrans _ _ _ (sorted_le hS s2 h3 (by omega) hj2) (hS.ntrans _ _ _ hl (sorted_le hS s1 hi (by omega) (by omega)))
    · rw [e2 i (by omega) hi2]
      by_cases c2 : j < fin
      · rw [e3 j hj c2]
        rcases hr with hr | hr | hr
        · omega
        · omega
        · exact hS.ntrans _ _ _ (sorted_le hS s1 h1 (by omega) (by omega)) (hS.ntrans _ _ _ (hS.asymmA hr) (sorted_le hS s2 (by omega) (by omega) (by omega)))
      · rw [e4 j (by omega)]; exact s2 _ _ (by omega) (by omega) hj2
/-- Both halves sorted anew: the whole is sorted. -/
theorem merge_end {a mid b : Nat} {d1 d2 d3 : Array α} (hb : b ≤ d1.size) (hm : mid ≤ b) (ha : a ≤ mid) (hc : ∀ i j, a ≤ i → i < mid → mid ≤ j → j < b → lt d1[j]! d1[i]! = false)
    (p2 : PermIn a mid d1 d2) (s2 : SortedIn lt a mid d2) (p3 : PermIn mid b d2 d3) (s3 : SortedIn lt mid b d3) : PermIn a b d1 d3 ∧ SortedIn lt a b d3 := by
  have q2 := permIn_mono d1 d2 a mid a b (Nat.le_refl _) hm hb p2
  have q3 := permIn_mono d2 d3 mid b a b ha (Nat.le_refl _) (by rw [p2.1]; exact hb) p3
  refine ⟨permIn_trans _ _ _ _ _ q2 q3, sorted_cross (m := mid) (fun i j hi hij hj => ?_) s3 (fun i j hi hi2 hj hj2 => ?_)⟩
  · rw [p3.2.1 i (Or.inl (by omega)), p3.2.1 j (Or.inl hj)]; exact s2 i j hi hij hj
  · rw [p3.2.1 i (Or.inl hi2)]
    refine permIn_all d2 d3 mid b (fun x => lt x d2[i]! = false) (by rw [p2.1]; exact hb) p3 (fun j' hj' hj2' => ?_) j hj hj2
    show lt d2[j']! d2[i]! = false
    rw [p2.2.1 j' (Or.inr hj')]
    exact permIn_all d1 d2 a mid (fun x => lt d1[j']! x = false) (by omega) p2 (fun i' hi' hi2' => hc i' j' hi' hi2' hj' hj2') i hi hi2
theorem sorted_one (d : Array α) {a b : Nat} (h : b ≤ a + 1) : SortedIn lt a b d := fun i j hi hij hj => by omega
theorem sorted_same {a b : Nat} {d d' : Array α} (h : SortedIn lt a b d) (he : ∀ i, a ≤ i → i < b → d'[i]! = d[i]!) : SortedIn lt a b d' := fun i j hi hij hj => by
  rw [he i hi (by omega), he j (by omega) hj]; exact h i j hi hij hj
theorem sorted_part {a b a' b' : Nat} {d : Array α} (h : SortedIn lt a b d) (ha : a ≤ a') (hb : b' ≤ b) : SortedIn lt a' b' d := fun i j hi hij hj => h i j (by omega) hij (by omega)
theorem swp_in (d d' : Array α) {a b i j : Nat} (h : PermIn a b d d') (h1 : a ≤ i) (h2 : i < b) (h3 : a ≤ j) (h4 : j < b) (hb : b ≤ d.size) : PermIn a b d (swp d' i j) :=
  permIn_trans _ _ _ _ _ h (swp_permIn d' a b i j h1 h2 h3 h4 (by rw [h.1]; exact hb))
/-- One element ahead of a sorted row. -/
theorem merge_head (hS : SWO lt) {a b i : Nat} {d d1 : Array α} (s2 : SortedIn lt (a + 1) b d) (h1 : a + 1 ≤ i) (h2 : i ≤ b) (hl : i = b ∨ lt d[i]! d[a]! = false) (hr : i = a + 1 ∨ lt d[i - 1]! d[a]! = true) (hrot : Rot d d1 a (a + 1) i) : SortedIn lt a b d1 := by
  have h := merge_parts hS (a := a) (m := a + 1) (b := b) (start := a) (fin := i) (mid := i - 1) (sorted_one d (Nat.le_refl _)) s2 (Nat.le_refl _) (Nat.le_succ _) h1 h2 (by omega) (Or.inl rfl) (by rcases hr with h | h; exact Or.inr (Or.inl h); exact Or.inr (Or.inr h)) hrot
  refine sorted_cross h.2.1 (sorted_glue hS h.2.2.1 h.2.2.2.1 ?_) h.2.2.2.2
  rcases hl with e | e
  · exact Or.inr (Or.inl (by omega))
  · refine Or.inr (Or.inr ?_)
    rw [hrot.2 i, if_neg (by omega), if_neg (by omega), hrot.2 (i - 1), if_neg (by omega), if_pos (by omega), at_eq d (show i - 1 - (i - (a + 1)) = a by omega)]
    exact e
/-- One element behind a sorted row. -/
theorem merge_tail (hS : SWO lt) {a m i : Nat} {d d1 : Array α} (s1 : SortedIn lt a m d) (h1 : a ≤ i) (h2 : i ≤ m) (hl : i = a ∨ lt d[m]! d[i - 1]! = false) (hr : i = m ∨ lt d[m]! d[i]! = true) (hrot : Rot d d1 i m (m + 1)) : SortedIn lt a (m + 1) d1 := by
  have h := merge_parts hS (a := a) (m := m) (b := m + 1) (start := i) (fin := m + 1) (mid := i + 1) s1 (sorted_one d (Nat.le_refl _)) h1 h2 (Nat.le_succ _) (Nat.le_refl _) (by omega) (Or.inr (Or.inl rfl)) (by rcases hr with h | h; exact Or.inl h; exact Or.inr (Or.inr h)) hrot
  refine sorted_cross (sorted_glue hS h.1 h.2.1 ?_) h.2.2.1 h.2.2.2.2
  rcases hl with e | e
  · exact Or.inl (by omega)
  · by_cases c : i = a
    · exact Or.inl (by omega)
    · refine Or.inr (Or.inr ?_)
      rw [hrot.2 i, if_pos (by omega), hrot.2 (i - 1), if_neg (by omega), if_neg (by omega), at_eq d (show i + (m - i) = m by omega)]
      exact e
/-- Each block of so many is sorted. -/
def Blocks (lt : α → α → Bool) (bs n : Nat) (d : Array α) : Prop := ∀ x, bs ∣ x → SortedIn lt x (min (x + bs) n) d
theorem mul_next {c x y : Nat} (hx : c ∣ x) (hy : c ∣ y) (h : x < y) : x + c ≤ y := by
  obtain ⟨p, rfl⟩ := hx
  obtain ⟨q, rfl⟩ := hy
  have hpq : p < q := Nat.lt_of_mul_lt_mul_left h
  have := Nat.mul_le_mul_left c (show p + 1 ≤ q from hpq)
  rw [Nat.mul_add, Nat.mul_one] at this
  exact this
/-- What stands while the blocks are merged two by two: those ahead of a are. -/
structure Half (lt : α → α → Bool) (bs n a : Nat) (d : Array α) : Prop where
  two : ∀ x, 2 * bs ∣ x → x < a → SortedIn lt x (x + 2 * bs) d
  one : ∀ x, bs ∣ x → a ≤ x → SortedIn lt x (min (x + bs) n) d
theorem Half.start {bs n : Nat} {d : Array α} (h : Blocks lt bs n d) : Half lt bs n 0 d := ⟨fun x _ hx => absurd hx (Nat.not_lt_zero _), fun x hx _ => h x hx⟩
theorem Half.step {bs n a : Nat} {d d' : Array α} (h : Half lt bs n a d) (ha : 2 * bs ∣ a) (hp : PermIn a (a + 2 * bs) d d') (hs : SortedIn lt a (a + 2 * bs) d') : Half lt bs n (a + 2 * bs) d' := by
  refine ⟨fun x hx hlt => ?_, fun x hx hle => ?_⟩
  · by_cases c : x < a
    · have := mul_next hx ha c
      exact sorted_same (h.two x hx c) (fun i h1 h2 => hp.2.1 i (Or.inl (by omega)))
    · by_cases e : x = a
      · subst e; exact hs
      · have := mul_next ha hx (by omega)
        omega
  · exact sorted_same (h.one x hx (by omega)) (fun i h1 h2 => hp.2.1 i (Or.inr (by omega)))
theorem Half.over {bs n a : Nat} {d : Array α} (h : Half lt bs n a d) (ha : 2 * bs ∣ a) (hb : n < a + 2 * bs) (hl : SortedIn lt a n d) : Blocks lt (2 * bs) n d := fun x hx => by
  by_cases c : x < a
  · exact sorted_part (h.two x hx c) (Nat.le_refl _) (Nat.min_le_left _ _)
  · by_cases e : x = a
    · subst e; exact sorted_part hl (Nat.le_refl _) (Nat.min_le_right _ _)
    · have := mul_next ha hx (by omega)
      exact sorted_one d (by omega)
end
end Go.Proofs.Ytcpfekhpbjkgeaa
end
section
/- The wheel in plain Lean: items in order, the slots, and what is due. -/
set_option linter.unusedVariables false
namespace Go.Proofs.Ytcpfekhpbjkgeaa
open Go.Sort
structure It where
  t : Int
  id : Int
deriving DecidableEq
instance : Inhabited It := ⟨⟨0, 0⟩⟩
/-- Does an item come ahead of another one? -/
def itB (a b : It) : Bool := decide (a.t < b.t) || (a.t == b.t && decide (a.id < b.id))
def cmpI (a b : Int) : Int := if a < b then -1 else if b < a then 1 else 0
def itC (a b : It) : Int := if cmpI a.t b.t ≠ 0 then cmpI a.t b.t else cmpI a.id b.id
theorem itC_lt (a b : It) : decide (itC a b < 0) = itB a b := by
  unfold itC itB cmpI
  rw [Bool.eq_iff_iff]
  simp only [decide_eq_true_eq, Bool.or_eq_true, Bool.and_eq_true, beq_iff_eq]
  repeat' split
  all_goals omega
theorem itB_iff (a b : It) : itB a b = true ↔ a.t < b.t ∨ a.t = b.t ∧ a.id < b.id := by
  unfold itB; simp [Bool.or_eq_true, Bool.and_eq_true]
theorem itB_no (a b : It) : itB a b = false ↔ b.t < a.t ∨ b.t = a.t ∧ b.id ≤ a.id := by
  rw [← Bool.not_eq_true, itB_iff]; omega
theorem itB_swo : SWO itB where
  irrefl x := by rw [itB_no]; omega
  trans x y z h1 h2 := by rw [itB_iff] at *; omega
  ntrans x y z h1 h2 := by rw [itB_no] at *; omega
theorem itB_same {a b : It} (h1 : itB a b = false) (h2 : itB b a = false) : a = b := by
  rw [itB_no] at h1 h2
  cases a; cases b; simp only [It.mk.injEq]; dsimp only at h1 h2; omega
/-- In order. -/
def Ordered (l : List It) : Prop := l.Pairwise fun a b => itB b a = false
theorem ordered_unique : ∀ {l m : List It}, Ordered l → Ordered m → l.Perm m → l = m
  | [], m, _, _, h => (List.nil_perm.1 h).symm
  | x :: l, [], _, _, h => absurd h.length_eq (by simp)
  | x :: l, y :: m, h1, h2, h => by
    have a1 := List.pairwise_cons.1 h1
    have a2 := List.pairwise_cons.1 h2
    have e : x = y := by
      have i1 : x ∈ y :: m := h.subset (List.mem_cons_self)
      have i2 : y ∈ x :: l := h.symm.subset (List.mem_cons_self)
      rcases List.mem_cons.1 i1 with e | i1
      · exact e
      · rcases List.mem_cons.1 i2 with e | i2
        · exact e.symm
        · exact itB_same (a2.1 _ i1) (a1.1 _ i2)
    subst e
    rw [ordered_unique a1.2 a2.2 (List.Perm.cons_inv h)]
/-- An item put in its place. -/
def putL : List It → It → List It
  | [], x => [x]
  | y :: l, x => if itB x y then x :: y :: l else y :: putL l x
theorem putL_perm (x : It) : ∀ l, (putL l x).Perm (x :: l)
  | [] => List.Perm.refl _
  | y :: l => by
    unfold putL
    split
    · exact List.Perm.refl _
    · exact ((putL_perm x l).cons y).trans (List.Perm.swap x y l)
theorem putL_ordered (x : It) : ∀ {l}, Ordered l → Ordered (putL l x)
  | [], _ => List.pairwise_cons.2 ⟨fun y hy => (by cases hy), List.Pairwise.nil⟩
  | y :: l, h => by
    have a := List.pairwise_cons.1 h
    unfold putL
    cases hb : itB x y with
    | true =>
      rw [if_pos rfl]
      refine List.pairwise_cons.2 ⟨fun z hz => ?_, h⟩
      rcases List.mem_cons.1 hz with rfl | hz
      · exact itB_swo.asymmA hb
      · exact itB_swo.ntrans _ _ _ (a.1 z hz) (itB_swo.asymmA hb)
    | false =>
      rw [if_neg (by simp)]
      refine List.pairwise_cons.2 ⟨fun z hz => ?_, putL_ordered x a.2⟩
      rcases List.mem_cons.1 ((putL_perm x l).subset hz) with rfl | hz
      · exact hb
      · exact a.1 z hz
/-- What the law's loop has: the item is in its place, or not yet. -/
def PutAt (l : List It) (x : It) (i : Nat) (done : Bool) (out : List It) : Prop :=
  (if done then out ++ l.drop i else out ++ putL (l.drop i) x) = putL l x ∧ out.length = i + (if done then 1 else 0)
theorem put_start (l : List It) (x : It) : PutAt l x 0 false [] := ⟨by simp, rfl⟩
theorem drop_at {l : List It} {i : Nat} (h : i < l.length) : l.drop i = l.getD i default :: l.drop (i + 1) := by
  rw [List.drop_eq_getElem_cons h, List.getD_eq_getElem?_getD, List.getElem?_eq_getElem h]; rfl
theorem put_done {l : List It} {x : It} {i : Nat} {out : List It} (h : PutAt l x i true out) (hi : i < l.length) : PutAt l x (i + 1) true (out ++ [l.getD i default]) := by
  obtain ⟨h, hl⟩ := h
  refine ⟨?_, by simp only [List.length_append, List.length_cons, List.length_nil, hl]; simp⟩
  rw [if_pos rfl] at h ⊢
  rw [drop_at hi] at h
  simpa using h
theorem put_here {l : List It} {x : It} {i : Nat} {out : List It} (h : PutAt l x i false out) (hi : i < l.length) (hb : itB x (l.getD i default) = true) : PutAt l x (i + 1) true ((out ++ [x]) ++ [l.getD i default]) := by
  obtain ⟨h, hl⟩ := h
  refine ⟨?_, by simp only [List.length_append, List.length_cons, List.length_nil, hl]; simp⟩
  rw [if_neg (by simp), drop_at hi] at h
  rw [if_pos rfl]
  simp only [putL, hb, if_true] at h
  simpa using h
theorem put_not {l : List It} {x : It} {i : Nat} {out : List It} (h : PutAt l x i false out) (hi : i < l.length) (hb : itB x (l.getD i default) = false) : PutAt l x (i + 1) false (out ++ [l.getD i default]) := by
  obtain ⟨h, hl⟩ := h
  refine ⟨?_, by simp only [List.length_append, List.length_cons, List.length_nil, hl]; simp⟩
  rw [if_neg (by simp), drop_at hi] at h
  rw [if_neg (by simp)]
  simp only [putL, hb] at h
  simpa using h
theorem put_end {l : List It} {x : It} {out : List It} (h : PutAt l x l.length true out) : out = putL l x := by
  have := h.1
  rwa [if_pos rfl, List.drop_length, List.append_nil] at this
theorem put_last {l : List It} {x : It} {out : List It} (h : PutAt l x l.length false out) : out ++ [x] = putL l x := by
  have := h.1
  rwa [if_neg (by simp), List.drop_length] at this
/-! The slots. -/
def upd (S : Nat → List It) (k : Nat) (r : List It) : Nat → List It := fun j => if j = k then r else S j
def allOf (S : Nat → List It) (n : Nat) : List It := (List.range n).flatMap S
theorem allOf_succ (S : Nat → List It) (n : Nat) : allOf S (n + 1) = allOf S n ++ S n := by
  unfold allOf; rw [List.range_succ, List.flatMap_append]; simp
theorem allOf_congr {S T : Nat → List It} : ∀ n, (∀ k, k < n → S k = T k) → allOf S n = allOf T n
  | 0, _ => rfl
  | n + 1, h => by rw [allOf_succ, allOf_succ, allOf_congr n (fun k hk => h k (by omega)), h n (by omega)]
theorem allOf_upd (S : Nat → List It) (k : Nat) (r : List It) : ∀ n, k < n → (allOf (upd S k r) n ++ S k).Perm (allOf S n ++ r)
  | 0, h => absurd h (Nat.not_lt_zero _)
  | n + 1, h => by
    rw [allOf_succ, allOf_succ]
    by_cases e : k = n
    · subst e
      rw [show upd S k r k = r by unfold upd; rw [if_pos rfl], allOf_congr k (T := S) (fun j hj => by unfold upd; rw [if_neg (by omega)])]
      rw [List.append_assoc, List.append_assoc]
      exact List.Perm.append_left _ List.perm_append_comm
    · have ih := allOf_upd S k r n (by omega)
      rw [show upd S k r n = S n by unfold upd; rw [if_neg (fun h => e h.symm)]]
      have a1 : (allOf (upd S k r) n ++ S n ++ S k).Perm (allOf (upd S k r) n ++ S k ++ S n) := by
        rw [List.append_assoc, List.append_assoc]; exact List.Perm.append_left _ List.perm_append_comm
      have a2 : (allOf S n ++ r ++ S n).Perm (allOf S n ++ S n ++ r) := by
        rw [List.append_assoc, List.append_assoc]; exact List.Perm.append_left _ List.perm_append_comm
      exact a1.trans ((List.Perm.append_right _ ih).trans a2)
theorem mem_allOf {S : Nat → List It} {n : Nat} {x : It} : x ∈ allOf S n ↔ ∃ k, k < n ∧ x ∈ S k := by
  unfold allOf; rw [List.mem_flatMap]; simp only [List.mem_range]
/-- What is so of the slots: each item lies at its time's place, later than now. -/
def SlotsOk (S : Nat → List It) (now : Int) : Prop := ∀ k, k < 64 → ∀ x ∈ S k, x.t % 64 = k ∧ now < x.t ∧ x.t ≤ 1099511627776
theorem allOf_nil (n : Nat) : allOf (fun _ => []) n = [] := by
  induction n with
  | zero => rfl
  | succ n ih => rw [allOf_succ, ih]; rfl
end Go.Proofs.Ytcpfekhpbjkgeaa
end
section
/- The wheel in plain Lean: what is taken out, what is due, and what is due next. -/
set_option linter.unusedVariables false
namespace Go.Proofs.Ytcpfekhpbjkgeaa
open Go.Sort
theorem allOf_filter (S : Nat → List It) (p : It → Bool) (n : Nat) : allOf (fun k => (S k).filter p) n = (allOf S n).filter p := by
  induction n with
  | zero => rfl
  | succ n ih => rw [allOf_succ, allOf_succ, ih, List.filter_append]
theorem filter_ordered {l : List It} (h : Ordered l) (p : It → Bool) : Ordered (l.filter p) := List.Pairwise.filter p h
theorem upd_same (S : Nat → List It) (k : Nat) (r : List It) : upd S k r k = r := by unfold upd; rw [if_pos rfl]
theorem upd_far (S : Nat → List It) {k j : Nat} (r : List It) (h : j ≠ k) : upd S k r j = S j := by unfold upd; rw [if_neg h]
/-! Taking out all of an id. -/
def cutS (S : Nat → List It) (p : It → Bool) (k : Nat) : Nat → List It := fun j => if j < k then (S j).filter p else S j
theorem cutS_zero (S : Nat → List It) (p : It → Bool) : cutS S p 0 = S := by funext j; unfold cutS; rw [if_neg (by omega)]
theorem cutS_at (S : Nat → List It) (p : It → Bool) (k : Nat) : cutS S p k k = S k := by unfold cutS; rw [if_neg (by omega)]
theorem cutS_step (S : Nat → List It) (p : It → Bool) (k : Nat) : upd (cutS S p k) k ((S k).filter p) = cutS S p (k + 1) := by
  funext j
  by_cases h : j = k
  · subst h; rw [upd_same]; unfold cutS; rw [if_pos (by omega)]
  · rw [upd_far _ _ h]; unfold cutS
    by_cases h2 : j < k
    · rw [if_pos h2, if_pos (by omega)]
    · rw [if_neg h2, if_neg (by omega)]
theorem cutS_end (S : Nat → List It) (p : It → Bool) : allOf (cutS S p 64) 64 = (allOf S 64).filter p := by
  rw [← allOf_filter]
  exact allOf_congr 64 (fun k hk => by unfold cutS; rw [if_pos hk])
theorem cutS_len (S : Nat → List It) (p : It → Bool) {k : Nat} (hk : k < 64) : (allOf (cutS S p (k + 1)) 64).length + (S k).length = (allOf (cutS S p k) 64).length + ((S k).filter p).length := by
  have := (allOf_upd (cutS S p k) k ((S k).filter p) 64 hk).length_eq
  rw [cutS_step, cutS_at] at this
  simpa using this
theorem SlotsOk.cutS {S : Nat → List It} {now : Int} (h : SlotsOk S now) (p : It → Bool) (k : Nat) : SlotsOk (cutS S p k) now := fun j hj x hx => by
  unfold Go.Proofs.Ytcpfekhpbjkgeaa.cutS at hx
  split at hx
  · exact h j hj x (List.mem_filter.1 hx).1
  · exact h j hj x hx
/-! What is due. -/
def due (to : Int) (x : It) : Bool := decide (x.t ≤ to)
structure GoAt (S : Nat → List It) (now to t : Int) (S' : Nat → List It) (out : List It) : Prop where
  perm : (allOf S' 64 ++ out).Perm (allOf S 64)
  got : ∀ x ∈ out, x.t ≤ to
  sub : ∀ k, k < 64 → ∀ x ∈ S' k, x ∈ S k
  left : ∀ k, k < 64 → ∀ x ∈ S' k, x.t ≤ to → ∀ q : Int, now < q → q < t → q % 64 ≠ k
theorem go_start (S : Nat → List It) (now to : Int) : GoAt S now to (now + 1) S [] :=
  ⟨by rw [List.append_nil], fun x hx => (by cases hx), fun k _ x hx => hx, fun k _ x _ _ q h1 h2 => by omega⟩
theorem filter_split (p : It → Bool) (l : List It) : (l.filter (fun x => !p x) ++ l.filter p).Perm l := by
  induction l with
  | nil => exact List.Perm.refl _
  | cons x l ih =>
    cases h : p x with
    | true =>
      rw [List.filter_cons_of_neg (by simp [h]), List.filter_cons_of_pos h]
      exact List.perm_middle.trans (ih.cons x)
    | false =>
      rw [List.filter_cons_of_pos (by simp [h]), List.filter_cons_of_neg (by simp [h])]
      exact ih.cons x
theorem GoAt.step {S S' : Nat → List It} {now to t : Int} {out : List It} (h : GoAt S now to t S' out) (ht : now < t) {k : Nat} (hk : (k : Int) = t % 64) (hk64 : k < 64) :
    GoAt S now to (t + 1) (upd S' k ((S' k).filter (fun x => !due to x))) (out ++ (S' k).filter (due to)) where
  perm := by
    have a1 := allOf_upd S' k ((S' k).filter (fun x => !due to x)) 64 hk64
    have a2 := filter_split (due to) (S' k)
    have b1 : (allOf (upd S' k ((S' k).filter (fun x => !due to x))) 64 ++ (S' k).filter (fun x => !due to x) ++ (S' k).filter (due to)).Perm (allOf S' 64 ++ (S' k).filter (fun x => !due to x)) := by
      rw [List.append_assoc]
      exact (List.Perm.append_left _ a2).trans a1
    have b2 : (allOf (upd S' k ((S' k).filter (fun x => !due to x))) 64 ++ (S' k).filter (due to)).Perm (allOf S' 64) := by
      have b3 : ((allOf (upd S' k ((S' k).filter (fun x => !due to x))) 64 ++ (S' k).filter (due to)) ++ (S' k).filter (fun x => !due to x)).Perm (allOf S' 64 ++ (S' k).filter (fun x => !due to x)) := by
        refine List.Perm.trans ?_ b1
        rw [List.append_assoc, List.append_assoc]
        exact List.Perm.append_left _ List.perm_append_comm
      exact (List.perm_append_right_iff _).1 b3
    have b4 : (allOf (upd S' k ((S' k).filter (fun x => !due to x))) 64 ++ (out ++ (S' k).filter (due to))).Perm (allOf S' 64 ++ out) := by
      refine List.Perm.trans (List.Perm.append_left _ List.perm_append_comm) ?_
      rw [← List.append_assoc]
      exact List.Perm.append_right _ b2
    exact b4.trans h.perm
  got x hx := by
    rcases List.mem_append.1 hx with hx | hx
    · exact h.got x hx
    · have := (List.mem_filter.1 hx).2
      unfold due at this; exact of_decide_eq_true this
  sub j hj x hx := by
    by_cases e : j = k
    · subst e; rw [upd_same] at hx; exact h.sub j hj x (List.mem_filter.1 hx).1
    · rw [upd_far _ _ e] at hx; exact h.sub j hj x hx
  left j hj x hx hxt q h1 h2 := by
    by_cases e : j = k
    · subst e
      rw [upd_same] at hx
      have := (List.mem_filter.1 hx).2
      unfold due at this
      simp at this
      omega
    · rw [upd_far _ _ e] at hx
      by_cases hq : q < t
      · exact h.left j hj x hx hxt q h1 hq
      · have : q = t := by omega
        subst this
        omega
theorem GoAt.all {S S' : Nat → List It} {now to : Int} {out : List It} {t : Int} (h : GoAt S now to t S' out) (ht : t = min to (now + 64) + 1) (hS : SlotsOk S now) : ∀ x ∈ allOf S' 64, due to x = false := fun x hx => by
  obtain ⟨k, hk, hx⟩ := mem_allOf.1 hx
  obtain ⟨a1, a2, a3⟩ := hS k hk x (h.sub k hk x hx)
  unfold due
  rw [decide_eq_false_iff_not]
  intro hle
  by_cases hto : to ≤ now + 64
  · exact h.left k hk x hx hle x.t a2 (by omega) a1
  · exact h.left k hk x hx hle (now + 1 + ((k : Int) - (now + 1)) % 64) (by omega) (by omega) (by omega)
theorem GoAt.ok {S S' : Nat → List It} {now to : Int} {out : List It} {t : Int} (h : GoAt S now to t S' out) (ht : t = min to (now + 64) + 1) (hS : SlotsOk S now) : SlotsOk S' to := fun k hk x hx => by
  obtain ⟨a1, a2, a3⟩ := hS k hk x (h.sub k hk x hx)
  have := h.all ht hS x (mem_allOf.2 ⟨k, hk, hx⟩)
  unfold due at this
  rw [decide_eq_false_iff_not] at this
  exact ⟨a1, by omega, a3⟩
/-- How many at the head are due. -/
def dueN (to : Int) : List It → Nat
  | [] => 0
  | x :: l => if x.t ≤ to then dueN to l + 1 else 0
theorem dueN_split (to : Int) : ∀ {l : List It}, Ordered l → l.take (dueN to l) = l.filter (due to) ∧ l.drop (dueN to l) = l.filter (fun x => !due to x)
  | [], _ => ⟨rfl, rfl⟩
  | x :: l, h => by
    have a := List.pairwise_cons.1 h
    obtain ⟨i1, i2⟩ := dueN_split to a.2
    unfold dueN
    by_cases hx : x.t ≤ to
    · rw [if_pos hx, List.take_succ_cons, List.drop_succ_cons, i1, i2, List.filter_cons_of_pos (by unfold due; exact decide_eq_true hx), List.filter_cons_of_neg (by unfold due; simp [hx])]
      exact ⟨rfl, rfl⟩
    · rw [if_neg hx]
      have hall : ∀ y ∈ x :: l, due to y = false := fun y hy => by
        unfold due
        rw [decide_eq_false_iff_not]
        rcases List.mem_cons.1 hy with rfl | hy
        · exact hx
        · have := (itB_no _ _).1 (a.1 y hy); omega
      refine ⟨?_, ?_⟩
      · rw [List.take_zero]; exact (List.filter_eq_nil_iff.2 (fun y hy => by rw [hall y hy]; simp)).symm
      · rw [List.drop_zero]; exact (List.filter_eq_self.2 (fun y hy => by rw [hall y hy]; rfl)).symm
theorem dueN_le (to : Int) : ∀ l : List It, dueN to l ≤ l.length
  | [] => Nat.le_refl _
  | x :: l => by unfold dueN; split; exact Nat.succ_le_succ (dueN_le to l); exact Nat.zero_le _
theorem dueN_before {to : Int} : ∀ {l : List It} {k : Nat}, k < dueN to l → (l.getD k default).t ≤ to
  | [], k, h => absurd h (Nat.not_lt_zero _)
  | x :: l, 0, h => by
    unfold dueN at h
    split at h
    · assumption
    · omega
  | x :: l, k + 1, h => by
    unfold dueN at h
    split at h
    · rw [List.getD_cons_succ]; exact dueN_before (by omega)
    · omega
theorem dueN_at {to : Int} : ∀ {l : List It}, dueN to l < l.length → to < (l.getD (dueN to l) default).t
  | [], h => absurd h (Nat.not_lt_zero _)
  | x :: l, h => by
    unfold dueN at h ⊢
    split at h
    · rw [if_pos (by assumption), List.getD_cons_succ]; exact dueN_at (by simp only [List.length_cons] at h; omega)
    · rw [if_neg (by assumption), List.getD_cons_zero]; omega
/-- What is due, in order, is the head of the list; what is left, its rest. -/
theorem GoAt.out {S S' : Nat → List It} {now to : Int} {out : List It} {t : Int} (h : GoAt S now to t S' out) (ht : t = min to (now + 64) + 1) (hS : SlotsOk S now) {l o : List It} (hl : Ordered l) (hp : l.Perm (allOf S 64)) (ho : Ordered o) (hop : o.Perm out) :
    o = l.take (dueN to l) ∧ (l.drop (dueN to l)).Perm (allOf S' 64) := by
  obtain ⟨e1, e2⟩ := dueN_split to hl
  have hall := h.all ht hS
  have hp2 := hp.trans h.perm.symm
  have f1 : (allOf S' 64 ++ out).filter (due to) = out := by
    rw [List.filter_append, List.filter_eq_nil_iff.2 (fun y hy => by rw [hall y hy]; simp), List.nil_append]
    exact List.filter_eq_self.2 (fun y hy => by unfold due; exact decide_eq_true (h.got y hy))
  have f2 : (allOf S' 64 ++ out).filter (fun x => !due to x) = allOf S' 64 := by
    rw [List.filter_append, List.filter_eq_self.2 (fun y hy => by rw [hall y hy]; rfl), List.filter_eq_nil_iff.2 (fun y hy => by unfold due; simp [h.got y hy]), List.append_nil]
  refine ⟨ordered_unique ho (by rw [e1]; exact filter_ordered hl _) (by rw [e1]; exact hop.trans (f1 ▸ (hp2.filter (due to)).symm)), ?_⟩
  rw [e2]
  exact (hp2.filter _).trans (by rw [f2])
/-! What is due next. -/
def best1 (b : Int) (x : It) : Int := if b < 0 ∨ x.t < b then x.t else b
theorem best_fold : ∀ (l : List It) (b : Int), (∀ x ∈ l, 0 < x.t) → 0 < b → (l.foldl best1 b = b ∨ ∃ x ∈ l, x.t = l.foldl best1 b) ∧ l.foldl best1 b ≤ b ∧ ∀ x ∈ l, l.foldl best1 b ≤ x.t
  | [], b, _, _ => ⟨Or.inl rfl, Int.le_refl _, fun x hx => by cases hx⟩
  | y :: l, b, h, hb => by
    have hy := h y List.mem_cons_self
    have hb1 : best1 b y ≤ b ∧ best1 b y ≤ y.t ∧ 0 < best1 b y ∧ (best1 b y = b ∨ best1 b y = y.t) := by unfold best1; split <;> omega
    obtain ⟨a1, a2, a3⟩ := best_fold l (best1 b y) (fun x hx => h x (List.mem_cons_of_mem _ hx)) hb1.2.2.1
    rw [List.foldl_cons]
    refine ⟨?_, by omega, fun x hx => ?_⟩
    · rcases a1 with a1 | ⟨x, hx, a1⟩
      · rcases hb1.2.2.2 with e | e
        · exact Or.inl (by omega)
        · exact Or.inr ⟨y, List.mem_cons_self, by omega⟩
      · exact Or.inr ⟨x, List.mem_cons_of_mem _ hx, a1⟩
    · rcases List.mem_cons.1 hx with rfl | hx
      · omega
      · exact a3 x hx
def nextT : List It → Int
  | [] => -1
  | x :: _ => x.t
theorem best_next {l m : List It} (hl : Ordered l) (hp : l.Perm m) (h0 : ∀ x ∈ m, 0 < x.t) : m.foldl best1 (-1) = nextT l := by
  cases m with
  | nil => rw [List.Perm.eq_nil hp]; rfl
  | cons y m =>
    cases l with
    | nil => exact absurd hp.length_eq (by simp)
    | cons x l =>
      have hy := h0 y List.mem_cons_self
      rw [List.foldl_cons, show best1 (-1) y = y.t by unfold best1; rw [if_pos (by omega)]]
      obtain ⟨a1, a2, a3⟩ := best_fold m y.t (fun z hz => h0 z (List.mem_cons_of_mem _ hz)) hy
      have a := List.pairwise_cons.1 hl
      show _ = x.t
      have hle : ∀ z ∈ y :: m, x.t ≤ z.t := fun z hz => by
        rcases List.mem_cons.1 (hp.symm.subset hz) with rfl | hz
        · exact Int.le_refl _
        · have := (itB_no _ _).1 (a.1 z hz); omega
      have hx : List.foldl best1 y.t m ≤ x.t := by
        rcases List.mem_cons.1 (hp.subset List.mem_cons_self) with e | hx
        · rw [e]; exact a2
        · exact a3 x hx
      rcases a1 with e | ⟨z, hz, e⟩
      · have := hle y List.mem_cons_self; omega
      · have := hle z (List.mem_cons_of_mem _ hz); omega
end Go.Proofs.Ytcpfekhpbjkgeaa
end
section
/- Small lemmas on worlds. -/
set_option linter.unusedVariables false
namespace Go.Proofs.Ytcpfekhpbjkgeaa
open Go.RowKit
theorem below_drewN {B : Nat} {a w : World} (h : Below B a w) (n : Nat) : Below B a (w.drewN n) := ⟨h.os, h.tape, h.output, h.size, h.block⟩
end Go.Proofs.Ytcpfekhpbjkgeaa
end
