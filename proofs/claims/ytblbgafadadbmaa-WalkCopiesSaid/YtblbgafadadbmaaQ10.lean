/- Lemmas for the claim's proof: EligPlain QTail MakeInt. -/
import Derived.StillTail
import Derived.Test.YtblbgafadadbmaaQ02
import Derived.Test.YtblbgafadadbmaaQ04
import Derived.Test.YtblbgafadadbmaaQ09
section
/- Which hosts may be picked, what nodes weigh, and which have a host that may be picked: in plain Lean. -/
set_option linter.unusedVariables false
namespace Go.Proofs.Ytblbgafadadbmaa
open Go.RowKit
/-- A host that may be picked. -/
def pk (l : List Nd) (hosts : List Int) (j : Nat) : Bool := (l.getD j nd0).kind == 4 && decide (0 < (l.getD j nd0).weight) && hosts.contains (j : Int)
def kidsN (l : List Nd) (i : Nat) : List Nat := (List.range l.length).filter fun k => (l.getD k nd0).above == (i : Int)
theorem idx_kids (l : List Nd) (i : Nat) : idx (under_ i) l = (kidsN l i).map fun k : Nat => (k : Int) := rfl
theorem mem_kids {l : List Nd} {i k : Nat} : k ∈ kidsN l i ↔ k < l.length ∧ (l.getD k nd0).above = i := by
  unfold kidsN
  rw [List.mem_filter, List.mem_range]
  simp
theorem kid_kind {l : List Nd} (h : Tall l) {i k : Nat} (hk : k ∈ kidsN l i) : i < k ∧ (l.getD k nd0).kind = (l.getD i nd0).kind + 1 := by
  obtain ⟨h1, h2⟩ := mem_kids.1 hk
  have hd := tall_head h k h1
  have hk1 : 1 < (l.getD k nd0).kind := by
    rcases Int.lt_or_le 1 (l.getD k nd0).kind with h3 | h3
    · exact h3
    · have := (hd.level (by have := hd.kind0; omega)).2
      omega
  have hb := tall_below h k h1 hk1
  rw [h2] at hb
  rw [ndAt_nat] at hb
  omega
/-- Has a node a host that may be picked? -/
def hsF (l : List Nd) (hosts : List Int) : Nat → Nat → Bool
  | 0, _ => false
  | f + 1, i => if (l.getD i nd0).kind = 4 then pk l hosts i else (kidsN l i).any (hsF l hosts f)
/-- What a node weighs. -/
def wtF (l : List Nd) (hosts : List Int) : Nat → Nat → Int
  | 0, _ => 0
  | f + 1, i => if (l.getD i nd0).kind = 4 then (if pk l hosts i then (l.getD i nd0).weight else 0)
    else if 0 < (l.getD i nd0).weight ∧ hsF l hosts (f + 1) i = true then (l.getD i nd0).weight
    else (kidsN l i).foldl (fun a k => IntKind.u64.wrap (a + wtF l hosts f k)) 0
def hs (l : List Nd) (hosts : List Int) (i : Nat) : Bool := hsF l hosts 4 i
def wt (l : List Nd) (hosts : List Int) (i : Nat) : Int := wtF l hosts 4 i
theorem any_congr' {α : Type} {p q : α → Bool} {l : List α} (h : ∀ x ∈ l, p x = q x) : l.any p = l.any q := by
  induction l with
  | nil => rfl
  | cons x l ih => rw [List.any_cons, List.any_cons, h x (List.mem_cons_self ..), ih (fun y hy => h y (List.mem_cons_of_mem _ hy))]
theorem foldl_congr' {α β : Type} {f g : β → α → β} {l : List α} (h : ∀ a, ∀ x ∈ l, f a x = g a x) : ∀ a, l.foldl f a = l.foldl g a := by
  induction l with
  | nil => intro a; rfl
  | cons x l ih => intro a; rw [List.foldl_cons, List.foldl_cons, h a x (List.mem_cons_self ..)]; exact ih (fun a y hy => h a y (List.mem_cons_of_mem _ hy)) _
theorem hsF_same {l : List Nd} (h : Tall l) (hosts : List Int) : ∀ (f f' i : Nat), i < l.length → 5 ≤ (l.getD i nd0).kind + f → 5 ≤ (l.getD i nd0).kind + f' → hsF l hosts f i = hsF l hosts f' i
  | 0, _, i, hi, h1, _ => by have := (tall_head h i hi).kind1; omega
  | _ + 1, 0, i, hi, _, h1 => by have := (tall_head h i hi).kind1; omega
  | f + 1, f' + 1, i, hi, h1, h2 => by
    rw [hsF, hsF]
    split
    · rfl
    · refine any_congr' fun k hk => hsF_same h hosts f f' k (mem_kids.1 hk).1 ?_ ?_ <;> rw [(kid_kind h hk).2] <;> omega
theorem wtF_same {l : List Nd} (h : Tall l) (hosts : List Int) : ∀ (f f' i : Nat), i < l.length → 5 ≤ (l.getD i nd0).kind + f → 5 ≤ (l.getD i nd0).kind + f' → wtF l hosts f i = wtF l hosts f' i
  | 0, _, i, hi, h1, _ => by have := (tall_head h i hi).kind1; omega
  | _ + 1, 0, i, hi, _, h1 => by have := (tall_head h i hi).kind1; omega
  | f + 1, f' + 1, i, hi, h1, h2 => by
    rw [wtF, wtF, hsF_same h hosts (f + 1) (f' + 1) i hi h1 h2]
    have e : ∀ a, (kidsN l i).foldl (fun a k => IntKind.u64.wrap (a + wtF l hosts f k)) a = (kidsN l i).foldl (fun a k => IntKind.u64.wrap (a + wtF l hosts f' k)) a :=
      foldl_congr' fun a k hk => by
        rw [wtF_same h hosts f f' k (mem_kids.1 hk).1 (by rw [(kid_kind h hk).2]; omega) (by rw [(kid_kind h hk).2]; omega)]
    rw [e]
theorem hs_host {l : List Nd} (h : Tall l) (hosts : List Int) {i : Nat} (hi : i < l.length) (hk : (l.getD i nd0).kind = 4) : hs l hosts i = pk l hosts i := by
  unfold hs; rw [hsF, if_pos hk]
theorem hs_node {l : List Nd} (h : Tall l) (hosts : List Int) {i : Nat} (hi : i < l.length) (hk : (l.getD i nd0).kind ≠ 4) : hs l hosts i = (kidsN l i).any (hs l hosts) := by
  have k0 := (tall_head h i hi).kind0
  unfold hs
  rw [hsF, if_neg hk]
  refine any_congr' fun k hk => hsF_same h hosts 3 4 k (mem_kids.1 hk).1 ?_ ?_ <;> rw [(kid_kind h hk).2] <;> omega
theorem wt_host {l : List Nd} (h : Tall l) (hosts : List Int) {i : Nat} (hi : i < l.length) (hk : (l.getD i nd0).kind = 4) : wt l hosts i = if pk l hosts i then (l.getD i nd0).weight else 0 := by
  unfold wt; rw [wtF, if_pos hk]
theorem wt_node {l : List Nd} (h : Tall l) (hosts : List Int) {i : Nat} (hi : i < l.length) (hk : (l.getD i nd0).kind ≠ 4) :
    wt l hosts i = if 0 < (l.getD i nd0).weight ∧ hs l hosts i = true then (l.getD i nd0).weight else (kidsN l i).foldl (fun a k => IntKind.u64.wrap (a + wt l hosts k)) 0 := by
  have k0 := (tall_head h i hi).kind0
  unfold wt hs
  rw [wtF, if_neg hk]
  have e : ∀ a, (kidsN l i).foldl (fun a k => IntKind.u64.wrap (a + wtF l hosts 3 k)) a = (kidsN l i).foldl (fun a k => IntKind.u64.wrap (a + wtF l hosts 4 k)) a :=
    foldl_congr' fun a k hk => by
      rw [wtF_same h hosts 3 4 k (mem_kids.1 hk).1 (by rw [(kid_kind h hk).2]; omega) (by rw [(kid_kind h hk).2]; omega)]
  rw [e]
/-- A node without a host that may be picked weighs nothing. -/
theorem wt_none {l : List Nd} (h : Tall l) (hosts : List Int) : ∀ (f i : Nat), i < l.length → 5 ≤ (l.getD i nd0).kind + f → hs l hosts i = false → wt l hosts i = 0
  | 0, i, hi, h1, _ => by have := (tall_head h i hi).kind1; omega
  | f + 1, i, hi, h1, h2 => by
    by_cases hk : (l.getD i nd0).kind = 4
    · rw [hs_host h hosts hi hk] at h2
      rw [wt_host h hosts hi hk, h2]; rfl
    · rw [wt_node h hosts hi hk, h2, if_neg (by simp)]
      rw [hs_node h hosts hi hk] at h2
      have e : ∀ k ∈ kidsN l i, wt l hosts k = 0 := fun k hk => by
        refine wt_none h hosts f k (mem_kids.1 hk).1 (by rw [(kid_kind h hk).2]; omega) ?_
        cases hh : hs l hosts k with
        | false => rfl
        | true => rw [List.any_eq_false] at h2; exact absurd hh (h2 k hk)
      have : ∀ (ks : List Nat), (∀ k ∈ ks, wt l hosts k = 0) → ks.foldl (fun a k => IntKind.u64.wrap (a + wt l hosts k)) 0 = 0 := fun ks => by
        induction ks with
        | nil => intro _; rfl
        | cons k ks ih =>
          intro hk
          rw [List.foldl_cons, hk k (List.mem_cons_self ..)]
          exact ih (fun y hy => hk y (List.mem_cons_of_mem _ hy))
      exact this _ e
/-- The chain upwards passes all kinds. -/
theorem up_lower {l : List Nd} (h : Tall l) (kind : Int) : ∀ (f : Nat) (i : Int), 0 ≤ i → i < l.length → (ndAt l i).kind ≤ f → (ndAt l i).kind < kind → up l kind i = -1
  | 0, i, h0, h1, hk, _ => by
    have := (tall_head h i.toNat (by omega)).kind0
    rw [← ndAt_in h0] at this
    omega
  | f + 1, i, h0, h1, hk, hlt => by
    rw [up_step l (tall_rises h) kind i h0 h1 (by omega)]
    have hd := tall_head h i.toNat (by omega)
    rw [← ndAt_in h0] at hd
    by_cases h2 : 1 < (ndAt l i).kind
    · have hb := tall_below h i.toNat (by omega) (by rw [← ndAt_in h0]; exact h2)
      rw [← ndAt_in h0] at hb
      exact up_lower h kind f _ hb.1 (by omega) (by omega) (by omega)
    · have := (hd.level (by have := hd.kind0; omega)).2
      rw [this, up_out l kind (-1) (by omega)]
/-- The node of a kind above a lower one, and the one above that. -/
theorem up_chain {l : List Nd} (h : Tall l) (kind : Int) (hk1 : 1 ≤ kind) : ∀ (f : Nat) (i : Int), 0 ≤ i → i < l.length → (ndAt l i).kind ≤ f → kind + 1 ≤ (ndAt l i).kind →
    0 ≤ up l (kind + 1) i ∧ up l (kind + 1) i < l.length ∧ (ndAt l (up l (kind + 1) i)).kind = kind + 1 ∧ up l kind i = (ndAt l (up l (kind + 1) i)).above
  | 0, i, h0, h1, hk, _ => by omega
  | f + 1, i, h0, h1, hk, hle => by
    have hb := tall_below h i.toNat (by omega) (by rw [← ndAt_in h0]; omega)
    rw [← ndAt_in h0] at hb
    by_cases he : (ndAt l i).kind = kind + 1
    · rw [up_hit l (kind + 1) i h0 h1 he]
      refine ⟨h0, h1, he, ?_⟩
      rw [up_step l (tall_rises h) kind i h0 h1 (by omega)]
      exact up_hit l kind _ hb.1 (by omega) (by omega)
    · rw [up_step l (tall_rises h) (kind + 1) i h0 h1 he, up_step l (tall_rises h) kind i h0 h1 (by omega)]
      exact up_chain h kind hk1 f _ hb.1 (by omega) (by omega) (by omega)
/-- Which node has a host that may be picked: it is below that node. -/
theorem hs_any {l : List Nd} (h : Tall l) (hosts : List Int) : ∀ (f i : Nat), i < l.length → 5 ≤ (l.getD i nd0).kind + f →
    hs l hosts i = (List.range l.length).any fun k => pk l hosts k && up l (l.getD i nd0).kind k == (i : Int)
  | 0, i, hi, h1 => by have := (tall_head h i hi).kind1; omega
  | f + 1, i, hi, h1 => by
    have k0 := (tall_head h i hi).kind0
    have k1 := (tall_head h i hi).kind1
    by_cases hk : (l.getD i nd0).kind = 4
    · rw [hs_host h hosts hi hk, hk]
      apply Bool.eq_iff_iff.2
      rw [List.any_eq_true]
      constructor
      · intro hp
        refine ⟨i, List.mem_range.2 hi, ?_⟩
        rw [hp, up_hit l 4 i (by omega) (by omega) (by rw [ndAt_nat]; exact hk)]
        simp
      · rintro ⟨k, hkr, hp⟩
        rw [Bool.and_eq_true, beq_iff_eq] at hp
        have hk4 : (ndAt l k).kind = 4 := by
          have := hp.1
          unfold pk at this
          simp only [Bool.and_eq_true, beq_iff_eq] at this
          rw [ndAt_nat]; exact this.1.1
        rw [up_hit l 4 k (by omega) (by have := List.mem_range.1 hkr; omega) hk4] at hp
        have : k = i := by omega
        rw [← this]; exact hp.1
    · rw [hs_node h hosts hi hk]
      apply Bool.eq_iff_iff.2
      rw [List.any_eq_true, List.any_eq_true]
      constructor
      · rintro ⟨c, hc, hp⟩
        have hck := kid_kind h hc
        rw [hs_any h hosts f c (mem_kids.1 hc).1 (by rw [hck.2]; omega), List.any_eq_true] at hp
        obtain ⟨k, hkr, hp⟩ := hp
        rw [Bool.and_eq_true, beq_iff_eq, hck.2] at hp
        refine ⟨k, hkr, ?_⟩
        have hk4 : (ndAt l k).kind = 4 := by
          have := hp.1
          unfold pk at this
          simp only [Bool.and_eq_true, beq_iff_eq] at this
          rw [ndAt_nat]; exact this.1.1
        have hch := up_chain h (l.getD i nd0).kind k0 4 k (by omega) (by have := List.mem_range.1 hkr; omega) (by omega) (by omega)
        rw [hp.2, ndAt_nat, (mem_kids.1 hc).2] at hch
        rw [Bool.and_eq_true, beq_iff_eq]
        exact ⟨hp.1, hch.2.2.2⟩
      · rintro ⟨k, hkr, hp⟩
        rw [Bool.and_eq_true, beq_iff_eq] at hp
        have hk4 : (ndAt l k).kind = 4 := by
          have := hp.1
          unfold pk at this
          simp only [Bool.and_eq_true, beq_iff_eq] at this
          rw [ndAt_nat]; exact this.1.1
        obtain ⟨c0, c1, c2, c3⟩ := up_chain h (l.getD i nd0).kind k0 4 k (by omega) (by have := List.mem_range.1 hkr; omega) (by omega) (by omega)
        obtain ⟨c, hc⟩ : ∃ c : Nat, up l ((l.getD i nd0).kind + 1) k = c := ⟨(up l ((l.getD i nd0).kind + 1) k).toNat, by omega⟩
        rw [hc] at c1 c2 c3
        rw [ndAt_nat] at c2 c3
        have hck : c ∈ kidsN l i := mem_kids.2 ⟨by omega, by rw [← c3]; exact hp.2⟩
        refine ⟨c, hck, ?_⟩
        rw [hs_any h hosts f c (by omega) (by rw [c2]; omega), List.any_eq_true]
        refine ⟨k, hkr, ?_⟩
        rw [c2, hc, hp.1]; simp
end Go.Proofs.Ytblbgafadadbmaa
end
section
/- Regions that draw their order: all operations but the last few are quiet in a class of worlds (they read; callees keep the class), and those last ones come in one forced order: one walk. -/
set_option linter.unusedVariables false
namespace Go.Proofs.Ytblbgafadadbmaa
open Go.RowKit Go
section
variable {P : Program} {ops : Array Oper} {md : Region.Mode} {C : World → Prop}
/-- All that may come up stands ahead of n, is quiet in the class, and L holds behind so many. -/
def qHead (P : Program) (md : Region.Mode) (ops : Array Oper) (C : World → Prop) (n : Nat) (L : Array Bool → Act → Prop) : Nat → Array Bool → Act → Prop
  | 0, listed, a => L listed a
  | f + 1, listed, a => Region.ready md ops listed ≠ [] ∧ ∀ i ∈ Region.ready md ops listed, i < n ∧ qOp P ops C i (qHead P md ops C n L f (listed.setIfInBounds i true)) a
theorem any_of_qHead {n g : Nat} {L : Array Bool → Act → Prop} {Q' : Exit → Act → World → Prop} (hL : ∀ listed a w, C w → L listed a → wpAny P md ops Q' g listed a w) :
    ∀ (f : Nat) (listed : Array Bool) (a : Act) (w : World), C w → qHead P md ops C n L f listed a → wpAny P md ops Q' (f + g) listed a w := by
  intro f
  induction f with
  | zero => intro listed a w hw h; rw [Nat.zero_add]; exact hL _ _ _ hw h
  | succ f ih =>
    intro listed a w hw h
    rw [show f + 1 + g = (f + g) + 1 by omega]
    exact ⟨fun h0 => absurd h0 h.1, fun i hi => wpOp_of_qOp hw (fun a' w' hw' h' => ih _ a' w' hw' h') (h.2 i hi).2⟩
theorem qHead_first {n i : Nat} {oi : Oper} {v : Value} {L : Array Bool → Act → Prop} (hi : ops[i]? = some oi) (hsel : ∀ (j : Nat) (o : Oper) cs b, ops[j]? = some o → o.op ≠ .select cs b)
    (hs : Region.sinkB md ops n = true) (hc : Region.chainB md ops n = true) (hn : n < ops.size) (hin : i < n)
    (hdone : ∀ listed a, L listed a → ∀ j ∈ Region.ready md ops listed, n ≤ j) :
    ∀ (f : Nat) (listed : Array Bool) (a : Act), HeadInv md ops n listed →
      (∀ j oj, ops[j]? = some oj → j ≠ i → listed.getD j true = false → (∀ e ∈ oj.after, Region.binds md e = true → e.on ≠ i) → oi.apart ops oj = true) →
      i ∈ Region.ready md ops listed → YieldsIn P ops C oi v a →
      qHead P md ops C n L f (listed.setIfInBounds i true) (a.put oi.dst v) → qHead P md ops C n L (f + 1) listed a := by
  intro f
  induction f with
  | zero =>
    intro listed a inv _ hr hy H
    refine ⟨fun h => (by rw [h] at hr; cases hr), fun j hj => ?_⟩
    have hjn : j < n := Nat.lt_of_not_le fun h => tail_waits hs hc hn inv _ i rfl hin (mem_ready.1 hr).1 j h hj
    refine ⟨hjn, ?_⟩
    by_cases hji : j = i
    · subst hji; exact hy.qOp hi H
    · have := hdone _ _ H j (ready_mono hj hji)
      omega
  | succ f ih =>
    intro listed a inv hfree hr hy H
    have hun := (mem_ready.1 hr).1
    refine ⟨fun h => (by rw [h] at hr; cases hr), fun j hj => ?_⟩
    have hjn : j < n := Nat.lt_of_not_le fun h => tail_waits hs hc hn inv _ i rfl hin hun j h hj
    refine ⟨hjn, ?_⟩
    by_cases hji : j = i
    · subst hji; exact hy.qOp hi H
    · have h1 := (H.2 j (ready_mono hj hji)).2
      obtain ⟨hjun, oj, hoj, hall⟩ := mem_ready.1 hj
      have hnot : ∀ e ∈ oj.after, Region.binds md e = true → e.on ≠ i := fun e he hb heq => by
        have h3 := hall e he hb
        rw [heq, getD_both hun] at h3
        cases h3
      have h2 := qOp_put hoj (hfree j oj hoj hji hjun hnot) (fun cs b => hsel i oi cs b hi) (fun cs b => hsel j oj cs b hoj) hy h1
      refine qOp_mono (fun a' h3 => ih (listed.setIfInBounds j true) a' (inv.set hj hjn) (fun k ok hk hki hun' hno => hfree k ok hk hki ?_ hno) (ready_mono hr (Ne.symm hji)) h3.1 ?_) h2
      · by_cases hjk : j = k
        · subst hjk; exact hjun
        · rwa [getD_set_ne true hjk] at hun'
      · rw [Array.setIfInBounds_comm _ _ hji]
        exact h3.2
theorem qHead_lex {n g : Nat} {Lq : Act → Prop} (hsel : Region.noSelect ops = true) (hs : Region.sinkB md ops n = true) (hc : Region.chainB md ops n = true) (hn : n < ops.size) :
    ∀ (l : List Oper) (k : Nat) (listed : Array Bool) (a : Act), (∀ j, j < l.length → l[j]? = ops[k + j]?) → k + l.length = n → HeadInv md ops n listed →
    Region.lexHead md ops g l.length k listed = true → wpQuiet P ops C Lq l a →
    qHead P md ops C n (fun listed' a' => Region.seqB md ops g n listed' = true ∧ Lq a') l.length listed a := by
  intro l
  induction l with
  | nil =>
    intro k listed a _ hk _ hB h
    obtain rfl : k = n := by simpa using hk
    exact ⟨by simpa [Region.lexHead] using hB, h⟩
  | cons o l ih =>
    intro k listed a hl hk inv hB h
    have h0 : ops[k]? = some o := by simpa using (hl 0 (by simp)).symm
    simp only [List.length_cons, Region.lexHead, Bool.and_eq_true] at hB
    obtain ⟨⟨hr, hf⟩, hB'⟩ := hB
    rw [List.length_cons] at hk
    have hkn : k < n := by omega
    have hr' : k ∈ Region.ready md ops listed := by simpa using hr
    have hst : qOp P ops C k (wpQuiet P ops C Lq l) a := by unfold qOp; simp only [h0]; exact h
    obtain ⟨v, hy, hK⟩ := yieldsIn_of_qOp h0 hst
    refine qHead_first h0 (Region.noSelect_spec hsel) hs hc hn hkn (fun listed' a' hL => seqB_ready hL.1) l.length listed a inv (Region.free_spec h0 hf) hr' hy ?_
    refine ih (k + 1) _ _ (fun j hj => ?_) (by omega) (inv.set hr' hkn) hB' hK
    have := hl (j + 1) (by simp; omega)
    simpa [Nat.add_assoc, Nat.add_comm 1 j] using this
/-- All but the operations from n on are quiet; those come last, in their order, from whichever world of the class. -/
theorem wp_region_quiet_tail {id : Nat} {Q : Exit → Act → World → Prop} {a : Act} {w : World} {l : List Oper} (n : Nat) (hm : P.follows .mixedOrders = true) (hB : Region.lexTailB .any l.toArray n = true) (hC : C w.drew)
    (h : wpQuiet P l.toArray C (fun a' => ∀ w', C w' → wpList P l.toArray Q (l.drop n) a' w') (l.take n) a) : (Code.region id l.toArray true).wp P Q a w := by
  simp only [Region.lexTailB, Bool.and_eq_true, decide_eq_true_eq] at hB
  obtain ⟨⟨⟨⟨hsel, hn⟩, hs⟩, hc⟩, hlex⟩ := hB
  have hn' : n < l.length := by simpa using hn
  have htl : (l.take n).length = n := by simp; omega
  have hdl : (l.drop n).length = l.toArray.size - n := by simp
  have inv0 : HeadInv .any l.toArray n (Array.replicate l.toArray.size false) :=
    ⟨by simp, fun j oj _ hl => (by rw [getD_replicate_false] at hl; cases hl), fun t _ ht => getD_in (by simpa using ht) (getD_replicate_false _ _)⟩
  have H := qHead_lex (P := P) (C := C) (md := .any) (g := l.toArray.size - n) hsel hs hc hn (l.take n) 0 (Array.replicate l.toArray.size false) a (fun j hj => by
    have hj' : j < n := by rw [htl] at hj; exact hj
    simp [hj']) (by simpa using htl) inv0 (by rw [htl]; exact hlex) h
  refine wp_region_any hm ?_
  have := any_of_qHead (Q' := Q) (g := l.toArray.size - n) (fun listed a' w' hw' hL => by
    have := wpAny_of_seq (md := .any) (Q' := Q) (l.drop n) n listed a' w' (fun j => by simp [List.getElem?_drop]) (by rw [hdl]; exact hL.1) (hL.2 w' hw')
    rwa [hdl] at this) _ _ _ _ hC H
  rw [htl, show n + (l.toArray.size - n) = l.toArray.size by omega] at this
  exact this
end
theorem wp_region_under_tail {P : Program} {id : Nat} {Q : Exit → Act → World → Prop} {a : Act} {w : World} {l : List Oper} (n : Nat) (hm : P.follows .mixedOrders = true) (hB : Region.lexTailB .any l.toArray n = true)
    (h : wpQuiet P l.toArray (fun w' => ∃ p : UP, w' = under w p) (fun a' => ∀ w', (∃ p : UP, w' = under w p) → wpList P l.toArray Q (l.drop n) a' w') (l.take n) a) : (Code.region id l.toArray true).wp P Q a w :=
  wp_region_quiet_tail (C := fun w' => ∃ p : UP, w' = under w p) n hm hB ⟨_, under_drew w⟩ h
end Go.Proofs.Ytblbgafadadbmaa
end
section
/- What the form says of int, for slices that are made. -/
namespace Go.Proofs.Ytblbgafadadbmaa
theorem Try.infoI64 : (Try.prog.info? 3).map (fun i => (i.zero, i.size, i.bytes)) = some (some (.int .i64 0), 1, 8) := by kernel_rfl
end Go.Proofs.Ytblbgafadadbmaa
end
