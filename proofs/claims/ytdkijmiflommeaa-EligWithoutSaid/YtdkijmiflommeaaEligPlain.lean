/- Which hosts may be picked, what nodes weigh, and which have a host that may be picked: in plain Lean. -/
import Derived.Test.YtdkijmiflommeaaTreePlain2
set_option linter.unusedVariables false
namespace Go.Proofs.Ytdkijmiflommeaa
open Go.RowKit
/-- A host that may be picked. -/
def pk (l : List Nd) (hosts : List Int) (j : Nat) : Bool := (l.getD j nd0).kind == 4 && decide (0 < (l.getD j nd0).weight) && hosts.contains (j : Int)
def kidsN (l : List Nd) (i : Nat) : List Nat := (List.range l.length).filter fun k => (l.getD k nd0).above == (i : Int)
theorem idx_kids (l : List Nd) (i : Nat) : idx (under_ i) l = (kidsN l i).map fun k : Nat => (k : Int) := rfl
theorem mem_kids {l : List Nd} {i k : Nat} : k ∈ kidsN l i ↔ k < l.length ∧ (l.getD k nd0).above = i := by
  unfold kidsN
  rw [List.mem_filter, List.mem_range]
  simp
theorem kid_kind {l : List Nd} (h : Tall l) {i k : Nat} (hk : k ∈ kidsN l i) : i < k ∧ (l.getD k nd0).kind = (l.getD i nd0).kind + 1 := by
  obtain ⟨h1, h2⟩ := mem_kids.1 hk
  have hd := tall_head h k h1
  have hk1 : 1 < (l.getD k nd0).kind := by
    rcases Int.lt_or_le 1 (l.getD k nd0).kind with h3 | h3
    · exact h3
    · have := (hd.level (by have := hd.kind0; omega)).2
      omega
  have hb := tall_below h k h1 hk1
  rw [h2] at hb
  rw [ndAt_nat] at hb
  omega
/-- Has a node a host that may be picked? -/
def hsF (l : List Nd) (hosts : List Int) : Nat → Nat → Bool
  | 0, _ => false
  | f + 1, i => if (l.getD i nd0).kind = 4 then pk l hosts i else (kidsN l i).any (hsF l hosts f)
/-- What a node weighs. -/
def wtF (l : List Nd) (hosts : List Int) : Nat → Nat → Int
  | 0, _ => 0
  | f + 1, i => if (l.getD i nd0).kind = 4 then (if pk l hosts i then (l.getD i nd0).weight else 0)
    else if 0 < (l.getD i nd0).weight ∧ hsF l hosts (f + 1) i = true then (l.getD i nd0).weight
    else (kidsN l i).foldl (fun a k => IntKind.u64.wrap (a + wtF l hosts f k)) 0
def hs (l : List Nd) (hosts : List Int) (i : Nat) : Bool := hsF l hosts 4 i
def wt (l : List Nd) (hosts : List Int) (i : Nat) : Int := wtF l hosts 4 i
theorem any_congr' {α : Type} {p q : α → Bool} {l : List α} (h : ∀ x ∈ l, p x = q x) : l.any p = l.any q := by
  induction l with
  | nil => rfl
  | cons x l ih => rw [List.any_cons, List.any_cons, h x (List.mem_cons_self ..), ih (fun y hy => h y (List.mem_cons_of_mem _ hy))]
theorem foldl_congr' {α β : Type} {f g : β → α → β} {l : List α} (h : ∀ a, ∀ x ∈ l, f a x = g a x) : ∀ a, l.foldl f a = l.foldl g a := by
  induction l with
  | nil => intro a; rfl
  | cons x l ih => intro a; rw [List.foldl_cons, List.foldl_cons, h a x (List.mem_cons_self ..)]; exact ih (fun a y hy => h a y (List.mem_cons_of_mem _ hy)) _
theorem hsF_same {l : List Nd} (h : Tall l) (hosts : List Int) : ∀ (f f' i : Nat), i < l.length → 5 ≤ (l.getD i nd0).kind + f → 5 ≤ (l.getD i nd0).kind + f' → hsF l hosts f i = hsF l hosts f' i
  | 0, _, i, hi, h1, _ => by have := (tall_head h i hi).kind1; omega
  | _ + 1, 0, i, hi, _, h1 => by have := (tall_head h i hi).kind1; omega
  | f + 1, f' + 1, i, hi, h1, h2 => by
    rw [hsF, hsF]
    split
    · rfl
    · refine any_congr' fun k hk => hsF_same h hosts f f' k (mem_kids.1 hk).1 ?_ ?_ <;> rw [(kid_kind h hk).2] <;> omega
theorem wtF_same {l : List Nd} (h : Tall l) (hosts : List Int) : ∀ (f f' i : Nat), i < l.length → 5 ≤ (l.getD i nd0).kind + f → 5 ≤ (l.getD i nd0).kind + f' → wtF l hosts f i = wtF l hosts f' i
  | 0, _, i, hi, h1, _ => by have := (tall_head h i hi).kind1; omega
  | _ + 1, 0, i, hi, _, h1 => by have := (tall_head h i hi).kind1; omega
  | f + 1, f' + 1, i, hi, h1, h2 => by
    rw [wtF, wtF, hsF_same h hosts (f + 1) (f' + 1) i hi h1 h2]
    have e : ∀ a, (kidsN l i).foldl (fun a k => IntKind.u64.wrap (a + wtF l hosts f k)) a = (kidsN l i).foldl (fun a k => IntKind.u64.wrap (a + wtF l hosts f' k)) a :=
      foldl_congr' fun a k hk => by
        rw [wtF_same h hosts f f' k (mem_kids.1 hk).1 (by rw [(kid_kind h hk).2]; omega) (by rw [(kid_kind h hk).2]; omega)]
    rw [e]
theorem hs_host {l : List Nd} (h : Tall l) (hosts : List Int) {i : Nat} (hi : i < l.length) (hk : (l.getD i nd0).kind = 4) : hs l hosts i = pk l hosts i := by
  unfold hs; rw [hsF, if_pos hk]
theorem hs_node {l : List Nd} (h : Tall l) (hosts : List Int) {i : Nat} (hi : i < l.length) (hk : (l.getD i nd0).kind ≠ 4) : hs l hosts i = (kidsN l i).any (hs l hosts) := by
  have k0 := (tall_head h i hi).kind0
  unfold hs
  rw [hsF, if_neg hk]
  refine any_congr' fun k hk => hsF_same h hosts 3 4 k (mem_kids.1 hk).1 ?_ ?_ <;> rw [(kid_kind h hk).2] <;> omega
theorem wt_host {l : List Nd} (h : Tall l) (hosts : List Int) {i : Nat} (hi : i < l.length) (hk : (l.getD i nd0).kind = 4) : wt l hosts i = if pk l hosts i then (l.getD i nd0).weight else 0 := by
  unfold wt; rw [wtF, if_pos hk]
theorem wt_node {l : List Nd} (h : Tall l) (hosts : List Int) {i : Nat} (hi : i < l.length) (hk : (l.getD i nd0).kind ≠ 4) :
    wt l hosts i = if 0 < (l.getD i nd0).weight ∧ hs l hosts i = true then (l.getD i nd0).weight else (kidsN l i).foldl (fun a k => IntKind.u64.wrap (a + wt l hosts k)) 0 := by
  have k0 := (tall_head h i hi).kind0
  unfold wt hs
  rw [wtF, if_neg hk]
  have e : ∀ a, (kidsN l i).foldl (fun a k => IntKind.u64.wrap (a + wtF l hosts 3 k)) a = (kidsN l i).foldl (fun a k => IntKind.u64.wrap (a + wtF l hosts 4 k)) a :=
    foldl_congr' fun a k hk => by
      rw [wtF_same h hosts 3 4 k (mem_kids.1 hk).1 (by rw [(kid_kind h hk).2]; omega) (by rw [(kid_kind h hk).2]; omega)]
  rw [e]
/-- A node without a host that may be picked weighs nothing. -/
theorem wt_none {l : List Nd} (h : Tall l) (hosts : List Int) : ∀ (f i : Nat), i < l.length → 5 ≤ (l.getD i nd0).kind + f → hs l hosts i = false → wt l hosts i = 0
  | 0, i, hi, h1, _ => by have := (tall_head h i hi).kind1; omega
  | f + 1, i, hi, h1, h2 => by
    by_cases hk : (l.getD i nd0).kind = 4
    · rw [hs_host h hosts hi hk] at h2
      rw [wt_host h hosts hi hk, h2]; rfl
    · rw [wt_node h hosts hi hk, h2, if_neg (by simp)]
      rw [hs_node h hosts hi hk] at h2
      have e : ∀ k ∈ kidsN l i, wt l hosts k = 0 := fun k hk => by
        refine wt_none h hosts f k (mem_kids.1 hk).1 (by rw [(kid_kind h hk).2]; omega) ?_
        cases hh : hs l hosts k with
        | false => rfl
        | true => rw [List.any_eq_false] at h2; exact absurd hh (h2 k hk)
      have : ∀ (ks : List Nat), (∀ k ∈ ks, wt l hosts k = 0) → ks.foldl (fun a k => IntKind.u64.wrap (a + wt l hosts k)) 0 = 0 := fun ks => by
        induction ks with
        | nil => intro _; rfl
        | cons k ks ih =>
          intro hk
          rw [List.foldl_cons, hk k (List.mem_cons_self ..)]
          exact ih (fun y hy => hk y (List.mem_cons_of_mem _ hy))
      exact this _ e
/-- The chain upwards passes all kinds. -/
theorem up_lower {l : List Nd} (h : Tall l) (kind : Int) : ∀ (f : Nat) (i : Int), 0 ≤ i → i < l.length → (ndAt l i).kind ≤ f → (ndAt l i).kind < kind → up l kind i = -1
  | 0, i, h0, h1, hk, _ => by
    have := (tall_head h i.toNat (by omega)).kind0
    rw [← ndAt_in h0] at this
    omega
  | f + 1, i, h0, h1, hk, hlt => by
    rw [up_step l (tall_rises h) kind i h0 h1 (by omega)]
    have hd := tall_head h i.toNat (by omega)
    rw [← ndAt_in h0] at hd
    by_cases h2 : 1 < (ndAt l i).kind
    · have hb := tall_below h i.toNat (by omega) (by rw [← ndAt_in h0]; exact h2)
      rw [← ndAt_in h0] at hb
      exact up_lower h kind f _ hb.1 (by omega) (by omega) (by omega)
    · have := (hd.level (by have := hd.kind0; omega)).2
      rw [this, up_out l kind (-1) (by omega)]
/-- The node of a kind above a lower one, and the one above that. -/
theorem up_chain {l : List Nd} (h : Tall l) (kind : Int) (hk1 : 1 ≤ kind) : ∀ (f : Nat) (i : Int), 0 ≤ i → i < l.length → (ndAt l i).kind ≤ f → kind + 1 ≤ (ndAt l i).kind →
    0 ≤ up l (kind + 1) i ∧ up l (kind + 1) i < l.length ∧ (ndAt l (up l (kind + 1) i)).kind = kind + 1 ∧ up l kind i = (ndAt l (up l (kind + 1) i)).above
  | 0, i, h0, h1, hk, _ => by omega
  | f + 1, i, h0, h1, hk, hle => by
    have hb := tall_below h i.toNat (by omega) (by rw [← ndAt_in h0]; omega)
    rw [← ndAt_in h0] at hb
    by_cases he : (ndAt l i).kind = kind + 1
    · rw [up_hit l (kind + 1) i h0 h1 he]
      refine ⟨h0, h1, he, ?_⟩
      rw [up_step l (tall_rises h) kind i h0 h1 (by omega)]
      exact up_hit l kind _ hb.1 (by omega) (by omega)
    · rw [up_step l (tall_rises h) (kind + 1) i h0 h1 he, up_step l (tall_rises h) kind i h0 h1 (by omega)]
      exact up_chain h kind hk1 f _ hb.1 (by omega) (by omega) (by omega)
/-- Which node has a host that may be picked: it is below that node. -/
theorem hs_any {l : List Nd} (h : Tall l) (hosts : List Int) : ∀ (f i : Nat), i < l.length → 5 ≤ (l.getD i nd0).kind + f →
    hs l hosts i = (List.range l.length).any fun k => pk l hosts k && up l (l.getD i nd0).kind k == (i : Int)
  | 0, i, hi, h1 => by have := (tall_head h i hi).kind1; omega
  | f + 1, i, hi, h1 => by
    have k0 := (tall_head h i hi).kind0
    have k1 := (tall_head h i hi).kind1
    by_cases hk : (l.getD i nd0).kind = 4
    · rw [hs_host h hosts hi hk, hk]
      apply Bool.eq_iff_iff.2
      rw [List.any_eq_true]
      constructor
      · intro hp
        refine ⟨i, List.mem_range.2 hi, ?_⟩
        rw [hp, up_hit l 4 i (by omega) (by omega) (by rw [ndAt_nat]; exact hk)]
        simp
      · rintro ⟨k, hkr, hp⟩
        rw [Bool.and_eq_true, beq_iff_eq] at hp
        have hk4 : (ndAt l k).kind = 4 := by
          have := hp.1
          unfold pk at this
          simp only [Bool.and_eq_true, beq_iff_eq] at this
          rw [ndAt_nat]; exact this.1.1
        rw [up_hit l 4 k (by omega) (by have := List.mem_range.1 hkr; omega) hk4] at hp
        have : k = i := by omega
        rw [← this]; exact hp.1
    · rw [hs_node h hosts hi hk]
      apply Bool.eq_iff_iff.2
      rw [List.any_eq_true, List.any_eq_true]
      constructor
      · rintro ⟨c, hc, hp⟩
        have hck := kid_kind h hc
        rw [hs_any h hosts f c (mem_kids.1 hc).1 (by rw [hck.2]; omega), List.any_eq_true] at hp
        obtain ⟨k, hkr, hp⟩ := hp
        rw [Bool.and_eq_true, beq_iff_eq, hck.2] at hp
        refine ⟨k, hkr, ?_⟩
        have hk4 : (ndAt l k).kind = 4 := by
          have := hp.1
          unfold pk at this
          simp only [Bool.and_eq_true, beq_iff_eq] at this
          rw [ndAt_nat]; exact this.1.1
        have hch := up_chain h (l.getD i nd0).kind k0 4 k (by omega) (by have := List.mem_range.1 hkr; omega) (by omega) (by omega)
        rw [hp.2, ndAt_nat, (mem_kids.1 hc).2] at hch
        rw [Bool.and_eq_true, beq_iff_eq]
        exact ⟨hp.1, hch.2.2.2⟩
      · rintro ⟨k, hkr, hp⟩
        rw [Bool.and_eq_true, beq_iff_eq] at hp
        have hk4 : (ndAt l k).kind = 4 := by
          have := hp.1
          unfold pk at this
          simp only [Bool.and_eq_true, beq_iff_eq] at this
          rw [ndAt_nat]; exact this.1.1
        obtain ⟨c0, c1, c2, c3⟩ := up_chain h (l.getD i nd0).kind k0 4 k (by omega) (by have := List.mem_range.1 hkr; omega) (by omega) (by omega)
        obtain ⟨c, hc⟩ : ∃ c : Nat, up l ((l.getD i nd0).kind + 1) k = c := ⟨(up l ((l.getD i nd0).kind + 1) k).toNat, by omega⟩
        rw [hc] at c1 c2 c3
        rw [ndAt_nat] at c2 c3
        have hck : c ∈ kidsN l i := mem_kids.2 ⟨by omega, by rw [← c3]; exact hp.2⟩
        refine ⟨c, hck, ?_⟩
        rw [hs_any h hosts f c (by omega) (by rw [c2]; omega), List.any_eq_true]
        refine ⟨k, hkr, ?_⟩
        rw [c2, hc, hp.1]; simp
end Go.Proofs.Ytdkijmiflommeaa
