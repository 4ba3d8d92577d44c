/- Lemmas for the claim's proof: Pairs2 StrawPlain StrawA WalkPlain WalkPlain2 EligI TreeM. -/
import Derived.WalkKit
import Derived.Test.YtblbgafadadbmaaQ04
import Derived.Test.YtblbgafadadbmaaQ09
import Derived.Test.YtblbgafadadbmaaQ13
import Derived.Test.YtblbgafadadbmaaQ15
section
/- The k-th of a slice of structs of two integers. -/
set_option linter.unusedVariables false
namespace Go.Proofs.Ytblbgafadadbmaa
open Go.RowKit
theorem IsPairs.at_ {w : World} {k0 k1 : IntKind} {A : Option Addr} {n c : Nat} {l : List (Int × Int)} (h : IsPairs w k0 k1 A n c l) {k : Nat} (hk : k < n) :
    ∃ ad, A = some ad ∧ ad.block < w.heap.size ∧ w.cell? (ad.add (k * 2)) = some (.int k0 (l.getD k (0, 0)).1) ∧ w.cell? ⟨(ad.add (k * 2)).block, (ad.add (k * 2)).off + 1, none⟩ = some (.int k1 (l.getD k (0, 0)).2) ∧
      (Lit.int k0 (l.getD k (0, 0)).1).wf = true ∧ (Lit.int k1 (l.getD k (0, 0)).2).wf = true := by
  obtain ⟨ad, ha, hb, hc⟩ := h.cells (by omega)
  have hl : k < l.length := by rw [h.len]; exact hk
  have e : l[k]? = some (l.getD k (0, 0)) := by rw [List.getD_eq_getElem?_getD, List.getElem?_eq_getElem hl]; rfl
  obtain ⟨c0, c1⟩ := hc k _ e
  obtain ⟨w0, w1⟩ := h.wf _ (List.mem_of_getElem? e)
  exact ⟨ad, ha, hb, c0, by rw [← add_of_add] at c1; exact c1, w0, w1⟩
theorem IsPairs.keep {w w' : World} {k0 k1 : IntKind} {A : Option Addr} {n c : Nat} {l : List (Int × Int)} (h : IsPairs w k0 k1 A n c l) (hx : Below w.heap.size w w') : IsPairs w' k0 k1 A n c l :=
  ⟨h.len, h.cap, h.small, h.reach, h.wf, fun hn => by
    obtain ⟨ad, ha, hb, hc⟩ := h.cells hn
    exact ⟨ad, ha, Nat.lt_of_lt_of_le hb hx.size, fun i q hq => ⟨(hx.cell (by rw [block_of_add]; exact hb)).trans (hc i q hq).1, (hx.cell (by rw [block_of_add]; exact hb)).trans (hc i q hq).2⟩⟩⟩
theorem IsPairs.take {w : World} {k0 k1 : IntKind} {A : Option Addr} {n c k : Nat} {l : List (Int × Int)} (h : IsPairs w k0 k1 A n c l) (hk : k ≤ n) : IsPairs w k0 k1 A k c (l.take k) :=
  ⟨by rw [List.length_take, h.len]; omega, Nat.le_trans hk h.cap, h.small, Nat.le_trans hk h.reach, fun p hp => h.wf p (List.mem_of_mem_take hp), fun hn => by
    obtain ⟨ad, ha, hb, hc⟩ := h.cells (by omega)
    refine ⟨ad, ha, hb, fun i q hq => hc i q ?_⟩
    rw [List.getElem?_take] at hq
    split at hq
    · exact hq
    · cases hq⟩
theorem IsPairs.below {w w' : World} {B : Nat} {k0 k1 : IntKind} {A : Option Addr} {n c : Nat} {l : List (Int × Int)} (h : IsPairs w k0 k1 A n c l) (hB : w.heap.size ≤ B) (hx : Below B w w') : IsPairs w' k0 k1 A n c l := h.keep (hx.mono hB)
end Go.Proofs.Ytblbgafadadbmaa
end
section
/- Straws: who has the shortest; in plain Lean. -/
set_option linter.unusedVariables false
namespace Go.Proofs.Ytblbgafadadbmaa
/-- Is the straw of a shorter than that of b, or as long, and its number lower? L: how long each number's straw is, without its weight. -/
def shP (L : Int → Int) (a b : Int × Int) : Bool := decide (L a.1 * b.2 < L b.1 * a.2) || (L a.1 * b.2 == L b.1 * a.2 && decide (a.1 < b.1))
theorem sh_iff (L : Int → Int) (a b : Int × Int) : shP L a b = true ↔ L a.1 * b.2 < L b.1 * a.2 ∨ (L a.1 * b.2 = L b.1 * a.2 ∧ a.1 < b.1) := by
  unfold shP
  simp
theorem sh_asym {L : Int → Int} {a b : Int × Int} (h : shP L a b = true) (k : shP L b a = true) : False := by
  rw [sh_iff] at h k
  omega
theorem sh_total {L : Int → Int} {a b : Int × Int} (hab : a.1 ≠ b.1) (h : ¬ shP L a b = true) : shP L b a = true := by
  rw [sh_iff] at h ⊢
  omega
theorem sh_trans {L : Int → Int} {a b c : Int × Int} (ha : 0 < a.2) (hb : 0 < b.2) (hc : 0 < c.2) (h : shP L a b = true) (k : shP L b c = true) : shP L a c = true := by
  rw [sh_iff] at h k ⊢
  generalize L a.1 = x at *
  generalize L b.1 = y at *
  generalize L c.1 = z at *
  have e1 : x * b.2 * c.2 = b.2 * (x * c.2) := by rw [Int.mul_comm x, Int.mul_assoc]
  have e2 : y * a.2 * c.2 = y * c.2 * a.2 := by rw [Int.mul_assoc, Int.mul_comm a.2, ← Int.mul_assoc]
  have e3 : z * b.2 * a.2 = b.2 * (z * a.2) := by rw [Int.mul_comm z, Int.mul_assoc]
  have h' : x * b.2 ≤ y * a.2 := by omega
  have k' : y * c.2 ≤ z * b.2 := by omega
  have m1 : x * b.2 * c.2 ≤ y * a.2 * c.2 := Int.mul_le_mul_of_nonneg_right h' (by omega)
  have m2 : y * c.2 * a.2 ≤ z * b.2 * a.2 := Int.mul_le_mul_of_nonneg_right k' (by omega)
  have m3 : b.2 * (x * c.2) ≤ b.2 * (z * a.2) := by omega
  have m4 : x * c.2 ≤ z * a.2 := Int.le_of_mul_le_mul_left m3 hb
  rcases Int.lt_or_eq_of_le m4 with m5 | m5
  · exact .inl m5
  · refine .inr ⟨m5, ?_⟩
    have q1 : x * b.2 * c.2 = y * a.2 * c.2 := by rw [m5] at e1; omega
    have q2 : y * c.2 * a.2 = z * b.2 * a.2 := by rw [m5] at e1; omega
    have q3 : x * b.2 = y * a.2 := Int.eq_of_mul_eq_mul_right (by omega) q1
    have q4 : y * c.2 = z * b.2 := Int.eq_of_mul_eq_mul_right (by omega) q2
    omega
/-- The place that is picked among the first k. -/
def pickTo (L : Int → Int) (l : List (Int × Int)) : Nat → Int
  | 0 => -1
  | k + 1 => if decide (0 < (l.getD k (0, 0)).2) && (decide (pickTo L l k < 0) || shP L (l.getD k (0, 0)) (l.getD (pickTo L l k).toNat (0, 0))) then (k : Int) else pickTo L l k
theorem pick_bd (L : Int → Int) (l : List (Int × Int)) : ∀ k, -1 ≤ pickTo L l k ∧ pickTo L l k < k
  | 0 => by simp [pickTo]
  | k + 1 => by
    have := pick_bd L l k
    unfold pickTo
    split <;> omega
theorem pick_yes {L : Int → Int} {l : List (Int × Int)} {k : Nat} (h : 0 < (l.getD k (0, 0)).2 ∧ (pickTo L l k < 0 ∨ shP L (l.getD k (0, 0)) (l.getD (pickTo L l k).toNat (0, 0)) = true)) : pickTo L l (k + 1) = k := by
  rw [pickTo]; rw [if_pos]; simpa using h
theorem pick_no {L : Int → Int} {l : List (Int × Int)} {k : Nat} (h : ¬ (0 < (l.getD k (0, 0)).2 ∧ (pickTo L l k < 0 ∨ shP L (l.getD k (0, 0)) (l.getD (pickTo L l k).toNat (0, 0)) = true))) : pickTo L l (k + 1) = pickTo L l k := by
  rw [pickTo]; rw [if_neg]; simpa using h
theorem pick_pos (L : Int → Int) (l : List (Int × Int)) : ∀ k, 0 ≤ pickTo L l k → 0 < (l.getD (pickTo L l k).toNat (0, 0)).2
  | 0, h => by simp [pickTo] at h
  | k + 1, h => by
    by_cases g : 0 < (l.getD k (0, 0)).2 ∧ (pickTo L l k < 0 ∨ shP L (l.getD k (0, 0)) (l.getD (pickTo L l k).toNat (0, 0)) = true)
    · rw [pick_yes g]; simpa using g.1
    · rw [pick_no g] at h ⊢; exact pick_pos L l k h
/-- Of unlike numbers, the picked one's straw is the shortest. -/
theorem pick_best {L : Int → Int} {l : List (Int × Int)} : ∀ n, (∀ i j, i < n → j < i → (l.getD i (0, 0)).1 ≠ (l.getD j (0, 0)).1) → ∀ j, j < n → 0 < (l.getD j (0, 0)).2 →
    0 ≤ pickTo L l n ∧ (pickTo L l n = j ∨ shP L (l.getD (pickTo L l n).toNat (0, 0)) (l.getD j (0, 0)) = true)
  | 0, _, j, hj, _ => by omega
  | n + 1, hd, j, hj, hw => by
    have ih := pick_best (L := L) (l := l) n (fun i j hi hji => hd i j (by omega) hji)
    have hbd := pick_bd L l n
    by_cases g : 0 < (l.getD n (0, 0)).2 ∧ (pickTo L l n < 0 ∨ shP L (l.getD n (0, 0)) (l.getD (pickTo L l n).toNat (0, 0)) = true)
    · rw [pick_yes g]
      refine ⟨by omega, ?_⟩
      by_cases e : j = n
      · subst e; exact .inl rfl
      · right
        have ⟨p0, p1⟩ := ih j (by omega) hw
        have gs : shP L (l.getD n (0, 0)) (l.getD (pickTo L l n).toNat (0, 0)) = true := by
          rcases g.2 with g2 | g2
          · omega
          · exact g2
        rw [show ((n : Int)).toNat = n by omega]
        rcases p1 with p1 | p1
        · rw [p1] at gs
          exact gs
        · exact sh_trans g.1 (pick_pos L l n p0) hw gs p1
    · rw [pick_no g]
      by_cases e : j = n
      · subst e
        have g2 : ¬ (pickTo L l j < 0 ∨ shP L (l.getD j (0, 0)) (l.getD (pickTo L l j).toNat (0, 0)) = true) := fun h => g ⟨hw, h⟩
        have p0 : 0 ≤ pickTo L l j := by
          rcases Int.lt_or_le (pickTo L l j) 0 with h | h
          · exact absurd (.inl h) g2
          · exact h
        exact ⟨p0, .inr (sh_total (hd j _ (by omega) (by omega)) (fun h => g2 (.inr h)))⟩
      · exact ih j (by omega) hw
/-- As one weighs more, it alone may be picked anew; as it weighs less, it alone may be left. -/
theorem pick_moves {L : Int → Int} {l m : List (Int × Int)} {n at_ : Nat} {wt : Int} (hL : ∀ k, 0 ≤ L k) (hn : at_ < n)
    (hm : ∀ k, m.getD k (0, 0) = if k = at_ then ((l.getD at_ (0, 0)).1, wt) else l.getD k (0, 0))
    (hd : ∀ i j, i < n → j < i → (l.getD i (0, 0)).1 ≠ (l.getD j (0, 0)).1) (hw : 0 < wt) (hl : 0 < (l.getD at_ (0, 0)).2) :
    0 ≤ pickTo L l n ∧ 0 ≤ pickTo L m n ∧ (pickTo L l n = pickTo L m n ∨ if (l.getD at_ (0, 0)).2 < wt then pickTo L m n = at_ else pickTo L l n = at_) := by
  have hm1 : ∀ k, (m.getD k (0, 0)).1 = (l.getD k (0, 0)).1 := fun k => by rw [hm k]; split <;> simp_all
  have hma : m.getD at_ (0, 0) = ((l.getD at_ (0, 0)).1, wt) := by rw [hm, if_pos rfl]
  have hdm : ∀ i j, i < n → j < i → (m.getD i (0, 0)).1 ≠ (m.getD j (0, 0)).1 := fun i j hi hj => by rw [hm1, hm1]; exact hd i j hi hj
  have bl := pick_best (L := L) n hd
  have bm := pick_best (L := L) n hdm
  have b1 := pick_bd L l n
  have b2 := pick_bd L m n
  have p1 := (bl at_ hn hl).1
  have p2 := (bm at_ hn (by rw [hma]; exact hw)).1
  have q1 := pick_pos L l n p1
  have q2 := pick_pos L m n p2
  refine ⟨p1, p2, ?_⟩
  obtain ⟨a, ha⟩ := Int.eq_ofNat_of_zero_le p1
  obtain ⟨b, hb⟩ := Int.eq_ofNat_of_zero_le p2
  rw [ha] at bl b1 q1 ⊢
  rw [hb] at bm b2 q2 ⊢
  clear p1 p2 ha hb
  simp only [Int.toNat_natCast] at bl bm q1 q2
  by_cases e : a = b
  · subst e; exact .inl rfl
  · right
    -- neither is the one that turned: they'd each be shorter than the other
    have both : a ≠ at_ → b ≠ at_ → False := fun h1 h2 => by
      have x1 := (bl b (by omega) (by rw [hm, if_neg h2] at q2; exact q2)).2.resolve_left (by omega)
      have x2 := (bm a (by omega) (by rw [hm, if_neg h1]; exact q1)).2.resolve_left (by omega)
      rw [hm b, hm a, if_neg h1, if_neg h2] at x2
      exact sh_asym x1 x2
    split
    · rename_i hlt
      by_cases h2 : b = at_
      · rw [h2]
      · exfalso
        by_cases h1 : a = at_
        · subst h1
          have x1 := (bl b (by omega) (by rw [hm, if_neg h2] at q2; exact q2)).2.resolve_left (by omega)
          have x2 := (bm a (by omega) (by rw [hma]; exact hw)).2.resolve_left (by omega)
          rw [hm b, hma, if_neg h2] at x2
          rw [sh_iff] at x1 x2
          simp only at x2
          have := Int.mul_le_mul_of_nonneg_left (Int.le_of_lt hlt) (hL (l.getD b (0, 0)).1)
          omega
        · exact both h1 h2
    · rename_i hlt
      by_cases h1 : a = at_
      · rw [h1]
      · exfalso
        by_cases h2 : b = at_
        · subst h2
          have x1 := (bl b (by omega) hl).2.resolve_left (by omega)
          have x2 := (bm a (by omega) (by rw [hm, if_neg h1]; exact q1)).2.resolve_left (by omega)
          rw [hma, hm a, if_neg h1] at x2
          rw [sh_iff] at x1 x2
          simp only at x2
          have := Int.mul_le_mul_of_nonneg_left (show wt ≤ (l.getD b (0, 0)).2 by omega) (hL (l.getD a (0, 0)).1)
          omega
        · exact both h1 h2
end Go.Proofs.Ytblbgafadadbmaa
end
section
/- How long straws are, by both; which of two is shorter. -/
set_option linter.unusedVariables false
namespace Go.Proofs.Ytblbgafadadbmaa
open Go.RowKit
set_option maxHeartbeats 2000000
set_option maxRecDepth 100000
def drwI (key id : Int) : Int := mixOf key [id] / 281474976710656 + 1
/-- How long the straw of a number is, without its weight. -/
def lenI (key id : Int) : Int := ofN (drwI key id)
theorem drw_bd (key id : Int) : 1 ≤ drwI key id ∧ drwI key id ≤ 65536 := by
  have := mixOf_bd key [id]
  unfold drwI
  omega
theorem len_bd (key id : Int) : 0 ≤ lenI key id ∧ lenI key id ≤ 268435456 := by
  have := of_le (drwI key id)
  unfold lenI
  omega
theorem one_list (w : World) (t : TypeId) (id : Int) (i0 : 0 ≤ id) (i1 : id < 18446744073709551616) : IsList (w.alloc (.cells #[.int .u64 id] t)) .u64 (some ⟨w.heap.size, 0, none⟩) 1 1 [id] :=
  have h1 : (w.alloc (.cells #[.int .u64 id] t)).rowIs w.heap.size t 1 (fun _ => .int .u64 id) := ⟨_, Blk.new w t _, rfl, fun i hi => by
    have : i = 0 := by omega
    subst this
    rfl⟩
  row_list h1 [id] rfl (fun i hi => by
    have : i = 0 := by omega
    subst this
    rfl) (fun z hz => by
    have : z = id := by simpa using hz
    subst this
    simp [Lit.wf, IntKind.min, IntKind.max, IntKind.signed, IntKind.bits]; omega) (Nat.le_refl _) (by decide) (by decide)
end Go.Proofs.Ytblbgafadadbmaa
end
section
/- The step of a walk, in plain Lean: by the items that are picked from, and as the law looks for it. -/
set_option linter.unusedVariables false
namespace Go.Proofs.Ytblbgafadadbmaa
open Go.RowKit
def items (W : Nat → Int) (ks : List Nat) : List (Int × Int) := ks.map fun k : Nat => ((k : Int), W k)
theorem items_len (W : Nat → Int) (ks : List Nat) : (items W ks).length = ks.length := by unfold items; rw [List.length_map]
theorem items_at (W : Nat → Int) (ks : List Nat) {j : Nat} (hj : j < ks.length) : (items W ks).getD j (0, 0) = (((ks.getD j 0 : Nat) : Int), W (ks.getD j 0)) := by
  unfold items
  rw [List.getD_eq_getElem?_getD, List.getD_eq_getElem?_getD, List.getElem?_map, List.getElem?_eq_getElem hj]; rfl
/-- The node that a list of kids and a place stand for. -/
def kidOf (ks : List Nat) (p : Int) : Int := if 0 ≤ p then ((ks.getD p.toNat 0 : Nat) : Int) else -1
def stepL (L : Int → Int) (W : Nat → Int) (ks : List Nat) : Int := kidOf ks (pickTo L (items W ks) ks.length)
def stepI (l : List Nd) (W : Nat → Int) (seed key : Int) (i : Nat) : Int := stepL (lenI (mixOf seed [key, (i : Int)])) W (kidsN l i)
/-- The law's best of the k first nodes. -/
def bestTo (L : Int → Int) (l : List Nd) (W : Nat → Int) (i : Nat) : Nat → Int
  | 0 => -1
  | k + 1 => if (l.getD k nd0).above = (i : Int) ∧ W k ≠ 0 ∧ (bestTo L l W i k < 0 ∨ L (k : Int) * W (bestTo L l W i k).toNat < L (bestTo L l W i k) * W k) then (k : Int) else bestTo L l W i k
def kidsTo (l : List Nd) (i k : Nat) : List Nat := (List.range k).filter fun k => (l.getD k nd0).above == (i : Int)
theorem kidsTo_all (l : List Nd) (i : Nat) : kidsTo l i l.length = kidsN l i := rfl
theorem kidsTo_step (l : List Nd) (i k : Nat) : kidsTo l i (k + 1) = kidsTo l i k ++ if (l.getD k nd0).above = (i : Int) then [k] else [] := by
  unfold kidsTo
  rw [List.range_succ, List.filter_append]
  congr 1
  by_cases h : (l.getD k nd0).above = (i : Int)
  · rw [if_pos h, List.filter_cons, if_pos (by rw [h]; exact beq_self_eq_true _)]; rfl
  · rw [if_neg h, List.filter_cons, if_neg (by rw [beq_iff_eq]; exact h)]; rfl
theorem kidsTo_lt {l : List Nd} {i k j : Nat} (h : j ∈ kidsTo l i k) : j < k := by
  unfold kidsTo at h
  exact List.mem_range.1 (List.mem_filter.1 h).1
theorem pickTo_congr (L : Int → Int) (l m : List (Int × Int)) : ∀ k, (∀ j, j < k → l.getD j (0, 0) = m.getD j (0, 0)) → pickTo L l k = pickTo L m k
  | 0, _ => rfl
  | k + 1, h => by
    have ih := pickTo_congr L l m k (fun j hj => h j (by omega))
    have hb := pick_bd L m k
    unfold pickTo
    rw [ih, h k (by omega)]
    by_cases hp : pickTo L m k < 0
    · simp [hp]
    · rw [h (pickTo L m k).toNat (by omega)]
theorem getD_app {α : Type} (l : List α) (x d : α) {k : Nat} (h : k < l.length) : (l ++ [x]).getD k d = l.getD k d := by
  rw [List.getD_eq_getElem?_getD, List.getD_eq_getElem?_getD, List.getElem?_append_left h]
theorem getD_appLast {α : Type} (l : List α) (x d : α) : (l ++ [x]).getD l.length d = x := by
  rw [List.getD_eq_getElem?_getD, List.getElem?_append_right (Nat.le_refl _)]; simp
theorem getD_mem {α : Type} (l : List α) (d : α) {k : Nat} (h : k < l.length) : l.getD k d ∈ l := by
  rw [List.getD_eq_getElem?_getD, List.getElem?_eq_getElem h]; exact List.getElem_mem h
theorem best_pick (L : Int → Int) (l : List Nd) (W : Nat → Int) (hW : ∀ k, 0 ≤ W k) (i : Nat) : ∀ k, bestTo L l W i k = stepL L W (kidsTo l i k)
  | 0 => rfl
  | k + 1 => by
    have ih := best_pick L l W hW i k
    rw [bestTo, ih, kidsTo_step]
    by_cases ha : (l.getD k nd0).above = (i : Int)
    · rw [if_pos ha]
      obtain ⟨ks, hks⟩ : ∃ ks, ks = kidsTo l i k := ⟨_, rfl⟩
      have hlt : ∀ j ∈ ks, j < k := fun j hj => kidsTo_lt (by rw [← hks]; exact hj)
      rw [← hks]
      clear hks ih
      have hI : items W (ks ++ [k]) = items W ks ++ [((k : Int), W k)] := by unfold items; rw [List.map_append]; rfl
      have hlen : (ks ++ [k]).length = ks.length + 1 := by rw [List.length_append]; rfl
      have hc : pickTo L (items W (ks ++ [k])) ks.length = pickTo L (items W ks) ks.length := pickTo_congr L _ _ _ (fun j hj => by rw [hI]; exact getD_app _ _ _ (by rw [items_len]; exact hj))
      have hx : (items W (ks ++ [k])).getD ks.length (0, 0) = ((k : Int), W k) := by rw [hI, ← items_len W ks]; exact getD_appLast _ _ _
      have hb := pick_bd L (items W ks) ks.length
      have hWk := hW k
      unfold stepL
      rw [hlen]
      obtain ⟨p, hp⟩ : ∃ p, p = pickTo L (items W ks) ks.length := ⟨_, rfl⟩
      rw [← hp] at hc hb ⊢
      have hold : kidOf (ks ++ [k]) p = kidOf ks p := by
        unfold kidOf
        by_cases h0 : 0 ≤ p
        · rw [if_pos h0, if_pos h0, getD_app _ _ _ (by omega)]
        · rw [if_neg h0, if_neg h0]
      have hnew : kidOf (ks ++ [k]) (ks.length : Int) = k := by
        unfold kidOf
        rw [if_pos (by omega), Int.toNat_natCast, getD_appLast]
      by_cases hw : W k = 0
      · rw [if_neg (fun h => h.2.1 hw), pick_no, hc, hold]
        rw [hx]
        exact fun h => by have := h.1; simp at this; omega
      · by_cases hneg : p < 0
        · have hk0 : kidOf ks p = -1 := by unfold kidOf; rw [if_neg (by omega)]
          rw [hk0, if_pos ⟨ha, hw, .inl (by omega)⟩, pick_yes, hnew]
          rw [hx, hc]
          exact ⟨by show 0 < W k; omega, .inl hneg⟩
        · have hm := getD_mem ks 0 (k := p.toNat) (by omega)
          have hbl := hlt _ hm
          have hb1 : kidOf ks p = ((ks.getD p.toNat 0 : Nat) : Int) := by unfold kidOf; rw [if_pos (by omega)]
          have hy : (items W (ks ++ [k])).getD p.toNat (0, 0) = (((ks.getD p.toNat 0 : Nat) : Int), W (ks.getD p.toNat 0)) := by
            rw [hI, getD_app _ _ _ (by rw [items_len]; omega), items_at W ks (by omega)]
          obtain ⟨b, hbb⟩ : ∃ b, b = ks.getD p.toNat 0 := ⟨_, rfl⟩
          rw [← hbb] at hbl hb1 hy
          have hsh : shP L ((k : Int), W k) ((b : Int), W b) = true ↔ L (k : Int) * W b < L (b : Int) * W k := by
            rw [sh_iff]
            constructor
            · rintro (h | h)
              · exact h
              · exact absurd h.2 (by show ¬ ((k : Int) < (b : Int)); omega)
            · exact .inl
          rw [hb1]
          by_cases hs : L (k : Int) * W b < L (b : Int) * W k
          · rw [if_pos ⟨ha, hw, .inr (by rw [Int.toNat_natCast]; exact hs)⟩, pick_yes, hnew]
            rw [hx, hc, hy]
            exact ⟨by show 0 < W k; omega, .inr (hsh.2 hs)⟩
          · rw [if_neg (fun h => h.2.2.elim (fun h2 => by omega) (fun h2 => by rw [Int.toNat_natCast] at h2; exact hs h2)), pick_no, hc, hold, hb1]
            rw [hx, hc, hy]
            exact fun h => h.2.elim hneg (fun h2 => hs (hsh.1 h2))
    · rw [if_neg ha, if_neg (fun h => ha h.1), List.append_nil]
theorem best_step (l : List Nd) (W : Nat → Int) (hW : ∀ k, 0 ≤ W k) (seed key : Int) (i : Nat) : bestTo (lenI (mixOf seed [key, (i : Int)])) l W i l.length = stepI l W seed key i := best_pick _ l W hW i _
theorem stepL_none {L : Int → Int} {W : Nat → Int} {ks : List Nat} (h : ∀ k ∈ ks, W k = 0) : stepL L W ks = -1 := by
  have hp : ∀ n, n ≤ ks.length → pickTo L (items W ks) n = -1 := fun n => by
    induction n with
    | zero => intro _; rfl
    | succ n ih =>
      intro hn
      rw [pick_no, ih (by omega)]
      rw [items_at W ks (by omega)]
      intro h'
      have := h _ (getD_mem ks 0 (k := n) (by omega))
      have := h'.1
      simp only at this
      omega
  unfold stepL kidOf
  rw [hp _ (Nat.le_refl _), if_neg (by omega)]
theorem stepL_mem {L : Int → Int} {W : Nat → Int} {ks : List Nat} (h : 0 ≤ stepL L W ks) : ∃ k ∈ ks, stepL L W ks = (k : Int) ∧ 0 < W k := by
  unfold stepL kidOf at h ⊢
  have hb := pick_bd L (items W ks) ks.length
  by_cases hp : 0 ≤ pickTo L (items W ks) ks.length
  · rw [if_pos hp]
    have hpp := pick_pos L (items W ks) ks.length hp
    rw [items_at W ks (by omega)] at hpp
    exact ⟨_, getD_mem ks 0 (by omega), rfl, hpp⟩
  · rw [if_neg hp] at h; omega
theorem stepL_neg {L : Int → Int} {W : Nat → Int} {ks : List Nat} (h : ¬ 0 ≤ stepL L W ks) : stepL L W ks = -1 := by
  unfold stepL kidOf at h ⊢
  by_cases hp : 0 ≤ pickTo L (items W ks) ks.length
  · rw [if_pos hp] at h; omega
  · rw [if_neg hp]
theorem stepI_in {l : List Nd} {W : Nat → Int} {seed key : Int} {i : Nat} (h : 0 ≤ stepI l W seed key i) : ∃ k : Nat, stepI l W seed key i = k ∧ k < l.length ∧ (l.getD k nd0).above = i ∧ 0 < W k := by
  obtain ⟨k, hk, e, h0⟩ := stepL_mem h
  exact ⟨k, e, (mem_kids.1 hk).1, (mem_kids.1 hk).2, h0⟩
theorem stepI_neg {l : List Nd} {W : Nat → Int} {seed key : Int} {i : Nat} (h : ¬ 0 ≤ stepI l W seed key i) : stepI l W seed key i = -1 := stepL_neg h
end Go.Proofs.Ytblbgafadadbmaa
end
section
/- The way down from a node to a host, in plain Lean. -/
set_option linter.unusedVariables false
namespace Go.Proofs.Ytblbgafadadbmaa
open Go.RowKit
/-- A way ahead of another one; none, if that is none. -/
def joinW (pre r : List Int) : List Int := if r = [] then [] else pre ++ r
theorem joinW_nil (pre : List Int) : joinW pre [] = [] := rfl
theorem joinW_one (pre : List Int) (x : Int) (r : List Int) : joinW pre (joinW [x] r) = joinW (pre ++ [x]) r := by
  unfold joinW
  by_cases h : r = []
  · simp [h]
  · rw [if_neg h, if_neg h, if_neg (by simp)]; simp
theorem joinW_start (r : List Int) : joinW [] r = r := by
  unfold joinW
  by_cases h : r = []
  · simp [h]
  · rw [if_neg h]; rfl
/-- The way from a node down to a host, by a step; none: there is none. -/
def downS (st : Nat → Int) (l : List Nd) : Nat → Nat → List Int
  | 0, _ => []
  | f + 1, i => if (l.getD i nd0).kind = 4 then [(i : Int)] else if 0 ≤ st i then joinW [(i : Int)] (downS st l f (st i).toNat) else []
def downI (l : List Nd) (W : Nat → Int) (seed key : Int) (f i : Nat) : List Int := downS (stepI l W seed key) l f i
theorem downI_host {l : List Nd} {W : Nat → Int} {seed key : Int} {f i : Nat} (h : (l.getD i nd0).kind = 4) : downI l W seed key (f + 1) i = [(i : Int)] := by
  unfold downI; rw [downS, if_pos h]
theorem downI_none {l : List Nd} {W : Nat → Int} {seed key : Int} {f i : Nat} (h : (l.getD i nd0).kind ≠ 4) (hs : ¬ 0 ≤ stepI l W seed key i) : downI l W seed key (f + 1) i = [] := by
  unfold downI; rw [downS, if_neg h, if_neg hs]
theorem downI_step {l : List Nd} {W : Nat → Int} {seed key : Int} {f i k : Nat} (h : (l.getD i nd0).kind ≠ 4) (hs : stepI l W seed key i = k) : downI l W seed key (f + 1) i = joinW [(i : Int)] (downI l W seed key f k) := by
  unfold downI; rw [downS, if_neg h, if_pos (by omega), hs, Int.toNat_natCast]
/-- A kid's kind is one more. -/
theorem step_kind {l : List Nd} (ht : Tall l) {W : Nat → Int} {seed key : Int} {i k : Nat} (hs : stepI l W seed key i = k) : k < l.length ∧ (l.getD k nd0).kind = (l.getD i nd0).kind + 1 ∧ (l.getD k nd0).above = i ∧ 0 < W k ∧ i < k := by
  obtain ⟨k', e, h1, h2, h3⟩ := stepI_in (show 0 ≤ stepI l W seed key i by omega)
  obtain rfl : k' = k := by omega
  have := kid_kind ht (mem_kids.2 ⟨h1, h2⟩)
  exact ⟨h1, this.2, h2, h3, this.1⟩
theorem downI_len (l : List Nd) (W : Nat → Int) (seed key : Int) : ∀ f i, (downI l W seed key f i).length ≤ f
  | 0, _ => Nat.le_refl _
  | f + 1, i => by
    by_cases hk : (l.getD i nd0).kind = 4
    · rw [downI_host hk]; simp
    · by_cases hs : 0 ≤ stepI l W seed key i
      · obtain ⟨k, e, _⟩ := stepI_in hs
        rw [downI_step hk e]
        have := downI_len l W seed key f k
        unfold joinW
        split
        · simp
        · simp; omega
      · rw [downI_none hk hs]; simp
theorem downI_fuel {l : List Nd} (ht : Tall l) (W : Nat → Int) (seed key : Int) : ∀ (f f' i : Nat), i < l.length → 5 ≤ (l.getD i nd0).kind + f → 5 ≤ (l.getD i nd0).kind + f' → downI l W seed key f i = downI l W seed key f' i
  | 0, _, i, hi, h1, _ => by have := (tall_head ht i hi).kind1; omega
  | _ + 1, 0, i, hi, _, h1 => by have := (tall_head ht i hi).kind1; omega
  | f + 1, f' + 1, i, hi, h1, h2 => by
    by_cases hk : (l.getD i nd0).kind = 4
    · rw [downI_host hk, downI_host hk]
    · by_cases hs : 0 ≤ stepI l W seed key i
      · obtain ⟨k, e, _⟩ := stepI_in hs
        have hk2 := step_kind ht e
        rw [downI_step hk e, downI_step hk e, downI_fuel ht W seed key f f' k hk2.1 (by rw [hk2.2.1]; omega) (by rw [hk2.2.1]; omega)]
      · rw [downI_none hk hs, downI_none hk hs]
/-- The way from any node that may be on one. -/
def wayI (l : List Nd) (W : Nat → Int) (seed key : Int) (i : Nat) : List Int := downI l W seed key 4 i
theorem way_host {l : List Nd} {W : Nat → Int} {seed key : Int} {i : Nat} (h : (l.getD i nd0).kind = 4) : wayI l W seed key i = [(i : Int)] := downI_host h
theorem way_none {l : List Nd} {W : Nat → Int} {seed key : Int} {i : Nat} (h : (l.getD i nd0).kind ≠ 4) (hs : ¬ 0 ≤ stepI l W seed key i) : wayI l W seed key i = [] := downI_none h hs
theorem way_step {l : List Nd} (ht : Tall l) {W : Nat → Int} {seed key : Int} {i k : Nat} (hi : i < l.length) (h : (l.getD i nd0).kind ≠ 4) (hs : stepI l W seed key i = k) : wayI l W seed key i = joinW [(i : Int)] (wayI l W seed key k) := by
  have hk := step_kind ht hs
  have h0 := (tall_head ht i hi).kind0
  unfold wayI
  rw [downI_step h hs, downI_fuel ht W seed key 3 4 k hk.1 (by rw [hk.2.1]; omega) (by rw [hk.2.1]; omega)]
theorem way_len (l : List Nd) (W : Nat → Int) (seed key : Int) (i : Nat) : (wayI l W seed key i).length ≤ 4 := downI_len l W seed key 4 i
/-- All on a way are nodes. -/
theorem down_bd {l : List Nd} (ht : Tall l) (W : Nat → Int) (seed key : Int) : ∀ (f i : Nat), i < l.length → ∀ z ∈ downI l W seed key f i, 0 ≤ z ∧ z < l.length
  | 0, _, _, z, hz => by cases hz
  | f + 1, i, hi, z, hz => by
    by_cases hk : (l.getD i nd0).kind = 4
    · rw [downI_host hk] at hz
      have : z = i := by simpa using hz
      omega
    · by_cases hs : 0 ≤ stepI l W seed key i
      · obtain ⟨k, e, hkl, _⟩ := stepI_in hs
        rw [downI_step hk e] at hz
        unfold joinW at hz
        split at hz
        · cases hz
        · rcases List.mem_append.1 hz with h1 | h1
          · have : z = i := by simpa using h1
            omega
          · exact down_bd ht W seed key f k hkl z h1
      · rw [downI_none hk hs] at hz; cases hz
theorem way_bd {l : List Nd} (ht : Tall l) (W : Nat → Int) (seed key : Int) (i : Nat) (hi : i < l.length) : ∀ z ∈ wayI l W seed key i, 0 ≤ z ∧ z < l.length := down_bd ht W seed key 4 i hi
/-- The last one of a way. -/
def lastI (r : List Int) : Int := if r = [] then -1 else r.getD (r.length - 1) 0
end Go.Proofs.Ytblbgafadadbmaa
end
section
/- Counts, Domains. -/
set_option linter.unusedVariables false
namespace Go.Proofs.Ytblbgafadadbmaa
open Go.RowKit
set_option maxHeartbeats 8000000
set_option maxRecDepth 100000
theorem node_kind (x : Nd) (w : World) : (Instr.field 64 (.agg #[.string x.name, .int .i64 x.kind, .int .i64 x.above, .int .i64 x.weight, .bool x.six, .int .u64 x.hi, .int .u64 x.lo]) 1).run Try.prog w = .ok (.int .i64 x.kind) w := by kernel_rfl
def domP (l : List Nd) (S : Nat → Bool) (kind : Int) (j : Nat) : Bool := S j && (l.getD j nd0).kind == kind
section
variable {w w0 : World} {g b n gw gs : Nat} {W : Nat → Int} {S : Nat → Bool} {vH : Value} {H : List Int} {l : List Nd}
theorem set_Domains (hT : TR w b l) (h : SetIs w g b l.length gw gs W S vH H) (kind : Int) : Calls Try.prog 25 #[.pointer (some ⟨g, 0, none⟩), .int .i64 kind] w fun e w' => ∃ A c, e = .returned (.slice A (selTo (domP l S kind) l.length).length c) ∧ IsList w' .i64 A (selTo (domP l S kind) l.length).length c (selTo (domP l S kind) l.length) ∧ Below w.heap.size w w' := by
  have hN := set_none h
  have hfew := hT.few
  have hL := tr_Len hT
  obtain ⟨c0, c1, c2, c3, _⟩ := h.blk.cells4
  obtain ⟨iI, hiI, hzI, hzI1, hzI2⟩ := info_parts Try.infoI
  obtain ⟨n, hn⟩ : ∃ n, n = l.length := ⟨_, rfl⟩
  rw [← hn] at h hfew hL
  rw [← hn]
  have HN := Lib.hid hn.symm
  clear hn
  obtain ⟨R, hR⟩ : ∃ R, R = selTo (domP l S kind) n := ⟨_, rfl⟩
  rw [← hR]
  have HR := Lib.hid hR
  clear hR
  go_enter Try.func25, Try.ntmps25
  go_wp2_with fail
  refine hN.mono ?_; rintro e w' ⟨rfl, rfl⟩
  go_wp2_with fail
  refine hL.mono ?_; rintro e w' ⟨rfl, rfl⟩
  clear c0 c1 c2 c3 hL hN
  go_wp2_with fail
  go_loopg [5, 6, 14] n (fun gg s5 s6 s14 wr => ∃ (k : Nat) (out : List Int), k ≤ n ∧ gg = n - k ∧ s14 = .int .i64 k ∧ wr.ownsRow w.heap.size 3 1 s5 out.length (ints out) ∧ Below w.heap.size w wr ∧ Hid (out = selTo (domP l S kind) k))
  case atStart => exact ⟨0, [], Nat.zero_le _, rfl, rfl, World.ownsRow_nil _ _ _ _, Below.refl _ _, Lib.hid rfl⟩
  case round =>
    obtain ⟨k, out, hk, rfl, rfl, hown, hW, HO⟩ := hrel
    have hol : out.length ≤ k := by rw [HO.out]; exact selTo_le _ _
    have hS5 := h.keep hW
    obtain ⟨c0, c1, c2, c3, _⟩ := hS5.blk.cells4
    by_cases hkn : k < n
    · have hki : (k : Int) < (n : Int) := by omega
      have rk := hS5.rS.cell hkn
      have hNd := tr_NodeIn (hT.keep hW) k (by rw [HN.out]; exact hkn)
      have HST := Lib.hid (selTo_step (domP l S kind) k)
      have HD := Lib.hid (show domP l S kind k = (S k && (l.getD k nd0).kind == kind) from rfl)
      generalize S k = s at *
      generalize l.getD k nd0 = x at *
      have hfk := fun w => node_kind x w
      unfold Nd.val at hNd
      obtain ⟨d, hd⟩ : ∃ d, d = domP l S kind k := ⟨_, rfl⟩
      rw [← hd] at HST HD
      clear hd
      cases s with
      | false =>
        have HE := Lib.hid (show out = selTo (domP l S kind) (k + 1) by rw [HST.out, HD.out]; simpa using HO.out)
        clear HO HST HD
        go_wp2
        go_roundg (n - (k + 1))
        case measure => omega
        case rel => exact ⟨k + 1, out, by omega, rfl, by go_num, hown, hW, HE⟩
      | true =>
        go_wp2_with fail
        refine hNd.mono ?_; rintro e w5 ⟨rfl, hx5⟩
        have hW5 := below_step hW hx5
        have hown5 := own_keep hown hx5
        clear hNd hx5 hown hW rk c0 c1 c2 c3 hS5
        by_cases hkd : x.kind = kind
        · have g1 : (x.kind == kind) = true := by rw [beq_iff_eq]; exact hkd
          have HE := Lib.hid (show out ++ [(k : Int)] = selTo (domP l S kind) (k + 1) by rw [HST.out, HD.out, g1, HO.out]; rfl)
          clear HO HST HD hkd
          go_wp2_with (at_builtin; go_loud (refine wpList_append_any _ rfl (.tmp 35) (.tmp 37) _ rfl w.heap.size 3 iI _ 1 8 Try.underlying23 hiI hzI hzI1 hzI2 rfl (by decide) _ out.length (ints out) rfl (hown5.alloc _) _ (some ⟨w5.heap.size, 0, none⟩) 1 1 [.int .i64 k] rfl (one_reads w5 3 1 [.int .i64 k] rfl) (by intro u hu; simp at hu; subst hu; rfl) (by simp only [maxLen]; omega) (by omega) (by have := hW5.size; simp; omega) ?_; intro v6 w6 hown6 hg6 hat6))
          have hW6 := push_below (hW5.alloc hW5.size _) hg6 (own_from hown5)
          go_wp2
          go_roundg (n - (k + 1))
          case measure => omega
          case rel => exact ⟨k + 1, out ++ [(k : Int)], by omega, rfl, by go_num, by simpa [ints] using hown6, hW6, HE⟩
        · have g1 : (x.kind == kind) = false := by rw [beq_eq_false_iff_ne]; exact hkd
          have HE := Lib.hid (show out = selTo (domP l S kind) (k + 1) by rw [HST.out, HD.out, g1]; simpa using HO.out)
          clear HO HST HD hkd
          go_wp2
          go_roundg (n - (k + 1))
          case measure => omega
          case rel => exact ⟨k + 1, out, by omega, rfl, by go_num, hown5, hW5, HE⟩
    · obtain rfl : k = n := by omega
      have HE := Lib.hid (show out = R by rw [HO.out, HR.out])
      obtain ⟨AR, cR, rfl, hIR, _⟩ := own_list hown (fun z hz => by
        rw [HO.out] at hz
        obtain ⟨j, e, hj, _⟩ := selTo_mem.1 hz
        simp [Lit.wf, IntKind.min, IntKind.max, IntKind.signed, IntKind.bits]
        omega) (by omega)
      have hel := HE.out
      subst hel
      go_wp2
      go_ret
      exact ⟨AR, cR, rfl, hIR, hW⟩
end
end Go.Proofs.Ytblbgafadadbmaa
end
section
/- TreeUps. -/
set_option linter.unusedVariables false
namespace Go.Proofs.Ytblbgafadadbmaa
open Go.RowKit
set_option maxHeartbeats 8000000
set_option maxRecDepth 100000
theorem tr_Level' {b : Nat} {l : List Nd} {w : World} (h : TR w b l) (hr : Rises l) (i : Int) : Calls Try.prog 73 #[.pointer (some ⟨b, 0, none⟩), .int .i64 i] w fun e w' => e = .returned (.int .i64 (idxI (up l 1 i) (idx (isK 1) l))) ∧ w = w' := by
  have := tr_Level h hr i
  rwa [level_all] at this
theorem below_le (l : List Nd) (i : Int) (k : Nat) : (belowTo l i k).length ≤ l.length := by
  unfold belowTo
  split
  · simp
  · refine Nat.le_trans (List.length_filter_le _ _) (Nat.le_trans (idx_le _ _) ?_)
    rw [List.length_take]; omega
theorem below_wf (l : List Nd) (i : Int) (hf : l.length ≤ 1024) : ∀ z ∈ belowOf l i, (Lit.int .i64 z).wf = true := by
  intro z hz
  unfold belowOf at hz
  split at hz
  · simp at hz
  · exact idx_wf (isK 4) l hf z (List.mem_filter.1 hz).1
end Go.Proofs.Ytblbgafadadbmaa
end
