/- Lemmas for the claim's proof: StrawA WalkPlain WalkPlain2 EligI TreeM EligJ LoadPlain RatePlain. -/
import Derived.Deep.RegionWith
import Derived.Test.YtblbgafadadbmaaGreatQ03
import Derived.Test.YtblbgafadadbmaaGreatQ08
import Derived.Test.YtblbgafadadbmaaGreatQ11
import Derived.Test.YtblbgafadadbmaaGreatQ12
import Derived.Test.YtblbgafadadbmaaGreatQ13
section
/- How long straws are, by both; which of two is shorter. -/
set_option linter.unusedVariables false
namespace Go.Proofs.YtblbgafadadbmaaGreat
open Go.RowKit
set_option maxHeartbeats 2000000
set_option maxRecDepth 100000
def drwI (key id : Int) : Int := mixOf key [id] / 281474976710656 + 1
/-- How long the straw of a number is, without its weight. -/
def lenI (key id : Int) : Int := ofN (drwI key id)
theorem drw_bd (key id : Int) : 1 ≤ drwI key id ∧ drwI key id ≤ 65536 := by
  have := mixOf_bd key [id]
  unfold drwI
  omega
theorem len_bd (key id : Int) : 0 ≤ lenI key id ∧ lenI key id ≤ 268435456 := by
  have := of_le (drwI key id)
  unfold lenI
  omega
theorem one_list (w : World) (t : TypeId) (id : Int) (i0 : 0 ≤ id) (i1 : id < 18446744073709551616) : IsList (w.alloc (.cells #[.int .u64 id] t)) .u64 (some ⟨w.heap.size, 0, none⟩) 1 1 [id] :=
  have h1 : (w.alloc (.cells #[.int .u64 id] t)).rowIs w.heap.size t 1 (fun _ => .int .u64 id) := ⟨_, Blk.new w t _, rfl, fun i hi => by
    have : i = 0 := by omega
    subst this
    rfl⟩
  row_list h1 [id] rfl (fun i hi => by
    have : i = 0 := by omega
    subst this
    rfl) (fun z hz => by
    have : z = id := by simpa using hz
    subst this
    simp [Lit.wf, IntKind.min, IntKind.max, IntKind.signed, IntKind.bits]; omega) (Nat.le_refl _) (by decide) (by decide)
end Go.Proofs.YtblbgafadadbmaaGreat
end
section
/- The step of a walk, in plain Lean: by the items that are picked from, and as the law looks for it. -/
set_option linter.unusedVariables false
namespace Go.Proofs.YtblbgafadadbmaaGreat
open Go.RowKit
def items (W : Nat → Int) (ks : List Nat) : List (Int × Int) := ks.map fun k : Nat => ((k : Int), W k)
theorem items_len (W : Nat → Int) (ks : List Nat) : (items W ks).length = ks.length := by unfold items; rw [List.length_map]
theorem items_at (W : Nat → Int) (ks : List Nat) {j : Nat} (hj : j < ks.length) : (items W ks).getD j (0, 0) = (((ks.getD j 0 : Nat) : Int), W (ks.getD j 0)) := by
  unfold items
  rw [List.getD_eq_getElem?_getD, List.getD_eq_getElem?_getD, List.getElem?_map, List.getElem?_eq_getElem hj]; rfl
/-- The node that a list of kids and a place stand for. -/
def kidOf (ks : List Nat) (p : Int) : Int := if 0 ≤ p then ((ks.getD p.toNat 0 : Nat) : Int) else -1
def stepL (L : Int → Int) (W : Nat → Int) (ks : List Nat) : Int := kidOf ks (pickTo L (items W ks) ks.length)
def stepI (l : List Nd) (W : Nat → Int) (seed key : Int) (i : Nat) : Int := stepL (lenI (mixOf seed [key, (i : Int)])) W (kidsN l i)
/-- The law's best of the k first nodes. -/
def bestTo (L : Int → Int) (l : List Nd) (W : Nat → Int) (i : Nat) : Nat → Int
  | 0 => -1
  | k + 1 => if (l.getD k nd0).above = (i : Int) ∧ W k ≠ 0 ∧ (bestTo L l W i k < 0 ∨ L (k : Int) * W (bestTo L l W i k).toNat < L (bestTo L l W i k) * W k) then (k : Int) else bestTo L l W i k
def kidsTo (l : List Nd) (i k : Nat) : List Nat := (List.range k).filter fun k => (l.getD k nd0).above == (i : Int)
theorem kidsTo_all (l : List Nd) (i : Nat) : kidsTo l i l.length = kidsN l i := rfl
theorem kidsTo_step (l : List Nd) (i k : Nat) : kidsTo l i (k + 1) = kidsTo l i k ++ if (l.getD k nd0).above = (i : Int) then [k] else [] := by
  unfold kidsTo
  rw [List.range_succ, List.filter_append]
  congr 1
  by_cases h : (l.getD k nd0).above = (i : Int)
  · rw [if_pos h, List.filter_cons, if_pos (by rw [h]; exact beq_self_eq_true _)]; rfl
  · rw [if_neg h, List.filter_cons, if_neg (by rw [beq_iff_eq]; exact h)]; rfl
theorem kidsTo_lt {l : List Nd} {i k j : Nat} (h : j ∈ kidsTo l i k) : j < k := by
  unfold kidsTo at h
  exact List.mem_range.1 (List.mem_filter.1 h).1
theorem pickTo_congr (L : Int → Int) (l m : List (Int × Int)) : ∀ k, (∀ j, j < k → l.getD j (0, 0) = m.getD j (0, 0)) → pickTo L l k = pickTo L m k
  | 0, _ => rfl
  | k + 1, h => by
    have ih := pickTo_congr L l m k (fun j hj => h j (by omega))
    have hb := pick_bd L m k
    unfold pickTo
    rw [ih, h k (by omega)]
    by_cases hp : pickTo L m k < 0
    · simp [hp]
    · rw [h (pickTo L m k).toNat (by omega)]
theorem getD_app {α : Type} (l : List α) (x d : α) {k : Nat} (h : k < l.length) : (l ++ [x]).getD k d = l.getD k d := by
  rw [List.getD_eq_getElem?_getD, List.getD_eq_getElem?_getD, List.getElem?_append_left h]
theorem getD_appLast {α : Type} (l : List α) (x d : α) : (l ++ [x]).getD l.length d = x := by
  rw [List.getD_eq_getElem?_getD, List.getElem?_append_right (Nat.le_refl _)]; simp
theorem getD_mem {α : Type} (l : List α) (d : α) {k : Nat} (h : k < l.length) : l.getD k d ∈ l := by
  rw [List.getD_eq_getElem?_getD, List.getElem?_eq_getElem h]; exact List.getElem_mem h
theorem best_pick (L : Int → Int) (l : List Nd) (W : Nat → Int) (hW : ∀ k, 0 ≤ W k) (i : Nat) : ∀ k, bestTo L l W i k = stepL L W (kidsTo l i k)
  | 0 => rfl
  | k + 1 => by
    have ih := best_pick L l W hW i k
    rw [bestTo, ih, kidsTo_step]
    by_cases ha : (l.getD k nd0).above = (i : Int)
    · rw [if_pos ha]
      obtain ⟨ks, hks⟩ : ∃ ks, ks = kidsTo l i k := ⟨_, rfl⟩
      have hlt : ∀ j ∈ ks, j < k := fun j hj => kidsTo_lt (by rw [← hks]; exact hj)
      rw [← hks]
      clear hks ih
      have hI : items W (ks ++ [k]) = items W ks ++ [((k : Int), W k)] := by unfold items; rw [List.map_append]; rfl
      have hlen : (ks ++ [k]).length = ks.length + 1 := by rw [List.length_append]; rfl
      have hc : pickTo L (items W (ks ++ [k])) ks.length = pickTo L (items W ks) ks.length := pickTo_congr L _ _ _ (fun j hj => by rw [hI]; exact getD_app _ _ _ (by rw [items_len]; exact hj))
      have hx : (items W (ks ++ [k])).getD ks.length (0, 0) = ((k : Int), W k) := by rw [hI, ← items_len W ks]; exact getD_appLast _ _ _
      have hb := pick_bd L (items W ks) ks.length
      have hWk := hW k
      unfold stepL
      rw [hlen]
      obtain ⟨p, hp⟩ : ∃ p, p = pickTo L (items W ks) ks.length := ⟨_, rfl⟩
      rw [← hp] at hc hb ⊢
      have hold : kidOf (ks ++ [k]) p = kidOf ks p := by
        unfold kidOf
        by_cases h0 : 0 ≤ p
        · rw [if_pos h0, if_pos h0, getD_app _ _ _ (by omega)]
        · rw [if_neg h0, if_neg h0]
      have hnew : kidOf (ks ++ [k]) (ks.length : Int) = k := by
        unfold kidOf
        rw [if_pos (by omega), Int.toNat_natCast, getD_appLast]
      by_cases hw : W k = 0
      · rw [if_neg (fun h => h.2.1 hw), pick_no, hc, hold]
        rw [hx]
        exact fun h => by have := h.1; simp at this; omega
      · by_cases hneg : p < 0
        · have hk0 : kidOf ks p = -1 := by unfold kidOf; rw [if_neg (by omega)]
          rw [hk0, if_pos ⟨ha, hw, .inl (by omega)⟩, pick_yes, hnew]
          rw [hx, hc]
          exact ⟨by show 0 < W k; omega, .inl hneg⟩
        · have hm := getD_mem ks 0 (k := p.toNat) (by omega)
          have hbl := hlt _ hm
          have hb1 : kidOf ks p = ((ks.getD p.toNat 0 : Nat) : Int) := by unfold kidOf; rw [if_pos (by omega)]
          have hy : (items W (ks ++ [k])).getD p.toNat (0, 0) = (((ks.getD p.toNat 0 : Nat) : Int), W (ks.getD p.toNat 0)) := by
            rw [hI, getD_app _ _ _ (by rw [items_len]; omega), items_at W ks (by omega)]
          obtain ⟨b, hbb⟩ : ∃ b, b = ks.getD p.toNat 0 := ⟨_, rfl⟩
          rw [← hbb] at hbl hb1 hy
          have hsh : shP L ((k : Int), W k) ((b : Int), W b) = true ↔ L (k : Int) * W b < L (b : Int) * W k := by
            rw [sh_iff]
            constructor
            · rintro (h | h)
              · exact h
              · exact absurd h.2 (by show ¬ ((k : Int) < (b : Int)); omega)
            · exact .inl
          rw [hb1]
          by_cases hs : L (k : Int) * W b < L (b : Int) * W k
          · rw [if_pos ⟨ha, hw, .inr (by rw [Int.toNat_natCast]; exact hs)⟩, pick_yes, hnew]
            rw [hx, hc, hy]
            exact ⟨by show 0 < W k; omega, .inr (hsh.2 hs)⟩
          · rw [if_neg (fun h => h.2.2.elim (fun h2 => by omega) (fun h2 => by rw [Int.toNat_natCast] at h2; exact hs h2)), pick_no, hc, hold, hb1]
            rw [hx, hc, hy]
            exact fun h => h.2.elim hneg (fun h2 => hs (hsh.1 h2))
    · rw [if_neg ha, if_neg (fun h => ha h.1), List.append_nil]
theorem best_step (l : List Nd) (W : Nat → Int) (hW : ∀ k, 0 ≤ W k) (seed key : Int) (i : Nat) : bestTo (lenI (mixOf seed [key, (i : Int)])) l W i l.length = stepI l W seed key i := best_pick _ l W hW i _
theorem stepL_none {L : Int → Int} {W : Nat → Int} {ks : List Nat} (h : ∀ k ∈ ks, W k = 0) : stepL L W ks = -1 := by
  have hp : ∀ n, n ≤ ks.length → pickTo L (items W ks) n = -1 := fun n => by
    induction n with
    | zero => intro _; rfl
    | succ n ih =>
      intro hn
      rw [pick_no, ih (by omega)]
      rw [items_at W ks (by omega)]
      intro h'
      have := h _ (getD_mem ks 0 (k := n) (by omega))
      have := h'.1
      simp only at this
      omega
  unfold stepL kidOf
  rw [hp _ (Nat.le_refl _), if_neg (by omega)]
theorem stepL_mem {L : Int → Int} {W : Nat → Int} {ks : List Nat} (h : 0 ≤ stepL L W ks) : ∃ k ∈ ks, stepL L W ks = (k : Int) ∧ 0 < W k := by
  unfold stepL kidOf at h ⊢
  have hb := pick_bd L (items W ks) ks.length
  by_cases hp : 0 ≤ pickTo L (items W ks) ks.length
  · rw [if_pos hp]
    have hpp := pick_pos L (items W ks) ks.length hp
    rw [items_at W ks (by omega)] at hpp
    exact ⟨_, getD_mem ks 0 (by omega), rfl, hpp⟩
  · rw [if_neg hp] at h; omega
theorem stepL_neg {L : Int → Int} {W : Nat → Int} {ks : List Nat} (h : ¬ 0 ≤ stepL L W ks) : stepL L W ks = -1 := by
  unfold stepL kidOf at h ⊢
  by_cases hp : 0 ≤ pickTo L (items W ks) ks.length
  · rw [if_pos hp] at h; omega
  · rw [if_neg hp]
theorem stepI_in {l : List Nd} {W : Nat → Int} {seed key : Int} {i : Nat} (h : 0 ≤ stepI l W seed key i) : ∃ k : Nat, stepI l W seed key i = k ∧ k < l.length ∧ (l.getD k nd0).above = i ∧ 0 < W k := by
  obtain ⟨k, hk, e, h0⟩ := stepL_mem h
  exact ⟨k, e, (mem_kids.1 hk).1, (mem_kids.1 hk).2, h0⟩
theorem stepI_neg {l : List Nd} {W : Nat → Int} {seed key : Int} {i : Nat} (h : ¬ 0 ≤ stepI l W seed key i) : stepI l W seed key i = -1 := stepL_neg h
end Go.Proofs.YtblbgafadadbmaaGreat
end
section
/- The way down from a node to a host, in plain Lean. -/
set_option linter.unusedVariables false
namespace Go.Proofs.YtblbgafadadbmaaGreat
open Go.RowKit
/-- A way ahead of another one; none, if that is none. -/
def joinW (pre r : List Int) : List Int := if r = [] then [] else pre ++ r
theorem joinW_nil (pre : List Int) : joinW pre [] = [] := rfl
theorem joinW_one (pre : List Int) (x : Int) (r : List Int) : joinW pre (joinW [x] r) = joinW (pre ++ [x]) r := by
  unfold joinW
  by_cases h : r = []
  · simp [h]
  · rw [if_neg h, if_neg h, if_neg (by simp)]; simp
theorem joinW_start (r : List Int) : joinW [] r = r := by
  unfold joinW
  by_cases h : r = []
  · simp [h]
  · rw [if_neg h]; rfl
/-- The way from a node down to a host, by a step; none: there is none. -/
def downS (st : Nat → Int) (l : List Nd) : Nat → Nat → List Int
  | 0, _ => []
  | f + 1, i => if (l.getD i nd0).kind = 4 then [(i : Int)] else if 0 ≤ st i then joinW [(i : Int)] (downS st l f (st i).toNat) else []
def downI (l : List Nd) (W : Nat → Int) (seed key : Int) (f i : Nat) : List Int := downS (stepI l W seed key) l f i
theorem downI_host {l : List Nd} {W : Nat → Int} {seed key : Int} {f i : Nat} (h : (l.getD i nd0).kind = 4) : downI l W seed key (f + 1) i = [(i : Int)] := by
  unfold downI; rw [downS, if_pos h]
theorem downI_none {l : List Nd} {W : Nat → Int} {seed key : Int} {f i : Nat} (h : (l.getD i nd0).kind ≠ 4) (hs : ¬ 0 ≤ stepI l W seed key i) : downI l W seed key (f + 1) i = [] := by
  unfold downI; rw [downS, if_neg h, if_neg hs]
theorem downI_step {l : List Nd} {W : Nat → Int} {seed key : Int} {f i k : Nat} (h : (l.getD i nd0).kind ≠ 4) (hs : stepI l W seed key i = k) : downI l W seed key (f + 1) i = joinW [(i : Int)] (downI l W seed key f k) := by
  unfold downI; rw [downS, if_neg h, if_pos (by omega), hs, Int.toNat_natCast]
/-- A kid's kind is one more. -/
theorem step_kind {l : List Nd} (ht : Tall l) {W : Nat → Int} {seed key : Int} {i k : Nat} (hs : stepI l W seed key i = k) : k < l.length ∧ (l.getD k nd0).kind = (l.getD i nd0).kind + 1 ∧ (l.getD k nd0).above = i ∧ 0 < W k ∧ i < k := by
  obtain ⟨k', e, h1, h2, h3⟩ := stepI_in (show 0 ≤ stepI l W seed key i by omega)
  obtain rfl : k' = k := by omega
  have := kid_kind ht (mem_kids.2 ⟨h1, h2⟩)
  exact ⟨h1, this.2, h2, h3, this.1⟩
theorem downI_len (l : List Nd) (W : Nat → Int) (seed key : Int) : ∀ f i, (downI l W seed key f i).length ≤ f
  | 0, _ => Nat.le_refl _
  | f + 1, i => by
    by_cases hk : (l.getD i nd0).kind = 4
    · rw [downI_host hk]; simp
    · by_cases hs : 0 ≤ stepI l W seed key i
      · obtain ⟨k, e, _⟩ := stepI_in hs
        rw [downI_step hk e]
        have := downI_len l W seed key f k
        unfold joinW
        split
        · simp
        · simp; omega
      · rw [downI_none hk hs]; simp
theorem downI_fuel {l : List Nd} (ht : Tall l) (W : Nat → Int) (seed key : Int) : ∀ (f f' i : Nat), i < l.length → 5 ≤ (l.getD i nd0).kind + f → 5 ≤ (l.getD i nd0).kind + f' → downI l W seed key f i = downI l W seed key f' i
  | 0, _, i, hi, h1, _ => by have := (tall_head ht i hi).kind1; omega
  | _ + 1, 0, i, hi, _, h1 => by have := (tall_head ht i hi).kind1; omega
  | f + 1, f' + 1, i, hi, h1, h2 => by
    by_cases hk : (l.getD i nd0).kind = 4
    · rw [downI_host hk, downI_host hk]
    · by_cases hs : 0 ≤ stepI l W seed key i
      · obtain ⟨k, e, _⟩ := stepI_in hs
        have hk2 := step_kind ht e
        rw [downI_step hk e, downI_step hk e, downI_fuel ht W seed key f f' k hk2.1 (by rw [hk2.2.1]; omega) (by rw [hk2.2.1]; omega)]
      · rw [downI_none hk hs, downI_none hk hs]
/-- The way from any node that may be on one. -/
def wayI (l : List Nd) (W : Nat → Int) (seed key : Int) (i : Nat) : List Int := downI l W seed key 4 i
theorem way_host {l : List Nd} {W : Nat → Int} {seed key : Int} {i : Nat} (h : (l.getD i nd0).kind = 4) : wayI l W seed key i = [(i : Int)] := downI_host h
theorem way_none {l : List Nd} {W : Nat → Int} {seed key : Int} {i : Nat} (h : (l.getD i nd0).kind ≠ 4) (hs : ¬ 0 ≤ stepI l W seed key i) : wayI l W seed key i = [] := downI_none h hs
theorem way_step {l : List Nd} (ht : Tall l) {W : Nat → Int} {seed key : Int} {i k : Nat} (hi : i < l.length) (h : (l.getD i nd0).kind ≠ 4) (hs : stepI l W seed key i = k) : wayI l W seed key i = joinW [(i : Int)] (wayI l W seed key k) := by
  have hk := step_kind ht hs
  have h0 := (tall_head ht i hi).kind0
  unfold wayI
  rw [downI_step h hs, downI_fuel ht W seed key 3 4 k hk.1 (by rw [hk.2.1]; omega) (by rw [hk.2.1]; omega)]
theorem way_len (l : List Nd) (W : Nat → Int) (seed key : Int) (i : Nat) : (wayI l W seed key i).length ≤ 4 := downI_len l W seed key 4 i
/-- All on a way are nodes. -/
theorem down_bd {l : List Nd} (ht : Tall l) (W : Nat → Int) (seed key : Int) : ∀ (f i : Nat), i < l.length → ∀ z ∈ downI l W seed key f i, 0 ≤ z ∧ z < l.length
  | 0, _, _, z, hz => by cases hz
  | f + 1, i, hi, z, hz => by
    by_cases hk : (l.getD i nd0).kind = 4
    · rw [downI_host hk] at hz
      have : z = i := by simpa using hz
      omega
    · by_cases hs : 0 ≤ stepI l W seed key i
      · obtain ⟨k, e, hkl, _⟩ := stepI_in hs
        rw [downI_step hk e] at hz
        unfold joinW at hz
        split at hz
        · cases hz
        · rcases List.mem_append.1 hz with h1 | h1
          · have : z = i := by simpa using h1
            omega
          · exact down_bd ht W seed key f k hkl z h1
      · rw [downI_none hk hs] at hz; cases hz
theorem way_bd {l : List Nd} (ht : Tall l) (W : Nat → Int) (seed key : Int) (i : Nat) (hi : i < l.length) : ∀ z ∈ wayI l W seed key i, 0 ≤ z ∧ z < l.length := down_bd ht W seed key 4 i hi
/-- The last one of a way. -/
def lastI (r : List Int) : Int := if r = [] then -1 else r.getD (r.length - 1) 0
end Go.Proofs.YtblbgafadadbmaaGreat
end
section
/- Counts, Domains. -/
set_option linter.unusedVariables false
namespace Go.Proofs.YtblbgafadadbmaaGreat
open Go.RowKit
set_option maxHeartbeats 8000000
set_option maxRecDepth 100000
theorem node_kind (x : Nd) (w : World) : (Instr.field 60 (.agg #[.string x.name, .int .i64 x.kind, .int .i64 x.above, .int .i64 x.weight, .bool x.six, .int .u64 x.hi, .int .u64 x.lo]) 1).run Tryz.prog w = .ok (.int .i64 x.kind) w := by kernel_rfl
def domP (l : List Nd) (S : Nat → Bool) (kind : Int) (j : Nat) : Bool := S j && (l.getD j nd0).kind == kind
section
variable {w w0 : World} {g b n gw gs : Nat} {W : Nat → Int} {S : Nat → Bool} {vH : Value} {H : List Int} {l : List Nd}
end
end Go.Proofs.YtblbgafadadbmaaGreat
end
section
/- TreeUps. -/
set_option linter.unusedVariables false
namespace Go.Proofs.YtblbgafadadbmaaGreat
open Go.RowKit
set_option maxHeartbeats 8000000
set_option maxRecDepth 100000
theorem tr_Level' {b : Nat} {l : List Nd} {w : World} (h : TR w b l) (hr : Rises l) (i : Int) : Calls Tryz.prog 14 #[.pointer (some ⟨b, 0, none⟩), .int .i64 i] w fun e w' => e = .returned (.int .i64 (idxI (up l 1 i) (idx (isK 1) l))) ∧ w = w' := by
  have := tr_Level h hr i
  rwa [level_all] at this
theorem below_le (l : List Nd) (i : Int) (k : Nat) : (belowTo l i k).length ≤ l.length := by
  unfold belowTo
  split
  · simp
  · refine Nat.le_trans (List.length_filter_le _ _) (Nat.le_trans (idx_le _ _) ?_)
    rw [List.length_take]; omega
theorem below_wf (l : List Nd) (i : Int) (hf : l.length ≤ 1024) : ∀ z ∈ belowOf l i, (Lit.int .i64 z).wf = true := by
  intro z hz
  unfold belowOf at hz
  split at hz
  · simp at hz
  · exact idx_wf (isK 4) l hf z (List.mem_filter.1 hz).1
end Go.Proofs.YtblbgafadadbmaaGreat
end
section
/- Counts. -/
set_option linter.unusedVariables false
namespace Go.Proofs.YtblbgafadadbmaaGreat
open Go.RowKit
set_option maxHeartbeats 8000000
set_option maxRecDepth 100000
/-- How many of the first m hosts lie in the t-th level. -/
def allTo (l : List Nd) (m : Nat) (t : Nat) : Int := (((idx (isK 4) l).take m).countP (fun h => lev l h == (t : Int)) : Nat)
def haveTo (l : List Nd) (S : Nat → Bool) (m : Nat) (t : Nat) : Int := (((idx (isK 4) l).take m).countP (fun h => lev l h == (t : Int) && S h.toNat) : Nat)
theorem take_stepI (xs : List Int) (m : Nat) (hm : m < xs.length) : xs.take (m + 1) = xs.take m ++ [xs.getD m 0] := by
  rw [List.take_succ_eq_append_getElem hm, List.getD_eq_getElem?_getD, List.getElem?_eq_getElem hm]; rfl
theorem allTo_step (l : List Nd) (m : Nat) (hm : m < (idx (isK 4) l).length) (t : Nat) : allTo l (m + 1) t = allTo l m t + if lev l ((idx (isK 4) l).getD m 0) = t then 1 else 0 := by
  unfold allTo
  rw [take_stepI _ m hm, List.countP_append, List.countP_singleton]
  generalize (idx (isK 4) l).getD m 0 = h
  by_cases e : lev l h = t
  · rw [if_pos e, if_pos (by simpa using e)]; omega
  · rw [if_neg e, if_neg (by simpa using e)]; omega
theorem haveTo_step (l : List Nd) (S : Nat → Bool) (m : Nat) (hm : m < (idx (isK 4) l).length) (t : Nat) : haveTo l S (m + 1) t = haveTo l S m t + if lev l ((idx (isK 4) l).getD m 0) = t ∧ S ((idx (isK 4) l).getD m 0).toNat = true then 1 else 0 := by
  unfold haveTo
  rw [take_stepI _ m hm, List.countP_append, List.countP_singleton]
  generalize (idx (isK 4) l).getD m 0 = h
  by_cases e : lev l h = t ∧ S h.toNat = true
  · rw [if_pos e, if_pos (by simp [e.1, e.2])]; omega
  · rw [if_neg e, if_neg (by simpa using e)]; omega
theorem allTo_bd (l : List Nd) (m t : Nat) : 0 ≤ allTo l m t ∧ allTo l m t ≤ m := by
  unfold allTo
  have := List.countP_le_length (p := fun h => lev l h == (t : Int)) (l := (idx (isK 4) l).take m)
  rw [List.length_take] at this
  omega
theorem haveTo_bd (l : List Nd) (S : Nat → Bool) (m t : Nat) : 0 ≤ haveTo l S m t ∧ haveTo l S m t ≤ m := by
  unfold haveTo
  have := List.countP_le_length (p := fun h => lev l h == (t : Int) && S h.toNat) (l := (idx (isK 4) l).take m)
  rw [List.length_take] at this
  omega
section
variable {w w0 : World} {g b n gw gs : Nat} {W : Nat → Int} {S : Nat → Bool} {vH : Value} {H : List Int} {l : List Nd}
theorem set_Counts (hT : TR w b l) (ht : Tall l) (h : SetIs w g b l.length gw gs W S vH H) : Calls Tryz.prog 53 #[.pointer (some ⟨g, 0, none⟩)] w fun e w' => ∃ gh ga, e = .returned (.tuple #[.slice (some ⟨gh, 0, none⟩) (idx (isK 1) l).length (idx (isK 1) l).length, .slice (some ⟨ga, 0, none⟩) (idx (isK 1) l).length (idx (isK 1) l).length]) ∧
    w'.rowIs gh 3 (idx (isK 1) l).length (fun t => .int .i64 (haveTo l S (idx (isK 4) l).length t)) ∧ w'.rowIs ga 3 (idx (isK 1) l).length (fun t => .int .i64 (allTo l (idx (isK 4) l).length t)) ∧ Below w.heap.size w w' := by
  have hN := set_none h
  have hfew := hT.few
  have hq1 := idx_le (isK 1) l
  obtain ⟨q, hq⟩ : ∃ q, q = (idx (isK 1) l).length := ⟨_, rfl⟩
  have hLv : ∀ w', Below w.heap.size w w' → Calls Tryz.prog 25 #[.pointer (some ⟨b, 0, none⟩)] w' fun e w'' => ∃ A c, e = .returned (.slice A (q : Nat) c) ∧ Below w.heap.size w w'' ∧ Below w'.heap.size w' w'' := fun w' hx => (tr_Levels (hT.keep hx)).mono (by
    rintro e w'' ⟨A, c, rfl, _, _, hx2⟩
    rw [hq]
    exact ⟨A, c, rfl, below_step hx hx2, hx2⟩)
  rw [← hq] at hq1
  rw [← hq]
  have HQ := Lib.hid hq.symm
  clear hq
  have hmk := run_make_row' (P := Tryz.prog) 23 3 (.int .i64 0) 8 Tryz.underlying23 Tryz.infoI64 rfl .i64 .i64 q (by omega) (by omega)
  obtain ⟨c0, c1, c2, c3, _⟩ := h.blk.cells4
  have U0 : ∀ w', Below w.heap.size w w' → w'.cell? ⟨g, 0, none⟩ = some (.pointer (some ⟨b, 0, none⟩)) := fun w' hx => cell_keep c0 hx
  go_enter Tryz.func53, Tryz.ntmps53
  go_wp2_with fail
  refine hN.mono ?_; rintro e w' ⟨rfl, rfl⟩
  go_upto_region 3 with (fail)
  go_cut [4, 5] (fun s4 s5 wx => ∃ gh ga, s4 = .slice (some ⟨gh, 0, none⟩) q q ∧ s5 = .slice (some ⟨ga, 0, none⟩) q q ∧ gh ≠ ga ∧ w.heap.size ≤ gh ∧ w.heap.size ≤ ga ∧ wx.rowIs gh 3 q (fun _ => .int .i64 0) ∧ wx.rowIs ga 3 q (fun _ => .int .i64 0) ∧ Below w.heap.size w wx)
  case first =>
    clear c1 c2 c3 hN
    have hd : Below w.heap.size w w.drew := Below.drew (Below.refl _ _)
    go_region_with (first
      | (go_at_call 25; refine (hLv _ ?hbl).mono ?_; (case hbl => first | exact hd | exact h2 | exact h2.alloc h2.size _ | exact h1 | exact h1.alloc h1.size _); rintro e w2 ⟨A2, c2', rfl, h3, hk⟩; (first | (have h2 := h1; have h1 := h3) | have h1 := h3); have c0' := U0 _ h1; have c0a := fun o => cell_alloc c0' o))
    all_goals
      go_wp2_with fail
      go_meet
      refine ⟨_, _, rfl, rfl, ?_, ?_, ?_, ?_, ?_, ?_⟩
    all_goals first
      | exact row_made' _ _ _ _ rfl
      | (refine row_made' _ _ _ _ ?_; simp; done)
      | exact (row_made' _ _ _ _ rfl).alloc _
      | exact (row_keep (row_made' _ _ _ _ rfl) hk).alloc _
      | exact h1.size
      | exact h2.size
      | exact h1.alloc h1.size _
      | exact (h1.alloc h1.size _).alloc (h1.alloc h1.size _).size _
      | (have := hk.size; simp at this; omega)
      | (have := h1.size; simp; omega)
      | (simp; done)
  case rest =>
    obtain ⟨gh, ga, rfl, rfl, hne, hgh, hga, hRh, hRa, hb⟩ := hcut
    obtain ⟨w1, rfl⟩ : ∃ w1, w1 = wc := ⟨_, rfl⟩
    have hS1 := h.keep hb
    obtain ⟨d0, d1, d2, d3, _⟩ := hS1.blk.cells4
    clear hLv hmk U0 c0 c1 c2 c3 hN
    go_wp2_with fail
    refine (tr_Hosts (hT.keep hb)).mono ?_; rintro e w3 ⟨A3, c3, rfl, hI3, hfr3, hx3⟩
    have hRh3 := row_keep hRh hx3
    have hRa3 := row_keep hRa hx3
    have hb3 := below_step hb hx3
    have hlt1 := hRh.lt
    have hlt2 := hRa.lt
    have hcap := hI3.cap
    have hsm := hI3.small
    have hle := idx_le (isK 4) l
    have hA3 : 0 < (idx (isK 4) l).length → ∀ ad, A3 = some ad → ¬ (ad.block = gh ∨ ad.block = ga) := fun h0 ad e => by
      have h1 := hfr3 ad e
      omega
    clear hRh hRa hx3 hS1 d0 d1 d2 d3 hfr3 hlt1 hlt2
    obtain ⟨nh, hnh⟩ : ∃ nh, nh = (idx (isK 4) l).length := ⟨_, rfl⟩
    rw [← hnh] at hI3 hcap hle hA3
    rw [← hnh]
    have HNH := Lib.hid hnh.symm
    clear hnh
    have hr := tall_rises ht
    have hR0 := hRh3.congr (g := fun t => .int .i64 (haveTo l S 0 t)) (fun t _ => rfl)
    have hR0' := hRa3.congr (g := fun t => .int .i64 (allTo l 0 t)) (fun t _ => rfl)
    clear hRh3 hRa3
    go_wp2_with fail
    go_loopg [7, 8, 31] nh (fun gk s7 s8 s31 wr => ∃ m : Nat, m ≤ nh ∧ gk = nh - m ∧ s31 = .int .i64 m ∧ wr.rowIs gh 3 q (fun t => .int .i64 (haveTo l S m t)) ∧ wr.rowIs ga 3 q (fun t => .int .i64 (allTo l m t)) ∧ Mod (fun k => k = gh ∨ k = ga) w3 wr)
    case atStart => exact ⟨0, Nat.zero_le _, rfl, rfl, hR0, hR0', Mod.refl _ _⟩
    case round =>
      clear hR0 hR0'
      obtain ⟨m, hm, rfl, rfl, hRh, hRa, hM⟩ := hrel
      have hb4 := below_thenMod hb3 (Nat.le_refl _) hM (fun k hk => by rcases hk with e | e <;> rw [e] <;> assumption)
      by_cases hlt : m < nh
      · obtain ⟨ad, rfl, _, x0, _⟩ := (list_mod hI3 hM hA3).get hlt
        have hmi : (m : Int) < (nh : Int) := by omega
        have hmk : m < (idx (isK 4) l).length := by rw [HNH.out]; exact hlt
        have HAL := Lib.hid (allTo_step l m hmk)
        have HHV := Lib.hid (haveTo_step l S m hmk)
        have hin : (idx (isK 4) l).getD m 0 ∈ idx (isK 4) l := by rw [List.getD_eq_getElem?_getD, List.getElem?_eq_getElem hmk]; exact List.getElem_mem hmk
        obtain ⟨hh, hhe, hhl, hh4⟩ := mem_idx.1 hin
        rw [hhe] at x0 HAL HHV
        rw [Int.toNat_natCast] at HHV
        clear hin hmk hhe hh4
        obtain ⟨i, _, _, _, hlev, hlq⟩ := lev_host ht hhl
        obtain ⟨t, hte⟩ : ∃ t : Nat, lev l hh = t := ⟨_, hlev⟩
        have htq : t < q := by rw [hlev] at hte; rw [← HQ.out]; omega
        rw [hte] at HAL HHV
        clear hlev hlq
        have hLv := tr_Level' (hT.keep hb4) hr (hh : Int)
        have hlv : idxI (up l 1 hh) (idx (isK 1) l) = t := hte
        rw [hlv] at hLv
        clear hlv hte
        have hS4 := h.keep hb4
        obtain ⟨d0, d1, d2, d3, _⟩ := hS4.blk.cells4
        have rs := hS4.rS.cell hhl
        have ra := hRa.cell htq
        have fa := hRa.frozen t
        have hbd1 := allTo_bd l m t
        have hbd2 := haveTo_bd l S m t
        have kq1 : IntKind.i64.wrap (allTo l m t + 1) = allTo l m t + 1 := IntWalk.i64_in _ (by omega)
        have kq2 : IntKind.i64.wrap (haveTo l S m t + 1) = haveTo l S m t + 1 := IntWalk.i64_in _ (by omega)
        have htqi : (t : Int) < (q : Int) := by omega
        have hhli : (hh : Int) < (l.length : Int) := by omega
        have hRa2 := (hRa.set t (.int .i64 (allTo l m t + 1))).congr (g := fun t => .int .i64 (allTo l (m + 1) t)) (fun j _ => by
          rw [HAL.out]
          by_cases e : j = t
          · rw [if_pos e, if_pos (by omega), e]
          · rw [if_neg e, if_neg (by omega)]; simp)
        have hRh2 := hRh.of_block (Below.heap_setCell wr ⟨ga, t, none⟩ (.int .i64 (allTo l m t + 1)) gh hne)
        have hM2 := hM.own' (.inr rfl) t (.int .i64 (allTo l m t + 1))
        have hS5 := hS4.rS.of_block (Below.heap_setCell wr ⟨ga, t, none⟩ (.int .i64 (allTo l m t + 1)) gs (row_type2 hS4.rS hRa (by decide)))
        have d2' := (World.cell?_of_block (w := wr) (Below.heap_setCell wr ⟨ga, t, none⟩ (.int .i64 (allTo l m t + 1)) g (row_type hRa hS4.blk (by decide)).symm)).trans d2
        have rs' := hS5.cell hhl
        have rh' := hRh2.cell htq
        have fh' := hRh2.frozen t
        have hRh3 := hRh2.set t (.int .i64 (haveTo l S m t + 1))
        have hRa3 := hRa2.of_block (Below.heap_setCell _ ⟨gh, t, none⟩ (.int .i64 (haveTo l S m t + 1)) ga (Ne.symm hne))
        have hM3 := hM2.own' (.inl rfl) t (.int .i64 (haveTo l S m t + 1))
        obtain ⟨s, hs⟩ : ∃ s, s = S hh := ⟨_, rfl⟩
        rw [← hs] at rs rs' HHV
        clear hs
        clear hS4 hS5 hRa hRh hM hb4 hbd1 hbd2
        have hRh4 := Lib.hid (fun (e : s = true) => hRh3.congr (g := fun t => .int .i64 (haveTo l S (m + 1) t)) (fun j _ => by
          rw [HHV.out, e]
          by_cases e2 : j = t
          · rw [if_pos e2, if_pos ⟨by omega, rfl⟩, e2]
          · rw [if_neg e2, if_neg (by rintro ⟨h1, _⟩; omega)]; simp))
        have hRh5 := Lib.hid (fun (e : s = false) => hRh2.congr (g := fun t => .int .i64 (haveTo l S (m + 1) t)) (fun j _ => by
          rw [HHV.out, e]
          rw [if_neg (by rintro ⟨_, h1⟩; cases h1)]; simp))
        generalize allTo l m t = al at *
        generalize haveTo l S m t = hv at *
        clear hRh3 HAL HHV
        cases s with
        | true =>
          have hR4 := hRh4.out rfl
          clear hRh4 hRh5
          go_wp2_with fail
          refine hLv.mono ?_; rintro e w' ⟨rfl, rfl⟩
          go_wp2
          go_roundg (nh - (m + 1))
          case measure => omega
          case rel => exact ⟨m + 1, by omega, rfl, by go_num, hR4, hRa3, hM3⟩
        | false =>
          have hR4 := hRh5.out rfl
          clear hRh4 hRh5
          go_wp2_with fail
          refine hLv.mono ?_; rintro e w' ⟨rfl, rfl⟩
          go_wp2
          go_roundg (nh - (m + 1))
          case measure => omega
          case rel => exact ⟨m + 1, by omega, rfl, by go_num, hR4, hRa2, hM2⟩
      · obtain rfl : m = nh := by omega
        go_wp2
        go_ret2
        exact ⟨gh, ga, rfl, by rw [HNH.out]; exact hRh, by rw [HNH.out]; exact hRa, hb4⟩
end
end Go.Proofs.YtblbgafadadbmaaGreat
end
section
/- How much goes to each level: the plain arithmetic. -/
set_option linter.unusedVariables false
namespace Go.Proofs.YtblbgafadadbmaaGreat
/-- A level's health. -/
def hI (h a f : Int) : Int := if h < 1 ∨ a < 1 ∨ f < 1 then 0 else if 10000 < f * 100 * h / a then 10000 else f * 100 * h / a
theorem hI_bd (h a f : Int) : 0 ≤ hI h a f ∧ hI h a f ≤ 10000 := by
  unfold hI
  split
  · omega
  · split
    · omega
    · rename_i h1 h2
      have h3 : 0 ≤ f * 100 * h := Int.mul_nonneg (by omega) (by omega)
      have := Int.ediv_nonneg h3 (show 0 ≤ a by omega)
      omega
theorem hI_zero (a f : Int) : hI 0 a f = 0 := by unfold hI; rw [if_pos (.inl (by decide))]
theorem hI_full {h a f : Int} (h1 : 1 ≤ h) (a1 : 1 ≤ a) (hf : 100 * a ≤ f * h) (f1 : 1 ≤ f) : hI h a f = 10000 := by
  unfold hI
  rw [if_neg (by omega)]
  have e : f * 100 * h = 100 * (f * h) := by rw [Int.mul_comm f 100, Int.mul_assoc]
  have : 10000 ≤ f * 100 * h / a := by
    rw [Int.le_ediv_iff_mul_le (by omega), e]
    omega
  split <;> omega
/-- The document's loop: one more fits as long as .. -/
theorem hI_next {h a f n : Int} (h1 : 1 ≤ h) (a1 : 1 ≤ a) (f1 : 1 ≤ f) (hn : n < 10000) : (n + 1) * a ≤ f * 100 * h ↔ n < hI h a f := by
  have e : n + 1 ≤ f * 100 * h / a ↔ (n + 1) * a ≤ f * 100 * h := Int.le_ediv_iff_mul_le (by omega)
  unfold hI
  rw [if_neg (by omega)]
  split <;> omega
/-- The sum of the first k healths. -/
def hSum (H : Nat → Int) : Nat → Int
  | 0 => 0
  | k + 1 => hSum H k + H k
theorem hSum_bd (H : Nat → Int) (h : ∀ k, 0 ≤ H k ∧ H k ≤ 10000) : ∀ k, 0 ≤ hSum H k ∧ hSum H k ≤ 10000 * k
  | 0 => by simp [hSum]
  | k + 1 => by
    have := hSum_bd H h k
    have := h k
    rw [hSum]
    omega
/-- What is left behind the first k, and what the k-th gets. -/
def part (H : Nat → Int) (t : Int) (left : Int) (k : Nat) : Int := if 0 < t then (if left < H k * 10000 / t then left else H k * 10000 / t) else 0
def leftTo (H : Nat → Int) (t : Int) : Nat → Int
  | 0 => 10000
  | k + 1 => leftTo H t k - part H t (leftTo H t k) k
def got (H : Nat → Int) (t : Int) (k : Nat) : Int := part H t (leftTo H t k) k
section
variable {H : Nat → Int} (hH : ∀ k, 0 ≤ H k ∧ H k ≤ 10000) {t : Int} (ht : 0 ≤ t)
include hH ht
theorem part_bd (left : Int) (k : Nat) (h0 : 0 ≤ left) : 0 ≤ part H t left k ∧ part H t left k ≤ left := by
  unfold part
  split
  · have := (hH k).1
    have : 0 ≤ H k * 10000 / t := Int.ediv_nonneg (by omega) ht
    split <;> omega
  · omega
theorem left_bd : ∀ k, 0 ≤ leftTo H t k ∧ leftTo H t k ≤ 10000
  | 0 => by simp [leftTo]
  | k + 1 => by
    have h := left_bd k
    have := part_bd hH ht (leftTo H t k) k h.1
    rw [leftTo]
    omega
theorem got_bd (k : Nat) : 0 ≤ got H t k ∧ got H t k ≤ 10000 := by
  have h := left_bd hH ht k
  have := part_bd hH ht (leftTo H t k) k h.1
  unfold got
  omega
theorem got_zero {k : Nat} (h : H k = 0) : got H t k = 0 := by
  have hb := left_bd hH ht k
  unfold got part
  rw [h]
  split
  · rename_i h0
    rw [Int.zero_mul, Int.zero_ediv, if_neg (by omega)]
  · rfl
end
/-- With all of it told, what is left is what is not told. -/
theorem left_full {H : Nat → Int} (hH : ∀ k, 0 ≤ H k ∧ H k ≤ 10000) : ∀ k, leftTo H 10000 k = if 10000 < hSum H k then 0 else 10000 - hSum H k
  | 0 => by simp [leftTo, hSum]
  | k + 1 => by
    have h := left_full hH k
    have hk := hH k
    have e : H k * 10000 / 10000 = H k := Int.mul_ediv_cancel _ (by decide)
    rw [leftTo, part, if_pos (by decide), e, hSum, h]
    (repeat' split) <;> omega
theorem left_spent {H : Nat → Int} (hH : ∀ k, 0 ≤ H k ∧ H k ≤ 10000) {k : Nat} (h : 10000 ≤ hSum H k) : leftTo H 10000 k = 0 := by
  rw [left_full hH]
  split <;> omega
theorem left_none (H : Nat → Int) : ∀ k, leftTo H 0 k = 10000
  | 0 => rfl
  | k + 1 => by rw [leftTo, left_none H k]; rfl
theorem hSum_mono {H : Nat → Int} (hH : ∀ k, 0 ≤ H k ∧ H k ≤ 10000) {i n : Nat} (h : i ≤ n) : hSum H i ≤ hSum H n := by
  induction n with
  | zero => obtain rfl : i = 0 := (by omega); exact Int.le_refl _
  | succ n ih =>
    by_cases e : i = n + 1
    · subst e; exact Int.le_refl _
    · have := ih (by omega)
      have := (hH n).1
      rw [hSum]
      omega
/-- Nothing behind levels that are well enough. -/
theorem got_behind {H : Nat → Int} (hH : ∀ k, 0 ≤ H k ∧ H k ≤ 10000) {t : Int} {n i : Nat} (ht : t = if 10000 < hSum H n then 10000 else hSum H n) (hi : i ≤ n) (ha : 10000 ≤ hSum H i) : t = 10000 ∧ leftTo H t i = 0 ∧ got H t i = 0 := by
  have hm := hSum_mono hH hi
  have h1 : t = 10000 := by rw [ht]; split <;> omega
  have h2 : leftTo H t i = 0 := by rw [h1]; exact left_spent hH ha
  refine ⟨h1, h2, ?_⟩
  have := got_bd hH (show 0 ≤ t by omega) i
  have hp := part_bd hH (show 0 ≤ t by omega) (leftTo H t i) i (by omega)
  unfold got
  omega
end Go.Proofs.YtblbgafadadbmaaGreat
end
section
/- Buckets that fill up again: the plain arithmetic. -/
set_option linter.unusedVariables false
namespace Go.Proofs.YtblbgafadadbmaaGreat
/-- A bucket that may be: e in a unit, m at most, h in it, at the time n. -/
structure RB (e m h n : Int) : Prop where
  e0 : 0 ≤ e
  e1 : e ≤ 1099511627776
  m0 : 1 ≤ m
  m1 : m ≤ 1099511627776
  h0 : 0 ≤ h
  h1 : h ≤ m
  n0 : 0 ≤ n
  n1 : n ≤ 1099511627776
/-- What is in it when d units have gone by. -/
def rGo (e m h d : Int) : Int := if m - h < d * e then m else h + d * e
theorem mul_bd {a b A B : Int} (a0 : 0 ≤ a) (a1 : a ≤ A) (b0 : 0 ≤ b) (b1 : b ≤ B) : 0 ≤ a * b ∧ a * b ≤ A * B := by
  refine ⟨Int.mul_nonneg a0 b0, ?_⟩
  have h1 : a * b ≤ A * b := Int.mul_le_mul_of_nonneg_right a1 b0
  have h2 : A * b ≤ A * B := Int.mul_le_mul_of_nonneg_left b1 (by omega)
  omega
theorem rGo_bd {e m h n d : Int} (r : RB e m h n) (d0 : 0 ≤ d) : h ≤ rGo e m h d ∧ rGo e m h d ≤ m ∧ rGo e m h d ≤ h + d * e := by
  obtain ⟨e0, e1, m0, m1, h0, h1, n0, n1⟩ := r
  have := Int.mul_nonneg d0 e0
  unfold rGo
  split <;> omega
theorem rGo_ok {e m h n t : Int} (r : RB e m h n) (ht : n ≤ t) (ht1 : t ≤ 1099511627776) : RB e m (rGo e m h (t - n)) t := by
  have := rGo_bd r (d := t - n) (by omega)
  obtain ⟨e0, e1, m0, m1, h0, h1, n0, n1⟩ := r
  exact ⟨e0, e1, m0, m1, by omega, by omega, by omega, ht1⟩
theorem rTake_ok {e m h n k : Int} (r : RB e m h n) (k0 : 0 ≤ k) (k1 : k ≤ h) : RB e m (h - k) n := by
  obtain ⟨e0, e1, m0, m1, h0, h1, n0, n1⟩ := r
  exact ⟨e0, e1, m0, m1, by omega, by omega, n0, n1⟩
theorem rGo_zero {e m h n : Int} (r : RB e m h n) : rGo e m h 0 = h := by
  obtain ⟨e0, e1, m0, m1, h0, h1, n0, n1⟩ := r
  unfold rGo
  rw [Int.zero_mul, if_neg (by omega)]; omega
theorem rGo_none {m h n d : Int} (r : RB 0 m h n) : rGo 0 m h d = h := by
  obtain ⟨e0, e1, m0, m1, h0, h1, n0, n1⟩ := r
  unfold rGo
  rw [Int.mul_zero, if_neg (by omega)]; omega
/-- The document's test, by a quotient. -/
theorem room_iff {e r d : Int} (he : 0 < e) : r / e < d ↔ r < d * e := Int.ediv_lt_iff_lt_mul he
def rWait (e m h n k : Int) : Int :=
  if k < 0 ∨ m < k then -1 else if k ≤ h then n else if e = 0 then -1 else if 1099511627776 < n + (k - h - 1) / e + 1 then -1 else n + (k - h - 1) / e + 1
theorem div_bd {a e : Int} (a0 : 0 ≤ a) (he : 1 ≤ e) : 0 ≤ a / e ∧ a / e ≤ a := ⟨Int.ediv_nonneg a0 (by omega), Int.ediv_le_self e a0⟩
theorem div_mul {a e : Int} (he : 1 ≤ e) : a / e * e ≤ a ∧ a < (a / e + 1) * e := by
  have h1 := Int.ediv_mul_le a (b := e) (by omega)
  have h2 := Int.lt_ediv_add_one_mul_self a (b := e) (by omega)
  exact ⟨h1, h2⟩
/-- Never: it has not so many now, and not at the last time. -/
theorem rWait_never {e m h n k : Int} (r : RB e m h n) (k0 : 0 ≤ k) (k1 : k ≤ m) (hw : rWait e m h n k < 0) : h < k ∧ rGo e m h (1099511627776 - n) < k := by
  obtain ⟨e0, e1, m0, m1, h0, h1, n0, n1⟩ := r
  unfold rWait at hw
  rw [if_neg (by omega)] at hw
  split at hw
  · omega
  · rename_i hk
    split at hw
    · rename_i he
      subst he
      exact ⟨by omega, by rw [rGo_none ⟨e0, e1, m0, m1, h0, h1, n0, n1⟩]; omega⟩
    · rename_i he
      have hd := div_bd (a := k - h - 1) (e := e) (by omega) (by omega)
      split at hw
      · rename_i hb
        have hm := div_mul (a := k - h - 1) (e := e) (by omega)
        have h2 : (1099511627776 - n) * e ≤ (k - h - 1) / e * e := Int.mul_le_mul_of_nonneg_right (by omega) e0
        refine ⟨by omega, ?_⟩
        unfold rGo
        rw [if_neg (by omega)]
        omega
      · omega
/-- At once. -/
theorem rWait_now {e m h n k : Int} (r : RB e m h n) (k0 : 0 ≤ k) (k1 : k ≤ m) (hk : k ≤ h) : rWait e m h n k = n := by
  unfold rWait
  rw [if_neg (by omega), if_pos hk]
/-- Later: q units and one more. -/
theorem rWait_later {e m h n k : Int} (r : RB e m h n) (k0 : 0 ≤ k) (k1 : k ≤ m) (hw : 0 ≤ rWait e m h n k) (hk : h < k) :
    n < rWait e m h n k ∧ rWait e m h n k ≤ 1099511627776 ∧ rGo e m h (rWait e m h n k - 1 - n) < k ∧ k ≤ rGo e m (rGo e m h (rWait e m h n k - 1 - n)) (rWait e m h n k - (rWait e m h n k - 1)) := by
  obtain ⟨e0, e1, m0, m1, h0, h1, n0, n1⟩ := r
  have hx : rWait e m h n k = n + (k - h - 1) / e + 1 ∧ e ≠ 0 ∧ n + (k - h - 1) / e + 1 ≤ 1099511627776 := by
    unfold rWait at hw ⊢
    rw [if_neg (by omega), if_neg (by omega)] at hw ⊢
    split at hw
    · omega
    · rename_i he
      rw [if_neg he]
      split at hw
      · omega
      · rename_i hb
        rw [if_neg hb]
        exact ⟨rfl, he, by omega⟩
  obtain ⟨hx, he, hb⟩ := hx
  have hd := div_bd (a := k - h - 1) (e := e) (by omega) (by omega)
  have hm := div_mul (a := k - h - 1) (e := e) (by omega)
  rw [hx]
  have e1' : n + (k - h - 1) / e + 1 - 1 - n = (k - h - 1) / e := by omega
  have e2' : n + (k - h - 1) / e + 1 - (n + (k - h - 1) / e + 1 - 1) = 1 := by omega
  rw [e1', e2']
  have hq := Int.mul_nonneg hd.1 e0
  have hs : ((k - h - 1) / e + 1) * e = (k - h - 1) / e * e + e := by rw [Int.add_mul, Int.one_mul]
  have g : rGo e m h ((k - h - 1) / e) = h + (k - h - 1) / e * e := by
    unfold rGo
    rw [if_neg (by omega)]
  refine ⟨by omega, hb, by rw [g]; omega, ?_⟩
  rw [g]
  unfold rGo
  rw [Int.one_mul]
  split <;> omega
end Go.Proofs.YtblbgafadadbmaaGreat
end
