/- Lemmas for the claim's proof: WalkPlain6 WalkPlain7 WalkPlain8 WalkPlain9 WalkPlain10. -/
import Derived.Test.YtblbgafadadbmaaQ26
section
/- Which host is picked: if one can be, one is; and it lies below the level that was drawn, in plain Lean. -/
set_option linter.unusedVariables false
namespace Go.Proofs.Ytblbgafadadbmaa
open Go.RowKit
theorem levels_four {l : List Nd} (ht : Tall l) : ∀ k, k ≤ l.length → (l.take k).countP (isK 1) ≤ 4
  | 0, _ => by simp
  | k + 1, hk => by
    have ih := levels_four ht k (by omega)
    rw [take_snocN l k (by omega), List.countP_append, List.countP_singleton]
    by_cases h : isK 1 (l.getD k nd0) = true
    · rw [if_pos h]
      have hf := (whyC_ok (ht k (by omega))).2.2
      unfold full ofKind at hf
      unfold isK at h ih ⊢
      rw [h] at hf
      simp only [Bool.or_eq_false_iff, Bool.true_and, decide_eq_false_iff_not] at hf
      have := hf.1.2
      omega
    · rw [if_neg h]; omega
theorem lv_four {l : List Nd} (ht : Tall l) : lvN l ≤ 4 := by
  have := levels_four ht l.length (Nat.le_refl _)
  rw [List.take_length] at this
  unfold lvN
  rw [idx_count]
  exact this
theorem rowsTo_of {H A : List Int} : ∀ n, (∀ k, k < n → 0 ≤ H.getD k 0 ∧ H.getD k 0 ≤ A.getD k 0 ∧ A.getD k 0 ≤ 1048576) → rowsTo H A n = true
  | 0, _ => rfl
  | n + 1, h => by
    rw [rowsTo, rowsTo_of n (fun k hk => h k (by omega)), Bool.true_and]
    exact decide_eq_true (h n (by omega))
theorem haveL_at (l : List Nd) (S : Nat → Bool) {t : Nat} (h : t < lvN l) : (haveL l S).getD t 0 = haveTo l S (hoN l) t := rangeMap_at _ h
theorem allL_at (l : List Nd) {t : Nat} (h : t < lvN l) : (allL l).getD t 0 = allTo l (hoN l) t := rangeMap_at _ h
theorem have_le_all (l : List Nd) (S : Nat → Bool) (m t : Nat) : haveTo l S m t ≤ allTo l m t := by
  unfold haveTo allTo
  have := List.countP_mono_left (l := (idx (isK 4) l).take m) (p := fun h => lev l h == (t : Int) && S h.toNat) (q := fun h => lev l h == (t : Int)) (fun x _ h => by rw [Bool.and_eq_true] at h; exact h.1)
  omega
theorem loads_right {l : List Nd} (ht : Tall l) (S : Nat → Bool) (hl : l.length ≤ 1024) (frm : Int) {f : Int} (f0 : 100 ≤ f) (f1 : f ≤ 1000) : lRight (rot (haveL l S) frm) (rot (allL l) frm) f = true := by
  have h1 : (rot (haveL l S) frm).length = lvN l := by rw [rot_len]; exact rangeMap_len _ _
  have h2 : (rot (allL l) frm).length = lvN l := by rw [rot_len]; exact rangeMap_len _ _
  have h4 := lv_four ht
  rw [lRight_of ⟨by omega, by omega, f0, f1⟩, h1]
  refine rowsTo_of _ (fun k hk => ?_)
  have e1 := rot_at (l := haveL l S) (f := frm) (i := k) (by unfold haveL; rw [rangeMap_len]; exact hk)
  have e2 := rot_at (l := allL l) (f := frm) (i := k) (by unfold allL; rw [rangeMap_len]; exact hk)
  have l1 : (haveL l S).length = lvN l := rangeMap_len _ _
  have l2 : (allL l).length = lvN l := rangeMap_len _ _
  rw [l1] at e1
  rw [l2] at e2
  have ht' := turnAt_lt (f := frm) hk
  rw [e1, e2, haveL_at l S ht', allL_at l ht']
  have b1 := haveTo_bd l S (hoN l) (turnAt (lvN l) frm k)
  have b2 := allTo_bd l (hoN l) (turnAt (lvN l) frm k)
  have b3 := have_le_all l S (hoN l) (turnAt (lvN l) frm k)
  have b4 := idx_le (isK 4) l
  unfold hoN at *
  omega
/-- The sum of loads that are none below 0. -/
theorem pre_sum (F : Nat → Int) (hF : ∀ k, 0 ≤ F k) (n : Nat) : ∀ k, k ≤ n → pre ((List.range n).map F) k = sumL F k
  | 0, _ => rfl
  | k + 1, hk => by
    have h := hF k
    rw [pre, pre_sum F hF n k (by omega), rangeMap_at F (by omega), sumL]
    unfold pos
    rw [if_neg (by omega)]
theorem have_pos {l : List Nd} {S : Nat → Bool} {t : Nat} : 0 < haveTo l S (hoN l) t ↔ ∃ h : Nat, h < l.length ∧ (l.getD h nd0).kind = 4 ∧ lev l h = t ∧ S h = true := by
  unfold haveTo hoN
  rw [List.take_length]
  constructor
  · intro h
    obtain ⟨x, hx, hp⟩ := List.countP_pos_iff.1 (by omega : 0 < (idx (isK 4) l).countP fun h => lev l h == (t : Int) && S h.toNat)
    obtain ⟨j, rfl, hj, hk⟩ := mem_idx.1 hx
    rw [Bool.and_eq_true, beq_iff_eq, Int.toNat_natCast] at hp
    unfold isK at hk
    exact ⟨j, hj, by simpa using hk, hp.1, hp.2⟩
  · rintro ⟨h, h1, h2, h3, h4⟩
    have : 0 < (idx (isK 4) l).countP fun h => lev l h == (t : Int) && S h.toNat := List.countP_pos_iff.2 ⟨(h : Int), mem_idx.2 ⟨h, rfl, h1, by unfold isK; rw [h2]; rfl⟩, by rw [h3, Int.toNat_natCast, h4]; simp⟩
    omega
/-- The node of a level by its number. -/
theorem lvAt_lev {l : List Nd} (ht : Tall l) {h t : Nat} (hh : h < l.length) (ht2 : t < lvN l) (hl : lev l h = t) : up l 1 h = lvAt l t := by
  have e := (lev_at ht hh ht2).2 hl
  unfold lvAt
  rw [Int.toNat_natCast, e]
  have := up_level ht 4 h (by omega) (by omega) (by rw [ndAt_nat]; exact (tall_head ht h hh).kind1)
  omega
theorem hs_level {l : List Nd} (ht : Tall l) (hosts : List Int) {h t : Nat} (hh : h < l.length) (h4 : (l.getD h nd0).kind = 4) (ht2 : t < lvN l) (hl : lev l h = t) (hp : hs l hosts h = true) (hin : lvAt l t < l.length) (hk : (l.getD (lvAt l t) nd0).kind = 1) : hs l hosts (lvAt l t) = true := by
  rw [hs_any ht hosts 4 _ hin (by rw [hk]; omega), List.any_eq_true]
  refine ⟨h, List.mem_range.2 hh, ?_⟩
  rw [hs_host ht hosts hh h4] at hp
  rw [hk, hp, lvAt_lev ht hh ht2 hl]
  simp
end Go.Proofs.Ytblbgafadadbmaa
end
section
/- If a host can be picked, one is; and what is picked lies in the level that was drawn, in plain Lean. -/
set_option linter.unusedVariables false
namespace Go.Proofs.Ytblbgafadadbmaa
open Go.RowKit
theorem turn_onto {n : Nat} (f : Int) {t : Nat} (ht : t < n) : ∃ i, i < n ∧ turnAt n f i = t := by
  unfold turnAt
  by_cases h : 0 ≤ f ∧ f < n
  · obtain ⟨k, rfl⟩ := Int.eq_ofNat_of_zero_le h.1
    have hk : k < n := by omega
    by_cases hkt : k ≤ t
    · refine ⟨t - k, by omega, ?_⟩
      rw [if_pos h, Int.toNat_natCast, show t - k + k = t by omega, Nat.mod_eq_of_lt ht]
    · refine ⟨t + n - k, by omega, ?_⟩
      rw [if_pos h, Int.toNat_natCast, show t + n - k + k = t + n by omega, Nat.add_mod_right, Nat.mod_eq_of_lt ht]
  · exact ⟨t, ht, by rw [if_neg h]⟩
theorem way_four {l : List Nd} (ht : Tall l) (hosts : List Int) (hl : l.length ≤ 1024) (seed key : Int) {i : Nat} (hi : i < l.length) (hk : (l.getD i nd0).kind = 1) (hh : hs l hosts i = true) :
    wayI l (wt l hosts) seed key i ≠ [] ∧ ∃ h : Nat, lastI (wayI l (wt l hosts) seed key i) = h ∧ h < l.length ∧ pk l hosts h = true ∧ up l 1 h = i := by
  have := way_has ht hosts hl seed key 4 i hi (by omega) hh
  rw [hk] at this
  exact this
theorem lvAt_in' (l : List Nd) {k : Nat} (h1 : k < lvN l) : (idx (isK 1) l).getD k 0 = lvAt l k ∧ lvAt l k < l.length ∧ (l.getD (lvAt l k) nd0).kind = 1 := by
  have hm : (idx (isK 1) l).getD k 0 ∈ idx (isK 1) l := getD_mem _ _ h1
  obtain ⟨j, hj, hjl, hjk⟩ := mem_idx.1 hm
  unfold lvAt
  rw [Int.toNat_natCast, hj]
  refine ⟨by rw [Int.toNat_natCast], by rw [Int.toNat_natCast]; exact hjl, ?_⟩
  rw [Int.toNat_natCast]
  unfold isK at hjk
  simpa using hjk
theorem lev_of {l : List Nd} (ht : Tall l) {h t : Nat} (hh : h < l.length) (ht2 : t < lvN l) (hu : up l 1 h = lvAt l t) : lev l h = t := by
  refine (lev_at ht hh ht2).1 ?_
  rw [hu]
  have := (lvAt_in' l ht2).1
  exact this
/-- What is picked. -/
theorem host_is {l : List Nd} (ht : Tall l) (hosts : List Int) (hl : l.length ≤ 1024) (frm f seed key : Int) (h0 : 0 ≤ hostI l (wt l hosts) (hs l hosts) frm f seed key) :
    ∃ h t : Nat, hostI l (wt l hosts) (hs l hosts) frm f seed key = h ∧ h < l.length ∧ pk l hosts h = true ∧ lvlI l (hs l hosts) frm f seed key = t ∧ t < lvN l ∧ lev l h = t := by
  unfold hostI at h0 ⊢
  rcases lvl_cases l (hs l hosts) frm f seed key with ⟨_, e⟩ | ⟨i, hi, hl2, _, e, hlt⟩
  · rw [e, if_pos (by decide)] at h0; omega
  · rw [e] at h0 ⊢
    rw [if_neg (by omega)] at h0 ⊢
    obtain ⟨a1, a2, a3⟩ := lvAt_in' l hlt
    cases hh : hs l hosts (lvAt l (turnAt (lvN l) frm i)) with
    | true =>
      obtain ⟨_, h, h1, h2, h3, h4⟩ := way_four ht hosts hl seed key a2 a3 hh
      exact ⟨h, turnAt (lvN l) frm i, h1, h2, h3, rfl, hlt, lev_of ht h2 hlt h4⟩
    | false =>
      rw [way_hasnot ht hosts hl seed key a2 (by omega) hh] at h0
      exact absurd h0 (by decide)
/-- One is picked, if one can be. -/
theorem host_found {l : List Nd} (ht : Tall l) (hosts : List Int) (hl : l.length ≤ 1024) (frm seed key : Int) {f : Int} (f0 : 100 ≤ f) (f1 : f ≤ 1000) {h : Nat} (hh : h < l.length) (hp : pk l hosts h = true) : 0 ≤ hostI l (wt l hosts) (hs l hosts) frm f seed key := by
  have hR := loads_right ht (hs l hosts) hl frm f0 f1
  have hLL : loadsI l (hs l hosts) frm f = (List.range (lvN l)).map (ofI (rot (haveL l (hs l hosts)) frm) (rot (allL l) frm) f (lvN l)) := by unfold loadsI; rw [if_pos hR]
  have hlen : (loadsI l (hs l hosts) frm f).length = lvN l := by rw [hLL]; exact rangeMap_len _ _
  have hrot : ∀ i, i < lvN l → (rot (haveL l (hs l hosts)) frm).getD i 0 = haveTo l (hs l hosts) (hoN l) (turnAt (lvN l) frm i) := fun i hi => by
    have e1 := rot_at (l := haveL l (hs l hosts)) (f := frm) (i := i) (by unfold haveL; rw [rangeMap_len]; exact hi)
    have l1 : (haveL l (hs l hosts)).length = lvN l := rangeMap_len _ _
    rw [l1] at e1
    rw [e1, haveL_at _ _ (turnAt_lt hi)]
  have h4 := (pk_host hp).1
  obtain ⟨i', _, _, _, hlev, hlt⟩ := lev_host ht hh
  obtain ⟨t, htt⟩ : ∃ t : Nat, lev l h = t := ⟨_, hlev⟩
  have htl : t < lvN l := by unfold lvN; omega
  have hpos : 0 < haveTo l (hs l hosts) (hoN l) t := have_pos.2 ⟨h, hh, h4, htt, by rw [hs_host ht hosts hh h4]; exact hp⟩
  obtain ⟨i, hi, hit⟩ := turn_onto frm htl
  have hH : 0 < (rot (haveL l (hs l hosts)) frm).getD i 0 := by rw [hrot i hi, hit]; exact hpos
  have hsome : 0 ≤ someTo (rot (haveL l (hs l hosts)) frm) (lvN l) ∧ someTo (rot (haveL l (hs l hosts)) frm) (lvN l) < lvN l := by
    rcases someTo_spec (rot (haveL l (hs l hosts)) frm) (lvN l) with ⟨h1, _⟩ | ⟨m, hm, _, _, h3⟩
    · have := noneTo_at h1 hi
      omega
    · omega
  have hsum := sum_ofI (rot (haveL l (hs l hosts)) frm) (rot (allL l) frm) f (lvN l) (lvN l) (Nat.le_refl _)
  rw [if_pos hsome] at hsum
  have hpre := pre_sum (ofI (rot (haveL l (hs l hosts)) frm) (rot (allL l) frm) f (lvN l)) (fun k => (ofI_bd _ _ _ _ k).1) (lvN l) (lvN l) (Nat.le_refl _)
  have hd := draw_bd seed key
  unfold hostI
  rcases lvl_cases l (hs l hosts) frm f seed key with ⟨e, _⟩ | ⟨j, hj, _, e, e2, hjl⟩
  · rcases want_spec (loadsI l (hs l hosts) frm f) (drawI seed key) (loadsI l (hs l hosts) frm f).length with ⟨_, h5⟩ | ⟨j, _, e3, _⟩
    · rw [hlen, hLL, hpre, hsum] at h5
      omega
    · rw [e] at e3; omega
  · rw [e2, if_neg (by omega)]
    rcases want_spec (loadsI l (hs l hosts) frm f) (drawI seed key) (loadsI l (hs l hosts) frm f).length with ⟨e3, _⟩ | ⟨j', _, e3, p1, p2⟩
    · rw [e] at e3; omega
    · have hjj : j' = j := by rw [e] at e3; omega
      subst hjj
      have hst : pre (loadsI l (hs l hosts) frm f) (j' + 1) = pre (loadsI l (hs l hosts) frm f) j' + pos ((loadsI l (hs l hosts) frm f).getD j' 0) := rfl
      have hload : 0 < ofI (rot (haveL l (hs l hosts)) frm) (rot (allL l) frm) f (lvN l) j' := by
        have e4 : (loadsI l (hs l hosts) frm f).getD j' 0 = ofI (rot (haveL l (hs l hosts)) frm) (rot (allL l) frm) f (lvN l) j' := by rw [hLL]; exact rangeMap_at _ hj
        rw [e4] at hst
        unfold pos at hst
        split at hst <;> omega
      have hne : (rot (haveL l (hs l hosts)) frm).getD j' 0 ≠ 0 := fun h6 => by rw [ofI_zero h6] at hload; omega
      rw [hrot j' hj] at hne
      have hb := haveTo_bd l (hs l hosts) (hoN l) (turnAt (lvN l) frm j')
      obtain ⟨g, g1, g2, g3, g4⟩ := have_pos.1 (show 0 < haveTo l (hs l hosts) (hoN l) (turnAt (lvN l) frm j') by omega)
      obtain ⟨a1, a2, a3⟩ := lvAt_in' l hjl
      have hs1 := hs_level ht hosts g1 g2 hjl g3 g4 a2 a3
      obtain ⟨_, x, x1, _⟩ := way_four ht hosts hl seed key a2 a3 hs1
      rw [x1]
      omega
end Go.Proofs.Ytblbgafadadbmaa
end
section
/- As one host weighs otherwise: the tree stands, and who may be picked stays, in plain Lean. -/
set_option linter.unusedVariables false
namespace Go.Proofs.Ytblbgafadadbmaa
open Go.RowKit
/-- A node, but for what it weighs. -/
def bare (x : Nd) : Nd := { x with weight := 0 }
theorem any_bare (x : Nd) (l : List Nd) : l.any (twice x) = (l.map bare).any (twice x) := by
  rw [List.any_map]; rfl
theorem ofKind_bare (k : Int) (l : List Nd) : ofKind k l = ofKind k (l.map bare) := by
  unfold ofKind
  rw [List.countP_map]; rfl
theorem getD_bare (l : List Nd) (j : Nat) : ((l.map bare).getD j nd0) = bare (l.getD j nd0) := by
  rw [List.getD_eq_getElem?_getD, List.getD_eq_getElem?_getD, List.getElem?_map]
  cases l[j]? <;> rfl
/-- What a node may stand behind does not hang on what those weigh. -/
theorem whyC_bare (x : Nd) {l m : List Nd} (h : l.map bare = m.map bare) : whyC x l = whyC x m := by
  have hlen : l.length = m.length := by have := congrArg List.length h; simpa using this
  have hk : ∀ j, (l.getD j nd0).kind = (m.getD j nd0).kind := fun j => by
    have e1 : (bare (l.getD j nd0)).kind = (bare (m.getD j nd0)).kind := by rw [← getD_bare, ← getD_bare, h]
    exact e1
  have h1 : headC x l = headC x m := by unfold headC; rw [hlen, hk]
  have h2 : rightC x l = rightC x m := by unfold rightC; rw [h1, any_bare x l, any_bare x m, h]
  have h3 : full x l = full x m := by unfold full; rw [hlen, ofKind_bare 1 l, ofKind_bare 1 m, ofKind_bare 4 l, ofKind_bare 4 m, h]
  unfold whyC
  rw [h2, h3]
/-- The nodes with one host that weighs otherwise. -/
def weigh (l : List Nd) (h : Nat) (z : Int) : List Nd := l.set h { l.getD h nd0 with weight := z }
theorem weigh_len (l : List Nd) (h : Nat) (z : Int) : (weigh l h z).length = l.length := by unfold weigh; rw [List.length_set]
theorem weigh_at (l : List Nd) (h : Nat) (z : Int) (hh : h < l.length) (j : Nat) : (weigh l h z).getD j nd0 = if j = h then { l.getD h nd0 with weight := z } else l.getD j nd0 := by
  unfold weigh
  rw [List.getD_eq_getElem?_getD, List.getElem?_set]
  by_cases e : h = j
  · subst e; rw [if_pos rfl, if_pos hh, if_pos rfl]; rfl
  · rw [if_neg e, if_neg (fun e2 => e e2.symm), List.getD_eq_getElem?_getD]
theorem weigh_bare (l : List Nd) (h : Nat) (z : Int) (hh : h < l.length) : (weigh l h z).map bare = l.map bare := by
  apply List.ext_getElem?
  intro j
  have e : ∀ (l : List Nd) (j : Nat), (l.map bare)[j]? = if j < l.length then some (bare (l.getD j nd0)) else none := fun l j => by
    rw [List.getElem?_map]
    by_cases hj : j < l.length
    · rw [if_pos hj, List.getD_eq_getElem?_getD, List.getElem?_eq_getElem hj]; rfl
    · rw [if_neg hj, List.getElem?_eq_none (by omega)]; rfl
  rw [e, e, weigh_len, weigh_at l h z hh]
  by_cases e2 : j = h
  · subst e2; rw [if_pos rfl]; rfl
  · rw [if_neg e2]
theorem weigh_fields (l : List Nd) (h : Nat) (z : Int) (hh : h < l.length) (j : Nat) : ((weigh l h z).getD j nd0).kind = (l.getD j nd0).kind ∧ ((weigh l h z).getD j nd0).above = (l.getD j nd0).above := by
  rw [weigh_at l h z hh]
  by_cases e : j = h
  · subst e; rw [if_pos rfl]; exact ⟨rfl, rfl⟩
  · rw [if_neg e]; exact ⟨rfl, rfl⟩
theorem weigh_tall {l : List Nd} (ht : Tall l) {h : Nat} {z : Int} (hh : h < l.length) (h4 : (l.getD h nd0).kind = 4) (z0 : 0 ≤ z) (z1 : z ≤ 65535) : Tall (weigh l h z) := by
  intro j hj
  rw [weigh_len] at hj
  have hj0 := ht j hj
  unfold okAt at hj0 ⊢
  have hb : ((weigh l h z).take j).map bare = (l.take j).map bare := by rw [List.map_take, List.map_take, weigh_bare l h z hh]
  rw [whyC_bare _ hb, weigh_at l h z hh]
  by_cases e : j = h
  · subst e
    rw [if_pos rfl]
    have hd := tall_head ht j hj
    have hw := hd.weight0
    have hw1 := hd.weight1
    have e1 : headC { l.getD j nd0 with weight := z } (l.take j) = headC (l.getD j nd0) (l.take j) := by
      obtain ⟨y, hy⟩ : ∃ y : Nd, y = { l.getD j nd0 with weight := z } := ⟨_, rfl⟩
      have y1 : y.name = (l.getD j nd0).name ∧ y.kind = (l.getD j nd0).kind ∧ y.above = (l.getD j nd0).above ∧ y.weight = z ∧ y.six = (l.getD j nd0).six ∧ y.hi = (l.getD j nd0).hi ∧ y.lo = (l.getD j nd0).lo := by rw [hy]; exact ⟨rfl, rfl, rfl, rfl, rfl, rfl, rfl⟩
      rw [← hy]
      generalize l.getD j nd0 = x at *
      obtain ⟨n1, n2, n3, n4, n5, n6, n7⟩ := y1
      unfold headC noAddr
      rw [n1, n2, n3, n4, n5, n6, n7]
      have c1 : ¬ (z < 0 ∨ 65535 < z ∨ (x.kind = 1 ∧ z ≠ 0)) := by omega
      have c2 : ¬ (x.weight < 0 ∨ 65535 < x.weight ∨ (x.kind = 1 ∧ x.weight ≠ 0)) := by omega
      rw [if_neg c1, if_neg c2]
    have e2 : rightC { l.getD j nd0 with weight := z } (l.take j) = rightC (l.getD j nd0) (l.take j) := by unfold rightC; rw [e1]; rfl
    unfold whyC at hj0 ⊢
    rw [e2]
    exact hj0
  · rw [if_neg e]; exact hj0
theorem made_id : ∀ {l : List Nd}, Tall l → made l = l := by
  intro l
  refine snoc_ind (P := fun l => Tall l → made l = l) ?_ ?_ l
  · intro _; rfl
  · intro l x ih ht
    have hl : Tall l := fun j hj => by
      have := ht j (by rw [List.length_append]; omega)
      unfold okAt at this ⊢
      rw [getD_left l x j hj, List.take_append_of_le_length (by omega)] at this
      exact this
    have hx := ht l.length (by rw [List.length_append]; simp)
    unfold okAt at hx
    rw [getD_last, List.take_left'] at hx
    · unfold made at ih ⊢
      rw [List.foldl_append, ih hl]
      show addOk l x = l ++ [x]
      unfold addOk
      rw [if_pos hx]
    · rfl
end Go.Proofs.Ytblbgafadadbmaa
end
section
/- As one host weighs more: where ways part, in plain Lean. -/
set_option linter.unusedVariables false
namespace Go.Proofs.Ytblbgafadadbmaa
open Go.RowKit
/-- The second nodes are the first ones, but for a host that weighs more. -/
structure Hv (l m : List Nd) (h : Nat) : Prop where
  len : m.length = l.length
  kind : ∀ j, (m.getD j nd0).kind = (l.getD j nd0).kind
  above : ∀ j, (m.getD j nd0).above = (l.getD j nd0).above
  same : ∀ j, j ≠ h → (m.getD j nd0).weight = (l.getD j nd0).weight
  more : (l.getD h nd0).weight < (m.getD h nd0).weight
  pos : 0 < (l.getD h nd0).weight
  hh : h < l.length
  h4 : (l.getD h nd0).kind = 4
  tl : Tall l
  tm : Tall m
  few : l.length ≤ 1024
section
variable {l m : List Nd} {h : Nat}
theorem Hv.kids_ (H : Hv l m h) (i : Nat) : kidsN m i = kidsN l i := by
  unfold kidsN
  rw [H.len]
  exact List.filter_congr (fun k _ => by rw [H.above])
theorem Hv.pk_ (H : Hv l m h) (hosts : List Int) (j : Nat) : pk m hosts j = pk l hosts j := by
  unfold pk
  rw [H.kind]
  by_cases e : j = h
  · subst e
    rw [decide_eq_true H.pos, decide_eq_true (show 0 < (m.getD j nd0).weight by have := H.pos; have := H.more; omega)]
  · rw [H.same j e]
theorem Hv.hsF_ (H : Hv l m h) (hosts : List Int) : ∀ f i, hsF m hosts f i = hsF l hosts f i
  | 0, _ => rfl
  | f + 1, i => by
    rw [hsF, hsF, H.kind, H.pk_, H.kids_]
    split
    · rfl
    · exact any_congr' (fun k _ => H.hsF_ hosts f k)
theorem Hv.hs_ (H : Hv l m h) (hosts : List Int) (i : Nat) : hs m hosts i = hs l hosts i := H.hsF_ hosts 4 i
theorem Hv.upF_ (H : Hv l m h) (kind : Int) : ∀ f i, upF m kind f i = upF l kind f i
  | 0, _ => rfl
  | f + 1, i => by
    have k1 : (ndAt m i).kind = (ndAt l i).kind := by
      unfold ndAt
      split
      · exact H.kind _
      · rfl
    have k2 : (ndAt m i).above = (ndAt l i).above := by
      unfold ndAt
      split
      · exact H.above _
      · rfl
    rw [upF, upF, H.len, k1, k2, H.upF_ kind f]
theorem Hv.up_ (H : Hv l m h) (kind i : Int) : up m kind i = up l kind i := by
  unfold up; rw [H.len, H.upF_]
/-- A node that is the host, or above it. -/
def onTo (l : List Nd) (h i : Nat) : Prop := up l (l.getD i nd0).kind h = i
theorem onTo_host (H : Hv l m h) : onTo l h h := up_hit l _ h (by omega) (by have := H.hh; omega) (by rw [ndAt_nat])
theorem onTo_kid (H : Hv l m h) {i k : Nat} (hk : k ∈ kidsN l i) (hc : onTo l h k) : onTo l h i := by
  have hkk := kid_kind H.tl hk
  have hkl := (mem_kids.1 hk).1
  have hil : i < l.length := by omega
  have hd := tall_head H.tl i hil
  have hd2 := tall_head H.tl k hkl
  unfold onTo at hc ⊢
  rw [hkk.2] at hc
  obtain ⟨_, _, _, e⟩ := up_chain H.tl (l.getD i nd0).kind hd.kind0 4 h (by omega) (by have := H.hh; omega) (by rw [ndAt_nat, H.h4]; decide) (by rw [ndAt_nat, H.h4]; have := hd2.kind1; omega)
  rw [e, hc, ndAt_nat]
  exact (mem_kids.1 hk).2
theorem onTo_one {i j : Nat} (hi : onTo l h i) (hj : onTo l h j) (hk : (l.getD i nd0).kind = (l.getD j nd0).kind) : i = j := by
  unfold onTo at hi hj
  rw [hk] at hi
  omega
theorem Hv.wt_same (H : Hv l m h) (hosts : List Int) : ∀ (f i : Nat), i < l.length → 5 ≤ (l.getD i nd0).kind + f → ¬ onTo l h i → wt m hosts i = wt l hosts i
  | 0, i, hi, hk, _ => by have := (tall_head H.tl i hi).kind1; omega
  | f + 1, i, hi, hk, hn => by
    have him : i < m.length := by rw [H.len]; exact hi
    have hih : i ≠ h := fun e => hn (by rw [e]; exact onTo_host H)
    by_cases h4 : (l.getD i nd0).kind = 4
    · rw [wt_host H.tl hosts hi h4, wt_host H.tm hosts him (by rw [H.kind]; exact h4), H.pk_, H.same i hih]
    · rw [wt_node H.tl hosts hi h4, wt_node H.tm hosts him (by rw [H.kind]; exact h4), H.hs_, H.same i hih, H.kids_]
      have e : ∀ a, (kidsN l i).foldl (fun a k => IntKind.u64.wrap (a + wt m hosts k)) a = (kidsN l i).foldl (fun a k => IntKind.u64.wrap (a + wt l hosts k)) a :=
        foldl_congr' fun a k hk2 => by
          rw [H.wt_same hosts f k (mem_kids.1 hk2).1 (by rw [(kid_kind H.tl hk2).2]; omega) (fun hc => hn (onTo_kid H hk2 hc))]
      rw [e]
theorem fold_mono {F G : Nat → Int} {B : Int} : ∀ (ks : List Nat) (a b : Int), 0 ≤ a → a ≤ b → (∀ k ∈ ks, 0 ≤ F k ∧ F k ≤ G k ∧ G k ≤ B) → b + ks.length * B < 18446744073709551616 →
    ks.foldl (fun a k => IntKind.u64.wrap (a + F k)) a ≤ ks.foldl (fun a k => IntKind.u64.wrap (a + G k)) b
  | [], a, b, _, h, _, _ => h
  | k :: ks, a, b, h0, hab, hF, hB => by
    have hk := hF k (List.mem_cons_self ..)
    have e : (((k :: ks).length : Nat) : Int) * B = ks.length * B + B := by rw [List.length_cons]; push_cast; rw [Int.add_mul, Int.one_mul]
    rw [e] at hB
    have hnn : 0 ≤ (ks.length : Int) * B := Int.mul_nonneg (by omega) (by omega)
    have w1 : IntKind.u64.wrap (a + F k) = a + F k := by rw [IntKind.wrap_u64]; omega
    have w2 : IntKind.u64.wrap (b + G k) = b + G k := by rw [IntKind.wrap_u64]; omega
    rw [List.foldl_cons, List.foldl_cons, w1, w2]
    exact fold_mono ks (a + F k) (b + G k) (by omega) (by omega) (fun k hk => hF k (List.mem_cons_of_mem _ hk)) (by omega)
theorem Hv.wt_mono (H : Hv l m h) (hosts : List Int) : ∀ (f i : Nat), i < l.length → 5 ≤ (l.getD i nd0).kind + f → wt l hosts i ≤ wt m hosts i
  | 0, i, hi, hk => by have := (tall_head H.tl i hi).kind1; omega
  | f + 1, i, hi, hk => by
    have him : i < m.length := by rw [H.len]; exact hi
    by_cases h4 : (l.getD i nd0).kind = 4
    · rw [wt_host H.tl hosts hi h4, wt_host H.tm hosts him (by rw [H.kind]; exact h4), H.pk_]
      split
      · by_cases e : i = h
        · subst e; have := H.more; omega
        · rw [H.same i e]; omega
      · omega
    · have hih : i ≠ h := fun e => h4 (by rw [e]; exact H.h4)
      rw [wt_node H.tl hosts hi h4, wt_node H.tm hosts him (by rw [H.kind]; exact h4), H.hs_, H.same i hih, H.kids_]
      split
      · omega
      · have hkd := (tall_head H.tl i hi).kind0
        have hb : ∀ k ∈ kidsN l i, 0 ≤ wt l hosts k ∧ wt l hosts k ≤ wt m hosts k ∧ wt m hosts k ≤ 65535 * 1024 ^ 2 := fun k hk2 => by
          have h1 := (mem_kids.1 hk2).1
          have h2 := (kid_kind H.tl hk2).2
          have b1 := wt_nn H.tl hosts H.few k h1
          have b2 := wt_bd H.tm hosts (by rw [H.len]; exact H.few) 2 k (by omega) (by rw [H.len]; exact h1) (by rw [H.kind, h2]; omega)
          exact ⟨b1.1, H.wt_mono hosts f k h1 (by rw [h2]; omega), b2.2⟩
        have hlen := kids_len l i
        have hfew := H.few
        have e : (1024 : Int) * (65535 * 1024 ^ 2) < 18446744073709551616 := by decide
        have hb2 : ((kidsN l i).length : Int) * (65535 * 1024 ^ 2) ≤ 1024 * (65535 * 1024 ^ 2) := Int.mul_le_mul_of_nonneg_right (by omega) (by decide)
        exact fold_mono (kidsN l i) 0 0 (Int.le_refl _) (Int.le_refl _) hb (by omega)
end
end Go.Proofs.Ytblbgafadadbmaa
end
section
/- As one host weighs more: a step goes where it went, or towards that host; where ways part, in plain Lean. -/
set_option linter.unusedVariables false
namespace Go.Proofs.Ytblbgafadadbmaa
open Go.RowKit
section
variable {l m : List Nd} {h : Nat}
theorem kids_nodup (l : List Nd) (i : Nat) : (kidsN l i).Nodup := List.Pairwise.filter _ List.nodup_range
theorem Hv.step_ (H : Hv l m h) (hosts : List Int) (seed key : Int) {i : Nat} (hi : i < l.length) (h4 : (l.getD i nd0).kind ≠ 4) :
    stepI m (wt m hosts) seed key i = stepI l (wt l hosts) seed key i ∨
    ∃ c s : Nat, c ∈ kidsN l i ∧ s ∈ kidsN l i ∧ onTo l h c ∧ stepI m (wt m hosts) seed key i = c ∧ stepI l (wt l hosts) seed key i = s ∧ s ≠ c ∧ wt l hosts c < wt m hosts c := by
  have hb1 : ∀ k ∈ kidsN l i, 0 ≤ wt l hosts k := fun k hk => (wt_nn H.tl hosts H.few k (mem_kids.1 hk).1).1
  unfold stepI
  rw [H.kids_]
  obtain ⟨L, hL⟩ : ∃ L, L = lenI (mixOf seed [key, (i : Int)]) := ⟨_, rfl⟩
  have hLn : ∀ k, 0 ≤ L k := fun k => by rw [hL]; exact (len_bd _ _).1
  rw [← hL]
  by_cases hall : ∀ k ∈ kidsN l i, wt m hosts k = wt l hosts k
  · left
    have e : items (wt m hosts) (kidsN l i) = items (wt l hosts) (kidsN l i) := by
      unfold items
      exact List.map_congr_left (fun k hk => by rw [hall k hk])
    unfold stepL
    rw [e]
  · obtain ⟨c, hc, hcw⟩ : ∃ c, c ∈ kidsN l i ∧ wt m hosts c ≠ wt l hosts c := by
      apply Classical.byContradiction
      intro hn
      exact hall (fun k hk => Classical.byContradiction (fun hne => hn ⟨k, hk, hne⟩))
    have hcl := (mem_kids.1 hc).1
    have hck := kid_kind H.tl hc
    have hcon : onTo l h c := Classical.byContradiction (fun hn => hcw (H.wt_same hosts 4 c hcl (by have := (tall_head H.tl c hcl).kind0; omega) hn))
    have hlt : wt l hosts c < wt m hosts c := by
      have := H.wt_mono hosts 4 c hcl (by have := (tall_head H.tl c hcl).kind0; omega)
      omega
    have hp : 0 < wt l hosts c := by
      have hb := hb1 c hc
      by_cases hz : wt l hosts c = 0
      · have h1 : hs l hosts c = false := by
          cases hh : hs l hosts c with
          | false => rfl
          | true => have := (wt_iff H.tl hosts H.few hcl).2 hh; omega
        have h2 : hs m hosts c = false := by rw [H.hs_]; exact h1
        have := wt_none H.tm hosts 4 c (by rw [H.len]; exact hcl) (by rw [H.kind]; have := (tall_head H.tl c hcl).kind0; omega) h2
        omega
      · omega
    have hoth : ∀ k ∈ kidsN l i, k ≠ c → wt m hosts k = wt l hosts k := fun k hk hne => by
      have hkl := (mem_kids.1 hk).1
      refine H.wt_same hosts 4 k hkl (by have := (tall_head H.tl k hkl).kind0; omega) (fun hk2 => hne ?_)
      exact onTo_one hk2 hcon (by rw [(kid_kind H.tl hk).2, hck.2])
    obtain ⟨p, hpl, hpc⟩ := List.getElem_of_mem hc
    have hpg : (kidsN l i).getD p 0 = c := by rw [List.getD_eq_getElem?_getD, List.getElem?_eq_getElem hpl, hpc]; rfl
    have hnd := List.pairwise_iff_getElem.1 (kids_nodup l i)
    have hgd : ∀ a, a < (kidsN l i).length → ∃ ha : a < (kidsN l i).length, (kidsN l i).getD a 0 = (kidsN l i)[a] := fun a ha => ⟨ha, by rw [List.getD_eq_getElem?_getD, List.getElem?_eq_getElem ha]; rfl⟩
    have hinj : ∀ a b, a < (kidsN l i).length → b < a → (kidsN l i).getD a 0 ≠ (kidsN l i).getD b 0 := fun a b ha hb => by
      obtain ⟨ha', e1⟩ := hgd a ha
      obtain ⟨hb', e2⟩ := hgd b (by omega)
      rw [e1, e2]
      exact fun e => hnd b a hb' ha' hb e.symm
    have hm : ∀ k, (items (wt m hosts) (kidsN l i)).getD k (0, 0) = if k = p then (((items (wt l hosts) (kidsN l i)).getD p (0, 0)).1, wt m hosts c) else (items (wt l hosts) (kidsN l i)).getD k (0, 0) := fun k => by
      by_cases hk : k < (kidsN l i).length
      · rw [items_at _ _ hk, items_at _ _ hpl, items_at _ _ hk]
        by_cases e : k = p
        · subst e; rw [if_pos rfl, hpg]
        · rw [if_neg e, hoth _ (getD_mem _ 0 hk)]
          intro e2
          rcases Nat.lt_or_ge k p with h1 | h1
          · exact hinj p k hpl h1 (by rw [hpg, e2])
          · exact hinj k p hk (by omega) (by rw [hpg, e2])
      · have o1 : (items (wt m hosts) (kidsN l i)).getD k (0, 0) = (0, 0) := by rw [List.getD_eq_getElem?_getD, List.getElem?_eq_none (by rw [items_len]; omega)]; rfl
        have o2 : (items (wt l hosts) (kidsN l i)).getD k (0, 0) = (0, 0) := by rw [List.getD_eq_getElem?_getD, List.getElem?_eq_none (by rw [items_len]; omega)]; rfl
        rw [o1, o2, if_neg (by omega)]
    have hd : ∀ a b, a < (kidsN l i).length → b < a → ((items (wt l hosts) (kidsN l i)).getD a (0, 0)).1 ≠ ((items (wt l hosts) (kidsN l i)).getD b (0, 0)).1 := fun a b ha hb => by
      rw [items_at _ _ ha, items_at _ _ (by omega)]
      have := hinj a b ha hb
      show (((kidsN l i).getD a 0 : Nat) : Int) ≠ (((kidsN l i).getD b 0 : Nat) : Int)
      omega
    have hat2 : ((items (wt l hosts) (kidsN l i)).getD p (0, 0)).2 = wt l hosts c := by rw [items_at _ _ hpl, hpg]
    obtain ⟨q1, q2, q3⟩ := pick_moves (L := L) (l := items (wt l hosts) (kidsN l i)) (m := items (wt m hosts) (kidsN l i)) (n := (kidsN l i).length) (at_ := p) (wt := wt m hosts c) hLn hpl hm hd (by omega) (by rw [hat2]; exact hp)
    rw [hat2, if_pos hlt] at q3
    have b1 := pick_bd L (items (wt l hosts) (kidsN l i)) (kidsN l i).length
    unfold stepL kidOf
    rw [if_pos q1, if_pos q2]
    by_cases hsame : pickTo L (items (wt m hosts) (kidsN l i)) (kidsN l i).length = pickTo L (items (wt l hosts) (kidsN l i)) (kidsN l i).length
    · left; rw [hsame]
    · right
      have q4 : pickTo L (items (wt m hosts) (kidsN l i)) (kidsN l i).length = p := by
        rcases q3 with q | q
        · exact absurd q.symm hsame
        · exact q
      rw [q4] at hsame ⊢
      rw [Int.toNat_natCast, hpg]
      obtain ⟨a, ha⟩ := Int.eq_ofNat_of_zero_le q1
      rw [ha] at b1 hsame ⊢
      rw [Int.toNat_natCast]
      refine ⟨c, (kidsN l i).getD a 0, hc, getD_mem _ 0 (by omega), hcon, rfl, rfl, ?_, hlt⟩
      rw [← hpg]
      rcases Nat.lt_or_ge a p with h1 | h1
      · exact fun e => hinj p a hpl h1 e.symm
      · exact hinj a p (by omega) (by omega)
theorem way_length {l : List Nd} (ht : Tall l) (W : Nat → Int) (seed key : Int) : ∀ (f i : Nat), i < l.length → downI l W seed key f i ≠ [] → ((downI l W seed key f i).length : Int) = 5 - (l.getD i nd0).kind
  | 0, i, _, hn => absurd rfl hn
  | f + 1, i, hi, hn => by
    by_cases h4 : (l.getD i nd0).kind = 4
    · rw [downI_host h4, h4]; rfl
    · by_cases hs : 0 ≤ stepI l W seed key i
      · obtain ⟨k, e, hkl, _⟩ := stepI_in hs
        rw [downI_step h4 e] at hn ⊢
        have hne : downI l W seed key f k ≠ [] := fun e2 => hn (by rw [e2]; rfl)
        rw [joinW_one_ne hne, List.length_cons]
        have := way_length ht W seed key f k hkl hne
        have := (step_kind ht e).2.1
        omega
      · exact absurd (downI_none h4 hs) hn
/-- Two ways that part: what they have in common, and the two nodes behind that. -/
structure Parts (l m : List Nd) (h : Nat) (hosts : List Int) (seed key : Int) (a b pre : List Int) (s c : Nat) : Prop where
  ra : ∃ r, a = pre ++ (s : Int) :: r
  rb : ∃ r, b = pre ++ (c : Int) :: r
  ne : pre ≠ []
  on : ∀ z ∈ pre, ∃ j : Nat, z = j ∧ j < l.length ∧ onTo l h j
  sc : s ≠ c
  sl : s < l.length
  cl : c < l.length
  con : onTo l h c
  kind : (l.getD s nd0).kind = (l.getD c nd0).kind
  deep : 1 < (l.getD c nd0).kind
  more : wt l hosts c < wt m hosts c
  lena : a.length = b.length
  lasta : ∃ x : Nat, lastI a = x ∧ x < l.length ∧ up l (l.getD s nd0).kind x = s
  lastb : (l.getD c nd0).kind = 4 → lastI b = c
theorem lastI_app {pre r : List Int} {x : Int} : lastI (pre ++ x :: r) = lastI (x :: r) := by
  induction pre with
  | nil => rfl
  | cons y pre ih => rw [List.cons_append, lastI_cons (by simp), ih]
theorem Hv.ways (H : Hv l m h) (hosts : List Int) (seed key : Int) : ∀ (f i : Nat), i < l.length → 5 ≤ (l.getD i nd0).kind + f →
    downI l (wt l hosts) seed key f i = downI m (wt m hosts) seed key f i ∨ ∃ pre s c, Parts l m h hosts seed key (downI l (wt l hosts) seed key f i) (downI m (wt m hosts) seed key f i) pre s c
  | 0, i, hi, hk => by have := (tall_head H.tl i hi).kind1; omega
  | f + 1, i, hi, hk => by
    by_cases h4 : (l.getD i nd0).kind = 4
    · left; rw [downI_host h4, downI_host (by rw [H.kind]; exact h4)]
    · have h4m : (m.getD i nd0).kind ≠ 4 := by rw [H.kind]; exact h4
      rcases H.step_ hosts seed key hi h4 with e | ⟨c, s, hc, hs, hon, e1, e2, hne, hlt⟩
      · by_cases h0 : 0 ≤ stepI l (wt l hosts) seed key i
        · obtain ⟨k, ek, hkl, hka, _⟩ := stepI_in h0
          have hsk := step_kind H.tl ek
          rw [downI_step h4 ek, downI_step h4m (by rw [e]; exact ek)]
          rcases H.ways hosts seed key f k hkl (by rw [hsk.2.1]; omega) with w | ⟨pre, s, c, w⟩
          · left; rw [w]
          · right
            obtain ⟨ra, hra⟩ := w.ra
            obtain ⟨rb, hrb⟩ := w.rb
            have na : downI l (wt l hosts) seed key f k ≠ [] := by rw [hra]; simp
            have nb : downI m (wt m hosts) seed key f k ≠ [] := by rw [hrb]; simp
            refine ⟨(i : Int) :: pre, s, c, ?_⟩
            rw [joinW_one_ne na, joinW_one_ne nb]
            have hki : onTo l h k := by
              match pre, w.ne, hra, w.on with
              | z :: pre, _, hra, hon =>
                obtain ⟨j, hj, hjl, hjo⟩ := hon z (List.mem_cons_self ..)
                have hz : z = k := by
                  match f, hra with
                  | 0, hra => simp [downI, downS] at hra
                  | f + 1, hra =>
                    by_cases hk4 : (l.getD k nd0).kind = 4
                    · rw [downI_host hk4] at hra
                      simp at hra
                    · by_cases hs2 : 0 ≤ stepI l (wt l hosts) seed key k
                      · obtain ⟨k2, ek2, _⟩ := stepI_in hs2
                        rw [downI_step hk4 ek2] at hra
                        unfold joinW at hra
                        split at hra
                        · simp at hra
                        · simp at hra; exact hra.1.symm
                      · rw [downI_none hk4 hs2] at hra; simp at hra
                have : j = k := by omega
                rw [← this]; exact hjo
            have hkid : k ∈ kidsN l i := mem_kids.2 ⟨hkl, hka⟩
            exact {
              ra := ⟨ra, by rw [hra]; rfl⟩
              rb := ⟨rb, by rw [hrb]; rfl⟩
              ne := by simp
              on := fun z hz => by
                rcases List.mem_cons.1 hz with rfl | hz
                · exact ⟨i, rfl, hi, onTo_kid H hkid hki⟩
                · exact w.on z hz
              sc := w.sc
              sl := w.sl
              cl := w.cl
              con := w.con
              kind := w.kind
              deep := w.deep
              more := w.more
              lena := by rw [List.length_cons, List.length_cons, w.lena]
              lasta := by rw [lastI_cons na]; exact w.lasta
              lastb := fun hh => by rw [lastI_cons nb]; exact w.lastb hh }
        · left; rw [downI_none h4 h0, downI_none h4m (by rw [e]; exact h0)]
      · right
        have hsl := (mem_kids.1 hs).1
        have hcl := (mem_kids.1 hc).1
        have hsk := kid_kind H.tl hs
        have hck := kid_kind H.tl hc
        have s1 := step_kind H.tl e2
        have c1 := step_kind H.tm (l := m) e1
        have hhs := (wt_iff H.tl hosts H.few hsl).1 s1.2.2.2.1
        have hhc := (wt_iff H.tm hosts (by rw [H.len]; exact H.few) c1.1).1 c1.2.2.2.1
        obtain ⟨na, x, hx1, hx2, hx3, hx4⟩ := way_has H.tl hosts H.few seed key f s hsl (by rw [hsk.2]; omega) hhs
        obtain ⟨nb, y, hy1, hy2, hy3, hy4⟩ := way_has H.tm hosts (by rw [H.len]; exact H.few) seed key f c c1.1 (by rw [H.kind, hck.2]; omega) hhc
        have la := way_length H.tl (wt l hosts) seed key f s hsl na
        have lb := way_length H.tm (wt m hosts) seed key f c c1.1 nb
        refine ⟨[(i : Int)], s, c, ?_⟩
        rw [downI_step h4 e2, downI_step h4m e1, joinW_one_ne na, joinW_one_ne nb]
        have hda : ∃ r, downI l (wt l hosts) seed key f s = (s : Int) :: r := by
          match f, na with
          | 0, na => exact absurd rfl na
          | f + 1, na =>
            by_cases hk4 : (l.getD s nd0).kind = 4
            · exact ⟨[], downI_host hk4⟩
            · by_cases hs2 : 0 ≤ stepI l (wt l hosts) seed key s
              · obtain ⟨k2, ek2, _⟩ := stepI_in hs2
                rw [downI_step hk4 ek2] at na ⊢
                exact ⟨downI l (wt l hosts) seed key f k2, joinW_one_ne (fun e => na (by rw [e]; rfl))⟩
              · exact absurd (downI_none hk4 hs2) na
        have hdb : ∃ r, downI m (wt m hosts) seed key f c = (c : Int) :: r := by
          match f, nb with
          | 0, nb => exact absurd rfl nb
          | f + 1, nb =>
            by_cases hk4 : (m.getD c nd0).kind = 4
            · exact ⟨[], downI_host hk4⟩
            · by_cases hs2 : 0 ≤ stepI m (wt m hosts) seed key c
              · obtain ⟨k2, ek2, _⟩ := stepI_in hs2
                rw [downI_step hk4 ek2] at nb ⊢
                exact ⟨downI m (wt m hosts) seed key f k2, joinW_one_ne (fun e => nb (by rw [e]; rfl))⟩
              · exact absurd (downI_none hk4 hs2) nb
        obtain ⟨ra, hra⟩ := hda
        obtain ⟨rb, hrb⟩ := hdb
        exact {
          ra := ⟨ra, by rw [hra]; rfl⟩
          rb := ⟨rb, by rw [hrb]; rfl⟩
          ne := by simp
          on := fun z hz => by
            have : z = i := by simpa using hz
            exact ⟨i, this, hi, onTo_kid H hc hon⟩
          sc := hne
          sl := hsl
          cl := hcl
          con := hon
          kind := by rw [hsk.2, hck.2]
          deep := by rw [hck.2]; have := (tall_head H.tl i hi).kind0; omega
          more := hlt
          lena := by
            rw [List.length_cons, List.length_cons]
            rw [H.kind, hck.2] at lb
            rw [hsk.2] at la
            omega
          lasta := by rw [lastI_cons na]; exact ⟨x, hx1, hx2, hx4⟩
          lastb := fun hh => by
            rw [lastI_cons nb]
            match f, hrb with
            | 0, hrb => simp [downI, downS] at hrb
            | f + 1, hrb => rw [downI_host (by rw [H.kind]; exact hh)]; rfl }
end
end Go.Proofs.Ytblbgafadadbmaa
end
