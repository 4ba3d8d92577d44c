/- Lemmas for the claim's proof: WalkPlain3 WalkPlain4 StrawB StrawC StrawD. -/
import Derived.Deep.RegionWith
import Derived.Deep.DeepCutAuto
import Derived.RegionTactic
import Derived.Test.YtblbgafadadbmaaQ16
import Derived.Test.YtblbgafadadbmaaQ17
import Derived.Test.YtblbgafadadbmaaQ19
section
/- The loads of levels, the level and the host that a key draws, in plain Lean. -/
set_option linter.unusedVariables false
namespace Go.Proofs.Ytblbgafadadbmaa
open Go.RowKit
def lvN (l : List Nd) : Nat := (idx (isK 1) l).length
def hoN (l : List Nd) : Nat := (idx (isK 4) l).length
def haveL (l : List Nd) (S : Nat → Bool) : List Int := (List.range (lvN l)).map (haveTo l S (hoN l))
def allL (l : List Nd) : List Int := (List.range (lvN l)).map (allTo l (hoN l))
theorem rangeMap_len (F : Nat → Int) (n : Nat) : ((List.range n).map F).length = n := by simp
theorem rangeMap_at (F : Nat → Int) {n k : Nat} (h : k < n) : ((List.range n).map F).getD k 0 = F k := by
  rw [List.getD_eq_getElem?_getD, List.getElem?_map, List.getElem?_range h]; rfl
theorem rot_len (l : List Int) (f : Int) : (rot l f).length = l.length := by
  unfold rot
  split
  · rfl
  · rw [List.length_append, List.length_drop, List.length_take]; omega
theorem ofI_bd' (H A : List Int) (f : Int) (n k : Nat) : 0 ≤ ofI H A f n k ∧ ofI H A f n k ≤ 20000 := ofI_bd H A f n k
/-- How much each level gets, beginning at one. -/
def loadsI (l : List Nd) (S : Nat → Bool) (frm f : Int) : List Int :=
  if lRight (rot (haveL l S) frm) (rot (allL l) frm) f = true then (List.range (lvN l)).map (ofI (rot (haveL l S) frm) (rot (allL l) frm) f (lvN l)) else []
def backI (k frm : Int) (n : Nat) : Int := if k < 0 ∨ (n : Int) ≤ k ∨ frm < 0 ∨ (n : Int) ≤ frm then k else (k + frm) % n
def drawI (seed key : Int) : Int := mixOf seed [key] * 10000 / 18446744073709551616
theorem draw_bd (seed key : Int) : 0 ≤ drawI seed key ∧ drawI seed key < 10000 := by
  have := mixOf_bd seed [key]
  unfold drawI
  omega
/-- The number of the level that a key draws. -/
def lvlI (l : List Nd) (S : Nat → Bool) (frm f seed key : Int) : Int := backI (wantTo (loadsI l S frm f) (drawI seed key) (loadsI l S frm f).length) frm (loadsI l S frm f).length
def lvAt (l : List Nd) (k : Int) : Nat := ((idx (isK 1) l).getD k.toNat 0).toNat
def hostI (l : List Nd) (W : Nat → Int) (S : Nat → Bool) (frm f seed key : Int) : Int := if lvlI l S frm f seed key < 0 then -1 else lastI (wayI l W seed key (lvAt l (lvlI l S frm f seed key)))
theorem loads_len (l : List Nd) (S : Nat → Bool) (frm f : Int) : (loadsI l S frm f).length = lvN l ∨ loadsI l S frm f = [] := by
  unfold loadsI
  split
  · exact .inl (rangeMap_len _ _)
  · exact .inr rfl
theorem loads_le (l : List Nd) (S : Nat → Bool) (frm f : Int) : (loadsI l S frm f).length ≤ lvN l := by
  rcases loads_len l S frm f with h | h
  · omega
  · rw [h]; simp
theorem loads_bd (l : List Nd) (S : Nat → Bool) (frm f : Int) (k : Nat) : 0 ≤ (loadsI l S frm f).getD k 0 ∧ (loadsI l S frm f).getD k 0 ≤ 20000 := by
  unfold loadsI
  split
  · by_cases h : k < lvN l
    · rw [rangeMap_at _ h]; exact ofI_bd' _ _ _ _ _
    · rw [List.getD_eq_getElem?_getD, List.getElem?_eq_none (by rw [rangeMap_len]; omega)]; decide
  · simp
theorem back_bd {k frm : Int} {n : Nat} (h0 : 0 ≤ k) (h1 : k < n) : 0 ≤ backI k frm n ∧ backI k frm n < n := by
  unfold backI
  split
  · exact ⟨h0, h1⟩
  · exact ⟨Int.emod_nonneg _ (by omega), Int.emod_lt_of_pos _ (by omega)⟩
theorem back_neg {frm : Int} {n : Nat} : backI (-1) frm n = -1 := by unfold backI; rw [if_pos (.inl (by decide))]
/-- The level that is drawn, as it is told. -/
theorem lvl_cases (l : List Nd) (S : Nat → Bool) (frm f seed key : Int) : (wantTo (loadsI l S frm f) (drawI seed key) (loadsI l S frm f).length = -1 ∧ lvlI l S frm f seed key = -1) ∨
    ∃ i : Nat, i < lvN l ∧ (loadsI l S frm f).length = lvN l ∧ wantTo (loadsI l S frm f) (drawI seed key) (loadsI l S frm f).length = i ∧ lvlI l S frm f seed key = turnAt (lvN l) frm i ∧ turnAt (lvN l) frm i < lvN l := by
  rcases want_spec (loadsI l S frm f) (drawI seed key) (loadsI l S frm f).length with ⟨e, _⟩ | ⟨i, hi, e, _⟩
  · left
    unfold lvlI
    rw [e]
    exact ⟨rfl, back_neg⟩
  · right
    have hl : (loadsI l S frm f).length = lvN l := by
      rcases loads_len l S frm f with h | h
      · exact h
      · rw [h] at hi; simp at hi
    rw [hl] at hi
    refine ⟨i, hi, hl, e, ?_, turnAt_lt hi⟩
    unfold lvlI
    rw [e, hl]
    unfold backI turnAt
    by_cases h : 0 ≤ frm ∧ frm < (lvN l : Int)
    · rw [if_neg (by omega), if_pos h]
      obtain ⟨k, rfl⟩ := Int.eq_ofNat_of_zero_le h.1
      rw [Int.toNat_natCast, Int.natCast_emod, Int.natCast_add]
    · rw [if_pos (by omega), if_neg h]
end Go.Proofs.Ytblbgafadadbmaa
end
section
/- Weights are sums that never turn over; where a host below may be picked there is a way down to one, in plain Lean. -/
set_option linter.unusedVariables false
namespace Go.Proofs.Ytblbgafadadbmaa
open Go.RowKit
theorem fold_bd {F : Nat → Int} {B : Int} : ∀ (ks : List Nat) (a : Int), 0 ≤ a → (∀ k ∈ ks, 0 ≤ F k ∧ F k ≤ B) → a + ks.length * B < 18446744073709551616 →
    a ≤ ks.foldl (fun a k => IntKind.u64.wrap (a + F k)) a ∧ ks.foldl (fun a k => IntKind.u64.wrap (a + F k)) a ≤ a + ks.length * B ∧ ∀ k ∈ ks, F k ≤ ks.foldl (fun a k => IntKind.u64.wrap (a + F k)) a
  | [], a, h0, _, _ => ⟨Int.le_refl _, by simp, fun k hk => by cases hk⟩
  | k :: ks, a, h0, hF, hB => by
    have hk := hF k (List.mem_cons_self ..)
    have e : (((k :: ks).length : Nat) : Int) * B = ks.length * B + B := by rw [List.length_cons]; push_cast; rw [Int.add_mul, Int.one_mul]
    rw [e] at hB
    have hnn : 0 ≤ (ks.length : Int) * B := Int.mul_nonneg (by omega) (by omega)
    have hw : IntKind.u64.wrap (a + F k) = a + F k := by rw [IntKind.wrap_u64]; omega
    rw [List.foldl_cons, hw, e]
    obtain ⟨h1, h2, h3⟩ := fold_bd ks (a + F k) (by omega) (fun k hk => hF k (List.mem_cons_of_mem _ hk)) (by omega)
    refine ⟨by omega, by omega, fun j hj => ?_⟩
    rcases List.mem_cons.1 hj with rfl | hj
    · omega
    · exact h3 j hj
theorem kids_len (l : List Nd) (i : Nat) : (kidsN l i).length ≤ l.length := by
  unfold kidsN
  refine Nat.le_trans (List.length_filter_le _ _) ?_
  rw [List.length_range]; exact Nat.le_refl _
theorem wt_bd {l : List Nd} (ht : Tall l) (hosts : List Int) (hl : l.length ≤ 1024) : ∀ (f i : Nat), f ≤ 3 → i < l.length → 4 ≤ (l.getD i nd0).kind + f → 0 ≤ wt l hosts i ∧ wt l hosts i ≤ 65535 * 1024 ^ f
  | f, i, hf, hi, hk => by
    have hd := tall_head ht i hi
    have hp : (1 : Int) ≤ 1024 ^ f := by
      have : f = 0 ∨ f = 1 ∨ f = 2 ∨ f = 3 := by omega
      rcases this with rfl | rfl | rfl | rfl <;> decide
    by_cases h4 : (l.getD i nd0).kind = 4
    · rw [wt_host ht hosts hi h4]
      split
      · exact ⟨hd.weight0, by have := hd.weight1; omega⟩
      · exact ⟨by omega, by omega⟩
    · rw [wt_node ht hosts hi h4]
      split
      · exact ⟨hd.weight0, by have := hd.weight1; omega⟩
      · match f, hf, hk with
        | 0, _, hk => have := hd.kind1; omega
        | f + 1, hf, hk =>
          have hks : ∀ k ∈ kidsN l i, 0 ≤ wt l hosts k ∧ wt l hosts k ≤ 65535 * 1024 ^ f := fun k hkk =>
            wt_bd ht hosts hl f k (by omega) (mem_kids.1 hkk).1 (by rw [(kid_kind ht hkk).2]; omega)
          have hnn : (0 : Int) ≤ 65535 * 1024 ^ f := by
            have : f = 0 ∨ f = 1 ∨ f = 2 := by omega
            rcases this with rfl | rfl | rfl <;> decide
          have hlen := kids_len l i
          have hb : ((kidsN l i).length : Int) * (65535 * 1024 ^ f) ≤ 1024 * (65535 * 1024 ^ f) := Int.mul_le_mul_of_nonneg_right (by omega) hnn
          have hb2 : (1024 : Int) * (65535 * 1024 ^ f) = 65535 * 1024 ^ (f + 1) := by rw [Int.pow_succ]; omega
          have hb3 : (65535 : Int) * 1024 ^ (f + 1) < 18446744073709551616 := by
            have : f = 0 ∨ f = 1 ∨ f = 2 := by omega
            rcases this with rfl | rfl | rfl <;> decide
          obtain ⟨h1, h2, _⟩ := fold_bd (F := wt l hosts) (kidsN l i) 0 (by omega) hks (by omega)
          exact ⟨h1, by omega⟩
theorem wt_nn {l : List Nd} (ht : Tall l) (hosts : List Int) (hl : l.length ≤ 1024) (i : Nat) (hi : i < l.length) : 0 ≤ wt l hosts i ∧ wt l hosts i < 18446744073709551616 := by
  have := wt_bd ht hosts hl 3 i (by omega) hi (by have := (tall_head ht i hi).kind0; omega)
  have e : (65535 : Int) * 1024 ^ 3 < 18446744073709551616 := by decide
  omega
theorem wt_pos {l : List Nd} (ht : Tall l) (hosts : List Int) (hl : l.length ≤ 1024) : ∀ (f i : Nat), i < l.length → 4 ≤ (l.getD i nd0).kind + f → hs l hosts i = true → 0 < wt l hosts i
  | f, i, hi, hk, hh => by
    have hd := tall_head ht i hi
    by_cases h4 : (l.getD i nd0).kind = 4
    · rw [hs_host ht hosts hi h4] at hh
      rw [wt_host ht hosts hi h4, if_pos hh]
      exact (pk_host hh).2.1
    · match f, hk with
      | 0, hk => have := hd.kind1; omega
      | f + 1, hk =>
        have h0 := wt_nn ht hosts hl i hi
        rw [wt_node ht hosts hi h4]
        by_cases hw : 0 < (l.getD i nd0).weight
        · rw [if_pos ⟨hw, hh⟩]; exact hw
        · rw [if_neg (fun h => hw h.1)]
          rw [hs_node ht hosts hi h4, List.any_eq_true] at hh
          obtain ⟨k, hkk, hk2⟩ := hh
          have hkl := (mem_kids.1 hkk).1
          have hp := wt_pos ht hosts hl f k hkl (by rw [(kid_kind ht hkk).2]; omega) hk2
          have hb : ∀ k ∈ kidsN l i, 0 ≤ wt l hosts k ∧ wt l hosts k ≤ 65535 * 1024 ^ 2 := fun k hkk =>
            wt_bd ht hosts hl 2 k (by omega) (mem_kids.1 hkk).1 (by rw [(kid_kind ht hkk).2]; have := hd.kind0; omega)
          have hlen := kids_len l i
          have e : (1024 : Int) * (65535 * 1024 ^ 2) < 18446744073709551616 := by decide
          have hb2 : ((kidsN l i).length : Int) * (65535 * 1024 ^ 2) ≤ 1024 * (65535 * 1024 ^ 2) := Int.mul_le_mul_of_nonneg_right (by omega) (by decide)
          obtain ⟨_, _, h3⟩ := fold_bd (F := wt l hosts) (kidsN l i) 0 (by omega) hb (by omega)
          have := h3 k hkk
          omega
theorem wt_iff {l : List Nd} (ht : Tall l) (hosts : List Int) (hl : l.length ≤ 1024) {i : Nat} (hi : i < l.length) : 0 < wt l hosts i ↔ hs l hosts i = true := by
  have hd := tall_head ht i hi
  constructor
  · intro h
    cases hh : hs l hosts i with
    | true => rfl
    | false =>
      have := wt_none ht hosts 4 i hi (by have := hd.kind0; omega) hh
      omega
  · exact fun h => wt_pos ht hosts hl 3 i hi (by have := hd.kind0; omega) h
theorem pick_some {L : Int → Int} {l : List (Int × Int)} {j : Nat} (h : 0 < (l.getD j (0, 0)).2) : ∀ n, j < n → 0 ≤ pickTo L l n
  | 0, hn => by omega
  | n + 1, hn => by
    by_cases e : j = n
    · subst e
      by_cases hp : pickTo L l j < 0
      · rw [pick_yes ⟨h, .inl hp⟩]; omega
      · unfold pickTo; split <;> omega
    · have := pick_some (L := L) h n (by omega)
      unfold pickTo
      split <;> omega
theorem stepL_some {L : Int → Int} {W : Nat → Int} {ks : List Nat} {k : Nat} (hk : k ∈ ks) (h : 0 < W k) : 0 ≤ stepL L W ks := by
  obtain ⟨j, hj, rfl⟩ := List.getElem_of_mem hk
  have := pick_some (L := L) (l := items W ks) (j := j) (by rw [items_at W ks hj, List.getD_eq_getElem?_getD, List.getElem?_eq_getElem hj]; exact h) ks.length hj
  unfold stepL kidOf
  rw [if_pos this]; omega
theorem step_has {l : List Nd} (ht : Tall l) (hosts : List Int) (hl : l.length ≤ 1024) (seed key : Int) {i : Nat} (hi : i < l.length) (h4 : (l.getD i nd0).kind ≠ 4) :
    (hs l hosts i = true → 0 ≤ stepI l (wt l hosts) seed key i) ∧ (hs l hosts i = false → stepI l (wt l hosts) seed key i = -1) := by
  rw [hs_node ht hosts hi h4]
  constructor
  · intro h
    obtain ⟨k, hk, h2⟩ := List.any_eq_true.1 h
    exact stepL_some hk ((wt_iff ht hosts hl (mem_kids.1 hk).1).2 h2)
  · intro h
    refine stepL_none fun k hk => ?_
    have hd := tall_head ht k (mem_kids.1 hk).1
    refine wt_none ht hosts 4 k (mem_kids.1 hk).1 (by have := hd.kind0; omega) ?_
    rw [List.any_eq_false] at h
    simpa using h k hk
theorem joinW_one_ne {x : Int} {r : List Int} (h : r ≠ []) : joinW [x] r = x :: r := by unfold joinW; rw [if_neg h]; rfl
theorem lastI_cons {x : Int} {r : List Int} (h : r ≠ []) : lastI (x :: r) = lastI r := by
  unfold lastI
  rw [if_neg (by simp), if_neg h]
  cases r with
  | nil => exact absurd rfl h
  | cons y r => simp
/-- Where a host below may be picked the way goes down to one. -/
theorem way_has {l : List Nd} (ht : Tall l) (hosts : List Int) (hl : l.length ≤ 1024) (seed key : Int) : ∀ (f i : Nat), i < l.length → 5 ≤ (l.getD i nd0).kind + f → hs l hosts i = true →
    downI l (wt l hosts) seed key f i ≠ [] ∧ ∃ h : Nat, lastI (downI l (wt l hosts) seed key f i) = h ∧ h < l.length ∧ pk l hosts h = true ∧ up l (l.getD i nd0).kind h = i
  | 0, i, hi, h1, _ => by have := (tall_head ht i hi).kind1; omega
  | f + 1, i, hi, h1, hh => by
    have hd := tall_head ht i hi
    by_cases h4 : (l.getD i nd0).kind = 4
    · rw [hs_host ht hosts hi h4] at hh
      rw [downI_host h4]
      refine ⟨by simp, i, rfl, hi, hh, ?_⟩
      exact up_hit l _ i (by omega) (by omega) (by rw [ndAt_nat])
    · obtain ⟨k, e, hkl, hka, hk0⟩ := stepI_in ((step_has ht hosts hl seed key hi h4).1 hh)
      have hsk := step_kind ht e
      have hhk := (wt_iff ht hosts hl hkl).1 hk0
      obtain ⟨h2, h, h3, h5, h6, h7⟩ := way_has ht hosts hl seed key f k hkl (by rw [hsk.2.1]; omega) hhk
      rw [downI_step h4 e, joinW_one_ne h2]
      refine ⟨by simp, h, by rw [lastI_cons h2]; exact h3, h5, h6, ?_⟩
      rw [hsk.2.1] at h7
      have hk4 := (pk_host h6).1
      obtain ⟨_, _, _, hc⟩ := up_chain ht (l.getD i nd0).kind hd.kind0 4 h (by omega) (by omega) (by rw [ndAt_nat]; omega) (by rw [ndAt_nat]; have := hd.kind1; omega)
      rw [hc, h7, ndAt_nat, hka]
theorem way_hasnot {l : List Nd} (ht : Tall l) (hosts : List Int) (hl : l.length ≤ 1024) (seed key : Int) {i : Nat} (hi : i < l.length) (h4 : (l.getD i nd0).kind ≠ 4) (hh : hs l hosts i = false) : wayI l (wt l hosts) seed key i = [] :=
  way_none h4 (by rw [(step_has ht hosts hl seed key hi h4).2 hh]; omega)
end Go.Proofs.Ytblbgafadadbmaa
end
section
/- Straws.Long. -/
set_option linter.unusedVariables false
namespace Go.Proofs.Ytblbgafadadbmaa
open Go.RowKit
set_option maxHeartbeats 2000000
set_option maxRecDepth 100000
theorem Filled.keep {w w' : World} {b : Nat} {T : K6} (h : Filled w b T) (hx : Below w.heap.size w w') : Filled w' b T := by
  obtain ⟨g, h, hg, hne⟩ := h
  exact ⟨g, h.keep hx, row_keep hg hx, hne⟩
theorem Filled.far {w : World} {b r : Nat} {T : K6} {cs : Array Value} (h : Filled w b T) (R : Blk w r 125 cs) (hrb : ¬ r = b) (i : Nat) (v : Value) : Filled (w.setCell ⟨r, i, none⟩ v) b T := by
  obtain ⟨g, h, ⟨ds, hd, hr⟩, hne⟩ := h
  have hgr : g ≠ r := Blk.ne_ (t := 24) (t' := 125) hd R (by decide)
  exact ⟨g, h.far (p := ⟨r, i, none⟩) (fun e => hrb e.symm) _, ⟨ds, Blk.far (p := ⟨r, i, none⟩) (t := 24) hd hgr _, hr⟩, hne⟩
theorem Tab.keep {w w' : World} {b : Nat} {T : K6} (h : Tab w b T) (hx : Below w.heap.size w w') : Tab w' b T := by
  rcases h with h | h
  · exact .inl (h.keep hx)
  · exact .inr (h.keep hx)
theorem Tab.alloc {w : World} {b : Nat} {T : K6} (h : Tab w b T) (o : Obj) : Tab (w.alloc o) b T := h.keep ((Below.refl _ _).alloc (Nat.le_refl _) _)
theorem Tab.lt {w : World} {b : Nat} {T : K6} (h : Tab w b T) : b < w.heap.size := by
  rcases h with h | ⟨g, h, _⟩ <;> exact h.lt
theorem Tab.drew {w : World} {b : Nat} {T : K6} (h : Tab w b T) : Tab w.drew b T := h
theorem one_listD (w : World) (t : TypeId) (id : Int) (i0 : 0 ≤ id) (i1 : id < 18446744073709551616) : IsList (w.alloc (.cells #[.int .u64 id] t)).drew .u64 (some ⟨w.heap.size, 0, none⟩) 1 1 [id] :=
  (one_list w t id i0 i1).keep (Below.drew (Below.refl _ _))
theorem table_At_done (b : Nat) (T : K6) (d : Int) (w : World) (hF : Filled w b T) :
    Calls Try.prog 88 #[.pointer (some ⟨b, 0, none⟩), .int .i64 d] w fun e w' => e = .returned (.int .u64 (ofN d)) ∧ w = w' := by
  obtain ⟨g, hB, hg, hne⟩ := hF
  have hmf : ∀ (fn : Fn) (first cap : Array Value) (w : World), (Instr.makeFunc fn first cap).run Try.prog w = .ok (.func fn first cap) w := fun _ _ _ _ => rfl
  have hc := clamp_bd d
  have hcd : min (max d 1) 65536 - 1 = ((clampN d - 1 : Nat) : Int) := by unfold clampN; omega
  have hd := drawRow_at d
  generalize clampN d - 1 = k at hcd hd
  have hk : k < 65536 := by omega
  have HD := Lib.hid hd
  clear hd hc
  go_enter Try.func88, Try.ntmps88
  go_wp2_with fail
  refine (once_done _ _ _ (hB.cell 0)).mono ?_; rintro e w' ⟨rfl, rfl⟩
  clear hmf
  obtain ⟨c0, c1, c2, c3, _⟩ := hB.cells6
  have hcell := hg.cell hk
  rw [HD.out] at hcell
  have k1 : IntKind.i64.wrap (min (max d 1) 65536 - 1) = (k : Int) := by rw [hcd]; exact IntWalk.i64_in _ (by omega)
  clear hcd
  go_wp2
  go_ret
  exact ⟨rfl, rfl⟩
theorem straws_Long (b : Nat) (T : K6) (key id wt : Int) (k0 : 0 ≤ key) (k1 : key < 18446744073709551616) (hx : IsNum id wt) (w : World) (hT : Tab w b T) :
    Calls Try.prog 66 #[.pointer (some ⟨b, 0, none⟩), .int .u64 key, .agg #[.int .u64 id, .int .u64 wt]] w fun e w' => e = .returned (.agg #[.int .u64 (lenI key id), .int .u64 wt]) ∧ Filled w' b T ∧ Mod (· = b) w w' := by
  obtain ⟨i0, i1, t0, t1⟩ := hx
  have hlt := hT.lt
  have hmb := mixOf_bd key [id]
  have P := (Blk.new w 99 #[.int .u64 id, .int .u64 wt]).alloc (.cells #[.int .u64 0, .int .u64 0] 125)
  have R := Blk.new (w.alloc (.cells #[.int .u64 id, .int .u64 wt] 99)) 125 #[.int .u64 0, .int .u64 0]
  have hT1 := (hT.alloc (.cells #[.int .u64 id, .int .u64 wt] 99)).alloc (.cells #[.int .u64 0, .int .u64 0] 125)
  have hM1 : Mod (· = b) w ((w.alloc (.cells #[.int .u64 id, .int .u64 wt] 99)).alloc (.cells #[.int .u64 0, .int .u64 0] 125)) := ((Mod.refl _ _).alloc _).alloc _
  have hz : (w.alloc (.cells #[.int .u64 id, .int .u64 wt] 99)).heap.size = w.heap.size + 1 := by simp
  rw [hz] at R
  clear hz
  go_enter Try.func66, Try.ntmps66
  go_wp2_with fail
  generalize (w.alloc (.cells #[.int .u64 id, .int .u64 wt] 99)).alloc (.cells #[.int .u64 0, .int .u64 0] 125) = u at *
  obtain ⟨p0, p1, _⟩ := P.cells2
  obtain ⟨r0, r1, _⟩ := R.cells2
  have hpb : ¬ w.heap.size = b := by omega
  have hrb : ¬ w.heap.size + 1 = b := by omega
  have A1 := fun (w' : World) => mix_Of key _ 1 1 [id] _ k0 k1 (one_listD w' 24 id i0 i1)
  have A3 : ∀ v : World, Tab v b T → Calls Try.prog 88 #[.pointer (some ⟨b, 0, none⟩), .int .i64 (mixOf key [id] / 281474976710656 + 1)] v fun e w' => e = .returned (.int .u64 (lenI key id)) ∧ Filled w' b T ∧ Mod (· = b) v w' := fun v hv => table_At b T (drwI key id) v hv
  have kq : IntKind.i64.wrap (mixOf key [id] / 281474976710656 + 1) = mixOf key [id] / 281474976710656 + 1 := IntWalk.i64_in _ (by omega)
  go_region_with (first
      | (go_at_call 45; refine (A1 _).mono ?_; rintro en w' ⟨rfl, rfl⟩)
      | (go_at_call 89; refine (mix_Draw _ _ (by omega) (by omega)).mono ?_; rintro en w' ⟨rfl, rfl⟩)
      | (go_at_call 88; refine (A3 _ (Tab.drew (Tab.alloc hT1 _))).mono ?_; rintro en w' ⟨rfl, hf, hm⟩; have P2 := ((P.alloc _).drew).mod hm hpb; have R2 := ((R.alloc _).drew).mod hm hrb; have hM2 := ((hM1.alloc _).drew).trans hm; obtain ⟨p0, p1, _⟩ := P2.cells2; obtain ⟨r0, r1, _⟩ := R2.cells2; obtain ⟨f0, f1⟩ := R2.free2; clear hm P2))
  all_goals
    have g0 := Filled.far hf R2 hrb 0 (.int .u64 (lenI key id))
    have R3 := R2.setTo 0 (.int .u64 (lenI key id)) (ds := #[.int .u64 (lenI key id), .int .u64 0]) rfl
    have g1 := Filled.far g0 R3 hrb 1 (.int .u64 wt)
    have hM3 := (hM2.fresh (g := w.heap.size + 1) (by omega) 0 (.int .u64 (lenI key id))).fresh (g := w.heap.size + 1) (by omega) 1 (.int .u64 wt)
    have R4 := R3.setTo 1 (.int .u64 wt) (ds := #[.int .u64 (lenI key id), .int .u64 wt]) rfl
    obtain ⟨e0, e1, _⟩ := R4.cells2
    clear hf R2 R3 R4 g0 hM2
    go_wp2
    exact bodyPost_ret (v := .agg #[.int .u64 (lenI key id), .int .u64 wt]) (by simp [results, Try.results66, go_sem, e0, e1]) rfl ⟨rfl, g1, hM3⟩
end Go.Proofs.Ytblbgafadadbmaa
end
section
/- The law's pick. -/
set_option linter.unusedVariables false
namespace Go.Proofs.Ytblbgafadadbmaa
open Go.RowKit
set_option maxHeartbeats 2000000
set_option maxRecDepth 100000
theorem pick_yes' {L : Int → Int} {l : List (Int × Int)} {k : Nat} {B : Int} (hB : B = pickTo L l k) {x : Int × Int} (hx : x = l.getD k (0, 0)) (h : 0 < x.2 ∧ (B < 0 ∨ shP L x (l.getD B.toNat (0, 0)) = true)) : pickTo L l (k + 1) = k := by
  subst hB hx; exact pick_yes h
theorem pick_no' {L : Int → Int} {l : List (Int × Int)} {k : Nat} {B : Int} (hB : B = pickTo L l k) {x : Int × Int} (hx : x = l.getD k (0, 0)) (h : ¬ (0 < x.2 ∧ (B < 0 ∨ shP L x (l.getD B.toNat (0, 0)) = true))) : pickTo L l (k + 1) = B := by
  subst hB hx; exact pick_no h
end Go.Proofs.Ytblbgafadadbmaa
end
section
/- Straws.Pick. -/
set_option linter.unusedVariables false
namespace Go.Proofs.Ytblbgafadadbmaa
open Go.RowKit
set_option maxHeartbeats 2000000
set_option maxRecDepth 100000
theorem IsPairs.mod {w w' : World} {S : Nat → Prop} {k0 k1 : IntKind} {A : Option Addr} {n c : Nat} {l : List (Int × Int)} (h : IsPairs w k0 k1 A n c l) (hx : Mod S w w') (hn : 0 < n → ∀ ad, A = some ad → ¬ S ad.block) : IsPairs w' k0 k1 A n c l :=
  ⟨h.len, h.cap, h.small, h.reach, h.wf, fun hnn => by
    obtain ⟨ad, ha, hb, hc⟩ := h.cells hnn
    have hs := hn hnn ad ha
    exact ⟨ad, ha, Nat.lt_of_lt_of_le hb hx.size, fun i q hq => ⟨(hx.cell (by rw [block_of_add]; exact hb) (by rw [block_of_add]; exact hs)).trans (hc i q hq).1, (hx.cell (by rw [block_of_add]; exact hb) (by rw [block_of_add]; exact hs)).trans (hc i q hq).2⟩⟩⟩
/-- What the least straw's place holds, as the k first are seen. -/
def LeastAt (key : Int) (l : List (Int × Int)) (B : Int) (g : Nat) (w : World) : Prop :=
  ∃ u d : Int, Blk w g 125 #[.int .u64 u, .int .u64 d] ∧ (0 ≤ B → u = lenI key (l.getD B.toNat (0, 0)).1 ∧ d = (l.getD B.toNat (0, 0)).2)
theorem cmp_frac {au ad bu bd : Int} (h1 : 0 < ad) (h2 : 0 < bd) : fracI au ad bu bd = cmpI (au * bd) (bu * ad) := by
  unfold fracI; rw [if_neg (by omega), if_neg (by omega)]
theorem Tab.far {w : World} {b r : Nat} {T : K6} {cs : Array Value} (h : Tab w b T) (R : Blk w r 125 cs) (hrb : ¬ r = b) (i : Nat) (v : Value) : Tab (w.setCell ⟨r, i, none⟩ v) b T := by
  rcases h with h | h
  · exact .inl (h.far (p := ⟨r, i, none⟩) (fun e => hrb e.symm) _)
  · exact .inr (h.far R hrb i v)
theorem store_least {w wb : World} {b g : Nat} {T : K6} {cs : Array Value} (hT : Tab wb b T) (hM : Mod (· = b) w wb) (R : Blk wb g 125 cs) (h2 : cs.size = 2) (hgb : ¬ g = b) (hg : w.heap.size ≤ g) (m : Nat) (x y : Int) :
    Tab (((wb.drewN m).setCell ⟨g, 0, none⟩ (.int .u64 x)).setCell ⟨g, 1, none⟩ (.int .u64 y)) b T ∧ Mod (· = b) w (((wb.drewN m).setCell ⟨g, 0, none⟩ (.int .u64 x)).setCell ⟨g, 1, none⟩ (.int .u64 y)) ∧
    Blk (((wb.drewN m).setCell ⟨g, 0, none⟩ (.int .u64 x)).setCell ⟨g, 1, none⟩ (.int .u64 y)) g 125 #[.int .u64 x, .int .u64 y] := by
  obtain ⟨cs⟩ := cs
  match cs, h2 with
  | [c0, c1], _ =>
    have hT1 : Tab (wb.drewN m) b T := hT
    have R1 : Blk (wb.drewN m) g 125 #[c0, c1] := R
    have R2 := R1.setTo 0 (.int .u64 x) (ds := #[.int .u64 x, c1]) rfl
    exact ⟨(hT1.far R1 hgb 0 _).far R2 hgb 1 _, ((hM.drewN m).fresh hg 0 _).fresh hg 1 _, R2.setTo 1 (.int .u64 y) rfl⟩
theorem straws_Pick (b : Nat) (T : K6) (key : Int) (A : Option Addr) (n c : Nat) (l : List (Int × Int)) (k0 : 0 ≤ key) (k1 : key < 18446744073709551616) (w : World) (hl : IsPairs w .u64 .u64 A n c l)
    (hA : 0 < n → ∀ ad, A = some ad → ¬ ad.block = b) (hT : Tab w b T) :
    Calls Try.prog 44 #[.pointer (some ⟨b, 0, none⟩), .int .u64 key, .slice A n c] w fun e w' => e = .returned (.int .i64 (pickTo (lenI key) l n)) ∧ Tab w' b T ∧ Mod (· = b) w w' := by
  have hn := hl.reach
  have hcap := hl.cap
  have hsm := hl.small
  have hblt := hT.lt
  have hT0 := hT.alloc (.cells #[.int .u64 0, .int .u64 0] 125)
  have hM0 : Mod (· = b) w (w.alloc (.cells #[.int .u64 0, .int .u64 0] 125)) := (Mod.refl _ _).alloc _
  have hL0 : LeastAt key l (-1) w.heap.size (w.alloc (.cells #[.int .u64 0, .int .u64 0] 125)) := ⟨0, 0, Blk.new _ _ _, fun h => absurd h (by decide)⟩
  go_enter Try.func44, Try.ntmps44
  go_wp2_with fail
  go_loopg [7, 18] n (fun gk s7 s18 wr => ∃ k : Nat, k ≤ n ∧ gk = n - k ∧ s18 = .int .i64 k ∧ s7 = .int .i64 (pickTo (lenI key) l k) ∧ Tab wr b T ∧ Mod (· = b) w wr ∧ LeastAt key l (pickTo (lenI key) l k) w.heap.size wr)
  case atStart => exact ⟨0, Nat.zero_le _, rfl, rfl, rfl, hT0, hM0, hL0⟩
  case round =>
    clear hT0 hM0 hL0
    obtain ⟨k, hk, rfl, rfl, rfl, hT', hM, hL⟩ := hrel
    have hbd := pick_bd (lenI key) l k
    obtain ⟨B, hB⟩ : ∃ B, B = pickTo (lenI key) l k := ⟨_, rfl⟩
    rw [← hB] at hbd hL ⊢
    have HB := Lib.hid hB
    clear hB
    by_cases hlt : k < n
    · obtain ⟨ad, rfl, hbk, c0, c1, w0, w1⟩ := (hl.mod hM hA).at_ hlt
      have hki : (k : Int) < (n : Int) := by omega
      have hne : ¬ ad.block = b := hA (by omega) ad rfl
      obtain ⟨x, hx⟩ : ∃ f, f = l.getD k (0, 0) := ⟨_, rfl⟩
      rw [← hx] at c0 c1 w0 w1
      have HX := Lib.hid hx
      clear hx
      have nx := Lib.hid (show IsNum x.1 x.2 from ⟨(u64_of_wf w0).1, (u64_of_wf w0).2, (u64_of_wf w1).1, (u64_of_wf w1).2⟩)
      have x2 := (u64_of_wf w1).1
      clear w0 w1
      by_cases hw : x.2 = 0
      · have hw' : (x.2 == 0) = true := by simp [hw]
        have HS := Lib.hid (pick_no' HB.out HX.out (fun h => by omega))
        have hT2 := hT'.alloc (.cells #[.int .u64 x.1, .int .u64 x.2] 99)
        have hM2 := hM.alloc (.cells #[.int .u64 x.1, .int .u64 x.2] 99)
        obtain ⟨u, d, hLb, hLe⟩ := hL
        have hL2 : LeastAt key l B w.heap.size (wr.alloc (.cells #[.int .u64 x.1, .int .u64 x.2] 99)) := ⟨u, d, hLb.alloc _, hLe⟩
        clear hLb hLe hT' hM hw
        go_wp2_with fail
        go_roundg (n - (k + 1))
        case measure => omega
        case rel => exact ⟨k + 1, by omega, rfl, by go_num, by rw [HS.out], hT2, hM2, by rw [HS.out]; exact hL2⟩
      · have hw' : (x.2 == 0) = false := by simp [hw]
        have hw0 : 0 < x.2 := by omega
        obtain ⟨u, d, hLb, hLe⟩ := hL
        have hLi := Lib.hid hLe
        clear hLe
        have hXb := Blk.new wr 99 #[.int .u64 x.1, .int .u64 x.2]
        have hLb1 := hLb.alloc (.cells #[.int .u64 x.1, .int .u64 x.2] 99)
        have hT2 := hT'.alloc (.cells #[.int .u64 x.1, .int .u64 x.2] 99)
        have hM2 := hM.alloc (.cells #[.int .u64 x.1, .int .u64 x.2] 99)
        have hgb : ¬ w.heap.size = b := by omega
        have hXne : ¬ wr.heap.size = b := by have := hT'.lt; omega
        have hXg : ¬ wr.heap.size = w.heap.size := by have := hLb.lt; omega
        go_wp2_with fail
        generalize wr.alloc (.cells #[.int .u64 x.1, .int .u64 x.2] 99) = wa at *
        refine (straws_Long b T key x.1 x.2 k0 k1 nx.out _ hT2).mono ?_; rintro e w1 ⟨rfl, hF, hm⟩
        have hT3 : Tab w1 b T := .inr hF
        have hX3 := hXb.mod hm hXne
        have hL3 := hLb1.mod hm hgb
        have hM3 := hM2.trans hm
        have hla := len_bd key x.1
        clear hF hm hXb hLb hLb1 hT2 hM2 hT' c0 c1
        obtain ⟨lx, hlx⟩ : ∃ f, f = lenI key x.1 := ⟨_, rfl⟩
        rw [← hlx] at hla ⊢
        have HLX := Lib.hid hlx
        clear hlx
        have hF4 := Blk.new w1 125 #[.int .u64 lx, .int .u64 x.2]
        have hX4 := hX3.alloc (.cells #[.int .u64 lx, .int .u64 x.2] 125)
        have hL4 := hL3.alloc (.cells #[.int .u64 lx, .int .u64 x.2] 125)
        have hT4 := hT3.alloc (.cells #[.int .u64 lx, .int .u64 x.2] 125)
        have hM4 := hM3.alloc (.cells #[.int .u64 lx, .int .u64 x.2] 125)
        have hgl := hL3.lt
        clear hX3 hT3 hM3 hL3
        by_cases hneg : B < 0
        · have hg : decide (B < 0) = true := decide_eq_true hneg
          have HS := Lib.hid (pick_yes' HB.out HX.out ⟨hw0, .inl hneg⟩)
          go_wp2_with fail
          generalize w1.alloc (.cells #[.int .u64 lx, .int .u64 x.2] 125) = wb at *
          obtain ⟨x0, x1, _⟩ := hX4.cells2
          obtain ⟨l0, l1, _⟩ := hL4.cells2
          obtain ⟨y0, y1, _⟩ := hF4.cells2
          obtain ⟨lf0, lf1⟩ := hL4.free2
          go_quiet (fail)
          go_wp2_with fail
          go_region
          obtain ⟨hT5, hM5, hL5⟩ := store_least hT4 hM4 hL4 rfl hgb (Nat.le_refl _) (nq + 1) lx x.2
          have hL6 : LeastAt key l (k : Int) w.heap.size _ := ⟨lx, x.2, hL5, fun _ => by rw [Int.toNat_natCast, ← HX.out]; exact ⟨HLX.out, rfl⟩⟩
          clear hL5 hT4 hM4 hL4 hX4 hF4 x0 x1 l0 l1 y0 y1 lf0 lf1
          go_wp2
          go_roundg (n - (k + 1))
          case measure => omega
          case rel => exact ⟨k + 1, by omega, rfl, by go_num, by rw [HS.out], hT5, hM5, by rw [HS.out]; exact hL6⟩
        · have hg : decide (B < 0) = false := decide_eq_false hneg
          have hB0 : 0 ≤ B := by omega
          have hBn : B < (n : Int) := by omega
          obtain ⟨hu, hd⟩ := hLi.out hB0
          obtain ⟨ad', e', _, c0, _, v0, v1⟩ := (hl.mod hM4 hA).at_ (k := B.toNat) (by omega)
          obtain rfl : ad' = ad := by injection e' with e'; exact e'.symm
          have hyp := pick_pos (lenI key) l k (by rw [← HB.out]; exact hB0)
          rw [← HB.out] at hyp
          obtain ⟨y, hy⟩ : ∃ f, f = l.getD B.toNat (0, 0) := ⟨_, rfl⟩
          rw [← hy] at c0 v0 v1 hu hd hyp
          have HY := Lib.hid hy
          have ny : IsNum y.1 y.2 := ⟨(u64_of_wf v0).1, (u64_of_wf v0).2, (u64_of_wf v1).1, (u64_of_wf v1).2⟩
          have hub := len_bd key y.1
          rw [← hu] at hub
          rw [← hd] at hyp
          have nd : IsNum u d := ⟨by omega, by omega, by rw [hd]; exact ny.l0, by rw [hd]; exact ny.l1⟩
          have HU := Lib.hid hu
          have HD := Lib.hid hd
          clear hy v0 v1 hu hd e' ny
          have C1 := fun w => wide_FracCmp lx x.2 u d ⟨by omega, by omega, nx.out.l0, nx.out.l1⟩ nd w
          rw [cmp_frac hw0 hyp] at C1
          obtain ⟨C, hC⟩ : ∃ C, C = cmpI (lx * d) (u * x.2) := ⟨_, rfl⟩
          rw [← hC] at C1
          have hsh : shP (lenI key) x (l.getD B.toNat (0, 0)) = (decide (C < 0) || (C == 0 && decide (x.1 < y.1))) := by
            rw [← HY.out, hC]
            unfold shP cmpI
            rw [← HLX.out, ← HU.out, ← HD.out]
            (repeat' split) <;> simp_all <;> omega
          have HSH := Lib.hid hsh
          clear hC hsh
          obtain ⟨l0, l1, _⟩ := hL4.cells2
          obtain ⟨y0, y1, _⟩ := hF4.cells2
          go_wp2_with fail
          generalize w1.alloc (.cells #[.int .u64 lx, .int .u64 x.2] 125) = wb at *
          refine (C1 _).mono ?_; rintro e w2 ⟨rfl, hx2⟩
          have hT5 := hT4.keep hx2
          have hM5 := hM4.thenB hx2
          have hX5 := hX4.keep hx2
          have hL5 := hL4.keep hx2
          have hF5 := hF4.keep hx2
          have d0 := cell_keep c0 hx2
          clear hT4 hM4 hX4 hL4 hF4 c0 l0 l1 y0 y1 C1 hx2 hub nd
          obtain ⟨x0, x1, _⟩ := hX5.cells2
          obtain ⟨l0, l1, _⟩ := hL5.cells2
          obtain ⟨y0, y1, _⟩ := hF5.cells2
          obtain ⟨lf0, lf1⟩ := hL5.free2
          have hi2 : B < (n : Int) := by omega
          by_cases hyes : C < 0 ∨ (C = 0 ∧ x.1 < y.1)
          · have HS := Lib.hid (pick_yes' HB.out HX.out ⟨hw0, .inr (by rw [HSH.out]; rcases hyes with h | ⟨h, h'⟩ <;> simp [h, *])⟩)
            clear HSH
            rcases hyes with h | ⟨h, h'⟩
            · have g1 : decide (C < 0) = true := decide_eq_true h
              go_wp2_with fail
              go_quiet (fail)
              go_wp2_with fail
              go_region
              obtain ⟨hT6, hM6, hL6⟩ := store_least hT5 hM5 hL5 rfl hgb (Nat.le_refl _) (nq + 1) lx x.2
              have hL7 : LeastAt key l (k : Int) w.heap.size _ := ⟨lx, x.2, hL6, fun _ => by rw [Int.toNat_natCast, ← HX.out]; exact ⟨HLX.out, rfl⟩⟩
              clear hL6 hT5 hM5 hL5 hX5 hF5 x0 x1 l0 l1 y0 y1 lf0 lf1
              go_wp2
              go_roundg (n - (k + 1))
              case measure => omega
              case rel => exact ⟨k + 1, by omega, rfl, by go_num, by rw [HS.out], hT6, hM6, by rw [HS.out]; exact hL7⟩
            · have g1 : decide (C < 0) = false := decide_eq_false (by omega)
              have g2 : (C == 0) = true := by simp [h]
              have g3 : decide (x.1 < y.1) = true := decide_eq_true h'
              clear h
              go_wp2_with fail
              go_quiet (fail)
              go_wp2_with fail
              go_region
              obtain ⟨hT6, hM6, hL6⟩ := store_least hT5 hM5 hL5 rfl hgb (Nat.le_refl _) (nq + 1) lx x.2
              have hL7 : LeastAt key l (k : Int) w.heap.size _ := ⟨lx, x.2, hL6, fun _ => by rw [Int.toNat_natCast, ← HX.out]; exact ⟨HLX.out, rfl⟩⟩
              clear hL6 hT5 hM5 hL5 hX5 hF5 x0 x1 l0 l1 y0 y1 lf0 lf1
              go_wp2
              go_roundg (n - (k + 1))
              case measure => omega
              case rel => exact ⟨k + 1, by omega, rfl, by go_num, by rw [HS.out], hT6, hM6, by rw [HS.out]; exact hL7⟩
          · have HS := Lib.hid (pick_no' HB.out HX.out (fun h => by
              rcases h.2 with h2 | h2
              · omega
              · rw [HSH.out] at h2; simp at h2; omega))
            have g1 : decide (C < 0) = false := decide_eq_false (by omega)
            have hL6 : LeastAt key l B w.heap.size w2 := ⟨u, d, hL5, hLi.out⟩
            clear HSH
            by_cases h : C = 0
            · have g2 : (C == 0) = true := by simp [h]
              have g3 : decide (x.1 < y.1) = false := decide_eq_false (by omega)
              clear h hyes
              go_wp2_with fail
              go_quiet (fail)
              go_wp2
              go_roundg (n - (k + 1))
              case measure => omega
              case rel => exact ⟨k + 1, by omega, rfl, by go_num, by rw [HS.out], hT5, hM5.drewN _, by rw [HS.out]; exact hL6⟩
            · have g2 : (C == 0) = false := by simp [h]
              clear h hyes
              go_wp2_with fail
              go_quiet (fail)
              go_wp2
              go_roundg (n - (k + 1))
              case measure => omega
              case rel => exact ⟨k + 1, by omega, rfl, by go_num, by rw [HS.out], hT5, hM5.drewN _, by rw [HS.out]; exact hL6⟩
    · obtain rfl : k = n := by omega
      go_wp2
      go_ret
      exact ⟨by rw [← HB.out]; rfl, hT', hM⟩
end Go.Proofs.Ytblbgafadadbmaa
end
