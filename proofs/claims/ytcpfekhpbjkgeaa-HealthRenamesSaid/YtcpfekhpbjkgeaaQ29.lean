/- Lemmas for the claim's proof: HlG0 HlG HlG1. -/
import Derived.Test.YtcpfekhpbjkgeaaQ28
section
/- A board's Rename: ghosts, and the map of new numbers. -/
set_option linter.unusedVariables false
namespace Go.Proofs.Ytcpfekhpbjkgeaa
open Go.RowKit Go.Maps
set_option maxHeartbeats 8000000
set_option maxRecDepth 100000
/-- New numbers, in a map, or in none. -/
def RenAt (w : World) (tv : Value) (f : Int → Option Int) : Prop := (tv = .map none ∧ ∀ i, f i = none) ∨ ∃ b m, tv = .map (some b) ∧ IMap Try.prog 3 .i64 w b m (fun i => (f i).map (Value.int .i64))
theorem RenAt.keep {w w' : World} {tv : Value} {f : Int → Option Int} (h : RenAt w tv f) (hx : Below w.heap.size w w') : RenAt w' tv f := by
  rcases h with h | ⟨b, m, h1, h2⟩
  · exact .inl h
  · exact .inr ⟨b, m, h1, h2.keep hx⟩
theorem RenAt.look {w : World} {tv : Value} {f : Int → Option Int} (h : RenAt w tv f) {i : Int} (hi : (Lit.int .i64 i).wf = true) :
    (Instr.lookup 75 tv (.int .i64 i) true).run Try.prog w = .ok (.tuple #[.int .i64 ((f i).getD 0), .bool (f i).isSome]) w := by
  rcases h with ⟨rfl, h⟩ | ⟨b, m, rfl, h⟩
  · rw [h i]
    exact Maps.look_nil (t := 75) (e := 3) true (int_keyed Try.underlying3) Try.underlying75 (z := .int .i64 0) (Try.zeroValue3 _) (keyOf_int_mk Try.underlying3 hi)
  · have := h.look_ok (t := 75) (e := 3) Try.underlying3 Try.underlying75 (z := .int .i64 0) (Try.zeroValue3 _) hi
    rw [this]
    cases f i <;> rfl
/-- The hosts by their new numbers, as far as these old ones go. -/
def renG (f : Int → Option Int) (G : Int → Option Hg) (ks : List Int) : Int → Option Hg := ks.foldl (fun H i => match f i, G i with | some k, some h => updG H k h | _, _ => H) (fun _ => none)
theorem renG_snoc (f : Int → Option Int) (G : Int → Option Hg) (ks : List Int) (i : Int) : renG f G (ks ++ [i]) = match f i, G i with | some k, some h => updG (renG f G ks) k h | _, _ => renG f G ks := by
  unfold renG
  rw [List.foldl_append]; rfl
theorem snoc_induct {α : Type} {P : List α → Prop} (h0 : P []) (h1 : ∀ l a, P l → P (l ++ [a])) (l : List α) : P l := by
  have : ∀ m : List α, P m.reverse := fun m => by
    induction m with
    | nil => exact h0
    | cons a m ih => rw [List.reverse_cons]; exact h1 _ _ ih
  have h := this l.reverse
  rwa [List.reverse_reverse] at h
theorem renG_spec {f : Int → Option Int} {G : Int → Option Hg} (hf : ∀ i j k, f i = some k → f j = some k → i = j) : ∀ (ks : List Int), (∀ k h, renG f G ks k = some h → ∃ i, i ∈ ks ∧ f i = some k ∧ G i = some h) ∧ (∀ i ∈ ks, ∀ k h, f i = some k → G i = some h → renG f G ks k = some h) := by
  intro ks
  refine snoc_induct (P := fun ks => (∀ k h, renG f G ks k = some h → ∃ i, i ∈ ks ∧ f i = some k ∧ G i = some h) ∧ (∀ i ∈ ks, ∀ k h, f i = some k → G i = some h → renG f G ks k = some h)) ?_ (fun ks i ih => ?_) ks
  · exact ⟨fun k h (hh : (none : Option Hg) = some h) => (by cases hh), fun i hi => (by cases hi)⟩
  · obtain ⟨ih1, ih2⟩ := ih
    rw [renG_snoc]
    cases hfi : f i with
    | none =>
      dsimp only
      refine ⟨fun k h hh => ?_, fun j hj k h h1 h2 => ?_⟩
      · obtain ⟨j, a, b⟩ := ih1 k h hh
        exact ⟨j, List.mem_append_left _ a, b⟩
      · rcases List.mem_append.1 hj with hj | hj
        · exact ih2 j hj k h h1 h2
        · rw [List.mem_singleton] at hj; subst hj; rw [hfi] at h1; cases h1
    | some k0 =>
      cases hgi : G i with
      | none =>
        dsimp only
        refine ⟨fun k h hh => ?_, fun j hj k h h1 h2 => ?_⟩
        · obtain ⟨j, a, b⟩ := ih1 k h hh
          exact ⟨j, List.mem_append_left _ a, b⟩
        · rcases List.mem_append.1 hj with hj | hj
          · exact ih2 j hj k h h1 h2
          · rw [List.mem_singleton] at hj; subst hj; rw [hgi] at h2; cases h2
      | some h0 =>
        dsimp only
        refine ⟨fun k h hh => ?_, fun j hj k h h1 h2 => ?_⟩
        · unfold updG at hh
          dsimp only at hh
          split at hh
          · rename_i e
            subst e
            cases hh
            exact ⟨i, List.mem_append_right _ (List.mem_singleton.2 rfl), hfi, hgi⟩
          · obtain ⟨j, a, b⟩ := ih1 k h hh
            exact ⟨j, List.mem_append_left _ a, b⟩
        · unfold updG
          dsimp only
          rcases List.mem_append.1 hj with hj | hj
          · split
            · rename_i e
              subst e
              have : j = i := hf j i k h1 hfi
              subst this
              rw [hgi] at h2; exact h2
            · exact ih2 j hj k h h1 h2
          · rw [List.mem_singleton] at hj
            subst hj
            rw [hfi] at h1
            cases h1
            rw [if_pos rfl, ← hgi, h2]
/-- An item with its host's new number. -/
def renI (f : Int → Option Int) (G : Int → Option Hg) (x : It) : Option It := match f (x.id.tdiv 2) with | some k => if (G (x.id.tdiv 2)).isSome = true then some ⟨x.t, 2 * k + x.id.tmod 2⟩ else none | none => none
def renL (f : Int → Option Int) (G : Int → Option Hg) (now : Int) (l : List It) : List It := (l.filterMap (renI f G)).foldl (addL now) []
theorem renL_snoc (f : Int → Option Int) (G : Int → Option Hg) (now : Int) (l : List It) (x : It) : renL f G now (l ++ [x]) = match renI f G x with | some y => addL now (renL f G now l) y | none => renL f G now l := by
  unfold renL
  rw [List.filterMap_append, List.foldl_append]
  cases h : renI f G x with
  | none => simp [h]
  | some y => simp [h]
theorem renL_len (f : Int → Option Int) (G : Int → Option Hg) (now : Int) (l : List It) : (renL f G now l).length ≤ l.length := by
  unfold renL
  have h1 : ∀ (m : List It) (q : List It), (m.foldl (addL now) q).length ≤ q.length + m.length := fun m => by
    induction m with
    | nil => intro q; simp
    | cons y m ih =>
      intro q
      have h2 := ih (addL now q y)
      have h3 := addL_le now q y
      rw [List.foldl_cons, List.length_cons]; omega
  have h2 := h1 (l.filterMap (renI f G)) []
  have h3 := List.length_filterMap_le (renI f G) l
  simp at h2; omega
theorem renL_perm {f : Int → Option Int} {G : Int → Option Hg} {now : Int} {l : List It} (h : ∀ x ∈ l, now < x.t ∧ x.t ≤ 1099511627776) : (renL f G now l).Perm (l.filterMap (renI f G)) := by
  unfold renL
  have h1 : ∀ (m q : List It), (∀ x ∈ m, now < x.t ∧ x.t ≤ 1099511627776) → (m.foldl (addL now) q).Perm (q ++ m) := fun m => by
    induction m with
    | nil => intro q _; simp
    | cons y m ih =>
      intro q hm
      rw [List.foldl_cons]
      refine (ih _ (fun x hx => hm x (List.mem_cons_of_mem _ hx))).trans ?_
      have : addL now q y = putL q y := by unfold addL; rw [if_pos (hm y (List.mem_cons_self))]
      rw [this]
      have h2 := List.Perm.append_right m (putL_perm y q)
      exact h2.trans (by simpa using (List.perm_middle (l₁ := q) (a := y) (l₂ := m)).symm)
  refine (h1 _ [] (fun x hx => ?_)).trans (by simp)
  obtain ⟨y, hy, e⟩ := List.mem_filterMap.1 hx
  have h2 := h y hy
  unfold renI at e
  split at e
  · split at e
    · cases e; exact h2
    · cases e
  · cases e
/-- What Rename leaves. -/
def RenDone (w w' : World) (B : Nat) (s : Bd) (f : Int → Option Int) : Prop := ∃ s', BdTo w w' B s s' ∧ s'.bb = s.bb ∧ s'.r = s.r ∧ s'.now = s.now ∧ s'.n = s.n ∧ s'.l = renL f s.G s.now s.l ∧ (∀ k h, s'.G k = some h ↔ ∃ i, f i = some k ∧ s.G i = some h)
end Go.Proofs.Ytcpfekhpbjkgeaa
end
section
/- A board's Rename. -/
set_option linter.unusedVariables false
namespace Go.Proofs.Ytcpfekhpbjkgeaa
open Go.RowKit Go.Maps
set_option maxHeartbeats 8000000
set_option maxRecDepth 100000
theorem tmod_two (x : Int) : -1 ≤ x.tmod 2 ∧ x.tmod 2 ≤ 1 := by
  rcases Int.le_total 0 x with h0 | h0
  · rw [Int.tmod_eq_emod_of_nonneg h0]; omega
  · have e : x.tmod 2 = -((-x).tmod 2) := by rw [Int.neg_tmod]; omega
    rw [e, Int.tmod_eq_emod_of_nonneg (by omega)]; omega
theorem board_Rename {w : World} {B : Nat} {s : Bd} (hB : IsBoard w B s) {tv : Value} {f : Int → Option Int} (hR : RenAt w tv f) (hf1 : ∀ i k, f i = some k → okId k) (hf2 : ∀ i j k, f i = some k → f j = some k → i = j) (hll : s.l.length ≤ 1000) (hn : s.n ≤ 900000) :
    Calls Try.prog 34 #[.pointer (some ⟨s.bb, 0, none⟩), tv] w fun e w' => e = .returned (.tuple #[]) ∧ RenDone w w' B s f := by
  have CN := board_none hB
  obtain ⟨c0, c1, c2, c3, c4, c5, _⟩ := hB.blk.cells6
  have hBw : B ≤ w.heap.size := by have := hB.lowb; have := hB.blk.lt; omega
  have hmm := @run_makeMap Try.prog
  have hA := (Below.refl w.heap.size w).alloc (Nat.le_refl _) (.map #[] 0)
  have hM := IMap.made Try.prog 3 .i64 w
  have HB := Lib.hid hB
  have HR := Lib.hid hR
  have HF1 := Lib.hid hf1
  have HF2 := Lib.hid hf2
  have hmap := hB.map.keep hA
  have hmblt := hB.map.lt
  have HMEM := Lib.hid (show ∀ y, (ptrF s.G y).isSome = (s.G y).isSome from fun y => by unfold ptrF; simp)
  clear hf1 hf2 hB hR
  go_enter Try.func34, Try.ntmps34
  go_wp2_with fail
  refine CN.mono ?_; rintro e w1 ⟨rfl, rfl⟩
  clear CN
  go_upto_region 2 with (fail)
  obtain ⟨nb, hnb⟩ : ∃ q, q = w.heap.size := ⟨_, rfl⟩
  have HNB := Lib.hid hnb
  rw [← hnb] at hM ⊢
  have c5' := cell_keep c5 hA
  have c0' := cell_keep c0 hA
  clear hnb c0 c1 c2 c3 c4 c5
  have hnbm : nb ≠ s.mb := by have := HNB.out; omega
  have hsz : nb < (w.alloc (.map #[] 0)).heap.size := by rw [HNB.out]; simp
  generalize w.alloc (.map #[] 0) = u at *
  go_wp2_with (at_range; go_loud (refine wpList_range_i _ rfl _ 81 rfl 3 123 .i64 Try.underlying3 Try.underlying81 s.mb s.n (ptrF s.G) rfl hmap ?_; intro w0 cnt hrg0 hg0 hs0 hcn))
  go_frame
  have hW0 := belowK_grown hA hA.size hg0 (fun g hg => by cases hg)
  have hM0 := hM.grown hg0 (by simp)
  obtain ⟨rb, hrb⟩ : ∃ q, q = u.heap.size := ⟨_, rfl⟩
  have HRB := Lib.hid hrb
  rw [← hrb] at hrg0 ⊢
  have hrbw : w.heap.size ≤ rb := by rw [hrb]; exact hA.size
  have hnr : nb ≠ rb := by omega
  clear hs0 hg0 hmap hrb c0' c5' hM hA hsz
  have HMET := Lib.hid (come_start (fun x => (ptrF s.G x).isSome))
  have HMEM2 := Lib.hid (show ∀ y, (fun x => (ptrF s.G x).isSome) y = (s.G y).isSome from HMEM.out)
  generalize hmem : (fun x => (ptrF s.G x).isSome) = mem at *
  clear hmem
  go_loopg [5, 6, 7, 8] cnt (fun gk s5 s6 s7 s8 wr => ∃ (left : Int → Bool) (ks : List Int) (ct q : Nat), gk = ct ∧ IRange Try.prog 3 .i64 wr s.mb rb s.n (ptrF s.G) left ct ∧ Hid (Come mem left ks) ∧ IMap Try.prog 3 .i64 wr nb q (ptrF (renG f s.G ks)) ∧ Hid (q + ct ≤ s.n) ∧ Below w.heap.size w wr)
  case atStart => exact ⟨mem, [], cnt, 0, rfl, hrg0, HMET, hM0, Lib.hid (by omega), hW0⟩
  case round =>
    clear hrg0 hW0 HMET hM0
    obtain ⟨left, ks, ct, q, hgk, hrg, HMET, hM, HQ, hW⟩ := hrel
    subst hgk
    have hV : ∀ x v, ptrF s.G x = some v → ∃ c : Nat, v = Value.pointer (some ⟨c, 0, none⟩) := fun x v hx => by
      unfold ptrF at hx
      obtain ⟨h, _, rfl⟩ := Option.map_eq_some_iff.1 hx
      exact ⟨h.b, rfl⟩
    go_wp2_with (at_next; go_loud (refine wpList_next_i _ rfl _ rfl 3 .i64 Try.underlying3 (fun c : Nat => Value.pointer (some ⟨c, 0, none⟩)) s.mb rb s.n _ hV left gk rfl hrg ?_ ?_))
    · intro hl0
      have HK := Lib.hid (show ∀ i, i ∈ ks ↔ (s.G i).isSome = true from fun i => ⟨fun hh => by rw [← HMEM2.out]; exact HMET.out.sub i hh, fun hh => HMET.out.all hl0 (by rw [HMEM2.out]; exact hh)⟩)
      obtain ⟨G2, hG2⟩ : ∃ G2, G2 = renG f s.G ks := ⟨_, rfl⟩
      have HG2 := Lib.hid (show ∀ k h, G2 k = some h ↔ ∃ i, f i = some k ∧ s.G i = some h from fun k h => by
        rw [hG2]
        obtain ⟨a1, a2⟩ := renG_spec (G := s.G) HF2.out ks
        constructor
        · intro hh
          obtain ⟨i, b1, b2, b3⟩ := a1 k h hh
          exact ⟨i, b2, b3⟩
        · rintro ⟨i, b2, b3⟩
          exact a2 i ((HK.out i).2 (by rw [b3]; rfl)) k h b2 b3)
      have hqn : q ≤ s.n := by have := HQ.out; omega
      rw [← hG2] at hM
      have hBr := HB.out.keep hW
      have HBR := Lib.hid hBr
      obtain ⟨c0, c1, c2, c3, c4, c5, _⟩ := hBr.blk.cells6
      have hA2 := (Below.refl wr.heap.size wr).alloc (Nat.le_refl _) (.cells Try.zeroCells27 27)
      have hWh := wheel_new (B := B) (Blk.new wr 27 Try.zeroCells27) zero_wheel (Nat.le_trans hBw hW.size)
      have hM2 := hM.keep hA2
      have hW2 := below_step hW hA2
      have hnbw : nb < wr.heap.size := hM.lt
      clear hG2 hrg hV HMET hl0 HK HQ hM
      go_upto_region 9 with (fail)
      obtain ⟨nwb, hnwb⟩ : ∃ x, x = wr.heap.size := ⟨_, rfl⟩
      rw [← hnwb] at hWh ⊢
      have HNW := Lib.hid (show w.heap.size ≤ nwb from by rw [hnwb]; exact hW.size)
      have HNN := Lib.hid (show nb ≠ nwb from by omega)
      have hBr2 := hBr.keep hA2
      clear c0 c1 c2 c3 c4 c5 hA2 hnbw hnwb hBr hW
      generalize wr.alloc (.cells Try.zeroCells27 27) = wz at *
      obtain ⟨c0, c1, c2, c3, c4, c5, _⟩ := hBr2.blk.cells6
      have n0 := hBr2.wh.n0
      have n1 := hBr2.wh.n1
      have CG := wheel_Go hWh s.now n0 n1 (by simp) (Nat.le_trans hBw hW2.size)
      go_wp2_with fail
      refine (wheel_Now hBr2.wh).mono ?_; rintro e w3 ⟨rfl, rfl⟩
      go_wp2_with fail
      refine CG.mono ?_; rintro e w3 ⟨vg, rfl, _, V3, hW3, hM3, hI3⟩
      have hin : ∀ g, wIn nwb (fun _ => Value.slice none 0 0) g → g = nwb := fun g hg => by
        rcases hg with h | ⟨k, hk, h⟩
        · exact h
        · simp [Value.ownBlock] at h
      have hWb3 := below_mod hW2 hM3 (fun g hg => by rw [hin g hg]; exact HNW.out)
      have hM4 := hM2.same (hM3.block nb hM2.lt (fun hg => HNN.out (hin nb hg)))
      have hw3 : WheelIs w3 B nwb V3 [] s.now := by simpa using hW3
      have HIN := Lib.hid (show ∀ g, wIn nwb V3 g → w.heap.size ≤ g from fun g hg => by rw [hin g (hI3 g hg)]; exact HNW.out)
      have hBr3 := HB.out.keep hWb3
      clear CG hW2 hWh hM2 hW3 hM3 hI3 hin hBr2 c0 c1 c2 c3 c4 c5 n0 n1
      obtain ⟨c0, c1, c2, c3, c4, c5, _⟩ := hBr3.blk.cells6
      have CAll := wheel_All hBr3.wh (by omega)
      go_wp2_with fail
      refine CAll.mono ?_; rintro e w4 ⟨⟨va, rfl, hOa⟩, hx4⟩
      have hWb4 := below_step hWb3 hx4
      have hM5 := hM4.keep hx4
      have hw4 := hw3.keep hx4
      obtain ⟨Aa, ca, rfl⟩ := ownK_sl hOa
      have hca := ownK_cap hOa
      obtain ⟨m, hm⟩ : ∃ m, m = s.l.length := ⟨_, rfl⟩
      have HM := Lib.hid hm
      rw [← hm] at hOa hca hll ⊢
      have HNI := Lib.hid (show ∀ g, (Value.slice Aa m ca).ownBlock = some g → ¬ wIn nwb V3 g from fun g hg hb => by
        have h1 := (hw3.lt hb).2
        have h2 := (hOa.lt g hg).1
        omega)
      obtain ⟨b0, hb0⟩ : ∃ x, x = w3.heap.size := ⟨_, rfl⟩
      rw [← hb0] at hOa
      obtain ⟨wo, hwo⟩ : ∃ wo, wo = wr := ⟨_, rfl⟩
      subst hwo
      clear CAll hm hb0 hWb3 hM4 hw3 hx4 hBr3 c0 c1 c2 c3 c4 c5
      go_upto_region 11 with (fail)
      go_loopg [11, 12, 13, 60] m (fun gk s11 s12 s13 s60 wr => ∃ (k : Nat) (V' : Nat → Value), s60 = .int .i64 k ∧ k ≤ m ∧ gk = m - k ∧ WheelIs wr B nwb V' (renL f s.G s.now (s.l.take k)) s.now ∧ IMap Try.prog 3 .i64 wr nb q (ptrF G2) ∧ wr.ownsRow b0 31 2 (.slice Aa m ca) m (itShape.flat s.l) ∧ Hid (∀ g, (Value.slice Aa m ca).ownBlock = some g → ¬ wIn nwb V' g) ∧ Below w.heap.size w wr ∧ Hid (∀ g, wIn nwb V' g → w.heap.size ≤ g))
      case atStart => exact ⟨0, V3, by go_num, Nat.zero_le _, rfl, hw4, hM5, hOa, HNI, hWb4, HIN⟩
      case round =>
        clear hw4 hM5 hOa HNI hWb4 HIN
        obtain ⟨k, V', rfl, hk, rfl, hw, hMp, hOa, HNI, hW, HIN⟩ := hrel
        by_cases hkm : k < m
        · have hkk : (k : Int) < (m : Int) := by omega
          obtain ⟨ad, hAd, _, d0, d1⟩ := (own_it hOa).at_ hkm
          subst hAd
          have HT := Lib.hid (show renL f s.G s.now (s.l.take (k + 1)) = (match renI f s.G (s.l.getD k default) with | some y => addL s.now (renL f s.G s.now (s.l.take k)) y | none => renL f s.G s.now (s.l.take k)) by rw [takeK_next (z := default) (by rw [← HM.out]; exact hkm), renL_snoc]; try rfl)
          have HX := Lib.hid (HB.out.wh.wf (s.l.getD k default) (by rw [List.getD_eq_getElem?_getD, List.getElem?_eq_getElem (by rw [← HM.out]; exact hkm)]; exact List.getElem_mem _))
          have HLQ := Lib.hid (show (renL f s.G s.now (s.l.take k)).length < 4096 from by
            have h1 := renL_len f s.G s.now (s.l.take k)
            rw [List.length_take] at h1
            omega)
          generalize s.l.getD k default = x at *
          obtain ⟨xt, xi⟩ := x
          dsimp only at d0 d1
          have PX := Blk.new wr 31 #[.int .i64 xt, .int .i64 xi]
          have hA := (Below.refl wr.heap.size wr).alloc (Nat.le_refl _) (.cells #[.int .i64 xt, .int .i64 xi] 31)
          have hwx := hw.keep hA
          have hMx := hMp.keep hA
          have hOx := ownK_keep hOa hA
          have hWx := below_step hW hA
          go_upto_region 13 with (fail)
          obtain ⟨xb, hxb⟩ : ∃ xb, xb = wr.heap.size := ⟨_, rfl⟩
          have HNX := Lib.hid (show ¬ wIn nwb V' xb from fun hb => by have := (hw.lt hb).2; omega)
          rw [← hxb] at PX ⊢
          generalize wr.alloc (.cells #[.int .i64 xt, .int .i64 xi] 31) = wx at *
          clear hxb hA hw hMp hOa hW d0 d1
          have hxw : (Lit.int .i64 xi).wf = true := by have := HX.out.2; unfold I64 at this; exact WalkArith.wf_i64 this
          obtain ⟨x0, x1, _⟩ := PX.cells2
          have hjj := i64_half HX.out.2
          dsimp only at hjj
          have hww : IntKind.i64.wrap (xi.tdiv 2) = xi.tdiv 2 := IntWalk.i64_in _ (by unfold I64 at hjj; omega)
          have hw6 : RowKit.wrap64 (xi.tdiv 2) = xi.tdiv 2 := IntWalk.wrap64_in _ (by unfold I64 at hjj; omega)
          have hwl : (Lit.int .i64 (xi.tdiv 2)).wf = true := by unfold I64 at hjj; exact WalkArith.wf_i64 hjj
          have hlook := (HR.out.keep hWx).look hwl
          have HBX := Lib.hid (HB.out.keep hWx)
          obtain ⟨c0, c1, c2, c3, c4, c5, _⟩ := HBX.out.blk.cells6
          have HRI := Lib.hid (show renI f s.G ⟨xt, xi⟩ = (match f (xi.tdiv 2) with | some k => if (s.G (xi.tdiv 2)).isSome = true then some ⟨xt, 2 * k + xi.tmod 2⟩ else none | none => none) from rfl)
          cases hfi : f (xi.tdiv 2) with
          | none =>
            rw [hfi] at hlook HRI
            dsimp only [Option.getD_none, Option.isSome_none] at hlook
            have HT2 := Lib.hid (show renL f s.G s.now (s.l.take (k + 1)) = renL f s.G s.now (s.l.take k) from by rw [HT.out, HRI.out])
            clear hfi
            go_upto_region 14 with (fail)
            clear hlook x0 x1 c0 c1 c2 c3 c4 c5
            refine wp_region_quiet_under (by kernel_rfl) (by kernel_rfl) ?_
            repeat (go_big_quiet_step ((fail)))
            refine wpQuiet_nil ?_
            intro wu hw'
            obtain ⟨pq, hw''⟩ := hw'
            have hU := below_eq hw''
            clear hw'' pq
            have hw9 := hwx.keep hU
            have hM9 := hMx.keep hU
            have hO9 := ownK_keep hOx hU
            have hW9 := below_step hWx hU
            rw [← HT2.out] at hw9
            clear hwx hMx hOx hWx hU hww hw6
            go_wp2
            go_roundg (m - (k + 1))
            case measure => omega
            case rel => exact ⟨k + 1, V', by go_num, by omega, rfl, hw9, hM9, hO9, HNI, hW9, HIN⟩
          | some k2 =>
            rw [hfi] at hlook HRI
            dsimp only [Option.getD_some, Option.isSome_some] at hlook
            have hk := HF1.out _ k2 hfi
            unfold okId at hk
            have HK2 := Lib.hid hk
            have e1 : decide (0 ≤ k2) = true := decide_eq_true hk.1
            have e2 : decide (k2 ≤ 1048576) = true := decide_eq_true hk.2
            have e3 : decide (k2 ≥ 0) = true := e1
            clear hfi hk
            go_upto_region 14 with (fail)
            have U0 := cell_under c5
            have U1 := cell_under x1
            have hq1 := fun m w => neq_ptr_nil m w
            have hl2 := fun p : UP => (IMap.look ((HBX.out.keep (under_below wx p)).map) (t := 81) (e := 123) Try.underlying3 Try.underlying81 (Try.zeroValue123 _) hwl)
            rw [ptr_look] at hl2
            clear hlook x0 x1 c0 c1 c2 c3 c4 c5
            cases hgi : s.G (xi.tdiv 2) with
            | none =>
              rw [hgi] at hl2 HRI
              dsimp only at hl2
              have HT2 := Lib.hid (show renL f s.G s.now (s.l.take (k + 1)) = renL f s.G s.now (s.l.take k) from by rw [HT.out, HRI.out]; rfl)
              clear hgi
              refine wp_region_quiet_under (by kernel_rfl) (by kernel_rfl) ?_
              repeat (go_big_quiet_step ((fail)))
              refine wpQuiet_nil ?_
              intro wu hw'
              obtain ⟨pq, hw''⟩ := hw'
              have hU := below_eq hw''
              clear hw'' pq
              have hw9 := hwx.keep hU
              have hM9 := hMx.keep hU
              have hO9 := ownK_keep hOx hU
              have hW9 := below_step hWx hU
              rw [← HT2.out] at hw9
              clear hwx hMx hOx hWx hU hww hw6 U0 U1 hq1 hl2
              go_wp2
              go_roundg (m - (k + 1))
              case measure => omega
              case rel => exact ⟨k + 1, V', by go_num, by omega, rfl, hw9, hM9, hO9, HNI, hW9, HIN⟩
            | some h =>
              rw [hgi] at hl2 HRI
              dsimp only [hPtr] at hl2
              have HT2 := Lib.hid (show renL f s.G s.now (s.l.take (k + 1)) = addL s.now (renL f s.G s.now (s.l.take k)) ⟨xt, 2 * k2 + xi.tmod 2⟩ from by rw [HT.out, HRI.out]; rfl)
              clear hgi
              refine wp_region_quiet_under (by kernel_rfl) (by kernel_rfl) ?_
              repeat (go_big_quiet_step ((fail)))
              refine wpQuiet_nil ?_
              intro wu hw'
              obtain ⟨pq, hw''⟩ := hw'
              have hU := below_eq hw''
              clear hw'' pq
              have hw9 := hwx.keep hU
              have hM9 := hMx.keep hU
              have hO9 := ownK_keep hOx hU
              have hW9 := below_step hWx hU
              have PX9 := PX.keep hU
              clear hwx hMx hOx hWx hU hww hw6 U0 U1 hq1 hl2 PX
              obtain ⟨x0, x1, _⟩ := PX9.cells2
              have htm := tmod_two xi
              have hk2 := HK2.out
              have v1 : IntKind.i64.wrap (2 * k2) = 2 * k2 := IntWalk.i64_in _ (by omega)
              have v2 : IntKind.i64.wrap (2 * k2 + xi.tmod 2) = 2 * k2 + xi.tmod 2 := IntWalk.i64_in _ (by omega)
              have v3 : IntKind.i64.wrap (xi.tmod 2) = xi.tmod 2 := IntWalk.i64_in _ (by omega)
              have v4 : RowKit.wrap64 (xi.tmod 2) = xi.tmod 2 := IntWalk.wrap64_in _ (by omega)
              have v5 : RowKit.wrap64 (2 * k2 + xi.tmod 2) = 2 * k2 + xi.tmod 2 := IntWalk.wrap64_in _ (by omega)
              have CD := wheel_Add hw9 ⟨xt, 2 * k2 + xi.tmod 2⟩ (by show I64 xt ∧ I64 (2 * k2 + xi.tmod 2); have := HX.out.1; unfold I64 at this ⊢; dsimp only at this; omega) HLQ.out
              dsimp only at CD
              clear htm hk2
              go_wp2_with fail
              refine CD.mono ?_; rintro e w10 ⟨rfl, V9, hw10, hM10, hI10⟩
              have hMm := hM9.same (hM10.block nb hM9.lt (fun hg => wheel_notmap (s := { s with wb := nwb, V := V', l := renL f s.G s.now (s.l.take k) }) hw9 hM9 hg))
              have hO10 := ownK_mod hO9 hM10 HNI.out
              have hW10 := below_mod hW9 hM10 (fun g hg => HIN.out g hg)
              have HNI2 := Lib.hid (show ∀ g, (Value.slice (some ad) m ca).ownBlock = some g → ¬ wIn nwb V9 g from fun g hg hb => by
                rcases hI10 g hb with h1 | h1
                · exact HNI.out g hg h1
                · have := own_lt hO9 hg; omega)
              have HIN2 := Lib.hid (show ∀ g, wIn nwb V9 g → w.heap.size ≤ g from fun g hb => by
                rcases hI10 g hb with h1 | h1
                · exact HIN.out g h1
                · have := hW9.size; omega)
              rw [← HT2.out] at hw10
              clear CD hM10 hI10 hw9 hM9 hO9 hW9 x0 x1 PX9
              go_wp2
              go_roundg (m - (k + 1))
              case measure => omega
              case rel => exact ⟨k + 1, V9, by go_num, by omega, rfl, hw10, hMm, hO10, HNI2, hW10, HIN2⟩
        · obtain rfl : k = m := by omega
          have hge : ¬ (k : Int) < (k : Int) := by omega
          have hwf : WheelIs wr B nwb V' (renL f s.G s.now s.l) s.now := by
            rw [List.take_of_length_le (by rw [HM.out]; exact Nat.le_refl _)] at hw; exact hw
          have hBw2 := HB.out.keep hW
          obtain ⟨c0, c1, c2, c3, c4, c5, _⟩ := hBw2.blk.cells6
          obtain ⟨f0, f1, f2, f3, f4, f5⟩ := hBw2.blk.free6
          have hsb : s.bb < w.heap.size := HB.out.blk.lt
          have hMb : Mod (fun g => g = s.bb) wr ((wr.setCell ⟨s.bb, 5, none⟩ (.map (some nb))).setCell ⟨s.bb, 0, none⟩ (.pointer (some ⟨nwb, 0, none⟩))) := ((Mod.refl (fun g => g = s.bb) wr).setCell (p := ⟨s.bb, 5, none⟩) (.inl (show s.bb = s.bb from rfl)) _).setCell (p := ⟨s.bb, 0, none⟩) (.inl (show s.bb = s.bb from rfl)) _
          have hblk := ((hBw2.blk.setTo 5 (.map (some nb)) rfl).setTo 0 (.pointer (some ⟨nwb, 0, none⟩)) rfl : Blk ((wr.setCell ⟨s.bb, 5, none⟩ (.map (some nb))).setCell ⟨s.bb, 0, none⟩ (.pointer (some ⟨nwb, 0, none⟩))) s.bb 83 #[.pointer (some ⟨nwb, 0, none⟩), .int .i64 s.r.every, .int .i64 s.r.timeout, .int .i64 s.r.rise, .int .i64 s.r.fall, .map (some nb)])
          have HFIN := Lib.hid (show RenDone w ((wr.setCell ⟨s.bb, 5, none⟩ (.map (some nb))).setCell ⟨s.bb, 0, none⟩ (.pointer (some ⟨nwb, 0, none⟩))) B s f from by
            refine ⟨⟨s.bb, nwb, nb, s.n, V', renL f s.G s.now s.l, s.now, s.r, G2⟩, ⟨⟨hblk, HB.out.lowb, ?_, hwf.mod hMb (fun g hg e => ?_), (hMp.same (hMb.block nb hMp.lt (fun e => ?_))).mono hqn, fun i h hi => ?_, fun i j h k2 hi hj e => ?_, fun i h hi => ?_⟩, ?_, fun g hg => ?_⟩, rfl, rfl, rfl, rfl, rfl, HG2.out⟩
            · show B ≤ nb
              rw [HNB.out]; exact hBw
            · have := HIN.out g hg
              have e : g = s.bb := e
              omega
            · rw [HNB.out] at e; omega
            · obtain ⟨j, h1, h2⟩ := (HG2.out i h).1 hi
              obtain ⟨b1, b2⟩ := hBw2.host j h h2
              exact ⟨b1.mod hMb (fun e => hBw2.blk.ne_ b1 (by decide) e.symm), b2⟩
            · obtain ⟨i', a1, a2⟩ := (HG2.out i h).1 hi
              obtain ⟨j', b1, b2⟩ := (HG2.out j k2).1 hj
              have := hBw2.inj i' j' h k2 a2 b2 e
              subst this
              rw [a1] at b1
              exact Option.some.inj b1
            · obtain ⟨j, h1, h2⟩ := (HG2.out i h).1 hi
              exact HF1.out j i h1
            · exact ((Mod.of_below hW).setCell (p := ⟨s.bb, 5, none⟩) (.inl (show bIn s s.bb from .inl rfl)) _).setCell (p := ⟨s.bb, 0, none⟩) (.inl (show bIn s s.bb from .inl rfl)) _
            · rcases hg with h | h | h | ⟨i, h, hi, e⟩
              · exact .inl (.inl h)
              · exact .inr (HIN.out g h)
              · exact .inr (by rw [h, HNB.out]; exact Nat.le_refl _)
              · obtain ⟨j, h1, h2⟩ := (HG2.out i h).1 hi
                exact .inl (.inr (.inr (.inr ⟨j, h, h2, e⟩))))
          clear hw hMp hOa hwf hblk hMb hBw2
          go_wp2
          go_end0
          exact ⟨rfl, HFIN.out⟩
    · intro x cc w1 cnt1 hlx hfx hwx hrg1 hlt hg1 hs1 hen
      have HMET1 := Lib.hid (HMET.out.step hlx)
      have hW1 := belowK_grown hW hW.size hg1 (fun g hg => by cases hg; exact hrbw)
      have hM1 := hM.grown hg1 (by simp [hnr])
      have hlook := (HR.out.keep hW1).look hwx
      obtain ⟨h, hgx, hcc⟩ : ∃ h, s.G x = some h ∧ h.b = cc := by
        unfold ptrF at hfx
        obtain ⟨h, h1, h2⟩ := Option.map_eq_some_iff.1 hfx
        refine ⟨h, h1, ?_⟩
        unfold hPtr at h2
        injection h2 with h2
        injection h2 with h2
        injection h2
      have HSN := Lib.hid (renG_snoc f s.G ks x)
      rw [hgx] at HSN
      subst hcc
      cases hfi : f x with
      | none =>
        rw [hfi] at HSN hlook
        have HG := Lib.hid (show renG f s.G (ks ++ [x]) = renG f s.G ks from HSN.out)
        have HQ1 := Lib.hid (show q + cnt1 ≤ s.n by have := HQ.out; omega)
        clear hfi hgx hfx hlx hrg hW hM hg1 hs1 HMET HQ
        dsimp only [Option.getD_none, Option.isSome_none] at hlook
        go_wp2
        go_roundg cnt1
        case measure => omega
        case rel => exact ⟨_, ks ++ [x], cnt1, q, rfl, hrg1, HMET1, by rw [HG.out]; exact hM1, HQ1, hW1⟩
      | some k =>
        rw [hfi] at HSN hlook
        have hk := HF1.out x k hfi
        unfold okId at hk
        have HG := Lib.hid (show renG f s.G (ks ++ [x]) = updG (renG f s.G ks) k h from HSN.out)
        have HQ1 := Lib.hid (show q + 1 + cnt1 ≤ s.n by have := HQ.out; omega)
        have hqm : q < maxLen := by have := HQ.out; unfold maxLen; omega
        have hwk : (Lit.int .i64 k).wf = true := WalkArith.wf_i64 (by omega)
        have e1 : decide (0 ≤ k) = true := decide_eq_true hk.1
        have e2 : decide (k ≤ 1048576) = true := decide_eq_true hk.2
        have e3 : decide (k ≥ 0) = true := e1
        clear hfi hgx hfx hlx hrg hW hM hg1 hs1 HMET HQ
        dsimp only [Option.getD_some, Option.isSome_some] at hlook
        go_wp2_with (at_mapUpdate; go_loud (refine wpList_put_i _ rfl _ _ _ 81 rfl 3 123 .i64 Try.underlying3 Try.underlying81 nb q (ptrF (renG f s.G ks)) rfl hM1 hqm k (hPtr h) rfl rfl hwk ?_; intro w6 hMap6 hturn6))
        have hMo := turned_mod hturn6
        have hrg6 := hrg1.same (hMo.block s.mb hrg1.map.lt (fun e => hnbm e.symm)) (hMo.block rb hrg1.lt (fun e => hnr e.symm))
        have hW6 := below_mod hW1 hMo (fun g e => by rw [e, HNB.out]; exact Nat.le_refl _)
        have hM6 : IMap Try.prog 3 .i64 w6 nb (q + 1) (ptrF (renG f s.G (ks ++ [x]))) := by rw [HG.out, ptrF_upd]; exact hMap6
        clear hMo hMap6 hturn6 hM1 hrg1 hW1 hlook hk
        go_wp2
        go_roundg cnt1
        case measure => omega
        case rel => exact ⟨_, ks ++ [x], cnt1, q + 1, rfl, hrg6, HMET1, hM6, HQ1, hW6⟩
end Go.Proofs.Ytcpfekhpbjkgeaa
end
section
/- Hosts that get other numbers, in plain Lean. -/
set_option linter.unusedVariables false
namespace Go.Proofs.Ytcpfekhpbjkgeaa
open Go.Sort
/-- A host, twenty further on. -/
def shiftP (x : Ph) : Ph := ⟨x.up, x.asked, x.row, x.id + 20, x.next, x.last⟩
theorem mod_even (i : Int) : (2 * i).tmod 2 = 0 := Int.mul_tmod_right 2 i
theorem mod_odd {i : Int} (h : 0 ≤ i) : (2 * i + 1).tmod 2 = 1 := by rw [Int.tmod_eq_emod_of_nonneg (by omega)]; omega
theorem sim_rename {s s' : Bd} {L : List Ph} (h : Sim s L) {c : Ph → Bool} {f : Int → Option Int} (hf : ∀ i k, f i = some k ↔ ∃ x ∈ L, c x = true ∧ x.id = i ∧ k = i + 20) (h9 : ∀ x ∈ L, x.id ≤ 9) (hr : RightR s.r) (hn0 : 0 ≤ s.now) (hn : s.now ≤ 100000)
    (e1 : s'.now = s.now) (e2 : s'.r = s.r) (e3 : s'.l = renL f s.G s.now s.l) (e4 : ∀ k g, s'.G k = some g ↔ ∃ i, f i = some k ∧ s.G i = some g) : Sim s' ((L.filter c).map shiftP) := by
  have hnd := rise_nodup h.ids.1
  have huniq : ∀ x ∈ L, ∀ y ∈ L, x.id = y.id → x = y := fun x hx y hy e => by
    have h1 := find_mem hnd hx
    have h2 := find_mem hnd hy
    rw [e, h2] at h1
    exact (Option.some.inj h1).symm
  have hfy : ∀ x ∈ L, c x = true → f x.id = some (x.id + 20) := fun x hx hc => (hf _ _).2 ⟨x, hx, hc, rfl, rfl⟩
  have hfn : ∀ x ∈ L, c x = false → f x.id = none := fun x hx hc => by
    cases hh : f x.id with
    | none => rfl
    | some k =>
      obtain ⟨y, hy, hc2, e, _⟩ := (hf _ _).1 hh
      rw [huniq y hy x hx e, hc] at hc2; cases hc2
  have hit : ∀ x ∈ L, (itemsP s.r s.now x).filterMap (renI f s.G) = if c x = true then itemsP s.r s.now (shiftP x) else [] := fun x hx => by
    have hok := h.ok x hx
    obtain ⟨g, hg, _⟩ := view_some' (h.view x hx)
    have d1 : (2 * x.id).tdiv 2 = x.id := half_even _
    have d2 : (2 * x.id + 1).tdiv 2 = x.id := half_odd hok.id0
    have a1 : ∀ t, renI f s.G ⟨t, 2 * x.id⟩ = if c x = true then some ⟨t, 2 * (x.id + 20)⟩ else none := fun t => by
      unfold renI
      dsimp only
      rw [d1]
      cases hc : c x with
      | true => rw [hfy x hx hc, hg, mod_even]; simp
      | false => rw [hfn x hx hc]; simp
    have a2 : ∀ t, renI f s.G ⟨t, 2 * x.id + 1⟩ = if c x = true then some ⟨t, 2 * (x.id + 20) + 1⟩ else none := fun t => by
      unfold renI
      dsimp only
      rw [d2]
      cases hc : c x with
      | true => rw [hfy x hx hc, hg, mod_odd hok.id0]; simp
      | false => rw [hfn x hx hc]; simp
    unfold itemsP
    rw [List.filterMap_append]
    cases hc : c x with
    | true =>
      rw [hc] at a1 a2
      rw [if_pos rfl]
      congr 1
      · by_cases d : 0 ≤ x.last ∧ s.now < x.last + s.r.timeout
        · rw [if_pos d, if_pos (show 0 ≤ (shiftP x).last ∧ s.now < (shiftP x).last + s.r.timeout from d)]
          simp [a1, shiftP]
        · rw [if_neg d, if_neg (show ¬ (0 ≤ (shiftP x).last ∧ s.now < (shiftP x).last + s.r.timeout) from d)]; rfl
      · simp [a2, shiftP]
    | false =>
      rw [hc] at a1 a2
      rw [if_neg (show ¬ (false = true) by simp)]
      by_cases d : 0 ≤ x.last ∧ s.now < x.last + s.r.timeout
      · rw [if_pos d]; simp [a1, a2]
      · rw [if_neg d]; simp [a2]
  have hid : ∀ x, (shiftP x).id = x.id + 20 := fun _ => rfl
  refine ⟨⟨?_, fun i => ?_⟩, fun y hy => ?_, ?_, fun y hy => ?_⟩
  · rw [List.map_map]
    have h1 : (L.filter c).Pairwise fun a b => a.id < b.id := (List.pairwise_map.1 h.ids.1).filter c
    rw [List.pairwise_map]
    exact h1.imp fun {a b} hab => by show a.id + 20 < b.id + 20; omega
  · constructor
    · intro hh
      obtain ⟨y, hy, rfl⟩ := List.mem_map.1 hh
      obtain ⟨x, hx, rfl⟩ := List.mem_map.1 hy
      obtain ⟨hx1, hx2⟩ := List.mem_filter.1 hx
      obtain ⟨g, hg, _⟩ := view_some' (h.view x hx1)
      rw [hid, (e4 (x.id + 20) g).2 ⟨x.id, hfy x hx1 hx2, hg⟩]; rfl
    · intro hh
      obtain ⟨g, hg⟩ := Option.isSome_iff_exists.1 hh
      obtain ⟨j, h1, h2⟩ := (e4 i g).1 hg
      obtain ⟨x, hx, hc, e, e5⟩ := (hf _ _).1 h1
      exact List.mem_map.2 ⟨shiftP x, List.mem_map.2 ⟨x, List.mem_filter.2 ⟨hx, hc⟩, rfl⟩, by rw [hid, e, e5]⟩
  · obtain ⟨x, hx, rfl⟩ := List.mem_map.1 hy
    obtain ⟨hx1, hx2⟩ := List.mem_filter.1 hx
    obtain ⟨g, hg, eg⟩ := view_some' (h.view x hx1)
    show viewG s'.G (x.id + 20) = some x.see
    unfold viewG
    rw [(e4 (x.id + 20) g).2 ⟨x.id, hfy x hx1 hx2, hg⟩, ← eg]; rfl
  · rw [e1, e2, e3]
    have ht : ∀ x ∈ s.l, s.now < x.t ∧ x.t ≤ 1099511627776 := fun x hx => by
      obtain ⟨y, hy, hx2⟩ := List.mem_flatMap.1 (h.list.mem_iff.1 hx)
      have hok := h.ok y hy
      have h1 := hok.next
      have h2 := hok.far
      have h3 := hok.last
      unfold RightR at hr
      unfold itemsP at hx2
      rcases List.mem_append.1 hx2 with hx2 | hx2
      · split at hx2
        · rename_i d
          rw [List.mem_singleton] at hx2; subst hx2; dsimp only; omega
        · cases hx2
      · rw [List.mem_singleton] at hx2; subst hx2; dsimp only; omega
    refine (renL_perm ht).trans ((h.list.filterMap _).trans (List.Perm.of_eq ?_))
    rw [List.filterMap_flatMap, flatMap_eq hit, flatMap_filter_if c (fun x => itemsP s.r s.now (shiftP x)), List.flatMap_map]
  · obtain ⟨x, hx, rfl⟩ := List.mem_map.1 hy
    obtain ⟨hx1, hx2⟩ := List.mem_filter.1 hx
    obtain ⟨a1, a2, a3, a4, a5, a6, a7, a8, a9⟩ := h.ok x hx1
    have := h9 x hx1
    rw [e1, e2]
    exact ⟨by rw [hid]; omega, by rw [hid]; omega, a3, a4, a5, a6, a7, a8, a9⟩
end Go.Proofs.Ytcpfekhpbjkgeaa
end
