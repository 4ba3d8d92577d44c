/- Lemmas for the claim's proof: TreeH Copy CopyB. -/
import Derived.Test.YtblbgafadadbmaaQ05
import Derived.Test.YtblbgafadadbmaaQ07
section
/- tree.New. -/
set_option linter.unusedVariables false
namespace Go.Proofs.Ytblbgafadadbmaa
open Go.RowKit
set_option maxHeartbeats 4000000
set_option maxRecDepth 100000
/-- A tree at b that has these nodes. -/
def TreeAt (w : World) (b : Nat) (l : List Nd) : Prop :=
  ∃ vN vK vT vH ks r, TS w b vN vK vT vH l l.length ks (idx (isK 1) l) (idx (isK 4) l) (fun i => idx (under_ i) l) r
theorem TreeAt.alloc {w : World} {b : Nat} {l : List Nd} (h : TreeAt w b l) (o : Obj) : TreeAt (w.alloc o) b l := by
  obtain ⟨_, _, _, _, _, _, h⟩ := h
  exact ⟨_, _, _, _, _, _, h.alloc o⟩
theorem TS.keep {w w' : World} {b : Nat} {vN vK vT vH : Value} {lN : List Nd} {nK : Nat} {ks : List Value} {lT lH : List Int} {kids : Nat → List Int} {r : Nat → Nat} (h : TS w b vN vK vT vH lN nK ks lT lH kids r) (hx : Below w.heap.size w w') :
    TS w' b vN vK vT vH lN nK ks lT lH kids r := by
  have hg : w.grownBy w' none := ⟨hx.os, hx.tape, hx.output, hx.size, fun k hk _ => hx.block k hk⟩
  have hn : ∀ v : Value, v.ownBlock = none ∨ v.ownBlock ≠ none := fun v => by cases v.ownBlock <;> simp
  exact ⟨h.blk.keep hx, h.rN.kept hg (hn _), h.rK.kept hg (hn _), h.rT.kept hg (hn _), h.rH.kept hg (hn _), fun i hi => (h.rk i hi).kept hg (hn _), h.dT, h.dH, h.dk⟩
theorem TreeAt.keep {w w' : World} {b : Nat} {l : List Nd} (h : TreeAt w b l) (hx : Below w.heap.size w w') : TreeAt w' b l := by
  obtain ⟨_, _, _, _, _, _, h⟩ := h
  exact ⟨_, _, _, _, _, _, h.keep hx⟩
theorem TreeAt.lt {w : World} {b : Nat} {l : List Nd} (h : TreeAt w b l) : b < w.heap.size := by
  obtain ⟨_, _, _, _, _, _, h⟩ := h
  exact h.blk.lt
def okAt (l : List Nd) (j : Nat) : Prop := whyC (l.getD j nd0) (l.take j) = 0
theorem take_snocN (l : List Nd) (k : Nat) (h : k < l.length) : l.take (k + 1) = l.take k ++ [l.getD k nd0] := by
  rw [List.take_succ_eq_append_getElem h, List.getD_eq_getElem?_getD, List.getElem?_eq_getElem h]; rfl
theorem whyC_ok {x : Nd} {l : List Nd} (h : whyC x l = 0) : headC x l = 0 ∧ rightC x l = 0 ∧ full x l = false := by
  unfold whyC at h
  split at h
  · omega
  · rename_i h2
    have h2' : rightC x l = 0 := by omega
    refine ⟨?_, h2', ?_⟩
    · unfold rightC at h2'
      split at h2'
      · omega
      · rename_i h3; omega
    · split at h
      · omega
      · rename_i h3; simpa using h3
theorem ok_above {l : List Nd} {j : Nat} (hj : j < l.length) (h : okAt l j) : (l.getD j nd0).above < j ∧ -1 ≤ (l.getD j nd0).above := by
  have h2 := headC_zero (whyC_ok h).1
  have k0 := h2.kind0
  by_cases e : (l.getD j nd0).kind = 1
  · have := (h2.level e).2; omega
  · have := h2.below (by omega)
    have h3 := this.2.1
    rw [List.length_take] at h3
    omega
theorem no_kids {l : List Nd} {k : Nat} (hk : k ≤ l.length) (h : ∀ j, j < k → okAt l j) : idx (under_ k) (l.take k) = [] := by
  apply List.eq_nil_of_length_eq_zero
  rw [idx_count, List.countP_eq_zero]
  intro x hx
  obtain ⟨j, hj, rfl⟩ := List.mem_iff_getElem.1 hx
  have hj2 : j < k := by rw [List.length_take] at hj; omega
  have h1 := (ok_above (by omega) (h j hj2)).1
  have e : (l.take k)[j] = l.getD j nd0 := by
    rw [List.getElem_take, List.getD_eq_getElem?_getD, List.getElem?_eq_getElem (by omega)]; rfl
  rw [e]
  simp only [under_, beq_iff_eq]
  omega
theorem idx_le (p : Nd → Bool) (l : List Nd) : (idx p l).length ≤ l.length := by
  rw [idx_count]; exact List.countP_le_length
theorem treeAt_start (w : World) : TreeAt (w.alloc (.cells #[.slice none 0 0, .slice none 0 0, .slice none 0 0, .slice none 0 0] 114)) w.heap.size [] :=
  ⟨_, _, _, _, [], fun _ => 0, ⟨Blk.new _ _ _, World.ownsRow_nil _ _ _ _, World.ownsRow_nil _ _ _ _, World.ownsRow_nil _ _ _ _, World.ownsRow_nil _ _ _ _, fun i hi => absurd hi (Nat.not_lt_zero i), fun g hg => by simp [Value.ownBlock] at hg, fun g hg => by simp [Value.ownBlock] at hg, fun i g hi => absurd hi (Nat.not_lt_zero i)⟩⟩
/-- What New hands back. -/
def NewPost (l : List Nd) (n : Nat) (w : World) (e : Ending) (w' : World) : Prop :=
  (∃ k, k < n ∧ (∀ j, j < k → okAt l j) ∧ whyC (l.getD k nd0) (l.take k) ≠ 0 ∧ e = .returned (.tuple #[.pointer none, .int .i64 (k : Int), .int .i64 (whyC (l.getD k nd0) (l.take k))])) ∨
  ((∀ j, j < n → okAt l j) ∧ ∃ b, w.heap.size ≤ b ∧ e = .returned (.tuple #[.pointer (some ⟨b, 0, none⟩), .int .i64 0, .int .i64 0]) ∧ TreeAt w' b l)
theorem put_tree {l : List Nd} {k b : Nat} {x : Nd} {w' : World} (hk : k < l.length) (hx : x = l.getD k nd0) (h : PutDone b k (l.take k) (idx (isK 1) (l.take k)) (idx (isK 4) (l.take k)) (fun i => idx (under_ i) (l.take k)) x w') : TreeAt w' b (l.take (k + 1)) := by
  obtain ⟨vN, vK, vT, vH, ks, r, h⟩ := h
  have hlk : (l.take k).length = k := by rw [List.length_take]; omega
  have e0 : l.take (k + 1) = l.take k ++ [x] := by rw [take_snocN l k hk, hx]
  have e1 : (l.take (k + 1)).length = k + 1 := by rw [List.length_take]; omega
  have e2 : idx (isK 1) (l.take (k + 1)) = idx (isK 1) (l.take k) ++ if x.kind = 1 then [(k : Int)] else [] := by rw [e0, idx_snoc, hlk]; simp [isK]
  have e3 : idx (isK 4) (l.take (k + 1)) = idx (isK 4) (l.take k) ++ if x.kind = 4 then [(k : Int)] else [] := by rw [e0, idx_snoc, hlk]; simp [isK]
  have e4 : (fun i => idx (under_ i) (l.take (k + 1))) = fun i : Nat => if (i : Int) = x.above then idx (under_ i) (l.take k) ++ [(k : Int)] else idx (under_ i) (l.take k) := by
    funext i
    rw [e0, idx_snoc, hlk]
    by_cases e : (i : Int) = x.above
    · rw [if_pos e, if_pos (by simp [under_, e])]
    · rw [if_neg e, if_neg (by simp [under_]; omega), List.append_nil]
  refine ⟨vN, vK, vT, vH, ks, r, ?_⟩
  rw [e1, e2, e3, e4, e0]
  exact h
theorem full_def (x : Nd) (l : List Nd) (k : Nat) (hk : k ≤ l.length) : full x (l.take k) = (decide (1024 ≤ k) || (x.kind == 1 && decide (4 ≤ (idx (isK 1) (l.take k)).length)) || (x.kind == 4 && decide (512 ≤ (idx (isK 4) (l.take k)).length))) := by
  unfold full ofKind
  rw [idx_count, idx_count, List.length_take, Nat.min_eq_left hk]
  rfl
theorem tree_New (A : Option Addr) (n c : Nat) (l : List Nd) (w : World) (hl : IsNodes w A n c l) :
    Calls Try.prog 36 #[.slice A n c] w fun e w' => NewPost l n w e w' ∧ Below w.heap.size w w' := by
  have hcap := hl.cap
  have hsm := hl.small
  have hrc := hl.reach
  have hlen := Lib.hid hl.len
  have hT0 := treeAt_start w
  have hW0 : Below w.heap.size w (w.alloc (.cells #[.slice none 0 0, .slice none 0 0, .slice none 0 0, .slice none 0 0] 114)) := (Below.refl _ _).alloc (Nat.le_refl _) _
  go_enter Try.func36, Try.ntmps36
  go_wp2_with fail
  generalize w.alloc (.cells #[.slice none 0 0, .slice none 0 0, .slice none 0 0, .slice none 0 0] 114) = u at *
  go_loopg [13] n (fun gk s13 wr => ∃ k : Nat, k ≤ n ∧ gk = n - k ∧ s13 = .int .i64 k ∧ Hid (∀ j, j < k → okAt l j) ∧ TreeAt wr w.heap.size (l.take k) ∧ Below w.heap.size w wr)
  case atStart => exact ⟨0, Nat.zero_le _, rfl, rfl, Lib.hid (fun j hj => absurd hj (Nat.not_lt_zero j)), hT0, hW0⟩
  case round =>
    clear hT0 hW0
    obtain ⟨k, hk, rfl, rfl, hok, hT, hW⟩ := hrel
    by_cases hlt : k < n
    · have hlr := hl.keep hW
      obtain ⟨ad, rfl, hbk, d0, d1, d2, d3, d4, d5, d6⟩ := hlr.at_ hlt
      have hki : (k : Int) < (n : Int) := by omega
      have hx := hl.wfd k
      obtain ⟨x, hxx⟩ : ∃ x, x = l.getD k nd0 := ⟨_, rfl⟩
      rw [← hxx] at d0 d1 d2 d3 d4 d5 d6 hx
      have HX := Lib.hid hxx
      clear hxx
      have P := Blk.new wr 64 #[.string x.name, .int .i64 x.kind, .int .i64 x.above, .int .i64 x.weight, .bool x.six, .int .u64 x.hi, .int .u64 x.lo]
      have hT1 := hT.alloc (.cells #[.string x.name, .int .i64 x.kind, .int .i64 x.above, .int .i64 x.weight, .bool x.six, .int .u64 x.hi, .int .u64 x.lo] 64)
      have hW1 := hW.alloc hW.size (.cells #[.string x.name, .int .i64 x.kind, .int .i64 x.above, .int .i64 x.weight, .bool x.six, .int .u64 x.hi, .int .u64 x.lo] 64)
      go_wp2_with fail
      generalize wr.alloc (.cells #[.string x.name, .int .i64 x.kind, .int .i64 x.above, .int .i64 x.weight, .bool x.six, .int .u64 x.hi, .int .u64 x.lo] 64) = u1 at *
      have hl1 := (hl.keep hW1).cut (k := k) (by omega)
      have hkc : (k : Int) ≤ (c : Int) := by omega
      have hk0 : (0 : Int) ≤ (k : Int) := by omega
      obtain ⟨p0, p1, p2, p3, p4, p5, p6, _⟩ := P.cells7
      have U0 := cell_under p0
      have U1 := cell_under p1
      have U2 := cell_under p2
      have U3 := cell_under p3
      have U4 := cell_under p4
      have U5 := cell_under p5
      have U6 := cell_under p6
      clear d0 d1 d2 d3 d4 d5 d6 p0 p1 p2 p3 p4 p5 p6
      refine wp_region_quiet_under (by kernel_rfl) (by kernel_rfl) ?_
      repeat (go_big_quiet_step (((go_at_call 60; exact calls_under (tree_right x hx (some ad) k c (l.take k) _ (hl1.keep (under_below _ _)))))))
      refine wpQuiet_nil ?_
      intro wu hw'
      obtain ⟨pq, hw''⟩ := hw'
      have hU := below_eq hw''
      clear hw'' pq
      have P1 := P.keep hU
      have hT2 := hT1.keep hU
      have hW2 := below_step hW1 hU
      clear U0 U1 U2 U3 U4 U5 U6 P hT1 hT hW hW1 hU hlr hl1
      obtain ⟨R, hR⟩ : ∃ R, R = rightC x (l.take k) := ⟨_, rfl⟩
      rw [← hR]
      have HR := Lib.hid hR
      have hk1 : k < l.length := by rw [hlen.out]; exact hlt
      clear hR
      by_cases hR0 : R = 0
      · have g0 : (R != 0) = false := by simp [hR0]
        have hr0 : rightC x (l.take k) = 0 := by rw [← HR.out]; exact hR0
        have habv : x.above < k := by
          have h2 := headC_zero (show headC x (l.take k) = 0 by
            unfold rightC at hr0
            split at hr0
            · omega
            · rename_i h3; omega)
          have k0 := h2.kind0
          by_cases e : x.kind = 1
          · have := (h2.level e).2; omega
          · have := (h2.below (by omega)).2.1
            rw [List.length_take] at this
            omega
        have hfd := full_def x l k (Nat.le_of_lt hk1)
        have HW6 := Lib.hid (fun h => show whyC x (l.take k) = 6 from whyC_full hr0 h)
        have HW0 := Lib.hid (fun h => show whyC x (l.take k) = 0 from whyC_zero hr0 h)
        have hnk := Lib.hid (no_kids (Nat.le_of_lt hk1) hok.out)
        have hT3 := hT2
        obtain ⟨vN, vK, vT, vH, ks, r, hS⟩ := hT3
        have hlk : (l.take k).length = k := by rw [List.length_take]; omega
        rw [hlk] at hS
        have hi1 := idx_le (isK 1) (l.take k)
        have hi4 := idx_le (isK 4) (l.take k)
        have hik := Lib.hid (fun i => idx_le (under_ i) (l.take k))
        rw [hlk] at hi1 hi4
        have HLK := Lib.hid hlk
        obtain ⟨AN, cN, rfl⟩ := own_slice hS.rN
        obtain ⟨AT, cT, rfl⟩ := own_slice hS.rT
        obtain ⟨AH, cH, rfl⟩ := own_slice hS.rH
        rw [hlk] at hS
        clear hlk
        obtain ⟨c0, c1, c2, c3, _⟩ := hS.blk.cells4
        obtain ⟨p0, p1, p2, p3, p4, p5, p6, _⟩ := P1.cells7
        have D : ∀ (hf : full x (l.take k) = false), Calls Try.prog 61 #[.pointer (some ⟨w.heap.size, 0, none⟩), .agg #[.string x.name, .int .i64 x.kind, .int .i64 x.above, .int .i64 x.weight, .bool x.six, .int .u64 x.hi, .int .u64 x.lo]] wu fun e w' => e = .returned (.tuple #[]) ∧ TreeAt w' w.heap.size (l.take (k + 1)) ∧ Mod (w.heap.size ≤ ·) wu w' := fun hf => by
          have hk1024 : k ≤ 1024 := by
            rw [hfd] at hf
            simp at hf
            omega
          exact (tree_put w.heap.size _ _ _ _ (l.take k) ks _ _ _ r x hx wu k HLK.out hS hk1024 habv (by omega) (by omega) (fun i => Nat.le_trans (hik.out i) (by rw [HLK.out]; exact hk1024)) hnk.out).mono fun _ _ ⟨h1, h2, h3⟩ => ⟨h1, put_tree hk1 HX.out h2, h3⟩
        have HF := Lib.hid hfd
        generalize (idx (isK 1) (l.take k)).length = L at *
        generalize (idx (isK 4) (l.take k)).length = H at *
        clear hfd hr0 hR0
        have hkk : k < n := hlt
        by_cases a1 : 1024 ≤ k
        · have hf : full x (l.take k) = true := by rw [HF.out]; simp [*]
          have HE := Lib.hid (HW6.out hf)
          have f1 : decide ((1024 : Int) ≤ (k : Int)) = true := decide_eq_true (by omega)
          clear hf D HF HW6 HW0 a1
          go_wp2_with fail
          go_ret3
          exact ⟨.inl ⟨k, hlt, hok.out, by rw [← HX.out, HE.out]; decide, by rw [← HX.out, HE.out]; rfl⟩, hW2⟩
        by_cases a2 : x.kind = 1
        · by_cases a3 : 4 ≤ L
          · have hf : full x (l.take k) = true := by rw [HF.out]; simp [*]
            have HE := Lib.hid (HW6.out hf)
            have f1 : decide ((1024 : Int) ≤ (k : Int)) = false := decide_eq_false (by omega)
            have f2 : (x.kind == 1) = true := by rw [beq_iff_eq]; exact a2
            have f3 : decide ((4 : Int) ≤ (L : Int)) = true := decide_eq_true (by omega)
            clear hf D HF HW6 HW0 a2 a3
            go_wp2_with fail
            go_ret3
            exact ⟨.inl ⟨k, hlt, hok.out, by rw [← HX.out, HE.out]; decide, by rw [← HX.out, HE.out]; rfl⟩, hW2⟩
          · have hf : full x (l.take k) = false := by rw [HF.out]; simp [*] <;> omega
            have D1 := D hf
            have HOK := Lib.hid (show ∀ j, j < k + 1 → okAt l j from fun j hj => by
              by_cases e : j = k
              · subst e; unfold okAt; rw [← HX.out]; exact HW0.out hf
              · exact hok.out j (by omega))
            have f1 : decide ((1024 : Int) ≤ (k : Int)) = false := decide_eq_false (by omega)
            have f2 : (x.kind == 1) = true := by rw [beq_iff_eq]; exact a2
            have f3 : decide ((4 : Int) ≤ (L : Int)) = false := decide_eq_false (by omega)
            have f4 : (x.kind == 4) = false := by rw [beq_eq_false_iff_ne]; omega
            clear hf D HF HW6 HW0 a2 a3
            go_wp2_with fail
            refine D1.mono ?_; rintro e w3 ⟨rfl, hT4, hM⟩
            have hW3 := below_thenMod hW2 (Nat.le_refl _) hM (fun i hi => hi)
            clear D1 hS hT2 P1 c0 c1 c2 c3 p0 p1 p2 p3 p4 p5 p6
            go_wp2
            go_roundg (n - (k + 1))
            case measure => omega
            case rel => exact ⟨k + 1, by omega, rfl, by go_num, HOK, hT4, hW3⟩
        by_cases a4 : x.kind = 4
        · by_cases a5 : 512 ≤ H
          · have hf : full x (l.take k) = true := by rw [HF.out]; simp [*]
            have HE := Lib.hid (HW6.out hf)
            have f1 : decide ((1024 : Int) ≤ (k : Int)) = false := decide_eq_false (by omega)
            have f2 : (x.kind == 1) = false := by rw [beq_eq_false_iff_ne]; exact a2
            have f4 : (x.kind == 4) = true := by rw [beq_iff_eq]; exact a4
            have f5 : decide ((512 : Int) ≤ (H : Int)) = true := decide_eq_true (by omega)
            clear hf D HF HW6 HW0 a2 a4 a5
            go_wp2_with fail
            go_ret3
            exact ⟨.inl ⟨k, hlt, hok.out, by rw [← HX.out, HE.out]; decide, by rw [← HX.out, HE.out]; rfl⟩, hW2⟩
          · have hf : full x (l.take k) = false := by rw [HF.out]; simp [*] <;> omega
            have D1 := D hf
            have HOK := Lib.hid (show ∀ j, j < k + 1 → okAt l j from fun j hj => by
              by_cases e : j = k
              · subst e; unfold okAt; rw [← HX.out]; exact HW0.out hf
              · exact hok.out j (by omega))
            have f1 : decide ((1024 : Int) ≤ (k : Int)) = false := decide_eq_false (by omega)
            have f2 : (x.kind == 1) = false := by rw [beq_eq_false_iff_ne]; exact a2
            have f4 : (x.kind == 4) = true := by rw [beq_iff_eq]; exact a4
            have f5 : decide ((512 : Int) ≤ (H : Int)) = false := decide_eq_false (by omega)
            clear hf D HF HW6 HW0 a2 a4 a5
            go_wp2_with fail
            refine D1.mono ?_; rintro e w3 ⟨rfl, hT4, hM⟩
            have hW3 := below_thenMod hW2 (Nat.le_refl _) hM (fun i hi => hi)
            clear D1 hS hT2 P1 c0 c1 c2 c3 p0 p1 p2 p3 p4 p5 p6
            go_wp2
            go_roundg (n - (k + 1))
            case measure => omega
            case rel => exact ⟨k + 1, by omega, rfl, by go_num, HOK, hT4, hW3⟩
        have hf : full x (l.take k) = false := by rw [HF.out]; simp [*] <;> omega
        have D1 := D hf
        have HOK := Lib.hid (show ∀ j, j < k + 1 → okAt l j from fun j hj => by
          by_cases e : j = k
          · subst e; unfold okAt; rw [← HX.out]; exact HW0.out hf
          · exact hok.out j (by omega))
        have f1 : decide ((1024 : Int) ≤ (k : Int)) = false := decide_eq_false (by omega)
        have f2 : (x.kind == 1) = false := by rw [beq_eq_false_iff_ne]; exact a2
        have f4 : (x.kind == 4) = false := by rw [beq_eq_false_iff_ne]; exact a4
        clear hf D HF HW6 HW0 a2 a4
        go_wp2_with fail
        refine D1.mono ?_; rintro e w3 ⟨rfl, hT4, hM⟩
        have hW3 := below_thenMod hW2 (Nat.le_refl _) hM (fun i hi => hi)
        clear D1 hS hT2 P1 c0 c1 c2 c3 p0 p1 p2 p3 p4 p5 p6
        go_wp2
        go_roundg (n - (k + 1))
        case measure => omega
        case rel => exact ⟨k + 1, by omega, rfl, by go_num, HOK, hT4, hW3⟩
      · have g0 : (R != 0) = true := by simp [hR0]
        have HE := Lib.hid (show whyC x (l.take k) = R from (whyC_right (by rw [← HR.out]; exact hR0)).trans HR.out.symm)
        have HN := Lib.hid hR0
        clear hR0
        go_wp2_with fail
        go_ret3
        exact ⟨.inl ⟨k, hlt, hok.out, by rw [← HX.out, HE.out]; exact HN.out, by rw [← HX.out, HE.out]; rfl⟩, hW2⟩
    · obtain rfl : k = n := by omega
      rw [List.take_of_length_le (by rw [hlen.out]; exact Nat.le_refl _)] at hT
      go_wp2
      go_ret3
      exact ⟨.inr ⟨hok.out, _, Nat.le_refl _, rfl, hT⟩, hW⟩
end Go.Proofs.Ytblbgafadadbmaa
end
section
/- Copies of rows; places in them. -/
set_option linter.unusedVariables false
namespace Go.Proofs.Ytblbgafadadbmaa
open Go.RowKit
set_option maxHeartbeats 4000000
set_option maxRecDepth 100000
theorem own_nodes {w : World} {base : Nat} {v : Value} {n : Nat} {l : List Nd} (h : w.ownsRow base 64 7 v n (flat l)) (hwf : ∀ x ∈ l, x.Wf) (hr : n ≤ 8796093021952) :
    ∃ A c, v = .slice A n c ∧ IsNodes w A n c l ∧ (∀ ad, A = some ad → base ≤ ad.block) := by
  have hlen : l.length = n := by have := h.1; rw [flat_len] at this; omega
  rcases h.2 with ⟨rfl, rfl⟩ | ⟨g, cap, cur, rfl, hb, hh, hnc, hcm, hsz, htk⟩
  · have : l = [] := List.eq_nil_of_length_eq_zero hlen
    subst this
    exact ⟨none, 0, rfl, isNodes_nil w, fun ad h => (by cases h)⟩
  · refine ⟨some ⟨g, 0, none⟩, cap, rfl, ⟨⟨by rw [flat_len, hlen], fun hn => ⟨_, rfl, (Array.getElem?_eq_some_iff.1 hh).1, h.cells (g := g) rfl⟩⟩, hlen, hnc, by unfold maxLen at hcm; omega, hr, hwf⟩, fun ad h => by cases h; exact hb⟩
theorem nil_len {w : World} {B size n : Nat} {xs : List Value} (h : Reads w B size none n xs) : n = 0 := by
  rcases Nat.eq_zero_or_pos n with h0 | h0
  · exact h0
  · obtain ⟨ad, e, _⟩ := h.2 h0
    cases e
theorem clone_ints (A : Option Addr) (n c : Nat) (l : List Int) (w : World) (hl : IsList w .i64 A n c l) :
    Calls Try.prog 62 #[.slice A n c] w fun e w' => ∃ A' c', e = .returned (.slice A' n c') ∧ IsList w' .i64 A' n c' l ∧ (∀ ad, A' = some ad → w.heap.size ≤ ad.block) ∧ Below w.heap.size w w' := by
  have hlen := hl.len
  have hrc := hl.reach
  have hwf := hl.wf
  obtain ⟨iI, hiI, hzI, hzI1, hzI2⟩ := info_parts Try.infoI
  have q22 : ∀ (w : World) (a : Option Addr) (n c n' c' : Nat), (binOp .eql 23 (.slice a n c) (.slice none n' c')).run Try.prog w = .ok (.bool a.isNone) w := fun w a n c n' c' => Lib.run_eql_slice_nil w _ _ a n c n' c' Try.underlying23
  cases A with
  | none =>
    obtain rfl := nil_len hl.reads
    obtain rfl := List.eq_nil_of_length_eq_zero hlen
    go_enter Try.func62, Try.ntmps62
    go_wp2
    go_ret
    exact ⟨none, 0, rfl, isList_nil _ _, fun ad h => (by cases h), Below.refl _ _⟩
  | some ad =>
    have hR := hl.reads.alloc (Nat.le_refl _) (.cells #[] 3)
    go_enter Try.func62, Try.ntmps62
    go_wp2_with (at_builtin; refine wpList_append_any _ rfl (.tmp 5) (.tmp 6) _ rfl w.heap.size 3 iI _ 1 8 Try.underlying23 hiI hzI hzI1 hzI2 rfl (by decide) _ 0 [] rfl (World.ownsRow_made w #[] 0 (Nat.le_refl _) (Nat.zero_le _) rfl) _ (some ad) n c (ints l) rfl hR (ints_one' l) (by simp only [maxLen]; omega) (by omega) (by simp) ?_; intro v1 w1 hown hg hat)
    obtain ⟨A1, c1, rfl, hI, hb⟩ := own_list (by simpa using hown) hwf hrc
    go_wp2
    go_ret
    exact ⟨A1, c1, by simp, hI, hb, ((Below.refl _ w).alloc (Nat.le_refl _) _).grown hg (by simp) (by intro k hk; cases hk; exact Nat.le_refl _)⟩
theorem flat_one (l : List Nd) : ∀ u ∈ flat l, u.oneCell' = true := by
  intro u hu
  obtain ⟨x, _, hx⟩ := List.mem_flatMap.1 hu
  exact cells_one x u hx
end Go.Proofs.Ytblbgafadadbmaa
end
section
/- The first place of a row at which something is so. -/
set_option linter.unusedVariables false
namespace Go.Proofs.Ytblbgafadadbmaa
open Go.RowKit
set_option maxHeartbeats 4000000
set_option maxRecDepth 100000
/-- The first place at which something is so; -1: nowhere. -/
def idxF (p : Nd → Bool) (l : List Nd) : Int := match l.findIdx? p with
  | some k => k
  | none => -1
theorem idxF_hit {p : Nd → Bool} {l : List Nd} {k : Nat} (hk : k < l.length) (h : p (l.getD k nd0) = true) (hn : ∀ j, j < k → p (l.getD j nd0) = false) : idxF p l = k := by
  have e : ∀ j (hj : j < l.length), l.getD j nd0 = l[j] := fun j hj => by rw [List.getD_eq_getElem?_getD, List.getElem?_eq_getElem hj]; rfl
  have : l.findIdx? p = some k := by
    rw [List.findIdx?_eq_some_iff_getElem]
    refine ⟨hk, ?_, fun j hj => ?_⟩
    · rw [← e k hk]; exact h
    · rw [← e j (by omega), hn j hj]; simp
  unfold idxF
  rw [this]
theorem idxF_miss {p : Nd → Bool} {l : List Nd} (hn : ∀ j, j < l.length → p (l.getD j nd0) = false) : idxF p l = -1 := by
  have e : ∀ j (hj : j < l.length), l.getD j nd0 = l[j] := fun j hj => by rw [List.getD_eq_getElem?_getD, List.getElem?_eq_getElem hj]; rfl
  have : l.findIdx? p = none := by
    rw [List.findIdx?_eq_none_iff]
    intro x hx
    obtain ⟨j, hj, rfl⟩ := List.getElem_of_mem hx
    rw [← e j hj]
    exact hn j hj
  unfold idxF
  rw [this]
/-- The first place of a number. -/
def idxI (z : Int) (l : List Int) : Int := match l.findIdx? (fun x => x == z) with
  | some k => k
  | none => -1
theorem idxI_hit {z : Int} {l : List Int} {k : Nat} (hk : k < l.length) (h : l.getD k 0 = z) (hn : ∀ j, j < k → ¬ l.getD j 0 = z) : idxI z l = k := by
  have e : ∀ j (hj : j < l.length), l.getD j 0 = l[j] := fun j hj => by rw [List.getD_eq_getElem?_getD, List.getElem?_eq_getElem hj]; rfl
  have : l.findIdx? (fun x => x == z) = some k := by
    rw [List.findIdx?_eq_some_iff_getElem]
    refine ⟨hk, ?_, fun j hj => ?_⟩
    · rw [← e k hk, h]; simp
    · rw [← e j (by omega)]; simpa using hn j hj
  unfold idxI
  rw [this]
theorem idxI_miss {z : Int} {l : List Int} (hn : ∀ j, j < l.length → ¬ l.getD j 0 = z) : idxI z l = -1 := by
  have e : ∀ j (hj : j < l.length), l.getD j 0 = l[j] := fun j hj => by rw [List.getD_eq_getElem?_getD, List.getElem?_eq_getElem hj]; rfl
  have : l.findIdx? (fun x => x == z) = none := by
    rw [List.findIdx?_eq_none_iff]
    intro x hx
    obtain ⟨j, hj, rfl⟩ := List.getElem_of_mem hx
    rw [← e j hj]
    simpa using hn j hj
  unfold idxI
  rw [this]
/-- What is asked of a function that tells of a node: it may make memory, and turns nothing. -/
def Asks (g : FuncId) (lb : Array Value) (p : Nd → Bool) (w : World) : Prop :=
  (∀ args w, (callFunc g args).run Try.prog w = .ok (.enter g args) w) ∧
  ∀ (W : World) (x : Nd), x.Wf → Below w.heap.size w W → Calls Try.prog g (#[x.val] ++ lb) W fun e w' => e = .returned (.bool (p x)) ∧ Below W.heap.size W w'
theorem indexFunc_nodes (g : FuncId) (lb : Array Value) (p : Nd → Bool) (A : Option Addr) (n c : Nat) (l : List Nd) (w : World) (hl : IsNodes w A n c l) (hp : Asks g lb p w) :
    Calls Try.prog 92 #[.slice A n c, .func (.func g) #[] lb] w fun e w' => e = .returned (.int .i64 (idxF p l)) ∧ Below w.heap.size w w' := by
  have hlen := Lib.hid hl.len
  have hcap := hl.cap
  have hsm := hl.small
  obtain ⟨eg, hpp⟩ := hp
  go_enter Try.func92, Try.ntmps92
  go_wp2
  go_loopg [5, 8] n (fun gg _ s8 wr => ∃ k : Nat, k ≤ n ∧ gg = n - k ∧ s8 = .int .i64 k ∧ Below w.heap.size w wr ∧ Hid (∀ j, j < k → p (l.getD j nd0) = false))
  case atStart => exact ⟨0, Nat.zero_le _, rfl, rfl, Below.refl _ _, Lib.hid (fun j hj => absurd hj (Nat.not_lt_zero _))⟩
  case round =>
    obtain ⟨k, hk, rfl, rfl, hW, HN⟩ := hrel
    by_cases hkn : k < n
    · obtain ⟨ad, rfl, hbk, d0, d1, d2, d3, d4, d5, d6⟩ := (hl.keep hW).at_ hkn
      have hki : (k : Int) < (n : Int) := by omega
      have hxw := hl.wfd k
      have hcall := hpp wr (l.getD k nd0) hxw hW
      clear hpp
      have HH := Lib.hid (fun h => idxF_hit (p := p) (l := l) (k := k) (by rw [hlen.out]; exact hkn) h HN.out)
      have HM := Lib.hid (show p (l.getD k nd0) = false → ∀ j, j < k + 1 → p (l.getD j nd0) = false from fun (h : p (l.getD k nd0) = false) (j : Nat) (hj : j < k + 1) => show p (l.getD j nd0) = false from (by
        by_cases e : j = k
        · rw [e]; exact h
        · exact HN.out j (by omega)))
      unfold Nd.val at hcall
      generalize l.getD k nd0 = x at *
      generalize p x = b at *
      cases b with
      | true =>
        go_wp2_with fail
        refine hcall.mono ?_; rintro e w' ⟨rfl, hb'⟩
        go_wp2
        go_ret
        exact ⟨by rw [HH.out (by trivial)]; rfl, below_step hW hb'⟩
      | false =>
        go_wp2_with fail
        refine hcall.mono ?_; rintro e w' ⟨rfl, hb'⟩
        go_wp2
        go_roundg (n - (k + 1))
        case measure => omega
        case rel => exact ⟨k + 1, by omega, rfl, by go_num, below_step hW hb', Lib.hid (HM.out (by trivial))⟩
    · obtain rfl : k = n := by omega
      have HM := Lib.hid (idxF_miss (p := p) (l := l) (fun j hj => HN.out j (by rw [← hlen.out]; exact hj)))
      go_wp2
      go_ret
      exact ⟨by rw [HM.out]; rfl, hW⟩
theorem index_ints (A : Option Addr) (n c : Nat) (l : List Int) (z : Int) (w : World) (hl : IsList w .i64 A n c l) :
    Calls Try.prog 63 #[.slice A n c, .int .i64 z] w fun e w' => e = .returned (.int .i64 (idxI z l)) ∧ w = w' := by
  have hlen := Lib.hid hl.len
  have hcap := hl.cap
  have hsm := hl.small
  go_enter Try.func63, Try.ntmps63
  go_wp2
  go_loopg [5, 8] n (fun gg _ s8 wr => ∃ k : Nat, k ≤ n ∧ gg = n - k ∧ s8 = .int .i64 k ∧ w = wr ∧ Hid (∀ j, j < k → ¬ l.getD j 0 = z))
  case atStart => exact ⟨0, Nat.zero_le _, rfl, rfl, rfl, Lib.hid (fun j hj => absurd hj (Nat.not_lt_zero _))⟩
  case round =>
    obtain ⟨k, hk, rfl, rfl, rfl, HN⟩ := hrel
    by_cases hkn : k < n
    · obtain ⟨ad, rfl, hbk, x0, xw⟩ := hl.get hkn
      have hki : (k : Int) < (n : Int) := by omega
      have HH := Lib.hid (show l.getD k 0 = z → idxI z l = k from fun h => idxI_hit (by rw [hlen.out]; exact hkn) h HN.out)
      have HM := Lib.hid (show ¬ l.getD k 0 = z → ∀ j, j < k + 1 → ¬ l.getD j 0 = z from fun h j hj => (by
        by_cases e : j = k
        · rw [e]; exact h
        · exact HN.out j (by omega)))
      generalize l.getD k 0 = x at *
      by_cases hx : x = z
      · have g1 : (z == x) = true := by rw [beq_iff_eq]; exact hx.symm
        have HE := Lib.hid (HH.out hx)
        clear HH HM hx
        go_wp2
        go_ret
        exact ⟨by rw [HE.out]; rfl, rfl⟩
      · have g1 : (z == x) = false := by rw [beq_eq_false_iff_ne]; exact fun h => hx h.symm
        have HE := Lib.hid (HM.out hx)
        clear HH HM hx
        go_wp2
        go_roundg (n - (k + 1))
        case measure => omega
        case rel => exact ⟨k + 1, by omega, rfl, by go_num, rfl, HE⟩
    · obtain rfl : k = n := by omega
      have HM := Lib.hid (idxI_miss (z := z) (l := l) (fun j hj => HN.out j (by rw [← hlen.out]; exact hj)))
      go_wp2
      go_ret
      exact ⟨by rw [HM.out]; rfl, rfl⟩
end Go.Proofs.Ytblbgafadadbmaa
end
