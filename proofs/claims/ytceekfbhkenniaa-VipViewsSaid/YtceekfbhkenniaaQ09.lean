/- Lemmas for the claim's proof: TreeH Copy CopyB TreeJ TreeK. -/
import Derived.Shelf.Abstract
import Derived.Laws.Rows
import Derived.Test.YtceekfbhkenniaaQ05
import Derived.Test.YtceekfbhkenniaaQ08
section
/- tree.New. -/
set_option linter.unusedVariables false
namespace Go.Proofs.Ytceekfbhkenniaa
open Go.RowKit
set_option maxHeartbeats 4000000
set_option maxRecDepth 100000
/-- A tree at b that has these nodes. -/
def TreeAt (w : World) (b : Nat) (l : List Nd) : Prop :=
  ∃ vN vK vT vH ks r, TS w b vN vK vT vH l l.length ks (idx (isK 1) l) (idx (isK 4) l) (fun i => idx (under_ i) l) r
theorem TreeAt.alloc {w : World} {b : Nat} {l : List Nd} (h : TreeAt w b l) (o : Obj) : TreeAt (w.alloc o) b l := by
  obtain ⟨_, _, _, _, _, _, h⟩ := h
  exact ⟨_, _, _, _, _, _, h.alloc o⟩
theorem TS.keep {w w' : World} {b : Nat} {vN vK vT vH : Value} {lN : List Nd} {nK : Nat} {ks : List Value} {lT lH : List Int} {kids : Nat → List Int} {r : Nat → Nat} (h : TS w b vN vK vT vH lN nK ks lT lH kids r) (hx : Below w.heap.size w w') :
    TS w' b vN vK vT vH lN nK ks lT lH kids r := by
  have hg : w.grownBy w' none := ⟨hx.os, hx.tape, hx.output, hx.size, fun k hk _ => hx.block k hk⟩
  have hn : ∀ v : Value, v.ownBlock = none ∨ v.ownBlock ≠ none := fun v => by cases v.ownBlock <;> simp
  exact ⟨h.blk.keep hx, h.rN.kept hg (hn _), h.rK.kept hg (hn _), h.rT.kept hg (hn _), h.rH.kept hg (hn _), fun i hi => (h.rk i hi).kept hg (hn _), h.dT, h.dH, h.dk⟩
theorem TreeAt.keep {w w' : World} {b : Nat} {l : List Nd} (h : TreeAt w b l) (hx : Below w.heap.size w w') : TreeAt w' b l := by
  obtain ⟨_, _, _, _, _, _, h⟩ := h
  exact ⟨_, _, _, _, _, _, h.keep hx⟩
theorem TreeAt.lt {w : World} {b : Nat} {l : List Nd} (h : TreeAt w b l) : b < w.heap.size := by
  obtain ⟨_, _, _, _, _, _, h⟩ := h
  exact h.blk.lt
def okAt (l : List Nd) (j : Nat) : Prop := whyC (l.getD j nd0) (l.take j) = 0
theorem take_snocN (l : List Nd) (k : Nat) (h : k < l.length) : l.take (k + 1) = l.take k ++ [l.getD k nd0] := by
  rw [List.take_succ_eq_append_getElem h, List.getD_eq_getElem?_getD, List.getElem?_eq_getElem h]; rfl
theorem whyC_ok {x : Nd} {l : List Nd} (h : whyC x l = 0) : headC x l = 0 ∧ rightC x l = 0 ∧ full x l = false := by
  unfold whyC at h
  split at h
  · omega
  · rename_i h2
    have h2' : rightC x l = 0 := by omega
    refine ⟨?_, h2', ?_⟩
    · unfold rightC at h2'
      split at h2'
      · omega
      · rename_i h3; omega
    · split at h
      · omega
      · rename_i h3; simpa using h3
theorem ok_above {l : List Nd} {j : Nat} (hj : j < l.length) (h : okAt l j) : (l.getD j nd0).above < j ∧ -1 ≤ (l.getD j nd0).above := by
  have h2 := headC_zero (whyC_ok h).1
  have k0 := h2.kind0
  by_cases e : (l.getD j nd0).kind = 1
  · have := (h2.level e).2; omega
  · have := h2.below (by omega)
    have h3 := this.2.1
    rw [List.length_take] at h3
    omega
theorem no_kids {l : List Nd} {k : Nat} (hk : k ≤ l.length) (h : ∀ j, j < k → okAt l j) : idx (under_ k) (l.take k) = [] := by
  apply List.eq_nil_of_length_eq_zero
  rw [idx_count, List.countP_eq_zero]
  intro x hx
  obtain ⟨j, hj, rfl⟩ := List.mem_iff_getElem.1 hx
  have hj2 : j < k := by rw [List.length_take] at hj; omega
  have h1 := (ok_above (by omega) (h j hj2)).1
  have e : (l.take k)[j] = l.getD j nd0 := by
    rw [List.getElem_take, List.getD_eq_getElem?_getD, List.getElem?_eq_getElem (by omega)]; rfl
  rw [e]
  simp only [under_, beq_iff_eq]
  omega
theorem idx_le (p : Nd → Bool) (l : List Nd) : (idx p l).length ≤ l.length := by
  rw [idx_count]; exact List.countP_le_length
theorem treeAt_start (w : World) : TreeAt (w.alloc (.cells #[.slice none 0 0, .slice none 0 0, .slice none 0 0, .slice none 0 0] 85)) w.heap.size [] :=
  ⟨_, _, _, _, [], fun _ => 0, ⟨Blk.new _ _ _, World.ownsRow_nil _ _ _ _, World.ownsRow_nil _ _ _ _, World.ownsRow_nil _ _ _ _, World.ownsRow_nil _ _ _ _, fun i hi => absurd hi (Nat.not_lt_zero i), fun g hg => by simp [Value.ownBlock] at hg, fun g hg => by simp [Value.ownBlock] at hg, fun i g hi => absurd hi (Nat.not_lt_zero i)⟩⟩
/-- What New hands back. -/
def NewPost (l : List Nd) (n : Nat) (w : World) (e : Ending) (w' : World) : Prop :=
  (∃ k, k < n ∧ (∀ j, j < k → okAt l j) ∧ whyC (l.getD k nd0) (l.take k) ≠ 0 ∧ e = .returned (.tuple #[.pointer none, .int .i64 (k : Int), .int .i64 (whyC (l.getD k nd0) (l.take k))])) ∨
  ((∀ j, j < n → okAt l j) ∧ ∃ b, w.heap.size ≤ b ∧ e = .returned (.tuple #[.pointer (some ⟨b, 0, none⟩), .int .i64 0, .int .i64 0]) ∧ TreeAt w' b l)
theorem put_tree {l : List Nd} {k b : Nat} {x : Nd} {w' : World} (hk : k < l.length) (hx : x = l.getD k nd0) (h : PutDone b k (l.take k) (idx (isK 1) (l.take k)) (idx (isK 4) (l.take k)) (fun i => idx (under_ i) (l.take k)) x w') : TreeAt w' b (l.take (k + 1)) := by
  obtain ⟨vN, vK, vT, vH, ks, r, h⟩ := h
  have hlk : (l.take k).length = k := by rw [List.length_take]; omega
  have e0 : l.take (k + 1) = l.take k ++ [x] := by rw [take_snocN l k hk, hx]
  have e1 : (l.take (k + 1)).length = k + 1 := by rw [List.length_take]; omega
  have e2 : idx (isK 1) (l.take (k + 1)) = idx (isK 1) (l.take k) ++ if x.kind = 1 then [(k : Int)] else [] := by rw [e0, idx_snoc, hlk]; simp [isK]
  have e3 : idx (isK 4) (l.take (k + 1)) = idx (isK 4) (l.take k) ++ if x.kind = 4 then [(k : Int)] else [] := by rw [e0, idx_snoc, hlk]; simp [isK]
  have e4 : (fun i => idx (under_ i) (l.take (k + 1))) = fun i : Nat => if (i : Int) = x.above then idx (under_ i) (l.take k) ++ [(k : Int)] else idx (under_ i) (l.take k) := by
    funext i
    rw [e0, idx_snoc, hlk]
    by_cases e : (i : Int) = x.above
    · rw [if_pos e, if_pos (by simp [under_, e])]
    · rw [if_neg e, if_neg (by simp [under_]; omega), List.append_nil]
  refine ⟨vN, vK, vT, vH, ks, r, ?_⟩
  rw [e1, e2, e3, e4, e0]
  exact h
theorem full_def (x : Nd) (l : List Nd) (k : Nat) (hk : k ≤ l.length) : full x (l.take k) = (decide (1024 ≤ k) || (x.kind == 1 && decide (4 ≤ (idx (isK 1) (l.take k)).length)) || (x.kind == 4 && decide (512 ≤ (idx (isK 4) (l.take k)).length))) := by
  unfold full ofKind
  rw [idx_count, idx_count, List.length_take, Nat.min_eq_left hk]
  rfl
theorem tree_New (A : Option Addr) (n c : Nat) (l : List Nd) (w : World) (hl : IsNodes w A n c l) :
    Calls Try.prog 28 #[.slice A n c] w fun e w' => NewPost l n w e w' ∧ Below w.heap.size w w' := by
  have hcap := hl.cap
  have hsm := hl.small
  have hrc := hl.reach
  have hlen := Lib.hid hl.len
  have hT0 := treeAt_start w
  have hW0 : Below w.heap.size w (w.alloc (.cells #[.slice none 0 0, .slice none 0 0, .slice none 0 0, .slice none 0 0] 85)) := (Below.refl _ _).alloc (Nat.le_refl _) _
  go_enter Try.func28, Try.ntmps28
  go_wp2_with fail
  generalize w.alloc (.cells #[.slice none 0 0, .slice none 0 0, .slice none 0 0, .slice none 0 0] 85) = u at *
  go_loopg [13] n (fun gk s13 wr => ∃ k : Nat, k ≤ n ∧ gk = n - k ∧ s13 = .int .i64 k ∧ Hid (∀ j, j < k → okAt l j) ∧ TreeAt wr w.heap.size (l.take k) ∧ Below w.heap.size w wr)
  case atStart => exact ⟨0, Nat.zero_le _, rfl, rfl, Lib.hid (fun j hj => absurd hj (Nat.not_lt_zero j)), hT0, hW0⟩
  case round =>
    clear hT0 hW0
    obtain ⟨k, hk, rfl, rfl, hok, hT, hW⟩ := hrel
    by_cases hlt : k < n
    · have hlr := hl.keep hW
      obtain ⟨ad, rfl, hbk, d0, d1, d2, d3, d4, d5, d6⟩ := hlr.at_ hlt
      have hki : (k : Int) < (n : Int) := by omega
      have hx := hl.wfd k
      obtain ⟨x, hxx⟩ : ∃ x, x = l.getD k nd0 := ⟨_, rfl⟩
      rw [← hxx] at d0 d1 d2 d3 d4 d5 d6 hx
      have HX := Lib.hid hxx
      clear hxx
      have P := Blk.new wr 27 #[.string x.name, .int .i64 x.kind, .int .i64 x.above, .int .i64 x.weight, .bool x.six, .int .u64 x.hi, .int .u64 x.lo]
      have hT1 := hT.alloc (.cells #[.string x.name, .int .i64 x.kind, .int .i64 x.above, .int .i64 x.weight, .bool x.six, .int .u64 x.hi, .int .u64 x.lo] 27)
      have hW1 := hW.alloc hW.size (.cells #[.string x.name, .int .i64 x.kind, .int .i64 x.above, .int .i64 x.weight, .bool x.six, .int .u64 x.hi, .int .u64 x.lo] 27)
      go_wp2_with fail
      generalize wr.alloc (.cells #[.string x.name, .int .i64 x.kind, .int .i64 x.above, .int .i64 x.weight, .bool x.six, .int .u64 x.hi, .int .u64 x.lo] 27) = u1 at *
      have hl1 := (hl.keep hW1).cut (k := k) (by omega)
      have hkc : (k : Int) ≤ (c : Int) := by omega
      have hk0 : (0 : Int) ≤ (k : Int) := by omega
      obtain ⟨p0, p1, p2, p3, p4, p5, p6, _⟩ := P.cells7
      have U0 := cell_under p0
      have U1 := cell_under p1
      have U2 := cell_under p2
      have U3 := cell_under p3
      have U4 := cell_under p4
      have U5 := cell_under p5
      have U6 := cell_under p6
      clear d0 d1 d2 d3 d4 d5 d6 p0 p1 p2 p3 p4 p5 p6
      refine wp_region_quiet_under (by kernel_rfl) (by kernel_rfl) ?_
      repeat (go_big_quiet_step (((go_at_call 42; exact calls_under (tree_right x hx (some ad) k c (l.take k) _ (hl1.keep (under_below _ _)))))))
      refine wpQuiet_nil ?_
      intro wu hw'
      obtain ⟨pq, hw''⟩ := hw'
      have hU := below_eq hw''
      clear hw'' pq
      have P1 := P.keep hU
      have hT2 := hT1.keep hU
      have hW2 := below_step hW1 hU
      clear U0 U1 U2 U3 U4 U5 U6 P hT1 hT hW hW1 hU hlr hl1
      obtain ⟨R, hR⟩ : ∃ R, R = rightC x (l.take k) := ⟨_, rfl⟩
      rw [← hR]
      have HR := Lib.hid hR
      have hk1 : k < l.length := by rw [hlen.out]; exact hlt
      clear hR
      by_cases hR0 : R = 0
      · have g0 : (R != 0) = false := by simp [hR0]
        have hr0 : rightC x (l.take k) = 0 := by rw [← HR.out]; exact hR0
        have habv : x.above < k := by
          have h2 := headC_zero (show headC x (l.take k) = 0 by
            unfold rightC at hr0
            split at hr0
            · omega
            · rename_i h3; omega)
          have k0 := h2.kind0
          by_cases e : x.kind = 1
          · have := (h2.level e).2; omega
          · have := (h2.below (by omega)).2.1
            rw [List.length_take] at this
            omega
        have hfd := full_def x l k (Nat.le_of_lt hk1)
        have HW6 := Lib.hid (fun h => show whyC x (l.take k) = 6 from whyC_full hr0 h)
        have HW0 := Lib.hid (fun h => show whyC x (l.take k) = 0 from whyC_zero hr0 h)
        have hnk := Lib.hid (no_kids (Nat.le_of_lt hk1) hok.out)
        have hT3 := hT2
        obtain ⟨vN, vK, vT, vH, ks, r, hS⟩ := hT3
        have hlk : (l.take k).length = k := by rw [List.length_take]; omega
        rw [hlk] at hS
        have hi1 := idx_le (isK 1) (l.take k)
        have hi4 := idx_le (isK 4) (l.take k)
        have hik := Lib.hid (fun i => idx_le (under_ i) (l.take k))
        rw [hlk] at hi1 hi4
        have HLK := Lib.hid hlk
        obtain ⟨AN, cN, rfl⟩ := own_slice hS.rN
        obtain ⟨AT, cT, rfl⟩ := own_slice hS.rT
        obtain ⟨AH, cH, rfl⟩ := own_slice hS.rH
        rw [hlk] at hS
        clear hlk
        obtain ⟨c0, c1, c2, c3, _⟩ := hS.blk.cells4
        obtain ⟨p0, p1, p2, p3, p4, p5, p6, _⟩ := P1.cells7
        have D : ∀ (hf : full x (l.take k) = false), Calls Try.prog 43 #[.pointer (some ⟨w.heap.size, 0, none⟩), .agg #[.string x.name, .int .i64 x.kind, .int .i64 x.above, .int .i64 x.weight, .bool x.six, .int .u64 x.hi, .int .u64 x.lo]] wu fun e w' => e = .returned (.tuple #[]) ∧ TreeAt w' w.heap.size (l.take (k + 1)) ∧ Mod (w.heap.size ≤ ·) wu w' := fun hf => by
          have hk1024 : k ≤ 1024 := by
            rw [hfd] at hf
            simp at hf
            omega
          exact (tree_put w.heap.size _ _ _ _ (l.take k) ks _ _ _ r x hx wu k HLK.out hS hk1024 habv (by omega) (by omega) (fun i => Nat.le_trans (hik.out i) (by rw [HLK.out]; exact hk1024)) hnk.out).mono fun _ _ ⟨h1, h2, h3⟩ => ⟨h1, put_tree hk1 HX.out h2, h3⟩
        have HF := Lib.hid hfd
        generalize (idx (isK 1) (l.take k)).length = L at *
        generalize (idx (isK 4) (l.take k)).length = H at *
        clear hfd hr0 hR0
        have hkk : k < n := hlt
        by_cases a1 : 1024 ≤ k
        · have hf : full x (l.take k) = true := by rw [HF.out]; simp [*]
          have HE := Lib.hid (HW6.out hf)
          have f1 : decide ((1024 : Int) ≤ (k : Int)) = true := decide_eq_true (by omega)
          clear hf D HF HW6 HW0 a1
          go_wp2_with fail
          go_ret3
          exact ⟨.inl ⟨k, hlt, hok.out, by rw [← HX.out, HE.out]; decide, by rw [← HX.out, HE.out]; rfl⟩, hW2⟩
        by_cases a2 : x.kind = 1
        · by_cases a3 : 4 ≤ L
          · have hf : full x (l.take k) = true := by rw [HF.out]; simp [*]
            have HE := Lib.hid (HW6.out hf)
            have f1 : decide ((1024 : Int) ≤ (k : Int)) = false := decide_eq_false (by omega)
            have f2 : (x.kind == 1) = true := by rw [beq_iff_eq]; exact a2
            have f3 : decide ((4 : Int) ≤ (L : Int)) = true := decide_eq_true (by omega)
            clear hf D HF HW6 HW0 a2 a3
            go_wp2_with fail
            go_ret3
            exact ⟨.inl ⟨k, hlt, hok.out, by rw [← HX.out, HE.out]; decide, by rw [← HX.out, HE.out]; rfl⟩, hW2⟩
          · have hf : full x (l.take k) = false := by rw [HF.out]; simp [*] <;> omega
            have D1 := D hf
            have HOK := Lib.hid (show ∀ j, j < k + 1 → okAt l j from fun j hj => by
              by_cases e : j = k
              · subst e; unfold okAt; rw [← HX.out]; exact HW0.out hf
              · exact hok.out j (by omega))
            have f1 : decide ((1024 : Int) ≤ (k : Int)) = false := decide_eq_false (by omega)
            have f2 : (x.kind == 1) = true := by rw [beq_iff_eq]; exact a2
            have f3 : decide ((4 : Int) ≤ (L : Int)) = false := decide_eq_false (by omega)
            have f4 : (x.kind == 4) = false := by rw [beq_eq_false_iff_ne]; omega
            clear hf D HF HW6 HW0 a2 a3
            go_wp2_with fail
            refine D1.mono ?_; rintro e w3 ⟨rfl, hT4, hM⟩
            have hW3 := below_thenMod hW2 (Nat.le_refl _) hM (fun i hi => hi)
            clear D1 hS hT2 P1 c0 c1 c2 c3 p0 p1 p2 p3 p4 p5 p6
            go_wp2
            go_roundg (n - (k + 1))
            case measure => omega
            case rel => exact ⟨k + 1, by omega, rfl, by go_num, HOK, hT4, hW3⟩
        by_cases a4 : x.kind = 4
        · by_cases a5 : 512 ≤ H
          · have hf : full x (l.take k) = true := by rw [HF.out]; simp [*]
            have HE := Lib.hid (HW6.out hf)
            have f1 : decide ((1024 : Int) ≤ (k : Int)) = false := decide_eq_false (by omega)
            have f2 : (x.kind == 1) = false := by rw [beq_eq_false_iff_ne]; exact a2
            have f4 : (x.kind == 4) = true := by rw [beq_iff_eq]; exact a4
            have f5 : decide ((512 : Int) ≤ (H : Int)) = true := decide_eq_true (by omega)
            clear hf D HF HW6 HW0 a2 a4 a5
            go_wp2_with fail
            go_ret3
            exact ⟨.inl ⟨k, hlt, hok.out, by rw [← HX.out, HE.out]; decide, by rw [← HX.out, HE.out]; rfl⟩, hW2⟩
          · have hf : full x (l.take k) = false := by rw [HF.out]; simp [*] <;> omega
            have D1 := D hf
            have HOK := Lib.hid (show ∀ j, j < k + 1 → okAt l j from fun j hj => by
              by_cases e : j = k
              · subst e; unfold okAt; rw [← HX.out]; exact HW0.out hf
              · exact hok.out j (by omega))
            have f1 : decide ((1024 : Int) ≤ (k : Int)) = false := decide_eq_false (by omega)
            have f2 : (x.kind == 1) = false := by rw [beq_eq_false_iff_ne]; exact a2
            have f4 : (x.kind == 4) = true := by rw [beq_iff_eq]; exact a4
            have f5 : decide ((512 : Int) ≤ (H : Int)) = false := decide_eq_false (by omega)
            clear hf D HF HW6 HW0 a2 a4 a5
            go_wp2_with fail
            refine D1.mono ?_; rintro e w3 ⟨rfl, hT4, hM⟩
            have hW3 := below_thenMod hW2 (Nat.le_refl _) hM (fun i hi => hi)
            clear D1 hS hT2 P1 c0 c1 c2 c3 p0 p1 p2 p3 p4 p5 p6
            go_wp2
            go_roundg (n - (k + 1))
            case measure => omega
            case rel => exact ⟨k + 1, by omega, rfl, by go_num, HOK, hT4, hW3⟩
        have hf : full x (l.take k) = false := by rw [HF.out]; simp [*] <;> omega
        have D1 := D hf
        have HOK := Lib.hid (show ∀ j, j < k + 1 → okAt l j from fun j hj => by
          by_cases e : j = k
          · subst e; unfold okAt; rw [← HX.out]; exact HW0.out hf
          · exact hok.out j (by omega))
        have f1 : decide ((1024 : Int) ≤ (k : Int)) = false := decide_eq_false (by omega)
        have f2 : (x.kind == 1) = false := by rw [beq_eq_false_iff_ne]; exact a2
        have f4 : (x.kind == 4) = false := by rw [beq_eq_false_iff_ne]; exact a4
        clear hf D HF HW6 HW0 a2 a4
        go_wp2_with fail
        refine D1.mono ?_; rintro e w3 ⟨rfl, hT4, hM⟩
        have hW3 := below_thenMod hW2 (Nat.le_refl _) hM (fun i hi => hi)
        clear D1 hS hT2 P1 c0 c1 c2 c3 p0 p1 p2 p3 p4 p5 p6
        go_wp2
        go_roundg (n - (k + 1))
        case measure => omega
        case rel => exact ⟨k + 1, by omega, rfl, by go_num, HOK, hT4, hW3⟩
      · have g0 : (R != 0) = true := by simp [hR0]
        have HE := Lib.hid (show whyC x (l.take k) = R from (whyC_right (by rw [← HR.out]; exact hR0)).trans HR.out.symm)
        have HN := Lib.hid hR0
        clear hR0
        go_wp2_with fail
        go_ret3
        exact ⟨.inl ⟨k, hlt, hok.out, by rw [← HX.out, HE.out]; exact HN.out, by rw [← HX.out, HE.out]; rfl⟩, hW2⟩
    · obtain rfl : k = n := by omega
      rw [List.take_of_length_le (by rw [hlen.out]; exact Nat.le_refl _)] at hT
      go_wp2
      go_ret3
      exact ⟨.inr ⟨hok.out, _, Nat.le_refl _, rfl, hT⟩, hW⟩
end Go.Proofs.Ytceekfbhkenniaa
end
section
/- Copies of rows; places in them. -/
set_option linter.unusedVariables false
namespace Go.Proofs.Ytceekfbhkenniaa
open Go.RowKit
set_option maxHeartbeats 4000000
set_option maxRecDepth 100000
theorem own_nodes {w : World} {base : Nat} {v : Value} {n : Nat} {l : List Nd} (h : w.ownsRow base 27 7 v n (flat l)) (hwf : ∀ x ∈ l, x.Wf) (hr : n ≤ 8796093021952) :
    ∃ A c, v = .slice A n c ∧ IsNodes w A n c l ∧ (∀ ad, A = some ad → base ≤ ad.block) := by
  have hlen : l.length = n := by have := h.1; rw [flat_len] at this; omega
  rcases h.2 with ⟨rfl, rfl⟩ | ⟨g, cap, cur, rfl, hb, hh, hnc, hcm, hsz, htk⟩
  · have : l = [] := List.eq_nil_of_length_eq_zero hlen
    subst this
    exact ⟨none, 0, rfl, isNodes_nil w, fun ad h => (by cases h)⟩
  · refine ⟨some ⟨g, 0, none⟩, cap, rfl, ⟨⟨by rw [flat_len, hlen], fun hn => ⟨_, rfl, (Array.getElem?_eq_some_iff.1 hh).1, h.cells (g := g) rfl⟩⟩, hlen, hnc, by unfold maxLen at hcm; omega, hr, hwf⟩, fun ad h => by cases h; exact hb⟩
theorem nil_len {w : World} {B size n : Nat} {xs : List Value} (h : Reads w B size none n xs) : n = 0 := by
  rcases Nat.eq_zero_or_pos n with h0 | h0
  · exact h0
  · obtain ⟨ad, e, _⟩ := h.2 h0
    cases e
theorem clone_ints (A : Option Addr) (n c : Nat) (l : List Int) (w : World) (hl : IsList w .i64 A n c l) :
    Calls Try.prog 44 #[.slice A n c] w fun e w' => ∃ A' c', e = .returned (.slice A' n c') ∧ IsList w' .i64 A' n c' l ∧ (∀ ad, A' = some ad → w.heap.size ≤ ad.block) ∧ Below w.heap.size w w' := by
  have hlen := hl.len
  have hrc := hl.reach
  have hwf := hl.wf
  obtain ⟨iI, hiI, hzI, hzI1, hzI2⟩ := info_parts Try.infoI
  have q22 : ∀ (w : World) (a : Option Addr) (n c n' c' : Nat), (binOp .eql 79 (.slice a n c) (.slice none n' c')).run Try.prog w = .ok (.bool a.isNone) w := fun w a n c n' c' => Lib.run_eql_slice_nil w _ _ a n c n' c' Try.underlying79
  cases A with
  | none =>
    obtain rfl := nil_len hl.reads
    obtain rfl := List.eq_nil_of_length_eq_zero hlen
    go_enter Try.func44, Try.ntmps44
    go_wp2
    go_ret
    exact ⟨none, 0, rfl, isList_nil _ _, fun ad h => (by cases h), Below.refl _ _⟩
  | some ad =>
    have hR := hl.reads.alloc (Nat.le_refl _) (.cells #[] 3)
    go_enter Try.func44, Try.ntmps44
    go_wp2_with (at_builtin; refine wpList_append_any _ rfl (.tmp 5) (.tmp 6) _ rfl w.heap.size 3 iI _ 1 8 Try.underlying79 hiI hzI hzI1 hzI2 rfl (by decide) _ 0 [] rfl (World.ownsRow_made w #[] 0 (Nat.le_refl _) (Nat.zero_le _) rfl) _ (some ad) n c (ints l) rfl hR (ints_one' l) (by simp only [maxLen]; omega) (by omega) (by simp) ?_; intro v1 w1 hown hg hat)
    obtain ⟨A1, c1, rfl, hI, hb⟩ := own_list (by simpa using hown) hwf hrc
    go_wp2
    go_ret
    exact ⟨A1, c1, by simp, hI, hb, ((Below.refl _ w).alloc (Nat.le_refl _) _).grown hg (by simp) (by intro k hk; cases hk; exact Nat.le_refl _)⟩
theorem flat_one (l : List Nd) : ∀ u ∈ flat l, u.oneCell' = true := by
  intro u hu
  obtain ⟨x, _, hx⟩ := List.mem_flatMap.1 hu
  exact cells_one x u hx
end Go.Proofs.Ytceekfbhkenniaa
end
section
/- The first place of a row at which something is so. -/
set_option linter.unusedVariables false
namespace Go.Proofs.Ytceekfbhkenniaa
open Go.RowKit
set_option maxHeartbeats 4000000
set_option maxRecDepth 100000
/-- The first place at which something is so; -1: nowhere. -/
def idxF (p : Nd → Bool) (l : List Nd) : Int := match l.findIdx? p with
  | some k => k
  | none => -1
theorem idxF_hit {p : Nd → Bool} {l : List Nd} {k : Nat} (hk : k < l.length) (h : p (l.getD k nd0) = true) (hn : ∀ j, j < k → p (l.getD j nd0) = false) : idxF p l = k := by
  have e : ∀ j (hj : j < l.length), l.getD j nd0 = l[j] := fun j hj => by rw [List.getD_eq_getElem?_getD, List.getElem?_eq_getElem hj]; rfl
  have : l.findIdx? p = some k := by
    rw [List.findIdx?_eq_some_iff_getElem]
    refine ⟨hk, ?_, fun j hj => ?_⟩
    · rw [← e k hk]; exact h
    · rw [← e j (by omega), hn j hj]; simp
  unfold idxF
  rw [this]
theorem idxF_miss {p : Nd → Bool} {l : List Nd} (hn : ∀ j, j < l.length → p (l.getD j nd0) = false) : idxF p l = -1 := by
  have e : ∀ j (hj : j < l.length), l.getD j nd0 = l[j] := fun j hj => by rw [List.getD_eq_getElem?_getD, List.getElem?_eq_getElem hj]; rfl
  have : l.findIdx? p = none := by
    rw [List.findIdx?_eq_none_iff]
    intro x hx
    obtain ⟨j, hj, rfl⟩ := List.getElem_of_mem hx
    rw [← e j hj]
    exact hn j hj
  unfold idxF
  rw [this]
/-- The first place of a number. -/
def idxI (z : Int) (l : List Int) : Int := match l.findIdx? (fun x => x == z) with
  | some k => k
  | none => -1
theorem idxI_hit {z : Int} {l : List Int} {k : Nat} (hk : k < l.length) (h : l.getD k 0 = z) (hn : ∀ j, j < k → ¬ l.getD j 0 = z) : idxI z l = k := by
  have e : ∀ j (hj : j < l.length), l.getD j 0 = l[j] := fun j hj => by rw [List.getD_eq_getElem?_getD, List.getElem?_eq_getElem hj]; rfl
  have : l.findIdx? (fun x => x == z) = some k := by
    rw [List.findIdx?_eq_some_iff_getElem]
    refine ⟨hk, ?_, fun j hj => ?_⟩
    · rw [← e k hk, h]; simp
    · rw [← e j (by omega)]; simpa using hn j hj
  unfold idxI
  rw [this]
theorem idxI_miss {z : Int} {l : List Int} (hn : ∀ j, j < l.length → ¬ l.getD j 0 = z) : idxI z l = -1 := by
  have e : ∀ j (hj : j < l.length), l.getD j 0 = l[j] := fun j hj => by rw [List.getD_eq_getElem?_getD, List.getElem?_eq_getElem hj]; rfl
  have : l.findIdx? (fun x => x == z) = none := by
    rw [List.findIdx?_eq_none_iff]
    intro x hx
    obtain ⟨j, hj, rfl⟩ := List.getElem_of_mem hx
    rw [← e j hj]
    simpa using hn j hj
  unfold idxI
  rw [this]
/-- What is asked of a function that tells of a node: it may make memory, and turns nothing. -/
def Asks (g : FuncId) (lb : Array Value) (p : Nd → Bool) (w : World) : Prop :=
  (∀ args w, (callFunc g args).run Try.prog w = .ok (.enter g args) w) ∧
  ∀ (W : World) (x : Nd), x.Wf → Below w.heap.size w W → Calls Try.prog g (#[x.val] ++ lb) W fun e w' => e = .returned (.bool (p x)) ∧ Below W.heap.size W w'
end Go.Proofs.Ytceekfbhkenniaa
end
section
/- A tree that stands: what is read in it; copies of rows. -/
set_option linter.unusedVariables false
namespace Go.Proofs.Ytceekfbhkenniaa
open Go.RowKit
set_option maxHeartbeats 4000000
set_option maxRecDepth 100000
/-- A tree at b, to be read. -/
structure TR (w : World) (b : Nat) (l : List Nd) : Prop where
  wf : ∀ x ∈ l, x.Wf
  few : l.length ≤ 1024
  it : ∃ AN cN AK cK AT cT AH cH, Blk w b 85 #[.slice AN l.length cN, .slice AK l.length cK, .slice AT (idx (isK 1) l).length cT, .slice AH (idx (isK 4) l).length cH] ∧
    IsNodes w AN l.length cN l ∧ IsList w .i64 AT (idx (isK 1) l).length cT (idx (isK 1) l) ∧ IsList w .i64 AH (idx (isK 4) l).length cH (idx (isK 4) l) ∧ l.length ≤ cK ∧
    ∀ k, k < l.length → ∃ ad A c, AK = some ad ∧ ad.block < w.heap.size ∧ w.cell? (ad.add k) = some (.slice A (idx (under_ k) l).length c) ∧ IsList w .i64 A (idx (under_ k) l).length c (idx (under_ k) l)
theorem idx_wf (p : Nd → Bool) (l : List Nd) (h : l.length ≤ 1024) : ∀ z ∈ idx p l, (Lit.int .i64 z).wf = true := by
  intro z hz
  have := idx_bd p l z hz
  simp [Lit.wf, IntKind.min, IntKind.max, IntKind.signed, IntKind.bits]
  omega
theorem TreeAt.reads {w : World} {b : Nat} {l : List Nd} (h : TreeAt w b l) (hwf : ∀ x ∈ l, x.Wf) (hl : l.length ≤ 1024) : TR w b l := by
  obtain ⟨vN, vK, vT, vH, ks, r, h⟩ := h
  have h1 := idx_le (isK 1) l
  have h4 := idx_le (isK 4) l
  obtain ⟨AN, cN, rfl, hN, _⟩ := own_nodes h.rN hwf (by omega)
  obtain ⟨AT, cT, rfl, hT, _⟩ := own_list h.rT (idx_wf _ l hl) (by omega)
  obtain ⟨AH, cH, rfl, hH, _⟩ := own_list h.rH (idx_wf _ l hl) (by omega)
  refine ⟨hwf, hl, ?_⟩
  rcases h.rK.2 with ⟨rfl, h0⟩ | ⟨g, cap, cur, rfl, hb, hh, hnc, hcm, hsz, htk⟩
  · rw [h0]
    refine ⟨AN, cN, none, 0, AT, cT, AH, cH, h0 ▸ h.blk, h0 ▸ hN, hT, hH, Nat.le_refl _, fun k hk => absurd hk (Nat.not_lt_zero _)⟩
  · refine ⟨AN, cN, some ⟨g, 0, none⟩, cap, AT, cT, AH, cH, h.blk, hN, hT, hH, hnc, fun k hk => ?_⟩
    have hrk := h.rk k hk
    have h5 := idx_le (under_ k) l
    obtain ⟨A, c, e, hI, _⟩ := own_list hrk (idx_wf _ l hl) (by omega)
    have hc := h.rK.cells (g := g) rfl k (ks.getD k undef) (by
      have := h.len
      rw [List.getD_eq_getElem?_getD, List.getElem?_eq_getElem (by omega)]; rfl)
    rw [e] at hc
    exact ⟨_, A, c, rfl, (Array.getElem?_eq_some_iff.1 hh).1, hc, hI⟩
theorem TR.keep {w w' : World} {b : Nat} {l : List Nd} (h : TR w b l) (hx : Below w.heap.size w w') : TR w' b l := by
  obtain ⟨hwf, hl, AN, cN, AK, cK, AT, cT, AH, cH, hB, hN, hT, hH, hc, hk⟩ := h
  refine ⟨hwf, hl, AN, cN, AK, cK, AT, cT, AH, cH, hB.keep hx, hN.keep hx, hT.keep hx, hH.keep hx, hc, fun k hkk => ?_⟩
  obtain ⟨ad, A, c, e, hlt, hce, hI⟩ := hk k hkk
  exact ⟨ad, A, c, e, Nat.lt_of_lt_of_le hlt hx.size, cella_keep hce hx, hI.keep hx⟩
theorem TR.lt {w : World} {b : Nat} {l : List Nd} (h : TR w b l) : b < w.heap.size := by
  obtain ⟨hwf, hl, AN, cN, AK, cK, AT, cT, AH, cH, hB, _⟩ := h
  exact hB.lt
theorem tr_Len {b : Nat} {l : List Nd} {w : World} (h : TR w b l) : Calls Try.prog 14 #[.pointer (some ⟨b, 0, none⟩)] w fun e w' => e = .returned (.int .i64 (l.length : Int)) ∧ w = w' := by
  obtain ⟨hwf, hl, AN, cN, AK, cK, AT, cT, AH, cH, hB, _⟩ := h
  obtain ⟨c0, c1, c2, c3, _⟩ := hB.cells4
  go_enter Try.func14, Try.ntmps14
  go_wp2
  go_ret
  exact ⟨rfl, rfl⟩
theorem nd0_val : nd0.val = .agg #[.string ByteArray.empty, .int .i64 0, .int .i64 0, .int .i64 0, .bool false, .int .u64 0, .int .u64 0] := rfl
def zNode : Array Value := #[.string ⟨#[]⟩, .int .i64 0, .int .i64 0, .int .i64 0, .bool false, .int .u64 0, .int .u64 0]
theorem Blk.turn7 {u : World} {g : Nat} {T : TypeId} {a0 a1 a2 a3 a4 a5 a6 : Value} (h : Blk u g T #[a0, a1, a2, a3, a4, a5, a6]) (v0 v1 v2 v3 v4 v5 v6 : Value) :
    Blk (((((((u.setCell ⟨g, 0, none⟩ v0).setCell ⟨g, 1, none⟩ v1).setCell ⟨g, 2, none⟩ v2).setCell ⟨g, 3, none⟩ v3).setCell ⟨g, 4, none⟩ v4).setCell ⟨g, 5, none⟩ v5).setCell ⟨g, 6, none⟩ v6) g T #[v0, v1, v2, v3, v4, v5, v6] :=
  ((((((h.setTo 0 v0 rfl).setTo 1 v1 rfl).setTo 2 v2 rfl).setTo 3 v3 rfl).setTo 4 v4 rfl).setTo 5 v5 rfl).setTo 6 v6 rfl
theorem below_turn7 {w u : World} {g B : Nat} (h : Below B w u) (hg : B ≤ g) (v0 v1 v2 v3 v4 v5 v6 : Value) : Below B w (((((((u.setCell ⟨g, 0, none⟩ v0).setCell ⟨g, 1, none⟩ v1).setCell ⟨g, 2, none⟩ v2).setCell ⟨g, 3, none⟩ v3).setCell ⟨g, 4, none⟩ v4).setCell ⟨g, 5, none⟩ v5).setCell ⟨g, 6, none⟩ v6) :=
  below_own (below_own (below_own (below_own (below_own (below_own (below_own h hg 0 v0) hg 1 v1) hg 2 v2) hg 3 v3) hg 4 v4) hg 5 v5) hg 6 v6
theorem sizeNode : (Try.prog.info? 27).map (·.size) = some 7 := by kernel_rfl
theorem tr_NodeIn {b : Nat} {l : List Nd} {w : World} (h : TR w b l) (i : Nat) (hi : i < l.length) : Calls Try.prog 15 #[.pointer (some ⟨b, 0, none⟩), .int .i64 i] w fun e w' => e = .returned (l.getD i nd0).val ∧ Below w.heap.size w w' := by
  have hA : Below w.heap.size w (w.alloc (.cells zNode 27)) := (Below.refl _ _).alloc (Nat.le_refl _) _
  have hP := Blk.new w 27 zNode
  have h0 := h.keep hA
  unfold zNode at hA hP h0
  have h1 := h0
  obtain ⟨x, hx⟩ : ∃ x, x = l.getD i nd0 := ⟨_, rfl⟩
  rw [← hx]
  unfold Nd.val
  obtain ⟨hwf, hl, AN, cN, AK, cK, AT, cT, AH, cH, hB, hN, _⟩ := h1
  have hcap := hN.cap
  have hsm := hN.small
  have hii : (i : Int) < (l.length : Int) := by omega
  have g1 : decide ((i : Int) < 0) = false := decide_eq_false (by omega)
  have g2 : decide ((l.length : Int) ≤ (i : Int)) = false := decide_eq_false (by omega)
  go_enter Try.func15, Try.ntmps15
  go_upto_region 1 with (fail)
  generalize w.alloc (.cells #[.string ⟨#[]⟩, .int .i64 0, .int .i64 0, .int .i64 0, .bool false, .int .u64 0, .int .u64 0] 27) = u at *
  obtain ⟨c0, c1, c2, c3, _⟩ := hB.cells4
  obtain ⟨ad, rfl, hbk, d0, d1, d2, d3, d4, d5, d6⟩ := hN.at_ hi
  obtain ⟨p0, p1, p2, p3, p4, p5, p6, _⟩ := hP.cells7
  obtain ⟨f0, f1, f2, f3, f4, f5, f6⟩ := hP.free7
  rw [← hx] at d0 d1 d2 d3 d4 d5 d6
  have HX := Lib.hid hx
  clear hx
  go_wp2_with fail
  refine (tr_Len h0).mono ?_; rintro e w' ⟨rfl, rfl⟩
  go_wp2
  have hQ := hP.turn7 (.string x.name) (.int .i64 x.kind) (.int .i64 x.above) (.int .i64 x.weight) (.bool x.six) (.int .u64 x.hi) (.int .u64 x.lo)
  refine bodyPost_ret (results_cell_row rfl _ _ _ _ _ (0, 0) _ rfl hQ Try.underlying27 rfl sizeNode) rfl ⟨rfl, below_turn7 hA (Nat.le_refl _) _ _ _ _ _ _ _⟩
theorem tr_NodeOut {b : Nat} {l : List Nd} {w : World} (h : TR w b l) (i : Int) (hi : i < 0 ∨ l.length ≤ i) : Calls Try.prog 15 #[.pointer (some ⟨b, 0, none⟩), .int .i64 i] w fun e w' => e = .returned nd0.val ∧ Below w.heap.size w w' := by
  have hA : Below w.heap.size w (w.alloc (.cells zNode 27)) := (Below.refl _ _).alloc (Nat.le_refl _) _
  have hP := Blk.new w 27 zNode
  have h1 := h.keep hA
  unfold zNode at hA hP h1
  by_cases h0 : i < 0
  · have g1 : decide (i < 0) = true := decide_eq_true h0
    go_enter Try.func15, Try.ntmps15
    go_upto_region 1 with (fail)
    generalize w.alloc (.cells #[.string ⟨#[]⟩, .int .i64 0, .int .i64 0, .int .i64 0, .bool false, .int .u64 0, .int .u64 0] 27) = u at *
    obtain ⟨p0, p1, p2, p3, p4, p5, p6, _⟩ := hP.cells7
    obtain ⟨f0, f1, f2, f3, f4, f5, f6⟩ := hP.free7
    go_wp2
    have hQ := hP.turn7 (.string ⟨#[]⟩) (.int .i64 0) (.int .i64 0) (.int .i64 0) (.bool false) (.int .u64 0) (.int .u64 0)
    refine bodyPost_ret (results_cell_row rfl _ _ _ _ _ (0, 0) _ rfl hQ Try.underlying27 rfl sizeNode) rfl ⟨rfl, below_turn7 hA (Nat.le_refl _) _ _ _ _ _ _ _⟩
  · have g1 : decide (i < 0) = false := decide_eq_false h0
    have g2 : decide ((l.length : Int) ≤ i) = true := decide_eq_true (by omega)
    go_enter Try.func15, Try.ntmps15
    go_upto_region 1 with (fail)
    generalize w.alloc (.cells #[.string ⟨#[]⟩, .int .i64 0, .int .i64 0, .int .i64 0, .bool false, .int .u64 0, .int .u64 0] 27) = u at *
    obtain ⟨p0, p1, p2, p3, p4, p5, p6, _⟩ := hP.cells7
    obtain ⟨f0, f1, f2, f3, f4, f5, f6⟩ := hP.free7
    go_wp2_with fail
    refine (tr_Len h1).mono ?_; rintro e w' ⟨rfl, rfl⟩
    go_wp2
    have hQ := hP.turn7 (.string ⟨#[]⟩) (.int .i64 0) (.int .i64 0) (.int .i64 0) (.bool false) (.int .u64 0) (.int .u64 0)
    refine bodyPost_ret (results_cell_row rfl _ _ _ _ _ (0, 0) _ rfl hQ Try.underlying27 rfl sizeNode) rfl ⟨rfl, below_turn7 hA (Nat.le_refl _) _ _ _ _ _ _ _⟩
/-- The node at a place; the one that nobody made, if there is none. -/
def ndAt (l : List Nd) (i : Int) : Nd := if 0 ≤ i then l.getD i.toNat nd0 else nd0
theorem ndAt_nat (l : List Nd) (i : Nat) : ndAt l i = l.getD i nd0 := by unfold ndAt; rw [if_pos (by omega)]; rfl
theorem ndAt_out (l : List Nd) (i : Int) (h : i < 0 ∨ l.length ≤ i) : ndAt l i = nd0 := by
  unfold ndAt
  split
  · rw [List.getD_eq_getElem?_getD, List.getElem?_eq_none (by omega)]; rfl
  · rfl
theorem tr_Node {b : Nat} {l : List Nd} {w : World} (h : TR w b l) (i : Int) : Calls Try.prog 15 #[.pointer (some ⟨b, 0, none⟩), .int .i64 i] w fun e w' => e = .returned (ndAt l i).val ∧ Below w.heap.size w w' := by
  by_cases hi : i < 0 ∨ l.length ≤ i
  · rw [ndAt_out l i hi]; exact tr_NodeOut h i hi
  · obtain ⟨j, rfl⟩ : ∃ j : Nat, i = j := ⟨i.toNat, by omega⟩
    rw [ndAt_nat]; exact tr_NodeIn h j (by omega)
theorem tr_Levels {b : Nat} {l : List Nd} {w : World} (h : TR w b l) : Calls Try.prog 32 #[.pointer (some ⟨b, 0, none⟩)] w fun e w' => ∃ A c, e = .returned (.slice A (idx (isK 1) l).length c) ∧ IsList w' .i64 A (idx (isK 1) l).length c (idx (isK 1) l) ∧ (∀ ad, A = some ad → w.heap.size ≤ ad.block) ∧ Below w.heap.size w w' := by
  obtain ⟨hwf, hl, AN, cN, AK, cK, AT, cT, AH, cH, hB, hN, hT, hH, _⟩ := h
  obtain ⟨c0, c1, c2, c3, _⟩ := hB.cells4
  go_enter Try.func32, Try.ntmps32
  go_wp2_with fail
  refine (clone_ints AT _ cT _ w hT).mono ?_; rintro e w' ⟨A', c', rfl, hI, hb, hx⟩
  go_wp2
  go_ret
  exact ⟨A', c', rfl, hI, hb, hx⟩
/-- Those right below a node. -/
def kidsOf (l : List Nd) (i : Int) : List Int := if 0 ≤ i ∧ i < l.length then idx (under_ i.toNat) l else []
end Go.Proofs.Ytceekfbhkenniaa
end
section
/- Up, Below, Level; the law's up and same. -/
set_option linter.unusedVariables false
namespace Go.Proofs.Ytceekfbhkenniaa
open Go.RowKit
set_option maxHeartbeats 4000000
set_option maxRecDepth 100000
/-- The node of a kind that one is, or is below, within so many steps. -/
def upF (l : List Nd) (kind : Int) : Nat → Int → Int
  | 0, _ => -1
  | f + 1, i => if 0 ≤ i ∧ i < l.length then (if (ndAt l i).kind = kind then i else upF l kind f (ndAt l i).above) else -1
def Rises (l : List Nd) : Prop := ∀ j, j < l.length → (l.getD j nd0).above < j
theorem upF_same {l : List Nd} (hl : Rises l) (kind : Int) : ∀ (f f' : Nat) (i : Int), i < f → i < f' → upF l kind f i = upF l kind f' i
  | 0, 0, _, _, _ => rfl
  | 0, f' + 1, i, h, _ => by rw [upF, upF, if_neg (by omega)]
  | f + 1, 0, i, _, h => by rw [upF, upF, if_neg (by omega)]
  | f + 1, f' + 1, i, h, h' => by
    rw [upF, upF]
    by_cases hi : 0 ≤ i ∧ i < l.length
    · rw [if_pos hi, if_pos hi]
      have := hl i.toNat (by omega)
      have e : ndAt l i = l.getD i.toNat nd0 := by unfold ndAt; rw [if_pos hi.1]
      rw [← e] at this
      rw [upF_same hl kind f f' (ndAt l i).above (by omega) (by omega)]
    · rw [if_neg hi, if_neg hi]
/-- The node of a kind above one, or itself. -/
def up (l : List Nd) (kind i : Int) : Int := upF l kind l.length i
theorem up_out (l : List Nd) (kind i : Int) (h : i < 0 ∨ l.length ≤ i) : up l kind i = -1 := by
  unfold up
  cases hl : l.length with
  | zero => rfl
  | succ n => rw [upF, if_neg (by omega)]
theorem up_hit (l : List Nd) (kind i : Int) (h0 : 0 ≤ i) (h1 : i < l.length) (h : (ndAt l i).kind = kind) : up l kind i = i := by
  unfold up
  obtain ⟨n, hn⟩ : ∃ n, l.length = n + 1 := ⟨l.length - 1, by omega⟩
  rw [hn, upF, if_pos ⟨h0, h1⟩, if_pos h]
theorem up_step (l : List Nd) (hl : Rises l) (kind i : Int) (h0 : 0 ≤ i) (h1 : i < l.length) (h : ¬ (ndAt l i).kind = kind) : up l kind i = up l kind (ndAt l i).above := by
  have := hl i.toNat (by omega)
  have e : ndAt l i = l.getD i.toNat nd0 := by unfold ndAt; rw [if_pos h0]
  rw [← e] at this
  unfold up
  rw [upF_same hl kind l.length (l.length + 1) i (by omega) (by omega), upF, if_pos ⟨h0, h1⟩, if_neg h]
theorem push_below {w u v : World} {row : Option Nat} (hW : Below w.heap.size w u) (hg : u.grownBy v row) (hr : ∀ g, row = some g → w.heap.size ≤ g) : Below w.heap.size w v := hW.grown hg hW.size hr
theorem own_from {w : World} {base : Nat} {e : TypeId} {s n : Nat} {v : Value} {xs : List Value} (h : w.ownsRow base e s v n xs) : ∀ g, v.ownBlock = some g → base ≤ g := fun g hg => (h.lt g hg).1
theorem own_keep {w w' : World} {base : Nat} {e : TypeId} {s n : Nat} {v : Value} {xs : List Value} (h : w.ownsRow base e s v n xs) (hx : Below w.heap.size w w') : w'.ownsRow base e s v n xs :=
  h.kept (row := none) ⟨hx.os, hx.tape, hx.output, hx.size, fun k hk _ => hx.block k hk⟩ (by cases v.ownBlock <;> simp)
/-- The hosts below a node, or itself. -/
def belowOf (l : List Nd) (i : Int) : List Int := if (ndAt l i).kind = 0 then [] else (idx (isK 4) l).filter fun h => up l (ndAt l i).kind h == i
end Go.Proofs.Ytceekfbhkenniaa
end
