/- Lemmas for the claim's proof: HealthI HealthJ HealthK HealthL HealthM HealthN. -/
import Derived.Test.YtcpfekhpbjkgeaaQ10
import Derived.Test.YtcpfekhpbjkgeaaQ16
section
/- Rules that may be; a new board. -/
set_option linter.unusedVariables false
namespace Go.Proofs.Ytcpfekhpbjkgeaa
open Go.RowKit Go.Maps
set_option maxHeartbeats 8000000
set_option maxRecDepth 100000
def RightR (r : Rul) : Prop := 1 ≤ r.every ∧ r.every ≤ 1048576 ∧ 1 ≤ r.timeout ∧ r.timeout ≤ r.every ∧ 1 ≤ r.rise ∧ r.rise ≤ 100 ∧ 1 ≤ r.fall ∧ r.fall ≤ 100
instance (r : Rul) : Decidable (RightR r) := by unfold RightR; infer_instance
def rightB (r : Rul) : Bool := decide (RightR r)
theorem rightB_t {r : Rul} (h : RightR r) : rightB r = true := decide_eq_true h
theorem rightB_f {r : Rul} (h : ¬ RightR r) : rightB r = false := decide_eq_false h
theorem health_Right (r : Rul) (w : World) : Calls Try.prog 25 #[.agg #[.int .i64 r.every, .int .i64 r.timeout, .int .i64 r.rise, .int .i64 r.fall]] w fun e w' => e = .returned (.bool (rightB r)) ∧ Below w.heap.size w w' := by
  have hA := (Below.refl w.heap.size w).alloc (Nat.le_refl _) (.cells #[.int .i64 r.every, .int .i64 r.timeout, .int .i64 r.rise, .int .i64 r.fall] 49)
  have HT := Lib.hid (fun (h : RightR r) => rightB_t h)
  have HF := Lib.hid (fun (h : ¬ RightR r) => rightB_f h)
  unfold RightR at HT HF
  generalize rightB r = T at *
  obtain ⟨re, rt, rr, rf⟩ := r
  dsimp only at *
  go_enter Try.func25, Try.ntmps25
  by_cases a1 : 1 ≤ re
  · have b1 : decide (1 ≤ re) = true := decide_eq_true a1
    by_cases a2 : re ≤ 1048576
    · have b2 : decide (re ≤ 1048576) = true := decide_eq_true a2
      by_cases a3 : 1 ≤ rt
      · have b3 : decide (1 ≤ rt) = true := decide_eq_true a3
        by_cases a4 : rt ≤ re
        · have b4 : decide (rt ≤ re) = true := decide_eq_true a4
          by_cases a5 : 1 ≤ rr
          · have b5 : decide (1 ≤ rr) = true := decide_eq_true a5
            by_cases a6 : rr ≤ 100
            · have b6 : decide (rr ≤ 100) = true := decide_eq_true a6
              by_cases a7 : 1 ≤ rf
              · have b7 : decide (1 ≤ rf) = true := decide_eq_true a7
                by_cases a8 : rf ≤ 100
                · have b8 : decide (rf ≤ 100) = true := decide_eq_true a8
                  have HR := Lib.hid (HT.out ⟨a1, a2, a3, a4, a5, a6, a7, a8⟩)
                  clear HT HF a1 a2 a3 a4 a5 a6 a7 a8
                  go_wp2
                  go_ret
                  exact ⟨by rw [HR.out]; rfl, hA⟩
                · have b8 : decide (rf ≤ 100) = false := decide_eq_false a8
                  have HR := Lib.hid (HF.out fun h => a8 h.2.2.2.2.2.2.2)
                  clear HT HF a1 a2 a3 a4 a5 a6 a7 a8
                  go_wp2
                  go_ret
                  exact ⟨by rw [HR.out]; rfl, hA⟩
              · have b7 : decide (1 ≤ rf) = false := decide_eq_false a7
                have HR := Lib.hid (HF.out fun h => a7 h.2.2.2.2.2.2.1)
                clear HT HF a1 a2 a3 a4 a5 a6 a7
                go_wp2
                go_ret
                exact ⟨by rw [HR.out]; rfl, hA⟩
            · have b6 : decide (rr ≤ 100) = false := decide_eq_false a6
              have HR := Lib.hid (HF.out fun h => a6 h.2.2.2.2.2.1)
              clear HT HF a1 a2 a3 a4 a5 a6
              go_wp2
              go_ret
              exact ⟨by rw [HR.out]; rfl, hA⟩
          · have b5 : decide (1 ≤ rr) = false := decide_eq_false a5
            have HR := Lib.hid (HF.out fun h => a5 h.2.2.2.2.1)
            clear HT HF a1 a2 a3 a4 a5
            go_wp2
            go_ret
            exact ⟨by rw [HR.out]; rfl, hA⟩
        · have b4 : decide (rt ≤ re) = false := decide_eq_false a4
          have HR := Lib.hid (HF.out fun h => a4 h.2.2.2.1)
          clear HT HF a1 a2 a3 a4
          go_wp2
          go_ret
          exact ⟨by rw [HR.out]; rfl, hA⟩
      · have b3 : decide (1 ≤ rt) = false := decide_eq_false a3
        have HR := Lib.hid (HF.out fun h => a3 h.2.2.1)
        clear HT HF a1 a2 a3
        go_wp2
        go_ret
        exact ⟨by rw [HR.out]; rfl, hA⟩
    · have b2 : decide (re ≤ 1048576) = false := decide_eq_false a2
      have HR := Lib.hid (HF.out fun h => a2 h.2.1)
      clear HT HF a1 a2
      go_wp2
      go_ret
      exact ⟨by rw [HR.out]; rfl, hA⟩
  · have b1 : decide (1 ≤ re) = false := decide_eq_false a1
    have HR := Lib.hid (HF.out fun h => a1 h.1)
    clear HT HF a1
    go_wp2
    go_ret
    exact ⟨by rw [HR.out]; rfl, hA⟩
theorem law22_right (r : Rul) (w : World) : Calls Try.prog 26 #[.agg #[.int .i64 r.every, .int .i64 r.timeout, .int .i64 r.rise, .int .i64 r.fall]] w fun e w' => e = .returned (.bool (rightB r)) ∧ Below w.heap.size w w' := by
  have hA := (Below.refl w.heap.size w).alloc (Nat.le_refl _) (.cells #[.int .i64 r.every, .int .i64 r.timeout, .int .i64 r.rise, .int .i64 r.fall] 49)
  have HT := Lib.hid (fun (h : RightR r) => rightB_t h)
  have HF := Lib.hid (fun (h : ¬ RightR r) => rightB_f h)
  unfold RightR at HT HF
  generalize rightB r = T at *
  obtain ⟨re, rt, rr, rf⟩ := r
  dsimp only at *
  go_enter Try.func26, Try.ntmps26
  by_cases a1 : 1 ≤ re
  · have b1 : decide (1 ≤ re) = true := decide_eq_true a1
    by_cases a2 : re ≤ 1048576
    · have b2 : decide (re ≤ 1048576) = true := decide_eq_true a2
      by_cases a3 : 1 ≤ rt
      · have b3 : decide (1 ≤ rt) = true := decide_eq_true a3
        by_cases a4 : rt ≤ re
        · have b4 : decide (rt ≤ re) = true := decide_eq_true a4
          by_cases a5 : 1 ≤ rr
          · have b5 : decide (1 ≤ rr) = true := decide_eq_true a5
            by_cases a6 : rr ≤ 100
            · have b6 : decide (rr ≤ 100) = true := decide_eq_true a6
              by_cases a7 : 1 ≤ rf
              · have b7 : decide (1 ≤ rf) = true := decide_eq_true a7
                by_cases a8 : rf ≤ 100
                · have b8 : decide (rf ≤ 100) = true := decide_eq_true a8
                  have HR := Lib.hid (HT.out ⟨a1, a2, a3, a4, a5, a6, a7, a8⟩)
                  clear HT HF a1 a2 a3 a4 a5 a6 a7 a8
                  go_wp2
                  go_ret
                  exact ⟨by rw [HR.out]; rfl, hA⟩
                · have b8 : decide (rf ≤ 100) = false := decide_eq_false a8
                  have HR := Lib.hid (HF.out fun h => a8 h.2.2.2.2.2.2.2)
                  clear HT HF a1 a2 a3 a4 a5 a6 a7 a8
                  go_wp2
                  go_ret
                  exact ⟨by rw [HR.out]; rfl, hA⟩
              · have b7 : decide (1 ≤ rf) = false := decide_eq_false a7
                have HR := Lib.hid (HF.out fun h => a7 h.2.2.2.2.2.2.1)
                clear HT HF a1 a2 a3 a4 a5 a6 a7
                go_wp2
                go_ret
                exact ⟨by rw [HR.out]; rfl, hA⟩
            · have b6 : decide (rr ≤ 100) = false := decide_eq_false a6
              have HR := Lib.hid (HF.out fun h => a6 h.2.2.2.2.2.1)
              clear HT HF a1 a2 a3 a4 a5 a6
              go_wp2
              go_ret
              exact ⟨by rw [HR.out]; rfl, hA⟩
          · have b5 : decide (1 ≤ rr) = false := decide_eq_false a5
            have HR := Lib.hid (HF.out fun h => a5 h.2.2.2.2.1)
            clear HT HF a1 a2 a3 a4 a5
            go_wp2
            go_ret
            exact ⟨by rw [HR.out]; rfl, hA⟩
        · have b4 : decide (rt ≤ re) = false := decide_eq_false a4
          have HR := Lib.hid (HF.out fun h => a4 h.2.2.2.1)
          clear HT HF a1 a2 a3 a4
          go_wp2
          go_ret
          exact ⟨by rw [HR.out]; rfl, hA⟩
      · have b3 : decide (1 ≤ rt) = false := decide_eq_false a3
        have HR := Lib.hid (HF.out fun h => a3 h.2.2.1)
        clear HT HF a1 a2 a3
        go_wp2
        go_ret
        exact ⟨by rw [HR.out]; rfl, hA⟩
    · have b2 : decide (re ≤ 1048576) = false := decide_eq_false a2
      have HR := Lib.hid (HF.out fun h => a2 h.2.1)
      clear HT HF a1 a2
      go_wp2
      go_ret
      exact ⟨by rw [HR.out]; rfl, hA⟩
  · have b1 : decide (1 ≤ re) = false := decide_eq_false a1
    have HR := Lib.hid (HF.out fun h => a1 h.1)
    clear HT HF a1
    go_wp2
    go_ret
    exact ⟨by rw [HR.out]; rfl, hA⟩
end Go.Proofs.Ytcpfekhpbjkgeaa
end
section
/- A new board. -/
set_option linter.unusedVariables false
namespace Go.Proofs.Ytcpfekhpbjkgeaa
open Go.RowKit Go.Maps
set_option maxHeartbeats 8000000
set_option maxRecDepth 100000
/-- A board on which nobody is. -/
def newBd (bb wb mb : Nat) (V : Nat → Value) (r : Rul) : Bd := ⟨bb, wb, mb, 0, V, [], 0, r, fun _ => none⟩
theorem ptrF_none : ptrF (fun _ => none) = fun _ => none := rfl
theorem health_NewBad (r : Rul) (hr : ¬ RightR r) (w : World) : Calls Try.prog 24 #[.agg #[.int .i64 r.every, .int .i64 r.timeout, .int .i64 r.rise, .int .i64 r.fall]] w fun e w' => e = .returned (.tuple #[.pointer none, .int .i64 1]) ∧ Below w.heap.size w w' := by
  have hA := (Below.refl w.heap.size w).alloc (Nat.le_refl _) (.cells #[.int .i64 r.every, .int .i64 r.timeout, .int .i64 r.rise, .int .i64 r.fall] 49)
  have CR := fun w => health_Right r w
  rw [rightB_f hr] at CR
  generalize r.every = re at *
  generalize r.timeout = rt at *
  generalize r.rise = rr at *
  generalize r.fall = rf at *
  go_enter Try.func24, Try.ntmps24
  go_wp2_with fail
  refine (CR _).mono ?_; rintro e w1 ⟨rfl, hx1⟩
  have hW := below_step hA hx1
  clear CR
  go_wp2
  go_ret2
  exact ⟨rfl, hW⟩
theorem newBoard_is {w : World} {B : Nat} (hB : B ≤ w.heap.size) (r : Rul) : IsBoard (((w.alloc (.cells Try.zeroCells27 27)).alloc (.map #[] 0)).alloc (.cells #[.pointer (some ⟨w.heap.size, 0, none⟩), .int .i64 r.every, .int .i64 r.timeout, .int .i64 r.rise, .int .i64 r.fall, .map (some (w.heap.size + 1))] 83)) B
    (newBd (w.heap.size + 1 + 1) w.heap.size (w.heap.size + 1) (fun _ => .slice none 0 0) r) := by
  have s1 : (w.alloc (.cells Try.zeroCells27 27)).heap.size = w.heap.size + 1 := by simp
  have s2 : ((w.alloc (.cells Try.zeroCells27 27)).alloc (.map #[] 0)).heap.size = w.heap.size + 1 + 1 := by simp
  have hw := wheel_new (B := B) (Blk.new w 27 Try.zeroCells27) zero_wheel hB
  have hm := IMap.made Try.prog 3 .i64 (w.alloc (.cells Try.zeroCells27 27))
  have hb := Blk.new ((w.alloc (.cells Try.zeroCells27 27)).alloc (.map #[] 0)) 83 #[.pointer (some ⟨w.heap.size, 0, none⟩), .int .i64 r.every, .int .i64 r.timeout, .int .i64 r.rise, .int .i64 r.fall, .map (some (w.heap.size + 1))]
  rw [s1] at hm
  rw [s2] at hb
  generalize w.alloc (.cells Try.zeroCells27 27) = w1 at *
  have k1 := (Below.refl w1.heap.size w1).alloc (Nat.le_refl _) (.map #[] 0)
  have hw2 := hw.keep k1
  generalize w1.alloc (.map #[] 0) = w2 at *
  have k2 := fun o => (Below.refl w2.heap.size w2).alloc (Nat.le_refl _) o
  exact ⟨hb, by show B ≤ w.heap.size + 1 + 1; omega, by show B ≤ w.heap.size + 1; omega, hw2.keep (k2 _), hm.keep (k2 _), (fun i h hi => by cases hi), (fun i j h k hi => by cases hi), (fun i h hi => by cases hi)⟩
theorem health_NewGood (r : Rul) (hr : RightR r) (w : World) : Calls Try.prog 24 #[.agg #[.int .i64 r.every, .int .i64 r.timeout, .int .i64 r.rise, .int .i64 r.fall]] w fun e w' => (∃ bb wb mb V, e = .returned (.tuple #[.pointer (some ⟨bb, 0, none⟩), .int .i64 0]) ∧ IsBoard w' w.heap.size (newBd bb wb mb V r)) ∧ Below w.heap.size w w' := by
  have hA := (Below.refl w.heap.size w).alloc (Nat.le_refl _) (.cells #[.int .i64 r.every, .int .i64 r.timeout, .int .i64 r.rise, .int .i64 r.fall] 49)
  have PR := Blk.new w 49 #[.int .i64 r.every, .int .i64 r.timeout, .int .i64 r.rise, .int .i64 r.fall]
  have CR := fun w => health_Right r w
  rw [rightB_t hr] at CR
  have hmm := @run_makeMap Try.prog
  obtain ⟨re, rt, rr, rf⟩ := r
  dsimp only at *
  go_enter Try.func24, Try.ntmps24
  go_upto_region 1 with (fail)
  obtain ⟨rb, hrb⟩ : ∃ q, q = w.heap.size := ⟨_, rfl⟩
  rw [← hrb] at PR ⊢
  clear hrb
  generalize w.alloc (.cells #[.int .i64 re, .int .i64 rt, .int .i64 rr, .int .i64 rf] 49) = u at *
  obtain ⟨p0, p1, p2, p3, _⟩ := PR.cells4
  go_wp2_with fail
  refine (CR _).mono ?_; rintro e w1 ⟨rfl, hx1⟩
  have hW := below_step hA hx1
  have PR := PR.keep hx1
  obtain ⟨p0, p1, p2, p3, _⟩ := PR.cells4
  clear CR hA hx1
  have HI := Lib.hid (newBoard_is hW.size ⟨re, rt, rr, rf⟩)
  have hW2 := hW.size
  go_wp2
  go_ret2
  exact ⟨⟨_, _, _, _, rfl, HI.out⟩, ((hW.alloc hW2 _).alloc (by simp; omega) _).alloc (by simp; omega) _⟩
end Go.Proofs.Ytcpfekhpbjkgeaa
end
section
/- A board whose wheel is turned; a board with a host more, or less. -/
set_option linter.unusedVariables false
namespace Go.Proofs.Ytcpfekhpbjkgeaa
open Go.RowKit Go.Maps
set_option maxHeartbeats 8000000
set_option maxRecDepth 100000
/-- A board with another wheel's list. -/
def Bd.wheel (s : Bd) (V : Nat → Value) (l : List It) (now : Int) : Bd := { s with V := V, l := l, now := now }
section
variable {w w' : World} {B : Nat} {s : Bd}
theorem IsBoard.wheel (hB : IsBoard w B s) {l : List It} {z : Int} (ht : WheelTo w w' B s.wb s.V l z) : ∃ V', BdTo w w' B s (s.wheel V' l z) := by
  obtain ⟨V', h1, h2, h3⟩ := ht
  refine ⟨V', ⟨hB.blk.mod h2 (wheel_notblk (s := s) hB.wh hB.blk (by decide) (by decide)), hB.lowb, hB.lowm, h1, ?_, fun i h hi => ⟨(hB.host i h hi).1.mod h2 (wheel_notblk (s := s) hB.wh (hB.host i h hi).1 (by decide) (by decide)), (hB.host i h hi).2⟩, hB.inj, hB.keys⟩, h2.mono (fun g hg => .inr (.inl hg)), fun g hg => ?_⟩
  · exact hB.map.same (h2.block s.mb hB.map.lt (wheel_notmap (s := s) hB.wh hB.map))
  · rcases hg with h4 | h4 | h4 | h4
    · exact .inl (.inl h4)
    · rcases h3 g h4 with h5 | h5
      · exact .inl (.inr (.inl h5))
      · exact .inr h5
    · exact .inl (.inr (.inr (.inl h4)))
    · exact .inl (.inr (.inr (.inr h4)))
/-- A host struck from the map. -/
def Bd.cut (s : Bd) (i : Int) : Bd := { s with G := cutG s.G i }
theorem turned_mod {b : Nat} (h : w.mapTurned w' b) : Mod (fun g => g = b) w w' := modK_grown h.grown (fun g hg => by cases hg; rfl)
theorem IsBoard.cut (hB : IsBoard w B s) {i : Int} (hm : IMap Try.prog 3 .i64 w' s.mb s.n (delF (ptrF s.G) i)) (ht : w.mapTurned w' s.mb) : BdTo w w' B s (s.cut i) := by
  have hM := turned_mod ht
  have hG : ∀ j h, (s.cut i).G j = some h → s.G j = some h := fun j h hj => by
    have hj : cutG s.G i j = some h := hj
    unfold cutG at hj
    split at hj
    · cases hj
    · exact hj
  refine ⟨⟨hB.blk.mod hM (fun e => map_notcells hB.map hB.blk e.symm), hB.lowb, hB.lowm, hB.wh.mod hM (fun g hg e => wheel_notmap (s := s) hB.wh hB.map (e ▸ hg)), by show IMap _ _ _ _ _ _ (ptrF (cutG s.G i)); rw [ptrF_cut]; exact hm,
    fun j h hj => ⟨(hB.host j h (hG j h hj)).1.mod hM (fun e => map_notcells hB.map (hB.host j h (hG j h hj)).1 e.symm), (hB.host j h (hG j h hj)).2⟩, fun a b h k ha hb e => hB.inj a b h k (hG a h ha) (hG b k hb) e, fun j h hj => hB.keys j h (hG j h hj)⟩,
    hM.mono (fun g e => .inr (.inr (.inl e))), fun g hg => .inl ?_⟩
  rcases hg with h4 | h4 | h4 | ⟨j, h, hj, h4⟩
  · exact .inl h4
  · exact .inr (.inl h4)
  · exact .inr (.inr (.inl h4))
  · exact .inr (.inr (.inr ⟨j, h, hG j h hj, h4⟩))
/-- A host that is new. -/
def Bd.add (s : Bd) (i : Int) (b : Nat) : Bd := { s with G := updG s.G i ⟨false, false, 0, b⟩, n := s.n + 1 }
theorem IsBoard.add {w1 : World} (hB : IsBoard w B s) {i : Int} (hi : 0 ≤ i ∧ i ≤ 1048576) (hBw : B ≤ w.heap.size) (hg : s.G i = none)
    (hm : IMap Try.prog 3 .i64 w' s.mb (s.n + 1) (putF (ptrF s.G) i (.pointer (some ⟨w.heap.size, 0, none⟩)))) (ht : (w.alloc (.cells #[.bool false, .bool false, .int .i64 0] 72)).mapTurned w' s.mb) : BdTo w w' B s (s.add i w.heap.size) := by
  have hA := (Below.refl w.heap.size w).alloc (Nat.le_refl _) (.cells #[.bool false, .bool false, .int .i64 0] 72)
  have PH := Blk.new w 72 #[.bool false, .bool false, .int .i64 0]
  have hB2 := hB.keep hA
  have hM := turned_mod ht
  have hM0 : Mod (bIn s) w w' := (Mod.of_below hA).trans (hM.mono (fun g e => .inr (.inr (.inl e))))
  generalize w.alloc (.cells #[.bool false, .bool false, .int .i64 0] 72) = u at *
  have hG : ∀ j h, (s.add i w.heap.size).G j = some h → (j = i ∧ h = ⟨false, false, 0, w.heap.size⟩) ∨ s.G j = some h := fun j h hj => by
    have hj : updG s.G i ⟨false, false, 0, w.heap.size⟩ j = some h := hj
    unfold updG at hj
    split at hj
    · rename_i e; cases hj; exact .inl ⟨e, rfl⟩
    · exact .inr hj
  have hlt : ∀ j h, s.G j = some h → h.b < w.heap.size := fun j h hj => (hB.host j h hj).1.lt
  refine ⟨⟨hB2.blk.mod hM (fun e => map_notcells hB2.map hB2.blk e.symm), hB.lowb, hB.lowm, hB2.wh.mod hM (fun g hg e => wheel_notmap (s := s) hB2.wh hB2.map (e ▸ hg)), by show IMap _ _ _ _ _ _ (ptrF (updG s.G i _)); rw [ptrF_upd]; exact hm, fun j h hj => ?_, fun a b h k ha hb e => ?_, fun j h hj => ?_⟩, hM0, fun g hg => ?_⟩
  · rcases hG j h hj with ⟨rfl, rfl⟩ | hj
    · exact ⟨PH.mod hM (fun e => map_notcells hB2.map PH e.symm), hBw, by unfold I64; dsimp only; decide⟩
    · exact ⟨(hB2.host j h hj).1.mod hM (fun e => map_notcells hB2.map (hB2.host j h hj).1 e.symm), (hB2.host j h hj).2⟩
  · rcases hG a h ha with ⟨rfl, rfl⟩ | ha2 <;> rcases hG b k hb with ⟨rfl, rfl⟩ | hb2
    · rfl
    · have h1 := hlt b k hb2; have e : w.heap.size = k.b := e; omega
    · have h1 := hlt a h ha2; have e : h.b = w.heap.size := e; omega
    · exact hB.inj a b h k ha2 hb2 e
  · rcases hG j h hj with ⟨rfl, rfl⟩ | hj
    · exact hi
    · exact hB.keys j h hj
  · rcases hg with h4 | h4 | h4 | ⟨j, h, hj, h4⟩
    · exact .inl (.inl h4)
    · exact .inl (.inr (.inl h4))
    · exact .inl (.inr (.inr (.inl h4)))
    · rcases hG j h hj with ⟨rfl, rfl⟩ | hj
      · exact .inr (by rw [h4]; exact Nat.le_refl _)
      · exact .inl (.inr (.inr (.inr ⟨j, h, hj, h4⟩)))
end
end Go.Proofs.Ytcpfekhpbjkgeaa
end
section
/- slices.Contains of numbers; a board's Cancel and Add, through its wheel. -/
set_option linter.unusedVariables false
namespace Go.Proofs.Ytcpfekhpbjkgeaa
open Go.RowKit Go.Maps
set_option maxHeartbeats 8000000
set_option maxRecDepth 100000
theorem listH_at {w : World} {A : Option Addr} {n c : Nat} {l : List Int} (h : IsList w .i64 A n c l) {k : Nat} (hk : k < n) : ∃ ad, A = some ad ∧ w.cell? (ad.add k) = some (.int .i64 (l.getD k 0)) ∧ I64 (l.getD k 0) := by
  obtain ⟨ad, e, hb, hc⟩ := h.reads.2 (by omega)
  have e2 : l[k]? = some (l.getD k 0) := by rw [List.getD_eq_getElem?_getD, List.getElem?_eq_getElem (by rw [h.len]; exact hk)]; rfl
  exact ⟨ad, e, hc k _ (by rw [List.getElem?_map, e2]; rfl), i64_of_wf (h.wf _ (List.mem_of_getElem? e2))⟩
theorem index_H {w : World} {A : Option Addr} {n c : Nat} {l : List Int} (h : IsList w .i64 A n c l) (x : Int) :
    Calls Try.prog 75 #[.slice A n c, .int .i64 x] w fun e w' => (∃ z : Int, e = .returned (.int .i64 z) ∧ (0 ≤ z ↔ x ∈ l)) ∧ w = w' := by
  have hc := h.cap
  have hs := h.small
  have HL := Lib.hid h.len
  go_enter Try.func75, Try.ntmps75
  go_wp2_with fail
  go_loopg [5, 8] n (fun gk s5 s8 wr => ∃ k : Nat, s8 = .int .i64 k ∧ k ≤ n ∧ gk = n - k ∧ Hid (x ∉ l.take k) ∧ w = wr)
  case atStart => exact ⟨0, by go_num, Nat.zero_le _, rfl, Lib.hid (by simp), rfl⟩
  case round =>
    obtain ⟨k, rfl, hk, rfl, HX, rfl⟩ := hrel
    by_cases hkn : k < n
    · have hkk : (k : Int) < (n : Int) := by omega
      obtain ⟨ad, rfl, d0, _⟩ := listH_at h hkn
      have HT := Lib.hid (takeI_next (l := l) (i := k) (by rw [HL.out]; exact hkn))
      have HMEM := Lib.hid (show l.getD k 0 ∈ l by rw [List.getD_eq_getElem?_getD, List.getElem?_eq_getElem (by rw [HL.out]; exact hkn)]; exact List.getElem_mem _)
      generalize l.getD k 0 = y at *
      by_cases hxy : x = y
      · have e1 : (x == y) = true := by simp [hxy]
        have HR := Lib.hid (show (0 ≤ (k : Int) ↔ x ∈ l) from ⟨fun _ => by rw [hxy]; exact HMEM.out, fun _ => by omega⟩)
        clear hxy
        go_wp2
        go_ret
        exact ⟨⟨_, rfl, HR.out⟩, rfl⟩
      · have e1 : (x == y) = false := by simp [hxy]
        have HX2 := Lib.hid (show x ∉ l.take (k + 1) by rw [HT.out, List.mem_append, List.mem_singleton]; exact fun h => h.elim HX.out hxy)
        clear hxy
        go_wp2
        go_roundg (n - (k + 1))
        case measure => omega
        case rel => exact ⟨k + 1, by go_num, by omega, rfl, HX2, rfl⟩
    · obtain rfl : k = n := by omega
      have hge : ¬ (k : Int) < (k : Int) := by omega
      have HR := Lib.hid (show (0 ≤ (-1 : Int) ↔ x ∈ l) from ⟨fun h => by omega, fun h => by
        have h1 := HX.out
        rw [List.take_of_length_le (by rw [HL.out]; exact Nat.le_refl _)] at h1
        exact absurd h h1⟩)
      go_wp2
      go_ret
      exact ⟨⟨_, rfl, HR.out⟩, rfl⟩
theorem contains_H {w : World} {A : Option Addr} {n c : Nat} {l : List Int} (h : IsList w .i64 A n c l) (x : Int) :
    Calls Try.prog 60 #[.slice A n c, .int .i64 x] w fun e w' => e = .returned (.bool (l.contains x)) ∧ w = w' := by
  have CI := index_H h x
  obtain ⟨D, hD⟩ : ∃ D, D = l.contains x := ⟨_, rfl⟩
  rw [← hD]
  have HD := Lib.hid hD
  clear hD
  go_enter Try.func60, Try.ntmps60
  go_wp2_with fail
  refine CI.mono ?_; rintro e w1 ⟨⟨z, rfl, hz⟩, rfl⟩
  clear CI
  by_cases h0 : 0 ≤ z
  · have e1 : decide (0 ≤ z) = true := decide_eq_true h0
    have HR := Lib.hid (show D = true by rw [HD.out]; simpa using hz.1 h0)
    clear h0 hz
    go_wp2
    go_ret
    exact ⟨by rw [HR.out]; rfl, rfl⟩
  · have e1 : decide (0 ≤ z) = false := decide_eq_false h0
    have HR := Lib.hid (show D = false by rw [HD.out]; simpa using fun h => h0 (hz.2 h))
    clear h0 hz
    go_wp2
    go_ret
    exact ⟨by rw [HR.out]; rfl, rfl⟩
end Go.Proofs.Ytcpfekhpbjkgeaa
end
section
/- A board's Set: first, who is not named any more goes. -/
set_option linter.unusedVariables false
namespace Go.Proofs.Ytcpfekhpbjkgeaa
open Go.RowKit Go.Maps
set_option maxHeartbeats 8000000
set_option maxRecDepth 100000
/-- Without a host's items. -/
def rmvL (l : List It) (k : Int) : List It := (l.filter fun x => x.id != 2 * k + 1).filter fun x => x.id != 2 * k
theorem rmvL_le (l : List It) (k : Int) : (rmvL l k).length ≤ l.length := Nat.le_trans (List.length_filter_le _ _) (List.length_filter_le _ _)
theorem rmvL_fold (l : List It) : ∀ R : List Int, (R.foldl rmvL l).length ≤ l.length := fun R => by
  induction R generalizing l with
  | nil => exact Nat.le_refl _
  | cons k R ih => exact Nat.le_trans (ih (rmvL l k)) (rmvL_le l k)
/-- Without some hosts. -/
def cutAll (G : Int → Option Hg) (R : List Int) : Int → Option Hg := fun i => if R.contains i then none else G i
theorem cutAll_nil (G : Int → Option Hg) : cutAll G [] = G := by funext i; simp [cutAll]
theorem cutAll_snoc (G : Int → Option Hg) (R : List Int) (x : Int) : cutAll G (R ++ [x]) = cutG (cutAll G R) x := by
  funext i
  unfold cutAll cutG
  by_cases e : i = x <;> simp [e]
section
variable {w w' : World} {B : Nat} {s : Bd}
theorem wheel_notiter {b r n : Nat} {f : Int → Option Value} {left : Int → Bool} {cnt : Nat} (hw : WheelIs w B s.wb s.V s.l s.now) (h : IRange Try.prog 3 .i64 w b r n f left cnt) : ¬ wIn s.wb s.V r := by
  obtain ⟨D, L, ⟨es, clock, since, seen, c0, _, _, _, _, hr, _⟩, _⟩ := h
  obtain ⟨S, hS, _⟩ := hw.ex
  rintro (rfl | ⟨k, hk, hg⟩)
  · have := hS.blk
    unfold Blk at this
    rw [hr] at this; cases this
  · rcases (hS.row k hk).2 with ⟨e, _⟩ | ⟨g, cap, cur, e, _, hg2, _⟩
    · rw [e] at hg; cases hg
    · rw [e] at hg
      simp only [Value.ownBlock, Option.some.injEq] at hg
      subst hg
      rw [hr] at hg2; cases hg2
theorem bd_fresh {s' : Bd} {w1 : World} {r : Nat} (h : BdTo w w1 B s s') (hg : w1.grownBy w' (some r)) (hr : w.heap.size ≤ r) (hn : ¬ bIn s' r) (hm : w'.heap[s'.mb]? = w1.heap[s'.mb]?) : BdTo w w' B s s' := by
  obtain ⟨h1, h2, h3⟩ := h
  have hM : Mod (fun g => g = r) w1 w' := modK_grown hg (fun g e => by cases e; rfl)
  refine ⟨⟨h1.blk.mod hM (fun e => hn (.inl e.symm)), h1.lowb, h1.lowm, h1.wh.mod hM (fun g hg e => hn (.inr (.inl (e ▸ hg)))), h1.map.same hm, fun i k hk => ⟨(h1.host i k hk).1.mod hM (fun e => hn (.inr (.inr (.inr ⟨i, k, hk, e.symm⟩)))), (h1.host i k hk).2⟩, h1.inj, h1.keys⟩, ?_, h3⟩
  exact ⟨hM.os.trans h2.os, hM.tape.trans h2.tape, hM.output.trans h2.output, Nat.le_trans h2.size hM.size, fun g hgl hn2 => (hM.block g (Nat.lt_of_lt_of_le hgl h2.size) (fun e => by omega)).trans (h2.block g hgl hn2)⟩
end
end Go.Proofs.Ytcpfekhpbjkgeaa
end
section
/- A board's Set: ghosts. -/
set_option linter.unusedVariables false
namespace Go.Proofs.Ytcpfekhpbjkgeaa
open Go.RowKit Go.Maps
set_option maxHeartbeats 8000000
set_option maxRecDepth 100000
/-- A board without some hosts. -/
def Bd.sub (s : Bd) (V : Nat → Value) (R : List Int) : Bd := { s with V := V, G := cutAll s.G R, l := R.foldl rmvL s.l }
theorem sub_nil (s : Bd) : s.sub s.V [] = s := by
  unfold Bd.sub; rw [cutAll_nil]; rfl
theorem sub_snoc (s : Bd) (V V1 V2 : Nat → Value) (R : List Int) (x : Int) :
    (((s.sub V R).cut x).wheel V1 (((s.sub V R).l).filter fun y => y.id != 2 * x + 1) s.now).wheel V2 ((((s.sub V R).l).filter fun y => y.id != 2 * x + 1).filter fun y => y.id != 2 * x) s.now = s.sub V2 (R ++ [x]) := by
  unfold Bd.sub Bd.cut Bd.wheel
  dsimp only
  rw [cutAll_snoc, List.foldl_append]
  rfl
/-- Who goes. -/
def goneL (ids ks : List Int) : List Int := ks.filter fun k => !ids.contains k
theorem goneL_in {ids ks : List Int} {x : Int} (h : ids.contains x = true) : goneL ids (ks ++ [x]) = goneL ids ks := by
  unfold goneL; rw [List.filter_append]; simp at h; simp [h]
theorem goneL_out {ids ks : List Int} {x : Int} (h : ids.contains x = false) : goneL ids (ks ++ [x]) = goneL ids ks ++ [x] := by
  unfold goneL; rw [List.filter_append]; simp at h; simp [h]
section
variable {w w' w3 : World} {B : Nat} {s : Bd}
theorem iter_notblk {b r n : Nat} {f : Int → Option Value} {left : Int → Bool} {cnt : Nat} {T : TypeId} {cs : Array Value} {g : Nat} (h : IRange Try.prog 3 .i64 w b r n f left cnt) (k : Blk w g T cs) : r ≠ g := by
  rintro rfl
  obtain ⟨D, L, ⟨es, clock, since, seen, c0, _, _, _, _, hr, _⟩, _⟩ := h
  unfold Blk at k
  rw [hr] at k; cases k
theorem bd_notiter {r n : Nat} {f : Int → Option Value} {left : Int → Bool} {cnt : Nat} (hB : IsBoard w B s) (h : IRange Try.prog 3 .i64 w s.mb r n f left cnt) : ¬ bIn s r := by
  rintro (h1 | h1 | h1 | ⟨i, k, hk, h1⟩)
  · exact iter_notblk h hB.blk h1
  · exact wheel_notiter (s := s) hB.wh h h1
  · exact h.ne h1
  · exact iter_notblk h (hB.host i k hk).1 h1
theorem iter_wheel {r n : Nat} {f : Int → Option Value} {left : Int → Bool} {cnt : Nat} (hB : IsBoard w B s) (h : IRange Try.prog 3 .i64 w s.mb r n f left cnt) {l : List It} {z : Int} (ht : WheelTo w w' B s.wb s.V l z) :
    IRange Try.prog 3 .i64 w' s.mb r n f left cnt := by
  obtain ⟨V', h1, h2, h3⟩ := ht
  exact h.same (h2.block s.mb hB.map.lt (wheel_notmap (s := s) hB.wh hB.map)) (h2.block r h.lt (wheel_notiter (s := s) hB.wh h))
end
theorem list_below {w w' : World} {B : Nat} {K : IntKind} {A : Option Addr} {n c : Nat} {l : List Int} (h : IsList w K A n c l) (hx : Below B w w') (hn : 0 < n → ∀ ad, A = some ad → ad.block < B) : IsList w' K A n c l :=
  ⟨⟨h.reads.1, fun hnn => by
    obtain ⟨ad, e, hb, hc⟩ := h.reads.2 hnn
    have hs := hn hnn ad e
    exact ⟨ad, e, Nat.lt_of_lt_of_le hb hx.size, fun j u hu => (hx.cell (by rw [block_of_add]; exact hs)).trans (hc j u hu)⟩⟩, h.len, h.cap, h.small, h.wf, h.reach⟩
theorem list_mod {w w' : World} {D : Nat → Prop} {K : IntKind} {A : Option Addr} {n c : Nat} {l : List Int} (h : IsList w K A n c l) (hx : Mod D w w') (hn : 0 < n → ∀ ad, A = some ad → ¬ D ad.block) : IsList w' K A n c l :=
  ⟨⟨h.reads.1, fun hnn => by
    obtain ⟨ad, e, hb, hc⟩ := h.reads.2 hnn
    exact ⟨ad, e, Nat.lt_of_lt_of_le hb hx.size, fun j u hu => cella_mod (hc j u hu) hx (hn hnn ad e)⟩⟩, h.len, h.cap, h.small, h.wf, h.reach⟩
/-- What is seen of a host. -/
def hv (h : Hg) : Bool × Bool × Int := (h.up, h.asked, h.row)
def viewG (G : Int → Option Hg) : Int → Option (Bool × Bool × Int) := fun i => (G i).map hv
/-- A host more, if it may be. -/
def addV (now : Int) (q : (Int → Option (Bool × Bool × Int)) × List It) (i : Int) : (Int → Option (Bool × Bool × Int)) × List It :=
  if i < 0 ∨ 1048576 < i ∨ (q.1 i).isSome = true then q else (fun j => if j = i then some (false, false, 0) else q.1 j, addL now q.2 ⟨now + 1, 2 * i + 1⟩)
/-- Boards of one make. -/
def OneB (s t : Bd) : Prop := t.bb = s.bb ∧ t.wb = s.wb ∧ t.mb = s.mb ∧ t.r = s.r
theorem addV_len (now : Int) (q : (Int → Option (Bool × Bool × Int)) × List It) (i : Int) : (addV now q i).2.length ≤ q.2.length + 1 := by
  unfold addV
  split
  · omega
  · unfold addL
    dsimp only
    split
    · rw [(putL_perm _ _).length_eq]; simp
    · omega
theorem addV_fold (now : Int) : ∀ (ids : List Int) (q : (Int → Option (Bool × Bool × Int)) × List It), (ids.foldl (addV now) q).2.length ≤ q.2.length + ids.length
  | [], q => Nat.le_refl _
  | i :: ids, q => by
    have h1 := addV_len now q i
    have h2 := addV_fold now ids (addV now q i)
    rw [List.foldl_cons, List.length_cons]
    omega
theorem neq_ptr_nil (m : Option Addr) (w : World) : (binOp .neq 123 (.pointer m) (.pointer none)).run Try.prog w = .ok (.bool m.isSome) w := by
  cases m <;> go_simp
theorem addV_skip {now : Int} {q : (Int → Option (Bool × Bool × Int)) × List It} {i : Int} (h : i < 0 ∨ 1048576 < i ∨ (q.1 i).isSome = true) : addV now q i = q := if_pos h
theorem view_some (G : Int → Option Hg) (i : Int) : (viewG G i).isSome = (G i).isSome := by unfold viewG; simp
theorem addV_add {s : Bd} {i : Int} (h0 : 0 ≤ i) (h1 : i ≤ 1048576) (hg : s.G i = none) (b : Nat) (now : Int) : addV now (viewG s.G, s.l) i = (viewG (s.add i b).G, addL now s.l ⟨now + 1, 2 * i + 1⟩) := by
  unfold addV
  rw [if_neg (by
    rintro (h | h | h)
    · omega
    · omega
    · have h : (viewG s.G i).isSome = true := h
      rw [view_some, hg] at h; cases h)]
  have e : (fun j => if j = i then some (false, false, 0) else viewG s.G j) = viewG (s.add i b).G := by
    funext j
    unfold viewG
    show _ = (updG s.G i ⟨false, false, 0, b⟩ j).map hv
    unfold updG
    by_cases c : j = i <;> simp [c, hv]
  show (_, _) = (_, _)
  rw [e]
/-- What Set leaves. -/
def SetDone (w w' : World) (B : Nat) (s : Bd) (ids : List Int) (n : Nat) : Prop := ∃ s' ks, BdTo w w' B s s' ∧ OneB s s' ∧ s'.now = s.now ∧ s'.n ≤ s.n + n ∧ (∀ i, i ∈ ks ↔ (s.G i).isSome = true) ∧ ks.Nodup ∧
  (viewG s'.G, s'.l) = ids.foldl (addV s.now) (viewG (cutAll s.G (goneL ids ks)), (goneL ids ks).foldl rmvL s.l)
end Go.Proofs.Ytcpfekhpbjkgeaa
end
