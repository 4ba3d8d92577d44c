/- Lemmas for the claim's proof: HlH. -/
import Derived.Test.YtcpfekhpbjkgeaaQ29
section
/- The walk of the law HealthRenames: the script. -/
set_option linter.unusedVariables false
namespace Go.Proofs.Ytcpfekhpbjkgeaa
open Go.RowKit Go.Maps
set_option maxHeartbeats 8000000
set_option maxRecDepth 100000
/-- A scene beside another board. -/
abbrev Scene.with (u w : World) (D : Nat → Prop) : Scene := ⟨u, D, fun g => w.heap[g]?, w.heap.size⟩
/-- The other board is as it was. -/
theorem other_is {u w w' : World} {B : Nat} {sb s : Bd} {pb : Nat} {v : Value} (hB : IsBoard w B sb) (hx : Below u.heap.size u w) (hy : Below u.heap.size u w') (h : Apart (Scene.with u w (bIn sb)) w' s pb v) : IsBoard w' B sb :=
  hB.modN (D := fun g => ¬ bIn sb g) ⟨hy.os.trans hx.os.symm, hy.tape.trans hx.tape.symm, hy.output.trans hx.output.symm, h.sz, fun g hg hn => (h.blk g (Classical.not_not.1 hn)).1⟩ (fun g hg hn => hn hg)
/-- Both boards, new, and another one. -/
theorem both_new2 {u w1 w2 : World} {bb wb mb : Nat} {V : Nat → Value} {r : Rul} (hr : RightR r) (hB : IsBoard w1 u.heap.size (newBd bb wb mb V r)) (hx : Below u.heap.size u w1) {sb : Bd} (hB2 : IsBoard w2 w1.heap.size sb) (hx2 : Below w1.heap.size w1 w2) :
    Both (Scene.with u w2 (bIn sb)) (w2.alloc (.cells #[.int .i64 r.every, .int .i64 r.timeout, .int .i64 r.rise, .int .i64 r.fall, .slice none 0 0, .int .i64 0] 58)) (newBd bb wb mb V r) w2.heap.size (.slice none 0 0) [] 0 := by
  have hA := (Below.refl w2.heap.size w2).alloc (Nat.le_refl _) (.cells #[.int .i64 r.every, .int .i64 r.timeout, .int .i64 r.rise, .int .i64 r.fall, .slice none 0 0, .int .i64 0] 58)
  have hBw := hB.keep hx2
  have hxw := below_step hx hx2
  refine ⟨hBw.keep hA, ⟨Blk.new w2 58 _, hxw.size, World.ownsRow_nil _ _ _ 6⟩, fun g hg hp => ?_, sim_new _ _ _ _ _, hr, by simp, below_step hxw hA, Int.le_refl _, Nat.le_refl _, ⟨fun g hg => ?_, by simp⟩⟩
  · rcases hp with h | h
    · have := (hBw.lt hg).2; omega
    · simp [Value.ownBlock] at h
  · have hg : bIn sb g := hg
    obtain ⟨a1, a2⟩ := hB2.lt hg
    refine ⟨hA.block g a2, Nat.lt_of_lt_of_le a2 hA.size, fun h => ?_, fun h => ?_⟩
    · have := (hB.lt h).2; omega
    · rcases h with h | h
      · omega
      · simp [Value.ownBlock] at h
/-- The law's own board takes a row that was made before. -/
theorem BothA.plain3 {W : Scene} {w w' : World} {s s' : Bd} {pb : Nat} {v v' : Value} {L L' : List Ph} (h : BothA W w s s' pb v L) (k1 : IsPlain w' W.heap.size pb v' L' s'.now s'.r) (hM : Mod (pIn pb v) w w') (hI : ∀ g, pIn pb v' g → pIn pb v g ∨ (¬ bIn s' g ∧ ¬ W.D g)) (hs : Sim s' L') (hr : RightR s'.r) (hf : L'.length ≤ 40) {N : Nat} (h1 : s'.now ≤ N) (h2 : s'.n ≤ 30 * N) : Both W w' s' pb v' L' N :=
  ⟨h.bd.modN hM (fun g hg => h.apart g hg), k1, fun g hg hp => by
    rcases hI g hp with h3 | h3
    · exact h.apart g hg h3
    · exact h3.1 hg, hs, hr, hf, below_mod h.below hM (fun g hg => (h.pl.lt hg).1), h1, h2,
    ⟨fun g hg => by
      obtain ⟨a1, a2, a3, a4⟩ := h.oth.blk g hg
      exact ⟨(hM.block g a2 a4).trans a1, Nat.lt_of_lt_of_le a2 hM.size, a3, fun hb => (hI g hb).elim a4 (fun h3 => h3.2 hg)⟩, Nat.le_trans h.oth.sz hM.size⟩⟩
/-- A call of the other board. -/
theorem both_other {u w2 w w' : World} {B : Nat} {sb sb' s : Bd} {pb : Nat} {v : Value} {L : List Ph} {N : Nat} (h : Both (Scene.with u w2 (bIn sb)) w s pb v L N) (hB : IsBoard w B sb) (hBu : u.heap.size ≤ B) (k : BdTo w w' B sb sb') : Both (Scene.with u w' (bIn sb')) w' s pb v L N := by
  have ha : ∀ g, bIn sb g → ¬ bIn s g ∧ ¬ pIn pb v g := fun g hg => (h.oth.blk g hg).2.2
  refine ⟨h.bd.modN k.2.1 (fun g hg hb => (ha g hb).1 hg), h.pl.mod k.2.1 (fun g hg hb => (ha g hb).2 hg), h.apart, h.sim, h.rt, h.few, below_mod (W := u) h.below k.2.1 (fun g hg => Nat.le_trans hBu (hB.lt hg).1), h.now, h.n, ⟨fun g hg => ?_, Nat.le_refl _⟩⟩
  have hg : bIn sb' g := hg
  refine ⟨rfl, (k.1.lt hg).2, fun hs => ?_, fun hp => ?_⟩
  · rcases k.2.2 g hg with h1 | h1
    · exact (ha g h1).1 hs
    · have := (h.bd.lt hs).2; omega
  · rcases k.2.2 g hg with h1 | h1
    · exact (ha g h1).2 hp
    · have := (h.pl.lt hp).2; omega
/-- New numbers, of these hosts. -/
def renF (K : List Ph) (i : Int) : Option Int := if (K.map Ph.id).contains i = true then some (i + 20) else none
theorem renF_iff (K : List Ph) (i k : Int) : renF K i = some k ↔ ∃ x ∈ K, x.id = i ∧ k = i + 20 := by
  unfold renF
  by_cases c : (K.map Ph.id).contains i = true
  · rw [if_pos c]
    rw [List.contains_iff_mem] at c
    obtain ⟨x, hx, e⟩ := List.mem_map.1 c
    constructor
    · intro h; cases h; exact ⟨x, hx, e, rfl⟩
    · rintro ⟨_, _, _, rfl⟩; rfl
  · rw [if_neg c]
    constructor
    · intro h; cases h
    · rintro ⟨x, hx, e, _⟩
      exact absurd (by rw [List.contains_iff_mem]; exact e ▸ List.mem_map_of_mem hx) c
theorem renF_snoc (K : List Ph) (x : Ph) : (fun i => (renF (K ++ [x]) i).map (Value.int .i64)) = putF (fun i => (renF K i).map (Value.int .i64)) x.id (.int .i64 (x.id + 20)) := by
  funext i
  unfold putF renF
  rw [List.map_append]
  by_cases e : i = x.id
  · subst e; simp
  · rw [if_neg e]
    have : (K.map Ph.id ++ [x].map Ph.id).contains i = (K.map Ph.id).contains i := by
      simp [List.contains_eq_mem, e]
    rw [this]
theorem contains_snoc (l : List Int) (y z : Int) : (l ++ [y]).contains z = (l.contains z || (y == z)) := by
  rw [Bool.eq_iff_iff, Bool.or_eq_true, List.contains_iff_mem, List.contains_iff_mem, List.mem_append, List.mem_singleton, beq_iff_eq]
  exact or_congr Iff.rfl ⟨fun e => e.symm, fun e => e.symm⟩
/-- Who stays. -/
def staysP (gone : List Int) (x : Ph) : Bool := !(gone.take 30).contains x.id
def staysL (gone : List Int) (L : List Ph) (k : Nat) : List Ph := (L.take k).filter (staysP gone)
theorem staysL_step {gone : List Int} {L : List Ph} {k : Nat} (h : k < L.length) : staysL gone L (k + 1) = if staysP gone (L.getD k default) = true then staysL gone L k ++ [L.getD k default] else staysL gone L k := by
  unfold staysL
  rw [takeP_next h, List.filter_append]
  by_cases c : staysP gone (L.getD k default) = true
  · rw [if_pos c, List.filter_cons_of_pos c]; rfl
  · rw [if_neg c, List.filter_cons_of_neg c]; simp
theorem staysL_end (gone : List Int) (L : List Ph) : staysL gone L L.length = L.filter (staysP gone) := by unfold staysL; rw [List.take_of_length_le (Nat.le_refl _)]
theorem staysL_le (gone : List Int) (L : List Ph) (k : Nat) : (staysL gone L k).length ≤ L.length := Nat.le_trans (List.length_filter_le _ _) (by rw [List.length_take]; omega)
theorem nobody_ids {G : Int → Option Hg} {K : List Int} (h : RiseOf K G) (hG : ∀ i, G i = none) : K.length = 0 := by
  cases K with
  | nil => rfl
  | cons i K =>
    have := (h.2 i).1 (List.mem_cons_self)
    rw [hG i] at this; cases this
/-- Numbers from 0 to 9. -/
def nineP (i : Int) : Bool := decide (0 ≤ i) && decide (i ≤ 9)
def nineL (l : List Int) (k : Nat) : List Int := (l.take k).filter nineP
theorem nineL_yes {l : List Int} {k : Nat} (h : k < l.length) (h0 : 0 ≤ l.getD k 0) (h9 : l.getD k 0 ≤ 9) : nineL l (k + 1) = nineL l k ++ [l.getD k 0] := by
  unfold nineL
  rw [takeI_next h, List.filter_append, List.filter_cons_of_pos (by unfold nineP; rw [decide_eq_true h0, decide_eq_true h9]; rfl)]; rfl
theorem nineL_no {l : List Int} {k : Nat} (h : k < l.length) (hn : ¬ (0 ≤ l.getD k 0 ∧ l.getD k 0 ≤ 9)) : nineL l (k + 1) = nineL l k := by
  unfold nineL
  rw [takeI_next h, List.filter_append, List.filter_cons_of_neg (by unfold nineP; rw [Bool.and_eq_true, decide_eq_true_eq, decide_eq_true_eq]; exact hn)]; simp
theorem nineL_le (l : List Int) (k : Nat) : (nineL l k).length ≤ k := by
  unfold nineL
  exact Nat.le_trans (List.length_filter_le _ _) (by rw [List.length_take]; omega)
theorem nineL_in {l : List Int} {k : Nat} {i : Int} (h : i ∈ nineL l k) : 0 ≤ i ∧ i ≤ 9 := by
  unfold nineL at h
  have := (List.mem_filter.1 h).2
  unfold nineP at this
  rw [Bool.and_eq_true] at this
  exact ⟨of_decide_eq_true this.1, of_decide_eq_true this.2⟩
/-- A row of numbers of one's own is a list. -/
theorem own_isList {w : World} {B n c : Nat} {A : Option Addr} {l : List Int} (h : w.ownsRow B 3 1 (.slice A n c) n (l.map (Value.int .i64))) (hl : l.length = n) (hw : ∀ x ∈ l, I64 x) (hn : n ≤ 1000) : IsList w .i64 A n c l :=
  ⟨ownK_reads h, hl, (ownK_cap h).1, (ownK_cap h).2, fun x hx => by have := hw x hx; unfold I64 at this; exact WalkArith.wf_i64 this, by omega⟩
end Go.Proofs.Ytcpfekhpbjkgeaa
end
