/- Lemmas for the claim's proof: VipG TrieA TrieB. -/
import Derived.Test.YtceekfbhkenniaaQ20
section
/- addr.Bit; pfx.Trie. -/
set_option linter.unusedVariables false
namespace Go.Proofs.Ytceekfbhkenniaa
open Go.RowKit
set_option maxHeartbeats 8000000
set_option maxRecDepth 100000
def bitI (six : Bool) (hi lo i : Int) : Int :=
  if six = false then (lo / 2 ^ (31 - i).toNat) % 2 else if i < 64 then (hi / 2 ^ (63 - i).toNat) % 2 else (lo / 2 ^ (127 - i).toNat) % 2
theorem bitI_two (six : Bool) (hi lo i : Int) : bitI six hi lo i = 0 ∨ bitI six hi lo i = 1 := by
  unfold bitI
  split
  · omega
  · split <;> omega
theorem bit_form {x : Int} (k : Nat) (h : U64 x) : wrap64 (bits .and .u64 (x / 2 ^ k) 1) = (x / 2 ^ k) % 2 := by
  obtain ⟨h0, h1⟩ := h
  obtain ⟨n, rfl⟩ := Int.eq_ofNat_of_zero_le h0
  have e : ((n : Int) / 2 ^ k) = ((n / 2 ^ k : Nat) : Int) := by simp
  rw [e]
  have hb : n / 2 ^ k < 18446744073709551616 := Nat.lt_of_le_of_lt (Nat.div_le_self _ _) (by omega)
  have h3 := bits_and_u64_nat (n / 2 ^ k) 1 hb (by omega)
  rw [Nat.and_one_is_mod] at h3
  have e1 : ((1 : Nat) : Int) = 1 := rfl
  rw [e1] at h3
  rw [h3]
  have h4 : (((n / 2 ^ k) % 2 : Nat) : Int) = ((n / 2 ^ k : Nat) : Int) % 2 := by omega
  rw [h4]
  exact IntWalk.wrap64_in _ (by omega)
theorem addr_Bit4 (hi lo i : Int) (l0 : U64 hi) (l1 : U64 lo) (h0 : 0 ≤ i) (h1 : i < 32) (w : World) :
    Calls Try.prog 46 #[.agg #[.bool false, .int .u64 hi, .int .u64 lo], .int .i64 i] w fun e w' => e = .returned (.int .i64 (bitI false hi lo i)) ∧ Below w.heap.size w w' := by
  have P := Blk.new w 25 #[.bool false, .int .u64 hi, .int .u64 lo]
  have hW : Below w.heap.size w (w.alloc (.cells #[.bool false, .int .u64 hi, .int .u64 lo] 25)) := (Below.refl _ _).alloc (Nat.le_refl _) _
  have g0 : decide (i < 0) = false := decide_eq_false (by omega)
  have g1 : decide (32 ≤ i) = false := decide_eq_false (by omega)
  have HE := Lib.hid (show bitI false hi lo i = wrap64 (bits .and .u64 (lo / 2 ^ (31 - i).toNat) 1) by rw [bit_form _ l1]; rfl)
  generalize bitI false hi lo i = BI at *
  go_enter Try.func46, Try.ntmps46
  go_wp2_with fail
  generalize w.alloc (.cells #[.bool false, .int .u64 hi, .int .u64 lo] 25) = u at *
  refine (addr_Bits _ _ _ _).mono ?_; rintro e w1 ⟨rfl, hx⟩
  have P1 := P.keep hx
  have hW1 := below_step hW hx
  clear P hW hx
  obtain ⟨p0, p1, p2, _⟩ := P1.cells3
  go_wp2
  go_ret
  exact ⟨by rw [HE.out]; rfl, hW1⟩
theorem addr_Bit6a (hi lo i : Int) (l0 : U64 hi) (l1 : U64 lo) (h0 : 0 ≤ i) (h1 : i < 64) (w : World) :
    Calls Try.prog 46 #[.agg #[.bool true, .int .u64 hi, .int .u64 lo], .int .i64 i] w fun e w' => e = .returned (.int .i64 (bitI true hi lo i)) ∧ Below w.heap.size w w' := by
  have P := Blk.new w 25 #[.bool true, .int .u64 hi, .int .u64 lo]
  have hW : Below w.heap.size w (w.alloc (.cells #[.bool true, .int .u64 hi, .int .u64 lo] 25)) := (Below.refl _ _).alloc (Nat.le_refl _) _
  have g0 : decide (i < 0) = false := decide_eq_false (by omega)
  have g1 : decide (128 ≤ i) = false := decide_eq_false (by omega)
  have g2 : decide (i < 64) = true := decide_eq_true h1
  have HE := Lib.hid (show bitI true hi lo i = wrap64 (bits .and .u64 (hi / 2 ^ (63 - i).toNat) 1) by rw [bit_form _ l0]; unfold bitI; rw [if_neg (by decide), if_pos h1])
  generalize bitI true hi lo i = BI at *
  go_enter Try.func46, Try.ntmps46
  go_wp2_with fail
  generalize w.alloc (.cells #[.bool true, .int .u64 hi, .int .u64 lo] 25) = u at *
  refine (addr_Bits _ _ _ _).mono ?_; rintro e w1 ⟨rfl, hx⟩
  have P1 := P.keep hx
  have hW1 := below_step hW hx
  clear P hW hx
  obtain ⟨p0, p1, p2, _⟩ := P1.cells3
  go_wp2
  go_ret
  exact ⟨by rw [HE.out]; rfl, hW1⟩
theorem addr_Bit6b (hi lo i : Int) (l0 : U64 hi) (l1 : U64 lo) (h0 : 64 ≤ i) (h1 : i < 128) (w : World) :
    Calls Try.prog 46 #[.agg #[.bool true, .int .u64 hi, .int .u64 lo], .int .i64 i] w fun e w' => e = .returned (.int .i64 (bitI true hi lo i)) ∧ Below w.heap.size w w' := by
  have P := Blk.new w 25 #[.bool true, .int .u64 hi, .int .u64 lo]
  have hW : Below w.heap.size w (w.alloc (.cells #[.bool true, .int .u64 hi, .int .u64 lo] 25)) := (Below.refl _ _).alloc (Nat.le_refl _) _
  have g0 : decide (i < 0) = false := decide_eq_false (by omega)
  have g1 : decide (128 ≤ i) = false := decide_eq_false (by omega)
  have g2 : decide (i < 64) = false := decide_eq_false (by omega)
  have HE := Lib.hid (show bitI true hi lo i = wrap64 (bits .and .u64 (lo / 2 ^ (127 - i).toNat) 1) by rw [bit_form _ l1]; unfold bitI; rw [if_neg (by decide), if_neg (by omega)])
  generalize bitI true hi lo i = BI at *
  go_enter Try.func46, Try.ntmps46
  go_wp2_with fail
  generalize w.alloc (.cells #[.bool true, .int .u64 hi, .int .u64 lo] 25) = u at *
  refine (addr_Bits _ _ _ _).mono ?_; rintro e w1 ⟨rfl, hx⟩
  have P1 := P.keep hx
  have hW1 := below_step hW hx
  clear P hW hx
  obtain ⟨p0, p1, p2, _⟩ := P1.cells3
  go_wp2
  go_ret
  exact ⟨by rw [HE.out]; rfl, hW1⟩
theorem addr_Bit (six : Bool) (hi lo i : Int) (l0 : U64 hi) (l1 : U64 lo) (h0 : 0 ≤ i) (h1 : i < if six = true then 128 else 32) (w : World) :
    Calls Try.prog 46 #[.agg #[.bool six, .int .u64 hi, .int .u64 lo], .int .i64 i] w fun e w' => e = .returned (.int .i64 (bitI six hi lo i)) ∧ Below w.heap.size w w' := by
  cases six with
  | false => exact addr_Bit4 hi lo i l0 l1 h0 (by simpa using h1) w
  | true =>
    by_cases h : i < 64
    · exact addr_Bit6a hi lo i l0 l1 h0 h w
    · exact addr_Bit6b hi lo i l0 l1 (by omega) (by simpa using h1) w
end Go.Proofs.Ytceekfbhkenniaa
end
section
/- A trie in memory: places by paths. -/
set_option linter.unusedVariables false
namespace Go.Proofs.Ytceekfbhkenniaa
open Go.RowKit
set_option maxHeartbeats 4000000
set_option maxRecDepth 100000
theorem cell_put {w : World} {g i : Nat} {v : Value} (h : w.cell? ⟨g, i, none⟩ = some v) (u : Value) : (w.setCell ⟨g, i, none⟩ u).cell? ⟨g, i, none⟩ = some u := by
  unfold World.cell? at h ⊢
  unfold World.setCell
  simp only [Array.getElem?_modify] at h ⊢
  cases e : w.heap[g]? with
  | none => rw [e] at h; cases h
  | some o =>
    rw [e] at h
    cases o with
    | cells c t f =>
      simp at h ⊢
      obtain ⟨hi, _⟩ := Array.getElem?_eq_some_iff.1 h
      simp [hi]
    | _ => cases h
theorem cell_else {w : World} {g i g' i' : Nat} (h : g ≠ g' ∨ i ≠ i') (u : Value) : (w.setCell ⟨g, i, none⟩ u).cell? ⟨g', i', none⟩ = w.cell? ⟨g', i', none⟩ := by
  unfold World.cell? World.setCell
  simp only [Array.getElem?_modify]
  by_cases e : g = g'
  · subst e
    have hi : i ≠ i' := by
      rcases h with h | h
      · exact absurd rfl h
      · exact h
    rw [if_pos rfl]
    cases e : w.heap[g]? with
    | none => rfl
    | some o =>
      cases o with
      | cells c t f => simp [hi]
      | _ => rfl
  · rw [if_neg e]
theorem free_set {w : World} (p q : Addr) (u : Value) : (w.setCell p u).frozen? q = w.frozen? q := by
  unfold World.frozen? World.setCell
  simp only [Array.getElem?_modify]
  by_cases e : p.block = q.block
  · rw [if_pos e]
    cases e : w.heap[q.block]? with
    | none => rfl
    | some o =>
      cases o with
      | cells c t f => rfl
      | _ => rfl
  · rw [if_neg e]
/-- What a trie is: the place of each path's node (the block, and from which cell on), its value, and whether it has one; how many have. -/
structure Tri where
  pl : Bool → List Int → Option (Nat × Nat)
  val : Bool → List Int → Int
  has : Bool → List Int → Bool
  n : Int
def ptrOf (x : Option (Nat × Nat)) : Value := .pointer (x.map fun a => ⟨a.1, a.2, none⟩)
structure IsTrie (w : World) (tr B : Nat) (T : Tri) : Prop where
  root : ∀ s, T.pl s [] = some (tr, if s = true then 4 else 0)
  low : ∀ s p g o, T.pl s p = some (g, o) → g = tr ∨ B ≤ g
  off : ∀ s p g o, T.pl s p = some (g, o) → o = 0 ∨ o = 4
  inj : ∀ s p s' p' a, T.pl s p = some a → T.pl s' p' = some a → s = s' ∧ p = p'
  up : ∀ s p b, T.pl s p = none → T.pl s (p ++ [b]) = none
  no : ∀ s p, T.pl s p = none → T.has s p = false ∧ T.val s p = 0
  i64 : ∀ s p, I64 (T.val s p)
  at0 : ∀ s p g o, T.pl s p = some (g, o) → w.cell? ⟨g, o, none⟩ = some (ptrOf (T.pl s (p ++ [0]))) ∧ w.frozen? ⟨g, o, none⟩ = false
  at1 : ∀ s p g o, T.pl s p = some (g, o) → w.cell? ⟨g, o + 1, none⟩ = some (ptrOf (T.pl s (p ++ [1]))) ∧ w.frozen? ⟨g, o + 1, none⟩ = false
  at2 : ∀ s p g o, T.pl s p = some (g, o) → w.cell? ⟨g, o + 2, none⟩ = some (.int .i64 (T.val s p)) ∧ w.frozen? ⟨g, o + 2, none⟩ = false
  at3 : ∀ s p g o, T.pl s p = some (g, o) → w.cell? ⟨g, o + 3, none⟩ = some (.bool (T.has s p)) ∧ w.frozen? ⟨g, o + 3, none⟩ = false
  cnt : w.cell? ⟨tr, 8, none⟩ = some (.int .i64 T.n) ∧ w.frozen? ⟨tr, 8, none⟩ = false
theorem cellf_keep {w w' : World} {g o : Nat} {v : Value} (h : w.cell? ⟨g, o, none⟩ = some v ∧ w.frozen? ⟨g, o, none⟩ = false) (hx : Below w.heap.size w w') : w'.cell? ⟨g, o, none⟩ = some v ∧ w'.frozen? ⟨g, o, none⟩ = false :=
  ⟨cell_keep h.1 hx, (hx.frozen (World.block_lt_of_cell? w _ h.1)).trans h.2⟩
theorem IsTrie.keep {w w' : World} {tr B : Nat} {T : Tri} (h : IsTrie w tr B T) (hx : Below w.heap.size w w') : IsTrie w' tr B T :=
  ⟨h.root, h.low, h.off, h.inj, h.up, h.no, h.i64, fun s p g o e => cellf_keep (h.at0 s p g o e) hx, fun s p g o e => cellf_keep (h.at1 s p g o e) hx, fun s p g o e => cellf_keep (h.at2 s p g o e) hx, fun s p g o e => cellf_keep (h.at3 s p g o e) hx, cellf_keep h.cnt hx⟩
theorem IsTrie.lt {w : World} {tr B : Nat} {T : Tri} (h : IsTrie w tr B T) {s : Bool} {p : List Int} {g o : Nat} (e : T.pl s p = some (g, o)) : g < w.heap.size :=
  World.block_lt_of_cell? w _ (h.at0 s p g o e).1
/-- An empty one. -/
def Tri.none (tr : Nat) : Tri := ⟨fun s p => if p = [] then some (tr, if s = true then 4 else 0) else .none, fun _ _ => 0, fun _ _ => false, 0⟩
theorem isTrie_new {w : World} {tr B : Nat} {t : TypeId} (h : Blk w tr t #[.pointer none, .pointer none, .int .i64 0, .bool false, .pointer none, .pointer none, .int .i64 0, .bool false, .int .i64 0]) : IsTrie w tr B (Tri.none tr) := by
  have hp : ∀ s (p : List Int) g o, (Tri.none tr).pl s p = some (g, o) → p = [] ∧ g = tr ∧ o = if s = true then 4 else 0 := fun s p g o e => by
    unfold Tri.none at e
    dsimp only at e
    by_cases hp : p = []
    · rw [if_pos hp] at e
      simp at e
      exact ⟨hp, e.1.symm, by rw [← e.2]⟩
    · rw [if_neg hp] at e; cases e
  have hn : ∀ s (p : List Int) b, (Tri.none tr).pl s (p ++ [b]) = none := fun s p b => by
    unfold Tri.none
    dsimp only
    rw [if_neg (by simp)]
  refine ⟨fun s => by unfold Tri.none; simp, fun s p g o e => .inl (hp s p g o e).2.1, fun s p g o e => ?_, fun s p s' p' a e e' => ?_, fun s p b _ => hn s p b, fun s p _ => ⟨rfl, rfl⟩, fun s p => i64_0, fun s p g o e => ?_, fun s p g o e => ?_, fun s p g o e => ?_, fun s p g o e => ?_, ⟨h.cell 8, h.free 8⟩⟩
  · rw [(hp s p g o e).2.2]; split <;> simp
  · obtain ⟨g, o⟩ := a
    obtain ⟨h1, h2, h3⟩ := hp s p g o e
    obtain ⟨h4, h5, h6⟩ := hp s' p' g o e'
    refine ⟨?_, h1.trans h4.symm⟩
    rw [h3] at h6
    cases s <;> cases s' <;> simp at h6 ⊢
  all_goals
    obtain ⟨rfl, rfl, rfl⟩ := hp s p g o e
    first | rw [hn] | skip
    cases s
    · exact ⟨h.cell _, h.free _⟩
    · exact ⟨h.cell _, h.free _⟩
/-- One node more, below one that stands. -/
def Tri.grow (T : Tri) (s : Bool) (p : List Int) (b : Int) (g : Nat) : Tri := ⟨fun s' p' => if s' = s ∧ p' = p ++ [b] then some (g, 0) else T.pl s' p', T.val, T.has, T.n⟩
/-- A value at a node. -/
def Tri.put (T : Tri) (s : Bool) (p : List Int) (v : Int) : Tri := ⟨T.pl, fun s' p' => if s' = s ∧ p' = p then v else T.val s' p', fun s' p' => if s' = s ∧ p' = p then true else T.has s' p', if T.has s p = true then T.n else T.n + 1⟩
theorem snoc_ne (p : List Int) (b : Int) : p ≠ p ++ [b] := fun e => by
  have := congrArg List.length e
  simp at this
theorem IsTrie.grow {w : World} {tr B : Nat} {T : Tri} (h : IsTrie w tr B T) {s : Bool} {p : List Int} {b : Int} {g o : Nat} {t : TypeId} (hp : T.pl s p = some (g, o)) (hb : b = 0 ∨ b = 1) (hn : T.pl s (p ++ [b]) = none) (hB : B ≤ w.heap.size) :
    IsTrie ((w.alloc (.cells #[.pointer none, .pointer none, .int .i64 0, .bool false] t)).setCell ⟨g, o + b.toNat, none⟩ (.pointer (some ⟨w.heap.size, 0, none⟩))) tr B (T.grow s p b w.heap.size) := by
  have hz : ∀ q r g' o', T.pl q r = some (g', o') → g' ≠ w.heap.size := fun q r g' o' e => Nat.ne_of_lt (h.lt e)
  have hW : Below w.heap.size w (w.alloc (.cells #[.pointer none, .pointer none, .int .i64 0, .bool false] t)) := (Below.refl _ _).alloc (Nat.le_refl _) _
  have hT := h.keep hW
  have hN := Blk.new w t #[.pointer none, .pointer none, .int .i64 0, .bool false]
  have hg := h.lt hp
  generalize hu : w.alloc (.cells #[.pointer none, .pointer none, .int .i64 0, .bool false] t) = u at *
  clear hW hu
  have hold : ∀ s' p', ¬ (s' = s ∧ p' = p ++ [b]) → (T.grow s p b w.heap.size).pl s' p' = T.pl s' p' := fun s' p' hne => if_neg hne
  have hnew : (T.grow s p b w.heap.size).pl s (p ++ [b]) = some (w.heap.size, 0) := if_pos ⟨rfl, rfl⟩
  have hcase : ∀ s' p' g' o', (T.grow s p b w.heap.size).pl s' p' = some (g', o') → (s' = s ∧ p' = p ++ [b] ∧ g' = w.heap.size ∧ o' = 0) ∨ (¬ (s' = s ∧ p' = p ++ [b]) ∧ T.pl s' p' = some (g', o')) := fun s' p' g' o' e => by
    by_cases hc : s' = s ∧ p' = p ++ [b]
    · obtain ⟨rfl, rfl⟩ := hc
      rw [hnew] at e
      injection e with e
      injection e with e1 e2
      exact .inl ⟨rfl, rfl, e1.symm, e2.symm⟩
    · rw [hold _ _ hc] at e
      exact .inr ⟨hc, e⟩
  have hbel : ∀ c, (T.grow s p b w.heap.size).pl s (p ++ [b] ++ [c]) = none := fun c => by
    rw [hold _ _ (fun e => snoc_ne (p ++ [b]) c e.2.symm)]
    exact h.up _ _ _ hn
  have hfar : ∀ i, (u.setCell ⟨g, o + b.toNat, none⟩ (.pointer (some ⟨w.heap.size, 0, none⟩))).cell? ⟨w.heap.size, i, none⟩ = u.cell? ⟨w.heap.size, i, none⟩ := fun i => cell_else (.inl (Nat.ne_of_lt hg)) _
  -- cells of old nodes
  have hoff := h.off s p g o hp
  have hcell : ∀ s' p' g' o' (i : Nat), T.pl s' p' = some (g', o') → i < 4 → ¬ (s' = s ∧ p' = p ∧ i = b.toNat) → g ≠ g' ∨ o + b.toNat ≠ o' + i := fun s' p' g' o' i e hi hne => by
    by_cases hgo : (g, o) = (g', o')
    · obtain ⟨rfl, rfl⟩ := h.inj s p s' p' _ hp (hgo ▸ e)
      injection hgo with _ ho
      right
      intro h2
      exact hne ⟨rfl, rfl, by omega⟩
    · have h2 := h.off s' p' g' o' e
      by_cases hgg : g = g'
      · right
        have : o ≠ o' := fun ho => hgo (by rw [hgg, ho])
        omega
      · exact .inl hgg
  have hb2 : b.toNat < 2 := by omega
  refine ⟨fun s' => ?_, fun s' p' g' o' e => ?_, fun s' p' g' o' e => ?_, fun s1 p1 s2 p2 a e1 e2 => ?_, fun s' p' c e => ?_, fun s' p' e => ?_, h.i64, fun s' p' g' o' e => ?_, fun s' p' g' o' e => ?_, fun s' p' g' o' e => ?_, fun s' p' g' o' e => ?_, ?_, ?_⟩
  · rw [hold _ _ (fun e => by have := congrArg List.length e.2; simp at this)]
    exact h.root s'
  · rcases hcase s' p' g' o' e with ⟨_, _, rfl, _⟩ | ⟨_, e⟩
    · exact .inr hB
    · exact h.low s' p' g' o' e
  · rcases hcase s' p' g' o' e with ⟨_, _, _, rfl⟩ | ⟨_, e⟩
    · exact .inl rfl
    · exact h.off s' p' g' o' e
  · obtain ⟨g', o'⟩ := a
    rcases hcase s1 p1 g' o' e1 with ⟨rfl, rfl, rfl, rfl⟩ | ⟨_, f1⟩
    · rcases hcase s2 p2 _ _ e2 with ⟨rfl, rfl, _⟩ | ⟨_, e2⟩
      · exact ⟨rfl, rfl⟩
      · exact absurd rfl (hz _ _ _ _ e2)
    · rcases hcase s2 p2 _ _ e2 with ⟨rfl, rfl, rfl, _⟩ | ⟨_, f2⟩
      · exact absurd rfl (hz _ _ _ _ f1)
      · exact h.inj _ _ _ _ _ f1 f2
  · by_cases hc : s' = s ∧ p' = p ++ [b]
    · obtain ⟨rfl, rfl⟩ := hc
      exact hbel c
    · rw [hold _ _ hc] at e
      by_cases hc2 : s' = s ∧ p' ++ [c] = p ++ [b]
      · obtain ⟨rfl, h2⟩ := hc2
        have h3 : p' = p := by
          have := congrArg List.dropLast h2
          simpa using this
        rw [h3, hp] at e
        cases e
      · rw [hold _ _ hc2]
        exact h.up _ _ _ e
  · by_cases hc : s' = s ∧ p' = p ++ [b]
    · obtain ⟨rfl, rfl⟩ := hc
      rw [hnew] at e; cases e
    · rw [hold _ _ hc] at e
      exact h.no _ _ e
  · rcases hcase s' p' g' o' e with ⟨rfl, rfl, rfl, rfl⟩ | ⟨hc, f⟩
    · rw [hbel]
      exact ⟨(hfar 0).trans (hN.cell 0), (free_set _ _ _).trans (hN.free 0)⟩
    · refine ⟨?_, (free_set _ _ _).trans (hT.at0 _ _ _ _ f).2⟩
      by_cases hq : s' = s ∧ p' = p ∧ 0 = b.toNat
      · obtain ⟨rfl, rfl, hb0⟩ := hq
        have hbz : b = 0 := by omega
        subst hbz
        rw [hp] at f
        injection f with f
        injection f with e1 e2
        subst e1 e2
        rw [hnew]
        exact cell_put (hT.at0 _ _ _ _ hp).1 _
      · have h3 := hcell s' p' g' o' 0 f (by omega) hq
        rw [hold _ _ (fun e2 => hq (by
          have h4 : p' = p := by simpa using congrArg List.dropLast e2.2
          have h5 : (0 : Int) = b := by
            have := e2.2
            rw [h4] at this
            simpa using this
          exact ⟨e2.1, h4, by omega⟩))]
        exact (cell_else (by simpa using h3) _).trans (hT.at0 _ _ _ _ f).1
  · rcases hcase s' p' g' o' e with ⟨rfl, rfl, rfl, rfl⟩ | ⟨hc, f⟩
    · rw [hbel]
      exact ⟨(hfar 1).trans (hN.cell 1), (free_set _ _ _).trans (hN.free 1)⟩
    · refine ⟨?_, (free_set _ _ _).trans (hT.at1 _ _ _ _ f).2⟩
      by_cases hq : s' = s ∧ p' = p ∧ 1 = b.toNat
      · obtain ⟨rfl, rfl, hb0⟩ := hq
        have hbz : b = 1 := by omega
        subst hbz
        rw [hp] at f
        injection f with f
        injection f with e1 e2
        subst e1 e2
        rw [hnew]
        exact cell_put (hT.at1 _ _ _ _ hp).1 _
      · have h3 := hcell s' p' g' o' 1 f (by omega) hq
        rw [hold _ _ (fun e2 => hq (by
          have h4 : p' = p := by simpa using congrArg List.dropLast e2.2
          have h5 : (1 : Int) = b := by
            have := e2.2
            rw [h4] at this
            simpa using this
          exact ⟨e2.1, h4, by omega⟩))]
        exact (cell_else h3 _).trans (hT.at1 _ _ _ _ f).1
  · rcases hcase s' p' g' o' e with ⟨rfl, rfl, rfl, rfl⟩ | ⟨hc, f⟩
    · have := (h.no _ _ hn).2
      show _ = some (Value.int .i64 (T.val s' (p ++ [b]))) ∧ _
      rw [this]
      exact ⟨(hfar 2).trans (hN.cell 2), (free_set _ _ _).trans (hN.free 2)⟩
    · exact ⟨(cell_else (hcell s' p' g' o' 2 f (by omega) (fun hq => by omega)) _).trans (hT.at2 _ _ _ _ f).1, (free_set _ _ _).trans (hT.at2 _ _ _ _ f).2⟩
  · rcases hcase s' p' g' o' e with ⟨rfl, rfl, rfl, rfl⟩ | ⟨hc, f⟩
    · have := (h.no _ _ hn).1
      show _ = some (Value.bool (T.has s' (p ++ [b]))) ∧ _
      rw [this]
      exact ⟨(hfar 3).trans (hN.cell 3), (free_set _ _ _).trans (hN.free 3)⟩
    · exact ⟨(cell_else (hcell s' p' g' o' 3 f (by omega) (fun hq => by omega)) _).trans (hT.at3 _ _ _ _ f).1, (free_set _ _ _).trans (hT.at3 _ _ _ _ f).2⟩
  · exact (cell_else (.inr (by omega)) _).trans hT.cnt.1
  · exact (free_set _ _ _).trans hT.cnt.2
/-- The number of prefixes turned. -/
theorem IsTrie.count {w : World} {tr B : Nat} {T : Tri} (h : IsTrie w tr B T) (m : Int) : IsTrie (w.setCell ⟨tr, 8, none⟩ (.int .i64 m)) tr B ⟨T.pl, T.val, T.has, m⟩ := by
  have hc : ∀ s p g o (i : Nat), T.pl s p = some (g, o) → i < 4 → tr ≠ g ∨ 8 ≠ o + i := fun s p g o i e hi => .inr (by have := h.off s p g o e; omega)
  refine ⟨h.root, h.low, h.off, h.inj, h.up, h.no, h.i64, fun s p g o e => ?_, fun s p g o e => ?_, fun s p g o e => ?_, fun s p g o e => ?_, cell_put h.cnt.1 _, (free_set _ _ _).trans h.cnt.2⟩
  · exact ⟨(cell_else (hc s p g o 0 e (by omega)) _).trans (h.at0 _ _ _ _ e).1, (free_set _ _ _).trans (h.at0 _ _ _ _ e).2⟩
  · exact ⟨(cell_else (hc s p g o 1 e (by omega)) _).trans (h.at1 _ _ _ _ e).1, (free_set _ _ _).trans (h.at1 _ _ _ _ e).2⟩
  · exact ⟨(cell_else (hc s p g o 2 e (by omega)) _).trans (h.at2 _ _ _ _ e).1, (free_set _ _ _).trans (h.at2 _ _ _ _ e).2⟩
  · exact ⟨(cell_else (hc s p g o 3 e (by omega)) _).trans (h.at3 _ _ _ _ e).1, (free_set _ _ _).trans (h.at3 _ _ _ _ e).2⟩
/-- A node's value written. -/
theorem IsTrie.write {w : World} {tr B : Nat} {T : Tri} (h : IsTrie w tr B T) {s : Bool} {p : List Int} {g o : Nat} (hp : T.pl s p = some (g, o)) {v : Int} (hv : I64 v) :
    IsTrie ((w.setCell ⟨g, o + 2, none⟩ (.int .i64 v)).setCell ⟨g, o + 3, none⟩ (.bool true)) tr B ⟨T.pl, fun s' p' => if s' = s ∧ p' = p then v else T.val s' p', fun s' p' => if s' = s ∧ p' = p then true else T.has s' p', T.n⟩ := by
  have hoff := h.off s p g o hp
  have hne : ∀ s' p' g' o' (i j : Nat), T.pl s' p' = some (g', o') → i < 4 → j < 4 → i ≠ j ∨ ¬ (s' = s ∧ p' = p) → g ≠ g' ∨ o + j ≠ o' + i := fun s' p' g' o' i j e hi hj hne => by
    by_cases hgo : (g, o) = (g', o')
    · obtain ⟨rfl, rfl⟩ := h.inj s p s' p' _ hp (hgo ▸ e)
      injection hgo with _ ho
      right
      intro h2
      rcases hne with h3 | h3
      · omega
      · exact h3 ⟨rfl, rfl⟩
    · have h2 := h.off s' p' g' o' e
      by_cases hgg : g = g'
      · right
        have : o ≠ o' := fun ho => hgo (by rw [hgg, ho])
        omega
      · exact .inl hgg
  have hfz : ∀ q, ((w.setCell ⟨g, o + 2, none⟩ (.int .i64 v)).setCell ⟨g, o + 3, none⟩ (.bool true)).frozen? q = w.frozen? q := fun q => (free_set _ _ _).trans (free_set _ _ _)
  have hfar : ∀ g' i', (g ≠ g' ∨ o + 2 ≠ i') → (g ≠ g' ∨ o + 3 ≠ i') → ((w.setCell ⟨g, o + 2, none⟩ (.int .i64 v)).setCell ⟨g, o + 3, none⟩ (.bool true)).cell? ⟨g', i', none⟩ = w.cell? ⟨g', i', none⟩ := fun g' i' h1 h2 => (cell_else h2 _).trans (cell_else h1 _)
  refine ⟨h.root, h.low, h.off, h.inj, h.up, fun s' p' e => ?_, fun s' p' => ?_, fun s' p' g' o' e => ?_, fun s' p' g' o' e => ?_, fun s' p' g' o' e => ?_, fun s' p' g' o' e => ?_, ?_, ?_⟩
  · have hc : ¬ (s' = s ∧ p' = p) := fun hc => by rw [hc.1, hc.2, hp] at e; cases e
    dsimp only
    rw [if_neg hc, if_neg hc]
    exact h.no _ _ e
  · dsimp only
    split
    · exact hv
    · exact h.i64 _ _
  · exact ⟨(hfar _ _ (by simpa using hne s' p' g' o' 0 2 e (by omega) (by omega) (.inl (by omega))) (by simpa using hne s' p' g' o' 0 3 e (by omega) (by omega) (.inl (by omega)))).trans (h.at0 _ _ _ _ e).1, (hfz _).trans (h.at0 _ _ _ _ e).2⟩
  · exact ⟨(hfar _ _ (hne s' p' g' o' 1 2 e (by omega) (by omega) (.inl (by omega))) (hne s' p' g' o' 1 3 e (by omega) (by omega) (.inl (by omega)))).trans (h.at1 _ _ _ _ e).1, (hfz _).trans (h.at1 _ _ _ _ e).2⟩
  · refine ⟨?_, (hfz _).trans (h.at2 _ _ _ _ e).2⟩
    by_cases hc : s' = s ∧ p' = p
    · obtain ⟨rfl, rfl⟩ := hc
      have e' := e
      dsimp only at e'
      rw [hp] at e'
      injection e' with e'
      injection e' with e1 e2
      subst e1 e2
      dsimp only
      rw [if_pos ⟨rfl, rfl⟩, cell_else (.inr (by omega))]
      exact cell_put (h.at2 _ _ _ _ hp).1 _
    · dsimp only
      rw [if_neg hc]
      exact (hfar _ _ (hne s' p' g' o' 2 2 e (by omega) (by omega) (.inr hc)) (hne s' p' g' o' 2 3 e (by omega) (by omega) (.inr hc))).trans (h.at2 _ _ _ _ e).1
  · refine ⟨?_, (hfz _).trans (h.at3 _ _ _ _ e).2⟩
    by_cases hc : s' = s ∧ p' = p
    · obtain ⟨rfl, rfl⟩ := hc
      have e' := e
      dsimp only at e'
      rw [hp] at e'
      injection e' with e'
      injection e' with e1 e2
      subst e1 e2
      dsimp only
      rw [if_pos ⟨rfl, rfl⟩]
      exact cell_put ((cell_else (.inr (by omega)) _).trans (h.at3 _ _ _ _ hp).1) _
    · dsimp only
      rw [if_neg hc]
      exact (hfar _ _ (hne s' p' g' o' 3 2 e (by omega) (by omega) (.inr hc)) (hne s' p' g' o' 3 3 e (by omega) (by omega) (.inr hc))).trans (h.at3 _ _ _ _ e).1
  · exact (hfar _ _ (.inr (by omega)) (.inr (by omega))).trans h.cnt.1
  · exact (hfz _).trans h.cnt.2
end Go.Proofs.Ytceekfbhkenniaa
end
section
/- Trie.top, Trie.Put. -/
set_option linter.unusedVariables false
namespace Go.Proofs.Ytceekfbhkenniaa
open Go.RowKit
set_option maxHeartbeats 8000000
set_option maxRecDepth 100000
theorem trie_top (tr : Nat) (six : Bool) (hi lo : Int) (w : World) :
    Calls Try.prog 45 #[.pointer (some ⟨tr, 0, none⟩), .agg #[.bool six, .int .u64 hi, .int .u64 lo]] w fun e w' => e = .returned (.pointer (some ⟨tr, if six = true then 4 else 0, none⟩)) ∧ Below w.heap.size w w' := by
  have hW : Below w.heap.size w (w.alloc (.cells #[.bool six, .int .u64 hi, .int .u64 lo] 25)) := (Below.refl _ _).alloc (Nat.le_refl _) _
  cases six
  all_goals
    go_enter Try.func45, Try.ntmps45
    go_wp2
    go_ret
    exact ⟨rfl, hW⟩
def path (six : Bool) (hi lo : Int) (k : Nat) : List Int := (List.range k).map fun j : Nat => bitI six hi lo j
theorem path_succ (six : Bool) (hi lo : Int) (k : Nat) : path six hi lo (k + 1) = path six hi lo k ++ [bitI six hi lo k] := by
  unfold path
  rw [List.range_succ, List.map_append]
  rfl
/-- What a prefix put in makes of a trie. -/
structure PutTo (T T' : Tri) (s : Bool) (p : List Int) (v : Int) : Prop where
  val : ∀ s' p', T'.val s' p' = if s' = s ∧ p' = p then v else T.val s' p'
  has : ∀ s' p', T'.has s' p' = if s' = s ∧ p' = p then true else T.has s' p'
  n : T'.n = if T.has s p = true then T.n else T.n + 1
def PutPost (u : World) (tr : Nat) (T : Tri) (s : Bool) (p : List Int) (v : Int) (w' : World) : Prop :=
  ∃ T', IsTrie w' tr u.heap.size T' ∧ PutTo T T' s p v ∧ Mod (· = tr) u w'
theorem mod_keep {u w w' : World} {tr : Nat} (h : Mod (· = tr) u w) (hx : Below w.heap.size w w') : Mod (· = tr) u w' := h.trans (Mod.of_below hx)
theorem pfxOk_bits {six : Bool} {hi lo b : Int} (h : pfxOk six hi lo b = true) : 0 ≤ b ∧ b ≤ if six = true then 128 else 32 := by
  unfold pfxOk at h
  simp only [Bool.and_eq_true, decide_eq_true_eq] at h
  exact ⟨h.1.1.2, h.1.2⟩
theorem grow_ne {T : Tri} {six : Bool} {p : List Int} {b : Int} {g z : Nat} (h : ∀ s p g o, T.pl s p = some (g, o) → g ≠ z) (hg : g ≠ z) : ∀ s' p' g' o', (T.grow six p b g).pl s' p' = some (g', o') → g' ≠ z := fun s' p' g' o' e => by
  unfold Tri.grow at e
  dsimp only at e
  split at e
  · injection e with e
    injection e with e1 e2
    rw [← e1]; exact hg
  · exact h _ _ _ _ e
theorem trie_Put {w u : World} {tr : Nat} {T : Tri} (hT : IsTrie w tr u.heap.size T) (hu : Mod (· = tr) u w) (six : Bool) (hi lo b v : Int) (l0 : U64 hi) (l1 : U64 lo) (hv : I64 v) (hok : pfxOk six hi lo b = true) (hn0 : 0 ≤ T.n) (hn1 : T.n < 1000000) :
    Calls Try.prog 37 #[.pointer (some ⟨tr, 0, none⟩), .agg #[.bool six, .int .u64 hi, .int .u64 lo, .int .i64 b], .int .i64 v] w fun e w' => e = .returned (.int .i64 0) ∧ PutPost u tr T six (path six hi lo b.toNat) v w' := by
  obtain ⟨hb0, hb1⟩ := pfxOk_bits hok
  obtain ⟨m, rfl⟩ := Int.eq_ofNat_of_zero_le hb0
  have hm : m ≤ 128 := by split at hb1 <;> omega
  rw [Int.toNat_natCast]
  have P := Blk.new w 37 #[.bool six, .int .u64 hi, .int .u64 lo, .int .i64 (m : Int)]
  have hA : Below w.heap.size w (w.alloc (.cells #[.bool six, .int .u64 hi, .int .u64 lo, .int .i64 (m : Int)] 37)) := (Below.refl _ _).alloc (Nat.le_refl _) _
  have hT1 := hT.keep hA
  have hu1 := mod_keep hu hA
  have HB := Lib.hid (fun (k : Nat) (h : k < m) (w : World) => addr_Bit six hi lo k l0 l1 (by omega) (Int.lt_of_lt_of_le (show (k : Int) < (m : Int) by omega) hb1) w)
  have HG := Lib.hid (show ∀ s p g o, T.pl s p = some (g, o) → g ≠ w.heap.size from fun s p g o e => Nat.ne_of_lt (hT.lt e))
  have HOK := Lib.hid hok
  have hm1 : (m : Int) ≤ 128 := by omega
  have hzu : u.heap.size ≤ w.heap.size := hu.size
  have HS := Lib.hid (fun k => path_succ six hi lo k)
  have HT := Lib.hid (fun k : Nat => bitI_two six hi lo k)
  have Hn0 := Lib.hid hn0
  have Hn1 := Lib.hid hn1
  clear hn0 hn1 hT hu hb1 hb0 hok
  go_enter Try.func37, Try.ntmps37
  go_wp2_with fail
  generalize w.alloc (.cells #[.bool six, .int .u64 hi, .int .u64 lo, .int .i64 (m : Int)] 37) = w1 at *
  refine (pfx_Right six hi lo m w1).mono ?_; rintro e w2 ⟨rfl, hx⟩
  have P2 := P.keep hx
  have hT2 := hT1.keep hx
  have hu2 := mod_keep hu1 hx
  have hz2 : w.heap.size ≤ w2.heap.size := Nat.le_trans hA.size hx.size
  rw [HOK.out]
  clear P hT1 hu1 hx hA
  obtain ⟨p0, p1, p2, p3, _⟩ := P2.cells4
  go_wp2_with fail
  refine (trie_top tr six hi lo w2).mono ?_; rintro e w3 ⟨rfl, hx⟩
  have P3 := P2.keep hx
  have hT3 := hT2.keep hx
  have hu3 := mod_keep hu2 hx
  have hz3 : w.heap.size ≤ w3.heap.size := Nat.le_trans hz2 hx.size
  clear P2 hT2 hu2 hx p0 p1 p2 p3 hz2
  have hr0 : T.pl six (path six hi lo 0) = some (tr, if six = true then 4 else 0) := hT3.root six
  generalize (if six = true then 4 else 0 : Nat) = o0 at *
  obtain ⟨p0, p1, p2, p3, _⟩ := P3.cells4
  go_wp2_with fail
  go_loopg [7, 8, 9, 23] m (fun gk s7 s8 s9 s23 wr => ∃ (k : Nat) (T' : Tri) (g o : Nat), k ≤ m ∧ gk = m - k ∧ s23 = .int .i64 k ∧ s7 = .pointer (some ⟨g, o, none⟩) ∧ Hid (T'.pl six (path six hi lo k) = some (g, o)) ∧ IsTrie wr tr u.heap.size T' ∧ Hid (T'.val = T.val ∧ T'.has = T.has ∧ T'.n = T.n) ∧ Hid (∀ s p g o, T'.pl s p = some (g, o) → g ≠ w.heap.size) ∧ Blk wr w.heap.size 37 #[.bool six, .int .u64 hi, .int .u64 lo, .int .i64 (m : Int)] ∧ Mod (· = tr) u wr ∧ w.heap.size ≤ wr.heap.size)
  case atStart => exact ⟨0, T, tr, o0, Nat.zero_le _, rfl, rfl, rfl, Lib.hid hr0, hT3, Lib.hid ⟨rfl, rfl, rfl⟩, HG, P3, hu3, hz3⟩
  case round =>
    obtain ⟨k, T', g, o, hk, rfl, rfl, rfl, HP, hT', HT', HG', P', hu', hz'⟩ := hrel
    clear hT3 hu3 hz3 HG p0 p1 p2 p3 hr0 P3
    obtain ⟨p0, p1, p2, p3, _⟩ := P'.cells4
    by_cases hkm : k < m
    · have hki : (k : Int) < (m : Int) := by omega
      go_upto_region 7 with (fail)
      have hBit := HB.out k hkm wr
      have HS1 := Lib.hid (HS.out k)
      have hT2 := HT.out k
      generalize bitI six hi lo (k : Int) = β at *
      go_wp2_with fail
      refine hBit.mono ?_; rintro e w4 ⟨rfl, hx⟩
      have P4 := P'.keep hx
      have hT4 := hT'.keep hx
      have hu4 := mod_keep hu' hx
      have hz4 : w.heap.size ≤ w4.heap.size := Nat.le_trans hz' hx.size
      clear P' hT' hu' hx hz' hBit p0 p1 p2 p3
      have c0 := hT4.at0 _ _ _ _ HP.out
      have c1 := hT4.at1 _ _ _ _ HP.out
      rcases hT2 with rfl | rfl
      · cases hpl : T'.pl six (path six hi lo k ++ [0]) with
        | some a =>
          obtain ⟨g1, o1⟩ := a
          rw [hpl] at c0
          obtain ⟨c0, f0⟩ := c0
          have HP1 := Lib.hid hpl
          clear c1 hpl f0
          change w4.cell? _ = some (.pointer (some ⟨g1, o1, none⟩)) at c0
          go_wp2
          go_roundg (m - (k + 1))
          case measure => omega
          case rel => exact ⟨k + 1, T', g1, o1, by omega, rfl, by go_num, rfl, by rw [HS1.out]; exact HP1, hT4, HT', HG', P4, hu4, hz4⟩
        | none =>
          rw [hpl] at c0
          obtain ⟨c0, f0⟩ := c0
          change w4.cell? _ = some (.pointer none) at c0
          have hgr := hT4.grow (t := 89) HP.out (b := 0) (by decide) hpl (Nat.le_trans hzu hz4)
          have hlow := hT4.low _ _ _ _ HP.out
          have hgw := hT4.lt HP.out
          have hA : Below w4.heap.size w4 (w4.alloc (.cells #[.pointer none, .pointer none, .int .i64 0, .bool false] 89)) := (Below.refl _ _).alloc (Nat.le_refl _) _
          have hu5 := (mod_keep hu4 hA).setCell (p := ⟨g, o, none⟩) hlow (.pointer (some ⟨w4.heap.size, 0, none⟩))
          have P5 := (P4.keep hA).far (p := ⟨g, o, none⟩) (HG'.out _ _ _ _ HP.out).symm (.pointer (some ⟨w4.heap.size, 0, none⟩))
          have d0 := cell_put (cell_keep c0 hA) (.pointer (some ⟨w4.heap.size, 0, none⟩))
          have hpl5 : (T'.grow six (path six hi lo k) 0 w4.heap.size).pl six (path six hi lo (k + 1)) = some (w4.heap.size, 0) := by rw [HS1.out]; exact if_pos ⟨rfl, rfl⟩
          have HP5 := Lib.hid hpl5
          have HG5 := Lib.hid (grow_ne (six := six) (p := path six hi lo k) (b := 0) (z := w.heap.size) HG'.out (show w4.heap.size ≠ w.heap.size by have := P4.lt; omega))
          have hz5 : w.heap.size ≤ ((w4.alloc (.cells #[.pointer none, .pointer none, .int .i64 0, .bool false] 89)).setCell ⟨g, o, none⟩ (.pointer (some ⟨w4.heap.size, 0, none⟩))).heap.size := by simp [World.setCell]; omega
          clear c1 hpl hpl5
          rw [World.setCell_alloc_past _ _ _ _ hgw] at hu5 P5 d0 hz5
          have hgr2 := hgr
          rw [show o + Int.toNat 0 = o from rfl] at hgr2
          rw [World.setCell_alloc_past _ _ _ _ hgw] at hgr2
          clear hgr
          go_wp2
          go_roundg (m - (k + 1))
          case measure => omega
          case rel => exact ⟨k + 1, T'.grow six (path six hi lo k) 0 w4.heap.size, w4.heap.size, 0, by omega, rfl, by go_num, rfl, HP5, hgr2, HT', HG5, P5, hu5, hz5⟩
      · cases hpl : T'.pl six (path six hi lo k ++ [1]) with
        | some a =>
          obtain ⟨g1, o1⟩ := a
          rw [hpl] at c1
          obtain ⟨c1, f1⟩ := c1
          have HP1 := Lib.hid hpl
          clear c0 hpl f1
          change w4.cell? _ = some (.pointer (some ⟨g1, o1, none⟩)) at c1
          go_wp2
          go_roundg (m - (k + 1))
          case measure => omega
          case rel => exact ⟨k + 1, T', g1, o1, by omega, rfl, by go_num, rfl, by rw [HS1.out]; exact HP1, hT4, HT', HG', P4, hu4, hz4⟩
        | none =>
          rw [hpl] at c1
          obtain ⟨c1, f1⟩ := c1
          change w4.cell? _ = some (.pointer none) at c1
          have hgr := hT4.grow (t := 89) HP.out (b := 1) (by decide) hpl (Nat.le_trans hzu hz4)
          have hlow := hT4.low _ _ _ _ HP.out
          have hgw := hT4.lt HP.out
          have hA : Below w4.heap.size w4 (w4.alloc (.cells #[.pointer none, .pointer none, .int .i64 0, .bool false] 89)) := (Below.refl _ _).alloc (Nat.le_refl _) _
          have hu5 := (mod_keep hu4 hA).setCell (p := ⟨g, o + 1, none⟩) hlow (.pointer (some ⟨w4.heap.size, 0, none⟩))
          have P5 := (P4.keep hA).far (p := ⟨g, o + 1, none⟩) (HG'.out _ _ _ _ HP.out).symm (.pointer (some ⟨w4.heap.size, 0, none⟩))
          have d0 := cell_put (cell_keep c1 hA) (.pointer (some ⟨w4.heap.size, 0, none⟩))
          have hpl5 : (T'.grow six (path six hi lo k) 1 w4.heap.size).pl six (path six hi lo (k + 1)) = some (w4.heap.size, 0) := by rw [HS1.out]; exact if_pos ⟨rfl, rfl⟩
          have HP5 := Lib.hid hpl5
          have HG5 := Lib.hid (grow_ne (six := six) (p := path six hi lo k) (b := 1) (z := w.heap.size) HG'.out (show w4.heap.size ≠ w.heap.size by have := P4.lt; omega))
          have hz5 : w.heap.size ≤ ((w4.alloc (.cells #[.pointer none, .pointer none, .int .i64 0, .bool false] 89)).setCell ⟨g, o + 1, none⟩ (.pointer (some ⟨w4.heap.size, 0, none⟩))).heap.size := by simp [World.setCell]; omega
          clear c0 hpl hpl5
          rw [World.setCell_alloc_past _ _ _ _ hgw] at hu5 P5 d0 hz5
          have hgr2 := hgr
          rw [show o + Int.toNat 1 = o + 1 from rfl] at hgr2
          rw [World.setCell_alloc_past _ _ _ _ hgw] at hgr2
          clear hgr
          go_wp2
          go_roundg (m - (k + 1))
          case measure => omega
          case rel => exact ⟨k + 1, T'.grow six (path six hi lo k) 1 w4.heap.size, w4.heap.size, 0, by omega, rfl, by go_num, rfl, HP5, hgr2, HT', HG5, P5, hu5, hz5⟩
    · have hke : m = k := by omega
      subst hke
      have hTt := HT'.out
      have c2 := hT'.at2 _ _ _ _ HP.out
      have c3 := hT'.at3 _ _ _ _ HP.out
      have hlow := hT'.low _ _ _ _ HP.out
      have ht := hT'.root false
      cases hh : T'.has six (path six hi lo m) with
      | true =>
        rw [hh] at c3
        obtain ⟨c3, f3⟩ := c3
        obtain ⟨c2, f2⟩ := c2
        have hgr := hT'.write HP.out hv
        have hmd := (hu'.setCell (p := ⟨g, o + 2, none⟩) hlow (.int .i64 v)).setCell (p := ⟨g, o + 3, none⟩) hlow (.bool true)
        have f4 := (free_set (w := wr) ⟨g, o + 2, none⟩ ⟨g, o + 3, none⟩ (.int .i64 v)).trans f3
        have hto : PutTo T ⟨T'.pl, fun s' p' => if s' = six ∧ p' = path six hi lo m then v else T'.val s' p', fun s' p' => if s' = six ∧ p' = path six hi lo m then true else T'.has s' p', T'.n⟩ six (path six hi lo m) v := by
          obtain ⟨h1, h2, h3⟩ := hTt
          rw [h2] at hh
          exact ⟨fun s' p' => by dsimp only; rw [h1], fun s' p' => by dsimp only; rw [h2], by dsimp only; rw [h3, if_pos hh]⟩
        clear hTt hh
        go_wp2
        go_ret
        exact ⟨rfl, _, hgr, hto, hmd⟩
      | false =>
        rw [hh] at c3
        obtain ⟨c3, f3⟩ := c3
        obtain ⟨c2, f2⟩ := c2
        obtain ⟨n8, f8⟩ := hT'.cnt
        have hTn : T'.n = T.n := hTt.2.2
        have hn0 := Hn0.out
        have hn1 := Hn1.out
        rw [← hTn] at hn0 hn1
        have hof := hT'.off _ _ _ _ HP.out
        have hw : IntKind.i64.wrap (T'.n + 1) = T'.n + 1 := IntWalk.i64_in _ (by omega)
        have hgr := (hT'.count (T'.n + 1)).write HP.out hv
        have hmd := ((hu'.setCell (p := ⟨tr, 8, none⟩) (.inl rfl) (.int .i64 (T'.n + 1))).setCell (p := ⟨g, o + 2, none⟩) hlow (.int .i64 v)).setCell (p := ⟨g, o + 3, none⟩) hlow (.bool true)
        have e2 := (cell_else (w := wr) (g := tr) (i := 8) (g' := g) (i' := o + 2) (.inr (by omega)) (.int .i64 (T'.n + 1))).trans c2
        have e3 := (cell_else (w := wr) (g := tr) (i := 8) (g' := g) (i' := o + 3) (.inr (by omega)) (.int .i64 (T'.n + 1))).trans c3
        have f4 := (free_set (w := wr) ⟨tr, 8, none⟩ ⟨g, o + 2, none⟩ (.int .i64 (T'.n + 1))).trans f2
        have f5 := (free_set (w := wr.setCell ⟨tr, 8, none⟩ (.int .i64 (T'.n + 1))) ⟨g, o + 2, none⟩ ⟨g, o + 3, none⟩ (.int .i64 v)).trans ((free_set (w := wr) ⟨tr, 8, none⟩ ⟨g, o + 3, none⟩ (.int .i64 (T'.n + 1))).trans f3)
        have hto : PutTo T ⟨T'.pl, fun s' p' => if s' = six ∧ p' = path six hi lo m then v else T'.val s' p', fun s' p' => if s' = six ∧ p' = path six hi lo m then true else T'.has s' p', T'.n + 1⟩ six (path six hi lo m) v := by
          obtain ⟨h1, h2, h3⟩ := hTt
          rw [h2] at hh
          exact ⟨fun s' p' => by dsimp only; rw [h1], fun s' p' => by dsimp only; rw [h2], by dsimp only; rw [h3, if_neg (by rw [hh]; decide)]⟩
        have HTO := Lib.hid hto
        clear hTt hh hTn hto
        go_wp2
        go_ret
        exact ⟨rfl, _, hgr, HTO.out, hmd⟩
end Go.Proofs.Ytceekfbhkenniaa
end
