/- Lemmas for the claim's proof: VipA VipB0 VipB VipC. -/
import Derived.DeepKeys4
import Derived.Maps.OwnSet
import Derived.Maps.OwnOps
import Derived.Maps.Views
import Derived.Carry
import Derived.Laws.Cover3
import Derived.Test.YtceekfbhkenniaaQ05
import Derived.Test.YtceekfbhkenniaaQ12
section
/- Keys of maps: addresses; addresses with a protocol and a port. -/
set_option linter.unusedVariables false
namespace Go.Proofs.Ytceekfbhkenniaa
open Go.RowKit
set_option maxHeartbeats 4000000
set_option maxRecDepth 100000
theorem cellsKey : Try.prog.cellsOf 94 = 5 := by kernel_rfl
theorem cellsAddr' : Try.prog.cellsOf 25 = 3 := by kernel_rfl
theorem cellsBool' : Try.prog.cellsOf 4 = 1 := by kernel_rfl
theorem cellsU64' : Try.prog.cellsOf 23 = 1 := by kernel_rfl
theorem cellsInt' : Try.prog.cellsOf 3 = 1 := by kernel_rfl
theorem keyTypeK : Try.prog.keyType 94 = true := by kernel_rfl
theorem keyTypeA : Try.prog.keyType 25 = true := by kernel_rfl
theorem lawK : WideMaps.KeyLaw Try.prog 94 := deep_law_laid Try.laidOut (m := 3) (by omega) (of_decide_eq_true (by kernel_rfl)) (by kernel_rfl) (by kernel_rfl)
theorem lawA : WideMaps.KeyLaw Try.prog 25 := deep_law_laid Try.laidOut (m := 2) (by omega) (of_decide_eq_true (by kernel_rfl)) (by kernel_rfl) (by kernel_rfl)
theorem fuel4 : ∃ m, Try.prog.types.size + 1 = m + 4 := ⟨Try.prog.types.size - 3, by
  have : 4 ≤ Try.prog.types.size := of_decide_eq_true (by kernel_rfl)
  omega⟩
theorem u64_wf {x : Int} (h : U64 x) : (Lit.int .u64 x).wf = true := by
  obtain ⟨h0, h1⟩ := h
  simp [Lit.wf, IntKind.min, IntKind.max, IntKind.signed, IntKind.bits]
  omega
theorem i64_wf {x : Int} (h : I64 x) : (Lit.int .i64 x).wf = true := by
  obtain ⟨h0, h1⟩ := h
  simp [Lit.wf, IntKind.min, IntKind.max, IntKind.signed, IntKind.bits]
  omega
theorem klBool (n : Nat) (b : Bool) : Try.prog.keyLits (n + 1) 4 [.bool b] = some [.bool b] := by
  unfold Program.keyLits
  rw [Try.underlying4]
theorem klU64 (n : Nat) {x : Int} (h : U64 x) : Try.prog.keyLits (n + 1) 23 [.int .u64 x] = some [.int .u64 x] := by
  unfold Program.keyLits
  rw [Try.underlying23]
  simp [u64_wf h]
theorem klInt (n : Nat) {x : Int} (h : I64 x) : Try.prog.keyLits (n + 1) 3 [.int .i64 x] = some [.int .i64 x] := by
  unfold Program.keyLits
  rw [Try.underlying3]
  simp [i64_wf h]
theorem klAddr (n : Nat) (s : Bool) {h l : Int} (w1 : U64 h) (w2 : U64 l) : Try.prog.keyLits (n + 2) 25 [.bool s, .int .u64 h, .int .u64 l] = some [.bool s, .int .u64 h, .int .u64 l] := by
  unfold Program.keyLits
  rw [Try.underlying25]
  simp [cellsAddr', cellsBool', cellsU64', klBool, klU64 _ w1, klU64 _ w2]
theorem klKey (n : Nat) (s : Bool) {h l p q : Int} (w1 : U64 h) (w2 : U64 l) (w3 : I64 p) (w4 : I64 q) : Try.prog.keyLits (n + 3) 94 [.bool s, .int .u64 h, .int .u64 l, .int .i64 p, .int .i64 q] = some [.bool s, .int .u64 h, .int .u64 l, .int .i64 p, .int .i64 q] := by
  unfold Program.keyLits
  rw [Try.underlying94]
  simp [cellsKey, cellsAddr', cellsInt', klAddr _ _ w1 w2, klInt _ w3, klInt _ w4]
theorem keyA (s : Bool) {h l : Int} (w1 : U64 h) (w2 : U64 l) : ∃ kl, keyOf Try.prog 25 (.agg #[.bool s, .int .u64 h, .int .u64 l]) = some kl := by
  obtain ⟨m, hm⟩ := fuel4
  unfold keyOf
  rw [Try.underlying25]
  simp only []
  rw [hm, keyTypeA]
  simp [Value.formed, Value.cells, Try.underlying25, cellsAddr', klAddr (m + 2) s w1 w2]
theorem keyK (s : Bool) {h l p q : Int} (w1 : U64 h) (w2 : U64 l) (w3 : I64 p) (w4 : I64 q) : ∃ kl, keyOf Try.prog 94 (.agg #[.bool s, .int .u64 h, .int .u64 l, .int .i64 p, .int .i64 q]) = some kl := by
  obtain ⟨m, hm⟩ := fuel4
  unfold keyOf
  rw [Try.underlying94]
  simp only []
  rw [hm, keyTypeK]
  simp [Value.formed, Value.cells, Try.underlying94, cellsKey, klKey (m + 1) s w1 w2 w3 w4]
end Go.Proofs.Ytceekfbhkenniaa
end
section
/- The two maps of a table: what they hold. -/
set_option linter.unusedVariables false
namespace Go.Proofs.Ytceekfbhkenniaa
open Go.RowKit
set_option maxHeartbeats 4000000
set_option maxRecDepth 100000
def keyV (x : Vp) : Value := .agg #[.bool x.six, .int .u64 x.hi, .int .u64 x.lo, .int .i64 x.proto, .int .i64 x.port]
def adrV (x : Vp) : Value := .agg #[.bool x.six, .int .u64 x.hi, .int .u64 x.lo]
noncomputable def klK (x : Vp) : Lit := (keyOf Try.prog 94 (keyV x)).getD (.bool false)
noncomputable def klA (x : Vp) : Lit := (keyOf Try.prog 25 (adrV x)).getD (.bool false)
def sameAdr (x y : Vp) : Bool := x.six == y.six && x.hi == y.hi && x.lo == y.lo
theorem klK_of {x : Vp} (h : vpShape.Wf x) : keyOf Try.prog 94 (keyV x) = some (klK x) := by
  obtain ⟨h1, h2, h3, h4, _⟩ := h
  obtain ⟨kl, e⟩ := keyK x.six h1 h2 h3 h4
  unfold klK keyV
  rw [e]; rfl
theorem klA_of {x : Vp} (h : vpShape.Wf x) : keyOf Try.prog 25 (adrV x) = some (klA x) := by
  obtain ⟨h1, h2, _⟩ := h
  obtain ⟨kl, e⟩ := keyA x.six h1 h2
  unfold klA adrV
  rw [e]; rfl
theorem klK_eq {x y : Vp} (hx : vpShape.Wf x) (hy : vpShape.Wf y) : (klK x = klK y) ↔ sameKey x y = true := by
  constructor
  · intro e
    have h1 := klK_of hx
    have h2 := klK_of hy
    rw [e] at h1
    have h3 := lawK.inj h1 h2
    unfold keyV at h3
    simp at h3
    unfold sameKey
    simp [h3]
  · intro e
    unfold sameKey at e
    simp at e
    have : keyV x = keyV y := by unfold keyV; rw [e.1.1.1.1, e.1.1.1.2, e.1.1.2, e.1.2, e.2]
    unfold klK
    rw [this]
theorem klA_eq {x y : Vp} (hx : vpShape.Wf x) (hy : vpShape.Wf y) : (klA x = klA y) ↔ sameAdr x y = true := by
  constructor
  · intro e
    have h1 := klA_of hx
    have h2 := klA_of hy
    rw [e] at h1
    have h3 := lawA.inj h1 h2
    unfold adrV at h3
    simp at h3
    unfold sameAdr
    simp [h3]
  · intro e
    unfold sameAdr at e
    simp at e
    have : adrV x = adrV y := by unfold adrV; rw [e.1.1, e.1.2, e.2]
    unfold klA
    rw [this]
theorem klK_lit {x : Vp} (hx : vpShape.Wf x) : WideAt.IsKeyLit (klK x) := (Maps.Keyed.of_law lawK).key (klK_of hx)
theorem klA_lit {x : Vp} (hx : vpShape.Wf x) : WideAt.IsKeyLit (klA x) := (Maps.Keyed.of_law lawA).key (klA_of hx)
/-- The map of keys, behind so many addresses. -/
def MapK (w : World) (b k : Nat) (vips : List Vp) : Prop :=
  ∃ D : DataW Unit, w.ownsMap Try.prog 94 (plainElem Try.prog 3) b k D ∧ Maps.IsMap D ∧ (∀ x, vpShape.Wf x → Maps.has D (klK x) = (vips.take k).any (fun y => sameKey y x)) ∧
    (∀ x i, vpShape.Wf x → i < k → sameKey (vips.getD i vp0) x = true → (∀ j, j < k → i < j → sameKey (vips.getD j vp0) x = false) → D.atKey (klK x) (.lit (.int .i64 0)) = .lit (.int .i64 (i : Int)))
/-- The map of addresses. -/
def MapA (w : World) (b k : Nat) (vips : List Vp) : Prop :=
  ∃ D : DataW Unit, w.ownsMap Try.prog 25 (plainElem Try.prog 4) b k D ∧ Maps.IsMap D ∧ (∀ x, vpShape.Wf x → D.atKey (klA x) (.lit (.bool false)) = .lit (.bool ((vips.take k).any (fun y => sameAdr y x))))
theorem mapK_start {w : World} {b : Nat} {vips : List Vp} (h : w.ownsMap (H := Unit) Try.prog 94 (plainElem Try.prog 3) b 0 (.map [])) : MapK w b 0 vips :=
  ⟨.map [], h, Maps.isMap_empty, fun x _ => by rw [Maps.has_eq]; rfl, fun x i _ h => absurd h (Nat.not_lt_zero _)⟩
theorem mapA_start {w : World} {b : Nat} {vips : List Vp} (h : w.ownsMap (H := Unit) Try.prog 25 (plainElem Try.prog 4) b 0 (.map [])) : MapA w b 0 vips :=
  ⟨.map [], h, Maps.isMap_empty, fun x _ => by unfold DataW.atKey; rfl⟩
theorem take_snocV {vips : List Vp} {k : Nat} (hk : k < vips.length) : vips.take (k + 1) = vips.take k ++ [vips.getD k vp0] := by
  rw [List.take_succ_eq_append_getElem hk, List.getD_eq_getElem?_getD, List.getElem?_eq_getElem hk]; rfl
theorem mapK_step {w' : World} {b k : Nat} {vips : List Vp} {D : DataW Unit} (hk : k < vips.length) (hwf : ∀ x ∈ vips, vpShape.Wf x) (hM : Maps.IsMap D)
    (h1 : ∀ x, vpShape.Wf x → Maps.has D (klK x) = (vips.take k).any (fun y => sameKey y x))
    (h2 : ∀ x i, vpShape.Wf x → i < k → sameKey (vips.getD i vp0) x = true → (∀ j, j < k → i < j → sameKey (vips.getD j vp0) x = false) → D.atKey (klK x) (.lit (.int .i64 0)) = .lit (.int .i64 (i : Int)))
    (h : w'.ownsMap Try.prog 94 (plainElem Try.prog 3) b (k + 1) (D.put (klK (vips.getD k vp0)) (.lit (.int .i64 (k : Int))))) : MapK w' b (k + 1) vips := by
  have hy : vpShape.Wf (vips.getD k vp0) := by
    have e : vips[k]? = some (vips.getD k vp0) := by rw [List.getD_eq_getElem?_getD, List.getElem?_eq_getElem hk]; rfl
    exact hwf _ (List.mem_of_getElem? e)
  refine ⟨_, h, hM.put _ _, fun x hx => ?_, fun x i hx hi hs hn => ?_⟩
  · rw [take_snocV hk, List.any_append, ← h1 x hx]
    by_cases e : sameKey (vips.getD k vp0) x = true
    · rw [← (klK_eq hy hx).2 e, Maps.has_put_same hM (klK_lit hy), List.any_cons, List.any_nil, Bool.or_false, e, Bool.or_true]
    · have hne : klK x ≠ klK (vips.getD k vp0) := fun h => e ((klK_eq hy hx).1 h.symm)
      rw [Bool.not_eq_true] at e
      rw [Maps.has_put_other hne, List.any_cons, List.any_nil, Bool.or_false, e, Bool.or_false]
  · by_cases hik : i = k
    · subst hik
      rw [← (klK_eq hy hx).2 hs, Maps.atKey_put_same hM (klK_lit hy)]
    · have e := hn k (by omega) (by omega)
      have hne : klK x ≠ klK (vips.getD k vp0) := fun h => by
        have := (klK_eq hy hx).1 h.symm
        rw [e] at this
        cases this
      rw [Maps.atKey_put_other hne]
      exact h2 x i hx (by omega) hs (fun j hj hij => hn j (by omega) hij)
theorem mapA_step {w' : World} {b k : Nat} {vips : List Vp} {D : DataW Unit} (hk : k < vips.length) (hwf : ∀ x ∈ vips, vpShape.Wf x) (hM : Maps.IsMap D)
    (h1 : ∀ x, vpShape.Wf x → D.atKey (klA x) (.lit (.bool false)) = .lit (.bool ((vips.take k).any (fun y => sameAdr y x))))
    (h : w'.ownsMap Try.prog 25 (plainElem Try.prog 4) b (k + 1) (D.put (klA (vips.getD k vp0)) (.lit (.bool true)))) : MapA w' b (k + 1) vips := by
  have hy : vpShape.Wf (vips.getD k vp0) := by
    have e : vips[k]? = some (vips.getD k vp0) := by rw [List.getD_eq_getElem?_getD, List.getElem?_eq_getElem hk]; rfl
    exact hwf _ (List.mem_of_getElem? e)
  refine ⟨_, h, hM.put _ _, fun x hx => ?_⟩
  rw [take_snocV hk, List.any_append]
  by_cases e : sameAdr (vips.getD k vp0) x = true
  · rw [← (klA_eq hy hx).2 e, Maps.atKey_put_same hM (klA_lit hy), List.any_cons, List.any_nil, Bool.or_false, e, Bool.or_true]
  · have hne : klA x ≠ klA (vips.getD k vp0) := fun h => e ((klA_eq hy hx).1 h.symm)
    rw [Bool.not_eq_true] at e
    rw [Maps.atKey_put_other hne, h1 x hx, List.any_cons, List.any_nil, Bool.or_false, e, Bool.or_false]
end Go.Proofs.Ytceekfbhkenniaa
end
section
/- vip.New of a configuration without views. -/
set_option linter.unusedVariables false
namespace Go.Proofs.Ytceekfbhkenniaa
open Go.RowKit
set_option maxHeartbeats 8000000
set_option maxRecDepth 100000
theorem grown_below {w w' : World} (hx : Below w.heap.size w w') : w.grownBy w' none := ⟨hx.os, hx.tape, hx.output, hx.size, fun i hi _ => hx.block i hi⟩
theorem MapK.kept {w w' : World} {b k : Nat} {vips : List Vp} {row : Option Nat} (h : MapK w b k vips) (hg : w.grownBy w' row) (hn : some b ≠ row) : MapK w' b k vips := by
  obtain ⟨D, h1, h2⟩ := h
  exact ⟨D, h1.kept hg hn, h2⟩
theorem MapA.kept {w w' : World} {b k : Nat} {vips : List Vp} {row : Option Nat} (h : MapA w b k vips) (hg : w.grownBy w' row) (hn : some b ≠ row) : MapA w' b k vips := by
  obtain ⟨D, h1, h2⟩ := h
  exact ⟨D, h1.kept hg hn, h2⟩
theorem own_ne {w : World} {base b : Nat} {e : TypeId} {s n : Nat} {v : Value} {xs : List Value} (h : w.ownsRow base e s v n xs) (hb : b < base) : v.ownBlock = none ∨ v.ownBlock ≠ some b := by
  cases hv : v.ownBlock with
  | none => exact .inl rfl
  | some g => exact .inr (fun e => by
      injection e with e
      have := own_from h g hv
      omega)
/-- A table at tb, of so many addresses. -/
structure TabV (w : World) (tb tr m1 m2 : Nat) (vips : List Vp) (A : Option Addr) (n c : Nat) : Prop where
  blk : Blk w tb 68 #[.pointer (some ⟨tr, 0, none⟩), .map (some m1), .map (some m2), .slice A n c]
  k : MapK w m1 n vips
  a : MapA w m2 n vips
  l : IsRow vpShape w A n c vips
theorem TabV.keep {w w' : World} {tb tr m1 m2 n c : Nat} {vips : List Vp} {A : Option Addr} (h : TabV w tb tr m1 m2 vips A n c) (hx : Below w.heap.size w w') : TabV w' tb tr m1 m2 vips A n c :=
  ⟨h.blk.keep hx, h.k.kept (grown_below hx) (by simp), h.a.kept (grown_below hx) (by simp), h.l.keep hx⟩
theorem vip_New0 (c : Conf) (vb b : Nat) (w : World) (hV : Blk w vb 50 (vcells c b)) (hc : IsConf w c) (hv64 : c.vn ≤ 64) (hw0 : c.wn = 0) :
    Calls Try.prog 18 #[.pointer (some ⟨vb, 0, none⟩)] w fun e w' => (∃ tb tr m1 m2 A k, e = .returned (.pointer (some ⟨tb, 0, none⟩)) ∧ TabV w' tb tr m1 m2 c.vips A c.vn k) ∧ Below w.heap.size w w' := by
  obtain ⟨iV, hiV, hzV, hzV1, hzV2⟩ := info_parts Try.infoVip
  have hmm := @run_makeMap Try.prog
  obtain ⟨na, nn, nc, va, vn, vc, wa, wn, wc, factor, domain, ⟨a6, ah, al⟩, ⟨b6, bh, bl⟩, nodes, vips, views⟩ := c
  unfold vcells at hV
  dsimp only at *
  obtain ⟨hcN, hcV, hcW, _, _, _, _⟩ := hc
  dsimp only at *
  subst hw0
  have v1 := hV.cell 1
  have v2 := hV.cell 2
  have hvl := hV.lt
  have hlen := Lib.hid hcV.len
  have hcap := hcV.cap
  have hsm := hcV.small
  have hs1 : (w.alloc (.cells #[.pointer none, .pointer none, .int .i64 0, .bool false, .pointer none, .pointer none, .int .i64 0, .bool false, .int .i64 0] 92)).heap.size = w.heap.size + 1 := by simp
  have hs2 : ((w.alloc (.cells #[.pointer none, .pointer none, .int .i64 0, .bool false, .pointer none, .pointer none, .int .i64 0, .bool false, .int .i64 0] 92)).alloc (.map #[] 0)).heap.size = w.heap.size + 2 := by simp
  have hs3 : (((w.alloc (.cells #[.pointer none, .pointer none, .int .i64 0, .bool false, .pointer none, .pointer none, .int .i64 0, .bool false, .int .i64 0] 92)).alloc (.map #[] 0)).alloc (.map #[] 0)).heap.size = w.heap.size + 3 := by simp
  have M1 := World.ownsMap_made (H := Unit) (w.alloc (.cells #[.pointer none, .pointer none, .int .i64 0, .bool false, .pointer none, .pointer none, .int .i64 0, .bool false, .int .i64 0] 92)) Try.prog 94 (plainElem Try.prog 3)
  have M2 := World.ownsMap_made (H := Unit) ((w.alloc (.cells #[.pointer none, .pointer none, .int .i64 0, .bool false, .pointer none, .pointer none, .int .i64 0, .bool false, .int .i64 0] 92)).alloc (.map #[] 0)) Try.prog 25 (plainElem Try.prog 4)
  rw [hs1] at M1
  rw [hs2] at M2
  have hx0 : Below w.heap.size w (((w.alloc (.cells #[.pointer none, .pointer none, .int .i64 0, .bool false, .pointer none, .pointer none, .int .i64 0, .bool false, .int .i64 0] 92)).alloc (.map #[] 0)).alloc (.map #[] 0)) := ((((Below.refl _ _).alloc (Nat.le_refl _) _).alloc (by simp) _).alloc (by simp; omega) _)
  have c1 := cell_keep v1 hx0
  have c2 := cell_keep v2 hx0
  have RV := (hcV.keep hx0).reads
  have hz3 : w.heap.size + 3 ≤ (((w.alloc (.cells #[.pointer none, .pointer none, .int .i64 0, .bool false, .pointer none, .pointer none, .int .i64 0, .bool false, .int .i64 0] 92)).alloc (.map #[] 0)).alloc (.map #[] 0)).heap.size := by rw [hs3]; exact Nat.le_refl _
  go_enter Try.func18, Try.ntmps18
  go_upto_region 4 with (at_builtin; go_loud (refine wpList_append_any _ rfl _ (.tmp 18) _ rfl (w.heap.size + 3) 35 iV _ 7 56 Try.underlying29 hiV hzV hzV1 hzV2 rfl (by decide) (.slice none 0 0) 0 [] rfl (World.ownsRow_nil _ _ _ _) _ va vn vc (vpShape.flat vips) rfl RV (flatC_one vpShape vips) (by simp only [maxLen]; omega) (by omega) hz3 ?_; intro v6 w6 hown6 hg6 hat6; simp only [Nat.zero_add, List.nil_append] at hown6; obtain ⟨B1, m1, rfl⟩ := own_slice hown6))
  have K0 := mapK_start (vips := vips) (M1.alloc (.map #[] 0) |>.kept hg6 (by simp [Value.ownBlock]))
  have A0 := mapA_start (vips := vips) (M2.kept hg6 (by simp [Value.ownBlock]))
  have hWx := push_below hx0 hg6 (fun g h => by simp [Value.ownBlock] at h)
  have hz6 : w.heap.size + 3 ≤ w6.heap.size := Nat.le_trans hz3 hg6.size
  have hA6 : Below w6.heap.size w6 (w6.alloc (.cells #[.pointer (some ⟨w.heap.size, 0, none⟩), .map (some (w.heap.size + 1)), .map (some (w.heap.size + 2)), .slice B1 vn m1] 68)) := (Below.refl _ _).alloc (Nat.le_refl _) _
  have T0 := Blk.new w6 68 #[.pointer (some ⟨w.heap.size, 0, none⟩), .map (some (w.heap.size + 1)), .map (some (w.heap.size + 2)), .slice B1 vn m1]
  have K1 := K0.kept (grown_below hA6) (by simp)
  have A1 := A0.kept (grown_below hA6) (by simp)
  have R1 := hown6.alloc (.cells #[.pointer (some ⟨w.heap.size, 0, none⟩), .map (some (w.heap.size + 1)), .map (some (w.heap.size + 2)), .slice B1 vn m1] 68)
  have hW1 := below_step hWx hA6
  clear M1 M2 hx0 c1 c2 RV hz3 hs1 hs2 hs3 hown6 hg6 hat6 K0 A0 hWx hA6
  obtain ⟨tb, htb⟩ : ∃ tb, tb = w6.heap.size := ⟨_, rfl⟩
  generalize w6.alloc (.cells #[.pointer (some ⟨w.heap.size, 0, none⟩), .map (some (w.heap.size + 1)), .map (some (w.heap.size + 2)), .slice B1 vn m1] 68) = u at *
  rw [← htb] at T0 hz6 ⊢
  clear htb
  have v2w := v2
  have v1 := cell_keep v1 hW1
  have v2 := cell_keep v2 hW1
  go_wp2_with fail
  go_loopg [4, 5, 28] vn (fun gk s4 s5 s28 wr => ∃ k : Nat, k ≤ vn ∧ gk = vn - k ∧ s28 = .int .i64 k ∧ MapK wr (w.heap.size + 1) k vips ∧ MapA wr (w.heap.size + 2) k vips ∧ Blk wr tb 68 #[.pointer (some ⟨w.heap.size, 0, none⟩), .map (some (w.heap.size + 1)), .map (some (w.heap.size + 2)), .slice B1 vn m1] ∧ wr.ownsRow (w.heap.size + 3) 35 7 (.slice B1 vn m1) vn (vpShape.flat vips) ∧ Below w.heap.size w wr)
  case atStart => exact ⟨0, Nat.zero_le _, rfl, rfl, K1, A1, T0, R1, hW1⟩
  case round =>
    clear K1 A1 T0 R1 hW1 v1 v2
    obtain ⟨k, hk, rfl, rfl, K2, A2, T2, R2, hW2⟩ := hrel
    have hlt2 := T2.lt
    by_cases hkn : k < vn
    · have hki : (k : Int) < (vn : Int) := by omega
      have hkl : k < vips.length := by rw [hlen.out]; exact hkn
      obtain ⟨ad, rfl, hbk, hat⟩ := (hcV.keep hW2).vpat_ hkn
      obtain ⟨c0, c1, c2, c3, c4, c5, c6⟩ := hat
      have hwy := hcV.wfd k
      have hvp : vpShape.z = vp0 := rfl
      rw [hvp] at c0 c1 c2 c3 c4 c5 c6 hwy
      clear hvp
      have HKS := Lib.hid (fun (w' : World) (D : DataW Unit) h1 h2 h3 h4 => mapK_step (w' := w') (b := w.heap.size + 1) (k := k) (vips := vips) (D := D) hkl hcV.wf h1 h2 h3 h4)
      have HAS := Lib.hid (fun (w' : World) (D : DataW Unit) h1 h2 h3 => mapA_step (w' := w') (b := w.heap.size + 2) (k := k) (vips := vips) (D := D) hkl hcV.wf h1 h2 h3)
      have hkk := klK_of hwy
      have hka := klA_of hwy
      have hkw : (Lit.int .i64 (k : Int)).wf = true := i64_wf ⟨by omega, by omega⟩
      generalize vips.getD k vp0 = y at *
      generalize klK y = lk at *
      generalize klA y = la at *
      obtain ⟨x6, xh, xl, xp, xo, xc, xn⟩ := y
      unfold keyV at hkk
      unfold adrV at hka
      dsimp only at *
      go_upto_region 7 with (fail)
      have hA3 : Below wr.heap.size wr (wr.alloc (.cells #[.bool x6, .int .u64 xh, .int .u64 xl, .int .i64 xp, .int .i64 xo, .int .i64 xc, .bool xn] 35)) := (Below.refl _ _).alloc (Nat.le_refl _) _
      have Q3 := Blk.new wr 35 #[.bool x6, .int .u64 xh, .int .u64 xl, .int .i64 xp, .int .i64 xo, .int .i64 xc, .bool xn]
      have K3 := K2.kept (grown_below hA3) (by simp)
      have A3 := A2.kept (grown_below hA3) (by simp)
      have T3 := T2.keep hA3
      have R3 := own_keep R2 hA3
      have hW3 := below_step hW2 hA3
      have hzr := hW2.size
      clear K2 A2 T2 R2 hA3 c0 c1 c2 c3 c4 c5 c6
      generalize wr.alloc (.cells #[.bool x6, .int .u64 xh, .int .u64 xl, .int .i64 xp, .int .i64 xo, .int .i64 xc, .bool xn] 35) = u3 at *
      obtain ⟨t0, t1, t2, t3, _⟩ := T3.cells4
      obtain ⟨c0, c1, c2, c3, c4, c5, c6, _⟩ := Q3.cells7
      have U0 := cell_under c0
      have U1 := cell_under c1
      have U2 := cell_under c2
      have U3 := cell_under c3
      have U4 := cell_under c4
      have U5 := cell_under t1
      clear t0 t1 t2 t3 c0 c1 c2 c3 c4 c5 c6
      refine wp_region_under_tail 12 (by kernel_rfl) (by kernel_rfl) ?_
      simp only [List.take_succ_cons, List.take_zero, List.drop_succ_cons, List.drop_zero]
      repeat (go_big_quiet_step ((fail)))
      refine wpQuiet_nil ?_
      intro wu hw'
      obtain ⟨pq, hw''⟩ := hw'
      have hU := below_eq hw''
      clear hw'' pq
      have Q4 := Q3.keep hU
      have K4 := K3.kept (grown_below hU) (by simp)
      have A4 := A3.kept (grown_below hU) (by simp)
      have T4 := T3.keep hU
      have R4 := own_keep R3 hU
      have hW4 := below_step hW3 hU
      clear Q3 K3 A3 T3 R3 hU U0 U1 U2 U3 U4 U5 hW3
      obtain ⟨D, hD, hI1, hI2, hI3⟩ := K4
      go_upto_region 8 with (at_mapUpdate; go_loud (refine wpList_mapUpdate_own _ rfl _ _ _ 65 rfl 94 3 (Maps.Keyed.of_law lawK) Try.underlying65 _ (w.heap.size + 1) k D rfl hD (by simp only [maxLen]; omega) _ _ lk rfl rfl hkk _ [] (plainElem_int Try.underlying3 hkw) ?_; intro w5 hD5 hg5))
      (try simp only [Act.put])
      have K5 := HKS.out w5 D hI1 hI2 hI3 hD5
      have A5 := A4.kept hg5 (by simp)
      have T5 := T4.grown hg5 (fun e => by injection e with e; omega)
      have Q5 := Q4.grown hg5 (fun e => by injection e with e; omega)
      have R5 := R4.kept hg5 (own_ne R4 (by omega))
      have hW5 := push_below hW4 hg5 (fun g e => by injection e with e; omega)
      clear hD hI1 hI2 hI3 hD5 hg5 A4 T4 Q4 R4 hW4 hkk HKS
      obtain ⟨t0, t1, t2, t3, _⟩ := T5.cells4
      obtain ⟨c0, c1, c2, c3, c4, c5, c6, _⟩ := Q5.cells7
      have U0 := cell_under c0
      have U1 := cell_under c1
      have U2 := cell_under c2
      have U5 := cell_under t2
      clear t0 t1 t2 t3 c0 c1 c2 c3 c4 c5 c6 Q5
      refine wp_region_under_tail 6 (by kernel_rfl) (by kernel_rfl) ?_
      simp only [List.take_succ_cons, List.take_zero, List.drop_succ_cons, List.drop_zero]
      repeat (go_big_quiet_step ((fail)))
      refine wpQuiet_nil ?_
      intro wv hw'
      obtain ⟨pq, hw''⟩ := hw'
      have hU := below_eq hw''
      clear hw'' pq
      have K6 := K5.kept (grown_below hU) (by simp)
      have A6 := A5.kept (grown_below hU) (by simp)
      have T6 := T5.keep hU
      have R6 := own_keep R5 hU
      have hW6 := below_step hW5 hU
      clear K5 A5 T5 R5 hU U0 U1 U2 U5 hW5
      obtain ⟨D2, hD2, hI1, hI2⟩ := A6
      go_upto_region 9 with (at_mapUpdate; go_loud (refine wpList_mapUpdate_own _ rfl _ _ _ 66 rfl 25 4 (Maps.Keyed.of_law lawA) Try.underlying66 _ (w.heap.size + 2) k D2 rfl hD2 (by simp only [maxLen]; omega) _ _ la rfl rfl hka _ [] (plainElem_bool Try.underlying4 true) ?_; intro w7 hD7 hg7))
      (try simp only [Act.put])
      have A7 := HAS.out w7 D2 hI1 hI2 hD7
      have K7 := K6.kept hg7 (by simp)
      have T7 := T6.grown hg7 (fun e => by injection e with e; omega)
      have R7 := R6.kept hg7 (own_ne R6 (by omega))
      have hW7 := push_below hW6 hg7 (fun g e => by injection e with e; omega)
      clear hD2 hI1 hI2 hD7 hg7 K6 T6 R6 hW6 hka HAS
      go_wp2
      go_roundg (vn - (k + 1))
      case measure => omega
      case rel => exact ⟨k + 1, by omega, rfl, by go_num, K7, A7, T7, R7, hW7⟩
    · have hke : vn = k := by omega
      have v2' := cell_keep v2w hW2
      subst hke
      obtain ⟨B2, m2, e2, I2, _⟩ := own_rowC (C := vpShape) R2 hcV.wf (by omega)
      injection e2 with e2 _ e3
      subst e2 e3
      clear R2
      go_wp2_with fail
      obtain ⟨wo, rfl⟩ : ∃ wo, wo = wr := ⟨_, rfl⟩
      go_loopg [7, 58] 0 (fun gk s7 s58 wr => s58 = .int .i64 0 ∧ wo = wr)
      case atStart => exact ⟨rfl, rfl⟩
      case round =>
        obtain ⟨rfl, rfl⟩ := hrel
        go_wp2
        go_ret
        exact ⟨⟨tb, w.heap.size, w.heap.size + 1, w.heap.size + 2, B1, m1, rfl, ⟨T2, K2, A2, I2⟩⟩, hW2⟩
end Go.Proofs.Ytceekfbhkenniaa
end
section
/- Look-ups in a table's maps; Table.Match. -/
set_option linter.unusedVariables false
namespace Go.Proofs.Ytceekfbhkenniaa
open Go.RowKit
set_option maxHeartbeats 8000000
set_option maxRecDepth 100000
theorem zeroInt (w : World) : (zeroValue 3).run Try.prog w = .ok (.int .i64 0) w := by kernel_rfl
theorem zeroBool (w : World) : (zeroValue 4).run Try.prog w = .ok (.bool false) w := by kernel_rfl
theorem last_match (p : Nat → Bool) : ∀ k, (∃ i, i < k ∧ p i = true) → ∃ i, i < k ∧ p i = true ∧ ∀ j, j < k → i < j → p j = false
  | 0, ⟨i, h, _⟩ => absurd h (Nat.not_lt_zero _)
  | k + 1, ⟨i, h, hp⟩ => by
    cases hk : p k with
    | true => exact ⟨k, Nat.lt_succ_self _, hk, fun j h1 h2 => by omega⟩
    | false =>
      have hik : i ≠ k := fun e => by rw [e, hk] at hp; cases hp
      obtain ⟨i', h1, h2, h3⟩ := last_match p k ⟨i, by omega, hp⟩
      exact ⟨i', by omega, h2, fun j hj hij => by
        by_cases e : j = k
        · rw [e]; exact hk
        · exact h3 j (by omega) hij⟩
theorem any_at_take {p : Vp → Bool} {l : List Vp} {k : Nat} (hk : k ≤ l.length) : (l.take k).any p = true ↔ ∃ i, i < k ∧ p (l.getD i vp0) = true := by
  rw [List.any_eq_true]
  constructor
  · rintro ⟨x, hx, hp⟩
    obtain ⟨i, hi, rfl⟩ := List.getElem_of_mem hx
    rw [List.length_take] at hi
    refine ⟨i, by omega, ?_⟩
    rw [List.getD_eq_getElem?_getD, List.getElem?_eq_getElem (by omega)]
    simpa using hp
  · rintro ⟨i, hi, hp⟩
    refine ⟨l.getD i vp0, ?_, hp⟩
    rw [List.getD_eq_getElem?_getD, List.getElem?_eq_getElem (by omega), List.mem_take_iff_getElem]
    exact ⟨i, by omega, rfl⟩
/-- What a look-up of a key tells. -/
theorem mapK_look {w : World} {b k : Nat} {vips : List Vp} (h : MapK w b k vips) (hk : k ≤ vips.length) (x : Vp) (hx : vpShape.Wf x) :
    ∃ cv : Int, ((vips.take k).any (fun y => sameKey y x) = true → ∃ i : Nat, cv = i ∧ i < k ∧ sameKey (vips.getD i vp0) x = true) ∧
      ∀ w', w.grownBy w' none → (Instr.lookup 65 (.map (some b)) (keyV x) true).run Try.prog w' = .ok (.tuple #[.int .i64 cv, .bool ((vips.take k).any (fun y => sameKey y x))]) w' := by
  obtain ⟨D, hD, hI, h1, h2⟩ := h
  have hz : (Lit.int .i64 0).wf = true := by decide
  obtain ⟨v, ps, _, hv⟩ := hD.look_ok (Maps.Keyed.of_law lawK) Try.underlying65 (zeroInt w) (plainElem_int Try.underlying3 hz) (klK_of hx)
  obtain ⟨cv, rfl, hc, _⟩ := plainElem_int_inv Try.underlying3 hv
  have hat := congrArg Prod.fst hc
  dsimp only at hat
  refine ⟨cv, fun ha => ?_, fun w' hg => ?_⟩
  · obtain ⟨i, hi, hs, hn⟩ := last_match (fun i => sameKey (vips.getD i vp0) x) k ((any_at_take hk).1 ha)
    have h3 := h2 x i hx hi hs hn
    rw [h3] at hat
    injection hat with hat
    injection hat with _ hat
    exact ⟨i, hat.symm, hi, hs⟩
  · obtain ⟨v', ps', hr, hv'⟩ := (hD.kept hg (by simp)).look_ok (Maps.Keyed.of_law lawK) Try.underlying65 (zeroInt w') (plainElem_int Try.underlying3 hz) (klK_of hx)
    obtain ⟨cv', rfl, hc', _⟩ := plainElem_int_inv Try.underlying3 hv'
    have hat' := congrArg Prod.fst hc'
    dsimp only at hat'
    rw [hat] at hat'
    injection hat' with hat'
    injection hat' with _ hat'
    rw [hr, h1 x hx, hat']
theorem run_eql_map {p : Option Nat} (w : World) : (binOp .eql 65 (.map p) (.map none)).run Try.prog w = .ok (.bool p.isNone) w := by
  have h := run_equal_map_nil (P := Try.prog) w 65 94 3 p Try.underlying65
  simp [binOp, h, Result.andThen]
theorem tab_noneNil (w : World) : Calls Try.prog 38 #[.pointer none] w fun e w' => e = .returned (.bool true) ∧ w = w' := by
  have hq1 := fun w => run_eql_map (p := some 0) w
  have hq0 := fun w => run_eql_map (p := none) w
  go_enter Try.func38, Try.ntmps38
  go_wp2
  go_ret
  exact ⟨rfl, rfl⟩
theorem tab_noneYes {w : World} {tb tr m1 m2 n c : Nat} {vips : List Vp} {A : Option Addr} (h : TabV w tb tr m1 m2 vips A n c) : Calls Try.prog 38 #[.pointer (some ⟨tb, 0, none⟩)] w fun e w' => e = .returned (.bool false) ∧ w = w' := by
  obtain ⟨t0, t1, t2, t3, _⟩ := h.blk.cells4
  have hq1 := fun w => run_eql_map (p := some m1) w
  have hq0 := fun w => run_eql_map (p := none) w
  go_enter Try.func38, Try.ntmps38
  go_wp2
  go_ret
  exact ⟨rfl, rfl⟩
theorem tab_noneZero {w : World} {tb : Nat} (h : Blk w tb 68 #[.pointer none, .map none, .map none, .slice none 0 0]) : Calls Try.prog 38 #[.pointer (some ⟨tb, 0, none⟩)] w fun e w' => e = .returned (.bool true) ∧ w = w' := by
  obtain ⟨t0, t1, t2, t3, _⟩ := h.cells4
  have hq1 := fun w => run_eql_map (p := some 0) w
  have hq0 := fun w => run_eql_map (p := none) w
  go_enter Try.func38, Try.ntmps38
  go_wp2
  go_ret
  exact ⟨rfl, rfl⟩
end Go.Proofs.Ytceekfbhkenniaa
end
