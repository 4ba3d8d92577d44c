/- Lemmas for the claim's proof: ValidG0 ValidG TreeI TreeL TreePlain2 TreeM. -/
import Derived.Test.YtceekfbhkenniaaQ07
import Derived.Test.YtceekfbhkenniaaQ09
section
/- Blocks of eleven cells written anew; rows of any shape. -/
set_option linter.unusedVariables false
namespace Go.Proofs.Ytceekfbhkenniaa
open Go.RowKit
set_option maxHeartbeats 4000000
set_option maxRecDepth 100000
theorem own_rowC {α : Type} {C : Shape α} {e : TypeId} {w : World} {base : Nat} {v : Value} {n : Nat} {l : List α} (h : w.ownsRow base e C.size v n (C.flat l)) (hwf : ∀ x ∈ l, C.Wf x) (hr : n ≤ 8796093021952) :
    ∃ A c, v = .slice A n c ∧ IsRow C w A n c l ∧ (∀ ad, A = some ad → base ≤ ad.block) := by
  have hp := C.pos
  have hlen : l.length = n := by
    have := h.1
    rw [C.flat_len] at this
    exact Nat.eq_of_mul_eq_mul_right hp this
  rcases h.2 with ⟨rfl, rfl⟩ | ⟨g, cap, cur, rfl, hb, hh, hnc, hcm, hsz, htk⟩
  · have : l = [] := List.eq_nil_of_length_eq_zero hlen
    subst this
    exact ⟨none, 0, rfl, isRow_nil C w, fun ad h => (by cases h)⟩
  · refine ⟨some ⟨g, 0, none⟩, cap, rfl, ⟨⟨by rw [C.flat_len, hlen], fun hn => ⟨_, rfl, (Array.getElem?_eq_some_iff.1 hh).1, h.cells (g := g) rfl⟩⟩, hlen, hnc, by unfold maxLen at hcm; omega, hr, hwf⟩, fun ad h => by cases h; exact hb⟩
theorem flatC_one {α : Type} (C : Shape α) (l : List α) : ∀ u ∈ C.flat l, u.oneCell' = true := fun u hu => by
  unfold Shape.flat at hu
  obtain ⟨x, _, hx⟩ := List.mem_flatMap.1 hu
  exact C.one x u hx
theorem flatN_one (l : List Nd) : ∀ u ∈ Go.Proofs.Ytceekfbhkenniaa.flat l, u.oneCell' = true := fun u hu => by
  unfold Go.Proofs.Ytceekfbhkenniaa.flat at hu
  obtain ⟨x, _, hx⟩ := List.mem_flatMap.1 hu
  exact cells_one x u hx
theorem Try.infoVip : (Try.prog.info? 35).map (fun i => (i.zero, i.size, i.bytes)) = some (some (.agg #[.bool false, .int .u64 0, .int .u64 0, .int .i64 0, .int .i64 0, .int .i64 0, .bool false]), 7, 56) := by kernel_rfl
theorem Try.infoView : (Try.prog.info? 39).map (fun i => (i.zero, i.size, i.bytes)) = some (some (.agg #[.bool false, .int .u64 0, .int .u64 0, .int .i64 0, .int .i64 0]), 5, 40) := by kernel_rfl
theorem sizeConf : (Try.prog.info? 33).map (·.size) = some 11 := by kernel_rfl
theorem Blk.turn11 {u : World} {g : Nat} {T : TypeId} {a0 a1 a2 a3 a4 a5 a6 a7 a8 a9 a10 : Value} (h : Blk u g T #[a0, a1, a2, a3, a4, a5, a6, a7, a8, a9, a10]) (v0 v1 v2 v3 v4 v5 v6 v7 v8 v9 v10 : Value) :
    Blk (((((((((((u.setCell ⟨g, 0, none⟩ v0).setCell ⟨g, 1, none⟩ v1).setCell ⟨g, 2, none⟩ v2).setCell ⟨g, 3, none⟩ v3).setCell ⟨g, 4, none⟩ v4).setCell ⟨g, 5, none⟩ v5).setCell ⟨g, 6, none⟩ v6).setCell ⟨g, 7, none⟩ v7).setCell ⟨g, 8, none⟩ v8).setCell ⟨g, 9, none⟩ v9).setCell ⟨g, 10, none⟩ v10) g T #[v0, v1, v2, v3, v4, v5, v6, v7, v8, v9, v10] := by
  have h := Blk.setTo h 0 v0 (ds := #[v0, a1, a2, a3, a4, a5, a6, a7, a8, a9, a10]) rfl
  have h := Blk.setTo h 1 v1 (ds := #[v0, v1, a2, a3, a4, a5, a6, a7, a8, a9, a10]) rfl
  have h := Blk.setTo h 2 v2 (ds := #[v0, v1, v2, a3, a4, a5, a6, a7, a8, a9, a10]) rfl
  have h := Blk.setTo h 3 v3 (ds := #[v0, v1, v2, v3, a4, a5, a6, a7, a8, a9, a10]) rfl
  have h := Blk.setTo h 4 v4 (ds := #[v0, v1, v2, v3, v4, a5, a6, a7, a8, a9, a10]) rfl
  have h := Blk.setTo h 5 v5 (ds := #[v0, v1, v2, v3, v4, v5, a6, a7, a8, a9, a10]) rfl
  have h := Blk.setTo h 6 v6 (ds := #[v0, v1, v2, v3, v4, v5, v6, a7, a8, a9, a10]) rfl
  have h := Blk.setTo h 7 v7 (ds := #[v0, v1, v2, v3, v4, v5, v6, v7, a8, a9, a10]) rfl
  have h := Blk.setTo h 8 v8 (ds := #[v0, v1, v2, v3, v4, v5, v6, v7, v8, a9, a10]) rfl
  have h := Blk.setTo h 9 v9 (ds := #[v0, v1, v2, v3, v4, v5, v6, v7, v8, v9, a10]) rfl
  have h := Blk.setTo h 10 v10 (ds := #[v0, v1, v2, v3, v4, v5, v6, v7, v8, v9, v10]) rfl
  exact h
theorem below_turn11 {w u : World} {g B : Nat} (h : Below B w u) (hg : B ≤ g) (v0 v1 v2 v3 v4 v5 v6 v7 v8 v9 v10 : Value) : Below B w (((((((((((u.setCell ⟨g, 0, none⟩ v0).setCell ⟨g, 1, none⟩ v1).setCell ⟨g, 2, none⟩ v2).setCell ⟨g, 3, none⟩ v3).setCell ⟨g, 4, none⟩ v4).setCell ⟨g, 5, none⟩ v5).setCell ⟨g, 6, none⟩ v6).setCell ⟨g, 7, none⟩ v7).setCell ⟨g, 8, none⟩ v8).setCell ⟨g, 9, none⟩ v9).setCell ⟨g, 10, none⟩ v10) := by
  have h := below_own h hg 0 v0
  have h := below_own h hg 1 v1
  have h := below_own h hg 2 v2
  have h := below_own h hg 3 v3
  have h := below_own h hg 4 v4
  have h := below_own h hg 5 v5
  have h := below_own h hg 6 v6
  have h := below_own h hg 7 v7
  have h := below_own h hg 8 v8
  have h := below_own h hg 9 v9
  have h := below_own h hg 10 v10
  exact h
theorem row_turn11 {u : World} {g base : Nat} {e : TypeId} {s n : Nat} {v : Value} {xs : List Value} (h : u.ownsRow base e s v n xs) (hg : g < base) (v0 v1 v2 v3 v4 v5 v6 v7 v8 v9 v10 : Value) : (((((((((((u.setCell ⟨g, 0, none⟩ v0).setCell ⟨g, 1, none⟩ v1).setCell ⟨g, 2, none⟩ v2).setCell ⟨g, 3, none⟩ v3).setCell ⟨g, 4, none⟩ v4).setCell ⟨g, 5, none⟩ v5).setCell ⟨g, 6, none⟩ v6).setCell ⟨g, 7, none⟩ v7).setCell ⟨g, 8, none⟩ v8).setCell ⟨g, 9, none⟩ v9).setCell ⟨g, 10, none⟩ v10).ownsRow base e s v n xs := by
  have h := ownsRow_setCell_below h (a := ⟨g, 0, none⟩) hg v0
  have h := ownsRow_setCell_below h (a := ⟨g, 1, none⟩) hg v1
  have h := ownsRow_setCell_below h (a := ⟨g, 2, none⟩) hg v2
  have h := ownsRow_setCell_below h (a := ⟨g, 3, none⟩) hg v3
  have h := ownsRow_setCell_below h (a := ⟨g, 4, none⟩) hg v4
  have h := ownsRow_setCell_below h (a := ⟨g, 5, none⟩) hg v5
  have h := ownsRow_setCell_below h (a := ⟨g, 6, none⟩) hg v6
  have h := ownsRow_setCell_below h (a := ⟨g, 7, none⟩) hg v7
  have h := ownsRow_setCell_below h (a := ⟨g, 8, none⟩) hg v8
  have h := ownsRow_setCell_below h (a := ⟨g, 9, none⟩) hg v9
  have h := ownsRow_setCell_below h (a := ⟨g, 10, none⟩) hg v10
  exact h
theorem or_none (v : Value) : v.ownBlock = none ∨ v.ownBlock ≠ none := by
  cases v.ownBlock with
  | none => exact .inl rfl
  | some g => exact .inr (by simp)
end Go.Proofs.Ytceekfbhkenniaa
end
section
/- valid.copyOf. -/
set_option linter.unusedVariables false
namespace Go.Proofs.Ytceekfbhkenniaa
open Go.RowKit
set_option maxHeartbeats 4000000
set_option maxRecDepth 100000
/-- A configuration with rows of its own. -/
def Conf.with (c : Conf) (A1 : Option Addr) (k1 : Nat) (A2 : Option Addr) (k2 : Nat) (A3 : Option Addr) (k3 : Nat) : Conf := ⟨A1, c.nn, k1, A2, c.vn, k2, A3, c.wn, k3, c.factor, c.domain, c.s4, c.s6, c.nodes, c.vips, c.views⟩
theorem valid_copyOf (c : Conf) (w : World) (hc : IsConf w c) (hn : c.nn ≤ 1024) (hv : c.vn ≤ 64) (hw : c.wn ≤ 64) :
    Calls Try.prog 33 #[.agg c.cells] w fun e w' => (∃ A1 k1 A2 k2 A3 k3, e = .returned (.agg (c.with A1 k1 A2 k2 A3 k3).cells) ∧ IsConf w' (c.with A1 k1 A2 k2 A3 k3)) ∧ Below w.heap.size w w' := by
  obtain ⟨iN, hiN, hzN, hzN1, hzN2⟩ := info_parts Try.infoNode
  obtain ⟨iV, hiV, hzV, hzV1, hzV2⟩ := info_parts Try.infoVip
  obtain ⟨iW, hiW, hzW, hzW1, hzW2⟩ := info_parts Try.infoView
  obtain ⟨na, nn, nc, va, vn, vc, wa, wn, wc, factor, domain, ⟨a6, ah, al⟩, ⟨b6, bh, bl⟩, nodes, vips, views⟩ := c
  unfold Conf.with Conf.cells
  dsimp only at *
  obtain ⟨hcN, hcV, hcW, hcf, hcd, hc4, hc6⟩ := hc
  dsimp only at *
  have P := (Blk.new w 33 #[.slice na nn nc, .slice va vn vc, .slice wa wn wc, .int .i64 factor, .int .i64 domain, .bool a6, .int .u64 ah, .int .u64 al, .bool b6, .int .u64 bh, .int .u64 bl]).alloc (.cells #[.slice none 0 0, .slice none 0 0, .slice none 0 0, .int .i64 0, .int .i64 0, .bool false, .int .u64 0, .int .u64 0, .bool false, .int .u64 0, .int .u64 0] 33)
  have Q := Blk.new (w.alloc (.cells #[.slice na nn nc, .slice va vn vc, .slice wa wn wc, .int .i64 factor, .int .i64 domain, .bool a6, .int .u64 ah, .int .u64 al, .bool b6, .int .u64 bh, .int .u64 bl] 33)) 33 #[.slice none 0 0, .slice none 0 0, .slice none 0 0, .int .i64 0, .int .i64 0, .bool false, .int .u64 0, .int .u64 0, .bool false, .int .u64 0, .int .u64 0]
  have hsz : (w.alloc (.cells #[.slice na nn nc, .slice va vn vc, .slice wa wn wc, .int .i64 factor, .int .i64 domain, .bool a6, .int .u64 ah, .int .u64 al, .bool b6, .int .u64 bh, .int .u64 bl] 33)).heap.size = w.heap.size + 1 := by simp
  rw [hsz] at Q
  have hsz2 : ((w.alloc (.cells #[.slice na nn nc, .slice va vn vc, .slice wa wn wc, .int .i64 factor, .int .i64 domain, .bool a6, .int .u64 ah, .int .u64 al, .bool b6, .int .u64 bh, .int .u64 bl] 33)).alloc (.cells #[.slice none 0 0, .slice none 0 0, .slice none 0 0, .int .i64 0, .int .i64 0, .bool false, .int .u64 0, .int .u64 0, .bool false, .int .u64 0, .int .u64 0] 33)).heap.size = w.heap.size + 2 := by simp
  have hW : Below w.heap.size w ((w.alloc (.cells #[.slice na nn nc, .slice va vn vc, .slice wa wn wc, .int .i64 factor, .int .i64 domain, .bool a6, .int .u64 ah, .int .u64 al, .bool b6, .int .u64 bh, .int .u64 bl] 33)).alloc (.cells #[.slice none 0 0, .slice none 0 0, .slice none 0 0, .int .i64 0, .int .i64 0, .bool false, .int .u64 0, .int .u64 0, .bool false, .int .u64 0, .int .u64 0] 33)) := ((Below.refl _ _).alloc (Nat.le_refl _) _).alloc (by simp) _
  go_enter Try.func33, Try.ntmps33
  go_upto_region 1 with (fail)
  generalize ((w.alloc (.cells #[.slice na nn nc, .slice va vn vc, .slice wa wn wc, .int .i64 factor, .int .i64 domain, .bool a6, .int .u64 ah, .int .u64 al, .bool b6, .int .u64 bh, .int .u64 bl] 33)).alloc (.cells #[.slice none 0 0, .slice none 0 0, .slice none 0 0, .int .i64 0, .int .i64 0, .bool false, .int .u64 0, .int .u64 0, .bool false, .int .u64 0, .int .u64 0] 33)) = u at *
  clear hsz
  obtain ⟨p0, p1, p2, p3, p4, p5, p6, p7, p8, p9, p10, _⟩ := P.cells11
  have RN := (hcN.keep hW).reads
  go_upto_region 2 with (at_builtin; go_loud (refine wpList_append_any _ rfl _ (.tmp 4) _ rfl (w.heap.size + 2) 27 iN _ 7 64 Try.underlying28 hiN hzN hzN1 hzN2 rfl (by decide) (.slice none 0 0) 0 [] rfl (World.ownsRow_nil _ _ _ _) _ na nn nc (Go.Proofs.Ytceekfbhkenniaa.flat nodes) rfl RN (flatN_one nodes) (by simp only [maxLen]; omega) (by omega) (by omega) ?_; intro v1 w1 hown1 hg1 hat1; simp only [Nat.zero_add, List.nil_append] at hown1; obtain ⟨A1, k1, rfl⟩ := own_slice hown1; have P1a := P.grown hg1 (by simp [Value.ownBlock]); obtain ⟨x0, x1, x2, _⟩ := P1a.cells11; obtain ⟨y0, y1, y2, _⟩ := P1a.free11))
  have P1 := P1a.setTo 0 (.slice A1 nn k1) (ds := #[.slice A1 nn k1, .slice va vn vc, .slice wa wn wc, .int .i64 factor, .int .i64 domain, .bool a6, .int .u64 ah, .int .u64 al, .bool b6, .int .u64 bh, .int .u64 bl]) rfl
  have Q1 := (Q.grown hg1 (by simp [Value.ownBlock])).far (p := ⟨w.heap.size, 0, none⟩) (by simp) (.slice A1 nn k1)
  have r1_1 := ownsRow_setCell_below hown1 (a := ⟨w.heap.size, 0, none⟩) (by show w.heap.size < _; omega) (.slice A1 nn k1)
  have hW1 := below_own (push_below hW hg1 (fun g h => by simp [Value.ownBlock] at h)) (Nat.le_refl _) 0 (.slice A1 nn k1)
  have hz1 : w.heap.size + 2 ≤ (w1.setCell ⟨w.heap.size, 0, none⟩ (.slice A1 nn k1)).heap.size := by have := hg1.size; simp only [World.size_setCell]; omega
  generalize w1.setCell ⟨w.heap.size, 0, none⟩ (.slice A1 nn k1) = u1 at *
  clear P Q hW hown1 hg1 hat1 P1a RN p0 p1 p2 p3 p4 p5 p6 p7 p8 p9 p10 x0 x1 x2 y0 y1 y2 
  obtain ⟨p0, p1, p2, p3, p4, p5, p6, p7, p8, p9, p10, _⟩ := P1.cells11
  have RV := (hcV.keep hW1).reads
  go_upto_region 3 with (at_builtin; go_loud (refine wpList_append_any _ rfl _ (.tmp 8) _ rfl (w.heap.size + 2) 35 iV _ 7 56 Try.underlying29 hiV hzV hzV1 hzV2 rfl (by decide) (.slice none 0 0) 0 [] rfl (World.ownsRow_nil _ _ _ _) _ va vn vc (vpShape.flat vips) rfl RV (flatC_one vpShape vips) (by simp only [maxLen]; omega) (by omega) (by omega) ?_; intro v2 w2 hown2 hg2 hat2; simp only [Nat.zero_add, List.nil_append] at hown2; obtain ⟨A2, k2, rfl⟩ := own_slice hown2; have P2a := P1.grown hg2 (by simp [Value.ownBlock]); obtain ⟨x0, x1, x2, _⟩ := P2a.cells11; obtain ⟨y0, y1, y2, _⟩ := P2a.free11))
  have P2 := P2a.setTo 1 (.slice A2 vn k2) (ds := #[.slice A1 nn k1, .slice A2 vn k2, .slice wa wn wc, .int .i64 factor, .int .i64 domain, .bool a6, .int .u64 ah, .int .u64 al, .bool b6, .int .u64 bh, .int .u64 bl]) rfl
  have Q2 := (Q1.grown hg2 (by simp [Value.ownBlock])).far (p := ⟨w.heap.size, 1, none⟩) (by simp) (.slice A2 vn k2)
  have r2_2 := ownsRow_setCell_below hown2 (a := ⟨w.heap.size, 1, none⟩) (by show w.heap.size < _; omega) (.slice A2 vn k2)
  have r1_2 := ownsRow_setCell_below (r1_1.kept hg2 (or_none _)) (a := ⟨w.heap.size, 1, none⟩) (by show w.heap.size < _; omega) (.slice A2 vn k2)
  have hW2 := below_own (push_below hW1 hg2 (fun g h => by simp [Value.ownBlock] at h)) (Nat.le_refl _) 1 (.slice A2 vn k2)
  have hz2 : w.heap.size + 2 ≤ (w2.setCell ⟨w.heap.size, 1, none⟩ (.slice A2 vn k2)).heap.size := by have := hg2.size; simp only [World.size_setCell]; omega
  generalize w2.setCell ⟨w.heap.size, 1, none⟩ (.slice A2 vn k2) = u2 at *
  clear P1 Q1 hW1 hown2 hg2 hat2 P2a RV p0 p1 p2 p3 p4 p5 p6 p7 p8 p9 p10 x0 x1 x2 y0 y1 y2 r1_1
  obtain ⟨p0, p1, p2, p3, p4, p5, p6, p7, p8, p9, p10, _⟩ := P2.cells11
  have RW := (hcW.keep hW2).reads
  go_upto_region 4 with (at_builtin; go_loud (refine wpList_append_any _ rfl _ (.tmp 12) _ rfl (w.heap.size + 2) 39 iW _ 5 40 Try.underlying30 hiW hzW hzW1 hzW2 rfl (by decide) (.slice none 0 0) 0 [] rfl (World.ownsRow_nil _ _ _ _) _ wa wn wc (vwShape.flat views) rfl RW (flatC_one vwShape views) (by simp only [maxLen]; omega) (by omega) (by omega) ?_; intro v3 w3 hown3 hg3 hat3; simp only [Nat.zero_add, List.nil_append] at hown3; obtain ⟨A3, k3, rfl⟩ := own_slice hown3; have P3a := P2.grown hg3 (by simp [Value.ownBlock]); obtain ⟨x0, x1, x2, _⟩ := P3a.cells11; obtain ⟨y0, y1, y2, _⟩ := P3a.free11))
  have P3 := P3a.setTo 2 (.slice A3 wn k3) (ds := #[.slice A1 nn k1, .slice A2 vn k2, .slice A3 wn k3, .int .i64 factor, .int .i64 domain, .bool a6, .int .u64 ah, .int .u64 al, .bool b6, .int .u64 bh, .int .u64 bl]) rfl
  have Q3 := (Q2.grown hg3 (by simp [Value.ownBlock])).far (p := ⟨w.heap.size, 2, none⟩) (by simp) (.slice A3 wn k3)
  have r3_3 := ownsRow_setCell_below hown3 (a := ⟨w.heap.size, 2, none⟩) (by show w.heap.size < _; omega) (.slice A3 wn k3)
  have r1_3 := ownsRow_setCell_below (r1_2.kept hg3 (or_none _)) (a := ⟨w.heap.size, 2, none⟩) (by show w.heap.size < _; omega) (.slice A3 wn k3)
  have r2_3 := ownsRow_setCell_below (r2_2.kept hg3 (or_none _)) (a := ⟨w.heap.size, 2, none⟩) (by show w.heap.size < _; omega) (.slice A3 wn k3)
  have hW3 := below_own (push_below hW2 hg3 (fun g h => by simp [Value.ownBlock] at h)) (Nat.le_refl _) 2 (.slice A3 wn k3)
  have hz3 : w.heap.size + 2 ≤ (w3.setCell ⟨w.heap.size, 2, none⟩ (.slice A3 wn k3)).heap.size := by have := hg3.size; simp only [World.size_setCell]; omega
  generalize w3.setCell ⟨w.heap.size, 2, none⟩ (.slice A3 wn k3) = u3 at *
  clear P2 Q2 hW2 hown3 hg3 hat3 P3a RW p0 p1 p2 p3 p4 p5 p6 p7 p8 p9 p10 x0 x1 x2 y0 y1 y2 r1_2 r2_2
  obtain ⟨p0, p1, p2, p3, p4, p5, p6, p7, p8, p9, p10, _⟩ := P3.cells11
  obtain ⟨q0, q1, q2, q3, q4, q5, q6, q7, q8, q9, q10, _⟩ := Q3.cells11
  obtain ⟨f0, f1, f2, f3, f4, f5, f6, f7, f8, f9, f10⟩ := Q3.free11
  go_wp2
  have hQ := Q3.turn11 (.slice A1 nn k1) (.slice A2 vn k2) (.slice A3 wn k3) (.int .i64 factor) (.int .i64 domain) (.bool a6) (.int .u64 ah) (.int .u64 al) (.bool b6) (.int .u64 bh) (.int .u64 bl)
  have hB := below_turn11 (g := w.heap.size + 1) hW3 (Nat.le_succ _) (.slice A1 nn k1) (.slice A2 vn k2) (.slice A3 wn k3) (.int .i64 factor) (.int .i64 domain) (.bool a6) (.int .u64 ah) (.int .u64 al) (.bool b6) (.int .u64 bh) (.int .u64 bl)
  have s1 := row_turn11 (g := w.heap.size + 1) r1_3 (by omega) (.slice A1 nn k1) (.slice A2 vn k2) (.slice A3 wn k3) (.int .i64 factor) (.int .i64 domain) (.bool a6) (.int .u64 ah) (.int .u64 al) (.bool b6) (.int .u64 bh) (.int .u64 bl)
  have s2 := row_turn11 (g := w.heap.size + 1) r2_3 (by omega) (.slice A1 nn k1) (.slice A2 vn k2) (.slice A3 wn k3) (.int .i64 factor) (.int .i64 domain) (.bool a6) (.int .u64 ah) (.int .u64 al) (.bool b6) (.int .u64 bh) (.int .u64 bl)
  have s3 := row_turn11 (g := w.heap.size + 1) r3_3 (by omega) (.slice A1 nn k1) (.slice A2 vn k2) (.slice A3 wn k3) (.int .i64 factor) (.int .i64 domain) (.bool a6) (.int .u64 ah) (.int .u64 al) (.bool b6) (.int .u64 bh) (.int .u64 bl)
  obtain ⟨B1, m1, e1, I1, _⟩ := own_nodes s1 hcN.wf (by omega)
  obtain ⟨B2, m2, e2, I2, _⟩ := own_rowC (C := vpShape) s2 hcV.wf (by omega)
  obtain ⟨B3, m3, e3, I3, _⟩ := own_rowC (C := vwShape) s3 hcW.wf (by omega)
  injection e1 with e1 _ e1'
  injection e2 with e2 _ e2'
  injection e3 with e3 _ e3'
  subst e1 e1' e2 e2' e3 e3'
  exact bodyPost_ret (results_cell_row rfl _ _ _ _ _ (0, 0) _ rfl hQ Try.underlying33 rfl sizeConf) rfl ⟨⟨A1, k1, A2, k2, A3, k3, rfl, ⟨I1, I2, I3, hcf, hcd, hc4, hc6⟩⟩, hB⟩
end Go.Proofs.Ytceekfbhkenniaa
end
section
/- TreeNews. -/
set_option linter.unusedVariables false
namespace Go.Proofs.Ytceekfbhkenniaa
open Go.RowKit
set_option maxHeartbeats 4000000
set_option maxRecDepth 100000
theorem lit_reads {w : World} {g : Nat} {T : TypeId} {xs : List Value} (h : Blk w g T ⟨xs⟩) (size n : Nat) (hl : xs.length = n * size) : Reads w w.heap.size size (some ⟨g, 0, none⟩) n xs :=
  ⟨hl, fun _ => ⟨_, rfl, h.lt, fun j u hu => by
    have e : (⟨g, 0, none⟩ : Addr).add j = ⟨g, j, none⟩ := by unfold Addr.add; split <;> simp_all
    rw [e, h.cell j]
    simpa using hu⟩⟩
theorem tree_Len (b : Nat) (l : List Nd) (w : World) (h : TreeAt w b l) : Calls Try.prog 14 #[.pointer (some ⟨b, 0, none⟩)] w fun e w' => e = .returned (.int .i64 (l.length : Int)) ∧ w = w' := by
  obtain ⟨vN, vK, vT, vH, ks, r, h⟩ := h
  obtain ⟨AN, cN, rfl⟩ := own_slice h.rN
  obtain ⟨c0, c1, c2, c3, _⟩ := h.blk.cells4
  go_enter Try.func14, Try.ntmps14
  go_wp2
  go_ret
  exact ⟨rfl, rfl⟩
def exNodes : List Nd := [⟨⟨#[108]⟩, 1, -1, 0, false, 0, 0⟩, ⟨⟨#[122]⟩, 2, 0, 0, false, 0, 0⟩, ⟨⟨#[104]⟩, 4, 1, 0, false, 0, 0⟩]
theorem ex0 : whyC (exNodes.getD 0 nd0) (exNodes.take 0) = 0 := by decide +kernel
theorem ex1 : whyC (exNodes.getD 1 nd0) (exNodes.take 1) = 0 := by decide +kernel
theorem ex2 : whyC (exNodes.getD 2 nd0) (exNodes.take 2) = 16 := by decide +kernel
theorem ex_wf : ∀ x ∈ exNodes, x.Wf := by
  intro x hx
  simp [exNodes] at hx
  rcases hx with rfl | rfl | rfl <;> constructor <;> decide
end Go.Proofs.Ytceekfbhkenniaa
end
section
/- The law's Made: the nodes that may stand, one behind the other. -/
set_option linter.unusedVariables false
namespace Go.Proofs.Ytceekfbhkenniaa
open Go.RowKit
set_option maxHeartbeats 4000000
set_option maxRecDepth 100000
def addOk (acc : List Nd) (x : Nd) : List Nd := if whyC x acc = 0 then acc ++ [x] else acc
def made (l : List Nd) : List Nd := l.foldl addOk []
def Tall (l : List Nd) : Prop := ∀ j, j < l.length → okAt l j
theorem made_take (l : List Nd) (k : Nat) (h : k < l.length) : made (l.take (k + 1)) = addOk (made (l.take k)) (l.getD k nd0) := by
  unfold made
  rw [take_snocN l k h, List.foldl_append]; rfl
theorem tall_add (acc : List Nd) (x : Nd) (h : Tall acc) : Tall (addOk acc x) := by
  unfold addOk
  split
  · rename_i hw
    intro j hj
    rw [List.length_append, List.length_singleton] at hj
    unfold okAt
    rcases Nat.lt_or_ge j acc.length with h1 | h1
    · rw [getD_left _ _ _ h1, List.take_append_of_le_length (by omega)]
      exact h j h1
    · obtain rfl : j = acc.length := by omega
      rw [getD_last, List.take_left']
      · exact hw
      · rfl
  · exact h
theorem fold_tall (l acc : List Nd) (h : Tall acc) : Tall (l.foldl addOk acc) := by
  induction l generalizing acc with
  | nil => exact h
  | cons x l ih => exact ih _ (tall_add acc x h)
theorem made_tall (l : List Nd) : Tall (made l) := fold_tall l [] (fun j hj => absurd hj (Nat.not_lt_zero _))
theorem fold_mem (l acc : List Nd) : ∀ x ∈ l.foldl addOk acc, x ∈ acc ∨ x ∈ l := by
  induction l generalizing acc with
  | nil => intro x hx; exact .inl hx
  | cons y l ih =>
    intro x hx
    rcases ih _ x hx with h | h
    · unfold addOk at h
      split at h
      · rcases List.mem_append.1 h with h | h
        · exact .inl h
        · rw [List.mem_singleton] at h; subst h; exact .inr (List.mem_cons_self ..)
      · exact .inl h
    · exact .inr (List.mem_cons_of_mem _ h)
theorem made_mem (l : List Nd) : ∀ x ∈ made l, x ∈ l := fun x hx => by
  rcases fold_mem l [] x hx with h | h
  · cases h
  · exact h
theorem fold_len (l acc : List Nd) : (l.foldl addOk acc).length ≤ acc.length + l.length := by
  induction l generalizing acc with
  | nil => simp
  | cons y l ih =>
    refine Nat.le_trans (ih _) ?_
    have : (addOk acc y).length ≤ acc.length + 1 := by unfold addOk; split <;> simp
    rw [List.length_cons]; omega
theorem made_len (l : List Nd) : (made l).length ≤ l.length := by have := fold_len l []; simp only [List.length_nil, Nat.zero_add] at this; exact this
theorem tall_rises {l : List Nd} (h : Tall l) : Rises l := fun j hj => (ok_above hj (h j hj)).1
end Go.Proofs.Ytceekfbhkenniaa
end
section
/- Nodes above one another, in plain Lean. -/
set_option linter.unusedVariables false
namespace Go.Proofs.Ytceekfbhkenniaa
open Go.RowKit
theorem ndAt_in {l : List Nd} {i : Int} (h0 : 0 ≤ i) : ndAt l i = l.getD i.toNat nd0 := by unfold ndAt; rw [if_pos h0]
/-- What a node that may stand is like. -/
theorem tall_head {l : List Nd} (h : Tall l) (j : Nat) (hj : j < l.length) : HeadOk (l.getD j nd0) (l.take j) := headC_zero (whyC_ok (h j hj)).1
theorem tall_below {l : List Nd} (h : Tall l) (j : Nat) (hj : j < l.length) (hk : 1 < (l.getD j nd0).kind) :
    0 ≤ (l.getD j nd0).above ∧ (l.getD j nd0).above < j ∧ (ndAt l (l.getD j nd0).above).kind = (l.getD j nd0).kind - 1 := by
  obtain ⟨h0, h1, h2⟩ := (tall_head h j hj).below hk
  rw [List.length_take] at h1
  refine ⟨h0, by omega, ?_⟩
  rw [ndAt_in h0, ← h2]
  generalize (l.getD j nd0).above = a at *
  rw [List.getD_eq_getElem?_getD, List.getD_eq_getElem?_getD, List.getElem?_take, if_pos (by omega)]
/-- Four steps are enough. -/
theorem upF_kind {l : List Nd} (h : Tall l) (kind : Int) : ∀ (f : Nat) (i : Int), 0 ≤ i → i < l.length → (ndAt l i).kind ≤ f → upF l kind f i = up l kind i
  | 0, i, h0, h1, hk => by
    have := (tall_head h i.toNat (by omega)).kind0
    rw [← ndAt_in h0] at this
    omega
  | f + 1, i, h0, h1, hk => by
    rw [upF, if_pos ⟨h0, h1⟩]
    by_cases hi : (ndAt l i).kind = kind
    · rw [if_pos hi, up_hit l kind i h0 h1 hi]
    · rw [if_neg hi, up_step l (tall_rises h) kind i h0 h1 hi]
      by_cases h2 : 1 < (ndAt l i).kind
      · have hb := tall_below h i.toNat (by omega) (by rw [← ndAt_in h0]; exact h2)
        rw [← ndAt_in h0] at hb
        exact upF_kind h kind f _ hb.1 (by omega) (by omega)
      · have hd := tall_head h i.toNat (by omega)
        rw [← ndAt_in h0] at hd
        have := (hd.level (by have := hd.kind0; omega)).2
        rw [this, up_out l kind (-1) (by omega)]
        cases f with
        | zero => rfl
        | succ f => rw [upF, if_neg (by omega)]
theorem up_four {l : List Nd} (h : Tall l) (kind i : Int) : upF l kind 4 i = up l kind i := by
  by_cases hi : 0 ≤ i ∧ i < l.length
  · have hd := tall_head h i.toNat (by omega)
    rw [← ndAt_in hi.1] at hd
    exact upF_kind h kind 4 i hi.1 hi.2 hd.kind1
  · rw [upF, if_neg hi, up_out l kind i (by omega)]
/-- Above each node is a level. -/
theorem up_level {l : List Nd} (h : Tall l) : ∀ (f : Nat) (i : Int), 0 ≤ i → i < l.length → (ndAt l i).kind ≤ f → 0 ≤ up l 1 i
  | 0, i, h0, h1, hk => by
    have := (tall_head h i.toNat (by omega)).kind0
    rw [← ndAt_in h0] at this
    omega
  | f + 1, i, h0, h1, hk => by
    by_cases hi : (ndAt l i).kind = 1
    · rw [up_hit l 1 i h0 h1 hi]; exact h0
    · rw [up_step l (tall_rises h) 1 i h0 h1 hi]
      have hd := tall_head h i.toNat (by omega)
      rw [← ndAt_in h0] at hd
      have hk0 := hd.kind0
      have hb := tall_below h i.toNat (by omega) (by rw [← ndAt_in h0]; omega)
      rw [← ndAt_in h0] at hb
      exact up_level h f _ hb.1 (by omega) (by omega)
/-- The places of those of a kind of node, as they are found one by one. -/
theorem idx_take (p : Nd → Bool) (l : List Nd) (k : Nat) (hk : k < l.length) : idx p (l.take (k + 1)) = idx p (l.take k) ++ if p (l.getD k nd0) = true then [(k : Int)] else [] := by
  rw [take_snocN l k hk, idx_snoc, List.length_take, Nat.min_eq_left (by omega)]
theorem idxI_snoc (z : Int) (xs : List Int) (y : Int) : idxI z (xs ++ [y]) = if z ∈ xs then idxI z xs else if y = z then (xs.length : Int) else -1 := by
  by_cases hz : z ∈ xs
  · rw [if_pos hz]
    unfold idxI
    have : xs.findIdx? (fun x => x == z) ≠ none := by
      rw [ne_eq, List.findIdx?_eq_none_iff]
      intro h
      have := h z hz
      simp at this
    rw [List.findIdx?_append]
    cases h : xs.findIdx? (fun x => x == z) with
    | none => exact absurd h this
    | some k => rfl
  · rw [if_neg hz]
    have e : xs.findIdx? (fun x => x == z) = none := by
      rw [List.findIdx?_eq_none_iff]
      intro x hx
      have : x ≠ z := fun e => hz (e ▸ hx)
      simpa using this
    unfold idxI
    rw [List.findIdx?_append, e]
    by_cases hy : y = z
    · rw [if_pos hy]; simp [List.findIdx?_cons, hy]
    · rw [if_neg hy]; simp [List.findIdx?_cons, hy]
theorem idxI_none {z : Int} {xs : List Int} (h : ¬ z ∈ xs) : idxI z xs = -1 := by
  unfold idxI
  have e : xs.findIdx? (fun x => x == z) = none := by
    rw [List.findIdx?_eq_none_iff]
    intro x hx
    have : x ≠ z := fun e => h (e ▸ hx)
    simpa using this
  rw [e]
/-- One more level is looked at. -/
theorem level_step {l : List Nd} (u : Int) (k : Nat) (hk : k < l.length) :
    idxI u (idx (isK 1) (l.take (k + 1))) = if (l.getD k nd0).kind = 1 ∧ u = k then ((idx (isK 1) (l.take k)).length : Int) else idxI u (idx (isK 1) (l.take k)) := by
  have hn : u = k → ¬ u ∈ idx (isK 1) (l.take k) := fun e h => by
    have := (idx_bd _ _ _ h).2
    rw [List.length_take] at this
    omega
  rw [idx_take _ l k hk]
  by_cases h1 : (l.getD k nd0).kind = 1
  · rw [if_pos (by unfold isK; simpa using h1), idxI_snoc]
    by_cases hu : u = k
    · rw [if_neg (hn hu), if_pos hu.symm, if_pos ⟨h1, hu⟩]
    · rw [if_neg (fun h : _ ∧ _ => hu h.2)]
      by_cases hm : u ∈ idx (isK 1) (l.take k)
      · rw [if_pos hm]
      · rw [if_neg hm, if_neg (fun e => hu e.symm), idxI_none hm]
  · rw [if_neg (by unfold isK; simpa using h1), List.append_nil, if_neg (fun h : _ ∧ _ => h1 h.1)]
/-- The hosts below a node, as they are found one by one. -/
def belowTo (l : List Nd) (i : Int) (k : Nat) : List Int := if (ndAt l i).kind = 0 then [] else (idx (isK 4) (l.take k)).filter fun h => up l (ndAt l i).kind h == i
theorem below_step' {l : List Nd} (i : Int) (k : Nat) (hk : k < l.length) : belowTo l i (k + 1) = belowTo l i k ++ if (ndAt l i).kind ≠ 0 ∧ (l.getD k nd0).kind = 4 ∧ up l (ndAt l i).kind k = i then [(k : Int)] else [] := by
  unfold belowTo
  by_cases h0 : (ndAt l i).kind = 0
  · rw [if_pos h0, if_pos h0, if_neg (by rintro ⟨h1, _⟩; exact h1 h0)]; rw [List.append_nil]
  · rw [if_neg h0, if_neg h0, idx_take _ l k hk, List.filter_append]
    congr 1
    unfold isK
    by_cases h4 : (l.getD k nd0).kind = 4
    · rw [if_pos (by simpa using h4)]
      by_cases hu : up l (ndAt l i).kind k = i
      · rw [if_pos ⟨h0, h4, hu⟩]; simp [hu]
      · rw [if_neg (fun h => hu h.2.2)]; simp [hu]
    · rw [if_neg (by simpa using h4), if_neg (fun h => h4 h.2.1)]; rfl
theorem below_all (l : List Nd) (i : Int) : belowTo l i l.length = belowOf l i := by
  unfold belowTo belowOf
  rw [List.take_length]
theorem kind_zero {l : List Nd} (h : Tall l) (i : Int) : (ndAt l i).kind = 0 ↔ (i < 0 ∨ l.length ≤ i) := by
  constructor
  · intro h0
    rcases Int.lt_or_le i 0 with hi | hi
    · exact .inl hi
    · rcases Int.lt_or_le i l.length with h1 | h1
      · have := (tall_head h i.toNat (by omega)).kind0
        rw [← ndAt_in hi] at this
        omega
      · exact .inr h1
  · intro hi
    rw [ndAt_out l i hi]; rfl
theorem level_all {l : List Nd} (i : Int) : (if up l 1 i < 0 then -1 else idxI (up l 1 i) (idx (isK 1) l)) = idxI (up l 1 i) (idx (isK 1) l) := by
  by_cases h : up l 1 i < 0
  · rw [if_pos h, idxI_none (fun hm => by have := (idx_bd _ _ _ hm).1; omega)]
  · rw [if_neg h]
end Go.Proofs.Ytceekfbhkenniaa
end
section
/- TreeUps. -/
set_option linter.unusedVariables false
namespace Go.Proofs.Ytceekfbhkenniaa
open Go.RowKit
set_option maxHeartbeats 8000000
set_option maxRecDepth 100000
theorem below_le (l : List Nd) (i : Int) (k : Nat) : (belowTo l i k).length ≤ l.length := by
  unfold belowTo
  split
  · simp
  · refine Nat.le_trans (List.length_filter_le _ _) (Nat.le_trans (idx_le _ _) ?_)
    rw [List.length_take]; omega
theorem below_wf (l : List Nd) (i : Int) (hf : l.length ≤ 1024) : ∀ z ∈ belowOf l i, (Lit.int .i64 z).wf = true := by
  intro z hz
  unfold belowOf at hz
  split at hz
  · simp at hz
  · exact idx_wf (isK 4) l hf z (List.mem_filter.1 hz).1
end Go.Proofs.Ytceekfbhkenniaa
end
