/- Lemmas for the claim's proof: ValidI TreeN TreeO1. -/
import Derived.Test.YtceekfbhkenniaaQ10
import Derived.Test.YtceekfbhkenniaaQ11
section
/- distributarylaw18.Few. -/
set_option linter.unusedVariables false
namespace Go.Proofs.Ytceekfbhkenniaa
open Go.RowKit
set_option maxHeartbeats 4000000
set_option maxRecDepth 100000
/-- A configuration of few nodes, addresses and views. -/
def Conf.few (c : Conf) : Conf := ⟨c.na, min c.nn 60, c.nc, c.va, min c.vn 20, c.vc, c.wa, min c.wn 20, c.wc, c.factor, c.domain, c.s4, c.s6, c.nodes.take (min c.nn 60), c.vips.take (min c.vn 20), c.views.take (min c.wn 20)⟩
theorem IsConf.few {w : World} {c : Conf} (h : IsConf w c) : IsConf w c.few :=
  ⟨h.nodes.cut (by show min c.nn 60 ≤ c.nn; omega), h.vips.cut (by show min c.vn 20 ≤ c.vn; omega), h.views.cut (by show min c.wn 20 ≤ c.wn; omega), h.factor, h.domain, h.s4, h.s6⟩
theorem law18_Few (c : Conf) (w : World) (hc : IsConf w c) : Calls Try.prog 11 #[.agg c.cells] w fun e w' => e = .returned (.agg c.few.cells) ∧ Below w.heap.size w w' := by
  have q1 := hc.nodes.cap
  have q2 := hc.nodes.small
  have q3 := hc.vips.cap
  have q4 := hc.vips.small
  have q5 := hc.views.cap
  have q6 := hc.views.small
  clear hc
  obtain ⟨na, nn, nc, va, vn, vc, wa, wn, wc, factor, domain, ⟨a6, ah, al⟩, ⟨b6, bh, bl⟩, nodes, vips, views⟩ := c
  have HC := Lib.hid (show (Conf.few ⟨na, nn, nc, va, vn, vc, wa, wn, wc, factor, domain, ⟨a6, ah, al⟩, ⟨b6, bh, bl⟩, nodes, vips, views⟩).cells = #[.slice na (min nn 60) nc, .slice va (min vn 20) vc, .slice wa (min wn 20) wc, .int .i64 factor, .int .i64 domain, .bool a6, .int .u64 ah, .int .u64 al, .bool b6, .int .u64 bh, .int .u64 bl] from rfl)
  generalize (Conf.few ⟨na, nn, nc, va, vn, vc, wa, wn, wc, factor, domain, ⟨a6, ah, al⟩, ⟨b6, bh, bl⟩, nodes, vips, views⟩).cells = FC at *
  unfold Conf.cells
  dsimp only at *
  have P0 := (Blk.new w 33 #[.slice na nn nc, .slice va vn vc, .slice wa wn wc, .int .i64 factor, .int .i64 domain, .bool a6, .int .u64 ah, .int .u64 al, .bool b6, .int .u64 bh, .int .u64 bl]).alloc (.cells #[.slice none 0 0, .slice none 0 0, .slice none 0 0, .int .i64 0, .int .i64 0, .bool false, .int .u64 0, .int .u64 0, .bool false, .int .u64 0, .int .u64 0] 33)
  have Q0 := Blk.new (w.alloc (.cells #[.slice na nn nc, .slice va vn vc, .slice wa wn wc, .int .i64 factor, .int .i64 domain, .bool a6, .int .u64 ah, .int .u64 al, .bool b6, .int .u64 bh, .int .u64 bl] 33)) 33 #[.slice none 0 0, .slice none 0 0, .slice none 0 0, .int .i64 0, .int .i64 0, .bool false, .int .u64 0, .int .u64 0, .bool false, .int .u64 0, .int .u64 0]
  have hsz : (w.alloc (.cells #[.slice na nn nc, .slice va vn vc, .slice wa wn wc, .int .i64 factor, .int .i64 domain, .bool a6, .int .u64 ah, .int .u64 al, .bool b6, .int .u64 bh, .int .u64 bl] 33)).heap.size = w.heap.size + 1 := by simp
  rw [hsz] at Q0
  have hW0 : Below w.heap.size w ((w.alloc (.cells #[.slice na nn nc, .slice va vn vc, .slice wa wn wc, .int .i64 factor, .int .i64 domain, .bool a6, .int .u64 ah, .int .u64 al, .bool b6, .int .u64 bh, .int .u64 bl] 33)).alloc (.cells #[.slice none 0 0, .slice none 0 0, .slice none 0 0, .int .i64 0, .int .i64 0, .bool false, .int .u64 0, .int .u64 0, .bool false, .int .u64 0, .int .u64 0] 33)) := ((Below.refl _ _).alloc (Nat.le_refl _) _).alloc (by simp) _
  go_enter Try.func11, Try.ntmps11
  go_upto_region 1 with (fail)
  generalize ((w.alloc (.cells #[.slice na nn nc, .slice va vn vc, .slice wa wn wc, .int .i64 factor, .int .i64 domain, .bool a6, .int .u64 ah, .int .u64 al, .bool b6, .int .u64 bh, .int .u64 bl] 33)).alloc (.cells #[.slice none 0 0, .slice none 0 0, .slice none 0 0, .int .i64 0, .int .i64 0, .bool false, .int .u64 0, .int .u64 0, .bool false, .int .u64 0, .int .u64 0] 33)) = u0 at *
  clear hsz
  by_cases h0 : nn ≤ 60
  · have e0 : min nn 60 = nn := by omega
    have g0 : decide ((60 : Int) < (nn : Int)) = false := decide_eq_false (by omega)
    obtain ⟨p0, p1, p2, p3, p4, p5, p6, p7, p8, p9, p10, _⟩ := P0.cells11
    go_upto_region 3 with (fail)
    clear p0 p1 p2 p3 p4 p5 p6 p7 p8 p9 p10
    by_cases h1 : vn ≤ 20
    · have e1 : min vn 20 = vn := by omega
      have g1 : decide ((20 : Int) < (vn : Int)) = false := decide_eq_false (by omega)
      obtain ⟨p0, p1, p2, p3, p4, p5, p6, p7, p8, p9, p10, _⟩ := P0.cells11
      go_upto_region 5 with (fail)
      clear p0 p1 p2 p3 p4 p5 p6 p7 p8 p9 p10
      by_cases h2 : wn ≤ 20
      · have e2 : min wn 20 = wn := by omega
        have g2 : decide ((20 : Int) < (wn : Int)) = false := decide_eq_false (by omega)
        obtain ⟨p0, p1, p2, p3, p4, p5, p6, p7, p8, p9, p10, _⟩ := P0.cells11
        go_upto_region 7 with (fail)
        clear p0 p1 p2 p3 p4 p5 p6 p7 p8 p9 p10
        obtain ⟨p0, p1, p2, p3, p4, p5, p6, p7, p8, p9, p10, _⟩ := P0.cells11
        obtain ⟨r0, r1, r2, r3, r4, r5, r6, r7, r8, r9, r10, _⟩ := Q0.cells11
        obtain ⟨f0, f1, f2, f3, f4, f5, f6, f7, f8, f9, f10⟩ := Q0.free11
        go_wp2
        have hQ := Q0.turn11 (.slice na nn nc) (.slice va vn vc) (.slice wa wn wc) (.int .i64 factor) (.int .i64 domain) (.bool a6) (.int .u64 ah) (.int .u64 al) (.bool b6) (.int .u64 bh) (.int .u64 bl)
        have hB := below_turn11 (g := w.heap.size + 1) hW0 (Nat.le_succ _) (.slice na nn nc) (.slice va vn vc) (.slice wa wn wc) (.int .i64 factor) (.int .i64 domain) (.bool a6) (.int .u64 ah) (.int .u64 al) (.bool b6) (.int .u64 bh) (.int .u64 bl)
        have HE : FC = #[.slice na nn nc, .slice va vn vc, .slice wa wn wc, .int .i64 factor, .int .i64 domain, .bool a6, .int .u64 ah, .int .u64 al, .bool b6, .int .u64 bh, .int .u64 bl] := by rw [HC.out, e0, e1, e2]
        exact bodyPost_ret (results_cell_row rfl _ _ _ _ _ (0, 0) _ rfl hQ Try.underlying33 rfl sizeConf) rfl ⟨congrArg (fun x => Ending.returned (.agg x)) HE.symm, hB⟩
      · have e2 : min wn 20 = 20 := by omega
        have g2 : decide ((20 : Int) < (wn : Int)) = true := decide_eq_true (by omega)
        have i2 : 20 ≤ wc := by omega
        obtain ⟨p0, p1, p2, p3, p4, p5, p6, p7, p8, p9, p10, _⟩ := P0.cells11
        obtain ⟨z0, z1, z2, _⟩ := P0.free11
        go_upto_region 7 with (fail)
        have P3 := P0.setTo 2 (.slice wa 20 wc) (ds := #[.slice na nn nc, .slice va vn vc, .slice wa 20 wc, .int .i64 factor, .int .i64 domain, .bool a6, .int .u64 ah, .int .u64 al, .bool b6, .int .u64 bh, .int .u64 bl]) rfl
        have Q3 := Q0.far (p := ⟨w.heap.size, 2, none⟩) (by simp) (.slice wa 20 wc)
        have hW3 := below_own hW0 (Nat.le_refl _) 2 (.slice wa 20 wc)
        clear P0 Q0 hW0 p0 p1 p2 p3 p4 p5 p6 p7 p8 p9 p10 z0 z1 z2
        generalize u0.setCell ⟨w.heap.size, 2, none⟩ (.slice wa 20 wc) = u3 at *
        obtain ⟨p0, p1, p2, p3, p4, p5, p6, p7, p8, p9, p10, _⟩ := P3.cells11
        obtain ⟨r0, r1, r2, r3, r4, r5, r6, r7, r8, r9, r10, _⟩ := Q3.cells11
        obtain ⟨f0, f1, f2, f3, f4, f5, f6, f7, f8, f9, f10⟩ := Q3.free11
        go_wp2
        have hQ := Q3.turn11 (.slice na nn nc) (.slice va vn vc) (.slice wa 20 wc) (.int .i64 factor) (.int .i64 domain) (.bool a6) (.int .u64 ah) (.int .u64 al) (.bool b6) (.int .u64 bh) (.int .u64 bl)
        have hB := below_turn11 (g := w.heap.size + 1) hW3 (Nat.le_succ _) (.slice na nn nc) (.slice va vn vc) (.slice wa 20 wc) (.int .i64 factor) (.int .i64 domain) (.bool a6) (.int .u64 ah) (.int .u64 al) (.bool b6) (.int .u64 bh) (.int .u64 bl)
        have HE : FC = #[.slice na nn nc, .slice va vn vc, .slice wa 20 wc, .int .i64 factor, .int .i64 domain, .bool a6, .int .u64 ah, .int .u64 al, .bool b6, .int .u64 bh, .int .u64 bl] := by rw [HC.out, e0, e1, e2]
        exact bodyPost_ret (results_cell_row rfl _ _ _ _ _ (0, 0) _ rfl hQ Try.underlying33 rfl sizeConf) rfl ⟨congrArg (fun x => Ending.returned (.agg x)) HE.symm, hB⟩
    · have e1 : min vn 20 = 20 := by omega
      have g1 : decide ((20 : Int) < (vn : Int)) = true := decide_eq_true (by omega)
      have i1 : 20 ≤ vc := by omega
      obtain ⟨p0, p1, p2, p3, p4, p5, p6, p7, p8, p9, p10, _⟩ := P0.cells11
      obtain ⟨z0, z1, z2, _⟩ := P0.free11
      go_upto_region 5 with (fail)
      have P2 := P0.setTo 1 (.slice va 20 vc) (ds := #[.slice na nn nc, .slice va 20 vc, .slice wa wn wc, .int .i64 factor, .int .i64 domain, .bool a6, .int .u64 ah, .int .u64 al, .bool b6, .int .u64 bh, .int .u64 bl]) rfl
      have Q2 := Q0.far (p := ⟨w.heap.size, 1, none⟩) (by simp) (.slice va 20 vc)
      have hW2 := below_own hW0 (Nat.le_refl _) 1 (.slice va 20 vc)
      clear P0 Q0 hW0 p0 p1 p2 p3 p4 p5 p6 p7 p8 p9 p10 z0 z1 z2
      generalize u0.setCell ⟨w.heap.size, 1, none⟩ (.slice va 20 vc) = u2 at *
      by_cases h2 : wn ≤ 20
      · have e2 : min wn 20 = wn := by omega
        have g2 : decide ((20 : Int) < (wn : Int)) = false := decide_eq_false (by omega)
        obtain ⟨p0, p1, p2, p3, p4, p5, p6, p7, p8, p9, p10, _⟩ := P2.cells11
        go_upto_region 7 with (fail)
        clear p0 p1 p2 p3 p4 p5 p6 p7 p8 p9 p10
        obtain ⟨p0, p1, p2, p3, p4, p5, p6, p7, p8, p9, p10, _⟩ := P2.cells11
        obtain ⟨r0, r1, r2, r3, r4, r5, r6, r7, r8, r9, r10, _⟩ := Q2.cells11
        obtain ⟨f0, f1, f2, f3, f4, f5, f6, f7, f8, f9, f10⟩ := Q2.free11
        go_wp2
        have hQ := Q2.turn11 (.slice na nn nc) (.slice va 20 vc) (.slice wa wn wc) (.int .i64 factor) (.int .i64 domain) (.bool a6) (.int .u64 ah) (.int .u64 al) (.bool b6) (.int .u64 bh) (.int .u64 bl)
        have hB := below_turn11 (g := w.heap.size + 1) hW2 (Nat.le_succ _) (.slice na nn nc) (.slice va 20 vc) (.slice wa wn wc) (.int .i64 factor) (.int .i64 domain) (.bool a6) (.int .u64 ah) (.int .u64 al) (.bool b6) (.int .u64 bh) (.int .u64 bl)
        have HE : FC = #[.slice na nn nc, .slice va 20 vc, .slice wa wn wc, .int .i64 factor, .int .i64 domain, .bool a6, .int .u64 ah, .int .u64 al, .bool b6, .int .u64 bh, .int .u64 bl] := by rw [HC.out, e0, e1, e2]
        exact bodyPost_ret (results_cell_row rfl _ _ _ _ _ (0, 0) _ rfl hQ Try.underlying33 rfl sizeConf) rfl ⟨congrArg (fun x => Ending.returned (.agg x)) HE.symm, hB⟩
      · have e2 : min wn 20 = 20 := by omega
        have g2 : decide ((20 : Int) < (wn : Int)) = true := decide_eq_true (by omega)
        have i2 : 20 ≤ wc := by omega
        obtain ⟨p0, p1, p2, p3, p4, p5, p6, p7, p8, p9, p10, _⟩ := P2.cells11
        obtain ⟨z0, z1, z2, _⟩ := P2.free11
        go_upto_region 7 with (fail)
        have P3 := P2.setTo 2 (.slice wa 20 wc) (ds := #[.slice na nn nc, .slice va 20 vc, .slice wa 20 wc, .int .i64 factor, .int .i64 domain, .bool a6, .int .u64 ah, .int .u64 al, .bool b6, .int .u64 bh, .int .u64 bl]) rfl
        have Q3 := Q2.far (p := ⟨w.heap.size, 2, none⟩) (by simp) (.slice wa 20 wc)
        have hW3 := below_own hW2 (Nat.le_refl _) 2 (.slice wa 20 wc)
        clear P2 Q2 hW2 p0 p1 p2 p3 p4 p5 p6 p7 p8 p9 p10 z0 z1 z2
        generalize u2.setCell ⟨w.heap.size, 2, none⟩ (.slice wa 20 wc) = u3 at *
        obtain ⟨p0, p1, p2, p3, p4, p5, p6, p7, p8, p9, p10, _⟩ := P3.cells11
        obtain ⟨r0, r1, r2, r3, r4, r5, r6, r7, r8, r9, r10, _⟩ := Q3.cells11
        obtain ⟨f0, f1, f2, f3, f4, f5, f6, f7, f8, f9, f10⟩ := Q3.free11
        go_wp2
        have hQ := Q3.turn11 (.slice na nn nc) (.slice va 20 vc) (.slice wa 20 wc) (.int .i64 factor) (.int .i64 domain) (.bool a6) (.int .u64 ah) (.int .u64 al) (.bool b6) (.int .u64 bh) (.int .u64 bl)
        have hB := below_turn11 (g := w.heap.size + 1) hW3 (Nat.le_succ _) (.slice na nn nc) (.slice va 20 vc) (.slice wa 20 wc) (.int .i64 factor) (.int .i64 domain) (.bool a6) (.int .u64 ah) (.int .u64 al) (.bool b6) (.int .u64 bh) (.int .u64 bl)
        have HE : FC = #[.slice na nn nc, .slice va 20 vc, .slice wa 20 wc, .int .i64 factor, .int .i64 domain, .bool a6, .int .u64 ah, .int .u64 al, .bool b6, .int .u64 bh, .int .u64 bl] := by rw [HC.out, e0, e1, e2]
        exact bodyPost_ret (results_cell_row rfl _ _ _ _ _ (0, 0) _ rfl hQ Try.underlying33 rfl sizeConf) rfl ⟨congrArg (fun x => Ending.returned (.agg x)) HE.symm, hB⟩
  · have e0 : min nn 60 = 60 := by omega
    have g0 : decide ((60 : Int) < (nn : Int)) = true := decide_eq_true (by omega)
    have i0 : 60 ≤ nc := by omega
    obtain ⟨p0, p1, p2, p3, p4, p5, p6, p7, p8, p9, p10, _⟩ := P0.cells11
    obtain ⟨z0, z1, z2, _⟩ := P0.free11
    go_upto_region 3 with (fail)
    have P1 := P0.setTo 0 (.slice na 60 nc) (ds := #[.slice na 60 nc, .slice va vn vc, .slice wa wn wc, .int .i64 factor, .int .i64 domain, .bool a6, .int .u64 ah, .int .u64 al, .bool b6, .int .u64 bh, .int .u64 bl]) rfl
    have Q1 := Q0.far (p := ⟨w.heap.size, 0, none⟩) (by simp) (.slice na 60 nc)
    have hW1 := below_own hW0 (Nat.le_refl _) 0 (.slice na 60 nc)
    clear P0 Q0 hW0 p0 p1 p2 p3 p4 p5 p6 p7 p8 p9 p10 z0 z1 z2
    generalize u0.setCell ⟨w.heap.size, 0, none⟩ (.slice na 60 nc) = u1 at *
    by_cases h1 : vn ≤ 20
    · have e1 : min vn 20 = vn := by omega
      have g1 : decide ((20 : Int) < (vn : Int)) = false := decide_eq_false (by omega)
      obtain ⟨p0, p1, p2, p3, p4, p5, p6, p7, p8, p9, p10, _⟩ := P1.cells11
      go_upto_region 5 with (fail)
      clear p0 p1 p2 p3 p4 p5 p6 p7 p8 p9 p10
      by_cases h2 : wn ≤ 20
      · have e2 : min wn 20 = wn := by omega
        have g2 : decide ((20 : Int) < (wn : Int)) = false := decide_eq_false (by omega)
        obtain ⟨p0, p1, p2, p3, p4, p5, p6, p7, p8, p9, p10, _⟩ := P1.cells11
        go_upto_region 7 with (fail)
        clear p0 p1 p2 p3 p4 p5 p6 p7 p8 p9 p10
        obtain ⟨p0, p1, p2, p3, p4, p5, p6, p7, p8, p9, p10, _⟩ := P1.cells11
        obtain ⟨r0, r1, r2, r3, r4, r5, r6, r7, r8, r9, r10, _⟩ := Q1.cells11
        obtain ⟨f0, f1, f2, f3, f4, f5, f6, f7, f8, f9, f10⟩ := Q1.free11
        go_wp2
        have hQ := Q1.turn11 (.slice na 60 nc) (.slice va vn vc) (.slice wa wn wc) (.int .i64 factor) (.int .i64 domain) (.bool a6) (.int .u64 ah) (.int .u64 al) (.bool b6) (.int .u64 bh) (.int .u64 bl)
        have hB := below_turn11 (g := w.heap.size + 1) hW1 (Nat.le_succ _) (.slice na 60 nc) (.slice va vn vc) (.slice wa wn wc) (.int .i64 factor) (.int .i64 domain) (.bool a6) (.int .u64 ah) (.int .u64 al) (.bool b6) (.int .u64 bh) (.int .u64 bl)
        have HE : FC = #[.slice na 60 nc, .slice va vn vc, .slice wa wn wc, .int .i64 factor, .int .i64 domain, .bool a6, .int .u64 ah, .int .u64 al, .bool b6, .int .u64 bh, .int .u64 bl] := by rw [HC.out, e0, e1, e2]
        exact bodyPost_ret (results_cell_row rfl _ _ _ _ _ (0, 0) _ rfl hQ Try.underlying33 rfl sizeConf) rfl ⟨congrArg (fun x => Ending.returned (.agg x)) HE.symm, hB⟩
      · have e2 : min wn 20 = 20 := by omega
        have g2 : decide ((20 : Int) < (wn : Int)) = true := decide_eq_true (by omega)
        have i2 : 20 ≤ wc := by omega
        obtain ⟨p0, p1, p2, p3, p4, p5, p6, p7, p8, p9, p10, _⟩ := P1.cells11
        obtain ⟨z0, z1, z2, _⟩ := P1.free11
        go_upto_region 7 with (fail)
        have P3 := P1.setTo 2 (.slice wa 20 wc) (ds := #[.slice na 60 nc, .slice va vn vc, .slice wa 20 wc, .int .i64 factor, .int .i64 domain, .bool a6, .int .u64 ah, .int .u64 al, .bool b6, .int .u64 bh, .int .u64 bl]) rfl
        have Q3 := Q1.far (p := ⟨w.heap.size, 2, none⟩) (by simp) (.slice wa 20 wc)
        have hW3 := below_own hW1 (Nat.le_refl _) 2 (.slice wa 20 wc)
        clear P1 Q1 hW1 p0 p1 p2 p3 p4 p5 p6 p7 p8 p9 p10 z0 z1 z2
        generalize u1.setCell ⟨w.heap.size, 2, none⟩ (.slice wa 20 wc) = u3 at *
        obtain ⟨p0, p1, p2, p3, p4, p5, p6, p7, p8, p9, p10, _⟩ := P3.cells11
        obtain ⟨r0, r1, r2, r3, r4, r5, r6, r7, r8, r9, r10, _⟩ := Q3.cells11
        obtain ⟨f0, f1, f2, f3, f4, f5, f6, f7, f8, f9, f10⟩ := Q3.free11
        go_wp2
        have hQ := Q3.turn11 (.slice na 60 nc) (.slice va vn vc) (.slice wa 20 wc) (.int .i64 factor) (.int .i64 domain) (.bool a6) (.int .u64 ah) (.int .u64 al) (.bool b6) (.int .u64 bh) (.int .u64 bl)
        have hB := below_turn11 (g := w.heap.size + 1) hW3 (Nat.le_succ _) (.slice na 60 nc) (.slice va vn vc) (.slice wa 20 wc) (.int .i64 factor) (.int .i64 domain) (.bool a6) (.int .u64 ah) (.int .u64 al) (.bool b6) (.int .u64 bh) (.int .u64 bl)
        have HE : FC = #[.slice na 60 nc, .slice va vn vc, .slice wa 20 wc, .int .i64 factor, .int .i64 domain, .bool a6, .int .u64 ah, .int .u64 al, .bool b6, .int .u64 bh, .int .u64 bl] := by rw [HC.out, e0, e1, e2]
        exact bodyPost_ret (results_cell_row rfl _ _ _ _ _ (0, 0) _ rfl hQ Try.underlying33 rfl sizeConf) rfl ⟨congrArg (fun x => Ending.returned (.agg x)) HE.symm, hB⟩
    · have e1 : min vn 20 = 20 := by omega
      have g1 : decide ((20 : Int) < (vn : Int)) = true := decide_eq_true (by omega)
      have i1 : 20 ≤ vc := by omega
      obtain ⟨p0, p1, p2, p3, p4, p5, p6, p7, p8, p9, p10, _⟩ := P1.cells11
      obtain ⟨z0, z1, z2, _⟩ := P1.free11
      go_upto_region 5 with (fail)
      have P2 := P1.setTo 1 (.slice va 20 vc) (ds := #[.slice na 60 nc, .slice va 20 vc, .slice wa wn wc, .int .i64 factor, .int .i64 domain, .bool a6, .int .u64 ah, .int .u64 al, .bool b6, .int .u64 bh, .int .u64 bl]) rfl
      have Q2 := Q1.far (p := ⟨w.heap.size, 1, none⟩) (by simp) (.slice va 20 vc)
      have hW2 := below_own hW1 (Nat.le_refl _) 1 (.slice va 20 vc)
      clear P1 Q1 hW1 p0 p1 p2 p3 p4 p5 p6 p7 p8 p9 p10 z0 z1 z2
      generalize u1.setCell ⟨w.heap.size, 1, none⟩ (.slice va 20 vc) = u2 at *
      by_cases h2 : wn ≤ 20
      · have e2 : min wn 20 = wn := by omega
        have g2 : decide ((20 : Int) < (wn : Int)) = false := decide_eq_false (by omega)
        obtain ⟨p0, p1, p2, p3, p4, p5, p6, p7, p8, p9, p10, _⟩ := P2.cells11
        go_upto_region 7 with (fail)
        clear p0 p1 p2 p3 p4 p5 p6 p7 p8 p9 p10
        obtain ⟨p0, p1, p2, p3, p4, p5, p6, p7, p8, p9, p10, _⟩ := P2.cells11
        obtain ⟨r0, r1, r2, r3, r4, r5, r6, r7, r8, r9, r10, _⟩ := Q2.cells11
        obtain ⟨f0, f1, f2, f3, f4, f5, f6, f7, f8, f9, f10⟩ := Q2.free11
        go_wp2
        have hQ := Q2.turn11 (.slice na 60 nc) (.slice va 20 vc) (.slice wa wn wc) (.int .i64 factor) (.int .i64 domain) (.bool a6) (.int .u64 ah) (.int .u64 al) (.bool b6) (.int .u64 bh) (.int .u64 bl)
        have hB := below_turn11 (g := w.heap.size + 1) hW2 (Nat.le_succ _) (.slice na 60 nc) (.slice va 20 vc) (.slice wa wn wc) (.int .i64 factor) (.int .i64 domain) (.bool a6) (.int .u64 ah) (.int .u64 al) (.bool b6) (.int .u64 bh) (.int .u64 bl)
        have HE : FC = #[.slice na 60 nc, .slice va 20 vc, .slice wa wn wc, .int .i64 factor, .int .i64 domain, .bool a6, .int .u64 ah, .int .u64 al, .bool b6, .int .u64 bh, .int .u64 bl] := by rw [HC.out, e0, e1, e2]
        exact bodyPost_ret (results_cell_row rfl _ _ _ _ _ (0, 0) _ rfl hQ Try.underlying33 rfl sizeConf) rfl ⟨congrArg (fun x => Ending.returned (.agg x)) HE.symm, hB⟩
      · have e2 : min wn 20 = 20 := by omega
        have g2 : decide ((20 : Int) < (wn : Int)) = true := decide_eq_true (by omega)
        have i2 : 20 ≤ wc := by omega
        obtain ⟨p0, p1, p2, p3, p4, p5, p6, p7, p8, p9, p10, _⟩ := P2.cells11
        obtain ⟨z0, z1, z2, _⟩ := P2.free11
        go_upto_region 7 with (fail)
        have P3 := P2.setTo 2 (.slice wa 20 wc) (ds := #[.slice na 60 nc, .slice va 20 vc, .slice wa 20 wc, .int .i64 factor, .int .i64 domain, .bool a6, .int .u64 ah, .int .u64 al, .bool b6, .int .u64 bh, .int .u64 bl]) rfl
        have Q3 := Q2.far (p := ⟨w.heap.size, 2, none⟩) (by simp) (.slice wa 20 wc)
        have hW3 := below_own hW2 (Nat.le_refl _) 2 (.slice wa 20 wc)
        clear P2 Q2 hW2 p0 p1 p2 p3 p4 p5 p6 p7 p8 p9 p10 z0 z1 z2
        generalize u2.setCell ⟨w.heap.size, 2, none⟩ (.slice wa 20 wc) = u3 at *
        obtain ⟨p0, p1, p2, p3, p4, p5, p6, p7, p8, p9, p10, _⟩ := P3.cells11
        obtain ⟨r0, r1, r2, r3, r4, r5, r6, r7, r8, r9, r10, _⟩ := Q3.cells11
        obtain ⟨f0, f1, f2, f3, f4, f5, f6, f7, f8, f9, f10⟩ := Q3.free11
        go_wp2
        have hQ := Q3.turn11 (.slice na 60 nc) (.slice va 20 vc) (.slice wa 20 wc) (.int .i64 factor) (.int .i64 domain) (.bool a6) (.int .u64 ah) (.int .u64 al) (.bool b6) (.int .u64 bh) (.int .u64 bl)
        have hB := below_turn11 (g := w.heap.size + 1) hW3 (Nat.le_succ _) (.slice na 60 nc) (.slice va 20 vc) (.slice wa 20 wc) (.int .i64 factor) (.int .i64 domain) (.bool a6) (.int .u64 ah) (.int .u64 al) (.bool b6) (.int .u64 bh) (.int .u64 bl)
        have HE : FC = #[.slice na 60 nc, .slice va 20 vc, .slice wa 20 wc, .int .i64 factor, .int .i64 domain, .bool a6, .int .u64 ah, .int .u64 al, .bool b6, .int .u64 bh, .int .u64 bl] := by rw [HC.out, e0, e1, e2]
        exact bodyPost_ret (results_cell_row rfl _ _ _ _ _ (0, 0) _ rfl hQ Try.underlying33 rfl sizeConf) rfl ⟨congrArg (fun x => Ending.returned (.agg x)) HE.symm, hB⟩
end Go.Proofs.Ytceekfbhkenniaa
end
section
/- A tree that nobody made. -/
set_option linter.unusedVariables false
namespace Go.Proofs.Ytceekfbhkenniaa
open Go.RowKit
set_option maxHeartbeats 4000000
set_option maxRecDepth 100000
theorem nil_Len (w : World) : Calls Try.prog 14 #[.pointer none] w fun e w' => e = .returned (.int .i64 0) ∧ w = w' := by
  go_enter Try.func14, Try.ntmps14
  go_wp2
  go_ret
  exact ⟨rfl, rfl⟩
theorem nil_Node (i : Int) (w : World) : Calls Try.prog 15 #[.pointer none, .int .i64 i] w fun e w' => e = .returned nd0.val ∧ Below w.heap.size w w' := by
  have hA : Below w.heap.size w (w.alloc (.cells zNode 27)) := (Below.refl _ _).alloc (Nat.le_refl _) _
  have hP := Blk.new w 27 zNode
  unfold zNode at hA hP
  by_cases h0 : i < 0
  · have g1 : decide (i < 0) = true := decide_eq_true h0
    go_enter Try.func15, Try.ntmps15
    go_upto_region 1 with (fail)
    generalize w.alloc (.cells #[.string ⟨#[]⟩, .int .i64 0, .int .i64 0, .int .i64 0, .bool false, .int .u64 0, .int .u64 0] 27) = u at *
    obtain ⟨p0, p1, p2, p3, p4, p5, p6, _⟩ := hP.cells7
    obtain ⟨f0, f1, f2, f3, f4, f5, f6⟩ := hP.free7
    go_wp2
    have hQ := hP.turn7 (.string ⟨#[]⟩) (.int .i64 0) (.int .i64 0) (.int .i64 0) (.bool false) (.int .u64 0) (.int .u64 0)
    refine bodyPost_ret (results_cell_row rfl _ _ _ _ _ (0, 0) _ rfl hQ Try.underlying27 rfl sizeNode) rfl ⟨rfl, below_turn7 hA (Nat.le_refl _) _ _ _ _ _ _ _⟩
  · have g1 : decide (i < 0) = false := decide_eq_false h0
    have g2 : decide ((0 : Int) ≤ i) = true := decide_eq_true (by omega)
    go_enter Try.func15, Try.ntmps15
    go_upto_region 1 with (fail)
    generalize w.alloc (.cells #[.string ⟨#[]⟩, .int .i64 0, .int .i64 0, .int .i64 0, .bool false, .int .u64 0, .int .u64 0] 27) = u at *
    obtain ⟨p0, p1, p2, p3, p4, p5, p6, _⟩ := hP.cells7
    obtain ⟨f0, f1, f2, f3, f4, f5, f6⟩ := hP.free7
    go_wp2_with fail
    refine (nil_Len _).mono ?_; rintro e w' ⟨rfl, rfl⟩
    go_wp2
    have hQ := hP.turn7 (.string ⟨#[]⟩) (.int .i64 0) (.int .i64 0) (.int .i64 0) (.bool false) (.int .u64 0) (.int .u64 0)
    refine bodyPost_ret (results_cell_row rfl _ _ _ _ _ (0, 0) _ rfl hQ Try.underlying27 rfl sizeNode) rfl ⟨rfl, below_turn7 hA (Nat.le_refl _) _ _ _ _ _ _ _⟩
theorem nil_Levels (w : World) : Calls Try.prog 32 #[.pointer none] w fun e w' => e = .returned (.slice none 0 0) ∧ w = w' := by
  go_enter Try.func32, Try.ntmps32
  go_wp2
  go_ret
  exact ⟨rfl, rfl⟩
end Go.Proofs.Ytceekfbhkenniaa
end
section
/- Three rows that grow side by side, and a node that is turned; nodes compared. -/
set_option linter.unusedVariables false
namespace Go.Proofs.Ytceekfbhkenniaa
open Go.RowKit
set_option maxHeartbeats 4000000
set_option maxRecDepth 100000
def apart (a b : Value) : Prop := ∀ g, a.ownBlock = some g → b.ownBlock ≠ some g
theorem apart.symm {a b : Value} (h : apart a b) : apart b a := fun g hb ha => h g ha hb
theorem apart.kept {a b : Value} (h : apart a b) : a.ownBlock = none ∨ a.ownBlock ≠ b.ownBlock := by
  cases ha : a.ownBlock with
  | none => exact .inl rfl
  | some g => exact .inr (fun e => h g ha e.symm)
theorem apart_nil (v : Value) : apart (.slice none 0 0) v := fun g h => by simp [Value.ownBlock] at h
structure R3 (w : World) (B : Nat) (a b c : Value) (la lb lc : List Int) : Prop where
  ra : w.ownsRow B 3 1 a la.length (ints la)
  rb : w.ownsRow B 3 1 b lb.length (ints lb)
  rc : w.ownsRow B 3 1 c lc.length (ints lc)
  ab : apart a b
  ac : apart a c
  bc : apart b c
section
variable {w w' : World} {B : Nat} {a b c a' : Value} {la lb lc : List Int}
theorem R3.rot (h : R3 w B a b c la lb lc) : R3 w B b c a lb lc la := ⟨h.rb, h.rc, h.ra, h.bc, h.ab.symm, h.ac.symm⟩
theorem R3.rot' (h : R3 w B a b c la lb lc) : R3 w B c a b lc la lb := h.rot.rot
theorem R3.alloc (h : R3 w B a b c la lb lc) (o : Obj) : R3 (w.alloc o) B a b c la lb lc := ⟨h.ra.alloc o, h.rb.alloc o, h.rc.alloc o, h.ab, h.ac, h.bc⟩
theorem apart_new {v : Value} {base : Nat} {e : TypeId} {s n : Nat} {xs : List Value} (hv : w.ownsRow base e s v n xs) (h : apart a v) (hat : a'.ownBlock = a.ownBlock ∨ a'.ownBlock = some w.heap.size) : apart a' v := fun g hg hv' => by
  rcases hat with e | e
  · exact h g (e ▸ hg) hv'
  · rw [e] at hg
    injection hg with hg
    have := (hv.lt g hv').2
    omega
theorem R3.push (h : R3 w B a b c la lb lc) (z : Int) (hg : w.grownBy w' a.ownBlock) (hown : w'.ownsRow B 3 1 a' (la.length + 1) (ints la ++ [.int .i64 z])) (hat : a'.ownBlock = a.ownBlock ∨ a'.ownBlock = some w.heap.size) : R3 w' B a' b c (la ++ [z]) lb lc where
  ra := by simpa [ints] using hown
  rb := h.rb.kept hg h.ab.symm.kept
  rc := h.rc.kept hg h.ac.symm.kept
  ab := apart_new h.rb h.ab hat
  ac := apart_new h.rc h.ac hat
  bc := h.bc
theorem R3.setBelow (h : R3 w B a b c la lb lc) {g : Nat} (hg : g < B) (j : Nat) (u : Value) : R3 (w.setCell ⟨g, j, none⟩ u) B a b c la lb lc :=
  ⟨ownsRow_setCell_below h.ra (a := ⟨g, j, none⟩) hg u, ownsRow_setCell_below h.rb (a := ⟨g, j, none⟩) hg u, ownsRow_setCell_below h.rc (a := ⟨g, j, none⟩) hg u, h.ab, h.ac, h.bc⟩
end
def turns (w2 : World) (g : Nat) (i : Nat) : Prop := i = g ∨ w2.heap.size ≤ i
/-- The state of a loop that gathers three rows, and a node at g. -/
structure LS (w2 : World) (g : Nat) (w : World) (a b c : Value) (la lb lc : List Int) (z : Nd) : Prop where
  r3 : R3 w w2.heap.size a b c la lb lc
  blk : Blk w g 27 #[.string z.name, .int .i64 z.kind, .int .i64 z.above, .int .i64 z.weight, .bool z.six, .int .u64 z.hi, .int .u64 z.lo]
  hm : Mod (turns w2 g) w2 w
  hg : g < w2.heap.size
section
variable {w2 : World} {g : Nat} {w w' : World} {a b c a' : Value} {la lb lc : List Int} {z : Nd}
theorem LS.alloc (h : LS w2 g w a b c la lb lc z) (o : Obj) : LS w2 g (w.alloc o) a b c la lb lc z := ⟨h.r3.alloc o, h.blk.alloc o, h.hm.alloc o, h.hg⟩
theorem LS.drewN (h : LS w2 g w a b c la lb lc z) (m : Nat) : LS w2 g (w.drewN m) a b c la lb lc z := ⟨⟨h.r3.ra, h.r3.rb, h.r3.rc, h.r3.ab, h.r3.ac, h.r3.bc⟩, h.blk.drewN m, ⟨h.hm.os, h.hm.tape, h.hm.output, h.hm.size, h.hm.block⟩, h.hg⟩
theorem LS.rot (h : LS w2 g w a b c la lb lc z) : LS w2 g w b c a lb lc la z := ⟨h.r3.rot, h.blk, h.hm, h.hg⟩
theorem LS.size (h : LS w2 g w a b c la lb lc z) : w2.heap.size ≤ w.heap.size := h.hm.size
theorem LS.push (h : LS w2 g w a b c la lb lc z) (k : Int) (hg : w.grownBy w' a.ownBlock) (hown : w'.ownsRow w2.heap.size 3 1 a' (la.length + 1) (ints la ++ [.int .i64 k])) (hat : a'.ownBlock = a.ownBlock ∨ a'.ownBlock = some w.heap.size) : LS w2 g w' a' b c (la ++ [k]) lb lc z where
  r3 := h.r3.push k hg hown hat
  blk := h.blk.grown hg (blk_type h.blk h.r3.ra (by decide))
  hm := h.hm.trans ⟨hg.os, hg.tape, hg.output, hg.size, fun i hi hn => hg.block i hi (fun e => hn (.inr (own_from h.r3.ra i e.symm)))⟩
  hg := h.hg
theorem LS.turn (h : LS w2 g w a b c la lb lc z) (x : Nd) : LS w2 g (((((((w.setCell ⟨g, 0, none⟩ (.string x.name)).setCell ⟨g, 1, none⟩ (.int .i64 x.kind)).setCell ⟨g, 2, none⟩ (.int .i64 x.above)).setCell ⟨g, 3, none⟩ (.int .i64 x.weight)).setCell ⟨g, 4, none⟩ (.bool x.six)).setCell ⟨g, 5, none⟩ (.int .u64 x.hi)).setCell ⟨g, 6, none⟩ (.int .u64 x.lo)) a b c la lb lc x where
  r3 := ((((((h.r3.setBelow h.hg 0 _).setBelow h.hg 1 _).setBelow h.hg 2 _).setBelow h.hg 3 _).setBelow h.hg 4 _).setBelow h.hg 5 _).setBelow h.hg 6 _
  blk := h.blk.turn7 _ _ _ _ _ _ _
  hm := ((((((h.hm.setCell (p := ⟨g, 0, none⟩) (.inl (.inl rfl)) _).setCell (p := ⟨g, 1, none⟩) (.inl (.inl rfl)) _).setCell (p := ⟨g, 2, none⟩) (.inl (.inl rfl)) _).setCell (p := ⟨g, 3, none⟩) (.inl (.inl rfl)) _).setCell (p := ⟨g, 4, none⟩) (.inl (.inl rfl)) _).setCell (p := ⟨g, 5, none⟩) (.inl (.inl rfl)) _).setCell (p := ⟨g, 6, none⟩) (.inl (.inl rfl)) _
  hg := h.hg
end
theorem IsNodes.mod {w w' : World} {S : Nat → Prop} {A : Option Addr} {n c : Nat} {l : List Nd} (h : IsNodes w A n c l) (hx : Mod S w w') (hn : 0 < n → ∀ ad, A = some ad → ¬ S ad.block) : IsNodes w' A n c l :=
  ⟨⟨h.reads.1, fun hnn => by
    obtain ⟨ad, e, hb, hc⟩ := h.reads.2 hnn
    have hs := hn hnn ad e
    exact ⟨ad, e, Nat.lt_of_lt_of_le hb hx.size, fun j u hu => (hx.cell (by rw [block_of_add]; exact hb) (by rw [block_of_add]; exact hs)).trans (hc j u hu)⟩⟩, h.len, h.cap, h.small, h.reach, h.wf⟩
/-- Are two nodes the same? -/
def sameNd (x y : Nd) : Bool := sameName x.name y.name && x.kind == y.kind && x.above == y.above && x.weight == y.weight && sameAddr x y
theorem eq_nd (x y : Nd) (w : World) : (Op.equalIn 10000 27 x.val y.val).run Try.prog w = .ok (sameNd x y) w := by
  obtain ⟨xn, xk, xa, xw, x6, xh, xl⟩ := x
  obtain ⟨yn, yk, ya, yw, y6, yh, yl⟩ := y
  unfold Nd.val sameNd sameName sameAddr
  dsimp only
  go_simp
  (repeat' split) <;> simp_all
theorem eqG_nd (op : BinOp) (a b : Operand) (x y : Nd) (w : World) : (eqGuard op 27 a b x.val y.val).run Try.prog w = .ok () w := by
  unfold Nd.val
  go_simp
theorem run_eq_nd (x y : Nd) (w : World) : (binOp .eql 27 x.val y.val).run Try.prog w = .ok (.bool (sameNd x y)) w := by
  have h := eq_nd x y w
  unfold Nd.val at h ⊢
  rw [run_eql_struct, h]; rfl
theorem run_neq_nd (x y : Nd) (w : World) : (binOp .neq 27 x.val y.val).run Try.prog w = .ok (.bool (!sameNd x y)) w := by
  have h := eq_nd x y w
  unfold Nd.val at h ⊢
  rw [run_neq_struct, h]; rfl
theorem quiet_eq_nd {A : Act} {o : Oper} {x y : Operand} {t : TypeId} {a b : Nd} {E : Bool} {C : World → Prop} {K : Act → Prop} (hE : sameNd a b = E) (ho : o.op = .binOp .eql 27 x y t) (hx : A.eval x = .agg #[.string a.name, .int .i64 a.kind, .int .i64 a.above, .int .i64 a.weight, .bool a.six, .int .u64 a.hi, .int .u64 a.lo]) (hy : A.eval y = .agg #[.string b.name, .int .i64 b.kind, .int .i64 b.above, .int .i64 b.weight, .bool b.six, .int .u64 b.hi, .int .u64 b.lo])
    (h : K (A.put o.dst (.bool E))) : o.quiet Try.prog A C K :=
  ⟨.bool E, fun w _ => by
    unfold Oper.quietAt execOp
    have h1 := eqG_nd .eql x y a b w
    have h2 := run_eq_nd a b w
    unfold Nd.val at h1 h2
    simp only [ho, hx, hy, Sem.run_bind, h1, h2, Result.andThen_ok, Sem.run_pure, hE]
    exact ⟨rfl, rfl⟩, h⟩
theorem quiet_neq_nd {A : Act} {o : Oper} {x y : Operand} {t : TypeId} {a b : Nd} {E : Bool} {C : World → Prop} {K : Act → Prop} (hE : (!sameNd a b) = E) (ho : o.op = .binOp .neq 27 x y t) (hx : A.eval x = .agg #[.string a.name, .int .i64 a.kind, .int .i64 a.above, .int .i64 a.weight, .bool a.six, .int .u64 a.hi, .int .u64 a.lo]) (hy : A.eval y = .agg #[.string b.name, .int .i64 b.kind, .int .i64 b.above, .int .i64 b.weight, .bool b.six, .int .u64 b.hi, .int .u64 b.lo])
    (h : K (A.put o.dst (.bool E))) : o.quiet Try.prog A C K :=
  ⟨.bool E, fun w _ => by
    unfold Oper.quietAt execOp
    have h1 := eqG_nd .neq x y a b w
    have h2 := run_neq_nd a b w
    unfold Nd.val at h1 h2
    simp only [ho, hx, hy, Sem.run_bind, h1, h2, Result.andThen_ok, Sem.run_pure, hE]
    exact ⟨rfl, rfl⟩, h⟩
theorem sameNd_self (x : Nd) : sameNd x x = true := by
  unfold sameNd sameName sameAddr
  simp
end Go.Proofs.Ytceekfbhkenniaa
end
