/- Lemmas for the claim's proof: ValidJ ValidK0. -/
import Derived.KernelRfl
import Derived.ChangeKeysEq
import Derived.Test.YtceekfbhkenniaaQ12
section
/- The law's awake. -/
set_option linter.unusedVariables false
namespace Go.Proofs.Ytceekfbhkenniaa
open Go.RowKit
set_option maxHeartbeats 4000000
set_option maxRecDepth 100000
def awNodes : List Nd := [⟨⟨#[108]⟩, 1, -1, 0, false, 0, 0⟩, ⟨⟨#[122]⟩, 2, 0, 0, false, 0, 0⟩, ⟨⟨#[114]⟩, 3, 1, 0, false, 0, 0⟩, ⟨⟨#[104]⟩, 4, 2, 1, false, 0, 0⟩]
theorem aw_wf : ∀ x ∈ awNodes, x.Wf := by
  intro x hx
  simp [awNodes] at hx
  rcases hx with rfl | rfl | rfl | rfl <;> constructor <;> decide
theorem aw7 (A : Option Addr) : whyI ⟨A, 4, 4, none, 0, 0, none, 0, 0, 140, 2, ⟨false, 0, 0⟩, ⟨false, 0, 0⟩, awNodes, [], []⟩ = 7 := by kernel_rfl
theorem aw0 (A : Option Addr) : whyI ⟨A, 4, 4, none, 0, 0, none, 0, 0, 140, 2, ⟨false, 0, 9⟩, ⟨false, 0, 0⟩, awNodes, [], []⟩ = 0 := by kernel_rfl
theorem i64_140 : I64 140 := ⟨by decide, by decide⟩
theorem i64_2 : I64 2 := ⟨by decide, by decide⟩
theorem u64_00 : U64 0 ∧ U64 0 := ⟨⟨by decide, by decide⟩, ⟨by decide, by decide⟩⟩
theorem u64_09 : U64 0 ∧ U64 9 := ⟨⟨by decide, by decide⟩, ⟨by decide, by decide⟩⟩
theorem addr_V4 (n : Int) (n0 : 0 ≤ n) (n1 : n < 4294967296) (w : World) : Calls Try.prog 26 #[.int .u32 n] w fun e w' => e = .returned (.agg #[.bool false, .int .u64 0, .int .u64 n]) ∧ Below w.heap.size w w' := by
  have hQ := Blk.new w 25 #[.bool false, .int .u64 0, .int .u64 n]
  have hB : Below w.heap.size w (w.alloc (.cells #[.bool false, .int .u64 0, .int .u64 n] 25)) := (Below.refl _ _).alloc (Nat.le_refl _) _
  go_enter Try.func26, Try.ntmps26
  go_wp2
  exact bodyPost_ret (results_cell_row rfl _ _ _ _ _ (0, 0) _ rfl hQ Try.underlying25 rfl sizeAddr) rfl ⟨rfl, hB⟩
theorem law19_awake (w : World) : Calls Try.prog 9 #[] w fun e w' => e = .returned (.bool true) ∧ Below w.heap.size w w' := by
  have hB := Blk.new w 27 #[.string ⟨#[108]⟩, .int .i64 1, .int .i64 (-1), .int .i64 0, .bool false, .int .u64 0, .int .u64 0, .string ⟨#[122]⟩, .int .i64 2, .int .i64 0, .int .i64 0, .bool false, .int .u64 0, .int .u64 0, .string ⟨#[114]⟩, .int .i64 3, .int .i64 1, .int .i64 0, .bool false, .int .u64 0, .int .u64 0, .string ⟨#[104]⟩, .int .i64 4, .int .i64 2, .int .i64 1, .bool false, .int .u64 0, .int .u64 0]
  have hI : IsNodes (w.alloc (.cells #[.string ⟨#[108]⟩, .int .i64 1, .int .i64 (-1), .int .i64 0, .bool false, .int .u64 0, .int .u64 0, .string ⟨#[122]⟩, .int .i64 2, .int .i64 0, .int .i64 0, .bool false, .int .u64 0, .int .u64 0, .string ⟨#[114]⟩, .int .i64 3, .int .i64 1, .int .i64 0, .bool false, .int .u64 0, .int .u64 0, .string ⟨#[104]⟩, .int .i64 4, .int .i64 2, .int .i64 1, .bool false, .int .u64 0, .int .u64 0] 27)) (some ⟨w.heap.size, 0, none⟩) 4 4 awNodes := ⟨lit_reads (xs := Go.Proofs.Ytceekfbhkenniaa.flat awNodes) hB 7 4 rfl, rfl, Nat.le_refl _, by decide, by decide, aw_wf⟩
  have hW : Below w.heap.size w (w.alloc (.cells #[.string ⟨#[108]⟩, .int .i64 1, .int .i64 (-1), .int .i64 0, .bool false, .int .u64 0, .int .u64 0, .string ⟨#[122]⟩, .int .i64 2, .int .i64 0, .int .i64 0, .bool false, .int .u64 0, .int .u64 0, .string ⟨#[114]⟩, .int .i64 3, .int .i64 1, .int .i64 0, .bool false, .int .u64 0, .int .u64 0, .string ⟨#[104]⟩, .int .i64 4, .int .i64 2, .int .i64 1, .bool false, .int .u64 0, .int .u64 0] 27)) := (Below.refl _ _).alloc (Nat.le_refl _) _
  have hsz : (w.alloc (.cells #[.string ⟨#[108]⟩, .int .i64 1, .int .i64 (-1), .int .i64 0, .bool false, .int .u64 0, .int .u64 0, .string ⟨#[122]⟩, .int .i64 2, .int .i64 0, .int .i64 0, .bool false, .int .u64 0, .int .u64 0, .string ⟨#[114]⟩, .int .i64 3, .int .i64 1, .int .i64 0, .bool false, .int .u64 0, .int .u64 0, .string ⟨#[104]⟩, .int .i64 4, .int .i64 2, .int .i64 1, .bool false, .int .u64 0, .int .u64 0] 27)).heap.size = w.heap.size + 1 := by simp
  have P := Blk.new (w.alloc (.cells #[.string ⟨#[108]⟩, .int .i64 1, .int .i64 (-1), .int .i64 0, .bool false, .int .u64 0, .int .u64 0, .string ⟨#[122]⟩, .int .i64 2, .int .i64 0, .int .i64 0, .bool false, .int .u64 0, .int .u64 0, .string ⟨#[114]⟩, .int .i64 3, .int .i64 1, .int .i64 0, .bool false, .int .u64 0, .int .u64 0, .string ⟨#[104]⟩, .int .i64 4, .int .i64 2, .int .i64 1, .bool false, .int .u64 0, .int .u64 0] 27)) 33 #[.slice (some ⟨w.heap.size, 0, none⟩) 4 4, .slice none 0 0, .slice none 0 0, .int .i64 140, .int .i64 2, .bool false, .int .u64 0, .int .u64 0, .bool false, .int .u64 0, .int .u64 0]
  rw [hsz] at P
  have hx0 : Below (w.alloc (.cells #[.string ⟨#[108]⟩, .int .i64 1, .int .i64 (-1), .int .i64 0, .bool false, .int .u64 0, .int .u64 0, .string ⟨#[122]⟩, .int .i64 2, .int .i64 0, .int .i64 0, .bool false, .int .u64 0, .int .u64 0, .string ⟨#[114]⟩, .int .i64 3, .int .i64 1, .int .i64 0, .bool false, .int .u64 0, .int .u64 0, .string ⟨#[104]⟩, .int .i64 4, .int .i64 2, .int .i64 1, .bool false, .int .u64 0, .int .u64 0] 27)).heap.size (w.alloc (.cells #[.string ⟨#[108]⟩, .int .i64 1, .int .i64 (-1), .int .i64 0, .bool false, .int .u64 0, .int .u64 0, .string ⟨#[122]⟩, .int .i64 2, .int .i64 0, .int .i64 0, .bool false, .int .u64 0, .int .u64 0, .string ⟨#[114]⟩, .int .i64 3, .int .i64 1, .int .i64 0, .bool false, .int .u64 0, .int .u64 0, .string ⟨#[104]⟩, .int .i64 4, .int .i64 2, .int .i64 1, .bool false, .int .u64 0, .int .u64 0] 27)) ((w.alloc (.cells #[.string ⟨#[108]⟩, .int .i64 1, .int .i64 (-1), .int .i64 0, .bool false, .int .u64 0, .int .u64 0, .string ⟨#[122]⟩, .int .i64 2, .int .i64 0, .int .i64 0, .bool false, .int .u64 0, .int .u64 0, .string ⟨#[114]⟩, .int .i64 3, .int .i64 1, .int .i64 0, .bool false, .int .u64 0, .int .u64 0, .string ⟨#[104]⟩, .int .i64 4, .int .i64 2, .int .i64 1, .bool false, .int .u64 0, .int .u64 0] 27)).alloc (.cells #[.slice (some ⟨w.heap.size, 0, none⟩) 4 4, .slice none 0 0, .slice none 0 0, .int .i64 140, .int .i64 2, .bool false, .int .u64 0, .int .u64 0, .bool false, .int .u64 0, .int .u64 0] 33)) := (Below.refl _ _).alloc (Nat.le_refl _) _
  have hI1 := hI.keep hx0
  have hW1 := below_step hW hx0
  have A7 := Lib.hid (aw7 (some ⟨w.heap.size, 0, none⟩))
  have A0 := Lib.hid (aw0 (some ⟨w.heap.size, 0, none⟩))
  go_enter Try.func9, Try.ntmps9
  go_upto_region 3 with (fail)
  generalize ((w.alloc (.cells #[.string ⟨#[108]⟩, .int .i64 1, .int .i64 (-1), .int .i64 0, .bool false, .int .u64 0, .int .u64 0, .string ⟨#[122]⟩, .int .i64 2, .int .i64 0, .int .i64 0, .bool false, .int .u64 0, .int .u64 0, .string ⟨#[114]⟩, .int .i64 3, .int .i64 1, .int .i64 0, .bool false, .int .u64 0, .int .u64 0, .string ⟨#[104]⟩, .int .i64 4, .int .i64 2, .int .i64 1, .bool false, .int .u64 0, .int .u64 0] 27)).alloc (.cells #[.slice (some ⟨w.heap.size, 0, none⟩) 4 4, .slice none 0 0, .slice none 0 0, .int .i64 140, .int .i64 2, .bool false, .int .u64 0, .int .u64 0, .bool false, .int .u64 0, .int .u64 0] 33)) = u at *
  clear hx0 hI hW hB hsz
  have hC7 : IsConf u ⟨some ⟨w.heap.size, 0, none⟩, 4, 4, none, 0, 0, none, 0, 0, 140, 2, ⟨false, 0, 0⟩, ⟨false, 0, 0⟩, awNodes, [], []⟩ := ⟨hI1, isRow_nil _ _, isRow_nil _ _, i64_140, i64_2, u64_00, u64_00⟩
  have N1 := valid_New ⟨some ⟨w.heap.size, 0, none⟩, 4, 4, none, 0, 0, none, 0, 0, 140, 2, ⟨false, 0, 0⟩, ⟨false, 0, 0⟩, awNodes, [], []⟩ u hC7 (show 4 ≤ 1024 by decide)
  obtain ⟨p0, p1, p2, p3, p4, p5, p6, p7, p8, p9, p10, _⟩ := P.cells11
  go_wp2_with fail
  refine N1.mono ?_
  rintro e w1 ⟨hN1, hx1⟩
  rcases hN1 with ⟨_, rfl⟩ | ⟨hz, _⟩
  · rw [A7.out]
    have P1 := P.keep hx1
    have hI2 := hI1.keep hx1
    have hW2 := below_step hW1 hx1
    clear P hI1 hW1 hx1 N1 hC7 p0 p1 p2 p3 p4 p5 p6 p7 p8 p9 p10
    go_wp2_with fail
    refine (addr_V4 9 (by decide) (by decide) _).mono ?_; rintro e w2 ⟨rfl, hx2⟩
    have P2 := P1.keep hx2
    have hI3 := hI2.keep hx2
    have hW3 := below_step hW2 hx2
    clear P1 hI2 hW2 hx2
    obtain ⟨p0, p1, p2, p3, p4, p5, p6, p7, p8, p9, p10, _⟩ := P2.cells11
    obtain ⟨f0, f1, f2, f3, f4, f5, f6, f7, f8, f9, f10⟩ := P2.free11
    go_upto_region 5 with (fail)
    have hM : Mod (· = w.heap.size + 1) w2 (((w2.setCell ⟨w.heap.size + 1, 5, none⟩ (.bool false)).setCell ⟨w.heap.size + 1, 6, none⟩ (.int .u64 0)).setCell ⟨w.heap.size + 1, 7, none⟩ (.int .u64 9)) := (((Mod.refl (· = w.heap.size + 1) w2).own 5 _).own 6 _).own 7 _
    have P3 := ((P2.setTo 5 (.bool false) rfl).setTo 6 (.int .u64 0) rfl).setTo 7 (.int .u64 9) (ds := #[.slice (some ⟨w.heap.size, 0, none⟩) 4 4, .slice none 0 0, .slice none 0 0, .int .i64 140, .int .i64 2, .bool false, .int .u64 0, .int .u64 9, .bool false, .int .u64 0, .int .u64 0]) rfl
    have hI4 := hI3.mod hM (fun _ ad e => by cases e; simp)
    have hW4 := below_own (below_own (below_own hW3 (Nat.le_succ _) 5 (.bool false)) (Nat.le_succ _) 6 (.int .u64 0)) (Nat.le_succ _) 7 (.int .u64 9)
    clear P2 hI3 hW3 hM p0 p1 p2 p3 p4 p5 p6 p7 p8 p9 p10 f0 f1 f2 f3 f4 f5 f6 f7 f8 f9 f10
    generalize ((w2.setCell ⟨w.heap.size + 1, 5, none⟩ (.bool false)).setCell ⟨w.heap.size + 1, 6, none⟩ (.int .u64 0)).setCell ⟨w.heap.size + 1, 7, none⟩ (.int .u64 9) = u4 at *
    have hC0 : IsConf u4 ⟨some ⟨w.heap.size, 0, none⟩, 4, 4, none, 0, 0, none, 0, 0, 140, 2, ⟨false, 0, 9⟩, ⟨false, 0, 0⟩, awNodes, [], []⟩ := ⟨hI4, isRow_nil _ _, isRow_nil _ _, i64_140, i64_2, u64_09, u64_00⟩
    have N2 := valid_New ⟨some ⟨w.heap.size, 0, none⟩, 4, 4, none, 0, 0, none, 0, 0, 140, 2, ⟨false, 0, 9⟩, ⟨false, 0, 0⟩, awNodes, [], []⟩ u4 hC0 (show 4 ≤ 1024 by decide)
    obtain ⟨p0, p1, p2, p3, p4, p5, p6, p7, p8, p9, p10, _⟩ := P3.cells11
    go_wp2_with fail
    refine N2.mono ?_
    rintro e w5 ⟨hN2, hx5⟩
    rcases hN2 with ⟨hz, _⟩ | ⟨_, vb, b, B1, k1, B2, k2, B3, k3, rfl, hV, hCV, hTV⟩
    · exact absurd A0.out hz
    · have hW5 := below_step hW4 hx5
      unfold vcells Conf.with at hV
      dsimp only at hV
      have v3 := hV.cell 3
      have v11 := hV.cell 11
      clear P3 hI4 hW4 hx5 N2 hC0 hV hCV p0 p1 p2 p3 p4 p5 p6 p7 p8 p9 p10
      have hL := tr_Len hTV
      have h4 : awNodes.length = 4 := rfl
      rw [h4] at hL
      go_wp2_with fail
      refine hL.mono ?_; rintro e w' ⟨rfl, rfl⟩
      go_wp2
      go_ret
      exact ⟨rfl, hW5⟩
  · rw [A7.out] at hz
    cases hz
end Go.Proofs.Ytceekfbhkenniaa
end
section
/- What is compared when configurations are: addresses, balanced addresses, views. -/
set_option linter.unusedVariables false
namespace Go.Proofs.Ytceekfbhkenniaa
open Go.RowKit
set_option maxHeartbeats 4000000
set_option maxRecDepth 100000
def sameAd (a b : Ad) : Bool := a.six == b.six && a.hi == b.hi && a.lo == b.lo
def sameVp (x y : Vp) : Bool := (x.six == y.six && x.hi == y.hi && x.lo == y.lo) && x.proto == y.proto && x.port == y.port && x.copies == y.copies && x.nat == y.nat
def sameVw (x y : Vw) : Bool := ((x.six == y.six && x.hi == y.hi && x.lo == y.lo) && x.bits == y.bits) && x.level == y.level
theorem sameVp_self (x : Vp) : sameVp x x = true := by unfold sameVp; simp
theorem sameVw_self (x : Vw) : sameVw x x = true := by unfold sameVw; simp
theorem cellsAddr : Try.prog.cellsOf 25 = 3 := by kernel_rfl
theorem eq_two (a b a' b' : Bool) (p q r s p' q' r' s' : Int) (w : World) : (Op.equalIn 10000 31 (.agg #[.bool a, .int .u64 p, .int .u64 q, .bool b, .int .u64 r, .int .u64 s]) (.agg #[.bool a', .int .u64 p', .int .u64 q', .bool b', .int .u64 r', .int .u64 s'])).run Try.prog w =
    .ok ((a == a' && p == p' && q == q') && (b == b' && r == r' && s == s')) w := by
  obtain ⟨i, hi, _⟩ := Option.map_eq_some_iff.1 sizeAddr
  rw [show (10000 : Nat) = 9999 + 1 from rfl, run_equalIn_array w 9999 _ _ Try.underlying31 hi, cellsAddr, show List.range 2 = [0, 1] from rfl]
  simp only [Op.eqItems]
  go_simp
  (repeat' split) <;> simp_all
theorem eqG_two (op : BinOp) (x y : Operand) (a b a' b' : Bool) (p q r s p' q' r' s' : Int) (w : World) : (eqGuard op 31 x y (.agg #[.bool a, .int .u64 p, .int .u64 q, .bool b, .int .u64 r, .int .u64 s]) (.agg #[.bool a', .int .u64 p', .int .u64 q', .bool b', .int .u64 r', .int .u64 s'])).run Try.prog w = .ok () w := by
  go_simp
theorem run_neq_two (a b a' b' : Bool) (p q r s p' q' r' s' : Int) (w : World) : (binOp .neq 31 (.agg #[.bool a, .int .u64 p, .int .u64 q, .bool b, .int .u64 r, .int .u64 s]) (.agg #[.bool a', .int .u64 p', .int .u64 q', .bool b', .int .u64 r', .int .u64 s'])).run Try.prog w =
    .ok (.bool (!((a == a' && p == p' && q == q') && (b == b' && r == r' && s == s')))) w := by
  rw [run_neq_struct, eq_two]; rfl
theorem eq_vp (x y : Vp) (w : World) : (Op.equalIn 10000 35 (.agg #[.bool x.six, .int .u64 x.hi, .int .u64 x.lo, .int .i64 x.proto, .int .i64 x.port, .int .i64 x.copies, .bool x.nat]) (.agg #[.bool y.six, .int .u64 y.hi, .int .u64 y.lo, .int .i64 y.proto, .int .i64 y.port, .int .i64 y.copies, .bool y.nat])).run Try.prog w = .ok (sameVp x y) w := by
  obtain ⟨x1, x2, x3, x4, x5, x6, x7⟩ := x
  obtain ⟨y1, y2, y3, y4, y5, y6, y7⟩ := y
  unfold sameVp
  dsimp only
  go_simp
  (repeat' split) <;> simp_all
theorem eqG_vp (op : BinOp) (a b : Operand) (x y : Vp) (w : World) : (eqGuard op 35 a b (.agg #[.bool x.six, .int .u64 x.hi, .int .u64 x.lo, .int .i64 x.proto, .int .i64 x.port, .int .i64 x.copies, .bool x.nat]) (.agg #[.bool y.six, .int .u64 y.hi, .int .u64 y.lo, .int .i64 y.proto, .int .i64 y.port, .int .i64 y.copies, .bool y.nat])).run Try.prog w = .ok () w := by
  go_simp
theorem quiet_neq_vp {A : Act} {o : Oper} {x y : Operand} {t : TypeId} {a b : Vp} {E : Bool} {C : World → Prop} {K : Act → Prop} (hE : (!sameVp a b) = E) (ho : o.op = .binOp .neq 35 x y t) (hx : A.eval x = .agg #[.bool a.six, .int .u64 a.hi, .int .u64 a.lo, .int .i64 a.proto, .int .i64 a.port, .int .i64 a.copies, .bool a.nat]) (hy : A.eval y = .agg #[.bool b.six, .int .u64 b.hi, .int .u64 b.lo, .int .i64 b.proto, .int .i64 b.port, .int .i64 b.copies, .bool b.nat])
    (h : K (A.put o.dst (.bool E))) : o.quiet Try.prog A C K :=
  ⟨.bool E, fun w _ => by
    unfold Oper.quietAt execOp
    simp only [ho, hx, hy, Sem.run_bind, eqG_vp .neq x y a b w, run_neq_struct, eq_vp a b w, Result.andThen_ok, Sem.run_pure, hE]
    exact ⟨rfl, rfl⟩, h⟩
theorem eq_vw (x y : Vw) (w : World) : (Op.equalIn 10000 39 (.agg #[.bool x.six, .int .u64 x.hi, .int .u64 x.lo, .int .i64 x.bits, .int .i64 x.level]) (.agg #[.bool y.six, .int .u64 y.hi, .int .u64 y.lo, .int .i64 y.bits, .int .i64 y.level])).run Try.prog w = .ok (sameVw x y) w := by
  obtain ⟨x1, x2, x3, x4, x5⟩ := x
  obtain ⟨y1, y2, y3, y4, y5⟩ := y
  unfold sameVw
  dsimp only
  go_simp
  (repeat' split) <;> simp_all
theorem eqG_vw (op : BinOp) (a b : Operand) (x y : Vw) (w : World) : (eqGuard op 39 a b (.agg #[.bool x.six, .int .u64 x.hi, .int .u64 x.lo, .int .i64 x.bits, .int .i64 x.level]) (.agg #[.bool y.six, .int .u64 y.hi, .int .u64 y.lo, .int .i64 y.bits, .int .i64 y.level])).run Try.prog w = .ok () w := by
  go_simp
theorem quiet_neq_vw {A : Act} {o : Oper} {x y : Operand} {t : TypeId} {a b : Vw} {E : Bool} {C : World → Prop} {K : Act → Prop} (hE : (!sameVw a b) = E) (ho : o.op = .binOp .neq 39 x y t) (hx : A.eval x = .agg #[.bool a.six, .int .u64 a.hi, .int .u64 a.lo, .int .i64 a.bits, .int .i64 a.level]) (hy : A.eval y = .agg #[.bool b.six, .int .u64 b.hi, .int .u64 b.lo, .int .i64 b.bits, .int .i64 b.level])
    (h : K (A.put o.dst (.bool E))) : o.quiet Try.prog A C K :=
  ⟨.bool E, fun w _ => by
    unfold Oper.quietAt execOp
    simp only [ho, hx, hy, Sem.run_bind, eqG_vw .neq x y a b w, run_neq_struct, eq_vw a b w, Result.andThen_ok, Sem.run_pure, hE]
    exact ⟨rfl, rfl⟩, h⟩
def allI {α : Type} (p : α → α → Bool) (z : α) (la lb : List α) (n : Nat) : Bool := (List.range n).all fun i => p (la.getD i z) (lb.getD i z)
theorem allI_step {α : Type} {p : α → α → Bool} {z : α} {la lb : List α} {k : Nat} (h : allI p z la lb k = true) (h2 : p (la.getD k z) (lb.getD k z) = true) : allI p z la lb (k + 1) = true := by
  unfold allI at h ⊢
  rw [List.range_succ, List.all_append, h]
  simpa using h2
theorem allI_hit {α : Type} {p : α → α → Bool} {z : α} {la lb : List α} {k n : Nat} (hk : k < n) (h2 : p (la.getD k z) (lb.getD k z) = false) : allI p z la lb n = false := by
  unfold allI
  rw [List.all_eq_false]
  exact ⟨k, List.mem_range.2 hk, by rw [h2]; decide⟩
theorem allI_self {α : Type} {p : α → α → Bool} {z : α} (hp : ∀ x, p x x = true) (l : List α) (n : Nat) : allI p z l l n = true := by
  unfold allI
  rw [List.all_eq_true]
  exact fun i _ => hp _
/-- Are two configurations the same? -/
def sameC (a b : Conf) : Bool := a.factor == b.factor && (a.domain == b.domain && ((sameAd a.s4 b.s4 && sameAd a.s6 b.s6) && (a.nn == b.nn && (a.vn == b.vn && (a.wn == b.wn && (allI sameNd nd0 a.nodes b.nodes a.nn && (allI sameVp vp0 a.vips b.vips a.vn && allI sameVw vw0 a.views b.views a.wn)))))))
theorem sameC_self (a : Conf) : sameC a a = true := by
  unfold sameC
  rw [allI_self sameNd_self, allI_self sameVp_self, allI_self sameVw_self]
  simp [sameAd]
theorem sameC_with (c : Conf) (A1 : Option Addr) (k1 : Nat) (A2 : Option Addr) (k2 : Nat) (A3 : Option Addr) (k3 : Nat) : sameC (c.with A1 k1 A2 k2 A3 k3) c = true := sameC_self c
end Go.Proofs.Ytceekfbhkenniaa
end
