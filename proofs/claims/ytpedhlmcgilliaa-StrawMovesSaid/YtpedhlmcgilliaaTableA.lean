/- logs.Table: fill, doSlow, Do, At. -/
import Derived.Test.YtpedhlmcgilliaaLogC
import Derived.Test.YtpedhlmcgilliaaOnce
import Derived.Test.YtpedhlmcgilliaaLists
import Derived.Test.YtpedhlmcgilliaaUnder
import Derived.StillTailTactics
import Derived.Deep.LoopGhost
set_option linter.unusedVariables false
namespace Go.Proofs.Ytpedhlmcgilliaa
open Go.RowKit
set_option maxHeartbeats 2000000
set_option maxRecDepth 100000
theorem Try.infoU64 : (Try.prog.info? 22).map (fun i => (i.zero, i.size, i.bytes)) = some (some (.int .u64 0), 1, 8) := by kernel_rfl
/-- What the table holds. -/
def drawRow (m : Nat) : Value := .int .u64 (ofN ((m : Int) + 1))
theorem ofN_at (k : Nat) (h : k < 65536) : (ofN ((k : Int) + 1) : Int) = 268435456 - (log2N (k + 1) : Int) ∧ log2N (k + 1) ≤ 268435456 := by
  have hl := log2_draw (k + 1) (by omega) (by omega)
  have : clampN ((k : Int) + 1) = k + 1 := by unfold clampN; omega
  unfold ofN
  rw [this]
  omega
theorem table_fill (b : Nat) (T : TypeId) (x0 x1 x2 x3 : Value) (w : World) (hB : Blk w b T #[x0, x1, x2, x3]) :
    Calls Try.prog 64 #[.pointer (some ⟨b, 0, none⟩)] w fun e w' => e = .returned (.tuple #[]) ∧
      ∃ g, Blk w' b T #[x0, x1, x2, .slice (some ⟨g, 0, none⟩) 65536 65536] ∧ w'.rowIs g 22 65536 drawRow ∧ w.heap.size ≤ g ∧ Mod (· = b) w w' := by
  have hlt := hB.lt
  have hmk : ∀ w : World, (Instr.makeSlice 40 (.int .i64 65536) (.int .i64 65536)).run Try.prog w = .ok (.slice (some ⟨w.heap.size, 0, none⟩) 65536 65536) (w.alloc (.cells (madeCells #[.int .u64 0] 65536) 22)) :=
    run_make_row' (P := Try.prog) 40 22 (.int .u64 0) 8 Try.underlying40 Try.infoU64 rfl .i64 .i64 65536 (by omega) (by omega)
  obtain ⟨ob, hob⟩ : ∃ ob, ob = Obj.cells (madeCells #[.int .u64 0] 65536) 22 := ⟨_, rfl⟩
  rw [← hob] at hmk
  have hB1 := hB.alloc ob
  obtain ⟨c0, c1, c2, c3, _⟩ := hB1.cells4
  obtain ⟨f0, f1, f2, f3⟩ := hB1.free4
  obtain ⟨sv, hsv⟩ : ∃ sv, sv = Value.slice (some ⟨w.heap.size, 0, none⟩) 65536 65536 := ⟨_, rfl⟩
  have hB2 := (hB.setTo 3 sv (ds := #[x0, x1, x2, sv]) rfl).alloc ob
  have hs0 : (w.setCell ⟨b, 3, none⟩ sv).heap.size = w.heap.size := by simp
  have hg1 : ((w.setCell ⟨b, 3, none⟩ sv).alloc ob).rowIs w.heap.size 22 65536 (fun _ => .int .u64 0) := by
    have := World.rowIs_made (w.setCell ⟨b, 3, none⟩ sv) (.int .u64 0) 65536 22
    rw [hs0, ← hob] at this
    exact this
  have hM2 : Mod (· = b) w ((w.setCell ⟨b, 3, none⟩ sv).alloc ob) := ((Mod.refl _ _).own 3 _).alloc _
  obtain ⟨d0, d1, d2, d3, _⟩ := hB2.cells4
  subst hsv
  clear hob hs0
  go_enter Try.func64, Try.ntmps64
  go_wp2_with fail
  clear c0 c1 c2 c3 f0 f1 f2 f3 d0 d1 d2 d3 hB1 hmk hB
  generalize (w.setCell ⟨b, 3, none⟩ (.slice (some ⟨w.heap.size, 0, none⟩) 65536 65536)).alloc ob = u at *
  generalize hG : w.heap.size = g at *
  have hne : ¬ g = b := by omega
  have HG := Lib.hid hG
  clear hG hlt
  go_loopg [12] 65536 (fun gk i wr => ∃ k : Nat, k ≤ 65536 ∧ gk = 65536 - k ∧ i = .int .i64 k ∧ Blk wr b T #[x0, x1, x2, .slice (some ⟨g, 0, none⟩) 65536 65536] ∧ wr.rowIs g 22 65536 (fun m => if m < k then drawRow m else .int .u64 0) ∧ Mod (· = b) w wr)
  case atStart => exact ⟨0, Nat.zero_le _, rfl, rfl, hB2, hg1, hM2⟩
  case round =>
    clear hB2 hg1 hM2
    obtain ⟨k, hk, rfl, rfl, hB, hg, hM⟩ := hrel
    by_cases hlt : k < 65536
    · obtain ⟨c0, c1, c2, c3, _⟩ := hB.cells4
      obtain ⟨e1, e2⟩ := ofN_at k hlt
      have hki : (k : Int) < 65536 := by omega
      have hk0 : (0 : Int) ≤ (k : Int) := by omega
      have A0 : ∀ w : World, Calls Try.prog 76 #[.int .u64 ((k : Int) + 1)] w fun e w' => e = .returned (.int .u64 (log2N (k + 1))) ∧ w' = w := fun w => (logs_Log2 (k + 1) (by omega) (by omega) w).mono fun _ _ ⟨h1, h2⟩ => ⟨h1, h2.symm⟩
      obtain ⟨D, hD⟩ : ∃ D : Int, D = 268435456 - (log2N (k + 1) : Int) := ⟨_, rfl⟩
      have hdr : drawRow k = .int .u64 D := by unfold drawRow; rw [e1, hD]
      have HDR := Lib.hid hdr
      clear e1 hdr
      generalize log2N (k + 1) = N at *
      have k1 : IntKind.u64.wrap (k : Int) = k := by rw [IntKind.wrap_u64]; omega
      have k2 : IntKind.u64.wrap ((k : Int) + 1) = (k : Int) + 1 := by rw [IntKind.wrap_u64]; omega
      have k3 : IntKind.u64.wrap (268435456 - (N : Int)) = D := by rw [IntKind.wrap_u64]; omega
      clear hD
      have hc := hg.cell hlt
      have hfz := hg.frozen k
      go_wp2_with fail
      refine wp_region_still_tail 10 (by kernel_rfl) (by kernel_rfl) ?_
      simp only [List.take_succ_cons, List.take_zero, List.drop_succ_cons, List.drop_zero]
      iterate 8 still_step
      refine wpStill_step (fun K hK => ?_)
      go_simp
      refine ⟨_, A0 _, hK _ ?_⟩
      clear hK K
      refine wpStill_step (fun K hK => ?_)
      go_simp
      refine hK _ ?_
      clear hK K
      refine wpStill_nil ?_
      change wpList _ _ _ _ _ wr.drew
      have hB2 := hB.drew
      have hg2 := hg.drew
      have hM2 := hM.drew
      clear hB hg hM hc hfz c0 c1 c2 c3 k1 k2 k3 A0
      generalize wr.drew = w2 at *
      have hc := hg2.cell hlt
      have hfz := hg2.frozen k
      go_wp2
      go_roundg (65536 - (k + 1))
      case measure => omega
      case rel =>
        refine ⟨k + 1, by omega, rfl, by go_num, hB2.far (Ne.symm hne) _, (hg2.set k _).congr ?_, hM2.fresh (by rw [HG.out]; exact Nat.le_refl _) _ _⟩
        intro m hm
        by_cases e : m = k
        · subst e
          rw [if_pos rfl, if_pos (by omega), HDR.out]
        · rw [if_neg e]
          by_cases e2 : m < k
          · rw [if_pos e2, if_pos (by omega)]
          · rw [if_neg e2, if_neg (by omega)]
    · obtain rfl : k = 65536 := by omega
      go_wp2
      go_end0
      exact ⟨rfl, g, hB, hg.congr (fun m hm => by rw [if_pos hm]), by rw [HG.out]; exact Nat.le_refl _, hM⟩
end Go.Proofs.Ytpedhlmcgilliaa
