/- A set that nobody made, and one of a tree that nobody made. -/
import Derived.Test.YtdkijmiflommeaaEligE
import Derived.Test.YtdkijmiflommeaaTreeN
set_option linter.unusedVariables false
namespace Go.Proofs.Ytdkijmiflommeaa
open Go.RowKit
set_option maxHeartbeats 4000000
set_option maxRecDepth 100000
/-- There is no set here, or it has no tree. -/
def NoSet (w : World) (v : Value) : Prop := v = .pointer none ∨ ∃ g, v = .pointer (some ⟨g, 0, none⟩) ∧ w.cell? ⟨g, 0, none⟩ = some (.pointer none)
theorem NoSet.keep {w w' : World} {v : Value} (h : NoSet w v) (hx : Below w.heap.size w w') : NoSet w' v := by
  rcases h with h | ⟨g, e, hc⟩
  · exact .inl h
  · exact .inr ⟨g, e, cell_keep hc hx⟩
theorem blk_made {w : World} {g : Nat} {v1 v2 : Value} (hg : g = w.heap.size) : Blk (w.alloc (.cells #[.pointer none, v1, v2, .slice none 0 0] 107)).drew g 107 #[.pointer none, v1, v2, .slice none 0 0] := by
  subst hg; exact Blk.new w _ _
theorem no_none {w : World} {v : Value} (h : NoSet w v) : Calls Try.prog 69 #[v] w fun e w' => e = .returned (.bool true) ∧ w = w' := by
  rcases h with rfl | ⟨g, rfl, hc⟩
  · go_enter Try.func69, Try.ntmps69
    go_wp2
    go_ret
    exact ⟨rfl, rfl⟩
  · go_enter Try.func69, Try.ntmps69
    go_wp2
    go_ret
    exact ⟨rfl, rfl⟩
theorem no_Weight {w : World} {v : Value} (h : NoSet w v) (i : Int) : Calls Try.prog 42 #[v, .int .i64 i] w fun e w' => e = .returned (.int .u64 0) ∧ w = w' := by
  have hN := no_none h
  go_enter Try.func42, Try.ntmps42
  go_wp2_with fail
  refine hN.mono ?_; rintro e w' ⟨rfl, rfl⟩
  go_wp2
  go_ret
  exact ⟨rfl, rfl⟩
theorem no_Has {w : World} {v : Value} (h : NoSet w v) (i : Int) : Calls Try.prog 43 #[v, .int .i64 i] w fun e w' => e = .returned (.bool false) ∧ w = w' := by
  have hN := no_none h
  go_enter Try.func43, Try.ntmps43
  go_wp2_with fail
  refine hN.mono ?_; rintro e w' ⟨rfl, rfl⟩
  go_wp2
  go_ret
  exact ⟨rfl, rfl⟩
theorem no_List {w : World} {v : Value} (h : NoSet w v) : Calls Try.prog 41 #[v] w fun e w' => e = .returned (.slice none 0 0) ∧ w = w' := by
  have hN := no_none h
  go_enter Try.func41, Try.ntmps41
  go_wp2_with fail
  refine hN.mono ?_; rintro e w' ⟨rfl, rfl⟩
  go_wp2
  go_ret
  exact ⟨rfl, rfl⟩
theorem no_Counts {w : World} {v : Value} (h : NoSet w v) : Calls Try.prog 47 #[v] w fun e w' => e = .returned (.tuple #[.slice none 0 0, .slice none 0 0]) ∧ w = w' := by
  have hN := no_none h
  go_enter Try.func47, Try.ntmps47
  go_wp2_with fail
  refine hN.mono ?_; rintro e w' ⟨rfl, rfl⟩
  go_wp2
  go_ret2
  exact ⟨rfl, rfl⟩
theorem no_Domains {w : World} {v : Value} (h : NoSet w v) (k : Int) : Calls Try.prog 48 #[v, .int .i64 k] w fun e w' => e = .returned (.slice none 0 0) ∧ w = w' := by
  have hN := no_none h
  go_enter Try.func48, Try.ntmps48
  go_wp2_with fail
  refine hN.mono ?_; rintro e w' ⟨rfl, rfl⟩
  go_wp2
  go_ret
  exact ⟨rfl, rfl⟩
theorem nil_Without (A : Option Addr) (n c : Nat) (w : World) : Calls Try.prog 50 #[.pointer none, .slice A n c] w fun e w' => e = .returned (.pointer none) ∧ Below w.heap.size w w' := by
  go_enter Try.func50, Try.ntmps50
  go_wp2_with fail
  refine (no_none (.inl rfl)).mono ?_; rintro e w' ⟨rfl, rfl⟩
  go_wp2
  go_ret
  exact ⟨rfl, by go_grown⟩
theorem nil_New (A : Option Addr) (n c : Nat) (w : World) : Calls Try.prog 39 #[.pointer none, .slice A n c] w fun e w' => NoSet w' (match e with | .returned v => v | _ => .pointer none) ∧ (∃ v, e = .returned v) ∧ Below w.heap.size w w' := by
  have hm1 : ∀ w, (Instr.makeSlice 63 (.int .i64 0) (.int .i64 0)).run Try.prog w = .ok (.slice (some ⟨w.heap.size, 0, none⟩) 0 0) (w.alloc (.cells (madeCells #[.int .u64 0] 0) 30)) := fun w => run_make_row' (P := Try.prog) 63 30 (.int .u64 0) 8 Try.underlying63 Try.infoU64e rfl .i64 .i64 0 (by omega) (by omega) w
  have hm2 : ∀ w, (Instr.makeSlice 105 (.int .i64 0) (.int .i64 0)).run Try.prog w = .ok (.slice (some ⟨w.heap.size, 0, none⟩) 0 0) (w.alloc (.cells (madeCells #[.bool false] 0) 4)) := fun w => run_make_row' (P := Try.prog) 105 4 (.bool false) 1 Try.underlying105 Try.infoBoole rfl .i64 .i64 0 (by omega) (by omega) w
  go_enter Try.func39, Try.ntmps39
  go_upto_region 1 with (fail)
  go_cut [5] (fun s5 wx => ∃ g v1 v2, s5 = .pointer (some ⟨g, 0, none⟩) ∧ Blk wx g 107 #[.pointer none, v1, v2, .slice none 0 0] ∧ Below w.heap.size w wx)
  case first =>
    go_region_with (go_at_call 21; refine (nil_Len _).mono ?_; rintro e w' ⟨rfl, rfl⟩)
    all_goals
      go_wp2_with fail
      go_meet
      refine ⟨_, _, _, rfl, blk_made (by simp), by go_grown⟩
  case rest =>
    obtain ⟨g, v1, v2, rfl, hB, hb⟩ := hcut
    go_wp2_with fail
    refine (nil_Hosts _).mono ?_; rintro e w' ⟨rfl, rfl⟩
    go_wp2_with fail
    go_loopg [7, 21] 0 (fun gk s7 s21 wr => s21 = .int .i64 0 ∧ wc = wr)
    case atStart => exact ⟨rfl, rfl⟩
    case round =>
      obtain ⟨rfl, rfl⟩ := hrel
      go_wp2_with fail
      refine (nil_Len _).mono ?_; rintro e w' ⟨rfl, rfl⟩
      go_wp2_with fail
      go_loopg [8] 0 (fun gk s8 wx => s8 = .int .i64 (-1) ∧ wc = wx)
      case atStart => exact ⟨rfl, rfl⟩
      case round =>
        obtain ⟨rfl, rfl⟩ := hrel
        go_wp2
        go_ret
        exact ⟨.inr ⟨g, rfl, hB.cell 0⟩, ⟨_, rfl⟩, hb⟩
theorem eligNobody_walk (w : World) (i : Int) (i0 : -9223372036854775808 ≤ i) (i1 : i ≤ 9223372036854775807) : Calls Try.prog 11 #[.int .i64 i] w fun e w' => e = .returned (.bool true) ∧ Below w.heap.size w w' := by
  go_enter Try.func11, Try.ntmps11
  go_wp2_with fail
  refine (no_Counts (.inl rfl)).mono ?_; rintro e w' ⟨rfl, rfl⟩
  go_wp2_with fail
  have hx0 : Below w.heap.size w (w.alloc (.cells #[.int .i64 i] 3)) := (Below.refl _ _).alloc (Nat.le_refl _) _
  refine (nil_New _ _ _ _).mono ?_; rintro e w1 ⟨hX, ⟨v, rfl⟩, hx1⟩
  have hX : NoSet w1 v := hX
  have hW1 := below_step hx0 hx1
  clear hx0 hx1
  go_wp2_with fail
  refine (no_Weight (.inl rfl) _).mono ?_; rintro e w' ⟨rfl, rfl⟩
  go_wp2_with fail
  refine (no_Has (.inl rfl) _).mono ?_; rintro e w' ⟨rfl, rfl⟩
  go_wp2_with fail
  refine (no_List (.inl rfl)).mono ?_; rintro e w' ⟨rfl, rfl⟩
  go_wp2_with fail
  refine (no_Domains (.inl rfl) _).mono ?_; rintro e w' ⟨rfl, rfl⟩
  go_wp2_with fail
  have hx2 : Below w1.heap.size w1 (w1.alloc (.cells #[.int .i64 i] 3)) := (Below.refl _ _).alloc (Nat.le_refl _) _
  refine (nil_Without _ _ _ _).mono ?_; rintro e w3 ⟨rfl, hx3⟩
  have hX3 := (hX.keep hx2).keep hx3
  have hW3 := below_step (below_step hW1 hx2) hx3
  clear hx2 hx3 hX hW1
  go_wp2_with fail
  refine (no_Weight hX3 _).mono ?_; rintro e w' ⟨rfl, rfl⟩
  go_wp2_with fail
  refine (no_List hX3).mono ?_; rintro e w' ⟨rfl, rfl⟩
  go_wp2_with fail
  refine (law23_awake _).mono ?_; rintro e w9 ⟨rfl, hx9⟩
  go_wp2
  go_ret
  exact ⟨rfl, below_step hW3 hx9⟩
end Go.Proofs.Ytdkijmiflommeaa
