/- logs.Table: doSlow, Do, At. -/
import Derived.Test.YtpedhlmcgilliaaTableA
set_option linter.unusedVariables false
namespace Go.Proofs.Ytpedhlmcgilliaa
open Go.RowKit
set_option maxHeartbeats 2000000
set_option maxRecDepth 100000
/-- A table that has been made. -/
def Filled (w : World) (b : Nat) (T : TypeId) : Prop := ∃ g, Blk w b T #[.int .u32 1, .int .i32 0, .int .u32 0, .slice (some ⟨g, 0, none⟩) 65536 65536] ∧ w.rowIs g 22 65536 drawRow ∧ g ≠ b
/-- A table. -/
def Tab (w : World) (b : Nat) (T : TypeId) : Prop := Blk w b T #[.int .u32 0, .int .i32 0, .int .u32 0, .slice none 0 0] ∨ Filled w b T
theorem bool_load (a : Addr) (d : Int) (r : Bool) (hr : (d != 0) = r) (w : World) (hc : w.cell? a = some (.int .u32 d)) :
    Calls Try.prog 74 #[.pointer (some a)] w fun e w' => e = .returned (.bool r) ∧ w = w' := by
  have hl := once_load a d w hc
  go_enter Try.func74, Try.ntmps74
  go_wp2
  go_ret
  exact ⟨by rw [← hr]; rfl, rfl⟩
theorem once_slow (b : Nat) (T : TypeId) (x2 x3 : Value) (w : World) (hB : Blk w b T #[.int .u32 0, .int .i32 0, x2, x3]) :
    Calls Try.prog 75 #[.pointer (some ⟨b, 0, none⟩), .func (.func 64) #[.pointer (some ⟨b, 0, none⟩)] #[]] w fun e w' => e = .returned (.tuple #[]) ∧
      ∃ g, Blk w' b T #[.int .u32 1, .int .i32 0, x2, .slice (some ⟨g, 0, none⟩) 65536 65536] ∧ w'.rowIs g 22 65536 drawRow ∧ w.heap.size ≤ g ∧ Mod (· = b) w w' := by
  have hlt := hB.lt
  obtain ⟨c0, c1, c2, c3, _⟩ := hB.cells4
  obtain ⟨f0, f1, f2, f3⟩ := hB.free4
  have hB1 := hB.setTo 1 (.int .i32 1) (ds := #[.int .u32 0, .int .i32 1, x2, x3]) rfl
  have hM1 : Mod (· = b) w (w.setCell ⟨b, 1, none⟩ (.int .i32 1)) := (Mod.refl _ _).own 1 _
  have hnot : ∀ (x : Bool) (w : World), (Op.unary .not (.bool x)).run Try.prog w = .ok (.bool (!x)) w := fun _ _ => rfl
  go_enter_defers Try.func75, Try.ntmps75
  go_wp2_with (go_at_call 79; refine (once_lock ⟨b, 1, none⟩ _ (by go_simp) (by go_simp)).mono ?_; rintro e w' ⟨rfl, rfl⟩)
  refine (bool_load ⟨b, 0, none⟩ 0 false rfl _ (hB1.cell 0)).mono ?_; rintro e w' ⟨rfl, rfl⟩
  clear c0 c1 c2 c3 f0 f1 f2 f3
  go_wp2_with fail
  refine (table_fill b T _ _ _ _ _ hB1).mono ?_; rintro e w' ⟨rfl, g, hB2, hg, hgs, hM2⟩
  have hM := hM1.trans hM2
  have hgs' : w.heap.size ≤ g := Nat.le_trans hM1.size hgs
  have hne : g ≠ b := by omega
  clear hB hB1 hM1 hM2 hgs
  go_wp2
  refine leaves_cons (f := 81) (args := #[.pointer (some ⟨b, 0, none⟩), .bool true]) (by simp) (by simp [go_sem]) ?_
  refine (once_store ⟨b, 0, none⟩ (.int .u32 0) .returning _ (hB2.cell 0) (hB2.free 0)).mono ?_
  rintro e u' w'' ⟨rfl, rfl, rfl⟩
  have hB3 := hB2.drew.setTo 0 (.int .u32 1) (ds := #[.int .u32 1, .int .i32 1, x2, .slice (some ⟨g, 0, none⟩) 65536 65536]) rfl
  refine leaves_cons (f := 80) (args := #[.pointer (some ⟨b, 1, none⟩)]) (by simp [settle]) (by simp [go_sem]) ?_
  refine (once_unlock ⟨b, 1, none⟩ _ _ (hB3.cell 1) (hB3.free 1)).mono ?_
  rintro e u' w'' ⟨rfl, rfl, rfl⟩
  have hB4 := hB3.setTo 1 (.int .i32 0) (ds := #[.int .u32 1, .int .i32 0, x2, .slice (some ⟨g, 0, none⟩) 65536 65536]) rfl
  have hM4 := ((hM.drew.own 0 (.int .u32 1)).own 1 (.int .i32 0))
  have hg4 := row_mod hg (((Mod.refl (· = b) w').drew.own 0 (.int .u32 1)).own 1 (.int .i32 0)) hne
  simp [Leaves, settle, results, Try.results75]
  exact ⟨g, hB4, hg4, hgs', hM4⟩
/-- The table is made once. -/
theorem once_do (b : Nat) (T : TypeId) (w : World) (hT : Tab w b T) :
    Calls Try.prog 63 #[.pointer (some ⟨b, 0, none⟩), .func (.func 64) #[.pointer (some ⟨b, 0, none⟩)] #[]] w fun e w' => e = .returned (.tuple #[]) ∧ Filled w' b T ∧ Mod (· = b) w w' := by
  rcases hT with hB | ⟨g, hB, hg, hne⟩
  · have hnot : ∀ (x : Bool) (w : World), (Op.unary .not (.bool x)).run Try.prog w = .ok (.bool (!x)) w := fun _ _ => rfl
    go_enter Try.func63, Try.ntmps63
    go_wp2_with fail
    refine (bool_load ⟨b, 0, none⟩ 0 false rfl _ (hB.cell 0)).mono ?_; rintro e w' ⟨rfl, rfl⟩
    go_wp2_with fail
    refine (once_slow b T _ _ _ hB).mono ?_; rintro e w' ⟨rfl, g, hB2, hg, hgs, hM⟩
    have := hB.lt
    go_wp2
    go_end0
    exact ⟨rfl, ⟨g, hB2, hg, by omega⟩, hM⟩
  · refine (once_done _ _ w (hB.cell 0)).mono ?_; rintro e w' ⟨rfl, rfl⟩
    exact ⟨rfl, ⟨g, hB, hg, hne⟩, Mod.refl _ _⟩
theorem drawRow_at (d : Int) : drawRow (clampN d - 1) = .int .u64 (ofN d) := by
  have h := clamp_bd d
  have e : ((clampN d - 1 : Nat) : Int) + 1 = (clampN d : Int) := by omega
  unfold drawRow
  rw [e]
  have : clampN (clampN d : Int) = clampN d := by unfold clampN; omega
  unfold ofN
  rw [this]
theorem table_At (b : Nat) (T : TypeId) (d : Int) (w : World) (hT : Tab w b T) :
    Calls Try.prog 45 #[.pointer (some ⟨b, 0, none⟩), .int .i64 d] w fun e w' => e = .returned (.int .u64 (ofN d)) ∧ Filled w' b T ∧ Mod (· = b) w w' := by
  have hmf : ∀ (fn : Fn) (first cap : Array Value) (w : World), (Instr.makeFunc fn first cap).run Try.prog w = .ok (.func fn first cap) w := fun _ _ _ _ => rfl
  have hc := clamp_bd d
  have hcd : min (max d 1) 65536 - 1 = ((clampN d - 1 : Nat) : Int) := by unfold clampN; omega
  have hd := drawRow_at d
  generalize clampN d - 1 = k at hcd hd
  have hk : k < 65536 := by omega
  have HD := Lib.hid hd
  clear hd hc
  go_enter Try.func45, Try.ntmps45
  go_wp2_with fail
  refine (once_do b T _ hT).mono ?_; rintro e w' ⟨rfl, ⟨g, hB, hg, hne⟩, hM⟩
  clear hT hmf
  obtain ⟨c0, c1, c2, c3, _⟩ := hB.cells4
  have hcell := hg.cell hk
  rw [HD.out] at hcell
  have k1 : IntKind.i64.wrap (min (max d 1) 65536 - 1) = (k : Int) := by rw [hcd]; exact IntWalk.i64_in _ (by omega)
  clear hcd
  go_wp2
  go_ret
  exact ⟨rfl, ⟨g, hB, hg, hne⟩, hM⟩
theorem table_At_nil (d : Int) (w : World) :
    Calls Try.prog 45 #[.pointer none, .int .i64 d] w fun e w' => e = .returned (.int .u64 0) ∧ w = w' := by
  go_enter Try.func45, Try.ntmps45
  go_wp2
  go_ret
  exact ⟨rfl, rfl⟩
end Go.Proofs.Ytpedhlmcgilliaa
