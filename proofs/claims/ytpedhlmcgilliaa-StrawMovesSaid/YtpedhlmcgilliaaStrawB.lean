/- Straws.Long. -/
import Derived.Test.YtpedhlmcgilliaaStrawA
import Derived.Deep.RegionWith
set_option linter.unusedVariables false
namespace Go.Proofs.Ytpedhlmcgilliaa
open Go.RowKit
set_option maxHeartbeats 2000000
set_option maxRecDepth 100000
theorem Filled.keep {w w' : World} {b : Nat} {T : TypeId} (h : Filled w b T) (hx : Below w.heap.size w w') : Filled w' b T := by
  obtain ⟨g, h, hg, hne⟩ := h
  exact ⟨g, h.keep hx, row_keep hg hx, hne⟩
theorem Filled.far {w : World} {b r : Nat} {T : TypeId} {cs : Array Value} (h : Filled w b T) (R : Blk w r 48 cs) (hrb : ¬ r = b) (i : Nat) (v : Value) : Filled (w.setCell ⟨r, i, none⟩ v) b T := by
  obtain ⟨g, h, ⟨ds, hd, hr⟩, hne⟩ := h
  have hgr : g ≠ r := Blk.ne_ (t := 22) (t' := 48) hd R (by decide)
  exact ⟨g, h.far (p := ⟨r, i, none⟩) (fun e => hrb e.symm) _, ⟨ds, Blk.far (p := ⟨r, i, none⟩) (t := 22) hd hgr _, hr⟩, hne⟩
theorem Tab.keep {w w' : World} {b : Nat} {T : TypeId} (h : Tab w b T) (hx : Below w.heap.size w w') : Tab w' b T := by
  rcases h with h | h
  · exact .inl (h.keep hx)
  · exact .inr (h.keep hx)
theorem Tab.alloc {w : World} {b : Nat} {T : TypeId} (h : Tab w b T) (o : Obj) : Tab (w.alloc o) b T := h.keep ((Below.refl _ _).alloc (Nat.le_refl _) _)
theorem Tab.lt {w : World} {b : Nat} {T : TypeId} (h : Tab w b T) : b < w.heap.size := by
  rcases h with h | ⟨g, h, _⟩ <;> exact h.lt
theorem Tab.drew {w : World} {b : Nat} {T : TypeId} (h : Tab w b T) : Tab w.drew b T := h
theorem one_listD (w : World) (t : TypeId) (id : Int) (i0 : 0 ≤ id) (i1 : id < 18446744073709551616) : IsList (w.alloc (.cells #[.int .u64 id] t)).drew .u64 (some ⟨w.heap.size, 0, none⟩) 1 1 [id] :=
  (one_list w t id i0 i1).keep (Below.drew (Below.refl _ _))
theorem table_At_done (b : Nat) (T : TypeId) (d : Int) (w : World) (hF : Filled w b T) :
    Calls Try.prog 45 #[.pointer (some ⟨b, 0, none⟩), .int .i64 d] w fun e w' => e = .returned (.int .u64 (ofN d)) ∧ w = w' := by
  obtain ⟨g, hB, hg, hne⟩ := hF
  have hmf : ∀ (fn : Fn) (first cap : Array Value) (w : World), (Instr.makeFunc fn first cap).run Try.prog w = .ok (.func fn first cap) w := fun _ _ _ _ => rfl
  have hc := clamp_bd d
  have hcd : min (max d 1) 65536 - 1 = ((clampN d - 1 : Nat) : Int) := by unfold clampN; omega
  have hd := drawRow_at d
  generalize clampN d - 1 = k at hcd hd
  have hk : k < 65536 := by omega
  have HD := Lib.hid hd
  clear hd hc
  go_enter Try.func45, Try.ntmps45
  go_wp2_with fail
  refine (once_done _ _ _ (hB.cell 0)).mono ?_; rintro e w' ⟨rfl, rfl⟩
  clear hmf
  obtain ⟨c0, c1, c2, c3, _⟩ := hB.cells4
  have hcell := hg.cell hk
  rw [HD.out] at hcell
  have k1 : IntKind.i64.wrap (min (max d 1) 65536 - 1) = (k : Int) := by rw [hcd]; exact IntWalk.i64_in _ (by omega)
  clear hcd
  go_wp2
  go_ret
  exact ⟨rfl, rfl⟩
theorem straws_Long (b : Nat) (T : TypeId) (key id wt : Int) (k0 : 0 ≤ key) (k1 : key < 18446744073709551616) (hx : IsNum id wt) (w : World) (hT : Tab w b T) :
    Calls Try.prog 15 #[.pointer (some ⟨b, 0, none⟩), .int .u64 key, .agg #[.int .u64 id, .int .u64 wt]] w fun e w' => e = .returned (.agg #[.int .u64 (lenI key id), .int .u64 wt]) ∧ Filled w' b T ∧ Mod (· = b) w w' := by
  obtain ⟨i0, i1, t0, t1⟩ := hx
  have hlt := hT.lt
  have hmb := mixOf_bd key [id]
  have P := (Blk.new w 25 #[.int .u64 id, .int .u64 wt]).alloc (.cells #[.int .u64 0, .int .u64 0] 48)
  have R := Blk.new (w.alloc (.cells #[.int .u64 id, .int .u64 wt] 25)) 48 #[.int .u64 0, .int .u64 0]
  have hT1 := (hT.alloc (.cells #[.int .u64 id, .int .u64 wt] 25)).alloc (.cells #[.int .u64 0, .int .u64 0] 48)
  have hM1 : Mod (· = b) w ((w.alloc (.cells #[.int .u64 id, .int .u64 wt] 25)).alloc (.cells #[.int .u64 0, .int .u64 0] 48)) := ((Mod.refl _ _).alloc _).alloc _
  have hz : (w.alloc (.cells #[.int .u64 id, .int .u64 wt] 25)).heap.size = w.heap.size + 1 := by simp
  rw [hz] at R
  clear hz
  go_enter Try.func15, Try.ntmps15
  go_wp2_with fail
  generalize (w.alloc (.cells #[.int .u64 id, .int .u64 wt] 25)).alloc (.cells #[.int .u64 0, .int .u64 0] 48) = u at *
  obtain ⟨p0, p1, _⟩ := P.cells2
  obtain ⟨r0, r1, _⟩ := R.cells2
  have hpb : ¬ w.heap.size = b := by omega
  have hrb : ¬ w.heap.size + 1 = b := by omega
  have A1 := fun (w' : World) => mix_Of key _ 1 1 [id] _ k0 k1 (one_listD w' 22 id i0 i1)
  have A3 : ∀ v : World, Tab v b T → Calls Try.prog 45 #[.pointer (some ⟨b, 0, none⟩), .int .i64 (mixOf key [id] / 281474976710656 + 1)] v fun e w' => e = .returned (.int .u64 (lenI key id)) ∧ Filled w' b T ∧ Mod (· = b) v w' := fun v hv => table_At b T (drwI key id) v hv
  have kq : IntKind.i64.wrap (mixOf key [id] / 281474976710656 + 1) = mixOf key [id] / 281474976710656 + 1 := IntWalk.i64_in _ (by omega)
  go_region_with (first
      | (go_at_call 47; refine (A1 _).mono ?_; rintro en w' ⟨rfl, rfl⟩)
      | (go_at_call 46; refine (mix_Draw _ _ (by omega) (by omega)).mono ?_; rintro en w' ⟨rfl, rfl⟩)
      | (go_at_call 45; refine (A3 _ (Tab.drew (Tab.alloc hT1 _))).mono ?_; rintro en w' ⟨rfl, hf, hm⟩; have P2 := ((P.alloc _).drew).mod hm hpb; have R2 := ((R.alloc _).drew).mod hm hrb; have hM2 := ((hM1.alloc _).drew).trans hm; obtain ⟨p0, p1, _⟩ := P2.cells2; obtain ⟨r0, r1, _⟩ := R2.cells2; obtain ⟨f0, f1⟩ := R2.free2; clear hm P2))
  all_goals
    have g0 := Filled.far hf R2 hrb 0 (.int .u64 (lenI key id))
    have R3 := R2.setTo 0 (.int .u64 (lenI key id)) (ds := #[.int .u64 (lenI key id), .int .u64 0]) rfl
    have g1 := Filled.far g0 R3 hrb 1 (.int .u64 wt)
    have hM3 := (hM2.fresh (g := w.heap.size + 1) (by omega) 0 (.int .u64 (lenI key id))).fresh (g := w.heap.size + 1) (by omega) 1 (.int .u64 wt)
    have R4 := R3.setTo 1 (.int .u64 wt) (ds := #[.int .u64 (lenI key id), .int .u64 wt]) rfl
    obtain ⟨e0, e1, _⟩ := R4.cells2
    clear hf R2 R3 R4 g0 hM2
    go_wp2
    exact bodyPost_ret (v := .agg #[.int .u64 (lenI key id), .int .u64 wt]) (by simp [results, Try.results15, go_sem, e0, e1]) rfl ⟨rfl, g1, hM3⟩
end Go.Proofs.Ytpedhlmcgilliaa
