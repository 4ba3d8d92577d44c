/- The laws StrawPicks, its example, and what is cut. -/
import Derived.Test.YtpedhlmcgilliaaStrawD
import Derived.Test.YtpedhlmcgilliaaHeld
set_option linter.unusedVariables false
namespace Go.Proofs.Ytpedhlmcgilliaa
open Go.RowKit
set_option maxHeartbeats 2000000
set_option maxRecDepth 100000
theorem straws_PickNil (key : Int) (A : Option Addr) (n c : Nat) (w : World) :
    Calls Try.prog 13 #[.pointer none, .int .u64 key, .slice A n c] w fun e w' => e = .returned (.int .i64 (-1)) ∧ w = w' := by
  go_enter Try.func13, Try.ntmps13
  go_wp2
  go_ret
  exact ⟨rfl, rfl⟩
theorem law25_few (A : Option Addr) (n c : Nat) (hn : n ≤ c) (hc : c ≤ 9223372036854775807) (w : World) :
    Calls Try.prog 12 #[.slice A n c] w fun e w' => e = .returned (.slice A (min n 30) c) ∧ w = w' := by
  by_cases h : n ≤ 30
  · have h30 : decide ((30 : Int) < (n : Int)) = false := decide_eq_false (by omega)
    have hm := Lib.hid (show n = min n 30 by omega)
    go_enter Try.func12, Try.ntmps12
    go_wp2
    go_ret
    exact ⟨by rw [← hm.out]; rfl, rfl⟩
  · have h30 : decide ((30 : Int) < (n : Int)) = true := decide_eq_true (by omega)
    have hm := Lib.hid (show 30 = min n 30 by omega)
    have h3 : 30 ≤ c := by omega
    go_enter Try.func12, Try.ntmps12
    go_wp2
    go_ret
    exact ⟨by rw [← hm.out]; rfl, rfl⟩
theorem pairs_two {w : World} {g : Nat} {T : TypeId} {a b c d : Int} (h : Blk w g T #[.int .u64 a, .int .u64 b, .int .u64 c, .int .u64 d]) (wf : ∀ p ∈ [(a, b), (c, d)], (Lit.int .u64 p.1).wf = true ∧ (Lit.int .u64 p.2).wf = true) :
    IsPairs w .u64 .u64 (some ⟨g, 0, none⟩) 2 2 [(a, b), (c, d)] where
  len := rfl
  cap := Nat.le_refl _
  small := by decide
  reach := by decide
  wf := wf
  cells := fun _ => ⟨_, rfl, h.lt, fun i p hp => by
    match i with
    | 0 => obtain rfl := Option.some.inj hp; exact ⟨h.cell 0, h.cell 1⟩
    | 1 => obtain rfl := Option.some.inj hp; exact ⟨h.cell 2, h.cell 3⟩⟩
theorem law25_awake (w : World) : Calls Try.prog 17 #[] w fun e w' => e = .returned (.bool true) ∧ Below w.heap.size w w' := by
  have hp : pickTo (lenI 7) [(1, 0), (2, 5)] 2 = 1 := by simp [pickTo]
  go_enter Try.func17, Try.ntmps17
  go_wp2_with fail
  have hT : Tab (w.alloc (.cells #[.int .u32 0, .int .i32 0, .int .u32 0, .slice none 0 0] 44)) w.heap.size 44 := .inl (Blk.new w 44 _)
  have hT1 := hT.alloc (.cells #[.int .u64 1, .int .u64 0, .int .u64 2, .int .u64 5] 25)
  have hB := Blk.new (w.alloc (.cells #[.int .u32 0, .int .i32 0, .int .u32 0, .slice none 0 0] 44)) 25 #[.int .u64 1, .int .u64 0, .int .u64 2, .int .u64 5]
  have hW : Below w.heap.size w ((w.alloc (.cells #[.int .u32 0, .int .i32 0, .int .u32 0, .slice none 0 0] 44)).alloc (.cells #[.int .u64 1, .int .u64 0, .int .u64 2, .int .u64 5] 25)) := by go_grown
  have hz : w.heap.size < ((w.alloc (.cells #[.int .u32 0, .int .i32 0, .int .u32 0, .slice none 0 0] 44)).alloc (.cells #[.int .u64 1, .int .u64 0, .int .u64 2, .int .u64 5] 25)).heap.size := by simp only [World.size_alloc]; omega
  simp only [World.size_alloc] at hB
  have hl := pairs_two hB (by intro p hp; simp at hp; rcases hp with rfl | rfl <;> decide)
  refine (straws_Pick w.heap.size _ 7 _ 2 2 _ (by decide) (by decide) _ hl (fun _ ad h => by cases h; show ¬ (w.heap.size + 1 = w.heap.size); omega) hT1).mono ?_; rintro e w' ⟨rfl, _, hm⟩
  rw [hp]
  have hW2 := below_thenMod hW (Nat.le_refl _) hm (fun i hi => by subst hi; exact Nat.le_refl _)
  go_wp2
  go_ret
  exact ⟨rfl, hW2⟩
theorem eq_frac (a b c d : Int) (w : World) : (Op.equalIn 10000 48 (.agg #[.int .u64 a, .int .u64 b]) (.agg #[.int .u64 c, .int .u64 d])).run Try.prog w = if a = c then if b = d then Result.ok true w else Result.ok false w else Result.ok false w := by
  go_simp
theorem eqG_frac (x y : Operand) (a b c d : Int) (w : World) : (eqGuard .eql 48 x y (.agg #[.int .u64 a, .int .u64 b]) (.agg #[.int .u64 c, .int .u64 d])).run Try.prog w = .ok () w := by
  go_simp
theorem eq_frac_op {A : Act} {o : Oper} {x y : Operand} {t : TypeId} {a b c d : Int} (ho : o.op = .binOp .eql 48 x y t) (hx : A.eval x = .agg #[.int .u64 a, .int .u64 b]) (hy : A.eval y = .agg #[.int .u64 c, .int .u64 d]) (hac : a = c) (hbd : b = d) (w : World) :
    (execOp A.eval o).run Try.prog w = .ok (.value (.bool true)) w := by
  have h1 := eqG_frac x y a b c d w
  have h2 := eq_frac a b c d w
  rw [if_pos hac, if_pos hbd] at h2
  unfold execOp
  simp only [ho, hx, hy, Sem.run_bind, h1, Result.andThen_ok, run_eql_struct, h2, Sem.run_pure]
theorem quiet_eq_frac {A : Act} {o : Oper} {x y : Operand} {t : TypeId} {a b c d : Int} {C : World → Prop} {K : Act → Prop} (ho : o.op = .binOp .eql 48 x y t) (hx : A.eval x = .agg #[.int .u64 a, .int .u64 b]) (hy : A.eval y = .agg #[.int .u64 c, .int .u64 d]) (hac : a = c) (hbd : b = d)
    (h : K (A.put o.dst (.bool true))) : o.quiet Try.prog A C K :=
  ⟨.bool true, fun w _ => by unfold Oper.quietAt; rw [eq_frac_op ho hx hy hac hbd w]; exact ⟨rfl, rfl⟩, h⟩
/-- The worlds in which the law asks: a table at b; all else as it was, but for b. -/
def StrawC (b : Nat) (u w' : World) : Prop := Tab w' b 44 ∧ Mod (· = b) u w'
theorem strawPicks_walk (w : World) (key : Int) (k0 : 0 ≤ key) (k1 : key < 18446744073709551616) (A : Option Addr) (n0 c : Nat) (l0 : List (Int × Int)) (hl0 : IsPairs w .u64 .u64 A n0 c l0) (xi xw : Int) (i0 : 0 ≤ xi) (i1 : xi < 18446744073709551616) (i2 : 0 ≤ xw) (i3 : xw < 18446744073709551616) :
    Calls Try.prog 3 #[.int .u64 key, .slice A n0 c, .agg #[.int .u64 xi, .int .u64 xw]] w fun e w' => e = .returned (.bool true) ∧ Below w.heap.size w w' := by
  have hx : IsNum xi xw := ⟨i0, i1, i2, i3⟩
  have hl := hl0.take (k := min n0 30) (by omega)
  have hF := fun w => law25_few A n0 c hl0.cap hl0.small w
  generalize min n0 30 = n at hl hF
  generalize l0.take n = l at hl
  have hAlt : ∀ ad, A = some ad → 0 < n → ad.block < w.heap.size := fun ad h hn => by
    obtain ⟨ad', h', hb, _⟩ := hl.cells hn
    rw [h] at h'; cases h'; exact hb
  clear hl0 l0
  go_enter Try.func3, Try.ntmps3
  go_wp2_with fail
  refine (hF _).mono ?_; rintro e w' ⟨rfl, rfl⟩
  clear hF
  go_wp2_with fail
  have hT : Tab ((w.alloc (.cells #[.int .u64 xi, .int .u64 xw] 25)).alloc (.cells #[.int .u32 0, .int .i32 0, .int .u32 0, .slice none 0 0] 44)) (w.heap.size + 1) 44 := by
    have := Blk.new (w.alloc (.cells #[.int .u64 xi, .int .u64 xw] 25)) 44 #[.int .u32 0, .int .i32 0, .int .u32 0, .slice none 0 0]
    simp only [World.size_alloc] at this
    exact .inl this
  have hX := (Blk.new w 25 #[.int .u64 xi, .int .u64 xw]).alloc (.cells #[.int .u32 0, .int .i32 0, .int .u32 0, .slice none 0 0] 44)
  have hW : Below w.heap.size w ((w.alloc (.cells #[.int .u64 xi, .int .u64 xw] 25)).alloc (.cells #[.int .u32 0, .int .i32 0, .int .u32 0, .slice none 0 0] 44)) := by go_grown
  generalize (w.alloc (.cells #[.int .u64 xi, .int .u64 xw] 25)).alloc (.cells #[.int .u32 0, .int .i32 0, .int .u32 0, .slice none 0 0] 44) = u at *
  have hAb : 0 < n → ∀ ad, A = some ad → ¬ ad.block = w.heap.size + 1 := fun hn ad h => by have := hAlt ad h hn; omega
  have hlu := hl.keep hW
  have hXb : ¬ w.heap.size = w.heap.size + 1 := by omega
  have hC0 : StrawC (w.heap.size + 1) u u.drew := ⟨hT, (Mod.refl _ _).drew⟩
  have hlp : ∀ p : Held (StrawC (w.heap.size + 1) u), IsPairs p.w .u64 .u64 A n c l := fun p => hlu.mod p.h.2 hAb
  have hXp : ∀ p : Held (StrawC (w.heap.size + 1) u), Blk p.w w.heap.size 25 #[.int .u64 xi, .int .u64 xw] := fun p => hX.mod p.h.2 hXb
  have U0 := fun p : Held (StrawC (w.heap.size + 1) u) => (hXp p).cell 0
  have U1 := fun p : Held (StrawC (w.heap.size + 1) u) => (hXp p).cell 1
  have B1 := fun p : Held (StrawC (w.heap.size + 1) u) => straws_Pick (w.heap.size + 1) 44 key A n c l k0 k1 p.w (hlp p) hAb p.h.1
  have B2 := fun p : Held (StrawC (w.heap.size + 1) u) => straws_Long (w.heap.size + 1) 44 key xi xw k0 k1 hx p.w p.h.1
  have B3 := fun p : Held (StrawC (w.heap.size + 1) u) => law_pick key A n c l k0 k1 p.w (hlp p)
  have B4 := fun p : Held (StrawC (w.heap.size + 1) u) => law_long key xi k0 k1 hx.h0 hx.h1 p.w
  have B5 := fun p : Held (StrawC (w.heap.size + 1) u) => law25_awake p.w
  have hCB : ∀ (p : Held (StrawC (w.heap.size + 1) u)) (w' : World), Below p.w.heap.size p.w w' → (StrawC (w.heap.size + 1) u) w' := fun p w' h => ⟨p.h.1.keep h, p.h.2.thenB h⟩
  have D1 : ∀ p : Held (StrawC (w.heap.size + 1) u), Calls Try.prog 13 #[.pointer (some ⟨w.heap.size + 1, 0, none⟩), .int .u64 key, .slice A n c] p.w fun e w' => e = .returned (.int .i64 (pickTo (lenI key) l n)) ∧ (StrawC (w.heap.size + 1) u) w' := fun p => (B1 p).mono fun _ _ ⟨he, ht, hm⟩ => ⟨he, ht, p.h.2.trans hm⟩
  have D2 : ∀ p : Held (StrawC (w.heap.size + 1) u), Calls Try.prog 15 #[.pointer (some ⟨w.heap.size + 1, 0, none⟩), .int .u64 key, .agg #[.int .u64 xi, .int .u64 xw]] p.w fun e w' => e = .returned (.agg #[.int .u64 (lenI key xi), .int .u64 xw]) ∧ (StrawC (w.heap.size + 1) u) w' := fun p => (B2 p).mono fun _ _ ⟨he, ht, hm⟩ => ⟨he, .inr ht, p.h.2.trans hm⟩
  have D3 : ∀ p : Held (StrawC (w.heap.size + 1) u), Calls Try.prog 14 #[.int .u64 key, .slice A n c] p.w fun e w' => e = .returned (.int .i64 (pickTo (lenI key) l n)) ∧ (StrawC (w.heap.size + 1) u) w' := fun p => (B3 p).mono fun _ _ ⟨he, hb⟩ => ⟨he, hCB p _ hb⟩
  have D4 : ∀ p : Held (StrawC (w.heap.size + 1) u), Calls Try.prog 16 #[.int .u64 key, .int .u64 xi] p.w fun e w' => e = .returned (.int .u64 (lenI key xi)) ∧ (StrawC (w.heap.size + 1) u) w' := fun p => (B4 p).mono fun _ _ ⟨he, hb⟩ => ⟨he, hCB p _ hb⟩
  have D5 : ∀ p : Held (StrawC (w.heap.size + 1) u), Calls Try.prog 17 #[] p.w fun e w' => e = .returned (.bool true) ∧ (StrawC (w.heap.size + 1) u) w' := fun p => (B5 p).mono fun _ _ ⟨he, hb⟩ => ⟨he, hCB p _ hb⟩
  have D6 : ∀ p : Held (StrawC (w.heap.size + 1) u), Calls Try.prog 13 #[.pointer none, .int .u64 key, .slice A n c] p.w fun e w' => e = .returned (.int .i64 (-1)) ∧ (StrawC (w.heap.size + 1) u) w' := fun p => (straws_PickNil key A n c p.w).mono fun _ _ ⟨he, hb⟩ => ⟨he, hb ▸ p.h⟩
  clear B1 B2 B3 B4 B5 hlp hXp hT hX
  generalize pickTo (lenI key) l n = PK at D1 D3
  generalize lenI key xi = LX at D2 D4
  haveI : Nonempty (Held (StrawC (w.heap.size + 1) u)) := ⟨⟨_, hC0⟩⟩
  clear hCB
  refine wp_region_quiet_held (C := StrawC (w.heap.size + 1) u) (by kernel_rfl) (by kernel_rfl) (hC0) ?_
  iterate 20 (go_big_quiet_step ((first | (go_at_call 13; first | (with_reducible exact calls_held (D1 _)) | (with_reducible exact calls_held (D6 _))) | (go_at_call 15; exact calls_held (D2 _)) | (go_at_call 14; exact calls_held (D3 _)) | (go_at_call 16; exact calls_held (D4 _)) | (go_at_call 17; exact calls_held (D5 _)))))
  go_big_quiet_want
  refine quiet_eq_frac rfl rfl rfl rfl rfl ?_
  simp only [Act.put, List.setIfInBounds_toArray, List.set_cons_zero, List.set_cons_succ]
  go_big_quiet_on
  repeat (go_big_quiet_step ((first | (go_at_call 13; first | (with_reducible exact calls_held (D1 _)) | (with_reducible exact calls_held (D6 _))) | (go_at_call 15; exact calls_held (D2 _)) | (go_at_call 14; exact calls_held (D3 _)) | (go_at_call 16; exact calls_held (D4 _)) | (go_at_call 17; exact calls_held (D5 _)))))
  refine wpQuiet_nil ?_
  intro wq hw'
  obtain ⟨⟨wu, hC⟩, hw''⟩ := hw'
  cases hw''
  have hW2 := below_thenMod hW (Nat.le_refl _) hC.2 (fun i hi => by subst hi; exact Nat.le_succ _)
  go_wp2
  go_ret
  exact ⟨by simp, hW2⟩
end Go.Proofs.Ytpedhlmcgilliaa
