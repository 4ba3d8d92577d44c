/- How long straws are, by both; which of two is shorter. -/
import Derived.Test.YtpedhlmcgilliaaTableB
import Derived.Test.YtpedhlmcgilliaaMixD
import Derived.Test.YtpedhlmcgilliaaMixA
import Derived.Test.YtpedhlmcgilliaaWideG
import Derived.Test.YtpedhlmcgilliaaPairs2
import Derived.Test.YtpedhlmcgilliaaUnder
import Derived.Test.YtpedhlmcgilliaaStrawPlain
set_option linter.unusedVariables false
namespace Go.Proofs.Ytpedhlmcgilliaa
open Go.RowKit
set_option maxHeartbeats 2000000
set_option maxRecDepth 100000
def drwI (key id : Int) : Int := mixOf key [id] / 281474976710656 + 1
/-- How long the straw of a number is, without its weight. -/
def lenI (key id : Int) : Int := ofN (drwI key id)
theorem drw_bd (key id : Int) : 1 ≤ drwI key id ∧ drwI key id ≤ 65536 := by
  have := mixOf_bd key [id]
  unfold drwI
  omega
theorem len_bd (key id : Int) : 0 ≤ lenI key id ∧ lenI key id ≤ 268435456 := by
  have := of_le (drwI key id)
  unfold lenI
  omega
theorem one_list (w : World) (t : TypeId) (id : Int) (i0 : 0 ≤ id) (i1 : id < 18446744073709551616) : IsList (w.alloc (.cells #[.int .u64 id] t)) .u64 (some ⟨w.heap.size, 0, none⟩) 1 1 [id] :=
  have h1 : (w.alloc (.cells #[.int .u64 id] t)).rowIs w.heap.size t 1 (fun _ => .int .u64 id) := ⟨_, Blk.new w t _, rfl, fun i hi => by
    have : i = 0 := by omega
    subst this
    rfl⟩
  row_list h1 [id] rfl (fun i hi => by
    have : i = 0 := by omega
    subst this
    rfl) (fun z hz => by
    have : z = id := by simpa using hz
    subst this
    simp [Lit.wf, IntKind.min, IntKind.max, IntKind.signed, IntKind.bits]; omega) (Nat.le_refl _) (by decide) (by decide)
theorem law_long (key id : Int) (k0 : 0 ≤ key) (k1 : key < 18446744073709551616) (i0 : 0 ≤ id) (i1 : id < 18446744073709551616) (w : World) :
    Calls Try.prog 16 #[.int .u64 key, .int .u64 id] w fun e w' => e = .returned (.int .u64 (lenI key id)) ∧ Below w.heap.size w w' := by
  have hb := drw_bd key id
  have hm := mixOf_bd key [id]
  have hde : drwI key id = mixOf key [id] / 281474976710656 + 1 := rfl
  have HL := Lib.hid (show lenI key id = ofN (drwI key id) from rfl)
  go_enter Try.func16, Try.ntmps16
  go_wp2_with fail
  refine (ref_Of key _ 1 1 [id] _ k0 k1 (one_list w _ id i0 i1)).mono ?_; rintro e w' ⟨rfl, rfl⟩
  have k2 : IntKind.i64.wrap (mixOf key [id] / 281474976710656) = mixOf key [id] / 281474976710656 := IntWalk.i64_in _ (by omega)
  have k3 : IntKind.i64.wrap (mixOf key [id] / 281474976710656 + 1) = drwI key id := IntWalk.i64_in _ (by omega)
  clear hde
  have A0 := fun w => ref_LogOf (drwI key id) (by omega) (by omega) w
  go_wp2_with fail
  refine (A0 _).mono ?_; rintro e w' ⟨rfl, rfl⟩
  go_wp2
  go_ret
  exact ⟨rfl, (Below.refl _ _).alloc (Nat.le_refl _) _⟩
theorem law_shorter (key ai aw bi bw : Int) (k0 : 0 ≤ key) (k1 : key < 18446744073709551616) (ha : IsNum ai aw) (hb : IsNum bi bw) (w : World) :
    Calls Try.prog 44 #[.int .u64 key, .agg #[.int .u64 ai, .int .u64 aw], .agg #[.int .u64 bi, .int .u64 bw]] w fun e w' => e = .returned (.bool (shP (lenI key) (ai, aw) (bi, bw))) ∧ Below w.heap.size w w' := by
  obtain ⟨a0, a1, a2, a3⟩ := ha
  obtain ⟨b0, b1, b2, b3⟩ := hb
  have la := len_bd key ai
  have lb := len_bd key bi
  have N1 := p_num (lenI key ai) bw (by omega) (by omega) b2 b3
  have N2 := p_num (lenI key bi) aw (by omega) (by omega) a2 a3
  have L1 := fun w => law_long key ai k0 k1 a0 a1 w
  have L2 := fun w => law_long key bi k0 k1 b0 b1 w
  have M1 := fun w => wide_Mul (lenI key ai) bw (by omega) (by omega) b2 b3 w
  have M2 := fun w => wide_Mul (lenI key bi) aw (by omega) (by omega) a2 a3 w
  have C1 := fun w => wide_Cmp _ _ _ _ N1 N2 w
  rw [p_V, p_V] at C1
  have hs : shP (lenI key) (ai, aw) (bi, bw) = (decide (cmpI (lenI key ai * bw) (lenI key bi * aw) < 0) || (cmpI (lenI key ai * bw) (lenI key bi * aw) == 0 && decide (ai < bi))) := by
    unfold shP cmpI
    simp only
    (repeat' split) <;> simp_all <;> omega
  rw [hs]
  obtain ⟨C, hC⟩ : ∃ C, C = cmpI (lenI key ai * bw) (lenI key bi * aw) := ⟨_, rfl⟩
  rw [← hC] at C1 ⊢
  clear hs N1 N2 hC M1 M2 L1 L2
  have P := (Blk.new w 25 #[.int .u64 ai, .int .u64 aw]).alloc (.cells #[.int .u64 bi, .int .u64 bw] 25)
  have Q := Blk.new (w.alloc (.cells #[.int .u64 ai, .int .u64 aw] 25)) 25 #[.int .u64 bi, .int .u64 bw]
  have hW : Below w.heap.size w ((w.alloc (.cells #[.int .u64 ai, .int .u64 aw] 25)).alloc (.cells #[.int .u64 bi, .int .u64 bw] 25)) := ((Below.refl _ _).alloc (Nat.le_refl _) _).alloc (by simp) _
  have hz : (w.alloc (.cells #[.int .u64 ai, .int .u64 aw] 25)).heap.size = w.heap.size + 1 := by simp
  rw [hz] at Q
  clear hz
  go_enter Try.func44, Try.ntmps44
  go_wp2_with fail
  generalize (w.alloc (.cells #[.int .u64 ai, .int .u64 aw] 25)).alloc (.cells #[.int .u64 bi, .int .u64 bw] 25) = u at *
  obtain ⟨p0, p1, _⟩ := P.cells2
  obtain ⟨q0, q1, _⟩ := Q.cells2
  have U0 := cell_under p0
  have U1 := cell_under p1
  have U2 := cell_under q0
  have U3 := cell_under q1
  refine wp_region_quiet_under (by kernel_rfl) (by kernel_rfl) ?_
  repeat (go_big_quiet_step ((first | (go_at_call 16; exact calls_under (law_long _ _ k0 k1 (by omega) (by omega) _)) | (go_at_call 61; exact calls_under (wide_Mul _ _ (by omega) (by omega) (by omega) (by omega) _)) | (go_at_call 62; exact calls_under (C1 _)))))
  refine wpQuiet_nil ?_
  intro wu hw'
  obtain ⟨pq, hw''⟩ := hw'
  have hU := below_eq hw''
  clear hw'' pq
  have P2 := P.keep hU
  have Q2 := Q.keep hU
  have hW2 := below_keep hW (hU.mono (by exact Nat.le_refl _))
  obtain ⟨p0, p1, _⟩ := P2.cells2
  obtain ⟨q0, q1, _⟩ := Q2.cells2
  clear U0 U1 U2 U3 P Q P2 Q2 C1 hU hW
  rcases Int.lt_trichotomy C 0 with h | h | h
  · have g1 : decide (C < 0) = true := decide_eq_true h
    go_wp2
    go_ret
    exact ⟨by simp [g1], hW2⟩
  · have g1 : decide (C < 0) = false := decide_eq_false (by omega)
    have g2 : (C == 0) = true := by simp [h]
    go_wp2
    go_ret
    exact ⟨by simp [g1, g2], hW2⟩
  · have g1 : decide (C < 0) = false := decide_eq_false (by omega)
    have g2 : (C == 0) = false := by simp; omega
    go_wp2
    go_ret
    exact ⟨by simp [g1, g2], hW2⟩
end Go.Proofs.Ytpedhlmcgilliaa
