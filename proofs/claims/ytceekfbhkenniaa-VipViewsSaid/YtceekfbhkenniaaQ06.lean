/- Lemmas for the claim's proof: ValidA ValidB ValidC ValidD. -/
import Derived.Laws.Rows
import Derived.Test.YtceekfbhkenniaaQ04
import Derived.Test.YtceekfbhkenniaaQ05
section
/- addr.Bits, pfx.cut, pfx.Mask, pfx.Right. -/
set_option linter.unusedVariables false
namespace Go.Proofs.Ytceekfbhkenniaa
open Go.RowKit
set_option maxHeartbeats 4000000
set_option maxRecDepth 100000
theorem Blk.turn3 {u : World} {g : Nat} {T : TypeId} {a0 a1 a2 : Value} (h : Blk u g T #[a0, a1, a2]) (v0 v1 v2 : Value) :
    Blk (((u.setCell ⟨g, 0, none⟩ v0).setCell ⟨g, 1, none⟩ v1).setCell ⟨g, 2, none⟩ v2) g T #[v0, v1, v2] := ((h.setTo 0 v0 rfl).setTo 1 v1 rfl).setTo 2 v2 rfl
theorem sizeAddr : (Try.prog.info? 25).map (·.size) = some 3 := by kernel_rfl
theorem addr_Bits (six : Bool) (hi lo : Int) (w : World) :
    Calls Try.prog 47 #[.agg #[.bool six, .int .u64 hi, .int .u64 lo]] w fun e w' => e = .returned (.int .i64 (if six = true then 128 else 32)) ∧ Below w.heap.size w w' := by
  cases six
  all_goals
    go_enter Try.func47, Try.ntmps47
    go_wp2
    go_ret
    exact ⟨rfl, (Below.refl _ _).alloc (Nat.le_refl _) _⟩
theorem pfx_cut (b : Int) (b0 : 0 ≤ b) (b1 : b ≤ 64) (w : World) :
    Calls Try.prog 48 #[.int .i64 b] w fun e w' => e = .returned (.int .u64 (cutI b)) ∧ w = w' := by
  by_cases h : b = 0
  · subst h
    go_enter Try.func48, Try.ntmps48
    go_wp2
    go_ret
    exact ⟨rfl, rfl⟩
  · have g : (b == 0) = false := by rw [beq_eq_false_iff_ne]; exact h
    go_enter Try.func48, Try.ntmps48
    go_wp2
    go_ret
    exact ⟨by unfold cutI; rw [if_neg h]; rfl, rfl⟩
theorem pfx_Mask4 (hi lo b : Int) (b0 : 0 ≤ b) (b1 : b ≤ 32) (w : World) :
    Calls Try.prog 41 #[.agg #[.bool false, .int .u64 hi, .int .u64 lo], .int .i64 b] w fun e w' => e = .returned (.agg #[.bool false, .int .u64 hi, .int .u64 (keepLo4 lo b)]) ∧ Below w.heap.size w w' := by
  have P := (Blk.new w 25 #[.bool false, .int .u64 hi, .int .u64 lo]).alloc (.cells #[.bool false, .int .u64 0, .int .u64 0] 25)
  have Q := Blk.new (w.alloc (.cells #[.bool false, .int .u64 hi, .int .u64 lo] 25)) 25 #[.bool false, .int .u64 0, .int .u64 0]
  have hsz : (w.alloc (.cells #[.bool false, .int .u64 hi, .int .u64 lo] 25)).heap.size = w.heap.size + 1 := by simp
  rw [hsz] at Q
  have hW : Below w.heap.size w ((w.alloc (.cells #[.bool false, .int .u64 hi, .int .u64 lo] 25)).alloc (.cells #[.bool false, .int .u64 0, .int .u64 0] 25)) := ((Below.refl _ _).alloc (Nat.le_refl _) _).alloc (by simp) _
  go_enter Try.func41, Try.ntmps41
  go_wp2_with fail
  generalize ((w.alloc (.cells #[.bool false, .int .u64 hi, .int .u64 lo] 25)).alloc (.cells #[.bool false, .int .u64 0, .int .u64 0] 25)) = u at *
  clear hsz
  refine (addr_Bits _ _ _ _).mono ?_; rintro e w1 ⟨rfl, hx⟩
  have P1 := P.keep hx
  have Q1 := Q.keep hx
  have hW1 := below_step hW hx
  clear P Q hW hx
  obtain ⟨p0, p1, p2, _⟩ := P1.cells3
  go_upto_region 4 with (fail)
  have U0 := cell_under p2
  have CC := fun w => pfx_cut (b + 32) (by omega) (by omega) w
  refine wp_region_under_tail 5 (by kernel_rfl) (by kernel_rfl) ?_
  simp only [List.take_succ_cons, List.take_zero, List.drop_succ_cons, List.drop_zero]
  repeat (go_big_quiet_step (((go_at_call 48; exact calls_under_same (CC _)))))
  refine wpQuiet_nil ?_
  intro wu hw'
  obtain ⟨pq, hw''⟩ := hw'
  have hU := below_eq hw''
  clear hw'' pq
  have hz := hU.size
  obtain ⟨e0, e1, e2, _⟩ := (P1.keep hU).cells3
  obtain ⟨z0, z1, z2⟩ := (P1.keep hU).free3
  have P2 := (P1.keep hU).setTo 2 (.int .u64 (bits .and .u64 lo (cutI (b + 32)))) (ds := #[.bool false, .int .u64 hi, .int .u64 (bits .and .u64 lo (cutI (b + 32)))]) rfl
  have Q2 := (Q1.keep hU).far (p := ⟨w.heap.size, 2, none⟩) (by simp) (.int .u64 (bits .and .u64 lo (cutI (b + 32))))
  obtain ⟨r0, r1, r2, _⟩ := P2.cells3
  obtain ⟨q0, q1, q2, _⟩ := Q2.cells3
  obtain ⟨y0, y1, y2⟩ := Q2.free3
  go_wp2
  have hQ := Q2.turn3 (.bool false) (.int .u64 hi) (.int .u64 (bits .and .u64 lo (cutI (b + 32))))
  have hB := below_own (below_own (below_own (below_own (hW1.trans (hU.mono hW1.size)) (Nat.le_refl _) 2 (.int .u64 (bits .and .u64 lo (cutI (b + 32))))) (Nat.le_succ _) 0 (.bool false)) (Nat.le_succ _) 1 (.int .u64 hi)) (Nat.le_succ _) 2 (.int .u64 (bits .and .u64 lo (cutI (b + 32))))
  exact bodyPost_ret (results_cell_row rfl _ _ _ _ _ (0, 0) _ rfl hQ Try.underlying25 rfl sizeAddr) rfl ⟨rfl, hB⟩
theorem pfx_Mask6 (hi lo b : Int) (b0 : 0 ≤ b) (b1 : b ≤ 128) (w : World) :
    Calls Try.prog 41 #[.agg #[.bool true, .int .u64 hi, .int .u64 lo], .int .i64 b] w fun e w' => e = .returned (.agg #[.bool true, .int .u64 (keepHi hi b), .int .u64 (keepLo lo b)]) ∧ Below w.heap.size w w' := by
  have P := (Blk.new w 25 #[.bool true, .int .u64 hi, .int .u64 lo]).alloc (.cells #[.bool false, .int .u64 0, .int .u64 0] 25)
  have Q := Blk.new (w.alloc (.cells #[.bool true, .int .u64 hi, .int .u64 lo] 25)) 25 #[.bool false, .int .u64 0, .int .u64 0]
  have hsz : (w.alloc (.cells #[.bool true, .int .u64 hi, .int .u64 lo] 25)).heap.size = w.heap.size + 1 := by simp
  rw [hsz] at Q
  have hW : Below w.heap.size w ((w.alloc (.cells #[.bool true, .int .u64 hi, .int .u64 lo] 25)).alloc (.cells #[.bool false, .int .u64 0, .int .u64 0] 25)) := ((Below.refl _ _).alloc (Nat.le_refl _) _).alloc (by simp) _
  go_enter Try.func41, Try.ntmps41
  go_wp2_with fail
  generalize ((w.alloc (.cells #[.bool true, .int .u64 hi, .int .u64 lo] 25)).alloc (.cells #[.bool false, .int .u64 0, .int .u64 0] 25)) = u at *
  clear hsz
  refine (addr_Bits _ _ _ _).mono ?_; rintro e w1 ⟨rfl, hx⟩
  have P1 := P.keep hx
  have Q1 := Q.keep hx
  have hW1 := below_step hW hx
  clear P Q hW hx
  obtain ⟨p0, p1, p2, _⟩ := P1.cells3
  go_upto_region 6 with (fail)
  have U0 := cell_under p1
  refine wp_region_under_tail 6 (by kernel_rfl) (by kernel_rfl) ?_
  simp only [List.take_succ_cons, List.take_zero, List.drop_succ_cons, List.drop_zero]
  repeat (go_big_quiet_step (((go_at_call 48; exact calls_under_same (pfx_cut _ (by omega) (by omega) _)))))
  refine wpQuiet_nil ?_
  intro wu hw'
  obtain ⟨pq, hw''⟩ := hw'
  have hU := below_eq hw''
  clear hw'' pq
  obtain ⟨e0, e1, e2, _⟩ := (P1.keep hU).cells3
  obtain ⟨z0, z1, z2⟩ := (P1.keep hU).free3
  have P2 := (P1.keep hU).setTo 1 (.int .u64 (bits .and .u64 hi (cutI (if 64 < b then 64 else b)))) (ds := #[.bool true, .int .u64 (bits .and .u64 hi (cutI (if 64 < b then 64 else b))), .int .u64 lo]) rfl
  have Q2 := (Q1.keep hU).far (p := ⟨w.heap.size, 1, none⟩) (by simp) (.int .u64 (bits .and .u64 hi (cutI (if 64 < b then 64 else b))))
  have hW2 := below_own (hW1.trans (hU.mono hW1.size)) (Nat.le_refl _) 1 (.int .u64 (bits .and .u64 hi (cutI (if 64 < b then 64 else b))))
  clear P1 Q1 hW1 p0 p1 p2 U0
  go_upto_region 7 with (fail)
  clear e0 e1 e2 z0 z1 z2 hU
  generalize wu.setCell ⟨w.heap.size, 1, none⟩ (.int .u64 (bits .and .u64 hi (cutI (if 64 < b then 64 else b)))) = u2 at *
  obtain ⟨X, hX⟩ : ∃ X, X = bits .and .u64 hi (cutI (if 64 < b then 64 else b)) := ⟨_, rfl⟩
  rw [← hX] at P2 ⊢
  obtain ⟨p0, p1, p2, _⟩ := P2.cells3
  have U0 := cell_under p2
  refine wp_region_under_tail 7 (by kernel_rfl) (by kernel_rfl) ?_
  simp only [List.take_succ_cons, List.take_zero, List.drop_succ_cons, List.drop_zero]
  repeat (go_big_quiet_step (((go_at_call 48; exact calls_under_same (pfx_cut _ (by omega) (by omega) _)))))
  refine wpQuiet_nil ?_
  intro wv hw'
  obtain ⟨pq, hw''⟩ := hw'
  have hU := below_eq hw''
  clear hw'' pq
  obtain ⟨e0, e1, e2, _⟩ := (P2.keep hU).cells3
  obtain ⟨z0, z1, z2⟩ := (P2.keep hU).free3
  have P3 := (P2.keep hU).setTo 2 (.int .u64 (bits .and .u64 lo (cutI (if b - 64 < 0 then 0 else b - 64)))) (ds := #[.bool true, .int .u64 X, .int .u64 (bits .and .u64 lo (cutI (if b - 64 < 0 then 0 else b - 64)))]) rfl
  have Q3 := (Q2.keep hU).far (p := ⟨w.heap.size, 2, none⟩) (by simp) (.int .u64 (bits .and .u64 lo (cutI (if b - 64 < 0 then 0 else b - 64))))
  have hW3 := below_own (hW2.trans (hU.mono hW2.size)) (Nat.le_refl _) 2 (.int .u64 (bits .and .u64 lo (cutI (if b - 64 < 0 then 0 else b - 64))))
  clear p0 p1 p2 U0 P2 Q2 hW2
  have HX := Lib.hid hX
  clear hX
  go_upto_region 8 with (fail)
  clear e0 e1 e2 z0 z1 z2 hU
  generalize wv.setCell ⟨w.heap.size, 2, none⟩ (.int .u64 (bits .and .u64 lo (cutI (if b - 64 < 0 then 0 else b - 64)))) = u3 at *
  obtain ⟨Y, hY⟩ : ∃ Y, Y = bits .and .u64 lo (cutI (if b - 64 < 0 then 0 else b - 64)) := ⟨_, rfl⟩
  rw [← hY] at P3 ⊢
  have HY := Lib.hid hY
  clear hY
  have hE : (.agg #[.bool true, .int .u64 (keepHi hi b), .int .u64 (keepLo lo b)] : Value) = .agg #[.bool true, .int .u64 X, .int .u64 Y] := by rw [HX.out, HY.out]; rfl
  have HE := Lib.hid hE
  clear hE
  obtain ⟨r0, r1, r2, _⟩ := P3.cells3
  obtain ⟨q0, q1, q2, _⟩ := Q3.cells3
  obtain ⟨y0, y1, y2⟩ := Q3.free3
  generalize (if 64 < b then 64 else b : Int) = z1
  generalize (if b - 64 < 0 then 0 else b - 64 : Int) = z2
  go_wp2
  have hQ := Q3.turn3 (.bool true) (.int .u64 X) (.int .u64 Y)
  have hB := below_own (below_own (below_own hW3 (Nat.le_succ _) 0 (.bool true)) (Nat.le_succ _) 1 (.int .u64 X)) (Nat.le_succ _) 2 (.int .u64 Y)
  exact bodyPost_ret (results_cell_row rfl _ _ _ _ _ (0, 0) _ rfl hQ Try.underlying25 rfl sizeAddr) rfl ⟨congrArg Ending.returned HE.out.symm, hB⟩
theorem pfx_Right (six : Bool) (hi lo b : Int) (w : World) :
    Calls Try.prog 40 #[.agg #[.bool six, .int .u64 hi, .int .u64 lo, .int .i64 b]] w fun e w' => e = .returned (.bool (pfxOk six hi lo b)) ∧ Below w.heap.size w w' := by
  have P := Blk.new w 37 #[.bool six, .int .u64 hi, .int .u64 lo, .int .i64 b]
  have hW : Below w.heap.size w (w.alloc (.cells #[.bool six, .int .u64 hi, .int .u64 lo, .int .i64 b] 37)) := (Below.refl _ _).alloc (Nat.le_refl _) _
  go_enter Try.func40, Try.ntmps40
  go_upto_region 1 with (fail)
  generalize w.alloc (.cells #[.bool six, .int .u64 hi, .int .u64 lo, .int .i64 b] 37) = u at *
  obtain ⟨p0, p1, p2, p3, _⟩ := P.cells4
  have U0 := cell_under p0
  have U1 := cell_under p1
  have U2 := cell_under p2
  have U3 := cell_under p3
  have CR := fun w => addr_Right six hi lo w
  have HP := Lib.hid (show pfxOk six hi lo b = (addrOk six hi lo && decide (0 ≤ b) && decide (b ≤ if six = true then 128 else 32) && (if six = true then keepHi hi b == hi && keepLo lo b == lo else keepLo4 lo b == lo)) from rfl)
  clear P p0 p1 p2 p3
  cases hA : addrOk six hi lo with
  | false =>
    rw [hA] at CR
    refine wp_region_quiet_under (by kernel_rfl) (by kernel_rfl) ?_
    repeat (go_big_quiet_step (((go_at_call 34; exact calls_under (CR _)))))
    refine wpQuiet_nil ?_
    intro wu hw'
    obtain ⟨pq, hw''⟩ := hw'
    have hU := below_eq hw''
    clear hw'' pq
    go_wp2
    go_ret
    exact ⟨by rw [HP.out, hA]; rfl, hW.trans (hU.mono hW.size)⟩
  | true =>
    rw [hA] at CR
    by_cases h0 : 0 ≤ b
    · have g0 : decide (0 ≤ b) = true := decide_eq_true h0
      cases six with
      | false =>
        have CB : ∀ w, Calls Try.prog 47 #[.agg #[.bool false, .int .u64 hi, .int .u64 lo]] w fun e w' => e = .returned (.int .i64 32) ∧ Below w.heap.size w w' := fun w => addr_Bits false hi lo w
        by_cases h1 : b ≤ 32
        · have g1 : decide (b ≤ 32) = true := decide_eq_true h1
          have CM := fun w => pfx_Mask4 hi lo b h0 h1 w
          have HE0 : pfxOk false hi lo b = (keepLo4 lo b == lo) := by rw [HP.out, hA, g0]; simp [h1]
          clear HP
          obtain ⟨E, hE⟩ : ∃ E, E = (keepLo4 lo b == lo) := ⟨_, rfl⟩
          have HQ : (false == false && hi == hi && keepLo4 lo b == lo) = E := by rw [hE]; simp
          rw [← hE] at HE0
          have HE := Lib.hid HE0
          clear hE HE0
          refine wp_region_quiet_under (by kernel_rfl) (by kernel_rfl) ?_
          repeat (go_big_quiet_step ((first | (go_at_call 34; exact calls_under (CR _)) | (go_at_call 47; exact calls_under (CB _)) | (go_at_call 41; exact calls_under (CM _)))))
          go_big_quiet_want
          refine quiet_eq_addr HQ rfl rfl rfl ?_
          simp only [Act.put, List.setIfInBounds_toArray, List.set_cons_zero, List.set_cons_succ]
          go_big_quiet_on
          repeat (go_big_quiet_step (fail))
          refine wpQuiet_nil ?_
          intro wu hw'
          obtain ⟨pq, hw''⟩ := hw'
          have hU := below_eq hw''
          clear hw'' pq
          go_wp2
          go_ret
          exact ⟨by rw [HE.out]; rfl, hW.trans (hU.mono hW.size)⟩
        · have g1 : decide (b ≤ 32) = false := decide_eq_false h1
          have HE := Lib.hid (show pfxOk false hi lo b = false by rw [HP.out, hA, g0]; simp [h1])
          clear HP
          refine wp_region_quiet_under (by kernel_rfl) (by kernel_rfl) ?_
          repeat (go_big_quiet_step (((first | (go_at_call 34; exact calls_under (CR _)) | (go_at_call 47; exact calls_under (CB _))))))
          refine wpQuiet_nil ?_
          intro wu hw'
          obtain ⟨pq, hw''⟩ := hw'
          have hU := below_eq hw''
          clear hw'' pq
          go_wp2
          go_ret
          exact ⟨by rw [HE.out]; rfl, hW.trans (hU.mono hW.size)⟩
      | true =>
        have CB : ∀ w, Calls Try.prog 47 #[.agg #[.bool true, .int .u64 hi, .int .u64 lo]] w fun e w' => e = .returned (.int .i64 128) ∧ Below w.heap.size w w' := fun w => addr_Bits true hi lo w
        by_cases h1 : b ≤ 128
        · have g1 : decide (b ≤ 128) = true := decide_eq_true h1
          have CM := fun w => pfx_Mask6 hi lo b h0 h1 w
          have HE0 : pfxOk true hi lo b = (keepHi hi b == hi && keepLo lo b == lo) := by rw [HP.out, hA, g0]; simp [h1]
          clear HP
          obtain ⟨E, hE⟩ : ∃ E, E = (keepHi hi b == hi && keepLo lo b == lo) := ⟨_, rfl⟩
          have HQ : (true == true && keepHi hi b == hi && keepLo lo b == lo) = E := by rw [hE]; simp
          rw [← hE] at HE0
          have HE := Lib.hid HE0
          clear hE HE0
          refine wp_region_quiet_under (by kernel_rfl) (by kernel_rfl) ?_
          repeat (go_big_quiet_step ((first | (go_at_call 34; exact calls_under (CR _)) | (go_at_call 47; exact calls_under (CB _)) | (go_at_call 41; exact calls_under (CM _)))))
          go_big_quiet_want
          refine quiet_eq_addr HQ rfl rfl rfl ?_
          simp only [Act.put, List.setIfInBounds_toArray, List.set_cons_zero, List.set_cons_succ]
          go_big_quiet_on
          repeat (go_big_quiet_step (fail))
          refine wpQuiet_nil ?_
          intro wu hw'
          obtain ⟨pq, hw''⟩ := hw'
          have hU := below_eq hw''
          clear hw'' pq
          go_wp2
          go_ret
          exact ⟨by rw [HE.out]; rfl, hW.trans (hU.mono hW.size)⟩
        · have g1 : decide (b ≤ 128) = false := decide_eq_false h1
          have HE := Lib.hid (show pfxOk true hi lo b = false by rw [HP.out, hA, g0]; simp [h1])
          clear HP
          refine wp_region_quiet_under (by kernel_rfl) (by kernel_rfl) ?_
          repeat (go_big_quiet_step (((first | (go_at_call 34; exact calls_under (CR _)) | (go_at_call 47; exact calls_under (CB _))))))
          refine wpQuiet_nil ?_
          intro wu hw'
          obtain ⟨pq, hw''⟩ := hw'
          have hU := below_eq hw''
          clear hw'' pq
          go_wp2
          go_ret
          exact ⟨by rw [HE.out]; rfl, hW.trans (hU.mono hW.size)⟩
    · have g0 : decide (0 ≤ b) = false := decide_eq_false h0
      refine wp_region_quiet_under (by kernel_rfl) (by kernel_rfl) ?_
      repeat (go_big_quiet_step (((go_at_call 34; exact calls_under (CR _)))))
      refine wpQuiet_nil ?_
      intro wu hw'
      obtain ⟨pq, hw''⟩ := hw'
      have hU := below_eq hw''
      clear hw'' pq
      go_wp2
      go_ret
      exact ⟨by rw [HP.out, hA, g0]; rfl, hW.trans (hU.mono hW.size)⟩
end Go.Proofs.Ytceekfbhkenniaa
end
section
/- valid.vip and valid.view. -/
set_option linter.unusedVariables false
namespace Go.Proofs.Ytceekfbhkenniaa
open Go.RowKit
set_option maxHeartbeats 4000000
set_option maxRecDepth 100000
theorem vip_cases (v : Vp) (h : vipHead v = 0) : addrOk v.six v.hi v.lo = true ∧ 0 ≤ v.port ∧ v.port ≤ 65535 ∧ ((v.proto = 6 ∧ v.copies = 1) ∨ (v.proto = 17 ∧ v.copies = 1) ∨ (v.proto = 17 ∧ 1 < v.copies ∧ v.copies ≤ 8)) := by
  unfold vipHead at h
  grind
theorem vh5 {six nat : Bool} {hi lo p port copies : Int} (hA : addrOk six hi lo = true) (hp : p = 6 ∨ p = 17) (h : port < 0 ∨ 65535 < port ∨ copies < 1 ∨ 8 < copies ∨ (1 < copies ∧ p = 6)) : vipHead ⟨six, hi, lo, p, port, copies, nat⟩ = 5 := by
  unfold vipHead
  dsimp only
  rw [if_neg (by rw [hA]; decide), if_neg (by omega), if_pos (by omega)]
theorem vh14 {six nat : Bool} {hi lo p port copies : Int} (hA : addrOk six hi lo = true) (h6 : p ≠ 6) (h17 : p ≠ 17) : vipHead ⟨six, hi, lo, p, port, copies, nat⟩ = 14 := by
  unfold vipHead
  dsimp only
  rw [if_neg (by rw [hA]; decide), if_pos ⟨h6, h17⟩]
theorem vh0 {six nat : Bool} {hi lo p port copies : Int} (hA : addrOk six hi lo = true) (hp : p = 6 ∨ p = 17) (h0 : 0 ≤ port) (h1 : port ≤ 65535) (h2 : 1 ≤ copies) (h3 : copies ≤ 8) (h4 : copies ≤ 1 ∨ p = 17) : vipHead ⟨six, hi, lo, p, port, copies, nat⟩ = 0 := by
  unfold vipHead
  dsimp only
  rw [if_neg (by rw [hA]; decide), if_neg (by omega), if_neg (by omega)]
theorem valid_vipBad (v : Vp) (A : Option Addr) (n c : Nat) (w : World) (h : vipHead v ≠ 0) :
    Calls Try.prog 30 #[.agg #[.bool v.six, .int .u64 v.hi, .int .u64 v.lo, .int .i64 v.proto, .int .i64 v.port, .int .i64 v.copies, .bool v.nat], .slice A n c] w fun e w' => e = .returned (.int .i64 (vipHead v)) ∧ Below w.heap.size w w' := by
  obtain ⟨six, hi, lo, proto, port, copies, nat⟩ := v
  have HV := Lib.hid (show vipHead ⟨six, hi, lo, proto, port, copies, nat⟩ = (if addrOk six hi lo = false then 18 else if proto ≠ 6 ∧ proto ≠ 17 then 14 else if port < 0 ∨ 65535 < port ∨ copies < 1 ∨ 8 < copies ∨ (1 < copies ∧ proto ≠ 17) then 5 else 0) from rfl)
  have H0 := Lib.hid h
  clear h
  dsimp only at *
  have P := Blk.new w 35 #[.bool six, .int .u64 hi, .int .u64 lo, .int .i64 proto, .int .i64 port, .int .i64 copies, .bool nat]
  have hW : Below w.heap.size w (w.alloc (.cells #[.bool six, .int .u64 hi, .int .u64 lo, .int .i64 proto, .int .i64 port, .int .i64 copies, .bool nat] 35)) := (Below.refl _ _).alloc (Nat.le_refl _) _
  go_enter Try.func30, Try.ntmps30
  go_wp2_with fail
  generalize w.alloc (.cells #[.bool six, .int .u64 hi, .int .u64 lo, .int .i64 proto, .int .i64 port, .int .i64 copies, .bool nat] 35) = u at *
  refine (addr_Right six hi lo _).mono ?_; rintro e w1 ⟨rfl, hx⟩
  have P1 := P.keep hx
  have hW1 := below_step hW hx
  clear P hW hx
  obtain ⟨p0, p1, p2, p3, p4, p5, p6, _⟩ := P1.cells7
  cases hA : addrOk six hi lo with
  | false =>
    have HE := Lib.hid (show vipHead ⟨six, hi, lo, proto, port, copies, nat⟩ = 18 by rw [HV.out, if_pos hA])
    clear HV H0 hA
    go_wp2
    go_ret
    exact ⟨by rw [HE.out]; rfl, hW1⟩
  | true =>
    clear HV P1
    have hcs : proto = 6 ∨ proto = 17 ∨ (proto ≠ 6 ∧ proto ≠ 17) := by omega
    rcases hcs with rfl | rfl | ⟨q1, q2⟩
    · have W5 := Lib.hid (fun (h : port < 0 ∨ 65535 < port ∨ copies < 1 ∨ 1 < copies) => vh5 (nat := nat) (port := port) (copies := copies) hA (.inl rfl) (by omega))
      have W0 := Lib.hid (fun (a : 0 ≤ port ∧ port ≤ 65535 ∧ 1 ≤ copies ∧ copies ≤ 1) => H0.out (vh0 (nat := nat) (port := port) (copies := copies) hA (.inl rfl) (by omega) (by omega) (by omega) (by omega) (by omega)))
      clear H0 hA
      have k1 : ((6 : Int) != 17) = true := rfl
      have k2 : ((17 : Int) != 17) = false := rfl
      have k3 : ((6 : Int) != 6) = false := rfl
      have k4 : ((17 : Int) != 6) = true := rfl
      go_wp2
      all_goals first
        | (focus (exfalso; refine W0.out ?_; omega))
        | (focus (go_ret; refine ⟨ret_int (W5.out ?_).symm, hW1⟩; omega))

    · have W5 := Lib.hid (fun (h : port < 0 ∨ 65535 < port ∨ copies < 1 ∨ 8 < copies) => vh5 (nat := nat) (port := port) (copies := copies) hA (.inr rfl) (by omega))
      have W0 := Lib.hid (fun (a : 0 ≤ port ∧ port ≤ 65535 ∧ 1 ≤ copies ∧ copies ≤ 8) => H0.out (vh0 (nat := nat) (port := port) (copies := copies) hA (.inr rfl) (by omega) (by omega) (by omega) (by omega) (by omega)))
      clear H0 hA
      have k1 : ((6 : Int) != 17) = true := rfl
      have k2 : ((17 : Int) != 17) = false := rfl
      have k3 : ((6 : Int) != 6) = false := rfl
      have k4 : ((17 : Int) != 6) = true := rfl
      go_wp2
      all_goals first
        | (focus (exfalso; refine W0.out ?_; omega))
        | (focus (go_ret; refine ⟨ret_int (W5.out ?_).symm, hW1⟩; omega))

    · have W := Lib.hid (vh14 (nat := nat) (port := port) (copies := copies) hA q1 q2)
      have g1 : (proto != 6) = true := by simpa using q1
      have g2 : (proto != 17) = true := by simpa using q2
      clear H0 hA q1 q2
      go_wp2
      go_ret
      exact ⟨ret_int W.out.symm, hW1⟩
end Go.Proofs.Ytceekfbhkenniaa
end
section
/- valid.vip, whole. -/
set_option linter.unusedVariables false
namespace Go.Proofs.Ytceekfbhkenniaa
open Go.RowKit
set_option maxHeartbeats 4000000
set_option maxRecDepth 100000
theorem valid_vipGood (v : Vp) (A : Option Addr) (n c : Nat) (l : List Vp) (w : World) (hl : IsRow vpShape w A n c l) (h : vipHead v = 0) :
    Calls Try.prog 30 #[.agg #[.bool v.six, .int .u64 v.hi, .int .u64 v.lo, .int .i64 v.proto, .int .i64 v.port, .int .i64 v.copies, .bool v.nat], .slice A n c] w fun e w' => e = .returned (.int .i64 (vipI v l)) ∧ Below w.heap.size w w' := by
  have HR8 := Lib.hid (fun h2 => vipI_twice (v := v) (l := l) h h2)
  have HR0 := Lib.hid (fun h2 => vipI_zero (v := v) (l := l) h h2)
  obtain ⟨hA, k0, k1, hcs⟩ := vip_cases v h
  have HT := Lib.hid (fun k hk h1 h2 => any_stepG (z := vp0) (p := fun x => sameKey x v) (l := l) (k := k) hk h1 h2)
  have HH := Lib.hid (fun k hk h2 => any_hitG (z := vp0) (p := fun x => sameKey x v) (l := l) (k := k) hk h2)
  have HSK := Lib.hid (fun x => show sameKey x v = ((x.six == v.six && x.hi == v.hi && x.lo == v.lo) && x.proto == v.proto && x.port == v.port) from rfl)
  have HN := Lib.hid (show (l.take 0).any (fun x => sameKey x v) = false from rfl)
  have HL := Lib.hid (show l.take n = l from List.take_of_length_le (by rw [hl.len]; exact Nat.le_refl _))
  clear h
  generalize hVI : vipI v l = VI at *
  clear hVI
  obtain ⟨six, hi, lo, proto, port, copies, nat⟩ := v
  dsimp only at *
  have hcap := hl.cap
  have hsm := hl.small
  have hrc := hl.reach
  have hlen := Lib.hid hl.len
  have P := Blk.new w 35 #[.bool six, .int .u64 hi, .int .u64 lo, .int .i64 proto, .int .i64 port, .int .i64 copies, .bool nat]
  have hW : Below w.heap.size w (w.alloc (.cells #[.bool six, .int .u64 hi, .int .u64 lo, .int .i64 proto, .int .i64 port, .int .i64 copies, .bool nat] 35)) := (Below.refl _ _).alloc (Nat.le_refl _) _
  have q0 : decide (port < 0) = false := decide_eq_false (by omega)
  have q1 : decide (65535 < port) = false := decide_eq_false (by omega)
  have q2 : decide (copies < 1) = false := decide_eq_false (by omega)
  have q3 : decide (8 < copies) = false := decide_eq_false (by omega)
  go_enter Try.func30, Try.ntmps30
  go_wp2_with fail
  generalize w.alloc (.cells #[.bool six, .int .u64 hi, .int .u64 lo, .int .i64 proto, .int .i64 port, .int .i64 copies, .bool nat] 35) = u at *
  refine (addr_Right six hi lo _).mono ?_; rintro e w1 ⟨rfl, hx⟩
  rw [hA]
  have P1 := P.keep hx
  have hW1 := below_step hW hx
  clear P hW hx hA
  obtain ⟨p0, p1, p2, p3, p4, p5, p6, _⟩ := P1.cells7
  rcases hcs with ⟨rfl, rfl⟩ | ⟨rfl, rfl⟩ | ⟨rfl, q4, q5⟩
  all_goals
    (try have q6 := decide_eq_true q4)
    go_wp2_with fail
    go_loopg [6, 52] n (fun gk s6 s52 wr => ∃ k : Nat, k ≤ n ∧ gk = n - k ∧ s52 = .int .i64 k ∧ Hid ((l.take k).any (fun x => sameKey x _) = false) ∧ Blk wr w.heap.size 35 _ ∧ Below w.heap.size w wr)
    case atStart => exact ⟨0, Nat.zero_le _, rfl, rfl, HN, P1, hW1⟩
    case round =>
      clear P1 hW1 p0 p1 p2 p3 p4 p5 p6
      obtain ⟨k, hk, rfl, rfl, HK, P2, hW2⟩ := hrel
      obtain ⟨p0, p1, p2, p3, p4, p5, p6, _⟩ := P2.cells7
      have hltb := P2.lt
      by_cases hkn : k < n
      · have hki : (k : Int) < (n : Int) := by omega
        have HT2 := Lib.hid (HT.out k (by rw [hlen.out]; exact hkn) HK.out)
        have HH2 := Lib.hid (HH.out k (by rw [hlen.out]; exact hkn))
        have HS2 := Lib.hid (HSK.out (l.getD k vp0))
        obtain ⟨ad, rfl, hbk, hat⟩ := (hl.keep hW2).vpat_ hkn
        obtain ⟨c0, c1, c2, c3, c4, c5, c6⟩ := hat
        have hvp : vpShape.z = vp0 := rfl
        rw [hvp] at c0 c1 c2 c3 c4 c5 c6
        clear HT HH HSK HK hvp
        generalize l.getD k vp0 = y at *
        obtain ⟨ysix, yhi, ylo, yproto, yport, ycop, ynat⟩ := y
        dsimp only at *
        go_upto_region 10 with (fail)
        have Q := Blk.new wr 35 #[.bool ysix, .int .u64 yhi, .int .u64 ylo, .int .i64 yproto, .int .i64 yport, .int .i64 ycop, .bool ynat]
        have P3 := P2.alloc (.cells #[.bool ysix, .int .u64 yhi, .int .u64 ylo, .int .i64 yproto, .int .i64 yport, .int .i64 ycop, .bool ynat] 35)
        have hW3 := hW2.alloc hW2.size (.cells #[.bool ysix, .int .u64 yhi, .int .u64 ylo, .int .i64 yproto, .int .i64 yport, .int .i64 ycop, .bool ynat] 35)
        clear P2 hW2 p0 p1 p2 p3 p4 p5 p6 c0 c1 c2 c3 c4 c5 c6
        generalize wr.alloc (.cells #[.bool ysix, .int .u64 yhi, .int .u64 ylo, .int .i64 yproto, .int .i64 yport, .int .i64 ycop, .bool ynat] 35) = u3 at *
        obtain ⟨p0, p1, p2, p3, p4, p5, p6, _⟩ := P3.cells7
        obtain ⟨c0, c1, c2, c3, c4, c5, c6, _⟩ := Q.cells7
        go_wp2
        all_goals first
          | (focus (go_ret; refine ⟨ret_int (HR8.out (HH2.out ?_)).symm, hW3⟩; rw [HS2.out]; clear HR8 HR0 HH2 HT2 HS2 HL HN p0 p1 p2 p3 p4 p5 p6 c0 c1 c2 c3 c4 c5 c6; simp_all; done))
          | (focus
              (go_roundg (n - (k + 1))
               case measure => omega
               case rel => (refine ⟨k + 1, by omega, rfl, by go_num, Lib.hid (HT2.out ?_), P3, hW3⟩; rw [HS2.out]; clear HR8 HR0 HH2 HT2 HS2 HL HN p0 p1 p2 p3 p4 p5 p6 c0 c1 c2 c3 c4 c5 c6; simp_all; done)))
          | skip
      · obtain rfl : k = n := by omega
        have h0 := HK.out
        rw [HL.out] at h0
        have HE := Lib.hid (HR0.out h0)
        clear HR0 HR8 HT HH HSK HK h0
        go_wp2
        go_ret
        exact ⟨ret_int HE.out.symm, hW2⟩
theorem valid_vip (v : Vp) (A : Option Addr) (n c : Nat) (l : List Vp) (w : World) (hl : IsRow vpShape w A n c l) :
    Calls Try.prog 30 #[.agg #[.bool v.six, .int .u64 v.hi, .int .u64 v.lo, .int .i64 v.proto, .int .i64 v.port, .int .i64 v.copies, .bool v.nat], .slice A n c] w fun e w' => e = .returned (.int .i64 (vipI v l)) ∧ Below w.heap.size w w' := by
  by_cases h : vipHead v = 0
  · exact valid_vipGood v A n c l w hl h
  · rw [vipI_head h]
    exact valid_vipBad v A n c w h
end Go.Proofs.Ytceekfbhkenniaa
end
section
/- valid.view. -/
set_option linter.unusedVariables false
namespace Go.Proofs.Ytceekfbhkenniaa
open Go.RowKit
set_option maxHeartbeats 4000000
set_option maxRecDepth 100000
theorem view_split (v : Vw) (m : Int) : (pfxOk v.six v.hi v.lo v.bits = false ∧ viewHead v m = 18) ∨ (pfxOk v.six v.hi v.lo v.bits = true ∧ (v.level < 0 ∨ m ≤ v.level) ∧ viewHead v m = 5) ∨ (pfxOk v.six v.hi v.lo v.bits = true ∧ 0 ≤ v.level ∧ v.level < m ∧ viewHead v m = 0) := by
  unfold viewHead
  cases pfxOk v.six v.hi v.lo v.bits with
  | false => exact .inl ⟨rfl, rfl⟩
  | true =>
    right
    rw [if_neg (by decide)]
    by_cases h : v.level < 0 ∨ m ≤ v.level
    · exact .inl ⟨rfl, h, if_pos h⟩
    · exact .inr ⟨rfl, by omega, by omega, if_neg h⟩
theorem valid_view (v : Vw) (A : Option Addr) (n c : Nat) (l : List Vw) (m : Int) (w : World) (hl : IsRow vwShape w A n c l) :
    Calls Try.prog 31 #[.agg #[.bool v.six, .int .u64 v.hi, .int .u64 v.lo, .int .i64 v.bits, .int .i64 v.level], .slice A n c, .int .i64 m] w fun e w' => e = .returned (.int .i64 (viewI v l m)) ∧ Below w.heap.size w w' := by
  have HI := Lib.hid (fun h => viewI_head (v := v) (l := l) (m := m) h)
  have HR8 := Lib.hid (fun h h2 => viewI_twice (v := v) (l := l) (m := m) h h2)
  have HR0 := Lib.hid (fun h h2 => viewI_zero (v := v) (l := l) (m := m) h h2)
  have HT := Lib.hid (fun k hk h1 h2 => any_stepG (z := vw0) (p := fun x => samePfx x v) (l := l) (k := k) hk h1 h2)
  have HH := Lib.hid (fun k hk h2 => any_hitG (z := vw0) (p := fun x => samePfx x v) (l := l) (k := k) hk h2)
  have HSK := Lib.hid (fun x => show samePfx x v = ((x.six == v.six && x.hi == v.hi && x.lo == v.lo) && x.bits == v.bits) from rfl)
  have HN := Lib.hid (show (l.take 0).any (fun x => samePfx x v) = false from rfl)
  have HL := Lib.hid (show l.take n = l from List.take_of_length_le (by rw [hl.len]; exact Nat.le_refl _))
  have hsp := view_split v m
  generalize hVI : viewI v l m = VI at *
  clear hVI
  generalize viewHead v m = VH at *
  obtain ⟨six, hi, lo, bits, level⟩ := v
  dsimp only at *
  have hcap := hl.cap
  have hsm := hl.small
  have hrc := hl.reach
  have hlen := Lib.hid hl.len
  have P := Blk.new w 39 #[.bool six, .int .u64 hi, .int .u64 lo, .int .i64 bits, .int .i64 level]
  have hW : Below w.heap.size w (w.alloc (.cells #[.bool six, .int .u64 hi, .int .u64 lo, .int .i64 bits, .int .i64 level] 39)) := (Below.refl _ _).alloc (Nat.le_refl _) _
  go_enter Try.func31, Try.ntmps31
  go_wp2_with fail
  generalize w.alloc (.cells #[.bool six, .int .u64 hi, .int .u64 lo, .int .i64 bits, .int .i64 level] 39) = u at *
  refine (pfx_Right six hi lo bits _).mono ?_; rintro e w1 ⟨rfl, hx⟩
  have P1 := P.keep hx
  have hW1 := below_step hW hx
  clear P hW hx
  obtain ⟨p0, p1, p2, p3, p4, _⟩ := P1.cells5
  rcases hsp with ⟨hA, rfl⟩ | ⟨hA, hlv, rfl⟩ | ⟨hA, v0, v1, rfl⟩
  · rw [hA]
    have HE := Lib.hid (HI.out (by decide))
    clear HI HR8 HR0
    go_wp2
    go_ret
    exact ⟨ret_int HE.out.symm, hW1⟩
  · rw [hA]
    have HE := Lib.hid (HI.out (by decide))
    clear HI HR8 HR0
    go_wp2
    all_goals first
      | (focus (go_ret; exact ⟨ret_int HE.out.symm, hW1⟩))
      | (exfalso; omega)
  · rw [hA]
    have q1 : decide (level < 0) = false := decide_eq_false (by omega)
    have q2 : decide (m ≤ level) = false := decide_eq_false (by omega)
    replace HR8 := Lib.hid (HR8.out rfl)
    replace HR0 := Lib.hid (HR0.out rfl)
    clear HI
    go_wp2_with fail
    go_loopg [8, 26] n (fun gk s8 s26 wr => ∃ k : Nat, k ≤ n ∧ gk = n - k ∧ s26 = .int .i64 k ∧ Hid ((l.take k).any (fun x => samePfx x _) = false) ∧ Blk wr w.heap.size 39 _ ∧ Below w.heap.size w wr)
    case atStart => exact ⟨0, Nat.zero_le _, rfl, rfl, HN, P1, hW1⟩
    case round =>
      clear P1 hW1 p0 p1 p2 p3 p4
      obtain ⟨k, hk, rfl, rfl, HK, P2, hW2⟩ := hrel
      obtain ⟨p0, p1, p2, p3, p4, _⟩ := P2.cells5
      have hltb := P2.lt
      by_cases hkn : k < n
      · have hki : (k : Int) < (n : Int) := by omega
        have HT2 := Lib.hid (HT.out k (by rw [hlen.out]; exact hkn) HK.out)
        have HH2 := Lib.hid (HH.out k (by rw [hlen.out]; exact hkn))
        have HS2 := Lib.hid (HSK.out (l.getD k vw0))
        obtain ⟨ad, rfl, hbk, hat⟩ := (hl.keep hW2).vwat_ hkn
        obtain ⟨c0, c1, c2, c3, c4⟩ := hat
        have hvp : vwShape.z = vw0 := rfl
        rw [hvp] at c0 c1 c2 c3 c4
        clear HT HH HSK HK hvp
        generalize l.getD k vw0 = y at *
        obtain ⟨ysix, yhi, ylo, ybits, ylevel⟩ := y
        dsimp only at *
        go_upto_region 8 with (fail)
        have Q := Blk.new wr 39 #[.bool ysix, .int .u64 yhi, .int .u64 ylo, .int .i64 ybits, .int .i64 ylevel]
        have P3 := P2.alloc (.cells #[.bool ysix, .int .u64 yhi, .int .u64 ylo, .int .i64 ybits, .int .i64 ylevel] 39)
        have hW3 := hW2.alloc hW2.size (.cells #[.bool ysix, .int .u64 yhi, .int .u64 ylo, .int .i64 ybits, .int .i64 ylevel] 39)
        clear P2 hW2 p0 p1 p2 p3 p4 c0 c1 c2 c3 c4
        generalize wr.alloc (.cells #[.bool ysix, .int .u64 yhi, .int .u64 ylo, .int .i64 ybits, .int .i64 ylevel] 39) = u3 at *
        obtain ⟨p0, p1, p2, p3, p4, _⟩ := P3.cells5
        obtain ⟨c0, c1, c2, c3, c4, _⟩ := Q.cells5
        go_wp2
        all_goals first
          | (focus (go_ret; refine ⟨ret_int (HR8.out (HH2.out ?_)).symm, hW3⟩; rw [HS2.out]; clear HR8 HR0 HH2 HT2 HS2 HL HN p0 p1 p2 p3 p4 c0 c1 c2 c3 c4; simp_all; done))
          | (focus
              (go_roundg (n - (k + 1))
               case measure => omega
               case rel => (refine ⟨k + 1, by omega, rfl, by go_num, Lib.hid (HT2.out ?_), P3, hW3⟩; rw [HS2.out]; clear HR8 HR0 HH2 HT2 HS2 HL HN p0 p1 p2 p3 p4 c0 c1 c2 c3 c4; simp_all; done)))
          | skip
      · obtain rfl : k = n := by omega
        have h0 := HK.out
        rw [HL.out] at h0
        have HE := Lib.hid (HR0.out h0)
        clear HR0 HR8 HT HH HSK HK h0
        go_wp2
        go_ret
        exact ⟨ret_int HE.out.symm, hW2⟩
end Go.Proofs.Ytceekfbhkenniaa
end
