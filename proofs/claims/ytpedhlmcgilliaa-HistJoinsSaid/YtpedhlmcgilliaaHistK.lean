/- hist.Join. -/
import Derived.Test.YtpedhlmcgilliaaHistJ
import Derived.Deep.RegionHeld3
set_option linter.unusedVariables false
namespace Go.Proofs.Ytpedhlmcgilliaa
open Go.RowKit
set_option maxHeartbeats 8000000
set_option maxRecDepth 100000
theorem take_one {P : Program} {md : Region.Mode} {ops : Array Oper} {Q : Exit → Act → World → Prop} {S : World → Prop} {i : Nat} {oi : Oper} {v : Value} {fuel : Nat} {listed : Array Bool} {a : Act} {w : World} (hi : ops[i]? = some oi)
    (hs : Region.noSelect ops = true) (hf : Region.free md ops listed i = true) (hr : (Region.ready md ops listed).contains i = true)
    (hQ : ∀ c a w, Q (.panic c) (a.put oi.dst v) w → Q (.panic c) a w) (hw : Region.wanted oi (yielded ops a.tmps) = true) (hy : ∀ w, S w → (execOp a.eval oi).run P w = .ok (.value v) w) (hS : S w)
    (h : wpAnyH P md ops Q S fuel (listed.setIfInBounds i true) (a.put oi.dst v) w) : wpAnyH P md ops Q S (fuel + 1) listed a w :=
  wpAnyH_take hi hs hf hr hQ (.inl ⟨hw, hy⟩) hS h
theorem cdrew {w : World} {a : Addr} {v : Value} (h : w.cell? a = some v) : w.drew.cell? a = some v := h
theorem quiet_load_mid {P : Program} {C : World → Prop} {o : Oper} {a : Act} {K : Act → Prop} (ty : TypeId) (x : Operand) (ho : o.op = .load ty x) (b k : Nat) (hx : a.eval x = .pointer (some ⟨b, k, none⟩)) (cs : List Value) (d : TypeDesc)
    (hS : ∀ w, C w → w.rangeAt b k cs) (hu : P.underlying ty = some d) (hd : d.isRow = true) (hi : (P.info? ty).map (·.size) = some cs.length) (h : K (a.put o.dst (.agg cs.toArray))) : o.quiet P a C K :=
  ⟨.agg cs.toArray, fun w hw => by
    unfold Oper.quietAt execOp
    simp only [ho, hx, Instr.loadAt, Instr.sureAddr, Sem.run_bind, Sem.run_pure, Result.andThen_ok, run_loadVar_mid w b k ty cs d (hS w hw) hu hd hi]
    exact ⟨rfl, rfl⟩, h⟩
theorem sizeCounts : (Try.prog.info? 76).map (·.size) = some 65 := by kernel_rfl
theorem load_mid_val {P : Program} {o : Oper} {a : Act} {w : World} (ty : TypeId) (x : Operand) (ho : o.op = .load ty x) (b k : Nat) (hx : a.eval x = .pointer (some ⟨b, k, none⟩)) (cs : List Value) (d : TypeDesc)
    (hS : w.rangeAt b k cs) (hu : P.underlying ty = some d) (hd : d.isRow = true) (hi : (P.info? ty).map (·.size) = some cs.length) : (execOp a.eval o).run P w = .ok (.value (.agg cs.toArray)) w := by
  unfold execOp
  simp only [ho, hx, Instr.loadAt, Instr.sureAddr, Sem.run_bind, Sem.run_pure, Result.andThen_ok, run_loadVar_mid w b k ty cs d hS hu hd hi]
theorem range_keep {w w' : World} {b k : Nat} {cs : List Value} (h : w.rangeAt b k cs) (hx : Below w.heap.size w w') : w'.rangeAt b k cs := fun j v hv => cell_keep (h j v hv) hx
theorem zeroCounts : Try.zeroCells76 = Array.replicate 65 (.int .u64 0) := by kernel_rfl
theorem cntRow_one (cnt : Nat → Int) : ((cntRow cnt).toArray).all (·.oneCell') = true := by
  refine Array.all_eq_true_iff_forall_mem.2 fun v hv => ?_
  rw [List.mem_toArray] at hv
  unfold cntRow at hv
  obtain ⟨k, _, rfl⟩ := List.mem_map.1 hv
  rfl
theorem HistIs.congr {w : World} {b : Nat} {cnt cnt' : Nat → Int} {n hi lo least most : Int} (h : HistIs w b cnt n hi lo least most) (e : ∀ k, k < 65 → cnt k = cnt' k) : HistIs w b cnt' n hi lo least most := by
  obtain ⟨cs, h, hs, hc, r⟩ := h
  exact ⟨cs, h, hs, fun k hk => (hc k hk).trans (by rw [e k hk]), r⟩
/-- One more histogram is joined. -/
def joined (ps : List (Nat × List Int)) (l : List Int) (i : Nat) : List Int := l ++ (ps.take i).flatMap (·.2)
theorem joined_step (ps : List (Nat × List Int)) (l : List Int) (i : Nat) (hi : i < ps.length) : joined ps l (i + 1) = joined ps l i ++ (ps.getD i (0, [])).2 := by
  unfold joined
  rw [List.take_succ_eq_append_getElem hi, List.flatMap_append, List.append_assoc, List.getD_eq_getElem?_getD, List.getElem?_eq_getElem hi]
  simp
theorem hist_Join (b g c : Nat) (ps : List (Nat × List Int)) (l : List Int) (w : World) (hc : ps.length ≤ c) (hc1 : c ≤ 1000) (hgb : g ≠ b) (hglt : g < w.heap.size)
    (hrow : ∀ i, i < ps.length → w.cell? ⟨g, i, none⟩ = some (.pointer (some ⟨(ps.getD i (0, [])).1, 0, none⟩)))
    (hps : ∀ i, i < ps.length → HS w (ps.getD i (0, [])).1 (ps.getD i (0, [])).2 ∧ (ps.getD i (0, [])).1 ≠ b ∧ (ps.getD i (0, [])).2.length ≤ 1000) (hH : HS w b l) (hl : l.length ≤ 1000) :
    Calls Try.prog 36 #[.pointer (some ⟨b, 0, none⟩), .slice (some ⟨g, 0, none⟩) ps.length c] w fun e w' => e = .returned (.tuple #[]) ∧ HS w' b (joined ps l ps.length) ∧ Mod (· = b) w w' := by
  obtain ⟨m, hm⟩ : ∃ m, m = ps.length := ⟨_, rfl⟩
  rw [← hm] at hc ⊢
  have hmI : m ≤ 1000 := by omega
  have HM := Lib.hid hm.symm
  clear hm
  have hjl : ∀ i, i ≤ m → (joined ps l i).length ≤ 1000 + i * 1000 := fun i => by
    induction i with
    | zero => intro _; simpa [joined] using hl
    | succ i ih =>
      intro hi
      have := (hps i (by rw [HM.out]; omega)).2.2
      rw [joined_step ps l i (by rw [HM.out]; omega), List.length_append]
      have := ih (by omega)
      omega
  go_enter Try.func36, Try.ntmps36
  go_wp2
  go_loopg [14] m (fun gk s14 wr => ∃ i : Nat, i ≤ m ∧ gk = m - i ∧ s14 = .int .i64 i ∧ HS wr b (joined ps l i) ∧ Mod (· = b) w wr)
  case atStart => exact ⟨0, Nat.zero_le _, rfl, rfl, by unfold joined; simpa using hH, Mod.refl _ _⟩
  case round =>
    clear hH
    obtain ⟨i, hi, rfl, rfl, hH, hM⟩ := hrel
    by_cases hlt : i < m
    · have hii : (i : Int) < (m : Int) := by omega
      have hcell := cell_mod (hrow i (by rw [HM.out]; exact hlt)) hM hgb
      obtain ⟨hY, hyb, hyl⟩ := hps i (by rw [HM.out]; exact hlt)
      have hY1 := hY.mod hM hyb
      have HJ := Lib.hid (joined_step ps l i (by rw [HM.out]; exact hlt))
      have hjli := hjl i (by omega)
      obtain ⟨y, hy⟩ : ∃ y, y = (ps.getD i (0, [])).1 := ⟨_, rfl⟩
      obtain ⟨ly, hly⟩ : ∃ ly, ly = (ps.getD i (0, [])).2 := ⟨_, rfl⟩
      rw [← hy, ← hly] at hY1
      rw [← hy] at hcell hyb
      rw [← hly] at hyl HJ
      clear hY hy hly
      obtain ⟨J, hJ0⟩ : ∃ J, J = joined ps l i := ⟨_, rfl⟩
      rw [← hJ0] at hH HJ hjli
      clear hJ0
      obtain ⟨ch, hh, lh, leh, moh, hHI, hHS, hHc⟩ := hH
      obtain ⟨cy, hy, ly', ley, moy, hYI, hYS, hYc⟩ := hY1
      obtain ⟨h65, h66, h67, h68, h69⟩ := hHI.cells
      obtain ⟨y65, y66, y67, y68, y69⟩ := hYI.cells
      by_cases hl0 : ly.length = 0
      · have g1 : ((ly.length : Int) == 0) = true := by rw [beq_iff_eq]; omega
        have hle := List.length_eq_zero_iff.1 hl0
        have HE := Lib.hid (show joined ps l (i + 1) = J by rw [HJ.out, hle, List.append_nil])
        clear hl0 hle
        go_wp2_with fail
        refine (hist_LenAt y _ _ y65).mono ?_; rintro e w' ⟨rfl, rfl⟩
        go_wp2
        go_roundg (m - (i + 1))
        case measure => omega
        case rel => exact ⟨i + 1, by omega, rfl, by go_num, by rw [HE.out]; exact ⟨_, _, _, _, _, hHI, hHS, hHc⟩, hM⟩
      · have g1 : ((ly.length : Int) == 0) = false := by rw [beq_eq_false_iff_ne]; omega
        obtain ⟨hfit, hNh, hNy, hSay⟩ := says_join hHS hYS (by omega) (by omega)
        have HSAY := Lib.hid hSay
        clear hSay
        go_wp2_with fail
        refine (hist_LenAt y _ _ y65).mono ?_; rintro e w' ⟨rfl, rfl⟩
        go_upto_region 5 with (fail)
        go_cut [36] (fun s36 wx => Below wr.heap.size wr wx ∧ s36 = .bool (decide (J.length = 0 ∨ ley < leh)))
        case first =>
          by_cases hJ : J.length = 0
          · have g2 : ((J.length : Int) == 0) = true := by rw [beq_iff_eq]; omega
            have HE := Lib.hid (show decide (J.length = 0 ∨ ley < leh) = true from decide_eq_true (.inl hJ))
            clear hJ
            go_quiet (fail)
            go_wp2_with fail
            go_meet
            exact ⟨below_drewN (Below.refl _ _) _, by rw [HE.out]⟩
          · have g2 : ((J.length : Int) == 0) = false := by rw [beq_eq_false_iff_ne]; omega
            have HE := Lib.hid (show decide (J.length = 0 ∨ ley < leh) = decide (ley < leh) by simp [hJ])
            clear hJ
            go_quiet (fail)
            go_wp2_with fail
            go_meet
            exact ⟨below_drewN (Below.refl _ _) _, by rw [HE.out]⟩
        case rest =>
          obtain ⟨hX, rfl⟩ := hcut
          obtain ⟨wa, rfl⟩ : ∃ wa, wa = wc := ⟨_, rfl⟩
          have hHI1 := hHI.keep hX
          have hYI1 := hYI.keep hX
          have hM1 := hM.thenB hX
          clear h65 h66 h67 h68 h69 y65 y66 y67 y68 y69 hHI hYI hM hX hcell g1
          obtain ⟨L, hL⟩ : ∃ L, L = if J.length = 0 ∨ ley < leh then ley else leh := ⟨_, rfl⟩
          rw [← hL] at HSAY
          have HL := Lib.hid hL
          clear hL
          go_upto_if 36 with (fail)
          go_cut [] (fun wx => HistIs wx b ch J.length hh lh L moh ∧ HistIs wx y cy ly.length hy ly' ley moy ∧ Mod (· = b) w wx)
          case first =>
            obtain ⟨h65, h66, h67, h68, h69⟩ := hHI1.cells
            obtain ⟨y65, y66, y67, y68, y69⟩ := hYI1.cells
            have f68 := hHI1.free 68
            by_cases hq : J.length = 0 ∨ ley < leh
            · rw [if_pos hq] at HL
              rw [decide_eq_true hq]
              clear hq
              go_wp2_with fail
              go_meet
              refine ⟨by rw [HL.out]; exact hHI1.setLeast ley, hYI1.mod (S := (· = b)) ((Mod.refl _ _).own 68 _) hyb, hM1.own 68 _⟩
            · rw [if_neg hq] at HL
              rw [decide_eq_false hq]
              clear hq
              go_wp2_with fail
              go_meet
              exact ⟨by rw [HL.out]; exact hHI1, hYI1, hM1⟩
          case rest =>
            obtain ⟨hHI2, hYI2, hM2⟩ := hcut
            clear hHI1 hYI1 hM1
            obtain ⟨wb, rfl⟩ : ∃ wb, wb = wc := ⟨_, rfl⟩
            obtain ⟨h65, h66, h67, h68, h69⟩ := hHI2.cells
            obtain ⟨y65, y66, y67, y68, y69⟩ := hYI2.cells
            have U0 := cell_under h69
            have U1 := cell_under y69
            go_upto_region 7 with (fail)
            refine wp_region_under_tail 10 (by kernel_rfl) (by kernel_rfl) ?_
            simp only [List.take_succ_cons, List.take_zero, List.drop_succ_cons, List.drop_zero]
            repeat (go_big_quiet_step ((fail)))
            refine wpQuiet_nil ?_
            intro wu hw'
            obtain ⟨pq, hw''⟩ := hw'
            have hU := below_eq hw''
            clear hw'' pq
            have hHI3 := hHI2.keep hU
            have hYI3 := hYI2.keep hU
            have hM3 := hM2.thenB hU
            clear U0 U1 hHI2 hYI2 hM2 hU h65 h66 h67 h68 h69 y65 y66 y67 y68 y69
            have f69 := hHI3.free 69
            obtain ⟨h65, h66, h67, h68, h69⟩ := hHI3.cells
            have hHI4 := hHI3.setMost (max moh moy)
            have hYI4 := hYI3.mod (S := (· = b)) ((Mod.refl _ _).own 69 (.int .u64 (max moh moy))) hyb
            have hM4 := hM3.own 69 (.int .u64 (max moh moy))
            go_upto_region 8 with (fail)
            clear hHI3 hYI3 hM3 f69 h65 h66 h67 h68 h69
            generalize wu.setCell ⟨b, 69, none⟩ (.int .u64 (max moh moy)) = wd at *
            obtain ⟨y65, y66, y67, y68, y69⟩ := hYI4.cells
            have hRy := hYI4.range
            go_cut [6, 7, 8] (fun s6 s7 s8 wx => ∃ bs bc : Nat, s6 = .int .u64 (ly.length : Nat) ∧ s7 = .pointer (some ⟨bs, 0, none⟩) ∧ s8 = .pointer (some ⟨bc, 0, none⟩) ∧ wd.heap.size ≤ bs ∧ wd.heap.size ≤ bc ∧ bs < wx.heap.size ∧ bc < wx.heap.size ∧
              wx.cell? ⟨bs, 0, none⟩ = some (.int .u64 hy) ∧ wx.cell? ⟨bs, 1, none⟩ = some (.int .u64 ly') ∧ (∀ j, j < 65 → wx.cell? ⟨bc, j, none⟩ = some (.int .u64 (cy j))) ∧ Below wd.heap.size wd wx)
            case first =>
              refine wp_region_noPanic ?_
              refine wp_region_held_drew (S := fun w' => Below wd.heap.size wd w') (by kernel_rfl) (Below.refl _ _).drew (fun hHeld => ?_)
              refine take_one (i := 0) (oi := ?oi_1) (v := ?v_1) ?hi_1 (by kernel_rfl) (by kernel_rfl) (by kernel_rfl) ?hq_1 ?hw_1 ?hy_1 (by assumption) ?rest_1
              case hi_1 => (simp only [List.getElem?_toArray, List.getElem?_cons_succ, List.getElem?_cons_zero]; rfl)
              case hq_1 => exact fun _ _ _ h => h
              case hw_1 => rfl
              case hy_1 => (intro w' hSw; (have u1 := cell_keep y65 hSw; have u2 := cell_keep y66 hSw; have u3 := cell_keep y67 hSw); go_simp; first | done | with_reducible rfl)
              try simp only [Act.put, List.setIfInBounds_toArray, List.set_cons_zero, List.set_cons_succ]
              refine take_one (i := 1) (oi := ?oi_2) (v := ?v_2) ?hi_2 (by kernel_rfl) (by kernel_rfl) (by kernel_rfl) ?hq_2 ?hw_2 ?hy_2 (by assumption) ?rest_2
              case hi_2 => (simp only [List.getElem?_toArray, List.getElem?_cons_succ, List.getElem?_cons_zero]; rfl)
              case hq_2 => exact fun _ _ _ h => h
              case hw_2 => rfl
              case hy_2 => (intro w' hSw; (have u1 := cell_keep y65 hSw; have u2 := cell_keep y66 hSw; have u3 := cell_keep y67 hSw); go_simp; first | done | with_reducible rfl)
              try simp only [Act.put, List.setIfInBounds_toArray, List.set_cons_zero, List.set_cons_succ]
              refine take_one (i := 2) (oi := ?oi_3) (v := ?v_3) ?hi_3 (by kernel_rfl) (by kernel_rfl) (by kernel_rfl) ?hq_3 ?hw_3 ?hy_3 (by assumption) ?rest_3
              case hi_3 => (simp only [List.getElem?_toArray, List.getElem?_cons_succ, List.getElem?_cons_zero]; rfl)
              case hq_3 => exact fun _ _ _ h => h
              case hw_3 => rfl
              case hy_3 => (intro w' hSw; (have u1 := cell_keep y65 hSw; have u2 := cell_keep y66 hSw; have u3 := cell_keep y67 hSw); go_simp; first | done | with_reducible rfl)
              try simp only [Act.put, List.setIfInBounds_toArray, List.set_cons_zero, List.set_cons_succ]
              refine take_one (i := 3) (oi := ?oi_4) (v := ?v_4) ?hi_4 (by kernel_rfl) (by kernel_rfl) (by kernel_rfl) ?hq_4 ?hw_4 ?hy_4 (by assumption) ?rest_4
              case hi_4 => (simp only [List.getElem?_toArray, List.getElem?_cons_succ, List.getElem?_cons_zero]; rfl)
              case hq_4 => exact fun _ _ _ h => h
              case hw_4 => rfl
              case hy_4 => (intro w' hSw; (have u1 := cell_keep y65 hSw; have u2 := cell_keep y66 hSw; have u3 := cell_keep y67 hSw); go_simp; first | done | with_reducible rfl)
              try simp only [Act.put, List.setIfInBounds_toArray, List.set_cons_zero, List.set_cons_succ]
              refine take_one (i := 4) (oi := ?oi_5) (v := ?v_5) ?hi_5 (by kernel_rfl) (by kernel_rfl) (by kernel_rfl) ?hq_5 ?hw_5 ?hy_5 (by assumption) ?rest_5
              case hi_5 => (simp only [List.getElem?_toArray, List.getElem?_cons_succ, List.getElem?_cons_zero]; rfl)
              case hq_5 => exact fun _ _ _ h => h
              case hw_5 => rfl
              case hy_5 => (intro w' hSw; (have u1 := cell_keep y65 hSw; have u2 := cell_keep y66 hSw; have u3 := cell_keep y67 hSw); go_simp; first | done | with_reducible rfl)
              try simp only [Act.put, List.setIfInBounds_toArray, List.set_cons_zero, List.set_cons_succ]
              refine take_one (i := 5) (oi := ?oi_6) (v := ?v_6) ?hi_6 (by kernel_rfl) (by kernel_rfl) (by kernel_rfl) ?hq_6 ?hw_6 ?hy_6 (by assumption) ?rest_6
              case hi_6 => (simp only [List.getElem?_toArray, List.getElem?_cons_succ, List.getElem?_cons_zero]; rfl)
              case hq_6 => exact fun _ _ _ h => h
              case hw_6 => rfl
              case hy_6 => (intro w' hSw; (have u1 := cell_keep y65 hSw; have u2 := cell_keep y66 hSw; have u3 := cell_keep y67 hSw); go_simp; first | done | with_reducible rfl)
              try simp only [Act.put, List.setIfInBounds_toArray, List.set_cons_zero, List.set_cons_succ]
              refine take_one (i := 6) (oi := ?oi_7) (v := ?v_7) ?hi_7 (by kernel_rfl) (by kernel_rfl) (by kernel_rfl) ?hq_7 ?hw_7 ?hy_7 (by assumption) ?rest_7
              case hi_7 => (simp only [List.getElem?_toArray, List.getElem?_cons_succ, List.getElem?_cons_zero]; rfl)
              case hq_7 => exact fun _ _ _ h => h
              case hw_7 => rfl
              case hy_7 => (intro w' hSw; (have u1 := cell_keep y65 hSw; have u2 := cell_keep y66 hSw; have u3 := cell_keep y67 hSw); go_simp; first | done | with_reducible rfl)
              try simp only [Act.put, List.setIfInBounds_toArray, List.set_cons_zero, List.set_cons_succ]
              refine take_one (i := 7) (oi := ?oi_8) (v := ?v_8) ?hi_8 (by kernel_rfl) (by kernel_rfl) (by kernel_rfl) ?hq_8 ?hw_8 ?hy_8 (by assumption) ?rest_8
              case hi_8 => (simp only [List.getElem?_toArray, List.getElem?_cons_succ, List.getElem?_cons_zero]; rfl)
              case hq_8 => exact fun _ _ _ h => h
              case hw_8 => rfl
              case hy_8 => (intro w' hSw; (have u1 := cell_keep y65 hSw; have u2 := cell_keep y66 hSw; have u3 := cell_keep y67 hSw); go_simp; first | done | with_reducible rfl)
              try simp only [Act.put, List.setIfInBounds_toArray, List.set_cons_zero, List.set_cons_succ]
              refine take_one (i := 8) (oi := ?oi_9) (v := ?v_9) ?hi_9 (by kernel_rfl) (by kernel_rfl) (by kernel_rfl) ?hq_9 ?hw_9 ?hy_9 (by assumption) ?rest_9
              case hi_9 => (simp only [List.getElem?_toArray, List.getElem?_cons_succ, List.getElem?_cons_zero]; rfl)
              case hq_9 => exact fun _ _ _ h => h
              case hw_9 => rfl
              case hy_9 => (intro w' hSw; (have u1 := cell_keep y65 hSw; have u2 := cell_keep y66 hSw; have u3 := cell_keep y67 hSw); go_simp; first | done | with_reducible rfl)
              try simp only [Act.put, List.setIfInBounds_toArray, List.set_cons_zero, List.set_cons_succ]
              refine take_one (i := 9) (oi := ?oi_10) (v := ?v_10) ?hi_10 (by kernel_rfl) (by kernel_rfl) (by kernel_rfl) ?hq_10 ?hw_10 ?hy_10 (by assumption) ?rest_10
              case hi_10 => (simp only [List.getElem?_toArray, List.getElem?_cons_succ, List.getElem?_cons_zero]; rfl)
              case hq_10 => exact fun _ _ _ h => h
              case hw_10 => rfl
              case hy_10 => (intro w' hSw; (have u1 := cell_keep y65 hSw; have u2 := cell_keep y66 hSw; have u3 := cell_keep y67 hSw); go_simp; first | done | with_reducible rfl)
              try simp only [Act.put, List.setIfInBounds_toArray, List.set_cons_zero, List.set_cons_succ]
              refine take_one (i := 10) (oi := ?oi_11) (v := ?v_11) ?hi_11 (by kernel_rfl) (by kernel_rfl) (by kernel_rfl) ?hq_11 ?hw_11 ?hy_11 (by assumption) ?rest_11
              case hi_11 => (simp only [List.getElem?_toArray, List.getElem?_cons_succ, List.getElem?_cons_zero]; rfl)
              case hq_11 => exact fun _ _ _ h => h
              case hw_11 => rfl
              case hy_11 => (intro w' hSw; (have u1 := cell_keep y65 hSw; have u2 := cell_keep y66 hSw; have u3 := cell_keep y67 hSw); go_simp; first | done | with_reducible rfl)
              try simp only [Act.put, List.setIfInBounds_toArray, List.set_cons_zero, List.set_cons_succ]
              refine take_one (i := 11) (oi := ?oi_12) (v := ?v_12) ?hi_12 (by kernel_rfl) (by kernel_rfl) (by kernel_rfl) ?hq_12 ?hw_12 ?hy_12 (by assumption) ?rest_12
              case hi_12 => (simp only [List.getElem?_toArray, List.getElem?_cons_succ, List.getElem?_cons_zero]; rfl)
              case hq_12 => exact fun _ _ _ h => h
              case hw_12 => rfl
              case hy_12 => (intro w' hSw; refine Eq.trans (load_mid_val 76 (.tmp 66) rfl y 0 rfl (cntRow cy) _ (range_keep hRy hSw) Try.underlying76 rfl (by rw [cntRow_len]; exact sizeCounts)) ?_; with_reducible rfl)
              try simp only [Act.put, List.setIfInBounds_toArray, List.set_cons_zero, List.set_cons_succ]
              generalize wd.drew = vx0 at *
              refine wpAnyH_ready (rs := [12, 13]) (by kernel_rfl) (by simp) ?_
              refine AllReadyH.cons (i := 12) (o := ?o_13_12) ?h_13_12 (fun K hK => ?_) (AllReadyH.cons (i := 13) (o := ?o_13_13) ?h_13_13 (fun K hK => ?_) AllReadyH.nil)
              case h_13_12 => (simp only [List.getElem?_toArray, List.getElem?_cons_succ, List.getElem?_cons_zero]; rfl)
              case h_13_13 => (simp only [List.getElem?_toArray, List.getElem?_cons_succ, List.getElem?_cons_zero]; rfl)
              · as_aux_lemma =>
                  have B_s := Blk.new vx0 78 #[.int .u64 0, .int .u64 0]
                  have G_s : wd.heap.size ≤ vx0.heap.size := hHeld.size
                  have H_14 := Below.alloc hHeld hHeld.size (.cells #[.int .u64 0, .int .u64 0] 78)
                  go_simp
                  refine hK.out _ _ H_14 (fun hHeld => ?_)
                  clear hK K H_14
                  try simp only [Act.put, List.setIfInBounds_toArray, List.set_cons_zero, List.set_cons_succ]
                  generalize vx0.alloc (.cells #[.int .u64 0, .int .u64 0] 78) = vx14 at *
                  obtain ⟨b_s, hb_s⟩ : ∃ b, b = vx0.heap.size := ⟨_, rfl⟩
                  rw [← hb_s] at B_s G_s  ⊢
                  clear hb_s
                  refine wpAnyH_ready (rs := [13]) (by kernel_rfl) (by simp) ?_
                  refine AllReadyH.cons (i := 13) (o := ?o_15_13) ?h_15_13 (fun K hK => ?_) AllReadyH.nil
                  case h_15_13 => (simp only [List.getElem?_toArray, List.getElem?_cons_succ, List.getElem?_cons_zero]; rfl)
                  have B_c := Blk.new vx14 76 Try.zeroCells76
                  have N_s_c : b_s ≠ vx14.heap.size := by have := B_s.lt; omega
                  have B_s := B_s.alloc (.cells Try.zeroCells76 76)
                  have G_c : wd.heap.size ≤ vx14.heap.size := hHeld.size
                  have H_16 := Below.alloc hHeld hHeld.size (.cells Try.zeroCells76 76)
                  go_simp
                  refine hK.out _ _ H_16 (fun hHeld => ?_)
                  clear hK K H_16
                  try simp only [Act.put, List.setIfInBounds_toArray, List.set_cons_zero, List.set_cons_succ]
                  generalize vx14.alloc (.cells Try.zeroCells76 76) = vx16 at *
                  obtain ⟨b_c, hb_c⟩ : ∃ b, b = vx14.heap.size := ⟨_, rfl⟩
                  rw [← hb_c] at B_c G_c N_s_c ⊢
                  clear hb_c
                  refine wpAnyH_ready (rs := [14]) (by kernel_rfl) (by simp) ?_
                  refine AllReadyH.cons (i := 14) (o := ?o_17_14) ?h_17_14 (fun K hK => ?_) AllReadyH.nil
                  case h_17_14 => (simp only [List.getElem?_toArray, List.getElem?_cons_succ, List.getElem?_cons_zero]; rfl)
                  go_simp
                  refine hK.out _ _ hHeld (fun hHeld => ?_)
                  clear hK K
                  try simp only [Act.put, List.setIfInBounds_toArray, List.set_cons_zero, List.set_cons_succ]
                  refine wpAnyH_ready (rs := [15]) (by kernel_rfl) (by simp) ?_
                  refine AllReadyH.cons (i := 15) (o := ?o_19_15) ?h_19_15 (fun K hK => ?_) AllReadyH.nil
                  case h_19_15 => (simp only [List.getElem?_toArray, List.getElem?_cons_succ, List.getElem?_cons_zero]; rfl)
                  have H_20 := (below_own (below_own hHeld G_s 0 (.int .u64 hy)) G_s 1 (.int .u64 ly'))
                  obtain ⟨cx20_0, cx20_1, _⟩ := B_s.cells2
                  obtain ⟨fx20_0, fx20_1⟩ := B_s.free2
                  have C_c := (Blk.far (p := ⟨b_s, 1, none⟩) (Blk.far (p := ⟨b_s, 0, none⟩) B_c N_s_c.symm (.int .u64 hy)) N_s_c.symm (.int .u64 ly'))
                  have C_s := (Blk.setTo (Blk.setTo B_s 0 (.int .u64 hy) rfl) 1 (.int .u64 ly') rfl)
                  go_simp
                  refine hK.out _ _ H_20 (fun hHeld => ?_)
                  clear hK K H_20 cx20_0 fx20_0 cx20_1 fx20_1
                  try simp only [Act.put, List.setIfInBounds_toArray, List.set_cons_zero, List.set_cons_succ]
                  clear B_s B_c
                  have B_s := C_s
                  have B_c := C_c
                  clear C_s C_c
                  generalize ((vx16.setCell ⟨b_s, 0, none⟩ (.int .u64 hy)).setCell ⟨b_s, 1, none⟩ (.int .u64 ly')) = vx20 at *
                  refine wpAnyH_ready (rs := [16]) (by kernel_rfl) (by simp) ?_
                  refine AllReadyH.cons (i := 16) (o := ?o_21_16) ?h_21_16 (fun K hK => ?_) AllReadyH.nil
                  case h_21_16 => (simp only [List.getElem?_toArray, List.getElem?_cons_succ, List.getElem?_cons_zero]; rfl)
                  rw [if_pos (by rfl)]
                  have T_c : vx20.there b_c 0 (cntRow cy).toArray.size := fun j hj => by
                    have hj65 : j < 65 := by simpa [cntRow_len] using hj
                    rw [Nat.zero_add, B_c.cell j, zeroCounts]
                    exact ⟨by simp [hj65], B_c.free j⟩
                  refine wp_store_mid 76 _ _ rfl b_c 0 (cntRow cy).toArray rfl rfl T_c (by simp only [List.size_toArray, cntRow_len]; exact sizeCounts) (cntRow_one cy) ?_
                  have hM_c : Mod (· = b_c) vx20 (vx20.setCells b_c 0 (cntRow cy).toArray.toList) := mod_setCells (S := (· = b_c)) (Mod.refl _ _) (.inl rfl) _ _
                  have H_c := below_thenMod hHeld (Nat.le_refl _) hM_c (fun k hk => by subst hk; exact G_c)
                  have C_s := B_s.mod hM_c (by first | exact N_s_c | exact fun e => N_c_s e.symm)
                  obtain ⟨cs', B_c', hs', hc'⟩ := B_c.setCells (cntRow cy) 0 (by rw [cntRow_len, zeroCounts]; simp)
                  have R_c : ∀ j, j < 65 → (vx20.setCells b_c 0 (cntRow cy).toArray.toList).cell? ⟨b_c, j, none⟩ = some (.int .u64 (cy j)) := fun j hj => by
                    rw [List.toList_toArray, B_c'.cell j, hc' j, if_pos ⟨Nat.zero_le _, by rw [cntRow_len]; omega⟩, Nat.sub_zero, cntRow_at cy hj]
                  have L_c : b_c < (vx20.setCells b_c 0 (cntRow cy).toArray.toList).heap.size := by rw [List.toList_toArray]; exact B_c'.lt
                  refine hK.out _ _ H_c (fun hHeld => ?_)
                  clear hK K H_c B_s B_c B_c' hc' hs' hM_c T_c
                  try simp only [Act.put, List.setIfInBounds_toArray, List.set_cons_zero, List.set_cons_succ]
                  generalize vx20.setCells b_c 0 (cntRow cy).toArray.toList = vx22 at *
                  refine wpAnyH_done (by kernel_rfl) (NoPanic.normal ?_) _
                  go_wp2_with fail
                  go_meet
                  exact ⟨b_s, b_c, rfl, rfl, rfl, G_s, G_c, C_s.lt, L_c, C_s.cells2.1, C_s.cells2.2.1, R_c, hHeld⟩
              · as_aux_lemma =>
                  have B_c := Blk.new vx0 76 Try.zeroCells76
                  have G_c : wd.heap.size ≤ vx0.heap.size := hHeld.size
                  have H_23 := Below.alloc hHeld hHeld.size (.cells Try.zeroCells76 76)
                  go_simp
                  refine hK.out _ _ H_23 (fun hHeld => ?_)
                  clear hK K H_23
                  try simp only [Act.put, List.setIfInBounds_toArray, List.set_cons_zero, List.set_cons_succ]
                  generalize vx0.alloc (.cells Try.zeroCells76 76) = vx23 at *
                  obtain ⟨b_c, hb_c⟩ : ∃ b, b = vx0.heap.size := ⟨_, rfl⟩
                  rw [← hb_c] at B_c G_c  ⊢
                  clear hb_c
                  refine wpAnyH_ready (rs := [12]) (by kernel_rfl) (by simp) ?_
                  refine AllReadyH.cons (i := 12) (o := ?o_24_12) ?h_24_12 (fun K hK => ?_) AllReadyH.nil
                  case h_24_12 => (simp only [List.getElem?_toArray, List.getElem?_cons_succ, List.getElem?_cons_zero]; rfl)
                  have B_s := Blk.new vx23 78 #[.int .u64 0, .int .u64 0]
                  have N_c_s : b_c ≠ vx23.heap.size := by have := B_c.lt; omega
                  have B_c := B_c.alloc (.cells #[.int .u64 0, .int .u64 0] 78)
                  have G_s : wd.heap.size ≤ vx23.heap.size := hHeld.size
                  have H_25 := Below.alloc hHeld hHeld.size (.cells #[.int .u64 0, .int .u64 0] 78)
                  go_simp
                  refine hK.out _ _ H_25 (fun hHeld => ?_)
                  clear hK K H_25
                  try simp only [Act.put, List.setIfInBounds_toArray, List.set_cons_zero, List.set_cons_succ]
                  generalize vx23.alloc (.cells #[.int .u64 0, .int .u64 0] 78) = vx25 at *
                  obtain ⟨b_s, hb_s⟩ : ∃ b, b = vx23.heap.size := ⟨_, rfl⟩
                  rw [← hb_s] at B_s G_s N_c_s ⊢
                  clear hb_s
                  refine wpAnyH_ready (rs := [14]) (by kernel_rfl) (by simp) ?_
                  refine AllReadyH.cons (i := 14) (o := ?o_26_14) ?h_26_14 (fun K hK => ?_) AllReadyH.nil
                  case h_26_14 => (simp only [List.getElem?_toArray, List.getElem?_cons_succ, List.getElem?_cons_zero]; rfl)
                  go_simp
                  refine hK.out _ _ hHeld (fun hHeld => ?_)
                  clear hK K
                  try simp only [Act.put, List.setIfInBounds_toArray, List.set_cons_zero, List.set_cons_succ]
                  refine wpAnyH_ready (rs := [15]) (by kernel_rfl) (by simp) ?_
                  refine AllReadyH.cons (i := 15) (o := ?o_28_15) ?h_28_15 (fun K hK => ?_) AllReadyH.nil
                  case h_28_15 => (simp only [List.getElem?_toArray, List.getElem?_cons_succ, List.getElem?_cons_zero]; rfl)
                  have H_29 := (below_own (below_own hHeld G_s 0 (.int .u64 hy)) G_s 1 (.int .u64 ly'))
                  obtain ⟨cx29_0, cx29_1, _⟩ := B_s.cells2
                  obtain ⟨fx29_0, fx29_1⟩ := B_s.free2
                  have C_c := (Blk.far (p := ⟨b_s, 1, none⟩) (Blk.far (p := ⟨b_s, 0, none⟩) B_c N_c_s (.int .u64 hy)) N_c_s (.int .u64 ly'))
                  have C_s := (Blk.setTo (Blk.setTo B_s 0 (.int .u64 hy) rfl) 1 (.int .u64 ly') rfl)
                  go_simp
                  refine hK.out _ _ H_29 (fun hHeld => ?_)
                  clear hK K H_29 cx29_0 fx29_0 cx29_1 fx29_1
                  try simp only [Act.put, List.setIfInBounds_toArray, List.set_cons_zero, List.set_cons_succ]
                  clear B_c B_s
                  have B_c := C_c
                  have B_s := C_s
                  clear C_c C_s
                  generalize ((vx25.setCell ⟨b_s, 0, none⟩ (.int .u64 hy)).setCell ⟨b_s, 1, none⟩ (.int .u64 ly')) = vx29 at *
                  refine wpAnyH_ready (rs := [16]) (by kernel_rfl) (by simp) ?_
                  refine AllReadyH.cons (i := 16) (o := ?o_30_16) ?h_30_16 (fun K hK => ?_) AllReadyH.nil
                  case h_30_16 => (simp only [List.getElem?_toArray, List.getElem?_cons_succ, List.getElem?_cons_zero]; rfl)
                  rw [if_pos (by rfl)]
                  have T_c : vx29.there b_c 0 (cntRow cy).toArray.size := fun j hj => by
                    have hj65 : j < 65 := by simpa [cntRow_len] using hj
                    rw [Nat.zero_add, B_c.cell j, zeroCounts]
                    exact ⟨by simp [hj65], B_c.free j⟩
                  refine wp_store_mid 76 _ _ rfl b_c 0 (cntRow cy).toArray rfl rfl T_c (by simp only [List.size_toArray, cntRow_len]; exact sizeCounts) (cntRow_one cy) ?_
                  have hM_c : Mod (· = b_c) vx29 (vx29.setCells b_c 0 (cntRow cy).toArray.toList) := mod_setCells (S := (· = b_c)) (Mod.refl _ _) (.inl rfl) _ _
                  have H_c := below_thenMod hHeld (Nat.le_refl _) hM_c (fun k hk => by subst hk; exact G_c)
                  have C_s := B_s.mod hM_c (by first | exact N_s_c | exact fun e => N_c_s e.symm)
                  obtain ⟨cs', B_c', hs', hc'⟩ := B_c.setCells (cntRow cy) 0 (by rw [cntRow_len, zeroCounts]; simp)
                  have R_c : ∀ j, j < 65 → (vx29.setCells b_c 0 (cntRow cy).toArray.toList).cell? ⟨b_c, j, none⟩ = some (.int .u64 (cy j)) := fun j hj => by
                    rw [List.toList_toArray, B_c'.cell j, hc' j, if_pos ⟨Nat.zero_le _, by rw [cntRow_len]; omega⟩, Nat.sub_zero, cntRow_at cy hj]
                  have L_c : b_c < (vx29.setCells b_c 0 (cntRow cy).toArray.toList).heap.size := by rw [List.toList_toArray]; exact B_c'.lt
                  refine hK.out _ _ H_c (fun hHeld => ?_)
                  clear hK K H_c B_s B_c B_c' hc' hs' hM_c T_c
                  try simp only [Act.put, List.setIfInBounds_toArray, List.set_cons_zero, List.set_cons_succ]
                  generalize vx29.setCells b_c 0 (cntRow cy).toArray.toList = vx31 at *
                  refine wpAnyH_done (by kernel_rfl) (NoPanic.normal ?_) _
                  go_wp2_with fail
                  go_meet
                  exact ⟨b_s, b_c, rfl, rfl, rfl, G_s, G_c, C_s.lt, L_c, C_s.cells2.1, C_s.cells2.2.1, R_c, hHeld⟩
            case rest =>
              obtain ⟨bs, bc, rfl, rfl, rfl, hbs, hbc, hbs2, hbc2, n0, n1, hcc, hU8⟩ := hcut
              have hHI5 := hHI4.keep hU8
              have hM5 := hM4.thenB hU8
              have hb1 := hHI4.lt
              have hbd : ∀ k, k < 65 → 0 ≤ ch k ∧ ch k ≤ J.length := fun k hk => by
                have h1 := hcnt_bd (srt J) k (srt J).length
                rw [← hHS.cnt k hk, srt_len] at h1
                exact h1
              have hby : ∀ k, k < 65 → 0 ≤ cy k ∧ cy k ≤ ly.length := fun k hk => by
                have h1 := hcnt_bd (srt ly) k (srt ly).length
                rw [← hYS.cnt k hk, srt_len] at h1
                exact h1
              have HBD := Lib.hid hbd
              have HBY := Lib.hid hby
              clear hbd hby hHI4 hYI4 hM4 hU8 y65 y66 y67 y68 y69 hRy
              obtain ⟨we, rfl⟩ : ∃ we, we = wc := ⟨_, rfl⟩
              go_wp2_with fail
              go_loopg [68] 65 (fun gk s68 wx => ∃ t : Nat, t ≤ 65 ∧ gk = 65 - t ∧ s68 = .int .i64 t ∧ HistIs wx b (fun j => if j < t then ch j + cy j else ch j) J.length hh lh L (max moh moy) ∧ Mod (· = b) we wx)
              case atStart => exact ⟨0, Nat.zero_le _, rfl, rfl, hHI5.congr (fun k _ => by rw [if_neg (Nat.not_lt_zero k)]), Mod.refl _ _⟩
              case round =>
                clear hHI5
                obtain ⟨t, ht, rfl, rfl, hHI, hMx⟩ := hrel
                by_cases ht65 : t < 65
                · have hti : (t : Int) < 65 := by omega
                  have ca := hHI.cellAt ht65
                  rw [if_neg (Nat.lt_irrefl t)] at ca
                  have cc := cell_mod (hcc t ht65) hMx (by show bc ≠ b; omega)
                  have b1 := HBD.out t ht65
                  have b2 := HBY.out t ht65
                  have HA := Lib.hid (rfl : ch t = ch t)
                  obtain ⟨u, hu⟩ : ∃ u, u = ch t := ⟨_, rfl⟩
                  obtain ⟨v, hv⟩ : ∃ v, v = cy t := ⟨_, rfl⟩
                  have HU := Lib.hid hu
                  have HV := Lib.hid hv
                  rw [← hu] at ca b1
                  rw [← hv] at cc b2
                  clear hu hv HA
                  have kw : IntKind.u64.wrap (u + v) = u + v := by rw [IntKind.wrap_u64]; omega
                  have U0 := cell_under ca
                  have U1 := cell_under cc
                  clear ca cc
                  go_upto_region 12 with (fail)
                  refine wp_region_under_tail 12 (by kernel_rfl) (by kernel_rfl) ?_
                  simp only [List.take_succ_cons, List.take_zero, List.drop_succ_cons, List.drop_zero]
                  repeat (go_big_quiet_step ((fail)))
                  refine wpQuiet_nil ?_
                  intro wu hw'
                  obtain ⟨pq, hw''⟩ := hw'
                  have hU := below_eq hw''
                  clear hw'' pq
                  have hHI2 := hHI.keep hU
                  have hM2 := hMx.thenB hU
                  have c2 := hHI2.cellAt ht65
                  have f2 := hHI2.free t
                  have hHI3 := (hHI2.setCnt ht65 (u + v)).congr (cnt' := fun j => if j < t + 1 then ch j + cy j else ch j) (fun k _ => by
                    by_cases e : k = t
                    · subst e; rw [if_pos rfl, if_pos (Nat.lt_succ_self k), HU.out, HV.out]
                    · rw [if_neg e]
                      by_cases e2 : k < t
                      · rw [if_pos e2, if_pos (by omega)]
                      · rw [if_neg e2, if_neg (by omega)])
                  have hM3 := hM2.own t (.int .u64 (u + v))
                  clear U0 U1 hU hHI hMx hHI2 hM2
                  go_wp2
                  go_roundg (65 - (t + 1))
                  case measure => omega
                  case rel => exact ⟨t + 1, by omega, rfl, by go_num, hHI3, hM3⟩
                · obtain rfl : t = 65 := by omega
                  have hHI2 := hHI.congr (cnt' := fun k => ch k + cy k) (fun k hk => by rw [if_pos hk])
                  have n0' := cell_mod n0 hMx (by show bs ≠ b; omega)
                  have n1' := cell_mod n1 hMx (by show bs ≠ b; omega)
                  have hM6 := hM5.trans hMx
                  obtain ⟨h65, h66, h67, h68, h69⟩ := hHI2.cells
                  have f65 := hHI2.free 65
                  have kw : IntKind.u64.wrap ((J.length : Int) + (ly.length : Int)) = (J.length : Int) + (ly.length : Int) := by rw [IntKind.wrap_u64]; omega
                  have hHI3 := hHI2.setN ((J.length : Int) + (ly.length : Int))
                  have hM7 := hM6.own 65 (.int .u64 ((J.length : Int) + (ly.length : Int)))
                  have m0 := cell_mod n0' ((Mod.refl (S := (· = b)) wr).own 65 (.int .u64 ((J.length : Int) + (ly.length : Int)))) (by show bs ≠ b; omega)
                  have m1 := cell_mod n1' ((Mod.refl (S := (· = b)) wr).own 65 (.int .u64 ((J.length : Int) + (ly.length : Int)))) (by show bs ≠ b; omega)
                  clear hHI hMx hM5 hM6 n0 n1 hcc
                  go_upto_region 15 with (fail)
                  clear n0' n1' h65 h66 h67 h68 h69 f65 hHI2
                  generalize wr.setCell ⟨b, 65, none⟩ (.int .u64 ((J.length : Int) + (ly.length : Int))) = wf at *
                  obtain ⟨h65, h66, h67, h68, h69⟩ := hHI3.cells
                  have hadd := fun w => wide_Add hh lh hy ly' hNh hNy hfit w
                  generalize hsh : sHi hh lh hy ly' = sh at *
                  generalize hsl : sLo lh ly' = sl at *
                  have hU0 : Below wf.heap.size wf wf.drew := (Below.refl _ _).drew
                  have hHd := hHI3.keep hU0
                  have hMd := hM7.thenB hU0
                  obtain ⟨d65, d66, d67, d68, d69⟩ := hHd.cells
                  clear h65 h66 h67 h68 h69 hHI3 hM7 hU0
                  refine wp_region_noPanic ?_
                  refine wp_region_held_drew (S := (fun w' => w'.cell? ⟨bs, 0, none⟩ = some (.int .u64 hy) ∧ w'.cell? ⟨bs, 1, none⟩ = some (.int .u64 ly'))) (by kernel_rfl) ⟨cdrew m0, cdrew m1⟩ (fun hHeld => ?_)
                  refine take_one (i := 0) (oi := ?oi_32) (v := ?v_32) ?hi_32 (by kernel_rfl) (by kernel_rfl) (by kernel_rfl) ?hq_32 ?hw_32 ?hy_32 (by assumption) ?rest_32
                  case hi_32 => (simp only [List.getElem?_toArray, List.getElem?_cons_succ, List.getElem?_cons_zero]; rfl)
                  case hq_32 => exact fun _ _ _ h => h
                  case hw_32 => rfl
                  case hy_32 => (intro w' hSw; (have u1 := hSw.1; have u2 := hSw.2); go_simp; first | done | with_reducible rfl)
                  try simp only [Act.put, List.setIfInBounds_toArray, List.set_cons_zero, List.set_cons_succ]
                  refine take_one (i := 1) (oi := ?oi_33) (v := ?v_33) ?hi_33 (by kernel_rfl) (by kernel_rfl) (by kernel_rfl) ?hq_33 ?hw_33 ?hy_33 (by assumption) ?rest_33
                  case hi_33 => (simp only [List.getElem?_toArray, List.getElem?_cons_succ, List.getElem?_cons_zero]; rfl)
                  case hq_33 => exact fun _ _ _ h => h
                  case hw_33 => rfl
                  case hy_33 => (intro w' hSw; (have u1 := hSw.1; have u2 := hSw.2); go_simp; first | done | with_reducible rfl)
                  try simp only [Act.put, List.setIfInBounds_toArray, List.set_cons_zero, List.set_cons_succ]
                  refine take_one (i := 2) (oi := ?oi_34) (v := ?v_34) ?hi_34 (by kernel_rfl) (by kernel_rfl) (by kernel_rfl) ?hq_34 ?hw_34 ?hy_34 (by assumption) ?rest_34
                  case hi_34 => (simp only [List.getElem?_toArray, List.getElem?_cons_succ, List.getElem?_cons_zero]; rfl)
                  case hq_34 => exact fun _ _ _ h => h
                  case hw_34 => rfl
                  case hy_34 => (intro w' hSw; (have u1 := hSw.1; have u2 := hSw.2); go_simp; first | done | with_reducible rfl)
                  try simp only [Act.put, List.setIfInBounds_toArray, List.set_cons_zero, List.set_cons_succ]
                  refine take_one (i := 3) (oi := ?oi_35) (v := ?v_35) ?hi_35 (by kernel_rfl) (by kernel_rfl) (by kernel_rfl) ?hq_35 ?hw_35 ?hy_35 (by assumption) ?rest_35
                  case hi_35 => (simp only [List.getElem?_toArray, List.getElem?_cons_succ, List.getElem?_cons_zero]; rfl)
                  case hq_35 => exact fun _ _ _ h => h
                  case hw_35 => rfl
                  case hy_35 => (intro w' hSw; (have u1 := hSw.1; have u2 := hSw.2); go_simp; first | done | with_reducible rfl)
                  try simp only [Act.put, List.setIfInBounds_toArray, List.set_cons_zero, List.set_cons_succ]
                  refine take_one (i := 5) (oi := ?oi_36) (v := ?v_36) ?hi_36 (by kernel_rfl) (by kernel_rfl) (by kernel_rfl) ?hq_36 ?hw_36 ?hy_36 (by assumption) ?rest_36
                  case hi_36 => (simp only [List.getElem?_toArray, List.getElem?_cons_succ, List.getElem?_cons_zero]; rfl)
                  case hq_36 => exact fun _ _ _ h => h
                  case hw_36 => rfl
                  case hy_36 => (intro w' hSw; (have u1 := hSw.1; have u2 := hSw.2); go_simp; first | done | with_reducible rfl)
                  try simp only [Act.put, List.setIfInBounds_toArray, List.set_cons_zero, List.set_cons_succ]
                  generalize wf.drew = vx0 at *
                  refine wpAnyH_ready (rs := [4]) (by kernel_rfl) (by simp) ?_
                  refine AllReadyH.cons (i := 4) (o := ?o_37_4) ?h_37_4 (fun K hK => ?_) AllReadyH.nil
                  case h_37_4 => (simp only [List.getElem?_toArray, List.getElem?_cons_succ, List.getElem?_cons_zero]; rfl)
                  go_simp
                  refine hK.out _ _ hHeld (fun hHeld => ?_)
                  clear hK K
                  try simp only [Act.put, List.setIfInBounds_toArray, List.set_cons_zero, List.set_cons_succ]
                  refine wpAnyH_ready (rs := [6]) (by kernel_rfl) (by simp) ?_
                  refine AllReadyH.cons (i := 6) (o := ?o_39_6) ?h_39_6 (fun K hK => ?_) AllReadyH.nil
                  case h_39_6 => (simp only [List.getElem?_toArray, List.getElem?_cons_succ, List.getElem?_cons_zero]; rfl)
                  go_simp
                  go_at_call 54
                  refine (hadd vx0).mono ?_
                  rintro e vx40 ⟨rfl, hxvx40⟩
                  try dsimp only
                  refine hK.out _ _ ⟨cell_keep hHeld.1 hxvx40, cell_keep hHeld.2 hxvx40⟩ (fun hHeld => ?_)
                  clear hK K
                  try simp only [Act.put, List.setIfInBounds_toArray, List.set_cons_zero, List.set_cons_succ]
                  have hHI4 := hHd.keep hxvx40
                  have hM8 := hMd.thenB hxvx40
                  clear d65 d66 d67 d68 d69 hHd hMd
                  refine wpAnyH_ready (rs := [7]) (by kernel_rfl) (by simp) ?_
                  refine AllReadyH.cons (i := 7) (o := ?o_41_7) ?h_41_7 (fun K hK => ?_) AllReadyH.nil
                  case h_41_7 => (simp only [List.getElem?_toArray, List.getElem?_cons_succ, List.getElem?_cons_zero]; rfl)
                  go_simp
                  refine hK.out _ _ hHeld (fun hHeld => ?_)
                  clear hK K
                  try simp only [Act.put, List.setIfInBounds_toArray, List.set_cons_zero, List.set_cons_succ]
                  refine take_one (i := 8) (oi := ?oi_43) (v := ?v_43) ?hi_43 (by kernel_rfl) (by kernel_rfl) (by kernel_rfl) ?hq_43 ?hw_43 ?hy_43 (by assumption) ?rest_43
                  case hi_43 => (simp only [List.getElem?_toArray, List.getElem?_cons_succ, List.getElem?_cons_zero]; rfl)
                  case hq_43 => exact fun _ _ _ h => h
                  case hw_43 => rfl
                  case hy_43 => (intro w' hSw; (have u1 := hSw.1; have u2 := hSw.2); go_simp; first | done | with_reducible rfl)
                  try simp only [Act.put, List.setIfInBounds_toArray, List.set_cons_zero, List.set_cons_succ]
                  refine take_one (i := 9) (oi := ?oi_44) (v := ?v_44) ?hi_44 (by kernel_rfl) (by kernel_rfl) (by kernel_rfl) ?hq_44 ?hw_44 ?hy_44 (by assumption) ?rest_44
                  case hi_44 => (simp only [List.getElem?_toArray, List.getElem?_cons_succ, List.getElem?_cons_zero]; rfl)
                  case hq_44 => exact fun _ _ _ h => h
                  case hw_44 => rfl
                  case hy_44 => (intro w' hSw; (have u1 := hSw.1; have u2 := hSw.2); go_simp; first | done | with_reducible rfl)
                  try simp only [Act.put, List.setIfInBounds_toArray, List.set_cons_zero, List.set_cons_succ]
                  refine take_one (i := 10) (oi := ?oi_45) (v := ?v_45) ?hi_45 (by kernel_rfl) (by kernel_rfl) (by kernel_rfl) ?hq_45 ?hw_45 ?hy_45 (by assumption) ?rest_45
                  case hi_45 => (simp only [List.getElem?_toArray, List.getElem?_cons_succ, List.getElem?_cons_zero]; rfl)
                  case hq_45 => exact fun _ _ _ h => h
                  case hw_45 => rfl
                  case hy_45 => (intro w' hSw; (have u1 := hSw.1; have u2 := hSw.2); go_simp; first | done | with_reducible rfl)
                  try simp only [Act.put, List.setIfInBounds_toArray, List.set_cons_zero, List.set_cons_succ]
                  refine take_one (i := 11) (oi := ?oi_46) (v := ?v_46) ?hi_46 (by kernel_rfl) (by kernel_rfl) (by kernel_rfl) ?hq_46 ?hw_46 ?hy_46 (by assumption) ?rest_46
                  case hi_46 => (simp only [List.getElem?_toArray, List.getElem?_cons_succ, List.getElem?_cons_zero]; rfl)
                  case hq_46 => exact fun _ _ _ h => h
                  case hw_46 => rfl
                  case hy_46 => (intro w' hSw; (have u1 := hSw.1; have u2 := hSw.2); go_simp; first | done | with_reducible rfl)
                  try simp only [Act.put, List.setIfInBounds_toArray, List.set_cons_zero, List.set_cons_succ]
                  refine wpAnyH_ready (rs := [12]) (by kernel_rfl) (by simp) ?_
                  refine AllReadyH.cons (i := 12) (o := ?o_47_12) ?h_47_12 (fun K hK => ?_) AllReadyH.nil
                  case h_47_12 => (simp only [List.getElem?_toArray, List.getElem?_cons_succ, List.getElem?_cons_zero]; rfl)
                  obtain ⟨h65, h66, h67, h68, h69⟩ := hHI4.cells
                  have f66 := hHI4.free 66
                  have f67 := hHI4.free 67
                  have hHI5 := (hHI4.setHi sh).setLo sl
                  have hM9 := (hM8.own 66 (.int .u64 sh)).own 67 (.int .u64 sl)
                  have hMq := ((Mod.refl (· = b) vx40).own 66 (.int .u64 sh)).own 67 (.int .u64 sl)
                  have z0 := cell_mod hHeld.1 hMq (by show bs ≠ b; omega)
                  have z1 := cell_mod hHeld.2 hMq (by show bs ≠ b; omega)
                  go_simp
                  refine hK.out _ _ ⟨z0, z1⟩ (fun hHeld => ?_)
                  clear hK K
                  try simp only [Act.put, List.setIfInBounds_toArray, List.set_cons_zero, List.set_cons_succ]
                  have hfin : HS ((vx40.setCell ⟨b, 66, none⟩ (.int .u64 sh)).setCell ⟨b, 67, none⟩ (.int .u64 sl)) b (joined ps l (i + 1)) := by
                    have hS := HSAY.out
                    rw [HJ.out]
                    refine ⟨fun k => ch k + cy k, sh, sl, L, max moh moy, ?_, ?_, fun k hk => by show ch k + cy k = 0; rw [hHc k hk, hYc k hk]; rfl⟩
                    · rw [List.length_append]; exact hHI5
                    · exact hS
                  clear hHI4 hM8 hHI5 z0 z1 h65 h66 h67 h68 h69 f66 f67 hHeld
                  refine wpAnyH_done (by kernel_rfl) (NoPanic.normal ?_) _
                  go_wp2
                  go_roundg (m - (i + 1))
                  case measure => omega
                  case rel => exact ⟨i + 1, by omega, rfl, by go_num, hfin, hM9⟩
    · obtain rfl : i = m := by omega
      go_wp2
      first | (go_end0; exact ⟨rfl, hH, hM⟩) | (simp only [Exit.inBlock, Exit.then]; refine bodyPost_ret (results_none rfl _ _ _) rfl ⟨rfl, hH, hM⟩)
end Go.Proofs.Ytpedhlmcgilliaa
