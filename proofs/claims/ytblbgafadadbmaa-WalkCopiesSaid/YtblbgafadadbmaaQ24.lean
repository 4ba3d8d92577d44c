/- Lemmas for the claim's proof: DiffB DiffC. -/
import Derived.Test.YtblbgafadadbmaaQ23
section
/- diff.Of. -/
set_option linter.unusedVariables false
namespace Go.Proofs.Ytblbgafadadbmaa
open Go.RowKit
set_option maxHeartbeats 8000000
set_option maxRecDepth 100000
theorem Try.infoChange : (Try.prog.info? 118).map (fun i => (i.zero, i.size, i.bytes)) = some (some (.agg #[.string ByteArray.empty, .int .i64 0]), 2, 24) := by kernel_rfl
/-- All that is otherwise. -/
def allCh (was now : List Nd) : List (ByteArray × Int) := goneTo was now was.length ++ moreTo was now now.length
theorem parts_step0 (nm : ByteArray) (a b c : Bool) : parts nm a b c 1 = parts nm a b c 0 ++ if a = true then [(nm, 4)] else [] := by cases a <;> cases b <;> cases c <;> rfl
theorem parts_step1 (nm : ByteArray) (a b c : Bool) : parts nm a b c 2 = parts nm a b c 1 ++ if b = true then [(nm, 5)] else [] := by cases a <;> cases b <;> cases c <;> rfl
theorem parts_step2 (nm : ByteArray) (a b c : Bool) : parts nm a b c 3 = parts nm a b c 2 ++ if c = true then [(nm, 3)] else [] := by cases a <;> cases b <;> cases c <;> rfl
theorem idx_0 (a b c : Bool) (w : World) : (Instr.index 143 (.agg #[.int .i64 4, .bool a, .int .i64 5, .bool b, .int .i64 3, .bool c]) (.int .i64 0)).run Try.prog w = .ok (.agg #[.int .i64 4, .bool a]) w := by kernel_rfl
theorem idx_1 (a b c : Bool) (w : World) : (Instr.index 143 (.agg #[.int .i64 4, .bool a, .int .i64 5, .bool b, .int .i64 3, .bool c]) (.int .i64 1)).run Try.prog w = .ok (.agg #[.int .i64 5, .bool b]) w := by kernel_rfl
theorem idx_2 (a b c : Bool) (w : World) : (Instr.index 143 (.agg #[.int .i64 4, .bool a, .int .i64 5, .bool b, .int .i64 3, .bool c]) (.int .i64 2)).run Try.prog w = .ok (.agg #[.int .i64 3, .bool c]) w := by kernel_rfl
theorem eqGn_addr (x y : Operand) (a b : Bool) (p q r s : Int) (w : World) : (eqGuard .neq 62 x y (.agg #[.bool a, .int .u64 p, .int .u64 q]) (.agg #[.bool b, .int .u64 r, .int .u64 s])).run Try.prog w = .ok () w := by
  go_simp
theorem quiet_neq_addr {A : Act} {o : Oper} {x y : Operand} {t : TypeId} {a b : Bool} {p q r s : Int} {E : Bool} {C : World → Prop} {K : Act → Prop} (hE : (!(a == b && p == r && q == s)) = E) (ho : o.op = .binOp .neq 62 x y t) (hx : A.eval x = .agg #[.bool a, .int .u64 p, .int .u64 q]) (hy : A.eval y = .agg #[.bool b, .int .u64 r, .int .u64 s])
    (h : K (A.put o.dst (.bool E))) : o.quiet Try.prog A C K :=
  ⟨.bool E, fun w _ => by
    unfold Oper.quietAt execOp
    have h1 := eqGn_addr x y a b p q r s w
    have h2 := eq_addr a b p q r s w
    simp only [ho, hx, hy, Sem.run_bind, h1, Result.andThen_ok, run_neq_struct, h2, Sem.run_pure, hE]
    exact ⟨rfl, rfl⟩, h⟩
theorem parts_zero (nm : ByteArray) (a b c : Bool) : parts nm a b c 0 = [] := by cases a <;> cases b <;> cases c <;> rfl
theorem diff_Of (A : Option Addr) (n c : Nat) (was : List Nd) (A' : Option Addr) (m c' : Nat) (now : List Nd) (w : World) (h : IsNodes w A n c was) (h' : IsNodes w A' m c' now) (hn60 : n ≤ 60) (hm60 : m ≤ 60) :
    Calls Try.prog 57 #[.slice A n c, .slice A' m c'] w fun e w' => ∃ v, e = .returned v ∧ w'.ownsRow w.heap.size 118 2 v (allCh was now).length (chC (allCh was now)) ∧ Below w.heap.size w w' := by
  obtain ⟨iC, hiC, hzC, hzC1, hzC2⟩ := info_parts Try.infoChange
  have hcap := h.cap
  have hsm := h.small
  have hcap' := h'.cap
  have hsm' := h'.small
  have HLW := Lib.hid h.len
  have HLN := Lib.hid h'.len
  go_enter Try.func57, Try.ntmps57
  go_wp2_with fail
  go_loopg [5, 18] n (fun gg s5 s18 wr => ∃ (k : Nat) (out : List (ByteArray × Int)), k ≤ n ∧ gg = n - k ∧ s18 = .int .i64 k ∧ wr.ownsRow w.heap.size 118 2 s5 out.length (chC out) ∧ Below w.heap.size w wr ∧ Hid (out = goneTo was now k))
  case atStart => exact ⟨0, [], Nat.zero_le _, rfl, rfl, World.ownsRow_nil _ _ _ _, Below.refl _ _, Lib.hid rfl⟩
  case round =>
    obtain ⟨k, out, hk, rfl, rfl, hown, hW, HO⟩ := hrel
    have hol : out.length ≤ k := by rw [HO.out]; exact goneTo_le _ _ _
    by_cases hkn : k < n
    · have hki : (k : Int) < (n : Int) := by omega
      have HST := Lib.hid (goneTo_step was now k (by rw [HLW.out]; exact hkn))
      have HGO := Lib.hid (show goneOf now (was.getD k nd0) = if findN now (was.getD k nd0).name < 0 then [((was.getD k nd0).name, 1)] else [] from rfl)
      obtain ⟨ad, rfl, hbk, d0, d1, d2, d3, d4, d5, d6⟩ := (h.keep hW).at_ hkn
      obtain ⟨x, hx⟩ : ∃ x, x = was.getD k nd0 := ⟨_, rfl⟩
      rw [← hx] at d0 d1 d2 d3 d4 d5 d6 HST HGO
      clear hx
      have hP := Blk.new wr 64 #[.string x.name, .int .i64 x.kind, .int .i64 x.above, .int .i64 x.weight, .bool x.six, .int .u64 x.hi, .int .u64 x.lo]
      have hW1 := hW.alloc hW.size (.cells #[.string x.name, .int .i64 x.kind, .int .i64 x.above, .int .i64 x.weight, .bool x.six, .int .u64 x.hi, .int .u64 x.lo] 64)
      have hown1 := hown.alloc (.cells #[.string x.name, .int .i64 x.kind, .int .i64 x.above, .int .i64 x.weight, .bool x.six, .int .u64 x.hi, .int .u64 x.lo] 64)
      go_upto_region 5 with (fail)
      generalize wr.alloc (.cells #[.string x.name, .int .i64 x.kind, .int .i64 x.above, .int .i64 x.weight, .bool x.six, .int .u64 x.hi, .int .u64 x.lo] 64) = u at *
      clear d0 d1 d2 d3 d4 d5 d6 hW hown
      obtain ⟨p0, p1, p2, p3, p4, p5, p6, _⟩ := hP.cells7
      have hF := diff_find A' m c' now x.name u (h'.keep hW1)
      obtain ⟨F, hF0⟩ : ∃ F, F = findN now x.name := ⟨_, rfl⟩
      rw [← hF0] at hF HGO
      clear hF0
      generalize ndAt now F = y at *
      unfold Nd.val at hF
      by_cases hF1 : F < 0
      · rw [decide_eq_false (show ¬ 0 ≤ F by omega)] at hF
        rw [if_pos hF1] at HGO
        have HE := Lib.hid (show out ++ [(x.name, 1)] = goneTo was now (k + 1) by rw [HST.out, HGO.out, HO.out])
        go_wp2_with fail
        refine hF.mono ?_; rintro e w5 ⟨rfl, hx5⟩
        have hP5 := (hP.keep hx5).alloc (.cells #[.string y.name, .int .i64 y.kind, .int .i64 y.above, .int .i64 y.weight, .bool y.six, .int .u64 y.hi, .int .u64 y.lo] 64)
        have hW5 := below_step hW1 hx5
        have hW5 := hW5.alloc hW5.size (.cells #[.string y.name, .int .i64 y.kind, .int .i64 y.above, .int .i64 y.weight, .bool y.six, .int .u64 y.hi, .int .u64 y.lo] 64)
        have hown5 := (own_keep hown1 hx5).alloc (.cells #[.string y.name, .int .i64 y.kind, .int .i64 y.above, .int .i64 y.weight, .bool y.six, .int .u64 y.hi, .int .u64 y.lo] 64)
        clear hP hW1 hown1 hF hx5 HST HGO HO p0 p1 p2 p3 p4 p5 p6 hF1
        obtain ⟨p0, _⟩ := hP5.cells7
        go_upto_region 6 with (fail)
        generalize w5.alloc (.cells #[.string y.name, .int .i64 y.kind, .int .i64 y.above, .int .i64 y.weight, .bool y.six, .int .u64 y.hi, .int .u64 y.lo] 64) = v at *
        go_wp2_with (at_builtin; go_loud (refine wpList_append_any _ rfl (.tmp 31) (.tmp 35) _ rfl w.heap.size 118 iC _ 2 24 Try.underlying115 hiC hzC hzC1 hzC2 rfl (by decide) _ out.length (chC out) rfl (hown5.alloc _) _ (some ⟨v.heap.size, 0, none⟩) 1 1 [.string x.name, .int .i64 1] rfl (one_reads v 118 2 [.string x.name, .int .i64 1] rfl) (by intro u hu; simp at hu; rcases hu with rfl | rfl <;> rfl) (by simp only [maxLen]; omega) (by omega) (by have := hW5.size; simp; omega) ?_; intro v6 w6 hown6 hg6 hat6))
        have hW6 := push_below (hW5.alloc hW5.size _) hg6 (own_from hown5)
        go_wp2
        go_roundg (n - (k + 1))
        case measure => omega
        case rel => exact ⟨k + 1, out ++ [(x.name, 1)], by omega, rfl, by go_num, by rw [chC_append, List.length_append]; simpa [chC] using hown6, hW6, HE⟩
      · rw [decide_eq_true (show 0 ≤ F by omega)] at hF
        rw [if_neg hF1] at HGO
        have HE := Lib.hid (show out = goneTo was now (k + 1) by rw [HST.out, HGO.out, HO.out, List.append_nil])
        go_wp2_with fail
        refine hF.mono ?_; rintro e w5 ⟨rfl, hx5⟩
        have hW5 := below_step hW1 hx5
        have hW6 := hW5.alloc hW5.size (.cells #[.string y.name, .int .i64 y.kind, .int .i64 y.above, .int .i64 y.weight, .bool y.six, .int .u64 y.hi, .int .u64 y.lo] 64)
        have hown6 := (own_keep hown1 hx5).alloc (.cells #[.string y.name, .int .i64 y.kind, .int .i64 y.above, .int .i64 y.weight, .bool y.six, .int .u64 y.hi, .int .u64 y.lo] 64)
        clear hP hW1 hown1 hF hx5 HST HGO HO p0 p1 p2 p3 p4 p5 p6 hF1 hW5
        go_wp2
        go_roundg (n - (k + 1))
        case measure => omega
        case rel => exact ⟨k + 1, out, by omega, rfl, by go_num, hown6, hW6, HE⟩
    · obtain rfl : k = n := by omega
      obtain ⟨G, hG⟩ : ∃ G, G = goneTo was now k := ⟨_, rfl⟩
      have HG := Lib.hid hG
      rw [← hG] at HO
      clear hG
      obtain rfl := HO.out
      clear HO hkn hk
      go_wp2_with fail
      go_loopg [5, 40] m (fun gg s5 s40 wr => ∃ (j : Nat) (o : List (ByteArray × Int)), j ≤ m ∧ gg = m - j ∧ s40 = .int .i64 j ∧ wr.ownsRow w.heap.size 118 2 s5 o.length (chC o) ∧ Below w.heap.size w wr ∧ Hid (o = out ++ moreTo was now j))
      case atStart => exact ⟨0, out, Nat.zero_le _, rfl, rfl, hown, hW, Lib.hid (show out = out ++ moreTo was now 0 from (List.append_nil out).symm)⟩
      case round =>
        clear hown hW
        obtain ⟨j, o, hj, rfl, rfl, hown, hW, HO⟩ := hrel
        have hol2 : o.length ≤ k + j * 3 := by rw [HO.out, List.length_append]; have := moreTo_le was now j; omega
        by_cases hjm : j < m
        · have hji : (j : Int) < (m : Int) := by omega
          have HST := Lib.hid (moreTo_step was now j (by rw [HLN.out]; exact hjm))
          have HGO := Lib.hid (show moreOf was now (now.getD j nd0) = if findN was (now.getD j nd0).name < 0 then [((now.getD j nd0).name, 2)] else parts (now.getD j nd0).name (placeN was now (ndAt was (findN was (now.getD j nd0).name)) (now.getD j nd0)) (!sameAddr (ndAt was (findN was (now.getD j nd0).name)) (now.getD j nd0)) ((ndAt was (findN was (now.getD j nd0).name)).weight != (now.getD j nd0).weight) 3 from rfl)
          obtain ⟨ad, rfl, hbk, d0, d1, d2, d3, d4, d5, d6⟩ := (h'.keep hW).at_ hjm
          obtain ⟨x, hx⟩ : ∃ x, x = now.getD j nd0 := ⟨_, rfl⟩
          rw [← hx] at d0 d1 d2 d3 d4 d5 d6 HST HGO
          clear hx
          have hP := Blk.new wr 64 #[.string x.name, .int .i64 x.kind, .int .i64 x.above, .int .i64 x.weight, .bool x.six, .int .u64 x.hi, .int .u64 x.lo]
          have hW1 := hW.alloc hW.size (.cells #[.string x.name, .int .i64 x.kind, .int .i64 x.above, .int .i64 x.weight, .bool x.six, .int .u64 x.hi, .int .u64 x.lo] 64)
          have hown1 := hown.alloc (.cells #[.string x.name, .int .i64 x.kind, .int .i64 x.above, .int .i64 x.weight, .bool x.six, .int .u64 x.hi, .int .u64 x.lo] 64)
          go_upto_region 12 with (fail)
          generalize wr.alloc (.cells #[.string x.name, .int .i64 x.kind, .int .i64 x.above, .int .i64 x.weight, .bool x.six, .int .u64 x.hi, .int .u64 x.lo] 64) = u at *
          clear d0 d1 d2 d3 d4 d5 d6 hW hown
          obtain ⟨p0, p1, p2, p3, p4, p5, p6, _⟩ := hP.cells7
          have hF := diff_find _ k c was x.name u (h.keep hW1)
          obtain ⟨F, hF0⟩ : ∃ F, F = findN was x.name := ⟨_, rfl⟩
          rw [← hF0] at hF HGO
          clear hF0
          generalize ndAt was F = y at *
          have hy := Lib.hid (rfl : y = y)
          unfold Nd.val at hF
          by_cases hF1 : F < 0
          · rw [decide_eq_false (show ¬ 0 ≤ F by omega)] at hF
            rw [if_pos hF1] at HGO
            have HE := Lib.hid (show o ++ [(x.name, 2)] = out ++ moreTo was now (j + 1) by rw [HST.out, HGO.out, HO.out, List.append_assoc])
            go_wp2_with fail
            refine hF.mono ?_; rintro e w5 ⟨rfl, hx5⟩
            have hP5 := (hP.keep hx5).alloc (.cells #[.string y.name, .int .i64 y.kind, .int .i64 y.above, .int .i64 y.weight, .bool y.six, .int .u64 y.hi, .int .u64 y.lo] 64)
            have hW5 := below_step hW1 hx5
            have hW5 := hW5.alloc hW5.size (.cells #[.string y.name, .int .i64 y.kind, .int .i64 y.above, .int .i64 y.weight, .bool y.six, .int .u64 y.hi, .int .u64 y.lo] 64)
            have hown5 := (own_keep hown1 hx5).alloc (.cells #[.string y.name, .int .i64 y.kind, .int .i64 y.above, .int .i64 y.weight, .bool y.six, .int .u64 y.hi, .int .u64 y.lo] 64)
            clear hP hW1 hown1 hF hx5 HST HGO HO p0 p1 p2 p3 p4 p5 p6 hF1
            obtain ⟨p0, _⟩ := hP5.cells7
            go_upto_region 13 with (fail)
            generalize w5.alloc (.cells #[.string y.name, .int .i64 y.kind, .int .i64 y.above, .int .i64 y.weight, .bool y.six, .int .u64 y.hi, .int .u64 y.lo] 64) = v at *
            go_wp2_with (at_builtin; go_loud (refine wpList_append_any _ rfl (.tmp 53) (.tmp 57) _ rfl w.heap.size 118 iC _ 2 24 Try.underlying115 hiC hzC hzC1 hzC2 rfl (by decide) _ o.length (chC o) rfl (hown5.alloc _) _ (some ⟨v.heap.size, 0, none⟩) 1 1 [.string x.name, .int .i64 2] rfl (one_reads v 118 2 [.string x.name, .int .i64 2] rfl) (by intro u hu; simp at hu; rcases hu with rfl | rfl <;> rfl) (by simp only [maxLen]; omega) (by omega) (by have := hW5.size; simp; omega) ?_; intro v6 w6 hown6 hg6 hat6))
            have hW6 := push_below (hW5.alloc hW5.size _) hg6 (own_from hown5)
            go_wp2
            go_roundg (m - (j + 1))
            case measure => omega
            case rel => exact ⟨j + 1, o ++ [(x.name, 2)], by omega, rfl, by go_num, by rw [chC_append, List.length_append]; simpa [chC] using hown6, hW6, HE⟩
          · rw [decide_eq_true (show 0 ≤ F by omega)] at hF
            rw [if_neg hF1] at HGO
            go_wp2_with fail
            refine hF.mono ?_; rintro e w5 ⟨rfl, hx5⟩
            have hP5 := (hP.keep hx5).alloc (.cells #[.string y.name, .int .i64 y.kind, .int .i64 y.above, .int .i64 y.weight, .bool y.six, .int .u64 y.hi, .int .u64 y.lo] 64)
            have hQ5 := Blk.new w5 64 #[.string y.name, .int .i64 y.kind, .int .i64 y.above, .int .i64 y.weight, .bool y.six, .int .u64 y.hi, .int .u64 y.lo]
            have hW5 := below_step hW1 hx5
            have hW5 := hW5.alloc hW5.size (.cells #[.string y.name, .int .i64 y.kind, .int .i64 y.above, .int .i64 y.weight, .bool y.six, .int .u64 y.hi, .int .u64 y.lo] 64)
            have hown5 := (own_keep hown1 hx5).alloc (.cells #[.string y.name, .int .i64 y.kind, .int .i64 y.above, .int .i64 y.weight, .bool y.six, .int .u64 y.hi, .int .u64 y.lo] 64)
            clear hP hW1 hown1 hF hx5 p0 p1 p2 p3 p4 p5 p6 hF1
            obtain ⟨p0, p1, p2, p3, p4, p5, p6, _⟩ := hP5.cells7
            obtain ⟨q0, q1, q2, q3, q4, q5, q6, _⟩ := hQ5.cells7
            go_upto_region 15 with (fail)
            generalize w5.alloc (.cells #[.string y.name, .int .i64 y.kind, .int .i64 y.above, .int .i64 y.weight, .bool y.six, .int .u64 y.hi, .int .u64 y.lo] 64) = v at *
            have AB : ∀ (A : Option Addr) (n c : Nat) (l : List Nd) (nm : ByteArray) (kd ab wt : Int) (sx : Bool) (hi lo : Int) (w : World), IsNodes w A n c l → Calls Try.prog 86 #[.slice A n c, .agg #[.string nm, .int .i64 kd, .int .i64 ab, .int .i64 wt, .bool sx, .int .u64 hi, .int .u64 lo]] w fun e w' => e = .returned (.string (ndAt l ab).name) ∧ Below w.heap.size w w' := fun A n c l nm kd ab wt sx hi lo w h => diff_above A n c l ⟨nm, kd, ab, wt, sx, hi, lo⟩ w h
            have hNW := h.keep hW5
            have hNN := h'.keep hW5
            obtain ⟨C4, hC4⟩ : ∃ C4, C4 = placeN was now y x := ⟨_, rfl⟩
            obtain ⟨C5, hC5⟩ : ∃ C5, C5 = !sameAddr y x := ⟨_, rfl⟩
            obtain ⟨C3, hC3⟩ : ∃ C3, C3 = (y.weight != x.weight) := ⟨_, rfl⟩
            rw [← hC4, ← hC5, ← hC3] at HGO
            have HPL := Lib.hid (show placeN was now y x = (y.kind != x.kind || !((ndAt was y.above).name.toList == (ndAt now x.above).name.toList)) from rfl)
            obtain ⟨bx, hbx⟩ : ∃ bx, bx = w5.heap.size := ⟨_, rfl⟩
            rw [← hbx] at q0 q1 q2 q3 q4 q5 q6 hQ5 ⊢
            obtain ⟨bn, hbn⟩ : ∃ bn, bn = wr.heap.size := ⟨_, rfl⟩
            rw [← hbn] at p0 p1 p2 p3 p4 p5 p6 hP5 ⊢
            clear hbx hbn hy
            go_cut [86, 87] (fun s86 s87 wx => s87 = .int .i64 0 ∧ s86 = .agg #[.int .i64 4, .bool C4, .int .i64 5, .bool C5, .int .i64 3, .bool C3] ∧ Below v.heap.size v wx)
            case first =>
              have U0 := cell_under p0
              have U1 := cell_under p1
              have U2 := cell_under p2
              have U3 := cell_under p3
              have U4 := cell_under p4
              have U5 := cell_under p5
              have U6 := cell_under p6
              have V0 := cell_under q0
              have V1 := cell_under q1
              have V2 := cell_under q2
              have V3 := cell_under q3
              have V4 := cell_under q4
              have V5 := cell_under q5
              have V6 := cell_under q6
              have H5n : (!(y.six == x.six && y.hi == x.hi && y.lo == x.lo)) = C5 := hC5.symm
              have H3 := Lib.hid hC3
              by_cases hkd : y.kind = x.kind
              · have g1 : (y.kind != x.kind) = false := by simp [hkd]
                have H4 := Lib.hid (show C4 = !((ndAt was y.above).name.toList == (ndAt now x.above).name.toList) by rw [hC4, HPL.out, g1]; rfl)
                clear hkd hC4 hC5 hC3 p0 p1 p2 p3 p4 p5 p6 q0 q1 q2 q3 q4 q5 q6
                refine wp_region_quiet_under (by kernel_rfl) (by kernel_rfl) ?_
                iterate 19 (go_big_quiet_step ((go_at_call 86; exact calls_under (AB _ _ _ _ _ _ _ _ _ _ _ _ (by first | exact hNW.keep (under_below _ _) | exact hNN.keep (under_below _ _))))))
                go_big_quiet_want
                refine quiet_neq_addr H5n rfl rfl rfl ?_
                simp only [Act.put, List.setIfInBounds_toArray, List.set_cons_zero, List.set_cons_succ]
                go_big_quiet_on
                repeat (go_big_quiet_step (fail))
                refine wpQuiet_nil ?_
                intro wu hw'
                obtain ⟨pq, hw''⟩ := hw'
                have hU := below_eq hw''
                clear hw'' pq
                go_wp2_with fail
                go_meet
                exact ⟨rfl, by rw [H4.out, H3.out], hU⟩
              · have g1 : (y.kind != x.kind) = true := by simp [hkd]
                have H4 := Lib.hid (show C4 = true by rw [hC4, HPL.out, g1]; rfl)
                clear hkd hC4 hC5 hC3 p0 p1 p2 p3 p4 p5 p6 q0 q1 q2 q3 q4 q5 q6
                refine wp_region_quiet_under (by kernel_rfl) (by kernel_rfl) ?_
                iterate 19 (go_big_quiet_step (fail))
                go_big_quiet_want
                refine quiet_neq_addr H5n rfl rfl rfl ?_
                simp only [Act.put, List.setIfInBounds_toArray, List.set_cons_zero, List.set_cons_succ]
                go_big_quiet_on
                repeat (go_big_quiet_step (fail))
                refine wpQuiet_nil ?_
                intro wu hw'
                obtain ⟨pq, hw''⟩ := hw'
                have hU := below_eq hw''
                clear hw'' pq
                go_wp2_with fail
                go_meet
                exact ⟨rfl, by rw [H4.out, H3.out], hU⟩
            case rest =>
              obtain ⟨rfl, rfl, hU⟩ := hcut
              have HE := Lib.hid (show o ++ parts x.name C4 C5 C3 3 = out ++ moreTo was now (j + 1) by rw [HST.out, HGO.out, HO.out, List.append_assoc])
              have hPc := hP5.keep hU
              have hWc := below_step hW5 hU
              have hownc := own_keep hown5 hU
              clear HST HGO HO HPL hC4 hC5 hC3 hP5 hQ5 hW5 hown5 hU AB hNW hNN p0 p1 p2 p3 p4 p5 p6 q0 q1 q2 q3 q4 q5 q6
              go_wp2_with fail
              go_loopg [5, 87] 3 (fun gg s5 s87 wr => ∃ (i : Nat) (o' : List (ByteArray × Int)), i ≤ 3 ∧ gg = 3 - i ∧ s87 = .int .i64 i ∧ wr.ownsRow w.heap.size 118 2 s5 o'.length (chC o') ∧ Below w.heap.size w wr ∧ Hid (o' = o ++ parts x.name C4 C5 C3 i) ∧ Blk wr bn 64 #[.string x.name, .int .i64 x.kind, .int .i64 x.above, .int .i64 x.weight, .bool x.six, .int .u64 x.hi, .int .u64 x.lo])
              case atStart => exact ⟨0, o, Nat.zero_le _, rfl, rfl, hownc, hWc, Lib.hid (by rw [parts_zero, List.append_nil]), hPc⟩
              case round =>
                clear hPc hWc hownc
                obtain ⟨i, o', hi, rfl, rfl, hown, hW, HO, hP⟩ := hrel
                have hol3 : o'.length ≤ k + j * 3 + 3 := by rw [HO.out, List.length_append]; have := parts_le x.name C4 C5 C3 i; omega
                obtain ⟨p0, _⟩ := hP.cells7
                by_cases hi3 : i < 3
                · have I0 := idx_0
                  have I1 := idx_1
                  have I2 := idx_2
                  rcases (by omega : i = 0 ∨ i = 1 ∨ i = 2) with rfl | rfl | rfl
                  · have HS := Lib.hid (parts_step0 x.name C4 C5 C3)
                    clear hi hi3
                    cases C4 with
                    | true =>
                      have HE2 := Lib.hid (show o' ++ [(x.name, 4)] = o ++ parts x.name true C5 C3 1 by rw [HS.out, HO.out, List.append_assoc]; rfl)
                      have hB := Blk.new wr 142 #[.int .i64 4, .bool true]
                      have hP1 := hP.alloc (.cells #[.int .i64 4, .bool true] 142)
                      have hW1 := hW.alloc hW.size (.cells #[.int .i64 4, .bool true] 142)
                      have hown1 := hown.alloc (.cells #[.int .i64 4, .bool true] 142)
                      clear HS HO hown hW p0
                      go_upto_region 18 with (fail)
                      generalize wr.alloc (.cells #[.int .i64 4, .bool true] 142) = u5 at *
                      obtain ⟨p0, _⟩ := hP1.cells7
                      obtain ⟨b0, b1, _⟩ := hB.cells2
                      go_wp2_with (at_builtin; go_loud (refine wpList_append_any _ rfl (.tmp 92) (.tmp 98) _ rfl w.heap.size 118 iC _ 2 24 Try.underlying115 hiC hzC hzC1 hzC2 rfl (by decide) _ o'.length (chC o') rfl (hown1.alloc _) _ (some ⟨u5.heap.size, 0, none⟩) 1 1 [.string x.name, .int .i64 4] rfl (one_reads u5 118 2 [.string x.name, .int .i64 4] rfl) (by intro u hu; simp at hu; rcases hu with rfl | rfl <;> rfl) (by simp only [maxLen]; omega) (by omega) (by have := hW1.size; simp; omega) ?_; intro v6 w6 hown6 hg6 hat6))
                      have hW6 := push_below (hW1.alloc hW1.size _) hg6 (own_from hown1)
                      have hP6 := (hP1.alloc (.cells #[.string x.name, .int .i64 4] 118)).grown hg6 (blk_type (hP1.alloc (.cells #[.string x.name, .int .i64 4] 118)) (hown1.alloc (.cells #[.string x.name, .int .i64 4] 118)) (by decide))
                      go_wp2
                      go_roundg (3 - 1)
                      case measure => omega
                      case rel => exact ⟨1, o' ++ [(x.name, 4)], by omega, rfl, by go_num, by rw [chC_append, List.length_append]; simpa [chC] using hown6, hW6, HE2, hP6⟩
                    | false =>
                      have HE2 := Lib.hid (show o' = o ++ parts x.name false C5 C3 1 by rw [HS.out, HO.out, if_neg (by simp), List.append_nil])
                      have hP1 := hP.alloc (.cells #[.int .i64 4, .bool false] 142)
                      have hW1 := hW.alloc hW.size (.cells #[.int .i64 4, .bool false] 142)
                      have hown1 := hown.alloc (.cells #[.int .i64 4, .bool false] 142)
                      clear HS HO hown hW p0
                      go_wp2
                      go_roundg (3 - 1)
                      case measure => omega
                      case rel => exact ⟨1, o', by omega, rfl, by go_num, hown1, hW1, HE2, hP1⟩
                  · have HS := Lib.hid (parts_step1 x.name C4 C5 C3)
                    clear hi hi3
                    cases C5 with
                    | true =>
                      have HE2 := Lib.hid (show o' ++ [(x.name, 5)] = o ++ parts x.name C4 true C3 2 by rw [HS.out, HO.out, List.append_assoc]; rfl)
                      have hB := Blk.new wr 142 #[.int .i64 5, .bool true]
                      have hP1 := hP.alloc (.cells #[.int .i64 5, .bool true] 142)
                      have hW1 := hW.alloc hW.size (.cells #[.int .i64 5, .bool true] 142)
                      have hown1 := hown.alloc (.cells #[.int .i64 5, .bool true] 142)
                      clear HS HO hown hW p0
                      go_upto_region 18 with (fail)
                      generalize wr.alloc (.cells #[.int .i64 5, .bool true] 142) = u5 at *
                      obtain ⟨p0, _⟩ := hP1.cells7
                      obtain ⟨b0, b1, _⟩ := hB.cells2
                      go_wp2_with (at_builtin; go_loud (refine wpList_append_any _ rfl (.tmp 92) (.tmp 98) _ rfl w.heap.size 118 iC _ 2 24 Try.underlying115 hiC hzC hzC1 hzC2 rfl (by decide) _ o'.length (chC o') rfl (hown1.alloc _) _ (some ⟨u5.heap.size, 0, none⟩) 1 1 [.string x.name, .int .i64 5] rfl (one_reads u5 118 2 [.string x.name, .int .i64 5] rfl) (by intro u hu; simp at hu; rcases hu with rfl | rfl <;> rfl) (by simp only [maxLen]; omega) (by omega) (by have := hW1.size; simp; omega) ?_; intro v6 w6 hown6 hg6 hat6))
                      have hW6 := push_below (hW1.alloc hW1.size _) hg6 (own_from hown1)
                      have hP6 := (hP1.alloc (.cells #[.string x.name, .int .i64 5] 118)).grown hg6 (blk_type (hP1.alloc (.cells #[.string x.name, .int .i64 5] 118)) (hown1.alloc (.cells #[.string x.name, .int .i64 5] 118)) (by decide))
                      go_wp2
                      go_roundg (3 - 2)
                      case measure => omega
                      case rel => exact ⟨2, o' ++ [(x.name, 5)], by omega, rfl, by go_num, by rw [chC_append, List.length_append]; simpa [chC] using hown6, hW6, HE2, hP6⟩
                    | false =>
                      have HE2 := Lib.hid (show o' = o ++ parts x.name C4 false C3 2 by rw [HS.out, HO.out, if_neg (by simp), List.append_nil])
                      have hP1 := hP.alloc (.cells #[.int .i64 5, .bool false] 142)
                      have hW1 := hW.alloc hW.size (.cells #[.int .i64 5, .bool false] 142)
                      have hown1 := hown.alloc (.cells #[.int .i64 5, .bool false] 142)
                      clear HS HO hown hW p0
                      go_wp2
                      go_roundg (3 - 2)
                      case measure => omega
                      case rel => exact ⟨2, o', by omega, rfl, by go_num, hown1, hW1, HE2, hP1⟩
                  · have HS := Lib.hid (parts_step2 x.name C4 C5 C3)
                    clear hi hi3
                    cases C3 with
                    | true =>
                      have HE2 := Lib.hid (show o' ++ [(x.name, 3)] = o ++ parts x.name C4 C5 true 3 by rw [HS.out, HO.out, List.append_assoc]; rfl)
                      have hB := Blk.new wr 142 #[.int .i64 3, .bool true]
                      have hP1 := hP.alloc (.cells #[.int .i64 3, .bool true] 142)
                      have hW1 := hW.alloc hW.size (.cells #[.int .i64 3, .bool true] 142)
                      have hown1 := hown.alloc (.cells #[.int .i64 3, .bool true] 142)
                      clear HS HO hown hW p0
                      go_upto_region 18 with (fail)
                      generalize wr.alloc (.cells #[.int .i64 3, .bool true] 142) = u5 at *
                      obtain ⟨p0, _⟩ := hP1.cells7
                      obtain ⟨b0, b1, _⟩ := hB.cells2
                      go_wp2_with (at_builtin; go_loud (refine wpList_append_any _ rfl (.tmp 92) (.tmp 98) _ rfl w.heap.size 118 iC _ 2 24 Try.underlying115 hiC hzC hzC1 hzC2 rfl (by decide) _ o'.length (chC o') rfl (hown1.alloc _) _ (some ⟨u5.heap.size, 0, none⟩) 1 1 [.string x.name, .int .i64 3] rfl (one_reads u5 118 2 [.string x.name, .int .i64 3] rfl) (by intro u hu; simp at hu; rcases hu with rfl | rfl <;> rfl) (by simp only [maxLen]; omega) (by omega) (by have := hW1.size; simp; omega) ?_; intro v6 w6 hown6 hg6 hat6))
                      have hW6 := push_below (hW1.alloc hW1.size _) hg6 (own_from hown1)
                      have hP6 := (hP1.alloc (.cells #[.string x.name, .int .i64 3] 118)).grown hg6 (blk_type (hP1.alloc (.cells #[.string x.name, .int .i64 3] 118)) (hown1.alloc (.cells #[.string x.name, .int .i64 3] 118)) (by decide))
                      go_wp2
                      go_roundg (3 - 3)
                      case measure => omega
                      case rel => exact ⟨3, o' ++ [(x.name, 3)], by omega, rfl, by go_num, by rw [chC_append, List.length_append]; simpa [chC] using hown6, hW6, HE2, hP6⟩
                    | false =>
                      have HE2 := Lib.hid (show o' = o ++ parts x.name C4 C5 false 3 by rw [HS.out, HO.out, if_neg (by simp), List.append_nil])
                      have hP1 := hP.alloc (.cells #[.int .i64 3, .bool false] 142)
                      have hW1 := hW.alloc hW.size (.cells #[.int .i64 3, .bool false] 142)
                      have hown1 := hown.alloc (.cells #[.int .i64 3, .bool false] 142)
                      clear HS HO hown hW p0
                      go_wp2
                      go_roundg (3 - 3)
                      case measure => omega
                      case rel => exact ⟨3, o', by omega, rfl, by go_num, hown1, hW1, HE2, hP1⟩
                · obtain rfl : i = 3 := by omega
                  have HE3 := Lib.hid (HO.out.trans HE.out)
                  clear HO HE hP p0
                  go_wp2
                  go_roundg (m - (j + 1))
                  case measure => omega
                  case rel => exact ⟨j + 1, o', by omega, rfl, by go_num, hown, hW, HE3⟩
        · obtain rfl : j = m := by omega
          have HE := Lib.hid (show o = allCh was now by unfold allCh; rw [HO.out, HG.out, HLW.out, HLN.out])
          go_wp2
          go_ret
          exact ⟨_, rfl, by rw [← HE.out]; exact hown, hW⟩
end Go.Proofs.Ytblbgafadadbmaa
end
section
/- DiffNodes. -/
set_option linter.unusedVariables false
namespace Go.Proofs.Ytblbgafadadbmaa
open Go.RowKit
set_option maxHeartbeats 8000000
set_option maxRecDepth 100000
theorem run_neq_addr (a b : Bool) (p q r s : Int) (w : World) : (binOp .neq 62 (.agg #[.bool a, .int .u64 p, .int .u64 q]) (.agg #[.bool b, .int .u64 r, .int .u64 s])).run Try.prog w = .ok (.bool (!(a == b && p == r && q == s))) w := by
  rw [run_neq_struct, eq_addr]; rfl
theorem eq_change (a b : ByteArray) (p q : Int) (w : World) : (Op.equalIn 10000 118 (.agg #[.string a, .int .i64 p]) (.agg #[.string b, .int .i64 q])).run Try.prog w = .ok (sameName a b && p == q) w := by
  unfold sameName
  go_simp
  (repeat' split) <;> simp_all
theorem run_neq_change (a b : ByteArray) (p q : Int) (w : World) : (binOp .neq 118 (.agg #[.string a, .int .i64 p]) (.agg #[.string b, .int .i64 q])).run Try.prog w = .ok (.bool (!(sameName a b && p == q))) w := by
  rw [run_neq_struct, eq_change]; rfl
theorem run_eq_change (a b : ByteArray) (p q : Int) (w : World) : (binOp .eql 118 (.agg #[.string a, .int .i64 p]) (.agg #[.string b, .int .i64 q])).run Try.prog w = .ok (.bool (sameName a b && p == q)) w := by
  rw [run_eql_struct, eq_change]; rfl
theorem eqG_change (op : BinOp) (x y : Operand) (a b : ByteArray) (p q : Int) (w : World) : (eqGuard op 118 x y (.agg #[.string a, .int .i64 p]) (.agg #[.string b, .int .i64 q])).run Try.prog w = .ok () w := by
  go_simp
theorem quiet_neq_change {A : Act} {o : Oper} {x y : Operand} {t : TypeId} {a b : ByteArray} {p q : Int} {E : Bool} {C : World → Prop} {K : Act → Prop} (hE : (!(sameName a b && p == q)) = E) (ho : o.op = .binOp .neq 118 x y t) (hx : A.eval x = .agg #[.string a, .int .i64 p]) (hy : A.eval y = .agg #[.string b, .int .i64 q])
    (h : K (A.put o.dst (.bool E))) : o.quiet Try.prog A C K :=
  ⟨.bool E, fun w _ => by
    unfold Oper.quietAt execOp
    have h1 := eqG_change .neq x y a b p q w
    have h2 := run_neq_change a b p q w
    simp only [ho, hx, hy, Sem.run_bind, h1, h2, Result.andThen_ok, Sem.run_pure, hE]
    exact ⟨rfl, rfl⟩, h⟩
def dfA : List Nd := [⟨⟨#[97]⟩, 0, 0, 1, false, 0, 0⟩]
def dfB : List Nd := [⟨⟨#[97]⟩, 0, 0, 2, false, 0, 0⟩]
theorem df_all : allCh dfA dfB = [(⟨#[97]⟩, 3)] := by decide +kernel
theorem df_wf1 : (⟨⟨#[97]⟩, 0, 0, 1, false, 0, 0⟩ : Nd).Wf := by constructor <;> decide
theorem df_wf2 : (⟨⟨#[97]⟩, 0, 0, 2, false, 0, 0⟩ : Nd).Wf := by constructor <;> decide
theorem add_off (g o : Nat) : (⟨g, 0, none⟩ : Addr).add o = ⟨g, o, none⟩ := by unfold Addr.add; split <;> simp_all
theorem one_node {w : World} {g : Nat} (z : Int) (hz : (⟨⟨#[97]⟩, 0, 0, z, false, 0, 0⟩ : Nd).Wf) (hB : Blk w g 64 ⟨flat [⟨⟨#[97]⟩, 0, 0, z, false, 0, 0⟩]⟩) : IsNodes w (some ⟨g, 0, none⟩) 1 1 [⟨⟨#[97]⟩, 0, 0, z, false, 0, 0⟩] :=
  ⟨by
    have h := lit_reads hB 7 1 rfl
    exact ⟨h.1, fun hn => by
      obtain ⟨ad, e, _, hc⟩ := h.2 hn
      injection e with e
      subst e
      exact ⟨_, rfl, hB.lt, hc⟩⟩, rfl, Nat.le_refl _, by decide, by decide, fun x hx => by simp at hx; subst hx; exact hz⟩
theorem law43_awake (w : World) : Calls Try.prog 32 #[] w fun e w' => e = .returned (.bool true) ∧ Below w.heap.size w w' := by
  have hx1 : Below w.heap.size w (w.alloc (.cells ⟨flat dfA⟩ 64)) := (Below.refl _ _).alloc (Nat.le_refl _) _
  have hx2 : Below w.heap.size w ((w.alloc (.cells ⟨flat dfA⟩ 64)).alloc (.cells ⟨flat dfB⟩ 64)) := hx1.alloc hx1.size _
  have hA := (Blk.new w 64 ⟨flat dfA⟩).alloc (.cells ⟨flat dfB⟩ 64)
  have hB := Blk.new (w.alloc (.cells ⟨flat dfA⟩ 64)) 64 ⟨flat dfB⟩
  have hsz : (w.alloc (.cells ⟨flat dfA⟩ 64)).heap.size = w.heap.size + 1 := by simp
  rw [hsz] at hB
  have hOf := diff_Of _ 1 1 dfA _ 1 1 dfB _ (one_node 1 df_wf1 hA) (one_node 2 df_wf2 hB) (by decide) (by decide)
  rw [df_all] at hOf
  have hq := fun w => run_eq_change ⟨#[97]⟩ ⟨#[97]⟩ 3 3 w
  rw [show (sameName ⟨#[97]⟩ ⟨#[97]⟩ && (3 : Int) == 3) = true from by decide +kernel] at hq
  clear hA hB hsz hx1
  go_enter Try.func32, Try.ntmps32
  go_wp2_with fail
  refine hOf.mono ?_; rintro e w1 ⟨v, rfl, hown, hx⟩
  have hW := below_step hx2 hx
  obtain ⟨r, c', rfl, hr, _⟩ := hown.form (by decide)
  have c0 := hown.cells (g := r) rfl 0 (.string ⟨#[97]⟩) rfl
  have c1 := hown.cells (g := r) rfl 1 (.int .i64 3) rfl
  rw [add_off] at c0 c1
  clear hOf hown hx hx2
  go_wp2
  go_ret
  exact ⟨rfl, hW⟩
end Go.Proofs.Ytblbgafadadbmaa
end
