/- DiffNodes. -/
import Derived.Test.YtdkijmiflommeaaDiffB
set_option linter.unusedVariables false
namespace Go.Proofs.Ytdkijmiflommeaa
open Go.RowKit
set_option maxHeartbeats 8000000
set_option maxRecDepth 100000
theorem run_neq_addr (a b : Bool) (p q r s : Int) (w : World) : (binOp .neq 32 (.agg #[.bool a, .int .u64 p, .int .u64 q]) (.agg #[.bool b, .int .u64 r, .int .u64 s])).run Try.prog w = .ok (.bool (!(a == b && p == r && q == s))) w := by
  rw [run_neq_struct, eq_addr]; rfl
theorem eq_change (a b : ByteArray) (p q : Int) (w : World) : (Op.equalIn 10000 56 (.agg #[.string a, .int .i64 p]) (.agg #[.string b, .int .i64 q])).run Try.prog w = .ok (sameName a b && p == q) w := by
  unfold sameName
  go_simp
  (repeat' split) <;> simp_all
theorem run_neq_change (a b : ByteArray) (p q : Int) (w : World) : (binOp .neq 56 (.agg #[.string a, .int .i64 p]) (.agg #[.string b, .int .i64 q])).run Try.prog w = .ok (.bool (!(sameName a b && p == q))) w := by
  rw [run_neq_struct, eq_change]; rfl
theorem run_eq_change (a b : ByteArray) (p q : Int) (w : World) : (binOp .eql 56 (.agg #[.string a, .int .i64 p]) (.agg #[.string b, .int .i64 q])).run Try.prog w = .ok (.bool (sameName a b && p == q)) w := by
  rw [run_eql_struct, eq_change]; rfl
theorem eqG_change (op : BinOp) (x y : Operand) (a b : ByteArray) (p q : Int) (w : World) : (eqGuard op 56 x y (.agg #[.string a, .int .i64 p]) (.agg #[.string b, .int .i64 q])).run Try.prog w = .ok () w := by
  go_simp
theorem quiet_neq_change {A : Act} {o : Oper} {x y : Operand} {t : TypeId} {a b : ByteArray} {p q : Int} {E : Bool} {C : World → Prop} {K : Act → Prop} (hE : (!(sameName a b && p == q)) = E) (ho : o.op = .binOp .neq 56 x y t) (hx : A.eval x = .agg #[.string a, .int .i64 p]) (hy : A.eval y = .agg #[.string b, .int .i64 q])
    (h : K (A.put o.dst (.bool E))) : o.quiet Try.prog A C K :=
  ⟨.bool E, fun w _ => by
    unfold Oper.quietAt execOp
    have h1 := eqG_change .neq x y a b p q w
    have h2 := run_neq_change a b p q w
    simp only [ho, hx, hy, Sem.run_bind, h1, h2, Result.andThen_ok, Sem.run_pure, hE]
    exact ⟨rfl, rfl⟩, h⟩
def dfA : List Nd := [⟨⟨#[97]⟩, 0, 0, 1, false, 0, 0⟩]
def dfB : List Nd := [⟨⟨#[97]⟩, 0, 0, 2, false, 0, 0⟩]
theorem df_all : allCh dfA dfB = [(⟨#[97]⟩, 3)] := by decide +kernel
theorem df_wf1 : (⟨⟨#[97]⟩, 0, 0, 1, false, 0, 0⟩ : Nd).Wf := by constructor <;> decide
theorem df_wf2 : (⟨⟨#[97]⟩, 0, 0, 2, false, 0, 0⟩ : Nd).Wf := by constructor <;> decide
theorem add_off (g o : Nat) : (⟨g, 0, none⟩ : Addr).add o = ⟨g, o, none⟩ := by unfold Addr.add; split <;> simp_all
theorem one_node {w : World} {g : Nat} (z : Int) (hz : (⟨⟨#[97]⟩, 0, 0, z, false, 0, 0⟩ : Nd).Wf) (hB : Blk w g 34 ⟨flat [⟨⟨#[97]⟩, 0, 0, z, false, 0, 0⟩]⟩) : IsNodes w (some ⟨g, 0, none⟩) 1 1 [⟨⟨#[97]⟩, 0, 0, z, false, 0, 0⟩] :=
  ⟨by
    have h := lit_reads hB 7 1 rfl
    exact ⟨h.1, fun hn => by
      obtain ⟨ad, e, _, hc⟩ := h.2 hn
      injection e with e
      subst e
      exact ⟨_, rfl, hB.lt, hc⟩⟩, rfl, Nat.le_refl _, by decide, by decide, fun x hx => by simp at hx; subst hx; exact hz⟩
theorem law43_awake (w : World) : Calls Try.prog 37 #[] w fun e w' => e = .returned (.bool true) ∧ Below w.heap.size w w' := by
  have hx1 : Below w.heap.size w (w.alloc (.cells ⟨flat dfA⟩ 34)) := (Below.refl _ _).alloc (Nat.le_refl _) _
  have hx2 : Below w.heap.size w ((w.alloc (.cells ⟨flat dfA⟩ 34)).alloc (.cells ⟨flat dfB⟩ 34)) := hx1.alloc hx1.size _
  have hA := (Blk.new w 34 ⟨flat dfA⟩).alloc (.cells ⟨flat dfB⟩ 34)
  have hB := Blk.new (w.alloc (.cells ⟨flat dfA⟩ 34)) 34 ⟨flat dfB⟩
  have hsz : (w.alloc (.cells ⟨flat dfA⟩ 34)).heap.size = w.heap.size + 1 := by simp
  rw [hsz] at hB
  have hOf := diff_Of _ 1 1 dfA _ 1 1 dfB _ (one_node 1 df_wf1 hA) (one_node 2 df_wf2 hB) (by decide) (by decide)
  rw [df_all] at hOf
  have hq := fun w => run_eq_change ⟨#[97]⟩ ⟨#[97]⟩ 3 3 w
  rw [show (sameName ⟨#[97]⟩ ⟨#[97]⟩ && (3 : Int) == 3) = true from by decide +kernel] at hq
  clear hA hB hsz hx1
  go_enter Try.func37, Try.ntmps37
  go_wp2_with fail
  refine hOf.mono ?_; rintro e w1 ⟨v, rfl, hown, hx⟩
  have hW := below_step hx2 hx
  obtain ⟨r, c', rfl, hr, _⟩ := hown.form (by decide)
  have c0 := hown.cells (g := r) rfl 0 (.string ⟨#[97]⟩) rfl
  have c1 := hown.cells (g := r) rfl 1 (.int .i64 3) rfl
  rw [add_off] at c0 c1
  clear hOf hown hx hx2
  go_wp2
  go_ret
  exact ⟨rfl, hW⟩
theorem diffNodes_walk (w : World) (A : Option Addr) (n0 c : Nat) (l0 : List Nd) (hl0 : IsNodes w A n0 c l0) (A' : Option Addr) (m0 c' : Nat) (r0 : List Nd) (hr0 : IsNodes w A' m0 c' r0) :
    Calls Try.prog 7 #[.slice A n0 c, .slice A' m0 c'] w fun e w' => e = .returned (.bool true) ∧ Below w.heap.size w w' := by
  obtain ⟨iC, hiC, hzC, hzC1, hzC2⟩ := info_parts Try.infoChange
  have hF1 := fun w => law_Few A n0 c hl0.cap hl0.small w
  have hF2 := fun w => law_Few A' m0 c' hr0.cap hr0.small w
  have h := hl0.cut (k := min n0 60) (by omega)
  have h' := hr0.cut (k := min m0 60) (by omega)
  have hn60 : min n0 60 ≤ 60 := by omega
  have hm60 : min m0 60 ≤ 60 := by omega
  generalize min n0 60 = n at *
  generalize l0.take n = was at *
  generalize min m0 60 = m at *
  generalize r0.take m = now at *
  clear hl0 hr0
  have hcap := h.cap
  have hsm := h.small
  have hcap' := h'.cap
  have hsm' := h'.small
  have HLW := Lib.hid h.len
  have HLN := Lib.hid h'.len
  go_enter Try.func7, Try.ntmps7
  go_wp2_with fail
  refine (hF1 _).mono ?_; rintro e w' ⟨rfl, rfl⟩
  go_wp2_with fail
  refine (hF2 _).mono ?_; rintro e w' ⟨rfl, rfl⟩
  clear hF1 hF2
  go_wp2_with fail
  go_loopg [5, 6] n (fun gg s5 s6 wr => ∃ (k : Nat) (out : List (ByteArray × Int)), k ≤ n ∧ gg = n - k ∧ s6 = .int .i64 k ∧ wr.ownsRow w.heap.size 56 2 s5 out.length (chC out) ∧ Below w.heap.size w wr ∧ Hid (out = goneTo was now k))
  case atStart => exact ⟨0, [], Nat.zero_le _, rfl, rfl, World.ownsRow_nil _ _ _ _, Below.refl _ _, Lib.hid rfl⟩
  case round =>
    obtain ⟨k, out, hk, rfl, rfl, hown, hW, HO⟩ := hrel
    have hol : out.length ≤ k := by rw [HO.out]; exact goneTo_le _ _ _
    by_cases hkn : k < n
    · have hki : (k : Int) < (n : Int) := by omega
      have HST := Lib.hid (goneTo_step was now k (by rw [HLW.out]; exact hkn))
      have HGO := Lib.hid (show goneOf now (was.getD k nd0) = if findN now (was.getD k nd0).name < 0 then [((was.getD k nd0).name, 1)] else [] from rfl)
      obtain ⟨ad, rfl, hbk, d0, d1, d2, d3, d4, d5, d6⟩ := (h.keep hW).at_ hkn
      obtain ⟨x, hx⟩ : ∃ x, x = was.getD k nd0 := ⟨_, rfl⟩
      rw [← hx] at d0 d1 d2 d3 d4 d5 d6 HST HGO
      clear hx
      have hF := law43_find A' m c' now x.name wr (h'.keep hW)
      obtain ⟨F, hF0⟩ : ∃ F, F = findN now x.name := ⟨_, rfl⟩
      rw [← hF0] at hF HGO
      clear hF0
      by_cases hF1 : F < 0
      · rw [if_pos hF1] at HGO
        have HE := Lib.hid (show out ++ [(x.name, 1)] = goneTo was now (k + 1) by rw [HST.out, HGO.out, HO.out])
        go_wp2_with fail
        refine hF.mono ?_; rintro e w' ⟨rfl, rfl⟩
        clear hF HST HGO HO
        go_wp2_with (at_builtin; go_loud (refine wpList_append_any _ rfl (.tmp 31) (.tmp 38) _ rfl w.heap.size 56 iC _ 2 24 Try.underlying53 hiC hzC hzC1 hzC2 rfl (by decide) _ out.length (chC out) rfl (hown.alloc _) _ (some ⟨wr.heap.size, 0, none⟩) 1 1 [.string x.name, .int .i64 1] rfl (one_reads wr 56 2 [.string x.name, .int .i64 1] rfl) (by intro u hu; simp at hu; rcases hu with rfl | rfl <;> rfl) (by simp only [maxLen]; omega) (by omega) (by have := hW.size; simp; omega) ?_; intro v6 w6 hown6 hg6 hat6))
        have hW6 := push_below (hW.alloc hW.size _) hg6 (own_from hown)
        go_wp2
        go_roundg (n - (k + 1))
        case measure => omega
        case rel => exact ⟨k + 1, out ++ [(x.name, 1)], by omega, rfl, by go_num, by rw [chC_append, List.length_append]; simpa [chC] using hown6, hW6, HE⟩
      · rw [if_neg hF1] at HGO
        have HE := Lib.hid (show out = goneTo was now (k + 1) by rw [HST.out, HGO.out, HO.out, List.append_nil])
        go_wp2_with fail
        refine hF.mono ?_; rintro e w' ⟨rfl, rfl⟩
        clear hF HST HGO HO
        go_wp2
        go_roundg (n - (k + 1))
        case measure => omega
        case rel => exact ⟨k + 1, out, by omega, rfl, by go_num, hown, hW, HE⟩
    · obtain rfl : k = n := by omega
      obtain ⟨G, hG⟩ : ∃ G, G = goneTo was now k := ⟨_, rfl⟩
      have HG := Lib.hid hG
      rw [← hG] at HO
      clear hG
      obtain rfl := HO.out
      clear HO hkn hk
      go_wp2_with fail
      go_loopg [5, 7] m (fun gg s5 s7 wr => ∃ (j : Nat) (o : List (ByteArray × Int)), j ≤ m ∧ gg = m - j ∧ s7 = .int .i64 j ∧ wr.ownsRow w.heap.size 56 2 s5 o.length (chC o) ∧ Below w.heap.size w wr ∧ Hid (o = out ++ moreTo was now j))
      case atStart => exact ⟨0, out, Nat.zero_le _, rfl, rfl, hown, hW, Lib.hid (show out = out ++ moreTo was now 0 from (List.append_nil out).symm)⟩
      case round =>
        clear hown hW
        obtain ⟨j, o, hj, rfl, rfl, hown, hW, HO⟩ := hrel
        have hol2 : o.length ≤ k + j * 3 := by rw [HO.out, List.length_append]; have := moreTo_le was now j; omega
        by_cases hjm : j < m
        · have hji : (j : Int) < (m : Int) := by omega
          have HST := Lib.hid (moreTo_step was now j (by rw [HLN.out]; exact hjm))
          have HGO := Lib.hid (show moreOf was now (now.getD j nd0) = if findN was (now.getD j nd0).name < 0 then [((now.getD j nd0).name, 2)] else parts (now.getD j nd0).name (placeN was now (ndAt was (findN was (now.getD j nd0).name)) (now.getD j nd0)) (!sameAddr (ndAt was (findN was (now.getD j nd0).name)) (now.getD j nd0)) ((ndAt was (findN was (now.getD j nd0).name)).weight != (now.getD j nd0).weight) 3 from rfl)
          obtain ⟨ad, rfl, hbk, d0, d1, d2, d3, d4, d5, d6⟩ := (h'.keep hW).at_ hjm
          obtain ⟨x, hx⟩ : ∃ x, x = now.getD j nd0 := ⟨_, rfl⟩
          rw [← hx] at d0 d1 d2 d3 d4 d5 d6 HST HGO
          clear hx
          have hP := Blk.new wr 34 #[.string x.name, .int .i64 x.kind, .int .i64 x.above, .int .i64 x.weight, .bool x.six, .int .u64 x.hi, .int .u64 x.lo]
          have hW1 := hW.alloc hW.size (.cells #[.string x.name, .int .i64 x.kind, .int .i64 x.above, .int .i64 x.weight, .bool x.six, .int .u64 x.hi, .int .u64 x.lo] 34)
          have hown1 := hown.alloc (.cells #[.string x.name, .int .i64 x.kind, .int .i64 x.above, .int .i64 x.weight, .bool x.six, .int .u64 x.hi, .int .u64 x.lo] 34)
          go_upto_region 13 with (fail)
          generalize wr.alloc (.cells #[.string x.name, .int .i64 x.kind, .int .i64 x.above, .int .i64 x.weight, .bool x.six, .int .u64 x.hi, .int .u64 x.lo] 34) = u at *
          clear d0 d1 d2 d3 d4 d5 d6 hW hown
          obtain ⟨p0, p1, p2, p3, p4, p5, p6, _⟩ := hP.cells7
          have hF := law43_find A k c was x.name u (h.keep hW1)
          have hFl := findN_lt was x.name
          rw [HLW.out] at hFl
          obtain ⟨F, hF0⟩ : ∃ F, F = findN was x.name := ⟨_, rfl⟩
          rw [← hF0] at hF HGO hFl
          clear hF0
          by_cases hF1 : F < 0
          · rw [if_pos hF1] at HGO
            have HE := Lib.hid (show o ++ [(x.name, 2)] = out ++ moreTo was now (j + 1) by rw [HST.out, HGO.out, HO.out, List.append_assoc])
            go_wp2_with fail
            refine hF.mono ?_; rintro e w' ⟨rfl, rfl⟩
            clear hF HST HGO HO p1 p2 p3 p4 p5 p6 hFl
            go_wp2_with (at_builtin; go_loud (refine wpList_append_any _ rfl (.tmp 56) (.tmp 60) _ rfl w.heap.size 56 iC _ 2 24 Try.underlying53 hiC hzC hzC1 hzC2 rfl (by decide) _ o.length (chC o) rfl (hown1.alloc _) _ (some ⟨u.heap.size, 0, none⟩) 1 1 [.string x.name, .int .i64 2] rfl (one_reads u 56 2 [.string x.name, .int .i64 2] rfl) (by intro u hu; simp at hu; rcases hu with rfl | rfl <;> rfl) (by simp only [maxLen]; omega) (by omega) (by have := hW1.size; simp; omega) ?_; intro v6 w6 hown6 hg6 hat6))
            have hW6 := push_below (hW1.alloc hW1.size _) hg6 (own_from hown1)
            go_wp2
            go_roundg (m - (j + 1))
            case measure => omega
            case rel => exact ⟨j + 1, o ++ [(x.name, 2)], by omega, rfl, by go_num, by rw [chC_append, List.length_append]; simpa [chC] using hown6, hW6, HE⟩
          · rw [if_neg hF1] at HGO
            obtain ⟨f, rfl⟩ : ∃ f : Nat, F = f := ⟨F.toNat, by omega⟩
            have hfn : f < k := by omega
            have hfi : (f : Int) < (k : Int) := by omega
            have hf0 : (0 : Int) ≤ (f : Int) := by omega
            rw [ndAt_nat] at HGO
            obtain ⟨adw, rfl, hbw, d0, d1, d2, d3, d4, d5, d6⟩ := (h.keep hW1).at_ hfn
            obtain ⟨y, hy⟩ : ∃ y, y = was.getD f nd0 := ⟨_, rfl⟩
            rw [← hy] at d0 d1 d2 d3 d4 d5 d6 HGO
            clear hy
            have hQ := Blk.new u 34 #[.string y.name, .int .i64 y.kind, .int .i64 y.above, .int .i64 y.weight, .bool y.six, .int .u64 y.hi, .int .u64 y.lo]
            have hP2 := hP.alloc (.cells #[.string y.name, .int .i64 y.kind, .int .i64 y.above, .int .i64 y.weight, .bool y.six, .int .u64 y.hi, .int .u64 y.lo] 34)
            have hW2 := hW1.alloc hW1.size (.cells #[.string y.name, .int .i64 y.kind, .int .i64 y.above, .int .i64 y.weight, .bool y.six, .int .u64 y.hi, .int .u64 y.lo] 34)
            have hown2 := hown1.alloc (.cells #[.string y.name, .int .i64 y.kind, .int .i64 y.above, .int .i64 y.weight, .bool y.six, .int .u64 y.hi, .int .u64 y.lo] 34)
            go_wp2_with fail
            refine hF.mono ?_; rintro e w' ⟨rfl, rfl⟩
            go_upto_region 17 with (fail)
            generalize u.alloc (.cells #[.string y.name, .int .i64 y.kind, .int .i64 y.above, .int .i64 y.weight, .bool y.six, .int .u64 y.hi, .int .u64 y.lo] 34) = v at *
            clear d0 d1 d2 d3 d4 d5 d6 hF p0 p1 p2 p3 p4 p5 p6 hP hW1 hown1 hFl hF1 hfn hfi hf0 hbw hbk
            obtain ⟨p0, p1, p2, p3, p4, p5, p6, _⟩ := hP2.cells7
            obtain ⟨q0, q1, q2, q3, q4, q5, q6, _⟩ := hQ.cells7
            have AB : ∀ (A : Option Addr) (n c : Nat) (l : List Nd) (nm : ByteArray) (kd ab wt : Int) (sx : Bool) (hi lo : Int) (w : World), IsNodes w A n c l → Calls Try.prog 35 #[.slice A n c, .agg #[.string nm, .int .i64 kd, .int .i64 ab, .int .i64 wt, .bool sx, .int .u64 hi, .int .u64 lo]] w fun e w' => e = .returned (.string (ndAt l ab).name) ∧ Below w.heap.size w w' := fun A n c l nm kd ab wt sx hi lo w h => law43_above A n c l ⟨nm, kd, ab, wt, sx, hi, lo⟩ w h
            have hNW := h.keep hW2
            have hNN := h'.keep hW2
            obtain ⟨C4, hC4⟩ : ∃ C4, C4 = placeN was now y x := ⟨_, rfl⟩
            obtain ⟨C5, hC5⟩ : ∃ C5, C5 = !sameAddr y x := ⟨_, rfl⟩
            obtain ⟨C3, hC3⟩ : ∃ C3, C3 = (y.weight != x.weight) := ⟨_, rfl⟩
            rw [← hC4, ← hC5, ← hC3] at HGO
            have HPL := Lib.hid (show placeN was now y x = (y.kind != x.kind || !((ndAt was y.above).name.toList == (ndAt now x.above).name.toList)) from rfl)
            have hq5 := fun w => run_neq_addr y.six x.six y.hi y.lo x.hi x.lo w
            rw [show (!(y.six == x.six && y.hi == x.hi && y.lo == x.lo)) = C5 from hC5.symm] at hq5
            obtain ⟨bx, hbx⟩ : ∃ bx, bx = u.heap.size := ⟨_, rfl⟩
            rw [← hbx] at q0 q1 q2 q3 q4 q5 q6 hQ ⊢
            obtain ⟨bn, hbn⟩ : ∃ bn, bn = wr.heap.size := ⟨_, rfl⟩
            rw [← hbn] at p0 p1 p2 p3 p4 p5 p6 hP2 ⊢
            clear hbx hbn hC5
            go_cut [79] (fun s79 wx => s79 = .bool C4 ∧ Below v.heap.size v wx)
            case first =>
              have U0 := cell_under p0
              have U1 := cell_under p1
              have U2 := cell_under p2
              have U3 := cell_under p3
              have U4 := cell_under p4
              have U5 := cell_under p5
              have U6 := cell_under p6
              have V0 := cell_under q0
              have V1 := cell_under q1
              have V2 := cell_under q2
              have V3 := cell_under q3
              have V4 := cell_under q4
              have V5 := cell_under q5
              have V6 := cell_under q6
              by_cases hkd : y.kind = x.kind
              · have g1 : (y.kind != x.kind) = false := by simp [hkd]
                have H4 := Lib.hid (show C4 = !((ndAt was y.above).name.toList == (ndAt now x.above).name.toList) by rw [hC4, HPL.out, g1]; rfl)
                clear hkd hC4 hC3 p0 p1 p2 p3 p4 p5 p6 q0 q1 q2 q3 q4 q5 q6
                refine wp_region_quiet_under (by kernel_rfl) (by kernel_rfl) ?_
                repeat (go_big_quiet_step (((go_at_call 35; exact calls_under (AB _ _ _ _ _ _ _ _ _ _ _ _ (by first | exact hNW.keep (under_below _ _) | exact hNN.keep (under_below _ _)))))))
                refine wpQuiet_nil ?_
                intro wu hw'
                obtain ⟨pq, hw''⟩ := hw'
                have hU := below_eq hw''
                clear hw'' pq
                go_wp2_with fail
                go_meet
                exact ⟨by rw [H4.out], hU⟩
              · have g1 : (y.kind != x.kind) = true := by simp [hkd]
                have H4 := Lib.hid (show C4 = true by rw [hC4, HPL.out, g1]; rfl)
                clear hkd hC4 hC3 p0 p1 p2 p3 p4 p5 p6 q0 q1 q2 q3 q4 q5 q6
                refine wp_region_quiet_under (by kernel_rfl) (by kernel_rfl) ?_
                repeat (go_big_quiet_step ((fail)))
                refine wpQuiet_nil ?_
                intro wu hw'
                obtain ⟨pq, hw''⟩ := hw'
                have hU := below_eq hw''
                clear hw'' pq
                go_wp2_with fail
                go_meet
                exact ⟨by rw [H4.out], hU⟩
            case rest =>
              obtain ⟨rfl, hU⟩ := hcut
              have HE := Lib.hid (show o ++ parts x.name C4 C5 C3 3 = out ++ moreTo was now (j + 1) by rw [HST.out, HGO.out, HO.out, List.append_assoc])
              have hPc := hP2.keep hU
              have hQc := hQ.keep hU
              have hWc := below_step hW2 hU
              have hownc := own_keep hown2 hU
              have HC3 := Lib.hid hC3
              clear HST HGO HO HPL hC4 hC3 hP2 hQ hW2 hown2 hU AB hNW hNN p0 p1 p2 p3 p4 p5 p6 q0 q1 q2 q3 q4 q5 q6
              have HO := Lib.hid (show o = o ++ parts x.name C4 C5 C3 0 by rw [parts_zero, List.append_nil])
              obtain ⟨o', ho'⟩ : ∃ o', o' = o := ⟨_, rfl⟩
              have HO' := Lib.hid (show o' = o ++ parts x.name C4 C5 C3 0 by rw [ho']; exact HO.out)
              rw [← ho'] at hownc
              clear ho' HO
              have hol3 : o'.length ≤ k + j * 3 + 3 := by rw [HO'.out, List.length_append]; have := parts_le x.name C4 C5 C3 0; omega
              have HS := Lib.hid (parts_step0 x.name C4 C5 C3)
              obtain ⟨p0, p1, p2, p3, p4, p5, p6, _⟩ := hPc.cells7
              obtain ⟨q0, q1, q2, q3, q4, q5, q6, _⟩ := hQc.cells7
              go_upto_if 79 with (fail)
              go_cut [5] (fun s5 wx => ∃ o' : List (ByteArray × Int), wx.ownsRow w.heap.size 56 2 s5 o'.length (chC o') ∧ Below w.heap.size w wx ∧ Hid (o' = o ++ parts x.name C4 C5 C3 1) ∧ Blk wx bn 34 #[.string x.name, .int .i64 x.kind, .int .i64 x.above, .int .i64 x.weight, .bool x.six, .int .u64 x.hi, .int .u64 x.lo] ∧ Blk wx bx 34 #[.string y.name, .int .i64 y.kind, .int .i64 y.above, .int .i64 y.weight, .bool y.six, .int .u64 y.hi, .int .u64 y.lo])
              case first =>
                cases C4 with
                | true =>
                  have HE2 := Lib.hid (show o' ++ [(x.name, 4)] = o ++ parts x.name true C5 C3 1 by rw [HS.out, HO'.out, List.append_assoc]; rfl)
                  clear HS HO'
                  go_wp2_with (at_builtin; go_loud (refine wpList_append_any _ rfl (.tmp 80) (.tmp 84) _ rfl w.heap.size 56 iC _ 2 24 Try.underlying53 hiC hzC hzC1 hzC2 rfl (by decide) _ o'.length (chC o') rfl (hownc.alloc _) _ (some ⟨wc.heap.size, 0, none⟩) 1 1 [.string x.name, .int .i64 4] rfl (one_reads wc 56 2 [.string x.name, .int .i64 4] rfl) (by intro u hu; simp at hu; rcases hu with rfl | rfl <;> rfl) (by simp only [maxLen]; omega) (by omega) (by have := hWc.size; simp; omega) ?_; intro v6 w6 hown6 hg6 hat6))
                  have hW6 := push_below (hWc.alloc hWc.size _) hg6 (own_from hownc)
                  have hP6 := (hPc.alloc (.cells #[.string x.name, .int .i64 4] 56)).grown hg6 (blk_type (hPc.alloc (.cells #[.string x.name, .int .i64 4] 56)) (hownc.alloc (.cells #[.string x.name, .int .i64 4] 56)) (by decide))
                  have hQ6 := (hQc.alloc (.cells #[.string x.name, .int .i64 4] 56)).grown hg6 (blk_type (hQc.alloc (.cells #[.string x.name, .int .i64 4] 56)) (hownc.alloc (.cells #[.string x.name, .int .i64 4] 56)) (by decide))
                  go_wp2_with fail
                  go_meet
                  exact ⟨o' ++ [(x.name, 4)], by rw [chC_append, List.length_append]; simpa [chC] using hown6, hW6, HE2, hP6, hQ6⟩
                | false =>
                  have HE2 := Lib.hid (show o' = o ++ parts x.name false C5 C3 1 by rw [HS.out, HO'.out, if_neg (by simp), List.append_nil])
                  clear HS HO'
                  go_wp2_with fail
                  go_meet
                  exact ⟨o', hownc, hWc, HE2, hPc, hQc⟩
              case rest =>
                clear hownc hWc hPc hQc HS HO' p0 p1 p2 p3 p4 p5 p6 q0 q1 q2 q3 q4 q5 q6
                obtain ⟨o', hownc, hWc, HO', hPc, hQc⟩ := hcut
                obtain ⟨wd0, rfl⟩ : ∃ wd, wd = wc := ⟨_, rfl⟩
                have hol4 : o'.length ≤ k + j * 3 + 3 := by rw [HO'.out, List.length_append]; have := parts_le x.name C4 C5 C3 1; omega
                have HS := Lib.hid (parts_step1 x.name C4 C5 C3)
                obtain ⟨p0, p1, p2, p3, p4, p5, p6, _⟩ := hPc.cells7
                obtain ⟨q0, q1, q2, q3, q4, q5, q6, _⟩ := hQc.cells7
                go_upto_if 90 with (fail)
                go_cut [5] (fun s5 wx => ∃ o' : List (ByteArray × Int), wx.ownsRow w.heap.size 56 2 s5 o'.length (chC o') ∧ Below w.heap.size w wx ∧ Hid (o' = o ++ parts x.name C4 C5 C3 2) ∧ Blk wx bn 34 #[.string x.name, .int .i64 x.kind, .int .i64 x.above, .int .i64 x.weight, .bool x.six, .int .u64 x.hi, .int .u64 x.lo] ∧ Blk wx bx 34 #[.string y.name, .int .i64 y.kind, .int .i64 y.above, .int .i64 y.weight, .bool y.six, .int .u64 y.hi, .int .u64 y.lo])
                case first =>
                  cases C5 with
                  | true =>
                    have HE2 := Lib.hid (show o' ++ [(x.name, 5)] = o ++ parts x.name C4 true C3 2 by rw [HS.out, HO'.out, List.append_assoc]; rfl)
                    clear HS HO'
                    go_wp2_with (at_builtin; go_loud (refine wpList_append_any _ rfl (.tmp 91) (.tmp 95) _ rfl w.heap.size 56 iC _ 2 24 Try.underlying53 hiC hzC hzC1 hzC2 rfl (by decide) _ o'.length (chC o') rfl (hownc.alloc _) _ (some ⟨wd0.heap.size, 0, none⟩) 1 1 [.string x.name, .int .i64 5] rfl (one_reads wd0 56 2 [.string x.name, .int .i64 5] rfl) (by intro u hu; simp at hu; rcases hu with rfl | rfl <;> rfl) (by simp only [maxLen]; omega) (by omega) (by have := hWc.size; simp; omega) ?_; intro v6 w6 hown6 hg6 hat6))
                    have hW6 := push_below (hWc.alloc hWc.size _) hg6 (own_from hownc)
                    have hP6 := (hPc.alloc (.cells #[.string x.name, .int .i64 5] 56)).grown hg6 (blk_type (hPc.alloc (.cells #[.string x.name, .int .i64 5] 56)) (hownc.alloc (.cells #[.string x.name, .int .i64 5] 56)) (by decide))
                    have hQ6 := (hQc.alloc (.cells #[.string x.name, .int .i64 5] 56)).grown hg6 (blk_type (hQc.alloc (.cells #[.string x.name, .int .i64 5] 56)) (hownc.alloc (.cells #[.string x.name, .int .i64 5] 56)) (by decide))
                    go_wp2_with fail
                    go_meet
                    exact ⟨o' ++ [(x.name, 5)], by rw [chC_append, List.length_append]; simpa [chC] using hown6, hW6, HE2, hP6, hQ6⟩
                  | false =>
                    have HE2 := Lib.hid (show o' = o ++ parts x.name C4 false C3 2 by rw [HS.out, HO'.out, if_neg (by simp), List.append_nil])
                    clear HS HO'
                    go_wp2_with fail
                    go_meet
                    exact ⟨o', hownc, hWc, HE2, hPc, hQc⟩
                case rest =>
                  clear hownc hWc hPc hQc HS HO' p0 p1 p2 p3 p4 p5 p6 q0 q1 q2 q3 q4 q5 q6
                  obtain ⟨o', hownc, hWc, HO', hPc, hQc⟩ := hcut
                  obtain ⟨wd1, rfl⟩ : ∃ wd, wd = wc := ⟨_, rfl⟩
                  have hol5 : o'.length ≤ k + j * 3 + 3 := by rw [HO'.out, List.length_append]; have := parts_le x.name C4 C5 C3 2; omega
                  have HS := Lib.hid (parts_step2 x.name C4 C5 C3)
                  obtain ⟨p0, p1, p2, p3, p4, p5, p6, _⟩ := hPc.cells7
                  obtain ⟨q0, q1, q2, q3, q4, q5, q6, _⟩ := hQc.cells7
                  go_upto_if 101 with (fail)
                  rw [← HC3.out]
                  clear HC3
                  cases C3 with
                  | true =>
                    have HE2 := Lib.hid (show o' ++ [(x.name, 3)] = o ++ parts x.name C4 C5 true 3 by rw [HS.out, HO'.out, List.append_assoc]; rfl)
                    clear HS HO'
                    go_wp2_with (at_builtin; go_loud (refine wpList_append_any _ rfl (.tmp 102) (.tmp 106) _ rfl w.heap.size 56 iC _ 2 24 Try.underlying53 hiC hzC hzC1 hzC2 rfl (by decide) _ o'.length (chC o') rfl (hownc.alloc _) _ (some ⟨wd1.heap.size, 0, none⟩) 1 1 [.string x.name, .int .i64 3] rfl (one_reads wd1 56 2 [.string x.name, .int .i64 3] rfl) (by intro u hu; simp at hu; rcases hu with rfl | rfl <;> rfl) (by simp only [maxLen]; omega) (by omega) (by have := hWc.size; simp; omega) ?_; intro v6 w6 hown6 hg6 hat6))
                    have hW6 := push_below (hWc.alloc hWc.size _) hg6 (own_from hownc)
                    have HE3 := Lib.hid (HE2.out.trans HE.out)
                    go_wp2
                    go_roundg (m - (j + 1))
                    case measure => omega
                    case rel => exact ⟨j + 1, o' ++ [(x.name, 3)], by omega, rfl, by go_num, by rw [chC_append, List.length_append]; simpa [chC] using hown6, hW6, HE3⟩
                  | false =>
                    have HE2 := Lib.hid (show o' = o ++ parts x.name C4 C5 false 3 by rw [HS.out, HO'.out, if_neg (by simp), List.append_nil])
                    clear HS HO'
                    have HE3 := Lib.hid (HE2.out.trans HE.out)
                    go_wp2
                    go_roundg (m - (j + 1))
                    case measure => omega
                    case rel => exact ⟨j + 1, o', by omega, rfl, by go_num, hownc, hWc, HE3⟩
        · obtain rfl : j = m := by omega
          have HE := Lib.hid (show o = allCh was now by unfold allCh; rw [HO.out, HG.out, HLW.out, HLN.out])
          have hal : (allCh was now).length ≤ 240 := by rw [← HE.out]; omega
          have hOf := diff_Of A k c was A' j c' now wr (h.keep hW) (h'.keep hW) hn60 hm60
          obtain rfl := HE.out
          clear HE HO hol2
          obtain ⟨L, hL⟩ : ∃ L, L = allCh was now := ⟨_, rfl⟩
          rw [← hL] at hOf hown hal
          clear hL
          go_wp2_with fail
          refine hOf.mono ?_; rintro e w5 ⟨v, rfl, hgot, hx5⟩
          have hown5 := own_keep hown hx5
          have hW5 := below_step hW hx5
          obtain ⟨Ag, cg, rfl⟩ := own_slice hgot
          obtain ⟨Aw, cw, rfl⟩ := own_slice hown5
          obtain ⟨q, hq⟩ : ∃ q, q = L.length := ⟨_, rfl⟩
          rw [← hq] at hgot hown5 hal ⊢
          have HQ := Lib.hid hq.symm
          clear hq hOf hx5 hW hown
          go_wp2_with fail
          go_loopg [12] q (fun gg s12 wx => ∃ i : Nat, i ≤ q ∧ gg = q - i ∧ s12 = .int .i64 i ∧ Below w5.heap.size w5 wx)
          case atStart => exact ⟨0, Nat.zero_le _, rfl, rfl, Below.refl _ _⟩
          case round =>
            obtain ⟨i, hi, rfl, rfl, hV⟩ := hrel
            by_cases hiq : i < q
            · have hii : (i : Int) < (q : Int) := by omega
              obtain ⟨rg, cg', eg, hrg, _⟩ := hgot.form (by omega)
              obtain ⟨rw', cw', ew, hrw, _⟩ := hown5.form (by omega)
              have hAg : Ag = some ⟨rg, 0, none⟩ := by injection eg
              have hAw : Aw = some ⟨rw', 0, none⟩ := by injection ew
              clear eg ew
              subst hAg hAw
              obtain ⟨c0, c1⟩ := chC_at L i (by rw [HQ.out]; exact hiq)
              have g0 := cell_keep (hgot.cells (g := rg) rfl _ _ c0) hV
              have g1 := cell_keep (hgot.cells (g := rg) rfl _ _ c1) hV
              have k0 := cell_keep (hown5.cells (g := rw') rfl _ _ c0) hV
              have k1 := cell_keep (hown5.cells (g := rw') rfl _ _ c1) hV
              obtain ⟨a, ha⟩ : ∃ a, a = (L.getD i (ByteArray.empty, 0)).1 := ⟨_, rfl⟩
              obtain ⟨a', ha'⟩ : ∃ a, a = (L.getD i (ByteArray.empty, 0)).1 := ⟨_, rfl⟩
              obtain ⟨b, hb⟩ : ∃ b, b = (L.getD i (ByteArray.empty, 0)).2 := ⟨_, rfl⟩
              obtain ⟨b', hb'⟩ : ∃ b, b = (L.getD i (ByteArray.empty, 0)).2 := ⟨_, rfl⟩
              have HEQ := Lib.hid (show (!(sameName a a' && b == b')) = false by rw [ha, ha', hb, hb']; simp [sameName])
              rw [← ha] at g0
              rw [← hb] at g1
              rw [← ha'] at k0
              rw [← hb'] at k1
              clear ha ha' hb hb' c0 c1
              rw [add_off] at g0 g1 k0 k1
              have U0 := cell_under g0
              have U1 := cell_under g1
              have V0 := cell_under k0
              have V1 := cell_under k1
              clear g0 g1 k0 k1
              go_wp2_with fail
              refine wp_region_quiet_under (by kernel_rfl) (by kernel_rfl) ?_
              iterate 8 (go_big_quiet_step (fail))
              go_big_quiet_want
              refine quiet_neq_change HEQ.out rfl rfl rfl ?_
              simp only [Act.put, List.setIfInBounds_toArray, List.set_cons_zero, List.set_cons_succ]
              go_big_quiet_on
              refine wpQuiet_nil ?_
              intro wu hw'
              obtain ⟨pq, hw''⟩ := hw'
              have hU := below_eq hw''
              clear hw'' pq
              have hVu := below_step hV hU
              clear U0 U1 V0 V1 hU hV
              go_wp2
              go_roundg (q - (i + 1))
              case measure => omega
              case rel => exact ⟨i + 1, by omega, rfl, by go_num, hVu⟩
            · obtain rfl : i = q := by omega
              have hWz := below_step hW5 hV
              clear hgot hown5 hV hW5
              go_wp2_with fail
              refine (law43_awake _).mono ?_; rintro e w9 ⟨rfl, hx9⟩
              go_wp2
              go_ret
              exact ⟨rfl, below_step hWz hx9⟩
end Go.Proofs.Ytdkijmiflommeaa
