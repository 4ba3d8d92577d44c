/- Lemmas for the claim's proof: WheelJ WheelK WheelL WheelM WheelN. -/
import Derived.Lib.SliceRun
import Derived.Laws.OwnMore
import Derived.Test.YtcpfekhpbjkgeaaQ11
section
/- The law's before, put, without. -/
set_option linter.unusedVariables false
namespace Go.Proofs.Ytcpfekhpbjkgeaa
open Go.RowKit
set_option maxHeartbeats 8000000
set_option maxRecDepth 100000
theorem law21_before (x y : It) (w : World) : Calls Try.prog 54 #[.agg #[.int .i64 x.t, .int .i64 x.id], .agg #[.int .i64 y.t, .int .i64 y.id]] w fun e w' => e = .returned (.bool (itB x y)) ∧ Below w.heap.size w w' := by
  obtain ⟨x1, x2⟩ := x
  obtain ⟨y1, y2⟩ := y
  dsimp only
  have HS := Lib.hid (show itB ⟨x1, x2⟩ ⟨y1, y2⟩ = (decide (x1 < y1) || (x1 == y1 && decide (x2 < y2))) from rfl)
  generalize itB ⟨x1, x2⟩ ⟨y1, y2⟩ = E at *
  have hA := ((Below.refl w.heap.size w).alloc (Nat.le_refl _) (.cells #[.int .i64 x1, .int .i64 x2] 31)).alloc (by simp) (.cells #[.int .i64 y1, .int .i64 y2] 31)
  have P := (Blk.new w 31 #[.int .i64 x1, .int .i64 x2]).alloc (.cells #[.int .i64 y1, .int .i64 y2] 31)
  have Q := Blk.new (w.alloc (.cells #[.int .i64 x1, .int .i64 x2] 31)) 31 #[.int .i64 y1, .int .i64 y2]
  have hsz : (w.alloc (.cells #[.int .i64 x1, .int .i64 x2] 31)).heap.size = w.heap.size + 1 := by simp
  rw [hsz] at Q
  clear hsz
  obtain ⟨p0, p1, _⟩ := P.cells2
  obtain ⟨q0, q1, _⟩ := Q.cells2
  go_enter Try.func54, Try.ntmps54
  by_cases c1 : x1 < y1
  · have g1 : decide (x1 < y1) = true := decide_eq_true c1
    go_wp2
    go_ret
    exact ⟨by rw [HS.out, g1]; rfl, hA⟩
  · have g1 : decide (x1 < y1) = false := decide_eq_false c1
    by_cases c2 : x1 = y1
    · have g2 : (x1 == y1) = true := by rw [beq_iff_eq]; exact c2
      have H := Lib.hid (And.intro g1 g2)
      clear c2
      by_cases c3 : x2 < y2
      · have g3 : decide (x2 < y2) = true := decide_eq_true c3
        go_wp2
        go_ret
        exact ⟨by rw [HS.out, H.out.1, H.out.2, g3]; rfl, hA⟩
      · have g3 : decide (x2 < y2) = false := decide_eq_false c3
        go_wp2
        go_ret
        exact ⟨by rw [HS.out, H.out.1, H.out.2, g3]; rfl, hA⟩
    · have g2 : (x1 == y1) = false := by rw [beq_eq_false_iff_ne]; exact c2
      have H := Lib.hid (And.intro g1 g2)
      go_wp2
      go_ret
      exact ⟨by rw [HS.out, H.out.1, H.out.2]; rfl, hA⟩
theorem law21_without {w : World} {A : Option Addr} {n c : Nat} {l : List It} (h : ReadsIt w A n c l) (z : Int) (hn : n ≤ 4096) :
    Calls Try.prog 19 #[.slice A n c, .int .i64 z] w fun e w' => (∃ v, e = .returned v ∧ w'.ownsRow w.heap.size 31 2 v (l.filter (fun x => x.id != z)).length (itShape.flat (l.filter (fun x => x.id != z)))) ∧ Below w.heap.size w w' := by
  obtain ⟨iI, hiI, hzI, hzI1, hzI2⟩ := info_parts Try.infoItem
  have hcc := h.2.2
  have HLN := Lib.hid h.2.1
  go_enter Try.func19, Try.ntmps19
  go_wp2_with fail
  go_loopg [5, 6] n (fun gk s5 s6 wr => ∃ (i : Nat) (out : List It), s6 = .int .i64 i ∧ i ≤ n ∧ gk = n - i ∧ Hid (out = (l.take i).filter (fun x => x.id != z)) ∧ out.length ≤ i ∧ wr.ownsRow w.heap.size 31 2 s5 out.length (itShape.flat out) ∧ Below w.heap.size w wr)
  case atStart => exact ⟨0, [], rfl, Nat.zero_le _, rfl, Lib.hid rfl, Nat.le_refl _, World.ownsRow_nil _ _ _ 2, Below.refl _ _⟩
  case round =>
    obtain ⟨i, out, rfl, hi, rfl, HO, hol, hO, hW⟩ := hrel
    obtain ⟨Ao, co, rfl⟩ := own_sl hO
    by_cases hin : i < n
    · have hii : (i : Int) < (n : Int) := by omega
      obtain ⟨ad, rfl, _, d0, d1⟩ := (h.keep hW).at_ hin
      have HT := Lib.hid (take_next (l := l) (i := i) (by rw [HLN.out]; exact hin))
      obtain ⟨X, hX⟩ : ∃ X, X = l.getD i default := ⟨_, rfl⟩
      rw [← hX] at d0 d1 HT
      clear hX
      obtain ⟨X1, X2⟩ := X
      dsimp only at d0 d1
      have hws := hW.size
      by_cases hz : X2 = z
      · have g1 : (X2 != z) = false := by simp [hz]
        have HN := Lib.hid (show out = (l.take (i + 1)).filter (fun x => x.id != z) by rw [HT.out, List.filter_append, List.filter_cons_of_neg (by simp [hz]), HO.out, List.filter_nil, List.append_nil])
        clear hz
        go_wp2
        go_roundg (n - (i + 1))
        case measure => omega
        case rel => exact ⟨i + 1, out, by go_num, by omega, rfl, HN, by omega, hO, hW⟩
      · have g1 : (X2 != z) = true := by simp [hz]
        have HN := Lib.hid (show out ++ [⟨X1, X2⟩] = (l.take (i + 1)).filter (fun x => x.id != z) by rw [HT.out, List.filter_append, List.filter_cons_of_pos (by simp [hz]), HO.out]; rfl)
        clear hz
        go_wp2_with (at_builtin; go_loud (refine wpList_append_any _ rfl (.tmp 20) (.tmp 25) _ rfl w.heap.size 31 iI _ 2 16 Try.underlying22 hiI hzI hzI1 hzI2 rfl (by decide) _ out.length (itShape.flat out) rfl (hO.alloc _) _ (some ⟨wr.heap.size, 0, none⟩) 1 1 [.int .i64 X1, .int .i64 X2] rfl (it_reads wr 31 2 [.int .i64 X1, .int .i64 X2] rfl) (by intro u hu; simp at hu; rcases hu with rfl | rfl <;> rfl) (by simp only [maxLen]; omega) (by omega) (by simp; omega) ?_; intro v6 w6 hown6 hg6 hat6))
        have hown7 : w6.ownsRow w.heap.size 31 2 v6 (out ++ [(⟨X1, X2⟩ : It)]).length (itShape.flat (out ++ [⟨X1, X2⟩])) := by rw [List.length_append, itShape.flat_snoc]; exact hown6
        have hW6 := below_grown (hW.alloc hws (.cells #[.int .i64 X1, .int .i64 X2] 31)) (by simp; omega) hg6 (fun g hg => (hO.lt g hg).1)
        clear hown6 hg6 hat6 hO hW d0 d1
        go_wp2
        go_roundg (n - (i + 1))
        case measure => omega
        case rel => exact ⟨i + 1, out ++ [⟨X1, X2⟩], by go_num, by omega, rfl, HN, by rw [List.length_append]; simp only [List.length_cons, List.length_nil]; omega, hown7, hW6⟩
    · obtain rfl : i = n := by omega
      have hge : ¬ (i : Int) < (i : Int) := by omega
      have HE := Lib.hid (show out = l.filter (fun x => x.id != z) by rw [HO.out, List.take_of_length_le (by rw [HLN.out]; exact Nat.le_refl _)])
      have HR := Lib.hid (show wr.ownsRow w.heap.size 31 2 (.slice Ao out.length co) (l.filter (fun x => x.id != z)).length (itShape.flat (l.filter (fun x => x.id != z))) by rw [← HE.out]; exact hO)
      clear hO HO
      go_wp2
      go_ret
      exact ⟨⟨_, rfl, HR.out⟩, hW⟩
end Go.Proofs.Ytcpfekhpbjkgeaa
end
section
/- The law's put. -/
set_option linter.unusedVariables false
namespace Go.Proofs.Ytcpfekhpbjkgeaa
open Go.RowKit
set_option maxHeartbeats 8000000
set_option maxRecDepth 100000
theorem own_base {w : World} {B B' : Nat} {T : TypeId} {s n : Nat} {v : Value} {xs : List Value} (h : w.ownsRow B' T s v n xs) (hB : B ≤ B') : w.ownsRow B T s v n xs := by
  refine ⟨h.1, ?_⟩
  rcases h.2 with h0 | ⟨g, cap, cur, e, hb, rest⟩
  · exact .inl h0
  · exact .inr ⟨g, cap, cur, e, Nat.le_trans hB hb, rest⟩
theorem put_bound {n i : Nat} (h : n = i + 1 + (if true = true then 1 else 0)) : n ≤ i + 1 + 1 := by simp only [if_true] at h; omega
theorem law21_put {w : World} {A : Option Addr} {n c : Nat} {l : List It} (h : ReadsIt w A n c l) (x : It) (hn : n ≤ 4096) :
    Calls Try.prog 21 #[.slice A n c, .agg #[.int .i64 x.t, .int .i64 x.id]] w fun e w' => (∃ v, e = .returned v ∧ w'.ownsRow w.heap.size 31 2 v (putL l x).length (itShape.flat (putL l x))) ∧ Below w.heap.size w w' := by
  obtain ⟨iI, hiI, hzI, hzI1, hzI2⟩ := info_parts Try.infoItem
  have hcc := h.2.2
  have HLN := Lib.hid h.2.1
  have HX := Lib.hid (fun (i : Nat) (w : World) => law21_before x (l.getD i default) w)
  have HPS := Lib.hid (put_start l x)
  have HY := Lib.hid (fun (i : Nat) (out : List It) (h : PutAt l x i true out) (hi : i < n) => put_done h (by rw [HLN.out]; exact hi))
  have HZ := Lib.hid (fun (i : Nat) (out : List It) (h : PutAt l x i false out) (hi : i < n) (hb : itB x (l.getD i default) = true) => put_here h (by rw [HLN.out]; exact hi) hb)
  have HN := Lib.hid (fun (i : Nat) (out : List It) (h : PutAt l x i false out) (hi : i < n) (hb : itB x (l.getD i default) = false) => put_not h (by rw [HLN.out]; exact hi) hb)
  have HE := Lib.hid (fun (out : List It) (h : PutAt l x n true out) => put_end (HLN.out ▸ h))
  have HF := Lib.hid (fun (out : List It) (h : PutAt l x n false out) => put_last (HLN.out ▸ h))
  have HLEN := Lib.hid (fun (i : Nat) (d : Bool) (out : List It) (h : PutAt l x i d out) => h.2)
  have P0 := Blk.new w 31 #[.int .i64 x.t, .int .i64 x.id]
  have hA0 := (Below.refl w.heap.size w).alloc (Nat.le_refl _) (.cells #[.int .i64 x.t, .int .i64 x.id] 31)
  obtain ⟨PA, hPA⟩ : ∃ PA, PA = PutAt l x := ⟨_, rfl⟩
  rw [← hPA] at HPS HY HZ HN HE HF HLEN
  clear hPA
  generalize putL l x = PL at *
  obtain ⟨Xt, Xi⟩ := x
  dsimp only at *
  go_enter Try.func21, Try.ntmps21
  go_upto_region 1 with (fail)
  obtain ⟨xb, hxb⟩ : ∃ xb, xb = w.heap.size := ⟨_, rfl⟩
  rw [← hxb] at P0 ⊢
  have HXB := Lib.hid hxb
  clear hxb
  generalize w.alloc (.cells #[.int .i64 Xt, .int .i64 Xi] 31) = u at *
  go_wp2_with fail
  go_loopg [5, 6, 7] n (fun gk s5 s6 s7 wr => ∃ (i : Nat) (d : Bool) (out : List It), s7 = .int .i64 i ∧ s6 = .bool d ∧ i ≤ n ∧ gk = n - i ∧ Hid (PA i d out) ∧ out.length ≤ i + 1 ∧ wr.ownsRow (xb + 1) 31 2 s5 out.length (itShape.flat out) ∧ Blk wr xb 31 #[.int .i64 Xt, .int .i64 Xi] ∧ Below w.heap.size w wr)
  case atStart => exact ⟨0, false, [], rfl, rfl, Nat.zero_le _, rfl, HPS, Nat.zero_le _, World.ownsRow_nil _ _ _ 2, P0, hA0⟩
  case round =>
    clear P0 hA0
    obtain ⟨i, d, out, rfl, rfl, hi, rfl, HP, hol, hO, P, hW⟩ := hrel
    obtain ⟨Ao, co, rfl⟩ := own_sl hO
    obtain ⟨p0, p1, hpl⟩ := P.cells2
    by_cases hin : i < n
    · have hii : (i : Int) < (n : Int) := by omega
      obtain ⟨ad, rfl, _, c0, c1⟩ := h.at_ hin
      have d0 := cell_keep c0 hW
      have d1 := cell_keep c1 hW
      have CX := fun w => HX.out i w
      have HY := Lib.hid (fun out h => HY.out i out h hin)
      have HZ := Lib.hid (fun out h hb => HZ.out i out h hin hb)
      have HN := Lib.hid (fun out h hb => HN.out i out h hin hb)
      obtain ⟨Y, hY⟩ : ∃ Y, Y = l.getD i default := ⟨_, rfl⟩
      rw [← hY] at c0 c1 d0 d1 HY HZ HN
      simp only [← hY] at CX
      clear hY
      obtain ⟨Y1, Y2⟩ := Y
      dsimp only at c0 c1 d0 d1 CX
      obtain ⟨E, hE⟩ : ∃ E, E = itB ⟨Xt, Xi⟩ ⟨Y1, Y2⟩ := ⟨_, rfl⟩
      rw [← hE] at HZ HN
      simp only [← hE] at CX
      clear hE
      have U0 := cell_under p0
      have U1 := cell_under p1
      have V0 := cell_under d0
      have V1 := cell_under d1
      go_upto_region 6 with (fail)
      cases d with
      | true =>
        refine wp_region_quiet_under (by kernel_rfl) (by kernel_rfl) ?_
        repeat (go_big_quiet_step ((fail)))
        refine wpQuiet_nil ?_
        intro wu hw'
        obtain ⟨pq, hw''⟩ := hw'
        have hU := below_eq hw''
        clear hw'' pq
        have hO2 := ownR_keep hO hU
        have P2 := P.keep hU
        have hW2 := below_step hW hU
        have d2 := cell_keep d0 hU
        have d3 := cell_keep d1 hU
        clear U0 U1 V0 V1 CX hO P hW hU d0 d1 p0 p1
        have hws := hW2.size
        have hx2 := P2.lt
        go_wp2_with (at_builtin; go_loud (refine wpList_append_any _ rfl (.tmp 28) (.tmp 33) _ rfl (xb + 1) 31 iI _ 2 16 Try.underlying22 hiI hzI hzI1 hzI2 rfl (by decide) _ out.length (itShape.flat out) rfl (hO2.alloc _) _ (some ⟨wu.heap.size, 0, none⟩) 1 1 [.int .i64 Y1, .int .i64 Y2] rfl (it_reads wu 31 2 [.int .i64 Y1, .int .i64 Y2] rfl) (by intro u hu; simp at hu; rcases hu with rfl | rfl <;> rfl) (by simp only [maxLen]; omega) (by omega) (by simp; omega) ?_; intro v6 w6 hown6 hg6 hat6))
        have hown7 : w6.ownsRow (xb + 1) 31 2 v6 (out ++ [(⟨Y1, Y2⟩ : It)]).length (itShape.flat (out ++ [⟨Y1, Y2⟩])) := by rw [List.length_append, itShape.flat_snoc]; exact hown6
        have hW6 := below_grown (hW2.alloc hws (.cells #[.int .i64 Y1, .int .i64 Y2] 31)) (by simp; omega) hg6 (fun g hg => by have := (hO2.lt g hg).1; have := HXB.out; omega)
        have P6 := (P2.alloc (.cells #[.int .i64 Y1, .int .i64 Y2] 31)).grown hg6 (fun e => by have := (hO2.lt xb e.symm).1; omega)
        clear hown6 hg6 hat6 hO2 hW2 P2 d2 d3
        go_wp2
        go_roundg (n - (i + 1))
        case measure => omega
        case rel => exact ⟨i + 1, true, out ++ [⟨Y1, Y2⟩], by go_num, rfl, by omega, rfl, Lib.hid (HY.out out HP.out), by rw [List.length_append]; simp only [List.length_cons, List.length_nil]; omega, hown7, P6, hW6⟩
      | false =>
        cases E with
        | false =>
          refine wp_region_quiet_under (by kernel_rfl) (by kernel_rfl) ?_
          repeat (go_big_quiet_step (((go_at_call 54; exact calls_under (CX _)))))
          refine wpQuiet_nil ?_
          intro wu hw'
          obtain ⟨pq, hw''⟩ := hw'
          have hU := below_eq hw''
          clear hw'' pq
          have hO2 := ownR_keep hO hU
          have P2 := P.keep hU
          have hW2 := below_step hW hU
          have d2 := cell_keep d0 hU
          have d3 := cell_keep d1 hU
          clear U0 U1 V0 V1 CX hO P hW hU d0 d1 p0 p1
          have hws := hW2.size
          have hx2 := P2.lt
          go_wp2_with (at_builtin; go_loud (refine wpList_append_any _ rfl (.tmp 28) (.tmp 33) _ rfl (xb + 1) 31 iI _ 2 16 Try.underlying22 hiI hzI hzI1 hzI2 rfl (by decide) _ out.length (itShape.flat out) rfl (hO2.alloc _) _ (some ⟨wu.heap.size, 0, none⟩) 1 1 [.int .i64 Y1, .int .i64 Y2] rfl (it_reads wu 31 2 [.int .i64 Y1, .int .i64 Y2] rfl) (by intro u hu; simp at hu; rcases hu with rfl | rfl <;> rfl) (by simp only [maxLen]; omega) (by omega) (by simp; omega) ?_; intro v6 w6 hown6 hg6 hat6))
          have hown7 : w6.ownsRow (xb + 1) 31 2 v6 (out ++ [(⟨Y1, Y2⟩ : It)]).length (itShape.flat (out ++ [⟨Y1, Y2⟩])) := by rw [List.length_append, itShape.flat_snoc]; exact hown6
          have hW6 := below_grown (hW2.alloc hws (.cells #[.int .i64 Y1, .int .i64 Y2] 31)) (by simp; omega) hg6 (fun g hg => by have := (hO2.lt g hg).1; have := HXB.out; omega)
          have P6 := (P2.alloc (.cells #[.int .i64 Y1, .int .i64 Y2] 31)).grown hg6 (fun e => by have := (hO2.lt xb e.symm).1; omega)
          clear hown6 hg6 hat6 hO2 hW2 P2 d2 d3
          go_wp2
          go_roundg (n - (i + 1))
          case measure => omega
          case rel => exact ⟨i + 1, false, out ++ [⟨Y1, Y2⟩], by go_num, rfl, by omega, rfl, Lib.hid (HN.out out HP.out (by trivial)), by rw [List.length_append]; simp only [List.length_cons, List.length_nil]; omega, hown7, P6, hW6⟩
        | true =>
          refine wp_region_quiet_under (by kernel_rfl) (by kernel_rfl) ?_
          repeat (go_big_quiet_step (((go_at_call 54; exact calls_under (CX _)))))
          refine wpQuiet_nil ?_
          intro wu hw'
          obtain ⟨pq, hw''⟩ := hw'
          have hU := below_eq hw''
          clear hw'' pq
          have hO2 := ownR_keep hO hU
          have P2 := P.keep hU
          have hW2 := below_step hW hU
          clear U0 U1 V0 V1 CX hO P hW hU d0 d1 p0 p1
          obtain ⟨p0, p1, hx2⟩ := P2.cells2
          have hws := hW2.size
          go_upto_region 8 with (at_builtin; go_loud (refine wpList_append_any _ rfl (.tmp 24) (.tmp 26) _ rfl (xb + 1) 31 iI _ 2 16 Try.underlying22 hiI hzI hzI1 hzI2 rfl (by decide) _ (out).length (itShape.flat (out)) rfl (hO2.alloc _) _ (some ⟨wu.heap.size, 0, none⟩) 1 1 [.int .i64 Xt, .int .i64 Xi] rfl (it_reads wu 31 2 [.int .i64 Xt, .int .i64 Xi] rfl) (by intro u hu; simp at hu; rcases hu with rfl | rfl <;> rfl) (by simp only [maxLen]; omega) (by omega) (by simp; omega) ?_; intro v6 w6 hown6 hg6 hat6; have hown6' : w6.ownsRow (xb + 1) 31 2 v6 ((out) ++ [(⟨Xt, Xi⟩ : It)]).length (itShape.flat ((out) ++ [⟨Xt, Xi⟩])) := (by rw [List.length_append, itShape.flat_snoc]; exact hown6); have hW6 := below_grown (hW2.alloc (Below.size hW2) (.cells #[.int .i64 Xt, .int .i64 Xi] 31)) (by have := Below.size hW2; simp; omega) hg6 (fun g hg => by have := (hO2.lt g hg).1; have := HXB.out; omega); have P6 := (P2.alloc (.cells #[.int .i64 Xt, .int .i64 Xi] 31)).grown hg6 (fun e => by have := (hO2.lt xb e.symm).1; omega); obtain ⟨A6, c6, rfl⟩ := own_sl hown6'; have d4 := cell_keep c0 hW6; have d5 := cell_keep c1 hW6; have hl6 : (out ++ [(⟨Xt, Xi⟩ : It)]).length ≤ i + 2 := (by rw [List.length_append]; simp only [List.length_cons, List.length_nil]; omega); have HPP := Lib.hid (HZ.out out HP.out (by trivial)); have HLN2 := Lib.hid (show ((out ++ [(⟨Xt, Xi⟩ : It)]) ++ [(⟨Y1, Y2⟩ : It)]).length ≤ i + 1 + 1 from put_bound (HLEN.out _ _ _ HPP.out)); clear hown6 hat6 hg6 hO2 hW2 P2 p0 p1; obtain ⟨o2, ho2⟩ : ∃ o2, o2 = out ++ [(⟨Xt, Xi⟩ : It)] := ⟨_, rfl⟩; rw [← ho2] at hown6' hl6 HPP HLN2; have HO2 := Lib.hid ho2; have hlen2 : (List.length out + 1) = o2.length := (by rw [ho2, List.length_append]; rfl); rw [← ho2]; clear ho2 hlen2))
          have hws6 := Below.size hW6
          have hx6 := Blk.lt P6
          go_wp2_with (at_builtin; go_loud (refine wpList_append_any _ rfl (.tmp 28) (.tmp 33) _ rfl (xb + 1) 31 iI _ 2 16 Try.underlying22 hiI hzI hzI1 hzI2 rfl (by decide) _ (o2).length (itShape.flat (o2)) rfl (hown6'.alloc _) _ (some ⟨w6.heap.size, 0, none⟩) 1 1 [.int .i64 Y1, .int .i64 Y2] rfl (it_reads w6 31 2 [.int .i64 Y1, .int .i64 Y2] rfl) (by intro u hu; simp at hu; rcases hu with rfl | rfl <;> rfl) (by simp only [maxLen]; omega) (by omega) (by simp; omega) ?_; intro v8 w8 hown8 hg8 hat8))
          have hown8' : w8.ownsRow (xb + 1) 31 2 v8 ((o2) ++ [(⟨Y1, Y2⟩ : It)]).length (itShape.flat ((o2) ++ [⟨Y1, Y2⟩])) := by rw [List.length_append, itShape.flat_snoc]; exact hown8
          have hW8 := below_grown (hW6.alloc (Below.size hW6) (.cells #[.int .i64 Y1, .int .i64 Y2] 31)) (by have := Below.size hW6; simp; omega) hg8 (fun g hg => by have := (hown6'.lt g hg).1; have := HXB.out; omega)
          have P8 := (P6.alloc (.cells #[.int .i64 Y1, .int .i64 Y2] 31)).grown hg8 (fun e => by have := (hown6'.lt xb e.symm).1; omega)
          clear hown8 hg8 hat8 hown6' hW6 P6 d4 d5
          go_wp2
          go_roundg (n - (i + 1))
          case measure => omega
          case rel => exact ⟨i + 1, true, o2 ++ [⟨Y1, Y2⟩], by go_num, rfl, by omega, rfl, Lib.hid HPP.out, HLN2.out, hown8', P8, hW8⟩
    · obtain rfl : i = n := by omega
      have hge : ¬ (i : Int) < (i : Int) := by omega
      have hws := hW.size
      have hxw : w.heap.size ≤ xb + 1 := by have := HXB.out; omega
      cases d with
      | true =>
        have HR := Lib.hid (HE.out out HP.out)
        have HO3 := Lib.hid (show wr.ownsRow w.heap.size 31 2 (.slice Ao out.length co) PL.length (itShape.flat PL) by rw [← HR.out]; exact own_base hO hxw)
        clear hO P p0 p1
        go_wp2
        go_ret
        exact ⟨⟨_, rfl, HO3.out⟩, hW⟩
      | false =>
        go_wp2_with (at_builtin; go_loud (refine wpList_append_any _ rfl (.tmp 37) (.tmp 39) _ rfl (xb + 1) 31 iI _ 2 16 Try.underlying22 hiI hzI hzI1 hzI2 rfl (by decide) _ (out).length (itShape.flat (out)) rfl (hO.alloc _) _ (some ⟨wr.heap.size, 0, none⟩) 1 1 [.int .i64 Xt, .int .i64 Xi] rfl (it_reads wr 31 2 [.int .i64 Xt, .int .i64 Xi] rfl) (by intro u hu; simp at hu; rcases hu with rfl | rfl <;> rfl) (by simp only [maxLen]; omega) (by omega) (by simp; omega) ?_; intro v6 w6 hown6 hg6 hat6))
        have hown6' : w6.ownsRow (xb + 1) 31 2 v6 ((out) ++ [(⟨Xt, Xi⟩ : It)]).length (itShape.flat ((out) ++ [⟨Xt, Xi⟩])) := by rw [List.length_append, itShape.flat_snoc]; exact hown6
        have hW6 := below_grown (hW.alloc (Below.size hW) (.cells #[.int .i64 Xt, .int .i64 Xi] 31)) (by have := Below.size hW; simp; omega) hg6 (fun g hg => by have := (hO.lt g hg).1; have := HXB.out; omega)
        have P6 := (P.alloc (.cells #[.int .i64 Xt, .int .i64 Xi] 31)).grown hg6 (fun e => by have := (hO.lt xb e.symm).1; omega)
        have HR := Lib.hid (HF.out out HP.out)
        have HO3 := Lib.hid (show w6.ownsRow w.heap.size 31 2 v6 PL.length (itShape.flat PL) by rw [← HR.out]; exact own_base hown6' hxw)
        clear hO P p0 p1 hown6 hown6' hg6 hat6 hW P6
        go_wp2
        go_ret
        exact ⟨⟨_, rfl, HO3.out⟩, hW6⟩
end Go.Proofs.Ytcpfekhpbjkgeaa
end
section
/- Which items are taken out: Cancel's closure, slices.IndexFunc of items. -/
set_option linter.unusedVariables false
namespace Go.Proofs.Ytcpfekhpbjkgeaa
open Go.RowKit
set_option maxHeartbeats 8000000
set_option maxRecDepth 100000
theorem cancel_asks (x : It) (ib : Nat) (z : Int) (w : World) (c : w.cell? ⟨ib, 0, none⟩ = some (.int .i64 z)) :
    Calls Try.prog 53 #[.agg #[.int .i64 x.t, .int .i64 x.id], .pointer (some ⟨ib, 0, none⟩)] w fun e w' => e = .returned (.bool (x.id == z)) ∧ Below w.heap.size w w' := by
  obtain ⟨x1, x2⟩ := x
  dsimp only
  have hA := (Below.refl w.heap.size w).alloc (Nat.le_refl _) (.cells #[.int .i64 x1, .int .i64 x2] 31)
  have P := Blk.new w 31 #[.int .i64 x1, .int .i64 x2]
  obtain ⟨p0, p1, _⟩ := P.cells2
  have c2 := cell_keep c hA
  go_enter Try.func53, Try.ntmps53
  go_wp2
  go_ret
  exact ⟨rfl, hA⟩
/-- The first item of an id, or none. -/
def IdxIt (z : Int) (l : List It) (e : Ending) : Prop :=
  (∃ k, k < l.length ∧ e = .returned (.int .i64 (k : Int)) ∧ ((l.getD k default).id == z) = true ∧ ∀ j, j < k → ((l.getD j default).id == z) = false) ∨
    e = .returned (.int .i64 (-1)) ∧ ∀ j, j < l.length → ((l.getD j default).id == z) = false
theorem indexFunc_it {w : World} {A : Option Addr} {n c : Nat} {l : List It} (h : ReadsIt w A n c l) (ib : Nat) (z : Int) (hc : w.cell? ⟨ib, 0, none⟩ = some (.int .i64 z)) :
    Calls Try.prog 74 #[.slice A n c, .func (.func 53) #[] #[.pointer (some ⟨ib, 0, none⟩)]] w fun e w' => IdxIt z l e ∧ Below w.heap.size w w' := by
  have hcc := h.2.2
  have HLN := Lib.hid h.2.1
  have HP := Lib.hid (fun (k : Nat) (h1 : k < n) (h2 : ((l.getD k default).id == z) = true) (h3 : ∀ j, j < k → ((l.getD j default).id == z) = false) => (show IdxIt z l (.returned (.int .i64 (k : Int))) from .inl ⟨k, by rw [HLN.out]; exact h1, rfl, h2, h3⟩))
  have HM := Lib.hid (fun (h3 : ∀ j, j < n → ((l.getD j default).id == z) = false) => (show IdxIt z l (.returned (.int .i64 (-1))) from .inr ⟨rfl, by rw [HLN.out]; exact h3⟩))
  generalize IdxIt z l = PO at *
  go_enter Try.func74, Try.ntmps74
  go_wp2_with fail
  go_loopg [5, 8] n (fun gk s5 s8 wr => ∃ i : Nat, i ≤ n ∧ gk = n - i ∧ s8 = .int .i64 i ∧ Hid (∀ j, j < i → ((l.getD j default).id == z) = false) ∧ Below w.heap.size w wr)
  case atStart => exact ⟨0, Nat.zero_le _, rfl, rfl, Lib.hid (fun j hj => absurd hj (Nat.not_lt_zero _)), Below.refl _ _⟩
  case round =>
    obtain ⟨i, hi, rfl, rfl, HI, hW⟩ := hrel
    by_cases hin : i < n
    · have hii : (i : Int) < (n : Int) := by omega
      obtain ⟨ad, rfl, _, d0, d1⟩ := (h.keep hW).at_ hin
      have CA := cancel_asks (l.getD i default) ib z wr (cell_keep hc hW)
      have HT := Lib.hid (fun h => HP.out i hin h HI.out)
      have HF := Lib.hid (fun (h : ((l.getD i default).id == z) = false) => (show ∀ j, j < i + 1 → ((l.getD j default).id == z) = false from fun j hj => by
        by_cases e : j = i
        · subst e; exact h
        · exact HI.out j (by omega)))
      generalize l.getD i default = X at *
      obtain ⟨X1, X2⟩ := X
      dsimp only at d0 d1 CA HT HF
      generalize (X2 == z) = E at *
      go_wp2_with fail
      refine CA.mono ?_; rintro e w2 ⟨rfl, hx⟩
      have hW2 := below_step hW hx
      clear CA hW hx d0 d1
      cases E with
      | true =>
        have HR := Lib.hid (HT.out rfl)
        go_wp2
        go_ret
        exact ⟨HR.out, hW2⟩
      | false =>
        have HR := Lib.hid (HF.out rfl)
        go_wp2
        go_roundg (n - (i + 1))
        case measure => omega
        case rel => exact ⟨i + 1, by omega, rfl, by go_num, HR, hW2⟩
    · obtain rfl : i = n := by omega
      have hge : ¬ (i : Int) < (i : Int) := by omega
      have HR := Lib.hid (HM.out HI.out)
      go_wp2
      go_ret
      exact ⟨HR.out, hW⟩
end Go.Proofs.Ytcpfekhpbjkgeaa
end
section
/- slices.DeleteFunc of items that a slice owns. -/
set_option linter.unusedVariables false
namespace Go.Proofs.Ytcpfekhpbjkgeaa
open Go.RowKit
set_option maxHeartbeats 8000000
set_option maxRecDepth 100000
theorem own_take {w : World} {B : Nat} {T : TypeId} {g n c r : Nat} {xs : List Value} (h : w.ownsRow B T 2 (.slice (some ⟨g, 0, none⟩) n c) n xs) (hr : r ≤ n) : w.ownsRow B T 2 (.slice (some ⟨g, 0, none⟩) r c) r (xs.take (r * 2)) := by
  refine ⟨by rw [List.length_take, h.1]; exact Nat.min_eq_left (Nat.mul_le_mul_right 2 hr), ?_⟩
  rcases h.2 with ⟨e, _⟩ | ⟨g', cap, a, e, hb, hg, h1, h2, h3, h4⟩
  · cases e
  · cases e
    exact .inr ⟨g, c, a, rfl, hb, hg, by omega, h2, h3, by rw [← h4, List.take_take, Nat.min_eq_left (Nat.mul_le_mul_right 2 hr)]⟩
theorem own_setCells {B : Nat} {T : TypeId} {s g n c : Nat} : ∀ (vs : List Value) (o : Nat) (w : World) (xs : List Value), w.ownsRow B T s (.slice (some ⟨g, 0, none⟩) n c) n xs →
    ∃ xs', (w.setCells g o vs).ownsRow B T s (.slice (some ⟨g, 0, none⟩) n c) n xs' ∧ (∀ m, m ≤ o → xs'.take m = xs.take m) ∧ w.grownBy (w.setCells g o vs) (some g)
  | [], o, w, xs, h => ⟨xs, h, fun _ _ => rfl, World.grownBy.refl w _⟩
  | v :: vs, o, w, xs, h => by
    obtain ⟨h1, h2⟩ := h.stored o v
    obtain ⟨xs', a, b, d⟩ := own_setCells vs (o + 1) (w.setCell ⟨g, o, none⟩ v) (xs.set o v) h1
    refine ⟨xs', a, fun m hm => ?_, ⟨d.os.trans h2.os, d.tape.trans h2.tape, d.output.trans h2.output, Nat.le_trans h2.size d.size, fun k hk hne => (d.block k (Nat.lt_of_lt_of_le hk h2.size) hne).trans (h2.block k hk hne)⟩⟩
    rw [b m (by omega), List.take_set_of_le hm]
theorem own_put2 {w : World} {B : Nat} {T : TypeId} {g n c r : Nat} {cur : List It} (h : w.ownsRow B T 2 (.slice (some ⟨g, 0, none⟩) n c) n (itShape.flat cur)) (hr : r < n) (x : It) :
    ((w.setCell ⟨g, r * 2, none⟩ (.int .i64 x.t)).setCell ⟨g, r * 2 + 1, none⟩ (.int .i64 x.id)).ownsRow B T 2 (.slice (some ⟨g, 0, none⟩) n c) n (itShape.flat (cur.set r x)) := by
  have hl := own_len h
  have h1 := ((h.stored (r * 2) (.int .i64 x.t)).1.stored (r * 2 + 1) (.int .i64 x.id)).1
  rw [flat_set_it cur r x (by omega)]
  have e : ((itShape.flat cur).set (r * 2) (.int .i64 x.t)).set (r * 2 + 1) (.int .i64 x.id) = (itShape.flat cur).take (r * 2) ++ encIt x ++ (itShape.flat cur).drop (r * 2 + 2) := by
    have hf : (itShape.flat cur).length = n * 2 := by rw [itShape.flat_len, hl]; rfl
    apply List.ext_getElem?
    intro j
    rw [List.getElem?_set, List.getElem?_set, List.append_assoc, List.length_set]
    by_cases c1 : j < r * 2
    · rw [if_neg (by omega), if_neg (by omega), List.getElem?_append_left (by rw [List.length_take]; omega), List.getElem?_take, if_pos c1]
    · rw [List.getElem?_append_right (by rw [List.length_take]; omega), List.length_take, Nat.min_eq_left (by omega)]
      by_cases c2 : j = r * 2
      · subst c2
        rw [if_neg (by omega), if_pos rfl, if_pos (by omega), Nat.sub_self]; rfl
      · by_cases c3 : j = r * 2 + 1
        · subst c3
          rw [if_pos rfl, if_pos (by omega), show r * 2 + 1 - r * 2 = 1 by omega]; rfl
        · rw [if_neg (by omega), if_neg (by omega), List.getElem?_append_right (by show 2 ≤ _; omega), List.getElem?_drop]
          congr 1
          show j = r * 2 + 2 + (j - r * 2 - 2)
          omega
  rw [← e]
  exact h1
theorem run_clear_it {P : Program} (w : World) (t e ty : TypeId) (z : Value) (zs : List Value) (n c : Nat) (ht : P.underlying t = some (.slice e)) (hv : ∀ w, (zeroValue e).run P w = .ok z w) (hz : (Builtin.zeroCells z.cells n).toList = zs) (h1 : ∀ v ∈ zs, v.oneCell' = true) (b o : Nat) (hn : 0 < n)
    (hc : ∀ j, j < zs.length → (w.cell? ⟨b, o + j, none⟩).isSome = true) (hf : ∀ j, j < zs.length → w.frozen? ⟨b, o + j, none⟩ = false) :
    (Builtin.clear_ #[t] ty #[.slice (some ⟨b, o, none⟩) n c]).run P w = .ok (.tuple #[]) (w.setCells b o zs) := by
  have hst := run_storeCells_cells (P := P) b o zs 0 w (by simpa using hc) (by simpa using hf) h1
  simp only [Nat.add_zero] at hst
  obtain ⟨m, rfl⟩ : ∃ m, n = m + 1 := ⟨n - 1, by omega⟩
  simp [Builtin.clear_, run_underlying ht, hv, hz, hst]
end Go.Proofs.Ytcpfekhpbjkgeaa
end
section
/- slices.DeleteFunc of items that a slice owns, walked. -/
set_option linter.unusedVariables false
namespace Go.Proofs.Ytcpfekhpbjkgeaa
open Go.RowKit
set_option maxHeartbeats 8000000
set_option maxRecDepth 100000
def DelIt (z : Int) (l : List It) (w w' : World) (B : Nat) (A : Option Addr) (c : Nat) (e : Ending) : Prop :=
  e = .returned (.slice A (l.filter (fun x => x.id != z)).length c) ∧ w'.ownsRow B 31 2 (.slice A (l.filter (fun x => x.id != z)).length c) (l.filter (fun x => x.id != z)).length (itShape.flat (l.filter (fun x => x.id != z))) ∧ Mod (fun g => A = some ⟨g, 0, none⟩) w w'
theorem idx_none {z : Int} {l : List It} (h : ∀ j, j < l.length → ((l.getD j default).id == z) = false) : l.filter (fun x => x.id != z) = l := List.filter_eq_self.2 (fun x hx => by
  obtain ⟨j, hj, rfl⟩ := List.mem_iff_getElem.1 hx
  have := h j hj
  rw [List.getD_eq_getElem?_getD, List.getElem?_eq_getElem hj] at this
  show (!(l[j].id == z)) = true
  rw [show (l[j].id == z) = false from this]; rfl)
theorem shr_at {z : Int} {l : List It} {k : Nat} (hk : k < l.length) (h : ((l.getD k default).id == z) = true) (h2 : ∀ j, j < k → ((l.getD j default).id == z) = false) : Shr (fun x => x.id != z) l l (k + 1) k := by
  refine ⟨rfl, Nat.le_succ _, ?_, rfl⟩
  rw [take_next hk, List.filter_append, List.filter_cons_of_neg (by show ¬ (!((l.getD k default).id == z)) = true; rw [h]; simp), List.filter_nil, List.append_nil]
  exact (idx_none (z := z) (l := l.take k) (fun j hj => by
    rw [List.length_take] at hj
    have := h2 j (by omega)
    rw [List.getD_eq_getElem?_getD, List.getElem?_take, if_pos (by omega), ← List.getD_eq_getElem?_getD]; exact this)).symm
theorem own_free {w : World} {B : Nat} {T : TypeId} {s g n c : Nat} {xs : List Value} (h : w.ownsRow B T s (.slice (some ⟨g, 0, none⟩) n c) n xs) (i : Nat) : w.frozen? ⟨g, i, none⟩ = false := by
  rcases h.2 with ⟨e, _⟩ | ⟨g', cap, a, e, _, hg, _⟩
  · cases e
  · cases e; simp [World.frozen?, hg]
theorem own_some {w : World} {B : Nat} {T : TypeId} {g n c : Nat} {xs : List Value} (h : w.ownsRow B T 2 (.slice (some ⟨g, 0, none⟩) n c) n xs) {i : Nat} (hi : i < n * 2) : (w.cell? ⟨g, i, none⟩).isSome = true := by
  rcases h.2 with ⟨e, _⟩ | ⟨g', cap, a, e, _, hg, h1, _, h3, _⟩
  · cases e
  · cases e
    have : i < a.size := by rw [h3]; omega
    simp [World.cell?, hg, this]
theorem deleteFunc_it {w : World} {B : Nat} {A : Option Addr} {n c : Nat} {l : List It} (h : w.ownsRow B 31 2 (.slice A n c) n (itShape.flat l)) (ib : Nat) (z : Int) (hc : w.cell? ⟨ib, 0, none⟩ = some (.int .i64 z)) (hib : ∀ g, A = some ⟨g, 0, none⟩ → ib ≠ g) (hn : n ≤ 4096) :
    Calls Try.prog 52 #[.slice A n c, .func (.func 53) #[] #[.pointer (some ⟨ib, 0, none⟩)]] w fun e w' => DelIt z l w w' B A c e := by
  have hX := indexFunc_it (own_it h) ib z hc
  have hcc := own_cap h
  have hlen := own_len h
  have HL := Lib.hid hlen
  have HD := Lib.hid (fun e w' => (Iff.rfl : DelIt z l w w' B A c e ↔ (e = .returned (.slice A (l.filter (fun x => x.id != z)).length c) ∧ w'.ownsRow B 31 2 (.slice A (l.filter (fun x => x.id != z)).length c) (l.filter (fun x => x.id != z)).length (itShape.flat (l.filter (fun x => x.id != z))) ∧ Mod (fun g => A = some ⟨g, 0, none⟩) w w')))
  generalize hPO : DelIt z l w = PO at *
  have HPO := Lib.hid hPO
  clear hPO hlen
  go_enter Try.func52, Try.ntmps52
  go_wp2_with fail
  refine hX.mono ?_
  rintro e w1 ⟨hI, hx1⟩
  have h1 := ownR_keep h hx1
  have hc1 := cell_keep hc hx1
  clear hX hc h
  rcases hI with ⟨k, hk, rfl, hk1, hk2⟩ | ⟨rfl, hall⟩
  · have HS0 := Lib.hid (shr_at hk hk1 hk2)
    have hkn : k < n := by rw [← HL.out]; exact hk
    clear hk hk1 hk2
    obtain ⟨g, rfl, _⟩ : ∃ g, A = some ⟨g, 0, none⟩ ∧ True := by
      obtain ⟨g, e, _⟩ := own_at2 h1 hkn
      exact ⟨g, e, trivial⟩
    have hig := hib g rfl
    have HIG := Lib.hid hig
    clear hib hig
    have hne : ((k : Int) == -1) = false := by rw [beq_eq_false_iff_ne]; omega
    have wk1 : IntKind.i64.wrap ((k : Int) + 1) = (k : Int) + 1 := by rw [IntKind.wrap_i64]; omega
    have hM1 : Mod (fun q => (some (⟨g, 0, none⟩ : Addr)) = some ⟨q, 0, none⟩) w w1 := Mod.of_below hx1
    clear hx1
    go_wp2_with fail
    go_loopg [5, 6, 7] (n - (k + 1)) (fun gg s5 s6 s7 wr => ∃ (r j : Nat) (cur : List It), s5 = .int .i64 r ∧ s6 = .int .i64 j ∧ j ≤ n ∧ gg = n - j ∧ r < j ∧ Hid (Shr (fun x => x.id != z) l cur j r) ∧ wr.ownsRow B 31 2 (.slice (some ⟨g, 0, none⟩) n c) n (itShape.flat cur) ∧ wr.cell? ⟨ib, 0, none⟩ = some (.int .i64 z) ∧ Mod (fun q => (some (⟨g, 0, none⟩ : Addr)) = some ⟨q, 0, none⟩) w wr)
    case atStart => exact ⟨k, k + 1, l, rfl, by go_num, hkn, rfl, Nat.lt_succ_self _, HS0, h1, hc1, hM1⟩
    case round =>
      clear h1 hc1 hM1 HS0 hne wk1
      obtain ⟨r, j, cur, rfl, rfl, hj, rfl, hrj, HS, hO, hc, hM⟩ := hrel
      by_cases hjn : j < n
      · have hjj : (j : Int) < (n : Int) := by omega
        have hjL : j < l.length := by rw [HL.out]; exact hjn
        obtain ⟨g', e, hcl, d0, d1, hnc⟩ := own_at2 hO hjn
        cases e
        rw [HS.out.at_ hjL] at d0 d1
        have HYES := Lib.hid (fun h => HS.out.yes hjL h)
        have HNO := Lib.hid (fun h => HS.out.no hjL h)
        have CA := fun (w : World) (hc : w.cell? ⟨ib, 0, none⟩ = some (.int .i64 z)) => cancel_asks (l.getD j default) ib z w hc
        obtain ⟨X, hX⟩ : ∃ X, X = l.getD j default := ⟨_, rfl⟩
        rw [← hX] at d0 d1 HYES HNO
        simp only [← hX] at CA
        clear hX hjL
        obtain ⟨X1, X2⟩ := X
        dsimp only at d0 d1 CA HYES HNO
        go_upto_region 8 with (fail)
        have P := Blk.new wr 31 #[.int .i64 X1, .int .i64 X2]
        have hO1 := hO.alloc (.cells #[.int .i64 X1, .int .i64 X2] 31)
        have hM1 := hM.alloc (.cells #[.int .i64 X1, .int .i64 X2] 31)
        have hc1 := cell_alloc hc (.cells #[.int .i64 X1, .int .i64 X2] 31)
        clear hO hM hc d0 d1
        obtain ⟨xb, hxb⟩ : ∃ q, q = wr.heap.size := ⟨_, rfl⟩
        rw [← hxb] at P ⊢
        clear hxb
        generalize wr.alloc (.cells #[.int .i64 X1, .int .i64 X2] 31) = u at *
        obtain ⟨p0, p1, _⟩ := P.cells2
        have CA := CA u hc1
        have HE := Lib.hid (show (X2 != z) = !(X2 == z) from rfl)
        generalize (X2 == z) = E at *
        go_wp2_with fail
        refine CA.mono ?_; rintro e w3 ⟨rfl, hx3⟩
        have P3 := P.keep hx3
        have hO3 := ownR_keep hO1 hx3
        have hc3 := cell_keep hc1 hx3
        have hM3 := hM1.thenB hx3
        clear CA P hO1 hM1 hc1 hx3 p0 p1
        obtain ⟨p0, p1, _⟩ := P3.cells2
        cases E with
        | true =>
          have HN := Lib.hid (HNO.out (by rw [HE.out]; rfl))
          go_wp2
          go_roundg (n - (j + 1))
          case measure => omega
          case rel => exact ⟨r, j + 1, cur, rfl, by go_num, by omega, rfl, by omega, HN, hO3, hc3, hM3⟩
        | false =>
          have HN := Lib.hid (HYES.out (by rw [HE.out]; rfl))
          have hrn : r < n := by omega
          have hrr : (r : Int) < (n : Int) := by omega
          obtain ⟨g', e, _, y0, y1, _⟩ := own_at2 hO3 hrn
          cases e
          have f0 := own_free hO3 (r * 2)
          have f1 := own_free hO3 (r * 2 + 1)
          obtain ⟨x1, y2⟩ := some_set (q := ⟨g, r * 2, none⟩) (v := .int .i64 X1) y1
          have hO5 := own_put2 hO3 hrn ⟨X1, X2⟩
          dsimp only at hO5
          have hc5 := (World.cell?_setCell_other (w3.setCell ⟨g, r * 2, none⟩ (.int .i64 X1)) ⟨g, r * 2 + 1, none⟩ ⟨ib, 0, none⟩ (.int .i64 X2) (fun e => HIG.out (congrArg Addr.block e).symm)).trans ((World.cell?_setCell_other w3 ⟨g, r * 2, none⟩ ⟨ib, 0, none⟩ (.int .i64 X1) (fun e => HIG.out (congrArg Addr.block e).symm)).trans hc3)
          have hM5 := (hM3.setCell (p := ⟨g, r * 2, none⟩) (.inl rfl) (.int .i64 X1)).setCell (p := ⟨g, r * 2 + 1, none⟩) (.inl rfl) (.int .i64 X2)
          have HO5 := Lib.hid hO5
          have HC5 := Lib.hid hc5
          have HM5 := Lib.hid hM5
          clear hO3 hc3 hM3 P3 hO5 hc5 hM5
          go_wp2
          go_roundg (n - (j + 1))
          case measure => omega
          case rel => exact ⟨r + 1, j + 1, cur.set r ⟨X1, X2⟩, by go_num, by go_num, by omega, rfl, by omega, HN, HO5.out, HC5.out, HM5.out⟩
      · obtain rfl : j = n := by omega
        have hge : ¬ (j : Int) < (j : Int) := by omega
        have HF := Lib.hid (show cur.take r = l.filter (fun x => x.id != z) by have h := HS.out; rw [← HL.out] at h; exact h.end_)
        have hcur := own_len hO
        have HFL := Lib.hid (show (l.filter (fun x => x.id != z)).length = r by rw [← HF.out, List.length_take, hcur]; omega)
        obtain ⟨zs, hzs⟩ : ∃ zs, zs = (Builtin.zeroCells #[Value.int .i64 0, Value.int .i64 0] (j - r)).toList := ⟨_, rfl⟩
        have hzl : zs.length = (j - r) * 2 := by rw [hzs]; simp [Builtin.zeroCells]
        have hzo : ∀ v ∈ zs, v.oneCell' = true := by
          rw [hzs]
          intro v hv
          simp only [Builtin.zeroCells, Array.toList_map, List.mem_map] at hv
          obtain ⟨q, _, rfl⟩ := hv
          have : q % 2 = 0 ∨ q % 2 = 1 := by omega
          show (#[Value.int .i64 0, Value.int .i64 0][q % 2]!).oneCell' = true
          rcases this with h | h <;> rw [h] <;> rfl
        have hclr : ∀ ty, (Builtin.clear_ #[22] ty #[.slice (some ⟨g, r * 2, none⟩) (j - r) (c - r)]).run Try.prog wr = .ok (.tuple #[]) (wr.setCells g (r * 2) zs) := fun ty =>
          run_clear_it (P := Try.prog) wr 22 31 ty (.agg #[.int .i64 0, .int .i64 0]) zs (j - r) (c - r) Try.underlying22 (fun w => by kernel_rfl) hzs.symm hzo g (r * 2) (by omega) (fun x hx => own_some hO (by omega)) (fun x hx => own_free hO _)
        obtain ⟨xs', ho', ht', hg'⟩ := own_setCells zs (r * 2) wr _ hO
        have hrj : r ≤ j := by omega
        have HO5 := Lib.hid (show (wr.setCells g (r * 2) zs).ownsRow B 31 2 (.slice (some ⟨g, 0, none⟩) (l.filter (fun x => x.id != z)).length c) (l.filter (fun x => x.id != z)).length (itShape.flat (l.filter (fun x => x.id != z))) by
          have h5 := own_take ho' hrj
          rw [ht' _ (Nat.le_refl _), show (itShape.flat cur).take (r * 2) = itShape.flat (cur.take r) from itShape.flat_take cur r, HF.out] at h5
          rw [HFL.out]; exact h5)
        have HM5 := Lib.hid (hM.trans (mod_grown hg' (D := fun q => (some (⟨g, 0, none⟩ : Addr)) = some ⟨q, 0, none⟩) (fun q hq => by injection hq with hq; rw [hq])))
        have hii : (r : Int) ≤ (c : Int) := by omega
        have hij : (r : Int) ≤ (j : Int) := by omega
        clear ho' ht' hg' hM hO hzl hzo hcur hc hzs
        go_wp2_with fail
        rw [← HPO.out]
        exact ⟨by rw [HFL.out], HO5.out, HM5.out⟩
  · have HN := Lib.hid (idx_none hall)
    have hM1 : Mod (fun q => A = some ⟨q, 0, none⟩) w w1 := Mod.of_below hx1
    have HR := Lib.hid (show w1.ownsRow B 31 2 (.slice A (l.filter (fun x => x.id != z)).length c) (l.filter (fun x => x.id != z)).length (itShape.flat (l.filter (fun x => x.id != z))) by rw [HN.out, HL.out]; exact h1)
    clear hall h1 hc1 hx1 hib
    go_wp2_with fail
    rw [← HPO.out]
    exact ⟨by rw [HN.out, HL.out]; rfl, HR.out, hM1⟩
end Go.Proofs.Ytcpfekhpbjkgeaa
end
