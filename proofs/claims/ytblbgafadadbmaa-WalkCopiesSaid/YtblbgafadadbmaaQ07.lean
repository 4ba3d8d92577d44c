/- Lemmas for the claim's proof: TreeE. -/
import Derived.Test.YtblbgafadadbmaaQ06
section
/- The law's why, whole. (Written by gen_treee.py.) -/
set_option linter.unusedVariables false
namespace Go.Proofs.Ytblbgafadadbmaa
open Go.RowKit
set_option maxHeartbeats 4000000
set_option maxRecDepth 100000
theorem eq_addr (a b : Bool) (p q r s : Int) (w : World) : (Op.equalIn 10000 62 (.agg #[.bool a, .int .u64 p, .int .u64 q]) (.agg #[.bool b, .int .u64 r, .int .u64 s])).run Try.prog w = .ok (a == b && p == r && q == s) w := by
  go_simp
  (repeat' split) <;> simp_all
theorem eqG_addr (x y : Operand) (a b : Bool) (p q r s : Int) (w : World) : (eqGuard .eql 62 x y (.agg #[.bool a, .int .u64 p, .int .u64 q]) (.agg #[.bool b, .int .u64 r, .int .u64 s])).run Try.prog w = .ok () w := by
  go_simp
theorem eq_addr_op {A : Act} {o : Oper} {x y : Operand} {t : TypeId} {a b : Bool} {p q r s : Int} (ho : o.op = .binOp .eql 62 x y t) (hx : A.eval x = .agg #[.bool a, .int .u64 p, .int .u64 q]) (hy : A.eval y = .agg #[.bool b, .int .u64 r, .int .u64 s]) (w : World) :
    (execOp A.eval o).run Try.prog w = .ok (.value (.bool (a == b && p == r && q == s))) w := by
  have h1 := eqG_addr x y a b p q r s w
  have h2 := eq_addr a b p q r s w
  unfold execOp
  simp only [ho, hx, hy, Sem.run_bind, h1, Result.andThen_ok, run_eql_struct, h2, Sem.run_pure]
theorem quiet_eq_addr {A : Act} {o : Oper} {x y : Operand} {t : TypeId} {a b : Bool} {p q r s : Int} {E : Bool} {C : World → Prop} {K : Act → Prop} (hE : (a == b && p == r && q == s) = E) (ho : o.op = .binOp .eql 62 x y t) (hx : A.eval x = .agg #[.bool a, .int .u64 p, .int .u64 q]) (hy : A.eval y = .agg #[.bool b, .int .u64 r, .int .u64 s])
    (h : K (A.put o.dst (.bool E))) : o.quiet Try.prog A C K :=
  ⟨.bool E, fun w _ => by unfold Oper.quietAt; rw [eq_addr_op ho hx hy w, hE]; exact ⟨rfl, rfl⟩, h⟩
theorem ofKind_le (k : Int) (l : List Nd) (m : Nat) : ofKind k (l.take m) ≤ m := by
  unfold ofKind
  have := List.countP_le_length (p := fun x : Nd => x.kind == k) (l := l.take m)
  have h2 := List.length_take_le m l
  omega
theorem ofKind_step (kd : Int) (l : List Nd) {k : Nat} (hk : k < l.length) : ofKind kd (l.take (k + 1)) = ofKind kd (l.take k) + if (l.getD k nd0).kind = kd then 1 else 0 := by
  unfold ofKind
  rw [List.take_succ_eq_append_getElem hk, List.countP_append, List.countP_singleton, List.getD_eq_getElem?_getD, List.getElem?_eq_getElem hk]
  simp
theorem whyC_right {x : Nd} {l : List Nd} (h : rightC x l ≠ 0) : whyC x l = rightC x l := by unfold whyC; rw [if_pos h]
theorem whyC_full {x : Nd} {l : List Nd} (h : rightC x l = 0) (h2 : full x l = true) : whyC x l = 6 := by unfold whyC; rw [if_neg (by omega), if_pos h2]
theorem whyC_zero {x : Nd} {l : List Nd} (h : rightC x l = 0) (h2 : full x l = false) : whyC x l = 0 := by unfold whyC; rw [if_neg (by omega), h2]; rfl
theorem why_late1 (x : Nd) (hx : x.Wf) (A : Option Addr) (n c : Nat) (l : List Nd) (w : World) (hl : IsNodes w A n c l) (h : headC x l = 0) (hk1 : x.kind = 1) :
    Calls Try.prog 35 #[.agg #[.string x.name, .int .i64 x.kind, .int .i64 x.above, .int .i64 x.weight, .bool x.six, .int .u64 x.hi, .int .u64 x.lo], .slice A n c] w fun e w' => e = .returned (.int .i64 (whyC x l)) ∧ Below w.heap.size w w' := by
  have HK := headC_zero h
  have HR8 := Lib.hid (fun h2 => show whyC x l = 8 from (whyC_right (by rw [rightC_twice h h2]; decide)).trans (rightC_twice h h2))
  have HR6 := Lib.hid (fun h2 h3 => whyC_full (rightC_zero h h2) h3)
  have HR0 := Lib.hid (fun h2 h3 => whyC_zero (rightC_zero h h2) h3)
  have HT := Lib.hid (fun k hk h1 h2 => any_take_step (x := x) (l := l) (k := k) hk h1 h2)
  have HA := Lib.hid (fun k hk h2 => any_at (x := x) (l := l) (k := k) hk h2)
  have HF := Lib.hid (show full x l = (decide (1024 ≤ l.length) || (x.kind == 1 && decide (4 ≤ ofKind 1 l)) || (x.kind == 4 && decide (512 ≤ ofKind 4 l))) from rfl)
  clear h
  obtain ⟨s, kd, ab, wt, six, hi, lo⟩ := x
  obtain ⟨hs, b1, b2, b3, b4, b5, b6, b7, b8, b9, b10⟩ := hx
  obtain ⟨q1, q2, q3, q4, q5, q6, q7, q8, q9⟩ := HK
  dsimp only at *
  subst hk1
  obtain ⟨rfl, rfl⟩ := q6 rfl
  obtain ⟨rfl, rfl, rfl⟩ := q9 (by decide)
  clear q6 q7 q9 q2 q3 q4 q5
  have hcap := hl.cap
  have hsm := hl.small
  have hrc := hl.reach
  have hlen := Lib.hid hl.len
  have A0 := fun w => law_name s w hs
  have P := Blk.new w 64 #[.string s, .int .i64 1, .int .i64 (-1), .int .i64 0, .bool false, .int .u64 0, .int .u64 0]
  have hW : Below w.heap.size w (w.alloc (.cells #[.string s, .int .i64 1, .int .i64 (-1), .int .i64 0, .bool false, .int .u64 0, .int .u64 0] 64)) := (Below.refl _ _).alloc (Nat.le_refl _) _
  go_enter Try.func35, Try.ntmps35
  go_wp2_with ((go_at_call 58; refine (A0 _).mono ?_; rintro e w1 ⟨rfl, rfl⟩))
  generalize w.alloc (.cells #[.string s, .int .i64 1, .int .i64 (-1), .int .i64 0, .bool false, .int .u64 0, .int .u64 0] 64) = u at *
  obtain ⟨p0, p1, p2, p3, p4, p5, p6, _⟩ := P.cells7
  have U1 := cell_under p1
  have U2 := cell_under p2
  refine wp_region_quiet_under (by kernel_rfl) (by kernel_rfl) ?_
  repeat (go_big_quiet_step ((fail)))
  refine wpQuiet_nil ?_
  intro wu hw'
  obtain ⟨pq, hw''⟩ := hw'
  have hU := below_eq hw''
  clear hw'' pq
  have P1 := P.keep hU
  have hW1 := below_keep hW (hU.mono (Nat.le_refl _))
  clear P hW hU U1 U2 p0 p1 p2 p3 p4 p5 p6
  obtain ⟨p0, p1, p2, p3, p4, p5, p6, _⟩ := P1.cells7
  go_wp2_with fail
  refine (addr_Right _ _ _ _).mono ?_; rintro e w1 ⟨rfl, hx⟩
  have P2 := P1.keep hx
  have hW2 := below_step hW1 hx
  clear P1 hW1 hx p0 p1 p2 p3 p4 p5 p6
  obtain ⟨p0, p1, p2, p3, p4, p5, p6, _⟩ := P2.cells7
  go_wp2_with fail
  go_loopg [5, 6, 7] n (fun gk s5 s6 s7 wr => ∃ k : Nat, k ≤ n ∧ gk = n - k ∧ s7 = .int .i64 k ∧ s5 = .int .i64 (ofKind 1 (l.take k)) ∧ s6 = .int .i64 (ofKind 4 (l.take k)) ∧ Hid ((l.take k).any (twice ⟨s, 1, (-1), 0, false, 0, 0⟩) = false) ∧ Blk wr w.heap.size 64 #[.string s, .int .i64 1, .int .i64 (-1), .int .i64 0, .bool false, .int .u64 0, .int .u64 0] ∧ Below w.heap.size w wr)
  case atStart => exact ⟨0, Nat.zero_le _, rfl, rfl, rfl, rfl, Lib.hid rfl, P2, hW2⟩
  case round =>
    clear P2 hW2 p0 p1 p2 p3 p4 p5 p6
    obtain ⟨k, hk, rfl, rfl, rfl, rfl, ha, P3, hW3⟩ := hrel
    have hLk := ofKind_le 1 l k
    have hHk := ofKind_le 4 l k
    by_cases hlt : k < n
    · obtain ⟨ad', e', hbk', c0, c1, c2, c3, c4, c5, c6⟩ := (hl.keep hW3).at_ hlt
      subst e'
      have hki : (k : Int) < (n : Int) := by omega
      have HT2 := Lib.hid (HT.out k (by rw [hlen.out]; exact hlt) ha.out)
      have HA2 := Lib.hid (HA.out k (by rw [hlen.out]; exact hlt))
      have HL1 := Lib.hid (ofKind_step 1 l (k := k) (by rw [hlen.out]; exact hlt))
      have HH1 := Lib.hid (ofKind_step 4 l (k := k) (by rw [hlen.out]; exact hlt))
      clear HT HA HF HR6 HR0 ha
      generalize l.getD k nd0 = y at *
      obtain ⟨ys, yk, ya, yw, y6, yh, yl⟩ := y
      dsimp only at *
      obtain ⟨p0, p1, p2, p3, p4, p5, p6, _⟩ := P3.cells7
      generalize ofKind 1 (l.take k) = L at *
      generalize ofKind 4 (l.take k) = H at *
      by_cases hname : ys.toList = s.toList
      · have g1 : (ys.toList == s.toList) = true := by simp [hname]
        have H8 := Lib.hid (HR8.out (HA2.out (by unfold twice sameName; dsimp only; grind)))
        clear hname
        go_wp2_with fail
        go_quiet (fail)
        go_wp2
        go_ret
        exact ⟨by rw [H8.out]; rfl, below_drewN hW3 _⟩
      · have g1 : (ys.toList == s.toList) = false := by simp [hname]
        have HG := Lib.hid hname
        clear hname
        by_cases y1 : yk = 1
        · subst y1
          skip
          · have HL := Lib.hid (show ofKind 1 (l.take (k + 1)) = L + 1 by rw [HL1.out]; simp)
            have HH := Lib.hid (show ofKind 4 (l.take (k + 1)) = H by rw [HH1.out]; simp)
            have HS := Lib.hid (HT2.out (by have g := HG.out; unfold twice sameName sameAddr; dsimp only; grind))
            clear HL1 HH1
            go_wp2_with fail
            go_quiet (fail)
            go_wp2
            go_roundg (n - (k + 1))
            case measure => omega
            case rel => exact ⟨k + 1, by omega, rfl, by go_num, by first | (rw [HL.out]; done) | (rw [HL.out]; rfl) | (rw [HL.out]; go_num), by first | (rw [HH.out]; done) | (rw [HH.out]; rfl) | (rw [HH.out]; go_num), HS, P3, below_drewN hW3 _⟩
        · by_cases y4 : yk = 4
          · subst y4
            have HL := Lib.hid (show ofKind 1 (l.take (k + 1)) = L by rw [HL1.out]; simp)
            have HH := Lib.hid (show ofKind 4 (l.take (k + 1)) = H + 1 by rw [HH1.out]; simp)
            have HS := Lib.hid (HT2.out (by have g := HG.out; unfold twice sameName sameAddr; dsimp only; grind))
            clear HL1 HH1
            go_wp2_with fail
            go_quiet (fail)
            go_wp2
            go_roundg (n - (k + 1))
            case measure => omega
            case rel => exact ⟨k + 1, by omega, rfl, by go_num, by first | (rw [HL.out]; done) | (rw [HL.out]; rfl) | (rw [HL.out]; go_num), by first | (rw [HH.out]; done) | (rw [HH.out]; rfl) | (rw [HH.out]; go_num), HS, P3, below_drewN hW3 _⟩
          · have g2 : (yk == 4) = false := by simp [y4]
            have g3 : (yk == 1) = false := by simp [y1]
            have HY := Lib.hid (And.intro y1 y4)
            have HL := Lib.hid (show ofKind 1 (l.take (k + 1)) = L by rw [HL1.out, if_neg y1]; rfl)
            have HH := Lib.hid (show ofKind 4 (l.take (k + 1)) = H by rw [HH1.out, if_neg y4]; rfl)
            have HS := Lib.hid (HT2.out (by have g := HG.out; unfold twice sameName sameAddr; dsimp only; grind))
            clear HL1 HH1 y1 y4
            go_wp2_with fail
            go_quiet (fail)
            go_wp2
            go_roundg (n - (k + 1))
            case measure => omega
            case rel => exact ⟨k + 1, by omega, rfl, by go_num, by first | (rw [HL.out]; done) | (rw [HL.out]; rfl) | (rw [HL.out]; go_num), by first | (rw [HH.out]; done) | (rw [HH.out]; rfl) | (rw [HH.out]; go_num), HS, P3, below_drewN hW3 _⟩
    · obtain rfl : k = n := by omega
      have ha2 := ha.out
      rw [List.take_of_length_le (by rw [hlen.out]; exact Nat.le_refl _)] at ha2 hLk hHk
      have e1 : l.take k = l := List.take_of_length_le (by rw [hlen.out]; exact Nat.le_refl _)
      have HN6 := Lib.hid (HR6.out ha2)
      have HN0 := Lib.hid (HR0.out ha2)
      have hf := HF.out
      rw [hlen.out] at hf
      have HF2 := Lib.hid hf
      rw [e1]
      clear hf HF HR6 HR0 HR8 ha ha2 e1 HT HA
      obtain ⟨p0, p1, p2, p3, p4, p5, p6, _⟩ := P3.cells7
      generalize ofKind 1 l = L at *
      generalize ofKind 4 l = H at *
      go_wp2
      all_goals first
        | (go_ret
           exact ⟨ret_int (HN6.out (by rw [HF2.out]; grind)).symm, hW3⟩)
        | (go_ret
           exact ⟨ret_int (HN0.out (by rw [HF2.out]; grind)).symm, hW3⟩)
        | (exfalso; omega)
theorem why_late2 (x : Nd) (hx : x.Wf) (A : Option Addr) (n c : Nat) (l : List Nd) (w : World) (hl : IsNodes w A n c l) (h : headC x l = 0) (hk1 : x.kind = 2) :
    Calls Try.prog 35 #[.agg #[.string x.name, .int .i64 x.kind, .int .i64 x.above, .int .i64 x.weight, .bool x.six, .int .u64 x.hi, .int .u64 x.lo], .slice A n c] w fun e w' => e = .returned (.int .i64 (whyC x l)) ∧ Below w.heap.size w w' := by
  have HK := headC_zero h
  have HR8 := Lib.hid (fun h2 => show whyC x l = 8 from (whyC_right (by rw [rightC_twice h h2]; decide)).trans (rightC_twice h h2))
  have HR6 := Lib.hid (fun h2 h3 => whyC_full (rightC_zero h h2) h3)
  have HR0 := Lib.hid (fun h2 h3 => whyC_zero (rightC_zero h h2) h3)
  have HT := Lib.hid (fun k hk h1 h2 => any_take_step (x := x) (l := l) (k := k) hk h1 h2)
  have HA := Lib.hid (fun k hk h2 => any_at (x := x) (l := l) (k := k) hk h2)
  have HF := Lib.hid (show full x l = (decide (1024 ≤ l.length) || (x.kind == 1 && decide (4 ≤ ofKind 1 l)) || (x.kind == 4 && decide (512 ≤ ofKind 4 l))) from rfl)
  clear h
  obtain ⟨s, kd, ab, wt, six, hi, lo⟩ := x
  obtain ⟨hs, b1, b2, b3, b4, b5, b6, b7, b8, b9, b10⟩ := hx
  obtain ⟨q1, q2, q3, q4, q5, q6, q7, q8, q9⟩ := HK
  dsimp only at *
  subst hk1
  obtain ⟨r1, r2, r3⟩ := q7 (by decide)
  obtain ⟨rfl, rfl, rfl⟩ := q9 (by decide)
  rw [hl.len] at r2
  clear q6 q7 q9 q2 q3
  have hcap := hl.cap
  have hsm := hl.small
  have hrc := hl.reach
  have hlen := Lib.hid hl.len
  have A0 := fun w => law_name s w hs
  have P := Blk.new w 64 #[.string s, .int .i64 2, .int .i64 ab, .int .i64 wt, .bool false, .int .u64 0, .int .u64 0]
  have hW : Below w.heap.size w (w.alloc (.cells #[.string s, .int .i64 2, .int .i64 ab, .int .i64 wt, .bool false, .int .u64 0, .int .u64 0] 64)) := (Below.refl _ _).alloc (Nat.le_refl _) _
  obtain ⟨ad, rfl, hbk, hat⟩ := hl.at_ (k := ab.toNat) (by omega)
  have U3 := cell_under (cell_alloc hat.kind (.cells #[.string s, .int .i64 2, .int .i64 ab, .int .i64 wt, .bool false, .int .u64 0, .int .u64 0] 64))
  rw [r3] at U3
  clear hat r3
  go_enter Try.func35, Try.ntmps35
  go_wp2_with ((go_at_call 58; refine (A0 _).mono ?_; rintro e w1 ⟨rfl, rfl⟩))
  generalize w.alloc (.cells #[.string s, .int .i64 2, .int .i64 ab, .int .i64 wt, .bool false, .int .u64 0, .int .u64 0] 64) = u at *
  obtain ⟨p0, p1, p2, p3, p4, p5, p6, _⟩ := P.cells7
  have U1 := cell_under p1
  have U2 := cell_under p2
  refine wp_region_quiet_under (by kernel_rfl) (by kernel_rfl) ?_
  repeat (go_big_quiet_step ((fail)))
  refine wpQuiet_nil ?_
  intro wu hw'
  obtain ⟨pq, hw''⟩ := hw'
  have hU := below_eq hw''
  clear hw'' pq
  have P1 := P.keep hU
  have hW1 := below_keep hW (hU.mono (Nat.le_refl _))
  clear P hW hU U1 U2 p0 p1 p2 p3 p4 p5 p6
  obtain ⟨p0, p1, p2, p3, p4, p5, p6, _⟩ := P1.cells7
  go_wp2_with fail
  refine (addr_Right _ _ _ _).mono ?_; rintro e w1 ⟨rfl, hx⟩
  have P2 := P1.keep hx
  have hW2 := below_step hW1 hx
  clear P1 hW1 hx p0 p1 p2 p3 p4 p5 p6
  obtain ⟨p0, p1, p2, p3, p4, p5, p6, _⟩ := P2.cells7
  go_wp2_with fail
  go_loopg [5, 6, 7] n (fun gk s5 s6 s7 wr => ∃ k : Nat, k ≤ n ∧ gk = n - k ∧ s7 = .int .i64 k ∧ s5 = .int .i64 (ofKind 1 (l.take k)) ∧ s6 = .int .i64 (ofKind 4 (l.take k)) ∧ Hid ((l.take k).any (twice ⟨s, 2, ab, wt, false, 0, 0⟩) = false) ∧ Blk wr w.heap.size 64 #[.string s, .int .i64 2, .int .i64 ab, .int .i64 wt, .bool false, .int .u64 0, .int .u64 0] ∧ Below w.heap.size w wr)
  case atStart => exact ⟨0, Nat.zero_le _, rfl, rfl, rfl, rfl, Lib.hid rfl, P2, hW2⟩
  case round =>
    clear P2 hW2 p0 p1 p2 p3 p4 p5 p6
    obtain ⟨k, hk, rfl, rfl, rfl, rfl, ha, P3, hW3⟩ := hrel
    have hLk := ofKind_le 1 l k
    have hHk := ofKind_le 4 l k
    by_cases hlt : k < n
    · obtain ⟨ad', e', hbk', c0, c1, c2, c3, c4, c5, c6⟩ := (hl.keep hW3).at_ hlt
      obtain rfl : ad' = ad := by injection e' with e'; exact e'.symm
      have hki : (k : Int) < (n : Int) := by omega
      have HT2 := Lib.hid (HT.out k (by rw [hlen.out]; exact hlt) ha.out)
      have HA2 := Lib.hid (HA.out k (by rw [hlen.out]; exact hlt))
      have HL1 := Lib.hid (ofKind_step 1 l (k := k) (by rw [hlen.out]; exact hlt))
      have HH1 := Lib.hid (ofKind_step 4 l (k := k) (by rw [hlen.out]; exact hlt))
      clear HT HA HF HR6 HR0 ha
      generalize l.getD k nd0 = y at *
      obtain ⟨ys, yk, ya, yw, y6, yh, yl⟩ := y
      dsimp only at *
      obtain ⟨p0, p1, p2, p3, p4, p5, p6, _⟩ := P3.cells7
      generalize ofKind 1 (l.take k) = L at *
      generalize ofKind 4 (l.take k) = H at *
      by_cases hname : ys.toList = s.toList
      · have g1 : (ys.toList == s.toList) = true := by simp [hname]
        have H8 := Lib.hid (HR8.out (HA2.out (by unfold twice sameName; dsimp only; grind)))
        clear hname
        go_wp2_with fail
        go_quiet (fail)
        go_wp2
        go_ret
        exact ⟨by rw [H8.out]; rfl, below_drewN hW3 _⟩
      · have g1 : (ys.toList == s.toList) = false := by simp [hname]
        have HG := Lib.hid hname
        clear hname
        by_cases y1 : yk = 1
        · subst y1
          skip
          · have HL := Lib.hid (show ofKind 1 (l.take (k + 1)) = L + 1 by rw [HL1.out]; simp)
            have HH := Lib.hid (show ofKind 4 (l.take (k + 1)) = H by rw [HH1.out]; simp)
            have HS := Lib.hid (HT2.out (by have g := HG.out; unfold twice sameName sameAddr; dsimp only; grind))
            clear HL1 HH1
            go_wp2_with fail
            go_quiet (fail)
            go_wp2
            go_roundg (n - (k + 1))
            case measure => omega
            case rel => exact ⟨k + 1, by omega, rfl, by go_num, by first | (rw [HL.out]; done) | (rw [HL.out]; rfl) | (rw [HL.out]; go_num), by first | (rw [HH.out]; done) | (rw [HH.out]; rfl) | (rw [HH.out]; go_num), HS, P3, below_drewN hW3 _⟩
        · by_cases y4 : yk = 4
          · subst y4
            have HL := Lib.hid (show ofKind 1 (l.take (k + 1)) = L by rw [HL1.out]; simp)
            have HH := Lib.hid (show ofKind 4 (l.take (k + 1)) = H + 1 by rw [HH1.out]; simp)
            have HS := Lib.hid (HT2.out (by have g := HG.out; unfold twice sameName sameAddr; dsimp only; grind))
            clear HL1 HH1
            go_wp2_with fail
            go_quiet (fail)
            go_wp2
            go_roundg (n - (k + 1))
            case measure => omega
            case rel => exact ⟨k + 1, by omega, rfl, by go_num, by first | (rw [HL.out]; done) | (rw [HL.out]; rfl) | (rw [HL.out]; go_num), by first | (rw [HH.out]; done) | (rw [HH.out]; rfl) | (rw [HH.out]; go_num), HS, P3, below_drewN hW3 _⟩
          · have g2 : (yk == 4) = false := by simp [y4]
            have g3 : (yk == 1) = false := by simp [y1]
            have HY := Lib.hid (And.intro y1 y4)
            have HL := Lib.hid (show ofKind 1 (l.take (k + 1)) = L by rw [HL1.out, if_neg y1]; rfl)
            have HH := Lib.hid (show ofKind 4 (l.take (k + 1)) = H by rw [HH1.out, if_neg y4]; rfl)
            have HS := Lib.hid (HT2.out (by have g := HG.out; unfold twice sameName sameAddr; dsimp only; grind))
            clear HL1 HH1 y1 y4
            go_wp2_with fail
            go_quiet (fail)
            go_wp2
            go_roundg (n - (k + 1))
            case measure => omega
            case rel => exact ⟨k + 1, by omega, rfl, by go_num, by first | (rw [HL.out]; done) | (rw [HL.out]; rfl) | (rw [HL.out]; go_num), by first | (rw [HH.out]; done) | (rw [HH.out]; rfl) | (rw [HH.out]; go_num), HS, P3, below_drewN hW3 _⟩
    · obtain rfl : k = n := by omega
      have ha2 := ha.out
      rw [List.take_of_length_le (by rw [hlen.out]; exact Nat.le_refl _)] at ha2 hLk hHk
      have e1 : l.take k = l := List.take_of_length_le (by rw [hlen.out]; exact Nat.le_refl _)
      have HN6 := Lib.hid (HR6.out ha2)
      have HN0 := Lib.hid (HR0.out ha2)
      have hf := HF.out
      rw [hlen.out] at hf
      have HF2 := Lib.hid hf
      rw [e1]
      clear hf HF HR6 HR0 HR8 ha ha2 e1 HT HA
      obtain ⟨p0, p1, p2, p3, p4, p5, p6, _⟩ := P3.cells7
      generalize ofKind 1 l = L at *
      generalize ofKind 4 l = H at *
      go_wp2
      all_goals first
        | (go_ret
           exact ⟨ret_int (HN6.out (by rw [HF2.out]; grind)).symm, hW3⟩)
        | (go_ret
           exact ⟨ret_int (HN0.out (by rw [HF2.out]; grind)).symm, hW3⟩)
        | (exfalso; omega)
theorem why_late3 (x : Nd) (hx : x.Wf) (A : Option Addr) (n c : Nat) (l : List Nd) (w : World) (hl : IsNodes w A n c l) (h : headC x l = 0) (hk1 : x.kind = 3) :
    Calls Try.prog 35 #[.agg #[.string x.name, .int .i64 x.kind, .int .i64 x.above, .int .i64 x.weight, .bool x.six, .int .u64 x.hi, .int .u64 x.lo], .slice A n c] w fun e w' => e = .returned (.int .i64 (whyC x l)) ∧ Below w.heap.size w w' := by
  have HK := headC_zero h
  have HR8 := Lib.hid (fun h2 => show whyC x l = 8 from (whyC_right (by rw [rightC_twice h h2]; decide)).trans (rightC_twice h h2))
  have HR6 := Lib.hid (fun h2 h3 => whyC_full (rightC_zero h h2) h3)
  have HR0 := Lib.hid (fun h2 h3 => whyC_zero (rightC_zero h h2) h3)
  have HT := Lib.hid (fun k hk h1 h2 => any_take_step (x := x) (l := l) (k := k) hk h1 h2)
  have HA := Lib.hid (fun k hk h2 => any_at (x := x) (l := l) (k := k) hk h2)
  have HF := Lib.hid (show full x l = (decide (1024 ≤ l.length) || (x.kind == 1 && decide (4 ≤ ofKind 1 l)) || (x.kind == 4 && decide (512 ≤ ofKind 4 l))) from rfl)
  clear h
  obtain ⟨s, kd, ab, wt, six, hi, lo⟩ := x
  obtain ⟨hs, b1, b2, b3, b4, b5, b6, b7, b8, b9, b10⟩ := hx
  obtain ⟨q1, q2, q3, q4, q5, q6, q7, q8, q9⟩ := HK
  dsimp only at *
  subst hk1
  obtain ⟨r1, r2, r3⟩ := q7 (by decide)
  obtain ⟨rfl, rfl, rfl⟩ := q9 (by decide)
  rw [hl.len] at r2
  clear q6 q7 q9 q2 q3
  have hcap := hl.cap
  have hsm := hl.small
  have hrc := hl.reach
  have hlen := Lib.hid hl.len
  have A0 := fun w => law_name s w hs
  have P := Blk.new w 64 #[.string s, .int .i64 3, .int .i64 ab, .int .i64 wt, .bool false, .int .u64 0, .int .u64 0]
  have hW : Below w.heap.size w (w.alloc (.cells #[.string s, .int .i64 3, .int .i64 ab, .int .i64 wt, .bool false, .int .u64 0, .int .u64 0] 64)) := (Below.refl _ _).alloc (Nat.le_refl _) _
  obtain ⟨ad, rfl, hbk, hat⟩ := hl.at_ (k := ab.toNat) (by omega)
  have U3 := cell_under (cell_alloc hat.kind (.cells #[.string s, .int .i64 3, .int .i64 ab, .int .i64 wt, .bool false, .int .u64 0, .int .u64 0] 64))
  rw [r3] at U3
  clear hat r3
  go_enter Try.func35, Try.ntmps35
  go_wp2_with ((go_at_call 58; refine (A0 _).mono ?_; rintro e w1 ⟨rfl, rfl⟩))
  generalize w.alloc (.cells #[.string s, .int .i64 3, .int .i64 ab, .int .i64 wt, .bool false, .int .u64 0, .int .u64 0] 64) = u at *
  obtain ⟨p0, p1, p2, p3, p4, p5, p6, _⟩ := P.cells7
  have U1 := cell_under p1
  have U2 := cell_under p2
  refine wp_region_quiet_under (by kernel_rfl) (by kernel_rfl) ?_
  repeat (go_big_quiet_step ((fail)))
  refine wpQuiet_nil ?_
  intro wu hw'
  obtain ⟨pq, hw''⟩ := hw'
  have hU := below_eq hw''
  clear hw'' pq
  have P1 := P.keep hU
  have hW1 := below_keep hW (hU.mono (Nat.le_refl _))
  clear P hW hU U1 U2 p0 p1 p2 p3 p4 p5 p6
  obtain ⟨p0, p1, p2, p3, p4, p5, p6, _⟩ := P1.cells7
  go_wp2_with fail
  refine (addr_Right _ _ _ _).mono ?_; rintro e w1 ⟨rfl, hx⟩
  have P2 := P1.keep hx
  have hW2 := below_step hW1 hx
  clear P1 hW1 hx p0 p1 p2 p3 p4 p5 p6
  obtain ⟨p0, p1, p2, p3, p4, p5, p6, _⟩ := P2.cells7
  go_wp2_with fail
  go_loopg [5, 6, 7] n (fun gk s5 s6 s7 wr => ∃ k : Nat, k ≤ n ∧ gk = n - k ∧ s7 = .int .i64 k ∧ s5 = .int .i64 (ofKind 1 (l.take k)) ∧ s6 = .int .i64 (ofKind 4 (l.take k)) ∧ Hid ((l.take k).any (twice ⟨s, 3, ab, wt, false, 0, 0⟩) = false) ∧ Blk wr w.heap.size 64 #[.string s, .int .i64 3, .int .i64 ab, .int .i64 wt, .bool false, .int .u64 0, .int .u64 0] ∧ Below w.heap.size w wr)
  case atStart => exact ⟨0, Nat.zero_le _, rfl, rfl, rfl, rfl, Lib.hid rfl, P2, hW2⟩
  case round =>
    clear P2 hW2 p0 p1 p2 p3 p4 p5 p6
    obtain ⟨k, hk, rfl, rfl, rfl, rfl, ha, P3, hW3⟩ := hrel
    have hLk := ofKind_le 1 l k
    have hHk := ofKind_le 4 l k
    by_cases hlt : k < n
    · obtain ⟨ad', e', hbk', c0, c1, c2, c3, c4, c5, c6⟩ := (hl.keep hW3).at_ hlt
      obtain rfl : ad' = ad := by injection e' with e'; exact e'.symm
      have hki : (k : Int) < (n : Int) := by omega
      have HT2 := Lib.hid (HT.out k (by rw [hlen.out]; exact hlt) ha.out)
      have HA2 := Lib.hid (HA.out k (by rw [hlen.out]; exact hlt))
      have HL1 := Lib.hid (ofKind_step 1 l (k := k) (by rw [hlen.out]; exact hlt))
      have HH1 := Lib.hid (ofKind_step 4 l (k := k) (by rw [hlen.out]; exact hlt))
      clear HT HA HF HR6 HR0 ha
      generalize l.getD k nd0 = y at *
      obtain ⟨ys, yk, ya, yw, y6, yh, yl⟩ := y
      dsimp only at *
      obtain ⟨p0, p1, p2, p3, p4, p5, p6, _⟩ := P3.cells7
      generalize ofKind 1 (l.take k) = L at *
      generalize ofKind 4 (l.take k) = H at *
      by_cases hname : ys.toList = s.toList
      · have g1 : (ys.toList == s.toList) = true := by simp [hname]
        have H8 := Lib.hid (HR8.out (HA2.out (by unfold twice sameName; dsimp only; grind)))
        clear hname
        go_wp2_with fail
        go_quiet (fail)
        go_wp2
        go_ret
        exact ⟨by rw [H8.out]; rfl, below_drewN hW3 _⟩
      · have g1 : (ys.toList == s.toList) = false := by simp [hname]
        have HG := Lib.hid hname
        clear hname
        by_cases y1 : yk = 1
        · subst y1
          skip
          · have HL := Lib.hid (show ofKind 1 (l.take (k + 1)) = L + 1 by rw [HL1.out]; simp)
            have HH := Lib.hid (show ofKind 4 (l.take (k + 1)) = H by rw [HH1.out]; simp)
            have HS := Lib.hid (HT2.out (by have g := HG.out; unfold twice sameName sameAddr; dsimp only; grind))
            clear HL1 HH1
            go_wp2_with fail
            go_quiet (fail)
            go_wp2
            go_roundg (n - (k + 1))
            case measure => omega
            case rel => exact ⟨k + 1, by omega, rfl, by go_num, by first | (rw [HL.out]; done) | (rw [HL.out]; rfl) | (rw [HL.out]; go_num), by first | (rw [HH.out]; done) | (rw [HH.out]; rfl) | (rw [HH.out]; go_num), HS, P3, below_drewN hW3 _⟩
        · by_cases y4 : yk = 4
          · subst y4
            have HL := Lib.hid (show ofKind 1 (l.take (k + 1)) = L by rw [HL1.out]; simp)
            have HH := Lib.hid (show ofKind 4 (l.take (k + 1)) = H + 1 by rw [HH1.out]; simp)
            have HS := Lib.hid (HT2.out (by have g := HG.out; unfold twice sameName sameAddr; dsimp only; grind))
            clear HL1 HH1
            go_wp2_with fail
            go_quiet (fail)
            go_wp2
            go_roundg (n - (k + 1))
            case measure => omega
            case rel => exact ⟨k + 1, by omega, rfl, by go_num, by first | (rw [HL.out]; done) | (rw [HL.out]; rfl) | (rw [HL.out]; go_num), by first | (rw [HH.out]; done) | (rw [HH.out]; rfl) | (rw [HH.out]; go_num), HS, P3, below_drewN hW3 _⟩
          · have g2 : (yk == 4) = false := by simp [y4]
            have g3 : (yk == 1) = false := by simp [y1]
            have HY := Lib.hid (And.intro y1 y4)
            have HL := Lib.hid (show ofKind 1 (l.take (k + 1)) = L by rw [HL1.out, if_neg y1]; rfl)
            have HH := Lib.hid (show ofKind 4 (l.take (k + 1)) = H by rw [HH1.out, if_neg y4]; rfl)
            have HS := Lib.hid (HT2.out (by have g := HG.out; unfold twice sameName sameAddr; dsimp only; grind))
            clear HL1 HH1 y1 y4
            go_wp2_with fail
            go_quiet (fail)
            go_wp2
            go_roundg (n - (k + 1))
            case measure => omega
            case rel => exact ⟨k + 1, by omega, rfl, by go_num, by first | (rw [HL.out]; done) | (rw [HL.out]; rfl) | (rw [HL.out]; go_num), by first | (rw [HH.out]; done) | (rw [HH.out]; rfl) | (rw [HH.out]; go_num), HS, P3, below_drewN hW3 _⟩
    · obtain rfl : k = n := by omega
      have ha2 := ha.out
      rw [List.take_of_length_le (by rw [hlen.out]; exact Nat.le_refl _)] at ha2 hLk hHk
      have e1 : l.take k = l := List.take_of_length_le (by rw [hlen.out]; exact Nat.le_refl _)
      have HN6 := Lib.hid (HR6.out ha2)
      have HN0 := Lib.hid (HR0.out ha2)
      have hf := HF.out
      rw [hlen.out] at hf
      have HF2 := Lib.hid hf
      rw [e1]
      clear hf HF HR6 HR0 HR8 ha ha2 e1 HT HA
      obtain ⟨p0, p1, p2, p3, p4, p5, p6, _⟩ := P3.cells7
      generalize ofKind 1 l = L at *
      generalize ofKind 4 l = H at *
      go_wp2
      all_goals first
        | (go_ret
           exact ⟨ret_int (HN6.out (by rw [HF2.out]; grind)).symm, hW3⟩)
        | (go_ret
           exact ⟨ret_int (HN0.out (by rw [HF2.out]; grind)).symm, hW3⟩)
        | (exfalso; omega)
theorem why_late4 (x : Nd) (hx : x.Wf) (A : Option Addr) (n c : Nat) (l : List Nd) (w : World) (hl : IsNodes w A n c l) (h : headC x l = 0) (hk1 : x.kind = 4) :
    Calls Try.prog 35 #[.agg #[.string x.name, .int .i64 x.kind, .int .i64 x.above, .int .i64 x.weight, .bool x.six, .int .u64 x.hi, .int .u64 x.lo], .slice A n c] w fun e w' => e = .returned (.int .i64 (whyC x l)) ∧ Below w.heap.size w w' := by
  have HK := headC_zero h
  have HR8 := Lib.hid (fun h2 => show whyC x l = 8 from (whyC_right (by rw [rightC_twice h h2]; decide)).trans (rightC_twice h h2))
  have HR6 := Lib.hid (fun h2 h3 => whyC_full (rightC_zero h h2) h3)
  have HR0 := Lib.hid (fun h2 h3 => whyC_zero (rightC_zero h h2) h3)
  have HT := Lib.hid (fun k hk h1 h2 => any_take_step (x := x) (l := l) (k := k) hk h1 h2)
  have HA := Lib.hid (fun k hk h2 => any_at (x := x) (l := l) (k := k) hk h2)
  have HF := Lib.hid (show full x l = (decide (1024 ≤ l.length) || (x.kind == 1 && decide (4 ≤ ofKind 1 l)) || (x.kind == 4 && decide (512 ≤ ofKind 4 l))) from rfl)
  clear h
  obtain ⟨s, kd, ab, wt, six, hi, lo⟩ := x
  obtain ⟨hs, b1, b2, b3, b4, b5, b6, b7, b8, b9, b10⟩ := hx
  obtain ⟨q1, q2, q3, q4, q5, q6, q7, q8, q9⟩ := HK
  dsimp only at *
  subst hk1
  obtain ⟨r1, r2, r3⟩ := q7 (by decide)
  rw [hl.len] at r2
  clear q6 q7 q9 q2 q3
  have hcap := hl.cap
  have hsm := hl.small
  have hrc := hl.reach
  have hlen := Lib.hid hl.len
  have A0 := fun w => law_name s w hs
  have P := Blk.new w 64 #[.string s, .int .i64 4, .int .i64 ab, .int .i64 wt, .bool six, .int .u64 hi, .int .u64 lo]
  have hW : Below w.heap.size w (w.alloc (.cells #[.string s, .int .i64 4, .int .i64 ab, .int .i64 wt, .bool six, .int .u64 hi, .int .u64 lo] 64)) := (Below.refl _ _).alloc (Nat.le_refl _) _
  obtain ⟨ad, rfl, hbk, hat⟩ := hl.at_ (k := ab.toNat) (by omega)
  have U3 := cell_under (cell_alloc hat.kind (.cells #[.string s, .int .i64 4, .int .i64 ab, .int .i64 wt, .bool six, .int .u64 hi, .int .u64 lo] 64))
  rw [r3] at U3
  clear hat r3
  go_enter Try.func35, Try.ntmps35
  go_wp2_with ((go_at_call 58; refine (A0 _).mono ?_; rintro e w1 ⟨rfl, rfl⟩))
  generalize w.alloc (.cells #[.string s, .int .i64 4, .int .i64 ab, .int .i64 wt, .bool six, .int .u64 hi, .int .u64 lo] 64) = u at *
  obtain ⟨p0, p1, p2, p3, p4, p5, p6, _⟩ := P.cells7
  have U1 := cell_under p1
  have U2 := cell_under p2
  refine wp_region_quiet_under (by kernel_rfl) (by kernel_rfl) ?_
  repeat (go_big_quiet_step ((fail)))
  refine wpQuiet_nil ?_
  intro wu hw'
  obtain ⟨pq, hw''⟩ := hw'
  have hU := below_eq hw''
  clear hw'' pq
  have P1 := P.keep hU
  have hW1 := below_keep hW (hU.mono (Nat.le_refl _))
  clear P hW hU U1 U2 p0 p1 p2 p3 p4 p5 p6
  obtain ⟨p0, p1, p2, p3, p4, p5, p6, _⟩ := P1.cells7
  go_wp2_with fail
  refine (addr_Right _ _ _ _).mono ?_; rintro e w1 ⟨rfl, hx⟩
  have P2 := P1.keep hx
  have hW2 := below_step hW1 hx
  clear P1 hW1 hx p0 p1 p2 p3 p4 p5 p6
  obtain ⟨p0, p1, p2, p3, p4, p5, p6, _⟩ := P2.cells7
  go_wp2_with fail
  go_loopg [5, 6, 7] n (fun gk s5 s6 s7 wr => ∃ k : Nat, k ≤ n ∧ gk = n - k ∧ s7 = .int .i64 k ∧ s5 = .int .i64 (ofKind 1 (l.take k)) ∧ s6 = .int .i64 (ofKind 4 (l.take k)) ∧ Hid ((l.take k).any (twice ⟨s, 4, ab, wt, six, hi, lo⟩) = false) ∧ Blk wr w.heap.size 64 #[.string s, .int .i64 4, .int .i64 ab, .int .i64 wt, .bool six, .int .u64 hi, .int .u64 lo] ∧ Below w.heap.size w wr)
  case atStart => exact ⟨0, Nat.zero_le _, rfl, rfl, rfl, rfl, Lib.hid rfl, P2, hW2⟩
  case round =>
    clear P2 hW2 p0 p1 p2 p3 p4 p5 p6
    obtain ⟨k, hk, rfl, rfl, rfl, rfl, ha, P3, hW3⟩ := hrel
    have hLk := ofKind_le 1 l k
    have hHk := ofKind_le 4 l k
    by_cases hlt : k < n
    · obtain ⟨ad', e', hbk', c0, c1, c2, c3, c4, c5, c6⟩ := (hl.keep hW3).at_ hlt
      obtain rfl : ad' = ad := by injection e' with e'; exact e'.symm
      have hki : (k : Int) < (n : Int) := by omega
      have HT2 := Lib.hid (HT.out k (by rw [hlen.out]; exact hlt) ha.out)
      have HA2 := Lib.hid (HA.out k (by rw [hlen.out]; exact hlt))
      have HL1 := Lib.hid (ofKind_step 1 l (k := k) (by rw [hlen.out]; exact hlt))
      have HH1 := Lib.hid (ofKind_step 4 l (k := k) (by rw [hlen.out]; exact hlt))
      clear HT HA HF HR6 HR0 ha
      generalize l.getD k nd0 = y at *
      obtain ⟨ys, yk, ya, yw, y6, yh, yl⟩ := y
      dsimp only at *
      obtain ⟨p0, p1, p2, p3, p4, p5, p6, _⟩ := P3.cells7
      generalize ofKind 1 (l.take k) = L at *
      generalize ofKind 4 (l.take k) = H at *
      by_cases hname : ys.toList = s.toList
      · have g1 : (ys.toList == s.toList) = true := by simp [hname]
        have H8 := Lib.hid (HR8.out (HA2.out (by unfold twice sameName; dsimp only; grind)))
        clear hname
        go_wp2_with fail
        go_quiet (fail)
        go_wp2
        go_ret
        exact ⟨by rw [H8.out]; rfl, below_drewN hW3 _⟩
      · have g1 : (ys.toList == s.toList) = false := by simp [hname]
        have HG := Lib.hid hname
        clear hname
        by_cases y1 : yk = 1
        · subst y1
          skip
          · have HL := Lib.hid (show ofKind 1 (l.take (k + 1)) = L + 1 by rw [HL1.out]; simp)
            have HH := Lib.hid (show ofKind 4 (l.take (k + 1)) = H by rw [HH1.out]; simp)
            have HS := Lib.hid (HT2.out (by have g := HG.out; unfold twice sameName sameAddr; dsimp only; grind))
            clear HL1 HH1
            go_wp2_with fail
            go_quiet (fail)
            go_wp2
            go_roundg (n - (k + 1))
            case measure => omega
            case rel => exact ⟨k + 1, by omega, rfl, by go_num, by first | (rw [HL.out]; done) | (rw [HL.out]; rfl) | (rw [HL.out]; go_num), by first | (rw [HH.out]; done) | (rw [HH.out]; rfl) | (rw [HH.out]; go_num), HS, P3, below_drewN hW3 _⟩
        · by_cases y4 : yk = 4
          · subst y4
            have HL := Lib.hid (show ofKind 1 (l.take (k + 1)) = L by rw [HL1.out]; simp)
            have HH := Lib.hid (show ofKind 4 (l.take (k + 1)) = H + 1 by rw [HH1.out]; simp)
            clear HL1 HH1
            obtain ⟨E, hE⟩ : ∃ E, (y6 == six && yh == hi && yl == lo) = E := ⟨_, rfl⟩
            have HE := Lib.hid hE
            clear hE
            go_wp2_with fail
            refine wp_region_quiet_lit (by kernel_rfl) (by kernel_rfl) ?_
            iterate 28 (go_big_quiet_step (fail))
            go_big_quiet_want
            refine quiet_eq_addr HE.out rfl rfl rfl ?_
            simp only [Act.put, List.setIfInBounds_toArray, List.set_cons_zero, List.set_cons_succ]
            go_big_quiet_on
            repeat (go_big_quiet_step (fail))
            refine wpQuiet_nil ?_
            intro _ hw'
            obtain ⟨nq, hw''⟩ := hw'
            subst hw''
            cases E with
            | true =>
              have H8 := Lib.hid (HR8.out (HA2.out (by have g := HE.out; unfold twice sameName sameAddr; dsimp only; rw [g]; simp)))
              go_wp2
              go_ret
              exact ⟨by rw [H8.out]; rfl, below_drewN hW3 _⟩
            | false =>
              have HS := Lib.hid (HT2.out (by have g := HE.out; have g' := HG.out; unfold twice sameName sameAddr; dsimp only; rw [g]; simp [g']))
              go_wp2
              go_roundg (n - (k + 1))
              case measure => omega
              case rel => exact ⟨k + 1, by omega, rfl, by go_num, by first | (rw [HL.out]; done) | (rw [HL.out]; rfl) | (rw [HL.out]; go_num), by first | (rw [HH.out]; done) | (rw [HH.out]; rfl) | (rw [HH.out]; go_num), HS, P3, below_drewN hW3 _⟩
          · have g2 : (yk == 4) = false := by simp [y4]
            have g3 : (yk == 1) = false := by simp [y1]
            have HY := Lib.hid (And.intro y1 y4)
            have HL := Lib.hid (show ofKind 1 (l.take (k + 1)) = L by rw [HL1.out, if_neg y1]; rfl)
            have HH := Lib.hid (show ofKind 4 (l.take (k + 1)) = H by rw [HH1.out, if_neg y4]; rfl)
            have HS := Lib.hid (HT2.out (by have g := HG.out; unfold twice sameName sameAddr; dsimp only; grind))
            clear HL1 HH1 y1 y4
            go_wp2_with fail
            go_quiet (fail)
            go_wp2
            go_roundg (n - (k + 1))
            case measure => omega
            case rel => exact ⟨k + 1, by omega, rfl, by go_num, by first | (rw [HL.out]; done) | (rw [HL.out]; rfl) | (rw [HL.out]; go_num), by first | (rw [HH.out]; done) | (rw [HH.out]; rfl) | (rw [HH.out]; go_num), HS, P3, below_drewN hW3 _⟩
    · obtain rfl : k = n := by omega
      have ha2 := ha.out
      rw [List.take_of_length_le (by rw [hlen.out]; exact Nat.le_refl _)] at ha2 hLk hHk
      have e1 : l.take k = l := List.take_of_length_le (by rw [hlen.out]; exact Nat.le_refl _)
      have HN6 := Lib.hid (HR6.out ha2)
      have HN0 := Lib.hid (HR0.out ha2)
      have hf := HF.out
      rw [hlen.out] at hf
      have HF2 := Lib.hid hf
      rw [e1]
      clear hf HF HR6 HR0 HR8 ha ha2 e1 HT HA
      obtain ⟨p0, p1, p2, p3, p4, p5, p6, _⟩ := P3.cells7
      generalize ofKind 1 l = L at *
      generalize ofKind 4 l = H at *
      go_wp2
      all_goals first
        | (go_ret
           exact ⟨ret_int (HN6.out (by rw [HF2.out]; grind)).symm, hW3⟩)
        | (go_ret
           exact ⟨ret_int (HN0.out (by rw [HF2.out]; grind)).symm, hW3⟩)
        | (exfalso; omega)
theorem law_why (x : Nd) (hx : x.Wf) (A : Option Addr) (n c : Nat) (l : List Nd) (w : World) (hl : IsNodes w A n c l) :
    Calls Try.prog 35 #[.agg #[.string x.name, .int .i64 x.kind, .int .i64 x.above, .int .i64 x.weight, .bool x.six, .int .u64 x.hi, .int .u64 x.lo], .slice A n c] w fun e w' => e = .returned (.int .i64 (whyC x l)) ∧ Below w.heap.size w w' := by
  by_cases h : headC x l = 0
  · have hk := headC_zero h
    have h0 := hk.kind0
    have h1 := hk.kind1
    rcases (by omega : x.kind = 1 ∨ x.kind = 2 ∨ x.kind = 3 ∨ x.kind = 4) with e | e | e | e
    · exact why_late1 x hx A n c l w hl h e
    · exact why_late2 x hx A n c l w hl h e
    · exact why_late3 x hx A n c l w hl h e
    · exact why_late4 x hx A n c l w hl h e
  · have e : whyC x l = headC x l := by rw [whyC_right (by rw [rightC_head h]; exact h), rightC_head h]
    rw [e]
    exact why_early x hx A n c l w hl h
end Go.Proofs.Ytblbgafadadbmaa
end
