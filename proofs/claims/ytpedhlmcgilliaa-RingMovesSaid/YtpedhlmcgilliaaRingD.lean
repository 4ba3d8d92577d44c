/- Which rings may be. -/
import Derived.Test.YtpedhlmcgilliaaRingC
set_option linter.unusedVariables false
namespace Go.Proofs.Ytpedhlmcgilliaa
open Go.RowKit
set_option maxHeartbeats 4000000
set_option maxRecDepth 100000
def itm (l : List (Int × Int)) (i : Nat) : Int × Int := l.getD i (0, 0)
/-- Is a number none of those of the first k? -/
def newTo (l : List (Int × Int)) (x : Int) (k : Nat) : Bool := (List.range k).all fun j => (itm l j).1 != x
theorem newTo_step (l : List (Int × Int)) (x : Int) (k : Nat) : newTo l x (k + 1) = (newTo l x k && (itm l k).1 != x) := by
  unfold newTo; rw [List.range_succ, List.all_append]; simp
/-- May the first k items be? -/
def okTo (l : List (Int × Int)) (k : Nat) : Bool := (List.range k).all fun i => decide (0 ≤ (itm l i).2) && decide ((itm l i).2 ≤ 65535) && newTo l (itm l i).1 i
theorem okTo_step (l : List (Int × Int)) (k : Nat) : okTo l (k + 1) = (okTo l k && (decide (0 ≤ (itm l k).2) && decide ((itm l k).2 ≤ 65535) && newTo l (itm l k).1 k)) := by
  unfold okTo; rw [List.range_succ, List.all_append]; simp
theorem okTo_le (l : List (Int × Int)) (k : Nat) : ∀ d, okTo l k = false → okTo l (k + d) = false
  | 0, h => h
  | d + 1, h => by rw [show k + (d + 1) = (k + d) + 1 by omega, okTo_step, okTo_le l k d h]; rfl
theorem okTo_bad {l : List (Int × Int)} {k n : Nat} (hk : k < n) (h : (decide (0 ≤ (itm l k).2) && decide ((itm l k).2 ≤ 65535) && newTo l (itm l k).1 k) = false) : okTo l n = false := by
  have h1 : okTo l (k + 1) = false := by rw [okTo_step, h, Bool.and_false]
  have := okTo_le l (k + 1) (n - (k + 1)) h1
  rwa [show k + 1 + (n - (k + 1)) = n by omega] at this
theorem newTo_bad {l : List (Int × Int)} {x : Int} {j k : Nat} (hj : j < k) (h : (itm l j).1 = x) : newTo l x k = false := by
  unfold newTo
  rw [List.all_eq_false]
  exact ⟨j, List.mem_range.2 hj, by simp [h]⟩
/-- May a ring be? -/
def rightB (size : Int) (l : List (Int × Int)) : Bool := decide (2 ≤ size ∧ size ≤ 65537) && decide (primeP size.toNat) && decide ((l.length : Int) ≤ size) && okTo l l.length
def headB (size : Int) (l : List (Int × Int)) : Bool := decide (2 ≤ size ∧ size ≤ 65537) && decide (primeP size.toNat) && decide ((l.length : Int) ≤ size)
theorem ring_Right (w : World) (A : Option Addr) (n c : Nat) (l : List (Int × Int)) (hl : IsPairs w .u64 .i64 A n c l) (hn : n ≤ 512) (size : Int) (hs : size ≤ 9223372036854775807) :
    Calls Try.prog 24 #[.int .i64 size, .slice A n c] w fun e w' => e = .returned (.bool (rightB size l)) ∧ Below w.heap.size w w' := by
  have hcap := hl.cap
  have hsm := hl.small
  have hlen := Lib.hid hl.len
  have hR : rightB size l = (headB size l && okTo l l.length) := rfl
  have hH : headB size l = (decide (2 ≤ size ∧ size ≤ 65537) && decide (primeP size.toNat) && decide ((l.length : Int) ≤ size)) := rfl
  rw [hl.len] at hR hH
  have hPr := fun w => ring_Prime size hs w
  obtain ⟨R, hR0⟩ : ∃ R, R = rightB size l := ⟨_, rfl⟩
  rw [← hR0] at hR ⊢
  have HR := Lib.hid hR
  clear hR hR0
  have h512 : decide ((512 : Int) < (n : Int)) = false := decide_eq_false (by omega)
  by_cases h1 : size < 2
  · have HE := Lib.hid (show R = false by rw [HR.out, hH, decide_eq_false (by omega)]; rfl)
    clear hH
    go_enter Try.func24, Try.ntmps24
    go_wp2
    go_ret
    exact ⟨by rw [HE.out]; rfl, Below.refl _ _⟩
  · by_cases h2 : 65537 < size
    · have HE := Lib.hid (show R = false by rw [HR.out, hH, decide_eq_false (by omega)]; rfl)
      clear hH
      go_enter Try.func24, Try.ntmps24
      go_wp2
      go_ret
      exact ⟨by rw [HE.out]; rfl, Below.refl _ _⟩
    · rw [decide_eq_true (show 2 ≤ size ∧ size ≤ 65537 by omega)] at hH
      generalize decide (primeP size.toNat) = pr at *
      cases pr with
      | false =>
        have HE := Lib.hid (show R = false by rw [HR.out, hH]; rfl)
        clear hH
        go_enter Try.func24, Try.ntmps24
        go_wp2_with fail
        refine (hPr _).mono ?_; rintro e w' ⟨rfl, rfl⟩
        go_wp2
        go_ret
        exact ⟨by rw [HE.out]; rfl, Below.refl _ _⟩
      | true =>
        by_cases h3 : size < (n : Int)
        · have HE := Lib.hid (show R = false by rw [HR.out, hH, decide_eq_false (by omega)]; rfl)
          clear hH
          go_enter Try.func24, Try.ntmps24
          go_wp2_with fail
          refine (hPr _).mono ?_; rintro e w' ⟨rfl, rfl⟩
          go_wp2
          go_ret
          exact ⟨by rw [HE.out]; rfl, Below.refl _ _⟩
        · have HE := Lib.hid (show R = okTo l n by rw [HR.out, hH, decide_eq_true (by omega)]; rfl)
          clear hH HR
          go_enter Try.func24, Try.ntmps24
          go_wp2_with fail
          refine (hPr _).mono ?_; rintro e w' ⟨rfl, rfl⟩
          go_wp2_with fail
          go_loopg [33] n (fun gk s33 wr => ∃ i : Nat, i ≤ n ∧ gk = n - i ∧ s33 = .int .i64 i ∧ Hid (okTo l i = true) ∧ Below w.heap.size w wr)
          case atStart => exact ⟨0, Nat.zero_le _, rfl, rfl, Lib.hid rfl, Below.refl _ _⟩
          case round =>
            obtain ⟨i, hi, rfl, rfl, HO, hW⟩ := hrel
            by_cases hin : i < n
            · have hii : (i : Int) < (n : Int) := by omega
              have hi0 : (0 : Int) ≤ (i : Int) := by omega
              have hic : (i : Int) ≤ (c : Int) := by omega
              obtain ⟨ad, rfl, hbk, y0, y1, _⟩ := (hl.keep hW).at_ hin
              have HB := Lib.hid (fun h => okTo_bad (l := l) hin h)
              have HST := Lib.hid (okTo_step l i)
              have HN := Lib.hid (fun j (hj : j < i) h => newTo_bad (l := l) (x := (itm l i).1) hj h)
              have HNS := Lib.hid (fun j => newTo_step l (itm l i).1 j)
              obtain ⟨x, hx⟩ : ∃ x, x = itm l i := ⟨_, rfl⟩
              rw [show l.getD i (0, 0) = x from hx.symm] at y0 y1
              rw [← hx] at HB HST HN HNS
              clear hx
              obtain ⟨a, b⟩ := x
              dsimp only at *
              have hP := Blk.new wr 70 #[.int .u64 a, .int .i64 b]
              have hW1 := hW.alloc hW.size (.cells #[.int .u64 a, .int .i64 b] 70)
              go_upto_region 6 with (fail)
              generalize wr.alloc (.cells #[.int .u64 a, .int .i64 b] 70) = u at *
              obtain ⟨c0, c1, _⟩ := hP.cells2
              clear y0 y1 hW
              by_cases hb0 : b < 0
              · have HE2 := Lib.hid (HB.out (by rw [decide_eq_false (by omega)]; rfl))
                go_wp2
                go_ret
                exact ⟨by rw [HE.out, HE2.out]; rfl, hW1⟩
              · by_cases hb1 : 65535 < b
                · have HE2 := Lib.hid (HB.out (by rw [decide_eq_false (show ¬ b ≤ 65535 by omega), Bool.and_false]; rfl))
                  go_wp2
                  go_ret
                  exact ⟨by rw [HE.out, HE2.out]; rfl, hW1⟩
                · rw [decide_eq_true (show 0 ≤ b by omega), decide_eq_true (show b ≤ 65535 by omega)] at HB HST
                  clear hP
                  go_wp2_with fail
                  go_loopg [50] i (fun gk s50 wr => ∃ j : Nat, j ≤ i ∧ gk = i - j ∧ s50 = .int .i64 j ∧ Hid (newTo l a j = true) ∧ Below u.heap.size u wr)
                  case atStart => exact ⟨0, Nat.zero_le _, rfl, rfl, Lib.hid rfl, Below.refl _ _⟩
                  case round =>
                    obtain ⟨j, hj, rfl, rfl, HJ, hV⟩ := hrel
                    have hWV := below_step hW1 hV
                    by_cases hji : j < i
                    · have hjj : (j : Int) < (i : Int) := by omega
                      obtain ⟨ad2, e2, _, y0, y1, _⟩ := (hl.keep hWV).at_ (k := j) (by omega)
                      obtain rfl : ad = ad2 := by injection e2
                      have HNj := Lib.hid (HN.out j hji)
                      have HNSj := Lib.hid (HNS.out j)
                      rw [HJ.out, Bool.true_and] at HNSj
                      obtain ⟨y, hy⟩ : ∃ y, y = itm l j := ⟨_, rfl⟩
                      rw [show l.getD j (0, 0) = y from hy.symm] at y0 y1
                      rw [← hy] at HNj HNSj
                      clear hy
                      obtain ⟨ya, yb⟩ := y
                      dsimp only at *
                      have hQ := Blk.new wr 70 #[.int .u64 ya, .int .i64 yb]
                      have hV1 := hV.alloc hV.size (.cells #[.int .u64 ya, .int .i64 yb] 70)
                      have d0 := cell_keep c0 hV1
                      go_upto_region 11 with (fail)
                      generalize wr.alloc (.cells #[.int .u64 ya, .int .i64 yb] 70) = v at *
                      obtain ⟨q0, q1, _⟩ := hQ.cells2
                      have hWV1 := below_step hW1 hV1
                      clear y0 y1 hV hWV hQ
                      by_cases hya : ya = a
                      · have g1 : (a == ya) = true := by rw [beq_iff_eq]; exact hya.symm
                        have HE2 := Lib.hid (HB.out (by rw [HNj.out hya]; rfl))
                        clear hya
                        go_wp2
                        go_ret
                        exact ⟨by rw [HE.out, HE2.out]; rfl, hWV1⟩
                      · have g1 : (a == ya) = false := by rw [beq_eq_false_iff_ne]; exact fun e => hya e.symm
                        have HJ1 := Lib.hid (show newTo l a (j + 1) = true by rw [HNSj.out]; simp [hya])
                        clear hya
                        go_wp2
                        go_roundg (i - (j + 1))
                        case measure => omega
                        case rel => exact ⟨j + 1, by omega, rfl, by go_num, HJ1, hV1⟩
                    · obtain rfl : j = i := by omega
                      have HO1 := Lib.hid (show okTo l (j + 1) = true by rw [HST.out, HO.out, HJ.out]; rfl)
                      go_wp2
                      go_roundg (n - (j + 1))
                      case measure => omega
                      case rel => exact ⟨j + 1, by omega, rfl, by go_num, HO1, hWV⟩
            · obtain rfl : i = n := by omega
              go_wp2
              go_ret
              exact ⟨by rw [HE.out, HO.out]; rfl, hW⟩
theorem law_right (w : World) (A : Option Addr) (n c : Nat) (l : List (Int × Int)) (hl : IsPairs w .u64 .i64 A n c l) (hn : n ≤ 512) (size : Int) (hs : size ≤ 9223372036854775807) :
    Calls Try.prog 25 #[.int .i64 size, .slice A n c] w fun e w' => e = .returned (.bool (rightB size l)) ∧ Below w.heap.size w w' := by
  have hcap := hl.cap
  have hsm := hl.small
  have hlen := Lib.hid hl.len
  have hR : rightB size l = (headB size l && okTo l l.length) := rfl
  have hH : headB size l = (decide (2 ≤ size ∧ size ≤ 65537) && decide (primeP size.toNat) && decide ((l.length : Int) ≤ size)) := rfl
  rw [hl.len] at hR hH
  obtain ⟨R, hR0⟩ : ∃ R, R = rightB size l := ⟨_, rfl⟩
  rw [← hR0] at hR ⊢
  have HR := Lib.hid hR
  clear hR hR0
  by_cases h1 : size < 2
  · have HE := Lib.hid (show R = false by rw [HR.out, hH, decide_eq_false (by omega)]; rfl)
    clear hH
    go_enter Try.func25, Try.ntmps25
    go_wp2
    go_ret
    exact ⟨by rw [HE.out]; rfl, Below.refl _ _⟩
  · by_cases h2 : 65537 < size
    · have HE := Lib.hid (show R = false by rw [HR.out, hH, decide_eq_false (by omega)]; rfl)
      clear hH
      go_enter Try.func25, Try.ntmps25
      go_wp2
      go_ret
      exact ⟨by rw [HE.out]; rfl, Below.refl _ _⟩
    · have hPr := fun w => law_prime size (by omega) w
      rw [decide_eq_true (show 2 ≤ size ∧ size ≤ 65537 by omega)] at hH
      generalize decide (primeP size.toNat) = pr at *
      cases pr with
      | false =>
        have HE := Lib.hid (show R = false by rw [HR.out, hH]; rfl)
        clear hH
        go_enter Try.func25, Try.ntmps25
        go_wp2_with fail
        refine (hPr _).mono ?_; rintro e w' ⟨rfl, rfl⟩
        go_wp2
        go_ret
        exact ⟨by rw [HE.out]; rfl, Below.refl _ _⟩
      | true =>
        by_cases h3 : size < (n : Int)
        · have HE := Lib.hid (show R = false by rw [HR.out, hH, decide_eq_false (by omega)]; rfl)
          clear hH
          go_enter Try.func25, Try.ntmps25
          go_wp2_with fail
          refine (hPr _).mono ?_; rintro e w' ⟨rfl, rfl⟩
          go_wp2
          go_ret
          exact ⟨by rw [HE.out]; rfl, Below.refl _ _⟩
        · have HE := Lib.hid (show R = okTo l n by rw [HR.out, hH, decide_eq_true (by omega)]; rfl)
          clear hH HR
          go_enter Try.func25, Try.ntmps25
          go_wp2_with fail
          refine (hPr _).mono ?_; rintro e w' ⟨rfl, rfl⟩
          go_wp2_with fail
          go_loopg [5, 6] n (fun gk s5 s6 wr => ∃ i : Nat, i ≤ n ∧ gk = n - i ∧ s5 = .int .i64 i ∧ Hid (okTo l i = true) ∧ Below w.heap.size w wr)
          case atStart => exact ⟨0, Nat.zero_le _, rfl, rfl, Lib.hid rfl, Below.refl _ _⟩
          case round =>
            obtain ⟨i, hi, rfl, rfl, HO, hW⟩ := hrel
            by_cases hin : i < n
            · have hii : (i : Int) < (n : Int) := by omega
              obtain ⟨ad, rfl, hbk, y0, y1, _⟩ := (hl.keep hW).at_ hin
              have HB := Lib.hid (fun h => okTo_bad (l := l) hin h)
              have HST := Lib.hid (okTo_step l i)
              have HN := Lib.hid (fun j (hj : j < i) h => newTo_bad (l := l) (x := (itm l i).1) hj h)
              have HNS := Lib.hid (fun j => newTo_step l (itm l i).1 j)
              obtain ⟨x, hx⟩ : ∃ x, x = itm l i := ⟨_, rfl⟩
              rw [show l.getD i (0, 0) = x from hx.symm] at y0 y1
              rw [← hx] at HB HST HN HNS
              clear hx
              obtain ⟨a, b⟩ := x
              dsimp only at *
              by_cases hb0 : b < 0
              · have HE2 := Lib.hid (HB.out (by rw [decide_eq_false (by omega)]; rfl))
                go_wp2
                go_ret
                exact ⟨by rw [HE.out, HE2.out]; rfl, hW⟩
              · by_cases hb1 : 65535 < b
                · have HE2 := Lib.hid (HB.out (by rw [decide_eq_false (show ¬ b ≤ 65535 by omega), Bool.and_false]; rfl))
                  go_wp2
                  go_ret
                  exact ⟨by rw [HE.out, HE2.out]; rfl, hW⟩
                · rw [decide_eq_true (show 0 ≤ b by omega), decide_eq_true (show b ≤ 65535 by omega)] at HB HST
                  obtain ⟨u, rfl⟩ : ∃ u, u = wr := ⟨_, rfl⟩
                  go_wp2_with fail
                  go_loopg [6] i (fun gk s6 wr => ∃ j : Nat, j ≤ i ∧ gk = i - j ∧ s6 = .int .i64 j ∧ Hid (newTo l a j = true) ∧ Below u.heap.size u wr)
                  case atStart => exact ⟨0, Nat.zero_le _, rfl, rfl, Lib.hid rfl, Below.refl _ _⟩
                  case round =>
                    obtain ⟨j, hj, rfl, rfl, HJ, hV⟩ := hrel
                    have hWV := below_step hW hV
                    by_cases hji : j < i
                    · have hjj : (j : Int) < (i : Int) := by omega
                      have hjn : (j : Int) < (n : Int) := by omega
                      obtain ⟨ad2, e2, _, z0, z1, _⟩ := (hl.keep hWV).at_ (k := j) (by omega)
                      obtain rfl : ad = ad2 := by injection e2
                      have HNj := Lib.hid (HN.out j hji)
                      have HNSj := Lib.hid (HNS.out j)
                      rw [HJ.out, Bool.true_and] at HNSj
                      obtain ⟨y, hy⟩ : ∃ y, y = itm l j := ⟨_, rfl⟩
                      rw [show l.getD j (0, 0) = y from hy.symm] at z0 z1
                      rw [← hy] at HNj HNSj
                      clear hy
                      obtain ⟨ya, yb⟩ := y
                      dsimp only at *
                      have d0 := cell_keep y0 hV
                      have U0 := cell_under d0
                      have U1 := cell_under z0
                      clear d0 z0 z1
                      go_upto_region 11 with (fail)
                      by_cases hya : ya = a
                      · have g1 : (ya == a) = true := by rw [beq_iff_eq]; exact hya
                        have HE2 := Lib.hid (HB.out (by rw [HNj.out hya]; rfl))
                        clear hya
                        refine wp_region_quiet_under (by kernel_rfl) (by kernel_rfl) ?_
                        repeat (go_big_quiet_step ((fail)))
                        refine wpQuiet_nil ?_
                        intro wu hw'
                        obtain ⟨pq, hw''⟩ := hw'
                        have hU := below_eq hw''
                        clear hw'' pq
                        have hWu := below_step hWV hU
                        go_wp2
                        go_ret
                        exact ⟨by rw [HE.out, HE2.out]; rfl, hWu⟩
                      · have g1 : (ya == a) = false := by rw [beq_eq_false_iff_ne]; exact hya
                        have HJ1 := Lib.hid (show newTo l a (j + 1) = true by rw [HNSj.out]; simp [hya])
                        clear hya
                        refine wp_region_quiet_under (by kernel_rfl) (by kernel_rfl) ?_
                        repeat (go_big_quiet_step ((fail)))
                        refine wpQuiet_nil ?_
                        intro wu hw'
                        obtain ⟨pq, hw''⟩ := hw'
                        have hU := below_eq hw''
                        clear hw'' pq
                        have hVu := below_step hV hU
                        go_wp2
                        go_roundg (i - (j + 1))
                        case measure => omega
                        case rel => exact ⟨j + 1, by omega, rfl, by go_num, HJ1, hVu⟩
                    · obtain rfl : j = i := by omega
                      have HO1 := Lib.hid (show okTo l (j + 1) = true by rw [HST.out, HO.out, HJ.out]; rfl)
                      go_wp2
                      go_roundg (n - (j + 1))
                      case measure => omega
                      case rel => exact ⟨j + 1, by omega, rfl, by go_num, HO1, hWV⟩
            · obtain rfl : i = n := by omega
              go_wp2
              go_ret
              exact ⟨by rw [HE.out, HO.out]; rfl, hW⟩
end Go.Proofs.Ytpedhlmcgilliaa
