/- The law's alike. -/
import Derived.Test.YtpedhlmcgilliaaHistPlain2
set_option linter.unusedVariables false
namespace Go.Proofs.Ytpedhlmcgilliaa
open Go.RowKit
set_option maxHeartbeats 4000000
set_option maxRecDepth 100000
/-- How many of the first m numbers of a row have k bits. -/
def hcI (s : List Int) (k : Int) : Nat → Int
  | 0 => 0
  | m + 1 => hcI s k m + if (bl (s.getD m 0) : Int) = k then 1 else 0
theorem hcI_yes (s : List Int) (k : Nat) : ∀ m, hcI s k m = hcnt s k m
  | 0 => rfl
  | m + 1 => by
    rw [hcI, hcnt, hcI_yes s k m]
    unfold bl
    congr 1
    by_cases h : Lib.bitLen (s.getD m 0).toNat = k
    · rw [if_pos h, if_pos (by omega)]
    · rw [if_neg h, if_neg (by omega)]
theorem hcI_no (s : List Int) (hs : U64s s) (k : Int) (hk : k < 0 ∨ 65 ≤ k) : ∀ m, hcI s k m = 0
  | 0 => rfl
  | m + 1 => by
    rw [hcI, hcI_no s hs k hk m, if_neg]
    · rfl
    · have := hs.getD m
      have := bl_le (s.getD m 0).toNat (by omega)
      unfold bl
      omega
theorem hcI_bd (s : List Int) (k : Int) : ∀ m, 0 ≤ hcI s k m ∧ hcI s k m ≤ m
  | 0 => by simp [hcI]
  | m + 1 => by
    have := hcI_bd s k m
    rw [hcI]
    split <;> omega
section
variable {b : Nat} {cnt : Nat → Int} {n hi lo least most : Int} {s : List Int}
theorem says_Count (hS : Says cnt hi lo least most s) (k : Int) (w : World) (h : HistIs w b cnt n hi lo least most) :
    Calls Try.prog 41 #[.pointer (some ⟨b, 0, none⟩), .int .i64 k] w fun e w' => e = .returned (.int .u64 (hcI s k s.length)) ∧ w = w' := by
  by_cases hk : k < 0 ∨ 65 ≤ k
  · rw [hcI_no s hS.u64 k hk]
    exact hist_CountNo b k hk w
  · obtain ⟨j, rfl⟩ : ∃ j : Nat, k = j := ⟨k.toNat, by omega⟩
    rw [hcI_yes, ← hS.cnt j (by omega)]
    exact hist_CountYes b cnt n hi lo least most j (by omega) w h
theorem hist_Mean0 (w : World) (h : HistIs w b cnt 0 hi lo least most) :
    Calls Try.prog 40 #[.pointer (some ⟨b, 0, none⟩)] w fun e w' => e = .returned (.int .u64 0) ∧ w = w' := by
  obtain ⟨c65, c66, c67, c68, c69⟩ := h.cells
  go_enter Try.func40, Try.ntmps40
  go_wp2_with fail
  refine (hist_LenAt b 0 _ c65).mono ?_; rintro e w' ⟨rfl, rfl⟩
  go_wp2
  go_ret
  exact ⟨rfl, rfl⟩
theorem hist_Quantile0 (p : Int) (w : World) (h : HistIs w b cnt 0 hi lo least most) :
    Calls Try.prog 42 #[.pointer (some ⟨b, 0, none⟩), .int .i64 p] w fun e w' => e = .returned (.int .i64 (-1)) ∧ w = w' := by
  obtain ⟨c65, c66, c67, c68, c69⟩ := h.cells
  go_enter Try.func42, Try.ntmps42
  go_wp2_with fail
  refine (hist_LenAt b 0 _ c65).mono ?_; rintro e w' ⟨rfl, rfl⟩
  go_wp2
  go_ret
  exact ⟨rfl, rfl⟩
theorem hist_QuantileNo (n0 : 0 < n) (p : Int) (hp : p < 0 ∨ 1000 < p) (w : World) (h : HistIs w b cnt n hi lo least most) :
    Calls Try.prog 42 #[.pointer (some ⟨b, 0, none⟩), .int .i64 p] w fun e w' => e = .returned (.int .i64 (-1)) ∧ w = w' := by
  obtain ⟨c65, c66, c67, c68, c69⟩ := h.cells
  have g1 : (n == 0) = false := by rw [beq_eq_false_iff_ne]; omega
  by_cases h0 : p < 0
  · have g2 : decide (p < 0) = true := decide_eq_true h0
    go_enter Try.func42, Try.ntmps42
    go_wp2_with fail
    refine (hist_LenAt b n _ c65).mono ?_; rintro e w' ⟨rfl, rfl⟩
    go_wp2
    go_ret
    exact ⟨rfl, rfl⟩
  · have g2 : decide (p < 0) = false := decide_eq_false h0
    have g3 : decide (1000 < p) = true := decide_eq_true (by omega)
    go_enter Try.func42, Try.ntmps42
    go_wp2_with fail
    refine (hist_LenAt b n _ c65).mono ?_; rintro e w' ⟨rfl, rfl⟩
    go_wp2
    go_ret
    exact ⟨rfl, rfl⟩
/-- Where the number is that has a part of all ahead of it. -/
def rk (s : List Int) (p : Int) : Nat := ((s.length - 1 : Int) * p / 1000).toNat
theorem rk_lt (s : List Int) (h0 : 0 < s.length) (h1 : s.length ≤ 1000000) (p : Int) (p0 : 0 ≤ p) (p1 : p ≤ 1000) : rk s p < s.length ∧ ((rk s p : Nat) : Int) = (s.length - 1 : Int) * p / 1000 := by
  have := share_rank (s.length - 1) p (by omega) (by omega) p0 p1
  unfold rk
  omega
theorem says_Quantile (hS : Says cnt hi lo least most s) (h0 : 0 < s.length) (h1 : s.length ≤ 1000000) (p : Int) (p0 : 0 ≤ p) (p1 : p ≤ 1000) (w : World) (h : HistIs w b cnt s.length hi lo least most) (hc : ∀ k, 65 ≤ k → cnt k = 0) :
    Calls Try.prog 42 #[.pointer (some ⟨b, 0, none⟩), .int .i64 p] w fun e w' => e = .returned (.int .i64 (bl (s.getD (rk s p) 0))) ∧ Below w.heap.size w w' := by
  have hcs : ∀ k, k ≤ 65 → csum cnt k = csum (fun k => hcnt s k s.length) k := by
    intro k
    induction k with
    | zero => intro _; rfl
    | succ k ih => intro hk; rw [csum, csum, ih (by omega), hS.cnt k (by omega)]
  have hr := rk_lt s h0 h1 p p0 p1
  refine (hist_Quantile b cnt s.length hi lo least most (by omega) (by omega) p p0 p1 (fun k => ?_) (by rw [hcs 65 (Nat.le_refl _)]; exact csum_all s hS.u64) w h).mono ?_
  · rcases Nat.lt_or_ge k 65 with hk | hk
    · rw [hS.cnt k hk]; exact hcnt_bd s k s.length
    · rw [hc k hk]; omega
  · rintro e w' ⟨⟨k, hk, rfl, q1, q2⟩, hx⟩
    refine ⟨?_, hx⟩
    rw [quant_at s hS.u64 hS.rising (rk s p) hr.1 k (by rw [← hcs k (by omega), hr.2]; exact q1) (by rw [← hcs (k + 1) (by omega), hr.2]; exact q2)]
end
theorem bucket_bl (v : Int) (v0 : 0 ≤ v) (v1 : v < 18446744073709551616) (w : World) :
    Calls Try.prog 58 #[.int .u64 v] w fun e w' => e = .returned (.int .i64 (bl v)) ∧ w = w' := by
  have h := law_bucket v.toNat (by omega) w
  rw [Int.toNat_of_nonneg v0] at h
  exact h
theorem law_alike (b : Nat) (cnt : Nat → Int) (hi lo least most : Int) (A : Option Addr) (n c : Nat) (s : List Int) (p : Int) (w : World) (hl : IsList w .u64 A n c s) (hn1 : n ≤ 1000000)
    (hS : Says cnt hi lo least most s) (hc0 : ∀ k, 65 ≤ k → cnt k = 0) (h : HistIs w b cnt n hi lo least most) :
    Calls Try.prog 33 #[.pointer (some ⟨b, 0, none⟩), .slice A n c, .int .i64 p] w fun e w' => e = .returned (.bool true) ∧ Below w.heap.size w w' := by
  have hlen := Lib.hid hl.len
  have hcap := hl.cap
  have hsm := hl.small
  have e1 : IntKind.u64.wrap (n : Int) = n := by rw [IntKind.wrap_u64]; omega
  obtain ⟨c65, c66, c67, c68, c69⟩ := h.cells
  by_cases hn0 : n = 0
  · subst hn0
    have hs0 : s = [] := List.eq_nil_of_length_eq_zero hlen.out
    have q1 := hS.least
    have q2 := hS.most
    have q3 := fun w h => says_Count (b := b) (n := 0) hS 3 w h
    subst hs0
    simp at q1 q2
    subst q1 q2
    go_enter Try.func33, Try.ntmps33
    go_wp2_with fail
    refine (hist_Ends b cnt _ hi lo _ _ _ h).mono ?_; rintro e w1 ⟨rfl, hx⟩
    have h1 := h.keep hx
    obtain ⟨d65, _⟩ := h1.cells
    go_wp2_with fail
    refine (hist_LenAt b _ _ d65).mono ?_; rintro e w' ⟨rfl, rfl⟩
    go_wp2_with fail
    refine (hist_Mean0 _ h1).mono ?_; rintro e w' ⟨rfl, rfl⟩
    go_wp2_with fail
    refine (hist_Quantile0 p _ h1).mono ?_; rintro e w' ⟨rfl, rfl⟩
    go_wp2_with fail
    refine (q3 _ h1).mono ?_; rintro e w' ⟨rfl, rfl⟩
    go_wp2
    go_ret
    exact ⟨rfl, hx⟩
  go_enter Try.func33, Try.ntmps33
  go_wp2_with fail
  refine (hist_Ends b cnt _ hi lo _ _ _ h).mono ?_; rintro e w1 ⟨rfl, hx⟩
  have h1 := h.keep hx
  have hl1 := hl.keep hx
  obtain ⟨d65, _⟩ := h1.cells
  clear c65 c66 c67 c68 c69
  go_wp2_with fail
  refine (hist_LenAt b _ _ d65).mono ?_; rintro e w' ⟨rfl, rfl⟩
  have f1 : ((n : Int) == 0) = false := by rw [beq_eq_false_iff_ne]; omega
  go_wp2_with fail
  have hU := hS.u64
  have hN : IsNum hi lo := by
    have := (sums_val s hU (by rw [hlen.out]; omega)).2
    rwa [← hS.sum] at this
  have hSum : sums s = (hi, lo) := hS.sum.symm
  refine (wide_Sum A n c s _ hl1).mono ?_
  rintro e w2 ⟨rfl, hx2⟩
  rw [hSum]
  have hW2 := below_step hx hx2
  clear h1 hl1 hx hx2 d65 hSum
  go_upto_region 7 with (fail)
  have hB := Blk.new w2 78 #[.int .u64 hi, .int .u64 lo]
  have hW3 := hW2.alloc hW2.size (.cells #[.int .u64 hi, .int .u64 lo] 78)
  clear hW2
  generalize w2.alloc (.cells #[.int .u64 hi, .int .u64 lo] 78) = u at *
  obtain ⟨b0, b1, _⟩ := hB.cells2
  go_wp2_with fail
  refine (wide_Div hi lo n hN (by omega) (by omega) _).mono ?_; rintro e w4 ⟨rfl, hU1⟩
  have hW4 := below_step hW3 hU1
  clear b0 b1 hW3 hU1 hB
  go_wp2_with fail
  go_loopg [14] 67 (fun gk s14 wr => ∃ k : Int, -1 ≤ k ∧ k ≤ 66 ∧ gk = (66 - k).toNat ∧ s14 = .int .i64 k ∧ Below w.heap.size w wr)
  case atStart => exact ⟨-1, by omega, by omega, rfl, rfl, hW4⟩
  case round =>
    clear hW4
    obtain ⟨k, hk0, hk1, rfl, rfl, hW⟩ := hrel
    obtain ⟨wo, rfl⟩ : ∃ wo, wo = wr := ⟨_, rfl⟩
    by_cases hk66 : k < 66
    · go_wp2_with fail
      go_loopg [15, 16] n (fun gk s15 s16 wx => ∃ i : Nat, i ≤ n ∧ gk = n - i ∧ s16 = .int .i64 i ∧ s15 = .int .u64 (hcI s k i) ∧ Below w.heap.size w wx)
      case atStart => exact ⟨0, Nat.zero_le _, rfl, rfl, rfl, hW⟩
      case round =>
        clear hW
        obtain ⟨i, hi0, rfl, rfl, rfl, hW⟩ := hrel
        by_cases hin : i < n
        · obtain ⟨ad, rfl, _, x0, xw⟩ := (hl.keep hW).get hin
          have hii : (i : Int) < (n : Int) := by omega
          have hg := hU.getD i
          have hbl : (bl (s.getD i 0) : Int) ≤ 64 := by have := bl_le (s.getD i 0).toNat (by omega); unfold bl; omega
          have hcb := hcI_bd s k i
          have HST := Lib.hid (show hcI s k (i + 1) = hcI s k i + if (bl (s.getD i 0) : Int) = k then 1 else 0 from rfl)
          have B := fun w => bucket_bl (s.getD i 0) hg.1 hg.2 w
          generalize (bl (s.getD i 0) : Int) = B0 at *
          generalize hcI s k i = H at *
          generalize s.getD i 0 = v at *
          have kq : IntKind.u64.wrap (H + 1) = H + 1 := by rw [IntKind.wrap_u64]; omega
          go_wp2_with fail
          refine (B _).mono ?_; rintro e w9 ⟨rfl, rfl⟩
          by_cases hbk : B0 = k
          · have g1 : (B0 == k) = true := by rw [beq_iff_eq]; exact hbk
            have HS := Lib.hid (show hcI s k (i + 1) = H + 1 by rw [HST.out, if_pos hbk])
            clear HST hbk
            go_wp2
            go_roundg (n - (i + 1))
            case measure => omega
            case rel => exact ⟨i + 1, by omega, rfl, by go_num, by rw [HS.out], hW⟩
          · have g1 : (B0 == k) = false := by rw [beq_eq_false_iff_ne]; exact hbk
            have HS := Lib.hid (show hcI s k (i + 1) = H from (by rw [HST.out, if_neg hbk]; omega))
            clear HST hbk
            go_wp2
            go_roundg (n - (i + 1))
            case measure => omega
            case rel => exact ⟨i + 1, by omega, rfl, by go_num, by rw [HS.out], hW⟩
        · obtain rfl : i = n := by omega
          have C := fun w h => says_Count (b := b) (n := i) hS k w h
          rw [hlen.out] at C
          have hcb := hcI_bd s k i
          generalize hcI s k i = H at *
          go_wp2_with fail
          refine (C _ (h.keep hW)).mono ?_; rintro e w9 ⟨rfl, rfl⟩
          go_wp2
          go_roundg (66 - (k + 1)).toNat
          case measure => omega
          case rel => exact ⟨k + 1, by omega, by omega, rfl, by go_num, hW⟩
    · obtain rfl : k = 66 := by omega
      have hlp : 0 < s.length := by rw [hlen.out]; omega
      have h0 := h.keep hW
      obtain ⟨ad, rfl, _, x0, _⟩ := (hl.keep hW).get (k := 0) (by omega)
      obtain ⟨ad2, e2, _, x1, _⟩ := (hl.keep hW).get (k := n - 1) (by omega)
      obtain rfl : ad2 = ad := by injection e2 with e2; exact e2.symm
      have q0 := Lib.hid hS.least
      have q1 := Lib.hid hS.most
      replace x0 : wo.cell? (ad2.add 0) = some (.int .u64 least) := by rw [q0.out]; exact x0
      replace x1 : wo.cell? (ad2.add (n - 1)) = some (.int .u64 most) := by rw [q1.out, hlen.out]; exact x1
      clear q0 q1
      have x0' : wo.cell? ad2 = some (.int .u64 least) := by rw [← x0]; unfold Addr.add; simp
      have hn1i : (n : Int) - 1 = ((n - 1 : Nat) : Int) := by omega
      have hnn : ((n - 1 : Nat) : Int) < (n : Int) := by omega
      have M := fun w h => hist_Mean b cnt n hi lo least most (by omega) (by omega) hN w h
      by_cases hp : 0 ≤ p ∧ p ≤ 1000
      · have hr := rk_lt s hlp (by rw [hlen.out]; exact hn1) p hp.1 hp.2
        rw [hlen.out] at hr
        obtain ⟨ad3, e3, _, x2, _⟩ := (hl.keep hW).get (k := rk s p) hr.1
        obtain rfl : ad3 = ad2 := by injection e3 with e3; exact e3.symm
        have Q := fun w h => says_Quantile (b := b) (w := w) hS hlp (by rw [hlen.out]; exact hn1) p hp.1 hp.2 h hc0
        rw [hlen.out] at Q
        have hg := hU.getD (rk s p)
        have B := fun w => bucket_bl (s.getD (rk s p) 0) hg.1 hg.2 w
        generalize (bl (s.getD (rk s p) 0) : Int) = B0 at *
        generalize s.getD (rk s p) 0 = v at *
        rw [hn1i] at hr
        have hq1 : wrap64 (((n - 1 : Nat) : Int) * p) = ((n - 1 : Nat) : Int) * p := IntWalk.wrap64_in _ (by
          have h1 : 0 ≤ ((n - 1 : Nat) : Int) * p := Int.mul_nonneg (by omega) hp.1
          have h2 : ((n - 1 : Nat) : Int) * p ≤ ((n - 1 : Nat) : Int) * 1000 := Int.mul_le_mul_of_nonneg_left hp.2 (by omega)
          omega)
        have hq0 : 0 ≤ ((n - 1 : Nat) : Int) * p := Int.mul_nonneg (by omega) hp.1
        obtain ⟨hr1, hr2⟩ := hr
        have hq2 : (((n - 1 : Nat) : Int) * p).tdiv 1000 = ((rk s p : Nat) : Int) := (Int.tdiv_eq_ediv_of_nonneg hq0).trans hr2.symm
        generalize rk s p = r at *
        have hrn : (r : Int) < (n : Int) := by omega
        clear hr2 hq0
        obtain ⟨p0, p1⟩ := hp
        go_wp2_with fail
        refine (B _).mono ?_; rintro e w9 ⟨rfl, rfl⟩
        go_wp2_with fail
        refine (M _ h0).mono ?_; rintro e w5 ⟨rfl, hx5⟩
        go_wp2_with fail
        refine (Q _ (h0.keep hx5)).mono ?_; rintro e w6 ⟨rfl, hx6⟩
        go_wp2
        go_ret
        exact ⟨by simp, below_step (below_step hW hx5) hx6⟩
      · have Q := fun w h => hist_QuantileNo (b := b) (cnt := cnt) (n := n) (hi := hi) (lo := lo) (least := least) (most := most) (by omega) p (by omega) w h
        by_cases hp0 : 0 ≤ p
        · have f3 : ¬ p ≤ 1000 := by omega
          clear hp
          go_wp2_with fail
          refine (M _ h0).mono ?_; rintro e w5 ⟨rfl, hx5⟩
          go_wp2_with fail
          refine (Q _ (h0.keep hx5)).mono ?_; rintro e w6 ⟨rfl, rfl⟩
          go_wp2
          go_ret
          exact ⟨by simp, below_step hW hx5⟩
        · clear hp
          go_wp2_with fail
          refine (M _ h0).mono ?_; rintro e w5 ⟨rfl, hx5⟩
          go_wp2_with fail
          refine (Q _ (h0.keep hx5)).mono ?_; rintro e w6 ⟨rfl, rfl⟩
          go_wp2
          go_ret
          exact ⟨by simp, below_step hW hx5⟩
end Go.Proofs.Ytpedhlmcgilliaa
