/- The law's sorted. -/
import Derived.Test.YtpedhlmcgilliaaHistE
set_option linter.unusedVariables false
namespace Go.Proofs.Ytpedhlmcgilliaa
open Go.RowKit
set_option maxHeartbeats 2000000
set_option maxRecDepth 100000
theorem rank_le (l : List Int) (i : Nat) : ∀ j, rankTo l i j ≤ j
  | 0 => Nat.le_refl _
  | j + 1 => by
    have := rank_le l i j
    rw [rankTo]
    split <;> omega
theorem law_sorted (A : Option Addr) (n c : Nat) (l : List Int) (w : World) (hl : IsList w .u64 A n c l) :
    Calls Try.prog 34 #[.slice A n c] w fun e w' => ∃ g : Nat, e = .returned (.slice (some ⟨g, 0, none⟩) n n) ∧ w.heap.size ≤ g ∧ w'.rowIs g 22 n (fun j => .int .u64 ((srt l).getD j 0)) ∧ Below w.heap.size w w' := by
  have hn := hl.reach
  have hcap := hl.cap
  have hsm := hl.small
  have hlen := Lib.hid hl.len
  have hmk := run_make_row' (P := Try.prog) 40 22 (.int .u64 0) 8 Try.underlying40 Try.infoU64 rfl .i64 .i64 n (by omega) (by omega)
  go_enter Try.func34, Try.ntmps34
  go_wp2_with fail
  have hg0 := (World.rowIs_made w (.int .u64 0) n 22).congr (g := fun j => .int .u64 (laidRow l 0 j)) (fun i _ => by rw [laid_zero])
  have hW0 : Below w.heap.size w (w.alloc (.cells (madeCells #[.int .u64 0] n) 22)) := (Below.refl _ _).alloc (Nat.le_refl _) _
  clear hmk
  generalize w.alloc (.cells (madeCells #[.int .u64 0] n) 22) = u at *
  go_loopg [4] n (fun gk s4 wr => ∃ i : Nat, i ≤ n ∧ gk = n - i ∧ s4 = .int .i64 i ∧ wr.rowIs w.heap.size 22 n (fun j => .int .u64 (laidRow l i j)) ∧ Below w.heap.size w wr)
  case atStart => exact ⟨0, Nat.zero_le _, rfl, rfl, hg0, hW0⟩
  case round =>
    clear hg0 hW0
    obtain ⟨i, hi, rfl, rfl, hg, hW⟩ := hrel
    obtain ⟨wo, rfl⟩ : ∃ wo, wo = wr := ⟨_, rfl⟩
    by_cases hin : i < n
    · have hii : (i : Int) < (n : Int) := by omega
      have hi0 : (0 : Int) ≤ (i : Int) := by omega
      go_wp2_with fail
      go_loopg [5, 6] n (fun gk s5 s6 wx => ∃ k : Nat, k ≤ n ∧ gk = n - k ∧ s6 = .int .i64 k ∧ s5 = .int .i64 (rankTo l i k) ∧ wx.rowIs w.heap.size 22 n (fun j => .int .u64 (laidRow l i j)) ∧ Below w.heap.size w wx)
      case atStart => exact ⟨0, Nat.zero_le _, rfl, rfl, rfl, hg, hW⟩
      case round =>
        clear hg hW
        obtain ⟨k, hk, rfl, rfl, rfl, hg, hW⟩ := hrel
        have hrk := rank_le l i k
        by_cases hkn : k < n
        · obtain ⟨ad, rfl, _, x0, _⟩ := (hl.keep hW).get hkn
          obtain ⟨ad2, e2, _, y0, _⟩ := (hl.keep hW).get hin
          obtain rfl : ad2 = ad := by injection e2 with e2; exact e2.symm
          have hkk : (k : Int) < (n : Int) := by omega
          have hk0 : (0 : Int) ≤ (k : Int) := by omega
          have HST := Lib.hid (show rankTo l i (k + 1) = rankTo l i k + if l.getD k 0 < l.getD i 0 ∨ (l.getD k 0 = l.getD i 0 ∧ k < i) then 1 else 0 from rfl)
          generalize rankTo l i k = R at *
          generalize l.getD k 0 = x at *
          generalize l.getD i 0 = y at *
          by_cases h1 : x < y
          · have g1 : decide (x < y) = true := decide_eq_true h1
            have HS := Lib.hid (show rankTo l i (k + 1) = R + 1 by rw [HST.out, if_pos (.inl h1)])
            clear h1 HST
            go_wp2_with fail
            go_quiet (fail)
            go_wp2
            go_roundg (n - (k + 1))
            case measure => omega
            case rel => exact ⟨k + 1, by omega, rfl, by go_num, by rw [HS.out]; go_num, row_drewN hg _, below_drewN hW _⟩
          · have g1 : decide (x < y) = false := decide_eq_false h1
            by_cases h2 : x = y
            · have g2 : (x == y) = true := by rw [beq_iff_eq]; exact h2
              by_cases h3 : k < i
              · have g3 : decide ((k : Int) < (i : Int)) = true := decide_eq_true (by omega)
                have g3' : decide (k < i) = true := decide_eq_true h3
                have HS := Lib.hid (show rankTo l i (k + 1) = R + 1 by rw [HST.out, if_pos (.inr ⟨h2, h3⟩)])
                clear h1 h2 h3 HST
                go_wp2_with fail
                go_quiet (fail)
                go_wp2
                go_roundg (n - (k + 1))
                case measure => omega
                case rel => exact ⟨k + 1, by omega, rfl, by go_num, by rw [HS.out]; go_num, row_drewN hg _, below_drewN hW _⟩
              · have g3 : decide ((k : Int) < (i : Int)) = false := decide_eq_false (by omega)
                have g3' : decide (k < i) = false := decide_eq_false h3
                have HS := Lib.hid (show rankTo l i (k + 1) = R by rw [HST.out, if_neg (fun h => by rcases h with h | ⟨_, h⟩ <;> omega)]; rfl)
                clear h1 h2 h3 HST
                go_wp2_with fail
                go_quiet (fail)
                go_wp2
                go_roundg (n - (k + 1))
                case measure => omega
                case rel => exact ⟨k + 1, by omega, rfl, by go_num, by rw [HS.out], row_drewN hg _, below_drewN hW _⟩
            · have g2 : (x == y) = false := by rw [beq_eq_false_iff_ne]; exact h2
              have HS := Lib.hid (show rankTo l i (k + 1) = R by rw [HST.out, if_neg (fun h => by rcases h with h | ⟨h, _⟩ <;> omega)]; rfl)
              clear h1 h2 HST
              go_wp2_with fail
              go_quiet (fail)
              go_wp2
              go_roundg (n - (k + 1))
              case measure => omega
              case rel => exact ⟨k + 1, by omega, rfl, by go_num, by rw [HS.out], row_drewN hg _, below_drewN hW _⟩
        · obtain rfl : k = n := by omega
          obtain ⟨ad, rfl, _, y0, _⟩ := (hl.keep hW).get hin
          have hr := (rank_at l i (by rw [hlen.out]; exact hin)).2
          rw [hlen.out] at hr
          have hre : rankOf l i = rankTo l i k := by unfold rankOf; rw [hlen.out]
          rw [hre] at hr
          have hcell := hg.cell hr
          have hfz := hg.frozen (rankTo l i k)
          have hg2 := (hg.set (rankTo l i k) (.int .u64 (l.getD i 0))).congr (g := fun j => .int .u64 (laidRow l (i + 1) j)) (fun j _ => by
            rw [laid_succ l i (by rw [hlen.out]; exact hin), hre]
            by_cases e : j = rankTo l i k
            · rw [if_pos e, if_pos e]
            · rw [if_neg e, if_neg e])
          have hW2 := below_own hW (Nat.le_refl _) (rankTo l i k) (.int .u64 (l.getD i 0))
          have hrn : ((rankTo l i k : Nat) : Int) < (k : Int) := by omega
          clear hre hrk
          generalize rankTo l i k = R at *
          generalize l.getD i 0 = y at *
          go_wp2
          go_roundg (k - (i + 1))
          case measure => omega
          case rel => exact ⟨i + 1, by omega, rfl, by go_num, hg2, hW2⟩
    · obtain rfl : i = n := by omega
      have hg3 := hg.congr (g := fun j => .int .u64 ((srt l).getD j 0)) (fun j hj => by
        have := laid_all l j (by rw [hlen.out]; exact hj)
        rw [hlen.out] at this
        rw [this])
      go_wp2
      go_ret
      exact ⟨_, rfl, Nat.le_refl _, hg3, hW⟩
end Go.Proofs.Ytpedhlmcgilliaa
