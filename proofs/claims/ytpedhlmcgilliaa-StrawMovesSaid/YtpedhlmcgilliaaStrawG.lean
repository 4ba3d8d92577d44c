/- StrawCounts. -/
import Derived.Test.YtpedhlmcgilliaaStrawF
set_option linter.unusedVariables false
namespace Go.Proofs.Ytpedhlmcgilliaa
open Go.RowKit
set_option maxHeartbeats 2000000
set_option maxRecDepth 100000
theorem strawCounts_walk (w : World) (key : Int) (k0 : 0 ≤ key) (k1 : key < 18446744073709551616) (keys0 : Int) (y0 : -9223372036854775808 ≤ keys0) (y1 : keys0 ≤ 9223372036854775807) (A : Option Addr) (n0 c : Nat) (l0 : List (Int × Int)) (hl0 : IsPairs w .u64 .u64 A n0 c l0) :
    Calls Try.prog 5 #[.int .u64 key, .int .i64 keys0, .slice A n0 c] w fun e w' => e = .returned (.bool true) ∧ Below w.heap.size w w' := by
  have hl := hl0.take (k := min n0 30) (by omega)
  have hF := fun w => law25_few A n0 c hl0.cap hl0.small w
  generalize min n0 30 = n at hl hF
  generalize l0.take n = l at hl
  have hAlt : ∀ ad, A = some ad → 0 < n → ad.block < w.heap.size := fun ad h hn => by
    obtain ⟨ad', h', hb, _⟩ := hl.cells hn
    rw [h] at h'; cases h'; exact hb
  clear hl0 l0
  have hn := hl.reach
  have hcap := hl.cap
  have hsm := hl.small
  go_enter Try.func5, Try.ntmps5
  go_upto_if 16 with ((go_at_call 12; refine (hF _).mono ?_; rintro e w' ⟨rfl, rfl⟩))
  go_cut [1, 2] (fun s1 s2 wx => w = wx ∧ s2 = .slice A n c ∧ ∃ keys : Int, s1 = .int .i64 keys ∧ keys ≤ 60)
  case first =>
    by_cases h : keys0 ≤ 60
    · have h40 : decide ((60 : Int) < keys0) = false := decide_eq_false (by omega)
      go_wp2_with ((go_at_call 12; refine (hF _).mono ?_; rintro e w' ⟨rfl, rfl⟩))
      go_meet
      exact ⟨rfl, rfl, keys0, rfl, h⟩
    · have h40 : decide ((60 : Int) < keys0) = true := decide_eq_true (by omega)
      go_wp2_with ((go_at_call 12; refine (hF _).mono ?_; rintro e w' ⟨rfl, rfl⟩))
      go_meet
      exact ⟨rfl, rfl, 60, rfl, by decide⟩
  case rest =>
    obtain ⟨rfl, rfl, keys, rfl, hk60⟩ := hcut
    clear hF y0 y1
    have hT : Tab (w.alloc (.cells #[.int .u32 0, .int .i32 0, .int .u32 0, .slice none 0 0] 44)) w.heap.size 44 := .inl (Blk.new w 44 _)
    have hW : Below w.heap.size w (w.alloc (.cells #[.int .u32 0, .int .i32 0, .int .u32 0, .slice none 0 0] 44)) := (Below.refl _ _).alloc (Nat.le_refl _) _
    have hAb : 0 < n → ∀ ad, A = some ad → ¬ ad.block = w.heap.size := fun hn ad h => by have := hAlt ad h hn; omega
    have hlu := hl.keep hW
    go_wp2_with fail
    generalize w.alloc (.cells #[.int .u32 0, .int .i32 0, .int .u32 0, .slice none 0 0] 44) = u at *
    refine (straws_Count w.heap.size 44 key keys hk60 A n c l k0 k1 _ hlu hAb hT).mono ?_; rintro e w1 ⟨g, rfl, hgu, hg, hT1, hm⟩
    have hl1 := hlu.mod hm hAb
    have hW1 := below_thenMod hW (Nat.le_refl _) hm (fun i hi => by subst hi; exact Nat.le_refl _)
    have hgw : w.heap.size ≤ g := by have := hW.size; omega
    clear hlu hm hT hT1 hW
    obtain ⟨K, hK⟩ : ∃ K : Nat, K = keys.toNat := ⟨_, rfl⟩
    rw [← hK] at hg
    have hK60 : K ≤ 60 := by omega
    have HK := Lib.hid hK
    clear hK
    have hmk := run_make_row' (P := Try.prog) 54 3 (.int .i64 0) 8 Try.underlying54 Try.infoI64 rfl .i64 .i64 n (by omega) (by omega)
    have hglt := hg.lt
    go_wp2_with fail
    have hv0 := World.rowIs_made w1 (.int .i64 0) n 3
    have hg1 := hg.alloc (.cells (madeCells #[.int .i64 0] n) 3)
    have hW2 := hW1.alloc hW1.size (.cells (madeCells #[.int .i64 0] n) 3)
    have hl2 := hl1.keep ((Below.refl _ _).alloc (Nat.le_refl _) (.cells (madeCells #[.int .i64 0] n) 3))
    have hvg : ¬ w1.heap.size = g := by omega
    have hvw : w.heap.size ≤ w1.heap.size := hW1.size
    have hAv : 0 < n → ∀ ad, A = some ad → ¬ ad.block = w1.heap.size := fun hn ad h => by have := hAlt ad h hn; omega
    clear hmk hg hW1 hl1
    generalize w1.alloc (.cells (madeCells #[.int .i64 0] n) 3) = w2 at *
    generalize hV : w1.heap.size = v at *
    clear hV
    go_loopg [10] K (fun gk s10 wr => ∃ k : Nat, k ≤ K ∧ gk = K - k ∧ s10 = .int .i64 k ∧ wr.rowIs v 3 n (fun j => .int .i64 (cntTo (pickAt key l n) j k)) ∧ wr.rowIs g 3 n (fun j => .int .i64 (cntTo (pickAt key l n) j K)) ∧ IsPairs wr .u64 .u64 A n c l ∧ Below w.heap.size w wr)
    case atStart => exact ⟨0, Nat.zero_le _, rfl, rfl, hv0, hg1, hl2, hW2⟩
    case round =>
      clear hv0 hg1 hW2 hl2
      obtain ⟨k, hk, rfl, rfl, hv, hg, hl, hW⟩ := hrel
      by_cases hlt : k < K
      · have hki : (k : Int) < keys := by have := HK.out; omega
        have hb1 : 0 ≤ IntKind.u64.wrap (key + k) ∧ IntKind.u64.wrap (key + k) < 18446744073709551616 := by rw [IntKind.wrap_u64]; omega
        have hpk : pickAt key l n k = pickTo (lenI (IntKind.u64.wrap (key + k))) l n := rfl
        have hbd := pick_bd (lenI (IntKind.u64.wrap (key + k))) l n
        rw [← hpk] at hbd
        have D := fun w (h1 : IsPairs w .u64 .u64 A n c l) => law_pick (IntKind.u64.wrap (key + k)) A n c l hb1.1 hb1.2 w h1
        rw [← hpk] at D
        clear hpk
        go_wp2_with fail
        refine (D _ hl).mono ?_; rintro e w3 ⟨rfl, hx⟩
        have hv1 := row_keep hv hx
        have hg1 := row_keep hg hx
        have hl1 := hl.keep hx
        have hW1 := below_step hW hx
        clear hg hv hl hW hx D
        obtain ⟨p, hp⟩ : ∃ p, p = pickAt key l n k := ⟨_, rfl⟩
        rw [← hp] at hbd ⊢
        by_cases hneg : p < 0
        · have hg' : decide (0 ≤ p) = false := decide_eq_false (by omega)
          have hv2 := hv1.congr (g := fun j => .int .i64 (cntTo (pickAt key l n) j (k + 1))) (fun i _ => by rw [cnt_no (by omega)])
          clear hp hv1
          go_wp2
          go_roundg (K - (k + 1))
          case measure => omega
          case rel => exact ⟨k + 1, by omega, rfl, by go_num, hv2, hg1, hl1, hW1⟩
        · obtain ⟨m, rfl⟩ := Int.eq_ofNat_of_zero_le (show 0 ≤ p by omega)
          have hmn : m < n := by omega
          have hcb := cnt_bd (pickAt key l n) m k
          have hcell := hv1.cell hmn
          have hfz := hv1.frozen m
          have hv2 := (hv1.set m (.int .i64 (cntTo (pickAt key l n) m k + 1))).congr (g := fun j => .int .i64 (cntTo (pickAt key l n) j (k + 1))) (fun i _ => by
            by_cases e : i = m
            · subst e; rw [if_pos rfl, cnt_yes hp.symm]
            · rw [if_neg e, cnt_no (by rw [← hp]; omega)])
          have hg2 := hg1.setOther (a := ⟨v, m, none⟩) (fun e => hvg e.symm) (.int .i64 (cntTo (pickAt key l n) m k + 1))
          have hMl : Mod (· = v) w3 (w3.setCell ⟨v, m, none⟩ (.int .i64 (cntTo (pickAt key l n) m k + 1))) := (Mod.refl _ _).own m _
          have hl2 := hl1.mod hMl hAv
          have hW2 := below_own hW1 hvw m (.int .i64 (cntTo (pickAt key l n) m k + 1))
          generalize cntTo (pickAt key l n) m k = q at *
          clear hp hv1 hg1 hMl hl1 hW1
          go_wp2
          go_roundg (K - (k + 1))
          case measure => omega
          case rel => exact ⟨k + 1, by omega, rfl, by go_num, hv2, hg2, hl2, hW2⟩
      · obtain rfl : k = K := by omega
        have hki : ¬ (k : Int) < keys := by have := HK.out; omega
        go_wp2_with fail
        clear hl
        go_loopg [12] n (fun gk s12 wx => ∃ i : Nat, i ≤ n ∧ gk = n - i ∧ s12 = .int .i64 i ∧ wx.rowIs v 3 n (fun j => .int .i64 (cntTo (pickAt key l n) j k)) ∧ wx.rowIs g 3 n (fun j => .int .i64 (cntTo (pickAt key l n) j k)) ∧ Below w.heap.size w wx)
        case atStart => exact ⟨0, Nat.zero_le _, rfl, rfl, hv, hg, hW⟩
        case round =>
          clear hv hg hW
          obtain ⟨i, hi, rfl, rfl, hv, hg, hW⟩ := hrel
          by_cases hin : i < n
          · have hc1 := hv.cell hin
            have hc2 := hg.cell hin
            have hii : (i : Int) < (n : Int) := by omega
            generalize cntTo (pickAt key l n) i k = q at *
            go_wp2_with fail
            go_quiet (fail)
            go_wp2
            go_roundg (n - (i + 1))
            case measure => omega
            case rel => exact ⟨i + 1, by omega, rfl, by go_num, hv, hg, below_drewN hW _⟩
          · obtain rfl : i = n := by omega
            go_wp2_with fail
            refine (law25_awake _).mono ?_; rintro e w9 ⟨rfl, hx⟩
            go_wp2
            go_ret
            exact ⟨rfl, below_step hW hx⟩
end Go.Proofs.Ytpedhlmcgilliaa
