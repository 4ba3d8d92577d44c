/- StrawCounts. -/
import Derived.Test.YtpedhlmcgilliaaStrawE
import Derived.Test.YtpedhlmcgilliaaMakeInt
set_option linter.unusedVariables false
namespace Go.Proofs.Ytpedhlmcgilliaa
open Go.RowKit
set_option maxHeartbeats 2000000
set_option maxRecDepth 100000
/-- How often the k-th is picked by the first m keys. -/
def cntTo (F : Nat → Int) (k : Nat) : Nat → Int
  | 0 => 0
  | m + 1 => cntTo F k m + if F m = k then 1 else 0
theorem cnt_bd (F : Nat → Int) (k : Nat) : ∀ m, 0 ≤ cntTo F k m ∧ cntTo F k m ≤ m
  | 0 => by simp [cntTo]
  | m + 1 => by
    have := cnt_bd F k m
    rw [cntTo]
    split <;> omega
theorem cnt_yes {F : Nat → Int} {k m : Nat} (h : F m = k) : cntTo F k (m + 1) = cntTo F k m + 1 := by rw [cntTo, if_pos h]
theorem cnt_no {F : Nat → Int} {k m : Nat} (h : ¬ F m = k) : cntTo F k (m + 1) = cntTo F k m := by rw [cntTo, if_neg h]; omega
/-- Which one the m-th key picks. -/
def pickAt (from_ : Int) (l : List (Int × Int)) (n : Nat) (m : Nat) : Int := pickTo (lenI (IntKind.u64.wrap (from_ + m))) l n
theorem row_far {w : World} {g r : Nat} {t T : TypeId} {n : Nat} {f : Nat → Value} {cs : Array Value} (h : w.rowIs g t n f) (hne : g ≠ r) (i : Nat) (v : Value) : (w.setCell ⟨r, i, none⟩ v).rowIs g t n f :=
  h.of_block (Below.heap_setCell w ⟨r, i, none⟩ v g hne)
theorem Tab.farT {w : World} {b r : Nat} {t T : TypeId} {cs : Array Value} (h : Tab w b T) (R : Blk w r t cs) (ht : 22 ≠ t) (hrb : ¬ r = b) (i : Nat) (v : Value) : Tab (w.setCell ⟨r, i, none⟩ v) b T := by
  rcases h with h | ⟨g, h, ⟨ds, hd, hr⟩, hne⟩
  · exact .inl (h.far (p := ⟨r, i, none⟩) (fun e => hrb e.symm) _)
  · have hgr : g ≠ r := Blk.ne_ (t := 22) (t' := t) hd R ht
    exact .inr ⟨g, h.far (p := ⟨r, i, none⟩) (fun e => hrb e.symm) _, ⟨ds, Blk.far (p := ⟨r, i, none⟩) (t := 22) hd hgr _, hr⟩, hne⟩
theorem row_blk {w : World} {g : Nat} {t : TypeId} {n : Nat} {f : Nat → Value} (h : w.rowIs g t n f) : ∃ cs, Blk w g t cs := ⟨_, h.choose_spec.1⟩
theorem straws_Count (b : Nat) (T : TypeId) (key keys : Int) (hk60 : keys ≤ 60) (A : Option Addr) (n c : Nat) (l : List (Int × Int)) (k0 : 0 ≤ key) (k1 : key < 18446744073709551616) (w : World) (hl : IsPairs w .u64 .u64 A n c l)
    (hA : 0 < n → ∀ ad, A = some ad → ¬ ad.block = b) (hT : Tab w b T) :
    Calls Try.prog 18 #[.pointer (some ⟨b, 0, none⟩), .int .u64 key, .int .i64 keys, .slice A n c] w fun e w' => ∃ g : Nat, e = .returned (.slice (some ⟨g, 0, none⟩) n n) ∧ w.heap.size ≤ g ∧ w'.rowIs g 3 n (fun j => .int .i64 (cntTo (pickAt key l n) j keys.toNat)) ∧ Tab w' b T ∧ Mod (· = b) w w' := by
  have hn := hl.reach
  have hcap := hl.cap
  have hsm := hl.small
  have hblt := hT.lt
  have hmk := run_make_row' (P := Try.prog) 54 3 (.int .i64 0) 8 Try.underlying54 Try.infoI64 rfl .i64 .i64 n (by omega) (by omega)
  obtain ⟨K, hK⟩ : ∃ K : Nat, K = keys.toNat := ⟨_, rfl⟩
  have hKm : max keys 0 = (K : Int) := by omega
  have hK60 : K ≤ 60 := by omega
  have HKM := Lib.hid hKm
  rw [← hK]
  clear hK hKm
  go_enter Try.func18, Try.ntmps18
  go_wp2_with fail
  rw [HKM.out]
  have hg0 := World.rowIs_made w (.int .i64 0) n 3
  have hT0 := hT.alloc (.cells (madeCells #[.int .i64 0] n) 3)
  have hM0 : Mod (· = b) w (w.alloc (.cells (madeCells #[.int .i64 0] n) 3)) := (Mod.refl _ _).alloc _
  have hl0 := hl.mod hM0 hA
  clear hmk
  generalize w.alloc (.cells (madeCells #[.int .i64 0] n) 3) = u at *
  go_loopg [17] K (fun gk s17 wr => ∃ k : Nat, k ≤ K ∧ gk = K - k ∧ s17 = .int .i64 k ∧ wr.rowIs w.heap.size 3 n (fun j => .int .i64 (cntTo (pickAt key l n) j k)) ∧ Tab wr b T ∧ Mod (· = b) w wr)
  case atStart => exact ⟨0, Nat.zero_le _, rfl, rfl, hg0, hT0, hM0⟩
  case round =>
    clear hg0 hT0 hM0 hl0
    obtain ⟨k, hk, rfl, rfl, hg, hT', hM⟩ := hrel
    by_cases hlt : k < K
    · have hlr := hl.mod hM hA
      have hki : (k : Int) < (K : Int) := by omega
      have e1 : IntKind.u64.wrap (k : Int) = (k : Int) := by rw [IntKind.wrap_u64]; omega
      have b1 : 0 ≤ IntKind.u64.wrap (key + k) ∧ IntKind.u64.wrap (key + k) < 18446744073709551616 := by rw [IntKind.wrap_u64]; omega
      have hpk : pickAt key l n k = pickTo (lenI (IntKind.u64.wrap (key + k))) l n := rfl
      have hbd := pick_bd (lenI (IntKind.u64.wrap (key + k))) l n
      rw [← hpk] at hbd
      have D := fun w (h1 : IsPairs w .u64 .u64 A n c l) h2 => straws_Pick b T (IntKind.u64.wrap (key + k)) A n c l b1.1 b1.2 w h1 hA h2
      rw [← hpk] at D
      clear hpk e1
      go_wp2_with fail
      refine (D _ hlr hT').mono ?_; rintro e w1 ⟨rfl, hT1, hm⟩
      have hg1 := row_mod hg hm (by omega)
      have hM1 := hM.trans hm
      clear hg hT' hM hm D hlr
      obtain ⟨p, hp⟩ : ∃ p, p = pickAt key l n k := ⟨_, rfl⟩
      rw [← hp] at hbd ⊢
      by_cases hneg : p < 0
      · have hg' : decide (0 ≤ p) = false := decide_eq_false (by omega)
        have hg2 := hg1.congr (g := fun j => .int .i64 (cntTo (pickAt key l n) j (k + 1))) (fun i _ => by rw [cnt_no (by omega)])
        clear hp hg1
        go_wp2
        go_roundg (K - (k + 1))
        case measure => omega
        case rel => exact ⟨k + 1, by omega, rfl, by go_num, hg2, hT1, hM1⟩
      · obtain ⟨m, rfl⟩ := Int.eq_ofNat_of_zero_le (show 0 ≤ p by omega)
        have hmn : m < n := by omega
        have hcb := cnt_bd (pickAt key l n) m k
        have hcell := hg1.cell hmn
        have hfz := hg1.frozen m
        have hg2 := (hg1.set m (.int .i64 (cntTo (pickAt key l n) m k + 1))).congr (g := fun j => .int .i64 (cntTo (pickAt key l n) j (k + 1))) (fun i _ => by
          by_cases e : i = m
          · subst e; rw [if_pos rfl, cnt_yes hp.symm]
          · rw [if_neg e, cnt_no (by rw [← hp]; omega)])
        obtain ⟨cs, hR⟩ := row_blk hg1
        have hT2 := hT1.farT hR (by decide) (by omega) m (.int .i64 (cntTo (pickAt key l n) m k + 1))
        have hM2 := hM1.fresh (Nat.le_refl _) m (.int .i64 (cntTo (pickAt key l n) m k + 1))
        generalize cntTo (pickAt key l n) m k = q at *
        clear hp hg1 hR hT1 hM1
        go_wp2
        go_roundg (K - (k + 1))
        case measure => omega
        case rel => exact ⟨k + 1, by omega, rfl, by go_num, hg2, hT2, hM2⟩
    · obtain rfl : k = K := by omega
      go_wp2
      go_ret
      exact ⟨_, rfl, Nat.le_refl _, hg, hT', hM⟩
end Go.Proofs.Ytpedhlmcgilliaa
