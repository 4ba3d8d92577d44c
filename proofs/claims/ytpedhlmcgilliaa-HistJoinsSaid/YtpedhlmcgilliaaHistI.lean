/- HistSays. -/
import Derived.Test.YtpedhlmcgilliaaHistH
set_option linter.unusedVariables false
namespace Go.Proofs.Ytpedhlmcgilliaa
open Go.RowKit
set_option maxHeartbeats 4000000
set_option maxRecDepth 100000
theorem law38_few (A : Option Addr) (n c : Nat) (hn : n ≤ c) (hc : c ≤ 9223372036854775807) (w : World) :
    Calls Try.prog 31 #[.slice A n c] w fun e w' => e = .returned (.slice A (min n 60) c) ∧ w = w' := by
  by_cases h : n ≤ 60
  · have h30 : decide ((60 : Int) < (n : Int)) = false := decide_eq_false (by omega)
    have hm := Lib.hid (show n = min n 60 by omega)
    go_enter Try.func31, Try.ntmps31
    go_wp2
    go_ret
    exact ⟨by rw [← hm.out]; rfl, rfl⟩
  · have h30 : decide ((60 : Int) < (n : Int)) = true := decide_eq_true (by omega)
    have hm := Lib.hid (show 60 = min n 60 by omega)
    have h3 : 60 ≤ c := by omega
    go_enter Try.func31, Try.ntmps31
    go_wp2
    go_ret
    exact ⟨by rw [← hm.out]; rfl, rfl⟩
theorem zeroHist : Try.zeroCells80 = Array.replicate 70 (.int .u64 0) := by kernel_rfl
theorem HistIs.zero (w : World) : HistIs (w.alloc (.cells Try.zeroCells80 80)) w.heap.size (fun _ => 0) 0 0 0 0 0 := by
  refine ⟨_, Blk.new w _ _, ?_, ?_, ?_, ?_, ?_, ?_, ?_⟩ <;> rw [zeroHist]
  · simp
  · intro k hk; rw [Array.getElem?_replicate, if_pos (by omega)]
  all_goals rw [Array.getElem?_replicate, if_pos (by omega)]
theorem hcnt_out (l : List Int) (hl : U64s l) (k : Nat) (hk : 65 ≤ k) : ∀ m, hcnt l k m = 0
  | 0 => rfl
  | m + 1 => by
    rw [hcnt, hcnt_out l hl k hk m, if_neg]
    · rfl
    · have := hl.getD m
      have := bl_le (l.getD m 0).toNat (by omega)
      omega
theorem IsList.u64s {w : World} {A : Option Addr} {n c : Nat} {l : List Int} (h : IsList w .u64 A n c l) : U64s l := fun v hv => u64_of_wf (h.wf v hv)
theorem srt_list {w : World} {g n : Nat} {l : List Int} {A : Option Addr} {c : Nat} {w0 : World} (hl : IsList w0 .u64 A n c l) (h : w.rowIs g 22 n (fun j => .int .u64 ((srt l).getD j 0))) : IsList w .u64 (some ⟨g, 0, none⟩) n n (srt l) :=
  row_list h (srt l) (by rw [srt_len, hl.len]) (fun i _ => rfl) (fun z hz => hl.wf z ((srt_perm l).mem_iff.1 hz)) (Nat.le_refl _) (Nat.le_trans hl.cap hl.small) hl.reach
theorem histSays_walk (w : World) (A : Option Addr) (n0 c : Nat) (l0 : List Int) (hl0 : IsList w .u64 A n0 c l0) (p : Int) (p0 : -9223372036854775808 ≤ p) (p1 : p ≤ 9223372036854775807) :
    Calls Try.prog 9 #[.slice A n0 c, .int .i64 p] w fun e w' => e = .returned (.bool true) ∧ Below w.heap.size w w' := by
  have hl := hl0.cut (k := min n0 60) (by omega)
  have hn60 : min n0 60 ≤ 60 := by omega
  have hF := fun w => law38_few A n0 c hl0.cap hl0.small w
  generalize min n0 60 = n at hl hF hn60
  generalize l0.take n = l at hl
  clear hl0 l0
  have hlen := Lib.hid hl.len
  go_enter Try.func9, Try.ntmps9
  go_wp2_with fail
  refine (hF _).mono ?_; rintro e w' ⟨rfl, rfl⟩
  clear hF
  go_wp2_with fail
  have hB := HistIs.zero w
  have hx1 : Below w.heap.size w (w.alloc (.cells Try.zeroCells80 80)) := (Below.refl _ w).alloc (Nat.le_refl _) _
  have hl1 := hl.keep hx1
  have hne : 0 < n → ∀ ad, A = some ad → ¬ ad.block = w.heap.size := fun hn ad hA e => by
    obtain ⟨ad2, e2, hb, _⟩ := hl.reads.2 hn
    rw [hA] at e2
    injection e2 with e2
    subst e2
    omega
  generalize w.alloc (.cells Try.zeroCells80 80) = u at *
  refine (hist_Add w.heap.size A n c l u hl1 hne hB).mono ?_; rintro e u2 ⟨rfl, hH, hM⟩
  have hl2 := hl1.mod hM hne
  have hx2 := below_thenMod hx1 (Nat.le_refl _) hM (fun i hi => Nat.le_of_eq hi.symm)
  clear hB hx1 hl1 hM
  go_wp2_with fail
  refine (law_sorted A n c l u2 hl2).mono ?_; rintro e u3 ⟨g, rfl, hg, hrow, hx3⟩
  have hI := srt_list hl2 hrow
  have hS := says_of l hl2.u64s (by rw [hlen.out]; omega)
  have hH3 := hH.keep hx3
  have hc0 : ∀ k, 65 ≤ k → (fun k => hcnt l k n) k = 0 := fun k hk => hcnt_out l hl2.u64s k hk n
  rw [hlen.out] at hS
  have hx4 := below_step hx2 hx3
  clear hrow hl2 hx3 hx2 hH
  go_wp2_with fail
  refine (law_alike w.heap.size _ _ _ _ _ _ n n (srt l) p u3 hI (by omega) hS hc0 hH3).mono ?_; rintro e u4 ⟨rfl, hx5⟩
  go_wp2_with fail
  refine (hist_awake _).mono ?_; rintro e u5 ⟨rfl, hx6⟩
  go_wp2
  go_ret
  exact ⟨rfl, below_step (below_step hx4 hx5) hx6⟩
end Go.Proofs.Ytpedhlmcgilliaa
