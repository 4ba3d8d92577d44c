/- wide.Sum; the law WideSums. -/
import Derived.Test.YtpedhlmcgilliaaWideE
import Derived.Test.YtpedhlmcgilliaaMixG
import Derived.Deep.RegionWith
set_option linter.unusedVariables false
namespace Go.Proofs.Ytpedhlmcgilliaa
open Go.RowKit
set_option maxHeartbeats 400000
def sums (l : List Int) : Int × Int := l.foldl (fun p v => (sHi p.1 p.2 0 v, sLo p.2 v)) (0, 0)
theorem sums_take (l : List Int) (k : Nat) (v : Int) (h : l[k]? = some v) : sums (l.take (k + 1)) = (sHi (sums (l.take k)).1 (sums (l.take k)).2 0 v, sLo (sums (l.take k)).2 v) := by
  unfold sums
  rw [List.take_add_one, h]
  simp [List.foldl_append]
theorem sums_bd : ∀ (l : List Int), (∀ v ∈ l, 0 ≤ v ∧ v < 18446744073709551616) → (l.length : Int) < 9223372036854775808 → IsNum (sums l).1 (sums l).2 ∧ (sums l).1 ≤ l.length := by
  intro l
  suffices H : ∀ (l : List Int) (p : Int × Int) (m : Int), (∀ v ∈ l, 0 ≤ v ∧ v < 18446744073709551616) → IsNum p.1 p.2 → p.1 ≤ m → m + l.length < 9223372036854775808 →
      IsNum (l.foldl (fun p v => (sHi p.1 p.2 0 v, sLo p.2 v)) p).1 (l.foldl (fun p v => (sHi p.1 p.2 0 v, sLo p.2 v)) p).2 ∧ (l.foldl (fun p v => (sHi p.1 p.2 0 v, sLo p.2 v)) p).1 ≤ m + l.length by
    intro h hl
    have := H l (0, 0) 0 h ⟨by decide, by decide, by decide, by decide⟩ (by decide) (by omega)
    rw [Int.zero_add] at this
    exact this
  intro l
  induction l with
  | nil => intro p m _ hp hm _; exact ⟨hp, by simpa using hm⟩
  | cons v l ih =>
    intro p m h hp hm hl
    have hv := h v (by simp)
    obtain ⟨h0, h1, l0, l1⟩ := hp
    simp only [List.length_cons, Int.natCast_add] at hl
    have := ih (sHi p.1 p.2 0 v, sLo p.2 v) (m + 1) (fun u hu => h u (by simp [hu])) (s_num _ _ _ _) (by show sHi p.1 p.2 0 v ≤ m + 1; unfold sHi; omega) (by omega)
    refine ⟨this.1, ?_⟩
    have h2 := this.2
    simp only [List.foldl_cons, List.length_cons, Int.natCast_add]
    omega
theorem fits_small {h l v : Int} (hn : IsNum h l) (hh : h < 9223372036854775808) (v0 : 0 ≤ v) (v1 : v < 18446744073709551616) : fits h l 0 v = true := by
  obtain ⟨h0, h1, l0, l1⟩ := hn
  unfold fits
  simp only [decide_eq_true_eq]
  omega
theorem wide_Sum (A : Option Addr) (n c : Nat) (l : List Int) (w : World) (hl : IsList w .u64 A n c l) :
    Calls Try.prog 56 #[.slice A n c] w fun e w' => e = .returned (.tuple #[.agg #[.int .u64 (sums l).1, .int .u64 (sums l).2], .bool true]) ∧ Below w.heap.size w w' := by
  go_enter Try.func56, Try.ntmps56
  go_wp2
  have hn := hl.reach
  have hcap := hl.cap
  have hsm := hl.small
  have hlen := Lib.hid hl.len
  go_loopw [10] (fun i wr => ∃ k : Nat, k ≤ n ∧ i = .int .i64 k ∧ wr.cell? ⟨w.heap.size + 1, 0, none⟩ = some (.int .u64 (sums (l.take k)).1) ∧ wr.cell? ⟨w.heap.size + 1, 1, none⟩ = some (.int .u64 (sums (l.take k)).2) ∧
      wr.frozen? ⟨w.heap.size + 1, 0, none⟩ = false ∧ wr.frozen? ⟨w.heap.size + 1, 1, none⟩ = false ∧ wr.cell? ⟨w.heap.size, 0, none⟩ = some (.int .u64 0) ∧ wr.cell? ⟨w.heap.size, 1, none⟩ = some (.int .u64 0) ∧
      wr.frozen? ⟨w.heap.size, 0, none⟩ = false ∧ wr.frozen? ⟨w.heap.size, 1, none⟩ = false ∧ w.heap.size + 1 < wr.heap.size ∧ Below w.heap.size w wr)
    (fun i _ => n - (intOf i).toNat)
  case atStart => exact ⟨0, Nat.zero_le _, rfl, by simp [sums], by simp [sums], by simp, by simp, by simp [go_sem], by simp [go_sem], by simp, by simp, by simp, by go_grown⟩
  case round =>
    obtain ⟨k, hk, rfl, c0, c1, f0, f1, d0, d1, e0, e1, hs, hb⟩ := hrel
    have HN := sums_bd (l.take k) (fun v hv => u64_of_wf (hl.wf v (List.mem_of_mem_take hv))) (by rw [List.length_take]; omega)
    by_cases hlt : k < n
    · obtain ⟨ad, v, rfl, hbk, hv, hwf, hcell⟩ := hl.at_ hlt
      obtain ⟨v0, v1⟩ := u64_of_wf hwf
      have hcell' := (hb.cell (p := ad.add k) (by rw [block_of_add]; exact hbk)).trans hcell
      have HS := Lib.hid (sums_take l k v hv)
      have HF := Lib.hid (fits_small HN.1 (by have := HN.2; rw [List.length_take] at this; omega) v0 v1)
      clear hv hwf hcell
      go_wp2_with fail
      refine (wide_Add _ _ _ _ HN.1 ⟨by decide, by decide, v0, v1⟩ HF.out _).mono ?_; rintro e w1 ⟨rfl, hb1⟩
      have c0' := keptc hb1 (by omega) c0
      have c1' := keptc hb1 (by omega) c1
      have f0' := frozenc hb1 (by omega) f0
      have f1' := frozenc hb1 (by omega) f1
      have d0' := keptc hb1 (by omega) d0
      have d1' := keptc hb1 (by omega) d1
      have e0' := frozenc hb1 (by omega) e0
      have e1' := frozenc hb1 (by omega) e1
      have hs' : w.heap.size + 1 < w1.heap.size := Nat.lt_of_lt_of_le hs hb1.size
      have hb' := below_step hb hb1
      clear c0 c1 f0 f1 d0 d1 e0 e1 hs hb hb1 hcell' HN HF
      go_wp2
      go_roundw
      case rel =>
        refine ⟨k + 1, by omega, by go_num, ?_, ?_, ?_, ?_, ?_, ?_, ?_, ?_, ?_, ?_⟩
        · rw [HS.out]; simp [go_sem, *]
        · rw [HS.out]; simp [go_sem, *]
        all_goals first | (simp [go_sem, *]; done) | go_grown
      case measure => simp [intOf]; omega
    · rw [List.take_of_length_le (by have := hlen.out; omega)] at c0 c1 HN
      go_wp2
      refine bodyPost_ret (v := .tuple #[.agg #[.int .u64 (sums l).1, .int .u64 (sums l).2], .bool true]) (by simp [results, Try.results56, go_sem, d0, d1]) rfl ⟨rfl, ?_⟩
      go_grown
end Go.Proofs.Ytpedhlmcgilliaa
