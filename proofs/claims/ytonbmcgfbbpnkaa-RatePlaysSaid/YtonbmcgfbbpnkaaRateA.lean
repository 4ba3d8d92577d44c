/- Buckets: what may be, a new one, what is in it, the time. -/
import Derived.Test.YtonbmcgfbbpnkaaRatePlain
import Derived.Test.YtonbmcgfbbpnkaaObj
import Derived.Test.YtonbmcgfbbpnkaaWideA
import Derived.RegionTactic
set_option linter.unusedVariables false
namespace Go.Proofs.Ytonbmcgfbbpnkaa
open Go.RowKit
set_option maxHeartbeats 400000
def rRight (e m : Int) : Bool := decide (0 ≤ e ∧ e ≤ 1099511627776 ∧ 1 ≤ m ∧ m ≤ 1099511627776)
theorem rRight_t {e m : Int} (h : 0 ≤ e ∧ e ≤ 1099511627776 ∧ 1 ≤ m ∧ m ≤ 1099511627776) : rRight e m = true := decide_eq_true h
theorem rRight_f {e m : Int} (h : ¬ (0 ≤ e ∧ e ≤ 1099511627776 ∧ 1 ≤ m ∧ m ≤ 1099511627776)) : rRight e m = false := decide_eq_false h
theorem rate_Right (e m : Int) (w : World) :
    Calls Try.prog 72 #[.agg #[.int .i64 e, .int .i64 m]] w fun en w' => en = .returned (.bool (rRight e m)) ∧ Below w.heap.size w w' := by
  by_cases h1 : 0 ≤ e
  · by_cases h2 : e ≤ 1099511627776
    · by_cases h3 : 1 ≤ m
      · by_cases h4 : m ≤ 1099511627776
        · rw [rRight_t ⟨h1, h2, h3, h4⟩]
          go_enter Try.func72, Try.ntmps72
          go_wp2
          go_ret
          exact ⟨rfl, by go_grown⟩
        · rw [rRight_f (fun h => h4 h.2.2.2)]
          go_enter Try.func72, Try.ntmps72
          go_wp2
          go_ret
          exact ⟨rfl, by go_grown⟩
      · rw [rRight_f (fun h => h3 h.2.2.1)]
        go_enter Try.func72, Try.ntmps72
        go_wp2
        go_ret
        exact ⟨rfl, by go_grown⟩
    · rw [rRight_f (fun h => h2 h.2.1)]
      go_enter Try.func72, Try.ntmps72
      go_wp2
      go_ret
      exact ⟨rfl, by go_grown⟩
  · rw [rRight_f (fun h => h1 h.1)]
    go_enter Try.func72, Try.ntmps72
    go_wp2
    go_ret
    exact ⟨rfl, by go_grown⟩
/-- Bucket b of a world. -/
def BK (w : World) (b : Nat) (e m h n : Int) : Prop := Blk w b 99 #[.int .i64 e, .int .i64 m, .int .i64 h, .int .i64 n]
abbrev bp (b : Nat) : Value := .pointer (some ⟨b, 0, none⟩)
theorem rate_New_yes (e m : Int) (h : rRight e m = true) (w : World) :
    Calls Try.prog 65 #[.agg #[.int .i64 e, .int .i64 m]] w fun en w' => ∃ b, en = .returned (.tuple #[bp b, .int .i64 0]) ∧ w.heap.size ≤ b ∧ BK w' b e m m 0 ∧ Below w.heap.size w w' := by
  go_enter Try.func65, Try.ntmps65
  go_wp2_with fail
  refine (rate_Right e m _).mono ?_; rintro en w1 ⟨rfl, hx⟩
  rw [h]
  have hB := (Blk.new w 80 #[.int .i64 e, .int .i64 m]).keep hx
  obtain ⟨c0, c1, z⟩ := hB.cells2
  have hb : Below w.heap.size w w1 := below_step (by go_grown) hx
  clear hx hB
  go_wp2
  refine bodyPost_ret (v := .tuple #[bp w1.heap.size, .int .i64 0]) (by simp [results, Try.results65, go_sem]) rfl ⟨_, rfl, hb.size, Blk.new _ _ _, hb.alloc hb.size _⟩
theorem rate_New_no (e m : Int) (h : rRight e m = false) (w : World) :
    Calls Try.prog 65 #[.agg #[.int .i64 e, .int .i64 m]] w fun en w' => en = .returned (.tuple #[.pointer none, .int .i64 1]) ∧ Below w.heap.size w w' := by
  go_enter Try.func65, Try.ntmps65
  go_wp2_with fail
  refine (rate_Right e m _).mono ?_; rintro en w1 ⟨rfl, hx⟩
  rw [h]
  have hb : Below w.heap.size w w1 := below_step (by go_grown) hx
  clear hx
  go_wp2
  refine bodyPost_ret (v := .tuple #[.pointer none, .int .i64 1]) (by simp [results, Try.results65, go_sem]) rfl ⟨rfl, hb⟩
section
variable {b : Nat} {e m h n : Int}
theorem rate_none_nil (w : World) : Calls Try.prog 129 #[.pointer none] w fun en w' => en = .returned (.bool true) ∧ w = w' := by
  go_enter Try.func129, Try.ntmps129
  go_wp2
  go_ret
  exact ⟨rfl, rfl⟩
theorem rate_none_zero (w : World) (hB : BK w b e 0 h n) : Calls Try.prog 129 #[bp b] w fun en w' => en = .returned (.bool true) ∧ w = w' := by
  obtain ⟨c0, c1, c2, c3, z⟩ := Blk.cells4 hB
  go_enter Try.func129, Try.ntmps129
  go_wp2
  go_ret
  exact ⟨rfl, rfl⟩
theorem rate_none (w : World) (hB : BK w b e m h n) (r : RB e m h n) : Calls Try.prog 129 #[bp b] w fun en w' => en = .returned (.bool false) ∧ w = w' := by
  obtain ⟨c0, c1, c2, c3, z⟩ := Blk.cells4 hB
  have m0 : (m == 0) = false := by have := r.m0; simp; omega
  go_enter Try.func129, Try.ntmps129
  go_wp2
  go_ret
  exact ⟨rfl, rfl⟩
theorem rate_Have (w : World) (hB : BK w b e m h n) (r : RB e m h n) : Calls Try.prog 69 #[bp b] w fun en w' => en = .returned (.int .i64 h) ∧ w = w' := by
  obtain ⟨c0, c1, c2, c3, z⟩ := Blk.cells4 hB
  go_enter Try.func69, Try.ntmps69
  go_wp2_with (go_at_call 129; refine (rate_none _ hB r).mono ?_; rintro en w' ⟨rfl, rfl⟩)
  go_ret
  exact ⟨rfl, rfl⟩
theorem rate_Now (w : World) (hB : BK w b e m h n) (r : RB e m h n) : Calls Try.prog 74 #[bp b] w fun en w' => en = .returned (.int .i64 n) ∧ w = w' := by
  obtain ⟨c0, c1, c2, c3, z⟩ := Blk.cells4 hB
  go_enter Try.func74, Try.ntmps74
  go_wp2_with (go_at_call 129; refine (rate_none _ hB r).mono ?_; rintro en w' ⟨rfl, rfl⟩)
  go_ret
  exact ⟨rfl, rfl⟩
theorem rate_Go_no (t : Int) (w : World) (hB : BK w b e m h n) (r : RB e m h n) (ht : t < n ∨ 1099511627776 < t) : Calls Try.prog 70 #[bp b, .int .i64 t] w fun en w' => en = .returned (.int .i64 5) ∧ w = w' := by
  obtain ⟨c0, c1, c2, c3, z⟩ := Blk.cells4 hB
  by_cases h1 : t < n
  · clear ht
    go_enter Try.func70, Try.ntmps70
    go_wp2_with (go_at_call 129; refine (rate_none _ hB r).mono ?_; rintro en w' ⟨rfl, rfl⟩)
    go_ret
    exact ⟨rfl, rfl⟩
  · have h2 : 1099511627776 < t := by omega
    clear ht
    go_enter Try.func70, Try.ntmps70
    go_wp2_with (go_at_call 129; refine (rate_none _ hB r).mono ?_; rintro en w' ⟨rfl, rfl⟩)
    go_ret
    exact ⟨rfl, rfl⟩
theorem rate_Take_no (k : Int) (w : World) (hB : BK w b e m h n) (r : RB e m h n) (hk : k < 0 ∨ h < k) : Calls Try.prog 71 #[bp b, .int .i64 k] w fun en w' => en = .returned (.bool false) ∧ ∃ d, w' = w.drewN d := by
  obtain ⟨c0, c1, c2, c3, z⟩ := Blk.cells4 hB
  by_cases h1 : k < 0
  · clear hk
    go_enter Try.func71, Try.ntmps71
    go_wp2_with (go_at_call 129; refine (rate_none _ hB r).mono ?_; rintro en w' ⟨rfl, rfl⟩)
    go_ret
    exact ⟨rfl, 0, rfl⟩
  · have h2 : h < k := by omega
    clear hk
    go_enter Try.func71, Try.ntmps71
    go_wp2_with (go_at_call 129; refine (rate_none _ hB r).mono ?_; rintro en w' ⟨rfl, rfl⟩)
    go_ret
    exact ⟨rfl, 0, rfl⟩
end
end Go.Proofs.Ytonbmcgfbbpnkaa
