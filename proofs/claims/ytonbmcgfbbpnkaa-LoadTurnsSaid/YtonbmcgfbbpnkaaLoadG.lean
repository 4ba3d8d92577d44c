/- Lists that are turned. -/
import Derived.Test.YtonbmcgfbbpnkaaAppendAny
import Derived.Test.YtonbmcgfbbpnkaaLoadD
import Derived.Deep.RegionLaw
set_option linter.unusedVariables false
namespace Go.Proofs.Ytonbmcgfbbpnkaa
open Go.RowKit
set_option maxHeartbeats 2000000
set_option maxRecDepth 100000
theorem ints_one (K : IntKind) (l : List Int) : ∀ u ∈ l.map (Value.int K), u.oneCell' = true := ints_oneCell K l
/-- A list from a place on. -/
def rot (l : List Int) (f : Int) : List Int := if f < 0 ∨ (l.length : Int) ≤ f then l else l.drop f.toNat ++ l.take f.toNat
theorem load_Turn (A : Option Addr) (n c : Nat) (l : List Int) (f : Int) (w : World) (hl : IsList w .i64 A n c l) :
    Calls Try.prog 110 #[.slice A n c, .int .i64 f] w fun e w' => ∃ A' c', e = .returned (.slice A' n c') ∧ IsList w' .i64 A' n c' (rot l f) ∧ Below w.heap.size w w' := by
  have hc := hl.cap
  have hs := hl.small
  have hr := hl.reach
  have L := hl.len
  obtain ⟨i0, hi0, hz0, hz1, hz2⟩ := info_parts Try.infoInt
  by_cases hf : f < 0 ∨ (n : Int) ≤ f
  · have e : rot l f = l := by unfold rot; rw [L, if_pos hf]
    have HL := Lib.hid L
    clear L
    have hd : decide (f < 0) = true ∨ decide (f < 0) = false ∧ decide ((n : Int) ≤ f) = true := by
      by_cases h : f < 0
      · exact .inl (decide_eq_true h)
      · exact .inr ⟨decide_eq_false h, decide_eq_true (hf.resolve_left h)⟩
    rw [e]
    clear e hf
    rcases hd with h1 | ⟨h1, h2⟩
    all_goals
      go_enter Try.func110, Try.ntmps110
      go_wp2_with (at_builtin; refine wpList_append_any _ rfl (.const (.slice none 0 0)) (.tmp 13) _ rfl w.heap.size 3 i0 _ 1 8 Try.underlying126 hi0 hz0 hz1 hz2 rfl (by omega) (.slice none 0 0) 0 [] rfl ⟨by simp, .inl ⟨rfl, rfl⟩⟩ w.heap.size A n c (l.map (Value.int .i64)) rfl hl.reads (ints_one _ _) (by simp only [maxLen]; omega) (by omega) (Nat.le_refl _) ?_; intro v1 w1 hown1 hg1 hat1)
      go_ret
      have hb1 : Below w.heap.size w w1 := (Below.refl _ _).grown hg1 (Nat.le_refl _) (by simp [Value.ownBlock])
      simp only [Nat.zero_add, List.nil_append] at hown1
      obtain ⟨A', c', rfl, hL, _⟩ := own_list hown1 hl.wf hr
      exact ⟨A', c', rfl, hL, hb1⟩
  · have hf0 : 0 ≤ f := by omega
    obtain ⟨k, rfl⟩ := Int.eq_ofNat_of_zero_le hf0
    have hkn : k < n := by omega
    have e : rot l k = l.drop k ++ l.take k := by unfold rot; rw [L, if_neg hf, Int.toNat_natCast]
    rw [e]
    clear e hf hf0
    have h1 : decide ((k : Int) < 0) = false := decide_eq_false (by omega)
    have h2 : decide (n ≤ k) = false := decide_eq_false (by omega)
    have h3 : decide ((n : Int) ≤ (k : Int)) = false := decide_eq_false (by omega)
    go_enter Try.func110, Try.ntmps110
    obtain ⟨ad, rfl, _, _, _⟩ := hl.get hkn
    have hR1 : Reads w w.heap.size 1 (some (ad.add k)) (n - k) ((l.drop k).map (Value.int .i64)) := by
      have h := hl.reads.cut (k := k) (cap := c) (by omega) hc
      rw [if_neg (by omega)] at h
      simpa [List.map_drop] using h
    have hR2 := (hl.cut (k := k) (by omega)).reads
    have hki : (k : Int) ≤ (n : Int) := by omega
    have hkc : (k : Int) ≤ (c : Int) := by omega
    have hk0 : (0 : Int) ≤ (k : Int) := by omega
    have hck : ¬ c = k := by omega
    have hck' : (c == k) = false := by simp; omega
    clear L
    go_wp2_with fail
    go_region_law (first
      | (refine step_append_any _ rfl (.const (.slice none 0 0)) (.tmp 17) _ rfl w.heap.size 3 i0 _ 1 8 Try.underlying126 hi0 hz0 hz1 hz2 rfl (by omega) (.slice none 0 0) 0 [] rfl ⟨by simp, .inl ⟨rfl, rfl⟩⟩ w.heap.size (some (ad.add k)) (n - k) (c - k) _ (by simp [Act.eval, Act.put]) hR1.drew (ints_one _ _) (by simp only [maxLen]; omega) (by omega) (Nat.le_refl _) ?_; intro v1 w1 hown1 hg1 hat1)
      | (refine step_append_any _ rfl (.tmp 18) (.tmp 21) _ rfl w.heap.size 3 i0 _ 1 8 Try.underlying126 hi0 hz0 hz1 hz2 rfl (by omega) v1 (0 + (n - k)) _ (by simp [Act.eval, Act.put]) hown1 w.heap.size (some ad) k c _ (by simp [Act.eval, Act.put]) (hR2.drew.grown hg1 (Nat.le_refl _) (by simp [Value.ownBlock])) (ints_one _ _) (by simp only [maxLen]; omega) (by omega) hg1.size ?_; intro v2 w2 hown2 hg2 hat2))
    all_goals
      have hb1 : Below w.heap.size w w1 := (Below.refl _ _).drew.grown hg1 (Nat.le_refl _) (by simp [Value.ownBlock])
      have hb2 : Below w.heap.size w w2 := hb1.grown hg2 hb1.size (fun g hg => by
        rcases hat1 with e | e <;> rw [e] at hg <;> simp [Value.ownBlock] at hg
        omega)
      have hn2 : 0 + (n - k) + k = n := by omega
      rw [hn2, List.nil_append, ← List.map_append] at hown2
      obtain ⟨A', c', rfl, hL, _⟩ := own_list hown2 (fun z hz => hl.wf z (by
        rcases List.mem_append.1 hz with h | h
        · exact List.mem_of_mem_drop h
        · exact List.mem_of_mem_take h)) hr
      clear hown1 hown2 hg1 hg2 hat1 hat2 hR1 hR2 hb1 hn2
      go_wp2
      go_ret
      exact ⟨A', c', rfl, hL, hb2⟩
theorem load_Back (i f n : Int) (h : i < 0 ∨ n ≤ i ∨ f < 0 ∨ n ≤ f) (w : World) : Calls Try.prog 111 #[.int .i64 i, .int .i64 f, .int .i64 n] w fun e w' => e = .returned (.int .i64 i) ∧ w = w' := by
  by_cases c1 : i < 0
  all_goals
    by_cases c2 : n ≤ i
    all_goals
      by_cases c3 : f < 0
      all_goals
        first
          | (have d1 : decide (i < 0) = true := decide_eq_true (by omega))
          | (have d1 : decide (i < 0) = false := decide_eq_false (by omega); first | (have d2 : decide (n ≤ i) = true := decide_eq_true (by omega)) | (have d2 : decide (n ≤ i) = false := decide_eq_false (by omega); first | (have d3 : decide (f < 0) = true := decide_eq_true (by omega)) | (have d3 : decide (f < 0) = false := decide_eq_false (by omega); have d4 : decide (n ≤ f) = true := decide_eq_true (by omega))))
        clear h c1 c2 c3
        go_enter Try.func111, Try.ntmps111
        go_wp2
        go_ret
        exact ⟨rfl, rfl⟩
theorem load_Back_in (i f n : Int) (i0 : 0 ≤ i) (i1 : i < n) (f0 : 0 ≤ f) (f1 : f < n) (n1 : n ≤ 1000000) (w : World) : Calls Try.prog 111 #[.int .i64 i, .int .i64 f, .int .i64 n] w fun e w' => e = .returned (.int .i64 ((i + f) % n)) ∧ w = w' := by
  have d1 : decide (i < 0) = false := decide_eq_false (by omega)
  have d2 : decide (n ≤ i) = false := decide_eq_false (by omega)
  have d3 : decide (f < 0) = false := decide_eq_false (by omega)
  have d4 : decide (n ≤ f) = false := decide_eq_false (by omega)
  have hn : (n == 0) = false := by simp; omega
  have hm := Int.emod_nonneg (i + f) (show n ≠ 0 by omega)
  have hm2 := Int.emod_lt_of_pos (i + f) (show 0 < n by omega)
  have k1 : IntKind.i64.wrap ((i + f) % n) = (i + f) % n := IntWalk.i64_in _ (by omega)
  go_enter Try.func111, Try.ntmps111
  go_wp2
  go_ret
  exact ⟨rfl, rfl⟩
end Go.Proofs.Ytonbmcgfbbpnkaa
