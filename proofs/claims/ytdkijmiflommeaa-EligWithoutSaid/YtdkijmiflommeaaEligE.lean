/- The example; EligWeighs. -/
import Derived.Test.YtdkijmiflommeaaEligD
set_option linter.unusedVariables false
namespace Go.Proofs.Ytdkijmiflommeaa
open Go.RowKit
set_option maxHeartbeats 8000000
set_option maxRecDepth 100000
def elNodes : List Nd := [⟨⟨#[108]⟩, 1, -1, 0, false, 0, 0⟩, ⟨⟨#[122]⟩, 2, 0, 9, false, 0, 0⟩, ⟨⟨#[114]⟩, 3, 1, 0, false, 0, 0⟩, ⟨⟨#[104]⟩, 4, 2, 5, false, 0, 0⟩]
theorem el_tall : Tall elNodes := by
  intro j hj
  have hj4 : j < 4 := hj
  rcases (by omega : j = 0 ∨ j = 1 ∨ j = 2 ∨ j = 3) with rfl | rfl | rfl | rfl <;> (unfold okAt; decide +kernel)
theorem el_wf : ∀ x ∈ elNodes, x.Wf := by
  intro x hx
  simp [elNodes] at hx
  rcases hx with rfl | rfl | rfl | rfl <;> constructor <;> decide
theorem el_w0 : atI (wt elNodes []) 4 1 = 0 := by decide +kernel
theorem el_w1 : atI (wt elNodes [3]) 4 1 = 9 := by decide +kernel
theorem el_w2 : atI (wt elNodes [3]) 4 2 = 5 := by decide +kernel
theorem el_h0 : atB (hs elNodes [3]) 4 0 = true := by decide +kernel
theorem law23_awake (w : World) : Calls Try.prog 46 #[] w fun e w' => e = .returned (.bool true) ∧ Below w.heap.size w w' := by
  go_enter Try.func46, Try.ntmps46
  go_wp2_with fail
  have hB := Blk.new w 34 ⟨flat elNodes⟩
  have hI : IsNodes (w.alloc (.cells ⟨flat elNodes⟩ 34)) (some ⟨w.heap.size, 0, none⟩) 4 4 elNodes := ⟨lit_reads hB 7 4 rfl, rfl, Nat.le_refl _, by decide, by decide, el_wf⟩
  have hW : Below w.heap.size w (w.alloc (.cells ⟨flat elNodes⟩ 34)) := (Below.refl _ _).alloc (Nat.le_refl _) _
  refine (tree_New _ 4 4 elNodes _ hI).mono ?_
  rintro e w1 ⟨hN, hx⟩
  have hW1 := below_step hW hx
  rcases hN with ⟨kf, hkf, hok, hbad, rfl⟩ | ⟨hok, b, hb, rfl, hTA⟩
  · exact absurd (el_tall kf hkf) hbad
  · have hT := hTA.reads el_wf (by decide)
    clear hok hI hB hx hTA hb hW
    go_wp2_with fail
    refine (elig_New hT el_tall none 0 0 [] (isList_nil _ _)).mono ?_; rintro e w2 ⟨g, gw, gs, vH, rfl, hS, hx2⟩
    have hW2 := below_step hW1 hx2
    have hT2 := hT.keep hx2
    go_wp2_with fail
    have hP := Blk.new w2 3 #[.int .i64 3]
    have hx3 : Below w2.heap.size w2 (w2.alloc (.cells #[.int .i64 3] 3)) := (Below.refl _ _).alloc (Nat.le_refl _) _
    have hI3 : IsList (w2.alloc (.cells #[.int .i64 3] 3)) .i64 (some ⟨w2.heap.size, 0, none⟩) 1 1 [3] := ⟨lit_reads hP 1 1 rfl, rfl, Nat.le_refl _, by decide, by intro z hz; simp at hz; subst hz; decide, by decide⟩
    refine (elig_New (hT2.keep hx3) el_tall _ 1 1 [3] hI3).mono ?_; rintro e w4 ⟨g', gw', gs', vH', rfl, hS', hx4⟩
    have hSk := (hS.keep hx3).keep hx4
    have hW4 := below_step (below_step hW2 hx3) hx4
    clear hS hI3 hP hx3 hx4 hx2 hT hT2 hW1 hW2
    have E1 := set_Weight hSk 1
    have E2 := set_Weight hS' 1
    have E3 := set_Weight hS' 2
    have E4 := set_Has hS' 0
    rw [show elNodes.length = 4 from rfl] at E1 E2 E3 E4
    rw [el_w0] at E1
    rw [el_w1] at E2
    rw [el_w2] at E3
    rw [el_h0] at E4
    go_wp2_with fail
    refine E1.mono ?_; rintro e w' ⟨rfl, rfl⟩
    go_wp2_with fail
    refine E2.mono ?_; rintro e w' ⟨rfl, rfl⟩
    go_wp2_with fail
    refine E3.mono ?_; rintro e w' ⟨rfl, rfl⟩
    go_wp2_with fail
    refine E4.mono ?_; rintro e w' ⟨rfl, rfl⟩
    go_wp2
    go_ret
    exact ⟨rfl, hW4⟩
/-- Those of the first k nodes that are hosts that may be picked. -/
def pkTo (l : List Nd) (hosts : List Int) (k : Nat) : List Int := ((List.range k).filter (pk l hosts)).map fun j : Nat => (j : Int)
theorem pkTo_step (l : List Nd) (hosts : List Int) (k : Nat) : pkTo l hosts (k + 1) = pkTo l hosts k ++ if pk l hosts k = true then [(k : Int)] else [] := by
  unfold pkTo
  rw [List.range_succ, List.filter_append, List.map_append]
  congr 1
  by_cases h : pk l hosts k = true <;> simp [List.filter, h]
theorem pkTo_all (l : List Nd) (hosts : List Int) : pkTo l hosts l.length = picks l hosts := by
  unfold pkTo picks idx
  rw [List.filter_map, List.filter_filter]
  congr 1
  apply List.filter_congr
  intro k _
  simp only [Function.comp_apply, Int.toNat_natCast]
  cases h : pk l hosts k with
  | false => rfl
  | true => have := (pk_host h).1; unfold isK; rw [this]; rfl
theorem pkTo_le (l : List Nd) (hosts : List Int) (k : Nat) : (pkTo l hosts k).length ≤ k := by
  unfold pkTo
  rw [List.length_map]
  exact Nat.le_trans (List.length_filter_le _ _) (by rw [List.length_range]; exact Nat.le_refl _)
theorem pkTo_prefix (l : List Nd) (hosts : List Int) (k : Nat) : ∀ d, pkTo l hosts k <+: pkTo l hosts (k + d)
  | 0 => List.prefix_refl _
  | d + 1 => by
    rw [show k + (d + 1) = (k + d) + 1 by omega, pkTo_step]
    exact (pkTo_prefix l hosts k d).trans (List.prefix_append _ _)
theorem pkTo_at {l : List Nd} {hosts : List Int} {k n : Nat} (hk : k < n) (h : pk l hosts k = true) : (pkTo l hosts k).length < (pkTo l hosts n).length ∧ (pkTo l hosts n).getD (pkTo l hosts k).length 0 = k := by
  have hp := pkTo_prefix l hosts (k + 1) (n - (k + 1))
  rw [show k + 1 + (n - (k + 1)) = n by omega, pkTo_step, if_pos h] at hp
  obtain ⟨t, ht⟩ := hp
  rw [← ht]
  refine ⟨by simp, ?_⟩
  rw [List.getD_eq_getElem?_getD]
  simp
end Go.Proofs.Ytdkijmiflommeaa
