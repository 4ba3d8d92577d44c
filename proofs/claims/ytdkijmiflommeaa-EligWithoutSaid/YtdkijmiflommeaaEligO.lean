/- A set without the hosts below some nodes, in plain Lean. -/
import Derived.Test.YtdkijmiflommeaaEligN
import Derived.Test.YtdkijmiflommeaaEligF
set_option linter.unusedVariables false
namespace Go.Proofs.Ytdkijmiflommeaa
open Go.RowKit
set_option maxHeartbeats 4000000
set_option maxRecDepth 100000
/-- Those hosts that may be picked and are not below one of the nodes. -/
def keepN (l : List Nd) (hosts nodes : List Int) : List Int := (picks l hosts).filter fun h => !(nodes.any (outN l h))
theorem picks_range (l : List Nd) (hosts : List Int) : picks l hosts = ((List.range l.length).filter (pk l hosts)).map fun j : Nat => (j : Int) := by
  rw [← pkTo_all]; rfl
theorem keepN_range (l : List Nd) (hosts nodes : List Int) : keepN l hosts nodes = ((List.range l.length).filter fun j => pk l hosts j && !(nodes.any (outN l (j : Int)))).map fun j : Nat => (j : Int) := by
  unfold keepN
  rw [picks_range, List.filter_map, List.filter_filter]
  congr 1
  apply List.filter_congr
  intro j _
  simp only [Function.comp_apply]
  rw [Bool.and_comm]
theorem keepN_contains (l : List Nd) (hosts nodes : List Int) (j : Nat) (hj : j < l.length) : (keepN l hosts nodes).contains (j : Int) = (pk l hosts j && !(nodes.any (outN l (j : Int)))) := by
  rw [keepN_range]
  apply Bool.eq_iff_iff.2
  rw [List.contains_iff_mem, List.mem_map]
  constructor
  · rintro ⟨k, hk, e⟩
    obtain rfl : k = j := by omega
    exact (List.mem_filter.1 hk).2
  · intro h
    exact ⟨j, List.mem_filter.2 ⟨List.mem_range.2 hj, h⟩, rfl⟩
theorem picks_keepN (l : List Nd) (hosts nodes : List Int) : picks l (keepN l hosts nodes) = keepN l hosts nodes := by
  rw [picks_range]
  conv => rhs; rw [keepN_range]
  congr 1
  apply List.filter_congr
  intro j hj
  rw [List.mem_range] at hj
  have hc := keepN_contains l hosts nodes j hj
  have hp : pk l (keepN l hosts nodes) j = ((l.getD j nd0).kind == 4 && decide (0 < (l.getD j nd0).weight) && (keepN l hosts nodes).contains (j : Int)) := rfl
  rw [hp, hc]
  have hq : pk l hosts j = ((l.getD j nd0).kind == 4 && decide (0 < (l.getD j nd0).weight) && hosts.contains (j : Int)) := rfl
  rw [hq]
  cases (l.getD j nd0).kind == 4 <;> cases decide (0 < (l.getD j nd0).weight) <;> simp
/-- What the law asks of a host and a node. -/
theorem outN_law {l : List Nd} (ht : Tall l) (h n : Int) : outN l h n = (decide (0 ≤ n ∧ n < l.length) && belF l n 4 h) := by
  unfold outN
  by_cases hn : 0 ≤ n ∧ n < l.length
  · rw [bel_four ht n hn.1 hn.2, decide_eq_true hn]
    have hd := tall_head ht n.toNat (by omega)
    rw [← ndAt_in hn.1] at hd
    have := hd.kind0
    rw [decide_eq_true (by omega)]
  · rw [decide_eq_false hn, ndAt_out l n (by omega)]
    rfl
def kpTo (p : Int → Bool) (H : List Int) (i : Nat) : List Int := (H.take i).filter fun h => !p h
theorem kpTo_step (p : Int → Bool) (H : List Int) (i : Nat) (hi : i < H.length) : kpTo p H (i + 1) = kpTo p H i ++ if p (H.getD i 0) = true then [] else [H.getD i 0] := by
  unfold kpTo
  rw [take_stepI H i hi, List.filter_append]
  congr 1
  by_cases h : p (H.getD i 0) = true
  · rw [if_pos h, filt_no h]
  · rw [if_neg h, filt_yes (by simpa using h)]
theorem kpTo_le (p : Int → Bool) (H : List Int) (i : Nat) : (kpTo p H i).length ≤ i := by
  unfold kpTo
  exact Nat.le_trans (List.length_filter_le _ _) (by rw [List.length_take]; omega)
theorem kpTo_all (p : Int → Bool) (H : List Int) : kpTo p H H.length = H.filter fun h => !p h := by
  unfold kpTo; rw [List.take_length]
theorem kpTo_prefix (p : Int → Bool) (H : List Int) (i : Nat) : ∀ d, i + d ≤ H.length → kpTo p H i <+: kpTo p H (i + d)
  | 0, _ => List.prefix_refl _
  | d + 1, h => by
    rw [show i + (d + 1) = (i + d) + 1 by omega, kpTo_step p H (i + d) (by omega)]
    exact (kpTo_prefix p H i d (by omega)).trans (List.prefix_append _ _)
theorem kpTo_at {p : Int → Bool} {H : List Int} {i : Nat} (hi : i < H.length) (h : p (H.getD i 0) = false) : (kpTo p H i).length < (H.filter fun h => !p h).length ∧ (H.filter fun h => !p h).getD (kpTo p H i).length 0 = H.getD i 0 := by
  have hp := kpTo_prefix p H (i + 1) (H.length - (i + 1)) (by omega)
  rw [show i + 1 + (H.length - (i + 1)) = H.length by omega, kpTo_all, kpTo_step p H i hi, if_neg (by rw [h]; simp)] at hp
  obtain ⟨t, ht⟩ := hp
  rw [← ht]
  refine ⟨by simp, ?_⟩
  rw [List.getD_eq_getElem?_getD]
  simp
end Go.Proofs.Ytdkijmiflommeaa
