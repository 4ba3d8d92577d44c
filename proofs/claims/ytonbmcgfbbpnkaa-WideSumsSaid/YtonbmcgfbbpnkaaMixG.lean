/- The reference's Text; the law MixLists. -/
import Derived.Test.YtonbmcgfbbpnkaaMixF
set_option linter.unusedVariables false
namespace Go.Proofs.Ytonbmcgfbbpnkaa
open Go.RowKit
set_option maxHeartbeats 400000
theorem IsList.take {w : World} {K : IntKind} {A : Option Addr} {n c k : Nat} {l : List Int} (h : IsList w K A n c l) (hk : k ≤ n) : IsList w K A k c (l.take k) where
  reads := by have := h.reads.take hk; rwa [Nat.mul_one, ← List.map_take] at this
  len := by rw [List.length_take, h.len]; omega
  cap := by have := h.cap; omega
  small := h.small
  wf := fun z hz => h.wf z (List.mem_of_mem_take hz)
  reach := by have := h.reach; omega
theorem IsList.below {w w' : World} {K : IntKind} {A : Option Addr} {n c : Nat} {l : List Int} (h : IsList w K A n c l) (hb : Below w.heap.size w w') : IsList w' K A n c l where
  reads := (h.reads.below hb).more hb.size
  len := h.len
  cap := h.cap
  small := h.small
  wf := h.wf
  reach := h.reach
theorem ref_Text (key : Int) (s : ByteArray) (w : World) (h0 : 0 ≤ key) (h1 : key < 18446744073709551616) (hs : (s.size : Int) ≤ 140737488351232) :
    Calls Try.prog 58 #[.int .u64 key, .string s] w fun e w' => e = .returned (.int .u64 (mixText key s.data.toList)) ∧ Below w.heap.size w w' := by
  have hsz0 : s.data.toList.length = s.size := Array.length_toList
  have hT : mixText key s.data.toList = mixOne (bits .xor .u64 (mixOf key (textInts s.data.toList)) (s.size : Nat)) := by unfold mixText; rw [hsz0]
  rw [hT]
  generalize hb : s.data.toList = b at *
  have HB := Lib.hid hb
  clear hb hsz0 hT
  go_enter Try.func58, Try.ntmps58
  go_wp2_with fail
  refine (ref_Words s _ hs).mono ?_; rintro e w1 ⟨A, n, c, rfl, hl, hb⟩
  rw [HB.out] at hl
  go_wp2_with fail
  refine (ref_Of _ _ _ _ _ _ h0 h1 hl).mono ?_; rintro e w' ⟨rfl, rfl⟩
  go_wp2_with fail
  refine (ref_One _ _ (bits_bd _ _ _).1 (bits_bd _ _ _).2).mono ?_; rintro e w' ⟨rfl, rfl⟩
  go_wp2
  go_ret
  exact ⟨rfl, hb⟩
theorem mixLists_walk (w : World) (key : Int) (h0 : 0 ≤ key) (h1 : key < 18446744073709551616) (A : Option Addr) (n c : Nat) (l : List Int) (hl : IsList w .u64 A n c l) (s : ByteArray) (hs0 : s.size ≤ maxLen) :
    Calls Try.prog 10 #[.int .u64 key, .slice A n c, .string s] w fun e w' => e = .returned (.bool true) ∧ Below w.heap.size w w' := by
  have hs : (s.size : Int) ≤ 9223372036854775807 := by unfold maxLen at hs0; omega
  clear hs0
  have hcap := hl.cap
  have hsm := hl.small
  by_cases g1 : 40 < n
  · have hl' := hl.take (k := 40) (by omega)
    clear hl
    by_cases g2 : 200 < s.size
    · have hx : ((s.extract 0 200).size : Int) ≤ 140737488351232 := by rw [ByteArray.size_extract]; omega
      go_enter Try.func10, Try.ntmps10
      go_wp2_with (first
        | (go_at_call 55; refine (mix_Of _ _ _ _ _ _ h0 h1 hl').mono ?_; rintro e w' ⟨rfl, rfl⟩)
        | (go_at_call 56; refine (ref_Of _ _ _ _ _ _ h0 h1 hl').mono ?_; rintro e w' ⟨rfl, rfl⟩)
        | (go_at_call 57; refine (mix_Text _ _ _ h0 h1 hx).mono ?_; rintro e w' ⟨rfl, rfl⟩)
        | (go_at_call 58; refine (ref_Text _ _ _ h0 h1 hx).mono ?_; rintro e w1 ⟨rfl, hb1⟩)
        | (go_at_call 49; refine (mix_awake _).mono ?_; rintro e w' ⟨rfl, rfl⟩))
      go_ret
      exact ⟨rfl, hb1⟩
    · have hx : (s.size : Int) ≤ 140737488351232 := by omega
      go_enter Try.func10, Try.ntmps10
      go_wp2_with (first
        | (go_at_call 55; refine (mix_Of _ _ _ _ _ _ h0 h1 hl').mono ?_; rintro e w' ⟨rfl, rfl⟩)
        | (go_at_call 56; refine (ref_Of _ _ _ _ _ _ h0 h1 hl').mono ?_; rintro e w' ⟨rfl, rfl⟩)
        | (go_at_call 57; refine (mix_Text _ _ _ h0 h1 hx).mono ?_; rintro e w' ⟨rfl, rfl⟩)
        | (go_at_call 58; refine (ref_Text _ _ _ h0 h1 hx).mono ?_; rintro e w1 ⟨rfl, hb1⟩)
        | (go_at_call 49; refine (mix_awake _).mono ?_; rintro e w' ⟨rfl, rfl⟩))
      go_ret
      exact ⟨rfl, hb1⟩
  · by_cases g2 : 200 < s.size
    · have hx : ((s.extract 0 200).size : Int) ≤ 140737488351232 := by rw [ByteArray.size_extract]; omega
      go_enter Try.func10, Try.ntmps10
      go_wp2_with (first
        | (go_at_call 55; refine (mix_Of _ _ _ _ _ _ h0 h1 hl).mono ?_; rintro e w' ⟨rfl, rfl⟩)
        | (go_at_call 56; refine (ref_Of _ _ _ _ _ _ h0 h1 hl).mono ?_; rintro e w' ⟨rfl, rfl⟩)
        | (go_at_call 57; refine (mix_Text _ _ _ h0 h1 hx).mono ?_; rintro e w' ⟨rfl, rfl⟩)
        | (go_at_call 58; refine (ref_Text _ _ _ h0 h1 hx).mono ?_; rintro e w1 ⟨rfl, hb1⟩)
        | (go_at_call 49; refine (mix_awake _).mono ?_; rintro e w' ⟨rfl, rfl⟩))
      go_ret
      exact ⟨rfl, hb1⟩
    · have hx : (s.size : Int) ≤ 140737488351232 := by omega
      go_enter Try.func10, Try.ntmps10
      go_wp2_with (first
        | (go_at_call 55; refine (mix_Of _ _ _ _ _ _ h0 h1 hl).mono ?_; rintro e w' ⟨rfl, rfl⟩)
        | (go_at_call 56; refine (ref_Of _ _ _ _ _ _ h0 h1 hl).mono ?_; rintro e w' ⟨rfl, rfl⟩)
        | (go_at_call 57; refine (mix_Text _ _ _ h0 h1 hx).mono ?_; rintro e w' ⟨rfl, rfl⟩)
        | (go_at_call 58; refine (ref_Text _ _ _ h0 h1 hx).mono ?_; rintro e w1 ⟨rfl, hb1⟩)
        | (go_at_call 49; refine (mix_awake _).mono ?_; rintro e w' ⟨rfl, rfl⟩))
      go_ret
      exact ⟨rfl, hb1⟩
end Go.Proofs.Ytonbmcgfbbpnkaa
