/- mix.Of and its reference: numbers mixed under a key, one by one. -/
import Derived.Test.YtpedhlmcgilliaaMixB
import Derived.Test.YtpedhlmcgilliaaOpen
set_option linter.unusedVariables false
namespace Go.Proofs.Ytpedhlmcgilliaa
open Go.RowKit
set_option maxHeartbeats 400000
def rot23 (h : Int) : Int := bits .or .u64 (IntKind.u64.wrap (h * 8388608)) (h / 2199023255552)
theorem rot23_bd (h : Int) : 0 ≤ rot23 h ∧ rot23 h < 18446744073709551616 := bits_bd _ _ _
def mixStep (h v : Int) : Int := mixOne (bits .xor .u64 (rot23 h) (mixOne (IntKind.u64.wrap (v + 11400714819323198485))))
def ofFrom (h : Int) (l : List Int) : Int := l.foldl mixStep h
def mixOf (key : Int) (l : List Int) : Int := ofFrom (mixOne (bits .xor .u64 key 11400714819323198485)) l
theorem mixStep_bd (h v : Int) : 0 ≤ mixStep h v ∧ mixStep h v < 18446744073709551616 := mixOne_bd _
theorem ofFrom_bd (l : List Int) : ∀ (h : Int), 0 ≤ h → h < 18446744073709551616 → 0 ≤ ofFrom h l ∧ ofFrom h l < 18446744073709551616 := by
  induction l with
  | nil => intro h a b; exact ⟨a, b⟩
  | cons v l ih => intro h a b; exact ih _ (mixStep_bd _ _).1 (mixStep_bd _ _).2
theorem mixOf_bd (key : Int) (l : List Int) : 0 ≤ mixOf key l ∧ mixOf key l < 18446744073709551616 := ofFrom_bd l _ (mixOne_bd _).1 (mixOne_bd _).2
theorem mixOf_take (key : Int) (l : List Int) (k : Nat) (v : Int) (h : l[k]? = some v) : mixOf key (l.take (k + 1)) = mixStep (mixOf key (l.take k)) v := by
  unfold mixOf ofFrom
  rw [List.take_add_one, h]
  simp [List.foldl_append]
theorem bits_Rot (h : Int) (w : World) (h0 : 0 ≤ h) (h1 : h < 18446744073709551616) :
    Calls Try.prog 66 #[.int .u64 h, .int .i64 23] w fun e w' => e = .returned (.int .u64 (rot23 h)) ∧ w = w' := by
  have e : bits .and .u64 23 63 = 23 := by decide +kernel
  go_enter Try.func66, Try.ntmps66
  go_wp2
  go_ret
  exact ⟨rfl, rfl⟩
/-- The element k of a list of uint64 that a slice holds, where it lies. -/
theorem IsList.at_ {w : World} {K : IntKind} {A : Option Addr} {n c : Nat} {l : List Int} (h : IsList w K A n c l) {k : Nat} (hk : k < n) :
    ∃ ad v, A = some ad ∧ ad.block < w.heap.size ∧ l[k]? = some v ∧ (Lit.int K v).wf = true ∧ w.cell? (ad.add k) = some (.int K v) := by
  obtain ⟨ad, u, ha, hb, hx, hc⟩ := h.reads.at_ hk
  rw [List.getElem?_map] at hx
  obtain ⟨v, hv, rfl⟩ := Option.map_eq_some_iff.1 hx
  exact ⟨ad, v, ha, hb, hv, h.wf v (List.mem_of_getElem? hv), hc⟩
theorem ref_Of (key : Int) (A : Option Addr) (n c : Nat) (l : List Int) (w : World) (h0 : 0 ≤ key) (h1 : key < 18446744073709551616) (hl : IsList w .u64 A n c l) :
    Calls Try.prog 49 #[.int .u64 key, .slice A n c] w fun e w' => e = .returned (.int .u64 (mixOf key l)) ∧ w = w' := by
  have bx := bits_bd .xor key 11400714819323198485
  obtain ⟨bx0, bx1⟩ := bx
  have hn := hl.reach
  have hcap := hl.cap
  have hsm := hl.small
  have hlen := Lib.hid hl.len
  go_enter Try.func49, Try.ntmps49
  go_wp2_with (go_at_call 68; refine (ref_One _ _ (by omega) (by omega)).mono ?_; rintro e w' ⟨rfl, rfl⟩)
  go_loop [5, 6] (fun h i => ∃ k : Nat, k ≤ n ∧ i = .int .i64 k ∧ h = .int .u64 (mixOf key (l.take k))) (fun _ i => n - (intOf i).toNat)
  case atStart => exact ⟨0, Nat.zero_le _, rfl, by simp [mixOf, ofFrom]⟩
  case round =>
    obtain ⟨k, hk, rfl, rfl⟩ := hrel
    have bd := mixOf_bd key (l.take k)
    obtain ⟨b1, b2⟩ := bd
    by_cases hlt : k < n
    · obtain ⟨ad, v, rfl, hb, hv, hwf, hcell⟩ := hl.at_ hlt
      obtain ⟨v0, v1⟩ := u64_of_wf hwf
      have HS := Lib.hid (mixOf_take key l k v hv)
      have bw := wrap_bd (v + 11400714819323198485)
      obtain ⟨bw1, bw2⟩ := bw
      clear hv hwf
      go_wp2_with fail
      refine (ref_One _ _ (by omega) (by omega)).mono ?_; rintro e w' ⟨rfl, rfl⟩
      go_wp2_with fail
      refine (ref_One _ _ (bits_bd _ _ _).1 (bits_bd _ _ _).2).mono ?_; rintro e w' ⟨rfl, rfl⟩
      go_wp2
      go_round
      case rel => exact ⟨k + 1, by omega, by go_num, by rw [HS.out]; rfl⟩
      case measure => simp [intOf]; omega
    · go_wp2
      go_ret
      exact ⟨congrArg (fun z => Ending.returned (Value.int .u64 (mixOf key z))) (List.take_of_length_le (by have := hlen.out; omega)), rfl⟩
theorem mix_Of (key : Int) (A : Option Addr) (n c : Nat) (l : List Int) (w : World) (h0 : 0 ≤ key) (h1 : key < 18446744073709551616) (hl : IsList w .u64 A n c l) :
    Calls Try.prog 47 #[.int .u64 key, .slice A n c] w fun e w' => e = .returned (.int .u64 (mixOf key l)) ∧ w = w' := by
  have bx := bits_bd .xor key 11400714819323198485
  obtain ⟨bx0, bx1⟩ := bx
  have hn := hl.reach
  have hcap := hl.cap
  have hsm := hl.small
  have hlen := Lib.hid hl.len
  go_enter Try.func47, Try.ntmps47
  go_wp2_with (go_at_call 65; refine (mix_One _ _ (by omega) (by omega)).mono ?_; rintro e w' ⟨rfl, rfl⟩)
  go_loop [5, 13] (fun h i => ∃ k : Nat, k ≤ n ∧ i = .int .i64 k ∧ h = .int .u64 (mixOf key (l.take k))) (fun _ i => n - (intOf i).toNat)
  case atStart => exact ⟨0, Nat.zero_le _, rfl, by simp [mixOf, ofFrom]⟩
  case round =>
    obtain ⟨k, hk, rfl, rfl⟩ := hrel
    have bd := mixOf_bd key (l.take k)
    obtain ⟨b1, b2⟩ := bd
    by_cases hlt : k < n
    · obtain ⟨ad, v, rfl, hb, hv, hwf, hcell⟩ := hl.at_ hlt
      obtain ⟨v0, v1⟩ := u64_of_wf hwf
      have HS := Lib.hid (mixOf_take key l k v hv)
      have bw := wrap_bd (v + 11400714819323198485)
      obtain ⟨bw1, bw2⟩ := bw
      clear hv hwf
      go_wp2_with fail
      refine (bits_Rot _ _ (by omega) (by omega)).mono ?_; rintro e w' ⟨rfl, rfl⟩
      go_wp2_with fail
      refine (mix_One _ _ (by omega) (by omega)).mono ?_; rintro e w' ⟨rfl, rfl⟩
      go_wp2_with fail
      refine (mix_One _ _ (bits_bd _ _ _).1 (bits_bd _ _ _).2).mono ?_; rintro e w' ⟨rfl, rfl⟩
      go_wp2
      go_round
      case rel => exact ⟨k + 1, by omega, by go_num, by rw [HS.out]; rfl⟩
      case measure => simp [intOf]; omega
    · go_wp2
      go_ret
      exact ⟨congrArg (fun z => Ending.returned (Value.int .u64 (mixOf key z))) (List.take_of_length_le (by have := hlen.out; omega)), rfl⟩
end Go.Proofs.Ytpedhlmcgilliaa
