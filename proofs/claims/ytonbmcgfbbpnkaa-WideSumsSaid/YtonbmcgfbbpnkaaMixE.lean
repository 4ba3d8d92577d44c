/- mix.Text: a text mixed under a key. -/
import Derived.Test.YtonbmcgfbbpnkaaMixD
import Derived.Test.YtonbmcgfbbpnkaaTextPlain
set_option linter.unusedVariables false
namespace Go.Proofs.Ytonbmcgfbbpnkaa
open Go.RowKit
set_option maxHeartbeats 400000
def mixText (key : Int) (b : List UInt8) : Int := mixOne (bits .xor .u64 (mixOf key (textInts b)) (b.length : Nat))
set_option maxRecDepth 100000 in
theorem mix_Text (key : Int) (s : ByteArray) (w : World) (h0 : 0 ≤ key) (h1 : key < 18446744073709551616) (hs : (s.size : Int) ≤ 140737488351232) :
    Calls Try.prog 57 #[.int .u64 key, .string s] w fun e w' => e = .returned (.int .u64 (mixText key s.data.toList)) ∧ w = w' := by
  have bx := bits_bd .xor key 11400714819323198485
  obtain ⟨bx0, bx1⟩ := bx
  have hsz0 : s.data.toList.length = s.size := Array.length_toList
  generalize hb : s.data.toList = b at *
  have HB := Lib.hid hb
  have HZ := Lib.hid hsz0
  clear hb hsz0
  go_enter Try.func57, Try.ntmps57
  go_wp2_with (go_at_call 46; refine (mix_One _ _ (by omega) (by omega)).mono ?_; rintro e w' ⟨rfl, rfl⟩)
  go_loop [5, 6] (fun h i => ∃ j : Nat, 8 * j ≤ s.size + 7 ∧ i = .int .i64 ((8 * j : Nat) : Int) ∧ h = .int .u64 (mixOf key ((textInts b).take j))) (fun _ i => s.size + 7 - (intOf i).toNat)
  case atStart => exact ⟨0, by omega, rfl, by simp [mixOf, ofFrom]⟩
  case round =>
    obtain ⟨j, hj, rfl, rfl⟩ := hrel
    have bd := mixOf_bd key ((textInts b).take j)
    obtain ⟨b1, b2⟩ := bd
    clear bx0 bx1 h0 h1
    by_cases hlt : 8 * j < s.size
    · go_wp2
      go_loop [7, 8] (fun v i => ∃ m : Nat, 8 * j + m ≤ s.size ∧ m ≤ 8 ∧ i = .int .i64 (8 * (j : Int) + m - 1) ∧ v = .int .u64 (part b j m : Nat)) (fun _ i => (intOf i + 1).toNat)
      case atStart =>
        have hz := HZ.out
        rcases Nat.lt_or_ge s.size (8 * j + 8) with h | h
        · refine ⟨s.size - 8 * j, by omega, by omega, ?_, ?_⟩
          · congr 1
            omega
          · rw [part_top b j _ (.inl (by omega))]; rfl
        · refine ⟨8, by omega, by omega, ?_, ?_⟩
          · congr 1
            omega
          · rw [part_top b j _ (.inr (by omega))]; rfl
      case round =>
        obtain ⟨m, hm1, hm2, rfl, rfl⟩ := hrel
        cases m with
        | zero =>
          have pb := part_lt0 b j 0
          have HP := Lib.hid (textInts_at b j (by rw [HZ.out]; omega))
          have HS := Lib.hid (mixOf_take key (textInts b) j _ HP.out)
          go_wp2_with fail
          refine (bits_Rot _ _ (by omega) (by omega)).mono ?_; rintro e w' ⟨rfl, rfl⟩
          go_wp2_with fail
          refine (mix_One _ _ (wrap_bd _).1 (wrap_bd _).2).mono ?_; rintro e w' ⟨rfl, rfl⟩
          go_wp2_with fail
          refine (mix_One _ _ (bits_bd _ _ _).1 (bits_bd _ _ _).2).mono ?_; rintro e w' ⟨rfl, rfl⟩
          go_wp2
          go_round
          case rel => exact ⟨j + 1, by omega, by go_num, by rw [HS.out]; rfl⟩
          case measure => simp [intOf]; omega
        | succ m =>
          have hk : 8 * j + m < s.size := by omega
          have HC := Lib.hid (show b[8 * j + m]? = some s[8 * j + m] by rw [← HB.out]; simp [hk]; rfl)
          have HS := Lib.hid (part_step b j m _ HC.out (by omega))
          have HO := Lib.hid (or_byte (part b j (m + 1)) (s[8 * j + m]).toNat (part_lt b j (m + 1) (by omega)) (UInt8.toNat_lt _))
          have pb := part_lt b j (m + 1) (by omega)
          have e : (8 * (j : Int) + ((m + 1 : Nat) : Int) - 1) = ((8 * j + m : Nat) : Int) := by omega
          rw [e]
          clear e
          go_wp2
          go_round
          case rel => exact ⟨m, by omega, by omega, by go_num, by rw [HS.out]; exact congrArg (Value.int .u64) HO.out⟩
          case measure => simp [intOf]; omega
    · go_wp2_with fail
      refine (mix_One _ _ (bits_bd _ _ _).1 (bits_bd _ _ _).2).mono ?_; rintro e w' ⟨rfl, rfl⟩
      go_wp2
      go_ret
      refine ⟨?_, rfl⟩
      show Ending.returned (.int .u64 (mixOne _)) = _
      rw [List.take_of_length_le (by rw [textInts_length]; have := HZ.out; omega)]
      unfold mixText
      rw [HZ.out]
end Go.Proofs.Ytonbmcgfbbpnkaa
