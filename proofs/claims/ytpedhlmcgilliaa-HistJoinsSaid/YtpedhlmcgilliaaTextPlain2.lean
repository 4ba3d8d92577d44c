/- One byte more: how the words of a text grow. -/
import Derived.Test.YtpedhlmcgilliaaTextPlain
namespace Go.Proofs.Ytpedhlmcgilliaa
theorem textInts_get (b : List UInt8) (j : Nat) : (textInts b)[j]? = if 8 * j < b.length then some ((word ((b.drop (8 * j)).take 8) : Nat) : Int) else none := by
  by_cases h : 8 * j < b.length
  · rw [if_pos h, textInts_at b j h]
  · rw [if_neg h]
    exact List.getElem?_eq_none (by rw [textInts_length]; omega)
def oldWord (b : List UInt8) (k q : Nat) : Nat := word ((b.take k).drop (8 * q))
theorem oldWord_lt (b : List UInt8) (k q r : Nat) (hk : k < b.length) (h : k = 8 * q + r) : oldWord b k q < 256 ^ r := by
  have := word_lt ((b.take k).drop (8 * q))
  rw [List.length_drop, List.length_take, show min k b.length - 8 * q = r by omega] at this
  exact this
theorem oldWord_at (b : List UInt8) (k q r : Nat) (hk : k < b.length) (h : k = 8 * q + r) (hr : r < 8) (h0 : 0 < r) : (textInts (b.take k))[q]? = some ((oldWord b k q : Nat) : Int) := by
  rw [textInts_get, if_pos (by rw [List.length_take]; omega), List.take_of_length_le (by rw [List.length_drop, List.length_take]; omega)]
  rfl
theorem newWord (b : List UInt8) (k q r : Nat) (c : UInt8) (hc : b[k]? = some c) (h : k = 8 * q + r) (hr : r < 8) :
    word (((b.take (k + 1)).drop (8 * q)).take 8) = oldWord b k q + c.toNat * 256 ^ r := by
  have hk : k < b.length := by
    rcases Nat.lt_or_ge k b.length with h1 | h1
    · exact h1
    · rw [List.getElem?_eq_none h1] at hc; cases hc
  have e : (b.take (k + 1)).drop (8 * q) = (b.take k).drop (8 * q) ++ [c] := by
    rw [List.take_add_one, hc, List.drop_append_of_le_length (by rw [List.length_take]; omega)]
    rfl
  rw [e, List.take_of_length_le (by simp; omega), word_snoc, List.length_drop, List.length_take, show min k b.length - 8 * q = r by omega]
  rfl
theorem otherWord (b : List UInt8) (k q j : Nat) (hj : j < q) (h : 8 * q ≤ k) : ((b.take (k + 1)).drop (8 * j)).take 8 = ((b.take k).drop (8 * j)).take 8 := by
  rw [List.drop_take, List.drop_take, List.take_take, List.take_take, Nat.min_eq_left (by omega), Nat.min_eq_left (by omega)]
theorem step_more (b : List UInt8) (k q r : Nat) (c : UInt8) (hc : b[k]? = some c) (h : k = 8 * q + r) (hr : r < 8) (h0 : 0 < r) :
    textInts (b.take (k + 1)) = (textInts (b.take k)).set q ((oldWord b k q + c.toNat * 256 ^ r : Nat) : Int) := by
  have hk : k < b.length := by
    rcases Nat.lt_or_ge k b.length with h1 | h1
    · exact h1
    · rw [List.getElem?_eq_none h1] at hc; cases hc
  apply List.ext_getElem?
  intro j
  rw [List.getElem?_set, textInts_length, textInts_get, textInts_get]
  simp only [List.length_take]
  by_cases hq : q = j
  · subst hq
    rw [if_pos rfl, if_pos (by omega), if_pos (by omega), newWord b k q r c hc h hr]
  · rw [if_neg hq]
    by_cases hj : j < q
    · rw [if_pos (by omega), if_pos (by omega), otherWord b k q j hj (by omega)]
    · rw [if_neg (by omega), if_neg (by omega)]
theorem step_new (b : List UInt8) (k q : Nat) (c : UInt8) (hc : b[k]? = some c) (h : k = 8 * q) :
    textInts (b.take (k + 1)) = (textInts (b.take k) ++ [0]).set q ((c.toNat : Nat) : Int) := by
  have hk : k < b.length := by
    rcases Nat.lt_or_ge k b.length with h1 | h1
    · exact h1
    · rw [List.getElem?_eq_none h1] at hc; cases hc
  have hl : (textInts (b.take k)).length = q := by rw [textInts_length, List.length_take]; omega
  apply List.ext_getElem?
  intro j
  rw [List.getElem?_set, List.length_append, hl, textInts_get]
  simp only [List.length_take]
  by_cases hq : q = j
  · subst hq
    rw [if_pos rfl, if_pos (by omega), if_pos (by simp), newWord b k q 0 c hc h (by decide)]
    have : oldWord b k q = 0 := by have := oldWord_lt b k q 0 hk h; simpa using this
    rw [this]
    simp
  · rw [if_neg hq]
    by_cases hj : j < q
    · rw [List.getElem?_append_left (by omega), textInts_get, if_pos (by omega), if_pos (by rw [List.length_take]; omega), otherWord b k q j hj (by omega)]
    · rw [if_neg (by omega), List.getElem?_eq_none (by simp [hl]; omega)]
theorem or_new (c : Nat) (hc : c < 256) : bits .or .u64 0 (IntKind.u64.wrap (IntKind.u64.wrap (c : Int))) = ((c : Nat) : Int) := by
  have e : IntKind.u64.wrap (c : Int) = (c : Nat) := by rw [IntKind.wrap_u64]; omega
  rw [e, e]
  exact (u64_or_nat 0 c (by omega) (by omega)).trans (by rw [Nat.zero_or])
theorem or_more (v c : Nat) (r m : Nat) (hm : m = 256 ^ r) (hr : r < 8) (hv : v < 256 ^ r) (hc : c < 256) : bits .or .u64 (v : Int) (IntKind.u64.wrap (IntKind.u64.wrap (c : Int) * (m : Int))) = ((v + c * 256 ^ r : Nat) : Int) := by
  subst hm
  have e : IntKind.u64.wrap (c : Int) = (c : Nat) := by rw [IntKind.wrap_u64]; omega
  have hp : 256 ^ r ≤ 256 ^ 7 := Nat.pow_le_pow_right (by decide) (by omega)
  have hp' : (256 : Nat) ^ 7 = 72057594037927936 := by decide
  have hb : c * 256 ^ r ≤ 255 * 256 ^ r := Nat.mul_le_mul_right _ (by omega)
  rw [e, ← Int.natCast_mul, wrap_nat, Nat.mod_eq_of_lt (by omega), u64_or_nat _ _ (by omega) (by omega), Nat.or_comm, nat_join (8 * r) _ _ ?_ ?_, Nat.add_comm]
  · rw [Nat.pow_mul, show (2 : Nat) ^ 8 = 256 from rfl]; exact Nat.mul_mod_left _ _
  · rw [Nat.pow_mul, show (2 : Nat) ^ 8 = 256 from rfl]; exact hv
end Go.Proofs.Ytpedhlmcgilliaa
