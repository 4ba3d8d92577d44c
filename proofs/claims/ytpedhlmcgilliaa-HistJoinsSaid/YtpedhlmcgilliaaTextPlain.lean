/- The words of a text, eight bytes each, the lowest first: plain. -/
import Derived.Test.YtpedhlmcgilliaaNum
namespace Go.Proofs.Ytpedhlmcgilliaa
def word : List UInt8 → Nat
  | [] => 0
  | c :: r => c.toNat + 256 * word r
theorem word_lt : ∀ l : List UInt8, word l < 256 ^ l.length
  | [] => by simp [word]
  | c :: r => by
    have h := word_lt r
    have hc := c.toNat_lt
    simp only [word, List.length_cons, Nat.pow_succ]
    omega
theorem word_lt8 (l : List UInt8) (h : l.length ≤ 7) : word l < 72057594037927936 :=
  Nat.lt_of_lt_of_le (word_lt l) (Nat.pow_le_pow_right (n := 256) (by decide) h)
theorem word_lt9 (l : List UInt8) (h : l.length ≤ 8) : word l < 18446744073709551616 :=
  Nat.lt_of_lt_of_le (word_lt l) (Nat.pow_le_pow_right (n := 256) (by decide) h)
theorem word_snoc : ∀ (l : List UInt8) (c : UInt8), word (l ++ [c]) = word l + c.toNat * 256 ^ l.length
  | [], c => by simp [word]
  | d :: r, c => by
    have h := word_snoc r c
    simp only [List.cons_append, word, h, List.length_cons, Nat.pow_succ]
    grind
def textWords (b : List UInt8) : List Nat := (List.range ((b.length + 7) / 8)).map fun j => word ((b.drop (8 * j)).take 8)
def textInts (b : List UInt8) : List Int := (textWords b).map Int.ofNat
theorem textWords_length (b : List UInt8) : (textWords b).length = (b.length + 7) / 8 := by simp [textWords]
theorem textInts_length (b : List UInt8) : (textInts b).length = (b.length + 7) / 8 := by simp [textInts, textWords_length]
theorem textInts_at (b : List UInt8) (j : Nat) (h : 8 * j < b.length) : (textInts b)[j]? = some ((word ((b.drop (8 * j)).take 8) : Nat) : Int) := by
  have : j < (b.length + 7) / 8 := by omega
  simp [textInts, textWords, List.getElem?_map, List.getElem?_range this]
/-- The part of the word j that begins at its byte m. -/
def part (b : List UInt8) (j m : Nat) : Nat := word ((b.drop (8 * j + m)).take (8 - m))
theorem part_top (b : List UInt8) (j m : Nat) (h : b.length ≤ 8 * j + m ∨ 8 ≤ m) : part b j m = 0 := by
  unfold part
  rcases h with h | h
  · rw [List.drop_eq_nil_of_le h, List.take_nil]; rfl
  · rw [Nat.sub_eq_zero_of_le h]; rfl
theorem part_step (b : List UInt8) (j m : Nat) (c : UInt8) (h : b[8 * j + m]? = some c) (hm : m < 8) : part b j m = part b j (m + 1) * 256 + c.toNat := by
  unfold part
  have hl : 8 * j + m < b.length := by
    rcases Nat.lt_or_ge (8 * j + m) b.length with h1 | h1
    · exact h1
    · rw [List.getElem?_eq_none h1] at h; cases h
  have hc : b[8 * j + m] = c := by rw [List.getElem?_eq_getElem hl] at h; exact Option.some.inj h
  rw [List.drop_eq_getElem_cons hl, hc, show 8 - m = (8 - (m + 1)) + 1 by omega, List.take_succ_cons]
  simp only [word]
  rw [Nat.add_assoc (8 * j) m 1]
  omega
theorem part_lt (b : List UInt8) (j m : Nat) (h : 1 ≤ m) : part b j m < 72057594037927936 := word_lt8 _ (by rw [List.length_take]; omega)
theorem part_lt0 (b : List UInt8) (j m : Nat) : part b j m < 18446744073709551616 := word_lt9 _ (by rw [List.length_take]; omega)
theorem or_byte (v : Nat) (c : Nat) (hv : v < 72057594037927936) (hc : c < 256) : bits .or .u64 ((v : Int) * 256) (IntKind.u64.wrap (c : Int)) = ((v * 256 + c : Nat) : Int) := by
  have e : IntKind.u64.wrap (c : Int) = (c : Nat) := by rw [IntKind.wrap_u64]; omega
  rw [e, show ((v : Int) * 256) = ((v * 256 : Nat) : Int) by omega, u64_or_nat _ _ (by omega) (by omega), nat_join 8 (v * 256) c (by omega) (by omega)]
end Go.Proofs.Ytpedhlmcgilliaa
