/- Plain arithmetic of 64 bits: no program in sight. -/
import Derived.WalkKit
import Derived.WalkSpells
import Derived.WalkLawsBesides
namespace Go.Proofs.Ytpedhlmcgilliaa
open Go.RowKit

theorem xor_nat (a b : Nat) (ha : a < 18446744073709551616) (hb : b < 18446744073709551616) : bits .xor .u64 (a : Int) (b : Int) = ((a ^^^ b : Nat) : Int) := u64_xor_nat a b ha hb
theorem wrap_nat (a : Nat) : IntKind.u64.wrap (a : Int) = ((a % 18446744073709551616 : Nat) : Int) := by rw [IntKind.wrap_u64]; omega
theorem wrap_bd (a : Int) : 0 ≤ IntKind.u64.wrap a ∧ IntKind.u64.wrap a < 18446744073709551616 := by rw [IntKind.wrap_u64]; omega
theorem bits_bd (o : BinOp) (a b : Int) : 0 ≤ bits o .u64 a b ∧ bits o .u64 a b < 18446744073709551616 := by
  unfold bits; split <;> exact wrap_bd _

def mixOne (x : Int) : Int :=
  bits .xor .u64 (IntKind.u64.wrap (bits .xor .u64 (IntKind.u64.wrap (bits .xor .u64 x (x / 8589934592) * 18397679294719823053)) (IntKind.u64.wrap (bits .xor .u64 x (x / 8589934592) * 18397679294719823053) / 8589934592) * 14181476777654086739))
    (IntKind.u64.wrap (bits .xor .u64 (IntKind.u64.wrap (bits .xor .u64 x (x / 8589934592) * 18397679294719823053)) (IntKind.u64.wrap (bits .xor .u64 x (x / 8589934592) * 18397679294719823053) / 8589934592) * 14181476777654086739) / 8589934592)
def mixUn (x : Int) : Int := bits .xor .u64 x (x / 8589934592)
def mixBack (x : Int) : Int := mixUn (IntKind.u64.wrap (mixUn (IntKind.u64.wrap (mixUn x * 11291846944257947611)) * 5725274745694666757))
theorem mixOne_bd (x : Int) : 0 ≤ mixOne x ∧ mixOne x < 18446744073709551616 := bits_bd _ _ _
theorem mixUn_bd (x : Int) : 0 ≤ mixUn x ∧ mixUn x < 18446744073709551616 := bits_bd _ _ _

theorem mixOne_eq (x : Int) : mixOne x = mixUn (IntKind.u64.wrap (mixUn (IntKind.u64.wrap (mixUn x * 18397679294719823053)) * 14181476777654086739)) := rfl

def unN (n : Nat) : Nat := n ^^^ (n / 8589934592)
theorem unN_lt (n : Nat) (h : n < 18446744073709551616) : unN n < 18446744073709551616 :=
  Nat.xor_lt_two_pow (n := 64) h (Nat.lt_of_le_of_lt (Nat.div_le_self _ _) h)
theorem mixUn_nat (n : Nat) (h : n < 18446744073709551616) : mixUn (n : Int) = (unN n : Nat) := by
  unfold mixUn unN
  rw [← xor_nat n _ h (Nat.lt_of_le_of_lt (Nat.div_le_self _ _) h)]
  rfl
theorem unN_unN (n : Nat) (h : n < 18446744073709551616) : unN (unN n) = n := by
  unfold unN
  have e : ∀ m : Nat, m / 8589934592 = m >>> 33 := fun m => by rw [Nat.shiftRight_eq_div_pow]
  rw [e, e, Nat.shiftRight_xor_distrib, ← Nat.shiftRight_add]
  have z : n >>> 66 = 0 := by rw [Nat.shiftRight_eq_div_pow]; exact Nat.div_eq_of_lt (by omega)
  rw [show 33 + 33 = 66 from rfl, z, Nat.xor_zero, Nat.xor_assoc, Nat.xor_self, Nat.xor_zero]
theorem mulinv (n c d : Nat) (h : n < 18446744073709551616) (hcd : c * d % 18446744073709551616 = 1) : (n * c % 18446744073709551616) * d % 18446744073709551616 = n := by
  rw [Nat.mod_mul_mod, Nat.mul_assoc, Nat.mul_mod, hcd, Nat.mul_one, Nat.mod_mod, Nat.mod_eq_of_lt h]
theorem mixBack_one (x : Int) (h0 : 0 ≤ x) (h1 : x < 18446744073709551616) : mixBack (mixOne x) = x := by
  obtain ⟨n, rfl⟩ := Int.eq_ofNat_of_zero_le h0
  have hn : n < 18446744073709551616 := by omega
  rw [mixOne_eq, mixBack]
  have hm : ∀ (a c : Nat), IntKind.u64.wrap ((a : Int) * (c : Int)) = ((a * c % 18446744073709551616 : Nat) : Int) := fun a c => by rw [← wrap_nat, Int.natCast_mul]
  have hl : ∀ a : Nat, a % 18446744073709551616 < 18446744073709551616 := fun a => Nat.mod_lt _ (by decide)
  rw [mixUn_nat n hn]
  have g1 := hm (unN n) 18397679294719823053
  rw [show ((18397679294719823053 : Nat) : Int) = 18397679294719823053 from rfl] at g1
  rw [g1, mixUn_nat _ (hl _)]
  have g2 := hm (unN (unN n * 18397679294719823053 % 18446744073709551616)) 14181476777654086739
  rw [show ((14181476777654086739 : Nat) : Int) = 14181476777654086739 from rfl] at g2
  rw [g2, mixUn_nat _ (hl _), mixUn_nat _ (unN_lt _ (hl _)), unN_unN _ (hl _)]
  have g3 := hm (unN (unN n * 18397679294719823053 % 18446744073709551616) * 14181476777654086739 % 18446744073709551616) 11291846944257947611
  rw [show ((11291846944257947611 : Nat) : Int) = 11291846944257947611 from rfl] at g3
  rw [g3, mulinv _ _ _ (unN_lt _ (hl _)) (by decide), mixUn_nat _ (unN_lt _ (hl _)), unN_unN _ (hl _)]
  have g4 := hm (unN n * 18397679294719823053 % 18446744073709551616) 5725274745694666757
  rw [show ((5725274745694666757 : Nat) : Int) = 5725274745694666757 from rfl] at g4
  rw [g4, mulinv _ _ _ (unN_lt _ hn) (by decide), mixUn_nat _ (unN_lt _ hn), unN_unN _ hn]
theorem mixOne_0 : mixOne 0 = 0 := by decide +kernel
theorem mixOne_1 : (mixOne 1 != 0) = true := by decide +kernel
end Go.Proofs.Ytpedhlmcgilliaa
