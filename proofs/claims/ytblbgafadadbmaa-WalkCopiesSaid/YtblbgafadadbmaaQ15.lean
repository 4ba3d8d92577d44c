/- Lemmas for the claim's proof: TableB MixA MixB MixD WideA WideB WideC WideD WideE WideG Pairs. -/
import Derived.Test.YtblbgafadadbmaaRows
import Derived.WalkKit
import Derived.WalkSpells
import Derived.WalkLawsBesides
import Derived.Deep.RegionHeld3
import Derived.Deep.QuietTactic
import Derived.BigQuiet
import Derived.RowKit3
import Derived.Handy
import Derived.Deep.Slices
import Derived.Deep.Fields
import Derived.ChangeSame
import Derived.Test.YtblbgafadadbmaaQ01
import Derived.Test.YtblbgafadadbmaaQ13
import Derived.Test.YtblbgafadadbmaaQ14
section
/- logs.Table: doSlow, Do, At. -/
set_option linter.unusedVariables false
namespace Go.Proofs.Ytblbgafadadbmaa
open Go.RowKit
set_option maxHeartbeats 2000000
set_option maxRecDepth 100000
/-- A table that has been made. -/
def Filled (w : World) (b : Nat) (T : K6) : Prop := ∃ g, Blk w b T.t #[.int .u32 1, .int .i32 0, .int .u32 0, .slice (some ⟨g, 0, none⟩) 65536 65536, T.fa, T.se] ∧ w.rowIs g 24 65536 drawRow ∧ g ≠ b
/-- A table. -/
def Tab (w : World) (b : Nat) (T : K6) : Prop := Blk w b T.t #[.int .u32 0, .int .i32 0, .int .u32 0, .slice none 0 0, T.fa, T.se] ∨ Filled w b T
theorem bool_load (a : Addr) (d : Int) (r : Bool) (hr : (d != 0) = r) (w : World) (hc : w.cell? a = some (.int .u32 d)) :
    Calls Try.prog 97 #[.pointer (some a)] w fun e w' => e = .returned (.bool r) ∧ w = w' := by
  have hl := once_load a d w hc
  go_enter Try.func97, Try.ntmps97
  go_wp2
  go_ret
  exact ⟨by rw [← hr]; rfl, rfl⟩
theorem once_slow (b : Nat) (T : K6) (x2 x3 : Value) (w : World) (hB : Blk w b T.t #[.int .u32 0, .int .i32 0, x2, x3, T.fa, T.se]) :
    Calls Try.prog 98 #[.pointer (some ⟨b, 0, none⟩), .func (.func 95) #[.pointer (some ⟨b, 0, none⟩)] #[]] w fun e w' => e = .returned (.tuple #[]) ∧
      ∃ g, Blk w' b T.t #[.int .u32 1, .int .i32 0, x2, .slice (some ⟨g, 0, none⟩) 65536 65536, T.fa, T.se] ∧ w'.rowIs g 24 65536 drawRow ∧ w.heap.size ≤ g ∧ Mod (· = b) w w' := by
  have hlt := hB.lt
  obtain ⟨c0, c1, c2, c3, _⟩ := hB.cells6
  obtain ⟨f0, f1, f2, f3, _⟩ := hB.free6
  have hB1 := hB.setTo 1 (.int .i32 1) (ds := #[.int .u32 0, .int .i32 1, x2, x3, T.fa, T.se]) rfl
  have hM1 : Mod (· = b) w (w.setCell ⟨b, 1, none⟩ (.int .i32 1)) := (Mod.refl _ _).own 1 _
  have hnot : ∀ (x : Bool) (w : World), (Op.unary .not (.bool x)).run Try.prog w = .ok (.bool (!x)) w := fun _ _ => rfl
  go_enter_defers Try.func98, Try.ntmps98
  go_wp2_with (go_at_call 102; refine (once_lock ⟨b, 1, none⟩ _ (by go_simp) (by go_simp)).mono ?_; rintro e w' ⟨rfl, rfl⟩)
  refine (bool_load ⟨b, 0, none⟩ 0 false rfl _ (hB1.cell 0)).mono ?_; rintro e w' ⟨rfl, rfl⟩
  clear c0 c1 c2 c3 f0 f1 f2 f3
  go_wp2_with fail
  refine (table_fill b T _ _ _ _ _ hB1).mono ?_; rintro e w' ⟨rfl, g, hB2, hg, hgs, hM2⟩
  have hM := hM1.trans hM2
  have hgs' : w.heap.size ≤ g := Nat.le_trans hM1.size hgs
  have hne : g ≠ b := by omega
  clear hB hB1 hM1 hM2 hgs
  go_wp2
  refine leaves_cons (f := 104) (args := #[.pointer (some ⟨b, 0, none⟩), .bool true]) (by simp) (by simp [go_sem]) ?_
  refine (once_store ⟨b, 0, none⟩ (.int .u32 0) .returning _ (hB2.cell 0) (hB2.free 0)).mono ?_
  rintro e u' w'' ⟨rfl, rfl, rfl⟩
  have hB3 := hB2.drew.setTo 0 (.int .u32 1) (ds := #[.int .u32 1, .int .i32 1, x2, .slice (some ⟨g, 0, none⟩) 65536 65536, T.fa, T.se]) rfl
  refine leaves_cons (f := 103) (args := #[.pointer (some ⟨b, 1, none⟩)]) (by simp [settle]) (by simp [go_sem]) ?_
  refine (once_unlock ⟨b, 1, none⟩ _ _ (hB3.cell 1) (hB3.free 1)).mono ?_
  rintro e u' w'' ⟨rfl, rfl, rfl⟩
  have hB4 := hB3.setTo 1 (.int .i32 0) (ds := #[.int .u32 1, .int .i32 0, x2, .slice (some ⟨g, 0, none⟩) 65536 65536, T.fa, T.se]) rfl
  have hM4 := ((hM.drew.own 0 (.int .u32 1)).own 1 (.int .i32 0))
  have hg4 := row_mod hg (((Mod.refl (· = b) w').drew.own 0 (.int .u32 1)).own 1 (.int .i32 0)) hne
  simp [Leaves, settle, results, Try.results98]
  exact ⟨g, hB4, hg4, hgs', hM4⟩
/-- The table is made once. -/
theorem once_do (b : Nat) (T : K6) (w : World) (hT : Tab w b T) :
    Calls Try.prog 94 #[.pointer (some ⟨b, 0, none⟩), .func (.func 95) #[.pointer (some ⟨b, 0, none⟩)] #[]] w fun e w' => e = .returned (.tuple #[]) ∧ Filled w' b T ∧ Mod (· = b) w w' := by
  rcases hT with hB | ⟨g, hB, hg, hne⟩
  · have hnot : ∀ (x : Bool) (w : World), (Op.unary .not (.bool x)).run Try.prog w = .ok (.bool (!x)) w := fun _ _ => rfl
    go_enter Try.func94, Try.ntmps94
    go_wp2_with fail
    refine (bool_load ⟨b, 0, none⟩ 0 false rfl _ (hB.cell 0)).mono ?_; rintro e w' ⟨rfl, rfl⟩
    go_wp2_with fail
    refine (once_slow b T _ _ _ hB).mono ?_; rintro e w' ⟨rfl, g, hB2, hg, hgs, hM⟩
    have := hB.lt
    go_wp2
    go_end0
    exact ⟨rfl, ⟨g, hB2, hg, by omega⟩, hM⟩
  · refine (once_done _ _ w (hB.cell 0)).mono ?_; rintro e w' ⟨rfl, rfl⟩
    exact ⟨rfl, ⟨g, hB, hg, hne⟩, Mod.refl _ _⟩
theorem drawRow_at (d : Int) : drawRow (clampN d - 1) = .int .u64 (ofN d) := by
  have h := clamp_bd d
  have e : ((clampN d - 1 : Nat) : Int) + 1 = (clampN d : Int) := by omega
  unfold drawRow
  rw [e]
  have : clampN (clampN d : Int) = clampN d := by unfold clampN; omega
  unfold ofN
  rw [this]
theorem table_At (b : Nat) (T : K6) (d : Int) (w : World) (hT : Tab w b T) :
    Calls Try.prog 88 #[.pointer (some ⟨b, 0, none⟩), .int .i64 d] w fun e w' => e = .returned (.int .u64 (ofN d)) ∧ Filled w' b T ∧ Mod (· = b) w w' := by
  have hmf : ∀ (fn : Fn) (first cap : Array Value) (w : World), (Instr.makeFunc fn first cap).run Try.prog w = .ok (.func fn first cap) w := fun _ _ _ _ => rfl
  have hc := clamp_bd d
  have hcd : min (max d 1) 65536 - 1 = ((clampN d - 1 : Nat) : Int) := by unfold clampN; omega
  have hd := drawRow_at d
  generalize clampN d - 1 = k at hcd hd
  have hk : k < 65536 := by omega
  have HD := Lib.hid hd
  clear hd hc
  go_enter Try.func88, Try.ntmps88
  go_wp2_with fail
  refine (once_do b T _ hT).mono ?_; rintro e w' ⟨rfl, ⟨g, hB, hg, hne⟩, hM⟩
  clear hT hmf
  obtain ⟨c0, c1, c2, c3, _⟩ := hB.cells6
  have hcell := hg.cell hk
  rw [HD.out] at hcell
  have k1 : IntKind.i64.wrap (min (max d 1) 65536 - 1) = (k : Int) := by rw [hcd]; exact IntWalk.i64_in _ (by omega)
  clear hcd
  go_wp2
  go_ret
  exact ⟨rfl, ⟨g, hB, hg, hne⟩, hM⟩
theorem table_At_nil (d : Int) (w : World) :
    Calls Try.prog 88 #[.pointer none, .int .i64 d] w fun e w' => e = .returned (.int .u64 0) ∧ w = w' := by
  go_enter Try.func88, Try.ntmps88
  go_wp2
  go_ret
  exact ⟨rfl, rfl⟩
end Go.Proofs.Ytblbgafadadbmaa
end
section
/- What the small functions of mix and of its reference compute. -/
namespace Go.Proofs.Ytblbgafadadbmaa
open Go.RowKit
set_option maxHeartbeats 400000
set_option linter.unusedVariables false
theorem mix_One (x : Int) (w : World) (h0 : 0 ≤ x) (h1 : x < 18446744073709551616) :
    Calls Try.prog 68 #[.int .u64 x] w fun e w' => e = .returned (.int .u64 (mixOne x)) ∧ w = w' := by
  go_enter Try.func68, Try.ntmps68
  go_wp2
  go_ret
  exact ⟨rfl, rfl⟩
theorem ref_One (x : Int) (w : World) (h0 : 0 ≤ x) (h1 : x < 18446744073709551616) :
    Calls Try.prog 70 #[.int .u64 x] w fun e w' => e = .returned (.int .u64 (mixOne x)) ∧ w = w' := by
  go_enter Try.func70, Try.ntmps70
  go_wp2
  go_ret
  exact ⟨rfl, rfl⟩
theorem mix_Draw (x : Int) (w : World) (h0 : 0 ≤ x) (h1 : x < 18446744073709551616) :
    Calls Try.prog 89 #[.int .u64 x] w fun e w' => e = .returned (.int .i64 (x / 281474976710656 + 1)) ∧ w = w' := by
  go_enter Try.func89, Try.ntmps89
  go_wp2
  go_ret
  exact ⟨rfl, rfl⟩
end Go.Proofs.Ytblbgafadadbmaa
end
section
/- mix.Below, mix.Of and the generator. -/
set_option linter.unusedVariables false
namespace Go.Proofs.Ytblbgafadadbmaa
open Go.RowKit
set_option maxHeartbeats 400000
theorem below_bd (h n : Int) (h0 : 0 ≤ h) (h1 : h < 18446744073709551616) (n0 : 1 ≤ n) : 0 ≤ h * n / 18446744073709551616 ∧ h * n / 18446744073709551616 < n := by
  have a := Int.mul_nonneg h0 (show (0 : Int) ≤ n by omega)
  have b : h * n ≤ 18446744073709551615 * n := Int.mul_le_mul_of_nonneg_right (by omega) (by omega)
  omega
theorem mix_Below (h n : Int) (w : World) (h0 : 0 ≤ h) (h1 : h < 18446744073709551616) (n0 : 1 ≤ n) (n1 : n ≤ 9223372036854775807) :
    Calls Try.prog 83 #[.int .u64 h, .int .i64 n] w fun e w' => e = .returned (.int .i64 (h * n / 18446744073709551616)) ∧ w = w' := by
  have b := below_bd h n h0 h1 n0
  obtain ⟨b1, b2⟩ := b
  go_enter Try.func83, Try.ntmps83
  go_wp2_with (go_at_call 72; refine (bits_Mul64 _ _ (by omega) (by omega) (by omega) (by omega) _).mono ?_; rintro e w' ⟨rfl, rfl⟩)
  go_ret
  exact ⟨rfl, rfl⟩
theorem mix_Below0 (h n : Int) (w : World) (n0 : n < 1) :
    Calls Try.prog 83 #[.int .u64 h, .int .i64 n] w fun e w' => e = .returned (.int .i64 0) ∧ w = w' := by
  go_enter Try.func83, Try.ntmps83
  go_wp2
  go_ret
  exact ⟨rfl, rfl⟩
theorem mask32 (x : Int) (h0 : 0 ≤ x) (h1 : x < 18446744073709551616) : bits .and .u64 x 4294967295 = x % 4294967296 := by
  obtain ⟨n, rfl⟩ := Int.eq_ofNat_of_zero_le h0
  have h := bits_and_u64_nat n 4294967295 (by omega) (by omega)
  have e : n &&& 4294967295 = n % 4294967296 := Nat.and_two_pow_sub_one_eq_mod n 32
  rw [e] at h
  rw [show ((4294967295 : Nat) : Int) = 4294967295 from rfl] at h
  rw [h]; rfl
theorem hi_form (h n : Int) (h0 : 0 ≤ h) (h1 : h < 18446744073709551616) (n0 : 0 ≤ n) (n1 : n < 18446744073709551616) :
    IntKind.u64.wrap (IntKind.u64.wrap (IntKind.u64.wrap (h / 4294967296 * (n / 4294967296)) +
       IntKind.u64.wrap (IntKind.u64.wrap (h / 4294967296 * bits BinOp.and IntKind.u64 n 4294967295) + IntKind.u64.wrap (bits BinOp.and IntKind.u64 h 4294967295 * bits BinOp.and IntKind.u64 n 4294967295) / 4294967296) / 4294967296) +
       IntKind.u64.wrap (IntKind.u64.wrap (bits BinOp.and IntKind.u64 h 4294967295 * (n / 4294967296)) +
          bits BinOp.and IntKind.u64 (IntKind.u64.wrap (IntKind.u64.wrap (h / 4294967296 * bits BinOp.and IntKind.u64 n 4294967295) + IntKind.u64.wrap (bits BinOp.and IntKind.u64 h 4294967295 * bits BinOp.and IntKind.u64 n 4294967295) / 4294967296)) 4294967295) / 4294967296) =
    h * n / 18446744073709551616 := by
  rw [mask32 _ (wrap_bd _).1 (wrap_bd _).2, mask32 h h0 h1, mask32 n n0 n1]
  simp only [IntKind.wrap_u64]
  rw [Int.add_comm (h % 4294967296 * (n / 4294967296) % 18446744073709551616)]
  exact mul64_arith h n h0 h1 n0 n1
end Go.Proofs.Ytblbgafadadbmaa
end
section
/- mix.Of and its reference: numbers mixed under a key, one by one. -/
set_option linter.unusedVariables false
namespace Go.Proofs.Ytblbgafadadbmaa
open Go.RowKit
set_option maxHeartbeats 400000
def rot23 (h : Int) : Int := bits .or .u64 (IntKind.u64.wrap (h * 8388608)) (h / 2199023255552)
theorem rot23_bd (h : Int) : 0 ≤ rot23 h ∧ rot23 h < 18446744073709551616 := bits_bd _ _ _
def mixStep (h v : Int) : Int := mixOne (bits .xor .u64 (rot23 h) (mixOne (IntKind.u64.wrap (v + 11400714819323198485))))
def ofFrom (h : Int) (l : List Int) : Int := l.foldl mixStep h
def mixOf (key : Int) (l : List Int) : Int := ofFrom (mixOne (bits .xor .u64 key 11400714819323198485)) l
theorem mixStep_bd (h v : Int) : 0 ≤ mixStep h v ∧ mixStep h v < 18446744073709551616 := mixOne_bd _
theorem ofFrom_bd (l : List Int) : ∀ (h : Int), 0 ≤ h → h < 18446744073709551616 → 0 ≤ ofFrom h l ∧ ofFrom h l < 18446744073709551616 := by
  induction l with
  | nil => intro h a b; exact ⟨a, b⟩
  | cons v l ih => intro h a b; exact ih _ (mixStep_bd _ _).1 (mixStep_bd _ _).2
theorem mixOf_bd (key : Int) (l : List Int) : 0 ≤ mixOf key l ∧ mixOf key l < 18446744073709551616 := ofFrom_bd l _ (mixOne_bd _).1 (mixOne_bd _).2
theorem mixOf_take (key : Int) (l : List Int) (k : Nat) (v : Int) (h : l[k]? = some v) : mixOf key (l.take (k + 1)) = mixStep (mixOf key (l.take k)) v := by
  unfold mixOf ofFrom
  rw [List.take_add_one, h]
  simp [List.foldl_append]
theorem bits_Rot (h : Int) (w : World) (h0 : 0 ≤ h) (h1 : h < 18446744073709551616) :
    Calls Try.prog 69 #[.int .u64 h, .int .i64 23] w fun e w' => e = .returned (.int .u64 (rot23 h)) ∧ w = w' := by
  have e : bits .and .u64 23 63 = 23 := by decide +kernel
  go_enter Try.func69, Try.ntmps69
  go_wp2
  go_ret
  exact ⟨rfl, rfl⟩
/-- The element k of a list of uint64 that a slice holds, where it lies. -/
theorem IsList.at_ {w : World} {K : IntKind} {A : Option Addr} {n c : Nat} {l : List Int} (h : IsList w K A n c l) {k : Nat} (hk : k < n) :
    ∃ ad v, A = some ad ∧ ad.block < w.heap.size ∧ l[k]? = some v ∧ (Lit.int K v).wf = true ∧ w.cell? (ad.add k) = some (.int K v) := by
  obtain ⟨ad, u, ha, hb, hx, hc⟩ := h.reads.at_ hk
  rw [List.getElem?_map] at hx
  obtain ⟨v, hv, rfl⟩ := Option.map_eq_some_iff.1 hx
  exact ⟨ad, v, ha, hb, hv, h.wf v (List.mem_of_getElem? hv), hc⟩
theorem ref_Of (key : Int) (A : Option Addr) (n c : Nat) (l : List Int) (w : World) (h0 : 0 ≤ key) (h1 : key < 18446744073709551616) (hl : IsList w .u64 A n c l) :
    Calls Try.prog 46 #[.int .u64 key, .slice A n c] w fun e w' => e = .returned (.int .u64 (mixOf key l)) ∧ w = w' := by
  have bx := bits_bd .xor key 11400714819323198485
  obtain ⟨bx0, bx1⟩ := bx
  have hn := hl.reach
  have hcap := hl.cap
  have hsm := hl.small
  have hlen := Lib.hid hl.len
  go_enter Try.func46, Try.ntmps46
  go_wp2_with (go_at_call 70; refine (ref_One _ _ (by omega) (by omega)).mono ?_; rintro e w' ⟨rfl, rfl⟩)
  go_loop [5, 6] (fun h i => ∃ k : Nat, k ≤ n ∧ i = .int .i64 k ∧ h = .int .u64 (mixOf key (l.take k))) (fun _ i => n - (intOf i).toNat)
  case atStart => exact ⟨0, Nat.zero_le _, rfl, by simp [mixOf, ofFrom]⟩
  case round =>
    obtain ⟨k, hk, rfl, rfl⟩ := hrel
    have bd := mixOf_bd key (l.take k)
    obtain ⟨b1, b2⟩ := bd
    by_cases hlt : k < n
    · obtain ⟨ad, v, rfl, hb, hv, hwf, hcell⟩ := hl.at_ hlt
      obtain ⟨v0, v1⟩ := u64_of_wf hwf
      have HS := Lib.hid (mixOf_take key l k v hv)
      have bw := wrap_bd (v + 11400714819323198485)
      obtain ⟨bw1, bw2⟩ := bw
      clear hv hwf
      go_wp2_with fail
      refine (ref_One _ _ (by omega) (by omega)).mono ?_; rintro e w' ⟨rfl, rfl⟩
      go_wp2_with fail
      refine (ref_One _ _ (bits_bd _ _ _).1 (bits_bd _ _ _).2).mono ?_; rintro e w' ⟨rfl, rfl⟩
      go_wp2
      go_round
      case rel => exact ⟨k + 1, by omega, by go_num, by rw [HS.out]; rfl⟩
      case measure => simp [intOf]; omega
    · go_wp2
      go_ret
      exact ⟨congrArg (fun z => Ending.returned (Value.int .u64 (mixOf key z))) (List.take_of_length_le (by have := hlen.out; omega)), rfl⟩
theorem mix_Of (key : Int) (A : Option Addr) (n c : Nat) (l : List Int) (w : World) (h0 : 0 ≤ key) (h1 : key < 18446744073709551616) (hl : IsList w .u64 A n c l) :
    Calls Try.prog 45 #[.int .u64 key, .slice A n c] w fun e w' => e = .returned (.int .u64 (mixOf key l)) ∧ w = w' := by
  have bx := bits_bd .xor key 11400714819323198485
  obtain ⟨bx0, bx1⟩ := bx
  have hn := hl.reach
  have hcap := hl.cap
  have hsm := hl.small
  have hlen := Lib.hid hl.len
  go_enter Try.func45, Try.ntmps45
  go_wp2_with (go_at_call 68; refine (mix_One _ _ (by omega) (by omega)).mono ?_; rintro e w' ⟨rfl, rfl⟩)
  go_loop [5, 13] (fun h i => ∃ k : Nat, k ≤ n ∧ i = .int .i64 k ∧ h = .int .u64 (mixOf key (l.take k))) (fun _ i => n - (intOf i).toNat)
  case atStart => exact ⟨0, Nat.zero_le _, rfl, by simp [mixOf, ofFrom]⟩
  case round =>
    obtain ⟨k, hk, rfl, rfl⟩ := hrel
    have bd := mixOf_bd key (l.take k)
    obtain ⟨b1, b2⟩ := bd
    by_cases hlt : k < n
    · obtain ⟨ad, v, rfl, hb, hv, hwf, hcell⟩ := hl.at_ hlt
      obtain ⟨v0, v1⟩ := u64_of_wf hwf
      have HS := Lib.hid (mixOf_take key l k v hv)
      have bw := wrap_bd (v + 11400714819323198485)
      obtain ⟨bw1, bw2⟩ := bw
      clear hv hwf
      go_wp2_with fail
      refine (bits_Rot _ _ (by omega) (by omega)).mono ?_; rintro e w' ⟨rfl, rfl⟩
      go_wp2_with fail
      refine (mix_One _ _ (by omega) (by omega)).mono ?_; rintro e w' ⟨rfl, rfl⟩
      go_wp2_with fail
      refine (mix_One _ _ (bits_bd _ _ _).1 (bits_bd _ _ _).2).mono ?_; rintro e w' ⟨rfl, rfl⟩
      go_wp2
      go_round
      case rel => exact ⟨k + 1, by omega, by go_num, by rw [HS.out]; rfl⟩
      case measure => simp [intOf]; omega
    · go_wp2
      go_ret
      exact ⟨congrArg (fun z => Ending.returned (Value.int .u64 (mixOf key z))) (List.take_of_length_le (by have := hlen.out; omega)), rfl⟩
end Go.Proofs.Ytblbgafadadbmaa
end
section
/- wide and its law's own functions: what each computes. -/
set_option linter.unusedVariables false
namespace Go.Proofs.Ytblbgafadadbmaa
open Go.RowKit
set_option maxHeartbeats 400000
/-- A number of 128 bits: its two halves in range. -/
structure IsNum (h l : Int) : Prop where
  h0 : 0 ≤ h
  h1 : h < 18446744073709551616
  l0 : 0 ≤ l
  l1 : l < 18446744073709551616
def V (h l : Int) : Int := h * 18446744073709551616 + l
/-- -1, 0 or 1, as a number is less than, is, or is more than another one. -/
def cmpI (a b : Int) : Int := if a < b then -1 else if a = b then 0 else 1
theorem V_lt {ah al bh bl : Int} (ha : IsNum ah al) (hb : IsNum bh bl) : V ah al < V bh bl ↔ ah < bh ∨ ah = bh ∧ al < bl := by
  obtain ⟨_, _, _, _⟩ := ha; obtain ⟨_, _, _, _⟩ := hb; unfold V; omega
theorem V_eq {ah al bh bl : Int} (ha : IsNum ah al) (hb : IsNum bh bl) : V ah al = V bh bl ↔ ah = bh ∧ al = bl := by
  obtain ⟨_, _, _, _⟩ := ha; obtain ⟨_, _, _, _⟩ := hb; unfold V; omega
/-- The halves of a product. -/
def pHi (a b : Int) : Int := a * b / 18446744073709551616
def pLo (a b : Int) : Int := a * b % 18446744073709551616
theorem below_bd' (a b : Int) (a0 : 0 ≤ a) (a1 : a < 18446744073709551616) (b0 : 0 ≤ b) (b1 : b < 18446744073709551616) : 0 ≤ a * b ∧ a * b / 18446744073709551616 < 18446744073709551616 := by
  have h := Int.mul_nonneg a0 b0
  have h2 : a * b ≤ 18446744073709551615 * b := Int.mul_le_mul_of_nonneg_right (by omega) b0
  omega
theorem p_num (a b : Int) (a0 : 0 ≤ a) (a1 : a < 18446744073709551616) (b0 : 0 ≤ b) (b1 : b < 18446744073709551616) : IsNum (pHi a b) (pLo a b) := by
  have h := below_bd' a b a0 a1 b0 b1
  unfold pHi pLo
  exact ⟨by omega, by omega, by omega, by omega⟩
theorem p_V (a b : Int) : V (pHi a b) (pLo a b) = a * b := by unfold V pHi pLo; omega
theorem wide_Mul (a b : Int) (a0 : 0 ≤ a) (a1 : a < 18446744073709551616) (b0 : 0 ≤ b) (b1 : b < 18446744073709551616) (w : World) :
    Calls Try.prog 48 #[.int .u64 a, .int .u64 b] w fun e w' => e = .returned (.agg #[.int .u64 (pHi a b), .int .u64 (pLo a b)]) ∧ Below w.heap.size w w' := by
  go_enter Try.func48, Try.ntmps48
  go_wp2_with (go_at_call 72; refine (bits_Mul64 _ _ a0 a1 b0 b1 _).mono ?_; rintro e w' ⟨rfl, rfl⟩)
  simp [bodyPost, results, Try.results48, go_sem]
  exact ⟨⟨rfl, rfl⟩, by go_grown⟩
theorem or_low (m l : Int) (l0 : 0 ≤ l) (l1 : l < 4294967296) : bits .or .u64 (IntKind.u64.wrap (m * 4294967296)) l = m * 4294967296 % 18446744073709551616 + l := by
  have e : IntKind.u64.wrap (m * 4294967296) = m % 4294967296 * 4294967296 := by rw [IntKind.wrap_u64]; omega
  obtain ⟨n, hn⟩ := Int.eq_ofNat_of_zero_le (show 0 ≤ m % 4294967296 by omega)
  obtain ⟨k, rfl⟩ := Int.eq_ofNat_of_zero_le l0
  rw [e, hn, show (n : Int) * 4294967296 = ((n * 4294967296 : Nat) : Int) by omega, u64_or_nat _ _ (by omega) (by omega), nat_join 32 _ _ (by omega) (by omega)]
  omega
theorem lo_arith (x y : Int) (hx0 : 0 ≤ x) (hx : x < 18446744073709551616) (hy0 : 0 ≤ y) (hy : y < 18446744073709551616) :
    ((x % 4294967296 * (y / 4294967296)) % 18446744073709551616 + ((x / 4294967296 * (y % 4294967296)) % 18446744073709551616 + (x % 4294967296 * (y % 4294967296)) % 18446744073709551616 / 4294967296) % 18446744073709551616 % 4294967296) % 18446744073709551616 * 4294967296 % 18446744073709551616 +
      (x % 4294967296 * (y % 4294967296)) % 18446744073709551616 % 4294967296 = x * y % 18446744073709551616 := by
  have ex : x = x / 4294967296 * 4294967296 + x % 4294967296 := by omega
  have ey : y = y / 4294967296 * 4294967296 + y % 4294967296 := by omega
  have b1 : 0 ≤ x / 4294967296 ∧ x / 4294967296 ≤ 4294967295 := by omega
  have b2 : 0 ≤ x % 4294967296 ∧ x % 4294967296 ≤ 4294967295 := by omega
  have b3 : 0 ≤ y / 4294967296 ∧ y / 4294967296 ≤ 4294967295 := by omega
  have b4 : 0 ≤ y % 4294967296 ∧ y % 4294967296 ≤ 4294967295 := by omega
  generalize x / 4294967296 = x1 at *
  generalize x % 4294967296 = x0 at *
  generalize y / 4294967296 = y1 at *
  generalize y % 4294967296 = y0 at *
  subst ex ey
  rw [split_mul]
  have p1 := prod_bound x1 y0 b1.1 b1.2 b4.1 b4.2
  have p2 := prod_bound x0 y1 b2.1 b2.2 b3.1 b3.2
  have p3 := prod_bound x0 y0 b2.1 b2.2 b4.1 b4.2
  clear hx0 hx hy0 hy b1 b2 b3 b4
  generalize x1 * y0 = p at *
  generalize x0 * y1 = q at *
  generalize x0 * y0 = r at *
  generalize x1 * y1 = t at *
  omega
end Go.Proofs.Ytblbgafadadbmaa
end
section
/- Sums of numbers of 128 bits. -/
set_option linter.unusedVariables false
namespace Go.Proofs.Ytblbgafadadbmaa
open Go.RowKit
set_option maxHeartbeats 400000
def sHi (ah al bh bl : Int) : Int := (ah + bh + (al + bl) / 18446744073709551616) % 18446744073709551616
def sLo (al bl : Int) : Int := (al + bl) % 18446744073709551616
/-- The sum has no more than 128 bits. -/
def fits (ah al bh bl : Int) : Bool := decide (ah + bh + (al + bl) / 18446744073709551616 < 18446744073709551616)
theorem s_num (ah al bh bl : Int) : IsNum (sHi ah al bh bl) (sLo al bl) := by unfold sHi sLo; exact ⟨by omega, by omega, by omega, by omega⟩
theorem s_V {ah al bh bl : Int} (ha : IsNum ah al) (hb : IsNum bh bl) (h : fits ah al bh bl = true) : V (sHi ah al bh bl) (sLo al bl) = V ah al + V bh bl := by
  obtain ⟨_, _, _, _⟩ := ha; obtain ⟨_, _, _, _⟩ := hb
  unfold fits at h
  simp only [decide_eq_true_eq] at h
  unfold V sHi sLo; omega
theorem fits_iff {ah al bh bl : Int} (ha : IsNum ah al) (hb : IsNum bh bl) : fits ah al bh bl = true ↔ V ah al + V bh bl < 340282366920938463463374607431768211456 := by
  obtain ⟨_, _, _, _⟩ := ha; obtain ⟨_, _, _, _⟩ := hb
  unfold fits V
  simp only [decide_eq_true_eq]
  omega
end Go.Proofs.Ytblbgafadadbmaa
end
section
/- The law's own sum. -/
set_option linter.unusedVariables false
namespace Go.Proofs.Ytblbgafadadbmaa
open Go.RowKit
set_option maxHeartbeats 400000
end Go.Proofs.Ytblbgafadadbmaa
end
section
/- How numbers of 128 bits compare. -/
set_option linter.unusedVariables false
namespace Go.Proofs.Ytblbgafadadbmaa
open Go.RowKit
set_option maxHeartbeats 400000
theorem cmp_lt {a b : Int} (h : a < b) : cmpI a b = -1 := by unfold cmpI; rw [if_pos h]
theorem cmp_eq {a b : Int} (h : a = b) : cmpI a b = 0 := by unfold cmpI; rw [if_neg (by omega), if_pos h]
theorem cmp_gt {a b : Int} (h : b < a) : cmpI a b = 1 := by unfold cmpI; rw [if_neg (by omega), if_neg (by omega)]
theorem cmpI_bd (a b : Int) : -1 ≤ cmpI a b ∧ cmpI a b ≤ 1 := by unfold cmpI; (repeat' split) <;> omega
theorem wide_Cmp (ah al bh bl : Int) (ha : IsNum ah al) (hb : IsNum bh bl) (w : World) :
    Calls Try.prog 49 #[.agg #[.int .u64 ah, .int .u64 al], .agg #[.int .u64 bh, .int .u64 bl]] w fun e w' =>
      e = .returned (.int .i64 (cmpI (V ah al) (V bh bl))) ∧ Below w.heap.size w w' := by
  by_cases g1 : ah < bh
  · rw [cmp_lt ((V_lt ha hb).2 (.inl g1))]
    clear ha hb
    go_enter Try.func49, Try.ntmps49
    go_wp2
    go_ret
    exact ⟨rfl, by go_grown⟩
  · by_cases g2 : ah = bh
    · subst g2
      by_cases g3 : al < bl
      · rw [cmp_lt ((V_lt ha hb).2 (.inr ⟨rfl, g3⟩))]
        clear ha hb
        go_enter Try.func49, Try.ntmps49
        go_wp2
        go_ret
        exact ⟨rfl, by go_grown⟩
      · by_cases g4 : al = bl
        · subst g4
          rw [cmp_eq rfl]
          clear ha hb
          go_enter Try.func49, Try.ntmps49
          go_wp2
          go_ret
          exact ⟨rfl, by go_grown⟩
        · rw [cmp_gt ((V_lt hb ha).2 (.inr ⟨rfl, by omega⟩))]
          clear ha hb
          go_enter Try.func49, Try.ntmps49
          go_wp2
          go_ret
          exact ⟨rfl, by go_grown⟩
    · rw [cmp_gt ((V_lt hb ha).2 (.inl (by omega)))]
      clear ha hb
      go_enter Try.func49, Try.ntmps49
      go_wp2
      go_ret
      exact ⟨rfl, by go_grown⟩
end Go.Proofs.Ytblbgafadadbmaa
end
section
/- WideProducts. -/
set_option linter.unusedVariables false
namespace Go.Proofs.Ytblbgafadadbmaa
open Go.RowKit
set_option maxHeartbeats 400000
theorem mul_ex (w : World) : Calls Try.prog 48 #[.int .u64 9223372036854775808, .int .u64 4] w fun e w' => e = .returned (.agg #[.int .u64 2, .int .u64 0]) ∧ Below w.heap.size w w' :=
  (wide_Mul 9223372036854775808 4 (by decide) (by decide) (by decide) (by decide) w).mono fun e w' ⟨he, hb⟩ => ⟨he.trans (by rw [show pHi 9223372036854775808 4 = 2 from by decide +kernel, show pLo 9223372036854775808 4 = 0 from by decide +kernel]), hb⟩
/-- What add answers, in both cases. -/
def addRes (ah al bh bl : Int) : Value := .tuple #[.agg #[.int .u64 (if fits ah al bh bl then sHi ah al bh bl else 0), .int .u64 (if fits ah al bh bl then sLo al bl else 0)], .bool (fits ah al bh bl)]
def addH (ah al bh bl : Int) : Int := if fits ah al bh bl then sHi ah al bh bl else 0
def addL (ah al bh bl : Int) : Int := if fits ah al bh bl then sLo al bl else 0
theorem add_num {ah al bh bl : Int} : IsNum (addH ah al bh bl) (addL ah al bh bl) := by
  unfold addH addL
  cases h : fits ah al bh bl with
  | true => exact s_num _ _ _ _
  | false => exact ⟨Int.le_refl _, (by simp), Int.le_refl _, (by simp)⟩
end Go.Proofs.Ytblbgafadadbmaa
end
section
/- Fractions held against each other. -/
set_option linter.unusedVariables false
namespace Go.Proofs.Ytblbgafadadbmaa
open Go.RowKit
set_option maxHeartbeats 1000000
def fracI (au ad bu bd : Int) : Int := if ad = 0 then (if bd = 0 then 0 else 1) else if bd = 0 then -1 else cmpI (au * bd) (bu * ad)
theorem frac_pos {au ad bu bd : Int} (h1 : ad ≠ 0) (h2 : bd ≠ 0) : fracI au ad bu bd = cmpI (V (pHi au bd) (pLo au bd)) (V (pHi bu ad) (pLo bu ad)) := by
  unfold fracI; rw [if_neg h1, if_neg h2, p_V, p_V]
set_option maxRecDepth 100000 in
theorem wide_FracCmp (au ad bu bd : Int) (ha : IsNum au ad) (hb : IsNum bu bd) (w : World) :
    Calls Try.prog 67 #[.agg #[.int .u64 au, .int .u64 ad], .agg #[.int .u64 bu, .int .u64 bd]] w fun e w' =>
      e = .returned (.int .i64 (fracI au ad bu bd)) ∧ Below w.heap.size w w' := by
  obtain ⟨a0, a1, a2, a3⟩ := ha
  obtain ⟨b0, b1, b2, b3⟩ := hb
  by_cases h1 : ad = 0
  · subst h1
    by_cases h2 : bd = 0
    · subst h2
      rw [show fracI au 0 bu 0 = 0 from by unfold fracI; rw [if_pos rfl, if_pos rfl]]
      go_enter Try.func67, Try.ntmps67
      go_wp2
      go_ret
      exact ⟨rfl, by go_grown⟩
    · rw [show fracI au 0 bu bd = 1 from by unfold fracI; rw [if_pos rfl, if_neg h2]]
      have h2' : (bd == 0) = false := by simp [h2]
      go_enter Try.func67, Try.ntmps67
      go_wp2
      go_ret
      exact ⟨rfl, by go_grown⟩
  · have h1' : (ad == 0) = false := by simp [h1]
    by_cases h2 : bd = 0
    · subst h2
      rw [show fracI au ad bu 0 = -1 from by unfold fracI; rw [if_neg h1, if_pos rfl]]
      clear h1
      go_enter Try.func67, Try.ntmps67
      go_wp2
      go_ret
      exact ⟨rfl, by go_grown⟩
    · have h2' : (bd == 0) = false := by simp [h2]
      rw [frac_pos h1 h2]
      have n1 := Lib.hid (p_num au bd a0 a1 b2 b3)
      have n2 := Lib.hid (p_num bu ad b0 b1 a2 a3)
      clear h1 h2
      go_enter Try.func67, Try.ntmps67
      go_wp2_with fail
      generalize hu : (w.alloc (.cells #[.int .u64 au, .int .u64 ad] 125)).alloc (.cells #[.int .u64 bu, .int .u64 bd] 125) = u
      have p0 : u.cell? ⟨w.heap.size, 0, none⟩ = some (.int .u64 au) := by rw [← hu]; simp
      have p1 : u.cell? ⟨w.heap.size, 1, none⟩ = some (.int .u64 ad) := by rw [← hu]; simp
      have p2 : u.cell? ⟨w.heap.size + 1, 0, none⟩ = some (.int .u64 bu) := by rw [← hu]; simp
      have p3 : u.cell? ⟨w.heap.size + 1, 1, none⟩ = some (.int .u64 bd) := by rw [← hu]; simp
      have p4 : w.heap.size + 1 < u.heap.size := by rw [← hu]; simp
      have p5 : Below w.heap.size w u := by rw [← hu]; go_grown
      have p5d := p5.drew
      have p4d : w.heap.size + 1 < u.drew.heap.size := p4
      clear hu
      go_region_held3 (fun w' => w'.cell? ⟨w.heap.size, 0, none⟩ = some (.int .u64 au) ∧ w'.cell? ⟨w.heap.size, 1, none⟩ = some (.int .u64 ad) ∧ w'.cell? ⟨w.heap.size + 1, 0, none⟩ = some (.int .u64 bu) ∧ w'.cell? ⟨w.heap.size + 1, 1, none⟩ = some (.int .u64 bd) ∧ w.heap.size + 1 < w'.heap.size ∧ Below w.heap.size w w')
        (((try (rename_i hS hK0 hK1; obtain ⟨q0, q1, q2, q3, q4, q5⟩ := hS)); (repeat' apply And.intro) <;> first | assumption | exact Below.drew (by assumption) | (refine keptc hx ?_ ?_ <;> first | omega | assumption | exact Below.drew (by assumption)) | (refine lt_0 hx ?_ <;> first | omega | assumption | exact Below.drew (by assumption)) | (refine below_0 hx ?_ <;> first | omega | assumption | exact Below.drew (by assumption)) | (refine keptc_a hx ?_ ?_ <;> first | omega | assumption | exact Below.drew (by assumption)) | (refine lt_a hx ?_ <;> first | omega | assumption | exact Below.drew (by assumption)) | (refine below_a hx ?_ <;> first | omega | assumption | exact Below.drew (by assumption)) | (refine Below.drew (Below.alloc (by assumption : Below w.heap.size w _) ?_ _) <;> omega) | (refine Below.alloc (by assumption : Below w.heap.size w _) ?_ _ <;> omega) | (refine Below.setCell (by assumption : Below w.heap.size w _) ?_ _ <;> first | omega | (simp; omega)) | (refine Below.drew (Below.setCell (by assumption : Below w.heap.size w _) ?_ _) <;> first | omega | (simp; omega)) | (simp [go_sem, *]; done) | (simp [go_sem, *]; omega)))
        (first
          | (go_at_call 48; first | ((with_reducible refine (wide_Mul au bd a0 a1 b2 b3 _).mono ?_); rintro e w' ⟨rfl, hx⟩) | ((with_reducible refine (wide_Mul bu ad b0 b1 a2 a3 _).mono ?_); rintro e w' ⟨rfl, hx⟩))
          | (go_at_call 49; refine (wide_Cmp _ _ _ _ n1.out n2.out _).mono ?_; rintro e w' ⟨rfl, hx⟩))
      go_wp2
      go_ret
      rename_i hS
      exact ⟨rfl, hS.2.2.2.2.2⟩
end Go.Proofs.Ytblbgafadadbmaa
end
section
/- A slice of structs of two integers, as an argument. (open_slice_fields: after the kit's page on structs.) -/
set_option linter.unusedVariables false
namespace Go.Proofs.Ytblbgafadadbmaa
open Go.ChangeShapes Go.WideShapes Go.ChangeAt Go.RowKit Go.Deep
section
variable {H : Type} {enc : TypeId × Value → H} {P : Program} {w : World} {base : Nat} {spare : Nat → Bool} {held : Bool}
theorem open_slice_fields {t e : TypeId} {fs : Array Field} {fuel : Nat} {cs : List Value} {x : DataW H × List MemPlace} (ht : P.underlying t = some (.slice e)) (he : P.underlying e = some (.struct fs))
    (hone : oneCellFields P fs = true) (hC : P.cellsOf e = fs.size) (h : DataW.trod enc P w base spare held fuel t cs = some x) :
    (cs = [.slice none 0 0] ∧ x = (.nil, [])) ∨
    ∃ (a : Addr) (len cap m : Nat) (D : Nat → DataW H) (Pl : Nat → List MemPlace), cs = [.slice (some a) len cap] ∧ base ≤ a.block ∧ len ≤ cap ∧ cap ≤ maxLen ∧ m = (if spare a.block then cap else len) ∧
      x = (.slice ((List.range len).map D) ((List.range (m - len)).map fun j => D (len + j)), MemPlace.row a (m * fs.size) ++ (List.range m).flatMap Pl) ∧
      ∀ i, i < m → ∃ (ys : List (DataW H × List MemPlace)) (n : Nat), D i = .agg (ys.map (·.1)) ∧ Pl i = ys.flatMap (·.2) ∧ ys.length = fs.size ∧
        ∀ (j : Nat) (f : Field), fs[j]? = some f → ∃ (v : Value) (y : DataW H × List MemPlace), w.cell? (a.add (i * fs.size + j)) = some v ∧ ys[j]? = some y ∧ DataW.trod enc P w base spare held n f.type [v] = some y := by
  rcases open_slice ht h with h0 | ⟨a, len, cap, m, n, D, Pl, hcs, hb, hl, hm, hmm, hx, hi⟩
  · exact .inl h0
  · refine .inr ⟨a, len, cap, m, D, Pl, hcs, hb, hl, hm, hmm, by rw [hC] at hx; exact hx, fun i him => ?_⟩
    obtain ⟨cs', hc, ht'⟩ := hi i him
    rw [hC] at hc
    obtain ⟨ys, n', hn', hy, hlen, hyl, hf⟩ := DataW.trod_struct he ht'
    obtain ⟨_, hcl, hat⟩ := World.cells?_some hc
    simp only [Prod.mk.injEq] at hy
    refine ⟨ys, n', hy.1, hy.2, hyl, fun j f hj => ?_⟩
    obtain ⟨ho, hk⟩ := hone_of hone j f hj
    have hjl : j < fs.size := (Array.getElem?_eq_some_iff.1 hj).1
    have hcell := hat j hjl
    have hv : cs'[j]? = some (cs'[j]'(by omega)) := List.getElem?_eq_getElem (by omega)
    have h1 := hf j f hj
    rw [ho, hk] at h1
    have hone' : (cs'.drop j).take 1 = [cs'[j]'(by omega)] := by
      rw [List.drop_eq_getElem_cons (by omega)]
      rfl
    rw [hone'] at h1
    have hys : ys[j]? = some (ys[j]'(by omega)) := List.getElem?_eq_getElem (by omega)
    refine ⟨_, _, ?_, hys, h1.trans hys⟩
    rw [← Go.Deep.add_add, hcell, hv]
end
/-- A slice of structs of two integers (kinds k0, k1): the list of pairs. -/
structure IsPairs (w : World) (k0 k1 : IntKind) (A : Option Addr) (n c : Nat) (l : List (Int × Int)) : Prop where
  len : l.length = n
  cap : n ≤ c
  small : c ≤ 9223372036854775807
  reach : n ≤ 8796093021952
  wf : ∀ p ∈ l, (Lit.int k0 p.1).wf = true ∧ (Lit.int k1 p.2).wf = true
  cells : 0 < n → ∃ ad, A = some ad ∧ ad.block < w.heap.size ∧ ∀ (i : Nat) (p : Int × Int), l[i]? = some p → w.cell? (ad.add (i * 2)) = some (.int k0 p.1) ∧ w.cell? (ad.add (i * 2 + 1)) = some (.int k1 p.2)
theorem isPairs_nil (w : World) (k0 k1 : IntKind) : IsPairs w k0 k1 none 0 0 [] where
  len := rfl
  cap := Nat.le_refl _
  small := Nat.zero_le _
  reach := by simp
  wf := fun z hz => by cases hz
  cells := fun h => absurd h (by simp)
set_option maxRecDepth 100000 in
theorem open_pairs {H : Type} {enc : TypeId × Value → H} {W : World} {base : Nat} {r : Reach} {b0 : Nat} {t e : TypeId} {f0 f1 : Field} {k0 k1 : IntKind} {v : Value} {d : DataW H} {p : List MemPlace}
    (ht : Try.prog.underlying t = some (.slice e)) (he : Try.prog.underlying e = some (.struct #[f0, f1])) (hone : oneCellFields Try.prog #[f0, f1] = true) (hc : Try.prog.cellsOf e = 2) (hby : Try.prog.bytesOf e = 16)
    (e0 : Try.prog.underlying f0.type = some (.int k0)) (e1 : Try.prog.underlying f1.type = some (.int k1))
    (hv : Value.okWide Try.prog W r b0 t v) (h : DataW.Trod enc Try.prog W base (fun _ => true) true t v d p) (hlt : ∀ x ∈ p, x.block < W.heap.size)
    (hs : ∀ (e : TypeId) (elems spare : List (DataW H)), d = .slice elems spare → Try.prog.underlying t = some (.slice e) → (elems.length + spare.length) * Try.prog.bytesOf e ≤ reachBytes) :
    ∃ (A : Option Addr) (n c : Nat) (l : List (Int × Int)), v = .slice A n c ∧ IsPairs W k0 k1 A n c l := by
  obtain ⟨a0, len, cap, rfl⟩ := okWide_slice ht hv
  obtain ⟨fuel, hf⟩ := h
  rcases open_slice_fields ht he hone hc hf with ⟨hcs, hx⟩ | ⟨a, len', cap', m, D, Pl, hcs, _, hl, hm, hmm, hx, hel⟩
  · simp [Value.cells] at hcs
    obtain ⟨rfl, rfl, rfl⟩ := hcs
    exact ⟨none, 0, 0, [], rfl, isPairs_nil W k0 k1⟩
  · simp [Value.cells] at hcs
    obtain ⟨rfl, rfl, rfl⟩ := hcs
    simp only [if_true] at hmm
    subst hmm
    simp only [Prod.mk.injEq] at hx
    obtain ⟨rfl, rfl⟩ := hx
    have hat : ∀ i, i < len → ∃ q : Int × Int, W.cell? (a.add (i * 2)) = some (.int k0 q.1) ∧ W.cell? (a.add (i * 2 + 1)) = some (.int k1 q.2) ∧ (Lit.int k0 q.1).wf = true ∧ (Lit.int k1 q.2).wf = true := by
      intro i hi
      obtain ⟨ys, n', _, _, _, hfld⟩ := hel i (by omega)
      obtain ⟨v0, y0, c0, _, t0⟩ := hfld 0 f0 rfl
      obtain ⟨v1, y1, c1, _, t1⟩ := hfld 1 f1 rfl
      obtain ⟨z0, hz0, _, w0⟩ := DataW.trod_int e0 t0
      obtain ⟨z1, hz1, _, w1⟩ := DataW.trod_int e1 t1
      simp at hz0 hz1
      subst hz0 hz1
      exact ⟨(z0, z1), c0, c1, w0, w1⟩
    have hch : ∃ l : List (Int × Int), l.length = len ∧ ∀ i q, l[i]? = some q → W.cell? (a.add (i * 2)) = some (.int k0 q.1) ∧ W.cell? (a.add (i * 2 + 1)) = some (.int k1 q.2) ∧ (Lit.int k0 q.1).wf = true ∧ (Lit.int k1 q.2).wf = true := by
      refine ⟨(List.range len).map fun i => if hi : i < len then (hat i hi).choose else (0, 0), by simp, fun i q hq => ?_⟩
      rw [List.getElem?_map] at hq
      obtain ⟨j, hj, rfl⟩ := Option.map_eq_some_iff.1 hq
      have hlen : i < len := by
        rcases Nat.lt_or_ge i len with h1 | h1
        · exact h1
        · rw [List.getElem?_eq_none (by simpa using h1)] at hj; cases hj
      rw [List.getElem?_range hlen] at hj
      obtain rfl := Option.some.inj hj
      rw [dif_pos hlen]
      exact (hat i hlen).choose_spec
    obtain ⟨l, hll, hcl⟩ := hch
    refine ⟨some a, len, m, l, rfl, hll, hl, (by unfold maxLen at hm; omega), ?_, fun q hq => ?_, fun hn => ⟨a, rfl, ?_, fun i q hq => ⟨(hcl i q hq).1, (hcl i q hq).2.1⟩⟩⟩
    · have := hs e _ _ rfl ht
      rw [hby] at this
      simp only [List.length_map, List.length_range, reachBytes] at this
      omega
    · obtain ⟨i, hi⟩ := List.mem_iff_getElem?.1 hq
      exact (hcl i q hi).2.2
    · have := hlt (MemPlace.cell a.block a.off) (by
        refine List.mem_append_left _ ?_
        simp [MemPlace.row]
        omega)
      exact this
end Go.Proofs.Ytblbgafadadbmaa
end
