/- Lemmas for the claim's proof: ValidR0 ValidR. -/
import Derived.Lib.BitFns
import Derived.Test.YtceekfbhkenniaaQ08
import Derived.Test.YtceekfbhkenniaaQ12
import Derived.Test.YtceekfbhkenniaaQ13
section
/- No more are balanced, and viewed, than may be: in plain Lean. -/
set_option linter.unusedVariables false
namespace Go.Proofs.Ytceekfbhkenniaa
open Go.RowKit
def fv (i : Nat) : Vp := ⟨false, 0, 0, 17, i, 8, false⟩
def fw (i : Nat) : Vw := ⟨false, 0, i, 32, 0⟩
def fvs (n : Nat) : List Vp := (List.range n).map fv
def fws (n : Nat) : List Vw := (List.range n).map fw
theorem fvs_len (n : Nat) : (fvs n).length = n := by simp [fvs]
theorem fws_len (n : Nat) : (fws n).length = n := by simp [fws]
theorem fvs_snoc (n : Nat) : fvs (n + 1) = fvs n ++ [fv n] := by simp [fvs, List.range_succ]
theorem fws_snoc (n : Nat) : fws (n + 1) = fws n ++ [fw n] := by simp [fws, List.range_succ]
theorem fvs_at {n i : Nat} (h : i < n) : (fvs n).getD i vp0 = fv i := by
  unfold fvs
  rw [List.getD_eq_getElem?_getD, List.getElem?_map, List.getElem?_range h]; rfl
theorem fws_at {n i : Nat} (h : i < n) : (fws n).getD i vw0 = fw i := by
  unfold fws
  rw [List.getD_eq_getElem?_getD, List.getElem?_map, List.getElem?_range h]; rfl
theorem fvs_take {n i : Nat} (h : i ≤ n) : (fvs n).take i = fvs i := by
  unfold fvs
  rw [← List.map_take, List.take_range, Nat.min_eq_left h]
theorem fws_take {n i : Nat} (h : i ≤ n) : (fws n).take i = fws i := by
  unfold fws
  rw [← List.map_take, List.take_range, Nat.min_eq_left h]
theorem fvs_wf (n : Nat) (h : n ≤ 70) : ∀ x ∈ fvs n, vpShape.Wf x := fun x hx => by
  unfold fvs at hx
  obtain ⟨i, hi, rfl⟩ := List.mem_map.1 hx
  have := List.mem_range.1 hi
  show U64 0 ∧ U64 0 ∧ I64 17 ∧ I64 (i : Int) ∧ I64 8
  unfold U64 I64
  omega
theorem fws_wf (n : Nat) (h : n ≤ 70) : ∀ x ∈ fws n, vwShape.Wf x := fun x hx => by
  unfold fws at hx
  obtain ⟨i, hi, rfl⟩ := List.mem_map.1 hx
  have := List.mem_range.1 hi
  show U64 0 ∧ U64 (i : Int) ∧ I64 32 ∧ I64 0
  unfold U64 I64
  omega
theorem fv_head {i : Nat} (h : i ≤ 70) : vipHead (fv i) = 0 := by
  unfold vipHead fv
  dsimp only
  rw [if_neg (by decide), if_neg (by omega), if_neg (by omega)]
theorem fv_new (n : Nat) : ∀ m, m ≤ n → ((fvs m).any fun x => sameKey x (fv n)) = false := fun m hm => by
  rw [List.any_eq_false]
  intro x hx
  unfold fvs at hx
  obtain ⟨i, hi, rfl⟩ := List.mem_map.1 hx
  have := List.mem_range.1 hi
  unfold sameKey fv
  dsimp only
  have h2 : ((i : Int) == (n : Int)) = false := by rw [beq_eq_false_iff_ne]; omega
  rw [h2]
  simp
theorem vips_ok {n : Nat} (h : n ≤ 70) : vipsI (fvs n) = 0 := by
  unfold vipsI
  rw [fvs_len]
  refine errTo_zero n (fun i hi => ?_)
  rw [fvs_at hi, fvs_take (by omega)]
  exact vipI_zero (fv_head (by omega)) (fv_new i i (Nat.le_refl _))
theorem cut64 : cutI 64 = 18446744073709551615 := by kernel_rfl
theorem keep_all {i : Nat} (h : i < 18446744073709551616) : keepLo4 (i : Int) 32 = i := by
  unfold keepLo4
  rw [show (32 : Int) + 32 = 64 from rfl, cut64, show (18446744073709551615 : Int) = ((18446744073709551615 : Nat) : Int) from rfl, bits_and_u64_nat i 18446744073709551615 h (by omega)]
  have e : i &&& 18446744073709551615 = i % 18446744073709551616 := Nat.and_two_pow_sub_one_eq_mod i 64
  rw [e, Nat.mod_eq_of_lt h]
theorem fw_head {i : Nat} (h : i ≤ 70) : viewHead (fw i) 1 = 0 := by
  have hp : pfxOk false 0 (i : Int) 32 = true := by
    unfold pfxOk
    rw [if_neg (by decide), if_neg (by decide), keep_all (by omega)]
    have h1 : addrOk false 0 (i : Int) = true := by
      unfold addrOk
      rw [decide_eq_true (by omega)]; rfl
    rw [h1]
    simp
  unfold viewHead fw
  dsimp only
  rw [hp, if_neg (by decide), if_neg (by omega)]
theorem fw_new (n : Nat) : ∀ m, m ≤ n → ((fws m).any fun x => samePfx x (fw n)) = false := fun m hm => by
  rw [List.any_eq_false]
  intro x hx
  unfold fws at hx
  obtain ⟨i, hi, rfl⟩ := List.mem_map.1 hx
  have := List.mem_range.1 hi
  unfold samePfx fw
  dsimp only
  have h2 : ((i : Int) == (n : Int)) = false := by rw [beq_eq_false_iff_ne]; omega
  rw [h2]
  simp
theorem views_ok {n : Nat} (h : n ≤ 70) : viewsI (fws n) 1 = 0 := by
  unfold viewsI
  rw [fws_len]
  refine errTo_zero n (fun i hi => ?_)
  rw [fws_at hi, fws_take (by omega)]
  exact viewI_zero (fw_head (by omega)) (fw_new i i (Nat.le_refl _))
def fnodes : List Nd := [⟨⟨#[108]⟩, 1, -1, 0, false, 0, 0⟩]
theorem fnodes_wf : ∀ x ∈ fnodes, x.Wf := by
  intro x hx
  simp [fnodes] at hx
  subst hx
  constructor <;> decide
theorem ftree : treeI fnodes = 0 := by kernel_rfl
theorem flvls : lvls fnodes = 1 := by kernel_rfl
def fconf (A : Option Addr) (B : Option Addr) (k : Nat) (D : Option Addr) (j : Nat) (v u : Nat) : Conf := ⟨A, 1, 1, B, v, k, D, u, j, 100, 3, ⟨false, 0, 0⟩, ⟨false, 0, 0⟩, fnodes, fvs v, fws u⟩
theorem fself (A : Option Addr) (B : Option Addr) (k : Nat) (D : Option Addr) (j : Nat) (v u : Nat) : selfI (fconf A B k D j v u) = true := rfl
theorem full_why (A : Option Addr) (B : Option Addr) (k : Nat) (D : Option Addr) (j : Nat) {v u : Nat} (hv : v ≤ 70) (hu : u ≤ 70) : whyI (fconf A B k D j v u) = if 64 < v ∨ 64 < u then 6 else 0 := by
  by_cases h : 64 < v ∨ 64 < u
  · have hp : plainI (fconf A B k D j v u) = 6 := plain6 (by show ¬ ((100 : Int) < 100 ∨ 1000 < (100 : Int) ∨ ((3 : Int) ≠ 2 ∧ (3 : Int) ≠ 3)); omega) (by show ¬ (false = true ∨ addrOk false 0 0 = false ∨ (noAd ⟨false, 0, 0⟩ = false ∧ false = false)); decide) h
    rw [if_pos h, why_plain (by rw [hp]; decide), hp]
  · have hp : plainI (fconf A B k D j v u) = 0 := plain0 (by show ¬ ((100 : Int) < 100 ∨ 1000 < (100 : Int) ∨ ((3 : Int) ≠ 2 ∧ (3 : Int) ≠ 3)); omega) (by show ¬ (false = true ∨ addrOk false 0 0 = false ∨ (noAd ⟨false, 0, 0⟩ = false ∧ false = false)); decide) h
    have h1 : treeI (fconf A B k D j v u).nodes = 0 := ftree
    have h2 : vipsI (fconf A B k D j v u).vips = 0 := vips_ok hv
    rw [if_neg h, why_views hp h1 (fself A B k D j v u) h2]
    show viewsI (fws u) (lvls fnodes : Nat) = 0
    rw [flvls]
    exact views_ok hu
end Go.Proofs.Ytceekfbhkenniaa
end
section
/- ValidFull. -/
set_option linter.unusedVariables false
namespace Go.Proofs.Ytceekfbhkenniaa
open Go.RowKit
set_option maxHeartbeats 8000000
set_option maxRecDepth 100000
theorem i64_100 : I64 100 := ⟨by decide, by decide⟩
theorem i64_3 : I64 3 := ⟨by decide, by decide⟩
theorem validFull_no (w : World) (vi wi : Int) (h : vi < 60 ∨ 70 < vi ∨ wi < 60 ∨ 70 < wi) :
    Calls Try.prog 3 #[.int .i64 vi, .int .i64 wi] w fun e w' => e = .returned (.bool true) ∧ Below w.heap.size w w' := by
  have hA := fun w => law19_awake w
  go_enter Try.func3, Try.ntmps3
  by_cases h1 : vi < 60
  · have g1 := decide_eq_true h1
    go_wp2_with fail
    refine (hA _).mono ?_; rintro e w8 ⟨rfl, hx8⟩
    go_wp2
    go_ret
    exact ⟨rfl, hx8⟩
  · have g1 := decide_eq_false h1
    by_cases h2 : 70 < vi
    · have g2 := decide_eq_true h2
      go_wp2_with fail
      refine (hA _).mono ?_; rintro e w8 ⟨rfl, hx8⟩
      go_wp2
      go_ret
      exact ⟨rfl, hx8⟩
    · have g2 := decide_eq_false h2
      by_cases h3 : wi < 60
      · have g3 := decide_eq_true h3
        go_wp2_with fail
        refine (hA _).mono ?_; rintro e w8 ⟨rfl, hx8⟩
        go_wp2
        go_ret
        exact ⟨rfl, hx8⟩
      · have g3 := decide_eq_false h3
        have h4 : 70 < wi := by omega
        have g4 := decide_eq_true h4
        go_wp2_with fail
        refine (hA _).mono ?_; rintro e w8 ⟨rfl, hx8⟩
        go_wp2
        go_ret
        exact ⟨rfl, hx8⟩
theorem validFull_yes (w : World) (v u : Nat) (v0 : 60 ≤ v) (v1 : v ≤ 70) (u0 : 60 ≤ u) (u1 : u ≤ 70) :
    Calls Try.prog 3 #[.int .i64 v, .int .i64 u] w fun e w' => e = .returned (.bool true) ∧ Below w.heap.size w w' := by
  obtain ⟨iV, hiV, hzV, hzV1, hzV2⟩ := info_parts Try.infoVip
  obtain ⟨iW, hiW, hzW, hzW1, hzW2⟩ := info_parts Try.infoView
  have hB := Blk.new w 27 #[.string ⟨#[108]⟩, .int .i64 1, .int .i64 (-1), .int .i64 0, .bool false, .int .u64 0, .int .u64 0]
  have hI : IsNodes (w.alloc (.cells #[.string ⟨#[108]⟩, .int .i64 1, .int .i64 (-1), .int .i64 0, .bool false, .int .u64 0, .int .u64 0] 27)) (some ⟨w.heap.size, 0, none⟩) 1 1 fnodes := ⟨lit_reads (xs := Go.Proofs.Ytceekfbhkenniaa.flat fnodes) hB 7 1 rfl, rfl, Nat.le_refl _, by decide, by decide, fnodes_wf⟩
  have hW : Below w.heap.size w (w.alloc (.cells #[.string ⟨#[108]⟩, .int .i64 1, .int .i64 (-1), .int .i64 0, .bool false, .int .u64 0, .int .u64 0] 27)) := (Below.refl _ _).alloc (Nat.le_refl _) _
  have hsz : (w.alloc (.cells #[.string ⟨#[108]⟩, .int .i64 1, .int .i64 (-1), .int .i64 0, .bool false, .int .u64 0, .int .u64 0] 27)).heap.size = w.heap.size + 1 := by simp
  have P := Blk.new (w.alloc (.cells #[.string ⟨#[108]⟩, .int .i64 1, .int .i64 (-1), .int .i64 0, .bool false, .int .u64 0, .int .u64 0] 27)) 33 #[.slice (some ⟨w.heap.size, 0, none⟩) 1 1, .slice none 0 0, .slice none 0 0, .int .i64 100, .int .i64 3, .bool false, .int .u64 0, .int .u64 0, .bool false, .int .u64 0, .int .u64 0]
  rw [hsz] at P
  have hx0 : Below (w.alloc (.cells #[.string ⟨#[108]⟩, .int .i64 1, .int .i64 (-1), .int .i64 0, .bool false, .int .u64 0, .int .u64 0] 27)).heap.size (w.alloc (.cells #[.string ⟨#[108]⟩, .int .i64 1, .int .i64 (-1), .int .i64 0, .bool false, .int .u64 0, .int .u64 0] 27)) ((w.alloc (.cells #[.string ⟨#[108]⟩, .int .i64 1, .int .i64 (-1), .int .i64 0, .bool false, .int .u64 0, .int .u64 0] 27)).alloc (.cells #[.slice (some ⟨w.heap.size, 0, none⟩) 1 1, .slice none 0 0, .slice none 0 0, .int .i64 100, .int .i64 3, .bool false, .int .u64 0, .int .u64 0, .bool false, .int .u64 0, .int .u64 0] 33)) := (Below.refl _ _).alloc (Nat.le_refl _) _
  have hI0 := hI.keep hx0
  have hW0 := below_step hW hx0
  have hsz2 : ((w.alloc (.cells #[.string ⟨#[108]⟩, .int .i64 1, .int .i64 (-1), .int .i64 0, .bool false, .int .u64 0, .int .u64 0] 27)).alloc (.cells #[.slice (some ⟨w.heap.size, 0, none⟩) 1 1, .slice none 0 0, .slice none 0 0, .int .i64 100, .int .i64 3, .bool false, .int .u64 0, .int .u64 0, .bool false, .int .u64 0, .int .u64 0] 33)).heap.size = w.heap.size + 2 := by simp
  have g1 : decide ((v : Int) < 60) = false := decide_eq_false (by omega)
  have g2 : decide ((70 : Int) < (v : Int)) = false := decide_eq_false (by omega)
  have g3 : decide ((u : Int) < 60) = false := decide_eq_false (by omega)
  have g4 : decide ((70 : Int) < (u : Int)) = false := decide_eq_false (by omega)
  go_enter Try.func3, Try.ntmps3
  go_upto_region 4 with (fail)
  generalize ((w.alloc (.cells #[.string ⟨#[108]⟩, .int .i64 1, .int .i64 (-1), .int .i64 0, .bool false, .int .u64 0, .int .u64 0] 27)).alloc (.cells #[.slice (some ⟨w.heap.size, 0, none⟩) 1 1, .slice none 0 0, .slice none 0 0, .int .i64 100, .int .i64 3, .bool false, .int .u64 0, .int .u64 0, .bool false, .int .u64 0, .int .u64 0] 33)) = y0 at *
  clear hx0 hI hW hB hsz g1 g2 g3 g4
  go_wp2_with fail
  go_loopg [6] v (fun gk s6 wr => ∃ (k : Nat) (vv : Value), k ≤ v ∧ gk = v - k ∧ s6 = .int .i64 k ∧ wr.ownsRow (w.heap.size + 2) 35 7 vv k (vpShape.flat (fvs k)) ∧ Blk wr (w.heap.size + 1) 33 #[.slice (some ⟨w.heap.size, 0, none⟩) 1 1, vv, .slice none 0 0, .int .i64 100, .int .i64 3, .bool false, .int .u64 0, .int .u64 0, .bool false, .int .u64 0, .int .u64 0] ∧ Mod (w.heap.size + 1 ≤ ·) y0 wr)
  case atStart => exact ⟨0, .slice none 0 0, Nat.zero_le _, rfl, rfl, World.ownsRow_nil _ _ _ _, P, Mod.refl _ _⟩
  case round =>
    clear P
    obtain ⟨k, vv, hk, rfl, rfl, hR, P1, hM⟩ := hrel
    have hz := hM.size
    obtain ⟨p0, p1, p2, p3, p4, p5, p6, p7, p8, p9, p10, _⟩ := P1.cells11
    by_cases hkv : k < v
    · have hki : (k : Int) < (v : Int) := by omega
      obtain ⟨AV, cV, rfl⟩ := own_slice hR
      go_upto_region 6 with (at_builtin; go_loud (refine wpList_append_any _ rfl (.tmp 34) (.tmp 37) _ rfl (w.heap.size + 2) 35 iV _ 7 56 Try.underlying29 hiV hzV hzV1 hzV2 rfl (by decide) _ k (vpShape.flat (fvs k)) rfl (hR.alloc _) _ (some ⟨wr.heap.size, 0, none⟩) 1 1 [.bool false, .int .u64 0, .int .u64 0, .int .i64 17, .int .i64 (k : Int), .int .i64 8, .bool false] rfl (one_reads wr 35 7 [.bool false, .int .u64 0, .int .u64 0, .int .i64 17, .int .i64 (k : Int), .int .i64 8, .bool false] rfl) (fun x hx => vpShape.one (fv k) x hx) (by simp only [maxLen]; omega) (by omega) (by simp; omega) ?_; intro v6 w6 hown6 hg6 hat6; obtain ⟨A6, c6, rfl⟩ := own_slice hown6; have P2 := (P1.alloc (.cells ⟨[.bool false, .int .u64 0, .int .u64 0, .int .i64 17, .int .i64 (k : Int), .int .i64 8, .bool false]⟩ 35)).grown hg6 (blk_type (P1.alloc (.cells ⟨[.bool false, .int .u64 0, .int .u64 0, .int .i64 17, .int .i64 (k : Int), .int .i64 8, .bool false]⟩ 35)) (hR.alloc (.cells ⟨[.bool false, .int .u64 0, .int .u64 0, .int .i64 17, .int .i64 (k : Int), .int .i64 8, .bool false]⟩ 35)) (by decide)); obtain ⟨x0, x1, x2, _⟩ := P2.cells11; obtain ⟨f0, f1, f2, _⟩ := P2.free11))
      have P3 := P2.setTo 1 (.slice A6 (k + 1) c6) (ds := #[.slice (some ⟨w.heap.size, 0, none⟩) 1 1, .slice A6 (k + 1) c6, .slice none 0 0, .int .i64 100, .int .i64 3, .bool false, .int .u64 0, .int .u64 0, .bool false, .int .u64 0, .int .u64 0]) rfl
      have hR3 := ownsRow_setCell_below hown6 (a := ⟨w.heap.size + 1, 1, none⟩) (by show w.heap.size + 1 < _; omega) (.slice A6 (k + 1) c6)
      have hM3 := (modGe_grown (hM.alloc (.cells ⟨[.bool false, .int .u64 0, .int .u64 0, .int .i64 17, .int .i64 (k : Int), .int .i64 8, .bool false]⟩ 35)) hg6 (fun g e => by have := own_from hR g e; omega)).setCell (p := ⟨w.heap.size + 1, 1, none⟩) (.inl (Nat.le_refl _)) (.slice A6 (k + 1) c6)
      have hfl : vpShape.flat (fvs k) ++ [.bool false, .int .u64 0, .int .u64 0, .int .i64 17, .int .i64 (k : Int), .int .i64 8, .bool false] = vpShape.flat (fvs (k + 1)) := by rw [fvs_snoc, Shape.flat_snoc]; rfl
      rw [hfl] at hR3
      clear P1 P2 hM hR hown6 hg6 hat6 hfl x0 x1 x2 f0 f1 f2 p0 p1 p2 p3 p4 p5 p6 p7 p8 p9 p10
      generalize w6.setCell ⟨w.heap.size + 1, 1, none⟩ (.slice A6 (k + 1) c6) = u7 at *
      go_wp2
      go_roundg (v - (k + 1))
      case measure => omega
      case rel => exact ⟨k + 1, _, by omega, rfl, by go_num, hR3, P3, hM3⟩
    · obtain rfl : v = k := by omega
      obtain ⟨AV, cV, rfl⟩ := own_slice hR
      go_wp2_with fail
      go_loopg [7] u (fun gk s7 wr => ∃ (j : Nat) (vv : Value), j ≤ u ∧ gk = u - j ∧ s7 = .int .i64 j ∧ wr.ownsRow (w.heap.size + 2) 35 7 (.slice AV v cV) v (vpShape.flat (fvs v)) ∧ wr.ownsRow (w.heap.size + 2) 39 5 vv j (vwShape.flat (fws j)) ∧ apart (.slice AV v cV) vv ∧ Blk wr (w.heap.size + 1) 33 #[.slice (some ⟨w.heap.size, 0, none⟩) 1 1, .slice AV v cV, vv, .int .i64 100, .int .i64 3, .bool false, .int .u64 0, .int .u64 0, .bool false, .int .u64 0, .int .u64 0] ∧ Mod (w.heap.size + 1 ≤ ·) y0 wr)
      case atStart => exact ⟨0, .slice none 0 0, Nat.zero_le _, rfl, rfl, hR, World.ownsRow_nil _ _ _ _, (apart_nil _).symm, P1, hM⟩
      case round =>
        clear P1 hM hR hz p0 p1 p2 p3 p4 p5 p6 p7 p8 p9 p10
        obtain ⟨j, vv, hj, rfl, rfl, hRV, hR, hap, P1, hM⟩ := hrel
        have hz := hM.size
        obtain ⟨p0, p1, p2, p3, p4, p5, p6, p7, p8, p9, p10, _⟩ := P1.cells11
        by_cases hju : j < u
        · have hji : (j : Int) < (u : Int) := by omega
          obtain ⟨AW, cW, rfl⟩ := own_slice hR
          go_upto_region 10 with (at_builtin; go_loud (refine wpList_append_any _ rfl (.tmp 46) (.tmp 52) _ rfl (w.heap.size + 2) 39 iW _ 5 40 Try.underlying30 hiW hzW hzW1 hzW2 rfl (by decide) _ j (vwShape.flat (fws j)) rfl (hR.alloc _) _ (some ⟨wr.heap.size, 0, none⟩) 1 1 [.bool false, .int .u64 0, .int .u64 (j : Int), .int .i64 32, .int .i64 0] rfl (one_reads wr 39 5 [.bool false, .int .u64 0, .int .u64 (j : Int), .int .i64 32, .int .i64 0] rfl) (fun x hx => vwShape.one (fw j) x hx) (by simp only [maxLen]; omega) (by omega) (by simp; omega) ?_; intro v6 w6 hown6 hg6 hat6; obtain ⟨A6, c6, rfl⟩ := own_slice hown6; have P2 := (P1.alloc (.cells ⟨[.bool false, .int .u64 0, .int .u64 (j : Int), .int .i64 32, .int .i64 0]⟩ 39)).grown hg6 (blk_type (P1.alloc (.cells ⟨[.bool false, .int .u64 0, .int .u64 (j : Int), .int .i64 32, .int .i64 0]⟩ 39)) (hR.alloc (.cells ⟨[.bool false, .int .u64 0, .int .u64 (j : Int), .int .i64 32, .int .i64 0]⟩ 39)) (by decide)); obtain ⟨x0, x1, x2, _⟩ := P2.cells11; obtain ⟨f0, f1, f2, _⟩ := P2.free11))
          have P3 := P2.setTo 2 (.slice A6 (j + 1) c6) (ds := #[.slice (some ⟨w.heap.size, 0, none⟩) 1 1, .slice AV v cV, .slice A6 (j + 1) c6, .int .i64 100, .int .i64 3, .bool false, .int .u64 0, .int .u64 0, .bool false, .int .u64 0, .int .u64 0]) rfl
          have hR3 := ownsRow_setCell_below hown6 (a := ⟨w.heap.size + 1, 2, none⟩) (by show w.heap.size + 1 < _; omega) (.slice A6 (j + 1) c6)
          have hRV3 := ownsRow_setCell_below ((hRV.alloc (.cells ⟨[.bool false, .int .u64 0, .int .u64 (j : Int), .int .i64 32, .int .i64 0]⟩ 39)).kept hg6 hap.kept) (a := ⟨w.heap.size + 1, 2, none⟩) (by show w.heap.size + 1 < _; omega) (.slice A6 (j + 1) c6)
          have hap3 := (apart_new (hRV.alloc (.cells ⟨[.bool false, .int .u64 0, .int .u64 (j : Int), .int .i64 32, .int .i64 0]⟩ 39)) hap.symm hat6).symm
          have hM3 := (modGe_grown (hM.alloc (.cells ⟨[.bool false, .int .u64 0, .int .u64 (j : Int), .int .i64 32, .int .i64 0]⟩ 39)) hg6 (fun g e => by have := own_from hR g e; omega)).setCell (p := ⟨w.heap.size + 1, 2, none⟩) (.inl (Nat.le_refl _)) (.slice A6 (j + 1) c6)
          have hfl : vwShape.flat (fws j) ++ [.bool false, .int .u64 0, .int .u64 (j : Int), .int .i64 32, .int .i64 0] = vwShape.flat (fws (j + 1)) := by rw [fws_snoc, Shape.flat_snoc]; rfl
          rw [hfl] at hR3
          clear P1 P2 hM hR hRV hown6 hg6 hat6 hfl hap x0 x1 x2 f0 f1 f2 p0 p1 p2 p3 p4 p5 p6 p7 p8 p9 p10
          generalize w6.setCell ⟨w.heap.size + 1, 2, none⟩ (.slice A6 (j + 1) c6) = u7 at *
          go_wp2
          go_roundg (u - (j + 1))
          case measure => omega
          case rel => exact ⟨j + 1, _, by omega, rfl, by go_num, hRV3, hR3, hap3, P3, hM3⟩
        · obtain rfl : u = j := by omega
          obtain ⟨AW, cW, e1, IW, _⟩ := own_rowC (C := vwShape) hR (fws_wf u u1) (by omega)
          subst e1
          obtain ⟨AV', cV', e2, IV, _⟩ := own_rowC (C := vpShape) hRV (fvs_wf v v1) (by omega)
          injection e2 with e2 _ e2'
          subst e2 e2'
          have hI9 := hI0.mod hM (fun _ ad e => by cases e; simp)
          have hW9 := below_thenMod hW0 (Nat.le_refl _) hM (fun i hi => by omega)
          have hC9 : IsConf wr (fconf (some ⟨w.heap.size, 0, none⟩) AV cV AW cW v u) := ⟨hI9, IV, IW, i64_100, i64_3, u64_00, u64_00⟩
          have hNW := valid_New _ wr hC9 (show 1 ≤ 1024 by decide)
          have hWY := full_why (some ⟨w.heap.size, 0, none⟩) AV cV AW cW (v := v) (u := u) v1 u1
          have HWY := Lib.hid hWY
          have hNP := fun e w' (h : NewV (fconf (some ⟨w.heap.size, 0, none⟩) AV cV AW cW v u) e w') => (show (whyI (fconf (some ⟨w.heap.size, 0, none⟩) AV cV AW cW v u) ≠ 0 ∧ e = .returned (.tuple #[.pointer none, .int .i64 (whyI (fconf (some ⟨w.heap.size, 0, none⟩) AV cV AW cW v u))])) ∨ (whyI (fconf (some ⟨w.heap.size, 0, none⟩) AV cV AW cW v u) = 0 ∧ ∃ vb : Nat, e = .returned (.tuple #[.pointer (some ⟨vb, 0, none⟩), .int .i64 0])) from h.elim .inl (fun ⟨hz, vb, _, _, _, _, _, _, _, he, _⟩ => .inr ⟨hz, vb, he⟩))
          generalize NewV (fconf (some ⟨w.heap.size, 0, none⟩) AV cV AW cW v u) = PO at *
          generalize whyI (fconf (some ⟨w.heap.size, 0, none⟩) AV cV AW cW v u) = WY at *
          unfold fconf Conf.cells at hNW
          dsimp only at hNW
          have HNP := Lib.hid hNP
          have HB := Lib.hid (show (64 < v ∨ 64 < u) ∧ WY = 6 ∨ (v ≤ 64 ∧ u ≤ 64) ∧ WY = 0 by
            by_cases h : 64 < v ∨ 64 < u
            · exact .inl ⟨h, by rw [HWY.out, if_pos h]⟩
            · exact .inr ⟨by omega, by rw [HWY.out, if_neg h]⟩)
          clear hNP hWY HWY hM hR hRV hap IV IW hC9 hI9
          go_wp2_with fail
          refine hNW.mono ?_; rintro e w3 ⟨hPO, hx3⟩
          have hW3 := below_step hW9 hx3
          have hcs := HNP.out _ _ hPO
          have hbs := HB.out
          clear HNP HB hPO hNW hx3 hW9 P1 p0 p1 p2 p3 p4 p5 p6 p7 p8 p9 p10
          rcases hbs with ⟨hb, rfl⟩ | ⟨⟨hb1, hb2⟩, rfl⟩
          · rcases hcs with ⟨_, rfl⟩ | ⟨hz, _⟩
            · by_cases hv64 : 64 < v
              · have g1 : decide ((64 : Int) < (v : Int)) = true := decide_eq_true (by omega)
                have g2 : decide ((v : Int) ≤ (64 : Int)) = false := decide_eq_false (by omega)
                go_wp2_with fail
                refine (law19_awake _).mono ?_; rintro e w5 ⟨rfl, hx5⟩
                go_wp2
                go_ret
                exact ⟨rfl, below_step hW3 hx5⟩
              · have g1 : decide ((64 : Int) < (v : Int)) = false := decide_eq_false (by omega)
                have g2 : decide ((v : Int) ≤ (64 : Int)) = true := decide_eq_true (by omega)
                have g3 : decide ((64 : Int) < (u : Int)) = true := decide_eq_true (by omega)
                have g4 : decide ((u : Int) ≤ (64 : Int)) = false := decide_eq_false (by omega)
                go_wp2_with fail
                refine (law19_awake _).mono ?_; rintro e w5 ⟨rfl, hx5⟩
                go_wp2
                go_ret
                exact ⟨rfl, below_step hW3 hx5⟩
            · cases hz
          · rcases hcs with ⟨hz, _⟩ | ⟨_, vb, rfl⟩
            · exact absurd rfl hz
            · have g1 : decide ((64 : Int) < (v : Int)) = false := decide_eq_false (by omega)
              have g2 : decide ((v : Int) ≤ (64 : Int)) = true := decide_eq_true (by omega)
              have g3 : decide ((64 : Int) < (u : Int)) = false := decide_eq_false (by omega)
              have g4 : decide ((u : Int) ≤ (64 : Int)) = true := decide_eq_true (by omega)
              go_wp2_with fail
              refine (law19_awake _).mono ?_; rintro e w5 ⟨rfl, hx5⟩
              go_wp2
              go_ret
              exact ⟨rfl, below_step hW3 hx5⟩
theorem validFull_walk (w : World) (vi : Int) (_ : -9223372036854775808 ≤ vi) (_ : vi ≤ 9223372036854775807) (wi : Int) (_ : -9223372036854775808 ≤ wi) (_ : wi ≤ 9223372036854775807) :
    Calls Try.prog 3 #[.int .i64 vi, .int .i64 wi] w fun e w' => e = .returned (.bool true) ∧ Below w.heap.size w w' := by
  by_cases h : vi < 60 ∨ 70 < vi ∨ wi < 60 ∨ 70 < wi
  · exact validFull_no w vi wi h
  · obtain ⟨v, rfl⟩ := Int.eq_ofNat_of_zero_le (show 0 ≤ vi by omega)
    obtain ⟨u, rfl⟩ := Int.eq_ofNat_of_zero_le (show 0 ≤ wi by omega)
    exact validFull_yes w v u (by omega) (by omega) (by omega) (by omega)
end Go.Proofs.Ytceekfbhkenniaa
end
