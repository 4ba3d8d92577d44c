/- Lemmas for the claim's proof: StabA StabB StabC StabD. -/
import Derived.Shelf.SlSortCmp.KitK
import Derived.Shelf.SlSortCmp.QuietGrown
import Derived.Deep.DeepCutAuto
import Derived.Deep.CutBlock
import Derived.Test.YtcpfekhpbjkgeaaQ02
import Derived.Test.YtcpfekhpbjkgeaaQ03
section
/- cmp.Compare, cmp.Or, and how items compare. -/
set_option linter.unusedVariables false
namespace Go.Proofs.Ytcpfekhpbjkgeaa
open Go.RowKit
set_option maxHeartbeats 8000000
set_option maxRecDepth 100000
theorem isNaN_int (x : Int) (w : World) : Calls Try.prog 79 #[.int .i64 x] w fun e w' => e = .returned (.bool false) ∧ w = w' := by
  have h : (x != x) = false := by simp
  go_enter Try.func79, Try.ntmps79
  go_wp2
  go_ret
  exact ⟨rfl, rfl⟩
theorem isNaN_int64 (x : Int) (w : World) : Calls Try.prog 83 #[.int .i64 x] w fun e w' => e = .returned (.bool false) ∧ w = w' := by
  have h : (x != x) = false := by simp
  go_enter Try.func83, Try.ntmps83
  go_wp2
  go_ret
  exact ⟨rfl, rfl⟩
theorem compare_int (a b : Int) (w : World) : Calls Try.prog 68 #[.int .i64 a, .int .i64 b] w fun e w' => e = .returned (.int .i64 (cmpI a b)) ∧ w = w' := by
  have h1 := fun x => isNaN_int x w
  have HS := Lib.hid (show cmpI a b = if a < b then -1 else if b < a then 1 else 0 from rfl)
  generalize cmpI a b = C at *
  go_enter Try.func68, Try.ntmps68
  go_wp2_with fail
  refine (h1 a).mono ?_; rintro e w1 ⟨rfl, rfl⟩
  go_wp2_with fail
  refine (h1 b).mono ?_; rintro e w1 ⟨rfl, rfl⟩
  clear h1
  by_cases c1 : a < b
  · go_wp2
    go_ret
    exact ⟨by rw [HS.out, if_pos c1]; rfl, rfl⟩
  · by_cases c2 : b < a
    · go_wp2
      go_ret
      exact ⟨by rw [HS.out, if_neg (show ¬ a < b by omega), if_pos c2]; rfl, rfl⟩
    · go_wp2
      go_ret
      exact ⟨by rw [HS.out, if_neg (show ¬ a < b by omega), if_neg (show ¬ b < a by omega)]; rfl, rfl⟩
theorem compare_int64 (a b : Int) (w : World) : Calls Try.prog 73 #[.int .i64 a, .int .i64 b] w fun e w' => e = .returned (.int .i64 (cmpI a b)) ∧ w = w' := by
  have h1 := fun x => isNaN_int64 x w
  have HS := Lib.hid (show cmpI a b = if a < b then -1 else if b < a then 1 else 0 from rfl)
  generalize cmpI a b = C at *
  go_enter Try.func73, Try.ntmps73
  go_wp2_with fail
  refine (h1 a).mono ?_; rintro e w1 ⟨rfl, rfl⟩
  go_wp2_with fail
  refine (h1 b).mono ?_; rintro e w1 ⟨rfl, rfl⟩
  clear h1
  by_cases c1 : a < b
  · go_wp2
    go_ret
    exact ⟨by rw [HS.out, if_pos c1]; rfl, rfl⟩
  · by_cases c2 : b < a
    · go_wp2
      go_ret
      exact ⟨by rw [HS.out, if_neg (show ¬ a < b by omega), if_pos c2]; rfl, rfl⟩
    · go_wp2
      go_ret
      exact ⟨by rw [HS.out, if_neg (show ¬ a < b by omega), if_neg (show ¬ b < a by omega)]; rfl, rfl⟩
def orI (a b : Int) : Int := if a ≠ 0 then a else b
/-- cmp.Or of two: the first that is not 0. -/
theorem or_two (a b : Int) (g : Nat) (w : World) (c0 : w.cell? ⟨g, 0, none⟩ = some (.int .i64 a)) (c1 : w.cell? ⟨g, 1, none⟩ = some (.int .i64 b)) :
    Calls Try.prog 72 #[.slice (some ⟨g, 0, none⟩) 2 2] w fun e w' => e = .returned (.int .i64 (orI a b)) ∧ w = w' := by
  have HS := Lib.hid (show orI a b = if a ≠ 0 then a else b from rfl)
  generalize orI a b = C at *
  go_enter Try.func72, Try.ntmps72
  go_wp2_with fail
  go_loopg [8] 2 (fun gk s8 wr => ∃ i : Nat, i ≤ 2 ∧ gk = 2 - i ∧ s8 = .int .i64 i ∧ w = wr ∧ Hid (0 < i → a = 0) ∧ Hid (i = 2 → b = 0))
  case atStart => exact ⟨0, by omega, rfl, by go_num, rfl, Lib.hid (fun h => absurd h (Nat.lt_irrefl _)), Lib.hid (fun h => by omega)⟩
  case round =>
    obtain ⟨i, hi, rfl, rfl, rfl, H1, H2⟩ := hrel
    rcases (show i = 0 ∨ i = 1 ∨ i = 2 by omega) with rfl | rfl | rfl
    · by_cases h : a = 0
      · have g : (a != 0) = false := by simp [h]
        go_wp2
        go_roundg 1
        case measure => omega
        case rel => exact ⟨1, by omega, rfl, by go_num, rfl, Lib.hid (fun _ => h), Lib.hid (fun h => by omega)⟩
      · have g : (a != 0) = true := by simp [h]
        go_wp2
        go_ret
        exact ⟨by rw [HS.out, if_pos h]; rfl, rfl⟩
    · by_cases h : b = 0
      · have g : (b != 0) = false := by simp [h]
        go_wp2
        go_roundg 0
        case measure => omega
        case rel => exact ⟨2, by omega, rfl, by go_num, rfl, Lib.hid (fun _ => H1.out (by omega)), Lib.hid (fun _ => h)⟩
      · have g : (b != 0) = true := by simp [h]
        go_wp2
        go_ret
        exact ⟨by rw [HS.out, if_neg (by simp [H1.out (by omega)])]; rfl, rfl⟩
    · go_wp2
      go_ret
      exact ⟨by rw [HS.out, if_neg (by simp [H1.out (by omega)]), H2.out (by trivial)]; rfl, rfl⟩
/-- What an item's cells are. -/
def encIt (x : It) : List Value := [.int .i64 x.t, .int .i64 x.id]
theorem grown_same {P : Program} {f : FuncId} {args : Array Value} {w : World} {n : Nat} {os : Array Obj} {v : Value}
    (h : Calls P f args (Go.Sort.grow (w.drewN n) os) fun e w' => e = .returned v ∧ Go.Sort.grow (w.drewN n) os = w') : Calls P f args (Go.Sort.grow (w.drewN n) os) fun e w'' => e = .returned v ∧ ∃ p : GrownBy, w'' = Go.Sort.grow (w.drewN p.n) p.os :=
  h.mono fun _ _ ⟨he, hb⟩ => ⟨he, ⟨n, os⟩, hb.symm⟩
theorem compare_items (a b : It) (w : World) : Calls Try.prog 51 #[.agg (encIt a).toArray, .agg (encIt b).toArray] w fun e w' => e = .returned (.int .i64 (itC a b)) ∧ ∃ q os, w' = Go.Sort.grow (w.drewN q) os := by
  have HS := Lib.hid (show itC a b = orI (cmpI a.t b.t) (cmpI a.id b.id) from rfl)
  obtain ⟨at_, ai⟩ := a
  obtain ⟨bt, bi⟩ := b
  unfold encIt
  dsimp only at *
  generalize itC ⟨at_, ai⟩ ⟨bt, bi⟩ = C at *
  have P0 := (Blk.new w 31 #[.int .i64 at_, .int .i64 ai]).alloc (.cells #[.int .i64 bt, .int .i64 bi] 31)
  have P1 := Blk.new (w.alloc (.cells #[.int .i64 at_, .int .i64 ai] 31)) 31 #[.int .i64 bt, .int .i64 bi]
  have hsz : (w.alloc (.cells #[.int .i64 at_, .int .i64 ai] 31)).heap.size = w.heap.size + 1 := by simp
  rw [hsz] at P1
  have HW := Lib.hid (show ∃ q os, (w.alloc (.cells #[.int .i64 at_, .int .i64 ai] 31)).alloc (.cells #[.int .i64 bt, .int .i64 bi] 31) = Go.Sort.grow (w.drewN q) os from ⟨0, _, by rw [Go.Sort.alloc_eq_grow, Go.Sort.alloc_eq_grow, Go.Sort.grow_grow]; rfl⟩)
  clear hsz
  go_enter Try.func51, Try.ntmps51
  go_upto_region 1 with (fail)
  generalize (w.alloc (.cells #[.int .i64 at_, .int .i64 ai] 31)).alloc (.cells #[.int .i64 bt, .int .i64 bi] 31) = u at *
  obtain ⟨p0, p1, hp⟩ := P0.cells2
  obtain ⟨q0, q1, hq⟩ := P1.cells2
  have U0 := cell_grown hp p0
  have U1 := cell_grown hp p1
  have V0 := cell_grown hq q0
  have V1 := cell_grown hq q1
  have C1 := fun w => compare_int64 at_ bt w
  have C2 := fun w => compare_int ai bi w
  generalize cmpI at_ bt = c1 at *
  generalize cmpI ai bi = c2 at *
  clear P0 P1 p0 p1 q0 q1 hp hq
  refine wp_region_quiet_tail (C := fun w' => ∃ p : GrownBy, w' = Go.Sort.grow (u.drewN p.n) p.os) 10 (by kernel_rfl) (by kernel_rfl) ⟨⟨1, #[]⟩, by rw [Go.Sort.grow_empty]; rfl⟩ ?_
  simp only [List.take_succ_cons, List.take_zero, List.drop_succ_cons, List.drop_zero]
  repeat (go_big_quiet_step ((first | (go_at_call 73; exact grown_same (C1 _)) | (go_at_call 68; exact grown_same (C2 _)))))
  refine wpQuiet_nil ?_
  intro _ hw'
  obtain ⟨⟨nq, osq⟩, hw''⟩ := hw'
  have HV := Lib.hid (show ∃ q os, Go.Sort.grow (u.drewN nq) osq = Go.Sort.grow (w.drewN q) os by
    obtain ⟨q, os, e⟩ := HW.out
    exact ⟨q + nq, os ++ osq, by rw [e]; show Go.Sort.grow (Go.Sort.grow ((w.drewN q).drewN nq) os) osq = _; rw [Go.Sort.grow_grow, World.drewN_drewN]⟩)
  subst hw''
  clear U0 U1 V0 V1 C1 C2 HW
  dsimp only at *
  generalize Go.Sort.grow (u.drewN nq) osq = v at *
  have R := Blk.new v 3 #[.int .i64 c1, .int .i64 c2]
  have HX := Lib.hid (show ∃ q os, v.alloc (.cells #[.int .i64 c1, .int .i64 c2] 3) = Go.Sort.grow (w.drewN q) os by
    obtain ⟨q, os, e⟩ := HV.out
    exact ⟨q, os ++ #[.cells #[.int .i64 c1, .int .i64 c2] 3], by rw [e, Go.Sort.alloc_eq_grow, Go.Sort.grow_grow]⟩)
  obtain ⟨r0, r1, _⟩ := R.cells2
  have HO := or_two c1 c2 v.heap.size _ r0 r1
  clear R r0 r1 HV
  go_wp2_with fail
  refine HO.mono ?_; rintro e w1 ⟨rfl, rfl⟩
  go_wp2
  go_ret
  exact ⟨by rw [HS.out]; rfl, HX.out⟩
theorem items_cmp (blk off size : Nat) (w : World) : CmpLays Try.prog 51 #[] encIt 2 itC blk off size w := fun m os dk hs x y => compare_items x y _
theorem lt_itB : ltOf itC = itB := by funext a b; exact itC_lt a b
end Go.Proofs.Ytcpfekhpbjkgeaa
end
section
/- slices.swapRangeCmpFunc and rotateCmpFunc, of items. -/
set_option linter.unusedVariables false
namespace Go.Proofs.Ytcpfekhpbjkgeaa
open Go.RowKit Go.Sort
set_option maxHeartbeats 8000000
set_option maxRecDepth 1000000
theorem swk_at {w0 W : World} {blk off : Nat} {d0 dk : Array It} (S : SWK encIt 2 w0 blk off dk W) (R : RowK encIt 2 w0 blk off d0) (hs : dk.size = d0.size) {i : Nat} (hi : i < dk.size) :
    (W.cell? ⟨blk, off + i * 2, none⟩ = some (.int .i64 (dk[i]!).t) ∧ W.cell? ⟨blk, off + i * 2 + 1, none⟩ = some (.int .i64 (dk[i]!).id)) ∧ W.frozen? ⟨blk, off + i * 2, none⟩ = false ∧ W.frozen? ⟨blk, off + i * 2 + 1, none⟩ = false := by
  have H : HoldsK encIt 2 W blk off dk := S.holds R.hblk R.hH hs
  have h0 := H (i * 2) (by rw [size_flatK]; omega)
  have h1 := H (i * 2 + 1) (by rw [size_flatK]; omega)
  rw [get_flatK _ _ _ _ (by omega), show i * 2 / 2 = i by omega, show i * 2 % 2 = 0 by omega] at h0
  rw [get_flatK _ _ _ _ (by omega), show (i * 2 + 1) / 2 = i by omega, show (i * 2 + 1) % 2 = 1 by omega, ← Nat.add_assoc] at h1
  exact ⟨⟨h0.1, h1.1⟩, h0.2, h1.2⟩
theorem some_set {W : World} {p q : Addr} {x v : Value} (h : W.cell? p = some x) : ∃ u, (W.setCell q v).cell? p = some u := cell?_setCell_some h
theorem swapRange_items (g : Nat) (cb : Array Value) (blk off cap a b n : Nat) (d0 d : Array It) (w0 w : World)
    (R : RowK encIt 2 w0 blk off d0) (hs : d0.size = d.size) (S : SWK encIt 2 w0 blk off d w) (hab : a + n ≤ b) (hb : b + n ≤ d.size) (hsz : d.size < 4611686018427387904) :
    Calls Try.prog 123 #[.slice (some ⟨blk, off, none⟩) d.size cap, .int .i64 a, .int .i64 b, .int .i64 n, .func (.func g) #[] cb] w fun e w' =>
      e = .returned (.tuple #[]) ∧ ∃ d', Swr d d' a b n ∧ PermIn a (b + n) d d' ∧ SWK encIt 2 w0 blk off d' w' := by
  have S0 : Aside (SWK encIt 2 w0 blk off d w) := S
  clear S
  have mixed : Try.prog.follows .mixedOrders = true := by kernel_rfl
  go_enter Try.func123, Try.ntmps123
  go_wp2_with fail
  go_loopg [10] n (fun gk s10 wr => ∃ (i : Nat) (dk : Array It), s10 = .int .i64 i ∧ i ≤ n ∧ gk = n - i ∧ dk.size = d.size ∧ Hid (Swr d dk a b i) ∧ Hid (PermIn a (b + n) d dk) ∧ Aside (SWK encIt 2 w0 blk off dk wr))
  case atStart => exact ⟨0, d, by go_num, by omega, rfl, rfl, Lib.hid (Swr.none d a b), Lib.hid (permIn_refl d a (b + n)), S0⟩
  case round =>
    clear S0
    obtain ⟨i, dk, rfl, hi, rfl, hsk, HS, HP, S1⟩ := hrel
    by_cases hin : i < n
    · have hinz : (i : Int) < (n : Int) := by omega
      have ea : ((a : Int) + (i : Int)).toNat = a + i := by omega
      have pa : (0 : Int) ≤ (a : Int) + (i : Int) := by omega
      have ba : (a : Int) + (i : Int) < (d.size : Int) := by omega
      have ra : IntKind.i64.wrap ((a : Int) + (i : Int)) = (a : Int) + (i : Int) := by rw [IntKind.wrap_i64]; omega
      have eb : ((b : Int) + (i : Int)).toNat = b + i := by omega
      have pb : (0 : Int) ≤ (b : Int) + (i : Int) := by omega
      have bb : (b : Int) + (i : Int) < (d.size : Int) := by omega
      have rb : IntKind.i64.wrap ((b : Int) + (i : Int)) = (b : Int) + (i : Int) := by rw [IntKind.wrap_i64]; omega
      have HS' := Lib.hid (HS.out.step hin hab hb)
      have HP' := Lib.hid (swp_in d dk HP.out (show a ≤ a + i by omega) (show a + i < b + n by omega) (show a ≤ b + i by omega) (show b + i < b + n by omega) (by omega))
      have S2 : Aside (SWK encIt 2 w0 blk off (swp dk (a + i) (b + i)) ((wr.drew.setCells blk (off + (a + i) * 2) (encIt dk[b + i]!)).setCells blk (off + (b + i) * 2) (encIt dk[a + i]!))) := S1.out.swapped R (a + i) (b + i) (by omega) (by omega)
      obtain ⟨⟨a0, a1⟩, f0, f1⟩ := swk_at S1.out R (by omega) (i := a + i) (by omega)
      obtain ⟨⟨b0, b1⟩, f2, f3⟩ := swk_at S1.out R (by omega) (i := b + i) (by omega)
      have hz : (swp dk (a + i) (b + i)).size = d.size := by rw [size_swp]; exact hsk
      unfold encIt at S2
      generalize swp dk (a + i) (b + i) = dn at *
      generalize dk[a + i]! = A at *
      generalize dk[b + i]! = B at *
      obtain ⟨A1, A2⟩ := A
      obtain ⟨B1, B2⟩ := B
      dsimp only at a0 a1 b0 b1 S2
      obtain ⟨x1, y1⟩ := some_set (q := ⟨blk, off + (a + i) * 2, none⟩) (v := .int .i64 B1) a1
      obtain ⟨x2, y2⟩ := some_set (q := ⟨blk, off + (a + i) * 2, none⟩) (v := .int .i64 B1) b0
      obtain ⟨x3, y3⟩ := some_set (q := ⟨blk, off + (a + i) * 2 + 1, none⟩) (v := .int .i64 B2) y2
      obtain ⟨x4, y4⟩ := some_set (q := ⟨blk, off + (a + i) * 2, none⟩) (v := .int .i64 B1) b1
      obtain ⟨x5, y5⟩ := some_set (q := ⟨blk, off + (a + i) * 2 + 1, none⟩) (v := .int .i64 B2) y4
      obtain ⟨x6, y6⟩ := some_set (q := ⟨blk, off + (b + i) * 2, none⟩) (v := .int .i64 A1) y5
      have S3 : Aside (SWK encIt 2 w0 blk off dn ((((wr.setCell ⟨blk, off + (a + i) * 2, none⟩ (.int .i64 B1)).setCell ⟨blk, off + (a + i) * 2 + 1, none⟩ (.int .i64 B2)).setCell ⟨blk, off + (b + i) * 2, none⟩ (.int .i64 A1)).setCell ⟨blk, off + (b + i) * 2 + 1, none⟩ (.int .i64 A2)).drew) := S2
      clear S1 HS HP S2 y2 y4
      go_wp2_with fail
      go_big_region_o
      clear a0 a1 b0 b1 f0 f1 f2 f3 y1 y3 y5 y6
      generalize ((((wr.setCell ⟨blk, off + (a + i) * 2, none⟩ (.int .i64 B1)).setCell ⟨blk, off + (a + i) * 2 + 1, none⟩ (.int .i64 B2)).setCell ⟨blk, off + (b + i) * 2, none⟩ (.int .i64 A1)).setCell ⟨blk, off + (b + i) * 2 + 1, none⟩ (.int .i64 A2)).drew = w1 at S3 ⊢
      clear ea eb pa pb ba bb ra rb
      go_wp2
      go_roundg (n - (i + 1))
      case measure => omega
      case rel => exact ⟨i + 1, dn, by go_num, by omega, rfl, hz, HS', HP', S3⟩
    · obtain rfl : i = n := by omega
      go_wp2
      go_end0
      exact ⟨rfl, dk, HS.out, HP.out, S1.out⟩
end Go.Proofs.Ytcpfekhpbjkgeaa
end
section
/- slices.rotateCmpFunc, of items. -/
set_option linter.unusedVariables false
namespace Go.Proofs.Ytcpfekhpbjkgeaa
open Go.RowKit Go.Sort
set_option maxHeartbeats 8000000
set_option maxRecDepth 1000000
theorem rotate_items (g : Nat) (cb : Array Value) (blk off cap a m b : Nat) (d0 d : Array It) (w0 w : World)
    (R : RowK encIt 2 w0 blk off d0) (hs : d0.size = d.size) (S : SWK encIt 2 w0 blk off d w) (ham : a < m) (hmb : m < b) (hb : b ≤ d.size) (hsz : d.size < 4611686018427387904) :
    Calls Try.prog 111 #[.slice (some ⟨blk, off, none⟩) d.size cap, .int .i64 a, .int .i64 m, .int .i64 b, .func (.func g) #[] cb] w fun e w' =>
      e = .returned (.tuple #[]) ∧ ∃ d', Rot d d' a m b ∧ PermIn a b d d' ∧ SWK encIt 2 w0 blk off d' w' := by
  have S0 : Aside (SWK encIt 2 w0 blk off d w) := S
  clear S
  have HSW := Lib.hid (fun (a b n : Nat) (dk : Array It) (w : World) (hk : dk.size = d.size) S (h1 : a + n ≤ b) (h2 : b + n ≤ d.size) => hk ▸ swapRange_items g cb blk off cap a b n d0 dk w0 w R (by omega) S h1 (by omega) (by omega))
  have wi : IntKind.i64.wrap ((m : Int) - (a : Int)) = ((m - a : Nat) : Int) := by rw [IntKind.wrap_i64]; omega
  have wj : IntKind.i64.wrap ((b : Int) - (m : Int)) = ((b - m : Nat) : Int) := by rw [IntKind.wrap_i64]; omega
  have HM := Lib.hid (show a + (m - a) = m ∧ m + (b - m) = b ∧ 1 ≤ m - a ∧ 1 ≤ b - m by omega)
  generalize m - a = i0 at *
  generalize b - m = j0 at *
  go_enter Try.func111, Try.ntmps111
  go_wp2_with fail
  go_loopg [10, 11] (i0 + j0) (fun gk s10 s11 wr => ∃ (i j : Nat) (dk : Array It), s10 = .int .i64 i ∧ s11 = .int .i64 j ∧ 1 ≤ i ∧ 1 ≤ j ∧ i ≤ m - a ∧ j ≤ b - m ∧ gk = i + j ∧ dk.size = d.size ∧ Hid (∀ d', Rot dk d' (m - i) m (m + j) → Rot d d' a m b) ∧ Hid (PermIn a b d dk) ∧ Aside (SWK encIt 2 w0 blk off dk wr))
  case atStart => exact ⟨i0, j0, d, by go_num, by go_num, HM.out.2.2.1, HM.out.2.2.2, by have := HM.out; omega, by have := HM.out; omega, rfl, rfl, Lib.hid (fun d' h => by have := HM.out; rwa [show m - i0 = a by omega, this.2.1] at h), Lib.hid (permIn_refl d a b), S0⟩
  case round =>
    clear S0 wi wj
    obtain ⟨i, j, dk, rfl, rfl, hi1, hj1, hia, hjb, rfl, hsk, HR, HP, S1⟩ := hrel
    have wp : IntKind.i64.wrap ((m : Int) - (i : Int)) = ((m - i : Nat) : Int) := by rw [IntKind.wrap_i64]; omega
    by_cases hij : i = j
    · subst hij
      have hcall := HSW.out (m - i) m i dk wr hsk S1.out (by omega) (by omega)
      have HL := Lib.hid (fun d' h => HR.out d' (Rot.last (show i ≤ m by omega) h))
      have HE := Lib.hid (show a ≤ m - i ∧ m + i ≤ b by omega)
      generalize m - i = p at *
      clear S1 HR
      have hne : ((i : Int) != (i : Int)) = false := by simp
      go_wp2_with fail
      refine hcall.mono ?_; rintro e w2 ⟨rfl, d', hS, hP, hW⟩
      have HX := Lib.hid (show Rot d d' a m b from HL.out d' hS)
      have HY := Lib.hid (show PermIn a b d d' from permIn_trans _ _ _ _ _ HP.out (permIn_mono _ _ _ _ _ _ HE.out.1 HE.out.2 (by omega) hP))
      have HZ := Lib.hid hW
      clear hcall hS hP hW HP
      go_wp2
      go_end0
      exact ⟨rfl, d', HX.out, HY.out, HZ.out⟩
    · by_cases hlt : j < i
      · have hg1 : ((i : Int) != (j : Int)) = true := by rw [bne_iff_ne]; omega
        have hg2 : (i : Int) > (j : Int) := by omega
        have hcall := HSW.out (m - i) m j dk wr hsk S1.out (by omega) (by omega)
        have wij : IntKind.i64.wrap ((i : Int) - (j : Int)) = ((i - j : Nat) : Int) := by rw [IntKind.wrap_i64]; omega
        have HL := Lib.hid (fun d1 (h : Swr dk d1 (m - i) m j) d' h2 => HR.out d' (Rot.left (show i ≤ m by omega) hlt h h2))
        have HE := Lib.hid (show a ≤ m - i ∧ m + j ≤ b ∧ 1 ≤ i - j ∧ i - j ≤ m - a ∧ i - j + j < i + j by omega)
        generalize m - i = p at *
        obtain ⟨q, hq⟩ : ∃ q, q = i - j := ⟨_, rfl⟩
        rw [← hq] at wij HE HL
        clear S1 HR
        go_wp2_with fail
        refine hcall.mono ?_; rintro e w2 ⟨rfl, d', hS, hP, hW⟩
        have HX := Lib.hid (fun d2 h => HL.out d' hS d2 h)
        have HY := Lib.hid (show PermIn a b d d' from permIn_trans _ _ _ _ _ HP.out (permIn_mono _ _ _ _ _ _ HE.out.1 HE.out.2.1 (by omega) hP))
        have hz : d'.size = d.size := hP.1.trans hsk
        have S2 : Aside (SWK encIt 2 w0 blk off d' w2) := hW
        clear hcall hS hP hW HP HL
        go_wp2
        go_roundg (q + j)
        case measure => exact HE.out.2.2.2.2
        case rel => exact ⟨q, j, d', by go_num, rfl, HE.out.2.2.1, hj1, HE.out.2.2.2.1, hjb, rfl, hz, HX, HY, S2⟩
      · have hg1 : ((i : Int) != (j : Int)) = true := by rw [bne_iff_ne]; omega
        have hg2 : ¬ (i : Int) > (j : Int) := by omega
        have hcall := HSW.out (m - i) (m + j - i) i dk wr hsk S1.out (by omega) (by omega)
        have wij : IntKind.i64.wrap ((j : Int) - (i : Int)) = ((j - i : Nat) : Int) := by rw [IntKind.wrap_i64]; omega
        have wmj : IntKind.i64.wrap ((m : Int) + (j : Int)) = (m : Int) + (j : Int) := by rw [IntKind.wrap_i64]; omega
        have wmi : IntKind.i64.wrap ((m : Int) + (j : Int) - (i : Int)) = ((m + j - i : Nat) : Int) := by rw [IntKind.wrap_i64]; omega
        have HL := Lib.hid (fun d1 (h : Swr dk d1 (m - i) (m + j - i) i) d' h2 => HR.out d' (Rot.right (show i ≤ m by omega) (show i < j by omega) h h2))
        have HE := Lib.hid (show a ≤ m - i ∧ m + j - i + i ≤ b ∧ 1 ≤ j - i ∧ j - i ≤ b - m ∧ i + (j - i) < i + j by omega)
        obtain ⟨p, hp⟩ : ∃ p, p = m - i := ⟨_, rfl⟩
        rw [← hp] at wp hcall HL HE
        have HPE := Lib.hid hp
        clear hp
        generalize m + j - i = r at *
        obtain ⟨q, hq⟩ : ∃ q, q = j - i := ⟨_, rfl⟩
        rw [← hq] at wij HE HL
        clear S1 HR
        go_wp2_with fail
        refine hcall.mono ?_; rintro e w2 ⟨rfl, d', hS, hP, hW⟩
        have HX := Lib.hid (fun d2 h => HL.out d' hS d2 h)
        have HY := Lib.hid (show PermIn a b d d' from permIn_trans _ _ _ _ _ HP.out (permIn_mono _ _ _ _ _ _ HE.out.1 HE.out.2.1 (by omega) hP))
        have hz : d'.size = d.size := hP.1.trans hsk
        have S2 : Aside (SWK encIt 2 w0 blk off d' w2) := hW
        clear hcall hS hP hW HP HL
        go_wp2
        go_roundg (i + q)
        case measure => exact HE.out.2.2.2.2
        case rel => exact ⟨i, q, d', rfl, by go_num, hi1, HE.out.2.2.1, hia, HE.out.2.2.2.1, rfl, hz, Lib.hid (by rw [← HPE.out]; exact HX.out), HY, S2⟩
end Go.Proofs.Ytcpfekhpbjkgeaa
end
section
/- slices.symMergeCmpFunc, of items. -/
set_option linter.unusedVariables false
namespace Go.Proofs.Ytcpfekhpbjkgeaa
open Go.RowKit Go.Sort
set_option maxHeartbeats 16000000
set_option maxRecDepth 1000000
theorem swk_load {w0 W : World} {blk off : Nat} {d0 dk : Array It} (S : SWK encIt 2 w0 blk off dk W) (R : RowK encIt 2 w0 blk off d0) (hs : dk.size = d0.size) {i : Nat} (hi : i < dk.size) :
    (∀ n os, (grow (W.drewN n) os).cell? ⟨blk, off + i * 2, none⟩ = some (.int .i64 (dk[i]!).t)) ∧ ∀ n os, (grow (W.drewN n) os).cell? ⟨blk, off + i * 2 + 1, none⟩ = some (.int .i64 (dk[i]!).id) :=
  ⟨fun n os => (swk_at (S.grown n os) R hs hi).1.1, fun n os => (swk_at (S.grown n os) R hs hi).1.2⟩
theorem swk_cmp {w0 W : World} {blk off : Nat} {d0 dk : Array It} (S : SWK encIt 2 w0 blk off dk W) (hs : dk.size = d0.size) (x y : It) (n : Nat) (os : Array Obj) :
    Calls Try.prog 51 #[.agg #[.int .i64 x.t, .int .i64 x.id], .agg #[.int .i64 y.t, .int .i64 y.id]] (grow (W.drewN n) os) fun e w' => e = .returned (.int .i64 (itC x y)) ∧ ∃ q os', w' = grow ((grow (W.drewN n) os).drewN q) os' :=
  S.cmp (items_cmp blk off d0.size w0) hs x y n os
theorem itC_neg {x y : It} (h : itB x y = true) : itC x y < 0 := by rw [← itC_lt] at h; exact of_decide_eq_true h
theorem itC_pos {x y : It} (h : itB x y = false) : ¬ itC x y < 0 := by rw [← itC_lt] at h; exact of_decide_eq_false h
/-- The exchange of two items: what a region of it needs, and what stands behind it. -/
theorem swk_swap {w0 W : World} {blk off : Nat} {d0 dk : Array It} (S : SWK encIt 2 w0 blk off dk W) (R : RowK encIt 2 w0 blk off d0) (hs : dk.size = d0.size) (p q : Nat) (hp : p < dk.size) (hq : q < dk.size) :
    ∃ (A1 A2 B1 B2 : Int) (x1 x3 x6 : Value), W.cell? ⟨blk, off + p * 2, none⟩ = some (.int .i64 A1) ∧ W.cell? ⟨blk, off + p * 2 + 1, none⟩ = some (.int .i64 A2) ∧ W.cell? ⟨blk, off + q * 2, none⟩ = some (.int .i64 B1) ∧ W.cell? ⟨blk, off + q * 2 + 1, none⟩ = some (.int .i64 B2) ∧
      (W.frozen? ⟨blk, off + p * 2, none⟩ = false ∧ W.frozen? ⟨blk, off + p * 2 + 1, none⟩ = false ∧ W.frozen? ⟨blk, off + q * 2, none⟩ = false ∧ W.frozen? ⟨blk, off + q * 2 + 1, none⟩ = false) ∧
      (W.setCell ⟨blk, off + p * 2, none⟩ (.int .i64 B1)).cell? ⟨blk, off + p * 2 + 1, none⟩ = some x1 ∧
      ((W.setCell ⟨blk, off + p * 2, none⟩ (.int .i64 B1)).setCell ⟨blk, off + p * 2 + 1, none⟩ (.int .i64 B2)).cell? ⟨blk, off + q * 2, none⟩ = some x3 ∧
      (((W.setCell ⟨blk, off + p * 2, none⟩ (.int .i64 B1)).setCell ⟨blk, off + p * 2 + 1, none⟩ (.int .i64 B2)).setCell ⟨blk, off + q * 2, none⟩ (.int .i64 A1)).cell? ⟨blk, off + q * 2 + 1, none⟩ = some x6 ∧
      Aside (SWK encIt 2 w0 blk off (swp dk p q) ((((W.setCell ⟨blk, off + p * 2, none⟩ (.int .i64 B1)).setCell ⟨blk, off + p * 2 + 1, none⟩ (.int .i64 B2)).setCell ⟨blk, off + q * 2, none⟩ (.int .i64 A1)).setCell ⟨blk, off + q * 2 + 1, none⟩ (.int .i64 A2)).drew) := by
  have S2 : Aside (SWK encIt 2 w0 blk off (swp dk p q) ((W.drew.setCells blk (off + p * 2) (encIt dk[q]!)).setCells blk (off + q * 2) (encIt dk[p]!))) := S.swapped R p q hp hq
  obtain ⟨⟨a0, a1⟩, f0, f1⟩ := swk_at S R hs hp
  obtain ⟨⟨b0, b1⟩, f2, f3⟩ := swk_at S R hs hq
  obtain ⟨x1, y1⟩ := some_set (q := ⟨blk, off + p * 2, none⟩) (v := .int .i64 (dk[q]!).t) a1
  obtain ⟨x2, y2⟩ := some_set (q := ⟨blk, off + p * 2, none⟩) (v := .int .i64 (dk[q]!).t) b0
  obtain ⟨x3, y3⟩ := some_set (q := ⟨blk, off + p * 2 + 1, none⟩) (v := .int .i64 (dk[q]!).id) y2
  obtain ⟨x4, y4⟩ := some_set (q := ⟨blk, off + p * 2, none⟩) (v := .int .i64 (dk[q]!).t) b1
  obtain ⟨x5, y5⟩ := some_set (q := ⟨blk, off + p * 2 + 1, none⟩) (v := .int .i64 (dk[q]!).id) y4
  obtain ⟨x6, y6⟩ := some_set (q := ⟨blk, off + q * 2, none⟩) (v := .int .i64 (dk[p]!).t) y5
  exact ⟨_, _, _, _, x1, x3, x6, a0, a1, b0, b1, ⟨f0, f1, f2, f3⟩, y1, y3, y6, S2⟩
/-- One item on the one side, or on the other. -/
theorem symMerge_ends (blk off cap : Nat) (d0 : Array It) (w0 : World) (R : RowK encIt 2 w0 blk off d0) (hsz : d0.size < 4611686018427387904)
    (a m b : Nat) (d : Array It) (w : World) (hs : d0.size = d.size) (S : SWK encIt 2 w0 blk off d w) (ham : a < m) (hmb : m < b) (hb : b ≤ d.size) (s1 : SortedIn itB a m d) (s2 : SortedIn itB m b d) (h12 : m = a + 1 ∨ b = m + 1) :
    Calls Try.prog 82 #[.slice (some ⟨blk, off, none⟩) d.size cap, .int .i64 a, .int .i64 m, .int .i64 b, .func (.func 51) #[] #[]] w fun e w' =>
      e = .returned (.tuple #[]) ∧ ∃ d', PermIn a b d d' ∧ SortedIn itB a b d' ∧ SWK encIt 2 w0 blk off d' w' := by
    have S0 : Aside (SWK encIt 2 w0 blk off d w) := S
    have HS1 := Lib.hid s1
    have HS2 := Lib.hid s2
    have H12 := Lib.hid h12
    clear S s1 s2 h12
    have mixed : Try.prog.follows .mixedOrders = true := by kernel_rfl
    have wm : IntKind.i64.wrap ((m : Int) - (a : Int)) = (m : Int) - (a : Int) := by rw [IntKind.wrap_i64]; omega
    have wb : IntKind.i64.wrap ((b : Int) - (m : Int)) = (b : Int) - (m : Int) := by rw [IntKind.wrap_i64]; omega
    go_enter Try.func82, Try.ntmps82
    by_cases h1 : m = a + 1
    · subst h1
      have g1 : (((a + 1 : Nat) : Int) - (a : Int) == 1) = true := by rw [beq_iff_eq]; omega
      rw [show ((a + 1 : Nat) : Int) = (a : Int) + 1 by omega] at g1
      clear wm wb
      have wm : IntKind.i64.wrap ((a : Int) + 1 - (a : Int)) = (a : Int) + 1 - (a : Int) := by rw [IntKind.wrap_i64]; omega
      go_wp2_with fail
      go_loopg [10, 11] (b - (a + 1)) (fun gk s10 s11 wr => ∃ (i j : Nat), s10 = .int .i64 i ∧ s11 = .int .i64 j ∧ a + 1 ≤ i ∧ i ≤ j ∧ j ≤ b ∧ gk = j - i ∧ Hid (i = a + 1 ∨ itB d[i - 1]! d[a]! = true) ∧ Hid (j = b ∨ itB d[j]! d[a]! = false) ∧ Aside (SWK encIt 2 w0 blk off d wr))
      case atStart => exact ⟨a + 1, b, by go_num, rfl, Nat.le_refl _, by omega, Nat.le_refl _, rfl, Lib.hid (Or.inl rfl), Lib.hid (Or.inl rfl), S0⟩
      case round =>
        clear S0
        obtain ⟨i, j, rfl, rfl, hmi, hij, hjb, rfl, HI, HJ, S1⟩ := hrel
        by_cases hlt : i < j
        · have hltz : (i : Int) < (j : Int) := by omega
          have wij : IntKind.i64.wrap ((i : Int) + (j : Int)) = (i : Int) + (j : Int) := by rw [IntKind.wrap_i64]; omega
          obtain ⟨lx1, lx2⟩ := swk_load S1.out R (by omega) (i := (i + j) / 2) (by omega)
          obtain ⟨ly1, ly2⟩ := swk_load S1.out R (by omega) (i := a) (by omega)
          have HN := Lib.hid (show i ≤ (i + j) / 2 ∧ (i + j) / 2 < j by omega)
          have hb1 : ((i : Int) + (j : Int)) / 2 < (d.size : Int) := by omega
          have hb2 : (a : Int) < (d.size : Int) := by omega
          have hb3 : (0 : Int) ≤ ((i : Int) + (j : Int)) / 2 := by omega
          have e3 : (((i : Int) + (j : Int)) / 2).toNat = (i + j) / 2 := by omega
          have hc := swk_cmp S1.out (d0 := d0) (by omega) d[(i + j) / 2]! d[a]!
          cases hB : itB d[(i + j) / 2]! d[a]! with
          | true =>
            have hv := itC_neg hB
            have HB := Lib.hid hB
            clear hB
            obtain ⟨X, hX⟩ : ∃ X, X = d[(i + j) / 2]! := ⟨_, rfl⟩
            have HX := Lib.hid hX.symm
            rw [← hX] at lx1 lx2 hc hv HB
            clear hX
            go_wp2_with fail
            go_quiet_grown (first | (go_at_call 51; refine Calls.grown_of (hc _ _)))
            have S2 : Aside (SWK encIt 2 w0 blk off d (grow (wr.drewN nq) osq)) := S1.out.grown nq osq
            clear lx1 lx2 ly1 ly2 hc S1
            generalize grow (wr.drewN nq) osq = w2 at S2 ⊢
            go_wp2
            go_roundg (j - ((i + j) / 2 + 1))
            case measure => have := HN.out; omega
            case rel => exact ⟨(i + j) / 2 + 1, j, by go_num, rfl, by have := HN.out; omega, by have := HN.out; omega, hjb, rfl, Lib.hid (Or.inr (by rw [Nat.add_sub_cancel, HX.out]; exact HB.out)), HJ, S2⟩
          | false =>
            have hv := itC_pos hB
            have HB := Lib.hid hB
            clear hB
            obtain ⟨X, hX⟩ : ∃ X, X = d[(i + j) / 2]! := ⟨_, rfl⟩
            have HX := Lib.hid hX.symm
            rw [← hX] at lx1 lx2 hc hv HB
            clear hX
            go_wp2_with fail
            go_quiet_grown (first | (go_at_call 51; refine Calls.grown_of (hc _ _)))
            have S2 : Aside (SWK encIt 2 w0 blk off d (grow (wr.drewN nq) osq)) := S1.out.grown nq osq
            clear lx1 lx2 ly1 ly2 hc S1
            generalize grow (wr.drewN nq) osq = w2 at S2 ⊢
            go_wp2
            go_roundg ((i + j) / 2 - i)
            case measure => have := HN.out; omega
            case rel => exact ⟨i, (i + j) / 2, rfl, by go_num, hmi, HN.out.1, by have := HN.out; omega, rfl, HI, Lib.hid (Or.inr (by rw [HX.out]; exact HB.out)), S2⟩
        · obtain rfl : i = j := by omega
          have hge : ¬ (i : Int) < (i : Int) := by omega
          have wi1 : IntKind.i64.wrap ((i : Int) - 1) = (i : Int) - 1 := by rw [IntKind.wrap_i64]; omega
          go_wp2_with fail
          go_loopg [13] (i - a) (fun gk s13 wr => ∃ (k : Nat) (dk : Array It), s13 = .int .i64 k ∧ a ≤ k ∧ k + 1 ≤ i ∧ gk = i - k ∧ dk.size = d.size ∧ Hid (Rot d dk a (a + 1) (k + 1)) ∧ Hid (PermIn a b d dk) ∧ Aside (SWK encIt 2 w0 blk off dk wr))
          case atStart => exact ⟨a, d, rfl, Nat.le_refl _, by omega, rfl, rfl, Lib.hid (Rot.same (Nat.le_succ _) (Nat.le_refl _) (Or.inr rfl)), Lib.hid (permIn_refl d a b), S1⟩
          case round =>
            clear S1
            obtain ⟨k, dk, rfl, hak, hki, rfl, hsk, HR, HP, S1⟩ := hrel
            by_cases hk2 : k + 1 < i
            · have hk3 : (k : Int) < (i : Int) - 1 := by omega
              have wk1 : IntKind.i64.wrap ((k : Int) + 1) = (k : Int) + 1 := by rw [IntKind.wrap_i64]; omega
              have hb1 : (k : Int) + 1 < (d.size : Int) := by omega
              have hb2 : (k : Int) < (d.size : Int) := by omega
              have e1 : ((k : Int) + 1).toNat = k + 1 := by omega
              have e0 : (0 : Int) ≤ (k : Int) + 1 := by omega
              have HR2 := Lib.hid (HR.out.up hak (by omega))
              have HP2 := Lib.hid (swp_in d dk HP.out (show a ≤ k by omega) (show k < b by omega) (show a ≤ k + 1 by omega) (show k + 1 < b by omega) (by omega))
              obtain ⟨A1, A2, B1, B2, x1, x3, x6, a0, a1, b0, b1, ⟨f0, f1, f2, f3⟩, y1, y3, y6, S3⟩ := swk_swap S1.out R (by omega) (k) (k + 1) (by omega) (by omega)
              have hz : (swp dk (k) (k + 1)).size = d.size := by rw [size_swp]; exact hsk
              generalize swp dk (k) (k + 1) = dn at *
              clear S1
              go_wp2_with fail
              go_big_region_o
              clear a0 a1 b0 b1 f0 f1 f2 f3 y1 y3 y6
              generalize ((((wr.setCell ⟨blk, off + (k) * 2, none⟩ (.int .i64 B1)).setCell ⟨blk, off + (k) * 2 + 1, none⟩ (.int .i64 B2)).setCell ⟨blk, off + (k + 1) * 2, none⟩ (.int .i64 A1)).setCell ⟨blk, off + (k + 1) * 2 + 1, none⟩ (.int .i64 A2)).drew = w1 at S3 ⊢
              go_wp2
              go_roundg (i - (k + 1))
              case measure => omega
              case rel => exact ⟨k + 1, dn, by go_num, by omega, by omega, rfl, hz, HR2, HP2, S3⟩
            · have hk3 : ¬ (k : Int) < (i : Int) - 1 := by omega
              have hki2 : k + 1 = i := by omega
              have HE := Lib.hid (merge_head itB_swo (HS2.out) hmi hjb HJ.out HI.out (hki2 ▸ HR.out))
              go_wp2
              (try simp only [Exit.inBlock, Exit.then]); refine bodyPost_ret (results_none rfl _ _ _) rfl ?_
              exact ⟨rfl, dk, HP.out, HE.out, S1.out⟩
    · have g1 : ((m : Int) - (a : Int) == 1) = false := by rw [beq_eq_false_iff_ne]; omega
      by_cases h2 : b = m + 1
      · subst h2
        have g2 : (((m + 1 : Nat) : Int) - (m : Int) == 1) = true := by rw [beq_iff_eq]; omega
        rw [show ((m + 1 : Nat) : Int) = (m : Int) + 1 by omega] at g2 wb
        go_wp2_with fail
        go_loopg [14, 15] (m - a) (fun gk s14 s15 wr => ∃ (i j : Nat), s14 = .int .i64 i ∧ s15 = .int .i64 j ∧ a ≤ i ∧ i ≤ j ∧ j ≤ m ∧ gk = j - i ∧ Hid (i = a ∨ itB d[m]! d[i - 1]! = false) ∧ Hid (j = m ∨ itB d[m]! d[j]! = true) ∧ Aside (SWK encIt 2 w0 blk off d wr))
        case atStart => exact ⟨a, m, rfl, rfl, Nat.le_refl _, by omega, Nat.le_refl _, rfl, Lib.hid (Or.inl rfl), Lib.hid (Or.inl rfl), S0⟩
        case round =>
          clear S0
          obtain ⟨i, j, rfl, rfl, hmi, hij, hjb, rfl, HI, HJ, S1⟩ := hrel
          by_cases hlt : i < j
          · have hltz : (i : Int) < (j : Int) := by omega
            have wij : IntKind.i64.wrap ((i : Int) + (j : Int)) = (i : Int) + (j : Int) := by rw [IntKind.wrap_i64]; omega
            obtain ⟨lx1, lx2⟩ := swk_load S1.out R (by omega) (i := (i + j) / 2) (by omega)
            obtain ⟨ly1, ly2⟩ := swk_load S1.out R (by omega) (i := m) (by omega)
            have HN := Lib.hid (show i ≤ (i + j) / 2 ∧ (i + j) / 2 < j by omega)
            have hb1 : ((i : Int) + (j : Int)) / 2 < (d.size : Int) := by omega
            have hb2 : (m : Int) < (d.size : Int) := by omega
            have hb3 : (0 : Int) ≤ ((i : Int) + (j : Int)) / 2 := by omega
            have e3 : (((i : Int) + (j : Int)) / 2).toNat = (i + j) / 2 := by omega
            have hc := swk_cmp S1.out (d0 := d0) (by omega) d[m]! d[(i + j) / 2]!
            cases hB : itB d[m]! d[(i + j) / 2]! with
            | true =>
              have hv := itC_neg hB
              have HB := Lib.hid hB
              clear hB
              obtain ⟨X, hX⟩ : ∃ X, X = d[(i + j) / 2]! := ⟨_, rfl⟩
              have HX := Lib.hid hX.symm
              rw [← hX] at lx1 lx2 hc hv HB
              clear hX
              go_wp2_with fail
              go_quiet_grown (first | (go_at_call 51; refine Calls.grown_of (hc _ _)))
              have S2 : Aside (SWK encIt 2 w0 blk off d (grow (wr.drewN nq) osq)) := S1.out.grown nq osq
              clear lx1 lx2 ly1 ly2 hc S1
              generalize grow (wr.drewN nq) osq = w2 at S2 ⊢
              go_wp2
              go_roundg ((i + j) / 2 - i)
              case measure => have := HN.out; omega
              case rel => exact ⟨i, (i + j) / 2, rfl, by go_num, hmi, HN.out.1, by have := HN.out; omega, rfl, HI, Lib.hid (Or.inr (by rw [HX.out]; exact HB.out)), S2⟩
            | false =>
              have hv := itC_pos hB
              have hd : decide (itC d[m]! d[(i + j) / 2]! < 0) = false := decide_eq_false hv
              have HB := Lib.hid hB
              clear hB
              obtain ⟨X, hX⟩ : ∃ X, X = d[(i + j) / 2]! := ⟨_, rfl⟩
              have HX := Lib.hid hX.symm
              rw [← hX] at lx1 lx2 hc hv hd HB
              clear hX hv
              go_wp2_with fail
              go_quiet_grown (first | (go_at_call 51; refine Calls.grown_of (hc _ _)))
              have S2 : Aside (SWK encIt 2 w0 blk off d (grow (wr.drewN nq) osq)) := S1.out.grown nq osq
              clear lx1 lx2 ly1 ly2 hc S1
              generalize grow (wr.drewN nq) osq = w2 at S2 ⊢
              go_wp2
              go_roundg (j - ((i + j) / 2 + 1))
              case measure => have := HN.out; omega
              case rel => exact ⟨(i + j) / 2 + 1, j, by go_num, rfl, by have := HN.out; omega, by have := HN.out; omega, hjb, rfl, Lib.hid (Or.inr (by rw [Nat.add_sub_cancel, HX.out]; exact HB.out)), HJ, S2⟩
          · obtain rfl : i = j := by omega
            have hge : ¬ (i : Int) < (i : Int) := by omega
            go_wp2_with fail
            go_loopg [17] (m - i) (fun gk s17 wr => ∃ (k : Nat) (dk : Array It), s17 = .int .i64 k ∧ i ≤ k ∧ k ≤ m ∧ gk = k - i ∧ dk.size = d.size ∧ Hid (Rot d dk k m (m + 1)) ∧ Hid (PermIn a (m + 1) d dk) ∧ Aside (SWK encIt 2 w0 blk off dk wr))
            case atStart => exact ⟨m, d, rfl, hjb, Nat.le_refl _, rfl, rfl, Lib.hid (Rot.same (Nat.le_refl _) (Nat.le_succ _) (Or.inl rfl)), Lib.hid (permIn_refl d a (m + 1)), S1⟩
            case round =>
              clear S1
              obtain ⟨k, dk, rfl, hak, hki, rfl, hsk, HR, HP, S1⟩ := hrel
              by_cases hk2 : i < k
              · obtain ⟨q, rfl⟩ : ∃ q, k = q + 1 := ⟨k - 1, by omega⟩
                have hk3 : (i : Int) < (q : Int) + 1 := by omega
                have wk1 : IntKind.i64.wrap ((q : Int) + 1 - 1) = (q : Int) := by rw [IntKind.wrap_i64]; omega
                have wk2 : IntKind.i64.wrap (q : Int) = (q : Int) := by rw [IntKind.wrap_i64]; omega
                have hb1 : (q : Int) + 1 < (d.size : Int) := by omega
                have hb2 : (q : Int) < (d.size : Int) := by omega
                have e1 : ((q : Int) + 1).toNat = q + 1 := by omega
                have e0 : (0 : Int) ≤ (q : Int) + 1 := by omega
                have HR2 := Lib.hid (HR.out.down (by omega) (by omega))
                have HP2 := Lib.hid (swp_in d dk HP.out (show a ≤ q + 1 by omega) (show q + 1 < m + 1 by omega) (show a ≤ q by omega) (show q < m + 1 by omega) (by omega))
                obtain ⟨A1, A2, B1, B2, x1, x3, x6, a0, a1, b0, b1, ⟨f0, f1, f2, f3⟩, y1, y3, y6, S3⟩ := swk_swap S1.out R (by omega) (q + 1) (q) (by omega) (by omega)
                have hz : (swp dk (q + 1) (q)).size = d.size := by rw [size_swp]; exact hsk
                generalize swp dk (q + 1) (q) = dn at *
                clear S1
                go_wp2_with fail
                go_big_region_o
                clear a0 a1 b0 b1 f0 f1 f2 f3 y1 y3 y6
                generalize ((((wr.setCell ⟨blk, off + (q + 1) * 2, none⟩ (.int .i64 B1)).setCell ⟨blk, off + (q + 1) * 2 + 1, none⟩ (.int .i64 B2)).setCell ⟨blk, off + (q) * 2, none⟩ (.int .i64 A1)).setCell ⟨blk, off + (q) * 2 + 1, none⟩ (.int .i64 A2)).drew = w1 at S3 ⊢
                go_wp2
                go_roundg (q - i)
                case measure => omega
                case rel => exact ⟨q, dn, by go_num, by omega, by omega, rfl, hz, HR2, HP2, S3⟩
              · obtain rfl : i = k := by omega
                have hk3 : ¬ (i : Int) < (i : Int) := by omega
                have HE := Lib.hid (merge_tail itB_swo (HS1.out) hmi hjb HI.out HJ.out HR.out)
                go_wp2
                (try simp only [Exit.inBlock, Exit.then]); refine bodyPost_ret (results_none rfl _ _ _) rfl ?_
                exact ⟨rfl, dk, HP.out, HE.out, S1.out⟩
      · exact absurd H12.out (by omega)
end Go.Proofs.Ytcpfekhpbjkgeaa
end
