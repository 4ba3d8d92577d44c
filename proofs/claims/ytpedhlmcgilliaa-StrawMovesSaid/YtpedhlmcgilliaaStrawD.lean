/- Straws.Pick. -/
import Derived.Test.YtpedhlmcgilliaaStrawB
import Derived.Test.YtpedhlmcgilliaaStrawC
import Derived.RegionTactic
set_option linter.unusedVariables false
namespace Go.Proofs.Ytpedhlmcgilliaa
open Go.RowKit
set_option maxHeartbeats 2000000
set_option maxRecDepth 100000
theorem IsPairs.mod {w w' : World} {S : Nat → Prop} {k0 k1 : IntKind} {A : Option Addr} {n c : Nat} {l : List (Int × Int)} (h : IsPairs w k0 k1 A n c l) (hx : Mod S w w') (hn : 0 < n → ∀ ad, A = some ad → ¬ S ad.block) : IsPairs w' k0 k1 A n c l :=
  ⟨h.len, h.cap, h.small, h.reach, h.wf, fun hnn => by
    obtain ⟨ad, ha, hb, hc⟩ := h.cells hnn
    have hs := hn hnn ad ha
    exact ⟨ad, ha, Nat.lt_of_lt_of_le hb hx.size, fun i q hq => ⟨(hx.cell (by rw [block_of_add]; exact hb) (by rw [block_of_add]; exact hs)).trans (hc i q hq).1, (hx.cell (by rw [block_of_add]; exact hb) (by rw [block_of_add]; exact hs)).trans (hc i q hq).2⟩⟩⟩
/-- What the least straw's place holds, as the k first are seen. -/
def LeastAt (key : Int) (l : List (Int × Int)) (B : Int) (g : Nat) (w : World) : Prop :=
  ∃ u d : Int, Blk w g 48 #[.int .u64 u, .int .u64 d] ∧ (0 ≤ B → u = lenI key (l.getD B.toNat (0, 0)).1 ∧ d = (l.getD B.toNat (0, 0)).2)
theorem cmp_frac {au ad bu bd : Int} (h1 : 0 < ad) (h2 : 0 < bd) : fracI au ad bu bd = cmpI (au * bd) (bu * ad) := by
  unfold fracI; rw [if_neg (by omega), if_neg (by omega)]
theorem Tab.far {w : World} {b r : Nat} {T : TypeId} {cs : Array Value} (h : Tab w b T) (R : Blk w r 48 cs) (hrb : ¬ r = b) (i : Nat) (v : Value) : Tab (w.setCell ⟨r, i, none⟩ v) b T := by
  rcases h with h | h
  · exact .inl (h.far (p := ⟨r, i, none⟩) (fun e => hrb e.symm) _)
  · exact .inr (h.far R hrb i v)
theorem store_least {w wb : World} {b g : Nat} {T : TypeId} {cs : Array Value} (hT : Tab wb b T) (hM : Mod (· = b) w wb) (R : Blk wb g 48 cs) (h2 : cs.size = 2) (hgb : ¬ g = b) (hg : w.heap.size ≤ g) (m : Nat) (x y : Int) :
    Tab (((wb.drewN m).setCell ⟨g, 0, none⟩ (.int .u64 x)).setCell ⟨g, 1, none⟩ (.int .u64 y)) b T ∧ Mod (· = b) w (((wb.drewN m).setCell ⟨g, 0, none⟩ (.int .u64 x)).setCell ⟨g, 1, none⟩ (.int .u64 y)) ∧
    Blk (((wb.drewN m).setCell ⟨g, 0, none⟩ (.int .u64 x)).setCell ⟨g, 1, none⟩ (.int .u64 y)) g 48 #[.int .u64 x, .int .u64 y] := by
  obtain ⟨cs⟩ := cs
  match cs, h2 with
  | [c0, c1], _ =>
    have hT1 : Tab (wb.drewN m) b T := hT
    have R1 : Blk (wb.drewN m) g 48 #[c0, c1] := R
    have R2 := R1.setTo 0 (.int .u64 x) (ds := #[.int .u64 x, c1]) rfl
    exact ⟨(hT1.far R1 hgb 0 _).far R2 hgb 1 _, ((hM.drewN m).fresh hg 0 _).fresh hg 1 _, R2.setTo 1 (.int .u64 y) rfl⟩
theorem straws_Pick (b : Nat) (T : TypeId) (key : Int) (A : Option Addr) (n c : Nat) (l : List (Int × Int)) (k0 : 0 ≤ key) (k1 : key < 18446744073709551616) (w : World) (hl : IsPairs w .u64 .u64 A n c l)
    (hA : 0 < n → ∀ ad, A = some ad → ¬ ad.block = b) (hT : Tab w b T) :
    Calls Try.prog 13 #[.pointer (some ⟨b, 0, none⟩), .int .u64 key, .slice A n c] w fun e w' => e = .returned (.int .i64 (pickTo (lenI key) l n)) ∧ Tab w' b T ∧ Mod (· = b) w w' := by
  have hn := hl.reach
  have hcap := hl.cap
  have hsm := hl.small
  have hblt := hT.lt
  have hT0 := hT.alloc (.cells #[.int .u64 0, .int .u64 0] 48)
  have hM0 : Mod (· = b) w (w.alloc (.cells #[.int .u64 0, .int .u64 0] 48)) := (Mod.refl _ _).alloc _
  have hL0 : LeastAt key l (-1) w.heap.size (w.alloc (.cells #[.int .u64 0, .int .u64 0] 48)) := ⟨0, 0, Blk.new _ _ _, fun h => absurd h (by decide)⟩
  go_enter Try.func13, Try.ntmps13
  go_wp2_with fail
  go_loopg [7, 18] n (fun gk s7 s18 wr => ∃ k : Nat, k ≤ n ∧ gk = n - k ∧ s18 = .int .i64 k ∧ s7 = .int .i64 (pickTo (lenI key) l k) ∧ Tab wr b T ∧ Mod (· = b) w wr ∧ LeastAt key l (pickTo (lenI key) l k) w.heap.size wr)
  case atStart => exact ⟨0, Nat.zero_le _, rfl, rfl, rfl, hT0, hM0, hL0⟩
  case round =>
    clear hT0 hM0 hL0
    obtain ⟨k, hk, rfl, rfl, rfl, hT', hM, hL⟩ := hrel
    have hbd := pick_bd (lenI key) l k
    obtain ⟨B, hB⟩ : ∃ B, B = pickTo (lenI key) l k := ⟨_, rfl⟩
    rw [← hB] at hbd hL ⊢
    have HB := Lib.hid hB
    clear hB
    by_cases hlt : k < n
    · obtain ⟨ad, rfl, hbk, c0, c1, w0, w1⟩ := (hl.mod hM hA).at_ hlt
      have hki : (k : Int) < (n : Int) := by omega
      have hne : ¬ ad.block = b := hA (by omega) ad rfl
      obtain ⟨x, hx⟩ : ∃ f, f = l.getD k (0, 0) := ⟨_, rfl⟩
      rw [← hx] at c0 c1 w0 w1
      have HX := Lib.hid hx
      clear hx
      have nx := Lib.hid (show IsNum x.1 x.2 from ⟨(u64_of_wf w0).1, (u64_of_wf w0).2, (u64_of_wf w1).1, (u64_of_wf w1).2⟩)
      have x2 := (u64_of_wf w1).1
      clear w0 w1
      by_cases hw : x.2 = 0
      · have hw' : (x.2 == 0) = true := by simp [hw]
        have HS := Lib.hid (pick_no' HB.out HX.out (fun h => by omega))
        have hT2 := hT'.alloc (.cells #[.int .u64 x.1, .int .u64 x.2] 25)
        have hM2 := hM.alloc (.cells #[.int .u64 x.1, .int .u64 x.2] 25)
        obtain ⟨u, d, hLb, hLe⟩ := hL
        have hL2 : LeastAt key l B w.heap.size (wr.alloc (.cells #[.int .u64 x.1, .int .u64 x.2] 25)) := ⟨u, d, hLb.alloc _, hLe⟩
        clear hLb hLe hT' hM hw
        go_wp2_with fail
        go_roundg (n - (k + 1))
        case measure => omega
        case rel => exact ⟨k + 1, by omega, rfl, by go_num, by rw [HS.out], hT2, hM2, by rw [HS.out]; exact hL2⟩
      · have hw' : (x.2 == 0) = false := by simp [hw]
        have hw0 : 0 < x.2 := by omega
        obtain ⟨u, d, hLb, hLe⟩ := hL
        have hLi := Lib.hid hLe
        clear hLe
        have hXb := Blk.new wr 25 #[.int .u64 x.1, .int .u64 x.2]
        have hLb1 := hLb.alloc (.cells #[.int .u64 x.1, .int .u64 x.2] 25)
        have hT2 := hT'.alloc (.cells #[.int .u64 x.1, .int .u64 x.2] 25)
        have hM2 := hM.alloc (.cells #[.int .u64 x.1, .int .u64 x.2] 25)
        have hgb : ¬ w.heap.size = b := by omega
        have hXne : ¬ wr.heap.size = b := by have := hT'.lt; omega
        have hXg : ¬ wr.heap.size = w.heap.size := by have := hLb.lt; omega
        go_wp2_with fail
        generalize wr.alloc (.cells #[.int .u64 x.1, .int .u64 x.2] 25) = wa at *
        refine (straws_Long b T key x.1 x.2 k0 k1 nx.out _ hT2).mono ?_; rintro e w1 ⟨rfl, hF, hm⟩
        have hT3 : Tab w1 b T := .inr hF
        have hX3 := hXb.mod hm hXne
        have hL3 := hLb1.mod hm hgb
        have hM3 := hM2.trans hm
        have hla := len_bd key x.1
        clear hF hm hXb hLb hLb1 hT2 hM2 hT' c0 c1
        obtain ⟨lx, hlx⟩ : ∃ f, f = lenI key x.1 := ⟨_, rfl⟩
        rw [← hlx] at hla ⊢
        have HLX := Lib.hid hlx
        clear hlx
        have hF4 := Blk.new w1 48 #[.int .u64 lx, .int .u64 x.2]
        have hX4 := hX3.alloc (.cells #[.int .u64 lx, .int .u64 x.2] 48)
        have hL4 := hL3.alloc (.cells #[.int .u64 lx, .int .u64 x.2] 48)
        have hT4 := hT3.alloc (.cells #[.int .u64 lx, .int .u64 x.2] 48)
        have hM4 := hM3.alloc (.cells #[.int .u64 lx, .int .u64 x.2] 48)
        have hgl := hL3.lt
        clear hX3 hT3 hM3 hL3
        by_cases hneg : B < 0
        · have hg : decide (B < 0) = true := decide_eq_true hneg
          have HS := Lib.hid (pick_yes' HB.out HX.out ⟨hw0, .inl hneg⟩)
          go_wp2_with fail
          generalize w1.alloc (.cells #[.int .u64 lx, .int .u64 x.2] 48) = wb at *
          obtain ⟨x0, x1, _⟩ := hX4.cells2
          obtain ⟨l0, l1, _⟩ := hL4.cells2
          obtain ⟨y0, y1, _⟩ := hF4.cells2
          obtain ⟨lf0, lf1⟩ := hL4.free2
          go_quiet (fail)
          go_wp2_with fail
          go_region
          obtain ⟨hT5, hM5, hL5⟩ := store_least hT4 hM4 hL4 rfl hgb (Nat.le_refl _) (nq + 1) lx x.2
          have hL6 : LeastAt key l (k : Int) w.heap.size _ := ⟨lx, x.2, hL5, fun _ => by rw [Int.toNat_natCast, ← HX.out]; exact ⟨HLX.out, rfl⟩⟩
          clear hL5 hT4 hM4 hL4 hX4 hF4 x0 x1 l0 l1 y0 y1 lf0 lf1
          go_wp2
          go_roundg (n - (k + 1))
          case measure => omega
          case rel => exact ⟨k + 1, by omega, rfl, by go_num, by rw [HS.out], hT5, hM5, by rw [HS.out]; exact hL6⟩
        · have hg : decide (B < 0) = false := decide_eq_false hneg
          have hB0 : 0 ≤ B := by omega
          have hBn : B < (n : Int) := by omega
          obtain ⟨hu, hd⟩ := hLi.out hB0
          obtain ⟨ad', e', _, c0, _, v0, v1⟩ := (hl.mod hM4 hA).at_ (k := B.toNat) (by omega)
          obtain rfl : ad' = ad := by injection e' with e'; exact e'.symm
          have hyp := pick_pos (lenI key) l k (by rw [← HB.out]; exact hB0)
          rw [← HB.out] at hyp
          obtain ⟨y, hy⟩ : ∃ f, f = l.getD B.toNat (0, 0) := ⟨_, rfl⟩
          rw [← hy] at c0 v0 v1 hu hd hyp
          have HY := Lib.hid hy
          have ny : IsNum y.1 y.2 := ⟨(u64_of_wf v0).1, (u64_of_wf v0).2, (u64_of_wf v1).1, (u64_of_wf v1).2⟩
          have hub := len_bd key y.1
          rw [← hu] at hub
          rw [← hd] at hyp
          have nd : IsNum u d := ⟨by omega, by omega, by rw [hd]; exact ny.l0, by rw [hd]; exact ny.l1⟩
          have HU := Lib.hid hu
          have HD := Lib.hid hd
          clear hy v0 v1 hu hd e' ny
          have C1 := fun w => wide_FracCmp lx x.2 u d ⟨by omega, by omega, nx.out.l0, nx.out.l1⟩ nd w
          rw [cmp_frac hw0 hyp] at C1
          obtain ⟨C, hC⟩ : ∃ C, C = cmpI (lx * d) (u * x.2) := ⟨_, rfl⟩
          rw [← hC] at C1
          have hsh : shP (lenI key) x (l.getD B.toNat (0, 0)) = (decide (C < 0) || (C == 0 && decide (x.1 < y.1))) := by
            rw [← HY.out, hC]
            unfold shP cmpI
            rw [← HLX.out, ← HU.out, ← HD.out]
            (repeat' split) <;> simp_all <;> omega
          have HSH := Lib.hid hsh
          clear hC hsh
          obtain ⟨l0, l1, _⟩ := hL4.cells2
          obtain ⟨y0, y1, _⟩ := hF4.cells2
          go_wp2_with fail
          generalize w1.alloc (.cells #[.int .u64 lx, .int .u64 x.2] 48) = wb at *
          refine (C1 _).mono ?_; rintro e w2 ⟨rfl, hx2⟩
          have hT5 := hT4.keep hx2
          have hM5 := hM4.thenB hx2
          have hX5 := hX4.keep hx2
          have hL5 := hL4.keep hx2
          have hF5 := hF4.keep hx2
          have d0 := cell_keep c0 hx2
          clear hT4 hM4 hX4 hL4 hF4 c0 l0 l1 y0 y1 C1 hx2 hub nd
          obtain ⟨x0, x1, _⟩ := hX5.cells2
          obtain ⟨l0, l1, _⟩ := hL5.cells2
          obtain ⟨y0, y1, _⟩ := hF5.cells2
          obtain ⟨lf0, lf1⟩ := hL5.free2
          have hi2 : B < (n : Int) := by omega
          by_cases hyes : C < 0 ∨ (C = 0 ∧ x.1 < y.1)
          · have HS := Lib.hid (pick_yes' HB.out HX.out ⟨hw0, .inr (by rw [HSH.out]; rcases hyes with h | ⟨h, h'⟩ <;> simp [h, *])⟩)
            clear HSH
            rcases hyes with h | ⟨h, h'⟩
            · have g1 : decide (C < 0) = true := decide_eq_true h
              go_wp2_with fail
              go_quiet (fail)
              go_wp2_with fail
              go_region
              obtain ⟨hT6, hM6, hL6⟩ := store_least hT5 hM5 hL5 rfl hgb (Nat.le_refl _) (nq + 1) lx x.2
              have hL7 : LeastAt key l (k : Int) w.heap.size _ := ⟨lx, x.2, hL6, fun _ => by rw [Int.toNat_natCast, ← HX.out]; exact ⟨HLX.out, rfl⟩⟩
              clear hL6 hT5 hM5 hL5 hX5 hF5 x0 x1 l0 l1 y0 y1 lf0 lf1
              go_wp2
              go_roundg (n - (k + 1))
              case measure => omega
              case rel => exact ⟨k + 1, by omega, rfl, by go_num, by rw [HS.out], hT6, hM6, by rw [HS.out]; exact hL7⟩
            · have g1 : decide (C < 0) = false := decide_eq_false (by omega)
              have g2 : (C == 0) = true := by simp [h]
              have g3 : decide (x.1 < y.1) = true := decide_eq_true h'
              clear h
              go_wp2_with fail
              go_quiet (fail)
              go_wp2_with fail
              go_region
              obtain ⟨hT6, hM6, hL6⟩ := store_least hT5 hM5 hL5 rfl hgb (Nat.le_refl _) (nq + 1) lx x.2
              have hL7 : LeastAt key l (k : Int) w.heap.size _ := ⟨lx, x.2, hL6, fun _ => by rw [Int.toNat_natCast, ← HX.out]; exact ⟨HLX.out, rfl⟩⟩
              clear hL6 hT5 hM5 hL5 hX5 hF5 x0 x1 l0 l1 y0 y1 lf0 lf1
              go_wp2
              go_roundg (n - (k + 1))
              case measure => omega
              case rel => exact ⟨k + 1, by omega, rfl, by go_num, by rw [HS.out], hT6, hM6, by rw [HS.out]; exact hL7⟩
          · have HS := Lib.hid (pick_no' HB.out HX.out (fun h => by
              rcases h.2 with h2 | h2
              · omega
              · rw [HSH.out] at h2; simp at h2; omega))
            have g1 : decide (C < 0) = false := decide_eq_false (by omega)
            have hL6 : LeastAt key l B w.heap.size w2 := ⟨u, d, hL5, hLi.out⟩
            clear HSH
            by_cases h : C = 0
            · have g2 : (C == 0) = true := by simp [h]
              have g3 : decide (x.1 < y.1) = false := decide_eq_false (by omega)
              clear h hyes
              go_wp2_with fail
              go_quiet (fail)
              go_wp2
              go_roundg (n - (k + 1))
              case measure => omega
              case rel => exact ⟨k + 1, by omega, rfl, by go_num, by rw [HS.out], hT5, hM5.drewN _, by rw [HS.out]; exact hL6⟩
            · have g2 : (C == 0) = false := by simp [h]
              clear h hyes
              go_wp2_with fail
              go_quiet (fail)
              go_wp2
              go_roundg (n - (k + 1))
              case measure => omega
              case rel => exact ⟨k + 1, by omega, rfl, by go_num, by rw [HS.out], hT5, hM5.drewN _, by rw [HS.out]; exact hL6⟩
    · obtain rfl : k = n := by omega
      go_wp2
      go_ret
      exact ⟨by rw [← HB.out]; rfl, hT', hM⟩
end Go.Proofs.Ytpedhlmcgilliaa
