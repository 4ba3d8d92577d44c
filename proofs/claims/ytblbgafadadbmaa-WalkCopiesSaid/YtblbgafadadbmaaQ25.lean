/- Lemmas for the claim's proof: Sames WalkK. -/
import Derived.Test.YtblbgafadadbmaaQ09
import Derived.Test.YtblbgafadadbmaaQ13
import Derived.Test.YtblbgafadadbmaaQ16
import Derived.Test.YtblbgafadadbmaaQ22
import Derived.Test.YtblbgafadadbmaaQ24
section
/- The laws' same. -/
set_option linter.unusedVariables false
namespace Go.Proofs.Ytblbgafadadbmaa
open Go.RowKit
set_option maxHeartbeats 4000000
set_option maxRecDepth 100000
theorem law43_same {A A' : Option Addr} {n n' c c' : Nat} {l l' : List Int} {w : World} (h : IsList w .i64 A n c l) (h' : IsList w .i64 A' n' c' l') : Calls Try.prog 31 #[.slice A n c, .slice A' n' c'] w fun e w' => e = .returned (.bool (decide (l = l'))) ∧ Below w.heap.size w w' := by
  have hcap := h.cap
  have hsm := h.small
  have hcap' := h'.cap
  have hsm' := h'.small
  have hlen := h.len
  have hlen' := h'.len
  by_cases hn : n = n'
  · have g0 : ((n : Int) != (n' : Int)) = false := by simp; omega
    subst hn
    have HL := Lib.hid hlen
    have HL' := Lib.hid hlen'
    clear hlen hlen'
    go_enter Try.func31, Try.ntmps31
    go_wp2
    go_loopg [5] n (fun gg s5 wr => ∃ m : Nat, m ≤ n ∧ gg = n - m ∧ s5 = .int .i64 m ∧ Below w.heap.size w wr ∧ Hid (∀ j, j < m → l.getD j 0 = l'.getD j 0))
    case atStart => exact ⟨0, Nat.zero_le _, rfl, rfl, Below.refl _ _, Lib.hid (fun j hj => absurd hj (Nat.not_lt_zero _))⟩
    case round =>
      obtain ⟨m, hm, rfl, rfl, hW, HN⟩ := hrel
      by_cases hlt : m < n
      · obtain ⟨ad, rfl, _, x0, _⟩ := (h.keep hW).get hlt
        obtain ⟨ad', rfl, _, y0, _⟩ := (h'.keep hW).get hlt
        have hmi : (m : Int) < (n : Int) := by omega
        have HF := Lib.hid (show ¬ l.getD m 0 = l'.getD m 0 → ¬ l = l' from fun hne e => hne (by rw [e]))
        have HS := Lib.hid (show l.getD m 0 = l'.getD m 0 → ∀ j, j < m + 1 → l.getD j 0 = l'.getD j 0 from fun he j hj => (by
          by_cases e : j = m
          · rw [e]; exact he
          · exact HN.out j (by omega)))
        generalize l.getD m 0 = x at *
        generalize l'.getD m 0 = y at *
        by_cases hxy : x = y
        · have g1 : (x != y) = false := by simp [hxy]
          have HE := Lib.hid (HS.out hxy)
          clear HF HS HN hxy
          go_wp2_with fail
          go_quiet (fail)
          go_wp2
          go_roundg (n - (m + 1))
          case measure => omega
          case rel => exact ⟨m + 1, by omega, rfl, by go_num, below_drewN hW _, HE⟩
        · have g1 : (x != y) = true := by simp [hxy]
          have HE := Lib.hid (HF.out hxy)
          clear HF HS HN hxy
          go_wp2_with fail
          go_quiet (fail)
          go_wp2
          go_ret
          exact ⟨by rw [decide_eq_false HE.out]; rfl, below_drewN hW _⟩
      · obtain rfl : m = n := by omega
        have HE := Lib.hid (show l = l' from List.ext_getElem (by rw [HL.out, HL'.out]) fun j h1 h2 => by
          have := HN.out j (by rw [← HL.out]; exact h1)
          rw [List.getD_eq_getElem?_getD, List.getD_eq_getElem?_getD, List.getElem?_eq_getElem h1, List.getElem?_eq_getElem h2] at this
          exact this)
        clear HN
        go_wp2
        go_ret
        exact ⟨by rw [decide_eq_true HE.out]; rfl, hW⟩
  · have g0 : ((n : Int) != (n' : Int)) = true := by simp; omega
    have HE := Lib.hid (show ¬ l = l' from fun e => hn (by rw [← hlen, ← hlen', e]))
    clear hn
    go_enter Try.func31, Try.ntmps31
    go_wp2
    go_ret
    exact ⟨by rw [decide_eq_false HE.out]; rfl, Below.refl _ _⟩
theorem law26_same {A A' : Option Addr} {n n' c c' : Nat} {l l' : List Int} {w : World} (h : IsList w .i64 A n c l) (h' : IsList w .i64 A' n' c' l') : Calls Try.prog 17 #[.slice A n c, .slice A' n' c'] w fun e w' => e = .returned (.bool (decide (l = l'))) ∧ Below w.heap.size w w' := by
  have hcap := h.cap
  have hsm := h.small
  have hcap' := h'.cap
  have hsm' := h'.small
  have hlen := h.len
  have hlen' := h'.len
  by_cases hn : n = n'
  · have g0 : ((n : Int) != (n' : Int)) = false := by simp; omega
    subst hn
    have HL := Lib.hid hlen
    have HL' := Lib.hid hlen'
    clear hlen hlen'
    go_enter Try.func17, Try.ntmps17
    go_wp2
    go_loopg [5] n (fun gg s5 wr => ∃ m : Nat, m ≤ n ∧ gg = n - m ∧ s5 = .int .i64 m ∧ Below w.heap.size w wr ∧ Hid (∀ j, j < m → l.getD j 0 = l'.getD j 0))
    case atStart => exact ⟨0, Nat.zero_le _, rfl, rfl, Below.refl _ _, Lib.hid (fun j hj => absurd hj (Nat.not_lt_zero _))⟩
    case round =>
      obtain ⟨m, hm, rfl, rfl, hW, HN⟩ := hrel
      by_cases hlt : m < n
      · obtain ⟨ad, rfl, _, x0, _⟩ := (h.keep hW).get hlt
        obtain ⟨ad', rfl, _, y0, _⟩ := (h'.keep hW).get hlt
        have hmi : (m : Int) < (n : Int) := by omega
        have HF := Lib.hid (show ¬ l.getD m 0 = l'.getD m 0 → ¬ l = l' from fun hne e => hne (by rw [e]))
        have HS := Lib.hid (show l.getD m 0 = l'.getD m 0 → ∀ j, j < m + 1 → l.getD j 0 = l'.getD j 0 from fun he j hj => (by
          by_cases e : j = m
          · rw [e]; exact he
          · exact HN.out j (by omega)))
        generalize l.getD m 0 = x at *
        generalize l'.getD m 0 = y at *
        by_cases hxy : x = y
        · have g1 : (x != y) = false := by simp [hxy]
          have HE := Lib.hid (HS.out hxy)
          clear HF HS HN hxy
          go_wp2_with fail
          go_quiet (fail)
          go_wp2
          go_roundg (n - (m + 1))
          case measure => omega
          case rel => exact ⟨m + 1, by omega, rfl, by go_num, below_drewN hW _, HE⟩
        · have g1 : (x != y) = true := by simp [hxy]
          have HE := Lib.hid (HF.out hxy)
          clear HF HS HN hxy
          go_wp2_with fail
          go_quiet (fail)
          go_wp2
          go_ret
          exact ⟨by rw [decide_eq_false HE.out]; rfl, below_drewN hW _⟩
      · obtain rfl : m = n := by omega
        have HE := Lib.hid (show l = l' from List.ext_getElem (by rw [HL.out, HL'.out]) fun j h1 h2 => by
          have := HN.out j (by rw [← HL.out]; exact h1)
          rw [List.getD_eq_getElem?_getD, List.getD_eq_getElem?_getD, List.getElem?_eq_getElem h1, List.getElem?_eq_getElem h2] at this
          exact this)
        clear HN
        go_wp2
        go_ret
        exact ⟨by rw [decide_eq_true HE.out]; rfl, hW⟩
  · have g0 : ((n : Int) != (n' : Int)) = true := by simp; omega
    have HE := Lib.hid (show ¬ l = l' from fun e => hn (by rw [← hlen, ← hlen', e]))
    clear hn
    go_enter Try.func17, Try.ntmps17
    go_wp2
    go_ret
    exact ⟨by rw [decide_eq_false HE.out]; rfl, Below.refl _ _⟩
end Go.Proofs.Ytblbgafadadbmaa
end
section
/- DiffKeys. -/
set_option linter.unusedVariables false
namespace Go.Proofs.Ytblbgafadadbmaa
open Go.RowKit
set_option maxHeartbeats 8000000
set_option maxRecDepth 100000
/-- A walker that is made. -/
theorem walker_new (w : World) (f seed : Int) : WW w (w.alloc (.cells #[.int .u32 0, .int .i32 0, .int .u32 0, .slice none 0 0, .int .i64 f, .int .u64 seed] 51)) w.heap.size (kw f seed) :=
  ⟨.inl (Blk.new w _ _), Nat.le_refl _, (Below.refl _ _).alloc (Nat.le_refl _) _⟩
theorem diffKeys_walk (w : World) (A : Option Addr) (n0 c : Nat) (l0 : List Nd) (hl0 : IsNodes w A n0 c l0) (Aa : Option Addr) (ma ca : Nat) (a0 : List Int) (ha0 : IsList w .i64 Aa ma ca a0) (Ab : Option Addr) (mb cb : Nat) (b0 : List Int) (hb0 : IsList w .i64 Ab mb cb b0)
    (lv : Int) (lv0 : -9223372036854775808 ≤ lv) (lv1 : lv ≤ 9223372036854775807) (host : Int) (i0 : -9223372036854775808 ≤ host) (i1 : host ≤ 9223372036854775807) (frm : Int) (f0 : 0 ≤ frm) (f1 : frm < 18446744073709551616) :
    Calls Try.prog 6 #[.slice A n0 c, .slice Aa ma ca, .slice Ab mb cb, .int .i64 lv, .int .i64 host, .int .u64 frm] w fun e w' => e = .returned (.bool true) ∧ Below w.heap.size w w' := by
  have hmd := law_Made w A n0 c l0 hl0
  have ht0 := Lib.hid (made_tall (l0.take 60))
  generalize made (l0.take 60) = l at *
  have hFa := fun w => law23_Few Aa ma ca ha0.cap ha0.small w
  have hHa := ha0.cut (k := min ma 30) (by omega)
  generalize min ma 30 = na at *
  generalize a0.take na = h1 at *
  have hFb := fun w => law23_Few Ab mb cb hb0.cap hb0.small w
  have hHb := hb0.cut (k := min mb 30) (by omega)
  generalize min mb 30 = nb at *
  generalize b0.take nb = h2 at *
  clear hl0 ha0 hb0
  go_enter Try.func6, Try.ntmps6
  go_wp2_with fail
  refine hmd.mono ?_; rintro e w1 ⟨b, A1, c1, rfl, hT, hN, hx1⟩
  clear hmd hN
  have ht := ht0.out
  go_wp2_with fail
  refine (hFa _).mono ?_; rintro e w' ⟨rfl, rfl⟩
  have hHa1 := hHa.keep hx1
  go_wp2_with fail
  refine (elig_New hT ht Aa na ca h1 hHa1).mono ?_; rintro e w2 ⟨ga, gw1, gs1, vH1, rfl, hS1, hx2⟩
  have hW2 := below_step hx1 hx2
  have hT2 := hT.keep hx2
  have hHb2 := hHb.keep hW2
  clear hT hHa hHa1 hHb hFa hx1 hx2
  go_wp2_with fail
  refine (hFb _).mono ?_; rintro e w' ⟨rfl, rfl⟩
  go_wp2_with fail
  refine (elig_New hT2 ht Ab nb cb h2 hHb2).mono ?_; rintro e w3 ⟨gb, gw2, gs2, vH2, rfl, hS2, hx3⟩
  have hW3 := below_step hW2 hx3
  have hT3 := hT2.keep hx3
  have hSa := hS1.keep hx3
  clear hT2 hHb2 hFb hx3 hS1 hW2
  have hw4 := walker_new w3 140 3
  have hW4 := hW3.alloc hW3.size (.cells #[.int .u32 0, .int .i32 0, .int .u32 0, .slice none 0 0, .int .i64 140, .int .u64 3] 51)
  have hlt4 := hw4.tab.lt
  obtain ⟨x, hxe⟩ : ∃ x : Nat → Int, x = fun k => hostI l (wt l h1) (hs l h1) lv 140 3 (keyI frm k) := ⟨_, rfl⟩
  obtain ⟨y, hye⟩ : ∃ y : Nat → Int, y = fun k => hostI l (wt l h2) (hs l h2) lv 140 3 (keyI frm k) := ⟨_, rfl⟩
  have hx : ∀ k, x k = hostI l (wt l h1) (hs l h1) lv 140 3 (keyI frm k) := fun k => by rw [hxe]
  have hy : ∀ k, y k = hostI l (wt l h2) (hs l h2) lv 140 3 (keyI frm k) := fun k => by rw [hye]
  clear hxe hye
  have K40 := fun v (h : WW w3 v w3.heap.size (kw 140 3)) => diff_Keys hT3 ht hSa hT3 ht hS2 h (by omega) (by omega) lv host frm 40 f0 f1 40 (by decide) x y hx hy
  have K0 := fun v (h : WW w3 v w3.heap.size (kw 140 3)) => diff_Keys hT3 ht hSa hT3 ht hS2 h (by omega) (by omega) lv host frm (-1) f0 f1 0 (by decide) x y hx hy
  have HX := fun v (h : WW w3 v w3.heap.size (kw 140 3)) k => walk_Host hT3 ht hSa h (by omega) (by omega) lv (keyI frm k) (keyI_bd frm k).1 (keyI_bd frm k).2
  have HY := fun v (h : WW w3 v w3.heap.size (kw 140 3)) k => walk_Host hT3 ht hS2 h (by omega) (by omega) lv (keyI frm k) (keyI_bd frm k).1 (keyI_bd frm k).2
  have HX' : ∀ v (h : WW w3 v w3.heap.size (kw 140 3)) k, Calls Try.prog 26 #[.pointer (some ⟨w3.heap.size, 0, none⟩), .pointer (some ⟨ga, 0, none⟩), .int .i64 lv, .int .u64 (keyI frm k)] v fun e w' => e = .returned (.int .i64 (x k)) ∧ WW w3 w' w3.heap.size (kw 140 3) ∧ Mod (· = w3.heap.size) v w' := fun v h k => by rw [hx k]; exact HX v h k
  have HY' : ∀ v (h : WW w3 v w3.heap.size (kw 140 3)) k, Calls Try.prog 26 #[.pointer (some ⟨w3.heap.size, 0, none⟩), .pointer (some ⟨gb, 0, none⟩), .int .i64 lv, .int .u64 (keyI frm k)] v fun e w' => e = .returned (.int .i64 (y k)) ∧ WW w3 w' w3.heap.size (kw 140 3) ∧ Mod (· = w3.heap.size) v w' := fun v h k => by rw [hy k]; exact HY v h k
  obtain ⟨X, hX⟩ : ∃ X, X = downR l (wt l h1) (hs l h1) 3 frm host := ⟨_, rfl⟩
  obtain ⟨Y, hY⟩ : ∃ Y, Y = downR l (wt l h2) (hs l h2) 3 frm host := ⟨_, rfl⟩
  have PT := fun v (h : WW w3 v w3.heap.size (kw 140 3)) => diff_Part hT3 ht hSa hT3 ht hS2 h (by omega) (by omega) host frm f0 f1 X Y hX hY
  have D1 := fun v (h : WW w3 v w3.heap.size (kw 140 3)) => walk_DownW hT3 ht hSa h (by omega) (by omega) host frm f0 f1
  have D2 := fun v (h : WW w3 v w3.heap.size (kw 140 3)) => walk_DownW hT3 ht hS2 h (by omega) (by omega) host frm f0 f1
  rw [← hX] at D1
  rw [← hY] at D2
  clear HX HY hx hy hX hY hT3 hSa hS2
  obtain ⟨C1, hC1⟩ : ∃ C1, C1 = cntT (otherP x y) 40 := ⟨_, rfl⟩
  obtain ⟨C2, hC2⟩ : ∃ C2, C2 = cntT (toP x y host) 40 := ⟨_, rfl⟩
  obtain ⟨C3, hC3⟩ : ∃ C3, C3 = cntT (fromP x y host) 40 := ⟨_, rfl⟩
  rw [← hC1, ← hC2, ← hC3] at K40
  have G1 := Lib.hid hC1
  have G2 := Lib.hid hC2
  have G3 := Lib.hid hC3
  clear hC1 hC2 hC3
  go_wp2_with fail
  generalize hbw : w3.heap.size = bw at *
  generalize w3.alloc (.cells #[.int .u32 0, .int .i32 0, .int .u32 0, .slice none 0 0, .int .i64 140, .int .u64 3] 51) = w4 at *
  refine (K40 _ hw4).mono ?_; rintro e w5 ⟨rfl, hw5, hm5⟩
  clear K40
  have hbl := hw5.tab.lt
  have Pb := (Blk.new w5 76 #[.int .i64 40, .int .i64 C1, .int .i64 C2, .int .i64 C3]).alloc (.cells #[.int .i64 40, .int .i64 0, .int .i64 0, .int .i64 0] 76)
  have Qb := Blk.new (w5.alloc (.cells #[.int .i64 40, .int .i64 C1, .int .i64 C2, .int .i64 C3] 76)) 76 #[.int .i64 40, .int .i64 0, .int .i64 0, .int .i64 0]
  have hz : (w5.alloc (.cells #[.int .i64 40, .int .i64 C1, .int .i64 C2, .int .i64 C3] 76)).heap.size = w5.heap.size + 1 := by simp
  rw [hz] at Qb
  have hw6 := (hw5.keep ((Below.refl _ _).alloc (Nat.le_refl _) (.cells #[.int .i64 40, .int .i64 C1, .int .i64 C2, .int .i64 C3] 76))).keep ((Below.refl _ _).alloc (Nat.le_refl _) (.cells #[.int .i64 40, .int .i64 0, .int .i64 0, .int .i64 0] 76))
  clear hz hm5 hw5 hw4 hW4 hlt4
  go_wp2_with fail
  generalize (w5.alloc (.cells #[.int .i64 40, .int .i64 C1, .int .i64 C2, .int .i64 C3] 76)).alloc (.cells #[.int .i64 40, .int .i64 0, .int .i64 0, .int .i64 0] 76) = w6 at *
  obtain ⟨q, hq⟩ : ∃ q, q = w5.heap.size + 1 := ⟨_, rfl⟩
  obtain ⟨p, hp⟩ : ∃ p, p = w5.heap.size := ⟨_, rfl⟩
  rw [← hq] at Qb ⊢
  rw [← hp] at Pb hbl ⊢
  have hpq : ¬ p = q := by omega
  have hbp : ¬ p = bw := by omega
  have hbq : bw < q := by omega
  clear hq hp
  go_loopg [20, 21, 22] 40 (fun gk s20 s21 s22 wr => ∃ k : Nat, k ≤ 40 ∧ gk = 40 - k ∧ s20 = .int .i64 k ∧ Blk wr p 76 #[.int .i64 40, .int .i64 C1, .int .i64 C2, .int .i64 C3] ∧
    Blk wr q 76 #[.int .i64 40, .int .i64 (cntT (otherP x y) k), .int .i64 (cntT (toP x y host) k), .int .i64 (cntT (fromP x y host) k)] ∧ WW w3 wr bw (kw 140 3))
  case atStart => exact ⟨0, Nat.zero_le _, rfl, rfl, Pb, Qb, hw6⟩
  case round =>
    clear Pb Qb hw6
    obtain ⟨k, hk, rfl, rfl, R, M, hw2⟩ := hrel
    by_cases hlt2 : k < 40
    · have hki : (k : Int) < 40 := by omega
      have b1 := cntT_bd (otherP x y) k
      have b2 := cntT_bd (toP x y host) k
      have b3 := cntT_bd (fromP x y host) k
      have HA := Lib.hid (show cntT (otherP x y) (k + 1) = cntT (otherP x y) k + if (!(x k == y k)) = true then 1 else 0 from rfl)
      have HT := Lib.hid (show cntT (toP x y host) (k + 1) = cntT (toP x y host) k + if (!(x k == y k) && y k == host) = true then 1 else 0 from rfl)
      have HF := Lib.hid (show cntT (fromP x y host) (k + 1) = cntT (fromP x y host) k + if (!(x k == y k) && x k == host) = true then 1 else 0 from rfl)
      obtain ⟨ca, hca⟩ : ∃ ca, ca = cntT (otherP x y) k := ⟨_, rfl⟩
      obtain ⟨ct, hct⟩ : ∃ ct, ct = cntT (toP x y host) k := ⟨_, rfl⟩
      obtain ⟨cf, hcf⟩ : ∃ cf, cf = cntT (fromP x y host) k := ⟨_, rfl⟩
      rw [← hca, ← hct, ← hcf] at M
      rw [← hca] at b1 HA
      rw [← hct] at b2 HT
      rw [← hcf] at b3 HF
      have hA := fun v h => HX' v h k
      have hB := fun v h => HY' v h k
      have kk : IntKind.u64.wrap (k : Int) = k := by rw [IntKind.wrap_u64]; omega
      have ke : IntKind.u64.wrap (frm + (k : Int)) = keyI frm k := rfl
      obtain ⟨κ, hκ⟩ : ∃ κ, κ = keyI frm k := ⟨_, rfl⟩
      obtain ⟨xk, hxk⟩ : ∃ xk, xk = x k := ⟨_, rfl⟩
      obtain ⟨yk, hyk⟩ : ∃ yk, yk = y k := ⟨_, rfl⟩
      rw [← hκ] at hA hB ke
      rw [← hxk] at hA HA HT HF
      rw [← hyk] at hB HA HT HF
      have k1 : IntKind.i64.wrap (ca + 1) = ca + 1 := IntWalk.i64_in _ (by omega)
      have k2 : IntKind.i64.wrap (ct + 1) = ct + 1 := IntWalk.i64_in _ (by omega)
      have k3 : IntKind.i64.wrap (cf + 1) = cf + 1 := IntWalk.i64_in _ (by omega)
      clear hca hct hcf hκ hxk hyk b1 b2 b3
      go_wp2_with fail
      refine (hA _ hw2).mono ?_; rintro e w6 ⟨rfl, hw6, hm6⟩
      have M4 := M.mod hm6 (by omega)
      have R4 := R.mod hm6 (by omega)
      clear hA hw2 hm6 M R
      go_wp2_with fail
      refine (hB _ hw6).mono ?_; rintro e w7 ⟨rfl, hw5, hm7⟩
      have M5 := M4.mod hm7 (by omega)
      have R5 := R4.mod hm7 (by omega)
      clear hB hw6 hm7 M4 R4
      by_cases hxy : xk = yk
      · have g1 : (xk == yk) = true := by rw [beq_iff_eq]; exact hxy
        have EA := Lib.hid (show cntT (otherP x y) (k + 1) = ca by rw [HA.out, g1]; simp)
        have ET := Lib.hid (show cntT (toP x y host) (k + 1) = ct by rw [HT.out, g1]; simp)
        have EF := Lib.hid (show cntT (fromP x y host) (k + 1) = cf by rw [HF.out, g1]; simp)
        clear HA HT HF hxy
        go_wp2
        go_roundg (40 - (k + 1))
        case measure => omega
        case rel => exact ⟨k + 1, by omega, rfl, by go_num, R5, by rw [EA.out, ET.out, EF.out]; exact M5, hw5⟩
      · have g1 : (xk == yk) = false := by rw [beq_eq_false_iff_ne]; exact hxy
        have EA := Lib.hid (show cntT (otherP x y) (k + 1) = ca + 1 by rw [HA.out, g1]; simp)
        rw [g1] at HT HF
        obtain ⟨c0, c1, c2, c3, _⟩ := M5.cells4
        obtain ⟨f0', f1', f2', f3'⟩ := M5.free4
        clear HA hxy
        have M6 := M5.setTo 1 (.int .i64 (ca + 1)) (ds := #[.int .i64 40, .int .i64 (ca + 1), .int .i64 ct, .int .i64 cf]) rfl
        have R6 := R5.far (p := ⟨q, 1, none⟩) hpq (.int .i64 (ca + 1))
        have hw6 := hw5.store M5 (by decide) (by omega) 1 (.int .i64 (ca + 1))
        clear M5 R5 hw5
        by_cases hyh : yk = host
        · have g2 : (yk == host) = true := by rw [beq_iff_eq]; exact hyh
          have ET := Lib.hid (show cntT (toP x y host) (k + 1) = ct + 1 by rw [HT.out, g2]; simp)
          have M7 := M6.setTo 2 (.int .i64 (ct + 1)) (ds := #[.int .i64 40, .int .i64 (ca + 1), .int .i64 (ct + 1), .int .i64 cf]) rfl
          have R7 := R6.far (p := ⟨q, 2, none⟩) hpq (.int .i64 (ct + 1))
          have hw7 := hw6.store M6 (by decide) (by omega) 2 (.int .i64 (ct + 1))
          clear M6 R6 hw6 HT hyh
          by_cases hxh : xk = host
          · have g3 : (xk == host) = true := by rw [beq_iff_eq]; exact hxh
            have EF := Lib.hid (show cntT (fromP x y host) (k + 1) = cf + 1 by rw [HF.out, g3]; simp)
            have M8 := M7.setTo 3 (.int .i64 (cf + 1)) (ds := #[.int .i64 40, .int .i64 (ca + 1), .int .i64 (ct + 1), .int .i64 (cf + 1)]) rfl
            have R8 := R7.far (p := ⟨q, 3, none⟩) hpq (.int .i64 (cf + 1))
            have hw8 := hw7.store M7 (by decide) (by omega) 3 (.int .i64 (cf + 1))
            clear M7 R7 hw7 HF hxh
            go_wp2
            go_roundg (40 - (k + 1))
            case measure => omega
            case rel => exact ⟨k + 1, by omega, rfl, by go_num, R8, by rw [EA.out, ET.out, EF.out]; exact M8, hw8⟩
          · have g3 : (xk == host) = false := by rw [beq_eq_false_iff_ne]; exact hxh
            have EF := Lib.hid (show cntT (fromP x y host) (k + 1) = cf by rw [HF.out, g3]; simp)
            clear HF hxh
            go_wp2
            go_roundg (40 - (k + 1))
            case measure => omega
            case rel => exact ⟨k + 1, by omega, rfl, by go_num, R7, by rw [EA.out, ET.out, EF.out]; exact M7, hw7⟩
        · have g2 : (yk == host) = false := by rw [beq_eq_false_iff_ne]; exact hyh
          have ET := Lib.hid (show cntT (toP x y host) (k + 1) = ct by rw [HT.out, g2]; simp)
          clear HT hyh
          by_cases hxh : xk = host
          · have g3 : (xk == host) = true := by rw [beq_iff_eq]; exact hxh
            have EF := Lib.hid (show cntT (fromP x y host) (k + 1) = cf + 1 by rw [HF.out, g3]; simp)
            have M8 := M6.setTo 3 (.int .i64 (cf + 1)) (ds := #[.int .i64 40, .int .i64 (ca + 1), .int .i64 ct, .int .i64 (cf + 1)]) rfl
            have R8 := R6.far (p := ⟨q, 3, none⟩) hpq (.int .i64 (cf + 1))
            have hw8 := hw6.store M6 (by decide) (by omega) 3 (.int .i64 (cf + 1))
            clear M6 R6 hw6 HF hxh
            go_wp2
            go_roundg (40 - (k + 1))
            case measure => omega
            case rel => exact ⟨k + 1, by omega, rfl, by go_num, R8, by rw [EA.out, ET.out, EF.out]; exact M8, hw8⟩
          · have g3 : (xk == host) = false := by rw [beq_eq_false_iff_ne]; exact hxh
            have EF := Lib.hid (show cntT (fromP x y host) (k + 1) = cf by rw [HF.out, g3]; simp)
            clear HF hxh
            go_wp2
            go_roundg (40 - (k + 1))
            case measure => omega
            case rel => exact ⟨k + 1, by omega, rfl, by go_num, R6, by rw [EA.out, ET.out, EF.out]; exact M6, hw6⟩
    · obtain rfl : k = 40 := by omega
      clear HX' HY' hlt2 hk
      obtain ⟨E1, hE1⟩ : ∃ E1, E1 = cntT (otherP x y) 40 := ⟨_, rfl⟩
      obtain ⟨E2, hE2⟩ : ∃ E2, E2 = cntT (toP x y host) 40 := ⟨_, rfl⟩
      obtain ⟨E3, hE3⟩ : ∃ E3, E3 = cntT (fromP x y host) 40 := ⟨_, rfl⟩
      rw [← hE1, ← hE2, ← hE3] at M
      have eqM : ∀ w : World, (binOp .eql 76 (.agg #[.int .i64 40, .int .i64 C1, .int .i64 C2, .int .i64 C3]) (.agg #[.int .i64 40, .int .i64 E1, .int .i64 E2, .int .i64 E3])).run Try.prog w = .ok (.bool true) w := fun w => by
        rw [run_eq_moved, hE1, hE2, hE3, ← G1.out, ← G2.out, ← G3.out]; simp
      have eqZ : ∀ w : World, (binOp .eql 76 (.agg #[.int .i64 0, .int .i64 0, .int .i64 0, .int .i64 0]) (.agg #[.int .i64 0, .int .i64 0, .int .i64 0, .int .i64 0])).run Try.prog w = .ok (.bool true) w := fun w => by
        rw [run_eq_moved]; rfl
      have K00 : ∀ v (h : WW w3 v bw (kw 140 3)), Calls Try.prog 29 #[.pointer (some ⟨bw, 0, none⟩), .pointer (some ⟨ga, 0, none⟩), .pointer (some ⟨gb, 0, none⟩), .int .i64 lv, .int .i64 host, .int .u64 frm, .int .i64 (-1)] v fun e w' => e = .returned (.agg #[.int .i64 0, .int .i64 0, .int .i64 0, .int .i64 0]) ∧ WW w3 w' bw (kw 140 3) ∧ Mod (· = bw) v w' := K0
      have SX : ∀ {A A' : Option Addr} {c c' : Nat} {w : World}, IsList w .i64 A X.length c X → IsList w .i64 A' X.length c' X → Calls Try.prog 31 #[.slice A X.length c, .slice A' X.length c'] w fun e w' => e = .returned (.bool true) ∧ Below w.heap.size w w' := fun h h' => by
        have := law43_same h h'
        rwa [decide_eq_true rfl] at this
      have SY : ∀ {A A' : Option Addr} {c c' : Nat} {w : World}, IsList w .i64 A Y.length c Y → IsList w .i64 A' Y.length c' Y → Calls Try.prog 31 #[.slice A Y.length c, .slice A' Y.length c'] w fun e w' => e = .returned (.bool true) ∧ Below w.heap.size w w' := fun h h' => by
        have := law43_same h h'
        rwa [decide_eq_true rfl] at this
      have hlr := hw2.tab.lt
      clear hE1 hE2 hE3 G1 G2 G3 K0
      go_wp2_with fail
      refine (PT _ hw2).mono ?_; rintro e w8 ⟨Au, cu, Av, cv, rfl, hU, hV, hfU, hfV, hw8, hm8⟩
      have R8 := R.mod hm8 (by omega)
      have M8 := M.mod hm8 (by omega)
      have SP := fun {A B : Option Addr} {c d : Nat} {w : World} (h : IsList w .i64 A X.length c X) (h' : IsList w .i64 B Y.length d Y) => walk_Split h h'
      obtain ⟨N, hN⟩ : ∃ N, N = splitF X Y := ⟨_, rfl⟩
      rw [← hN] at SP ⊢
      clear PT hw2 R M hN
      go_wp2_with fail
      refine (D1 _ hw8).mono ?_; rintro e w9 ⟨Ap, cp, rfl, hP, hfP, hw9, hm9⟩
      have R9 := R8.mod hm9 (by omega)
      have M9 := M8.mod hm9 (by omega)
      have hU9 := list_mod hU hm9 (fun _ ad e => by have := hfU ad e; show ¬ ad.block = bw; omega)
      have hV9 := list_mod hV hm9 (fun _ ad e => by have := hfV ad e; show ¬ ad.block = bw; omega)
      have hz8 := hm8.size
      clear D1 hw8 R8 M8 hU hV
      go_wp2_with fail
      refine (D2 _ hw9).mono ?_; rintro e w10 ⟨Aq, cq, rfl, hQ, hfQ, hw10, hm10⟩
      have R10 := R9.mod hm10 (by omega)
      have M10 := M9.mod hm10 (by omega)
      have hU10 := list_mod hU9 hm10 (fun _ ad e => by have := hfU ad e; show ¬ ad.block = bw; omega)
      have hV10 := list_mod hV9 hm10 (fun _ ad e => by have := hfV ad e; show ¬ ad.block = bw; omega)
      have hP10 := list_mod hP hm10 (fun _ ad e => by have := hfP ad e; show ¬ ad.block = bw; omega)
      clear D2 hw9 R9 M9 hU9 hV9 hP hm8 hm9 hm10
      obtain ⟨p0, p1, p2, p3, _⟩ := R10.cells4
      obtain ⟨q0, q1, q2, q3, _⟩ := M10.cells4
      go_wp2_with fail
      refine (SX hU10 hP10).mono ?_; rintro e w11 ⟨rfl, hx11⟩
      have hV11 := hV10.keep hx11
      have hP11 := hP10.keep hx11
      have hQ11 := hQ.keep hx11
      have hw11 := hw10.keep hx11
      clear SX hU10 hP10 hV10 hQ hw10 hx11 p0 p1 p2 p3 q0 q1 q2 q3 R10 M10
      go_wp2_with fail
      refine (SY hV11 hQ11).mono ?_; rintro e w12 ⟨rfl, hx12⟩
      have hP12 := hP11.keep hx12
      have hQ12 := hQ11.keep hx12
      have hw12 := hw11.keep hx12
      clear SY hV11 hP11 hQ11 hw11 hx12
      go_wp2_with fail
      refine (SP hP12 hQ12).mono ?_; rintro e w13 ⟨rfl, hx13⟩
      have hw13 := hw12.keep hx13
      clear SP hP12 hQ12 hw12 hx13
      go_wp2_with fail
      refine (K00 _ hw13).mono ?_; rintro e w14 ⟨rfl, hw14, _⟩
      have hW14 := below_step hW3 hw14.bel
      clear K00 hw13 hw14
      go_wp2_with fail
      refine (law43_awake _).mono ?_; rintro e w15 ⟨rfl, hx15⟩
      go_wp2
      go_ret
      exact ⟨rfl, below_step hW14 hx15⟩
end Go.Proofs.Ytblbgafadadbmaa
end
