/- Lemmas for the claim's proof: WalkG WalkH WalkI WalkJ TreeN. -/
import Derived.Test.YtblbgafadadbmaaQ15
import Derived.Test.YtblbgafadadbmaaQ16
import Derived.Test.YtblbgafadadbmaaQ21
section
/- Walker.Level, Walker.Host, Split; the law's awake. -/
set_option linter.unusedVariables false
namespace Go.Proofs.Ytblbgafadadbmaa
open Go.RowKit
set_option maxHeartbeats 4000000
set_option maxRecDepth 100000
theorem load_BackI (k frm : Int) (n : Nat) (hn : n ≤ 1000000) (w : World) : Calls Try.prog 84 #[.int .i64 k, .int .i64 frm, .int .i64 n] w fun e w' => e = .returned (.int .i64 (backI k frm n)) ∧ w = w' := by
  unfold backI
  by_cases h : k < 0 ∨ (n : Int) ≤ k ∨ frm < 0 ∨ (n : Int) ≤ frm
  · rw [if_pos h]; exact load_Back k frm n h w
  · rw [if_neg h]; exact load_Back_in k frm n (by omega) (by omega) (by omega) (by omega) (by omega) w
theorem loads_wf (l : List Nd) (S : Nat → Bool) (frm f : Int) : ∀ z ∈ loadsI l S frm f, (Lit.int .i64 z).wf = true := by
  intro z hz
  unfold loadsI at hz
  split at hz
  · exact ofI_wf _ _ _ _ z hz
  · cases hz
section
variable {w0 w : World} {bt g gw gs bw : Nat} {l : List Nd} {W : Nat → Int} {S : Nat → Bool} {vH : Value} {H : List Int} {f seed : Int}
theorem walk_Level (hT : TR w bt l) (ht : Tall l) (hS : SetIs w g bt l.length gw gs W S vH H) (e4 : w.cell? ⟨bw, 4, none⟩ = some (.int .i64 f)) (e5 : w.cell? ⟨bw, 5, none⟩ = some (.int .u64 seed))
    (s0 : 0 ≤ seed) (s1 : seed < 18446744073709551616) (frm key : Int) (k0 : 0 ≤ key) (k1 : key < 18446744073709551616) :
    Calls Try.prog 55 #[.pointer (some ⟨bw, 0, none⟩), .pointer (some ⟨g, 0, none⟩), .int .i64 frm, .int .u64 key] w fun e w' => e = .returned (.int .i64 (lvlI l S frm f seed key)) ∧ Below w.heap.size w w' := by
  have hL := walk_Loads hT ht hS e4 frm
  have hfew := hT.few
  have hll := loads_le l S frm f
  have hq1 := idx_le (isK 1) l
  have hmb := mixOf_bd seed [key]
  have hdb := draw_bd seed key
  have HV := Lib.hid (show lvlI l S frm f seed key = backI (wantTo (loadsI l S frm f) (drawI seed key) (loadsI l S frm f).length) frm (loadsI l S frm f).length from rfl)
  obtain ⟨LL, hLL⟩ : ∃ LL, LL = loadsI l S frm f := ⟨_, rfl⟩
  rw [← hLL] at hL hll HV
  have hll2 : LL.length ≤ 1000000 := by unfold lvN at hll; omega
  obtain ⟨n, hn⟩ : ∃ n, n = LL.length := ⟨_, rfl⟩
  rw [← hn] at hL HV hll2
  clear hLL hll hq1 hn
  have A1 := fun (w' : World) => mix_Of seed _ 1 1 [key] _ s0 s1 (one_list w' 24 key k0 k1)
  have A2 := fun w => mix_Below (mixOf seed [key]) 10000 w hmb.1 hmb.2 (by omega) (by omega)
  have HD := Lib.hid (show drawI seed key = mixOf seed [key] * 10000 / 18446744073709551616 from rfl)
  go_enter Try.func55, Try.ntmps55
  go_wp2_with fail
  refine hL.mono ?_; rintro e w1 ⟨A, c, rfl, hI, _, hx⟩
  have d5 := cell_keep e5 hx
  clear hL e4 e5
  go_wp2_with fail
  refine (A1 _).mono ?_; rintro e w' ⟨rfl, rfl⟩
  have hI2 := hI.keep ((Below.refl _ _).alloc (Nat.le_refl _) (.cells #[.int .u64 key] 24))
  have hx2 := hx.alloc hx.size (.cells #[.int .u64 key] 24)
  go_wp2_with fail
  refine (A2 _).mono ?_; rintro e w' ⟨rfl, rfl⟩
  rw [← HD.out]
  obtain ⟨d, hd⟩ : ∃ d, d = drawI seed key := ⟨_, rfl⟩
  rw [← hd] at hdb HV ⊢
  have A3 := load_Level A n c LL d (by omega) (by omega) _ hI2
  obtain ⟨v, hv⟩ : ∃ v, v = wantTo LL d n := ⟨_, rfl⟩
  rw [← hv] at A3 HV
  have A4 := fun w => load_BackI v frm n hll2 w
  obtain ⟨r, hr⟩ : ∃ r, r = backI v frm n := ⟨_, rfl⟩
  rw [← hr] at A4 HV
  clear HD hd hv hr A1 A2 d5 hI hmb
  generalize w1.alloc (.cells #[.int .u64 key] 24) = w2 at *
  go_wp2_with fail
  refine A3.mono ?_; rintro e w' ⟨rfl, dn, rfl⟩
  have hx3 : Below w.heap.size w (w2.drewN dn) := ⟨hx2.os, hx2.tape, hx2.output, hx2.size, hx2.block⟩
  clear A3 hI2 hx2
  go_wp2_with fail
  refine (A4 _).mono ?_; rintro e w' ⟨rfl, rfl⟩
  go_wp2
  go_ret
  exact ⟨by rw [HV.out]; rfl, hx3⟩
end
/-- How many two ways have in common. -/
def splitF : List Int → List Int → Nat
  | x :: a, y :: b => if x = y then splitF a b + 1 else 0
  | _, _ => 0
theorem split_step {a b : List Int} {k : Nat} (ha : k < a.length) (hb : k < b.length) : splitF (a.drop k) (b.drop k) = if a.getD k 0 = b.getD k 0 then splitF (a.drop (k + 1)) (b.drop (k + 1)) + 1 else 0 := by
  rw [List.drop_eq_getElem_cons ha, List.drop_eq_getElem_cons hb, splitF, List.getD_eq_getElem?_getD, List.getD_eq_getElem?_getD, List.getElem?_eq_getElem ha, List.getElem?_eq_getElem hb]
  rfl
theorem split_end {a b : List Int} {k : Nat} (h : a.length ≤ k ∨ b.length ≤ k) : splitF (a.drop k) (b.drop k) = 0 := by
  rcases h with h | h
  · rw [List.drop_eq_nil_of_le h]; unfold splitF; rfl
  · rw [List.drop_eq_nil_of_le h]
    cases a.drop k <;> rfl
theorem walk_Split {A B : Option Addr} {n m c d : Nat} {a b : List Int} {w : World} (ha : IsList w .i64 A n c a) (hb : IsList w .i64 B m d b) :
    Calls Try.prog 22 #[.slice A n c, .slice B m d] w fun e w' => e = .returned (.int .i64 (splitF a b : Nat)) ∧ Below w.heap.size w w' := by
  have hc1 := ha.cap
  have hc2 := hb.cap
  have hs1 := ha.small
  have hs2 := hb.small
  have hn := ha.reach
  have L1 := Lib.hid ha.len
  have L2 := Lib.hid hb.len
  go_enter Try.func22, Try.ntmps22
  go_wp2
  go_loopg [5] n (fun gk s5 wr => ∃ k : Nat, k ≤ n ∧ gk = n - k ∧ s5 = .int .i64 k ∧ Hid (splitF a b = k + splitF (a.drop k) (b.drop k)) ∧ Below w.heap.size w wr)
  case atStart => exact ⟨0, Nat.zero_le _, rfl, rfl, Lib.hid (by simp), Below.refl _ _⟩
  case round =>
    obtain ⟨k, hk, rfl, rfl, HS, hx⟩ := hrel
    by_cases h1 : k < n
    · have g1 : decide ((k : Int) < (n : Int)) = true := decide_eq_true (by omega)
      have i1 : (k : Int) < (n : Int) := by omega
      obtain ⟨ad, rfl, _, x0, _⟩ := (ha.keep hx).get h1
      by_cases h2 : k < m
      · have g2 : decide ((k : Int) < (m : Int)) = true := decide_eq_true (by omega)
        have i2 : (k : Int) < (m : Int) := by omega
        obtain ⟨bd, rfl, _, y0, _⟩ := (hb.keep hx).get h2
        have HT := Lib.hid (split_step (a := a) (b := b) (k := k) (by rw [L1.out]; exact h1) (by rw [L2.out]; exact h2))
        obtain ⟨x, hxe⟩ : ∃ x, x = a.getD k 0 := ⟨_, rfl⟩
        obtain ⟨y, hye⟩ : ∃ y, y = b.getD k 0 := ⟨_, rfl⟩
        rw [← hxe] at x0 HT
        rw [← hye] at y0 HT
        have U0 := cell_under x0
        have U1 := cell_under y0
        clear hxe hye x0 y0
        by_cases he : x = y
        · have g3 : (x == y) = true := by rw [beq_iff_eq]; exact he
          have HE := Lib.hid (show splitF a b = (k + 1) + splitF (a.drop (k + 1)) (b.drop (k + 1)) by rw [HS.out, HT.out, if_pos he]; omega)
          clear he HS HT
          go_wp2_with fail
          refine wp_region_quiet_under (by kernel_rfl) (by kernel_rfl) ?_
          repeat (go_big_quiet_step ((fail)))
          refine wpQuiet_nil ?_
          intro wu hw'
          obtain ⟨pq, hw''⟩ := hw'
          have hU := below_eq hw''
          clear hw'' pq
          have hxu := below_step hx hU
          clear hU U0 U1 hx
          go_wp2
          go_roundg (n - (k + 1))
          case measure => omega
          case rel => exact ⟨k + 1, by omega, rfl, by go_num, HE, hxu⟩
        · have g3 : (x == y) = false := by rw [beq_eq_false_iff_ne]; exact he
          have HE := Lib.hid (show splitF a b = k by rw [HS.out, HT.out, if_neg he]; omega)
          clear he HS HT
          go_wp2_with fail
          refine wp_region_quiet_under (by kernel_rfl) (by kernel_rfl) ?_
          repeat (go_big_quiet_step ((fail)))
          refine wpQuiet_nil ?_
          intro wu hw'
          obtain ⟨pq, hw''⟩ := hw'
          have hU := below_eq hw''
          clear hw'' pq
          have hxu := below_step hx hU
          clear hU U0 U1 hx
          go_wp2
          go_ret
          exact ⟨by rw [HE.out]; rfl, hxu⟩
      · have g2 : decide ((k : Int) < (m : Int)) = false := decide_eq_false (by omega)
        have HE := Lib.hid (show splitF a b = k by rw [HS.out, split_end (.inr (by rw [L2.out]; omega))]; omega)
        clear HS
        go_wp2_with fail
        refine wp_region_quiet_under (by kernel_rfl) (by kernel_rfl) ?_
        repeat (go_big_quiet_step ((fail)))
        refine wpQuiet_nil ?_
        intro wu hw'
        obtain ⟨pq, hw''⟩ := hw'
        have hU := below_eq hw''
        clear hw'' pq
        have hxu := below_step hx hU
        clear hU hx x0
        go_wp2
        go_ret
        exact ⟨by rw [HE.out]; rfl, hxu⟩
    · have g1 : decide ((k : Int) < (n : Int)) = false := decide_eq_false (by omega)
      have HE := Lib.hid (show splitF a b = k by rw [HS.out, split_end (.inl (by rw [L1.out]; omega))]; omega)
      clear HS
      go_wp2_with fail
      refine wp_region_quiet_under (by kernel_rfl) (by kernel_rfl) ?_
      repeat (go_big_quiet_step ((fail)))
      refine wpQuiet_nil ?_
      intro wu hw'
      obtain ⟨pq, hw''⟩ := hw'
      have hU := below_eq hw''
      clear hw'' pq
      have hxu := below_step hx hU
      clear hU hx
      go_wp2
      go_ret
      exact ⟨by rw [HE.out]; rfl, hxu⟩
end Go.Proofs.Ytblbgafadadbmaa
end
section
/- Walker.Host; the law's awake. -/
set_option linter.unusedVariables false
namespace Go.Proofs.Ytblbgafadadbmaa
open Go.RowKit
set_option maxHeartbeats 4000000
set_option maxRecDepth 100000
theorem walk_LevelNil (s : Value) (i key : Int) (w : World) : Calls Try.prog 55 #[.pointer none, s, .int .i64 i, .int .u64 key] w fun e w' => e = .returned (.int .i64 (-1)) ∧ w = w' := by
  go_enter Try.func55, Try.ntmps55
  go_wp2
  go_ret
  exact ⟨rfl, rfl⟩
theorem walk_HostNil (s : Value) (i key : Int) (w : World) : Calls Try.prog 26 #[.pointer none, s, .int .i64 i, .int .u64 key] w fun e w' => e = .returned (.int .i64 (-1)) ∧ w = w' := by
  go_enter Try.func26, Try.ntmps26
  go_wp2_with fail
  refine (walk_LevelNil _ _ _ _).mono ?_; rintro e w' ⟨rfl, rfl⟩
  go_wp2
  go_ret
  exact ⟨rfl, rfl⟩
section
variable {w0 w : World} {bt g gw gs bw : Nat} {l : List Nd} {hosts : List Int} {vH : Value} {H : List Int} {f seed : Int}
theorem lvl_in (l : List Nd) (S : Nat → Bool) (frm f seed key : Int) : lvlI l S frm f seed key = -1 ∨ (0 ≤ lvlI l S frm f seed key ∧ lvlI l S frm f seed key < lvN l) := by
  rcases lvl_cases l S frm f seed key with ⟨_, h⟩ | ⟨i, hi, _, _, h, h2⟩
  · exact .inl h
  · right; rw [h]; omega
theorem lvAt_in (l : List Nd) {k : Int} (h0 : 0 ≤ k) (h1 : k < lvN l) : (idx (isK 1) l).getD k.toNat 0 = lvAt l k ∧ lvAt l k < l.length ∧ (l.getD (lvAt l k) nd0).kind = 1 := by
  have hm : (idx (isK 1) l).getD k.toNat 0 ∈ idx (isK 1) l := getD_mem _ _ (by unfold lvN at h1; omega)
  obtain ⟨j, hj, hjl, hjk⟩ := mem_idx.1 hm
  unfold lvAt
  rw [hj]
  refine ⟨by rw [Int.toNat_natCast], by rw [Int.toNat_natCast]; exact hjl, ?_⟩
  rw [Int.toNat_natCast]
  unfold isK at hjk
  simpa using hjk
theorem way_down {l : List Nd} (ht : Tall l) (hosts : List Int) (hl : l.length ≤ 1024) (seed key : Int) {i : Nat} (hi : i < l.length) (h1 : (l.getD i nd0).kind = 1) : downR l (wt l hosts) (hs l hosts) seed key i = wayI l (wt l hosts) seed key i := by
  have hat : atB (hs l hosts) l.length (i : Int) = hs l hosts i := by unfold atB; rw [if_pos (by omega)]; rfl
  cases hh : hs l hosts i with
  | true => exact downR_yes (by rw [hat]; exact hh)
  | false => rw [downR_no (by rw [hat]; exact hh), way_hasnot ht hosts hl seed key hi (by omega) hh]
theorem walk_Host2 (hT : TR w0 bt l) (ht : Tall l) (hS : SetIs w g bt l.length gw gs (wt l hosts) (hs l hosts) vH H) (hw : WW w0 w bw (kw f seed)) (s0 : 0 ≤ seed) (s1 : seed < 18446744073709551616)
    (frm key : Int) (k0 : 0 ≤ key) (k1 : key < 18446744073709551616) :
    Calls Try.prog 26 #[.pointer (some ⟨bw, 0, none⟩), .pointer (some ⟨g, 0, none⟩), .int .i64 frm, .int .u64 key] w fun e w' =>
      e = .returned (.int .i64 (hostI l (wt l hosts) (hs l hosts) frm f seed key)) ∧ WW w0 w' bw (kw f seed) ∧ Mod (· = bw) w w' := by
  have hfew := hT.few
  have hWb := fun k hk => wt_nn ht hosts hfew k hk
  have hSW := fun k hk h => (wt_iff ht hosts hfew (i := k) hk).1 h
  have hL := walk_Level (hT.keep hw.bel) ht hS hw.tab.ends.1 hw.tab.ends.2 s0 s1 frm key k0 k1
  have hin := lvl_in l (hs l hosts) frm f seed key
  obtain ⟨v, hv⟩ : ∃ v, v = lvlI l (hs l hosts) frm f seed key := ⟨_, rfl⟩
  have HH := Lib.hid (show hostI l (wt l hosts) (hs l hosts) frm f seed key = if lvlI l (hs l hosts) frm f seed key < 0 then -1 else lastI (wayI l (wt l hosts) seed key (lvAt l (lvlI l (hs l hosts) frm f seed key))) from rfl)
  rw [← hv] at hL hin HH
  clear hv
  rcases hin with rfl | ⟨v0, v1⟩
  · rw [if_pos (by decide)] at HH
    go_enter Try.func26, Try.ntmps26
    go_wp2_with fail
    refine hL.mono ?_; rintro e w1 ⟨rfl, hx⟩
    go_wp2
    go_ret
    exact ⟨by rw [HH.out]; rfl, hw.keep hx, Mod.of_below hx⟩
  · rw [if_neg (by omega)] at HH
    obtain ⟨a1, a2, a3⟩ := lvAt_in l v0 v1
    have HWD := Lib.hid (way_down ht hosts hfew seed key a2 a3)
    obtain ⟨q, hq⟩ : ∃ q, q = (idx (isK 1) l).length := ⟨_, rfl⟩
    have hq1 : v < (q : Int) := by rw [hq]; exact v1
    have hLv := fun w h => tr_Levels (b := bt) (l := l) (w := w) h
    rw [← hq] at hLv
    obtain ⟨k, rfl⟩ := Int.eq_ofNat_of_zero_le v0
    rw [Int.toNat_natCast] at a1
    obtain ⟨j, hj⟩ : ∃ j, j = lvAt l (k : Int) := ⟨_, rfl⟩
    rw [← hj] at a1 a2 HWD HH
    have g0 : decide ((k : Int) < 0) = false := decide_eq_false (by omega)
    clear hq hj a3 v1
    go_enter Try.func26, Try.ntmps26
    go_wp2_with fail
    refine hL.mono ?_; rintro e w1 ⟨rfl, hx⟩
    have hw1 := hw.keep hx
    have hM1 : Mod (· = bw) w w1 := Mod.of_below hx
    obtain ⟨c0, c1, c2, c3, _⟩ := (hS.mod hM1 hw.tab).blk.cells4
    clear hL hx
    go_wp2_with fail
    refine (hLv _ (hT.keep hw1.bel)).mono ?_; rintro e w2 ⟨A, c, rfl, hI, _, hx⟩
    obtain ⟨ad, rfl, _, x0, _⟩ := hI.get (k := k) (by omega)
    rw [a1] at x0
    have hcap := hI.cap
    have hsm := hI.small
    have hw2 := hw1.keep hx
    have hM2 := hM1.thenB hx
    have hD := walk_Down2 hT ht (hS.mod hM2 hw.tab) hWb hSW hw2 s0 s1 (j : Int) key k0 k1
    rw [HWD.out] at hD
    obtain ⟨R, hR⟩ : ∃ R, R = wayI l (wt l hosts) seed key j := ⟨_, rfl⟩
    rw [← hR] at hD HH
    clear hR HWD hLv c0 c1 c2 c3 hI hx hw1 hM1
    obtain ⟨m, hm⟩ : ∃ m, m = R.length := ⟨_, rfl⟩
    rw [← hm] at hD
    go_wp2_with fail
    refine hD.mono ?_; rintro e w3 ⟨A3, c3, rfl, hI3, _, hw3, hm3⟩
    have hM3 := hM2.trans hm3
    have hcap3 := hI3.cap
    have hsm3 := hI3.small
    clear hD hw2 hM2 hm3 x0 hcap hsm
    by_cases h0 : m = 0
    · have g1 : ((m : Int) == 0) = true := by rw [beq_iff_eq]; omega
      have HE := Lib.hid (show lastI R = -1 by unfold lastI; rw [if_pos (List.eq_nil_of_length_eq_zero (by omega))])
      clear hm hI3
      subst h0
      go_wp2
      go_ret
      exact ⟨by rw [HH.out, HE.out]; rfl, hw3, hM3⟩
    · have g1 : ((m : Int) == 0) = false := by rw [beq_eq_false_iff_ne]; omega
      obtain ⟨ad3, rfl, _, y0, _⟩ := hI3.get (k := m - 1) (by omega)
      have HE := Lib.hid (show lastI R = R.getD (m - 1) 0 by unfold lastI; rw [if_neg (fun h => by rw [h] at hm; exact h0 hm), hm])
      obtain ⟨p, rfl⟩ : ∃ p, m = p + 1 := ⟨m - 1, by omega⟩
      have hp : p + 1 - 1 = p := by omega
      rw [hp] at y0 HE
      have kp : IntKind.i64.wrap (((p + 1 : Nat) : Int) - 1) = p := by rw [IntWalk.i64_in _ (by have := hI3.reach; omega)]; omega
      have hpi : (p : Int) < ((p + 1 : Nat) : Int) := by omega
      obtain ⟨z, hz⟩ : ∃ z, z = R.getD p 0 := ⟨_, rfl⟩
      rw [← hz] at y0 HE
      clear hm hI3 hz h0 hp
      go_wp2
      go_ret
      exact ⟨by rw [HH.out, HE.out]; rfl, hw3, hM3⟩
theorem walk_Host (hT : TR w0 bt l) (ht : Tall l) (hS : SetIs w0 g bt l.length gw gs (wt l hosts) (hs l hosts) vH H) (hw : WW w0 w bw (kw f seed)) (s0 : 0 ≤ seed) (s1 : seed < 18446744073709551616)
    (frm key : Int) (k0 : 0 ≤ key) (k1 : key < 18446744073709551616) :
    Calls Try.prog 26 #[.pointer (some ⟨bw, 0, none⟩), .pointer (some ⟨g, 0, none⟩), .int .i64 frm, .int .u64 key] w fun e w' =>
      e = .returned (.int .i64 (hostI l (wt l hosts) (hs l hosts) frm f seed key)) ∧ WW w0 w' bw (kw f seed) ∧ Mod (· = bw) w w' :=
  walk_Host2 hT ht (hS.keep hw.bel) hw s0 s1 frm key k0 k1
end
end Go.Proofs.Ytblbgafadadbmaa
end
section
/- diff.Keys. -/
set_option linter.unusedVariables false
namespace Go.Proofs.Ytblbgafadadbmaa
open Go.RowKit
set_option maxHeartbeats 4000000
set_option maxRecDepth 100000
/-- How many of the first k do. -/
def cntT (p : Nat → Bool) : Nat → Int
  | 0 => 0
  | k + 1 => cntT p k + if p k = true then 1 else 0
theorem cntT_bd (p : Nat → Bool) : ∀ k, 0 ≤ cntT p k ∧ cntT p k ≤ k
  | 0 => ⟨Int.le_refl _, Int.le_refl _⟩
  | k + 1 => by
    have := cntT_bd p k
    rw [cntT]
    split <;> omega
def keyI (frm : Int) (k : Nat) : Int := IntKind.u64.wrap (frm + (k : Int))
theorem keyI_bd (frm : Int) (k : Nat) : 0 ≤ keyI frm k ∧ keyI frm k < 18446744073709551616 := by
  unfold keyI
  rw [IntKind.wrap_u64]
  omega
theorem WW.store {w0 w : World} {b r : Nat} {T : K6} {t' : TypeId} {cs : Array Value} (h : WW w0 w b T) (R : Blk w r t' cs) (ht : 24 ≠ t') (hg : b < r) (i : Nat) (v : Value) : WW w0 (w.setCell ⟨r, i, none⟩ v) b T := by
  have hle := h.le
  exact ⟨h.tab.farT R ht (by omega) i v, h.le, below_own h.bel (by omega) _ _⟩
/-- Where keys go otherwise, to a host, from a host. -/
def otherP (x y : Nat → Int) (k : Nat) : Bool := !(x k == y k)
def toP (x y : Nat → Int) (host : Int) (k : Nat) : Bool := !(x k == y k) && y k == host
def fromP (x y : Nat → Int) (host : Int) (k : Nat) : Bool := !(x k == y k) && x k == host
section
variable {w0 w : World} {b1 b2 ga gb gw1 gs1 gw2 gs2 bw : Nat} {l1 l2 : List Nd} {h1 h2 : List Int} {vH1 vH2 : Value} {H1 H2 : List Int} {f seed : Int}
theorem diff_Keys (hT1 : TR w0 b1 l1) (ht1 : Tall l1) (hS1 : SetIs w0 ga b1 l1.length gw1 gs1 (wt l1 h1) (hs l1 h1) vH1 H1) (hT2 : TR w0 b2 l2) (ht2 : Tall l2) (hS2 : SetIs w0 gb b2 l2.length gw2 gs2 (wt l2 h2) (hs l2 h2) vH2 H2)
    (hw : WW w0 w bw (kw f seed)) (s0 : 0 ≤ seed) (s1 : seed < 18446744073709551616) (lv host frm keys : Int) (f0 : 0 ≤ frm) (f1 : frm < 18446744073709551616) (n : Nat) (hn : min (max keys 0) 65536 = (n : Int)) (x y : Nat → Int)
    (hx : ∀ k, x k = hostI l1 (wt l1 h1) (hs l1 h1) lv f seed (keyI frm k)) (hy : ∀ k, y k = hostI l2 (wt l2 h2) (hs l2 h2) lv f seed (keyI frm k)) :
    Calls Try.prog 29 #[.pointer (some ⟨bw, 0, none⟩), .pointer (some ⟨ga, 0, none⟩), .pointer (some ⟨gb, 0, none⟩), .int .i64 lv, .int .i64 host, .int .u64 frm, .int .i64 keys] w fun e w' =>
      e = .returned (.agg #[.int .i64 n, .int .i64 (cntT (otherP x y) n), .int .i64 (cntT (toP x y host) n), .int .i64 (cntT (fromP x y host) n)]) ∧ WW w0 w' bw (kw f seed) ∧ Mod (· = bw) w w' := by
  have hC1 := fun v (h : WW w0 v bw (kw f seed)) k => walk_Host hT1 ht1 hS1 h s0 s1 lv (keyI frm k) (keyI_bd frm k).1 (keyI_bd frm k).2
  have hC2 := fun v (h : WW w0 v bw (kw f seed)) k => walk_Host hT2 ht2 hS2 h s0 s1 lv (keyI frm k) (keyI_bd frm k).1 (keyI_bd frm k).2
  have hC1' : ∀ v (h : WW w0 v bw (kw f seed)) k, Calls Try.prog 26 #[.pointer (some ⟨bw, 0, none⟩), .pointer (some ⟨ga, 0, none⟩), .int .i64 lv, .int .u64 (keyI frm k)] v fun e w' => e = .returned (.int .i64 (x k)) ∧ WW w0 w' bw (kw f seed) ∧ Mod (· = bw) v w' := fun v h k => by rw [hx k]; exact hC1 v h k
  have hC2' : ∀ v (h : WW w0 v bw (kw f seed)) k, Calls Try.prog 26 #[.pointer (some ⟨bw, 0, none⟩), .pointer (some ⟨gb, 0, none⟩), .int .i64 lv, .int .u64 (keyI frm k)] v fun e w' => e = .returned (.int .i64 (y k)) ∧ WW w0 w' bw (kw f seed) ∧ Mod (· = bw) v w' := fun v h k => by rw [hy k]; exact hC2 v h k
  have hn6 : n ≤ 65536 := by omega
  clear hC1 hC2 hx hy hT1 ht1 hS1 hT2 ht2 hS2
  have hlt := hw.tab.lt
  have R0 := (Blk.new w 76 #[.int .i64 0, .int .i64 0, .int .i64 0, .int .i64 0]).alloc (.cells #[.int .i64 0, .int .i64 0, .int .i64 0, .int .i64 0] 76)
  have M0 := Blk.new (w.alloc (.cells #[.int .i64 0, .int .i64 0, .int .i64 0, .int .i64 0] 76)) 76 #[.int .i64 0, .int .i64 0, .int .i64 0, .int .i64 0]
  have hw1 := (hw.keep ((Below.refl _ _).alloc (Nat.le_refl _) (.cells #[.int .i64 0, .int .i64 0, .int .i64 0, .int .i64 0] 76))).keep ((Below.refl _ _).alloc (Nat.le_refl _) (.cells #[.int .i64 0, .int .i64 0, .int .i64 0, .int .i64 0] 76))
  have hM1 : Mod (· = bw) w ((w.alloc (.cells #[.int .i64 0, .int .i64 0, .int .i64 0, .int .i64 0] 76)).alloc (.cells #[.int .i64 0, .int .i64 0, .int .i64 0, .int .i64 0] 76)) := ((Mod.refl _ _).alloc _).alloc _
  have hz : (w.alloc (.cells #[.int .i64 0, .int .i64 0, .int .i64 0, .int .i64 0] 76)).heap.size = w.heap.size + 1 := by simp
  rw [hz] at M0
  clear hz hw
  go_enter Try.func29, Try.ntmps29
  go_wp2_with fail
  generalize (w.alloc (.cells #[.int .i64 0, .int .i64 0, .int .i64 0, .int .i64 0] 76)).alloc (.cells #[.int .i64 0, .int .i64 0, .int .i64 0, .int .i64 0] 76) = w1 at *
  go_loopg [16, 17, 18, 22] n (fun gk s16 s17 s18 s22 wr => ∃ k : Nat, k ≤ n ∧ gk = n - k ∧ s22 = .int .i64 k ∧ Blk wr w.heap.size 76 #[.int .i64 0, .int .i64 0, .int .i64 0, .int .i64 0] ∧
    Blk wr (w.heap.size + 1) 76 #[.int .i64 k, .int .i64 (cntT (otherP x y) k), .int .i64 (cntT (toP x y host) k), .int .i64 (cntT (fromP x y host) k)] ∧ WW w0 wr bw (kw f seed) ∧ Mod (· = bw) w wr)
  case atStart => exact ⟨0, Nat.zero_le _, rfl, rfl, R0, M0, hw1, hM1⟩
  case round =>
    clear R0 M0 hw1 hM1
    obtain ⟨k, hk, rfl, rfl, R, M, hw2, hM2⟩ := hrel
    by_cases hlt2 : k < n
    · have hki : (k : Int) < (n : Int) := by omega
      have b1 := cntT_bd (otherP x y) k
      have b2 := cntT_bd (toP x y host) k
      have b3 := cntT_bd (fromP x y host) k
      have HA := Lib.hid (show cntT (otherP x y) (k + 1) = cntT (otherP x y) k + if (!(x k == y k)) = true then 1 else 0 from rfl)
      have HT := Lib.hid (show cntT (toP x y host) (k + 1) = cntT (toP x y host) k + if (!(x k == y k) && y k == host) = true then 1 else 0 from rfl)
      have HF := Lib.hid (show cntT (fromP x y host) (k + 1) = cntT (fromP x y host) k + if (!(x k == y k) && x k == host) = true then 1 else 0 from rfl)
      obtain ⟨ca, hca⟩ : ∃ ca, ca = cntT (otherP x y) k := ⟨_, rfl⟩
      obtain ⟨ct, hct⟩ : ∃ ct, ct = cntT (toP x y host) k := ⟨_, rfl⟩
      obtain ⟨cf, hcf⟩ : ∃ cf, cf = cntT (fromP x y host) k := ⟨_, rfl⟩
      rw [← hca, ← hct, ← hcf] at M
      rw [← hca] at b1 HA
      rw [← hct] at b2 HT
      rw [← hcf] at b3 HF
      have hA := fun v h => hC1' v h k
      have hB := fun v h => hC2' v h k
      have kk : IntKind.u64.wrap (k : Int) = k := by rw [IntKind.wrap_u64]; omega
      have ke : IntKind.u64.wrap (frm + (k : Int)) = keyI frm k := rfl
      obtain ⟨κ, hκ⟩ : ∃ κ, κ = keyI frm k := ⟨_, rfl⟩
      obtain ⟨xk, hxk⟩ : ∃ xk, xk = x k := ⟨_, rfl⟩
      obtain ⟨yk, hyk⟩ : ∃ yk, yk = y k := ⟨_, rfl⟩
      rw [← hκ] at hA hB ke
      rw [← hxk] at hA HA HT HF
      rw [← hyk] at hB HA HT HF
      have k1 : IntKind.i64.wrap (ca + 1) = ca + 1 := IntWalk.i64_in _ (by omega)
      have k2 : IntKind.i64.wrap (ct + 1) = ct + 1 := IntWalk.i64_in _ (by omega)
      have k3 : IntKind.i64.wrap (cf + 1) = cf + 1 := IntWalk.i64_in _ (by omega)
      obtain ⟨c0, c1, c2, c3, _⟩ := M.cells4
      obtain ⟨f0', f1', f2', f3'⟩ := M.free4
      have M1 := M.setTo 0 (.int .i64 ((k : Int) + 1)) (ds := #[.int .i64 ((k : Int) + 1), .int .i64 ca, .int .i64 ct, .int .i64 cf]) rfl
      have R1 := R.far (p := ⟨w.heap.size + 1, 0, none⟩) (by simp) (.int .i64 ((k : Int) + 1))
      have hw3 := hw2.store M (by decide) (by omega) 0 (.int .i64 ((k : Int) + 1))
      have hM3 : Mod (· = bw) w (wr.setCell ⟨w.heap.size + 1, 0, none⟩ (.int .i64 ((k : Int) + 1))) := hM2.fresh (by omega) _ _
      clear hca hct hcf hκ hxk hyk M R hw2 hM2 b1 b2 b3
      go_wp2_with fail
      clear c0 c1 c2 c3 f0' f1' f2' f3'
      generalize wr.setCell ⟨w.heap.size + 1, 0, none⟩ (.int .i64 ((k : Int) + 1)) = w3 at *
      refine (hA _ hw3).mono ?_; rintro e w4 ⟨rfl, hw4, hm4⟩
      have M4 := M1.mod hm4 (by omega)
      have R4 := R1.mod hm4 (by omega)
      have hM4 := hM3.trans hm4
      clear hA hw3 hm4 M1 R1 hM3
      go_wp2_with fail
      refine (hB _ hw4).mono ?_; rintro e w5 ⟨rfl, hw5, hm5⟩
      have M5 := M4.mod hm5 (by omega)
      have R5 := R4.mod hm5 (by omega)
      have hM5 := hM4.trans hm5
      clear hB hw4 hm5 M4 R4 hM4
      by_cases hxy : xk = yk
      · have g1 : (xk == yk) = true := by rw [beq_iff_eq]; exact hxy
        have EA := Lib.hid (show cntT (otherP x y) (k + 1) = ca by rw [HA.out, g1]; simp)
        have ET := Lib.hid (show cntT (toP x y host) (k + 1) = ct by rw [HT.out, g1]; simp)
        have EF := Lib.hid (show cntT (fromP x y host) (k + 1) = cf by rw [HF.out, g1]; simp)
        clear HA HT HF hxy
        go_wp2
        go_roundg (n - (k + 1))
        case measure => omega
        case rel => exact ⟨k + 1, by omega, rfl, by go_num, R5, by rw [EA.out, ET.out, EF.out]; exact M5, hw5, hM5⟩
      · have g1 : (xk == yk) = false := by rw [beq_eq_false_iff_ne]; exact hxy
        have EA := Lib.hid (show cntT (otherP x y) (k + 1) = ca + 1 by rw [HA.out, g1]; simp)
        rw [g1] at HT HF
        obtain ⟨c0, c1, c2, c3, _⟩ := M5.cells4
        obtain ⟨f0', f1', f2', f3'⟩ := M5.free4
        clear HA hxy
        have M6 := M5.setTo 1 (.int .i64 (ca + 1)) (ds := #[.int .i64 ((k : Int) + 1), .int .i64 (ca + 1), .int .i64 ct, .int .i64 cf]) rfl
        have R6 := R5.far (p := ⟨w.heap.size + 1, 1, none⟩) (by simp) (.int .i64 (ca + 1))
        have hw6 := hw5.store M5 (by decide) (by omega) 1 (.int .i64 (ca + 1))
        have hM6 : Mod (· = bw) w (w5.setCell ⟨w.heap.size + 1, 1, none⟩ (.int .i64 (ca + 1))) := hM5.fresh (by omega) _ _
        clear M5 R5 hw5 hM5
        by_cases hyh : yk = host
        · have g2 : (yk == host) = true := by rw [beq_iff_eq]; exact hyh
          have ET := Lib.hid (show cntT (toP x y host) (k + 1) = ct + 1 by rw [HT.out, g2]; simp)
          have M7 := M6.setTo 2 (.int .i64 (ct + 1)) (ds := #[.int .i64 ((k : Int) + 1), .int .i64 (ca + 1), .int .i64 (ct + 1), .int .i64 cf]) rfl
          have R7 := R6.far (p := ⟨w.heap.size + 1, 2, none⟩) (by simp) (.int .i64 (ct + 1))
          have hw7 := hw6.store M6 (by decide) (by omega) 2 (.int .i64 (ct + 1))
          have hM7 : Mod (· = bw) w ((w5.setCell ⟨w.heap.size + 1, 1, none⟩ (.int .i64 (ca + 1))).setCell ⟨w.heap.size + 1, 2, none⟩ (.int .i64 (ct + 1))) := hM6.fresh (by omega) _ _
          clear M6 R6 hw6 hM6 HT hyh
          by_cases hxh : xk = host
          · have g3 : (xk == host) = true := by rw [beq_iff_eq]; exact hxh
            have EF := Lib.hid (show cntT (fromP x y host) (k + 1) = cf + 1 by rw [HF.out, g3]; simp)
            have M8 := M7.setTo 3 (.int .i64 (cf + 1)) (ds := #[.int .i64 ((k : Int) + 1), .int .i64 (ca + 1), .int .i64 (ct + 1), .int .i64 (cf + 1)]) rfl
            have R8 := R7.far (p := ⟨w.heap.size + 1, 3, none⟩) (by simp) (.int .i64 (cf + 1))
            have hw8 := hw7.store M7 (by decide) (by omega) 3 (.int .i64 (cf + 1))
            have hM8 := hM7.fresh (g := w.heap.size + 1) (by omega) 3 (.int .i64 (cf + 1))
            clear M7 R7 hw7 hM7 HF hxh
            go_wp2
            go_roundg (n - (k + 1))
            case measure => omega
            case rel => exact ⟨k + 1, by omega, rfl, by go_num, R8, by rw [EA.out, ET.out, EF.out]; exact M8, hw8, hM8⟩
          · have g3 : (xk == host) = false := by rw [beq_eq_false_iff_ne]; exact hxh
            have EF := Lib.hid (show cntT (fromP x y host) (k + 1) = cf by rw [HF.out, g3]; simp)
            clear HF hxh
            go_wp2
            go_roundg (n - (k + 1))
            case measure => omega
            case rel => exact ⟨k + 1, by omega, rfl, by go_num, R7, by rw [EA.out, ET.out, EF.out]; exact M7, hw7, hM7⟩
        · have g2 : (yk == host) = false := by rw [beq_eq_false_iff_ne]; exact hyh
          have ET := Lib.hid (show cntT (toP x y host) (k + 1) = ct by rw [HT.out, g2]; simp)
          clear HT hyh
          by_cases hxh : xk = host
          · have g3 : (xk == host) = true := by rw [beq_iff_eq]; exact hxh
            have EF := Lib.hid (show cntT (fromP x y host) (k + 1) = cf + 1 by rw [HF.out, g3]; simp)
            have M8 := M6.setTo 3 (.int .i64 (cf + 1)) (ds := #[.int .i64 ((k : Int) + 1), .int .i64 (ca + 1), .int .i64 ct, .int .i64 (cf + 1)]) rfl
            have R8 := R6.far (p := ⟨w.heap.size + 1, 3, none⟩) (by simp) (.int .i64 (cf + 1))
            have hw8 := hw6.store M6 (by decide) (by omega) 3 (.int .i64 (cf + 1))
            have hM8 := hM6.fresh (g := w.heap.size + 1) (by omega) 3 (.int .i64 (cf + 1))
            clear M6 R6 hw6 hM6 HF hxh
            go_wp2
            go_roundg (n - (k + 1))
            case measure => omega
            case rel => exact ⟨k + 1, by omega, rfl, by go_num, R8, by rw [EA.out, ET.out, EF.out]; exact M8, hw8, hM8⟩
          · have g3 : (xk == host) = false := by rw [beq_eq_false_iff_ne]; exact hxh
            have EF := Lib.hid (show cntT (fromP x y host) (k + 1) = cf by rw [HF.out, g3]; simp)
            clear HF hxh
            go_wp2
            go_roundg (n - (k + 1))
            case measure => omega
            case rel => exact ⟨k + 1, by omega, rfl, by go_num, R6, by rw [EA.out, ET.out, EF.out]; exact M6, hw6, hM6⟩
    · obtain rfl : k = n := by omega
      obtain ⟨ca, hca⟩ : ∃ ca, ca = cntT (otherP x y) k := ⟨_, rfl⟩
      obtain ⟨ct, hct⟩ : ∃ ct, ct = cntT (toP x y host) k := ⟨_, rfl⟩
      obtain ⟨cf, hcf⟩ : ∃ cf, cf = cntT (fromP x y host) k := ⟨_, rfl⟩
      rw [← hca, ← hct, ← hcf] at M
      have HCA := Lib.hid hca
      have HCT := Lib.hid hct
      have HCF := Lib.hid hcf
      obtain ⟨c0, c1, c2, c3, _⟩ := M.cells4
      obtain ⟨r0, r1, r2, r3, _⟩ := R.cells4
      obtain ⟨f0', f1', f2', f3'⟩ := R.free4
      have R1 := R.setTo 0 (.int .i64 (k : Int)) (ds := #[.int .i64 (k : Int), .int .i64 0, .int .i64 0, .int .i64 0]) rfl
      have R2 := R1.setTo 1 (.int .i64 ca) (ds := #[.int .i64 (k : Int), .int .i64 ca, .int .i64 0, .int .i64 0]) rfl
      have R3 := R2.setTo 2 (.int .i64 ct) (ds := #[.int .i64 (k : Int), .int .i64 ca, .int .i64 ct, .int .i64 0]) rfl
      have R4 := R3.setTo 3 (.int .i64 cf) (ds := #[.int .i64 (k : Int), .int .i64 ca, .int .i64 ct, .int .i64 cf]) rfl
      have hw3 := (((hw2.store R (by decide) hlt 0 (.int .i64 (k : Int))).store R1 (by decide) hlt 1 (.int .i64 ca)).store R2 (by decide) hlt 2 (.int .i64 ct)).store R3 (by decide) hlt 3 (.int .i64 cf)
      have hM3 := (((hM2.fresh (g := w.heap.size) (Nat.le_refl _) 0 (.int .i64 (k : Int))).fresh (g := w.heap.size) (Nat.le_refl _) 1 (.int .i64 ca)).fresh (g := w.heap.size) (Nat.le_refl _) 2 (.int .i64 ct)).fresh (g := w.heap.size) (Nat.le_refl _) 3 (.int .i64 cf)
      obtain ⟨e0, e1, e2, e3, _⟩ := R4.cells4
      clear R R1 R2 R3 R4 M hw2 hM2 hca hct hcf hC1' hC2'
      go_wp2
      exact bodyPost_ret (v := .agg #[.int .i64 (k : Int), .int .i64 ca, .int .i64 ct, .int .i64 cf]) (by simp [results, Try.results29, go_sem, e0, e1, e2, e3]) rfl ⟨by rw [HCA.out, HCT.out, HCF.out], hw3, hM3⟩
end
end Go.Proofs.Ytblbgafadadbmaa
end
section
/- diff.Part; Moved's ==. -/
set_option linter.unusedVariables false
namespace Go.Proofs.Ytblbgafadadbmaa
open Go.RowKit
set_option maxHeartbeats 4000000
set_option maxRecDepth 100000
theorem eq_moved (a b c d a' b' c' d' : Int) (w : World) : (Op.equalIn 10000 76 (.agg #[.int .i64 a, .int .i64 b, .int .i64 c, .int .i64 d]) (.agg #[.int .i64 a', .int .i64 b', .int .i64 c', .int .i64 d'])).run Try.prog w = .ok (a == a' && b == b' && c == c' && d == d') w := by
  go_simp
  (repeat' split) <;> simp_all
theorem run_eq_moved (a b c d a' b' c' d' : Int) (w : World) : (binOp .eql 76 (.agg #[.int .i64 a, .int .i64 b, .int .i64 c, .int .i64 d]) (.agg #[.int .i64 a', .int .i64 b', .int .i64 c', .int .i64 d'])).run Try.prog w = .ok (.bool (a == a' && b == b' && c == c' && d == d')) w := by
  rw [run_eql_struct, eq_moved]; rfl
section
variable {w0 w : World} {b1 b2 ga gb gw1 gs1 gw2 gs2 bw : Nat} {l1 l2 : List Nd} {h1 h2 : List Int} {vH1 vH2 : Value} {H1 H2 : List Int} {f seed : Int}
theorem downR_small {l : List Nd} (ht : Tall l) (W : Nat → Int) (S : Nat → Bool) (seed key i : Int) : (downR l W S seed key i).length ≤ 4 := by
  unfold downR
  split
  · exact way_len _ _ _ _ _
  · simp
/-- Walker.Down of a set of a tree, with its weights. -/
theorem walk_DownW (hT : TR w0 b1 l1) (ht : Tall l1) (hS : SetIs w0 ga b1 l1.length gw1 gs1 (wt l1 h1) (hs l1 h1) vH1 H1) (hw : WW w0 w bw (kw f seed)) (s0 : 0 ≤ seed) (s1 : seed < 18446744073709551616) (i key : Int) (k0 : 0 ≤ key) (k1 : key < 18446744073709551616) :
    Calls Try.prog 13 #[.pointer (some ⟨bw, 0, none⟩), .pointer (some ⟨ga, 0, none⟩), .int .i64 i, .int .u64 key] w fun e w' =>
      ∃ A c, e = .returned (.slice A (downR l1 (wt l1 h1) (hs l1 h1) seed key i).length c) ∧ IsList w' .i64 A (downR l1 (wt l1 h1) (hs l1 h1) seed key i).length c (downR l1 (wt l1 h1) (hs l1 h1) seed key i) ∧ (∀ ad, A = some ad → w.heap.size ≤ ad.block) ∧ WW w0 w' bw (kw f seed) ∧ Mod (· = bw) w w' :=
  walk_Down hT ht hS (fun k hk => wt_nn ht h1 hT.few k hk) (fun k hk h => (wt_iff ht h1 hT.few (i := k) hk).1 h) hw s0 s1 i key k0 k1
theorem diff_Part (hT1 : TR w0 b1 l1) (ht1 : Tall l1) (hS1 : SetIs w0 ga b1 l1.length gw1 gs1 (wt l1 h1) (hs l1 h1) vH1 H1) (hT2 : TR w0 b2 l2) (ht2 : Tall l2) (hS2 : SetIs w0 gb b2 l2.length gw2 gs2 (wt l2 h2) (hs l2 h2) vH2 H2)
    (hw : WW w0 w bw (kw f seed)) (s0 : 0 ≤ seed) (s1 : seed < 18446744073709551616) (i key : Int) (k0 : 0 ≤ key) (k1 : key < 18446744073709551616) (X Y : List Int) (hX : X = downR l1 (wt l1 h1) (hs l1 h1) seed key i) (hY : Y = downR l2 (wt l2 h2) (hs l2 h2) seed key i) :
    Calls Try.prog 30 #[.pointer (some ⟨bw, 0, none⟩), .pointer (some ⟨ga, 0, none⟩), .pointer (some ⟨gb, 0, none⟩), .int .i64 i, .int .u64 key] w fun e w' =>
      ∃ A c B d, e = .returned (.tuple #[.slice A X.length c, .slice B Y.length d, .int .i64 (splitF X Y : Nat)]) ∧ IsList w' .i64 A X.length c X ∧ IsList w' .i64 B Y.length d Y ∧ (∀ ad, A = some ad → w.heap.size ≤ ad.block) ∧ (∀ ad, B = some ad → w.heap.size ≤ ad.block) ∧ WW w0 w' bw (kw f seed) ∧ Mod (· = bw) w w' := by
  have hD1 := fun v (h : WW w0 v bw (kw f seed)) => walk_DownW hT1 ht1 hS1 h s0 s1 i key k0 k1
  have hD2 := fun v (h : WW w0 v bw (kw f seed)) => walk_DownW hT2 ht2 hS2 h s0 s1 i key k0 k1
  have hlt := hw.tab.lt
  rw [← hX] at hD1
  rw [← hY] at hD2
  clear hX hY hT1 ht1 hS1 hT2 ht2 hS2
  go_enter Try.func30, Try.ntmps30
  go_wp2_with fail
  refine (hD1 _ hw).mono ?_; rintro e w1 ⟨A, c, rfl, hA, hfA, hw1, hm1⟩
  clear hD1
  go_wp2_with fail
  refine (hD2 _ hw1).mono ?_; rintro e w2 ⟨B, d, rfl, hB, hfB, hw2, hm2⟩
  clear hD2
  have hA2 := list_mod hA hm2 (fun _ ad e => by have := hfA ad e; show ¬ ad.block = bw; omega)
  have hs1 := hm1.size
  have hS := walk_Split hA2 hB
  obtain ⟨k, hk⟩ : ∃ k, k = splitF X Y := ⟨_, rfl⟩
  rw [← hk] at hS
  have HK := Lib.hid hk
  clear hk hA hw1
  go_wp2_with fail
  refine hS.mono ?_; rintro e w3 ⟨rfl, hx3⟩
  go_wp2
  exact bodyPost_ret (results_tmp3 (t := 10) (u := 11) (v := 12) rfl _ _ _) rfl ⟨A, c, B, d, by rw [← HK.out]; rfl, hA2.keep hx3, hB.keep hx3, hfA, fun ad e => Nat.le_trans hs1 (hfB ad e), hw2.keep hx3, (hm1.trans hm2).thenB hx3⟩
end
end Go.Proofs.Ytblbgafadadbmaa
end
section
/- A tree that nobody made. -/
set_option linter.unusedVariables false
namespace Go.Proofs.Ytblbgafadadbmaa
open Go.RowKit
set_option maxHeartbeats 4000000
set_option maxRecDepth 100000
theorem nil_Len (w : World) : Calls Try.prog 37 #[.pointer none] w fun e w' => e = .returned (.int .i64 0) ∧ w = w' := by
  go_enter Try.func37, Try.ntmps37
  go_wp2
  go_ret
  exact ⟨rfl, rfl⟩
theorem nil_Node (i : Int) (w : World) : Calls Try.prog 27 #[.pointer none, .int .i64 i] w fun e w' => e = .returned nd0.val ∧ Below w.heap.size w w' := by
  have hA : Below w.heap.size w (w.alloc (.cells zNode 64)) := (Below.refl _ _).alloc (Nat.le_refl _) _
  have hP := Blk.new w 64 zNode
  unfold zNode at hA hP
  by_cases h0 : i < 0
  · have g1 : decide (i < 0) = true := decide_eq_true h0
    go_enter Try.func27, Try.ntmps27
    go_upto_region 1 with (fail)
    generalize w.alloc (.cells #[.string ⟨#[]⟩, .int .i64 0, .int .i64 0, .int .i64 0, .bool false, .int .u64 0, .int .u64 0] 64) = u at *
    obtain ⟨p0, p1, p2, p3, p4, p5, p6, _⟩ := hP.cells7
    obtain ⟨f0, f1, f2, f3, f4, f5, f6⟩ := hP.free7
    go_wp2
    have hQ := hP.turn7 (.string ⟨#[]⟩) (.int .i64 0) (.int .i64 0) (.int .i64 0) (.bool false) (.int .u64 0) (.int .u64 0)
    refine bodyPost_ret (results_cell_row rfl _ _ _ _ _ (0, 0) _ rfl hQ Try.underlying64 rfl sizeNode) rfl ⟨rfl, below_turn7 hA (Nat.le_refl _) _ _ _ _ _ _ _⟩
  · have g1 : decide (i < 0) = false := decide_eq_false h0
    have g2 : decide ((0 : Int) ≤ i) = true := decide_eq_true (by omega)
    go_enter Try.func27, Try.ntmps27
    go_upto_region 1 with (fail)
    generalize w.alloc (.cells #[.string ⟨#[]⟩, .int .i64 0, .int .i64 0, .int .i64 0, .bool false, .int .u64 0, .int .u64 0] 64) = u at *
    obtain ⟨p0, p1, p2, p3, p4, p5, p6, _⟩ := hP.cells7
    obtain ⟨f0, f1, f2, f3, f4, f5, f6⟩ := hP.free7
    go_wp2_with fail
    refine (nil_Len _).mono ?_; rintro e w' ⟨rfl, rfl⟩
    go_wp2
    have hQ := hP.turn7 (.string ⟨#[]⟩) (.int .i64 0) (.int .i64 0) (.int .i64 0) (.bool false) (.int .u64 0) (.int .u64 0)
    refine bodyPost_ret (results_cell_row rfl _ _ _ _ _ (0, 0) _ rfl hQ Try.underlying64 rfl sizeNode) rfl ⟨rfl, below_turn7 hA (Nat.le_refl _) _ _ _ _ _ _ _⟩
theorem nil_Levels (w : World) : Calls Try.prog 56 #[.pointer none] w fun e w' => e = .returned (.slice none 0 0) ∧ w = w' := by
  go_enter Try.func56, Try.ntmps56
  go_wp2
  go_ret
  exact ⟨rfl, rfl⟩
theorem nil_Hosts (w : World) : Calls Try.prog 38 #[.pointer none] w fun e w' => e = .returned (.slice none 0 0) ∧ w = w' := by
  go_enter Try.func38, Try.ntmps38
  go_wp2
  go_ret
  exact ⟨rfl, rfl⟩
theorem nil_Kids (i : Int) (w : World) : Calls Try.prog 43 #[.pointer none, .int .i64 i] w fun e w' => e = .returned (.slice none 0 0) ∧ w = w' := by
  by_cases h0 : i < 0
  · have g1 : decide (i < 0) = true := decide_eq_true h0
    go_enter Try.func43, Try.ntmps43
    go_wp2
    go_ret
    exact ⟨rfl, rfl⟩
  · have g1 : decide (i < 0) = false := decide_eq_false h0
    have g2 : decide ((0 : Int) ≤ i) = true := decide_eq_true (by omega)
    go_enter Try.func43, Try.ntmps43
    go_wp2_with fail
    refine (nil_Len _).mono ?_; rintro e w' ⟨rfl, rfl⟩
    go_wp2
    go_ret
    exact ⟨rfl, rfl⟩
theorem nil_Up (i kind : Int) (w : World) : Calls Try.prog 28 #[.pointer none, .int .i64 i, .int .i64 kind] w fun e w' => e = .returned (.int .i64 (-1)) ∧ w = w' := by
  go_enter Try.func28, Try.ntmps28
  go_wp2
  go_loopg [1] 0 (fun gg s1 wr => s1 = .int .i64 i ∧ w = wr)
  case atStart => exact ⟨rfl, rfl⟩
  case round =>
    obtain ⟨rfl, rfl⟩ := hrel
    by_cases h0 : i < 0
    · have g1 : decide (0 ≤ i) = false := decide_eq_false (by omega)
      go_wp2
      go_ret
      exact ⟨rfl, rfl⟩
    · have g1 : decide (0 ≤ i) = true := decide_eq_true (by omega)
      have g2 : decide (i < 0) = false := decide_eq_false h0
      go_wp2_with fail
      refine (nil_Len _).mono ?_; rintro e w' ⟨rfl, rfl⟩
      go_wp2
      go_ret
      exact ⟨rfl, rfl⟩
theorem nil_Level (i : Int) (w : World) : Calls Try.prog 73 #[.pointer none, .int .i64 i] w fun e w' => e = .returned (.int .i64 (-1)) ∧ w = w' := by
  go_enter Try.func73, Try.ntmps73
  go_wp2_with fail
  refine (nil_Up _ _ _).mono ?_; rintro e w' ⟨rfl, rfl⟩
  go_wp2
  go_ret
  exact ⟨rfl, rfl⟩
end Go.Proofs.Ytblbgafadadbmaa
end
