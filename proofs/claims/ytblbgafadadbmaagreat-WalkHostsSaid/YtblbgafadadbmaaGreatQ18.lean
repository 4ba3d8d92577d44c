/- Lemmas for the claim's proof: WalkB WalkC WalkD WalkE LoadE. -/
import Derived.WalkMore
import Derived.Test.YtblbgafadadbmaaGreatQ03
import Derived.Test.YtblbgafadadbmaaGreatQ08
import Derived.Test.YtblbgafadadbmaaGreatQ12
import Derived.Test.YtblbgafadadbmaaGreatQ14
import Derived.Test.YtblbgafadadbmaaGreatQ16
import Derived.Test.YtblbgafadadbmaaGreatQ17
section
/- Walker.Step. -/
set_option linter.unusedVariables false
namespace Go.Proofs.YtblbgafadadbmaaGreat
open Go.RowKit
set_option maxHeartbeats 4000000
set_option maxRecDepth 100000
theorem Tab.farT {w : World} {b r : Nat} {T : K6} {t' : TypeId} {cs : Array Value} (h : Tab w b T) (R : Blk w r t' cs) (ht : 24 ≠ t') (hrb : ¬ r = b) (i : Nat) (v : Value) : Tab (w.setCell ⟨r, i, none⟩ v) b T := by
  rcases h with h | ⟨g, h, ⟨ds, hd, hr⟩, hne⟩
  · exact .inl (h.far (p := ⟨r, i, none⟩) (fun e => hrb e.symm) _)
  · have hgr : g ≠ r := Blk.ne_ (t := 24) (t' := t') hd R ht
    exact .inr ⟨g, h.far (p := ⟨r, i, none⟩) (fun e => hrb e.symm) _, ⟨ds, Blk.far (p := ⟨r, i, none⟩) (t := 24) hd hgr _, hr⟩, hne⟩
theorem WW.two {w0 w : World} {b gi n : Nat} {T : K6} {f : Nat → Value} (h : WW w0 w b T) (R : w.rowIs gi 109 n f) (hg : b < gi) (o : Nat) (x y : Int) : WW w0 (two w gi o x y) b T := by
  obtain ⟨cs, hcs, _⟩ := R
  have h1 : Blk w gi 109 cs := hcs
  have hle := h.le
  exact ⟨(h.tab.farT h1 (by decide) (by omega) o _).farT (h1.set_ o _) (by decide) (by omega) (o + 1) _, h.le, below_own (below_own h.bel (by omega) _ _) (by omega) _ _⟩
theorem two_mod {w0 w : World} {b gi : Nat} (h : Mod (· = b) w0 w) (hg : w0.heap.size ≤ gi) (o : Nat) (x y : Int) : Mod (· = b) w0 (two w gi o x y) := (h.fresh hg _ _).fresh hg _ _
theorem two_other {w : World} {gi o : Nat} {A : Option Addr} {n c : Nat} {l : List Int} {x y : Int} {K : IntKind} (h : IsList w K A n c l) (hne : 0 < n → ∀ ad, A = some ad → ¬ ad.block = gi) : IsList (two w gi o x y) K A n c l :=
  list_mod h (((Mod.refl (· = gi) w).own o (.int .u64 x)).own (o + 1) (.int .u64 y)) hne
theorem cast_at (ks : List Nat) {m : Nat} (h : m < ks.length) : (ks.map fun k : Nat => (k : Int)).getD m 0 = ((ks.getD m 0 : Nat) : Int) := by
  rw [List.getD_eq_getElem?_getD, List.getD_eq_getElem?_getD, List.getElem?_map, List.getElem?_eq_getElem h]; rfl
theorem two_listD (w : World) (a b : Int) (ha : 0 ≤ a ∧ a < 18446744073709551616) (hb : 0 ≤ b ∧ b < 18446744073709551616) : IsList (w.alloc (.cells #[.int .u64 a, .int .u64 b] 24)).drew .u64 (some ⟨w.heap.size, 0, none⟩) 2 2 [a, b] :=
  two_list (Blk.new w _ _).drew ha hb
theorem walk_StepNil (s : Value) (i key : Int) (w : World) : Calls Tryz.prog 48 #[.pointer none, s, .int .i64 i, .int .u64 key] w fun e w' => e = .returned (.int .i64 (-1)) ∧ w = w' := by
  go_enter Tryz.func48, Tryz.ntmps48
  go_wp2
  go_ret
  exact ⟨rfl, rfl⟩
section
variable {w0 w : World} {bt g gw gs bw : Nat} {l : List Nd} {W : Nat → Int} {S : Nat → Bool} {vH : Value} {H : List Int} {f seed : Int}
theorem walk_Step (hT : TR w0 bt l) (hS : SetIs w0 g bt l.length gw gs W S vH H) (hWb : ∀ k, k < l.length → 0 ≤ W k ∧ W k < 18446744073709551616) (hw : WW w0 w bw (kw f seed)) (s0 : 0 ≤ seed) (s1 : seed < 18446744073709551616)
    (i key : Int) (k0 : 0 ≤ key) (k1 : key < 18446744073709551616) :
    Calls Tryz.prog 48 #[.pointer (some ⟨bw, 0, none⟩), .pointer (some ⟨g, 0, none⟩), .int .i64 i, .int .u64 key] w fun e w' =>
      e = .returned (.int .i64 (if atB S l.length i = true then stepI l W seed key i.toNat else -1)) ∧ WW w0 w' bw (kw f seed) ∧ Mod (· = bw) w w' := by
  have hfew := hT.few
  have hT1 := hT.keep hw.bel
  have hS1 := hS.keep hw.bel
  have hHas := set_Has hS1 i
  have hlt := hw.tab.lt
  have hle := hw.le
  cases hz : atB S l.length i with
  | false =>
    rw [hz] at hHas
    clear hz
    go_enter Tryz.func48, Tryz.ntmps48
    go_wp2_with fail
    refine hHas.mono ?_; rintro e w' ⟨rfl, rfl⟩
    go_wp2
    go_ret
    exact ⟨rfl, hw, Mod.refl _ _⟩
  | true =>
    rw [hz] at hHas
    have hi : 0 ≤ i ∧ i < l.length := by
      unfold atB at hz
      split at hz
      · assumption
      · cases hz
    clear hz
    obtain ⟨j, rfl⟩ := Int.eq_ofNat_of_zero_le hi.1
    have hK := tr_Kids hT1 (j : Int)
    have ek : kidsOf l (j : Int) = (kidsN l j).map fun k : Nat => (k : Int) := by unfold kidsOf; rw [if_pos hi, Int.toNat_natCast, idx_kids]
    have hks : ∀ k ∈ kidsN l j, k < l.length := fun k hk => (mem_kids.1 hk).1
    have hkl := kids_len l j
    have HST := Lib.hid (show stepI l W seed key j = stepL (lenI (mixOf seed [key, (j : Int)])) W (kidsN l j) from rfl)
    rw [ek] at hK
    rw [List.length_map] at hK
    obtain ⟨ks, hkse⟩ : ∃ ks, ks = kidsN l j := ⟨_, rfl⟩
    rw [← hkse] at hK hks hkl HST
    obtain ⟨n, hn⟩ : ∃ n, n = ks.length := ⟨_, rfl⟩
    rw [← hn] at hK hkl
    have HN := Lib.hid hn.symm
    have hmk := run_make_items n (by omega)
    have hjj : (j : Int) < 9223372036854775807 := by omega
    clear ek hkse hn hi
    obtain ⟨c0, c1, c2, c3, _⟩ := hS1.blk.cells4
    go_enter Tryz.func48, Tryz.ntmps48
    go_wp2_with fail
    refine hHas.mono ?_; rintro e w' ⟨rfl, rfl⟩
    go_wp2_with fail
    refine hK.mono ?_; rintro e w1 ⟨A, c, rfl, hI, hfr, hx⟩
    clear c0 c1 c2 c3 hHas hK
    have hw1 := hw.keep hx
    have hM1 : Mod (· = bw) w w1 := Mod.of_below hx
    have hsz := hx.size
    obtain ⟨its, hits⟩ : ∃ its, its = items W ks := ⟨_, rfl⟩
    have hil : its.length = n := by rw [hits, items_len, HN.out]
    have hit : ∀ m, m < n → its.getD m (0, 0) = ((((ks.map fun k : Nat => (k : Int)).getD m 0 : Int)), W ((ks.map fun k : Nat => (k : Int)).getD m 0).toNat) := fun m hm => by
      rw [cast_at ks (by rw [HN.out]; exact hm), Int.toNat_natCast, hits, items_at W ks (by rw [HN.out]; exact hm)]
    have hkb : ∀ m, m < n → 0 ≤ (ks.map fun k : Nat => (k : Int)).getD m 0 ∧ (ks.map fun k : Nat => (k : Int)).getD m 0 < l.length := fun m hm => by
      have := hks _ (getD_mem ks 0 (k := m) (by rw [HN.out]; exact hm))
      rw [cast_at ks (by rw [HN.out]; exact hm)]
      omega
    have hwf : ∀ p ∈ its, (Lit.int .u64 p.1).wf = true ∧ (Lit.int .u64 p.2).wf = true := fun p hp => by
      rw [hits] at hp
      unfold items at hp
      obtain ⟨k, hk, rfl⟩ := List.mem_map.1 hp
      have h1 := hks k hk
      have h2 := hWb k h1
      constructor <;> (simp [Lit.wf, IntKind.min, IntKind.max, IntKind.signed, IntKind.bits]; omega)
    have HITS := Lib.hid hits
    obtain ⟨ls, hls⟩ : ∃ ls, ls = ks.map fun k : Nat => (k : Int) := ⟨_, rfl⟩
    rw [← hls] at hit hkb hI
    have HLS := Lib.hid hls
    clear hits hls
    obtain ⟨ob, hob⟩ : ∃ ob, ob = Obj.cells (madeCells #[.int .u64 0, .int .u64 0] (n * 2)) 109 := ⟨_, rfl⟩
    have hR0 := items_made w1 n its
    rw [← hob] at hmk hR0
    have hw2 := hw1.keep ((Below.refl _ _).alloc (Nat.le_refl _) ob)
    have hM2 := hM1.alloc ob
    have hI2 := hI.keep ((Below.refl _ _).alloc (Nat.le_refl _) ob)
    obtain ⟨gi, hgi⟩ : ∃ gi, gi = w1.heap.size := ⟨_, rfl⟩
    rw [← hgi] at hR0
    have hgb : bw < gi := by omega
    have hgw : w.heap.size ≤ gi := by omega
    have hkne : 0 < n → ∀ ad, A = some ad → ¬ ad.block = gi := fun h0 ad ha => by
      obtain ⟨ad', e', hb', _⟩ := hI.reads.2 h0
      rw [ha] at e'
      injection e' with e'
      subst e'
      omega
    have hkne2 : 0 < n → ∀ ad, A = some ad → ¬ ad.block = bw := fun h0 ad ha => by
      have := hfr ad ha
      omega
    have hcap := hI.cap
    have hsm := hI.small
    clear hob hI hw1 hM1 hx hsz hfr hT1 hS1 hlt
    go_wp2_with fail
    rw [← hgi]
    clear hmk
    generalize w1.alloc ob = w2 at *
    clear hgi
    go_loopg [11, 12, 33] n (fun gk s11 s12 s33 wr => ∃ m : Nat, m ≤ n ∧ gk = n - m ∧ s33 = .int .i64 m ∧ WW w0 wr bw (kw f seed) ∧ Mod (· = bw) w wr ∧ IsList wr .i64 A n c ls ∧ wr.rowIs gi 109 (n * 2) (itemRow its m))
    case atStart => exact ⟨0, Nat.zero_le _, rfl, rfl, hw2, hM2, hI2, hR0⟩
    case round =>
      clear hw2 hM2 hI2 hR0
      obtain ⟨m, hm, rfl, rfl, hw3, hM3, hI3, hR3⟩ := hrel
      by_cases hlt : m < n
      · obtain ⟨ad, rfl, _, x0, xw⟩ := hI3.get hlt
        have hmi : (m : Int) < (n : Int) := by omega
        have hzb := hkb m hlt
        have hzi := hit m hlt
        obtain ⟨z, hz⟩ : ∃ z, z = ls.getD m 0 := ⟨_, rfl⟩
        rw [← hz] at x0 xw hzb hzi
        clear hz
        have hWt := set_Weight (hS.keep hw3.bel) z
        have ew : atI W l.length z = W z.toNat := by unfold atI; rw [if_pos hzb]
        rw [ew] at hWt
        have d0 := hR3.cell (i := m * 2) (by omega)
        have d1 := hR3.cell (i := m * 2 + 1) (by omega)
        have f0 := hR3.frozen (m * 2)
        have f1 := hR3.frozen (m * 2 + 1)
        have kz : IntKind.u64.wrap z = z := by rw [IntKind.wrap_u64]; omega
        obtain ⟨y, hy⟩ : ∃ y, y = W z.toNat := ⟨_, rfl⟩
        rw [← hy] at hWt hzi
        clear hy ew xw hzb
        go_wp2_with fail
        refine hWt.mono ?_; rintro e w' ⟨rfl, rfl⟩
        go_wp2
        go_roundg (n - (m + 1))
        case measure => omega
        case rel => exact ⟨m + 1, by omega, rfl, by go_num, hw3.two hR3 hgb _ _ _, two_mod hM3 hgw _ _ _, two_other hI3 hkne, two_row hR3 hzi⟩
      · obtain rfl : m = n := by omega
        have hP := items_pairs hR3 hil (by omega) hwf
        obtain ⟨e4, e5⟩ := hw3.tab.ends
        have kj : IntKind.u64.wrap (j : Int) = j := by rw [IntKind.wrap_u64]; omega
        have A1 := fun (w' : World) => mix_Of seed _ 2 2 [key, (j : Int)] _ s0 s1 (two_listD w' key j ⟨k0, k1⟩ (by omega))
        have hmb := mixOf_bd seed [key, (j : Int)]
        obtain ⟨ow, how⟩ : ∃ ow, ow = Obj.cells #[.int .u64 key, .int .u64 (j : Int)] 24 := ⟨_, rfl⟩
        have hPo := (hP.keep ((Below.refl _ _).alloc (Nat.le_refl _) ow)).keep (Below.drew (Below.refl _ _))
        have hTo := (hw3.tab.alloc ow).drew
        rw [how] at hPo hTo
        have A2 := straws_Pick bw (kw f seed) _ _ m m its hmb.1 hmb.2 _ hPo (fun _ ad h => by injection h with h; subst h; show ¬ gi = bw; omega) hTo
        have e6 : ((wr.alloc (.cells #[.int .u64 key, .int .u64 (j : Int)] 24)).drew).cell? ⟨bw, 5, none⟩ = some (.int .u64 seed) := hTo.ends.2
        have hbl := hw3.tab.lt
        obtain ⟨pv, hpv⟩ : ∃ pv, pv = pickTo (lenI (mixOf seed [key, (j : Int)])) its m := ⟨_, rfl⟩
        rw [← hpv] at A2
        have HPV := Lib.hid hpv
        have hI4 := (hI3.keep ((Below.refl _ _).alloc (Nat.le_refl _) ow)).keep (Below.drew (Below.refl _ _))
        have hw4 := (hw3.keep ((Below.refl _ _).alloc (Nat.le_refl _) ow)).keep (Below.drew (Below.refl _ _))
        have hM4 := (hM3.alloc ow).drew
        rw [how] at hI4 hw4 hM4
        have hpb := pick_bd (lenI (mixOf seed [key, (j : Int)])) its m
        rw [← hpv] at hpb
        have HE := Lib.hid (show stepI l W seed key j = if 0 ≤ pv then ls.getD pv.toNat 0 else -1 by
          rw [HST.out]
          unfold stepL kidOf
          rw [← HITS.out, HN.out, ← HPV.out]
          by_cases h0 : 0 ≤ pv
          · rw [if_pos h0, if_pos h0, HLS.out, cast_at ks (by rw [HN.out]; omega)]
          · rw [if_neg h0, if_neg h0])
        have HK2 := Lib.hid hkne2
        clear hI3 hR3 hkb hit hwf how hpv hlt hm hil hkne hkne2 hw3 hM3
        go_wp2_with fail
        go_region_with (first
          | (go_at_call 35; go_loud (refine (A1 _).mono ?_); rintro en w' ⟨rfl, rfl⟩)
          | (go_at_call 59; refine A2.mono ?_; rintro en w' ⟨rfl, hTx, hMx⟩))
        all_goals
          have hw5 := hw4.turn hTx hMx
          have hM5 := hM4.trans hMx
          have hI5 := list_mod hI4 hMx HK2.out
          clear hw4 hM4 hI4 hTx hMx A1 A2 e6 e4 e5
          by_cases h0 : 0 ≤ pv
          · obtain ⟨ad, rfl, _, x0, xw⟩ := hI5.get (k := pv.toNat) (by omega)
            obtain ⟨k, rfl⟩ := Int.eq_ofNat_of_zero_le h0
            have g1 : decide (0 ≤ (k : Int)) = true := decide_eq_true h0
            have g2 : (k : Int) < (m : Int) := by omega
            rw [Int.toNat_natCast] at x0
            rw [if_pos h0, Int.toNat_natCast] at HE
            obtain ⟨z, hz⟩ : ∃ z, z = ls.getD k 0 := ⟨_, rfl⟩
            rw [← hz] at x0 HE
            have hk0 : (0 : Int) ≤ (k : Int) := h0
            have hpn : k < m := by omega
            clear hI5 xw hz h0 hpb
            repeat first | go_values | go_skip | go_guarded | go_step | go_upon
            go_ret
            exact ⟨by rw [if_pos trivial, Int.toNat_natCast, HE.out]; rfl, hw5, hM5⟩
          · have g1 : decide (0 ≤ pv) = false := decide_eq_false h0
            rw [if_neg h0] at HE
            clear hI5
            go_wp2
            go_ret
            exact ⟨by rw [HE.out]; rfl, hw5, hM5⟩
end
end Go.Proofs.YtblbgafadadbmaaGreat
end
section
/- Walker.Down. -/
set_option linter.unusedVariables false
namespace Go.Proofs.YtblbgafadadbmaaGreat
open Go.RowKit
set_option maxHeartbeats 4000000
set_option maxRecDepth 100000
/-- What Down tells: nothing of a node without a host that may be picked. -/
def downR (l : List Nd) (W : Nat → Int) (S : Nat → Bool) (seed key i : Int) : List Int := if atB S l.length i = true then wayI l W seed key i.toNat else []
theorem downR_no {l : List Nd} {W : Nat → Int} {S : Nat → Bool} {seed key i : Int} (h : atB S l.length i = false) : downR l W S seed key i = [] := by unfold downR; rw [h]; rfl
theorem downR_yes {l : List Nd} {W : Nat → Int} {S : Nat → Bool} {seed key : Int} {i : Nat} (h : atB S l.length (i : Int) = true) : downR l W S seed key i = wayI l W seed key i := by unfold downR; rw [h, if_pos rfl, Int.toNat_natCast]
theorem atB_in {S : Nat → Bool} {n : Nat} {i : Int} (h : atB S n i = true) : 0 ≤ i ∧ i < n := by
  unfold atB at h
  split at h
  · assumption
  · cases h
theorem own_mod {w w' : World} {bw base : Nat} {e : TypeId} {s n : Nat} {v : Value} {xs : List Value} (h : w.ownsRow base e s v n xs) (hx : Mod (· = bw) w w') (hb : bw < base) : w'.ownsRow base e s v n xs :=
  h.kept (row := some bw) ⟨hx.os, hx.tape, hx.output, hx.size, fun k hk hn => hx.block k hk (fun e => hn (by rw [e]))⟩ (.inr (fun e => by have := own_from h bw e; omega))
theorem mod_grown {w u v : World} {bw : Nat} {row : Option Nat} (h : Mod (· = bw) w u) (hg : u.grownBy v row) (hr : ∀ g, row = some g → w.heap.size ≤ g) : Mod (· = bw) w v where
  os := hg.os.trans h.os
  tape := hg.tape.trans h.tape
  output := hg.output.trans h.output
  size := Nat.le_trans h.size hg.size
  block := fun i hi hn => (hg.block i (Nat.lt_of_lt_of_le hi h.size) (fun e => by have := hr i e.symm; omega)).trans (h.block i hi hn)
theorem Tab.grown {w w' : World} {b base n : Nat} {T : K6} {v : Value} {xs : List Value} (h : Tab w b T) (hown : w.ownsRow base 3 1 v n xs) (hb : b < base) (hg : w.grownBy w' v.ownBlock) : Tab w' b T := by
  have hne : some b ≠ v.ownBlock := fun e => by have := own_from hown b e.symm; omega
  rcases h with h | ⟨g, h, hr, hne2⟩
  · exact .inl (h.grown hg hne)
  · exact .inr ⟨g, h.grown hg hne, hr.of_block (hg.block g hr.lt (row_own hr hown (by decide))), hne2⟩
theorem WW.grown {w0 w w' : World} {b base n : Nat} {T : K6} {v : Value} {xs : List Value} (h : WW w0 w b T) (hown : w.ownsRow base 3 1 v n xs) (hb : b < base) (hg : w.grownBy w' v.ownBlock) : WW w0 w' b T :=
  ⟨h.tab.grown hown hb hg, h.le, h.bel.grown hg h.bel.size (fun g e => by have := own_from hown g e; have := h.le; omega)⟩
section
variable {w0 w : World} {bt g gw gs bw : Nat} {l : List Nd} {W : Nat → Int} {S : Nat → Bool} {vH : Value} {H : List Int} {f seed : Int}
theorem walk_DownNil (hT : TR w0 bt l) (hS : SetIs w g bt l.length gw gs W S vH H) (i key : Int) : Calls Tryz.prog 24 #[.pointer none, .pointer (some ⟨g, 0, none⟩), .int .i64 i, .int .u64 key] w fun e w' => e = .returned (.slice none 0 0) ∧ w = w' := by
  have hHas := set_Has hS i
  go_enter Tryz.func24, Tryz.ntmps24
  go_wp2_with fail
  refine hHas.mono ?_; rintro e w' ⟨rfl, rfl⟩
  generalize atB S l.length i = z
  cases z
  · go_wp2
    go_ret
    exact ⟨rfl, rfl⟩
  · go_wp2
    go_ret
    exact ⟨rfl, rfl⟩
theorem walk_Down (hT : TR w0 bt l) (ht : Tall l) (hS : SetIs w0 g bt l.length gw gs W S vH H) (hWb : ∀ k, k < l.length → 0 ≤ W k ∧ W k < 18446744073709551616) (hSW : ∀ k, k < l.length → 0 < W k → S k = true) (hw : WW w0 w bw (kw f seed)) (s0 : 0 ≤ seed) (s1 : seed < 18446744073709551616)
    (i key : Int) (k0 : 0 ≤ key) (k1 : key < 18446744073709551616) :
    Calls Tryz.prog 24 #[.pointer (some ⟨bw, 0, none⟩), .pointer (some ⟨g, 0, none⟩), .int .i64 i, .int .u64 key] w fun e w' =>
      ∃ A c, e = .returned (.slice A (downR l W S seed key i).length c) ∧ IsList w' .i64 A (downR l W S seed key i).length c (downR l W S seed key i) ∧ (∀ ad, A = some ad → w.heap.size ≤ ad.block) ∧ WW w0 w' bw (kw f seed) ∧ Mod (· = bw) w w' := by
  have hfew := hT.few
  have hS1 := hS.keep hw.bel
  have hHas := set_Has hS1 i
  have hlt := hw.tab.lt
  cases hz : atB S l.length i with
  | false =>
    rw [hz] at hHas
    rw [downR_no hz]
    clear hz
    go_enter Tryz.func24, Tryz.ntmps24
    go_wp2_with fail
    refine hHas.mono ?_; rintro e w' ⟨rfl, rfl⟩
    go_wp2
    go_ret
    exact ⟨none, 0, rfl, isList_nil _ _, fun ad h => (by cases h), hw, Mod.refl _ _⟩
  | true =>
    rw [hz] at hHas
    obtain ⟨j, rfl⟩ := Int.eq_ofNat_of_zero_le (atB_in hz).1
    have hjl : j < l.length := by have := (atB_in hz).2; omega
    rw [downR_yes hz]
    obtain ⟨R, hR⟩ : ∃ R, R = wayI l W seed key j := ⟨_, rfl⟩
    have hRb := way_bd ht W seed key j hjl
    have hRl := way_len l W seed key j
    rw [← hR] at hRb hRl ⊢
    have HR := Lib.hid hR
    clear hR
    go_enter Tryz.func24, Tryz.ntmps24
    go_wp2_with fail
    refine hHas.mono ?_; rintro e w' ⟨rfl, rfl⟩
    have hown0 := World.ownsRow_lit (base := w.heap.size) (e := 3) (size := 1) w #[.int .i64 (j : Int)] 1 (Nat.le_refl _) (by decide) rfl
    have hw1 := hw.keep ((Below.refl _ _).alloc (Nat.le_refl _) (.cells #[.int .i64 (j : Int)] 3))
    have hM1 : Mod (· = bw) w (w.alloc (.cells #[.int .i64 (j : Int)] 3)) := (Mod.refl _ _).alloc _
    have hS0 : S j = true := by
      unfold atB at hz
      rw [if_pos (atB_in hz)] at hz
      exact hz
    obtain ⟨iI, hiI, hzI, hzI1, hzI2⟩ := info_parts Tryz.infoI
    clear hS1 hHas hz
    go_wp2_with fail
    generalize w.alloc (.cells #[.int .i64 (j : Int)] 3) = w1 at *
    go_loopg [2, 9] (4 - (l.getD j nd0).kind.toNat) (fun gk s2 s9 wr => ∃ (a : Nat) (pre : List Int), gk = 4 - (l.getD a nd0).kind.toNat ∧ s2 = .int .i64 a ∧ a < l.length ∧ S a = true ∧ wr.ownsRow w.heap.size 3 1 s9 (pre.length + 1) (ints (pre ++ [(a : Int)])) ∧
      WW w0 wr bw (kw f seed) ∧ Mod (· = bw) w wr ∧ Hid (R = joinW pre (wayI l W seed key a)) ∧ pre.length + 1 ≤ (l.getD a nd0).kind.toNat)
    case atStart => exact ⟨j, [], rfl, rfl, hjl, hS0, by simpa [ints] using hown0, hw1, hM1, Lib.hid (by rw [joinW_start]; exact HR.out), by have := (tall_head ht j hjl).kind0; rw [List.length_nil]; omega⟩
    case round =>
      clear hown0 hw1 hM1 hS0
      obtain ⟨a, pre, rfl, rfl, hal, hSa, hown, hw2, hM2, HJ, hpl⟩ := hrel
      have hS2 := hS.keep hw2.bel
      have hT2 := hT.keep hw2.bel
      obtain ⟨c0, c1, c2, c3, _⟩ := hS2.blk.cells4
      have hNd := tr_NodeIn hT2 a hal
      have hd := tall_head ht a hal
      obtain ⟨hd0, hd1⟩ := And.intro hd.kind0 hd.kind1
      have HD := Lib.hid hd
      obtain ⟨x, hx⟩ : ∃ x, x = l.getD a nd0 := ⟨_, rfl⟩
      rw [← hx] at hNd hd0 hd1 hpl
      have HX := Lib.hid hx
      have hfk := fun w => node_kind x w
      unfold Nd.val at hNd
      clear hd hx
      go_wp2_with fail
      refine hNd.mono ?_; rintro e w3 ⟨rfl, hx3⟩
      have hw3 := hw2.keep hx3
      have hM3 := hM2.thenB hx3
      have hown3 := own_keep hown hx3
      clear hNd hx3 hown hw2 hM2 c0 c1 c2 c3 hS2 hT2
      by_cases h4 : x.kind = 4
      · have g1 : (x.kind == 4) = true := by rw [beq_iff_eq]; exact h4
        have HE := Lib.hid (show R = pre ++ [(a : Int)] by rw [HJ.out, way_host (by rw [← HX.out]; exact h4)]; rfl)
        have hRl2 : R.length = pre.length + 1 := by rw [HE.out]; simp
        obtain ⟨AR, cR, rfl, hIR, hfr⟩ := own_list hown3 (fun z hz => by
          have hm : z ∈ R := by rw [HE.out]; exact hz
          have := hRb z hm
          simp [Lit.wf, IntKind.min, IntKind.max, IntKind.signed, IntKind.bits]
          omega) (by omega)
        rw [← HE.out, ← hRl2] at hIR
        rw [← hRl2]
        have HL := Lib.hid hRl2
        clear h4 HJ hown3 hRb hRl hRl2
        go_wp2
        go_ret
        exact ⟨AR, cR, rfl, hIR, hfr, hw3, hM3⟩
      · have g1 : (x.kind == 4) = false := by rw [beq_eq_false_iff_ne]; exact h4
        have hSt := walk_Step hT hS hWb hw3 s0 s1 (a : Int) key k0 k1
        have hat : atB S l.length (a : Int) = true := by unfold atB; rw [if_pos (by omega)]; exact hSa
        rw [hat, if_pos rfl, Int.toNat_natCast] at hSt
        go_wp2_with fail
        refine hSt.mono ?_; rintro e w4 ⟨rfl, hw4, hm4⟩
        have hM4 := hM3.trans hm4
        have hown4 := own_mod hown3 hm4 hlt
        clear hSt hm4 hown3 hw3 hM3 hat
        by_cases hs : 0 ≤ stepI l W seed key a
        · obtain ⟨b, hb, hbl, hba, hb0⟩ := stepI_in hs
          have hsk := step_kind ht hb
          have HJ2 := Lib.hid (show R = joinW (pre ++ [(a : Int)]) (wayI l W seed key b) by rw [← joinW_one, ← way_step ht hal (by rw [← HX.out]; exact h4) hb]; exact HJ.out)
          have hSb := hSW b hbl hb0
          rw [hb]
          rw [← HX.out] at hsk
          have hsk2 := hsk.2.1
          have hkd := (tall_head ht b hbl).kind1
          obtain ⟨y, hy⟩ : ∃ y, y = (l.getD b nd0).kind := ⟨_, rfl⟩
          rw [← hy] at hsk2 hkd
          have HY := Lib.hid hy
          have g2 : decide ((b : Int) < 0) = false := decide_eq_false (by omega)
          clear hs hsk HJ hy h4 hb
          go_wp2_with (at_builtin; go_loud (refine wpList_append_any _ rfl (.tmp 35) (.tmp 37) _ rfl w.heap.size 3 iI _ 1 8 Tryz.underlying23 hiI hzI hzI1 hzI2 rfl (by decide) _ (pre.length + 1) (ints (pre ++ [(a : Int)])) rfl (hown4.alloc _) _ (some ⟨w4.heap.size, 0, none⟩) 1 1 [.int .i64 b] rfl (one_reads w4 3 1 [.int .i64 b] rfl) (by intro u hu; simp at hu; subst hu; rfl) (by simp only [maxLen]; omega) (by omega) (by have := hM4.size; simp; omega) ?_; intro v6 w6 hown6 hg6 hat6))
          have hw6 := (hw4.keep ((Below.refl _ _).alloc (Nat.le_refl _) _)).grown (hown4.alloc _) hlt hg6
          have hM6 := mod_grown (hM4.alloc _) hg6 (own_from hown4)
          go_wp2
          go_roundg (4 - y.toNat)
          case measure => (rw [← HX.out]; omega)
          case rel => exact ⟨b, pre ++ [(a : Int)], by rw [HY.out], rfl, hbl, hSb, by simpa [ints] using hown6, hw6, hM6, HJ2, by rw [← HY.out, hsk2, List.length_append]; simp; omega⟩
        · have HE := Lib.hid (show R = [] by rw [HJ.out, way_none (by rw [← HX.out]; exact h4) hs]; rfl)
          have hsn := stepI_neg hs
          rw [hsn]
          have hRl2 : R.length = 0 := by rw [HE.out]; rfl
          have HL := Lib.hid hRl2
          clear hs hsn HJ h4 hown4 hRb hRl hRl2
          go_wp2
          go_ret
          exact ⟨none, 0, by rw [HE.out]; rfl, by rw [HE.out]; exact isList_nil _ _, fun ad h => (by cases h), hw4, hM4⟩
end
end Go.Proofs.YtblbgafadadbmaaGreat
end
section
/- The law's step of a walk. -/
set_option linter.unusedVariables false
namespace Go.Proofs.YtblbgafadadbmaaGreat
open Go.RowKit
set_option maxHeartbeats 4000000
set_option maxRecDepth 100000
theorem best_no {L : Int → Int} {l : List Nd} {W : Nat → Int} {i k : Nat} {B : Int} (hB : B = bestTo L l W i k) (h : ¬ ((l.getD k nd0).above = (i : Int) ∧ W k ≠ 0 ∧ (B < 0 ∨ L (k : Int) * W B.toNat < L B * W k))) : bestTo L l W i (k + 1) = B := by
  subst hB; rw [bestTo, if_neg h]
theorem best_yes {L : Int → Int} {l : List Nd} {W : Nat → Int} {i k : Nat} {B : Int} (hB : B = bestTo L l W i k) (h : (l.getD k nd0).above = (i : Int) ∧ W k ≠ 0 ∧ (B < 0 ∨ L (k : Int) * W B.toNat < L B * W k)) : bestTo L l W i (k + 1) = k := by
  subst hB; rw [bestTo, if_pos h]
theorem best_bd (L : Int → Int) (l : List Nd) (W : Nat → Int) (i : Nat) : ∀ k, -1 ≤ bestTo L l W i k ∧ bestTo L l W i k < k
  | 0 => by rw [bestTo]; omega
  | k + 1 => by
    have := best_bd L l W i k
    rw [bestTo]
    split <;> omega
theorem cmp_neg (a b : Int) : decide (cmpI a b < 0) = decide (a < b) := by
  unfold cmpI
  by_cases h : a < b
  · rw [if_pos h, decide_eq_true h]; rfl
  · rw [if_neg h, decide_eq_false h]
    split <;> rfl
theorem drw_wraps (u k : Int) : IntKind.i64.wrap (mixOf u [k] / 281474976710656) = mixOf u [k] / 281474976710656 ∧ IntKind.i64.wrap (mixOf u [k] / 281474976710656 + 1) = drwI u k ∧
    ∀ w, Calls Tryz.prog 63 #[.int .i64 (drwI u k)] w fun e w' => e = .returned (.int .u64 (ofN (drwI u k))) ∧ w = w' := by
  have hm2 := mixOf_bd u [k]
  have hdb := drw_bd u k
  exact ⟨IntWalk.i64_in _ (by omega), IntWalk.i64_in _ (by omega), fun w => ref_LogOf (drwI u k) (by omega) (by omega) w⟩
theorem law26_step {A : Option Addr} {n c gr : Nat} {l : List Nd} {W : Nat → Int} {w : World} (h : IsNodes w A n c l) (hR : w.rowIs gr 24 n (fun j => .int .u64 (W j))) (hWb : ∀ k, k < n → 0 ≤ W k ∧ W k < 18446744073709551616) (hn1 : n ≤ 1024)
    (seed key : Int) (s0 : 0 ≤ seed) (s1 : seed < 18446744073709551616) (k0 : 0 ≤ key) (k1 : key < 18446744073709551616) (i : Nat) (hi : i < n) :
    Calls Tryz.prog 52 #[.slice A n c, .slice (some ⟨gr, 0, none⟩) n n, .int .u64 seed, .int .i64 i, .int .u64 key] w fun e w' => e = .returned (.int .i64 (bestTo (lenI (mixOf seed [key, (i : Int)])) l W i n)) ∧ Below w.heap.size w w' := by
  have hcap := h.cap
  have hsm := h.small
  have hlen := Lib.hid h.len
  have ki : IntKind.u64.wrap (i : Int) = i := by rw [IntKind.wrap_u64]; omega
  have A1 := fun (w' : World) => ref_Of seed _ 2 2 [key, (i : Int)] _ s0 s1 (two_list (Blk.new w' 24 _) ⟨k0, k1⟩ (show 0 ≤ (i : Int) ∧ (i : Int) < 18446744073709551616 by omega))
  have hmb := mixOf_bd seed [key, (i : Int)]
  have hx0 : Below w.heap.size w (w.alloc (.cells #[.int .u64 key, .int .u64 (i : Int)] 24)) := (Below.refl _ _).alloc (Nat.le_refl _) _
  go_enter Tryz.func52, Tryz.ntmps52
  go_wp2_with fail
  refine (A1 _).mono ?_; rintro e w' ⟨rfl, rfl⟩
  obtain ⟨u, hu⟩ : ∃ u, u = mixOf seed [key, (i : Int)] := ⟨_, rfl⟩
  rw [← hu] at hmb ⊢
  have HU := Lib.hid hu
  clear hu A1
  go_wp2_with fail
  generalize w.alloc (.cells #[.int .u64 key, .int .u64 (i : Int)] 24) = w1 at *
  go_loopg [12, 13, 14, 15] n (fun gk s12 s13 s14 s15 wr => ∃ (k : Nat) (lg : Int), k ≤ n ∧ gk = n - k ∧ s14 = .int .i64 k ∧ s12 = .int .i64 (bestTo (lenI u) l W i k) ∧ s13 = .int .u64 lg ∧ 0 ≤ lg ∧ lg < 18446744073709551616 ∧ Hid (0 ≤ bestTo (lenI u) l W i k → lg = lenI u (bestTo (lenI u) l W i k)) ∧ Below w.heap.size w wr)
  case atStart => exact ⟨0, 0, Nat.zero_le _, rfl, rfl, rfl, rfl, by omega, by omega, Lib.hid (fun h => absurd h (by rw [bestTo]; decide)), hx0⟩
  case round =>
    clear hx0
    obtain ⟨k, lg, hk, rfl, rfl, rfl, rfl, l0, l1, HL, hx⟩ := hrel
    have hbd := best_bd (lenI u) l W i k
    obtain ⟨B, hB⟩ : ∃ B, B = bestTo (lenI u) l W i k := ⟨_, rfl⟩
    rw [← hB] at hbd HL ⊢
    have HB := Lib.hid hB
    clear hB
    by_cases hlt : k < n
    · have hki : (k : Int) < (n : Int) := by omega
      obtain ⟨ad, rfl, hbk, d0, d1, d2, d3, d4, d5, d6⟩ := (h.keep hx).at_ hlt
      have hRk := row_keep hR hx
      have r0 := hRk.cell hlt
      have hWk := hWb k hlt
      obtain ⟨x, hxe⟩ : ∃ x, x = l.getD k nd0 := ⟨_, rfl⟩
      rw [← hxe] at d0 d1 d2 d3 d4 d5 d6
      have HX := Lib.hid hxe
      obtain ⟨y, hy⟩ : ∃ y, y = W k := ⟨_, rfl⟩
      rw [← hy] at r0 hWk
      have HY := Lib.hid hy
      clear hxe hy d0 d1 d3 d4 d5 d6
      by_cases ha : x.above = (i : Int)
      · have g1 : (x.above != (i : Int)) = false := by simp [ha]
        by_cases hz : y = 0
        · have g2 : (y == 0) = true := by simp [hz]
          have HS := Lib.hid (best_no HB.out (fun h => h.2.1 (by rw [← HY.out]; exact hz)))
          clear ha hz
          go_wp2
          go_roundg (n - (k + 1))
          case measure => omega
          case rel => exact ⟨k + 1, lg, by omega, rfl, by go_num, by rw [HS.out], rfl, l0, l1, by rw [HS.out]; exact HL, hx⟩
        · have g2 : (y == 0) = false := by simp [hz]
          have kk : IntKind.u64.wrap (k : Int) = k := by rw [IntKind.wrap_u64]; omega
          have A2 := fun (w' : World) => ref_Of u _ 1 1 [(k : Int)] _ hmb.1 hmb.2 (one_list w' 24 k (by omega) (by omega))
          obtain ⟨k2, k3, A0⟩ := drw_wraps u (k : Int)
          have hm2 := mixOf_bd u [(k : Int)]
          have hdb := drw_bd u k
          have hlb := len_bd u k
          have HLN := Lib.hid (show lenI u k = ofN (drwI u k) from rfl)
          have hxw := hx.alloc hx.size (.cells #[.int .u64 (k : Int)] 24)
          have HA := Lib.hid ha
          clear hRk ha
          go_wp2_with fail
          refine (A2 _).mono ?_; rintro e w' ⟨rfl, rfl⟩
          go_wp2_with fail
          refine (A0 _).mono ?_; rintro e w' ⟨rfl, rfl⟩
          rw [← HLN.out]
          obtain ⟨L, hL⟩ : ∃ L, L = lenI u k := ⟨_, rfl⟩
          rw [← hL] at hlb ⊢
          have HLL := Lib.hid hL
          clear hL A0 A2 k2 k3 hm2 hdb d2 r0 kk
          generalize wr.alloc (.cells #[.int .u64 (k : Int)] 24) = w3 at *
          have hR3 := row_keep hR hxw
          have r0 := hR3.cell hlt
          rw [← HY.out] at r0
          have U0 := cell_under r0
          by_cases hneg : B < 0
          · have g3 : decide (B < 0) = true := decide_eq_true hneg
            have HS := Lib.hid (best_yes HB.out ⟨by rw [← HX.out]; exact HA.out, by rw [← HY.out]; exact hz, .inl hneg⟩)
            clear hneg r0 hR3
            go_wp2_with fail
            refine wp_region_quiet_under (by kernel_rfl) (by kernel_rfl) ?_
            repeat (go_big_quiet_step ((fail)))
            refine wpQuiet_nil ?_
            intro wu hw'
            obtain ⟨pq, hw''⟩ := hw'
            have hU := below_eq hw''
            clear hw'' pq
            have hxu := below_step hxw hU
            clear hU U0 hxw hx
            go_wp2
            go_roundg (n - (k + 1))
            case measure => omega
            case rel => exact ⟨k + 1, L, by omega, rfl, by go_num, by rw [HS.out], rfl, by omega, by omega, by rw [HS.out]; exact Lib.hid (fun _ => HLL.out), hxu⟩
          · have g3 : decide (B < 0) = false := decide_eq_false hneg
            obtain ⟨b, rfl⟩ := Int.eq_ofNat_of_zero_le (show 0 ≤ B by omega)
            have r1 := hR3.cell (i := b) (by omega)
            have hWbb := hWb b (by omega)
            have hbn : (b : Int) < (n : Int) := by omega
            have HLB := Lib.hid (HL.out (by omega))
            obtain ⟨z, hz2⟩ : ∃ z, z = W b := ⟨_, rfl⟩
            rw [← hz2] at r1 hWbb
            have HZ := Lib.hid hz2
            have U1 := cell_under r1
            have N1 := p_num L z (by omega) (by omega) hWbb.1 hWbb.2
            have N2 := p_num lg y (by omega) (by omega) hWk.1 hWk.2
            obtain ⟨zb0, zb1⟩ := hWbb
            obtain ⟨yb0, yb1⟩ := hWk
            have C1 := fun w => wide_Cmp _ _ _ _ N1 N2 w
            rw [p_V, p_V] at C1
            have HC := cmp_neg (L * z) (lg * y)
            obtain ⟨C, hC⟩ : ∃ C, C = cmpI (L * z) (lg * y) := ⟨_, rfl⟩
            rw [← hC] at C1 HC
            have HCH := Lib.hid HC
            clear hC HC hz2 r0 r1 hR3 hneg N1 N2
            go_wp2_with fail
            refine wp_region_quiet_under (by kernel_rfl) (by kernel_rfl) ?_
            repeat (go_big_quiet_step ((first | (go_at_call 64; exact calls_under (wide_Mul _ _ (by omega) (by omega) (by omega) (by omega) _)) | (go_at_call 65; exact calls_under (C1 _)))))
            refine wpQuiet_nil ?_
            intro wu hw'
            obtain ⟨pq, hw''⟩ := hw'
            have hU := below_eq hw''
            clear hw'' pq
            have hxu := below_step hxw hU
            clear hU U0 U1 hxw hx C1
            by_cases hc : C < 0
            · have g4 : decide (C < 0) = true := decide_eq_true hc
              rw [g4] at HCH
              have HS := Lib.hid (best_yes HB.out ⟨by rw [← HX.out]; exact HA.out, by rw [← HY.out]; exact hz, .inr (by rw [Int.toNat_natCast, ← HZ.out, ← HY.out, ← HLL.out, ← HLB.out]; exact of_decide_eq_true HCH.out.symm)⟩)
              clear HCH
              go_wp2
              go_roundg (n - (k + 1))
              case measure => omega
              case rel => exact ⟨k + 1, L, by omega, rfl, by go_num, by rw [HS.out], rfl, by omega, by omega, by rw [HS.out]; exact Lib.hid (fun _ => HLL.out), hxu⟩
            · have g4 : decide (C < 0) = false := decide_eq_false hc
              rw [g4] at HCH
              have HS := Lib.hid (best_no HB.out (fun h => h.2.2.elim (fun h2 => by omega) (fun h2 => by
                rw [Int.toNat_natCast, ← HZ.out, ← HY.out, ← HLL.out, ← HLB.out] at h2
                exact absurd h2 (of_decide_eq_false HCH.out.symm))))
              clear HCH
              go_wp2
              go_roundg (n - (k + 1))
              case measure => omega
              case rel => exact ⟨k + 1, lg, by omega, rfl, by go_num, by rw [HS.out], rfl, l0, l1, by rw [HS.out]; exact HL, hxu⟩
      · have g1 : (x.above != (i : Int)) = true := by simp [ha]
        have HS := Lib.hid (best_no HB.out (fun h => ha (by rw [HX.out]; exact h.1)))
        clear ha
        go_wp2
        go_roundg (n - (k + 1))
        case measure => omega
        case rel => exact ⟨k + 1, lg, by omega, rfl, by go_num, by rw [HS.out], rfl, l0, l1, by rw [HS.out]; exact HL, hx⟩
    · obtain rfl : k = n := by omega
      go_wp2
      go_ret
      exact ⟨by rw [← HU.out, ← HB.out]; rfl, hx⟩
end Go.Proofs.YtblbgafadadbmaaGreat
end
section
/- The law's way down. -/
set_option linter.unusedVariables false
namespace Go.Proofs.YtblbgafadadbmaaGreat
open Go.RowKit
set_option maxHeartbeats 4000000
set_option maxRecDepth 100000
theorem best_step' (l : List Nd) (W : Nat → Int) (hW : ∀ k, k < l.length → 0 ≤ W k) (seed key : Int) (i : Nat) : bestTo (lenI (mixOf seed [key, (i : Int)])) l W i l.length = stepI l W seed key i := by
  have e1 : ∀ L k, k ≤ l.length → bestTo L l W i k = bestTo L l (fun j => if j < l.length then W j else 0) i k := fun L k => by
    induction k with
    | zero => intro _; rfl
    | succ k ih =>
      intro hk
      have hb := best_bd L l W i k
      have ih' := ih (by omega)
      rw [bestTo, bestTo, ← ih', if_pos (show k < l.length by omega)]
      by_cases hn : bestTo L l W i k < 0
      · simp [hn]
      · rw [if_pos (show (bestTo L l W i k).toNat < l.length by omega)]
  rw [e1 _ _ (Nat.le_refl _), best_step l _ (fun k => by
    by_cases h : k < l.length
    · rw [if_pos h]; exact hW k h
    · rw [if_neg h]; omega)]
  unfold stepI stepL
  have e2 : items (fun j => if j < l.length then W j else 0) (kidsN l i) = items W (kidsN l i) := by
    unfold items
    exact List.map_congr_left (fun k hk => by show ((k : Int), (if k < l.length then W k else 0)) = _; rw [if_pos (mem_kids.1 hk).1])
  rw [e2]
theorem node_kind_at {A : Option Addr} {n c : Nat} {l : List Nd} {w : World} (h : IsNodes w A n c l) {a : Nat} (ha : a < n) : ∃ ad, A = some ad ∧ w.cell? ⟨(ad.add (a * 7)).block, (ad.add (a * 7)).off + 1, none⟩ = some (.int .i64 (l.getD a nd0).kind) := by
  obtain ⟨ad, e, _, h2⟩ := h.at_ ha
  exact ⟨ad, e, h2.kind⟩
theorem law26_down {A : Option Addr} {n c gr : Nat} {l : List Nd} {W : Nat → Int} {w : World} (h : IsNodes w A n c l) (ht : Tall l) (hR : w.rowIs gr 24 n (fun j => .int .u64 (W j))) (hWb : ∀ k, k < n → 0 ≤ W k ∧ W k < 18446744073709551616) (hn1 : n ≤ 1024)
    (seed key : Int) (s0 : 0 ≤ seed) (s1 : seed < 18446744073709551616) (k0 : 0 ≤ key) (k1 : key < 18446744073709551616) (i : Nat) (hi : i < n) :
    Calls Tryz.prog 29 #[.slice A n c, .slice (some ⟨gr, 0, none⟩) n n, .int .u64 seed, .int .i64 i, .int .u64 key] w fun e w' =>
      ∃ A' c', e = .returned (.slice A' (wayI l W seed key i).length c') ∧ IsList w' .i64 A' (wayI l W seed key i).length c' (wayI l W seed key i) ∧ (∀ ad, A' = some ad → w.heap.size ≤ ad.block) ∧ Below w.heap.size w w' := by
  have hcap := h.cap
  have hsm := h.small
  have hlen := h.len
  subst hlen
  obtain ⟨R, hR0⟩ : ∃ R, R = wayI l W seed key i := ⟨_, rfl⟩
  have hRb := way_bd ht W seed key i hi
  have hRl := way_len l W seed key i
  rw [← hR0] at hRb hRl ⊢
  have HR := Lib.hid hR0
  have hWnn : ∀ k, k < l.length → 0 ≤ W k := fun k hk => (hWb k hk).1
  clear hR0
  obtain ⟨iI, hiI, hzI, hzI1, hzI2⟩ := info_parts Tryz.infoI
  go_enter Tryz.func29, Tryz.ntmps29
  go_wp2_with fail
  go_loopg [3, 11, 12] (4 - (l.getD i nd0).kind.toNat + 1) (fun gk s3 s11 s12 wr => ∃ (z : Int) (pre : List Int) (m : Nat), s3 = .int .i64 z ∧ s12 = .int .i64 m ∧ m ≤ 4 ∧ wr.ownsRow w.heap.size 3 1 s11 pre.length (ints pre) ∧ Below w.heap.size w wr ∧
    ((z = -1 ∧ gk = 0 ∧ Hid (R = [])) ∨ ∃ a : Nat, z = a ∧ gk = 4 - (l.getD a nd0).kind.toNat + 1 ∧ a < l.length ∧ m + 1 ≤ (l.getD a nd0).kind.toNat ∧ pre.length = m ∧ Hid (R = joinW pre (wayI l W seed key a))))
  case atStart => exact ⟨i, [], 0, rfl, rfl, by omega, World.ownsRow_nil _ _ _ _, Below.refl _ _, .inr ⟨i, rfl, rfl, hi, by have := (tall_head ht i hi).kind0; omega, rfl, Lib.hid (by rw [joinW_start]; exact HR.out)⟩⟩
  case round =>
    obtain ⟨z, pre, m, rfl, rfl, hm4, hown, hx, ⟨rfl, rfl, HE⟩ | ⟨a, rfl, rfl, hal, hmk, hpm, HJ⟩⟩ := hrel
    · have HL := Lib.hid (show R.length = 0 by rw [HE.out]; rfl)
      clear hown hRb hRl
      by_cases hm : m < 4
      · have g0 : decide ((m : Int) < 4) = true := decide_eq_true (by omega)
        go_wp2
        go_ret
        exact ⟨none, 0, by rw [HL.out]; rfl, by rw [HE.out]; exact isList_nil _ _, fun ad h => (by cases h), hx⟩
      · have g0 : decide ((m : Int) < 4) = false := decide_eq_false (by omega)
        go_wp2
        go_ret
        exact ⟨none, 0, by rw [HL.out]; rfl, by rw [HE.out]; exact isList_nil _ _, fun ad h => (by cases h), hx⟩
    have hd := tall_head ht a hal
    obtain ⟨hd0, hd1⟩ := And.intro hd.kind0 hd.kind1
    have hSt := fun (w : World) (h : IsNodes w A l.length c l) (hR : w.rowIs gr 24 l.length (fun j => .int .u64 (W j))) => law26_step h hR hWb hn1 seed key s0 s1 k0 k1 a hal
    obtain ⟨ad, rfl, hbk, d0, d1, d2, d3, d4, d5, d6⟩ := (h.keep hx).at_ hal
    obtain ⟨x, hxe⟩ : ∃ x, x = l.getD a nd0 := ⟨_, rfl⟩
    rw [← hxe] at d0 d1 d2 d3 d4 d5 d6 hd0 hd1 hmk
    have HX := Lib.hid hxe
    have g0 : decide ((m : Int) < 4) = true := decide_eq_true (by omega)
    have g1 : decide (0 ≤ (a : Int)) = true := decide_eq_true (by omega)
    have hai : (a : Int) < (l.length : Int) := by omega
    clear hd hxe d0 d2 d3 d4 d5 d6
    by_cases h4 : x.kind = 4
    · have g2 : (x.kind == 4) = true := by rw [beq_iff_eq]; exact h4
      have HE := Lib.hid (show R = pre ++ [(a : Int)] by rw [HJ.out, way_host (by rw [← HX.out]; exact h4)]; rfl)
      clear h4 HJ hSt
      go_wp2_with (at_builtin; go_loud (refine wpList_append_any _ rfl (.tmp 21) (.tmp 23) _ rfl w.heap.size 3 iI _ 1 8 Tryz.underlying23 hiI hzI hzI1 hzI2 rfl (by decide) _ pre.length (ints pre) rfl (hown.alloc _) _ (some ⟨wr.heap.size, 0, none⟩) 1 1 [.int .i64 a] rfl (one_reads wr 3 1 [.int .i64 a] rfl) (by intro u hu; simp at hu; subst hu; rfl) (by simp only [maxLen]; omega) (by omega) (by have := hx.size; simp; omega) ?_; intro v6 w6 hown6 hg6 hat6; have hx6 := push_below (hx.alloc hx.size _) hg6 (own_from hown); obtain ⟨ad', e', e1⟩ := node_kind_at (h.keep hx6) hal; obtain rfl : ad' = ad := (by injection e' with e'; exact e'.symm); rw [← HX.out] at e1; clear d1))
      have hRl2 : R.length = pre.length + 1 := by rw [HE.out]; simp
      have hown7 : w6.ownsRow w.heap.size 3 1 v6 R.length (ints R) := by rw [hRl2, HE.out]; simpa [ints] using hown6
      obtain ⟨AR, cR, rfl, hIR, hfr⟩ := own_list hown7 (fun z hz => by
        have := hRb z hz
        simp [Lit.wf, IntKind.min, IntKind.max, IntKind.signed, IntKind.bits]
        omega) (by omega)
      clear hown6 hown7 hat6 hg6 hRl2
      go_wp2
      go_ret
      exact ⟨AR, cR, rfl, hIR, hfr, hx6⟩
    · have g2 : (x.kind == 4) = false := by rw [beq_eq_false_iff_ne]; exact h4
      have H4 := Lib.hid h4
      clear h4
      go_wp2_with (at_builtin; go_loud (refine wpList_append_any _ rfl (.tmp 21) (.tmp 23) _ rfl w.heap.size 3 iI _ 1 8 Tryz.underlying23 hiI hzI hzI1 hzI2 rfl (by decide) _ pre.length (ints pre) rfl (hown.alloc _) _ (some ⟨wr.heap.size, 0, none⟩) 1 1 [.int .i64 a] rfl (one_reads wr 3 1 [.int .i64 a] rfl) (by intro u hu; simp at hu; subst hu; rfl) (by simp only [maxLen]; omega) (by omega) (by have := hx.size; simp; omega) ?_; intro v6 w6 hown6 hg6 hat6; have hx6 := push_below (hx.alloc hx.size _) hg6 (own_from hown); obtain ⟨ad', e', e1⟩ := node_kind_at (h.keep hx6) hal; obtain rfl : ad' = ad := (by injection e' with e'; exact e'.symm); rw [← HX.out] at e1; clear d1))
      have hown7 : w6.ownsRow w.heap.size 3 1 v6 (pre ++ [(a : Int)]).length (ints (pre ++ [(a : Int)])) := by rw [List.length_append]; simpa [ints] using hown6
      clear hown6 hat6 hg6 hown e1
      have hSt6 := hSt w6 (h.keep hx6) (row_keep hR hx6)
      rw [best_step' l W hWnn seed key a] at hSt6
      go_wp2_with fail
      refine hSt6.mono ?_; rintro e w7 ⟨rfl, hx7⟩
      have hx8 := below_step hx6 hx7
      have hown8 := own_keep hown7 hx7
      clear hSt hSt6 hx6 hx7 hown7 hx
      by_cases hs : 0 ≤ stepI l W seed key a
      · obtain ⟨b, hb, hbl, hba, hb0⟩ := stepI_in hs
        have hsk := step_kind ht hb
        have HJ2 := Lib.hid (show R = joinW (pre ++ [(a : Int)]) (wayI l W seed key b) by rw [← joinW_one, ← way_step ht hal (by rw [← HX.out]; exact H4.out) hb]; exact HJ.out)
        rw [hb]
        rw [← HX.out] at hsk
        have hsk2 := hsk.2.1
        have hkd := (tall_head ht b hbl).kind1
        obtain ⟨y, hy⟩ : ∃ y, y = (l.getD b nd0).kind := ⟨_, rfl⟩
        rw [← hy] at hsk2 hkd
        have HY := Lib.hid hy
        clear hs hsk HJ hy hb
        go_wp2
        go_roundg (4 - y.toNat + 1)
        case measure => (rw [← HX.out]; omega)
        case rel => exact ⟨b, pre ++ [(a : Int)], m + 1, rfl, by go_num, by omega, hown8, hx8, .inr ⟨b, rfl, by rw [HY.out], hbl, by rw [← HY.out]; omega, by rw [List.length_append]; simp; omega, HJ2⟩⟩
      · have HE := Lib.hid (show R = [] by rw [HJ.out, way_none (by rw [← HX.out]; exact H4.out) hs]; rfl)
        have hsn := stepI_neg hs
        rw [hsn]
        have hRl2 : R.length = 0 := by rw [HE.out]; rfl
        clear hs hsn HJ hRb hRl hRl2
        go_wp2
        go_roundg 0
        case measure => omega
        case rel => exact ⟨-1, pre ++ [(a : Int)], m + 1, rfl, by go_num, by omega, hown8, hx8, .inl ⟨rfl, rfl, HE⟩⟩
end Go.Proofs.YtblbgafadadbmaaGreat
end
section
/- LoadShares. -/
set_option linter.unusedVariables false
namespace Go.Proofs.YtblbgafadadbmaaGreat
open Go.RowKit
set_option maxHeartbeats 4000000
set_option maxRecDepth 100000
theorem ofI_of {H A : List Int} {f : Int} {n m : Nat} (hm : m < n) : ((m : Int) = someTo H n → ofI H A f n m = got (hH H A f) (tot H A f n) m + leftTo (hH H A f) (tot H A f n) n) ∧ (¬ (m : Int) = someTo H n → ofI H A f n m = got (hH H A f) (tot H A f n) m) := by
  unfold ofI
  rw [someTo_at H hm]
  constructor
  · intro h
    have : ((m : Int) == someTo H n) = true := by simp [h]
    rw [this]; rfl
  · intro h
    have : ((m : Int) == someTo H n) = false := by simp [h]
    rw [this]; simp
end Go.Proofs.YtblbgafadadbmaaGreat
end
