/- Lemmas for the claim's proof: WalkA WalkB WalkC LoadE LoadI WalkF. -/
import Derived.Laws.MakeOwn
import Derived.Deep.LoopGhost
import Derived.WalkMore
import Derived.Deep.DeepCutAuto
import Derived.Deep.RegionWith
import Derived.Test.YtblbgafadadbmaaQ03
import Derived.Test.YtblbgafadadbmaaQ04
import Derived.Test.YtblbgafadadbmaaQ09
import Derived.Test.YtblbgafadadbmaaQ10
import Derived.Test.YtblbgafadadbmaaQ13
import Derived.Test.YtblbgafadadbmaaQ16
import Derived.Test.YtblbgafadadbmaaQ19
import Derived.Test.YtblbgafadadbmaaQ20
section
/- Walker.Step. -/
set_option linter.unusedVariables false
namespace Go.Proofs.Ytblbgafadadbmaa
open Go.RowKit
set_option maxHeartbeats 4000000
set_option maxRecDepth 100000
/-- The block of a walker. -/
def kw (f seed : Int) : K6 := ⟨51, .int .i64 f, .int .u64 seed⟩
theorem Tab.ends {w : World} {b : Nat} {T : K6} (h : Tab w b T) : w.cell? ⟨b, 4, none⟩ = some T.fa ∧ w.cell? ⟨b, 5, none⟩ = some T.se := by
  rcases h with h | ⟨g, h, _⟩
  · obtain ⟨_, _, _, _, c4, c5, _⟩ := h.cells6; exact ⟨c4, c5⟩
  · obtain ⟨_, _, _, _, c4, c5, _⟩ := h.cells6; exact ⟨c4, c5⟩
/-- A walker, in a world that is as another one but for it. -/
structure WW (w0 w : World) (b : Nat) (T : K6) : Prop where
  tab : Tab w b T
  le : w0.heap.size ≤ b
  bel : Below w0.heap.size w0 w
theorem WW.keep {w0 w w' : World} {b : Nat} {T : K6} (h : WW w0 w b T) (hx : Below w.heap.size w w') : WW w0 w' b T := ⟨h.tab.keep hx, h.le, below_step h.bel hx⟩
theorem WW.turn {w0 w w' : World} {b : Nat} {T : K6} (h : WW w0 w b T) (hT : Tab w' b T) (hx : Mod (· = b) w w') : WW w0 w' b T := ⟨hT, h.le, below_thenMod h.bel (Nat.le_refl _) hx (fun k hk => by rw [hk]; exact h.le)⟩
theorem Try.infoItem : (Try.prog.info? 99).map (fun i => (i.zero, i.size, i.bytes)) = some (some (.agg #[.int .u64 0, .int .u64 0]), 2, 16) := by kernel_rfl
theorem run_make_items (n : Nat) (hn : n ≤ 65537) (w : World) : (Instr.makeSlice 97 (.int .i64 (n : Int)) (.int .i64 (n : Int))).run Try.prog w = .ok (.slice (some ⟨w.heap.size, 0, none⟩) n n) (w.alloc (.cells (madeCells #[.int .u64 0, .int .u64 0] (n * 2)) 99)) := by
  obtain ⟨i, hi, hzz⟩ := Option.map_eq_some_iff.1 Try.infoItem
  simp only [Prod.mk.injEq] at hzz
  obtain ⟨hz, hs, hb⟩ := hzz
  have hr := run_make (P := Try.prog) w 97 99 i _ Try.underlying97 hi hz .i64 .i64 n n (by omega) (Int.le_refl _) (by rw [hb]; omega) (by omega)
  simp only [Int.toNat_natCast, hs] at hr
  exact hr
/-- The cells of the m first items, the others zero. -/
def itemRow (its : List (Int × Int)) (m j : Nat) : Value := if j / 2 < m then (if j % 2 = 0 then .int .u64 (its.getD (j / 2) (0, 0)).1 else .int .u64 (its.getD (j / 2) (0, 0)).2) else .int .u64 0
theorem items_made (w : World) (n : Nat) (its : List (Int × Int)) : (w.alloc (.cells (madeCells #[.int .u64 0, .int .u64 0] (n * 2)) 99)).rowIs w.heap.size 99 (n * 2) (itemRow its 0) := by
  have h := World.rowIs_alloc w (madeCells #[.int .u64 0, .int .u64 0] (n * 2)) 99 (fun _ => .int .u64 0) (fun i hi => by
    rw [size_madeCells] at hi
    simp [madeCells, hi]
    have : i % 2 < 2 := Nat.mod_lt _ (by decide)
    generalize i % 2 = m at *
    match m, this with
    | 0, _ => rfl
    | 1, _ => rfl)
  rw [size_madeCells] at h
  exact h.congr (fun m hm => by unfold itemRow; rw [if_neg (by omega)])
/-- An item is laid. -/
def two (w : World) (gr o : Nat) (a b : Int) : World := (w.setCell ⟨gr, o, none⟩ (.int .u64 a)).setCell ⟨gr, o + 1, none⟩ (.int .u64 b)
theorem two_row {w : World} {gi n m : Nat} {its : List (Int × Int)} (h : w.rowIs gi 99 (n * 2) (itemRow its m)) {a b : Int} (ha : its.getD m (0, 0) = (a, b)) : (two w gi (m * 2) a b).rowIs gi 99 (n * 2) (itemRow its (m + 1)) := by
  refine ((h.set (m * 2) (.int .u64 a)).set (m * 2 + 1) (.int .u64 b)).congr (fun j hj => ?_)
  unfold itemRow
  by_cases e1 : j = m * 2 + 1
  · rw [if_pos e1, if_pos (by omega), if_neg (by omega), show j / 2 = m by omega, ha]
  · rw [if_neg e1]
    by_cases e2 : j = m * 2
    · rw [if_pos e2, if_pos (by omega), if_pos (by omega), show j / 2 = m by omega, ha]
    · rw [if_neg e2]
      by_cases e3 : j / 2 < m
      · rw [if_pos e3, if_pos (show j / 2 < m + 1 by omega)]
      · rw [if_neg e3, if_neg (show ¬ j / 2 < m + 1 by omega)]
theorem items_pairs {w : World} {gi n : Nat} {its : List (Int × Int)} (h : w.rowIs gi 99 (n * 2) (itemRow its n)) (hl : its.length = n) (hn : n ≤ 1024) (hwf : ∀ p ∈ its, (Lit.int .u64 p.1).wf = true ∧ (Lit.int .u64 p.2).wf = true) : IsPairs w .u64 .u64 (some ⟨gi, 0, none⟩) n n its where
  len := hl
  cap := Nat.le_refl _
  small := by omega
  reach := by omega
  wf := hwf
  cells := fun h0 => ⟨_, rfl, h.lt, fun i p hp => by
    have hi : i < n := by rw [← hl]; exact (List.getElem?_eq_some_iff.1 hp).1
    have e : ∀ j, (⟨gi, 0, none⟩ : Addr).add j = ⟨gi, j, none⟩ := fun j => by unfold Addr.add; split <;> simp_all
    have hg : its.getD i (0, 0) = p := by rw [List.getD_eq_getElem?_getD, hp]; rfl
    rw [e, e]
    refine ⟨(h.cell (i := i * 2) (by omega)).trans ?_, (h.cell (i := i * 2 + 1) (by omega)).trans ?_⟩
    · unfold itemRow
      rw [if_pos (by omega), if_pos (by omega), show i * 2 / 2 = i by omega, hg]
    · unfold itemRow
      rw [if_pos (by omega), if_neg (by omega), show (i * 2 + 1) / 2 = i by omega, hg]⟩
theorem two_list {w : World} {g : Nat} {t : TypeId} {a b : Int} (h : Blk w g t #[.int .u64 a, .int .u64 b]) (ha : 0 ≤ a ∧ a < 18446744073709551616) (hb : 0 ≤ b ∧ b < 18446744073709551616) : IsList w .u64 (some ⟨g, 0, none⟩) 2 2 [a, b] :=
  isList_blk h [a, b] rfl (fun z hz => by
    have : z = a ∨ z = b := by simpa using hz
    rcases this with rfl | rfl <;> (simp [Lit.wf, IntKind.min, IntKind.max, IntKind.signed, IntKind.bits]; omega)) (by simp)
end Go.Proofs.Ytblbgafadadbmaa
end
section
/- Walker.Step. -/
set_option linter.unusedVariables false
namespace Go.Proofs.Ytblbgafadadbmaa
open Go.RowKit
set_option maxHeartbeats 4000000
set_option maxRecDepth 100000
theorem Tab.farT {w : World} {b r : Nat} {T : K6} {t' : TypeId} {cs : Array Value} (h : Tab w b T) (R : Blk w r t' cs) (ht : 24 ≠ t') (hrb : ¬ r = b) (i : Nat) (v : Value) : Tab (w.setCell ⟨r, i, none⟩ v) b T := by
  rcases h with h | ⟨g, h, ⟨ds, hd, hr⟩, hne⟩
  · exact .inl (h.far (p := ⟨r, i, none⟩) (fun e => hrb e.symm) _)
  · have hgr : g ≠ r := Blk.ne_ (t := 24) (t' := t') hd R ht
    exact .inr ⟨g, h.far (p := ⟨r, i, none⟩) (fun e => hrb e.symm) _, ⟨ds, Blk.far (p := ⟨r, i, none⟩) (t := 24) hd hgr _, hr⟩, hne⟩
theorem WW.two {w0 w : World} {b gi n : Nat} {T : K6} {f : Nat → Value} (h : WW w0 w b T) (R : w.rowIs gi 99 n f) (hg : b < gi) (o : Nat) (x y : Int) : WW w0 (two w gi o x y) b T := by
  obtain ⟨cs, hcs, _⟩ := R
  have h1 : Blk w gi 99 cs := hcs
  have hle := h.le
  exact ⟨(h.tab.farT h1 (by decide) (by omega) o _).farT (h1.set_ o _) (by decide) (by omega) (o + 1) _, h.le, below_own (below_own h.bel (by omega) _ _) (by omega) _ _⟩
theorem two_mod {w0 w : World} {b gi : Nat} (h : Mod (· = b) w0 w) (hg : w0.heap.size ≤ gi) (o : Nat) (x y : Int) : Mod (· = b) w0 (two w gi o x y) := (h.fresh hg _ _).fresh hg _ _
theorem two_other {w : World} {gi o : Nat} {A : Option Addr} {n c : Nat} {l : List Int} {x y : Int} {K : IntKind} (h : IsList w K A n c l) (hne : 0 < n → ∀ ad, A = some ad → ¬ ad.block = gi) : IsList (two w gi o x y) K A n c l :=
  list_mod h (((Mod.refl (· = gi) w).own o (.int .u64 x)).own (o + 1) (.int .u64 y)) hne
theorem cast_at (ks : List Nat) {m : Nat} (h : m < ks.length) : (ks.map fun k : Nat => (k : Int)).getD m 0 = ((ks.getD m 0 : Nat) : Int) := by
  rw [List.getD_eq_getElem?_getD, List.getD_eq_getElem?_getD, List.getElem?_map, List.getElem?_eq_getElem h]; rfl
theorem two_listD (w : World) (a b : Int) (ha : 0 ≤ a ∧ a < 18446744073709551616) (hb : 0 ≤ b ∧ b < 18446744073709551616) : IsList (w.alloc (.cells #[.int .u64 a, .int .u64 b] 24)).drew .u64 (some ⟨w.heap.size, 0, none⟩) 2 2 [a, b] :=
  two_list (Blk.new w _ _).drew ha hb
theorem walk_StepNil (s : Value) (i key : Int) (w : World) : Calls Try.prog 12 #[.pointer none, s, .int .i64 i, .int .u64 key] w fun e w' => e = .returned (.int .i64 (-1)) ∧ w = w' := by
  go_enter Try.func12, Try.ntmps12
  go_wp2
  go_ret
  exact ⟨rfl, rfl⟩
/-- A set is none of a walker's blocks. -/
theorem SetIs.mod {w w' : World} {g b n gw gs bw : Nat} {W : Nat → Int} {S : Nat → Bool} {vH : Value} {H : List Int} {f seed : Int} (h : SetIs w g b n gw gs W S vH H) (hx : Mod (· = bw) w w') (hT : Tab w bw (kw f seed)) : SetIs w' g b n gw gs W S vH H := by
  obtain ⟨cs, hB⟩ : ∃ cs, Blk w bw 51 cs := by
    rcases hT with h | ⟨g, h, _⟩
    · exact ⟨_, h⟩
    · exact ⟨_, h⟩
  have n1 : ¬ g = bw := h.blk.ne_ hB (by decide)
  have n2 : ¬ gw = bw := row_type h.rW hB (by decide)
  have n3 : ¬ gs = bw := row_type h.rS hB (by decide)
  have n4 : some bw ≠ vH.ownBlock := blk_type (T := 51) hB h.rH (by decide)
  exact ⟨h.blk.mod hx n1, h.rW.of_block (hx.block gw h.rW.lt n2), h.rS.of_block (hx.block gs h.rS.lt n3),
    h.rH.kept (row := some bw) ⟨hx.os, hx.tape, hx.output, hx.size, fun k hk hn => hx.block k hk (fun e => hn (by rw [e]))⟩ (.inr (fun e => n4 e.symm))⟩
section
variable {w0 w : World} {bt g gw gs bw : Nat} {l : List Nd} {W : Nat → Int} {S : Nat → Bool} {vH : Value} {H : List Int} {f seed : Int}
theorem walk_Step2 (hT : TR w0 bt l) (hS : SetIs w g bt l.length gw gs W S vH H) (hWb : ∀ k, k < l.length → 0 ≤ W k ∧ W k < 18446744073709551616) (hw : WW w0 w bw (kw f seed)) (s0 : 0 ≤ seed) (s1 : seed < 18446744073709551616)
    (i key : Int) (k0 : 0 ≤ key) (k1 : key < 18446744073709551616) :
    Calls Try.prog 12 #[.pointer (some ⟨bw, 0, none⟩), .pointer (some ⟨g, 0, none⟩), .int .i64 i, .int .u64 key] w fun e w' =>
      e = .returned (.int .i64 (if atB S l.length i = true then stepI l W seed key i.toNat else -1)) ∧ WW w0 w' bw (kw f seed) ∧ Mod (· = bw) w w' := by
  have hfew := hT.few
  have hT1 := hT.keep hw.bel
  have hS1 := hS
  have hHas := set_Has hS1 i
  have hlt := hw.tab.lt
  have hle := hw.le
  cases hz : atB S l.length i with
  | false =>
    rw [hz] at hHas
    clear hz
    go_enter Try.func12, Try.ntmps12
    go_wp2_with fail
    refine hHas.mono ?_; rintro e w' ⟨rfl, rfl⟩
    go_wp2
    go_ret
    exact ⟨rfl, hw, Mod.refl _ _⟩
  | true =>
    rw [hz] at hHas
    have hi : 0 ≤ i ∧ i < l.length := by
      unfold atB at hz
      split at hz
      · assumption
      · cases hz
    clear hz
    obtain ⟨j, rfl⟩ := Int.eq_ofNat_of_zero_le hi.1
    have hK := tr_Kids hT1 (j : Int)
    have ek : kidsOf l (j : Int) = (kidsN l j).map fun k : Nat => (k : Int) := by unfold kidsOf; rw [if_pos hi, Int.toNat_natCast, idx_kids]
    have hks : ∀ k ∈ kidsN l j, k < l.length := fun k hk => (mem_kids.1 hk).1
    have hkl := kids_len l j
    have HST := Lib.hid (show stepI l W seed key j = stepL (lenI (mixOf seed [key, (j : Int)])) W (kidsN l j) from rfl)
    rw [ek] at hK
    rw [List.length_map] at hK
    obtain ⟨ks, hkse⟩ : ∃ ks, ks = kidsN l j := ⟨_, rfl⟩
    rw [← hkse] at hK hks hkl HST
    obtain ⟨n, hn⟩ : ∃ n, n = ks.length := ⟨_, rfl⟩
    rw [← hn] at hK hkl
    have HN := Lib.hid hn.symm
    have hmk := run_make_items n (by omega)
    have hjj : (j : Int) < 9223372036854775807 := by omega
    clear ek hkse hn hi
    obtain ⟨c0, c1, c2, c3, _⟩ := hS1.blk.cells4
    go_enter Try.func12, Try.ntmps12
    go_wp2_with fail
    refine hHas.mono ?_; rintro e w' ⟨rfl, rfl⟩
    go_wp2_with fail
    refine hK.mono ?_; rintro e w1 ⟨A, c, rfl, hI, hfr, hx⟩
    clear c0 c1 c2 c3 hHas hK
    have hw1 := hw.keep hx
    have hM1 : Mod (· = bw) w w1 := Mod.of_below hx
    have hsz := hx.size
    obtain ⟨its, hits⟩ : ∃ its, its = items W ks := ⟨_, rfl⟩
    have hil : its.length = n := by rw [hits, items_len, HN.out]
    have hit : ∀ m, m < n → its.getD m (0, 0) = ((((ks.map fun k : Nat => (k : Int)).getD m 0 : Int)), W ((ks.map fun k : Nat => (k : Int)).getD m 0).toNat) := fun m hm => by
      rw [cast_at ks (by rw [HN.out]; exact hm), Int.toNat_natCast, hits, items_at W ks (by rw [HN.out]; exact hm)]
    have hkb : ∀ m, m < n → 0 ≤ (ks.map fun k : Nat => (k : Int)).getD m 0 ∧ (ks.map fun k : Nat => (k : Int)).getD m 0 < l.length := fun m hm => by
      have := hks _ (getD_mem ks 0 (k := m) (by rw [HN.out]; exact hm))
      rw [cast_at ks (by rw [HN.out]; exact hm)]
      omega
    have hwf : ∀ p ∈ its, (Lit.int .u64 p.1).wf = true ∧ (Lit.int .u64 p.2).wf = true := fun p hp => by
      rw [hits] at hp
      unfold items at hp
      obtain ⟨k, hk, rfl⟩ := List.mem_map.1 hp
      have h1 := hks k hk
      have h2 := hWb k h1
      constructor <;> (simp [Lit.wf, IntKind.min, IntKind.max, IntKind.signed, IntKind.bits]; omega)
    have HITS := Lib.hid hits
    obtain ⟨ls, hls⟩ : ∃ ls, ls = ks.map fun k : Nat => (k : Int) := ⟨_, rfl⟩
    rw [← hls] at hit hkb hI
    have HLS := Lib.hid hls
    clear hits hls
    obtain ⟨ob, hob⟩ : ∃ ob, ob = Obj.cells (madeCells #[.int .u64 0, .int .u64 0] (n * 2)) 99 := ⟨_, rfl⟩
    have hR0 := items_made w1 n its
    rw [← hob] at hmk hR0
    have hw2 := hw1.keep ((Below.refl _ _).alloc (Nat.le_refl _) ob)
    have hM2 := hM1.alloc ob
    have hI2 := hI.keep ((Below.refl _ _).alloc (Nat.le_refl _) ob)
    obtain ⟨gi, hgi⟩ : ∃ gi, gi = w1.heap.size := ⟨_, rfl⟩
    rw [← hgi] at hR0
    have hgb : bw < gi := by omega
    have hgw : w.heap.size ≤ gi := by omega
    have hkne : 0 < n → ∀ ad, A = some ad → ¬ ad.block = gi := fun h0 ad ha => by
      obtain ⟨ad', e', hb', _⟩ := hI.reads.2 h0
      rw [ha] at e'
      injection e' with e'
      subst e'
      omega
    have hkne2 : 0 < n → ∀ ad, A = some ad → ¬ ad.block = bw := fun h0 ad ha => by
      have := hfr ad ha
      omega
    have hcap := hI.cap
    have hsm := hI.small
    clear hob hI hw1 hM1 hx hsz hfr hT1 hS1 hlt
    go_wp2_with fail
    rw [← hgi]
    clear hmk
    generalize w1.alloc ob = w2 at *
    clear hgi
    go_loopg [11, 12, 33] n (fun gk s11 s12 s33 wr => ∃ m : Nat, m ≤ n ∧ gk = n - m ∧ s33 = .int .i64 m ∧ WW w0 wr bw (kw f seed) ∧ Mod (· = bw) w wr ∧ IsList wr .i64 A n c ls ∧ wr.rowIs gi 99 (n * 2) (itemRow its m))
    case atStart => exact ⟨0, Nat.zero_le _, rfl, rfl, hw2, hM2, hI2, hR0⟩
    case round =>
      clear hw2 hM2 hI2 hR0
      obtain ⟨m, hm, rfl, rfl, hw3, hM3, hI3, hR3⟩ := hrel
      by_cases hlt : m < n
      · obtain ⟨ad, rfl, _, x0, xw⟩ := hI3.get hlt
        have hmi : (m : Int) < (n : Int) := by omega
        have hzb := hkb m hlt
        have hzi := hit m hlt
        obtain ⟨z, hz⟩ : ∃ z, z = ls.getD m 0 := ⟨_, rfl⟩
        rw [← hz] at x0 xw hzb hzi
        clear hz
        have hWt := set_Weight (hS.mod hM3 hw.tab) z
        have ew : atI W l.length z = W z.toNat := by unfold atI; rw [if_pos hzb]
        rw [ew] at hWt
        have d0 := hR3.cell (i := m * 2) (by omega)
        have d1 := hR3.cell (i := m * 2 + 1) (by omega)
        have f0 := hR3.frozen (m * 2)
        have f1 := hR3.frozen (m * 2 + 1)
        have kz : IntKind.u64.wrap z = z := by rw [IntKind.wrap_u64]; omega
        obtain ⟨y, hy⟩ : ∃ y, y = W z.toNat := ⟨_, rfl⟩
        rw [← hy] at hWt hzi
        clear hy ew xw hzb
        go_wp2_with fail
        refine hWt.mono ?_; rintro e w' ⟨rfl, rfl⟩
        go_wp2
        go_roundg (n - (m + 1))
        case measure => omega
        case rel => exact ⟨m + 1, by omega, rfl, by go_num, hw3.two hR3 hgb _ _ _, two_mod hM3 hgw _ _ _, two_other hI3 hkne, two_row hR3 hzi⟩
      · obtain rfl : m = n := by omega
        have hP := items_pairs hR3 hil (by omega) hwf
        obtain ⟨e4, e5⟩ := hw3.tab.ends
        have kj : IntKind.u64.wrap (j : Int) = j := by rw [IntKind.wrap_u64]; omega
        have A1 := fun (w' : World) => mix_Of seed _ 2 2 [key, (j : Int)] _ s0 s1 (two_listD w' key j ⟨k0, k1⟩ (by omega))
        have hmb := mixOf_bd seed [key, (j : Int)]
        obtain ⟨ow, how⟩ : ∃ ow, ow = Obj.cells #[.int .u64 key, .int .u64 (j : Int)] 24 := ⟨_, rfl⟩
        have hPo := (hP.keep ((Below.refl _ _).alloc (Nat.le_refl _) ow)).keep (Below.drew (Below.refl _ _))
        have hTo := (hw3.tab.alloc ow).drew
        rw [how] at hPo hTo
        have A2 := straws_Pick bw (kw f seed) _ _ m m its hmb.1 hmb.2 _ hPo (fun _ ad h => by injection h with h; subst h; show ¬ gi = bw; omega) hTo
        have e6 : ((wr.alloc (.cells #[.int .u64 key, .int .u64 (j : Int)] 24)).drew).cell? ⟨bw, 5, none⟩ = some (.int .u64 seed) := hTo.ends.2
        have hbl := hw3.tab.lt
        obtain ⟨pv, hpv⟩ : ∃ pv, pv = pickTo (lenI (mixOf seed [key, (j : Int)])) its m := ⟨_, rfl⟩
        rw [← hpv] at A2
        have HPV := Lib.hid hpv
        have hI4 := (hI3.keep ((Below.refl _ _).alloc (Nat.le_refl _) ow)).keep (Below.drew (Below.refl _ _))
        have hw4 := (hw3.keep ((Below.refl _ _).alloc (Nat.le_refl _) ow)).keep (Below.drew (Below.refl _ _))
        have hM4 := (hM3.alloc ow).drew
        rw [how] at hI4 hw4 hM4
        have hpb := pick_bd (lenI (mixOf seed [key, (j : Int)])) its m
        rw [← hpv] at hpb
        have HE := Lib.hid (show stepI l W seed key j = if 0 ≤ pv then ls.getD pv.toNat 0 else -1 by
          rw [HST.out]
          unfold stepL kidOf
          rw [← HITS.out, HN.out, ← HPV.out]
          by_cases h0 : 0 ≤ pv
          · rw [if_pos h0, if_pos h0, HLS.out, cast_at ks (by rw [HN.out]; omega)]
          · rw [if_neg h0, if_neg h0])
        have HK2 := Lib.hid hkne2
        clear hI3 hR3 hkb hit hwf how hpv hlt hm hil hkne hkne2 hw3 hM3
        go_wp2_with fail
        go_region_with (first
          | (go_at_call 45; go_loud (refine (A1 _).mono ?_); rintro en w' ⟨rfl, rfl⟩)
          | (go_at_call 44; refine A2.mono ?_; rintro en w' ⟨rfl, hTx, hMx⟩))
        all_goals
          have hw5 := hw4.turn hTx hMx
          have hM5 := hM4.trans hMx
          have hI5 := list_mod hI4 hMx HK2.out
          clear hw4 hM4 hI4 hTx hMx A1 A2 e6 e4 e5
          by_cases h0 : 0 ≤ pv
          · obtain ⟨ad, rfl, _, x0, xw⟩ := hI5.get (k := pv.toNat) (by omega)
            obtain ⟨k, rfl⟩ := Int.eq_ofNat_of_zero_le h0
            have g1 : decide (0 ≤ (k : Int)) = true := decide_eq_true h0
            have g2 : (k : Int) < (m : Int) := by omega
            rw [Int.toNat_natCast] at x0
            rw [if_pos h0, Int.toNat_natCast] at HE
            obtain ⟨z, hz⟩ : ∃ z, z = ls.getD k 0 := ⟨_, rfl⟩
            rw [← hz] at x0 HE
            have hk0 : (0 : Int) ≤ (k : Int) := h0
            have hpn : k < m := by omega
            clear hI5 xw hz h0 hpb
            repeat first | go_values | go_skip | go_guarded | go_step | go_upon
            go_ret
            exact ⟨by rw [if_pos trivial, Int.toNat_natCast, HE.out]; rfl, hw5, hM5⟩
          · have g1 : decide (0 ≤ pv) = false := decide_eq_false h0
            rw [if_neg h0] at HE
            clear hI5
            go_wp2
            go_ret
            exact ⟨by rw [HE.out]; rfl, hw5, hM5⟩
theorem walk_Step (hT : TR w0 bt l) (hS : SetIs w0 g bt l.length gw gs W S vH H) (hWb : ∀ k, k < l.length → 0 ≤ W k ∧ W k < 18446744073709551616) (hw : WW w0 w bw (kw f seed)) (s0 : 0 ≤ seed) (s1 : seed < 18446744073709551616)
    (i key : Int) (k0 : 0 ≤ key) (k1 : key < 18446744073709551616) :
    Calls Try.prog 12 #[.pointer (some ⟨bw, 0, none⟩), .pointer (some ⟨g, 0, none⟩), .int .i64 i, .int .u64 key] w fun e w' =>
      e = .returned (.int .i64 (if atB S l.length i = true then stepI l W seed key i.toNat else -1)) ∧ WW w0 w' bw (kw f seed) ∧ Mod (· = bw) w w' :=
  walk_Step2 hT (hS.keep hw.bel) hWb hw s0 s1 i key k0 k1
end
end Go.Proofs.Ytblbgafadadbmaa
end
section
/- Walker.Down. -/
set_option linter.unusedVariables false
namespace Go.Proofs.Ytblbgafadadbmaa
open Go.RowKit
set_option maxHeartbeats 4000000
set_option maxRecDepth 100000
/-- What Down tells: nothing of a node without a host that may be picked. -/
def downR (l : List Nd) (W : Nat → Int) (S : Nat → Bool) (seed key i : Int) : List Int := if atB S l.length i = true then wayI l W seed key i.toNat else []
theorem downR_no {l : List Nd} {W : Nat → Int} {S : Nat → Bool} {seed key i : Int} (h : atB S l.length i = false) : downR l W S seed key i = [] := by unfold downR; rw [h]; rfl
theorem downR_yes {l : List Nd} {W : Nat → Int} {S : Nat → Bool} {seed key : Int} {i : Nat} (h : atB S l.length (i : Int) = true) : downR l W S seed key i = wayI l W seed key i := by unfold downR; rw [h, if_pos rfl, Int.toNat_natCast]
theorem atB_in {S : Nat → Bool} {n : Nat} {i : Int} (h : atB S n i = true) : 0 ≤ i ∧ i < n := by
  unfold atB at h
  split at h
  · assumption
  · cases h
theorem own_mod {w w' : World} {bw base : Nat} {e : TypeId} {s n : Nat} {v : Value} {xs : List Value} (h : w.ownsRow base e s v n xs) (hx : Mod (· = bw) w w') (hb : bw < base) : w'.ownsRow base e s v n xs :=
  h.kept (row := some bw) ⟨hx.os, hx.tape, hx.output, hx.size, fun k hk hn => hx.block k hk (fun e => hn (by rw [e]))⟩ (.inr (fun e => by have := own_from h bw e; omega))
theorem mod_grown {w u v : World} {bw : Nat} {row : Option Nat} (h : Mod (· = bw) w u) (hg : u.grownBy v row) (hr : ∀ g, row = some g → w.heap.size ≤ g) : Mod (· = bw) w v where
  os := hg.os.trans h.os
  tape := hg.tape.trans h.tape
  output := hg.output.trans h.output
  size := Nat.le_trans h.size hg.size
  block := fun i hi hn => (hg.block i (Nat.lt_of_lt_of_le hi h.size) (fun e => by have := hr i e.symm; omega)).trans (h.block i hi hn)
theorem Tab.grown {w w' : World} {b base n : Nat} {T : K6} {v : Value} {xs : List Value} (h : Tab w b T) (hown : w.ownsRow base 3 1 v n xs) (hb : b < base) (hg : w.grownBy w' v.ownBlock) : Tab w' b T := by
  have hne : some b ≠ v.ownBlock := fun e => by have := own_from hown b e.symm; omega
  rcases h with h | ⟨g, h, hr, hne2⟩
  · exact .inl (h.grown hg hne)
  · exact .inr ⟨g, h.grown hg hne, hr.of_block (hg.block g hr.lt (row_own hr hown (by decide))), hne2⟩
theorem WW.grown {w0 w w' : World} {b base n : Nat} {T : K6} {v : Value} {xs : List Value} (h : WW w0 w b T) (hown : w.ownsRow base 3 1 v n xs) (hb : b < base) (hg : w.grownBy w' v.ownBlock) : WW w0 w' b T :=
  ⟨h.tab.grown hown hb hg, h.le, h.bel.grown hg h.bel.size (fun g e => by have := own_from hown g e; have := h.le; omega)⟩
section
variable {w0 w : World} {bt g gw gs bw : Nat} {l : List Nd} {W : Nat → Int} {S : Nat → Bool} {vH : Value} {H : List Int} {f seed : Int}
theorem walk_DownNil (hT : TR w0 bt l) (hS : SetIs w g bt l.length gw gs W S vH H) (i key : Int) : Calls Try.prog 13 #[.pointer none, .pointer (some ⟨g, 0, none⟩), .int .i64 i, .int .u64 key] w fun e w' => e = .returned (.slice none 0 0) ∧ w = w' := by
  have hHas := set_Has hS i
  go_enter Try.func13, Try.ntmps13
  go_wp2_with fail
  refine hHas.mono ?_; rintro e w' ⟨rfl, rfl⟩
  generalize atB S l.length i = z
  cases z
  · go_wp2
    go_ret
    exact ⟨rfl, rfl⟩
  · go_wp2
    go_ret
    exact ⟨rfl, rfl⟩
theorem walk_Down2 (hT : TR w0 bt l) (ht : Tall l) (hS : SetIs w g bt l.length gw gs W S vH H) (hWb : ∀ k, k < l.length → 0 ≤ W k ∧ W k < 18446744073709551616) (hSW : ∀ k, k < l.length → 0 < W k → S k = true) (hw : WW w0 w bw (kw f seed)) (s0 : 0 ≤ seed) (s1 : seed < 18446744073709551616)
    (i key : Int) (k0 : 0 ≤ key) (k1 : key < 18446744073709551616) :
    Calls Try.prog 13 #[.pointer (some ⟨bw, 0, none⟩), .pointer (some ⟨g, 0, none⟩), .int .i64 i, .int .u64 key] w fun e w' =>
      ∃ A c, e = .returned (.slice A (downR l W S seed key i).length c) ∧ IsList w' .i64 A (downR l W S seed key i).length c (downR l W S seed key i) ∧ (∀ ad, A = some ad → w.heap.size ≤ ad.block) ∧ WW w0 w' bw (kw f seed) ∧ Mod (· = bw) w w' := by
  have hfew := hT.few
  have hS1 := hS
  have hHas := set_Has hS1 i
  have hlt := hw.tab.lt
  cases hz : atB S l.length i with
  | false =>
    rw [hz] at hHas
    rw [downR_no hz]
    clear hz
    go_enter Try.func13, Try.ntmps13
    go_wp2_with fail
    refine hHas.mono ?_; rintro e w' ⟨rfl, rfl⟩
    go_wp2
    go_ret
    exact ⟨none, 0, rfl, isList_nil _ _, fun ad h => (by cases h), hw, Mod.refl _ _⟩
  | true =>
    rw [hz] at hHas
    obtain ⟨j, rfl⟩ := Int.eq_ofNat_of_zero_le (atB_in hz).1
    have hjl : j < l.length := by have := (atB_in hz).2; omega
    rw [downR_yes hz]
    obtain ⟨R, hR⟩ : ∃ R, R = wayI l W seed key j := ⟨_, rfl⟩
    have hRb := way_bd ht W seed key j hjl
    have hRl := way_len l W seed key j
    rw [← hR] at hRb hRl ⊢
    have HR := Lib.hid hR
    clear hR
    go_enter Try.func13, Try.ntmps13
    go_wp2_with fail
    refine hHas.mono ?_; rintro e w' ⟨rfl, rfl⟩
    have hown0 := World.ownsRow_lit (base := w.heap.size) (e := 3) (size := 1) w #[.int .i64 (j : Int)] 1 (Nat.le_refl _) (by decide) rfl
    have hw1 := hw.keep ((Below.refl _ _).alloc (Nat.le_refl _) (.cells #[.int .i64 (j : Int)] 3))
    have hM1 : Mod (· = bw) w (w.alloc (.cells #[.int .i64 (j : Int)] 3)) := (Mod.refl _ _).alloc _
    have hS0 : S j = true := by
      unfold atB at hz
      rw [if_pos (atB_in hz)] at hz
      exact hz
    obtain ⟨iI, hiI, hzI, hzI1, hzI2⟩ := info_parts Try.infoI
    clear hS1 hHas hz
    go_wp2_with fail
    generalize w.alloc (.cells #[.int .i64 (j : Int)] 3) = w1 at *
    go_loopg [2, 9] (4 - (l.getD j nd0).kind.toNat) (fun gk s2 s9 wr => ∃ (a : Nat) (pre : List Int), gk = 4 - (l.getD a nd0).kind.toNat ∧ s2 = .int .i64 a ∧ a < l.length ∧ S a = true ∧ wr.ownsRow w.heap.size 3 1 s9 (pre.length + 1) (ints (pre ++ [(a : Int)])) ∧
      WW w0 wr bw (kw f seed) ∧ Mod (· = bw) w wr ∧ Hid (R = joinW pre (wayI l W seed key a)) ∧ pre.length + 1 ≤ (l.getD a nd0).kind.toNat)
    case atStart => exact ⟨j, [], rfl, rfl, hjl, hS0, by simpa [ints] using hown0, hw1, hM1, Lib.hid (by rw [joinW_start]; exact HR.out), by have := (tall_head ht j hjl).kind0; rw [List.length_nil]; omega⟩
    case round =>
      clear hown0 hw1 hM1 hS0
      obtain ⟨a, pre, rfl, rfl, hal, hSa, hown, hw2, hM2, HJ, hpl⟩ := hrel
      have hS2 := hS.mod hM2 hw.tab
      have hSx := hS2
      have hT2 := hT.keep hw2.bel
      obtain ⟨c0, c1, c2, c3, _⟩ := hS2.blk.cells4
      have hNd := tr_NodeIn hT2 a hal
      have hd := tall_head ht a hal
      obtain ⟨hd0, hd1⟩ := And.intro hd.kind0 hd.kind1
      have HD := Lib.hid hd
      obtain ⟨x, hx⟩ : ∃ x, x = l.getD a nd0 := ⟨_, rfl⟩
      rw [← hx] at hNd hd0 hd1 hpl
      have HX := Lib.hid hx
      have hfk := fun w => node_kind x w
      unfold Nd.val at hNd
      clear hd hx
      go_wp2_with fail
      refine hNd.mono ?_; rintro e w3 ⟨rfl, hx3⟩
      have hw3 := hw2.keep hx3
      have hM3 := hM2.thenB hx3
      have hown3 := own_keep hown hx3
      replace hSx := hSx.keep hx3
      clear hNd hx3 hown hw2 hM2 c0 c1 c2 c3 hS2 hT2
      by_cases h4 : x.kind = 4
      · have g1 : (x.kind == 4) = true := by rw [beq_iff_eq]; exact h4
        have HE := Lib.hid (show R = pre ++ [(a : Int)] by rw [HJ.out, way_host (by rw [← HX.out]; exact h4)]; rfl)
        have hRl2 : R.length = pre.length + 1 := by rw [HE.out]; simp
        obtain ⟨AR, cR, rfl, hIR, hfr⟩ := own_list hown3 (fun z hz => by
          have hm : z ∈ R := by rw [HE.out]; exact hz
          have := hRb z hm
          simp [Lit.wf, IntKind.min, IntKind.max, IntKind.signed, IntKind.bits]
          omega) (by omega)
        rw [← HE.out, ← hRl2] at hIR
        rw [← hRl2]
        have HL := Lib.hid hRl2
        clear h4 HJ hown3 hRb hRl hRl2
        go_wp2
        go_ret
        exact ⟨AR, cR, rfl, hIR, hfr, hw3, hM3⟩
      · have g1 : (x.kind == 4) = false := by rw [beq_eq_false_iff_ne]; exact h4
        have hSt := walk_Step2 hT hSx hWb hw3 s0 s1 (a : Int) key k0 k1
        have hat : atB S l.length (a : Int) = true := by unfold atB; rw [if_pos (by omega)]; exact hSa
        rw [hat, if_pos rfl, Int.toNat_natCast] at hSt
        go_wp2_with fail
        refine hSt.mono ?_; rintro e w4 ⟨rfl, hw4, hm4⟩
        have hM4 := hM3.trans hm4
        have hown4 := own_mod hown3 hm4 hlt
        clear hSt hm4 hown3 hw3 hM3 hat
        by_cases hs : 0 ≤ stepI l W seed key a
        · obtain ⟨b, hb, hbl, hba, hb0⟩ := stepI_in hs
          have hsk := step_kind ht hb
          have HJ2 := Lib.hid (show R = joinW (pre ++ [(a : Int)]) (wayI l W seed key b) by rw [← joinW_one, ← way_step ht hal (by rw [← HX.out]; exact h4) hb]; exact HJ.out)
          have hSb := hSW b hbl hb0
          rw [hb]
          rw [← HX.out] at hsk
          have hsk2 := hsk.2.1
          have hkd := (tall_head ht b hbl).kind1
          obtain ⟨y, hy⟩ : ∃ y, y = (l.getD b nd0).kind := ⟨_, rfl⟩
          rw [← hy] at hsk2 hkd
          have HY := Lib.hid hy
          have g2 : decide ((b : Int) < 0) = false := decide_eq_false (by omega)
          clear hs hsk HJ hy h4 hb
          go_wp2_with (at_builtin; go_loud (refine wpList_append_any _ rfl (.tmp 35) (.tmp 37) _ rfl w.heap.size 3 iI _ 1 8 Try.underlying23 hiI hzI hzI1 hzI2 rfl (by decide) _ (pre.length + 1) (ints (pre ++ [(a : Int)])) rfl (hown4.alloc _) _ (some ⟨w4.heap.size, 0, none⟩) 1 1 [.int .i64 b] rfl (one_reads w4 3 1 [.int .i64 b] rfl) (by intro u hu; simp at hu; subst hu; rfl) (by simp only [maxLen]; omega) (by omega) (by have := hM4.size; simp; omega) ?_; intro v6 w6 hown6 hg6 hat6))
          have hw6 := (hw4.keep ((Below.refl _ _).alloc (Nat.le_refl _) _)).grown (hown4.alloc _) hlt hg6
          have hM6 := mod_grown (hM4.alloc _) hg6 (own_from hown4)
          go_wp2
          go_roundg (4 - y.toNat)
          case measure => (rw [← HX.out]; omega)
          case rel => exact ⟨b, pre ++ [(a : Int)], by rw [HY.out], rfl, hbl, hSb, by simpa [ints] using hown6, hw6, hM6, HJ2, by rw [← HY.out, hsk2, List.length_append]; simp; omega⟩
        · have HE := Lib.hid (show R = [] by rw [HJ.out, way_none (by rw [← HX.out]; exact h4) hs]; rfl)
          have hsn := stepI_neg hs
          rw [hsn]
          have hRl2 : R.length = 0 := by rw [HE.out]; rfl
          have HL := Lib.hid hRl2
          clear hs hsn HJ h4 hown4 hRb hRl hRl2
          go_wp2
          go_ret
          exact ⟨none, 0, by rw [HE.out]; rfl, by rw [HE.out]; exact isList_nil _ _, fun ad h => (by cases h), hw4, hM4⟩
theorem walk_Down (hT : TR w0 bt l) (ht : Tall l) (hS : SetIs w0 g bt l.length gw gs W S vH H) (hWb : ∀ k, k < l.length → 0 ≤ W k ∧ W k < 18446744073709551616) (hSW : ∀ k, k < l.length → 0 < W k → S k = true) (hw : WW w0 w bw (kw f seed)) (s0 : 0 ≤ seed) (s1 : seed < 18446744073709551616)
    (i key : Int) (k0 : 0 ≤ key) (k1 : key < 18446744073709551616) :
    Calls Try.prog 13 #[.pointer (some ⟨bw, 0, none⟩), .pointer (some ⟨g, 0, none⟩), .int .i64 i, .int .u64 key] w fun e w' =>
      ∃ A c, e = .returned (.slice A (downR l W S seed key i).length c) ∧ IsList w' .i64 A (downR l W S seed key i).length c (downR l W S seed key i) ∧ (∀ ad, A = some ad → w.heap.size ≤ ad.block) ∧ WW w0 w' bw (kw f seed) ∧ Mod (· = bw) w w' :=
  walk_Down2 hT ht (hS.keep hw.bel) hWb hSW hw s0 s1 i key k0 k1
end
end Go.Proofs.Ytblbgafadadbmaa
end
section
/- LoadShares. -/
set_option linter.unusedVariables false
namespace Go.Proofs.Ytblbgafadadbmaa
open Go.RowKit
set_option maxHeartbeats 4000000
set_option maxRecDepth 100000
theorem ofI_of {H A : List Int} {f : Int} {n m : Nat} (hm : m < n) : ((m : Int) = someTo H n → ofI H A f n m = got (hH H A f) (tot H A f n) m + leftTo (hH H A f) (tot H A f n) n) ∧ (¬ (m : Int) = someTo H n → ofI H A f n m = got (hH H A f) (tot H A f n) m) := by
  unfold ofI
  rw [someTo_at H hm]
  constructor
  · intro h
    have : ((m : Int) == someTo H n) = true := by simp [h]
    rw [this]; rfl
  · intro h
    have : ((m : Int) == someTo H n) = false := by simp [h]
    rw [this]; simp
end Go.Proofs.Ytblbgafadadbmaa
end
section
/- LoadDraws. -/
set_option linter.unusedVariables false
namespace Go.Proofs.Ytblbgafadadbmaa
open Go.RowKit
set_option maxHeartbeats 4000000
set_option maxRecDepth 100000
theorem pre_leB (l : List Int) : ∀ (k : Nat), (∀ j, j < k → l.getD j 0 ≤ 1048576) → pre l k ≤ 1048576 * k
  | 0, _ => by simp [pre]
  | k + 1, h => by
    have h1 := pre_leB l k (fun j hj => h j (by omega))
    have h2 := h k (by omega)
    have h3 : pos (l.getD k 0) ≤ 1048576 := by unfold pos; split <;> omega
    rw [pre]
    omega
theorem want_bd (l : List Int) (d : Int) (k : Nat) : -1 ≤ wantTo l d k ∧ wantTo l d k < k := by
  rcases want_spec l d k with ⟨e, _⟩ | ⟨i, hi, e, _⟩
  · rw [e]; omega
  · rw [e]; omega
theorem want_in {l : List Int} {d : Int} {n : Nat} (d0 : 0 ≤ d) (d1 : d < pre l n) : ∃ i : Nat, i < n ∧ wantTo l d n = i := by
  rcases want_spec l d n with ⟨e, h⟩ | ⟨i, hi, e, _⟩
  · omega
  · exact ⟨i, hi, e⟩
end Go.Proofs.Ytblbgafadadbmaa
end
section
/- Walker.Loads. -/
set_option linter.unusedVariables false
namespace Go.Proofs.Ytblbgafadadbmaa
open Go.RowKit
set_option maxHeartbeats 4000000
set_option maxRecDepth 100000
theorem ofI_wf (H A : List Int) (f : Int) (n : Nat) : ∀ z ∈ (List.range n).map (ofI H A f n), (Lit.int .i64 z).wf = true := fun z hz => by
  obtain ⟨k, _, rfl⟩ := List.mem_map.1 hz
  have := ofI_bd H A f n k
  simp [Lit.wf, IntKind.min, IntKind.max, IntKind.signed, IntKind.bits]
  omega
/-- load.Of, whether the counts may be or not. -/
def loadL (H A : List Int) (f : Int) (n : Nat) : List Int := if lRight H A f = true then (List.range n).map (ofI H A f n) else []
theorem loadL_len (H A : List Int) (f : Int) (n : Nat) : (loadL H A f n).length ≤ n := by
  unfold loadL
  split
  · rw [rangeMap_len]; exact Nat.le_refl _
  · exact Nat.zero_le _
theorem load_OfL (A1 A2 : Option Addr) (n c1 c2 : Nat) (H A : List Int) (f : Int) (w : World) (hH : IsList w .i64 A1 n c1 H) (hA : IsList w .i64 A2 n c2 A) :
    Calls Try.prog 51 #[.slice A1 n c1, .slice A2 n c2, .int .i64 f] w fun e w' => ∃ A' c', e = .returned (.slice A' (loadL H A f n).length c') ∧ IsList w' .i64 A' (loadL H A f n).length c' (loadL H A f n) ∧ (∀ ad, A' = some ad → w.heap.size ≤ ad.block) ∧ Below w.heap.size w w' := by
  unfold loadL
  cases h : lRight H A f with
  | true =>
    have hn := hH.reach
    refine (load_Of A1 A2 n c1 c2 H A f w hH hA h).mono ?_
    rintro e w' ⟨g, rfl, hg, hR, hx⟩
    rw [if_pos rfl]
    have hl := rangeMap_len (ofI H A f n) n
    refine ⟨some ⟨g, 0, none⟩, n, by rw [hl], ?_, fun ad e => by injection e with e; subst e; exact hg, hx⟩
    rw [hl]
    exact row_list hR _ hl (fun i hi => by rw [rangeMap_at _ hi]) (ofI_wf H A f n) (Nat.le_refl _) (by omega) hn
  | false =>
    refine (load_Of_no A1 A2 n n c1 c2 H A f w hH hA h).mono ?_
    rintro e w' ⟨rfl, hx⟩
    rw [if_neg (by simp)]
    exact ⟨none, 0, rfl, isList_nil _ _, fun ad e => (by cases e), hx⟩
theorem counts_wf (F : Nat → Int) (n : Nat) (h : ∀ k, 0 ≤ F k ∧ F k ≤ 1000000) : ∀ z ∈ (List.range n).map F, (Lit.int .i64 z).wf = true := fun z hz => by
  obtain ⟨k, _, rfl⟩ := List.mem_map.1 hz
  have := h k
  simp [Lit.wf, IntKind.min, IntKind.max, IntKind.signed, IntKind.bits]
  omega
theorem walk_LoadsNil (s : Value) (i : Int) (w : World) : Calls Try.prog 18 #[.pointer none, s, .int .i64 i] w fun e w' => e = .returned (.slice none 0 0) ∧ w = w' := by
  go_enter Try.func18, Try.ntmps18
  go_wp2
  go_ret
  exact ⟨rfl, rfl⟩
section
variable {w0 w : World} {bt g gw gs bw : Nat} {l : List Nd} {W : Nat → Int} {S : Nat → Bool} {vH : Value} {H : List Int} {f seed : Int}
theorem walk_Loads (hT : TR w bt l) (ht : Tall l) (hS : SetIs w g bt l.length gw gs W S vH H) (e4 : w.cell? ⟨bw, 4, none⟩ = some (.int .i64 f)) (frm : Int) :
    Calls Try.prog 18 #[.pointer (some ⟨bw, 0, none⟩), .pointer (some ⟨g, 0, none⟩), .int .i64 frm] w fun e w' =>
      ∃ A c, e = .returned (.slice A (loadsI l S frm f).length c) ∧ IsList w' .i64 A (loadsI l S frm f).length c (loadsI l S frm f) ∧ (∀ ad, A = some ad → w.heap.size ≤ ad.block) ∧ Below w.heap.size w w' := by
  have hC := set_Counts hT ht hS
  have hfew := hT.few
  have hq1 := idx_le (isK 1) l
  have hq4 := idx_le (isK 4) l
  have HL := Lib.hid (show loadsI l S frm f = loadL (rot (haveL l S) frm) (rot (allL l) frm) f (lvN l) from rfl)
  have hbh : ∀ k, 0 ≤ haveTo l S (hoN l) k ∧ haveTo l S (hoN l) k ≤ 1000000 := fun k => by
    have := haveTo_bd l S (hoN l) k
    unfold hoN at *
    omega
  have hba : ∀ k, 0 ≤ allTo l (hoN l) k ∧ allTo l (hoN l) k ≤ 1000000 := fun k => by
    have := allTo_bd l (hoN l) k
    unfold hoN at *
    omega
  have hw1 := counts_wf (haveTo l S (hoN l)) (lvN l) hbh
  have hw2 := counts_wf (allTo l (hoN l)) (lvN l) hba
  go_enter Try.func18, Try.ntmps18
  go_wp2_with fail
  refine hC.mono ?_; rintro e w1 ⟨gh, ga, rfl, hRh, hRa, hx⟩
  have hLh := row_list hRh (haveL l S) (rangeMap_len _ _) (fun i hi => by unfold haveL; rw [rangeMap_at _ (show i < lvN l from hi)]; rfl) hw1 (Nat.le_refl _) (by omega) (by omega)
  have hLa := row_list hRa (allL l) (rangeMap_len _ _) (fun i hi => by unfold allL; rw [rangeMap_at _ (show i < lvN l from hi)]; rfl) hw2 (Nat.le_refl _) (by omega) (by omega)
  have e4b := cell_keep e4 hx
  have hne : gh ≠ ga ∨ True := .inr trivial
  obtain ⟨q, hq⟩ : ∃ q, q = (idx (isK 1) l).length := ⟨_, rfl⟩
  have HQ := Lib.hid (show q = lvN l from hq)
  rw [← hq] at hLh hLa
  rw [← hq]
  clear hC hRh hRa hq hw1 hw2 hbh hba hne
  replace hLh : IsList w1.drew .i64 (some ⟨gh, 0, none⟩) q q (haveL l S) := hLh.keep (Below.drew (Below.refl _ _))
  replace hLa : IsList w1.drew .i64 (some ⟨ga, 0, none⟩) q q (allL l) := hLa.keep (Below.drew (Below.refl _ _))
  have e4c : w1.drew.cell? ⟨bw, 4, none⟩ = some (.int .i64 f) := e4b
  have hW : Below w.heap.size w w1.drew := hx.drew
  obtain ⟨LH, hLH⟩ : ∃ LH, LH = haveL l S := ⟨_, rfl⟩
  obtain ⟨LA, hLA⟩ : ∃ LA, LA = allL l := ⟨_, rfl⟩
  rw [← hLH] at hLh
  rw [← hLA] at hLa
  rw [← hLH, ← hLA, ← HQ.out] at HL
  have T1 := fun v h => load_Turn (some ⟨gh, 0, none⟩) q q LH frm v h
  have T2 := fun v h => load_Turn (some ⟨ga, 0, none⟩) q q LA frm v h
  obtain ⟨RH, hRH⟩ : ∃ RH, RH = rot LH frm := ⟨_, rfl⟩
  obtain ⟨RA, hRA⟩ : ∃ RA, RA = rot LA frm := ⟨_, rfl⟩
  rw [← hRH] at T1 HL
  rw [← hRA] at T2 HL
  clear hLH hLA hRH hRA hx hT hS ht
  go_wp2_with fail
  go_region_with (first
    | (go_at_call_of 52 (some (Addr.mk gh 0 none)); refine (T1 _ ?_).mono ?_; exact hLh; rintro en w' ⟨A1, c1, rfl, hI1, hx1⟩; replace hLa := hLa.keep hx1; replace hLh := hLh.keep hx1; replace e4c := cell_keep e4c hx1; replace hW := below_step hW hx1; (try replace hI2 := hI2.keep hx1))
    | (go_at_call_of 52 (some (Addr.mk ga 0 none)); refine (T2 _ ?_).mono ?_; exact hLa; rintro en w' ⟨A2, c2, rfl, hI2, hx2⟩; replace hLh := hLh.keep hx2; replace hLa := hLa.keep hx2; replace e4c := cell_keep e4c hx2; replace hW := below_step hW hx2; (try replace hI1 := hI1.keep hx2))
    | (go_at_call 51; refine (load_OfL _ _ q _ _ RH RA f _ ?_ ?_).mono ?_; exact hI1; exact hI2; rintro en w' ⟨A3, c3, rfl, hI3, hfr3, hx3⟩; have hW3 := below_step hW hx3; have hsz := hW.size))
  all_goals
    go_wp2
    go_ret
    rw [HL.out]
    exact ⟨A3, c3, rfl, hI3, fun ad e => Nat.le_trans hsz (hfr3 ad e), hW3⟩
end
end Go.Proofs.Ytblbgafadadbmaa
end
