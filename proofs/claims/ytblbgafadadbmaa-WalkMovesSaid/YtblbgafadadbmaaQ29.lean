/- Lemmas for the claim's proof: WalkPlain11 WalkQ WalkR WalkT. -/
import Derived.Test.YtblbgafadadbmaaQ02
import Derived.Test.YtblbgafadadbmaaQ03
import Derived.Test.YtblbgafadadbmaaQ13
import Derived.Test.YtblbgafadadbmaaQ22
import Derived.Test.YtblbgafadadbmaaQ28
section
/- As one host whose rack and zone have fixed weights weighs more: each key that goes elsewhere goes to it, in plain Lean. -/
set_option linter.unusedVariables false
namespace Go.Proofs.Ytblbgafadadbmaa
open Go.RowKit
/-- Have a node and those above it, but the level, fixed weights? -/
def fixF (l : List Nd) : Nat → Int → Bool
  | 0, _ => true
  | f + 1, i => if 0 ≤ i ∧ i < l.length then ((ndAt l i).kind == 1 || decide (0 < (ndAt l i).weight)) && fixF l f (ndAt l i).above else true
def fixedI (l : List Nd) (h : Int) : Bool := fixF l 4 (ndAt l h).above
theorem fix_out (l : List Nd) (f : Nat) {i : Int} (h : i < 0 ∨ l.length ≤ i) : fixF l f i = true := by
  cases f with
  | zero => rfl
  | succ f => rw [fixF, if_neg (by omega)]
theorem fix_in (l : List Nd) (f : Nat) {i : Nat} (h : i < l.length) : fixF l (f + 1) i = (((l.getD i nd0).kind == 1 || decide (0 < (l.getD i nd0).weight)) && fixF l f (l.getD i nd0).above) := by
  rw [fixF, if_pos (by omega), ndAt_nat]
theorem fixed_above {l : List Nd} (ht : Tall l) {h : Nat} (hh : h < l.length) (h4 : (l.getD h nd0).kind = 4) (hf : fixedI l h = true) {c : Nat} (hc : c < l.length) (hon : onTo l h c) (hk : (l.getD c nd0).kind ≠ 1) (hch : c ≠ h) : 0 < (l.getD c nd0).weight := by
  have hr := tall_rises ht
  obtain ⟨a, b, e1, ha, e2, hb, _⟩ := up_host ht hh h4
  have k1 := tall_below ht h hh (by omega)
  rw [e1, ndAt_nat] at k1
  have k2 := tall_below ht a ha (by omega)
  rw [e2, ndAt_nat] at k2
  have hd := tall_head ht c hc
  unfold fixedI at hf
  rw [ndAt_nat, e1, fix_in l 3 ha, e2, fix_in l 2 hb, Bool.and_eq_true, Bool.and_eq_true, Bool.or_eq_true, Bool.or_eq_true, beq_iff_eq, beq_iff_eq, decide_eq_true_eq, decide_eq_true_eq] at hf
  unfold onTo at hon
  have hkc : (l.getD c nd0).kind = 2 ∨ (l.getD c nd0).kind = 3 ∨ (l.getD c nd0).kind = 4 := by have := hd.kind0; have := hd.kind1; omega
  rcases hkc with k | k | k
  · rw [k, up_step l hr 2 h (by omega) (by omega) (by rw [ndAt_nat]; omega), ndAt_nat, e1, up_step l hr 2 a (by omega) (by omega) (by rw [ndAt_nat]; omega), ndAt_nat, e2, up_hit l 2 b (by omega) (by omega) (by rw [ndAt_nat]; omega)] at hon
    have : c = b := by omega
    subst this
    rcases hf.2.1 with h1 | h1
    · omega
    · exact h1
  · rw [k, up_step l hr 3 h (by omega) (by omega) (by rw [ndAt_nat]; omega), ndAt_nat, e1, up_hit l 3 a (by omega) (by omega) (by rw [ndAt_nat]; omega)] at hon
    have : c = a := by omega
    subst this
    rcases hf.1 with h1 | h1
    · omega
    · exact h1
  · rw [k, up_hit l 4 h (by omega) (by omega) (by rw [ndAt_nat]; exact h4)] at hon
    exact absurd (show c = h by omega) hch
section
variable {l m : List Nd} {h : Nat}
theorem Hv.idx_ (H : Hv l m h) (k : Int) : idx (isK k) m = idx (isK k) l := by
  unfold idx
  rw [H.len]
  congr 1
  exact List.filter_congr (fun j _ => by unfold isK; rw [H.kind])
theorem Hv.lev_ (H : Hv l m h) (j : Int) : lev m j = lev l j := by
  unfold lev; rw [H.up_, H.idx_]
theorem Hv.loads_ (H : Hv l m h) (hosts : List Int) (frm f : Int) : loadsI m (Go.Proofs.Ytblbgafadadbmaa.hs m hosts) frm f = loadsI l (Go.Proofs.Ytblbgafadadbmaa.hs l hosts) frm f := by
  have e1 : lvN m = lvN l := by unfold lvN; rw [H.idx_]
  have e2 : hoN m = hoN l := by unfold hoN; rw [H.idx_]
  have e3 : haveL m (Go.Proofs.Ytblbgafadadbmaa.hs m hosts) = haveL l (Go.Proofs.Ytblbgafadadbmaa.hs l hosts) := by
    unfold haveL
    rw [e1]
    refine List.map_congr_left (fun t _ => ?_)
    unfold haveTo
    rw [e2, H.idx_]
    congr 1
    exact List.countP_congr (fun x _ => by rw [H.lev_, H.hs_])
  have e4 : allL m = allL l := by
    unfold allL
    rw [e1]
    refine List.map_congr_left (fun t _ => ?_)
    unfold allTo
    rw [e2, H.idx_]
    congr 1
    exact List.countP_congr (fun x _ => by rw [H.lev_])
  unfold loadsI
  rw [e1, e3, e4]
theorem Hv.lvl_ (H : Hv l m h) (hosts : List Int) (frm f seed key : Int) : lvlI m (Go.Proofs.Ytblbgafadadbmaa.hs m hosts) frm f seed key = lvlI l (Go.Proofs.Ytblbgafadadbmaa.hs l hosts) frm f seed key := by
  unfold lvlI; rw [H.loads_]
/-- Where ways part behind fixed weights: at the host itself. -/
theorem Hv.parts_host (H : Hv l m h) (hosts : List Int) (seed key : Int) {a b pre : List Int} {s c : Nat} (P : Parts l m h hosts seed key a b pre s c) (hf : fixedI l h = true) (hk : (l.getD c nd0).kind ≠ 1) : c = h := by
  apply Classical.byContradiction
  intro hne
  have hw := fixed_above H.tl H.hh H.h4 hf P.cl P.con hk hne
  have h4 : (l.getD c nd0).kind ≠ 4 := fun h4 => by
    have := P.con
    unfold onTo at this
    rw [h4, up_hit l 4 h (by omega) (by have := H.hh; omega) (by rw [ndAt_nat]; exact H.h4)] at this
    omega
  have h1 := wt_node H.tl hosts P.cl h4
  have h2 := wt_node H.tm hosts (by rw [H.len]; exact P.cl) (by rw [H.kind]; exact h4)
  rw [H.hs_, H.same c hne] at h2
  have hm := P.more
  cases hh : Go.Proofs.Ytblbgafadadbmaa.hs l hosts c with
  | true =>
    rw [hh, if_pos ⟨hw, rfl⟩] at h1 h2
    omega
  | false =>
    have := wt_none H.tm hosts 4 c (by rw [H.len]; exact P.cl) (by rw [H.kind]; have := (tall_head H.tl c P.cl).kind0; omega) (by rw [H.hs_]; exact hh)
    have := (wt_nn H.tl hosts H.few c P.cl).1
    omega
theorem Hv.hosts_ (H : Hv l m h) (hosts : List Int) (frm f seed key : Int) (hf : fixedI l h = true) (hne : hostI l (wt l hosts) (Go.Proofs.Ytblbgafadadbmaa.hs l hosts) frm f seed key ≠ hostI m (wt m hosts) (Go.Proofs.Ytblbgafadadbmaa.hs m hosts) frm f seed key) :
    hostI m (wt m hosts) (Go.Proofs.Ytblbgafadadbmaa.hs m hosts) frm f seed key = h ∧ hostI l (wt l hosts) (Go.Proofs.Ytblbgafadadbmaa.hs l hosts) frm f seed key ≠ h := by
  have e1 : ∀ k, lvAt m k = lvAt l k := fun k => by unfold lvAt; rw [H.idx_]
  unfold hostI at hne ⊢
  rw [H.lvl_, e1] at hne ⊢
  rcases lvl_cases l (Go.Proofs.Ytblbgafadadbmaa.hs l hosts) frm f seed key with ⟨_, e⟩ | ⟨i, hi, _, _, e, hlt⟩
  · rw [e, if_pos (by decide), if_pos (by decide)] at hne
    exact absurd rfl hne
  · rw [e, if_neg (by omega), if_neg (by omega)] at hne ⊢
    obtain ⟨a1, a2, a3⟩ := lvAt_in' l hlt
    rcases H.ways hosts seed key 4 _ a2 (by omega) with w | ⟨pre, s, c, P⟩
    · exact absurd (by unfold wayI; rw [w]) hne
    · have hk : (l.getD c nd0).kind ≠ 1 := by have := P.deep; omega
      have hc := H.parts_host hosts seed key P hf hk
      have hc4 : (l.getD c nd0).kind = 4 := by rw [hc]; exact H.h4
      have lb := P.lastb hc4
      obtain ⟨x, lx, hx, hux⟩ := P.lasta
      unfold wayI
      refine ⟨by rw [lb, hc], ?_⟩
      rw [lx]
      intro ex
      have : x = h := by omega
      rw [this, P.kind, hc4, up_hit l 4 h (by omega) (by have := H.hh; omega) (by rw [ndAt_nat]; exact H.h4)] at hux
      have := P.sc
      omega
end
theorem fix_weigh {l : List Nd} (ht : Tall l) {j : Nat} (z : Int) (hj : j < l.length) : ∀ (f : Nat) (i : Int), i < j → fixF (weigh l j z) f i = fixF l f i
  | 0, _, _ => rfl
  | f + 1, i, hi => by
    by_cases hin : 0 ≤ i ∧ i < l.length
    · obtain ⟨a, rfl⟩ := Int.eq_ofNat_of_zero_le hin.1
      have ha : a < l.length := by omega
      have hr := tall_rises ht a ha
      rw [fix_in l f ha, fix_in (weigh l j z) f (by rw [weigh_len]; exact ha), weigh_at l j z hj, if_neg (by omega), fix_weigh ht z hj f _ (by omega)]
    · rw [fix_out l _ (by omega), fix_out (weigh l j z) _ (by rw [weigh_len]; omega)]
theorem fixed_weigh {l : List Nd} (ht : Tall l) {j : Nat} (z : Int) (hj : j < l.length) : fixedI (weigh l j z) j = fixedI l j := by
  unfold fixedI
  rw [ndAt_nat, ndAt_nat, (weigh_fields l j z hj j).2]
  exact fix_weigh ht z hj 4 _ (tall_rises ht j hj)
/-- The nodes with a host that weighs more, or less. -/
theorem hv_up {l : List Nd} (ht : Tall l) {j : Nat} {z : Int} (hj : j < l.length) (h4 : (l.getD j nd0).kind = 4) (hp : 0 < (l.getD j nd0).weight) (hz : (l.getD j nd0).weight < z) (z1 : z ≤ 65535) (hl : l.length ≤ 1024) : Hv l (weigh l j z) j where
  len := weigh_len l j z
  kind := fun i => (weigh_fields l j z hj i).1
  above := fun i => (weigh_fields l j z hj i).2
  same := fun i hi => by rw [weigh_at l j z hj, if_neg hi]
  more := by rw [weigh_at l j z hj, if_pos rfl]; exact hz
  pos := hp
  hh := hj
  h4 := h4
  tl := ht
  tm := weigh_tall ht hj h4 (by omega) z1
  few := hl
theorem hv_down {l : List Nd} (ht : Tall l) {j : Nat} {z : Int} (hj : j < l.length) (h4 : (l.getD j nd0).kind = 4) (hp : 0 < z) (hz : z < (l.getD j nd0).weight) (z1 : z ≤ 65535) (hl : l.length ≤ 1024) : Hv (weigh l j z) l j where
  len := (weigh_len l j z).symm
  kind := fun i => (weigh_fields l j z hj i).1.symm
  above := fun i => (weigh_fields l j z hj i).2.symm
  same := fun i hi => by rw [weigh_at l j z hj, if_neg hi]
  more := by rw [weigh_at l j z hj, if_pos rfl]; exact hz
  pos := by rw [weigh_at l j z hj, if_pos rfl]; exact hp
  hh := by rw [weigh_len]; exact hj
  h4 := by rw [(weigh_fields l j z hj j).1]; exact h4
  tl := weigh_tall ht hj h4 (by omega) z1
  tm := ht
  few := by rw [weigh_len]; exact hl
end Go.Proofs.Ytblbgafadadbmaa
end
section
/- diff.Fixed; a slice of nodes whose one host weighs otherwise. -/
set_option linter.unusedVariables false
namespace Go.Proofs.Ytblbgafadadbmaa
open Go.RowKit
set_option maxHeartbeats 4000000
set_option maxRecDepth 100000
theorem node_above (x : Nd) (w : World) : (Instr.field 64 (.agg #[.string x.name, .int .i64 x.kind, .int .i64 x.above, .int .i64 x.weight, .bool x.six, .int .u64 x.hi, .int .u64 x.lo]) 2).run Try.prog w = .ok (.int .i64 x.above) w := by kernel_rfl
def fixedS (l : List Nd) (i : Int) : Bool := if 0 ≤ i ∧ i < l.length then fixedI l i else false
section
variable {w : World} {bt g gw gs : Nat} {l : List Nd} {W : Nat → Int} {S : Nat → Bool} {vH : Value} {H : List Int}
theorem diff_Fixed (hT : TR w bt l) (ht : Tall l) (hS : SetIs w g bt l.length gw gs W S vH H) (i : Int) :
    Calls Try.prog 33 #[.pointer (some ⟨g, 0, none⟩), .int .i64 i] w fun e w' => e = .returned (.bool (fixedS l i)) ∧ Below w.heap.size w w' := by
  have hfew := hT.few
  by_cases hin : 0 ≤ i ∧ i < l.length
  · obtain ⟨j, rfl⟩ := Int.eq_ofNat_of_zero_le hin.1
    have hj : j < l.length := by omega
    have HF := Lib.hid (show fixedS l (j : Int) = fixF l 4 (l.getD j nd0).above by unfold fixedS fixedI; rw [if_pos hin, ndAt_nat])
    have hN0 := fun w h => tr_NodeIn (b := bt) (l := l) (w := w) h j hj
    have hdj := tall_head ht j hj
    have hst : (l.getD j nd0).above = -1 ∨ (0 ≤ (l.getD j nd0).above ∧ (l.getD j nd0).above < l.length ∧ (ndAt l (l.getD j nd0).above).kind ≤ (4 : Nat)) := by
      by_cases hk : (l.getD j nd0).kind = 1
      · exact .inl (hdj.level hk).2
      · right
        have h0 := hdj.kind0
        have hb := tall_below ht j hj (by omega)
        have := hdj.kind1
        exact ⟨hb.1, by omega, by omega⟩
    have hk0 := hdj.kind0
    obtain ⟨x, hx⟩ : ∃ x, x = l.getD j nd0 := ⟨_, rfl⟩
    rw [← hx] at HF hN0 hst hk0
    have hf1 := fun w => node_kind x w
    have hf2 := fun w => node_above x w
    have g0 : (x.kind == 0) = false := by rw [beq_eq_false_iff_ne]; omega
    have HX := Lib.hid hx
    unfold Nd.val at hN0
    obtain ⟨c0, c1, c2, c3, _⟩ := hS.blk.cells4
    clear hx hin hdj hk0
    go_enter Try.func33, Try.ntmps33
    go_wp2_with fail
    refine (hN0 _ hT).mono ?_; rintro e w1 ⟨rfl, hx1⟩
    obtain ⟨d0, d1, d2, d3, _⟩ := (hS.keep hx1).blk.cells4
    clear c0 c1 c2 c3
    go_wp2_with fail
    refine (hN0 _ (hT.keep hx1)).mono ?_; rintro e w2 ⟨rfl, hx2⟩
    have hW2 := below_step hx1 hx2
    clear hN0 hf1 hx1 hx2 d0 d1 d2 d3 g0
    go_wp2_with fail
    clear hf2
    obtain ⟨z0, hz0⟩ : ∃ z, z = x.above := ⟨_, rfl⟩
    rw [← hz0] at HF hst ⊢
    clear hz0
    go_loopg [5] (z0 + 1).toNat (fun gk s5 wr => ∃ (z : Int) (f : Nat), s5 = .int .i64 z ∧ gk = (z + 1).toNat ∧ Hid (fixedS l (j : Int) = fixF l f z) ∧ (z = -1 ∨ (0 ≤ z ∧ z < l.length ∧ (ndAt l z).kind ≤ f)) ∧ Below w.heap.size w wr)
    case atStart => exact ⟨z0, 4, rfl, rfl, HF, hst, hW2⟩
    case round =>
      clear hW2 hst HF
      obtain ⟨z, f, rfl, rfl, HZ, hz, hW⟩ := hrel
      rcases hz with rfl | ⟨hz0, hz1, hzk⟩
      · have HE := Lib.hid (show fixedS l (j : Int) = true by rw [HZ.out, fix_out l f (by omega)])
        clear HZ
        go_wp2
        go_ret
        exact ⟨by rw [HE.out]; rfl, hW⟩
      · obtain ⟨a, rfl⟩ := Int.eq_ofNat_of_zero_le hz0
        have ha : a < l.length := by omega
        rw [ndAt_nat] at hzk
        have hd := tall_head ht a ha
        have hda := hd.kind0
        obtain ⟨f', rfl⟩ : ∃ f', f = f' + 1 := ⟨f - 1, by omega⟩
        rw [fix_in l f' ha] at HZ
        have hnx : (l.getD a nd0).above = -1 ∨ (0 ≤ (l.getD a nd0).above ∧ (l.getD a nd0).above < l.length ∧ (ndAt l (l.getD a nd0).above).kind ≤ f') := by
          by_cases hk : (l.getD a nd0).kind = 1
          · exact .inl (hd.level hk).2
          · right
            have hb := tall_below ht a ha (by omega)
            exact ⟨hb.1, by omega, by omega⟩
        have hab : (l.getD a nd0).above < a := tall_rises ht a ha
        have hw0 := hd.weight0
        have hNa := fun w h => tr_NodeIn (b := bt) (l := l) (w := w) h a ha
        obtain ⟨y, hy⟩ : ∃ y, y = l.getD a nd0 := ⟨_, rfl⟩
        rw [← hy] at HZ hnx hab hw0 hNa hda
        have hf1 := fun w => node_kind y w
        have hf2 := fun w => node_above y w
        have hf3 := fun w => node_weight y w
        unfold Nd.val at hNa
        have g0 : decide (0 ≤ (a : Int)) = true := decide_eq_true (by omega)
        obtain ⟨c0, c1, c2, c3, _⟩ := (hS.keep hW).blk.cells4
        clear hd hy hzk
        go_wp2_with fail
        refine (hNa _ (hT.keep hW)).mono ?_; rintro e w3 ⟨rfl, hx3⟩
        have hW3 := below_step hW hx3
        obtain ⟨d0, d1, d2, d3, _⟩ := (hS.keep hW3).blk.cells4
        clear c0 c1 c2 c3 hW hx3
        by_cases hk : y.kind = 1
        · have g1 : (y.kind != 1) = false := by rw [bne_eq_false_iff_eq]; exact hk
          have HE := Lib.hid (show fixedS l (j : Int) = fixF l f' y.above by rw [HZ.out, hk]; rfl)
          clear HZ hk
          go_wp2_with fail
          refine (hNa _ (hT.keep hW3)).mono ?_; rintro e w4 ⟨rfl, hx4⟩
          have hW4 := below_step hW3 hx4
          go_wp2
          go_roundg (y.above + 1).toNat
          case measure => omega
          case rel => exact ⟨y.above, f', rfl, rfl, HE, hnx, hW4⟩
        · have g1 : (y.kind != 1) = true := by rw [bne_iff_ne]; exact hk
          go_wp2_with fail
          refine (hNa _ (hT.keep hW3)).mono ?_; rintro e w4 ⟨rfl, hx4⟩
          have hW4 := below_step hW3 hx4
          obtain ⟨c0, c1, c2, c3, _⟩ := (hS.keep hW4).blk.cells4
          clear d0 d1 d2 d3 hW3 hx4
          by_cases hw : y.weight = 0
          · have g2 : (y.weight == 0) = true := by rw [beq_iff_eq]; exact hw
            have HE := Lib.hid (show fixedS l (j : Int) = false by
              have e1 : (y.kind == 1) = false := by rw [beq_eq_false_iff_ne]; exact hk
              have e2 : decide (0 < y.weight) = false := decide_eq_false (by omega)
              rw [HZ.out, e1, e2]; rfl)
            clear HZ hk hw
            go_wp2
            go_ret
            exact ⟨by rw [HE.out]; rfl, hW4⟩
          · have g2 : (y.weight == 0) = false := by rw [beq_eq_false_iff_ne]; exact hw
            have HE := Lib.hid (show fixedS l (j : Int) = fixF l f' y.above by
              have e2 : decide (0 < y.weight) = true := decide_eq_true (by omega)
              rw [HZ.out, e2]; simp)
            clear HZ hk hw
            go_wp2_with fail
            refine (hNa _ (hT.keep hW4)).mono ?_; rintro e w5 ⟨rfl, hx5⟩
            have hW5 := below_step hW4 hx5
            go_wp2
            go_roundg (y.above + 1).toNat
            case measure => omega
            case rel => exact ⟨y.above, f', rfl, rfl, HE, hnx, hW5⟩
  · have HF := Lib.hid (show fixedS l i = false by unfold fixedS; rw [if_neg hin])
    have hN0 := tr_NodeOut hT i (by omega)
    have hf1 := fun w => node_kind nd0 w
    have e0 : nd0.kind = 0 := rfl
    rw [e0] at hf1
    obtain ⟨c0, c1, c2, c3, _⟩ := hS.blk.cells4
    unfold Nd.val at hN0
    go_enter Try.func33, Try.ntmps33
    go_wp2_with fail
    refine hN0.mono ?_; rintro e w1 ⟨rfl, hx1⟩
    go_wp2
    go_ret
    exact ⟨by rw [HF.out]; rfl, hx1⟩
end
end Go.Proofs.Ytblbgafadadbmaa
end
section
/- A slice of nodes, one of which is written anew, with another weight. -/
set_option linter.unusedVariables false
namespace Go.Proofs.Ytblbgafadadbmaa
open Go.RowKit
set_option maxHeartbeats 400000
/-- A node is written. -/
def seven (w : World) (g o : Nat) (x : Nd) : World :=
  ((((((w.setCell ⟨g, o, none⟩ (.string x.name)).setCell ⟨g, o + 1, none⟩ (.int .i64 x.kind)).setCell ⟨g, o + 2, none⟩ (.int .i64 x.above)).setCell ⟨g, o + 3, none⟩ (.int .i64 x.weight)).setCell ⟨g, o + 4, none⟩ (.bool x.six)).setCell ⟨g, o + 5, none⟩ (.int .u64 x.hi)).setCell ⟨g, o + 6, none⟩ (.int .u64 x.lo)
theorem seven_size (w : World) (g o : Nat) (x : Nd) : (seven w g o x).heap.size = w.heap.size := by unfold seven; simp
theorem seven_far (w : World) (g o : Nat) (x : Nd) (k : Nat) (h : k < o ∨ o + 7 ≤ k) : (seven w g o x).cell? ⟨g, k, none⟩ = w.cell? ⟨g, k, none⟩ := by
  unfold seven
  have ne : ∀ i, i < 7 → (⟨g, o + i, none⟩ : Addr) ≠ ⟨g, k, none⟩ := fun i hi e => by injection e with _ e2 _; omega
  rw [World.cell?_setCell_other _ _ _ _ (ne 6 (by omega)), World.cell?_setCell_other _ _ _ _ (ne 5 (by omega)), World.cell?_setCell_other _ _ _ _ (ne 4 (by omega)), World.cell?_setCell_other _ _ _ _ (ne 3 (by omega)), World.cell?_setCell_other _ _ _ _ (ne 2 (by omega)), World.cell?_setCell_other _ _ _ _ (ne 1 (by omega))]
  exact World.cell?_setCell_other _ _ _ _ (fun e => by injection e with _ e2 _; omega)
/-- The cells of a node that is written. -/
theorem seven_at (w : World) (g o : Nat) (x : Nd) (hc : ∀ i, i < 7 → ∃ u, w.cell? ⟨g, o + i, none⟩ = some u) (i : Nat) (hi : i < 7) : (seven w g o x).cell? ⟨g, o + i, none⟩ = x.cells[i]? := by
  have ne : ∀ i j, i ≠ j → (⟨g, o + i, none⟩ : Addr) ≠ ⟨g, o + j, none⟩ := fun i j h e => by injection e with _ e2 _; omega
  have ne0 : ∀ j, 0 ≠ j → (⟨g, o, none⟩ : Addr) ≠ ⟨g, o + j, none⟩ := fun j h e => by injection e with _ e2 _; omega
  obtain ⟨u, hu⟩ := hc i hi
  unfold seven
  match i, hi with
  | 0, _ =>
    rw [World.cell?_setCell_other _ _ _ _ (ne 6 0 (by omega)), World.cell?_setCell_other _ _ _ _ (ne 5 0 (by omega)), World.cell?_setCell_other _ _ _ _ (ne 4 0 (by omega)), World.cell?_setCell_other _ _ _ _ (ne 3 0 (by omega)), World.cell?_setCell_other _ _ _ _ (ne 2 0 (by omega)), World.cell?_setCell_other _ _ _ _ (ne 1 0 (by omega))]
    exact World.cell?_setCell_same _ _ _ hu
  | 1, _ =>
    rw [World.cell?_setCell_other _ _ _ _ (ne 6 1 (by omega)), World.cell?_setCell_other _ _ _ _ (ne 5 1 (by omega)), World.cell?_setCell_other _ _ _ _ (ne 4 1 (by omega)), World.cell?_setCell_other _ _ _ _ (ne 3 1 (by omega)), World.cell?_setCell_other _ _ _ _ (ne 2 1 (by omega))]
    exact World.cell?_setCell_same _ _ _ (by rw [World.cell?_setCell_other _ _ _ _ (ne0 1 (by omega))]; exact hu)
  | 2, _ =>
    rw [World.cell?_setCell_other _ _ _ _ (ne 6 2 (by omega)), World.cell?_setCell_other _ _ _ _ (ne 5 2 (by omega)), World.cell?_setCell_other _ _ _ _ (ne 4 2 (by omega)), World.cell?_setCell_other _ _ _ _ (ne 3 2 (by omega))]
    exact World.cell?_setCell_same _ _ _ (by rw [World.cell?_setCell_other _ _ _ _ (ne 1 2 (by omega)), World.cell?_setCell_other _ _ _ _ (ne0 2 (by omega))]; exact hu)
  | 3, _ =>
    rw [World.cell?_setCell_other _ _ _ _ (ne 6 3 (by omega)), World.cell?_setCell_other _ _ _ _ (ne 5 3 (by omega)), World.cell?_setCell_other _ _ _ _ (ne 4 3 (by omega))]
    exact World.cell?_setCell_same _ _ _ (by rw [World.cell?_setCell_other _ _ _ _ (ne 2 3 (by omega)), World.cell?_setCell_other _ _ _ _ (ne 1 3 (by omega)), World.cell?_setCell_other _ _ _ _ (ne0 3 (by omega))]; exact hu)
  | 4, _ =>
    rw [World.cell?_setCell_other _ _ _ _ (ne 6 4 (by omega)), World.cell?_setCell_other _ _ _ _ (ne 5 4 (by omega))]
    exact World.cell?_setCell_same _ _ _ (by rw [World.cell?_setCell_other _ _ _ _ (ne 3 4 (by omega)), World.cell?_setCell_other _ _ _ _ (ne 2 4 (by omega)), World.cell?_setCell_other _ _ _ _ (ne 1 4 (by omega)), World.cell?_setCell_other _ _ _ _ (ne0 4 (by omega))]; exact hu)
  | 5, _ =>
    rw [World.cell?_setCell_other _ _ _ _ (ne 6 5 (by omega))]
    exact World.cell?_setCell_same _ _ _ (by rw [World.cell?_setCell_other _ _ _ _ (ne 4 5 (by omega)), World.cell?_setCell_other _ _ _ _ (ne 3 5 (by omega)), World.cell?_setCell_other _ _ _ _ (ne 2 5 (by omega)), World.cell?_setCell_other _ _ _ _ (ne 1 5 (by omega)), World.cell?_setCell_other _ _ _ _ (ne0 5 (by omega))]; exact hu)
  | 6, _ =>
    exact World.cell?_setCell_same _ _ _ (by rw [World.cell?_setCell_other _ _ _ _ (ne 5 6 (by omega)), World.cell?_setCell_other _ _ _ _ (ne 4 6 (by omega)), World.cell?_setCell_other _ _ _ _ (ne 3 6 (by omega)), World.cell?_setCell_other _ _ _ _ (ne 2 6 (by omega)), World.cell?_setCell_other _ _ _ _ (ne 1 6 (by omega)), World.cell?_setCell_other _ _ _ _ (ne0 6 (by omega))]; exact hu)
theorem zero_add_off (g j : Nat) : (⟨g, 0, none⟩ : Addr).add j = ⟨g, j, none⟩ := by unfold Addr.add; split <;> simp_all
/-- A node of one's own row of nodes is written, with another weight. -/
theorem IsNodes.write {w : World} {g n c k : Nat} {l : List Nd} {z : Int} (h : IsNodes w (some ⟨g, 0, none⟩) n c l) (hk : k < n) (z0 : -9223372036854775808 ≤ z) (z1 : z ≤ 9223372036854775807) :
    IsNodes (seven w g (k * 7) { l.getD k nd0 with weight := z }) (some ⟨g, 0, none⟩) n c (weigh l k z) := by
  have hlen := h.len
  have hkl : k < l.length := by omega
  have hr : ∃ ad, (some ⟨g, 0, none⟩ : Option Addr) = some ad ∧ ad.block < w.heap.size ∧ ∀ j u, (flat l)[j]? = some u → w.cell? (ad.add j) = some u := h.reads.2 (Nat.lt_of_le_of_lt (Nat.zero_le _) hk)
  have hr2 : g < w.heap.size ∧ ∀ j u, (flat l)[j]? = some u → w.cell? ((⟨g, 0, none⟩ : Addr).add j) = some u := by
    obtain ⟨ad, e, hb, hc⟩ := hr
    have e2 := Option.some.inj e
    rw [← e2] at hb hc
    exact ⟨hb, hc⟩
  obtain ⟨hb, hc⟩ := hr2
  clear hr
  have hex : ∀ i, i < 7 → ∃ u, w.cell? ⟨g, k * 7 + i, none⟩ = some u := by
    obtain ⟨ad', e', _, d0, d1, d2, d3, d4, d5, d6⟩ := h.at_ hk
    have e2 := Option.some.inj e'
    rw [← e2] at d0 d1 d2 d3 d4 d5 d6
    rw [zero_add_off] at d0 d1 d2 d3 d4 d5 d6
    intro i hi
    match i, hi with
    | 0, _ => exact ⟨_, d0⟩
    | 1, _ => exact ⟨_, d1⟩
    | 2, _ => exact ⟨_, d2⟩
    | 3, _ => exact ⟨_, d3⟩
    | 4, _ => exact ⟨_, d4⟩
    | 5, _ => exact ⟨_, d5⟩
    | 6, _ => exact ⟨_, d6⟩
  obtain ⟨W', hW'⟩ : ∃ W', W' = seven w g (k * 7) { l.getD k nd0 with weight := z } := ⟨_, rfl⟩
  have hsz : W'.heap.size = w.heap.size := by rw [hW', seven_size]
  have hat : ∀ i, i < 7 → W'.cell? ⟨g, k * 7 + i, none⟩ = ({ l.getD k nd0 with weight := z } : Nd).cells[i]? := fun i hi => by rw [hW']; exact seven_at _ _ _ _ hex i hi
  have hfar : ∀ j, (j < k * 7 ∨ k * 7 + 7 ≤ j) → W'.cell? ⟨g, j, none⟩ = w.cell? ⟨g, j, none⟩ := fun j hj => by rw [hW']; exact seven_far _ _ _ _ _ hj
  rw [← hW']
  clear hW' hex
  have hreads : Reads W' W'.heap.size 7 (some ⟨g, 0, none⟩) n (flat (weigh l k z)) := by
    refine ⟨by rw [flat_len, weigh_len, hlen], fun hn => ⟨⟨g, 0, none⟩, rfl, by rw [hsz]; exact hb, fun j u hu => ?_⟩⟩
    have ej : j = j / 7 * 7 + j % 7 := by omega
    rw [zero_add_off]
    rw [ej, flat_at _ _ _ (by omega)] at hu
    unfold weigh at hu
    rw [List.getElem?_set] at hu
    by_cases e2 : k = j / 7
    · rw [if_pos e2, if_pos (by omega)] at hu
      rw [ej, ← e2, hat _ (by omega)]
      rw [Option.bind_some] at hu
      exact hu
    · rw [if_neg e2, ← flat_at _ _ _ (by omega), ← ej] at hu
      rw [hfar _ (by omega), ← zero_add_off]
      exact hc j u hu
  refine ⟨hreads, by rw [weigh_len]; exact hlen, h.cap, h.small, h.reach, fun x hx => ?_⟩
  unfold weigh at hx
  rcases List.mem_or_eq_of_mem_set hx with h1 | h1
  · exact h.wf x h1
  · have hw := h.wfd k
    rw [h1]
    exact ⟨hw.name, hw.kind0, hw.kind1, hw.above0, hw.above1, z0, z1, hw.hi0, hw.hi1, hw.lo0, hw.lo1⟩
theorem mod_seven {S : Nat → Prop} {w w' : World} {g : Nat} (h : Mod S w w') (hg : S g ∨ w.heap.size ≤ g) (o : Nat) (x : Nd) : Mod S w (seven w' g o x) :=
  ((((((h.setCell (p := ⟨g, o, none⟩) hg _).setCell (p := ⟨g, o + 1, none⟩) hg _).setCell (p := ⟨g, o + 2, none⟩) hg _).setCell (p := ⟨g, o + 3, none⟩) hg _).setCell (p := ⟨g, o + 4, none⟩) hg _).setCell (p := ⟨g, o + 5, none⟩) hg _).setCell (p := ⟨g, o + 6, none⟩) hg _
theorem below_seven {B : Nat} {w w' : World} {g : Nat} (h : Below B w w') (hg : B ≤ g) (o : Nat) (x : Nd) : Below B w (seven w' g o x) :=
  below_own (below_own (below_own (below_own (below_own (below_own (below_own h hg _ _) hg _ _) hg _ _) hg _ _) hg _ _) hg _ _) hg _ _
end Go.Proofs.Ytblbgafadadbmaa
end
section
/- How many keys go elsewhere, as one host weighs otherwise, in plain Lean. -/
set_option linter.unusedVariables false
namespace Go.Proofs.Ytblbgafadadbmaa
open Go.RowKit
theorem cnt_same {p q : Nat → Bool} (h : ∀ k, p k = q k) : ∀ n, cntT p n = cntT q n
  | 0 => rfl
  | n + 1 => by rw [cntT, cntT, cnt_same h n, h]
theorem cnt_none {p : Nat → Bool} (h : ∀ k, p k = false) : ∀ n, cntT p n = 0
  | 0 => rfl
  | n + 1 => by rw [cntT, cnt_none h n, h]; rfl
theorem cnt_to {x y : Nat → Int} {host : Int} (h : ∀ k, x k ≠ y k → y k = host ∧ x k ≠ host) (n : Nat) : cntT (otherP x y) n = cntT (toP x y host) n ∧ cntT (fromP x y host) n = 0 := by
  refine ⟨cnt_same (fun k => ?_) n, cnt_none (fun k => ?_) n⟩
  · unfold otherP toP
    by_cases e : x k = y k
    · simp [e]
    · have := (h k e).1
      have e1 : (x k == y k) = false := by rw [beq_eq_false_iff_ne]; exact e
      have e2 : (y k == host) = true := by rw [beq_iff_eq]; exact this
      rw [e1, e2]; rfl
  · unfold fromP
    by_cases e : x k = y k
    · simp [e]
    · have := (h k e).2
      have e2 : (x k == host) = false := by rw [beq_eq_false_iff_ne]; exact this
      rw [e2, Bool.and_false]
theorem cnt_from {x y : Nat → Int} {host : Int} (h : ∀ k, x k ≠ y k → x k = host ∧ y k ≠ host) (n : Nat) : cntT (otherP x y) n = cntT (fromP x y host) n ∧ cntT (toP x y host) n = 0 := by
  refine ⟨cnt_same (fun k => ?_) n, cnt_none (fun k => ?_) n⟩
  · unfold otherP fromP
    by_cases e : x k = y k
    · simp [e]
    · have := (h k e).1
      have e1 : (x k == y k) = false := by rw [beq_eq_false_iff_ne]; exact e
      have e2 : (x k == host) = true := by rw [beq_iff_eq]; exact this
      rw [e1, e2]; rfl
  · unfold toP
    by_cases e : x k = y k
    · simp [e]
    · have := (h k e).2
      have e2 : (y k == host) = false := by rw [beq_eq_false_iff_ne]; exact this
      rw [e2, Bool.and_false]
end Go.Proofs.Ytblbgafadadbmaa
end
