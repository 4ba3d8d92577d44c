/- Lemmas for the claim's proof: TreeG. -/
import Derived.Deep.RegionLaw
import Derived.Deep.RegionHeld3
import Derived.Deep.DeepCutAuto
import Derived.Deep.CutBlock
import Derived.Test.YtceekfbhkenniaaQ04
import Derived.Test.YtceekfbhkenniaaQ07
section
/- tree.put. -/
set_option linter.unusedVariables false
namespace Go.Proofs.Ytceekfbhkenniaa
open Go.RowKit
set_option maxHeartbeats 4000000
set_option maxRecDepth 100000
theorem Try.infoNode : (Try.prog.info? 27).map (fun i => (i.zero, i.size, i.bytes)) = some (some (.agg #[.string ByteArray.empty, .int .i64 0, .int .i64 0, .int .i64 0, .bool false, .int .u64 0, .int .u64 0]), 7, 64) := by kernel_rfl
theorem Try.infoInts : (Try.prog.info? 79).map (fun i => (i.zero, i.size, i.bytes)) = some (some (.slice none 0 0), 1, 24) := by kernel_rfl
theorem Try.infoI : (Try.prog.info? 3).map (fun i => (i.zero, i.size, i.bytes)) = some (some (.int .i64 0), 1, 8) := by kernel_rfl
theorem own_slice {w : World} {base : Nat} {e : TypeId} {s n : Nat} {v : Value} {xs : List Value} (h : w.ownsRow base e s v n xs) : ∃ A c, v = .slice A n c := by
  rcases h.2 with ⟨rfl, rfl⟩ | ⟨g, cap, cur, rfl, _⟩
  · exact ⟨none, 0, rfl⟩
  · exact ⟨_, _, rfl⟩
theorem blk_type {w : World} {base p : Nat} {T e : TypeId} {s n : Nat} {v : Value} {xs : List Value} {cs : Array Value} (P : Blk w p T cs) (h : w.ownsRow base e s v n xs) (hne : T ≠ e) : some p ≠ v.ownBlock := by
  rcases h.2 with ⟨rfl, _⟩ | ⟨g, cap, cur, rfl, _, hg, _⟩
  · simp [Value.ownBlock]
  · intro e2
    simp only [Value.ownBlock, Option.some.injEq] at e2
    subst e2
    exact Blk.ne_ (t := T) (t' := e) P hg hne rfl
theorem one_reads (w : World) (T : TypeId) (size : Nat) (cs : List Value) (h : cs.length = size) : Reads (w.alloc (.cells ⟨cs⟩ T)) (w.alloc (.cells ⟨cs⟩ T)).heap.size size (some ⟨w.heap.size, 0, none⟩) 1 cs :=
  ⟨by omega, fun _ => ⟨_, rfl, by simp, fun j u hu => by
    have e : (⟨w.heap.size, 0, none⟩ : Addr).add j = ⟨w.heap.size, j, none⟩ := by unfold Addr.add; split <;> simp_all
    rw [e, (Blk.new w T ⟨cs⟩).cell j]
    simpa using hu⟩⟩
theorem modGe_grown {w u v : World} {b : Nat} {row : Option Nat} (h : Mod (b ≤ ·) w u) (hg : u.grownBy v row) (hr : ∀ g, row = some g → b ≤ g) : Mod (b ≤ ·) w v :=
  h.trans ⟨hg.os, hg.tape, hg.output, hg.size, fun i hi hn => hg.block i hi (fun e => hn (hr i e.symm))⟩
theorem own_ge {w : World} {b : Nat} {e : TypeId} {s n : Nat} {v : Value} {xs : List Value} (h : w.ownsRow (b + 1) e s v n xs) : ∀ g, v.ownBlock = some g → b ≤ g := fun g hg => by have := (h.lt g hg).1; omega
theorem take_one {P : Program} {md : Region.Mode} {ops : Array Oper} {Q : Exit → Act → World → Prop} {S : World → Prop} {i : Nat} {oi : Oper} {v : Value} {fuel : Nat} {listed : Array Bool} {a : Act} {w : World} (hi : ops[i]? = some oi)
    (hs : Region.noSelect ops = true) (hf : Region.free md ops listed i = true) (hr : (Region.ready md ops listed).contains i = true)
    (hQ : ∀ c a w, Q (.panic c) (a.put oi.dst v) w → Q (.panic c) a w) (hw : Region.wanted oi (yielded ops a.tmps) = true) (hy : ∀ w, S w → (execOp a.eval oi).run P w = .ok (.value v) w) (hS : S w)
    (h : wpAnyH P md ops Q S fuel (listed.setIfInBounds i true) (a.put oi.dst v) w) : wpAnyH P md ops Q S (fuel + 1) listed a w :=
  wpAnyH_take hi hs hf hr hQ (.inl ⟨hw, hy⟩) hS h
/-- What stands behind put. -/
def PutDone (b n : Nat) (lN : List Nd) (lT lH : List Int) (kids : Nat → List Int) (x : Nd) (w' : World) : Prop :=
  ∃ vN' vK' vT' vH' ks' r', TS w' b vN' vK' vT' vH' (lN ++ [x]) (n + 1) ks' (lT ++ if x.kind = 1 then [(n : Int)] else []) (lH ++ if x.kind = 4 then [(n : Int)] else []) (fun i => if (i : Int) = x.above then kids i ++ [(n : Int)] else kids i) r'
theorem tree_put (b : Nat) (vN vK vT vH : Value) (lN : List Nd) (ks : List Value) (lT lH : List Int) (kids : Nat → List Int) (r : Nat → Nat) (x : Nd) (hx : x.Wf) (w : World) (n : Nat) (hn : lN.length = n)
    (h0 : TS w b vN vK vT vH lN n ks lT lH kids r) (hn1 : n ≤ 1024) (hab : x.above < n) (hT1 : lT.length ≤ 1024) (hH1 : lH.length ≤ 1024) (hk1 : ∀ i, (kids i).length ≤ 1024) (hk0 : kids n = []) :
    Calls Try.prog 43 #[.pointer (some ⟨b, 0, none⟩), .agg #[.string x.name, .int .i64 x.kind, .int .i64 x.above, .int .i64 x.weight, .bool x.six, .int .u64 x.hi, .int .u64 x.lo]] w fun e w' => e = .returned (.tuple #[]) ∧
      PutDone b n lN lT lH kids x w' ∧ Mod (b ≤ ·) w w' := by
  obtain ⟨s, kd, ab, wt, six, hi, lo⟩ := x
  obtain ⟨hs, b1, b2, b3, b4, b5, b6, b7, b8, b9, b10⟩ := hx
  dsimp only at *
  obtain ⟨iN, hiN, hzN, hzN1, hzN2⟩ := info_parts Try.infoNode
  obtain ⟨iK, hiK, hzK, hzK1, hzK2⟩ := info_parts Try.infoInts
  obtain ⟨iI, hiI, hzI, hzI1, hzI2⟩ := info_parts Try.infoI
  have hblt := h0.blk.lt
  have hpN : ∀ g, vN.ownBlock = some g → g < w.heap.size := fun g hg => (h0.rN.lt g hg).2
  have h1 := h0.alloc (.cells #[.string s, .int .i64 kd, .int .i64 ab, .int .i64 wt, .bool six, .int .u64 hi, .int .u64 lo] 27)
  have P := Blk.new w 27 #[.string s, .int .i64 kd, .int .i64 ab, .int .i64 wt, .bool six, .int .u64 hi, .int .u64 lo]
  have hM1 : Mod (b ≤ ·) w (w.alloc (.cells #[.string s, .int .i64 kd, .int .i64 ab, .int .i64 wt, .bool six, .int .u64 hi, .int .u64 lo] 27)) := (Mod.refl _ _).alloc _
  obtain ⟨AN, cN, eN⟩ := own_slice h0.rN
  rw [hn] at eN
  subst eN
  obtain ⟨AK, cK, rfl⟩ := own_slice h0.rK
  obtain ⟨AT, cT, rfl⟩ := own_slice h0.rT
  obtain ⟨AH, cH, rfl⟩ := own_slice h0.rH
  go_enter Try.func43, Try.ntmps43
  have hc := h1.blk.cells4
  have hf := h1.blk.free4
  have hp := P.cells7
  obtain ⟨c0, c1, c2, c3, _⟩ := hc
  obtain ⟨f0, f1, f2, f3⟩ := hf
  obtain ⟨p0, p1, p2, p3, p4, p5, p6, _⟩ := hp
  go_upto_region 2 with (fail)
  generalize w.alloc (.cells #[.string s, .int .i64 kd, .int .i64 ab, .int .i64 wt, .bool six, .int .u64 hi, .int .u64 lo] 27) = u at *
  have hbu : b + 1 ≤ u.heap.size := by have := h1.blk.lt; omega
  have hpu : w.heap.size < u.heap.size := P.lt
  go_cut [] (fun wx => Blk wx w.heap.size 27 #[.string s, .int .i64 kd, .int .i64 ab, .int .i64 wt, .bool six, .int .u64 hi, .int .u64 lo] ∧ Mod (b ≤ ·) w wx ∧ ∃ vN', TS wx b vN' (.slice AK n cK) (.slice AT lT.length cT) (.slice AH lH.length cH) (lN ++ [⟨s, kd, ab, wt, six, hi, lo⟩]) n ks lT lH kids r)
  case first =>
    have h2 := (h1.alloc (.cells #[.string s, .int .i64 kd, .int .i64 ab, .int .i64 wt, .bool six, .int .u64 hi, .int .u64 lo] 27)).drew
    have hR := one_reads u 27 7 (Nd.cells ⟨s, kd, ab, wt, six, hi, lo⟩) rfl
    have hPN : some w.heap.size ≠ (Value.slice AN n cN).ownBlock := fun e => by have := hpN _ e.symm; omega
    go_region_law (refine step_append_any _ rfl (.tmp 14) (.tmp 16) _ rfl (b + 1) 27 iN _ 7 64 Try.underlying28 hiN hzN hzN1 hzN2 rfl (by omega) (.slice AN n cN) n (flat lN) rfl (hn ▸ h2.rN) _ (some ⟨u.heap.size, 0, none⟩) 1 1 (Nd.cells ⟨s, kd, ab, wt, six, hi, lo⟩) rfl hR.drew (cells_one _) (by simp only [maxLen]; omega) (by omega) (by simp; omega) ?_; intro v1 w1 hown1 hg1 hat1; obtain ⟨A1, cc1, rfl⟩ := own_slice hown1; have hB1 := h2.blk.grown hg1 (own_block (base := b + 1) h2.rN); obtain ⟨d0, _, _, _, _⟩ := hB1.cells4; obtain ⟨e0, _, _, _⟩ := hB1.free4)
    all_goals
      have h3 := h2.pushN (w' := w1) (v' := .slice A1 (n + 1) cc1) ⟨s, kd, ab, wt, six, hi, lo⟩ hg1 (hn ▸ hown1)
      have P3 := (((P.alloc (.cells #[.string s, .int .i64 kd, .int .i64 ab, .int .i64 wt, .bool six, .int .u64 hi, .int .u64 lo] 27)).drew.grown hg1 hPN)).far (p := ⟨b, 0, none⟩) (show w.heap.size ≠ b by omega) (.slice A1 (n + 1) cc1)
      have hM3 := (modGe_grown (hM1.alloc (.cells #[.string s, .int .i64 kd, .int .i64 ab, .int .i64 wt, .bool six, .int .u64 hi, .int .u64 lo] 27)).drew hg1 (own_ge h2.rN)).setCell (p := ⟨b, 0, none⟩) (.inl (Nat.le_refl b)) (.slice A1 (n + 1) cc1)
      clear hown1 hg1 hat1 hB1 d0 e0
      go_wp2_with fail
      go_meet
      exact ⟨P3, hM3, _, h3⟩
  case rest =>
    obtain ⟨P2, hM2, vN', h3⟩ := hcut
    clear h1 P hM1 c0 c1 c2 c3 f0 f1 f2 f3 p0 p1 p2 p3 p4 p5 p6 hpN h0 hbu hpu
    obtain ⟨c0, c1, c2, c3, hblt3⟩ := h3.blk.cells4
    obtain ⟨f0, f1, f2, f3⟩ := h3.blk.free4
    obtain ⟨p0, p1, p2, p3, p4, p5, p6, _⟩ := P2.cells7
    have h4 := h3.alloc (.cells #[.slice none 0 0] 79)
    have hR := one_reads wc 79 1 [.slice none 0 0] rfl
    have hbx : b + 1 ≤ (wc.alloc (.cells #[.slice none 0 0] 79)).heap.size := by simp; omega
    have hK1 := hk0
    go_upto_block 0 with (at_builtin; go_loud (refine wpList_append_any _ rfl (.tmp 24) (.tmp 25) _ rfl (b + 1) 79 iK _ 1 24 Try.underlying83 hiK hzK hzK1 hzK2 rfl (by omega) (.slice AK n cK) n ks rfl h4.rK _ (some ⟨wc.heap.size, 0, none⟩) 1 1 [.slice none 0 0] rfl hR (by intro u hu; simp at hu; subst hu; rfl) (by simp only [maxLen]; omega) (by omega) hbx ?_; intro v2 w2 hown2 hg2 hat2; obtain ⟨A2, cc2, rfl⟩ := own_slice hown2; have hB2 := h4.blk.grown hg2 (own_block (base := b + 1) h4.rK); obtain ⟨d0, d1, d2, d3, _⟩ := hB2.cells4; obtain ⟨e0, e1, e2, e3⟩ := hB2.free4; have P3 := (P2.alloc (.cells #[.slice none 0 0] 79)).grown hg2 (blk_type (P2.alloc (.cells #[.slice none 0 0] 79)) h4.rK (by decide)); obtain ⟨p0, p1, p2, p3, p4, p5, p6, _⟩ := P3.cells7))
    have h5 := h4.pushK (w' := w2) (v' := .slice A2 (n + 1) cc2) hg2 hown2 hk0
    have P4 := P3.far (p := ⟨b, 1, none⟩) (show w.heap.size ≠ b by omega) (.slice A2 (n + 1) cc2)
    have hM4 := (modGe_grown (hM2.alloc (.cells #[.slice none 0 0] 79)) hg2 (own_ge h4.rK)).setCell (p := ⟨b, 1, none⟩) (.inl (Nat.le_refl b)) (.slice A2 (n + 1) cc2)
    clear hown2 hg2 hat2 hB2 d0 d1 d2 d3 e0 e1 e2 e3 h4 hR hbx P3 c0 c1 c2 c3 f0 f1 f2 f3 h3 P2 hM2 p0 p1 p2 p3 p4 p5 p6 hblt3
    generalize w2.setCell ⟨b, 1, none⟩ (.slice A2 (n + 1) cc2) = wd at *
    go_cut [] (fun wx => Blk wx w.heap.size 27 #[.string s, .int .i64 kd, .int .i64 ab, .int .i64 wt, .bool six, .int .u64 hi, .int .u64 lo] ∧ Mod (b ≤ ·) w wx ∧ ∃ vT' vH' r', TS wx b vN' (.slice A2 (n + 1) cc2) vT' vH' (lN ++ [⟨s, kd, ab, wt, six, hi, lo⟩]) (n + 1) (ks ++ [.slice none 0 0]) (lT ++ if kd = 1 then [(n : Int)] else []) (lH ++ if kd = 4 then [(n : Int)] else []) kids r')
    case first =>
      obtain ⟨c0, c1, c2, c3, hbl⟩ := h5.blk.cells4
      have h6 := h5.alloc (.cells #[.int .i64 n] 3)
      have hRi := one_reads wd 3 1 [.int .i64 n] rfl
      have hbx6 : b + 1 ≤ (wd.alloc (.cells #[.int .i64 n] 3)).heap.size := by simp; omega
      by_cases k1 : kd = 1
      · have g1 : (kd == 1) = true := by simp [k1]
        have k4 : ¬ kd = 4 := by omega
        have HE := Lib.hid (And.intro (show (lT ++ if kd = 1 then [(n : Int)] else []) = lT ++ [(n : Int)] by rw [if_pos k1]) (show (lH ++ if kd = 4 then [(n : Int)] else []) = lH by rw [if_neg k4, List.append_nil]))
        clear k1 k4
        go_wp2_with (at_builtin; go_loud (refine wpList_append_any _ rfl (.tmp 37) (.tmp 39) _ rfl (b + 1) 3 iI _ 1 8 Try.underlying79 hiI hzI hzI1 hzI2 rfl (by omega) (.slice AT lT.length cT) lT.length (ints lT) rfl h6.rT _ (some ⟨wd.heap.size, 0, none⟩) 1 1 [.int .i64 n] rfl hRi (by intro u hu; simp at hu; subst hu; rfl) (by simp only [maxLen]; omega) (by omega) hbx6 ?_; intro v3 w3 hown3 hg3 hat3; obtain ⟨A3, cc3, rfl⟩ := own_slice hown3; have hB3 := h6.blk.grown hg3 (own_block (base := b + 1) h6.rT); obtain ⟨d0, d1, d2, d3, _⟩ := hB3.cells4; obtain ⟨e0, e1, e2, e3⟩ := hB3.free4))
        have h7 := h6.pushT (w' := w3) (v' := .slice A3 (lT.length + 1) cc3) n hg3 hown3 hat3
        have P5 := ((P4.alloc (.cells #[.int .i64 n] 3)).grown hg3 (blk_type (P4.alloc (.cells #[.int .i64 n] 3)) h6.rT (by decide))).far (p := ⟨b, 2, none⟩) (show w.heap.size ≠ b by omega) (.slice A3 (lT.length + 1) cc3)
        have hM5 := (modGe_grown (hM4.alloc (.cells #[.int .i64 n] 3)) hg3 (own_ge h6.rT)).setCell (p := ⟨b, 2, none⟩) (.inl (Nat.le_refl b)) (.slice A3 (lT.length + 1) cc3)
        clear hown3 hg3 hat3 hB3
        go_meet
        exact ⟨P5, hM5, _, _, _, by rw [HE.out.1, HE.out.2]; exact h7⟩
      · by_cases k4 : kd = 4
        · have g1 : (kd == 1) = false := by simp [k1]
          have g4 : (kd == 4) = true := by simp [k4]
          have HE := Lib.hid (And.intro (show (lT ++ if kd = 1 then [(n : Int)] else []) = lT by rw [if_neg k1, List.append_nil]) (show (lH ++ if kd = 4 then [(n : Int)] else []) = lH ++ [(n : Int)] by rw [if_pos k4]))
          clear k1 k4
          go_wp2_with (at_builtin; go_loud (refine wpList_append_any _ rfl (.tmp 49) (.tmp 51) _ rfl (b + 1) 3 iI _ 1 8 Try.underlying79 hiI hzI hzI1 hzI2 rfl (by omega) (.slice AH lH.length cH) lH.length (ints lH) rfl h6.rH _ (some ⟨wd.heap.size, 0, none⟩) 1 1 [.int .i64 n] rfl hRi (by intro u hu; simp at hu; subst hu; rfl) (by simp only [maxLen]; omega) (by omega) hbx6 ?_; intro v3 w3 hown3 hg3 hat3; obtain ⟨A3, cc3, rfl⟩ := own_slice hown3; have hB3 := h6.blk.grown hg3 (own_block (base := b + 1) h6.rH); obtain ⟨d0, d1, d2, d3, _⟩ := hB3.cells4; obtain ⟨e0, e1, e2, e3⟩ := hB3.free4))
          have h7 := h6.pushH (w' := w3) (v' := .slice A3 (lH.length + 1) cc3) n hg3 hown3 hat3
          have P5 := ((P4.alloc (.cells #[.int .i64 n] 3)).grown hg3 (blk_type (P4.alloc (.cells #[.int .i64 n] 3)) h6.rH (by decide))).far (p := ⟨b, 3, none⟩) (show w.heap.size ≠ b by omega) (.slice A3 (lH.length + 1) cc3)
          have hM5 := (modGe_grown (hM4.alloc (.cells #[.int .i64 n] 3)) hg3 (own_ge h6.rH)).setCell (p := ⟨b, 3, none⟩) (.inl (Nat.le_refl b)) (.slice A3 (lH.length + 1) cc3)
          clear hown3 hg3 hat3 hB3
          go_meet
          exact ⟨P5, hM5, _, _, _, by rw [HE.out.1, HE.out.2]; exact h7⟩
        · have g1 : (kd == 1) = false := by simp [k1]
          have g4 : (kd == 4) = false := by simp [k4]
          have HE := Lib.hid (And.intro (show (lT ++ if kd = 1 then [(n : Int)] else []) = lT by rw [if_neg k1, List.append_nil]) (show (lH ++ if kd = 4 then [(n : Int)] else []) = lH by rw [if_neg k4, List.append_nil]))
          clear k1 k4
          go_wp2_with fail
          go_meet
          exact ⟨P4, hM4, _, _, _, by rw [HE.out.1, HE.out.2]; exact h5⟩
    case rest =>
      obtain ⟨P5, hM5, vT', vH', r', h7⟩ := hcut
      clear h5 P4 hM4
      obtain ⟨c0, c1, c2, c3, hbl⟩ := h7.blk.cells4
      obtain ⟨p0, p1, p2, p3, p4, p5, p6, _⟩ := P5.cells7
      by_cases hneg : ab < 0
      · have g1 : decide (0 ≤ ab) = false := decide_eq_false (by omega)
        have hkid := Lib.hid (show (fun i : Nat => if (i : Int) = ab then kids i ++ [(n : Int)] else kids i) = kids from funext fun i => if_neg (by omega))
        go_wp2
        go_end0
        exact ⟨rfl, ⟨_, _, _, _, _, _, by dsimp only; rw [hkid.out]; exact h7⟩, hM5⟩
      · obtain ⟨k, rfl⟩ := Int.eq_ofNat_of_zero_le (show 0 ≤ ab by omega)
        have hkn : k < n := by omega
        have g1 : decide ((0 : Int) ≤ (k : Int)) = true := decide_eq_true (by omega)
        have hki : (k : Int) < (n : Int) + 1 := by omega
        have hkid := Lib.hid (show (fun i : Nat => if (i : Int) = (k : Int) then kids i ++ [(n : Int)] else kids i) = fun i => if i = k then kids k ++ [(n : Int)] else kids i from funext fun i => by
          by_cases e : i = k
          · subst e; rw [if_pos rfl, if_pos rfl]
          · rw [if_neg (by omega), if_neg e])
        obtain ⟨gK, cK', eK, hgK, hgKlt⟩ := h7.rK.form (by omega)
        injection eK with eA _ _
        subst eA
        have rk := h7.rk k (by omega)
        obtain ⟨Ak, ck, ek⟩ := own_slice rk
        have hck := h7.rK.cellAt k (by omega)
        have hkl : (ks ++ [Value.slice none 0 0])[k]? = some (.slice Ak (kids k).length ck) := by
          rw [← ek, List.getD_eq_getElem?_getD, List.getElem?_eq_getElem (by have := h7.len; omega)]; rfl
        rw [hkl] at hck
        have HEK := Lib.hid ek
        have hkk1 := hk1 k
        have h8 := (h7.alloc (.cells #[.int .i64 n] 3)).drew
        have hR9 := one_reads wc 3 1 [.int .i64 n] rfl
        have rk8 := h8.rk k (by omega)
        rw [ek] at rk8
        clear ek
        go_wp2_with fail
        refine wp_region_held_drew (S := fun w' => w'.cell? ⟨b, 1, none⟩ = some (.slice (some ⟨gK, 0, none⟩) (n + 1) cc2) ∧ w'.cell? ⟨w.heap.size, 2, none⟩ = some (.int .i64 (k : Int))) (by kernel_rfl) ⟨c1, p2⟩ (fun hHeld => ?_)
        refine take_one (i := 0) (oi := ?oi_1) (v := ?v_1) ?hi_1 (by kernel_rfl) (by kernel_rfl) (by kernel_rfl) ?hq_1 ?hw_1 ?hy_1 (by assumption) ?rest_1
        case hi_1 => (simp only [List.getElem?_toArray, List.getElem?_cons_zero]; rfl)
        case hq_1 => exact fun _ _ _ h => h
        case hw_1 => rfl
        case hy_1 => (intro w' hSw; obtain ⟨s1, s2⟩ := hSw; go_simp; first | done | with_reducible rfl)
        try simp only [Act.put, List.setIfInBounds_toArray, List.set_cons_zero, List.set_cons_succ]
        refine take_one (i := 1) (oi := ?oi_2) (v := ?v_2) ?hi_2 (by kernel_rfl) (by kernel_rfl) (by kernel_rfl) ?hq_2 ?hw_2 ?hy_2 (by assumption) ?rest_2
        case hi_2 => (simp only [List.getElem?_toArray, List.getElem?_cons_succ, List.getElem?_cons_zero]; rfl)
        case hq_2 => exact fun _ _ _ h => h
        case hw_2 => rfl
        case hy_2 => (intro w' hSw; obtain ⟨s1, s2⟩ := hSw; go_simp; first | done | with_reducible rfl)
        try simp only [Act.put, List.setIfInBounds_toArray, List.set_cons_zero, List.set_cons_succ]
        refine take_one (i := 2) (oi := ?oi_3) (v := ?v_3) ?hi_3 (by kernel_rfl) (by kernel_rfl) (by kernel_rfl) ?hq_3 ?hw_3 ?hy_3 (by assumption) ?rest_3
        case hi_3 => (simp only [List.getElem?_toArray, List.getElem?_cons_succ, List.getElem?_cons_zero]; rfl)
        case hq_3 => exact fun _ _ _ h => h
        case hw_3 => rfl
        case hy_3 => (intro w' hSw; obtain ⟨s1, s2⟩ := hSw; go_simp; first | done | with_reducible rfl)
        try simp only [Act.put, List.setIfInBounds_toArray, List.set_cons_zero, List.set_cons_succ]
        refine take_one (i := 3) (oi := ?oi_4) (v := ?v_4) ?hi_4 (by kernel_rfl) (by kernel_rfl) (by kernel_rfl) ?hq_4 ?hw_4 ?hy_4 (by assumption) ?rest_4
        case hi_4 => (simp only [List.getElem?_toArray, List.getElem?_cons_succ, List.getElem?_cons_zero]; rfl)
        case hq_4 => exact fun _ _ _ h => h
        case hw_4 => rfl
        case hy_4 => (intro w' hSw; obtain ⟨s1, s2⟩ := hSw; go_simp; first | done | with_reducible rfl)
        try simp only [Act.put, List.setIfInBounds_toArray, List.set_cons_zero, List.set_cons_succ]
        refine take_one (i := 4) (oi := ?oi_5) (v := ?v_5) ?hi_5 (by kernel_rfl) (by kernel_rfl) (by kernel_rfl) ?hq_5 ?hw_5 ?hy_5 (by assumption) ?rest_5
        case hi_5 => (simp only [List.getElem?_toArray, List.getElem?_cons_succ, List.getElem?_cons_zero]; rfl)
        case hq_5 => exact fun _ _ _ h => h
        case hw_5 => rfl
        case hy_5 => (intro w' hSw; obtain ⟨s1, s2⟩ := hSw; go_simp; first | done | with_reducible rfl)
        try simp only [Act.put, List.setIfInBounds_toArray, List.set_cons_zero, List.set_cons_succ]
        refine take_one (i := 5) (oi := ?oi_6) (v := ?v_6) ?hi_6 (by kernel_rfl) (by kernel_rfl) (by kernel_rfl) ?hq_6 ?hw_6 ?hy_6 (by assumption) ?rest_6
        case hi_6 => (simp only [List.getElem?_toArray, List.getElem?_cons_succ, List.getElem?_cons_zero]; rfl)
        case hq_6 => exact fun _ _ _ h => h
        case hw_6 => rfl
        case hy_6 => (intro w' hSw; obtain ⟨s1, s2⟩ := hSw; go_simp; first | done | with_reducible rfl)
        try simp only [Act.put, List.setIfInBounds_toArray, List.set_cons_zero, List.set_cons_succ]
        refine take_one (i := 6) (oi := ?oi_7) (v := ?v_7) ?hi_7 (by kernel_rfl) (by kernel_rfl) (by kernel_rfl) ?hq_7 ?hw_7 ?hy_7 (by assumption) ?rest_7
        case hi_7 => (simp only [List.getElem?_toArray, List.getElem?_cons_succ, List.getElem?_cons_zero]; rfl)
        case hq_7 => exact fun _ _ _ h => h
        case hw_7 => rfl
        case hy_7 => (intro w' hSw; obtain ⟨s1, s2⟩ := hSw; go_simp; first | done | with_reducible rfl)
        try simp only [Act.put, List.setIfInBounds_toArray, List.set_cons_zero, List.set_cons_succ]
        refine take_one (i := 7) (oi := ?oi_8) (v := ?v_8) ?hi_8 (by kernel_rfl) (by kernel_rfl) (by kernel_rfl) ?hq_8 ?hw_8 ?hy_8 (by assumption) ?rest_8
        case hi_8 => (simp only [List.getElem?_toArray, List.getElem?_cons_succ, List.getElem?_cons_zero]; rfl)
        case hq_8 => exact fun _ _ _ h => h
        case hw_8 => rfl
        case hy_8 => (intro w' hSw; obtain ⟨s1, s2⟩ := hSw; go_simp; first | done | with_reducible rfl)
        try simp only [Act.put, List.setIfInBounds_toArray, List.set_cons_zero, List.set_cons_succ]
        refine take_one (i := 8) (oi := ?oi_9) (v := ?v_9) ?hi_9 (by kernel_rfl) (by kernel_rfl) (by kernel_rfl) ?hq_9 ?hw_9 ?hy_9 (by assumption) ?rest_9
        case hi_9 => (simp only [List.getElem?_toArray, List.getElem?_cons_succ, List.getElem?_cons_zero]; rfl)
        case hq_9 => exact fun _ _ _ h => h
        case hw_9 => rfl
        case hy_9 => (intro w' hSw; obtain ⟨s1, s2⟩ := hSw; go_simp; first | done | with_reducible rfl)
        try simp only [Act.put, List.setIfInBounds_toArray, List.set_cons_zero, List.set_cons_succ]
        refine take_one (i := 9) (oi := ?oi_10) (v := ?v_10) ?hi_10 (by kernel_rfl) (by kernel_rfl) (by kernel_rfl) ?hq_10 ?hw_10 ?hy_10 (by assumption) ?rest_10
        case hi_10 => (simp only [List.getElem?_toArray, List.getElem?_cons_succ, List.getElem?_cons_zero]; rfl)
        case hq_10 => exact fun _ _ _ h => h
        case hw_10 => rfl
        case hy_10 => (intro w' hSw; obtain ⟨s1, s2⟩ := hSw; go_simp; first | done | with_reducible rfl)
        try simp only [Act.put, List.setIfInBounds_toArray, List.set_cons_zero, List.set_cons_succ]
        refine take_one (i := 10) (oi := ?oi_11) (v := ?v_11) ?hi_11 (by kernel_rfl) (by kernel_rfl) (by kernel_rfl) ?hq_11 ?hw_11 ?hy_11 (by assumption) ?rest_11
        case hi_11 => (simp only [List.getElem?_toArray, List.getElem?_cons_succ, List.getElem?_cons_zero]; rfl)
        case hq_11 => exact fun _ _ _ h => h
        case hw_11 => rfl
        case hy_11 => (intro w' hSw; obtain ⟨s1, s2⟩ := hSw; go_simp; first | done | with_reducible rfl)
        try simp only [Act.put, List.setIfInBounds_toArray, List.set_cons_zero, List.set_cons_succ]
        refine take_one (i := 11) (oi := ?oi_12) (v := ?v_12) ?hi_12 (by kernel_rfl) (by kernel_rfl) (by kernel_rfl) ?hq_12 ?hw_12 ?hy_12 (by assumption) ?rest_12
        case hi_12 => (simp only [List.getElem?_toArray, List.getElem?_cons_succ, List.getElem?_cons_zero]; rfl)
        case hq_12 => exact fun _ _ _ h => h
        case hw_12 => rfl
        case hy_12 => (intro w' hSw; obtain ⟨s1, s2⟩ := hSw; go_simp; first | done | with_reducible rfl)
        try simp only [Act.put, List.setIfInBounds_toArray, List.set_cons_zero, List.set_cons_succ]
        refine take_one (i := 12) (oi := ?oi_13) (v := ?v_13) ?hi_13 (by kernel_rfl) (by kernel_rfl) (by kernel_rfl) ?hq_13 ?hw_13 ?hy_13 (by assumption) ?rest_13
        case hi_13 => (simp only [List.getElem?_toArray, List.getElem?_cons_succ, List.getElem?_cons_zero]; rfl)
        case hq_13 => exact fun _ _ _ h => h
        case hw_13 => rfl
        case hy_13 => (intro w' hSw; obtain ⟨s1, s2⟩ := hSw; go_simp; first | done | with_reducible rfl)
        try simp only [Act.put, List.setIfInBounds_toArray, List.set_cons_zero, List.set_cons_succ]
        refine take_one (i := 14) (oi := ?oi_14) (v := ?v_14) ?hi_14 (by kernel_rfl) (by kernel_rfl) (by kernel_rfl) ?hq_14 ?hw_14 ?hy_14 (by assumption) ?rest_14
        case hi_14 => (simp only [List.getElem?_toArray, List.getElem?_cons_succ, List.getElem?_cons_zero]; rfl)
        case hq_14 => exact fun _ _ _ h => h
        case hw_14 => rfl
        case hy_14 => (intro w' hSw; obtain ⟨s1, s2⟩ := hSw; go_simp; first | done | with_reducible rfl)
        try simp only [Act.put, List.setIfInBounds_toArray, List.set_cons_zero, List.set_cons_succ]
        refine wpAnyH_ready (rs := [13, 15]) (by kernel_rfl) (by simp) ?_
        refine AllReadyH.cons (i := 13) (o := ?o1_16) ?hi_16 (fun K hK => ?_) (AllReadyH.cons (i := 15) (o := ?o2_16) ?hi2_16 (fun K hK => ?_) AllReadyH.nil)
        case hi_16 => (simp only [List.getElem?_toArray, List.getElem?_cons_succ, List.getElem?_cons_zero]; rfl)
        case hi2_16 => (simp only [List.getElem?_toArray, List.getElem?_cons_succ, List.getElem?_cons_zero]; rfl)
        · go_simp
          refine hK.out _ _ hHeld (fun hHeld => ?_)
          clear hK K
          try simp only [Act.put, List.setIfInBounds_toArray, List.set_cons_zero, List.set_cons_succ]
          refine wpAnyH_ready (rs := [15]) (by kernel_rfl) (by simp) ?_
          refine AllReadyH.cons (i := 15) (o := ?o1_17) ?hi_17 (fun K hK => ?_) AllReadyH.nil
          case hi_17 => (simp only [List.getElem?_toArray, List.getElem?_cons_succ, List.getElem?_cons_zero]; rfl)
          go_simp
          refine hK.out _ _ ⟨cell_alloc c1 _, cell_alloc p2 _⟩ (fun hHeld => ?_)
          clear hK K
          try simp only [Act.put, List.setIfInBounds_toArray, List.set_cons_zero, List.set_cons_succ]
          refine wpAnyH_ready (rs := [16]) (by kernel_rfl) (by simp) ?_
          refine AllReadyH.cons (i := 16) (o := ?o1_18) ?hi_18 (fun K hK => ?_) AllReadyH.nil
          case hi_18 => (simp only [List.getElem?_toArray, List.getElem?_cons_succ, List.getElem?_cons_zero]; rfl)
          refine step_append_any _ rfl (.tmp 71) (.tmp 73) _ rfl (b + 1) 3 iI _ 1 8 Try.underlying79 hiI hzI hzI1 hzI2 rfl (by omega) (.slice Ak (kids k).length ck) (kids k).length (ints (kids k)) rfl rk8 _ _ 1 1 [.int .i64 n] rfl hR9.drew (by intro u hu; simp at hu; subst hu; rfl) (by simp only [maxLen]; omega) (by omega) (by simp; omega) ?_
          intro v4 w4 hown4 hg4 hat4
          obtain ⟨A4, cc4, rfl⟩ := own_slice hown4
          have K1 := h8.rK.kept hg4 (own_type h8.rK rk8 (by decide))
          have d0 := K1.cellAt k (by omega)
          rw [hkl] at d0
          have e0 := K1.frozenAt k
          have P9 := ((P5.alloc (.cells #[.int .i64 n] 3)).drew).grown hg4 (blk_type (P5.alloc (.cells #[.int .i64 n] 3)).drew rk8 (by decide))
          have q2 := P9.cell 2
          have hB9 := h8.blk.grown hg4 (own_block (base := b + 1) rk8)
          have q1 := hB9.cell 1
          have hgb4 : ¬ gK = b := by omega
          have hgp4 : ¬ gK = w.heap.size := fun e => blk_type P5 h7.rK (by decide) (by rw [← e]; rfl)
          clear P9 hB9
          refine hK.out _ _ ⟨q1, q2⟩ (fun hHeld => ?_)
          clear hK K
          try simp only [Act.put, List.setIfInBounds_toArray, List.set_cons_zero, List.set_cons_succ]
          refine wpAnyH_ready (rs := [17]) (by kernel_rfl) (by simp) ?_
          refine AllReadyH.cons (i := 17) (o := ?o1_901) ?hi_901 (fun K hK => ?_) AllReadyH.nil
          case hi_901 => (simp only [List.getElem?_toArray, List.getElem?_cons_succ, List.getElem?_cons_zero]; rfl)
          go_simp
          refine hK.out _ _ hHeld (fun hHeld => ?_)
          clear hK K
          try simp only [Act.put, List.setIfInBounds_toArray, List.set_cons_zero, List.set_cons_succ]
          refine wpAnyH_ready (rs := [18]) (by kernel_rfl) (by simp) ?_
          refine AllReadyH.cons (i := 18) (o := ?o1_19) ?hi_19 (fun K hK => ?_) AllReadyH.nil
          case hi_19 => (simp only [List.getElem?_toArray, List.getElem?_cons_succ, List.getElem?_cons_zero]; rfl)
          go_simp
          refine hK.out _ _ ⟨(World.cell?_setCell_other _ _ _ _ (fun e => by injection e with e1; omega)).trans q1, (World.cell?_setCell_other _ _ _ _ (fun e => by injection e with e1; omega)).trans q2⟩ (fun hHeld => ?_)
          clear hK K
          try simp only [Act.put, List.setIfInBounds_toArray, List.set_cons_zero, List.set_cons_succ]
          refine wpAnyH_done (by kernel_rfl) ?_ _
          have h9 := h8.pushKid (w' := w4) (v' := .slice A4 ((kids k).length + 1) cc4) (k := k) (by omega) n (by rw [HEK.out]; exact hg4) hown4 (by rw [HEK.out]; exact hat4) rfl
          have hM9 := (modGe_grown (hM5.alloc (.cells #[.int .i64 n] 3)).drew hg4 (own_ge rk8)).setCell (p := ⟨gK, k, none⟩) (.inl (show b ≤ gK by omega)) (.slice A4 ((kids k).length + 1) cc4)
          clear hown4 hg4 hat4 K1 d0 e0 q1 q2
          go_wp2
          go_end0
          exact ⟨rfl, ⟨_, _, _, _, _, _, by dsimp only; rw [hkid.out]; exact h9⟩, hM9⟩
        · go_simp
          refine hK.out _ _ ⟨cell_alloc c1 _, cell_alloc p2 _⟩ (fun hHeld => ?_)
          clear hK K
          try simp only [Act.put, List.setIfInBounds_toArray, List.set_cons_zero, List.set_cons_succ]
          refine wpAnyH_ready (rs := [13]) (by kernel_rfl) (by simp) ?_
          refine AllReadyH.cons (i := 13) (o := ?o1_20) ?hi_20 (fun K hK => ?_) AllReadyH.nil
          case hi_20 => (simp only [List.getElem?_toArray, List.getElem?_cons_succ, List.getElem?_cons_zero]; rfl)
          go_simp
          refine hK.out _ _ hHeld (fun hHeld => ?_)
          clear hK K
          try simp only [Act.put, List.setIfInBounds_toArray, List.set_cons_zero, List.set_cons_succ]
          refine wpAnyH_ready (rs := [16]) (by kernel_rfl) (by simp) ?_
          refine AllReadyH.cons (i := 16) (o := ?o1_21) ?hi_21 (fun K hK => ?_) AllReadyH.nil
          case hi_21 => (simp only [List.getElem?_toArray, List.getElem?_cons_succ, List.getElem?_cons_zero]; rfl)
          refine step_append_any _ rfl (.tmp 71) (.tmp 73) _ rfl (b + 1) 3 iI _ 1 8 Try.underlying79 hiI hzI hzI1 hzI2 rfl (by omega) (.slice Ak (kids k).length ck) (kids k).length (ints (kids k)) rfl rk8 _ _ 1 1 [.int .i64 n] rfl hR9.drew (by intro u hu; simp at hu; subst hu; rfl) (by simp only [maxLen]; omega) (by omega) (by simp; omega) ?_
          intro v4 w4 hown4 hg4 hat4
          obtain ⟨A4, cc4, rfl⟩ := own_slice hown4
          have K1 := h8.rK.kept hg4 (own_type h8.rK rk8 (by decide))
          have d0 := K1.cellAt k (by omega)
          rw [hkl] at d0
          have e0 := K1.frozenAt k
          have P9 := ((P5.alloc (.cells #[.int .i64 n] 3)).drew).grown hg4 (blk_type (P5.alloc (.cells #[.int .i64 n] 3)).drew rk8 (by decide))
          have q2 := P9.cell 2
          have hB9 := h8.blk.grown hg4 (own_block (base := b + 1) rk8)
          have q1 := hB9.cell 1
          have hgb4 : ¬ gK = b := by omega
          have hgp4 : ¬ gK = w.heap.size := fun e => blk_type P5 h7.rK (by decide) (by rw [← e]; rfl)
          clear P9 hB9
          refine hK.out _ _ ⟨q1, q2⟩ (fun hHeld => ?_)
          clear hK K
          try simp only [Act.put, List.setIfInBounds_toArray, List.set_cons_zero, List.set_cons_succ]
          refine wpAnyH_ready (rs := [17]) (by kernel_rfl) (by simp) ?_
          refine AllReadyH.cons (i := 17) (o := ?o1_902) ?hi_902 (fun K hK => ?_) AllReadyH.nil
          case hi_902 => (simp only [List.getElem?_toArray, List.getElem?_cons_succ, List.getElem?_cons_zero]; rfl)
          go_simp
          refine hK.out _ _ hHeld (fun hHeld => ?_)
          clear hK K
          try simp only [Act.put, List.setIfInBounds_toArray, List.set_cons_zero, List.set_cons_succ]
          refine wpAnyH_ready (rs := [18]) (by kernel_rfl) (by simp) ?_
          refine AllReadyH.cons (i := 18) (o := ?o1_22) ?hi_22 (fun K hK => ?_) AllReadyH.nil
          case hi_22 => (simp only [List.getElem?_toArray, List.getElem?_cons_succ, List.getElem?_cons_zero]; rfl)
          go_simp
          refine hK.out _ _ ⟨(World.cell?_setCell_other _ _ _ _ (fun e => by injection e with e1; omega)).trans q1, (World.cell?_setCell_other _ _ _ _ (fun e => by injection e with e1; omega)).trans q2⟩ (fun hHeld => ?_)
          clear hK K
          try simp only [Act.put, List.setIfInBounds_toArray, List.set_cons_zero, List.set_cons_succ]
          refine wpAnyH_done (by kernel_rfl) ?_ _
          have h9 := h8.pushKid (w' := w4) (v' := .slice A4 ((kids k).length + 1) cc4) (k := k) (by omega) n (by rw [HEK.out]; exact hg4) hown4 (by rw [HEK.out]; exact hat4) rfl
          have hM9 := (modGe_grown (hM5.alloc (.cells #[.int .i64 n] 3)).drew hg4 (own_ge rk8)).setCell (p := ⟨gK, k, none⟩) (.inl (show b ≤ gK by omega)) (.slice A4 ((kids k).length + 1) cc4)
          clear hown4 hg4 hat4 K1 d0 e0 q1 q2
          go_wp2
          go_end0
          exact ⟨rfl, ⟨_, _, _, _, _, _, by dsimp only; rw [hkid.out]; exact h9⟩, hM9⟩
end Go.Proofs.Ytceekfbhkenniaa
end
