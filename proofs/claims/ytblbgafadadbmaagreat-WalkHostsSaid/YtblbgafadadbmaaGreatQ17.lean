/- Lemmas for the claim's proof: WalkPlain4 StrawB StrawC StrawD WalkA. -/
import Derived.Deep.RegionWith
import Derived.Deep.DeepCutAuto
import Derived.RegionTactic
import Derived.Laws.MakeOwn
import Derived.Deep.LoopGhost
import Derived.Test.YtblbgafadadbmaaGreatQ08
import Derived.Test.YtblbgafadadbmaaGreatQ11
import Derived.Test.YtblbgafadadbmaaGreatQ14
import Derived.Test.YtblbgafadadbmaaGreatQ16
section
/- Weights are sums that never turn over; where a host below may be picked there is a way down to one, in plain Lean. -/
set_option linter.unusedVariables false
namespace Go.Proofs.YtblbgafadadbmaaGreat
open Go.RowKit
theorem fold_bd {F : Nat → Int} {B : Int} : ∀ (ks : List Nat) (a : Int), 0 ≤ a → (∀ k ∈ ks, 0 ≤ F k ∧ F k ≤ B) → a + ks.length * B < 18446744073709551616 →
    a ≤ ks.foldl (fun a k => IntKind.u64.wrap (a + F k)) a ∧ ks.foldl (fun a k => IntKind.u64.wrap (a + F k)) a ≤ a + ks.length * B ∧ ∀ k ∈ ks, F k ≤ ks.foldl (fun a k => IntKind.u64.wrap (a + F k)) a
  | [], a, h0, _, _ => ⟨Int.le_refl _, by simp, fun k hk => by cases hk⟩
  | k :: ks, a, h0, hF, hB => by
    have hk := hF k (List.mem_cons_self ..)
    have e : (((k :: ks).length : Nat) : Int) * B = ks.length * B + B := by rw [List.length_cons]; push_cast; rw [Int.add_mul, Int.one_mul]
    rw [e] at hB
    have hnn : 0 ≤ (ks.length : Int) * B := Int.mul_nonneg (by omega) (by omega)
    have hw : IntKind.u64.wrap (a + F k) = a + F k := by rw [IntKind.wrap_u64]; omega
    rw [List.foldl_cons, hw, e]
    obtain ⟨h1, h2, h3⟩ := fold_bd ks (a + F k) (by omega) (fun k hk => hF k (List.mem_cons_of_mem _ hk)) (by omega)
    refine ⟨by omega, by omega, fun j hj => ?_⟩
    rcases List.mem_cons.1 hj with rfl | hj
    · omega
    · exact h3 j hj
theorem kids_len (l : List Nd) (i : Nat) : (kidsN l i).length ≤ l.length := by
  unfold kidsN
  refine Nat.le_trans (List.length_filter_le _ _) ?_
  rw [List.length_range]; exact Nat.le_refl _
theorem wt_bd {l : List Nd} (ht : Tall l) (hosts : List Int) (hl : l.length ≤ 1024) : ∀ (f i : Nat), f ≤ 3 → i < l.length → 4 ≤ (l.getD i nd0).kind + f → 0 ≤ wt l hosts i ∧ wt l hosts i ≤ 65535 * 1024 ^ f
  | f, i, hf, hi, hk => by
    have hd := tall_head ht i hi
    have hp : (1 : Int) ≤ 1024 ^ f := by
      have : f = 0 ∨ f = 1 ∨ f = 2 ∨ f = 3 := by omega
      rcases this with rfl | rfl | rfl | rfl <;> decide
    by_cases h4 : (l.getD i nd0).kind = 4
    · rw [wt_host ht hosts hi h4]
      split
      · exact ⟨hd.weight0, by have := hd.weight1; omega⟩
      · exact ⟨by omega, by omega⟩
    · rw [wt_node ht hosts hi h4]
      split
      · exact ⟨hd.weight0, by have := hd.weight1; omega⟩
      · match f, hf, hk with
        | 0, _, hk => have := hd.kind1; omega
        | f + 1, hf, hk =>
          have hks : ∀ k ∈ kidsN l i, 0 ≤ wt l hosts k ∧ wt l hosts k ≤ 65535 * 1024 ^ f := fun k hkk =>
            wt_bd ht hosts hl f k (by omega) (mem_kids.1 hkk).1 (by rw [(kid_kind ht hkk).2]; omega)
          have hnn : (0 : Int) ≤ 65535 * 1024 ^ f := by
            have : f = 0 ∨ f = 1 ∨ f = 2 := by omega
            rcases this with rfl | rfl | rfl <;> decide
          have hlen := kids_len l i
          have hb : ((kidsN l i).length : Int) * (65535 * 1024 ^ f) ≤ 1024 * (65535 * 1024 ^ f) := Int.mul_le_mul_of_nonneg_right (by omega) hnn
          have hb2 : (1024 : Int) * (65535 * 1024 ^ f) = 65535 * 1024 ^ (f + 1) := by rw [Int.pow_succ]; omega
          have hb3 : (65535 : Int) * 1024 ^ (f + 1) < 18446744073709551616 := by
            have : f = 0 ∨ f = 1 ∨ f = 2 := by omega
            rcases this with rfl | rfl | rfl <;> decide
          obtain ⟨h1, h2, _⟩ := fold_bd (F := wt l hosts) (kidsN l i) 0 (by omega) hks (by omega)
          exact ⟨h1, by omega⟩
theorem wt_nn {l : List Nd} (ht : Tall l) (hosts : List Int) (hl : l.length ≤ 1024) (i : Nat) (hi : i < l.length) : 0 ≤ wt l hosts i ∧ wt l hosts i < 18446744073709551616 := by
  have := wt_bd ht hosts hl 3 i (by omega) hi (by have := (tall_head ht i hi).kind0; omega)
  have e : (65535 : Int) * 1024 ^ 3 < 18446744073709551616 := by decide
  omega
theorem wt_pos {l : List Nd} (ht : Tall l) (hosts : List Int) (hl : l.length ≤ 1024) : ∀ (f i : Nat), i < l.length → 4 ≤ (l.getD i nd0).kind + f → hs l hosts i = true → 0 < wt l hosts i
  | f, i, hi, hk, hh => by
    have hd := tall_head ht i hi
    by_cases h4 : (l.getD i nd0).kind = 4
    · rw [hs_host ht hosts hi h4] at hh
      rw [wt_host ht hosts hi h4, if_pos hh]
      exact (pk_host hh).2.1
    · match f, hk with
      | 0, hk => have := hd.kind1; omega
      | f + 1, hk =>
        have h0 := wt_nn ht hosts hl i hi
        rw [wt_node ht hosts hi h4]
        by_cases hw : 0 < (l.getD i nd0).weight
        · rw [if_pos ⟨hw, hh⟩]; exact hw
        · rw [if_neg (fun h => hw h.1)]
          rw [hs_node ht hosts hi h4, List.any_eq_true] at hh
          obtain ⟨k, hkk, hk2⟩ := hh
          have hkl := (mem_kids.1 hkk).1
          have hp := wt_pos ht hosts hl f k hkl (by rw [(kid_kind ht hkk).2]; omega) hk2
          have hb : ∀ k ∈ kidsN l i, 0 ≤ wt l hosts k ∧ wt l hosts k ≤ 65535 * 1024 ^ 2 := fun k hkk =>
            wt_bd ht hosts hl 2 k (by omega) (mem_kids.1 hkk).1 (by rw [(kid_kind ht hkk).2]; have := hd.kind0; omega)
          have hlen := kids_len l i
          have e : (1024 : Int) * (65535 * 1024 ^ 2) < 18446744073709551616 := by decide
          have hb2 : ((kidsN l i).length : Int) * (65535 * 1024 ^ 2) ≤ 1024 * (65535 * 1024 ^ 2) := Int.mul_le_mul_of_nonneg_right (by omega) (by decide)
          obtain ⟨_, _, h3⟩ := fold_bd (F := wt l hosts) (kidsN l i) 0 (by omega) hb (by omega)
          have := h3 k hkk
          omega
theorem wt_iff {l : List Nd} (ht : Tall l) (hosts : List Int) (hl : l.length ≤ 1024) {i : Nat} (hi : i < l.length) : 0 < wt l hosts i ↔ hs l hosts i = true := by
  have hd := tall_head ht i hi
  constructor
  · intro h
    cases hh : hs l hosts i with
    | true => rfl
    | false =>
      have := wt_none ht hosts 4 i hi (by have := hd.kind0; omega) hh
      omega
  · exact fun h => wt_pos ht hosts hl 3 i hi (by have := hd.kind0; omega) h
theorem pick_some {L : Int → Int} {l : List (Int × Int)} {j : Nat} (h : 0 < (l.getD j (0, 0)).2) : ∀ n, j < n → 0 ≤ pickTo L l n
  | 0, hn => by omega
  | n + 1, hn => by
    by_cases e : j = n
    · subst e
      by_cases hp : pickTo L l j < 0
      · rw [pick_yes ⟨h, .inl hp⟩]; omega
      · unfold pickTo; split <;> omega
    · have := pick_some (L := L) h n (by omega)
      unfold pickTo
      split <;> omega
theorem stepL_some {L : Int → Int} {W : Nat → Int} {ks : List Nat} {k : Nat} (hk : k ∈ ks) (h : 0 < W k) : 0 ≤ stepL L W ks := by
  obtain ⟨j, hj, rfl⟩ := List.getElem_of_mem hk
  have := pick_some (L := L) (l := items W ks) (j := j) (by rw [items_at W ks hj, List.getD_eq_getElem?_getD, List.getElem?_eq_getElem hj]; exact h) ks.length hj
  unfold stepL kidOf
  rw [if_pos this]; omega
theorem step_has {l : List Nd} (ht : Tall l) (hosts : List Int) (hl : l.length ≤ 1024) (seed key : Int) {i : Nat} (hi : i < l.length) (h4 : (l.getD i nd0).kind ≠ 4) :
    (hs l hosts i = true → 0 ≤ stepI l (wt l hosts) seed key i) ∧ (hs l hosts i = false → stepI l (wt l hosts) seed key i = -1) := by
  rw [hs_node ht hosts hi h4]
  constructor
  · intro h
    obtain ⟨k, hk, h2⟩ := List.any_eq_true.1 h
    exact stepL_some hk ((wt_iff ht hosts hl (mem_kids.1 hk).1).2 h2)
  · intro h
    refine stepL_none fun k hk => ?_
    have hd := tall_head ht k (mem_kids.1 hk).1
    refine wt_none ht hosts 4 k (mem_kids.1 hk).1 (by have := hd.kind0; omega) ?_
    rw [List.any_eq_false] at h
    simpa using h k hk
theorem joinW_one_ne {x : Int} {r : List Int} (h : r ≠ []) : joinW [x] r = x :: r := by unfold joinW; rw [if_neg h]; rfl
theorem lastI_cons {x : Int} {r : List Int} (h : r ≠ []) : lastI (x :: r) = lastI r := by
  unfold lastI
  rw [if_neg (by simp), if_neg h]
  cases r with
  | nil => exact absurd rfl h
  | cons y r => simp
/-- Where a host below may be picked the way goes down to one. -/
theorem way_has {l : List Nd} (ht : Tall l) (hosts : List Int) (hl : l.length ≤ 1024) (seed key : Int) : ∀ (f i : Nat), i < l.length → 5 ≤ (l.getD i nd0).kind + f → hs l hosts i = true →
    downI l (wt l hosts) seed key f i ≠ [] ∧ ∃ h : Nat, lastI (downI l (wt l hosts) seed key f i) = h ∧ h < l.length ∧ pk l hosts h = true ∧ up l (l.getD i nd0).kind h = i
  | 0, i, hi, h1, _ => by have := (tall_head ht i hi).kind1; omega
  | f + 1, i, hi, h1, hh => by
    have hd := tall_head ht i hi
    by_cases h4 : (l.getD i nd0).kind = 4
    · rw [hs_host ht hosts hi h4] at hh
      rw [downI_host h4]
      refine ⟨by simp, i, rfl, hi, hh, ?_⟩
      exact up_hit l _ i (by omega) (by omega) (by rw [ndAt_nat])
    · obtain ⟨k, e, hkl, hka, hk0⟩ := stepI_in ((step_has ht hosts hl seed key hi h4).1 hh)
      have hsk := step_kind ht e
      have hhk := (wt_iff ht hosts hl hkl).1 hk0
      obtain ⟨h2, h, h3, h5, h6, h7⟩ := way_has ht hosts hl seed key f k hkl (by rw [hsk.2.1]; omega) hhk
      rw [downI_step h4 e, joinW_one_ne h2]
      refine ⟨by simp, h, by rw [lastI_cons h2]; exact h3, h5, h6, ?_⟩
      rw [hsk.2.1] at h7
      have hk4 := (pk_host h6).1
      obtain ⟨_, _, _, hc⟩ := up_chain ht (l.getD i nd0).kind hd.kind0 4 h (by omega) (by omega) (by rw [ndAt_nat]; omega) (by rw [ndAt_nat]; have := hd.kind1; omega)
      rw [hc, h7, ndAt_nat, hka]
theorem way_hasnot {l : List Nd} (ht : Tall l) (hosts : List Int) (hl : l.length ≤ 1024) (seed key : Int) {i : Nat} (hi : i < l.length) (h4 : (l.getD i nd0).kind ≠ 4) (hh : hs l hosts i = false) : wayI l (wt l hosts) seed key i = [] :=
  way_none h4 (by rw [(step_has ht hosts hl seed key hi h4).2 hh]; omega)
end Go.Proofs.YtblbgafadadbmaaGreat
end
section
/- Straws.Long. -/
set_option linter.unusedVariables false
namespace Go.Proofs.YtblbgafadadbmaaGreat
open Go.RowKit
set_option maxHeartbeats 2000000
set_option maxRecDepth 100000
theorem Filled.keep {w w' : World} {b : Nat} {T : K6} (h : Filled w b T) (hx : Below w.heap.size w w') : Filled w' b T := by
  obtain ⟨g, h, hg, hne⟩ := h
  exact ⟨g, h.keep hx, row_keep hg hx, hne⟩
theorem Filled.far {w : World} {b r : Nat} {T : K6} {cs : Array Value} (h : Filled w b T) (R : Blk w r 118 cs) (hrb : ¬ r = b) (i : Nat) (v : Value) : Filled (w.setCell ⟨r, i, none⟩ v) b T := by
  obtain ⟨g, h, ⟨ds, hd, hr⟩, hne⟩ := h
  have hgr : g ≠ r := Blk.ne_ (t := 24) (t' := 118) hd R (by decide)
  exact ⟨g, h.far (p := ⟨r, i, none⟩) (fun e => hrb e.symm) _, ⟨ds, Blk.far (p := ⟨r, i, none⟩) (t := 24) hd hgr _, hr⟩, hne⟩
theorem Tab.keep {w w' : World} {b : Nat} {T : K6} (h : Tab w b T) (hx : Below w.heap.size w w') : Tab w' b T := by
  rcases h with h | h
  · exact .inl (h.keep hx)
  · exact .inr (h.keep hx)
theorem Tab.alloc {w : World} {b : Nat} {T : K6} (h : Tab w b T) (o : Obj) : Tab (w.alloc o) b T := h.keep ((Below.refl _ _).alloc (Nat.le_refl _) _)
theorem Tab.lt {w : World} {b : Nat} {T : K6} (h : Tab w b T) : b < w.heap.size := by
  rcases h with h | ⟨g, h, _⟩ <;> exact h.lt
theorem Tab.drew {w : World} {b : Nat} {T : K6} (h : Tab w b T) : Tab w.drew b T := h
theorem one_listD (w : World) (t : TypeId) (id : Int) (i0 : 0 ≤ id) (i1 : id < 18446744073709551616) : IsList (w.alloc (.cells #[.int .u64 id] t)).drew .u64 (some ⟨w.heap.size, 0, none⟩) 1 1 [id] :=
  (one_list w t id i0 i1).keep (Below.drew (Below.refl _ _))
theorem table_At_done (b : Nat) (T : K6) (d : Int) (w : World) (hF : Filled w b T) :
    Calls Tryz.prog 70 #[.pointer (some ⟨b, 0, none⟩), .int .i64 d] w fun e w' => e = .returned (.int .u64 (ofN d)) ∧ w = w' := by
  obtain ⟨g, hB, hg, hne⟩ := hF
  have hmf : ∀ (fn : Fn) (first cap : Array Value) (w : World), (Instr.makeFunc fn first cap).run Tryz.prog w = .ok (.func fn first cap) w := fun _ _ _ _ => rfl
  have hc := clamp_bd d
  have hcd : min (max d 1) 65536 - 1 = ((clampN d - 1 : Nat) : Int) := by unfold clampN; omega
  have hd := drawRow_at d
  generalize clampN d - 1 = k at hcd hd
  have hk : k < 65536 := by omega
  have HD := Lib.hid hd
  clear hd hc
  go_enter Tryz.func70, Tryz.ntmps70
  go_wp2_with fail
  refine (once_done _ _ _ (hB.cell 0)).mono ?_; rintro e w' ⟨rfl, rfl⟩
  clear hmf
  obtain ⟨c0, c1, c2, c3, _⟩ := hB.cells6
  have hcell := hg.cell hk
  rw [HD.out] at hcell
  have k1 : IntKind.i64.wrap (min (max d 1) 65536 - 1) = (k : Int) := by rw [hcd]; exact IntWalk.i64_in _ (by omega)
  clear hcd
  go_wp2
  go_ret
  exact ⟨rfl, rfl⟩
theorem straws_Long (b : Nat) (T : K6) (key id wt : Int) (k0 : 0 ≤ key) (k1 : key < 18446744073709551616) (hx : IsNum id wt) (w : World) (hT : Tab w b T) :
    Calls Tryz.prog 66 #[.pointer (some ⟨b, 0, none⟩), .int .u64 key, .agg #[.int .u64 id, .int .u64 wt]] w fun e w' => e = .returned (.agg #[.int .u64 (lenI key id), .int .u64 wt]) ∧ Filled w' b T ∧ Mod (· = b) w w' := by
  obtain ⟨i0, i1, t0, t1⟩ := hx
  have hlt := hT.lt
  have hmb := mixOf_bd key [id]
  have P := (Blk.new w 109 #[.int .u64 id, .int .u64 wt]).alloc (.cells #[.int .u64 0, .int .u64 0] 118)
  have R := Blk.new (w.alloc (.cells #[.int .u64 id, .int .u64 wt] 109)) 118 #[.int .u64 0, .int .u64 0]
  have hT1 := (hT.alloc (.cells #[.int .u64 id, .int .u64 wt] 109)).alloc (.cells #[.int .u64 0, .int .u64 0] 118)
  have hM1 : Mod (· = b) w ((w.alloc (.cells #[.int .u64 id, .int .u64 wt] 109)).alloc (.cells #[.int .u64 0, .int .u64 0] 118)) := ((Mod.refl _ _).alloc _).alloc _
  have hz : (w.alloc (.cells #[.int .u64 id, .int .u64 wt] 109)).heap.size = w.heap.size + 1 := by simp
  rw [hz] at R
  clear hz
  go_enter Tryz.func66, Tryz.ntmps66
  go_wp2_with fail
  generalize (w.alloc (.cells #[.int .u64 id, .int .u64 wt] 109)).alloc (.cells #[.int .u64 0, .int .u64 0] 118) = u at *
  obtain ⟨p0, p1, _⟩ := P.cells2
  obtain ⟨r0, r1, _⟩ := R.cells2
  have hpb : ¬ w.heap.size = b := by omega
  have hrb : ¬ w.heap.size + 1 = b := by omega
  have A1 := fun (w' : World) => mix_Of key _ 1 1 [id] _ k0 k1 (one_listD w' 24 id i0 i1)
  have A3 : ∀ v : World, Tab v b T → Calls Tryz.prog 70 #[.pointer (some ⟨b, 0, none⟩), .int .i64 (mixOf key [id] / 281474976710656 + 1)] v fun e w' => e = .returned (.int .u64 (lenI key id)) ∧ Filled w' b T ∧ Mod (· = b) v w' := fun v hv => table_At b T (drwI key id) v hv
  have kq : IntKind.i64.wrap (mixOf key [id] / 281474976710656 + 1) = mixOf key [id] / 281474976710656 + 1 := IntWalk.i64_in _ (by omega)
  go_region_with (first
      | (go_at_call 35; refine (A1 _).mono ?_; rintro en w' ⟨rfl, rfl⟩)
      | (go_at_call 71; refine (mix_Draw _ _ (by omega) (by omega)).mono ?_; rintro en w' ⟨rfl, rfl⟩)
      | (go_at_call 70; refine (A3 _ (Tab.drew (Tab.alloc hT1 _))).mono ?_; rintro en w' ⟨rfl, hf, hm⟩; have P2 := ((P.alloc _).drew).mod hm hpb; have R2 := ((R.alloc _).drew).mod hm hrb; have hM2 := ((hM1.alloc _).drew).trans hm; obtain ⟨p0, p1, _⟩ := P2.cells2; obtain ⟨r0, r1, _⟩ := R2.cells2; obtain ⟨f0, f1⟩ := R2.free2; clear hm P2))
  all_goals
    have g0 := Filled.far hf R2 hrb 0 (.int .u64 (lenI key id))
    have R3 := R2.setTo 0 (.int .u64 (lenI key id)) (ds := #[.int .u64 (lenI key id), .int .u64 0]) rfl
    have g1 := Filled.far g0 R3 hrb 1 (.int .u64 wt)
    have hM3 := (hM2.fresh (g := w.heap.size + 1) (by omega) 0 (.int .u64 (lenI key id))).fresh (g := w.heap.size + 1) (by omega) 1 (.int .u64 wt)
    have R4 := R3.setTo 1 (.int .u64 wt) (ds := #[.int .u64 (lenI key id), .int .u64 wt]) rfl
    obtain ⟨e0, e1, _⟩ := R4.cells2
    clear hf R2 R3 R4 g0 hM2
    go_wp2
    exact bodyPost_ret (v := .agg #[.int .u64 (lenI key id), .int .u64 wt]) (by simp [results, Tryz.results66, go_sem, e0, e1]) rfl ⟨rfl, g1, hM3⟩
end Go.Proofs.YtblbgafadadbmaaGreat
end
section
/- The law's pick. -/
set_option linter.unusedVariables false
namespace Go.Proofs.YtblbgafadadbmaaGreat
open Go.RowKit
set_option maxHeartbeats 2000000
set_option maxRecDepth 100000
theorem pick_yes' {L : Int → Int} {l : List (Int × Int)} {k : Nat} {B : Int} (hB : B = pickTo L l k) {x : Int × Int} (hx : x = l.getD k (0, 0)) (h : 0 < x.2 ∧ (B < 0 ∨ shP L x (l.getD B.toNat (0, 0)) = true)) : pickTo L l (k + 1) = k := by
  subst hB hx; exact pick_yes h
theorem pick_no' {L : Int → Int} {l : List (Int × Int)} {k : Nat} {B : Int} (hB : B = pickTo L l k) {x : Int × Int} (hx : x = l.getD k (0, 0)) (h : ¬ (0 < x.2 ∧ (B < 0 ∨ shP L x (l.getD B.toNat (0, 0)) = true))) : pickTo L l (k + 1) = B := by
  subst hB hx; exact pick_no h
end Go.Proofs.YtblbgafadadbmaaGreat
end
section
/- Straws.Pick. -/
set_option linter.unusedVariables false
namespace Go.Proofs.YtblbgafadadbmaaGreat
open Go.RowKit
set_option maxHeartbeats 2000000
set_option maxRecDepth 100000
theorem IsPairs.mod {w w' : World} {S : Nat → Prop} {k0 k1 : IntKind} {A : Option Addr} {n c : Nat} {l : List (Int × Int)} (h : IsPairs w k0 k1 A n c l) (hx : Mod S w w') (hn : 0 < n → ∀ ad, A = some ad → ¬ S ad.block) : IsPairs w' k0 k1 A n c l :=
  ⟨h.len, h.cap, h.small, h.reach, h.wf, fun hnn => by
    obtain ⟨ad, ha, hb, hc⟩ := h.cells hnn
    have hs := hn hnn ad ha
    exact ⟨ad, ha, Nat.lt_of_lt_of_le hb hx.size, fun i q hq => ⟨(hx.cell (by rw [block_of_add]; exact hb) (by rw [block_of_add]; exact hs)).trans (hc i q hq).1, (hx.cell (by rw [block_of_add]; exact hb) (by rw [block_of_add]; exact hs)).trans (hc i q hq).2⟩⟩⟩
/-- What the least straw's place holds, as the k first are seen. -/
def LeastAt (key : Int) (l : List (Int × Int)) (B : Int) (g : Nat) (w : World) : Prop :=
  ∃ u d : Int, Blk w g 118 #[.int .u64 u, .int .u64 d] ∧ (0 ≤ B → u = lenI key (l.getD B.toNat (0, 0)).1 ∧ d = (l.getD B.toNat (0, 0)).2)
theorem cmp_frac {au ad bu bd : Int} (h1 : 0 < ad) (h2 : 0 < bd) : fracI au ad bu bd = cmpI (au * bd) (bu * ad) := by
  unfold fracI; rw [if_neg (by omega), if_neg (by omega)]
theorem Tab.far {w : World} {b r : Nat} {T : K6} {cs : Array Value} (h : Tab w b T) (R : Blk w r 118 cs) (hrb : ¬ r = b) (i : Nat) (v : Value) : Tab (w.setCell ⟨r, i, none⟩ v) b T := by
  rcases h with h | h
  · exact .inl (h.far (p := ⟨r, i, none⟩) (fun e => hrb e.symm) _)
  · exact .inr (h.far R hrb i v)
theorem store_least {w wb : World} {b g : Nat} {T : K6} {cs : Array Value} (hT : Tab wb b T) (hM : Mod (· = b) w wb) (R : Blk wb g 118 cs) (h2 : cs.size = 2) (hgb : ¬ g = b) (hg : w.heap.size ≤ g) (m : Nat) (x y : Int) :
    Tab (((wb.drewN m).setCell ⟨g, 0, none⟩ (.int .u64 x)).setCell ⟨g, 1, none⟩ (.int .u64 y)) b T ∧ Mod (· = b) w (((wb.drewN m).setCell ⟨g, 0, none⟩ (.int .u64 x)).setCell ⟨g, 1, none⟩ (.int .u64 y)) ∧
    Blk (((wb.drewN m).setCell ⟨g, 0, none⟩ (.int .u64 x)).setCell ⟨g, 1, none⟩ (.int .u64 y)) g 118 #[.int .u64 x, .int .u64 y] := by
  obtain ⟨cs⟩ := cs
  match cs, h2 with
  | [c0, c1], _ =>
    have hT1 : Tab (wb.drewN m) b T := hT
    have R1 : Blk (wb.drewN m) g 118 #[c0, c1] := R
    have R2 := R1.setTo 0 (.int .u64 x) (ds := #[.int .u64 x, c1]) rfl
    exact ⟨(hT1.far R1 hgb 0 _).far R2 hgb 1 _, ((hM.drewN m).fresh hg 0 _).fresh hg 1 _, R2.setTo 1 (.int .u64 y) rfl⟩
theorem straws_Pick (b : Nat) (T : K6) (key : Int) (A : Option Addr) (n c : Nat) (l : List (Int × Int)) (k0 : 0 ≤ key) (k1 : key < 18446744073709551616) (w : World) (hl : IsPairs w .u64 .u64 A n c l)
    (hA : 0 < n → ∀ ad, A = some ad → ¬ ad.block = b) (hT : Tab w b T) :
    Calls Tryz.prog 59 #[.pointer (some ⟨b, 0, none⟩), .int .u64 key, .slice A n c] w fun e w' => e = .returned (.int .i64 (pickTo (lenI key) l n)) ∧ Tab w' b T ∧ Mod (· = b) w w' := by
  have hn := hl.reach
  have hcap := hl.cap
  have hsm := hl.small
  have hblt := hT.lt
  have hT0 := hT.alloc (.cells #[.int .u64 0, .int .u64 0] 118)
  have hM0 : Mod (· = b) w (w.alloc (.cells #[.int .u64 0, .int .u64 0] 118)) := (Mod.refl _ _).alloc _
  have hL0 : LeastAt key l (-1) w.heap.size (w.alloc (.cells #[.int .u64 0, .int .u64 0] 118)) := ⟨0, 0, Blk.new _ _ _, fun h => absurd h (by decide)⟩
  go_enter Tryz.func59, Tryz.ntmps59
  go_wp2_with fail
  go_loopg [7, 18] n (fun gk s7 s18 wr => ∃ k : Nat, k ≤ n ∧ gk = n - k ∧ s18 = .int .i64 k ∧ s7 = .int .i64 (pickTo (lenI key) l k) ∧ Tab wr b T ∧ Mod (· = b) w wr ∧ LeastAt key l (pickTo (lenI key) l k) w.heap.size wr)
  case atStart => exact ⟨0, Nat.zero_le _, rfl, rfl, rfl, hT0, hM0, hL0⟩
  case round =>
    clear hT0 hM0 hL0
    obtain ⟨k, hk, rfl, rfl, rfl, hT', hM, hL⟩ := hrel
    have hbd := pick_bd (lenI key) l k
    obtain ⟨B, hB⟩ : ∃ B, B = pickTo (lenI key) l k := ⟨_, rfl⟩
    rw [← hB] at hbd hL ⊢
    have HB := Lib.hid hB
    clear hB
    by_cases hlt : k < n
    · obtain ⟨ad, rfl, hbk, c0, c1, w0, w1⟩ := (hl.mod hM hA).at_ hlt
      have hki : (k : Int) < (n : Int) := by omega
      have hne : ¬ ad.block = b := hA (by omega) ad rfl
      obtain ⟨x, hx⟩ : ∃ f, f = l.getD k (0, 0) := ⟨_, rfl⟩
      rw [← hx] at c0 c1 w0 w1
      have HX := Lib.hid hx
      clear hx
      have nx := Lib.hid (show IsNum x.1 x.2 from ⟨(u64_of_wf w0).1, (u64_of_wf w0).2, (u64_of_wf w1).1, (u64_of_wf w1).2⟩)
      have x2 := (u64_of_wf w1).1
      clear w0 w1
      by_cases hw : x.2 = 0
      · have hw' : (x.2 == 0) = true := by simp [hw]
        have HS := Lib.hid (pick_no' HB.out HX.out (fun h => by omega))
        have hT2 := hT'.alloc (.cells #[.int .u64 x.1, .int .u64 x.2] 109)
        have hM2 := hM.alloc (.cells #[.int .u64 x.1, .int .u64 x.2] 109)
        obtain ⟨u, d, hLb, hLe⟩ := hL
        have hL2 : LeastAt key l B w.heap.size (wr.alloc (.cells #[.int .u64 x.1, .int .u64 x.2] 109)) := ⟨u, d, hLb.alloc _, hLe⟩
        clear hLb hLe hT' hM hw
        go_wp2_with fail
        go_roundg (n - (k + 1))
        case measure => omega
        case rel => exact ⟨k + 1, by omega, rfl, by go_num, by rw [HS.out], hT2, hM2, by rw [HS.out]; exact hL2⟩
      · have hw' : (x.2 == 0) = false := by simp [hw]
        have hw0 : 0 < x.2 := by omega
        obtain ⟨u, d, hLb, hLe⟩ := hL
        have hLi := Lib.hid hLe
        clear hLe
        have hXb := Blk.new wr 109 #[.int .u64 x.1, .int .u64 x.2]
        have hLb1 := hLb.alloc (.cells #[.int .u64 x.1, .int .u64 x.2] 109)
        have hT2 := hT'.alloc (.cells #[.int .u64 x.1, .int .u64 x.2] 109)
        have hM2 := hM.alloc (.cells #[.int .u64 x.1, .int .u64 x.2] 109)
        have hgb : ¬ w.heap.size = b := by omega
        have hXne : ¬ wr.heap.size = b := by have := hT'.lt; omega
        have hXg : ¬ wr.heap.size = w.heap.size := by have := hLb.lt; omega
        go_wp2_with fail
        generalize wr.alloc (.cells #[.int .u64 x.1, .int .u64 x.2] 109) = wa at *
        refine (straws_Long b T key x.1 x.2 k0 k1 nx.out _ hT2).mono ?_; rintro e w1 ⟨rfl, hF, hm⟩
        have hT3 : Tab w1 b T := .inr hF
        have hX3 := hXb.mod hm hXne
        have hL3 := hLb1.mod hm hgb
        have hM3 := hM2.trans hm
        have hla := len_bd key x.1
        clear hF hm hXb hLb hLb1 hT2 hM2 hT' c0 c1
        obtain ⟨lx, hlx⟩ : ∃ f, f = lenI key x.1 := ⟨_, rfl⟩
        rw [← hlx] at hla ⊢
        have HLX := Lib.hid hlx
        clear hlx
        have hF4 := Blk.new w1 118 #[.int .u64 lx, .int .u64 x.2]
        have hX4 := hX3.alloc (.cells #[.int .u64 lx, .int .u64 x.2] 118)
        have hL4 := hL3.alloc (.cells #[.int .u64 lx, .int .u64 x.2] 118)
        have hT4 := hT3.alloc (.cells #[.int .u64 lx, .int .u64 x.2] 118)
        have hM4 := hM3.alloc (.cells #[.int .u64 lx, .int .u64 x.2] 118)
        have hgl := hL3.lt
        clear hX3 hT3 hM3 hL3
        by_cases hneg : B < 0
        · have hg : decide (B < 0) = true := decide_eq_true hneg
          have HS := Lib.hid (pick_yes' HB.out HX.out ⟨hw0, .inl hneg⟩)
          go_wp2_with fail
          generalize w1.alloc (.cells #[.int .u64 lx, .int .u64 x.2] 118) = wb at *
          obtain ⟨x0, x1, _⟩ := hX4.cells2
          obtain ⟨l0, l1, _⟩ := hL4.cells2
          obtain ⟨y0, y1, _⟩ := hF4.cells2
          obtain ⟨lf0, lf1⟩ := hL4.free2
          go_quiet (fail)
          go_wp2_with fail
          go_region
          obtain ⟨hT5, hM5, hL5⟩ := store_least hT4 hM4 hL4 rfl hgb (Nat.le_refl _) (nq + 1) lx x.2
          have hL6 : LeastAt key l (k : Int) w.heap.size _ := ⟨lx, x.2, hL5, fun _ => by rw [Int.toNat_natCast, ← HX.out]; exact ⟨HLX.out, rfl⟩⟩
          clear hL5 hT4 hM4 hL4 hX4 hF4 x0 x1 l0 l1 y0 y1 lf0 lf1
          go_wp2
          go_roundg (n - (k + 1))
          case measure => omega
          case rel => exact ⟨k + 1, by omega, rfl, by go_num, by rw [HS.out], hT5, hM5, by rw [HS.out]; exact hL6⟩
        · have hg : decide (B < 0) = false := decide_eq_false hneg
          have hB0 : 0 ≤ B := by omega
          have hBn : B < (n : Int) := by omega
          obtain ⟨hu, hd⟩ := hLi.out hB0
          obtain ⟨ad', e', _, c0, _, v0, v1⟩ := (hl.mod hM4 hA).at_ (k := B.toNat) (by omega)
          obtain rfl : ad' = ad := by injection e' with e'; exact e'.symm
          have hyp := pick_pos (lenI key) l k (by rw [← HB.out]; exact hB0)
          rw [← HB.out] at hyp
          obtain ⟨y, hy⟩ : ∃ f, f = l.getD B.toNat (0, 0) := ⟨_, rfl⟩
          rw [← hy] at c0 v0 v1 hu hd hyp
          have HY := Lib.hid hy
          have ny : IsNum y.1 y.2 := ⟨(u64_of_wf v0).1, (u64_of_wf v0).2, (u64_of_wf v1).1, (u64_of_wf v1).2⟩
          have hub := len_bd key y.1
          rw [← hu] at hub
          rw [← hd] at hyp
          have nd : IsNum u d := ⟨by omega, by omega, by rw [hd]; exact ny.l0, by rw [hd]; exact ny.l1⟩
          have HU := Lib.hid hu
          have HD := Lib.hid hd
          clear hy v0 v1 hu hd e' ny
          have C1 := fun w => wide_FracCmp lx x.2 u d ⟨by omega, by omega, nx.out.l0, nx.out.l1⟩ nd w
          rw [cmp_frac hw0 hyp] at C1
          obtain ⟨C, hC⟩ : ∃ C, C = cmpI (lx * d) (u * x.2) := ⟨_, rfl⟩
          rw [← hC] at C1
          have hsh : shP (lenI key) x (l.getD B.toNat (0, 0)) = (decide (C < 0) || (C == 0 && decide (x.1 < y.1))) := by
            rw [← HY.out, hC]
            unfold shP cmpI
            rw [← HLX.out, ← HU.out, ← HD.out]
            (repeat' split) <;> simp_all <;> omega
          have HSH := Lib.hid hsh
          clear hC hsh
          obtain ⟨l0, l1, _⟩ := hL4.cells2
          obtain ⟨y0, y1, _⟩ := hF4.cells2
          go_wp2_with fail
          generalize w1.alloc (.cells #[.int .u64 lx, .int .u64 x.2] 118) = wb at *
          refine (C1 _).mono ?_; rintro e w2 ⟨rfl, hx2⟩
          have hT5 := hT4.keep hx2
          have hM5 := hM4.thenB hx2
          have hX5 := hX4.keep hx2
          have hL5 := hL4.keep hx2
          have hF5 := hF4.keep hx2
          have d0 := cell_keep c0 hx2
          clear hT4 hM4 hX4 hL4 hF4 c0 l0 l1 y0 y1 C1 hx2 hub nd
          obtain ⟨x0, x1, _⟩ := hX5.cells2
          obtain ⟨l0, l1, _⟩ := hL5.cells2
          obtain ⟨y0, y1, _⟩ := hF5.cells2
          obtain ⟨lf0, lf1⟩ := hL5.free2
          have hi2 : B < (n : Int) := by omega
          by_cases hyes : C < 0 ∨ (C = 0 ∧ x.1 < y.1)
          · have HS := Lib.hid (pick_yes' HB.out HX.out ⟨hw0, .inr (by rw [HSH.out]; rcases hyes with h | ⟨h, h'⟩ <;> simp [h, *])⟩)
            clear HSH
            rcases hyes with h | ⟨h, h'⟩
            · have g1 : decide (C < 0) = true := decide_eq_true h
              go_wp2_with fail
              go_quiet (fail)
              go_wp2_with fail
              go_region
              obtain ⟨hT6, hM6, hL6⟩ := store_least hT5 hM5 hL5 rfl hgb (Nat.le_refl _) (nq + 1) lx x.2
              have hL7 : LeastAt key l (k : Int) w.heap.size _ := ⟨lx, x.2, hL6, fun _ => by rw [Int.toNat_natCast, ← HX.out]; exact ⟨HLX.out, rfl⟩⟩
              clear hL6 hT5 hM5 hL5 hX5 hF5 x0 x1 l0 l1 y0 y1 lf0 lf1
              go_wp2
              go_roundg (n - (k + 1))
              case measure => omega
              case rel => exact ⟨k + 1, by omega, rfl, by go_num, by rw [HS.out], hT6, hM6, by rw [HS.out]; exact hL7⟩
            · have g1 : decide (C < 0) = false := decide_eq_false (by omega)
              have g2 : (C == 0) = true := by simp [h]
              have g3 : decide (x.1 < y.1) = true := decide_eq_true h'
              clear h
              go_wp2_with fail
              go_quiet (fail)
              go_wp2_with fail
              go_region
              obtain ⟨hT6, hM6, hL6⟩ := store_least hT5 hM5 hL5 rfl hgb (Nat.le_refl _) (nq + 1) lx x.2
              have hL7 : LeastAt key l (k : Int) w.heap.size _ := ⟨lx, x.2, hL6, fun _ => by rw [Int.toNat_natCast, ← HX.out]; exact ⟨HLX.out, rfl⟩⟩
              clear hL6 hT5 hM5 hL5 hX5 hF5 x0 x1 l0 l1 y0 y1 lf0 lf1
              go_wp2
              go_roundg (n - (k + 1))
              case measure => omega
              case rel => exact ⟨k + 1, by omega, rfl, by go_num, by rw [HS.out], hT6, hM6, by rw [HS.out]; exact hL7⟩
          · have HS := Lib.hid (pick_no' HB.out HX.out (fun h => by
              rcases h.2 with h2 | h2
              · omega
              · rw [HSH.out] at h2; simp at h2; omega))
            have g1 : decide (C < 0) = false := decide_eq_false (by omega)
            have hL6 : LeastAt key l B w.heap.size w2 := ⟨u, d, hL5, hLi.out⟩
            clear HSH
            by_cases h : C = 0
            · have g2 : (C == 0) = true := by simp [h]
              have g3 : decide (x.1 < y.1) = false := decide_eq_false (by omega)
              clear h hyes
              go_wp2_with fail
              go_quiet (fail)
              go_wp2
              go_roundg (n - (k + 1))
              case measure => omega
              case rel => exact ⟨k + 1, by omega, rfl, by go_num, by rw [HS.out], hT5, hM5.drewN _, by rw [HS.out]; exact hL6⟩
            · have g2 : (C == 0) = false := by simp [h]
              clear h hyes
              go_wp2_with fail
              go_quiet (fail)
              go_wp2
              go_roundg (n - (k + 1))
              case measure => omega
              case rel => exact ⟨k + 1, by omega, rfl, by go_num, by rw [HS.out], hT5, hM5.drewN _, by rw [HS.out]; exact hL6⟩
    · obtain rfl : k = n := by omega
      go_wp2
      go_ret
      exact ⟨by rw [← HB.out]; rfl, hT', hM⟩
end Go.Proofs.YtblbgafadadbmaaGreat
end
section
/- Walker.Step. -/
set_option linter.unusedVariables false
namespace Go.Proofs.YtblbgafadadbmaaGreat
open Go.RowKit
set_option maxHeartbeats 4000000
set_option maxRecDepth 100000
/-- The block of a walker. -/
def kw (f seed : Int) : K6 := ⟨51, .int .i64 f, .int .u64 seed⟩
theorem Tab.ends {w : World} {b : Nat} {T : K6} (h : Tab w b T) : w.cell? ⟨b, 4, none⟩ = some T.fa ∧ w.cell? ⟨b, 5, none⟩ = some T.se := by
  rcases h with h | ⟨g, h, _⟩
  · obtain ⟨_, _, _, _, c4, c5, _⟩ := h.cells6; exact ⟨c4, c5⟩
  · obtain ⟨_, _, _, _, c4, c5, _⟩ := h.cells6; exact ⟨c4, c5⟩
/-- A walker, in a world that is as another one but for it. -/
structure WW (w0 w : World) (b : Nat) (T : K6) : Prop where
  tab : Tab w b T
  le : w0.heap.size ≤ b
  bel : Below w0.heap.size w0 w
theorem WW.keep {w0 w w' : World} {b : Nat} {T : K6} (h : WW w0 w b T) (hx : Below w.heap.size w w') : WW w0 w' b T := ⟨h.tab.keep hx, h.le, below_step h.bel hx⟩
theorem WW.turn {w0 w w' : World} {b : Nat} {T : K6} (h : WW w0 w b T) (hT : Tab w' b T) (hx : Mod (· = b) w w') : WW w0 w' b T := ⟨hT, h.le, below_thenMod h.bel (Nat.le_refl _) hx (fun k hk => by rw [hk]; exact h.le)⟩
theorem Tryz.infoItem : (Tryz.prog.info? 109).map (fun i => (i.zero, i.size, i.bytes)) = some (some (.agg #[.int .u64 0, .int .u64 0]), 2, 16) := by kernel_rfl
theorem run_make_items (n : Nat) (hn : n ≤ 65537) (w : World) : (Instr.makeSlice 106 (.int .i64 (n : Int)) (.int .i64 (n : Int))).run Tryz.prog w = .ok (.slice (some ⟨w.heap.size, 0, none⟩) n n) (w.alloc (.cells (madeCells #[.int .u64 0, .int .u64 0] (n * 2)) 109)) := by
  obtain ⟨i, hi, hzz⟩ := Option.map_eq_some_iff.1 Tryz.infoItem
  simp only [Prod.mk.injEq] at hzz
  obtain ⟨hz, hs, hb⟩ := hzz
  have hr := run_make (P := Tryz.prog) w 106 109 i _ Tryz.underlying106 hi hz .i64 .i64 n n (by omega) (Int.le_refl _) (by rw [hb]; omega) (by omega)
  simp only [Int.toNat_natCast, hs] at hr
  exact hr
/-- The cells of the m first items, the others zero. -/
def itemRow (its : List (Int × Int)) (m j : Nat) : Value := if j / 2 < m then (if j % 2 = 0 then .int .u64 (its.getD (j / 2) (0, 0)).1 else .int .u64 (its.getD (j / 2) (0, 0)).2) else .int .u64 0
theorem items_made (w : World) (n : Nat) (its : List (Int × Int)) : (w.alloc (.cells (madeCells #[.int .u64 0, .int .u64 0] (n * 2)) 109)).rowIs w.heap.size 109 (n * 2) (itemRow its 0) := by
  have h := World.rowIs_alloc w (madeCells #[.int .u64 0, .int .u64 0] (n * 2)) 109 (fun _ => .int .u64 0) (fun i hi => by
    rw [size_madeCells] at hi
    simp [madeCells, hi]
    have : i % 2 < 2 := Nat.mod_lt _ (by decide)
    generalize i % 2 = m at *
    match m, this with
    | 0, _ => rfl
    | 1, _ => rfl)
  rw [size_madeCells] at h
  exact h.congr (fun m hm => by unfold itemRow; rw [if_neg (by omega)])
/-- An item is laid. -/
def two (w : World) (gr o : Nat) (a b : Int) : World := (w.setCell ⟨gr, o, none⟩ (.int .u64 a)).setCell ⟨gr, o + 1, none⟩ (.int .u64 b)
theorem two_row {w : World} {gi n m : Nat} {its : List (Int × Int)} (h : w.rowIs gi 109 (n * 2) (itemRow its m)) {a b : Int} (ha : its.getD m (0, 0) = (a, b)) : (two w gi (m * 2) a b).rowIs gi 109 (n * 2) (itemRow its (m + 1)) := by
  refine ((h.set (m * 2) (.int .u64 a)).set (m * 2 + 1) (.int .u64 b)).congr (fun j hj => ?_)
  unfold itemRow
  by_cases e1 : j = m * 2 + 1
  · rw [if_pos e1, if_pos (by omega), if_neg (by omega), show j / 2 = m by omega, ha]
  · rw [if_neg e1]
    by_cases e2 : j = m * 2
    · rw [if_pos e2, if_pos (by omega), if_pos (by omega), show j / 2 = m by omega, ha]
    · rw [if_neg e2]
      by_cases e3 : j / 2 < m
      · rw [if_pos e3, if_pos (show j / 2 < m + 1 by omega)]
      · rw [if_neg e3, if_neg (show ¬ j / 2 < m + 1 by omega)]
theorem items_pairs {w : World} {gi n : Nat} {its : List (Int × Int)} (h : w.rowIs gi 109 (n * 2) (itemRow its n)) (hl : its.length = n) (hn : n ≤ 1024) (hwf : ∀ p ∈ its, (Lit.int .u64 p.1).wf = true ∧ (Lit.int .u64 p.2).wf = true) : IsPairs w .u64 .u64 (some ⟨gi, 0, none⟩) n n its where
  len := hl
  cap := Nat.le_refl _
  small := by omega
  reach := by omega
  wf := hwf
  cells := fun h0 => ⟨_, rfl, h.lt, fun i p hp => by
    have hi : i < n := by rw [← hl]; exact (List.getElem?_eq_some_iff.1 hp).1
    have e : ∀ j, (⟨gi, 0, none⟩ : Addr).add j = ⟨gi, j, none⟩ := fun j => by unfold Addr.add; split <;> simp_all
    have hg : its.getD i (0, 0) = p := by rw [List.getD_eq_getElem?_getD, hp]; rfl
    rw [e, e]
    refine ⟨(h.cell (i := i * 2) (by omega)).trans ?_, (h.cell (i := i * 2 + 1) (by omega)).trans ?_⟩
    · unfold itemRow
      rw [if_pos (by omega), if_pos (by omega), show i * 2 / 2 = i by omega, hg]
    · unfold itemRow
      rw [if_pos (by omega), if_neg (by omega), show (i * 2 + 1) / 2 = i by omega, hg]⟩
theorem two_list {w : World} {g : Nat} {t : TypeId} {a b : Int} (h : Blk w g t #[.int .u64 a, .int .u64 b]) (ha : 0 ≤ a ∧ a < 18446744073709551616) (hb : 0 ≤ b ∧ b < 18446744073709551616) : IsList w .u64 (some ⟨g, 0, none⟩) 2 2 [a, b] :=
  isList_blk h [a, b] rfl (fun z hz => by
    have : z = a ∨ z = b := by simpa using hz
    rcases this with rfl | rfl <;> (simp [Lit.wf, IntKind.min, IntKind.max, IntKind.signed, IntKind.bits]; omega)) (by simp)
end Go.Proofs.YtblbgafadadbmaaGreat
end
