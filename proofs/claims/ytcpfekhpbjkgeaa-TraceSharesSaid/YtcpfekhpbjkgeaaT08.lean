/- Lemmas for the claim's proof: TraceI TraceJ. -/
import Derived.Test.YtcpfekhpbjkgeaaT07
section
/- trace.Shares: how much each host got. -/
set_option linter.unusedVariables false
namespace Go.Proofs.Ytcpfekhpbjkgeaa
open Go.RowKit Go.Maps Go.Sort Go.Shelf
set_option maxHeartbeats 8000000
set_option maxRecDepth 100000
/-- A log, or none. -/
def LogOr (w : World) (B : Nat) (pv : Value) (rows : List RV) : Prop := (pv = .pointer none ∧ rows = []) ∨ ∃ b v, pv = .pointer (some ⟨b, 0, none⟩) ∧ IsLog w B b v rows
theorem LogOr.keep {w w' : World} {B : Nat} {pv : Value} {rows : List RV} (h : LogOr w B pv rows) (hx : Below w.heap.size w w') : LogOr w' B pv rows := by
  rcases h with h | ⟨b, v, e, h⟩
  · exact .inl h
  · exact .inr ⟨b, v, e, h.keep hx⟩
theorem logOr_Len {w : World} {B : Nat} {pv : Value} {rows : List RV} (h : LogOr w B pv rows) : Calls Try.prog 46 #[pv] w fun e w' => e = .returned (.int .i64 rows.length) ∧ w = w' := by
  rcases h with ⟨rfl, rfl⟩ | ⟨b, v, rfl, h⟩
  · exact log_LenNil w
  · exact log_Len h
theorem met_start (mem : Int → Bool) : Met mem mem [] := ⟨List.nodup_nil, (fun k hk => by cases hk), (fun y => by simp)⟩
theorem Met.step {mem left : Int → Bool} {ks : List Int} (h : Met mem left ks) {x : Int} (hx : left x = true) : Met mem (fun y => left y && y != x) (ks ++ [x]) := by
  have h1 := h.left_eq x
  rw [hx] at h1
  have h1 := h1.symm
  simp only [Bool.and_eq_true, Bool.not_eq_true'] at h1
  refine ⟨?_, fun k hk => ?_, fun y => ?_⟩
  · rw [List.nodup_append]
    refine ⟨h.nodup, by simp, fun a ha b hb => ?_⟩
    obtain rfl := List.mem_singleton.1 hb
    rintro rfl
    have : ks.contains a = true := by simpa using ha
    rw [h1.2] at this; cases this
  · rcases List.mem_append.1 hk with hk | hk
    · exact h.sub k hk
    · obtain rfl := List.mem_singleton.1 hk; exact h1.1
  · show (left y && y != x) = _
    rw [h.left_eq y]
    by_cases e : y = x
    · subst e; simp
    · simp [e]
theorem Met.all {mem left : Int → Bool} {ks : List Int} (h : Met mem left ks) (hl : ∀ x, left x = false) {y : Int} (hy : mem y = true) : y ∈ ks := by
  have := h.left_eq y
  rw [hl y, hy] at this
  simpa using this
/-- Sorted by a key that each has but once: the keys rise. -/
theorem keys_rise {α : Type} {f : α → Int} : ∀ {o : List α}, o.Pairwise (fun x y => ¬ f y < f x) → (o.map f).Nodup → (o.map f).Pairwise (· < ·)
  | [], _, _ => List.Pairwise.nil
  | x :: o, h1, h2 => by
    rw [List.map_cons, List.nodup_cons] at h2
    obtain ⟨h3, h4⟩ := List.pairwise_cons.1 h1
    rw [List.map_cons, List.pairwise_cons]
    refine ⟨fun k hk => ?_, keys_rise h4 h2.2⟩
    obtain ⟨y, hy, rfl⟩ := List.mem_map.1 hk
    have := h3 y hy
    have h5 : f x ≠ f y := fun e => h2.1 (by rw [e]; exact hk)
    omega
/-- Rising keys: those of a list. -/
def KeysOf (K : List Int) (l : List Int) : Prop := K.Pairwise (· < ·) ∧ ∀ h, h ∈ K ↔ h ∈ l
/-- What a list of keys becomes when what stands at them is sorted by them. -/
theorem sorted_keys {α : Type} {f : α → Int} {g : Int → α} (hg : ∀ k, f (g k) = k) {ks l : List Int} {o : List α} (hn : ks.Nodup) (hm : ∀ h, h ∈ ks ↔ h ∈ l) (hp : o.Perm (ks.map g)) (ho : o.Pairwise (fun x y => ¬ f y < f x)) :
    ∃ K, KeysOf K l ∧ o = K.map g := by
  have h1 : (o.map f).Perm ks := by
    have := hp.map f
    rwa [List.map_map, show (f ∘ g) = id from funext hg, List.map_id] at this
  refine ⟨o.map f, ⟨keys_rise ho (h1.nodup_iff.2 hn), fun h => by rw [h1.mem_iff, hm]⟩, ?_⟩
  rw [List.map_map]
  conv => lhs; rw [← List.map_id o]
  refine List.map_congr_left fun x hx => ?_
  obtain ⟨k, _, rfl⟩ := List.mem_map.1 (hp.mem_iff.1 hx)
  show g k = g (f (g k))
  rw [hg]
/-- What Shares hands back. -/
def SharesOut (w w' : World) (v : Value) (P : List OutV) : Prop := ∃ K, KeysOf K (hostsOf P) ∧ w'.ownsRow w.heap.size 97 3 v K.length (shShape.flat (K.map (shOf P)))
theorem Try.infoShare : (Try.prog.info? 97).map (fun i => (i.zero, i.size, i.bytes)) = some (some (.agg #[.int .i64 0, .int .i64 0, .int .i64 0]), 3, 24) := by kernel_rfl
theorem imap_ne {P : Program} {k : TypeId} {q : IntKind} {w : World} {b n : Nat} {f : Int → Option Value} {B : Nat} {e : TypeId} {s m : Nat} {v : Value} {xs : List Value} (h : IMap P k q w b n f) (ho : w.ownsRow B e s v m xs) : some b ≠ v.ownBlock := by
  obtain ⟨D, ⟨es, clock, hb, _⟩, _⟩ := h
  rcases ho.2 with ⟨rfl, _⟩ | ⟨g, cap, cur, rfl, _, hg, _⟩
  · simp [Value.ownBlock]
  · intro e1
    simp only [Value.ownBlock, Option.some.injEq] at e1
    subst e1
    rw [hb] at hg; cases hg
theorem irange_ne {P : Program} {k : TypeId} {q : IntKind} {w : World} {b r n : Nat} {f : Int → Option Value} {left : Int → Bool} {cnt B : Nat} {e : TypeId} {s m : Nat} {v : Value} {xs : List Value} (h : IRange P k q w b r n f left cnt) (ho : w.ownsRow B e s v m xs) : some r ≠ v.ownBlock := by
  obtain ⟨D, L, ⟨es, clock, since, seen, c0, _, _, _, _, hr, _⟩, _⟩ := h
  rcases ho.2 with ⟨rfl, _⟩ | ⟨g, cap, cur, rfl, _, hg, _⟩
  · simp [Value.ownBlock]
  · intro e1
    simp only [Value.ownBlock, Option.some.injEq] at e1
    subst e1
    rw [hr] at hg; cases hg
def shV (c : Sh) : Value := .agg #[.int .i64 c.host, .int .i64 c.outs, .int .i64 c.bytes]
theorem shareF_some {P : List OutV} {x : Int} {v : Value} (h : shareF P x = some v) : v = shV (shOf P x) ∧ x ∈ hostsOf P := by
  unfold shareF at h
  split at h
  · cases h; exact ⟨rfl, by assumption⟩
  · cases h
theorem shV_inj {a b : Sh} (h : shV a = shV b) : a = b := by
  cases a; cases b; unfold shV at h; simp at h; simp [h]
theorem log_Shares {w : World} {B : Nat} {pv : Value} {rows : List RV} (h : LogOr w B pv rows) (hr : RowsOk w rows) (hn : rows.length ≤ 1000) (hm : (outsR rows).length ≤ 10000) :
    Calls Try.prog 41 #[pv] w fun e w' => (∃ v, e = .returned v ∧ SharesOut w w' v (outsR rows)) ∧ Below w.heap.size w w' := by
  obtain ⟨iI, hiI, hzI, hzI1, hzI2⟩ := info_parts Try.infoShare
  have HM := Lib.hid hm
  have HWF := Lib.hid (show ∀ o ∈ outsR rows, outShape.Wf o from fun o ho => by
    obtain ⟨r, hr1, hr2⟩ := List.mem_flatMap.1 ho
    exact IsRow.wf (hr r hr1) o hr2)
  have HR := Lib.hid (fun (i : Nat) (hi : i < rows.length) => (show IsOuts w (rows.getD i rvShape.z).told from hr _ (by
    rw [List.getD_eq_getElem?_getD, List.getElem?_eq_getElem hi]; exact List.getElem_mem _)))
  have hmm := @run_makeMap Try.prog
  have hA := (Below.refl w.heap.size w).alloc (Nat.le_refl _) (.map #[] 0)
  have hM0 : IMap Try.prog 3 .i64 (w.alloc (.map #[] 0)) w.heap.size 0 (shareF []) := by rw [shareF_nil]; exact IMap.made Try.prog 3 .i64 w
  have HP := Lib.hid (fun w' v P => (Iff.rfl : SharesOut w w' v P ↔ SharesOut w w' v P))
  obtain ⟨N, hN⟩ : ∃ N, N = rows.length := ⟨_, rfl⟩
  have HN := Lib.hid hN
  have h1 := h.keep hA
  have CL := logOr_Len h1
  rw [← hN] at CL hn
  clear hN hm hr h1 HP
  go_enter Try.func41, Try.ntmps41
  go_upto_region 2 with (fail)
  obtain ⟨mb, hmb⟩ : ∃ b, b = w.heap.size := ⟨_, rfl⟩
  rw [← hmb] at hM0 ⊢
  have HMB := Lib.hid hmb
  clear hmb hmm
  generalize w.alloc (.map #[] 0) = u at *
  go_wp2_with fail
  refine CL.mono ?_; rintro e w1 ⟨rfl, rfl⟩
  clear CL
  go_wp2_with fail
  go_loopg [4, 6, 7, 14, 27] N (fun gk s4 s6 s7 s14 s27 wr => ∃ (i m : Nat), s14 = .int .i64 i ∧ i ≤ N ∧ gk = N - i ∧ IMap Try.prog 3 .i64 wr mb m (shareF (outsR (rows.take i))) ∧ Hid (m ≤ (outsR (rows.take i)).length) ∧ Below w.heap.size w wr)
  case atStart => exact ⟨0, 0, by go_num, Nat.zero_le _, rfl, hM0, Lib.hid (Nat.zero_le _), hA⟩
  case round =>
    clear hM0 hA
    obtain ⟨i, m, rfl, hi, rfl, hMap, HMm, hW⟩ := hrel
    by_cases hin : i < N
    · have hii : (i : Int) < (N : Int) := by omega
      rcases h with ⟨_, h0⟩ | ⟨b, v, rfl, hL0⟩
      · rw [h0] at HN; have := HN.out; simp at this; omega
      obtain ⟨A, c, rfl⟩ := ownK_sl hL0.own
      have hcap := ownK_cap hL0.own
      rw [← HN.out] at hcap
      have hL := hL0.keep hW
      obtain ⟨ad, rfl, hT⟩ := log_at hL (by rw [← HN.out]; exact hin)
      have hL : IsLog wr B b (.slice (some ad) N c) rows := by rw [HN.out]; exact hL
      obtain ⟨g0, _⟩ := hL.blk.cells1
      have HO := Lib.hid (HR.out i (by rw [← HN.out]; exact hin))
      have HX := Lib.hid (outsR_next (rows := rows) (i := i) (by rw [← HN.out]; exact hin))
      have HLE := Lib.hid (Nat.le_trans (outsR_le (rows := rows) (i + 1)) HM.out)
      have HSB := Lib.hid (show ∀ o ∈ outsR (rows.take (i + 1)), outShape.Wf o from fun o ho => by
        obtain ⟨r, hr1, hr2⟩ := List.mem_flatMap.1 ho
        exact HWF.out o (List.mem_flatMap.2 ⟨r, List.mem_of_mem_take hr1, hr2⟩))
      obtain ⟨X, hX⟩ : ∃ X, X = rows.getD i rvShape.z := ⟨_, rfl⟩
      rw [← hX] at hT HO HX
      clear hX hL0
      obtain ⟨_, _, t2⟩ := hT
      have hro := IsRow.keep HO.out hW
      have hxc := IsRow.cap HO.out
      have hxs := IsRow.small HO.out
      obtain ⟨xo, xe, xa, xn, xc, xm, xl⟩ := X
      dsimp only at t2 hro hxc hxs
      have HXL := Lib.hid (IsRow.len HO.out)
      go_wp2_with fail
      obtain ⟨wo, rfl⟩ : ∃ wo, wo = wr := ⟨_, rfl⟩
      clear t2 g0 hL
      have hWo := hW
      go_loopg [6, 7, 27] xn (fun gk s6 s7 s27 wr => ∃ (k m : Nat), s27 = .int .i64 k ∧ k ≤ xn ∧ gk = xn - k ∧ IMap Try.prog 3 .i64 wr mb m (shareF (outsR (rows.take i) ++ xl.take k)) ∧ Hid (m ≤ (outsR (rows.take i) ++ xl.take k).length) ∧ Below w.heap.size w wr ∧ wo.heap.size ≤ wr.heap.size)
      case atStart => exact ⟨0, m, by go_num, Nat.zero_le _, rfl, by rw [List.take_zero, List.append_nil]; exact hMap, Lib.hid (by rw [List.take_zero, List.append_nil]; exact HMm.out), hWo, Nat.le_refl _⟩
      case round =>
        clear hW hMap HMm
        obtain ⟨k, m, rfl, hk, rfl, hMap, HMm, hW, hwz⟩ := hrel
        by_cases hkn : k < xn
        · have hkk : (k : Int) < (xn : Int) := by omega
          have hro2 := IsRow.keep HO.out hW
          dsimp only at hro2
          obtain ⟨ae, rfl, _, d0, d1⟩ := hro2.outat hkn
          have HT := Lib.hid (takeK_next (l := xl) (i := k) (z := outShape.z) (by rw [HXL.out]; exact hkn))
          have hwf := IsRow.wfd hro2 k
          have HPB := Lib.hid (show (outsR (rows.take i) ++ xl.take k).length ≤ 10000 ∧ ∀ o ∈ outsR (rows.take i) ++ xl.take k, o.n ≤ 140737488355328 from ⟨by
            have h2 := HLE.out
            rw [HX.out, List.length_append] at h2
            rw [List.length_append, List.length_take]
            omega, fun o ho => (HSB.out o (by
              rw [HX.out]
              rcases List.mem_append.1 ho with h1 | h1
              · exact List.mem_append_left _ h1
              · exact List.mem_append_right _ (List.mem_of_mem_take h1))).2.2.1⟩)
          obtain ⟨X, hX⟩ : ∃ X, X = xl.getD k outShape.z := ⟨_, rfl⟩
          rw [← hX] at d0 d1 HT hwf
          clear hX
          have HPS := Lib.hid (show outsR (rows.take i) ++ xl.take (k + 1) = (outsR (rows.take i) ++ xl.take k) ++ [X] by rw [HT.out, List.append_assoc])
          obtain ⟨Pf, hPf⟩ : ∃ Pf, Pf = outsR (rows.take i) ++ xl.take k := ⟨_, rfl⟩
          rw [← hPf] at hMap HMm HPB HPS
          clear hPf HT
          have HST := Lib.hid (shareF_step Pf X)
          obtain ⟨h0, hlk⟩ := shareF_look Pf X.host
          have hc1 := cntH_le Pf X.host
          have hb1 := bytH_le HPB.out.2 X.host
          have hP1 := HPB.out.1
          have hmm2 : m ≤ 10000 := Nat.le_trans HMm.out hP1
          have hb2 : Pf.length * 140737488355328 ≤ 10000 * 140737488355328 := Nat.mul_le_mul_right _ hP1
          generalize cntH Pf X.host = cn at *
          generalize bytH Pf X.host = bn at *
          obtain ⟨xh, xb2, xn2, xc2⟩ := X
          dsimp only at d0 d1 hwf HST hlk
          have hwl : (Lit.int .i64 xh).wf = true := by have := hwf.1; unfold I64 at this; exact WalkArith.wf_i64 this
          have hx47 : xn2 ≤ 140737488355328 := hwf.2.2.1
          have w1 : IntKind.i64.wrap ((cn : Int) + 1) = (cn : Int) + 1 := by rw [IntKind.wrap_i64]; omega
          have w2 : IntKind.i64.wrap ((bn : Int) + (xn2 : Int)) = (bn : Int) + (xn2 : Int) := by rw [IntKind.wrap_i64]; omega
          have HW12 := Lib.hid (And.intro w1 w2)
          have HBD := Lib.hid (And.intro hc1 (And.intro hb1 (And.intro hb2 hP1)))
          clear hc1 hb1 hb2 hP1 w1 w2
          go_upto_region 8 with (fail)
          have hA1 := (Below.refl wr.heap.size wr).alloc (Nat.le_refl _) (.cells #[.int .i64 xh, .slice xb2 xn2 xc2] 95)
          have PX := Blk.new wr 95 #[.int .i64 xh, .slice xb2 xn2 xc2]
          have hMap := hMap.keep hA1
          have hW := below_step hW hA1
          have hwz := Nat.le_trans hwz hA1.size
          obtain ⟨ob, hob⟩ : ∃ q, q = wr.heap.size := ⟨_, rfl⟩
          rw [← hob] at PX ⊢
          clear hA1 hob d0 d1
          generalize wr.alloc (.cells #[.int .i64 xh, .slice xb2 xn2 xc2] 95) = u at *
          obtain ⟨p0, p1, _⟩ := PX.cells2
          go_upto_region 9 with (at_lookup; go_loud (refine wpList_look_iv _ rfl _ _ 128 rfl 3 97 .i64 Try.underlying3 Try.underlying128 (Try.zeroValue97 _) mb m (shareF Pf) rfl hMap xh rfl hwl _ hlk ?_))
          have hA1 := (Below.refl u.heap.size u).alloc (Nat.le_refl _) (.cells #[.int .i64 h0, .int .i64 cn, .int .i64 bn] 97)
          have PS := Blk.new u 97 #[.int .i64 h0, .int .i64 cn, .int .i64 bn]
          have PX := PX.keep hA1
          have hMap := hMap.keep hA1
          have hW := below_step hW hA1
          have hwz := Nat.le_trans hwz hA1.size
          obtain ⟨sb, hsb⟩ : ∃ q, q = u.heap.size := ⟨_, rfl⟩
          rw [← hsb] at PS ⊢
          clear hA1 hsb p0 p1
          generalize u.alloc (.cells #[.int .i64 h0, .int .i64 cn, .int .i64 bn] 97) = t at *
          obtain ⟨p0, p1, _⟩ := PX.cells2
          obtain ⟨s0, s1, s2, _⟩ := PS.cells3
          have w1 := HW12.out.1
          have w2 := HW12.out.2
          go_wp2_with (at_mapUpdate; go_loud (refine wpList_put_i _ rfl _ _ _ 128 rfl 3 97 .i64 Try.underlying3 Try.underlying128 mb m (shareF Pf) rfl hMap (by unfold maxLen; omega) xh (.agg #[.int .i64 xh, .int .i64 ((cn : Int) + 1), .int .i64 ((bn : Int) + (xn2 : Int))]) rfl rfl hwl ?_; intro w6 hMap6 hturn6))
          have hMap7 : IMap Try.prog 3 .i64 w6 mb (m + 1) (shareF (outsR (rows.take i) ++ xl.take (k + 1))) := by rw [HPS.out, ← HST.out]; exact hMap6
          have hW7 := belowK_grown hW hW.size hturn6.grown (fun g hg => by cases hg; rw [HMB.out]; exact Nat.le_refl _)
          have HM7 := Lib.hid (show m + 1 ≤ (outsR (rows.take i) ++ xl.take (k + 1)).length by rw [HPS.out, List.length_append]; have := HMm.out; simp only [List.length_cons, List.length_nil]; omega)
          have hwz7 := Nat.le_trans hwz hturn6.grown.size
          clear hMap hMap6 hturn6 hW HMm PX PS p0 p1 s0 s1 s2 w1 w2
          go_wp2
          go_roundg (xn - (k + 1))
          case measure => omega
          case rel => exact ⟨k + 1, m + 1, by go_num, by omega, rfl, hMap7, HM7, hW7, hwz7⟩
        · obtain rfl : k = xn := by omega
          have hge : ¬ (k : Int) < (k : Int) := by omega
          have hMap2 : IMap Try.prog 3 .i64 wr mb m (shareF (outsR (rows.take (i + 1)))) := by rw [HX.out]; rw [show xl.take k = xl from List.take_of_length_le (by rw [HXL.out]; exact Nat.le_refl _)] at hMap; exact hMap
          have HM2 := Lib.hid (show m ≤ (outsR (rows.take (i + 1))).length by rw [HX.out]; have h3 := HMm.out; rw [show xl.take k = xl from List.take_of_length_le (by rw [HXL.out]; exact Nat.le_refl _)] at h3; exact h3)
          clear hMap HMm
          go_wp2
          go_roundg (N - (i + 1))
          case measure => omega
          case rel => exact ⟨i + 1, m, by go_num, by omega, rfl, hMap2, HM2, hW⟩
    · obtain rfl : i = N := by omega
      have hge : ¬ (i : Int) < (i : Int) := by omega
      have hMap2 : IMap Try.prog 3 .i64 wr mb m (shareF (outsR rows)) := by rw [List.take_of_length_le (by rw [← HN.out]; exact Nat.le_refl _)] at hMap; exact hMap
      have hmm2 : m ≤ 10000 := by have h1 := HMm.out; have h2 := outsR_le (rows := rows) i; have h3 := HM.out; omega
      have HLP := Lib.hid (HM.out)
      clear hMap HMm HM HR HWF h
      obtain ⟨P, hP⟩ : ∃ P, P = outsR rows := ⟨_, rfl⟩
      rw [← hP] at hMap2 HLP
      have HPP := Lib.hid hP
      clear hP
      go_wp2_with (at_range; go_loud (refine wpList_range_i _ rfl _ 128 rfl 3 97 .i64 Try.underlying3 Try.underlying128 mb m (shareF P) rfl hMap2 ?_; intro w0 cnt hrg0 hg0 hs0 hcn))
      have hW0 := belowK_grown hW hW.size hg0 (fun g hg => by cases hg)
      obtain ⟨rb, hrb⟩ : ∃ q, q = wr.heap.size := ⟨_, rfl⟩
      rw [← hrb] at hrg0 ⊢
      have hrw : w.heap.size ≤ rb := by rw [hrb]; exact hW.size
      have hcn2 : cnt ≤ 10000 := by omega
      clear hs0 hg0 hMap2 hrb hW hcn
      have HMET := Lib.hid (met_start (fun x => (shareF P x).isSome))
      have HMEM := Lib.hid (show ∀ y, (fun x => (shareF P x).isSome) y = true ↔ y ∈ hostsOf P from fun y => by
        dsimp only
        unfold shareF
        by_cases hy : y ∈ hostsOf P <;> simp [hy])
      generalize (fun x => (shareF P x).isSome) = mem at *
      clear wr
      go_loopg [8, 10] cnt (fun gk s8 s10 wr => ∃ (left : Int → Bool) (ks : List Int) (out : List Sh) (ct : Nat), gk = ct ∧ IRange Try.prog 3 .i64 wr mb rb m (shareF P) left ct ∧ Hid (Met mem left ks) ∧ Hid (out = ks.map (shOf P)) ∧ Hid (out.length + ct ≤ cnt) ∧ wr.ownsRow w.heap.size 97 3 s8 out.length (shShape.flat out) ∧ Below w.heap.size w wr)
      case atStart => exact ⟨mem, [], [], cnt, rfl, hrg0, HMET, Lib.hid rfl, Lib.hid (by simp), World.ownsRow_nil _ _ _ 3, hW0⟩
      case round =>
        clear hrg0 hW0 HMET
        obtain ⟨left, ks, out, ct, hgk, hrg, HMET, HOUT, HCT, hO, hW⟩ := hrel
        subst hgk
        obtain ⟨Ao, co, rfl⟩ := ownK_sl hO
        have hV : ∀ x v, shareF P x = some v → ∃ c : Sh, v = shV c := fun x v hx => ⟨_, (shareF_some hx).1⟩
        go_wp2_with (at_next; go_loud (refine wpList_next_i _ rfl _ rfl 3 .i64 Try.underlying3 shV mb rb m (shareF P) hV left gk rfl hrg ?_ ?_))
        · intro hl0
          have HK := Lib.hid (show ∀ h, h ∈ ks ↔ h ∈ hostsOf P from fun h => ⟨fun hh => (HMEM.out h).1 (HMET.out.sub h hh), fun hh => HMET.out.all hl0 ((HMEM.out h).2 hh)⟩)
          have hol : out.length < 4611686018427387904 := by have := HCT.out; omega
          have CS := sort_own shShape Try.sortShares 97 Try.isAgg97 Try.sizeOf97 shCmp shCmp_swo 67 (enters_of Try.func67 (by kernel_rfl) rfl) shares_closure out hO hol
          change Calls Try.prog 66 _ _ _ at CS
          have HLOW := Lib.hid (fun g hg => (hO.lt g hg).1)
          clear hrg hO hl0 hV
          go_wp2_with fail
          refine CS.mono ?_; rintro e w2 ⟨rfl, o, ho1, ho2, hO2, hg2⟩
          have hW2 := belowK_grown hW hW.size hg2 HLOW.out
          obtain ⟨K, hK, hoK⟩ := sorted_keys (f := Sh.host) (g := shOf P) (fun k => rfl) HMET.out.nodup HK.out (by rw [← HOUT.out]; exact ho2) (ho1.imp (fun {a b} hab => by rw [shCmp_lt] at hab; simpa using hab))
          have HR := Lib.hid (show SharesOut w w2 (.slice Ao out.length co) P from ⟨K, hK, by
            have e1 : out.length = K.length := by rw [← ho2.length_eq, hoK, List.length_map]
            rw [← e1, ← hoK]; exact hO2⟩)
          clear CS hO2 hg2 ho1 ho2 hK hoK hW
          go_wp2
          go_ret
          exact ⟨⟨_, rfl, by rw [← HPP.out]; exact HR.out⟩, hW2⟩
        · intro x cc w1 cnt1 hlx hfx hwx hrg1 hlt hg1 hs1 hen
          have hcc : cc = shOf P x := shV_inj (shareF_some hfx).1
          have HN := Lib.hid (show out ++ [cc] = (ks ++ [x]).map (shOf P) by rw [List.map_append, HOUT.out, hcc]; rfl)
          have HMET1 := Lib.hid (HMET.out.step hlx)
          have hO1 := hO.kept hg1 (.inr (fun e => irange_ne hrg hO e.symm))
          have hW1 := belowK_grown hW hW.size hg1 (fun g hg => by cases hg; exact hrw)
          have hol : out.length ≤ 10000 := by have := HCT.out; omega
          have HCT1 := Lib.hid (show (out ++ [cc]).length + cnt1 ≤ cnt by rw [List.length_append]; have := HCT.out; simp only [List.length_cons, List.length_nil]; omega)
          clear hcc hfx hrg hO hW hg1 hs1 HMET HOUT HCT hlx hV hwx
          obtain ⟨s0, s1, s2⟩ := cc
          dsimp only [shV] at hen ⊢
          go_upto_region 16 with (fail)
          have hA1 := (Below.refl w1.heap.size w1).alloc (Nat.le_refl _) (.cells #[.int .i64 s0, .int .i64 s1, .int .i64 s2] 97)
          have PS := Blk.new w1 97 #[.int .i64 s0, .int .i64 s1, .int .i64 s2]
          have hrg2 := hrg1.keep hA1
          have hO2 := ownK_keep hO1 hA1
          have hW2 := below_step hW1 hA1
          obtain ⟨sb, hsb⟩ : ∃ q, q = w1.heap.size := ⟨_, rfl⟩
          rw [← hsb] at PS ⊢
          clear hA1 hsb hen hrg1 hO1 hW1
          generalize w1.alloc (.cells #[.int .i64 s0, .int .i64 s1, .int .i64 s2] 97) = t at *
          obtain ⟨q0, q1, q2, _⟩ := PS.cells3
          have hts := hW2.size
          go_wp2_with (at_builtin; go_loud (refine wpList_append_any _ rfl (.tmp 58) (.tmp 60) _ rfl w.heap.size 97 iI _ 3 24 Try.underlying91 hiI hzI hzI1 hzI2 rfl (by decide) _ out.length (shShape.flat out) rfl (hO2.alloc _) _ (some ⟨t.heap.size, 0, none⟩) 1 1 [.int .i64 s0, .int .i64 s1, .int .i64 s2] rfl (readsK_new t 97 3 [.int .i64 s0, .int .i64 s1, .int .i64 s2] rfl) (by intro u hu; simp at hu; rcases hu with rfl | rfl | rfl <;> rfl) (by simp only [maxLen]; omega) (by omega) (by simp; omega) ?_; intro v6 w6 hown6 hg6 hat6))
          have hrg3 := hrg2.keep ((Below.refl t.heap.size t).alloc (Nat.le_refl _) (.cells #[.int .i64 s0, .int .i64 s1, .int .i64 s2] 97))
          have hO3 := hO2.alloc (.cells #[.int .i64 s0, .int .i64 s1, .int .i64 s2] 97)
          have hrg6 := hrg3.grown hg6 (imap_ne hrg3.map hO3) (irange_ne hrg3 hO3)
          have hown7 : w6.ownsRow w.heap.size 97 3 v6 (out ++ [(⟨s0, s1, s2⟩ : Sh)]).length (shShape.flat (out ++ [⟨s0, s1, s2⟩])) := by rw [List.length_append, shShape.flat_snoc]; exact hown6
          have hW6 := belowK_grown (hW2.alloc hts (.cells #[.int .i64 s0, .int .i64 s1, .int .i64 s2] 97)) (by simp; omega) hg6 (fun g hg => (hO2.lt g hg).1)
          clear hown6 hg6 hat6 hO2 hO3 hrg2 hrg3 hW2 PS q0 q1 q2
          go_wp2
          go_roundg cnt1
          case measure => omega
          case rel => exact ⟨_, ks ++ [x], out ++ [⟨s0, s1, s2⟩], cnt1, rfl, hrg6, HMET1, HN, HCT1, hown7, hW6⟩
end Go.Proofs.Ytcpfekhpbjkgeaa
end
section
/- trace.Errs: how often each error was told. -/
set_option linter.unusedVariables false
namespace Go.Proofs.Ytcpfekhpbjkgeaa
open Go.RowKit Go.Maps Go.Sort Go.Shelf
set_option maxHeartbeats 8000000
set_option maxRecDepth 100000
structure Pr where
  a : Int
  b : Int
  deriving Inhabited
def prShape : Shape Pr where
  z := ⟨0, 0⟩
  size := 2
  cells := fun x => [.int .i64 x.a, .int .i64 x.b]
  Wf := fun _ => True
  pos := by decide
  len := fun _ => rfl
  one := fun x u hu => by
    simp at hu
    rcases hu with rfl | rfl <;> rfl
  zwf := trivial
def cntE (E : List Int) (e : Int) : Nat := E.count e
def prOf (E : List Int) (e : Int) : Pr := ⟨e, cntE E e⟩
def errF (E : List Int) : Int → Option Value := fun e => if e ∈ E then some (.int .i64 (cntE E e)) else none
theorem errF_nil : errF [] = fun _ => none := by funext h; unfold errF; simp
theorem errF_look (E : List Int) (e : Int) : (errF E e).getD (.int .i64 0) = .int .i64 (cntE E e) := by
  unfold errF
  by_cases h : e ∈ E
  · rw [if_pos h]; rfl
  · rw [if_neg h]
    unfold cntE
    rw [List.count_eq_zero.2 h]; rfl
theorem cntE_snoc (E : List Int) (e x : Int) : cntE (E ++ [e]) x = cntE E x + if e = x then 1 else 0 := by
  unfold cntE
  rw [List.count_append, List.count_cons, List.count_nil]
  by_cases h : e = x <;> simp [h]
theorem errF_step (E : List Int) (e : Int) : putF (errF E) e (.int .i64 ((cntE E e : Int) + 1)) = errF (E ++ [e]) := by
  funext x
  unfold putF errF
  by_cases h : x = e
  · subst h
    rw [if_pos rfl, if_pos (by simp), cntE_snoc, if_pos rfl]; simp
  · rw [if_neg h, cntE_snoc, if_neg (show ¬ e = x from fun q => h q.symm)]
    by_cases hh : x ∈ E
    · rw [if_pos hh, if_pos (by simp [hh])]; simp
    · rw [if_neg hh, if_neg (by simp [hh, h])]
theorem errF_some {E : List Int} {x : Int} {v : Value} (h : errF E x = some v) : v = .int .i64 (prOf E x).b ∧ x ∈ E := by
  unfold errF at h
  split at h
  · cases h; exact ⟨rfl, by assumption⟩
  · cases h
def errsR (rows : List RV) : List Int := rows.map (·.told.err)
theorem errsR_next {rows : List RV} {i : Nat} (h : i < rows.length) : errsR (rows.take (i + 1)) = errsR (rows.take i) ++ [(rows.getD i rvShape.z).told.err] := by
  rw [takeK_next (z := rvShape.z) h]; unfold errsR; rw [List.map_append]; rfl
def prCmp (x y : Pr) : Int := cmpK x.a y.a
theorem prCmp_lt (x y : Pr) : ltOf prCmp x y = decide (x.a < y.a) := by
  unfold ltOf prCmp
  simp only [cmpK_lt]
theorem prCmp_swo : SWO (ltOf prCmp) where
  irrefl x := by rw [prCmp_lt]; simp
  trans x y z h1 h2 := by rw [prCmp_lt] at *; simp at *; omega
  ntrans x y z h1 h2 := by rw [prCmp_lt] at *; simp at *; omega
theorem errs_closure (x y : Pr) (W : World) : Calls Try.prog 70 #[.agg (prShape.cells x).toArray, .agg (prShape.cells y).toArray] W fun e w' => e = .returned (.int .i64 (prCmp x y)) ∧ ∃ q os', w' = grow (W.drewN q) os' := by
  have hcon := fun W' => compareK_int x.a y.a W'
  have HS := Lib.hid (show prCmp x y = cmpK x.a y.a from rfl)
  generalize prCmp x y = C at *
  obtain ⟨x0, x1⟩ := x
  obtain ⟨y0, y1⟩ := y
  dsimp only [prShape] at *
  go_enter Try.func70, Try.ntmps70
  go_wp2_with fail
  refine (hcon _).mono ?_; rintro e w1 ⟨rfl, rfl⟩
  clear hcon
  go_wp2
  go_ret
  exact ⟨by rw [HS.out]; rfl, 0, _, by rw [alloc_eq_grow, alloc_eq_grow, grow_grow]; rfl⟩
def ErrsOut (w w' : World) (v : Value) (E : List Int) : Prop := ∃ K, KeysOf K E ∧ w'.ownsRow w.heap.size 103 2 v K.length (prShape.flat (K.map (prOf E)))
theorem Try.infoPair : (Try.prog.info? 103).map (fun i => (i.zero, i.size, i.bytes)) = some (some (.agg #[.int .i64 0, .int .i64 0]), 2, 16) := by kernel_rfl
theorem log_Errs {w : World} {B : Nat} {pv : Value} {rows : List RV} (h : LogOr w B pv rows) (hr : ∀ r ∈ rows, I64 r.told.err) (hn : rows.length ≤ 1000) :
    Calls Try.prog 45 #[pv] w fun e w' => (∃ v, e = .returned v ∧ ErrsOut w w' v (errsR rows)) ∧ Below w.heap.size w w' := by
  obtain ⟨iI, hiI, hzI, hzI1, hzI2⟩ := info_parts Try.infoPair
  have HR := Lib.hid (fun (i : Nat) (hi : i < rows.length) => (show I64 (rows.getD i rvShape.z).told.err from hr _ (by
    rw [List.getD_eq_getElem?_getD, List.getElem?_eq_getElem hi]; exact List.getElem_mem _)))
  have hmm := @run_makeMap Try.prog
  have hA := (Below.refl w.heap.size w).alloc (Nat.le_refl _) (.map #[] 0)
  have hM0 : IMap Try.prog 28 .i64 (w.alloc (.map #[] 0)) w.heap.size 0 (errF []) := by rw [errF_nil]; exact IMap.made Try.prog 28 .i64 w
  obtain ⟨N, hN⟩ : ∃ N, N = rows.length := ⟨_, rfl⟩
  have HN := Lib.hid hN
  have h1 := h.keep hA
  have CL := logOr_Len h1
  rw [← hN] at CL hn
  clear hN hr h1
  go_enter Try.func45, Try.ntmps45
  go_upto_region 2 with (fail)
  obtain ⟨mb, hmb⟩ : ∃ b, b = w.heap.size := ⟨_, rfl⟩
  rw [← hmb] at hM0 ⊢
  have HMB := Lib.hid hmb
  clear hmb hmm
  generalize w.alloc (.map #[] 0) = u at *
  go_wp2_with fail
  refine CL.mono ?_; rintro e w1 ⟨rfl, rfl⟩
  clear CL
  go_wp2_with fail
  go_loopg [4, 11] N (fun gk s4 s11 wr => ∃ (i : Nat), s11 = .int .i64 i ∧ i ≤ N ∧ gk = N - i ∧ IMap Try.prog 28 .i64 wr mb i (errF (errsR (rows.take i))) ∧ Below w.heap.size w wr)
  case atStart => exact ⟨0, by go_num, Nat.zero_le _, rfl, hM0, hA⟩
  case round =>
    clear hM0 hA
    obtain ⟨i, rfl, hi, rfl, hMap, hW⟩ := hrel
    by_cases hin : i < N
    · have hii : (i : Int) < (N : Int) := by omega
      rcases h with ⟨_, h0⟩ | ⟨b, v, rfl, hL0⟩
      · rw [h0] at HN; have := HN.out; simp at this; omega
      obtain ⟨A, c, rfl⟩ := ownK_sl hL0.own
      have hcap := ownK_cap hL0.own
      rw [← HN.out] at hcap
      have hL := hL0.keep hW
      obtain ⟨ad, rfl, hT⟩ := log_at hL (by rw [← HN.out]; exact hin)
      have hL : IsLog wr B b (.slice (some ad) N c) rows := by rw [HN.out]; exact hL
      obtain ⟨g0, _⟩ := hL.blk.cells1
      have hwf := HR.out i (by rw [← HN.out]; exact hin)
      have HX := Lib.hid (errsR_next (rows := rows) (i := i) (by rw [← HN.out]; exact hin))
      obtain ⟨X, hX⟩ : ∃ X, X = rows.getD i rvShape.z := ⟨_, rfl⟩
      rw [← hX] at hT hwf HX
      clear hX hL0
      obtain ⟨_, t1, _⟩ := hT
      generalize X.told.err = xe at *
      have HST := Lib.hid (errF_step (errsR (rows.take i)) xe)
      have hlk := errF_look (errsR (rows.take i)) xe
      have hc1 : cntE (errsR (rows.take i)) xe ≤ 1000 := by
        have h1 : cntE (errsR (rows.take i)) xe ≤ (errsR (rows.take i)).length := List.count_le_length
        unfold errsR at h1
        rw [List.length_map, List.length_take] at h1
        unfold errsR; omega
      obtain ⟨E, hE⟩ : ∃ E, E = errsR (rows.take i) := ⟨_, rfl⟩
      rw [← hE] at HST hlk hc1 hMap HX
      clear hE
      generalize cntE E xe = cn at *
      have hwl : (Lit.int .i64 xe).wf = true := by unfold I64 at hwf; exact WalkArith.wf_i64 hwf
      have w1 : IntKind.i64.wrap ((cn : Int) + 1) = (cn : Int) + 1 := by rw [IntKind.wrap_i64]; omega
      have hwn : (Lit.int .i64 ((cn : Int) + 1)).wf = true := WalkArith.wf_i64 (by omega)
      clear hwf
      go_wp2_with (first | (at_lookup; go_loud (refine wpList_look_iv _ rfl _ _ 134 rfl 28 3 .i64 Try.underlying28 Try.underlying134 (Try.zeroValue3 _) mb i (errF E) rfl hMap xe rfl hwl _ hlk ?_)) | (at_mapUpdate; go_loud (refine wpList_put_i _ rfl _ _ _ 134 rfl 28 3 .i64 Try.underlying28 Try.underlying134 mb i (errF E) rfl hMap (by unfold maxLen; omega) xe (.int .i64 ((cn : Int) + 1)) rfl rfl hwl ?_; intro w6 hMap6 hturn6)))
      have hMap7 : IMap Try.prog 28 .i64 w6 mb (i + 1) (errF (errsR (rows.take (i + 1)))) := by rw [HX.out, ← HST.out]; exact hMap6
      have hW7 := belowK_grown hW hW.size hturn6.grown (fun g hg => by cases hg; rw [HMB.out]; exact Nat.le_refl _)
      clear hMap hMap6 hturn6 hW w1 t1 g0 hL
      go_wp2
      go_roundg (N - (i + 1))
      case measure => omega
      case rel => exact ⟨i + 1, by go_num, by omega, rfl, hMap7, hW7⟩
    · obtain rfl : i = N := by omega
      have hge : ¬ (i : Int) < (i : Int) := by omega
      have hMap2 : IMap Try.prog 28 .i64 wr mb i (errF (errsR rows)) := by rw [List.take_of_length_le (by rw [← HN.out]; exact Nat.le_refl _)] at hMap; exact hMap
      clear hMap HR h
      obtain ⟨E, hE⟩ : ∃ E, E = errsR rows := ⟨_, rfl⟩
      rw [← hE] at hMap2
      have HEE := Lib.hid hE
      clear hE
      go_wp2_with (at_range; go_loud (refine wpList_range_i _ rfl _ 134 rfl 28 3 .i64 Try.underlying28 Try.underlying134 mb i (errF E) rfl hMap2 ?_; intro w0 cnt hrg0 hg0 hs0 hcn))
      have hW0 := belowK_grown hW hW.size hg0 (fun g hg => by cases hg)
      obtain ⟨rb, hrb⟩ : ∃ q, q = wr.heap.size := ⟨_, rfl⟩
      rw [← hrb] at hrg0 ⊢
      have hrw : w.heap.size ≤ rb := by rw [hrb]; exact hW.size
      have hcn2 : cnt ≤ 10000 := by omega
      clear hs0 hg0 hMap2 hrb hW hcn
      have HMET := Lib.hid (met_start (fun x => (errF E x).isSome))
      have HMEM := Lib.hid (show ∀ y, (fun x => (errF E x).isSome) y = true ↔ y ∈ E from fun y => by
        dsimp only
        unfold errF
        by_cases hy : y ∈ E <;> simp [hy])
      generalize (fun x => (errF E x).isSome) = mem at *
      clear wr
      go_loopg [5, 6, 7] cnt (fun gk s5 s6 s7 wr => ∃ (left : Int → Bool) (ks : List Int) (out : List Pr) (ct : Nat), gk = ct ∧ IRange Try.prog 28 .i64 wr mb rb i (errF E) left ct ∧ Hid (Met mem left ks) ∧ Hid (out = ks.map (prOf E)) ∧ Hid (out.length + ct ≤ cnt) ∧ wr.ownsRow w.heap.size 103 2 s5 out.length (prShape.flat out) ∧ Below w.heap.size w wr)
      case atStart => exact ⟨mem, [], [], cnt, rfl, hrg0, HMET, Lib.hid rfl, Lib.hid (by simp), World.ownsRow_nil _ _ _ 2, hW0⟩
      case round =>
        clear hrg0 hW0 HMET
        obtain ⟨left, ks, out, ct, hgk, hrg, HMET, HOUT, HCT, hO, hW⟩ := hrel
        subst hgk
        obtain ⟨Ao, co, rfl⟩ := ownK_sl hO
        have hV : ∀ x v, errF E x = some v → ∃ c : Int, v = Value.int .i64 c := fun x v hx => ⟨_, (errF_some hx).1⟩
        go_wp2_with (at_next; go_loud (refine wpList_next_i _ rfl _ rfl 28 .i64 Try.underlying28 (Value.int .i64) mb rb i (errF E) hV left gk rfl hrg ?_ ?_))
        · intro hl0
          have HK := Lib.hid (show ∀ h, h ∈ ks ↔ h ∈ E from fun h => ⟨fun hh => (HMEM.out h).1 (HMET.out.sub h hh), fun hh => HMET.out.all hl0 ((HMEM.out h).2 hh)⟩)
          have hol : out.length < 4611686018427387904 := by have := HCT.out; omega
          have CS := sort_own prShape Try.sortPairs 103 Try.isAgg103 Try.sizeOf103 prCmp prCmp_swo 70 (enters_of Try.func70 (by kernel_rfl) rfl) errs_closure out hO hol
          change Calls Try.prog 69 _ _ _ at CS
          have HLOW := Lib.hid (fun g hg => (hO.lt g hg).1)
          clear hrg hO hl0 hV
          go_wp2_with fail
          refine CS.mono ?_; rintro e w2 ⟨rfl, o, ho1, ho2, hO2, hg2⟩
          have hW2 := belowK_grown hW hW.size hg2 HLOW.out
          obtain ⟨K, hK, hoK⟩ := sorted_keys (f := Pr.a) (g := prOf E) (fun k => rfl) HMET.out.nodup HK.out (by rw [← HOUT.out]; exact ho2) (ho1.imp (fun {a b} hab => by rw [prCmp_lt] at hab; simpa using hab))
          have HR := Lib.hid (show ErrsOut w w2 (.slice Ao out.length co) E from ⟨K, hK, by
            have e1 : out.length = K.length := by rw [← ho2.length_eq, hoK, List.length_map]
            rw [← e1, ← hoK]; exact hO2⟩)
          clear CS hO2 hg2 ho1 ho2 hK hoK hW
          go_wp2
          go_ret
          exact ⟨⟨_, rfl, by rw [← HEE.out]; exact HR.out⟩, hW2⟩
        · intro x cc w1 cnt1 hlx hfx hwx hrg1 hlt hg1 hs1 hen
          have hcc : (⟨x, cc⟩ : Pr) = prOf E x := by
            have h1 := (errF_some hfx).1
            injection h1 with _ h1
            rw [h1]; rfl
          have HN := Lib.hid (show out ++ [⟨x, cc⟩] = (ks ++ [x]).map (prOf E) by rw [List.map_append, HOUT.out, hcc]; rfl)
          have HMET1 := Lib.hid (HMET.out.step hlx)
          have hO1 := hO.kept hg1 (.inr (fun e => irange_ne hrg hO e.symm))
          have hW1 := belowK_grown hW hW.size hg1 (fun g hg => by cases hg; exact hrw)
          have hol : out.length ≤ 10000 := by have := HCT.out; omega
          have HCT1 := Lib.hid (show (out ++ [(⟨x, cc⟩ : Pr)]).length + cnt1 ≤ cnt by rw [List.length_append]; have := HCT.out; simp only [List.length_cons, List.length_nil]; omega)
          clear hcc hfx hrg hO hW hg1 hs1 HMET HOUT HCT hlx hV hwx
          have hts := hW1.size
          go_wp2_with (at_builtin; go_loud (refine wpList_append_any _ rfl (.tmp 34) (.tmp 38) _ rfl w.heap.size 103 iI _ 2 16 Try.underlying99 hiI hzI hzI1 hzI2 rfl (by decide) _ out.length (prShape.flat out) rfl (hO1.alloc _) _ (some ⟨w1.heap.size, 0, none⟩) 1 1 [.int .i64 x, .int .i64 cc] rfl (readsK_new w1 103 2 [.int .i64 x, .int .i64 cc] rfl) (by intro u hu; simp at hu; rcases hu with rfl | rfl <;> rfl) (by simp only [maxLen]; omega) (by omega) (by simp; omega) ?_; intro v6 w6 hown6 hg6 hat6))
          have hrg3 := hrg1.keep ((Below.refl w1.heap.size w1).alloc (Nat.le_refl _) (.cells #[.int .i64 x, .int .i64 cc] 103))
          have hO3 := hO1.alloc (.cells #[.int .i64 x, .int .i64 cc] 103)
          have hrg6 := hrg3.grown hg6 (imap_ne hrg3.map hO3) (irange_ne hrg3 hO3)
          have hown7 : w6.ownsRow w.heap.size 103 2 v6 (out ++ [(⟨x, cc⟩ : Pr)]).length (prShape.flat (out ++ [⟨x, cc⟩])) := by rw [List.length_append, prShape.flat_snoc]; exact hown6
          have hW6 := belowK_grown (hW1.alloc hts (.cells #[.int .i64 x, .int .i64 cc] 103)) (by simp; omega) hg6 (fun g hg => (hO1.lt g hg).1)
          clear hown6 hg6 hat6 hO1 hO3 hrg1 hrg3 hW1 hen
          go_wp2
          go_roundg cnt1
          case measure => omega
          case rel => exact ⟨_, ks ++ [x], out ++ [⟨x, cc⟩], cnt1, rfl, hrg6, HMET1, HN, HCT1, hown7, hW6⟩
end Go.Proofs.Ytcpfekhpbjkgeaa
end
