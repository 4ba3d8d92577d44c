/- TreeLooks. -/
import Derived.Test.YtdkijmiflommeaaTreeO1
import Derived.Deep.RegionWith
set_option linter.unusedVariables false
namespace Go.Proofs.Ytdkijmiflommeaa
open Go.RowKit
set_option maxHeartbeats 8000000
set_option maxRecDepth 100000
theorem idxF_snoc (p : Nd → Bool) (xs : List Nd) (y : Nd) : idxF p (xs ++ [y]) = if xs.any p = true then idxF p xs else if p y = true then (xs.length : Int) else -1 := by
  by_cases hz : xs.any p = true
  · rw [if_pos hz]
    unfold idxF
    have : xs.findIdx? p ≠ none := by
      rw [ne_eq, List.findIdx?_eq_none_iff]
      intro h
      obtain ⟨x, hx, hp⟩ := List.any_eq_true.1 hz
      have := h x hx
      rw [hp] at this
      cases this
    rw [List.findIdx?_append]
    cases h : xs.findIdx? p with
    | none => exact absurd h this
    | some k => rfl
  · rw [if_neg hz]
    have e : xs.findIdx? p = none := by
      rw [List.findIdx?_eq_none_iff]
      intro x hx
      cases hp : p x with
      | false => rfl
      | true => exact absurd (List.any_eq_true.2 ⟨x, hx, hp⟩) hz
    unfold idxF
    rw [List.findIdx?_append, e]
    cases hp : p y <;> simp [List.findIdx?_cons, hp]
theorem idxF_none {p : Nd → Bool} {xs : List Nd} (h : ¬ xs.any p = true) : idxF p xs = -1 := by
  unfold idxF
  have e : xs.findIdx? p = none := by
    rw [List.findIdx?_eq_none_iff]
    intro x hx
    cases hp : p x with
    | false => rfl
    | true => exact absurd (List.any_eq_true.2 ⟨x, hx, hp⟩) h
  rw [e]
theorem find_step {l : List Nd} (h : Tall l) (s : ByteArray) (k : Nat) (hk : k < l.length) :
    idxF (fun x => sameName x.name s) (l.take (k + 1)) = if sameName (l.getD k nd0).name s = true then (k : Int) else idxF (fun x => sameName x.name s) (l.take k) := by
  rw [take_snocN l k hk, idxF_snoc, List.length_take, Nat.min_eq_left (by omega)]
  by_cases hp : sameName (l.getD k nd0).name s = true
  · have hn : ¬ (l.take k).any (fun x => sameName x.name s) = true := by
      intro ha
      obtain ⟨y, hy, hpy⟩ := List.any_eq_true.1 ha
      have h1 := (whyC_ok (h k hk)).1
      have h2 := (whyC_ok (h k hk)).2.1
      have h3 : (l.take k).any (twice (l.getD k nd0)) = true := by
        rw [List.any_eq_true]
        refine ⟨y, hy, ?_⟩
        unfold twice
        unfold sameName at hp hpy ⊢
        simp only [beq_iff_eq] at hp hpy
        rw [hp, hpy]
        simp
      rw [rightC_twice h1 h3] at h2
      cases h2
    rw [if_neg hn, if_pos hp, if_pos hp]
  · rw [if_neg hp, if_neg hp]
    by_cases ha : (l.take k).any (fun x => sameName x.name s) = true
    · rw [if_pos ha]
    · rw [if_neg ha, idxF_none ha]
/-- The node asked for, as it is come by. -/
def wantTo (l : List Nd) (i : Int) (k : Nat) : Nd := if i < k then ndAt l i else nd0
theorem want_step (l : List Nd) (i : Int) (k : Nat) : wantTo l i (k + 1) = if (k : Int) = i then l.getD k nd0 else wantTo l i k := by
  unfold wantTo
  by_cases h : (k : Int) = i
  · subst h
    rw [if_pos (by omega), if_pos rfl, ndAt_nat]
  · rw [if_neg h]
    by_cases h2 : i < k
    · rw [if_pos h2, if_pos (by omega)]
    · rw [if_neg h2, if_neg (by omega)]
theorem want_all (l : List Nd) (i : Int) : wantTo l i l.length = ndAt l i := by
  unfold wantTo
  split
  · rfl
  · rw [ndAt_out l i (by omega)]
def kidsTo (l : List Nd) (i : Int) (k : Nat) : List Int := if 0 ≤ i then idx (under_ i.toNat) (l.take k) else []
theorem kids_step (l : List Nd) (i : Int) (k : Nat) (hk : k < l.length) : kidsTo l i (k + 1) = kidsTo l i k ++ if (l.getD k nd0).above = i ∧ 0 ≤ i then [(k : Int)] else [] := by
  unfold kidsTo
  by_cases h : 0 ≤ i
  · rw [if_pos h, if_pos h, idx_take _ l k hk]
    congr 1
    unfold under_
    by_cases e : (l.getD k nd0).above = i
    · rw [if_pos (by rw [e]; simp; omega), if_pos ⟨e, h⟩]
    · rw [if_neg (by rw [show ((i.toNat : Nat) : Int) = i by omega]; simpa using e), if_neg (by rintro ⟨h1, _⟩; exact e h1)]
  · rw [if_neg h, if_neg h, if_neg (by rintro ⟨_, h1⟩; exact h h1)]; rfl
theorem kids_all {l : List Nd} (h : Rises l) (i : Int) : kidsTo l i l.length = kidsOf l i := by
  unfold kidsTo kidsOf
  rw [List.take_length]
  by_cases h0 : 0 ≤ i
  · rw [if_pos h0]
    by_cases h1 : i < l.length
    · rw [if_pos ⟨h0, h1⟩]
    · rw [if_neg (by omega)]
      apply List.eq_nil_of_length_eq_zero
      rw [idx_count, List.countP_eq_zero]
      intro x hx
      obtain ⟨j, hj, rfl⟩ := List.mem_iff_getElem.1 hx
      have := h j hj
      rw [List.getD_eq_getElem?_getD, List.getElem?_eq_getElem hj] at this
      simp only [Option.getD_some] at this
      unfold under_
      simp only [beq_iff_eq]
      omega
  · rw [if_neg h0, if_neg (by omega)]
theorem kids_le (l : List Nd) (i : Int) (k : Nat) : (kidsTo l i k).length ≤ l.length := by
  unfold kidsTo
  split
  · refine Nat.le_trans (idx_le _ _) ?_
    rw [List.length_take]; omega
  · simp
theorem idxTake_le (p : Nd → Bool) (l : List Nd) (k : Nat) : (idx p (l.take k)).length ≤ l.length := by
  refine Nat.le_trans (idx_le _ _) ?_
  rw [List.length_take]; omega
theorem same_self {A A' : Option Addr} {n n' c c' : Nat} {l : List Int} {w : World} (h : IsList w .i64 A n c l) (h' : IsList w .i64 A' n' c' l) : Calls Try.prog 25 #[.slice A n c, .slice A' n' c'] w fun e w' => e = .returned (.bool true) ∧ Below w.heap.size w w' := by
  have := law16_same h h'
  rwa [decide_eq_true rfl] at this
theorem treeLooks_walk (w : World) (A : Option Addr) (n0 c : Nat) (l0 : List Nd) (hl0 : IsNodes w A n0 c l0) (i : Int) (i0 : -9223372036854775808 ≤ i) (i1 : i ≤ 9223372036854775807) (s : ByteArray) (hs : s.size ≤ maxLen) :
    Calls Try.prog 4 #[.slice A n0 c, .int .i64 i, .string s] w fun e w' => e = .returned (.bool true) ∧ Below w.heap.size w w' := by
  obtain ⟨iI, hiI, hzI, hzI1, hzI2⟩ := info_parts Try.infoI
  have hmd := law_Made w A n0 c l0 hl0
  have ht0 := Lib.hid (made_tall (l0.take 60))
  have hl60 : (made (l0.take 60)).length ≤ 60 := Nat.le_trans (made_len _) (by rw [List.length_take]; omega)
  generalize made (l0.take 60) = l at *
  clear hl0
  go_enter Try.func4, Try.ntmps4
  go_wp2_with fail
  refine hmd.mono ?_; rintro e w1 ⟨b, A1, c1, rfl, hT, hN, hx1⟩
  clear hmd
  have hL := tr_Len hT
  obtain ⟨n, hn⟩ : ∃ n, n = l.length := ⟨_, rfl⟩
  rw [← hn] at hN hl60 hL ⊢
  have hlen := Lib.hid hn.symm
  clear hn
  have hcap := hN.cap
  have hsm := hN.small
  have hr := tall_rises ht0.out
  go_wp2_with fail
  refine hL.mono ?_; rintro e w' ⟨rfl, rfl⟩
  go_wp2_with fail
  have hPz := Blk.new w1 34 #[.string ⟨#[]⟩, .int .i64 0, .int .i64 0, .int .i64 0, .bool false, .int .u64 0, .int .u64 0]
  have hxz : Below w1.heap.size w1 (w1.alloc (.cells #[.string ⟨#[]⟩, .int .i64 0, .int .i64 0, .int .i64 0, .bool false, .int .u64 0, .int .u64 0] 34)) := (Below.refl _ _).alloc (Nat.le_refl _) _
  refine (tr_Nodes (hT.keep hxz)).mono ?_; rintro e w2 ⟨A2, c2, rfl, hN2, hb2, hx2⟩
  rw [hlen.out] at hN2
  have hg : w1.heap.size < w2.heap.size := by have := hx2.size; simp at this; omega
  have hPw := hPz.keep hx2
  have hxw := below_step hxz hx2
  have hLS : LS w2 w1.heap.size w2 (.slice none 0 0) (.slice none 0 0) (.slice none 0 0) [] [] [] nd0 :=
    ⟨⟨World.ownsRow_nil _ _ _ _, World.ownsRow_nil _ _ _ _, World.ownsRow_nil _ _ _ _, apart_nil _, apart_nil _, apart_nil _⟩, hPw, Mod.refl _ _, hg⟩
  have hA2 : 0 < n → ∀ ad, A2 = some ad → ¬ turns w2 w1.heap.size ad.block := fun h0 ad e h => by
    have h1 := hb2 ad e
    simp at h1
    rcases h with h | h
    · omega
    · obtain ⟨ad', e', h3, _⟩ := hN2.reads.2 h0
      rw [e] at e'
      injection e' with e'
      subst e'
      omega
  have hcap2 := hN2.cap
  have hsm2 := hN2.small
  have hBW : ∀ {wr : World} {a b c : Value} {la lb lc : List Int} {z : Nd}, LS w2 w1.heap.size wr a b c la lb lc z → Below w1.heap.size w1 wr := fun h => below_thenMod hxw (Nat.le_refl _) h.hm (fun i hi => by rcases hi with hi | hi <;> omega)
  clear hPz hPw hxz hx2
  rw [hlen.out]
  go_wp2_with fail
  go_loopg [9, 10, 11, 12, 15] n (fun gg s9 s10 s11 s12 s15 wr => ∃ k : Nat, k ≤ n ∧ gg = n - k ∧ s15 = .int .i64 k ∧ s12 = .int .i64 (idxF (fun x => sameName x.name s) (l.take k)) ∧ LS w2 w1.heap.size wr s9 s10 s11 (kidsTo l i k) (idx (isK 1) (l.take k)) (idx (isK 4) (l.take k)) (wantTo l i k))
  case atStart =>
    refine ⟨0, Nat.zero_le _, rfl, rfl, rfl, ?_⟩
    have h1 : kidsTo l i 0 = [] := by unfold kidsTo; simp [idx_nil]
    have h2 : wantTo l i 0 = nd0 := by unfold wantTo; split <;> first | rfl | (rw [ndAt_out l i (by omega)])
    rw [h1, h2]
    exact hLS
  case round =>
    clear hLS
    obtain ⟨k, hk, rfl, rfl, rfl, hS⟩ := hrel
    by_cases hkn : k < n
    · have hki : (k : Int) < (n : Int) := by omega
      have hkl : k < l.length := by rw [hlen.out]; exact hkn
      have HK := Lib.hid (kids_step l i k hkl)
      have H1 := Lib.hid (idx_take (isK 1) l k hkl)
      have H4 := Lib.hid (idx_take (isK 4) l k hkl)
      have HF := Lib.hid (find_step ht0.out s k hkl)
      have HW := Lib.hid (want_step l i k)
      have hq1 := kids_le l i k
      have hq2 := idxTake_le (isK 1) l k
      have hq3 := idxTake_le (isK 4) l k
      rw [hlen.out] at hq1 hq2 hq3
      have hat := (hN.keep (hBW hS)).at_ hkn
      have hat2 := (hN2.mod hS.hm hA2).at_ hkn
      have hxw := hN.wfd k
      obtain ⟨x, hx⟩ : ∃ x, x = l.getD k nd0 := ⟨_, rfl⟩
      rw [← hx] at hat hat2 HK H1 H4 HF HW hxw
      have HX := Lib.hid hx
      clear hx
      obtain ⟨ad, rfl, hbk, d0, d1, d2, d3, d4, d5, d6⟩ := hat
      obtain ⟨ad2, rfl, hbk2, e0, e1, e2, e3, e4, e5, e6⟩ := hat2
      obtain ⟨oa, ho⟩ : ∃ o, o = kidsTo l i k := ⟨_, rfl⟩
      rw [← ho] at HK hq1 hS
      clear ho
      obtain ⟨ob, ho⟩ : ∃ o, o = idx (isK 1) (l.take k) := ⟨_, rfl⟩
      rw [← ho] at H1 hq2 hS
      clear ho
      obtain ⟨oc, ho⟩ : ∃ o, o = idx (isK 4) (l.take k) := ⟨_, rfl⟩
      rw [← ho] at H4 hq3 hS
      clear ho
      obtain ⟨fd, ho⟩ : ∃ o, o = idxF (fun x => sameName x.name s) (l.take k) := ⟨_, rfl⟩
      rw [← ho] at HF ⊢
      clear ho
      obtain ⟨z, ho⟩ : ∃ o, o = wantTo l i k := ⟨_, rfl⟩
      rw [← ho] at HW hS
      clear ho
      go_wp2_with fail
      refine wp_region_quiet_lit (by kernel_rfl) (by kernel_rfl) ?_
      iterate 8 (go_big_quiet_step (fail))
      go_big_quiet_want
      refine quiet_neq_nd (a := x) (b := x) (E := false) (by rw [sameNd_self]; rfl) rfl rfl rfl ?_
      simp only [Act.put, List.setIfInBounds_toArray, List.set_cons_zero, List.set_cons_succ]
      go_big_quiet_on
      repeat (go_big_quiet_step (fail))
      refine wpQuiet_nil ?_
      intro _ hw'
      obtain ⟨nq, hw''⟩ := hw'
      subst hw''
      replace hS := hS.drewN nq
      replace d0 : (wr.drewN nq).cell? _ = _ := d0
      replace d1 : (wr.drewN nq).cell? _ = _ := d1
      replace d2 : (wr.drewN nq).cell? _ = _ := d2
      generalize wr.drewN nq = wa at *
      clear e0 e1 e2 e3 e4 e5 e6 hbk2
      go_upto_region 15 with (fail)
      go_cut [63] (fun s63 wx => wa = wx ∧ s63 = .bool (decide (x.above = i ∧ 0 ≤ i)))
      case first =>
        by_cases ha : x.above = i
        · have g1 : (x.above == i) = true := by rw [beq_iff_eq]; exact ha
          have HE := Lib.hid (show decide (x.above = i ∧ 0 ≤ i) = decide (0 ≤ i) by simp [ha])
          clear ha
          go_wp2_with fail
          go_meet
          exact ⟨rfl, by rw [HE.out]⟩
        · have g1 : (x.above == i) = false := by rw [beq_eq_false_iff_ne]; exact ha
          have HE := Lib.hid (show decide (x.above = i ∧ 0 ≤ i) = false by simp [ha])
          clear ha
          go_wp2_with fail
          go_meet
          exact ⟨rfl, by rw [HE.out]⟩
      case rest =>
      obtain ⟨rfl, rfl⟩ := hcut
      obtain ⟨OA, hOA⟩ : ∃ O, O = kidsTo l i (k + 1) := ⟨_, rfl⟩
      rw [← hOA] at HK
      clear d0 d1 d2 d3 d4 d5 d6
      go_upto_if 63 with (fail)
      go_cut [9] (fun s9 wx => LS w2 w1.heap.size wx s9 u10 u11 OA ob oc z)
      case first =>
        by_cases hc : x.above = i ∧ 0 ≤ i
        · rw [if_pos hc] at HK
          rw [decide_eq_true hc]
          clear hc
          have hown := hS.r3.ra
          go_wp2_with (at_builtin; go_loud (refine wpList_append_any _ rfl (.tmp 64) (.tmp 66) _ rfl w2.heap.size 3 iI _ 1 8 Try.underlying40 hiI hzI hzI1 hzI2 rfl (by decide) u9 oa.length (ints oa) rfl (hown.alloc _) _ (some ⟨wa.heap.size, 0, none⟩) 1 1 [.int .i64 k] rfl (one_reads wa 3 1 [.int .i64 k] rfl) (by intro u hu; simp at hu; subst hu; rfl) (by simp only [maxLen]; omega) (by omega) (by have := hS.size; simp; omega) ?_; intro v6 w6 hown6 hg6 hat6))
          go_meet
          rw [HK.out]
          exact (hS.alloc _).push k hg6 hown6 hat6
        · rw [if_neg hc, List.append_nil] at HK
          rw [decide_eq_false hc]
          clear hc
          go_wp2_with fail
          go_meet
          rw [HK.out]
          exact hS
      case rest =>
      clear hS
      have hS := hcut
      clear hcut
      obtain ⟨wb, rfl⟩ : ∃ wb, wb = wc := ⟨_, rfl⟩
      obtain ⟨adn, en, _, d0, d1, d2, d3, d4, d5, d6⟩ := (hN.keep (hBW hS)).at_ hkn
      obtain rfl : ad = adn := by injection en
      rw [← HX.out] at d0 d1 d2 d3 d4 d5 d6
      obtain ⟨OB, hOB⟩ : ∃ O, O = idx (isK 1) (l.take (k + 1)) := ⟨_, rfl⟩
      rw [← hOB] at H1
      go_upto_if 73 with (fail)
      clear d0 d1 d2 d3 d4 d5 d6
      go_cut [10] (fun s10 wx => LS w2 w1.heap.size wx u9 s10 u11 OA OB oc z)
      case first =>
        by_cases hc : x.kind = 1
        · have g1 : (x.kind == 1) = true := by rw [beq_iff_eq]; exact hc
          rw [if_pos (by unfold isK; exact g1)] at H1
          clear hc
          have hown := hS.r3.rb
          go_wp2_with (at_builtin; go_loud (refine wpList_append_any _ rfl (.tmp 74) (.tmp 76) _ rfl w2.heap.size 3 iI _ 1 8 Try.underlying40 hiI hzI hzI1 hzI2 rfl (by decide) u10 ob.length (ints ob) rfl (hown.alloc _) _ (some ⟨wb.heap.size, 0, none⟩) 1 1 [.int .i64 k] rfl (one_reads wb 3 1 [.int .i64 k] rfl) (by intro u hu; simp at hu; subst hu; rfl) (by simp only [maxLen]; omega) (by omega) (by have := hS.size; simp; omega) ?_; intro v6 w6 hown6 hg6 hat6))
          go_meet
          rw [H1.out]
          exact ((hS.alloc _).rot.push k hg6 hown6 hat6).rot.rot
        · have g1 : (x.kind == 1) = false := by rw [beq_eq_false_iff_ne]; exact hc
          rw [if_neg (by unfold isK; simp [g1]), List.append_nil] at H1
          clear hc
          go_wp2_with fail
          go_meet
          rw [H1.out]
          exact hS
      case rest =>
      clear hS
      have hS := hcut
      clear hcut
      obtain ⟨wd, rfl⟩ : ∃ wd, wd = wc := ⟨_, rfl⟩
      obtain ⟨adn, en, _, d0, d1, d2, d3, d4, d5, d6⟩ := (hN.keep (hBW hS)).at_ hkn
      obtain rfl : ad = adn := by injection en
      rw [← HX.out] at d0 d1 d2 d3 d4 d5 d6
      obtain ⟨OC, hOC⟩ : ∃ O, O = idx (isK 4) (l.take (k + 1)) := ⟨_, rfl⟩
      rw [← hOC] at H4
      go_upto_if 83 with (fail)
      clear d0 d1 d2 d3 d4 d5 d6
      go_cut [11] (fun s11 wx => LS w2 w1.heap.size wx u9 u10 s11 OA OB OC z)
      case first =>
        by_cases hc : x.kind = 4
        · have g1 : (x.kind == 4) = true := by rw [beq_iff_eq]; exact hc
          rw [if_pos (by unfold isK; exact g1)] at H4
          clear hc
          have hown := hS.r3.rc
          go_wp2_with (at_builtin; go_loud (refine wpList_append_any _ rfl (.tmp 84) (.tmp 86) _ rfl w2.heap.size 3 iI _ 1 8 Try.underlying40 hiI hzI hzI1 hzI2 rfl (by decide) u11 oc.length (ints oc) rfl (hown.alloc _) _ (some ⟨wd.heap.size, 0, none⟩) 1 1 [.int .i64 k] rfl (one_reads wd 3 1 [.int .i64 k] rfl) (by intro u hu; simp at hu; subst hu; rfl) (by simp only [maxLen]; omega) (by omega) (by have := hS.size; simp; omega) ?_; intro v6 w6 hown6 hg6 hat6))
          go_meet
          rw [H4.out]
          exact ((hS.alloc _).rot.rot.push k hg6 hown6 hat6).rot
        · have g1 : (x.kind == 4) = false := by rw [beq_eq_false_iff_ne]; exact hc
          rw [if_neg (by unfold isK; simp [g1]), List.append_nil] at H4
          clear hc
          go_wp2_with fail
          go_meet
          rw [H4.out]
          exact hS
      case rest =>
      clear hS
      have hS := hcut
      clear hcut
      obtain ⟨we, rfl⟩ : ∃ we, we = wc := ⟨_, rfl⟩
      obtain ⟨adn, en, _, d0, d1, d2, d3, d4, d5, d6⟩ := (hN.keep (hBW hS)).at_ hkn
      obtain rfl : ad = adn := by injection en
      rw [← HX.out] at d0 d1 d2 d3 d4 d5 d6
      obtain ⟨F, hF⟩ : ∃ F, F = idxF (fun x => sameName x.name s) (l.take (k + 1)) := ⟨_, rfl⟩
      rw [← hF] at HF
      go_upto_if 94 with (fail)
      go_cut [12] (fun s12 wx => we = wx ∧ s12 = .int .i64 F)
      case first =>
        cases hc : (x.name.toList == s.toList) with
        | true =>
          rw [if_pos (by unfold sameName; exact hc)] at HF
          go_wp2_with fail
          go_meet
          exact ⟨rfl, by rw [HF.out]⟩
        | false =>
          rw [if_neg (by unfold sameName; simp [hc])] at HF
          go_wp2_with fail
          go_meet
          exact ⟨rfl, by rw [HF.out]⟩
      case rest =>
      obtain ⟨rfl, rfl⟩ := hcut
      subst hOA hOB hOC hF
      obtain ⟨z0, z1, z2, z3, z4, z5, z6, _⟩ := hS.blk.cells7
      obtain ⟨f0, f1, f2, f3, f4, f5, f6⟩ := hS.blk.free7
      by_cases hc : (k : Int) = i
      · have g1 : ((k : Int) == i) = true := by rw [beq_iff_eq]; exact hc
        rw [if_pos hc] at HW
        have hST := hS.turn x
        clear hc
        go_wp2
        go_roundg (n - (k + 1))
        case measure => omega
        case rel => exact ⟨k + 1, by omega, rfl, by go_num, rfl, by rw [HW.out]; exact hST⟩
      · have g1 : ((k : Int) == i) = false := by rw [beq_eq_false_iff_ne]; exact hc
        rw [if_neg hc] at HW
        clear hc
        go_wp2
        go_roundg (n - (k + 1))
        case measure => omega
        case rel => exact ⟨k + 1, by omega, rfl, by go_num, rfl, by rw [HW.out]; exact hS⟩
    · obtain rfl : k = n := by omega
      have e1 := kids_all hr i
      have e2 := want_all l i
      rw [hlen.out] at e1 e2
      have htl : l.take k = l := List.take_of_length_le (by rw [hlen.out]; exact Nat.le_refl _)
      rw [e1, e2, htl] at hS
      rw [htl]
      have q1 : (kidsOf l i).length ≤ k := by rw [← e1, ← hlen.out]; exact kids_le _ _ _
      have q2 := idx_le (isK 1) l
      have q3 := idx_le (isK 4) l
      rw [hlen.out] at q2 q3
      clear e1 e2 htl
      have hfw := hT.few
      have w1f : ∀ z ∈ kidsOf l i, (Lit.int .i64 z).wf = true := fun z hz => by
        unfold kidsOf at hz
        split at hz
        · exact idx_wf _ l hfw z hz
        · cases hz
      obtain ⟨A9, c9, rfl, I9, _⟩ := own_list hS.r3.ra w1f (by omega)
      obtain ⟨A10, c10, rfl, I10, _⟩ := own_list hS.r3.rb (idx_wf _ l hfw) (by omega)
      obtain ⟨A11, c11, rfl, I11, _⟩ := own_list hS.r3.rc (idx_wf _ l hfw) (by omega)
      obtain ⟨z0, z1, z2, z3, z4, z5, z6, _⟩ := hS.blk.cells7
      have hTr := hT.keep (hBW hS)
      have hWr := below_step hx1 (hBW hS)
      have hd : Below wr.heap.size wr wr.drew := Below.drew (Below.refl _ _)
      have hTd := hTr.keep hd
      have NN := fun w h => tr_Node (b := b) (l := l) (w := w) h i
      have FF := fun w h => tr_Find (b := b) (l := l) (w := w) h s
      have KK := fun w h => tr_Kids (b := b) (l := l) (w := w) h i
      obtain ⟨y, hy⟩ : ∃ y, y = ndAt l i := ⟨_, rfl⟩
      obtain ⟨z, hz⟩ : ∃ z, z = ndAt l i := ⟨_, rfl⟩
      rw [← hy] at NN
      rw [← hz] at z0 z1 z2 z3 z4 z5 z6
      have hyz : sameNd y z = true := by rw [hy, hz]; exact sameNd_self _
      have hq := fun w => run_eq_nd y z w
      have hgq := fun a b w => eqG_nd .eql a b y z w
      rw [hyz] at hq
      unfold Nd.val at NN hq hgq
      clear hy hz hyz hS hT hN hN2 hBW
      generalize idxF (fun x => sameName x.name s) l = fd at *
      go_wp2_with fail
      go_region_with (first
        | (go_at_call 24; refine (NN _ ?_).mono ?_; exact hTd; rintro e v1 ⟨rfl, hv0⟩; have hv1 : Below wr.heap.size wr v1 := below_of_drew hv0; have z0' := cell_keep z0 hv1; have z1' := cell_keep z1 hv1; have z2' := cell_keep z2 hv1; have z3' := cell_keep z3 hv1; have z4' := cell_keep z4 hv1; have z5' := cell_keep z5 hv1; have z6' := cell_keep z6 hv1)
        | (go_at_call 26; refine (KK _ ?_).mono ?_; exact hTr.keep hv1; rintro e v2 ⟨A2', c2', rfl, hI2, _, hv2⟩; have hv12 := below_step hv1 hv2)
        | (go_at_call 27; refine (tr_Levels (b := b) (l := l) ?_).mono ?_; exact hTr.keep hv13; rintro e v4 ⟨A4', c4', rfl, hI4, _, hv4⟩; have hv14 := below_step hv13 hv4)
        | (go_at_call 28; refine (tr_Hosts (b := b) (l := l) ?_).mono ?_; exact hTr.keep hv15; rintro e v6 ⟨A6', c6', rfl, hI6, _, hv6⟩; have hv16 := below_step hv15 hv6)
        | (go_at_call 29; refine (FF _ ?_).mono ?_; exact hTr.keep hv17; rintro e v8 ⟨rfl, hv8⟩; have hv18 := below_step hv17 hv8)
        | (go_at_call 20; refine (law16_awake _).mono ?_; rintro e v9 ⟨rfl, hv9⟩; have hv19 := below_step hv18 hv9)
        | (go_at_call 25; refine (same_self hI6 (I11.keep hv16)).mono ?_; rintro e v7 ⟨rfl, hv7⟩; have hv17 := below_step hv16 hv7)
        | (go_at_call 25; refine (same_self hI4 (I10.keep hv14)).mono ?_; rintro e v5 ⟨rfl, hv5⟩; have hv15 := below_step hv14 hv5)
        | (go_at_call 25; refine (same_self hI2 (I9.keep hv12)).mono ?_; rintro e v3 ⟨rfl, hv3⟩; have hv13 := below_step hv12 hv3))
      all_goals
        go_wp2
        go_ret
        exact ⟨rfl, below_step hWr hv19⟩
end Go.Proofs.Ytdkijmiflommeaa
