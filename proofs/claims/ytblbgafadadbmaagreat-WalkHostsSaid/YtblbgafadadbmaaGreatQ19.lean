/- Lemmas for the claim's proof: LoadI WalkF WalkG WalkH WalkPlain5 WalkL. -/
import Derived.Deep.DeepCutAuto
import Derived.Deep.RegionWith
import Derived.Test.YtblbgafadadbmaaGreatQ03
import Derived.Test.YtblbgafadadbmaaGreatQ13
import Derived.Test.YtblbgafadadbmaaGreatQ16
import Derived.Test.YtblbgafadadbmaaGreatQ17
import Derived.Test.YtblbgafadadbmaaGreatQ18
section
/- LoadDraws. -/
set_option linter.unusedVariables false
namespace Go.Proofs.YtblbgafadadbmaaGreat
open Go.RowKit
set_option maxHeartbeats 4000000
set_option maxRecDepth 100000
theorem pre_leB (l : List Int) : ∀ (k : Nat), (∀ j, j < k → l.getD j 0 ≤ 1048576) → pre l k ≤ 1048576 * k
  | 0, _ => by simp [pre]
  | k + 1, h => by
    have h1 := pre_leB l k (fun j hj => h j (by omega))
    have h2 := h k (by omega)
    have h3 : pos (l.getD k 0) ≤ 1048576 := by unfold pos; split <;> omega
    rw [pre]
    omega
theorem want_bd (l : List Int) (d : Int) (k : Nat) : -1 ≤ wantTo l d k ∧ wantTo l d k < k := by
  rcases want_spec l d k with ⟨e, _⟩ | ⟨i, hi, e, _⟩
  · rw [e]; omega
  · rw [e]; omega
theorem want_in {l : List Int} {d : Int} {n : Nat} (d0 : 0 ≤ d) (d1 : d < pre l n) : ∃ i : Nat, i < n ∧ wantTo l d n = i := by
  rcases want_spec l d n with ⟨e, h⟩ | ⟨i, hi, e, _⟩
  · omega
  · exact ⟨i, hi, e⟩
end Go.Proofs.YtblbgafadadbmaaGreat
end
section
/- Walker.Loads. -/
set_option linter.unusedVariables false
namespace Go.Proofs.YtblbgafadadbmaaGreat
open Go.RowKit
set_option maxHeartbeats 4000000
set_option maxRecDepth 100000
theorem ofI_wf (H A : List Int) (f : Int) (n : Nat) : ∀ z ∈ (List.range n).map (ofI H A f n), (Lit.int .i64 z).wf = true := fun z hz => by
  obtain ⟨k, _, rfl⟩ := List.mem_map.1 hz
  have := ofI_bd H A f n k
  simp [Lit.wf, IntKind.min, IntKind.max, IntKind.signed, IntKind.bits]
  omega
/-- load.Of, whether the counts may be or not. -/
def loadL (H A : List Int) (f : Int) (n : Nat) : List Int := if lRight H A f = true then (List.range n).map (ofI H A f n) else []
theorem loadL_len (H A : List Int) (f : Int) (n : Nat) : (loadL H A f n).length ≤ n := by
  unfold loadL
  split
  · rw [rangeMap_len]; exact Nat.le_refl _
  · exact Nat.zero_le _
theorem load_OfL (A1 A2 : Option Addr) (n c1 c2 : Nat) (H A : List Int) (f : Int) (w : World) (hH : IsList w .i64 A1 n c1 H) (hA : IsList w .i64 A2 n c2 A) :
    Calls Tryz.prog 49 #[.slice A1 n c1, .slice A2 n c2, .int .i64 f] w fun e w' => ∃ A' c', e = .returned (.slice A' (loadL H A f n).length c') ∧ IsList w' .i64 A' (loadL H A f n).length c' (loadL H A f n) ∧ (∀ ad, A' = some ad → w.heap.size ≤ ad.block) ∧ Below w.heap.size w w' := by
  unfold loadL
  cases h : lRight H A f with
  | true =>
    have hn := hH.reach
    refine (load_Of A1 A2 n c1 c2 H A f w hH hA h).mono ?_
    rintro e w' ⟨g, rfl, hg, hR, hx⟩
    rw [if_pos rfl]
    have hl := rangeMap_len (ofI H A f n) n
    refine ⟨some ⟨g, 0, none⟩, n, by rw [hl], ?_, fun ad e => by injection e with e; subst e; exact hg, hx⟩
    rw [hl]
    exact row_list hR _ hl (fun i hi => by rw [rangeMap_at _ hi]) (ofI_wf H A f n) (Nat.le_refl _) (by omega) hn
  | false =>
    refine (load_Of_no A1 A2 n n c1 c2 H A f w hH hA h).mono ?_
    rintro e w' ⟨rfl, hx⟩
    rw [if_neg (by simp)]
    exact ⟨none, 0, rfl, isList_nil _ _, fun ad e => (by cases e), hx⟩
theorem counts_wf (F : Nat → Int) (n : Nat) (h : ∀ k, 0 ≤ F k ∧ F k ≤ 1000000) : ∀ z ∈ (List.range n).map F, (Lit.int .i64 z).wf = true := fun z hz => by
  obtain ⟨k, _, rfl⟩ := List.mem_map.1 hz
  have := h k
  simp [Lit.wf, IntKind.min, IntKind.max, IntKind.signed, IntKind.bits]
  omega
theorem walk_LoadsNil (s : Value) (i : Int) (w : World) : Calls Tryz.prog 32 #[.pointer none, s, .int .i64 i] w fun e w' => e = .returned (.slice none 0 0) ∧ w = w' := by
  go_enter Tryz.func32, Tryz.ntmps32
  go_wp2
  go_ret
  exact ⟨rfl, rfl⟩
section
variable {w0 w : World} {bt g gw gs bw : Nat} {l : List Nd} {W : Nat → Int} {S : Nat → Bool} {vH : Value} {H : List Int} {f seed : Int}
theorem walk_Loads (hT : TR w bt l) (ht : Tall l) (hS : SetIs w g bt l.length gw gs W S vH H) (e4 : w.cell? ⟨bw, 4, none⟩ = some (.int .i64 f)) (frm : Int) :
    Calls Tryz.prog 32 #[.pointer (some ⟨bw, 0, none⟩), .pointer (some ⟨g, 0, none⟩), .int .i64 frm] w fun e w' =>
      ∃ A c, e = .returned (.slice A (loadsI l S frm f).length c) ∧ IsList w' .i64 A (loadsI l S frm f).length c (loadsI l S frm f) ∧ (∀ ad, A = some ad → w.heap.size ≤ ad.block) ∧ Below w.heap.size w w' := by
  have hC := set_Counts hT ht hS
  have hfew := hT.few
  have hq1 := idx_le (isK 1) l
  have hq4 := idx_le (isK 4) l
  have HL := Lib.hid (show loadsI l S frm f = loadL (rot (haveL l S) frm) (rot (allL l) frm) f (lvN l) from rfl)
  have hbh : ∀ k, 0 ≤ haveTo l S (hoN l) k ∧ haveTo l S (hoN l) k ≤ 1000000 := fun k => by
    have := haveTo_bd l S (hoN l) k
    unfold hoN at *
    omega
  have hba : ∀ k, 0 ≤ allTo l (hoN l) k ∧ allTo l (hoN l) k ≤ 1000000 := fun k => by
    have := allTo_bd l (hoN l) k
    unfold hoN at *
    omega
  have hw1 := counts_wf (haveTo l S (hoN l)) (lvN l) hbh
  have hw2 := counts_wf (allTo l (hoN l)) (lvN l) hba
  go_enter Tryz.func32, Tryz.ntmps32
  go_wp2_with fail
  refine hC.mono ?_; rintro e w1 ⟨gh, ga, rfl, hRh, hRa, hx⟩
  have hLh := row_list hRh (haveL l S) (rangeMap_len _ _) (fun i hi => by unfold haveL; rw [rangeMap_at _ (show i < lvN l from hi)]; rfl) hw1 (Nat.le_refl _) (by omega) (by omega)
  have hLa := row_list hRa (allL l) (rangeMap_len _ _) (fun i hi => by unfold allL; rw [rangeMap_at _ (show i < lvN l from hi)]; rfl) hw2 (Nat.le_refl _) (by omega) (by omega)
  have e4b := cell_keep e4 hx
  have hne : gh ≠ ga ∨ True := .inr trivial
  obtain ⟨q, hq⟩ : ∃ q, q = (idx (isK 1) l).length := ⟨_, rfl⟩
  have HQ := Lib.hid (show q = lvN l from hq)
  rw [← hq] at hLh hLa
  rw [← hq]
  clear hC hRh hRa hq hw1 hw2 hbh hba hne
  replace hLh : IsList w1.drew .i64 (some ⟨gh, 0, none⟩) q q (haveL l S) := hLh.keep (Below.drew (Below.refl _ _))
  replace hLa : IsList w1.drew .i64 (some ⟨ga, 0, none⟩) q q (allL l) := hLa.keep (Below.drew (Below.refl _ _))
  have e4c : w1.drew.cell? ⟨bw, 4, none⟩ = some (.int .i64 f) := e4b
  have hW : Below w.heap.size w w1.drew := hx.drew
  obtain ⟨LH, hLH⟩ : ∃ LH, LH = haveL l S := ⟨_, rfl⟩
  obtain ⟨LA, hLA⟩ : ∃ LA, LA = allL l := ⟨_, rfl⟩
  rw [← hLH] at hLh
  rw [← hLA] at hLa
  rw [← hLH, ← hLA, ← HQ.out] at HL
  have T1 := fun v h => load_Turn (some ⟨gh, 0, none⟩) q q LH frm v h
  have T2 := fun v h => load_Turn (some ⟨ga, 0, none⟩) q q LA frm v h
  obtain ⟨RH, hRH⟩ : ∃ RH, RH = rot LH frm := ⟨_, rfl⟩
  obtain ⟨RA, hRA⟩ : ∃ RA, RA = rot LA frm := ⟨_, rfl⟩
  rw [← hRH] at T1 HL
  rw [← hRA] at T2 HL
  clear hLH hLA hRH hRA hx hT hS ht
  go_wp2_with fail
  go_region_with (first
    | (go_at_call_of 50 (some (Addr.mk gh 0 none)); refine (T1 _ ?_).mono ?_; exact hLh; rintro en w' ⟨A1, c1, rfl, hI1, hx1⟩; replace hLa := hLa.keep hx1; replace hLh := hLh.keep hx1; replace e4c := cell_keep e4c hx1; replace hW := below_step hW hx1; (try replace hI2 := hI2.keep hx1))
    | (go_at_call_of 50 (some (Addr.mk ga 0 none)); refine (T2 _ ?_).mono ?_; exact hLa; rintro en w' ⟨A2, c2, rfl, hI2, hx2⟩; replace hLh := hLh.keep hx2; replace hLa := hLa.keep hx2; replace e4c := cell_keep e4c hx2; replace hW := below_step hW hx2; (try replace hI1 := hI1.keep hx2))
    | (go_at_call 49; refine (load_OfL _ _ q _ _ RH RA f _ ?_ ?_).mono ?_; exact hI1; exact hI2; rintro en w' ⟨A3, c3, rfl, hI3, hfr3, hx3⟩; have hW3 := below_step hW hx3; have hsz := hW.size))
  all_goals
    go_wp2
    go_ret
    rw [HL.out]
    exact ⟨A3, c3, rfl, hI3, fun ad e => Nat.le_trans hsz (hfr3 ad e), hW3⟩
end
end Go.Proofs.YtblbgafadadbmaaGreat
end
section
/- Walker.Level, Walker.Host, Split; the law's awake. -/
set_option linter.unusedVariables false
namespace Go.Proofs.YtblbgafadadbmaaGreat
open Go.RowKit
set_option maxHeartbeats 4000000
set_option maxRecDepth 100000
theorem load_BackI (k frm : Int) (n : Nat) (hn : n ≤ 1000000) (w : World) : Calls Tryz.prog 36 #[.int .i64 k, .int .i64 frm, .int .i64 n] w fun e w' => e = .returned (.int .i64 (backI k frm n)) ∧ w = w' := by
  unfold backI
  by_cases h : k < 0 ∨ (n : Int) ≤ k ∨ frm < 0 ∨ (n : Int) ≤ frm
  · rw [if_pos h]; exact load_Back k frm n h w
  · rw [if_neg h]; exact load_Back_in k frm n (by omega) (by omega) (by omega) (by omega) (by omega) w
theorem loads_wf (l : List Nd) (S : Nat → Bool) (frm f : Int) : ∀ z ∈ loadsI l S frm f, (Lit.int .i64 z).wf = true := by
  intro z hz
  unfold loadsI at hz
  split at hz
  · exact ofI_wf _ _ _ _ z hz
  · cases hz
section
variable {w0 w : World} {bt g gw gs bw : Nat} {l : List Nd} {W : Nat → Int} {S : Nat → Bool} {vH : Value} {H : List Int} {f seed : Int}
theorem walk_Level (hT : TR w bt l) (ht : Tall l) (hS : SetIs w g bt l.length gw gs W S vH H) (e4 : w.cell? ⟨bw, 4, none⟩ = some (.int .i64 f)) (e5 : w.cell? ⟨bw, 5, none⟩ = some (.int .u64 seed))
    (s0 : 0 ≤ seed) (s1 : seed < 18446744073709551616) (frm key : Int) (k0 : 0 ≤ key) (k1 : key < 18446744073709551616) :
    Calls Tryz.prog 12 #[.pointer (some ⟨bw, 0, none⟩), .pointer (some ⟨g, 0, none⟩), .int .i64 frm, .int .u64 key] w fun e w' => e = .returned (.int .i64 (lvlI l S frm f seed key)) ∧ Below w.heap.size w w' := by
  have hL := walk_Loads hT ht hS e4 frm
  have hfew := hT.few
  have hll := loads_le l S frm f
  have hq1 := idx_le (isK 1) l
  have hmb := mixOf_bd seed [key]
  have hdb := draw_bd seed key
  have HV := Lib.hid (show lvlI l S frm f seed key = backI (wantTo (loadsI l S frm f) (drawI seed key) (loadsI l S frm f).length) frm (loadsI l S frm f).length from rfl)
  obtain ⟨LL, hLL⟩ : ∃ LL, LL = loadsI l S frm f := ⟨_, rfl⟩
  rw [← hLL] at hL hll HV
  have hll2 : LL.length ≤ 1000000 := by unfold lvN at hll; omega
  obtain ⟨n, hn⟩ : ∃ n, n = LL.length := ⟨_, rfl⟩
  rw [← hn] at hL HV hll2
  clear hLL hll hq1 hn
  have A1 := fun (w' : World) => mix_Of seed _ 1 1 [key] _ s0 s1 (one_list w' 24 key k0 k1)
  have A2 := fun w => mix_Below (mixOf seed [key]) 10000 w hmb.1 hmb.2 (by omega) (by omega)
  have HD := Lib.hid (show drawI seed key = mixOf seed [key] * 10000 / 18446744073709551616 from rfl)
  go_enter Tryz.func12, Tryz.ntmps12
  go_wp2_with fail
  refine hL.mono ?_; rintro e w1 ⟨A, c, rfl, hI, _, hx⟩
  have d5 := cell_keep e5 hx
  clear hL e4 e5
  go_wp2_with fail
  refine (A1 _).mono ?_; rintro e w' ⟨rfl, rfl⟩
  have hI2 := hI.keep ((Below.refl _ _).alloc (Nat.le_refl _) (.cells #[.int .u64 key] 24))
  have hx2 := hx.alloc hx.size (.cells #[.int .u64 key] 24)
  go_wp2_with fail
  refine (A2 _).mono ?_; rintro e w' ⟨rfl, rfl⟩
  rw [← HD.out]
  obtain ⟨d, hd⟩ : ∃ d, d = drawI seed key := ⟨_, rfl⟩
  rw [← hd] at hdb HV ⊢
  have A3 := load_Level A n c LL d (by omega) (by omega) _ hI2
  obtain ⟨v, hv⟩ : ∃ v, v = wantTo LL d n := ⟨_, rfl⟩
  rw [← hv] at A3 HV
  have A4 := fun w => load_BackI v frm n hll2 w
  obtain ⟨r, hr⟩ : ∃ r, r = backI v frm n := ⟨_, rfl⟩
  rw [← hr] at A4 HV
  clear HD hd hv hr A1 A2 d5 hI hmb
  generalize w1.alloc (.cells #[.int .u64 key] 24) = w2 at *
  go_wp2_with fail
  refine A3.mono ?_; rintro e w' ⟨rfl, dn, rfl⟩
  have hx3 : Below w.heap.size w (w2.drewN dn) := ⟨hx2.os, hx2.tape, hx2.output, hx2.size, hx2.block⟩
  clear A3 hI2 hx2
  go_wp2_with fail
  refine (A4 _).mono ?_; rintro e w' ⟨rfl, rfl⟩
  go_wp2
  go_ret
  exact ⟨by rw [HV.out]; rfl, hx3⟩
end
/-- How many two ways have in common. -/
def splitF : List Int → List Int → Nat
  | x :: a, y :: b => if x = y then splitF a b + 1 else 0
  | _, _ => 0
theorem split_step {a b : List Int} {k : Nat} (ha : k < a.length) (hb : k < b.length) : splitF (a.drop k) (b.drop k) = if a.getD k 0 = b.getD k 0 then splitF (a.drop (k + 1)) (b.drop (k + 1)) + 1 else 0 := by
  rw [List.drop_eq_getElem_cons ha, List.drop_eq_getElem_cons hb, splitF, List.getD_eq_getElem?_getD, List.getD_eq_getElem?_getD, List.getElem?_eq_getElem ha, List.getElem?_eq_getElem hb]
  rfl
theorem split_end {a b : List Int} {k : Nat} (h : a.length ≤ k ∨ b.length ≤ k) : splitF (a.drop k) (b.drop k) = 0 := by
  rcases h with h | h
  · rw [List.drop_eq_nil_of_le h]; unfold splitF; rfl
  · rw [List.drop_eq_nil_of_le h]
    cases a.drop k <;> rfl
theorem walk_Split {A B : Option Addr} {n m c d : Nat} {a b : List Int} {w : World} (ha : IsList w .i64 A n c a) (hb : IsList w .i64 B m d b) :
    Calls Tryz.prog 31 #[.slice A n c, .slice B m d] w fun e w' => e = .returned (.int .i64 (splitF a b : Nat)) ∧ Below w.heap.size w w' := by
  have hc1 := ha.cap
  have hc2 := hb.cap
  have hs1 := ha.small
  have hs2 := hb.small
  have hn := ha.reach
  have L1 := Lib.hid ha.len
  have L2 := Lib.hid hb.len
  go_enter Tryz.func31, Tryz.ntmps31
  go_wp2
  go_loopg [5] n (fun gk s5 wr => ∃ k : Nat, k ≤ n ∧ gk = n - k ∧ s5 = .int .i64 k ∧ Hid (splitF a b = k + splitF (a.drop k) (b.drop k)) ∧ Below w.heap.size w wr)
  case atStart => exact ⟨0, Nat.zero_le _, rfl, rfl, Lib.hid (by simp), Below.refl _ _⟩
  case round =>
    obtain ⟨k, hk, rfl, rfl, HS, hx⟩ := hrel
    by_cases h1 : k < n
    · have g1 : decide ((k : Int) < (n : Int)) = true := decide_eq_true (by omega)
      have i1 : (k : Int) < (n : Int) := by omega
      obtain ⟨ad, rfl, _, x0, _⟩ := (ha.keep hx).get h1
      by_cases h2 : k < m
      · have g2 : decide ((k : Int) < (m : Int)) = true := decide_eq_true (by omega)
        have i2 : (k : Int) < (m : Int) := by omega
        obtain ⟨bd, rfl, _, y0, _⟩ := (hb.keep hx).get h2
        have HT := Lib.hid (split_step (a := a) (b := b) (k := k) (by rw [L1.out]; exact h1) (by rw [L2.out]; exact h2))
        obtain ⟨x, hxe⟩ : ∃ x, x = a.getD k 0 := ⟨_, rfl⟩
        obtain ⟨y, hye⟩ : ∃ y, y = b.getD k 0 := ⟨_, rfl⟩
        rw [← hxe] at x0 HT
        rw [← hye] at y0 HT
        have U0 := cell_under x0
        have U1 := cell_under y0
        clear hxe hye x0 y0
        by_cases he : x = y
        · have g3 : (x == y) = true := by rw [beq_iff_eq]; exact he
          have HE := Lib.hid (show splitF a b = (k + 1) + splitF (a.drop (k + 1)) (b.drop (k + 1)) by rw [HS.out, HT.out, if_pos he]; omega)
          clear he HS HT
          go_wp2_with fail
          refine wp_region_quiet_under (by kernel_rfl) (by kernel_rfl) ?_
          repeat (go_big_quiet_step ((fail)))
          refine wpQuiet_nil ?_
          intro wu hw'
          obtain ⟨pq, hw''⟩ := hw'
          have hU := below_eq hw''
          clear hw'' pq
          have hxu := below_step hx hU
          clear hU U0 U1 hx
          go_wp2
          go_roundg (n - (k + 1))
          case measure => omega
          case rel => exact ⟨k + 1, by omega, rfl, by go_num, HE, hxu⟩
        · have g3 : (x == y) = false := by rw [beq_eq_false_iff_ne]; exact he
          have HE := Lib.hid (show splitF a b = k by rw [HS.out, HT.out, if_neg he]; omega)
          clear he HS HT
          go_wp2_with fail
          refine wp_region_quiet_under (by kernel_rfl) (by kernel_rfl) ?_
          repeat (go_big_quiet_step ((fail)))
          refine wpQuiet_nil ?_
          intro wu hw'
          obtain ⟨pq, hw''⟩ := hw'
          have hU := below_eq hw''
          clear hw'' pq
          have hxu := below_step hx hU
          clear hU U0 U1 hx
          go_wp2
          go_ret
          exact ⟨by rw [HE.out]; rfl, hxu⟩
      · have g2 : decide ((k : Int) < (m : Int)) = false := decide_eq_false (by omega)
        have HE := Lib.hid (show splitF a b = k by rw [HS.out, split_end (.inr (by rw [L2.out]; omega))]; omega)
        clear HS
        go_wp2_with fail
        refine wp_region_quiet_under (by kernel_rfl) (by kernel_rfl) ?_
        repeat (go_big_quiet_step ((fail)))
        refine wpQuiet_nil ?_
        intro wu hw'
        obtain ⟨pq, hw''⟩ := hw'
        have hU := below_eq hw''
        clear hw'' pq
        have hxu := below_step hx hU
        clear hU hx x0
        go_wp2
        go_ret
        exact ⟨by rw [HE.out]; rfl, hxu⟩
    · have g1 : decide ((k : Int) < (n : Int)) = false := decide_eq_false (by omega)
      have HE := Lib.hid (show splitF a b = k by rw [HS.out, split_end (.inl (by rw [L1.out]; omega))]; omega)
      clear HS
      go_wp2_with fail
      refine wp_region_quiet_under (by kernel_rfl) (by kernel_rfl) ?_
      repeat (go_big_quiet_step ((fail)))
      refine wpQuiet_nil ?_
      intro wu hw'
      obtain ⟨pq, hw''⟩ := hw'
      have hU := below_eq hw''
      clear hw'' pq
      have hxu := below_step hx hU
      clear hU hx
      go_wp2
      go_ret
      exact ⟨by rw [HE.out]; rfl, hxu⟩
end Go.Proofs.YtblbgafadadbmaaGreat
end
section
/- Walker.Host; the law's awake. -/
set_option linter.unusedVariables false
namespace Go.Proofs.YtblbgafadadbmaaGreat
open Go.RowKit
set_option maxHeartbeats 4000000
set_option maxRecDepth 100000
theorem walk_LevelNil (s : Value) (i key : Int) (w : World) : Calls Tryz.prog 12 #[.pointer none, s, .int .i64 i, .int .u64 key] w fun e w' => e = .returned (.int .i64 (-1)) ∧ w = w' := by
  go_enter Tryz.func12, Tryz.ntmps12
  go_wp2
  go_ret
  exact ⟨rfl, rfl⟩
theorem walk_HostNil (s : Value) (i key : Int) (w : World) : Calls Tryz.prog 8 #[.pointer none, s, .int .i64 i, .int .u64 key] w fun e w' => e = .returned (.int .i64 (-1)) ∧ w = w' := by
  go_enter Tryz.func8, Tryz.ntmps8
  go_wp2_with fail
  refine (walk_LevelNil _ _ _ _).mono ?_; rintro e w' ⟨rfl, rfl⟩
  go_wp2
  go_ret
  exact ⟨rfl, rfl⟩
section
variable {w0 w : World} {bt g gw gs bw : Nat} {l : List Nd} {hosts : List Int} {vH : Value} {H : List Int} {f seed : Int}
theorem lvl_in (l : List Nd) (S : Nat → Bool) (frm f seed key : Int) : lvlI l S frm f seed key = -1 ∨ (0 ≤ lvlI l S frm f seed key ∧ lvlI l S frm f seed key < lvN l) := by
  rcases lvl_cases l S frm f seed key with ⟨_, h⟩ | ⟨i, hi, _, _, h, h2⟩
  · exact .inl h
  · right; rw [h]; omega
theorem lvAt_in (l : List Nd) {k : Int} (h0 : 0 ≤ k) (h1 : k < lvN l) : (idx (isK 1) l).getD k.toNat 0 = lvAt l k ∧ lvAt l k < l.length ∧ (l.getD (lvAt l k) nd0).kind = 1 := by
  have hm : (idx (isK 1) l).getD k.toNat 0 ∈ idx (isK 1) l := getD_mem _ _ (by unfold lvN at h1; omega)
  obtain ⟨j, hj, hjl, hjk⟩ := mem_idx.1 hm
  unfold lvAt
  rw [hj]
  refine ⟨by rw [Int.toNat_natCast], by rw [Int.toNat_natCast]; exact hjl, ?_⟩
  rw [Int.toNat_natCast]
  unfold isK at hjk
  simpa using hjk
theorem way_down {l : List Nd} (ht : Tall l) (hosts : List Int) (hl : l.length ≤ 1024) (seed key : Int) {i : Nat} (hi : i < l.length) (h1 : (l.getD i nd0).kind = 1) : downR l (wt l hosts) (hs l hosts) seed key i = wayI l (wt l hosts) seed key i := by
  have hat : atB (hs l hosts) l.length (i : Int) = hs l hosts i := by unfold atB; rw [if_pos (by omega)]; rfl
  cases hh : hs l hosts i with
  | true => exact downR_yes (by rw [hat]; exact hh)
  | false => rw [downR_no (by rw [hat]; exact hh), way_hasnot ht hosts hl seed key hi (by omega) hh]
theorem walk_Host (hT : TR w0 bt l) (ht : Tall l) (hS : SetIs w0 g bt l.length gw gs (wt l hosts) (hs l hosts) vH H) (hw : WW w0 w bw (kw f seed)) (s0 : 0 ≤ seed) (s1 : seed < 18446744073709551616)
    (frm key : Int) (k0 : 0 ≤ key) (k1 : key < 18446744073709551616) :
    Calls Tryz.prog 8 #[.pointer (some ⟨bw, 0, none⟩), .pointer (some ⟨g, 0, none⟩), .int .i64 frm, .int .u64 key] w fun e w' =>
      e = .returned (.int .i64 (hostI l (wt l hosts) (hs l hosts) frm f seed key)) ∧ WW w0 w' bw (kw f seed) ∧ Mod (· = bw) w w' := by
  have hfew := hT.few
  have hWb := fun k hk => wt_nn ht hosts hfew k hk
  have hSW := fun k hk h => (wt_iff ht hosts hfew (i := k) hk).1 h
  have hL := walk_Level (hT.keep hw.bel) ht (hS.keep hw.bel) hw.tab.ends.1 hw.tab.ends.2 s0 s1 frm key k0 k1
  have hin := lvl_in l (hs l hosts) frm f seed key
  obtain ⟨v, hv⟩ : ∃ v, v = lvlI l (hs l hosts) frm f seed key := ⟨_, rfl⟩
  have HH := Lib.hid (show hostI l (wt l hosts) (hs l hosts) frm f seed key = if lvlI l (hs l hosts) frm f seed key < 0 then -1 else lastI (wayI l (wt l hosts) seed key (lvAt l (lvlI l (hs l hosts) frm f seed key))) from rfl)
  rw [← hv] at hL hin HH
  clear hv
  rcases hin with rfl | ⟨v0, v1⟩
  · rw [if_pos (by decide)] at HH
    go_enter Tryz.func8, Tryz.ntmps8
    go_wp2_with fail
    refine hL.mono ?_; rintro e w1 ⟨rfl, hx⟩
    go_wp2
    go_ret
    exact ⟨by rw [HH.out]; rfl, hw.keep hx, Mod.of_below hx⟩
  · rw [if_neg (by omega)] at HH
    obtain ⟨a1, a2, a3⟩ := lvAt_in l v0 v1
    have HWD := Lib.hid (way_down ht hosts hfew seed key a2 a3)
    obtain ⟨q, hq⟩ : ∃ q, q = (idx (isK 1) l).length := ⟨_, rfl⟩
    have hq1 : v < (q : Int) := by rw [hq]; exact v1
    have hLv := fun w h => tr_Levels (b := bt) (l := l) (w := w) h
    rw [← hq] at hLv
    obtain ⟨k, rfl⟩ := Int.eq_ofNat_of_zero_le v0
    rw [Int.toNat_natCast] at a1
    obtain ⟨j, hj⟩ : ∃ j, j = lvAt l (k : Int) := ⟨_, rfl⟩
    rw [← hj] at a1 a2 HWD HH
    have g0 : decide ((k : Int) < 0) = false := decide_eq_false (by omega)
    clear hq hj a3 v1
    go_enter Tryz.func8, Tryz.ntmps8
    go_wp2_with fail
    refine hL.mono ?_; rintro e w1 ⟨rfl, hx⟩
    have hw1 := hw.keep hx
    have hM1 : Mod (· = bw) w w1 := Mod.of_below hx
    obtain ⟨c0, c1, c2, c3, _⟩ := (hS.keep hw1.bel).blk.cells4
    clear hL hx
    go_wp2_with fail
    refine (hLv _ (hT.keep hw1.bel)).mono ?_; rintro e w2 ⟨A, c, rfl, hI, _, hx⟩
    obtain ⟨ad, rfl, _, x0, _⟩ := hI.get (k := k) (by omega)
    rw [a1] at x0
    have hcap := hI.cap
    have hsm := hI.small
    have hw2 := hw1.keep hx
    have hM2 := hM1.thenB hx
    have hD := walk_Down hT ht hS hWb hSW hw2 s0 s1 (j : Int) key k0 k1
    rw [HWD.out] at hD
    obtain ⟨R, hR⟩ : ∃ R, R = wayI l (wt l hosts) seed key j := ⟨_, rfl⟩
    rw [← hR] at hD HH
    clear hR HWD hLv c0 c1 c2 c3 hI hx hw1 hM1
    obtain ⟨m, hm⟩ : ∃ m, m = R.length := ⟨_, rfl⟩
    rw [← hm] at hD
    go_wp2_with fail
    refine hD.mono ?_; rintro e w3 ⟨A3, c3, rfl, hI3, _, hw3, hm3⟩
    have hM3 := hM2.trans hm3
    have hcap3 := hI3.cap
    have hsm3 := hI3.small
    clear hD hw2 hM2 hm3 x0 hcap hsm
    by_cases h0 : m = 0
    · have g1 : ((m : Int) == 0) = true := by rw [beq_iff_eq]; omega
      have HE := Lib.hid (show lastI R = -1 by unfold lastI; rw [if_pos (List.eq_nil_of_length_eq_zero (by omega))])
      clear hm hI3
      subst h0
      go_wp2
      go_ret
      exact ⟨by rw [HH.out, HE.out]; rfl, hw3, hM3⟩
    · have g1 : ((m : Int) == 0) = false := by rw [beq_eq_false_iff_ne]; omega
      obtain ⟨ad3, rfl, _, y0, _⟩ := hI3.get (k := m - 1) (by omega)
      have HE := Lib.hid (show lastI R = R.getD (m - 1) 0 by unfold lastI; rw [if_neg (fun h => by rw [h] at hm; exact h0 hm), hm])
      obtain ⟨p, rfl⟩ : ∃ p, m = p + 1 := ⟨m - 1, by omega⟩
      have hp : p + 1 - 1 = p := by omega
      rw [hp] at y0 HE
      have kp : IntKind.i64.wrap (((p + 1 : Nat) : Int) - 1) = p := by rw [IntWalk.i64_in _ (by have := hI3.reach; omega)]; omega
      have hpi : (p : Int) < ((p + 1 : Nat) : Int) := by omega
      obtain ⟨z, hz⟩ : ∃ z, z = R.getD p 0 := ⟨_, rfl⟩
      rw [← hz] at y0 HE
      clear hm hI3 hz h0 hp
      go_wp2
      go_ret
      exact ⟨by rw [HH.out, HE.out]; rfl, hw3, hM3⟩
end
end Go.Proofs.YtblbgafadadbmaaGreat
end
section
/- The law's counts of hosts of levels, in plain Lean. -/
set_option linter.unusedVariables false
namespace Go.Proofs.YtblbgafadadbmaaGreat
open Go.RowKit
def lawAll (l : List Nd) (k t : Nat) : Int := (((List.range k).countP fun i => (l.getD i nd0).kind == 4 && lev l i == (t : Int) : Nat) : Int)
def lawHave (l : List Nd) (W : Nat → Int) (k t : Nat) : Int := (((List.range k).countP fun i => ((l.getD i nd0).kind == 4 && lev l i == (t : Int)) && decide (0 < W i) : Nat) : Int)
theorem lawAll_step (l : List Nd) (k t : Nat) : lawAll l (k + 1) t = lawAll l k t + if (l.getD k nd0).kind = 4 ∧ lev l k = (t : Int) then 1 else 0 := by
  unfold lawAll
  rw [List.range_succ, List.countP_append, List.countP_singleton]
  by_cases h : (l.getD k nd0).kind = 4 ∧ lev l k = (t : Int)
  · rw [if_pos h, if_pos (by rw [h.1, h.2]; simp)]; omega
  · rw [if_neg h, if_neg (by rw [Bool.and_eq_true, beq_iff_eq, beq_iff_eq]; exact h)]; omega
theorem lawHave_step (l : List Nd) (W : Nat → Int) (k t : Nat) : lawHave l W (k + 1) t = lawHave l W k t + if ((l.getD k nd0).kind = 4 ∧ lev l k = (t : Int)) ∧ 0 < W k then 1 else 0 := by
  unfold lawHave
  rw [List.range_succ, List.countP_append, List.countP_singleton]
  by_cases h : ((l.getD k nd0).kind = 4 ∧ lev l k = (t : Int)) ∧ 0 < W k
  · rw [if_pos h, if_pos (by rw [h.1.1, h.1.2, decide_eq_true h.2]; simp)]; omega
  · rw [if_neg h, if_neg (by rw [Bool.and_eq_true, Bool.and_eq_true, beq_iff_eq, beq_iff_eq, decide_eq_true_eq]; exact h)]; omega
theorem lawAll_bd (l : List Nd) (k t : Nat) : 0 ≤ lawAll l k t ∧ lawAll l k t ≤ k := by
  unfold lawAll
  have := List.countP_le_length (p := fun i => (l.getD i nd0).kind == 4 && lev l i == (t : Int)) (l := List.range k)
  rw [List.length_range] at this
  omega
theorem lawHave_bd (l : List Nd) (W : Nat → Int) (k t : Nat) : 0 ≤ lawHave l W k t ∧ lawHave l W k t ≤ k := by
  unfold lawHave
  have := List.countP_le_length (p := fun i => ((l.getD i nd0).kind == 4 && lev l i == (t : Int)) && decide (0 < W i)) (l := List.range k)
  rw [List.length_range] at this
  omega
theorem lawAll_all (l : List Nd) (t : Nat) : lawAll l l.length t = allTo l (hoN l) t := by
  unfold lawAll allTo hoN
  rw [List.take_length]
  congr 1
  unfold idx
  rw [List.countP_map, List.countP_filter]
  apply List.countP_congr
  intro k hk
  simp only [Function.comp_apply]
  rw [Bool.and_comm]
  exact Iff.rfl
theorem lawHave_all {l : List Nd} (ht : Tall l) (hosts : List Int) (hl : l.length ≤ 1024) (t : Nat) : lawHave l (wt l hosts) l.length t = haveTo l (hs l hosts) (hoN l) t := by
  unfold lawHave haveTo hoN
  rw [List.take_length]
  congr 1
  unfold idx
  rw [List.countP_map, List.countP_filter]
  apply List.countP_congr
  intro k hk
  rw [List.mem_range] at hk
  simp only [Function.comp_apply, Int.toNat_natCast]
  have e : decide (0 < wt l hosts k) = hs l hosts k := by
    cases h : hs l hosts k with
    | true => exact decide_eq_true ((wt_iff ht hosts hl hk).2 h)
    | false => exact decide_eq_false (fun h2 => by rw [(wt_iff ht hosts hl hk).1 h2] at h; cases h)
  rw [e]
  unfold isK
  cases (l.getD k nd0).kind == 4 <;> cases lev l k == (t : Int) <;> cases hs l hosts k <;> simp
theorem idx_nodup (p : Nd → Bool) (l : List Nd) : (idx p l).Nodup := by
  unfold idx
  exact List.Pairwise.map _ (fun a b (h : a ≠ b) => by show ((a : Nat) : Int) ≠ (b : Nat); omega) (List.Pairwise.filter _ List.nodup_range)
/-- The level of a host by its number in the list of levels. -/
theorem lev_at {l : List Nd} (ht : Tall l) {i j : Nat} (hi : i < l.length) (hj : j < lvN l) : (idx (isK 1) l).getD j 0 = up l 1 i ↔ lev l i = j := by
  obtain ⟨i', h1, h2, h3, h4, h5⟩ := lev_host ht hi
  have hp : isK 1 (l.getD i' nd0) = true := by unfold isK; rw [h3]; rfl
  have hat := (selTo_at (p := fun k => isK 1 (l.getD k nd0)) h2 hp).2
  rw [← idx_sel] at hat
  rw [h1, h4]
  constructor
  · intro h
    have e : (idx (isK 1) l)[j]'hj = (idx (isK 1) l)[(selTo (fun k => isK 1 (l.getD k nd0)) i').length]'h5 := by
      rw [List.getD_eq_getElem?_getD, List.getElem?_eq_getElem hj] at h
      rw [List.getD_eq_getElem?_getD, List.getElem?_eq_getElem h5] at hat
      exact h.trans hat.symm
    have hnd := List.pairwise_iff_getElem.1 (idx_nodup (isK 1) l)
    rcases Nat.lt_trichotomy j (selTo (fun k => isK 1 (l.getD k nd0)) i').length with h6 | h6 | h6
    · exact absurd e (hnd _ _ hj h5 h6)
    · omega
    · exact absurd e.symm (hnd _ _ h5 hj h6)
  · intro h
    have : j = (selTo (fun k => isK 1 (l.getD k nd0)) i').length := by omega
    rw [this]; exact hat
/-- The level above a host. -/
theorem up_host {l : List Nd} (ht : Tall l) {i : Nat} (hi : i < l.length) (h4 : (l.getD i nd0).kind = 4) :
    ∃ a b : Nat, (l.getD i nd0).above = a ∧ a < l.length ∧ (l.getD a nd0).above = b ∧ b < l.length ∧ up l 1 i = (l.getD b nd0).above := by
  have hr := tall_rises ht
  have hb1 := tall_below ht i hi (by omega)
  obtain ⟨a, ha⟩ : ∃ a : Nat, (l.getD i nd0).above = a := ⟨_, (Int.toNat_of_nonneg hb1.1).symm⟩
  rw [ha, ndAt_nat] at hb1
  have hal : a < l.length := by omega
  have hb2 := tall_below ht a hal (by omega)
  obtain ⟨b, hb⟩ : ∃ b : Nat, (l.getD a nd0).above = b := ⟨_, (Int.toNat_of_nonneg hb2.1).symm⟩
  rw [hb, ndAt_nat] at hb2
  have hbl : b < l.length := by omega
  have hb3 := tall_below ht b hbl (by omega)
  obtain ⟨c, hc⟩ : ∃ c : Nat, (l.getD b nd0).above = c := ⟨_, (Int.toNat_of_nonneg hb3.1).symm⟩
  rw [hc, ndAt_nat] at hb3
  refine ⟨a, b, ha, hal, hb, hbl, ?_⟩
  rw [up_step l hr 1 i (by omega) (by omega) (by rw [ndAt_nat]; omega), ndAt_nat, ha, up_step l hr 1 a (by omega) (by omega) (by rw [ndAt_nat]; omega), ndAt_nat, hb, up_step l hr 1 b (by omega) (by omega) (by rw [ndAt_nat]; omega), ndAt_nat, hc]
  exact up_hit l 1 c (by omega) (by omega) (by rw [ndAt_nat]; omega)
end Go.Proofs.YtblbgafadadbmaaGreat
end
section
/- The law's levels, loads and awake. -/
set_option linter.unusedVariables false
namespace Go.Proofs.YtblbgafadadbmaaGreat
open Go.RowKit
set_option maxHeartbeats 4000000
set_option maxRecDepth 100000
theorem lvTake_step (l : List Nd) (k : Nat) (hk : k < l.length) : idx (isK 1) (l.take (k + 1)) = idx (isK 1) (l.take k) ++ if (l.getD k nd0).kind = 1 then [(k : Int)] else [] := by
  rw [idx_take (isK 1) l k hk]
  congr 1
  unfold isK
  by_cases h : (l.getD k nd0).kind = 1
  · rw [if_pos h, if_pos (by rw [h]; rfl)]
  · rw [if_neg h, if_neg (by rw [beq_iff_eq]; exact h)]
theorem law26_levels {A : Option Addr} {n c : Nat} {l : List Nd} {w : World} (h : IsNodes w A n c l) (hn : n ≤ 1024) : Calls Tryz.prog 13 #[.slice A n c] w fun e w' =>
    ∃ A' c', e = .returned (.slice A' (lvN l) c') ∧ IsList w' .i64 A' (lvN l) c' (idx (isK 1) l) ∧ (∀ ad, A' = some ad → w.heap.size ≤ ad.block) ∧ Below w.heap.size w w' := by
  have hcap := h.cap
  have hsm := h.small
  have hlen := h.len
  subst hlen
  obtain ⟨iI, hiI, hzI, hzI1, hzI2⟩ := info_parts Tryz.infoI
  go_enter Tryz.func13, Tryz.ntmps13
  go_wp2_with fail
  go_loopg [3, 4] l.length (fun gk s3 s4 wr => ∃ (k : Nat) (out : List Int), k ≤ l.length ∧ gk = l.length - k ∧ s4 = .int .i64 k ∧ wr.ownsRow w.heap.size 3 1 s3 out.length (ints out) ∧ Below w.heap.size w wr ∧ Hid (out = idx (isK 1) (l.take k)))
  case atStart => exact ⟨0, [], Nat.zero_le _, rfl, rfl, World.ownsRow_nil _ _ _ _, Below.refl _ _, Lib.hid rfl⟩
  case round =>
    obtain ⟨k, out, hk, rfl, rfl, hown, hx, HO⟩ := hrel
    have hol : out.length ≤ k := by
      rw [HO.out]
      refine Nat.le_trans (idx_le _ _) ?_
      rw [List.length_take]; omega
    by_cases hlt : k < l.length
    · have hki : (k : Int) < (l.length : Int) := by omega
      have HST := Lib.hid (lvTake_step l k hlt)
      obtain ⟨ad, rfl, hbk, d0, d1, d2, d3, d4, d5, d6⟩ := (h.keep hx).at_ hlt
      generalize l.getD k nd0 = x at *
      clear d0 d2 d3 d4 d5 d6
      by_cases h1 : x.kind = 1
      · have g1 : (x.kind == 1) = true := by rw [beq_iff_eq]; exact h1
        have HE := Lib.hid (show out ++ [(k : Int)] = idx (isK 1) (l.take (k + 1)) by rw [HST.out, if_pos h1, HO.out])
        clear h1 HST HO
        go_wp2_with (at_builtin; go_loud (refine wpList_append_any _ rfl (.tmp 17) (.tmp 19) _ rfl w.heap.size 3 iI _ 1 8 Tryz.underlying23 hiI hzI hzI1 hzI2 rfl (by decide) _ out.length (ints out) rfl (hown.alloc _) _ (some ⟨wr.heap.size, 0, none⟩) 1 1 [.int .i64 k] rfl (one_reads wr 3 1 [.int .i64 k] rfl) (by intro u hu; simp at hu; subst hu; rfl) (by simp only [maxLen]; omega) (by omega) (by have := hx.size; simp; omega) ?_; intro v6 w6 hown6 hg6 hat6))
        have hx6 := push_below (hx.alloc hx.size _) hg6 (own_from hown)
        go_wp2
        go_roundg (l.length - (k + 1))
        case measure => omega
        case rel => exact ⟨k + 1, out ++ [(k : Int)], by omega, rfl, by go_num, by simpa [ints] using hown6, hx6, HE⟩
      · have g1 : (x.kind == 1) = false := by rw [beq_eq_false_iff_ne]; exact h1
        have HE := Lib.hid (show out = idx (isK 1) (l.take (k + 1)) by rw [HST.out, if_neg h1, HO.out, List.append_nil])
        clear h1 HST HO
        go_wp2
        go_roundg (l.length - (k + 1))
        case measure => omega
        case rel => exact ⟨k + 1, out, by omega, rfl, by go_num, hown, hx, HE⟩
    · obtain rfl : k = l.length := by omega
      have HE := Lib.hid (show out = idx (isK 1) l by rw [HO.out, List.take_length])
      have hlv := Lib.hid (show out.length = lvN l by rw [HE.out]; rfl)
      obtain ⟨AR, cR, rfl, hIR, hfr⟩ := own_list hown (fun z hz => by
        rw [HE.out] at hz
        exact idx_wf _ _ hn z hz) (by omega)
      clear hown HO hlt
      rw [HE.out] at hIR
      go_wp2
      go_ret
      have e1 := hlv.out
      rw [HE.out] at e1
      exact ⟨AR, cR, by rw [HE.out, e1]; rfl, by rw [← e1]; exact hIR, hfr, hx⟩
theorem walkl_list {w : World} {g : Nat} {T : TypeId} {a b c : Int} (h : Blk w g T #[.int .i64 a, .int .i64 b, .int .i64 c]) (hw : ∀ z ∈ [a, b, c], (Lit.int .i64 z).wf = true) : IsList w .i64 (some ⟨g, 0, none⟩) 3 3 [a, b, c] := isList_blk h [a, b, c] rfl hw (by simp)
theorem law26_awake (w : World) : Calls Tryz.prog 11 #[] w fun e w' => e = .returned (.bool true) ∧ Below w.heap.size w w' := by
  have P := (Blk.new w 3 #[.int .i64 0, .int .i64 1, .int .i64 2]).alloc (.cells #[.int .i64 0, .int .i64 1, .int .i64 5] 3)
  have Q := Blk.new (w.alloc (.cells #[.int .i64 0, .int .i64 1, .int .i64 2] 3)) 3 #[.int .i64 0, .int .i64 1, .int .i64 5]
  have hz : (w.alloc (.cells #[.int .i64 0, .int .i64 1, .int .i64 2] 3)).heap.size = w.heap.size + 1 := by simp
  rw [hz] at Q
  have hx : Below w.heap.size w ((w.alloc (.cells #[.int .i64 0, .int .i64 1, .int .i64 2] 3)).alloc (.cells #[.int .i64 0, .int .i64 1, .int .i64 5] 3)) := ((Below.refl _ _).alloc (Nat.le_refl _) _).alloc (by simp) _
  have hS := walk_Split (walkl_list P (by decide)) (walkl_list Q (by decide))
  have hsp : splitF [0, 1, 2] [0, 1, 5] = 2 := by decide
  rw [hsp] at hS
  clear hz hsp P Q
  go_enter Tryz.func11, Tryz.ntmps11
  go_wp2_with fail
  generalize (w.alloc (.cells #[.int .i64 0, .int .i64 1, .int .i64 2] 3)).alloc (.cells #[.int .i64 0, .int .i64 1, .int .i64 5] 3) = w2 at *
  refine hS.mono ?_; rintro e w3 ⟨rfl, hx3⟩
  go_wp2_with fail
  refine (walk_HostNil _ _ _ _).mono ?_; rintro e w' ⟨rfl, rfl⟩
  go_wp2
  go_ret
  exact ⟨rfl, below_step hx hx3⟩
end Go.Proofs.YtblbgafadadbmaaGreat
end
