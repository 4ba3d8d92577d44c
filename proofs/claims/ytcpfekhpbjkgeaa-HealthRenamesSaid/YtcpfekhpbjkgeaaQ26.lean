/- Lemmas for the claim's proof: HlD. -/
import Derived.Test.YtcpfekhpbjkgeaaQ25
section
/- The law's set. -/
set_option linter.unusedVariables false
namespace Go.Proofs.Ytcpfekhpbjkgeaa
open Go.RowKit Go.Maps
set_option maxHeartbeats 8000000
set_option maxRecDepth 100000
theorem Try.infoPh : (Try.prog.info? 77).map (fun i => (i.zero, i.size, i.bytes)) = some (some (.agg #[.bool false, .bool false, .int .i64 0, .int .i64 0, .int .i64 0, .int .i64 0]), 6, 40) := by kernel_rfl
theorem ownP_at {w : World} {B n c : Nat} {A : Option Addr} {l : List Ph} (h : w.ownsRow B 77 6 (.slice A n c) n (phShape.flat l)) {k : Nat} (hk : k < n) : ∃ g, A = some ⟨g, 0, none⟩ ∧ ∀ j u, (encPh (l.getD k default))[j]? = some u → w.cell? ⟨g, k * 6 + j, none⟩ = some u := by
  have hl : l.length = n := ownK_len (C := phShape) h
  have hg0 : ∃ g, A = some ⟨g, 0, none⟩ := by
    rcases h.2 with ⟨e, e2⟩ | ⟨g, cap, cur, e, _⟩
    · omega
    · cases e; exact ⟨g, rfl⟩
  obtain ⟨g, rfl⟩ := hg0
  obtain ⟨ad, e, hb, hc⟩ := (ownK_reads h).2 (by omega)
  cases e
  have hk2 : k < l.length := by omega
  have e2 : l[k]? = some (l.getD k default) := by rw [List.getD_eq_getElem?_getD, List.getElem?_eq_getElem hk2]; rfl
  refine ⟨g, rfl, fun j u hu => ?_⟩
  have hj : j < 6 := by
    rcases Nat.lt_or_ge j 6 with h5 | h5
    · exact h5
    · rw [List.getElem?_eq_none (by show (encPh _).length ≤ j; exact h5)] at hu; cases hu
  have e0 : (⟨g, k * 6 + j, none⟩ : Addr) = (⟨g, 0, none⟩ : Addr).add (k * 6 + j) := by unfold Addr.add; split <;> simp_all
  rw [e0]
  refine hc _ u ?_
  rw [show k * 6 + j = k * phShape.size + j from rfl, phShape.flat_at _ _ _ hj, e2]
  exact hu
theorem law22_set {w : World} {B pb : Nat} {v : Value} {L : List Ph} {now : Int} {r : Rul} (h : IsPlain w B pb v L now r) (hl : L.length ≤ 40) (h0 : 0 ≤ now) (h1 : now ≤ 100000) {A : Option Addr} {n c : Nat} {ids : List Int} (hI : IsList w .i64 A n c ids) (hA : 0 < n → ∀ ad, A = some ad → ¬ pIn pb v ad.block)
    (hn : n ≤ 30) (hBw : B ≤ w.heap.size) :
    Calls Try.prog 55 #[.pointer (some ⟨pb, 0, none⟩), .slice A n c] w fun e w' => e = .returned (.tuple #[]) ∧ ∃ v' L', PlTo w w' B pb v v' L' now r ∧ SetTo now ids L L' ∧ L'.length ≤ 40 := by
  obtain ⟨iP, hiP, hzP, hzP1, hzP2⟩ := info_parts Try.infoPh
  have hadd : IntKind.i64.wrap (now + 1) = now + 1 := IntWalk.i64_in _ (by omega)
  have hcap := hI.cap
  have hsm := hI.small
  have HLI := Lib.hid hI.len
  have HP := Lib.hid h
  have HI := Lib.hid hI
  clear h hI
  go_enter Try.func55, Try.ntmps55
  go_upto_region 2 with (fail)
  go_loopg [4, 5, 6, 7, 8, 9] 41 (fun gk s4 s5 s6 s7 s8 s9 wr => ∃ (k : Nat) (O : List Ph), s5 = .int .i64 k ∧ k ≤ 40 ∧ gk = 41 - k ∧ O.length = k ∧ Hid (OutOk now ids L O) ∧ wr.ownsRow w.heap.size 77 6 s4 O.length (phShape.flat O) ∧ Below w.heap.size w wr)
  case atStart => exact ⟨0, [], by go_num, by omega, rfl, rfl, Lib.hid (out_start _ _ _), World.ownsRow_nil _ _ _ 6, Below.refl _ _⟩
  case round =>
    obtain ⟨k, O, rfl, hk, rfl, hOl, HO, hO, hW⟩ := hrel
    have hkid : k ≤ n := by
      have := out_len HO.out
      rw [HLI.out] at this
      omega
    have hk40 : (k : Int) < 40 := by omega
    have e0 : decide ((k : Int) < 40) = true := decide_eq_true hk40
    obtain ⟨Ao, co, rfl⟩ := ownK_sl hO
    rw [hOl] at hO
    have HOL := Lib.hid hOl
    have hco := ownK_cap hO
    obtain ⟨wo, hwo⟩ : ∃ wo, wo = wr := ⟨_, rfl⟩
    subst hwo
    have HW := Lib.hid hW
    have HOO := Lib.hid hO
    rw [hOl]
    clear hOl hO hW
    go_upto_region 6 with (fail)
    go_loopg [6, 7, 8] n (fun gk s6 s7 s8 wr => ∃ (i : Nat) (z : Int), s7 = .int .i64 i ∧ s6 = .int .i64 z ∧ i ≤ n ∧ gk = n - i ∧ I64 z ∧ Hid (BestAt O (ids.take i) z) ∧ wo = wr)
    case atStart => exact ⟨0, -1, by go_num, rfl, Nat.zero_le _, rfl, by unfold I64; decide, Lib.hid (best_start O), rfl⟩
    case round =>
      obtain ⟨i, z, rfl, rfl, hi, rfl, hz, HB, rfl⟩ := hrel
      by_cases hin : i < n
      · have hii : (i : Int) < (n : Int) := by omega
        obtain ⟨ad, hAd, d0, hy⟩ := listH_at (list_mod HI.out (Mod.of_below (S := pIn pb v) HW.out) hA) hin
        subst hAd
        have HT := Lib.hid (takeI_next (l := ids) (i := i) (by rw [HLI.out]; exact hin))
        generalize ids.getD i 0 = y at *
        have hyy := hy
        unfold I64 at hyy
        have HOD := Lib.hid (show 0 < k → lastP O = (O.getD (k - 1) default).id from fun hk0 => by rw [lastP_at (by rw [HOL.out]; exact hk0), HOL.out])
        have HO0 := Lib.hid (show k = 0 → lastP O = -1 from fun hk0 => by
          have : O = [] := List.length_eq_zero_iff.1 (by rw [HOL.out]; exact hk0)
          rw [this]; rfl)
        obtain ⟨D, hD⟩ : ∃ D, D = decide (¬ candP O y) := ⟨_, rfl⟩
        have HD := Lib.hid hD
        have HDT := Lib.hid (show ¬ candP O y → D = true from fun hh => by rw [hD]; exact decide_eq_true hh)
        have HDF := Lib.hid (show candP O y → D = false from fun hh => by rw [hD]; exact decide_eq_false (fun h2 => h2 hh))
        clear hD
        go_upto_region 9 with (fail)
        go_cut [45] (fun q wx => wo = wx ∧ q = .bool D)
        case first =>
          by_cases a1 : y < 0
          · have e1 : decide (y < 0) = true := decide_eq_true a1
            have HR := Lib.hid (HDT.out (fun hh => by have := hh.1; unfold okId at this; omega))
            clear a1 hyy HD HDT HDF
            go_wp2_with fail
            go_meet
            exact ⟨rfl, by rw [HR.out]⟩
          · have e1 : decide (y < 0) = false := decide_eq_false a1
            by_cases a2 : 1048576 < y
            · have e2 : decide (1048576 < y) = true := decide_eq_true a2
              have e3 : decide (y > 1048576) = true := e2
              have HR := Lib.hid (HDT.out (fun hh => by have := hh.1; unfold okId at this; omega))
              clear a1 a2 hyy HD HDT HDF
              go_wp2_with fail
              go_meet
              exact ⟨rfl, by rw [HR.out]⟩
            · have e2 : decide (1048576 < y) = false := decide_eq_false a2
              have e3 : decide (y > 1048576) = false := e2
              by_cases a3 : k = 0
              · have e4 : decide (0 < (k : Int)) = false := decide_eq_false (by omega)
                have e5 : decide ((k : Int) > 0) = false := e4
                have e8 : decide (0 < k) = false := decide_eq_false (by omega)
                have HR := Lib.hid (HDF.out ⟨by unfold okId; omega, by rw [HO0.out a3]; omega⟩)
                clear a1 a2 a3 hyy HD HDT HDF
                go_wp2_with fail
                go_meet
                exact ⟨rfl, by rw [HR.out]⟩
              · have e4 : decide (0 < (k : Int)) = true := decide_eq_true (by omega)
                have e5 : decide ((k : Int) > 0) = true := e4
                have e8 : decide (0 < k) = true := decide_eq_true (by omega)
                have hw1 : IntKind.i64.wrap ((k : Int) - 1) = ((k - 1 : Nat) : Int) := by rw [IntKind.wrap_i64]; omega
                have hk1 : ((k - 1 : Nat) : Int) < (k : Int) := by omega
                obtain ⟨go, eo, hat⟩ := ownP_at HOO.out (k := k - 1) (by omega)
                cases eo
                have d3' := hat 3 _ rfl
                have hlast := HOD.out (by omega)
                clear hat
                obtain ⟨la, hla⟩ : ∃ la, la = (O.getD (k - 1) default).id := ⟨_, rfl⟩
                rw [← hla] at hlast
                have d3 : wo.cell? ⟨go, (k - 1) * 6 + 3, none⟩ = some (.int .i64 la) := by rw [hla]; exact d3'
                clear hla d3'
                by_cases a4 : y ≤ la
                · have e6 : decide (y ≤ la) = true := decide_eq_true a4
                  have HR := Lib.hid (HDT.out (fun hh => by have := hh.2; omega))
                  clear a1 a2 a3 a4 hyy HD HDT HDF hlast
                  go_wp2_with fail
                  go_meet
                  exact ⟨rfl, by rw [HR.out]⟩
                · have e6 : decide (y ≤ la) = false := decide_eq_false a4
                  have HR := Lib.hid (HDF.out ⟨by unfold okId; omega, by omega⟩)
                  clear a1 a2 a3 a4 hyy HD HDT HDF hlast
                  go_wp2_with fail
                  go_meet
                  exact ⟨rfl, by rw [HR.out]⟩
        case rest =>
          obtain ⟨rfl, rfl⟩ := hcut
          clear hyy
          cases D with
          | true =>
            have HB2 := Lib.hid (show BestAt O (ids.take (i + 1)) z from by rw [HT.out]; exact best_no HB.out (of_decide_eq_true HD.out.symm))
            clear HD HDT HDF
            go_wp2_with fail
            go_roundg (n - (i + 1))
            case measure => omega
            case rel => exact ⟨i + 1, z, by go_num, rfl, by omega, rfl, hz, HB2, rfl⟩
          | false =>
            have HC := Lib.hid (show candP O y from Classical.not_not.1 (of_decide_eq_false HD.out.symm))
            clear HD HDT HDF
            by_cases a1 : z < 0
            · have e1 : decide (z < 0) = true := decide_eq_true a1
              have HB2 := Lib.hid (show BestAt O (ids.take (i + 1)) y from by rw [HT.out]; exact best_new HB.out HC.out (.inl a1))
              clear a1
              go_wp2_with fail
              go_roundg (n - (i + 1))
              case measure => omega
              case rel => exact ⟨i + 1, y, by go_num, rfl, by omega, rfl, hy, HB2, rfl⟩
            · have e1 : decide (z < 0) = false := decide_eq_false a1
              by_cases a2 : y < z
              · have e2 : decide (y < z) = true := decide_eq_true a2
                have HB2 := Lib.hid (show BestAt O (ids.take (i + 1)) y from by rw [HT.out]; exact best_new HB.out HC.out (.inr a2))
                clear a1 a2
                go_wp2_with fail
                go_roundg (n - (i + 1))
                case measure => omega
                case rel => exact ⟨i + 1, y, by go_num, rfl, by omega, rfl, hy, HB2, rfl⟩
              · have e2 : decide (y < z) = false := decide_eq_false a2
                have HB2 := Lib.hid (show BestAt O (ids.take (i + 1)) z from by rw [HT.out]; exact best_keep HB.out a1 a2)
                clear a1 a2
                go_wp2_with fail
                go_roundg (n - (i + 1))
                case measure => omega
                case rel => exact ⟨i + 1, z, by go_num, rfl, by omega, rfl, hz, HB2, rfl⟩
      · obtain rfl : i = n := by omega
        have hge : ¬ (i : Int) < (i : Int) := by omega
        have HB2 := Lib.hid (show BestAt O ids z from by have := HB.out; rw [List.take_of_length_le (by rw [HLI.out]; exact Nat.le_refl _)] at this; exact this)
        clear HB
        by_cases hz0 : z < 0
        · have e1 : decide (z < 0) = true := decide_eq_true hz0
          have HEND := Lib.hid (out_end HO.out HB2.out hz0)
          have hPw := HP.out.keep HW.out
          obtain ⟨c0, c1, c2, c3, c4, c5, _⟩ := hPw.blk.cells6
          obtain ⟨f0, f1, f2, f3, f4, f5⟩ := hPw.blk.free6
          have HROW := Lib.hid (show wo.ownsRow B 77 6 (.slice Ao k co) O.length (phShape.flat O) from by rw [HOL.out]; exact ownK_base HOO.out hBw)
          have HFIN := Lib.hid (show PlTo w (wo.setCell ⟨pb, 4, none⟩ (.slice Ao k co)) B pb v (.slice Ao k co) O now r from
            ⟨⟨hPw.blk.setTo 4 _ rfl, hPw.low, ownK_mod HROW.out ((Mod.refl (fun g => g = pb) wo).setCell (p := ⟨pb, 4, none⟩) (.inl (show pb = pb from rfl)) _) (fun g hg e => rowK_not hPw.blk HROW.out (by decide) (e ▸ hg))⟩,
            (Mod.of_below HW.out).setCell (p := ⟨pb, 4, none⟩) (.inl (show pIn pb v pb from .inl rfl)) _,
            fun g hg => by
              rcases hg with rfl | hg
              · exact .inl (.inl rfl)
              · exact .inr (HOO.out.lt g hg).1⟩)
          have HLN := Lib.hid (show O.length ≤ 40 by rw [HOL.out]; omega)
          clear hPw hz0 hz
          go_wp2
          go_end0
          exact ⟨rfl, _, O, HFIN.out, HEND.out, HLN.out⟩
        ·
          have e1 : decide (z < 0) = false := decide_eq_false hz0
          have HSTEP := Lib.hid (out_step HO.out HB2.out hz0)
          have hPw := HP.out.keep HW.out
          have CF := law22_find hPw z (by omega)
          have HPW := Lib.hid hPw
          have HW2 := HW.out.size
          rcases place_of now L z with ⟨kk, hp1, hp2, hp3⟩ | ⟨hp1, hp2⟩
          · rw [hp1] at CF
            rw [← hp3] at HSTEP
            have HKK := Lib.hid hp2
            clear hp1 hp2 hp3 hPw hz0
            go_wp2_with fail
            refine CF.mono ?_; rintro e w5 ⟨rfl, rfl⟩
            clear CF
            have e7 : (0 : Int) ≤ (kk : Int) := by omega
            have e8 : decide ((0 : Int) ≤ (kk : Int)) = true := decide_eq_true e7
            have e9 : decide ((kk : Int) ≥ 0) = true := e8
            obtain ⟨c0, c1, c2, c3, c4, c5, _⟩ := HPW.out.blk.cells6
            obtain ⟨g, n2, c2', hv, hn2, hcc1, hcc2, hg, hpg, hat⟩ := HPW.out.at_ HKK.out
            subst hv
            have hkk2 : (kk : Int) < (n2 : Int) := by have := HKK.out; omega
            clear hn2
            generalize L.getD kk default = x at *
            have d0 : wo.cell? ⟨g, kk * 6, none⟩ = _ := hat 0 _ rfl
            have d1 := hat 1 _ rfl
            have d2 := hat 2 _ rfl
            have d3 := hat 3 _ rfl
            have d4 := hat 4 _ rfl
            have d5 := hat 5 _ rfl
            clear hat
            go_upto_region 3 with (at_builtin; go_loud (refine wpList_append_any _ rfl (.tmp 61) (.tmp 69) _ rfl w.heap.size 77 iP _ 6 40 Try.underlying56 hiP hzP hzP1 hzP2 rfl (by decide) _ k (phShape.flat O) rfl (HOO.out.alloc _) _ (some ⟨wo.heap.size, 0, none⟩) 1 1 [.bool x.up, .bool x.asked, .int .i64 x.row, .int .i64 x.id, .int .i64 x.next, .int .i64 x.last] rfl (readsK_new wo 77 6 [.bool x.up, .bool x.asked, .int .i64 x.row, .int .i64 x.id, .int .i64 x.next, .int .i64 x.last] rfl) (by intro u hu; simp at hu; rcases hu with rfl | rfl | rfl | rfl | rfl | rfl <;> rfl) (by simp only [maxLen]; omega) (by omega) (by simp; omega) ?_; intro v6 w6 hown6 hg6 hat6))
            have hown7 : w6.ownsRow w.heap.size 77 6 v6 (O ++ [x]).length (phShape.flat (O ++ [x])) := by rw [List.length_append, HOL.out, phShape.flat_snoc]; exact hown6
            have hW6 := belowK_grown (HW.out.alloc HW2 (.cells #[.bool x.up, .bool x.asked, .int .i64 x.row, .int .i64 x.id, .int .i64 x.next, .int .i64 x.last] 77)) (by simp; omega) hg6 (fun g hg => (HOO.out.lt g hg).1)
            have HOL2 := Lib.hid (show (O ++ [x]).length = k + 1 by rw [List.length_append, HOL.out]; rfl)
            clear hown6 hg6 hat6 d0 d1 d2 d3 d4 d5 c0 c1 c2 c3 c4 c5
            go_wp2
            go_roundg (41 - (k + 1))
            case measure => omega
            case rel => exact ⟨k + 1, O ++ [x], by go_num, by omega, rfl, HOL2.out, HSTEP, hown7, hW6⟩
          · rw [hp1] at CF
            rw [hp2] at HSTEP
            clear hp1 hp2 hPw hz0
            go_wp2_with fail
            refine CF.mono ?_; rintro e w5 ⟨rfl, rfl⟩
            clear CF
            have e8 : decide ((0 : Int) ≤ (-1 : Int)) = false := by decide
            obtain ⟨c0, c1, c2, c3, c4, c5, _⟩ := HPW.out.blk.cells6
            go_upto_region 3 with (at_builtin; go_loud (refine wpList_append_any _ rfl (.tmp 71) (.tmp 79) _ rfl w.heap.size 77 iP _ 6 40 Try.underlying56 hiP hzP hzP1 hzP2 rfl (by decide) _ k (phShape.flat O) rfl (HOO.out.alloc _) _ (some ⟨wo.heap.size, 0, none⟩) 1 1 [.bool false, .bool false, .int .i64 0, .int .i64 z, .int .i64 (now + 1), .int .i64 (-1)] rfl (readsK_new wo 77 6 [.bool false, .bool false, .int .i64 0, .int .i64 z, .int .i64 (now + 1), .int .i64 (-1)] rfl) (by intro u hu; simp at hu; rcases hu with rfl | rfl | rfl | rfl | rfl <;> rfl) (by simp only [maxLen]; omega) (by omega) (by simp; omega) ?_; intro v6 w6 hown6 hg6 hat6))
            have hown7 : w6.ownsRow w.heap.size 77 6 v6 (O ++ [freshPh now z]).length (phShape.flat (O ++ [freshPh now z])) := by rw [List.length_append, HOL.out, phShape.flat_snoc]; exact hown6
            have hW6 := belowK_grown (HW.out.alloc HW2 (.cells #[.bool false, .bool false, .int .i64 0, .int .i64 z, .int .i64 (now + 1), .int .i64 (-1)] 77)) (by simp; omega) hg6 (fun g hg => (HOO.out.lt g hg).1)
            have HOL2 := Lib.hid (show (O ++ [freshPh now z]).length = k + 1 by rw [List.length_append, HOL.out]; rfl)
            clear hown6 hg6 hat6 c0 c1 c2 c3 c4 c5
            go_wp2
            go_roundg (41 - (k + 1))
            case measure => omega
            case rel => exact ⟨k + 1, O ++ [freshPh now z], by go_num, by omega, rfl, HOL2.out, HSTEP, hown7, hW6⟩
end Go.Proofs.Ytcpfekhpbjkgeaa
end
