/- TreeUps. -/
import Derived.Test.YtdkijmiflommeaaTreePlain2
set_option linter.unusedVariables false
namespace Go.Proofs.Ytdkijmiflommeaa
open Go.RowKit
set_option maxHeartbeats 8000000
set_option maxRecDepth 100000
theorem law_up {A : Option Addr} {n c : Nat} {l : List Nd} {w : World} (h : IsNodes w A n c l) (ht : Tall l) (i kind : Int) : Calls Try.prog 30 #[.slice A n c, .int .i64 i, .int .i64 kind] w fun e w' => e = .returned (.int .i64 (up l kind i)) ∧ w = w' := by
  rw [← up_four ht]; exact law16_up h i kind
theorem tr_Level' {b : Nat} {l : List Nd} {w : World} (h : TR w b l) (hr : Rises l) (i : Int) : Calls Try.prog 33 #[.pointer (some ⟨b, 0, none⟩), .int .i64 i] w fun e w' => e = .returned (.int .i64 (idxI (up l 1 i) (idx (isK 1) l))) ∧ w = w' := by
  have := tr_Level h hr i
  rwa [level_all] at this
theorem below_le (l : List Nd) (i : Int) (k : Nat) : (belowTo l i k).length ≤ l.length := by
  unfold belowTo
  split
  · simp
  · refine Nat.le_trans (List.length_filter_le _ _) (Nat.le_trans (idx_le _ _) ?_)
    rw [List.length_take]; omega
theorem below_wf (l : List Nd) (i : Int) (hf : l.length ≤ 1024) : ∀ z ∈ belowOf l i, (Lit.int .i64 z).wf = true := by
  intro z hz
  unfold belowOf at hz
  split at hz
  · simp at hz
  · exact idx_wf (isK 4) l hf z (List.mem_filter.1 hz).1
theorem treeUps_walk (w : World) (A : Option Addr) (n0 c : Nat) (l0 : List Nd) (hl0 : IsNodes w A n0 c l0) (i : Int) (i0 : -9223372036854775808 ≤ i) (i1 : i ≤ 9223372036854775807) (kind : Int) (k0 : -9223372036854775808 ≤ kind) (k1 : kind ≤ 9223372036854775807) :
    Calls Try.prog 5 #[.slice A n0 c, .int .i64 i, .int .i64 kind] w fun e w' => e = .returned (.bool true) ∧ Below w.heap.size w w' := by
  obtain ⟨iI, hiI, hzI, hzI1, hzI2⟩ := info_parts Try.infoI
  have hmd := law_Made w A n0 c l0 hl0
  have ht0 := Lib.hid (made_tall (l0.take 60))
  have hl60 : (made (l0.take 60)).length ≤ 60 := Nat.le_trans (made_len _) (by rw [List.length_take]; omega)
  generalize made (l0.take 60) = l at *
  clear hl0
  go_enter Try.func5, Try.ntmps5
  go_wp2_with fail
  refine hmd.mono ?_; rintro e w1 ⟨b, A1, c1, rfl, hT, hN, hx1⟩
  clear hmd
  obtain ⟨n, hn⟩ : ∃ n, n = l.length := ⟨_, rfl⟩
  rw [← hn] at hN hl60 ⊢
  have hlen := Lib.hid hn.symm
  clear hn
  have hcap := hN.cap
  have hsm := hN.small
  have hr := tall_rises ht0.out
  go_wp2_with fail
  go_loopg [9, 10, 11, 12] n (fun gg s9 s10 s11 s12 wr => ∃ k : Nat, k ≤ n ∧ gg = n - k ∧ s12 = .int .i64 k ∧ s10 = .int .i64 (idxI (up l 1 i) (idx (isK 1) (l.take k))) ∧ s11 = .int .i64 (idx (isK 1) (l.take k)).length ∧ wr.ownsRow w1.heap.size 3 1 s9 (belowTo l i k).length (ints (belowTo l i k)) ∧ Below w1.heap.size w1 wr)
  case atStart => exact ⟨0, Nat.zero_le _, rfl, rfl, rfl, rfl, by unfold belowTo; simp [idx_nil]; exact World.ownsRow_nil _ _ _ _, Below.refl _ _⟩
  case round =>
    obtain ⟨k, hk, rfl, rfl, rfl, rfl, hown, hW⟩ := hrel
    by_cases hkn : k < n
    · obtain ⟨ad, rfl, hbk, d0, d1, d2, d3, d4, d5, d6⟩ := (hN.keep hW).at_ hkn
      have hki : (k : Int) < (n : Int) := by omega
      have hkl : k < l.length := by rw [hlen.out]; exact hkn
      have HB := Lib.hid (below_step' (l := l) i k hkl)
      have HL := Lib.hid (level_step (l := l) (up l 1 i) k hkl)
      have HC := Lib.hid (show ((idx (isK 1) (l.take (k + 1))).length : Int) = (idx (isK 1) (l.take k)).length + if (l.getD k nd0).kind = 1 then 1 else 0 by
        rw [idx_take _ l k hkl, List.length_append]; unfold isK
        generalize l.getD k nd0 = x
        by_cases e : x.kind = 1 <;> simp [e])
      have hcl := idx_le (isK 1) (l.take k)
      rw [List.length_take] at hcl
      have HH := Lib.hid (tall_head ht0.out k hkl)
      have HA := Lib.hid (tall_below ht0.out k hkl)
      have HU := Lib.hid (up_level ht0.out 4 k (by omega) (by omega) (by rw [ndAt_nat]; exact (tall_head ht0.out k hkl).kind1))
      have HZ := Lib.hid (kind_zero ht0.out i)
      have hol := below_le l i k
      rw [hlen.out] at hol
      have U := fun w h a b => law_up (A := some ad) (n := n) (c := c1) (w := w) h ht0.out a b
      obtain ⟨x, hx⟩ : ∃ x, x = l.getD k nd0 := ⟨_, rfl⟩
      rw [← hx] at d0 d1 d2 d3 d4 d5 d6 HB HL HC HH HA
      have HX := Lib.hid hx
      clear hx
      obtain ⟨out, ho⟩ : ∃ out, out = belowTo l i k := ⟨_, rfl⟩
      rw [← ho] at hown hol HB
      clear ho
      obtain ⟨lev, ho⟩ : ∃ lev, lev = idxI (up l 1 i) (idx (isK 1) (l.take k)) := ⟨_, rfl⟩
      rw [← ho] at HL
      rw [← ho]
      clear ho
      obtain ⟨cnt, ho⟩ : ∃ cnt, cnt = (idx (isK 1) (l.take k)).length := ⟨_, rfl⟩
      rw [← ho] at HL HC hcl
      rw [← ho]
      clear ho
      go_upto_region 9 with (fail)
      go_cut [53] (fun s wx => wr = wx ∧ s = .bool (decide ((ndAt l i).kind ≠ 0 ∧ x.kind = 4 ∧ up l (ndAt l i).kind k = i)))
      case first =>
        by_cases hi : 0 ≤ i ∧ i < n
        · have hz : (ndAt l i).kind ≠ 0 := by
            intro h
            have := HZ.out.1 h
            rw [hlen.out] at this
            omega
          have HZ1 := Lib.hid hz
          clear hz
          obtain ⟨hi0, hi1⟩ := hi
          obtain ⟨ad2, e2, _, _, y1, _⟩ := (hN.keep hW).at_ (k := i.toNat) (by omega)
          obtain rfl : ad2 = ad := by injection e2 with e2; exact e2.symm
          rw [← ndAt_in hi0] at y1
          generalize ndAt l i = y at *
          have g1 : decide (0 ≤ i) = true := decide_eq_true hi0
          have g2 : decide (i < (n : Int)) = true := decide_eq_true hi1
          by_cases h4 : x.kind = 4
          · have g3 : (x.kind == 4) = true := by rw [beq_iff_eq]; exact h4
            have HE := Lib.hid (show decide (y.kind ≠ 0 ∧ x.kind = 4 ∧ up l y.kind k = i) = (up l y.kind k == i) by
              by_cases e : up l y.kind k = i <;> simp [e, h4, HZ1.out])
            clear h4
            go_wp2_with fail
            refine (U _ (hN.keep hW) _ _).mono ?_; rintro e w' ⟨rfl, rfl⟩
            go_wp2_with fail
            go_meet
            exact ⟨rfl, by rw [HE.out]⟩
          · have g3 : (x.kind == 4) = false := by rw [beq_eq_false_iff_ne]; exact h4
            have HE := Lib.hid (show decide (y.kind ≠ 0 ∧ x.kind = 4 ∧ up l y.kind k = i) = false by simp [h4])
            clear h4
            go_wp2_with fail
            go_meet
            exact ⟨rfl, by rw [HE.out]⟩
        · have HE := Lib.hid (show decide ((ndAt l i).kind ≠ 0 ∧ x.kind = 4 ∧ up l (ndAt l i).kind k = i) = false by
            have := HZ.out.2 (by rw [hlen.out]; omega)
            simp [this])
          by_cases h0 : 0 ≤ i
          · have g1 : decide (0 ≤ i) = true := decide_eq_true h0
            have g2 : decide (i < (n : Int)) = false := decide_eq_false (by omega)
            clear hi
            go_wp2_with fail
            go_meet
            exact ⟨rfl, by rw [HE.out]⟩
          · have g1 : decide (0 ≤ i) = false := decide_eq_false h0
            clear hi
            go_wp2_with fail
            go_meet
            exact ⟨rfl, by rw [HE.out]⟩
      case rest =>
        obtain ⟨rfl, rfl⟩ := hcut
        obtain ⟨R, hR⟩ : ∃ R, R = belowTo l i (k + 1) := ⟨_, rfl⟩
        rw [← hR] at HB
        go_upto_if 53 with (fail)
        go_cut [9] (fun s wx => wx.ownsRow w1.heap.size 3 1 s R.length (ints R) ∧ Below w1.heap.size w1 wx)
        case first =>
          by_cases hc : (ndAt l i).kind ≠ 0 ∧ x.kind = 4 ∧ up l (ndAt l i).kind k = i
          · rw [if_pos hc] at HB
            rw [decide_eq_true hc]
            clear hc
            go_wp2_with (at_builtin; go_loud (refine wpList_append_any _ rfl (.tmp 54) (.tmp 56) _ rfl w1.heap.size 3 iI _ 1 8 Try.underlying40 hiI hzI hzI1 hzI2 rfl (by decide) _ _ (ints out) rfl (hown.alloc _) _ (some ⟨wr.heap.size, 0, none⟩) 1 1 [.int .i64 k] rfl (one_reads wr 3 1 [.int .i64 k] rfl) (by intro u hu; simp at hu; subst hu; rfl) (by simp only [maxLen]; omega) (by omega) (by have := hW.size; simp; omega) ?_; intro v6 w6 hown6 hg6 hat6))
            have hW6 := push_below (hW.alloc hW.size _) hg6 (own_from hown)
            go_meet
            exact ⟨by rw [HB.out]; simpa [ints] using hown6, hW6⟩
          · rw [if_neg hc, List.append_nil] at HB
            rw [decide_eq_false hc]
            clear hc
            go_wp2_with fail
            go_meet
            exact ⟨by rw [HB.out]; exact hown, hW⟩
        case rest =>
          obtain ⟨hownR, hWR⟩ := hcut
          subst hR
          clear hown hW d0 d1 d2 d3 d4 d5 d6 HB hol
          obtain ⟨ad3, e3, _, d0, d1, d2, d3, d4, d5, d6⟩ := (hN.keep hWR).at_ hkn
          obtain rfl : ad3 = ad := by injection e3 with e3; exact e3.symm
          rw [← HX.out] at d0 d1 d2 d3 d4 d5 d6
          by_cases h1 : x.kind = 1
          · have g1 : (x.kind == 1) = true := by rw [beq_iff_eq]; exact h1
            have g2 : decide (1 < x.kind) = false := decide_eq_false (by omega)
            rw [if_pos h1] at HC
            have HL1 := Lib.hid (show up l 1 i = k → _ from fun h => HL.out.trans (if_pos ⟨h1, h⟩))
            have HL2 := Lib.hid (show ¬ up l 1 i = k → _ from fun h => HL.out.trans (if_neg (by rintro ⟨_, h2⟩; exact h h2)))
            clear h1 HL
            have U1 := U wc (hN.keep hWR) i 1
            generalize up l 1 i = u at *
            by_cases hu : u = k
            · have g3 : (u == (k : Int)) = true := by rw [beq_iff_eq]; exact hu
              have HE := Lib.hid (HL1.out hu)
              clear HL1 HL2 hu
              go_wp2_with fail
              refine U1.mono ?_; rintro e w' ⟨rfl, rfl⟩
              go_wp2
              go_roundg (n - (k + 1))
              case measure => omega
              case rel => exact ⟨k + 1, by omega, rfl, by go_num, by rw [HE.out], by rw [HC.out], hownR, hWR⟩
            · have g3 : (u == (k : Int)) = false := by rw [beq_eq_false_iff_ne]; exact hu
              have HE := Lib.hid (HL2.out hu)
              clear HL1 HL2 hu
              go_wp2_with fail
              refine U1.mono ?_; rintro e w' ⟨rfl, rfl⟩
              go_wp2
              go_roundg (n - (k + 1))
              case measure => omega
              case rel => exact ⟨k + 1, by omega, rfl, by go_num, by rw [HE.out], by rw [HC.out], hownR, hWR⟩
          · have g1 : (x.kind == 1) = false := by rw [beq_eq_false_iff_ne]; exact h1
            have hk0 := HH.out.kind0
            have g2 : decide (1 < x.kind) = true := decide_eq_true (by omega)
            rw [if_neg h1] at HC
            have HE := Lib.hid (HL.out.trans (if_neg (by rintro ⟨h, _⟩; exact h1 h)))
            obtain ⟨ha0, ha1, _⟩ := HA.out (by omega)
            have g3 : decide (x.above < 0) = false := decide_eq_false (by omega)
            have g4 : decide ((k : Int) ≤ x.above) = false := decide_eq_false (by omega)
            have U1 := U wc (hN.keep hWR) k 1
            have hup := HU.out
            generalize up l 1 (k : Int) = u at *
            have g5 : decide (u < 0) = false := decide_eq_false (by omega)
            clear h1 hk0 HL
            go_wp2_with fail
            refine U1.mono ?_; rintro e w' ⟨rfl, rfl⟩
            go_wp2
            go_roundg (n - (k + 1))
            case measure => omega
            case rel => exact ⟨k + 1, by omega, rfl, by go_num, by rw [HE.out], by rw [HC.out]; simp, hownR, hWR⟩
    · obtain rfl : k = n := by omega
      have hbl := below_all l i
      rw [hlen.out] at hbl
      rw [hbl] at hown
      have hb60 := below_le l i k
      rw [hbl, hlen.out] at hb60
      have hwfb := Lib.hid (below_wf l i hT.few)
      clear hbl
      have htl : l.take k = l := List.take_of_length_le (by rw [hlen.out]; exact Nat.le_refl _)
      rw [htl]
      clear htl
      obtain ⟨AO, cO, rfl, hO, _⟩ := own_list hown hwfb.out (by omega)
      have hTr := hT.keep hW
      have hNr := hN.keep hW
      have U1 := tr_Up hTr hr i kind
      have U2 := law_up hNr ht0.out i kind
      have B1 := tr_Below hTr hr i
      have L1 := fun w h => tr_Level' (b := b) (l := l) (w := w) h hr i
      have hW1 := below_step hx1 hW
      clear hown hT hN
      generalize up l kind i = up0 at *
      generalize idxI (up l 1 i) (idx (isK 1) l) = lev0 at *
      go_wp2_with fail
      refine U1.mono ?_; rintro e w' ⟨rfl, rfl⟩
      go_wp2_with fail
      refine U2.mono ?_; rintro e w' ⟨rfl, rfl⟩
      go_wp2_with fail
      refine B1.mono ?_; rintro e w2 ⟨A2, c2, rfl, hI2, hx2⟩
      go_wp2_with fail
      refine (law16_same hI2 (hO.keep hx2)).mono ?_; rintro e w3 ⟨rfl, hx3⟩
      rw [decide_eq_true rfl]
      go_wp2_with fail
      refine (L1 _ ((hTr.keep hx2).keep hx3)).mono ?_; rintro e w' ⟨rfl, rfl⟩
      go_wp2_with fail
      refine (law16_awake _).mono ?_; rintro e w4 ⟨rfl, hx4⟩
      go_wp2
      go_ret
      exact ⟨by simp, below_step (below_step (below_step hW1 hx2) hx3) hx4⟩
end Go.Proofs.Ytdkijmiflommeaa
