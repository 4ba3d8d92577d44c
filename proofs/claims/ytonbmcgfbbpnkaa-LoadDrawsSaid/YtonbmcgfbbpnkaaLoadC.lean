/- How much each level gets. -/
import Derived.Test.YtonbmcgfbbpnkaaLoadB
import Derived.Test.YtonbmcgfbbpnkaaUnder
set_option linter.unusedVariables false
namespace Go.Proofs.Ytonbmcgfbbpnkaa
open Go.RowKit
set_option maxHeartbeats 2000000
set_option maxRecDepth 100000
theorem Try.infoInt : (Try.prog.info? 3).map (fun i => (i.zero, i.size, i.bytes)) = some (some (.int .i64 0), 1, 8) := by kernel_rfl
/-- The healths. -/
def hH (H A : List Int) (f : Int) (k : Nat) : Int := hI (H.getD k 0) (A.getD k 0) f
theorem hH_bd (H A : List Int) (f : Int) : ∀ k, 0 ≤ hH H A f k ∧ hH H A f k ≤ 10000 := fun k => hI_bd _ _ _
/-- None of the first k has a host. -/
def noneTo (H : List Int) : Nat → Bool
  | 0 => true
  | k + 1 => noneTo H k && decide (H.getD k 0 ≤ 0)
theorem noneTo_at {H : List Int} {i : Nat} : ∀ {n : Nat}, noneTo H n = true → i < n → H.getD i 0 ≤ 0
  | 0, _, h => by omega
  | n + 1, h, hi => by
    rw [noneTo, Bool.and_eq_true, decide_eq_true_eq] at h
    by_cases e : i = n
    · subst e; exact h.2
    · exact noneTo_at h.1 (by omega)
theorem noneTo_bad {H : List Int} {m : Nat} (hp : 0 < H.getD m 0) {i : Nat} (hi : m < i) : noneTo H i = false := by
  cases h : noneTo H i with
  | false => rfl
  | true => have := noneTo_at h hi; omega
def tot (H A : List Int) (f : Int) (n : Nat) : Int := if 10000 < hSum (hH H A f) n then 10000 else hSum (hH H A f) n
theorem tot_bd (H A : List Int) (f : Int) (n : Nat) : 0 ≤ tot H A f n ∧ tot H A f n ≤ 10000 := by
  have := hSum_bd _ (hH_bd H A f) n
  unfold tot
  split <;> omega
def ofI (H A : List Int) (f : Int) (n k : Nat) : Int := got (hH H A f) (tot H A f n) k + if noneTo H k && decide (0 < H.getD k 0) then leftTo (hH H A f) (tot H A f n) n else 0
theorem ofI_first {H A : List Int} {f : Int} {n m : Nat} (h : noneTo H m = true) (hp : 0 < H.getD m 0) : ofI H A f n m = got (hH H A f) (tot H A f n) m + leftTo (hH H A f) (tot H A f n) n := by
  unfold ofI
  rw [h, decide_eq_true hp]
  rfl
theorem ofI_other {H A : List Int} {f : Int} {n m i : Nat} (h : noneTo H m = true) (hp : 0 < H.getD m 0) (hi : i ≠ m) : ofI H A f n i = got (hH H A f) (tot H A f n) i := by
  have : (noneTo H i && decide (0 < H.getD i 0)) = false := by
    rcases Nat.lt_or_ge i m with hl | hl
    · rw [decide_eq_false (by have := noneTo_at h hl; omega)]; simp
    · rw [noneTo_bad hp (by omega)]; rfl
  unfold ofI
  rw [this]
  simp
theorem ofI_none {H A : List Int} {f : Int} {n i : Nat} (h : noneTo H n = true) (hi : i < n) : ofI H A f n i = got (hH H A f) (tot H A f n) i := by
  have : (noneTo H i && decide (0 < H.getD i 0)) = false := by
    rw [decide_eq_false (by have := noneTo_at h hi; omega)]; simp
  unfold ofI
  rw [this]
  simp
theorem load_Of_no (A1 A2 : Option Addr) (n1 n2 c1 c2 : Nat) (H A : List Int) (f : Int) (w : World) (hH : IsList w .i64 A1 n1 c1 H) (hA : IsList w .i64 A2 n2 c2 A) (h : lRight H A f = false) :
    Calls Try.prog 106 #[.slice A1 n1 c1, .slice A2 n2 c2, .int .i64 f] w fun e w' => e = .returned (.slice none 0 0) ∧ Below w.heap.size w w' := by
  go_enter Try.func106, Try.ntmps106
  go_wp2_with fail
  refine (load_Right A1 A2 n1 n2 c1 c2 H A f _ hH hA).mono ?_; rintro e w' ⟨rfl, d, rfl⟩
  rw [h]
  go_wp2
  go_ret
  exact ⟨rfl, below_drewN (Below.refl _ _) _⟩
theorem load_Of (A1 A2 : Option Addr) (n c1 c2 : Nat) (H A : List Int) (f : Int) (w : World) (hHl : IsList w .i64 A1 n c1 H) (hAl : IsList w .i64 A2 n c2 A) (h : lRight H A f = true) :
    Calls Try.prog 106 #[.slice A1 n c1, .slice A2 n c2, .int .i64 f] w fun e w' => ∃ g : Nat, e = .returned (.slice (some ⟨g, 0, none⟩) n n) ∧ w.heap.size ≤ g ∧ w'.rowIs g 3 n (fun k => .int .i64 (ofI H A f n k)) ∧ Below w.heap.size w w' := by
  have L1 := hHl.len
  have hc1 := hHl.cap
  have hc2 := hAl.cap
  have hs1 := hHl.small
  have hs2 := hAl.small
  have hrt := rowsTo_of h
  rw [L1] at hrt
  obtain ⟨hn4, hf1, hf2, hrows⟩ := hrt
  have HROWS := Lib.hid hrows
  clear hrows L1
  have hmk := run_make_row' (P := Try.prog) 126 3 (.int .i64 0) 8 Try.underlying126 Try.infoInt rfl .i64 .i64 n (by omega) (by omega)
  go_enter Try.func106, Try.ntmps106
  go_wp2_with fail
  refine (load_Right A1 A2 n n c1 c2 H A f _ hHl hAl).mono ?_; rintro e w' ⟨rfl, d, rfl⟩
  rw [h]
  go_wp2_with fail
  have hg0 := World.rowIs_made (w.drewN d) (.int .i64 0) n 3
  have hW0 : Below w.heap.size w ((w.drewN d).alloc (.cells (madeCells #[.int .i64 0] n) 3)) := (below_drewN (Below.refl _ _) d).alloc (Nat.le_refl _) _
  have hgz : (w.drewN d).heap.size = w.heap.size := rfl
  rw [hgz] at hg0
  clear hgz hmk
  generalize (w.drewN d).alloc (.cells (madeCells #[.int .i64 0] n) 3) = u at *
  generalize hG : w.heap.size = g at *
  have hgB : w.heap.size ≤ g := by omega
  have HG := Lib.hid hG
  clear hG
  go_loopg [8, 25] n (fun gk s8 i wr => ∃ k : Nat, k ≤ n ∧ gk = n - k ∧ i = .int .i64 k ∧ s8 = .int .i64 (hSum (hH H A f) k) ∧ wr.rowIs g 3 n (fun _ => .int .i64 0) ∧ Below w.heap.size w wr)
  case atStart => exact ⟨0, Nat.zero_le _, rfl, rfl, rfl, hg0, by rw [HG.out]; exact hW0⟩
  case round =>
    clear hg0 hW0
    obtain ⟨k, hk, rfl, rfl, rfl, hg, hW⟩ := hrel
    have hsb := hSum_bd _ (hH_bd H A f) k
    have hst : hSum (hH H A f) (k + 1) = hSum (hH H A f) k + hI (H.getD k 0) (A.getD k 0) f := rfl
    by_cases hlt : k < n
    · obtain ⟨r1, r2, r3⟩ := HROWS.out k hlt
      obtain ⟨ad, rfl, _, x0, _⟩ := (hHl.keep hW).get hlt
      obtain ⟨ad2, rfl, _, y0, _⟩ := (hAl.keep hW).get hlt
      have U0 := cell_under x0
      have U1 := cell_under y0
      have hib := hI_bd (H.getD k 0) (A.getD k 0) f
      have HST := Lib.hid hst
      have hki : (k : Int) < (n : Int) := by omega
      have hk0 : (0 : Int) ≤ (k : Int) := by omega
      have A0 := fun w => load_Health (H.getD k 0) (A.getD k 0) f (by omega) r3 (by omega) w
      clear hst x0 y0 r1 r2 r3
      generalize hSum (hH H A f) k = S at *
      have k1 : IntKind.i64.wrap (S + hI (H.getD k 0) (A.getD k 0) f) = S + hI (H.getD k 0) (A.getD k 0) f := IntWalk.i64_in _ (by omega)
      generalize H.getD k 0 = x at *
      generalize A.getD k 0 = y at *
      go_wp2_with fail
      refine wp_region_quiet_under (by kernel_rfl) (by kernel_rfl) ?_
      repeat (go_big_quiet_step (((go_at_call 104; exact calls_under (A0 _)))))
      refine wpQuiet_nil ?_
      intro wu hw'
      obtain ⟨pq, hw''⟩ := hw'
      have hU := below_eq hw''
      clear hw'' pq
      have hg2 := row_keep hg hU
      have hW2 := below_step hW hU
      clear hg hW hU U0 U1 A0 k1
      go_wp2
      go_roundg (n - (k + 1))
      case measure => omega
      case rel => exact ⟨k + 1, by omega, rfl, by go_num, by rw [HST.out], hg2, hW2⟩
    · obtain rfl : k = n := by omega
      clear hst hlt
      have ht : tot H A f k = if 10000 < hSum (hH H A f) k then 10000 else hSum (hH H A f) k := rfl
      have HT := Lib.hid ht
      clear ht
      go_wp2_with fail
      refine (load_least _ _ _).mono ?_; rintro e w' ⟨rfl, rfl⟩
      rw [← HT.out]
      have htb := tot_bd H A f k
      obtain ⟨t, ht⟩ : ∃ t, t = tot H A f k := ⟨_, rfl⟩
      rw [← ht] at htb ⊢
      have HT2 := Lib.hid ht
      clear ht hsb
      go_wp2_with fail
      go_loopg [11, 45] k (fun gk s11 i wr => ∃ j : Nat, j ≤ k ∧ gk = k - j ∧ i = .int .i64 j ∧ s11 = .int .i64 (leftTo (hH H A f) t j) ∧ wr.rowIs g 3 k (fun m => .int .i64 (if m < j then got (hH H A f) t m else 0)) ∧ Below w.heap.size w wr)
      case atStart => exact ⟨0, Nat.zero_le _, rfl, rfl, rfl, hg, hW⟩
      case round =>
        clear hg hW
        obtain ⟨j, hj, rfl, rfl, rfl, hg, hW⟩ := hrel
        have hlb := left_bd (hH_bd H A f) htb.1 j
        have hgb := got_bd (hH_bd H A f) htb.1 j
        have hst : leftTo (hH H A f) t (j + 1) = leftTo (hH H A f) t j - got (hH H A f) t j := rfl
        by_cases hlt : j < k
        · by_cases htp : 0 < t
          · obtain ⟨r1, r2, r3⟩ := HROWS.out j hlt
            obtain ⟨ad, rfl, _, x0, _⟩ := (hHl.keep hW).get hlt
            obtain ⟨ad2, rfl, _, y0, _⟩ := (hAl.keep hW).get hlt
            have U0 := cell_under x0
            have U1 := cell_under y0
            have hib := hI_bd (H.getD j 0) (A.getD j 0) f
            have hgt : got (hH H A f) t j = if leftTo (hH H A f) t j < hI (H.getD j 0) (A.getD j 0) f * 10000 / t then leftTo (hH H A f) t j else hI (H.getD j 0) (A.getD j 0) f * 10000 / t := by
              show part _ _ _ _ = _
              unfold part
              rw [if_pos htp]
              rfl
            have HST := Lib.hid hst
            have HGT := Lib.hid hgt
            have hki : (j : Int) < (k : Int) := by omega
            have hk0 : (0 : Int) ≤ (j : Int) := by omega
            have A0 := fun w => load_Health (H.getD j 0) (A.getD j 0) f (by omega) r3 (by omega) w
            clear hst hgt x0 y0 r1 r2 r3
            generalize H.getD j 0 = x at *
            generalize A.getD j 0 = y at *
            obtain ⟨L, hL⟩ : ∃ L, L = leftTo (hH H A f) t j := ⟨_, rfl⟩
            obtain ⟨G, hGt⟩ : ∃ G, G = got (hH H A f) t j := ⟨_, rfl⟩
            rw [← hL, ← hGt] at HST HGT
            rw [← hL] at hlb ⊢
            rw [← hGt] at hgb
            have HGG := Lib.hid hGt
            clear hL hGt
            have hdv := div_bd (a := hI x y f * 10000) (e := t) (by omega) (by omega)
            have k1 : IntKind.i64.wrap (hI x y f * 10000) = hI x y f * 10000 := IntWalk.i64_in _ (by omega)
            have k2 : (hI x y f * 10000).tdiv t = hI x y f * 10000 / t := Int.tdiv_eq_ediv_of_nonneg (by omega)
            have k3 : IntKind.i64.wrap (hI x y f * 10000 / t) = hI x y f * 10000 / t := IntWalk.i64_in _ (by omega)
            have k4 : (t == 0) = false := by simp; omega
            go_wp2_with fail
            refine wp_region_quiet_under (by kernel_rfl) (by kernel_rfl) ?_
            repeat (go_big_quiet_step ((first | (go_at_call 104; exact calls_under (A0 _)) | (go_at_call 132; exact calls_under_same (load_least _ _ _)))))
            refine wpQuiet_nil ?_
            intro wu hw'
            obtain ⟨pq, hw''⟩ := hw'
            have hU := below_eq hw''
            clear hw'' pq
            rw [← HGT.out]
            have hg2 := row_keep hg hU
            have hW2 := below_step hW hU
            have hc := hg2.cell hlt
            have hfz := hg2.frozen j
            clear hg hW hU U0 U1 A0 k1 k2 k3 k4 hdv hib HGT
            go_wp2
            go_roundg (k - (j + 1))
            case measure => omega
            case rel =>
              refine ⟨j + 1, by omega, rfl, by go_num, by rw [HST.out], (hg2.set j (.int .i64 G)).congr ?_, below_own hW2 (by omega) _ _⟩
              intro m hm
              by_cases e : m = j
              · subst e
                rw [if_pos rfl, if_pos (by omega), ← HGG.out]
              · rw [if_neg e]
                by_cases e2 : m < j
                · rw [if_pos e2, if_pos (by omega)]
                · rw [if_neg e2, if_neg (by omega)]
          · have hgt : got (hH H A f) t j = 0 := by
              show part _ _ _ _ = _
              unfold part
              rw [if_neg htp]
            have HST := Lib.hid (show leftTo (hH H A f) t (j + 1) = leftTo (hH H A f) t j by rw [hst, hgt]; omega)
            have htd : decide (0 < t) = false := decide_eq_false htp
            clear hst
            have HGT := Lib.hid hgt
            clear hgt
            generalize leftTo (hH H A f) t j = L at *
            go_wp2
            go_roundg (k - (j + 1))
            case measure => omega
            case rel =>
              refine ⟨j + 1, by omega, rfl, by go_num, by rw [HST.out], hg.congr ?_, hW⟩
              intro m hm
              by_cases e : m = j
              · subst e
                rw [if_neg (by omega), if_pos (by omega), HGT.out]
              · by_cases e2 : m < j
                · rw [if_pos e2, if_pos (by omega)]
                · rw [if_neg e2, if_neg (by omega)]
        · obtain rfl : j = k := by omega
          have hg' : wr.rowIs g 3 j (fun m => .int .i64 (got (hH H A f) t m)) := hg.congr (fun m hm => by rw [if_pos hm])
          clear hg hst hgb
          obtain ⟨L, hL⟩ : ∃ L, L = leftTo (hH H A f) t j := ⟨_, rfl⟩
          rw [← hL] at hlb ⊢
          have HL := Lib.hid hL
          clear hL
          go_wp2_with fail
          go_loopg [75] j (fun gk i wx => ∃ m : Nat, m ≤ j ∧ gk = j - m ∧ i = .int .i64 m ∧ noneTo H m = true ∧ wx = wr)
          case atStart => exact ⟨0, Nat.zero_le _, rfl, rfl, rfl, rfl⟩
          case round =>
            obtain ⟨wo, rfl⟩ : ∃ wo, wo = wr := ⟨_, rfl⟩
            obtain ⟨m, hm, rfl, rfl, hnn, rfl⟩ := hrel
            by_cases hmj : m < j
            · obtain ⟨ad, rfl, _, x0, _⟩ := (hHl.keep hW).get hmj
              have hmi : (m : Int) < (j : Int) := by omega
              have hm0 : (0 : Int) ≤ (m : Int) := by omega
              by_cases hp : 0 < H.getD m 0
              · have hc := hg'.cell hmj
                have hfz := hg'.frozen m
                have hgb := got_bd (hH_bd H A f) htb.1 m
                have HP := Lib.hid hp
                have HN := Lib.hid hnn
                clear hnn
                obtain ⟨x, hx⟩ : ∃ x, x = H.getD m 0 := ⟨_, rfl⟩
                rw [← hx] at x0 hp
                clear hx
                obtain ⟨G, hGt⟩ : ∃ G, G = got (hH H A f) t m := ⟨_, rfl⟩
                rw [← hGt] at hgb hc
                have HGG := Lib.hid hGt
                clear hGt
                go_wp2
                go_ret
                refine ⟨g, rfl, hgB, (hg'.set m _).congr ?_, below_own hW hgB _ _⟩
                intro i hi
                by_cases e : i = m
                · subst e
                  rw [if_pos rfl, ofI_first HN.out HP.out, ← HT2.out, ← HGG.out, ← HL.out]
                · rw [if_neg e, ofI_other HN.out HP.out e, ← HT2.out]
              · have hp' : decide (0 < H.getD m 0) = false := decide_eq_false hp
                have HN := Lib.hid (show noneTo H (m + 1) = true by rw [noneTo, hnn, decide_eq_true (by omega)]; rfl)
                clear hnn
                generalize H.getD m 0 = x at *
                go_wp2
                go_roundg (j - (m + 1))
                case measure => omega
                case rel => exact ⟨m + 1, by omega, rfl, by go_num, HN.out, rfl⟩
            · obtain rfl : m = j := by omega
              have HN := Lib.hid hnn
              clear hnn
              go_wp2
              go_ret
              exact ⟨g, rfl, hgB, hg'.congr (fun i hi => by rw [ofI_none HN.out hi, ← HT2.out]), hW⟩
where
  rowsTo_of {H A : List Int} {f : Int} (h : lRight H A f = true) : H.length ≤ 4 ∧ 100 ≤ f ∧ f ≤ 1000 ∧ ∀ k, k < H.length → 0 ≤ H.getD k 0 ∧ H.getD k 0 ≤ A.getD k 0 ∧ A.getD k 0 ≤ 1048576 := by
    unfold lRight at h
    rw [Bool.and_eq_true, decide_eq_true_eq] at h
    exact ⟨h.1.2.1, h.1.2.2.1, h.1.2.2.2, fun k hk => of_decide_eq_true (rowsTo_at h.2 hk)⟩
end Go.Proofs.Ytonbmcgfbbpnkaa
