/- Lemmas for the claim's proof: LoadC LoadD LoadG LoadH LoadPlain3 LoadF LoadPlain2. -/
import Derived.Deep.RegionLaw
import Derived.Deep.DeepCutAuto
import Derived.Test.YtblbgafadadbmaaQ03
import Derived.Test.YtblbgafadadbmaaQ04
import Derived.Test.YtblbgafadadbmaaQ13
import Derived.Test.YtblbgafadadbmaaQ18
section
/- How much each level gets. -/
set_option linter.unusedVariables false
namespace Go.Proofs.Ytblbgafadadbmaa
open Go.RowKit
set_option maxHeartbeats 2000000
set_option maxRecDepth 100000
theorem Try.infoInt : (Try.prog.info? 3).map (fun i => (i.zero, i.size, i.bytes)) = some (some (.int .i64 0), 1, 8) := by kernel_rfl
/-- The healths. -/
def hH (H A : List Int) (f : Int) (k : Nat) : Int := hI (H.getD k 0) (A.getD k 0) f
theorem hH_bd (H A : List Int) (f : Int) : ∀ k, 0 ≤ hH H A f k ∧ hH H A f k ≤ 10000 := fun k => hI_bd _ _ _
/-- None of the first k has a host. -/
def noneTo (H : List Int) : Nat → Bool
  | 0 => true
  | k + 1 => noneTo H k && decide (H.getD k 0 ≤ 0)
theorem noneTo_at {H : List Int} {i : Nat} : ∀ {n : Nat}, noneTo H n = true → i < n → H.getD i 0 ≤ 0
  | 0, _, h => by omega
  | n + 1, h, hi => by
    rw [noneTo, Bool.and_eq_true, decide_eq_true_eq] at h
    by_cases e : i = n
    · subst e; exact h.2
    · exact noneTo_at h.1 (by omega)
theorem noneTo_bad {H : List Int} {m : Nat} (hp : 0 < H.getD m 0) {i : Nat} (hi : m < i) : noneTo H i = false := by
  cases h : noneTo H i with
  | false => rfl
  | true => have := noneTo_at h hi; omega
def tot (H A : List Int) (f : Int) (n : Nat) : Int := if 10000 < hSum (hH H A f) n then 10000 else hSum (hH H A f) n
theorem tot_bd (H A : List Int) (f : Int) (n : Nat) : 0 ≤ tot H A f n ∧ tot H A f n ≤ 10000 := by
  have := hSum_bd _ (hH_bd H A f) n
  unfold tot
  split <;> omega
def ofI (H A : List Int) (f : Int) (n k : Nat) : Int := got (hH H A f) (tot H A f n) k + if noneTo H k && decide (0 < H.getD k 0) then leftTo (hH H A f) (tot H A f n) n else 0
theorem ofI_first {H A : List Int} {f : Int} {n m : Nat} (h : noneTo H m = true) (hp : 0 < H.getD m 0) : ofI H A f n m = got (hH H A f) (tot H A f n) m + leftTo (hH H A f) (tot H A f n) n := by
  unfold ofI
  rw [h, decide_eq_true hp]
  rfl
theorem ofI_other {H A : List Int} {f : Int} {n m i : Nat} (h : noneTo H m = true) (hp : 0 < H.getD m 0) (hi : i ≠ m) : ofI H A f n i = got (hH H A f) (tot H A f n) i := by
  have : (noneTo H i && decide (0 < H.getD i 0)) = false := by
    rcases Nat.lt_or_ge i m with hl | hl
    · rw [decide_eq_false (by have := noneTo_at h hl; omega)]; simp
    · rw [noneTo_bad hp (by omega)]; rfl
  unfold ofI
  rw [this]
  simp
theorem ofI_none {H A : List Int} {f : Int} {n i : Nat} (h : noneTo H n = true) (hi : i < n) : ofI H A f n i = got (hH H A f) (tot H A f n) i := by
  have : (noneTo H i && decide (0 < H.getD i 0)) = false := by
    rw [decide_eq_false (by have := noneTo_at h hi; omega)]; simp
  unfold ofI
  rw [this]
  simp
theorem load_Of_no (A1 A2 : Option Addr) (n1 n2 c1 c2 : Nat) (H A : List Int) (f : Int) (w : World) (hH : IsList w .i64 A1 n1 c1 H) (hA : IsList w .i64 A2 n2 c2 A) (h : lRight H A f = false) :
    Calls Try.prog 51 #[.slice A1 n1 c1, .slice A2 n2 c2, .int .i64 f] w fun e w' => e = .returned (.slice none 0 0) ∧ Below w.heap.size w w' := by
  go_enter Try.func51, Try.ntmps51
  go_wp2_with fail
  refine (load_Right A1 A2 n1 n2 c1 c2 H A f _ hH hA).mono ?_; rintro e w' ⟨rfl, d, rfl⟩
  rw [h]
  go_wp2
  go_ret
  exact ⟨rfl, below_drewN (Below.refl _ _) _⟩
theorem load_Of (A1 A2 : Option Addr) (n c1 c2 : Nat) (H A : List Int) (f : Int) (w : World) (hHl : IsList w .i64 A1 n c1 H) (hAl : IsList w .i64 A2 n c2 A) (h : lRight H A f = true) :
    Calls Try.prog 51 #[.slice A1 n c1, .slice A2 n c2, .int .i64 f] w fun e w' => ∃ g : Nat, e = .returned (.slice (some ⟨g, 0, none⟩) n n) ∧ w.heap.size ≤ g ∧ w'.rowIs g 3 n (fun k => .int .i64 (ofI H A f n k)) ∧ Below w.heap.size w w' := by
  have L1 := hHl.len
  have hc1 := hHl.cap
  have hc2 := hAl.cap
  have hs1 := hHl.small
  have hs2 := hAl.small
  have hrt := rowsTo_of h
  rw [L1] at hrt
  obtain ⟨hn4, hf1, hf2, hrows⟩ := hrt
  have HROWS := Lib.hid hrows
  clear hrows L1
  have hmk := run_make_row' (P := Try.prog) 23 3 (.int .i64 0) 8 Try.underlying23 Try.infoInt rfl .i64 .i64 n (by omega) (by omega)
  go_enter Try.func51, Try.ntmps51
  go_wp2_with fail
  refine (load_Right A1 A2 n n c1 c2 H A f _ hHl hAl).mono ?_; rintro e w' ⟨rfl, d, rfl⟩
  rw [h]
  go_wp2_with fail
  have hg0 := World.rowIs_made (w.drewN d) (.int .i64 0) n 3
  have hW0 : Below w.heap.size w ((w.drewN d).alloc (.cells (madeCells #[.int .i64 0] n) 3)) := (below_drewN (Below.refl _ _) d).alloc (Nat.le_refl _) _
  have hgz : (w.drewN d).heap.size = w.heap.size := rfl
  rw [hgz] at hg0
  clear hgz hmk
  generalize (w.drewN d).alloc (.cells (madeCells #[.int .i64 0] n) 3) = u at *
  generalize hG : w.heap.size = g at *
  have hgB : w.heap.size ≤ g := by omega
  have HG := Lib.hid hG
  clear hG
  go_loopg [8, 25] n (fun gk s8 i wr => ∃ k : Nat, k ≤ n ∧ gk = n - k ∧ i = .int .i64 k ∧ s8 = .int .i64 (hSum (hH H A f) k) ∧ wr.rowIs g 3 n (fun _ => .int .i64 0) ∧ Below w.heap.size w wr)
  case atStart => exact ⟨0, Nat.zero_le _, rfl, rfl, rfl, hg0, by rw [HG.out]; exact hW0⟩
  case round =>
    clear hg0 hW0
    obtain ⟨k, hk, rfl, rfl, rfl, hg, hW⟩ := hrel
    have hsb := hSum_bd _ (hH_bd H A f) k
    have hst : hSum (hH H A f) (k + 1) = hSum (hH H A f) k + hI (H.getD k 0) (A.getD k 0) f := rfl
    by_cases hlt : k < n
    · obtain ⟨r1, r2, r3⟩ := HROWS.out k hlt
      obtain ⟨ad, rfl, _, x0, _⟩ := (hHl.keep hW).get hlt
      obtain ⟨ad2, rfl, _, y0, _⟩ := (hAl.keep hW).get hlt
      have U0 := cell_under x0
      have U1 := cell_under y0
      have hib := hI_bd (H.getD k 0) (A.getD k 0) f
      have HST := Lib.hid hst
      have hki : (k : Int) < (n : Int) := by omega
      have hk0 : (0 : Int) ≤ (k : Int) := by omega
      have A0 := fun w => load_Health (H.getD k 0) (A.getD k 0) f (by omega) r3 (by omega) w
      clear hst x0 y0 r1 r2 r3
      generalize hSum (hH H A f) k = S at *
      have k1 : IntKind.i64.wrap (S + hI (H.getD k 0) (A.getD k 0) f) = S + hI (H.getD k 0) (A.getD k 0) f := IntWalk.i64_in _ (by omega)
      generalize H.getD k 0 = x at *
      generalize A.getD k 0 = y at *
      go_wp2_with fail
      refine wp_region_quiet_under (by kernel_rfl) (by kernel_rfl) ?_
      repeat (go_big_quiet_step (((go_at_call 75; exact calls_under (A0 _)))))
      refine wpQuiet_nil ?_
      intro wu hw'
      obtain ⟨pq, hw''⟩ := hw'
      have hU := below_eq hw''
      clear hw'' pq
      have hg2 := row_keep hg hU
      have hW2 := below_step hW hU
      clear hg hW hU U0 U1 A0 k1
      go_wp2
      go_roundg (n - (k + 1))
      case measure => omega
      case rel => exact ⟨k + 1, by omega, rfl, by go_num, by rw [HST.out], hg2, hW2⟩
    · obtain rfl : k = n := by omega
      clear hst hlt
      have ht : tot H A f k = if 10000 < hSum (hH H A f) k then 10000 else hSum (hH H A f) k := rfl
      have HT := Lib.hid ht
      clear ht
      go_wp2_with fail
      refine (load_least _ _ _).mono ?_; rintro e w' ⟨rfl, rfl⟩
      rw [← HT.out]
      have htb := tot_bd H A f k
      obtain ⟨t, ht⟩ : ∃ t, t = tot H A f k := ⟨_, rfl⟩
      rw [← ht] at htb ⊢
      have HT2 := Lib.hid ht
      clear ht hsb
      go_wp2_with fail
      go_loopg [11, 45] k (fun gk s11 i wr => ∃ j : Nat, j ≤ k ∧ gk = k - j ∧ i = .int .i64 j ∧ s11 = .int .i64 (leftTo (hH H A f) t j) ∧ wr.rowIs g 3 k (fun m => .int .i64 (if m < j then got (hH H A f) t m else 0)) ∧ Below w.heap.size w wr)
      case atStart => exact ⟨0, Nat.zero_le _, rfl, rfl, rfl, hg, hW⟩
      case round =>
        clear hg hW
        obtain ⟨j, hj, rfl, rfl, rfl, hg, hW⟩ := hrel
        have hlb := left_bd (hH_bd H A f) htb.1 j
        have hgb := got_bd (hH_bd H A f) htb.1 j
        have hst : leftTo (hH H A f) t (j + 1) = leftTo (hH H A f) t j - got (hH H A f) t j := rfl
        by_cases hlt : j < k
        · by_cases htp : 0 < t
          · obtain ⟨r1, r2, r3⟩ := HROWS.out j hlt
            obtain ⟨ad, rfl, _, x0, _⟩ := (hHl.keep hW).get hlt
            obtain ⟨ad2, rfl, _, y0, _⟩ := (hAl.keep hW).get hlt
            have U0 := cell_under x0
            have U1 := cell_under y0
            have hib := hI_bd (H.getD j 0) (A.getD j 0) f
            have hgt : got (hH H A f) t j = if leftTo (hH H A f) t j < hI (H.getD j 0) (A.getD j 0) f * 10000 / t then leftTo (hH H A f) t j else hI (H.getD j 0) (A.getD j 0) f * 10000 / t := by
              show part _ _ _ _ = _
              unfold part
              rw [if_pos htp]
              rfl
            have HST := Lib.hid hst
            have HGT := Lib.hid hgt
            have hki : (j : Int) < (k : Int) := by omega
            have hk0 : (0 : Int) ≤ (j : Int) := by omega
            have A0 := fun w => load_Health (H.getD j 0) (A.getD j 0) f (by omega) r3 (by omega) w
            clear hst hgt x0 y0 r1 r2 r3
            generalize H.getD j 0 = x at *
            generalize A.getD j 0 = y at *
            obtain ⟨L, hL⟩ : ∃ L, L = leftTo (hH H A f) t j := ⟨_, rfl⟩
            obtain ⟨G, hGt⟩ : ∃ G, G = got (hH H A f) t j := ⟨_, rfl⟩
            rw [← hL, ← hGt] at HST HGT
            rw [← hL] at hlb ⊢
            rw [← hGt] at hgb
            have HGG := Lib.hid hGt
            clear hL hGt
            have hdv := div_bd (a := hI x y f * 10000) (e := t) (by omega) (by omega)
            have k1 : IntKind.i64.wrap (hI x y f * 10000) = hI x y f * 10000 := IntWalk.i64_in _ (by omega)
            have k2 : (hI x y f * 10000).tdiv t = hI x y f * 10000 / t := Int.tdiv_eq_ediv_of_nonneg (by omega)
            have k3 : IntKind.i64.wrap (hI x y f * 10000 / t) = hI x y f * 10000 / t := IntWalk.i64_in _ (by omega)
            have k4 : (t == 0) = false := by simp; omega
            go_wp2_with fail
            refine wp_region_quiet_under (by kernel_rfl) (by kernel_rfl) ?_
            repeat (go_big_quiet_step ((first | (go_at_call 75; exact calls_under (A0 _)) | (go_at_call 76; exact calls_under_same (load_least _ _ _)))))
            refine wpQuiet_nil ?_
            intro wu hw'
            obtain ⟨pq, hw''⟩ := hw'
            have hU := below_eq hw''
            clear hw'' pq
            rw [← HGT.out]
            have hg2 := row_keep hg hU
            have hW2 := below_step hW hU
            have hc := hg2.cell hlt
            have hfz := hg2.frozen j
            clear hg hW hU U0 U1 A0 k1 k2 k3 k4 hdv hib HGT
            go_wp2
            go_roundg (k - (j + 1))
            case measure => omega
            case rel =>
              refine ⟨j + 1, by omega, rfl, by go_num, by rw [HST.out], (hg2.set j (.int .i64 G)).congr ?_, below_own hW2 (by omega) _ _⟩
              intro m hm
              by_cases e : m = j
              · subst e
                rw [if_pos rfl, if_pos (by omega), ← HGG.out]
              · rw [if_neg e]
                by_cases e2 : m < j
                · rw [if_pos e2, if_pos (by omega)]
                · rw [if_neg e2, if_neg (by omega)]
          · have hgt : got (hH H A f) t j = 0 := by
              show part _ _ _ _ = _
              unfold part
              rw [if_neg htp]
            have HST := Lib.hid (show leftTo (hH H A f) t (j + 1) = leftTo (hH H A f) t j by rw [hst, hgt]; omega)
            have htd : decide (0 < t) = false := decide_eq_false htp
            clear hst
            have HGT := Lib.hid hgt
            clear hgt
            generalize leftTo (hH H A f) t j = L at *
            go_wp2
            go_roundg (k - (j + 1))
            case measure => omega
            case rel =>
              refine ⟨j + 1, by omega, rfl, by go_num, by rw [HST.out], hg.congr ?_, hW⟩
              intro m hm
              by_cases e : m = j
              · subst e
                rw [if_neg (by omega), if_pos (by omega), HGT.out]
              · by_cases e2 : m < j
                · rw [if_pos e2, if_pos (by omega)]
                · rw [if_neg e2, if_neg (by omega)]
        · obtain rfl : j = k := by omega
          have hg' : wr.rowIs g 3 j (fun m => .int .i64 (got (hH H A f) t m)) := hg.congr (fun m hm => by rw [if_pos hm])
          clear hg hst hgb
          obtain ⟨L, hL⟩ : ∃ L, L = leftTo (hH H A f) t j := ⟨_, rfl⟩
          rw [← hL] at hlb ⊢
          have HL := Lib.hid hL
          clear hL
          go_wp2_with fail
          go_loopg [75] j (fun gk i wx => ∃ m : Nat, m ≤ j ∧ gk = j - m ∧ i = .int .i64 m ∧ noneTo H m = true ∧ wx = wr)
          case atStart => exact ⟨0, Nat.zero_le _, rfl, rfl, rfl, rfl⟩
          case round =>
            obtain ⟨wo, rfl⟩ : ∃ wo, wo = wr := ⟨_, rfl⟩
            obtain ⟨m, hm, rfl, rfl, hnn, rfl⟩ := hrel
            by_cases hmj : m < j
            · obtain ⟨ad, rfl, _, x0, _⟩ := (hHl.keep hW).get hmj
              have hmi : (m : Int) < (j : Int) := by omega
              have hm0 : (0 : Int) ≤ (m : Int) := by omega
              by_cases hp : 0 < H.getD m 0
              · have hc := hg'.cell hmj
                have hfz := hg'.frozen m
                have hgb := got_bd (hH_bd H A f) htb.1 m
                have HP := Lib.hid hp
                have HN := Lib.hid hnn
                clear hnn
                obtain ⟨x, hx⟩ : ∃ x, x = H.getD m 0 := ⟨_, rfl⟩
                rw [← hx] at x0 hp
                clear hx
                obtain ⟨G, hGt⟩ : ∃ G, G = got (hH H A f) t m := ⟨_, rfl⟩
                rw [← hGt] at hgb hc
                have HGG := Lib.hid hGt
                clear hGt
                go_wp2
                go_ret
                refine ⟨g, rfl, hgB, (hg'.set m _).congr ?_, below_own hW hgB _ _⟩
                intro i hi
                by_cases e : i = m
                · subst e
                  rw [if_pos rfl, ofI_first HN.out HP.out, ← HT2.out, ← HGG.out, ← HL.out]
                · rw [if_neg e, ofI_other HN.out HP.out e, ← HT2.out]
              · have hp' : decide (0 < H.getD m 0) = false := decide_eq_false hp
                have HN := Lib.hid (show noneTo H (m + 1) = true by rw [noneTo, hnn, decide_eq_true (by omega)]; rfl)
                clear hnn
                generalize H.getD m 0 = x at *
                go_wp2
                go_roundg (j - (m + 1))
                case measure => omega
                case rel => exact ⟨m + 1, by omega, rfl, by go_num, HN.out, rfl⟩
            · obtain rfl : m = j := by omega
              have HN := Lib.hid hnn
              clear hnn
              go_wp2
              go_ret
              exact ⟨g, rfl, hgB, hg'.congr (fun i hi => by rw [ofI_none HN.out hi, ← HT2.out]), hW⟩
where
  rowsTo_of {H A : List Int} {f : Int} (h : lRight H A f = true) : H.length ≤ 4 ∧ 100 ≤ f ∧ f ≤ 1000 ∧ ∀ k, k < H.length → 0 ≤ H.getD k 0 ∧ H.getD k 0 ≤ A.getD k 0 ∧ A.getD k 0 ≤ 1048576 := by
    unfold lRight at h
    rw [Bool.and_eq_true, decide_eq_true_eq] at h
    exact ⟨h.1.2.1, h.1.2.2.1, h.1.2.2.2, fun k hk => of_decide_eq_true (rowsTo_at h.2 hk)⟩
end Go.Proofs.Ytblbgafadadbmaa
end
section
/- Chapter 24's example; LoadHealth. -/
set_option linter.unusedVariables false
namespace Go.Proofs.Ytblbgafadadbmaa
open Go.RowKit
set_option maxHeartbeats 2000000
set_option maxRecDepth 100000
theorem isList_blk {w : World} {g : Nat} {t : TypeId} {cs : Array Value} {K : IntKind} (h : Blk w g t cs) (l : List Int) (hc : cs = (l.map (Value.int K)).toArray) (hwf : ∀ z ∈ l, (Lit.int K z).wf = true) (hl : l.length ≤ 17592186043904) : IsList w K (some ⟨g, 0, none⟩) l.length l.length l where
  reads := ⟨by simp, fun hn => ⟨_, rfl, h.lt, fun j u hu => by
    have e : (⟨g, 0, none⟩ : Addr).add j = ⟨g, j, none⟩ := by unfold Addr.add; split <;> simp_all
    rw [e, h.cell j, hc]
    simpa using hu⟩⟩
  len := rfl
  cap := Nat.le_refl _
  small := by omega
  wf := hwf
  reach := hl
end Go.Proofs.Ytblbgafadadbmaa
end
section
/- Lists that are turned. -/
set_option linter.unusedVariables false
namespace Go.Proofs.Ytblbgafadadbmaa
open Go.RowKit
set_option maxHeartbeats 2000000
set_option maxRecDepth 100000
theorem ints_one (K : IntKind) (l : List Int) : ∀ u ∈ l.map (Value.int K), u.oneCell' = true := ints_oneCell K l
/-- A list from a place on. -/
def rot (l : List Int) (f : Int) : List Int := if f < 0 ∨ (l.length : Int) ≤ f then l else l.drop f.toNat ++ l.take f.toNat
theorem load_Turn (A : Option Addr) (n c : Nat) (l : List Int) (f : Int) (w : World) (hl : IsList w .i64 A n c l) :
    Calls Try.prog 52 #[.slice A n c, .int .i64 f] w fun e w' => ∃ A' c', e = .returned (.slice A' n c') ∧ IsList w' .i64 A' n c' (rot l f) ∧ Below w.heap.size w w' := by
  have hc := hl.cap
  have hs := hl.small
  have hr := hl.reach
  have L := hl.len
  obtain ⟨i0, hi0, hz0, hz1, hz2⟩ := info_parts Try.infoInt
  by_cases hf : f < 0 ∨ (n : Int) ≤ f
  · have e : rot l f = l := by unfold rot; rw [L, if_pos hf]
    have HL := Lib.hid L
    clear L
    have hd : decide (f < 0) = true ∨ decide (f < 0) = false ∧ decide ((n : Int) ≤ f) = true := by
      by_cases h : f < 0
      · exact .inl (decide_eq_true h)
      · exact .inr ⟨decide_eq_false h, decide_eq_true (hf.resolve_left h)⟩
    rw [e]
    clear e hf
    rcases hd with h1 | ⟨h1, h2⟩
    all_goals
      go_enter Try.func52, Try.ntmps52
      go_wp2_with (at_builtin; refine wpList_append_any _ rfl (.const (.slice none 0 0)) (.tmp 13) _ rfl w.heap.size 3 i0 _ 1 8 Try.underlying23 hi0 hz0 hz1 hz2 rfl (by omega) (.slice none 0 0) 0 [] rfl ⟨by simp, .inl ⟨rfl, rfl⟩⟩ w.heap.size A n c (l.map (Value.int .i64)) rfl hl.reads (ints_one _ _) (by simp only [maxLen]; omega) (by omega) (Nat.le_refl _) ?_; intro v1 w1 hown1 hg1 hat1)
      go_ret
      have hb1 : Below w.heap.size w w1 := (Below.refl _ _).grown hg1 (Nat.le_refl _) (by simp [Value.ownBlock])
      simp only [Nat.zero_add, List.nil_append] at hown1
      obtain ⟨A', c', rfl, hL, _⟩ := own_list hown1 hl.wf hr
      exact ⟨A', c', rfl, hL, hb1⟩
  · have hf0 : 0 ≤ f := by omega
    obtain ⟨k, rfl⟩ := Int.eq_ofNat_of_zero_le hf0
    have hkn : k < n := by omega
    have e : rot l k = l.drop k ++ l.take k := by unfold rot; rw [L, if_neg hf, Int.toNat_natCast]
    rw [e]
    clear e hf hf0
    have h1 : decide ((k : Int) < 0) = false := decide_eq_false (by omega)
    have h2 : decide (n ≤ k) = false := decide_eq_false (by omega)
    have h3 : decide ((n : Int) ≤ (k : Int)) = false := decide_eq_false (by omega)
    go_enter Try.func52, Try.ntmps52
    obtain ⟨ad, rfl, _, _, _⟩ := hl.get hkn
    have hR1 : Reads w w.heap.size 1 (some (ad.add k)) (n - k) ((l.drop k).map (Value.int .i64)) := by
      have h := hl.reads.cut (k := k) (cap := c) (by omega) hc
      rw [if_neg (by omega)] at h
      simpa [List.map_drop] using h
    have hR2 := (hl.cut (k := k) (by omega)).reads
    have hki : (k : Int) ≤ (n : Int) := by omega
    have hkc : (k : Int) ≤ (c : Int) := by omega
    have hk0 : (0 : Int) ≤ (k : Int) := by omega
    have hck : ¬ c = k := by omega
    have hck' : (c == k) = false := by simp; omega
    clear L
    go_wp2_with fail
    go_region_law (first
      | (refine step_append_any _ rfl (.const (.slice none 0 0)) (.tmp 17) _ rfl w.heap.size 3 i0 _ 1 8 Try.underlying23 hi0 hz0 hz1 hz2 rfl (by omega) (.slice none 0 0) 0 [] rfl ⟨by simp, .inl ⟨rfl, rfl⟩⟩ w.heap.size (some (ad.add k)) (n - k) (c - k) _ (by simp [Act.eval, Act.put]) hR1.drew (ints_one _ _) (by simp only [maxLen]; omega) (by omega) (Nat.le_refl _) ?_; intro v1 w1 hown1 hg1 hat1)
      | (refine step_append_any _ rfl (.tmp 18) (.tmp 21) _ rfl w.heap.size 3 i0 _ 1 8 Try.underlying23 hi0 hz0 hz1 hz2 rfl (by omega) v1 (0 + (n - k)) _ (by simp [Act.eval, Act.put]) hown1 w.heap.size (some ad) k c _ (by simp [Act.eval, Act.put]) (hR2.drew.grown hg1 (Nat.le_refl _) (by simp [Value.ownBlock])) (ints_one _ _) (by simp only [maxLen]; omega) (by omega) hg1.size ?_; intro v2 w2 hown2 hg2 hat2))
    all_goals
      have hb1 : Below w.heap.size w w1 := (Below.refl _ _).drew.grown hg1 (Nat.le_refl _) (by simp [Value.ownBlock])
      have hb2 : Below w.heap.size w w2 := hb1.grown hg2 hb1.size (fun g hg => by
        rcases hat1 with e | e <;> rw [e] at hg <;> simp [Value.ownBlock] at hg
        omega)
      have hn2 : 0 + (n - k) + k = n := by omega
      rw [hn2, List.nil_append, ← List.map_append] at hown2
      obtain ⟨A', c', rfl, hL, _⟩ := own_list hown2 (fun z hz => hl.wf z (by
        rcases List.mem_append.1 hz with h | h
        · exact List.mem_of_mem_drop h
        · exact List.mem_of_mem_take h)) hr
      clear hown1 hown2 hg1 hg2 hat1 hat2 hR1 hR2 hb1 hn2
      go_wp2
      go_ret
      exact ⟨A', c', rfl, hL, hb2⟩
theorem load_Back (i f n : Int) (h : i < 0 ∨ n ≤ i ∨ f < 0 ∨ n ≤ f) (w : World) : Calls Try.prog 84 #[.int .i64 i, .int .i64 f, .int .i64 n] w fun e w' => e = .returned (.int .i64 i) ∧ w = w' := by
  by_cases c1 : i < 0
  all_goals
    by_cases c2 : n ≤ i
    all_goals
      by_cases c3 : f < 0
      all_goals
        first
          | (have d1 : decide (i < 0) = true := decide_eq_true (by omega))
          | (have d1 : decide (i < 0) = false := decide_eq_false (by omega); first | (have d2 : decide (n ≤ i) = true := decide_eq_true (by omega)) | (have d2 : decide (n ≤ i) = false := decide_eq_false (by omega); first | (have d3 : decide (f < 0) = true := decide_eq_true (by omega)) | (have d3 : decide (f < 0) = false := decide_eq_false (by omega); have d4 : decide (n ≤ f) = true := decide_eq_true (by omega))))
        clear h c1 c2 c3
        go_enter Try.func84, Try.ntmps84
        go_wp2
        go_ret
        exact ⟨rfl, rfl⟩
theorem load_Back_in (i f n : Int) (i0 : 0 ≤ i) (i1 : i < n) (f0 : 0 ≤ f) (f1 : f < n) (n1 : n ≤ 1000000) (w : World) : Calls Try.prog 84 #[.int .i64 i, .int .i64 f, .int .i64 n] w fun e w' => e = .returned (.int .i64 ((i + f) % n)) ∧ w = w' := by
  have d1 : decide (i < 0) = false := decide_eq_false (by omega)
  have d2 : decide (n ≤ i) = false := decide_eq_false (by omega)
  have d3 : decide (f < 0) = false := decide_eq_false (by omega)
  have d4 : decide (n ≤ f) = false := decide_eq_false (by omega)
  have hn : (n == 0) = false := by simp; omega
  have hm := Int.emod_nonneg (i + f) (show n ≠ 0 by omega)
  have hm2 := Int.emod_lt_of_pos (i + f) (show 0 < n by omega)
  have k1 : IntKind.i64.wrap ((i + f) % n) = (i + f) % n := IntWalk.i64_in _ (by omega)
  go_enter Try.func84, Try.ntmps84
  go_wp2
  go_ret
  exact ⟨rfl, rfl⟩
end Go.Proofs.Ytblbgafadadbmaa
end
section
/- LoadTurns. -/
set_option linter.unusedVariables false
namespace Go.Proofs.Ytblbgafadadbmaa
open Go.RowKit
set_option maxHeartbeats 4000000
set_option maxRecDepth 100000
/-- The place that a turned list's i-th has. -/
def turnAt (n : Nat) (f : Int) (i : Nat) : Nat := if 0 ≤ f ∧ f < n then (i + f.toNat) % n else i
theorem rot_at {l : List Int} {f : Int} {i : Nat} (hi : i < l.length) : (rot l f).getD i 0 = l.getD (turnAt l.length f i) 0 := by
  unfold rot turnAt
  by_cases h : 0 ≤ f ∧ f < l.length
  · rw [if_neg (by omega), if_pos h]
    obtain ⟨k, rfl⟩ := Int.eq_ofNat_of_zero_le h.1
    have hk : k < l.length := by omega
    rw [Int.toNat_natCast]
    simp only [List.getD_eq_getElem?_getD]
    congr 1
    by_cases hs : i + k < l.length
    · rw [Nat.mod_eq_of_lt hs, List.getElem?_append_left (by rw [List.length_drop]; omega), List.getElem?_drop, Nat.add_comm]
    · have e : (i + k) % l.length = i + k - l.length := by
        rw [Nat.mod_eq_sub_mod (by omega), Nat.mod_eq_of_lt (by omega)]
      rw [e, List.getElem?_append_right (by rw [List.length_drop]; omega), List.length_drop, List.getElem?_take, if_pos (by omega)]
      congr 1
      omega
  · rw [if_pos (by omega), if_neg h]
theorem turnAt_lt {n : Nat} {f : Int} {i : Nat} (hi : i < n) : turnAt n f i < n := by
  unfold turnAt
  split
  · exact Nat.mod_lt _ (by omega)
  · exact hi
end Go.Proofs.Ytblbgafadadbmaa
end
section
/- Which level a number draws: the plain law. -/
set_option linter.unusedVariables false
namespace Go.Proofs.Ytblbgafadadbmaa
def pos (x : Int) : Int := if x < 0 then 0 else x
theorem pos_nn (x : Int) : 0 ≤ pos x := by unfold pos; split <;> omega
/-- What the first k levels get together. -/
def pre (l : List Int) : Nat → Int
  | 0 => 0
  | k + 1 => pre l k + pos (l.getD k 0)
theorem pre_mono (l : List Int) {i n : Nat} (h : i ≤ n) : pre l i ≤ pre l n := by
  induction n with
  | zero => obtain rfl : i = 0 := (by omega); exact Int.le_refl _
  | succ n ih =>
    by_cases e : i = n + 1
    · subst e; exact Int.le_refl _
    · have := ih (by omega)
      have := pos_nn (l.getD n 0)
      rw [pre]
      omega
theorem pre_nn (l : List Int) (k : Nat) : 0 ≤ pre l k := pre_mono l (Nat.zero_le k)
/-- The level, of the first k, that d draws. -/
def wantTo (l : List Int) (d : Int) : Nat → Int
  | 0 => -1
  | k + 1 => if pre l k ≤ d ∧ d < pre l (k + 1) then k else wantTo l d k
theorem want_spec (l : List Int) (d : Int) : ∀ k, (wantTo l d k = -1 ∧ (d < 0 ∨ pre l k ≤ d)) ∨ (∃ i : Nat, i < k ∧ wantTo l d k = i ∧ pre l i ≤ d ∧ d < pre l (i + 1))
  | 0 => .inl ⟨rfl, by
      rcases Int.lt_or_le d 0 with h | h
      · exact .inl h
      · exact .inr h⟩
  | k + 1 => by
    by_cases h : pre l k ≤ d ∧ d < pre l (k + 1)
    · right
      exact ⟨k, by omega, by rw [wantTo, if_pos h], h.1, h.2⟩
    · rcases want_spec l d k with ⟨h1, h2⟩ | ⟨i, hi, h1, h2, h3⟩
      · left
        refine ⟨by rw [wantTo, if_neg h]; exact h1, ?_⟩
        rcases h2 with h2 | h2
        · exact .inl h2
        · exact .inr (by omega)
      · right
        exact ⟨i, by omega, by rw [wantTo, if_neg h]; exact h1, h2, h3⟩
theorem want_hit {l : List Int} {d : Int} {i n : Nat} (hi : i < n) (h1 : pre l i ≤ d) (h2 : d < pre l (i + 1)) : wantTo l d n = i := by
  rcases want_spec l d n with ⟨_, h | h⟩ | ⟨j, hj, e, h3, h4⟩
  · have := pre_nn l i; omega
  · have := pre_mono l (show i + 1 ≤ n by omega); omega
  · rw [e]
    rcases Nat.lt_trichotomy i j with h | h | h
    · have := pre_mono l (show i + 1 ≤ j by omega); omega
    · rw [h]
    · have := pre_mono l (show j + 1 ≤ i by omega); omega
theorem want_none {l : List Int} {d : Int} {n : Nat} (h : d < 0 ∨ pre l n ≤ d) : wantTo l d n = -1 := by
  rcases want_spec l d n with ⟨e, _⟩ | ⟨j, hj, e, h3, h4⟩
  · exact e
  · have := pre_nn l j
    have := pre_mono l (show j + 1 ≤ n by omega)
    omega
/-- How many of the draws below d tell level i. -/
def cntI (l : List Int) (i : Nat) (d : Int) : Int := if d ≤ pre l i then 0 else if pre l (i + 1) < d then pos (l.getD i 0) else d - pre l i
theorem cnt_next {l : List Int} {i n : Nat} {d : Int} (hi : i < n) (d0 : 0 ≤ d) (d1 : d < pre l n) : cntI l i (d + 1) = if (i : Int) = wantTo l d n then cntI l i d + 1 else cntI l i d := by
  have e : pre l (i + 1) = pre l i + pos (l.getD i 0) := rfl
  have hp := pos_nn (l.getD i 0)
  by_cases h : pre l i ≤ d ∧ d < pre l (i + 1)
  · rw [want_hit hi h.1 h.2, if_pos rfl]
    unfold cntI
    (repeat' split) <;> omega
  · have hne : ¬ (i : Int) = wantTo l d n := by
      intro hh
      rcases want_spec l d n with ⟨e2, _⟩ | ⟨j, hj, e2, h3, h4⟩
      · omega
      · have : i = j := by omega
        subst this
        exact h ⟨h3, h4⟩
    rw [if_neg hne]
    unfold cntI
    (repeat' split) <;> omega
theorem cnt_zero (l : List Int) (i : Nat) : cntI l i 0 = 0 := by
  unfold cntI
  rw [if_pos (pre_nn l i)]
theorem cnt_all {l : List Int} {i n : Nat} (hi : i < n) : cntI l i (pre l n) = pos (l.getD i 0) := by
  have e : pre l (i + 1) = pre l i + pos (l.getD i 0) := rfl
  have := pre_mono l (show i + 1 ≤ n by omega)
  have hp := pos_nn (l.getD i 0)
  unfold cntI
  (repeat' split) <;> omega
theorem cnt_bd (l : List Int) (i : Nat) (d : Int) (h : 0 ≤ d) : 0 ≤ cntI l i d ∧ cntI l i d ≤ d := by
  have e : pre l (i + 1) = pre l i + pos (l.getD i 0) := rfl
  have := pre_nn l i
  have hp := pos_nn (l.getD i 0)
  unfold cntI
  (repeat' split) <;> omega
theorem pre_le (l : List Int) (h : ∀ k, l.getD k 0 ≤ 1048576) : ∀ k, pre l k ≤ 1048576 * k
  | 0 => by simp [pre]
  | k + 1 => by
    have h1 := pre_le l h k
    have h2 := h k
    have h3 : pos (l.getD k 0) ≤ 1048576 := by unfold pos; split <;> omega
    rw [pre]
    omega
end Go.Proofs.Ytblbgafadadbmaa
end
section
/- Which level a number draws. -/
set_option linter.unusedVariables false
namespace Go.Proofs.Ytblbgafadadbmaa
open Go.RowKit
set_option maxHeartbeats 2000000
set_option maxRecDepth 100000
theorem load_Level (A : Option Addr) (n c : Nat) (l : List Int) (d : Int) (d0 : -9223372036854775808 ≤ d) (d1 : d ≤ 9223372036854775807) (w : World) (hl : IsList w .i64 A n c l) :
    Calls Try.prog 82 #[.slice A n c, .int .i64 d] w fun e w' => e = .returned (.int .i64 (wantTo l d n)) ∧ ∃ q, w' = w.drewN q := by
  have hc := hl.cap
  have hs := hl.small
  by_cases hd : d < 0
  · have HN := Lib.hid (want_none (l := l) (n := n) (.inl hd))
    go_enter Try.func82, Try.ntmps82
    go_wp2
    go_ret
    exact ⟨by rw [HN.out]; rfl, 0, rfl⟩
  · have hd' : decide (d < 0) = false := decide_eq_false hd
    go_enter Try.func82, Try.ntmps82
    go_wp2
    go_loopg [1, 11] n (fun gk s1 i wr => ∃ k : Nat, k ≤ n ∧ gk = n - k ∧ i = .int .i64 k ∧ s1 = .int .i64 (d - pre l k) ∧ pre l k ≤ d ∧ ∃ q, wr = w.drewN q)
    case atStart => exact ⟨0, Nat.zero_le _, rfl, rfl, by simp [pre], by simp [pre]; omega, 0, rfl⟩
    case round =>
      obtain ⟨k, hk, rfl, rfl, rfl, hp, q, rfl⟩ := hrel
      have hpn := pre_nn l k
      have hst : pre l (k + 1) = pre l k + pos (l.getD k 0) := rfl
      by_cases hlt : k < n
      · obtain ⟨ad, rfl, _, x0, xw⟩ := hl.get hlt
        have xb := i64_of_wf xw
        have HIT := Lib.hid (fun h1 h2 => want_hit (l := l) (d := d) hlt h1 h2)
        have HST := Lib.hid hst
        have hki : (k : Int) < (n : Int) := by omega
        clear hst xw
        generalize l.getD k 0 = x at *
        obtain ⟨p, hpe⟩ : ∃ p, p = pre l k := ⟨_, rfl⟩
        rw [← hpe] at hp hpn HST HIT ⊢
        clear hpe
        by_cases hx : 0 < x
        · have hpx : pos x = x := by unfold pos; rw [if_neg (by omega)]
          by_cases hdx : d - p < x
          · have HN := Lib.hid (HIT.out hp (by rw [HST.out, hpx]; omega))
            clear hpx HIT
            go_wp2
            go_ret
            exact ⟨by rw [HN.out]; rfl, _, rfl⟩
          · have hdx' : decide (d - p < x) = false := decide_eq_false hdx
            have HS := Lib.hid (HST.out.trans (by rw [hpx]))
            have hmx : max x 0 = x := Int.max_eq_left (by omega)
            clear hpx HIT HST
            go_wp2
            go_roundg (n - (k + 1))
            case measure => omega
            case rel => exact ⟨k + 1, by omega, rfl, by go_num, by rw [HS.out] <;> first | rfl | (congr 1; omega), by rw [HS.out]; omega, _, rfl⟩
        · have hx' : decide (0 < x) = false := decide_eq_false hx
          have HS := Lib.hid (HST.out.trans (show p + pos x = p by unfold pos; split <;> omega))
          have hmx : max x 0 = 0 := Int.max_eq_right (by omega)
          clear HIT HST
          go_wp2
          go_roundg (n - (k + 1))
          case measure => omega
          case rel => exact ⟨k + 1, by omega, rfl, by go_num, by rw [HS.out] <;> first | rfl | (congr 1; omega), by rw [HS.out]; omega, _, rfl⟩
      · obtain rfl : k = n := by omega
        have HN := Lib.hid (want_none (l := l) (n := k) (.inr hp))
        go_wp2
        go_ret
        exact ⟨by rw [HN.out]; rfl, _, rfl⟩
end Go.Proofs.Ytblbgafadadbmaa
end
section
/- Which level is the first with a host; the sum of all that levels get. -/
set_option linter.unusedVariables false
namespace Go.Proofs.Ytblbgafadadbmaa
/-- The first of the first k with a host; -1: there is none. -/
def someTo (H : List Int) : Nat → Int
  | 0 => -1
  | k + 1 => if 0 < H.getD k 0 ∧ someTo H k < 0 then k else someTo H k
theorem someTo_spec (H : List Int) : ∀ k, (noneTo H k = true ∧ someTo H k = -1) ∨ (∃ m : Nat, m < k ∧ noneTo H m = true ∧ 0 < H.getD m 0 ∧ someTo H k = m)
  | 0 => .inl ⟨rfl, rfl⟩
  | k + 1 => by
    rcases someTo_spec H k with ⟨h1, h2⟩ | ⟨m, hm, h1, h2, h3⟩
    · by_cases hp : 0 < H.getD k 0
      · right
        refine ⟨k, by omega, h1, hp, ?_⟩
        unfold someTo
        rw [if_pos ⟨hp, by omega⟩]
      · left
        refine ⟨?_, ?_⟩
        · rw [noneTo, h1, decide_eq_true (by omega)]; rfl
        · unfold someTo
          rw [if_neg (fun h => hp h.1), h2]
    · right
      refine ⟨m, by omega, h1, h2, ?_⟩
      unfold someTo
      rw [if_neg (by omega), h3]
theorem someTo_at (H : List Int) {i n : Nat} (hi : i < n) : (noneTo H i && decide (0 < H.getD i 0)) = ((i : Int) == someTo H n) := by
  rcases someTo_spec H n with ⟨h1, h2⟩ | ⟨m, hm, h1, h2, h3⟩
  · rw [h2, decide_eq_false (by have := noneTo_at h1 hi; omega)]
    simp <;> omega
  · rw [h3]
    by_cases e : i = m
    · subst e; rw [h1, decide_eq_true h2]; simp
    · have e2 : ((i : Int) == (m : Int)) = false := by simp; omega
      rw [e2]
      rcases Nat.lt_or_ge i m with hl | hl
      · rw [decide_eq_false (by have := noneTo_at h1 hl; omega)]; simp
      · rw [noneTo_bad h2 (by omega)]; rfl
def sumL (F : Nat → Int) : Nat → Int
  | 0 => 0
  | k + 1 => sumL F k + F k
theorem sum_got (H : Nat → Int) (t : Int) : ∀ k, sumL (got H t) k = 10000 - leftTo H t k
  | 0 => rfl
  | k + 1 => by
    rw [sumL, sum_got H t k, leftTo]
    unfold got
    omega
theorem sum_ofI (H A : List Int) (f : Int) (n : Nat) : ∀ k, k ≤ n → sumL (ofI H A f n) k = 10000 - leftTo (hH H A f) (tot H A f n) k + if 0 ≤ someTo H n ∧ someTo H n < k then leftTo (hH H A f) (tot H A f n) n else 0
  | 0, _ => by
    rw [if_neg (by omega)]
    rfl
  | k + 1, hk => by
    rw [sumL, sum_ofI H A f n k (by omega), ofI, someTo_at H (show k < n by omega), leftTo]
    have e : part (hH H A f) (tot H A f n) (leftTo (hH H A f) (tot H A f n) k) k = got (hH H A f) (tot H A f n) k := rfl
    rw [e]
    by_cases h : (k : Int) = someTo H n
    · have h1 : ((k : Int) == someTo H n) = true := by simp [h]
      rw [h1, if_pos rfl, if_neg (by omega), if_pos (by omega)]
      omega
    · have h1 : ((k : Int) == someTo H n) = false := by simp [h]
      rw [h1]
      simp only [Bool.false_eq_true, if_false]
      by_cases h2 : 0 ≤ someTo H n ∧ someTo H n < k
      · rw [if_pos h2, if_pos (by omega)]
        omega
      · rw [if_neg h2, if_neg (by omega)]
        omega
theorem ofI_bd (H A : List Int) (f : Int) (n k : Nat) : 0 ≤ ofI H A f n k ∧ ofI H A f n k ≤ 20000 := by
  have h1 := got_bd (hH_bd H A f) (tot_bd H A f n).1 k
  have h2 := left_bd (hH_bd H A f) (tot_bd H A f n).1 n
  unfold ofI
  split <;> omega
theorem sumL_bd {F : Nat → Int} (h : ∀ k, 0 ≤ F k ∧ F k ≤ 20000) : ∀ k, 0 ≤ sumL F k ∧ sumL F k ≤ 20000 * k
  | 0 => by simp [sumL]
  | k + 1 => by
    have := sumL_bd h k
    have := h k
    rw [sumL]
    omega
/-- Nothing without a host. -/
theorem ofI_zero {H A : List Int} {f : Int} {n i : Nat} (h : H.getD i 0 = 0) : ofI H A f n i = 0 := by
  unfold ofI
  rw [got_zero (hH_bd H A f) (tot_bd H A f n).1 (by unfold hH; rw [h]; exact hI_zero _ _), h]
  simp
/-- Nothing behind levels that are well enough. -/
theorem ofI_behind {H A : List Int} {f : Int} {n i : Nat} (hi : i < n) (h : 10000 ≤ hSum (hH H A f) i) : ofI H A f n i = 0 := by
  obtain ⟨h1, h2, h3⟩ := got_behind (hH_bd H A f) (t := tot H A f n) rfl (Nat.le_of_lt hi) h
  obtain ⟨_, h4, _⟩ := got_behind (hH_bd H A f) (t := tot H A f n) (n := n) rfl (Nat.le_refl _) (Int.le_trans h (hSum_mono (hH_bd H A f) (Nat.le_of_lt hi)))
  unfold ofI
  rw [h3, h4]
  simp
/-- All to the first level that is well enough. -/
theorem ofI_all {H A : List Int} {f : Int} {n : Nat} (hn : 0 < n) (h : hH H A f 0 = 10000) : ofI H A f n 0 = 10000 := by
  have h1 : hSum (hH H A f) 1 = 10000 := by rw [hSum, hSum, h]; rfl
  obtain ⟨e1, e2, _⟩ := got_behind (hH_bd H A f) (t := tot H A f n) (n := n) (i := n) rfl (Nat.le_refl _) (by have := hSum_mono (hH_bd H A f) (show 1 ≤ n by omega); omega)
  have e3 : got (hH H A f) 10000 0 = 10000 := by
    unfold got part
    rw [h]
    rfl
  unfold ofI
  rw [e2, e1, e3]
  simp
theorem sum_none {H A : List Int} {f : Int} {n : Nat} (hr : ∀ k, k < n → 0 ≤ H.getD k 0) (h : noneTo H n = true) : ∀ k, k ≤ n → sumL (ofI H A f n) k = 0
  | 0, _ => rfl
  | k + 1, hk => by
    have := noneTo_at h (show k < n by omega)
    have := hr k (by omega)
    rw [sumL, sum_none hr h k (by omega), ofI_zero (by omega)]
    rfl
end Go.Proofs.Ytblbgafadadbmaa
end
