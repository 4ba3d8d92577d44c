/- Lemmas for the claim's proof: StabE StabF. -/
import Derived.Sort.WalkA
import Derived.Test.YtcpfekhpbjkgeaaQ04
section
/- slices.symMergeCmpFunc, of items: the way in general. -/
set_option linter.unusedVariables false
namespace Go.Proofs.Ytcpfekhpbjkgeaa
open Go.RowKit Go.Sort
set_option maxHeartbeats 16000000
set_option maxRecDepth 1000000
/-- Where the search begins, and ends. -/
def sym0 (a m b : Nat) : Nat := if (a + b) / 2 < m then (a + b) / 2 + m - b else a
def sym1 (a m b : Nat) : Nat := if (a + b) / 2 < m then (a + b) / 2 else m
theorem sym_bounds {a m b : Nat} (h1 : a < m) (h2 : m < b) : a ≤ sym0 a m b ∧ sym0 a m b ≤ sym1 a m b ∧ sym1 a m b ≤ m ∧ sym1 a m b ≤ (a + b) / 2 := by
  unfold sym0 sym1
  split <;> omega
theorem sym_read {a m b c : Nat} (h1 : a < m) (h2 : m < b) (h3 : sym0 a m b ≤ c) (h4 : c < sym1 a m b) : c + 1 ≤ (a + b) / 2 + m ∧ (a + b) / 2 + m - 1 - c < b := by
  unfold sym0 at h3
  unfold sym1 at h4
  split at h3 <;> split at h4 <;> omega
theorem sym_ends {a m b : Nat} (h1 : a < m) (h2 : m < b) {d : Array It} {s : Nat} (ha : sym0 a m b ≤ s) (hz : s ≤ sym1 a m b)
    (hl : s = sym0 a m b ∨ itB d[(a + b) / 2 + m - s]! d[s - 1]! = false) (hr : s = sym1 a m b ∨ itB d[(a + b) / 2 + m - 1 - s]! d[s]! = true) :
    a ≤ s ∧ s ≤ m ∧ m ≤ (a + b) / 2 + m - s ∧ (a + b) / 2 + m - s ≤ b ∧ s + ((a + b) / 2 + m - s - m) = (a + b) / 2 ∧
      (s = a ∨ (a + b) / 2 + m - s = b ∨ itB d[(a + b) / 2 + m - s]! d[s - 1]! = false) ∧ (s = m ∨ (a + b) / 2 + m - s = m ∨ itB d[(a + b) / 2 + m - s - 1]! d[s]! = true) := by
  obtain ⟨b1, b2, b3, b4⟩ := sym_bounds h1 h2
  have e : (a + b) / 2 + m - s - 1 = (a + b) / 2 + m - 1 - s := by omega
  rw [e]
  refine ⟨by omega, by omega, by omega, ?_, by omega, ?_, ?_⟩
  · unfold sym0 at ha
    split at ha <;> omega
  · rcases hl with hl | hl
    · unfold sym0 at hl
      split at hl
      · exact Or.inr (Or.inl (by omega))
      · exact Or.inl hl
    · exact Or.inr (Or.inr hl)
  · rcases hr with hr | hr
    · unfold sym1 at hr
      split at hr
      · exact Or.inr (Or.inl (by omega))
      · exact Or.inl hr
    · exact Or.inr (Or.inr hr)
/-- What is asked of symMerge for shorter ranges. -/
def SymOk (blk off cap : Nat) (d0 : Array It) (w0 : World) (n : Nat) : Prop :=
  ∀ (a m b : Nat) (d : Array It) (w : World), d0.size = d.size → SWK encIt 2 w0 blk off d w → b - a ≤ n → a < m → m < b → b ≤ d.size → SortedIn itB a m d → SortedIn itB m b d →
    Calls Try.prog 82 #[.slice (some ⟨blk, off, none⟩) d.size cap, .int .i64 a, .int .i64 m, .int .i64 b, .func (.func 51) #[] #[]] w fun e w' =>
      e = .returned (.tuple #[]) ∧ ∃ d', PermIn a b d d' ∧ SortedIn itB a b d' ∧ SWK encIt 2 w0 blk off d' w'
theorem symMerge_more (blk off cap : Nat) (d0 : Array It) (w0 : World) (R : RowK encIt 2 w0 blk off d0) (hsz : d0.size < 4611686018427387904) (n : Nat) (ih : SymOk blk off cap d0 w0 n)
    (a m b : Nat) (d : Array It) (w : World) (hs : d0.size = d.size) (S : SWK encIt 2 w0 blk off d w) (hn : b - a ≤ n + 1) (ham : a < m) (hmb : m < b) (hb : b ≤ d.size) (s1 : SortedIn itB a m d) (s2 : SortedIn itB m b d) (h1 : m ≠ a + 1) (h2 : b ≠ m + 1) :
    Calls Try.prog 82 #[.slice (some ⟨blk, off, none⟩) d.size cap, .int .i64 a, .int .i64 m, .int .i64 b, .func (.func 51) #[] #[]] w fun e w' =>
      e = .returned (.tuple #[]) ∧ ∃ d', PermIn a b d d' ∧ SortedIn itB a b d' ∧ SWK encIt 2 w0 blk off d' w' := by
  have S0 : Aside (SWK encIt 2 w0 blk off d w) := S
  have IH := Lib.hid ih
  have HS1 := Lib.hid s1
  have HS2 := Lib.hid s2
  have mixed : Try.prog.follows .mixedOrders = true := by kernel_rfl
  have wm : IntKind.i64.wrap ((m : Int) - (a : Int)) = (m : Int) - (a : Int) := by rw [IntKind.wrap_i64]; omega
  have wb : IntKind.i64.wrap ((b : Int) - (m : Int)) = (b : Int) - (m : Int) := by rw [IntKind.wrap_i64]; omega
  have g1 : ((m : Int) - (a : Int) == 1) = false := by rw [beq_eq_false_iff_ne]; omega
  have g2 : ((b : Int) - (m : Int) == 1) = false := by rw [beq_eq_false_iff_ne]; omega
  have wab : IntKind.i64.wrap ((a : Int) + (b : Int)) = (a : Int) + (b : Int) := by rw [IntKind.wrap_i64]; omega
  have HB := Lib.hid (sym_bounds ham hmb)
  have HRD := Lib.hid (fun c h3 h4 => sym_read (c := c) ham hmb h3 h4)
  have HEN := Lib.hid (fun s ha hz hl hr => sym_ends (d := d) (s := s) ham hmb ha hz hl hr)
  have H0 := Lib.hid (show sym0 a m b = if (a + b) / 2 < m then (a + b) / 2 + m - b else a from rfl)
  have H1 := Lib.hid (show sym1 a m b = if (a + b) / 2 < m then (a + b) / 2 else m from rfl)
  generalize sym0 a m b = t0 at *
  generalize sym1 a m b = t1 at *
  obtain ⟨mid, hmid⟩ : ∃ q, q = (a + b) / 2 := ⟨_, rfl⟩
  have emid : ((a : Int) + (b : Int)) / 2 = (mid : Int) := by omega
  have wmm : IntKind.i64.wrap ((mid : Int) + (m : Int)) = (mid : Int) + (m : Int) := by rw [IntKind.wrap_i64]; omega
  rw [← hmid] at HB HRD HEN H0 H1
  have HMI := Lib.hid (show a < mid ∧ mid < b ∧ b - mid ≤ n ∧ mid - a ≤ n by omega)
  clear hmid S ih s1 s2 h1 h2 hn
  go_enter Try.func82, Try.ntmps82
  go_upto_if 140 with (fail)
  clear wm wb g1 g2
  go_cut [20, 21] (fun s20 s21 wx => w = wx ∧ s20 = .int .i64 t0 ∧ s21 = .int .i64 t1)
  case first =>
    as_aux_lemma =>
    by_cases hc : mid < m
    · have hcz : (mid : Int) < (m : Int) := by omega
      have e0 : IntKind.i64.wrap ((mid : Int) + (m : Int) - (b : Int)) = (t0 : Int) := by rw [H0.out, if_pos hc, IntKind.wrap_i64]; have := HMI.out; have := HB.out; rw [H0.out, if_pos hc] at this; omega
      have e1 : t1 = mid := by rw [H1.out, if_pos hc]
      have H := Lib.hid e1
      clear e1
      go_wp2_with fail
      go_meet
      exact ⟨rfl, rfl, by rw [H.out]⟩
    · have hcz : ¬ (mid : Int) < (m : Int) := by omega
      have Ha := Lib.hid (show t0 = a by rw [H0.out, if_neg hc])
      have Hb := Lib.hid (show t1 = m by rw [H1.out, if_neg hc])
      go_wp2_with fail
      go_meet
      exact ⟨rfl, by rw [Ha.out], by rw [Hb.out]⟩
  case rest =>
    as_aux_lemma =>
    obtain ⟨rfl, rfl, rfl⟩ := hcut
    obtain ⟨pp, hpp⟩ : ∃ q, q + 1 = mid + m := ⟨mid + m - 1, by omega⟩
    have wpp : IntKind.i64.wrap ((mid : Int) + (m : Int) - 1) = (pp : Int) := by rw [IntKind.wrap_i64]; omega
    have HPP := Lib.hid hpp
    clear hpp H0 H1
    go_wp2_with fail
    go_loopg [20, 21] (t1 - t0) (fun gk s20 s21 wr => ∃ (s r : Nat), s20 = .int .i64 s ∧ s21 = .int .i64 r ∧ t0 ≤ s ∧ s ≤ r ∧ r ≤ t1 ∧ gk = r - s ∧ Hid (s = t0 ∨ itB d[mid + m - s]! d[s - 1]! = false) ∧ Hid (r = t1 ∨ itB d[mid + m - 1 - r]! d[r]! = true) ∧ Aside (SWK encIt 2 w0 blk off d wr))
    case atStart => exact ⟨t0, t1, rfl, rfl, Nat.le_refl _, HB.out.2.1, Nat.le_refl _, rfl, Lib.hid (Or.inl rfl), Lib.hid (Or.inl rfl), S0⟩
    case round =>
      clear S0
      obtain ⟨s, r, rfl, rfl, hs0, hsr, hr1, rfl, HL, HR, S1⟩ := hrel
      by_cases hlt : s < r
      · have hltz : (s : Int) < (r : Int) := by omega
        have hb4 := HB.out.2.2.1
        have wsr : IntKind.i64.wrap ((s : Int) + (r : Int)) = (s : Int) + (r : Int) := by rw [IntKind.wrap_i64]; omega
        obtain ⟨c, hc⟩ : ∃ c, c = (s + r) / 2 := ⟨_, rfl⟩
        have ec : ((s : Int) + (r : Int)) / 2 = (c : Int) := by omega
        have HN := Lib.hid (show s ≤ c ∧ c < r by omega)
        have hrd := HRD.out c (by have := HN.out; omega) (by have := HN.out; omega)
        obtain ⟨q, hq⟩ : ∃ q, q + c = pp := ⟨pp - c, by have := HPP.out; omega⟩
        have wq : IntKind.i64.wrap ((pp : Int) - (c : Int)) = (q : Int) := by rw [IntKind.wrap_i64]; have := HPP.out; omega
        have HQ := Lib.hid (show mid + m - 1 - c = q ∧ mid + m - (c + 1) = q by have := HPP.out; omega)
        have hqd : q < d.size := by have := HPP.out; omega
        have hcd : c < d.size := by have := HN.out; omega
        have hqz : (q : Int) < (d.size : Int) := by omega
        have hczz : (c : Int) < (d.size : Int) := by omega
        have wc1 : IntKind.i64.wrap ((c : Int) + 1) = (c : Int) + 1 := by rw [IntKind.wrap_i64]; omega
        obtain ⟨lx1, lx2⟩ := swk_load S1.out R (by omega) (i := q) hqd
        obtain ⟨ly1, ly2⟩ := swk_load S1.out R (by omega) (i := c) hcd
        have hcmp := swk_cmp S1.out (d0 := d0) (by omega) d[q]! d[c]!
        obtain ⟨X, hX⟩ : ∃ X, X = d[q]! := ⟨_, rfl⟩
        obtain ⟨Y, hY⟩ : ∃ Y, Y = d[c]! := ⟨_, rfl⟩
        rw [← hX, ← hY] at hcmp
        rw [← hX] at lx1 lx2
        rw [← hY] at ly1 ly2
        have HXY := Lib.hid (And.intro hX.symm hY.symm)
        clear hc hq hrd hb4 hqd hcd hX hY
        cases hB : itB X Y with
        | true =>
          as_aux_lemma =>
          have hd : decide (itC X Y < 0) = true := decide_eq_true (itC_neg hB)
          have HBB := Lib.hid hB
          clear hB
          go_wp2_with fail
          clear ec wsr hltz
          go_quiet_grown (first | (go_at_call 51; refine Calls.grown_of (hcmp _ _)))
          have S2 : Aside (SWK encIt 2 w0 blk off d (grow (wr.drewN nq) osq)) := S1.out.grown nq osq
          clear lx1 lx2 ly1 ly2 hcmp S1
          generalize grow (wr.drewN nq) osq = w2 at S2 ⊢
          go_wp2
          go_roundg (c - s)
          case measure => have := HN.out; omega
          case rel => exact ⟨s, c, rfl, by go_num, hs0, HN.out.1, by have := HN.out; omega, rfl, HL, Lib.hid (Or.inr (by rw [HQ.out.1, HXY.out.1, HXY.out.2]; exact HBB.out)), S2⟩
        | false =>
          as_aux_lemma =>
          have hd : decide (itC X Y < 0) = false := decide_eq_false (itC_pos hB)
          have HBB := Lib.hid hB
          clear hB
          go_wp2_with fail
          clear ec wsr hltz
          go_quiet_grown (first | (go_at_call 51; refine Calls.grown_of (hcmp _ _)))
          have S2 : Aside (SWK encIt 2 w0 blk off d (grow (wr.drewN nq) osq)) := S1.out.grown nq osq
          clear lx1 lx2 ly1 ly2 hcmp S1
          generalize grow (wr.drewN nq) osq = w2 at S2 ⊢
          go_wp2
          go_roundg (r - (c + 1))
          case measure => have := HN.out; omega
          case rel => exact ⟨c + 1, r, by go_num, rfl, by have := HN.out; omega, by have := HN.out; omega, hr1, rfl, Lib.hid (Or.inr (by rw [HQ.out.2, Nat.add_sub_cancel, HXY.out.1, HXY.out.2]; exact HBB.out)), HR, S2⟩
      · obtain rfl : s = r := by omega
        have hge : ¬ (s : Int) < (s : Int) := by omega
        obtain ⟨q1, q2, q3, q4, q5, q6, q7⟩ := HEN.out s hs0 hr1 HL.out HR.out
        obtain ⟨f, hf⟩ : ∃ f, f = mid + m - s := ⟨_, rfl⟩
        rw [← hf] at q3 q4 q5 q6 q7
        have wf : IntKind.i64.wrap ((mid : Int) + (m : Int) - (s : Int)) = (f : Int) := by rw [IntKind.wrap_i64]; omega
        have HQ5 := Lib.hid q5
        have HQ6 := Lib.hid q6
        have HQ7 := Lib.hid q7
        clear hf q5 q6 q7 HL HR HRD HEN HPP
        go_upto_region 39 with (fail)
        go_cut [185] (fun z wx => wr = wx ∧ z = .bool (decide (s < m ∧ m < f)))
        case first =>
          as_aux_lemma =>
          by_cases hA : s < m
          · by_cases hZ : m < f
            · have hA2 : decide ((s : Int) < (m : Int)) = true := decide_eq_true (by omega)
              have hZ2 : decide ((m : Int) < (f : Int)) = true := decide_eq_true (by omega)
              have HD := Lib.hid (show decide (s < m ∧ m < f) = true from decide_eq_true ⟨hA, hZ⟩)
              generalize decide (s < m ∧ m < f) = D at *
              go_wp2_with fail
              go_meet
              exact ⟨rfl, by rw [HD.out]⟩
            · have hA2 : decide ((s : Int) < (m : Int)) = true := decide_eq_true (by omega)
              have hZ2 : decide ((m : Int) < (f : Int)) = false := decide_eq_false (by omega)
              have HD := Lib.hid (show decide (s < m ∧ m < f) = false from decide_eq_false (fun h => hZ h.2))
              generalize decide (s < m ∧ m < f) = D at *
              go_wp2_with fail
              go_meet
              exact ⟨rfl, by rw [HD.out]⟩
          · have hA2 : decide ((s : Int) < (m : Int)) = false := decide_eq_false (by omega)
            have HD := Lib.hid (show decide (s < m ∧ m < f) = false from decide_eq_false (fun h => hA h.1))
            generalize decide (s < m ∧ m < f) = D at *
            go_wp2_with fail
            go_meet
            exact ⟨rfl, by rw [HD.out]⟩
        case rest =>
        as_aux_lemma =>
        obtain ⟨rfl, rfl⟩ := hcut
        have HD := Lib.hid (Iff.intro (fun h : decide (s < m ∧ m < f) = true => of_decide_eq_true h) (fun h => decide_eq_true h))
        generalize decide (s < m ∧ m < f) = D at *
        go_upto_if 185 with (fail)
        go_cut [] (fun wx => ∃ d1, Hid (Rot d d1 s m f) ∧ Hid (PermIn a b d d1) ∧ d1.size = d.size ∧ Aside (SWK encIt 2 w0 blk off d1 wx))
        case first =>
          as_aux_lemma =>
          cases D with
          | true =>
            as_aux_lemma =>
            obtain ⟨hA, hZ⟩ := HD.out.1 rfl
            have hcall := rotate_items 51 #[] blk off cap s m f d0 d w0 wr R hs S1.out hA hZ (by omega) (by omega)
            clear S1 HD
            go_wp2_with fail
            refine hcall.mono ?_; rintro e w2 ⟨rfl, d1, hR, hP, hW⟩
            have HX := Lib.hid hR
            have HY := Lib.hid (show PermIn a b d d1 from permIn_mono _ _ _ _ _ _ q1 q4 hb hP)
            have hz : d1.size = d.size := hP.1
            have S2 : Aside (SWK encIt 2 w0 blk off d1 w2) := hW
            clear hcall hR hP hW
            go_wp2_with fail
            go_meet
            exact ⟨d1, HX, HY, hz, S2⟩
          | false =>
            as_aux_lemma =>
            have HE := Lib.hid (show s = m ∨ m = f by
              by_cases c1 : s = m
              · exact Or.inl c1
              · by_cases c2 : m = f
                · exact Or.inr c2
                · exact absurd (HD.out.2 ⟨by omega, by omega⟩) (by decide))
            clear HD
            go_wp2_with fail
            go_meet
            exact ⟨d, Lib.hid (Rot.same q2 q3 HE.out), Lib.hid (permIn_refl d a b), rfl, S1⟩
        case rest =>
          as_aux_lemma =>
          obtain ⟨d1, HRo, HP1, hz1, S2⟩ := hcut
          have HMP := Lib.hid (merge_parts itB_swo HS1.out HS2.out q1 q2 q3 q4 HQ5.out HQ6.out HQ7.out HRo.out)
          have hsm : s ≤ mid := by have := HQ5.out; omega
          have hmf : mid ≤ f := by have := HQ5.out; omega
          have hmi := HMI.out
          clear S1 HRo HQ5 HQ6 HQ7 HS1 HS2 wf
          go_upto_region 41 with (fail)
          go_cut [199] (fun z wx => wc = wx ∧ z = .bool (decide (a < s ∧ s < mid)))
          case first =>
            as_aux_lemma =>
            by_cases hA : a < s
            · by_cases hZ : s < mid
              · have hA2 : decide ((a : Int) < (s : Int)) = true := decide_eq_true (by omega)
                have hZ2 : decide ((s : Int) < (mid : Int)) = true := decide_eq_true (by omega)
                have HD := Lib.hid (show decide (a < s ∧ s < mid) = true from decide_eq_true ⟨hA, hZ⟩)
                generalize decide (a < s ∧ s < mid) = D2 at *
                go_wp2_with fail
                go_meet
                exact ⟨rfl, by rw [HD.out]⟩
              · have hA2 : decide ((a : Int) < (s : Int)) = true := decide_eq_true (by omega)
                have hZ2 : decide ((s : Int) < (mid : Int)) = false := decide_eq_false (by omega)
                have HD := Lib.hid (show decide (a < s ∧ s < mid) = false from decide_eq_false (fun h => hZ h.2))
                generalize decide (a < s ∧ s < mid) = D2 at *
                go_wp2_with fail
                go_meet
                exact ⟨rfl, by rw [HD.out]⟩
            · have hA2 : decide ((a : Int) < (s : Int)) = false := decide_eq_false (by omega)
              have HD := Lib.hid (show decide (a < s ∧ s < mid) = false from decide_eq_false (fun h => hA h.1))
              generalize decide (a < s ∧ s < mid) = D2 at *
              go_wp2_with fail
              go_meet
              exact ⟨rfl, by rw [HD.out]⟩
          case rest =>
          as_aux_lemma =>
          obtain ⟨rfl, rfl⟩ := hcut
          have HD := Lib.hid (Iff.intro (fun h : decide (a < s ∧ s < mid) = true => of_decide_eq_true h) (fun h => decide_eq_true h))
          generalize decide (a < s ∧ s < mid) = D2 at *
          go_upto_if 199 with (fail)
          go_cut [] (fun wx => ∃ d2, Hid (PermIn a mid d1 d2) ∧ Hid (SortedIn itB a mid d2) ∧ d2.size = d.size ∧ Aside (SWK encIt 2 w0 blk off d2 wx))
          case first =>
            as_aux_lemma =>
            cases D2 with
            | true =>
              as_aux_lemma =>
              obtain ⟨hA, hZ⟩ := HD.out.1 rfl
              have hcall := IH.out a s mid d1 wc (by omega) S2.out (by omega) hA hZ (by omega) HMP.out.1 HMP.out.2.1
              rw [hz1] at hcall
              clear S2 HD
              go_wp2_with fail
              refine hcall.mono ?_; rintro e w2 ⟨rfl, d2, hP, hS, hW⟩
              have HX := Lib.hid hP
              have HY := Lib.hid hS
              have hz : d2.size = d.size := hP.1.trans hz1
              have S3 : Aside (SWK encIt 2 w0 blk off d2 w2) := hW
              clear hcall hS hP hW
              go_wp2_with fail
              go_meet
              exact ⟨d2, HX, HY, hz, S3⟩
            | false =>
              as_aux_lemma =>
              have HE := Lib.hid (show s = a ∨ s = mid by
                by_cases c1 : s = a
                · exact Or.inl c1
                · by_cases c2 : s = mid
                  · exact Or.inr c2
                  · exact absurd (HD.out.2 ⟨by omega, by omega⟩) (by decide))
              have HSS := Lib.hid (show SortedIn itB a mid d1 by
                rcases HE.out with e | e
                · have := HMP.out.2.1; rwa [e] at this
                · have := HMP.out.1; rwa [e] at this)
              clear HD HE
              go_wp2_with fail
              go_meet
              exact ⟨d1, Lib.hid (permIn_refl d1 a mid), HSS, hz1, S2⟩
          case rest =>
            as_aux_lemma =>
            obtain ⟨d2, HP2, HS2, hz2, S3⟩ := hcut
            have HS3 := Lib.hid (show SortedIn itB mid f d2 from sorted_same HMP.out.2.2.1 (fun i h1 h2 => HP2.out.2.1 i (Or.inr h1)))
            have HS4 := Lib.hid (show SortedIn itB f b d2 from sorted_same HMP.out.2.2.2.1 (fun i h1 h2 => HP2.out.2.1 i (Or.inr (by omega))))
            have HFIN := Lib.hid (fun d3 p3 s3 => merge_end (d3 := d3) (show b ≤ d1.size by omega) (show mid ≤ b by omega) (show a ≤ mid by omega) HMP.out.2.2.2.2 HP2.out HS2.out p3 s3)
            clear S2 HMP
            by_cases hA : mid < f
            · by_cases hZ : f < b
              · have hA2 : decide ((mid : Int) < (f : Int)) = true := decide_eq_true (by omega)
                have hZ2 : decide ((f : Int) < (b : Int)) = true := decide_eq_true (by omega)
                have hcall := IH.out mid f b d2 wc (by omega) S3.out (by omega) hA hZ (by omega) HS3.out HS4.out
                rw [hz2] at hcall
                clear S3
                go_wp2_with fail
                refine hcall.mono ?_; rintro e w2 ⟨rfl, d3, hP, hS, hW⟩
                have HX := Lib.hid (HFIN.out d3 hP hS)
                have S4 : Aside (SWK encIt 2 w0 blk off d3 w2) := hW
                clear hcall hS hP hW
                go_wp2
                go_end0
                exact ⟨rfl, d3, permIn_trans _ _ _ _ _ HP1.out HX.out.1, HX.out.2, S4.out⟩
              · have hA2 : decide ((mid : Int) < (f : Int)) = true := decide_eq_true (by omega)
                have hZ2 : decide ((f : Int) < (b : Int)) = false := decide_eq_false (by omega)
                have HX := Lib.hid (HFIN.out d2 (permIn_refl d2 mid b) (by have := HS3.out; rwa [show f = b by omega] at this))
                go_wp2
                go_end0
                exact ⟨rfl, d2, permIn_trans _ _ _ _ _ HP1.out HX.out.1, HX.out.2, S3.out⟩
            · have hA2 : decide ((mid : Int) < (f : Int)) = false := decide_eq_false (by omega)
              have HX := Lib.hid (HFIN.out d2 (permIn_refl d2 mid b) (by have := HS4.out; rwa [show f = mid by omega] at this))
              go_wp2
              go_end0
              exact ⟨rfl, d2, permIn_trans _ _ _ _ _ HP1.out HX.out.1, HX.out.2, S3.out⟩
theorem symMerge_items (blk off cap : Nat) (d0 : Array It) (w0 : World) (R : RowK encIt 2 w0 blk off d0) (hsz : d0.size < 4611686018427387904) : ∀ n, SymOk blk off cap d0 w0 n
  | 0 => fun a m b d w hs S hn ham hmb => by omega
  | n + 1 => fun a m b d w hs S hn ham hmb hb s1 s2 => by
    by_cases h12 : m = a + 1 ∨ b = m + 1
    · exact symMerge_ends blk off cap d0 w0 R hsz a m b d w hs S ham hmb hb s1 s2 h12
    · exact symMerge_more blk off cap d0 w0 R hsz n (symMerge_items blk off cap d0 w0 R hsz n) a m b d w hs S hn ham hmb hb s1 s2 (by omega) (by omega)
end Go.Proofs.Ytcpfekhpbjkgeaa
end
section
/- slices.insertionSortCmpFunc, stableCmpFunc, SortStableFunc, of items. -/
set_option linter.unusedVariables false
namespace Go.Proofs.Ytcpfekhpbjkgeaa
open Go.RowKit Go.Sort
set_option maxHeartbeats 16000000
set_option maxRecDepth 1000000
theorem insertion_items (blk off cap a b : Nat) (d0 d : Array It) (w0 w : World)
    (R : RowK encIt 2 w0 blk off d0) (hs : d0.size = d.size) (S : SWK encIt 2 w0 blk off d w) (hab : a ≤ b) (hb : b ≤ d.size) (hsz : d.size < 4611686018427387904) :
    Calls Try.prog 81 #[.slice (some ⟨blk, off, none⟩) d.size cap, .int .i64 a, .int .i64 b, .func (.func 51) #[] #[]] w fun e w' =>
      e = .returned (.tuple #[]) ∧ ∃ d', PermIn a b d d' ∧ SortedIn itB a b d' ∧ SWK encIt 2 w0 blk off d' w' := by
  have S0 : Aside (SWK encIt 2 w0 blk off d w) := S
  have HOK := Lib.hid (insertionSort_holds (lt := itB) itB_swo d a b hab hb)
  have HDF := Lib.hid (show Go.Sort.insertionSort itB d a b = insOuter itB a b (a + 1) d from rfl)
  generalize Go.Sort.insertionSort itB d a b = DS at *
  clear S
  have mixed : Try.prog.follows .mixedOrders = true := by kernel_rfl
  have wa1 : IntKind.i64.wrap ((a : Int) + 1) = (a : Int) + 1 := by rw [IntKind.wrap_i64]; omega
  go_enter Try.func81, Try.ntmps81
  go_wp2_with fail
  go_loopg [8] (b - a) (fun gk s8 wr => ∃ (i : Nat) (dk : Array It), s8 = .int .i64 i ∧ a < i ∧ i ≤ b + 1 ∧ b + 1 - i ≤ gk + 1 ∧ dk.size = d.size ∧ Hid (insOuter itB a b i dk = insOuter itB a b (a + 1) d) ∧ Aside (SWK encIt 2 w0 blk off dk wr))
  case atStart => exact ⟨a + 1, d, by go_num, by omega, by omega, by omega, rfl, Lib.hid rfl, S0⟩
  case round =>
    clear S0 wa1
    obtain ⟨i, dk, rfl, hai, hib, hg1, hsk, HO, S1⟩ := hrel
    by_cases hlt : i < b
    · have hltz : (i : Int) < (b : Int) := by omega
      have wi1 : IntKind.i64.wrap ((i : Int) + 1) = (i : Int) + 1 := by rw [IntKind.wrap_i64]; omega
      go_wp2_with fail
      obtain ⟨wo, rfl⟩ : ∃ wo, wo = wr := ⟨_, rfl⟩
      obtain ⟨dko, hdko⟩ : ∃ q, q = dk := ⟨_, rfl⟩
      rw [← hdko] at HO hsk S1
      clear hdko
      go_loopg [9] i (fun g2 s9 wr => ∃ (j : Nat) (dj : Array It), s9 = .int .i64 j ∧ a ≤ j ∧ j ≤ i ∧ j ≤ g2 ∧ dj.size = d.size ∧ Hid (insInner itB a j dj = insInner itB a i dko) ∧ Aside (SWK encIt 2 w0 blk off dj wr))
      case atStart => exact ⟨i, dko, rfl, by omega, Nat.le_refl _, Nat.le_refl _, hsk, Lib.hid rfl, S1⟩
      case round =>
        clear S1
        obtain ⟨j, dk, rfl, haj, hji, hg2, hsk, HI, S1⟩ := hrel
        have OUT := Lib.hid (show (j ≤ a ∨ itB dk[j]! dk[j - 1]! = false) → insOuter itB a b (i + 1) dk = insOuter itB a b (a + 1) d from fun h => by
          rw [← HO.out, insOuter_go _ _ _ _ _ hlt, ← HI.out, insInner_stop _ _ _ _ h])
        by_cases hja : a < j
        · obtain ⟨q, rfl⟩ : ∃ q, j = q + 1 := ⟨j - 1, by omega⟩
          have hjd : decide ((q : Int) + 1 > (a : Int)) = true := decide_eq_true (by omega)
          have hjz : (a : Int) < (q : Int) + 1 := by omega
          have wk2 : IntKind.i64.wrap (q : Int) = (q : Int) := by rw [IntKind.wrap_i64]; omega
          have hb1 : (q : Int) + 1 < (d.size : Int) := by omega
          have hb2 : (q : Int) < (d.size : Int) := by omega
          have e1 : ((q : Int) + 1).toNat = q + 1 := by omega
          have e0 : (0 : Int) ≤ (q : Int) + 1 := by omega
          obtain ⟨lx1, lx2⟩ := swk_load S1.out R (by omega) (i := q + 1) (by omega)
          obtain ⟨ly1, ly2⟩ := swk_load S1.out R (by omega) (i := q) (by omega)
          have hcmp := swk_cmp S1.out (d0 := d0) (by omega) dk[q + 1]! dk[q]!
          obtain ⟨X, hX⟩ : ∃ X, X = dk[q + 1]! := ⟨_, rfl⟩
          obtain ⟨Y, hY⟩ : ∃ Y, Y = dk[q]! := ⟨_, rfl⟩
          rw [← hX, ← hY] at hcmp
          rw [← hX] at lx1 lx2
          rw [← hY] at ly1 ly2
          have HXY := Lib.hid (And.intro hX.symm hY.symm)
          clear hX hY
          cases hB : itB X Y with
          | true =>
            have hd : decide (itC X Y < 0) = true := decide_eq_true (itC_neg hB)
            have HI2 := Lib.hid (show insInner itB a q (swp dk (q + 1) q) = insInner itB a i dko by
              have := insInner_go itB a (q + 1) dk hja (by rw [Nat.add_sub_cancel, HXY.out.1, HXY.out.2]; exact hB)
              rw [Nat.add_sub_cancel] at this
              rw [← HI.out, this])
            clear hB
            go_wp2_with fail
            go_quiet_grown (first | (go_at_call 51; refine Calls.grown_of (hcmp _ _)))
            have S2 : Aside (SWK encIt 2 w0 blk off dk (grow (wr.drewN nq) osq)) := S1.out.grown nq osq
            clear lx1 lx2 ly1 ly2 hcmp S1 HI OUT hjd
            generalize grow (wr.drewN nq) osq = wr at S2 ⊢
            have S1 := S2
            clear S2
            obtain ⟨A1, A2, B1, B2, x1, x3, x6, a0, a1, b0, b1, ⟨f0, f1, f2, f3⟩, y1, y3, y6, S3⟩ := swk_swap S1.out R (by omega) (q + 1) (q) (by omega) (by omega)
            have hz : (swp dk (q + 1) (q)).size = d.size := by rw [size_swp]; exact hsk
            generalize swp dk (q + 1) (q) = dn at *
            clear S1
            go_wp2_with fail
            go_big_region_o
            clear a0 a1 b0 b1 f0 f1 f2 f3 y1 y3 y6
            generalize ((((wr.setCell ⟨blk, off + (q + 1) * 2, none⟩ (.int .i64 B1)).setCell ⟨blk, off + (q + 1) * 2 + 1, none⟩ (.int .i64 B2)).setCell ⟨blk, off + (q) * 2, none⟩ (.int .i64 A1)).setCell ⟨blk, off + (q) * 2 + 1, none⟩ (.int .i64 A2)).drew = w1 at S3 ⊢
            go_wp2
            go_roundg q
            case measure => omega
            case rel => exact ⟨q, dn, by go_num, by omega, by omega, Nat.le_refl _, hz, HI2, S3⟩
          | false =>
            have hd : decide (itC X Y < 0) = false := decide_eq_false (itC_pos hB)
            have HO2 := Lib.hid (OUT.out (Or.inr (by rw [Nat.add_sub_cancel, HXY.out.1, HXY.out.2]; exact hB)))
            clear hB
            go_wp2_with fail
            go_quiet_grown (first | (go_at_call 51; refine Calls.grown_of (hcmp _ _)))
            have S2 : Aside (SWK encIt 2 w0 blk off dk (grow (wr.drewN nq) osq)) := S1.out.grown nq osq
            clear lx1 lx2 ly1 ly2 hcmp S1 HI OUT hjd
            generalize grow (wr.drewN nq) osq = w2 at S2 ⊢
            go_wp2
            go_roundg (b - (i + 1))
            case measure => omega
            case rel => exact ⟨i + 1, dk, by go_num, by omega, by omega, by omega, hsk, HO2, S2⟩
        · have hjd : decide ((j : Int) > (a : Int)) = false := decide_eq_false (by omega)
          have hjz : ¬ (a : Int) < (j : Int) := by omega
          have HO2 := Lib.hid (OUT.out (Or.inl (by omega)))
          have S2 : Aside (SWK encIt 2 w0 blk off dk wr.drew) := S1.out.drew
          clear S1 OUT HI
          go_wp2_with fail
          go_big_region_o
          go_wp2
          go_roundg (b - (i + 1))
          case measure => omega
          case rel => exact ⟨i + 1, dk, by go_num, by omega, by omega, by omega, hsk, HO2, S2⟩
    · have hltz : ¬ (i : Int) < (b : Int) := by omega
      have HE := Lib.hid (show DS = dk by rw [HDF.out, ← HO.out, insOuter_stop _ _ _ _ _ hlt])
      go_wp2
      go_end0
      exact ⟨rfl, dk, by rw [← HE.out]; exact HOK.out.1, by rw [← HE.out]; exact HOK.out.2, S1.out⟩
end Go.Proofs.Ytcpfekhpbjkgeaa
end
