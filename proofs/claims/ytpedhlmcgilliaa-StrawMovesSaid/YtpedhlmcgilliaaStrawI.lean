/- StrawMoves. -/
import Derived.Test.YtpedhlmcgilliaaStrawH
set_option linter.unusedVariables false
namespace Go.Proofs.Ytpedhlmcgilliaa
open Go.RowKit
set_option maxHeartbeats 2000000
set_option maxRecDepth 100000
theorem Try.infoItem : (Try.prog.info? 25).map (fun i => (i.zero, i.size, i.bytes)) = some (some (.agg #[.int .u64 0, .int .u64 0]), 2, 16) := by kernel_rfl
theorem strawMoves_bad (w : World) (key : Int) (A : Option Addr) (n0 n c : Nat) (l : List (Int × Int)) (hl : IsPairs w .u64 .u64 A n c l) (at_ wt : Int) (a0 : -9223372036854775808 ≤ at_) (a1 : at_ ≤ 9223372036854775807) (w0 : 0 ≤ wt)
    (hF : ∀ w, Calls Try.prog 12 #[.slice A n0 c] w fun e w' => e = .returned (.slice A n c) ∧ w = w')
    (hbad : ¬ (0 ≤ at_ ∧ at_ < n ∧ wt ≠ 0 ∧ (l.getD at_.toNat (0, 0)).2 ≠ 0)) :
    Calls Try.prog 4 #[.int .u64 key, .slice A n0 c, .int .i64 at_, .int .u64 wt] w fun e w' => e = .returned (.bool true) ∧ Below w.heap.size w w' := by
  have hcap := hl.cap
  have hsm := hl.small
  by_cases h1 : at_ < 0
  · have g1 : decide (at_ < 0) = true := decide_eq_true h1
    clear hbad
    go_enter Try.func4, Try.ntmps4
    go_wp2_with fail
    refine (hF _).mono ?_; rintro e w' ⟨rfl, rfl⟩
    go_wp2_with fail
    refine (law25_awake _).mono ?_; rintro e w9 ⟨rfl, hx⟩
    go_wp2
    go_ret
    exact ⟨rfl, hx⟩
  have g1 : decide (at_ < 0) = false := decide_eq_false h1
  by_cases h2 : (n : Int) ≤ at_
  · have g2 : decide ((n : Int) ≤ at_) = true := decide_eq_true h2
    clear hbad
    go_enter Try.func4, Try.ntmps4
    go_wp2_with fail
    refine (hF _).mono ?_; rintro e w' ⟨rfl, rfl⟩
    go_wp2_with fail
    refine (law25_awake _).mono ?_; rintro e w9 ⟨rfl, hx⟩
    go_wp2
    go_ret
    exact ⟨rfl, hx⟩
  have g2 : decide ((n : Int) ≤ at_) = false := decide_eq_false h2
  by_cases h3 : wt = 0
  · have g3 : (wt == 0) = true := by simp [h3]
    clear hbad h3
    go_enter Try.func4, Try.ntmps4
    go_wp2_with fail
    refine (hF _).mono ?_; rintro e w' ⟨rfl, rfl⟩
    go_wp2_with fail
    refine (law25_awake _).mono ?_; rintro e w9 ⟨rfl, hx⟩
    go_wp2
    go_ret
    exact ⟨rfl, hx⟩
  have g3 : (wt == 0) = false := by simp [h3]
  obtain ⟨ad, rfl, _, c0, c1, _, _⟩ := hl.at_ (k := at_.toNat) (by omega)
  have h4 : (l.getD at_.toNat (0, 0)).2 = 0 := by
    rcases Int.lt_trichotomy (l.getD at_.toNat (0, 0)).2 0 with h | h | h
    · exact absurd ⟨by omega, by omega, h3, by omega⟩ hbad
    · exact h
    · exact absurd ⟨by omega, by omega, h3, by omega⟩ hbad
  rw [h4] at c1
  have ha0 : 0 ≤ at_ := by omega
  have han : at_ < (n : Int) := by omega
  clear hbad h3 h4
  go_enter Try.func4, Try.ntmps4
  go_wp2_with fail
  refine (hF _).mono ?_; rintro e w' ⟨rfl, rfl⟩
  go_wp2_with fail
  refine (law25_awake _).mono ?_; rintro e w9 ⟨rfl, hx⟩
  go_wp2
  go_ret
  exact ⟨rfl, hx⟩
theorem strawMoves_good (w : World) (key : Int) (k0 : 0 ≤ key) (k1 : key < 18446744073709551616) (A : Option Addr) (n0 n c : Nat) (l : List (Int × Int)) (hl : IsPairs w .u64 .u64 A n c l) (a : Nat) (wt : Int) (ha : a < n) (w0 : 0 < wt) (w1 : wt < 18446744073709551616)
    (hF : ∀ w, Calls Try.prog 12 #[.slice A n0 c] w fun e w' => e = .returned (.slice A n c) ∧ w = w')
    (hne : (l.getD a (0, 0)).2 ≠ 0) :
    Calls Try.prog 4 #[.int .u64 key, .slice A n0 c, .int .i64 a, .int .u64 wt] w fun e w' => e = .returned (.bool true) ∧ Below w.heap.size w w' := by
  have hcap := hl.cap
  have hsm := hl.small
  have hrc := hl.reach
  obtain ⟨ad, rfl, hbk, c0, c1, x0, x1⟩ := hl.at_ ha
  have han : (a : Int) < (n : Int) := by omega
  have g2 : decide ((n : Int) ≤ (a : Int)) = false := decide_eq_false (by omega)
  have g3 : (wt == 0) = false := by simp; omega
  have g4 : ((l.getD a (0, 0)).2 == 0) = false := by rw [beq_eq_false_iff_ne]; exact hne
  have g5 : decide (n ≤ a) = false := decide_eq_false (by omega)
  have g1 : decide ((a : Int) < 0) = false := decide_eq_false (by omega)
  obtain ⟨y, hy⟩ : ∃ y, y = l.getD a (0, 0) := ⟨_, rfl⟩
  rw [← hy] at c0 c1 x0 x1 g4 hne
  have HY := Lib.hid hy
  have HNE := Lib.hid hne
  have HX0 := Lib.hid x0
  have HX1 := Lib.hid (u64_of_wf x1)
  clear hy hne x0 x1
  go_enter Try.func4, Try.ntmps4
  go_wp2_with fail
  refine (hF _).mono ?_; rintro e w' ⟨rfl, rfl⟩
  go_wp2_with fail
  clear hF c0 c1 g1 g2 g3 g4 g5
  go_loopg [9] n (fun gk s9 wr => ∃ i : Nat, i ≤ n ∧ gk = n - i ∧ s9 = .int .i64 i ∧ Hid (∀ p q, p < i → q < p → (l.getD p (0, 0)).1 ≠ (l.getD q (0, 0)).1) ∧ Below w.heap.size w wr)
  case atStart => exact ⟨0, Nat.zero_le _, rfl, rfl, Lib.hid (fun p q hp => by omega), Below.refl _ _⟩
  case round =>
    obtain ⟨i, hi, rfl, rfl, hd, hW⟩ := hrel
    obtain ⟨wo, rfl⟩ : ∃ wo, wo = wr := ⟨_, rfl⟩
    by_cases hin : i < n
    · have hii : (i : Int) < (n : Int) := by omega
      go_wp2_with fail
      go_loopg [10] i (fun gk s10 wx => ∃ k : Nat, k ≤ i ∧ gk = i - k ∧ s10 = .int .i64 k ∧ Hid (∀ q, q < k → (l.getD i (0, 0)).1 ≠ (l.getD q (0, 0)).1) ∧ Below w.heap.size w wx)
      case atStart => exact ⟨0, Nat.zero_le _, rfl, rfl, Lib.hid (fun q hq => by omega), hW⟩
      case round =>
        clear hW
        obtain ⟨k, hk, rfl, rfl, hd2, hW⟩ := hrel
        by_cases hki : k < i
        · obtain ⟨ad1, e1, _, d0, _, _, _⟩ := (hl.keep hW).at_ (k := i) hin
          obtain rfl : ad1 = ad := by injection e1 with e1; exact e1.symm
          obtain ⟨ad2, e2, _, f0, _, _, _⟩ := (hl.keep hW).at_ (k := k) (by omega)
          obtain rfl : ad2 = ad1 := by injection e2 with e2; exact e2.symm
          have hkk : (k : Int) < (i : Int) := by omega
          have hkn : (k : Int) < (n : Int) := by omega
          have hk0 : (0 : Int) ≤ (k : Int) := by omega
          have hi0 : (0 : Int) ≤ (i : Int) := by omega
          by_cases heq : (l.getD i (0, 0)).1 = (l.getD k (0, 0)).1
          · have g : ((l.getD i (0, 0)).1 == (l.getD k (0, 0)).1) = true := by rw [beq_iff_eq]; exact heq
            clear heq
            generalize (l.getD i (0, 0)).1 = p at d0 g
            generalize (l.getD k (0, 0)).1 = q at f0 g
            go_wp2_with fail
            go_quiet (fail)
            go_wp2_with fail
            refine (law25_awake _).mono ?_; rintro e w9 ⟨rfl, hx⟩
            go_wp2
            go_ret
            exact ⟨rfl, below_step (below_drewN hW _) hx⟩
          · have g : ((l.getD i (0, 0)).1 == (l.getD k (0, 0)).1) = false := by rw [beq_eq_false_iff_ne]; exact heq
            have hd3 := Lib.hid (show ∀ q, q < k + 1 → (l.getD i (0, 0)).1 ≠ (l.getD q (0, 0)).1 from fun q hq => by
              by_cases e : q = k
              · subst e; exact heq
              · exact hd2.out q (by omega))
            clear heq
            generalize (l.getD i (0, 0)).1 = p at d0 g
            generalize (l.getD k (0, 0)).1 = q at f0 g
            go_wp2_with fail
            go_quiet (fail)
            go_wp2
            go_roundg (i - (k + 1))
            case measure => omega
            case rel => exact ⟨k + 1, by omega, rfl, by go_num, hd3, below_drewN hW _⟩
        · obtain rfl : k = i := by omega
          have hd3 := Lib.hid (show ∀ p q, p < k + 1 → q < p → (l.getD p (0, 0)).1 ≠ (l.getD q (0, 0)).1 from fun p q hp hq => by
            by_cases e : p = k
            · subst e; exact hd2.out q hq
            · exact hd.out p q (by omega) hq)
          go_wp2
          go_roundg (n - (k + 1))
          case measure => omega
          case rel => exact ⟨k + 1, by omega, rfl, by go_num, hd3, hW⟩
    · obtain rfl : i = n := by omega
      have hT : Tab (wo.alloc (.cells #[.int .u32 0, .int .i32 0, .int .u32 0, .slice none 0 0] 44)) wo.heap.size 44 := .inl (Blk.new wo 44 _)
      have hl0 := (hl.keep hW).keep ((Below.refl _ _).alloc (Nat.le_refl _) (.cells #[.int .u32 0, .int .i32 0, .int .u32 0, .slice none 0 0] 44))
      have hW1 := hW.alloc hW.size (.cells #[.int .u32 0, .int .i32 0, .int .u32 0, .slice none 0 0] 44)
      have hwb := hW.size
      have hab : ¬ ad.block = wo.heap.size := by omega
      go_wp2_with fail
      generalize wo.alloc (.cells #[.int .u32 0, .int .i32 0, .int .u32 0, .slice none 0 0] 44) = u at *
      refine (straws_Pick wo.heap.size 44 key (some ad) i c l k0 k1 _ hl0 (fun _ ad' h => by cases h; exact hab) hT).mono ?_; rintro e w2 ⟨rfl, hT2, hm⟩
      have hl2 := hl0.mod hm (fun _ ad' h => by cases h; exact hab)
      have hW2 := below_thenMod hW1 (Nat.le_refl _) hm (fun j hj => by subst hj; exact hwb)
      clear hl0 hT hm hW1 hW
      obtain ⟨i0, hi0, hz0, hz1, hz2⟩ := info_parts Try.infoItem
      have hown0 := World.ownsRow_lit (base := w2.heap.size) (e := 25) (size := 2) w2 #[] 0 (Nat.le_refl _) (by decide) rfl
      have hlA := hl2.keep ((Below.refl _ _).alloc (Nat.le_refl _) (.cells #[] 25))
      have hBA : Below w2.heap.size w2 (w2.alloc (.cells #[] 25)) := (Below.refl _ _).alloc (Nat.le_refl _) _
      have hadw2 : ad.block < w2.heap.size := by have := hW2.size; omega
      have hbw2 : wo.heap.size < w2.heap.size := hT2.lt
      have hww2 : w.heap.size ≤ w2.heap.size := hW2.size
      have hszA : w2.heap.size ≤ (w2.alloc (.cells #[] 25)).heap.size := by simp
      have hmv := pick_moves (L := lenI key) (l := l) (m := l.set a (y.1, wt)) (n := i) (at_ := a) (wt := wt) (fun k => (len_bd key k).1) ha (fun k => by rw [set_getD _ _ _ (by rw [hl2.len]; exact ha), HY.out]) hd.out w0 (by have := HX1.out; have := HNE.out; rw [← HY.out]; omega)
      rw [← HY.out] at hmv
      have HMV := Lib.hid hmv
      clear hmv
      go_wp2_with (at_builtin; go_loud (refine wpList_append_any _ rfl (.tmp 67) (.tmp 68) _ rfl w2.heap.size 25 i0 _ 2 16 Try.underlying23 hi0 hz0 hz1 hz2 rfl (by omega) (.slice (some ⟨w2.heap.size, 0, none⟩) 0 0) 0 [] rfl hown0 _ (some ad) i c (flatP l) rfl hlA.reads2 (flatP_one l) (by simp only [maxLen]; omega) (by omega) hszA ?_; intro v3 w3 hown3 hg3 hat3; rw [Nat.zero_add, List.nil_append] at hown3; obtain ⟨g, cap, rfl, hgb, hglt⟩ := hown3.form (by omega); have hcap3 := own_cap hown3; have M3 := own_pairs hown3 hl2.len hcap3.1 hcap3.2 hglt hl2.wf hl2.reach; have f0 := hown3.frozenAt (a * 2); have f1 := hown3.frozenAt (a * 2 + 1); obtain ⟨ad9, e9, _, m0, m1, _, _⟩ := M3.at_ ha; have e9' := Option.some.inj e9; subst e9'; clear e9; rw [add_off0] at m0 m1; have B3 := hBA.grown hg3 hszA (fun k hk => by simp [Value.ownBlock] at hk; omega); obtain ⟨ad8, e8, _, s0, s1, _, _⟩ := (hl2.keep B3).at_ ha; have e8' := Option.some.inj e8; subst e8'; clear e8; rw [← HY.out] at s0 s1; clear hat3 hg3))
      have hgo : ¬ g = wo.heap.size := by omega
      have hag : ¬ ad.block = g := by omega
      have hcs : ∃ cs, Blk w3 g 25 cs := by
        rcases hown3.2 with ⟨h', _⟩ | ⟨g', cap', cur, h', _, hh, _⟩
        · simp at h'
        · simp at h'
          obtain ⟨rfl, _⟩ := h'
          exact ⟨cur, hh⟩
      obtain ⟨cs, hR⟩ := hcs
      have hT3 := (hT2.keep B3).farT hR (by decide) hgo (a * 2) (.int .u64 y.1)
      have hT4 := hT3.farT (hR.set_ (a * 2) (.int .u64 y.1)) (by decide) hgo (a * 2 + 1) (.int .u64 wt)
      have hMg : Mod (· = g) w3 ((w3.setCell ⟨g, a * 2, none⟩ (.int .u64 y.1)).setCell ⟨g, a * 2 + 1, none⟩ (.int .u64 wt)) := ((Mod.refl _ _).own _ _).own _ _
      have hl4 := (hl2.keep B3).mod hMg (fun _ ad' h => by cases h; exact hag)
      have hW4 := below_thenMod (below_step hW2 B3) (Nat.le_refl _) hMg (fun j hj => by subst hj; omega)
      have M4 := M3.turn (w' := (w3.setCell ⟨g, a * 2, none⟩ (.int .u64 y.1)).setCell ⟨g, a * 2 + 1, none⟩ (.int .u64 wt)) (k := a) (a := y.1) (b := wt) ha HX0.out (by simp [Lit.wf, IntKind.min, IntKind.max, IntKind.signed, IntKind.bits]; omega) hMg.size
        (by rw [World.cell?_setCell_other _ _ _ _ (by simp), World.cell?_setCell_same _ _ _ (by rw [m0])])
        (by rw [World.cell?_setCell_same _ _ _ (by rw [World.cell?_setCell_other _ _ _ _ (by simp), m1])])
        (fun j h0 h1 => by rw [World.cell?_setCell_other _ _ _ _ (by simp [h1]), World.cell?_setCell_other _ _ _ _ (by simp [h0])])
      clear hown3 hR hT3 M3 m0 m1 f0 f1 B3 hMg s0 s1 hown0 hlA hBA hl2 hT2 hW2
      generalize (w3.setCell ⟨g, a * 2, none⟩ (.int .u64 y.1)).setCell ⟨g, a * 2 + 1, none⟩ (.int .u64 wt) = w4 at *
      refine (straws_Pick wo.heap.size 44 key (some ⟨g, 0, none⟩) i cap (l.set a (y.1, wt)) k0 k1 _ M4 (fun _ ad' h => by cases h; exact hgo) hT4).mono ?_; rintro e w5 ⟨rfl, hT5, hm⟩
      have hl5 := hl4.mod hm (fun _ ad' h => by cases h; exact hab)
      have hW5 := below_thenMod hW4 (Nat.le_refl _) hm (fun j hj => by subst hj; exact hwb)
      obtain ⟨ad8, e8, _, s0, s1, _, _⟩ := hl5.at_ ha
      have e8' := Option.some.inj e8
      subst e8'
      rw [← HY.out] at s0 s1
      have hmv := HMV.out
      generalize pickTo (lenI key) l i = pa at *
      generalize pickTo (lenI key) (l.set a (y.1, wt)) i = pb at *
      obtain ⟨pa0, pb0, hc⟩ := hmv
      clear M4 hT4 hT5 hm hl4 hW4 hl5 HMV e8
      have q1 : decide (pa < 0) = false := decide_eq_false (by omega)
      have q2 : decide (pb < 0) = false := decide_eq_false (by omega)
      by_cases heq : pa = pb
      · have q3 : (pa == pb) = true := by rw [beq_iff_eq]; exact heq
        clear hc heq
        go_wp2_with fail
        refine (law25_awake _).mono ?_; rintro e w9 ⟨rfl, hx⟩
        go_wp2
        go_ret
        exact ⟨rfl, below_step hW5 hx⟩
      · have q3 : (pa == pb) = false := by rw [beq_eq_false_iff_ne]; exact heq
        have hc2 := hc.resolve_left heq
        clear hc heq
        by_cases hlt : y.2 < wt
        · have q4 : decide (y.2 < wt) = true := decide_eq_true hlt
          rw [if_pos hlt] at hc2
          have q5 : (pb == (a : Int)) = true := by rw [beq_iff_eq]; exact hc2
          clear hc2
          go_wp2_with fail
          refine (law25_awake _).mono ?_; rintro e w9 ⟨rfl, hx⟩
          go_wp2
          go_ret
          exact ⟨rfl, below_step hW5 hx⟩
        · have q4 : decide (y.2 < wt) = false := decide_eq_false hlt
          rw [if_neg hlt] at hc2
          have q5 : (pa == (a : Int)) = true := by rw [beq_iff_eq]; exact hc2
          clear hc2
          go_wp2_with fail
          refine (law25_awake _).mono ?_; rintro e w9 ⟨rfl, hx⟩
          go_wp2
          go_ret
          exact ⟨rfl, below_step hW5 hx⟩
theorem strawMoves_walk (w : World) (key : Int) (k0 : 0 ≤ key) (k1 : key < 18446744073709551616) (A : Option Addr) (n0 c : Nat) (l0 : List (Int × Int)) (hl0 : IsPairs w .u64 .u64 A n0 c l0) (at_ : Int) (a0 : -9223372036854775808 ≤ at_) (a1 : at_ ≤ 9223372036854775807) (wt : Int) (w0 : 0 ≤ wt) (w1 : wt < 18446744073709551616) :
    Calls Try.prog 4 #[.int .u64 key, .slice A n0 c, .int .i64 at_, .int .u64 wt] w fun e w' => e = .returned (.bool true) ∧ Below w.heap.size w w' := by
  have hl := hl0.take (k := min n0 30) (by omega)
  have hF := fun w => law25_few A n0 c hl0.cap hl0.small w
  generalize min n0 30 = n at hl hF
  generalize l0.take n = l at hl
  by_cases hok : 0 ≤ at_ ∧ at_ < n ∧ wt ≠ 0 ∧ (l.getD at_.toNat (0, 0)).2 ≠ 0
  · obtain ⟨h1, h2, h3, h4⟩ := hok
    obtain ⟨a, rfl⟩ := Int.eq_ofNat_of_zero_le h1
    exact strawMoves_good w key k0 k1 A n0 n c l hl a wt (by omega) (by omega) w1 hF h4
  · exact strawMoves_bad w key A n0 n c l hl at_ wt a0 a1 w0 hF hok
end Go.Proofs.Ytpedhlmcgilliaa
