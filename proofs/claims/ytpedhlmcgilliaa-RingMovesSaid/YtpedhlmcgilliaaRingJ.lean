/- RingMoves. -/
import Derived.Test.YtpedhlmcgilliaaRingI
set_option linter.unusedVariables false
namespace Go.Proofs.Ytpedhlmcgilliaa
open Go.RowKit
set_option maxHeartbeats 8000000
set_option maxRecDepth 100000
theorem ring_NewWeak (w : World) (seed : Int) (s0 : 0 ≤ seed) (s1 : seed < 18446744073709551616) (size : Int) (hs : size ≤ 9223372036854775807) (A : Option Addr) (n c : Nat) (l : List (Int × Int)) (hl : IsPairs w .u64 .i64 A n c l) (hn : n ≤ 512) :
    Calls Try.prog 23 #[.int .u64 seed, .int .i64 size, .slice A n c] w fun e w' => (∃ v z, e = .returned (.tuple #[v, .int .i64 z])) ∧ Below w.heap.size w w' := by
  cases h : rightB size l with
  | false => exact (ring_NewBad w seed size hs A n c l hl hn h).mono fun e w' ⟨h1, h2⟩ => ⟨⟨_, _, h1⟩, h2⟩
  | true =>
    obtain ⟨p, rfl, hP⟩ := right_parts h
    exact (ring_NewGood w seed s0 s1 p A n c l hl hn hP).mono fun e w' ⟨⟨gq, gl, h1, _⟩, h2⟩ => ⟨⟨_, _, h1⟩, h2⟩
theorem unlike_law {x y : List (Int × Int)} {a b : Int} (ha : a = -1 ∨ (0 ≤ a ∧ a < x.length)) (hb : b = -1 ∨ (0 ≤ b ∧ b < y.length)) :
    unlikeN x y a b = (if a < 0 then !decide (b < 0) else if b < 0 then true else (itm x a.toNat).1 != (itm y b.toNat).1) := by
  unfold unlikeN idA idB
  rcases ha with rfl | ha
  · have na : ¬ (0 ≤ (-1 : Int) ∧ (-1 : Int) < x.length) := by omega
    rcases hb with rfl | hb
    · have nb : ¬ (0 ≤ (-1 : Int) ∧ (-1 : Int) < y.length) := by omega
      simp only [if_neg na, if_neg nb]
      rfl
    · have n2 : decide (b < 0) = false := decide_eq_false (by omega)
      simp only [if_neg na, if_pos hb, n2]
      rfl
  · have n1 : ¬ a < 0 := by omega
    rcases hb with rfl | hb
    · have nb : ¬ (0 ≤ (-1 : Int) ∧ (-1 : Int) < y.length) := by omega
      simp only [if_pos ha, if_neg nb, if_neg n1]
      rfl
    · have n2 : ¬ b < 0 := by omega
      simp only [if_pos ha, if_pos hb, if_neg n1, if_neg n2]
      simp [bne]
theorem ringMoves_walk (w : World) (seed : Int) (s0 : 0 ≤ seed) (s1 : seed < 18446744073709551616) (size : Int) (z0 : -9223372036854775808 ≤ size) (z1 : size ≤ 9223372036854775807)
    (A : Option Addr) (n0 c : Nat) (x0 : List (Int × Int)) (hx0 : IsPairs w .u64 .i64 A n0 c x0) (A' : Option Addr) (m0 c' : Nat) (y0 : List (Int × Int)) (hy0 : IsPairs w .u64 .i64 A' m0 c' y0) (other : Int) (o0 : -9223372036854775808 ≤ other) (o1 : other ≤ 9223372036854775807) :
    Calls Try.prog 8 #[.int .u64 seed, .int .i64 size, .slice A n0 c, .slice A' m0 c', .int .i64 other] w fun e w' => e = .returned (.bool true) ∧ Below w.heap.size w w' := by
  have hFx := fun w => law_few A n0 c hx0.cap hx0.small w
  have hFy := fun w => law_few A' m0 c' hy0.cap hy0.small w
  have hx := hx0.take (k := min n0 20) (by omega)
  have hy := hy0.take (k := min m0 20) (by omega)
  have hn20 : min n0 20 ≤ 20 := by omega
  have hm20 : min m0 20 ≤ 20 := by omega
  generalize min n0 20 = n at *
  generalize x0.take n = x at *
  generalize min m0 20 = m at *
  generalize y0.take m = y at *
  clear hx0 hy0
  have hlx := Lib.hid hx.len
  have hly := Lib.hid hy.len
  have hcap := hx.cap
  have hsm := hx.small
  have hcap' := hy.cap
  have hsm' := hy.small
  by_cases hbig : 600 < size
  · go_enter Try.func8, Try.ntmps8
    go_wp2_with fail
    refine (hFx _).mono ?_; rintro e w' ⟨rfl, rfl⟩
    go_wp2_with fail
    refine (hFy _).mono ?_; rintro e w' ⟨rfl, rfl⟩
    go_wp2_with fail
    refine (law_awake39 _).mono ?_; rintro e w9 ⟨rfl, hx9⟩
    go_wp2
    go_ret
    exact ⟨rfl, hx9⟩
  · by_cases hbig2 : 600 < other
    · go_enter Try.func8, Try.ntmps8
      go_wp2_with fail
      refine (hFx _).mono ?_; rintro e w' ⟨rfl, rfl⟩
      go_wp2_with fail
      refine (hFy _).mono ?_; rintro e w' ⟨rfl, rfl⟩
      go_wp2_with fail
      refine (law_awake39 _).mono ?_; rintro e w9 ⟨rfl, hx9⟩
      go_wp2
      go_ret
      exact ⟨rfl, hx9⟩
    · cases hrx : rightB size x with
      | false =>
        have hN := ring_NewBad w seed size z1 A n c x hx (by omega) hrx
        have hN2 := fun w (h : IsPairs w .u64 .i64 A' m c' y) => ring_NewWeak w seed s0 s1 size z1 A' m c' y h (by omega)
        clear hrx
        go_enter Try.func8, Try.ntmps8
        go_wp2_with fail
        refine (hFx _).mono ?_; rintro e w' ⟨rfl, rfl⟩
        go_wp2_with fail
        refine (hFy _).mono ?_; rintro e w' ⟨rfl, rfl⟩
        go_wp2_with fail
        refine hN.mono ?_; rintro e w1 ⟨he, hx1⟩
        obtain rfl := he
        have hy1 := hy.keep hx1
        go_wp2_with fail
        refine (hN2 _ hy1).mono ?_; rintro e w2 ⟨⟨v, z, rfl⟩, hx2⟩
        have hW2 := below_step hx1 hx2
        go_wp2_with fail
        refine (law_awake39 _).mono ?_; rintro e w9 ⟨rfl, hx9⟩
        go_wp2
        go_ret
        exact ⟨rfl, below_step hW2 hx9⟩
      | true =>
        obtain ⟨p, rfl, hP⟩ := right_parts hrx
        have hp0 := hP.p0
        have hp1 := hP.p1
        have HPx := Lib.hid hP
        have hN := ring_NewGood w seed s0 s1 p A n c x hx (by omega) hP
        clear hrx hP
        cases hry : rightB (p : Int) y with
        | false =>
          have hN2 := fun w (h : IsPairs w .u64 .i64 A' m c' y) => ring_NewBad w seed p z1 A' m c' y h (by omega) hry
          clear hry
          go_enter Try.func8, Try.ntmps8
          go_wp2_with fail
          refine (hFx _).mono ?_; rintro e w' ⟨rfl, rfl⟩
          go_wp2_with fail
          refine (hFy _).mono ?_; rintro e w' ⟨rfl, rfl⟩
          go_wp2_with fail
          refine hN.mono ?_; rintro e w1 ⟨⟨gq, gl, rfl, _, _⟩, hx1⟩
          have hy1 := hy.keep hx1
          go_wp2_with fail
          refine (hN2 _ hy1).mono ?_; rintro e w2 ⟨he, hx2⟩
          obtain rfl := he
          have hW2 := below_step hx1 hx2
          go_wp2_with fail
          refine (law_awake39 _).mono ?_; rintro e w9 ⟨rfl, hx9⟩
          go_wp2
          go_ret
          exact ⟨rfl, below_step hW2 hx9⟩
        | true =>
          obtain ⟨p', hpp, hP'⟩ := right_parts hry
          obtain rfl : p = p' := by omega
          have HPy := Lib.hid hP'
          have hN2 := fun w (h : IsPairs w .u64 .i64 A' m c' y) => ring_NewGood w seed s0 s1 p A' m c' y h (by omega) HPy.out
          clear hry hP' hpp
          have hPX := fun w (h : IsPairs w .u64 .i64 A n c x) => law_places w seed s0 s1 p A n c x h (by omega) HPx.out
          have hPY := fun w (h : IsPairs w .u64 .i64 A' m c' y) => law_places w seed s0 s1 p A' m c' y h (by omega) HPy.out
          have HUL := Lib.hid (fun j (hj : j < p) => unlike_law (x := x) (y := y) (ringOut_or (seed := seed) HPx.out j hj) (ringOut_or (seed := seed) HPy.out j hj))
          have HOX := Lib.hid (fun j (hj : j < p) => ringOut_or (seed := seed) HPx.out j hj)
          have HOY := Lib.hid (fun j (hj : j < p) => ringOut_or (seed := seed) HPy.out j hj)
          rw [hlx.out] at HOX
          rw [hly.out] at HOY
          -- the third ring
          have hN3 : ∀ w, IsPairs w .u64 .i64 A n c x → Calls Try.prog 23 #[.int .u64 seed, .int .i64 other, .slice A n c] w fun e w' => (newBad e ∨ ∃ (r : Nat) (gq gl : Nat), other = r ∧ r ≤ 65537 ∧ e = .returned (.tuple #[.pointer (some ⟨gq, 0, none⟩), .int .i64 0]) ∧ RG w' gq gl r (ringOut seed r x)) ∧ Below w.heap.size w w' := fun w h => by
            cases hr3 : rightB other x with
            | false => exact (ring_NewBad w seed other o1 A n c x h (by omega) hr3).mono fun e w' ⟨h1, h2⟩ => ⟨.inl h1, h2⟩
            | true =>
              obtain ⟨r, rfl, hP3⟩ := right_parts hr3
              exact (ring_NewGood w seed s0 s1 r A n c x h (by omega) hP3).mono fun e w' ⟨⟨gq, gl, h1, hB, hR⟩, h2⟩ => ⟨.inr ⟨r, gq, gl, rfl, hP3.p1, h1, hB, hR⟩, h2⟩
          go_enter Try.func8, Try.ntmps8
          go_wp2_with fail
          refine (hFx _).mono ?_; rintro e w' ⟨rfl, rfl⟩
          go_wp2_with fail
          refine (hFy _).mono ?_; rintro e w' ⟨rfl, rfl⟩
          clear hFx hFy
          go_wp2_with fail
          refine hN.mono ?_; rintro e w1 ⟨⟨ga, la, rfl, hBa, hRa⟩, hx1⟩
          have hra : RG w1 ga la p (ringOut seed p x) := ⟨hBa, hRa⟩
          have hxx1 := hx.keep hx1
          have hyy1 := hy.keep hx1
          clear hN hBa hRa hx hy
          go_wp2_with fail
          refine (hN2 _ hyy1).mono ?_; rintro e w2 ⟨⟨gb, lb, rfl, hBb, hRb⟩, hx2⟩
          have hrb : RG w2 gb lb p (ringOut seed p y) := ⟨hBb, hRb⟩
          have hra2 := hra.keep hx2
          have hxx2 := hxx1.keep hx2
          have hyy2 := hyy1.keep hx2
          have hW2 := below_step hx1 hx2
          clear hN2 hBb hRb hra hxx1 hyy1 hx1 hx2
          go_wp2_with fail
          refine (hPX _ hxx2).mono ?_; rintro e w3 ⟨gp, rfl, hPR, hx3⟩
          have hra3 := hra2.keep hx3
          have hrb3 := hrb.keep hx3
          have hxx3 := hxx2.keep hx3
          have hyy3 := hyy2.keep hx3
          have hW3 := below_step hW2 hx3
          clear hra2 hrb hxx2 hyy2 hW2 hx3 hPX
          go_wp2_with fail
          refine (hPY _ hyy3).mono ?_; rintro e w4 ⟨gy, rfl, hQR, hx4⟩
          have hra4 := hra3.keep hx4
          have hrb4 := hrb3.keep hx4
          have hxx4 := hxx3.keep hx4
          have hyy4 := hyy3.keep hx4
          have hPR4 := row_keep hPR hx4
          have hW4 := below_step hW3 hx4
          clear hra3 hrb3 hxx3 hyy3 hW3 hx4 hPY hPR
          have hSP := fun r => movedTo_same x (ringOut seed r x)
          obtain ⟨oa, hoa⟩ : ∃ oa, oa = ringOut seed p x := ⟨_, rfl⟩
          obtain ⟨ob, hob⟩ : ∃ ob, ob = ringOut seed p y := ⟨_, rfl⟩
          rw [← hoa] at hra4 hPR4 HUL HOX
          rw [← hob] at hrb4 hQR HUL HOY
          have HOA := Lib.hid hoa
          clear hoa hob
          go_wp2_with fail
          go_loopg [17, 18] p (fun gk s17 s18 wr => ∃ k : Nat, k ≤ p ∧ gk = p - k ∧ s18 = .int .i64 k ∧ s17 = .int .i64 (movedTo x y oa ob k : Nat) ∧ Below w4.heap.size w4 wr)
          case atStart => exact ⟨0, Nat.zero_le _, rfl, rfl, rfl, Below.refl _ _⟩
          case round =>
            obtain ⟨k, hk, rfl, rfl, rfl, hV⟩ := hrel
            have hle := movedTo_le x y oa ob k
            by_cases hkp : k < p
            · have hki : (k : Int) < (p : Int) := by omega
              have cp := (row_keep hPR4 hV).cell hkp
              have cq := (row_keep hQR hV).cell hkp
              have HST := Lib.hid (movedTo_step x y oa ob k)
              have HULk := Lib.hid (HUL.out k hkp)
              have hox := HOX.out k hkp
              have hoy := HOY.out k hkp
              obtain ⟨a, ha⟩ : ∃ a, a = oa k := ⟨_, rfl⟩
              obtain ⟨b, hb⟩ : ∃ b, b = ob k := ⟨_, rfl⟩
              rw [← ha] at cp HST HULk hox
              rw [← hb] at cq HST HULk hoy
              clear ha hb
              obtain ⟨B, hB⟩ : ∃ B, B = unlikeN x y a b := ⟨_, rfl⟩
              rw [← hB] at HST HULk
              clear hB
              have U0 := cell_under cp
              have U1 := cell_under cq
              clear cp cq
              have hxV := (hxx4.keep hV)
              have hyV := (hyy4.keep hV)
              obtain ⟨mt, hmt⟩ : ∃ mt, mt = movedTo x y oa ob k := ⟨_, rfl⟩
              rw [← hmt] at hle HST ⊢
              clear hmt
              go_upto_region 14 with (fail)
              go_cut [109] (fun s wx => s = .bool B ∧ Below w4.heap.size w4 wx)
              case first =>
                by_cases h1 : a < 0
                · have g1 : decide (a < 0) = true := decide_eq_true h1
                  have g3 : decide (0 ≤ a) = false := decide_eq_false (by omega)
                  rw [if_pos h1] at HULk
                  by_cases h2 : b < 0
                  · have g2 : decide (b < 0) = true := decide_eq_true h2
                    have HE := Lib.hid (show B = false by rw [HULk.out, g2]; rfl)
                    clear h1 h2 hox hoy
                    refine wp_region_quiet_under (by kernel_rfl) (by kernel_rfl) ?_
                    repeat (go_big_quiet_step ((fail)))
                    refine wpQuiet_nil ?_
                    intro wu hw'
                    obtain ⟨pq, hw''⟩ := hw'
                    have hU := below_eq hw''
                    clear hw'' pq
                    have hVu := below_step hV hU
                    go_wp2_with fail
                    go_meet
                    exact ⟨by rw [HE.out], hVu⟩
                  · have g2 : decide (b < 0) = false := decide_eq_false h2
                    have HE := Lib.hid (show B = true by rw [HULk.out, g2]; rfl)
                    clear h1 h2 hox hoy
                    refine wp_region_quiet_under (by kernel_rfl) (by kernel_rfl) ?_
                    repeat (go_big_quiet_step ((fail)))
                    refine wpQuiet_nil ?_
                    intro wu hw'
                    obtain ⟨pq, hw''⟩ := hw'
                    have hU := below_eq hw''
                    clear hw'' pq
                    have hVu := below_step hV hU
                    go_wp2_with fail
                    go_meet
                    exact ⟨by rw [HE.out], hVu⟩
                · have g1 : decide (a < 0) = false := decide_eq_false h1
                  have g3 : decide (0 ≤ a) = true := decide_eq_true (by omega)
                  rw [if_neg h1] at HULk
                  by_cases h2 : b < 0
                  · have g2 : decide (b < 0) = true := decide_eq_true h2
                    rw [if_pos h2] at HULk
                    clear h1 h2 hox hoy
                    refine wp_region_quiet_under (by kernel_rfl) (by kernel_rfl) ?_
                    repeat (go_big_quiet_step ((fail)))
                    refine wpQuiet_nil ?_
                    intro wu hw'
                    obtain ⟨pq, hw''⟩ := hw'
                    have hU := below_eq hw''
                    clear hw'' pq
                    have hVu := below_step hV hU
                    go_wp2_with fail
                    go_meet
                    exact ⟨by rw [HULk.out], hVu⟩
                  · have g2 : decide (b < 0) = false := decide_eq_false h2
                    have g4 : decide (0 ≤ b) = true := decide_eq_true (by omega)
                    rw [if_neg h2] at HULk
                    obtain ⟨i, rfl⟩ : ∃ i : Nat, a = i := ⟨a.toNat, by omega⟩
                    obtain ⟨j, rfl⟩ : ∃ j : Nat, b = j := ⟨b.toNat, by omega⟩
                    have hin : i < n := by omega
                    have hjm : j < m := by omega
                    have hii : (i : Int) < (n : Int) := by omega
                    have hji : (j : Int) < (m : Int) := by omega
                    rw [Int.toNat_natCast, Int.toNat_natCast] at HULk
                    obtain ⟨ax, rfl, _, x1, _⟩ := hxV.at_ hin
                    obtain ⟨ay, rfl, _, y1, _⟩ := hyV.at_ hjm
                    obtain ⟨u, hu⟩ : ∃ u, u = (itm x i).1 := ⟨_, rfl⟩
                    obtain ⟨v, hv⟩ : ∃ v, v = (itm y j).1 := ⟨_, rfl⟩
                    rw [show (x.getD i (0, 0)).1 = u from hu.symm] at x1
                    rw [show (y.getD j (0, 0)).1 = v from hv.symm] at y1
                    rw [← hu, ← hv] at HULk
                    clear hu hv h1 h2 hox hoy
                    have U2 := cell_under x1
                    have U3 := cell_under y1
                    clear x1 y1
                    refine wp_region_quiet_under (by kernel_rfl) (by kernel_rfl) ?_
                    repeat (go_big_quiet_step ((fail)))
                    refine wpQuiet_nil ?_
                    intro wu hw'
                    obtain ⟨pq, hw''⟩ := hw'
                    have hU := below_eq hw''
                    clear hw'' pq
                    have hVu := below_step hV hU
                    go_wp2_with fail
                    go_meet
                    exact ⟨by rw [HULk.out], hVu⟩
              case rest =>
                obtain ⟨rfl, hV2⟩ := hcut
                clear U0 U1 hV hxV hyV HULk hox hoy
                go_upto_if 109 with (fail)
                cases B with
                | true =>
                  have HE := Lib.hid (show movedTo x y oa ob (k + 1) = mt + 1 by rw [HST.out]; rfl)
                  go_wp2
                  go_roundg (p - (k + 1))
                  case measure => omega
                  case rel => exact ⟨k + 1, by omega, rfl, by go_num, by rw [HE.out]; go_num, hV2⟩
                | false =>
                  have HE := Lib.hid (show movedTo x y oa ob (k + 1) = mt by rw [HST.out]; rfl)
                  go_wp2
                  go_roundg (p - (k + 1))
                  case measure => omega
                  case rel => exact ⟨k + 1, by omega, rfl, by go_num, by rw [HE.out], hV2⟩
            · obtain rfl : k = p := by omega
              have hra5 := hra4.keep hV
              have hrb5 := hrb4.keep hV
              have hxx5 := hxx4.keep hV
              have hyy5 := hyy4.keep hV
              have hW5 := below_step hW4 hV
              clear hra4 hrb4 hxx4 hyy4 hPR4 hQR hW4 hV HUL HOX HOY
              have hMab := fun (w : World) h1 h2 h3 h4 => ring_Moved (w := w) (ga := ga) (la := la) (gb := gb) (lb := lb) (oa := oa) (ob := ob) h1 h2 hp1 A n c x h3 A' m c' y h4
              have hMaa := fun (w : World) h1 h2 h3 h4 => ring_Moved (w := w) (ga := ga) (la := la) (gb := ga) (lb := la) (oa := oa) (ob := oa) h1 h2 hp1 A n c x h3 A n c x h4
              rw [movedTo_same] at hMaa
              obtain ⟨mt, hmt⟩ : ∃ mt, mt = movedTo x y oa ob k := ⟨_, rfl⟩
              rw [← hmt] at hMab hle ⊢
              clear hmt
              have hmm : ((mt : Int) == (mt : Int)) = true := by simp
              go_wp2_with fail
              refine (hN3 _ hxx5).mono ?_; rintro e w6 ⟨h3, hx6⟩
              have hra6 := hra5.keep hx6
              have hrb6 := hrb5.keep hx6
              have hxx6 := hxx5.keep hx6
              have hyy6 := hyy5.keep hx6
              have hW6 := below_step hW5 hx6
              clear hra5 hrb5 hxx5 hyy5 hW5 hx6 hN3
              rcases h3 with h3 | ⟨r, gc, lc, rfl, hr1, rfl, hrc⟩
              · obtain rfl := h3
                go_wp2_with fail
                refine (hMab _ hra6 hrb6 hxx6 hyy6).mono ?_; rintro e w7 ⟨rfl, hx7⟩
                go_wp2_with fail
                refine (hMaa _ (hra6.keep hx7) (hra6.keep hx7) (hxx6.keep hx7) (hxx6.keep hx7)).mono ?_; rintro e w8 ⟨rfl, hx8⟩
                have hW8 := below_step (below_step hW6 hx7) hx8
                go_wp2_with fail
                refine (law_awake39 _).mono ?_; rintro e w9 ⟨rfl, hx9⟩
                go_wp2
                go_ret
                exact ⟨by simp, below_step hW8 hx9⟩
              · by_cases hrp : k = r
                · subst hrp
                  have hMac := ring_Moved hra6 hrc hp1 A n c x hxx6 A n c x hxx6
                  rw [HOA.out, hSP] at hMac
                  have g1 : ((k : Int) != (k : Int)) = false := by simp
                  go_wp2_with fail
                  refine hMac.mono ?_; rintro e wx ⟨rfl, hxx⟩
                  have hra7 := hra6.keep hxx
                  have hrb7 := hrb6.keep hxx
                  have hxx7 := hxx6.keep hxx
                  have hyy7 := hyy6.keep hxx
                  have hW7 := below_step hW6 hxx
                  clear hra6 hrb6 hxx6 hyy6 hW6 hxx hMac
                  go_wp2_with fail
                  refine (hMab _ hra7 hrb7 hxx7 hyy7).mono ?_; rintro e w7 ⟨rfl, hx7⟩
                  go_wp2_with fail
                  refine (hMaa _ (hra7.keep hx7) (hra7.keep hx7) (hxx7.keep hx7) (hxx7.keep hx7)).mono ?_; rintro e w8 ⟨rfl, hx8⟩
                  have hW8 := below_step (below_step hW7 hx7) hx8
                  go_wp2_with fail
                  refine (law_awake39 _).mono ?_; rintro e w9 ⟨rfl, hx9⟩
                  go_wp2
                  go_ret
                  exact ⟨by simp, below_step hW8 hx9⟩
                · have hMac := ring_MovedSizes hra6 hrc hrp (.slice A n c) (.slice A n c)
                  have g1 : ((r : Int) != (k : Int)) = true := by simp; omega
                  clear hrp
                  go_wp2_with fail
                  refine hMac.mono ?_; rintro e w' ⟨rfl, rfl⟩
                  clear hMac
                  go_wp2_with fail
                  refine (hMab _ hra6 hrb6 hxx6 hyy6).mono ?_; rintro e w7 ⟨rfl, hx7⟩
                  go_wp2_with fail
                  refine (hMaa _ (hra6.keep hx7) (hra6.keep hx7) (hxx6.keep hx7) (hxx6.keep hx7)).mono ?_; rintro e w8 ⟨rfl, hx8⟩
                  have hW8 := below_step (below_step hW6 hx7) hx8
                  go_wp2_with fail
                  refine (law_awake39 _).mono ?_; rintro e w9 ⟨rfl, hx9⟩
                  go_wp2
                  go_ret
                  exact ⟨by simp, below_step hW8 hx9⟩
end Go.Proofs.Ytpedhlmcgilliaa
