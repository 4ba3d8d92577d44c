/- Lemmas for the claim's proof: WalkP1. -/
import Derived.Test.YtblbgafadadbmaaGreatQ11
import Derived.Test.YtblbgafadadbmaaGreatQ14
import Derived.Test.YtblbgafadadbmaaGreatQ20
section
/- WalkHosts. -/
set_option linter.unusedVariables false
namespace Go.Proofs.YtblbgafadadbmaaGreat
open Go.RowKit
set_option maxHeartbeats 8000000
set_option maxRecDepth 100000
theorem walker_made (w : World) (f seed : Int) : WW w (w.alloc (.cells #[.int .u32 0, .int .i32 0, .int .u32 0, .slice none 0 0, .int .i64 f, .int .u64 seed] 51)) w.heap.size (kw f seed) :=
  ⟨.inl (Blk.new w _ _), Nat.le_refl _, (Below.refl _ _).alloc (Nat.le_refl _) _⟩
theorem picks_in {l : List Nd} {hosts : List Int} (h : (picks l hosts).length ≠ 0) : ∃ j, j < l.length ∧ pk l hosts j = true := by
  cases hp : picks l hosts with
  | nil => rw [hp] at h; exact absurd rfl h
  | cons z zs =>
    have hz : z ∈ picks l hosts := by rw [hp]; exact List.mem_cons_self ..
    unfold picks at hz
    obtain ⟨h1, h2⟩ := List.mem_filter.1 hz
    obtain ⟨j, rfl, hj, _⟩ := mem_idx.1 h1
    rw [Int.toNat_natCast] at h2
    exact ⟨j, hj, h2⟩
theorem walkHosts_walk (w : World) (A : Option Addr) (n0 c : Nat) (l0 : List Nd) (hl0 : IsNodes w A n0 c l0) (Ah : Option Addr) (m0 ch : Nat) (h0 : List Int) (hh0 : IsList w .i64 Ah m0 ch h0)
    (frm : Int) (i0 : -9223372036854775808 ≤ frm) (i1 : frm ≤ 9223372036854775807) (key : Int) (k0 : 0 ≤ key) (k1 : key < 18446744073709551616) (seed : Int) (s0 : 0 ≤ seed) (s1 : seed < 18446744073709551616) (f : Int) (f0 : -9223372036854775808 ≤ f) (f1 : f ≤ 9223372036854775807) :
    Calls Tryz.prog 3 #[.slice A n0 c, .slice Ah m0 ch, .int .i64 frm, .int .u64 key, .int .u64 seed, .int .i64 f] w fun e w' => e = .returned (.bool true) ∧ Below w.heap.size w w' := by
  have hmd := law_Made w A n0 c l0 hl0
  have ht0 := Lib.hid (made_tall (l0.take 60))
  have hl60 : (made (l0.take 60)).length ≤ 60 := Nat.le_trans (made_len _) (by rw [List.length_take]; omega)
  generalize made (l0.take 60) = l at *
  have hFw := fun w => law23_Few Ah m0 ch hh0.cap hh0.small w
  have hH := hh0.cut (k := min m0 30) (by omega)
  generalize min m0 30 = m at *
  generalize h0.take m = hosts at *
  clear hl0 hh0
  go_enter Tryz.func3, Tryz.ntmps3
  go_wp2_with fail
  refine hmd.mono ?_; rintro e w1 ⟨b, A1, c1, rfl, hT, hN, hx1⟩
  clear hmd
  have ht := ht0.out
  go_wp2_with fail
  refine (hFw _).mono ?_; rintro e w' ⟨rfl, rfl⟩
  clear hFw
  have hH1 := hH.keep hx1
  go_wp2_with fail
  refine (elig_New hT ht Ah m ch hosts hH1).mono ?_; rintro e w2 ⟨g, gw, gs, vH, rfl, hS, hx2⟩
  have hN2 := hN.keep hx2
  have hH2 := hH1.keep hx2
  have hT2 := hT.keep hx2
  have hW2 := below_step hx1 hx2
  clear hT hN hH1 hH hx1 hx2
  go_wp2_with fail
  refine (law23_Weights hN2 hH2 ht (by omega)).mono ?_; rintro e w3 ⟨gr, rfl, hR3, hx3⟩
  have hS3 := hS.keep hx3
  have hN3 := hN2.keep hx3
  have hT3 := hT2.keep hx3
  have hW3 := below_step hW2 hx3
  clear hS hN2 hH2 hT2 hx3 hW2
  have hw4 := walker_made w3 f seed
  have hHO := fun v (h : WW w3 v w3.heap.size (kw f seed)) => walk_Host hT3 ht hS3 h s0 s1 frm key k0 k1
  have hLH := fun v (h : Below w3.heap.size w3 v) => law26_Host (hN3.keep h) ht (row_keep hR3 h) (by omega) frm i0 i1 key k0 k1 seed s0 s1 f
  have hLV := fun v (h : WW w3 v w3.heap.size (kw f seed)) => walk_Level (hT3.keep h.bel) ht (hS3.keep h.bel) h.tab.ends.1 h.tab.ends.2 s0 s1 frm key k0 k1
  have hpl := fun v (h : Below w3.heap.size w3 v) => set_List (hS3.keep h) (picks_wf l hosts (by omega)) (by have := picks_le l hosts; omega)
  have HIS := Lib.hid (host_is ht hosts (by omega) frm f seed key)
  have HFO := Lib.hid (fun (a : 100 ≤ f) (b : f ≤ 1000) (j : Nat) (c : j < l.length) (d : pk l hosts j = true) => host_found ht hosts (by omega) frm seed key a b c d)
  obtain ⟨v, hv⟩ : ∃ v, v = hostI l (wt l hosts) (hs l hosts) frm f seed key := ⟨_, rfl⟩
  rw [← hv] at hHO hLH HIS HFO
  clear hv
  go_wp2_with fail
  generalize hbw : w3.heap.size = bw at *
  generalize w3.alloc (.cells #[.int .u32 0, .int .i32 0, .int .u32 0, .slice none 0 0, .int .i64 f, .int .u64 seed] 51) = w4 at *
  refine (hHO _ hw4).mono ?_; rintro e w5 ⟨rfl, hw5, _⟩
  clear hHO hw4
  have hb5 := hw5.bel
  rw [hbw] at hb5
  go_wp2_with fail
  refine (hLH _ hb5).mono ?_; rintro e w6 ⟨rfl, hx6⟩
  have hw6 := hw5.keep hx6
  have hb6 := hw6.bel
  rw [hbw] at hb6
  clear hLH hw5 hx6 hb5
  by_cases hneg : v < 0
  · have g1 : decide (v < 0) = true := decide_eq_true hneg
    have hpl6 := hpl _ hb6
    have HP := Lib.hid (fun (h : (picks l hosts).length ≠ 0) => picks_in h)
    obtain ⟨n, hn⟩ : ∃ n, n = (picks l hosts).length := ⟨_, rfl⟩
    rw [← hn] at hpl6 HP
    clear hpl hLV HIS hn
    go_wp2_with fail
    refine hpl6.mono ?_; rintro e w7 ⟨AP, cP, rfl, hP, hx7⟩
    have hw7 := hw6.keep hx7
    have hb7 := hw7.bel
    rw [hbw] at hb7
    have hW7 := below_step hW3 (by rw [hbw]; exact hb7)
    clear hpl6 hw6 hx7 hw7 hb7 hb6
    by_cases hn0 : n = 0
    · have g2 : ((n : Int) == 0) = true := by rw [beq_iff_eq]; omega
      clear hP
      go_wp2_with fail
      refine (law26_awake _).mono ?_; rintro e w8 ⟨rfl, hx8⟩
      go_wp2
      go_ret
      exact ⟨rfl, below_step hW7 hx8⟩
    · have g2 : ((n : Int) == 0) = false := by rw [beq_eq_false_iff_ne]; omega
      obtain ⟨j, hj, hp⟩ := HP.out hn0
      by_cases hf1 : f < 100
      · have g3 : decide (f < 100) = true := decide_eq_true hf1
        clear hP
        go_wp2_with fail
        refine (law26_awake _).mono ?_; rintro e w8 ⟨rfl, hx8⟩
        go_wp2
        go_ret
        exact ⟨rfl, below_step hW7 hx8⟩
      · have g3 : decide (f < 100) = false := decide_eq_false hf1
        have hf2 : 1000 < f := by
          rcases Int.lt_or_le 1000 f with h | h
          · exact h
          · have := HFO.out (by omega) h j hj hp
            omega
        have g4 : decide (1000 < f) = true := decide_eq_true hf2
        clear hP hj hp
        go_wp2_with fail
        refine (law26_awake _).mono ?_; rintro e w8 ⟨rfl, hx8⟩
        go_wp2
        go_ret
        exact ⟨rfl, below_step hW7 hx8⟩
  · have g1 : decide (v < 0) = false := decide_eq_false hneg
    obtain ⟨h, t, rfl, hh, hp, hlv, htl, hle⟩ := HIS.out (by omega)
    have hLV6 := hLV _ hw6
    rw [hlv] at hLV6
    have h4 := (pk_host hp).1
    have hwp : 0 < wt l hosts h := (wt_iff ht hosts (by omega) hh).2 (by rw [hs_host ht hosts hh h4]; exact hp)
    have hTL := fun w (h' : TR w b l) => tr_Level' h' (tall_rises ht) (h : Int)
    have e9 : idxI (up l 1 (h : Int)) (idx (isK 1) l) = t := hle
    rw [e9] at hTL
    have hLS := fun w (h' : IsNodes w A1 l.length c1 l) => law26_levels h' (by omega)
    obtain ⟨q, hq⟩ : ∃ q, q = lvN l := ⟨_, rfl⟩
    rw [← hq] at hLS htl
    have hti : (t : Int) < (q : Int) := by omega
    have hhi : (h : Int) < (l.length : Int) := by omega
    clear hpl hLV HIS HFO hlv hle e9 hq
    go_wp2_with fail
    refine hLV6.mono ?_; rintro e w7 ⟨rfl, hx7⟩
    have hw7 := hw6.keep hx7
    have hb7 := hw7.bel
    rw [hbw] at hb7
    clear hLV6 hw6 hx7 hb6
    go_wp2_with fail
    refine (hLS _ (hN3.keep (by rw [hbw]; exact hb7))).mono ?_; rintro e w8 ⟨AK, cK, rfl, _, _, hx8⟩
    have hw8 := hw7.keep hx8
    have hb8 : Below w3.heap.size w3 w8 := hw8.bel
    clear hLS hw7 hx8 hb7
    have r0 := (row_keep hR3 hb8).cell hh
    obtain ⟨ad, hAd, _, _, d1, _⟩ := (hN3.keep hb8).at_ hh
    subst hAd
    rw [h4] at d1
    have hTL8 := hTL _ (hT3.keep hb8)
    obtain ⟨y, hy⟩ : ∃ y, y = wt l hosts h := ⟨_, rfl⟩
    rw [← hy] at r0 hwp
    have g5 : decide (0 < y) = true := decide_eq_true hwp
    have hW8 := below_step hW3 (show Below w3.heap.size w3 w8 from hb8)
    clear hTL hy hp hb8 hw8
    go_wp2_with fail
    refine hTL8.mono ?_; rintro e w' ⟨rfl, rfl⟩
    go_wp2_with fail
    refine (law26_awake _).mono ?_; rintro e w9 ⟨rfl, hx9⟩
    go_wp2
    go_ret
    exact ⟨rfl, below_step hW8 hx9⟩
end Go.Proofs.YtblbgafadadbmaaGreat
end
