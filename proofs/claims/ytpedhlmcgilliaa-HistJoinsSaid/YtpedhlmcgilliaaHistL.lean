/- HistJoins. -/
import Derived.Test.YtpedhlmcgilliaaHistI
import Derived.Test.YtpedhlmcgilliaaHistK
import Derived.Test.YtpedhlmcgilliaaAppendAny
set_option linter.unusedVariables false
namespace Go.Proofs.Ytpedhlmcgilliaa
open Go.RowKit
set_option maxHeartbeats 4000000
set_option maxRecDepth 100000
theorem alike_hs (b : Nat) (l : List Int) (A : Option Addr) (n c : Nat) (p : Int) (w : World) (H : HS w b l) (hl : IsList w .u64 A n c (srt l)) (hn : n ≤ 1000000) :
    Calls Try.prog 33 #[.pointer (some ⟨b, 0, none⟩), .slice A n c, .int .i64 p] w fun e w' => e = .returned (.bool true) ∧ Below w.heap.size w w' := by
  obtain ⟨cnt, hi, lo, least, most, h, hS, hc0⟩ := H
  have hln : l.length = n := by rw [← srt_len, hl.len]
  rw [hln] at h
  exact law_alike b cnt hi lo least most A n c (srt l) p w hl hn hS hc0 h
theorem histJoins_walk (w : World) (A : Option Addr) (n0 c : Nat) (l0 : List Int) (hl0 : IsList w .u64 A n0 c l0) (B : Option Addr) (m0 d : Nat) (k0 : List Int) (hk0 : IsList w .u64 B m0 d k0) (p : Int) (p0 : -9223372036854775808 ≤ p) (p1 : p ≤ 9223372036854775807) :
    Calls Try.prog 11 #[.slice A n0 c, .slice B m0 d, .int .i64 p] w fun e w' => e = .returned (.bool true) ∧ Below w.heap.size w w' := by
  have hl := hl0.cut (k := min n0 60) (by omega)
  have hk := hk0.cut (k := min m0 60) (by omega)
  have hn60 : min n0 60 ≤ 60 := by omega
  have hm60 : min m0 60 ≤ 60 := by omega
  have hF := fun w => law38_few A n0 c hl0.cap hl0.small w
  have hG := fun w => law38_few B m0 d hk0.cap hk0.small w
  generalize min n0 60 = n at hl hF hn60
  generalize min m0 60 = m at hk hG hm60
  generalize l0.take n = l at hl
  generalize k0.take m = k at hk
  clear hl0 l0 hk0 k0
  have hlen := Lib.hid hl.len
  have hklen := Lib.hid hk.len
  go_enter Try.func11, Try.ntmps11
  go_wp2_with fail
  refine (hF _).mono ?_; rintro e w' ⟨rfl, rfl⟩
  clear hF
  go_wp2_with fail
  refine (hG _).mono ?_; rintro e w' ⟨rfl, rfl⟩
  clear hG
  go_wp2_with fail
  have hne : 0 < n → ∀ ad, A = some ad → ad.block < w.heap.size := fun hn ad hA => by
    obtain ⟨ad2, e2, hb, _⟩ := hl.reads.2 hn
    rw [hA] at e2
    injection e2 with e2
    subst e2
    exact hb
  have hme : 0 < m → ∀ ad, B = some ad → ad.block < w.heap.size := fun hn ad hA => by
    obtain ⟨ad2, e2, hb, _⟩ := hk.reads.2 hn
    rw [hA] at e2
    injection e2 with e2
    subst e2
    exact hb
  have s1 : (w.alloc (.cells Try.zeroCells80 80)).heap.size = w.heap.size + 1 := by go_simp
  have hX := HistIs.zero w
  have hx1 : Below w.heap.size w (w.alloc (.cells Try.zeroCells80 80)) := (Below.refl _ w).alloc (Nat.le_refl _) _
  generalize w.alloc (.cells Try.zeroCells80 80) = u1 at *
  have s2 : (u1.alloc (.cells Try.zeroCells80 80)).heap.size = w.heap.size + 1 + 1 := by rw [← s1]; go_simp
  have hY := HistIs.zero u1
  have hx2 : Below u1.heap.size u1 (u1.alloc (.cells Try.zeroCells80 80)) := (Below.refl _ u1).alloc (Nat.le_refl _) _
  have hX := hX.keep hx2
  rw [s1] at hY
  generalize u1.alloc (.cells Try.zeroCells80 80) = u2 at *
  have hZ := HistIs.zero u2
  have hx3 : Below u2.heap.size u2 (u2.alloc (.cells Try.zeroCells80 80)) := (Below.refl _ u2).alloc (Nat.le_refl _) _
  have hX := hX.keep hx3
  have hY := hY.keep hx3
  rw [s2] at hZ
  have hx := below_step (below_step hx1 hx2) hx3
  generalize u2.alloc (.cells Try.zeroCells80 80) = u3 at *
  have hl3 := hl.keep hx
  have hk3 := hk.keep hx
  obtain ⟨bx, hbx⟩ : ∃ bx, bx = w.heap.size := ⟨_, rfl⟩
  obtain ⟨by_, hby⟩ : ∃ by_, by_ = w.heap.size + 1 := ⟨_, rfl⟩
  obtain ⟨bz, hbz⟩ : ∃ bz, bz = w.heap.size + 1 + 1 := ⟨_, rfl⟩
  rw [← hbz] at hZ ⊢
  rw [← hby] at hY ⊢
  rw [← hbx] at hX ⊢
  have hbxy : bx < by_ := by omega
  have hbyz : by_ < bz := by omega
  have hgx : w.heap.size ≤ bx := by omega
  clear s1 s2 hx1 hx2 hx3 hl hk hbx hby hbz
  refine (hist_Add bx A n c l u3 hl3 (fun hn ad hA e => by have := hne hn ad hA; omega) hX).mono ?_; rintro e u4 ⟨rfl, hX, hM⟩
  have hl4 := hl3.mod hM (fun hn ad hA e => by have := hne hn ad hA; omega)
  have hk4 := hk3.mod hM (fun hn ad hA e => by have := hme hn ad hA; omega)
  have hY := hY.mod hM (by omega)
  have hZ := hZ.mod hM (by omega)
  have hx4 := below_thenMod hx (Nat.le_refl _) hM (fun i hi => by omega)
  clear hx hM hl3 hk3
  go_wp2_with fail
  refine (hist_Add by_ B m d k u4 hk4 (fun hn ad hA e => by have := hme hn ad hA; omega) hY).mono ?_; rintro e u5 ⟨rfl, hY, hM⟩
  have hl5 := hl4.mod hM (fun hn ad hA e => by have := hne hn ad hA; omega)
  have hk5 := hk4.mod hM (fun hn ad hA e => by have := hme hn ad hA; omega)
  have hX := hX.mod hM (by omega)
  have hZ := hZ.mod hM (by omega)
  have hx5 := below_thenMod hx4 (Nat.le_refl _) hM (fun i hi => by omega)
  clear hx4 hM hl4 hk4
  have HX : HS u5 bx l := ⟨fun i => hcnt l i n, _, _, _, _, by rw [hlen.out]; exact hX, by have := says_of l hl5.u64s (by rw [hlen.out]; omega); rw [hlen.out] at this; exact this, fun i hi => hcnt_out l hl5.u64s i hi n⟩
  have HY : HS u5 by_ k := ⟨fun i => hcnt k i m, _, _, _, _, by rw [hklen.out]; exact hY, by have := says_of k hk5.u64s (by rw [hklen.out]; omega); rw [hklen.out] at this; exact this, fun i hi => hcnt_out k hk5.u64s i hi m⟩
  have HZ : HS u5 bz [] := ⟨fun _ => 0, 0, 0, 0, 0, hZ, by have := says_of [] (fun v hv => by cases hv) (by decide); simpa [hcnt, sums, hleast, hmost] using this, fun _ _ => rfl⟩
  clear hX hY hZ
  go_wp2_with fail
  have hl60 : l.length ≤ 1000 := by rw [hlen.out]; omega
  have hk60 : k.length ≤ 1000 := by rw [hklen.out]; omega
  have hP := Blk.new u5 75 #[.pointer (some ⟨by_, 0, none⟩), .pointer (some ⟨bx, 0, none⟩)]
  have hx6 : Below u5.heap.size u5 (u5.alloc (.cells #[.pointer (some ⟨by_, 0, none⟩), .pointer (some ⟨bx, 0, none⟩)] 75)) := (Below.refl _ _).alloc (Nat.le_refl _) _
  have bz5 := HZ.lt
  have HX := HX.keep hx6
  have HY := HY.keep hx6
  have HZ := HZ.keep hx6
  have hl6 := hl5.keep hx6
  have hk6 := hk5.keep hx6
  have hx6 := below_step hx5 hx6
  generalize u5.alloc (.cells #[.pointer (some ⟨by_, 0, none⟩), .pointer (some ⟨bx, 0, none⟩)] 75) = u6 at *
  obtain ⟨g, hg⟩ : ∃ g, g = u5.heap.size := ⟨_, rfl⟩
  rw [← hg] at hP bz5 ⊢
  clear hg hl5 hk5 hx5
  refine (hist_Join bz g 2 [(by_, k), (bx, l)] [] u6 (Nat.le_refl 2) (by decide) (by omega) hP.lt (fun i hi => by
    match i, hi with
    | 0, _ => exact hP.cells2.1
    | 1, _ => exact hP.cells2.2.1) (fun i hi => by
    match i, hi with
    | 0, _ => exact ⟨HY, by show by_ ≠ bz; omega, hk60⟩
    | 1, _ => exact ⟨HX, by show bx ≠ bz; omega, hl60⟩) HZ (by decide)).mono ?_; rintro e u7 ⟨rfl, HZ, hM⟩
  have HZ : HS u7 bz (k ++ l) := by simpa [joined] using HZ
  have HX := HX.mod hM (by omega)
  have HY := HY.mod hM (by omega)
  have hl7 := hl6.mod hM (fun hn ad hA e => by have := hne hn ad hA; omega)
  have hk7 := hk6.mod hM (fun hn ad hA e => by have := hme hn ad hA; omega)
  have hx7 := below_thenMod hx6 (Nat.le_refl _) hM (fun i hi => by omega)
  clear hx6 hM hl6 hk6 hP bz5
  go_wp2_with fail
  have hP := Blk.new u7 75 #[.pointer (some ⟨by_, 0, none⟩)]
  have hx8 : Below u7.heap.size u7 (u7.alloc (.cells #[.pointer (some ⟨by_, 0, none⟩)] 75)) := (Below.refl _ _).alloc (Nat.le_refl _) _
  have bz7 := HZ.lt
  have HX := HX.keep hx8
  have HY := HY.keep hx8
  have HZ := HZ.keep hx8
  have hl8 := hl7.keep hx8
  have hk8 := hk7.keep hx8
  have hx8 := below_step hx7 hx8
  generalize u7.alloc (.cells #[.pointer (some ⟨by_, 0, none⟩)] 75) = u8 at *
  obtain ⟨g2, hg⟩ : ∃ g, g = u7.heap.size := ⟨_, rfl⟩
  rw [← hg] at hP bz7 ⊢
  clear hg hl7 hk7 hx7
  refine (hist_Join bx g2 1 [(by_, k)] l u8 (Nat.le_refl 1) (by decide) (by omega) hP.lt (fun i hi => by
    match i, hi with
    | 0, _ => exact hP.cell 0) (fun i hi => by
    match i, hi with
    | 0, _ => exact ⟨HY, by show by_ ≠ bx; omega, hk60⟩) HX hl60).mono ?_; rintro e u9 ⟨rfl, HX, hM⟩
  have HX : HS u9 bx (l ++ k) := by simpa [joined] using HX
  have HZ := HZ.mod hM (by omega)
  have HY := HY.mod hM (by omega)
  have hl9 := hl8.mod hM (fun hn ad hA e => by have := hne hn ad hA; omega)
  have hk9 := hk8.mod hM (fun hn ad hA e => by have := hme hn ad hA; omega)
  have hx9 := below_thenMod hx8 (Nat.le_refl _) hM (fun i hi => by omega)
  clear hx8 hM hl8 hk8 hP bz7
  obtain ⟨iI, hiI, hzI, hzI1, hzI2⟩ := info_parts Try.infoU64
  have one : ∀ l : List Int, ∀ u ∈ l.map (Value.int .u64), u.oneCell' = true := fun l u hu => by
    obtain ⟨x, _, rfl⟩ := List.mem_map.1 hu
    rfl
  have hRl := hl9.reads.alloc (Nat.le_refl _) (.cells #[] 22)
  have hxa : Below u9.heap.size u9 (u9.alloc (.cells #[] 22)) := (Below.refl _ u9).alloc (Nat.le_refl _) _
  have LN := Lib.hid hne
  have LM := Lib.hid hme
  have hlc := hl9.cap
  have hkc := hk9.cap
  clear hne hme
  go_wp2_with (first
    | (at_builtin; refine wpList_append_any _ rfl (.tmp 37) (.tmp 38) _ rfl u9.heap.size 22 iI _ 1 8 Try.underlying40 hiI hzI hzI1 hzI2 rfl (by decide) _ 0 [] rfl (World.ownsRow_made u9 #[] 0 (Nat.le_refl _) (Nat.zero_le _) rfl) _ A n c (l.map (Value.int .u64)) rfl hRl (one l) (by simp only [maxLen]; omega) (by omega) (by simp) ?_; intro v1 w1 hown hg hat; have hxA := hxa.grown hg (by simp) (by intro k hk; cases hk; exact Nat.le_refl _); have hkA := hk9.keep hxA; have hv1 : ∀ g, v1.ownBlock = some g → u9.heap.size ≤ g := (fun g hq => by rcases hat with h | h <;> rw [h] at hq <;> cases hq <;> first | exact Nat.le_refl _ | exact hxa.size); clear hRl hxa hg hat)
    | (at_builtin; refine wpList_append_any _ rfl (.tmp 39) (.tmp 40) _ rfl u9.heap.size 22 iI _ 1 8 Try.underlying40 hiI hzI hzI1 hzI2 rfl (by decide) v1 _ _ rfl hown _ B m d (k.map (Value.int .u64)) rfl hkA.reads (one k) (by simp only [maxLen]; omega) (by omega) (by have := hxA.size; omega) ?_; intro v2 w2 hown2 hg2 hat2)
    | fail)
  have hx10 := hxA.grown hg2 hxA.size hv1
  clear hxA hv1 hg2 hat2 hkA hown
  obtain ⟨A2, c2, rfl, hI, _⟩ := own_list (K := .u64) (l := l ++ k) (n := n + m) (by simpa using hown2) (fun z hz => (List.mem_append.1 hz).elim (hl9.wf z) (hk9.wf z)) (by omega)
  clear hown2
  have HX := HX.keep hx10
  have HY := HY.keep hx10
  have HZ := (HZ.keep hx10).of_perm (srt_perm_eq (l' := l ++ k) List.perm_append_comm)
  have hk10 := hk9.keep hx10
  have hx10 := below_step hx9 hx10
  clear hx9 hl9 hk9
  refine (law_sorted A2 (n + m) c2 (l ++ k) w2 hI).mono ?_; rintro e u11 ⟨g3, rfl, _, hrow, hxs⟩
  have hS := srt_list hI hrow
  have HX := HX.keep hxs
  have HY := HY.keep hxs
  have HZ := HZ.keep hxs
  have hk11 := hk10.keep hxs
  have hx11 := below_step hx10 hxs
  clear hxs hx10 hk10 hrow hI
  go_wp2_with fail
  refine (alike_hs bx (l ++ k) _ (n + m) (n + m) p u11 HX hS (by omega)).mono ?_; rintro e u12 ⟨rfl, hxs⟩
  have HX := HX.keep hxs
  have HY := HY.keep hxs
  have HZ := HZ.keep hxs
  have hS := hS.keep hxs
  have hk12 := hk11.keep hxs
  have hx12 := below_step hx11 hxs
  clear hxs hx11 hk11
  go_wp2_with fail
  refine (alike_hs bz (l ++ k) _ (n + m) (n + m) p u12 HZ hS (by omega)).mono ?_; rintro e u13 ⟨rfl, hxs⟩
  have HX := HX.keep hxs
  have HY := HY.keep hxs
  have hk13 := hk12.keep hxs
  have hx13 := below_step hx12 hxs
  clear hxs hx12 hk12 hS
  go_wp2_with fail
  refine (law_sorted B m d k u13 hk13).mono ?_; rintro e u14 ⟨g4, rfl, _, hrow, hxs⟩
  have hS := srt_list hk13 hrow
  have HX := HX.keep hxs
  have HY := HY.keep hxs
  have hx14 := below_step hx13 hxs
  clear hxs hx13 hk13 hrow
  go_wp2_with fail
  refine (alike_hs by_ k _ m m p u14 HY hS (by omega)).mono ?_; rintro e u15 ⟨rfl, hxs⟩
  have HX := HX.keep hxs
  have hx15 := below_step hx14 hxs
  clear hxs hx14 hS
  go_wp2_with fail
  refine (hist_Clear bx (l ++ k) u15 HX).mono ?_; rintro e u16 ⟨rfl, HX, hM⟩
  have hx16 := below_thenMod hx15 (Nat.le_refl _) hM (fun i hi => by omega)
  clear hM hx15
  go_wp2_with fail
  refine (alike_hs bx [] none 0 0 p u16 HX (by rw [show srt ([] : List Int) = [] from List.eq_nil_of_length_eq_zero (by rw [srt_len]; rfl)]; exact isList_nil _ _) (by omega)).mono ?_; rintro e u17 ⟨rfl, hxs⟩
  have hx17 := below_step hx16 hxs
  clear hxs hx16
  go_wp2_with fail
  refine (hist_awake _).mono ?_; rintro e u18 ⟨rfl, hxs⟩
  go_wp2
  go_ret
  exact ⟨rfl, below_step hx17 hxs⟩
end Go.Proofs.Ytpedhlmcgilliaa
