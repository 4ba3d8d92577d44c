/- Lemmas for the claim's proof: WheelO WheelP0 WheelP1. -/
import Derived.Test.YtcpfekhpbjkgeaaQ12
section
/- wheel.Cancel. -/
set_option linter.unusedVariables false
namespace Go.Proofs.Ytcpfekhpbjkgeaa
open Go.RowKit
set_option maxHeartbeats 8000000
set_option maxRecDepth 100000
theorem wheel_Cancel {w : World} {B b : Nat} {V : Nat → Value} {l : List It} {now : Int} (h : WheelIs w B b V l now) (z : Int) (hl : l.length < 4096) :
    Calls Try.prog 20 #[.pointer (some ⟨b, 0, none⟩), .int .i64 z] w fun e w' => e = .returned (.int .i64 ((l.length : Int) - ((l.filter (fun x => x.id != z)).length : Int))) ∧ WheelTo w w' B b V (l.filter (fun x => x.id != z)) now := by
  have hlt := Lib.hid (fun g hg => (h.lt (g := g) hg).2)
  obtain ⟨S, hS, hOK, hPe⟩ := h.ex
  have HW := Lib.hid (And.intro h.ord (And.intro h.wf (And.intro h.n0 (And.intro h.n1 (And.intro hOK hPe)))))
  clear h hOK hPe
  have hA := (Below.refl w.heap.size w).alloc (Nat.le_refl _) (.cells #[.int .i64 z] 3)
  have P := Blk.new w 3 #[.int .i64 z]
  have hS1 := hS.keep hA
  clear hS
  obtain ⟨p, hp⟩ : ∃ p : It → Bool, p = (fun x => x.id != z) := ⟨_, rfl⟩
  have HPE := Lib.hid hp
  have HDF := Lib.hid (fun (w : World) (A : Option Addr) (n c : Nat) (l : List It) (h : w.ownsRow B 31 2 (.slice A n c) n (itShape.flat l)) (ib : Nat) (hc : w.cell? ⟨ib, 0, none⟩ = some (.int .i64 z)) (hib : ∀ g, A = some ⟨g, 0, none⟩ → ib ≠ g) (hn : n ≤ 4096) => (show Calls Try.prog 52 #[.slice A n c, .func (.func 53) #[] #[.pointer (some ⟨ib, 0, none⟩)]] w fun e w' => e = .returned (.slice A (l.filter p).length c) ∧ w'.ownsRow B 31 2 (.slice A (l.filter p).length c) (l.filter p).length (itShape.flat (l.filter p)) ∧ Mod (fun g => A = some ⟨g, 0, none⟩) w w' from by rw [hp]; exact deleteFunc_it h ib z hc hib hn))
  rw [← hp]
  clear hp
  go_enter Try.func20, Try.ntmps20
  go_upto_region 1 with (fail)
  obtain ⟨ib, hib⟩ : ∃ ib, ib = w.heap.size := ⟨_, rfl⟩
  rw [← hib] at P ⊢
  have HIB := Lib.hid hib
  clear hib
  have hM0 : Mod (wIn b V) w (w.alloc (.cells #[.int .i64 z] 3)) := Mod.of_below hA
  clear hA
  generalize w.alloc (.cells #[.int .i64 z] 3) = u at *
  obtain ⟨p0, _⟩ := P.cells1
  clear P
  go_wp2_with fail
  go_loopg [5, 6, 7, 10] 64 (fun gk s5 s6 s7 s10 wr => ∃ (k nr : Nat) (V' : Nat → Value), s10 = .int .i64 k ∧ s5 = .int .i64 nr ∧ k ≤ 64 ∧ gk = 64 - k ∧ Hid (nr + (allOf (cutS S p k) 64).length = l.length) ∧ IsWheel wr B b V' (cutS S p k) now l.length ∧ Hid (∀ g, wIn b V' g → wIn b V g) ∧ wr.cell? ⟨ib, 0, none⟩ = some (.int .i64 z) ∧ Mod (wIn b V) w wr)
  case atStart => exact ⟨0, 0, V, rfl, rfl, Nat.zero_le _, rfl, Lib.hid (by rw [cutS_zero, Nat.zero_add]; exact HW.out.2.2.2.2.2.length_eq.symm), by rw [cutS_zero]; exact hS1, Lib.hid (fun g hg => hg), p0, hM0⟩
  case round =>
    clear hS1 hM0 p0
    obtain ⟨k, nr, V', rfl, rfl, hk, rfl, HN, hI, HIN, hc, hM⟩ := hrel
    by_cases hk64 : k < 64
    · have hkz : (k : Int) < 64 := by omega
      have hro := hI.row k hk64
      rw [cutS_at] at hro
      have c7 := hI.cSlot hk64
      obtain ⟨A, cA, eA⟩ := own_sl hro
      have HEA := Lib.hid eA
      rw [eA] at hro c7
      have HAG := Lib.hid (show ∀ g, A = some ⟨g, 0, none⟩ → wIn b V g ∧ g < w.heap.size from fun g e => by
        have h1 := HIN.out g (.inr ⟨k, hk64, by rw [eA, e]; rfl⟩)
        exact ⟨h1, hlt.out g h1⟩)
      have hsl : (S k).length ≤ l.length := by
        have h1 := slot_le S hk64
        have h2 := HW.out.2.2.2.2.2.length_eq
        omega
      have HST := Lib.hid (cutS_len S p hk64)
      have HSP := Lib.hid (cutS_step S p k)
      have hfl : ((S k).filter p).length ≤ (S k).length := List.length_filter_le _ _
      obtain ⟨L, hL⟩ : ∃ L, L = S k := ⟨_, rfl⟩
      rw [← hL] at hro hsl HST HSP hfl
      simp only [← hL] at c7
      clear hL eA
      obtain ⟨n, hn⟩ : ∃ n, n = L.length := ⟨_, rfl⟩
      rw [← hn] at hro hsl HST hfl
      simp only [← hn] at c7
      clear hn
      have HDK := Lib.hid (fun (wx : World) (h : wx.ownsRow B 31 2 (.slice A n cA) n (itShape.flat L)) (hc : wx.cell? ⟨ib, 0, none⟩ = some (.int .i64 z)) => HDF.out wx A n cA L h ib hc (fun g e => by have := (HAG.out g e).2; have := HIB.out; omega) (by omega))
      obtain ⟨F, hF⟩ : ∃ F, F = L.filter p := ⟨_, rfl⟩
      rw [← hF] at HDK HST HSP hfl
      clear hF HDF
      go_upto_region 8 with (fail)
      have hIW := hI.drew
      have hcW : wr.drew.cell? ⟨ib, 0, none⟩ = some (.int .i64 z) := hc
      have hrW : wr.drew.ownsRow B 31 2 (.slice A n cA) n (itShape.flat L) := hro
      have c8 : wr.drew.cell? ⟨b, k, none⟩ = some (.slice A n cA) := c7
      have hMW : Mod (wIn b V) w wr.drew := hM.drew
      clear hI hc hro c7 hM
      refine wp_region_noPanic ?_
      refine wp_region_held_drew (S := (fun w' => True)) (by kernel_rfl) trivial (fun hHeld => ?_)
      refine take_one (i := 0) (oi := ?oi_1) (v := ?v_1) ?hi_1 (by kernel_rfl) (by kernel_rfl) (by kernel_rfl) ?hq_1 ?hw_1 ?hy_1 (by assumption) ?rest_1
      case hi_1 => (simp only [List.getElem?_toArray, List.getElem?_cons_zero]; rfl)
      case hq_1 => exact fun _ _ _ h => h
      case hw_1 => rfl
      case hy_1 => (intro w' hSw; skip; go_simp; first | done | with_reducible rfl)
      try simp only [Act.put, List.setIfInBounds_toArray, List.set_cons_zero, List.set_cons_succ]
      refine take_one (i := 1) (oi := ?oi_2) (v := ?v_2) ?hi_2 (by kernel_rfl) (by kernel_rfl) (by kernel_rfl) ?hq_2 ?hw_2 ?hy_2 (by assumption) ?rest_2
      case hi_2 => (simp only [List.getElem?_toArray, List.getElem?_cons_succ, List.getElem?_cons_zero]; rfl)
      case hq_2 => exact fun _ _ _ h => h
      case hw_2 => rfl
      case hy_2 => (intro w' hSw; skip; go_simp; first | done | with_reducible rfl)
      try simp only [Act.put, List.setIfInBounds_toArray, List.set_cons_zero, List.set_cons_succ]
      refine take_one (i := 2) (oi := ?oi_3) (v := ?v_3) ?hi_3 (by kernel_rfl) (by kernel_rfl) (by kernel_rfl) ?hq_3 ?hw_3 ?hy_3 (by assumption) ?rest_3
      case hi_3 => (simp only [List.getElem?_toArray, List.getElem?_cons_succ, List.getElem?_cons_zero]; rfl)
      case hq_3 => exact fun _ _ _ h => h
      case hw_3 => rfl
      case hy_3 => (intro w' hSw; skip; go_simp; first | done | with_reducible rfl)
      try simp only [Act.put, List.setIfInBounds_toArray, List.set_cons_zero, List.set_cons_succ]
      refine take_one (i := 3) (oi := ?oi_4) (v := ?v_4) ?hi_4 (by kernel_rfl) (by kernel_rfl) (by kernel_rfl) ?hq_4 ?hw_4 ?hy_4 (by assumption) ?rest_4
      case hi_4 => (simp only [List.getElem?_toArray, List.getElem?_cons_succ, List.getElem?_cons_zero]; rfl)
      case hq_4 => exact fun _ _ _ h => h
      case hw_4 => rfl
      case hy_4 => (intro w' hSw; skip; go_simp; first | done | with_reducible rfl)
      try simp only [Act.put, List.setIfInBounds_toArray, List.set_cons_zero, List.set_cons_succ]
      refine take_one (i := 4) (oi := ?oi_5) (v := ?v_5) ?hi_5 (by kernel_rfl) (by kernel_rfl) (by kernel_rfl) ?hq_5 ?hw_5 ?hy_5 (by assumption) ?rest_5
      case hi_5 => (simp only [List.getElem?_toArray, List.getElem?_cons_succ, List.getElem?_cons_zero]; rfl)
      case hq_5 => exact fun _ _ _ h => h
      case hw_5 => rfl
      case hy_5 => (intro w' hSw; skip; go_simp; first | done | with_reducible rfl)
      try simp only [Act.put, List.setIfInBounds_toArray, List.set_cons_zero, List.set_cons_succ]
      refine take_one (i := 5) (oi := ?oi_6) (v := ?v_6) ?hi_6 (by kernel_rfl) (by kernel_rfl) (by kernel_rfl) ?hq_6 ?hw_6 ?hy_6 (by assumption) ?rest_6
      case hi_6 => (simp only [List.getElem?_toArray, List.getElem?_cons_succ, List.getElem?_cons_zero]; rfl)
      case hq_6 => exact fun _ _ _ h => h
      case hw_6 => rfl
      case hy_6 => (intro w' hSw; skip; go_simp; first | done | with_reducible rfl)
      try simp only [Act.put, List.setIfInBounds_toArray, List.set_cons_zero, List.set_cons_succ]
      refine take_one (i := 6) (oi := ?oi_7) (v := ?v_7) ?hi_7 (by kernel_rfl) (by kernel_rfl) (by kernel_rfl) ?hq_7 ?hw_7 ?hy_7 (by assumption) ?rest_7
      case hi_7 => (simp only [List.getElem?_toArray, List.getElem?_cons_succ, List.getElem?_cons_zero]; rfl)
      case hq_7 => exact fun _ _ _ h => h
      case hw_7 => rfl
      case hy_7 => (intro w' hSw; skip; go_simp; first | done | with_reducible rfl)
      try simp only [Act.put, List.setIfInBounds_toArray, List.set_cons_zero, List.set_cons_succ]
      refine take_one (i := 10) (oi := ?oi_8) (v := ?v_8) ?hi_8 (by kernel_rfl) (by kernel_rfl) (by kernel_rfl) ?hq_8 ?hw_8 ?hy_8 (by assumption) ?rest_8
      case hi_8 => (simp only [List.getElem?_toArray, List.getElem?_cons_succ, List.getElem?_cons_zero]; rfl)
      case hq_8 => exact fun _ _ _ h => h
      case hw_8 => rfl
      case hy_8 => (intro w' hSw; skip; go_simp; first | done | with_reducible rfl)
      try simp only [Act.put, List.setIfInBounds_toArray, List.set_cons_zero, List.set_cons_succ]
      refine take_one (i := 11) (oi := ?oi_9) (v := ?v_9) ?hi_9 (by kernel_rfl) (by kernel_rfl) (by kernel_rfl) ?hq_9 ?hw_9 ?hy_9 (by assumption) ?rest_9
      case hi_9 => (simp only [List.getElem?_toArray, List.getElem?_cons_succ, List.getElem?_cons_zero]; rfl)
      case hq_9 => exact fun _ _ _ h => h
      case hw_9 => rfl
      case hy_9 => (intro w' hSw; skip; go_simp; first | done | with_reducible rfl)
      try simp only [Act.put, List.setIfInBounds_toArray, List.set_cons_zero, List.set_cons_succ]
      generalize wr.drew = vx0 at *
      refine take_one (i := 8) (oi := ?oi_10) (v := ?v_10) ?hi_10 (by kernel_rfl) (by kernel_rfl) (by kernel_rfl) ?hq_10 ?hw_10 ?hy_10 (by assumption) ?rest_10
      case hi_10 => (simp only [List.getElem?_toArray, List.getElem?_cons_succ, List.getElem?_cons_zero]; rfl)
      case hq_10 => exact fun _ _ _ h => h
      case hw_10 => rfl
      case hy_10 => (intro w' hSw; skip; go_simp; first | done | with_reducible rfl)
      try simp only [Act.put, List.setIfInBounds_toArray, List.set_cons_zero, List.set_cons_succ]
      refine wpAnyH_ready (rs := [7]) (by kernel_rfl) (by simp) ?_
      refine AllReadyH.cons (i := 7) (o := ?o_11_7) ?h_11_7 (fun K hK => ?_) AllReadyH.nil
      case h_11_7 => (simp only [List.getElem?_toArray, List.getElem?_cons_succ, List.getElem?_cons_zero]; rfl)
      go_simp
      refine hK.out _ _ hHeld (fun hHeld => ?_)
      clear hK K
      try simp only [Act.put, List.setIfInBounds_toArray, List.set_cons_zero, List.set_cons_succ]
      refine wpAnyH_ready (rs := [9]) (by kernel_rfl) (by simp) ?_
      refine AllReadyH.cons (i := 9) (o := ?o_13_9) ?h_13_9 (fun K hK => ?_) AllReadyH.nil
      case h_13_9 => (simp only [List.getElem?_toArray, List.getElem?_cons_succ, List.getElem?_cons_zero]; rfl)
      go_simp
      go_at_call 52
      refine (HDK.out (vx0) hrW hcW).mono ?_
      rintro e vx14 ⟨rfl, hown4, hM4⟩
      try dsimp only
      refine hK.out _ _ trivial (fun hHeld => ?_)
      clear hK K
      try simp only [Act.put, List.setIfInBounds_toArray, List.set_cons_zero, List.set_cons_succ]
      have hbD : ¬ A = some ⟨b, 0, none⟩ := fun e => hIW.no hk64 (by rw [HEA.out, e]; rfl)
      have hB4 := hIW.blk.mod hM4 hbD
      have d4 := (hB4.cell k).trans (slot_at _ _ _ hk64)
      have e4 := hB4.free k
      have hc4 := cell_mod hcW hM4 (fun e => by have := (HAG.out ib e).2; have := HIB.out; omega)
      have hat : ∀ g, (Value.slice A F.length cA).ownBlock = some g → (V' k).ownBlock = some g := fun g hg => by rw [HEA.out]; cases A <;> exact hg
      have hI5 := hIW.put2 hk64 hM4 hbD (fun j hj hjk g hg h => by
        rcases hIW.apart j k hj hk64 hjk with h1 | h1
        · rw [h1] at hg; cases hg
        · exact h1 (by rw [hg, HEA.out, h]; rfl)) hown4 hat
      rw [HSP.out] at hI5
      have HIN5 := Lib.hid (fun g hg => HIN.out g (wIn_put2 (b := b) hk64 hat (g := g) hg))
      have hM5 := (mod_fresh hMW hM4 (fun q hq => .inl (HAG.out q hq).1)).setCell (p := ⟨b, k, none⟩) (.inl (.inl rfl)) (.slice A F.length cA)
      have hibb : ¬ b = ib := fun e => by have := hlt.out b (.inl rfl); have := HIB.out; omega
      have hc5 := (World.cell?_setCell_other (vx14) ⟨b, k, none⟩ ⟨ib, 0, none⟩ (.slice A F.length cA) (fun e => hibb (congrArg Addr.block e))).trans hc4
      clear hB4 hc4 hat hibb hown4 hM4
      refine take_one (i := 12) (oi := ?oi_15) (v := ?v_15) ?hi_15 (by kernel_rfl) (by kernel_rfl) (by kernel_rfl) ?hq_15 ?hw_15 ?hy_15 (by assumption) ?rest_15
      case hi_15 => (simp only [List.getElem?_toArray, List.getElem?_cons_succ, List.getElem?_cons_zero]; rfl)
      case hq_15 => exact fun _ _ _ h => h
      case hw_15 => rfl
      case hy_15 => (intro w' hSw; skip; go_simp; first | done | with_reducible rfl)
      try simp only [Act.put, List.setIfInBounds_toArray, List.set_cons_zero, List.set_cons_succ]
      refine wpAnyH_ready (rs := [13]) (by kernel_rfl) (by simp) ?_
      refine AllReadyH.cons (i := 13) (o := ?o_16_13) ?h_16_13 (fun K hK => ?_) AllReadyH.nil
      case h_16_13 => (simp only [List.getElem?_toArray, List.getElem?_cons_succ, List.getElem?_cons_zero]; rfl)
      go_simp
      refine hK.out _ _ trivial (fun hHeld => ?_)
      clear hK K d4 e4
      try simp only [Act.put, List.setIfInBounds_toArray, List.set_cons_zero, List.set_cons_succ]
      generalize (vx14).setCell ⟨b, k, none⟩ (.slice A F.length cA) = vx17 at *
      refine wpAnyH_done (by kernel_rfl) (NoPanic.normal ?_) _
      have c9 := hI5.cSlot hk64
      rw [show updV V' k (.slice A F.length cA) k = .slice A F.length cA by unfold updV; rw [if_pos rfl]] at c9
      have wk1 : IntKind.i64.wrap ((n : Int) - (F.length : Int)) = (n : Int) - (F.length : Int) := by rw [IntKind.wrap_i64]; omega
      obtain ⟨q, hq⟩ : ∃ q, q = nr + (n - F.length) := ⟨_, rfl⟩
      have hnrl : nr ≤ l.length := by have := HN.out; omega
      have wk2 : IntKind.i64.wrap ((nr : Int) + ((n : Int) - (F.length : Int))) = (q : Int) := by rw [IntKind.wrap_i64]; omega
      have HNN := Lib.hid (show q + (allOf (cutS S p (k + 1)) 64).length = l.length by have := HN.out; have := HST.out; omega)
      clear HN HST hq hIW hcW hrW c8 hMW hbD
      go_wp2
      go_roundg (64 - (k + 1))
      case measure => omega
      case rel => exact ⟨k + 1, q, _, by go_num, rfl, by omega, rfl, HNN, hI5, HIN5, hc5, hM5⟩
    · obtain rfl : k = 64 := by omega
      have HE := Lib.hid (cutS_end S p)
      have HQ := Lib.hid (show (l.filter p).length = (allOf (cutS S p 64) 64).length by rw [HE.out]; exact (HW.out.2.2.2.2.2.filter p).length_eq)
      have c65 := hI.cN
      have f65 := hI.blk.free 65
      have hnl : nr ≤ l.length := by have := HN.out; omega
      obtain ⟨fl, hfl⟩ : ∃ fl, fl = (l.filter p).length := ⟨_, rfl⟩
      have HFL := Lib.hid hfl
      have hnf : nr + fl = l.length := by have := HN.out; have := HQ.out; omega
      have wl : IntKind.i64.wrap ((l.length : Int) - (nr : Int)) = (fl : Int) := by rw [IntKind.wrap_i64]; omega
      have hI2 := hI.setN (fl : Int)
      have hM2 := hM.setCell (p := ⟨b, 65, none⟩) (.inl (.inl rfl)) (.int .i64 (fl : Int))
      have HNF := Lib.hid hnf
      have HFIN := Lib.hid (show WheelIs _ B b V' (l.filter p) now from ⟨⟨cutS S p 64, by rw [← hfl]; exact hI2, HW.out.2.2.2.2.1.cutS p 64, by rw [HE.out]; exact HW.out.2.2.2.2.2.filter p⟩, filter_ordered HW.out.1 p, fun x hx => HW.out.2.1 x (List.mem_filter.1 hx).1, HW.out.2.2.1, HW.out.2.2.2.1⟩)
      have HMM := Lib.hid hM2
      clear hI hI2 hM hM2 hfl hnf HN hc
      go_wp2
      go_ret
      exact ⟨by rw [← HFL.out]; exact congrArg (fun q => Ending.returned (.int .i64 q)) (by have := HNF.out; omega), V', HFIN.out, HMM.out, fun g hg => .inl (HIN.out g hg)⟩
end Go.Proofs.Ytcpfekhpbjkgeaa
end
section
/- The law's script: calls, and what a call is. -/
set_option linter.unusedVariables false
namespace Go.Proofs.Ytcpfekhpbjkgeaa
open Go.ChangeShapes Go.WideShapes Go.ChangeAt Go.RowKit Go.Deep
structure POp where
  kind : Int
  t : Int
  id : Int
def popShape : Shape POp where
  z := ⟨0, 0, 0⟩
  size := 3
  cells := fun x => [.int .i64 x.kind, .int .i64 x.t, .int .i64 x.id]
  Wf := fun x => I64 x.kind ∧ I64 x.t ∧ I64 x.id
  pos := by decide
  len := fun _ => rfl
  one := fun x u hu => by
    simp at hu
    rcases hu with rfl | rfl | rfl <;> rfl
  zwf := by unfold I64; decide
section
variable {H : Type} {enc : TypeId × Value → H} {W : World} {base : Nat} {sp : Nat → Bool} {held : Bool}
structure PopType (e : TypeId) (f0 f1 h0 h1 : Field) : Prop where
  he : Try.prog.underlying e = some (.struct #[f0, f1])
  hp : Try.prog.underlying f1.type = some (.struct #[h0, h1])
  hc : Try.prog.cellsOf e = 3
  hc2 : Try.prog.cellsOf f1.type = 2
  c0 : f0.offset = 0 ∧ Try.prog.cellsOf f0.type = 1
  c1 : f1.offset = 1
  d0 : h0.offset = 0 ∧ Try.prog.cellsOf h0.type = 1
  d1 : h1.offset = 1 ∧ Try.prog.cellsOf h1.type = 1
  e0 : Try.prog.underlying f0.type = some (.int .i64)
  k0 : Try.prog.underlying h0.type = some (.int .i64)
  k1 : Try.prog.underlying h1.type = some (.int .i64)
theorem trod_pop {e : TypeId} {f0 f1 h0 h1 : Field} (hT : PopType e f0 f1 h0 h1) {fuel : Nat} {cs : List Value} {x : DataW H × List MemPlace}
    (h : DataW.trod enc Try.prog W base sp held fuel e cs = some x) : ∃ y : POp, cs = popShape.cells y ∧ popShape.Wf y := by
  obtain ⟨ys, n, _, _, hlen, hyl, hf⟩ := DataW.trod_struct hT.he h
  rw [hT.hc] at hlen
  have hs : ys.length = 2 := hyl
  have t0 := hf 0 f0 rfl
  have t1 := hf 1 f1 rfl
  rw [hT.c0.1, hT.c0.2] at t0
  rw [hT.c1, hT.hc2] at t1
  obtain ⟨y0, q0⟩ : ∃ y, ys[0]? = some y := ⟨_, List.getElem?_eq_getElem (by omega)⟩
  obtain ⟨y1, q1⟩ : ∃ y, ys[1]? = some y := ⟨_, List.getElem?_eq_getElem (by omega)⟩
  obtain ⟨zs, m, _, _, hlen2, hzl, hg⟩ := DataW.trod_struct hT.hp (t1.trans q1)
  have hs2 : zs.length = 2 := hzl
  have u0 := hg 0 h0 rfl
  have u1 := hg 1 h1 rfl
  rw [hT.d0.1, hT.d0.2] at u0
  rw [hT.d1.1, hT.d1.2] at u1
  obtain ⟨x0, v0⟩ : ∃ y, zs[0]? = some y := ⟨_, List.getElem?_eq_getElem (by omega)⟩
  obtain ⟨x1, v1⟩ : ∃ y, zs[1]? = some y := ⟨_, List.getElem?_eq_getElem (by omega)⟩
  obtain ⟨z0, r0, _, m0⟩ := DataW.trod_int hT.e0 (t0.trans q0)
  obtain ⟨z1, r1, _, m1⟩ := DataW.trod_int hT.k0 (u0.trans v0)
  obtain ⟨z2, r2, _, m2⟩ := DataW.trod_int hT.k1 (u1.trans v1)
  clear t0 t1 u0 u1 hg hf h
  match cs, hlen with
  | [a0, a1, a2], _ =>
    simp at r0 r1 r2
    subst r0 r1 r2
    exact ⟨⟨z0, z1, z2⟩, rfl, i64_of_wf m0, i64_of_wf m1, i64_of_wf m2⟩
end
/-- A call's cells. -/
theorem pop_at {w : World} {A : Option Addr} {n c : Nat} {l : List POp} (h : IsRow popShape w A n c l) {k : Nat} (hk : k < n) :
    ∃ ad, A = some ad ∧ ad.block < w.heap.size ∧ w.cell? (ad.add (k * 3)) = some (.int .i64 (l.getD k ⟨0, 0, 0⟩).kind) ∧ w.cell? ⟨(ad.add (k * 3)).block, (ad.add (k * 3)).off + 1, none⟩ = some (.int .i64 (l.getD k ⟨0, 0, 0⟩).t) ∧
      w.cell? ⟨(ad.add (k * 3)).block, (ad.add (k * 3)).off + 2, none⟩ = some (.int .i64 (l.getD k ⟨0, 0, 0⟩).id) ∧ popShape.Wf (l.getD k ⟨0, 0, 0⟩) := by
  obtain ⟨ad, e, hb, hat⟩ := h.at_ hk
  have hat : ∀ j u, (popShape.cells (l.getD k popShape.z))[j]? = some u → w.cell? (ad.add (k * 3 + j)) = some u := hat
  refine ⟨ad, e, hb, hat 0 _ rfl, ?_, ?_, h.wfd k⟩ <;> rw [← add_far _ _ _ (by omega)]
  · exact hat 1 _ rfl
  · exact hat 2 _ rfl
end Go.Proofs.Ytcpfekhpbjkgeaa
end
section
/- The wheel and the law's list beside each other; the wheel's own tests of it. -/
set_option linter.unusedVariables false
namespace Go.Proofs.Ytcpfekhpbjkgeaa
open Go.RowKit
set_option maxHeartbeats 8000000
set_option maxRecDepth 100000
/-- The wheel in memory, and a list in memory that is what it holds, in a block of its own. -/
structure Pl (w : World) (a : Nat) (V : Nat → Value) (l : List It) (now : Int) (A : Option Addr) (c : Nat) : Prop where
  wh : WheelIs w a a V l now
  rd : ReadsIt w A l.length c l
  no : ∀ ad, A = some ad → 0 < l.length → ¬ wIn a V ad.block
section
variable {w w' : World} {a : Nat} {V : Nat → Value} {l : List It} {now : Int} {A : Option Addr} {c : Nat}
theorem Pl.keep (h : Pl w a V l now A c) (hx : Below w.heap.size w w') : Pl w' a V l now A c := ⟨h.wh.keep hx, h.rd.keep hx, h.no⟩
theorem readsIt_mod {D : Nat → Prop} {n : Nat} (h : ReadsIt w A n c l) (hx : Mod D w w') (hn : ∀ ad, A = some ad → 0 < n → ¬ D ad.block) : ReadsIt w' A n c l := by
  refine ⟨⟨h.1.1, fun h0 => ?_⟩, h.2⟩
  obtain ⟨ad, e, hb, hc⟩ := h.1.2 h0
  exact ⟨ad, e, Nat.lt_of_lt_of_le hb hx.size, fun j u hu => cella_mod (hc j u hu) hx (hn ad e h0)⟩
/-- Behind a call of the wheel's: it holds m, the list is as it was. -/
theorem Pl.to {m : List It} {z : Int} (h : Pl w a V l now A c) (ht : WheelTo w w' a a V m z) : ∃ V', WheelIs w' a a V' m z ∧ ReadsIt w' A l.length c l ∧ (∀ ad, A = some ad → 0 < l.length → ¬ wIn a V' ad.block) ∧ Mod (wIn a V) w w' := by
  obtain ⟨V', h1, h2, h3⟩ := ht
  refine ⟨V', h1, readsIt_mod h.rd h2 h.no, fun ad e h0 hh => ?_, h2⟩
  rcases h3 _ hh with h4 | h4
  · exact h.no ad e h0 h4
  · obtain ⟨ad', e', hb, _⟩ := h.rd.1.2 h0
    rw [e] at e'; cases e'
    omega
/-- A row of its own, laid since: what stands when it becomes the list. -/
theorem pl_new {m : List It} {B : Nat} (h : WheelIs w' a a V m now) (ho : w'.ownsRow B 31 2 (.slice A m.length c) m.length (itShape.flat m)) (hB : ∀ g, wIn a V g → g < B) : Pl w' a V m now A c := by
  refine ⟨h, own_it ho, fun ad e h0 hh => ?_⟩
  rcases ho.2 with ⟨e1, e2⟩ | ⟨g, cap, cur, e1, hb, _⟩
  · omega
  · rw [e] at e1
    cases e1
    have := hB g hh
    omega
/-- A row of its own laid between: neither the wheel's old blocks, nor its new ones. -/
theorem pl_between {V' : Nat → Value} {m : List It} {B H : Nat} (h : WheelIs w' a a V' m now) (ho : w'.ownsRow B 31 2 (.slice A m.length c) m.length (itShape.flat m)) (hH : ∀ g, (Value.slice A m.length c).ownBlock = some g → g < H) (hV : ∀ g, wIn a V' g → g < B ∨ H ≤ g) : Pl w' a V' m now A c := by
  refine ⟨h, own_it ho, fun ad e h0 hh => ?_⟩
  have h1 := hH ad.block (by rw [e]; rfl)
  have h2 := (ho.lt ad.block (by rw [e]; rfl)).1
  rcases hV _ hh with h3 | h3 <;> omega
theorem dueN_len (z : Int) (l : List It) : (l.take (dueN z l)).length = dueN z l := by rw [List.length_take]; exact Nat.min_eq_left (dueN_le z l)
/-- The list behind what is due. -/
theorem readsIt_drop {n k : Nat} (h : ReadsIt w A n c l) (hk : k ≤ n) : ReadsIt w (A.map fun ad => ad.add (k * 2)) (n - k) (c - k) (l.drop k) := by
  have hd : itShape.flat (l.drop k) = (itShape.flat l).drop (k * 2) := by
    have h1 : itShape.flat l = itShape.flat (l.take k) ++ itShape.flat (l.drop k) := by
      conv => lhs; rw [← List.take_append_drop k l]
      unfold Shape.flat; rw [List.flatMap_append]
    have h2 : (itShape.flat (l.take k)).length = k * 2 := by rw [itShape.flat_len, List.length_take, h.2.1, Nat.min_eq_left hk]; rfl
    rw [h1]
    exact (List.drop_left' h2).symm
  refine ⟨⟨by rw [itShape.flat_len, List.length_drop, h.2.1]; rfl, fun h0 => ?_⟩, by rw [List.length_drop, h.2.1], by have := h.2.2.1; omega, by have := h.2.2.2; omega⟩
  obtain ⟨ad, e, hb, hc⟩ := h.1.2 (by omega)
  refine ⟨ad.add (k * 2), by rw [e]; rfl, by rw [block_of_add]; exact hb, fun j u hu => ?_⟩
  rw [hd, List.getElem?_drop] at hu
  rw [add_of_add]
  exact hc _ u hu
end
end Go.Proofs.Ytcpfekhpbjkgeaa
end
