/- TreeNews. -/
import Derived.Test.YtdkijmiflommeaaTreeH
set_option linter.unusedVariables false
namespace Go.Proofs.Ytdkijmiflommeaa
open Go.RowKit
set_option maxHeartbeats 4000000
set_option maxRecDepth 100000
theorem lit_reads {w : World} {g : Nat} {T : TypeId} {xs : List Value} (h : Blk w g T ⟨xs⟩) (size n : Nat) (hl : xs.length = n * size) : Reads w w.heap.size size (some ⟨g, 0, none⟩) n xs :=
  ⟨hl, fun _ => ⟨_, rfl, h.lt, fun j u hu => by
    have e : (⟨g, 0, none⟩ : Addr).add j = ⟨g, j, none⟩ := by unfold Addr.add; split <;> simp_all
    rw [e, h.cell j]
    simpa using hu⟩⟩
theorem tree_Len (b : Nat) (l : List Nd) (w : World) (h : TreeAt w b l) : Calls Try.prog 21 #[.pointer (some ⟨b, 0, none⟩)] w fun e w' => e = .returned (.int .i64 (l.length : Int)) ∧ w = w' := by
  obtain ⟨vN, vK, vT, vH, ks, r, h⟩ := h
  obtain ⟨AN, cN, rfl⟩ := own_slice h.rN
  obtain ⟨c0, c1, c2, c3, _⟩ := h.blk.cells4
  go_enter Try.func21, Try.ntmps21
  go_wp2
  go_ret
  exact ⟨rfl, rfl⟩
def exNodes : List Nd := [⟨⟨#[108]⟩, 1, -1, 0, false, 0, 0⟩, ⟨⟨#[122]⟩, 2, 0, 0, false, 0, 0⟩, ⟨⟨#[104]⟩, 4, 1, 0, false, 0, 0⟩]
theorem ex0 : whyC (exNodes.getD 0 nd0) (exNodes.take 0) = 0 := by decide +kernel
theorem ex1 : whyC (exNodes.getD 1 nd0) (exNodes.take 1) = 0 := by decide +kernel
theorem ex2 : whyC (exNodes.getD 2 nd0) (exNodes.take 2) = 16 := by decide +kernel
theorem ex_wf : ∀ x ∈ exNodes, x.Wf := by
  intro x hx
  simp [exNodes] at hx
  rcases hx with rfl | rfl | rfl <;> constructor <;> decide
theorem law16_awake (w : World) : Calls Try.prog 20 #[] w fun e w' => e = .returned (.bool true) ∧ Below w.heap.size w w' := by
  go_enter Try.func20, Try.ntmps20
  go_wp2_with fail
  have hB := Blk.new w 34 ⟨flat exNodes⟩
  have hI : IsNodes (w.alloc (.cells ⟨flat exNodes⟩ 34)) (some ⟨w.heap.size, 0, none⟩) 3 3 exNodes := ⟨lit_reads hB 7 3 rfl, rfl, Nat.le_refl _, by decide, by decide, ex_wf⟩
  have hW : Below w.heap.size w (w.alloc (.cells ⟨flat exNodes⟩ 34)) := (Below.refl _ _).alloc (Nat.le_refl _) _
  refine (tree_New _ 3 3 exNodes _ hI).mono ?_
  rintro e w1 ⟨hN, hx⟩
  have hW1 := below_step hW hx
  rcases hN with ⟨kf, hkf, hok, hbad, rfl⟩ | ⟨hok, _⟩
  · have h2 : kf = 2 := by
      rcases (by omega : kf = 0 ∨ kf = 1 ∨ kf = 2) with rfl | rfl | rfl
      · exact absurd ex0 hbad
      · exact absurd ex1 hbad
      · rfl
    subst h2
    rw [ex2]
    clear hok hbad hI hB hx hkf hW
    go_wp2
    go_ret
    exact ⟨rfl, hW1⟩
  · have := hok 2 (by decide)
    unfold okAt at this
    rw [ex2] at this
    exact absurd this (by decide)
theorem treeNews_walk (w : World) (A : Option Addr) (n0 c : Nat) (l0 : List Nd) (hl0 : IsNodes w A n0 c l0) (s : ByteArray) (hs : s.size ≤ maxLen) :
    Calls Try.prog 3 #[.slice A n0 c, .string s] w fun e w' => e = .returned (.bool true) ∧ Below w.heap.size w w' := by
  have hl := hl0.cut (k := min n0 60) (by omega)
  have hF := fun w => law_Few A n0 c hl0.cap hl0.small w
  generalize min n0 60 = n at hl hF
  generalize l0.take n = l at hl
  clear hl0 l0
  have hcap := hl.cap
  have hsm := hl.small
  have hrc := hl.reach
  have hlen := Lib.hid hl.len
  have A1 := fun w => tree_Name s w hs
  have A2 := fun w => law_name s w hs
  generalize nameOk s = ns at A1 A2
  go_enter Try.func3, Try.ntmps3
  go_wp2_with fail
  refine (hF _).mono ?_; rintro e w' ⟨rfl, rfl⟩
  clear hF
  go_wp2_with fail
  refine (tree_New A n c l _ hl).mono ?_
  rintro e w1 ⟨hN, hx⟩
  have hl1 := hl.keep hx
  rcases hN with ⟨kf, hkf, hok, hbad, rfl⟩ | ⟨hok, b, hb, rfl, hT⟩
  · obtain ⟨E, hE⟩ : ∃ E, E = whyC (l.getD kf nd0) (l.take kf) := ⟨_, rfl⟩
    rw [← hE] at hbad ⊢
    have HE := Lib.hid hE
    have HOK := Lib.hid hok
    have HB := Lib.hid hbad
    clear hE hok hbad
    go_wp2_with fail
    refine (A1 _).mono ?_; rintro e w' ⟨rfl, rfl⟩
    go_wp2_with fail
    refine (A2 _).mono ?_; rintro e w' ⟨rfl, rfl⟩
    go_wp2_with fail
    go_loopg [8] n (fun gk s8 wr => ∃ i : Nat, i ≤ kf ∧ gk = n - i ∧ s8 = .int .i64 i ∧ Below w.heap.size w wr)
    case atStart => exact ⟨0, Nat.zero_le _, rfl, rfl, hx⟩
    case round =>
      clear hx hl1
      obtain ⟨i, hi, rfl, rfl, hW⟩ := hrel
      have hin : i < n := by omega
      obtain ⟨ad, rfl, hbk, d0, d1, d2, d3, d4, d5, d6⟩ := (hl.keep hW).at_ hin
      have hki : (i : Int) < (n : Int) := by omega
      have hkc : (i : Int) ≤ (c : Int) := by omega
      have hk0 : (0 : Int) ≤ (i : Int) := by omega
      have hxw := hl.wfd i
      obtain ⟨x, hxx⟩ : ∃ x, x = l.getD i nd0 := ⟨_, rfl⟩
      rw [← hxx] at d0 d1 d2 d3 d4 d5 d6 hxw
      have HX := Lib.hid hxx
      clear hxx
      have hl2 := (hl.keep hW).cut (k := i) (by omega)
      have U0 := cell_under d0
      have U1 := cell_under d1
      have U2 := cell_under d2
      have U3 := cell_under d3
      have U4 := cell_under d4
      have U5 := cell_under d5
      have U6 := cell_under d6
      clear d0 d1 d2 d3 d4 d5 d6
      go_wp2_with fail
      refine wp_region_quiet_under (by kernel_rfl) (by kernel_rfl) ?_
      repeat (go_big_quiet_step (((go_at_call 19; exact calls_under (law_why x hxw (some ad) i c (l.take i) _ (hl2.keep (under_below _ _)))))))
      refine wpQuiet_nil ?_
      intro wu hw'
      obtain ⟨pq, hw''⟩ := hw'
      have hU := below_eq hw''
      clear hw'' pq
      have hW2 := below_step hW hU
      clear U0 U1 U2 U3 U4 U5 U6 hU hW hl2
      by_cases hik : i = kf
      · subst hik
        have e1 : whyC x (l.take i) = E := by rw [HE.out, HX.out]
        rw [e1]
        have g1 : (E != 0) = true := by simpa using HB.out
        clear e1
        go_wp2_with fail
        refine (law16_awake _).mono ?_; rintro e w9 ⟨rfl, hx9⟩
        go_wp2
        go_ret
        exact ⟨by simp, below_step hW2 hx9⟩
      · have e1 : whyC x (l.take i) = 0 := by rw [HX.out]; exact HOK.out i (by omega)
        rw [e1]
        clear e1
        go_wp2
        go_roundg (n - (i + 1))
        case measure => omega
        case rel => exact ⟨i + 1, by omega, rfl, by go_num, hW2⟩
  · have HOK := Lib.hid hok
    clear hok
    go_wp2_with fail
    refine (A1 _).mono ?_; rintro e w' ⟨rfl, rfl⟩
    go_wp2_with fail
    refine (A2 _).mono ?_; rintro e w' ⟨rfl, rfl⟩
    go_wp2_with fail
    go_loopg [8] n (fun gk s8 wr => ∃ i : Nat, i ≤ n ∧ gk = n - i ∧ s8 = .int .i64 i ∧ TreeAt wr b l ∧ Below w.heap.size w wr)
    case atStart => exact ⟨0, Nat.zero_le _, rfl, rfl, hT, hx⟩
    case round =>
      clear hx hl1 hT
      obtain ⟨i, hi, rfl, rfl, hT, hW⟩ := hrel
      by_cases hin : i < n
      · obtain ⟨ad, rfl, hbk, d0, d1, d2, d3, d4, d5, d6⟩ := (hl.keep hW).at_ hin
        have hki : (i : Int) < (n : Int) := by omega
        have hkc : (i : Int) ≤ (c : Int) := by omega
        have hk0 : (0 : Int) ≤ (i : Int) := by omega
        have hxw := hl.wfd i
        obtain ⟨x, hxx⟩ : ∃ x, x = l.getD i nd0 := ⟨_, rfl⟩
        rw [← hxx] at d0 d1 d2 d3 d4 d5 d6 hxw
        have HX := Lib.hid hxx
        clear hxx
        have hl2 := (hl.keep hW).cut (k := i) (by omega)
        have U0 := cell_under d0
        have U1 := cell_under d1
        have U2 := cell_under d2
        have U3 := cell_under d3
        have U4 := cell_under d4
        have U5 := cell_under d5
        have U6 := cell_under d6
        clear d0 d1 d2 d3 d4 d5 d6
        go_wp2_with fail
        refine wp_region_quiet_under (by kernel_rfl) (by kernel_rfl) ?_
        repeat (go_big_quiet_step (((go_at_call 19; exact calls_under (law_why x hxw (some ad) i c (l.take i) _ (hl2.keep (under_below _ _)))))))
        refine wpQuiet_nil ?_
        intro wu hw'
        obtain ⟨pq, hw''⟩ := hw'
        have hU := below_eq hw''
        clear hw'' pq
        have hW2 := below_step hW hU
        have hT2 := hT.keep hU
        clear U0 U1 U2 U3 U4 U5 U6 hU hW hl2 hT
        have e1 : whyC x (l.take i) = 0 := by rw [HX.out]; exact HOK.out i hin
        rw [e1]
        clear e1
        go_wp2
        go_roundg (n - (i + 1))
        case measure => omega
        case rel => exact ⟨i + 1, by omega, rfl, by go_num, hT2, hW2⟩
      · obtain rfl : i = n := by omega
        have L1 := fun w h => tree_Len b l w h
        rw [hlen.out] at L1
        go_wp2_with fail
        refine (L1 _ hT).mono ?_; rintro e w' ⟨rfl, rfl⟩
        go_wp2_with fail
        refine (law16_awake _).mono ?_; rintro e w9 ⟨rfl, hx9⟩
        go_wp2
        go_ret
        exact ⟨by simp, below_step hW hx9⟩
end Go.Proofs.Ytdkijmiflommeaa
