/- Lemmas for the claim's proof: WheelI. -/
import Derived.Test.YtcpfekhpbjkgeaaQ10
section
/- WheelParts. -/
set_option linter.unusedVariables false
namespace Go.Proofs.Ytcpfekhpbjkgeaa
open Go.RowKit
set_option maxHeartbeats 8000000
set_option maxRecDepth 100000
def toIt (p : Int × Int) : It := ⟨p.1, p.2⟩
theorem pairs_it {w : World} {A : Option Addr} {n c : Nat} {l : List (Int × Int)} (h : IsPairs w .i64 .i64 A n c l) : ReadsIt w A n c (l.map toIt) ∧ ∀ x ∈ l.map toIt, itShape.Wf x := by
  refine ⟨⟨⟨by rw [itShape.flat_len, List.length_map, h.len]; rfl, fun hn => ?_⟩, by rw [List.length_map, h.len], h.cap, h.small⟩, fun x hx => ?_⟩
  · obtain ⟨ad, e, hb, hc⟩ := h.cells hn
    refine ⟨ad, e, hb, fun j u hu => ?_⟩
    obtain ⟨e1, e2⟩ := itShape.split j
    rw [e1, itShape.flat_at _ _ _ e2, List.getElem?_map] at hu
    obtain ⟨y, hy, hu⟩ := Option.bind_eq_some_iff.1 hu
    obtain ⟨p, hp, rfl⟩ := Option.map_eq_some_iff.1 hy
    have hcp := hc _ p hp
    have hs : itShape.size = 2 := rfl
    rw [e1]
    rw [hs] at e2 hu ⊢
    rcases (show j % 2 = 0 ∨ j % 2 = 1 by omega) with h0 | h0
    · rw [h0] at hu ⊢
      cases hu
      exact hcp.1
    · rw [h0] at hu ⊢
      cases hu
      exact hcp.2
  · obtain ⟨p, hp, rfl⟩ := List.mem_map.1 hx
    have := h.wf p hp
    exact ⟨i64_of_wf this.1, i64_of_wf this.2⟩
theorem ReadsIt.cut {w : World} {A : Option Addr} {n c : Nat} {l : List It} (h : ReadsIt w A n c l) {k : Nat} (hk : k ≤ n) : ReadsIt w A k c (l.take k) :=
  ⟨itShape.flat_take l k ▸ h.1.take hk, by rw [List.length_take, h.2.1]; omega, Nat.le_trans hk h.2.2.1, h.2.2.2⟩
theorem list_at {w : World} {A : Option Addr} {n c : Nat} {l : List Int} (h : IsList w .i64 A n c l) {k : Nat} (hk : k < n) : ∃ ad, A = some ad ∧ ad.block < w.heap.size ∧ w.cell? (ad.add k) = some (.int .i64 (l.getD k 0)) ∧ I64 (l.getD k 0) := by
  obtain ⟨ad, e, hb, hc⟩ := h.reads.2 (by omega)
  have e2 : l[k]? = some (l.getD k 0) := by rw [List.getD_eq_getElem?_getD, List.getElem?_eq_getElem (by rw [h.len]; exact hk)]; rfl
  exact ⟨ad, e, hb, hc k _ (by rw [List.getElem?_map, e2]; rfl), i64_of_wf (h.wf _ (List.mem_of_getElem? e2))⟩
theorem wf_at {l : List It} (h : ∀ x ∈ l, itShape.Wf x) {i : Nat} (hi : i < l.length) : itShape.Wf (l.getD i default) := h _ (by
  have e : l[i]? = some (l.getD i default) := by rw [List.getD_eq_getElem?_getD, List.getElem?_eq_getElem hi]; rfl
  exact List.mem_of_getElem? e)
theorem WheelIs.due0 {w : World} {B b : Nat} {V : Nat → Value} {l : List It} {now : Int} (h : WheelIs w B b V l now) : dueN now l = 0 := by
  obtain ⟨S, _, hOK, hPe⟩ := h.ex
  cases l with
  | nil => rfl
  | cons x l =>
    obtain ⟨k, hk, hx⟩ := mem_allOf.1 (hPe.subset List.mem_cons_self)
    have := (hOK k hk x hx).2.1
    rw [dueN, if_neg (by omega)]
theorem wheelParts_walk (w : World) (A : Option Addr) (n c : Nat) (pl : List (Int × Int)) (hp : IsPairs w .i64 .i64 A n c pl) (A2 : Option Addr) (n2 c2 : Nat) (ss : List Int) (hs : IsList w .i64 A2 n2 c2 ss) :
    Calls Try.prog 3 #[.slice A n c, .slice A2 n2 c2] w fun e w' => e = .returned (.bool true) ∧ Below w.heap.size w w' := by
  obtain ⟨iI, hiI, hzI, hzI1, hzI2⟩ := info_parts Try.infoItem
  obtain ⟨hR0, hF0⟩ := pairs_it hp
  generalize pl.map toIt = l0 at *
  have hcap := hR0.2.2.1
  have hsm := hR0.2.2.2
  have hcap2 := hs.cap
  have hsm2 := hs.small
  clear hp
  go_enter Try.func3, Try.ntmps3
  go_upto_if 16 with (fail)
  go_cut [0] (fun s wx => w = wx ∧ ∃ (n' : Nat) (l : List It), s = .slice A n' c ∧ n' ≤ 40 ∧ ReadsIt w A n' c l ∧ ∀ x ∈ l, itShape.Wf x)
  case first =>
    by_cases h : n ≤ 40
    · have h40 : decide ((40 : Int) < (n : Int)) = false := decide_eq_false (by omega)
      go_wp2_with fail
      go_meet
      exact ⟨rfl, n, l0, rfl, h, hR0, hF0⟩
    · have h40 : decide ((40 : Int) < (n : Int)) = true := decide_eq_true (by omega)
      have hc40 : 40 ≤ c := by omega
      go_wp2_with fail
      go_meet
      exact ⟨rfl, 40, l0.take 40, rfl, Nat.le_refl _, hR0.cut (by omega), fun x hx => hF0 x (List.mem_of_mem_take hx)⟩
  case rest =>
    obtain ⟨rfl, m, l, rfl, hm40, hR, hF⟩ := hcut
    clear hcap hsm hR0 hF0
    have hcap := hR.2.2.1
    have hsm := hR.2.2.2
    have HLN := Lib.hid hR.2.1
    have HF := Lib.hid hF
    clear hF
    go_upto_region 4 with (fail)
    have hA := ((Below.refl w.heap.size w).alloc (Nat.le_refl _) (.cells Try.zeroCells27 27)).alloc (by simp) (.cells Try.zeroCells27 27)
    have W0 := wheel_new (B := w.heap.size) ((Blk.new w 27 Try.zeroCells27).alloc (.cells Try.zeroCells27 27)) zero_wheel (Nat.le_refl _)
    have W1 := wheel_new (B := w.heap.size) (Blk.new (w.alloc (.cells Try.zeroCells27 27)) 27 Try.zeroCells27) zero_wheel (by simp)
    have hsz : (w.alloc (.cells Try.zeroCells27 27)).heap.size = w.heap.size + 1 := by simp
    rw [hsz] at W1
    clear hsz
    have hT : Two _ w.heap.size w.heap.size (w.heap.size + 1) _ _ [] [] 0 0 := ⟨W0, W1, fun g hg hh => by
      have h1 : g = w.heap.size := by rcases hg with h | ⟨k, _, h⟩; exact h; cases h
      have h2 : g = w.heap.size + 1 := by rcases hh with h | ⟨k, _, h⟩; exact h; cases h
      omega⟩
    clear W0 W1
    generalize (w.alloc (.cells Try.zeroCells27 27)).alloc (.cells Try.zeroCells27 27) = u at *
    obtain ⟨b, hb⟩ : ∃ b, b = w.heap.size + 1 := ⟨_, rfl⟩
    rw [← hb] at hT ⊢
    clear hb
    obtain ⟨a, ha⟩ : ∃ a, a = w.heap.size := ⟨_, rfl⟩
    rw [← ha] at hT ⊢
    have HA := Lib.hid ha
    clear ha
    go_wp2_with fail
    go_loopg [7] m (fun gk s7 wr => ∃ (i : Nat) (L : List It) (Va Vb : Nat → Value), s7 = .int .i64 i ∧ i ≤ m ∧ gk = m - i ∧ Hid (L = addAll (l.take i)) ∧ L.length ≤ i ∧ Two wr a a b Va Vb L L 0 0 ∧ Below w.heap.size w wr)
    case atStart => exact ⟨0, [], _, _, rfl, Nat.zero_le _, rfl, Lib.hid rfl, Nat.le_refl _, hT, hA⟩
    case round =>
      clear hT hA
      obtain ⟨i, L, Va, Vb, rfl, hi, rfl, HL, hLi, hT, hW⟩ := hrel
      by_cases him : i < m
      · have hii : (i : Int) < (m : Int) := by omega
        have hXw := wf_at HF.out (i := i) (by rw [HLN.out]; exact him)
        have HST := Lib.hid (show addL 0 L (l.getD i default) = addAll (l.take (i + 1)) by rw [addAll_step (by rw [HLN.out]; exact him), HL.out])
        have HSL := Lib.hid (addL_len 0 L (l.getD i default))
        obtain ⟨ad, rfl, hadb, _, _⟩ := hR.at_ him
        obtain ⟨ad', e, _, d0, d1⟩ := (hR.keep hW).at_ him
        cases e
        obtain ⟨X, hX⟩ : ∃ X, X = l.getD i default := ⟨_, rfl⟩
        rw [← hX] at hXw HST HSL d0 d1
        clear hX
        obtain ⟨X1, X2⟩ := X
        dsimp only at d0 d1
        have hBw : a ≤ wr.heap.size := by rw [HA.out]; exact hW.size
        have hnoA : ∀ (V : Nat → Value) (w' : World) (l : List It) (z : Int), WheelIs w' a a V l z → ¬ wIn a V ad.block := fun V w' l z h hh => by have := (h.lt hh).1; have := HA.out; omega
        have hnoB : ∀ (V : Nat → Value) (w' : World) (l : List It) (z : Int), WheelIs w' a b V l z → ¬ wIn b V ad.block := fun V w' l z h hh => by have := (h.lt hh).1; have := HA.out; omega
        have HNB := Lib.hid (show (ad.add (i * 2)).block = ad.block from block_of_add _ _)
        obtain ⟨E, hE⟩ : ∃ E, E = addE 0 ⟨X1, X2⟩ := ⟨_, rfl⟩
        obtain ⟨L2, hL2⟩ : ∃ L2, L2 = addL 0 L ⟨X1, X2⟩ := ⟨_, rfl⟩
        have CA := fun (V : Nat → Value) (w' : World) (h : WheelIs w' a a V L 0) => wheel_Add h ⟨X1, X2⟩ hXw (by omega)
        have CB := fun (V : Nat → Value) (w' : World) (h : WheelIs w' a b V L 0) => wheel_Add h ⟨X1, X2⟩ hXw (by omega)
        rw [← hE, ← hL2] at CA CB
        rw [← hL2] at HST HSL
        have gE : (E != E) = false := by simp
        have hT2 : Two wr.drew a a b Va Vb L L 0 0 := hT.keep (Below.drew (Below.refl _ _))
        have hWX : Below w.heap.size w wr.drew := hW.drew
        have hBx : a ≤ wr.drew.heap.size := hBw
        clear hE hL2 hT hW hXw
        go_upto_region 7 with (fail)
        refine wp_region_noPanic ?_
        refine wp_region_held_drew (S := (fun w' => w'.cell? (ad.add (i * 2)) = some (.int .i64 X1) ∧ w'.cell? ⟨(ad.add (i * 2)).block, (ad.add (i * 2)).off + 1, none⟩ = some (.int .i64 X2))) (by kernel_rfl) (show wr.drew.cell? (ad.add (i * 2)) = some (.int .i64 X1) ∧ wr.drew.cell? ⟨(ad.add (i * 2)).block, (ad.add (i * 2)).off + 1, none⟩ = some (.int .i64 X2) from ⟨d0, d1⟩) (fun hHeld => ?_)
        refine take_one (i := 0) (oi := ?oi_1) (v := ?v_1) ?hi_1 (by kernel_rfl) (by kernel_rfl) (by kernel_rfl) ?hq_1 ?hw_1 ?hy_1 (by assumption) ?rest_1
        case hi_1 => (simp only [List.getElem?_toArray, List.getElem?_cons_zero]; rfl)
        case hq_1 => exact fun _ _ _ h => h
        case hw_1 => rfl
        case hy_1 => (intro w' hSw; (have u1 := hSw.1; have u2 := hSw.2); go_simp; first | done | with_reducible rfl)
        try simp only [Act.put, List.setIfInBounds_toArray, List.set_cons_zero, List.set_cons_succ]
        refine take_one (i := 1) (oi := ?oi_2) (v := ?v_2) ?hi_2 (by kernel_rfl) (by kernel_rfl) (by kernel_rfl) ?hq_2 ?hw_2 ?hy_2 (by assumption) ?rest_2
        case hi_2 => (simp only [List.getElem?_toArray, List.getElem?_cons_succ, List.getElem?_cons_zero]; rfl)
        case hq_2 => exact fun _ _ _ h => h
        case hw_2 => rfl
        case hy_2 => (intro w' hSw; (have u1 := hSw.1; have u2 := hSw.2); go_simp; first | done | with_reducible rfl)
        try simp only [Act.put, List.setIfInBounds_toArray, List.set_cons_zero, List.set_cons_succ]
        refine take_one (i := 2) (oi := ?oi_3) (v := ?v_3) ?hi_3 (by kernel_rfl) (by kernel_rfl) (by kernel_rfl) ?hq_3 ?hw_3 ?hy_3 (by assumption) ?rest_3
        case hi_3 => (simp only [List.getElem?_toArray, List.getElem?_cons_succ, List.getElem?_cons_zero]; rfl)
        case hq_3 => exact fun _ _ _ h => h
        case hw_3 => rfl
        case hy_3 => (intro w' hSw; (have u1 := hSw.1; have u2 := hSw.2); go_simp; first | done | with_reducible rfl)
        try simp only [Act.put, List.setIfInBounds_toArray, List.set_cons_zero, List.set_cons_succ]
        refine take_one (i := 3) (oi := ?oi_4) (v := ?v_4) ?hi_4 (by kernel_rfl) (by kernel_rfl) (by kernel_rfl) ?hq_4 ?hw_4 ?hy_4 (by assumption) ?rest_4
        case hi_4 => (simp only [List.getElem?_toArray, List.getElem?_cons_succ, List.getElem?_cons_zero]; rfl)
        case hq_4 => exact fun _ _ _ h => h
        case hw_4 => rfl
        case hy_4 => (intro w' hSw; (have u1 := hSw.1; have u2 := hSw.2); go_simp; first | done | with_reducible rfl)
        try simp only [Act.put, List.setIfInBounds_toArray, List.set_cons_zero, List.set_cons_succ]
        refine take_one (i := 4) (oi := ?oi_5) (v := ?v_5) ?hi_5 (by kernel_rfl) (by kernel_rfl) (by kernel_rfl) ?hq_5 ?hw_5 ?hy_5 (by assumption) ?rest_5
        case hi_5 => (simp only [List.getElem?_toArray, List.getElem?_cons_succ, List.getElem?_cons_zero]; rfl)
        case hq_5 => exact fun _ _ _ h => h
        case hw_5 => rfl
        case hy_5 => (intro w' hSw; (have u1 := hSw.1; have u2 := hSw.2); go_simp; first | done | with_reducible rfl)
        try simp only [Act.put, List.setIfInBounds_toArray, List.set_cons_zero, List.set_cons_succ]
        refine take_one (i := 6) (oi := ?oi_6) (v := ?v_6) ?hi_6 (by kernel_rfl) (by kernel_rfl) (by kernel_rfl) ?hq_6 ?hw_6 ?hy_6 (by assumption) ?rest_6
        case hi_6 => (simp only [List.getElem?_toArray, List.getElem?_cons_succ, List.getElem?_cons_zero]; rfl)
        case hq_6 => exact fun _ _ _ h => h
        case hw_6 => rfl
        case hy_6 => (intro w' hSw; (have u1 := hSw.1; have u2 := hSw.2); go_simp; first | done | with_reducible rfl)
        try simp only [Act.put, List.setIfInBounds_toArray, List.set_cons_zero, List.set_cons_succ]
        refine take_one (i := 7) (oi := ?oi_7) (v := ?v_7) ?hi_7 (by kernel_rfl) (by kernel_rfl) (by kernel_rfl) ?hq_7 ?hw_7 ?hy_7 (by assumption) ?rest_7
        case hi_7 => (simp only [List.getElem?_toArray, List.getElem?_cons_succ, List.getElem?_cons_zero]; rfl)
        case hq_7 => exact fun _ _ _ h => h
        case hw_7 => rfl
        case hy_7 => (intro w' hSw; (have u1 := hSw.1; have u2 := hSw.2); go_simp; first | done | with_reducible rfl)
        try simp only [Act.put, List.setIfInBounds_toArray, List.set_cons_zero, List.set_cons_succ]
        refine take_one (i := 8) (oi := ?oi_8) (v := ?v_8) ?hi_8 (by kernel_rfl) (by kernel_rfl) (by kernel_rfl) ?hq_8 ?hw_8 ?hy_8 (by assumption) ?rest_8
        case hi_8 => (simp only [List.getElem?_toArray, List.getElem?_cons_succ, List.getElem?_cons_zero]; rfl)
        case hq_8 => exact fun _ _ _ h => h
        case hw_8 => rfl
        case hy_8 => (intro w' hSw; (have u1 := hSw.1; have u2 := hSw.2); go_simp; first | done | with_reducible rfl)
        try simp only [Act.put, List.setIfInBounds_toArray, List.set_cons_zero, List.set_cons_succ]
        refine take_one (i := 9) (oi := ?oi_9) (v := ?v_9) ?hi_9 (by kernel_rfl) (by kernel_rfl) (by kernel_rfl) ?hq_9 ?hw_9 ?hy_9 (by assumption) ?rest_9
        case hi_9 => (simp only [List.getElem?_toArray, List.getElem?_cons_succ, List.getElem?_cons_zero]; rfl)
        case hq_9 => exact fun _ _ _ h => h
        case hw_9 => rfl
        case hy_9 => (intro w' hSw; (have u1 := hSw.1; have u2 := hSw.2); go_simp; first | done | with_reducible rfl)
        try simp only [Act.put, List.setIfInBounds_toArray, List.set_cons_zero, List.set_cons_succ]
        refine take_one (i := 10) (oi := ?oi_10) (v := ?v_10) ?hi_10 (by kernel_rfl) (by kernel_rfl) (by kernel_rfl) ?hq_10 ?hw_10 ?hy_10 (by assumption) ?rest_10
        case hi_10 => (simp only [List.getElem?_toArray, List.getElem?_cons_succ, List.getElem?_cons_zero]; rfl)
        case hq_10 => exact fun _ _ _ h => h
        case hw_10 => rfl
        case hy_10 => (intro w' hSw; (have u1 := hSw.1; have u2 := hSw.2); go_simp; first | done | with_reducible rfl)
        try simp only [Act.put, List.setIfInBounds_toArray, List.set_cons_zero, List.set_cons_succ]
        generalize wr.drew = vx0 at *
        refine wpAnyH_ready (rs := [5]) (by kernel_rfl) (by simp) ?_
        refine AllReadyH.cons (i := 5) (o := ?o_11_5) ?h_11_5 (fun K hK => ?_) AllReadyH.nil
        case h_11_5 => (simp only [List.getElem?_toArray, List.getElem?_cons_succ, List.getElem?_cons_zero]; rfl)
        go_simp
        go_at_call 13
        refine (CA Va (vx0) hT2.wa).mono ?_
        rintro e vx12 ⟨rfl, hTo⟩
        try dsimp only
        obtain ⟨Va2, hT3, hM3, _⟩ := hT2.toA hTo
        refine hK.out _ _ ⟨cell_mod hHeld.1 hM3 (by rw [HNB.out]; exact hnoA Va _ _ _ hT2.wa), cell_mod hHeld.2 hM3 (by show ¬ wIn a Va (ad.add (i * 2)).block; rw [HNB.out]; exact hnoA Va _ _ _ hT2.wa)⟩ (fun hHeld => ?_)
        clear hK K
        try simp only [Act.put, List.setIfInBounds_toArray, List.set_cons_zero, List.set_cons_succ]
        have hWX := hWX.trans ((hT2.below hBx hM3 (fun g hg => .inl hg)).mono (Nat.le_of_eq HA.out.symm))
        have hBx := Nat.le_trans hBx hM3.size
        refine wpAnyH_ready (rs := [11]) (by kernel_rfl) (by simp) ?_
        refine AllReadyH.cons (i := 11) (o := ?o_13_11) ?h_13_11 (fun K hK => ?_) AllReadyH.nil
        case h_13_11 => (simp only [List.getElem?_toArray, List.getElem?_cons_succ, List.getElem?_cons_zero]; rfl)
        go_simp
        go_at_call 13
        refine (CB Vb (vx12) hT3.wb).mono ?_
        rintro e vx14 ⟨rfl, hTo⟩
        try dsimp only
        obtain ⟨Vb2, hT4, hM4, _⟩ := hT3.toB hTo
        refine hK.out _ _ ⟨cell_mod hHeld.1 hM4 (by rw [HNB.out]; exact hnoB Vb _ _ _ hT3.wb), cell_mod hHeld.2 hM4 (by show ¬ wIn b Vb (ad.add (i * 2)).block; rw [HNB.out]; exact hnoB Vb _ _ _ hT3.wb)⟩ (fun hHeld => ?_)
        clear hK K
        try simp only [Act.put, List.setIfInBounds_toArray, List.set_cons_zero, List.set_cons_succ]
        have hWX := hWX.trans ((hT3.below hBx hM4 (fun g hg => .inr hg)).mono (Nat.le_of_eq HA.out.symm))
        refine wpAnyH_ready (rs := [12]) (by kernel_rfl) (by simp) ?_
        refine AllReadyH.cons (i := 12) (o := ?o_15_12) ?h_15_12 (fun K hK => ?_) AllReadyH.nil
        case h_15_12 => (simp only [List.getElem?_toArray, List.getElem?_cons_succ, List.getElem?_cons_zero]; rfl)
        go_simp
        refine hK.out _ _ hHeld (fun hHeld => ?_)
        clear hK K
        try simp only [Act.put, List.setIfInBounds_toArray, List.set_cons_zero, List.set_cons_succ]
        refine wpAnyH_done (by kernel_rfl) (NoPanic.normal ?_) _
        clear hHeld hT2 hT3 hM3 hM4 CA CB d0 d1
        go_wp2
        go_roundg (m - (i + 1))
        case measure => omega
        case rel => exact ⟨i + 1, L2, _, _, by go_num, by omega, rfl, Lib.hid HST.out, by have := HSL.out; omega, hT4, hWX⟩
      · obtain rfl : i = m := by omega
        have hge : ¬ (i : Int) < (i : Int) := by omega
        have hL40 : L.length ≤ 40 := by omega
        have hd0 := hT.wa.due0
        clear HL hLi
        go_wp2_with fail
        clear hge
        go_loopg [8, 9, 10, 11] n2 (fun gk s8 s9 s10 s11 wr => ∃ (k : Nat) (z : Int) (Va Vb : Nat → Value) (gl LR : List It), s9 = .int .i64 k ∧ k ≤ n2 ∧ gk = n2 - k ∧ 0 ≤ z ∧ z ≤ 1099511627776 ∧ Hid (gl = L.take (dueN z L) ∧ LR = L.drop (dueN z L)) ∧ LR.length ≤ 40 ∧ gl.length ≤ 40 ∧ wr.ownsRow w.heap.size 31 2 s8 gl.length (itShape.flat gl) ∧ Two wr a a b Va Vb LR L z 0 ∧ Hid (∀ g, s8.ownBlock = some g → ¬ wIn a Va g ∧ ¬ wIn b Vb g) ∧ Below w.heap.size w wr)
        case atStart => exact ⟨0, 0, Va, Vb, [], L, rfl, Nat.zero_le _, rfl, Int.le_refl _, by decide, Lib.hid ⟨by rw [hd0]; rfl, by rw [hd0]; rfl⟩, hL40, by simp, World.ownsRow_nil _ _ _ 2, hT, Lib.hid (fun g hg => by cases hg), hW⟩
        case round =>
          clear hT hW hd0
          obtain ⟨k, z, Va, Vb, gl, LR, rfl, hk, rfl, hz0, hz1, HGL, hLR, hgl, hG, hT, HN, hW⟩ := hrel
          obtain ⟨Ag, cg, rfl⟩ := own_sl hG
          go_upto_region 11 with (fail)
          go_cut [49] (fun q wx => wr = wx ∧ q = .bool (decide (k < n2 ∧ k < 40)))
          case first =>
            by_cases h1 : k < n2
            · have e1 : decide ((k : Int) < (n2 : Int)) = true := decide_eq_true (by omega)
              by_cases h2 : k < 40
              · have e2 : decide ((k : Int) < 40) = true := decide_eq_true (by omega)
                have HD := Lib.hid (show decide (k < n2 ∧ k < 40) = true from decide_eq_true ⟨h1, h2⟩)
                generalize decide (k < n2 ∧ k < 40) = D at *
                go_wp2_with fail
                go_meet
                exact ⟨rfl, by rw [HD.out]⟩
              · have e2 : decide ((k : Int) < 40) = false := decide_eq_false (by omega)
                have HD := Lib.hid (show decide (k < n2 ∧ k < 40) = false from decide_eq_false (fun h => h2 h.2))
                generalize decide (k < n2 ∧ k < 40) = D at *
                go_wp2_with fail
                go_meet
                exact ⟨rfl, by rw [HD.out]⟩
            · have e1 : decide ((k : Int) < (n2 : Int)) = false := decide_eq_false (by omega)
              have HD := Lib.hid (show decide (k < n2 ∧ k < 40) = false from decide_eq_false (fun h => h1 h.1))
              generalize decide (k < n2 ∧ k < 40) = D at *
              go_wp2_with fail
              go_meet
              exact ⟨rfl, by rw [HD.out]⟩
          case rest =>
          obtain ⟨rfl, rfl⟩ := hcut
          have HD := Lib.hid (fun h : decide (k < n2 ∧ k < 40) = true => of_decide_eq_true h)
          generalize decide (k < n2 ∧ k < 40) = D at *
          cases D with
          | true =>
            obtain ⟨hkn, _⟩ := HD.out rfl
            have hkk : (k : Int) < (n2 : Int) := by omega
            obtain ⟨ad2, rfl, hadb, d0, hI6⟩ := list_at hs hkn
            have d0 := cell_keep d0 hW
            generalize ss.getD k 0 = q at *
            have U0 := cell_under d0
            have CN := fun p => wheel_Now (hT.wa.keep (under_below wr p))
            have wz : IntKind.i64.wrap (1099511627776 - z) = 1099511627776 - z := by rw [IntKind.wrap_i64]; omega
            go_upto_region 13 with (fail)
            by_cases hq0 : q < 0
            · skip
              refine wp_region_quiet_under (by kernel_rfl) (by kernel_rfl) ?_
              repeat (go_big_quiet_step (((go_at_call 14; exact calls_under_same (CN _)))))
              refine wpQuiet_nil ?_
              intro wu hw'
              obtain ⟨pq, hw''⟩ := hw'
              have hU := below_eq hw''
              clear hw'' pq
              have hT3 := hT.keep hU
              have hW3 := below_step hW hU
              have hG3 := ownR_keep hG hU
              clear hT hW hG hU U0 CN d0
              go_wp2
              go_roundg (n2 - (k + 1))
              case measure => omega
              case rel => exact ⟨k + 1, z, Va, Vb, gl, LR, by go_num, by omega, rfl, hz0, hz1, HGL, hLR, hgl, hG3, hT3, HN, hW3⟩
            · by_cases hq1 : 1099511627776 - z < q
              · skip
                refine wp_region_quiet_under (by kernel_rfl) (by kernel_rfl) ?_
                repeat (go_big_quiet_step (((go_at_call 14; exact calls_under_same (CN _)))))
                refine wpQuiet_nil ?_
                intro wu hw'
                obtain ⟨pq, hw''⟩ := hw'
                have hU := below_eq hw''
                clear hw'' pq
                have hT3 := hT.keep hU
                have hW3 := below_step hW hU
                have hG3 := ownR_keep hG hU
                clear hT hW hG hU U0 CN d0
                go_wp2
                go_roundg (n2 - (k + 1))
                case measure => omega
                case rel => exact ⟨k + 1, z, Va, Vb, gl, LR, by go_num, by omega, rfl, hz0, hz1, HGL, hLR, hgl, hG3, hT3, HN, hW3⟩
              · skip
                refine wp_region_quiet_under (by kernel_rfl) (by kernel_rfl) ?_
                repeat (go_big_quiet_step (((go_at_call 14; exact calls_under_same (CN _)))))
                refine wpQuiet_nil ?_
                intro wu hw'
                obtain ⟨pq, hw''⟩ := hw'
                have hU := below_eq hw''
                clear hw'' pq
                have hT3 := hT.keep hU
                have hW3 := below_step hW hU
                have hG3 := ownR_keep hG hU
                have d3 := cell_keep d0 hU
                clear hT hW hG hU U0 CN d0
                have hzq : z + q ≤ 1099511627776 := by omega
                have HP := Lib.hid (show gl ++ LR.take (dueN (z + q) LR) = L.take (dueN (z + q) L) by rw [HGL.out.1, HGL.out.2]; exact due_take (show z ≤ z + q by omega) L)
                have HQ := Lib.hid (show LR.drop (dueN (z + q) LR) = L.drop (dueN (z + q) L) by rw [HGL.out.2]; exact due_drop (show z ≤ z + q by omega) L)
                obtain ⟨zq, hzqe⟩ : ∃ zq, zq = z + q := ⟨_, rfl⟩
                have wzq : IntKind.i64.wrap (z + q) = zq := by rw [IntKind.wrap_i64, hzqe]; omega
                rw [← hzqe] at hzq HP HQ
                have CG := fun (w' : World) (h : WheelIs w' a a Va LR z) (h2 : a ≤ w'.heap.size) => wheel_Go h zq (by omega) hzq (by omega) h2
                have CN := fun (w' : World) (h : WheelIs w' a a Va LR z) => wheel_Now h
                have hT2 : Two wu.drew a a b Va Vb LR L z 0 := hT3.keep (Below.drew (Below.refl _ _))
                have hWX : Below w.heap.size w wu.drew := hW3.drew
                have hBx : a ≤ wu.drew.heap.size := by rw [HA.out]; exact hWX.size
                have hGX : wu.drew.ownsRow w.heap.size 31 2 (.slice Ag gl.length cg) gl.length (itShape.flat gl) := hG3
                have hno : ∀ (V : Nat → Value) (w' : World) (l : List It) (z : Int), WheelIs w' a a V l z → ¬ wIn a V (ad2.add k).block := fun V w' l z h hh => by rw [block_of_add] at hh; have := (h.lt hh).1; have := HA.out; omega
                have HZQ := Lib.hid hzqe
                have hz0q : 0 ≤ zq := by omega
                clear hT3 hW3 hG3 hzqe wz
                go_upto_region 14 with (fail)
                refine wp_region_noPanic ?_
                refine wp_region_held_drew (S := (fun w' => w'.cell? (ad2.add k) = some (.int .i64 q))) (by kernel_rfl) (show wu.drew.cell? (ad2.add k) = some (.int .i64 q) from d3) (fun hHeld => ?_)
                refine take_one (i := 0) (oi := ?oi_17) (v := ?v_17) ?hi_17 (by kernel_rfl) (by kernel_rfl) (by kernel_rfl) ?hq_17 ?hw_17 ?hy_17 (by assumption) ?rest_17
                case hi_17 => (simp only [List.getElem?_toArray, List.getElem?_cons_zero]; rfl)
                case hq_17 => exact fun _ _ _ h => h
                case hw_17 => rfl
                case hy_17 => (intro w' hSw; (have u1 := hSw); go_simp; first | done | with_reducible rfl)
                try simp only [Act.put, List.setIfInBounds_toArray, List.set_cons_zero, List.set_cons_succ]
                refine take_one (i := 1) (oi := ?oi_18) (v := ?v_18) ?hi_18 (by kernel_rfl) (by kernel_rfl) (by kernel_rfl) ?hq_18 ?hw_18 ?hy_18 (by assumption) ?rest_18
                case hi_18 => (simp only [List.getElem?_toArray, List.getElem?_cons_succ, List.getElem?_cons_zero]; rfl)
                case hq_18 => exact fun _ _ _ h => h
                case hw_18 => rfl
                case hy_18 => (intro w' hSw; (have u1 := hSw); go_simp; first | done | with_reducible rfl)
                try simp only [Act.put, List.setIfInBounds_toArray, List.set_cons_zero, List.set_cons_succ]
                refine take_one (i := 3) (oi := ?oi_19) (v := ?v_19) ?hi_19 (by kernel_rfl) (by kernel_rfl) (by kernel_rfl) ?hq_19 ?hw_19 ?hy_19 (by assumption) ?rest_19
                case hi_19 => (simp only [List.getElem?_toArray, List.getElem?_cons_succ, List.getElem?_cons_zero]; rfl)
                case hq_19 => exact fun _ _ _ h => h
                case hw_19 => rfl
                case hy_19 => (intro w' hSw; (have u1 := hSw); go_simp; first | done | with_reducible rfl)
                try simp only [Act.put, List.setIfInBounds_toArray, List.set_cons_zero, List.set_cons_succ]
                refine take_one (i := 4) (oi := ?oi_20) (v := ?v_20) ?hi_20 (by kernel_rfl) (by kernel_rfl) (by kernel_rfl) ?hq_20 ?hw_20 ?hy_20 (by assumption) ?rest_20
                case hi_20 => (simp only [List.getElem?_toArray, List.getElem?_cons_succ, List.getElem?_cons_zero]; rfl)
                case hq_20 => exact fun _ _ _ h => h
                case hw_20 => rfl
                case hy_20 => (intro w' hSw; (have u1 := hSw); go_simp; first | done | with_reducible rfl)
                try simp only [Act.put, List.setIfInBounds_toArray, List.set_cons_zero, List.set_cons_succ]
                refine take_one (i := 5) (oi := ?oi_21) (v := ?v_21) ?hi_21 (by kernel_rfl) (by kernel_rfl) (by kernel_rfl) ?hq_21 ?hw_21 ?hy_21 (by assumption) ?rest_21
                case hi_21 => (simp only [List.getElem?_toArray, List.getElem?_cons_succ, List.getElem?_cons_zero]; rfl)
                case hq_21 => exact fun _ _ _ h => h
                case hw_21 => rfl
                case hy_21 => (intro w' hSw; (have u1 := hSw); go_simp; first | done | with_reducible rfl)
                try simp only [Act.put, List.setIfInBounds_toArray, List.set_cons_zero, List.set_cons_succ]
                refine take_one (i := 6) (oi := ?oi_22) (v := ?v_22) ?hi_22 (by kernel_rfl) (by kernel_rfl) (by kernel_rfl) ?hq_22 ?hw_22 ?hy_22 (by assumption) ?rest_22
                case hi_22 => (simp only [List.getElem?_toArray, List.getElem?_cons_succ, List.getElem?_cons_zero]; rfl)
                case hq_22 => exact fun _ _ _ h => h
                case hw_22 => rfl
                case hy_22 => (intro w' hSw; (have u1 := hSw); go_simp; first | done | with_reducible rfl)
                try simp only [Act.put, List.setIfInBounds_toArray, List.set_cons_zero, List.set_cons_succ]
                generalize wu.drew = vx0 at *
                refine wpAnyH_ready (rs := [2]) (by kernel_rfl) (by simp) ?_
                refine AllReadyH.cons (i := 2) (o := ?o_23_2) ?h_23_2 (fun K hK => ?_) AllReadyH.nil
                case h_23_2 => (simp only [List.getElem?_toArray, List.getElem?_cons_succ, List.getElem?_cons_zero]; rfl)
                go_simp
                go_at_call 14
                refine (CN (vx0) hT2.wa).mono ?_
                rintro e vx24 ⟨rfl, hvx24⟩
                try dsimp only
                refine hK.out _ _ (hvx24 ▸ hHeld) (fun hHeld => ?_)
                clear hK K
                try simp only [Act.put, List.setIfInBounds_toArray, List.set_cons_zero, List.set_cons_succ]
                have hvx242 := hvx24.symm
                clear hvx24
                subst hvx242
                refine take_one (i := 7) (oi := ?oi_25) (v := ?v_25) ?hi_25 (by kernel_rfl) (by kernel_rfl) (by kernel_rfl) ?hq_25 ?hw_25 ?hy_25 (by assumption) ?rest_25
                case hi_25 => (simp only [List.getElem?_toArray, List.getElem?_cons_succ, List.getElem?_cons_zero]; rfl)
                case hq_25 => exact fun _ _ _ h => h
                case hw_25 => rfl
                case hy_25 => (intro w' hSw; (have u1 := hSw); go_simp; first | done | with_reducible rfl)
                try simp only [Act.put, List.setIfInBounds_toArray, List.set_cons_zero, List.set_cons_succ]
                refine wpAnyH_ready (rs := [8]) (by kernel_rfl) (by simp) ?_
                refine AllReadyH.cons (i := 8) (o := ?o_26_8) ?h_26_8 (fun K hK => ?_) AllReadyH.nil
                case h_26_8 => (simp only [List.getElem?_toArray, List.getElem?_cons_succ, List.getElem?_cons_zero]; rfl)
                go_simp
                go_at_call 15
                refine (CG (vx24) hT2.wa hBx).mono ?_
                rintro e vx27 hGG
                obtain ⟨v, rfl, hO, hTo, hfr⟩ := hGG.to
                try dsimp only
                obtain ⟨Va2, hT3, hM3, hin3⟩ := hT2.toA hTo
                refine hK.out _ _ (cell_mod (p := ad2.add k) hHeld hM3 (hno Va _ _ _ hT2.wa)) (fun hHeld => ?_)
                clear hK K
                try simp only [Act.put, List.setIfInBounds_toArray, List.set_cons_zero, List.set_cons_succ]
                have hWX2 := hWX.trans ((hT2.below hBx hM3 (fun g hg => .inl hg)).mono (Nat.le_of_eq HA.out.symm))
                have hG4 := ownR_mod hGX hM3 (fun g hg => (HN.out g hg).1)
                have HN4 := Lib.hid (show ∀ g, (Value.slice Ag gl.length cg).ownBlock = some g → ¬ wIn a Va2 g ∧ ¬ wIn b Vb g from fun g hg => ⟨fun h => by
                  rcases hin3 g h with h1 | h1
                  · exact (HN.out g hg).1 h1
                  · have := (hGX.lt g hg).2; omega, (HN.out g hg).2⟩)
                refine take_one (i := 9) (oi := ?oi_28) (v := ?v_28) ?hi_28 (by kernel_rfl) (by kernel_rfl) (by kernel_rfl) ?hq_28 ?hw_28 ?hy_28 (by assumption) ?rest_28
                case hi_28 => (simp only [List.getElem?_toArray, List.getElem?_cons_succ, List.getElem?_cons_zero]; rfl)
                case hq_28 => exact fun _ _ _ h => h
                case hw_28 => rfl
                case hy_28 => (intro w' hSw; (have u1 := hSw); go_simp; first | done | with_reducible rfl)
                try simp only [Act.put, List.setIfInBounds_toArray, List.set_cons_zero, List.set_cons_succ]
                refine take_one (i := 10) (oi := ?oi_29) (v := ?v_29) ?hi_29 (by kernel_rfl) (by kernel_rfl) (by kernel_rfl) ?hq_29 ?hw_29 ?hy_29 (by assumption) ?rest_29
                case hi_29 => (simp only [List.getElem?_toArray, List.getElem?_cons_succ, List.getElem?_cons_zero]; rfl)
                case hq_29 => exact fun _ _ _ h => h
                case hw_29 => rfl
                case hy_29 => (intro w' hSw; (have u1 := hSw); go_simp; first | done | with_reducible rfl)
                try simp only [Act.put, List.setIfInBounds_toArray, List.set_cons_zero, List.set_cons_succ]
                refine take_one (i := 11) (oi := ?oi_30) (v := ?v_30) ?hi_30 (by kernel_rfl) (by kernel_rfl) (by kernel_rfl) ?hq_30 ?hw_30 ?hy_30 (by assumption) ?rest_30
                case hi_30 => (simp only [List.getElem?_toArray, List.getElem?_cons_succ, List.getElem?_cons_zero]; rfl)
                case hq_30 => exact fun _ _ _ h => h
                case hw_30 => rfl
                case hy_30 => (intro w' hSw; (have u1 := hSw); go_simp; first | done | with_reducible rfl)
                try simp only [Act.put, List.setIfInBounds_toArray, List.set_cons_zero, List.set_cons_succ]
                refine take_one (i := 12) (oi := ?oi_31) (v := ?v_31) ?hi_31 (by kernel_rfl) (by kernel_rfl) (by kernel_rfl) ?hq_31 ?hw_31 ?hy_31 (by assumption) ?rest_31
                case hi_31 => (simp only [List.getElem?_toArray, List.getElem?_cons_succ, List.getElem?_cons_zero]; rfl)
                case hq_31 => exact fun _ _ _ h => h
                case hw_31 => rfl
                case hy_31 => (intro w' hSw; (have u1 := hSw); go_simp; first | done | with_reducible rfl)
                try simp only [Act.put, List.setIfInBounds_toArray, List.set_cons_zero, List.set_cons_succ]
                refine take_one (i := 13) (oi := ?oi_32) (v := ?v_32) ?hi_32 (by kernel_rfl) (by kernel_rfl) (by kernel_rfl) ?hq_32 ?hw_32 ?hy_32 (by assumption) ?rest_32
                case hi_32 => (simp only [List.getElem?_toArray, List.getElem?_cons_succ, List.getElem?_cons_zero]; rfl)
                case hq_32 => exact fun _ _ _ h => h
                case hw_32 => rfl
                case hy_32 => (intro w' hSw; (have u1 := hSw); go_simp; first | done | with_reducible rfl)
                try simp only [Act.put, List.setIfInBounds_toArray, List.set_cons_zero, List.set_cons_succ]
                refine wpAnyH_done (by kernel_rfl) (NoPanic.normal ?_) _
                obtain ⟨Av, cv, rfl⟩ := own_sl hO
                have hrd := own_reads hO
                obtain ⟨LX, hLX⟩ : ∃ LX, LX = LR.take (dueN zq LR) := ⟨_, rfl⟩
                rw [← hLX] at hrd HP
                have hlx : LX.length ≤ 40 := by rw [hLX, List.length_take]; omega
                have HLX := Lib.hid hLX
                have hsz3 := hWX2.size
                rw [← hLX]
                clear hHeld CG CN hT2 hM3 hin3 hWX hGX hO hTo hfr hLX HN d3 hGG
                go_wp2_with (at_builtin; go_loud (refine wpList_append_any _ rfl (.tmp 81) (.tmp 82) _ rfl w.heap.size 31 iI _ 2 16 Try.underlying22 hiI hzI hzI1 hzI2 rfl (by decide) _ gl.length (itShape.flat gl) rfl hG4 _ Av LX.length cv (itShape.flat LX) rfl hrd (flat_one_it LX) (by simp only [maxLen]; omega) (by omega) hsz3 ?_; intro v6 w6 hown6 hg6 hat6))
                have hown7 : w6.ownsRow w.heap.size 31 2 v6 (gl ++ LX).length (itShape.flat (gl ++ LX)) := by
                  rw [List.length_append, show itShape.flat (gl ++ LX) = itShape.flat gl ++ itShape.flat LX by unfold Shape.flat; rw [List.flatMap_append]]; exact hown6
                have hT6 : Two w6 a a b Va2 Vb (LR.drop (dueN zq LR)) L zq 0 := ⟨hT3.wa.mod (mod_grown hg6 (D := fun g => (Value.slice Ag gl.length cg).ownBlock = some g) (fun g hg => hg)) (fun g hg h => (HN4.out g h).1 hg), hT3.wb.mod (mod_grown hg6 (D := fun g => (Value.slice Ag gl.length cg).ownBlock = some g) (fun g hg => hg)) (fun g hg h => (HN4.out g h).2 hg), hT3.apart⟩
                have HN6 := Lib.hid (show ∀ g, v6.ownBlock = some g → ¬ wIn a Va2 g ∧ ¬ wIn b Vb g from fun g hg => by
                  rcases own_at hat6 hg with h1 | h1
                  · exact HN4.out g h1
                  · exact ⟨fun h => by have := (hT3.wa.lt h).2; omega, fun h => by have := (hT3.wb.lt h).2; omega⟩)
                have hW6 := below_grown hWX2 hsz3 hg6 (fun g hg => (hG4.lt g hg).1)
                have hl7 : (gl ++ LX).length ≤ 40 := by rw [HP.out, List.length_take]; omega
                clear hT3 hG4 hown6 hg6 hat6 HN4 hWX2 hrd hsz3
                go_wp2
                go_roundg (n2 - (k + 1))
                case measure => omega
                case rel => exact ⟨k + 1, zq, Va2, Vb, gl ++ LX, LR.drop (dueN zq LR), by go_num, by omega, rfl, hz0q, hzq, Lib.hid ⟨HP.out, HQ.out⟩, by rw [List.length_drop]; omega, hl7, hown7, hT6, HN6, hW6⟩
          | false =>
            have CN := wheel_Now hT.wa
            have CG := wheel_Go hT.wb z hz0 hz1 (by omega) (by rw [HA.out]; exact hW.size)
            clear HD
            go_wp2_with fail
            refine CN.mono ?_; rintro e w1 ⟨rfl, rfl⟩
            go_wp2_with fail
            refine CG.mono ?_; rintro e w2 hGG
            obtain ⟨v, rfl, hO, hTo, hfr⟩ := hGG.to
            rw [← HGL.out.1] at hO
            obtain ⟨Ay, cy, rfl⟩ := own_sl hO
            rw [← HGL.out.2] at hTo
            obtain ⟨Vb2, hT2, hM2, _⟩ := hT.toB hTo
            have hW2 := hW.trans ((hT.below (by rw [HA.out]; exact hW.size) hM2 (fun g hg => .inr hg)).mono (Nat.le_of_eq HA.out.symm))
            have hG2 := ownR_mod hG hM2 (fun g hg => (HN.out g hg).2)
            have r1 := own_it hG2
            have r2 := own_it hO
            have CS := law21_same r1 r2
            clear CN CG hGG hTo hfr hM2 hW hG hT HN hs
            go_wp2_with fail
            refine CS.mono ?_; rintro e w3 ⟨rfl, hx3⟩
            have hT3 := hT2.keep hx3
            have hW3 := below_step hW2 hx3
            have CA := wheel_All hT3.wa (by omega)
            clear CS hT2 hW2 hx3 hO hG2 r1 r2
            go_wp2_with fail
            refine CA.mono ?_; rintro e w4 ⟨⟨v1, rfl, hO1⟩, hx4⟩
            obtain ⟨A1, c1, rfl⟩ := own_sl hO1
            have hT4 := hT3.keep hx4
            have hW4 := below_step hW3 hx4
            have CB := wheel_All hT4.wb (by omega)
            clear CA hT3 hW3 hx4
            go_wp2_with fail
            refine CB.mono ?_; rintro e w5 ⟨⟨v2, rfl, hO2⟩, hx5⟩
            obtain ⟨A2, c2, rfl⟩ := own_sl hO2
            have hW5 := below_step hW4 hx5
            have CS := law21_same ((own_it hO1).keep hx5) (own_it hO2)
            clear CB hT4 hW4 hx5 hO1 hO2
            go_wp2_with fail
            refine CS.mono ?_; rintro e w6 ⟨rfl, hx6⟩
            have hW6 := below_step hW5 hx6
            clear CS hW5 hx6
            go_wp2_with fail
            refine (law21_awake _).mono ?_; rintro e w7 ⟨rfl, hx7⟩
            go_wp2
            go_ret
            exact ⟨rfl, below_step hW6 hx7⟩
end Go.Proofs.Ytcpfekhpbjkgeaa
end
