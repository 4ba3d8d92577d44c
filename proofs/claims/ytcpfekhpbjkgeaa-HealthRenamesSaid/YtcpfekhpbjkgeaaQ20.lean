/- Lemmas for the claim's proof: HealthS HealthT HealthU. -/
import Derived.Test.YtcpfekhpbjkgeaaQ19
section
/- The law's own board in memory; its find and few. -/
set_option linter.unusedVariables false
namespace Go.Proofs.Ytcpfekhpbjkgeaa
open Go.RowKit Go.Maps
set_option maxHeartbeats 8000000
set_option maxRecDepth 100000
def encPh (x : Ph) : List Value := [.bool x.up, .bool x.asked, .int .i64 x.row, .int .i64 x.id, .int .i64 x.next, .int .i64 x.last]
def phShape : Shape Ph where
  z := ⟨false, false, 0, 0, 0, 0⟩
  size := 6
  cells := encPh
  Wf := fun x => True
  pos := by decide
  len := fun _ => rfl
  one := fun x u hu => by
    unfold encPh at hu
    simp only [List.mem_cons, List.not_mem_nil, or_false] at hu
    rcases hu with rfl | rfl | rfl | rfl | rfl | rfl <;> rfl
  zwf := trivial
/-- Cells written one behind the other. -/
def setMany : List Value → Nat → List Value → List Value
  | xs, _, [] => xs
  | xs, o, v :: vs => setMany (xs.set o v) (o + 1) vs
theorem setMany_at : ∀ (vs xs : List Value) (o j : Nat), o + vs.length ≤ xs.length → (setMany xs o vs)[j]? = if o ≤ j ∧ j < o + vs.length then vs[j - o]? else xs[j]?
  | [], xs, o, j, _ => by rw [if_neg (by simp only [List.length_nil]; omega)]; rfl
  | v :: vs, xs, o, j, h => by
    simp only [List.length_cons] at h
    unfold setMany
    rw [setMany_at vs (xs.set o v) (o + 1) j (by rw [List.length_set]; omega)]
    by_cases c1 : o + 1 ≤ j ∧ j < o + 1 + vs.length
    · rw [if_pos c1, if_pos (by simp only [List.length_cons]; omega), show j - o = (j - (o + 1)) + 1 by omega, List.getElem?_cons_succ]
    · rw [if_neg c1, List.getElem?_set]
      by_cases c2 : o = j
      · subst c2
        rw [if_pos rfl, if_pos (by omega), if_pos (by simp only [List.length_cons]; omega), Nat.sub_self]; rfl
      · rw [if_neg c2, if_neg (by simp only [List.length_cons]; omega)]
theorem Shape.flat_set {α : Type} (C : Shape α) (l : List α) (k : Nat) (x : α) (hk : k < l.length) : C.flat (l.set k x) = setMany (C.flat l) (k * C.size) (C.cells x) := by
  have hb : k * C.size + C.size ≤ l.length * C.size := by
    have := Nat.mul_le_mul_right C.size (show k + 1 ≤ l.length from hk)
    rw [Nat.succ_mul] at this; exact this
  apply List.ext_getElem?
  intro j
  rw [setMany_at _ _ _ _ (by rw [C.flat_len, C.len]; exact hb), C.len]
  obtain ⟨e, h⟩ := C.split j
  by_cases c : j / C.size = k
  · have e1 : k * C.size ≤ j ∧ j < k * C.size + C.size := by rw [← c]; omega
    rw [if_pos e1]
    rw [e, C.flat_at _ _ _ h, c, List.getElem?_set, if_pos rfl, if_pos hk]
    show (C.cells x)[_]? = _
    congr 1
    rw [c] at e
    omega
  · rw [if_neg (fun hh => c (by
      have h1 : j / C.size < k + 1 := (Nat.div_lt_iff_lt_mul C.pos).2 (by rw [Nat.succ_mul]; omega)
      have h2 : k ≤ j / C.size := (Nat.le_div_iff_mul_le C.pos).2 hh.1
      omega))]
    rw [e, C.flat_at _ _ _ h, C.flat_at _ _ _ h, List.getElem?_set, if_neg (fun e1 => c e1.symm)]
/-- The law's board in memory. -/
structure IsPlain (w : World) (B pb : Nat) (v : Value) (L : List Ph) (now : Int) (r : Rul) : Prop where
  blk : Blk w pb 58 #[.int .i64 r.every, .int .i64 r.timeout, .int .i64 r.rise, .int .i64 r.fall, v, .int .i64 now]
  low : B ≤ pb
  row : w.ownsRow B 77 6 v L.length (phShape.flat L)
def pIn (pb : Nat) (v : Value) (g : Nat) : Prop := g = pb ∨ v.ownBlock = some g
section
variable {w w' : World} {B pb : Nat} {v : Value} {L : List Ph} {now : Int} {r : Rul}
theorem IsPlain.mod {D : Nat → Prop} (h : IsPlain w B pb v L now r) (hx : Mod D w w') (hn : ∀ g, pIn pb v g → ¬ D g) : IsPlain w' B pb v L now r :=
  ⟨h.blk.mod hx (hn pb (.inl rfl)), h.low, ownK_mod h.row hx (fun g hg => hn g (.inr hg))⟩
theorem IsPlain.keep (h : IsPlain w B pb v L now r) (hx : Below w.heap.size w w') : IsPlain w' B pb v L now r :=
  ⟨h.blk.keep hx, h.low, ownK_keep h.row hx⟩
theorem IsPlain.lt (h : IsPlain w B pb v L now r) {g : Nat} (hg : pIn pb v g) : B ≤ g ∧ g < w.heap.size := by
  rcases hg with rfl | hg
  · exact ⟨h.low, h.blk.lt⟩
  · exact h.row.lt g hg
theorem IsPlain.no (h : IsPlain w B pb v L now r) : v.ownBlock ≠ some pb := rowK_not h.blk h.row (by decide)
theorem IsPlain.at_ (h : IsPlain w B pb v L now r) {k : Nat} (hk : k < L.length) : ∃ g n c, v = .slice (some ⟨g, 0, none⟩) n c ∧ n = L.length ∧ n ≤ c ∧ c ≤ 9223372036854775807 ∧ g < w.heap.size ∧ pb ≠ g ∧
    ∀ j u, (encPh (L.getD k default))[j]? = some u → w.cell? ⟨g, k * 6 + j, none⟩ = some u := by
  rcases h.row.2 with ⟨e, e2⟩ | ⟨g, cap, cur, e, hb, hg, h1, h2, h3, h4⟩
  · omega
  · have hno := h.no
    subst e
    have hr := h.row
    refine ⟨g, L.length, cap, rfl, rfl, (ownK_cap hr).1, (ownK_cap hr).2, (Array.getElem?_eq_some_iff.1 hg).1, fun e => hno (by rw [e]; rfl), fun j u hu => ?_⟩
    obtain ⟨ad, e1, _, hc⟩ := (ownK_reads hr).2 (by omega)
    cases e1
    have hj : j < 6 := by
      rcases Nat.lt_or_ge j 6 with h5 | h5
      · exact h5
      · rw [List.getElem?_eq_none (by show (encPh _).length ≤ j; exact h5)] at hu; cases hu
    have e0 : (⟨g, k * 6 + j, none⟩ : Addr) = (⟨g, 0, none⟩ : Addr).add (k * 6 + j) := by unfold Addr.add; split <;> simp_all
    rw [e0]
    refine hc _ u ?_
    rw [show k * 6 + j = k * phShape.size + j from rfl, phShape.flat_at _ _ _ hj, List.getElem?_eq_getElem hk]
    rw [List.getD_eq_getElem?_getD, List.getElem?_eq_getElem hk] at hu
    exact hu
theorem ph_i64 {r : Rul} (hr : RightR r) {now : Int} (h0 : 0 ≤ now) (h1 : now ≤ 1099511627776) {x : Ph} (h : PhOk r now x) : I64 x.id ∧ I64 x.next ∧ I64 x.last ∧ I64 x.row := by
  obtain ⟨a1, a2, a3, a4, a5, a6, a7, a8, a9⟩ := h
  unfold RightR at hr
  unfold I64
  omega
end
/-- Where a host stands. -/
def placeOf (L : List Ph) (i : Int) : Int := match L.findIdx? (fun x => x.id == i) with | some k => (k : Int) | none => -1
theorem place_here {L : List Ph} {i : Int} {k : Nat} (hk : k < L.length) (h : ∀ x ∈ L.take k, x.id ≠ i) (e : (L.getD k default).id = i) : placeOf L i = k := by
  unfold placeOf
  have : L.findIdx? (fun x => x.id == i) = some k := by
    rw [List.findIdx?_eq_some_iff_getElem]
    refine ⟨hk, ?_, fun j hj => ?_⟩
    · rw [List.getD_eq_getElem?_getD, List.getElem?_eq_getElem hk] at e
      simpa using e
    · have h1 := h L[j] (List.mem_take_iff_getElem.2 ⟨j, by omega, rfl⟩)
      simpa using h1
  rw [this]
theorem place_none {L : List Ph} {i : Int} (h : ∀ x ∈ L, x.id ≠ i) : placeOf L i = -1 := by
  unfold placeOf
  have : L.findIdx? (fun x => x.id == i) = none := by
    rw [List.findIdx?_eq_none_iff]
    intro x hx
    simpa using h x hx
  rw [this]
theorem takeP_next {L : List Ph} {k : Nat} (h : k < L.length) : L.take (k + 1) = L.take k ++ [L.getD k default] := takeK_next h
theorem law22_find {w : World} {B pb : Nat} {v : Value} {L : List Ph} {now : Int} {r : Rul} (h : IsPlain w B pb v L now r) (i : Int) (hl : L.length ≤ 100000) :
    Calls Try.prog 57 #[.pointer (some ⟨pb, 0, none⟩), .int .i64 i] w fun e w' => e = .returned (.int .i64 (placeOf L i)) ∧ w = w' := by
  obtain ⟨c0, c1, c2, c3, c4, c5, _⟩ := h.blk.cells6
  obtain ⟨A, c, rfl⟩ := ownK_sl h.row
  have hcap := ownK_cap h.row
  have HP := Lib.hid h
  obtain ⟨N, hN⟩ : ∃ N, N = L.length := ⟨_, rfl⟩
  have HN := Lib.hid hN
  obtain ⟨Z, hZ⟩ : ∃ Z, Z = placeOf L i := ⟨_, rfl⟩
  have HZ := Lib.hid hZ
  rw [← hZ]
  rw [← hN] at c4 hcap hl
  clear h hN hZ
  go_enter Try.func57, Try.ntmps57
  go_wp2_with fail
  go_loopg [5] N (fun gk s5 wr => ∃ k : Nat, s5 = .int .i64 k ∧ k ≤ N ∧ gk = N - k ∧ Hid (∀ x ∈ L.take k, x.id ≠ i) ∧ w = wr)
  case atStart => exact ⟨0, by go_num, Nat.zero_le _, rfl, Lib.hid (by simp), rfl⟩
  case round =>
    obtain ⟨k, rfl, hk, rfl, HX, rfl⟩ := hrel
    by_cases hkn : k < N
    · have hkk : (k : Int) < (N : Int) := by omega
      have hkL : k < L.length := by rw [← HN.out]; exact hkn
      obtain ⟨g, n2, c2', hv, hn2, hc1, hc2, hg, hpg, hat⟩ := HP.out.at_ hkL
      cases hv
      have d3 := hat 3 _ rfl
      have HT := Lib.hid (takeP_next hkL)
      have HE := Lib.hid (fun e => place_here hkL HX.out (i := i) e)
      clear hat hn2 hpg
      generalize L.getD k default = y at *
      by_cases hxy : y.id = i
      · have e1 : (y.id == i) = true := by simp [hxy]
        have HR := Lib.hid (show Z = k from by rw [HZ.out]; exact HE.out hxy)
        clear hxy hkL
        go_wp2
        go_ret
        exact ⟨by rw [HR.out]; rfl, rfl⟩
      · have e1 : (y.id == i) = false := by simp [hxy]
        have HX2 := Lib.hid (show ∀ x ∈ L.take (k + 1), x.id ≠ i from fun x hx => by
          rw [HT.out, List.mem_append, List.mem_singleton] at hx
          rcases hx with hx | rfl
          · exact HX.out x hx
          · exact hxy)
        clear hxy hkL
        go_wp2
        go_roundg (N - (k + 1))
        case measure => omega
        case rel => exact ⟨k + 1, by go_num, by omega, rfl, HX2, rfl⟩
    · obtain rfl : k = N := by omega
      have hge : ¬ (k : Int) < (k : Int) := by omega
      have HR := Lib.hid (show Z = -1 by rw [HZ.out]; exact place_none (fun x hx => HX.out x (by rw [List.take_of_length_le (by rw [← HN.out]; exact Nat.le_refl _)]; exact hx)))
      go_wp2
      go_ret
      exact ⟨by rw [HR.out]; rfl, rfl⟩
/-- At most thirty. -/
theorem law22_few {w : World} {A : Option Addr} {n c : Nat} {l : List Int} (h : IsList w .i64 A n c l) :
    Calls Try.prog 56 #[.slice A n c] w fun e w' => (∃ m, e = .returned (.slice A m c) ∧ IsList w .i64 A m c (l.take 30) ∧ m ≤ 30) ∧ w = w' := by
  have hc := h.cap
  have hs := h.small
  have HL := Lib.hid h.len
  have HH := Lib.hid h
  go_enter Try.func56, Try.ntmps56
  by_cases c1 : 30 < n
  · have e1 : (30 : Int) < (n : Int) := by omega
    have e2 : (30 : Nat) ≤ c := by omega
    have hn0 : 0 < n := by omega
    have HCUT := Lib.hid (show IsList w .i64 A 30 c (l.take 30) from HH.out.cut (Nat.le_of_lt c1))
    clear c1
    go_wp2
    go_ret
    exact ⟨⟨30, rfl, HCUT.out, Nat.le_refl _⟩, rfl⟩
  · have e1 : ¬ (30 : Int) < (n : Int) := by omega
    have HCUT := Lib.hid (show IsList w .i64 A n c (l.take 30) by rw [List.take_of_length_le (by rw [HL.out]; omega)]; exact HH.out)
    have hn30 : n ≤ 30 := by omega
    clear c1
    go_wp2
    go_ret
    exact ⟨⟨n, rfl, HCUT.out, hn30⟩, rfl⟩
end Go.Proofs.Ytcpfekhpbjkgeaa
end
section
/- The law's own board: hear. -/
set_option linter.unusedVariables false
namespace Go.Proofs.Ytcpfekhpbjkgeaa
open Go.RowKit Go.Maps
set_option maxHeartbeats 8000000
set_option maxRecDepth 100000
/-- A host of one's own row is written. -/
def six (w : World) (g o : Nat) (x : Ph) : World :=
  (((((w.setCell ⟨g, o, none⟩ (.bool x.up)).setCell ⟨g, o + 1, none⟩ (.bool x.asked)).setCell ⟨g, o + 2, none⟩ (.int .i64 x.row)).setCell ⟨g, o + 3, none⟩ (.int .i64 x.id)).setCell ⟨g, o + 4, none⟩ (.int .i64 x.next)).setCell ⟨g, o + 5, none⟩ (.int .i64 x.last)
section
variable {w w' : World} {B pb : Nat} {L : List Ph} {now : Int} {r : Rul}
theorem IsPlain.set {g n c k : Nat} (h : IsPlain w B pb (.slice (some ⟨g, 0, none⟩) n c) L now r) (hk : k < L.length) (x : Ph) :
    IsPlain (six w g (k * 6) x) B pb (.slice (some ⟨g, 0, none⟩) n c) (L.set k x) now r ∧ Mod (pIn pb (.slice (some ⟨g, 0, none⟩) n c)) w (six w g (k * 6) x) := by
  have hpg : pb ≠ g := fun e => h.no (by rw [e]; rfl)
  have hin : pIn pb (.slice (some ⟨g, 0, none⟩) n c) g := .inr rfl
  have hM : Mod (pIn pb (.slice (some ⟨g, 0, none⟩) n c)) w (six w g (k * 6) x) := by
    unfold six
    exact ((((((Mod.refl _ w).setCell (p := ⟨g, k * 6, none⟩) (.inl hin) _).setCell (p := ⟨g, k * 6 + 1, none⟩) (.inl hin) _).setCell (p := ⟨g, k * 6 + 2, none⟩) (.inl hin) _).setCell (p := ⟨g, k * 6 + 3, none⟩) (.inl hin) _).setCell (p := ⟨g, k * 6 + 4, none⟩) (.inl hin) _).setCell (p := ⟨g, k * 6 + 5, none⟩) (.inl hin) _
  have hM2 : Mod (fun q => q = g) w (six w g (k * 6) x) := by
    unfold six
    exact ((((((Mod.refl (fun q => q = g) w).setCell (p := ⟨g, k * 6, none⟩) (.inl rfl) _).setCell (p := ⟨g, k * 6 + 1, none⟩) (.inl rfl) _).setCell (p := ⟨g, k * 6 + 2, none⟩) (.inl rfl) _).setCell (p := ⟨g, k * 6 + 3, none⟩) (.inl rfl) _).setCell (p := ⟨g, k * 6 + 4, none⟩) (.inl rfl) _).setCell (p := ⟨g, k * 6 + 5, none⟩) (.inl rfl) _
  refine ⟨⟨h.blk.mod hM2 hpg, h.low, ?_⟩, hM⟩
  have h0 := h.row
  have hn : n = L.length := by rcases h0.2 with ⟨e, _⟩ | ⟨_, _, _, e, _⟩ <;> cases e; rfl
  rw [List.length_set, phShape.flat_set L k x hk]
  subst hn
  exact ((((((h0.stored (k * 6) (.bool x.up)).1.stored (k * 6 + 1) (.bool x.asked)).1.stored (k * 6 + 2) (.int .i64 x.row)).1.stored (k * 6 + 3) (.int .i64 x.id)).1.stored (k * 6 + 4) (.int .i64 x.next)).1.stored (k * 6 + 5) (.int .i64 x.last)).1
theorem IsPlain.free {g n c : Nat} (h : IsPlain w B pb (.slice (some ⟨g, 0, none⟩) n c) L now r) (o : Nat) : w.frozen? ⟨g, o, none⟩ = false := by
  rcases h.row.2 with ⟨e, _⟩ | ⟨g', cap, cur, e, hb, hg, _⟩
  · cases e
  · cases e
    have hB : Blk w g 77 cur := hg
    exact hB.free o
end
theorem law22_hear {w : World} {B pb : Nat} {v : Value} {L : List Ph} {now : Int} {r : Rul} (h : IsPlain w B pb v L now r) (hr : RightR r) {k : Nat} (hk : k < L.length) (h0 : 0 ≤ (L.getD k default).row) (h1 : (L.getD k default).row ≤ 100) (ok : Bool) :
    Calls Try.prog 58 #[.pointer (some ⟨pb, 0, none⟩), .int .i64 k, .bool ok] w fun e w' => e = .returned (.bool (turnPh r (L.getD k default) ok)) ∧ IsPlain w' B pb v (L.set k (hearPh r (L.getD k default) ok)) now r ∧ Mod (pIn pb v) w w' := by
  obtain ⟨g, n, c, rfl, hn, hc1, hc2, hg, hpg, hat⟩ := h.at_ hk
  obtain ⟨c0, c1, c2, c3, c4, c5, _⟩ := h.blk.cells6
  have HT := Lib.hid (show turnPh r (L.getD k default) ok = if (L.getD k default).up = ok then false else if (L.getD k default).row + 1 < (if ok then r.rise else r.fall) then false else true from rfl)
  have HH := Lib.hid (show hearPh r (L.getD k default) ok = if (L.getD k default).up = ok then ⟨(L.getD k default).up, false, 0, (L.getD k default).id, (L.getD k default).next, (L.getD k default).last⟩ else if (L.getD k default).row + 1 < (if ok then r.rise else r.fall) then ⟨(L.getD k default).up, false, (L.getD k default).row + 1, (L.getD k default).id, (L.getD k default).next, (L.getD k default).last⟩ else ⟨ok, false, 0, (L.getD k default).id, (L.getD k default).next, (L.getD k default).last⟩ from rfl)
  generalize turnPh r (L.getD k default) ok = T at *
  generalize hearPh r (L.getD k default) ok = H at *
  have d0 : w.cell? ⟨g, k * 6, none⟩ = _ := hat 0 _ rfl
  have d1 := hat 1 _ rfl
  have d2 := hat 2 _ rfl
  have d3 := hat 3 _ rfl
  have d4 := hat 4 _ rfl
  have d5 := hat 5 _ rfl
  have hkn : (k : Int) < (n : Int) := by omega
  have HK := Lib.hid hk
  have HP := Lib.hid h
  clear hat h hk hn
  generalize L.getD k default = x at *
  obtain ⟨xu, xa, xw, xi, xn, xl⟩ := x
  dsimp only at *
  have hrr : r.rise ≤ 100 ∧ r.fall ≤ 100 ∧ 1 ≤ r.rise ∧ 1 ≤ r.fall := by unfold RightR at hr; omega
  obtain ⟨re, rt, rr, rf⟩ := r
  dsimp only at *
  clear hr
  have w1 : IntKind.i64.wrap (xw + 1) = xw + 1 := by rw [IntKind.wrap_i64]; omega
  have PX := Blk.new w 77 #[.bool xu, .bool xa, .int .i64 xw, .int .i64 xi, .int .i64 xn, .int .i64 xl]
  have hA := (Below.refl w.heap.size w).alloc (Nat.le_refl _) (.cells #[.bool xu, .bool xa, .int .i64 xw, .int .i64 xi, .int .i64 xn, .int .i64 xl] 77)
  go_enter Try.func58, Try.ntmps58
  go_upto_region 2 with (fail)
  have HP1 := Lib.hid (HP.out.keep hA)
  have hws := HP.out.blk.lt
  obtain ⟨xb, hxb⟩ : ∃ q, q = w.heap.size := ⟨_, rfl⟩
  have HXB := Lib.hid hxb
  rw [← hxb] at PX ⊢
  clear hxb d0 d1 d2 d3 d4 d5 c0 c1 c2 c3 c4 c5 HP hws
  have hMA : Mod (pIn pb (.slice (some ⟨g, 0, none⟩) n c)) w _ := Mod.of_below hA
  generalize w.alloc (.cells #[.bool xu, .bool xa, .int .i64 xw, .int .i64 xi, .int .i64 xn, .int .i64 xl] 77) = u at *
  have hxg : xb ≠ g := fun e => by rw [HXB.out] at e; omega
  have hpx : pb ≠ xb := HP1.out.blk.ne_ PX (by decide)
  obtain ⟨c0, c1, c2, c3, c4, c5, _⟩ := HP1.out.blk.cells6
  obtain ⟨x0, x1, x2, x3, x4, x5, _⟩ := PX.cells6
  obtain ⟨f0, f1, f2, f3, f4, f5⟩ := PX.free6
  clear hg hA
  dsimp only at c2 c3
  go_upto_if 22 with (fail)
  obtain ⟨D, hD⟩ : ∃ D, D = (xu == ok) := ⟨_, rfl⟩
  rw [← hD]
  have HD := Lib.hid hD
  clear hD
  go_cut [8] (fun s8 wx => s8 = .bool T ∧ Blk wx xb 77 #[.bool H.up, .bool H.asked, .int .i64 H.row, .int .i64 H.id, .int .i64 H.next, .int .i64 H.last] ∧ Mod (fun g => g = xb) u wx)
  case first =>
    cases D with
    | true =>
      have hxo : xu = ok := by simpa using HD.out.symm
      have HT2 := Lib.hid (show T = false by rw [HT.out, if_pos hxo])
      have HH2 := Lib.hid (show H = ⟨xu, false, 0, xi, xn, xl⟩ by rw [HH.out, if_pos hxo])
      clear hxo HT HH
      have HB := Lib.hid ((PX.setTo 1 (.bool false) (ds := #[.bool xu, .bool false, .int .i64 xw, .int .i64 xi, .int .i64 xn, .int .i64 xl]) rfl).setTo 2 (.int .i64 0) (ds := #[.bool xu, .bool false, .int .i64 0, .int .i64 xi, .int .i64 xn, .int .i64 xl]) rfl)
      have HM := Lib.hid (((Mod.refl (fun g => g = xb) u).setCell (p := ⟨xb, 1, none⟩) (.inl (show xb = xb from rfl)) (.bool false)).setCell (p := ⟨xb, 2, none⟩) (.inl (show xb = xb from rfl)) (.int .i64 0))
      clear PX
      go_wp2_with fail
      go_meet
      exact ⟨by rw [HT2.out], by rw [HH2.out]; exact HB.out, HM.out⟩
    | false =>
      have hxo : ¬ xu = ok := by simpa using HD.out.symm
      have HTa := Lib.hid (show T = if xw + 1 < (if ok = true then rr else rf) then false else true by rw [HT.out, if_neg hxo])
      have HHa := Lib.hid (show H = if xw + 1 < (if ok = true then rr else rf) then ⟨xu, false, xw + 1, xi, xn, xl⟩ else ⟨ok, false, 0, xi, xn, xl⟩ by rw [HH.out, if_neg hxo])
      have HB := Lib.hid ((PX.setTo 1 (.bool false) (ds := #[.bool xu, .bool false, .int .i64 xw, .int .i64 xi, .int .i64 xn, .int .i64 xl]) rfl).setTo 2 (.int .i64 (xw + 1)) (ds := #[.bool xu, .bool false, .int .i64 (xw + 1), .int .i64 xi, .int .i64 xn, .int .i64 xl]) rfl)
      have HM := Lib.hid (((Mod.refl (fun g => g = xb) u).setCell (p := ⟨xb, 1, none⟩) (.inl (show xb = xb from rfl)) (.bool false)).setCell (p := ⟨xb, 2, none⟩) (.inl (show xb = xb from rfl)) (.int .i64 (xw + 1)))
      have HPB := Lib.hid (show ∀ w2, Mod (fun g => g = xb) u w2 → Blk w2 pb _ _ from fun w2 hm => HP1.out.blk.mod hm hpx)
      clear hxo HT HH PX
      go_upto_region 7 with (fail)
      have hB := HB.out
      have hM := HM.out
      generalize (u.setCell ⟨xb, 1, none⟩ (.bool false)).setCell ⟨xb, 2, none⟩ (.int .i64 (xw + 1)) = u2 at *
      clear c0 c1 c2 c3 c4 c5 x0 x1 x2 x3 x4 x5 f0 f1 f2 f3 f4 f5 HB HM
      obtain ⟨c0, c1, c2, c3, c4, c5, _⟩ := (HPB.out u2 hM).cells6
      obtain ⟨x0, x1, x2, x3, x4, x5, _⟩ := hB.cells6
      have U0 : ∀ p, (under u2 p).cell? ⟨pb, 2, none⟩ = some (.int .i64 rr) := cell_under c2
      have U1 : ∀ p, (under u2 p).cell? ⟨pb, 3, none⟩ = some (.int .i64 rf) := cell_under c3
      have U2 := cell_under x2
      clear c0 c1 c2 c3 c4 c5 x0 x1 x2 x3 x4 x5
      cases ok with
      | true =>
        by_cases hlt : xw + 1 < rr
        · have e1 : decide (rr ≤ xw + 1) = false := decide_eq_false (by omega)
          have e2 : decide (xw + 1 ≥ rr) = false := decide_eq_false (by omega)
          have HT2 := Lib.hid (show T = false by rw [HTa.out]; simp only [if_true]; rw [if_pos hlt])
          have HH2 := Lib.hid (show H = ⟨xu, false, xw + 1, xi, xn, xl⟩ by rw [HHa.out]; simp only [if_true]; rw [if_pos hlt])
          clear hlt HTa HHa HD
          refine wp_region_quiet_under (by kernel_rfl) (by kernel_rfl) ?_
          repeat (go_big_quiet_step ((fail)))
          refine wpQuiet_nil ?_
          intro wu hw'
          obtain ⟨pq, hw''⟩ := hw'
          have hU := below_eq hw''
          clear hw'' pq
          have hB2 := hB.keep hU
          have hM2 := hM.thenB hU
          clear hB hM hU U0 U1 U2
          go_wp2_with fail
          go_meet
          exact ⟨by rw [HT2.out], by rw [HH2.out]; exact hB2, hM2⟩
        · have e1 : decide (rr ≤ xw + 1) = true := decide_eq_true (by omega)
          have e2 : decide (xw + 1 ≥ rr) = true := decide_eq_true (by omega)
          have HT2 := Lib.hid (show T = true by rw [HTa.out]; simp only [if_true]; rw [if_neg hlt])
          have HH2 := Lib.hid (show H = ⟨true, false, 0, xi, xn, xl⟩ by rw [HHa.out]; simp only [if_true]; rw [if_neg hlt])
          clear hlt HTa HHa HD
          refine wp_region_quiet_under (by kernel_rfl) (by kernel_rfl) ?_
          repeat (go_big_quiet_step ((fail)))
          refine wpQuiet_nil ?_
          intro wu hw'
          obtain ⟨pq, hw''⟩ := hw'
          have hU := below_eq hw''
          clear hw'' pq
          have hB2 := hB.keep hU
          have hM2 := hM.thenB hU
          clear hB hM hU U0 U1 U2
          have HB := Lib.hid ((hB2.setTo 0 (.bool true) (ds := #[.bool true, .bool false, .int .i64 (xw + 1), .int .i64 xi, .int .i64 xn, .int .i64 xl]) rfl).setTo 2 (.int .i64 0) (ds := #[.bool true, .bool false, .int .i64 0, .int .i64 xi, .int .i64 xn, .int .i64 xl]) rfl)
          have HM := Lib.hid ((hM2.setCell (p := ⟨xb, 0, none⟩) (.inl (show xb = xb from rfl)) (.bool true)).setCell (p := ⟨xb, 2, none⟩) (.inl (show xb = xb from rfl)) (.int .i64 0))
          obtain ⟨x0, x1, x2, x3, x4, x5, _⟩ := hB2.cells6
          obtain ⟨f0, f1, f2, f3, f4, f5⟩ := hB2.free6
          clear hB2 hM2
          go_wp2_with fail
          go_meet
          exact ⟨by rw [HT2.out], by rw [HH2.out]; exact HB.out, HM.out⟩
      | false =>
        by_cases hlt : xw + 1 < rf
        · have e1 : decide (rf ≤ xw + 1) = false := decide_eq_false (by omega)
          have e2 : decide (xw + 1 ≥ rf) = false := decide_eq_false (by omega)
          have HT2 := Lib.hid (show T = false by rw [HTa.out]; simp only [Bool.false_eq_true, if_false]; rw [if_pos hlt])
          have HH2 := Lib.hid (show H = ⟨xu, false, xw + 1, xi, xn, xl⟩ by rw [HHa.out]; simp only [Bool.false_eq_true, if_false]; rw [if_pos hlt])
          clear hlt HTa HHa HD
          refine wp_region_quiet_under (by kernel_rfl) (by kernel_rfl) ?_
          repeat (go_big_quiet_step ((fail)))
          refine wpQuiet_nil ?_
          intro wu hw'
          obtain ⟨pq, hw''⟩ := hw'
          have hU := below_eq hw''
          clear hw'' pq
          have hB2 := hB.keep hU
          have hM2 := hM.thenB hU
          clear hB hM hU U0 U1 U2
          go_wp2_with fail
          go_meet
          exact ⟨by rw [HT2.out], by rw [HH2.out]; exact hB2, hM2⟩
        · have e1 : decide (rf ≤ xw + 1) = true := decide_eq_true (by omega)
          have e2 : decide (xw + 1 ≥ rf) = true := decide_eq_true (by omega)
          have HT2 := Lib.hid (show T = true by rw [HTa.out]; simp only [Bool.false_eq_true, if_false]; rw [if_neg hlt])
          have HH2 := Lib.hid (show H = ⟨false, false, 0, xi, xn, xl⟩ by rw [HHa.out]; simp only [Bool.false_eq_true, if_false]; rw [if_neg hlt])
          clear hlt HTa HHa HD
          refine wp_region_quiet_under (by kernel_rfl) (by kernel_rfl) ?_
          repeat (go_big_quiet_step ((fail)))
          refine wpQuiet_nil ?_
          intro wu hw'
          obtain ⟨pq, hw''⟩ := hw'
          have hU := below_eq hw''
          clear hw'' pq
          have hB2 := hB.keep hU
          have hM2 := hM.thenB hU
          clear hB hM hU U0 U1 U2
          have HB := Lib.hid ((hB2.setTo 0 (.bool false) (ds := #[.bool false, .bool false, .int .i64 (xw + 1), .int .i64 xi, .int .i64 xn, .int .i64 xl]) rfl).setTo 2 (.int .i64 0) (ds := #[.bool false, .bool false, .int .i64 0, .int .i64 xi, .int .i64 xn, .int .i64 xl]) rfl)
          have HM := Lib.hid ((hM2.setCell (p := ⟨xb, 0, none⟩) (.inl (show xb = xb from rfl)) (.bool false)).setCell (p := ⟨xb, 2, none⟩) (.inl (show xb = xb from rfl)) (.int .i64 0))
          obtain ⟨x0, x1, x2, x3, x4, x5, _⟩ := hB2.cells6
          obtain ⟨f0, f1, f2, f3, f4, f5⟩ := hB2.free6
          clear hB2 hM2
          go_wp2_with fail
          go_meet
          exact ⟨by rw [HT2.out], by rw [HH2.out]; exact HB.out, HM.out⟩
  case rest =>
    obtain ⟨rfl, hB, hM⟩ := hcut
    have hxn : ∀ g', pIn pb (.slice (some ⟨g, 0, none⟩) n c) g' → ¬ g' = xb := fun g' hg' e => by
      rcases hg' with h | h
      · exact hpx (h.symm.trans e)
      · exact hxg (by injection h with h; rw [← e, ← h])
    have HP2 := HP1.out.mod hM hxn
    have hM1 : Mod (pIn pb (.slice (some ⟨g, 0, none⟩) n c)) w wc := ⟨hM.os.trans hMA.os, hM.tape.trans hMA.tape, hM.output.trans hMA.output, Nat.le_trans hMA.size hM.size, fun q hq hn => (hM.block q (Nat.lt_of_lt_of_le hq hMA.size) (fun e => by rw [HXB.out] at e; omega)).trans (hMA.block q hq hn)⟩
    clear c0 c1 c2 c3 c4 c5 x0 x1 x2 x3 x4 x5 f0 f1 f2 f3 f4 f5 hM HT HH HD PX
    obtain ⟨c0, c1, c2, c3, c4, c5, _⟩ := HP2.blk.cells6
    obtain ⟨x0, x1, x2, x3, x4, x5, _⟩ := hB.cells6
    have U0 := cell_under c4
    have V0 := cell_under x0
    have V1 := cell_under x1
    have V2 := cell_under x2
    have V3 := cell_under x3
    have V4 := cell_under x4
    have V5 := cell_under x5
    clear c0 c1 c2 c3 c4 c5 x0 x1 x2 x3 x4 x5
    go_upto_region 11 with (fail)
    refine wp_region_under_tail 6 (by kernel_rfl) (by kernel_rfl) ?_
    simp only [List.take_succ_cons, List.take_zero, List.drop_succ_cons, List.drop_zero]
    repeat (go_big_quiet_step ((fail)))
    refine wpQuiet_nil ?_
    intro wu hw'
    obtain ⟨pq, hw''⟩ := hw'
    have hU := below_eq hw''
    clear hw'' pq
    have HP3 := HP2.keep hU
    have hM3 := hM1.thenB hU
    clear U0 V0 V1 V2 V3 V4 V5 HP2 hM1 hU hB
    obtain ⟨g2, n2, c2, hv, hn2, _, _, hg2, _, hat⟩ := HP3.at_ HK.out
    cases hv
    have d0 : wu.cell? ⟨g, k * 6, none⟩ = _ := hat 0 _ rfl
    have d1 := hat 1 _ rfl
    have d2 := hat 2 _ rfl
    have d3 := hat 3 _ rfl
    have d4 := hat 4 _ rfl
    have d5 := hat 5 _ rfl
    have f0 := HP3.free (k * 6)
    have f1 := HP3.free (k * 6 + 1)
    have f2 := HP3.free (k * 6 + 2)
    have f3 := HP3.free (k * 6 + 3)
    have f4 := HP3.free (k * 6 + 4)
    have f5 := HP3.free (k * 6 + 5)
    have HSET := Lib.hid (HP3.set HK.out H)
    clear hat
    go_wp2_with fail
    go_ret
    exact ⟨rfl, HSET.out.1, hM3.trans HSET.out.2⟩
end Go.Proofs.Ytcpfekhpbjkgeaa
end
section
/- A board and the law's own board side by side. -/
set_option linter.unusedVariables false
namespace Go.Proofs.Ytcpfekhpbjkgeaa
open Go.RowKit Go.Maps
set_option maxHeartbeats 8000000
set_option maxRecDepth 100000
/-- A world behind which all is young; blocks of others, and what they hold; a size. -/
structure Scene extends World where
  D : Nat → Prop
  H : Nat → Option Obj
  m : Nat
instance : Coe Scene World := ⟨Scene.toWorld⟩
/-- Others' blocks are as they were, and not among ours. -/
structure Apart (W : Scene) (w : World) (s : Bd) (pb : Nat) (v : Value) : Prop where
  blk : ∀ g, W.D g → w.heap[g]? = W.H g ∧ g < w.heap.size ∧ ¬ bIn s g ∧ ¬ pIn pb v g
  sz : W.m ≤ w.heap.size
/-- Both boards, all of whose blocks are younger than W; N: how far they may have come. -/
structure Both (W : Scene) (w : World) (s : Bd) (pb : Nat) (v : Value) (L : List Ph) (N : Nat) : Prop where
  bd : IsBoard w W.heap.size s
  pl : IsPlain w W.heap.size pb v L s.now s.r
  apart : ∀ g, bIn s g → ¬ pIn pb v g
  sim : Sim s L
  rt : RightR s.r
  few : L.length ≤ 40
  below : Below W.heap.size W w
  now : s.now ≤ N
  n : s.n ≤ 30 * N
  oth : Apart W w s pb v
section
variable {W : Scene} {w w' : World} {s s' : Bd} {pb : Nat} {v v' : Value} {L L' : List Ph} {N : Nat}
theorem below_mod {W : World} {D : Nat → Prop} (h : Below W.heap.size W w) (hM : Mod D w w') (hD : ∀ g, D g → W.heap.size ≤ g) : Below W.heap.size W w' :=
  h.trans ⟨hM.os, hM.tape, hM.output, hM.size, fun i hi => hM.block i (Nat.lt_of_lt_of_le hi h.size) (fun hd => by have := hD i hd; omega)⟩
theorem Apart.keep (h : Apart W w s pb v) (hx : Below w.heap.size w w') : Apart W w' s pb v :=
  ⟨fun g hg => by
    obtain ⟨a1, a2, a3, a4⟩ := h.blk g hg
    exact ⟨(hx.block g a2).trans a1, Nat.lt_of_lt_of_le a2 hx.size, a3, a4⟩, Nat.le_trans h.sz hx.size⟩
theorem Apart.board {s'' : Bd} (h : Apart W w s pb v) {B : Nat} (k : BdTo w w' B s s'') : Apart W w' s'' pb v :=
  ⟨fun g hg => by
    obtain ⟨a1, a2, a3, a4⟩ := h.blk g hg
    exact ⟨(k.2.1.block g a2 a3).trans a1, Nat.lt_of_lt_of_le a2 k.2.1.size, fun hb => (k.2.2 g hb).elim a3 (fun h1 => by omega), a4⟩, Nat.le_trans h.sz k.2.1.size⟩
theorem Apart.plain (h : Apart W w s pb v) (hM : Mod (pIn pb v) w w') (hI : ∀ g, pIn pb v' g → pIn pb v g ∨ w.heap.size ≤ g) : Apart W w' s pb v' :=
  ⟨fun g hg => by
    obtain ⟨a1, a2, a3, a4⟩ := h.blk g hg
    exact ⟨(hM.block g a2 a4).trans a1, Nat.lt_of_lt_of_le a2 hM.size, a3, fun hb => (hI g hb).elim a4 (fun h1 => by omega)⟩, Nat.le_trans h.sz hM.size⟩
theorem Both.keep (h : Both W w s pb v L N) (hx : Below w.heap.size w w') : Both W w' s pb v L N :=
  ⟨h.bd.keep hx, h.pl.keep hx, h.apart, h.sim, h.rt, h.few, below_step h.below hx, h.now, h.n, h.oth.keep hx⟩
theorem Both.more (h : Both W w s pb v L N) {M : Nat} (hM : N ≤ M) : Both W w s pb v L M :=
  ⟨h.bd, h.pl, h.apart, h.sim, h.rt, h.few, h.below, by have := h.now; omega, by have := h.n; omega, h.oth⟩
/-- What stands while but the one has moved. -/
structure BothA (W : Scene) (w : World) (s s' : Bd) (pb : Nat) (v : Value) (L : List Ph) : Prop where
  bd : IsBoard w W.heap.size s'
  pl : IsPlain w W.heap.size pb v L s.now s.r
  apart : ∀ g, bIn s' g → ¬ pIn pb v g
  below : Below W.heap.size W w
  oth : Apart W w s' pb v
theorem BothA.keep (h : BothA W w s s' pb v L) (hx : Below w.heap.size w w') : BothA W w' s s' pb v L :=
  ⟨h.bd.keep hx, h.pl.keep hx, h.apart, below_step h.below hx, h.oth.keep hx⟩
theorem Both.toA (h : Both W w s pb v L N) : BothA W w s s pb v L := ⟨h.bd, h.pl, h.apart, h.below, h.oth⟩
/-- A board's call. -/
theorem BothA.board {s'' : Bd} (h : BothA W w s s' pb v L) (k : BdTo w w' W.heap.size s' s'') : BothA W w' s s'' pb v L :=
  ⟨k.1, h.pl.mod k.2.1 (fun g hg hb => h.apart g hb hg), fun g hg hp => by
    rcases k.2.2 g hg with h1 | h1
    · exact h.apart g h1 hp
    · have := (h.pl.lt hp).2; omega, below_mod h.below k.2.1 (fun g hg => (h.bd.lt hg).1), h.oth.board k⟩
/-- What a call of the law's own board leaves. -/
def PlTo (w w' : World) (B pb : Nat) (v v' : Value) (L' : List Ph) (now : Int) (r : Rul) : Prop := IsPlain w' B pb v' L' now r ∧ Mod (pIn pb v) w w' ∧ ∀ g, pIn pb v' g → pIn pb v g ∨ w.heap.size ≤ g
/-- A call of the law's own board, behind the board's: both again. -/
theorem BothA.plain (h : BothA W w s s' pb v L) (k : PlTo w w' W.heap.size pb v v' L' s'.now s'.r) (hs : Sim s' L') (hr : RightR s'.r) (hf : L'.length ≤ 40) {M : Nat} (h1 : s'.now ≤ M) (h2 : s'.n ≤ 30 * M) : Both W w' s' pb v' L' M :=
  ⟨h.bd.modN k.2.1 (fun g hg => h.apart g hg), k.1, fun g hg hp => by
    rcases k.2.2 g hp with h3 | h3
    · exact h.apart g hg h3
    · have := (h.bd.lt hg).2; omega, hs, hr, hf, below_mod h.below k.2.1 (fun g hg => (h.pl.lt hg).1), h1, h2, h.oth.plain k.2.1 k.2.2⟩
theorem PlTo.same (h : IsPlain w W.heap.size pb v L s.now s.r) (hx : Below w.heap.size w w') : PlTo w w' W.heap.size pb v v L s.now s.r := ⟨h.keep hx, Mod.of_below hx, fun g hg => .inl hg⟩
/-- A call of the law's own board, ahead of the board's. -/
structure BothB (W : Scene) (w : World) (s : Bd) (now : Int) (r : Rul) (pb : Nat) (v : Value) (L : List Ph) : Prop where
  bd : IsBoard w W.heap.size s
  pl : IsPlain w W.heap.size pb v L now r
  apart : ∀ g, bIn s g → ¬ pIn pb v g
  below : Below W.heap.size W w
  oth : Apart W w s pb v
theorem Both.plain2 (h : Both W w s pb v L N) {now : Int} {r : Rul} (k : PlTo w w' W.heap.size pb v v' L' now r) : BothB W w' s now r pb v' L' :=
  ⟨h.bd.modN k.2.1 (fun g hg => h.apart g hg), k.1, fun g hg hp => by
    rcases k.2.2 g hp with h3 | h3
    · exact h.apart g hg h3
    · have := (h.bd.lt hg).2; omega, below_mod h.below k.2.1 (fun g hg => (h.pl.lt hg).1), h.oth.plain k.2.1 k.2.2⟩
theorem BothB.keep {now : Int} {r : Rul} (h : BothB W w s now r pb v L) (hx : Below w.heap.size w w') : BothB W w' s now r pb v L :=
  ⟨h.bd.keep hx, h.pl.keep hx, h.apart, below_step h.below hx, h.oth.keep hx⟩
theorem BothB.board (h : BothB W w s s'.now s'.r pb v L) (k : BdTo w w' W.heap.size s s') (hs : Sim s' L) (hr : RightR s'.r) (hf : L.length ≤ 40) {M : Nat} (h1 : s'.now ≤ M) (h2 : s'.n ≤ 30 * M) : Both W w' s' pb v L M :=
  ⟨k.1, h.pl.mod k.2.1 (fun g hg hb => h.apart g hb hg), fun g hg hp => by
    rcases k.2.2 g hg with h3 | h3
    · exact h.apart g h3 hp
    · have := (h.pl.lt hp).2; omega, hs, hr, hf, below_mod h.below k.2.1 (fun g hg => (h.bd.lt hg).1), h1, h2, h.oth.board k⟩
/-- How many items. -/
theorem sim_items {L : List Ph} (h : Sim s L) : s.l.length ≤ 2 * L.length := by
  rw [h.list.length_eq]
  have hi : ∀ x : Ph, (itemsP s.r s.now x).length ≤ 2 := fun x => by
    unfold itemsP
    split <;> simp
  have : ∀ K : List Ph, (K.flatMap (itemsP s.r s.now)).length ≤ 2 * K.length := fun K => by
    induction K with
    | nil => simp
    | cons x K ih =>
      rw [List.flatMap_cons, List.length_append, List.length_cons]
      have := hi x
      omega
  exact this L
theorem sim_rows {L : List Ph} (h : Sim s L) : RowsG s.G := fun i k hk => by
  have h1 : (s.G i).isSome = true := by rw [hk]; rfl
  obtain ⟨x, hx, rfl⟩ := List.mem_map.1 ((h.ids.2 i).2 h1)
  have h2 := h.view x hx
  unfold viewG at h2
  rw [hk] at h2
  have h3 := Option.some.inj h2
  unfold hv Ph.see at h3
  simp only [Prod.mk.injEq] at h3
  have := (h.ok x hx).row1
  omega
theorem sim_get {L : List Ph} (h : Sim s L) {x : Ph} (hx : x ∈ L) : getT s x.id = (#[.bool x.up, .bool x.asked, .int .i64 x.row], true) := by
  have h1 := h.view x hx
  obtain ⟨k, hk, e⟩ := view_some' h1
  unfold getT
  rw [hk]
  unfold hv Ph.see at e
  simp only [Prod.mk.injEq] at e
  show (k.cells, true) = _
  unfold Hg.cells
  rw [e.1, e.2.1, e.2.2]
theorem sim_up {L : List Ph} (h : Sim s L) {x : Ph} (hx : x ∈ L) : isUp s.G x.id = x.up := by
  obtain ⟨k, hk, e⟩ := view_some' (h.view x hx)
  unfold isUp
  rw [hk]
  unfold hv Ph.see at e
  simp only [Prod.mk.injEq] at e
  exact e.1
theorem sim_ups {L : List Ph} (h : Sim s L) : (L.map Ph.id).filter (isUp s.G) = (L.filter Ph.up).map Ph.id := by
  have : ∀ K : List Ph, (∀ x ∈ K, x ∈ L) → (K.map Ph.id).filter (isUp s.G) = (K.filter Ph.up).map Ph.id := fun K => by
    induction K with
    | nil => intro _; rfl
    | cons x K ih =>
      intro hK
      have hx := sim_up h (hK x (List.mem_cons_self))
      have ih := ih (fun y hy => hK y (List.mem_cons_of_mem _ hy))
      rw [List.map_cons]
      by_cases c : x.up = true
      · rw [List.filter_cons_of_pos (by rw [hx]; exact c), List.filter_cons_of_pos c, List.map_cons, ih]
      · rw [List.filter_cons_of_neg (by rw [hx]; exact c), List.filter_cons_of_neg c, ih]
  exact this L (fun _ h => h)
end
end Go.Proofs.Ytcpfekhpbjkgeaa
end
