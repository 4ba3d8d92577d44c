/- Lemmas for the claim's proof: EligL EligM EligN EligO WalkPlain12. -/
import Derived.Lib.SliceRun
import Derived.Test.YtblbgafadadbmaaQ13
import Derived.Test.YtblbgafadadbmaaQ16
import Derived.Test.YtblbgafadadbmaaQ17
import Derived.Test.YtblbgafadadbmaaQ28
section
/- Functions that are asked of numbers; those of Without. -/
set_option linter.unusedVariables false
namespace Go.Proofs.Ytblbgafadadbmaa
open Go.RowKit
set_option maxHeartbeats 4000000
set_option maxRecDepth 100000
/-- What is asked of a function that tells of a number, in the worlds of a class: it may make memory, and turns nothing. -/
def AsksI (g : FuncId) (lb : Array Value) (p : Int → Bool) (C : World → Prop) : Prop :=
  (∀ args w, (callFunc g args).run Try.prog w = .ok (.enter g args) w) ∧ (∀ W W', C W → Below W.heap.size W W' → C W') ∧
  ∀ (W : World) (z : Int), C W → Calls Try.prog g (#[.int .i64 z] ++ lb) W fun e w' => e = .returned (.bool (p z)) ∧ Below W.heap.size W w'
def idxP (p : Int → Bool) (l : List Int) : Int := match l.findIdx? p with
  | some k => k
  | none => -1
theorem idxP_hit {p : Int → Bool} {l : List Int} {k : Nat} (hk : k < l.length) (h : p (l.getD k 0) = true) (hn : ∀ j, j < k → p (l.getD j 0) = false) : idxP p l = k := by
  have e : ∀ j (hj : j < l.length), l.getD j 0 = l[j] := fun j hj => by rw [List.getD_eq_getElem?_getD, List.getElem?_eq_getElem hj]; rfl
  have : l.findIdx? p = some k := by
    rw [List.findIdx?_eq_some_iff_getElem]
    refine ⟨hk, ?_, fun j hj => ?_⟩
    · rw [← e k hk]; exact h
    · rw [← e j (by omega), hn j hj]; simp
  unfold idxP
  rw [this]
theorem idxP_miss {p : Int → Bool} {l : List Int} (hn : ∀ j, j < l.length → p (l.getD j 0) = false) : idxP p l = -1 := by
  have e : ∀ j (hj : j < l.length), l.getD j 0 = l[j] := fun j hj => by rw [List.getD_eq_getElem?_getD, List.getElem?_eq_getElem hj]; rfl
  have : l.findIdx? p = none := by
    rw [List.findIdx?_eq_none_iff]
    intro x hx
    obtain ⟨j, hj, rfl⟩ := List.getElem_of_mem hx
    rw [← e j hj]
    exact hn j hj
  unfold idxP
  rw [this]
theorem idxP_any (p : Int → Bool) (l : List Int) : decide (0 ≤ idxP p l) = l.any p := by
  unfold idxP
  cases h : l.findIdx? p with
  | none =>
    rw [List.findIdx?_eq_none_iff] at h
    symm
    apply (Bool.eq_false_iff).2
    intro ha
    obtain ⟨x, hx, hp⟩ := List.any_eq_true.1 ha
    have := h x hx
    rw [hp] at this
    cases this
  | some k =>
    rw [List.findIdx?_eq_some_iff_getElem] at h
    obtain ⟨hk, h1, _⟩ := h
    have : l.any p = true := List.any_eq_true.2 ⟨l[k], List.getElem_mem hk, h1⟩
    rw [this]
    show decide (0 ≤ (k : Int)) = true
    exact decide_eq_true (by omega)
theorem indexFunc_ints (g : FuncId) (lb : Array Value) (p : Int → Bool) (C : World → Prop) (A : Option Addr) (n c : Nat) (l : List Int) (w : World) (hl : IsList w .i64 A n c l) (hC : C w) (hp : AsksI g lb p C) :
    Calls Try.prog 91 #[.slice A n c, .func (.func g) #[] lb] w fun e w' => e = .returned (.int .i64 (idxP p l)) ∧ Below w.heap.size w w' := by
  have hlen := Lib.hid hl.len
  have hcap := hl.cap
  have hsm := hl.small
  obtain ⟨eg, hcc, hpp⟩ := hp
  go_enter Try.func91, Try.ntmps91
  go_wp2
  go_loopg [5, 8] n (fun gg _ s8 wr => ∃ k : Nat, k ≤ n ∧ gg = n - k ∧ s8 = .int .i64 k ∧ Below w.heap.size w wr ∧ Hid (∀ j, j < k → p (l.getD j 0) = false))
  case atStart => exact ⟨0, Nat.zero_le _, rfl, rfl, Below.refl _ _, Lib.hid (fun j hj => absurd hj (Nat.not_lt_zero _))⟩
  case round =>
    obtain ⟨k, hk, rfl, rfl, hW, HN⟩ := hrel
    by_cases hkn : k < n
    · obtain ⟨ad, rfl, hbk, x0, _⟩ := (hl.keep hW).get hkn
      have hki : (k : Int) < (n : Int) := by omega
      have hcall := hpp wr (l.getD k 0) (hcc w wr hC hW)
      have HH := Lib.hid (fun h => idxP_hit (p := p) (l := l) (k := k) (by rw [hlen.out]; exact hkn) h HN.out)
      have HM := Lib.hid (show p (l.getD k 0) = false → ∀ j, j < k + 1 → p (l.getD j 0) = false from fun h j hj => (by
        by_cases e : j = k
        · rw [e]; exact h
        · exact HN.out j (by omega)))
      clear hpp hcc
      generalize l.getD k 0 = x at *
      generalize p x = b at *
      cases b with
      | true =>
        go_wp2_with fail
        refine hcall.mono ?_; rintro e w' ⟨rfl, hb'⟩
        go_wp2
        go_ret
        exact ⟨by rw [HH.out (by trivial)]; rfl, below_step hW hb'⟩
      | false =>
        go_wp2_with fail
        refine hcall.mono ?_; rintro e w' ⟨rfl, hb'⟩
        go_wp2
        go_roundg (n - (k + 1))
        case measure => omega
        case rel => exact ⟨k + 1, by omega, rfl, by go_num, below_step hW hb', Lib.hid (HM.out (by trivial))⟩
    · obtain rfl : k = n := by omega
      have HM := Lib.hid (idxP_miss (p := p) (l := l) (fun j hj => HN.out j (by rw [← hlen.out]; exact hj)))
      clear hpp hcc
      go_wp2
      go_ret
      exact ⟨by rw [HM.out]; rfl, hW⟩
theorem containsFunc_ints (g : FuncId) (lb : Array Value) (p : Int → Bool) (C : World → Prop) (A : Option Addr) (n c : Nat) (l : List Int) (w : World) (hl : IsList w .i64 A n c l) (hC : C w) (hp : AsksI g lb p C) :
    Calls Try.prog 80 #[.slice A n c, .func (.func g) #[] lb] w fun e w' => e = .returned (.bool (l.any p)) ∧ Below w.heap.size w w' := by
  have hI := indexFunc_ints g lb p C A n c l w hl hC hp
  have hA := idxP_any p l
  generalize idxP p l = I at *
  generalize l.any p = B at *
  have HA := Lib.hid hA
  clear hA hp hC
  go_enter Try.func80, Try.ntmps80
  go_wp2_with fail
  refine hI.mono ?_; rintro e w' ⟨rfl, hx⟩
  go_wp2
  go_ret
  exact ⟨by rw [← HA.out]; rfl, hx⟩
/-- Is a host below a node? -/
def outN (l : List Nd) (h n : Int) : Bool := decide ((ndAt l n).kind ≠ 0) && up l (ndAt l n).kind h == n
/-- The worlds in which the innermost function is asked. -/
def CIn (b g sb hb : Nat) (l : List Nd) (h : Int) (W : World) : Prop :=
  TR W b l ∧ W.cell? ⟨g, 0, none⟩ = some (.pointer (some ⟨b, 0, none⟩)) ∧ W.cell? ⟨sb, 0, none⟩ = some (.pointer (some ⟨g, 0, none⟩)) ∧ W.cell? ⟨hb, 0, none⟩ = some (.int .i64 h)
theorem asks_in (b g sb hb : Nat) (l : List Nd) (ht : Tall l) (h : Int) : AsksI 81 #[.pointer (some ⟨sb, 0, none⟩), .pointer (some ⟨hb, 0, none⟩)] (outN l h) (CIn b g sb hb l h) := by
  refine ⟨Go.Proofs.enters_of Try.func81 (by kernel_rfl) rfl, fun W W' ⟨h1, h2, h3, h4⟩ hx => ⟨h1.keep hx, cell_keep h2 hx, cell_keep h3 hx, cell_keep h4 hx⟩, fun W z ⟨h1, h2, h3, h4⟩ => ?_⟩
  have hN := tr_Node h1 z
  have hU := fun (w : World) (hT : TR w b l) k => tr_Up hT (tall_rises ht) h k
  have HO := Lib.hid (show outN l h z = (decide ((ndAt l z).kind ≠ 0) && up l (ndAt l z).kind h == z) from rfl)
  generalize outN l h z = O at *
  generalize ndAt l z = x at *
  have hfk := fun w => node_kind x w
  unfold Nd.val at hN
  show Calls Try.prog 81 #[.int .i64 z, .pointer (some ⟨sb, 0, none⟩), .pointer (some ⟨hb, 0, none⟩)] W _
  go_enter Try.func81, Try.ntmps81
  go_wp2_with fail
  refine hN.mono ?_; rintro e w1 ⟨rfl, hx⟩
  have k1 := h1.keep hx
  have k2 := cell_keep h2 hx
  have k3 := cell_keep h3 hx
  have k4 := cell_keep h4 hx
  clear hN h1 h2 h3 h4
  have U2 := cell_under k2
  have U3 := cell_under k3
  have U4 := cell_under k4
  clear k2 k3 k4
  by_cases h0 : x.kind = 0
  · have g1 : (x.kind != 0) = false := by simp [h0]
    have HE := Lib.hid (show O = false by rw [HO.out]; simp [h0])
    clear h0
    go_wp2_with fail
    refine wp_region_quiet_under (by kernel_rfl) (by kernel_rfl) ?_
    repeat (go_big_quiet_step ((fail)))
    refine wpQuiet_nil ?_
    intro wu hw'
    obtain ⟨pq, hw''⟩ := hw'
    have hUx := below_eq hw''
    clear hw'' pq
    go_wp2
    go_ret
    exact ⟨by rw [HE.out]; rfl, below_step hx hUx⟩
  · have g1 : (x.kind != 0) = true := by simp [h0]
    have HE := Lib.hid (show O = (up l x.kind h == z) by rw [HO.out]; simp [h0])
    clear h0
    go_wp2_with fail
    refine wp_region_quiet_under (by kernel_rfl) (by kernel_rfl) ?_
    repeat (go_big_quiet_step (((go_at_call 28; exact calls_under_same (hU _ (k1.keep (under_below _ _)) _)))))
    refine wpQuiet_nil ?_
    intro wu hw'
    obtain ⟨pq, hw''⟩ := hw'
    have hUx := below_eq hw''
    clear hw'' pq
    go_wp2
    go_ret
    exact ⟨by rw [HE.out]; rfl, below_step hx hUx⟩
/-- The worlds in which Without's own function is asked. -/
def COut (b g sb nb : Nat) (l : List Nd) (A : Option Addr) (n c : Nat) (nodes : List Int) (W : World) : Prop :=
  TR W b l ∧ W.cell? ⟨g, 0, none⟩ = some (.pointer (some ⟨b, 0, none⟩)) ∧ W.cell? ⟨sb, 0, none⟩ = some (.pointer (some ⟨g, 0, none⟩)) ∧ W.cell? ⟨nb, 0, none⟩ = some (.slice A n c) ∧ IsList W .i64 A n c nodes
theorem asks_out (b g sb nb : Nat) (l : List Nd) (ht : Tall l) (A : Option Addr) (n c : Nat) (nodes : List Int) : AsksI 79 #[.pointer (some ⟨nb, 0, none⟩), .pointer (some ⟨sb, 0, none⟩)] (fun h => nodes.any (outN l h)) (COut b g sb nb l A n c nodes) := by
  refine ⟨Go.Proofs.enters_of Try.func79 (by kernel_rfl) rfl, fun W W' ⟨h1, h2, h3, h4, h5⟩ hx => ⟨h1.keep hx, cell_keep h2 hx, cell_keep h3 hx, cell_keep h4 hx, h5.keep hx⟩, fun W h ⟨h1, h2, h3, h4, h5⟩ => ?_⟩
  have hx : Below W.heap.size W (W.alloc (.cells #[.int .i64 h] 3)) := (Below.refl _ _).alloc (Nat.le_refl _) _
  have hP := Blk.new W 3 #[.int .i64 h]
  have k1 := h1.keep hx
  have k2 := cell_keep h2 hx
  have k3 := cell_keep h3 hx
  have k4 := cell_keep h4 hx
  have k5 := h5.keep hx
  have hC := containsFunc_ints _ _ (outN l h) (CIn b g sb W.heap.size l h) A n c nodes _ k5 ⟨k1, k2, k3, hP.cell 0⟩ (asks_in b g sb W.heap.size l ht h)
  obtain ⟨R, hR⟩ : ∃ R, R = nodes.any (outN l h) := ⟨_, rfl⟩
  rw [← hR] at hC
  have HR := Lib.hid hR
  clear hR h1 h2 h3 h4 h5 k1 k2 k3 k5
  show Calls Try.prog 79 #[.int .i64 h, .pointer (some ⟨nb, 0, none⟩), .pointer (some ⟨sb, 0, none⟩)] W _
  go_enter Try.func79, Try.ntmps79
  go_upto_region 1 with (fail)
  generalize W.alloc (.cells #[.int .i64 h] 3) = u at *
  go_wp2_with fail
  refine hC.mono ?_; rintro e w' ⟨rfl, hx'⟩
  go_wp2
  go_ret
  exact ⟨by show _ = Ending.returned (.bool (nodes.any (outN l h))); rw [← HR.out]; rfl, below_step hx hx'⟩
/-- Those of which something is not so, as they are kept. -/
theorem deleteFunc_none (g : FuncId) (lb : Array Value) (p : Int → Bool) (C : World → Prop) (A : Option Addr) (n c : Nat) (l : List Int) (w : World) (hl : IsList w .i64 A n c l) (hC : C w) (hp : AsksI g lb p C) (h0 : idxP p l = -1) :
    Calls Try.prog 77 #[.slice A n c, .func (.func g) #[] lb] w fun e w' => e = .returned (.slice A n c) ∧ Below w.heap.size w w' := by
  have hI := indexFunc_ints g lb p C A n c l w hl hC hp
  rw [h0] at hI
  clear hp hC
  go_enter Try.func77, Try.ntmps77
  go_wp2_with fail
  refine hI.mono ?_; rintro e w' ⟨rfl, hx⟩
  go_wp2
  go_ret
  exact ⟨rfl, hx⟩
end Go.Proofs.Ytblbgafadadbmaa
end
section
/- slices.DeleteFunc of a row of one's own. -/
set_option linter.unusedVariables false
namespace Go.Proofs.Ytblbgafadadbmaa
open Go.RowKit
set_option maxHeartbeats 4000000
set_option maxRecDepth 100000
/-- The row as so many have been looked at: those kept stand first, the rest is as it was. -/
structure Kept (p : Int → Bool) (l cur : List Int) (i j : Nat) : Prop where
  len : cur.length = l.length
  lt : i < j
  le : j ≤ l.length
  head : cur.take i = (l.take j).filter fun x => !p x
  tail : ∀ x, j ≤ x → cur.getD x 0 = l.getD x 0
theorem filt_no {p : Int → Bool} {x : Int} (h : p x = true) : [x].filter (fun x => !p x) = [] := by rw [List.filter_cons, if_neg (by simp [h])]; rfl
theorem filt_yes {p : Int → Bool} {x : Int} (h : p x = false) : [x].filter (fun x => !p x) = [x] := by rw [List.filter_cons, if_pos (by simp [h])]; rfl
theorem kept_start {p : Int → Bool} {l : List Int} {k : Nat} (hk : k < l.length) (h : p (l.getD k 0) = true) (hn : ∀ j, j < k → p (l.getD j 0) = false) : Kept p l l k (k + 1) := by
  refine ⟨rfl, Nat.lt_succ_self k, hk, ?_, fun x _ => rfl⟩
  rw [take_stepI l k hk, List.filter_append]
  have e1 : (l.take k).filter (fun x => !p x) = l.take k := by
    rw [List.filter_eq_self]
    intro x hx
    obtain ⟨j, hj, rfl⟩ := List.getElem_of_mem hx
    rw [List.length_take] at hj
    have := hn j (by omega)
    rw [List.getD_eq_getElem?_getD, List.getElem?_eq_getElem (by omega)] at this
    rw [List.getElem_take]
    simp only [Option.getD_some] at this
    rw [this]; rfl
  rw [e1, filt_no h, List.append_nil]
theorem kept_no {p : Int → Bool} {l cur : List Int} {i j : Nat} (h : Kept p l cur i j) (hj : j < l.length) (hp : p (l.getD j 0) = true) : Kept p l cur i (j + 1) := by
  refine ⟨h.len, by have := h.lt; omega, hj, ?_, fun x hx => h.tail x (by omega)⟩
  rw [take_stepI l j hj, List.filter_append, h.head, filt_no hp, List.append_nil]
theorem kept_yes {p : Int → Bool} {l cur : List Int} {i j : Nat} (h : Kept p l cur i j) (hj : j < l.length) (hp : p (l.getD j 0) = false) : Kept p l (cur.set i (l.getD j 0)) (i + 1) (j + 1) := by
  have hlt := h.lt
  have hi : i < cur.length := by rw [h.len]; omega
  refine ⟨by rw [List.length_set]; exact h.len, by omega, hj, ?_, fun x hx => ?_⟩
  · rw [take_stepI l j hj, List.filter_append, ← h.head]
    rw [List.take_succ_eq_append_getElem (by rw [List.length_set]; exact hi), List.take_set_of_le (Nat.le_refl i), List.getElem_set_self]
    rw [filt_yes hp]
  · have ht := h.tail x (by omega)
    rw [List.getD_eq_getElem?_getD, List.getElem?_set_ne (by omega), ← List.getD_eq_getElem?_getD, ht]
theorem ints_set (cur : List Int) (i : Nat) (z : Int) : ints (cur.set i z) = (ints cur).set i (.int .i64 z) := by
  unfold ints; rw [List.map_set]
theorem own_blk {w : World} {B : Nat} {T : TypeId} {r n c : Nat} {xs : List Value} (h : w.ownsRow B T 1 (.slice (some ⟨r, 0, none⟩) n c) n xs) : ∃ cs, Blk w r T cs := by
  rcases h.2 with ⟨h', _⟩ | ⟨g', cap', cur, h', _, hg, _⟩
  · simp at h'
  · simp only [Value.slice.injEq, Option.some.injEq, Addr.mk.injEq, and_true, true_and] at h'
    obtain ⟨rfl, rfl⟩ := h'
    exact ⟨cur, hg⟩
theorem own_cell {w : World} {B : Nat} {r n c : Nat} {cur : List Int} (h : w.ownsRow B 3 1 (.slice (some ⟨r, 0, none⟩) n c) n (ints cur)) {j : Nat} (hj : j < n) : w.cell? ⟨r, j, none⟩ = some (.int .i64 (cur.getD j 0)) ∧ w.frozen? ⟨r, j, none⟩ = false := by
  have hl : cur.length = n := by have := h.1; simpa [ints] using this
  have hc := h.cells (g := r) rfl j (.int .i64 (cur.getD j 0)) (by
    unfold ints
    rw [List.getElem?_map, List.getD_eq_getElem?_getD, List.getElem?_eq_getElem (by omega)]; rfl)
  have e : (⟨r, 0, none⟩ : Addr).add j = ⟨r, j, none⟩ := by unfold Addr.add; split <;> simp_all
  rw [e] at hc
  obtain ⟨cs, hB⟩ := own_blk h
  exact ⟨hc, hB.free j⟩
theorem below_setCells {B : Nat} {w w' : World} {b : Nat} (h : Below B w w') (hb : B ≤ b) : ∀ (vs : List Value) (o : Nat), Below B w (w'.setCells b o vs)
  | vs, o => by
    induction vs generalizing w' o with
    | nil => exact h
    | cons v vs ih => exact ih (below_own h hb o v) (o + 1)
theorem size_setCells (b : Nat) : ∀ (vs : List Value) (o : Nat) (w : World), w.heap.size ≤ (w.setCells b o vs).heap.size
  | vs, o, w => by
    induction vs generalizing w o with
    | nil => exact Nat.le_refl _
    | cons v vs ih => exact Nat.le_trans (by simp) (ih (o + 1) (w.setCell ⟨b, o, none⟩ v))
theorem deleteFunc_some (g : FuncId) (lb : Array Value) (p : Int → Bool) (w0 : World) (hp : AsksI g lb p (fun W => Below w0.heap.size w0 W)) (r n c B : Nat) (l : List Int) (w : World) (hr : w0.heap.size ≤ r)
    (hown : w.ownsRow B 3 1 (.slice (some ⟨r, 0, none⟩) n c) n (ints l)) (hwf : ∀ z ∈ l, (Lit.int .i64 z).wf = true) (hn : n ≤ 1024) (hb : Below w0.heap.size w0 w) (k0 : Nat) (hk0 : k0 < n) (hpk : p (l.getD k0 0) = true) (hpn : ∀ j, j < k0 → p (l.getD j 0) = false) :
    Calls Try.prog 77 #[.slice (some ⟨r, 0, none⟩) n c, .func (.func g) #[] lb] w fun e w' => e = .returned (.slice (some ⟨r, 0, none⟩) (l.filter fun x => !p x).length c) ∧
      IsList w' .i64 (some ⟨r, 0, none⟩) (l.filter fun x => !p x).length c (l.filter fun x => !p x) ∧ Below w0.heap.size w0 w' := by
  have hlen : l.length = n := by have := hown.1; simpa [ints] using this
  obtain ⟨A', c', e', hI, _⟩ := own_list hown hwf (by omega)
  injection e' with e1 e2 e3
  subst e1 e3
  have hX := indexFunc_ints g lb p _ _ n c l w hI hb hp
  rw [idxP_hit (by rw [hlen]; exact hk0) hpk hpn] at hX
  obtain ⟨eg, _, hpp⟩ := hp
  have hcap := hI.cap
  have hsm := hI.small
  have HL := Lib.hid hlen
  have HK := Lib.hid (kept_start (p := p) (l := l) (by rw [hlen]; exact hk0) hpk hpn)
  have hne : ((k0 : Int) == -1) = false := by rw [beq_eq_false_iff_ne]; omega
  clear hpk hpn hI hlen
  go_enter Try.func77, Try.ntmps77
  go_wp2_with fail
  refine hX.mono ?_; rintro e w1 ⟨rfl, hx1⟩
  have hown1 := own_keep hown hx1
  have hb1 := below_step hb hx1
  clear hX hown hb hx1
  go_wp2_with fail
  go_loopg [5, 6, 7] (n - (k0 + 1)) (fun gg s5 s6 s7 wr => ∃ (i j : Nat) (cur : List Int), j ≤ n ∧ gg = n - j ∧ i < j ∧ s5 = .int .i64 i ∧ s6 = .int .i64 j ∧ wr.ownsRow B 3 1 (.slice (some ⟨r, 0, none⟩) n c) n (ints cur) ∧ Below w0.heap.size w0 wr ∧ Hid (Kept p l cur i j))
  case atStart => exact ⟨k0, k0 + 1, l, by omega, rfl, Nat.lt_succ_self _, rfl, by go_num, hown1, hb1, HK⟩
  case round =>
    clear hown1 hb1 HK hne
    obtain ⟨i, j, cur, hj, rfl, hij, rfl, rfl, hown, hb, HK⟩ := hrel
    by_cases hjn : j < n
    · have hji : (j : Int) < (n : Int) := by omega
      have hjl : j < l.length := by rw [HL.out]; exact hjn
      have x0 := (own_cell hown hjn).1
      rw [HK.out.tail j (Nat.le_refl _)] at x0
      have hcall := hpp wr (l.getD j 0) hb
      have HN := Lib.hid (fun h => kept_no HK.out hjl h)
      have HY := Lib.hid (fun h => kept_yes HK.out hjl h)
      generalize l.getD j 0 = v at *
      generalize p v = b at *
      cases b with
      | true =>
        clear hpp
        go_wp2_with fail
        refine hcall.mono ?_; rintro e w5 ⟨rfl, hx5⟩
        have hown5 := own_keep hown hx5
        have hb5 := below_step hb hx5
        go_wp2
        go_roundg (n - (j + 1))
        case measure => omega
        case rel => exact ⟨i, j + 1, cur, by omega, rfl, by omega, rfl, by go_num, hown5, hb5, Lib.hid (HN.out (by trivial))⟩
      | false =>
        clear hpp
        go_wp2_with fail
        refine hcall.mono ?_; rintro e w5 ⟨rfl, hx5⟩
        have hown5 := own_keep hown hx5
        have hb5 := below_step hb hx5
        obtain ⟨y0, y1⟩ := own_cell hown5 (j := i) (by omega)
        have hown6 := (hown5.stored i (.int .i64 v)).1
        rw [← ints_set] at hown6
        have hb6 := below_own hb5 hr i (.int .i64 v)
        have hii : (i : Int) < (n : Int) := by omega
        clear hown hown5 hb hb5 x0 hcall
        go_wp2
        go_roundg (n - (j + 1))
        case measure => omega
        case rel => exact ⟨i + 1, j + 1, cur.set i v, by omega, rfl, by omega, by go_num, by go_num, hown6, hb6, Lib.hid (HY.out (by trivial))⟩
    · obtain rfl : j = n := by omega
      have HE := Lib.hid (show cur.take i = l.filter fun x => !p x by rw [HK.out.head, ← HL.out, List.take_length])
      have hcl : cur.length = j := by rw [HK.out.len, HL.out]
      have hclr : ∀ ty, (Builtin.clear_ #[23] ty #[.slice (some ⟨r, i, none⟩) (j - i) (c - i)]).run Try.prog wr = .ok (.tuple #[]) (wr.setCells r i (List.replicate (j - i) (.int .i64 0))) := fun ty =>
        Lib.run_clear_slice (P := Try.prog) wr 23 3 ty (.int .i64 0) Try.underlying23 (fun w => by kernel_rfl) rfl rfl r i (j - i) (c - i) (by omega) (fun x hx => by rw [(own_cell hown (j := i + x) (by omega)).1]; rfl) (fun x hx => (own_cell hown (j := i + x) (by omega)).2)
      have hic : i ≤ c := by omega
      have hii : (i : Int) ≤ (c : Int) := by omega
      have hij2 : (i : Int) ≤ (j : Int) := by omega
      clear hpp
      have hil : (l.filter fun x => !p x).length = i := by rw [← HE.out, List.length_take, hcl]; omega
      have hbe := below_setCells hb hr (List.replicate (j - i) (Value.int .i64 0)) i
      have hrl : r < wr.heap.size := (own_blk hown).elim fun cs h => h.lt
      have hrl2 : wr.heap.size ≤ (wr.setCells r i (List.replicate (j - i) (Value.int .i64 0))).heap.size := size_setCells _ _ _ _
      have hLI : IsList (wr.setCells r i (List.replicate (j - i) (Value.int .i64 0))) .i64 (some ⟨r, 0, none⟩) (l.filter fun x => !p x).length c (l.filter fun x => !p x) := by
        rw [hil]
        refine ⟨⟨by rw [List.length_map, hil]; omega, fun h0 => ⟨_, rfl, by show r < _; omega, fun y u hu => ?_⟩⟩, hil, by omega, hsm, fun z hz => hwf z (List.mem_filter.1 hz).1, by omega⟩
        rw [List.getElem?_map] at hu
        obtain ⟨z, hz, rfl⟩ := Option.map_eq_some_iff.1 hu
        have hy : y < i := by
          rcases Nat.lt_or_ge y i with h | h
          · exact h
          · rw [List.getElem?_eq_none (by rw [hil]; exact h)] at hz; cases hz
        have e : (⟨r, 0, none⟩ : Addr).add y = ⟨r, y, none⟩ := by unfold Addr.add; split <;> simp_all
        rw [e, World.cell?_setCells_out r _ _ _ _ (fun _ _ => .inl hy), (own_cell hown (j := y) (by omega)).1]
        rw [← HE.out, List.getElem?_take, if_pos hy] at hz
        rw [List.getD_eq_getElem?_getD, hz]; rfl
      clear hcl
      go_wp2_with fail
      go_ret
      exact ⟨by rw [hil]; rfl, hLI, hbe⟩
end Go.Proofs.Ytblbgafadadbmaa
end
section
/- List once more, its row owned by the call. -/
set_option linter.unusedVariables false
namespace Go.Proofs.Ytblbgafadadbmaa
open Go.RowKit
set_option maxHeartbeats 4000000
set_option maxRecDepth 100000
theorem set_ListOwn {w : World} {g b n gw gs : Nat} {W : Nat → Int} {S : Nat → Bool} {vH : Value} {H : List Int} (h : SetIs w g b n gw gs W S vH H) (hwf : ∀ z ∈ H, (Lit.int .i64 z).wf = true) (hl : H.length ≤ 1024) :
    Calls Try.prog 78 #[.pointer (some ⟨g, 0, none⟩)] w fun e w' => ∃ v, e = .returned v ∧ w'.ownsRow w.heap.size 3 1 v H.length (ints H) ∧ Below w.heap.size w w' := by
  have hN := set_none h
  obtain ⟨c0, c1, c2, c3, _⟩ := h.blk.cells4
  obtain ⟨iI, hiI, hzI, hzI1, hzI2⟩ := info_parts Try.infoI
  obtain ⟨A0, a0, rfl, hI0, _⟩ := own_list h.rH hwf (by omega)
  have hR := hI0.reads
  go_enter Try.func78, Try.ntmps78
  go_wp2_with fail
  refine hN.mono ?_; rintro e w' ⟨rfl, rfl⟩
  go_wp2_with (at_builtin; go_loud (refine wpList_append_any _ rfl _ (.tmp 8) _ rfl w.heap.size 3 iI _ 1 8 Try.underlying23 hiI hzI hzI1 hzI2 rfl (by decide) (.slice none 0 0) 0 [] rfl (World.ownsRow_nil _ _ _ _) _ A0 H.length a0 (ints H) rfl hR (ints_one' H) (by simp only [maxLen]; omega) (by omega) (Nat.le_refl _) ?_; intro v6 w6 hown6 hg6 hat6))
  have hown7 : w6.ownsRow w.heap.size 3 1 v6 H.length (ints H) := by simpa using hown6
  have hW6 := push_below (Below.refl w.heap.size w) hg6 (fun k hk => by simp [Value.ownBlock] at hk)
  go_wp2
  go_ret
  exact ⟨v6, by simp, hown7, hW6⟩
end Go.Proofs.Ytblbgafadadbmaa
end
section
/- A set without the hosts below some nodes, in plain Lean. -/
set_option linter.unusedVariables false
namespace Go.Proofs.Ytblbgafadadbmaa
open Go.RowKit
set_option maxHeartbeats 4000000
set_option maxRecDepth 100000
/-- Those hosts that may be picked and are not below one of the nodes. -/
def keepN (l : List Nd) (hosts nodes : List Int) : List Int := (picks l hosts).filter fun h => !(nodes.any (outN l h))
theorem picks_range (l : List Nd) (hosts : List Int) : picks l hosts = ((List.range l.length).filter (pk l hosts)).map fun j : Nat => (j : Int) := by
  rw [← pkTo_all]; rfl
theorem keepN_range (l : List Nd) (hosts nodes : List Int) : keepN l hosts nodes = ((List.range l.length).filter fun j => pk l hosts j && !(nodes.any (outN l (j : Int)))).map fun j : Nat => (j : Int) := by
  unfold keepN
  rw [picks_range, List.filter_map, List.filter_filter]
  congr 1
  apply List.filter_congr
  intro j _
  simp only [Function.comp_apply]
  rw [Bool.and_comm]
theorem keepN_contains (l : List Nd) (hosts nodes : List Int) (j : Nat) (hj : j < l.length) : (keepN l hosts nodes).contains (j : Int) = (pk l hosts j && !(nodes.any (outN l (j : Int)))) := by
  rw [keepN_range]
  apply Bool.eq_iff_iff.2
  rw [List.contains_iff_mem, List.mem_map]
  constructor
  · rintro ⟨k, hk, e⟩
    obtain rfl : k = j := by omega
    exact (List.mem_filter.1 hk).2
  · intro h
    exact ⟨j, List.mem_filter.2 ⟨List.mem_range.2 hj, h⟩, rfl⟩
theorem picks_keepN (l : List Nd) (hosts nodes : List Int) : picks l (keepN l hosts nodes) = keepN l hosts nodes := by
  rw [picks_range]
  conv => rhs; rw [keepN_range]
  congr 1
  apply List.filter_congr
  intro j hj
  rw [List.mem_range] at hj
  have hc := keepN_contains l hosts nodes j hj
  have hp : pk l (keepN l hosts nodes) j = ((l.getD j nd0).kind == 4 && decide (0 < (l.getD j nd0).weight) && (keepN l hosts nodes).contains (j : Int)) := rfl
  rw [hp, hc]
  have hq : pk l hosts j = ((l.getD j nd0).kind == 4 && decide (0 < (l.getD j nd0).weight) && hosts.contains (j : Int)) := rfl
  rw [hq]
  cases (l.getD j nd0).kind == 4 <;> cases decide (0 < (l.getD j nd0).weight) <;> simp
/-- What the law asks of a host and a node. -/
theorem outN_law {l : List Nd} (ht : Tall l) (h n : Int) : outN l h n = (decide (0 ≤ n ∧ n < l.length) && belF l n 4 h) := by
  unfold outN
  by_cases hn : 0 ≤ n ∧ n < l.length
  · rw [bel_four ht n hn.1 hn.2, decide_eq_true hn]
    have hd := tall_head ht n.toNat (by omega)
    rw [← ndAt_in hn.1] at hd
    have := hd.kind0
    rw [decide_eq_true (by omega)]
  · rw [decide_eq_false hn, ndAt_out l n (by omega)]
    rfl
def kpTo (p : Int → Bool) (H : List Int) (i : Nat) : List Int := (H.take i).filter fun h => !p h
theorem kpTo_step (p : Int → Bool) (H : List Int) (i : Nat) (hi : i < H.length) : kpTo p H (i + 1) = kpTo p H i ++ if p (H.getD i 0) = true then [] else [H.getD i 0] := by
  unfold kpTo
  rw [take_stepI H i hi, List.filter_append]
  congr 1
  by_cases h : p (H.getD i 0) = true
  · rw [if_pos h, filt_no h]
  · rw [if_neg h, filt_yes (by simpa using h)]
theorem kpTo_le (p : Int → Bool) (H : List Int) (i : Nat) : (kpTo p H i).length ≤ i := by
  unfold kpTo
  exact Nat.le_trans (List.length_filter_le _ _) (by rw [List.length_take]; omega)
theorem kpTo_all (p : Int → Bool) (H : List Int) : kpTo p H H.length = H.filter fun h => !p h := by
  unfold kpTo; rw [List.take_length]
theorem kpTo_prefix (p : Int → Bool) (H : List Int) (i : Nat) : ∀ d, i + d ≤ H.length → kpTo p H i <+: kpTo p H (i + d)
  | 0, _ => List.prefix_refl _
  | d + 1, h => by
    rw [show i + (d + 1) = (i + d) + 1 by omega, kpTo_step p H (i + d) (by omega)]
    exact (kpTo_prefix p H i d (by omega)).trans (List.prefix_append _ _)
theorem kpTo_at {p : Int → Bool} {H : List Int} {i : Nat} (hi : i < H.length) (h : p (H.getD i 0) = false) : (kpTo p H i).length < (H.filter fun h => !p h).length ∧ (H.filter fun h => !p h).getD (kpTo p H i).length 0 = H.getD i 0 := by
  have hp := kpTo_prefix p H (i + 1) (H.length - (i + 1)) (by omega)
  rw [show i + 1 + (H.length - (i + 1)) = H.length by omega, kpTo_all, kpTo_step p H i hi, if_neg (by rw [h]; simp)] at hp
  obtain ⟨t, ht⟩ := hp
  rw [← ht]
  refine ⟨by simp, ?_⟩
  rw [List.getD_eq_getElem?_getD]
  simp
end Go.Proofs.Ytblbgafadadbmaa
end
section
/- Copies, in plain Lean: as a host is picked, just one node of the kind loses its hosts. -/
set_option linter.unusedVariables false
namespace Go.Proofs.Ytblbgafadadbmaa
open Go.RowKit
theorem pk_keepN (l : List Nd) (hosts nodes : List Int) (j : Nat) (hj : j < l.length) : pk l (keepN l hosts nodes) j = (pk l hosts j && !(nodes.any (outN l (j : Int)))) := by
  have hc := keepN_contains l hosts nodes j hj
  have hp : pk l (keepN l hosts nodes) j = ((l.getD j nd0).kind == 4 && decide (0 < (l.getD j nd0).weight) && (keepN l hosts nodes).contains (j : Int)) := rfl
  rw [hp, hc]
  have hq : pk l hosts j = ((l.getD j nd0).kind == 4 && decide (0 < (l.getD j nd0).weight) && hosts.contains (j : Int)) := rfl
  rw [hq]
  cases (l.getD j nd0).kind == 4 <;> cases decide (0 < (l.getD j nd0).weight) <;> simp
/-- How many nodes of a kind have a host that may be picked. -/
def dn (l : List Nd) (K : List Int) (kd : Int) : Nat := (selTo (domP l (hs l K) kd) l.length).length
theorem sel_less {p q : Nat → Bool} {u : Nat} (hq : ∀ j, q j = (p j && decide (j ≠ u))) (hu : p u = true) : ∀ n, (selTo q n).length + (if u < n then 1 else 0) = (selTo p n).length
  | 0 => rfl
  | n + 1 => by
    have ih := sel_less hq hu n
    rw [selTo_step, selTo_step, List.length_append, List.length_append, hq n]
    by_cases h : n = u
    · subst h
      have e1 : (if n < n then 1 else 0 : Nat) = 0 := if_neg (by omega)
      have e2 : (if n < n + 1 then 1 else 0 : Nat) = 1 := if_pos (by omega)
      rw [e1] at ih
      rw [e2, hu]
      simp
      omega
    · have : decide (n ≠ u) = true := decide_eq_true h
      rw [this, Bool.and_true]
      generalize (if p n = true then [(n : Int)] else []).length = x
      by_cases h2 : u < n
      · have e1 : (if u < n then 1 else 0 : Nat) = 1 := if_pos h2
        have e2 : (if u < n + 1 then 1 else 0 : Nat) = 1 := if_pos (by omega)
        rw [e1] at ih
        rw [e2]
        omega
      · have e1 : (if u < n then 1 else 0 : Nat) = 0 := if_neg h2
        have e2 : (if u < n + 1 then 1 else 0 : Nat) = 0 := if_neg (by omega)
        rw [e1] at ih
        rw [e2]
        omega
/-- The node of a kind above a host. -/
theorem up_kind_of {l : List Nd} (ht : Tall l) {kd : Int} (h2 : 2 ≤ kd) (h4 : kd ≤ 4) {h : Nat} (hh : h < l.length) (hk : (l.getD h nd0).kind = 4) : ∃ u : Nat, up l kd h = u ∧ u < l.length ∧ (l.getD u nd0).kind = kd := by
  obtain ⟨c0, c1, c2, _⟩ := up_chain ht (kd - 1) (by omega) 4 h (by omega) (by omega) (by rw [ndAt_nat]; omega) (by rw [ndAt_nat]; omega)
  rw [show kd - 1 + 1 = kd by omega] at c0 c1 c2
  obtain ⟨u, hu⟩ := Int.eq_ofNat_of_zero_le c0
  rw [hu] at c1 c2
  rw [ndAt_nat] at c2
  exact ⟨u, hu, by omega, c2⟩
theorem outN_up {l : List Nd} {u : Nat} {kd : Int} (hk : (l.getD u nd0).kind = kd) (h0 : kd ≠ 0) (j : Int) : outN l j (u : Int) = (up l kd j == (u : Int)) := by
  unfold outN
  rw [ndAt_nat, hk, decide_eq_true h0, Bool.true_and]
/-- What is so of the copies so far, and of the hosts that may still be picked. -/
structure CI (l : List Nd) (hosts : List Int) (kd frm key : Int) (K out : List Int) : Prop where
  ki : ∀ j, j < l.length → pk l K j = (pk l hosts j && !(out.any fun c => up l kd (j : Int) == up l kd c))
  dn : dn l K kd + out.length = dn l hosts kd
  pks : ∀ i, i < out.length → ∃ j : Nat, out.getD i 0 = j ∧ j < l.length ∧ pk l hosts j = true
  dis : ∀ i k, k < i → i < out.length → up l kd (out.getD i 0) ≠ up l kd (out.getD k 0)
  first : 0 < out.length → out.getD 0 0 = hostI l (wt l hosts) (hs l hosts) frm 140 5 key
  none : out = [] → K = hosts
theorem CI.start (l : List Nd) (hosts : List Int) (kd frm key : Int) : CI l hosts kd frm key hosts [] where
  ki := fun j hj => by simp
  dn := rfl
  pks := fun i h => absurd h (Nat.not_lt_zero _)
  dis := fun i k _ h => absurd h (Nat.not_lt_zero _)
  first := fun h => absurd h (Nat.not_lt_zero _)
  none := fun _ => rfl
theorem any_ups (l : List Nd) (kd : Int) (out : List Int) (j : Int) : (out.any fun c => up l kd j == up l kd c) = ((out.map (up l kd)).any fun u => up l kd j == u) := by
  induction out with
  | nil => rfl
  | cons c out ih => rw [List.any_cons, List.map_cons, List.any_cons, ih]
theorem any_out {l : List Nd} (ht : Tall l) {kd : Int} (h2 : 2 ≤ kd) (h4 : kd ≤ 4) (j : Int) : ∀ out : List Int, (∀ c ∈ out, ∃ h : Nat, c = h ∧ h < l.length ∧ (l.getD h nd0).kind = 4) → ((out.map (up l kd)).any (outN l j)) = (out.any fun c => up l kd j == up l kd c)
  | [], _ => rfl
  | c :: out, h => by
    rw [List.map_cons, List.any_cons, List.any_cons, any_out ht h2 h4 j out (fun x hx => h x (List.mem_cons_of_mem _ hx))]
    obtain ⟨g, rfl, hg, hk⟩ := h c (List.mem_cons_self ..)
    obtain ⟨u, e, _, hu⟩ := up_kind_of ht h2 h4 hg hk
    rw [e, outN_up hu (by omega)]
theorem hs_iff {l : List Nd} (ht : Tall l) (K : List Int) {i : Nat} (hi : i < l.length) : hs l K i = true ↔ ∃ k : Nat, k < l.length ∧ pk l K k = true ∧ up l (l.getD i nd0).kind k = i := by
  rw [hs_any ht K 4 i hi (by have := (tall_head ht i hi).kind0; omega), List.any_eq_true]
  constructor
  · rintro ⟨k, hk, h⟩
    rw [Bool.and_eq_true, beq_iff_eq] at h
    exact ⟨k, List.mem_range.1 hk, h.1, h.2⟩
  · rintro ⟨k, hk, h1, h2⟩
    exact ⟨k, List.mem_range.2 hk, by rw [Bool.and_eq_true, beq_iff_eq]; exact ⟨h1, h2⟩⟩
theorem CI.mem {l : List Nd} {hosts K out : List Int} {kd frm key : Int} (h : CI l hosts kd frm key K out) : ∀ c ∈ out, ∃ j : Nat, c = j ∧ j < l.length ∧ (l.getD j nd0).kind = 4 := fun c hc => by
  obtain ⟨i, hi, rfl⟩ := List.getElem_of_mem hc
  obtain ⟨j, e, hj, hp⟩ := h.pks i hi
  rw [List.getD_eq_getElem?_getD, List.getElem?_eq_getElem hi] at e
  exact ⟨j, e, hj, (pk_host hp).1⟩
theorem CI.step {l : List Nd} (ht : Tall l) (hl : l.length ≤ 1024) {hosts K out : List Int} {kd frm key : Int} (k2 : 2 ≤ kd) (k4 : kd ≤ 4) (h : CI l hosts kd frm key K out)
    (h0 : 0 ≤ hostI l (wt l K) (hs l K) frm 140 5 key) : CI l hosts kd frm key (keepN l K ((out ++ [hostI l (wt l K) (hs l K) frm 140 5 key]).map (up l kd))) (out ++ [hostI l (wt l K) (hs l K) frm 140 5 key]) := by
  obtain ⟨g, _, e, hg, hp, _⟩ := host_is ht K hl frm 140 5 key h0
  have hfirst : 0 = out.length → hostI l (wt l K) (hs l K) frm 140 5 key = hostI l (wt l hosts) (hs l hosts) frm 140 5 key := fun h1 => by rw [h.none (List.eq_nil_of_length_eq_zero h1.symm)]
  rw [e] at hfirst ⊢
  have hk4 := (pk_host hp).1
  have hph := hp
  rw [h.ki g hg, Bool.and_eq_true] at hph
  have hall : ∀ c ∈ out ++ [(g : Int)], ∃ j : Nat, c = j ∧ j < l.length ∧ (l.getD j nd0).kind = 4 := fun c hc => by
    rcases List.mem_append.1 hc with hc | hc
    · exact h.mem c hc
    · obtain rfl : c = (g : Int) := by simpa using hc
      exact ⟨g, rfl, hg, hk4⟩
  obtain ⟨u, eu, hu, hku⟩ := up_kind_of ht k2 k4 hg hk4
  have hki : ∀ j, j < l.length → pk l (keepN l K ((out ++ [(g : Int)]).map (up l kd))) j = (pk l K j && !(up l kd (j : Int) == (u : Int))) := fun j hj => by
    rw [pk_keepN l K _ j hj, any_out ht k2 k4 (j : Int) _ hall, List.any_append, h.ki j hj]
    simp only [List.any_cons, List.any_nil, Bool.or_false, eu]
    cases pk l hosts j <;> cases (out.any fun c => up l kd (j : Int) == up l kd c) <;> simp
  refine ⟨fun j hj => ?_, ?_, fun i hi => ?_, fun i k hki' hi => ?_, fun _ => ?_, fun hn => by simp at hn⟩
  · rw [hki j hj, h.ki j hj, List.any_append]
    simp only [List.any_cons, List.any_nil, Bool.or_false, eu]
    cases pk l hosts j <;> cases (out.any fun c => up l kd (j : Int) == up l kd c) <;> simp
  · have hd : ∀ j, j < l.length → domP l (hs l (keepN l K ((out ++ [(g : Int)]).map (up l kd)))) kd j = (domP l (hs l K) kd j && decide (j ≠ u)) := fun j hj => by
      unfold domP
      by_cases hjk : (l.getD j nd0).kind = kd
      · rw [hjk, beq_self_eq_true, Bool.and_true, Bool.and_true]
        apply Bool.eq_iff_iff.2
        rw [hs_iff ht _ hj, Bool.and_eq_true, hs_iff ht _ hj, decide_eq_true_eq, hjk]
        constructor
        · rintro ⟨k, hk, h1, h2⟩
          rw [hki k hk, Bool.and_eq_true, Bool.not_eq_true', beq_eq_false_iff_ne] at h1
          exact ⟨⟨k, hk, h1.1, h2⟩, fun e => h1.2 (by rw [h2, e])⟩
        · rintro ⟨⟨k, hk, h1, h2⟩, h3⟩
          refine ⟨k, hk, ?_, h2⟩
          rw [hki k hk, Bool.and_eq_true, Bool.not_eq_true', beq_eq_false_iff_ne]
          exact ⟨h1, fun e => h3 (by omega)⟩
      · rw [beq_eq_false_iff_ne.2 hjk, Bool.and_false, Bool.and_false, Bool.false_and]
    have hdu : domP l (hs l K) kd u = true := by
      unfold domP
      rw [hku, beq_self_eq_true, Bool.and_true, hs_iff ht _ hu, hku]
      exact ⟨g, hg, hp, eu⟩
    have hs2 : selTo (domP l (hs l (keepN l K ((out ++ [(g : Int)]).map (up l kd)))) kd) l.length = selTo (fun j => domP l (hs l K) kd j && decide (j ≠ u)) l.length := by
      unfold selTo
      congr 1
      apply List.filter_congr
      intro j hj
      exact hd j (List.mem_range.1 hj)
    have hles := sel_less (p := domP l (hs l K) kd) (q := fun j => domP l (hs l K) kd j && decide (j ≠ u)) (u := u) (fun _ => rfl) hdu l.length
    rw [if_pos hu] at hles
    have hdn := h.dn
    unfold Go.Proofs.Ytblbgafadadbmaa.dn at hdn ⊢
    rw [hs2, List.length_append]
    simp only [List.length_cons, List.length_nil]
    omega
  · by_cases hi2 : i < out.length
    · rw [List.getD_eq_getElem?_getD, List.getElem?_append_left hi2, ← List.getD_eq_getElem?_getD]
      exact h.pks i hi2
    · rw [List.length_append, List.length_singleton] at hi
      obtain rfl : i = out.length := by omega
      exact ⟨g, by rw [List.getD_eq_getElem?_getD]; simp, hg, hph.1⟩
  · rw [List.length_append, List.length_singleton] at hi
    have hk2 : k < out.length := by omega
    rw [List.getD_eq_getElem?_getD (i := k), List.getElem?_append_left hk2, ← List.getD_eq_getElem?_getD]
    by_cases hi2 : i < out.length
    · rw [List.getD_eq_getElem?_getD (i := i), List.getElem?_append_left hi2, ← List.getD_eq_getElem?_getD]
      exact h.dis i k hki' hi2
    · obtain rfl : i = out.length := by omega
      have : (out ++ [(g : Int)]).getD out.length 0 = g := by rw [List.getD_eq_getElem?_getD]; simp
      rw [this]
      intro e
      have h3 := hph.2
      rw [Bool.not_eq_true', List.any_eq_false] at h3
      exact h3 (out.getD k 0) (getD_mem out 0 hk2) (by rw [beq_iff_eq]; exact e)
  · by_cases hi2 : 0 < out.length
    · rw [List.getD_eq_getElem?_getD, List.getElem?_append_left hi2, ← List.getD_eq_getElem?_getD]
      exact h.first hi2
    · have h5 : 0 = out.length := by omega
      obtain rfl := List.eq_nil_of_length_eq_zero h5.symm
      exact hfirst rfl
theorem dn_none {l : List Nd} (ht : Tall l) (hl : l.length ≤ 1024) {K : List Int} {kd frm key : Int} (h0 : hostI l (wt l K) (hs l K) frm 140 5 key < 0) : dn l K kd = 0 := by
  unfold dn
  cases hd : selTo (domP l (hs l K) kd) l.length with
  | nil => rfl
  | cons z zs =>
    have hz : z ∈ selTo (domP l (hs l K) kd) l.length := by rw [hd]; exact List.mem_cons_self ..
    obtain ⟨j, rfl, hj, hp⟩ := selTo_mem.1 hz
    unfold domP at hp
    rw [Bool.and_eq_true] at hp
    obtain ⟨k, hk, h1, _⟩ := (hs_iff ht K hj).1 hp.1
    have := host_found ht K hl frm 5 key (f := 140) (by omega) (by omega) hk h1
    omega
end Go.Proofs.Ytblbgafadadbmaa
end
