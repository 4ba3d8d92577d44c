/- Functions that are asked of numbers; those of Without. -/
import Derived.Test.YtdkijmiflommeaaEligI
set_option linter.unusedVariables false
namespace Go.Proofs.Ytdkijmiflommeaa
open Go.RowKit
set_option maxHeartbeats 4000000
set_option maxRecDepth 100000
/-- What is asked of a function that tells of a number, in the worlds of a class: it may make memory, and turns nothing. -/
def AsksI (g : FuncId) (lb : Array Value) (p : Int → Bool) (C : World → Prop) : Prop :=
  (∀ args w, (callFunc g args).run Try.prog w = .ok (.enter g args) w) ∧ (∀ W W', C W → Below W.heap.size W W' → C W') ∧
  ∀ (W : World) (z : Int), C W → Calls Try.prog g (#[.int .i64 z] ++ lb) W fun e w' => e = .returned (.bool (p z)) ∧ Below W.heap.size W w'
def idxP (p : Int → Bool) (l : List Int) : Int := match l.findIdx? p with
  | some k => k
  | none => -1
theorem idxP_hit {p : Int → Bool} {l : List Int} {k : Nat} (hk : k < l.length) (h : p (l.getD k 0) = true) (hn : ∀ j, j < k → p (l.getD j 0) = false) : idxP p l = k := by
  have e : ∀ j (hj : j < l.length), l.getD j 0 = l[j] := fun j hj => by rw [List.getD_eq_getElem?_getD, List.getElem?_eq_getElem hj]; rfl
  have : l.findIdx? p = some k := by
    rw [List.findIdx?_eq_some_iff_getElem]
    refine ⟨hk, ?_, fun j hj => ?_⟩
    · rw [← e k hk]; exact h
    · rw [← e j (by omega), hn j hj]; simp
  unfold idxP
  rw [this]
theorem idxP_miss {p : Int → Bool} {l : List Int} (hn : ∀ j, j < l.length → p (l.getD j 0) = false) : idxP p l = -1 := by
  have e : ∀ j (hj : j < l.length), l.getD j 0 = l[j] := fun j hj => by rw [List.getD_eq_getElem?_getD, List.getElem?_eq_getElem hj]; rfl
  have : l.findIdx? p = none := by
    rw [List.findIdx?_eq_none_iff]
    intro x hx
    obtain ⟨j, hj, rfl⟩ := List.getElem_of_mem hx
    rw [← e j hj]
    exact hn j hj
  unfold idxP
  rw [this]
theorem idxP_any (p : Int → Bool) (l : List Int) : decide (0 ≤ idxP p l) = l.any p := by
  unfold idxP
  cases h : l.findIdx? p with
  | none =>
    rw [List.findIdx?_eq_none_iff] at h
    symm
    apply (Bool.eq_false_iff).2
    intro ha
    obtain ⟨x, hx, hp⟩ := List.any_eq_true.1 ha
    have := h x hx
    rw [hp] at this
    cases this
  | some k =>
    rw [List.findIdx?_eq_some_iff_getElem] at h
    obtain ⟨hk, h1, _⟩ := h
    have : l.any p = true := List.any_eq_true.2 ⟨l[k], List.getElem_mem hk, h1⟩
    rw [this]
    show decide (0 ≤ (k : Int)) = true
    exact decide_eq_true (by omega)
theorem indexFunc_ints (g : FuncId) (lb : Array Value) (p : Int → Bool) (C : World → Prop) (A : Option Addr) (n c : Nat) (l : List Int) (w : World) (hl : IsList w .i64 A n c l) (hC : C w) (hp : AsksI g lb p C) :
    Calls Try.prog 83 #[.slice A n c, .func (.func g) #[] lb] w fun e w' => e = .returned (.int .i64 (idxP p l)) ∧ Below w.heap.size w w' := by
  have hlen := Lib.hid hl.len
  have hcap := hl.cap
  have hsm := hl.small
  obtain ⟨eg, hcc, hpp⟩ := hp
  go_enter Try.func83, Try.ntmps83
  go_wp2
  go_loopg [5, 8] n (fun gg _ s8 wr => ∃ k : Nat, k ≤ n ∧ gg = n - k ∧ s8 = .int .i64 k ∧ Below w.heap.size w wr ∧ Hid (∀ j, j < k → p (l.getD j 0) = false))
  case atStart => exact ⟨0, Nat.zero_le _, rfl, rfl, Below.refl _ _, Lib.hid (fun j hj => absurd hj (Nat.not_lt_zero _))⟩
  case round =>
    obtain ⟨k, hk, rfl, rfl, hW, HN⟩ := hrel
    by_cases hkn : k < n
    · obtain ⟨ad, rfl, hbk, x0, _⟩ := (hl.keep hW).get hkn
      have hki : (k : Int) < (n : Int) := by omega
      have hcall := hpp wr (l.getD k 0) (hcc w wr hC hW)
      have HH := Lib.hid (fun h => idxP_hit (p := p) (l := l) (k := k) (by rw [hlen.out]; exact hkn) h HN.out)
      have HM := Lib.hid (show p (l.getD k 0) = false → ∀ j, j < k + 1 → p (l.getD j 0) = false from fun h j hj => (by
        by_cases e : j = k
        · rw [e]; exact h
        · exact HN.out j (by omega)))
      clear hpp hcc
      generalize l.getD k 0 = x at *
      generalize p x = b at *
      cases b with
      | true =>
        go_wp2_with fail
        refine hcall.mono ?_; rintro e w' ⟨rfl, hb'⟩
        go_wp2
        go_ret
        exact ⟨by rw [HH.out (by trivial)]; rfl, below_step hW hb'⟩
      | false =>
        go_wp2_with fail
        refine hcall.mono ?_; rintro e w' ⟨rfl, hb'⟩
        go_wp2
        go_roundg (n - (k + 1))
        case measure => omega
        case rel => exact ⟨k + 1, by omega, rfl, by go_num, below_step hW hb', Lib.hid (HM.out (by trivial))⟩
    · obtain rfl : k = n := by omega
      have HM := Lib.hid (idxP_miss (p := p) (l := l) (fun j hj => HN.out j (by rw [← hlen.out]; exact hj)))
      clear hpp hcc
      go_wp2
      go_ret
      exact ⟨by rw [HM.out]; rfl, hW⟩
theorem containsFunc_ints (g : FuncId) (lb : Array Value) (p : Int → Bool) (C : World → Prop) (A : Option Addr) (n c : Nat) (l : List Int) (w : World) (hl : IsList w .i64 A n c l) (hC : C w) (hp : AsksI g lb p C) :
    Calls Try.prog 72 #[.slice A n c, .func (.func g) #[] lb] w fun e w' => e = .returned (.bool (l.any p)) ∧ Below w.heap.size w w' := by
  have hI := indexFunc_ints g lb p C A n c l w hl hC hp
  have hA := idxP_any p l
  generalize idxP p l = I at *
  generalize l.any p = B at *
  have HA := Lib.hid hA
  clear hA hp hC
  go_enter Try.func72, Try.ntmps72
  go_wp2_with fail
  refine hI.mono ?_; rintro e w' ⟨rfl, hx⟩
  go_wp2
  go_ret
  exact ⟨by rw [← HA.out]; rfl, hx⟩
/-- Is a host below a node? -/
def outN (l : List Nd) (h n : Int) : Bool := decide ((ndAt l n).kind ≠ 0) && up l (ndAt l n).kind h == n
/-- The worlds in which the innermost function is asked. -/
def CIn (b g sb hb : Nat) (l : List Nd) (h : Int) (W : World) : Prop :=
  TR W b l ∧ W.cell? ⟨g, 0, none⟩ = some (.pointer (some ⟨b, 0, none⟩)) ∧ W.cell? ⟨sb, 0, none⟩ = some (.pointer (some ⟨g, 0, none⟩)) ∧ W.cell? ⟨hb, 0, none⟩ = some (.int .i64 h)
theorem asks_in (b g sb hb : Nat) (l : List Nd) (ht : Tall l) (h : Int) : AsksI 73 #[.pointer (some ⟨sb, 0, none⟩), .pointer (some ⟨hb, 0, none⟩)] (outN l h) (CIn b g sb hb l h) := by
  refine ⟨Go.Proofs.enters_of Try.func73 (by kernel_rfl) rfl, fun W W' ⟨h1, h2, h3, h4⟩ hx => ⟨h1.keep hx, cell_keep h2 hx, cell_keep h3 hx, cell_keep h4 hx⟩, fun W z ⟨h1, h2, h3, h4⟩ => ?_⟩
  have hN := tr_Node h1 z
  have hU := fun (w : World) (hT : TR w b l) k => tr_Up hT (tall_rises ht) h k
  have HO := Lib.hid (show outN l h z = (decide ((ndAt l z).kind ≠ 0) && up l (ndAt l z).kind h == z) from rfl)
  generalize outN l h z = O at *
  generalize ndAt l z = x at *
  have hfk := fun w => node_kind x w
  unfold Nd.val at hN
  show Calls Try.prog 73 #[.int .i64 z, .pointer (some ⟨sb, 0, none⟩), .pointer (some ⟨hb, 0, none⟩)] W _
  go_enter Try.func73, Try.ntmps73
  go_wp2_with fail
  refine hN.mono ?_; rintro e w1 ⟨rfl, hx⟩
  have k1 := h1.keep hx
  have k2 := cell_keep h2 hx
  have k3 := cell_keep h3 hx
  have k4 := cell_keep h4 hx
  clear hN h1 h2 h3 h4
  have U2 := cell_under k2
  have U3 := cell_under k3
  have U4 := cell_under k4
  clear k2 k3 k4
  by_cases h0 : x.kind = 0
  · have g1 : (x.kind != 0) = false := by simp [h0]
    have HE := Lib.hid (show O = false by rw [HO.out]; simp [h0])
    clear h0
    go_wp2_with fail
    refine wp_region_quiet_under (by kernel_rfl) (by kernel_rfl) ?_
    repeat (go_big_quiet_step ((fail)))
    refine wpQuiet_nil ?_
    intro wu hw'
    obtain ⟨pq, hw''⟩ := hw'
    have hUx := below_eq hw''
    clear hw'' pq
    go_wp2
    go_ret
    exact ⟨by rw [HE.out]; rfl, below_step hx hUx⟩
  · have g1 : (x.kind != 0) = true := by simp [h0]
    have HE := Lib.hid (show O = (up l x.kind h == z) by rw [HO.out]; simp [h0])
    clear h0
    go_wp2_with fail
    refine wp_region_quiet_under (by kernel_rfl) (by kernel_rfl) ?_
    repeat (go_big_quiet_step (((go_at_call 31; exact calls_under_same (hU _ (k1.keep (under_below _ _)) _)))))
    refine wpQuiet_nil ?_
    intro wu hw'
    obtain ⟨pq, hw''⟩ := hw'
    have hUx := below_eq hw''
    clear hw'' pq
    go_wp2
    go_ret
    exact ⟨by rw [HE.out]; rfl, below_step hx hUx⟩
/-- The worlds in which Without's own function is asked. -/
def COut (b g sb nb : Nat) (l : List Nd) (A : Option Addr) (n c : Nat) (nodes : List Int) (W : World) : Prop :=
  TR W b l ∧ W.cell? ⟨g, 0, none⟩ = some (.pointer (some ⟨b, 0, none⟩)) ∧ W.cell? ⟨sb, 0, none⟩ = some (.pointer (some ⟨g, 0, none⟩)) ∧ W.cell? ⟨nb, 0, none⟩ = some (.slice A n c) ∧ IsList W .i64 A n c nodes
theorem asks_out (b g sb nb : Nat) (l : List Nd) (ht : Tall l) (A : Option Addr) (n c : Nat) (nodes : List Int) : AsksI 71 #[.pointer (some ⟨nb, 0, none⟩), .pointer (some ⟨sb, 0, none⟩)] (fun h => nodes.any (outN l h)) (COut b g sb nb l A n c nodes) := by
  refine ⟨Go.Proofs.enters_of Try.func71 (by kernel_rfl) rfl, fun W W' ⟨h1, h2, h3, h4, h5⟩ hx => ⟨h1.keep hx, cell_keep h2 hx, cell_keep h3 hx, cell_keep h4 hx, h5.keep hx⟩, fun W h ⟨h1, h2, h3, h4, h5⟩ => ?_⟩
  have hx : Below W.heap.size W (W.alloc (.cells #[.int .i64 h] 3)) := (Below.refl _ _).alloc (Nat.le_refl _) _
  have hP := Blk.new W 3 #[.int .i64 h]
  have k1 := h1.keep hx
  have k2 := cell_keep h2 hx
  have k3 := cell_keep h3 hx
  have k4 := cell_keep h4 hx
  have k5 := h5.keep hx
  have hC := containsFunc_ints _ _ (outN l h) (CIn b g sb W.heap.size l h) A n c nodes _ k5 ⟨k1, k2, k3, hP.cell 0⟩ (asks_in b g sb W.heap.size l ht h)
  obtain ⟨R, hR⟩ : ∃ R, R = nodes.any (outN l h) := ⟨_, rfl⟩
  rw [← hR] at hC
  have HR := Lib.hid hR
  clear hR h1 h2 h3 h4 h5 k1 k2 k3 k5
  show Calls Try.prog 71 #[.int .i64 h, .pointer (some ⟨nb, 0, none⟩), .pointer (some ⟨sb, 0, none⟩)] W _
  go_enter Try.func71, Try.ntmps71
  go_upto_region 1 with (fail)
  generalize W.alloc (.cells #[.int .i64 h] 3) = u at *
  go_wp2_with fail
  refine hC.mono ?_; rintro e w' ⟨rfl, hx'⟩
  go_wp2
  go_ret
  exact ⟨by show _ = Ending.returned (.bool (nodes.any (outN l h))); rw [← HR.out]; rfl, below_step hx hx'⟩
/-- Those of which something is not so, as they are kept. -/
theorem deleteFunc_none (g : FuncId) (lb : Array Value) (p : Int → Bool) (C : World → Prop) (A : Option Addr) (n c : Nat) (l : List Int) (w : World) (hl : IsList w .i64 A n c l) (hC : C w) (hp : AsksI g lb p C) (h0 : idxP p l = -1) :
    Calls Try.prog 70 #[.slice A n c, .func (.func g) #[] lb] w fun e w' => e = .returned (.slice A n c) ∧ Below w.heap.size w w' := by
  have hI := indexFunc_ints g lb p C A n c l w hl hC hp
  rw [h0] at hI
  clear hp hC
  go_enter Try.func70, Try.ntmps70
  go_wp2_with fail
  refine hI.mono ?_; rintro e w' ⟨rfl, hx⟩
  go_wp2
  go_ret
  exact ⟨rfl, hx⟩
end Go.Proofs.Ytdkijmiflommeaa
