/- What is otherwise between nodes: in plain Lean; find and above. -/
import Derived.Test.YtdkijmiflommeaaTreeO1
set_option linter.unusedVariables false
namespace Go.Proofs.Ytdkijmiflommeaa
open Go.RowKit
set_option maxHeartbeats 4000000
set_option maxRecDepth 100000
/-- The place of a name; -1: there is none. -/
def findN (l : List Nd) (s : ByteArray) : Int := idxF (fun x => sameName x.name s) l
/-- The name above a node. -/
def aboveN (l : List Nd) (x : Nd) : ByteArray := (ndAt l x.above).name
theorem findN_lt (l : List Nd) (s : ByteArray) : findN l s < l.length ∧ -1 ≤ findN l s := by
  unfold findN idxF
  cases h : l.findIdx? (fun x => sameName x.name s) with
  | none => dsimp only; omega
  | some k =>
    rw [List.findIdx?_eq_some_iff_getElem] at h
    obtain ⟨hk, _⟩ := h
    dsimp only; omega
/-- What has become of a node: (4) its place, (5) its address, (3) its weight. -/
def parts (nm : ByteArray) (c4 c5 c3 : Bool) (j : Nat) : List (ByteArray × Int) :=
  (if 0 < j ∧ c4 = true then [(nm, 4)] else []) ++ ((if 1 < j ∧ c5 = true then [(nm, 5)] else []) ++ (if 2 < j ∧ c3 = true then [(nm, 3)] else []))
def placeN (was now : List Nd) (x n : Nd) : Bool := x.kind != n.kind || !sameName (aboveN was x) (aboveN now n)
def moreOf (was now : List Nd) (n : Nd) : List (ByteArray × Int) :=
  if findN was n.name < 0 then [(n.name, 2)] else parts n.name (placeN was now (ndAt was (findN was n.name)) n) (!sameAddr (ndAt was (findN was n.name)) n) ((ndAt was (findN was n.name)).weight != n.weight) 3
def goneOf (now : List Nd) (x : Nd) : List (ByteArray × Int) := if findN now x.name < 0 then [(x.name, 1)] else []
def goneTo (was now : List Nd) (k : Nat) : List (ByteArray × Int) := (was.take k).flatMap (goneOf now)
def moreTo (was now : List Nd) (k : Nat) : List (ByteArray × Int) := (now.take k).flatMap (moreOf was now)
def chC (l : List (ByteArray × Int)) : List Value := l.flatMap fun x => [.string x.1, .int .i64 x.2]
theorem chC_append (a b : List (ByteArray × Int)) : chC (a ++ b) = chC a ++ chC b := by unfold chC; rw [List.flatMap_append]
theorem chC_len : ∀ l : List (ByteArray × Int), (chC l).length = l.length * 2
  | [] => rfl
  | x :: l => by
    have := chC_len l
    unfold chC at this ⊢
    rw [List.flatMap_cons, List.length_append, this, List.length_cons]
    simp; omega
theorem chC_at : ∀ (l : List (ByteArray × Int)) (i : Nat), i < l.length → (chC l)[i * 2]? = some (.string (l.getD i (ByteArray.empty, 0)).1) ∧ (chC l)[i * 2 + 1]? = some (.int .i64 (l.getD i (ByteArray.empty, 0)).2)
  | [], i, h => absurd h (by simp)
  | x :: l, 0, _ => ⟨rfl, rfl⟩
  | x :: l, i + 1, h => by
    have ih := chC_at l i (by simpa using h)
    unfold chC at ih ⊢
    rw [List.flatMap_cons, show (i + 1) * 2 = i * 2 + 1 + 1 by omega]
    simpa using ih
theorem flatTo_step {α : Type} (f : Nd → List α) (l : List Nd) (k : Nat) (hk : k < l.length) : (l.take (k + 1)).flatMap f = (l.take k).flatMap f ++ f (l.getD k nd0) := by
  rw [List.take_succ_eq_append_getElem hk, List.flatMap_append, List.getD_eq_getElem?_getD, List.getElem?_eq_getElem hk]
  simp
theorem flatTo_le {α : Type} (f : Nd → List α) (m : Nat) (hf : ∀ x, (f x).length ≤ m) : ∀ (l : List Nd) (k : Nat), ((l.take k).flatMap f).length ≤ k * m
  | l, 0 => by simp
  | [], k + 1 => by simp
  | x :: l, k + 1 => by
    rw [List.take_succ_cons, List.flatMap_cons, List.length_append]
    have := flatTo_le f m hf l k
    have := hf x
    rw [Nat.add_mul]; omega
theorem parts_le (nm : ByteArray) (a b c : Bool) (j : Nat) : (parts nm a b c j).length ≤ 3 := by
  unfold parts
  rw [List.length_append, List.length_append]
  split <;> split <;> split <;> simp
theorem moreOf_le (was now : List Nd) (n : Nd) : (moreOf was now n).length ≤ 3 := by
  unfold moreOf; split
  · simp
  · exact parts_le _ _ _ _ _
theorem goneOf_le (now : List Nd) (n : Nd) : (goneOf now n).length ≤ 1 := by
  unfold goneOf; split <;> simp
theorem goneTo_step (was now : List Nd) (k : Nat) (hk : k < was.length) : goneTo was now (k + 1) = goneTo was now k ++ goneOf now (was.getD k nd0) := flatTo_step _ _ _ hk
theorem moreTo_step (was now : List Nd) (k : Nat) (hk : k < now.length) : moreTo was now (k + 1) = moreTo was now k ++ moreOf was now (now.getD k nd0) := flatTo_step _ _ _ hk
theorem goneTo_le (was now : List Nd) (k : Nat) : (goneTo was now k).length ≤ k := by have := flatTo_le (goneOf now) 1 (goneOf_le now) was k; rw [Nat.mul_one] at this; exact this
theorem moreTo_le (was now : List Nd) (k : Nat) : (moreTo was now k).length ≤ k * 3 := flatTo_le _ 3 (moreOf_le was now) now k
theorem results_cell_row2 {P : Program} {fn : Func} {p q : Tmp} {ty : TypeId} (h : fn.results = #[.cell p ty, .tmp q]) (tmps : Array Value) (w : World) (g : Nat) (t : TypeId) (cs : Array Value) (fr : Nat × Nat) (d : TypeDesc)
    (hp : tmps.getD p undef = .pointer (some ⟨g, 0, none⟩)) (hg : w.heap[g]? = some (.cells cs t fr))
    (hu : P.underlying ty = some d) (hd : (match d with | .struct _ | .array _ _ => true | _ => false) = true) (hi : (P.info? ty).map (·.size) = some cs.size) :
    (results fn tmps).run P w = .ok (.tuple #[.agg cs, tmps.getD q undef]) w := by
  have hp' : tmps[p]?.getD undef = .pointer (some ⟨g, 0, none⟩) := by simpa using hp
  simp [results, h, hp', asAddr, run_loadVar_row w g t ty cs fr d hg hu hd hi]
theorem asks_dfind (g : Nat) (s : ByteArray) (w : World) (hg : w.cell? ⟨g, 0, none⟩ = some (.string s)) : Asks 82 #[.pointer (some ⟨g, 0, none⟩)] (fun x => sameName x.name s) w := by
  refine ⟨Go.Proofs.enters_of Try.func82 (by kernel_rfl) rfl, fun W x hx hb => ?_⟩
  have hc : W.cell? ⟨g, 0, none⟩ = some (.string s) := cell_keep hg hb
  have hc2 := cell_alloc hc (.cells #[.string x.name, .int .i64 x.kind, .int .i64 x.above, .int .i64 x.weight, .bool x.six, .int .u64 x.hi, .int .u64 x.lo] 34)
  have hP := Blk.new W 34 #[.string x.name, .int .i64 x.kind, .int .i64 x.above, .int .i64 x.weight, .bool x.six, .int .u64 x.hi, .int .u64 x.lo]
  obtain ⟨p0, p1, p2, p3, p4, p5, p6, _⟩ := hP.cells7
  have hW : Below W.heap.size W (W.alloc (.cells #[.string x.name, .int .i64 x.kind, .int .i64 x.above, .int .i64 x.weight, .bool x.six, .int .u64 x.hi, .int .u64 x.lo] 34)) := (Below.refl _ _).alloc (Nat.le_refl _) _
  show Calls Try.prog 82 #[.agg #[.string x.name, .int .i64 x.kind, .int .i64 x.above, .int .i64 x.weight, .bool x.six, .int .u64 x.hi, .int .u64 x.lo], .pointer (some ⟨g, 0, none⟩)] W _
  go_enter Try.func82, Try.ntmps82
  go_upto_region 1 with (fail)
  generalize W.alloc (.cells #[.string x.name, .int .i64 x.kind, .int .i64 x.above, .int .i64 x.weight, .bool x.six, .int .u64 x.hi, .int .u64 x.lo] 34) = u at *
  go_wp2_with fail
  go_ret
  exact ⟨rfl, hW⟩
theorem diff_find (A : Option Addr) (n c : Nat) (l : List Nd) (s : ByteArray) (w : World) (h : IsNodes w A n c l) :
    Calls Try.prog 65 #[.slice A n c, .string s] w fun e w' => e = .returned (.tuple #[(ndAt l (findN l s)).val, .bool (decide (0 ≤ findN l s))]) ∧ Below w.heap.size w w' := by
  have hA : Below w.heap.size w (w.alloc (.cells #[.string s] 9)) := (Below.refl _ _).alloc (Nat.le_refl _) _
  have hA2 : Below w.heap.size w ((w.alloc (.cells #[.string s] 9)).alloc (.cells #[.string ⟨#[]⟩, .int .i64 0, .int .i64 0, .int .i64 0, .bool false, .int .u64 0, .int .u64 0] 34)) := hA.alloc hA.size _
  have hP := (Blk.new w 9 #[.string s]).alloc (.cells #[.string ⟨#[]⟩, .int .i64 0, .int .i64 0, .int .i64 0, .bool false, .int .u64 0, .int .u64 0] 34)
  have hZ := Blk.new (w.alloc (.cells #[.string s] 9)) 34 #[.string ⟨#[]⟩, .int .i64 0, .int .i64 0, .int .i64 0, .bool false, .int .u64 0, .int .u64 0]
  have hsz : (w.alloc (.cells #[.string s] 9)).heap.size = w.heap.size + 1 := by simp
  rw [hsz] at hZ
  have h1 := h.keep hA2
  obtain ⟨F, hF⟩ : ∃ F, F = findN l s := ⟨_, rfl⟩
  have hlt := findN_lt l s
  rw [← hF] at hlt ⊢
  have hcap := h.cap
  have hsm := h.small
  have hlen := h.len
  rw [hlen] at hlt
  clear h hsz hlen
  go_enter Try.func65, Try.ntmps65
  go_upto_region 1 with (fail)
  generalize ((w.alloc (.cells #[.string s] 9)).alloc (.cells #[.string ⟨#[]⟩, .int .i64 0, .int .i64 0, .int .i64 0, .bool false, .int .u64 0, .int .u64 0] 34)) = u at *
  have hI := indexFunc_nodes _ _ _ A n c l _ h1 (asks_dfind _ s _ hP.cells1.1)
  rw [show idxF (fun x => sameName x.name s) l = F from hF.symm] at hI
  clear hF
  go_wp2_with fail
  refine hI.mono ?_; rintro e w' ⟨rfl, hx⟩
  have hZ1 := hZ.keep hx
  have h2 := h1.keep hx
  have hW := below_step hA2 hx
  obtain ⟨f0, f1, f2, f3, f4, f5, f6⟩ := hZ1.free7
  obtain ⟨q0, q1, q2, q3, q4, q5, q6, _⟩ := hZ1.cells7
  clear hI hZ h1 hP hx hA hA2
  by_cases h0 : F < 0
  · have g1 : decide (F < 0) = true := decide_eq_true h0
    have HE := Lib.hid (And.intro (show (ndAt l F) = nd0 from ndAt_out l F (.inl h0)) (show decide (0 ≤ F) = false from decide_eq_false (by omega)))
    go_wp2
    have hQ := hZ1.turn7 (.string ⟨#[]⟩) (.int .i64 0) (.int .i64 0) (.int .i64 0) (.bool false) (.int .u64 0) (.int .u64 0)
    refine bodyPost_ret (v := .tuple #[nd0.val, .bool false]) ?_ rfl ⟨by rw [HE.out.1, HE.out.2], below_turn7 hW (by omega) _ _ _ _ _ _ _⟩
    exact results_cell_row2 (p := 4) (q := 5) rfl _ _ _ _ _ (0, 0) _ rfl hQ Try.underlying34 rfl sizeNode
  · have g1 : decide (F < 0) = false := decide_eq_false h0
    obtain ⟨k, rfl⟩ : ∃ k : Nat, F = k := ⟨F.toNat, by omega⟩
    have hkn : k < n := by omega
    obtain ⟨ad, rfl, hbk, d0, d1, d2, d3, d4, d5, d6⟩ := h2.at_ hkn
    have HE := Lib.hid (And.intro (show (ndAt l k) = l.getD k nd0 from ndAt_nat l k) (show decide (0 ≤ (k : Int)) = true from decide_eq_true (by omega)))
    obtain ⟨x, hx⟩ : ∃ x, x = l.getD k nd0 := ⟨_, rfl⟩
    rw [← hx] at d0 d1 d2 d3 d4 d5 d6 HE
    clear hx
    have hki : (k : Int) < (n : Int) := by omega
    have hk0 : (0 : Int) ≤ (k : Int) := by omega
    go_wp2
    have hQ := hZ1.turn7 (.string x.name) (.int .i64 x.kind) (.int .i64 x.above) (.int .i64 x.weight) (.bool x.six) (.int .u64 x.hi) (.int .u64 x.lo)
    refine bodyPost_ret (v := .tuple #[x.val, .bool true]) ?_ rfl ⟨by rw [HE.out.1, HE.out.2], below_turn7 hW (by omega) _ _ _ _ _ _ _⟩
    exact results_cell_row2 (p := 4) (q := 5) rfl _ _ _ _ _ (0, 0) _ rfl hQ Try.underlying34 rfl sizeNode
def aboveP (f : FuncId) : Prop := ∀ (A : Option Addr) (n c : Nat) (l : List Nd) (x : Nd) (w : World), IsNodes w A n c l → Calls Try.prog f #[.slice A n c, x.val] w fun e w' => e = .returned (.string (aboveN l x)) ∧ Below w.heap.size w w'
theorem diff_above : aboveP 66 := by
  intro A n c l x w h
  have hA : Below w.heap.size w (w.alloc (.cells #[.string x.name, .int .i64 x.kind, .int .i64 x.above, .int .i64 x.weight, .bool x.six, .int .u64 x.hi, .int .u64 x.lo] 34)) := (Below.refl _ _).alloc (Nat.le_refl _) _
  have hP := Blk.new w 34 #[.string x.name, .int .i64 x.kind, .int .i64 x.above, .int .i64 x.weight, .bool x.six, .int .u64 x.hi, .int .u64 x.lo]
  obtain ⟨p0, p1, p2, p3, p4, p5, p6, _⟩ := hP.cells7
  have h1 := h.keep hA
  have hcap := h.cap
  have hsm := h.small
  have hlen := h.len
  have hab := Lib.hid (show aboveN l x = (ndAt l x.above).name from rfl)
  generalize aboveN l x = R at *
  unfold Nd.val
  go_enter Try.func66, Try.ntmps66
  go_upto_region 1 with (fail)
  generalize w.alloc (.cells #[.string x.name, .int .i64 x.kind, .int .i64 x.above, .int .i64 x.weight, .bool x.six, .int .u64 x.hi, .int .u64 x.lo] 34) = u at *
  obtain ⟨z, hz⟩ : ∃ z, z = x.above := ⟨_, rfl⟩
  rw [← hz] at p2 hab
  clear hz hP h
  by_cases h0 : z < 0
  · have g1 : decide (z < 0) = true := decide_eq_true h0
    have HE := Lib.hid (show R = ByteArray.empty by rw [hab.out, ndAt_out l z (.inl h0)]; rfl)
    go_wp2
    go_ret
    exact ⟨by rw [HE.out]; rfl, hA⟩
  · have g1 : decide (z < 0) = false := decide_eq_false h0
    by_cases h2 : z < n
    · have g2 : decide ((n : Int) ≤ z) = false := decide_eq_false (by omega)
      obtain ⟨k, rfl⟩ : ∃ k : Nat, z = k := ⟨z.toNat, by omega⟩
      obtain ⟨ad, rfl, hbk, d0, d1, d2, d3, d4, d5, d6⟩ := h1.at_ (k := k) (by omega)
      rw [ndAt_nat] at hab
      generalize l.getD k nd0 = y at *
      go_wp2
      go_ret
      exact ⟨by rw [hab.out]; rfl, hA⟩
    · have g2 : decide ((n : Int) ≤ z) = true := decide_eq_true (by omega)
      have HE := Lib.hid (show R = ByteArray.empty by rw [hab.out, ndAt_out l z (.inr (by omega))]; rfl)
      go_wp2
      go_ret
      exact ⟨by rw [HE.out]; rfl, hA⟩
theorem law43_above : aboveP 35 := by
  intro A n c l x w h
  have hA : Below w.heap.size w (w.alloc (.cells #[.string x.name, .int .i64 x.kind, .int .i64 x.above, .int .i64 x.weight, .bool x.six, .int .u64 x.hi, .int .u64 x.lo] 34)) := (Below.refl _ _).alloc (Nat.le_refl _) _
  have hP := Blk.new w 34 #[.string x.name, .int .i64 x.kind, .int .i64 x.above, .int .i64 x.weight, .bool x.six, .int .u64 x.hi, .int .u64 x.lo]
  obtain ⟨p0, p1, p2, p3, p4, p5, p6, _⟩ := hP.cells7
  have h1 := h.keep hA
  have hcap := h.cap
  have hsm := h.small
  have hlen := h.len
  have hab := Lib.hid (show aboveN l x = (ndAt l x.above).name from rfl)
  generalize aboveN l x = R at *
  unfold Nd.val
  go_enter Try.func35, Try.ntmps35
  go_upto_region 1 with (fail)
  generalize w.alloc (.cells #[.string x.name, .int .i64 x.kind, .int .i64 x.above, .int .i64 x.weight, .bool x.six, .int .u64 x.hi, .int .u64 x.lo] 34) = u at *
  obtain ⟨z, hz⟩ : ∃ z, z = x.above := ⟨_, rfl⟩
  rw [← hz] at p2 hab
  clear hz hP h
  by_cases h0 : z < 0
  · have g1 : decide (z < 0) = true := decide_eq_true h0
    have HE := Lib.hid (show R = ByteArray.empty by rw [hab.out, ndAt_out l z (.inl h0)]; rfl)
    go_wp2
    go_ret
    exact ⟨by rw [HE.out]; rfl, hA⟩
  · have g1 : decide (z < 0) = false := decide_eq_false h0
    by_cases h2 : z < n
    · have g2 : decide ((n : Int) ≤ z) = false := decide_eq_false (by omega)
      obtain ⟨k, rfl⟩ : ∃ k : Nat, z = k := ⟨z.toNat, by omega⟩
      obtain ⟨ad, rfl, hbk, d0, d1, d2, d3, d4, d5, d6⟩ := h1.at_ (k := k) (by omega)
      rw [ndAt_nat] at hab
      generalize l.getD k nd0 = y at *
      go_wp2
      go_ret
      exact ⟨by rw [hab.out]; rfl, hA⟩
    · have g2 : decide ((n : Int) ≤ z) = true := decide_eq_true (by omega)
      have HE := Lib.hid (show R = ByteArray.empty by rw [hab.out, ndAt_out l z (.inr (by omega))]; rfl)
      go_wp2
      go_ret
      exact ⟨by rw [HE.out]; rfl, hA⟩
theorem law43_find (A : Option Addr) (n c : Nat) (l : List Nd) (s : ByteArray) (w : World) (h : IsNodes w A n c l) :
    Calls Try.prog 34 #[.slice A n c, .string s] w fun e w' => e = .returned (.int .i64 (findN l s)) ∧ w = w' := by
  have hlen := Lib.hid h.len
  have hcap := h.cap
  have hsm := h.small
  obtain ⟨p, hp⟩ : ∃ p : Nd → Bool, p = fun x => sameName x.name s := ⟨_, rfl⟩
  have HF := Lib.hid (show findN l s = idxF p l by rw [hp]; rfl)
  have HP := Lib.hid (fun x => show p x = (x.name.toList == s.toList) by rw [hp]; rfl)
  clear hp
  go_enter Try.func34, Try.ntmps34
  go_wp2
  go_loopg [5] n (fun gg s5 wr => ∃ k : Nat, k ≤ n ∧ gg = n - k ∧ s5 = .int .i64 k ∧ w = wr ∧ Hid (∀ j, j < k → p (l.getD j nd0) = false))
  case atStart => exact ⟨0, Nat.zero_le _, rfl, rfl, rfl, Lib.hid (fun j hj => absurd hj (Nat.not_lt_zero _))⟩
  case round =>
    obtain ⟨k, hk, rfl, rfl, rfl, HN⟩ := hrel
    by_cases hkn : k < n
    · obtain ⟨ad, rfl, hbk, d0, d1, d2, d3, d4, d5, d6⟩ := h.at_ hkn
      have hki : (k : Int) < (n : Int) := by omega
      have HH := Lib.hid (fun h => idxF_hit (p := p) (l := l) (k := k) (by rw [hlen.out]; exact hkn) h HN.out)
      have HM := Lib.hid (show p (l.getD k nd0) = false → ∀ j, j < k + 1 → p (l.getD j nd0) = false from fun (h : p (l.getD k nd0) = false) (j : Nat) (hj : j < k + 1) => show p (l.getD j nd0) = false from (by
        by_cases e : j = k
        · rw [e]; exact h
        · exact HN.out j (by omega)))
      have HPk := Lib.hid (HP.out (l.getD k nd0))
      generalize l.getD k nd0 = x at *
      cases hb : (x.name.toList == s.toList) with
      | true =>
        have HE := Lib.hid (HH.out (by rw [HPk.out]; exact hb))
        go_wp2
        go_ret
        exact ⟨by rw [HF.out, HE.out]; rfl, rfl⟩
      | false =>
        have HM2 := Lib.hid (HM.out (by rw [HPk.out]; exact hb))
        go_wp2
        go_roundg (n - (k + 1))
        case measure => omega
        case rel => exact ⟨k + 1, by omega, rfl, by go_num, rfl, HM2⟩
    · obtain rfl : k = n := by omega
      have HM := Lib.hid (idxF_miss (p := p) (l := l) (fun j hj => HN.out j (by rw [← hlen.out]; exact hj)))
      go_wp2
      go_ret
      exact ⟨by rw [HF.out, HM.out]; rfl, rfl⟩
end Go.Proofs.Ytdkijmiflommeaa
