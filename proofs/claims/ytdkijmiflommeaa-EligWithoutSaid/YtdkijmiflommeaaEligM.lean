/- slices.DeleteFunc of a row of one's own. -/
import Derived.Test.YtdkijmiflommeaaEligL
import Derived.Test.YtdkijmiflommeaaEligJ
import Derived.Lib.SliceRun
set_option linter.unusedVariables false
namespace Go.Proofs.Ytdkijmiflommeaa
open Go.RowKit
set_option maxHeartbeats 4000000
set_option maxRecDepth 100000
/-- The row as so many have been looked at: those kept stand first, the rest is as it was. -/
structure Kept (p : Int → Bool) (l cur : List Int) (i j : Nat) : Prop where
  len : cur.length = l.length
  lt : i < j
  le : j ≤ l.length
  head : cur.take i = (l.take j).filter fun x => !p x
  tail : ∀ x, j ≤ x → cur.getD x 0 = l.getD x 0
theorem filt_no {p : Int → Bool} {x : Int} (h : p x = true) : [x].filter (fun x => !p x) = [] := by rw [List.filter_cons, if_neg (by simp [h])]; rfl
theorem filt_yes {p : Int → Bool} {x : Int} (h : p x = false) : [x].filter (fun x => !p x) = [x] := by rw [List.filter_cons, if_pos (by simp [h])]; rfl
theorem kept_start {p : Int → Bool} {l : List Int} {k : Nat} (hk : k < l.length) (h : p (l.getD k 0) = true) (hn : ∀ j, j < k → p (l.getD j 0) = false) : Kept p l l k (k + 1) := by
  refine ⟨rfl, Nat.lt_succ_self k, hk, ?_, fun x _ => rfl⟩
  rw [take_stepI l k hk, List.filter_append]
  have e1 : (l.take k).filter (fun x => !p x) = l.take k := by
    rw [List.filter_eq_self]
    intro x hx
    obtain ⟨j, hj, rfl⟩ := List.getElem_of_mem hx
    rw [List.length_take] at hj
    have := hn j (by omega)
    rw [List.getD_eq_getElem?_getD, List.getElem?_eq_getElem (by omega)] at this
    rw [List.getElem_take]
    simp only [Option.getD_some] at this
    rw [this]; rfl
  rw [e1, filt_no h, List.append_nil]
theorem kept_no {p : Int → Bool} {l cur : List Int} {i j : Nat} (h : Kept p l cur i j) (hj : j < l.length) (hp : p (l.getD j 0) = true) : Kept p l cur i (j + 1) := by
  refine ⟨h.len, by have := h.lt; omega, hj, ?_, fun x hx => h.tail x (by omega)⟩
  rw [take_stepI l j hj, List.filter_append, h.head, filt_no hp, List.append_nil]
theorem kept_yes {p : Int → Bool} {l cur : List Int} {i j : Nat} (h : Kept p l cur i j) (hj : j < l.length) (hp : p (l.getD j 0) = false) : Kept p l (cur.set i (l.getD j 0)) (i + 1) (j + 1) := by
  have hlt := h.lt
  have hi : i < cur.length := by rw [h.len]; omega
  refine ⟨by rw [List.length_set]; exact h.len, by omega, hj, ?_, fun x hx => ?_⟩
  · rw [take_stepI l j hj, List.filter_append, ← h.head]
    rw [List.take_succ_eq_append_getElem (by rw [List.length_set]; exact hi), List.take_set_of_le (Nat.le_refl i), List.getElem_set_self]
    rw [filt_yes hp]
  · have ht := h.tail x (by omega)
    rw [List.getD_eq_getElem?_getD, List.getElem?_set_ne (by omega), ← List.getD_eq_getElem?_getD, ht]
theorem ints_set (cur : List Int) (i : Nat) (z : Int) : ints (cur.set i z) = (ints cur).set i (.int .i64 z) := by
  unfold ints; rw [List.map_set]
theorem own_blk {w : World} {B : Nat} {T : TypeId} {r n c : Nat} {xs : List Value} (h : w.ownsRow B T 1 (.slice (some ⟨r, 0, none⟩) n c) n xs) : ∃ cs, Blk w r T cs := by
  rcases h.2 with ⟨h', _⟩ | ⟨g', cap', cur, h', _, hg, _⟩
  · simp at h'
  · simp only [Value.slice.injEq, Option.some.injEq, Addr.mk.injEq, and_true, true_and] at h'
    obtain ⟨rfl, rfl⟩ := h'
    exact ⟨cur, hg⟩
theorem own_cell {w : World} {B : Nat} {r n c : Nat} {cur : List Int} (h : w.ownsRow B 3 1 (.slice (some ⟨r, 0, none⟩) n c) n (ints cur)) {j : Nat} (hj : j < n) : w.cell? ⟨r, j, none⟩ = some (.int .i64 (cur.getD j 0)) ∧ w.frozen? ⟨r, j, none⟩ = false := by
  have hl : cur.length = n := by have := h.1; simpa [ints] using this
  have hc := h.cells (g := r) rfl j (.int .i64 (cur.getD j 0)) (by
    unfold ints
    rw [List.getElem?_map, List.getD_eq_getElem?_getD, List.getElem?_eq_getElem (by omega)]; rfl)
  have e : (⟨r, 0, none⟩ : Addr).add j = ⟨r, j, none⟩ := by unfold Addr.add; split <;> simp_all
  rw [e] at hc
  obtain ⟨cs, hB⟩ := own_blk h
  exact ⟨hc, hB.free j⟩
theorem below_setCells {B : Nat} {w w' : World} {b : Nat} (h : Below B w w') (hb : B ≤ b) : ∀ (vs : List Value) (o : Nat), Below B w (w'.setCells b o vs)
  | vs, o => by
    induction vs generalizing w' o with
    | nil => exact h
    | cons v vs ih => exact ih (below_own h hb o v) (o + 1)
theorem size_setCells (b : Nat) : ∀ (vs : List Value) (o : Nat) (w : World), w.heap.size ≤ (w.setCells b o vs).heap.size
  | vs, o, w => by
    induction vs generalizing w o with
    | nil => exact Nat.le_refl _
    | cons v vs ih => exact Nat.le_trans (by simp) (ih (o + 1) (w.setCell ⟨b, o, none⟩ v))
theorem deleteFunc_some (g : FuncId) (lb : Array Value) (p : Int → Bool) (w0 : World) (hp : AsksI g lb p (fun W => Below w0.heap.size w0 W)) (r n c B : Nat) (l : List Int) (w : World) (hr : w0.heap.size ≤ r)
    (hown : w.ownsRow B 3 1 (.slice (some ⟨r, 0, none⟩) n c) n (ints l)) (hwf : ∀ z ∈ l, (Lit.int .i64 z).wf = true) (hn : n ≤ 1024) (hb : Below w0.heap.size w0 w) (k0 : Nat) (hk0 : k0 < n) (hpk : p (l.getD k0 0) = true) (hpn : ∀ j, j < k0 → p (l.getD j 0) = false) :
    Calls Try.prog 70 #[.slice (some ⟨r, 0, none⟩) n c, .func (.func g) #[] lb] w fun e w' => e = .returned (.slice (some ⟨r, 0, none⟩) (l.filter fun x => !p x).length c) ∧
      IsList w' .i64 (some ⟨r, 0, none⟩) (l.filter fun x => !p x).length c (l.filter fun x => !p x) ∧ Below w0.heap.size w0 w' := by
  have hlen : l.length = n := by have := hown.1; simpa [ints] using this
  obtain ⟨A', c', e', hI, _⟩ := own_list hown hwf (by omega)
  injection e' with e1 e2 e3
  subst e1 e3
  have hX := indexFunc_ints g lb p _ _ n c l w hI hb hp
  rw [idxP_hit (by rw [hlen]; exact hk0) hpk hpn] at hX
  obtain ⟨eg, _, hpp⟩ := hp
  have hcap := hI.cap
  have hsm := hI.small
  have HL := Lib.hid hlen
  have HK := Lib.hid (kept_start (p := p) (l := l) (by rw [hlen]; exact hk0) hpk hpn)
  have hne : ((k0 : Int) == -1) = false := by rw [beq_eq_false_iff_ne]; omega
  clear hpk hpn hI hlen
  go_enter Try.func70, Try.ntmps70
  go_wp2_with fail
  refine hX.mono ?_; rintro e w1 ⟨rfl, hx1⟩
  have hown1 := own_keep hown hx1
  have hb1 := below_step hb hx1
  clear hX hown hb hx1
  go_wp2_with fail
  go_loopg [5, 6, 7] (n - (k0 + 1)) (fun gg s5 s6 s7 wr => ∃ (i j : Nat) (cur : List Int), j ≤ n ∧ gg = n - j ∧ i < j ∧ s5 = .int .i64 i ∧ s6 = .int .i64 j ∧ wr.ownsRow B 3 1 (.slice (some ⟨r, 0, none⟩) n c) n (ints cur) ∧ Below w0.heap.size w0 wr ∧ Hid (Kept p l cur i j))
  case atStart => exact ⟨k0, k0 + 1, l, by omega, rfl, Nat.lt_succ_self _, rfl, by go_num, hown1, hb1, HK⟩
  case round =>
    clear hown1 hb1 HK hne
    obtain ⟨i, j, cur, hj, rfl, hij, rfl, rfl, hown, hb, HK⟩ := hrel
    by_cases hjn : j < n
    · have hji : (j : Int) < (n : Int) := by omega
      have hjl : j < l.length := by rw [HL.out]; exact hjn
      have x0 := (own_cell hown hjn).1
      rw [HK.out.tail j (Nat.le_refl _)] at x0
      have hcall := hpp wr (l.getD j 0) hb
      have HN := Lib.hid (fun h => kept_no HK.out hjl h)
      have HY := Lib.hid (fun h => kept_yes HK.out hjl h)
      generalize l.getD j 0 = v at *
      generalize p v = b at *
      cases b with
      | true =>
        clear hpp
        go_wp2_with fail
        refine hcall.mono ?_; rintro e w5 ⟨rfl, hx5⟩
        have hown5 := own_keep hown hx5
        have hb5 := below_step hb hx5
        go_wp2
        go_roundg (n - (j + 1))
        case measure => omega
        case rel => exact ⟨i, j + 1, cur, by omega, rfl, by omega, rfl, by go_num, hown5, hb5, Lib.hid (HN.out (by trivial))⟩
      | false =>
        clear hpp
        go_wp2_with fail
        refine hcall.mono ?_; rintro e w5 ⟨rfl, hx5⟩
        have hown5 := own_keep hown hx5
        have hb5 := below_step hb hx5
        obtain ⟨y0, y1⟩ := own_cell hown5 (j := i) (by omega)
        have hown6 := (hown5.stored i (.int .i64 v)).1
        rw [← ints_set] at hown6
        have hb6 := below_own hb5 hr i (.int .i64 v)
        have hii : (i : Int) < (n : Int) := by omega
        clear hown hown5 hb hb5 x0 hcall
        go_wp2
        go_roundg (n - (j + 1))
        case measure => omega
        case rel => exact ⟨i + 1, j + 1, cur.set i v, by omega, rfl, by omega, by go_num, by go_num, hown6, hb6, Lib.hid (HY.out (by trivial))⟩
    · obtain rfl : j = n := by omega
      have HE := Lib.hid (show cur.take i = l.filter fun x => !p x by rw [HK.out.head, ← HL.out, List.take_length])
      have hcl : cur.length = j := by rw [HK.out.len, HL.out]
      have hclr : ∀ ty, (Builtin.clear_ #[40] ty #[.slice (some ⟨r, i, none⟩) (j - i) (c - i)]).run Try.prog wr = .ok (.tuple #[]) (wr.setCells r i (List.replicate (j - i) (.int .i64 0))) := fun ty =>
        Lib.run_clear_slice (P := Try.prog) wr 40 3 ty (.int .i64 0) Try.underlying40 (fun w => by kernel_rfl) rfl rfl r i (j - i) (c - i) (by omega) (fun x hx => by rw [(own_cell hown (j := i + x) (by omega)).1]; rfl) (fun x hx => (own_cell hown (j := i + x) (by omega)).2)
      have hic : i ≤ c := by omega
      have hii : (i : Int) ≤ (c : Int) := by omega
      have hij2 : (i : Int) ≤ (j : Int) := by omega
      clear hpp
      have hil : (l.filter fun x => !p x).length = i := by rw [← HE.out, List.length_take, hcl]; omega
      have hbe := below_setCells hb hr (List.replicate (j - i) (Value.int .i64 0)) i
      have hrl : r < wr.heap.size := (own_blk hown).elim fun cs h => h.lt
      have hrl2 : wr.heap.size ≤ (wr.setCells r i (List.replicate (j - i) (Value.int .i64 0))).heap.size := size_setCells _ _ _ _
      have hLI : IsList (wr.setCells r i (List.replicate (j - i) (Value.int .i64 0))) .i64 (some ⟨r, 0, none⟩) (l.filter fun x => !p x).length c (l.filter fun x => !p x) := by
        rw [hil]
        refine ⟨⟨by rw [List.length_map, hil]; omega, fun h0 => ⟨_, rfl, by show r < _; omega, fun y u hu => ?_⟩⟩, hil, by omega, hsm, fun z hz => hwf z (List.mem_filter.1 hz).1, by omega⟩
        rw [List.getElem?_map] at hu
        obtain ⟨z, hz, rfl⟩ := Option.map_eq_some_iff.1 hu
        have hy : y < i := by
          rcases Nat.lt_or_ge y i with h | h
          · exact h
          · rw [List.getElem?_eq_none (by rw [hil]; exact h)] at hz; cases hz
        have e : (⟨r, 0, none⟩ : Addr).add y = ⟨r, y, none⟩ := by unfold Addr.add; split <;> simp_all
        rw [e, World.cell?_setCells_out r _ _ _ _ (fun _ _ => .inl hy), (own_cell hown (j := y) (by omega)).1]
        rw [← HE.out, List.getElem?_take, if_pos hy] at hz
        rw [List.getD_eq_getElem?_getD, hz]; rfl
      clear hcl
      go_wp2_with fail
      go_ret
      exact ⟨by rw [hil]; rfl, hLI, hbe⟩
end Go.Proofs.Ytdkijmiflommeaa
