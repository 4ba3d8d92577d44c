/- Lemmas for the claim's proof: WheelC WheelD WheelE. -/
import Derived.Test.YtcpfekhpbjkgeaaQ08
section
/- Rows of items that are shortened in place. -/
set_option linter.unusedVariables false
namespace Go.Proofs.Ytcpfekhpbjkgeaa
open Go.RowKit
set_option maxHeartbeats 8000000
set_option maxRecDepth 100000
theorem flat_set_it (cur : List It) (r : Nat) (x : It) (h : r < cur.length) : itShape.flat (cur.set r x) = (itShape.flat cur).take (r * 2) ++ encIt x ++ (itShape.flat cur).drop (r * 2 + 2) := by
  have e : cur.set r x = cur.take r ++ x :: cur.drop (r + 1) := by rw [List.set_eq_take_append_cons_drop, if_pos h]
  have d : ∀ (l : List It) k, (itShape.flat l).drop (k * 2) = itShape.flat (l.drop k) := fun l k => by
    have h1 : itShape.flat l = itShape.flat (l.take k) ++ itShape.flat (l.drop k) := by
      conv => lhs; rw [← List.take_append_drop k l]
      unfold Shape.flat; rw [List.flatMap_append]
    by_cases hk : k ≤ l.length
    · rw [h1, List.drop_append_of_le_length (by rw [itShape.flat_len, List.length_take, Nat.min_eq_left hk]; exact Nat.le_refl _)]
      rw [List.drop_of_length_le (by rw [itShape.flat_len, List.length_take, Nat.min_eq_left hk]; exact Nat.le_refl _), List.nil_append]
    · rw [List.drop_of_length_le (by rw [itShape.flat_len]; exact Nat.mul_le_mul_right 2 (by omega)), List.drop_of_length_le (by omega)]; rfl
  rw [e, show r * 2 + 2 = (r + 1) * 2 by omega, d, show (itShape.flat cur).take (r * 2) = itShape.flat (cur.take r) from itShape.flat_take cur r]
  unfold Shape.flat
  rw [List.flatMap_append, List.flatMap_cons, List.append_assoc]; rfl
section
variable {w : World} {B : Nat} {T : TypeId}
theorem own_shrink {g n c r : Nat} {cur : List It} (h : w.ownsRow B T 2 (.slice (some ⟨g, 0, none⟩) n c) n (itShape.flat cur)) (hr : r ≤ n) : w.ownsRow B T 2 (.slice (some ⟨g, 0, none⟩) r c) (cur.take r).length (itShape.flat (cur.take r)) := by
  have hl : cur.length = n := by have := h.1; rw [itShape.flat_len] at this; exact Nat.eq_of_mul_eq_mul_right (by decide) this
  have hlt : (cur.take r).length = r := by rw [List.length_take, hl]; omega
  rw [hlt]
  refine ⟨by rw [itShape.flat_len, hlt]; rfl, ?_⟩
  rcases h.2 with ⟨e, _⟩ | ⟨g', cap, a, e, hb, hg, h1, h2, h3, h4⟩
  · cases e
  · cases e
    refine .inr ⟨g, c, a, rfl, hb, hg, by omega, h2, h3, ?_⟩
    rw [show itShape.flat (cur.take r) = (itShape.flat cur).take (r * 2) from (itShape.flat_take cur r).symm, ← h4, List.take_take, Nat.min_eq_left (Nat.mul_le_mul_right 2 hr)]
/-- One more is laid in, over one that has been read. -/
theorem run_append_in {P : Program} (t ty : TypeId) (i : TypeInfo) (ht : P.underlying t = some (.slice T)) (hi : P.info? T = some i) (hsz : i.size = 2) {g n c r : Nat} {cur : List It} (h : w.ownsRow B T 2 (.slice (some ⟨g, 0, none⟩) n c) n (itShape.flat cur)) (hr : r < n)
    (x : It) {a : Addr} {c2 : Nat} (hx : ∀ j u, (encIt x)[j]? = some u → w.cell? (a.add j) = some u) :
    ∃ w', (Builtin.append_ #[t, t] ty #[.slice (some ⟨g, 0, none⟩) r c, .slice (some a) 1 c2]).run P w = .ok (.slice (some ⟨g, 0, none⟩) (r + 1) c) w' ∧ w'.ownsRow B T 2 (.slice (some ⟨g, 0, none⟩) n c) n (itShape.flat (cur.set r x)) ∧ w.grownBy w' (some g) := by
  have hl : cur.length = n := by have := h.1; rw [itShape.flat_len] at this; exact Nat.eq_of_mul_eq_mul_right (by decide) this
  rcases h.2 with ⟨e, _⟩ | ⟨g', cap, arr, e, hb, hg, h1, h2, h3, h4⟩
  · cases e
  · cases e
    have hsize : arr.size = c * 2 := h3
    refine ⟨_, run_append_room (P := P) w t ty T i ht hi g r c arr hg a 1 c2 (encIt x) (by rw [hsz]; rfl) hx (fun u hu => itShape.one x u hu) (by omega) (by rw [hsz, hsize]; show r * 2 + 2 ≤ c * 2; omega), ?_, ?_⟩
    · refine ⟨by rw [itShape.flat_len, List.length_set, hl]; rfl, .inr ⟨g, c, (arr.toList.take (r * i.size) ++ encIt x ++ arr.toList.drop (r * i.size + (encIt x).length)).toArray, rfl, hb, ?_, h1, h2, ?_, ?_⟩⟩
      · simp [World.setRow, Array.getElem?_modify, hg]
      · simp [hsz, encIt]; omega
      · rw [hsz, flat_set_it cur r x (by omega), ← h4]
        show ((arr.toList.take (r * 2) ++ encIt x ++ arr.toList.drop (r * 2 + 2))).take (n * 2) = _
        have e1 : (arr.toList.take (r * 2)).length = r * 2 := by rw [List.length_take, Array.length_toList]; omega
        rw [List.append_assoc, List.take_append, List.take_append, e1, List.take_take, List.take_take, Nat.min_eq_right (show r * 2 ≤ n * 2 by omega), Nat.min_eq_left (show r * 2 ≤ n * 2 by omega)]
        rw [List.take_of_length_le (show (encIt x).length ≤ n * 2 - r * 2 by show 2 ≤ _; omega), List.drop_take, List.append_assoc]
        congr 3
    · refine ⟨rfl, rfl, rfl, by simp [World.setRow], fun k hk hne => ?_⟩
      have : g ≠ k := fun e => hne (by rw [e])
      simp [World.setRow, Array.getElem?_modify, this]
theorem wpList_append_in {P : Program} {ops : Array Oper} {rest : List Oper} {o : Oper} {a : Act} {Q : Exit → Act → World → Prop} (hgd : o.guard = none) (s y : Operand) (t : TypeId)
    (ho : o.op = .call { callee := .builtin .append, args := #[s, y], argTypes := #[t, t] }) (i : TypeInfo) (ht : P.underlying t = some (.slice T)) (hi : P.info? T = some i) (hsz : i.size = 2)
    {g n c r : Nat} {cur : List It} (hs : a.eval s = .slice (some ⟨g, 0, none⟩) r c) (h : w.ownsRow B T 2 (.slice (some ⟨g, 0, none⟩) n c) n (itShape.flat cur)) (hr : r < n)
    (x : It) {ad : Addr} {c2 : Nat} (hy : a.eval y = .slice (some ad) 1 c2) (hx : ∀ j u, (encIt x)[j]? = some u → w.cell? (ad.add j) = some u)
    (hK : ∀ w', w'.ownsRow B T 2 (.slice (some ⟨g, 0, none⟩) n c) n (itShape.flat (cur.set r x)) → w.grownBy w' (some g) → wpList P ops Q rest (a.put o.dst (.slice (some ⟨g, 0, none⟩) (r + 1) c)) w') : wpList P ops Q (o :: rest) a w :=
  wpList_plain hgd fun K hQ => by
    obtain ⟨w', hrun, h2, h3⟩ := run_append_in (P := P) t o.type i ht hi hsz h hr x (c2 := c2) hx
    unfold Oper.wp execOp
    simp only [ho, resolve, invoke, builtin, Sem.run_bind, Sem.run_pure, Result.andThen_ok, List.map_toArray, List.map_cons, List.map_nil, hs, hy, hrun]
    exact hQ _ _ (hK w' h2 h3)
end
/-- The row of a slot while it is read, and what is left of it laid in anew. -/
structure Shr (p : It → Bool) (l cur : List It) (i r : Nat) : Prop where
  len : cur.length = l.length
  le : r ≤ i
  head : cur.take r = (l.take i).filter p
  tail : cur.drop i = l.drop i
theorem shr_start (p : It → Bool) (l : List It) : Shr p l l 0 0 := ⟨rfl, Nat.le_refl _, by simp, rfl⟩
theorem take_next {l : List It} {i : Nat} (h : i < l.length) : l.take (i + 1) = l.take i ++ [l.getD i default] := by
  rw [List.take_add_one, List.getD_eq_getElem?_getD, List.getElem?_eq_getElem h]; rfl
theorem Shr.at_ {p : It → Bool} {l cur : List It} {i r : Nat} (h : Shr p l cur i r) (hi : i < l.length) : cur.getD i default = l.getD i default := by
  have := congrArg (fun q => q.getD 0 default) h.tail
  simpa [List.getD_eq_getElem?_getD, List.getElem?_drop] using this
theorem Shr.yes {p : It → Bool} {l cur : List It} {i r : Nat} (h : Shr p l cur i r) (hi : i < l.length) (hp : p (l.getD i default) = true) : Shr p l (cur.set r (l.getD i default)) (i + 1) (r + 1) := by
  refine ⟨by rw [List.length_set, h.len], by have := h.le; omega, ?_, ?_⟩
  · have hr : r < cur.length := by rw [h.len]; have := h.le; omega
    rw [take_next hi, List.filter_append, ← h.head, List.filter_cons_of_pos hp, List.filter_nil]
    rw [show (cur.set r (l.getD i default)).take (r + 1) = (cur.set r (l.getD i default)).take r ++ [l.getD i default] by
      generalize l.getD i default = x
      rw [take_next (by rw [List.length_set]; exact hr), List.getD_eq_getElem?_getD, List.getElem?_set_self hr]; rfl]
    rw [List.take_set_of_le (Nat.le_refl _)]
  · rw [List.drop_set_of_lt (by have := h.le; omega)]
    have := congrArg (List.drop 1) h.tail
    simpa [List.drop_drop, Nat.add_comm] using this
theorem Shr.no {p : It → Bool} {l cur : List It} {i r : Nat} (h : Shr p l cur i r) (hi : i < l.length) (hp : p (l.getD i default) = false) : Shr p l cur (i + 1) r := by
  refine ⟨h.len, by have := h.le; omega, ?_, ?_⟩
  · rw [take_next hi, List.filter_append, ← h.head, List.filter_cons_of_neg (by rw [hp]; simp), List.filter_nil, List.append_nil]
  · have := congrArg (List.drop 1) h.tail
    simpa [List.drop_drop, Nat.add_comm] using this
theorem Shr.end_ {p : It → Bool} {l cur : List It} {r : Nat} (h : Shr p l cur l.length r) : cur.take r = l.filter p := by rw [h.head, List.take_length]
section
variable {w w' : World} {B b : Nat} {V : Nat → Value} {S : Nat → List It} {now n : Int}
/-- As put, where other blocks than the wheel's have turned too. -/
theorem IsWheel.put2 {D : Nat → Prop} (h : IsWheel w B b V S now n) {k : Nat} (hk : k < 64) (hx : Mod D w w') (hb : ¬ D b) (hD : ∀ j, j < 64 → j ≠ k → ∀ g, (V j).ownBlock = some g → ¬ D g) {v' : Value} {r : List It}
    (hown : w'.ownsRow B 31 2 v' r.length (itShape.flat r)) (hat : ∀ g, v'.ownBlock = some g → (V k).ownBlock = some g) : IsWheel (w'.setCell ⟨b, k, none⟩ v') B b (updV V k v') (upd S k r) now n := by
  have hb' : Blk w' b 27 (slotCells V now n) := h.blk.mod hx hb
  have hv' : v'.ownBlock ≠ some b := row_not hb' hown (by decide)
  refine ⟨(hb'.set_ k v').eq_ (slot_set _ _ _ hk _), h.low, fun j hj => ?_, fun i j hi hj hij => ?_⟩
  · unfold updV upd
    by_cases e : j = k
    · subst e
      rw [if_pos rfl, if_pos rfl]
      exact ownsRow_setCell_other hown (a := ⟨b, j, none⟩) hv' v'
    · rw [if_neg e, if_neg e]
      exact ownsRow_setCell_other (ownR_mod (h.row j hj) hx (hD j hj e)) (a := ⟨b, k, none⟩) (h.no hj) v'
  · have fresh : ∀ j, j < 64 → j ≠ k → (V j).ownBlock = none ∨ (V j).ownBlock ≠ v'.ownBlock := fun j hj e => by
      cases hv : v'.ownBlock with
      | none =>
        cases hv2 : (V j).ownBlock with
        | none => exact .inl rfl
        | some g => exact .inr (by simp)
      | some g =>
        rcases h.apart j k hj hk e with h0 | h0
        · exact .inl h0
        · exact .inr (fun e2 => h0 (e2.trans (hat g hv).symm))
    unfold updV
    by_cases e1 : i = k
    · by_cases e2 : j = k
      · omega
      · rw [if_pos e1, if_neg e2]
        rcases fresh j hj e2 with h0 | h0
        · cases hv : v'.ownBlock with
          | none => exact .inl rfl
          | some g => exact .inr (by rw [h0]; simp)
        · exact .inr (fun e => h0 e.symm)
    · by_cases e2 : j = k
      · rw [if_neg e1, if_pos e2]; exact fresh i hi e1
      · rw [if_neg e1, if_neg e2]; exact h.apart i j hi hj hij
theorem wIn_put2 {k : Nat} {v' : Value} (hk : k < 64) (hat : ∀ g, v'.ownBlock = some g → (V k).ownBlock = some g) {g : Nat} (hg : wIn b (updV V k v') g) : wIn b V g := by
  rcases hg with rfl | ⟨j, hj, hg⟩
  · exact .inl rfl
  · unfold updV at hg
    split at hg
    · exact .inr ⟨k, hk, hat g hg⟩
    · exact .inr ⟨j, hj, hg⟩
end
end Go.Proofs.Ytcpfekhpbjkgeaa
end
section
/- wheel.Go. -/
set_option linter.unusedVariables false
namespace Go.Proofs.Ytcpfekhpbjkgeaa
open Go.RowKit
set_option maxHeartbeats 8000000
set_option maxRecDepth 100000
/-- What Go answers, and leaves. -/
def GoGood (w w' : World) (B b : Nat) (V : Nat → Value) (l : List It) (tz : Int) (e : Ending) : Prop :=
  ∃ v, e = .returned (.tuple #[v, .int .i64 0]) ∧ w'.ownsRow w.heap.size 31 2 v (l.take (dueN tz l)).length (itShape.flat (l.take (dueN tz l))) ∧
    ∃ V', WheelIs w' B b V' (l.drop (dueN tz l)) tz ∧ Mod (wIn b V) w w' ∧ ∀ g, wIn b V' g → wIn b V g
theorem wheel_GoBad {w : World} {B b : Nat} {V : Nat → Value} {l : List It} {now : Int} (h : WheelIs w B b V l now) (tz : Int) (htz : ¬ (now ≤ tz ∧ tz ≤ 1099511627776)) :
    Calls Try.prog 15 #[.pointer (some ⟨b, 0, none⟩), .int .i64 tz] w fun e w' => e = .returned (.tuple #[.slice none 0 0, .int .i64 5]) ∧ w = w' := by
  have c := h.cNow
  go_enter Try.func15, Try.ntmps15
  by_cases c1 : tz < now
  · go_wp2
    go_ret2
    exact ⟨rfl, rfl⟩
  · have c2 : 1099511627776 < tz := by omega
    go_wp2
    go_ret2
    exact ⟨rfl, rfl⟩
theorem own_at2 {w : World} {B : Nat} {T : TypeId} {A : Option Addr} {n c : Nat} {l : List It} (h : w.ownsRow B T 2 (.slice A n c) n (itShape.flat l)) {i : Nat} (hi : i < n) :
    ∃ g, A = some ⟨g, 0, none⟩ ∧ l.length = n ∧ w.cell? ⟨g, i * 2, none⟩ = some (.int .i64 (l.getD i default).t) ∧ w.cell? ⟨g, i * 2 + 1, none⟩ = some (.int .i64 (l.getD i default).id) ∧ n ≤ c := by
  have hl : l.length = n := by have := h.1; rw [itShape.flat_len] at this; exact Nat.eq_of_mul_eq_mul_right (by decide) this
  rcases h.2 with ⟨e, _⟩ | ⟨g, cap, a, e, hb, hg, h1, h2, h3, h4⟩
  · cases e; omega
  · cases e
    have hat : ∀ j, j < 2 → w.cell? ⟨g, i * 2 + j, none⟩ = (encIt (l.getD i default))[j]? := fun j hj => by
      have e2 := itShape.flat_at l i j hj
      rw [← h4, List.getElem?_take_of_lt (by show i * 2 + j < n * 2; omega), Array.getElem?_toList] at e2
      rw [show l[i]? = some (l.getD i default) by rw [List.getD_eq_getElem?_getD, List.getElem?_eq_getElem (by omega)]; rfl] at e2
      simp only [World.cell?, hg]
      exact e2
    exact ⟨g, rfl, hl, hat 0 (by decide), hat 1 (by decide), h1⟩
theorem own_shrinkA {w : World} {B : Nat} {T : TypeId} {A : Option Addr} {n c r : Nat} {cur : List It} (h : w.ownsRow B T 2 (.slice A n c) n (itShape.flat cur)) (hr : r ≤ n) : w.ownsRow B T 2 (.slice A r c) (cur.take r).length (itShape.flat (cur.take r)) := by
  rcases h.2 with ⟨e, e2⟩ | ⟨g, cap, a, e, _⟩
  · obtain rfl : r = 0 := by omega
    subst e2
    rw [List.take_zero]
    cases e
    exact World.ownsRow_nil w B T 2
  · cases e; exact own_shrink h hr
theorem it_at (w : World) (T : TypeId) (x : It) : ∀ j u, (encIt x)[j]? = some u → (w.alloc (.cells (encIt x).toArray T)).cell? ((⟨w.heap.size, 0, none⟩ : Addr).add j) = some u := fun j u hu => by
  have e : (⟨w.heap.size, 0, none⟩ : Addr).add j = ⟨w.heap.size, j, none⟩ := by unfold Addr.add; split <;> simp_all
  rw [e, (Blk.new w T (encIt x).toArray).cell j]
  simpa using hu
theorem own_len {w : World} {B : Nat} {T : TypeId} {v : Value} {n : Nat} {l : List It} (h : w.ownsRow B T 2 v n (itShape.flat l)) : l.length = n := by have := h.1; rw [itShape.flat_len] at this; exact Nat.eq_of_mul_eq_mul_right (by decide) this
theorem own_cap {w : World} {B : Nat} {T : TypeId} {A : Option Addr} {n c : Nat} {xs : List Value} (h : w.ownsRow B T 2 (.slice A n c) n xs) : n ≤ c ∧ c ≤ 9223372036854775807 := by
  rcases h.2 with ⟨e, _⟩ | ⟨g, cap, a, e, hb, hg, h1, h2, h3, h4⟩
  · cases e; omega
  · cases e; unfold maxLen at h2; omega
theorem mod_fresh {D E : Nat → Prop} {w w1 w2 : World} (h : Mod D w w1) (k : Mod E w1 w2) (hE : ∀ g, E g → D g ∨ w.heap.size ≤ g) : Mod D w w2 :=
  ⟨k.os.trans h.os, k.tape.trans h.tape, k.output.trans h.output, Nat.le_trans h.size k.size, fun i hi hn => (k.block i (Nat.lt_of_lt_of_le hi h.size) (fun he => by
    rcases hE i he with h1 | h1
    · exact hn h1
    · omega)).trans (h.block i hi hn)⟩
theorem wheel_Go {w : World} {B b : Nat} {V : Nat → Value} {l : List It} {now : Int} (h : WheelIs w B b V l now) (tz : Int) (h0 : now ≤ tz) (h1 : tz ≤ 1099511627776) (hl : l.length < 4096) (hB : B ≤ w.heap.size) :
    Calls Try.prog 15 #[.pointer (some ⟨b, 0, none⟩), .int .i64 tz] w fun e w' => GoGood w w' B b V l tz e := by
  obtain ⟨iI, hiI, hzI, hzI1, hzI2⟩ := info_parts Try.infoItem
  have hlt := fun g hg => (h.lt (g := g) hg).2
  have c := h.cNow
  have hn0 := h.n0
  have hn1 := h.n1
  obtain ⟨S, hS, hOK, hPe⟩ := h.ex
  have HW := Lib.hid (And.intro h.ord (And.intro h.wf (And.intro hOK hPe)))
  clear h hOK hPe
  have HP := Lib.hid (rfl : GoGood w = GoGood w)
  have g1 : ¬ tz < now := by omega
  have g2 : ¬ 1099511627776 < tz := by omega
  have w64 : IntKind.i64.wrap (now + 64) = now + 64 := by rw [IntKind.wrap_i64]; omega
  have w01 : IntKind.i64.wrap (now + 1) = now + 1 := by rw [IntKind.wrap_i64]; omega
  clear HP
  obtain ⟨La, hLa⟩ : ∃ La, La = min tz (now + 64) := ⟨_, rfl⟩
  have HLa := Lib.hid hLa
  have hmn : min tz (now + 64) = La := hLa.symm
  have hLb : now ≤ La ∧ La ≤ 1099511627776 := by omega
  clear hLa
  go_enter Try.func15, Try.ntmps15
  go_wp2_with fail
  clear c hmn g1 g2
  go_loopg [6, 8] (La - now).toNat (fun gk s6 s8 wr => ∃ (t : Int) (S' : Nat → List It) (V' : Nat → Value) (out : List It), s8 = .int .i64 t ∧ now + 1 ≤ t ∧ t ≤ La + 1 ∧ gk = (La + 1 - t).toNat ∧ IsWheel wr B b V' S' now l.length ∧ Hid (∀ g, wIn b V' g → wIn b V g) ∧ Hid (GoAt S now tz t S' out) ∧ wr.ownsRow w.heap.size 31 2 s6 out.length (itShape.flat out) ∧ Mod (wIn b V) w wr)
  case atStart => exact ⟨now + 1, S, V, [], rfl, by omega, by omega, by congr 1; omega, hS, Lib.hid (fun g hg => hg), Lib.hid (go_start S now tz), World.ownsRow_nil w _ _ 2, Mod.refl _ _⟩
  case round =>
    clear hS w01 w64
    obtain ⟨t, S', V', out, rfl, ht0, ht1, rfl, hI, HIN, HG, hO, hM⟩ := hrel
    obtain ⟨Ao, co, rfl⟩ := own_sl hO
    by_cases htl : t ≤ La
    · obtain ⟨k, hk⟩ : ∃ k : Nat, (k : Int) = t % 64 := ⟨(t % 64).toNat, by omega⟩
      have hk64 : k < 64 := by omega
      have hkz : (k : Int) < 64 := by omega
      have hkm : t % 64 = (k : Int) := hk.symm
      have hkt : Int.tmod t 64 = (k : Int) := by rw [Int.tmod_eq_emod_of_nonneg (by omega)]; exact hk.symm
      have HK := Lib.hid hk
      clear hk
      have hro := hI.row k hk64
      have c7 := hI.cSlot hk64
      obtain ⟨A, cA, eA⟩ := own_sl hro
      obtain ⟨hcA, hcA2⟩ := own_cap (eA ▸ hro)
      have HEA := Lib.hid eA
      rw [eA] at hro c7
      have HVK := Lib.hid (show ∀ g, A = some ⟨g, 0, none⟩ → g < w.heap.size ∧ wIn b V g from fun g e => by
        have h1 := HIN.out g (.inr ⟨k, hk64, by rw [eA, e]; rfl⟩)
        exact ⟨hlt g h1, h1⟩)
      have hnlt : (S' k).length < 4096 := by
        have e1 := HG.out.perm.length_eq
        have e2 := HW.out.2.2.2.length_eq
        have e3 : (S' k).length ≤ (allOf S' 64).length := slot_le S' hk64
        rw [List.length_append] at e1; omega
      have holt : out.length < 4096 := by
        have e1 := HG.out.perm.length_eq
        have e2 := HW.out.2.2.2.length_eq
        rw [List.length_append] at e1; omega
      have HBN := Lib.hid (show out.length + (S' k).length ≤ l.length by
        have e1 := HG.out.perm.length_eq
        have e2 := HW.out.2.2.2.length_eq
        have e3 : (S' k).length ≤ (allOf S' 64).length := slot_le S' hk64
        rw [List.length_append] at e1; omega)
      obtain ⟨L, hL⟩ : ∃ L, L = S' k := ⟨_, rfl⟩
      rw [← hL] at hro hcA hnlt HBN
      rw [← hL] at c7
      have HL := Lib.hid hL
      clear hL eA
      obtain ⟨n, hn⟩ : ∃ n, n = L.length := ⟨_, rfl⟩
      rw [← hn] at hro c7 hcA hnlt HBN
      have HN := Lib.hid hn
      clear hn
      go_wp2_with fail
      obtain ⟨wo, rfl⟩ : ∃ wo, wo = wr := ⟨_, rfl⟩
      clear c7 hkm hkt
      go_loopg [6, 10, 12, 60] n (fun gk s6 s10 s12 s60 wr => ∃ (i r : Nat) (cur o : List It), s60 = .int .i64 i ∧ s10 = .slice A r cA ∧ i ≤ n ∧ gk = n - i ∧ Hid (Shr (fun x => !due tz x) L cur i r) ∧ r ≤ i ∧ wr.ownsRow B 31 2 (.slice A n cA) n (itShape.flat cur) ∧ wr.ownsRow w.heap.size 31 2 s6 o.length (itShape.flat o) ∧ Hid (o = out ++ (L.take i).filter (due tz)) ∧ o.length ≤ out.length + i ∧ Mod (fun g => A = some ⟨g, 0, none⟩ ∨ w.heap.size ≤ g) wo wr)
      case atStart => exact ⟨0, 0, L, out, by go_num, rfl, Nat.zero_le _, rfl, Lib.hid (shr_start _ _), Nat.le_refl _, hro, hO, Lib.hid (by simp), by omega, Mod.refl _ _⟩
      case round =>
        clear hro hO
        obtain ⟨i, r, cur, o, rfl, rfl, hi, rfl, HS, hri, hro, hO, HO, hol, hM2⟩ := hrel
        obtain ⟨Ap, cp, rfl⟩ := own_sl hO
        by_cases hin : i < n
        · have hii : (i : Int) < (n : Int) := by omega
          have hiL : i < L.length := by rw [← HN.out]; exact hin
          obtain ⟨g, rfl, hcl, d0, d1, hnc⟩ := own_at2 hro hin
          rw [HS.out.at_ hiL] at d0 d1
          have HYES := Lib.hid (fun h => HS.out.yes hiL h)
          have HNO := Lib.hid (fun h => HS.out.no hiL h)
          have HT := Lib.hid (take_next hiL)
          obtain ⟨X, hX⟩ : ∃ X, X = L.getD i default := ⟨_, rfl⟩
          rw [← hX] at d0 d1 HYES HNO HT
          clear hX hiL
          have hgw := HVK.out g rfl
          obtain ⟨Xt, Xi⟩ := X
          dsimp only at d0 d1
          have hne : (Value.slice Ap o.length cp).ownBlock ≠ some g := fun e => by have := (hO.lt g e).1; omega
          go_upto_region 13 with (fail)
          have P := Blk.new wr 31 #[.int .i64 Xt, .int .i64 Xi]
          have hro1 := hro.alloc (.cells #[.int .i64 Xt, .int .i64 Xi] 31)
          have hO1 := hO.alloc (.cells #[.int .i64 Xt, .int .i64 Xi] 31)
          have hM3 := hM2.alloc (.cells #[.int .i64 Xt, .int .i64 Xi] 31)
          clear hro hO hM2 d0 d1
          obtain ⟨xb, hxb⟩ : ∃ q, q = wr.heap.size := ⟨_, rfl⟩
          rw [← hxb] at P ⊢
          clear hxb
          generalize wr.alloc (.cells #[.int .i64 Xt, .int .i64 Xi] 31) = u at *
          obtain ⟨p0, p1, _⟩ := P.cells2
          have hus : w.heap.size ≤ u.heap.size := Nat.le_trans hM.size hM3.size
          by_cases hdue : Xt ≤ tz
          · go_wp2_with (at_builtin; go_loud (refine wpList_append_any _ rfl (.tmp 68) (.tmp 70) _ rfl w.heap.size 31 iI _ 2 16 Try.underlying22 hiI hzI hzI1 hzI2 rfl (by decide) _ o.length (itShape.flat o) rfl (hO1.alloc _) _ (some ⟨u.heap.size, 0, none⟩) 1 1 [.int .i64 Xt, .int .i64 Xi] rfl (it_reads u 31 2 [.int .i64 Xt, .int .i64 Xi] rfl) (by intro u hu; simp at hu; rcases hu with rfl | rfl <;> rfl) (by simp only [maxLen]; omega) (by omega) (by simp; omega) ?_; intro v6 w6 hown6 hg6 hat6))
            have hro6 := (hro1.alloc (.cells #[.int .i64 Xt, .int .i64 Xi] 31)).kept hg6 (.inr (fun e => hne e.symm))
            have hM6 := (hM3.alloc (.cells #[.int .i64 Xt, .int .i64 Xi] 31)).trans (mod_grown hg6 (fun q hq => .inr (hO1.lt q hq).1))
            have HO6 := Lib.hid (show o ++ [⟨Xt, Xi⟩] = out ++ (L.take (i + 1)).filter (due tz) by
              rw [HT.out, List.filter_append, List.filter_cons_of_pos (by unfold due; exact decide_eq_true hdue), HO.out, List.append_assoc]; rfl)
            have HS6 := Lib.hid (HNO.out (by unfold due; simp [hdue]))
            have hown7 : w6.ownsRow w.heap.size 31 2 v6 (o ++ [(⟨Xt, Xi⟩ : It)]).length (itShape.flat (o ++ [⟨Xt, Xi⟩])) := by rw [List.length_append, itShape.flat_snoc]; exact hown6
            clear hown6 hg6 hat6 hro1 hO1 hM3 p0 p1 P HYES HNO HT HO HS
            go_wp2
            go_roundg (n - (i + 1))
            case measure => omega
            case rel => exact ⟨i + 1, r, cur, o ++ [⟨Xt, Xi⟩], by go_num, rfl, by omega, rfl, HS6, by omega, hro6, hown7, HO6, by rw [List.length_append]; simp only [List.length_cons, List.length_nil]; omega, hM6⟩
          · have hrn : r < n := by omega
            go_wp2_with (at_builtin; go_loud (refine wpList_append_in rfl (.tmp 72) (.tmp 74) _ rfl iI Try.underlying22 hiI hzI1 (n := n) (c := cA) (r := r) (cur := cur) (B := B) rfl (hro1.alloc _) hrn ⟨Xt, Xi⟩ (ad := ⟨u.heap.size, 0, none⟩) (c2 := 1) rfl (it_at u 31 ⟨Xt, Xi⟩) ?_; intro w6 hown6 hg6))
            have hO6 := (hO1.alloc (.cells #[.int .i64 Xt, .int .i64 Xi] 31)).kept hg6 (.inr hne)
            have hM6 := (hM3.alloc (.cells #[.int .i64 Xt, .int .i64 Xi] 31)).trans (mod_grown hg6 (fun q hq => by injection hq with hq; subst hq; exact .inl rfl))
            have HO6 := Lib.hid (show o = out ++ (L.take (i + 1)).filter (due tz) by
              rw [HT.out, List.filter_append, List.filter_cons_of_neg (by unfold due; simp [hdue]), HO.out, List.filter_nil, List.append_nil])
            have HS6 := Lib.hid (HYES.out (by unfold due; simp [hdue]))
            clear hg6 hro1 hO1 hM3 p0 p1 P HYES HNO HT HO HS
            go_wp2
            go_roundg (n - (i + 1))
            case measure => omega
            case rel => exact ⟨i + 1, r + 1, cur.set r ⟨Xt, Xi⟩, o, by go_num, by go_num, by omega, rfl, HS6, by omega, hown6, hO6, HO6, by omega, hM6⟩
        · obtain rfl : i = n := by omega
          have hge : ¬ (i : Int) < (i : Int) := by omega
          have hbD : ¬ (A = some ⟨b, 0, none⟩ ∨ w.heap.size ≤ b) := fun h => by
            rcases h with h | h
            · exact hI.no hk64 (by rw [HEA.out, h]; rfl)
            · have := hlt b (.inl rfl); omega
          have hB := hI.blk.mod hM2 hbD
          have c7 := (hB.cell k).trans (slot_at _ _ _ hk64)
          have f7 := hB.free k
          have hnL : i = L.length := HN.out
          have HCE := Lib.hid (show cur.take r = L.filter (fun x => !due tz x) by have h := HS.out; rw [hnL] at h; exact h.end_)
          have HOE := Lib.hid (show o = out ++ L.filter (due tz) by rw [HO.out, hnL, List.take_length])
          have hat : ∀ g, (Value.slice A r cA).ownBlock = some g → (V' k).ownBlock = some g := fun g hg => by rw [HEA.out]; cases A <;> exact hg
          have hI2 := hI.put2 hk64 hM2 hbD (fun j hj hjk g hg h => by
            rcases h with h | h
            · rcases hI.apart j k hj hk64 hjk with h1 | h1
              · rw [h1] at hg; cases hg
              · exact h1 (by rw [hg, HEA.out, h]; rfl)
            · have := hlt g (HIN.out g (.inr ⟨j, hj, hg⟩)); omega) (own_shrinkA hro hri) hat
          have hI3 := hI2.congr (S' := upd S' k ((S' k).filter (fun x => !due tz x))) (fun j hj => by unfold upd; split; rw [HCE.out, HL.out]; rfl)
          have HIN2 := Lib.hid (fun g hg => HIN.out g (wIn_put2 (b := b) hk64 hat (g := g) hg))
          have HG2 := Lib.hid (show GoAt S now tz (t + 1) _ o by rw [HOE.out, HL.out]; exact HG.out.step (by omega) HK.out hk64)
          have hM4 := (mod_fresh hM hM2 (fun q hq => by
            rcases hq with h | h
            · exact .inl (HVK.out q h).2
            · exact .inr h)).setCell (p := ⟨b, k, none⟩) (.inl (.inl rfl)) (.slice A r cA)
          have hO2 := ownsRow_setCell_other hO (a := ⟨b, k, none⟩) (fun e => by have h1 := (hO.lt b e).1; have h2 := hlt b (.inl rfl); omega) (.slice A r cA)
          have wt1 : IntKind.i64.wrap (t + 1) = t + 1 := by rw [IntKind.wrap_i64]; omega
          clear hI hI2 HIN HG HO HS hM hM2 hro hO hat hbD hB HCE HOE HEA HVK HL HN HBN hnL hcA
          go_wp2
          go_roundg (La + 1 - (t + 1)).toNat
          case measure => omega
          case rel => exact ⟨t + 1, _, _, o, rfl, by omega, by omega, rfl, hI3, HIN2, HG2, hO2, hM4⟩
    · have hte : t = La + 1 := by omega
      have HTE := Lib.hid (show t = min tz (now + 64) + 1 by rw [hte, HLa.out])
      have c64 := hI.cNow
      have f64 := hI.blk.free 64
      have hI1 := hI.setNow tz
      have c65 := hI1.cN
      have f65 := hI1.blk.free 65
      have holt : out.length ≤ l.length := by
        have e1 := HG.out.perm.length_eq
        have e2 := HW.out.2.2.2.length_eq
        rw [List.length_append] at e1; omega
      have hol2 : out.length < 4096 := by omega
      have wl1 : IntKind.i64.wrap ((l.length : Int) - (out.length : Int)) = (l.length : Int) - (out.length : Int) := by rw [IntKind.wrap_i64]; omega
      have hI2 := hI1.setN ((l.length : Int) - (out.length : Int))
      have hbo : (Value.slice Ao out.length co).ownBlock ≠ some b := fun e => by have h1 := (hO.lt b e).1; have h2 := hlt b (.inl rfl); omega
      have hO2 := ownsRow_setCell_other (ownsRow_setCell_other hO (a := ⟨b, 64, none⟩) hbo (.int .i64 tz)) (a := ⟨b, 65, none⟩) hbo (.int .i64 ((l.length : Int) - (out.length : Int)))
      have hM2 := (hM.setCell (p := ⟨b, 64, none⟩) (.inl (.inl rfl)) (.int .i64 tz)).setCell (p := ⟨b, 65, none⟩) (.inl (.inl rfl)) (.int .i64 ((l.length : Int) - (out.length : Int)))
      have hSS := sortStable_own out hO2 (by omega)
      have htl2 : ¬ t ≤ La := htl
      have HOB := Lib.hid (fun g (hg : (Value.slice Ao out.length co).ownBlock = some g) => (hO.lt g hg).1)
      clear hI hI1 hO hM hbo hte htl
      go_upto_region 20 with (fail)
      clear c64 f64 c65 f65
      generalize (wr.setCell ⟨b, 64, none⟩ (.int .i64 tz)).setCell ⟨b, 65, none⟩ (.int .i64 ((l.length : Int) - (out.length : Int))) = w2 at *
      go_wp2_with fail
      refine hSS.mono ?_; rintro e w3 ⟨rfl, o, hoO, hoP, hoR, hoG⟩
      have HGO := Lib.hid (HG.out.out HTE.out HW.out.2.2.1 HW.out.1 HW.out.2.2.2 hoO hoP)
      have hI3 := hI2.mod (mod_grown hoG (D := fun g => (Value.slice Ao out.length co).ownBlock = some g) (fun g hg => hg)) (fun g hg h => by have h1 := HOB.out g h; have h2 := hlt g (HIN.out g hg); omega)
      have hM3 := mod_fresh hM2 (mod_grown hoG (D := fun g => (Value.slice Ao out.length co).ownBlock = some g) (fun g hg => hg)) (fun g hg => .inr (HOB.out g hg))
      have hole : out.length = (l.take (dueN tz l)).length := by rw [← HGO.out.1]; exact hoP.length_eq.symm
      have HRR := Lib.hid (show w3.ownsRow w.heap.size 31 2 (.slice Ao out.length co) (l.take (dueN tz l)).length (itShape.flat (l.take (dueN tz l))) by rw [← hole, ← HGO.out.1]; exact hoR)
      have HWI := Lib.hid (show WheelIs w3 B b V' (l.drop (dueN tz l)) tz from ⟨⟨S', by
        rw [show (((l.drop (dueN tz l)).length : Nat) : Int) = (l.length : Int) - (out.length : Int) by
          rw [hole, List.length_drop, List.length_take]; have := dueN_le tz l; omega]
        exact hI3, HG.out.ok HTE.out HW.out.2.2.1, HGO.out.2⟩, List.Pairwise.sublist (List.drop_sublist _ _) HW.out.1, fun x hx => HW.out.2.1 x (List.mem_of_mem_drop hx), by omega, h1⟩)
      have HMM := Lib.hid hM3
      clear hI2 hI3 hM2 hM3 hoO hoP hoR hoG hSS hO2 hole
      go_wp2
      go_ret2
      exact ⟨_, rfl, HRR.out, V', HWI.out, HMM.out, HIN.out⟩
end Go.Proofs.Ytcpfekhpbjkgeaa
end
section
/- No wheel; the law's awake; WheelNobody. -/
set_option linter.unusedVariables false
namespace Go.Proofs.Ytcpfekhpbjkgeaa
open Go.RowKit
set_option maxHeartbeats 8000000
set_option maxRecDepth 100000
theorem nil_Now (w : World) : Calls Try.prog 14 #[.pointer none] w fun e w' => e = .returned (.int .i64 0) ∧ w = w' := by
  go_enter Try.func14, Try.ntmps14
  go_wp2
  go_ret
  exact ⟨rfl, rfl⟩
theorem nil_Len (w : World) : Calls Try.prog 22 #[.pointer none] w fun e w' => e = .returned (.int .i64 0) ∧ w = w' := by
  go_enter Try.func22, Try.ntmps22
  go_wp2
  go_ret
  exact ⟨rfl, rfl⟩
theorem nil_Next (w : World) : Calls Try.prog 23 #[.pointer none] w fun e w' => e = .returned (.int .i64 (-1)) ∧ w = w' := by
  go_enter Try.func23, Try.ntmps23
  go_wp2
  go_ret
  exact ⟨rfl, rfl⟩
theorem nil_All (w : World) : Calls Try.prog 17 #[.pointer none] w fun e w' => e = .returned (.slice none 0 0) ∧ w = w' := by
  go_enter Try.func17, Try.ntmps17
  go_wp2
  go_ret
  exact ⟨rfl, rfl⟩
theorem nil_Go (z : Int) (w : World) : Calls Try.prog 15 #[.pointer none, .int .i64 z] w fun e w' => e = .returned (.tuple #[.slice none 0 0, .int .i64 5]) ∧ w = w' := by
  go_enter Try.func15, Try.ntmps15
  go_wp2
  go_ret2
  exact ⟨rfl, rfl⟩
theorem nil_Cancel (z : Int) (w : World) : Calls Try.prog 20 #[.pointer none, .int .i64 z] w fun e w' => e = .returned (.int .i64 0) ∧ Below w.heap.size w w' := by
  have hA : Below w.heap.size w (w.alloc (.cells #[.int .i64 z] 3)) := (Below.refl _ _).alloc (Nat.le_refl _) _
  go_enter Try.func20, Try.ntmps20
  go_wp2
  go_ret
  exact ⟨rfl, hA⟩
theorem nil_Add (x y : Int) (w : World) : Calls Try.prog 13 #[.pointer none, .agg #[.int .i64 x, .int .i64 y]] w fun e w' => e = .returned (.int .i64 5) ∧ Below w.heap.size w w' := by
  have hA : Below w.heap.size w (w.alloc (.cells #[.int .i64 x, .int .i64 y] 31)) := (Below.refl _ _).alloc (Nat.le_refl _) _
  go_enter Try.func13, Try.ntmps13
  go_upto_region 1 with (fail)
  generalize w.alloc (.cells #[.int .i64 x, .int .i64 y] 31) = u at *
  refine wp_region_quiet_under (by kernel_rfl) (by kernel_rfl) ?_
  repeat (go_big_quiet_step ((fail)))
  refine wpQuiet_nil ?_
  intro w2 hw'
  obtain ⟨pq, hw''⟩ := hw'
  have hU := below_eq hw''
  clear hw'' pq
  go_wp2
  go_ret
  exact ⟨rfl, below_step hA hU⟩
theorem WheelIs.below {w w' : World} {B b : Nat} {V : Nat → Value} {l : List It} {now : Int} (h : WheelIs w B b V l now) (hB : B ≤ w.heap.size) (hm : Mod (wIn b V) w w') : Below B w w' := hm.toBelow hB (fun g hg => (h.lt hg).1)
theorem zero_wheel : Try.zeroCells27 = slotCells (fun _ => .slice none 0 0) 0 0 := by as_aux_lemma => kernel_rfl
theorem below_thenB {B : Nat} {w w1 w2 : World} (h : Below B w w1) (k : Below B w1 w2) : Below B w w2 := h.trans k
theorem law21_awake (w : World) : Calls Try.prog 18 #[] w fun e w' => e = .returned (.bool true) ∧ Below w.heap.size w w' := by
  go_enter Try.func18, Try.ntmps18
  go_upto_region 2 with (fail)
  have hA := (Below.refl w.heap.size w).alloc (Nat.le_refl _) (.cells Try.zeroCells27 27)
  have W0 := wheel_new (B := w.heap.size) (Blk.new w 27 Try.zeroCells27) zero_wheel (Nat.le_refl _)
  obtain ⟨b, hb⟩ : ∃ b, b = w.heap.size := ⟨_, rfl⟩
  have hBw := Nat.le_of_eq hb
  generalize w.alloc (.cells Try.zeroCells27 27) = u at *
  obtain ⟨B, hB⟩ : ∃ B, B = w.heap.size := ⟨_, rfl⟩
  rw [← hB] at hA W0 ⊢
  have HB := Lib.hid hB
  clear hB hb hBw b
  have hBu : B ≤ u.heap.size := by have := W0.lt (g := B) (.inl rfl); omega
  have C1 := wheel_Add W0 ⟨70, 1⟩ (by unfold itShape I64; decide) (by decide)
  rw [show addE 0 ⟨70, 1⟩ = 0 from rfl, show addL 0 [] ⟨70, 1⟩ = [⟨70, 1⟩] from rfl] at C1
  go_wp2_with fail
  refine C1.mono ?_; rintro e w1 ⟨rfl, V1, W1, M1, I1⟩
  have hA1 := below_thenB hA (W0.below hBu M1)
  have hB1 : B ≤ w1.heap.size := Nat.le_trans hBu M1.size
  have C2 := wheel_Add W1 ⟨6, 2⟩ (by unfold itShape I64; decide) (by decide)
  rw [show addE 0 ⟨6, 2⟩ = 0 from rfl, show addL 0 [⟨70, 1⟩] ⟨6, 2⟩ = [⟨6, 2⟩, ⟨70, 1⟩] from rfl] at C2
  clear C1 hA W0 M1 I1 hBu
  go_wp2_with fail
  refine C2.mono ?_; rintro e w2 ⟨rfl, V2, W2, M2, I2⟩
  have hA2 := below_thenB hA1 (W1.below hB1 M2)
  have hB2 : B ≤ w2.heap.size := Nat.le_trans hB1 M2.size
  have C3 := wheel_Go W2 70 (by decide) (by decide) (by decide) hB2
  clear C2 hA1 W1 M2 I2 hB1
  go_wp2_with fail
  refine C3.mono ?_; rintro e w3 ⟨v, rfl, hO, V3, W3, M3, I3⟩
  have hA3 := below_thenB hA2 (W2.below hB2 M3)
  clear C3 hA2 W2 M3 I3 hB2 W3
  rw [show ([⟨6, 2⟩, ⟨70, 1⟩] : List It).take (dueN 70 [⟨6, 2⟩, ⟨70, 1⟩]) = [⟨6, 2⟩, ⟨70, 1⟩] from rfl] at hO
  obtain ⟨A, c, rfl⟩ := own_sl hO
  obtain ⟨g, rfl, _, _, d1, _⟩ := own_at2 hO (i := 0) (by decide)
  obtain ⟨g', e, _, _, d2, hc⟩ := own_at2 hO (i := 1) (by decide)
  cases e
  have d3 : w3.cell? ⟨g, 1, none⟩ = some (.int .i64 2) := d1
  have d4 : w3.cell? ⟨g, 3, none⟩ = some (.int .i64 1) := d2
  rw [show ([⟨6, 2⟩, ⟨70, 1⟩] : List It).length = 2 from rfl] at hc
  clear d1 d2 hO
  dsimp only [List.length] 
  go_wp2
  go_ret
  exact ⟨rfl, by rw [← HB.out]; exact hA3⟩
theorem wheelNobody_walk (w : World) (xt xi : Int) : Calls Try.prog 5 #[.agg #[.int .i64 xt, .int .i64 xi]] w fun e w' => e = .returned (.bool true) ∧ Below w.heap.size w w' := by
  have hA : Below w.heap.size w (w.alloc (.cells #[.int .i64 xt, .int .i64 xi] 31)) := (Below.refl _ _).alloc (Nat.le_refl _) _
  have P := Blk.new w 31 #[.int .i64 xt, .int .i64 xi]
  have CG := fun w => nil_Go xt w
  have CA := fun w => nil_Add xt xi w
  have CC := fun w => nil_Cancel xi w
  go_enter Try.func5, Try.ntmps5
  obtain ⟨p0, p1, _⟩ := P.cells2
  go_wp2_with fail
  refine (CG _).mono ?_; rintro e w1 ⟨rfl, rfl⟩
  go_upto_region 3 with (fail)
  generalize w.alloc (.cells #[.int .i64 xt, .int .i64 xi] 31) = u at *
  have U0 := cell_under p0
  have U1 := cell_under p1
  clear p0 p1 P
  refine wp_region_quiet_under (by kernel_rfl) (by kernel_rfl) ?_
  repeat (go_big_quiet_step (((first | (go_at_call 13; exact calls_under (CA _)) | (go_at_call 17; exact calls_under_same (nil_All _)) | (go_at_call 22; exact calls_under_same (nil_Len _)) | (go_at_call 20; exact calls_under (CC _)) | (go_at_call 14; exact calls_under_same (nil_Now _)) | (go_at_call 23; exact calls_under_same (nil_Next _)) | (go_at_call 18; exact calls_under (law21_awake _))))))
  refine wpQuiet_nil ?_
  intro w2 hw'
  obtain ⟨pq, hw''⟩ := hw'
  have hU := below_eq hw''
  clear hw'' pq
  go_wp2
  go_ret
  exact ⟨rfl, below_step hA hU⟩
end Go.Proofs.Ytcpfekhpbjkgeaa
end
