/- Lemmas for the claim's proof: KeysPlain TraceP0 TraceQ. -/
import Derived.ChangeKeysEq
import Derived.Laws.StructEq
import Derived.Test.YtcpfekhpbjkgeaaT08
import Derived.Test.YtcpfekhpbjkgeaaT09
section
/- Keys of a list, each once, rising: where a key stands among them. Plain. -/
set_option linter.unusedVariables false
namespace Go.Proofs.Ytcpfekhpbjkgeaa
def frB (E : List Int) (y : Int) : Nat → Bool
  | 0 => true
  | j + 1 => frB E y j && (E.getD j 0 != y)
def fstB (E : List Int) (x : Int) (i : Nat) : Nat → Bool
  | 0 => true
  | k + 1 => if E.getD k 0 = x then fstB E x i k && decide (i ≤ k) else fstB E x i k
def manyB (E : List Int) (x : Int) : Nat → Nat
  | 0 => 0
  | k + 1 => manyB E x k + if E.getD k 0 = x then 1 else 0
def atB (E : List Int) (x : Int) : Nat → Nat
  | 0 => 0
  | k + 1 => atB E x k + if frB E (E.getD k 0) k = true ∧ E.getD k 0 < x then 1 else 0
def nB (E : List Int) : Nat → Nat
  | 0 => 0
  | i + 1 => nB E i + if frB E (E.getD i 0) i = true then 1 else 0
def ded (E : List Int) : Nat → List Int
  | 0 => []
  | k + 1 => ded E k ++ if frB E (E.getD k 0) k = true then [E.getD k 0] else []
theorem take_getD {E : List Int} {j : Nat} (h : j < E.length) : E.take (j + 1) = E.take j ++ [E.getD j 0] := by
  rw [List.take_add_one, List.getD_eq_getElem?_getD, List.getElem?_eq_getElem h]; rfl
theorem frB_iff {E : List Int} {y : Int} : ∀ {j : Nat}, j ≤ E.length → (frB E y j = true ↔ y ∉ E.take j)
  | 0, _ => by simp [frB]
  | j + 1, h => by
    rw [frB, Bool.and_eq_true, frB_iff (by omega), take_getD (by omega), List.mem_append, List.mem_singleton, bne_iff_ne]
    constructor
    · rintro ⟨h1, h2⟩ (h3 | h3)
      · exact h1 h3
      · exact h2 h3.symm
    · intro h1
      exact ⟨fun h2 => h1 (.inl h2), fun h2 => h1 (.inr h2.symm)⟩
theorem fstB_iff {E : List Int} {x : Int} {i : Nat} : ∀ {k : Nat}, k ≤ E.length → (fstB E x i k = true ↔ x ∉ E.take (min k i))
  | 0, _ => by simp [fstB]
  | k + 1, h => by
    have ih := fstB_iff (x := x) (i := i) (show k ≤ E.length by omega)
    rw [fstB]
    by_cases hx : E.getD k 0 = x
    · rw [if_pos hx, Bool.and_eq_true, decide_eq_true_eq, ih]
      by_cases hi : i ≤ k
      · rw [Nat.min_eq_right hi, Nat.min_eq_right (by omega)]
        exact ⟨fun h => h.1, fun h => ⟨h, hi⟩⟩
      · rw [Nat.min_eq_left (show k + 1 ≤ i by omega), take_getD (by omega)]
        constructor
        · rintro ⟨_, h2⟩; omega
        · intro h1; exact absurd (List.mem_append_right _ (by rw [hx]; exact List.mem_singleton.2 rfl)) h1
    · rw [if_neg hx, ih]
      by_cases hi : i ≤ k
      · rw [Nat.min_eq_right hi, Nat.min_eq_right (by omega)]
      · rw [Nat.min_eq_left (show k + 1 ≤ i by omega), Nat.min_eq_left (show k ≤ i by omega), take_getD (by omega), List.mem_append, List.mem_singleton]
        constructor
        · rintro h1 (h2 | h2)
          · exact h1 h2
          · exact hx h2.symm
        · intro h1 h2; exact h1 (.inl h2)
/-- That a place is the first of its key: no one ahead of it has it. -/
theorem fst_fr {E : List Int} {x : Int} {i : Nat} (hi : i ≤ E.length) : fstB E x i E.length = frB E x i := by
  have h1 := fstB_iff (x := x) (i := i) (Nat.le_refl E.length)
  rw [Nat.min_eq_right hi] at h1
  have h2 := frB_iff (y := x) hi
  cases h3 : fstB E x i E.length <;> cases h4 : frB E x i <;> simp_all
theorem manyB_eq (E : List Int) (x : Int) : ∀ {k : Nat}, k ≤ E.length → manyB E x k = (E.take k).count x
  | 0, _ => by simp [manyB]
  | k + 1, h => by
    rw [manyB, manyB_eq E x (by omega), take_getD (by omega), List.count_append, List.count_cons, List.count_nil]
    by_cases hx : E.getD k 0 = x <;> simp [hx]
theorem manyB_le (E : List Int) (x : Int) : ∀ k : Nat, manyB E x k ≤ k
  | 0 => Nat.le_refl _
  | k + 1 => by have := manyB_le E x k; rw [manyB]; split <;> omega
theorem atB_le (E : List Int) (x : Int) : ∀ k : Nat, atB E x k ≤ k
  | 0 => Nat.le_refl _
  | k + 1 => by have := atB_le E x k; rw [atB]; split <;> omega
theorem nB_le (E : List Int) : ∀ k : Nat, nB E k ≤ k
  | 0 => Nat.le_refl _
  | k + 1 => by have := nB_le E k; rw [nB]; split <;> omega
theorem ded_mem {E : List Int} : ∀ {k : Nat}, k ≤ E.length → ∀ y, y ∈ ded E k ↔ y ∈ E.take k
  | 0, _, y => by simp [ded]
  | k + 1, h, y => by
    rw [ded, take_getD (by omega), List.mem_append, List.mem_append, ded_mem (by omega), List.mem_singleton]
    by_cases c : frB E (E.getD k 0) k = true
    · rw [if_pos c, List.mem_singleton]
    · rw [if_neg c]
      have h1 : E.getD k 0 ∈ E.take k := Classical.byContradiction fun h2 => c ((frB_iff (by omega)).2 h2)
      constructor
      · rintro (h2 | h2)
        · exact .inl h2
        · cases h2
      · rintro (h2 | rfl)
        · exact .inl h2
        · exact .inl h1
theorem ded_nodup {E : List Int} : ∀ {k : Nat}, k ≤ E.length → (ded E k).Nodup
  | 0, _ => List.nodup_nil
  | k + 1, h => by
    rw [ded]
    by_cases c : frB E (E.getD k 0) k = true
    · rw [if_pos c, List.nodup_append]
      refine ⟨ded_nodup (by omega), by simp, fun a ha b hb => ?_⟩
      obtain rfl := List.mem_singleton.1 hb
      rintro rfl
      exact (frB_iff (by omega)).1 c ((ded_mem (by omega) _).1 ha)
    · rw [if_neg c, List.append_nil]; exact ded_nodup (by omega)
theorem nB_eq {E : List Int} : ∀ k : Nat, nB E k = (ded E k).length
  | 0 => rfl
  | k + 1 => by
    rw [nB, ded, List.length_append, nB_eq k]
    by_cases c : frB E (E.getD k 0) k = true
    · rw [if_pos c, if_pos c]; rfl
    · rw [if_neg c, if_neg c]; rfl
theorem atB_eq {E : List Int} {x : Int} : ∀ k : Nat, atB E x k = ((ded E k).filter fun y => decide (y < x)).length
  | 0 => rfl
  | k + 1 => by
    rw [atB, ded, List.filter_append, List.length_append, atB_eq k]
    by_cases c : frB E (E.getD k 0) k = true
    · rw [if_pos c]
      by_cases d : E.getD k 0 < x
      · rw [if_pos ⟨c, d⟩, List.filter_cons_of_pos (by simpa using d)]; rfl
      · rw [if_neg (fun h => d h.2), List.filter_cons_of_neg (by simpa using d)]; rfl
    · rw [if_neg c, if_neg (fun h => c h.1)]; rfl
theorem keys_perm {K E : List Int} (h : KeysOf K E) : (ded E E.length).Perm K := by
  refine (List.perm_ext_iff_of_nodup (ded_nodup (Nat.le_refl _)) (h.1.imp fun {a b} hab => by omega)).2 fun y => ?_
  rw [ded_mem (Nat.le_refl _), List.take_length, h.2]
theorem keys_count {K E : List Int} (h : KeysOf K E) : nB E E.length = K.length := by rw [nB_eq, (keys_perm h).length_eq]
theorem keys_idx : ∀ {K : List Int}, K.Pairwise (· < ·) → ∀ {x : Int}, x ∈ K → (K.filter fun y => decide (y < x)).length < K.length ∧ K.getD (K.filter fun y => decide (y < x)).length 0 = x
  | k :: K, h, x, hx => by
    obtain ⟨h1, h2⟩ := List.pairwise_cons.1 h
    rcases List.mem_cons.1 hx with rfl | hx
    · have : (x :: K).filter (fun y => decide (y < x)) = [] := by
        rw [List.filter_eq_nil_iff]
        intro y hy
        rcases List.mem_cons.1 hy with rfl | hy
        · simp
        · have := h1 y hy; simp; omega
      rw [this]
      exact ⟨by simp, rfl⟩
    · have hk := h1 x hx
      obtain ⟨h3, h4⟩ := keys_idx h2 hx
      rw [List.filter_cons_of_pos (by simpa using hk), List.length_cons, List.length_cons]
      exact ⟨by omega, by rw [List.getD_cons_succ]; exact h4⟩
/-- Where a key stands. -/
theorem keys_at {K E : List Int} (h : KeysOf K E) {x : Int} (hx : x ∈ E) : atB E x E.length < K.length ∧ K.getD (atB E x E.length) 0 = x := by
  rw [atB_eq, ((keys_perm h).filter _).length_eq]
  exact keys_idx h.1 ((h.2 x).2 hx)
end Go.Proofs.Ytcpfekhpbjkgeaa
end
section
/- What the laws compare: pairs, shares; how often an error was told. -/
set_option linter.unusedVariables false
namespace Go.Proofs.Ytcpfekhpbjkgeaa
open Go.RowKit
set_option maxHeartbeats 8000000
set_option maxRecDepth 100000
def samePr (x y : Pr) : Bool := x.a == y.a && x.b == y.b
theorem samePr_self (x : Pr) : samePr x x = true := by unfold samePr; simp
theorem sizeInt : (Try.prog.info? 3).map (·.size) = some 1 := by kernel_rfl
theorem cellsInt : Try.prog.cellsOf 3 = 1 := by kernel_rfl
theorem eq_pr (x y : Pr) (w : World) : (Op.equalIn 10000 103 (.agg #[.int .i64 x.a, .int .i64 x.b]) (.agg #[.int .i64 y.a, .int .i64 y.b])).run Try.prog w = .ok (samePr x y) w := by
  obtain ⟨x1, x2⟩ := x
  obtain ⟨y1, y2⟩ := y
  unfold samePr
  dsimp only
  obtain ⟨i, hi, _⟩ := Option.map_eq_some_iff.1 sizeInt
  rw [show (10000 : Nat) = 9999 + 1 from rfl, run_equalIn_array w 9999 _ _ Try.underlying103 hi, cellsInt, show List.range 2 = [0, 1] from rfl]
  simp only [Op.eqItems]
  go_simp
  (repeat' split) <;> simp_all
theorem eqG_pr (op : BinOp) (a b : Operand) (x y : Pr) (w : World) : (eqGuard op 103 a b (.agg #[.int .i64 x.a, .int .i64 x.b]) (.agg #[.int .i64 y.a, .int .i64 y.b])).run Try.prog w = .ok () w := by
  go_simp
theorem quiet_neq_pr {A : Act} {o : Oper} {x y : Operand} {t : TypeId} {a b : Pr} {E : Bool} {C : World → Prop} {K : Act → Prop} (hE : (!samePr a b) = E) (ho : o.op = .binOp .neq 103 x y t) (hx : A.eval x = .agg #[.int .i64 a.a, .int .i64 a.b]) (hy : A.eval y = .agg #[.int .i64 b.a, .int .i64 b.b])
    (h : K (A.put o.dst (.bool E))) : o.quiet Try.prog A C K :=
  ⟨.bool E, fun w _ => by
    unfold Oper.quietAt execOp
    simp only [ho, hx, hy, Sem.run_bind, eqG_pr .neq x y a b w, run_neq_struct, eq_pr a b w, Result.andThen_ok, Sem.run_pure, hE]
    exact ⟨rfl, rfl⟩, h⟩
def sameSh (x y : Sh) : Bool := x.host == y.host && x.outs == y.outs && x.bytes == y.bytes
theorem sameSh_self (x : Sh) : sameSh x x = true := by unfold sameSh; simp
theorem eq_sh (x y : Sh) (w : World) : (Op.equalIn 10000 97 (.agg #[.int .i64 x.host, .int .i64 x.outs, .int .i64 x.bytes]) (.agg #[.int .i64 y.host, .int .i64 y.outs, .int .i64 y.bytes])).run Try.prog w = .ok (sameSh x y) w := by
  obtain ⟨x1, x2, x3⟩ := x
  obtain ⟨y1, y2, y3⟩ := y
  unfold sameSh
  dsimp only
  go_simp
  (repeat' split) <;> simp_all
theorem eqG_sh (op : BinOp) (a b : Operand) (x y : Sh) (w : World) : (eqGuard op 97 a b (.agg #[.int .i64 x.host, .int .i64 x.outs, .int .i64 x.bytes]) (.agg #[.int .i64 y.host, .int .i64 y.outs, .int .i64 y.bytes])).run Try.prog w = .ok () w := by
  go_simp
theorem quiet_neq_sh {A : Act} {o : Oper} {x y : Operand} {t : TypeId} {a b : Sh} {E : Bool} {C : World → Prop} {K : Act → Prop} (hE : (!sameSh a b) = E) (ho : o.op = .binOp .neq 97 x y t) (hx : A.eval x = .agg #[.int .i64 a.host, .int .i64 a.outs, .int .i64 a.bytes]) (hy : A.eval y = .agg #[.int .i64 b.host, .int .i64 b.outs, .int .i64 b.bytes])
    (h : K (A.put o.dst (.bool E))) : o.quiet Try.prog A C K :=
  ⟨.bool E, fun w _ => by
    unfold Oper.quietAt execOp
    simp only [ho, hx, hy, Sem.run_bind, eqG_sh .neq x y a b w, run_neq_struct, eq_sh a b w, Result.andThen_ok, Sem.run_pure, hE]
    exact ⟨rfl, rfl⟩, h⟩
/-! How often an error was told by a kind of op. -/
def cB (kl E : List Int) (kind e : Int) : Nat → Nat
  | 0 => 0
  | i + 1 => cB kl E kind e i + if kl.getD i 0 = kind ∧ E.getD i 0 = e then 1 else 0
theorem cB_le (kl E : List Int) (kind e : Int) : ∀ i, cB kl E kind e i ≤ i
  | 0 => Nat.le_refl _
  | i + 1 => by have := cB_le kl E kind e i; rw [cB]; split <;> omega
theorem rows_at {kl : List Int} {F : List TV} {i : Nat} (hi : i < F.length) : (zipR (madeOps kl F.length) F).getD i rvShape.z = ⟨opK (kl.getD i 0), F.getD i tvShape.z⟩ := by
  have h1 : i < (madeOps kl F.length).length := by rw [madeOps_len]; exact hi
  unfold zipR
  rw [List.getD_eq_getElem?_getD, List.getElem?_zipWith, List.getElem?_eq_getElem h1, List.getElem?_eq_getElem hi]
  simp [madeOps, List.getD_eq_getElem?_getD, List.getElem?_eq_getElem hi]
theorem rows_len (kl : List Int) (F : List TV) : (zipR (madeOps kl F.length) F).length = F.length := by unfold zipR; rw [List.length_zipWith, madeOps_len]; omega
theorem errs_at {F : List TV} {i : Nat} (hi : i < F.length) : (F.map (·.err)).getD i 0 = (F.getD i tvShape.z).err := by
  rw [List.getD_eq_getElem?_getD, List.getElem?_map, List.getElem?_eq_getElem hi, List.getD_eq_getElem?_getD, List.getElem?_eq_getElem hi]; rfl
theorem cB_eq {kl : List Int} {F : List TV} {kind e : Int} : ∀ {i : Nat}, i ≤ F.length → cB kl (F.map (·.err)) kind e i = countR kind e ((zipR (madeOps kl F.length) F).take i)
  | 0, _ => by simp [cB, countR]
  | i + 1, h => by
    rw [cB, countR_next (by rw [rows_len]; omega), cB_eq (by omega), rows_at (by omega), errs_at (by omega)]
    unfold hitR opK
    by_cases h1 : kl.getD i 0 = kind <;> by_cases h2 : (F.getD i tvShape.z).err = e <;> simp [h1, h2, beq_iff_eq]
theorem errsR_zip (kl : List Int) (F : List TV) : errsR (zipR (madeOps kl F.length) F) = F.map (·.err) := by
  apply List.ext_getElem?
  intro i
  unfold errsR
  by_cases hi : i < F.length
  · have h1 : i < (zipR (madeOps kl F.length) F).length := by rw [rows_len]; exact hi
    have h2 := rows_at (kl := kl) hi
    rw [List.getD_eq_getElem?_getD, List.getElem?_eq_getElem h1] at h2
    rw [List.getElem?_map, List.getElem?_eq_getElem h1, List.getElem?_map, List.getElem?_eq_getElem hi]
    simp only [Option.getD_some] at h2
    rw [h2]
    simp [List.getD_eq_getElem?_getD, List.getElem?_eq_getElem hi]
  · rw [List.getElem?_eq_none (by rw [List.length_map, rows_len]; omega), List.getElem?_eq_none (by rw [List.length_map]; omega)]
theorem outsR_zip (kl : List Int) (F : List TV) : outsR (zipR (madeOps kl F.length) F) = outsT F := by
  have : (zipR (madeOps kl F.length) F).map (·.told) = F := by
    apply List.ext_getElem?
    intro i
    by_cases hi : i < F.length
    · have h1 : i < (zipR (madeOps kl F.length) F).length := by rw [rows_len]; exact hi
      have h2 := rows_at (kl := kl) hi
      rw [List.getD_eq_getElem?_getD, List.getElem?_eq_getElem h1] at h2
      rw [List.getElem?_map, List.getElem?_eq_getElem h1, List.getElem?_eq_getElem hi]
      simp only [Option.getD_some] at h2
      rw [Option.map_some, h2]
      simp [List.getD_eq_getElem?_getD, List.getElem?_eq_getElem hi]
    · rw [List.getElem?_eq_none (by rw [List.length_map, rows_len]; omega), List.getElem?_eq_none (by omega)]
  unfold outsR outsT
  conv => rhs; rw [← this]
  rw [List.flatMap_map]
end Go.Proofs.Ytcpfekhpbjkgeaa
end
section
/- TraceErrs. -/
set_option linter.unusedVariables false
namespace Go.Proofs.Ytcpfekhpbjkgeaa
open Go.RowKit Go.Maps Go.Sort Go.Shelf
set_option maxHeartbeats 16000000
set_option maxRecDepth 100000
/-- A result's error. -/
theorem err_at {w : World} {A : Option Addr} {n c : Nat} {l : List TV} (h : IsRow tvShape w A n c l) {k : Nat} (hk : k < n) : ∃ ad, A = some ad ∧ w.cell? (ad.add (k * 3)) = some (.int .i64 ((l.map (·.err)).getD k 0)) := by
  obtain ⟨ad, e, _, hT⟩ := h.tat hk
  exact ⟨ad, e, by rw [errs_at (by rw [h.len]; exact hk)]; exact hT.c0⟩
/-- A pair's cells. -/
theorem readsPr {w : World} {B n c : Nat} {A : Option Addr} {l : List Pr} (h : w.ownsRow B 103 2 (.slice A n c) n (prShape.flat l)) {k : Nat} (hk : k < n) : ∃ ad, A = some ad ∧ w.cell? (ad.add (k * 2)) = some (.int .i64 (l.getD k prShape.z).a) ∧
    w.cell? ⟨(ad.add (k * 2)).block, (ad.add (k * 2)).off + 1, none⟩ = some (.int .i64 (l.getD k prShape.z).b) := by
  obtain ⟨ad, e, hat⟩ := readsK_at (C := prShape) (ownK_reads h) (ownK_len (C := prShape) h) hk
  have hat : ∀ j u, (prShape.cells (l.getD k prShape.z))[j]? = some u → w.cell? (ad.add (k * 2 + j)) = some u := hat
  refine ⟨ad, e, hat 0 _ rfl, ?_⟩
  rw [← add_far _ _ _ (by omega)]
  exact hat 1 _ rfl
theorem traceErrs_walk (w : World) (A : Option Addr) (n c : Nat) (l : List TV) (h : IsRow tvShape w A n c l ∧ ∀ t ∈ l, IsOuts w t) (kA : Option Addr) (kn kc : Nat) (kl : List Int) (hk : IsList w .i64 kA kn kc kl) (kind : Int) (hk0 : -9223372036854775808 ≤ kind) (hk1 : kind ≤ 9223372036854775807) (e : Int) (he0 : -9223372036854775808 ≤ e) (he1 : e ≤ 9223372036854775807) :
    Calls Try.prog 11 #[.slice A n c, .slice kA kn kc, .int .i64 kind, .int .i64 e] w fun r w' => r = .returned (.bool true) ∧ Below w.heap.size w w' := by
  have hkc := hk.cap
  have hks := hk.small
  have HKL := Lib.hid hk.len
  have CF := law41_few h.1 h.2
  have HWF := Lib.hid (fewT_wf h.1)
  have HLE := Lib.hid (fewT_le l)
  clear h
  go_enter Try.func11, Try.ntmps11
  go_wp2_with fail
  refine CF.mono ?_; rintro r w1 ⟨⟨v1, rfl, hO1⟩, hW1⟩
  clear CF
  obtain ⟨A1, c1, rfl⟩ := ownK_sl hO1
  have hl1 := ownK_row (C := tvShape) hO1 HWF.out (by have := HLE.out; omega)
  obtain ⟨F, hF⟩ : ∃ F, F = fewT l := ⟨_, rfl⟩
  rw [← hF] at hl1 HLE ⊢
  rw [← hF] at HWF
  clear hF hO1
  obtain ⟨m, hm⟩ : ∃ m, m = F.length := ⟨_, rfl⟩
  rw [← hm] at hl1 HLE ⊢
  have HM := Lib.hid hm
  have hm30 : m ≤ 30 := HLE.out
  clear hm
  have hk1' := hk.keep hW1
  have CM := law41_made hl1 hk1' hm30
  rw [HM.out] at CM
  rw [← HM.out] at CM
  go_wp2_with fail
  refine CM.mono ?_; rintro r w2 ⟨rfl, ⟨v2, hL2⟩, hx2⟩
  have hl2 := hl1.keep hx2
  have hkl2 := hk1'.keep hx2
  have hW2 := below_step hW1 hx2
  obtain ⟨b, hb⟩ : ∃ b, b = w1.heap.size := ⟨_, rfl⟩
  rw [← hb] at hL2 ⊢
  clear hb CM hx2 hl1 hk1' hW1 hk
  have hL2 : IsLog w2 b b v2 (zipR (madeOps kl F.length) F) := by rw [← HM.out]; exact hL2
  have CE := log_Errs (.inr ⟨b, v2, rfl, hL2⟩) (fun r hr => by
    obtain ⟨i, hi⟩ := List.mem_iff_getElem?.1 hr
    have hi2 : i < F.length := by
      rcases Nat.lt_or_ge i F.length with h1 | h1
      · exact h1
      · rw [List.getElem?_eq_none (by rw [rows_len]; exact h1)] at hi; cases hi
    have h3 := rows_at (kl := kl) hi2
    rw [List.getD_eq_getElem?_getD, hi] at h3
    simp only [Option.getD_some] at h3
    rw [h3]
    show I64 (F.getD i tvShape.z).err
    rw [List.getD_eq_getElem?_getD, List.getElem?_eq_getElem hi2]
    exact (HWF.out _ (List.getElem_mem hi2)).1) (by rw [rows_len, ← HM.out]; omega)
  rw [errsR_zip] at CE
  go_wp2_with fail
  refine CE.mono ?_; rintro r w3 ⟨⟨v3, rfl, K, hK, hO3⟩, hx3⟩
  obtain ⟨A3, c3, rfl⟩ := ownK_sl hO3
  have hcap3 := ownK_cap hO3
  have hl3 := hl2.keep hx3
  have hkl3 := hkl2.keep hx3
  have hL3 := hL2.keep hx3
  have hW3 := below_step hW2 hx3
  have HL3 := Lib.hid hL3
  clear CE hx3 hl2 hkl2 hL2 hW2 hL3
  obtain ⟨E, hE⟩ : ∃ E, E = F.map (·.err) := ⟨_, rfl⟩
  have hcell := fun (w' : World) (hx : Below w3.heap.size w3 w') (k : Nat) (hk : k < m) => err_at (hl3.keep hx) hk
  rw [← hE] at hK hO3 hcell
  have HE := Lib.hid hE
  have HEL := Lib.hid (show E.length = m by rw [hE, List.length_map, HM.out])
  clear hE
  have hcc1 := hl3.cap
  have hcs1 := hl3.small
  have HK := Lib.hid hK
  have hKm : K.length ≤ 30 := by
    have h1 := keys_count hK
    have h2 := nB_le E E.length
    rw [HEL.out] at h1 h2
    omega
  have HO3 := Lib.hid hO3
  have HCELL := Lib.hid hcell
  clear hK hO3 hcell
  go_wp2_with fail
  go_loopg [11, 12, 13, 14, 15, 16, 17, 18, 19, 20] m (fun gk s11 s12 s13 s14 s15 s16 s17 s18 s19 s20 wr => ∃ i : Nat, s13 = .int .i64 i ∧ i ≤ m ∧ gk = m - i ∧ s11 = .int .i64 (nB E i : Nat) ∧ s12 = .int .i64 (cB kl E kind e i : Nat) ∧ Below w3.heap.size w3 wr)
  case atStart => exact ⟨0, by go_num, Nat.zero_le _, rfl, rfl, rfl, Below.refl _ _⟩
  case round =>
    obtain ⟨i, rfl, hi, rfl, rfl, rfl, hW⟩ := hrel
    by_cases him : i < m
    · have hii : (i : Int) < (m : Int) := by omega
      go_upto_if 37 with (fail)
      go_cut [14] (fun q wx => wr = wx ∧ q = .int .i64 (kl.getD i 0))
      case first =>
        by_cases hik : i < kn
        · have hij : (i : Int) < (kn : Int) := by omega
          obtain ⟨ak, rfl, _, d0, _⟩ := listK_at (hkl3.keep hW) hik
          go_wp2_with fail
          go_meet
          exact ⟨rfl, rfl⟩
        · have hij : ¬ (i : Int) < (kn : Int) := by omega
          have HK0 := Lib.hid (show (0 : Int) = kl.getD i 0 by rw [List.getD_eq_getElem?_getD, List.getElem?_eq_none (by rw [HKL.out]; omega)]; rfl)
          generalize kl.getD i 0 = k0 at *
          go_wp2_with fail
          go_meet
          exact ⟨rfl, by rw [← HK0.out]⟩
      case rest =>
      obtain ⟨rfl, rfl⟩ := hcut
      have hMi := hcap3
      obtain ⟨x, hx⟩ : ∃ x, x = E.getD i 0 := ⟨_, rfl⟩
      obtain ⟨ai, rfl, d0⟩ := HCELL.out _ hW i him
      rw [← hx] at d0
      have HX := Lib.hid hx
      clear hx
      have hcb := cB_le kl E kind e i
      have HCB := Lib.hid (show cB kl E kind e (i + 1) = cB kl E kind e i + if kl.getD i 0 = kind ∧ x = e then 1 else 0 by rw [HX.out]; rfl)
      generalize kl.getD i 0 = k0 at *
      generalize cB kl E kind e i = cc at *
      go_upto_region 11 with (fail)
      go_cut [53] (fun q wx => wr = wx ∧ q = .bool (decide (k0 = kind ∧ x = e)))
      case first =>
        by_cases q1 : k0 = kind
        · have e1 : (k0 == kind) = true := by simp [q1]
          by_cases q2 : x = e
          · have e2 : (x == e) = true := by simp [q2]
            have HD := Lib.hid (show decide (k0 = kind ∧ x = e) = true from decide_eq_true ⟨q1, q2⟩)
            generalize decide (k0 = kind ∧ x = e) = D at *
            clear q1 q2
            go_wp2_with fail
            go_meet
            exact ⟨rfl, by rw [HD.out]⟩
          · have e2 : (x == e) = false := by simp [q2]
            have HD := Lib.hid (show decide (k0 = kind ∧ x = e) = false from decide_eq_false (fun h => q2 h.2))
            generalize decide (k0 = kind ∧ x = e) = D at *
            clear q1 q2
            go_wp2_with fail
            go_meet
            exact ⟨rfl, by rw [HD.out]⟩
        · have e1 : (k0 == kind) = false := by simp [q1]
          have HD := Lib.hid (show decide (k0 = kind ∧ x = e) = false from decide_eq_false (fun h => q1 h.1))
          generalize decide (k0 = kind ∧ x = e) = D at *
          clear q1
          go_wp2_with fail
          go_meet
          exact ⟨rfl, by rw [HD.out]⟩
      case rest =>
      obtain ⟨rfl, rfl⟩ := hcut
      have HCB2 := Lib.hid (show cB kl E kind e (i + 1) = cc + if decide (k0 = kind ∧ x = e) = true then 1 else 0 by rw [HCB.out]; simp only [decide_eq_true_eq])
      clear HCB
      generalize decide (k0 = kind ∧ x = e) = D at *
      go_upto_if 53 with (fail)
      go_cut [12] (fun q wx => wr = wx ∧ q = .int .i64 (cB kl E kind e (i + 1) : Nat))
      case first =>
        cases D with
        | true =>
          have HE2 := Lib.hid (show cB kl E kind e (i + 1) = cc + 1 from HCB2.out)
          generalize cB kl E kind e (i + 1) = cc2 at *
          go_wp2_with fail
          go_meet
          exact ⟨rfl, by rw [HE2.out]; go_num⟩
        | false =>
          have HE2 := Lib.hid (show cB kl E kind e (i + 1) = cc from HCB2.out)
          generalize cB kl E kind e (i + 1) = cc2 at *
          go_wp2_with fail
          go_meet
          exact ⟨rfl, by rw [HE2.out]⟩
      case rest =>
      obtain ⟨rfl, rfl⟩ := hcut
      clear HCB2 hcb
      obtain ⟨cc2, hcc2⟩ : ∃ q, q = cB kl E kind e (i + 1) := ⟨_, rfl⟩
      rw [← hcc2]
      have HCC2 := Lib.hid hcc2
      clear hcc2
      clear d0
      go_wp2_with fail
      obtain ⟨wo, rfl⟩ : ∃ wo, wo = wr := ⟨_, rfl⟩
      go_loopg [15, 16, 17, 18, 19, 20] m (fun gk s15 s16 s17 s18 s19 s20 wr => ∃ k : Nat, s18 = .int .i64 k ∧ k ≤ m ∧ gk = m - k ∧ s15 = .bool (fstB E x i k) ∧ s16 = .int .i64 (manyB E x k : Nat) ∧ s17 = .int .i64 (atB E x k : Nat) ∧ Below w3.heap.size w3 wr)
      case atStart => exact ⟨0, by go_num, Nat.zero_le _, rfl, rfl, rfl, rfl, hW⟩
      case round =>
        clear hW
        obtain ⟨k, rfl, hkm1, rfl, rfl, rfl, rfl, hb⟩ := hrel
        by_cases hkm : k < m
        · have hkk : (k : Int) < (m : Int) := by omega
          obtain ⟨ak, ek, dk⟩ := HCELL.out _ hb k hkm
          obtain rfl : ai = ak := by injection ek
          obtain ⟨al, el, di⟩ := HCELL.out _ hb i him
          obtain rfl : ai = al := by injection el
          rw [← HX.out] at di
          obtain ⟨y, hy⟩ : ∃ y, y = E.getD k 0 := ⟨_, rfl⟩
          rw [← hy] at dk
          have HF1 := Lib.hid (show fstB E x i (k + 1) = if y = x then fstB E x i k && decide (i ≤ k) else fstB E x i k by rw [hy]; rfl)
          have HM1 := Lib.hid (show manyB E x (k + 1) = manyB E x k + if y = x then 1 else 0 by rw [hy]; rfl)
          have HA1 := Lib.hid (show atB E x (k + 1) = atB E x k + if frB E y k = true ∧ y < x then 1 else 0 by rw [hy]; rfl)
          have hml := manyB_le E x k
          have hal := atB_le E x k
          have HY := Lib.hid hy
          clear hy ek el
          have U0 := cell_under dk
          have U1 := cell_under di
          generalize manyB E x k = mk at *
          generalize fstB E x i k = fk at *
          generalize atB E x k = ak at *
          go_upto_region 18 with (fail)
          refine wp_region_quiet_under (by kernel_rfl) (by kernel_rfl) ?_
          repeat (go_big_quiet_step ((fail)))
          refine wpQuiet_nil ?_
          intro wu hw'
          obtain ⟨pq, hw''⟩ := hw'
          have hU := below_eq hw''
          clear hw'' pq
          have hb2 := below_step hb hU
          clear U0 U1 dk di hU hb
          go_upto_if 72 with (fail)
          go_cut [15, 16] (fun p q wx => wu = wx ∧ p = .bool (fstB E x i (k + 1)) ∧ q = .int .i64 (manyB E x (k + 1) : Nat))
          case first =>
            by_cases hyx : y = x
            · have e1 : (y == x) = true := by simp [hyx]
              have h1 := HF1.out
              have h2 := HM1.out
              rw [if_pos hyx] at h1 h2
              have HH2 := Lib.hid h2
              by_cases hik : i ≤ k
              · have e2 : decide ((i : Int) ≤ (k : Int)) = true := decide_eq_true (by omega)
                rw [decide_eq_true hik, Bool.and_true] at h1
                have HH1 := Lib.hid h1
                clear hyx h1 h2 HF1 HM1
                cases fk <;> (go_wp2_with fail; go_meet; exact ⟨rfl, by rw [HH1.out], by rw [HH2.out]; go_num⟩)
              · have e2 : decide ((i : Int) ≤ (k : Int)) = false := decide_eq_false (by omega)
                rw [decide_eq_false hik, Bool.and_false] at h1
                have HH1 := Lib.hid h1
                clear hyx h1 h2 HF1 HM1
                cases fk <;> (go_wp2_with fail; go_meet; exact ⟨rfl, by rw [HH1.out], by rw [HH2.out]; go_num⟩)
            · have e1 : (y == x) = false := by simp [hyx]
              have h1 := HF1.out
              have h2 := HM1.out
              rw [if_neg hyx] at h1 h2
              have HH1 := Lib.hid h1
              have HH2 := Lib.hid h2
              clear hyx h1 h2 HF1 HM1
              go_wp2_with fail
              go_meet
              exact ⟨rfl, by rw [HH1.out], by rw [HH2.out]; rfl⟩
          case rest =>
          obtain ⟨rfl, rfl, rfl⟩ := hcut
          clear HF1 HM1 hml mk fk
          go_wp2_with fail
          obtain ⟨wp, rfl⟩ : ∃ wp, wp = wu := ⟨_, rfl⟩
          go_loopg [19, 20] k (fun gk s19 s20 wr => ∃ j : Nat, s20 = .int .i64 j ∧ j ≤ k ∧ gk = k - j ∧ s19 = .bool (frB E y j) ∧ Below w3.heap.size w3 wr)
          case atStart => exact ⟨0, by go_num, Nat.zero_le _, rfl, rfl, hb2⟩
          case round =>
            clear hb2
            obtain ⟨j, rfl, hj, rfl, rfl, hb3⟩ := hrel
            by_cases hjk : j < k
            · have hjj : (j : Int) < (k : Int) := by omega
              have hjm : (j : Int) < (m : Int) := by omega
              obtain ⟨aj, ej, dj⟩ := HCELL.out _ hb3 j (by omega)
              obtain rfl : ai = aj := by injection ej
              obtain ⟨al, el, dk⟩ := HCELL.out _ hb3 k hkm
              obtain rfl : ai = al := by injection el
              rw [← HY.out] at dk
              have HF3 := Lib.hid (show frB E y (j + 1) = (frB E y j && (E.getD j 0 != y)) from rfl)
              generalize E.getD j 0 = z at *
              have U0 := cell_under dk
              have U1 := cell_under dj
              clear ej el dj dk
              go_upto_region 25 with (fail)
              cases hfj : frB E y j with
              | true =>
                rw [hfj, Bool.true_and] at HF3
                refine wp_region_quiet_under (by kernel_rfl) (by kernel_rfl) ?_
                repeat (go_big_quiet_step ((fail)))
                refine wpQuiet_nil ?_
                intro wu hw'
                obtain ⟨pq, hw''⟩ := hw'
                have hU := below_eq hw''
                clear hw'' pq
                have hb4 := below_step hb3 hU
                clear U0 U1 hU hb3 hfj
                go_wp2
                go_roundg (k - (j + 1))
                case measure => omega
                case rel => exact ⟨j + 1, by go_num, by omega, rfl, by rw [HF3.out], hb4⟩
              | false =>
                rw [hfj, Bool.false_and] at HF3
                refine wp_region_quiet_under (by kernel_rfl) (by kernel_rfl) ?_
                repeat (go_big_quiet_step ((fail)))
                refine wpQuiet_nil ?_
                intro wu hw'
                obtain ⟨pq, hw''⟩ := hw'
                have hU := below_eq hw''
                clear hw'' pq
                have hb4 := below_step hb3 hU
                clear U0 U1 hU hb3 hfj
                go_wp2
                go_roundg (k - (j + 1))
                case measure => omega
                case rel => exact ⟨j + 1, by go_num, by omega, rfl, by rw [HF3.out], hb4⟩
            · obtain rfl : j = k := by omega
              have hge : ¬ (j : Int) < (j : Int) := by omega
              obtain ⟨aj, ej, dj⟩ := HCELL.out _ hb3 j hkm
              obtain rfl : ai = aj := by injection ej
              obtain ⟨al, el, di⟩ := HCELL.out _ hb3 i him
              obtain rfl : ai = al := by injection el
              rw [← HY.out] at dj
              rw [← HX.out] at di
              have U0 := cell_under dj
              have U1 := cell_under di
              clear ej el dj di
              go_upto_region 26 with (fail)
              cases hfj : frB E y j with
              | true =>
                by_cases hyx : y < x
                · have e1 : decide (y < x) = true := decide_eq_true hyx
                  have HA2 := Lib.hid (show atB E x (j + 1) = ak + 1 by rw [HA1.out, if_pos ⟨hfj, hyx⟩])
                  clear HA1
                  refine wp_region_quiet_under (by kernel_rfl) (by kernel_rfl) ?_
                  repeat (go_big_quiet_step ((fail)))
                  refine wpQuiet_nil ?_
                  intro wu hw'
                  obtain ⟨pq, hw''⟩ := hw'
                  have hU := below_eq hw''
                  clear hw'' pq
                  have hb4 := below_step hb3 hU
                  clear U0 U1 hU hb3
                  go_wp2
                  go_roundg (m - (j + 1))
                  case measure => omega
                  case rel => exact ⟨j + 1, by go_num, by omega, rfl, rfl, rfl, by rw [HA2.out]; go_num, hb4⟩
                · have e1 : decide (y < x) = false := decide_eq_false hyx
                  have HA2 := Lib.hid (show atB E x (j + 1) = ak by rw [HA1.out, if_neg (fun h => hyx h.2), Nat.add_zero])
                  clear HA1
                  refine wp_region_quiet_under (by kernel_rfl) (by kernel_rfl) ?_
                  repeat (go_big_quiet_step ((fail)))
                  refine wpQuiet_nil ?_
                  intro wu hw'
                  obtain ⟨pq, hw''⟩ := hw'
                  have hU := below_eq hw''
                  clear hw'' pq
                  have hb4 := below_step hb3 hU
                  clear U0 U1 hU hb3
                  go_wp2
                  go_roundg (m - (j + 1))
                  case measure => omega
                  case rel => exact ⟨j + 1, by go_num, by omega, rfl, rfl, rfl, by rw [HA2.out], hb4⟩
              | false =>
                have HA2 := Lib.hid (show atB E x (j + 1) = ak by rw [HA1.out, if_neg (fun h => by rw [hfj] at h; cases h.1), Nat.add_zero])
                clear HA1
                refine wp_region_quiet_under (by kernel_rfl) (by kernel_rfl) ?_
                repeat (go_big_quiet_step ((fail)))
                refine wpQuiet_nil ?_
                intro wu hw'
                obtain ⟨pq, hw''⟩ := hw'
                have hU := below_eq hw''
                clear hw'' pq
                have hb4 := below_step hb3 hU
                clear U0 U1 hU hb3
                go_wp2
                go_roundg (m - (j + 1))
                case measure => omega
                case rel => exact ⟨j + 1, by go_num, by omega, rfl, rfl, rfl, by rw [HA2.out], hb4⟩
        · obtain rfl : k = m := by omega
          have hge : ¬ (k : Int) < (k : Int) := by omega
          have HFF := Lib.hid (show fstB E x i k = frB E x i by have h1 := fst_fr (E := E) (x := x) (i := i) (by rw [HEL.out]; omega); rw [HEL.out] at h1; exact h1)
          have HMM := Lib.hid (show manyB E x k = cntE E x by have h1 := manyB_eq E x (Nat.le_refl E.length); rw [HEL.out] at h1; rw [h1, ← HEL.out, List.take_length]; rfl)
          have HXE := Lib.hid (show x ∈ E by
            rw [HX.out, List.getD_eq_getElem?_getD, List.getElem?_eq_getElem (by rw [HEL.out]; exact him)]; exact List.getElem_mem _)
          have HNB := Lib.hid (show nB E (i + 1) = nB E i + if frB E x i = true then 1 else 0 by rw [HX.out]; rfl)
          have hnb := nB_le E i
          obtain ⟨ht0, ht1⟩ := keys_at HK.out HXE.out
          rw [HEL.out] at ht0 ht1
          rw [← HFF.out] at HNB
          clear HFF
          generalize fstB E x i k = f0 at *
          generalize nB E i = nn at *
          cases f0 with
          | false =>
            have HNB2 := Lib.hid (show nB E (i + 1) = nn from HNB.out)
            clear HNB
            go_wp2
            go_roundg (k - (i + 1))
            case measure => omega
            case rel => exact ⟨i + 1, by go_num, by omega, rfl, by rw [HNB2.out], by rw [HCC2.out], hb⟩
          | true =>
            have HNB2 := Lib.hid (show nB E (i + 1) = nn + 1 from HNB.out)
            clear HNB
            obtain ⟨al, el, di⟩ := HCELL.out _ hb i him
            obtain rfl : ai = al := by injection el
            rw [← HX.out] at di
            have hown := ownK_keep HO3.out hb
            obtain ⟨ag, rfl, g0, g1⟩ := readsPr hown ht0
            have hgd : (K.map (prOf E)).getD (atB E x k) prShape.z = prOf E x := by
              rw [List.getD_eq_getElem?_getD, List.getElem?_map, List.getElem?_eq_getElem ht0]
              rw [List.getD_eq_getElem?_getD, List.getElem?_eq_getElem ht0] at ht1
              simp only [Option.getD_some] at ht1
              rw [Option.map_some, Option.getD_some, ht1]
            rw [hgd] at g0 g1
            have hati : ((atB E x k : Nat) : Int) < (K.length : Int) := by omega
            have e1 : decide ((K.length : Int) ≤ ((atB E x k : Nat) : Int)) = false := decide_eq_false (by omega)
            have e1n : decide (K.length ≤ atB E x k) = false := decide_eq_false (by omega)
            have e1m : (K.length ≤ atB E x k) = False := eq_false (by omega)
            have HSV := Lib.hid (show (!samePr (prOf E x) ⟨x, (manyB E x k : Nat)⟩) = false by rw [HMM.out]; exact congrArg (!·) (samePr_self _))
            clear hgd ht1 hown el
            generalize prOf E x = G at *
            generalize manyB E x k = mk at *
            generalize atB E x k = tk at *
            obtain ⟨ga, gb⟩ := G
            dsimp only at g0 g1
            have U0 := cell_under di
            have U1 := cell_under g0
            have U2 := cell_under g1
            clear di g0 g1
            go_upto_region 30 with (fail)
            refine wp_region_quiet_under (by kernel_rfl) (by kernel_rfl) ?_
            repeat (go_big_quiet_step (fail))
            go_big_quiet_want
            refine quiet_neq_pr (a := ⟨ga, gb⟩) (b := ⟨x, (mk : Int)⟩) HSV.out rfl rfl rfl ?_
            simp only [Act.put, List.setIfInBounds_toArray, List.set_cons_zero, List.set_cons_succ]
            go_big_quiet_on
            repeat (go_big_quiet_step (fail))
            refine wpQuiet_nil ?_
            intro wv hw'
            obtain ⟨pq, hw''⟩ := hw'
            have hU := below_eq hw''
            have hb4 := below_step hb hU
            clear hw'' pq U0 U1 U2 hU hb
            go_wp2
            go_roundg (k - (i + 1))
            case measure => omega
            case rel => exact ⟨i + 1, by go_num, by omega, rfl, by rw [HNB2.out]; go_num, by rw [HCC2.out], hb4⟩
    · obtain rfl : i = m := by omega
      have hge : ¬ (i : Int) < (i : Int) := by omega
      have HN := Lib.hid (show nB E i = K.length by have h1 := keys_count HK.out; rw [HEL.out] at h1; exact h1)
      have CL := log_Len (HL3.out.keep hW)
      rw [rows_len, ← HM.out] at CL
      have CC := log_Count (.inr ⟨b, v2, rfl, HL3.out.keep hW⟩) kind e (by rw [rows_len, ← HM.out]; omega)
      have hcn : countR kind e (zipR (madeOps kl F.length) F) = cB kl E kind e i := by
        have h1 := cB_eq (kl := kl) (F := F) (kind := kind) (e := e) (Nat.le_refl F.length)
        rw [List.take_of_length_le (by rw [rows_len]; exact Nat.le_refl _), ← HE.out] at h1
        rw [← h1, ← HM.out]
      rw [hcn] at CC
      have g1 : ((nB E i : Nat) : Int) == (K.length : Int) := by rw [HN.out]; simp
      have g2 : ((i : Int) == (i : Int)) = true := by simp
      have hW5 := below_step hW3 hW
      clear hcn
      generalize cB kl E kind e i = cc at *
      have g3 : ((cc : Int) == (cc : Int)) = true := by simp
      generalize nB E i = nn at *
      clear hW hl3 hkl3
      go_wp2_with fail
      refine CL.mono ?_; rintro r w6 ⟨rfl, rfl⟩
      clear CL
      go_wp2_with fail
      refine CC.mono ?_; rintro r w6 ⟨rfl, hx6⟩
      have hW6 := below_step hW5 hx6
      clear CC hW5 hx6
      go_wp2_with fail
      refine (law41_awake _).mono ?_; rintro r w7 ⟨rfl, hx7⟩
      go_wp2
      go_ret
      exact ⟨rfl, below_step hW6 hx7⟩
end Go.Proofs.Ytcpfekhpbjkgeaa
end
