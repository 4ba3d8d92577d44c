/- Lemmas for the claim's proof: Pairs WheelF WheelG WheelH. -/
import Derived.Deep.Slices
import Derived.Deep.Fields
import Derived.ChangeSame
import Derived.Deep.MidRow
import Derived.Laws.StructEq
import Derived.Test.YtcpfekhpbjkgeaaQ02
import Derived.Test.YtcpfekhpbjkgeaaQ09
section
/- A slice of structs of two integers, as an argument. (open_slice_fields: after the kit's page on structs.) -/
set_option linter.unusedVariables false
namespace Go.Proofs.Ytcpfekhpbjkgeaa
open Go.ChangeShapes Go.WideShapes Go.ChangeAt Go.RowKit Go.Deep
section
variable {H : Type} {enc : TypeId × Value → H} {P : Program} {w : World} {base : Nat} {spare : Nat → Bool} {held : Bool}
theorem open_slice_fields {t e : TypeId} {fs : Array Field} {fuel : Nat} {cs : List Value} {x : DataW H × List MemPlace} (ht : P.underlying t = some (.slice e)) (he : P.underlying e = some (.struct fs))
    (hone : oneCellFields P fs = true) (hC : P.cellsOf e = fs.size) (h : DataW.trod enc P w base spare held fuel t cs = some x) :
    (cs = [.slice none 0 0] ∧ x = (.nil, [])) ∨
    ∃ (a : Addr) (len cap m : Nat) (D : Nat → DataW H) (Pl : Nat → List MemPlace), cs = [.slice (some a) len cap] ∧ base ≤ a.block ∧ len ≤ cap ∧ cap ≤ maxLen ∧ m = (if spare a.block then cap else len) ∧
      x = (.slice ((List.range len).map D) ((List.range (m - len)).map fun j => D (len + j)), MemPlace.row a (m * fs.size) ++ (List.range m).flatMap Pl) ∧
      ∀ i, i < m → ∃ (ys : List (DataW H × List MemPlace)) (n : Nat), D i = .agg (ys.map (·.1)) ∧ Pl i = ys.flatMap (·.2) ∧ ys.length = fs.size ∧
        ∀ (j : Nat) (f : Field), fs[j]? = some f → ∃ (v : Value) (y : DataW H × List MemPlace), w.cell? (a.add (i * fs.size + j)) = some v ∧ ys[j]? = some y ∧ DataW.trod enc P w base spare held n f.type [v] = some y := by
  rcases open_slice ht h with h0 | ⟨a, len, cap, m, n, D, Pl, hcs, hb, hl, hm, hmm, hx, hi⟩
  · exact .inl h0
  · refine .inr ⟨a, len, cap, m, D, Pl, hcs, hb, hl, hm, hmm, by rw [hC] at hx; exact hx, fun i him => ?_⟩
    obtain ⟨cs', hc, ht'⟩ := hi i him
    rw [hC] at hc
    obtain ⟨ys, n', hn', hy, hlen, hyl, hf⟩ := DataW.trod_struct he ht'
    obtain ⟨_, hcl, hat⟩ := World.cells?_some hc
    simp only [Prod.mk.injEq] at hy
    refine ⟨ys, n', hy.1, hy.2, hyl, fun j f hj => ?_⟩
    obtain ⟨ho, hk⟩ := hone_of hone j f hj
    have hjl : j < fs.size := (Array.getElem?_eq_some_iff.1 hj).1
    have hcell := hat j hjl
    have hv : cs'[j]? = some (cs'[j]'(by omega)) := List.getElem?_eq_getElem (by omega)
    have h1 := hf j f hj
    rw [ho, hk] at h1
    have hone' : (cs'.drop j).take 1 = [cs'[j]'(by omega)] := by
      rw [List.drop_eq_getElem_cons (by omega)]
      rfl
    rw [hone'] at h1
    have hys : ys[j]? = some (ys[j]'(by omega)) := List.getElem?_eq_getElem (by omega)
    refine ⟨_, _, ?_, hys, h1.trans hys⟩
    rw [← Go.Deep.add_add, hcell, hv]
end
/-- A slice of structs of two integers (kinds k0, k1): the list of pairs. -/
structure IsPairs (w : World) (k0 k1 : IntKind) (A : Option Addr) (n c : Nat) (l : List (Int × Int)) : Prop where
  len : l.length = n
  cap : n ≤ c
  small : c ≤ 9223372036854775807
  reach : n ≤ 8796093021952
  wf : ∀ p ∈ l, (Lit.int k0 p.1).wf = true ∧ (Lit.int k1 p.2).wf = true
  cells : 0 < n → ∃ ad, A = some ad ∧ ad.block < w.heap.size ∧ ∀ (i : Nat) (p : Int × Int), l[i]? = some p → w.cell? (ad.add (i * 2)) = some (.int k0 p.1) ∧ w.cell? (ad.add (i * 2 + 1)) = some (.int k1 p.2)
theorem isPairs_nil (w : World) (k0 k1 : IntKind) : IsPairs w k0 k1 none 0 0 [] where
  len := rfl
  cap := Nat.le_refl _
  small := Nat.zero_le _
  reach := by simp
  wf := fun z hz => by cases hz
  cells := fun h => absurd h (by simp)
set_option maxRecDepth 100000 in
theorem open_pairs {H : Type} {enc : TypeId × Value → H} {W : World} {base : Nat} {r : Reach} {b0 : Nat} {t e : TypeId} {f0 f1 : Field} {k0 k1 : IntKind} {v : Value} {d : DataW H} {p : List MemPlace}
    (ht : Try.prog.underlying t = some (.slice e)) (he : Try.prog.underlying e = some (.struct #[f0, f1])) (hone : oneCellFields Try.prog #[f0, f1] = true) (hc : Try.prog.cellsOf e = 2) (hby : Try.prog.bytesOf e = 16)
    (e0 : Try.prog.underlying f0.type = some (.int k0)) (e1 : Try.prog.underlying f1.type = some (.int k1))
    (hv : Value.okWide Try.prog W r b0 t v) (h : DataW.Trod enc Try.prog W base (fun _ => true) true t v d p) (hlt : ∀ x ∈ p, x.block < W.heap.size)
    (hs : ∀ (e : TypeId) (elems spare : List (DataW H)), d = .slice elems spare → Try.prog.underlying t = some (.slice e) → (elems.length + spare.length) * Try.prog.bytesOf e ≤ reachBytes) :
    ∃ (A : Option Addr) (n c : Nat) (l : List (Int × Int)), v = .slice A n c ∧ IsPairs W k0 k1 A n c l := by
  obtain ⟨a0, len, cap, rfl⟩ := okWide_slice ht hv
  obtain ⟨fuel, hf⟩ := h
  rcases open_slice_fields ht he hone hc hf with ⟨hcs, hx⟩ | ⟨a, len', cap', m, D, Pl, hcs, _, hl, hm, hmm, hx, hel⟩
  · simp [Value.cells] at hcs
    obtain ⟨rfl, rfl, rfl⟩ := hcs
    exact ⟨none, 0, 0, [], rfl, isPairs_nil W k0 k1⟩
  · simp [Value.cells] at hcs
    obtain ⟨rfl, rfl, rfl⟩ := hcs
    simp only [if_true] at hmm
    subst hmm
    simp only [Prod.mk.injEq] at hx
    obtain ⟨rfl, rfl⟩ := hx
    have hat : ∀ i, i < len → ∃ q : Int × Int, W.cell? (a.add (i * 2)) = some (.int k0 q.1) ∧ W.cell? (a.add (i * 2 + 1)) = some (.int k1 q.2) ∧ (Lit.int k0 q.1).wf = true ∧ (Lit.int k1 q.2).wf = true := by
      intro i hi
      obtain ⟨ys, n', _, _, _, hfld⟩ := hel i (by omega)
      obtain ⟨v0, y0, c0, _, t0⟩ := hfld 0 f0 rfl
      obtain ⟨v1, y1, c1, _, t1⟩ := hfld 1 f1 rfl
      obtain ⟨z0, hz0, _, w0⟩ := DataW.trod_int e0 t0
      obtain ⟨z1, hz1, _, w1⟩ := DataW.trod_int e1 t1
      simp at hz0 hz1
      subst hz0 hz1
      exact ⟨(z0, z1), c0, c1, w0, w1⟩
    have hch : ∃ l : List (Int × Int), l.length = len ∧ ∀ i q, l[i]? = some q → W.cell? (a.add (i * 2)) = some (.int k0 q.1) ∧ W.cell? (a.add (i * 2 + 1)) = some (.int k1 q.2) ∧ (Lit.int k0 q.1).wf = true ∧ (Lit.int k1 q.2).wf = true := by
      refine ⟨(List.range len).map fun i => if hi : i < len then (hat i hi).choose else (0, 0), by simp, fun i q hq => ?_⟩
      rw [List.getElem?_map] at hq
      obtain ⟨j, hj, rfl⟩ := Option.map_eq_some_iff.1 hq
      have hlen : i < len := by
        rcases Nat.lt_or_ge i len with h1 | h1
        · exact h1
        · rw [List.getElem?_eq_none (by simpa using h1)] at hj; cases hj
      rw [List.getElem?_range hlen] at hj
      obtain rfl := Option.some.inj hj
      rw [dif_pos hlen]
      exact (hat i hlen).choose_spec
    obtain ⟨l, hll, hcl⟩ := hch
    refine ⟨some a, len, m, l, rfl, hll, hl, (by unfold maxLen at hm; omega), ?_, fun q hq => ?_, fun hn => ⟨a, rfl, ?_, fun i q hq => ⟨(hcl i q hq).1, (hcl i q hq).2.1⟩⟩⟩
    · have := hs e _ _ rfl ht
      rw [hby] at this
      simp only [List.length_map, List.length_range, reachBytes] at this
      omega
    · obtain ⟨i, hi⟩ := List.mem_iff_getElem?.1 hq
      exact (hcl i q hi).2.2
    · have := hlt (MemPlace.cell a.block a.off) (by
        refine List.mem_append_left _ ?_
        simp [MemPlace.row]
        omega)
      exact this
end Go.Proofs.Ytcpfekhpbjkgeaa
end
section
/- wheel.All, wheel.Next. -/
set_option linter.unusedVariables false
namespace Go.Proofs.Ytcpfekhpbjkgeaa
open Go.RowKit
set_option maxHeartbeats 8000000
set_option maxRecDepth 100000
def slotRow (V : Nat → Value) : List Value := (List.range 64).map V
theorem slotRow_len (V : Nat → Value) : (slotRow V).length = 64 := by simp [slotRow]
theorem slotRow_at (V : Nat → Value) {k : Nat} (hk : k < 64) : (slotRow V)[k]? = some (V k) := by simp [slotRow, hk]
theorem IsWheel.range {w : World} {B b : Nat} {V : Nat → Value} {S : Nat → List It} {now n : Int} (h : IsWheel w B b V S now n) : w.rangeAt b 0 (slotRow V) := by
  intro j v hj
  have hj64 : j < 64 := by
    rcases Nat.lt_or_ge j 64 with h1 | h1
    · exact h1
    · rw [List.getElem?_eq_none (by rw [slotRow_len]; exact h1)] at hj; cases hj
  rw [slotRow_at V hj64] at hj
  rw [Nat.zero_add, h.cSlot hj64]
  exact hj
theorem idx_slot (V : Nat → Value) {k : Nat} (hk : k < 64) (w : World) : (Instr.index 25 (.agg (slotRow V).toArray) (.int .i64 (k : Int))).run Try.prog w = .ok (V k) w := by
  have h : (0 : Int) ≤ (k : Int) ∧ (k : Int) < ((64 : Nat) : Int) := by omega
  have hc := slotRow_at V hk
  simp [Instr.index, run_underlying Try.underlying25, asIntOf, h, go_sem]
  rw [if_pos hk, hc]
  rfl
theorem own_reads {w : World} {B : Nat} {T : TypeId} {A : Option Addr} {n c : Nat} {xs : List Value} (h : w.ownsRow B T 2 (.slice A n c) n xs) : Reads w w.heap.size 2 A n xs := by
  refine ⟨h.1, fun hn => ?_⟩
  rcases h.2 with ⟨e, _⟩ | ⟨g, cap, a, e, _, hg, _⟩
  · cases e; omega
  · cases e
    exact ⟨_, rfl, (Array.getElem?_eq_some_iff.1 hg).1, h.cells (g := g) rfl⟩
theorem flat_one_it (l : List It) : ∀ u ∈ itShape.flat l, u.oneCell' = true := fun u hu => by
  obtain ⟨x, _, hx⟩ := List.mem_flatMap.1 hu
  exact itShape.one x u hx
theorem allOf_mono (S : Nat → List It) {m n : Nat} (h : m ≤ n) : (allOf S m).length ≤ (allOf S n).length := by
  induction n with
  | zero => rw [show m = 0 by omega]; exact Nat.le_refl _
  | succ n ih =>
    by_cases e : m = n + 1
    · rw [e]; exact Nat.le_refl _
    · rw [allOf_succ, List.length_append]; have := ih (by omega); omega
theorem below_grown {B : Nat} {w w1 w2 : World} {row : Option Nat} (h : Below B w w1) (hB : B ≤ w1.heap.size) (hg : w1.grownBy w2 row) (hr : ∀ g, row = some g → B ≤ g) : Below B w w2 :=
  h.trans ⟨hg.os, hg.tape, hg.output, hg.size, fun i hi => hg.block i (by omega) (fun e => by have := hr i e.symm; omega)⟩
theorem wheel_All {w : World} {B b : Nat} {V : Nat → Value} {l : List It} {now : Int} (h : WheelIs w B b V l now) (hl : l.length < 4096) :
    Calls Try.prog 17 #[.pointer (some ⟨b, 0, none⟩)] w fun e w' => (∃ v, e = .returned v ∧ w'.ownsRow w.heap.size 31 2 v l.length (itShape.flat l)) ∧ Below w.heap.size w w' := by
  obtain ⟨iI, hiI, hzI, hzI1, hzI2⟩ := info_parts Try.infoItem
  obtain ⟨S, hS, hOK, hPe⟩ := h.ex
  have HW := Lib.hid (And.intro h.ord hPe)
  have HLEN := Lib.hid hPe.length_eq
  have hR := hS.range
  clear h hOK hPe
  go_enter Try.func17, Try.ntmps17
  go_wp2_with (refine wpList_load_mid rfl _ _ rfl b 0 rfl (slotRow V) _ hR Try.underlying25 rfl (by rw [slotRow_len]; kernel_rfl) ?_)
  clear hR
  go_loopg [3, 5, 12] 64 (fun gk s3 s5 s12 wr => ∃ (i : Nat) (out : List It), s12 = .int .i64 i ∧ i ≤ 64 ∧ gk = 64 - i ∧ Hid (out = allOf S i) ∧ wr.ownsRow w.heap.size 31 2 s3 out.length (itShape.flat out) ∧ Below w.heap.size w wr)
  case atStart => exact ⟨0, [], rfl, Nat.zero_le _, rfl, Lib.hid rfl, World.ownsRow_nil w _ _ 2, Below.refl _ _⟩
  case round =>
    obtain ⟨i, out, rfl, hi, rfl, HO, hO, hW⟩ := hrel
    obtain ⟨Ao, co, rfl⟩ := own_sl hO
    by_cases hi64 : i < 64
    · have hii : (i : Int) < 64 := by omega
      have hat := fun w => idx_slot V hi64 w
      have hI := hS.keep hW
      have hro := hI.row i hi64
      obtain ⟨A, cA, eA⟩ := own_sl hro
      rw [eA] at hro
      simp only [eA] at hat
      clear eA
      have hsm : out.length + (S i).length < 4096 := by
        have e1 : (allOf S (i + 1)).length ≤ (allOf S 64).length := allOf_mono S (by omega)
        rw [allOf_succ, List.length_append, ← HO.out] at e1; have := HLEN.out; omega
      have HN := Lib.hid (show out ++ S i = allOf S (i + 1) by rw [allOf_succ, HO.out])
      obtain ⟨L, hL⟩ : ∃ L, L = S i := ⟨_, rfl⟩
      rw [← hL] at hro hsm HN
      simp only [← hL] at hat
      clear hL
      have hrd := own_reads hro
      have hws : w.heap.size ≤ wr.heap.size := hW.size
      clear hI HO
      go_wp2_with (at_builtin; go_loud (refine wpList_append_any _ rfl (.tmp 15) (.tmp 16) _ rfl w.heap.size 31 iI _ 2 16 Try.underlying22 hiI hzI hzI1 hzI2 rfl (by decide) _ out.length (itShape.flat out) rfl hO _ A L.length cA (itShape.flat L) rfl hrd (flat_one_it L) (by simp only [maxLen]; omega) (by omega) hws ?_; intro v6 w6 hown6 hg6 hat6))
      have hW6 := below_grown hW hws hg6 (fun g hg => (hO.lt g hg).1)
      have hown7 : w6.ownsRow w.heap.size 31 2 v6 (out ++ L).length (itShape.flat (out ++ L)) := by
        rw [List.length_append, show itShape.flat (out ++ L) = itShape.flat out ++ itShape.flat L by unfold Shape.flat; rw [List.flatMap_append]]; exact hown6
      clear hown6 hg6 hat6 hO hW hro hrd hat
      go_wp2
      go_roundg (64 - (i + 1))
      case measure => omega
      case rel => exact ⟨i + 1, out ++ L, by go_num, by omega, rfl, HN, hown7, hW6⟩
    · obtain rfl : i = 64 := by omega
      have hSS := sortStable_own out hO (by rw [HO.out]; have := HLEN.out; omega)
      have HB := Lib.hid (fun g hg => (hO.lt g hg).1)
      have HOL := Lib.hid (show out.length = l.length by rw [HO.out]; exact HLEN.out.symm)
      go_wp2_with fail
      refine hSS.mono ?_; rintro e w3 ⟨rfl, o, hoO, hoP, hoR, hoG⟩
      have HE := Lib.hid (show o = l from ordered_unique hoO HW.out.1 (hoP.trans (by rw [HO.out]; exact HW.out.2.symm)))
      have hW3 := below_grown hW hW.size hoG HB.out
      have HR := Lib.hid (show w3.ownsRow w.heap.size 31 2 (.slice Ao out.length co) l.length (itShape.flat l) by rw [← HOL.out, ← HE.out]; exact hoR)
      clear hSS hoO hoP hoR hoG hW hO
      go_wp2
      go_ret
      exact ⟨⟨_, rfl, HR.out⟩, hW3⟩
theorem wheel_Next {w : World} {B b : Nat} {V : Nat → Value} {l : List It} {now : Int} (h : WheelIs w B b V l now) (hl : l.length < 4096) :
    Calls Try.prog 23 #[.pointer (some ⟨b, 0, none⟩)] w fun e w' => e = .returned (.int .i64 (nextT l)) ∧ Below w.heap.size w w' := by
  obtain ⟨S, hS, hOK, hPe⟩ := h.ex
  have hn0 := h.n0
  have HW := Lib.hid (show (allOf S 64).foldl best1 (-1) = nextT l from best_next h.ord hPe (fun x hx => by
    obtain ⟨k, hk, hx⟩ := mem_allOf.1 hx
    have := (hOK k hk x hx).2.1; omega))
  generalize nextT l = NT at *
  have hR := hS.range
  clear h hOK hPe
  go_enter Try.func23, Try.ntmps23
  go_wp2_with (refine wpList_load_mid rfl _ _ rfl b 0 rfl (slotRow V) _ hR Try.underlying25 rfl (by rw [slotRow_len]; kernel_rfl) ?_)
  clear hR
  go_loopg [3, 5, 7, 15, 18, 19, 20] 64 (fun gk s3 s5 s7 s15 s18 s19 s20 wr => ∃ (i : Nat) (bs : Int), s15 = .int .i64 i ∧ i ≤ 64 ∧ gk = 64 - i ∧ s3 = .int .i64 bs ∧ Hid (bs = (allOf S i).foldl best1 (-1)) ∧ Below w.heap.size w wr)
  case atStart => exact ⟨0, -1, rfl, Nat.zero_le _, rfl, rfl, Lib.hid rfl, Below.refl _ _⟩
  case round =>
    obtain ⟨i, bs, rfl, hi, rfl, rfl, HB, hW⟩ := hrel
    by_cases hi64 : i < 64
    · have hii : (i : Int) < 64 := by omega
      have hat := fun w => idx_slot V hi64 w
      have hro := (hS.keep hW).row i hi64
      obtain ⟨A, cA, eA⟩ := own_sl hro
      rw [eA] at hro
      simp only [eA] at hat
      clear eA
      obtain ⟨hcA, hcA2⟩ := own_cap hro
      have HN := Lib.hid (show allOf S i ++ S i = allOf S (i + 1) from (allOf_succ S i).symm)
      obtain ⟨L, hL⟩ : ∃ L, L = S i := ⟨_, rfl⟩
      rw [← hL] at hro HN hcA
      simp only [← hL] at hat
      clear hL
      obtain ⟨n, hn⟩ : ∃ n, n = L.length := ⟨_, rfl⟩
      rw [← hn] at hro hcA
      simp only [← hn] at hat
      have HL := Lib.hid hn
      clear hn
      go_wp2_with fail
      obtain ⟨wo, rfl⟩ : ∃ wo, wo = wr := ⟨_, rfl⟩
      obtain ⟨bo, hbo⟩ : ∃ q, q = bs := ⟨_, rfl⟩
      rw [← hbo] at HB
      have HBO := Lib.hid hbo
      clear hbo hat
      go_loopg [3, 7, 20] n (fun gk s3 s7 s20 wr => ∃ (j : Nat) (bs : Int), s20 = .int .i64 j ∧ j ≤ n ∧ gk = n - j ∧ s3 = .int .i64 bs ∧ Hid (bs = (allOf S i ++ L.take j).foldl best1 (-1)) ∧ Below wo.heap.size wo wr)
      case atStart => exact ⟨0, bs, by go_num, Nat.zero_le _, rfl, rfl, Lib.hid (by rw [← HBO.out, HB.out, List.take_zero, List.append_nil]), Below.refl _ _⟩
      case round =>
        clear HB HBO
        obtain ⟨j, bs, rfl, hj, rfl, rfl, HB, hW2⟩ := hrel
        by_cases hjn : j < n
        · have hjj : (j : Int) < (n : Int) := by omega
          have hr1 := ownR_keep hro hW2
          obtain ⟨g, rfl, hcl, d0, d1, hnc⟩ := own_at2 hr1 hjn
          have HT := Lib.hid (show (allOf S i ++ L.take (j + 1)).foldl best1 (-1) = best1 bs (L.getD j default) by
            rw [take_next (by rw [← HL.out]; exact hjn), ← List.append_assoc, List.foldl_append, ← HB.out]; rfl)
          obtain ⟨X, hX⟩ : ∃ X, X = L.getD j default := ⟨_, rfl⟩
          rw [← hX] at d0 d1 HT
          clear hX
          obtain ⟨Xt, Xi⟩ := X
          dsimp only at d0 d1
          have HB1 := Lib.hid (show best1 bs ⟨Xt, Xi⟩ = if bs < 0 ∨ Xt < bs then Xt else bs from rfl)
          go_upto_region 10 with (fail)
          have P := Blk.new wr 31 #[.int .i64 Xt, .int .i64 Xi]
          have hW3 := hW2.alloc (Below.size hW2) (.cells #[.int .i64 Xt, .int .i64 Xi] 31)
          clear d0 d1 hr1 hW2 HB
          obtain ⟨xb, hxb⟩ : ∃ q, q = wr.heap.size := ⟨_, rfl⟩
          rw [← hxb] at P ⊢
          clear hxb
          generalize wr.alloc (.cells #[.int .i64 Xt, .int .i64 Xi] 31) = u at *
          obtain ⟨p0, p1, _⟩ := P.cells2
          by_cases hb0 : bs < 0
          · have g1 : decide (bs < 0) = true := decide_eq_true hb0
            have HF := Lib.hid (show best1 bs ⟨Xt, Xi⟩ = Xt by rw [HB1.out, if_pos (Or.inl hb0)])
            go_wp2
            go_roundg (n - (j + 1))
            case measure => omega
            case rel => exact ⟨j + 1, Xt, by go_num, by omega, rfl, rfl, Lib.hid (by rw [HT.out, HF.out]), hW3⟩
          · have g1 : decide (bs < 0) = false := decide_eq_false hb0
            by_cases hb1 : Xt < bs
            · have g2 : decide (Xt < bs) = true := decide_eq_true hb1
              have HF := Lib.hid (show best1 bs ⟨Xt, Xi⟩ = Xt by rw [HB1.out, if_pos (Or.inr hb1)])
              go_wp2
              go_roundg (n - (j + 1))
              case measure => omega
              case rel => exact ⟨j + 1, Xt, by go_num, by omega, rfl, rfl, Lib.hid (by rw [HT.out, HF.out]), hW3⟩
            · have g2 : decide (Xt < bs) = false := decide_eq_false hb1
              have HF := Lib.hid (show best1 bs ⟨Xt, Xi⟩ = bs by rw [HB1.out, if_neg (by omega)])
              go_wp2
              go_roundg (n - (j + 1))
              case measure => omega
              case rel => exact ⟨j + 1, bs, by go_num, by omega, rfl, rfl, Lib.hid (by rw [HT.out, HF.out]), hW3⟩
        · obtain rfl : j = n := by omega
          have hge : ¬ (j : Int) < (j : Int) := by omega
          have HE := Lib.hid (show bs = (allOf S (i + 1)).foldl best1 (-1) by rw [HB.out, HL.out, List.take_length, HN.out])
          have hW4 := below_step hW hW2
          clear hro hW hW2 HB
          go_wp2
          go_roundg (64 - (i + 1))
          case measure => omega
          case rel => exact ⟨i + 1, bs, by go_num, by omega, rfl, rfl, HE, hW4⟩
    · obtain rfl : i = 64 := by omega
      have HE := Lib.hid (show bs = NT by rw [HB.out, HW.out])
      go_wp2
      go_ret
      exact ⟨by rw [← HE.out]; rfl, hW⟩
end Go.Proofs.Ytcpfekhpbjkgeaa
end
section
/- The law's same. -/
set_option linter.unusedVariables false
namespace Go.Proofs.Ytcpfekhpbjkgeaa
open Go.RowKit
set_option maxHeartbeats 8000000
set_option maxRecDepth 100000
def sameIt (x y : It) : Bool := x.t == y.t && x.id == y.id
theorem sameIt_self (x : It) : sameIt x x = true := by unfold sameIt; simp
theorem eq_it (x y : It) (w : World) : (Op.equalIn 10000 31 (.agg #[.int .i64 x.t, .int .i64 x.id]) (.agg #[.int .i64 y.t, .int .i64 y.id])).run Try.prog w = .ok (sameIt x y) w := by
  obtain ⟨x1, x2⟩ := x
  obtain ⟨y1, y2⟩ := y
  unfold sameIt
  dsimp only
  go_simp
  (repeat' split) <;> simp_all
theorem eqG_it (op : BinOp) (a b : Operand) (x y : It) (w : World) : (eqGuard op 31 a b (.agg #[.int .i64 x.t, .int .i64 x.id]) (.agg #[.int .i64 y.t, .int .i64 y.id])).run Try.prog w = .ok () w := by
  go_simp
theorem quiet_neq_it {A : Act} {o : Oper} {x y : Operand} {t : TypeId} {a b : It} {E : Bool} {C : World → Prop} {K : Act → Prop} (hE : (!sameIt a b) = E) (ho : o.op = .binOp .neq 31 x y t) (hx : A.eval x = .agg #[.int .i64 a.t, .int .i64 a.id]) (hy : A.eval y = .agg #[.int .i64 b.t, .int .i64 b.id])
    (h : K (A.put o.dst (.bool E))) : o.quiet Try.prog A C K :=
  ⟨.bool E, fun w _ => by
    unfold Oper.quietAt execOp
    simp only [ho, hx, hy, Sem.run_bind, eqG_it .neq x y a b w, run_neq_struct, eq_it a b w, Result.andThen_ok, Sem.run_pure, hE]
    exact ⟨rfl, rfl⟩, h⟩
/-- A slice whose items can be read. -/
def ReadsIt (w : World) (A : Option Addr) (n c : Nat) (l : List It) : Prop := Reads w w.heap.size 2 A n (itShape.flat l) ∧ l.length = n ∧ n ≤ c ∧ c ≤ 9223372036854775807
theorem ReadsIt.keep {w w' : World} {A : Option Addr} {n c : Nat} {l : List It} (h : ReadsIt w A n c l) (hx : Below w.heap.size w w') : ReadsIt w' A n c l := ⟨(h.1.below hx).more hx.size, h.2⟩
theorem own_it {w : World} {B : Nat} {T : TypeId} {A : Option Addr} {n c : Nat} {l : List It} (h : w.ownsRow B T 2 (.slice A n c) n (itShape.flat l)) : ReadsIt w A n c l := ⟨own_reads h, own_len h, own_cap h⟩
theorem ReadsIt.at_ {w : World} {A : Option Addr} {n c : Nat} {l : List It} (h : ReadsIt w A n c l) {k : Nat} (hk : k < n) :
    ∃ ad, A = some ad ∧ ad.block < w.heap.size ∧ w.cell? (ad.add (k * 2)) = some (.int .i64 (l.getD k default).t) ∧ w.cell? ⟨(ad.add (k * 2)).block, (ad.add (k * 2)).off + 1, none⟩ = some (.int .i64 (l.getD k default).id) := by
  obtain ⟨ad, e, hb, hc⟩ := h.1.2 (by omega)
  have e2 : l[k]? = some (l.getD k default) := by rw [List.getD_eq_getElem?_getD, List.getElem?_eq_getElem (by rw [h.2.1]; exact hk)]; rfl
  have hat : ∀ j u, j < 2 → (encIt (l.getD k default))[j]? = some u → w.cell? (ad.add (k * 2 + j)) = some u := fun j u hj hu => hc _ u (by
    rw [show k * 2 + j = k * itShape.size + j from rfl, itShape.flat_at _ _ _ hj, e2]; exact hu)
  refine ⟨ad, e, hb, hat 0 _ (by decide) rfl, ?_⟩
  rw [← add_far _ _ _ (by omega)]
  exact hat 1 _ (by decide) rfl
theorem law21_same {w : World} {A A' : Option Addr} {n c c' : Nat} {l : List It} (h1 : ReadsIt w A n c l) (h2 : ReadsIt w A' n c' l) :
    Calls Try.prog 16 #[.slice A n c, .slice A' n c'] w fun e w' => e = .returned (.bool true) ∧ Below w.heap.size w w' := by
  have k1 := h1.2.2
  have k2 := h2.2.2
  have g : ((n : Int) != (n : Int)) = false := by simp
  have HL := Lib.hid h1.2.1
  go_enter Try.func16, Try.ntmps16
  go_wp2_with fail
  go_loopg [5] n (fun gk s5 wr => ∃ i : Nat, i ≤ n ∧ gk = n - i ∧ s5 = .int .i64 i ∧ Below w.heap.size w wr)
  case atStart => exact ⟨0, Nat.zero_le _, rfl, rfl, Below.refl _ _⟩
  case round =>
    obtain ⟨i, hi, rfl, rfl, hW⟩ := hrel
    by_cases hin : i < n
    · have hii : (i : Int) < (n : Int) := by omega
      obtain ⟨ad, rfl, _, d0, d1⟩ := (h1.keep hW).at_ hin
      obtain ⟨ae, rfl, _, e0, e1⟩ := (h2.keep hW).at_ hin
      have U0 := cell_under d0
      have U1 := cell_under d1
      have HS0 := Lib.hid (sameIt_self (l.getD i default))
      obtain ⟨X, hX⟩ : ∃ X, X = l.getD i default := ⟨_, rfl⟩
      rw [← hX] at U0 U1
      have HSV := Lib.hid (show (!sameIt X (l.getD i default)) = false by rw [hX, HS0.out]; rfl)
      clear hX HS0
      generalize l.getD i default = Y at *
      have V0 := cell_under e0
      have V1 := cell_under e1
      obtain ⟨X1, X2⟩ := X
      obtain ⟨Y1, Y2⟩ := Y
      dsimp only at U0 U1 V0 V1
      clear d0 d1 e0 e1
      go_upto_region 6 with (fail)
      refine wp_region_quiet_under (by kernel_rfl) (by kernel_rfl) ?_
      repeat (go_big_quiet_step (fail))
      go_big_quiet_want
      refine quiet_neq_it (a := ⟨X1, X2⟩) (b := ⟨Y1, Y2⟩) HSV.out rfl rfl rfl ?_
      simp only [Act.put, List.setIfInBounds_toArray, List.set_cons_zero, List.set_cons_succ]
      go_big_quiet_on
      repeat (go_big_quiet_step (fail))
      refine wpQuiet_nil ?_
      intro wv hw'
      obtain ⟨pq, hw''⟩ := hw'
      have hU := below_eq hw''
      clear hw'' pq U0 U1 V0 V1
      go_wp2
      go_roundg (n - (i + 1))
      case measure => omega
      case rel => exact ⟨i + 1, by omega, rfl, by go_num, below_step hW hU⟩
    · have hge : ¬ (i : Int) < (n : Int) := by omega
      go_wp2
      go_ret
      exact ⟨rfl, hW⟩
end Go.Proofs.Ytcpfekhpbjkgeaa
end
section
/- Two wheels beside each other. -/
set_option linter.unusedVariables false
namespace Go.Proofs.Ytcpfekhpbjkgeaa
open Go.RowKit
structure Two (w : World) (B a b : Nat) (Va Vb : Nat → Value) (la lb : List It) (na nb : Int) : Prop where
  wa : WheelIs w B a Va la na
  wb : WheelIs w B b Vb lb nb
  apart : ∀ g, wIn a Va g → ¬ wIn b Vb g
section
variable {w w' : World} {B a b : Nat} {Va Vb : Nat → Value} {la lb : List It} {na nb : Int}
theorem Two.keep (h : Two w B a b Va Vb la lb na nb) (hx : Below w.heap.size w w') : Two w' B a b Va Vb la lb na nb := ⟨h.wa.keep hx, h.wb.keep hx, h.apart⟩
theorem Two.toA (h : Two w B a b Va Vb la lb na nb) {l : List It} {n : Int} (ht : WheelTo w w' B a Va l n) : ∃ Va', Two w' B a b Va' Vb l lb n nb ∧ Mod (wIn a Va) w w' ∧ ∀ g, wIn a Va' g → wIn a Va g ∨ w.heap.size ≤ g := by
  obtain ⟨Va', h1, h2, h3⟩ := ht
  refine ⟨Va', ⟨h1, h.wb.mod h2 (fun g hg hh => h.apart g hh hg), fun g hg hh => ?_⟩, h2, h3⟩
  rcases h3 g hg with h4 | h4
  · exact h.apart g h4 hh
  · have := (h.wb.lt hh).2; omega
theorem Two.toB (h : Two w B a b Va Vb la lb na nb) {l : List It} {n : Int} (ht : WheelTo w w' B b Vb l n) : ∃ Vb', Two w' B a b Va Vb' la l na n ∧ Mod (wIn b Vb) w w' ∧ ∀ g, wIn b Vb' g → wIn b Vb g ∨ w.heap.size ≤ g := by
  obtain ⟨Vb', h1, h2, h3⟩ := ht
  refine ⟨Vb', ⟨h.wa.mod h2 (fun g hg hh => h.apart g hg hh), h1, fun g hg hh => ?_⟩, h2, h3⟩
  rcases h3 g hh with h4 | h4
  · exact h.apart g hg h4
  · have := (h.wa.lt hg).2; omega
theorem Two.below (h : Two w B a b Va Vb la lb na nb) (hB : B ≤ w.heap.size) {D : Nat → Prop} (hm : Mod D w w') (hD : ∀ g, D g → wIn a Va g ∨ wIn b Vb g) : Below B w w' := hm.toBelow hB (fun g hg => by
  rcases hD g hg with h1 | h1
  · exact (h.wa.lt h1).1
  · exact (h.wb.lt h1).1)
end
/-- What Go leaves, as a wheel. -/
theorem GoGood.to {w w' : World} {B b : Nat} {V : Nat → Value} {l : List It} {z : Int} {e : Ending} (h : GoGood w w' B b V l z e) :
    ∃ v, e = .returned (.tuple #[v, .int .i64 0]) ∧ w'.ownsRow w.heap.size 31 2 v (l.take (dueN z l)).length (itShape.flat (l.take (dueN z l))) ∧ WheelTo w w' B b V (l.drop (dueN z l)) z ∧ ∀ g, v.ownBlock = some g → w.heap.size ≤ g := by
  obtain ⟨v, e1, hO, V', h1, h2, h3⟩ := h
  exact ⟨v, e1, hO, ⟨V', h1, h2, fun g hg => .inl (h3 g hg)⟩, fun g hg => (hO.lt g hg).1⟩
theorem dueN_add {s t : Int} (h : s ≤ t) : ∀ l : List It, dueN t l = dueN s l + dueN t (l.drop (dueN s l))
  | [] => rfl
  | x :: l => by
    by_cases hx : x.t ≤ s
    · rw [dueN, if_pos (by omega), dueN, if_pos hx, List.drop_succ_cons, dueN_add h l]; omega
    · rw [show dueN s (x :: l) = 0 by rw [dueN, if_neg hx], List.drop_zero, Nat.zero_add]
theorem due_take {s t : Int} (h : s ≤ t) (l : List It) : l.take (dueN s l) ++ (l.drop (dueN s l)).take (dueN t (l.drop (dueN s l))) = l.take (dueN t l) := by
  rw [dueN_add h l, List.take_add]
theorem due_drop {s t : Int} (h : s ≤ t) (l : List It) : (l.drop (dueN s l)).drop (dueN t (l.drop (dueN s l))) = l.drop (dueN t l) := by
  rw [dueN_add h l, List.drop_drop]
/-- What so many items leave when they are put in at the start. -/
def addAll (l : List It) : List It := l.foldl (addL 0) []
theorem addL_len (now : Int) (l : List It) (x : It) : (addL now l x).length ≤ l.length + 1 := by
  unfold addL
  split
  · rw [(putL_perm x l).length_eq]; simp
  · omega
theorem addAll_step {l : List It} {i : Nat} (h : i < l.length) : addAll (l.take (i + 1)) = addL 0 (addAll (l.take i)) (l.getD i default) := by
  unfold addAll
  rw [take_next h, List.foldl_append]; rfl
end Go.Proofs.Ytcpfekhpbjkgeaa
end
