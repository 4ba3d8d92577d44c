/- Lemmas for the claim's proof: TraceK TraceL TraceM TraceN TraceO. -/
import Derived.Test.YtcpfekhpbjkgeaaT01
import Derived.Test.YtcpfekhpbjkgeaaT08
section
/- trace.Count, trace.Skew. -/
set_option linter.unusedVariables false
namespace Go.Proofs.Ytcpfekhpbjkgeaa
open Go.RowKit Go.Maps Go.Sort Go.Shelf
set_option maxHeartbeats 8000000
set_option maxRecDepth 100000
def hitR (kind e : Int) (r : RV) : Bool := r.op.kind == kind && r.told.err == e
def countR (kind e : Int) (rows : List RV) : Nat := (rows.filter (hitR kind e)).length
theorem countR_next {kind e : Int} {rows : List RV} {i : Nat} (h : i < rows.length) : countR kind e (rows.take (i + 1)) = countR kind e (rows.take i) + if hitR kind e (rows.getD i rvShape.z) = true then 1 else 0 := by
  rw [takeK_next (z := rvShape.z) h]
  unfold countR
  rw [List.filter_append, List.length_append]
  by_cases c : hitR kind e (rows.getD i rvShape.z) = true
  · rw [if_pos c, List.filter_cons_of_pos c]; rfl
  · rw [if_neg c, List.filter_cons_of_neg c]; rfl
theorem log_Count {w : World} {B : Nat} {pv : Value} {rows : List RV} (h : LogOr w B pv rows) (kind e : Int) (hn : rows.length ≤ 1000) :
    Calls Try.prog 47 #[pv, .int .i64 kind, .int .i64 e] w fun r w' => r = .returned (.int .i64 (countR kind e rows)) ∧ Below w.heap.size w w' := by
  obtain ⟨N, hN⟩ : ∃ N, N = rows.length := ⟨_, rfl⟩
  have HN := Lib.hid hN
  have hA := (Below.refl w.heap.size w)
  go_enter Try.func47, Try.ntmps47
  go_upto_region 2 with (fail)
  have CL := logOr_Len h
  rw [← hN] at CL hn
  clear hN hA
  go_wp2_with fail
  refine CL.mono ?_; rintro r w1 ⟨rfl, rfl⟩
  clear CL
  go_wp2_with fail
  go_loopg [7, 8, 11] N (fun gk s7 s8 s11 wr => ∃ (i cc : Nat), s11 = .int .i64 i ∧ i ≤ N ∧ gk = N - i ∧ s7 = .int .i64 (cc : Int) ∧ Hid (cc = countR kind e (rows.take i)) ∧ cc ≤ i ∧ w = wr)
  case atStart => exact ⟨0, 0, by go_num, Nat.zero_le _, rfl, by go_num, Lib.hid rfl, Nat.le_refl _, rfl⟩
  case round =>
    obtain ⟨i, cc, rfl, hi, rfl, rfl, HC, hc1, rfl⟩ := hrel
    by_cases hin : i < N
    · have hii : (i : Int) < (N : Int) := by omega
      rcases h with ⟨_, h0⟩ | ⟨b, v, rfl, hL0⟩
      · rw [h0] at HN; have := HN.out; simp at this; omega
      obtain ⟨A, c, rfl⟩ := ownK_sl hL0.own
      have hcap := ownK_cap hL0.own
      rw [← HN.out] at hcap
      obtain ⟨ad, rfl, hT⟩ := log_at hL0 (by rw [← HN.out]; exact hin)
      have hL : IsLog w B b (.slice (some ad) N c) rows := by rw [HN.out]; exact hL0
      obtain ⟨g0, _⟩ := hL.blk.cells1
      have HX := Lib.hid (countR_next (kind := kind) (e := e) (rows := rows) (i := i) (by rw [← HN.out]; exact hin))
      rw [← HC.out] at HX
      obtain ⟨X, hX⟩ : ∃ X, X = rows.getD i rvShape.z := ⟨_, rfl⟩
      rw [← hX] at hT HX
      clear hX hL0
      obtain ⟨t0, t1, _⟩ := hT
      have HIT := Lib.hid (show hitR kind e X = (X.op.kind == kind && X.told.err == e) from rfl)
      generalize hitR kind e X = H at *
      generalize X.op.kind = xk at *
      generalize X.told.err = xe at *
      by_cases k1 : xk = kind
      · have e1 : (xk == kind) = true := by simp [k1]
        by_cases k2 : xe = e
        · have e2 : (xe == e) = true := by simp [k2]
          have HH := Lib.hid (show H = true by rw [HIT.out, e1, e2]; rfl)
          clear k1 k2 HIT
          have HC2 := Lib.hid (show countR kind e (rows.take (i + 1)) = cc + 1 by rw [HX.out, if_pos HH.out])
          have hc2 : cc + 1 ≤ i + 1 := by omega
          go_wp2
          go_roundg (N - (i + 1))
          case measure => omega
          case rel => exact ⟨i + 1, cc + 1, by go_num, by omega, rfl, by go_num, Lib.hid HC2.out.symm, hc2, rfl⟩
        · have e2 : (xe == e) = false := by simp [k2]
          have HH := Lib.hid (show ¬ H = true by rw [HIT.out, e1, e2]; simp)
          clear k1 k2 HIT
          have HC2 := Lib.hid (show countR kind e (rows.take (i + 1)) = cc by rw [HX.out, if_neg HH.out, Nat.add_zero])
          have hc2 : cc ≤ i + 1 := by omega
          go_wp2
          go_roundg (N - (i + 1))
          case measure => omega
          case rel => exact ⟨i + 1, cc, by go_num, by omega, rfl, by go_num, Lib.hid HC2.out.symm, hc2, rfl⟩
      · have e1 : (xk == kind) = false := by simp [k1]
        have HH := Lib.hid (show ¬ H = true by rw [HIT.out, e1]; simp)
        clear k1 HIT
        have HC2 := Lib.hid (show countR kind e (rows.take (i + 1)) = cc by rw [HX.out, if_neg HH.out, Nat.add_zero])
        have hc2 : cc ≤ i + 1 := by omega
        go_wp2
        go_roundg (N - (i + 1))
        case measure => omega
        case rel => exact ⟨i + 1, cc, by go_num, by omega, rfl, by go_num, Lib.hid HC2.out.symm, hc2, rfl⟩
    · obtain rfl : i = N := by omega
      have hge : ¬ (i : Int) < (i : Int) := by omega
      have HF := Lib.hid (show cc = countR kind e rows by have h1 := HC.out; rw [List.take_of_length_le (by rw [← HN.out]; exact Nat.le_refl _)] at h1; exact h1)
      go_wp2
      go_ret
      exact ⟨by rw [← HF.out]; rfl, Below.refl _ _⟩
end Go.Proofs.Ytcpfekhpbjkgeaa
end
section
/- trace.Skew. -/
set_option linter.unusedVariables false
namespace Go.Proofs.Ytcpfekhpbjkgeaa
open Go.RowKit Go.Maps Go.Sort Go.Shelf
set_option maxHeartbeats 8000000
set_option maxRecDepth 100000
/-- The greatest share. -/
def MaxOf (m : Nat) (P : List OutV) : Prop := (∀ h, cntH P h ≤ m) ∧ (m = 0 ∨ ∃ h, cntH P h = m)
theorem MaxOf.one {m n : Nat} {P : List OutV} (h : MaxOf m P) (k : MaxOf n P) : m = n := by
  obtain ⟨h1, h2⟩ := h
  obtain ⟨k1, k2⟩ := k
  have a : m ≤ n := by
    rcases h2 with h2 | ⟨x, h2⟩
    · omega
    · have := k1 x; omega
  have b : n ≤ m := by
    rcases k2 with h2 | ⟨x, h2⟩
    · omega
    · have := h1 x; omega
  omega
theorem sum_one {K : List Int} {x : Int} (hn : K.Nodup) (hx : x ∈ K) (f : Int → Nat) : (K.map fun h => f h + if x = h then 1 else 0).sum = (K.map f).sum + 1 := by
  induction K with
  | nil => cases hx
  | cons k K ih =>
    obtain ⟨h1, h2⟩ := List.nodup_cons.1 hn
    rw [List.map_cons, List.sum_cons, List.map_cons, List.sum_cons]
    by_cases e : x = k
    · subst e
      rw [if_pos rfl]
      have : (K.map fun h => f h + if x = h then 1 else 0) = K.map f := List.map_congr_left fun h hh => by
        rw [if_neg (show ¬ x = h from fun e2 => h1 (by rw [e2]; exact hh))]; rfl
      rw [this]; omega
    · rw [if_neg e, ih h2 ((List.mem_cons.1 hx).resolve_left e)]; omega
theorem sum_zero (K : List Int) : (K.map (cntH [])).sum = 0 := by
  induction K with
  | nil => rfl
  | cons k K ih => rw [List.map_cons, List.sum_cons, ih]; rfl
theorem sum_cnt {K : List Int} (hn : K.Nodup) : ∀ P : List OutV, (∀ o ∈ P, o.host ∈ K) → (K.map (cntH P)).sum = P.length
  | [], _ => sum_zero K
  | o :: P, h => by
    have e : K.map (cntH (o :: P)) = K.map fun h => cntH P h + if o.host = h then 1 else 0 := List.map_congr_left fun h _ => by
      unfold cntH
      by_cases e : o.host = h
      · rw [if_pos e, List.filter_cons_of_pos (by simpa using e)]; rfl
      · rw [if_neg e, List.filter_cons_of_neg (by simpa using e)]; rfl
    rw [e, sum_one hn (h o List.mem_cons_self), sum_cnt hn P (fun x hx => h x (List.mem_cons_of_mem _ hx))]; rfl
def mostL (l : List Nat) : Nat := l.foldl max 0
theorem mostL_snoc (l : List Nat) (x : Nat) : mostL (l ++ [x]) = max (mostL l) x := by unfold mostL; rw [List.foldl_append]; rfl
theorem mostL_of : ∀ l : List Nat, (∀ x ∈ l, x ≤ mostL l) ∧ (mostL l = 0 ∨ mostL l ∈ l) := by
  have : ∀ (l : List Nat) (a : Nat), a ≤ l.foldl max a ∧ (∀ x ∈ l, x ≤ l.foldl max a) ∧ (l.foldl max a = a ∨ l.foldl max a ∈ l) := by
    intro l
    induction l with
    | nil => intro a; exact ⟨Nat.le_refl _, (fun x hx => by cases hx), .inl rfl⟩
    | cons y l ih =>
      intro a
      obtain ⟨h1, h2, h3⟩ := ih (max a y)
      rw [List.foldl_cons]
      refine ⟨by omega, fun x hx => ?_, ?_⟩
      · rcases List.mem_cons.1 hx with rfl | hx
        · omega
        · exact h2 x hx
      · rcases h3 with h3 | h3
        · rw [h3]
          rcases Nat.le_total a y with h4 | h4
          · right; rw [Nat.max_eq_right h4]; exact List.mem_cons_self
          · left; exact Nat.max_eq_left h4
        · exact .inr (List.mem_cons_of_mem _ h3)
  intro l
  exact ⟨(this l 0).2.1, (this l 0).2.2⟩
theorem keys_nodup {K l : List Int} (h : KeysOf K l) : K.Nodup := h.1.imp fun {a b} hab => by omega
theorem keys_max {K : List Int} {P : List OutV} (h : KeysOf K (hostsOf P)) : MaxOf (mostL (K.map (cntH P))) P := by
  obtain ⟨h1, h2⟩ := mostL_of (K.map (cntH P))
  refine ⟨fun x => ?_, ?_⟩
  · by_cases hx : x ∈ hostsOf P
    · exact h1 _ (List.mem_map.2 ⟨x, (h.2 x).2 hx, rfl⟩)
    · unfold cntH; rw [cnt_none hx]; exact Nat.zero_le _
  · rcases h2 with h2 | h2
    · exact .inl h2
    · obtain ⟨k, _, e⟩ := List.mem_map.1 h2
      exact .inr ⟨k, e⟩
theorem keys_sum {K : List Int} {P : List OutV} (h : KeysOf K (hostsOf P)) : (K.map (cntH P)).sum = P.length := sum_cnt (keys_nodup h) P fun o ho => (h.2 _).2 (List.mem_map.2 ⟨o, ho, rfl⟩)
theorem sum_le_take (l : List Nat) (k : Nat) : (l.take k).sum ≤ l.sum := by
  conv => rhs; rw [← List.take_append_drop k l]
  rw [List.sum_append]; omega
/-- A share's cells. -/
theorem readsSh {w : World} {B n c : Nat} {A : Option Addr} {l : List Sh} (h : w.ownsRow B 97 3 (.slice A n c) n (shShape.flat l)) {k : Nat} (hk : k < n) : ∃ ad, A = some ad ∧ w.cell? (ad.add (k * 3)) = some (.int .i64 (l.getD k shShape.z).host) ∧
    w.cell? ⟨(ad.add (k * 3)).block, (ad.add (k * 3)).off + 1, none⟩ = some (.int .i64 (l.getD k shShape.z).outs) ∧ w.cell? ⟨(ad.add (k * 3)).block, (ad.add (k * 3)).off + 2, none⟩ = some (.int .i64 (l.getD k shShape.z).bytes) := by
  obtain ⟨ad, e, hat⟩ := readsK_at (C := shShape) (ownK_reads h) (ownK_len (C := shShape) h) hk
  have hat : ∀ j u, (shShape.cells (l.getD k shShape.z))[j]? = some u → w.cell? (ad.add (k * 3 + j)) = some u := hat
  refine ⟨ad, e, hat 0 _ rfl, ?_, ?_⟩ <;> rw [← add_far _ _ _ (by omega)]
  · exact hat 1 _ rfl
  · exact hat 2 _ rfl
/-- What Skew says. -/
def skewOf (m n : Nat) : Int := if n = 0 then 0 else (m : Int) * 1000 / (n : Int)
theorem log_Skew {w : World} {B : Nat} {pv : Value} {rows : List RV} (h : LogOr w B pv rows) (hr : RowsOk w rows) (hn : rows.length ≤ 1000) (hm : (outsR rows).length ≤ 10000) :
    Calls Try.prog 43 #[pv] w fun e w' => (∃ m, MaxOf m (outsR rows) ∧ e = .returned (.int .i64 (skewOf m (outsR rows).length))) ∧ Below w.heap.size w w' := by
  have CS := log_Shares h hr hn hm
  obtain ⟨P, hP⟩ : ∃ P, P = outsR rows := ⟨_, rfl⟩
  rw [← hP] at CS hm ⊢
  have HPL := Lib.hid hm
  clear hP hm
  go_enter Try.func43, Try.ntmps43
  go_wp2_with fail
  refine CS.mono ?_; rintro e w1 ⟨⟨v, rfl, K, hK, hO⟩, hW⟩
  obtain ⟨A, c, rfl⟩ := ownK_sl hO
  have hcap := ownK_cap hO
  have HKM := Lib.hid (keys_max hK)
  have HKS := Lib.hid (keys_sum hK)
  have HKN := Lib.hid (show K.length ≤ P.length by
    have h1 := (keys_nodup hK)
    have h2 := keys_sum hK
    have h3 : ∀ L : List Int, (∀ k ∈ L, 1 ≤ cntH P k) → L.length ≤ (L.map (cntH P)).sum := by
      intro L
      induction L with
      | nil => intro _; simp
      | cons k L ih =>
        intro hL
        rw [List.map_cons, List.sum_cons, List.length_cons]
        have := ih (fun x hx => hL x (List.mem_cons_of_mem _ hx))
        have := hL k List.mem_cons_self
        omega
    have h4 := h3 K fun k hk => by
      obtain ⟨o, ho, e⟩ := List.mem_map.1 ((hK.2 k).1 hk)
      unfold cntH
      exact List.length_pos_iff_exists_mem.2 ⟨o, List.mem_filter.2 ⟨ho, by simp [e]⟩⟩
    omega)
  clear CS hr h hK
  obtain ⟨CL, hCL⟩ : ∃ CL, CL = K.map (cntH P) := ⟨_, rfl⟩
  rw [← hCL] at HKM HKS
  have HLEN := Lib.hid (show CL.length = K.length by rw [hCL, List.length_map])
  have HAT := Lib.hid (show ∀ k, k < K.length → ((K.map (shOf P)).getD k shShape.z).outs = (CL.getD k 0 : Int) from fun k hk => by
    rw [hCL, List.getD_eq_getElem?_getD, List.getD_eq_getElem?_getD, List.getElem?_map, List.getElem?_map, List.getElem?_eq_getElem hk]; rfl)
  have HBD := Lib.hid (show ∀ x ∈ CL, x ≤ 10000 from fun x hx => by
    rw [hCL] at hx
    obtain ⟨k, _, rfl⟩ := List.mem_map.1 hx
    have := cntH_le P k; have := HPL.out; omega)
  clear hCL
  obtain ⟨N, hN⟩ : ∃ N, N = K.length := ⟨_, rfl⟩
  rw [← hN] at hO hcap HKN HLEN HAT ⊢
  clear hN
  generalize K.map (shOf P) = SL at *
  go_wp2_with fail
  go_loopg [3, 4, 6, 10] N (fun gk s3 s4 s6 s10 wr => ∃ (k mo su : Nat), s10 = .int .i64 k ∧ k ≤ N ∧ gk = N - k ∧ s3 = .int .i64 mo ∧ s4 = .int .i64 su ∧ Hid (mo = mostL (CL.take k)) ∧ Hid (su = (CL.take k).sum) ∧ Below w1.heap.size w1 wr)
  case atStart => exact ⟨0, 0, 0, by go_num, Nat.zero_le _, rfl, by go_num, by go_num, Lib.hid rfl, Lib.hid rfl, Below.refl _ _⟩
  case round =>
    obtain ⟨k, mo, su, rfl, hk, rfl, rfl, rfl, HMO, HSU, hb⟩ := hrel
    have hmo : mo ≤ 10000 := by
      rw [HMO.out]
      rcases (mostL_of (CL.take k)).2 with h1 | h1
      · omega
      · exact HBD.out _ (List.mem_of_mem_take h1)
    have hsu : su ≤ 10000 := by
      have h1 := sum_le_take CL k
      rw [← HSU.out, HKS.out] at h1
      have := HPL.out; omega
    by_cases hkn : k < N
    · have hkk : (k : Int) < (N : Int) := by omega
      obtain ⟨ad, rfl, d0, d1, d2⟩ := readsSh (ownK_keep hO hb) hkn
      rw [HAT.out k hkn] at d1
      have HT := Lib.hid (takeK_next (l := CL) (i := k) (z := 0) (by rw [HLEN.out]; exact hkn))
      generalize (SL.getD k shShape.z).host = x0 at *
      generalize (SL.getD k shShape.z).bytes = x2 at *
      have hcn : CL.getD k 0 ≤ 10000 := HBD.out _ (by
        rw [List.getD_eq_getElem?_getD, List.getElem?_eq_getElem (by rw [HLEN.out]; exact hkn)]; exact List.getElem_mem _)
      generalize CL.getD k 0 = cn at *
      go_upto_region 5 with (fail)
      have hA1 := (Below.refl wr.heap.size wr).alloc (Nat.le_refl _) (.cells #[.int .i64 x0, .int .i64 cn, .int .i64 x2] 97)
      have PS := Blk.new wr 97 #[.int .i64 x0, .int .i64 cn, .int .i64 x2]
      have hb2 := below_step hb hA1
      obtain ⟨sb, hsb⟩ : ∃ q, q = wr.heap.size := ⟨_, rfl⟩
      rw [← hsb] at PS ⊢
      clear hA1 hsb hb d0 d1 d2
      generalize wr.alloc (.cells #[.int .i64 x0, .int .i64 cn, .int .i64 x2] 97) = t at *
      obtain ⟨q0, q1, q2, _⟩ := PS.cells3
      have U1 := cell_under q1
      have hmx : max (mo : Int) (cn : Int) = ((max mo cn : Nat) : Int) := by omega
      have hws : IntKind.i64.wrap ((su : Int) + (cn : Int)) = ((su + cn : Nat) : Int) := by rw [IntKind.wrap_i64]; omega
      refine wp_region_quiet_under (by kernel_rfl) (by kernel_rfl) ?_
      repeat (go_big_quiet_step ((fail)))
      refine wpQuiet_nil ?_
      intro wu hw'
      obtain ⟨pq, hw''⟩ := hw'
      have hU := below_eq hw''
      clear hw'' pq
      have hb3 := below_step hb2 hU
      have HMO2 := Lib.hid (show max mo cn = mostL (CL.take (k + 1)) by rw [HT.out, mostL_snoc, ← HMO.out])
      have HSU2 := Lib.hid (show su + cn = (CL.take (k + 1)).sum by rw [HT.out, List.sum_append, ← HSU.out]; simp)
      clear U1 hU q0 q1 q2 PS hmx hws hb2
      go_wp2
      go_roundg (N - (k + 1))
      case measure => omega
      case rel => exact ⟨k + 1, max mo cn, su + cn, by go_num, by omega, rfl, by go_num, by go_num, HMO2, HSU2, hb3⟩
    · obtain rfl : k = N := by omega
      have hge : ¬ (k : Int) < (k : Int) := by omega
      have hsu2 : su = P.length := by have h1 := HSU.out; rw [List.take_of_length_le (by rw [HLEN.out]; exact Nat.le_refl _), HKS.out] at h1; exact h1
      have HMX := Lib.hid (show MaxOf mo P by have h1 := HMO.out; rw [List.take_of_length_le (by rw [HLEN.out]; exact Nat.le_refl _)] at h1; rw [h1]; exact HKM.out)
      have HSS := Lib.hid hsu2
      have hW2 := below_step hW hb
      clear hsu2 HSU HMO
      by_cases h0 : su = 0
      · have e1 : ((su : Int) == 0) = true := by simp [h0]
        have HR := Lib.hid (show skewOf mo P.length = 0 by unfold skewOf; rw [if_pos (by rw [← HSS.out]; exact h0)])
        clear h0
        go_wp2
        go_ret
        exact ⟨⟨mo, HMX.out, by rw [HR.out]; rfl⟩, hW2⟩
      · have e1 : ((su : Int) == 0) = false := by simp [h0]
        have wm : IntKind.i64.wrap ((mo : Int) * 1000) = (mo : Int) * 1000 := by rw [IntKind.wrap_i64]; omega
        have hq0 : 0 ≤ (mo : Int) * 1000 / (su : Int) := Int.ediv_nonneg (by omega) (by omega)
        have hq1 : (mo : Int) * 1000 / (su : Int) ≤ (mo : Int) * 1000 := Int.ediv_le_self _ (by omega)
        have hqt : Int.tdiv ((mo : Int) * 1000) (su : Int) = (mo : Int) * 1000 / (su : Int) := Int.tdiv_eq_ediv_of_nonneg (by omega)
        have HR := Lib.hid (show skewOf mo P.length = (mo : Int) * 1000 / (su : Int) by unfold skewOf; rw [if_neg (by rw [← HSS.out]; exact h0), ← HSS.out])
        generalize (mo : Int) * 1000 / (su : Int) = qq at *
        have wq : IntKind.i64.wrap qq = qq := by rw [IntKind.wrap_i64]; omega
        go_wp2
        go_ret
        exact ⟨⟨mo, HMX.out, by rw [HR.out]; rfl⟩, hW2⟩
end Go.Proofs.Ytcpfekhpbjkgeaa
end
section
/- The law's awake. -/
set_option linter.unusedVariables false
namespace Go.Proofs.Ytcpfekhpbjkgeaa
open Go.RowKit Go.Maps Go.Sort Go.Shelf
set_option maxHeartbeats 8000000
set_option maxRecDepth 100000
def out3 : List OutV := [⟨1, none, 0, 0⟩, ⟨2, none, 0, 0⟩, ⟨1, none, 0, 0⟩]
theorem out3_mv : (mvF out3).1 = 2 := by decide
theorem out3_max : MaxOf 2 out3 := by
  refine ⟨fun h => ?_, .inr ⟨1, by decide⟩⟩
  by_cases h1 : h = 1
  · subst h1; decide
  · by_cases h2 : h = 2
    · subst h2; decide
    · unfold cntH out3
      have a1 : ((1 : Int) == h) = false := by rw [beq_eq_false_iff_ne]; exact fun e => h1 e.symm
      have a2 : ((2 : Int) == h) = false := by rw [beq_eq_false_iff_ne]; exact fun e => h2 e.symm
      simp [List.filter_cons, a1, a2]
theorem readsK_newN (w : World) (T : TypeId) (size n : Nat) (cs : List Value) (h : cs.length = n * size) : Reads (w.alloc (.cells ⟨cs⟩ T)) (w.alloc (.cells ⟨cs⟩ T)).heap.size size (some ⟨w.heap.size, 0, none⟩) n cs :=
  ⟨h, fun _ => ⟨_, rfl, by simp, fun j u hu => by
    have e : (⟨w.heap.size, 0, none⟩ : Addr).add j = ⟨w.heap.size, j, none⟩ := by unfold Addr.add; split <;> simp_all
    rw [e, (Blk.new w T ⟨cs⟩).cell j]
    simpa using hu⟩⟩
theorem law41_awake (w : World) : Calls Try.prog 44 #[] w fun e w' => e = .returned (.bool true) ∧ Below w.heap.size w w' := by
  go_enter Try.func44, Try.ntmps44
  go_upto_region 2 with (fail)
  have hA := (Below.refl w.heap.size w).alloc (Nat.le_refl _) (.cells #[.slice none 0 0] 113)
  have PB := Blk.new w 113 #[.slice none 0 0]
  obtain ⟨b, hb⟩ : ∃ b, b = w.heap.size := ⟨_, rfl⟩
  rw [← hb] at PB ⊢
  have HB := Lib.hid hb
  clear hb
  generalize w.alloc (.cells #[.slice none 0 0] 113) = u at *
  have hL : IsLog u b b (.slice none 0 0) [] := ⟨PB, Nat.le_refl _, World.ownsRow_nil _ _ _ 9⟩
  have hA2 := (Below.refl u.heap.size u).alloc (Nat.le_refl _) (.cells #[.int .i64 1, .slice none 0 0, .int .i64 2, .slice none 0 0, .int .i64 1, .slice none 0 0] 95)
  have hro : IsRow outShape _ (some ⟨u.heap.size, 0, none⟩) 3 3 out3 := ⟨readsK_newN u 95 2 3 [.int .i64 1, .slice none 0 0, .int .i64 2, .slice none 0 0, .int .i64 1, .slice none 0 0] rfl, rfl, Nat.le_refl _, by decide, by decide, by
    intro x hx
    simp [out3] at hx
    rcases hx with rfl | rfl | rfl <;> exact ⟨by unfold I64; decide, by decide, by decide, by decide⟩⟩
  have hbs : b ≠ u.heap.size := Nat.ne_of_lt PB.lt
  have hL2 := hL.keep hA2
  have hW2 := below_step hA hA2
  obtain ⟨sb, hsb⟩ : ∃ q, q = u.heap.size := ⟨_, rfl⟩
  have hWb : b ≤ (u.alloc (.cells #[.int .i64 1, .slice none 0 0, .int .i64 2, .slice none 0 0, .int .i64 1, .slice none 0 0] 95)).heap.size := Nat.le_of_lt hL2.blk.lt
  have CN := log_Note hL2 (opK 0) ⟨0, some ⟨u.heap.size, 0, none⟩, 3, 3, 0, out3⟩ (by simp) hWb
  unfold opK at CN
  dsimp only at CN
  go_wp2_with fail
  refine CN.mono ?_; rintro e w3 ⟨rfl, v3, hL3, hM3, _⟩
  have hro3 := IsRow.modK hro hM3 (fun ad e _ hh => by
    cases e
    rcases hh with h1 | h1
    · exact hbs h1.symm
    · cases h1)
  have hW3 := hW2.trans (hL2.below (Nat.le_of_eq HB.out.symm) hM3)
  rw [List.nil_append] at hL3
  have hRok : RowsOk w3 [⟨⟨0, none, 0, 0, ByteArray.empty, 0, 0, false⟩, ⟨0, some ⟨u.heap.size, 0, none⟩, 3, 3, 0, out3⟩⟩] := fun r hr => by
    obtain rfl := List.mem_singleton.1 hr
    exact hro3
  have e3 : outsR [⟨⟨0, none, 0, 0, ByteArray.empty, 0, 0, false⟩, ⟨0, some ⟨u.heap.size, 0, none⟩, 3, 3, 0, out3⟩⟩] = out3 := by simp [outsR]
  have CM := log_Moves hL3 hRok (by simp) (by rw [e3]; decide)
  have HL3 := Lib.hid hL3
  rw [e3, out3_mv] at CM
  clear hro hro3 hL hL2 hA hA2 hM3 CN hW2 hsb hbs PB hWb
  go_wp2_with fail
  refine CM.mono ?_; rintro e w4 ⟨rfl, hx4⟩
  have CS := log_Skew (.inr ⟨b, v3, rfl, HL3.out.keep hx4⟩) (hRok.keep hx4) (by simp) (by rw [e3]; decide)
  rw [e3] at CS
  have hW4 := below_step hW3 hx4
  have hL4 := Lib.hid (HL3.out.keep hx4)
  clear CM hW3 hx4 hRok hL3
  go_wp2_with fail
  refine CS.mono ?_; rintro e w5 ⟨⟨m, hm, rfl⟩, hx5⟩
  obtain rfl : m = 2 := hm.one out3_max
  have CL := log_Len (hL4.out.keep hx5)
  have hW5 := below_step hW4 hx5
  rw [show skewOf 2 out3.length = 666 by decide]
  clear CS hW4 hx5 hm e3
  simp only [List.length_cons, List.length_nil] at CL
  go_wp2_with fail
  refine CL.mono ?_; rintro e w6 ⟨rfl, rfl⟩
  clear CL
  go_wp2
  go_ret
  exact ⟨rfl, hW5⟩
end Go.Proofs.Ytcpfekhpbjkgeaa
end
section
/- TraceNobody. -/
set_option linter.unusedVariables false
namespace Go.Proofs.Ytcpfekhpbjkgeaa
open Go.RowKit Go.Maps Go.Sort Go.Shelf
set_option maxHeartbeats 8000000
set_option maxRecDepth 100000
theorem log_MovesNil (w : World) : Calls Try.prog 42 #[.pointer none] w fun e w' => e = .returned (.int .i64 0) ∧ w = w' := by
  have CL := log_LenNil w
  go_enter Try.func42, Try.ntmps42
  go_wp2_with fail
  refine CL.mono ?_; rintro e w1 ⟨rfl, rfl⟩
  clear CL
  go_wp2_with fail
  go_loopg [3, 4, 10] 0 (fun gk s3 s4 s10 wr => gk = 0 ∧ s3 = .int .i64 0 ∧ s10 = .int .i64 0 ∧ w = wr)
  case atStart => exact ⟨rfl, rfl, rfl, rfl⟩
  case round =>
    obtain ⟨rfl, rfl, rfl, rfl⟩ := hrel
    go_wp2
    go_ret
    exact ⟨rfl, rfl⟩
theorem cut10_le (t : TV) : (cut10 t).n ≤ 10 := by
  unfold cut10
  split
  · exact Nat.le_refl _
  · omega
theorem cut10_outs {w : World} {t : TV} (h : IsOuts w t) : IsOuts w (cut10 t) := by
  unfold cut10
  split
  · exact IsRow.cut h (show 10 ≤ t.n by omega)
  · exact h
theorem fewT_wf {w : World} {A : Option Addr} {n c : Nat} {l : List TV} (h : IsRow tvShape w A n c l) : ∀ x ∈ fewT l, tvShape.Wf x := fun x hx => by
  obtain ⟨t, ht, rfl⟩ := List.mem_map.1 hx
  have h1 := h.wf t (List.mem_of_mem_take ht)
  unfold cut10
  split
  · exact h1
  · exact h1
theorem fewT_outs {w : World} {l : List TV} (h : ∀ t ∈ l, IsOuts w t) : ∀ x ∈ fewT l, IsOuts w x := fun x hx => by
  obtain ⟨t, ht, rfl⟩ := List.mem_map.1 hx
  exact cut10_outs (h t (List.mem_of_mem_take ht))
theorem fewT_le (l : List TV) : (fewT l).length ≤ 30 := by unfold fewT; rw [List.length_map, List.length_take]; omega
theorem keys_none {K : List Int} (h : KeysOf K []) : K = [] := by
  cases K with
  | nil => rfl
  | cons k K => have := (h.2 k).1 List.mem_cons_self; cases this
theorem traceNobody_walk (w : World) (oA : Option Addr) (on oc : Nat) (ol : List OpV) (ho : IsRow opShape w oA on oc ol) (A : Option Addr) (n c : Nat) (l : List TV) (h : IsRow tvShape w A n c l ∧ ∀ t ∈ l, IsOuts w t) :
    Calls Try.prog 12 #[.slice oA on oc, .slice A n c] w fun e w' => e = .returned (.bool true) ∧ Below w.heap.size w w' := by
  have hoc := ho.cap
  have hos := ho.small
  have CF := law41_few h.1 h.2
  have HWF := Lib.hid (fewT_wf h.1)
  have HLE := Lib.hid (fewT_le l)
  clear h
  go_enter Try.func12, Try.ntmps12
  go_wp2_with fail
  refine CF.mono ?_; rintro e w1 ⟨⟨v1, rfl, hO1⟩, hW1⟩
  clear CF
  obtain ⟨A1, c1, rfl⟩ := ownK_sl hO1
  have hl1 := ownK_row (C := tvShape) hO1 HWF.out (by have := HLE.out; omega)
  obtain ⟨F, hF⟩ : ∃ F, F = fewT l := ⟨_, rfl⟩
  rw [← hF] at hl1 HLE ⊢
  clear hF HWF hO1
  obtain ⟨m, hm⟩ : ∃ m, m = F.length := ⟨_, rfl⟩
  rw [← hm] at hl1 HLE ⊢
  have HM := Lib.hid hm
  have hm30 : m ≤ 30 := HLE.out
  clear hm
  go_upto_if 12 with (fail)
  go_cut [0] (fun q wx => w1 = wx ∧ ∃ k, q = .slice oA k oc ∧ k ≤ on ∧ k ≤ 30)
  case first =>
    by_cases h30 : 30 < on
    · have h30i : (30 : Int) < (on : Int) := by omega
      have h30c : 30 ≤ oc := by omega
      go_wp2_with fail
      go_meet
      exact ⟨rfl, 30, rfl, by omega, by omega⟩
    · have h30i : ¬ (30 : Int) < (on : Int) := by omega
      go_wp2_with fail
      go_meet
      exact ⟨rfl, on, rfl, by omega, by omega⟩
  case rest =>
  obtain ⟨rfl, k, rfl, hk1, hk2⟩ := hcut
  have hor := (ho.keep hW1).cut hk1
  have HOL := Lib.hid (show (ol.take k).length = k by rw [List.length_take, ho.len]; omega)
  clear ho
  generalize ol.take k = OL at *
  have CN := log_NoteNil w1
  go_wp2_with fail
  refine (CN _ _).mono ?_; rintro e w2 ⟨rfl, hx2⟩
  have hor2 := hor.keep hx2
  have hl2 := hl1.keep hx2
  have hW2 := below_step hW1 hx2
  have CA := log_AllNil hor2 hl2
  clear CN hor hl1 hW1 hx2
  go_wp2_with fail
  refine CA.mono ?_; rintro e w3 ⟨rfl, hx3⟩
  have hor3 := hor2.keep hx3
  have hl3 := hl2.keep hx3
  have hW3 := below_step hW2 hx3
  clear CA hor2 hl2 hW2 hx3
  go_upto_region 8 with (fail)
  have hA := (Below.refl w3.heap.size w3).alloc (Nat.le_refl _) (.cells #[.slice none 0 0] 113)
  have PB := Blk.new w3 113 #[.slice none 0 0]
  have hor4 := hor3.keep hA
  have hl4 := hl3.keep hA
  have hW4 := below_step hW3 hA
  have HLO := Lib.hid (show ∀ ad, oA = some ad → 0 < k → ad.block < w3.heap.size from fun ad e h0 => by
    obtain ⟨ad', e', hb, _⟩ := hor3.reads.2 h0
    rw [e] at e'; cases e'; exact hb)
  have HLL := Lib.hid (show ∀ ad, A1 = some ad → 0 < m → ad.block < w3.heap.size from fun ad e h0 => by
    obtain ⟨ad', e', hb, _⟩ := hl3.reads.2 h0
    rw [e] at e'; cases e'; exact hb)
  obtain ⟨b, hb⟩ : ∃ b, b = w3.heap.size := ⟨_, rfl⟩
  rw [← hb] at PB HLO HLL ⊢
  have HB := Lib.hid (show w.heap.size ≤ b by rw [hb]; exact hW3.size)
  clear hb hor3 hl3 hW3 hA
  generalize w3.alloc (.cells #[.slice none 0 0] 113) = u at *
  have hL : IsLog u b b (.slice none 0 0) [] := ⟨PB, Nat.le_refl _, World.ownsRow_nil _ _ _ 9⟩
  have CA := log_All hL (Nat.le_of_lt PB.lt) hor4 hl4 (fun ad e h0 hh => by
    rcases hh with h1 | h1
    · have := HLO.out ad e h0; omega
    · cases h1) (fun ad e h0 hh => by
    rcases hh with h1 | h1
    · have := HLL.out ad e h0; omega
    · cases h1) (by simp) (by omega)
  rw [List.nil_append] at CA
  have HRL := Lib.hid (show ((zipR OL F).length : Int) = ((min k m : Nat) : Int) by unfold zipR; rw [List.length_zipWith, HOL.out, ← HM.out])
  go_wp2_with fail
  refine CA.mono ?_; rintro e w5 ⟨rfl, v5, hL5, hM5, _⟩
  have hW5 := hW4.trans (hL.below HB.out hM5)
  have CL := log_Len hL5
  rw [HRL.out] at CL
  clear CA hL PB hor4 hl4 hW4 hM5
  go_upto_if 34 with (fail)
  go_cut [7] (fun q wx => w5 = wx ∧ q = .int .i64 ((min k m : Nat) : Int))
  case first =>
    by_cases hkm : m < k
    · have hkmi : (m : Int) < (k : Int) := by omega
      have HMN := Lib.hid (show (min k m : Nat) = m by omega)
      generalize min k m = mn at *
      go_wp2_with fail
      go_meet
      exact ⟨rfl, by rw [HMN.out]⟩
    · have hkmi : ¬ (m : Int) < (k : Int) := by omega
      have HMN := Lib.hid (show (min k m : Nat) = k by omega)
      generalize min k m = mn at *
      go_wp2_with fail
      go_meet
      exact ⟨rfl, by rw [HMN.out]⟩
  case rest =>
  obtain ⟨rfl, rfl⟩ := hcut
  generalize min k m = mn at *
  have g1 : ((mn : Int) == (mn : Int)) = true := by simp
  have g2 : ((0 : Int) == 0) = true := by simp
  have hN : ∀ w : World, LogOr w 0 (.pointer none) [] := fun w => .inl ⟨rfl, rfl⟩
  have hR : ∀ w : World, RowsOk w [] := fun w r hr => by cases hr
  go_wp2_with fail
  refine CL.mono ?_; rintro e w6 ⟨rfl, rfl⟩
  have CLn := log_LenNil w5
  clear CL
  go_wp2_with fail
  refine CLn.mono ?_; rintro e w6 ⟨rfl, rfl⟩
  have CMn := log_MovesNil w5
  clear CLn
  go_wp2_with fail
  refine CMn.mono ?_; rintro e w6 ⟨rfl, rfl⟩
  have CSn := log_Skew (hN w5) (hR w5) (by simp) (by simp [outsR])
  clear CMn
  go_wp2_with fail
  refine CSn.mono ?_; rintro e w6 ⟨⟨mm, _, rfl⟩, hx6⟩
  rw [show skewOf mm (outsR []).length = 0 from rfl]
  have hW6 := below_step hW5 hx6
  have CCn := log_Count (hN w6) 0 0 (by simp)
  clear CSn hW5 hx6
  go_wp2_with fail
  refine CCn.mono ?_; rintro e w7 ⟨rfl, hx7⟩
  rw [show ((countR 0 0 [] : Nat) : Int) = 0 from rfl]
  have hW7 := below_step hW6 hx7
  have CSn := log_Shares (hN w7) (hR w7) (by simp) (by simp [outsR])
  clear CCn hW6 hx7
  go_wp2_with fail
  refine CSn.mono ?_; rintro e w8 ⟨⟨v8, rfl, K, hK, hO8⟩, hx8⟩
  obtain ⟨A8, c8, rfl⟩ := ownK_sl hO8
  obtain rfl := keys_none hK
  have hW8 := below_step hW7 hx8
  have CEn := log_Errs (hN w8) (fun r hr => by cases hr) (by simp)
  simp only [List.length_nil]
  clear CSn hW7 hx8 hK hO8
  go_wp2_with fail
  refine CEn.mono ?_; rintro e w9 ⟨⟨v9, rfl, K, hK, hO9⟩, hx9⟩
  obtain ⟨A9, c9, rfl⟩ := ownK_sl hO9
  obtain rfl := keys_none hK
  have hW9 := below_step hW8 hx9
  simp only [List.length_nil]
  clear CEn hW8 hx9 hK hO9
  go_wp2_with fail
  refine (law41_awake _).mono ?_; rintro e w10 ⟨rfl, hx10⟩
  go_wp2
  go_ret
  exact ⟨rfl, below_step hW9 hx10⟩
end Go.Proofs.Ytcpfekhpbjkgeaa
end
section
/- Ops among the arguments. -/
set_option linter.unusedVariables false
namespace Go.Proofs.Ytcpfekhpbjkgeaa
open Go.ChangeShapes Go.WideShapes Go.ChangeAt Go.RowKit Go.Deep
section
variable {H : Type} {enc : TypeId × Value → H} {W : World} {base : Nat}
structure OpType (e : TypeId) (f0 f1 f2 f3 f4 f5 : Field) (b : TypeId) : Prop where
  he : Try.prog.underlying e = some (.struct #[f0, f1, f2, f3, f4, f5])
  hc : Try.prog.cellsOf e = 6
  c0 : f0.offset = 0 ∧ Try.prog.cellsOf f0.type = 1
  c1 : f1.offset = 1 ∧ Try.prog.cellsOf f1.type = 1
  c2 : f2.offset = 2 ∧ Try.prog.cellsOf f2.type = 1
  c3 : f3.offset = 3 ∧ Try.prog.cellsOf f3.type = 1
  c4 : f4.offset = 4 ∧ Try.prog.cellsOf f4.type = 1
  c5 : f5.offset = 5 ∧ Try.prog.cellsOf f5.type = 1
  e0 : Try.prog.underlying f0.type = some (.int .i64)
  e1 : Try.prog.underlying f1.type = some (.slice b)
  e2 : Try.prog.underlying f2.type = some .string
  e3 : Try.prog.underlying f3.type = some (.int .i64)
  e4 : Try.prog.underlying f4.type = some (.int .i64)
  e5 : Try.prog.underlying f5.type = some .bool
  hb : 1 ≤ Try.prog.bytesOf b
theorem trod_op {e : TypeId} {f0 f1 f2 f3 f4 f5 : Field} {b : TypeId} (hT : OpType e f0 f1 f2 f3 f4 f5 b) {fuel : Nat} {cs : List Value} {x : DataW H × List MemPlace}
    (h : DataW.trod enc Try.prog W base (fun _ => true) true fuel e cs = some x) (hg : Good W e x) : ∃ y : OpV, cs = opShape.cells y ∧ opShape.Wf y ∧ True := by
  obtain ⟨ys, n, _, rfl, hlen, hyl, hf⟩ := DataW.trod_struct hT.he h
  rw [hT.hc] at hlen
  have hs : ys.length = 6 := hyl
  have t0 := hf 0 f0 rfl
  have t1 := hf 1 f1 rfl
  have t2 := hf 2 f2 rfl
  have t3 := hf 3 f3 rfl
  have t4 := hf 4 f4 rfl
  have t5 := hf 5 f5 rfl
  rw [hT.c0.1, hT.c0.2] at t0
  rw [hT.c1.1, hT.c1.2] at t1
  rw [hT.c2.1, hT.c2.2] at t2
  rw [hT.c3.1, hT.c3.2] at t3
  rw [hT.c4.1, hT.c4.2] at t4
  rw [hT.c5.1, hT.c5.2] at t5
  have some_of : ∀ i, i < 6 → ∃ y, ys[i]? = some y := fun i hi => ⟨_, List.getElem?_eq_getElem (by omega)⟩
  obtain ⟨y0, q0⟩ := some_of 0 (by omega)
  obtain ⟨y1, q1⟩ := some_of 1 (by omega)
  obtain ⟨y2, q2⟩ := some_of 2 (by omega)
  obtain ⟨y3, q3⟩ := some_of 3 (by omega)
  obtain ⟨y4, q4⟩ := some_of 4 (by omega)
  obtain ⟨y5, q5⟩ := some_of 5 (by omega)
  obtain ⟨z0, r0, _, m0⟩ := DataW.trod_int hT.e0 (t0.trans q0)
  have hg1 : Good W f1.type y1 := ⟨fun q hq => hg.1 q (List.mem_flatMap.2 ⟨y1, List.mem_of_getElem? q1, hq⟩), small_struct hT.he hg.2 (j := 1) rfl (by rw [List.getElem?_map, q1]; rfl)⟩
  obtain ⟨A, k, c, r1, h1, h2, h3⟩ := open_sliceN hT.e1 hT.hb (t1.trans q1) hg1
  obtain ⟨s2, r2, _⟩ := DataW.trod_string hT.e2 (t2.trans q2)
  obtain ⟨z3, r3, _⟩ := DataW.trod_int hT.e3 (t3.trans q3)
  obtain ⟨z4, r4, _⟩ := DataW.trod_int hT.e4 (t4.trans q4)
  obtain ⟨b5, r5, _⟩ := DataW.trod_bool hT.e5 (t5.trans q5)
  clear t0 t1 t2 t3 t4 t5 hf h
  match cs, hlen with
  | [a0, a1, a2, a3, a4, a5], _ =>
    simp at r0 r1 r2 r3 r4 r5
    subst r0 r1 r2 r3 r4 r5
    exact ⟨⟨z0, A, k, c, s2, z3, z4, b5⟩, rfl, i64_of_wf m0, trivial⟩
end
set_option maxRecDepth 100000 in
theorem open_ops {H : Type} {enc : TypeId × Value → H} {W : World} {base : Nat} {r : Reach} {b0 : Nat} {v : Value} {d : DataW H} {p : List MemPlace}
    (hv : Value.okWide Try.prog W r b0 106 v) (h : DataW.Trod enc Try.prog W base (fun _ => true) true 106 v d p) (hlt : ∀ x ∈ p, x.block < W.heap.size) (hs : Small 106 d) :
    ∃ (A : Option Addr) (n c : Nat) (l : List OpV), v = .slice A n c ∧ IsRow opShape W A n c l := by
  obtain ⟨A, n, c, l, e, h1, _⟩ := open_rowsDV (C := opShape) (E := fun _ => True) (fun fuel cs x h hg => trod_op ⟨Try.underlying109, (by as_aux_lemma => kernel_rfl), ⟨rfl, (by as_aux_lemma => kernel_rfl)⟩, ⟨rfl, (by as_aux_lemma => kernel_rfl)⟩, ⟨rfl, (by as_aux_lemma => kernel_rfl)⟩, ⟨rfl, (by as_aux_lemma => kernel_rfl)⟩, ⟨rfl, (by as_aux_lemma => kernel_rfl)⟩, ⟨rfl, (by as_aux_lemma => kernel_rfl)⟩, Try.underlying3, Try.underlying93, Try.underlying9, Try.underlying3, Try.underlying3, Try.underlying4, (of_decide_eq_true (by as_aux_lemma => kernel_rfl))⟩ h hg)
    (by as_aux_lemma => kernel_rfl) Try.underlying106 (of_decide_eq_true (by as_aux_lemma => kernel_rfl)) hv h hlt hs
  exact ⟨A, n, c, l, e, h1⟩
end Go.Proofs.Ytcpfekhpbjkgeaa
end
