/- Lemmas for the claim's proof: TraceR0 TraceR. -/
import Derived.Test.YtcpfekhpbjkgeaaT10
section
/- What TraceShares counts: plain. -/
set_option linter.unusedVariables false
namespace Go.Proofs.Ytcpfekhpbjkgeaa
open Go.RowKit
set_option maxRecDepth 100000
theorem cntH_eq (P : List OutV) (x : Int) : cntH P x = (hostsOf P).count x := by
  unfold cntH hostsOf
  rw [List.count_eq_countP, List.countP_map, List.countP_eq_length_filter]
  rfl
def byB (P : List OutV) (x : Int) : Nat → Nat
  | 0 => 0
  | k + 1 => byB P x k + if (hostsOf P).getD k 0 = x then (P.getD k outShape.z).n else 0
theorem hosts_at {P : List OutV} {k : Nat} (hk : k < P.length) : (hostsOf P).getD k 0 = (P.getD k outShape.z).host := by
  unfold hostsOf
  rw [List.getD_eq_getElem?_getD, List.getElem?_map, List.getElem?_eq_getElem hk, List.getD_eq_getElem?_getD, List.getElem?_eq_getElem hk]; rfl
theorem byB_eq (P : List OutV) (x : Int) : ∀ {k : Nat}, k ≤ P.length → byB P x k = bytH (P.take k) x
  | 0, _ => by simp [byB, bytH]
  | k + 1, h => by
    rw [byB, byB_eq P x (by omega), takeK_next (z := outShape.z) (by omega), bytH_snoc, hosts_at (by omega)]
theorem byB_le {P : List OutV} {m : Nat} (hP : ∀ o ∈ P, o.n ≤ m) (x : Int) : ∀ {k : Nat}, k ≤ P.length → byB P x k ≤ k * m
  | 0, _ => Nat.zero_le _
  | k + 1, h => by
    have h1 := byB_le hP x (show k ≤ P.length by omega)
    have h2 : (P.getD k outShape.z).n ≤ m := hP _ (by rw [List.getD_eq_getElem?_getD, List.getElem?_eq_getElem (show k < P.length by omega)]; exact List.getElem_mem _)
    rw [byB, Nat.succ_mul]; split <;> omega
def msB (E : List Int) : Nat → Nat
  | 0 => 0
  | i + 1 => max (msB E i) (E.count (E.getD i 0))
theorem msB_le (E : List Int) : ∀ i, msB E i ≤ E.length
  | 0 => Nat.zero_le _
  | i + 1 => by have := msB_le E i; have := List.count_le_length (a := E.getD i 0) (l := E); rw [msB]; omega
theorem msB_max (P : List OutV) : MaxOf (msB (hostsOf P) P.length) P := by
  have h1 : ∀ i, (∀ j, j < i → (hostsOf P).count ((hostsOf P).getD j 0) ≤ msB (hostsOf P) i) ∧ (msB (hostsOf P) i = 0 ∨ ∃ h, (hostsOf P).count h = msB (hostsOf P) i) := by
    intro i
    induction i with
    | zero => exact ⟨fun j hj => absurd hj (Nat.not_lt_zero _), .inl rfl⟩
    | succ i ih =>
      obtain ⟨a, b⟩ := ih
      rw [msB]
      refine ⟨fun j hj => ?_, ?_⟩
      · by_cases hji : j = i
        · subst hji; omega
        · have := a j (by omega); omega
      · rcases Nat.le_total (msB (hostsOf P) i) ((hostsOf P).count ((hostsOf P).getD i 0)) with c | c
        · rw [Nat.max_eq_right c]; exact .inr ⟨_, rfl⟩
        · rw [Nat.max_eq_left c]; exact b
  obtain ⟨a, b⟩ := h1 P.length
  refine ⟨fun h => ?_, ?_⟩
  · rw [cntH_eq]
    by_cases hh : h ∈ hostsOf P
    · obtain ⟨j, hj⟩ := List.mem_iff_getElem?.1 hh
      have hjl : j < P.length := by
        rcases Nat.lt_or_ge j P.length with c | c
        · exact c
        · unfold hostsOf at hj; rw [List.getElem?_eq_none (by rw [List.length_map]; exact c)] at hj; cases hj
      have := a j hjl
      rw [List.getD_eq_getElem?_getD, hj] at this
      exact this
    · rw [List.count_eq_zero.2 hh]; exact Nat.zero_le _
  · rcases b with b | ⟨h, b⟩
    · exact .inl b
    · exact .inr ⟨h, by rw [cntH_eq]; exact b⟩
def mvB (E : List Int) : Nat → Nat
  | 0 => 0
  | i + 1 => mvB E i + if 0 < i ∧ 0 ≤ E.getD (i - 1) 0 ∧ E.getD i 0 ≠ E.getD (i - 1) 0 then 1 else 0
theorem mvB_le (E : List Int) : ∀ i, mvB E i ≤ i
  | 0 => Nat.le_refl _
  | i + 1 => by have := mvB_le E i; rw [mvB]; split <;> omega
theorem mvB_eq {P : List OutV} : ∀ {i : Nat}, i ≤ P.length → mvF (P.take i) = (((mvB (hostsOf P) i : Nat) : Int), if i = 0 then -1 else (hostsOf P).getD (i - 1) 0)
  | 0, _ => by simp [mvF, mvB]
  | i + 1, h => by
    rw [takeK_next (z := outShape.z) (by omega), mvF_snoc, mvB_eq (by omega), mvB, hosts_at (P := P) (k := i) (by omega)]
    unfold mvS
    dsimp only
    rw [if_neg (show ¬ i + 1 = 0 by omega), Nat.add_sub_cancel, hosts_at (P := P) (k := i) (by omega)]
    congr 1
    by_cases h0 : i = 0
    · subst h0
      rw [if_pos rfl, if_neg (fun h => by omega), if_neg (fun h => by omega)]; simp
    · rw [if_neg h0]
      by_cases h1 : 0 ≤ (hostsOf P).getD (i - 1) 0 ∧ (P.getD i outShape.z).host ≠ (hostsOf P).getD (i - 1) 0
      · rw [if_pos h1, if_pos ⟨by omega, h1⟩]; simp
      · rw [if_neg h1, if_neg (fun h => h1 h.2)]; simp
theorem outsT_le {F : List TV} {w : World} (h : ∀ t ∈ F, IsOuts w t) (h10 : ∀ t ∈ F, t.n ≤ 10) : (outsT F).length ≤ F.length * 10 := by
  induction F with
  | nil => simp [outsT]
  | cons t F ih =>
    have h1 := ih (fun x hx => h x (List.mem_cons_of_mem _ hx)) (fun x hx => h10 x (List.mem_cons_of_mem _ hx))
    have h2 : t.outs.length = t.n := IsRow.len (h t List.mem_cons_self)
    have h3 := h10 t List.mem_cons_self
    unfold outsT at h1 ⊢
    rw [List.flatMap_cons, List.length_append, List.length_cons]
    omega
theorem zip_told {kl : List Int} {F : List TV} {r : RV} (hr : r ∈ zipR (madeOps kl F.length) F) : r.told ∈ F := by
  obtain ⟨i, hi⟩ := List.mem_iff_getElem?.1 hr
  have hi2 : i < F.length := by
    rcases Nat.lt_or_ge i F.length with h1 | h1
    · exact h1
    · rw [List.getElem?_eq_none (by rw [rows_len]; exact h1)] at hi; cases hi
  have h3 := rows_at (kl := kl) hi2
  rw [List.getD_eq_getElem?_getD, hi] at h3
  simp only [Option.getD_some] at h3
  rw [h3]
  show F.getD i tvShape.z ∈ F
  rw [List.getD_eq_getElem?_getD, List.getElem?_eq_getElem hi2]; exact List.getElem_mem _
theorem fewT_n {l : List TV} : ∀ t ∈ fewT l, t.n ≤ 10 := fun t ht => by
  obtain ⟨x, _, rfl⟩ := List.mem_map.1 ht
  exact cut10_le x
end Go.Proofs.Ytcpfekhpbjkgeaa
end
section
/- TraceShares. -/
set_option linter.unusedVariables false
namespace Go.Proofs.Ytcpfekhpbjkgeaa
open Go.RowKit Go.Maps Go.Sort Go.Shelf
set_option maxHeartbeats 16000000
set_option maxRecDepth 100000
/-- A packet's host and bytes. -/
theorem host_at {w : World} {A : Option Addr} {n c : Nat} {P : List OutV} (h : IsRow outShape w A n c P) {k : Nat} (hk : k < n) : ∃ ad, A = some ad ∧ w.cell? (ad.add (k * 2)) = some (.int .i64 ((hostsOf P).getD k 0)) ∧
    w.cell? ⟨(ad.add (k * 2)).block, (ad.add (k * 2)).off + 1, none⟩ = some (.slice (P.getD k outShape.z).a (P.getD k outShape.z).n (P.getD k outShape.z).c) := by
  obtain ⟨ad, e, _, h0, h1⟩ := h.outat hk
  exact ⟨ad, e, by rw [hosts_at (by rw [h.len]; exact hk)]; exact h0, h1⟩
theorem traceShares_walk (w : World) (A : Option Addr) (n c : Nat) (l : List TV) (h : IsRow tvShape w A n c l ∧ ∀ t ∈ l, IsOuts w t) :
    Calls Try.prog 10 #[.slice A n c] w fun r w' => r = .returned (.bool true) ∧ Below w.heap.size w w' := by
  have CF := law41_few h.1 h.2
  have HWF := Lib.hid (fewT_wf h.1)
  have HLE := Lib.hid (fewT_le l)
  have HFO := Lib.hid (fewT_outs h.2)
  have HF10 := Lib.hid (fewT_n (l := l))
  clear h
  go_enter Try.func10, Try.ntmps10
  go_wp2_with fail
  refine CF.mono ?_; rintro r w1 ⟨⟨v1, rfl, hO1⟩, hW1⟩
  clear CF
  obtain ⟨A1, c1, rfl⟩ := ownK_sl hO1
  have hl1 := ownK_row (C := tvShape) hO1 HWF.out (by have := HLE.out; omega)
  obtain ⟨F, hF⟩ : ∃ F, F = fewT l := ⟨_, rfl⟩
  rw [← hF] at hl1 HLE HWF HFO HF10 ⊢
  clear hF hO1
  obtain ⟨m, hm⟩ : ∃ m, m = F.length := ⟨_, rfl⟩
  rw [← hm] at hl1 HLE ⊢
  have HM := Lib.hid hm
  have hm30 : m ≤ 30 := HLE.out
  clear hm
  have CM := law41_made hl1 (isList_nil w1 .i64) hm30
  go_wp2_with fail
  refine CM.mono ?_; rintro r w2 ⟨rfl, ⟨v2, hL2⟩, hx2⟩
  have hl2 := hl1.keep hx2
  have hW2 := below_step hW1 hx2
  obtain ⟨b, hb⟩ : ∃ b, b = w1.heap.size := ⟨_, rfl⟩
  rw [← hb] at hL2 ⊢
  clear hb CM hx2 hl1 hW1
  have hL2 : IsLog w2 b b v2 (zipR (madeOps [] F.length) F) := by rw [← HM.out]; exact hL2
  have HFO2 := Lib.hid (show ∀ t ∈ F, IsOuts w2 t from fun t ht => (HFO.out t ht).keep hW2)
  have CO := law41_outs hl2 HFO2.out HF10.out hm30
  go_wp2_with fail
  refine CO.mono ?_; rintro r w3 ⟨⟨v3, rfl, hO3⟩, hx3⟩
  obtain ⟨Ap, cp, rfl⟩ := ownK_sl hO3
  have HPL := Lib.hid (show (outsT F).length ≤ 300 by have h1 := outsT_le HFO.out HF10.out; rw [← HM.out] at h1; omega)
  have hp3 := ownK_row (C := outShape) hO3 (fun o ho => by
    obtain ⟨t, ht, ho⟩ := List.mem_flatMap.1 ho
    exact IsRow.wf (HFO.out t ht) o ho) (by have := HPL.out; omega)
  have HPW := Lib.hid (show ∀ o ∈ outsT F, o.n ≤ 140737488355328 from fun o ho => (hp3.wf o ho).2.2.1)
  have hL3 := hL2.keep hx3
  have hW3 := below_step hW2 hx3
  have HOK := Lib.hid (show RowsOk w3 (zipR (madeOps [] F.length) F) from fun r hr => (HFO2.out _ (zip_told hr)).keep hx3)
  clear CO hx3 hl2 hL2 hW2 hO3 HFO2
  have CS := log_Shares (.inr ⟨b, v2, rfl, hL3⟩) HOK.out (by rw [rows_len, ← HM.out]; omega) (by rw [outsR_zip]; have := HPL.out; omega)
  rw [outsR_zip] at CS
  obtain ⟨P, hP⟩ : ∃ P, P = outsT F := ⟨_, rfl⟩
  rw [← hP] at hp3 HPL HPW CS ⊢
  have HP := Lib.hid hP
  clear hP
  obtain ⟨N, hN⟩ : ∃ N, N = P.length := ⟨_, rfl⟩
  rw [← hN] at hp3 HPL ⊢
  have HN := Lib.hid hN
  clear hN
  go_wp2_with fail
  refine CS.mono ?_; rintro r w4 ⟨⟨v4, rfl, K, hK, hO4⟩, hx4⟩
  obtain ⟨A4, c4, rfl⟩ := ownK_sl hO4
  have hcap4 := ownK_cap hO4
  have hp4 := hp3.keep hx4
  have HL4 := Lib.hid (hL3.keep hx4)
  have HOK4 := Lib.hid (HOK.out.keep hx4)
  have hW4 := below_step hW3 hx4
  clear CS hx4 hp3 hL3 hW3 HOK
  have hN300 : N ≤ 300 := HPL.out
  have hcc1 := hp4.cap
  have hcs1 := hp4.small
  have hcell := fun (w' : World) (hx : Below w4.heap.size w4 w') (k : Nat) (hk : k < N) => host_at (hp4.keep hx) hk
  obtain ⟨E, hE⟩ : ∃ E, E = hostsOf P := ⟨_, rfl⟩
  rw [← hE] at hK hcell
  have HE := Lib.hid hE
  have HEL := Lib.hid (show E.length = N by rw [hE, HN.out]; unfold hostsOf; rw [List.length_map])
  clear hE
  have HK := Lib.hid hK
  have hKm : K.length ≤ 300 := by
    have h1 := keys_count hK
    have h2 := nB_le E E.length
    rw [HEL.out] at h1 h2
    omega
  have HO4 := Lib.hid hO4
  have HCELL := Lib.hid hcell
  clear hK hO4 hcell
  go_wp2_with fail
  go_loopg [6, 7, 8, 9, 10, 11, 12, 13, 14, 15, 16] N (fun gk s6 s7 s8 s9 s10 s11 s12 s13 s14 s15 s16 wr => ∃ i : Nat, s9 = .int .i64 i ∧ i ≤ N ∧ gk = N - i ∧ s6 = .int .i64 (nB E i : Nat) ∧ s7 = .int .i64 (msB E i : Nat) ∧ s8 = .int .i64 (mvB E i : Nat) ∧ Below w4.heap.size w4 wr)
  case atStart => exact ⟨0, by go_num, Nat.zero_le _, rfl, rfl, rfl, rfl, Below.refl _ _⟩
  case round =>
    obtain ⟨i, rfl, hi, rfl, rfl, rfl, rfl, hW⟩ := hrel
    by_cases him : i < N
    · have hii : (i : Int) < (N : Int) := by omega
      obtain ⟨x, hx⟩ : ∃ x, x = E.getD i 0 := ⟨_, rfl⟩
      obtain ⟨ai, rfl, d0, _⟩ := HCELL.out _ hW i him
      rw [← hx] at d0
      have HX := Lib.hid hx
      have HMV := Lib.hid (show mvB E (i + 1) = mvB E i + if 0 < i ∧ 0 ≤ E.getD (i - 1) 0 ∧ x ≠ E.getD (i - 1) 0 then 1 else 0 by rw [hx]; rfl)
      clear hx
      have hmv := mvB_le E i
      generalize mvB E i = mv at *
      go_upto_region 9 with (fail)
      go_cut [56] (fun q wx => q = .bool (decide (0 < i ∧ 0 ≤ E.getD (i - 1) 0 ∧ x ≠ E.getD (i - 1) 0)) ∧ Below w4.heap.size w4 wx)
      case first =>
        by_cases h0 : 0 < i
        · have e0 : decide ((0 : Int) < (i : Int)) = true := decide_eq_true (by omega)
          have e0n : decide (0 < i) = true := decide_eq_true h0
          have wm : IntKind.i64.wrap ((i : Int) - 1) = ((i - 1 : Nat) : Int) := by rw [IntKind.wrap_i64]; omega
          obtain ⟨al, el, dl, _⟩ := HCELL.out _ hW (i - 1) (by omega)
          obtain rfl : ai = al := by injection el
          have hil : ((i - 1 : Nat) : Int) < (N : Int) := by omega
          have hil0 : (0 : Int) ≤ ((i - 1 : Nat) : Int) := by omega
          clear el
          generalize E.getD (i - 1) 0 = pv at *
          obtain ⟨i1, hi1⟩ : ∃ i1, i1 = i - 1 := ⟨_, rfl⟩
          rw [← hi1] at wm dl hil hil0
          have U0 := cell_under d0
          have U1 := cell_under dl
          clear d0 dl hi1
          by_cases h1 : 0 ≤ pv
          · have e1 : decide (0 ≤ pv) = true := decide_eq_true h1
            by_cases h2 : x = pv
            · have e2 : (x != pv) = false := by simp [h2]
              have HD := Lib.hid (show decide (0 < i ∧ 0 ≤ pv ∧ x ≠ pv) = false from decide_eq_false (fun h => h.2.2 h2))
              generalize decide (0 < i ∧ 0 ≤ pv ∧ x ≠ pv) = D at *
              clear h0 h1 h2
              refine wp_region_quiet_under (by kernel_rfl) (by kernel_rfl) ?_
              repeat (go_big_quiet_step ((fail)))
              refine wpQuiet_nil ?_
              intro wu hw'
              obtain ⟨pq, hw''⟩ := hw'
              have hU := below_eq hw''
              clear hw'' pq
              have hb2 := below_step hW hU
              go_wp2_with fail
              go_meet
              exact ⟨by rw [HD.out], hb2⟩
            · have e2 : (x != pv) = true := by simp [h2]
              have HD := Lib.hid (show decide (0 < i ∧ 0 ≤ pv ∧ x ≠ pv) = true from decide_eq_true ⟨h0, h1, h2⟩)
              generalize decide (0 < i ∧ 0 ≤ pv ∧ x ≠ pv) = D at *
              clear h0 h1 h2
              refine wp_region_quiet_under (by kernel_rfl) (by kernel_rfl) ?_
              repeat (go_big_quiet_step ((fail)))
              refine wpQuiet_nil ?_
              intro wu hw'
              obtain ⟨pq, hw''⟩ := hw'
              have hU := below_eq hw''
              clear hw'' pq
              have hb2 := below_step hW hU
              go_wp2_with fail
              go_meet
              exact ⟨by rw [HD.out], hb2⟩
          · have e1 : decide (0 ≤ pv) = false := decide_eq_false h1
            have HD := Lib.hid (show decide (0 < i ∧ 0 ≤ pv ∧ x ≠ pv) = false from decide_eq_false (fun h => h1 h.2.1))
            generalize decide (0 < i ∧ 0 ≤ pv ∧ x ≠ pv) = D at *
            clear h0 h1
            refine wp_region_quiet_under (by kernel_rfl) (by kernel_rfl) ?_
            repeat (go_big_quiet_step ((fail)))
            refine wpQuiet_nil ?_
            intro wu hw'
            obtain ⟨pq, hw''⟩ := hw'
            have hU := below_eq hw''
            clear hw'' pq
            have hb2 := below_step hW hU
            go_wp2_with fail
            go_meet
            exact ⟨by rw [HD.out], hb2⟩
        · have e0 : decide ((0 : Int) < (i : Int)) = false := decide_eq_false (by omega)
          have e0n : decide (0 < i) = false := decide_eq_false h0
          have HD := Lib.hid (show decide (0 < i ∧ 0 ≤ E.getD (i - 1) 0 ∧ x ≠ E.getD (i - 1) 0) = false from decide_eq_false (fun h => h0 h.1))
          generalize decide (0 < i ∧ 0 ≤ E.getD (i - 1) 0 ∧ x ≠ E.getD (i - 1) 0) = D at *
          clear h0
          refine wp_region_quiet_under (by kernel_rfl) (by kernel_rfl) ?_
          repeat (go_big_quiet_step ((fail)))
          refine wpQuiet_nil ?_
          intro wu hw'
          obtain ⟨pq, hw''⟩ := hw'
          have hU := below_eq hw''
          clear hw'' pq
          have hb2 := below_step hW hU
          go_wp2_with fail
          go_meet
          exact ⟨by rw [HD.out], hb2⟩
      case rest =>
      obtain ⟨rfl, hW9⟩ := hcut
      have HMV2 := Lib.hid (show mvB E (i + 1) = mv + if decide (0 < i ∧ 0 ≤ E.getD (i - 1) 0 ∧ x ≠ E.getD (i - 1) 0) = true then 1 else 0 by rw [HMV.out]; simp only [decide_eq_true_eq])
      clear HMV hW d0
      generalize decide (0 < i ∧ 0 ≤ E.getD (i - 1) 0 ∧ x ≠ E.getD (i - 1) 0) = D at *
      go_upto_if 56 with (fail)
      go_cut [8] (fun q wx => wc = wx ∧ q = .int .i64 (mvB E (i + 1) : Nat))
      case first =>
        cases D with
        | true =>
          have HE2 := Lib.hid (show mvB E (i + 1) = mv + 1 from HMV2.out)
          generalize mvB E (i + 1) = mv2 at *
          go_wp2_with fail
          go_meet
          exact ⟨rfl, by rw [HE2.out]; go_num⟩
        | false =>
          have HE2 := Lib.hid (show mvB E (i + 1) = mv from HMV2.out)
          generalize mvB E (i + 1) = mv2 at *
          go_wp2_with fail
          go_meet
          exact ⟨rfl, by rw [HE2.out]⟩
      case rest =>
      obtain ⟨rfl, rfl⟩ := hcut
      clear HMV2 hmv
      obtain ⟨mv2, hmv2⟩ : ∃ q, q = mvB E (i + 1) := ⟨_, rfl⟩
      rw [← hmv2]
      have HMV3 := Lib.hid hmv2
      clear hmv2
      go_wp2_with fail
      obtain ⟨wo, rfl⟩ : ∃ wo, wo = wc := ⟨_, rfl⟩
      go_loopg [10, 11, 12, 13, 14, 15, 16] N (fun gk s10 s11 s12 s13 s14 s15 s16 wr => ∃ k : Nat, s14 = .int .i64 k ∧ k ≤ N ∧ gk = N - k ∧ s10 = .bool (fstB E x i k) ∧ s11 = .int .i64 (manyB E x k : Nat) ∧ s12 = .int .i64 (byB P x k : Nat) ∧ s13 = .int .i64 (atB E x k : Nat) ∧ Below w4.heap.size w4 wr)
      case atStart => exact ⟨0, by go_num, Nat.zero_le _, rfl, rfl, rfl, rfl, rfl, hW9⟩
      case round =>
        clear hW9
        obtain ⟨k, rfl, hkm1, rfl, rfl, rfl, rfl, rfl, hb⟩ := hrel
        by_cases hkm : k < N
        · have hkk : (k : Int) < (N : Int) := by omega
          obtain ⟨ak, ek, dk, dk1⟩ := HCELL.out _ hb k hkm
          obtain rfl : ai = ak := by injection ek
          obtain ⟨al, el, di, _⟩ := HCELL.out _ hb i him
          obtain rfl : ai = al := by injection el
          rw [← HX.out] at di
          obtain ⟨y, hy⟩ : ∃ y, y = E.getD k 0 := ⟨_, rfl⟩
          rw [← hy] at dk
          have HF1 := Lib.hid (show fstB E x i (k + 1) = if y = x then fstB E x i k && decide (i ≤ k) else fstB E x i k by rw [hy]; rfl)
          have HM1 := Lib.hid (show manyB E x (k + 1) = manyB E x k + if y = x then 1 else 0 by rw [hy]; rfl)
          have HA1 := Lib.hid (show atB E x (k + 1) = atB E x k + if frB E y k = true ∧ y < x then 1 else 0 by rw [hy]; rfl)
          have HB1 := Lib.hid (show byB P x (k + 1) = byB P x k + if y = x then (P.getD k outShape.z).n else 0 by rw [hy, HE.out]; rfl)
          have hml := manyB_le E x k
          have hal := atB_le E x k
          have hbl := byB_le HPW.out x (show k ≤ P.length by rw [← HN.out]; omega)
          have hbk : k * 140737488355328 ≤ 300 * 140737488355328 := Nat.mul_le_mul_right _ (by omega)
          have hbn : (P.getD k outShape.z).n ≤ 140737488355328 := HPW.out _ (by rw [List.getD_eq_getElem?_getD, List.getElem?_eq_getElem (show k < P.length by rw [← HN.out]; exact hkm)]; exact List.getElem_mem _)
          have HY := Lib.hid hy
          clear hy ek el
          have U0 := cell_under dk
          have U1 := cell_under di
          generalize manyB E x k = mk at *
          generalize fstB E x i k = fk at *
          generalize byB P x k = bk at *
          generalize atB E x k = ak at *
          generalize P.getD k outShape.z = Z at *
          obtain ⟨zh, za, zn, zc⟩ := Z
          dsimp only at dk1 HB1 hbn
          have wb : IntKind.i64.wrap ((bk : Int) + (zn : Int)) = (bk : Int) + (zn : Int) := by rw [IntKind.wrap_i64]; omega
          have HWB := Lib.hid wb
          clear wb hbl hbk
          go_upto_region 16 with (fail)
          refine wp_region_quiet_under (by kernel_rfl) (by kernel_rfl) ?_
          repeat (go_big_quiet_step ((fail)))
          refine wpQuiet_nil ?_
          intro wu hw'
          obtain ⟨pq, hw''⟩ := hw'
          have hU := below_eq hw''
          clear hw'' pq
          have hb2 := below_step hb hU
          have dk2 := cell_keep dk1 hU
          clear U0 U1 dk dk1 di hU hb
          go_upto_if 75 with (fail)
          go_cut [10, 11, 12] (fun p q t wx => wu = wx ∧ p = .bool (fstB E x i (k + 1)) ∧ q = .int .i64 (manyB E x (k + 1) : Nat) ∧ t = .int .i64 (byB P x (k + 1) : Nat))
          case first =>
            by_cases hyx : y = x
            · have e1 : (y == x) = true := by simp [hyx]
              have h1 := HF1.out
              have h2 := HM1.out
              have h3 := HB1.out
              rw [if_pos hyx] at h1 h2 h3
              have HH2 := Lib.hid h2
              have HH3 := Lib.hid h3
              have wb := HWB.out
              by_cases hik : i ≤ k
              · have e2 : decide ((i : Int) ≤ (k : Int)) = true := decide_eq_true (by omega)
                rw [decide_eq_true hik, Bool.and_true] at h1
                have HH1 := Lib.hid h1
                clear hyx h1 h2 h3 HF1 HM1 HB1
                cases fk <;> (go_wp2_with fail; go_meet; exact ⟨rfl, by rw [HH1.out], by rw [HH2.out]; go_num, by rw [HH3.out, Int.natCast_add]⟩)
              · have e2 : decide ((i : Int) ≤ (k : Int)) = false := decide_eq_false (by omega)
                rw [decide_eq_false hik, Bool.and_false] at h1
                have HH1 := Lib.hid h1
                clear hyx h1 h2 h3 HF1 HM1 HB1
                cases fk <;> (go_wp2_with fail; go_meet; exact ⟨rfl, by rw [HH1.out], by rw [HH2.out]; go_num, by rw [HH3.out, Int.natCast_add]⟩)
            · have e1 : (y == x) = false := by simp [hyx]
              have h1 := HF1.out
              have h2 := HM1.out
              have h3 := HB1.out
              rw [if_neg hyx] at h1 h2 h3
              have HH1 := Lib.hid h1
              have HH2 := Lib.hid h2
              have HH3 := Lib.hid h3
              clear hyx h1 h2 h3 HF1 HM1 HB1
              go_wp2_with fail
              go_meet
              exact ⟨rfl, by rw [HH1.out], by rw [HH2.out]; rfl, by rw [HH3.out]; rfl⟩
          case rest =>
          obtain ⟨rfl, rfl, rfl, rfl⟩ := hcut
          clear HF1 HM1 HB1 hml mk fk dk2 HWB
          go_wp2_with fail
          obtain ⟨wp, rfl⟩ : ∃ wp, wp = wu := ⟨_, rfl⟩
          go_loopg [15, 16] k (fun gk s15 s16 wr => ∃ j : Nat, s16 = .int .i64 j ∧ j ≤ k ∧ gk = k - j ∧ s15 = .bool (frB E y j) ∧ Below w4.heap.size w4 wr)
          case atStart => exact ⟨0, by go_num, Nat.zero_le _, rfl, rfl, hb2⟩
          case round =>
            clear hb2
            obtain ⟨j, rfl, hj, rfl, rfl, hb3⟩ := hrel
            by_cases hjk : j < k
            · have hjj : (j : Int) < (k : Int) := by omega
              have hjm : (j : Int) < (N : Int) := by omega
              obtain ⟨aj, ej, dj, _⟩ := HCELL.out _ hb3 j (by omega)
              obtain rfl : ai = aj := by injection ej
              obtain ⟨al, el, dk, _⟩ := HCELL.out _ hb3 k hkm
              obtain rfl : ai = al := by injection el
              rw [← HY.out] at dk
              have HF3 := Lib.hid (show frB E y (j + 1) = (frB E y j && (E.getD j 0 != y)) from rfl)
              generalize E.getD j 0 = z at *
              have U0 := cell_under dk
              have U1 := cell_under dj
              clear ej el dj dk
              go_upto_region 24 with (fail)
              cases hfj : frB E y j with
              | true =>
                rw [hfj, Bool.true_and] at HF3
                refine wp_region_quiet_under (by kernel_rfl) (by kernel_rfl) ?_
                repeat (go_big_quiet_step ((fail)))
                refine wpQuiet_nil ?_
                intro wu hw'
                obtain ⟨pq, hw''⟩ := hw'
                have hU := below_eq hw''
                clear hw'' pq
                have hb4 := below_step hb3 hU
                clear U0 U1 hU hb3 hfj
                go_wp2
                go_roundg (k - (j + 1))
                case measure => omega
                case rel => exact ⟨j + 1, by go_num, by omega, rfl, by rw [HF3.out], hb4⟩
              | false =>
                rw [hfj, Bool.false_and] at HF3
                refine wp_region_quiet_under (by kernel_rfl) (by kernel_rfl) ?_
                repeat (go_big_quiet_step ((fail)))
                refine wpQuiet_nil ?_
                intro wu hw'
                obtain ⟨pq, hw''⟩ := hw'
                have hU := below_eq hw''
                clear hw'' pq
                have hb4 := below_step hb3 hU
                clear U0 U1 hU hb3 hfj
                go_wp2
                go_roundg (k - (j + 1))
                case measure => omega
                case rel => exact ⟨j + 1, by go_num, by omega, rfl, by rw [HF3.out], hb4⟩
            · obtain rfl : j = k := by omega
              have hge : ¬ (j : Int) < (j : Int) := by omega
              obtain ⟨aj, ej, dj, _⟩ := HCELL.out _ hb3 j hkm
              obtain rfl : ai = aj := by injection ej
              obtain ⟨al, el, di, _⟩ := HCELL.out _ hb3 i him
              obtain rfl : ai = al := by injection el
              rw [← HY.out] at dj
              rw [← HX.out] at di
              have U0 := cell_under dj
              have U1 := cell_under di
              clear ej el dj di
              go_upto_region 25 with (fail)
              cases hfj : frB E y j with
              | true =>
                by_cases hyx : y < x
                · have e1 : decide (y < x) = true := decide_eq_true hyx
                  have HA2 := Lib.hid (show atB E x (j + 1) = ak + 1 by rw [HA1.out, if_pos ⟨hfj, hyx⟩])
                  clear HA1
                  refine wp_region_quiet_under (by kernel_rfl) (by kernel_rfl) ?_
                  repeat (go_big_quiet_step ((fail)))
                  refine wpQuiet_nil ?_
                  intro wu hw'
                  obtain ⟨pq, hw''⟩ := hw'
                  have hU := below_eq hw''
                  clear hw'' pq
                  have hb4 := below_step hb3 hU
                  clear U0 U1 hU hb3
                  go_wp2
                  go_roundg (N - (j + 1))
                  case measure => omega
                  case rel => exact ⟨j + 1, by go_num, by omega, rfl, rfl, rfl, rfl, by rw [HA2.out]; go_num, hb4⟩
                · have e1 : decide (y < x) = false := decide_eq_false hyx
                  have HA2 := Lib.hid (show atB E x (j + 1) = ak by rw [HA1.out, if_neg (fun h => hyx h.2), Nat.add_zero])
                  clear HA1
                  refine wp_region_quiet_under (by kernel_rfl) (by kernel_rfl) ?_
                  repeat (go_big_quiet_step ((fail)))
                  refine wpQuiet_nil ?_
                  intro wu hw'
                  obtain ⟨pq, hw''⟩ := hw'
                  have hU := below_eq hw''
                  clear hw'' pq
                  have hb4 := below_step hb3 hU
                  clear U0 U1 hU hb3
                  go_wp2
                  go_roundg (N - (j + 1))
                  case measure => omega
                  case rel => exact ⟨j + 1, by go_num, by omega, rfl, rfl, rfl, rfl, by rw [HA2.out], hb4⟩
              | false =>
                have HA2 := Lib.hid (show atB E x (j + 1) = ak by rw [HA1.out, if_neg (fun h => by rw [hfj] at h; cases h.1), Nat.add_zero])
                clear HA1
                refine wp_region_quiet_under (by kernel_rfl) (by kernel_rfl) ?_
                repeat (go_big_quiet_step ((fail)))
                refine wpQuiet_nil ?_
                intro wu hw'
                obtain ⟨pq, hw''⟩ := hw'
                have hU := below_eq hw''
                clear hw'' pq
                have hb4 := below_step hb3 hU
                clear U0 U1 hU hb3
                go_wp2
                go_roundg (N - (j + 1))
                case measure => omega
                case rel => exact ⟨j + 1, by go_num, by omega, rfl, rfl, rfl, rfl, by rw [HA2.out], hb4⟩
        · obtain rfl : k = N := by omega
          have hge : ¬ (k : Int) < (k : Int) := by omega
          have HFF := Lib.hid (show fstB E x i k = frB E x i by have h1 := fst_fr (E := E) (x := x) (i := i) (by rw [HEL.out]; omega); rw [HEL.out] at h1; exact h1)
          have HMM := Lib.hid (show manyB E x k = cntH P x by have h1 := manyB_eq E x (Nat.le_refl E.length); rw [HEL.out] at h1; rw [h1, ← HEL.out, List.take_length, cntH_eq, HE.out])
          have HBB := Lib.hid (show byB P x k = bytH P x by have h1 := byB_eq P x (Nat.le_refl P.length); rw [← HN.out] at h1; rw [h1, HN.out, List.take_length])
          have HXE := Lib.hid (show x ∈ E by
            rw [HX.out, List.getD_eq_getElem?_getD, List.getElem?_eq_getElem (by rw [HEL.out]; exact him)]; exact List.getElem_mem _)
          have HNB := Lib.hid (show nB E (i + 1) = nB E i + if frB E x i = true then 1 else 0 by rw [HX.out]; rfl)
          have HMS := Lib.hid (show msB E (i + 1) = max (msB E i) (manyB E x k) by rw [HMM.out, cntH_eq, ← HE.out, HX.out]; rfl)
          have hnb := nB_le E i
          have hms := msB_le E i
          rw [HEL.out] at hms
          have hml := manyB_le E x k
          obtain ⟨ht0, ht1⟩ := keys_at HK.out HXE.out
          rw [HEL.out] at ht0 ht1
          rw [← HFF.out] at HNB
          clear HFF
          generalize fstB E x i k = f0 at *
          generalize nB E i = nn at *
          generalize msB E i = ms at *
          obtain ⟨mk, hmk⟩ : ∃ q, q = manyB E x k := ⟨_, rfl⟩
          rw [← hmk] at HMM HMS hml ⊢
          clear hmk
          go_upto_if 129 with (fail)
          go_cut [7] (fun q wx => wr = wx ∧ q = .int .i64 (msB E (i + 1) : Nat))
          case first =>
            by_cases hmm : ms < mk
            · have hmi : (ms : Int) < (mk : Int) := by omega
              have HE2 := Lib.hid (show msB E (i + 1) = mk by rw [HMS.out]; omega)
              generalize msB E (i + 1) = ms2 at *
              clear hmm
              go_wp2_with fail
              go_meet
              exact ⟨rfl, by rw [HE2.out]⟩
            · have hmi : ¬ (ms : Int) < (mk : Int) := by omega
              have HE2 := Lib.hid (show msB E (i + 1) = ms by rw [HMS.out]; omega)
              generalize msB E (i + 1) = ms2 at *
              clear hmm
              go_wp2_with fail
              go_meet
              exact ⟨rfl, by rw [HE2.out]⟩
          case rest =>
          obtain ⟨rfl, rfl⟩ := hcut
          obtain ⟨ms2, hms2⟩ : ∃ q, q = msB E (i + 1) := ⟨_, rfl⟩
          rw [← hms2]
          have HMS2 := Lib.hid hms2
          clear hms2 HMS hms
          cases f0 with
          | false =>
            have HNB2 := Lib.hid (show nB E (i + 1) = nn from HNB.out)
            clear HNB
            go_wp2
            go_roundg (k - (i + 1))
            case measure => omega
            case rel => exact ⟨i + 1, by go_num, by omega, rfl, by rw [HNB2.out], by rw [HMS2.out], by rw [HMV3.out], hb⟩
          | true =>
            have HNB2 := Lib.hid (show nB E (i + 1) = nn + 1 from HNB.out)
            clear HNB
            obtain ⟨al, el, di, _⟩ := HCELL.out _ hb i him
            obtain rfl : ai = al := by injection el
            rw [← HX.out] at di
            have hown := ownK_keep HO4.out hb
            obtain ⟨ag, rfl, g0, g1, g2⟩ := readsSh hown ht0
            have hgd : (K.map (shOf P)).getD (atB E x k) shShape.z = shOf P x := by
              rw [List.getD_eq_getElem?_getD, List.getElem?_map, List.getElem?_eq_getElem ht0]
              rw [List.getD_eq_getElem?_getD, List.getElem?_eq_getElem ht0] at ht1
              simp only [Option.getD_some] at ht1
              rw [Option.map_some, Option.getD_some, ht1]
            rw [hgd] at g0 g1 g2
            have hati : ((atB E x k : Nat) : Int) < (K.length : Int) := by omega
            have e1 : decide ((K.length : Int) ≤ ((atB E x k : Nat) : Int)) = false := decide_eq_false (by omega)
            have e1n : decide (K.length ≤ atB E x k) = false := decide_eq_false (by omega)
            have e1m : (K.length ≤ atB E x k) = False := eq_false (by omega)
            have HSV := Lib.hid (show (!sameSh (shOf P x) ⟨x, (mk : Nat), (byB P x k : Nat)⟩) = false by rw [HMM.out, HBB.out]; exact congrArg (!·) (sameSh_self _))
            clear hgd ht1 hown el HBB
            generalize shOf P x = G at *
            generalize byB P x k = bk at *
            generalize atB E x k = tk at *
            obtain ⟨ga, gb, gc⟩ := G
            dsimp only at g0 g1 g2
            have U0 := cell_under di
            have U1 := cell_under g0
            have U2 := cell_under g1
            have U3 := cell_under g2
            clear di g0 g1 g2
            go_upto_region 31 with (fail)
            refine wp_region_quiet_under (by kernel_rfl) (by kernel_rfl) ?_
            repeat (go_big_quiet_step (fail))
            go_big_quiet_want
            refine quiet_neq_sh (a := ⟨ga, gb, gc⟩) (b := ⟨x, (mk : Int), (bk : Int)⟩) HSV.out rfl rfl rfl ?_
            simp only [Act.put, List.setIfInBounds_toArray, List.set_cons_zero, List.set_cons_succ]
            go_big_quiet_on
            repeat (go_big_quiet_step (fail))
            refine wpQuiet_nil ?_
            intro wv hw'
            obtain ⟨pq, hw''⟩ := hw'
            have hU := below_eq hw''
            have hb4 := below_step hb hU
            clear hw'' pq U0 U1 U2 U3 hU hb
            go_wp2
            go_roundg (k - (i + 1))
            case measure => omega
            case rel => exact ⟨i + 1, by go_num, by omega, rfl, by rw [HNB2.out]; go_num, by rw [HMS2.out], by rw [HMV3.out], hb4⟩
    · obtain rfl : i = N := by omega
      have hge : ¬ (i : Int) < (i : Int) := by omega
      have HNK := Lib.hid (show nB E i = K.length by have h1 := keys_count HK.out; rw [HEL.out] at h1; exact h1)
      have hms : msB E i ≤ 300 := by have h1 := msB_le E i; rw [HEL.out] at h1; omega
      have HMX := Lib.hid (show MaxOf (msB E i) P by have h1 := msB_max P; rw [← HN.out, ← HE.out] at h1; exact h1)
      have CM := log_Moves (HL4.out.keep hW) (HOK4.out.keep hW) (by rw [rows_len, ← HM.out]; omega) (by rw [outsR_zip, ← HP.out, ← HN.out]; omega)
      have hmv : (mvF (outsR (zipR (madeOps [] F.length) F))).1 = ((mvB E i : Nat) : Int) := by
        have h1 := mvB_eq (P := P) (Nat.le_refl P.length)
        rw [List.take_length, ← HN.out, ← HE.out] at h1
        rw [outsR_zip, ← HP.out, h1]
      rw [hmv] at CM
      have hW5 := below_step hW4 hW
      clear hmv
      generalize mvB E i = mv at *
      generalize msB E i = ms at *
      generalize nB E i = nn at *
      have g1 : ((nn : Nat) : Int) == (K.length : Int) := by rw [HNK.out]; simp
      go_upto_if 156 with (fail)
      go_cut [17] (fun q wx => wr = wx ∧ q = .int .i64 (skewOf ms i))
      case first =>
        by_cases h0 : 0 < i
        · have h0i : (0 : Int) < (i : Int) := by omega
          have wm : IntKind.i64.wrap ((ms : Int) * 1000) = (ms : Int) * 1000 := by rw [IntKind.wrap_i64]; omega
          have hq0 : 0 ≤ (ms : Int) * 1000 / (i : Int) := Int.ediv_nonneg (by omega) (by omega)
          have hq1 : (ms : Int) * 1000 / (i : Int) ≤ (ms : Int) * 1000 := Int.ediv_le_self _ (by omega)
          have hqt : Int.tdiv ((ms : Int) * 1000) (i : Int) = (ms : Int) * 1000 / (i : Int) := Int.tdiv_eq_ediv_of_nonneg (by omega)
          have HR := Lib.hid (show skewOf ms i = (ms : Int) * 1000 / (i : Int) by unfold skewOf; rw [if_neg (by omega)])
          generalize skewOf ms i = sk at *
          generalize (ms : Int) * 1000 / (i : Int) = qq at *
          have wq : IntKind.i64.wrap qq = qq := by rw [IntKind.wrap_i64]; omega
          go_wp2_with fail
          go_meet
          exact ⟨rfl, by rw [HR.out]⟩
        · have h0i : ¬ (0 : Int) < (i : Int) := by omega
          have HR := Lib.hid (show skewOf ms i = 0 by unfold skewOf; rw [if_pos (by omega)])
          generalize skewOf ms i = sk at *
          go_wp2_with fail
          go_meet
          exact ⟨rfl, by rw [HR.out]⟩
      case rest =>
      obtain ⟨rfl, rfl⟩ := hcut
      have g2 : (((mv : Nat) : Int) == (mv : Int)) = true := by simp
      have g3 : (skewOf ms i == skewOf ms i) = true := by simp
      obtain ⟨sk, hsk⟩ : ∃ q, q = skewOf ms i := ⟨_, rfl⟩
      rw [← hsk] at g3 ⊢
      have HSKK := Lib.hid hsk
      clear hsk
      go_wp2_with fail
      refine CM.mono ?_; rintro r w6 ⟨rfl, hx6⟩
      have hB6 := below_step hW hx6
      have hW6 := below_step hW5 hx6
      have CSK := log_Skew (.inr ⟨b, v2, rfl, HL4.out.keep hB6⟩) (HOK4.out.keep hB6) (by rw [rows_len, ← HM.out]; omega) (by rw [outsR_zip, ← HP.out, ← HN.out]; omega)
      rw [outsR_zip, ← HP.out, ← HN.out] at CSK
      clear CM hx6 hW5 hW
      go_wp2_with fail
      refine CSK.mono ?_; rintro r w7 ⟨⟨m7, hm7, rfl⟩, hx7⟩
      have h77 : skewOf m7 i = sk := by rw [HSKK.out, hm7.one HMX.out]
      rw [h77]
      have hW7 := below_step hW6 hx7
      clear CSK hx7 hW6 hB6 hm7 h77
      go_wp2_with fail
      refine (law41_awake _).mono ?_; rintro r w8 ⟨rfl, hx8⟩
      go_wp2
      go_ret
      exact ⟨rfl, below_step hW7 hx8⟩
end Go.Proofs.Ytcpfekhpbjkgeaa
end
