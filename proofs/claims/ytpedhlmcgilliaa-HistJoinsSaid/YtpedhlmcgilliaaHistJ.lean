/- Histograms that are joined: what they say; Clear. -/
import Derived.Test.YtpedhlmcgilliaaHistI
import Derived.Test.YtpedhlmcgilliaaQTail
set_option linter.unusedVariables false
namespace Go.Proofs.Ytpedhlmcgilliaa
open Go.RowKit
set_option maxHeartbeats 4000000
set_option maxRecDepth 100000
/-- A histogram at b that says what these numbers say. -/
def HS (w : World) (b : Nat) (l : List Int) : Prop := ∃ (cnt : Nat → Int) (hi lo least most : Int), HistIs w b cnt l.length hi lo least most ∧ Says cnt hi lo least most (srt l) ∧ (∀ k, 65 ≤ k → cnt k = 0)
theorem HS.keep {w w' : World} {b : Nat} {l : List Int} (h : HS w b l) (hx : Below w.heap.size w w') : HS w' b l := by
  obtain ⟨_, _, _, _, _, h, r⟩ := h; exact ⟨_, _, _, _, _, h.keep hx, r⟩
theorem HS.mod {w w' : World} {S : Nat → Prop} {b : Nat} {l : List Int} (h : HS w b l) (hx : Mod S w w') (hn : ¬ S b) : HS w' b l := by
  obtain ⟨_, _, _, _, _, h, r⟩ := h; exact ⟨_, _, _, _, _, h.mod hx hn, r⟩
theorem HS.lt {w : World} {b : Nat} {l : List Int} (h : HS w b l) : b < w.heap.size := by
  obtain ⟨_, _, _, _, _, h, r⟩ := h; exact h.lt
theorem HS.of_perm {w : World} {b : Nat} {l l' : List Int} (h : HS w b l) (hp : srt l = srt l') : HS w b l' := by
  obtain ⟨c, hi, lo, le, mo, h, r⟩ := h
  have hl : l.length = l'.length := by rw [← srt_len, ← srt_len l', hp]
  rw [hl] at h
  rw [hp] at r
  exact ⟨c, hi, lo, le, mo, h, r⟩
theorem srt_perm_eq {l l' : List Int} (h : l.Perm l') : srt l = srt l' := by
  have hp : (srt l).Perm (srt l') := (srt_perm l).trans (h.trans (srt_perm l').symm)
  exact hp.eq_of_pairwise (le := fun a b : Int => a ≤ b) (fun a b _ _ h1 h2 => Int.le_antisymm h1 h2) (srt_rising l) (srt_rising l')
theorem hcnt_srt' (l : List Int) (k : Nat) : hcnt (srt l) k (srt l).length = (l.countP (fun x => bl x == k) : Nat) := by
  rw [hcnt_all, srt_count]
theorem rise_le {s : List Int} (h : Rising s) {i j : Nat} (hij : i ≤ j) (hj : j < s.length) : s.getD i 0 ≤ s.getD j 0 := by
  rcases Nat.eq_or_lt_of_le hij with rfl | hlt
  · exact Int.le_refl _
  · have := List.pairwise_iff_getElem.1 h i j (by omega) hj hlt
    rw [List.getD_eq_getElem?_getD, List.getD_eq_getElem?_getD, List.getElem?_eq_getElem (by omega), List.getElem?_eq_getElem hj]
    exact this
theorem srt_low {l : List Int} {x : Int} (hx : x ∈ l) : (srt l).getD 0 0 ≤ x := by
  obtain ⟨i, hi, rfl⟩ := mem_getD ((srt_perm l).mem_iff.2 hx)
  exact rise_le (srt_rising l) (Nat.zero_le _) hi
theorem srt_high {l : List Int} {x : Int} (hx : x ∈ l) : x ≤ (srt l).getD (l.length - 1) 0 := by
  obtain ⟨i, hi, rfl⟩ := mem_getD ((srt_perm l).mem_iff.2 hx)
  rw [srt_len] at hi
  exact rise_le (srt_rising l) (by omega) (by rw [srt_len]; omega)
theorem srt_in {l : List Int} {i : Nat} (h : i < l.length) : (srt l).getD i 0 ∈ l := (srt_perm l).mem_iff.1 (getD_mem _ _ (by rw [srt_len]; exact h))
/-- What is said behind a join. -/
theorem says_join {ca cb : Nat → Int} {ah al bh bl' la ma lb mb : Int} {a b : List Int} (ha : Says ca ah al la ma (srt a)) (hb : Says cb bh bl' lb mb (srt b)) (hb0 : 0 < b.length) (hsz : ((a.length + b.length : Nat) : Int) < 4611686018427387904) :
    fits ah al bh bl' = true ∧ IsNum ah al ∧ IsNum bh bl' ∧ Says (fun k => ca k + cb k) (sHi ah al bh bl') (sLo al bl') (if a.length = 0 ∨ lb < la then lb else la) (max ma mb) (srt (a ++ b)) := by
  have hua : U64s a := fun v hv => ha.u64 v ((srt_perm a).mem_iff.2 hv)
  have hub : U64s b := fun v hv => hb.u64 v ((srt_perm b).mem_iff.2 hv)
  have huab : U64s (a ++ b) := fun v hv => by
    rcases List.mem_append.1 hv with h | h
    · exact hua v h
    · exact hub v h
  have na := sums_bd (srt a) ha.u64 (by rw [srt_len]; omega)
  have nb := sums_bd (srt b) hb.u64 (by rw [srt_len]; omega)
  have va := (sums_val (srt a) ha.u64 (by rw [srt_len]; omega)).1
  have vb := (sums_val (srt b) hb.u64 (by rw [srt_len]; omega)).1
  rw [← ha.sum] at na va
  rw [← hb.sum] at nb vb
  rw [srt_len] at na nb
  dsimp only at na nb va vb
  have hf : fits ah al bh bl' = true := by
    obtain ⟨⟨p0, p1, p2, p3⟩, p4⟩ := na
    obtain ⟨⟨q0, q1, q2, q3⟩, q4⟩ := nb
    unfold fits
    simp only [decide_eq_true_eq]
    omega
  refine ⟨hf, na.1, nb.1, huab.srt, srt_rising _, fun k hk => ?_, ?_, ?_, ?_⟩
  · have h1 := ha.cnt k hk
    have h2 := hb.cnt k hk
    rw [hcnt_srt'] at h1 h2
    rw [hcnt_srt', List.countP_append, h1, h2]
    omega
  · have hv := sums_val (srt (a ++ b)) huab.srt (by rw [srt_len, List.length_append]; omega)
    have e := s_V na.1 nb.1 hf
    have := V_inj (s_num ah al bh bl') hv.2 (by
      rw [e, va, vb, hv.1, srt_sum, srt_sum, srt_sum, List.sum_append])
    exact Prod.ext this.1 this.2
  · rw [ha.least, hb.least]
    refine (srt_first (a ++ b) _ ?_ ?_).symm
    · split
      · exact List.mem_append.2 (.inr (srt_in hb0))
      · exact List.mem_append.2 (.inl (srt_in (by omega)))
    · intro x hx
      rcases List.mem_append.1 hx with h | h
      · have := srt_low h
        have hl : 0 < a.length := List.length_pos_of_mem h
        split <;> omega
      · have := srt_low h
        split <;> omega
  · have e1 : (srt a).length = a.length := srt_len a
    have e2 : (srt b).length = b.length := srt_len b
    have m1 := ha.most
    have m2 := hb.most
    rw [e1] at m1
    rw [e2] at m2
    rw [srt_len, m1, m2]
    refine (srt_last (a ++ b) _ ?_ ?_).symm
    · rcases Int.le_total ((srt a).getD (a.length - 1) 0) ((srt b).getD (b.length - 1) 0) with h | h
      · rw [Int.max_eq_right h]
        exact List.mem_append.2 (.inr (srt_in (by omega)))
      · rw [Int.max_eq_left h]
        rcases Nat.eq_zero_or_pos a.length with h0 | h0
        · have hae := List.length_eq_zero_iff.1 h0
          subst hae
          have hb1 := hub _ (srt_in (l := b) (i := b.length - 1) (by omega))
          have e3 : (srt ([] : List Int)).getD (([] : List Int).length - 1) 0 = 0 := by simp [srt]
          rw [e3] at h ⊢
          have : (srt b).getD (b.length - 1) 0 = 0 := by omega
          rw [← this]
          exact List.mem_append.2 (.inr (srt_in (by omega)))
        · exact List.mem_append.2 (.inl (srt_in (by omega)))
    · intro x hx
      rcases List.mem_append.1 hx with h | h
      · have := srt_high h; omega
      · have := srt_high h; omega
theorem mod_setCells {S : Nat → Prop} {w w' : World} {b : Nat} (h : Mod S w w') (hb : S b ∨ w.heap.size ≤ b) : ∀ (vs : List Value) (o : Nat), Mod S w (w'.setCells b o vs)
  | vs, o => by
    induction vs generalizing w' o with
    | nil => exact h
    | cons v vs ih => exact ih (h.setCell (p := ⟨b, o, none⟩) hb v) (o + 1)
theorem sizeHist : (Try.prog.info? 80).map (·.size) = some 70 := by kernel_rfl
theorem Blk.setCells {w : World} {b : Nat} {T : TypeId} {cs : Array Value} (h : Blk w b T cs) (vs : List Value) (o : Nat) (hl : o + vs.length ≤ cs.size) :
    ∃ cs', Blk (w.setCells b o vs) b T cs' ∧ cs'.size = cs.size ∧ ∀ j, cs'[j]? = if o ≤ j ∧ j < o + vs.length then vs[j - o]? else cs[j]? := by
  induction vs generalizing w o cs with
  | nil => exact ⟨cs, h, rfl, fun j => by rw [if_neg (by rintro ⟨h1, h2⟩; simp at h2; omega)]⟩
  | cons v vs ih =>
    rw [List.length_cons] at hl
    obtain ⟨cs', h', hs', hc'⟩ := ih (h.set_ o v) (o + 1) (by simp; omega)
    refine ⟨cs', h', by rw [hs']; simp, fun j => ?_⟩
    rw [hc' j, setI (by omega), List.length_cons]
    by_cases h1 : j = o
    · subst h1
      rw [if_neg (by omega), if_pos rfl, if_pos (by omega)]; simp
    · by_cases h2 : o + 1 ≤ j ∧ j < o + 1 + vs.length
      · rw [if_pos h2, if_pos (by omega), show j - o = (j - (o + 1)) + 1 by omega, List.getElem?_cons_succ]
      · rw [if_neg h2, if_neg h1, if_neg (by omega)]
theorem hist_Clear (b : Nat) (l : List Int) (w : World) (h : HS w b l) : Calls Try.prog 37 #[.pointer (some ⟨b, 0, none⟩)] w fun e w' => e = .returned (.tuple #[]) ∧ HS w' b [] ∧ Mod (· = b) w w' := by
  obtain ⟨cnt, hi, lo, least, most, ⟨cs, hB, hs, _⟩, _⟩ := h
  have hthere : w.there b 0 70 := fun j hj => by
    rw [Nat.zero_add, hB.cell j, Array.getElem?_eq_getElem (by omega)]
    exact ⟨rfl, hB.free j⟩
  go_enter Try.func37, Try.ntmps37
  go_wp2_with (refine wpList_store_mid rfl _ _ _ rfl b 0 Try.zeroCells80 rfl rfl ?_ ?_ ?_ ?_)
  · rw [zeroHist]; simpa using hthere
  · rw [sizeHist, zeroHist, Array.size_replicate]
  · rw [zeroHist]; refine Array.all_eq_true_iff_forall_mem.2 fun v hv => ?_; rw [Array.mem_replicate] at hv; rw [hv.2]; rfl
  · obtain ⟨cs', hB', hs', hc'⟩ := hB.setCells Try.zeroCells80.toList 0 (by rw [zeroHist, hs]; simp)
    have hc : ∀ j, j < 70 → cs'[j]? = some (.int .u64 0) := fun j hj => by
      rw [hc' j, if_pos (by rw [zeroHist]; simp; omega), zeroHist, Nat.sub_zero, Array.getElem?_toList, Array.getElem?_replicate, if_pos hj]
    have hM : Mod (· = b) w (w.setCells b 0 Try.zeroCells80.toList) := mod_setCells (S := (· = b)) (Mod.refl _ _) (.inl rfl) _ _
    refine bodyPost_end (results_none rfl _ _ _) rfl ⟨rfl, ⟨fun _ => 0, 0, 0, 0, 0, ⟨cs', hB', by rw [hs', hs], fun k hk => hc k (by omega), hc 65 (by omega), hc 66 (by omega), hc 67 (by omega), hc 68 (by omega), hc 69 (by omega)⟩, ?_, fun _ _ => rfl⟩, hM⟩
    have := says_of [] (fun v hv => by cases hv) (by decide)
    simpa [hcnt, sums, hleast, hmost] using this
end Go.Proofs.Ytpedhlmcgilliaa
