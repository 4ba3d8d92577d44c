/- hist.Add. -/
import Derived.Test.YtpedhlmcgilliaaHistC
import Derived.Deep.DeepCutAuto
set_option linter.unusedVariables false
namespace Go.Proofs.Ytpedhlmcgilliaa
open Go.RowKit
set_option maxHeartbeats 2000000
set_option maxRecDepth 100000
theorem IsList.mod {w w' : World} {S : Nat → Prop} {K : IntKind} {A : Option Addr} {n c : Nat} {l : List Int} (h : IsList w K A n c l) (hx : Mod S w w') (hn : 0 < n → ∀ ad, A = some ad → ¬ S ad.block) : IsList w' K A n c l :=
  ⟨⟨h.reads.1, fun hnn => by
    obtain ⟨ad, e, hb, hc⟩ := h.reads.2 hnn
    have hs := hn hnn ad e
    exact ⟨ad, e, Nat.lt_of_lt_of_le hb hx.size, fun j u hu => (hx.cell (by rw [block_of_add]; exact hb) (by rw [block_of_add]; exact hs)).trans (hc j u hu)⟩⟩, h.len, h.cap, h.small, h.wf, h.reach⟩
theorem HistIs.drew {w : World} {b : Nat} {cnt : Nat → Int} {n hi lo least most : Int} (h : HistIs w b cnt n hi lo least most) : HistIs w.drew b cnt n hi lo least most := h.drewN 1
theorem hist_Add (b : Nat) (A : Option Addr) (n c : Nat) (l : List Int) (w : World) (hl : IsList w .u64 A n c l) (hA : 0 < n → ∀ ad, A = some ad → ¬ ad.block = b) (hH : HistIs w b (fun _ => 0) 0 0 0 0 0) :
    Calls Try.prog 32 #[.pointer (some ⟨b, 0, none⟩), .slice A n c] w fun e w' => e = .returned (.tuple #[]) ∧ HistIs w' b (fun k => hcnt l k n) n (sums l).1 (sums l).2 (hleast l n) (hmost l n) ∧ Mod (· = b) w w' := by
  have hn := hl.reach
  have hcap := hl.cap
  have hsm := hl.small
  have hlen := Lib.hid hl.len
  go_enter Try.func32, Try.ntmps32
  go_wp2
  go_loopg [11] n (fun gk s11 wr => ∃ m : Nat, m ≤ n ∧ gk = n - m ∧ s11 = .int .i64 m ∧ HistIs wr b (fun k => hcnt l k m) m (sums (l.take m)).1 (sums (l.take m)).2 (hleast l m) (hmost l m) ∧ Mod (· = b) w wr)
  case atStart => exact ⟨0, Nat.zero_le _, rfl, rfl, hH, Mod.refl _ _⟩
  case round =>
    clear hH
    obtain ⟨m, hm, rfl, rfl, hH, hM⟩ := hrel
    by_cases hlt : m < n
    · obtain ⟨ad, rfl, hbk, x0, xw⟩ := (hl.mod hM hA).get hlt
      have hmi : (m : Int) < (n : Int) := by omega
      obtain ⟨v0, v1⟩ := u64_of_wf xw
      have hv : l[m]? = some (l.getD m 0) := by rw [List.getD_eq_getElem?_getD, List.getElem?_eq_getElem (by rw [hlen.out]; exact hlt)]; rfl
      have HS := Lib.hid (sums_take l m _ hv)
      have HN := sums_bd (l.take m) (fun v hv => u64_of_wf (hl.wf v (List.mem_of_mem_take hv))) (by rw [List.length_take]; omega)
      have HF := Lib.hid (fits_small HN.1 (by have := HN.2; rw [List.length_take] at this; omega) v0 v1)
      have HN1 := Lib.hid HN.1
      have HL := Lib.hid (show hleast l (m + 1) = if m = 0 ∨ l.getD m 0 < hleast l m then l.getD m 0 else hleast l m from rfl)
      have HMo := Lib.hid (show hmost l (m + 1) = max (hmost l m) (l.getD m 0) from rfl)
      have HC := Lib.hid (fun k => show hcnt l k (m + 1) = hcnt l k m + if Lib.bitLen (l.getD m 0).toNat = k then 1 else 0 from rfl)
      obtain ⟨K, hK⟩ : ∃ K, K = Lib.bitLen (l.getD m 0).toNat := ⟨_, rfl⟩
      have hK64 : K ≤ 64 := by rw [hK]; exact bl_le _ (by omega)
      have B1 := fun w => hist_Bucket (l.getD m 0) v0 v1 w
      rw [← hK] at B1 HC
      have hcb := hcnt_bd l K m
      clear hv xw HN hK
      generalize l.getD m 0 = v at *
      generalize (sums (l.take m)).1 = sh at *
      generalize (sums (l.take m)).2 = sl at *
      generalize hleast l m = le at *
      generalize hmost l m = mo at *
      have ck := hH.cellAt (k := K) (by omega)
      have fk := hH.free K
      have hK65 : (K : Int) < 65 := by omega
      have kq : IntKind.u64.wrap (hcnt l K m + 1) = hcnt l K m + 1 := by rw [IntKind.wrap_u64]; omega
      go_wp2_with fail
      go_region_with (go_at_call 55; refine (B1 _).mono ?_; rintro e w' ⟨rfl, rfl⟩)
      all_goals
        have H1 := (hH.setCnt (k := K) (by omega) (hcnt l K m + 1)).drew
        have M1 := (hM.own K (.int .u64 (hcnt l K m + 1))).drew
        have hcf : (fun k => hcnt l k (m + 1)) = fun j => if j = K then hcnt l K m + 1 else hcnt l j m := funext fun k => by
          rw [HC.out]
          by_cases e : k = K
          · subst e; simp
          · rw [if_neg e, if_neg (fun h => e h.symm)]; omega
        have HCF := Lib.hid hcf
        clear hcf hH hM
        generalize (wr.setCell ⟨b, K, none⟩ (.int .u64 (hcnt l K m + 1))).drew = u1 at *
        obtain ⟨c65, c66, c67, c68, c69⟩ := H1.cells
        have f65 := H1.free 65
        have f68 := H1.free 68
        have f69 := H1.free 69
        have kn : IntKind.u64.wrap ((m : Int) + 1) = (m : Int) + 1 := by rw [IntKind.wrap_u64]; omega
        by_cases hm0 : m = 0
        · have hle : m = 0 ∨ v < le := .inl hm0
          have g1 : ((m : Int) == 0) = true := by rw [beq_iff_eq]; omega
          clear hm0
          clear hK65 kq ck fk x0
          go_wp2_with fail
          have H2 := ((H1.setLeast v).setMost (max mo v)).setN ((m : Int) + 1)
          have M2 := (((M1.own 68 (.int .u64 v))).own 69 (.int .u64 (max mo v))).own 65 (.int .u64 ((m : Int) + 1))
          have HLm := Lib.hid (show hleast l (m + 1) = v by rw [HL.out]; rw [if_pos hle])
          clear hle
          generalize ((u1.setCell ⟨b, 68, none⟩ (.int .u64 v)).setCell ⟨b, 69, none⟩ (.int .u64 (max mo v))).setCell ⟨b, 65, none⟩ (.int .u64 ((m : Int) + 1)) = u2 at *
          refine (wide_Add _ _ _ _ HN1.out ⟨by decide, by decide, v0, v1⟩ HF.out _).mono ?_; rintro e w5 ⟨rfl, hx⟩
          have H3 := H2.keep hx
          have M3 := M2.thenB hx
          obtain ⟨d65, d66, d67, d68, d69⟩ := H3.cells
          have g66 := H3.free 66
          have g67 := H3.free 67
          have H4 := (H3.setHi (sHi sh sl 0 v)).setLo (sLo sl v)
          have M4 := (M3.own 66 (.int .u64 (sHi sh sl 0 v))).own 67 (.int .u64 (sLo sl v))
          clear H1 H2 H3 M1 M2 M3 hx c65 c66 c67 c68 c69
          go_wp2
          go_roundg (n - (m + 1))
          case measure => omega
          case rel => exact ⟨m + 1, by omega, rfl, by go_num, by rw [HCF.out, HS.out, HLm.out, HMo.out]; exact H4, M4⟩
        · have g1 : ((m : Int) == 0) = false := by rw [beq_eq_false_iff_ne]; omega
          by_cases hvl : v < le
          · have hle : m = 0 ∨ v < le := .inr hvl
            have g2 : decide (v < le) = true := decide_eq_true hvl
            clear hm0 hvl
            clear hK65 kq ck fk x0
            go_wp2_with fail
            have H2 := ((H1.setLeast v).setMost (max mo v)).setN ((m : Int) + 1)
            have M2 := (((M1.own 68 (.int .u64 v))).own 69 (.int .u64 (max mo v))).own 65 (.int .u64 ((m : Int) + 1))
            have HLm := Lib.hid (show hleast l (m + 1) = v by rw [HL.out]; rw [if_pos hle])
            clear hle
            generalize ((u1.setCell ⟨b, 68, none⟩ (.int .u64 v)).setCell ⟨b, 69, none⟩ (.int .u64 (max mo v))).setCell ⟨b, 65, none⟩ (.int .u64 ((m : Int) + 1)) = u2 at *
            refine (wide_Add _ _ _ _ HN1.out ⟨by decide, by decide, v0, v1⟩ HF.out _).mono ?_; rintro e w5 ⟨rfl, hx⟩
            have H3 := H2.keep hx
            have M3 := M2.thenB hx
            obtain ⟨d65, d66, d67, d68, d69⟩ := H3.cells
            have g66 := H3.free 66
            have g67 := H3.free 67
            have H4 := (H3.setHi (sHi sh sl 0 v)).setLo (sLo sl v)
            have M4 := (M3.own 66 (.int .u64 (sHi sh sl 0 v))).own 67 (.int .u64 (sLo sl v))
            clear H1 H2 H3 M1 M2 M3 hx c65 c66 c67 c68 c69
            go_wp2
            go_roundg (n - (m + 1))
            case measure => omega
            case rel => exact ⟨m + 1, by omega, rfl, by go_num, by rw [HCF.out, HS.out, HLm.out, HMo.out]; exact H4, M4⟩
          · have hle : ¬ (m = 0 ∨ v < le) := by omega
            have g2 : decide (v < le) = false := decide_eq_false hvl
            clear hm0 hvl
            clear hK65 kq ck fk x0
            go_wp2_with fail
            have H2 := ((H1).setMost (max mo v)).setN ((m : Int) + 1)
            have M2 := ((M1).own 69 (.int .u64 (max mo v))).own 65 (.int .u64 ((m : Int) + 1))
            have HLm := Lib.hid (show hleast l (m + 1) = le by rw [HL.out]; rw [if_neg hle])
            clear hle
            generalize ((u1).setCell ⟨b, 69, none⟩ (.int .u64 (max mo v))).setCell ⟨b, 65, none⟩ (.int .u64 ((m : Int) + 1)) = u2 at *
            refine (wide_Add _ _ _ _ HN1.out ⟨by decide, by decide, v0, v1⟩ HF.out _).mono ?_; rintro e w5 ⟨rfl, hx⟩
            have H3 := H2.keep hx
            have M3 := M2.thenB hx
            obtain ⟨d65, d66, d67, d68, d69⟩ := H3.cells
            have g66 := H3.free 66
            have g67 := H3.free 67
            have H4 := (H3.setHi (sHi sh sl 0 v)).setLo (sLo sl v)
            have M4 := (M3.own 66 (.int .u64 (sHi sh sl 0 v))).own 67 (.int .u64 (sLo sl v))
            clear H1 H2 H3 M1 M2 M3 hx c65 c66 c67 c68 c69
            go_wp2
            go_roundg (n - (m + 1))
            case measure => omega
            case rel => exact ⟨m + 1, by omega, rfl, by go_num, by rw [HCF.out, HS.out, HLm.out, HMo.out]; exact H4, M4⟩
    · obtain rfl : m = n := by omega
      rw [List.take_of_length_le (by rw [hlen.out]; exact Nat.le_refl _)] at hH
      go_wp2
      first | (go_end0; exact ⟨rfl, hH, hM⟩) | (simp only [Exit.inBlock, Exit.then]; refine bodyPost_ret (results_none rfl _ _ _) rfl ⟨rfl, hH, hM⟩)
end Go.Proofs.Ytpedhlmcgilliaa
