/- Lemmas for the claim's proof: TraceE TraceF TraceG. -/
import Derived.Test.YtcpfekhpbjkgeaaT05
section
/- trace.All. -/
set_option linter.unusedVariables false
namespace Go.Proofs.Ytcpfekhpbjkgeaa
open Go.RowKit
set_option maxHeartbeats 8000000
set_option maxRecDepth 100000
/-- An op's cells. -/
structure OAt (w : World) (ad : Addr) (k : Nat) (x : OpV) : Prop where
  c0 : w.cell? (ad.add (k * 6)) = some (.int .i64 x.kind)
  c1 : w.cell? ⟨(ad.add (k * 6)).block, (ad.add (k * 6)).off + 1, none⟩ = some (.slice x.a x.n x.c)
  c2 : w.cell? ⟨(ad.add (k * 6)).block, (ad.add (k * 6)).off + 2, none⟩ = some (.string x.name)
  c3 : w.cell? ⟨(ad.add (k * 6)).block, (ad.add (k * 6)).off + 3, none⟩ = some (.int .i64 x.host)
  c4 : w.cell? ⟨(ad.add (k * 6)).block, (ad.add (k * 6)).off + 4, none⟩ = some (.int .i64 x.num)
  c5 : w.cell? ⟨(ad.add (k * 6)).block, (ad.add (k * 6)).off + 5, none⟩ = some (.bool x.up)
theorem IsRow.oat {w : World} {A : Option Addr} {n c : Nat} {l : List OpV} (h : IsRow opShape w A n c l) {k : Nat} (hk : k < n) : ∃ ad, A = some ad ∧ ad.block < w.heap.size ∧ OAt w ad k (l.getD k opShape.z) := by
  obtain ⟨ad, e, hb, hat⟩ := h.at_ hk
  have hat : ∀ j u, (opShape.cells (l.getD k opShape.z))[j]? = some u → w.cell? (ad.add (k * 6 + j)) = some u := hat
  refine ⟨ad, e, hb, hat 0 _ rfl, ?_, ?_, ?_, ?_, ?_⟩ <;> rw [← add_far _ _ _ (by omega)]
  · exact hat 1 _ rfl
  · exact hat 2 _ rfl
  · exact hat 3 _ rfl
  · exact hat 4 _ rfl
  · exact hat 5 _ rfl
def zipR (o : List OpV) (l : List TV) : List RV := List.zipWith RV.mk o l
theorem zipR_next {o : List OpV} {l : List TV} {i : Nat} (h1 : i < o.length) (h2 : i < l.length) : (zipR o l).take (i + 1) = (zipR o l).take i ++ [⟨o.getD i opShape.z, l.getD i tvShape.z⟩] := by
  have hl : i < (zipR o l).length := by unfold zipR; rw [List.length_zipWith]; omega
  rw [List.take_add_one, List.getElem?_eq_getElem hl]
  simp [zipR, List.getD_eq_getElem?_getD, List.getElem?_eq_getElem h1, List.getElem?_eq_getElem h2]
theorem log_All {w : World} {B b : Nat} {v : Value} {rows : List RV} (h : IsLog w B b v rows) (hB : B ≤ w.heap.size) {oA A : Option Addr} {on oc n c : Nat} {ol : List OpV} {l : List TV} (ho : IsRow opShape w oA on oc ol) (hl : IsRow tvShape w A n c l)
    (hno : ∀ ad, oA = some ad → 0 < on → ¬ lIn b v ad.block) (hnl : ∀ ad, A = some ad → 0 < n → ¬ lIn b v ad.block) (hr : rows.length ≤ 1000) (hn : n ≤ 1000) :
    Calls Try.prog 49 #[.pointer (some ⟨b, 0, none⟩), .slice oA on oc, .slice A n c] w fun e w' => e = .returned (.tuple #[]) ∧ LogTo w w' B b v (rows ++ zipR ol l) := by
  have hcc := hl.cap
  have hoc := ho.cap
  have hos := ho.small
  have HL1 := Lib.hid ho.len
  have HL2 := Lib.hid hl.len
  go_enter Try.func49, Try.ntmps49
  go_wp2_with fail
  go_loopg [6] n (fun gk s6 wr => ∃ (i : Nat) (v' : Value), s6 = .int .i64 i ∧ i ≤ n ∧ i ≤ on ∧ gk = n - i ∧ IsLog wr B b v' (rows ++ (zipR ol l).take i) ∧ Mod (lIn b v) w wr ∧ Hid (∀ g, lIn b v' g → lIn b v g ∨ w.heap.size ≤ g))
  case atStart => exact ⟨0, v, rfl, Nat.zero_le _, Nat.zero_le _, rfl, by rw [List.take_zero, List.append_nil]; exact h, Mod.refl _ _, Lib.hid (fun g hg => .inl hg)⟩
  case round =>
    obtain ⟨i, v', rfl, hi, hio, rfl, hL, hM, HIN⟩ := hrel
    by_cases hno1 : i < on
    · have hii : (i : Int) < (on : Int) := by omega
      have e1 : decide ((i : Int) < (on : Int)) = true := decide_eq_true hii
      by_cases hnn : i < n
      · have hij : (i : Int) < (n : Int) := by omega
        have e2 : decide ((i : Int) < (n : Int)) = true := decide_eq_true hij
        obtain ⟨ad, rfl, _, hT⟩ := (IsRow.modK hl hM hnl).tat hnn
        obtain ⟨ae, rfl, _, hO⟩ := (IsRow.modK ho hM hno).oat hno1
        have HT := Lib.hid (zipR_next (o := ol) (l := l) (i := i) (by rw [HL1.out]; exact hno1) (by rw [HL2.out]; exact hnn))
        obtain ⟨X, hX⟩ : ∃ X, X = l.getD i tvShape.z := ⟨_, rfl⟩
        obtain ⟨Y, hY⟩ : ∃ Y, Y = ol.getD i opShape.z := ⟨_, rfl⟩
        rw [← hX] at hT HT
        rw [← hY] at hO HT
        clear hX hY
        obtain ⟨xe, xa, xn, xc, xm, xo⟩ := X
        obtain ⟨yk, ya, yn, yc, ynm, yh, ym, yu⟩ := Y
        have U0 := cell_under hT.c0
        have U1 := cell_under hT.c1
        have U2 := cell_under hT.c2
        have V0 := cell_under hO.c0
        have V1 := cell_under hO.c1
        have V2 := cell_under hO.c2
        have V3 := cell_under hO.c3
        have V4 := cell_under hO.c4
        have V5 := cell_under hO.c5
        dsimp only at U0 U1 U2 V0 V1 V2 V3 V4 V5
        clear hT hO
        have hlen : (rows ++ (zipR ol l).take i).length < 1048576 := by rw [List.length_append, List.length_take]; omega
        have HBW := Lib.hid (Nat.le_trans hB hM.size)
        go_upto_region 3 with (fail)
        refine wp_region_under_tail 9 (by kernel_rfl) (by kernel_rfl) ?_
        simp only [List.take_succ_cons, List.take_zero, List.drop_succ_cons, List.drop_zero]
        repeat (go_big_quiet_step ((fail)))
        refine wpQuiet_nil ?_
        intro wu hw'
        obtain ⟨pq, hw''⟩ := hw'
        have hU := below_eq hw''
        clear hw'' pq
        have hL2 := hL.keep hU
        have CN := log_Note hL2 ⟨yk, ya, yn, yc, ynm, yh, ym, yu⟩ ⟨xe, xa, xn, xc, xm, xo⟩ hlen (Nat.le_trans HBW.out hU.size)
        have hM2 := hM.thenB hU
        clear U0 U1 U2 V0 V1 V2 V3 V4 V5 hL hM
        go_wp2_with fail
        refine CN.mono ?_; rintro e w2 ⟨rfl, v2, hL3, hM3, hI3⟩
        have hL4 : IsLog w2 B b v2 (rows ++ (zipR ol l).take (i + 1)) := by rw [HT.out, ← List.append_assoc]; exact hL3
        have HIN4 := Lib.hid (show ∀ g, lIn b v2 g → lIn b v g ∨ w.heap.size ≤ g from fun g hg => by
          rcases hI3 g hg with h1 | h1
          · exact HIN.out g h1
          · exact .inr (Nat.le_trans hM2.size h1))
        have hM4 : Mod (lIn b v) w w2 := ⟨hM3.os.trans hM2.os, hM3.tape.trans hM2.tape, hM3.output.trans hM2.output, Nat.le_trans hM2.size hM3.size, fun g hg hn => (hM3.block g (Nat.lt_of_lt_of_le hg hM2.size) (fun h1 => by
          rcases HIN.out g h1 with h2 | h2
          · exact hn h2
          · omega)).trans (hM2.block g hg hn)⟩
        clear CN hL3 hM3 hI3 hM2 hL2 HIN HT
        go_wp2
        go_roundg (n - (i + 1))
        case measure => omega
        case rel => exact ⟨i + 1, v2, by go_num, by omega, by omega, rfl, hL4, hM4, HIN4⟩
      · obtain rfl : i = n := by omega
        have e2 : decide ((i : Int) < (i : Int)) = false := decide_eq_false (by omega)
        have HE := Lib.hid (show IsLog wr B b v' (rows ++ zipR ol l) by rw [List.take_of_length_le (by unfold zipR; rw [List.length_zipWith, HL1.out, HL2.out]; omega)] at hL; exact hL)
        have HMM := Lib.hid hM
        clear hL hM
        go_wp2
        go_end0
        exact ⟨rfl, v', HE.out, HMM.out, HIN.out⟩
    · obtain rfl : i = on := by omega
      have e1 : decide ((i : Int) < (i : Int)) = false := decide_eq_false (by omega)
      have HE := Lib.hid (show IsLog wr B b v' (rows ++ zipR ol l) by rw [List.take_of_length_le (by unfold zipR; rw [List.length_zipWith, HL1.out, HL2.out]; omega)] at hL; exact hL)
      have HMM := Lib.hid hM
      clear hL hM
      go_wp2
      go_end0
      exact ⟨rfl, v', HE.out, HMM.out, HIN.out⟩
theorem log_AllNil {w : World} {oA A : Option Addr} {on oc n c : Nat} {ol : List OpV} {l : List TV} (ho : IsRow opShape w oA on oc ol) (hl : IsRow tvShape w A n c l) :
    Calls Try.prog 49 #[.pointer none, .slice oA on oc, .slice A n c] w fun e w' => e = .returned (.tuple #[]) ∧ Below w.heap.size w w' := by
  have hcc := hl.cap
  have hcs := hl.small
  have hoc := ho.cap
  have hos := ho.small
  go_enter Try.func49, Try.ntmps49
  go_wp2_with fail
  go_loopg [6] n (fun gk s6 wr => ∃ (i : Nat), s6 = .int .i64 i ∧ i ≤ n ∧ i ≤ on ∧ gk = n - i ∧ Below w.heap.size w wr)
  case atStart => exact ⟨0, rfl, Nat.zero_le _, Nat.zero_le _, rfl, Below.refl _ _⟩
  case round =>
    obtain ⟨i, rfl, hi, hio, rfl, hW⟩ := hrel
    by_cases hno1 : i < on
    · have hii : (i : Int) < (on : Int) := by omega
      have e1 : decide ((i : Int) < (on : Int)) = true := decide_eq_true hii
      by_cases hnn : i < n
      · have hij : (i : Int) < (n : Int) := by omega
        have e2 : decide ((i : Int) < (n : Int)) = true := decide_eq_true hij
        obtain ⟨ad, rfl, _, hT⟩ := (hl.keep hW).tat hnn
        obtain ⟨ae, rfl, _, hO⟩ := (ho.keep hW).oat hno1
        have U0 := cell_under hT.c0
        have U1 := cell_under hT.c1
        have U2 := cell_under hT.c2
        have V0 := cell_under hO.c0
        have V1 := cell_under hO.c1
        have V2 := cell_under hO.c2
        have V3 := cell_under hO.c3
        have V4 := cell_under hO.c4
        have V5 := cell_under hO.c5
        clear hT hO
        generalize l.getD i tvShape.z = X at *
        generalize ol.getD i opShape.z = Y at *
        go_upto_region 3 with (fail)
        refine wp_region_under_tail 9 (by kernel_rfl) (by kernel_rfl) ?_
        simp only [List.take_succ_cons, List.take_zero, List.drop_succ_cons, List.drop_zero]
        repeat (go_big_quiet_step ((fail)))
        refine wpQuiet_nil ?_
        intro wu hw'
        obtain ⟨pq, hw''⟩ := hw'
        have hU := below_eq hw''
        clear hw'' pq
        have CN := fun o t => log_NoteNil wu o t
        have hW2 := below_step hW hU
        clear U0 U1 U2 V0 V1 V2 V3 V4 V5
        go_wp2_with fail
        refine (CN _ _).mono ?_; rintro e w2 ⟨rfl, hx2⟩
        have hW3 := below_step hW2 hx2
        clear CN hW2 hx2
        go_wp2
        go_roundg (n - (i + 1))
        case measure => omega
        case rel => exact ⟨i + 1, by go_num, by omega, by omega, rfl, hW3⟩
      · obtain rfl : i = n := by omega
        have e2 : decide ((i : Int) < (i : Int)) = false := decide_eq_false (by omega)
        go_wp2
        go_end0
        exact ⟨rfl, hW⟩
    · obtain rfl : i = on := by omega
      have e1 : decide ((i : Int) < (i : Int)) = false := decide_eq_false (by omega)
      go_wp2
      go_end0
      exact ⟨rfl, hW⟩
end Go.Proofs.Ytcpfekhpbjkgeaa
end
section
/- The laws' made. -/
set_option linter.unusedVariables false
namespace Go.Proofs.Ytcpfekhpbjkgeaa
open Go.RowKit
set_option maxHeartbeats 8000000
set_option maxRecDepth 100000
def opK (k : Int) : OpV := ⟨k, none, 0, 0, ByteArray.empty, 0, 0, false⟩
def madeOps (kl : List Int) (n : Nat) : List OpV := (List.range n).map fun i => opK (kl.getD i 0)
theorem madeOps_next (kl : List Int) (n : Nat) : madeOps kl (n + 1) = madeOps kl n ++ [opK (kl.getD n 0)] := by
  unfold madeOps; rw [List.range_succ, List.map_append]; rfl
theorem madeOps_len (kl : List Int) (n : Nat) : (madeOps kl n).length = n := by unfold madeOps; simp
theorem listK_at {w : World} {A : Option Addr} {n c : Nat} {l : List Int} (h : IsList w .i64 A n c l) {k : Nat} (hk : k < n) : ∃ ad, A = some ad ∧ ad.block < w.heap.size ∧ w.cell? (ad.add k) = some (.int .i64 (l.getD k 0)) ∧ I64 (l.getD k 0) := by
  obtain ⟨ad, e, hb, hc⟩ := h.reads.2 (by omega)
  have e2 : l[k]? = some (l.getD k 0) := by rw [List.getD_eq_getElem?_getD, List.getElem?_eq_getElem (by rw [h.len]; exact hk)]; rfl
  exact ⟨ad, e, hb, hc k _ (by rw [List.getElem?_map, e2]; rfl), i64_of_wf (h.wf _ (List.mem_of_getElem? e2))⟩
theorem law41_made {w : World} {A kA : Option Addr} {n c kn kc : Nat} {l : List TV} {kl : List Int} (h : IsRow tvShape w A n c l) (hk : IsList w .i64 kA kn kc kl) (hn : n ≤ 30) :
    Calls Try.prog 39 #[.slice A n c, .slice kA kn kc] w fun e w' => e = .returned (.pointer (some ⟨w.heap.size, 0, none⟩)) ∧ (∃ v, IsLog w' w.heap.size w.heap.size v (zipR (madeOps kl n) l)) ∧ Below w.heap.size w w' := by
  obtain ⟨iI, hiI, hzI, hzI1, hzI2⟩ := info_parts Try.infoOp
  have hcc := h.cap
  have hcs := h.small
  have hkc := hk.cap
  have hks := hk.small
  have HKL := Lib.hid hk.len
  have HI64 := Lib.hid (show ∀ j, I64 (kl.getD j 0) from fun j => by
    rcases Nat.lt_or_ge j kl.length with h1 | h1
    · rw [List.getD_eq_getElem?_getD, List.getElem?_eq_getElem h1]
      exact i64_of_wf (hk.wf _ (List.getElem_mem h1))
    · rw [List.getD_eq_getElem?_getD, List.getElem?_eq_none h1]; unfold I64; decide)
  go_enter Try.func39, Try.ntmps39
  go_upto_region 2 with (fail)
  have hA := (Below.refl w.heap.size w).alloc (Nat.le_refl _) (.cells #[.slice none 0 0] 113)
  have PB := Blk.new w 113 #[.slice none 0 0]
  obtain ⟨b, hb⟩ : ∃ b, b = w.heap.size := ⟨_, rfl⟩
  rw [← hb] at PB ⊢
  have HB := Lib.hid hb
  clear hb
  generalize w.alloc (.cells #[.slice none 0 0] 113) = u at *
  go_wp2_with fail
  go_loopg [6, 7, 8] n (fun gk s6 s7 s8 wr => ∃ (i : Nat) (out : List OpV), s7 = .int .i64 i ∧ i ≤ n ∧ gk = n - i ∧ Hid (out = madeOps kl i) ∧ Hid (out.length = i) ∧ wr.ownsRow w.heap.size 109 6 s6 i (opShape.flat out) ∧ Blk wr b 113 #[.slice none 0 0] ∧ Below w.heap.size w wr)
  case atStart => exact ⟨0, [], rfl, Nat.zero_le _, rfl, Lib.hid rfl, Lib.hid rfl, World.ownsRow_nil _ _ _ 6, PB, hA⟩
  case round =>
    clear PB hA
    obtain ⟨i, out, rfl, hi, rfl, HO, hol, hO, hP, hW⟩ := hrel
    obtain ⟨Ao, co, rfl⟩ := ownK_sl hO
    by_cases hin : i < n
    · have hii : (i : Int) < (n : Int) := by omega
      by_cases hik : i < kn
      · have hij : (i : Int) < (kn : Int) := by omega
        obtain ⟨ak, rfl, _, d0, _⟩ := listK_at (hk.keep hW) hik
        have HKK := Lib.hid (rfl : kl.getD i 0 = kl.getD i 0)
        obtain ⟨K0, hK0⟩ : ∃ K0, K0 = kl.getD i 0 := ⟨_, rfl⟩
        rw [← hK0] at d0
        have HK0 := Lib.hid hK0
        clear hK0 HKK
        go_upto_region 9 with (fail)
        have HN := Lib.hid (show out ++ [opK K0] = madeOps kl (i + 1) by rw [madeOps_next, ← HK0.out, HO.out])
        have hws := hW.size
        go_wp2_with (at_builtin; go_loud (refine wpList_append_any _ rfl (.tmp 25) (.tmp 28) _ rfl w.heap.size 109 iI _ 6 72 Try.underlying106 hiI hzI hzI1 hzI2 rfl (by decide) _ i (opShape.flat out) rfl (hO.alloc _) _ (some ⟨wr.heap.size, 0, none⟩) 1 1 [.int .i64 K0, .slice none 0 0, .string ByteArray.empty, .int .i64 0, .int .i64 0, .bool false] rfl (readsK_new wr 109 6 [.int .i64 K0, .slice none 0 0, .string ByteArray.empty, .int .i64 0, .int .i64 0, .bool false] rfl) (by intro u hu; simp at hu; rcases hu with rfl | rfl | rfl | rfl | rfl | rfl <;> rfl) (by simp only [maxLen]; omega) (by omega) (by simp; omega) ?_; intro v6 w6 hown6 hg6 hat6))
        have hown7 : w6.ownsRow w.heap.size 109 6 v6 (i + 1) (opShape.flat (out ++ [opK K0])) := by rw [opShape.flat_snoc]; exact hown6
        have hP6 := (hP.alloc (.cells #[.int .i64 K0, .slice none 0 0, .string ByteArray.empty, .int .i64 0, .int .i64 0, .bool false] 109)).grown hg6 (fun e => rowK_not hP hO (by decide) e.symm)
        have hW6 := belowK_grown (hW.alloc hws (.cells #[.int .i64 K0, .slice none 0 0, .string ByteArray.empty, .int .i64 0, .int .i64 0, .bool false] 109)) (by simp; omega) hg6 (fun g hg => (hO.lt g hg).1)
        have HL6 := Lib.hid (show (out ++ [opK K0]).length = i + 1 by rw [List.length_append, hol.out]; rfl)
        clear hown6 hg6 hat6 hO hW hP HO hol
        go_wp2
        go_roundg (n - (i + 1))
        case measure => omega
        case rel => exact ⟨i + 1, out ++ [opK K0], by go_num, by omega, rfl, HN, HL6, hown7, hP6, hW6⟩
      · have hij : ¬ (i : Int) < (kn : Int) := by omega
        have HK0 := Lib.hid (show (0 : Int) = kl.getD i 0 by rw [List.getD_eq_getElem?_getD, List.getElem?_eq_none (by rw [HKL.out]; omega)]; rfl)
        go_upto_region 9 with (fail)
        have HN := Lib.hid (show out ++ [opK 0] = madeOps kl (i + 1) by rw [madeOps_next, ← HK0.out, HO.out])
        have hws := hW.size
        go_wp2_with (at_builtin; go_loud (refine wpList_append_any _ rfl (.tmp 25) (.tmp 28) _ rfl w.heap.size 109 iI _ 6 72 Try.underlying106 hiI hzI hzI1 hzI2 rfl (by decide) _ i (opShape.flat out) rfl (hO.alloc _) _ (some ⟨wr.heap.size, 0, none⟩) 1 1 [.int .i64 0, .slice none 0 0, .string ByteArray.empty, .int .i64 0, .int .i64 0, .bool false] rfl (readsK_new wr 109 6 [.int .i64 0, .slice none 0 0, .string ByteArray.empty, .int .i64 0, .int .i64 0, .bool false] rfl) (by intro u hu; simp at hu; rcases hu with rfl | rfl | rfl | rfl | rfl | rfl <;> rfl) (by simp only [maxLen]; omega) (by omega) (by simp; omega) ?_; intro v6 w6 hown6 hg6 hat6))
        have hown7 : w6.ownsRow w.heap.size 109 6 v6 (i + 1) (opShape.flat (out ++ [opK 0])) := by rw [opShape.flat_snoc]; exact hown6
        have hP6 := (hP.alloc (.cells #[.int .i64 0, .slice none 0 0, .string ByteArray.empty, .int .i64 0, .int .i64 0, .bool false] 109)).grown hg6 (fun e => rowK_not hP hO (by decide) e.symm)
        have hW6 := belowK_grown (hW.alloc hws (.cells #[.int .i64 0, .slice none 0 0, .string ByteArray.empty, .int .i64 0, .int .i64 0, .bool false] 109)) (by simp; omega) hg6 (fun g hg => (hO.lt g hg).1)
        have HL6 := Lib.hid (show (out ++ [opK 0]).length = i + 1 by rw [List.length_append, hol.out]; rfl)
        clear hown6 hg6 hat6 hO hW hP HO hol
        go_wp2
        go_roundg (n - (i + 1))
        case measure => omega
        case rel => exact ⟨i + 1, out ++ [opK 0], by go_num, by omega, rfl, HN, HL6, hown7, hP6, hW6⟩
    · obtain rfl : i = n := by omega
      have hge : ¬ (i : Int) < (i : Int) := by omega
      have hL : IsLog wr w.heap.size b (.slice none 0 0) [] := ⟨hP, by rw [HB.out]; exact Nat.le_refl _, World.ownsRow_nil _ _ _ 9⟩
      have hor : IsRow opShape wr Ao i co out := ownK_row hO (fun x hx => by
        rw [HO.out] at hx
        obtain ⟨j, _, rfl⟩ := List.mem_map.1 hx
        show I64 (kl.getD j 0)
        exact HI64.out j) (by omega)
      have CA := log_All hL hW.size hor (h.keep hW) (fun ad e _ hh => by
        rcases hh with h1 | h1
        · exact rowK_not hP hO (by decide) (by rw [e, ← h1]; rfl)
        · cases h1) (fun ad e h0 hh => by
        rcases hh with h1 | h1
        · obtain ⟨ad', e', hb', _⟩ := h.reads.2 h0
          rw [e] at e'; cases e'
          have := HB.out; omega
        · cases h1) (by simp) (by omega)
      have HR := Lib.hid (show out = madeOps kl i from HO.out)
      clear hO hor HO
      go_wp2_with fail
      refine CA.mono ?_; rintro e w2 ⟨rfl, v2, hL2, hM2, _⟩
      have hW2 := hW.trans (hL.below (Nat.le_refl _) hM2)
      have HF := Lib.hid (show IsLog w2 w.heap.size w.heap.size v2 (zipR (madeOps kl i) l) by rw [List.nil_append, HR.out] at hL2; exact HB.out ▸ hL2)
      clear CA hL hL2 hM2 hW hP
      go_wp2
      go_ret
      exact ⟨by rw [HB.out]; rfl, ⟨v2, HF.out⟩, hW2⟩
end Go.Proofs.Ytcpfekhpbjkgeaa
end
section
/- trace.Moves. -/
set_option linter.unusedVariables false
namespace Go.Proofs.Ytcpfekhpbjkgeaa
open Go.RowKit
set_option maxHeartbeats 8000000
set_option maxRecDepth 100000
def RowsOk (w : World) (rows : List RV) : Prop := ∀ r ∈ rows, IsOuts w r.told
theorem RowsOk.keep {w w' : World} {rows : List RV} (h : RowsOk w rows) (hx : Below w.heap.size w w') : RowsOk w' rows := fun r hr => (h r hr).keep hx
def outsR (rows : List RV) : List OutV := rows.flatMap (·.told.outs)
theorem readsK_at {α : Type} {C : Shape α} {w : World} {B n : Nat} {A : Option Addr} {l : List α} (h : Reads w B C.size A n (C.flat l)) (hl : l.length = n) {k : Nat} (hk : k < n) :
    ∃ ad, A = some ad ∧ ∀ j u, (C.cells (l.getD k C.z))[j]? = some u → w.cell? (ad.add (k * C.size + j)) = some u := by
  obtain ⟨ad, e, hb, hc⟩ := h.2 (by omega)
  have e2 : l[k]? = some (l.getD k C.z) := by rw [List.getD_eq_getElem?_getD, List.getElem?_eq_getElem (by omega)]; rfl
  refine ⟨ad, e, fun j u hu => hc _ u ?_⟩
  have hj : j < C.size := by
    rw [← C.len (l.getD k C.z)]
    rcases Nat.lt_or_ge j (C.cells (l.getD k C.z)).length with h1 | h1
    · exact h1
    · rw [List.getElem?_eq_none h1] at hu; cases hu
  rw [C.flat_at _ _ _ hj, e2]
  exact hu
/-- A row's cells: its op's kind, its error, its packets. -/
structure RAt (w : World) (ad : Addr) (k : Nat) (x : RV) : Prop where
  kind : w.cell? (ad.add (k * 9)) = some (.int .i64 x.op.kind)
  err : w.cell? ⟨(ad.add (k * 9)).block, (ad.add (k * 9)).off + 6, none⟩ = some (.int .i64 x.told.err)
  outs : w.cell? ⟨(ad.add (k * 9)).block, (ad.add (k * 9)).off + 7, none⟩ = some (.slice x.told.a x.told.n x.told.c)
theorem log_at {w : World} {B b c : Nat} {A : Option Addr} {rows : List RV} (h : IsLog w B b (.slice A rows.length c) rows) {k : Nat} (hk : k < rows.length) : ∃ ad, A = some ad ∧ RAt w ad k (rows.getD k rvShape.z) := by
  obtain ⟨ad, e, hat⟩ := readsK_at (C := rvShape) (ownK_reads h.own) rfl hk
  have hat : ∀ j u, (rvShape.cells (rows.getD k rvShape.z))[j]? = some u → w.cell? (ad.add (k * 9 + j)) = some u := hat
  refine ⟨ad, e, hat 0 _ rfl, ?_, ?_⟩ <;> rw [← add_far _ _ _ (by omega)]
  · exact hat 6 _ rfl
  · exact hat 7 _ rfl
/-- A packet's cells. -/
theorem IsRow.outat {w : World} {A : Option Addr} {n c : Nat} {l : List OutV} (h : IsRow outShape w A n c l) {k : Nat} (hk : k < n) : ∃ ad, A = some ad ∧ ad.block < w.heap.size ∧ w.cell? (ad.add (k * 2)) = some (.int .i64 (l.getD k outShape.z).host) ∧
    w.cell? ⟨(ad.add (k * 2)).block, (ad.add (k * 2)).off + 1, none⟩ = some (.slice (l.getD k outShape.z).a (l.getD k outShape.z).n (l.getD k outShape.z).c) := by
  obtain ⟨ad, e, hb, hat⟩ := h.at_ hk
  have hat : ∀ j u, (outShape.cells (l.getD k outShape.z))[j]? = some u → w.cell? (ad.add (k * 2 + j)) = some u := hat
  refine ⟨ad, e, hb, hat 0 _ rfl, ?_⟩
  rw [← add_far _ _ _ (by omega)]
  exact hat 1 _ rfl
/-! How often a packet to one host comes right behind one to another one. -/
def mvS (p : Int × Int) (o : OutV) : Int × Int := (if 0 ≤ p.2 ∧ o.host ≠ p.2 then p.1 + 1 else p.1, o.host)
def mvF (l : List OutV) : Int × Int := l.foldl mvS (0, -1)
theorem mvF_snoc (l : List OutV) (o : OutV) : mvF (l ++ [o]) = mvS (mvF l) o := by unfold mvF; rw [List.foldl_append]; rfl
theorem mvF_bd (l : List OutV) : 0 ≤ (mvF l).1 ∧ (mvF l).1 ≤ l.length := by
  have : ∀ (l : List OutV) (p : Int × Int), p.1 ≤ (l.foldl mvS p).1 ∧ (l.foldl mvS p).1 ≤ p.1 + l.length := by
    intro l
    induction l with
    | nil => intro p; simp
    | cons o l ih =>
      intro p
      have h1 := ih (mvS p o)
      rw [List.foldl_cons, List.length_cons]
      have h2 : p.1 ≤ (mvS p o).1 ∧ (mvS p o).1 ≤ p.1 + 1 := by unfold mvS; dsimp only; split <;> omega
      omega
  have h := this l (0, -1)
  unfold mvF
  dsimp only at h
  omega
theorem outsR_next {rows : List RV} {i : Nat} (h : i < rows.length) : outsR (rows.take (i + 1)) = outsR (rows.take i) ++ (rows.getD i rvShape.z).told.outs := by
  rw [takeK_next (z := rvShape.z) h]; unfold outsR; rw [List.flatMap_append, List.flatMap_singleton]
theorem outsR_le {rows : List RV} (i : Nat) : (outsR (rows.take i)).length ≤ (outsR rows).length := by
  have : outsR rows = outsR (rows.take i) ++ outsR (rows.drop i) := by
    conv => lhs; rw [← List.take_append_drop i rows]
    unfold outsR; rw [List.flatMap_append]
  rw [this, List.length_append]; omega
theorem log_Moves {w : World} {B b : Nat} {v : Value} {rows : List RV} (h : IsLog w B b v rows) (hr : RowsOk w rows) (hn : rows.length ≤ 1000) (hm : (outsR rows).length ≤ 1000000) :
    Calls Try.prog 42 #[.pointer (some ⟨b, 0, none⟩)] w fun e w' => e = .returned (.int .i64 (mvF (outsR rows)).1) ∧ Below w.heap.size w w' := by
  obtain ⟨A, c, rfl⟩ := ownK_sl h.own
  have hcap := ownK_cap h.own
  have CL := log_Len h
  have HM := Lib.hid hm
  have HR := Lib.hid (fun (i : Nat) (hi : i < rows.length) => (show IsOuts w (rows.getD i rvShape.z).told from hr _ (by
    rw [List.getD_eq_getElem?_getD, List.getElem?_eq_getElem hi]; exact List.getElem_mem _)))
  obtain ⟨N, hN⟩ : ∃ N, N = rows.length := ⟨_, rfl⟩
  have HN := Lib.hid hN
  rw [← hN] at CL hn hcap
  have h : IsLog w B b (.slice A N c) rows := by rw [hN]; exact h
  clear hN hm hr
  go_enter Try.func42, Try.ntmps42
  go_wp2_with fail
  refine CL.mono ?_; rintro e w1 ⟨rfl, rfl⟩
  clear CL
  go_wp2_with fail
  go_loopg [3, 4, 5, 7, 10, 23] N (fun gk s3 s4 s5 s7 s10 s23 wr => ∃ (i : Nat) (z y : Int), s10 = .int .i64 i ∧ i ≤ N ∧ gk = N - i ∧ s3 = .int .i64 z ∧ s4 = .int .i64 y ∧ Hid ((z, y) = mvF (outsR (rows.take i))) ∧ Below w.heap.size w wr)
  case atStart => exact ⟨0, 0, -1, rfl, Nat.zero_le _, by congr 1, rfl, rfl, Lib.hid rfl, Below.refl _ _⟩
  case round =>
    obtain ⟨i, z, y, rfl, hi, rfl, rfl, rfl, HZ, hW⟩ := hrel
    by_cases hin : i < N
    · have hii : (i : Int) < (N : Int) := by omega
      have hL := h.keep hW
      obtain ⟨ad, rfl, hT⟩ := log_at (by rw [← HN.out]; exact hL) (by rw [← HN.out]; exact hin)
      obtain ⟨g0, _⟩ := hL.blk.cells1
      have HO := Lib.hid (HR.out i (by rw [← HN.out]; exact hin))
      have HX := Lib.hid (outsR_next (rows := rows) (i := i) (by rw [← HN.out]; exact hin))
      have HLE := Lib.hid (Nat.le_trans (outsR_le (rows := rows) (i + 1)) HM.out)
      obtain ⟨X, hX⟩ : ∃ X, X = rows.getD i rvShape.z := ⟨_, rfl⟩
      rw [← hX] at hT HO HX
      clear hX
      obtain ⟨_, _, t2⟩ := hT
      have hro := IsRow.keep HO.out hW
      have hxc := IsRow.cap HO.out
      have hxs := IsRow.small HO.out
      obtain ⟨xo, xe, xa, xn, xc, xm, xl⟩ := X
      dsimp only at t2 hro hxc hxs
      have HXL := Lib.hid (IsRow.len HO.out)
      go_wp2_with fail
      obtain ⟨wo, rfl⟩ : ∃ wo, wo = wr := ⟨_, rfl⟩
      clear t2 g0 hL
      have hWo := hW
      go_loopg [3, 4, 7, 23] xn (fun gk s3 s4 s7 s23 wr => ∃ (k : Nat) (z y : Int), s23 = .int .i64 k ∧ k ≤ xn ∧ gk = xn - k ∧ s3 = .int .i64 z ∧ s4 = .int .i64 y ∧ Hid ((z, y) = mvF (outsR (rows.take i) ++ xl.take k)) ∧ Below wo.heap.size wo wr)
      case atStart => exact ⟨0, z, y, by go_num, Nat.zero_le _, rfl, rfl, rfl, Lib.hid (by rw [HZ.out, List.take_zero, List.append_nil]), Below.refl _ _⟩
      case round =>
        clear hW
        obtain ⟨k, z, y, rfl, hk, rfl, rfl, rfl, HZ2, hb⟩ := hrel
        by_cases hkn : k < xn
        · have hkk : (k : Int) < (xn : Int) := by omega
          obtain ⟨ae, rfl, _, d0, d1⟩ := (hro.keep hb).outat hkn
          have HT := Lib.hid (takeK_next (l := xl) (i := k) (z := outShape.z) (by rw [HXL.out]; exact hkn))
          have hzb : z ≤ 1000000 ∧ 0 ≤ z := by
            have h1 := mvF_bd (outsR (rows.take i) ++ xl.take k)
            rw [← HZ2.out] at h1
            have h2 := HLE.out
            rw [HX.out, List.length_append] at h2
            rw [List.length_append, List.length_take] at h1
            dsimp only at h1 h2
            omega
          obtain ⟨X, hX⟩ : ∃ X, X = xl.getD k outShape.z := ⟨_, rfl⟩
          rw [← hX] at d0 d1 HT
          clear hX
          obtain ⟨xh, xb2, xn2, xc2⟩ := X
          dsimp only at d0 d1
          go_upto_region 8 with (fail)
          have hA := (Below.refl wr.heap.size wr).alloc (Nat.le_refl _) (.cells #[.int .i64 xh, .slice xb2 xn2 xc2] 95)
          have PX := Blk.new wr 95 #[.int .i64 xh, .slice xb2 xn2 xc2]
          have hW2 := below_step hb hA
          obtain ⟨xb, hxb⟩ : ∃ q, q = wr.heap.size := ⟨_, rfl⟩
          rw [← hxb] at PX ⊢
          clear hb hA hxb d0 d1
          generalize wr.alloc (.cells #[.int .i64 xh, .slice xb2 xn2 xc2] 95) = u at *
          obtain ⟨p0, p1, _⟩ := PX.cells2
          by_cases c1 : 0 ≤ y
          · have e1 : decide (0 ≤ y) = true := decide_eq_true c1
            by_cases c2 : xh = y
            · have e2 : (xh != y) = false := by simp [c2]
              have HC2 := Lib.hid c2
              clear c2
              have HN2 := Lib.hid (show (z, xh) = mvF (outsR (rows.take i) ++ xl.take (k + 1)) by rw [HT.out, ← List.append_assoc, mvF_snoc, ← HZ2.out]; unfold mvS; dsimp only; rw [if_neg (fun h => h.2 HC2.out)])
              go_wp2
              go_roundg (xn - (k + 1))
              case measure => omega
              case rel => exact ⟨k + 1, z, xh, by go_num, by omega, rfl, by go_num, rfl, HN2, hW2⟩
            · have e2 : (xh != y) = true := by simp [c2]
              have HC2 := Lib.hid c2
              clear c2
              have HN2 := Lib.hid (show (z + 1, xh) = mvF (outsR (rows.take i) ++ xl.take (k + 1)) by rw [HT.out, ← List.append_assoc, mvF_snoc, ← HZ2.out]; unfold mvS; dsimp only; rw [if_pos ⟨c1, HC2.out⟩])
              go_wp2
              go_roundg (xn - (k + 1))
              case measure => omega
              case rel => exact ⟨k + 1, z + 1, xh, by go_num, by omega, rfl, by go_num, rfl, HN2, hW2⟩
          · have e1 : decide (0 ≤ y) = false := decide_eq_false c1
            have HC1 := Lib.hid c1
            clear c1
            have HN2 := Lib.hid (show (z, xh) = mvF (outsR (rows.take i) ++ xl.take (k + 1)) by rw [HT.out, ← List.append_assoc, mvF_snoc, ← HZ2.out]; unfold mvS; dsimp only; rw [if_neg (fun h => HC1.out h.1)])
            go_wp2
            go_roundg (xn - (k + 1))
            case measure => omega
            case rel => exact ⟨k + 1, z, xh, by go_num, by omega, rfl, by go_num, rfl, HN2, hW2⟩
        · obtain rfl : k = xn := by omega
          have hge : ¬ (k : Int) < (k : Int) := by omega
          have HN2 := Lib.hid (show (z, y) = mvF (outsR (rows.take (i + 1))) by rw [HX.out, HZ2.out, show xl.take k = xl from List.take_of_length_le (by rw [HXL.out]; exact Nat.le_refl _)])
          have hW2 := below_step hWo hb
          go_wp2
          go_roundg (N - (i + 1))
          case measure => omega
          case rel => exact ⟨i + 1, z, y, by go_num, by omega, rfl, rfl, rfl, HN2, hW2⟩
    · obtain rfl : i = N := by omega
      have hge : ¬ (i : Int) < (i : Int) := by omega
      have HF := Lib.hid (show z = (mvF (outsR rows)).1 by rw [List.take_of_length_le (by rw [← HN.out]; exact Nat.le_refl _)] at HZ; rw [← HZ.out])
      go_wp2
      go_ret
      exact ⟨by rw [HF.out]; rfl, hW⟩
end Go.Proofs.Ytcpfekhpbjkgeaa
end
