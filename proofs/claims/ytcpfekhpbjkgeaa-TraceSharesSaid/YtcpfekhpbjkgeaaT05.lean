/- Lemmas for the claim's proof: TraceB TraceC TraceD. -/
import Derived.Great.BuildSlice
import Derived.Test.YtcpfekhpbjkgeaaT04
section
/- The laws' few. -/
set_option linter.unusedVariables false
namespace Go.Proofs.Ytcpfekhpbjkgeaa
open Go.RowKit
set_option maxHeartbeats 8000000
set_option maxRecDepth 100000
theorem Try.infoTold : (Try.prog.info? 102).map (fun i => (i.zero, i.size, i.bytes)) = some (some (.agg #[.int .i64 0, .slice none 0 0, .int .i64 0]), 3, 40) := by kernel_rfl
theorem Try.infoOut : (Try.prog.info? 95).map (fun i => (i.zero, i.size, i.bytes)) = some (some (.agg #[.int .i64 0, .slice none 0 0]), 2, 32) := by kernel_rfl
theorem Try.infoOp : (Try.prog.info? 109).map (fun i => (i.zero, i.size, i.bytes)) = some (some (.agg #[.int .i64 0, .slice none 0 0, .string ByteArray.empty, .int .i64 0, .int .i64 0, .bool false]), 6, 72) := by kernel_rfl
theorem Try.infoRow : (Try.prog.info? 130).map (fun i => (i.zero, i.size, i.bytes)) = some (some (.agg #[.int .i64 0, .slice none 0 0, .string ByteArray.empty, .int .i64 0, .int .i64 0, .bool false, .int .i64 0, .slice none 0 0, .int .i64 0]), 9, 112) := by kernel_rfl
/-- A result's cells. -/
structure TAt (w : World) (ad : Addr) (k : Nat) (x : TV) : Prop where
  c0 : w.cell? (ad.add (k * 3)) = some (.int .i64 x.err)
  c1 : w.cell? ⟨(ad.add (k * 3)).block, (ad.add (k * 3)).off + 1, none⟩ = some (.slice x.a x.n x.c)
  c2 : w.cell? ⟨(ad.add (k * 3)).block, (ad.add (k * 3)).off + 2, none⟩ = some (.int .i64 x.num)
theorem IsRow.tat {w : World} {A : Option Addr} {n c : Nat} {l : List TV} (h : IsRow tvShape w A n c l) {k : Nat} (hk : k < n) : ∃ ad, A = some ad ∧ ad.block < w.heap.size ∧ TAt w ad k (l.getD k tvShape.z) := by
  obtain ⟨ad, e, hb, hat⟩ := h.at_ hk
  have hat : ∀ j u, (tvShape.cells (l.getD k tvShape.z))[j]? = some u → w.cell? (ad.add (k * 3 + j)) = some u := hat
  refine ⟨ad, e, hb, hat 0 _ rfl, ?_, ?_⟩ <;> rw [← add_far _ _ _ (by omega)]
  · exact hat 1 _ rfl
  · exact hat 2 _ rfl
def cut10 (t : TV) : TV := if 10 < t.n then { t with n := 10, outs := t.outs.take 10 } else t
def fewT (l : List TV) : List TV := (l.take 30).map cut10
theorem law41_few {w : World} {A : Option Addr} {n c : Nat} {l : List TV} (h : IsRow tvShape w A n c l) (ho : ∀ t ∈ l, IsOuts w t) :
    Calls Try.prog 38 #[.slice A n c] w fun e w' => (∃ v, e = .returned v ∧ w'.ownsRow w.heap.size 102 3 v (fewT l).length (tvShape.flat (fewT l))) ∧ Below w.heap.size w w' := by
  obtain ⟨iI, hiI, hzI, hzI1, hzI2⟩ := info_parts Try.infoTold
  have hcc := h.cap
  have hcs := h.small
  have HLN := Lib.hid h.len
  have HMEM := Lib.hid (fun (i : Nat) (hi : i < n) => ho (l.getD i tvShape.z) (by
    rw [List.getD_eq_getElem?_getD, List.getElem?_eq_getElem (by rw [h.len]; exact hi)]; exact List.getElem_mem _))
  go_enter Try.func38, Try.ntmps38
  go_wp2_with fail
  go_loopg [3, 4] n (fun gk s3 s4 wr => ∃ (i : Nat) (out : List TV), s4 = .int .i64 i ∧ i ≤ n ∧ i ≤ 30 ∧ gk = n - i ∧ Hid (out = (l.take i).map cut10) ∧ out.length ≤ i ∧ wr.ownsRow w.heap.size 102 3 s3 out.length (tvShape.flat out) ∧ Below w.heap.size w wr)
  case atStart => exact ⟨0, [], rfl, Nat.zero_le _, by decide, rfl, Lib.hid rfl, Nat.le_refl _, World.ownsRow_nil _ _ _ 3, Below.refl _ _⟩
  case round =>
    obtain ⟨i, out, rfl, hi, hi30, rfl, HO, hol, hO, hW⟩ := hrel
    obtain ⟨Ao, co, rfl⟩ := ownK_sl hO
    by_cases hin : i < n
    · have hii : (i : Int) < (n : Int) := by omega
      have e1 : decide ((i : Int) < (n : Int)) = true := decide_eq_true hii
      by_cases h30 : i < 30
      · have e2 : decide ((i : Int) < 30) = true := decide_eq_true (by omega)
        obtain ⟨ad, rfl, _, hT⟩ := (h.keep hW).tat hin
        have HT := Lib.hid (takeK_next (l := l) (i := i) (z := tvShape.z) (by rw [HLN.out]; exact hin))
        have HM := Lib.hid (HMEM.out i hin)
        obtain ⟨X, hX⟩ : ∃ X, X = l.getD i tvShape.z := ⟨_, rfl⟩
        rw [← hX] at hT HT HM
        clear hX
        obtain ⟨xe, xa, xn, xc, xm, xo⟩ := X
        obtain ⟨d0, d1, d2⟩ := hT
        dsimp only at d0 d1 d2
        go_upto_region 6 with (fail)
        have hA := (Below.refl wr.heap.size wr).alloc (Nat.le_refl _) (.cells #[.int .i64 xe, .slice xa xn xc, .int .i64 xm] 102)
        have PX := Blk.new wr 102 #[.int .i64 xe, .slice xa xn xc, .int .i64 xm]
        have hO1 := hO.alloc (.cells #[.int .i64 xe, .slice xa xn xc, .int .i64 xm] 102)
        have hW1 := below_step hW hA
        obtain ⟨xb, hxb⟩ : ∃ q, q = wr.heap.size := ⟨_, rfl⟩
        rw [← hxb] at PX ⊢
        have hxw : w.heap.size ≤ xb := by rw [hxb]; exact hW.size
        have hneb : (Value.slice Ao out.length co).ownBlock ≠ some xb := fun e => by have := (hO.lt xb e).2; omega
        clear hO hW hA hxb d0 d1 d2
        generalize wr.alloc (.cells #[.int .i64 xe, .slice xa xn xc, .int .i64 xm] 102) = u at *
        obtain ⟨p0, p1, p2, _⟩ := PX.cells3
        obtain ⟨q0, q1, q2⟩ := PX.free3
        by_cases h10 : 10 < xn
        · have hxc : (10 : Nat) ≤ xc := by have : xn ≤ xc := IsRow.cap HM.out; omega
          have h10i : (10 : Int) < (xn : Int) := by omega
          go_upto_region 8 with (fail)
          have PX2 := Blk.setTo PX 1 (.slice xa 10 xc) (ds := #[.int .i64 xe, .slice xa 10 xc, .int .i64 xm]) rfl
          have hO2 := ownsRow_setCell_other hO1 (a := ⟨xb, 1, none⟩) hneb (.slice xa 10 xc)
          have hW2 := hW1.setCell (p := ⟨xb, 1, none⟩) hxw (.slice xa 10 xc)
          clear hO1 hW1 PX p0 p1 p2 q0 q1 q2
          generalize u.setCell ⟨xb, 1, none⟩ (.slice xa 10 xc) = u at *
          obtain ⟨p0, p1, p2, _⟩ := PX2.cells3
          have HN := Lib.hid (show out ++ [(⟨xe, xa, 10, xc, xm, xo.take 10⟩ : TV)] = (l.take (i + 1)).map cut10 by rw [HT.out, List.map_append, HO.out]; exact congrArg (_ ++ [·]) (show (⟨xe, xa, 10, xc, xm, xo.take 10⟩ : TV) = cut10 ⟨xe, xa, xn, xc, xm, xo⟩ by unfold cut10; rw [if_pos h10]))
          have hus := hW2.size
          go_wp2_with (at_builtin; go_loud (refine wpList_append_any _ rfl (.tmp 28) (.tmp 30) _ rfl w.heap.size 102 iI _ 3 40 Try.underlying85 hiI hzI hzI1 hzI2 rfl (by decide) _ out.length (tvShape.flat out) rfl (hO2.alloc _) _ (some ⟨u.heap.size, 0, none⟩) 1 1 [.int .i64 xe, .slice xa 10 xc, .int .i64 xm] rfl (readsK_new u 102 3 [.int .i64 xe, .slice xa 10 xc, .int .i64 xm] rfl) (by intro u hu; simp at hu; rcases hu with rfl | rfl | rfl <;> rfl) (by simp only [maxLen]; omega) (by omega) (by simp; omega) ?_; intro v6 w6 hown6 hg6 hat6))
          have hown7 : w6.ownsRow w.heap.size 102 3 v6 (out ++ [(⟨xe, xa, 10, xc, xm, xo.take 10⟩ : TV)]).length (tvShape.flat (out ++ [(⟨xe, xa, 10, xc, xm, xo.take 10⟩ : TV)])) := by rw [List.length_append, tvShape.flat_snoc]; exact hown6
          have hW6 := belowK_grown (hW2.alloc hus (.cells #[.int .i64 xe, .slice xa 10 xc, .int .i64 xm] 102)) (by simp; omega) hg6 (fun g hg => (hO2.lt g hg).1)
          clear hown6 hg6 hat6 hO2 hW2 HO HT HM
          go_wp2
          go_roundg (n - (i + 1))
          case measure => omega
          case rel => exact ⟨i + 1, out ++ [(⟨xe, xa, 10, xc, xm, xo.take 10⟩ : TV)], by go_num, by omega, by omega, rfl, HN, by rw [List.length_append]; simp only [List.length_cons, List.length_nil]; omega, hown7, hW6⟩
        · skip
          have h10i : ¬ (10 : Int) < (xn : Int) := by omega
          have hO2 := hO1
          have hW2 := hW1
          clear hO1 hW1
          go_upto_region 8 with (fail)
          have HN := Lib.hid (show out ++ [(⟨xe, xa, xn, xc, xm, xo⟩ : TV)] = (l.take (i + 1)).map cut10 by rw [HT.out, List.map_append, HO.out]; exact congrArg (_ ++ [·]) (show (⟨xe, xa, xn, xc, xm, xo⟩ : TV) = cut10 ⟨xe, xa, xn, xc, xm, xo⟩ by unfold cut10; rw [if_neg h10]))
          have hus := hW2.size
          go_wp2_with (at_builtin; go_loud (refine wpList_append_any _ rfl (.tmp 28) (.tmp 30) _ rfl w.heap.size 102 iI _ 3 40 Try.underlying85 hiI hzI hzI1 hzI2 rfl (by decide) _ out.length (tvShape.flat out) rfl (hO2.alloc _) _ (some ⟨u.heap.size, 0, none⟩) 1 1 [.int .i64 xe, .slice xa xn xc, .int .i64 xm] rfl (readsK_new u 102 3 [.int .i64 xe, .slice xa xn xc, .int .i64 xm] rfl) (by intro u hu; simp at hu; rcases hu with rfl | rfl | rfl <;> rfl) (by simp only [maxLen]; omega) (by omega) (by simp; omega) ?_; intro v6 w6 hown6 hg6 hat6))
          have hown7 : w6.ownsRow w.heap.size 102 3 v6 (out ++ [(⟨xe, xa, xn, xc, xm, xo⟩ : TV)]).length (tvShape.flat (out ++ [(⟨xe, xa, xn, xc, xm, xo⟩ : TV)])) := by rw [List.length_append, tvShape.flat_snoc]; exact hown6
          have hW6 := belowK_grown (hW2.alloc hus (.cells #[.int .i64 xe, .slice xa xn xc, .int .i64 xm] 102)) (by simp; omega) hg6 (fun g hg => (hO2.lt g hg).1)
          clear hown6 hg6 hat6 hO2 hW2 HO HT HM
          go_wp2
          go_roundg (n - (i + 1))
          case measure => omega
          case rel => exact ⟨i + 1, out ++ [(⟨xe, xa, xn, xc, xm, xo⟩ : TV)], by go_num, by omega, by omega, rfl, HN, by rw [List.length_append]; simp only [List.length_cons, List.length_nil]; omega, hown7, hW6⟩
      · have e2 : decide ((i : Int) < 30) = false := decide_eq_false (by omega)
        have HE := Lib.hid (show out = fewT l by rw [HO.out, show i = 30 by omega]; rfl)
        have HR := Lib.hid (show wr.ownsRow w.heap.size 102 3 (.slice Ao out.length co) (fewT l).length (tvShape.flat (fewT l)) by rw [← HE.out]; exact hO)
        clear hO HO
        go_wp2
        go_ret
        exact ⟨⟨_, rfl, HR.out⟩, hW⟩
    · obtain rfl : i = n := by omega
      have e1 : decide ((i : Int) < (i : Int)) = false := decide_eq_false (by omega)
      have HE := Lib.hid (show out = fewT l by rw [HO.out]; unfold fewT; rw [List.take_of_length_le (by rw [HLN.out]; exact Nat.le_refl _), List.take_of_length_le (by rw [HLN.out]; exact hi30)])
      have HR := Lib.hid (show wr.ownsRow w.heap.size 102 3 (.slice Ao out.length co) (fewT l).length (tvShape.flat (fewT l)) by rw [← HE.out]; exact hO)
      clear hO HO
      go_wp2
      go_ret
      exact ⟨⟨_, rfl, HR.out⟩, hW⟩
end Go.Proofs.Ytcpfekhpbjkgeaa
end
section
/- The laws' outs; logs in memory. -/
set_option linter.unusedVariables false
namespace Go.Proofs.Ytcpfekhpbjkgeaa
open Go.RowKit
set_option maxHeartbeats 8000000
set_option maxRecDepth 100000
def outsT (l : List TV) : List OutV := l.flatMap (·.outs)
theorem flatK_one {α : Type} (C : Shape α) (l : List α) : ∀ u ∈ C.flat l, u.oneCell' = true := fun u hu => by
  unfold Shape.flat at hu
  obtain ⟨x, _, hx⟩ := List.mem_flatMap.1 hu
  exact C.one x u hx
theorem flatK_app {α : Type} (C : Shape α) (a b : List α) : C.flat (a ++ b) = C.flat a ++ C.flat b := by unfold Shape.flat; rw [List.flatMap_append]
theorem law41_outs {w : World} {A : Option Addr} {n c : Nat} {l : List TV} (h : IsRow tvShape w A n c l) (ho : ∀ t ∈ l, IsOuts w t) (h10 : ∀ t ∈ l, t.n ≤ 10) (hn : n ≤ 30) :
    Calls Try.prog 40 #[.slice A n c] w fun e w' => (∃ v, e = .returned v ∧ w'.ownsRow w.heap.size 95 2 v (outsT l).length (outShape.flat (outsT l))) ∧ Below w.heap.size w w' := by
  obtain ⟨iI, hiI, hzI, hzI1, hzI2⟩ := info_parts Try.infoOut
  have hcc := h.cap
  have hcs := h.small
  have HLN := Lib.hid h.len
  have HMEM := Lib.hid (fun (i : Nat) (hi : i < n) => (show IsOuts w (l.getD i tvShape.z) ∧ (l.getD i tvShape.z).n ≤ 10 from by
    have : l.getD i tvShape.z ∈ l := by rw [List.getD_eq_getElem?_getD, List.getElem?_eq_getElem (by rw [h.len]; exact hi)]; exact List.getElem_mem _
    exact ⟨ho _ this, h10 _ this⟩))
  go_enter Try.func40, Try.ntmps40
  go_wp2_with fail
  go_loopg [3, 4] n (fun gk s3 s4 wr => ∃ (i : Nat) (out : List OutV), s4 = .int .i64 i ∧ i ≤ n ∧ gk = n - i ∧ Hid (out = outsT (l.take i)) ∧ out.length ≤ i * 10 ∧ wr.ownsRow w.heap.size 95 2 s3 out.length (outShape.flat out) ∧ Below w.heap.size w wr)
  case atStart => exact ⟨0, [], rfl, Nat.zero_le _, rfl, Lib.hid rfl, Nat.le_refl _, World.ownsRow_nil _ _ _ 2, Below.refl _ _⟩
  case round =>
    obtain ⟨i, out, rfl, hi, rfl, HO, hol, hO, hW⟩ := hrel
    obtain ⟨Ao, co, rfl⟩ := ownK_sl hO
    by_cases hin : i < n
    · have hii : (i : Int) < (n : Int) := by omega
      obtain ⟨ad, rfl, _, hT⟩ := (h.keep hW).tat hin
      have HT := Lib.hid (takeK_next (l := l) (i := i) (z := tvShape.z) (by rw [HLN.out]; exact hin))
      have HM := Lib.hid (HMEM.out i hin)
      obtain ⟨X, hX⟩ : ∃ X, X = l.getD i tvShape.z := ⟨_, rfl⟩
      rw [← hX] at hT HT HM
      clear hX
      obtain ⟨xe, xa, xn, xc, xm, xo⟩ := X
      obtain ⟨d0, d1, d2⟩ := hT
      dsimp only at d0 d1 d2
      have hRO := IsRow.keep HM.out.1 hW
      have hx10 : xn ≤ 10 := HM.out.2
      have hxr := IsRow.reads hRO
      have HXL := Lib.hid (IsRow.len HM.out.1)
      dsimp only at hRO hxr
      have HN := Lib.hid (show out ++ xo = outsT (l.take (i + 1)) by rw [HT.out, HO.out]; unfold outsT; rw [List.flatMap_append, List.flatMap_singleton])
      have hws := hW.size
      go_wp2_with (at_builtin; go_loud (refine wpList_append_any _ rfl (.tmp 11) (.tmp 16) _ rfl w.heap.size 95 iI _ 2 32 Try.underlying89 hiI hzI hzI1 hzI2 rfl (by decide) _ out.length (outShape.flat out) rfl hO _ xa xn xc (outShape.flat xo) rfl hxr (flatK_one outShape xo) (by simp only [maxLen]; omega) (by omega) hws ?_; intro v6 w6 hown6 hg6 hat6))
      have hown7 : w6.ownsRow w.heap.size 95 2 v6 (out ++ xo).length (outShape.flat (out ++ xo)) := by rw [List.length_append, flatK_app, HXL.out]; exact hown6
      have hW6 := belowK_grown hW hws hg6 (fun g hg => (hO.lt g hg).1)
      have hl6 : (out ++ xo).length ≤ (i + 1) * 10 := by rw [List.length_append, HXL.out]; omega
      clear hown6 hg6 hat6 hO hW HO HT HM d0 d1 d2 hRO hxr
      go_wp2
      go_roundg (n - (i + 1))
      case measure => omega
      case rel => exact ⟨i + 1, out ++ xo, by go_num, by omega, rfl, HN, hl6, hown7, hW6⟩
    · obtain rfl : i = n := by omega
      have hge : ¬ (i : Int) < (i : Int) := by omega
      have HE := Lib.hid (show out = outsT l by rw [HO.out, List.take_of_length_le (by rw [HLN.out]; exact Nat.le_refl _)])
      have HR := Lib.hid (show wr.ownsRow w.heap.size 95 2 (.slice Ao out.length co) (outsT l).length (outShape.flat (outsT l)) by rw [← HE.out]; exact hO)
      clear hO HO
      go_wp2
      go_ret
      exact ⟨⟨_, rfl, HR.out⟩, hW⟩
/-- A log in memory: a block, and the row that its slice owns. -/
structure IsLog (w : World) (B b : Nat) (v : Value) (rows : List RV) : Prop where
  blk : Blk w b 113 #[v]
  low : B ≤ b
  own : w.ownsRow B 130 9 v rows.length (rvShape.flat rows)
def lIn (b : Nat) (v : Value) (g : Nat) : Prop := g = b ∨ v.ownBlock = some g
section
variable {w w' : World} {B b : Nat} {v : Value} {rows : List RV}
theorem IsLog.no (h : IsLog w B b v rows) : v.ownBlock ≠ some b := rowK_not h.blk h.own (by decide)
theorem IsLog.keep (h : IsLog w B b v rows) (hx : Below w.heap.size w w') : IsLog w' B b v rows := ⟨h.blk.keep hx, h.low, ownK_keep h.own hx⟩
theorem IsLog.lt (h : IsLog w B b v rows) {g : Nat} (hg : lIn b v g) : B ≤ g ∧ g < w.heap.size := by
  rcases hg with rfl | hg
  · exact ⟨h.low, h.blk.lt⟩
  · exact h.own.lt g hg
theorem IsLog.below (h : IsLog w B b v rows) {m : Nat} (hm : m ≤ B) (hx : Mod (lIn b v) w w') : Below m w w' :=
  ⟨hx.os, hx.tape, hx.output, hx.size, fun i hi => hx.block i (by have := (h.lt (.inl rfl)); omega) (fun hg => by have := (h.lt hg).1; omega)⟩
/-- What a call leaves of a log. -/
def LogTo (w w' : World) (B b : Nat) (v : Value) (rows : List RV) : Prop := ∃ v', IsLog w' B b v' rows ∧ Mod (lIn b v) w w' ∧ ∀ g, lIn b v' g → lIn b v g ∨ w.heap.size ≤ g
theorem LogTo.same (h : IsLog w B b v rows) (hx : Below w.heap.size w w') : LogTo w w' B b v rows := ⟨v, h.keep hx, Mod.of_below hx, fun g hg => .inl hg⟩
end
theorem log_Len {w : World} {B b : Nat} {v : Value} {rows : List RV} (h : IsLog w B b v rows) :
    Calls Try.prog 46 #[.pointer (some ⟨b, 0, none⟩)] w fun e w' => e = .returned (.int .i64 rows.length) ∧ w = w' := by
  obtain ⟨A, c, rfl⟩ := ownK_sl h.own
  obtain ⟨c0, _⟩ := h.blk.cells1
  go_enter Try.func46, Try.ntmps46
  go_wp2
  go_ret
  exact ⟨rfl, rfl⟩
theorem log_LenNil (w : World) : Calls Try.prog 46 #[.pointer none] w fun e w' => e = .returned (.int .i64 0) ∧ w = w' := by
  go_enter Try.func46, Try.ntmps46
  go_wp2
  go_ret
  exact ⟨rfl, rfl⟩
end Go.Proofs.Ytcpfekhpbjkgeaa
end
section
/- trace.Note. -/
set_option linter.unusedVariables false
namespace Go.Proofs.Ytcpfekhpbjkgeaa
open Go.RowKit
set_option maxHeartbeats 8000000
set_option maxRecDepth 100000
theorem take_one {P : Program} {md : Region.Mode} {ops : Array Oper} {Q : Exit → Act → World → Prop} {S : World → Prop} {i : Nat} {oi : Oper} {v : Value} {fuel : Nat} {listed : Array Bool} {a : Act} {w : World} (hi : ops[i]? = some oi)
    (hs : Region.noSelect ops = true) (hf : Region.free md ops listed i = true) (hr : (Region.ready md ops listed).contains i = true)
    (hQ : ∀ c a w, Q (.panic c) (a.put oi.dst v) w → Q (.panic c) a w) (hw : Region.wanted oi (yielded ops a.tmps) = true) (hy : ∀ w, S w → (execOp a.eval oi).run P w = .ok (.value v) w) (hS : S w)
    (h : wpAnyH P md ops Q S fuel (listed.setIfInBounds i true) (a.put oi.dst v) w) : wpAnyH P md ops Q S (fuel + 1) listed a w :=
  wpAnyH_take hi hs hf hr hQ (.inl ⟨hw, hy⟩) hS h
theorem step_build_one {P : Program} {ops : Array Oper} {o : Oper} {a : Act} {w : World} {K : Act → World → Prop} {Q : Exit → Act → World → Prop} {E : Prop} (hgd : o.guard = none) (t e : TypeId) (x : Operand) (ho : o.op = .buildSlice t 1 #[(0, x)])
    (cells : Array Value) (ie : TypeInfo) (z v : Value) (size : Nat) (hu : P.underlying t = some (.slice e)) (hie : P.info? e = some ie) (hz : ie.zero = some z) (hsz : ie.size = size) (h0 : 0 < size) (h1 : size ≤ 1000) (hx : a.eval x = v)
    (hf : Instr.fill (fun i => some (i * size, size)) ((Array.range (1 * size)).map (z.cells[· % z.cells.size]!)) [(0, v)] = some cells)
    (h : K (a.put o.dst (.slice (some ⟨w.heap.size, 0, none⟩) 1 1)) (w.alloc (.cells cells e))) :
    if Region.wanted o (yielded ops a.tmps) = true then Oper.wp P o a w K Q else E := by
  have hw : Region.wanted o (yielded ops a.tmps) = true := by simp [Region.wanted, hgd]
  rw [if_pos hw]
  exact wp_buildSlice t e 1 _ ho cells ie z hu hie hz (by rw [hsz]; omega) (by rw [hsz]; omega) (by rw [hsz, ← hf, ← hx]; simp) h
theorem fill_row (c0 c1 c2 c3 c4 c5 c6 c7 c8 : Value) : Instr.fill (fun i => some (i * 9, 9)) ((Array.range (1 * 9)).map ((Value.agg #[.int .i64 0, .slice none 0 0, .string ByteArray.empty, .int .i64 0, .int .i64 0, .bool false, .int .i64 0, .slice none 0 0, .int .i64 0]).cells[· % (Value.agg #[.int .i64 0, .slice none 0 0, .string ByteArray.empty, .int .i64 0, .int .i64 0, .bool false, .int .i64 0, .slice none 0 0, .int .i64 0]).cells.size]!)) [(0, .agg #[c0, c1, c2, c3, c4, c5, c6, c7, c8])] = some #[c0, c1, c2, c3, c4, c5, c6, c7, c8] := by kernel_rfl
theorem log_NoteNil (w : World) (o t : Array Value) :
    Calls Try.prog 48 #[.pointer none, .agg o, .agg t] w fun e w' => e = .returned (.tuple #[]) ∧ Below w.heap.size w w' := by
  have hA := ((Below.refl w.heap.size w).alloc (Nat.le_refl _) (.cells o 109))
  go_enter Try.func48, Try.ntmps48
  go_wp2
  go_end0
  exact ⟨rfl, hA.alloc (by simp) _⟩
theorem log_Note {w : World} {B b : Nat} {v : Value} {rows : List RV} (h : IsLog w B b v rows) (o : OpV) (t : TV) (hn : rows.length < 1048576) (hB : B ≤ w.heap.size) :
    Calls Try.prog 48 #[.pointer (some ⟨b, 0, none⟩), .agg #[.int .i64 o.kind, .slice o.a o.n o.c, .string o.name, .int .i64 o.host, .int .i64 o.num, .bool o.up], .agg #[.int .i64 t.err, .slice t.a t.n t.c, .int .i64 t.num]] w
      fun e w' => e = .returned (.tuple #[]) ∧ LogTo w w' B b v (rows ++ [⟨o, t⟩]) := by
  obtain ⟨iI, hiI, hzI, hzI1, hzI2⟩ := info_parts Try.infoRow
  have HNB := Lib.hid (fun g hg => (h.lt (g := g) hg).2)
  have hA : Below w.heap.size w ((w.alloc (.cells #[.int .i64 o.kind, .slice o.a o.n o.c, .string o.name, .int .i64 o.host, .int .i64 o.num, .bool o.up] 109)).alloc (.cells #[.int .i64 t.err, .slice t.a t.n t.c, .int .i64 t.num] 102)) :=
    ((Below.refl _ _).alloc (Nat.le_refl _) _).alloc (by simp) _
  have PO := (Blk.new w 109 #[.int .i64 o.kind, .slice o.a o.n o.c, .string o.name, .int .i64 o.host, .int .i64 o.num, .bool o.up]).alloc (.cells #[.int .i64 t.err, .slice t.a t.n t.c, .int .i64 t.num] 102)
  have PT := Blk.new (w.alloc (.cells #[.int .i64 o.kind, .slice o.a o.n o.c, .string o.name, .int .i64 o.host, .int .i64 o.num, .bool o.up] 109)) 102 #[.int .i64 t.err, .slice t.a t.n t.c, .int .i64 t.num]
  have h1 := h.keep hA
  obtain ⟨ok, oa, on, oc, onm, oh, om, ou⟩ := o
  obtain ⟨te, ta, tn, tc, tm, to2⟩ := t
  dsimp only at *
  clear h
  go_enter Try.func48, Try.ntmps48
  go_upto_region 1 with (fail)
  rw [show (w.alloc (.cells #[.int .i64 ok, .slice oa on oc, .string onm, .int .i64 oh, .int .i64 om, .bool ou] 109)).heap.size = w.heap.size + 1 by simp] at PT
  obtain ⟨tb, htb⟩ : ∃ q, q = w.heap.size + 1 := ⟨_, rfl⟩
  rw [← htb] at PT ⊢
  obtain ⟨ob, hob⟩ : ∃ q, q = w.heap.size := ⟨_, rfl⟩
  rw [← hob] at PO ⊢
  clear htb hob
  generalize ((w.alloc (.cells #[.int .i64 ok, .slice oa on oc, .string onm, .int .i64 oh, .int .i64 om, .bool ou] 109)).alloc (.cells #[.int .i64 te, .slice ta tn tc, .int .i64 tm] 102)) = u at *
  go_upto_region 2 with (fail)
  obtain ⟨A, c, rfl⟩ := ownK_sl h1.own
  have hL : IsLog u.drew B b (.slice A rows.length c) rows := h1.keep (Below.drew (Below.refl _ _))
  obtain ⟨c0, _⟩ := hL.blk.cells1
  have hAW : Below w.heap.size w u.drew := hA.drew
  have PO' : Blk u.drew ob 109 #[.int .i64 ok, .slice oa on oc, .string onm, .int .i64 oh, .int .i64 om, .bool ou] := PO
  have PT' : Blk u.drew tb 102 #[.int .i64 te, .slice ta tn tc, .int .i64 tm] := PT
  clear h1 hA PO PT
  refine wp_region_noPanic ?_
  refine wp_region_held_drew (S := (fun w' => Blk w' ob 109 #[.int .i64 ok, .slice oa on oc, .string onm, .int .i64 oh, .int .i64 om, .bool ou] ∧ Blk w' tb 102 #[.int .i64 te, .slice ta tn tc, .int .i64 tm])) (by kernel_rfl) (show Blk u.drew ob _ _ ∧ Blk u.drew tb _ _ from ⟨PO', PT'⟩) (fun hHeld => ?_)
  refine take_one (i := 0) (oi := ?oi_1) (v := ?v_1) ?hi_1 (by kernel_rfl) (by kernel_rfl) (by kernel_rfl) ?hq_1 ?hw_1 ?hy_1 (by assumption) ?rest_1
  case hi_1 => (simp only [List.getElem?_toArray, List.getElem?_cons_zero]; rfl)
  case hq_1 => exact fun _ _ _ h => h
  case hw_1 => rfl
  case hy_1 => (intro w' hSw; (obtain ⟨u0, u1, u2, u3, u4, u5, _⟩ := hSw.1.cells6; obtain ⟨v0, v1, v2, _⟩ := hSw.2.cells3); go_simp; first | done | with_reducible rfl)
  try simp only [Act.put, List.setIfInBounds_toArray, List.set_cons_zero, List.set_cons_succ]
  refine take_one (i := 1) (oi := ?oi_2) (v := ?v_2) ?hi_2 (by kernel_rfl) (by kernel_rfl) (by kernel_rfl) ?hq_2 ?hw_2 ?hy_2 (by assumption) ?rest_2
  case hi_2 => (simp only [List.getElem?_toArray, List.getElem?_cons_succ, List.getElem?_cons_zero]; rfl)
  case hq_2 => exact fun _ _ _ h => h
  case hw_2 => rfl
  case hy_2 => (intro w' hSw; (obtain ⟨u0, u1, u2, u3, u4, u5, _⟩ := hSw.1.cells6; obtain ⟨v0, v1, v2, _⟩ := hSw.2.cells3); go_simp; first | done | with_reducible rfl)
  try simp only [Act.put, List.setIfInBounds_toArray, List.set_cons_zero, List.set_cons_succ]
  refine take_one (i := 2) (oi := ?oi_3) (v := ?v_3) ?hi_3 (by kernel_rfl) (by kernel_rfl) (by kernel_rfl) ?hq_3 ?hw_3 ?hy_3 (by assumption) ?rest_3
  case hi_3 => (simp only [List.getElem?_toArray, List.getElem?_cons_succ, List.getElem?_cons_zero]; rfl)
  case hq_3 => exact fun _ _ _ h => h
  case hw_3 => rfl
  case hy_3 => (intro w' hSw; (obtain ⟨u0, u1, u2, u3, u4, u5, _⟩ := hSw.1.cells6; obtain ⟨v0, v1, v2, _⟩ := hSw.2.cells3); go_simp; first | done | with_reducible rfl)
  try simp only [Act.put, List.setIfInBounds_toArray, List.set_cons_zero, List.set_cons_succ]
  refine take_one (i := 3) (oi := ?oi_4) (v := ?v_4) ?hi_4 (by kernel_rfl) (by kernel_rfl) (by kernel_rfl) ?hq_4 ?hw_4 ?hy_4 (by assumption) ?rest_4
  case hi_4 => (simp only [List.getElem?_toArray, List.getElem?_cons_succ, List.getElem?_cons_zero]; rfl)
  case hq_4 => exact fun _ _ _ h => h
  case hw_4 => rfl
  case hy_4 => (intro w' hSw; (obtain ⟨u0, u1, u2, u3, u4, u5, _⟩ := hSw.1.cells6; obtain ⟨v0, v1, v2, _⟩ := hSw.2.cells3); go_simp; first | done | with_reducible rfl)
  try simp only [Act.put, List.setIfInBounds_toArray, List.set_cons_zero, List.set_cons_succ]
  refine take_one (i := 5) (oi := ?oi_5) (v := ?v_5) ?hi_5 (by kernel_rfl) (by kernel_rfl) (by kernel_rfl) ?hq_5 ?hw_5 ?hy_5 (by assumption) ?rest_5
  case hi_5 => (simp only [List.getElem?_toArray, List.getElem?_cons_succ, List.getElem?_cons_zero]; rfl)
  case hq_5 => exact fun _ _ _ h => h
  case hw_5 => rfl
  case hy_5 => (intro w' hSw; (obtain ⟨u0, u1, u2, u3, u4, u5, _⟩ := hSw.1.cells6; obtain ⟨v0, v1, v2, _⟩ := hSw.2.cells3); go_simp; first | done | with_reducible rfl)
  try simp only [Act.put, List.setIfInBounds_toArray, List.set_cons_zero, List.set_cons_succ]
  refine take_one (i := 6) (oi := ?oi_6) (v := ?v_6) ?hi_6 (by kernel_rfl) (by kernel_rfl) (by kernel_rfl) ?hq_6 ?hw_6 ?hy_6 (by assumption) ?rest_6
  case hi_6 => (simp only [List.getElem?_toArray, List.getElem?_cons_succ, List.getElem?_cons_zero]; rfl)
  case hq_6 => exact fun _ _ _ h => h
  case hw_6 => rfl
  case hy_6 => (intro w' hSw; (obtain ⟨u0, u1, u2, u3, u4, u5, _⟩ := hSw.1.cells6; obtain ⟨v0, v1, v2, _⟩ := hSw.2.cells3); go_simp; first | done | with_reducible rfl)
  try simp only [Act.put, List.setIfInBounds_toArray, List.set_cons_zero, List.set_cons_succ]
  refine take_one (i := 7) (oi := ?oi_7) (v := ?v_7) ?hi_7 (by kernel_rfl) (by kernel_rfl) (by kernel_rfl) ?hq_7 ?hw_7 ?hy_7 (by assumption) ?rest_7
  case hi_7 => (simp only [List.getElem?_toArray, List.getElem?_cons_succ, List.getElem?_cons_zero]; rfl)
  case hq_7 => exact fun _ _ _ h => h
  case hw_7 => rfl
  case hy_7 => (intro w' hSw; (obtain ⟨u0, u1, u2, u3, u4, u5, _⟩ := hSw.1.cells6; obtain ⟨v0, v1, v2, _⟩ := hSw.2.cells3); go_simp; first | done | with_reducible rfl)
  try simp only [Act.put, List.setIfInBounds_toArray, List.set_cons_zero, List.set_cons_succ]
  generalize u.drew = vx0 at *
  refine wpAnyH_ready (rs := [4, 8]) (by kernel_rfl) (by simp) ?_
  refine AllReadyH.cons (i := 4) (o := ?o_8_4) ?h_8_4 (fun K hK => ?_) (AllReadyH.cons (i := 8) (o := ?o_8_8) ?h_8_8 (fun K hK => ?_) AllReadyH.nil)
  case h_8_4 => (simp only [List.getElem?_toArray, List.getElem?_cons_succ, List.getElem?_cons_zero]; rfl)
  case h_8_8 => (simp only [List.getElem?_toArray, List.getElem?_cons_succ, List.getElem?_cons_zero]; rfl)
  · as_aux_lemma =>
      go_simp
      refine hK.out _ _ hHeld (fun hHeld => ?_)
      clear hK K
      try simp only [Act.put, List.setIfInBounds_toArray, List.set_cons_zero, List.set_cons_succ]
      refine wpAnyH_ready (rs := [8]) (by kernel_rfl) (by simp) ?_
      refine AllReadyH.cons (i := 8) (o := ?o_10_8) ?h_10_8 (fun K hK => ?_) AllReadyH.nil
      case h_10_8 => (simp only [List.getElem?_toArray, List.getElem?_cons_succ, List.getElem?_cons_zero]; rfl)
      have hR9 := readsK_new (vx0) 130 9 [.int .i64 ok, .slice oa on oc, .string onm, .int .i64 oh, .int .i64 om, .bool ou, .int .i64 te, .slice ta tn tc, .int .i64 tm] rfl
      have hL := hL.keep ((Below.refl _ (vx0)).alloc (Nat.le_refl _) (.cells #[.int .i64 ok, .slice oa on oc, .string onm, .int .i64 oh, .int .i64 om, .bool ou, .int .i64 te, .slice ta tn tc, .int .i64 tm] 130))
      obtain ⟨c0, _⟩ := hL.blk.cells1
      have hAW := hAW.alloc hAW.size (.cells #[.int .i64 ok, .slice oa on oc, .string onm, .int .i64 oh, .int .i64 om, .bool ou, .int .i64 te, .slice ta tn tc, .int .i64 tm] 130)
      refine step_build_one rfl 111 130 (.tmp 15) rfl _ iI _ _ 9 Try.underlying111 hiI hzI hzI1 (by decide) (by decide) rfl (fill_row _ _ _ _ _ _ _ _ _) ?_
      refine hK.out _ _ ⟨hHeld.1.alloc _, hHeld.2.alloc _⟩ (fun hHeld => ?_)
      clear hK K
      try simp only [Act.put, List.setIfInBounds_toArray, List.set_cons_zero, List.set_cons_succ]
      obtain ⟨gx, hgx⟩ : ∃ q, q = (vx0).heap.size := ⟨_, rfl⟩
      rw [← hgx] at hR9 ⊢
      clear hgx
      generalize (vx0).alloc (.cells #[.int .i64 ok, .slice oa on oc, .string onm, .int .i64 oh, .int .i64 om, .bool ou, .int .i64 te, .slice ta tn tc, .int .i64 tm] 130) = vx11 at *
      refine wpAnyH_ready (rs := [9]) (by kernel_rfl) (by simp) ?_
      refine AllReadyH.cons (i := 9) (o := ?o_12_9) ?h_12_9 (fun K hK => ?_) AllReadyH.nil
      case h_12_9 => (simp only [List.getElem?_toArray, List.getElem?_cons_succ, List.getElem?_cons_zero]; rfl)
      refine step_append_any _ rfl (.tmp 12) (.tmp 16) _ rfl B 130 iI _ 9 112 Try.underlying111 hiI hzI hzI1 hzI2 rfl (by omega) (.slice A rows.length c) rows.length (rvShape.flat rows) rfl hL.own _ _ 1 1 [.int .i64 ok, .slice oa on oc, .string onm, .int .i64 oh, .int .i64 om, .bool ou, .int .i64 te, .slice ta tn tc, .int .i64 tm] rfl hR9 (by intro u hu; simp at hu; rcases hu with rfl | rfl | rfl | rfl | rfl | rfl | rfl | rfl | rfl <;> rfl) (by unfold maxLen; omega) (by omega) (Nat.le_trans hB hAW.size) ?_
      intro v4 vx13 hown4 hg4 hat4
      obtain ⟨A4, cc4, rfl⟩ := ownK_sl hown4
      refine hK.out _ _ ⟨hHeld.1.grown hg4 (fun e => rowK_not hHeld.1 hL.own (by decide) e.symm), hHeld.2.grown hg4 (fun e => rowK_not hHeld.2 hL.own (by decide) e.symm)⟩ (fun hHeld => ?_)
      clear hK K
      try simp only [Act.put, List.setIfInBounds_toArray, List.set_cons_zero, List.set_cons_succ]
      refine take_one (i := 10) (oi := ?oi_14) (v := ?v_14) ?hi_14 (by kernel_rfl) (by kernel_rfl) (by kernel_rfl) ?hq_14 ?hw_14 ?hy_14 (by assumption) ?rest_14
      case hi_14 => (simp only [List.getElem?_toArray, List.getElem?_cons_succ, List.getElem?_cons_zero]; rfl)
      case hq_14 => exact fun _ _ _ h => h
      case hw_14 => rfl
      case hy_14 => (intro w' hSw; (obtain ⟨u0, u1, u2, u3, u4, u5, _⟩ := hSw.1.cells6; obtain ⟨v0, v1, v2, _⟩ := hSw.2.cells3); go_simp; first | done | with_reducible rfl)
      try simp only [Act.put, List.setIfInBounds_toArray, List.set_cons_zero, List.set_cons_succ]
      refine take_one (i := 11) (oi := ?oi_15) (v := ?v_15) ?hi_15 (by kernel_rfl) (by kernel_rfl) (by kernel_rfl) ?hq_15 ?hw_15 ?hy_15 (by assumption) ?rest_15
      case hi_15 => (simp only [List.getElem?_toArray, List.getElem?_cons_succ, List.getElem?_cons_zero]; rfl)
      case hq_15 => exact fun _ _ _ h => h
      case hw_15 => rfl
      case hy_15 => (intro w' hSw; (obtain ⟨u0, u1, u2, u3, u4, u5, _⟩ := hSw.1.cells6; obtain ⟨v0, v1, v2, _⟩ := hSw.2.cells3); go_simp; first | done | with_reducible rfl)
      try simp only [Act.put, List.setIfInBounds_toArray, List.set_cons_zero, List.set_cons_succ]
      refine wpAnyH_ready (rs := [12]) (by kernel_rfl) (by simp) ?_
      refine AllReadyH.cons (i := 12) (o := ?o_16_12) ?h_16_12 (fun K hK => ?_) AllReadyH.nil
      case h_16_12 => (simp only [List.getElem?_toArray, List.getElem?_cons_succ, List.getElem?_cons_zero]; rfl)
      have hB4 := hL.blk.grown hg4 (fun e => hL.no e.symm)
      obtain ⟨d0, _⟩ := hB4.cells1
      have e0 := hB4.free 0
      have hbo : b ≠ ob := hB4.ne_ hHeld.1 (by decide)
      have hbt : b ≠ tb := hB4.ne_ hHeld.2 (by decide)
      have hS2 := And.intro (Blk.far (p := ⟨b, 0, none⟩) hHeld.1 (fun e => hbo e.symm) (.slice A4 (rows.length + 1) cc4)) (Blk.far (p := ⟨b, 0, none⟩) hHeld.2 (fun e => hbt e.symm) (.slice A4 (rows.length + 1) cc4))
      have hnb4 := rowK_not hB4 hown4 (by decide)
      go_simp
      refine hK.out _ _ hS2 (fun hHeld => ?_)
      clear hK K d0 e0 hS2 hHeld
      try simp only [Act.put, List.setIfInBounds_toArray, List.set_cons_zero, List.set_cons_succ]
      have hL5 : IsLog ((vx13).setCell ⟨b, 0, none⟩ (.slice A4 (rows.length + 1) cc4)) B b (.slice A4 (rows.length + 1) cc4) (rows ++ [⟨⟨ok, oa, on, oc, onm, oh, om, ou⟩, ⟨te, ta, tn, tc, tm, to2⟩⟩]) :=
        ⟨hB4.setTo 0 _ rfl, hL.low, by rw [List.length_append, rvShape.flat_snoc]; exact ownsRow_setCell_other hown4 (a := ⟨b, 0, none⟩) hnb4 _⟩
      have hM5 := ((Mod.of_below (S := lIn b (.slice A rows.length c)) hAW).trans (modK_grown hg4 (fun g hg => .inr hg))).setCell (p := ⟨b, 0, none⟩) (.inl (.inl rfl)) (.slice A4 (rows.length + 1) cc4)
      have HIN := Lib.hid (show ∀ g, lIn b (.slice A4 (rows.length + 1) cc4) g → lIn b (.slice A rows.length c) g ∨ w.heap.size ≤ g from fun g hg => by
        rcases hg with h | h
        · exact .inl (.inl h)
        · rcases ownK_at hat4 h with h2 | h2
          · exact .inl (.inr h2)
          · exact .inr (Nat.le_trans hAW.size h2))
      clear hg4 hown4 hat4 hL hAW hB4 hnb4
      generalize (vx13).setCell ⟨b, 0, none⟩ (.slice A4 (rows.length + 1) cc4) = vx17 at *
      refine wpAnyH_done (by kernel_rfl) (NoPanic.normal ?_) _
      go_wp2
      go_end0
      exact ⟨rfl, _, hL5, hM5, HIN.out⟩
  · as_aux_lemma =>
      have hR9 := readsK_new (vx0) 130 9 [.int .i64 ok, .slice oa on oc, .string onm, .int .i64 oh, .int .i64 om, .bool ou, .int .i64 te, .slice ta tn tc, .int .i64 tm] rfl
      have hL := hL.keep ((Below.refl _ (vx0)).alloc (Nat.le_refl _) (.cells #[.int .i64 ok, .slice oa on oc, .string onm, .int .i64 oh, .int .i64 om, .bool ou, .int .i64 te, .slice ta tn tc, .int .i64 tm] 130))
      obtain ⟨c0, _⟩ := hL.blk.cells1
      have hAW := hAW.alloc hAW.size (.cells #[.int .i64 ok, .slice oa on oc, .string onm, .int .i64 oh, .int .i64 om, .bool ou, .int .i64 te, .slice ta tn tc, .int .i64 tm] 130)
      refine step_build_one rfl 111 130 (.tmp 15) rfl _ iI _ _ 9 Try.underlying111 hiI hzI hzI1 (by decide) (by decide) rfl (fill_row _ _ _ _ _ _ _ _ _) ?_
      refine hK.out _ _ ⟨hHeld.1.alloc _, hHeld.2.alloc _⟩ (fun hHeld => ?_)
      clear hK K
      try simp only [Act.put, List.setIfInBounds_toArray, List.set_cons_zero, List.set_cons_succ]
      obtain ⟨gx, hgx⟩ : ∃ q, q = (vx0).heap.size := ⟨_, rfl⟩
      rw [← hgx] at hR9 ⊢
      clear hgx
      generalize (vx0).alloc (.cells #[.int .i64 ok, .slice oa on oc, .string onm, .int .i64 oh, .int .i64 om, .bool ou, .int .i64 te, .slice ta tn tc, .int .i64 tm] 130) = vx18 at *
      refine wpAnyH_ready (rs := [4]) (by kernel_rfl) (by simp) ?_
      refine AllReadyH.cons (i := 4) (o := ?o_19_4) ?h_19_4 (fun K hK => ?_) AllReadyH.nil
      case h_19_4 => (simp only [List.getElem?_toArray, List.getElem?_cons_succ, List.getElem?_cons_zero]; rfl)
      go_simp
      refine hK.out _ _ hHeld (fun hHeld => ?_)
      clear hK K
      try simp only [Act.put, List.setIfInBounds_toArray, List.set_cons_zero, List.set_cons_succ]
      refine wpAnyH_ready (rs := [9]) (by kernel_rfl) (by simp) ?_
      refine AllReadyH.cons (i := 9) (o := ?o_21_9) ?h_21_9 (fun K hK => ?_) AllReadyH.nil
      case h_21_9 => (simp only [List.getElem?_toArray, List.getElem?_cons_succ, List.getElem?_cons_zero]; rfl)
      refine step_append_any _ rfl (.tmp 12) (.tmp 16) _ rfl B 130 iI _ 9 112 Try.underlying111 hiI hzI hzI1 hzI2 rfl (by omega) (.slice A rows.length c) rows.length (rvShape.flat rows) rfl hL.own _ _ 1 1 [.int .i64 ok, .slice oa on oc, .string onm, .int .i64 oh, .int .i64 om, .bool ou, .int .i64 te, .slice ta tn tc, .int .i64 tm] rfl hR9 (by intro u hu; simp at hu; rcases hu with rfl | rfl | rfl | rfl | rfl | rfl | rfl | rfl | rfl <;> rfl) (by unfold maxLen; omega) (by omega) (Nat.le_trans hB hAW.size) ?_
      intro v4 vx22 hown4 hg4 hat4
      obtain ⟨A4, cc4, rfl⟩ := ownK_sl hown4
      refine hK.out _ _ ⟨hHeld.1.grown hg4 (fun e => rowK_not hHeld.1 hL.own (by decide) e.symm), hHeld.2.grown hg4 (fun e => rowK_not hHeld.2 hL.own (by decide) e.symm)⟩ (fun hHeld => ?_)
      clear hK K
      try simp only [Act.put, List.setIfInBounds_toArray, List.set_cons_zero, List.set_cons_succ]
      refine take_one (i := 10) (oi := ?oi_23) (v := ?v_23) ?hi_23 (by kernel_rfl) (by kernel_rfl) (by kernel_rfl) ?hq_23 ?hw_23 ?hy_23 (by assumption) ?rest_23
      case hi_23 => (simp only [List.getElem?_toArray, List.getElem?_cons_succ, List.getElem?_cons_zero]; rfl)
      case hq_23 => exact fun _ _ _ h => h
      case hw_23 => rfl
      case hy_23 => (intro w' hSw; (obtain ⟨u0, u1, u2, u3, u4, u5, _⟩ := hSw.1.cells6; obtain ⟨v0, v1, v2, _⟩ := hSw.2.cells3); go_simp; first | done | with_reducible rfl)
      try simp only [Act.put, List.setIfInBounds_toArray, List.set_cons_zero, List.set_cons_succ]
      refine take_one (i := 11) (oi := ?oi_24) (v := ?v_24) ?hi_24 (by kernel_rfl) (by kernel_rfl) (by kernel_rfl) ?hq_24 ?hw_24 ?hy_24 (by assumption) ?rest_24
      case hi_24 => (simp only [List.getElem?_toArray, List.getElem?_cons_succ, List.getElem?_cons_zero]; rfl)
      case hq_24 => exact fun _ _ _ h => h
      case hw_24 => rfl
      case hy_24 => (intro w' hSw; (obtain ⟨u0, u1, u2, u3, u4, u5, _⟩ := hSw.1.cells6; obtain ⟨v0, v1, v2, _⟩ := hSw.2.cells3); go_simp; first | done | with_reducible rfl)
      try simp only [Act.put, List.setIfInBounds_toArray, List.set_cons_zero, List.set_cons_succ]
      refine wpAnyH_ready (rs := [12]) (by kernel_rfl) (by simp) ?_
      refine AllReadyH.cons (i := 12) (o := ?o_25_12) ?h_25_12 (fun K hK => ?_) AllReadyH.nil
      case h_25_12 => (simp only [List.getElem?_toArray, List.getElem?_cons_succ, List.getElem?_cons_zero]; rfl)
      have hB4 := hL.blk.grown hg4 (fun e => hL.no e.symm)
      obtain ⟨d0, _⟩ := hB4.cells1
      have e0 := hB4.free 0
      have hbo : b ≠ ob := hB4.ne_ hHeld.1 (by decide)
      have hbt : b ≠ tb := hB4.ne_ hHeld.2 (by decide)
      have hS2 := And.intro (Blk.far (p := ⟨b, 0, none⟩) hHeld.1 (fun e => hbo e.symm) (.slice A4 (rows.length + 1) cc4)) (Blk.far (p := ⟨b, 0, none⟩) hHeld.2 (fun e => hbt e.symm) (.slice A4 (rows.length + 1) cc4))
      have hnb4 := rowK_not hB4 hown4 (by decide)
      go_simp
      refine hK.out _ _ hS2 (fun hHeld => ?_)
      clear hK K d0 e0 hS2 hHeld
      try simp only [Act.put, List.setIfInBounds_toArray, List.set_cons_zero, List.set_cons_succ]
      have hL5 : IsLog ((vx22).setCell ⟨b, 0, none⟩ (.slice A4 (rows.length + 1) cc4)) B b (.slice A4 (rows.length + 1) cc4) (rows ++ [⟨⟨ok, oa, on, oc, onm, oh, om, ou⟩, ⟨te, ta, tn, tc, tm, to2⟩⟩]) :=
        ⟨hB4.setTo 0 _ rfl, hL.low, by rw [List.length_append, rvShape.flat_snoc]; exact ownsRow_setCell_other hown4 (a := ⟨b, 0, none⟩) hnb4 _⟩
      have hM5 := ((Mod.of_below (S := lIn b (.slice A rows.length c)) hAW).trans (modK_grown hg4 (fun g hg => .inr hg))).setCell (p := ⟨b, 0, none⟩) (.inl (.inl rfl)) (.slice A4 (rows.length + 1) cc4)
      have HIN := Lib.hid (show ∀ g, lIn b (.slice A4 (rows.length + 1) cc4) g → lIn b (.slice A rows.length c) g ∨ w.heap.size ≤ g from fun g hg => by
        rcases hg with h | h
        · exact .inl (.inl h)
        · rcases ownK_at hat4 h with h2 | h2
          · exact .inl (.inr h2)
          · exact .inr (Nat.le_trans hAW.size h2))
      clear hg4 hown4 hat4 hL hAW hB4 hnb4
      generalize (vx22).setCell ⟨b, 0, none⟩ (.slice A4 (rows.length + 1) cc4) = vx26 at *
      refine wpAnyH_done (by kernel_rfl) (NoPanic.normal ?_) _
      go_wp2
      go_end0
      exact ⟨rfl, _, hL5, hM5, HIN.out⟩
end Go.Proofs.Ytcpfekhpbjkgeaa
end
