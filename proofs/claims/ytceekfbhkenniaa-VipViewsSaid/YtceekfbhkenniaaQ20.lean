/- Lemmas for the claim's proof: VipD VipE ConfB VipF. -/
import Derived.Test.YtceekfbhkenniaaQ04
import Derived.Test.YtceekfbhkenniaaQ18
import Derived.Test.YtceekfbhkenniaaQ19
section
/- Table.Match. -/
set_option linter.unusedVariables false
namespace Go.Proofs.Ytceekfbhkenniaa
open Go.RowKit
set_option maxHeartbeats 8000000
set_option maxRecDepth 100000
theorem results_cell_two {P : Program} {fn : Func} {p q : Tmp} {ty : TypeId} (h : fn.results = #[.cell p ty, .tmp q]) (tmps : Array Value) (w : World) (g : Nat) (t : TypeId) (cs : Array Value) (fr : Nat × Nat) (d : TypeDesc)
    (hp : tmps.getD p undef = .pointer (some ⟨g, 0, none⟩)) (hg : w.heap[g]? = some (.cells cs t fr))
    (hu : P.underlying ty = some d) (hd : (match d with | .struct _ | .array _ _ => true | _ => false) = true) (hi : (P.info? ty).map (·.size) = some cs.size) :
    (results fn tmps).run P w = .ok (.tuple #[.agg cs, tmps.getD q undef]) w := by
  have hp' : tmps[p]?.getD undef = .pointer (some ⟨g, 0, none⟩) := by simpa using hp
  simp [results, h, hp', asAddr, run_loadVar_row w g t ty cs fr d hg hu hd hi]
theorem sizeVip : (Try.prog.info? 35).map (·.size) = some 7 := by kernel_rfl
theorem idxTwo0 (a b : Int) (w : World) : (Instr.index 96 (.agg #[.int .i64 a, .int .i64 b]) (.int .i64 0)).run Try.prog w = .ok (.int .i64 a) w := by kernel_rfl
theorem idxTwo1 (a b : Int) (w : World) : (Instr.index 96 (.agg #[.int .i64 a, .int .i64 b]) (.int .i64 1)).run Try.prog w = .ok (.int .i64 b) w := by kernel_rfl
theorem vip_MatchNo (v : Value) (pr : Int) (s6 : Bool) (sh sl : Int) (d6 : Bool) (dh dl sp dp : Int) (w : World) (hn : ∀ w', Below w.heap.size w w' → Calls Try.prog 38 #[v] w' fun e w'' => e = .returned (.bool true) ∧ w' = w'') :
    Calls Try.prog 20 #[v, .agg #[.int .i64 pr, .bool s6, .int .u64 sh, .int .u64 sl, .bool d6, .int .u64 dh, .int .u64 dl, .int .i64 sp, .int .i64 dp]] w fun e w' => e = .returned (.tuple #[.agg #[.bool false, .int .u64 0, .int .u64 0, .int .i64 0, .int .i64 0, .int .i64 0, .bool false], .bool false]) ∧ Below w.heap.size w w' := by
  have P := (Blk.new w 55 #[.int .i64 pr, .bool s6, .int .u64 sh, .int .u64 sl, .bool d6, .int .u64 dh, .int .u64 dl, .int .i64 sp, .int .i64 dp]).alloc (.cells #[.bool false, .int .u64 0, .int .u64 0, .int .i64 0, .int .i64 0, .int .i64 0, .bool false] 35)
  have Q := Blk.new (w.alloc (.cells #[.int .i64 pr, .bool s6, .int .u64 sh, .int .u64 sl, .bool d6, .int .u64 dh, .int .u64 dl, .int .i64 sp, .int .i64 dp] 55)) 35 #[.bool false, .int .u64 0, .int .u64 0, .int .i64 0, .int .i64 0, .int .i64 0, .bool false]
  have hsz : (w.alloc (.cells #[.int .i64 pr, .bool s6, .int .u64 sh, .int .u64 sl, .bool d6, .int .u64 dh, .int .u64 dl, .int .i64 sp, .int .i64 dp] 55)).heap.size = w.heap.size + 1 := by simp
  rw [hsz] at Q
  have hW : Below w.heap.size w ((w.alloc (.cells #[.int .i64 pr, .bool s6, .int .u64 sh, .int .u64 sl, .bool d6, .int .u64 dh, .int .u64 dl, .int .i64 sp, .int .i64 dp] 55)).alloc (.cells #[.bool false, .int .u64 0, .int .u64 0, .int .i64 0, .int .i64 0, .int .i64 0, .bool false] 35)) := ((Below.refl _ _).alloc (Nat.le_refl _) _).alloc (by simp) _
  have hN := hn _ hW
  go_enter Try.func20, Try.ntmps20
  go_wp2_with fail
  generalize ((w.alloc (.cells #[.int .i64 pr, .bool s6, .int .u64 sh, .int .u64 sl, .bool d6, .int .u64 dh, .int .u64 dl, .int .i64 sp, .int .i64 dp] 55)).alloc (.cells #[.bool false, .int .u64 0, .int .u64 0, .int .i64 0, .int .i64 0, .int .i64 0, .bool false] 35)) = u at *
  clear hsz
  refine hN.mono ?_; rintro e w1 ⟨rfl, rfl⟩
  obtain ⟨q0, q1, q2, q3, q4, q5, q6, _⟩ := Q.cells7
  obtain ⟨f0, f1, f2, f3, f4, f5, f6⟩ := Q.free7
  go_wp2
  have hQ := Q.turn7 (.bool false) (.int .u64 0) (.int .u64 0) (.int .i64 0) (.int .i64 0) (.int .i64 0) (.bool false)
  have hB := below_turn7 (g := w.heap.size + 1) hW (Nat.le_succ _) (.bool false) (.int .u64 0) (.int .u64 0) (.int .i64 0) (.int .i64 0) (.int .i64 0) (.bool false)
  exact bodyPost_ret (results_cell_two rfl _ _ _ _ _ (0, 0) _ rfl hQ Try.underlying35 rfl sizeVip) rfl ⟨rfl, hB⟩
theorem i64_0 : I64 0 := ⟨by decide, by decide⟩
/-- A key that is asked for. -/
def kx (pr : Int) (d6 : Bool) (dh dl p : Int) : Vp := ⟨d6, dh, dl, pr, p, 0, false⟩
def vpAgg (x : Vp) : Value := .agg #[.bool x.six, .int .u64 x.hi, .int .u64 x.lo, .int .i64 x.proto, .int .i64 x.port, .int .i64 x.copies, .bool x.nat]
/-- What Match tells. -/
def MatchOut (vips : List Vp) (pr : Int) (d6 : Bool) (dh dl dp : Int) (e : Ending) : Prop :=
  (∃ i : Nat, i < vips.length ∧ sameKey (vips.getD i vp0) (kx pr d6 dh dl dp) = true ∧ e = .returned (.tuple #[vpAgg (vips.getD i vp0), .bool true])) ∨
  ((vips.any fun y => sameKey y (kx pr d6 dh dl dp)) = false ∧ ∃ i : Nat, i < vips.length ∧ sameKey (vips.getD i vp0) (kx pr d6 dh dl 0) = true ∧ e = .returned (.tuple #[vpAgg (vips.getD i vp0), .bool true])) ∨
  ((vips.any fun y => sameKey y (kx pr d6 dh dl dp)) = false ∧ (vips.any fun y => sameKey y (kx pr d6 dh dl 0)) = false ∧ e = .returned (.tuple #[.agg #[.bool false, .int .u64 0, .int .u64 0, .int .i64 0, .int .i64 0, .int .i64 0, .bool false], .bool false]))
theorem vip_MatchYes {w : World} {tb tr m1 m2 n c : Nat} {vips : List Vp} {A : Option Addr} (hT : TabV w tb tr m1 m2 vips A n c) (pr : Int) (s6 : Bool) (sh sl : Int) (d6 : Bool) (dh dl sp dp : Int) (w1 : I64 pr) (w2 : U64 dh) (w3 : U64 dl) (w4 : I64 dp) :
    Calls Try.prog 20 #[.pointer (some ⟨tb, 0, none⟩), .agg #[.int .i64 pr, .bool s6, .int .u64 sh, .int .u64 sl, .bool d6, .int .u64 dh, .int .u64 dl, .int .i64 sp, .int .i64 dp]] w fun e w' => MatchOut vips pr d6 dh dl dp e ∧ Below w.heap.size w w' := by
  have hlen := hT.l.len
  have hcap := hT.l.cap
  have hsm := hT.l.small
  have htk : vips.take n = vips := List.take_of_length_le (by rw [hlen]; exact Nat.le_refl _)
  obtain ⟨cv1, hv1, hr1⟩ := mapK_look hT.k (by rw [hlen]; exact Nat.le_refl _) (kx pr d6 dh dl dp) ⟨w2, w3, w1, w4, i64_0⟩
  obtain ⟨cv2, hv2, hr2⟩ := mapK_look hT.k (by rw [hlen]; exact Nat.le_refl _) (kx pr d6 dh dl 0) ⟨w2, w3, w1, i64_0, i64_0⟩
  rw [htk] at hv1 hv2 hr1 hr2
  have HM := Lib.hid (fun (e : Ending) => show (MatchOut vips pr d6 dh dl dp e) = _ from rfl)
  have hk1 : keyV (kx pr d6 dh dl dp) = .agg #[.bool d6, .int .u64 dh, .int .u64 dl, .int .i64 pr, .int .i64 dp] := rfl
  have hk2 : keyV (kx pr d6 dh dl 0) = .agg #[.bool d6, .int .u64 dh, .int .u64 dl, .int .i64 pr, .int .i64 0] := rfl
  rw [hk1] at hr1
  rw [hk2] at hr2
  have HV1 := Lib.hid hv1
  have HV2 := Lib.hid hv2
  have O1 := Lib.hid (fun (i : Nat) (e : Ending) (h1 : i < vips.length) (h2 : sameKey (vips.getD i vp0) (kx pr d6 dh dl dp) = true) (h3 : e = .returned (.tuple #[vpAgg (vips.getD i vp0), .bool true])) => show MatchOut vips pr d6 dh dl dp e from .inl ⟨i, h1, h2, h3⟩)
  have O2 := Lib.hid (fun (i : Nat) (e : Ending) (h0 : (vips.any fun y => sameKey y (kx pr d6 dh dl dp)) = false) (h1 : i < vips.length) (h2 : sameKey (vips.getD i vp0) (kx pr d6 dh dl 0) = true) (h3 : e = .returned (.tuple #[vpAgg (vips.getD i vp0), .bool true])) => show MatchOut vips pr d6 dh dl dp e from .inr (.inl ⟨h0, i, h1, h2, h3⟩))
  have O3 := Lib.hid (fun (e : Ending) (h0 : (vips.any fun y => sameKey y (kx pr d6 dh dl dp)) = false) (h1 : (vips.any fun y => sameKey y (kx pr d6 dh dl 0)) = false) (h3 : e = .returned (.tuple #[.agg #[.bool false, .int .u64 0, .int .u64 0, .int .i64 0, .int .i64 0, .int .i64 0, .bool false], .bool false])) => show MatchOut vips pr d6 dh dl dp e from .inr (.inr ⟨h0, h1, h3⟩))
  generalize MatchOut vips pr d6 dh dl dp = MO at *
  generalize (vips.any fun y => sameKey y (kx pr d6 dh dl dp)) = B1 at *
  generalize (vips.any fun y => sameKey y (kx pr d6 dh dl 0)) = B2 at *
  clear hv1 hv2 HM hk1 hk2 htk
  have P := (Blk.new w 55 #[.int .i64 pr, .bool s6, .int .u64 sh, .int .u64 sl, .bool d6, .int .u64 dh, .int .u64 dl, .int .i64 sp, .int .i64 dp]).alloc (.cells #[.bool false, .int .u64 0, .int .u64 0, .int .i64 0, .int .i64 0, .int .i64 0, .bool false] 35)
  have Q := Blk.new (w.alloc (.cells #[.int .i64 pr, .bool s6, .int .u64 sh, .int .u64 sl, .bool d6, .int .u64 dh, .int .u64 dl, .int .i64 sp, .int .i64 dp] 55)) 35 #[.bool false, .int .u64 0, .int .u64 0, .int .i64 0, .int .i64 0, .int .i64 0, .bool false]
  have hsz : (w.alloc (.cells #[.int .i64 pr, .bool s6, .int .u64 sh, .int .u64 sl, .bool d6, .int .u64 dh, .int .u64 dl, .int .i64 sp, .int .i64 dp] 55)).heap.size = w.heap.size + 1 := by simp
  rw [hsz] at Q
  have hW : Below w.heap.size w ((w.alloc (.cells #[.int .i64 pr, .bool s6, .int .u64 sh, .int .u64 sl, .bool d6, .int .u64 dh, .int .u64 dl, .int .i64 sp, .int .i64 dp] 55)).alloc (.cells #[.bool false, .int .u64 0, .int .u64 0, .int .i64 0, .int .i64 0, .int .i64 0, .bool false] 35)) := ((Below.refl _ _).alloc (Nat.le_refl _) _).alloc (by simp) _
  have hN := tab_noneYes (hT.keep hW)
  go_enter Try.func20, Try.ntmps20
  go_wp2_with fail
  generalize ((w.alloc (.cells #[.int .i64 pr, .bool s6, .int .u64 sh, .int .u64 sl, .bool d6, .int .u64 dh, .int .u64 dl, .int .i64 sp, .int .i64 dp] 55)).alloc (.cells #[.bool false, .int .u64 0, .int .u64 0, .int .i64 0, .int .i64 0, .int .i64 0, .bool false] 35)) = u at *
  clear hsz
  refine hN.mono ?_; rintro e w' ⟨rfl, rfl⟩
  clear hN
  obtain ⟨p0, p1, p2, p3, p4, p5, p6, p7, p8, _⟩ := P.cells9
  go_wp2_with fail
  go_loopg [7, 8, 9, 16] 2 (fun gk s7 s8 s9 s16 wr => ∃ k : Nat, k ≤ 2 ∧ gk = 2 - k ∧ s16 = .int .i64 k ∧ Hid (1 ≤ k → B1 = false) ∧ Hid (2 ≤ k → B2 = false) ∧ Below u.heap.size u wr)
  case atStart => exact ⟨0, Nat.zero_le _, rfl, rfl, Lib.hid (fun h => by omega), Lib.hid (fun h => by omega), Below.refl _ _⟩
  case round =>
    obtain ⟨k, hk, rfl, rfl, HB1, HB2, hX⟩ := hrel
    have P1 := P.keep hX
    have Q1 := Q.keep hX
    have hW1 := below_step hW hX
    have hT1 := hT.keep hW1
    clear p0 p1 p2 p3 p4 p5 p6 p7 p8
    obtain ⟨p0, p1, p2, p3, p4, p5, p6, p7, p8, _⟩ := P1.cells9
    obtain ⟨t0, t1, t2, t3, _⟩ := hT1.blk.cells4
    have U0 := cell_under p0
    have U4 := cell_under p4
    have U5 := cell_under p5
    have U6 := cell_under p6
    have T1 := cell_under t1
    have hR1 := fun p => hr1 _ (grown_below (below_step hW1 (under_below wr p)))
    have hR2 := fun p => hr2 _ (grown_below (below_step hW1 (under_below wr p)))
    rcases (by omega : k = 0 ∨ k = 1 ∨ k = 2) with rfl | rfl | rfl
    · have hi := fun w => idxTwo0 dp 0 w
      go_upto_region 6 with (fail)
      refine wp_region_quiet_under (by kernel_rfl) (by kernel_rfl) ?_
      repeat (go_big_quiet_step ((fail)))
      refine wpQuiet_nil ?_
      intro wu hw'
      obtain ⟨pq, hw''⟩ := hw'
      have hU := below_eq hw''
      clear hw'' pq
      have Q2 := Q1.keep hU
      have hW2 := below_step hW1 hU
      have hT2 := hT1.keep hU
      have hX2 := below_step hX hU
      clear Q1 hW1 hT1 hX hU U0 U4 U5 U6 T1 hR1 hR2 t0 t1 t2 t3 p0 p1 p2 p3 p4 p5 p6 p7 p8 P1
      cases B1 with
      | false =>
        clear Q2 hT2
        go_wp2
        go_roundg (2 - (0 + 1))
        case measure => omega
        case rel => exact ⟨0 + 1, by omega, rfl, by go_num, Lib.hid (fun _ => by first | rfl | trivial), Lib.hid (fun h => by omega), hX2⟩
      | true =>
        obtain ⟨i, rfl, hil, hs⟩ := HV1.out rfl
        obtain ⟨t0, t1, t2, t3, _⟩ := hT2.blk.cells4
        obtain ⟨ad, rfl, hbk, hat⟩ := hT2.l.vpat_ hil
        have hvp : vpShape.z = vp0 := rfl
        rw [hvp] at hat
        have OO := Lib.hid (fun (e : Ending) => O1.out i e (by rw [hlen]; exact hil) hs)
        have hii : (i : Int) < (n : Int) := by omega
        clear hvp hs O1 O2 O3
        generalize vips.getD i vp0 = y at *
        obtain ⟨y6, yh, yl, yp, yo, yc, yn⟩ := y
        obtain ⟨c0, c1, c2, c3, c4, c5, c6⟩ := hat
        unfold vpAgg at OO
        dsimp only at *
        obtain ⟨q0, q1, q2, q3, q4, q5, q6, _⟩ := Q2.cells7
        obtain ⟨f0, f1, f2, f3, f4, f5, f6⟩ := Q2.free7
        go_wp2
        have hQ := Q2.turn7 (.bool y6) (.int .u64 yh) (.int .u64 yl) (.int .i64 yp) (.int .i64 yo) (.int .i64 yc) (.bool yn)
        have hB := below_turn7 (g := w.heap.size + 1) hW2 (Nat.le_succ _) (.bool y6) (.int .u64 yh) (.int .u64 yl) (.int .i64 yp) (.int .i64 yo) (.int .i64 yc) (.bool yn)
        exact bodyPost_ret (results_cell_two rfl _ _ _ _ _ (0, 0) _ rfl hQ Try.underlying35 rfl sizeVip) rfl ⟨OO.out _ rfl, hB⟩
    · have hi := fun w => idxTwo1 dp 0 w
      go_upto_region 6 with (fail)
      refine wp_region_quiet_under (by kernel_rfl) (by kernel_rfl) ?_
      repeat (go_big_quiet_step ((fail)))
      refine wpQuiet_nil ?_
      intro wu hw'
      obtain ⟨pq, hw''⟩ := hw'
      have hU := below_eq hw''
      clear hw'' pq
      have Q2 := Q1.keep hU
      have hW2 := below_step hW1 hU
      have hT2 := hT1.keep hU
      have hX2 := below_step hX hU
      clear Q1 hW1 hT1 hX hU U0 U4 U5 U6 T1 hR1 hR2 t0 t1 t2 t3 p0 p1 p2 p3 p4 p5 p6 p7 p8 P1
      cases B2 with
      | false =>
        clear Q2 hT2
        go_wp2
        go_roundg (2 - (1 + 1))
        case measure => omega
        case rel => exact ⟨1 + 1, by omega, rfl, by go_num, Lib.hid (fun _ => HB1.out (by omega)), Lib.hid (fun _ => by first | rfl | trivial), hX2⟩
      | true =>
        obtain ⟨i, rfl, hil, hs⟩ := HV2.out rfl
        obtain ⟨t0, t1, t2, t3, _⟩ := hT2.blk.cells4
        obtain ⟨ad, rfl, hbk, hat⟩ := hT2.l.vpat_ hil
        have hvp : vpShape.z = vp0 := rfl
        rw [hvp] at hat
        have OO := Lib.hid (fun (e : Ending) => O2.out i e (HB1.out (by omega)) (by rw [hlen]; exact hil) hs)
        have hii : (i : Int) < (n : Int) := by omega
        clear hvp hs O1 O2 O3
        generalize vips.getD i vp0 = y at *
        obtain ⟨y6, yh, yl, yp, yo, yc, yn⟩ := y
        obtain ⟨c0, c1, c2, c3, c4, c5, c6⟩ := hat
        unfold vpAgg at OO
        dsimp only at *
        obtain ⟨q0, q1, q2, q3, q4, q5, q6, _⟩ := Q2.cells7
        obtain ⟨f0, f1, f2, f3, f4, f5, f6⟩ := Q2.free7
        go_wp2
        have hQ := Q2.turn7 (.bool y6) (.int .u64 yh) (.int .u64 yl) (.int .i64 yp) (.int .i64 yo) (.int .i64 yc) (.bool yn)
        have hB := below_turn7 (g := w.heap.size + 1) hW2 (Nat.le_succ _) (.bool y6) (.int .u64 yh) (.int .u64 yl) (.int .i64 yp) (.int .i64 yo) (.int .i64 yc) (.bool yn)
        exact bodyPost_ret (results_cell_two rfl _ _ _ _ _ (0, 0) _ rfl hQ Try.underlying35 rfl sizeVip) rfl ⟨OO.out _ rfl, hB⟩
    · have hb1 := HB1.out (by omega)
      have hb2 := HB2.out (by omega)
      have OO := Lib.hid (fun (e : Ending) => O3.out e hb1 hb2)
      clear hb1 hb2 O1 O2 O3 HV1 HV2 hR1 hR2 hr1 hr2 U0 U4 U5 U6 T1
      obtain ⟨q0, q1, q2, q3, q4, q5, q6, _⟩ := Q1.cells7
      obtain ⟨f0, f1, f2, f3, f4, f5, f6⟩ := Q1.free7
      go_wp2
      have hQ := Q1.turn7 (.bool false) (.int .u64 0) (.int .u64 0) (.int .i64 0) (.int .i64 0) (.int .i64 0) (.bool false)
      have hB := below_turn7 (g := w.heap.size + 1) hW1 (Nat.le_succ _) (.bool false) (.int .u64 0) (.int .u64 0) (.int .i64 0) (.int .i64 0) (.int .i64 0) (.bool false)
      exact bodyPost_ret (results_cell_two rfl _ _ _ _ _ (0, 0) _ rfl hQ Try.underlying35 rfl sizeVip) rfl ⟨OO.out _ rfl, hB⟩
end Go.Proofs.Ytceekfbhkenniaa
end
section
/- The law's awake. -/
set_option linter.unusedVariables false
namespace Go.Proofs.Ytceekfbhkenniaa
open Go.RowKit
set_option maxHeartbeats 8000000
set_option maxRecDepth 100000
def awV : Vp := ⟨false, 0, 0, 6, 0, 1, false⟩
theorem awV_wf : vpShape.Wf awV := ⟨⟨by decide, by decide⟩, ⟨by decide, by decide⟩, ⟨by decide, by decide⟩, ⟨by decide, by decide⟩, ⟨by decide, by decide⟩⟩
theorem aw30 (A B : Option Addr) : whyI ⟨A, 1, 1, B, 1, 1, none, 0, 0, 140, 2, ⟨false, 0, 0⟩, ⟨false, 0, 0⟩, fnodes, [awV], []⟩ = 0 := by kernel_rfl
theorem isRow_lit {w : World} {g : Nat} {T : TypeId} (h : Blk w g T #[.bool false, .int .u64 0, .int .u64 0, .int .i64 6, .int .i64 0, .int .i64 1, .bool false]) : IsRow vpShape w (some ⟨g, 0, none⟩) 1 1 [awV] :=
  ⟨lit_reads (xs := vpShape.flat [awV]) h 7 1 rfl, rfl, Nat.le_refl _, by decide, by decide, fun x hx => by
    obtain rfl : x = awV := by simpa using hx
    exact awV_wf⟩
theorem vip_NewNil (w : World) : Calls Try.prog 18 #[.pointer none] w fun e w' => e = .returned (.pointer none) ∧ w = w' := by
  go_enter Try.func18, Try.ntmps18
  go_wp2
  go_ret
  exact ⟨rfl, rfl⟩
theorem i64_6 : I64 6 := ⟨by decide, by decide⟩
theorem i64_80 : I64 80 := ⟨by decide, by decide⟩
theorem u64_0 : U64 0 := ⟨by decide, by decide⟩
theorem aw_out {e : Ending} (h : MatchOut [awV] 6 false 0 0 80 e) : e = .returned (.tuple #[.agg #[.bool false, .int .u64 0, .int .u64 0, .int .i64 6, .int .i64 0, .int .i64 1, .bool false], .bool true]) := by
  rcases h with ⟨i, hi, hs, _⟩ | ⟨_, i, hi, _, he⟩ | ⟨_, h2, _⟩
  · obtain rfl : i = 0 := by simp at hi; exact hi
    exact absurd hs (by decide)
  · obtain rfl : i = 0 := by simp at hi; exact hi
    exact he
  · exact absurd h2 (by decide)
theorem law30_awake (w : World) : Calls Try.prog 17 #[] w fun e w' => e = .returned (.bool true) ∧ Below w.heap.size w w' := by
  have hs1 : (w.alloc (.cells #[.string ⟨#[108]⟩, .int .i64 1, .int .i64 (-1), .int .i64 0, .bool false, .int .u64 0, .int .u64 0] 27)).heap.size = w.heap.size + 1 := by simp
  have B1 := (Blk.new w 27 #[.string ⟨#[108]⟩, .int .i64 1, .int .i64 (-1), .int .i64 0, .bool false, .int .u64 0, .int .u64 0]).alloc (.cells #[.bool false, .int .u64 0, .int .u64 0, .int .i64 6, .int .i64 0, .int .i64 1, .bool false] 35)
  have B2 := Blk.new (w.alloc (.cells #[.string ⟨#[108]⟩, .int .i64 1, .int .i64 (-1), .int .i64 0, .bool false, .int .u64 0, .int .u64 0] 27)) 35 #[.bool false, .int .u64 0, .int .u64 0, .int .i64 6, .int .i64 0, .int .i64 1, .bool false]
  rw [hs1] at B2
  have hW : Below w.heap.size w ((w.alloc (.cells #[.string ⟨#[108]⟩, .int .i64 1, .int .i64 (-1), .int .i64 0, .bool false, .int .u64 0, .int .u64 0] 27)).alloc (.cells #[.bool false, .int .u64 0, .int .u64 0, .int .i64 6, .int .i64 0, .int .i64 1, .bool false] 35)) := ((Below.refl _ _).alloc (Nat.le_refl _) _).alloc (by simp) _
  have hI : IsNodes ((w.alloc (.cells #[.string ⟨#[108]⟩, .int .i64 1, .int .i64 (-1), .int .i64 0, .bool false, .int .u64 0, .int .u64 0] 27)).alloc (.cells #[.bool false, .int .u64 0, .int .u64 0, .int .i64 6, .int .i64 0, .int .i64 1, .bool false] 35)) (some ⟨w.heap.size, 0, none⟩) 1 1 fnodes := ⟨lit_reads (xs := Go.Proofs.Ytceekfbhkenniaa.flat fnodes) B1 7 1 rfl, rfl, Nat.le_refl _, by decide, by decide, fnodes_wf⟩
  have hC : IsConf ((w.alloc (.cells #[.string ⟨#[108]⟩, .int .i64 1, .int .i64 (-1), .int .i64 0, .bool false, .int .u64 0, .int .u64 0] 27)).alloc (.cells #[.bool false, .int .u64 0, .int .u64 0, .int .i64 6, .int .i64 0, .int .i64 1, .bool false] 35)) ⟨some ⟨w.heap.size, 0, none⟩, 1, 1, some ⟨w.heap.size + 1, 0, none⟩, 1, 1, none, 0, 0, 140, 2, ⟨false, 0, 0⟩, ⟨false, 0, 0⟩, fnodes, [awV], []⟩ := ⟨hI, isRow_lit B2, isRow_nil _ _, i64_140, i64_2, u64_00, u64_00⟩
  have N1 := valid_New _ _ hC (show 1 ≤ 1024 by decide)
  have A0 := Lib.hid (aw30 (some ⟨w.heap.size, 0, none⟩) (some ⟨w.heap.size + 1, 0, none⟩))
  clear B1 B2 hI hC hs1
  go_enter Try.func17, Try.ntmps17
  go_wp2_with fail
  generalize ((w.alloc (.cells #[.string ⟨#[108]⟩, .int .i64 1, .int .i64 (-1), .int .i64 0, .bool false, .int .u64 0, .int .u64 0] 27)).alloc (.cells #[.bool false, .int .u64 0, .int .u64 0, .int .i64 6, .int .i64 0, .int .i64 1, .bool false] 35)) = u at *
  refine N1.mono ?_
  rintro e w1 ⟨hN1, hx1⟩
  rcases hN1 with ⟨hz, _⟩ | ⟨_, vb, b, C1, k1, C2, k2, C3, k3, rfl, hV, hCV, hTV⟩
  · exact absurd A0.out hz
  · have hW1 := below_step hW hx1
    have hNw := vip_New0 _ vb b w1 hV hCV (show 1 ≤ 64 by decide) rfl
    clear hW hx1 hV hCV hTV A0 N1
    go_wp2_with fail
    refine hNw.mono ?_
    rintro e w2 ⟨⟨tb, tr, m1, m2, A, k, rfl, hT⟩, hx2⟩
    have hW2 := below_step hW1 hx2
    have hMt := vip_MatchYes hT 6 false 0 0 false 0 0 0 80 i64_6 u64_0 u64_0 i64_80
    clear hW1 hx2 hNw
    go_wp2_with fail
    refine hMt.mono ?_
    rintro e w3 ⟨hO, hx3⟩
    obtain rfl := aw_out hO
    have hW3 := below_step hW2 hx3
    clear hW2 hx3 hMt hO hT
    go_upto_region 3 with (fail)
    have P := Blk.new w3 35 #[.bool false, .int .u64 0, .int .u64 0, .int .i64 6, .int .i64 0, .int .i64 1, .bool false]
    have hW4 := hW3.alloc hW3.size (.cells #[.bool false, .int .u64 0, .int .u64 0, .int .i64 6, .int .i64 0, .int .i64 1, .bool false] 35)
    generalize w3.alloc (.cells #[.bool false, .int .u64 0, .int .u64 0, .int .i64 6, .int .i64 0, .int .i64 1, .bool false] 35) = u4 at *
    obtain ⟨p0, p1, p2, p3, p4, p5, p6, _⟩ := P.cells7
    go_wp2_with fail
    refine (vip_NewNil _).mono ?_; rintro e w' ⟨rfl, rfl⟩
    go_wp2
    go_ret
    exact ⟨rfl, hW4⟩
end Go.Proofs.Ytceekfbhkenniaa
end
section
/- Tuples, and addresses, as arguments. -/
set_option linter.unusedVariables false
namespace Go.Proofs.Ytceekfbhkenniaa
open Go.ChangeShapes Go.WideShapes Go.ChangeAt Go.RowKit Go.Deep
section
variable {H : Type} {enc : TypeId × Value → H} {W : World} {base : Nat} {sp : Nat → Bool} {held : Bool}
structure TupleType (e : TypeId) (f0 f1 f2 f3 f4 g0 g1 g2 : Field) : Prop where
  he : Try.prog.underlying e = some (.struct #[f0, f1, f2, f3, f4])
  ha1 : AddrType f1.type g0 g1 g2
  ha2 : AddrType f2.type g0 g1 g2
  hc : Try.prog.cellsOf e = 9
  c0 : f0.offset = 0 ∧ Try.prog.cellsOf f0.type = 1
  c1 : f1.offset = 1
  c2 : f2.offset = 4
  c3 : f3.offset = 7 ∧ Try.prog.cellsOf f3.type = 1
  c4 : f4.offset = 8 ∧ Try.prog.cellsOf f4.type = 1
  e0 : Try.prog.underlying f0.type = some (.int .i64)
  e3 : Try.prog.underlying f3.type = some (.int .i64)
  e4 : Try.prog.underlying f4.type = some (.int .i64)
set_option maxRecDepth 100000 in
theorem open_tuple {r : Reach} {b0 : Nat} {e : TypeId} {f0 f1 f2 f3 f4 g0 g1 g2 : Field} (hT : TupleType e f0 f1 f2 f3 f4 g0 g1 g2) {v : Value} {d : DataW H} {p : List MemPlace}
    (hv : Value.okWide Try.prog W r b0 e v) (h : DataW.Trod enc Try.prog W base sp held e v d p) :
    ∃ (pr : Int) (s6 : Bool) (sh sl : Int) (d6 : Bool) (dh dl sp dp : Int), v = .agg #[.int .i64 pr, .bool s6, .int .u64 sh, .int .u64 sl, .bool d6, .int .u64 dh, .int .u64 dl, .int .i64 sp, .int .i64 dp] ∧ I64 pr ∧ U64 sh ∧ U64 sl ∧ U64 dh ∧ U64 dl ∧ I64 sp ∧ I64 dp := by
  obtain ⟨cs, rfl, _⟩ := okWide_struct hT.he hv
  obtain ⟨fuel, hf'⟩ := h
  obtain ⟨ys, n, _, _, hlen, hyl, hf⟩ := DataW.trod_struct hT.he hf'
  rw [hT.hc] at hlen
  have hs : ys.length = 5 := hyl
  have some_of : ∀ i, i < 5 → ∃ y, ys[i]? = some y := fun i hi => ⟨_, List.getElem?_eq_getElem (by omega)⟩
  have t0 := hf 0 f0 rfl
  have t1 := hf 1 f1 rfl
  have t2 := hf 2 f2 rfl
  have t3 := hf 3 f3 rfl
  have t4 := hf 4 f4 rfl
  rw [hT.c0.1, hT.c0.2] at t0
  rw [hT.c1, hT.ha1.hc] at t1
  rw [hT.c2, hT.ha2.hc] at t2
  rw [hT.c3.1, hT.c3.2] at t3
  rw [hT.c4.1, hT.c4.2] at t4
  obtain ⟨y0, q0⟩ := some_of 0 (by omega)
  obtain ⟨y1, q1⟩ := some_of 1 (by omega)
  obtain ⟨y2, q2⟩ := some_of 2 (by omega)
  obtain ⟨y3, q3⟩ := some_of 3 (by omega)
  obtain ⟨y4, q4⟩ := some_of 4 (by omega)
  obtain ⟨z0, r0, _, m0⟩ := DataW.trod_int hT.e0 (t0.trans q0)
  obtain ⟨a6, ah, al, r1, w1, w2⟩ := trod_addr hT.ha1 (t1.trans q1)
  obtain ⟨b6, bh, bl, r2, w3, w4⟩ := trod_addr hT.ha2 (t2.trans q2)
  obtain ⟨z3, r3, _, m3⟩ := DataW.trod_int hT.e3 (t3.trans q3)
  obtain ⟨z4, r4, _, m4⟩ := DataW.trod_int hT.e4 (t4.trans q4)
  clear t0 t1 t2 t3 t4 hf hf' hv
  obtain ⟨l, rfl⟩ : ∃ l, cs = ⟨l⟩ := ⟨cs.toList, rfl⟩
  simp only [Value.cells] at hlen r0 r1 r2 r3 r4
  match l, hlen with
  | [k0, k1, k2, k3, k4, k5, k6, k7, k8], _ =>
    simp at r0 r1 r2 r3 r4
    obtain ⟨rfl, rfl, rfl⟩ := r1
    obtain ⟨rfl, rfl, rfl⟩ := r2
    subst r0 r3 r4
    exact ⟨z0, a6, ah, al, b6, bh, bl, z3, z4, rfl, i64_of_wf m0, w1, w2, w3, w4, i64_of_wf m3, i64_of_wf m4⟩
set_option maxRecDepth 100000 in
theorem open_addr {r : Reach} {b0 : Nat} {e : TypeId} {g0 g1 g2 : Field} (hT : AddrType e g0 g1 g2) {v : Value} {d : DataW H} {p : List MemPlace}
    (hv : Value.okWide Try.prog W r b0 e v) (h : DataW.Trod enc Try.prog W base sp held e v d p) :
    ∃ (s6 : Bool) (sh sl : Int), v = .agg #[.bool s6, .int .u64 sh, .int .u64 sl] ∧ U64 sh ∧ U64 sl := by
  obtain ⟨cs, rfl, _⟩ := okWide_struct hT.ha hv
  obtain ⟨fuel, hf⟩ := h
  obtain ⟨b, y, z, e1, w1, w2⟩ := trod_addr hT hf
  obtain ⟨l, rfl⟩ : ∃ l, cs = ⟨l⟩ := ⟨cs.toList, rfl⟩
  have e2 : l = [.bool b, .int .u64 y, .int .u64 z] := by simpa [Value.cells] using e1
  subst e2
  exact ⟨b, y, z, rfl, w1, w2⟩
end
end Go.Proofs.Ytceekfbhkenniaa
end
section
/- VipNobody. -/
set_option linter.unusedVariables false
namespace Go.Proofs.Ytceekfbhkenniaa
open Go.RowKit
set_option maxHeartbeats 8000000
set_option maxRecDepth 100000
theorem vip_OursNo (v : Value) (a : Bool) (h l : Int) (w : World) (hn : ∀ w', Below w.heap.size w w' → Calls Try.prog 38 #[v] w' fun e w'' => e = .returned (.bool true) ∧ w' = w'') :
    Calls Try.prog 22 #[v, .agg #[.bool a, .int .u64 h, .int .u64 l]] w fun e w' => e = .returned (.bool false) ∧ Below w.heap.size w w' := by
  have hW : Below w.heap.size w (w.alloc (.cells #[.bool a, .int .u64 h, .int .u64 l] 25)) := (Below.refl _ _).alloc (Nat.le_refl _) _
  go_enter Try.func22, Try.ntmps22
  go_upto_region 1 with (fail)
  have hN := fun p => hn (under (w.alloc (.cells #[.bool a, .int .u64 h, .int .u64 l] 25)) p) (below_step hW (under_below _ p))
  generalize w.alloc (.cells #[.bool a, .int .u64 h, .int .u64 l] 25) = u at *
  refine wp_region_quiet_under (by kernel_rfl) (by kernel_rfl) ?_
  repeat (go_big_quiet_step (((go_at_call 38; exact calls_under_same (hN _)))))
  refine wpQuiet_nil ?_
  intro wu hw'
  obtain ⟨pq, hw''⟩ := hw'
  have hU := below_eq hw''
  clear hw'' pq
  go_wp2
  go_ret
  exact ⟨rfl, below_step hW hU⟩
theorem vip_FromNo (v : Value) (a : Bool) (h l : Int) (w : World) (hn : ∀ w', Below w.heap.size w w' → Calls Try.prog 38 #[v] w' fun e w'' => e = .returned (.bool true) ∧ w' = w'') :
    Calls Try.prog 23 #[v, .agg #[.bool a, .int .u64 h, .int .u64 l]] w fun e w' => e = .returned (.int .i64 0) ∧ Below w.heap.size w w' := by
  have hW : Below w.heap.size w (w.alloc (.cells #[.bool a, .int .u64 h, .int .u64 l] 25)) := (Below.refl _ _).alloc (Nat.le_refl _) _
  have hN := hn _ hW
  go_enter Try.func23, Try.ntmps23
  go_wp2_with fail
  refine hN.mono ?_; rintro e w1 ⟨rfl, rfl⟩
  go_wp2
  go_ret
  exact ⟨rfl, hW⟩
theorem vip_ListNo (v : Value) (w : World) (hn : Calls Try.prog 38 #[v] w fun e w'' => e = .returned (.bool true) ∧ w = w'') :
    Calls Try.prog 21 #[v] w fun e w' => e = .returned (.slice none 0 0) ∧ w = w' := by
  go_enter Try.func21, Try.ntmps21
  go_wp2_with fail
  refine hn.mono ?_; rintro e w1 ⟨rfl, rfl⟩
  go_wp2
  go_ret
  exact ⟨rfl, rfl⟩
theorem vipNobody_walk (w : World) (pr : Int) (s6 : Bool) (sh sl : Int) (d6 : Bool) (dh dl sp dp : Int) :
    Calls Try.prog 7 #[.agg #[.int .i64 pr, .bool s6, .int .u64 sh, .int .u64 sl, .bool d6, .int .u64 dh, .int .u64 dl, .int .i64 sp, .int .i64 dp]] w fun e w' => e = .returned (.bool true) ∧ Below w.heap.size w w' := by
  have hs1 : (w.alloc (.cells #[.int .i64 pr, .bool s6, .int .u64 sh, .int .u64 sl, .bool d6, .int .u64 dh, .int .u64 dl, .int .i64 sp, .int .i64 dp] 55)).heap.size = w.heap.size + 1 := by simp
  have P := (Blk.new w 55 #[.int .i64 pr, .bool s6, .int .u64 sh, .int .u64 sl, .bool d6, .int .u64 dh, .int .u64 dl, .int .i64 sp, .int .i64 dp]).alloc (.cells #[.pointer none, .map none, .map none, .slice none 0 0] 68)
  have Z := Blk.new (w.alloc (.cells #[.int .i64 pr, .bool s6, .int .u64 sh, .int .u64 sl, .bool d6, .int .u64 dh, .int .u64 dl, .int .i64 sp, .int .i64 dp] 55)) 68 #[.pointer none, .map none, .map none, .slice none 0 0]
  rw [hs1] at Z
  have hW : Below w.heap.size w ((w.alloc (.cells #[.int .i64 pr, .bool s6, .int .u64 sh, .int .u64 sl, .bool d6, .int .u64 dh, .int .u64 dl, .int .i64 sp, .int .i64 dp] 55)).alloc (.cells #[.pointer none, .map none, .map none, .slice none 0 0] 68)) := ((Below.refl _ _).alloc (Nat.le_refl _) _).alloc (by simp) _
  go_enter Try.func7, Try.ntmps7
  go_upto_region 3 with (fail)
  generalize ((w.alloc (.cells #[.int .i64 pr, .bool s6, .int .u64 sh, .int .u64 sl, .bool d6, .int .u64 dh, .int .u64 dl, .int .i64 sp, .int .i64 dp] 55)).alloc (.cells #[.pointer none, .map none, .map none, .slice none 0 0] 68)) = u at *
  clear hs1
  obtain ⟨p0, p1, p2, p3, p4, p5, p6, p7, p8, _⟩ := P.cells9
  go_wp2_with fail
  refine (vip_MatchNo (.pointer none) pr s6 sh sl d6 dh dl sp dp u (fun w' _ => tab_noneNil w')).mono ?_; rintro e w1 ⟨rfl, hx1⟩
  have P1 := P.keep hx1
  have Z1 := Z.keep hx1
  have hW1 := below_step hW hx1
  clear P Z hW hx1 p0 p1 p2 p3 p4 p5 p6 p7 p8
  go_upto_region 4 with (fail)
  have hA1 : Below w1.heap.size w1 (w1.alloc (.cells #[.bool false, .int .u64 0, .int .u64 0, .int .i64 0, .int .i64 0, .int .i64 0, .bool false] 35)) := (Below.refl _ _).alloc (Nat.le_refl _) _
  have P2 := P1.keep hA1
  have Z2 := Z1.keep hA1
  have hW2 := below_step hW1 hA1
  clear P1 Z1 hW1 hA1
  generalize w1.alloc (.cells #[.bool false, .int .u64 0, .int .u64 0, .int .i64 0, .int .i64 0, .int .i64 0, .bool false] 35) = u2 at *
  obtain ⟨p0, p1, p2, p3, p4, p5, p6, p7, p8, _⟩ := P2.cells9
  go_wp2_with fail
  refine (vip_MatchNo (.pointer (some ⟨w.heap.size + 1, 0, none⟩)) pr s6 sh sl d6 dh dl sp dp u2 (fun w' h => tab_noneZero (Z2.keep h))).mono ?_; rintro e w3 ⟨rfl, hx3⟩
  have P3 := P2.keep hx3
  have Z3 := Z2.keep hx3
  have hW3 := below_step hW2 hx3
  clear P2 Z2 hW2 hx3 p0 p1 p2 p3 p4 p5 p6 p7 p8
  go_upto_region 5 with (fail)
  have hA3 : Below w3.heap.size w3 (w3.alloc (.cells #[.bool false, .int .u64 0, .int .u64 0, .int .i64 0, .int .i64 0, .int .i64 0, .bool false] 35)) := (Below.refl _ _).alloc (Nat.le_refl _) _
  have P4 := P3.keep hA3
  have Z4 := Z3.keep hA3
  have hW4 := below_step hW3 hA3
  clear P3 Z3 hW3 hA3
  generalize w3.alloc (.cells #[.bool false, .int .u64 0, .int .u64 0, .int .i64 0, .int .i64 0, .int .i64 0, .bool false] 35) = u4 at *
  obtain ⟨p0, p1, p2, p3, p4, p5, p6, p7, p8, _⟩ := P4.cells9
  have U1 := cell_under p1
  have U2 := cell_under p2
  have U3 := cell_under p3
  have U4 := cell_under p4
  have U5 := cell_under p5
  have U6 := cell_under p6
  clear p0 p1 p2 p3 p4 p5 p6 p7 p8
  refine wp_region_quiet_under (by kernel_rfl) (by kernel_rfl) ?_
  repeat (go_big_quiet_step (((first | (go_at_call 22; first | (with_reducible exact calls_under (vip_OursNo (.pointer none) _ _ _ _ (fun w' _ => tab_noneNil w'))) | (with_reducible exact calls_under (vip_OursNo (.pointer (some ⟨w.heap.size + 1, 0, none⟩)) _ _ _ _ (fun w' h => tab_noneZero ((Z4.keep (under_below _ _)).keep h))))) | (go_at_call 23; first | (with_reducible exact calls_under (vip_FromNo (.pointer none) _ _ _ _ (fun w' _ => tab_noneNil w'))) | (with_reducible exact calls_under (vip_FromNo (.pointer (some ⟨w.heap.size + 1, 0, none⟩)) _ _ _ _ (fun w' h => tab_noneZero ((Z4.keep (under_below _ _)).keep h))))) | (go_at_call 21; first | (with_reducible exact calls_under_same (vip_ListNo (.pointer none) _ (tab_noneNil _))) | (with_reducible exact calls_under_same (vip_ListNo (.pointer (some ⟨w.heap.size + 1, 0, none⟩)) _ (tab_noneZero (Z4.keep (under_below _ _)))))) | (go_at_call 17; exact calls_under (law30_awake _))))))
  refine wpQuiet_nil ?_
  intro wu hw'
  obtain ⟨pq, hw''⟩ := hw'
  have hU := below_eq hw''
  clear hw'' pq
  go_wp2
  go_ret
  exact ⟨rfl, below_step hW4 hU⟩
end Go.Proofs.Ytceekfbhkenniaa
end
