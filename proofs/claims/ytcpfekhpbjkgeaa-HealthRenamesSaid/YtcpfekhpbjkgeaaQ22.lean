/- Lemmas for the claim's proof: HealthW HealthX HealthY. -/
import Derived.Test.YtcpfekhpbjkgeaaQ18
import Derived.Test.YtcpfekhpbjkgeaaQ20
import Derived.Test.YtcpfekhpbjkgeaaQ21
section
/- A board's calls, told by the document's board. -/
set_option linter.unusedVariables false
namespace Go.Proofs.Ytcpfekhpbjkgeaa
open Go.RowKit Go.Maps
set_option maxHeartbeats 8000000
set_option maxRecDepth 100000
section
variable {w : World} {B : Nat} {s : Bd} {L : List Ph}
theorem right_every {r : Rul} (hr : RightR r) : 1 ≤ r.every ∧ r.every ≤ 1048576 := by unfold RightR at hr; omega
theorem solo_Tick (hB : IsBoard w B s) (hS : Sim s L) (hr : RightR s.r) (hf : L.length ≤ 40) (hn : s.now ≤ 100000) :
    Calls Try.prog 31 #[.pointer (some ⟨s.bb, 0, none⟩)] w fun e w' => ∃ va vo s', e = .returned (.tuple #[va, vo]) ∧ BdTo w w' B s s' ∧ OneB s s' ∧ Sim s' (L.map (tickPh s.r (s.now + 1))) ∧ s'.now = s.now + 1 ∧ s'.n = s.n ∧
      w'.ownsRow w.heap.size 3 1 va (L.flatMap (askOut (s.now + 1))).length ((L.flatMap (askOut (s.now + 1))).map (Value.int .i64)) ∧ w'.ownsRow w.heap.size 126 3 vo (L.flatMap (missOut s.r (s.now + 1))).length (chgShape.flat (L.flatMap (missOut s.r (s.now + 1)))) := by
  have hi := sim_items hS
  refine (board_Tick hB hr (sim_rows hS) (by omega) (by omega)).mono ?_
  rintro e w' ⟨va, vo, s', q, hq, rfl, hT, hO, h1, h2, h3, h4, h5, h6⟩
  have hev := right_every hr
  obtain ⟨k1, k2, k3⟩ := sim_tick hS hB.wh.ord hr hB.wh.n0 (by omega) hq h1 h3 h4 hO.2.2.2
  rw [k2] at h5
  rw [k3] at h6
  exact ⟨va, vo, s', rfl, hT, hO, k1, h1, h2, h5, h6⟩
theorem solo_Set (hB : IsBoard w B s) (hS : Sim s L) (hr : RightR s.r) (hf : L.length ≤ 40) (hn : s.now ≤ 100000) {A : Option Addr} {n c : Nat} {ids : List Int} (hl : IsList w .i64 A n c ids) (hA : 0 < n → ∀ ad, A = some ad → ¬ bIn s ad.block)
    (hn1 : n ≤ 100) (hn2 : s.n ≤ 900000) {L' : List Ph} (hT : SetTo s.now ids L L') :
    Calls Try.prog 30 #[.pointer (some ⟨s.bb, 0, none⟩), .slice A n c] w fun e w' => e = .returned (.int .i64 0) ∧ ∃ s', BdTo w w' B s s' ∧ OneB s s' ∧ Sim s' L' ∧ s'.now = s.now ∧ s'.n ≤ s.n + n := by
  have hi := sim_items hS
  refine (board_Set hB hl hA (by omega) (by omega)).mono ?_
  rintro e w' ⟨rfl, s', ks, h1, h2, h3, h4, h5, h6, h7⟩
  exact ⟨rfl, s', h1, h2, sim_set hS hr hB.wh.n0 (by omega) h5 h7 h3 h2.2.2.2 hT, h3, h4⟩
theorem sim_hg {x : Ph} (h : Sim s L) (hx : x ∈ L) : ∃ g, s.G x.id = some g ∧ hv g = x.see := view_some' (h.view x hx)
theorem getD_mem {L : List Ph} {k : Nat} (hk : k < L.length) : L.getD k default ∈ L := by
  rw [List.getD_eq_getElem?_getD, List.getElem?_eq_getElem hk]; exact List.getElem_mem _
theorem solo_Answer (hB : IsBoard w B s) (hS : Sim s L) (hr : RightR s.r) {k : Nat} (hk : k < L.length) (ha : (L.getD k default).asked = true) (ok : Bool) :
    Calls Try.prog 32 #[.pointer (some ⟨s.bb, 0, none⟩), .int .i64 (L.getD k default).id, .bool ok] w fun e w' => e = .returned (.tuple #[.bool (turnPh s.r (L.getD k default) ok), .int .i64 0]) ∧ ∃ s', BdTo w w' B s s' ∧ OneB s s' ∧ Sim s' (L.set k (hearPh s.r (L.getD k default) ok)) ∧ s'.now = s.now ∧ s'.n = s.n := by
  obtain ⟨g, hg, _⟩ := sim_hg hS (getD_mem hk)
  obtain ⟨k1, k2, k3⟩ := sim_turn hS hr hk hg ok
  have hx := hS.ok _ (getD_mem hk)
  have hid : I64 (L.getD k default).id := by have := hx.id0; have := hx.id1; unfold I64; omega
  refine (board_Answer hB (sim_rows hS) hid ok).mono ?_
  rintro e w' ⟨rfl, hT⟩
  unfold ansT ansB at *
  rw [hg] at hT ⊢
  dsimp only at hT ⊢
  rw [← k3, if_pos ha] at hT ⊢
  refine ⟨by rw [← k2], _, hT, ⟨rfl, rfl, rfl, rfl⟩, k1, rfl, rfl⟩
theorem solo_AnswerNot (hB : IsBoard w B s) (hS : Sim s L) {i : Int} (hi : I64 i) (hno : ∀ x ∈ L, x.id = i → x.asked = false) (ok : Bool) :
    Calls Try.prog 32 #[.pointer (some ⟨s.bb, 0, none⟩), .int .i64 i, .bool ok] w fun e w' => e = .returned (.tuple #[.bool false, .int .i64 7]) ∧ BdTo w w' B s s := by
  refine (board_Answer hB (sim_rows hS) hi ok).mono ?_
  rintro e w' ⟨rfl, hT⟩
  unfold ansT ansB at *
  cases hg : s.G i with
  | none => rw [hg] at hT; exact ⟨rfl, hT⟩
  | some g =>
    rw [hg] at hT
    dsimp only at hT ⊢
    have h1 : (s.G i).isSome = true := by rw [hg]; rfl
    obtain ⟨x, hx, rfl⟩ := List.mem_map.1 ((hS.ids.2 i).2 h1)
    obtain ⟨g', hg', e⟩ := sim_hg hS hx
    rw [hg] at hg'
    cases hg'
    have h2 : g.asked = false := by
      unfold hv Ph.see at e
      simp only [Prod.mk.injEq] at e
      rw [e.2.1]; exact hno x hx rfl
    rw [if_neg (by rw [h2]; simp)] at hT ⊢
    exact ⟨rfl, hT⟩
theorem solo_Get (hB : IsBoard w B s) (hS : Sim s L) {x : Ph} (hx : x ∈ L) :
    Calls Try.prog 33 #[.pointer (some ⟨s.bb, 0, none⟩), .int .i64 x.id] w fun e w' => e = .returned (.tuple #[.agg #[.bool x.up, .bool x.asked, .int .i64 x.row], .bool true]) ∧ Below w.heap.size w w' := by
  have hk := hS.ok _ hx
  have hid : I64 x.id := by have := hk.id0; have := hk.id1; unfold I64; omega
  have h1 := board_Get hB hid
  rw [sim_get hS hx] at h1
  exact h1
theorem solo_Ids (hB : IsBoard w B s) (hS : Sim s L) (hn : s.n ≤ 1000000) :
    Calls Try.prog 36 #[.pointer (some ⟨s.bb, 0, none⟩)] w fun e w' => (∃ v, e = .returned v ∧ w'.ownsRow w.heap.size 3 1 v L.length ((L.map Ph.id).map (Value.int .i64))) ∧ Below w.heap.size w w' := by
  refine (board_Ids hB hn).mono ?_
  rintro e w' ⟨⟨v, K, rfl, hK, hO⟩, hx⟩
  obtain rfl := rise_one hK hS.ids
  rw [List.length_map] at hO
  exact ⟨⟨v, rfl, hO⟩, hx⟩
theorem solo_Up (hB : IsBoard w B s) (hS : Sim s L) (hf : L.length ≤ 40) (hn : s.n ≤ 1000000) :
    Calls Try.prog 37 #[.pointer (some ⟨s.bb, 0, none⟩)] w fun e w' => (∃ v, e = .returned v ∧ w'.ownsRow w.heap.size 3 1 v (L.filter Ph.up).length (((L.filter Ph.up).map Ph.id).map (Value.int .i64))) ∧ Below w.heap.size w w' := by
  refine (board_Up hB hn (fun K hK => by rw [rise_one hK hS.ids, List.length_map]; omega)).mono ?_
  rintro e w' ⟨⟨v, K, rfl, hK, hO⟩, hx⟩
  obtain rfl := rise_one hK hS.ids
  rw [sim_ups hS, List.length_map] at hO
  exact ⟨⟨v, rfl, hO⟩, hx⟩
end
/-- A new board has no hosts. -/
theorem sim_new (bb wb mb : Nat) (V : Nat → Value) (r : Rul) : Sim (newBd bb wb mb V r) [] :=
  ⟨⟨List.Pairwise.nil, fun i => by simp [newBd]⟩, (fun x hx => by cases hx), List.Perm.refl _, (fun x hx => by cases hx)⟩
end Go.Proofs.Ytcpfekhpbjkgeaa
end
section
/- The law's example of chapter 22. -/
set_option linter.unusedVariables false
namespace Go.Proofs.Ytcpfekhpbjkgeaa
open Go.RowKit Go.Maps
set_option maxHeartbeats 8000000
set_option maxRecDepth 100000
/-- A slice of numbers just laid. -/
theorem list_laid (w : World) (l : List Int) (h : ∀ x ∈ l, I64 x) (hn : l.length ≤ 100) (h0 : 0 < l.length) : IsList (w.alloc (.cells (l.map (Value.int .i64)).toArray 3)) .i64 (some ⟨w.heap.size, 0, none⟩) l.length l.length l where
  reads := ⟨by simp, fun _ => ⟨_, rfl, by simp, fun j u hu => by
    have e : (⟨w.heap.size, 0, none⟩ : Addr).add j = ⟨w.heap.size, j, none⟩ := by unfold Addr.add; split <;> simp_all
    rw [e, (Blk.new w 3 (l.map (Value.int .i64)).toArray).cell j]
    simpa using hu⟩⟩
  len := rfl
  cap := Nat.le_refl _
  small := by omega
  wf := fun x hx => by have := h x hx; unfold I64 at this; exact WalkArith.wf_i64 this
  reach := by omega
theorem eql_board_nil (m : Option Addr) (w : World) : (binOp .eql 51 (.pointer m) (.pointer none)).run Try.prog w = .ok (.bool m.isNone) w := by
  cases m <;> go_simp
def awRul : Rul := ⟨5, 2, 1, 1⟩
theorem awRight : RightR awRul := by unfold RightR awRul; decide
theorem awSet (now : Int) (h : now = 0) : SetTo now [7] [] [freshPh 0 7] where
  rise := List.pairwise_singleton _ _
  mem := fun i => by
    show i ∈ [7] ↔ _
    constructor
    · intro hh; exact ⟨hh, by rw [List.mem_singleton] at hh; subst hh; unfold okId; decide⟩
    · exact fun hh => hh.1
  keep := fun x hx => by rw [List.mem_singleton] at hx; subst hx; subst h; rfl
theorem awTick : [freshPh 0 7].map (tickPh awRul 1) = [⟨false, true, 0, 7, 6, 1⟩] ∧ [freshPh 0 7].flatMap (askOut 1) = [7] := by decide
theorem awHear : [(⟨false, true, 0, 7, 6, 1⟩ : Ph)].set 0 (hearPh awRul ⟨false, true, 0, 7, 6, 1⟩ true) = [⟨true, false, 0, 7, 6, 1⟩] ∧ turnPh awRul ⟨false, true, 0, 7, 6, 1⟩ true = true := by decide
theorem law22_awake (w : World) : Calls Try.prog 27 #[] w fun e w' => e = .returned (.bool true) ∧ Below w.heap.size w w' := by
  have hmk := fun w => health_NewGood awRul awRight w
  have hq := fun m w => eql_board_nil m w
  go_enter Try.func27, Try.ntmps27
  go_wp2_with fail
  refine (hmk _).mono ?_
  rintro e w1 ⟨⟨bb, wb, mb, V, rfl, hB1⟩, hW1⟩
  have hS1 := sim_new bb wb mb V awRul
  obtain ⟨s1, hs1⟩ : ∃ s, s = newBd bb wb mb V awRul := ⟨_, rfl⟩
  have hbb : s1.bb = bb := by rw [hs1]; rfl
  have hnw : s1.now = 0 := by rw [hs1]; rfl
  have hrr : s1.r = awRul := by rw [hs1]; rfl
  have hnn : s1.n = 0 := by rw [hs1]; rfl
  rw [← hs1] at hB1 hS1
  have hA := (Below.refl w1.heap.size w1).alloc (Nat.le_refl _) (.cells #[.int .i64 7] 3)
  have hB2 := hB1.keep hA
  have hL := list_laid w1 [7] (fun x hx => by rw [List.mem_singleton] at hx; subst hx; unfold I64; decide) (by decide) (by decide)
  have hNB : 0 < 1 → ∀ ad, (some ⟨w1.heap.size, 0, none⟩ : Option Addr) = some ad → ¬ bIn s1 ad.block := fun _ ad e hb => by
    cases e
    have := (hB1.lt hb).2
    simp at this
  have CS := solo_Set hB2 hS1 (by rw [hrr]; exact awRight) (by simp) (by omega) hL hNB (by decide) (by omega) (awSet _ hnw)
  rw [hbb] at CS
  have hW2 := below_step hW1 hA
  clear hmk hs1 hA hL hNB hB2 hS1
  go_wp2_with fail
  refine CS.mono ?_
  rintro e w2 ⟨rfl, s2, hT2, hO2, hS2, hn2, _⟩
  have hW3 := hW2.trans ((hB1.keep ((Below.refl w1.heap.size w1).alloc (Nat.le_refl _) (.cells #[.int .i64 7] 3))).below (Nat.le_refl _) hT2.2.1)
  have hB3 := hT2.1
  have hb2 : s2.bb = bb := hO2.1.trans hbb
  have hr2 : s2.r = awRul := hO2.2.2.2.trans hrr
  have hnw2 : s2.now = 0 := hn2.trans hnw
  have hns : s2.n ≤ 100 := by
    have : s2.n ≤ s1.n + [7].length := by assumption
    simp at this; omega
  have CT := solo_Tick hB3 hS2 (by rw [hr2]; exact awRight) (by simp) (by omega)
  rw [hb2, hr2, hnw2, show (0 : Int) + 1 = 1 from rfl, awTick.1, awTick.2] at CT
  clear CS hT2 hO2 hn2 hbb hnw hrr hnn hB1 hW1 hW2 hnw2
  go_wp2_with fail
  refine CT.mono ?_
  rintro e w3 ⟨va, vo, s3, rfl, hT3, hO3, hS3, hn3, hm3, hOa, hOc⟩
  have hW4 := hW3.trans (hB3.below (Nat.le_refl _) hT3.2.1)
  have hB4 := hT3.1
  have hb3 : s3.bb = bb := hO3.1.trans hb2
  obtain ⟨Aa, ca, rfl⟩ := ownK_sl hOa
  have hca := ownK_cap hOa
  have hr3 : s3.r = awRul := hO3.2.2.2.trans hr2
  obtain ⟨ad, rfl, d0⟩ := ownI_at (n := 1) (l := [7]) hOa rfl (k := 0) (by decide)
  have d0 : w3.cell? (ad.add 0) = some (.int .i64 7) := d0
  have CA := solo_Answer hB4 hS3 (by rw [hr3]; exact awRight) (k := 0) (by decide) rfl true
  rw [hb3, hr3] at CA
  simp only [List.getD_cons_zero, awHear.1, awHear.2] at CA
  have hOa2 : w3.ownsRow w2.heap.size 3 1 (.slice (some ad) 1 ca) 1 ([7].map (Value.int .i64)) := hOa
  have HNA := Lib.hid (fun g hg => own_notbd hB4 hOa2 (by decide) (by decide) (by decide) (by decide) (g := g) hg)
  have hca2 : 1 ≤ ca ∧ ca ≤ 9223372036854775807 := hca
  clear CT hT3 hB3 hS2 hW3 hb2 hOc hn3 hr2 hOa hca d0
  go_wp2_with fail
  refine CA.mono ?_
  rintro e w4 ⟨rfl, s4, hT4, hO4, hS4, hn4, hm4⟩
  have hW5 := hW4.trans (hB4.below (Nat.le_refl _) hT4.2.1)
  have hB5 := hT4.1
  have hb4 : s4.bb = bb := hO4.1.trans hb3
  have hOa3 := ownK_mod hOa2 hT4.2.1 (fun g hg => HNA.out g hg)
  obtain ⟨ad', e', d0⟩ := ownI_at (n := 1) (l := [7]) hOa3 rfl (k := 0) (by decide)
  obtain rfl := Option.some.inj e'
  have d0 : w4.cell? (ad.add 0) = some (.int .i64 7) := d0
  obtain ⟨ga, rfl⟩ : ∃ ga, ad = ⟨ga, 0, none⟩ := by
    rcases hOa2.2 with ⟨e, _⟩ | ⟨g, cap, cur, e, _⟩
    · cases e
    · cases e; exact ⟨g, rfl⟩
  have d0 : w4.cell? ⟨ga, 0, none⟩ = some (.int .i64 7) := d0
  have CU := solo_Up hB5 hS4 (by simp) (by omega)
  rw [hb4] at CU
  clear CA hT4 hB4 hS3 hW4 hb3 hOa2 hOa3 HNA e'
  go_wp2_with fail
  refine CU.mono ?_
  rintro e w5 ⟨⟨v5, rfl, hO5⟩, hx5⟩
  have d0 : w5.cell? ⟨ga, 0, none⟩ = some (.int .i64 7) := cell_keep d0 hx5
  have hW6 := below_step hW5 hx5
  obtain ⟨A5, c5, rfl⟩ := ownK_sl hO5
  clear CU hO5
  go_wp2_with fail
  go_ret
  exact ⟨rfl, hW6⟩
end Go.Proofs.Ytcpfekhpbjkgeaa
end
section
/- The law HealthNobody. -/
set_option linter.unusedVariables false
namespace Go.Proofs.Ytcpfekhpbjkgeaa
open Go.RowKit Go.Maps
set_option maxHeartbeats 8000000
set_option maxRecDepth 100000
theorem healthNobody_walk (w : World) (id : Int) (h0 : -9223372036854775808 ≤ id) (h1 : id ≤ 9223372036854775807) :
    Calls Try.prog 9 #[.int .i64 id] w fun e w' => e = .returned (.bool true) ∧ Below w.heap.size w w' := by
  have hNil : ∀ w, NoBoard w (.pointer none) := fun w => .inl rfl
  have hA := (Below.refl w.heap.size w).alloc (Nat.le_refl _) (.cells zeroBoard 83)
  have PZ := Blk.new w 83 zeroBoard
  have HZ := Lib.hid (show ∀ w1, Below w.heap.size w w1 → True from fun _ _ => trivial)
  unfold zeroBoard at hA PZ
  go_enter Try.func9, Try.ntmps9
  go_wp2_with fail
  refine (nobody_Rename (hNil _) _).mono ?_; rintro e w1 ⟨rfl, rfl⟩
  obtain ⟨zb, hzb⟩ : ∃ q, q = w.heap.size := ⟨_, rfl⟩
  have HZB := Lib.hid hzb
  rw [← hzb] at PZ ⊢
  clear hzb
  have hZ : NoBoard _ (.pointer (some ⟨zb, 0, none⟩)) := .inr ⟨zb, rfl, PZ⟩
  generalize w.alloc (.cells #[.pointer none, .int .i64 0, .int .i64 0, .int .i64 0, .int .i64 0, .map none] 83) = u at *
  clear PZ
  go_wp2_with fail
  refine (nobody_Rename hZ _).mono ?_; rintro e w1 ⟨rfl, rfl⟩
  go_wp2_with fail
  refine (nobody_Answer (hNil _) _ _).mono ?_; rintro e w1 ⟨rfl, rfl⟩
  go_wp2_with fail
  refine (nobody_Get hZ _).mono ?_; rintro e w1 ⟨rfl, hx1⟩
  have hW1 := below_step hA hx1
  have hZ1 := hZ.keep hx1
  clear hZ hx1 hA
  go_upto_region 7 with (fail)
  have hA2 := (Below.refl w1.heap.size w1).alloc (Nat.le_refl _) (.cells #[.bool false, .bool false, .int .i64 0] 72)
  have hW2 := below_step hW1 hA2
  have hZ2 := hZ1.keep hA2
  clear hW1 hZ1 hA2
  generalize w1.alloc (.cells #[.bool false, .bool false, .int .i64 0] 72) = u1 at *
  go_wp2_with fail
  refine (nobody_Tick hZ2).mono ?_; rintro e w2 ⟨rfl, rfl⟩
  go_wp2_with fail
  refine (nobody_Tick (hNil _)).mono ?_; rintro e w2 ⟨rfl, rfl⟩
  go_wp2_with fail
  refine (nobody_Set (hNil _) _ _ _).mono ?_; rintro e w2 ⟨rfl, rfl⟩
  have hA3 := (Below.refl u1.heap.size u1).alloc (Nat.le_refl _) (.cells #[.int .i64 id] 3)
  have hW3 := below_step hW2 hA3
  have hZ3 := hZ2.keep hA3
  clear hW2 hZ2 hA3
  generalize u1.alloc (.cells #[.int .i64 id] 3) = u2 at *
  go_wp2_with fail
  have hA4 := (Below.refl u2.heap.size u2).alloc (Nat.le_refl _) (.cells #[.int .i64 id] 3)
  have hW4 := below_step hW3 hA4
  have hZ4 := hZ3.keep hA4
  refine (nobody_Set hZ4 _ _ _).mono ?_; rintro e w2 ⟨rfl, rfl⟩
  clear hW3 hZ3 hA4
  generalize u2.alloc (.cells #[.int .i64 id] 3) = u3 at *
  go_wp2_with fail
  refine (nobody_Ids (hNil _)).mono ?_; rintro e w2 ⟨rfl, rfl⟩
  go_wp2_with fail
  refine (nobody_Up hZ4).mono ?_; rintro e w2 ⟨rfl, rfl⟩
  go_wp2_with fail
  refine (law22_awake _).mono ?_; rintro e w2 ⟨rfl, hx2⟩
  have hW5 := below_step hW4 hx2
  clear hW4 hx2 hZ4
  go_wp2_with fail
  go_ret
  exact ⟨rfl, hW5⟩
end Go.Proofs.Ytcpfekhpbjkgeaa
end
