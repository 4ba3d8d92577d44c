/- Lemmas for the claim's proof: EligA. -/
import Derived.Test.YtblbgafadadbmaaQ10
section
/- A set of hosts in memory; gather. -/
set_option linter.unusedVariables false
namespace Go.Proofs.Ytblbgafadadbmaa
open Go.RowKit
set_option maxHeartbeats 4000000
set_option maxRecDepth 100000
theorem contains_idx (z : Int) (l : List Int) : decide (0 ≤ idxI z l) = l.contains z := by
  unfold idxI
  cases h : l.findIdx? (fun x => x == z) with
  | none =>
    rw [List.findIdx?_eq_none_iff] at h
    have : ¬ z ∈ l := fun hm => by have := h z hm; simp at this
    simp [this]
  | some k =>
    rw [List.findIdx?_eq_some_iff_getElem] at h
    obtain ⟨hk, h1, _⟩ := h
    have : z ∈ l := by
      have e : l[k] = z := by simpa using h1
      rw [← e]; exact List.getElem_mem hk
    simp [this]
theorem contains_ints (A : Option Addr) (n c : Nat) (l : List Int) (z : Int) (w : World) (hl : IsList w .i64 A n c l) :
    Calls Try.prog 39 #[.slice A n c, .int .i64 z] w fun e w' => e = .returned (.bool (l.contains z)) ∧ w = w' := by
  have hC := contains_idx z l
  have hI := index_ints A n c l z w hl
  generalize idxI z l = I at *
  generalize l.contains z = B at *
  have HC := Lib.hid hC
  clear hC
  go_enter Try.func39, Try.ntmps39
  go_wp2_with fail
  refine hI.mono ?_; rintro e w' ⟨rfl, rfl⟩
  go_wp2
  go_ret
  exact ⟨by rw [← HC.out]; rfl, rfl⟩
/-- A set at g of the hosts of a tree at b: its weights, and which nodes have a host, in rows; its hosts. -/
structure SetIs (w : World) (g b n gw gs : Nat) (W : Nat → Int) (S : Nat → Bool) (vH : Value) (H : List Int) : Prop where
  blk : Blk w g 91 #[.pointer (some ⟨b, 0, none⟩), .slice (some ⟨gw, 0, none⟩) n n, .slice (some ⟨gs, 0, none⟩) n n, vH]
  rW : w.rowIs gw 24 n (fun j => .int .u64 (W j))
  rS : w.rowIs gs 4 n (fun j => .bool (S j))
  rH : w.ownsRow 0 3 1 vH H.length (ints H)
section
variable {w w' : World} {g b n gw gs : Nat} {W : Nat → Int} {S : Nat → Bool} {vH : Value} {H : List Int}
theorem row_type {f : Nat → Value} {t t' : TypeId} {cs : Array Value} {x y : Nat} {m : Nat} (h : w.rowIs x t m f) (h' : Blk w y t' cs) (hne : t ≠ t') : x ≠ y := fun e => by
  subst e
  obtain ⟨c, h1, _⟩ := h
  unfold Blk at h'
  rw [h1] at h'
  injection h' with h'
  injection h' with _ ht _
  exact hne ht
theorem row_type2 {f f' : Nat → Value} {t t' : TypeId} {x y m m' : Nat} (h : w.rowIs x t m f) (h' : w.rowIs y t' m' f') (hne : t ≠ t') : x ≠ y := fun e => by
  subst e
  obtain ⟨c, h1, _⟩ := h
  obtain ⟨c', h2, _⟩ := h'
  rw [h1] at h2
  injection h2 with h2
  injection h2 with _ ht _
  exact hne ht
theorem row_own {f : Nat → Value} {t t' : TypeId} {x m base s k : Nat} {v : Value} {xs : List Value} (h : w.rowIs x t m f) (h' : w.ownsRow base t' s v k xs) (hne : t ≠ t') : some x ≠ v.ownBlock := by
  obtain ⟨c, h1, _⟩ := h
  exact blk_type (T := t) (show Blk w x t c from h1) h' hne
theorem own_far {t : TypeId} {x base s k : Nat} {v : Value} {xs : List Value} (h : w.ownsRow base t s v k xs) (hx : some x ≠ v.ownBlock) (j : Nat) (u : Value) : (w.setCell ⟨x, j, none⟩ u).ownsRow base t s v k xs :=
  h.kept (row := some x) ⟨rfl, rfl, rfl, by simp, fun i hi hn => Below.heap_setCell w ⟨x, j, none⟩ u i (fun e => hn (by rw [e]))⟩ (.inr (fun e => hx e.symm))
theorem SetIs.keep (h : SetIs w g b n gw gs W S vH H) (hx : Below w.heap.size w w') : SetIs w' g b n gw gs W S vH H :=
  ⟨h.blk.keep hx, row_keep h.rW hx, row_keep h.rS hx, own_keep h.rH hx⟩
theorem SetIs.setW (h : SetIs w g b n gw gs W S vH H) {i : Nat} (z : Int) : SetIs (w.setCell ⟨gw, i, none⟩ (.int .u64 z)) g b n gw gs (fun j => if j = i then z else W j) S vH H where
  blk := h.blk.far (p := ⟨gw, i, none⟩) (row_type h.rW h.blk (by decide)).symm _
  rW := (h.rW.set i (.int .u64 z)).congr (fun j _ => by split <;> rfl)
  rS := h.rS.of_block (Below.heap_setCell w ⟨gw, i, none⟩ _ gs (row_type2 h.rS h.rW (by decide)))
  rH := own_far h.rH (row_own h.rW h.rH (by decide)) i _
theorem SetIs.setS (h : SetIs w g b n gw gs W S vH H) {i : Nat} (z : Bool) : SetIs (w.setCell ⟨gs, i, none⟩ (.bool z)) g b n gw gs W (fun j => if j = i then z else S j) vH H where
  blk := h.blk.far (p := ⟨gs, i, none⟩) (row_type h.rS h.blk (by decide)).symm _
  rW := h.rW.of_block (Below.heap_setCell w ⟨gs, i, none⟩ _ gw (row_type2 h.rW h.rS (by decide)))
  rS := (h.rS.set i (.bool z)).congr (fun j _ => by split <;> rfl)
  rH := own_far h.rH (row_own h.rS h.rH (by decide)) i _
theorem SetIs.congr {W' : Nat → Int} {S' : Nat → Bool} (h : SetIs w g b n gw gs W S vH H) (hW : ∀ j, j < n → W' j = W j) (hS : ∀ j, j < n → S' j = S j) : SetIs w g b n gw gs W' S' vH H :=
  ⟨h.blk, h.rW.congr (fun j hj => by rw [hW j hj]), h.rS.congr (fun j hj => by rw [hS j hj]), h.rH⟩
end
theorem list_mod {w w' : World} {S : Nat → Prop} {K : IntKind} {A : Option Addr} {n c : Nat} {l : List Int} (h : IsList w K A n c l) (hx : Mod S w w') (hn : 0 < n → ∀ ad, A = some ad → ¬ S ad.block) : IsList w' K A n c l :=
  ⟨⟨h.reads.1, fun hnn => by
    obtain ⟨ad, e, hb, hc⟩ := h.reads.2 hnn
    have hs := hn hnn ad e
    exact ⟨ad, e, Nat.lt_of_lt_of_le hb hx.size, fun j u hu => (hx.cell (by rw [block_of_add]; exact hb) (by rw [block_of_add]; exact hs)).trans (hc j u hu)⟩⟩, h.len, h.cap, h.small, h.wf, h.reach⟩
theorem Mod.own' {S : Nat → Prop} {w w' : World} (h : Mod S w w') {g : Nat} (hg : S g) (i : Nat) (u : Value) : Mod S w (w'.setCell ⟨g, i, none⟩ u) := h.setCell (p := ⟨g, i, none⟩) (.inl hg) u
/-- The sum of the first m weights below a node, and whether one of these has a host. -/
def sumTo (W : Nat → Int) (ks : List Nat) (m : Nat) : Int := (ks.take m).foldl (fun a k => IntKind.u64.wrap (a + W k)) 0
def anyTo (S : Nat → Bool) (ks : List Nat) (m : Nat) : Bool := (ks.take m).any S
theorem sumTo_step (W : Nat → Int) (ks : List Nat) (m : Nat) (hm : m < ks.length) : sumTo W ks (m + 1) = IntKind.u64.wrap (sumTo W ks m + W (ks.getD m 0)) := by
  unfold sumTo
  rw [List.take_succ_eq_append_getElem hm, List.foldl_append, List.getD_eq_getElem?_getD, List.getElem?_eq_getElem hm]; rfl
theorem anyTo_step (S : Nat → Bool) (ks : List Nat) (m : Nat) (hm : m < ks.length) : anyTo S ks (m + 1) = (anyTo S ks m || S (ks.getD m 0)) := by
  unfold anyTo
  rw [List.take_succ_eq_append_getElem hm, List.any_append, List.getD_eq_getElem?_getD, List.getElem?_eq_getElem hm]; simp
theorem elig_gather {b : Nat} {l : List Nd} {w0 w : World} (hT : TR w0 b l) (ht : Tall l) (hosts : List Int) {g gw gs : Nat} {W : Nat → Int} {S : Nat → Bool} {vH : Value} {H : List Int}
    (hb : Below w0.heap.size w0 w) (hgw : w0.heap.size ≤ gw) (hgs : w0.heap.size ≤ gs) (h : SetIs w g b l.length gw gs W S vH H) (i : Nat) (hi : i < l.length)
    (hk : ∀ k ∈ kidsN l i, W k = wt l hosts k ∧ S k = hs l hosts k) (h4 : (l.getD i nd0).kind = 4 → W i = wt l hosts i ∧ S i = hs l hosts i) (hn4 : (l.getD i nd0).kind ≠ 4 → W i = 0 ∧ S i = false) :
    Calls Try.prog 40 #[.pointer (some ⟨g, 0, none⟩), .int .i64 i] w fun e w' => e = .returned (.tuple #[]) ∧
      SetIs w' g b l.length gw gs (fun j => if j = i then wt l hosts i else W j) (fun j => if j = i then hs l hosts i else S j) vH H ∧ Below w0.heap.size w0 w' := by
  have hNd := tr_NodeIn (hT.keep hb) i hi
  obtain ⟨c0, c1, c2, c3, _⟩ := h.blk.cells4
  obtain ⟨x, hx⟩ : ∃ x, x = l.getD i nd0 := ⟨_, rfl⟩
  rw [← hx] at hNd h4 hn4
  have HX := Lib.hid hx
  clear hx
  unfold Nd.val at hNd
  go_enter Try.func40, Try.ntmps40
  go_wp2_with fail
  refine hNd.mono ?_; rintro e w1 ⟨rfl, hx1⟩
  clear hNd
  go_upto_region 1 with (fail)
  have hP := Blk.new w1 64 #[.string x.name, .int .i64 x.kind, .int .i64 x.above, .int .i64 x.weight, .bool x.six, .int .u64 x.hi, .int .u64 x.lo]
  have hxa : Below w1.heap.size w1 (w1.alloc (.cells #[.string x.name, .int .i64 x.kind, .int .i64 x.above, .int .i64 x.weight, .bool x.six, .int .u64 x.hi, .int .u64 x.lo] 64)) := (Below.refl _ _).alloc (Nat.le_refl _) _
  have hx2 := below_step hx1 hxa
  generalize w1.alloc (.cells #[.string x.name, .int .i64 x.kind, .int .i64 x.above, .int .i64 x.weight, .bool x.six, .int .u64 x.hi, .int .u64 x.lo] 64) = u at *
  have h2w' := (h.keep hx1).rW.lt
  have h2s' := (h.keep hx1).rS.lt
  have h2 := h.keep hx2
  have hb2 := below_step hb hx2
  clear h hb hx1 hx2 hxa c0 c1 c2 c3
  obtain ⟨p0, p1, p2, p3, p4, p5, p6, _⟩ := hP.cells7
  by_cases hk4 : x.kind = 4
  · have g1 : (x.kind == 4) = true := by rw [beq_iff_eq]; exact hk4
    obtain ⟨e1, e2⟩ := h4 hk4
    have h3 := h2.congr (W' := fun j => if j = i then wt l hosts i else W j) (S' := fun j => if j = i then hs l hosts i else S j) (fun j _ => by
      (try dsimp only); split
      · rename_i e; rw [e, e1]
      · rfl) (fun j _ => by
      (try dsimp only); split
      · rename_i e; rw [e, e2]
      · rfl)
    clear hk4 e1 e2 h4 hn4 hk
    go_wp2
    first | (go_end0; exact ⟨rfl, h3, hb2⟩) | (refine bodyPost_ret (results_none rfl _ _ _) rfl ⟨rfl, h3, hb2⟩) | (simp only [Exit.inBlock, Exit.then]; refine bodyPost_ret (results_none rfl _ _ _) rfl ⟨rfl, h3, hb2⟩)
  · have g1 : (x.kind == 4) = false := by rw [beq_eq_false_iff_ne]; exact hk4
    obtain ⟨e1, e2⟩ := hn4 hk4
    obtain ⟨c0, c1, c2, c3, _⟩ := h2.blk.cells4
    have hK := tr_Kids (hT.keep hb2) i
    have hkd : kidsOf l i = (kidsN l i).map fun k : Nat => (k : Int) := by
      unfold kidsOf
      rw [if_pos ⟨by omega, by omega⟩, Int.toNat_natCast, idx_kids]
    rw [hkd] at hK
    have HWT := Lib.hid (wt_node ht hosts hi (by rw [← HX.out]; exact hk4))
    have HHS := Lib.hid (hs_node ht hosts hi (by rw [← HX.out]; exact hk4))
    rw [← HX.out] at HWT
    obtain ⟨ks, hks⟩ : ∃ ks, ks = kidsN l i := ⟨_, rfl⟩
    have hkm := Lib.hid (show ∀ k ∈ ks, k < l.length ∧ i < k from fun k hkk => by rw [hks] at hkk; exact ⟨(mem_kids.1 hkk).1, (kid_kind ht hkk).1⟩)
    rw [← hks] at hK hk HWT HHS
    have hkl : ks.length ≤ 1024 := by
      rw [hks]
      unfold kidsN
      have := hT.few
      exact Nat.le_trans (List.length_filter_le _ _) (by rw [List.length_range]; exact this)
    have HKW := Lib.hid hk
    clear hks hkd h4 hn4 hk4 hk
    rw [List.length_map] at hK
    go_wp2_with fail
    refine hK.mono ?_; rintro e w3 ⟨A, c, rfl, hI, hfr, hx3⟩
    clear hK
    have h2w := h2.rW.lt
    have h2s := h2.rS.lt
    have h3 := h2.keep hx3
    have hb3 := below_step hb2 hx3
    have hP3 := hP.keep hx3
    clear h2 hb2 hP hx3 p0 p1 p2 p3 p4 p5 p6 c0 c1 c2 c3
    obtain ⟨n, hn⟩ : ∃ n, n = l.length := ⟨_, rfl⟩
    rw [← hn] at h3 hi
    have HN := Lib.hid hn.symm
    clear hn
    obtain ⟨q, hq⟩ : ∃ q, q = ks.length := ⟨_, rfl⟩
    rw [← hq] at hI hkl
    rw [← hq]
    have HQ := Lib.hid hq.symm
    clear hq
    have hcap := hI.cap
    have hsm := hI.small
    have hlW := h3.rW.lt
    have hlS := h3.rS.lt
    have hAfr : 0 < q → ∀ ad, A = some ad → ¬ (ad.block = gw ∨ ad.block = gs) := fun h0 ad e => by
      have h1 := hfr ad e
      have h4 := h2w
      have h5 := h2s
      omega
    have hPw : ¬ (w1.heap.size = gw ∨ w1.heap.size = gs) := by
      have h4 := h2w'
      have h5 := h2s'
      omega
    clear h2w h2s h2w' h2s' hfr
    have hS0 : SetIs w3 g b n gw gs (fun j => if j = i then sumTo (wt l hosts) ks 0 else W j) (fun j => if j = i then anyTo (hs l hosts) ks 0 else S j) vH H := h3.congr (fun j _ => by
      (try dsimp only); split
      · rename_i e; rw [e, e1]; rfl
      · rfl) (fun j _ => by
      (try dsimp only); split
      · rename_i e; rw [e, e2]; rfl
      · rfl)
    have hii : (i : Int) < (n : Int) := by omega
    clear h3 e1 e2
    go_wp2_with fail
    go_loopg [6, 23] q (fun gk s6 s23 wr => ∃ m : Nat, m ≤ q ∧ gk = q - m ∧ s23 = .int .i64 m ∧ SetIs wr g b n gw gs (fun j => if j = i then sumTo (wt l hosts) ks m else W j) (fun j => if j = i then anyTo (hs l hosts) ks m else S j) vH H ∧ Mod (fun k => k = gw ∨ k = gs) w3 wr)
    case atStart => exact ⟨0, Nat.zero_le _, rfl, rfl, hS0, Mod.refl _ _⟩
    case round =>
      clear hS0
      obtain ⟨m, hm, rfl, rfl, hS, hM⟩ := hrel
      by_cases hlt : m < q
      · obtain ⟨ad, rfl, _, x0, _⟩ := (list_mod hI hM hAfr).get hlt
        have hmi : (m : Int) < (q : Int) := by omega
        have hmk : m < ks.length := by rw [HQ.out]; exact hlt
        have hke : (ks.map fun k : Nat => (k : Int)).getD m 0 = ((ks.getD m 0 : Nat) : Int) := by
          rw [List.getD_eq_getElem?_getD, List.getD_eq_getElem?_getD, List.getElem?_map, List.getElem?_eq_getElem hmk]; rfl
        rw [hke] at x0
        have hkin : ks.getD m 0 ∈ ks := by rw [List.getD_eq_getElem?_getD, List.getElem?_eq_getElem hmk]; exact List.getElem_mem hmk
        obtain ⟨hk1, hk2⟩ := hkm.out _ hkin
        obtain ⟨hw1, hs1⟩ := HKW.out _ hkin
        have HSU := Lib.hid (sumTo_step (wt l hosts) ks m hmk)
        have HAN := Lib.hid (anyTo_step (hs l hosts) ks m hmk)
        rw [HN.out] at hk1
        generalize ks.getD m 0 = k at *
        clear hke hkin hmk
        have hkn : (k : Int) < (n : Int) := by omega
        have rwi := hS.rW.cell (i := i) hi
        have rwk := hS.rW.cell (i := k) hk1
        rw [if_pos rfl] at rwi
        rw [if_neg (by omega), hw1] at rwk
        obtain ⟨c0, c1, c2, c3, _⟩ := hS.blk.cells4
        obtain ⟨sm, hsm0⟩ : ∃ sm, sm = sumTo (wt l hosts) ks m := ⟨_, rfl⟩
        obtain ⟨wk, hwk0⟩ : ∃ wk, wk = wt l hosts k := ⟨_, rfl⟩
        rw [← hsm0, ← hwk0] at HSU
        rw [← hsm0] at rwi
        rw [← hwk0] at rwk
        clear hsm0 hwk0 hw1
        have U1 := cell_under c1
        have U2 := cell_under rwi
        have U3 := cell_under rwk
        clear c0 c1 c2 c3 rwi rwk
        go_upto_region 5 with (fail)
        refine wp_region_under_tail 15 (by kernel_rfl) (by kernel_rfl) ?_
        simp only [List.take_succ_cons, List.take_zero, List.drop_succ_cons, List.drop_zero]
        repeat (go_big_quiet_step ((fail)))
        refine wpQuiet_nil ?_
        intro wu hw'
        obtain ⟨pq, hw''⟩ := hw'
        have hU := below_eq hw''
        clear hw'' pq
        have hS1 := hS.keep hU
        have hM1 := hM.thenB hU
        have hfz := hS1.rW.frozen i
        have hcl := hS1.rW.cell (i := i) hi
        clear U1 U2 U3 hU hS hM
        go_upto_region 6 with (fail)
        have hS2 := (hS1.setW (i := i) (IntKind.u64.wrap (sm + wk))).congr (W' := fun j => if j = i then sumTo (wt l hosts) ks (m + 1) else W j) (S' := fun j => if j = i then anyTo (hs l hosts) ks m else S j) (fun j _ => by
          (try dsimp only); rw [HSU.out]; split <;> rfl) (fun j _ => rfl)
        have hM2 := hM1.own' (.inl rfl) i (.int .u64 (IntKind.u64.wrap (sm + wk)))
        clear hS1 hM1 hfz hcl
        generalize wu.setCell ⟨gw, i, none⟩ (.int .u64 (IntKind.u64.wrap (sm + wk))) = wv at *
        obtain ⟨c0, c1, c2, c3, _⟩ := hS2.blk.cells4
        have rsi := hS2.rS.cell (i := i) hi
        have rsk := hS2.rS.cell (i := k) hk1
        rw [if_pos rfl] at rsi
        rw [if_neg (by omega), hs1] at rsk
        obtain ⟨an, han0⟩ : ∃ an, an = anyTo (hs l hosts) ks m := ⟨_, rfl⟩
        obtain ⟨ak, hak0⟩ : ∃ ak, ak = hs l hosts k := ⟨_, rfl⟩
        rw [← han0, ← hak0] at HAN
        rw [← han0] at rsi
        rw [← hak0] at rsk
        clear han0 hak0 hs1
        have U1 := cell_under c2
        have U2 := cell_under rsi
        have U3 := cell_under rsk
        clear c0 c1 c2 c3 rsi rsk
        cases an with
        | true =>
          refine wp_region_under_tail 21 (by kernel_rfl) (by kernel_rfl) ?_
          simp only [List.take_succ_cons, List.take_zero, List.drop_succ_cons, List.drop_zero]
          repeat (go_big_quiet_step ((fail)))
          refine wpQuiet_nil ?_
          intro wx hw'
          obtain ⟨pq, hw''⟩ := hw'
          have hU := below_eq hw''
          clear hw'' pq
          have hS3 := hS2.keep hU
          have hM3 := hM2.thenB hU
          have hfz := hS3.rS.frozen i
          have hcl := hS3.rS.cell (i := i) hi
          have hS4 := (hS3.setS (i := i) true).congr (W' := fun j => if j = i then sumTo (wt l hosts) ks (m + 1) else W j) (S' := fun j => if j = i then anyTo (hs l hosts) ks (m + 1) else S j) (fun j _ => rfl) (fun j _ => by
            (try dsimp only); rw [HAN.out]; split <;> rfl)
          have hM4 := hM3.own' (.inr rfl) i (.bool true)
          clear U1 U2 U3 hU hS2 hM2 hS3 hM3
          go_wp2
          go_roundg (q - (m + 1))
          case measure => omega
          case rel => exact ⟨m + 1, by omega, rfl, by go_num, hS4, hM4⟩
        | false =>
          refine wp_region_under_tail 21 (by kernel_rfl) (by kernel_rfl) ?_
          simp only [List.take_succ_cons, List.take_zero, List.drop_succ_cons, List.drop_zero]
          repeat (go_big_quiet_step ((fail)))
          refine wpQuiet_nil ?_
          intro wx hw'
          obtain ⟨pq, hw''⟩ := hw'
          have hU := below_eq hw''
          clear hw'' pq
          have hS3 := hS2.keep hU
          have hM3 := hM2.thenB hU
          have hfz := hS3.rS.frozen i
          have hcl := hS3.rS.cell (i := i) hi
          have hS4 := (hS3.setS (i := i) ak).congr (W' := fun j => if j = i then sumTo (wt l hosts) ks (m + 1) else W j) (S' := fun j => if j = i then anyTo (hs l hosts) ks (m + 1) else S j) (fun j _ => rfl) (fun j _ => by
            (try dsimp only); rw [HAN.out]; split <;> simp)
          have hM4 := hM3.own' (.inr rfl) i (.bool ak)
          clear U1 U2 U3 hU hS2 hM2 hS3 hM3
          go_wp2
          go_roundg (q - (m + 1))
          case measure => omega
          case rel => exact ⟨m + 1, by omega, rfl, by go_num, hS4, hM4⟩
      · obtain rfl : m = q := by omega
        have es : sumTo (wt l hosts) ks m = ks.foldl (fun a k => IntKind.u64.wrap (a + wt l hosts k)) 0 := by unfold sumTo; rw [List.take_of_length_le (by rw [HQ.out]; exact Nat.le_refl _)]
        have ea : anyTo (hs l hosts) ks m = hs l hosts i := by unfold anyTo; rw [List.take_of_length_le (by rw [HQ.out]; exact Nat.le_refl _), HHS.out]
        rw [es, ea] at hS
        have hb4 := below_thenMod hb3 (Nat.le_refl _) hM (fun k hk => by rcases hk with e | e <;> rw [e] <;> assumption)
        have HWB := Lib.hid (tall_head ht i (by rw [HN.out]; exact hi))
        rw [← HX.out] at HWB
        obtain ⟨p0, p1, p2, p3, p4, p5, p6, _⟩ := (hP3.mod hM hPw).cells7
        obtain ⟨c0, c1, c2, c3, _⟩ := hS.blk.cells4
        have rsi := hS.rS.cell (i := i) hi
        rw [if_pos rfl] at rsi
        clear es ea
        generalize ks.foldl (fun a k => IntKind.u64.wrap (a + wt l hosts k)) 0 = F at *
        have hwlo := HWB.out.weight0
        have hwhi := HWB.out.weight1
        obtain ⟨B, hB⟩ : ∃ B, B = hs l hosts i := ⟨_, rfl⟩
        rw [← hB] at rsi HWT
        have HBB := Lib.hid hB
        clear hB
        by_cases hw : 0 < x.weight
        · have f1 : decide (0 < x.weight) = true := decide_eq_true hw
          cases B with
          | true =>
            rw [if_pos ⟨hw, rfl⟩] at HWT
            have kq : IntKind.u64.wrap x.weight = x.weight := by rw [IntKind.wrap_u64]; omega
            clear hw
            go_upto_region 9 with (fail)
            have U1 := cell_under c1
            have U2 := cell_under p3
            clear c0 c1 c2 c3 p0 p1 p2 p3 p4 p5 p6 rsi
            refine wp_region_under_tail 8 (by kernel_rfl) (by kernel_rfl) ?_
            simp only [List.take_succ_cons, List.take_zero, List.drop_succ_cons, List.drop_zero]
            repeat (go_big_quiet_step ((fail)))
            refine wpQuiet_nil ?_
            intro wx hw'
            obtain ⟨pq, hw''⟩ := hw'
            have hU := below_eq hw''
            clear hw'' pq
            have hS3 := hS.keep hU
            have hb5 := below_step hb4 hU
            have hfz := hS3.rW.frozen i
            have hcl := hS3.rW.cell (i := i) hi
            have hS4 := (hS3.setW (i := i) x.weight).congr (W' := fun j => if j = i then wt l hosts i else W j) (S' := fun j => if j = i then hs l hosts i else S j) (fun j _ => by
              (try dsimp only); rw [HWT.out]; split <;> rfl) (fun j _ => rfl)
            have hb6 := below_own hb5 hgw i (.int .u64 x.weight)
            clear U1 U2 hU hS hM hS3 hb4 hb5
            go_wp2
            go_end0
            exact ⟨rfl, by rw [HN.out]; exact hS4, hb6⟩
          | false =>
            rw [if_neg (by simp)] at HWT
            have hS4 := hS.congr (W' := fun j => if j = i then wt l hosts i else W j) (S' := fun j => if j = i then hs l hosts i else S j) (fun j _ => by
              (try dsimp only); rw [HWT.out]) (fun j _ => rfl)
            clear hw
            go_wp2
            first | (go_end0; exact ⟨rfl, by rw [HN.out]; exact hS4, hb4⟩) | (refine bodyPost_ret (results_none rfl _ _ _) rfl ⟨rfl, by rw [HN.out]; exact hS4, hb4⟩) | (simp only [Exit.inBlock, Exit.then]; refine bodyPost_ret (results_none rfl _ _ _) rfl ⟨rfl, by rw [HN.out]; exact hS4, hb4⟩)
        · have f1 : decide (0 < x.weight) = false := decide_eq_false hw
          rw [if_neg (by rintro ⟨h1, _⟩; exact hw h1)] at HWT
          have hS4 := hS.congr (W' := fun j => if j = i then wt l hosts i else W j) (S' := fun j => if j = i then hs l hosts i else S j) (fun j _ => by
            (try dsimp only); rw [HWT.out]) (fun j _ => rfl)
          clear hw
          go_wp2
          first | (go_end0; exact ⟨rfl, by rw [HN.out]; exact hS4, hb4⟩) | (refine bodyPost_ret (results_none rfl _ _ _) rfl ⟨rfl, by rw [HN.out]; exact hS4, hb4⟩) | (simp only [Exit.inBlock, Exit.then]; refine bodyPost_ret (results_none rfl _ _ _) rfl ⟨rfl, by rw [HN.out]; exact hS4, hb4⟩)
end Go.Proofs.Ytblbgafadadbmaa
end
