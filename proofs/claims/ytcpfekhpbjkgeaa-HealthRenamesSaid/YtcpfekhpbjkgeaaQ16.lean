/- Lemmas for the claim's proof: HealthC HealthD SortInts HealthE HealthF HealthG HealthH. -/
import Derived.Shelf.Sort.Plain
import Derived.Shelf.Slices.In.SortNone
import Derived.Sort.OwnSortedInts
import Derived.Test.YtcpfekhpbjkgeaaQ01
import Derived.Test.YtcpfekhpbjkgeaaQ15
section
/- A board's Answer, Get. -/
set_option linter.unusedVariables false
namespace Go.Proofs.Ytcpfekhpbjkgeaa
open Go.RowKit Go.Maps
set_option maxHeartbeats 8000000
set_option maxRecDepth 100000
def Bd.turn (s : Bd) (i : Int) (k : Hg) : Bd := { s with G := updG s.G i k }
theorem hearG_row (r : Rul) (h : Hg) (ok : Bool) (hr : I64 h.row) (hr2 : h.row < 4611686018427387904) : I64 (hearG r h ok).row := by
  unfold I64 at hr ⊢
  unfold hearG
  by_cases c : ok = h.up
  · rw [if_pos c]; dsimp only; omega
  · rw [if_neg c]
    by_cases d : h.row + 1 < (if ok then r.rise else r.fall)
    · rw [if_pos d]; dsimp only; omega
    · rw [if_neg d]; dsimp only; omega
theorem IsBoard.turn {w w' : World} {B : Nat} {s : Bd} (hB : IsBoard w B s) {i : Int} {h k : Hg} (hi : s.G i = some h) (hb : k.b = h.b) (hk : I64 k.row) (hP : Blk w' h.b 72 k.cells) (hM : Mod (fun g => g = h.b) w w') : BdTo w w' B s (s.turn i k) := by
  have PH := (hB.host i h hi).1
  have hsame : ∀ g, bIn (s.turn i k) g → bIn s g := fun g hg => by
    rcases hg with h1 | h1 | h1 | ⟨j, q, hj, h1⟩
    · exact .inl h1
    · exact .inr (.inl h1)
    · exact .inr (.inr (.inl h1))
    · refine .inr (.inr (.inr ?_))
      have hj : updG s.G i k j = some q := hj
      unfold updG at hj
      split at hj
      · cases hj; exact ⟨i, h, hi, by rw [h1, hb]⟩
      · exact ⟨j, q, hj, h1⟩
  refine ⟨⟨hB.blk.mod hM (hB.blk.ne_ PH (by decide)), hB.lowb, hB.lowm, hB.wh.mod hM (fun g hg e => wheel_notblk (s := s) hB.wh PH (by decide) (by decide) (e ▸ hg)), ?_, fun j q hj => ?_, fun a b p q ha hq e => ?_, fun j q hj => ?_⟩, hM.mono (fun g e => .inr (.inr (.inr ⟨i, h, hi, e⟩))), fun g hg => .inl (hsame g hg)⟩
  · show IMap Try.prog 3 .i64 w' s.mb s.n (ptrF (updG s.G i k))
    rw [ptrF_turn hi hb]
    exact hB.map.same (hM.block s.mb hB.map.lt (map_notcells hB.map PH))
  · have hj : updG s.G i k j = some q := hj
    unfold updG at hj
    split at hj
    · cases hj
      exact ⟨by rw [hb]; exact hP, by rw [hb]; exact (hB.host i h hi).2.1, hk⟩
    · rename_i hne
      exact ⟨(hB.host j q hj).1.mod hM (fun e => hne (hB.inj j i q h hj hi e)), (hB.host j q hj).2⟩
  · have ha : updG s.G i k a = some p := ha
    have hq : updG s.G i k b = some q := hq
    unfold updG at ha hq
    split at ha
    · rename_i e1
      split at hq
      · rename_i e2; rw [e1, e2]
      · cases ha
        rw [hb] at e
        have := hB.inj i b h q hi hq e
        rw [e1, this]
    · split at hq
      · rename_i e2
        cases hq
        rw [hb] at e
        have := hB.inj a i p h ha hi e
        rw [this, e2]
      · exact hB.inj a b p q ha hq e
  · have hj : updG s.G i k j = some q := hj
    unfold updG at hj
    split at hj
    · rename_i e; rw [e]; exact hB.keys i h hi
    · exact hB.keys j q hj
end Go.Proofs.Ytcpfekhpbjkgeaa
end
section
/- A board's Answer, Get. -/
set_option linter.unusedVariables false
namespace Go.Proofs.Ytcpfekhpbjkgeaa
open Go.RowKit Go.Maps
set_option maxHeartbeats 8000000
set_option maxRecDepth 100000
/-- Hosts whose rows are short. -/
def RowsShort (s : Bd) : Prop := ∀ i h, s.G i = some h → h.row < 4611686018427387904
def ansT (s : Bd) (i : Int) (ok : Bool) : Bool × Int := match s.G i with | some h => if h.asked = true then (hearT s.r h ok, 0) else (false, 7) | none => (false, 7)
def ansB (s : Bd) (i : Int) (ok : Bool) : Bd := match s.G i with | some h => if h.asked = true then s.turn i (hearG s.r h ok) else s | none => s
theorem ptr_look (G : Int → Option Hg) (i : Int) : (ptrF G i).getD (.pointer none) = match G i with | some h => hPtr h | none => .pointer none := by
  unfold ptrF; cases G i <;> rfl
theorem board_Answer {w : World} {B : Nat} {s : Bd} (hB : IsBoard w B s) (hr : RowsShort s) {i : Int} (hi : I64 i) (ok : Bool) :
    Calls Try.prog 32 #[.pointer (some ⟨s.bb, 0, none⟩), .int .i64 i, .bool ok] w fun e w' => e = .returned (.tuple #[.bool (ansT s i ok).1, .int .i64 (ansT s i ok).2]) ∧ BdTo w w' B s (ansB s i ok) := by
  have CN := board_none hB
  obtain ⟨c0, c1, c2, c3, c4, c5, _⟩ := hB.blk.cells6
  have hwl : (Lit.int .i64 i).wf = true := by unfold I64 at hi; exact WalkArith.wf_i64 hi
  have hlk := ptr_look s.G i
  have HT := Lib.hid (show ansT s i ok = match s.G i with | some h => if h.asked = true then (hearT s.r h ok, 0) else (false, 7) | none => (false, 7) from rfl)
  have HA := Lib.hid (show ansB s i ok = match s.G i with | some h => if h.asked = true then s.turn i (hearG s.r h ok) else s | none => s from rfl)
  generalize ansT s i ok = T at *
  generalize ansB s i ok = S2 at *
  have hmap := hB.map
  go_enter Try.func32, Try.ntmps32
  go_wp2_with fail
  refine CN.mono ?_; rintro e w1 ⟨rfl, rfl⟩
  clear CN
  cases hg : s.G i with
  | none =>
    rw [hg] at hlk HT HA
    dsimp only at hlk
    have HT2 := Lib.hid (show T = (false, 7) from HT.out)
    have HA2 := Lib.hid (show S2 = s from HA.out)
    clear HT HA hg
    go_wp2_with (at_lookup; go_loud (refine wpList_look_iv _ rfl _ _ 81 rfl 3 123 .i64 Try.underlying3 Try.underlying81 (Try.zeroValue123 _) s.mb s.n (ptrF s.G) rfl hmap i rfl hwl _ hlk ?_))
    go_ret2
    exact ⟨by rw [HT2.out]; rfl, by rw [HA2.out]; exact BdTo.same hB (Below.refl _ _)⟩
  | some h =>
    rw [hg] at hlk HT HA
    dsimp only [hPtr] at hlk
    have PH := (hB.host i h hg).1
    obtain ⟨p0, p1, p2, _⟩ := PH.cells3
    by_cases ha : h.asked = true
    · rw [ha] at p1
      have HT2 := Lib.hid (show T = (hearT s.r h ok, 0) by rw [HT.out]; dsimp only; rw [if_pos ha])
      have HA2 := Lib.hid (show S2 = s.turn i (hearG s.r h ok) by rw [HA.out]; dsimp only; rw [if_pos ha])
      have CH := board_hear hB hg (hr i h hg) ok
      have HG := Lib.hid hg
      clear HT HA hg
      go_wp2_with (at_lookup; go_loud (refine wpList_look_iv _ rfl _ _ 81 rfl 3 123 .i64 Try.underlying3 Try.underlying81 (Try.zeroValue123 _) s.mb s.n (ptrF s.G) rfl hmap i rfl hwl _ hlk ?_))
      refine CH.mono ?_; rintro e w2 ⟨rfl, hP2, hM2⟩
      have HR := Lib.hid (hB.turn HG.out (hearG_b s.r h ok) (hearG_row s.r h ok (hB.host i h HG.out).2.2 (hr i h HG.out)) hP2 hM2)
      clear CH hP2 hM2 p0 p1 p2 PH
      go_wp2
      go_ret2
      exact ⟨by rw [HT2.out]; rfl, by rw [HA2.out]; exact HR.out⟩
    · rw [show h.asked = false by simpa using ha] at p1
      have HT2 := Lib.hid (show T = (false, 7) by rw [HT.out]; dsimp only; rw [if_neg ha])
      have HA2 := Lib.hid (show S2 = s by rw [HA.out]; dsimp only; rw [if_neg ha])
      clear HT HA hg ha
      go_wp2_with (at_lookup; go_loud (refine wpList_look_iv _ rfl _ _ 81 rfl 3 123 .i64 Try.underlying3 Try.underlying81 (Try.zeroValue123 _) s.mb s.n (ptrF s.G) rfl hmap i rfl hwl _ hlk ?_))
      go_ret2
      exact ⟨by rw [HT2.out]; rfl, by rw [HA2.out]; exact BdTo.same hB (Below.refl _ _)⟩
end Go.Proofs.Ytcpfekhpbjkgeaa
end
section
/- slices.Sort of numbers: the library's contract, laid by the shelf's tool in its plain mode. -/
set_option linter.unusedVariables false
namespace Go.Proofs.Ytcpfekhpbjkgeaa
open Go.Shelf Go.Proofs
def Try.sortInts_ren : Go.Shelf.Ren := ⟨fun | 189 => 65 | 125 => 77 | 257 => 76 | 128 => 93 | 129 => 94 | 294 => 84 | 295 => 85 | 296 => 86 | 297 => 87 | 298 => 88 | 299 => 89 | 216 => 90 | 300 => 91 | 301 => 92 | 328 => 112 | 329 => 113 | 330 => 114 | 331 => 115 | 332 => 116 | 215 => 79 | 343 => 124 | n => n, fun | 28 => 60 | 3 => 3 | 46 => 144 | 0 => 0 | 51 => 159 | 53 => 161 | 4 => 4 | 183 => 152 | 182 => 151 | 131 => 127 | 5 => 5 | 9 => 9 | 218 => 172 | 222 => 176 | 228 => 182 | 229 => 183 | n => n, fun | n => n⟩
theorem Try.sortInts : Go.Proofs.Lays.n189 Try.prog Try.sortInts_ren := {
  mixed := by kernel_rfl
  f125 := Try.func77.trans (congrArg some (by kernel_rfl))
  f128 := Try.func93.trans (congrArg some (by kernel_rfl))
  f129 := Try.func94.trans (congrArg some (by kernel_rfl))
  f189 := Try.func65.trans (congrArg some (by kernel_rfl))
  f215 := Try.func79.trans (congrArg some (by kernel_rfl))
  f216 := Try.func90.trans (congrArg some (by kernel_rfl))
  f257 := Try.func76.trans (congrArg some (by kernel_rfl))
  f294 := Try.func84.trans (congrArg some (by kernel_rfl))
  f295 := Try.func85.trans (congrArg some (by kernel_rfl))
  f296 := Try.func86.trans (congrArg some (by kernel_rfl))
  f297 := Try.func87.trans (congrArg some (by kernel_rfl))
  f298 := Try.func88.trans (congrArg some (by kernel_rfl))
  f299 := Try.func89.trans (congrArg some (by kernel_rfl))
  f300 := Try.func91.trans (congrArg some (by kernel_rfl))
  f301 := Try.func92.trans (congrArg some (by kernel_rfl))
  f328 := Try.func112.trans (congrArg some (by kernel_rfl))
  f329 := Try.func113.trans (congrArg some (by kernel_rfl))
  f330 := Try.func114.trans (congrArg some (by kernel_rfl))
  f331 := Try.func115.trans (congrArg some (by kernel_rfl))
  f332 := Try.func116.trans (congrArg some (by kernel_rfl))
  f343 := Try.func124.trans (congrArg some (by kernel_rfl))
  t0 := Try.underlying0
  a0 := Try.isAgg0
  z0 := Try.sizeOf0
  v0 := Try.zeroValue0
  t3 := Try.underlying3
  a3 := Try.isAgg3
  z3 := Try.sizeOf3
  v3 := Try.zeroValue3
  t4 := Try.underlying4
  a4 := Try.isAgg4
  z4 := Try.sizeOf4
  v4 := Try.zeroValue4
  t5 := Try.underlying5
  a5 := Try.isAgg5
  z5 := Try.sizeOf5
  v5 := Try.zeroValue5
  t9 := Try.underlying9
  a9 := Try.isAgg9
  z9 := Try.sizeOf9
  v9 := Try.zeroValue9
  t28 := Try.underlying60
  a28 := Try.isAgg60
  z28 := Try.sizeOf60
  v28 := Try.zeroValue60
  t46 := Try.underlying144
  a46 := Try.isAgg144
  z46 := Try.sizeOf144
  v46 := Try.zeroValue144
  t51 := Try.underlying159
  a51 := Try.isAgg159
  z51 := Try.sizeOf159
  v51 := Try.zeroValue159
  t53 := Try.underlying161
  a53 := Try.isAgg161
  z53 := Try.sizeOf161
  v53 := Try.zeroValue161
  t131 := Try.underlying127
  a131 := Try.isAgg127
  z131 := Try.sizeOf127
  v131 := Try.zeroValue127
  t182 := Try.underlying151
  a182 := Try.isAgg151
  z182 := Try.sizeOf151
  v182 := Try.zeroValue151
  t183 := Try.underlying152
  a183 := Try.isAgg152
  z183 := Try.sizeOf152
  v183 := Try.zeroValue152
  t218 := Try.underlying172
  a218 := Try.isAgg172
  z218 := Try.sizeOf172
  v218 := Try.zeroValue172
  t222 := Try.underlying176
  a222 := Try.isAgg176
  z222 := Try.sizeOf176
  v222 := Try.zeroValue176
  t228 := Try.underlying182
  a228 := Try.isAgg182
  z228 := Try.sizeOf182
  v228 := Try.zeroValue182
  t229 := Try.underlying183
  a229 := Try.isAgg183
  z229 := Try.sizeOf183
  v229 := Try.zeroValue183 }
end Go.Proofs.Ytcpfekhpbjkgeaa
end
section
/- A board's Ids: the hosts' numbers, rising. -/
set_option linter.unusedVariables false
namespace Go.Proofs.Ytcpfekhpbjkgeaa
open Go.RowKit Go.Maps Go.Sort Go.Shelf
set_option maxHeartbeats 8000000
set_option maxRecDepth 100000
/-- Keys as they come out of a map, in whatever order. -/
structure Come (mem : Int → Bool) (left : Int → Bool) (ks : List Int) : Prop where
  nodup : ks.Nodup
  sub : ∀ k ∈ ks, mem k = true
  left_eq : ∀ y, left y = (mem y && !ks.contains y)
theorem come_start (mem : Int → Bool) : Come mem mem [] := ⟨List.nodup_nil, (fun k hk => by cases hk), (fun y => by simp)⟩
theorem Come.step {mem left : Int → Bool} {ks : List Int} (h : Come mem left ks) {x : Int} (hx : left x = true) : Come mem (fun y => left y && y != x) (ks ++ [x]) := by
  have h1 := h.left_eq x
  rw [hx] at h1
  have h1 := h1.symm
  simp only [Bool.and_eq_true, Bool.not_eq_true'] at h1
  refine ⟨?_, fun k hk => ?_, fun y => ?_⟩
  · rw [List.nodup_append]
    refine ⟨h.nodup, by simp, fun a ha b hb => ?_⟩
    obtain rfl := List.mem_singleton.1 hb
    rintro rfl
    have : ks.contains a = true := by simpa using ha
    rw [h1.2] at this; cases this
  · rcases List.mem_append.1 hk with hk | hk
    · exact h.sub k hk
    · obtain rfl := List.mem_singleton.1 hk; exact h1.1
  · show (left y && y != x) = _
    rw [h.left_eq y]
    by_cases e : y = x
    · subst e; simp
    · simp [e]
theorem Come.all {mem left : Int → Bool} {ks : List Int} (h : Come mem left ks) (hl : ∀ x, left x = false) {y : Int} (hy : mem y = true) : y ∈ ks := by
  have := h.left_eq y
  rw [hl y, hy] at this
  simpa using this
theorem rise_of : ∀ {o : List Int}, o.Pairwise (· ≤ ·) → o.Nodup → o.Pairwise (· < ·)
  | [], _, _ => List.Pairwise.nil
  | x :: o, h1, h2 => by
    obtain ⟨a, b⟩ := List.pairwise_cons.1 h1
    obtain ⟨c, d⟩ := List.nodup_cons.1 h2
    exact List.pairwise_cons.2 ⟨fun y hy => by have := a y hy; have : x ≠ y := fun e => c (e ▸ hy); omega, rise_of b d⟩
/-- slices.Sort, of numbers that a slice owns. -/
theorem sortInts_own {w : World} {B : Nat} {T : TypeId} {v : Value} (zs : List Int) (h : w.ownsRow B T 1 v zs.length (zs.map (Value.int .i64))) (hn : zs.length < 4611686018427387904) :
    Calls Try.prog 65 #[v] w fun e w' => e = .returned (.tuple #[]) ∧ ∃ o : List Int, o.Perm zs ∧ o.Pairwise (· ≤ ·) ∧ w'.ownsRow B T 1 v zs.length (o.map (Value.int .i64)) ∧ w.grownBy w' v.ownBlock := by
  have H := h
  obtain ⟨h0, ⟨rfl, hz⟩ | ⟨b, cap, cur, rfl, hb, hg, h1, h2, h3, h4⟩⟩ := H
  · have hl : zs = [] := List.length_eq_zero_iff.1 hz
    subst hl
    have hc := Any.slices_Sort_int_none Try.sortInts none 0 w
    change Calls Try.prog 65 _ _ _ at hc
    refine hc.mono ?_
    rintro e w' ⟨rfl, rfl⟩
    exact ⟨rfl, [], List.Perm.refl _, List.Pairwise.nil, h, ⟨rfl, rfl, rfl, Nat.le_refl _, fun _ _ _ => rfl⟩⟩
  · have hgl : b < w.heap.size := (Array.getElem?_eq_some_iff.1 hg).1
    have h4' : cur.toList.take zs.length = zs.map (Value.int .i64) := by simpa using h4
    have hc := Any.slices_Sort_int Try.sortInts b 0 cap zs w (holds_of_blockI hg h4') hgl hn
    change Calls Try.prog 65 _ _ _ at hc
    refine hc.mono ?_
    rintro e w' ⟨rfl, n, os, rfl⟩
    have hp : (zs.mergeSort fun x y => decide (x ≤ y)).Perm zs := List.mergeSort_perm _ _
    refine ⟨rfl, _, hp, ?_, ownsRow_sortedI hp.length_eq hb hg h1 h2 h3, grownBy_sortedI _⟩
    have := List.pairwise_mergeSort (le := fun x y : Int => decide (x ≤ y)) (fun a b c h1 h2 => by simp at *; omega) (fun a b => by simp; omega) zs
    exact this.imp (fun {a b} h => by simpa using h)
end Go.Proofs.Ytcpfekhpbjkgeaa
end
section
/- A board's Ids. -/
set_option linter.unusedVariables false
namespace Go.Proofs.Ytcpfekhpbjkgeaa
open Go.RowKit Go.Maps Go.Sort Go.Shelf
set_option maxHeartbeats 8000000
set_option maxRecDepth 100000
/-- A board's hosts' numbers, rising. -/
def RiseOf (K : List Int) (G : Int → Option Hg) : Prop := K.Pairwise (· < ·) ∧ ∀ i, i ∈ K ↔ (G i).isSome = true
theorem rise_one {K L : List Int} {G : Int → Option Hg} (h : RiseOf K G) (k : RiseOf L G) : K = L := by
  have hn : ∀ {M : List Int}, M.Pairwise (· < ·) → M.Nodup := fun h => h.imp fun {a b} hab => by omega
  have hp : K.Perm L := (List.perm_ext_iff_of_nodup (hn h.1) (hn k.1)).2 fun i => by rw [h.2, k.2]
  exact hp.eq_of_pairwise (fun a b _ _ h1 h2 => by omega) (h.1.imp fun {a b} h => Int.le_of_lt h) (k.1.imp fun {a b} h => Int.le_of_lt h)
theorem own_imap_ne {w : World} {b n : Nat} {f : Int → Option Value} {B : Nat} {e : TypeId} {s m : Nat} {v : Value} {xs : List Value} (h : IMap Try.prog 3 .i64 w b n f) (ho : w.ownsRow B e s v m xs) : some b ≠ v.ownBlock := by
  obtain ⟨D, ⟨es, clock, hb, _⟩, _⟩ := h
  rcases ho.2 with ⟨rfl, _⟩ | ⟨g, cap, cur, rfl, _, hg, _⟩
  · simp [Value.ownBlock]
  · intro e1
    simp only [Value.ownBlock, Option.some.injEq] at e1
    subst e1
    rw [hb] at hg; cases hg
theorem own_irange_ne {w : World} {b r n : Nat} {f : Int → Option Value} {left : Int → Bool} {cnt B : Nat} {e : TypeId} {s m : Nat} {v : Value} {xs : List Value} (h : IRange Try.prog 3 .i64 w b r n f left cnt) (ho : w.ownsRow B e s v m xs) : some r ≠ v.ownBlock := by
  obtain ⟨D, L, ⟨es, clock, since, seen, c0, _, _, _, _, hr, _⟩, _⟩ := h
  rcases ho.2 with ⟨rfl, _⟩ | ⟨g, cap, cur, rfl, _, hg, _⟩
  · simp [Value.ownBlock]
  · intro e1
    simp only [Value.ownBlock, Option.some.injEq] at e1
    subst e1
    rw [hr] at hg; cases hg
theorem Try.infoIntH : (Try.prog.info? 3).map (fun i => (i.zero, i.size, i.bytes)) = some (some (.int .i64 0), 1, 8) := by kernel_rfl
theorem board_Ids {w : World} {B : Nat} {s : Bd} (hB : IsBoard w B s) (hn : s.n ≤ 1000000) :
    Calls Try.prog 36 #[.pointer (some ⟨s.bb, 0, none⟩)] w fun e w' => (∃ v K, e = .returned v ∧ RiseOf K s.G ∧ w'.ownsRow w.heap.size 3 1 v K.length (K.map (Value.int .i64))) ∧ Below w.heap.size w w' := by
  obtain ⟨iI, hiI, hzI, hzI1, hzI2⟩ := info_parts Try.infoIntH
  have CN := board_none hB
  obtain ⟨c0, c1, c2, c3, c4, c5, _⟩ := hB.blk.cells6
  have hmap := hB.map
  obtain ⟨f, hf⟩ : ∃ f, f = ptrF s.G := ⟨_, rfl⟩
  rw [← hf] at hmap
  have HF := Lib.hid hf
  have hV : ∀ x v, f x = some v → ∃ c : Nat, v = Value.pointer (some ⟨c, 0, none⟩) := fun x v hx => by
    rw [hf] at hx
    unfold ptrF at hx
    obtain ⟨h, _, rfl⟩ := Option.map_eq_some_iff.1 hx
    exact ⟨h.b, rfl⟩
  have HMEM := Lib.hid (show ∀ y, (f y).isSome = (s.G y).isSome from fun y => by rw [hf]; unfold ptrF; simp)
  clear hf
  go_enter Try.func36, Try.ntmps36
  go_wp2_with fail
  refine CN.mono ?_; rintro e w1 ⟨rfl, rfl⟩
  clear CN
  go_wp2_with (at_range; go_loud (refine wpList_range_i _ rfl _ 81 rfl 3 123 .i64 Try.underlying3 Try.underlying81 s.mb s.n f rfl hmap ?_; intro w0 cnt hrg0 hg0 hs0 hcn))
  go_frame
  have hW0 := belowK_grown (Below.refl w.heap.size w) (Nat.le_refl _) hg0 (fun g hg => by cases hg)
  obtain ⟨rb, hrb⟩ : ∃ q, q = w.heap.size := ⟨_, rfl⟩
  have HRB := Lib.hid hrb
  rw [← hrb] at hrg0 ⊢
  have hcn2 : cnt ≤ 1000000 := by omega
  clear hs0 hg0 hmap hrb hcn c0 c1 c2 c3 c4 c5
  have HMET := Lib.hid (come_start (fun x => (f x).isSome))
  have HMEM2 := Lib.hid (show ∀ y, (fun x => (f x).isSome) y = (s.G y).isSome from HMEM.out)
  generalize (fun x => (f x).isSome) = mem at *
  go_loopg [3, 4] cnt (fun gk s3 s4 wr => ∃ (left : Int → Bool) (ks : List Int) (ct : Nat), gk = ct ∧ IRange Try.prog 3 .i64 wr s.mb rb s.n f left ct ∧ Hid (Come mem left ks) ∧ Hid (ks.length + ct ≤ cnt) ∧ wr.ownsRow w.heap.size 3 1 s3 ks.length (ks.map (Value.int .i64)) ∧ Below w.heap.size w wr)
  case atStart => exact ⟨mem, [], cnt, rfl, hrg0, HMET, Lib.hid (by simp), World.ownsRow_nil _ _ _ 1, hW0⟩
  case round =>
    clear hrg0 hW0 HMET
    obtain ⟨left, ks, ct, hgk, hrg, HMET, HCT, hO, hW⟩ := hrel
    subst hgk
    obtain ⟨Ao, co, rfl⟩ := ownK_sl hO
    go_wp2_with (at_next; go_loud (refine wpList_next_i _ rfl _ rfl 3 .i64 Try.underlying3 (fun c : Nat => Value.pointer (some ⟨c, 0, none⟩)) s.mb rb s.n f hV left gk rfl hrg ?_ ?_))
    · intro hl0
      have HK := Lib.hid (show ∀ i, i ∈ ks ↔ (s.G i).isSome = true from fun i => ⟨fun hh => by rw [← HMEM2.out]; exact HMET.out.sub i hh, fun hh => HMET.out.all hl0 (by rw [HMEM2.out]; exact hh)⟩)
      have hol : ks.length < 4611686018427387904 := by have := HCT.out; omega
      have CS := sortInts_own ks hO hol
      have HLOW := Lib.hid (fun g hg => (hO.lt g hg).1)
      clear hrg hO hl0 hV
      go_wp2_with fail
      refine CS.mono ?_; rintro e w2 ⟨rfl, o, ho2, ho1, hO2, hg2⟩
      have hW2 := belowK_grown hW hW.size hg2 HLOW.out
      have HR := Lib.hid (show RiseOf o s.G from ⟨rise_of ho1 (ho2.nodup_iff.2 HMET.out.nodup), fun i => by rw [ho2.mem_iff, HK.out]⟩)
      have hO3 : w2.ownsRow w.heap.size 3 1 (.slice Ao ks.length co) o.length (o.map (Value.int .i64)) := by rw [ho2.length_eq]; exact hO2
      have HO3 := Lib.hid hO3
      clear CS hO2 hO3 hg2 ho1 ho2 hW
      go_wp2
      go_ret
      exact ⟨⟨_, o, rfl, HR.out, HO3.out⟩, hW2⟩
    · intro x cc w1 cnt1 hlx hfx hwx hrg1 hlt hg1 hs1 hen
      have HMET1 := Lib.hid (HMET.out.step hlx)
      have hO1 := hO.kept hg1 (.inr (fun e => own_irange_ne hrg hO e.symm))
      have hW1 := belowK_grown hW hW.size hg1 (fun g hg => by cases hg; rw [HRB.out]; exact Nat.le_refl _)
      have hol : ks.length ≤ 1000000 := by have := HCT.out; omega
      have HCT1 := Lib.hid (show (ks ++ [x]).length + cnt1 ≤ cnt by rw [List.length_append]; have := HCT.out; simp only [List.length_cons, List.length_nil]; omega)
      clear hfx hrg hO hW hg1 hs1 HMET HCT hlx hwx
      have hts := hW1.size
      go_wp2_with (at_builtin; go_loud (refine wpList_append_any _ rfl (.tmp 16) (.tmp 18) _ rfl w.heap.size 3 iI _ 1 8 Try.underlying60 hiI hzI hzI1 hzI2 rfl (by decide) _ ks.length (ks.map (Value.int .i64)) rfl (hO1.alloc _) _ (some ⟨w1.heap.size, 0, none⟩) 1 1 [.int .i64 x] rfl (readsK_new w1 3 1 [.int .i64 x] rfl) (by intro u hu; simp at hu; subst hu; rfl) (by simp only [maxLen]; omega) (by omega) (by simp; omega) ?_; intro v6 w6 hown6 hg6 hat6))
      have hrg3 := hrg1.keep ((Below.refl w1.heap.size w1).alloc (Nat.le_refl _) (.cells #[.int .i64 x] 3))
      have hO3 := hO1.alloc (.cells #[.int .i64 x] 3)
      have hrg6 := hrg3.grown hg6 (own_imap_ne hrg3.map hO3) (own_irange_ne hrg3 hO3)
      have hown7 : w6.ownsRow w.heap.size 3 1 v6 (ks ++ [x]).length ((ks ++ [x]).map (Value.int .i64)) := by rw [List.length_append, List.map_append]; exact hown6
      have hW6 := belowK_grown (hW1.alloc hts (.cells #[.int .i64 x] 3)) (by simp; omega) hg6 (fun g hg => (hO1.lt g hg).1)
      clear hown6 hg6 hat6 hO1 hO3 hrg1 hrg3 hW1 hen
      go_wp2
      go_roundg cnt1
      case measure => omega
      case rel => exact ⟨_, ks ++ [x], cnt1, rfl, hrg6, HMET1, HCT1, hown7, hW6⟩
end Go.Proofs.Ytcpfekhpbjkgeaa
end
section
/- A board's Get. -/
set_option linter.unusedVariables false
namespace Go.Proofs.Ytcpfekhpbjkgeaa
open Go.RowKit Go.Maps
set_option maxHeartbeats 8000000
set_option maxRecDepth 100000
theorem results_host2 {P : Program} {fn : Func} {p q : Tmp} {ty : TypeId} (h : fn.results = #[.cell p ty, .tmp q]) (tmps : Array Value) (w : World) (g : Nat) (t : TypeId) (cs : Array Value) (fr : Nat × Nat) (d : TypeDesc)
    (hp : tmps.getD p undef = .pointer (some ⟨g, 0, none⟩)) (hg : w.heap[g]? = some (.cells cs t fr))
    (hu : P.underlying ty = some d) (hd : (match d with | .struct _ | .array _ _ => true | _ => false) = true) (hi : (P.info? ty).map (·.size) = some cs.size) :
    (results fn tmps).run P w = .ok (.tuple #[.agg cs, tmps.getD q undef]) w := by
  have hp' : tmps[p]?.getD undef = .pointer (some ⟨g, 0, none⟩) := by simpa using hp
  simp [results, h, hp', asAddr, run_loadVar_row w g t ty cs fr d hg hu hd hi]
theorem sizeHost : (Try.prog.info? 72).map (·.size) = some 3 := by kernel_rfl
def getT (s : Bd) (i : Int) : Array Value × Bool := match s.G i with | some h => (h.cells, true) | none => (#[.bool false, .bool false, .int .i64 0], false)
theorem eql_ptr_nil (m : Option Addr) (w : World) : (binOp .eql 123 (.pointer m) (.pointer none)).run Try.prog w = .ok (.bool m.isNone) w := by
  cases m <;> go_simp
theorem board_Get {w : World} {B : Nat} {s : Bd} (hB : IsBoard w B s) {i : Int} (hi : I64 i) :
    Calls Try.prog 33 #[.pointer (some ⟨s.bb, 0, none⟩), .int .i64 i] w fun e w' => e = .returned (.tuple #[.agg (getT s i).1, .bool (getT s i).2]) ∧ Below w.heap.size w w' := by
  have hA := (Below.refl w.heap.size w).alloc (Nat.le_refl _) (.cells #[.bool false, .bool false, .int .i64 0] 72)
  have PR := Blk.new w 72 #[.bool false, .bool false, .int .i64 0]
  have hB0 := Lib.hid hB
  have hB := hB.keep hA
  have CN := board_none hB
  obtain ⟨c0, c1, c2, c3, c4, c5, _⟩ := hB.blk.cells6
  have hwl : (Lit.int .i64 i).wf = true := by unfold I64 at hi; exact WalkArith.wf_i64 hi
  have hlk := ptr_look s.G i
  have HT := Lib.hid (show getT s i = match s.G i with | some h => (h.cells, true) | none => (#[.bool false, .bool false, .int .i64 0], false) from rfl)
  generalize getT s i = T at *
  have hmap := hB.map
  have hrun := hmap.look (t := 81) Try.underlying3 Try.underlying81 (Try.zeroValue123 _) hwl
  rw [hlk] at hrun
  have hle := hA
  have hq1 := fun m w => eql_ptr_nil m w
  go_enter Try.func33, Try.ntmps33
  go_upto_region 1 with (fail)
  obtain ⟨rb, hrb⟩ : ∃ q, q = w.heap.size := ⟨_, rfl⟩
  rw [← hrb] at PR ⊢
  have HRB := Lib.hid hrb
  clear hrb
  generalize w.alloc (.cells #[.bool false, .bool false, .int .i64 0] 72) = u at *
  go_wp2_with fail
  refine CN.mono ?_; rintro e w1 ⟨rfl, rfl⟩
  clear CN
  cases hg : s.G i with
  | none =>
    rw [hg] at hrun HT
    dsimp only at hrun
    have HT2 := Lib.hid (show T = (#[.bool false, .bool false, .int .i64 0], false) from HT.out)
    clear HT hg
    clear hlk
    obtain ⟨f0, f1, f2⟩ := PR.free3
    obtain ⟨q0, q1, q2, _⟩ := PR.cells3
    go_wp2
    have hQ : Blk _ rb 72 #[.bool false, .bool false, .int .i64 0] := ((PR.setTo 0 (.bool false) (ds := #[.bool false, .bool false, .int .i64 0]) rfl).setTo 1 (.bool false) (ds := #[.bool false, .bool false, .int .i64 0]) rfl).setTo 2 (.int .i64 0) rfl
    refine bodyPost_ret (v := .tuple #[.agg #[.bool false, .bool false, .int .i64 0], .bool false]) ?_ rfl ⟨by rw [HT2.out], ((hle.setCell (p := ⟨rb, 0, none⟩) (by rw [HRB.out]; exact Nat.le_refl _) _).setCell (p := ⟨rb, 1, none⟩) (by rw [HRB.out]; exact Nat.le_refl _) _).setCell (p := ⟨rb, 2, none⟩) (by rw [HRB.out]; exact Nat.le_refl _) _⟩
    exact results_host2 (p := 4) (q := 5) rfl _ _ _ _ _ (0, 0) _ rfl hQ Try.underlying72 rfl sizeHost
  | some h =>
    rw [hg] at hrun HT
    dsimp only [hPtr] at hrun
    have PH := (hB.host i h hg).1
    obtain ⟨p0, p1, p2, _⟩ := PH.cells3
    have HT2 := Lib.hid (show T = (h.cells, true) from HT.out)
    have hbne : h.b ≠ rb := fun e => by have h1 := (hB0.out.host i h hg).1.lt; rw [HRB.out] at e; omega
    clear HT hg hlk
    obtain ⟨f0, f1, f2⟩ := PR.free3
    obtain ⟨q0, q1, q2, _⟩ := PR.cells3
    obtain ⟨hu, ha, hw, hb⟩ := h
    dsimp only at *
    go_wp2
    have hQ : Blk _ rb 72 #[.bool hu, .bool ha, .int .i64 hw] := ((PR.setTo 0 (.bool hu) (ds := #[.bool hu, .bool false, .int .i64 0]) rfl).setTo 1 (.bool ha) (ds := #[.bool hu, .bool ha, .int .i64 0]) rfl).setTo 2 (.int .i64 hw) rfl
    refine bodyPost_ret (v := .tuple #[.agg #[.bool hu, .bool ha, .int .i64 hw], .bool true]) ?_ rfl ⟨by rw [HT2.out]; rfl, ((hle.setCell (p := ⟨rb, 0, none⟩) (by rw [HRB.out]; exact Nat.le_refl _) _).setCell (p := ⟨rb, 1, none⟩) (by rw [HRB.out]; exact Nat.le_refl _) _).setCell (p := ⟨rb, 2, none⟩) (by rw [HRB.out]; exact Nat.le_refl _) _⟩
    exact results_host2 (p := 4) (q := 5) rfl _ _ _ _ _ (0, 0) _ rfl hQ Try.underlying72 rfl sizeHost
end Go.Proofs.Ytcpfekhpbjkgeaa
end
section
/- A board's Up. -/
set_option linter.unusedVariables false
namespace Go.Proofs.Ytcpfekhpbjkgeaa
open Go.RowKit Go.Maps
set_option maxHeartbeats 8000000
set_option maxRecDepth 100000
def isUp (G : Int → Option Hg) (i : Int) : Bool := match G i with | some h => h.up | none => false
theorem takeI_next {l : List Int} {i : Nat} (h : i < l.length) : l.take (i + 1) = l.take i ++ [l.getD i 0] := by
  rw [List.take_add_one, List.getD_eq_getElem?_getD, List.getElem?_eq_getElem h]; rfl
theorem ownI_at {w : World} {B n c : Nat} {A : Option Addr} {l : List Int} (h : w.ownsRow B 3 1 (.slice A n c) n (l.map (Value.int .i64))) (hl : l.length = n) {k : Nat} (hk : k < n) : ∃ ad, A = some ad ∧ w.cell? (ad.add k) = some (.int .i64 (l.getD k 0)) := by
  obtain ⟨ad, e, hb, hc⟩ := (ownK_reads h).2 (by omega)
  exact ⟨ad, e, hc k _ (by rw [List.getElem?_map, List.getD_eq_getElem?_getD, List.getElem?_eq_getElem (by omega)]; rfl)⟩
theorem ownK_base {w : World} {B B' : Nat} {e : TypeId} {s m : Nat} {v : Value} {xs : List Value} (h : w.ownsRow B e s v m xs) (hB : B' ≤ B) : w.ownsRow B' e s v m xs :=
  ⟨h.1, h.2.imp id (fun ⟨g, cap, cur, e, hb, rest⟩ => ⟨g, cap, cur, e, Nat.le_trans hB hb, rest⟩)⟩
theorem isUp_get (s : Bd) (i : Int) : ∃ a r, (getT s i).1 = #[.bool (isUp s.G i), .bool a, .int .i64 r] := by
  unfold getT isUp
  cases s.G i with
  | none => exact ⟨_, _, rfl⟩
  | some h => exact ⟨_, _, rfl⟩
theorem board_Up {w : World} {B : Nat} {s : Bd} (hB : IsBoard w B s) (hn : s.n ≤ 1000000) (hk : ∀ K, RiseOf K s.G → K.length ≤ 1000) :
    Calls Try.prog 37 #[.pointer (some ⟨s.bb, 0, none⟩)] w fun e w' => (∃ v K, e = .returned v ∧ RiseOf K s.G ∧ w'.ownsRow w.heap.size 3 1 v (K.filter (isUp s.G)).length ((K.filter (isUp s.G)).map (Value.int .i64))) ∧ Below w.heap.size w w' := by
  obtain ⟨iI, hiI, hzI, hzI1, hzI2⟩ := info_parts Try.infoIntH
  have CI := board_Ids hB hn
  go_enter Try.func37, Try.ntmps37
  go_wp2_with fail
  refine CI.mono ?_; rintro e w1 ⟨⟨v1, K, rfl, hK, hO1⟩, hW1⟩
  clear CI
  obtain ⟨A1, c1, rfl⟩ := ownK_sl hO1
  have hcap := ownK_cap hO1
  have hK1 := hk K hK
  have HK := Lib.hid hK
  have HKI := Lib.hid (show ∀ i, i ∈ K → I64 i from fun i hi => by
    obtain ⟨h, hh⟩ := Option.isSome_iff_exists.1 ((hK.2 i).1 hi)
    have := hB.keys i h hh
    unfold I64; omega)
  have HB := Lib.hid (hB.keep hW1)
  obtain ⟨N, hN⟩ : ∃ N, N = K.length := ⟨_, rfl⟩
  have HN := Lib.hid hN
  rw [← hN] at hO1 hcap hK1 ⊢
  have HO1 := Lib.hid hO1
  clear hN hK hB hO1 hk
  go_wp2_with fail
  go_loopg [3, 5, 6, 7, 11] N (fun gk s3 s5 s6 s7 s11 wr => ∃ (k : Nat) (out : List Int), s11 = .int .i64 k ∧ k ≤ N ∧ gk = N - k ∧ Hid (out = (K.take k).filter (isUp s.G)) ∧ out.length ≤ k ∧ wr.ownsRow w1.heap.size 3 1 s3 out.length (out.map (Value.int .i64)) ∧ Below w1.heap.size w1 wr)
  case atStart => exact ⟨0, [], by go_num, Nat.zero_le _, rfl, Lib.hid rfl, Nat.le_refl _, World.ownsRow_nil _ _ _ 1, Below.refl _ _⟩
  case round =>
    obtain ⟨k, out, rfl, hk, rfl, HO, hol, hO, hb⟩ := hrel
    obtain ⟨Ao, co, rfl⟩ := ownK_sl hO
    by_cases hkn : k < N
    · have hkk : (k : Int) < (N : Int) := by omega
      obtain ⟨ad, rfl, d0⟩ := ownI_at (ownK_keep HO1.out hb) HN.out.symm hkn
      have HT := Lib.hid (takeI_next (l := K) (i := k) (by rw [← HN.out]; exact hkn))
      have hxi : I64 (K.getD k 0) := HKI.out _ (by rw [List.getD_eq_getElem?_getD, List.getElem?_eq_getElem (by rw [← HN.out]; exact hkn)]; exact List.getElem_mem _)
      obtain ⟨x, hx⟩ : ∃ x, x = K.getD k 0 := ⟨_, rfl⟩
      rw [← hx] at d0 HT hxi
      clear hx
      have CG := board_Get (HB.out.keep hb) hxi
      obtain ⟨ga, gr, hgt⟩ := isUp_get s x
      rw [hgt] at CG
      have HU := Lib.hid (rfl : isUp s.G x = isUp s.G x)
      obtain ⟨U, hU0⟩ : ∃ U, U = isUp s.G x := ⟨_, rfl⟩
      rw [← hU0] at CG
      have HU := Lib.hid hU0
      clear hU0 hgt
      generalize (getT s x).2 = gb at *
      go_wp2_with fail
      refine CG.mono ?_; rintro e w2 ⟨rfl, hx2⟩
      have hO2 := ownK_keep hO hx2
      have hb2 := below_step hb hx2
      clear CG hO hb hx2 d0
      go_upto_region 6 with (fail)
      have hA := (Below.refl w2.heap.size w2).alloc (Nat.le_refl _) (.cells #[.bool U, .bool ga, .int .i64 gr] 72)
      have PX := Blk.new w2 72 #[.bool U, .bool ga, .int .i64 gr]
      have hO3 := ownK_keep hO2 hA
      have hb3 := below_step hb2 hA
      obtain ⟨xb, hxb⟩ : ∃ q, q = w2.heap.size := ⟨_, rfl⟩
      rw [← hxb] at PX ⊢
      clear hO2 hb2 hA hxb
      generalize w2.alloc (.cells #[.bool U, .bool ga, .int .i64 gr] 72) = u at *
      obtain ⟨p0, p1, p2, _⟩ := PX.cells3
      have hus := hb3.size
      cases U with
      | true =>
        have HNN := Lib.hid (show out ++ [x] = (K.take (k + 1)).filter (isUp s.G) by rw [HT.out, List.filter_append, List.filter_cons_of_pos HU.out.symm, HO.out]; rfl)
        go_wp2_with (at_builtin; go_loud (refine wpList_append_any _ rfl (.tmp 23) (.tmp 25) _ rfl w1.heap.size 3 iI _ 1 8 Try.underlying60 hiI hzI hzI1 hzI2 rfl (by decide) _ out.length (out.map (Value.int .i64)) rfl (hO3.alloc _) _ (some ⟨u.heap.size, 0, none⟩) 1 1 [.int .i64 x] rfl (readsK_new u 3 1 [.int .i64 x] rfl) (by intro u hu; simp at hu; subst hu; rfl) (by simp only [maxLen]; omega) (by omega) (by simp; omega) ?_; intro v6 w6 hown6 hg6 hat6))
        have hown7 : w6.ownsRow w1.heap.size 3 1 v6 (out ++ [x]).length ((out ++ [x]).map (Value.int .i64)) := by rw [List.length_append, List.map_append]; exact hown6
        have hb6 := belowK_grown (hb3.alloc hus (.cells #[.int .i64 x] 3)) (by simp; omega) hg6 (fun g hg => (hO3.lt g hg).1)
        have hl6 : (out ++ [x]).length ≤ k + 1 := by rw [List.length_append]; simp only [List.length_cons, List.length_nil]; omega
        clear hown6 hg6 hat6 hO3 hb3 p0 p1 p2 PX
        go_wp2
        go_roundg (N - (k + 1))
        case measure => omega
        case rel => exact ⟨k + 1, out ++ [x], by go_num, by omega, rfl, HNN, hl6, hown7, hb6⟩
      | false =>
        have HNN := Lib.hid (show out = (K.take (k + 1)).filter (isUp s.G) by rw [HT.out, List.filter_append, List.filter_cons_of_neg (by rw [← HU.out]; simp), HO.out]; simp)
        go_wp2
        go_roundg (N - (k + 1))
        case measure => omega
        case rel => exact ⟨k + 1, out, by go_num, by omega, rfl, HNN, by omega, hO3, hb3⟩
    · obtain rfl : k = N := by omega
      have hge : ¬ (k : Int) < (k : Int) := by omega
      have HE := Lib.hid (show out = K.filter (isUp s.G) by rw [HO.out, List.take_of_length_le (by rw [← HN.out]; exact Nat.le_refl _)])
      have HR := Lib.hid (show wr.ownsRow w.heap.size 3 1 (.slice Ao out.length co) (K.filter (isUp s.G)).length ((K.filter (isUp s.G)).map (Value.int .i64)) by rw [← HE.out]; exact ownK_base hO hW1.size)
      have hW := below_step hW1 hb
      clear hO HO
      go_wp2
      go_ret
      first
        | exact ⟨⟨_, K, rfl, HK.out, HR.out⟩, hW⟩
        | exact ⟨⟨_, rfl, K, HK.out, HR.out⟩, hW⟩
end Go.Proofs.Ytcpfekhpbjkgeaa
end
