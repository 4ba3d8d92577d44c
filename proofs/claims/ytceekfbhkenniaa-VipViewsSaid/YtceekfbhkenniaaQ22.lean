/- Lemmas for the claim's proof: TrieC VipH VipI. -/
import Derived.Carry
import Derived.Test.YtceekfbhkenniaaQ21
section
/- Trie.Find, Trie.Len. -/
set_option linter.unusedVariables false
namespace Go.Proofs.Ytceekfbhkenniaa
open Go.RowKit
set_option maxHeartbeats 8000000
set_option maxRecDepth 100000
def best {α : Type} (g : Nat → Bool) (f : Nat → α) (z : α) : Nat → α
  | 0 => z
  | k + 1 => if g k = true then f k else best g f z k
/-- The value of the longest prefix of less than so many bits; how long; whether there is one. -/
def bestV (T : Tri) (six : Bool) (hi lo : Int) : Nat → Int := best (fun k => T.has six (path six hi lo k)) (fun k => T.val six (path six hi lo k)) 0
def bestL (T : Tri) (six : Bool) (hi lo : Int) : Nat → Int := best (fun k => T.has six (path six hi lo k)) (fun k => (k : Int)) 0
def bestF (T : Tri) (six : Bool) (hi lo : Int) : Nat → Bool := best (fun k => T.has six (path six hi lo k)) (fun k => true) false
theorem none_on {w : World} {tr B : Nat} {T : Tri} (h : IsTrie w tr B T) {six : Bool} {hi lo : Int} {k : Nat} (hn : T.pl six (path six hi lo k) = none) : ∀ j, k ≤ j → T.pl six (path six hi lo j) = none
  | 0, hj => by
    obtain rfl : k = 0 := by omega
    exact hn
  | j + 1, hj => by
    by_cases e : k = j + 1
    · rw [← e]; exact hn
    · rw [path_succ]
      exact h.up _ _ _ (none_on h hn j (by omega))
theorem best_none {α : Type} {f : Nat → α} {z : α} {w : World} {tr B : Nat} {T : Tri} (h : IsTrie w tr B T) {six : Bool} {hi lo : Int} {k : Nat} (hn : T.pl six (path six hi lo k) = none) : ∀ j, k ≤ j → best (fun k => T.has six (path six hi lo k)) f z j = best (fun k => T.has six (path six hi lo k)) f z k
  | 0, hj => by
    obtain rfl : k = 0 := by omega
    rfl
  | j + 1, hj => by
    by_cases e : k = j + 1
    · rw [← e]
    · rw [best, (h.no _ _ (none_on h hn j (by omega))).1, if_neg (by decide)]
      exact best_none h hn j (by omega)
def bitsN (six : Bool) : Nat := if six = true then 128 else 32
theorem trie_Len {w : World} {tr B : Nat} {T : Tri} (hT : IsTrie w tr B T) : Calls Try.prog 25 #[.pointer (some ⟨tr, 0, none⟩)] w fun e w' => e = .returned (.int .i64 T.n) ∧ w = w' := by
  obtain ⟨c8, _⟩ := hT.cnt
  go_enter Try.func25, Try.ntmps25
  go_wp2
  go_ret
  exact ⟨rfl, rfl⟩
theorem trie_FindNot {w : World} (tr : Nat) (six : Bool) (hi lo : Int) (hA : addrOk six hi lo = false) :
    Calls Try.prog 39 #[.pointer (some ⟨tr, 0, none⟩), .agg #[.bool six, .int .u64 hi, .int .u64 lo]] w fun e w' => e = .returned (.tuple #[.int .i64 0, .int .i64 0, .bool false]) ∧ Below w.heap.size w w' := by
  have P := Blk.new w 25 #[.bool six, .int .u64 hi, .int .u64 lo]
  have hW : Below w.heap.size w (w.alloc (.cells #[.bool six, .int .u64 hi, .int .u64 lo] 25)) := (Below.refl _ _).alloc (Nat.le_refl _) _
  go_enter Try.func39, Try.ntmps39
  go_wp2_with fail
  generalize w.alloc (.cells #[.bool six, .int .u64 hi, .int .u64 lo] 25) = w1 at *
  refine (addr_Right six hi lo w1).mono ?_; rintro e w2 ⟨rfl, hx⟩
  rw [hA]
  go_wp2
  go_ret3
  exact ⟨rfl, below_step hW hx⟩
theorem trie_FindYes {w : World} {tr B : Nat} {T : Tri} (hT : IsTrie w tr B T) (six : Bool) (hi lo : Int) (l0 : U64 hi) (l1 : U64 lo) (hA : addrOk six hi lo = true) :
    Calls Try.prog 39 #[.pointer (some ⟨tr, 0, none⟩), .agg #[.bool six, .int .u64 hi, .int .u64 lo]] w fun e w' => e = .returned (.tuple #[.int .i64 (bestV T six hi lo (bitsN six + 1)), .int .i64 (bestL T six hi lo (bitsN six + 1)), .bool (bestF T six hi lo (bitsN six + 1))]) ∧ Below w.heap.size w w' := by
  have P := Blk.new w 25 #[.bool six, .int .u64 hi, .int .u64 lo]
  have hW : Below w.heap.size w (w.alloc (.cells #[.bool six, .int .u64 hi, .int .u64 lo] 25)) := (Below.refl _ _).alloc (Nat.le_refl _) _
  have hN : (bitsN six : Int) = if six = true then 128 else 32 := by cases six <;> rfl
  have hN1 : bitsN six ≤ 128 := by cases six <;> decide
  have HB := Lib.hid (fun (k : Nat) (h : k < bitsN six) (w : World) => addr_Bit six hi lo k l0 l1 (by omega) (Int.lt_of_lt_of_le (show (k : Int) < (bitsN six : Int) by omega) (Int.le_of_eq hN)) w)
  have HBits := Lib.hid (fun w : World => addr_Bits six hi lo w)
  rw [← hN] at HBits
  have HS := Lib.hid (fun k => path_succ six hi lo k)
  have HT := Lib.hid (fun k : Nat => bitI_two six hi lo k)
  have HZ := Lib.hid (fun k (hn : T.pl six (path six hi lo k) = none) (hk : k ≤ bitsN six + 1) => show bestV T six hi lo (bitsN six + 1) = bestV T six hi lo k ∧ bestL T six hi lo (bitsN six + 1) = bestL T six hi lo k ∧ bestF T six hi lo (bitsN six + 1) = bestF T six hi lo k from ⟨best_none hT hn (bitsN six + 1) hk, best_none hT hn (bitsN six + 1) hk, best_none hT hn (bitsN six + 1) hk⟩)
  have HV := Lib.hid (fun k => show bestV T six hi lo (k + 1) = if T.has six (path six hi lo k) = true then T.val six (path six hi lo k) else bestV T six hi lo k from rfl)
  have HL := Lib.hid (fun k : Nat => show bestL T six hi lo (k + 1) = if T.has six (path six hi lo k) = true then (k : Int) else bestL T six hi lo k from rfl)
  have HF := Lib.hid (fun k => show bestF T six hi lo (k + 1) = if T.has six (path six hi lo k) = true then true else bestF T six hi lo k from rfl)
  have hV0 : bestV T six hi lo 0 = 0 ∧ bestL T six hi lo 0 = 0 ∧ bestF T six hi lo 0 = false := ⟨rfl, rfl, rfl⟩
  have hr0 : T.pl six (path six hi lo 0) = some (tr, if six = true then 4 else 0) := hT.root six
  clear hN
  generalize bitsN six = N at *
  generalize bestV T six hi lo = bv at *
  generalize bestL T six hi lo = bl at *
  generalize bestF T six hi lo = bf at *
  generalize path six hi lo = pk at *
  go_enter Try.func39, Try.ntmps39
  go_wp2_with fail
  generalize w.alloc (.cells #[.bool six, .int .u64 hi, .int .u64 lo] 25) = w1 at *
  refine (addr_Right six hi lo w1).mono ?_; rintro e w2 ⟨rfl, hx⟩
  have P2 := P.keep hx
  have hW2 := below_step hW hx
  rw [hA]
  clear P hx hW
  obtain ⟨p0, p1, p2, _⟩ := P2.cells3
  go_wp2_with fail
  refine (trie_top tr six hi lo w2).mono ?_; rintro e w3 ⟨rfl, hx⟩
  have P3 := P2.keep hx
  have hW3 := below_step hW2 hx
  clear P2 hW2 hx p0 p1 p2
  generalize (if six = true then 4 else 0 : Nat) = o0 at *
  obtain ⟨p0, p1, p2, _⟩ := P3.cells3
  have hq0 : (Value.pointer (some ⟨tr, o0, none⟩)) = ptrOf (T.pl six (pk 0)) := by rw [hr0]; rfl
  have HQ0 := Lib.hid hq0
  have HV0 := Lib.hid hV0
  clear hr0 hq0 hV0
  go_wp2_with fail
  go_loopg [7, 8, 9, 10, 11] (N + 1) (fun gk s7 s8 s9 s10 s11 wr => ∃ (k : Nat), k ≤ N ∧ gk = N + 1 - k ∧ s11 = .int .i64 k ∧ s7 = .int .i64 (bv k) ∧ s8 = .int .i64 (bl k) ∧ s9 = .bool (bf k) ∧ s10 = ptrOf (T.pl six (pk k)) ∧ Blk wr w.heap.size 25 #[.bool six, .int .u64 hi, .int .u64 lo] ∧ Below w.heap.size w wr)
  case atStart => exact ⟨0, Nat.zero_le _, rfl, rfl, by rw [HV0.out.1], by rw [HV0.out.2.1], by rw [HV0.out.2.2], HQ0.out, P3, hW3⟩
  case round =>
    obtain ⟨k, hk, rfl, rfl, rfl, rfl, rfl, rfl, P', hW'⟩ := hrel
    clear P3 hW3 p0 p1 p2 HV0 HQ0
    obtain ⟨p0, p1, p2, _⟩ := P'.cells3
    have hT' := hT.keep hW'
    have hV := HV.out k
    have hL := HL.out k
    have hF := HF.out k
    cases hpl : T.pl six (pk k) with
    | none =>
      have HE := Lib.hid (HZ.out k hpl (by omega))
      clear hV hL hF
      rw [show ptrOf none = .pointer none from rfl]
      go_wp2
      go_ret3
      exact ⟨by rw [HE.out.1, HE.out.2.1, HE.out.2.2]; rfl, hW'⟩
    | some a =>
      obtain ⟨g, o⟩ := a
      rw [show ptrOf (some (g, o)) = .pointer (some ⟨g, o, none⟩) from rfl]
      have c2 := hT'.at2 _ _ _ _ hpl
      have c3 := hT'.at3 _ _ _ _ hpl
      obtain ⟨c2, f2⟩ := c2
      obtain ⟨c3, f3⟩ := c3
      have c0 := (hT'.at0 _ _ _ _ hpl).1
      have c1 := (hT'.at1 _ _ _ _ hpl).1
      clear f2 f3
      cases hh : T.has six (pk k)
      · rw [hh] at c3 hV hL hF
        rw [if_neg (by decide)] at hV hL hF
        have HV1 := Lib.hid hV
        have HL1 := Lib.hid hL
        have HF1 := Lib.hid hF
        clear hh hV hL hF
        go_wp2_with fail
        refine (HBits.out wr).mono ?_; rintro e w4 ⟨rfl, hx⟩
        have P4 := P'.keep hx
        have hT4 := hT'.keep hx
        have hW4 := below_step hW' hx
        have d0 := cell_keep c0 hx
        have d1 := cell_keep c1 hx
        clear P' hT' hW' hx p0 p1 p2 c0 c1 c2 c3
        by_cases hkN : k = N
        · have hkb : ((k : Int) == (N : Int)) = true := by rw [beq_iff_eq]; omega
          subst hkN
          go_wp2
          go_ret3
          exact ⟨by rw [HV1.out, HL1.out, HF1.out]; rfl, hW4⟩
        · have hkb : ((k : Int) == (N : Int)) = false := by rw [beq_eq_false_iff_ne]; omega
          have hBk := HB.out k (by omega)
          have hS := HS.out k
          have hTk := HT.out k
          obtain ⟨p0, p1, p2, _⟩ := P4.cells3
          have U0 := cell_under p0
          have U1 := cell_under p1
          have U2 := cell_under p2
          generalize bitI six hi lo (k : Int) = β at *
          have HS1 := Lib.hid hS
          clear hS p0 p1 p2
          rcases hTk with rfl | rfl
          · generalize hX : ptrOf (T.pl six (pk k ++ [0])) = X at *
            have HX := Lib.hid hX
            clear hX d1
            have D0 := cell_under d0
            clear d0
            go_upto_region 11 with (fail)
            refine wp_region_quiet_under (by kernel_rfl) (by kernel_rfl) ?_
            repeat (go_big_quiet_step (((go_at_call 46; exact calls_under (hBk _)))))
            refine wpQuiet_nil ?_
            intro wu hw'
            obtain ⟨pq, hw''⟩ := hw'
            have hU := below_eq hw''
            clear hw'' pq
            go_wp2
            go_roundg (N + 1 - (k + 1))
            case measure => omega
            case rel => exact ⟨k + 1, by omega, rfl, by go_num, by rw [HV1.out], by rw [HL1.out], by rw [HF1.out], by rw [HS1.out, HX.out], P4.keep hU, below_step hW4 hU⟩
          · generalize hX : ptrOf (T.pl six (pk k ++ [1])) = X at *
            have HX := Lib.hid hX
            clear hX d0
            have D0 := cell_under d1
            clear d1
            go_upto_region 11 with (fail)
            refine wp_region_quiet_under (by kernel_rfl) (by kernel_rfl) ?_
            repeat (go_big_quiet_step (((go_at_call 46; exact calls_under (hBk _)))))
            refine wpQuiet_nil ?_
            intro wu hw'
            obtain ⟨pq, hw''⟩ := hw'
            have hU := below_eq hw''
            clear hw'' pq
            go_wp2
            go_roundg (N + 1 - (k + 1))
            case measure => omega
            case rel => exact ⟨k + 1, by omega, rfl, by go_num, by rw [HV1.out], by rw [HL1.out], by rw [HF1.out], by rw [HS1.out, HX.out], P4.keep hU, below_step hW4 hU⟩
      · rw [hh] at c3 hV hL hF
        rw [if_pos rfl] at hV hL hF
        have HV1 := Lib.hid hV
        have HL1 := Lib.hid hL
        have HF1 := Lib.hid hF
        clear hh hV hL hF
        go_wp2_with fail
        refine (HBits.out wr).mono ?_; rintro e w4 ⟨rfl, hx⟩
        have P4 := P'.keep hx
        have hT4 := hT'.keep hx
        have hW4 := below_step hW' hx
        have d0 := cell_keep c0 hx
        have d1 := cell_keep c1 hx
        clear P' hT' hW' hx p0 p1 p2 c0 c1 c2 c3
        by_cases hkN : k = N
        · have hkb : ((k : Int) == (N : Int)) = true := by rw [beq_iff_eq]; omega
          subst hkN
          go_wp2
          go_ret3
          exact ⟨by rw [HV1.out, HL1.out, HF1.out]; rfl, hW4⟩
        · have hkb : ((k : Int) == (N : Int)) = false := by rw [beq_eq_false_iff_ne]; omega
          have hBk := HB.out k (by omega)
          have hS := HS.out k
          have hTk := HT.out k
          obtain ⟨p0, p1, p2, _⟩ := P4.cells3
          have U0 := cell_under p0
          have U1 := cell_under p1
          have U2 := cell_under p2
          generalize bitI six hi lo (k : Int) = β at *
          have HS1 := Lib.hid hS
          clear hS p0 p1 p2
          rcases hTk with rfl | rfl
          · generalize hX : ptrOf (T.pl six (pk k ++ [0])) = X at *
            have HX := Lib.hid hX
            clear hX d1
            have D0 := cell_under d0
            clear d0
            go_upto_region 11 with (fail)
            refine wp_region_quiet_under (by kernel_rfl) (by kernel_rfl) ?_
            repeat (go_big_quiet_step (((go_at_call 46; exact calls_under (hBk _)))))
            refine wpQuiet_nil ?_
            intro wu hw'
            obtain ⟨pq, hw''⟩ := hw'
            have hU := below_eq hw''
            clear hw'' pq
            go_wp2
            go_roundg (N + 1 - (k + 1))
            case measure => omega
            case rel => exact ⟨k + 1, by omega, rfl, by go_num, by rw [HV1.out], by rw [HL1.out], by rw [HF1.out], by rw [HS1.out, HX.out], P4.keep hU, below_step hW4 hU⟩
          · generalize hX : ptrOf (T.pl six (pk k ++ [1])) = X at *
            have HX := Lib.hid hX
            clear hX d0
            have D0 := cell_under d1
            clear d1
            go_upto_region 11 with (fail)
            refine wp_region_quiet_under (by kernel_rfl) (by kernel_rfl) ?_
            repeat (go_big_quiet_step (((go_at_call 46; exact calls_under (hBk _)))))
            refine wpQuiet_nil ?_
            intro wu hw'
            obtain ⟨pq, hw''⟩ := hw'
            have hU := below_eq hw''
            clear hw'' pq
            go_wp2
            go_roundg (N + 1 - (k + 1))
            case measure => omega
            case rel => exact ⟨k + 1, by omega, rfl, by go_num, by rw [HV1.out], by rw [HL1.out], by rw [HF1.out], by rw [HS1.out, HX.out], P4.keep hU, below_step hW4 hU⟩
end Go.Proofs.Ytceekfbhkenniaa
end
section
/- vip.New, whole. -/
set_option linter.unusedVariables false
namespace Go.Proofs.Ytceekfbhkenniaa
open Go.RowKit
set_option maxHeartbeats 8000000
set_option maxRecDepth 100000
def vwPath (v : Vw) : List Int := path v.six v.hi v.lo v.bits.toNat
/-- What the views make of a trie, as long as no two are one prefix. -/
structure ViewsIn (T : Tri) (l : List Vw) (k : Nat) : Prop where
  has : ∀ s p, T.has s p = true ↔ ∃ i, i < k ∧ (l.getD i vw0).six = s ∧ vwPath (l.getD i vw0) = p
  val : ∀ i, i < k → T.val (l.getD i vw0).six (vwPath (l.getD i vw0)) = (l.getD i vw0).level
  n : T.n = k
def Apart (l : List Vw) : Prop := ∀ i j, i < j → j < l.length → ¬ ((l.getD i vw0).six = (l.getD j vw0).six ∧ vwPath (l.getD i vw0) = vwPath (l.getD j vw0))
theorem viewsIn_none (tr : Nat) (l : List Vw) : ViewsIn (Tri.none tr) l 0 :=
  ⟨fun s p => ⟨fun h => (by cases h), fun ⟨i, h, _⟩ => (by omega)⟩, fun i h => (by omega), rfl⟩
theorem viewsIn_step {T T' : Tri} {l : List Vw} {k : Nat} (h : ViewsIn T l k) (ha : Apart l) (hk : k < l.length) (hp : PutTo T T' (l.getD k vw0).six (vwPath (l.getD k vw0)) (l.getD k vw0).level) : ViewsIn T' l (k + 1) := by
  have hnot : T.has (l.getD k vw0).six (vwPath (l.getD k vw0)) = false := by
    rw [← Bool.not_eq_true, h.has]
    rintro ⟨i, hi, h1, h2⟩
    exact ha i k hi hk ⟨h1, h2⟩
  refine ⟨fun s p => ?_, fun i hi => ?_, ?_⟩
  · rw [hp.has]
    constructor
    · intro e
      split at e
      · rename_i hc
        exact ⟨k, Nat.lt_succ_self _, hc.1.symm, hc.2.symm⟩
      · obtain ⟨i, h1, h2⟩ := (h.has s p).1 e
        exact ⟨i, by omega, h2⟩
    · rintro ⟨i, h1, h2, h3⟩
      split
      · rfl
      · rename_i hc
        have hik : i ≠ k := fun e => by subst e; exact hc ⟨h2.symm, h3.symm⟩
        exact (h.has s p).2 ⟨i, by omega, h2, h3⟩
  · rw [hp.val]
    by_cases hik : i = k
    · subst hik
      rw [if_pos ⟨rfl, rfl⟩]
    · rw [if_neg (fun e => ha i k (by omega) hk e)]
      exact h.val i (by omega)
  · rw [hp.n, hnot, if_neg (by decide), h.n]
    omega
theorem grown_mod {w w' : World} {tr : Nat} (h : Mod (· = tr) w w') : w.grownBy w' (some tr) := ⟨h.os, h.tape, h.output, h.size, fun i hi hn => h.block i hi (fun e => hn (by rw [e]))⟩
theorem vip_New (c : Conf) (vb b : Nat) (w : World) (hV : Blk w vb 50 (vcells c b)) (hc : IsConf w c) (hv64 : c.vn ≤ 64) (hw64 : c.wn ≤ 64) (hok : ∀ v ∈ c.views, pfxOk v.six v.hi v.lo v.bits = true) (hap : Apart c.views) :
    Calls Try.prog 18 #[.pointer (some ⟨vb, 0, none⟩)] w fun e w' => (∃ tb tr m1 m2 A k, e = .returned (.pointer (some ⟨tb, 0, none⟩)) ∧ TabV w' tb tr m1 m2 c.vips A c.vn k ∧ ∃ T B, IsTrie w' tr B T ∧ ViewsIn T c.views c.wn) ∧ Below w.heap.size w w' := by
  obtain ⟨iV, hiV, hzV, hzV1, hzV2⟩ := info_parts Try.infoVip
  have hmm := @run_makeMap Try.prog
  obtain ⟨na, nn, nc, va, vn, vc, wa, wn, wc, factor, domain, ⟨a6, ah, al⟩, ⟨b6, bh, bl⟩, nodes, vips, views⟩ := c
  unfold vcells at hV
  dsimp only at *
  obtain ⟨hcN, hcV, hcW, _, _, _, _⟩ := hc
  dsimp only at *
  have v1 := hV.cell 1
  have v2 := hV.cell 2
  have hvl := hV.lt
  have hlen := Lib.hid hcV.len
  have hcap := hcV.cap
  have hsm := hcV.small
  have hs1 : (w.alloc (.cells #[.pointer none, .pointer none, .int .i64 0, .bool false, .pointer none, .pointer none, .int .i64 0, .bool false, .int .i64 0] 92)).heap.size = w.heap.size + 1 := by simp
  have hs2 : ((w.alloc (.cells #[.pointer none, .pointer none, .int .i64 0, .bool false, .pointer none, .pointer none, .int .i64 0, .bool false, .int .i64 0] 92)).alloc (.map #[] 0)).heap.size = w.heap.size + 2 := by simp
  have hs3 : (((w.alloc (.cells #[.pointer none, .pointer none, .int .i64 0, .bool false, .pointer none, .pointer none, .int .i64 0, .bool false, .int .i64 0] 92)).alloc (.map #[] 0)).alloc (.map #[] 0)).heap.size = w.heap.size + 3 := by simp
  have M1 := World.ownsMap_made (H := Unit) (w.alloc (.cells #[.pointer none, .pointer none, .int .i64 0, .bool false, .pointer none, .pointer none, .int .i64 0, .bool false, .int .i64 0] 92)) Try.prog 94 (plainElem Try.prog 3)
  have M2 := World.ownsMap_made (H := Unit) ((w.alloc (.cells #[.pointer none, .pointer none, .int .i64 0, .bool false, .pointer none, .pointer none, .int .i64 0, .bool false, .int .i64 0] 92)).alloc (.map #[] 0)) Try.prog 25 (plainElem Try.prog 4)
  rw [hs1] at M1
  rw [hs2] at M2
  have X0 := ((Blk.new w 92 #[.pointer none, .pointer none, .int .i64 0, .bool false, .pointer none, .pointer none, .int .i64 0, .bool false, .int .i64 0]).alloc (.map #[] 0)).alloc (.map #[] 0)
  have hx0 : Below w.heap.size w (((w.alloc (.cells #[.pointer none, .pointer none, .int .i64 0, .bool false, .pointer none, .pointer none, .int .i64 0, .bool false, .int .i64 0] 92)).alloc (.map #[] 0)).alloc (.map #[] 0)) := ((((Below.refl _ _).alloc (Nat.le_refl _) _).alloc (by simp) _).alloc (by simp; omega) _)
  have c1 := cell_keep v1 hx0
  have c2 := cell_keep v2 hx0
  have RV := (hcV.keep hx0).reads
  have hz3 : w.heap.size + 3 ≤ (((w.alloc (.cells #[.pointer none, .pointer none, .int .i64 0, .bool false, .pointer none, .pointer none, .int .i64 0, .bool false, .int .i64 0] 92)).alloc (.map #[] 0)).alloc (.map #[] 0)).heap.size := by rw [hs3]; exact Nat.le_refl _
  go_enter Try.func18, Try.ntmps18
  go_upto_region 4 with (at_builtin; go_loud (refine wpList_append_any _ rfl _ (.tmp 18) _ rfl (w.heap.size + 3) 35 iV _ 7 56 Try.underlying29 hiV hzV hzV1 hzV2 rfl (by decide) (.slice none 0 0) 0 [] rfl (World.ownsRow_nil _ _ _ _) _ va vn vc (vpShape.flat vips) rfl RV (flatC_one vpShape vips) (by simp only [maxLen]; omega) (by omega) hz3 ?_; intro v6 w6 hown6 hg6 hat6; simp only [Nat.zero_add, List.nil_append] at hown6; obtain ⟨B1, m1, rfl⟩ := own_slice hown6))
  have K0 := mapK_start (vips := vips) (M1.alloc (.map #[] 0) |>.kept hg6 (by simp [Value.ownBlock]))
  have A0 := mapA_start (vips := vips) (M2.kept hg6 (by simp [Value.ownBlock]))
  have hWx := push_below hx0 hg6 (fun g h => by simp [Value.ownBlock] at h)
  have hz6 : w.heap.size + 3 ≤ w6.heap.size := Nat.le_trans hz3 hg6.size
  have X6 := X0.grown hg6 (by simp [Value.ownBlock])
  have hA6 : Below w6.heap.size w6 (w6.alloc (.cells #[.pointer (some ⟨w.heap.size, 0, none⟩), .map (some (w.heap.size + 1)), .map (some (w.heap.size + 2)), .slice B1 vn m1] 68)) := (Below.refl _ _).alloc (Nat.le_refl _) _
  have T0 := Blk.new w6 68 #[.pointer (some ⟨w.heap.size, 0, none⟩), .map (some (w.heap.size + 1)), .map (some (w.heap.size + 2)), .slice B1 vn m1]
  have K1 := K0.kept (grown_below hA6) (by simp)
  have A1 := A0.kept (grown_below hA6) (by simp)
  have R1 := hown6.alloc (.cells #[.pointer (some ⟨w.heap.size, 0, none⟩), .map (some (w.heap.size + 1)), .map (some (w.heap.size + 2)), .slice B1 vn m1] 68)
  have hW1 := below_step hWx hA6
  have X1 := X6.keep hA6
  clear M1 M2 hx0 c1 c2 RV hz3 hs1 hs2 hs3 hown6 hg6 hat6 K0 A0 hWx hA6 X0 X6
  obtain ⟨tb, htb⟩ : ∃ tb, tb = w6.heap.size := ⟨_, rfl⟩
  generalize w6.alloc (.cells #[.pointer (some ⟨w.heap.size, 0, none⟩), .map (some (w.heap.size + 1)), .map (some (w.heap.size + 2)), .slice B1 vn m1] 68) = u at *
  rw [← htb] at T0 hz6 ⊢
  clear htb
  have v2w := v2
  have v1 := cell_keep v1 hW1
  have v2 := cell_keep v2 hW1
  go_wp2_with fail
  go_loopg [4, 5, 28] vn (fun gk s4 s5 s28 wr => ∃ k : Nat, k ≤ vn ∧ gk = vn - k ∧ s28 = .int .i64 k ∧ MapK wr (w.heap.size + 1) k vips ∧ MapA wr (w.heap.size + 2) k vips ∧ Blk wr tb 68 #[.pointer (some ⟨w.heap.size, 0, none⟩), .map (some (w.heap.size + 1)), .map (some (w.heap.size + 2)), .slice B1 vn m1] ∧ wr.ownsRow (w.heap.size + 3) 35 7 (.slice B1 vn m1) vn (vpShape.flat vips) ∧ Blk wr w.heap.size 92 #[.pointer none, .pointer none, .int .i64 0, .bool false, .pointer none, .pointer none, .int .i64 0, .bool false, .int .i64 0] ∧ Below w.heap.size w wr)
  case atStart => exact ⟨0, Nat.zero_le _, rfl, rfl, K1, A1, T0, R1, X1, hW1⟩
  case round =>
    clear K1 A1 T0 R1 hW1 v1 v2 X1
    obtain ⟨k, hk, rfl, rfl, K2, A2, T2, R2, X2, hW2⟩ := hrel
    have hlt2 := T2.lt
    by_cases hkn : k < vn
    · have hki : (k : Int) < (vn : Int) := by omega
      have hkl : k < vips.length := by rw [hlen.out]; exact hkn
      obtain ⟨ad, rfl, hbk, hat⟩ := (hcV.keep hW2).vpat_ hkn
      obtain ⟨c0, c1, c2, c3, c4, c5, c6⟩ := hat
      have hwy := hcV.wfd k
      have hvp : vpShape.z = vp0 := rfl
      rw [hvp] at c0 c1 c2 c3 c4 c5 c6 hwy
      clear hvp
      have HKS := Lib.hid (fun (w' : World) (D : DataW Unit) h1 h2 h3 h4 => mapK_step (w' := w') (b := w.heap.size + 1) (k := k) (vips := vips) (D := D) hkl hcV.wf h1 h2 h3 h4)
      have HAS := Lib.hid (fun (w' : World) (D : DataW Unit) h1 h2 h3 => mapA_step (w' := w') (b := w.heap.size + 2) (k := k) (vips := vips) (D := D) hkl hcV.wf h1 h2 h3)
      have hkk := klK_of hwy
      have hka := klA_of hwy
      have hkw : (Lit.int .i64 (k : Int)).wf = true := i64_wf ⟨by omega, by omega⟩
      generalize vips.getD k vp0 = y at *
      generalize klK y = lk at *
      generalize klA y = la at *
      obtain ⟨x6, xh, xl, xp, xo, xc, xn⟩ := y
      unfold keyV at hkk
      unfold adrV at hka
      dsimp only at *
      go_upto_region 7 with (fail)
      have hA3 : Below wr.heap.size wr (wr.alloc (.cells #[.bool x6, .int .u64 xh, .int .u64 xl, .int .i64 xp, .int .i64 xo, .int .i64 xc, .bool xn] 35)) := (Below.refl _ _).alloc (Nat.le_refl _) _
      have Q3 := Blk.new wr 35 #[.bool x6, .int .u64 xh, .int .u64 xl, .int .i64 xp, .int .i64 xo, .int .i64 xc, .bool xn]
      have K3 := K2.kept (grown_below hA3) (by simp)
      have A3 := A2.kept (grown_below hA3) (by simp)
      have T3 := T2.keep hA3
      have R3 := own_keep R2 hA3
      have X3 := X2.keep hA3
      have hW3 := below_step hW2 hA3
      have hzr := hW2.size
      clear K2 A2 T2 R2 X2 hA3 c0 c1 c2 c3 c4 c5 c6
      generalize wr.alloc (.cells #[.bool x6, .int .u64 xh, .int .u64 xl, .int .i64 xp, .int .i64 xo, .int .i64 xc, .bool xn] 35) = u3 at *
      obtain ⟨t0, t1, t2, t3, _⟩ := T3.cells4
      obtain ⟨c0, c1, c2, c3, c4, c5, c6, _⟩ := Q3.cells7
      have U0 := cell_under c0
      have U1 := cell_under c1
      have U2 := cell_under c2
      have U3 := cell_under c3
      have U4 := cell_under c4
      have U5 := cell_under t1
      clear t0 t1 t2 t3 c0 c1 c2 c3 c4 c5 c6
      refine wp_region_under_tail 12 (by kernel_rfl) (by kernel_rfl) ?_
      simp only [List.take_succ_cons, List.take_zero, List.drop_succ_cons, List.drop_zero]
      repeat (go_big_quiet_step ((fail)))
      refine wpQuiet_nil ?_
      intro wu hw'
      obtain ⟨pq, hw''⟩ := hw'
      have hU := below_eq hw''
      clear hw'' pq
      have Q4 := Q3.keep hU
      have K4 := K3.kept (grown_below hU) (by simp)
      have A4 := A3.kept (grown_below hU) (by simp)
      have T4 := T3.keep hU
      have R4 := own_keep R3 hU
      have X4 := X3.keep hU
      have hW4 := below_step hW3 hU
      clear Q3 K3 A3 T3 R3 X3 hU U0 U1 U2 U3 U4 U5 hW3
      obtain ⟨D, hD, hI1, hI2, hI3⟩ := K4
      go_upto_region 8 with (at_mapUpdate; go_loud (refine wpList_mapUpdate_own _ rfl _ _ _ 65 rfl 94 3 (Maps.Keyed.of_law lawK) Try.underlying65 _ (w.heap.size + 1) k D rfl hD (by simp only [maxLen]; omega) _ _ lk rfl rfl hkk _ [] (plainElem_int Try.underlying3 hkw) ?_; intro w5 hD5 hg5))
      (try simp only [Act.put])
      have K5 := HKS.out w5 D hI1 hI2 hI3 hD5
      have A5 := A4.kept hg5 (by simp)
      have T5 := T4.grown hg5 (fun e => by injection e with e; omega)
      have Q5 := Q4.grown hg5 (fun e => by injection e with e; omega)
      have R5 := R4.kept hg5 (own_ne R4 (by omega))
      have X5 := X4.grown hg5 (fun e => by injection e with e; omega)
      have hW5 := push_below hW4 hg5 (fun g e => by injection e with e; omega)
      clear hD hI1 hI2 hI3 hD5 hg5 A4 T4 Q4 R4 X4 hW4 hkk HKS
      obtain ⟨t0, t1, t2, t3, _⟩ := T5.cells4
      obtain ⟨c0, c1, c2, c3, c4, c5, c6, _⟩ := Q5.cells7
      have U0 := cell_under c0
      have U1 := cell_under c1
      have U2 := cell_under c2
      have U5 := cell_under t2
      clear t0 t1 t2 t3 c0 c1 c2 c3 c4 c5 c6 Q5
      refine wp_region_under_tail 6 (by kernel_rfl) (by kernel_rfl) ?_
      simp only [List.take_succ_cons, List.take_zero, List.drop_succ_cons, List.drop_zero]
      repeat (go_big_quiet_step ((fail)))
      refine wpQuiet_nil ?_
      intro wv hw'
      obtain ⟨pq, hw''⟩ := hw'
      have hU := below_eq hw''
      clear hw'' pq
      have K6 := K5.kept (grown_below hU) (by simp)
      have A6 := A5.kept (grown_below hU) (by simp)
      have T6 := T5.keep hU
      have R6 := own_keep R5 hU
      have X6 := X5.keep hU
      have hW6 := below_step hW5 hU
      clear K5 A5 T5 R5 X5 hU U0 U1 U2 U5 hW5
      obtain ⟨D2, hD2, hI1, hI2⟩ := A6
      go_upto_region 9 with (at_mapUpdate; go_loud (refine wpList_mapUpdate_own _ rfl _ _ _ 66 rfl 25 4 (Maps.Keyed.of_law lawA) Try.underlying66 _ (w.heap.size + 2) k D2 rfl hD2 (by simp only [maxLen]; omega) _ _ la rfl rfl hka _ [] (plainElem_bool Try.underlying4 true) ?_; intro w7 hD7 hg7))
      (try simp only [Act.put])
      have A7 := HAS.out w7 D2 hI1 hI2 hD7
      have K7 := K6.kept hg7 (by simp)
      have T7 := T6.grown hg7 (fun e => by injection e with e; omega)
      have R7 := R6.kept hg7 (own_ne R6 (by omega))
      have X7 := X6.grown hg7 (fun e => by injection e with e; omega)
      have hW7 := push_below hW6 hg7 (fun g e => by injection e with e; omega)
      clear hD2 hI1 hI2 hD7 hg7 K6 T6 R6 X6 hW6 hka HAS
      go_wp2
      go_roundg (vn - (k + 1))
      case measure => omega
      case rel => exact ⟨k + 1, by omega, rfl, by go_num, K7, A7, T7, R7, X7, hW7⟩
    · have hke : vn = k := by omega
      have v2' := cell_keep v2w hW2
      subst hke
      have hTr0 : IsTrie wr w.heap.size wr.heap.size (Tri.none w.heap.size) := isTrie_new X2
      have hVW := hcW.keep hW2
      have hwl := hcW.len
      have HD := Lib.hid (fun (w' : World) (T : Tri) (h1 : IsTrie w' w.heap.size wr.heap.size T) (h2 : ViewsIn T views wn) (h3 : Mod (· = w.heap.size) wr w') => show ∃ tb' tr m1' m2' A k', (Ending.returned (.pointer (some ⟨tb, 0, none⟩)) : Ending) = .returned (.pointer (some ⟨tb', 0, none⟩)) ∧ TabV w' tb' tr m1' m2' vips A vn k' ∧ ∃ T B, IsTrie w' tr B T ∧ ViewsIn T views wn from by
        have hg := grown_mod h3
        obtain ⟨B2, m2, e2, I2, _⟩ := own_rowC (C := vpShape) (R2.kept hg (own_ne R2 (by omega))) hcV.wf (by omega)
        injection e2 with e2 _ e3
        subst e2 e3
        exact ⟨tb, w.heap.size, w.heap.size + 1, w.heap.size + 2, B1, m1, rfl, ⟨T2.mod h3 (fun e => by omega), K2.kept hg (by simp), A2.kept hg (by simp), I2⟩, T, wr.heap.size, h1, h2⟩)
      have T2' := T2
      clear R2 K2 A2 X2 hcV hlen
      go_wp2_with fail
      obtain ⟨wo, rfl⟩ : ∃ wo, wo = wr := ⟨_, rfl⟩
      go_loopg [7, 58] wn (fun gk s7 s58 wr => ∃ (k : Nat) (T : Tri), k ≤ wn ∧ gk = wn - k ∧ s58 = .int .i64 k ∧ IsTrie wr w.heap.size wo.heap.size T ∧ Hid (ViewsIn T views k) ∧ Mod (· = w.heap.size) wo wr)
      case atStart => exact ⟨0, _, Nat.zero_le _, rfl, rfl, hTr0, Lib.hid (viewsIn_none _ _), Mod.refl _ _⟩
      case round =>
        clear hTr0
        obtain ⟨k, T, hk, rfl, rfl, hT, HV, hM⟩ := hrel
        have hWr := below_thenMod hW2 (Nat.le_refl _) hM (fun i e => by omega)
        by_cases hkn : k < wn
        · have hki : (k : Int) < (wn : Int) := by omega
          obtain ⟨ad, rfl, hbk, hat⟩ := (hcW.keep hWr).vwat_ hkn
          obtain ⟨c0, c1, c2, c3, c4⟩ := hat
          have hwy := hcW.wfd k
          have hkl : k < views.length := by rw [hwl]; exact hkn
          have hvw : vwShape.z = vw0 := rfl
          rw [hvw] at c0 c1 c2 c3 c4 hwy
          have hoky := hok (views.getD k vw0) (by
            have e : views[k]? = some (views.getD k vw0) := by rw [List.getD_eq_getElem?_getD, List.getElem?_eq_getElem hkl]; rfl
            exact List.mem_of_getElem? e)
          have HVS := Lib.hid (fun (T' : Tri) (hp : PutTo T T' (views.getD k vw0).six (vwPath (views.getD k vw0)) (views.getD k vw0).level) => viewsIn_step HV.out hap hkl hp)
          have hTn : T.n = k := HV.out.n
          have hn0 : 0 ≤ T.n := by omega
          have hn1 : T.n < 1000000 := by omega
          clear hvw HV hTn
          unfold vwPath at HVS
          generalize views.getD k vw0 = y at *
          obtain ⟨x6, xh, xl, xb, xv⟩ := y
          obtain ⟨y1, y2, y3, y4⟩ := hwy
          dsimp only at *
          go_upto_region 13 with (fail)
          have hA3 : Below wr.heap.size wr (wr.alloc (.cells #[.bool x6, .int .u64 xh, .int .u64 xl, .int .i64 xb, .int .i64 xv] 39)) := (Below.refl _ _).alloc (Nat.le_refl _) _
          have Q3 := Blk.new wr 39 #[.bool x6, .int .u64 xh, .int .u64 xl, .int .i64 xb, .int .i64 xv]
          have hT3 := hT.keep hA3
          have hM3 := mod_keep hM hA3
          have TB3 := (T2'.mod hM (fun e => by omega)).keep hA3
          clear hT hM hA3 c0 c1 c2 c3 c4 hWr
          generalize wr.alloc (.cells #[.bool x6, .int .u64 xh, .int .u64 xl, .int .i64 xb, .int .i64 xv] 39) = u3 at *
          obtain ⟨t0, t1, t2, t3, _⟩ := TB3.cells4
          obtain ⟨c0, c1, c2, c3, c4, _⟩ := Q3.cells5
          have U0 := cell_under c0
          have U1 := cell_under c1
          have U2 := cell_under c2
          have U3 := cell_under c3
          have U4 := cell_under c4
          have U5 := cell_under t0
          clear t0 t1 t2 t3 c0 c1 c2 c3 c4
          refine wp_region_under_tail 8 (by kernel_rfl) (by kernel_rfl) ?_
          simp only [List.take_succ_cons, List.take_zero, List.drop_succ_cons, List.drop_zero]
          repeat (go_big_quiet_step ((fail)))
          refine wpQuiet_nil ?_
          intro wu hw'
          obtain ⟨pq, hw''⟩ := hw'
          have hU := below_eq hw''
          clear hw'' pq
          have hT4 := hT3.keep hU
          have hM4 := mod_keep hM3 hU
          have hPut := trie_Put hT4 hM4 x6 xh xl xb xv y1 y2 y4 hoky hn0 hn1
          clear U0 U1 U2 U3 U4 U5 Q3 TB3 hT3 hM3 hT4 hM4 hU
          go_wp2_with fail
          refine hPut.mono ?_; rintro e w9 ⟨rfl, T9, hT9, hp9, hM9⟩
          have HV9 := Lib.hid (HVS.out T9 hp9)
          clear hPut hp9
          go_wp2
          go_roundg (wn - (k + 1))
          case measure => omega
          case rel => exact ⟨k + 1, T9, by omega, rfl, by go_num, hT9, HV9, hM9⟩
        · have hke : wn = k := by omega
          subst hke
          have HD2 := HD.out wr T hT HV.out hM
          clear hT HV hM
          go_wp2
          go_ret
          exact ⟨HD2, hWr⟩
end Go.Proofs.Ytceekfbhkenniaa
end
section
/- Table.Ours, List, From of a table. -/
set_option linter.unusedVariables false
namespace Go.Proofs.Ytceekfbhkenniaa
open Go.RowKit
set_option maxHeartbeats 8000000
set_option maxRecDepth 100000
theorem plainElem_bool_inv {H : Type} {P : Program} {e : TypeId} (he : P.underlying e = some .bool) {v : Value} {x : Bool} {ps : List MemPlace} (h : plainElem (H := H) P e v = some (.lit (.bool x), ps)) : v = .bool x := by
  unfold plainElem at h
  rw [he] at h
  cases v <;> simp at h
  rw [h.1]
theorem mapA_look {w : World} {b k : Nat} {vips : List Vp} (h : MapA w b k vips) (x : Vp) (hx : vpShape.Wf x) :
    ∀ w', w.grownBy w' none → (Instr.lookup 66 (.map (some b)) (adrV x) false).run Try.prog w' = .ok (.bool ((vips.take k).any (fun y => sameAdr y x))) w' := by
  intro w' hg
  obtain ⟨D, hD, hI, h1⟩ := h
  obtain ⟨v', ps', hr, hv'⟩ := (hD.kept hg (by simp)).lookup (Maps.Keyed.of_law lawA) Try.underlying66 (zeroBool w') (plainElem_bool Try.underlying4 false) (klA_of hx)
  rw [h1 x hx] at hv'
  rw [hr, plainElem_bool_inv Try.underlying4 hv']
theorem vip_OursYes {w : World} {tb tr m1 m2 n c : Nat} {vips : List Vp} {A : Option Addr} (hT : TabV w tb tr m1 m2 vips A n c) (d6 : Bool) (dh dl : Int) (w2 : U64 dh) (w3 : U64 dl) :
    Calls Try.prog 22 #[.pointer (some ⟨tb, 0, none⟩), .agg #[.bool d6, .int .u64 dh, .int .u64 dl]] w fun e w' => e = .returned (.bool (vips.any fun y => sameAdr y (kx 0 d6 dh dl 0))) ∧ Below w.heap.size w w' := by
  have hlen := hT.l.len
  have htk : vips.take n = vips := List.take_of_length_le (by rw [hlen]; exact Nat.le_refl _)
  have hr := mapA_look hT.a (kx 0 d6 dh dl 0) ⟨w2, w3, i64_0, i64_0, i64_0⟩
  rw [htk] at hr
  have hk1 : adrV (kx 0 d6 dh dl 0) = .agg #[.bool d6, .int .u64 dh, .int .u64 dl] := rfl
  rw [hk1] at hr
  generalize (vips.any fun y => sameAdr y (kx 0 d6 dh dl 0)) = B1 at *
  have P := Blk.new w 25 #[.bool d6, .int .u64 dh, .int .u64 dl]
  have hW : Below w.heap.size w (w.alloc (.cells #[.bool d6, .int .u64 dh, .int .u64 dl] 25)) := (Below.refl _ _).alloc (Nat.le_refl _) _
  go_enter Try.func22, Try.ntmps22
  go_upto_region 1 with (fail)
  have hT1 := hT.keep hW
  have hN := fun p => tab_noneYes (hT1.keep (under_below (w.alloc (.cells #[.bool d6, .int .u64 dh, .int .u64 dl] 25)) p))
  have hR1 := fun p => hr _ (grown_below (below_step hW (under_below (w.alloc (.cells #[.bool d6, .int .u64 dh, .int .u64 dl] 25)) p)))
  generalize w.alloc (.cells #[.bool d6, .int .u64 dh, .int .u64 dl] 25) = u at *
  obtain ⟨t0, t1, t2, t3, _⟩ := hT1.blk.cells4
  obtain ⟨p0, p1, p2, _⟩ := P.cells3
  have U0 := cell_under t2
  have U1 := cell_under p0
  have U2 := cell_under p1
  have U3 := cell_under p2
  clear t0 t1 t2 t3 p0 p1 p2 hT1 P hr htk
  refine wp_region_quiet_under (by kernel_rfl) (by kernel_rfl) ?_
  repeat (go_big_quiet_step (((go_at_call 38; exact calls_under_same (hN _)))))
  refine wpQuiet_nil ?_
  intro wu hw'
  obtain ⟨pq, hw''⟩ := hw'
  have hU := below_eq hw''
  clear hw'' pq
  go_wp2
  go_ret
  exact ⟨rfl, below_step hW hU⟩
theorem vip_ListYes {w : World} {tb tr m1 m2 n c : Nat} {vips : List Vp} {A : Option Addr} (hT : TabV w tb tr m1 m2 vips A n c) (hn64 : n ≤ 64) :
    Calls Try.prog 21 #[.pointer (some ⟨tb, 0, none⟩)] w fun e w' => (∃ A' c', e = .returned (.slice A' n c') ∧ IsRow vpShape w' A' n c' vips) ∧ Below w.heap.size w w' := by
  obtain ⟨iV, hiV, hzV, hzV1, hzV2⟩ := info_parts Try.infoVip
  have hN := tab_noneYes hT
  obtain ⟨t0, t1, t2, t3, _⟩ := hT.blk.cells4
  have RV := hT.l.reads
  have hcap := hT.l.cap
  have hsm := hT.l.small
  go_enter Try.func21, Try.ntmps21
  go_wp2_with fail
  refine hN.mono ?_; rintro e w' ⟨rfl, rfl⟩
  go_wp2_with (at_builtin; go_loud (refine wpList_append_any _ rfl _ (.tmp 8) _ rfl w.heap.size 35 iV _ 7 56 Try.underlying29 hiV hzV hzV1 hzV2 rfl (by decide) (.slice none 0 0) 0 [] rfl (World.ownsRow_nil _ _ _ _) _ A n c (vpShape.flat vips) rfl RV (flatC_one vpShape vips) (by simp only [maxLen]; omega) (by omega) (Nat.le_refl _) ?_; intro v6 w6 hown6 hg6 hat6; simp only [Nat.zero_add, List.nil_append] at hown6; obtain ⟨B1, m1, rfl⟩ := own_slice hown6))
  have hW6 := push_below (Below.refl _ _) hg6 (fun g h => by simp [Value.ownBlock] at h)
  obtain ⟨B2, m3, e2, I2, _⟩ := own_rowC (C := vpShape) hown6 hT.l.wf (by omega)
  injection e2 with e2 _ e3
  subst e2 e3
  clear hown6 hg6 hat6
  go_wp2
  go_ret
  exact ⟨⟨B1, m1, rfl, I2⟩, hW6⟩
theorem vip_FromYes {w : World} {tb tr m1 m2 n c B : Nat} {vips : List Vp} {A : Option Addr} (hT : TabV w tb tr m1 m2 vips A n c) {T : Tri} (hTr : IsTrie w tr B T) (d6 : Bool) (dh dl : Int) (w2 : U64 dh) (w3 : U64 dl) :
    Calls Try.prog 23 #[.pointer (some ⟨tb, 0, none⟩), .agg #[.bool d6, .int .u64 dh, .int .u64 dl]] w fun e w' => e = .returned (.int .i64 (if addrOk d6 dh dl = true then bestV T d6 dh dl (bitsN d6 + 1) else 0)) ∧ Below w.heap.size w w' := by
  have P := Blk.new w 25 #[.bool d6, .int .u64 dh, .int .u64 dl]
  have hW : Below w.heap.size w (w.alloc (.cells #[.bool d6, .int .u64 dh, .int .u64 dl] 25)) := (Below.refl _ _).alloc (Nat.le_refl _) _
  have hFind : ∃ l f, ∀ w', Below w.heap.size w w' → Calls Try.prog 39 #[.pointer (some ⟨tr, 0, none⟩), .agg #[.bool d6, .int .u64 dh, .int .u64 dl]] w' fun e w'' => e = .returned (.tuple #[.int .i64 (if addrOk d6 dh dl = true then bestV T d6 dh dl (bitsN d6 + 1) else 0), .int .i64 l, .bool f]) ∧ Below w'.heap.size w' w'' := by
    cases hA : addrOk d6 dh dl with
    | true => exact ⟨_, _, fun w' hx => trie_FindYes (hTr.keep hx) d6 dh dl w2 w3 hA⟩
    | false => exact ⟨_, _, fun w' hx => trie_FindNot tr d6 dh dl hA⟩
  obtain ⟨fl, ff, hFind⟩ := hFind
  generalize (if addrOk d6 dh dl = true then bestV T d6 dh dl (bitsN d6 + 1) else 0 : Int) = Z at *
  have hT1 := hT.keep hW
  go_enter Try.func23, Try.ntmps23
  go_wp2_with fail
  refine (tab_noneYes hT1).mono ?_; rintro e w' ⟨rfl, rfl⟩
  have hF1 := fun p => hFind (under (w.alloc (.cells #[.bool d6, .int .u64 dh, .int .u64 dl] 25)) p) (below_step hW (under_below _ p))
  generalize w.alloc (.cells #[.bool d6, .int .u64 dh, .int .u64 dl] 25) = u at *
  obtain ⟨t0, t1, t2, t3, _⟩ := hT1.blk.cells4
  obtain ⟨p0, p1, p2, _⟩ := P.cells3
  go_upto_region 3 with (fail)
  have U0 := cell_under t0
  have U1 := cell_under p0
  have U2 := cell_under p1
  have U3 := cell_under p2
  clear t0 t1 t2 t3 p0 p1 p2 hT1 P hFind hT hTr
  refine wp_region_quiet_under (by kernel_rfl) (by kernel_rfl) ?_
  repeat (go_big_quiet_step (((go_at_call 39; exact calls_under (hF1 _)))))
  refine wpQuiet_nil ?_
  intro wu hw'
  obtain ⟨pq, hw''⟩ := hw'
  have hU := below_eq hw''
  clear hw'' pq
  go_wp2
  go_ret
  exact ⟨rfl, below_step hW hU⟩
end Go.Proofs.Ytceekfbhkenniaa
end
