/- Lemmas for the claim's proof: WalkU WalkV0. -/
import Derived.Test.YtblbgafadadbmaaQ12
import Derived.Test.YtblbgafadadbmaaQ22
import Derived.Test.YtblbgafadadbmaaQ29
section
/- The law's above; where ways part, by Split. -/
set_option linter.unusedVariables false
namespace Go.Proofs.Ytblbgafadadbmaa
open Go.RowKit
set_option maxHeartbeats 4000000
set_option maxRecDepth 100000
theorem law26_above {A : Option Addr} {n c : Nat} {l : List Nd} {w : World} (h : IsNodes w A n c l) (i a : Int) : Calls Try.prog 23 #[.slice A n c, .int .i64 a, .int .i64 i] w fun e w' => e = .returned (.bool (belF l a 4 i)) ∧ w = w' := by
  have hcap := h.cap
  have hsm := h.small
  have hlen := h.len
  subst hlen
  go_enter Try.func23, Try.ntmps23
  go_wp2
  go_loopg [2, 7] 4 (fun gg s2 s7 wr => ∃ (k : Int) (m : Nat), m ≤ 4 ∧ gg = 4 - m ∧ s2 = .int .i64 k ∧ s7 = .int .i64 m ∧ w = wr ∧ Hid (belF l a (4 - m) k = belF l a 4 i))
  case atStart => exact ⟨i, 0, Nat.zero_le _, rfl, rfl, rfl, rfl, Lib.hid rfl⟩
  case round =>
    obtain ⟨k, m, hm, rfl, rfl, rfl, rfl, HU⟩ := hrel
    by_cases hm4 : m < 4
    · have gm : decide ((m : Int) < 4) = true := decide_eq_true (by omega)
      obtain ⟨f, hf⟩ : ∃ f, 4 - m = f + 1 := ⟨3 - m, by omega⟩
      have hf2 : 4 - (m + 1) = f := by omega
      rw [hf, belF] at HU
      by_cases h0 : 0 ≤ k
      · have g0 : decide (0 ≤ k) = true := decide_eq_true h0
        by_cases h1 : k < l.length
        · have g1 : decide (k < (l.length : Int)) = true := decide_eq_true h1
          rw [if_pos ⟨h0, h1⟩] at HU
          by_cases hx : k = a
          · have g2 : (k == a) = true := by rw [beq_iff_eq]; exact hx
            rw [if_pos hx] at HU
            have HE := Lib.hid HU.out.symm
            clear HU hx hf hf2
            go_wp2
            go_ret
            exact ⟨by rw [HE.out]; rfl, rfl⟩
          · have g2 : (k == a) = false := by rw [beq_eq_false_iff_ne]; exact hx
            rw [if_neg hx, ← hf2] at HU
            have hat := h.at_ (k := k.toNat) (by omega)
            have e : ndAt l k = l.getD k.toNat nd0 := by unfold ndAt; rw [if_pos h0]
            rw [← e] at hat
            obtain ⟨ad, rfl, hbk, d0, d1, d2, d3, d4, d5, d6⟩ := hat
            clear e
            generalize ndAt l k = x at *
            clear hx hf hf2
            go_wp2
            go_roundg (4 - (m + 1))
            case measure => omega
            case rel => exact ⟨x.above, m + 1, by omega, rfl, rfl, by go_num, rfl, HU⟩
        · have g1 : decide (k < (l.length : Int)) = false := decide_eq_false h1
          rw [if_neg (by omega)] at HU
          clear hf hf2
          go_wp2
          go_ret
          exact ⟨by rw [← HU.out]; rfl, rfl⟩
      · have g0 : decide (0 ≤ k) = false := decide_eq_false h0
        rw [if_neg (by omega)] at HU
        clear hf hf2
        go_wp2
        go_ret
        exact ⟨by rw [← HU.out]; rfl, rfl⟩
    · obtain rfl : m = 4 := by omega
      rw [show 4 - 4 = 0 from rfl, belF] at HU
      go_wp2
      go_ret
      exact ⟨by rw [← HU.out]; rfl, rfl⟩
theorem split_pre {s c : Int} (hne : s ≠ c) (ra rb : List Int) : ∀ pre : List Int, splitF (pre ++ s :: ra) (pre ++ c :: rb) = pre.length
  | [] => by
    show splitF (s :: ra) (c :: rb) = 0
    rw [splitF, if_neg hne]
  | z :: pre => by
    show splitF (z :: (pre ++ s :: ra)) (z :: (pre ++ c :: rb)) = pre.length + 1
    rw [splitF, if_pos rfl, split_pre hne ra rb pre]
theorem split_self : ∀ a : List Int, splitF a a = a.length
  | [] => rfl
  | z :: a => by rw [splitF, if_pos rfl, split_self a]; rfl
theorem bel_on {l : List Nd} (ht : Tall l) (h c : Nat) (hc : c < l.length) : belF l (c : Int) 4 (h : Int) = true ↔ onTo l h c := by
  rw [bel_four ht (c : Int) (by omega) (by omega), ndAt_nat, beq_iff_eq]
  exact Iff.rfl
theorem bel_off {l : List Nd} (ht : Tall l) (h c : Nat) (hc : c < l.length) (hn : ¬ onTo l h c) : belF l (c : Int) 4 (h : Int) = false := by
  cases hb : belF l (c : Int) 4 (h : Int) with
  | false => rfl
  | true => exact absurd ((bel_on ht h c hc).1 hb) hn
theorem getD_pre (pre : List Int) (x : Int) (r : List Int) : (pre ++ x :: r).getD pre.length 0 = x := by
  rw [List.getD_eq_getElem?_getD, List.getElem?_append_right (Nat.le_refl _)]; simp
/-- What the law asks of two ways that part: of the greater's (b) and the lesser's (a). -/
structure PartQ (l : List Nd) (h : Nat) (a b : List Int) (k : Nat) : Prop where
  lt : k < a.length
  ltb : k < b.length
  k0 : k ≠ 0
  last : belF l (b.getD (k - 1) 0) 4 (h : Int) = true
  last' : belF l (a.getD (k - 1) 0) 4 (h : Int) = true
  too : belF l (b.getD k 0) 4 (h : Int) = true
  frm : belF l (a.getD k 0) 4 (h : Int) = false
theorem belF_congr {l m : List Nd} (hl : m.length = l.length) (ha : ∀ j, (m.getD j nd0).above = (l.getD j nd0).above) (a : Int) : ∀ f i, belF m a f i = belF l a f i
  | 0, _ => rfl
  | f + 1, i => by
    have k2 : (ndAt m i).above = (ndAt l i).above := by
      unfold ndAt
      split
      · exact ha _
      · rfl
    rw [belF, belF, hl, k2, belF_congr hl ha a f]
theorem parts_q {l m : List Nd} {h : Nat} {hosts : List Int} {seed key : Int} {a b pre : List Int} {s c : Nat} (H : Hv l m h) (P : Parts l m h hosts seed key a b pre s c) : splitF a b = pre.length ∧ PartQ l h a b pre.length ∧ b.getD pre.length 0 = c := by
  obtain ⟨ra, hra⟩ := P.ra
  obtain ⟨rb, hrb⟩ := P.rb
  have hlast : ∀ r : List Int, (pre ++ r).getD (pre.length - 1) 0 ∈ pre := fun r => by
    have hp : 0 < pre.length := List.length_pos_iff.2 P.ne
    rw [List.getD_eq_getElem?_getD, List.getElem?_append_left (by omega), List.getElem?_eq_getElem (by omega)]
    exact List.getElem_mem _
  have hbel : ∀ z ∈ pre, belF l z 4 (h : Int) = true := fun z hz => by
    obtain ⟨j, hj, hjl, hjo⟩ := P.on z hz
    rw [hj]
    exact (bel_on H.tl h j hjl).2 hjo
  have hns : ¬ onTo l h s := fun ho => P.sc (onTo_one ho P.con P.kind)
  refine ⟨?_, ⟨?_, ?_, ?_, ?_, ?_, ?_, ?_⟩, ?_⟩
  · rw [hra, hrb]
    exact split_pre (by have := P.sc; omega) ra rb pre
  · rw [hra]; simp
  · rw [hrb]; simp
  · have : 0 < pre.length := List.length_pos_iff.2 P.ne
    omega
  · rw [hrb]; exact hbel _ (hlast _)
  · rw [hra]; exact hbel _ (hlast _)
  · rw [hrb, getD_pre]; exact (bel_on H.tl h c P.cl).2 P.con
  · rw [hra, getD_pre]; exact bel_off H.tl h s P.sl hns
  · rw [hrb, getD_pre]
end Go.Proofs.Ytblbgafadadbmaa
end
section
/- Fixed weights of a host's rack and zone; a host's rack and zone in memory, in plain Lean. -/
set_option linter.unusedVariables false
namespace Go.Proofs.Ytblbgafadadbmaa
open Go.RowKit
theorem fixed_of {l : List Nd} (ht : Tall l) {h a b : Nat} (hh : h < l.length) (h4 : (l.getD h nd0).kind = 4) (e1 : (l.getD h nd0).above = a) (ha : a < l.length) (e2 : (l.getD a nd0).above = b) (hb : b < l.length) (wa : 0 < (l.getD a nd0).weight) (wb : 0 < (l.getD b nd0).weight) : fixedI l h = true := by
  have k1 := tall_below ht h hh (by omega)
  rw [e1, ndAt_nat] at k1
  have k2 := tall_below ht a ha (by omega)
  rw [e2, ndAt_nat] at k2
  have k3 := tall_below ht b hb (by omega)
  unfold fixedI
  rw [ndAt_nat, e1, fix_in l 3 ha, e2, fix_in l 2 hb, decide_eq_true wa, decide_eq_true wb, Bool.or_true, Bool.or_true, Bool.true_and, Bool.true_and]
  obtain ⟨c, hc⟩ := Int.eq_ofNat_of_zero_le k3.1
  rw [hc, ndAt_nat] at k3
  have hcl : c < l.length := by omega
  have hd := tall_head ht c hcl
  rw [hc, fix_in l 1 hcl, (hd.level (by omega)).2, fix_out l 1 (by omega), Bool.and_true]
  have : (l.getD c nd0).kind = 1 := by omega
  rw [this]; rfl
/-- Two ways from a level, as one host weighs more: alike, or they part as the law asks. -/
theorem ways_q {l m : List Nd} {h : Nat} (H : Hv l m h) (hosts : List Int) (seed key : Int) {i : Nat} (hi : i < l.length) (hk : (l.getD i nd0).kind = 1) :
    wayI l (wt l hosts) seed key i = wayI m (wt m hosts) seed key i ∨
    ∃ k : Nat, splitF (wayI l (wt l hosts) seed key i) (wayI m (wt m hosts) seed key i) = k ∧ PartQ l h (wayI l (wt l hosts) seed key i) (wayI m (wt m hosts) seed key i) k ∧
      (wayI l (wt l hosts) seed key i).length = (wayI m (wt m hosts) seed key i).length ∧ (fixedI l h = true → (wayI m (wt m hosts) seed key i).getD k 0 = h) := by
  rcases H.ways hosts seed key 4 i hi (by omega) with w | ⟨pre, s, c, P⟩
  · exact .inl w
  · right
    obtain ⟨q1, q2, q3⟩ := parts_q H P
    refine ⟨pre.length, q1, q2, P.lena, fun hf => ?_⟩
    have := H.parts_host hosts seed key P hf (by have := P.deep; omega)
    rw [show (wayI m (wt m hosts) seed key i).getD pre.length 0 = c from q3, this]
theorem splitF_comm : ∀ a b : List Int, splitF a b = splitF b a
  | [], [] => rfl
  | [], _ :: _ => rfl
  | _ :: _, [] => rfl
  | x :: a, y :: b => by
    rw [splitF, splitF, splitF_comm a b]
    by_cases e : x = y
    · rw [if_pos e, if_pos e.symm]
    · rw [if_neg e, if_neg (fun h => e h.symm)]
/-- What the law asks of a way with more and one with less. -/
structure GoodQ (l : List Nd) (h : Nat) (t f : List Int) (k : Nat) : Prop where
  one : belF l (t.getD (k - 1) 0) 4 (h : Int) = true
  two : belF l (t.getD k 0) 4 (h : Int) = true
  thr : belF l (f.getD k 0) 4 (h : Int) = false
  fou : fixedI l h = true → t.getD k 0 = h
/-- Two ways, before and behind: alike, or they part well. -/
def WellQ (l : List Nd) (h : Nat) (up : Prop) (a b : List Int) : Prop :=
  a = b ∨ ∃ k : Nat, splitF a b = k ∧ a.length = b.length ∧ k < a.length ∧ k ≠ 0 ∧ (up → GoodQ l h b a k) ∧ (¬ up → GoodQ l h a b k)
theorem well_up {l m : List Nd} {h : Nat} (H : Hv l m h) (hosts : List Int) (seed key : Int) {i : Nat} (hi : i < l.length) (hk : (l.getD i nd0).kind = 1) {up : Prop} (hu : up) : WellQ l h up (wayI l (wt l hosts) seed key i) (wayI m (wt m hosts) seed key i) := by
  rcases ways_q H hosts seed key hi hk with e | ⟨k, q1, q2, q3, q4⟩
  · exact .inl e
  · exact .inr ⟨k, q1, q3, q2.lt, q2.k0, fun _ => ⟨q2.last, q2.too, q2.frm, q4⟩, fun h => absurd hu h⟩
theorem well_down {l m : List Nd} {h : Nat} (H : Hv m l h) (hosts : List Int) (seed key : Int) {i : Nat} (hi : i < l.length) (hk : (l.getD i nd0).kind = 1) {up : Prop} (hu : ¬ up) (hf : fixedI m h = fixedI l h) : WellQ l h up (wayI l (wt l hosts) seed key i) (wayI m (wt m hosts) seed key i) := by
  have hb : ∀ a f i, belF m a f i = belF l a f i := fun a f i => belF_congr H.len.symm (fun j => (H.above j).symm) a f i
  rcases ways_q H hosts seed key (i := i) (by rw [← H.len]; exact hi) (by rw [← H.kind]; exact hk) with e | ⟨k, q1, q2, q3, q4⟩
  · exact .inl e.symm
  · refine .inr ⟨k, by rw [splitF_comm]; exact q1, q3.symm, q2.ltb, q2.k0, fun h => absurd h hu, fun _ => ⟨?_, ?_, ?_, ?_⟩⟩
    · rw [← hb]; exact q2.last
    · rw [← hb]; exact q2.too
    · rw [← hb]; exact q2.frm
    · rw [← hf]; exact q4
end Go.Proofs.Ytblbgafadadbmaa
end
