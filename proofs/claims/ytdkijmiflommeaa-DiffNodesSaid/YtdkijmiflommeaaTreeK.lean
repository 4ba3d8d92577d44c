/- Up, Below, Level; the law's up and same. -/
import Derived.Test.YtdkijmiflommeaaTreeJ
set_option linter.unusedVariables false
namespace Go.Proofs.Ytdkijmiflommeaa
open Go.RowKit
set_option maxHeartbeats 4000000
set_option maxRecDepth 100000
/-- The node of a kind that one is, or is below, within so many steps. -/
def upF (l : List Nd) (kind : Int) : Nat → Int → Int
  | 0, _ => -1
  | f + 1, i => if 0 ≤ i ∧ i < l.length then (if (ndAt l i).kind = kind then i else upF l kind f (ndAt l i).above) else -1
def Rises (l : List Nd) : Prop := ∀ j, j < l.length → (l.getD j nd0).above < j
theorem upF_same {l : List Nd} (hl : Rises l) (kind : Int) : ∀ (f f' : Nat) (i : Int), i < f → i < f' → upF l kind f i = upF l kind f' i
  | 0, 0, _, _, _ => rfl
  | 0, f' + 1, i, h, _ => by rw [upF, upF, if_neg (by omega)]
  | f + 1, 0, i, _, h => by rw [upF, upF, if_neg (by omega)]
  | f + 1, f' + 1, i, h, h' => by
    rw [upF, upF]
    by_cases hi : 0 ≤ i ∧ i < l.length
    · rw [if_pos hi, if_pos hi]
      have := hl i.toNat (by omega)
      have e : ndAt l i = l.getD i.toNat nd0 := by unfold ndAt; rw [if_pos hi.1]
      rw [← e] at this
      rw [upF_same hl kind f f' (ndAt l i).above (by omega) (by omega)]
    · rw [if_neg hi, if_neg hi]
/-- The node of a kind above one, or itself. -/
def up (l : List Nd) (kind i : Int) : Int := upF l kind l.length i
theorem up_out (l : List Nd) (kind i : Int) (h : i < 0 ∨ l.length ≤ i) : up l kind i = -1 := by
  unfold up
  cases hl : l.length with
  | zero => rfl
  | succ n => rw [upF, if_neg (by omega)]
theorem up_hit (l : List Nd) (kind i : Int) (h0 : 0 ≤ i) (h1 : i < l.length) (h : (ndAt l i).kind = kind) : up l kind i = i := by
  unfold up
  obtain ⟨n, hn⟩ : ∃ n, l.length = n + 1 := ⟨l.length - 1, by omega⟩
  rw [hn, upF, if_pos ⟨h0, h1⟩, if_pos h]
theorem up_step (l : List Nd) (hl : Rises l) (kind i : Int) (h0 : 0 ≤ i) (h1 : i < l.length) (h : ¬ (ndAt l i).kind = kind) : up l kind i = up l kind (ndAt l i).above := by
  have := hl i.toNat (by omega)
  have e : ndAt l i = l.getD i.toNat nd0 := by unfold ndAt; rw [if_pos h0]
  rw [← e] at this
  unfold up
  rw [upF_same hl kind l.length (l.length + 1) i (by omega) (by omega), upF, if_pos ⟨h0, h1⟩, if_neg h]
theorem tr_Up {b : Nat} {l : List Nd} {w : World} (h : TR w b l) (hr : Rises l) (i kind : Int) : Calls Try.prog 31 #[.pointer (some ⟨b, 0, none⟩), .int .i64 i, .int .i64 kind] w fun e w' => e = .returned (.int .i64 (up l kind i)) ∧ w = w' := by
  go_enter Try.func31, Try.ntmps31
  go_wp2
  go_loopg [1] (i + 1).toNat (fun gg s1 wr => ∃ k : Int, k ≤ i ∧ gg = (k + 1).toNat ∧ s1 = .int .i64 k ∧ w = wr ∧ Hid (up l kind k = up l kind i))
  case atStart => exact ⟨i, Int.le_refl _, rfl, rfl, rfl, Lib.hid rfl⟩
  case round =>
    obtain ⟨k, hk, rfl, rfl, rfl, HU⟩ := hrel
    by_cases h0 : 0 ≤ k
    · have g0 : decide (0 ≤ k) = true := decide_eq_true h0
      have hL := tr_Len h
      by_cases h1 : k < l.length
      · have g1 : decide (k < (l.length : Int)) = true := decide_eq_true h1
        have h2 := h
        obtain ⟨hwf, hl, AN, cN, AK, cK, AT, cT, AH, cH, hB, hN, _⟩ := h2
        have hcap := hN.cap
        have hsm := hN.small
        obtain ⟨c0, c1, c2, c3, _⟩ := hB.cells4
        have hat := hN.at_ (k := k.toNat) (by omega)
        have e : ndAt l k = l.getD k.toNat nd0 := by unfold ndAt; rw [if_pos h0]
        have hra := hr k.toNat (by omega)
        rw [← e] at hat hra
        obtain ⟨ad, rfl, hbk, d0, d1, d2, d3, d4, d5, d6⟩ := hat
        have HH := Lib.hid (up_hit l kind k h0 h1)
        have HS := Lib.hid (up_step l hr kind k h0 h1)
        generalize ndAt l k = x at *
        by_cases hx : x.kind = kind
        · have g2 : (x.kind == kind) = true := by rw [beq_iff_eq]; exact hx
          have HE := Lib.hid (HU.out.symm.trans (HH.out hx))
          clear HU HH HS hx e hra
          go_wp2_with fail
          refine hL.mono ?_; rintro e w' ⟨rfl, rfl⟩
          go_wp2
          go_ret
          exact ⟨by rw [HE.out]; rfl, rfl⟩
        · have g2 : (x.kind == kind) = false := by rw [beq_eq_false_iff_ne]; exact hx
          have HE := Lib.hid ((HS.out hx).symm.trans HU.out)
          clear HU HH HS hx e
          go_wp2_with fail
          refine hL.mono ?_; rintro e w' ⟨rfl, rfl⟩
          go_wp2
          go_roundg (x.above + 1).toNat
          case measure => omega
          case rel => exact ⟨x.above, by omega, rfl, rfl, rfl, HE⟩
      · have g1 : decide (k < (l.length : Int)) = false := decide_eq_false h1
        have HE := Lib.hid (HU.out.symm.trans (up_out l kind k (by omega)))
        clear HU
        go_wp2_with fail
        refine hL.mono ?_; rintro e w' ⟨rfl, rfl⟩
        go_wp2
        go_ret
        exact ⟨by rw [HE.out]; rfl, rfl⟩
    · have g0 : decide (0 ≤ k) = false := decide_eq_false h0
      have HE := Lib.hid (HU.out.symm.trans (up_out l kind k (by omega)))
      clear HU
      go_wp2
      go_ret
      exact ⟨by rw [HE.out]; rfl, rfl⟩
theorem tr_Level {b : Nat} {l : List Nd} {w : World} (h : TR w b l) (hr : Rises l) (i : Int) : Calls Try.prog 33 #[.pointer (some ⟨b, 0, none⟩), .int .i64 i] w fun e w' => e = .returned (.int .i64 (if up l 1 i < 0 then -1 else idxI (up l 1 i) (idx (isK 1) l))) ∧ w = w' := by
  have hU := tr_Up h hr i 1
  by_cases h0 : up l 1 i < 0
  · rw [if_pos h0]
    generalize up l 1 i = u at *
    have g0 : decide (u < 0) = true := decide_eq_true h0
    go_enter Try.func33, Try.ntmps33
    go_wp2_with fail
    refine hU.mono ?_; rintro e w' ⟨rfl, rfl⟩
    go_wp2
    go_ret
    exact ⟨rfl, rfl⟩
  · rw [if_neg h0]
    obtain ⟨u, hu⟩ : ∃ u, u = up l 1 i := ⟨_, rfl⟩
    rw [← hu] at hU h0 ⊢
    clear hu
    have g0 : decide (u < 0) = false := decide_eq_false h0
    go_enter Try.func33, Try.ntmps33
    go_wp2_with fail
    refine hU.mono ?_; rintro e w1 ⟨rfl, rfl⟩
    obtain ⟨hwf, hl, AN, cN, AK, cK, AT, cT, AH, cH, hB, hN, hT, _⟩ := h
    obtain ⟨c0, c1, c2, c3, _⟩ := hB.cells4
    go_wp2_with fail
    refine (index_ints AT _ cT _ u _ hT).mono ?_; rintro e w2 ⟨rfl, rfl⟩
    go_wp2
    go_ret
    exact ⟨rfl, rfl⟩
theorem law16_up {A : Option Addr} {n c : Nat} {l : List Nd} {w : World} (h : IsNodes w A n c l) (i kind : Int) : Calls Try.prog 30 #[.slice A n c, .int .i64 i, .int .i64 kind] w fun e w' => e = .returned (.int .i64 (upF l kind 4 i)) ∧ w = w' := by
  have hcap := h.cap
  have hsm := h.small
  have hlen := h.len
  subst hlen
  go_enter Try.func30, Try.ntmps30
  go_wp2
  go_loopg [1, 7] 4 (fun gg s1 s7 wr => ∃ (k : Int) (m : Nat), m ≤ 4 ∧ gg = 4 - m ∧ s1 = .int .i64 k ∧ s7 = .int .i64 m ∧ w = wr ∧ Hid (upF l kind (4 - m) k = upF l kind 4 i))
  case atStart => exact ⟨i, 0, Nat.zero_le _, rfl, rfl, rfl, rfl, Lib.hid rfl⟩
  case round =>
    obtain ⟨k, m, hm, rfl, rfl, rfl, rfl, HU⟩ := hrel
    by_cases hm4 : m < 4
    · have gm : decide ((m : Int) < 4) = true := decide_eq_true (by omega)
      obtain ⟨f, hf⟩ : ∃ f, 4 - m = f + 1 := ⟨3 - m, by omega⟩
      have hf2 : 4 - (m + 1) = f := by omega
      rw [hf, upF] at HU
      by_cases h0 : 0 ≤ k
      · have g0 : decide (0 ≤ k) = true := decide_eq_true h0
        by_cases h1 : k < l.length
        · have g1 : decide (k < (l.length : Int)) = true := decide_eq_true h1
          rw [if_pos ⟨h0, h1⟩] at HU
          have hat := h.at_ (k := k.toNat) (by omega)
          have e : ndAt l k = l.getD k.toNat nd0 := by unfold ndAt; rw [if_pos h0]
          rw [← e] at hat
          obtain ⟨ad, rfl, hbk, d0, d1, d2, d3, d4, d5, d6⟩ := hat
          clear e
          generalize ndAt l k = x at *
          by_cases hx : x.kind = kind
          · have g2 : (x.kind == kind) = true := by rw [beq_iff_eq]; exact hx
            rw [if_pos hx] at HU
            have HE := Lib.hid HU.out.symm
            clear HU hx hf hf2
            go_wp2
            go_ret
            exact ⟨by rw [HE.out]; rfl, rfl⟩
          · have g2 : (x.kind == kind) = false := by rw [beq_eq_false_iff_ne]; exact hx
            rw [if_neg hx, ← hf2] at HU
            clear hx hf hf2
            go_wp2
            go_roundg (4 - (m + 1))
            case measure => omega
            case rel => exact ⟨x.above, m + 1, by omega, rfl, rfl, by go_num, rfl, HU⟩
        · have g1 : decide (k < (l.length : Int)) = false := decide_eq_false h1
          rw [if_neg (by omega)] at HU
          clear hf hf2
          go_wp2
          go_ret
          exact ⟨by rw [← HU.out]; rfl, rfl⟩
      · have g0 : decide (0 ≤ k) = false := decide_eq_false h0
        rw [if_neg (by omega)] at HU
        clear hf hf2
        go_wp2
        go_ret
        exact ⟨by rw [← HU.out]; rfl, rfl⟩
    · obtain rfl : m = 4 := by omega
      rw [show 4 - 4 = 0 from rfl, upF] at HU
      go_wp2
      go_ret
      exact ⟨by rw [← HU.out]; rfl, rfl⟩
theorem push_below {w u v : World} {row : Option Nat} (hW : Below w.heap.size w u) (hg : u.grownBy v row) (hr : ∀ g, row = some g → w.heap.size ≤ g) : Below w.heap.size w v := hW.grown hg hW.size hr
theorem own_from {w : World} {base : Nat} {e : TypeId} {s n : Nat} {v : Value} {xs : List Value} (h : w.ownsRow base e s v n xs) : ∀ g, v.ownBlock = some g → base ≤ g := fun g hg => (h.lt g hg).1
theorem own_keep {w w' : World} {base : Nat} {e : TypeId} {s n : Nat} {v : Value} {xs : List Value} (h : w.ownsRow base e s v n xs) (hx : Below w.heap.size w w') : w'.ownsRow base e s v n xs :=
  h.kept (row := none) ⟨hx.os, hx.tape, hx.output, hx.size, fun k hk _ => hx.block k hk⟩ (by cases v.ownBlock <;> simp)
theorem law16_same {A A' : Option Addr} {n n' c c' : Nat} {l l' : List Int} {w : World} (h : IsList w .i64 A n c l) (h' : IsList w .i64 A' n' c' l') : Calls Try.prog 25 #[.slice A n c, .slice A' n' c'] w fun e w' => e = .returned (.bool (decide (l = l'))) ∧ Below w.heap.size w w' := by
  have hcap := h.cap
  have hsm := h.small
  have hcap' := h'.cap
  have hsm' := h'.small
  have hlen := h.len
  have hlen' := h'.len
  by_cases hn : n = n'
  · have g0 : ((n : Int) != (n' : Int)) = false := by simp; omega
    subst hn
    have HL := Lib.hid hlen
    have HL' := Lib.hid hlen'
    clear hlen hlen'
    go_enter Try.func25, Try.ntmps25
    go_wp2
    go_loopg [5] n (fun gg s5 wr => ∃ m : Nat, m ≤ n ∧ gg = n - m ∧ s5 = .int .i64 m ∧ Below w.heap.size w wr ∧ Hid (∀ j, j < m → l.getD j 0 = l'.getD j 0))
    case atStart => exact ⟨0, Nat.zero_le _, rfl, rfl, Below.refl _ _, Lib.hid (fun j hj => absurd hj (Nat.not_lt_zero _))⟩
    case round =>
      obtain ⟨m, hm, rfl, rfl, hW, HN⟩ := hrel
      by_cases hlt : m < n
      · obtain ⟨ad, rfl, _, x0, _⟩ := (h.keep hW).get hlt
        obtain ⟨ad', rfl, _, y0, _⟩ := (h'.keep hW).get hlt
        have hmi : (m : Int) < (n : Int) := by omega
        have HF := Lib.hid (show ¬ l.getD m 0 = l'.getD m 0 → ¬ l = l' from fun hne e => hne (by rw [e]))
        have HS := Lib.hid (show l.getD m 0 = l'.getD m 0 → ∀ j, j < m + 1 → l.getD j 0 = l'.getD j 0 from fun he j hj => (by
          by_cases e : j = m
          · rw [e]; exact he
          · exact HN.out j (by omega)))
        generalize l.getD m 0 = x at *
        generalize l'.getD m 0 = y at *
        by_cases hxy : x = y
        · have g1 : (x != y) = false := by simp [hxy]
          have HE := Lib.hid (HS.out hxy)
          clear HF HS HN hxy
          go_wp2_with fail
          go_quiet (fail)
          go_wp2
          go_roundg (n - (m + 1))
          case measure => omega
          case rel => exact ⟨m + 1, by omega, rfl, by go_num, below_drewN hW _, HE⟩
        · have g1 : (x != y) = true := by simp [hxy]
          have HE := Lib.hid (HF.out hxy)
          clear HF HS HN hxy
          go_wp2_with fail
          go_quiet (fail)
          go_wp2
          go_ret
          exact ⟨by rw [decide_eq_false HE.out]; rfl, below_drewN hW _⟩
      · obtain rfl : m = n := by omega
        have HE := Lib.hid (show l = l' from List.ext_getElem (by rw [HL.out, HL'.out]) fun j h1 h2 => by
          have := HN.out j (by rw [← HL.out]; exact h1)
          rw [List.getD_eq_getElem?_getD, List.getD_eq_getElem?_getD, List.getElem?_eq_getElem h1, List.getElem?_eq_getElem h2] at this
          exact this)
        clear HN
        go_wp2
        go_ret
        exact ⟨by rw [decide_eq_true HE.out]; rfl, hW⟩
  · have g0 : ((n : Int) != (n' : Int)) = true := by simp; omega
    have HE := Lib.hid (show ¬ l = l' from fun e => hn (by rw [← hlen, ← hlen', e]))
    clear hn
    go_enter Try.func25, Try.ntmps25
    go_wp2
    go_ret
    exact ⟨by rw [decide_eq_false HE.out]; rfl, Below.refl _ _⟩
/-- The hosts below a node, or itself. -/
def belowOf (l : List Nd) (i : Int) : List Int := if (ndAt l i).kind = 0 then [] else (idx (isK 4) l).filter fun h => up l (ndAt l i).kind h == i
theorem tr_Below {b : Nat} {l : List Nd} {w : World} (h : TR w b l) (hr : Rises l) (i : Int) : Calls Try.prog 32 #[.pointer (some ⟨b, 0, none⟩), .int .i64 i] w fun e w' => ∃ A c, e = .returned (.slice A (belowOf l i).length c) ∧ IsList w' .i64 A (belowOf l i).length c (belowOf l i) ∧ Below w.heap.size w w' := by
  have hN := tr_Node h i
  have hfew := h.few
  obtain ⟨iI, hiI, hzI, hzI1, hzI2⟩ := info_parts Try.infoI
  obtain ⟨x, hx⟩ : ∃ x, x = ndAt l i := ⟨_, rfl⟩
  have HB := Lib.hid (show belowOf l i = if x.kind = 0 then [] else (idx (isK 4) l).filter fun h => up l x.kind h == i by rw [hx]; rfl)
  rw [← hx] at hN
  clear hx
  obtain ⟨R, hR⟩ : ∃ R, R = belowOf l i := ⟨_, rfl⟩
  rw [← hR]
  have HR := Lib.hid hR
  clear hR
  unfold Nd.val at hN
  go_enter Try.func32, Try.ntmps32
  go_wp2_with fail
  refine hN.mono ?_; rintro e w1 ⟨rfl, hx1⟩
  clear hN
  go_wp2_with fail
  have hP := Blk.new w1 34 #[.string x.name, .int .i64 x.kind, .int .i64 x.above, .int .i64 x.weight, .bool x.six, .int .u64 x.hi, .int .u64 x.lo]
  have hx2 := hx1.alloc hx1.size (.cells #[.string x.name, .int .i64 x.kind, .int .i64 x.above, .int .i64 x.weight, .bool x.six, .int .u64 x.hi, .int .u64 x.lo] 34)
  generalize w1.alloc (.cells #[.string x.name, .int .i64 x.kind, .int .i64 x.above, .int .i64 x.weight, .bool x.six, .int .u64 x.hi, .int .u64 x.lo] 34) = u at *
  refine (tr_Hosts (h.keep hx2)).mono ?_; rintro e w3 ⟨A, c, rfl, hI, hb, hx3⟩
  have hP3 := hP.keep hx3
  have hx4 := below_step hx2 hx3
  have hle := idx_le (isK 4) l
  have hbd := Lib.hid (idx_bd (isK 4) l)
  have hcap := hI.cap
  have hsm := hI.small
  clear hP hx2 hx3 hx1
  generalize idx (isK 4) l = hs at *
  obtain ⟨n, hn⟩ : ∃ n, n = hs.length := ⟨_, rfl⟩
  have hlen := Lib.hid hn.symm
  rw [← hn] at hI hcap hle
  rw [← hn]
  clear hn
  go_wp2_with fail
  go_loopg [5, 15] n (fun gg s5 s15 wr => ∃ (m : Nat) (out : List Int), m ≤ n ∧ gg = n - m ∧ s15 = .int .i64 m ∧ wr.ownsRow w3.heap.size 3 1 s5 out.length (ints out) ∧ Below w3.heap.size w3 wr ∧ Hid (out = if x.kind = 0 then [] else (hs.take m).filter fun h => up l x.kind h == i))
  case atStart => exact ⟨0, [], Nat.zero_le _, rfl, rfl, World.ownsRow_nil _ _ _ _, Below.refl _ _, Lib.hid (by simp)⟩
  case round =>
    obtain ⟨m, out, hm, rfl, rfl, hown, hW3, HO⟩ := hrel
    have hW := below_step hx4 hW3
    have hol : out.length ≤ 1024 := by
      rw [HO.out]
      split
      · simp
      · refine Nat.le_trans (List.length_filter_le _ _) ?_
        rw [List.length_take, hlen.out]; omega
    obtain ⟨p0, p1, p2, p3, p4, p5, p6, _⟩ := (hP3.keep hW3).cells7
    by_cases hlt : m < n
    · obtain ⟨ad, rfl, _, x0, _⟩ := (hI.keep hW3).get hlt
      have hmi : (m : Int) < (n : Int) := by omega
      have HT := Lib.hid (show hs.take (m + 1) = hs.take m ++ [hs.getD m 0] by
        rw [List.take_succ_eq_append_getElem (by rw [hlen.out]; exact hlt), List.getD_eq_getElem?_getD, List.getElem?_eq_getElem (by rw [hlen.out]; exact hlt)]; rfl)
      generalize hs.getD m 0 = z at *
      by_cases hk0 : x.kind = 0
      · have g1 : (x.kind != 0) = false := by simp [hk0]
        have HE := Lib.hid (show out = if x.kind = 0 then [] else (hs.take (m + 1)).filter fun h => up l x.kind h == i by rw [HO.out, if_pos hk0, if_pos hk0])
        clear HO HT hk0
        go_wp2
        go_roundg (n - (m + 1))
        case measure => omega
        case rel => exact ⟨m + 1, out, by omega, rfl, by go_num, hown, hW3, HE⟩
      · have g1 : (x.kind != 0) = true := by simp [hk0]
        have hU := tr_Up (h.keep hW) hr z x.kind
        have HE := Lib.hid (show (if x.kind = 0 then [] else (hs.take (m + 1)).filter fun h => up l x.kind h == i) = out ++ if up l x.kind z = i then [z] else [] by
          rw [HO.out, if_neg hk0, if_neg hk0, HT.out, List.filter_append]
          congr 1
          by_cases e : up l x.kind z = i <;> simp [e])
        clear HO HT hk0
        obtain ⟨U, hU0⟩ : ∃ U, U = up l x.kind z := ⟨_, rfl⟩
        rw [← hU0] at hU HE
        clear hU0
        go_wp2_with fail
        refine hU.mono ?_; rintro e w5 ⟨rfl, rfl⟩
        have hW35 := hW3
        have hown5 := hown
        clear hown hW hW3 hU p0 p1 p2 p3 p4 p5 p6
        by_cases hUi : U = i
        · have g2 : (U == i) = true := by simp [hUi]
          rw [if_pos hUi] at HE
          clear hUi
          go_wp2_with (at_builtin; go_loud (refine wpList_append_any _ rfl (.tmp 31) (.tmp 33) _ rfl w3.heap.size 3 iI _ 1 8 Try.underlying40 hiI hzI hzI1 hzI2 rfl (by decide) _ _ (ints out) rfl (hown5.alloc _) _ (some ⟨wr.heap.size, 0, none⟩) 1 1 [.int .i64 z] rfl (one_reads wr 3 1 [.int .i64 z] rfl) (by intro u hu; simp at hu; subst hu; rfl) (by simp only [maxLen]; omega) (by omega) (by have := hW35.size; simp; omega) ?_; intro v6 w6 hown6 hg6 hat6))
          have hW36 := push_below (hW35.alloc hW35.size _) hg6 (own_from hown5)
          go_wp2
          go_roundg (n - (m + 1))
          case measure => omega
          case rel => exact ⟨m + 1, out ++ [z], by omega, rfl, by go_num, by simpa [ints] using hown6, hW36, Lib.hid HE.out.symm⟩
        · have g2 : (U == i) = false := by simp [hUi]
          rw [if_neg hUi, List.append_nil] at HE
          clear hUi
          go_wp2
          go_roundg (n - (m + 1))
          case measure => omega
          case rel => exact ⟨m + 1, out, by omega, rfl, by go_num, hown5, hW35, Lib.hid HE.out.symm⟩
    · obtain rfl : m = n := by omega
      have HE := Lib.hid (show out = R by
        rw [HO.out, HR.out, HB.out, List.take_of_length_le (by rw [hlen.out]; exact Nat.le_refl _)])
      clear HO
      obtain ⟨AR, cR, rfl, hIR, _⟩ := own_list hown (fun z hz => by
        have h1 : z ∈ hs := by
          have := HE.out
          rw [this, HR.out, HB.out] at hz
          split at hz
          · simp at hz
          · exact (List.mem_filter.1 hz).1
        have := hbd.out z h1
        simp [Lit.wf, IntKind.min, IntKind.max, IntKind.signed, IntKind.bits]
        omega) (by omega)
      have hel := HE.out
      subst hel
      go_wp2
      go_ret
      exact ⟨AR, cR, rfl, hIR, hW⟩
end Go.Proofs.Ytdkijmiflommeaa
