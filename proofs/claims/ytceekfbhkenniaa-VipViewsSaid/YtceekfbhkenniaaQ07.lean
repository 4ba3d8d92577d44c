/- Lemmas for the claim's proof: ValidE ValidF AppendAny TreeF. -/
import Derived.Maps.AppendAt
import Derived.Deep.AppendLies
import Derived.RegionTactic
import Derived.OwnWalk
import Derived.Test.YtceekfbhkenniaaQ02
import Derived.Test.YtceekfbhkenniaaQ04
import Derived.Test.YtceekfbhkenniaaQ06
section
/- valid.plain and valid.self. -/
set_option linter.unusedVariables false
namespace Go.Proofs.Ytceekfbhkenniaa
open Go.RowKit
set_option maxHeartbeats 4000000
set_option maxRecDepth 100000
def noAd (a : Ad) : Bool := !a.six && a.hi == 0 && a.lo == 0
/-- Why what a configuration has beside its lists may not be. -/
def plainI (c : Conf) : Int :=
  if c.factor < 100 ∨ 1000 < c.factor ∨ (c.domain ≠ 2 ∧ c.domain ≠ 3) then 5
  else if c.s4.six = true ∨ addrOk c.s4.six c.s4.hi c.s4.lo = false ∨ (noAd c.s6 = false ∧ c.s6.six = false) then 18
  else if 64 < c.vn ∨ 64 < c.wn then 6
  else 0
theorem plain5 {c : Conf} (h : c.factor < 100 ∨ 1000 < c.factor ∨ (c.domain ≠ 2 ∧ c.domain ≠ 3)) : plainI c = 5 := by unfold plainI; rw [if_pos h]
theorem plain18 {c : Conf} (h : ¬ (c.factor < 100 ∨ 1000 < c.factor ∨ (c.domain ≠ 2 ∧ c.domain ≠ 3))) (h2 : c.s4.six = true ∨ addrOk c.s4.six c.s4.hi c.s4.lo = false ∨ (noAd c.s6 = false ∧ c.s6.six = false)) : plainI c = 18 := by unfold plainI; rw [if_neg h, if_pos h2]
theorem plain6 {c : Conf} (h : ¬ (c.factor < 100 ∨ 1000 < c.factor ∨ (c.domain ≠ 2 ∧ c.domain ≠ 3))) (h2 : ¬ (c.s4.six = true ∨ addrOk c.s4.six c.s4.hi c.s4.lo = false ∨ (noAd c.s6 = false ∧ c.s6.six = false))) (h3 : 64 < c.vn ∨ 64 < c.wn) : plainI c = 6 := by unfold plainI; rw [if_neg h, if_neg h2, if_pos h3]
theorem plain0 {c : Conf} (h : ¬ (c.factor < 100 ∨ 1000 < c.factor ∨ (c.domain ≠ 2 ∧ c.domain ≠ 3))) (h2 : ¬ (c.s4.six = true ∨ addrOk c.s4.six c.s4.hi c.s4.lo = false ∨ (noAd c.s6 = false ∧ c.s6.six = false))) (h3 : ¬ (64 < c.vn ∨ 64 < c.wn)) : plainI c = 0 := by unfold plainI; rw [if_neg h, if_neg h2, if_neg h3]
theorem noAd_zero {a : Ad} (h : noAd a = true) : a.six = false ∧ a.hi = 0 ∧ a.lo = 0 := by
  unfold noAd at h
  simp at h
  exact ⟨h.1.1, h.1.2, h.2⟩
theorem valid_plain (c : Conf) (w : World) (h1 : c.vn ≤ 9223372036854775807) (h2 : c.wn ≤ 9223372036854775807) :
    Calls Try.prog 27 #[.agg c.cells] w fun e w' => e = .returned (.int .i64 (plainI c)) ∧ Below w.heap.size w w' := by
  have W5 := Lib.hid (plain5 (c := c))
  have W18 := Lib.hid (plain18 (c := c))
  have W6 := Lib.hid (plain6 (c := c))
  have W0 := Lib.hid (plain0 (c := c))
  have hz := noAd_zero (a := c.s6)
  have hno := Lib.hid (show noAd c.s6 = (!c.s6.six && c.s6.hi == 0 && c.s6.lo == 0) from rfl)
  generalize plainI c = PI at *
  generalize noAd c.s6 = no6 at *
  obtain ⟨na, nn, nc, va, vn, vc, wa, wn, wc, factor, domain, ⟨a6, ah, al⟩, ⟨b6, bh, bl⟩, nodes, vips, views⟩ := c
  unfold Conf.cells
  dsimp only at *
  have P := (Blk.new w 33 #[.slice na nn nc, .slice va vn vc, .slice wa wn wc, .int .i64 factor, .int .i64 domain, .bool a6, .int .u64 ah, .int .u64 al, .bool b6, .int .u64 bh, .int .u64 bl]).alloc (.cells #[.bool false, .int .u64 0, .int .u64 0] 25)
  have Q := Blk.new (w.alloc (.cells #[.slice na nn nc, .slice va vn vc, .slice wa wn wc, .int .i64 factor, .int .i64 domain, .bool a6, .int .u64 ah, .int .u64 al, .bool b6, .int .u64 bh, .int .u64 bl] 33)) 25 #[.bool false, .int .u64 0, .int .u64 0]
  have hsz : (w.alloc (.cells #[.slice na nn nc, .slice va vn vc, .slice wa wn wc, .int .i64 factor, .int .i64 domain, .bool a6, .int .u64 ah, .int .u64 al, .bool b6, .int .u64 bh, .int .u64 bl] 33)).heap.size = w.heap.size + 1 := by simp
  rw [hsz] at Q
  have hW : Below w.heap.size w ((w.alloc (.cells #[.slice na nn nc, .slice va vn vc, .slice wa wn wc, .int .i64 factor, .int .i64 domain, .bool a6, .int .u64 ah, .int .u64 al, .bool b6, .int .u64 bh, .int .u64 bl] 33)).alloc (.cells #[.bool false, .int .u64 0, .int .u64 0] 25)) := ((Below.refl _ _).alloc (Nat.le_refl _) _).alloc (by simp) _
  go_enter Try.func27, Try.ntmps27
  go_upto_region 2 with (fail)
  generalize ((w.alloc (.cells #[.slice na nn nc, .slice va vn vc, .slice wa wn wc, .int .i64 factor, .int .i64 domain, .bool a6, .int .u64 ah, .int .u64 al, .bool b6, .int .u64 bh, .int .u64 bl] 33)).alloc (.cells #[.bool false, .int .u64 0, .int .u64 0] 25)) = u at *
  clear hsz
  obtain ⟨p0, p1, p2, p3, p4, p5, p6, p7, p8, p9, p10, _⟩ := P.cells11
  obtain ⟨q0, q1, q2, _⟩ := Q.cells3
  by_cases hA : factor < 100 ∨ 1000 < factor ∨ (domain ≠ 2 ∧ domain ≠ 3)
  · have HE := Lib.hid (W5.out hA)
    clear W5 W18 W6 W0 hz hno
    by_cases a1 : factor < 100
    · have g1 : decide (factor < 100) = true := decide_eq_true a1
      go_wp2
      go_ret
      exact ⟨ret_int HE.out.symm, hW⟩
    · have g1 : decide (factor < 100) = false := decide_eq_false a1
      by_cases a2 : 1000 < factor
      · have g2 : decide (1000 < factor) = true := decide_eq_true a2
        go_wp2
        go_ret
        exact ⟨ret_int HE.out.symm, hW⟩
      · have g2 : decide (1000 < factor) = false := decide_eq_false a2
        have g3 : (domain != 2) = true := by rw [bne_iff_ne]; omega
        have g4 : (domain != 3) = true := by rw [bne_iff_ne]; omega
        clear hA
        go_wp2
        go_ret
        exact ⟨ret_int HE.out.symm, hW⟩
  · have g1 : decide (factor < 100) = false := decide_eq_false (by omega)
    have g2 : decide (1000 < factor) = false := decide_eq_false (by omega)
    replace W18 := Lib.hid (W18.out hA)
    replace W6 := Lib.hid (W6.out hA)
    replace W0 := Lib.hid (W0.out hA)
    clear W5
    have hd : domain = 2 ∨ domain = 3 := by omega
    clear hA
    rcases hd with rfl | rfl
    all_goals
      go_upto_region 4 with (fail)
      by_cases hB : a6 = true ∨ addrOk a6 ah al = false ∨ (no6 = false ∧ b6 = false)
      · have HE := Lib.hid (W18.out hB)
        clear W18 W6 W0 hz
        cases a6 with
        | true =>
          go_wp2
          go_ret
          exact ⟨ret_int HE.out.symm, hW⟩
        | false =>
          go_wp2_with fail
          refine (addr_Right false ah al _).mono ?_; rintro e w1 ⟨rfl, hx⟩
          have P1 := P.keep hx
          have Q1 := Q.keep hx
          have hW1 := below_step hW hx
          clear P Q hW hx p0 p1 p2 p3 p4 p5 p6 p7 p8 p9 p10 q0 q1 q2
          obtain ⟨p0, p1, p2, p3, p4, p5, p6, p7, p8, p9, p10, _⟩ := P1.cells11
          obtain ⟨q0, q1, q2, _⟩ := Q1.cells3
          cases hok : addrOk false ah al with
          | false =>
            clear hB hok
            go_wp2
            go_ret
            exact ⟨ret_int HE.out.symm, hW1⟩
          | true =>
            have h2 : no6 = false ∧ b6 = false := by
              rcases hB with h | h | h
              · cases h
              · rw [hok] at h; cases h
              · exact h
            obtain ⟨rfl, rfl⟩ := h2
            have hno2 := hno.out
            have g5 : (bh == 0 && bl == 0) = false := by simpa using hno2.symm
            clear hno hno2 hB hok
            go_wp2
            all_goals first
              | (focus (exfalso; have g6 := g5; simp [*] at g6; done))
              | (focus (go_ret; exact ⟨ret_int HE.out.symm, hW1⟩))
      · replace W6 := Lib.hid (W6.out hB)
        replace W0 := Lib.hid (W0.out hB)
        clear W18
        have h6 : a6 = false := by
          cases a6 with
          | false => rfl
          | true => exact absurd (.inl rfl) hB
        subst h6
        have hok : addrOk false ah al = true := by
          cases h : addrOk false ah al with
          | true => rfl
          | false => exact absurd (.inr (.inl h)) hB
        have h26 : no6 = true ∨ b6 = true := by
          cases no6 with
          | true => exact .inl rfl
          | false =>
            cases b6 with
            | true => exact .inr rfl
            | false => exact absurd (.inr (.inr ⟨rfl, rfl⟩)) hB
        clear hB
        go_wp2_with fail
        refine (addr_Right false ah al _).mono ?_; rintro e w1 ⟨rfl, hx⟩
        rw [hok]
        have P1 := P.keep hx
        have Q1 := Q.keep hx
        have hW1 := below_step hW hx
        clear P Q hW hx p0 p1 p2 p3 p4 p5 p6 p7 p8 p9 p10 q0 q1 q2 hok
        obtain ⟨p0, p1, p2, p3, p4, p5, p6, p7, p8, p9, p10, _⟩ := P1.cells11
        obtain ⟨q0, q1, q2, _⟩ := Q1.cells3
        rcases h26 with h | h
        · obtain ⟨rfl, rfl, rfl⟩ := hz h
          clear hz hno h
          by_cases hC : 64 < vn ∨ 64 < wn
          · have HE := Lib.hid (W6.out hC)
            clear W6 W0
            go_wp2
            all_goals first
              | (exfalso; omega)
              | (focus (go_ret; exact ⟨ret_int HE.out.symm, hW1⟩))
          · have HE := Lib.hid (W0.out hC)
            clear W6 W0
            go_wp2
            all_goals first
              | (exfalso; omega)
              | (focus (go_ret; exact ⟨ret_int HE.out.symm, hW1⟩))
        · subst h
          clear hz hno
          by_cases hC : 64 < vn ∨ 64 < wn
          · have HE := Lib.hid (W6.out hC)
            clear W6 W0
            go_wp2
            all_goals first
              | (exfalso; omega)
              | (focus (go_ret; exact ⟨ret_int HE.out.symm, hW1⟩))
          · have HE := Lib.hid (W0.out hC)
            clear W6 W0
            go_wp2
            all_goals first
              | (exfalso; omega)
              | (focus (go_ret; exact ⟨ret_int HE.out.symm, hW1⟩))
/-- Can packets be sent to all hosts? -/
def selfN (c : Conf) (n : Nd) : Bool := !(n.kind == 4 && noAd (if n.six = true then c.s6 else c.s4))
def selfI (c : Conf) : Bool := c.nodes.all (selfN c)
end Go.Proofs.Ytceekfbhkenniaa
end
section
/- valid.self. -/
set_option linter.unusedVariables false
namespace Go.Proofs.Ytceekfbhkenniaa
open Go.RowKit
set_option maxHeartbeats 4000000
set_option maxRecDepth 100000
theorem all_stepG {α : Type} {z : α} {p : α → Bool} {l : List α} {k : Nat} (hk : k < l.length) (h : (l.take k).all p = true) (h2 : p (l.getD k z) = true) : (l.take (k + 1)).all p = true := by
  rw [List.take_succ_eq_append_getElem hk, List.all_append, h]
  rw [List.getD_eq_getElem?_getD, List.getElem?_eq_getElem hk] at h2
  simpa using h2
theorem all_hitG {α : Type} {z : α} {p : α → Bool} {l : List α} {k : Nat} (hk : k < l.length) (h2 : p (l.getD k z) = false) : l.all p = false := by
  rw [List.all_eq_false]
  refine ⟨_, List.getElem_mem hk, ?_⟩
  rw [List.getD_eq_getElem?_getD, List.getElem?_eq_getElem hk] at h2
  simpa using h2
theorem valid_self (c : Conf) (w : World) (hl : IsNodes w c.na c.nn c.nc c.nodes) :
    Calls Try.prog 29 #[.agg c.cells] w fun e w' => e = .returned (.bool (selfI c)) ∧ Below w.heap.size w w' := by
  have HT := Lib.hid (fun k hk h1 h2 => all_stepG (z := nd0) (p := selfN c) (l := c.nodes) (k := k) hk h1 h2)
  have HF := Lib.hid (fun k hk h2 => show selfI c = false from all_hitG (z := nd0) (p := selfN c) (l := c.nodes) (k := k) hk h2)
  have HSN := Lib.hid (fun x => show selfN c x = !(x.kind == 4 && noAd (if x.six = true then c.s6 else c.s4)) from rfl)
  have HN := Lib.hid (show (c.nodes.take 0).all (selfN c) = true from rfl)
  have HL := Lib.hid (show (c.nodes.take c.nn).all (selfN c) = selfI c by rw [List.take_of_length_le (by rw [hl.len]; exact Nat.le_refl _)]; rfl)
  have hno4 := Lib.hid (show noAd c.s4 = (!c.s4.six && c.s4.hi == 0 && c.s4.lo == 0) from rfl)
  have hno6 := Lib.hid (show noAd c.s6 = (!c.s6.six && c.s6.hi == 0 && c.s6.lo == 0) from rfl)
  have hcap := hl.cap
  have hsm := hl.small
  have hrc := hl.reach
  have hlen := Lib.hid hl.len
  generalize selfI c = SI at *
  generalize selfN c = p at *
  obtain ⟨na, nn, nc, va, vn, vc, wa, wn, wc, factor, domain, ⟨a6, ah, al⟩, ⟨b6, bh, bl⟩, nodes, vips, views⟩ := c
  unfold Conf.cells
  dsimp only at *
  have P := Blk.new w 33 #[.slice na nn nc, .slice va vn vc, .slice wa wn wc, .int .i64 factor, .int .i64 domain, .bool a6, .int .u64 ah, .int .u64 al, .bool b6, .int .u64 bh, .int .u64 bl]
  have hW : Below w.heap.size w (w.alloc (.cells #[.slice na nn nc, .slice va vn vc, .slice wa wn wc, .int .i64 factor, .int .i64 domain, .bool a6, .int .u64 ah, .int .u64 al, .bool b6, .int .u64 bh, .int .u64 bl] 33)) := (Below.refl _ _).alloc (Nat.le_refl _) _
  go_enter Try.func29, Try.ntmps29
  go_upto_region 1 with (fail)
  generalize w.alloc (.cells #[.slice na nn nc, .slice va vn vc, .slice wa wn wc, .int .i64 factor, .int .i64 domain, .bool a6, .int .u64 ah, .int .u64 al, .bool b6, .int .u64 bh, .int .u64 bl] 33) = u at *
  obtain ⟨p0, p1, p2, p3, p4, p5, p6, p7, p8, p9, p10, _⟩ := P.cells11
  go_wp2_with fail
  go_loopg [4, 5, 9] nn (fun gk s4 s5 s9 wr => ∃ k : Nat, k ≤ nn ∧ gk = nn - k ∧ s9 = .int .i64 k ∧ Hid ((nodes.take k).all p = true) ∧ Blk wr w.heap.size 33 #[.slice na nn nc, .slice va vn vc, .slice wa wn wc, .int .i64 factor, .int .i64 domain, .bool a6, .int .u64 ah, .int .u64 al, .bool b6, .int .u64 bh, .int .u64 bl] ∧ Below w.heap.size w wr)
  case atStart => exact ⟨0, Nat.zero_le _, rfl, rfl, HN, P, hW⟩
  case round =>
    clear P hW p0 p1 p2 p3 p4 p5 p6 p7 p8 p9 p10
    obtain ⟨k, hk, rfl, rfl, HK, P2, hW2⟩ := hrel
    have hltb := P2.lt
    by_cases hkn : k < nn
    · have hki : (k : Int) < (nn : Int) := by omega
      have HT2 := Lib.hid (HT.out k (by rw [hlen.out]; exact hkn) HK.out)
      have HF2 := Lib.hid (HF.out k (by rw [hlen.out]; exact hkn))
      have HS2 := Lib.hid (HSN.out (nodes.getD k nd0))
      obtain ⟨ad, rfl, hbk, c0, c1, c2, c3, c4, c5, c6⟩ := (hl.keep hW2).at_ hkn
      clear HT HF HSN HK
      generalize nodes.getD k nd0 = y at *
      obtain ⟨yn, yk, ya, yw, y6, yh, yl⟩ := y
      dsimp only at *
      go_upto_region 4 with (fail)
      have Q := Blk.new wr 27 #[.string yn, .int .i64 yk, .int .i64 ya, .int .i64 yw, .bool y6, .int .u64 yh, .int .u64 yl]
      have P3 := P2.alloc (.cells #[.string yn, .int .i64 yk, .int .i64 ya, .int .i64 yw, .bool y6, .int .u64 yh, .int .u64 yl] 27)
      have hW3 := hW2.alloc hW2.size (.cells #[.string yn, .int .i64 yk, .int .i64 ya, .int .i64 yw, .bool y6, .int .u64 yh, .int .u64 yl] 27)
      clear P2 hW2 c0 c1 c2 c3 c4 c5 c6
      generalize wr.alloc (.cells #[.string yn, .int .i64 yk, .int .i64 ya, .int .i64 yw, .bool y6, .int .u64 yh, .int .u64 yl] 27) = u3 at *
      obtain ⟨p0, p1, p2, p3, p4, p5, p6, p7, p8, p9, p10, _⟩ := P3.cells11
      obtain ⟨c0, c1, c2, c3, c4, c5, c6, _⟩ := Q.cells7
      by_cases hk4 : yk = 4
      · have g1 : (yk == 4) = true := by rw [beq_iff_eq]; exact hk4
        cases y6 with
        | true =>
          have HS3 := Lib.hid (show p ⟨yn, yk, ya, yw, true, yh, yl⟩ = !noAd ⟨b6, bh, bl⟩ by rw [HS2.out, hk4]; rfl)
          clear HS2 hk4
          go_wp2
          all_goals first
            | (focus (go_ret; refine ⟨?_, hW3⟩; rw [HF2.out (by rw [HS3.out, hno6.out]; simp [*])]; rfl))
            | (focus
                ((try (have hq : b6 = true := (by assumption); subst hq))
                 (try (have hq : ¬ b6 = true := (by assumption); have hq2 : b6 = false := (by simpa using hq); subst hq2))
                 (try (have hq : bh = 0 := (by assumption); subst hq))
                 (try (have hq : bl = 0 := (by assumption); subst hq))
                 go_roundg (nn - (k + 1))
                 case measure => omega
                 case rel => (refine ⟨k + 1, by omega, rfl, by go_num, Lib.hid (HT2.out ?_), P3, hW3⟩; rw [HS3.out, hno6.out]; simp [*]; done)))
            | skip
        | false =>
          have HS3 := Lib.hid (show p ⟨yn, yk, ya, yw, false, yh, yl⟩ = !noAd ⟨a6, ah, al⟩ by rw [HS2.out, hk4]; rfl)
          clear HS2 hk4
          go_wp2
          all_goals first
            | (focus (go_ret; refine ⟨?_, hW3⟩; rw [HF2.out (by rw [HS3.out, hno4.out]; simp [*])]; rfl))
            | (focus
                ((try (have hq : a6 = true := (by assumption); subst hq))
                 (try (have hq : ¬ a6 = true := (by assumption); have hq2 : a6 = false := (by simpa using hq); subst hq2))
                 (try (have hq : ah = 0 := (by assumption); subst hq))
                 (try (have hq : al = 0 := (by assumption); subst hq))
                 go_roundg (nn - (k + 1))
                 case measure => omega
                 case rel => (refine ⟨k + 1, by omega, rfl, by go_num, Lib.hid (HT2.out ?_), P3, hW3⟩; rw [HS3.out, hno4.out]; simp [*]; done)))
            | skip
      · have g1 : (yk == 4) = false := by rw [beq_eq_false_iff_ne]; exact hk4
        have HE := Lib.hid (HT2.out (by rw [HS2.out, g1]; rfl))
        clear HS2 HT2 HF2 hk4
        cases y6
        all_goals
          go_wp2
          go_roundg (nn - (k + 1))
          case measure => omega
          case rel => exact ⟨k + 1, by omega, rfl, by go_num, HE, P3, hW3⟩
    · obtain rfl : k = nn := by omega
      have HE := Lib.hid (HL.out.symm.trans HK.out)
      clear HT HF HSN HK HL
      go_wp2
      go_ret
      exact ⟨by rw [HE.out]; rfl, hW2⟩
end Go.Proofs.Ytceekfbhkenniaa
end
section
/- append onto a row of the call's own, the source nil, empty or not (after the kit's page on words for memory). -/
set_option linter.unusedVariables false
namespace Go.Proofs.Ytceekfbhkenniaa
open Go.RowKit
section
variable {P : Program} (w : World)

theorem run_append_of_nil (base : Nat) (t ty e : TypeId) (i : TypeInfo) (size : Nat) (ht : P.underlying t = some (.slice e)) (hi : P.info? e = some i)
    (v : Value) (n : Nat) (xs : List Value) (hown : w.ownsRow base e size v n xs) (c : Nat) : (Builtin.append_ #[t, t] ty #[v, .slice none 0 c]).run P w = .ok v w := by
  rcases hown.2 with ⟨rfl, rfl⟩ | ⟨g, cap, cur, rfl, _, _, hnc, _⟩
  · simp [Builtin.append_, run_underlying ht, sizeOf, typeInfo, hi, Builtin.lenOf, Builtin.firstCells]
  · simp [Builtin.append_, run_underlying ht, sizeOf, typeInfo, hi, Builtin.lenOf, Builtin.firstCells, hnc, storeCells]

theorem run_append_any (base : Nat) (t ty e : TypeId) (i : TypeInfo) (z : Value) (size bytes : Nat) (ht : P.underlying t = some (.slice e)) (hi : P.info? e = some i) (hz : i.zero = some z)
    (hsize : i.size = size) (hby : i.bytes = bytes) (hzs : z.cells.size = size) (hsz : 0 < size)
    (v : Value) (n : Nat) (xs : List Value) (hown : w.ownsRow base e size v n xs)
    (B : Nat) (A : Option Addr) (m c : Nat) (news : List Value) (hr : Reads w B size A m news) (h1 : ∀ u ∈ news, u.oneCell' = true)
    (h63 : n + m ≤ maxLen) (hbytes : (n + m) * bytes ≤ 140737488355328) (hbase : base ≤ w.heap.size) :
    ∃ v' w', (Builtin.append_ #[t, t] ty #[v, .slice A m c]).run P w = .ok v' w' ∧ w'.ownsRow base e size v' (n + m) (xs ++ news) ∧ w.grownBy w' v.ownBlock ∧
      (v'.ownBlock = v.ownBlock ∨ v'.ownBlock = some w.heap.size) := by
  rcases A with _ | ad
  · have hm : m = 0 := by
      rcases Nat.eq_zero_or_pos m with h0 | h0
      · exact h0
      · obtain ⟨ad, h, _⟩ := hr.2 h0
        cases h
    subst hm
    have hn : news = [] := List.eq_nil_of_length_eq_zero (by simpa using hr.1)
    subst hn
    exact ⟨v, w, run_append_of_nil w base t ty e i size ht hi v n xs hown c, by simpa using hown, World.grownBy.refl w _, .inl rfl⟩
  · have hcells : ∀ j u, news[j]? = some u → w.cell? (ad.add j) = some u := by
      intro j u hu
      rcases Nat.eq_zero_or_pos m with h0 | h0
      · subst h0
        have hn : news = [] := List.eq_nil_of_length_eq_zero (by simpa using hr.1)
        subst hn
        simp at hu
      · obtain ⟨ad', h, _, hc⟩ := hr.2 h0
        injection h with h
        subst h
        exact hc j u hu
    obtain ⟨v', w', hrun, h2, h3, _, h5⟩ := run_append_own_at (P := P) w base t ty e i z size bytes ht hi hz hsize hby hzs hsz v n xs hown ad m c news hr.1 hcells h1 h63 hbytes hbase
    exact ⟨v', w', hrun, h2, h3, h5⟩

theorem wp_append_any {o : Oper} {a : Act} {K : Act → World → Prop} {Q : Exit → Act → World → Prop} (s x : Operand) (t : TypeId)
    (ho : o.op = .call { callee := .builtin .append, args := #[s, x], argTypes := #[t, t] })
    (base : Nat) (e : TypeId) (i : TypeInfo) (z : Value) (size bytes : Nat) (ht : P.underlying t = some (.slice e)) (hi : P.info? e = some i) (hz : i.zero = some z)
    (hsize : i.size = size) (hby : i.bytes = bytes) (hzs : z.cells.size = size) (hsz : 0 < size)
    (v : Value) (n : Nat) (xs : List Value) (hs : a.eval s = v) (hown : w.ownsRow base e size v n xs)
    (B : Nat) (A : Option Addr) (m c : Nat) (news : List Value) (hx : a.eval x = .slice A m c) (hr : Reads w B size A m news) (h1 : ∀ u ∈ news, u.oneCell' = true)
    (h63 : n + m ≤ maxLen) (hbytes : (n + m) * bytes ≤ 140737488355328) (hbase : base ≤ w.heap.size)
    (h : ∀ v' w', w'.ownsRow base e size v' (n + m) (xs ++ news) → w.grownBy w' v.ownBlock → (v'.ownBlock = v.ownBlock ∨ v'.ownBlock = some w.heap.size) → K (a.put o.dst v') w') : o.wp P a w K Q := by
  obtain ⟨v', w', hrun, h2, h3, h4⟩ := run_append_any (P := P) w base t o.type e i z size bytes ht hi hz hsize hby hzs hsz v n xs hown B A m c news hr h1 h63 hbytes hbase
  unfold Oper.wp execOp
  simp only [ho, resolve, invoke, builtin, Sem.run_bind, Sem.run_pure, Result.andThen_ok, List.map_toArray, List.map_cons, List.map_nil, hs, hx, hrun]
  exact h v' w' h2 h3 h4

theorem wpList_append_any {ops : Array Oper} {rest : List Oper} {o : Oper} {a : Act} {Q : Exit → Act → World → Prop} (hgd : o.guard = none) (s x : Operand) (t : TypeId)
    (ho : o.op = .call { callee := .builtin .append, args := #[s, x], argTypes := #[t, t] })
    (base : Nat) (e : TypeId) (i : TypeInfo) (z : Value) (size bytes : Nat) (ht : P.underlying t = some (.slice e)) (hi : P.info? e = some i) (hz : i.zero = some z)
    (hsize : i.size = size) (hby : i.bytes = bytes) (hzs : z.cells.size = size) (hsz : 0 < size)
    (v : Value) (n : Nat) (xs : List Value) (hs : a.eval s = v) (hown : w.ownsRow base e size v n xs)
    (B : Nat) (A : Option Addr) (m c : Nat) (news : List Value) (hx : a.eval x = .slice A m c) (hr : Reads w B size A m news) (h1 : ∀ u ∈ news, u.oneCell' = true)
    (h63 : n + m ≤ maxLen) (hbytes : (n + m) * bytes ≤ 140737488355328) (hbase : base ≤ w.heap.size)
    (h : ∀ v' w', w'.ownsRow base e size v' (n + m) (xs ++ news) → w.grownBy w' v.ownBlock → (v'.ownBlock = v.ownBlock ∨ v'.ownBlock = some w.heap.size) → wpList P ops Q rest (a.put o.dst v') w') : wpList P ops Q (o :: rest) a w :=
  wpList_plain hgd fun _ hK => wp_append_any w s x t ho base e i z size bytes ht hi hz hsize hby hzs hsz v n xs hs hown B A m c news hx hr h1 h63 hbytes hbase fun v' w' h2 h3 h4 => hK _ _ (h v' w' h2 h3 h4)

theorem step_append_any {ops : Array Oper} {o : Oper} {a : Act} {K : Act → World → Prop} {Q : Exit → Act → World → Prop} {E : Prop} (hgd : o.guard = none) (s x : Operand) (t : TypeId)
    (ho : o.op = .call { callee := .builtin .append, args := #[s, x], argTypes := #[t, t] })
    (base : Nat) (e : TypeId) (i : TypeInfo) (z : Value) (size bytes : Nat) (ht : P.underlying t = some (.slice e)) (hi : P.info? e = some i) (hz : i.zero = some z)
    (hsize : i.size = size) (hby : i.bytes = bytes) (hzs : z.cells.size = size) (hsz : 0 < size)
    (v : Value) (n : Nat) (xs : List Value) (hs : a.eval s = v) (hown : w.ownsRow base e size v n xs)
    (B : Nat) (A : Option Addr) (m c : Nat) (news : List Value) (hx : a.eval x = .slice A m c) (hr : Reads w B size A m news) (h1 : ∀ u ∈ news, u.oneCell' = true)
    (h63 : n + m ≤ maxLen) (hbytes : (n + m) * bytes ≤ 140737488355328) (hbase : base ≤ w.heap.size)
    (h : ∀ v' w', w'.ownsRow base e size v' (n + m) (xs ++ news) → w.grownBy w' v.ownBlock → (v'.ownBlock = v.ownBlock ∨ v'.ownBlock = some w.heap.size) → K (a.put o.dst v') w') :
    if Region.wanted o (yielded ops a.tmps) = true then Oper.wp P o a w K Q else E := by
  have hw : Region.wanted o (yielded ops a.tmps) = true := by simp [Region.wanted, hgd]
  rw [if_pos hw]
  exact wp_append_any w s x t ho base e i z size bytes ht hi hz hsize hby hzs hsz v n xs hs hown B A m c news hx hr h1 h63 hbytes hbase h
end
/-- A row of the call's own, read as a list. -/
theorem own_list {w : World} {base : Nat} {e : TypeId} {K : IntKind} {v : Value} {n : Nat} {l : List Int} (h : w.ownsRow base e 1 v n (l.map (Value.int K))) (hwf : ∀ z ∈ l, (Lit.int K z).wf = true) (hr : n ≤ 17592186043904) :
    ∃ A c, v = .slice A n c ∧ IsList w K A n c l ∧ (∀ ad, A = some ad → base ≤ ad.block) := by
  have hlen : l.length = n := by have := h.1; simpa using this
  rcases h.2 with ⟨rfl, rfl⟩ | ⟨g, cap, cur, rfl, hb, hh, hnc, hcm, hsz, htk⟩
  · have : l = [] := List.eq_nil_of_length_eq_zero hlen
    subst this
    exact ⟨none, 0, rfl, ⟨⟨by simp, fun h => absurd h (by omega)⟩, rfl, Nat.le_refl _, by omega, fun z hz => (by cases hz), hr⟩, fun ad h => (by cases h)⟩
  · refine ⟨some ⟨g, 0, none⟩, cap, rfl, ⟨?_, hlen, hnc, by unfold maxLen at hcm; omega, hwf, hr⟩, fun ad h => by cases h; exact hb⟩
    refine ⟨by simp [hlen], fun hn => ⟨_, rfl, (Array.getElem?_eq_some_iff.1 hh).1, h.cells (g := g) rfl⟩⟩
end Go.Proofs.Ytceekfbhkenniaa
end
section
/- A tree in memory, as it grows. -/
set_option linter.unusedVariables false
namespace Go.Proofs.Ytceekfbhkenniaa
open Go.RowKit
set_option maxRecDepth 100000
/-- The places of those of a kind of node. -/
def idx (p : Nd → Bool) (l : List Nd) : List Int := ((List.range l.length).filter fun k => p (l.getD k nd0)).map fun k : Nat => (k : Int)
theorem getD_left (l : List Nd) (x : Nd) (k : Nat) (h : k < l.length) : (l ++ [x]).getD k nd0 = l.getD k nd0 := by
  rw [List.getD_eq_getElem?_getD, List.getD_eq_getElem?_getD, List.getElem?_append_left h]
theorem getD_last (l : List Nd) (x : Nd) : (l ++ [x]).getD l.length nd0 = x := by
  rw [List.getD_eq_getElem?_getD, List.getElem?_append_right (Nat.le_refl _)]; simp
theorem idx_snoc (p : Nd → Bool) (l : List Nd) (x : Nd) : idx p (l ++ [x]) = idx p l ++ if p x = true then [(l.length : Int)] else [] := by
  unfold idx
  rw [List.length_append, List.length_singleton, List.range_succ, List.filter_append, List.map_append]
  congr 1
  · congr 1
    apply List.filter_congr
    intro k hk
    rw [getD_left l x k (by simpa using hk)]
  · by_cases h : p x = true <;> simp [List.filter, h]
theorem idx_nil (p : Nd → Bool) : idx p [] = [] := rfl
def isK (k : Int) (x : Nd) : Bool := x.kind == k
def under_ (i : Nat) (x : Nd) : Bool := x.above == (i : Int)
theorem snoc_ind {α : Type} {P : List α → Prop} (h0 : P []) (hs : ∀ l x, P l → P (l ++ [x])) (l : List α) : P l := by
  have h : ∀ m : List α, P m.reverse := by
    intro m
    induction m with
    | nil => exact h0
    | cons x m ih => rw [List.reverse_cons]; exact hs _ _ ih
  have := h l.reverse
  rwa [List.reverse_reverse] at this
theorem idx_count (p : Nd → Bool) (l : List Nd) : (idx p l).length = l.countP p := by
  induction l using snoc_ind with
  | h0 => rfl
  | hs l x ih =>
    rw [idx_snoc, List.length_append, ih, List.countP_append, List.countP_singleton]
    split <;> simp_all
theorem idx_bd (p : Nd → Bool) (l : List Nd) : ∀ z ∈ idx p l, 0 ≤ z ∧ z < l.length := by
  intro z hz
  simp only [idx, List.mem_map, List.mem_filter, List.mem_range] at hz
  obtain ⟨k, ⟨hk, _⟩, rfl⟩ := hz
  omega
abbrev ints (l : List Int) : List Value := l.map (Value.int .i64)
theorem ints_one' (l : List Int) : ∀ u ∈ ints l, u.oneCell' = true := ints_oneCell .i64 l
/-- A tree at b: its nodes lN; of nK of them the lists of those below; the levels and the hosts. r tells whose block is whose. -/
structure TS (w : World) (b : Nat) (vN vK vT vH : Value) (lN : List Nd) (nK : Nat) (ks : List Value) (lT lH : List Int) (kids : Nat → List Int) (r : Nat → Nat) : Prop where
  blk : Blk w b 85 #[vN, vK, vT, vH]
  rN : w.ownsRow (b + 1) 27 7 vN lN.length (flat lN)
  rK : w.ownsRow (b + 1) 79 1 vK nK ks
  rT : w.ownsRow (b + 1) 3 1 vT lT.length (ints lT)
  rH : w.ownsRow (b + 1) 3 1 vH lH.length (ints lH)
  rk : ∀ i, i < nK → w.ownsRow (b + 1) 3 1 (ks.getD i undef) (kids i).length (ints (kids i))
  dT : ∀ g, vT.ownBlock = some g → r g = 0
  dH : ∀ g, vH.ownBlock = some g → r g = 1
  dk : ∀ i g, i < nK → (ks.getD i undef).ownBlock = some g → r g = i + 2
section
variable {w w' : World} {b : Nat} {vN vK vT vH v' : Value} {lN : List Nd} {nK : Nat} {ks : List Value} {lT lH : List Int} {kids : Nat → List Int} {r : Nat → Nat}
theorem TS.len (h : TS w b vN vK vT vH lN nK ks lT lH kids r) : ks.length = nK := by have := h.rK.1; omega
theorem TS.alloc (h : TS w b vN vK vT vH lN nK ks lT lH kids r) (o : Obj) : TS (w.alloc o) b vN vK vT vH lN nK ks lT lH kids r :=
  ⟨h.blk.alloc o, h.rN.alloc o, h.rK.alloc o, h.rT.alloc o, h.rH.alloc o, fun i hi => (h.rk i hi).alloc o, h.dT, h.dH, h.dk⟩
theorem TS.drew (h : TS w b vN vK vT vH lN nK ks lT lH kids r) : TS w.drew b vN vK vT vH lN nK ks lT lH kids r :=
  ⟨h.blk, h.rN, h.rK, h.rT, h.rH, h.rk, h.dT, h.dH, h.dk⟩
theorem own_type {base : Nat} {e e' : TypeId} {s s' n n' : Nat} {v v' : Value} {xs xs' : List Value} (h : w.ownsRow base e s v n xs) (h' : w.ownsRow base e' s' v' n' xs') (hne : e ≠ e') : v.ownBlock = none ∨ v.ownBlock ≠ v'.ownBlock := by
  rcases h.2 with ⟨rfl, _⟩ | ⟨g, cap, cur, rfl, _, hg, _⟩
  · exact .inl rfl
  · right
    rcases h'.2 with ⟨rfl, _⟩ | ⟨g', cap', cur', rfl, _, hg', _⟩
    · simp [Value.ownBlock]
    · simp only [Value.ownBlock, ne_eq, Option.some.injEq]
      intro e2
      subst e2
      rw [hg] at hg'
      injection hg' with hg'
      injection hg' with _ ht _
      exact hne ht
theorem own_label {v v' : Value} {a c : Nat} (h : ∀ g, v.ownBlock = some g → r g = a) (h' : ∀ g, v'.ownBlock = some g → r g = c) (hne : a ≠ c) : v.ownBlock = none ∨ v.ownBlock ≠ v'.ownBlock := by
  cases hv : v.ownBlock with
  | none => exact .inl rfl
  | some g =>
    right
    intro e
    have h1 := h g hv
    have h2 := h' g e.symm
    omega
theorem own_block {base : Nat} {e : TypeId} {s n : Nat} {v : Value} {xs : List Value} (h : w.ownsRow (b + 1) e s v n xs) : some b ≠ v.ownBlock := by
  intro e2
  have := (h.lt b e2.symm).1
  omega
/-- The block b is as it was behind a row's growth, and takes a new slice. -/
theorem TS.tail (h : TS w b vN vK vT vH lN nK ks lT lH kids r) (hg : w.grownBy w' v'.ownBlock) (hb : some b ≠ v'.ownBlock) : Blk w' b 85 #[vN, vK, vT, vH] := h.blk.grown hg hb
theorem set_below {base : Nat} {e : TypeId} {s n : Nat} {v : Value} {xs : List Value} (h : w.ownsRow (b + 1) e s v n xs) (j : Nat) (u : Value) : (w.setCell ⟨b, j, none⟩ u).ownsRow (b + 1) e s v n xs :=
  ownsRow_setCell_below h (a := ⟨b, j, none⟩) (Nat.lt_succ_self b) u
theorem TS.pushN (h : TS w b vN vK vT vH lN nK ks lT lH kids r) (x : Nd) (hg : w.grownBy w' vN.ownBlock) (hown : w'.ownsRow (b + 1) 27 7 v' (lN.length + 1) (flat lN ++ x.cells)) :
    TS (w'.setCell ⟨b, 0, none⟩ v') b v' vK vT vH (lN ++ [x]) nK ks lT lH kids r where
  blk := (h.blk.grown hg (own_block (base := b + 1) h.rN)).setTo 0 v' rfl
  rN := set_below (base := 0) (by rw [flat_snoc, List.length_append]; exact hown) 0 v'
  rK := set_below (base := 0) (h.rK.kept hg (own_type h.rK h.rN (by decide))) 0 v'
  rT := set_below (base := 0) (h.rT.kept hg (own_type h.rT h.rN (by decide))) 0 v'
  rH := set_below (base := 0) (h.rH.kept hg (own_type h.rH h.rN (by decide))) 0 v'
  rk := fun i hi => set_below (base := 0) ((h.rk i hi).kept hg (own_type (h.rk i hi) h.rN (by decide))) 0 v'
  dT := h.dT
  dH := h.dH
  dk := h.dk
theorem getD_snocV (ks : List Value) (z : Value) (i : Nat) (h : i < ks.length) : (ks ++ [z]).getD i undef = ks.getD i undef := by
  rw [List.getD_eq_getElem?_getD, List.getD_eq_getElem?_getD, List.getElem?_append_left h]
theorem getD_lastV (ks : List Value) (z : Value) : (ks ++ [z]).getD ks.length undef = z := by
  rw [List.getD_eq_getElem?_getD, List.getElem?_append_right (Nat.le_refl _)]; simp
theorem TS.pushK (h : TS w b vN vK vT vH lN nK ks lT lH kids r) (hg : w.grownBy w' vK.ownBlock) (hown : w'.ownsRow (b + 1) 79 1 v' (nK + 1) (ks ++ [.slice none 0 0])) (hk : kids nK = []) :
    TS (w'.setCell ⟨b, 1, none⟩ v') b vN v' vT vH lN (nK + 1) (ks ++ [.slice none 0 0]) lT lH kids r where
  blk := (h.blk.grown hg (own_block (base := b + 1) h.rK)).setTo 1 v' rfl
  rN := set_below (base := 0) (h.rN.kept hg (own_type h.rN h.rK (by decide))) 1 v'
  rK := set_below (base := 0) hown 1 v'
  rT := set_below (base := 0) (h.rT.kept hg (own_type h.rT h.rK (by decide))) 1 v'
  rH := set_below (base := 0) (h.rH.kept hg (own_type h.rH h.rK (by decide))) 1 v'
  rk := fun i hi => by
    by_cases e : i = nK
    · subst e
      have e2 : (ks ++ [Value.slice none 0 0]).getD i undef = .slice none 0 0 := by rw [← h.len]; exact getD_lastV _ _
      rw [e2, hk]
      exact World.ownsRow_nil _ _ _ _
    · rw [getD_snocV _ _ _ (by rw [h.len]; omega)]
      have hi' : i < nK := by omega
      exact set_below (base := 0) ((h.rk i hi').kept hg (own_type (h.rk i hi') h.rK (by decide))) 1 v'
  dT := h.dT
  dH := h.dH
  dk := fun i g hi hb => by
    by_cases e : i = nK
    · subst e
      have e2 : (ks ++ [Value.slice none 0 0]).getD i undef = .slice none 0 0 := by rw [← h.len]; exact getD_lastV _ _
      rw [e2] at hb
      simp [Value.ownBlock] at hb
    · rw [getD_snocV _ _ _ (by rw [h.len]; omega)] at hb
      exact h.dk i g (by omega) hb
/-- A label of its own for a new block. -/
def lab (w : World) (a : Nat) (r : Nat → Nat) (g : Nat) : Nat := if g = w.heap.size then a else r g
theorem lab_old {base : Nat} {e : TypeId} {s n a c : Nat} {v : Value} {xs : List Value} (h : w.ownsRow base e s v n xs) (hr : ∀ g, v.ownBlock = some g → r g = c) : ∀ g, v.ownBlock = some g → lab w a r g = c := fun g hg => by
  have := (h.lt g hg).2
  unfold lab
  rw [if_neg (by omega)]
  exact hr g hg
theorem lab_new {a : Nat} {v v' : Value} (hat : v'.ownBlock = v.ownBlock ∨ v'.ownBlock = some w.heap.size) {base : Nat} {e : TypeId} {s n : Nat} {xs : List Value} (h : w.ownsRow base e s v n xs) (hr : ∀ g, v.ownBlock = some g → r g = a) : ∀ g, v'.ownBlock = some g → lab w a r g = a := fun g hg => by
  rcases hat with e | e
  · exact lab_old h hr g (e ▸ hg)
  · rw [e] at hg
    injection hg with hg
    unfold lab
    rw [if_pos hg.symm]
theorem TS.pushT (h : TS w b vN vK vT vH lN nK ks lT lH kids r) (z : Int) (hg : w.grownBy w' vT.ownBlock) (hown : w'.ownsRow (b + 1) 3 1 v' (lT.length + 1) (ints lT ++ [.int .i64 z])) (hat : v'.ownBlock = vT.ownBlock ∨ v'.ownBlock = some w.heap.size) :
    TS (w'.setCell ⟨b, 2, none⟩ v') b vN vK v' vH lN nK ks (lT ++ [z]) lH kids (lab w 0 r) where
  blk := (h.blk.grown hg (own_block (base := b + 1) h.rT)).setTo 2 v' rfl
  rN := set_below (base := 0) (h.rN.kept hg (own_type h.rN h.rT (by decide))) 2 v'
  rK := set_below (base := 0) (h.rK.kept hg (own_type h.rK h.rT (by decide))) 2 v'
  rT := set_below (base := 0) (by simpa [ints] using hown) 2 v'
  rH := set_below (base := 0) (h.rH.kept hg (own_label h.dH h.dT (by decide))) 2 v'
  rk := fun i hi => set_below (base := 0) ((h.rk i hi).kept hg (own_label (fun g hg => h.dk i g hi hg) h.dT (by omega))) 2 v'
  dT := lab_new hat h.rT h.dT
  dH := lab_old h.rH h.dH
  dk := fun i g hi hg => lab_old (h.rk i hi) (fun g hg => h.dk i g hi hg) g hg
theorem TS.pushH (h : TS w b vN vK vT vH lN nK ks lT lH kids r) (z : Int) (hg : w.grownBy w' vH.ownBlock) (hown : w'.ownsRow (b + 1) 3 1 v' (lH.length + 1) (ints lH ++ [.int .i64 z])) (hat : v'.ownBlock = vH.ownBlock ∨ v'.ownBlock = some w.heap.size) :
    TS (w'.setCell ⟨b, 3, none⟩ v') b vN vK vT v' lN nK ks lT (lH ++ [z]) kids (lab w 1 r) where
  blk := (h.blk.grown hg (own_block (base := b + 1) h.rH)).setTo 3 v' rfl
  rN := set_below (base := 0) (h.rN.kept hg (own_type h.rN h.rH (by decide))) 3 v'
  rK := set_below (base := 0) (h.rK.kept hg (own_type h.rK h.rH (by decide))) 3 v'
  rT := set_below (base := 0) (h.rT.kept hg (own_label h.dT h.dH (by decide))) 3 v'
  rH := set_below (base := 0) (by simpa [ints] using hown) 3 v'
  rk := fun i hi => set_below (base := 0) ((h.rk i hi).kept hg (own_label (fun g hg => h.dk i g hi hg) h.dH (by omega))) 3 v'
  dT := lab_old h.rT h.dT
  dH := lab_new hat h.rH h.dH
  dk := fun i g hi hg => lab_old (h.rk i hi) (fun g hg => h.dk i g hi hg) g hg
theorem getD_setV (ks : List Value) (k : Nat) (z : Value) (hk : k < ks.length) (i : Nat) : (ks.set k z).getD i undef = if i = k then z else ks.getD i undef := by
  rw [List.getD_eq_getElem?_getD, List.getElem?_set]
  by_cases h : k = i
  · subst h; simp [hk]
  · rw [if_neg h, if_neg (fun e => h e.symm), List.getD_eq_getElem?_getD]
/-- One more below the k-th node. -/
theorem TS.pushKid (h : TS w b vN vK vT vH lN nK ks lT lH kids r) {k : Nat} (hk : k < nK) (z : Int) (hg : w.grownBy w' (ks.getD k undef).ownBlock)
    (hown : w'.ownsRow (b + 1) 3 1 v' ((kids k).length + 1) (ints (kids k) ++ [.int .i64 z])) (hat : v'.ownBlock = (ks.getD k undef).ownBlock ∨ v'.ownBlock = some w.heap.size)
    {gK cK : Nat} (hvK : vK = .slice (some ⟨gK, 0, none⟩) nK cK) :
    TS (w'.setCell ⟨gK, k, none⟩ v') b vN vK vT vH lN nK (ks.set k v') lT lH (fun i => if i = k then kids k ++ [z] else kids i) (lab w (k + 2) r) := by
  subst hvK
  have K1 := h.rK.kept hg (own_type h.rK (h.rk k hk) (by decide))
  obtain ⟨K2, G2⟩ := K1.stored k v'
  have hKb : (Value.slice (some ⟨gK, 0, none⟩) nK cK).ownBlock = some gK := rfl
  have hbK : b ≠ gK := fun e => own_block (base := b + 1) h.rK (by rw [hKb, e])
  have kN := h.rN.kept hg (own_type h.rN (h.rk k hk) (by decide))
  have kT := h.rT.kept hg (own_label h.dT (fun g hg => h.dk k g hk hg) (by omega))
  have kH := h.rH.kept hg (own_label h.dH (fun g hg => h.dk k g hk hg) (by omega))
  refine ⟨?_, kN.kept G2 ?_, K2, kT.kept G2 ?_, kH.kept G2 ?_, fun i hi => ?_, lab_old h.rT h.dT, lab_old h.rH h.dH, fun i g hi hb => ?_⟩
  · exact (h.blk.grown hg (own_block (base := b + 1) (h.rk k hk))).far (p := ⟨gK, k, none⟩) hbK v'
  · have := own_type kN K1 (by decide)
    rwa [hKb] at this
  · have := own_type kT K1 (by decide)
    rwa [hKb] at this
  · have := own_type kH K1 (by decide)
    rwa [hKb] at this
  · rw [getD_setV _ _ _ (by rw [h.len]; exact hk)]
    by_cases e : i = k
    · subst e
      rw [if_pos rfl, if_pos rfl]
      have hown' : w'.ownsRow (b + 1) 3 1 v' (kids i ++ [z]).length (ints (kids i ++ [z])) := by simpa [ints] using hown
      have := own_type hown' K1 (by decide)
      rw [hKb] at this
      exact hown'.kept G2 this
    · rw [if_neg e, if_neg e]
      have ki := (h.rk i hi).kept hg (own_label (fun g hg => h.dk i g hi hg) (fun g hg => h.dk k g hk hg) (by omega))
      have := own_type ki K1 (by decide)
      rw [hKb] at this
      exact ki.kept G2 this
  · rw [getD_setV _ _ _ (by rw [h.len]; exact hk)] at hb
    by_cases e : i = k
    · subst e
      rw [if_pos rfl] at hb
      exact lab_new hat (h.rk i hi) (fun g hg => h.dk i g hi hg) g hb
    · rw [if_neg e] at hb
      exact lab_old (h.rk i hi) (fun g hg => h.dk i g hi hg) g hb
end
end Go.Proofs.Ytceekfbhkenniaa
end
