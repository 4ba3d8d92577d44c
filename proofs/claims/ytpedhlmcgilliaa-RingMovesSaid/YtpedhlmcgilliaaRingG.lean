/- The law's places. -/
import Derived.Test.YtpedhlmcgilliaaRingF
set_option linter.unusedVariables false
namespace Go.Proofs.Ytpedhlmcgilliaa
open Go.RowKit
set_option maxHeartbeats 8000000
set_option maxRecDepth 100000
theorem pos_step (a s p t : Nat) : pos a s p (t + 1) = (pos a s p t + s) % p := by
  unfold pos
  rw [Nat.mod_add_mod, Nat.add_mul, Nat.one_mul, Nat.add_assoc]
theorem pos_zero (a s p : Nat) (h : a < p) : pos a s p 0 = a := by
  unfold pos; rw [Nat.zero_mul, Nat.add_zero, Nat.mod_eq_of_lt h]
theorem final_eq {R : Rows4} {n : Nat} {s : RS} {k K : Nat} (hk : (roundsR R n s k).left = 0) (hK : (roundsR R n s K).left = 0) : roundsR R n s k = roundsR R n s K := by
  rcases Nat.le_total k K with h | h
  · have := roundsR_stay R n s k hk (K - k)
    rw [show k + (K - k) = K by omega] at this
    exact this.symm
  · have := roundsR_stay R n s K hK (k - K)
    rw [show K + (k - K) = k by omega] at this
    exact this
/-- The state of the law's rounds in memory: the places, where each row stands, how much waits. -/
structure LQ (w0 w : World) (go ga gd n p : Nat) (o : Nat → Int) (a : Nat → Nat) (d : Nat → Int) : Prop where
  ro : w.rowIs go 3 p (fun j => .int .i64 (o j))
  ra : w.rowIs ga 3 n (fun j => .int .i64 (a j : Nat))
  rd : w.rowIs gd 3 n (fun j => .int .i64 (d j))
  hW : Below w0.heap.size w0 w
  oa : go ≠ ga
  od : go ≠ gd
  ad : ga ≠ gd
  bo : w0.heap.size ≤ go
  ba : w0.heap.size ≤ ga
  bd : w0.heap.size ≤ gd
section
variable {w0 w w' : World} {go ga gd n p : Nat} {o : Nat → Int} {a : Nat → Nat} {d : Nat → Int}
theorem LQ.keep (h : LQ w0 w go ga gd n p o a d) (hx : Below w.heap.size w w') : LQ w0 w' go ga gd n p o a d := ⟨row_keep h.ro hx, row_keep h.ra hx, row_keep h.rd hx, below_step h.hW hx, h.oa, h.od, h.ad, h.bo, h.ba, h.bd⟩
theorem LQ.due (h : LQ w0 w go ga gd n p o a d) (i : Nat) (z : Int) : LQ w0 (w.setCell ⟨gd, i, none⟩ (.int .i64 z)) go ga gd n p o a (fun j => if j = i then z else d j) :=
  ⟨h.ro.setOther (a := ⟨gd, i, none⟩) h.od _, h.ra.setOther (a := ⟨gd, i, none⟩) h.ad _, (h.rd.set i (.int .i64 z)).congr (fun j _ => by by_cases e : j = i <;> simp [e]), below_own h.hW h.bd _ _, h.oa, h.od, h.ad, h.bo, h.ba, h.bd⟩
theorem LQ.at_ (h : LQ w0 w go ga gd n p o a d) (i : Nat) (z : Nat) : LQ w0 (w.setCell ⟨ga, i, none⟩ (.int .i64 (z : Nat))) go ga gd n p o (fun j => if j = i then z else a j) d :=
  ⟨h.ro.setOther (a := ⟨ga, i, none⟩) h.oa _, (h.ra.set i (.int .i64 (z : Nat))).congr (fun j _ => by by_cases e : j = i <;> simp [e]), h.rd.setOther (a := ⟨ga, i, none⟩) (fun e => h.ad e.symm) _, below_own h.hW h.ba _ _, h.oa, h.od, h.ad, h.bo, h.ba, h.bd⟩
theorem LQ.put (h : LQ w0 w go ga gd n p o a d) (i : Nat) (z : Int) : LQ w0 (w.setCell ⟨go, i, none⟩ (.int .i64 z)) go ga gd n p (fun j => if j = i then z else o j) a d :=
  ⟨(h.ro.set i (.int .i64 z)).congr (fun j _ => by by_cases e : j = i <;> simp [e]), h.ra.setOther (a := ⟨go, i, none⟩) (fun e => h.oa e.symm) _, h.rd.setOther (a := ⟨go, i, none⟩) (fun e => h.od e.symm) _, below_own h.hW h.bo _ _, h.oa, h.od, h.ad, h.bo, h.ba, h.bd⟩
end
theorem LQ.of_eq {w0 w : World} {go ga gd n p : Nat} {o o' : Nat → Int} {a a' : Nat → Nat} {d d' : Nat → Int} (h : LQ w0 w go ga gd n p o a d) (ho : ∀ q, o q = o' q) (ha : ∀ q, a q = a' q) (hd : ∀ q, d q = d' q) : LQ w0 w go ga gd n p o' a' d' := by
  have e1 : o = o' := funext ho
  have e2 : a = a' := funext ha
  have e3 : d = d' := funext hd
  subst e1 e2 e3
  exact h
abbrev LP (w0 w : World) (go ga gd n p : Nat) (R : Rows4) (s : RS) : Prop := LQ w0 w go ga gd n p s.out (fun j => pos (R.at_ j) (R.skip j) p (s.next j - 1)) s.due
/-- The mixed numbers of an item. -/
structure MX (seed : Int) (p : Nat) (l : List (Int × Int)) (R : Rows4) (n : Nat) : Prop where
  wt : ∀ i, R.wt i = (itm l i).2
  at_ : ∀ i, mixOf seed [(itm l i).1, 1] * (p : Int) / 18446744073709551616 = (R.at_ i : Nat)
  sk : ∀ i, 1 + mixOf seed [(itm l i).1, 2] * ((p : Int) - 1) / 18446744073709551616 = (R.skip i : Nat)
  heavy : R.heavy = heavyTo l n
  pp : R.p = p
  out : ∀ j, ringOut seed p l j = if 0 < heavyTo l n then (roundsR R n (rs0 p) p).out j else -1
  rr : RR R n
theorem ring_MX {seed : Int} {p : Nat} {l : List (Int × Int)} {n : Nat} (h : RightP p l) (hn : l.length = n) : MX seed p l (ringRows seed p l) n := by
  subst hn
  exact ⟨fun _ => rfl, fun _ => (atI_val h.p0).1, fun _ => (skI_val h.p0).1, rfl, rfl, fun j => by unfold ringOut; split <;> rfl, ring_RR h⟩
theorem law_places (w : World) (seed : Int) (s0 : 0 ≤ seed) (s1 : seed < 18446744073709551616) (p : Nat) (A : Option Addr) (n c : Nat) (l : List (Int × Int)) (hl : IsPairs w .u64 .i64 A n c l) (hn : n ≤ 512) (hP : RightP p l) :
    Calls Try.prog 27 #[.int .u64 seed, .int .i64 p, .slice A n c] w fun e w' => ∃ g : Nat, e = .returned (.slice (some ⟨g, 0, none⟩) p p) ∧ w'.rowIs g 3 p (fun j => .int .i64 (ringOut seed p l j)) ∧ Below w.heap.size w w' := by
  have hM := Lib.hid (ring_MX (seed := seed) (p := p) hP hl.len)
  have hcap := hl.cap
  have hsm := hl.small
  have hp0 := hP.p0
  have hp1 := hP.p1
  have hlen := Lib.hid hl.len
  have HP := Lib.hid hP
  generalize ringRows seed p l = R at *
  have hm1 := fun w => run_make_row' (P := Try.prog) 54 3 (.int .i64 0) 8 Try.underlying54 Try.infoI64 rfl .i64 .i64 p (by omega) (by omega) w
  have hm2 := fun w => run_make_row' (P := Try.prog) 54 3 (.int .i64 0) 8 Try.underlying54 Try.infoI64 rfl .i64 .i64 n (by omega) (by omega) w
  have e1 := World.rowIs_made w (.int .i64 0) p 3
  have e2 : Below w.heap.size w (w.alloc (.cells (madeCells #[.int .i64 0] p) 3)) := (Below.refl _ _).alloc (Nat.le_refl _) _
  go_enter Try.func27, Try.ntmps27
  go_wp2_with fail
  generalize w.alloc (.cells (madeCells #[.int .i64 0] p) 3) = u at *
  obtain ⟨go, hgo⟩ : ∃ go, go = w.heap.size := ⟨_, rfl⟩
  rw [← hgo] at e1 ⊢
  have hgo1 : w.heap.size ≤ go := by omega
  clear hgo
  go_loopg [8] p (fun gk s8 wr => ∃ k : Nat, k ≤ p ∧ gk = p - k ∧ s8 = .int .i64 k ∧ wr.rowIs go 3 p (fun j => .int .i64 (if j < k then -1 else 0)) ∧ Below w.heap.size w wr)
  case atStart => exact ⟨0, Nat.zero_le _, rfl, rfl, e1.congr (fun j _ => by rw [if_neg (Nat.not_lt_zero j)]), e2⟩
  case round =>
    clear e1 e2
    obtain ⟨k, hk, rfl, rfl, hG, hW⟩ := hrel
    by_cases hkp : k < p
    · have hki : (k : Int) < (p : Int) := by omega
      have ck := hG.cell hkp
      have zk := hG.frozen k
      have hG2 := (hG.set k (.int .i64 (-1))).congr (g := fun j => .int .i64 (if j < k + 1 then -1 else 0)) (fun j _ => by
        by_cases e : j = k
        · rw [if_pos e, if_pos (by omega)]
        · rw [if_neg e]
          by_cases e2 : j < k
          · rw [if_pos e2, if_pos (by omega)]
          · rw [if_neg e2, if_neg (by omega)])
      have hW2 := below_own hW hgo1 k (.int .i64 (-1))
      go_wp2
      go_roundg (p - (k + 1))
      case measure => omega
      case rel => exact ⟨k + 1, by omega, rfl, by go_num, hG2, hW2⟩
    · obtain rfl : k = p := by omega
      have hG1 := hG.congr (g := fun _ => .int .i64 (-1)) (fun j hj => by rw [if_pos hj])
      clear hG
      obtain ⟨wa, rfl⟩ : ∃ wa, wa = wr := ⟨_, rfl⟩
      go_wp2_with fail
      go_loopg [9, 10] n (fun gk s9 s10 wr => ∃ i : Nat, i ≤ n ∧ gk = n - i ∧ s10 = .int .i64 i ∧ s9 = .int .i64 (heavyTo l i) ∧ wa = wr)
      case atStart => exact ⟨0, Nat.zero_le _, rfl, rfl, rfl, rfl⟩
      case round =>
        obtain ⟨i, hi, rfl, rfl, rfl, rfl⟩ := hrel
        have hh0 := (heavyTo_ge l i).1
        have hh1 := heavyTo_le l 65535 (by omega) i (fun j hj => (okTo_at HP.out.ok (show j < l.length by rw [hlen.out]; omega)).2)
        by_cases hin : i < n
        · have hii : (i : Int) < (n : Int) := by omega
          obtain ⟨ad, rfl, hbk, y0, y1, _⟩ := (hl.keep hW).at_ hin
          have HHS := Lib.hid (show heavyTo l (i + 1) = max (heavyTo l i) (itm l i).2 from rfl)
          obtain ⟨z, hz⟩ : ∃ z, z = (itm l i).2 := ⟨_, rfl⟩
          rw [show (l.getD i (0, 0)).2 = z from hz.symm] at y1
          rw [← hz] at HHS
          clear hz y0
          generalize heavyTo l i = H at *
          by_cases hzH : H < z
          · have HE := Lib.hid (show heavyTo l (i + 1) = z by rw [HHS.out]; omega)
            go_wp2
            go_roundg (n - (i + 1))
            case measure => omega
            case rel => exact ⟨i + 1, by omega, rfl, by go_num, by rw [HE.out], rfl⟩
          · have HE := Lib.hid (show heavyTo l (i + 1) = H by rw [HHS.out]; omega)
            go_wp2
            go_roundg (n - (i + 1))
            case measure => omega
            case rel => exact ⟨i + 1, by omega, rfl, by go_num, by rw [HE.out], rfl⟩
        · obtain rfl : i = n := by omega
          have a1 := World.rowIs_made wa (.int .i64 0) i 3
          have a2 : Below w.heap.size w (wa.alloc (.cells (madeCells #[.int .i64 0] i) 3)) := hW.alloc hW.size _
          have a3 := hG1.alloc (.cells (madeCells #[.int .i64 0] i) 3)
          have b1 := World.rowIs_made (wa.alloc (.cells (madeCells #[.int .i64 0] i) 3)) (.int .i64 0) i 3
          have b2 : Below w.heap.size w ((wa.alloc (.cells (madeCells #[.int .i64 0] i) 3)).alloc (.cells (madeCells #[.int .i64 0] i) 3)) := a2.alloc a2.size _
          have b3 := a3.alloc (.cells (madeCells #[.int .i64 0] i) 3)
          have b4 := a1.alloc (.cells (madeCells #[.int .i64 0] i) 3)
          have hz : (wa.alloc (.cells (madeCells #[.int .i64 0] i) 3)).heap.size = wa.heap.size + 1 := by simp
          rw [hz] at b1
          have hga1 := hW.size
          have hgol := hG1.lt
          clear a1 a2 a3 hz hG1 hW
          obtain ⟨H, hH⟩ : ∃ H, H = heavyTo l i := ⟨_, rfl⟩
          rw [← hH] at hh0 hh1 ⊢
          have HH := Lib.hid hH
          clear hH
          go_wp2_with fail
          generalize (wa.alloc (.cells (madeCells #[.int .i64 0] i) 3)).alloc (.cells (madeCells #[.int .i64 0] i) 3) = u2 at *
          obtain ⟨ga, hga⟩ : ∃ ga, ga = wa.heap.size := ⟨_, rfl⟩
          rw [← hga] at b1 b4 hga1 hgol ⊢
          clear hga hm1 hm2
          go_loopg [14] i (fun gk s14 wr => ∃ j : Nat, j ≤ i ∧ gk = i - j ∧ s14 = .int .i64 j ∧ wr.rowIs go 3 k (fun _ => .int .i64 (-1)) ∧ wr.rowIs ga 3 i (fun q => .int .i64 ((if q < j then R.at_ q else 0 : Nat) : Int)) ∧ wr.rowIs (ga + 1) 3 i (fun _ => .int .i64 0) ∧ Below w.heap.size w wr)
          case atStart => exact ⟨0, Nat.zero_le _, rfl, rfl, b3, b4.congr (fun q _ => by rw [if_neg (Nat.not_lt_zero q)]; rfl), b1, b2⟩
          case round =>
            clear b1 b2 b3 b4
            obtain ⟨j, hj, rfl, rfl, hO, hA, hD, hW⟩ := hrel
            by_cases hji : j < i
            · have hjj : (j : Int) < (i : Int) := by omega
              obtain ⟨ad, rfl, hbk, y0, y1, wf0, wf1⟩ := (hl.keep hW).at_ hji
              have ha := u64_of_wf wf0
              have va := hM.out.at_ j
              have ba := hM.out.rr.at_ j hji
              rw [hM.out.pp] at ba
              obtain ⟨a, hax⟩ : ∃ a, a = (itm l j).1 := ⟨_, rfl⟩
              rw [show (l.getD j (0, 0)).1 = a from hax.symm] at y0 ha
              rw [← hax] at va
              clear hax wf0 wf1 y1
              have m1 := mixOf_bd seed [a, 1]
              have B1 := fun w => ref_Below (mixOf seed [a, 1]) k w m1.1 m1.2 (by omega) (by omega)
              rw [va] at B1
              have hL := two_list' wr 22 wr.heap.size a 1 rfl ha (by decide)
              have O1 := ref_Of seed (some ⟨wr.heap.size, 0, none⟩) 2 2 [a, 1] _ s0 s1 hL
              obtain ⟨q1, hq1⟩ : ∃ q1, q1 = mixOf seed [a, 1] := ⟨_, rfl⟩
              rw [← hq1] at B1 O1
              clear hq1 va hL m1
              obtain ⟨At, hAt⟩ : ∃ At, At = R.at_ j := ⟨_, rfl⟩
              rw [← hAt] at B1 ba
              have HAt := Lib.hid hAt
              clear hAt
              have o1 := hO.alloc (.cells #[.int .u64 a, .int .u64 1] 22)
              have o2 := hA.alloc (.cells #[.int .u64 a, .int .u64 1] 22)
              have o3 := hD.alloc (.cells #[.int .u64 a, .int .u64 1] 22)
              have o4 := hW.alloc hW.size (.cells #[.int .u64 a, .int .u64 1] 22)
              have z1 := o2.cell hji
              have z2 := o2.frozen j
              go_wp2_with fail
              refine O1.mono ?_; rintro e w' ⟨rfl, rfl⟩
              clear O1 hO hA hD hW
              go_wp2_with fail
              refine (B1 _).mono ?_; rintro e w' ⟨rfl, rfl⟩
              generalize wr.alloc (.cells #[.int .u64 a, .int .u64 1] 22) = u3 at *
              have o5 := (o2.set j (.int .i64 (At : Nat))).congr (g := fun q => .int .i64 ((if q < j + 1 then R.at_ q else 0 : Nat) : Int)) (fun q _ => by
                by_cases e : q = j
                · rw [if_pos e, if_pos (by omega), e, HAt.out]
                · rw [if_neg e]
                  by_cases e2 : q < j
                  · rw [if_pos e2, if_pos (by omega)]
                  · rw [if_neg e2, if_neg (by omega)])
              have o6 := o1.setOther (a := ⟨ga, j, none⟩) (show go ≠ ga by omega) (.int .i64 (At : Nat))
              have o7 := o3.setOther (a := ⟨ga, j, none⟩) (show ga + 1 ≠ ga by omega) (.int .i64 (At : Nat))
              have o8 := below_own o4 hga1 j (.int .i64 (At : Nat))
              go_wp2
              go_roundg (i - (j + 1))
              case measure => omega
              case rel => exact ⟨j + 1, by omega, rfl, by go_num, o6, o5, o7, o8⟩
            · obtain rfl : j = i := by omega
              clear hi hin hj hji hk hkp hP
              have hR := hM.out.rr
              have hHv : R.heavy = H := by rw [hM.out.heavy, HH.out]
              have hRp : R.p = k := hM.out.pp
              have HHV := Lib.hid hHv
              have HPP := Lib.hid hRp
              have HOUT := Lib.hid (show ∀ q, ringOut seed k l q = if 0 < H then (roundsR R j (rs0 k) k).out q else -1 from fun q => by rw [hM.out.out, HH.out])
              have hs0 : LP w wr go ga (ga + 1) j k R (rs0 k) := ⟨hO, hA.congr (fun q hq => by
                have := hR.at_ q hq
                rw [if_pos hq]
                show _ = Value.int .i64 (pos (R.at_ q) (R.skip q) k 0 : Nat)
                rw [pos_zero _ _ _ (by rw [← hRp]; exact this)]), hD, hW, by omega, by omega, by omega, hgo1, hga1, by omega⟩
              clear hO hA hD hW HH hHv hRp
              by_cases hpos : 0 < H
              · obtain ⟨i0, hi0, hw0⟩ : ∃ i0, i0 < j ∧ R.wt i0 = R.heavy := by
                  obtain ⟨i0, h1, h2⟩ := heavyTo_some l j (by rw [← hM.out.heavy, HHV.out]; exact hpos)
                  exact ⟨i0, h1, by rw [hM.out.wt, hM.out.heavy]; exact h2⟩
                have HW0 := Lib.hid hw0
                have hI0 : RI R j (rs0 k) := by
                  have := rs0_keeps (R := R) (n := j) (by rw [HHV.out]; exact hpos)
                  rw [HPP.out] at this
                  exact this
                have HEND := Lib.hid (show (roundsR R j (rs0 k) k).left = 0 from rounds_end hR hI0 hi0 hw0 (Nat.le_refl _))
                clear hw0
                go_wp2_with fail
                go_loopg [13, 15, 16] k (fun gk s13 s15 s16 wr => ∃ (r : Nat) (s : RS), Hid (s = roundsR R j (rs0 k) r) ∧ gk = s.left ∧ s13 = .int .i64 (s.left : Nat) ∧ LP w wr go ga (ga + 1) j k R s)
                case atStart => exact ⟨0, rs0 k, Lib.hid rfl, rfl, rfl, hs0⟩
                case round =>
                  clear hs0
                  obtain ⟨r, s, HS, rfl, rfl, hL⟩ := hrel
                  have HI := Lib.hid (show RI R j s by rw [HS.out]; exact roundsR_keeps hR hI0 r)
                  have hlp : s.left ≤ k := by
                    have := HI.out.cnt
                    rw [← this, HPP.out]
                    unfold freeN
                    exact Nat.le_trans List.countP_le_length (by rw [List.length_range]; exact Nat.le_refl _)
                  by_cases hleft : 0 < s.left
                  · obtain ⟨sl, hsl⟩ : ∃ sl, sl = s.left := ⟨_, rfl⟩
                    have HSL := Lib.hid hsl
                    rw [← hsl] at hlp hleft ⊢
                    have hs1 : (s.left : Int) = (sl : Int) := by rw [hsl]
                    clear hsl
                    go_wp2_with fail
                    go_loopg [13, 15, 16] j (fun gk s13 s15 s16 wx => ∃ (i : Nat) (s' : RS), i ≤ j ∧ gk = j - i ∧ Hid (s' = partR R s i) ∧ s13 = .int .i64 (s'.left : Nat) ∧ s15 = .int .i64 i ∧ LP w wx go ga (ga + 1) j k R s')
                    case atStart => exact ⟨0, s, Nat.zero_le _, rfl, Lib.hid rfl, by rw [HSL.out], rfl, hL⟩
                    case round =>
                      clear hL hs1
                      obtain ⟨i, s', hi, rfl, HS', rfl, rfl, hL⟩ := hrel
                      have HI' := Lib.hid (show RI R j s' by rw [HS'.out]; exact partR_keeps hR HI.out i hi)
                      have hlp' : s'.left ≤ k := by
                        have := HI'.out.cnt
                        rw [← this, HPP.out]
                        unfold freeN
                        exact Nat.le_trans List.countP_le_length (by rw [List.length_range]; exact Nat.le_refl _)
                      by_cases hin : i < j
                      · have hii : (i : Int) < (j : Int) := by omega
                        by_cases hL0 : 0 < s'.left
                        · have HPS := Lib.hid (partR_step R s i)
                          rw [← HS'.out] at HPS
                          have HWA := Lib.hid (fun h => stepR_wait (R := R) (s := s') (i := i) (by omega) h)
                          have HTA := Lib.hid (fun h => stepR_take (R := R) (s := s') (i := i) (by omega) h)
                          have HU := Lib.hid (u_spec hR HI'.out (by omega) hin)
                          have HUE := Lib.hid (fun (u : Nat) h1 h2 => u_eq hR HI'.out (by omega) hin (u := u) h1 h2)
                          have HNX := Lib.hid (HI'.out.next i hin)
                          have d0 := HI'.out.due0 i hin
                          have d1 := HI'.out.due1 i hin
                          have w0 := hR.wt0 i hin
                          have w1 := hR.wt1 i hin
                          rw [HHV.out] at d1 w1 HWA HTA
                          rw [HPP.out] at HU HUE HNX HTA
                          obtain ⟨L, hLL⟩ : ∃ L, L = s'.left := ⟨_, rfl⟩
                          have HL := Lib.hid hLL
                          rw [← hLL] at hL0 hlp' ⊢
                          clear hLL
                          obtain ⟨ad, rfl, hbk, y0, y1, wf0, wf1⟩ := (hl.keep hL.hW).at_ hin
                          have ha := u64_of_wf wf0
                          have vs := hM.out.sk i
                          have hsk := hR.skip1 i hin
                          rw [HPP.out] at hsk
                          obtain ⟨D, hD⟩ : ∃ D, D = s'.due i := ⟨_, rfl⟩
                          obtain ⟨W, hW⟩ : ∃ W, W = R.wt i := ⟨_, rfl⟩
                          have HD := Lib.hid hD
                          have HW := Lib.hid hW
                          have y1' : (l.getD i (0, 0)).2 = W := by rw [hW, hM.out.wt]; rfl
                          rw [y1'] at y1
                          obtain ⟨a, hax⟩ : ∃ a, a = (itm l i).1 := ⟨_, rfl⟩
                          have HAX := Lib.hid (show (l.getD i (0, 0)).1 = a from hax.symm)
                          rw [HAX.out] at y0 ha
                          rw [← hax] at vs
                          have ci := hL.rd.cell hin
                          rw [← hD] at d0 d1 ci
                          rw [← hW] at w0 w1
                          clear hD hW y1' hax wf0 wf1
                          have k1 : IntKind.i64.wrap (D + W) = D + W := IntWalk.i64_in _ (by omega)
                          have k2 : IntKind.i64.wrap (D + W - H) = D + W - H := IntWalk.i64_in _ (by omega)
                          have U0 := cell_under ci
                          have U1 := cell_under y1
                          clear ci
                          go_upto_region 23 with (fail)
                          refine wp_region_under_tail 12 (by kernel_rfl) (by kernel_rfl) ?_
                          simp only [List.take_succ_cons, List.take_zero, List.drop_succ_cons, List.drop_zero]
                          repeat (go_big_quiet_step ((fail)))
                          refine wpQuiet_nil ?_
                          intro wu hw'
                          obtain ⟨pq, hw''⟩ := hw'
                          have hUu := below_eq hw''
                          clear hw'' pq
                          have hL1 := hL.keep hUu
                          have y2 := cell_keep y0 hUu
                          have hP2 := (hl.keep hL.hW).keep hUu
                          have c1 := hL1.rd.cell hin
                          have z1 := hL1.rd.frozen i
                          have hL2 := hL1.due i (D + W)
                          have c2 := hL2.rd.cell hin
                          rw [if_pos rfl] at c2
                          have z2 := hL2.rd.frozen i
                          have y3 := (hl.keep hL2.hW).at_ hin
                          obtain ⟨ad', e', _, y4, _⟩ := y3
                          obtain rfl : ad = ad' := by injection e'
                          clear U0 U1 hUu hL y0 y1 y2 hP2 hbk e'
                          go_upto_region 24 with (fail)
                          clear hL1 c1 z1
                          generalize wu.setCell ⟨ga + 1, i, none⟩ (.int .i64 (D + W)) = wb at *
                          by_cases hlt : D + W < H
                          · have g1 : decide (D + W < H) = true := decide_eq_true hlt
                            have HE := Lib.hid (HWA.out (by rw [← HD.out, ← HW.out]; exact hlt))
                            rw [← HD.out, ← HW.out] at HE
                            have hS2 : (partR R s (i + 1)).left = L := by rw [HPS.out, HE.out]; exact HL.out.symm
                            have HS2 := Lib.hid hS2
                            clear hlt hS2 y4
                            go_wp2
                            go_roundg (j - (i + 1))
                            case measure => omega
                            case rel => exact ⟨i + 1, _, by omega, rfl, Lib.hid (HPS.out.trans HE.out).symm, by show Value.int .i64 (L : Int) = .int .i64 ((s'.left : Nat) : Int); rw [HL.out], by go_num, hL2⟩
                          · have g1 : decide (D + W < H) = false := decide_eq_false hlt
                            have HE := Lib.hid (HTA.out (by rw [← HD.out, ← HW.out]; omega))
                            rw [← HD.out, ← HW.out] at HE
                            clear hlt HWA HTA
                            have hL3 := (hL2.due i (D + W - H)).of_eq (d' := fun q => if q = i then D + W - H else s'.due q) (fun _ => rfl) (fun _ => rfl) (fun q => by by_cases e : q = i <;> simp [e])
                            obtain ⟨ad2, e2, _, y5, _⟩ := (hl.keep hL3.hW).at_ hin
                            obtain rfl : ad = ad2 := by injection e2
                            rw [HAX.out] at y5
                            have m2 := mixOf_bd seed [a, 2]
                            have B2 := fun w => ref_Below (mixOf seed [a, 2]) ((k : Int) - 1) w m2.1 m2.2 (by omega) (by omega)
                            go_upto_region 26 with (fail)
                            clear hL2 c2 z2 y4
                            generalize wb.setCell ⟨ga + 1, i, none⟩ (.int .i64 (D + W - H)) = wd at *
                            have O2 := ref_Of seed (some ⟨wd.heap.size, 0, none⟩) 2 2 [a, 2] _ s0 s1 (two_list' wd 22 wd.heap.size a 2 rfl ha (by decide))
                            have bz := below_bd (mixOf seed [a, 2]) ((k : Int) - 1) m2.1 m2.2 (by omega)
                            obtain ⟨q2, hq2⟩ : ∃ q2, q2 = mixOf seed [a, 2] := ⟨_, rfl⟩
                            rw [← hq2] at B2 O2 vs bz
                            clear hq2 m2
                            obtain ⟨z2, hz2⟩ : ∃ z2, z2 = q2 * ((k : Int) - 1) / 18446744073709551616 := ⟨_, rfl⟩
                            rw [← hz2] at B2 vs bz
                            clear hz2
                            have kk : IntKind.i64.wrap ((k : Int) - 1) = (k : Int) - 1 := IntWalk.i64_in _ (by omega)
                            have kz : IntKind.i64.wrap (1 + z2) = 1 + z2 := IntWalk.i64_in _ (by omega)
                            have kz2 : IntKind.i64.wrap (R.skip i : Int) = (R.skip i : Int) := IntWalk.i64_in _ (by omega)
                            have hL4 := hL3.keep ((Below.refl _ _).alloc (Nat.le_refl _) (.cells #[.int .u64 a, .int .u64 2] 22))
                            go_wp2_with fail
                            refine O2.mono ?_; rintro e w' ⟨rfl, rfl⟩
                            clear O2 hL3 y5
                            go_wp2_with fail
                            refine (B2 _).mono ?_; rintro e w' ⟨rfl, rfl⟩
                            clear B2 kk
                            generalize wd.alloc (.cells #[.int .u64 a, .int .u64 2] 22) = we at *
                            obtain ⟨Sk, hSk⟩ : ∃ Sk, Sk = R.skip i := ⟨_, rfl⟩
                            rw [← hSk] at vs kz2 hsk
                            have HSK := Lib.hid hSk
                            clear hSk
                            obtain ⟨U, hU⟩ : ∃ U, U = s'.u R i := ⟨_, rfl⟩
                            have HUU := Lib.hid hU
                            rw [← hU] at HU
                            clear hU
                            have hnu := HU.out.1
                            go_wp2_with fail
                            go_loopg [127] (U - (s'.next i - 1)) (fun gk s127 wx => ∃ t : Nat, s'.next i - 1 ≤ t ∧ t ≤ U ∧ gk = U - t ∧ Hid (∀ v, v < t → 0 ≤ s'.out (pos (R.at_ i) (R.skip i) k v)) ∧ LQ w wx go ga (ga + 1) j k s'.out (fun q => if q = i then pos (R.at_ i) (R.skip i) k t else pos (R.at_ q) (R.skip q) k (s'.next q - 1)) (fun q => if q = i then D + W - H else s'.due q))
                            case atStart => exact ⟨s'.next i - 1, Nat.le_refl _, by omega, rfl, Lib.hid (fun v hv => HNX.out v (by omega)), hL4.of_eq (fun _ => rfl) (fun q => by by_cases e : q = i <;> simp [e]) (fun _ => rfl)⟩
                            case round =>
                              clear hL4
                              obtain ⟨t, ht0, ht1, rfl, HT, hL⟩ := hrel
                              have hPk : pos (R.at_ i) (R.skip i) k t < k := Nat.mod_lt _ (by omega)
                              have ca := hL.ra.cell hin
                              rw [if_pos rfl] at ca
                              have za := hL.ra.frozen i
                              have co := hL.ro.cell hPk
                              have zo := hL.ro.frozen (pos (R.at_ i) (R.skip i) k t)
                              have hL5 := hL.at_ i (pos (R.at_ i) (R.skip i) k (t + 1))
                              have hL6 := hL.put (pos (R.at_ i) (R.skip i) k t) (i : Int)
                              have HPS2 := Lib.hid (pos_step (R.at_ i) (R.skip i) k t)
                              have HT1 := Lib.hid (show 0 ≤ s'.out (pos (R.at_ i) (R.skip i) k t) → ∀ v, v < t + 1 → 0 ≤ s'.out (pos (R.at_ i) (R.skip i) k v) from fun h v hv => by
                                by_cases e : v = t
                                · rw [e]; exact h
                                · exact HT.out v (by omega))
                              have HTU := Lib.hid (fun h => (HUE.out t h HT.out).trans HUU.out.symm)
                              have HNE := Lib.hid (show 0 ≤ s'.out (pos (R.at_ i) (R.skip i) k t) → t ≠ U from fun h e => by
                                have := HU.out.2.2.1
                                rw [← e] at this; omega)
                              obtain ⟨P, hPe⟩ : ∃ P, P = pos (R.at_ i) (R.skip i) k t := ⟨_, rfl⟩
                              have HP2 := Lib.hid hPe
                              rw [← hPe] at hPk ca co zo hL6 HPS2 HT1 HTU HNE
                              obtain ⟨P1, hPe1⟩ : ∃ P, P = pos (R.at_ i) (R.skip i) k (t + 1) := ⟨_, rfl⟩
                              have HP3 := Lib.hid hPe1
                              rw [← hPe1] at HPS2 hL5
                              clear hPe hPe1
                              have hmod : ((P : Int) + (Sk : Int)).tmod (k : Int) = (P1 : Int) := by
                                rw [Int.tmod_eq_emod_of_nonneg (by omega), HPS2.out, ← HSK.out]; rfl
                              have hP1k : P1 < k := by rw [HPS2.out]; exact Nat.mod_lt _ (by omega)
                              have hPi : (P : Int) < (k : Int) := by omega
                              have hkz : ¬ (k : Int) = 0 := by omega
                              obtain ⟨z, hzz⟩ : ∃ z, z = s'.out P := ⟨_, rfl⟩
                              rw [← hzz] at co HT1 HTU HNE
                              clear hzz vs kz
                              by_cases hz : 0 ≤ z
                              · have g2 : decide (0 ≤ z) = true := decide_eq_true hz
                                have htn := HNE.out hz
                                have HT2 := Lib.hid (HT1.out hz)
                                clear hL6 HTU hz
                                go_wp2
                                go_roundg (U - (t + 1))
                                case measure => omega
                                case rel => exact ⟨t + 1, by omega, by omega, rfl, HT2, hL5.of_eq (fun _ => rfl) (fun q => by by_cases e : q = i <;> simp [e, HP3.out]) (fun _ => rfl)⟩
                              · have g2 : decide (0 ≤ z) = false := decide_eq_false hz
                                have htu := HTU.out (by omega)
                                have HTE := Lib.hid htu
                                clear hL5 hz htu
                                have hLf : LP w (wr.setCell ⟨go, P, none⟩ (.int .i64 (i : Int))) go ga (ga + 1) j k R ⟨fun q => if q = pos (R.at_ i) (R.skip i) k (s'.u R i) then (i : Int) else s'.out q, fun q => if q = i then s'.u R i + 1 else s'.next q, fun q => if q = i then D + W - H else s'.due q, s'.left - 1⟩ :=
                                  hL6.of_eq (fun q => by
                                    show _ = if q = pos (R.at_ i) (R.skip i) k (s'.u R i) then (i : Int) else s'.out q
                                    rw [← HUU.out, ← HTE.out, ← HP2.out]) (fun q => by
                                    show _ = pos (R.at_ q) (R.skip q) k ((if q = i then s'.u R i + 1 else s'.next q) - 1)
                                    by_cases e : q = i
                                    · subst e; rw [if_pos rfl, if_pos rfl, Nat.add_sub_cancel, ← HUU.out, ← HTE.out]; exact HP2.out
                                    · rw [if_neg e, if_neg e]) (fun _ => rfl)
                                clear hL6 hL
                                go_wp2
                                go_roundg (j - (i + 1))
                                case measure => omega
                                case rel => exact ⟨i + 1, _, by omega, rfl, Lib.hid (HPS.out.trans HE.out).symm, by show Value.int .i64 ((L : Int) - 1) = .int .i64 ((s'.left - 1 : Nat) : Int); rw [← HL.out]; congr 1; omega, by go_num, hLf⟩
                        · have hl0 : s'.left = 0 := by omega
                          have HST := Lib.hid (partR_stay R s i (by rw [← HS'.out]; exact hl0) (j - i))
                          rw [show i + (j - i) = j by omega] at HST
                          rw [hl0]
                          go_wp2
                          go_roundg 0
                          case measure => have := HSL.out; omega
                          case rel => exact ⟨r + 1, s', Lib.hid (by rw [HS'.out, roundsR, ← HS.out]; exact HST.out.symm), hl0.symm, by rw [hl0], hL⟩
                      · obtain rfl : i = j := by omega
                        have HRW := Lib.hid (round_lower hR HI.out hi0 HW0.out)
                        go_wp2
                        go_roundg s'.left
                        case measure => have := HRW.out; rw [← HS'.out] at this; have := HSL.out; omega
                        case rel => exact ⟨r + 1, s', Lib.hid (by rw [HS'.out, roundsR, ← HS.out]), rfl, rfl, hL⟩
                  · have hl0 : s.left = 0 := by omega
                    have HE := Lib.hid (show s = roundsR R j (rs0 k) k by rw [HS.out]; exact final_eq (by rw [← HS.out]; exact hl0) HEND.out)
                    rw [hl0]
                    go_wp2
                    go_ret
                    exact ⟨go, rfl, hL.ro.congr (fun q _ => by rw [HOUT.out, if_pos (by omega), ← HE.out]), hL.hW⟩
              · have g1 : decide (0 < H) = false := decide_eq_false hpos
                go_wp2_with fail
                go_loopg [13, 15, 16] 0 (fun gk s13 s15 s16 wx => wr = wx ∧ s13 = .int .i64 k)
                case atStart => exact ⟨rfl, rfl⟩
                case round =>
                  obtain ⟨rfl, rfl⟩ := hrel
                  go_wp2
                  go_ret
                  exact ⟨go, rfl, hs0.ro.congr (fun q _ => by rw [HOUT.out, if_neg (by omega)]; rfl), hs0.hW⟩
end Go.Proofs.Ytpedhlmcgilliaa
