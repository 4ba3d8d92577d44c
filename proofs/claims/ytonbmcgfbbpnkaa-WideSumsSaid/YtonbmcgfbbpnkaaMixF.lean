import Derived.Test.YtonbmcgfbbpnkaaMixE
import Derived.Test.YtonbmcgfbbpnkaaTextPlain2
set_option linter.unusedVariables false
namespace Go.Proofs.Ytonbmcgfbbpnkaa
open Go.RowKit
set_option maxHeartbeats 1600000
theorem Try.infoU64 : (Try.prog.info? 22).map (fun i => (i.zero, i.size, i.bytes)) = some (some (.int .u64 0), 1, 8) := by kernel_rfl
theorem textInts_wf (b : List UInt8) (z : Int) (h : z ∈ textInts b) : (Lit.int .u64 z).wf = true := by
  unfold textInts textWords at h
  rw [List.map_map, List.mem_map] at h
  obtain ⟨j, _, rfl⟩ := h
  have := word_lt9 ((b.drop (8 * j)).take 8) (by rw [List.length_take]; omega)
  have e : (Int.ofNat ∘ fun j => word ((b.drop (8 * j)).take 8)) j = ((word ((b.drop (8 * j)).take 8) : Nat) : Int) := rfl
  rw [e]
  exact WalkArith.wf_u64 (by omega)
/-- What the call owns reads as a list. -/
theorem owned_list {w wr : World} {K : IntKind} {e : TypeId} {v : Value} {l : List Int} (hown : wr.ownsRow w.heap.size e 1 v l.length (l.map (Value.int K))) (hwf : ∀ z ∈ l, (Lit.int K z).wf = true) (hl : (l.length : Int) ≤ 17592186043904) (hb : Below w.heap.size w wr) :
    ∃ A n c, Ending.returned v = .returned (.slice A n c) ∧ IsList wr K A n c l ∧ Below w.heap.size w wr := by
  rcases Nat.eq_zero_or_pos l.length with h0 | h0
  · obtain rfl : l = [] := List.length_eq_zero_iff.1 h0
    rcases hown.2 with ⟨rfl, _⟩ | ⟨g, cap, cur, rfl, hbg, hg, hnc, hcap, hcs, _⟩
    · exact ⟨none, 0, 0, rfl, isList_nil _ _, hb⟩
    · exact ⟨_, _, _, rfl, ⟨⟨rfl, fun h => absurd h (by simp)⟩, rfl, Nat.zero_le _, (by unfold maxLen at hcap; omega), (fun z hz => by cases hz), by simp⟩, hb⟩
  · obtain ⟨g, cap, rfl, hbg, hgs⟩ := hown.form h0
    have hr := Reads.of_own hown
    rcases hown.2 with ⟨hv, _⟩ | ⟨g', cap', cur, hv, _, hg, hnc, hcap, hcs, _⟩
    · cases hv
    · injection hv with h1 h2 h3
      subst h3
      exact ⟨_, _, _, rfl, ⟨hr, rfl, by omega, (by unfold maxLen at hcap; omega), hwf, by omega⟩, hb⟩
set_option maxRecDepth 100000 in
theorem ref_Words (s : ByteArray) (w : World) (hs : (s.size : Int) ≤ 140737488351232) :
    Calls Try.prog 124 #[.string s] w fun e w' => ∃ A n c, e = .returned (.slice A n c) ∧ IsList w' .u64 A n c (textInts s.data.toList) ∧ Below w.heap.size w w' := by
  have hsz0 : s.data.toList.length = s.size := Array.length_toList
  generalize hb : s.data.toList = b at *
  have HB := Lib.hid hb
  have HZ := Lib.hid hsz0
  clear hb hsz0
  obtain ⟨i0, hi, hz0, hz1, hz2⟩ := info_parts Try.infoU64
  go_enter Try.func124, Try.ntmps124
  go_wp2
  go_loopw [3, 4] (fun v i wr => ∃ k : Nat, k ≤ s.size ∧ i = .int .i64 k ∧ wr.ownsRow w.heap.size 22 1 v ((k + 7) / 8) ((textInts (b.take k)).map (Value.int .u64)) ∧ Below w.heap.size w wr)
    (fun _ i _ => s.size - (intOf i).toNat)
  case atStart => exact ⟨0, by omega, rfl, by simp [textInts, textWords]; exact World.ownsRow_nil _ _ _ _, Below.refl _ _⟩
  case round =>
    obtain ⟨k, hk, rfl, hown, hb⟩ := hrel
    by_cases hlt : k < s.size
    · obtain ⟨q, hq1, hq2⟩ : ∃ q, 8 * q ≤ k ∧ k < 8 * q + 8 := ⟨k / 8, by omega, by omega⟩
      have hI : (k : Int) < (s.size : Int) := by omega
      have HC := Lib.hid (show b[k]? = some s[k] by rw [← HB.out]; simp [hlt]; rfl)
      have hI2 : (q : Int) < (q : Int) + 1 := by omega
      by_cases h8 : (k : Int) % 8 = 0
      · rw [show (k + 7) / 8 = q by omega] at hown
        have HVB := Lib.hid hown.lt
        go_wp2_with (at_builtin; refine wpList_append_own _ rfl _ _ 33 rfl w.heap.size 22 i0 (.int .u64 0) 1 8 Try.underlying33 hi hz0 hz1 hz2 rfl (by decide) _ _ _ rfl (hown.alloc _) ⟨wr.heap.size, 0, none⟩ 1 1 [.int .u64 0] rfl rfl ?c1 ?c2 ?c3 ?c4 ?c5 ?_)
        case c1 => intro j u hj; cases j with | zero => simp at hj; subst hj; simp [Addr.add] | succ j => simp at hj
        case c2 => intro u hu; simp at hu; subst hu; rfl
        case c3 => unfold maxLen; omega
        case c4 => omega
        case c5 => have := hb.size; simp; omega
        intro v' w1 hown1 hgrow _
        obtain ⟨g, cap, rfl, hbg, hgs⟩ := hown1.form (by omega)
        have hcell := hown1.cellAt q (by omega)
        have hfr := hown1.frozenAt q
        rw [show (List.map (Value.int IntKind.u64) (textInts (List.take k b)) ++ [Value.int IntKind.u64 0])[q]? = some (.int .u64 0) by
          rw [List.getElem?_append_right (by rw [List.length_map, textInts_length, List.length_take, HZ.out]; omega), List.length_map, textInts_length, List.length_take, HZ.out, show q - (min k s.size + 7) / 8 = 0 by omega]; rfl] at hcell
        have HO := Lib.hid hown1
        have HG := Lib.hid hgrow
        clear hown1 hgrow hown
        go_wp2
        go_region
        go_wp2
        go_roundw
        case rel =>
          have HT := HO.out.stored q (.int .u64 (bits .or .u64 0 (IntKind.u64.wrap (IntKind.u64.wrap (s[k].toNat : Int)))))
          refine ⟨k + 1, by omega, by go_num, ?_, ?_⟩
          · rw [show (k + 1 + 7) / 8 = q + 1 by omega, step_new b k q s[k] (HC.out) (by omega), List.map_set, List.map_append, or_new (s[k].toNat) (UInt8.toNat_lt _)]
            rw [or_new (s[k].toNat) (UInt8.toNat_lt _)] at HT
            exact HT.1.drew
          · exact ((hb.alloc hb.size _).grown HG.out (by have := hb.size; simp; omega) (fun x hx => (HVB.out x hx).1)).trans ((Below.refl _ _).setCell (by simpa using hbg) _).drew
        case measure => simp [intOf]; omega
      · rw [show (k + 7) / 8 = q + 1 by omega] at hown
        obtain ⟨g, cap, rfl, hbg, hgs⟩ := hown.form (by omega)
        have hfr := hown.frozenAt q
        have hcell : ∀ r : Nat, 0 < r → k = 8 * q + r → wr.cell? ⟨g, q, none⟩ = some (.int .u64 ((oldWord b k q : Nat) : Int)) := fun r h0 hr => by
          rw [hown.cellAt q (by omega), List.getElem?_map, oldWord_at b k q r (by rw [HZ.out]; omega) hr (by omega) h0]; rfl
        have HO := Lib.hid hown
        clear hown
        rcases (show k = 8 * q + 1 ∨ k = 8 * q + 2 ∨ k = 8 * q + 3 ∨ k = 8 * q + 4 ∨ k = 8 * q + 5 ∨ k = 8 * q + 6 ∨ k = 8 * q + 7 by omega) with e | e | e | e | e | e | e
        · have h8 : (k : Int) % 8 = 1 := by omega
          have hkr := Lib.hid e
          have e1 : k ≤ 8 * q + 7 := by omega
          clear e
          have hcell' := hcell 1 (by omega) hkr.out
          clear hcell
          go_wp2
          go_region
          go_wp2
          go_roundw
          case rel =>
            have HT := HO.out.stored q (.int .u64 (bits .or .u64 ((oldWord b k q : Nat) : Int) (IntKind.u64.wrap (IntKind.u64.wrap (s[k].toNat : Int) * 256))))
            refine ⟨k + 1, by omega, by go_num, ?_, ?_⟩
            · rw [show (k + 1 + 7) / 8 = q + 1 by omega, step_more b k q 1 s[k] (HC.out) hkr.out (by omega) (by omega), List.map_set, ← or_more (oldWord b k q) (s[k].toNat) 1 256 (by rfl) (by omega) (oldWord_lt b k q 1 (by rw [HZ.out]; omega) hkr.out) (UInt8.toNat_lt _)]
              exact HT.1.drew
            · exact (hb.setCell (by simpa using hbg) _).drew
          case measure => simp [intOf]; omega
        · have h8 : (k : Int) % 8 = 2 := by omega
          have hkr := Lib.hid e
          have e1 : k ≤ 8 * q + 7 := by omega
          clear e
          have hcell' := hcell 2 (by omega) hkr.out
          clear hcell
          go_wp2
          go_region
          go_wp2
          go_roundw
          case rel =>
            have HT := HO.out.stored q (.int .u64 (bits .or .u64 ((oldWord b k q : Nat) : Int) (IntKind.u64.wrap (IntKind.u64.wrap (s[k].toNat : Int) * 65536))))
            refine ⟨k + 1, by omega, by go_num, ?_, ?_⟩
            · rw [show (k + 1 + 7) / 8 = q + 1 by omega, step_more b k q 2 s[k] (HC.out) hkr.out (by omega) (by omega), List.map_set, ← or_more (oldWord b k q) (s[k].toNat) 2 65536 (by rfl) (by omega) (oldWord_lt b k q 2 (by rw [HZ.out]; omega) hkr.out) (UInt8.toNat_lt _)]
              exact HT.1.drew
            · exact (hb.setCell (by simpa using hbg) _).drew
          case measure => simp [intOf]; omega
        · have h8 : (k : Int) % 8 = 3 := by omega
          have hkr := Lib.hid e
          have e1 : k ≤ 8 * q + 7 := by omega
          clear e
          have hcell' := hcell 3 (by omega) hkr.out
          clear hcell
          go_wp2
          go_region
          go_wp2
          go_roundw
          case rel =>
            have HT := HO.out.stored q (.int .u64 (bits .or .u64 ((oldWord b k q : Nat) : Int) (IntKind.u64.wrap (IntKind.u64.wrap (s[k].toNat : Int) * 16777216))))
            refine ⟨k + 1, by omega, by go_num, ?_, ?_⟩
            · rw [show (k + 1 + 7) / 8 = q + 1 by omega, step_more b k q 3 s[k] (HC.out) hkr.out (by omega) (by omega), List.map_set, ← or_more (oldWord b k q) (s[k].toNat) 3 16777216 (by rfl) (by omega) (oldWord_lt b k q 3 (by rw [HZ.out]; omega) hkr.out) (UInt8.toNat_lt _)]
              exact HT.1.drew
            · exact (hb.setCell (by simpa using hbg) _).drew
          case measure => simp [intOf]; omega
        · have h8 : (k : Int) % 8 = 4 := by omega
          have hkr := Lib.hid e
          have e1 : k ≤ 8 * q + 7 := by omega
          clear e
          have hcell' := hcell 4 (by omega) hkr.out
          clear hcell
          go_wp2
          go_region
          go_wp2
          go_roundw
          case rel =>
            have HT := HO.out.stored q (.int .u64 (bits .or .u64 ((oldWord b k q : Nat) : Int) (IntKind.u64.wrap (IntKind.u64.wrap (s[k].toNat : Int) * 4294967296))))
            refine ⟨k + 1, by omega, by go_num, ?_, ?_⟩
            · rw [show (k + 1 + 7) / 8 = q + 1 by omega, step_more b k q 4 s[k] (HC.out) hkr.out (by omega) (by omega), List.map_set, ← or_more (oldWord b k q) (s[k].toNat) 4 4294967296 (by rfl) (by omega) (oldWord_lt b k q 4 (by rw [HZ.out]; omega) hkr.out) (UInt8.toNat_lt _)]
              exact HT.1.drew
            · exact (hb.setCell (by simpa using hbg) _).drew
          case measure => simp [intOf]; omega
        · have h8 : (k : Int) % 8 = 5 := by omega
          have hkr := Lib.hid e
          have e1 : k ≤ 8 * q + 7 := by omega
          clear e
          have hcell' := hcell 5 (by omega) hkr.out
          clear hcell
          go_wp2
          go_region
          go_wp2
          go_roundw
          case rel =>
            have HT := HO.out.stored q (.int .u64 (bits .or .u64 ((oldWord b k q : Nat) : Int) (IntKind.u64.wrap (IntKind.u64.wrap (s[k].toNat : Int) * 1099511627776))))
            refine ⟨k + 1, by omega, by go_num, ?_, ?_⟩
            · rw [show (k + 1 + 7) / 8 = q + 1 by omega, step_more b k q 5 s[k] (HC.out) hkr.out (by omega) (by omega), List.map_set, ← or_more (oldWord b k q) (s[k].toNat) 5 1099511627776 (by rfl) (by omega) (oldWord_lt b k q 5 (by rw [HZ.out]; omega) hkr.out) (UInt8.toNat_lt _)]
              exact HT.1.drew
            · exact (hb.setCell (by simpa using hbg) _).drew
          case measure => simp [intOf]; omega
        · have h8 : (k : Int) % 8 = 6 := by omega
          have hkr := Lib.hid e
          have e1 : k ≤ 8 * q + 7 := by omega
          clear e
          have hcell' := hcell 6 (by omega) hkr.out
          clear hcell
          go_wp2
          go_region
          go_wp2
          go_roundw
          case rel =>
            have HT := HO.out.stored q (.int .u64 (bits .or .u64 ((oldWord b k q : Nat) : Int) (IntKind.u64.wrap (IntKind.u64.wrap (s[k].toNat : Int) * 281474976710656))))
            refine ⟨k + 1, by omega, by go_num, ?_, ?_⟩
            · rw [show (k + 1 + 7) / 8 = q + 1 by omega, step_more b k q 6 s[k] (HC.out) hkr.out (by omega) (by omega), List.map_set, ← or_more (oldWord b k q) (s[k].toNat) 6 281474976710656 (by rfl) (by omega) (oldWord_lt b k q 6 (by rw [HZ.out]; omega) hkr.out) (UInt8.toNat_lt _)]
              exact HT.1.drew
            · exact (hb.setCell (by simpa using hbg) _).drew
          case measure => simp [intOf]; omega
        · have h8 : (k : Int) % 8 = 7 := by omega
          have hkr := Lib.hid e
          have e1 : k ≤ 8 * q + 7 := by omega
          clear e
          have hcell' := hcell 7 (by omega) hkr.out
          clear hcell
          go_wp2
          go_region
          go_wp2
          go_roundw
          case rel =>
            have HT := HO.out.stored q (.int .u64 (bits .or .u64 ((oldWord b k q : Nat) : Int) (IntKind.u64.wrap (IntKind.u64.wrap (s[k].toNat : Int) * 72057594037927936))))
            refine ⟨k + 1, by omega, by go_num, ?_, ?_⟩
            · rw [show (k + 1 + 7) / 8 = q + 1 by omega, step_more b k q 7 s[k] (HC.out) hkr.out (by omega) (by omega), List.map_set, ← or_more (oldWord b k q) (s[k].toNat) 7 72057594037927936 (by rfl) (by omega) (oldWord_lt b k q 7 (by rw [HZ.out]; omega) hkr.out) (UInt8.toNat_lt _)]
              exact HT.1.drew
            · exact (hb.setCell (by simpa using hbg) _).drew
          case measure => simp [intOf]; omega
    · rw [List.take_of_length_le (by rw [HZ.out]; omega), show (k + 7) / 8 = (textInts b).length by rw [textInts_length, HZ.out]; omega] at hown
      go_wp2
      go_ret
      exact owned_list hown (fun z hz => textInts_wf b z hz) (by rw [textInts_length, HZ.out]; omega) hb
end Go.Proofs.Ytonbmcgfbbpnkaa
