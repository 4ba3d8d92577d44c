/- RatePlays. -/
import Derived.Test.YtonbmcgfbbpnkaaRateC
import Derived.Test.YtonbmcgfbbpnkaaPairs2
import Derived.Deep.RegionWith
import Derived.Deep.DeepCutAuto
set_option linter.unusedVariables false
namespace Go.Proofs.Ytonbmcgfbbpnkaa
open Go.RowKit
set_option maxHeartbeats 1000000
theorem ratePlays_no (w : World) (e m : Int) (h : rRight e m = false) (A : Option Addr) (n c : Nat) (l : List (Int × Int)) :
    Calls Try.prog 15 #[.agg #[.int .i64 e, .int .i64 m], .slice A n c] w fun en w' => en = .returned (.bool true) ∧ Below w.heap.size w w' := by
  go_enter Try.func15, Try.ntmps15
  go_wp2_with fail
  refine (rate_New_no e m h _).mono ?_; rintro en w1 ⟨rfl, hx⟩
  have hR := (Blk.new w 80 #[.int .i64 e, .int .i64 m]).keep hx
  have hW : Below w.heap.size w w1 := below_step (by go_grown) hx
  clear hx
  obtain ⟨c0, c1, z⟩ := hR.cells2
  go_wp2_with fail
  go_region_held3 (fun w' => ((w'.cell? ⟨w.heap.size, 0, none⟩ = some (.int .i64 e) ∧ w'.cell? ⟨w.heap.size, 1, none⟩ = some (.int .i64 m)) ∧ Blk w' (w.heap.size) 80 #[.int .i64 e, .int .i64 m]) ∧ Below w.heap.size w w')
    (((try (rename_i hS hK0 hK1; obtain ⟨⟨_, hR⟩, hW⟩ := hS)); (refine ⟨?_, ?_⟩); (focus (first | exact Blk.pk2 (hR) | exact Blk.pk2 (Blk.drew hR) | exact Blk.pk2 (Blk.keep hR hx) | exact Blk.pk2 (Blk.keepD hR hx) | exact Blk.pk2 (Blk.keepAD hR hx) | exact Blk.pk2 (Blk.keepA hR hx) | exact Blk.pk2 (Blk.alloc hR _) | exact Blk.pk2 (Blk.drew (Blk.alloc hR _)) | exact Blk.pk2 (Blk.mod hR hm hn_hR) | exact Blk.pk2 (Blk.mod (Blk.drew hR) hm hn_hR) | exact Blk.pk2 (Blk.far hR (Nat.ne_of_lt (Blk.lt hR)) _) | exact Blk.pk2 (Blk.far hR hne_hR _))); (focus (first | exact hW | exact hW.drew | exact below_step hW hx | exact below_d hx hW | exact below_ad hx hW | exact hW.alloc hW.size _ | exact (hW.alloc hW.size _).drew | exact below_own hW hW.size _ _ | exact below_thenMod hW (Nat.le_refl _) hm hs_hW | exact below_thenMod hW.drew (Nat.le_refl _) hm hs_hW))))
    (first
      | (go_at_call 72; refine (rate_Right e m _).mono ?_; rintro en w' ⟨rfl, hx⟩)
      | (go_at_call 73; refine (law_right e m _).mono ?_; rintro en w' ⟨rfl, hx⟩))
  all_goals
    rename_i hS
    obtain ⟨⟨⟨d0, d1⟩, hR1⟩, hW1⟩ := hS
    clear c0 c1 z hR hW
    go_wp2_with fail
    refine (law_right e m _).mono ?_; rintro en w2 ⟨rfl, hx⟩
    have hW2 := below_step hW1 hx
    clear hx hW1
    rw [h]
    go_wp2_with (go_at_call 66; refine (law37_awake _).mono ?_; rintro en w3 ⟨rfl, hx⟩)
    go_ret
    exact ⟨rfl, below_step hW2 hx⟩
/-- Both buckets alike, and the rule, in a world of which all that was there at first is as it was. -/
def PlaysRel (w0 : World) (b p R : Nat) (e m : Int) (wr : World) : Prop :=
  ∃ h n : Int, RB e m h n ∧ BK wr b e m h n ∧ PK wr p e m h n ∧ Blk wr R 80 #[.int .i64 e, .int .i64 m] ∧ Below w0.heap.size w0 wr
theorem playsRel_next {w0 wr w1 : World} {b p R : Nat} {e m h n : Int} (hb : w0.heap.size ≤ b) (hp : w0.heap.size ≤ p) (hR : Blk wr R 80 #[.int .i64 e, .int .i64 m]) (hB : BK wr b e m h n) (hP : PK wr p e m h n) (hW : Below w0.heap.size w0 wr)
    (hM : Mod (fun k => k = b ∨ k = p) wr w1) : Blk w1 R 80 #[.int .i64 e, .int .i64 m] ∧ Below w0.heap.size w0 w1 := by
  refine ⟨hR.mod hM ?_, below_thenMod hW (Nat.le_refl _) hM ?_⟩
  · rintro (h | h)
    · exact hR.ne_ hB (by decide) h
    · exact hR.ne_ hP (by decide) h
  · rintro i (rfl | rfl) <;> assumption
theorem rule_ne {w : World} {b p R : Nat} {e m h n h' n' : Int} (hR : Blk w R 80 #[.int .i64 e, .int .i64 m]) (hB : BK w b e m h n) (hP : PK w p e m h' n') : ¬ (R = b ∨ R = p) := by
  rintro (h | h)
  · exact hR.ne_ hB (by decide) h
  · exact hR.ne_ hP (by decide) h
theorem both_ge {z b p : Nat} (hb : z ≤ b) (hp : z ≤ p) : ∀ i, (i = b ∨ i = p) → z ≤ i := by
  rintro i (rfl | rfl) <;> assumption
theorem both_no {z b p : Nat} {ad : Addr} {i : Nat} (hz : ad.block < z) (h : ∀ i, (i = b ∨ i = p) → z ≤ i) : ¬ ((ad.add i).block = b ∨ (ad.add i).block = p) := by
  rw [block_of_add]
  exact fun hh => absurd (h _ hh) (by omega)
set_option maxHeartbeats 8000000 in
theorem ratePlays_yes (w : World) (e m : Int) (h : rRight e m = true) (A : Option Addr) (n c : Nat) (l : List (Int × Int)) (hl : IsPairs w .i64 .i64 A n c l) :
    Calls Try.prog 15 #[.agg #[.int .i64 e, .int .i64 m], .slice A n c] w fun en w' => en = .returned (.bool true) ∧ Below w.heap.size w w' := by
  have hn := hl.reach
  have hcap := hl.cap
  have hsm := hl.small
  have r0 : RB e m m 0 := by
    have := of_decide_eq_true h
    constructor <;> omega
  go_enter Try.func15, Try.ntmps15
  go_wp2_with fail
  refine (rate_New_yes e m h _).mono ?_; rintro en w1 ⟨b, rfl, hb, hB, hx⟩
  have hR := (Blk.new w 80 #[.int .i64 e, .int .i64 m]).keep hx
  have hW : Below w.heap.size w w1 := below_step (by go_grown) hx
  have hb' : w.heap.size ≤ b := by simp at hb; omega
  clear hx hb
  obtain ⟨c0, c1, z⟩ := hR.cells2
  go_wp2_with fail
  go_region_held3 (fun w' => ((w'.cell? ⟨w.heap.size, 0, none⟩ = some (.int .i64 e) ∧ w'.cell? ⟨w.heap.size, 1, none⟩ = some (.int .i64 m)) ∧ Blk w' (w.heap.size) 80 #[.int .i64 e, .int .i64 m]) ∧ ((w'.cell? ⟨b, 0, none⟩ = some (.int .i64 e) ∧ w'.cell? ⟨b, 1, none⟩ = some (.int .i64 m) ∧ w'.cell? ⟨b, 2, none⟩ = some (.int .i64 m) ∧ w'.cell? ⟨b, 3, none⟩ = some (.int .i64 0)) ∧ Blk w' (b) 99 #[.int .i64 e, .int .i64 m, .int .i64 m, .int .i64 0]) ∧ Below w.heap.size w w')
    (((try (rename_i hS hK0 hK1; obtain ⟨⟨_, hR⟩, ⟨_, hB⟩, hW⟩ := hS)); (refine ⟨?_, ?_, ?_⟩); (focus (first | exact Blk.pk2 (hR) | exact Blk.pk2 (Blk.drew hR) | exact Blk.pk2 (Blk.keep hR hx) | exact Blk.pk2 (Blk.keepD hR hx) | exact Blk.pk2 (Blk.keepAD hR hx) | exact Blk.pk2 (Blk.keepA hR hx) | exact Blk.pk2 (Blk.alloc hR _) | exact Blk.pk2 (Blk.drew (Blk.alloc hR _)) | exact Blk.pk2 (Blk.mod hR hm hn_hR) | exact Blk.pk2 (Blk.mod (Blk.drew hR) hm hn_hR) | exact Blk.pk2 (Blk.far hR (Nat.ne_of_lt (Blk.lt hR)) _) | exact Blk.pk2 (Blk.far hR hne_hR _))); (focus (first | exact Blk.pk4 (hB) | exact Blk.pk4 (Blk.drew hB) | exact Blk.pk4 (Blk.keep hB hx) | exact Blk.pk4 (Blk.keepD hB hx) | exact Blk.pk4 (Blk.keepAD hB hx) | exact Blk.pk4 (Blk.keepA hB hx) | exact Blk.pk4 (Blk.alloc hB _) | exact Blk.pk4 (Blk.drew (Blk.alloc hB _)) | exact Blk.pk4 (Blk.mod hB hm hn_hB) | exact Blk.pk4 (Blk.mod (Blk.drew hB) hm hn_hB) | exact Blk.pk4 (Blk.far hB (Nat.ne_of_lt (Blk.lt hB)) _) | exact Blk.pk4 (Blk.far hB hne_hB _))); (focus (first | exact hW | exact hW.drew | exact below_step hW hx | exact below_d hx hW | exact below_ad hx hW | exact hW.alloc hW.size _ | exact (hW.alloc hW.size _).drew | exact below_own hW hW.size _ _ | exact below_thenMod hW (Nat.le_refl _) hm hs_hW | exact below_thenMod hW.drew (Nat.le_refl _) hm hs_hW))))
    (first
      | (go_at_call 72; refine (rate_Right e m _).mono ?_; rintro en w' ⟨rfl, hx⟩)
      | (go_at_call 73; refine (law_right e m _).mono ?_; rintro en w' ⟨rfl, hx⟩))
  all_goals
    rename_i hS
    obtain ⟨⟨⟨d0, d1⟩, hR1⟩, ⟨⟨b0, b1, b2, b3⟩, hB1⟩, hW1⟩ := hS
    clear c0 c1 z hR hW hB
    go_wp2_with fail
    refine (law_right e m _).mono ?_; rintro en w2 ⟨rfl, hx⟩
    have hW2 := below_step hW1 hx
    have hR2 := hR1.keep hx
    have hB2 := hB1.keep hx
    clear hx hW1 hR1 hB1 d0 d1 b0 b1 b2 b3
    obtain ⟨c0, c1, z⟩ := hR2.cells2
    obtain ⟨b0, b1, b2, b3, bz⟩ := hB2.cells4
    rw [h]
    go_wp2_with fail
    go_quiet (fail)
    go_wp2_with fail
    have hbp : b ≠ w2.heap.size := Nat.ne_of_lt hB2.lt
    have hp0 : w.heap.size ≤ w2.heap.size := hW2.size
    go_loopg [8] n (fun gk i wr => ∃ k : Nat, k ≤ n ∧ gk = n - k ∧ i = .int .i64 k ∧ PlaysRel w b w2.heap.size w.heap.size e m wr)
    case atStart => exact ⟨0, Nat.zero_le _, rfl, rfl, m, 0, r0, Blk.alloc (Blk.drewN hB2 _) _, Blk.new _ _ _, Blk.alloc (Blk.drewN hR2 _) _, (below_drewN hW2 _).alloc hW2.size _⟩
    case round =>
      clear c0 c1 z b0 b1 b2 b3 bz hR2 hB2 hW2
      obtain ⟨k, hk, rfl, rfl, x, y, r, hB, hP, hR, hW⟩ := hrel
      obtain ⟨e0, e1, m0, m1, h0, h1, n0, n1⟩ := id r
      by_cases hlt : k < n
      · by_cases h60 : k < 60
        · obtain ⟨ad, rfl, hbk, a0, a1, q0, q1⟩ := hl.at_ hlt
          have a0' := (hW.cell (p := ad.add (k * 2)) (by rw [block_of_add]; exact hbk)).trans a0
          have a1' := (hW.cell (p := ⟨(ad.add (k * 2)).block, (ad.add (k * 2)).off + 1, none⟩) (by show (ad.add (k * 2)).block < _; rw [block_of_add]; exact hbk)).trans a1
          clear a0 a1 q0 q1
          generalize l.getD k (0, 0) = q at *
          obtain ⟨c0, c1, z⟩ := hR.cells2
          go_wp2_with fail
          go_cut [99] (fun s wx => s = .bool false ∧ PlaysRel w b w2.heap.size w.heap.size e m wx)
          case first =>
            go_region_with (first
              | (go_at_call 67; refine (law_step q.1 q.2 _ (Blk.drew hB) (Blk.drew hP) hbp r).mono ?_; rintro en w3 ⟨x', y', rfl, r', hB', hP', hM⟩; have hN := playsRel_next hb' hp0 hR.drew (Blk.drew hB) (Blk.drew hP) hW.drew hM; obtain ⟨g0, g1, g2, g3, gz⟩ := Blk.cells4 hP'; obtain ⟨v0, v1, vz⟩ := Blk.cells2 hN.1; have t0 : decide (x' < 0) = false := decide_eq_false (by have := r'.h0; omega); have t1 : decide (m < x') = false := decide_eq_false (by have := r'.h1; omega); have t2 : (x' != x') = false := (by simp); have t3 : (y' != y') = false := (by simp); clear c0 c1 z e0 e1 m0 m1 h0 h1 n0 n1 a0' a1')
              | (go_at_call 69; refine (rate_Have _ hB' r').mono ?_; rintro en w' ⟨rfl, rfl⟩)
              | (go_at_call 74; refine (rate_Now _ hB' r').mono ?_; rintro en w' ⟨rfl, rfl⟩))
            all_goals
              go_wp2_with fail
              go_meet
              exact ⟨rfl, _, _, r', hB', hP', hN.1, hN.2⟩
          case rest =>
            obtain ⟨rfl, x', y', r', hB', hP', hR', hW'⟩ := hcut
            go_wp2
            go_roundg (n - (k + 1))
            case measure => omega
            case rel => exact ⟨k + 1, by omega, rfl, by go_num, x', y', r', hB', hP', hR', hW'⟩
        · go_wp2_with (go_at_call 66; refine (law37_awake _).mono ?_; rintro en w3 ⟨rfl, hx⟩)
          go_ret
          exact ⟨rfl, below_step hW hx⟩
      · go_wp2_with (go_at_call 66; refine (law37_awake _).mono ?_; rintro en w3 ⟨rfl, hx⟩)
        go_ret
        exact ⟨rfl, below_step hW hx⟩
theorem ratePlays_walk (w : World) (e m : Int) (_ : -9223372036854775808 ≤ e) (_ : e ≤ 9223372036854775807) (_ : -9223372036854775808 ≤ m) (_ : m ≤ 9223372036854775807) (A : Option Addr) (n c : Nat) (l : List (Int × Int)) (hl : IsPairs w .i64 .i64 A n c l) :
    Calls Try.prog 15 #[.agg #[.int .i64 e, .int .i64 m], .slice A n c] w fun en w' => en = .returned (.bool true) ∧ Below w.heap.size w w' := by
  cases h : rRight e m with
  | true => exact ratePlays_yes w e m h A n c l hl
  | false => exact ratePlays_no w e m h A n c l
end Go.Proofs.Ytonbmcgfbbpnkaa
