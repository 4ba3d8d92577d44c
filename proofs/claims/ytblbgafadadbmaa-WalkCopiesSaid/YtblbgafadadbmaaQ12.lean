/- Lemmas for the claim's proof: EligB EligC. -/
import Derived.Deep.RegionWith
import Derived.Deep.RegionHeld3
import Derived.Test.YtblbgafadadbmaaQ11
section
/- elig.New. -/
set_option linter.unusedVariables false
namespace Go.Proofs.Ytblbgafadadbmaa
open Go.RowKit
set_option maxHeartbeats 8000000
set_option maxRecDepth 100000
theorem Try.infoU64e : (Try.prog.info? 24).map (fun i => (i.zero, i.size, i.bytes)) = some (some (.int .u64 0), 1, 8) := by kernel_rfl
theorem Try.infoBoole : (Try.prog.info? 4).map (fun i => (i.zero, i.size, i.bytes)) = some (some (.bool false), 1, 1) := by kernel_rfl
theorem node_weight (x : Nd) (w : World) : (Instr.field 64 (.agg #[.string x.name, .int .i64 x.kind, .int .i64 x.above, .int .i64 x.weight, .bool x.six, .int .u64 x.hi, .int .u64 x.lo]) 3).run Try.prog w = .ok (.int .i64 x.weight) w := by kernel_rfl
/-- The hosts that may be picked, rising. -/
def picks (l : List Nd) (hosts : List Int) : List Int := (idx (isK 4) l).filter fun h => pk l hosts h.toNat
def picksTo (l : List Nd) (hosts : List Int) (m : Nat) : List Int := ((idx (isK 4) l).take m).filter fun h => pk l hosts h.toNat
theorem picksTo_step (l : List Nd) (hosts : List Int) (m : Nat) (hm : m < (idx (isK 4) l).length) : picksTo l hosts (m + 1) = picksTo l hosts m ++ if pk l hosts ((idx (isK 4) l).getD m 0).toNat = true then [(idx (isK 4) l).getD m 0] else [] := by
  unfold picksTo
  rw [List.take_succ_eq_append_getElem hm, List.filter_append, List.getD_eq_getElem?_getD, List.getElem?_eq_getElem hm]
  congr 1
  simp only [Option.getD_some, List.filter_cons, List.filter_nil]
theorem picksTo_all (l : List Nd) (hosts : List Int) : picksTo l hosts (idx (isK 4) l).length = picks l hosts := by
  unfold picksTo picks; rw [List.take_length]
theorem picksTo_le (l : List Nd) (hosts : List Int) (m : Nat) : (picksTo l hosts m).length ≤ l.length := by
  unfold picksTo
  refine Nat.le_trans (List.length_filter_le _ _) ?_
  rw [List.length_take]
  have := idx_le (isK 4) l
  omega
theorem mem_idx {p : Nd → Bool} {l : List Nd} {z : Int} : z ∈ idx p l ↔ ∃ j : Nat, z = j ∧ j < l.length ∧ p (l.getD j nd0) = true := by
  unfold idx
  rw [List.mem_map]
  constructor
  · rintro ⟨k, hk, rfl⟩
    rw [List.mem_filter, List.mem_range] at hk
    exact ⟨k, rfl, hk.1, hk.2⟩
  · rintro ⟨j, rfl, h1, h2⟩
    exact ⟨j, by rw [List.mem_filter, List.mem_range]; exact ⟨h1, h2⟩, rfl⟩
theorem pk_host {l : List Nd} {hosts : List Int} {j : Nat} (h : pk l hosts j = true) : (l.getD j nd0).kind = 4 ∧ 0 < (l.getD j nd0).weight ∧ hosts.contains (j : Int) = true := by
  unfold pk at h
  simp only [Bool.and_eq_true, beq_iff_eq, decide_eq_true_eq] at h
  exact ⟨h.1.1, h.1.2, h.2⟩
theorem picks_contains (l : List Nd) (hosts : List Int) (j : Nat) (hj : j < l.length) : (picks l hosts).contains (j : Int) = pk l hosts j := by
  apply Bool.eq_iff_iff.2
  rw [List.contains_iff_mem]
  unfold picks
  rw [List.mem_filter, Int.toNat_natCast]
  constructor
  · exact fun h => h.2
  · intro h
    refine ⟨mem_idx.2 ⟨j, rfl, hj, ?_⟩, h⟩
    unfold isK
    simpa using (pk_host h).1
/-- What the hosts weigh as so many have been looked at. -/
def wTo (l : List Nd) (hosts : List Int) (m : Nat) (j : Nat) : Int := if (picksTo l hosts m).contains (j : Int) then (l.getD j nd0).weight else 0
def sTo (l : List Nd) (hosts : List Int) (m : Nat) (j : Nat) : Bool := (picksTo l hosts m).contains (j : Int)
theorem wTo_push {l : List Nd} {hosts : List Int} {m h : Nat} {z : Int} (hE : picksTo l hosts (m + 1) = picksTo l hosts m ++ [(h : Int)]) (hz : z = (l.getD h nd0).weight) (j : Nat) : wTo l hosts (m + 1) j = if j = h then z else wTo l hosts m j := by
  unfold wTo
  rw [hE]
  by_cases e : j = h
  · subst e; rw [if_pos rfl, if_pos (by simp), hz]
  · rw [if_neg e]
    have : ((picksTo l hosts m ++ [(h : Int)]).contains (j : Int)) = (picksTo l hosts m).contains (j : Int) := by
      apply Bool.eq_iff_iff.2
      rw [List.contains_iff_mem, List.contains_iff_mem, List.mem_append, List.mem_singleton]
      constructor
      · rintro (h1 | h1)
        · exact h1
        · omega
      · exact .inl
    rw [this]
theorem sTo_push {l : List Nd} {hosts : List Int} {m h : Nat} (hE : picksTo l hosts (m + 1) = picksTo l hosts m ++ [(h : Int)]) (j : Nat) : sTo l hosts (m + 1) j = if j = h then true else sTo l hosts m j := by
  unfold sTo
  rw [hE]
  by_cases e : j = h
  · subst e; rw [if_pos rfl]; simp
  · rw [if_neg e]
    apply Bool.eq_iff_iff.2
    rw [List.contains_iff_mem, List.contains_iff_mem, List.mem_append, List.mem_singleton]
    constructor
    · rintro (h1 | h1)
      · exact h1
      · omega
    · exact .inl
/-- The state of New's first loop. -/
structure NS (w3 : World) (w : World) (g b n gw gs : Nat) (W : Nat → Int) (S : Nat → Bool) (vH : Value) (H : List Int) : Prop where
  set : SetIs w g b n gw gs W S vH H
  hm : Mod (fun k => k = g ∨ k = gw ∨ k = gs ∨ w3.heap.size ≤ k) w3 w
  own : ∀ k, vH.ownBlock = some k → w3.heap.size ≤ k
theorem NS.keep {w3 w w' : World} {g b n gw gs : Nat} {W : Nat → Int} {S : Nat → Bool} {vH : Value} {H : List Int} (h : NS w3 w g b n gw gs W S vH H) (hx : Below w.heap.size w w') : NS w3 w' g b n gw gs W S vH H :=
  ⟨h.set.keep hx, h.hm.thenB hx, h.own⟩
theorem NS.alloc {w3 w : World} {g b n gw gs : Nat} {W : Nat → Int} {S : Nat → Bool} {vH : Value} {H : List Int} (h : NS w3 w g b n gw gs W S vH H) (o : Obj) : NS w3 (w.alloc o) g b n gw gs W S vH H :=
  h.keep ((Below.refl _ _).alloc (Nat.le_refl _) o)
theorem NS.keepD {w3 w w' : World} {g b n gw gs : Nat} {W : Nat → Int} {S : Nat → Bool} {vH : Value} {H : List Int} (h : NS w3 w g b n gw gs W S vH H) (hx : Below w.drew.heap.size w.drew w') : NS w3 w' g b n gw gs W S vH H :=
  h.keep (below_of_drew hx)
theorem NS.turnW {w3 w : World} {g b n gw gs : Nat} {W : Nat → Int} {S : Nat → Bool} {vH : Value} {H : List Int} (h : NS w3 w g b n gw gs W S vH H) {i : Nat} (z : Int) : NS w3 (w.setCell ⟨gw, i, none⟩ (.int .u64 z)) g b n gw gs (fun j => if j = i then z else W j) S vH H :=
  ⟨h.set.setW z, h.hm.own' (.inr (.inl rfl)) i _, h.own⟩
theorem NS.turnS {w3 w : World} {g b n gw gs : Nat} {W : Nat → Int} {S : Nat → Bool} {vH : Value} {H : List Int} (h : NS w3 w g b n gw gs W S vH H) {i : Nat} (z : Bool) : NS w3 (w.setCell ⟨gs, i, none⟩ (.bool z)) g b n gw gs W (fun j => if j = i then z else S j) vH H :=
  ⟨h.set.setS z, h.hm.own' (.inr (.inr (.inl rfl))) i _, h.own⟩
theorem NS.push {w3 w w' : World} {g b n gw gs : Nat} {W : Nat → Int} {S : Nat → Bool} {vH v' : Value} {H : List Int} (h : NS w3 w g b n gw gs W S vH H) (z : Int) (hg : w.grownBy w' vH.ownBlock)
    (hown : w'.ownsRow 0 3 1 v' (H.length + 1) (ints H ++ [.int .i64 z])) (hat : v'.ownBlock = vH.ownBlock ∨ v'.ownBlock = some w.heap.size) : NS w3 (w'.setCell ⟨g, 3, none⟩ v') g b n gw gs W S v' (H ++ [z]) := by
  have h1 : Blk w' g 91 _ := h.set.blk.grown hg (blk_type h.set.blk h.set.rH (by decide))
  have h2 : w'.rowIs gw 24 n (fun j => .int .u64 (W j)) := h.set.rW.of_block (hg.block gw h.set.rW.lt (row_own h.set.rW h.set.rH (by decide)))
  have h3 : w'.rowIs gs 4 n (fun j => .bool (S j)) := h.set.rS.of_block (hg.block gs h.set.rS.lt (row_own h.set.rS h.set.rH (by decide)))
  have h4 : w'.ownsRow 0 3 1 v' (H ++ [z]).length (ints (H ++ [z])) := by simpa [ints] using hown
  refine ⟨⟨h1.setTo 3 v' rfl, h2.of_block (Below.heap_setCell w' ⟨g, 3, none⟩ _ gw (row_type h2 h1 (by decide))), h3.of_block (Below.heap_setCell w' ⟨g, 3, none⟩ _ gs (row_type h3 h1 (by decide))), own_far h4 (blk_type h1 h4 (by decide)) 3 v'⟩, ?_, fun k hk => ?_⟩
  · exact (h.hm.trans ⟨hg.os, hg.tape, hg.output, hg.size, fun i hi hn => hg.block i hi (fun e => hn (.inr (.inr (.inr (h.own i e.symm)))))⟩).own' (.inl rfl) 3 v'
  · rcases hat with e | e
    · exact h.own k (by rw [← e]; exact hk)
    · rw [e] at hk
      injection hk with hk
      have := h.hm.size
      omega
theorem row_made' (w : World) (z : Value) (n : Nat) (T : TypeId) {x : Nat} (hx : x = w.heap.size) : (w.alloc (.cells (madeCells #[z] n) T)).rowIs x T n (fun _ => z) := by subst hx; exact World.rowIs_made w z n T
theorem set_made {w : World} {g b n gw gs : Nat} (hg : g = w.heap.size) (hW : w.rowIs gw 24 n (fun _ => .int .u64 0)) (hS : w.rowIs gs 4 n (fun _ => .bool false)) :
    SetIs (w.alloc (.cells #[.pointer (some ⟨b, 0, none⟩), .slice (some ⟨gw, 0, none⟩) n n, .slice (some ⟨gs, 0, none⟩) n n, .slice none 0 0] 91)).drew g b n gw gs (fun _ => 0) (fun _ => false) (.slice none 0 0) [] := by
  subst hg
  exact ⟨Blk.new w _ _, hW.alloc _, hS.alloc _, World.ownsRow_nil _ _ _ _⟩
theorem elig_NewF {b : Nat} {l : List Nd} {w : World} (hT : TR w b l) (ht : Tall l) (A : Option Addr) (n c : Nat) (hosts : List Int) (hI : IsList w .i64 A n c hosts) :
    Calls Try.prog 10 #[.pointer (some ⟨b, 0, none⟩), .slice A n c] w fun e w' => ∃ g gw gs vH, e = .returned (.pointer (some ⟨g, 0, none⟩)) ∧ SetIs w' g b l.length gw gs (wt l hosts) (hs l hosts) vH (picks l hosts) ∧ Below w.heap.size w w' ∧ ∀ k, vH.ownBlock = some k → w.heap.size ≤ k := by
  have hLen : ∀ w', Below w.heap.size w w' → Calls Try.prog 37 #[.pointer (some ⟨b, 0, none⟩)] w' fun e w'' => e = .returned (.int .i64 (l.length : Int)) ∧ w' = w'' := fun w' hx => tr_Len (hT.keep hx)
  have hfew := hT.few
  have hm1 := run_make_row' (P := Try.prog) 31 24 (.int .u64 0) 8 Try.underlying31 Try.infoU64e rfl .i64 .i64 l.length (by omega) (by omega)
  have hm2 := run_make_row' (P := Try.prog) 89 4 (.bool false) 1 Try.underlying89 Try.infoBoole rfl .i64 .i64 l.length (by omega) (by omega)
  obtain ⟨iI, hiI, hzI, hzI1, hzI2⟩ := info_parts Try.infoI
  go_enter Try.func10, Try.ntmps10
  go_upto_region 1 with (fail)
  go_cut [5] (fun s5 wx => ∃ g gw gs, s5 = .pointer (some ⟨g, 0, none⟩) ∧ SetIs wx g b l.length gw gs (fun _ => 0) (fun _ => false) (.slice none 0 0) [] ∧ Below w.heap.size w wx ∧ w.heap.size ≤ g ∧ w.heap.size ≤ gw ∧ w.heap.size ≤ gs)
  case first =>
    go_region_with (go_at_call 37; refine (hLen _ ?hbl).mono ?_; (case hbl => go_grown); rintro e w' ⟨rfl, rfl⟩)
    all_goals
      go_wp2_with fail
      go_meet
      refine ⟨_, _, _, rfl, set_made (n := l.length) (by simp) ?_ ?_, by go_grown, ?_, ?_, ?_⟩
    all_goals first
      | exact (row_made' _ _ _ _ (by simp)).alloc _
      | exact row_made' _ _ _ _ (by simp)
      | exact Nat.le_refl _
      | omega
      | (simp; done)
      | (simp; omega)
  case rest =>
    obtain ⟨g, gw, gs, rfl, hS0, hb0, hg0, hgw0, hgs0⟩ := hcut
    obtain ⟨w1, rfl⟩ : ∃ w1, w1 = wc := ⟨_, rfl⟩
    go_wp2_with fail
    refine (tr_Hosts (hT.keep hb0)).mono ?_; rintro e w3 ⟨A3, c3, rfl, hI3, hfr3, hx3⟩
    have hS3 := hS0.keep hx3
    have hb3 := below_step hb0 hx3
    have hlt1 := hS0.blk.lt
    have hlt2 := hS0.rW.lt
    have hlt3 := hS0.rS.lt
    have hcap := hI3.cap
    have hsm := hI3.small
    have hle := idx_le (isK 4) l
    have hA3 : 0 < (idx (isK 4) l).length → ∀ ad, A3 = some ad → ¬ (ad.block = g ∨ ad.block = gw ∨ ad.block = gs ∨ w3.heap.size ≤ ad.block) := fun h0 ad e => by
      have h1 := hfr3 ad e
      obtain ⟨ad', e', h2, _⟩ := hI3.reads.2 h0
      rw [e] at e'
      injection e' with e'
      subst e'
      omega
    obtain ⟨q, hq⟩ : ∃ q, q = (idx (isK 4) l).length := ⟨_, rfl⟩
    rw [← hq] at hI3 hcap hle hA3
    rw [← hq]
    have HQ := Lib.hid hq.symm
    obtain ⟨n', hn'⟩ : ∃ n', n' = l.length := ⟨_, rfl⟩
    rw [← hn'] at hS3 hle hfew
    have HN := Lib.hid hn'.symm
    have hNS : NS w3 w3 g b n' gw gs (wTo l hosts 0) (sTo l hosts 0) (.slice none 0 0) (picksTo l hosts 0) := by
      have e0 : picksTo l hosts 0 = [] := rfl
      have e1 : wTo l hosts 0 = fun _ => 0 := funext fun j => by unfold wTo; rw [e0]; rfl
      have e2 : sTo l hosts 0 = fun _ => false := funext fun j => by unfold sTo; rw [e0]; rfl
      rw [e0, e1, e2]
      exact ⟨hS3, Mod.refl _ _, fun k hk => by simp [Value.ownBlock] at hk⟩
    have hge : ∀ {wr : World} {W : Nat → Int} {S : Nat → Bool} {vH : Value} {H : List Int}, NS w3 wr g b n' gw gs W S vH H → Below w.heap.size w wr := fun h => below_thenMod hb3 (Nat.le_refl _) h.hm (fun k hk => by have := hb3.size; rcases hk with e | e | e | e <;> omega)
    clear hS0 hS3 hb0 hlt1 hlt2 hlt3 hfr3 hx3 hq hn' hm1 hm2
    go_wp2_with fail
    go_loopg [7, 21] q (fun gk s7 s21 wr => ∃ (m : Nat) (vH : Value), m ≤ q ∧ gk = q - m ∧ s21 = .int .i64 m ∧ NS w3 wr g b n' gw gs (wTo l hosts m) (sTo l hosts m) vH (picksTo l hosts m))
    case atStart => exact ⟨0, _, Nat.zero_le _, rfl, rfl, hNS⟩
    case round =>
      clear hNS
      obtain ⟨m, vH, hm, rfl, rfl, hS⟩ := hrel
      have hb := hge hS
      by_cases hlt : m < q
      · obtain ⟨ad, rfl, _, x0, _⟩ := (list_mod hI3 hS.hm hA3).get hlt
        have hmi : (m : Int) < (q : Int) := by omega
        have hmk : m < (idx (isK 4) l).length := by rw [HQ.out]; exact hlt
        have HST := Lib.hid (picksTo_step l hosts m hmk)
        have hin : (idx (isK 4) l).getD m 0 ∈ idx (isK 4) l := by rw [List.getD_eq_getElem?_getD, List.getElem?_eq_getElem hmk]; exact List.getElem_mem hmk
        obtain ⟨h, hh, hhl, hh4⟩ := mem_idx.1 hin
        rw [hh] at x0 HST
        rw [Int.toNat_natCast] at HST
        clear hin hmk hh
        have hkd : (l.getD h nd0).kind = 4 := by unfold isK at hh4; simpa using hh4
        have HP := Lib.hid (show pk l hosts h = (hosts.contains (h : Int) && decide (0 < (l.getD h nd0).weight)) by unfold pk; rw [hkd]; simp [Bool.and_comm])
        have hC := fun w hI => contains_ints A n c hosts (h : Int) w hI
        have hNd := fun w h' => tr_NodeIn (b := b) (l := l) (w := w) h' h hhl
        have HWB := Lib.hid (tall_head ht h hhl)
        rw [HN.out] at hhl
        have hpl := picksTo_le l hosts m
        rw [HN.out] at hpl
        obtain ⟨x, hx⟩ : ∃ x, x = l.getD h nd0 := ⟨_, rfl⟩
        rw [← hx] at HP hNd HWB
        have HX := Lib.hid hx
        clear hx hh4 hkd
        unfold Nd.val at hNd
        have hfw := fun w => node_weight x w
        obtain ⟨C, hCe⟩ : ∃ C, C = hosts.contains (h : Int) := ⟨_, rfl⟩
        rw [← hCe] at HP hC
        clear hCe
        go_wp2_with fail
        refine (hC _ (hI.keep hb)).mono ?_; rintro e w' ⟨rfl, rfl⟩
        cases C with
        | false =>
          have HE := Lib.hid (show picksTo l hosts (m + 1) = picksTo l hosts m by rw [HST.out, HP.out]; simp)
          have HW0 := Lib.hid (show wTo l hosts (m + 1) = wTo l hosts m from funext fun j => by unfold wTo; rw [HE.out])
          have HS0 := Lib.hid (show sTo l hosts (m + 1) = sTo l hosts m from funext fun j => by unfold sTo; rw [HE.out])
          go_wp2
          go_roundg (q - (m + 1))
          case measure => omega
          case rel => exact ⟨m + 1, vH, by omega, rfl, by go_num, by rw [HE.out, HW0.out, HS0.out]; exact hS⟩
        | true =>
          go_wp2_with fail
          refine (hNd _ (hT.keep hb)).mono ?_; rintro e w5 ⟨rfl, hx5⟩
          have hS5 := hS.keep hx5
          have hb5 := below_step hb hx5
          clear hS hb hx5 x0
          by_cases hw : 0 < x.weight
          · have f1 : decide (0 < x.weight) = true := decide_eq_true hw
            have HE := Lib.hid (show picksTo l hosts (m + 1) = picksTo l hosts m ++ [(h : Int)] by rw [HST.out, HP.out]; simp [hw])
            have HW0 := Lib.hid (show ∀ j, wTo l hosts (m + 1) j = if j = h then x.weight else wTo l hosts m j from fun j => wTo_push HE.out (by rw [HX.out]) j)
            have HS0 := Lib.hid (show ∀ j, sTo l hosts (m + 1) j = if j = h then true else sTo l hosts m j from fun j => sTo_push HE.out j)
            obtain ⟨c0, c1, c2, c3, _⟩ := hS5.set.blk.cells4
            have hrH := hS5.set.rH
            generalize picksTo l hosts m = out at *
            clear hw
            go_wp2_with (at_builtin; go_loud (refine wpList_append_any _ rfl (.tmp 39) (.tmp 41) _ rfl 0 3 iI _ 1 8 Try.underlying23 hiI hzI hzI1 hzI2 rfl (by decide) vH out.length (ints out) rfl (hrH.alloc _) _ (some ⟨w5.heap.size, 0, none⟩) 1 1 [.int .i64 h] rfl (one_reads w5 3 1 [.int .i64 h] rfl) (by intro u hu; simp at hu; subst hu; rfl) (by simp only [maxLen]; omega) (by omega) (by simp) ?_; intro v6 w6 hown6 hg6 hat6; obtain ⟨A6, c6, rfl⟩ := own_slice hown6; have hB6 := (hS5.set.blk.alloc (.cells #[.int .i64 h] 3)).grown hg6 (blk_type (hS5.set.blk.alloc (.cells #[.int .i64 h] 3)) (hrH.alloc (.cells #[.int .i64 h] 3)) (by decide)); obtain ⟨b0, b1, b2, b3, _⟩ := hB6.cells4; obtain ⟨y0, y1, y2, y3⟩ := hB6.free4))
            have hS6 := (hS5.alloc (.cells #[.int .i64 h] 3)).push (h : Int) hg6 hown6 hat6
            have hlo := HWB.out.weight0
            have hhi := HWB.out.weight1
            have kq : IntKind.u64.wrap x.weight = x.weight := by rw [IntKind.wrap_u64]; omega
            clear hS5 hb5 hB6 b0 b1 b2 b3 y0 y1 y2 y3 hg6 hown6 hat6 hrH c0 c1 c2 c3
            generalize w6.setCell ⟨g, 3, none⟩ (.slice A6 (out.length + 1) c6) = wd at *
            have hb6 := hge hS6
            have hhn : (h : Int) < (n' : Int) := by omega
            obtain ⟨c0, c1, c2, c3, _⟩ := hS6.set.blk.cells4
            go_region_held3 (fun w' => w'.cell? ⟨g, 1, none⟩ = some (.slice (some ⟨gw, 0, none⟩) n' n') ∧ w'.cell? ⟨g, 2, none⟩ = some (.slice (some ⟨gs, 0, none⟩) n' n'))
              ((first | exact ⟨c1, c2⟩ | exact ⟨d1, d2⟩ | exact ⟨e1, e2⟩ | exact ⟨j1, j2⟩))
              ((go_at_call 27; refine (hNd _ ?_).mono ?_; exact hT.keep (Below.drew hb6); rintro en v1 ⟨rfl, hx⟩; have hS7 := hS6.keepD hx; obtain ⟨d0, d1, d2, d3, _⟩ := hS7.set.blk.cells4; have r1 := hS7.set.rW.cell hhl; have f1' := hS7.set.rW.frozen h; have hS8 := hS7.turnW (i := h) x.weight; obtain ⟨e0, e1, e2, e3, _⟩ := hS8.set.blk.cells4; have r2 := hS8.set.rS.cell hhl; have f2' := hS8.set.rS.frozen h; have hS9 := hS8.turnS (i := h) true; obtain ⟨j0, j1, j2, j3, _⟩ := hS9.set.blk.cells4))
            go_wp2
            go_roundg (q - (m + 1))
            case measure => omega
            case rel =>
              refine ⟨m + 1, .slice A6 (out.length + 1) c6, by omega, rfl, by go_num, ?_⟩
              rw [HE.out, show wTo l hosts (m + 1) = _ from funext HW0.out, show sTo l hosts (m + 1) = _ from funext HS0.out]
              exact hS9
          · have f1 : decide (0 < x.weight) = false := decide_eq_false hw
            have HE := Lib.hid (show picksTo l hosts (m + 1) = picksTo l hosts m by rw [HST.out, HP.out]; simp [hw])
            have HW0 := Lib.hid (show wTo l hosts (m + 1) = wTo l hosts m from funext fun j => by unfold wTo; rw [HE.out])
            have HS0 := Lib.hid (show sTo l hosts (m + 1) = sTo l hosts m from funext fun j => by unfold sTo; rw [HE.out])
            clear hw
            go_wp2
            go_roundg (q - (m + 1))
            case measure => omega
            case rel => exact ⟨m + 1, vH, by omega, rfl, by go_num, by rw [HE.out, HW0.out, HS0.out]; exact hS5⟩
      · obtain rfl : m = q := by omega
        have e1 : picksTo l hosts m = picks l hosts := by rw [← picksTo_all, HQ.out]
        have W0 := Lib.hid (show ∀ j, j < n' → wTo l hosts m j = if pk l hosts j = true then (l.getD j nd0).weight else 0 from fun j hj => by
          unfold wTo; rw [e1, picks_contains l hosts j (by rw [HN.out]; exact hj)])
        have S0 := Lib.hid (show ∀ j, j < n' → sTo l hosts m j = pk l hosts j from fun j hj => by
          unfold sTo; rw [e1, picks_contains l hosts j (by rw [HN.out]; exact hj)])
        have hS1 := hS.set
        have hfr : ∀ k, vH.ownBlock = some k → w.heap.size ≤ k := fun k hk => Nat.le_trans hb3.size (hS.own k hk)
        rw [e1] at hS1
        generalize wTo l hosts m = W1 at *
        generalize sTo l hosts m = S1 at *
        obtain ⟨PK, hPK⟩ : ∃ PK, PK = picks l hosts := ⟨_, rfl⟩
        rw [← hPK] at hS1
        have HPK := Lib.hid hPK
        clear hPK
        clear e1 hS hge
        have hL := hLen _ hb
        rw [HN.out] at hL
        go_wp2_with fail
        refine hL.mono ?_; rintro e w' ⟨rfl, rfl⟩
        have hSt := hS1.congr (W' := fun j => if n' ≤ j then wt l hosts j else W1 j) (S' := fun j => if n' ≤ j then hs l hosts j else S1 j) (fun j hj => by (try dsimp only); rw [if_neg (by omega)]) (fun j hj => by (try dsimp only); rw [if_neg (by omega)])
        go_wp2_with fail
        go_loopg [8] n' (fun gk s8 wx => ∃ (k : Nat) (z : Int), k ≤ n' ∧ k = gk ∧ z = (k : Int) - 1 ∧ s8 = .int .i64 z ∧ SetIs wx g b n' gw gs (fun j => if k ≤ j then wt l hosts j else W1 j) (fun j => if k ≤ j then hs l hosts j else S1 j) vH PK ∧ Below w.heap.size w wx)
        case atStart => exact ⟨n', _, Nat.le_refl _, rfl, rfl, rfl, hSt, hb⟩
        case round =>
          clear hS1 hSt hb hL
          obtain ⟨k, z, hk, rfl, hz, rfl, hS, hb⟩ := hrel
          by_cases hk0 : k = 0
          · subst hk0
            obtain rfl : z = -1 := by omega
            have hS2 := hS.congr (W' := wt l hosts) (S' := hs l hosts) (fun j hj => by (try dsimp only); rw [if_pos (Nat.zero_le _)]) (fun j hj => by (try dsimp only); rw [if_pos (Nat.zero_le _)])
            clear hz
            go_wp2
            go_ret
            exact ⟨g, gw, gs, vH, rfl, by rw [HN.out, ← HPK.out]; exact hS2, hb, hfr⟩
          · obtain ⟨i, rfl⟩ : ∃ i, k = i + 1 := ⟨k - 1, by omega⟩
            have hi : i < l.length := by rw [HN.out]; omega
            obtain rfl : z = (i : Int) := by omega
            have hi0 : (0 : Int) ≤ (i : Int) := by omega
            rw [← HN.out] at hS
            have hG := elig_gather hT ht hosts hb hgw0 hgs0 hS i hi (fun k' hk' => by
                have := (kid_kind ht hk').1
                (try dsimp only); rw [if_pos (by omega), if_pos (by omega)]; exact ⟨rfl, rfl⟩)
              (fun h4 => by
                (try dsimp only); rw [if_neg (by omega), if_neg (by omega), W0.out i (by omega), S0.out i (by omega), wt_host ht hosts hi h4, hs_host ht hosts hi h4]; exact ⟨rfl, rfl⟩)
              (fun h4 => by
                have hp : pk l hosts i = false := by
                  cases hp : pk l hosts i with
                  | false => rfl
                  | true => exact absurd (pk_host hp).1 h4
                (try dsimp only); rw [if_neg (by omega), if_neg (by omega), W0.out i (by omega), S0.out i (by omega), hp]; exact ⟨rfl, rfl⟩)
            clear hz
            go_wp2_with fail
            refine hG.mono ?_; rintro e w5 ⟨rfl, hS5, hb5⟩
            have hS6 := hS5.congr (W' := fun j => if i ≤ j then wt l hosts j else W1 j) (S' := fun j => if i ≤ j then hs l hosts j else S1 j) (fun j hj => by
                (try dsimp only)
                by_cases e : j = i
                · rw [e, if_pos (Nat.le_refl _), if_pos rfl]
                · rw [if_neg e]
                  by_cases e2 : i + 1 ≤ j
                  · rw [if_pos e2, if_pos (by omega)]
                  · rw [if_neg e2, if_neg (by omega)]) (fun j hj => by
                (try dsimp only)
                by_cases e : j = i
                · rw [e, if_pos (Nat.le_refl _), if_pos rfl]
                · rw [if_neg e]
                  by_cases e2 : i + 1 ≤ j
                  · rw [if_pos e2, if_pos (by omega)]
                  · rw [if_neg e2, if_neg (by omega)])
            rw [HN.out] at hS6
            clear hS5 hS hG
            go_wp2
            go_roundg i
            case measure => omega
            case rel => exact ⟨i, _, by omega, rfl, rfl, by go_num, hS6, hb5⟩
theorem elig_New {b : Nat} {l : List Nd} {w : World} (hT : TR w b l) (ht : Tall l) (A : Option Addr) (n c : Nat) (hosts : List Int) (hI : IsList w .i64 A n c hosts) :
    Calls Try.prog 10 #[.pointer (some ⟨b, 0, none⟩), .slice A n c] w fun e w' => ∃ g gw gs vH, e = .returned (.pointer (some ⟨g, 0, none⟩)) ∧ SetIs w' g b l.length gw gs (wt l hosts) (hs l hosts) vH (picks l hosts) ∧ Below w.heap.size w w' :=
  (elig_NewF hT ht A n c hosts hI).mono fun e w' ⟨g, gw, gs, vH, h1, h2, h3, _⟩ => ⟨g, gw, gs, vH, h1, h2, h3⟩
end Go.Proofs.Ytblbgafadadbmaa
end
section
/- The law's picked, below, has; what a set tells: Weight, Has, List. -/
set_option linter.unusedVariables false
namespace Go.Proofs.Ytblbgafadadbmaa
open Go.RowKit
set_option maxHeartbeats 4000000
set_option maxRecDepth 100000
/-- Is a node another one, or below it, within so many steps? -/
def belF (l : List Nd) (a : Int) : Nat → Int → Bool
  | 0, _ => false
  | f + 1, i => if 0 ≤ i ∧ i < l.length then (if i = a then true else belF l a f (ndAt l i).above) else false
theorem bel_up {l : List Nd} (h : Tall l) (a : Int) (ha0 : 0 ≤ a) (ha1 : a < l.length) : ∀ (f : Nat) (i : Int), (0 ≤ i ∧ i < l.length → (ndAt l i).kind ≤ f) → belF l a f i = (up l (ndAt l a).kind i == a)
  | 0, i, hk => by
    have hn : ¬ (0 ≤ i ∧ i < l.length) := fun hi => by
      have := hk hi
      have := (tall_head h i.toNat (by omega)).kind0
      rw [← ndAt_in hi.1] at this
      omega
    rw [belF, up_out l _ i (by omega)]
    symm; rw [beq_eq_false_iff_ne]; omega
  | f + 1, i, hk => by
    rw [belF]
    by_cases hi : 0 ≤ i ∧ i < l.length
    · rw [if_pos hi]
      have hkf := hk hi
      have hd := tall_head h i.toNat (by omega)
      rw [← ndAt_in hi.1] at hd
      have hk0 := hd.kind0
      by_cases e : i = a
      · subst e
        rw [if_pos rfl, up_hit l _ i hi.1 hi.2 rfl]; simp
      · rw [if_neg e]
        have hab : 0 ≤ (ndAt l i).above ∧ (ndAt l i).above < l.length → (ndAt l (ndAt l i).above).kind = (ndAt l i).kind - 1 := fun hr => by
          by_cases h2 : 1 < (ndAt l i).kind
          · have hb := tall_below h i.toNat (by omega) (by rw [← ndAt_in hi.1]; exact h2)
            rw [← ndAt_in hi.1] at hb
            exact hb.2.2
          · have := (hd.level (by omega)).2
            omega
        rw [bel_up h a ha0 ha1 f _ (fun hr => by rw [hab hr]; omega)]
        by_cases hka : (ndAt l i).kind = (ndAt l a).kind
        · rw [up_hit l _ i hi.1 hi.2 hka]
          have h1 : (i == a) = false := by rw [beq_eq_false_iff_ne]; exact e
          rw [h1, beq_eq_false_iff_ne]
          by_cases hr : 0 ≤ (ndAt l i).above ∧ (ndAt l i).above < l.length
          · have h5 := hab hr
            have h6 := (tall_head h (ndAt l i).above.toNat (by omega)).kind1
            rw [← ndAt_in hr.1] at h6
            rw [up_lower h _ 4 _ hr.1 hr.2 h6 (by omega)]; omega
          · rw [up_out l _ _ (by omega)]; omega
        · rw [up_step l (tall_rises h) _ i hi.1 hi.2 hka]
    · rw [if_neg hi, up_out l _ i (by omega)]
      symm; rw [beq_eq_false_iff_ne]; omega
theorem bel_four {l : List Nd} (h : Tall l) (a : Int) (ha0 : 0 ≤ a) (ha1 : a < l.length) (i : Int) : belF l a 4 i = (up l (ndAt l a).kind i == a) :=
  bel_up h a ha0 ha1 4 i (fun hi => by
    have := (tall_head h i.toNat (by omega)).kind1
    rwa [← ndAt_in hi.1] at this)
theorem law23_below {A : Option Addr} {n c : Nat} {l : List Nd} {w : World} (h : IsNodes w A n c l) (i a : Int) : Calls Try.prog 65 #[.slice A n c, .int .i64 i, .int .i64 a] w fun e w' => e = .returned (.bool (belF l a 4 i)) ∧ w = w' := by
  have hcap := h.cap
  have hsm := h.small
  have hlen := h.len
  subst hlen
  go_enter Try.func65, Try.ntmps65
  go_wp2
  go_loopg [1, 7] 4 (fun gg s1 s7 wr => ∃ (k : Int) (m : Nat), m ≤ 4 ∧ gg = 4 - m ∧ s1 = .int .i64 k ∧ s7 = .int .i64 m ∧ w = wr ∧ Hid (belF l a (4 - m) k = belF l a 4 i))
  case atStart => exact ⟨i, 0, Nat.zero_le _, rfl, rfl, rfl, rfl, Lib.hid rfl⟩
  case round =>
    obtain ⟨k, m, hm, rfl, rfl, rfl, rfl, HU⟩ := hrel
    by_cases hm4 : m < 4
    · have gm : decide ((m : Int) < 4) = true := decide_eq_true (by omega)
      obtain ⟨f, hf⟩ : ∃ f, 4 - m = f + 1 := ⟨3 - m, by omega⟩
      have hf2 : 4 - (m + 1) = f := by omega
      rw [hf, belF] at HU
      by_cases h0 : 0 ≤ k
      · have g0 : decide (0 ≤ k) = true := decide_eq_true h0
        by_cases h1 : k < l.length
        · have g1 : decide (k < (l.length : Int)) = true := decide_eq_true h1
          rw [if_pos ⟨h0, h1⟩] at HU
          by_cases hx : k = a
          · have g2 : (k == a) = true := by rw [beq_iff_eq]; exact hx
            rw [if_pos hx] at HU
            have HE := Lib.hid HU.out.symm
            clear HU hx hf hf2
            go_wp2
            go_ret
            exact ⟨by rw [HE.out]; rfl, rfl⟩
          · have g2 : (k == a) = false := by rw [beq_eq_false_iff_ne]; exact hx
            rw [if_neg hx, ← hf2] at HU
            have hat := h.at_ (k := k.toNat) (by omega)
            have e : ndAt l k = l.getD k.toNat nd0 := by unfold ndAt; rw [if_pos h0]
            rw [← e] at hat
            obtain ⟨ad, rfl, hbk, d0, d1, d2, d3, d4, d5, d6⟩ := hat
            clear e
            generalize ndAt l k = x at *
            clear hx hf hf2
            go_wp2
            go_roundg (4 - (m + 1))
            case measure => omega
            case rel => exact ⟨x.above, m + 1, by omega, rfl, rfl, by go_num, rfl, HU⟩
        · have g1 : decide (k < (l.length : Int)) = false := decide_eq_false h1
          rw [if_neg (by omega)] at HU
          clear hf hf2
          go_wp2
          go_ret
          exact ⟨by rw [← HU.out]; rfl, rfl⟩
      · have g0 : decide (0 ≤ k) = false := decide_eq_false h0
        rw [if_neg (by omega)] at HU
        clear hf hf2
        go_wp2
        go_ret
        exact ⟨by rw [← HU.out]; rfl, rfl⟩
    · obtain rfl : m = 4 := by omega
      rw [show 4 - 4 = 0 from rfl, belF] at HU
      go_wp2
      go_ret
      exact ⟨by rw [← HU.out]; rfl, rfl⟩
theorem law23_picked {A A' : Option Addr} {n c n' c' : Nat} {l : List Nd} {hosts : List Int} {w : World} (h : IsNodes w A n c l) (h' : IsList w .i64 A' n' c' hosts) (ht : Tall l) (i : Nat) (hi : i < n) : Calls Try.prog 64 #[.slice A n c, .slice A' n' c', .int .i64 i] w fun e w' => e = .returned (.bool (pk l hosts i)) ∧ w = w' := by
  have hcap := h.cap
  have hsm := h.small
  have hcap' := h'.cap
  have hsm' := h'.small
  have hlen := Lib.hid h.len
  have hlen' := Lib.hid h'.len
  have g0 : decide ((i : Int) < 0) = false := decide_eq_false (by omega)
  have g1 : decide ((n : Int) ≤ (i : Int)) = false := decide_eq_false (by omega)
  have hii : (i : Int) < (n : Int) := by omega
  obtain ⟨ad, rfl, hbk, d0, d1, d2, d3, d4, d5, d6⟩ := h.at_ hi
  have HW := Lib.hid (tall_head ht i (by rw [hlen.out]; exact hi)).weight0
  obtain ⟨R, hR⟩ : ∃ R, R = pk l hosts i := ⟨_, rfl⟩
  rw [← hR]
  have HR := Lib.hid (show R = ((l.getD i nd0).kind == 4 && decide (0 < (l.getD i nd0).weight) && hosts.contains (i : Int)) from hR)
  clear hR
  generalize l.getD i nd0 = x at *
  by_cases h4 : x.kind = 4
  · have g2 : (x.kind != 4) = false := by simp [h4]
    by_cases hw : x.weight = 0
    · have g3 : (x.weight == 0) = true := by simp [hw]
      have HE := Lib.hid (show R = false by rw [HR.out, hw]; simp)
      clear hw h4
      go_enter Try.func64, Try.ntmps64
      go_wp2
      go_ret
      exact ⟨by rw [HE.out]; rfl, rfl⟩
    · have g3 : (x.weight == 0) = false := by simp [hw]
      have HE := Lib.hid (show R = hosts.contains (i : Int) by
        have := HW.out
        have h5 : 0 < x.weight := by omega
        rw [HR.out, h4]; simp [h5])
      clear hw h4
      go_enter Try.func64, Try.ntmps64
      go_wp2
      go_loopg [7] n' (fun gg s7 wr => ∃ m : Nat, m ≤ n' ∧ gg = n' - m ∧ s7 = .int .i64 m ∧ w = wr ∧ Hid (∀ j, j < m → ¬ hosts.getD j 0 = i))
      case atStart => exact ⟨0, Nat.zero_le _, rfl, rfl, rfl, Lib.hid (fun j hj => absurd hj (Nat.not_lt_zero _))⟩
      case round =>
        obtain ⟨m, hm, rfl, rfl, rfl, HN⟩ := hrel
        by_cases hlt : m < n'
        · obtain ⟨ad', rfl, _, x0, _⟩ := h'.get hlt
          have hmi : (m : Int) < (n' : Int) := by omega
          have hml : m < hosts.length := by rw [hlen'.out]; exact hlt
          have HH := Lib.hid (show hosts.getD m 0 = i → R = true from fun e => by
            rw [HE.out, List.contains_iff_mem, ← e, List.getD_eq_getElem?_getD, List.getElem?_eq_getElem hml]
            exact List.getElem_mem hml)
          have HM := Lib.hid (show ¬ hosts.getD m 0 = i → ∀ j, j < m + 1 → ¬ hosts.getD j 0 = i from fun h j hj => (by
            by_cases e : j = m
            · rw [e]; exact h
            · exact HN.out j (by omega)))
          generalize hosts.getD m 0 = z at *
          by_cases hz : z = i
          · have g4 : (z == (i : Int)) = true := by rw [beq_iff_eq]; exact hz
            have HX := Lib.hid (HH.out hz)
            clear HH HM hz
            go_wp2
            go_ret
            exact ⟨by rw [HX.out]; rfl, rfl⟩
          · have g4 : (z == (i : Int)) = false := by rw [beq_eq_false_iff_ne]; exact hz
            have HX := Lib.hid (HM.out hz)
            clear HH HM hz
            go_wp2
            go_roundg (n' - (m + 1))
            case measure => omega
            case rel => exact ⟨m + 1, by omega, rfl, by go_num, rfl, HX⟩
        · obtain rfl : m = n' := by omega
          have HX := Lib.hid (show R = false by
            rw [HE.out]
            apply Bool.eq_false_iff.2
            intro hc
            rw [List.contains_iff_mem] at hc
            obtain ⟨j, hj, e⟩ := List.getElem_of_mem hc
            refine HN.out j (by rw [← hlen'.out]; exact hj) ?_
            rw [List.getD_eq_getElem?_getD, List.getElem?_eq_getElem hj]; exact e)
          go_wp2
          go_ret
          exact ⟨by rw [HX.out]; rfl, rfl⟩
  · have g2 : (x.kind != 4) = true := by simp [h4]
    have HE := Lib.hid (show R = false by rw [HR.out]; simp [h4])
    clear h4
    go_enter Try.func64, Try.ntmps64
    go_wp2
    go_ret
    exact ⟨by rw [HE.out]; rfl, rfl⟩
theorem law23_has {A A' : Option Addr} {n c n' c' : Nat} {l : List Nd} {hosts : List Int} {w : World} (h : IsNodes w A n c l) (h' : IsList w .i64 A' n' c' hosts) (ht : Tall l) (i : Nat) (hi : i < n) : Calls Try.prog 41 #[.slice A n c, .slice A' n' c', .int .i64 i] w fun e w' => e = .returned (.bool (hs l hosts i)) ∧ w = w' := by
  have hcap := h.cap
  have hsm := h.small
  have hlen := Lib.hid h.len
  have HA := Lib.hid (hs_any ht hosts 4 i (by rw [hlen.out]; exact hi) (by have := (tall_head ht i (by rw [hlen.out]; exact hi)).kind0; omega))
  obtain ⟨R, hR⟩ : ∃ R, R = hs l hosts i := ⟨_, rfl⟩
  rw [← hR] at HA
  rw [← hR]
  clear hR
  have P := fun k hk => law23_picked h h' ht k hk
  have B := fun k : Int => law23_below h k (i : Int)
  have HB := Lib.hid (fun k : Int => bel_four ht (i : Int) (by omega) (by rw [hlen.out]; omega) k)
  go_enter Try.func41, Try.ntmps41
  go_wp2
  go_loopg [7] n (fun gg s7 wr => ∃ m : Nat, m ≤ n ∧ gg = n - m ∧ s7 = .int .i64 m ∧ w = wr ∧ Hid (∀ j, j < m → (pk l hosts j && belF l i 4 j) = false))
  case atStart => exact ⟨0, Nat.zero_le _, rfl, rfl, rfl, Lib.hid (fun j hj => absurd hj (Nat.not_lt_zero _))⟩
  case round =>
    obtain ⟨m, hm, rfl, rfl, rfl, HN⟩ := hrel
    by_cases hlt : m < n
    · have hmi : (m : Int) < (n : Int) := by omega
      have P1 := P m hlt
      have B1 := B m
      have HH := Lib.hid (show (pk l hosts m && belF l i 4 m) = true → R = true from fun e => by
        rw [HA.out, List.any_eq_true]
        refine ⟨m, List.mem_range.2 (by rw [hlen.out]; exact hlt), ?_⟩
        rw [HB.out, ndAt_nat] at e
        exact e)
      have HM := Lib.hid (show (pk l hosts m && belF l i 4 m) = false → ∀ j, j < m + 1 → (pk l hosts j && belF l i 4 j) = false from fun h j hj => (by
        by_cases e : j = m
        · rw [e]; exact h
        · exact HN.out j (by omega)))
      generalize pk l hosts m = p at *
      generalize belF l (i : Int) 4 (m : Int) = q at *
      clear P B
      cases p with
      | true =>
        cases q with
        | true =>
          have HX := Lib.hid (HH.out rfl)
          go_wp2_with fail
          refine P1.mono ?_; rintro e w' ⟨rfl, rfl⟩
          go_wp2_with fail
          refine B1.mono ?_; rintro e w' ⟨rfl, rfl⟩
          go_wp2
          go_ret
          exact ⟨by rw [HX.out]; rfl, rfl⟩
        | false =>
          have HX := Lib.hid (HM.out rfl)
          go_wp2_with fail
          refine P1.mono ?_; rintro e w' ⟨rfl, rfl⟩
          go_wp2_with fail
          refine B1.mono ?_; rintro e w' ⟨rfl, rfl⟩
          go_wp2
          go_roundg (n - (m + 1))
          case measure => omega
          case rel => exact ⟨m + 1, by omega, rfl, by go_num, rfl, HX⟩
      | false =>
        have HX := Lib.hid (HM.out rfl)
        go_wp2_with fail
        refine P1.mono ?_; rintro e w' ⟨rfl, rfl⟩
        go_wp2
        go_roundg (n - (m + 1))
        case measure => omega
        case rel => exact ⟨m + 1, by omega, rfl, by go_num, rfl, HX⟩
    · obtain rfl : m = n := by omega
      have HX := Lib.hid (show R = false by
        rw [HA.out, List.any_eq_false]
        intro j hj
        have := HN.out j (by rw [← hlen.out]; exact List.mem_range.1 hj)
        rw [HB.out, ndAt_nat] at this
        rw [this]; simp)
      go_wp2
      go_ret
      exact ⟨by rw [HX.out]; rfl, rfl⟩
end Go.Proofs.Ytblbgafadadbmaa
end
