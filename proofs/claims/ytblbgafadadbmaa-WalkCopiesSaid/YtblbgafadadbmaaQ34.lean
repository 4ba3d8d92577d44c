/- Lemmas for the claim's proof: EligP WalkX WalkO WalkP1 Held WalkY. -/
import Derived.Deep.DeepCutAuto
import Derived.Deep.CutBlock
import Derived.Test.YtblbgafadadbmaaQ04
import Derived.Test.YtblbgafadadbmaaQ13
import Derived.Test.YtblbgafadadbmaaQ16
import Derived.Test.YtblbgafadadbmaaQ22
import Derived.Test.YtblbgafadadbmaaQ23
import Derived.Test.YtblbgafadadbmaaQ27
import Derived.Test.YtblbgafadadbmaaQ28
import Derived.Test.YtblbgafadadbmaaQ33
section
/- Without; EligWithout. -/
set_option linter.unusedVariables false
namespace Go.Proofs.Ytblbgafadadbmaa
open Go.RowKit
set_option maxHeartbeats 8000000
set_option maxRecDepth 100000
theorem asks_below {w0 : World} {b g sb nb : Nat} {l : List Nd} (ht : Tall l) {A : Option Addr} {n c : Nat} {nodes : List Int} (h : COut b g sb nb l A n c nodes w0) :
    AsksI 79 #[.pointer (some ⟨nb, 0, none⟩), .pointer (some ⟨sb, 0, none⟩)] (fun h => nodes.any (outN l h)) (fun W => Below w0.heap.size w0 W) := by
  obtain ⟨e, k, c'⟩ := asks_out b g sb nb l ht A n c nodes
  exact ⟨e, fun W W' h1 h2 => below_step h1 h2, fun W z hW => c' W z (k w0 W h hW)⟩
theorem deleteFunc_own (g : FuncId) (lb : Array Value) (p : Int → Bool) (w0 : World) (hp : AsksI g lb p (fun W => Below w0.heap.size w0 W)) (v : Value) (l : List Int) (w : World)
    (hown : w.ownsRow w0.heap.size 3 1 v l.length (ints l)) (hwf : ∀ z ∈ l, (Lit.int .i64 z).wf = true) (hn : l.length ≤ 1024) (hb : Below w0.heap.size w0 w) :
    Calls Try.prog 77 #[v, .func (.func g) #[] lb] w fun e w' => ∃ A c, e = .returned (.slice A (l.filter fun x => !p x).length c) ∧
      IsList w' .i64 A (l.filter fun x => !p x).length c (l.filter fun x => !p x) ∧ Below w0.heap.size w0 w' := by
  obtain ⟨A, c, rfl, hI, _⟩ := own_list hown hwf (by omega)
  by_cases h : ∃ k, k < l.length ∧ p (l.getD k 0) = true ∧ ∀ j, j < k → p (l.getD j 0) = false
  · obtain ⟨k, hk, hpk, hpn⟩ := h
    obtain ⟨r, c', e, hr, _⟩ := hown.form (by omega)
    injection e with e1 e2 e3
    subst e1
    exact (deleteFunc_some g lb p w0 hp r l.length c w0.heap.size l w hr hown hwf hn hb k hk hpk hpn).mono fun e w' ⟨h1, h2, h3⟩ => ⟨_, _, h1, h2, h3⟩
  · have hno : ∀ j, j < l.length → p (l.getD j 0) = false := by
      intro j
      induction j using Nat.strongRecOn with
      | _ j ih =>
        intro hj
        cases hpj : p (l.getD j 0) with
        | false => rfl
        | true => exact absurd ⟨j, hj, hpj, fun i hi => ih i hi (by omega)⟩ h
    have hf : (l.filter fun x => !p x) = l := by
      rw [List.filter_eq_self]
      intro x hx
      obtain ⟨j, hj, rfl⟩ := List.getElem_of_mem hx
      have := hno j hj
      rw [List.getD_eq_getElem?_getD, List.getElem?_eq_getElem hj] at this
      simp only [Option.getD_some] at this
      rw [this]; rfl
    rw [hf]
    exact (deleteFunc_none g lb p _ A l.length c l w hI hb hp (idxP_miss hno)).mono fun e w' ⟨h1, h2⟩ => ⟨A, c, h1, hI.keep h2, below_step hb h2⟩
section
variable {w : World} {g b gw gs : Nat} {W : Nat → Int} {S : Nat → Bool} {vH : Value} {H : List Int} {l : List Nd}
theorem set_WithoutF (hT : TR w b l) (ht : Tall l) (h : SetIs w g b l.length gw gs W S vH H) (hwf : ∀ z ∈ H, (Lit.int .i64 z).wf = true) (hl : H.length ≤ 1024) (A : Option Addr) (n c : Nat) (nodes : List Int) (hI : IsList w .i64 A n c nodes) :
    Calls Try.prog 54 #[.pointer (some ⟨g, 0, none⟩), .slice A n c] w fun e w' => ∃ g' gw' gs' vH', e = .returned (.pointer (some ⟨g', 0, none⟩)) ∧
      SetIs w' g' b l.length gw' gs' (wt l (H.filter fun h => !(nodes.any (outN l h)))) (hs l (H.filter fun h => !(nodes.any (outN l h)))) vH' (picks l (H.filter fun h => !(nodes.any (outN l h)))) ∧ Below w.heap.size w w' ∧ ∀ k, vH'.ownBlock = some k → w.heap.size ≤ k := by
  have hx1 : Below w.heap.size w (w.alloc (.cells #[.pointer (some ⟨g, 0, none⟩)] 29)) := (Below.refl _ _).alloc (Nat.le_refl _) _
  have hx2 : Below w.heap.size w ((w.alloc (.cells #[.pointer (some ⟨g, 0, none⟩)] 29)).alloc (.cells #[.slice A n c] 23)) := hx1.alloc hx1.size _
  have hPs := (Blk.new w 29 #[.pointer (some ⟨g, 0, none⟩)]).alloc (.cells #[.slice A n c] 23)
  have hPn := Blk.new (w.alloc (.cells #[.pointer (some ⟨g, 0, none⟩)] 29)) 23 #[.slice A n c]
  have hsz : (w.alloc (.cells #[.pointer (some ⟨g, 0, none⟩)] 29)).heap.size = w.heap.size + 1 := by simp
  rw [hsz] at hPn
  obtain ⟨K, hK⟩ : ∃ K, K = H.filter fun h => !(nodes.any (outN l h)) := ⟨_, rfl⟩
  rw [← hK]
  have HK := Lib.hid hK
  clear hK
  go_enter Try.func54, Try.ntmps54
  go_upto_region 1 with (fail)
  have hT1 := hT.keep hx2
  have hS1 := h.keep hx2
  have hI1 := hI.keep hx2
  clear hsz hx1 hT h hI
  generalize ((w.alloc (.cells #[.pointer (some ⟨g, 0, none⟩)] 29)).alloc (.cells #[.slice A n c] 23)) = u at *
  have cs := hPs.cells1.1
  have cn := hPn.cells1.1
  obtain ⟨cg, _, _, _, _⟩ := hS1.blk.cells4
  have hN := set_none hS1
  go_wp2_with fail
  refine hN.mono ?_; rintro e w' ⟨rfl, rfl⟩
  have hd0 : Below u.heap.size u u.drew := (Below.refl _ _).drew
  have hA := asks_below (w0 := u.drew) ht (b := b) (g := g) (sb := w.heap.size) (nb := w.heap.size + 1) (A := A) (n := n) (c := c) (nodes := nodes) ⟨hT1.keep hd0, cell_keep cg hd0, cell_keep cs hd0, cell_keep cn hd0, hI1.keep hd0⟩
  clear hN
  go_wp2_with fail
  go_region_held3 (fun w' => w'.cell? ⟨w.heap.size, 0, none⟩ = some (.pointer (some ⟨g, 0, none⟩)) ∧ w'.cell? ⟨g, 0, none⟩ = some (.pointer (some ⟨b, 0, none⟩)) ∧ Below u.heap.size u w')
    (exact ⟨cell_keep cs (by assumption), cell_keep cg (by assumption), by assumption⟩)
    (first
      | (go_at_call 78; refine (set_ListOwn (hS1.keep hd0) hwf hl).mono ?_; rintro e w1 ⟨v1, rfl, hown1, hx1⟩; have hb1 := below_step hd0 hx1)
      | (go_at_call 77; refine (deleteFunc_own _ _ _ u.drew hA v1 H w1 hown1 hwf hl hx1).mono ?_; rintro e w2 ⟨A2, c2, rfl, hI2, hb2'⟩; have hb2 : Below u.heap.size u w2 := ⟨hb2'.os, hb2'.tape, hb2'.output, hb2'.size, hb2'.block⟩)
      | (go_at_call 10; refine (elig_NewF (hT1.keep hb2) ht _ _ _ _ hI2).mono ?_; rintro e w3 ⟨g3, gw3, gs3, vH3, rfl, hS3, hx3, hf3⟩; have hb3 := below_step hb2 hx3; have hsz3 := hb2.size))
  all_goals
    go_wp2
    go_ret
    exact ⟨g3, gw3, gs3, vH3, rfl, by rw [HK.out]; exact hS3, below_step hx2 hb3, fun k hk => Nat.le_trans hx2.size (Nat.le_trans hsz3 (hf3 k hk))⟩
theorem set_Without (hT : TR w b l) (ht : Tall l) (h : SetIs w g b l.length gw gs W S vH H) (hwf : ∀ z ∈ H, (Lit.int .i64 z).wf = true) (hl : H.length ≤ 1024) (A : Option Addr) (n c : Nat) (nodes : List Int) (hI : IsList w .i64 A n c nodes) :
    Calls Try.prog 54 #[.pointer (some ⟨g, 0, none⟩), .slice A n c] w fun e w' => ∃ g' gw' gs' vH', e = .returned (.pointer (some ⟨g', 0, none⟩)) ∧
      SetIs w' g' b l.length gw' gs' (wt l (H.filter fun h => !(nodes.any (outN l h)))) (hs l (H.filter fun h => !(nodes.any (outN l h)))) vH' (picks l (H.filter fun h => !(nodes.any (outN l h)))) ∧ Below w.heap.size w w' :=
  (set_WithoutF hT ht h hwf hl A n c nodes hI).mono fun e w' ⟨g', gw', gs', vH', h1, h2, h3, _⟩ => ⟨g', gw', gs', vH', h1, h2, h3⟩
end
end Go.Proofs.Ytblbgafadadbmaa
end
section
/- Walker.Copies. -/
set_option linter.unusedVariables false
namespace Go.Proofs.Ytblbgafadadbmaa
open Go.RowKit
set_option maxHeartbeats 4000000
set_option maxRecDepth 100000
theorem SetIs.grown {w w' : World} {g b n gw gs base m : Nat} {W : Nat → Int} {S : Nat → Bool} {vH v : Value} {H : List Int} {xs : List Value} (h : SetIs w g b n gw gs W S vH H) (hown : w.ownsRow base 3 1 v m xs) (hg : w.grownBy w' v.ownBlock) (ha : apart v vH) : SetIs w' g b n gw gs W S vH H :=
  ⟨h.blk.grown hg (blk_type h.blk hown (by decide)), h.rW.of_block (hg.block gw h.rW.lt (row_own h.rW hown (by decide))), h.rS.of_block (hg.block gs h.rS.lt (row_own h.rS hown (by decide))), h.rH.kept hg ha.symm.kept⟩
/-- How many copies there are. -/
def wantI (many : Int) (d : Nat) : Int := if many < 0 then 0 else if many < 8 then (if many < d then many else d) else if 8 < d then 8 else d
/-- A set that is left, the hosts picked and the nodes used, in memory. -/
structure CX (w0 w wr : World) (bt bw g : Nat) (l : List Nd) (hosts : List Int) (kd frm key : Int) (a b vH : Value) (gw gs : Nat) (K out : List Int) : Prop where
  hS : SetIs wr g bt l.length gw gs (wt l K) (hs l K) vH (picks l K)
  ci : CI l hosts kd frm key K out
  ra : wr.ownsRow w.heap.size 3 1 a out.length (ints out)
  rb : wr.ownsRow w.heap.size 3 1 b out.length (ints (out.map (up l kd)))
  ab : apart a b
  ah : apart a vH
  bh : apart b vH
  hw : WW w0 wr bw (kw 140 5)
  hM : Mod (· = bw) w wr
section
variable {w0 w wr w' : World} {bt bw g gw gs : Nat} {l : List Nd} {hosts : List Int} {kd frm key : Int} {a b a' b' vH : Value} {K out : List Int}
theorem up_wf {l : List Nd} (ht : Tall l) (hl : l.length ≤ 1024) {kd : Int} (k2 : 2 ≤ kd) (k4 : kd ≤ 4) {out : List Int} (h : ∀ c ∈ out, ∃ j : Nat, c = j ∧ j < l.length ∧ (l.getD j nd0).kind = 4) : ∀ z ∈ out.map (up l kd), (Lit.int .i64 z).wf = true := fun z hz => by
  obtain ⟨c, hc, rfl⟩ := List.mem_map.1 hz
  obtain ⟨j, rfl, hj, hk⟩ := h c hc
  obtain ⟨u, e, hu, _⟩ := up_kind_of ht k2 k4 hj hk
  rw [e]
  simp [Lit.wf, IntKind.min, IntKind.max, IntKind.signed, IntKind.bits]
  omega
theorem out_wf {l : List Nd} (hl : l.length ≤ 1024) {out : List Int} (h : ∀ c ∈ out, ∃ j : Nat, c = j ∧ j < l.length ∧ (l.getD j nd0).kind = 4) : ∀ z ∈ out, (Lit.int .i64 z).wf = true := fun z hz => by
  obtain ⟨j, rfl, hj, hk⟩ := h z hz
  simp [Lit.wf, IntKind.min, IntKind.max, IntKind.signed, IntKind.bits]
  omega
theorem walk_Copies (hT : TR w0 bt l) (ht : Tall l) (hl : l.length ≤ 1024) (hS : SetIs w g bt l.length gw gs (wt l hosts) (hs l hosts) vH (picks l hosts)) (hw : WW w0 w bw (kw 140 5)) (k0 : 0 ≤ key) (k1 : key < 18446744073709551616) (many : Int) (k2 : 2 ≤ kd) (k4 : kd ≤ 4) :
    Calls Try.prog 24 #[.pointer (some ⟨bw, 0, none⟩), .pointer (some ⟨g, 0, none⟩), .int .i64 frm, .int .u64 key, .int .i64 many, .int .i64 kd] w fun e w' =>
      ∃ A c K out, e = .returned (.slice A out.length c) ∧ IsList w' .i64 A out.length c out ∧ (∀ ad, A = some ad → w.heap.size ≤ ad.block) ∧ CI l hosts kd frm key K out ∧ (out.length : Int) = wantI many (dn l hosts kd) ∧ WW w0 w' bw (kw 140 5) ∧ Mod (· = bw) w w' := by
  have hlt := hw.tab.lt
  obtain ⟨iI, hiI, hzI, hzI1, hzI2⟩ := info_parts Try.infoI
  have hst : CX w0 w w bt bw g l hosts kd frm key (.slice none 0 0) (.slice none 0 0) vH gw gs hosts [] := ⟨hS, CI.start l hosts kd frm key, World.ownsRow_nil _ _ _ _, World.ownsRow_nil _ _ _ _, apart_nil _, apart_nil _, apart_nil _, hw, Mod.refl _ _⟩
  go_enter Try.func24, Try.ntmps24
  go_wp2_with fail
  go_loopg [1, 13, 14] (9 - 0) (fun gk s1 s13 s14 wr => ∃ (g' gw' gs' : Nat) (vH' : Value) (K out : List Int), gk = 9 - out.length ∧ s1 = .pointer (some ⟨g', 0, none⟩) ∧ out.length ≤ 8 ∧ (out.length = 0 ∨ (out.length : Int) ≤ many) ∧ CX w0 w wr bt bw g' l hosts kd frm key s13 s14 vH' gw' gs' K out)
  case atStart => exact ⟨g, gw, gs, vH, hosts, [], rfl, rfl, by simp, .inl rfl, hst⟩
  case round =>
    clear hst
    obtain ⟨g', gw', gs', vH', K, out, rfl, rfl, ho8, hom, hX⟩ := hrel
    have hdn := hX.ci.dn
    obtain ⟨AO, cO, rfl, hIO, hfO⟩ := own_list hX.ra (out_wf hl hX.ci.mem) (by omega)
    obtain ⟨AU, cU, rfl, hIU, _⟩ := own_list hX.rb (up_wf ht hl k2 k4 hX.ci.mem) (by omega)
    have hcO := hIO.cap
    have hsO := hIO.small
    by_cases hgo : (out.length : Int) < many ∧ (out.length : Int) < 8
    · have g1 : decide ((out.length : Int) < min many 8) = true := decide_eq_true (by omega)
      go_wp2_with fail
      refine (walk_Host2 hT ht hX.hS hX.hw (by decide) (by decide) frm key k0 k1).mono ?_; rintro e w1 ⟨rfl, hw1, hm1⟩
      by_cases hneg : hostI l (wt l K) (hs l K) frm 140 5 key < 0
      · have g2 : decide (hostI l (wt l K) (hs l K) frm 140 5 key < 0) = true := decide_eq_true hneg
        have h0 := dn_none (kd := kd) ht hl hneg
        go_wp2
        go_ret
        exact ⟨AO, cO, K, out, rfl, list_mod hIO hm1 (fun _ ad e => by have := hfO ad e; omega), hfO, hX.ci, by unfold wantI; (repeat' split) <;> omega, hw1, hX.hM.trans hm1⟩
      · have g2 : decide (hostI l (wt l K) (hs l K) frm 140 5 key < 0) = false := decide_eq_false hneg
        have hst := hX.ci.step ht hl k2 k4 (by omega)
        obtain ⟨z, hz⟩ : ∃ z, z = hostI l (wt l K) (hs l K) frm 140 5 key := ⟨_, rfl⟩
        rw [← hz] at hst g2 ⊢
        clear hneg hz
        have ra1 := own_mod hX.ra hm1 hlt
        have rb1 := own_mod hX.rb hm1 hlt
        have S1 := hX.hS.mod hm1 hX.hw.tab
        have hM1 := hX.hM.trans hm1
        have hab := hX.ab
        have hah := hX.ah
        have hbh := hX.bh
        clear hm1 hX hdn hIO hIU hfO
        have hB1 : Below w1.heap.size w1 (w1.alloc (.cells #[.int .i64 z] 3)) := (Below.refl _ _).alloc (Nat.le_refl _) _
        go_wp2_with (at_builtin; go_loud (refine wpList_append_any _ rfl (.tmp 28) (.tmp 30) _ rfl w.heap.size 3 iI _ 1 8 Try.underlying23 hiI hzI hzI1 hzI2 rfl (by decide) _ out.length (ints out) rfl (ra1.alloc _) _ (some ⟨w1.heap.size, 0, none⟩) 1 1 [.int .i64 z] rfl (one_reads w1 3 1 [.int .i64 z] rfl) (by intro u hu; simp at hu; subst hu; rfl) (by simp only [maxLen]; omega) (by omega) (by have := hM1.size; simp; omega) ?_; intro v2 w2 hown2 hg2 hat2; have S2 := (S1.keep hB1).grown (ra1.alloc _) hg2 hah; obtain ⟨c0, _, _, _, _⟩ := S2.blk.cells4))
        have rb2 := (rb1.alloc (.cells #[.int .i64 z] 3)).kept hg2 hab.symm.kept
        have ab2 := apart_new (rb1.alloc (.cells #[.int .i64 z] 3)) hab hat2
        have ah2 := apart_new (S1.keep hB1).rH hah hat2
        have hw2 := (hw1.keep hB1).grown (ra1.alloc _) hlt hg2
        have hM2 := mod_grown (hM1.alloc _) hg2 (own_from ra1)
        refine (tr_Up (hT.keep hw2.bel) (tall_rises ht) z kd).mono ?_; rintro e w' ⟨rfl, rfl⟩
        clear S1 hM1 ra1 rb1 hB1 hg2 hat2 hw1 hab hah c0
        have hB2 : Below w2.heap.size w2 (w2.alloc (.cells #[.int .i64 (up l kd z)] 3)) := (Below.refl _ _).alloc (Nat.le_refl _) _
        go_wp2_with (at_builtin; go_loud (refine wpList_append_any _ rfl (.tmp 32) (.tmp 40) _ rfl w.heap.size 3 iI _ 1 8 Try.underlying23 hiI hzI hzI1 hzI2 rfl (by decide) _ out.length (ints (out.map (up l kd))) rfl (rb2.alloc _) _ (some ⟨w2.heap.size, 0, none⟩) 1 1 [.int .i64 (up l kd z)] rfl (one_reads w2 3 1 [.int .i64 (up l kd z)] rfl) (by intro u hu; simp at hu; subst hu; rfl) (by simp only [maxLen]; omega) (by omega) (by have := hM2.size; simp; omega) ?_; intro v3 w3 hown3 hg3 hat3))
        have S3 := (S2.keep hB2).grown (rb2.alloc _) hg3 hbh
        have ra3 := (hown2.alloc (.cells #[.int .i64 (up l kd z)] 3)).kept hg3 ab2.kept
        have ab3 := (apart_new (hown2.alloc (.cells #[.int .i64 (up l kd z)] 3)) ab2.symm hat3).symm
        have bh3 := apart_new (S2.keep hB2).rH hbh hat3
        have hw3 := (hw2.keep hB2).grown (rb2.alloc _) hlt hg3
        have hM3 := mod_grown (hM2.alloc _) hg3 (own_from rb2)
        clear S2 hM2 rb2 hB2 hg3 hat3 hw2 ab2 hbh hown2
        have hmem := hst.mem
        have ra4 : w3.ownsRow w.heap.size 3 1 v2 (out ++ [z]).length (ints (out ++ [z])) := by simpa [ints] using ra3
        have rb4 : w3.ownsRow w.heap.size 3 1 v3 (out.length + 1) (ints ((out ++ [z]).map (up l kd))) := by simpa [ints] using hown3
        obtain ⟨AU3, cU3, rfl, hIU3, _⟩ := own_list rb4 (up_wf ht hl k2 k4 hmem) (by omega)
        obtain ⟨K2, hK2⟩ : ∃ K2, K2 = keepN l K ((out ++ [z]).map (up l kd)) := ⟨_, rfl⟩
        rw [← hK2] at hst
        have hWo : Calls Try.prog 54 #[.pointer (some ⟨g', 0, none⟩), .slice AU3 (out.length + 1) cU3] w3 fun e w' => ∃ g2 gw2 gs2 vH2, e = .returned (.pointer (some ⟨g2, 0, none⟩)) ∧
            SetIs w' g2 bt l.length gw2 gs2 (wt l K2) (hs l K2) vH2 (picks l K2) ∧ Below w3.heap.size w3 w' ∧ ∀ k, vH2.ownBlock = some k → w3.heap.size ≤ k := by
          rw [hK2]
          exact set_WithoutF (hT.keep hw3.bel) ht S3 (picks_wf l K hl) (by have := picks_le l K; omega) AU3 _ cU3 _ hIU3
        refine hWo.mono ?_; rintro e w4 ⟨g2, gw2, gs2, vH2, rfl, S4, hx4, hf4⟩
        have hw4 := hw3.keep hx4
        have hM4 := hM3.thenB hx4
        have ra5 := own_keep ra4 hx4
        have rb5 := own_keep rb4 hx4
        have ah5 : apart v2 vH2 := fun gg hg hk => by
          have := (ra4.lt gg hg).2
          have := hf4 gg hk
          omega
        have bh5 : apart (.slice AU3 (out.length + 1) cU3) vH2 := fun gg hg hk => by
          have := (rb4.lt gg hg).2
          have := hf4 gg hk
          omega
        clear hWo S3 ra3 ra4 rb4 hw3 hM3 hx4 hf4 hIU3 hown3 bh3
        go_wp2
        go_roundg (9 - (out ++ [z]).length)
        case measure => simp; omega
        case rel => exact ⟨g2, gw2, gs2, vH2, K2, out ++ [z], rfl, rfl, by simp; omega, .inr (by simp; omega), ⟨S4, hst, ra5, by rw [List.length_append]; exact rb5, ab3, ah5, bh5, hw4, hM4⟩⟩
    · have g1 : decide ((out.length : Int) < min many 8) = false := decide_eq_false (by omega)
      go_wp2
      go_ret
      exact ⟨_, _, K, out, rfl, hIO, hfO, hX.ci, by unfold wantI; (repeat' split) <;> omega, hX.hw, hX.hM⟩
end
end Go.Proofs.Ytblbgafadadbmaa
end
section
/- The law's Host. -/
set_option linter.unusedVariables false
namespace Go.Proofs.Ytblbgafadadbmaa
open Go.RowKit
set_option maxHeartbeats 4000000
set_option maxRecDepth 100000
theorem turn_int {n k : Nat} {f : Int} (h : 0 ≤ f ∧ f < n) : ((turnAt n f k : Nat) : Int) = ((k : Int) + f) % n := by
  unfold turnAt
  rw [if_pos h]
  obtain ⟨j, rfl⟩ := Int.eq_ofNat_of_zero_le h.1
  rw [Int.toNat_natCast, Int.natCast_emod, Int.natCast_add]
theorem turn_out {n k : Nat} {f : Int} (h : ¬ (0 ≤ f ∧ f < n)) : turnAt n f k = k := by
  unfold turnAt; rw [if_neg h]
end Go.Proofs.Ytblbgafadadbmaa
end
section
/- WalkHosts. -/
set_option linter.unusedVariables false
namespace Go.Proofs.Ytblbgafadadbmaa
open Go.RowKit
set_option maxHeartbeats 8000000
set_option maxRecDepth 100000
theorem walker_made (w : World) (f seed : Int) : WW w (w.alloc (.cells #[.int .u32 0, .int .i32 0, .int .u32 0, .slice none 0 0, .int .i64 f, .int .u64 seed] 51)) w.heap.size (kw f seed) :=
  ⟨.inl (Blk.new w _ _), Nat.le_refl _, (Below.refl _ _).alloc (Nat.le_refl _) _⟩
theorem picks_in {l : List Nd} {hosts : List Int} (h : (picks l hosts).length ≠ 0) : ∃ j, j < l.length ∧ pk l hosts j = true := by
  cases hp : picks l hosts with
  | nil => rw [hp] at h; exact absurd rfl h
  | cons z zs =>
    have hz : z ∈ picks l hosts := by rw [hp]; exact List.mem_cons_self ..
    unfold picks at hz
    obtain ⟨h1, h2⟩ := List.mem_filter.1 hz
    obtain ⟨j, rfl, hj, _⟩ := mem_idx.1 h1
    rw [Int.toNat_natCast] at h2
    exact ⟨j, hj, h2⟩
end Go.Proofs.Ytblbgafadadbmaa
end
section
/- Regions that draw their order and whose operations, callees too, keep the world within a class: one walk, in the order of the text. -/
set_option linter.unusedVariables false
namespace Go.Proofs.Ytblbgafadadbmaa
open Go.RowKit
/-- A world of a class. -/
structure Held (C : World → Prop) where
  w : World
  h : C w
theorem wp_region_quiet_held {P : Program} {id : Nat} {Q : Exit → Act → World → Prop} {a : Act} {w : World} {l : List Oper} {C : World → Prop} (hm : P.follows .mixedOrders = true) (hB : Region.lexB .any l.toArray = true) (h0 : C w.drew)
    (h : wpQuiet P l.toArray (fun w' => ∃ p : Held C, w' = p.w) (fun a' => ∀ w', (∃ p : Held C, w' = p.w) → Q .normal a' w') l a) : (Code.region id l.toArray true).wp P Q a w :=
  wp_region_quiet (C := fun w' => ∃ p : Held C, w' = p.w) hm hB ⟨⟨w.drew, h0⟩, rfl⟩ (by simpa using h)
theorem calls_held {P : Program} {f : FuncId} {args : Array Value} {C : World → Prop} {p : Held C} {v : Value}
    (h : Calls P f args p.w fun e w' => e = .returned v ∧ C w') : Calls P f args p.w fun e w'' => e = .returned v ∧ ∃ q : Held C, w'' = q.w :=
  h.mono fun _ w' ⟨he, hc⟩ => ⟨he, ⟨w', hc⟩, rfl⟩
end Go.Proofs.Ytblbgafadadbmaa
end
section
/- WalkCopies. -/
set_option linter.unusedVariables false
namespace Go.Proofs.Ytblbgafadadbmaa
open Go.RowKit
set_option maxHeartbeats 8000000
set_option maxRecDepth 100000
theorem walkCopies_no (w : World) (v0 v1 : Value) (frm key many kd : Int) (h : kd < 2 ∨ 4 < kd ∨ 10 < many) :
    Calls Try.prog 5 #[v0, v1, .int .i64 frm, .int .u64 key, .int .i64 many, .int .i64 kd] w fun e w' => e = .returned (.bool true) ∧ Below w.heap.size w w' := by
  go_enter Try.func5, Try.ntmps5
  by_cases h1 : kd < 2
  · have g1 : decide (kd < 2) = true := decide_eq_true h1
    go_wp2_with fail
    refine (law26_awake _).mono ?_; rintro e w8 ⟨rfl, hx8⟩
    go_wp2
    go_ret
    exact ⟨rfl, hx8⟩
  · have g1 : decide (kd < 2) = false := decide_eq_false h1
    by_cases h2 : 4 < kd
    · have g2 : decide (4 < kd) = true := decide_eq_true h2
      go_wp2_with fail
      refine (law26_awake _).mono ?_; rintro e w8 ⟨rfl, hx8⟩
      go_wp2
      go_ret
      exact ⟨rfl, hx8⟩
    · have g2 : decide (4 < kd) = false := decide_eq_false h2
      have g3 : decide (10 < many) = true := decide_eq_true (by omega)
      go_wp2_with fail
      refine (law26_awake _).mono ?_; rintro e w8 ⟨rfl, hx8⟩
      go_wp2
      go_ret
      exact ⟨rfl, hx8⟩
theorem dn_le (l : List Nd) (K : List Int) (kd : Int) : dn l K kd ≤ l.length := by
  unfold dn selTo
  rw [List.length_map]
  exact Nat.le_trans (List.length_filter_le _ _) (by rw [List.length_range]; exact Nat.le_refl _)
def wA (many : Int) (d : Nat) : Int := if many < d then many else d
def wB (x : Int) : Int := if 8 < x then 8 else x
def wC (y : Int) : Int := if y < 0 then 0 else y
/-- The world as the copies' law holds it. -/
structure CYW (w0 : World) (bw : Nat) (l : List Nd) (hosts : List Int) (bt g gw gs : Nat) (vH : Value) (A : Option Addr) (n c : Nat) (out : List Int) (w : World) : Prop where
  hw : WW w0 w bw (kw 140 5)
  hS : SetIs w g bt l.length gw gs (wt l hosts) (hs l hosts) vH (picks l hosts)
  hL : IsList w .i64 A n c out
theorem CYW.keep {w0 w w' : World} {bw bt g gw gs n c : Nat} {l : List Nd} {hosts out : List Int} {vH : Value} {A : Option Addr} (h : CYW w0 bw l hosts bt g gw gs vH A n c out w) (hx : Below w.heap.size w w') : CYW w0 bw l hosts bt g gw gs vH A n c out w' := ⟨h.hw.keep hx, h.hS.keep hx, h.hL.keep hx⟩
theorem CYW.host {w0 w : World} {bw bt g gw gs n c : Nat} {l : List Nd} {hosts out : List Int} {vH : Value} {A : Option Addr} {frm key : Int} (h : CYW w0 bw l hosts bt g gw gs vH A n c out w) (hT : TR w0 bt l) (ht : Tall l) (hf : ∀ ad, A = some ad → ¬ ad.block = bw) (k0 : 0 ≤ key) (k1 : key < 18446744073709551616) :
    Calls Try.prog 26 #[.pointer (some ⟨bw, 0, none⟩), .pointer (some ⟨g, 0, none⟩), .int .i64 frm, .int .u64 key] w fun e w' =>
      e = .returned (.int .i64 (hostI l (wt l hosts) (hs l hosts) frm 140 5 key)) ∧ CYW w0 bw l hosts bt g gw gs vH A n c out w' :=
  (walk_Host2 hT ht h.hS h.hw (by decide) (by decide) frm key k0 k1).mono fun e w' ⟨h1, h2, h3⟩ => ⟨h1, h2, h.hS.mod h3 h.hw.tab, list_mod h.hL h3 (fun _ => hf)⟩
theorem walkCopies_yes (w : World) (A : Option Addr) (n0 c : Nat) (l0 : List Nd) (hl0 : IsNodes w A n0 c l0) (Ah : Option Addr) (m0 ch : Nat) (h0 : List Int) (hh0 : IsList w .i64 Ah m0 ch h0)
    (frm key : Int) (k0 : 0 ≤ key) (k1 : key < 18446744073709551616) (many : Int) (n1 : many ≤ 10) (kd : Int) (d0 : 2 ≤ kd) (d1 : kd ≤ 4) :
    Calls Try.prog 5 #[.slice A n0 c, .slice Ah m0 ch, .int .i64 frm, .int .u64 key, .int .i64 many, .int .i64 kd] w fun e w' => e = .returned (.bool true) ∧ Below w.heap.size w w' := by
  have hmd := law_Made w A n0 c l0 hl0
  have ht0 := Lib.hid (made_tall (l0.take 60))
  have hl60 : (made (l0.take 60)).length ≤ 60 := Nat.le_trans (made_len _) (by rw [List.length_take]; omega)
  generalize made (l0.take 60) = l at *
  have hFw := fun w => law23_Few Ah m0 ch hh0.cap hh0.small w
  have hH := hh0.cut (k := min m0 30) (by omega)
  generalize min m0 30 = m at *
  generalize h0.take m = hosts at *
  clear hl0 hh0
  have g1 : decide (kd < 2) = false := decide_eq_false (by omega)
  have g2 : decide (4 < kd) = false := decide_eq_false (by omega)
  have g3 : decide (10 < many) = false := decide_eq_false (by omega)
  go_enter Try.func5, Try.ntmps5
  go_wp2_with fail
  refine hmd.mono ?_; rintro e w1 ⟨b, A1, c1, rfl, hT, hN, hx1⟩
  clear hmd g1 g2 g3
  have ht := ht0.out
  go_wp2_with fail
  refine (hFw _).mono ?_; rintro e w' ⟨rfl, rfl⟩
  clear hFw
  have hH1 := hH.keep hx1
  go_wp2_with fail
  refine (elig_New hT ht Ah m ch hosts hH1).mono ?_; rintro e w2 ⟨g, gw, gs, vH, rfl, hS, hx2⟩
  have hT2 := hT.keep hx2
  have hW2 := below_step hx1 hx2
  clear hT hN hH1 hH hx1 hx2
  have hw4 := walker_made w2 140 5
  have hS4 := hS.keep hw4.bel
  go_wp2_with fail
  generalize hbw : w2.heap.size = bw at *
  generalize w2.alloc (.cells #[.int .u32 0, .int .i32 0, .int .u32 0, .slice none 0 0, .int .i64 140, .int .u64 5] 51) = w4 at *
  have hl1024 : l.length ≤ 1024 := by omega
  have hlt4 := hw4.tab.lt
  refine (walk_Copies (frm := frm) (kd := kd) hT2 ht hl1024 hS4 hw4 k0 k1 many d0 d1).mono ?_; rintro e w5 ⟨AC, cC, K, out, rfl, hC, hfC, hci, hlen, hw5, hM5⟩
  have hS5 := hS4.mod hM5 hw4.tab
  clear hS hS4 hw4 hM5
  have hD := set_Domains (hT2.keep hw5.bel) hS5 kd
  have hDd : (selTo (domP l (hs l hosts) kd) l.length).length = dn l hosts kd := rfl
  rw [hDd] at hD
  have hd60 : dn l hosts kd ≤ 60 := Nat.le_trans (dn_le l hosts kd) hl60
  obtain ⟨d, hd⟩ : ∃ d, d = dn l hosts kd := ⟨_, rfl⟩
  rw [← hd] at hD hd60 hlen
  clear hDd hd
  go_wp2_with fail
  refine hD.mono ?_; rintro e w6 ⟨AD, cD, rfl, _, hx6⟩
  have hCY : CYW w2 bw l hosts b g gw gs vH AC out.length cC out w6 := CYW.keep ⟨hw5, hS5, hC⟩ hx6
  clear hD hw5 hS5 hC hx6
  go_upto_if 56 with (fail)
  go_cut [18] (fun s18 wx => w6 = wx ∧ s18 = .int .i64 (wA many d))
  case first =>
    by_cases h : many < d
    · have g := decide_eq_true h
      go_wp2_with fail
      go_meet
      exact ⟨rfl, by unfold wA; rw [if_pos h]⟩
    · have g := decide_eq_false h
      go_wp2_with fail
      go_meet
      exact ⟨rfl, by unfold wA; rw [if_neg (by omega)]⟩
  case rest =>
    obtain ⟨rfl, rfl⟩ := hcut
    obtain ⟨x, hx⟩ : ∃ x, x = wA many d := ⟨_, rfl⟩
    rw [← hx]
    have HX := Lib.hid hx
    clear hx
    go_upto_if 59 with (fail)
    go_cut [18] (fun s18 wx => w6 = wx ∧ s18 = .int .i64 (wB x))
    case first =>
      by_cases h : 8 < x
      · have g := decide_eq_true h
        go_wp2_with fail
        go_meet
        exact ⟨rfl, by unfold wB; rw [if_pos h]⟩
      · have g := decide_eq_false h
        go_wp2_with fail
        go_meet
        exact ⟨rfl, by unfold wB; rw [if_neg (by omega)]⟩
    case rest =>
      obtain ⟨rfl, rfl⟩ := hcut
      obtain ⟨y, hy⟩ : ∃ y, y = wB x := ⟨_, rfl⟩
      rw [← hy]
      have HY := Lib.hid hy
      clear hy
      go_upto_if 61 with (fail)
      go_cut [18] (fun s18 wx => w6 = wx ∧ s18 = .int .i64 (wC y))
      case first =>
        by_cases h : y < 0
        · have g := decide_eq_true h
          go_wp2_with fail
          go_meet
          exact ⟨rfl, by unfold wC; rw [if_pos h]⟩
        · have g := decide_eq_false h
          go_wp2_with fail
          go_meet
          exact ⟨rfl, by unfold wC; rw [if_neg (by omega)]⟩
      case rest =>
        obtain ⟨rfl, rfl⟩ := hcut
        have hz : wC y = (out.length : Int) := by
          have e1 := HX.out
          have e2 := HY.out
          rw [hlen]
          unfold wA at e1
          unfold wB at e2
          unfold wantI wC
          split at e1 <;> split at e2 <;> (repeat' split) <;> omega
        rw [hz]
        clear hz HX HY hlen
        have hcap := hCY.hL.cap
        have hsm := hCY.hL.small
        have hnm : ∀ ad, AC = some ad → ¬ ad.block = bw := fun ad e => by have := hfC ad e; omega
        have HO := fun v (h : CYW w2 bw l hosts b g gw gs vH AC out.length cC out v) => CYW.host (frm := frm) h hT2 ht hnm k0 k1
        have HF := Lib.hid hci.first
        have HP := Lib.hid hci.pks
        have HDI := Lib.hid hci.dis
        clear hci hfC hnm
        obtain ⟨q, hq⟩ : ∃ q, q = out.length := ⟨_, rfl⟩
        rw [← hq] at hcap hCY HO HF HP HDI ⊢
        clear hq
        go_upto_region 14 with (fail)
        go_cut [81] (fun s81 wx => s81 = .bool false ∧ CYW w2 bw l hosts b g gw gs vH AC q cC out wx)
        case first =>
          by_cases hq0 : q = 0
          · subst hq0
            refine wp_region_quiet_under (by kernel_rfl) (by kernel_rfl) ?_
            repeat (go_big_quiet_step ((fail)))
            refine wpQuiet_nil ?_
            intro wu hw'
            obtain ⟨pq, hw''⟩ := hw'
            have hU := below_eq hw''
            clear hw'' pq
            go_wp2_with fail
            go_meet
            exact ⟨rfl, hCY.keep hU⟩
          · have g5 : decide ((0 : Int) < (q : Int)) = true := decide_eq_true (by omega)
            have g6 : (0 : Int) < (q : Int) := by omega
            have g7 : decide (0 < q) = true := decide_eq_true (by omega)
            have g8 : 0 < q := by omega
            have HA := Lib.hid (fun v (h : CYW w2 bw l hosts b g gw gs vH AC q cC out v) => (h.hL.get (k := 0) (by omega)))
            obtain ⟨ad, rfl, _, x0, _⟩ := HA.out _ hCY
            rw [HF.out (by omega)] at HA
            obtain ⟨z, hz⟩ : ∃ z, z = hostI l (wt l hosts) (hs l hosts) frm 140 5 key := ⟨_, rfl⟩
            rw [← hz] at HO HA
            have HU := fun (p : Held (CYW w2 bw l hosts b g gw gs vH (some ad) q cC out)) => show p.w.cell? (ad.add 0) = some (.int .i64 z) from (by obtain ⟨ad', h1, _, h2, _⟩ := HA.out _ p.h; cases h1; exact h2)
            have HU0 := fun (p : Held (CYW w2 bw l hosts b g gw gs vH (some ad) q cC out)) => show p.w.cell? ad = some (.int .i64 z) from (by have h := HU p; unfold Addr.add at h; rw [if_pos rfl] at h; exact h)
            clear hz x0 HA HU
            haveI : Nonempty (Held (CYW w2 bw l hosts b g gw gs vH (some ad) q cC out)) := ⟨⟨w6, hCY⟩⟩
            refine wp_region_quiet_held (C := CYW w2 bw l hosts b g gw gs vH (some ad) q cC out) (by kernel_rfl) (by kernel_rfl) (hCY.keep ((Below.refl _ _).drew)) ?_
            repeat (go_big_quiet_step (((go_at_call 26; exact calls_held (HO _ (Held.h _))))))
            refine wpQuiet_nil ?_
            intro wq hw'
            obtain ⟨⟨wu, hC⟩, hw''⟩ := hw'
            cases hw''
            go_wp2_with fail
            go_meet
            exact ⟨rfl, hC⟩
        case rest =>
          obtain ⟨rfl, hCw⟩ := hcut
          have CU := fun w h (z : Int) => tr_Up (b := b) (l := l) (w := w) h (tall_rises ht) z kd
          clear hCY HO HF
          go_wp2_with fail
          go_loopg [12, 19, 20] q (fun gk s12 s19 s20 wr => ∃ i : Nat, i ≤ q ∧ gk = q - i ∧ s19 = .int .i64 i ∧ Below wc.heap.size wc wr)
          case atStart => exact ⟨0, Nat.zero_le _, rfl, rfl, Below.refl _ _⟩
          case round =>
            obtain ⟨i, hi, rfl, rfl, hV⟩ := hrel
            have hC7 := hCw.keep hV
            by_cases hiq : i < q
            · have hii : (i : Int) < (q : Int) := by omega
              obtain ⟨j, ej, hj, hp⟩ := HP.out i hiq
              obtain ⟨ad, rfl, _, x0, _⟩ := hC7.hL.get hiq
              rw [ej] at x0
              have HD2 := Lib.hid (show ∀ k, k < i → up l kd (j : Int) ≠ up l kd (out.getD k 0) from fun k hk => by rw [← ej]; exact HDI.out i k hk hiq)
              have h4 := (pk_host hp).1
              have hwp : 0 < wt l hosts j := (wt_iff ht hosts hl1024 hj).2 (by rw [hs_host ht hosts hj h4]; exact hp)
              have hWt := set_Weight hC7.hS (j : Int)
              have eW : atI (wt l hosts) l.length (j : Int) = wt l hosts j := by unfold atI; rw [if_pos ⟨by omega, by omega⟩]; rfl
              rw [eW] at hWt
              obtain ⟨y, hy⟩ : ∃ y, y = wt l hosts j := ⟨_, rfl⟩
              rw [← hy] at hWt hwp
              have g5 : (y == 0) = false := by rw [beq_eq_false_iff_ne]; omega
              have hNd := tr_NodeIn (hT2.keep hC7.hw.bel) j hj
              obtain ⟨x, hx⟩ : ∃ x, x = l.getD j nd0 := ⟨_, rfl⟩
              rw [← hx] at hNd h4
              have g6 : (x.kind == 4) = true := by rw [beq_iff_eq]; exact h4
              have g7 : (x.kind != 4) = false := by rw [h4]; rfl
              have hfk := fun w => node_kind x w
              unfold Nd.val at hNd
              clear hy hp eW ej h4 hx
              go_wp2_with fail
              refine hWt.mono ?_; rintro e w' ⟨rfl, rfl⟩
              go_wp2_with fail
              refine hNd.mono ?_; rintro e w8 ⟨rfl, hx8⟩
              have hV8 := below_step hV hx8
              have hC8 := hC7.keep hx8
              clear hWt hNd hx8 hV hC7 x0 hwp
              go_wp2_with fail
              go_loopg [12, 20] i (fun gk s12 s20 wr => ∃ k : Nat, k ≤ i ∧ gk = i - k ∧ s20 = .int .i64 k ∧ Below w8.heap.size w8 wr)
              case atStart => exact ⟨0, Nat.zero_le _, rfl, rfl, Below.refl _ _⟩
              case round =>
                obtain ⟨k, hk, rfl, rfl, hX⟩ := hrel
                have hC9 := hC8.keep hX
                by_cases hki : k < i
                · have hkii : (k : Int) < (i : Int) := by omega
                  have hkq : (k : Int) < (q : Int) := by omega
                  obtain ⟨ad1, e1, _, x1, _⟩ := hC9.hL.get hiq
                  obtain rfl := Option.some.inj e1
                  obtain ⟨ad2, e2, _, x2, _⟩ := hC9.hL.get (k := k) (by omega)
                  obtain rfl := Option.some.inj e2
                  obtain ⟨j', ej', _⟩ := HP.out i hiq
                  have hT9 := hT2.keep hC9.hw.bel
                  have hne := HDI.out i k hki hiq
                  generalize out.getD i 0 = zi at *
                  generalize out.getD k 0 = zk at *
                  have hne2 : (up l kd zi == up l kd zk) = false := by rw [beq_eq_false_iff_ne]; exact hne
                  have U1 := cell_under x1
                  have U2 := cell_under x2
                  clear x1 x2 hne ej' HD2
                  go_wp2_with fail
                  refine wp_region_quiet_under (by kernel_rfl) (by kernel_rfl) ?_
                  repeat (go_big_quiet_step (((go_at_call 28; exact calls_under_same (CU _ (hT9.keep (under_below _ _)) _)))))
                  refine wpQuiet_nil ?_
                  intro wu hw'
                  obtain ⟨pq, hw''⟩ := hw'
                  have hU := below_eq hw''
                  clear hw'' pq
                  have hXu := below_step hX hU
                  clear U1 U2 hU hX hC9 hT9
                  go_wp2
                  go_roundg (i - (k + 1))
                  case measure => omega
                  case rel => exact ⟨k + 1, by omega, rfl, by go_num, hXu⟩
                · obtain rfl : k = i := by omega
                  have hVX := below_step hV8 hX
                  clear hX hV8 hC8 hC9
                  go_wp2
                  go_roundg (q - (k + 1))
                  case measure => omega
                  case rel => exact ⟨k + 1, by omega, rfl, by go_num, hVX⟩
            · obtain rfl : i = q := by omega
              have hbz := hC7.hw.bel
              have hWz := below_step hW2 hbz
              clear hC7 hCw hbz HP HDI
              go_wp2_with fail
              refine (law26_awake _).mono ?_; rintro e w9 ⟨rfl, hx9⟩
              go_wp2
              go_ret
              exact ⟨rfl, below_step hWz hx9⟩
theorem walkCopies_walk (w : World) (A : Option Addr) (n0 c : Nat) (l0 : List Nd) (hl0 : IsNodes w A n0 c l0) (Ah : Option Addr) (m0 ch : Nat) (h0 : List Int) (hh0 : IsList w .i64 Ah m0 ch h0)
    (frm : Int) (_ : -9223372036854775808 ≤ frm) (_ : frm ≤ 9223372036854775807) (key : Int) (k0 : 0 ≤ key) (k1 : key < 18446744073709551616) (many : Int) (_ : -9223372036854775808 ≤ many) (_ : many ≤ 9223372036854775807) (kd : Int) (_ : -9223372036854775808 ≤ kd) (_ : kd ≤ 9223372036854775807) :
    Calls Try.prog 5 #[.slice A n0 c, .slice Ah m0 ch, .int .i64 frm, .int .u64 key, .int .i64 many, .int .i64 kd] w fun e w' => e = .returned (.bool true) ∧ Below w.heap.size w w' := by
  by_cases h : kd < 2 ∨ 4 < kd ∨ 10 < many
  · exact walkCopies_no w _ _ frm key many kd h
  · exact walkCopies_yes w A n0 c l0 hl0 Ah m0 ch h0 hh0 frm key k0 k1 many (by omega) kd (by omega) (by omega)
end Go.Proofs.Ytblbgafadadbmaa
end
