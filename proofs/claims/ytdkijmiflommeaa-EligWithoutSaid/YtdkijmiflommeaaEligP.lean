/- Without; EligWithout. -/
import Derived.Test.YtdkijmiflommeaaEligO
import Derived.Test.YtdkijmiflommeaaEligE
set_option linter.unusedVariables false
namespace Go.Proofs.Ytdkijmiflommeaa
open Go.RowKit
set_option maxHeartbeats 8000000
set_option maxRecDepth 100000
theorem asks_below {w0 : World} {b g sb nb : Nat} {l : List Nd} (ht : Tall l) {A : Option Addr} {n c : Nat} {nodes : List Int} (h : COut b g sb nb l A n c nodes w0) :
    AsksI 71 #[.pointer (some ⟨nb, 0, none⟩), .pointer (some ⟨sb, 0, none⟩)] (fun h => nodes.any (outN l h)) (fun W => Below w0.heap.size w0 W) := by
  obtain ⟨e, k, c'⟩ := asks_out b g sb nb l ht A n c nodes
  exact ⟨e, fun W W' h1 h2 => below_step h1 h2, fun W z hW => c' W z (k w0 W h hW)⟩
theorem deleteFunc_own (g : FuncId) (lb : Array Value) (p : Int → Bool) (w0 : World) (hp : AsksI g lb p (fun W => Below w0.heap.size w0 W)) (v : Value) (l : List Int) (w : World)
    (hown : w.ownsRow w0.heap.size 3 1 v l.length (ints l)) (hwf : ∀ z ∈ l, (Lit.int .i64 z).wf = true) (hn : l.length ≤ 1024) (hb : Below w0.heap.size w0 w) :
    Calls Try.prog 70 #[v, .func (.func g) #[] lb] w fun e w' => ∃ A c, e = .returned (.slice A (l.filter fun x => !p x).length c) ∧
      IsList w' .i64 A (l.filter fun x => !p x).length c (l.filter fun x => !p x) ∧ Below w0.heap.size w0 w' := by
  obtain ⟨A, c, rfl, hI, _⟩ := own_list hown hwf (by omega)
  by_cases h : ∃ k, k < l.length ∧ p (l.getD k 0) = true ∧ ∀ j, j < k → p (l.getD j 0) = false
  · obtain ⟨k, hk, hpk, hpn⟩ := h
    obtain ⟨r, c', e, hr, _⟩ := hown.form (by omega)
    injection e with e1 e2 e3
    subst e1
    exact (deleteFunc_some g lb p w0 hp r l.length c w0.heap.size l w hr hown hwf hn hb k hk hpk hpn).mono fun e w' ⟨h1, h2, h3⟩ => ⟨_, _, h1, h2, h3⟩
  · have hno : ∀ j, j < l.length → p (l.getD j 0) = false := by
      intro j
      induction j using Nat.strongRecOn with
      | _ j ih =>
        intro hj
        cases hpj : p (l.getD j 0) with
        | false => rfl
        | true => exact absurd ⟨j, hj, hpj, fun i hi => ih i hi (by omega)⟩ h
    have hf : (l.filter fun x => !p x) = l := by
      rw [List.filter_eq_self]
      intro x hx
      obtain ⟨j, hj, rfl⟩ := List.getElem_of_mem hx
      have := hno j hj
      rw [List.getD_eq_getElem?_getD, List.getElem?_eq_getElem hj] at this
      simp only [Option.getD_some] at this
      rw [this]; rfl
    rw [hf]
    exact (deleteFunc_none g lb p _ A l.length c l w hI hb hp (idxP_miss hno)).mono fun e w' ⟨h1, h2⟩ => ⟨A, c, h1, hI.keep h2, below_step hb h2⟩
section
variable {w : World} {g b gw gs : Nat} {W : Nat → Int} {S : Nat → Bool} {vH : Value} {H : List Int} {l : List Nd}
theorem set_Without (hT : TR w b l) (ht : Tall l) (h : SetIs w g b l.length gw gs W S vH H) (hwf : ∀ z ∈ H, (Lit.int .i64 z).wf = true) (hl : H.length ≤ 1024) (A : Option Addr) (n c : Nat) (nodes : List Int) (hI : IsList w .i64 A n c nodes) :
    Calls Try.prog 50 #[.pointer (some ⟨g, 0, none⟩), .slice A n c] w fun e w' => ∃ g' gw' gs' vH', e = .returned (.pointer (some ⟨g', 0, none⟩)) ∧
      SetIs w' g' b l.length gw' gs' (wt l (H.filter fun h => !(nodes.any (outN l h)))) (hs l (H.filter fun h => !(nodes.any (outN l h)))) vH' (picks l (H.filter fun h => !(nodes.any (outN l h)))) ∧ Below w.heap.size w w' := by
  have hx1 : Below w.heap.size w (w.alloc (.cells #[.pointer (some ⟨g, 0, none⟩)] 61)) := (Below.refl _ _).alloc (Nat.le_refl _) _
  have hx2 : Below w.heap.size w ((w.alloc (.cells #[.pointer (some ⟨g, 0, none⟩)] 61)).alloc (.cells #[.slice A n c] 40)) := hx1.alloc hx1.size _
  have hPs := (Blk.new w 61 #[.pointer (some ⟨g, 0, none⟩)]).alloc (.cells #[.slice A n c] 40)
  have hPn := Blk.new (w.alloc (.cells #[.pointer (some ⟨g, 0, none⟩)] 61)) 40 #[.slice A n c]
  have hsz : (w.alloc (.cells #[.pointer (some ⟨g, 0, none⟩)] 61)).heap.size = w.heap.size + 1 := by simp
  rw [hsz] at hPn
  obtain ⟨K, hK⟩ : ∃ K, K = H.filter fun h => !(nodes.any (outN l h)) := ⟨_, rfl⟩
  rw [← hK]
  have HK := Lib.hid hK
  clear hK
  go_enter Try.func50, Try.ntmps50
  go_upto_region 1 with (fail)
  have hT1 := hT.keep hx2
  have hS1 := h.keep hx2
  have hI1 := hI.keep hx2
  clear hsz hx1 hT h hI
  generalize ((w.alloc (.cells #[.pointer (some ⟨g, 0, none⟩)] 61)).alloc (.cells #[.slice A n c] 40)) = u at *
  have cs := hPs.cells1.1
  have cn := hPn.cells1.1
  obtain ⟨cg, _, _, _, _⟩ := hS1.blk.cells4
  have hN := set_none hS1
  go_wp2_with fail
  refine hN.mono ?_; rintro e w' ⟨rfl, rfl⟩
  have hd0 : Below u.heap.size u u.drew := (Below.refl _ _).drew
  have hA := asks_below (w0 := u.drew) ht (b := b) (g := g) (sb := w.heap.size) (nb := w.heap.size + 1) (A := A) (n := n) (c := c) (nodes := nodes) ⟨hT1.keep hd0, cell_keep cg hd0, cell_keep cs hd0, cell_keep cn hd0, hI1.keep hd0⟩
  clear hN
  go_wp2_with fail
  go_region_held3 (fun w' => w'.cell? ⟨w.heap.size, 0, none⟩ = some (.pointer (some ⟨g, 0, none⟩)) ∧ w'.cell? ⟨g, 0, none⟩ = some (.pointer (some ⟨b, 0, none⟩)) ∧ Below u.heap.size u w')
    (exact ⟨cell_keep cs (by assumption), cell_keep cg (by assumption), by assumption⟩)
    (first
      | (go_at_call 41; refine (set_ListOwn (hS1.keep hd0) hwf hl).mono ?_; rintro e w1 ⟨v1, rfl, hown1, hx1⟩; have hb1 := below_step hd0 hx1)
      | (go_at_call 70; refine (deleteFunc_own _ _ _ u.drew hA v1 H w1 hown1 hwf hl hx1).mono ?_; rintro e w2 ⟨A2, c2, rfl, hI2, hb2'⟩; have hb2 : Below u.heap.size u w2 := ⟨hb2'.os, hb2'.tape, hb2'.output, hb2'.size, hb2'.block⟩)
      | (go_at_call 39; refine (elig_New (hT1.keep hb2) ht _ _ _ _ hI2).mono ?_; rintro e w3 ⟨g3, gw3, gs3, vH3, rfl, hS3, hx3⟩; have hb3 := below_step hb2 hx3))
  all_goals
    go_wp2
    go_ret
    exact ⟨g3, gw3, gs3, vH3, rfl, by rw [HK.out]; exact hS3, below_step hx2 hb3⟩
end
end Go.Proofs.Ytdkijmiflommeaa
