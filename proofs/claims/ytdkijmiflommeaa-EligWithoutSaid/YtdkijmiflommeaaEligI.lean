/- Counts, Domains. -/
import Derived.Test.YtdkijmiflommeaaEligH
set_option linter.unusedVariables false
namespace Go.Proofs.Ytdkijmiflommeaa
open Go.RowKit
set_option maxHeartbeats 8000000
set_option maxRecDepth 100000
theorem node_kind (x : Nd) (w : World) : (Instr.field 34 (.agg #[.string x.name, .int .i64 x.kind, .int .i64 x.above, .int .i64 x.weight, .bool x.six, .int .u64 x.hi, .int .u64 x.lo]) 1).run Try.prog w = .ok (.int .i64 x.kind) w := by kernel_rfl
def domP (l : List Nd) (S : Nat → Bool) (kind : Int) (j : Nat) : Bool := S j && (l.getD j nd0).kind == kind
section
variable {w w0 : World} {g b n gw gs : Nat} {W : Nat → Int} {S : Nat → Bool} {vH : Value} {H : List Int} {l : List Nd}
theorem set_Domains (hT : TR w b l) (h : SetIs w g b l.length gw gs W S vH H) (kind : Int) : Calls Try.prog 48 #[.pointer (some ⟨g, 0, none⟩), .int .i64 kind] w fun e w' => ∃ A c, e = .returned (.slice A (selTo (domP l S kind) l.length).length c) ∧ IsList w' .i64 A (selTo (domP l S kind) l.length).length c (selTo (domP l S kind) l.length) ∧ Below w.heap.size w w' := by
  have hN := set_none h
  have hfew := hT.few
  have hL := tr_Len hT
  obtain ⟨c0, c1, c2, c3, _⟩ := h.blk.cells4
  obtain ⟨iI, hiI, hzI, hzI1, hzI2⟩ := info_parts Try.infoI
  obtain ⟨n, hn⟩ : ∃ n, n = l.length := ⟨_, rfl⟩
  rw [← hn] at h hfew hL
  rw [← hn]
  have HN := Lib.hid hn.symm
  clear hn
  obtain ⟨R, hR⟩ : ∃ R, R = selTo (domP l S kind) n := ⟨_, rfl⟩
  rw [← hR]
  have HR := Lib.hid hR
  clear hR
  go_enter Try.func48, Try.ntmps48
  go_wp2_with fail
  refine hN.mono ?_; rintro e w' ⟨rfl, rfl⟩
  go_wp2_with fail
  refine hL.mono ?_; rintro e w' ⟨rfl, rfl⟩
  clear c0 c1 c2 c3 hL hN
  go_wp2_with fail
  go_loopg [5, 6, 14] n (fun gg s5 s6 s14 wr => ∃ (k : Nat) (out : List Int), k ≤ n ∧ gg = n - k ∧ s14 = .int .i64 k ∧ wr.ownsRow w.heap.size 3 1 s5 out.length (ints out) ∧ Below w.heap.size w wr ∧ Hid (out = selTo (domP l S kind) k))
  case atStart => exact ⟨0, [], Nat.zero_le _, rfl, rfl, World.ownsRow_nil _ _ _ _, Below.refl _ _, Lib.hid rfl⟩
  case round =>
    obtain ⟨k, out, hk, rfl, rfl, hown, hW, HO⟩ := hrel
    have hol : out.length ≤ k := by rw [HO.out]; exact selTo_le _ _
    have hS5 := h.keep hW
    obtain ⟨c0, c1, c2, c3, _⟩ := hS5.blk.cells4
    by_cases hkn : k < n
    · have hki : (k : Int) < (n : Int) := by omega
      have rk := hS5.rS.cell hkn
      have hNd := tr_NodeIn (hT.keep hW) k (by rw [HN.out]; exact hkn)
      have HST := Lib.hid (selTo_step (domP l S kind) k)
      have HD := Lib.hid (show domP l S kind k = (S k && (l.getD k nd0).kind == kind) from rfl)
      generalize S k = s at *
      generalize l.getD k nd0 = x at *
      have hfk := fun w => node_kind x w
      unfold Nd.val at hNd
      obtain ⟨d, hd⟩ : ∃ d, d = domP l S kind k := ⟨_, rfl⟩
      rw [← hd] at HST HD
      clear hd
      cases s with
      | false =>
        have HE := Lib.hid (show out = selTo (domP l S kind) (k + 1) by rw [HST.out, HD.out]; simpa using HO.out)
        clear HO HST HD
        go_wp2
        go_roundg (n - (k + 1))
        case measure => omega
        case rel => exact ⟨k + 1, out, by omega, rfl, by go_num, hown, hW, HE⟩
      | true =>
        go_wp2_with fail
        refine hNd.mono ?_; rintro e w5 ⟨rfl, hx5⟩
        have hW5 := below_step hW hx5
        have hown5 := own_keep hown hx5
        clear hNd hx5 hown hW rk c0 c1 c2 c3 hS5
        by_cases hkd : x.kind = kind
        · have g1 : (x.kind == kind) = true := by rw [beq_iff_eq]; exact hkd
          have HE := Lib.hid (show out ++ [(k : Int)] = selTo (domP l S kind) (k + 1) by rw [HST.out, HD.out, g1, HO.out]; rfl)
          clear HO HST HD hkd
          go_wp2_with (at_builtin; go_loud (refine wpList_append_any _ rfl (.tmp 35) (.tmp 37) _ rfl w.heap.size 3 iI _ 1 8 Try.underlying40 hiI hzI hzI1 hzI2 rfl (by decide) _ out.length (ints out) rfl (hown5.alloc _) _ (some ⟨w5.heap.size, 0, none⟩) 1 1 [.int .i64 k] rfl (one_reads w5 3 1 [.int .i64 k] rfl) (by intro u hu; simp at hu; subst hu; rfl) (by simp only [maxLen]; omega) (by omega) (by have := hW5.size; simp; omega) ?_; intro v6 w6 hown6 hg6 hat6))
          have hW6 := push_below (hW5.alloc hW5.size _) hg6 (own_from hown5)
          go_wp2
          go_roundg (n - (k + 1))
          case measure => omega
          case rel => exact ⟨k + 1, out ++ [(k : Int)], by omega, rfl, by go_num, by simpa [ints] using hown6, hW6, HE⟩
        · have g1 : (x.kind == kind) = false := by rw [beq_eq_false_iff_ne]; exact hkd
          have HE := Lib.hid (show out = selTo (domP l S kind) (k + 1) by rw [HST.out, HD.out, g1]; simpa using HO.out)
          clear HO HST HD hkd
          go_wp2
          go_roundg (n - (k + 1))
          case measure => omega
          case rel => exact ⟨k + 1, out, by omega, rfl, by go_num, hown5, hW5, HE⟩
    · obtain rfl : k = n := by omega
      have HE := Lib.hid (show out = R by rw [HO.out, HR.out])
      obtain ⟨AR, cR, rfl, hIR, _⟩ := own_list hown (fun z hz => by
        rw [HO.out] at hz
        obtain ⟨j, e, hj, _⟩ := selTo_mem.1 hz
        simp [Lit.wf, IntKind.min, IntKind.max, IntKind.signed, IntKind.bits]
        omega) (by omega)
      have hel := HE.out
      subst hel
      go_wp2
      go_ret
      exact ⟨AR, cR, rfl, hIR, hW⟩
end
end Go.Proofs.Ytdkijmiflommeaa
