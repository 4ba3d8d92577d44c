/- List once more, its row owned by the call. -/
import Derived.Test.YtdkijmiflommeaaEligM
set_option linter.unusedVariables false
namespace Go.Proofs.Ytdkijmiflommeaa
open Go.RowKit
set_option maxHeartbeats 4000000
set_option maxRecDepth 100000
theorem set_ListOwn {w : World} {g b n gw gs : Nat} {W : Nat → Int} {S : Nat → Bool} {vH : Value} {H : List Int} (h : SetIs w g b n gw gs W S vH H) (hwf : ∀ z ∈ H, (Lit.int .i64 z).wf = true) (hl : H.length ≤ 1024) :
    Calls Try.prog 41 #[.pointer (some ⟨g, 0, none⟩)] w fun e w' => ∃ v, e = .returned v ∧ w'.ownsRow w.heap.size 3 1 v H.length (ints H) ∧ Below w.heap.size w w' := by
  have hN := set_none h
  obtain ⟨c0, c1, c2, c3, _⟩ := h.blk.cells4
  obtain ⟨iI, hiI, hzI, hzI1, hzI2⟩ := info_parts Try.infoI
  obtain ⟨A0, a0, rfl, hI0, _⟩ := own_list h.rH hwf (by omega)
  have hR := hI0.reads
  go_enter Try.func41, Try.ntmps41
  go_wp2_with fail
  refine hN.mono ?_; rintro e w' ⟨rfl, rfl⟩
  go_wp2_with (at_builtin; go_loud (refine wpList_append_any _ rfl _ (.tmp 8) _ rfl w.heap.size 3 iI _ 1 8 Try.underlying40 hiI hzI hzI1 hzI2 rfl (by decide) (.slice none 0 0) 0 [] rfl (World.ownsRow_nil _ _ _ _) _ A0 H.length a0 (ints H) rfl hR (ints_one' H) (by simp only [maxLen]; omega) (by omega) (Nat.le_refl _) ?_; intro v6 w6 hown6 hg6 hat6))
  have hown7 : w6.ownsRow w.heap.size 3 1 v6 H.length (ints H) := by simpa using hown6
  have hW6 := push_below (Below.refl w.heap.size w) hg6 (fun k hk => by simp [Value.ownBlock] at hk)
  go_wp2
  go_ret
  exact ⟨v6, by simp, hown7, hW6⟩
end Go.Proofs.Ytdkijmiflommeaa
