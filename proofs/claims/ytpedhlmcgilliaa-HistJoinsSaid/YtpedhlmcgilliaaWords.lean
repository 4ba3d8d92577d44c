/- The words at the head of the dump, read without running through all of them. -/
import Derived.Test.YtpedhlmcgilliaaRows
import Derived.Test.YtpedhlmcgilliaaHead
import Derived.JoinedOf
namespace Go.Proofs.Ytpedhlmcgilliaa
abbrev sp : Char := Char.ofNat 32
theorem wordsSigns_app : ∀ (w r : List Char), (sp ∉ w) → wordsSigns (w ++ sp :: r) = w :: wordsSigns r
  | [], r, _ => by simp [wordsSigns]
  | c :: w, r, h => by
    have hc : c ≠ sp := fun e => h (by simp [e])
    have ih := wordsSigns_app w r (fun e => h (by simp [e]))
    rw [List.cons_append, wordsSigns, ih]
    · exact hc
theorem words_cut {l s rest : List Char} (h : l = "harness".toList ++ sp :: (s ++ sp :: ("cut".toList ++ sp :: rest))) (hs : isSumSigns s = true) (hn : sp ∉ s) :
    behindMainWord (wordsSigns l) = "cut".toList :: wordsSigns rest := by
  rw [h, wordsSigns_app _ _ (by decide), wordsSigns_app _ _ hn, wordsSigns_app _ _ (by decide)]
  simp [behindMainWord, hs]
theorem strip_cut (r : List (List Char)) : stripLifts liftWords ("cut".toList :: r) = ([], "cut".toList :: r) := by
  simp [liftWords, stripLifts]
section
variable {P : Program} {r : List (List Char)} (h : behindMainWord (wordsSigns P.initOrder.toList) = "cut".toList :: r)
include h
theorem headLifts_cut : P.headLifts = [] := by
  unfold Program.headLifts
  rw [h, strip_cut]
  rfl
theorem make_cut : P.make = some .cut := by
  unfold Program.make
  rw [h]
  simp
theorem liftsFinal_cut : P.liftsFinal = false := by
  have := headLifts_cut h
  unfold Program.liftsFinal
  rw [h]
  simp [this]
theorem mayEnter_cut (h1 : P.laysLater = false) (h2 : P.bearsReflect = false) (h3 : P.doorRows.isEmpty = true) : P.mayEnter = true := by
  unfold Program.mayEnter
  rw [h]
  have h4 : P.doorRows = [] := by simpa using h3
  dsimp only
  rw [strip_cut]
  simp [h1, h2, Program.doorFits, h4]
end
def Try.sumSigns : List Char := ((Try.head.drop 8).take 64).map Char.ofNat
def Try.rest : List Char := (Try.head.drop 77).map Char.ofNat
theorem Try.init_shape : Try.head.map Char.ofNat = "harness".toList ++ sp :: (Try.sumSigns ++ sp :: ("cut".toList ++ sp :: Try.rest)) := by kernel_rfl
theorem Try.sum_signs : isSumSigns Try.sumSigns = true := by kernel_rfl
theorem no_blank {s : List Char} (h : isSumSigns s = true) : sp ∉ s := by
  unfold isSumSigns at h
  simp only [Bool.and_eq_true, List.all_eq_true] at h
  intro hm
  have := h.2 _ hm
  revert this
  decide
theorem Try.words : behindMainWord (wordsSigns Try.prog.initOrder.toList) = "cut".toList :: wordsSigns Try.rest := words_cut (Try.head_list.trans Try.init_shape) Try.sum_signs (no_blank Try.sum_signs)
theorem Try.mayEnter : Try.prog.mayEnter = true := mayEnter_cut Try.words (by kernel_rfl) (by kernel_rfl) (by kernel_rfl)
theorem Try.make : Try.prog.make = some .cut := make_cut Try.words
theorem Try.liftsFinal : Try.prog.liftsFinal = false := liftsFinal_cut Try.words
end Go.Proofs.Ytpedhlmcgilliaa
