/- Lemmas for the claim's proof: Head Words Frame Open Pair. -/
import Derived.Test.YtcpfekhpbjkgeaaProg
import Derived.KernelRfl
import Derived.Test.YtcpfekhpbjkgeaaRows
import Derived.JoinedOf
import Derived.WalkKit
import Derived.ProofKit
import Derived.SizedLaws
import Derived.WalkLawsBesides
import Derived.Deep.AppendLies
import Derived.Lib.Hide
import Derived.Deep.Draws
import Derived.Laws.OwnMore
import Derived.Lib.SmallJoins
section
/- The signs at the head of the dump, as numbers. -/
namespace Go.Proofs.Ytcpfekhpbjkgeaa
def Try.head : List Nat :=
  [104, 97, 114, 110, 101, 115, 115, 32, 54, 57, 100, 54, 51, 57, 101, 53, 51, 98, 55, 52, 53, 98, 51, 57, 51, 98, 53, 98, 48, 53,
   54, 102, 52, 50, 55, 52, 50, 57, 99, 49, 102, 56, 100, 52, 56, 98, 56, 52, 51, 55, 49, 102, 54, 97, 51, 57, 97, 55, 50, 55,
   50, 48, 48, 53, 99, 98, 54, 101, 55, 97, 57, 54, 32, 99, 117, 116, 32, 97, 116, 32, 100, 105, 115, 116, 114, 105, 98, 117, 116, 97,
   114, 121, 47, 100, 105, 115, 116, 114, 105, 98, 117, 116, 97, 114, 121, 108, 97, 119, 50, 49, 46, 87, 104, 101, 101, 108, 80, 97, 114, 116,
   115, 32, 100, 105, 115, 116, 114, 105, 98, 117, 116, 97, 114, 121, 47, 100, 105, 115, 116, 114, 105, 98, 117, 116, 97, 114, 121, 108, 97, 119,
   50, 49, 46, 87, 104, 101, 101, 108, 80, 108, 97, 121, 115, 32, 100, 105, 115, 116, 114, 105, 98, 117, 116, 97, 114, 121, 47, 100, 105, 115,
   116, 114, 105, 98, 117, 116, 97, 114, 121, 108, 97, 119, 50, 49, 46, 87, 104, 101, 101, 108, 78, 111, 98, 111, 100, 121, 32, 100, 105, 115,
   116, 114, 105, 98, 117, 116, 97, 114, 121, 47, 100, 105, 115, 116, 114, 105, 98, 117, 116, 97, 114, 121, 108, 97, 119, 50, 50, 46, 72, 101,
   97, 108, 116, 104, 80, 108, 97, 121, 115, 32, 100, 105, 115, 116, 114, 105, 98, 117, 116, 97, 114, 121, 47, 100, 105, 115, 116, 114, 105, 98,
   117, 116, 97, 114, 121, 108, 97, 119, 50, 50, 46, 72, 101, 97, 108, 116, 104, 82, 105, 115, 101, 115, 32, 100, 105, 115, 116, 114, 105, 98,
   117, 116, 97, 114, 121, 47, 100, 105, 115, 116, 114, 105, 98, 117, 116, 97, 114, 121, 108, 97, 119, 50, 50, 46, 72, 101, 97, 108, 116, 104,
   82, 101, 110, 97, 109, 101, 115, 32, 100, 105, 115, 116, 114, 105, 98, 117, 116, 97, 114, 121, 47, 100, 105, 115, 116, 114, 105, 98, 117, 116,
   97, 114, 121, 108, 97, 119, 50, 50, 46, 72, 101, 97, 108, 116, 104, 78, 111, 98, 111, 100, 121, 32, 100, 105, 115, 116, 114, 105, 98, 117,
   116, 97, 114, 121, 47, 100, 105, 115, 116, 114, 105, 98, 117, 116, 97, 114, 121, 108, 97, 119, 52, 49, 46, 84, 114, 97, 99, 101, 83, 104,
   97, 114, 101, 115, 32, 100, 105, 115, 116, 114, 105, 98, 117, 116, 97, 114, 121, 47, 100, 105, 115, 116, 114, 105, 98, 117, 116, 97, 114, 121,
   108, 97, 119, 52, 49, 46, 84, 114, 97, 99, 101, 69, 114, 114, 115, 32, 100, 105, 115, 116, 114, 105, 98, 117, 116, 97, 114, 121, 47, 100,
   105, 115, 116, 114, 105, 98, 117, 116, 97, 114, 121, 108, 97, 119, 52, 49, 46, 84, 114, 97, 99, 101, 78, 111, 98, 111, 100, 121]
theorem Try.head_eq : Try.prog.initOrder = String.ofList (Try.head.map Char.ofNat) := by kernel_rfl
theorem Try.head_list : Try.prog.initOrder.toList = Try.head.map Char.ofNat := by rw [Try.head_eq, String.toList_ofList]
end Go.Proofs.Ytcpfekhpbjkgeaa
end
section
/- The words at the head of the dump, read without running through all of them. -/
namespace Go.Proofs.Ytcpfekhpbjkgeaa
abbrev sp : Char := Char.ofNat 32
theorem wordsSigns_app : ∀ (w r : List Char), (sp ∉ w) → wordsSigns (w ++ sp :: r) = w :: wordsSigns r
  | [], r, _ => by simp [wordsSigns]
  | c :: w, r, h => by
    have hc : c ≠ sp := fun e => h (by simp [e])
    have ih := wordsSigns_app w r (fun e => h (by simp [e]))
    rw [List.cons_append, wordsSigns, ih]
    · exact hc
theorem words_cut {l s rest : List Char} (h : l = "harness".toList ++ sp :: (s ++ sp :: ("cut".toList ++ sp :: rest))) (hs : isSumSigns s = true) (hn : sp ∉ s) :
    behindMainWord (wordsSigns l) = "cut".toList :: wordsSigns rest := by
  rw [h, wordsSigns_app _ _ (by decide), wordsSigns_app _ _ hn, wordsSigns_app _ _ (by decide)]
  simp [behindMainWord, hs]
theorem strip_cut (r : List (List Char)) : stripLifts liftWords ("cut".toList :: r) = ([], "cut".toList :: r) := by
  simp [liftWords, stripLifts]
section
variable {P : Program} {r : List (List Char)} (h : behindMainWord (wordsSigns P.initOrder.toList) = "cut".toList :: r)
include h
theorem headLifts_cut : P.headLifts = [] := by
  unfold Program.headLifts
  rw [h, strip_cut]
  rfl
theorem make_cut : P.make = some .cut := by
  unfold Program.make
  rw [h]
  simp
theorem liftsFinal_cut : P.liftsFinal = false := by
  have := headLifts_cut h
  unfold Program.liftsFinal
  rw [h]
  simp [this]
theorem mayEnter_cut (h1 : P.laysLater = false) (h2 : P.bearsReflect = false) (h3 : P.doorRows.isEmpty = true) : P.mayEnter = true := by
  unfold Program.mayEnter
  rw [h]
  have h4 : P.doorRows = [] := by simpa using h3
  dsimp only
  rw [strip_cut]
  simp [h1, h2, Program.doorFits, h4]
end
def Try.sumSigns : List Char := ((Try.head.drop 8).take 64).map Char.ofNat
def Try.rest : List Char := (Try.head.drop 77).map Char.ofNat
theorem Try.init_shape : Try.head.map Char.ofNat = "harness".toList ++ sp :: (Try.sumSigns ++ sp :: ("cut".toList ++ sp :: Try.rest)) := by kernel_rfl
theorem Try.sum_signs : isSumSigns Try.sumSigns = true := by kernel_rfl
theorem no_blank {s : List Char} (h : isSumSigns s = true) : sp ∉ s := by
  unfold isSumSigns at h
  simp only [Bool.and_eq_true, List.all_eq_true] at h
  intro hm
  have := h.2 _ hm
  revert this
  decide
theorem Try.words : behindMainWord (wordsSigns Try.prog.initOrder.toList) = "cut".toList :: wordsSigns Try.rest := words_cut (Try.head_list.trans Try.init_shape) Try.sum_signs (no_blank Try.sum_signs)
theorem Try.mayEnter : Try.prog.mayEnter = true := mayEnter_cut Try.words (by kernel_rfl) (by kernel_rfl) (by kernel_rfl)
theorem Try.make : Try.prog.make = some .cut := make_cut Try.words
theorem Try.liftsFinal : Try.prog.liftsFinal = false := liftsFinal_cut Try.words
end Go.Proofs.Ytcpfekhpbjkgeaa
end
section
/- The frame of a law's row, once for all laws: from a walk that ends in true and writes nothing that was there, to the row. -/
set_option linter.unusedVariables false
namespace Go.Proofs.Ytcpfekhpbjkgeaa
open Go.ChangeShapes Go.WideShapes Go.ChangeAt Go.RowKit

theorem Try.own : ownKnob Try.prog.godebug = none := by kernel_rfl
theorem Try.laidOut : laidOutB Try.prog = true := by kernel_rfl

section
variable {H : Type} {enc : TypeId × Value → H} {P : Program}
theorem post_of_below {f : Func} {s : ChangeSpec} {apart fresh handsOn again : Bool} {W W' : World} {args : Array Value} {v : Value} {ds gs : List (DataW H)} {before pa pv : List MemPlace}
    (hW : DataW.Whole enc P f.params.toList s.vars apart W args.toList ds gs before)
    (hres : ∀ (b : Nat) (sp : Nat → Bool) (hd : Bool), DataW.TrodAll enc P W' b sp hd f.resultTypes.toList (v.resultList f.resultTypes.size) (s.fn H (ds ++ gs)).results [])
    (hargs : ∀ sp : Nat → Bool, (∀ p ∈ before, sp p.block = true) → DataW.TrodAll enc P W' 0 sp true f.params.toList args.toList (s.fn H (ds ++ gs)).args pa)
    (hvars : ∀ sp : Nat → Bool, (∀ p ∈ before, sp p.block = true) → DataW.TrodVars enc P W' sp s.vars (s.fn H (ds ++ gs)).vars pv)
    (hps : before = pa ++ pv) (hb : Below W.heap.size W W')
    (hok : ∀ (j : Nat) (t : TypeId) (r : Value), f.resultTypes[j]? = some t → (v.resultList f.resultTypes.size)[j]? = some r → Value.okWide P W' .any 0 t r) :
    s.post enc P f apart fresh handsOn again W args v W' := by
  have hlt : ∀ p ∈ before, p.block < W.heap.size := fun p hp => hW.lt p hp
  have hold : ∀ p ∈ before, (fun b => decide (b < W.heap.size)) p.block = true := fun p hp => by simpa using hlt p hp
  refine ⟨ds, gs, before, [], pa, pv, hW, hres _ _ _, hargs _ hold, hvars _ hold, World.keptBut_mono (fun p hp => ⟨hp, ?_⟩) (hb.frame (· ∈ before)), fun _ => ?_⟩
  · rw [hps, List.mem_append] at hp
    exact Or.inr hp
  · obtain ⟨_, _, _, _, _, hz, hn⟩ := hW
    refine ⟨hok, _, _, ([] ++ pa) ++ pv, ⟨[] ++ pa, pv, trodAll_append (hargs _ (fun _ _ => rfl)) (hres _ _ _), hvars _ (fun _ _ => rfl), rfl, ?_, ?_⟩, ?_⟩
    · intro b off hp
      have hin : MemPlace.cell b off ∈ before := by rw [hps]; simpa using hp
      rw [hb.frozen (hlt _ hin)]
      exact hz b off hin
    · intro ha
      have := hn ha
      rw [hps] at this
      simpa using this
    · intro p hp _
      rw [hps]
      simpa using hp

theorem trodAll_below (hl : laidOutB P = true) {W W' : World} (hb : Below W.heap.size W W') :
    ∀ (ts : List TypeId) (vs : List Value) (ds : List (DataW H)) (ps : List MemPlace), ts.all (fun t => P.readableRec t && decide (t < P.types.size)) = true →
      DataW.TrodAll enc P W 0 (fun _ => true) true ts vs ds ps → (∀ x ∈ ps, x.block < W.heap.size) → ∀ sp : Nat → Bool, (∀ p ∈ ps, sp p.block = true) → DataW.TrodAll enc P W' 0 sp true ts vs ds ps := by
  intro ts
  induction ts with
  | nil =>
    intro vs ds ps _ h _ sp _
    cases vs <;> cases ds <;> simp_all [DataW.TrodAll]
  | cons t ts ih =>
    intro vs ds ps hr h hlt sp hsp
    cases vs with
    | nil => cases ds <;> exact h.elim
    | cons v vs =>
      cases ds with
      | nil => exact h.elim
      | cons d ds =>
        obtain ⟨p, q, h1, h2, rfl⟩ := h
        simp only [List.all_cons, Bool.and_eq_true, decide_eq_true_eq] at hr
        refine ⟨p, q, WideElems.Trod_stays hl hr.1.1 hr.1.2 h1 (fun x hx => hb.same (hlt x (by simp [hx]))) (fun x hx => hsp x (by simp [hx])), ?_, rfl⟩
        exact ih vs ds q hr.2 h2 (fun x hx => hlt x (by simp [hx])) sp (fun x hx => hsp x (by simp [hx]))
end

section
variable {H : Type} {enc : TypeId × Value → H} {C : Checked}
theorem law_lifted {os : Os} {k : FuncId} {fn : Func} {s : ChangeSpec} {tb : TypeId}
    (own : ownKnob C.prog.godebug = none) (started : os.Started) (noInit : C.prog.inits.idxOf? k = none) (hfn : C.prog.funcs[k]? = some fn)
    (witness : ∃ (w : World) (tape : Tape) (i : Input), w.os = os ∧ (w.forCall tape i).Shaped C.prog ∧ i.vars = [] ∧ Input.okWide C.prog (w.forCall tape i) .any w.heap.size k i ∧
      s.pre6 enc C.prog fn [] false (w.forCall tape i).memory i.args ∧ ({} : Assume).holds C.prog (lone (Frame.enter C.prog k i.args .normal) [] (w.forCall tape i)))
    (hl : laidOutB C.prog = true) (hr : fn.params.toList.all (fun t => C.prog.readableRec t && decide (t < C.prog.types.size)) = true) (hv : s.vars = []) (hrt : fn.resultTypes = #[tb]) (hub : C.prog.underlying tb = some .bool)
    (hspec : ∀ ds : List (DataW H), ds.length = fn.params.size → s.fn H ds = { results := [.lit (.bool true)], args := ds })
    (walk : ∀ (W : World) (base : Nat) (args : Array Value) (ds : List (DataW H)) (p : List MemPlace),
      (∀ (j : Nat) t v, fn.params[j]? = some t → args[j]? = some v → Value.okWide C.prog W .any base t v) →
      DataW.TrodAll enc C.prog W 0 (fun _ => true) true fn.params.toList args.toList ds p →
      (∀ x ∈ p, x.block < W.heap.size) →
      (DataW.weightsEach C.prog fn.params.toList ds).all (· ≤ reachBytes) = true →
      Calls C.prog k args W fun e W' => e = .returned (.bool true) ∧ Below W.heap.size W W') :
    ReturnsInHanded {} C os k .any (s.pre6 enc C.prog fn [] false) (s.post enc C.prog fn false true false false) := by
  refine returnsInHanded_of_change_sized own started noInit hfn witness ?_
  intro W base args ds gs before hval hW _ hsz _
  have hW' := hW
  obtain ⟨p, q, hA, hV, rfl, hfz, hnd⟩ := hW
  rw [hv] at hV
  obtain ⟨rfl, rfl⟩ := trodVars_none hV
  have hvt : s.plain.varTypes C.prog = [] := by
    have : s.plain.vars = [] := hv
    simp [ChangeSpec.plain, DataSpec.varTypes] at this ⊢; simp [this]
  have hlen : ∀ (ts : List TypeId) (vs : List Value) (ds : List (DataW H)) (p : List MemPlace), DataW.TrodAll enc C.prog W 0 (fun _ => true) true ts vs ds p → ds.length = ts.length := by
    intro ts
    induction ts with
    | nil => intro vs ds p h; cases vs <;> cases ds <;> simp_all [DataW.TrodAll]
    | cons t ts ih =>
      intro vs ds p h
      cases vs with
      | nil => cases ds <;> exact h.elim
      | cons v vs =>
        cases ds with
        | nil => exact h.elim
        | cons d ds =>
          obtain ⟨p, q, h1, h2, rfl⟩ := h
          simp [ih vs ds q h2]
  have hfn' := hspec ds (by rw [hlen _ _ _ _ hA]; simp)
  have hlt : ∀ x ∈ p, x.block < W.heap.size := fun x hx => by simpa using hW'.lt x (by simp [hx])
  simp only [List.append_nil] at hW' hsz ⊢
  rw [hvt] at hsz
  simp only [List.append_nil] at hsz
  refine (walk W base args ds p hval hA hlt hsz).mono fun e W' ⟨he, hb⟩ => ?_
  subst he
  refine ⟨_, rfl, post_of_below (pa := p) (pv := []) hW' ?_ ?_ ?_ (by simp) hb ?_⟩
  · intro b sp hd
    simp only [List.append_nil, hfn', hrt]
    exact trodAll_mk1 (shut_bool hub _)
  · intro sp hsp
    simp only [List.append_nil, hfn']
    exact trodAll_below hl hb _ _ _ _ hr hA hlt sp hsp
  · intro sp _
    rw [hv]
    simp only [List.append_nil, hfn']
    rfl
  · exact ok_one (f := fn) hrt rfl (okWide_bool_mk hub _)
end
theorem joined_mk {P : Program} {f : FuncId} {fn : Func} {s : ChangeSpec} {c : OpenClaim}
    (h1 : c.wf (OpenSpec.ofChange s) = true) (h2 : laidOutB P = true) (h3 : mapsRowed P = true) (h4 : fn.params.all (P.readableRec ·) = true) (h5 : namedTie P c.named s.vars = true)
    (h6 : (c.stops == []) = true) (h7 : (P.stops == []) = true) (h8 : (c.knobs == []) = true) (h9 : (P.stopKnobs == []) = true) (h10 : (c.inPlace == P.inPlace f) = true) (h11 : (c.unfollowed == P.unfollowed f) = true)
    (h12 : (c.recurses == P.recurses f) = true) (h13 : (c.named == P.varsNamed f) = true) (h14 : (c.maps == (fn.params.toList ++ s.plain.varTypes P).any (P.mapsRec ·)) = true) (h15 : (c.ifaces == (fn.params.toList ++ s.plain.varTypes P).any (P.ifacesRec ·)) = true)
    (h16 : (c.mapsOut == P.mapsAmong fn.resultTypes.toList) = true) (h17 : (c.loops == (fn.params.toList ++ s.plain.varTypes P).any (P.loopsFrom ·)) = true) (h18 : (c.wideKeys == (fn.params.toList ++ s.plain.varTypes P ++ fn.resultTypes.toList).any (P.wideKeysFrom ·)) = true)
    (h19 : s.vars.all (P.varReadable ·) = true) (h20 : fn.resultTypes.all (fun t => P.readableRec t && decide (t < P.types.size)) = true) (h21 : (c.ifacesOut == fn.resultTypes.toList.any (P.ifacesRec ·)) = true) (h22 : (c.loopsOut == fn.resultTypes.toList.any (P.loopsFrom ·)) = true)
    (h23 : (c.plainKeys == P.plainKeys) = true) (h24 : c.shortTexts.isNone = true) (h25 : P.stopsHeard = true) (h26 : P.mayEnter = true) (h27 : (c.lifted == P.liftsFinal) = true) (h28 : (P.make == some c.make) = true)
    (h29 : (c.kinds == (if c.domain.isEmpty then [] else fn.params.toList.map fun t => match P.underlying t with | some (.int k) => some k | _ => none)) = true) (h30 : (c.pinned == c.pinnedBy) = true)
    (h31 : (c.veiled == (fn.params.toList ++ s.plain.varTypes P ++ fn.resultTypes.toList).any (P.veiledRec ·)) = true) (h32 : c.veiledFits P fn.params.toList (fn.params.toList ++ s.plain.varTypes P ++ fn.resultTypes.toList) = true) :
    joinedFacts P f fn s c = true := by
  simp only [joinedFacts, Bool.and_eq_true]
  exact ⟨⟨⟨⟨⟨⟨⟨⟨⟨⟨⟨⟨⟨⟨⟨⟨⟨⟨⟨⟨⟨⟨⟨⟨⟨⟨⟨⟨⟨⟨⟨h1, h2⟩, h3⟩, h4⟩, h5⟩, h6⟩, h7⟩, h8⟩, h9⟩, h10⟩, h11⟩, h12⟩, h13⟩, h14⟩, h15⟩, h16⟩, h17⟩, h18⟩, h19⟩, h20⟩, h21⟩, h22⟩, h23⟩, h24⟩, h25⟩, h26⟩, h27⟩, h28⟩, h29⟩, h30⟩, h31⟩, h32⟩

theorem Try.mapsRowed : mapsRowed Try.prog = true := by kernel_rfl
theorem Try.stops : (Try.prog.stops == []) = true := by kernel_rfl
theorem Try.stopKnobs : (Try.prog.stopKnobs == []) = true := by kernel_rfl
theorem Try.plainKeys : Try.prog.plainKeys = true := by kernel_rfl
theorem Try.stopsHeard : Try.prog.stopsHeard = true := by kernel_rfl
end Go.Proofs.Ytcpfekhpbjkgeaa
end
section
/- Arguments opened: integers to their bounds, slices of integers to lists. -/
set_option linter.unusedVariables false
namespace Go.Proofs.Ytcpfekhpbjkgeaa
open Go.ChangeShapes Go.WideShapes Go.ChangeAt Go.RowKit
theorem u64_of_wf {x : Int} (h : (Lit.int .u64 x).wf = true) : 0 ≤ x ∧ x < 18446744073709551616 := by
  simp [Lit.wf, IntKind.min, IntKind.max, IntKind.signed, IntKind.bits] at h
  exact ⟨by omega, by omega⟩
theorem i64_of_wf {x : Int} (h : (Lit.int .i64 x).wf = true) : -9223372036854775808 ≤ x ∧ x ≤ 9223372036854775807 := by
  simp [Lit.wf, IntKind.min, IntKind.max, IntKind.signed, IntKind.bits] at h
  exact ⟨by omega, by omega⟩
theorem Try.cellsU64 : Try.prog.cellsOf 161 = 1 := by kernel_rfl
theorem Try.cellsInt : Try.prog.cellsOf 3 = 1 := by kernel_rfl

/-! A slice value that reads as a list of cells: nil, empty, or at an address below block B. -/
theorem block_of_add (a : Addr) (n : Nat) : (a.add n).block = a.block := by unfold Addr.add; split <;> rfl
theorem add_of_add (a : Addr) (i j : Nat) : (a.add i).add j = a.add (i + j) := by
  unfold Addr.add
  by_cases hi : i = 0 <;> by_cases hj : j = 0 <;> simp [hi, hj, Nat.add_assoc]
def Reads (w : World) (B size : Nat) (A : Option Addr) (n : Nat) (xs : List Value) : Prop :=
  xs.length = n * size ∧ (0 < n → ∃ ad, A = some ad ∧ ad.block < B ∧ ∀ j u, xs[j]? = some u → w.cell? (ad.add j) = some u)
section
variable {w w' : World} {B B' size n : Nat} {A : Option Addr} {xs : List Value}
theorem Reads.none_ : Reads w B size A 0 [] := ⟨by simp, fun h => absurd h (by omega)⟩
theorem Reads.at_ {k : Nat} (h : Reads w B 1 A n xs) (hk : k < n) : ∃ ad u, A = some ad ∧ ad.block < B ∧ xs[k]? = some u ∧ w.cell? (ad.add k) = some u := by
  obtain ⟨ad, e, hb, hc⟩ := h.2 (by omega)
  have hl : k < xs.length := by have := h.1; omega
  exact ⟨ad, xs[k], e, hb, List.getElem?_eq_getElem hl, hc k _ (List.getElem?_eq_getElem hl)⟩
theorem Reads.keep (h : Reads w B size A n xs) (hk : ∀ p : Addr, p.block < B → w'.cell? p = w.cell? p) : Reads w' B size A n xs :=
  ⟨h.1, fun hn => by
    obtain ⟨ad, e, hb, hc⟩ := h.2 hn
    exact ⟨ad, e, hb, fun j u hu => (hk _ (by rw [block_of_add]; exact hb)).trans (hc j u hu)⟩⟩
theorem Reads.more (h : Reads w B size A n xs) (hB : B ≤ B') : Reads w B' size A n xs :=
  ⟨h.1, fun hn => by
    obtain ⟨ad, e, hb, hc⟩ := h.2 hn
    exact ⟨ad, e, by omega, hc⟩⟩
theorem Reads.below (h : Reads w B size A n xs) (hb : Below B w w') : Reads w' B size A n xs := h.keep fun _ hp => hb.cell hp
theorem Reads.drew (h : Reads w B size A n xs) : Reads w.drew B size A n xs := h
theorem Reads.drewN (h : Reads w B size A n xs) (k : Nat) : Reads (w.drewN k) B size A n xs := h
theorem Reads.alloc (h : Reads w B size A n xs) (hB : B ≤ w.heap.size) (o : Obj) : Reads (w.alloc o) B size A n xs := h.keep fun p hp => World.cell?_alloc_lt w o p (by omega)
theorem Reads.setCell (h : Reads w B size A n xs) {p : Addr} (hB : B ≤ p.block) (u : Value) : Reads (w.setCell p u) B size A n xs :=
  h.keep fun q hq => World.cell?_setCell_other w p q u (fun e => by subst e; omega)
theorem Reads.grown (h : Reads w B size A n xs) {row : Option Nat} (hg : w.grownBy w' row) (hB : B ≤ w.heap.size) (hr : ∀ g, row = some g → B ≤ g) : Reads w' B size A n xs :=
  h.keep fun p hp => World.cell?_of_block (hg.block p.block (by omega) (fun e => by have := hr _ e.symm; omega))
theorem Reads.cut (h : Reads w B size A n xs) {k cap : Nat} (hk : k ≤ n) (hc : n ≤ cap) :
    Reads w B size (if cap = k then A else A.map (·.add (k * size))) (n - k) (xs.drop (k * size)) := by
  refine ⟨by rw [List.length_drop, h.1, Nat.sub_mul], fun hn => ?_⟩
  obtain ⟨ad, rfl, hb, hcell⟩ := h.2 (by omega)
  rw [if_neg (by omega)]
  refine ⟨ad.add (k * size), rfl, by rw [block_of_add]; exact hb, fun j u hu => ?_⟩
  rw [add_of_add]
  exact hcell _ u (by rw [← hu, List.getElem?_drop])
theorem Reads.take (h : Reads w B size A n xs) {k : Nat} (hk : k ≤ n) : Reads w B size A k (xs.take (k * size)) := by
  refine ⟨?_, fun hn => ?_⟩
  · rw [List.length_take, h.1]; exact Nat.min_eq_left (Nat.mul_le_mul_right _ hk)
  · obtain ⟨ad, rfl, hb, hcell⟩ := h.2 (by omega)
    refine ⟨ad, rfl, hb, fun j u hu => hcell j u ?_⟩
    rw [List.getElem?_take] at hu
    split at hu
    · exact hu
    · cases hu
theorem Reads.of_own {base : Nat} {e : TypeId} {c : Nat} (h : w.ownsRow base e size (.slice A n c) n xs) : Reads w w.heap.size size A n xs := by
  refine ⟨h.1, fun hn => ?_⟩
  obtain ⟨g, cap, hv, _, hlt⟩ := h.form hn
  have hA : A = some ⟨g, 0, none⟩ := by injection hv
  subst hA
  exact ⟨_, rfl, hlt, h.cells (g := g) rfl⟩
end
/-- A slice of integers of kind k: the list zs, within the kind's bounds, its length within the form's reach. -/
structure IsList (w : World) (k : IntKind) (A : Option Addr) (n c : Nat) (zs : List Int) : Prop where
  reads : Reads w w.heap.size 1 A n (zs.map (Value.int k))
  len : zs.length = n
  cap : n ≤ c
  small : c ≤ 9223372036854775807
  wf : ∀ z ∈ zs, (Lit.int k z).wf = true
  reach : n ≤ 17592186043904
theorem isList_nil (w : World) (k : IntKind) : IsList w k none 0 0 [] where
  reads := Reads.none_
  len := rfl
  cap := Nat.le_refl _
  small := Nat.zero_le _
  wf := fun z hz => by cases hz
  reach := by simp
theorem sized_at {P : Program} {H : Type} {ts : List TypeId} {ds : List (DataW H)} (h : (DataW.weightsEach P ts ds).all (· ≤ reachBytes) = true) {j : Nat} {t : TypeId} {d : DataW H} (ht : ts[j]? = some t) (hd : ds[j]? = some d) :
    ∀ (e : TypeId) (elems spare : List (DataW H)), d = .slice elems spare → P.underlying t = some (.slice e) → (elems.length + spare.length) * P.bytesOf e ≤ reachBytes :=
  fun e elems spare he hu => sized_slice h ht (by rw [hd, he]) hu
theorem Try.bytesU64 : Try.prog.bytesOf 161 = 8 := by kernel_rfl
theorem Try.bytesInt : Try.prog.bytesOf 3 = 8 := by kernel_rfl
set_option maxRecDepth 100000 in
theorem open_list {H : Type} {enc : TypeId × Value → H} {W : World} {base : Nat} {r : Reach} {b0 : Nat} {t e : TypeId} {k : IntKind} {v : Value} {d : DataW H} {p : List MemPlace}
    (ht : Try.prog.underlying t = some (.slice e)) (he : Try.prog.underlying e = some (.int k)) (hc : Try.prog.cellsOf e = 1) (hby : Try.prog.bytesOf e = 8)
    (hv : Value.okWide Try.prog W r b0 t v) (h : DataW.Trod enc Try.prog W base (fun _ => true) true t v d p) (hlt : ∀ x ∈ p, x.block < W.heap.size)
    (hs : ∀ (e : TypeId) (elems spare : List (DataW H)), d = .slice elems spare → Try.prog.underlying t = some (.slice e) → (elems.length + spare.length) * Try.prog.bytesOf e ≤ reachBytes) :
    ∃ (A : Option Addr) (n c : Nat) (zs : List Int), v = .slice A n c ∧ IsList W k A n c zs := by
  obtain ⟨a0, len, cap, rfl⟩ := okWide_slice ht hv
  obtain ⟨fuel, hf⟩ := h
  rcases open_ints ht he hc hf with ⟨hcs, hx⟩ | ⟨a, len', cap', zs, hcs, _, hl, hm, hz, hx, hcell, hwz⟩
  · simp [Value.cells] at hcs
    obtain ⟨rfl, rfl, rfl⟩ := hcs
    exact ⟨none, 0, 0, [], rfl, isList_nil W k⟩
  · simp [Value.cells] at hcs
    obtain ⟨rfl, rfl, rfl⟩ := hcs
    simp only [Prod.mk.injEq] at hx
    obtain ⟨rfl, rfl⟩ := hx
    simp only [if_true] at hz
    have hlen : (zs.take len).length = len := by simp; omega
    refine ⟨some a, len, cap, zs.take len, rfl, ⟨⟨by rw [List.length_map, hlen, Nat.mul_one], fun hn => ⟨a, rfl, ?_, fun j u hu => ?_⟩⟩, hlen, hl, (by unfold maxLen at hm; omega), fun n hn => hwz n (List.mem_of_mem_take hn), ?_⟩⟩
    · have h0 : 0 < zs.length := by omega
      cases zs with
      | nil => simp at h0
      | cons z zs =>
        have := hlt (MemPlace.cell a.block a.off) (by simp [MemPlace.row])
        exact this
    · rw [List.getElem?_map, List.getElem?_take] at hu
      split at hu
      · rename_i hj
        rw [hcell j (by omega)]
        rw [List.getElem?_eq_getElem (by omega)] at hu
        simp only [Option.map_some, Option.some.injEq] at hu
        rw [← hu]
        simp [List.getD, List.getElem?_eq_getElem (show j < zs.length by omega)]
      · cases hu
    · have := hs e _ _ rfl ht
      rw [hby] at this
      simp only [lits, List.length_map, List.length_take, List.length_drop, reachBytes] at this
      omega

/-! Cells behind a call that leaves all that was there as it was. -/
theorem below_step {w u v : World} (h : Below w.heap.size w u) (k : Below u.heap.size u v) : Below w.heap.size w v := h.trans (k.mono h.size)
theorem kept0 {u v : World} {p : Addr} {x : Value} (hb : Below u.heap.size u v) (hp : p.block < u.heap.size) (h : u.cell? p = some x) : v.cell? p = some x := (hb.cell hp).trans h
theorem below_alloc' {B : Nat} {w u : World} {o : Obj} (h : Below B w u) (hs : B < u.heap.size) : Below B w (u.alloc o) := h.alloc (Nat.le_of_lt hs) o
theorem below_setCell' {B : Nat} {w u : World} {p : Addr} {v : Value} (h : Below B w u) (hs : B ≤ p.block) : Below B w (u.setCell p v) := h.setCell hs v
theorem keptc {u v : World} {b o : Nat} {x : Value} (hb : Below u.heap.size u v) (hp : b < u.heap.size) (h : u.cell? ⟨b, o, none⟩ = some x) : v.cell? ⟨b, o, none⟩ = some x := (hb.cell (p := ⟨b, o, none⟩) hp).trans h
theorem kepta {u v : World} {ad : Addr} {k : Nat} {x : Value} (hb : Below u.heap.size u v) (hp : ad.block < u.heap.size) (h : u.cell? (ad.add k) = some x) : v.cell? (ad.add k) = some x := (hb.cell (p := ad.add k) (by rw [block_of_add]; exact hp)).trans h
theorem frozenc {u v : World} {b o : Nat} {x : Bool} (hb : Below u.heap.size u v) (hp : b < u.heap.size) (h : u.frozen? ⟨b, o, none⟩ = x) : v.frozen? ⟨b, o, none⟩ = x := (hb.frozen (p := ⟨b, o, none⟩) hp).trans h
theorem keptc_a {u v : World} {b o : Nat} {x : Value} {ob : Obj} (hb : Below u.heap.size u v) (hp : b < u.heap.size) (h : u.cell? ⟨b, o, none⟩ = some x) : (v.alloc ob).cell? ⟨b, o, none⟩ = some x :=
  (World.cell?_alloc_lt v ob ⟨b, o, none⟩ (Nat.lt_of_lt_of_le hp hb.size)).trans (keptc hb hp h)
theorem kepta_a {u v : World} {ad : Addr} {k : Nat} {x : Value} {ob : Obj} (hb : Below u.heap.size u v) (hp : ad.block < u.heap.size) (h : u.cell? (ad.add k) = some x) : (v.alloc ob).cell? (ad.add k) = some x :=
  (World.cell?_alloc_lt v ob (ad.add k) (by rw [block_of_add]; exact Nat.lt_of_lt_of_le hp hb.size)).trans (kepta hb hp h)
theorem frozenc_a {u v : World} {b o : Nat} {x : Bool} {ob : Obj} (hb : Below u.heap.size u v) (hp : b < u.heap.size) (h : u.frozen? ⟨b, o, none⟩ = x) : (v.alloc ob).frozen? ⟨b, o, none⟩ = x :=
  (World.frozen?_alloc_old v ob ⟨b, o, none⟩ (Nat.ne_of_lt (Nat.lt_of_lt_of_le hp hb.size))).trans (frozenc hb hp h)
theorem alloc_a {u : World} {ad : Addr} {k : Nat} {x : Value} {ob : Obj} (hp : ad.block < u.heap.size) (h : u.cell? (ad.add k) = some x) : (u.alloc ob).cell? (ad.add k) = some x :=
  (World.cell?_alloc_lt u ob (ad.add k) (by rw [block_of_add]; exact hp)).trans h
theorem alloc_ad {u : World} {ad : Addr} {k : Nat} {x : Value} {ob : Obj} (hp : ad.block < u.heap.size) (h : u.cell? (ad.add k) = some x) : (u.alloc ob).drew.cell? (ad.add k) = some x := alloc_a hp h
theorem set_a {u : World} {ad p : Addr} {k : Nat} {x y : Value} (hp : ad.block ≠ p.block) (h : u.cell? (ad.add k) = some x) : (u.setCell p y).cell? (ad.add k) = some x :=
  (World.cell?_setCell_other u p (ad.add k) y (fun e => hp (by rw [e, block_of_add]))).trans h
/-- A block that was laid just ahead of a call, behind it. -/
theorem newblk {u v : World} {cs : Array Value} {t : TypeId} (hx : Below (u.alloc (.cells cs t)).drew.heap.size (u.alloc (.cells cs t)).drew v) :
    (∀ i x, cs[i]? = some x → v.cell? ⟨u.heap.size, i, none⟩ = some x) ∧ (∀ i, v.frozen? ⟨u.heap.size, i, none⟩ = false) ∧ u.heap.size < v.heap.size := by
  have hz : u.heap.size < (u.alloc (.cells cs t)).drew.heap.size := by simp
  refine ⟨fun i x h => (hx.cell (p := ⟨u.heap.size, i, none⟩) hz).trans ?_, fun i => (hx.frozen (p := ⟨u.heap.size, i, none⟩) hz).trans ?_, Nat.lt_of_lt_of_le hz hx.size⟩
  · simp [h]
  · simp
theorem keptc_d {u v : World} {b o : Nat} {x : Value} (hb : Below u.drew.heap.size u.drew v) (hp : b < u.heap.size) (h : u.cell? ⟨b, o, none⟩ = some x) : v.cell? ⟨b, o, none⟩ = some x := keptc hb hp h
theorem frozenc_d {u v : World} {b o : Nat} {x : Bool} (hb : Below u.drew.heap.size u.drew v) (hp : b < u.heap.size) (h : u.frozen? ⟨b, o, none⟩ = x) : v.frozen? ⟨b, o, none⟩ = x := frozenc hb hp h
theorem lt_d {u v : World} {b : Nat} (hb : Below u.drew.heap.size u.drew v) (hp : b < u.heap.size) : b < v.heap.size := Nat.lt_of_lt_of_le hp hb.size
theorem below_d {w u v : World} (hb : Below u.drew.heap.size u.drew v) (h : Below w.heap.size w u) : Below w.heap.size w v := below_step h.drew hb
theorem keptc_ad {u v : World} {b o : Nat} {x : Value} {ob : Obj} (hb : Below (u.alloc ob).drew.heap.size (u.alloc ob).drew v) (hp : b < u.heap.size) (h : u.cell? ⟨b, o, none⟩ = some x) : v.cell? ⟨b, o, none⟩ = some x := keptc hb (by simp only [World.size_drew, World.size_alloc]; omega) ((World.cell?_alloc_lt u ob ⟨b, o, none⟩ hp).trans h)
theorem frozenc_ad {u v : World} {b o : Nat} {x : Bool} {ob : Obj} (hb : Below (u.alloc ob).drew.heap.size (u.alloc ob).drew v) (hp : b < u.heap.size) (h : u.frozen? ⟨b, o, none⟩ = x) : v.frozen? ⟨b, o, none⟩ = x := frozenc hb (by simp only [World.size_drew, World.size_alloc]; omega) ((World.frozen?_alloc_old u ob ⟨b, o, none⟩ (Nat.ne_of_lt hp)).trans h)
theorem lt_ad {u v : World} {b : Nat} {ob : Obj} (hb : Below (u.alloc ob).drew.heap.size (u.alloc ob).drew v) (hp : b < u.heap.size) : b < v.heap.size := Nat.lt_of_lt_of_le (by simp only [World.size_drew, World.size_alloc]; omega) hb.size
theorem below_ad {w u v : World} {ob : Obj} (hb : Below (u.alloc ob).drew.heap.size (u.alloc ob).drew v) (h : Below w.heap.size w u) : Below w.heap.size w v := below_step (h.alloc h.size ob).drew hb
theorem lt_0 {u v : World} {z : Nat} (hb : Below u.heap.size u v) (h : z < u.heap.size) : z < v.heap.size := Nat.lt_of_lt_of_le h hb.size
theorem below_0 {w u v : World} (hb : Below u.heap.size u v) (h : Below w.heap.size w u) : Below w.heap.size w v := below_step h hb
theorem lt_a {u v : World} {z : Nat} {ob : Obj} (hb : Below u.heap.size u v) (h : z < u.heap.size) : z < (v.alloc ob).heap.size := by
  have := hb.size; simp only [World.size_alloc]; omega
theorem below_a {w u v : World} {ob : Obj} (hb : Below u.heap.size u v) (h : Below w.heap.size w u) : Below w.heap.size w (v.alloc ob) := (below_step h hb).alloc (below_step h hb).size _
theorem kept1 {u v : World} {o : Obj} {p : Addr} {x : Value} (hb : Below (u.alloc o).heap.size (u.alloc o) v) (hp : p.block < u.heap.size) (h : u.cell? p = some x) : v.cell? p = some x :=
  (hb.cell (by simp only [World.size_alloc]; omega)).trans ((World.cell?_alloc_lt u o p hp).trans h)
theorem kept2 {u v : World} {o o' : Obj} {p : Addr} {x : Value} (hb : Below ((u.alloc o).alloc o').heap.size ((u.alloc o).alloc o') v) (hp : p.block < u.heap.size) (h : u.cell? p = some x) : v.cell? p = some x :=
  (hb.cell (by simp only [World.size_alloc]; omega)).trans ((World.cell?_alloc_lt _ o' p (by simp only [World.size_alloc]; omega)).trans ((World.cell?_alloc_lt u o p hp).trans h))
end Go.Proofs.Ytcpfekhpbjkgeaa
end
section
/- A struct of two numbers of 64 bits, as an argument. -/
set_option linter.unusedVariables false
namespace Go.Proofs.Ytcpfekhpbjkgeaa
open Go.ChangeShapes Go.WideShapes Go.ChangeAt Go.RowKit Go.Joins Go.Deep
set_option maxRecDepth 100000 in
theorem open_pair {H : Type} {enc : TypeId × Value → H} {W : World} {base : Nat} {sp : Nat → Bool} {held : Bool} {r : Reach} {b0 : Nat} {t : TypeId} {f0 f1 : Field} {v : Value} {d : DataW H} {p : List MemPlace}
    (hs : Try.prog.underlying t = some (.struct #[f0, f1])) (hone : oneCellFields Try.prog #[f0, f1] = true) (hC : Try.prog.cellsOf t = 2) (e0 : Try.prog.underlying f0.type = some (.int .u64)) (e1 : Try.prog.underlying f1.type = some (.int .u64))
    (hv : Value.okWide Try.prog W r b0 t v) (h : DataW.Trod enc Try.prog W base sp held t v d p) :
    ∃ x y : Int, v = .agg #[.int .u64 x, .int .u64 y] ∧ (0 ≤ x ∧ x < 18446744073709551616) ∧ (0 ≤ y ∧ y < 18446744073709551616) := by
  obtain ⟨c0, c1, y0, y1, m, rfl, rfl, rfl, hy0, hy1⟩ := open_agg2 hs hone hC hv h
  obtain ⟨a, ea, _, wa⟩ := DataW.trod_int e0 hy0
  obtain ⟨b, eb, _, wb⟩ := DataW.trod_int e1 hy1
  simp at ea eb
  subst ea eb
  exact ⟨a, b, rfl, u64_of_wf wa, u64_of_wf wb⟩
set_option maxRecDepth 100000 in
theorem open_pairK {H : Type} {enc : TypeId × Value → H} {W : World} {base : Nat} {sp : Nat → Bool} {held : Bool} {r : Reach} {b0 : Nat} {t : TypeId} {f0 f1 : Field} {v : Value} {d : DataW H} {p : List MemPlace} {k0 k1 : IntKind}
    (hs : Try.prog.underlying t = some (.struct #[f0, f1])) (hone : oneCellFields Try.prog #[f0, f1] = true) (hC : Try.prog.cellsOf t = 2) (e0 : Try.prog.underlying f0.type = some (.int k0)) (e1 : Try.prog.underlying f1.type = some (.int k1))
    (hv : Value.okWide Try.prog W r b0 t v) (h : DataW.Trod enc Try.prog W base sp held t v d p) :
    ∃ x y : Int, v = .agg #[.int k0 x, .int k1 y] ∧ (Lit.int k0 x).wf = true ∧ (Lit.int k1 y).wf = true := by
  obtain ⟨c0, c1, y0, y1, m, rfl, rfl, rfl, hy0, hy1⟩ := open_agg2 hs hone hC hv h
  obtain ⟨a, ea, _, wa⟩ := DataW.trod_int e0 hy0
  obtain ⟨b, eb, _, wb⟩ := DataW.trod_int e1 hy1
  simp at ea eb
  subst ea eb
  exact ⟨a, b, rfl, wa, wb⟩
end Go.Proofs.Ytcpfekhpbjkgeaa
end
