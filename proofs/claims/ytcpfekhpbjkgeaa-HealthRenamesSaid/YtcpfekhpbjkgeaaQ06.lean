/- Lemmas for the claim's proof: StabG Lists Nodes. -/
import Derived.Deep.OwnRows
import Derived.Deep.Slices
import Derived.Deep.Fields
import Derived.ChangeSame
import Derived.Test.YtcpfekhpbjkgeaaQ03
import Derived.Test.YtcpfekhpbjkgeaaQ05
section
/- slices.stableCmpFunc, SortStableFunc, of items. -/
set_option linter.unusedVariables false
namespace Go.Proofs.Ytcpfekhpbjkgeaa
open Go.RowKit Go.Sort
set_option maxHeartbeats 16000000
set_option maxRecDepth 1000000
theorem mul_dvd_next {c a : Nat} (h : c ∣ a) : c ∣ a + c := (Nat.dvd_add_right h).2 (Nat.dvd_refl c)
/-- So far each block of twenty is sorted. -/
def Twenty (d : Array It) (a : Nat) : Prop := ∀ x, 20 ∣ x → x < a → SortedIn itB x (x + 20) d
theorem twenty_step {d d' : Array It} {a : Nat} (h : Twenty d a) (ha : 20 ∣ a) (hp : PermIn a (a + 20) d d') (hs : SortedIn itB a (a + 20) d') : Twenty d' (a + 20) := fun x hx hlt => by
  by_cases e : x = a
  · subst e; exact hs
  · have hxa : x < a := by
      rcases Nat.lt_or_ge x a with c | c
      · exact c
      · have := mul_next ha hx (by omega); omega
    have := mul_next hx ha hxa
    exact sorted_same (h x hx hxa) (fun i h1 h2 => hp.2.1 i (Or.inl (by omega)))
theorem twenty_end {d d' : Array It} {a n : Nat} (h : Twenty d a) (ha : 20 ∣ a) (hn : n < a + 20) (hp : PermIn a n d d') (hs : SortedIn itB a n d') : Blocks itB 20 n d' := fun x hx => by
  by_cases e : x = a
  · subst e; rw [Nat.min_eq_right (by omega)]; exact hs
  · by_cases hxa : x < a
    · have := mul_next hx ha hxa
      exact sorted_same (sorted_part (h x hx hxa) (Nat.le_refl _) (Nat.min_le_left _ _)) (fun i h1 h2 => hp.2.1 i (Or.inl (by omega)))
    · have := mul_next ha hx (by omega)
      exact fun i j h1 h2 h3 => by omega
theorem half_parts {bs n a : Nat} {d : Array It} (h : Half itB bs n a d) (ha : 2 * bs ∣ a) (hb : a + 2 * bs ≤ n) : SortedIn itB a (a + bs) d ∧ SortedIn itB (a + bs) (a + 2 * bs) d := by
  have hd : bs ∣ a := Nat.dvd_trans (Nat.dvd_mul_left bs 2) ha
  refine ⟨?_, ?_⟩
  · have := h.one a hd (Nat.le_refl _)
    rwa [Nat.min_eq_left (by omega)] at this
  · have := h.one (a + bs) (mul_dvd_next hd) (by omega)
    rwa [Nat.min_eq_left (by omega), show a + bs + bs = a + 2 * bs by omega] at this
theorem half_last {bs n a : Nat} {d : Array It} (h : Half itB bs n a d) (ha : 2 * bs ∣ a) (hb : n < a + 2 * bs) (hm : a + bs < n) : SortedIn itB a (a + bs) d ∧ SortedIn itB (a + bs) n d := by
  have hd : bs ∣ a := Nat.dvd_trans (Nat.dvd_mul_left bs 2) ha
  refine ⟨?_, ?_⟩
  · have := h.one a hd (Nat.le_refl _)
    rwa [Nat.min_eq_left (by omega)] at this
  · have := h.one (a + bs) (mul_dvd_next hd) (by omega)
    rwa [Nat.min_eq_right (by omega)] at this
theorem half_whole {bs n a : Nat} {d : Array It} (h : Half itB bs n a d) (ha : 2 * bs ∣ a) (hm : n ≤ a + bs) : SortedIn itB a n d := by
  have hd : bs ∣ a := Nat.dvd_trans (Nat.dvd_mul_left bs 2) ha
  have := h.one a hd (Nat.le_refl _)
  rwa [Nat.min_eq_right (by omega)] at this
theorem stable_items (blk off cap : Nat) (d0 d : Array It) (w0 w : World)
    (R : RowK encIt 2 w0 blk off d0) (hs : d0.size = d.size) (S : SWK encIt 2 w0 blk off d w) (hsz : d.size < 1152921504606846976) :
    Calls Try.prog 71 #[.slice (some ⟨blk, off, none⟩) d.size cap, .int .i64 d.size, .func (.func 51) #[] #[]] w fun e w' =>
      e = .returned (.tuple #[]) ∧ ∃ d', PermIn 0 d.size d d' ∧ SortedIn itB 0 d.size d' ∧ SWK encIt 2 w0 blk off d' w' := by
  have S0 : Aside (SWK encIt 2 w0 blk off d w) := S
  have HIN := Lib.hid (fun (a b : Nat) (dk : Array It) (w : World) (hk : dk.size = d.size) (S : SWK encIt 2 w0 blk off dk w) (h1 : a ≤ b) (h2 : b ≤ d.size) => (hk ▸ insertion_items blk off cap a b d0 dk w0 w R (by omega) S h1 (by omega) (by omega) :
    Calls Try.prog 81 #[.slice (some ⟨blk, off, none⟩) d.size cap, .int .i64 a, .int .i64 b, .func (.func 51) #[] #[]] w fun e w' =>
      e = .returned (.tuple #[]) ∧ ∃ d', PermIn a b dk d' ∧ SortedIn itB a b d' ∧ SWK encIt 2 w0 blk off d' w'))
  have HSY := Lib.hid (fun (a m b : Nat) (dk : Array It) (w : World) (hk : dk.size = d.size) (S : SWK encIt 2 w0 blk off dk w) (h1 : a < m) (h2 : m < b) (h3 : b ≤ d.size) (s1 : SortedIn itB a m dk) (s2 : SortedIn itB m b dk) => (hk ▸ symMerge_items blk off cap d0 w0 R (by omega) (b - a) a m b dk w (by omega) S (Nat.le_refl _) h1 h2 (by omega) s1 s2 :
    Calls Try.prog 82 #[.slice (some ⟨blk, off, none⟩) d.size cap, .int .i64 a, .int .i64 m, .int .i64 b, .func (.func 51) #[] #[]] w fun e w' =>
      e = .returned (.tuple #[]) ∧ ∃ d', PermIn a b dk d' ∧ SortedIn itB a b d' ∧ SWK encIt 2 w0 blk off d' w'))
  obtain ⟨n, hn⟩ : ∃ n, n = d.size := ⟨_, rfl⟩
  rw [← hn] at HIN HSY hsz ⊢
  have HN := Lib.hid hn
  clear S hs R
  go_enter Try.func71, Try.ntmps71
  clear hn
  go_wp2_with fail
  go_loopg [7, 8] n (fun gk s7 s8 wr => ∃ (a b : Nat) (dk : Array It), s7 = .int .i64 a ∧ s8 = .int .i64 b ∧ Hid (b = a + 20) ∧ a ≤ n ∧ gk = n - a ∧ Hid (20 ∣ a) ∧ dk.size = n ∧ Hid (Twenty dk a) ∧ Hid (PermIn 0 n d dk) ∧ Aside (SWK encIt 2 w0 blk off dk wr))
  case atStart => exact ⟨0, 20, d, rfl, rfl, Lib.hid rfl, Nat.zero_le _, rfl, Lib.hid ⟨0, rfl⟩, HN.out.symm, Lib.hid (fun x _ h => absurd h (Nat.not_lt_zero _)), Lib.hid (permIn_refl d 0 n), S0⟩
  case round =>
    clear S0
    obtain ⟨a, b, dk, rfl, rfl, HAB, han, rfl, HD, hsk, HT, HP, S1⟩ := hrel
    by_cases hle : b ≤ n
    · have hlez : (b : Int) ≤ (n : Int) := by omega
      have wb20 : IntKind.i64.wrap ((b : Int) + 20) = (b : Int) + 20 := by rw [IntKind.wrap_i64]; omega
      have hcall := HIN.out a b dk wr hsk S1.out (by have := HAB.out; omega) hle
      clear S1
      go_wp2_with fail
      refine hcall.mono ?_; rintro e w2 ⟨rfl, d', hP, hS, hW⟩
      have HT2 := Lib.hid (show Twenty d' b by
        have h1 := HT.out
        have h2 := HD.out
        rw [HAB.out] at hP hS ⊢
        exact twenty_step h1 h2 hP hS)
      have HD2 := Lib.hid (show 20 ∣ b by
        have h2 := HD.out
        rw [HAB.out]
        exact mul_dvd_next h2)
      have HP2 := Lib.hid (permIn_trans _ _ _ _ _ HP.out (permIn_mono _ _ _ _ 0 n (Nat.zero_le _) hle (by omega) hP))
      have hz : d'.size = n := hP.1.trans hsk
      have S2 : Aside (SWK encIt 2 w0 blk off d' w2) := hW
      clear hcall hP hS hW HT HP HD
      go_wp2
      go_roundg (n - b)
      case measure => have := HAB.out; omega
      case rel => exact ⟨b, b + 20, d', rfl, by go_num, Lib.hid rfl, hle, rfl, HD2, hz, HT2, HP2, S2⟩
    · have hlez : ¬ (b : Int) ≤ (n : Int) := by omega
      have hcall := HIN.out a n dk wr hsk S1.out han (Nat.le_refl _)
      clear S1
      go_wp2_with fail
      refine hcall.mono ?_; rintro e w2 ⟨rfl, d', hP, hS, hW⟩
      have HB2 := Lib.hid (show Blocks itB 20 n d' from twenty_end HT.out HD.out (by have := HAB.out; omega) hP hS)
      have HP2 := Lib.hid (permIn_trans _ _ _ _ _ HP.out (permIn_mono _ _ _ _ 0 n (Nat.zero_le _) (Nat.le_refl _) (by omega) hP))
      have hz : d'.size = n := hP.1.trans hsk
      have S2 : Aside (SWK encIt 2 w0 blk off d' w2) := hW
      clear hcall hP hS hW HT HP HD hsk HAB han hle hlez HIN
      obtain ⟨u7, hu7⟩ : ∃ u7, u7 = Value.int .i64 (a : Int) := ⟨_, rfl⟩
      go_wp2_with fail
      go_loopg [6, 7, 8, 9] (n - 20) (fun gk s6 s7 s8 s9 wr => ∃ (bs : Nat) (dk : Array It), s6 = .int .i64 bs ∧ 20 ≤ bs ∧ gk = n - bs ∧ bs < 2 * n + 21 ∧ dk.size = n ∧ Hid (Blocks itB bs n dk) ∧ Hid (PermIn 0 n d dk) ∧ Aside (SWK encIt 2 w0 blk off dk wr))
      case atStart => exact ⟨20, d', rfl, Nat.le_refl _, rfl, by omega, hz, HB2, HP2, S2⟩
      case round =>
        clear S2 HB2 HP2 hz hu7
        obtain ⟨bs, dk, rfl, h20, rfl, hbs, hsk, HB, HP, S1⟩ := hrel
        by_cases hlt : bs < n
        · have hltz : (bs : Int) < (n : Int) := by omega
          obtain ⟨c, hc⟩ : ∃ c, c = 2 * bs := ⟨_, rfl⟩
          have wc1 : IntKind.i64.wrap (2 * (bs : Int)) = (c : Int) := by rw [IntKind.wrap_i64]; omega
          have wc2 : IntKind.i64.wrap ((bs : Int) * 2) = (c : Int) := by rw [IntKind.wrap_i64]; omega
          have HC := Lib.hid hc
          clear hc
          go_wp2_with fail
          obtain ⟨wo, rfl⟩ : ∃ wo, wo = wr := ⟨_, rfl⟩
          obtain ⟨dko, hdko⟩ : ∃ q, q = dk := ⟨_, rfl⟩
          rw [← hdko] at HB HP hsk S1
          clear hdko
          go_loopg [7, 8] n (fun g2 s7 s8 wr => ∃ (a b : Nat) (dj : Array It), s7 = .int .i64 a ∧ s8 = .int .i64 b ∧ Hid (b = a + c) ∧ a ≤ n ∧ g2 = n - a ∧ Hid (c ∣ a) ∧ dj.size = n ∧ Hid (Half itB bs n a dj) ∧ Hid (PermIn 0 n d dj) ∧ Aside (SWK encIt 2 w0 blk off dj wr))
          case atStart => exact ⟨0, c, dko, rfl, rfl, Lib.hid (Nat.zero_add c).symm, Nat.zero_le _, rfl, Lib.hid ⟨0, rfl⟩, hsk, Lib.hid (Half.start HB.out), HP, S1⟩
          case round =>
            clear S1
            obtain ⟨a, b, dk, rfl, rfl, HAB, han, rfl, HD, hsk2, HH, HP2, S1⟩ := hrel
            have HD' := Lib.hid (show 2 * bs ∣ a by
              have h2 := HD.out
              rwa [HC.out] at h2)
            by_cases hle : b ≤ n
            · have hlez : (b : Int) ≤ (n : Int) := by omega
              obtain ⟨m, hm⟩ : ∃ m, m = a + bs := ⟨_, rfl⟩
              have wm : IntKind.i64.wrap ((a : Int) + (bs : Int)) = (m : Int) := by rw [IntKind.wrap_i64]; omega
              have hab := HAB.out
              have hc := HC.out
              have wb2 : IntKind.i64.wrap ((b : Int) + (c : Int)) = (b : Int) + (c : Int) := by rw [IntKind.wrap_i64]; omega
              have hpt := half_parts HH.out HD'.out (by omega)
              have hcall := HSY.out a m b dk wr hsk2 S1.out (by omega) (by omega) hle (by rw [hm]; exact hpt.1) (by have := hpt.2; rwa [← hm, show a + 2 * bs = b by omega] at this)
              have HM := Lib.hid hm
              clear S1 hpt hm hab hc
              go_wp2_with fail
              refine hcall.mono ?_; rintro e w2 ⟨rfl, d', hP, hS, hW⟩
              have HH2 := Lib.hid (show Half itB bs n b d' by
                have hbe : b = a + 2 * bs := by have := HAB.out; have := HC.out; omega
                have h1 := HH.out
                have h2 := HD'.out
                rw [hbe] at hP hS ⊢
                exact h1.step h2 hP hS)
              have HD2 := Lib.hid (show c ∣ b by
                have h2 := HD.out
                rw [HAB.out]
                exact mul_dvd_next h2)
              have HP3 := Lib.hid (permIn_trans _ _ _ _ _ HP2.out (permIn_mono _ _ _ _ 0 n (Nat.zero_le _) hle (by omega) hP))
              have hz : d'.size = n := hP.1.trans hsk2
              have S2 : Aside (SWK encIt 2 w0 blk off d' w2) := hW
              clear hcall hP hS hW HH HP2 HD HD'
              go_wp2
              go_roundg (n - b)
              case measure => have := HAB.out; have := HC.out; omega
              case rel => exact ⟨b, b + c, d', rfl, by go_num, Lib.hid rfl, hle, rfl, HD2, hz, HH2, HP3, S2⟩
            · have hlez : ¬ (b : Int) ≤ (n : Int) := by omega
              obtain ⟨m, hm⟩ : ∃ m, m = a + bs := ⟨_, rfl⟩
              have wm : IntKind.i64.wrap ((a : Int) + (bs : Int)) = (m : Int) := by rw [IntKind.wrap_i64]; omega
              have hab := HAB.out
              have hc := HC.out
              by_cases hmn : m < n
              · have hmz : (m : Int) < (n : Int) := by omega
                have hpt := half_last HH.out HD'.out (by omega) (by omega)
                have hcall := HSY.out a m n dk wr hsk2 S1.out (by omega) (by omega) (Nat.le_refl _) (by rw [hm]; exact hpt.1) (by rw [hm]; exact hpt.2)
                have HM := Lib.hid hm
                clear S1 hpt hm hab hc
                go_wp2_with fail
                refine hcall.mono ?_; rintro e w2 ⟨rfl, d', hP, hS, hW⟩
                have HB2 := Lib.hid (show Blocks itB c n d' by
                  have hab := HAB.out
                  have hc := HC.out
                  rw [hc]
                  refine Half.over (a := a) ⟨fun x hx hlt => ?_, fun x hx hge => ?_⟩ HD'.out (by omega) hS
                  · have := mul_next hx HD'.out hlt
                    exact sorted_same (HH.out.two x hx hlt) (fun i h1 h2 => hP.2.1 i (Or.inl (by omega)))
                  · by_cases e : x = a
                    · subst e; exact sorted_part hS (Nat.le_refl _) (Nat.min_le_right _ _)
                    · exact sorted_part hS (by omega) (Nat.min_le_right _ _))
                have HP3 := Lib.hid (permIn_trans _ _ _ _ _ HP2.out (permIn_mono _ _ _ _ 0 n (Nat.zero_le _) (Nat.le_refl _) (by omega) hP))
                have hz : d'.size = n := hP.1.trans hsk2
                have S2 : Aside (SWK encIt 2 w0 blk off d' w2) := hW
                clear hcall hP hS hW HH HP2 HD HD'
                go_wp2
                go_roundg (n - c)
                case measure => have := HC.out; omega
                case rel => exact ⟨c, d', rfl, by have := HC.out; omega, rfl, by have := HC.out; omega, hz, HB2, HP3, S2⟩
              · have hmz : ¬ (m : Int) < (n : Int) := by omega
                have HB2 := Lib.hid (show Blocks itB c n dk by
                  rw [hc]
                  exact Half.over HH.out HD'.out (by omega) (half_whole HH.out HD'.out (by omega)))
                clear HH HD HD' hm hab hc
                go_wp2
                go_roundg (n - c)
                case measure => have := HC.out; omega
                case rel => exact ⟨c, dk, rfl, by have := HC.out; omega, rfl, by have := HC.out; omega, hsk2, HB2, HP2, S1⟩
        · have hltz : ¬ (bs : Int) < (n : Int) := by omega
          have HE := Lib.hid (show SortedIn itB 0 n dk by
            have := HB.out 0 ⟨0, rfl⟩
            rwa [Nat.zero_add, Nat.min_eq_right (by omega)] at this)
          go_wp2
          go_end0
          exact ⟨rfl, dk, HP.out, HE.out, S1.out⟩
end Go.Proofs.Ytcpfekhpbjkgeaa
end
section
/- Slices of integers, read by their places. -/
set_option linter.unusedVariables false
namespace Go.Proofs.Ytcpfekhpbjkgeaa
open Go.RowKit
section
variable {w w' : World} {K : IntKind} {A : Option Addr} {n c : Nat} {l : List Int}
theorem IsList.get (h : IsList w K A n c l) {k : Nat} (hk : k < n) :
    ∃ ad, A = some ad ∧ ad.block < w.heap.size ∧ w.cell? (ad.add k) = some (.int K (l.getD k 0)) ∧ (Lit.int K (l.getD k 0)).wf = true := by
  obtain ⟨ad, u, e, hb, hu, hc⟩ := h.reads.at_ hk
  have hl : k < l.length := by rw [h.len]; exact hk
  have e2 : l[k]? = some (l.getD k 0) := by rw [List.getD_eq_getElem?_getD, List.getElem?_eq_getElem hl]; rfl
  rw [List.getElem?_map, e2] at hu
  obtain rfl := Option.some.inj hu
  exact ⟨ad, e, hb, hc, h.wf _ (List.mem_of_getElem? e2)⟩
theorem IsList.keep (h : IsList w K A n c l) (hx : Below w.heap.size w w') : IsList w' K A n c l :=
  ⟨(h.reads.below hx).more hx.size, h.len, h.cap, h.small, h.wf, h.reach⟩
theorem IsList.cut (h : IsList w K A n c l) {k : Nat} (hk : k ≤ n) : IsList w K A k c (l.take k) where
  reads := ⟨by simp [List.length_take, h.len]; omega, fun hn => by
    obtain ⟨ad, e, hb, hc⟩ := h.reads.2 (by omega)
    refine ⟨ad, e, hb, fun j u hu => hc j u ?_⟩
    rw [List.getElem?_map, List.getElem?_take] at hu
    rw [List.getElem?_map]
    split at hu
    · exact hu
    · simp at hu⟩
  len := by rw [List.length_take, h.len]; omega
  cap := Nat.le_trans hk h.cap
  small := h.small
  wf := fun z hz => h.wf z (List.mem_of_mem_take hz)
  reach := Nat.le_trans hk h.reach
end
section
variable {w w' : World} {b : Nat} {t : TypeId} {n : Nat} {f : Nat → Value} {S : Nat → Prop}
theorem row_keep (h : w.rowIs b t n f) (hx : Below w.heap.size w w') : w'.rowIs b t n f := h.of_block (hx.block b h.lt)
theorem row_keepA {ob : Obj} (h : w.rowIs b t n f) (hx : Below (w.alloc ob).heap.size (w.alloc ob) w') : w'.rowIs b t n f := row_keep (h.alloc ob) hx
theorem row_keepD (h : w.rowIs b t n f) (hx : Below w.drew.heap.size w.drew w') : w'.rowIs b t n f := row_keep h.drew hx
theorem row_drewN (h : w.rowIs b t n f) (d : Nat) : (w.drewN d).rowIs b t n f := h
theorem row_mod (h : w.rowIs b t n f) (hx : Mod S w w') (hn : ¬ S b) : w'.rowIs b t n f := h.of_block (hx.block b h.lt hn)
/-- A row of integers of one's own is a list. -/
theorem row_list (h : w.rowIs b t n f) {K : IntKind} (l : List Int) (hl : l.length = n) (hf : ∀ i, i < n → f i = .int K (l.getD i 0)) (hwf : ∀ z ∈ l, (Lit.int K z).wf = true) {c : Nat} (hc : n ≤ c) (hs : c ≤ 9223372036854775807) (hr : n ≤ 17592186043904) :
    IsList w K (some ⟨b, 0, none⟩) n c l where
  reads := ⟨by simp [hl], fun hn => ⟨_, rfl, h.lt, fun j u hu => by
    rw [List.getElem?_map] at hu
    obtain ⟨z, hz, rfl⟩ := Option.map_eq_some_iff.1 hu
    have hj : j < n := by
      rcases Nat.lt_or_ge j l.length with h1 | h1
      · omega
      · rw [List.getElem?_eq_none h1] at hz; cases hz
    have e : (⟨b, 0, none⟩ : Addr).add j = ⟨b, j, none⟩ := by unfold Addr.add; split <;> simp_all
    rw [e, h.cell hj, hf j hj, List.getD_eq_getElem?_getD, hz]
    rfl⟩⟩
  len := hl
  cap := hc
  small := hs
  wf := hwf
  reach := hr
end
end Go.Proofs.Ytcpfekhpbjkgeaa
end
section
/- Nodes: what one is in memory, slices of them, and both as arguments. -/
set_option linter.unusedVariables false
namespace Go.Proofs.Ytcpfekhpbjkgeaa
open Go.ChangeShapes Go.WideShapes Go.ChangeAt Go.RowKit Go.Deep
structure Nd where
  name : ByteArray
  kind : Int
  above : Int
  weight : Int
  six : Bool
  hi : Int
  lo : Int
instance : Inhabited Nd := ⟨⟨ByteArray.empty, 0, 0, 0, false, 0, 0⟩⟩
/-- The node that nobody made. -/
def nd0 : Nd := ⟨ByteArray.empty, 0, 0, 0, false, 0, 0⟩
def Nd.cells (x : Nd) : List Value := [.string x.name, .int .i64 x.kind, .int .i64 x.above, .int .i64 x.weight, .bool x.six, .int .u64 x.hi, .int .u64 x.lo]
structure Nd.Wf (x : Nd) : Prop where
  name : x.name.size ≤ maxLen
  kind0 : -9223372036854775808 ≤ x.kind
  kind1 : x.kind ≤ 9223372036854775807
  above0 : -9223372036854775808 ≤ x.above
  above1 : x.above ≤ 9223372036854775807
  weight0 : -9223372036854775808 ≤ x.weight
  weight1 : x.weight ≤ 9223372036854775807
  hi0 : 0 ≤ x.hi
  hi1 : x.hi < 18446744073709551616
  lo0 : 0 ≤ x.lo
  lo1 : x.lo < 18446744073709551616
theorem nd0_wf : nd0.Wf := by
  constructor <;> decide
def flat (l : List Nd) : List Value := l.flatMap Nd.cells
theorem Nd.len (x : Nd) : x.cells.length = 7 := rfl
theorem flat_len : ∀ l : List Nd, (flat l).length = l.length * 7
  | [] => rfl
  | x :: l => by
    have := flat_len l
    simp only [flat, List.flatMap_cons, List.length_append, Nd.len, List.length_cons] at this ⊢
    omega
theorem flat_at : ∀ (l : List Nd) (i j : Nat), j < 7 → (flat l)[i * 7 + j]? = (l[i]?).bind fun x => x.cells[j]?
  | [], i, j, _ => by simp [flat]
  | x :: l, 0, j, h => by
    simp only [flat, List.flatMap_cons, Nat.zero_mul, Nat.zero_add, List.getElem?_cons_zero, Option.bind_some]
    rw [List.getElem?_append_left (by rw [Nd.len]; exact h)]
  | x :: l, i + 1, j, h => by
    have := flat_at l i j h
    simp only [flat, List.flatMap_cons] at this ⊢
    rw [List.getElem?_append_right (by rw [Nd.len]; omega), Nd.len, List.getElem?_cons_succ, ← this]
    congr 1
    omega
theorem flat_take (l : List Nd) (k : Nat) : (flat l).take (k * 7) = flat (l.take k) := by
  apply List.ext_getElem?
  intro i
  rw [List.getElem?_take]
  have e : i = i / 7 * 7 + i % 7 := by omega
  split
  · rename_i h
    rw [e, flat_at _ _ _ (by omega), flat_at _ _ _ (by omega), List.getElem?_take, if_pos (by omega)]
  · rename_i h
    rw [e, flat_at _ _ _ (by omega), List.getElem?_take, if_neg (by omega)]
    rfl
theorem flat_snoc (l : List Nd) (x : Nd) : flat (l ++ [x]) = flat l ++ x.cells := by simp [flat]
theorem cells_one (x : Nd) : ∀ u ∈ x.cells, u.oneCell' = true := by
  intro u hu
  simp [Nd.cells] at hu
  rcases hu with rfl | rfl | rfl | rfl | rfl | rfl | rfl <;> rfl
/-- A slice of nodes. -/
structure IsNodes (w : World) (A : Option Addr) (n c : Nat) (l : List Nd) : Prop where
  reads : Reads w w.heap.size 7 A n (flat l)
  len : l.length = n
  cap : n ≤ c
  small : c ≤ 9223372036854775807
  reach : n ≤ 8796093021952
  wf : ∀ x ∈ l, x.Wf
theorem isNodes_nil (w : World) : IsNodes w none 0 0 [] where
  reads := Reads.none_
  len := rfl
  cap := Nat.le_refl _
  small := Nat.zero_le _
  reach := by simp
  wf := fun z hz => by cases hz
theorem IsNodes.wfd {w : World} {A : Option Addr} {n c : Nat} {l : List Nd} (h : IsNodes w A n c l) (k : Nat) : (l.getD k nd0).Wf := by
  rcases Nat.lt_or_ge k l.length with hl | hl
  · have e : l[k]? = some (l.getD k nd0) := by rw [List.getD_eq_getElem?_getD, List.getElem?_eq_getElem hl]; rfl
    exact h.wf _ (List.mem_of_getElem? e)
  · rw [List.getD_eq_getElem?_getD, List.getElem?_eq_none hl]
    exact nd0_wf
/-- The cells of a node at an address. -/
structure NdAt (w : World) (ad : Addr) (k : Nat) (x : Nd) : Prop where
  name : w.cell? (ad.add (k * 7)) = some (.string x.name)
  kind : w.cell? ⟨(ad.add (k * 7)).block, (ad.add (k * 7)).off + 1, none⟩ = some (.int .i64 x.kind)
  above : w.cell? ⟨(ad.add (k * 7)).block, (ad.add (k * 7)).off + 2, none⟩ = some (.int .i64 x.above)
  weight : w.cell? ⟨(ad.add (k * 7)).block, (ad.add (k * 7)).off + 3, none⟩ = some (.int .i64 x.weight)
  six : w.cell? ⟨(ad.add (k * 7)).block, (ad.add (k * 7)).off + 4, none⟩ = some (.bool x.six)
  hi : w.cell? ⟨(ad.add (k * 7)).block, (ad.add (k * 7)).off + 5, none⟩ = some (.int .u64 x.hi)
  lo : w.cell? ⟨(ad.add (k * 7)).block, (ad.add (k * 7)).off + 6, none⟩ = some (.int .u64 x.lo)
theorem add_far (ad : Addr) (i j : Nat) (hj : 0 < j) : ad.add (i + j) = ⟨(ad.add i).block, (ad.add i).off + j, none⟩ := by
  rw [← add_of_add]
  generalize ad.add i = q
  unfold Addr.add
  rw [if_neg (by omega)]
theorem IsNodes.at_ {w : World} {A : Option Addr} {n c : Nat} {l : List Nd} (h : IsNodes w A n c l) {k : Nat} (hk : k < n) :
    ∃ ad, A = some ad ∧ ad.block < w.heap.size ∧ NdAt w ad k (l.getD k nd0) := by
  obtain ⟨ad, e, hb, hc⟩ := h.reads.2 (by omega)
  have hl : k < l.length := by rw [h.len]; exact hk
  have e2 : l[k]? = some (l.getD k nd0) := by rw [List.getD_eq_getElem?_getD, List.getElem?_eq_getElem hl]; rfl
  have hat : ∀ j u, j < 7 → (l.getD k nd0).cells[j]? = some u → w.cell? (ad.add (k * 7 + j)) = some u := fun j u hj hu => hc _ u (by rw [flat_at _ _ _ hj, e2]; exact hu)
  refine ⟨ad, e, hb, hat 0 _ (by omega) rfl, ?_, ?_, ?_, ?_, ?_, ?_⟩ <;> rw [← add_far _ _ _ (by omega)]
  · exact hat 1 _ (by omega) rfl
  · exact hat 2 _ (by omega) rfl
  · exact hat 3 _ (by omega) rfl
  · exact hat 4 _ (by omega) rfl
  · exact hat 5 _ (by omega) rfl
  · exact hat 6 _ (by omega) rfl
theorem IsNodes.keep {w w' : World} {A : Option Addr} {n c : Nat} {l : List Nd} (h : IsNodes w A n c l) (hx : Below w.heap.size w w') : IsNodes w' A n c l :=
  ⟨(h.reads.below hx).more hx.size, h.len, h.cap, h.small, h.reach, h.wf⟩
theorem IsNodes.cut {w : World} {A : Option Addr} {n c : Nat} {l : List Nd} (h : IsNodes w A n c l) {k : Nat} (hk : k ≤ n) : IsNodes w A k c (l.take k) :=
  ⟨flat_take l k ▸ h.reads.take hk, by rw [List.length_take, h.len]; omega, Nat.le_trans hk h.cap, h.small, Nat.le_trans hk h.reach, fun p hp => h.wf p (List.mem_of_mem_take hp)⟩
theorem IsNodes.reads' {w : World} {A : Option Addr} {n c : Nat} {l : List Nd} (h : IsNodes w A n c l) : Reads w w.heap.size 7 A n (flat l) := h.reads
section
variable {H : Type} {enc : TypeId × Value → H} {W : World} {base : Nat} {sp : Nat → Bool} {held : Bool}
/-- The fields of a node, as the form lays them. -/
structure NodeType (e : TypeId) (f0 f1 f2 f3 f4 g0 g1 g2 : Field) : Prop where
  he : Try.prog.underlying e = some (.struct #[f0, f1, f2, f3, f4])
  ha : Try.prog.underlying f4.type = some (.struct #[g0, g1, g2])
  hc : Try.prog.cellsOf e = 7
  c0 : f0.offset = 0 ∧ Try.prog.cellsOf f0.type = 1
  c1 : f1.offset = 1 ∧ Try.prog.cellsOf f1.type = 1
  c2 : f2.offset = 2 ∧ Try.prog.cellsOf f2.type = 1
  c3 : f3.offset = 3 ∧ Try.prog.cellsOf f3.type = 1
  c4 : f4.offset = 4 ∧ Try.prog.cellsOf f4.type = 3
  d0 : g0.offset = 0 ∧ Try.prog.cellsOf g0.type = 1
  d1 : g1.offset = 1 ∧ Try.prog.cellsOf g1.type = 1
  d2 : g2.offset = 2 ∧ Try.prog.cellsOf g2.type = 1
  e0 : Try.prog.underlying f0.type = some .string
  e1 : Try.prog.underlying f1.type = some (.int .i64)
  e2 : Try.prog.underlying f2.type = some (.int .i64)
  e3 : Try.prog.underlying f3.type = some (.int .i64)
  k0 : Try.prog.underlying g0.type = some .bool
  k1 : Try.prog.underlying g1.type = some (.int .u64)
  k2 : Try.prog.underlying g2.type = some (.int .u64)
theorem trod_node {e : TypeId} {f0 f1 f2 f3 f4 g0 g1 g2 : Field} (hT : NodeType e f0 f1 f2 f3 f4 g0 g1 g2) {fuel : Nat} {cs : List Value} {x : DataW H × List MemPlace}
    (h : DataW.trod enc Try.prog W base sp held fuel e cs = some x) : ∃ y : Nd, cs = y.cells ∧ y.Wf := by
  obtain ⟨ys, n, _, _, hlen, hyl, hf⟩ := DataW.trod_struct hT.he h
  rw [hT.hc] at hlen
  have hs : ys.length = 5 := hyl
  have some_of : ∀ i, i < 5 → ∃ y, ys[i]? = some y := fun i hi => ⟨_, List.getElem?_eq_getElem (by omega)⟩
  have t0 := hf 0 f0 rfl
  have t1 := hf 1 f1 rfl
  have t2 := hf 2 f2 rfl
  have t3 := hf 3 f3 rfl
  have t4 := hf 4 f4 rfl
  rw [hT.c0.1, hT.c0.2] at t0
  rw [hT.c1.1, hT.c1.2] at t1
  rw [hT.c2.1, hT.c2.2] at t2
  rw [hT.c3.1, hT.c3.2] at t3
  rw [hT.c4.1, hT.c4.2] at t4
  obtain ⟨y0, q0⟩ := some_of 0 (by omega)
  obtain ⟨y1, q1⟩ := some_of 1 (by omega)
  obtain ⟨y2, q2⟩ := some_of 2 (by omega)
  obtain ⟨y3, q3⟩ := some_of 3 (by omega)
  obtain ⟨y4, q4⟩ := some_of 4 (by omega)
  obtain ⟨s0, r0, _, w0⟩ := DataW.trod_string hT.e0 (t0.trans q0)
  obtain ⟨z1, r1, _, w1⟩ := DataW.trod_int hT.e1 (t1.trans q1)
  obtain ⟨z2, r2, _, w2⟩ := DataW.trod_int hT.e2 (t2.trans q2)
  obtain ⟨z3, r3, _, w3⟩ := DataW.trod_int hT.e3 (t3.trans q3)
  obtain ⟨zs, m, _, _, hlen2, hzl, hg⟩ := DataW.trod_struct hT.ha (t4.trans q4)
  have hs2 : zs.length = 3 := hzl
  have some_of2 : ∀ i, i < 3 → ∃ y, zs[i]? = some y := fun i hi => ⟨_, List.getElem?_eq_getElem (by omega)⟩
  have u0 := hg 0 g0 rfl
  have u1 := hg 1 g1 rfl
  have u2 := hg 2 g2 rfl
  rw [hT.d0.1, hT.d0.2] at u0
  rw [hT.d1.1, hT.d1.2] at u1
  rw [hT.d2.1, hT.d2.2] at u2
  obtain ⟨x0, v0⟩ := some_of2 0 (by omega)
  obtain ⟨x1, v1⟩ := some_of2 1 (by omega)
  obtain ⟨x2, v2⟩ := some_of2 2 (by omega)
  obtain ⟨b, r4, _⟩ := DataW.trod_bool hT.k0 (u0.trans v0)
  obtain ⟨z5, r5, _, w5⟩ := DataW.trod_int hT.k1 (u1.trans v1)
  obtain ⟨z6, r6, _, w6⟩ := DataW.trod_int hT.k2 (u2.trans v2)
  clear t0 t1 t2 t3 t4 u0 u1 u2 hf hg h
  match cs, hlen with
  | [a0, a1, a2, a3, a4, a5, a6], _ =>
    simp at r0 r1 r2 r3 r4 r5 r6
    subst r0 r1 r2 r3 r4 r5 r6
    have b1 := i64_of_wf w1
    have b2 := i64_of_wf w2
    have b3 := i64_of_wf w3
    have b5 := u64_of_wf w5
    have b6 := u64_of_wf w6
    exact ⟨⟨s0, z1, z2, z3, b, z5, z6⟩, rfl, ⟨w0, b1.1, b1.2, b2.1, b2.2, b3.1, b3.2, b5.1, b5.2, b6.1, b6.2⟩⟩
set_option maxRecDepth 100000 in
theorem open_node {r : Reach} {b0 : Nat} {e : TypeId} {f0 f1 f2 f3 f4 g0 g1 g2 : Field} (hT : NodeType e f0 f1 f2 f3 f4 g0 g1 g2) {v : Value} {d : DataW H} {p : List MemPlace}
    (hv : Value.okWide Try.prog W r b0 e v) (h : DataW.Trod enc Try.prog W base sp held e v d p) : ∃ x : Nd, v = .agg ⟨x.cells⟩ ∧ x.Wf := by
  obtain ⟨cs, rfl, _⟩ := okWide_struct hT.he hv
  obtain ⟨fuel, hf⟩ := h
  obtain ⟨x, hx, hw⟩ := trod_node hT hf
  refine ⟨x, ?_, hw⟩
  have : cs.toList = x.cells := by simpa [Value.cells] using hx
  rw [← this]
set_option maxRecDepth 100000 in
theorem open_nodes {r : Reach} {b0 : Nat} {t e : TypeId} {f0 f1 f2 f3 f4 g0 g1 g2 : Field} (hT : NodeType e f0 f1 f2 f3 f4 g0 g1 g2) (ht : Try.prog.underlying t = some (.slice e)) (hby : 16 ≤ Try.prog.bytesOf e) {v : Value} {d : DataW H} {p : List MemPlace}
    (hv : Value.okWide Try.prog W r b0 t v) (h : DataW.Trod enc Try.prog W base (fun _ => true) true t v d p) (hlt : ∀ x ∈ p, x.block < W.heap.size)
    (hs : ∀ (e : TypeId) (elems spare : List (DataW H)), d = .slice elems spare → Try.prog.underlying t = some (.slice e) → (elems.length + spare.length) * Try.prog.bytesOf e ≤ reachBytes) :
    ∃ (A : Option Addr) (n c : Nat) (l : List Nd), v = .slice A n c ∧ IsNodes W A n c l := by
  obtain ⟨a0, len, cap, rfl⟩ := okWide_slice ht hv
  obtain ⟨fuel, hf⟩ := h
  rcases open_slice ht hf with ⟨hcs, hx⟩ | ⟨a, len', cap', m, n, D, Pl, hcs, _, hl, hm, hmm, hx, hi⟩
  · simp [Value.cells] at hcs
    obtain ⟨rfl, rfl, rfl⟩ := hcs
    exact ⟨none, 0, 0, [], rfl, isNodes_nil W⟩
  · simp [Value.cells] at hcs
    obtain ⟨rfl, rfl, rfl⟩ := hcs
    simp only [if_true] at hmm
    subst hmm
    rw [hT.hc] at hx hi
    simp only [Prod.mk.injEq] at hx
    obtain ⟨rfl, rfl⟩ := hx
    have hat : ∀ i, i < len → ∃ y : Nd, y.Wf ∧ ∀ j, j < 7 → W.cell? (a.add (i * 7 + j)) = y.cells[j]? := by
      intro i him
      obtain ⟨cs', hc, ht'⟩ := hi i (by omega)
      obtain ⟨y, rfl, hw⟩ := trod_node hT ht'
      obtain ⟨_, hcl, hcat⟩ := World.cells?_some hc
      exact ⟨y, hw, fun j hj => by rw [← add_of_add]; exact hcat j hj⟩
    obtain ⟨l, hll, hcl⟩ : ∃ l : List Nd, l.length = len ∧ ∀ i q, l[i]? = some q → q.Wf ∧ ∀ j, j < 7 → W.cell? (a.add (i * 7 + j)) = q.cells[j]? := by
      refine ⟨(List.range len).map fun i => if hi : i < len then (hat i hi).choose else nd0, by simp, fun i q hq => ?_⟩
      rw [List.getElem?_map] at hq
      obtain ⟨j, hj, rfl⟩ := Option.map_eq_some_iff.1 hq
      have hlen : i < len := by
        rcases Nat.lt_or_ge i len with h1 | h1
        · exact h1
        · rw [List.getElem?_eq_none (by simpa using h1)] at hj; cases hj
      rw [List.getElem?_range hlen] at hj
      obtain rfl := Option.some.inj hj
      rw [dif_pos hlen]
      exact (hat i hlen).choose_spec
    refine ⟨some a, len, m, l, rfl, ⟨by rw [flat_len, hll], fun hn => ⟨a, rfl, ?_, fun j u hu => ?_⟩⟩, hll, hl, (by unfold maxLen at hm; omega), ?_, fun q hq => ?_⟩
    · have := hlt (MemPlace.cell a.block a.off) (by
        refine List.mem_append_left _ ?_
        simp [MemPlace.row]
        omega)
      exact this
    · have e : j = j / 7 * 7 + j % 7 := by omega
      rw [e, flat_at _ _ _ (by omega)] at hu
      obtain ⟨q, hq, hu⟩ := Option.bind_eq_some_iff.1 hu
      rw [e, (hcl _ q hq).2 _ (by omega)]
      exact hu
    · have := hs e _ _ rfl ht
      simp only [List.length_map, List.length_range, reachBytes] at this
      have h2 : (len + (m - len)) * 16 ≤ (len + (m - len)) * Try.prog.bytesOf e := Nat.mul_le_mul_left _ hby
      omega
    · obtain ⟨i, hi⟩ := List.mem_iff_getElem?.1 hq
      exact (hcl i q hi).1
end
end Go.Proofs.Ytcpfekhpbjkgeaa
end
