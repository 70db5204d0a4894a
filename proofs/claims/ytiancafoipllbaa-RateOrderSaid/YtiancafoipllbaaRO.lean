/- What is proved: pdqsort and slices.Sort at floats leave the sorted row. No condition but those each law names. -/
import Derived.Test.YtiancafoipllbaaRN
import Derived.Test.YtiancafoipllbaaRJ
import Derived.Test.YtiancafoipllbaaR4
namespace Go.Proofs.Ytiancafoipllbaa
open Go.RowKit Go.Sort Fl
attribute [-go_sem] binOp_float_cmp_eql binOp_float_cmp_neq binOp_float_cmp_lss binOp_float_cmp_leq binOp_float_cmp_gtr binOp_float_cmp_geq
attribute [local go_sem] store_float Fl.cmp_eql Fl.cmp_neq Fl.cmp_lss Fl.cmp_leq Fl.cmp_gtr Fl.cmp_geq
set_option maxRecDepth 100000

section
variable {w wr : World} {blk off cap : Nat} {d dk : Array Fn} (hR : AtRow w blk off dk wr) (hH : Holds flF w blk off d) (hblk : blk < w.heap.size) (hs : dk.size = d.size) (hsz : d.size < 4611686018427387904)
include hR hH hblk hs hsz
theorem ins_at (a b : Nat) (hab : a ≤ b) (hb : b ≤ d.size) : Calls Try.prog 46 #[.slice (some ⟨blk, off, none⟩) d.size cap, .int .i64 a, .int .i64 b] wr fun e w' => e = .returned (.tuple #[]) ∧ ∃ R, PermIn a b dk R ∧ SortedIn ltF a b R ∧ AtRow w blk off R w' := by
  have h := ins_any blk off cap a b dk wr (hR.holds hH hblk hs) hab (by omega) (by omega)
  rw [hs] at h
  obtain ⟨hP, hS⟩ := insertionSort_holds swoF dk a b hab (by omega)
  refine h.mono ?_
  rintro e w' ⟨h1, n, rfl⟩
  exact ⟨h1, _, hP, hS, hR.trans ⟨n, #[], (grow_empty _).symm⟩ hblk (by rw [hP.1])⟩
theorem heap_at (a b : Nat) (hab : a < b) (hb : b ≤ d.size) : Calls Try.prog 47 #[.slice (some ⟨blk, off, none⟩) d.size cap, .int .i64 a, .int .i64 b] wr fun e w' => e = .returned (.tuple #[]) ∧ ∃ R, PermIn a b dk R ∧ SortedIn ltF a b R ∧ AtRow w blk off R w' := by
  have h := heap_any blk off cap a b dk wr (hR.holds hH hblk hs) (hR.lt hblk) hab (by omega) (by omega)
  rw [hs] at h
  obtain ⟨hP, hS⟩ := heapSort_holds swoF dk a b (Nat.le_of_lt hab) (by omega)
  exact h.mono fun e w' ⟨h1, h2⟩ => ⟨h1, _, hP, hS, hR.trans h2 hblk (by rw [hP.1])⟩
theorem brk_at (a b : Nat) (hab : a + 13 ≤ b) (hb : b ≤ d.size) : Calls Try.prog 48 #[.slice (some ⟨blk, off, none⟩) d.size cap, .int .i64 a, .int .i64 b] wr fun e w' => e = .returned (.tuple #[]) ∧ ∃ R, PermIn a b dk R ∧ AtRow w blk off R w' := by
  have h := brk_any blk off cap a b dk wr (hR.holds hH hblk hs) (hR.lt hblk) hab (by omega) (by omega)
  rw [hs] at h
  exact h.mono fun e w' ⟨h1, R, hP, h2⟩ => ⟨h1, R, hP, hR.trans h2 hblk (by rw [hP.1])⟩
theorem rev_at (a b : Nat) (hab : a ≤ b) (hb : b ≤ d.size) : Calls Try.prog 50 #[.slice (some ⟨blk, off, none⟩) d.size cap, .int .i64 a, .int .i64 b] wr fun e w' => e = .returned (.tuple #[]) ∧ ∃ R, PermIn a b dk R ∧ AtRow w blk off R w' := by
  have h := rev_any blk off cap a b dk wr (hR.holds hH hblk hs) (hR.lt hblk) hab (by omega) (by omega)
  rw [hs] at h
  exact h.mono fun e w' ⟨h1, R, hP, h2⟩ => ⟨h1, R, hP, hR.trans h2 hblk (by rw [hP.1])⟩
theorem piv_at (a b : Nat) (hab : a + 13 ≤ b) (hb : b ≤ d.size) : Calls Try.prog 49 #[.slice (some ⟨blk, off, none⟩) d.size cap, .int .i64 a, .int .i64 b] wr fun e w' => ∃ (x : Nat) (h : Int), e = .returned (.tuple #[.int .i64 x, .int .i64 h]) ∧ a ≤ x ∧ x < b ∧ (h = 0 ∨ h = 1 ∨ h = 2) ∧ AtRow w blk off dk w' := by
  have hK := hR.holds hH hblk hs
  have h := piv_any blk off cap a b dk wr hK (hR.lt hblk) hab (by omega) (by omega)
  rw [hs] at h
  refine h.mono ?_
  rintro e w' ⟨x, q, n, os, h1, h2, h3, h4, rfl⟩
  exact ⟨x, q, h1, h2, h3, h4, hR.trans ⟨n, os, by rw [putRow_self _ _ _ _ _ (holds_ahead _ _ _ _ _ _ hK)]⟩ hblk rfl⟩
theorem pins_at (a b : Nat) (hab : a < b) (hb : b ≤ d.size) (hB : Go.Sort.Below ltF a b dk) : Calls Try.prog 51 #[.slice (some ⟨blk, off, none⟩) d.size cap, .int .i64 a, .int .i64 b] wr fun e w' => ∃ (x : Bool) (R : Array Fn), e = .returned (.bool x) ∧ PermIn a b dk R ∧ (x = true → SortedIn ltF a b R) ∧ AtRow w blk off R w' := by
  have h := pins_any blk off cap a b dk wr (hR.holds hH hblk hs) (hR.lt hblk) hab (by omega) (by omega)
  rw [hs] at h
  obtain ⟨hP, hS⟩ := partialInsertionSort_holds swoF dk a b hab (by omega) hB
  exact h.mono fun e w' ⟨h1, h2⟩ => ⟨_, _, h1, hP, hS, hR.trans h2 hblk (by rw [hP.1])⟩
theorem peq_at (a b pv : Nat) (h1 : a ≤ pv) (h2 : pv < b) (hb : b ≤ d.size) : Calls Try.prog 53 #[.slice (some ⟨blk, off, none⟩) d.size cap, .int .i64 a, .int .i64 b, .int .i64 pv] wr fun e w' => ∃ (m : Nat) (R : Array Fn), e = .returned (.int .i64 m) ∧ partitionEqual ltF dk a b pv = (m, R) ∧ AtRow wr blk off R w' := by
  have h := peq_any blk off cap a b pv dk wr (hR.holds hH hblk hs) (hR.lt hblk) h1 h2 (by omega) (by omega)
  rw [hs] at h
  exact h.mono fun e w' ⟨h1, h2⟩ => ⟨_, _, h1, rfl, h2⟩
theorem part_at (a b pv : Nat) (h1 : a ≤ pv) (h2 : pv < b) (hb : b ≤ d.size) : Calls Try.prog 54 #[.slice (some ⟨blk, off, none⟩) d.size cap, .int .i64 a, .int .i64 b, .int .i64 pv] wr fun e w' => ∃ (m : Nat) (x y : Bool) (R : Array Fn), e = .returned (.tuple #[.int .i64 m, .bool x]) ∧ partition ltF dk a b pv = (m, y, R) ∧ AtRow wr blk off R w' := by
  have h := part_any blk off cap a b pv dk wr (hR.holds hH hblk hs) (hR.lt hblk) h1 h2 (by omega) (by omega)
  rw [hs] at h
  exact h.mono fun e w' ⟨x, h1, h2⟩ => ⟨_, x, _, _, h1, rfl, h2⟩
end
/-- What a sort of the range leaves. -/
def PdqP (w : World) (blk off a b : Nat) (d : Array Fn) : Ending → World → Prop := fun e w' => e = .returned (.tuple #[]) ∧ ∃ R, PermIn a b d R ∧ SortedIn ltF a b R ∧ AtRow w blk off R w'
/-- Whatever sorts the part that is left sorts the whole. -/
def Goes (a b a' b' : Nat) (d dk : Array Fn) : Prop := ∀ R, PermIn a' b' dk R → SortedIn ltF a' b' R → PermIn a b d R ∧ SortedIn ltF a b R
theorem Goes.perm {a b a' b' : Nat} {d dk d2 : Array Fn} (h : Goes a b a' b' d dk) (hp : PermIn a' b' dk d2) : Goes a b a' b' d d2 := fun R hR hS => h R (permIn_trans _ _ _ _ _ hp hR) hS
theorem hR4trans {w W W2 : World} {blk off : Nat} {d d' : Array Fn} (h : AtRow w blk off d W) (h2 : AtRow W blk off d' W2) (hb : blk < w.heap.size) (hs : d'.size = d.size) : AtRow w blk off d' W2 := h.trans h2 hb hs
set_option maxHeartbeats 8000000 in
theorem pdq_any (N : Nat) : ∀ (blk off cap a b lim : Nat) (d : Array Fn) (w : World) (_ : b - a ≤ N) (_ : Holds flF w blk off d) (_ : blk < w.heap.size) (_ : a ≤ b) (_ : b ≤ d.size) (_ : d.size < 4611686018427387904) (_ : lim ≤ 1000) (_ : Go.Sort.Below ltF a b d),
    Calls Try.prog 40 #[.slice (some ⟨blk, off, none⟩) d.size cap, .int .i64 a, .int .i64 b, .int .i64 lim] w (PdqP w blk off a b d) := by
  induction N using Nat.strongRecOn with
  | ind N IH =>
    intro blk off cap a b lim d w hN hH hblk hab hb hsz hlim hB
    have HH := Lib.hid hH
    have HB0 := Lib.hid hB
    have HIH := Lib.hid IH
    clear IH hH hB
    go_enter Try.func40, Try.ntmps40
    go_wp2
    go_loopw [1, 2, 3, 8, 9] (fun v1 v2 v3 v8 v9 wr => ∃ (a' b' l : Nat) (x y : Bool) (dk : Array Fn), v1 = .int .i64 a' ∧ v2 = .int .i64 b' ∧ v3 = .int .i64 l ∧ v8 = .bool x ∧ v9 = .bool y ∧ a ≤ a' ∧ a' ≤ b' ∧ b' ≤ b ∧ l ≤ 1000 ∧
        Hid (dk.size = d.size ∧ AtRow w blk off dk wr ∧ Go.Sort.Below ltF a' b' dk ∧ Goes a b a' b' d dk)) (fun v1 v2 _ _ _ _ => (numOf v2).toNat - (numOf v1).toNat)
    case atStart => exact ⟨a, b, lim, true, true, d, rfl, rfl, rfl, rfl, rfl, Nat.le_refl _, hab, Nat.le_refl _, hlim, Lib.hid ⟨rfl, AtRow.refl HH.out, HB0.out, fun R h1 h2 => ⟨h1, h2⟩⟩⟩
    case round =>
      obtain ⟨a', b', l, x, y, dk, rfl, rfl, rfl, rfl, rfl, ha1, hab1, hb1, hl1, HE⟩ := hrel
      obtain ⟨wo, rfl⟩ : ∃ wo : World, wo = wr := ⟨_, rfl⟩
      by_cases h12 : (b' : Int) - a' ≤ 12
      · go_wp2_with (go_at_call 46; refine (ins_at (cap := cap) HE.out.2.1 HH.out hblk HE.out.1 hsz a' b' hab1 (by omega)).mono ?_; rintro _ w2 ⟨rfl, R, h1, h2, h3⟩)
        refine bodyPost_ret (results_none rfl _ _ _) rfl ⟨rfl, R, ?_, ?_, h3⟩
        · exact (HE.out.2.2.2 R h1 h2).1
        · exact (HE.out.2.2.2 R h1 h2).2
      have hgt : a' + 13 ≤ b' := by omega
      by_cases hl0 : l = 0
      · subst hl0
        go_wp2_with (go_at_call 47; refine (heap_at (cap := cap) HE.out.2.1 HH.out hblk HE.out.1 hsz a' b' (by omega) (by omega)).mono ?_; rintro _ w2 ⟨rfl, R, h1, h2, h3⟩)
        refine bodyPost_ret (results_none rfl _ _ _) rfl ⟨rfl, R, ?_, ?_, h3⟩
        · exact (HE.out.2.2.2 R h1 h2).1
        · exact (HE.out.2.2.2 R h1 h2).2
      have hl2 : 1 ≤ l := by omega
      have hl3 : ((l : Int) == 0) = false := by rw [beq_eq_false_iff_ne]; omega
      have hl4 : (l == 0) = false := by rw [beq_eq_false_iff_ne]; exact hl0
      go_upto_if 35 with fail
      go_cut [3] (fun s wx => ∃ l2 : Nat, s = .int .i64 l2 ∧ l2 ≤ 1000 ∧ Hid (∃ d1, PermIn a' b' dk d1 ∧ AtRow w blk off d1 wx))
      case first =>
        cases x with
        | true =>
          go_wp2
          go_meet
          exact ⟨l, rfl, hl1, Lib.hid ⟨dk, permIn_refl dk a' b', HE.out.2.1⟩⟩
        | false =>
          go_wp2_with (go_at_call 48; refine (brk_at (cap := cap) HE.out.2.1 HH.out hblk HE.out.1 hsz a' b' hgt (by omega)).mono ?_; rintro _ w2 ⟨rfl, R, h1, h3⟩; have H1 := Lib.hid h1; have H3 := Lib.hid h3; clear h1 h3)
          go_meet
          exact ⟨l - 1, int_pred hl2, by omega, Lib.hid ⟨R, H1.out, H3.out⟩⟩
      case rest =>
        obtain ⟨l2, rfl, hl5, HC⟩ := hcut
        obtain ⟨d1, hp1, hr1⟩ := HC.out
        have hs1 : d1.size = d.size := by rw [hp1.1]; exact HE.out.1
        have HS1 := Lib.hid hs1
        have HP1 := Lib.hid hp1
        have HR1 := Lib.hid hr1
        clear hs1 hp1 hr1 HC
        go_upto_if 50 with (go_at_call 49; refine (piv_at (cap := cap) HR1.out HH.out hblk HS1.out hsz a' b' hgt (by omega)).mono ?_; rintro _ w2 ⟨px, hh, rfl, hp1, hp2, hh3, h3⟩; have H3 := Lib.hid h3; clear h3)
        go_cut [11, 12] (fun s11 s12 wx => ∃ (pv : Nat) (hh : Int), s11 = .int .i64 pv ∧ s12 = .int .i64 hh ∧ a' ≤ pv ∧ pv < b' ∧ (hh = 0 ∨ hh = 1) ∧ Hid (∃ d2, PermIn a' b' d1 d2 ∧ AtRow w blk off d2 wx))
        case first =>
          rcases hh3 with rfl | rfl | rfl
          · go_wp2
            go_meet
            exact ⟨px, 0, rfl, rfl, hp1, hp2, .inl rfl, Lib.hid ⟨d1, permIn_refl d1 a' b', H3.out⟩⟩
          · go_wp2
            go_meet
            exact ⟨px, 1, rfl, rfl, hp1, hp2, .inr rfl, Lib.hid ⟨d1, permIn_refl d1 a' b', H3.out⟩⟩
          · obtain ⟨p2, hp3, hp4, hp5⟩ : ∃ p2 : Nat, (b' : Int) - 1 - ((px : Int) - a') = p2 ∧ a' ≤ p2 ∧ p2 < b' := ⟨b' - 1 - (px - a'), by omega, by omega, by omega⟩
            have HP3 := Lib.hid hp3
            clear hp3
            go_wp2_with (go_at_call 50; refine (rev_at (cap := cap) H3.out HH.out hblk HS1.out hsz a' b' hab1 (by omega)).mono ?_; rintro _ w3 ⟨rfl, R, h1, h3⟩; have K1 := Lib.hid h1; have K3 := Lib.hid h3; clear h1 h3)
            go_meet
            exact ⟨p2, 1, by rw [HP3.out], rfl, hp4, hp5, .inr rfl, Lib.hid ⟨R, K1.out, K3.out⟩⟩
        case rest =>
          obtain ⟨pv, hh, rfl, rfl, hv1, hv2, hh4, HC⟩ := hcut
          obtain ⟨d2, hp2', hr2⟩ := HC.out
          have hp22 := permIn_trans _ _ _ _ _ HP1.out hp2'
          have hs2 : d2.size = d.size := by rw [hp22.1]; exact HE.out.1
          have HS2 := Lib.hid hs2
          have HP2 := Lib.hid hp22
          have HR2 := Lib.hid hr2
          have HB2 := Lib.hid (HE.out.2.2.1.perm (by rw [HE.out.1]; omega) hp22)
          clear hs2 hp2' hp22 hr2 HC
          go_upto_region 15 with fail
          obtain ⟨wv, rfl⟩ : ∃ wv : World, wv = wc := ⟨_, rfl⟩
          go_cut [68] (fun s wx => ∃ z : Bool, s = .bool z ∧ wx = wv)
          case first =>
            rcases hh4 with rfl | rfl <;> cases x <;> cases y <;> (go_wp2; go_meet; exact ⟨_, rfl, rfl⟩)
          case rest =>
            obtain ⟨z, rfl, rfl⟩ := hcut
            go_upto_if 68 with fail
            go_cut [72] (fun _ wx => Hid (∃ d3, PermIn a' b' d2 d3 ∧ AtRow w blk off d3 wx))
            case first =>
              cases z with
              | false =>
                go_wp2
                go_meet
                exact Lib.hid ⟨d2, permIn_refl d2 a' b', HR2.out⟩
              | true =>
                go_wp2_with fail
                refine (pins_at (cap := cap) HR2.out HH.out hblk HS2.out hsz a' b' (by omega) (by omega) HB2.out).mono ?_
                rintro _ w3 ⟨q, R, rfl, h1, h2, h3⟩
                have K1 := Lib.hid h1
                have K2 := Lib.hid h2
                have K3 := Lib.hid h3
                clear h1 h2 h3
                cases q with
                | true =>
                  go_wp2
                  refine bodyPost_ret (results_none rfl _ _ _) rfl ⟨rfl, R, ?_, ?_, K3.out⟩
                  · exact (HE.out.2.2.2 R (permIn_trans _ _ _ _ _ HP2.out K1.out) (K2.out trivial)).1
                  · exact (HE.out.2.2.2 R (permIn_trans _ _ _ _ _ HP2.out K1.out) (K2.out trivial)).2
                | false =>
                  go_wp2
                  go_meet
                  exact Lib.hid ⟨R, K1.out, K3.out⟩
            case rest =>
              obtain ⟨d3, hp3, hr3⟩ := hcut.out
              have hp33 := permIn_trans _ _ _ _ _ HP2.out hp3
              have hs3 : d3.size = d.size := by rw [hp33.1]; exact HE.out.1
              have HS3 := Lib.hid hs3
              have HP3 := Lib.hid hp33
              have HR3 := Lib.hid hr3
              have HB3 := Lib.hid (HE.out.2.2.1.perm (by rw [HE.out.1]; omega) hp33)
              have HG3 := Lib.hid (HE.out.2.2.2.perm hp33)
              clear hs3 hp3 hp33 hr3 hcut HP1 HP2 HR1 HR2 HB2 HS1 HS2
              obtain ⟨wu, rfl⟩ : ∃ wu : World, wu = wc := ⟨_, rfl⟩
              go_upto_region 17 with fail
              go_cut [87] (fun s wx => ∃ q : Bool, s = .bool q ∧ Hid (q = true → 0 < a' ∧ ltF d3[a' - 1]! d3[pv]! = false) ∧ Hid (∃ n, wx = wu.drewN n))
              case first =>
                obtain ⟨G, hG⟩ := row_words d3
                obtain ⟨hcw, hfw⟩ := HR3.out.cells HH.out HS3.out hblk hG
                have HG := Lib.hid hG
                clear hG
                by_cases h0 : 0 < a'
                · have t1 : decide (0 < (a' : Int)) = true := decide_eq_true (by omega)
                  have t2 : decide (0 < a') = true := decide_eq_true h0
                  have n1 : a' - 1 < d.size := by omega
                  have n2 : pv < d.size := by omega
                  go_quiet (first | (go_at_call 52; refine Calls.quiet_of_same (less_any _ _ _)))
                  go_wp2_with fail
                  go_meet
                  exact ⟨!lessW (G (a' - 1)) (G pv), rfl, Lib.hid (fun h => ⟨h0, by rw [← lessW_fn, ← HG.out, ← HG.out]; exact not_t h⟩), Lib.hid ⟨_, rfl⟩⟩
                · have t1 : decide (0 < (a' : Int)) = false := decide_eq_false (by omega)
                  have t2 : decide (0 < a') = false := decide_eq_false h0
                  go_quiet (fail)
                  go_wp2_with fail
                  go_meet
                  exact ⟨false, rfl, Lib.hid (fun h => by cases h), Lib.hid ⟨_, rfl⟩⟩
              case rest =>
                obtain ⟨q, rfl, HQ, HW⟩ := hcut
                obtain ⟨n2, hn⟩ := HW.out
                subst hn
                clear HW
                have HR4 := Lib.hid (HR3.out.draws n2)
                cases q with
                | true =>
                  go_wp2_with fail
                  refine (peq_at (cap := cap) HR4.out HH.out hblk HS3.out hsz a' b' pv hv1 hv2 (by omega)).mono ?_
                  rintro _ w3 ⟨m, R, rfl, hpe, hr4⟩
                  obtain ⟨e1, e2, e3, e4, e5⟩ := round_eq swoF (partitionEqual_holds ltF) (HQ.out trivial).1 hv1 hv2 (by rw [HS3.out]; omega) HB3.out (HQ.out trivial).2 hpe
                  have HX := Lib.hid (And.intro (hR4trans HR4.out hr4 hblk (by rw [e3])) (And.intro e3 (And.intro e4 e5)))
                  clear hpe hr4 e3 e4 e5
                  go_wp2
                  refine ⟨⟨m, b', l2, x, y, R, rfl, rfl, rfl, rfl, rfl, by omega, e2, hb1, by omega, Lib.hid ⟨by rw [HX.out.2.1]; exact HS3.out, HX.out.1, HX.out.2.2.1, fun R2 r1 r2 => HG3.out R2 (HX.out.2.2.2 R2 r1 r2).1 (HX.out.2.2.2 R2 r1 r2).2⟩⟩, by simp [numOf]; omega⟩
                | false =>
                  go_wp2_with fail
                  refine (part_at (cap := cap) HR4.out HH.out hblk HS3.out hsz a' b' pv hv1 hv2 (by omega)).mono ?_
                  rintro _ w3 ⟨m, pb, pb2, R, rfl, hpe, hr4⟩
                  obtain ⟨e1, e2, e3, e4, e5, e6, e7⟩ := round_part swoF (partition_holds ltF) hv1 hv2 (by rw [HS3.out]; omega) HB3.out hpe
                  have HX := Lib.hid (And.intro (HR4.out.trans hr4 hblk (by rw [e3])) (And.intro (show R.size = d.size by rw [e3]; exact HS3.out) (And.intro e4 (And.intro e5 (And.intro e6 e7)))))
                  clear hpe hr4 e3 e4 e5 e6 e7
                  by_cases hlr : (m : Int) - a' < (b' : Int) - m
                  · skip
                    have C := HIH.out (m - (a')) (by omega) blk off cap (a') (m) l2 R w3 (Nat.le_refl _) (HX.out.1.holds HH.out hblk HX.out.2.1) (HX.out.1.lt hblk) (by omega) (by rw [HX.out.2.1]; omega) (by rw [HX.out.2.1]; exact hsz) (by omega) HX.out.2.2.1
                    rw [HX.out.2.1] at C
                    have HC := Lib.hid C
                    clear C
                    go_wp2_with fail
                    refine HC.out.mono ?_
                    rintro _ w4 ⟨rfl, L, k1, k2, k3⟩
                    obtain ⟨k4, k5⟩ := HX.out.2.2.2.2.1 L k1 k2
                    have HY := Lib.hid (And.intro (show L.size = d.size by rw [k1.1]; exact HX.out.2.1) (And.intro (HX.out.1.trans k3 hblk k1.1) (And.intro k4 (show Goes a b (m + 1) (b') d L from fun R2 r1 r2 => HG3.out R2 (k5 R2 r1 r2).1 (k5 R2 r1 r2).2))))
                    clear k1 k2 k3 k4 k5 HC
                    go_wp2
                    go_roundw
                    case rel => exact ⟨m + 1, b', l2, _, _, L, by go_num, rfl, rfl, rfl, rfl, by omega, by omega, by omega, by omega, HY⟩
                    case measure => simp [numOf]; omega
                  · skip
                    have C := HIH.out (b' - (m + 1)) (by omega) blk off cap (m + 1) (b') l2 R w3 (Nat.le_refl _) (HX.out.1.holds HH.out hblk HX.out.2.1) (HX.out.1.lt hblk) (by omega) (by rw [HX.out.2.1]; omega) (by rw [HX.out.2.1]; exact hsz) (by omega) HX.out.2.2.2.1
                    rw [HX.out.2.1] at C
                    rw [Int.natCast_add] at C
                    have HC := Lib.hid C
                    clear C
                    go_wp2_with fail
                    refine HC.out.mono ?_
                    rintro _ w4 ⟨rfl, L, k1, k2, k3⟩
                    obtain ⟨k4, k5⟩ := HX.out.2.2.2.2.2 L k1 k2
                    have HY := Lib.hid (And.intro (show L.size = d.size by rw [k1.1]; exact HX.out.2.1) (And.intro (HX.out.1.trans k3 hblk k1.1) (And.intro k4 (show Goes a b (a') (m) d L from fun R2 r1 r2 => HG3.out R2 (k5 R2 r1 r2).1 (k5 R2 r1 r2).2))))
                    clear k1 k2 k3 k4 k5 HC
                    go_wp2
                    go_roundw
                    case rel => exact ⟨a', m, l2, _, _, L, rfl, rfl, rfl, rfl, rfl, by omega, by omega, by omega, by omega, HY⟩
                    case measure => simp [numOf]; omega
theorem len_64 {n : Nat} (hn : n < 4611686018427387904) : Lib.bitLen n ≤ 64 := by
  by_cases h0 : n = 0
  · subst h0; decide
  · obtain ⟨_, p2⟩ := pow_len 62 n (by omega) hn (by decide)
    apply Nat.le_of_not_lt
    intro h
    have : 2 ^ 64 ≤ 2 ^ Lib.bitLen n := Nat.pow_le_pow_right (by decide) (by omega)
    omega
set_option maxHeartbeats 2000000 in
theorem sort_any (blk off cap : Nat) (d : Array Fn) (w : World) (hH : Holds flF w blk off d) (hblk : blk < w.heap.size) (hsz : d.size < 4611686018427387904) :
    Calls Try.prog 29 #[.slice (some ⟨blk, off, none⟩) d.size cap] w (PdqP w blk off 0 d.size d) := by
  have L := Lib.hid (fun w => len_lay (d.size : Int) w (by omega) (by omega))
  rw [Int.toNat_natCast] at L
  have hl := len_64 hsz
  have P := Lib.hid (pdq_any d.size blk off cap 0 d.size (Lib.bitLen d.size) d w (by omega) hH hblk (Nat.zero_le _) (Nat.le_refl _) hsz (by omega) (.inl rfl))
  clear hH hl
  go_enter Try.func29, Try.ntmps29
  go_wp2_with fail
  refine (L.out _).mono ?_
  rintro _ w1 ⟨rfl, e⟩
  obtain rfl := e.symm
  go_wp2_with fail
  refine P.out.mono ?_
  rintro _ w2 ⟨rfl, R, h1, h2, h3⟩
  go_wp2
  go_end0
  exact ⟨rfl, R, h1, h2, h3⟩
theorem sorts_any (fs : List Fn) (h : fs.length < 4611686018427387904) : SortsAt (fs.map (·.1)) ((sortL fs).map (·.1)) := by
  refine WalkSort.at (fun blk off cap w hH hblk => ?_) (sortL_length fs)
  have hsz : fs.toArray.size = fs.length := List.size_toArray
  have hc := sort_any blk off cap fs.toArray w hH hblk (by omega)
  rw [hsz] at hc
  refine hc.mono ?_
  rintro _ W ⟨rfl, R, hP, hSo, n, os, rfl⟩
  rw [← hsz] at hP hSo
  have hu : R.toList = sortL fs := sorted_unique_holds swoF (fun x y h1 h2 => Subtype.ext (by have := of_decide_eq_false h1; have := of_decide_eq_false h2; omega)) fs.toArray _ hP hSo
  exact ⟨rfl, n, os, by rw [← hu]⟩
end Go.Proofs.Ytiancafoipllbaa
