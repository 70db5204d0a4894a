/- What is proved: partialInsertionSort of the sort at floats computes what the library's plain function does. No condition but those each law names. -/
import Derived.Test.YtiancafoipllbaaRL
import Derived.Test.YtiancafoipllbaaRK
import Derived.Deep.CutBlock
namespace Go.Proofs.Ytiancafoipllbaa
open Go.RowKit Go.Sort Fl
attribute [-go_sem] binOp_float_cmp_eql binOp_float_cmp_neq binOp_float_cmp_lss binOp_float_cmp_leq binOp_float_cmp_gtr binOp_float_cmp_geq
attribute [local go_sem] store_float Fl.cmp_eql Fl.cmp_neq Fl.cmp_lss Fl.cmp_leq Fl.cmp_gtr Fl.cmp_geq
set_option maxRecDepth 100000

def tstL (i b : Nat) (x : Bool) : Bool := decide (i < b) && x
theorem srt_more {d : Array Fn} {b i : Nat} (h : tstL i b (!ltF d[i]! d[i - 1]!) = true) : scanSorted ltF d b i = scanSorted ltF d b (i + 1) := by
  rw [scanSorted, if_pos (show (decide (i < b) && !ltF d[i]! d[i - 1]!) = true from h)]
theorem srt_end {d : Array Fn} {b i : Nat} (h : tstL i b (!ltF d[i]! d[i - 1]!) = false) : scanSorted ltF d b i = i := by
  rw [scanSorted, if_neg (by rw [show (decide (i < b) && !ltF d[i]! d[i - 1]!) = false from h]; decide)]
theorem tstL_t {i j : Nat} {x : Bool} (h : tstL i j x = true) : i < j := by unfold tstL at h; simp at h; exact h.1
theorem dn_stop {d : Array Fn} {j : Nat} (h : j = 0 ∨ ltF d[j]! d[j - 1]! = false) : shiftDown ltF j d = d := by
  cases j with
  | zero => rfl
  | succ k =>
    have h := h.resolve_left (by omega)
    rw [Nat.add_sub_cancel] at h
    rw [shiftDown, if_pos (by rw [h]; rfl)]
theorem dn_go {d : Array Fn} {j : Nat} (h0 : 1 ≤ j) (h : ltF d[j]! d[j - 1]! = true) : shiftDown ltF j d = shiftDown ltF (j - 1) (swp d j (j - 1)) := by
  cases j with
  | zero => omega
  | succ k =>
    rw [Nat.add_sub_cancel] at h ⊢
    rw [shiftDown, if_neg (by rw [h]; decide)]
theorem us_stop {d : Array Fn} {b j : Nat} (h : b ≤ j ∨ ltF d[j]! d[j - 1]! = false) : shiftUp ltF b j d = d := by
  rw [shiftUp]
  by_cases hj : j < b
  · rw [if_pos hj, if_pos (by rw [h.resolve_left (by omega)]; rfl)]
  · rw [if_neg hj]
theorem us_go {d : Array Fn} {b j : Nat} (h0 : j < b) (h : ltF d[j]! d[j - 1]! = true) : shiftUp ltF b j d = shiftUp ltF b (j + 1) (swp d j (j - 1)) := by
  rw [shiftUp, if_pos h0, if_neg (by rw [h]; decide)]
theorem AtRow.swapq {w W : World} {blk off : Nat} {d d' : Array Fn} {G : Nat → Nat} (h : AtRow w blk off d W) (hH : Holds flF w blk off d') (hs : d.size = d'.size) (hb : blk < w.heap.size) (hG : ∀ t, G t = (d[t]!).1) (q : Nat) {i j : Nat} (hi : i < d.size) (hj : j < d.size) :
    AtRow w blk off (swp d i j) (((W.drewN q).setCell ⟨blk, off + i, none⟩ (.float .f64 (G j))).setCell ⟨blk, off + j, none⟩ (.float .f64 (G i))) := by
  rw [hG, hG]
  exact h.swap hH hs hb q hi hj
/-- What partialInsertionSort leaves. -/
def PinsP (w : World) (blk off : Nat) (r : Array Fn × Bool) : Ending → World → Prop := fun e w' => e = .returned (.bool r.2) ∧ AtRow w blk off r.1 w'
theorem PinsP.mk {w W : World} {blk off : Nat} {r : Array Fn × Bool} {x : Bool} {d : Array Fn} (h : r = (d, x)) (hR : AtRow w blk off d W) : PinsP w blk off r (.returned (.bool x)) W := by
  subst h
  exact ⟨rfl, hR⟩
set_option maxHeartbeats 8000000 in
theorem pins_any (blk off cap a b : Nat) (d : Array Fn) (w : World) (hH : Holds flF w blk off d) (hblk : blk < w.heap.size) (hab : a < b) (hb : b ≤ d.size) (hsz : d.size < 4611686018427387904) :
    Calls Try.prog 51 #[.slice (some ⟨blk, off, none⟩) d.size cap, .int .i64 a, .int .i64 b] w (PinsP w blk off (partialInsertionSort ltF d a b)) := by
  have HH := Lib.hid hH
  obtain ⟨r, hr⟩ : ∃ r, partialInsertionSort ltF d a b = r := ⟨_, rfl⟩
  have HP0 : Hid (partialIns ltF a b 5 (a + 1) d = r) := Lib.hid hr
  rw [hr]
  clear hH hr
  go_enter Try.func51, Try.ntmps51
  go_wp2
  go_loopw [7, 8] (fun vi vs wr => ∃ (i s : Nat) (dk : Array Fn), vi = .int .i64 i ∧ vs = .int .i64 ((5 : Int) - s) ∧ s ≤ 5 ∧ a < i ∧ i ≤ b ∧ Hid (dk.size = d.size ∧ AtRow w blk off dk wr ∧ partialIns ltF a b s i dk = r)) (fun _ vs _ => (5 - numOf vs).toNat)
  case atStart => exact ⟨a + 1, 5, d, by go_num, rfl, by omega, by omega, by omega, Lib.hid ⟨rfl, AtRow.refl HH.out, HP0.out⟩⟩
  case round =>
    obtain ⟨i0, s, dk, rfl, rfl, hs5, hai, hib, HE⟩ := hrel
    obtain ⟨wo, rfl⟩ : ∃ wo : World, wo = wr := ⟨_, rfl⟩
    by_cases hs0 : 0 < s
    · obtain ⟨t, ht⟩ : ∃ t, s = t + 1 := ⟨s - 1, by omega⟩
      have HT := Lib.hid ht
      have d0 : decide ((5 : Int) - s < 5) = true := decide_eq_true (by omega)
      clear ht
      obtain ⟨G, hG⟩ := row_words dk
      obtain ⟨hcw, hfw⟩ := HE.out.2.1.cells HH.out HE.out.1 hblk hG
      have HG := Lib.hid hG
      clear hG
      obtain ⟨I, hI⟩ : ∃ I, scanSorted ltF dk b i0 = I := ⟨_, rfl⟩
      have HI0 := Lib.hid hI
      clear hI
      go_wp2
      go_loopw [7] (fun vi wr => ∃ i : Nat, vi = .int .i64 i ∧ i0 ≤ i ∧ i ≤ b ∧ Hid (∃ n, wr = wo.drewN n) ∧ Hid (scanSorted ltF dk b i = I)) (fun vi _ => b - (numOf vi).toNat)
      case atStart => exact ⟨i0, rfl, by omega, by omega, Lib.hid ⟨0, rfl⟩, Lib.hid HI0.out⟩
      case round =>
        obtain ⟨i, rfl, b1, b2, HW, HI⟩ := hrel
        obtain ⟨n, hn⟩ := HW.out
        subst hn
        clear HW
        go_upto_region 5 with fail
        go_cut [32] (fun s wx => s = .bool (tstL i b (!lessW (G i) (G (i - 1)))) ∧ Hid (∃ n, wx = wo.drewN n))
        case first =>
          by_cases hij : i < b
          · have t1 : decide ((i : Int) < (b : Int)) = true := decide_eq_true (by omega)
            have t2 : decide (i < b) = true := decide_eq_true hij
            have n1 : i < d.size := by omega
            have n2 : i - 1 < d.size := by omega
            go_quiet (first | (go_at_call 52; exact quiet_again (less_any _ _ _)))
            go_wp2_with fail
            go_meet
            exact ⟨congrArg Value.bool (by unfold tstL; rw [t2, Bool.true_and]), Lib.hid ⟨_, World.drewN_drewN ..⟩⟩
          · have t1 : decide ((i : Int) < (b : Int)) = false := decide_eq_false (by omega)
            have t2 : decide (i < b) = false := decide_eq_false hij
            go_quiet (fail)
            go_wp2_with fail
            go_meet
            exact ⟨congrArg Value.bool (by unfold tstL; rw [t2, Bool.false_and]), Lib.hid ⟨_, World.drewN_drewN ..⟩⟩
        case rest =>
          obtain ⟨rfl, HW⟩ := hcut
          obtain ⟨n2, hn⟩ := HW.out
          subst hn
          clear HW
          cases htt : tstL i b (!lessW (G i) (G (i - 1))) with
          | true =>
            have hij := tstL_t htt
            have HT2 := Lib.hid (srt_more (d := dk) (i := i) (b := b) (by rw [HG.out, HG.out, lessW_fn] at htt; exact htt))
            clear htt
            go_wp2
            go_roundw
            case rel => exact ⟨i + 1, by go_num, by omega, by omega, Lib.hid ⟨_, rfl⟩, Lib.hid (by rw [← HT2.out]; exact HI.out)⟩
            case measure => simp [numOf]; omega
          | false =>
            have HSC := Lib.hid (HI0.out.trans ((srt_end (d := dk) (i := i) (b := b) (by rw [HG.out, HG.out, lessW_fn] at htt; exact htt)).symm.trans HI.out).symm)
            clear htt
            have hai2 : a < i := by omega
            by_cases hib2 : i = b
            · have HP : Hid (r = (dk, true)) := Lib.hid (by rw [← HE.out.2.2, HT.out, partialIns_succ, HSC.out, if_pos hib2])
              have tb : decide ((i : Int) = (b : Int)) = true := decide_eq_true (by omega)
              have tb2 : ((i : Int) == (b : Int)) = true := by rw [beq_iff_eq]; omega
              have tb3 : (i == b) = true := by rw [beq_iff_eq]; exact hib2
              have HIB := Lib.hid hib2
              clear hib2
              go_wp2
              go_ret
              exact PinsP.mk HP.out (HE.out.2.1.draws _)
            · have hlt : i < b := by omega
              have tb : decide ((i : Int) = (b : Int)) = false := decide_eq_false (by omega)
              have tb2 : ((i : Int) == (b : Int)) = false := by rw [beq_eq_false_iff_ne]; omega
              have tb3 : (i == b) = false := by rw [beq_eq_false_iff_ne]; exact hib2
              by_cases h50 : b - a < 50
              · have HP : Hid (r = (dk, false)) := Lib.hid (by rw [← HE.out.2.2, HT.out, partialIns_succ, HSC.out, if_neg hib2, if_pos h50])
                have h5 : (b : Int) - a < 50 := by omega
                go_wp2
                go_ret
                exact PinsP.mk HP.out (HE.out.2.1.draws _)
              · have h5 : ¬ (b : Int) - a < 50 := by omega
                have n1 : i < d.size := by omega
                have n2' : i - 1 < d.size := by omega
                have i1 : 1 ≤ i := by omega
                have im : ((i - 1 : Nat) : Int) = (i : Int) - 1 := by omega
                have IM := Lib.hid im
                clear im
                obtain ⟨z3, hz3⟩ := cell_behind (W := wo.drewN (n2 + 1)) (v := G (i - 1)) ⟨_, hcw i n1⟩ (hcw (i - 1) n2')
                have HP : Hid (partialIns ltF a b t i (fixUp ltF b i (fixDown ltF a i (swp dk i (i - 1)))) = r) := Lib.hid (by rw [← HE.out.2.2, HT.out, partialIns_succ, HSC.out, if_neg hib2, if_neg h50])
                go_wp2
                go_region
                all_goals go_upto_if 61 with fail
                have SW := Lib.hid (HE.out.2.1.swapq HH.out HE.out.1 hblk HG.out (n2 + 1) (i := i) (j := i - 1) (by rw [HE.out.1]; exact n1) (by rw [HE.out.1]; exact n2'))
                generalize (((wo.drewN (n2 + 1)).setCell { block := blk, off := off + i } (Value.float FloatKind.f64 (G (i - 1)))).setCell { block := blk, off := off + (i - 1) } (Value.float FloatKind.f64 (G i))) = W2 at *
                obtain ⟨d1, hd1⟩ : ∃ d1, swp dk i (i - 1) = d1 := ⟨_, rfl⟩
                have hs1 : d1.size = d.size := by rw [← hd1, size_swp]; exact HE.out.1
                rw [hd1] at SW HP
                have HS1 := Lib.hid hs1
                clear hs1 hd1 hz3 hcw hfw tb tb2 tb3
                obtain ⟨D2, hD2⟩ : ∃ D, fixDown ltF a i d1 = D := ⟨_, rfl⟩
                rw [hD2] at HP
                have HD2 := Lib.hid hD2
                clear hD2
                go_cut [9] (fun _ wx => Hid (D2.size = d.size ∧ AtRow w blk off D2 wx))
                case first =>
                  by_cases h2 : 2 ≤ i - a
                  · have h2i : 2 ≤ (i : Int) - a := by omega
                    have HSD : Hid (shiftDown ltF (i - 1) d1 = D2) := Lib.hid (by rw [← HD2.out]; unfold fixDown; rw [if_pos h2])
                    go_wp2
                    go_loopw [9] (fun vj wr => ∃ (j : Nat) (e : Array Fn), vj = .int .i64 j ∧ j ≤ i - 1 ∧ Hid (e.size = d.size ∧ AtRow w blk off e wr ∧ shiftDown ltF j e = D2)) (fun vj _ => (numOf vj).toNat)
                    case atStart => exact ⟨i - 1, d1, int_pred i1, Nat.le_refl _, Lib.hid ⟨HS1.out, SW.out, HSD.out⟩⟩
                    case round =>
                      obtain ⟨j, e, rfl, hj, HF⟩ := hrel
                      obtain ⟨wq, rfl⟩ : ∃ wq : World, wq = wr := ⟨_, rfl⟩
                      by_cases h0 : 1 ≤ j
                      · obtain ⟨G3, hG3⟩ := row_words e
                        obtain ⟨hcw, hfw⟩ := HF.out.2.1.cells HH.out HF.out.1 hblk hG3
                        have HG3 := Lib.hid hG3
                        clear hG3
                        have m1 : j < d.size := by omega
                        have m2 : j - 1 < d.size := by omega
                        have h0i : 1 ≤ (j : Int) := by omega
                        go_wp2
                        go_quiet (first | (go_at_call 52; refine Calls.quiet_of_same (less_any _ _ _)))
                        go_wp2
                        · have hl : lessW (G3 j) (G3 (j - 1)) = false := not_t (by assumption)
                          have HX := Lib.hid (dn_stop (d := e) (j := j) (.inr (by rw [← lessW_fn, ← HG3.out, ← HG3.out]; exact hl)))
                          go_meet
                          exact Lib.hid (by rw [← HF.out.2.2, HX.out]; exact ⟨HF.out.1, HF.out.2.1.draws _⟩)
                        · have hl : lessW (G3 j) (G3 (j - 1)) = true := not_f (by assumption)
                          have HX := Lib.hid (dn_go (d := e) h0 (by rw [← lessW_fn, ← HG3.out, ← HG3.out]; exact hl))
                          go_region
                          all_goals go_wp2
                          go_roundw
                          case rel => exact ⟨j - 1, swp e j (j - 1), int_pred h0, by omega, Lib.hid ⟨by rw [size_swp]; exact HF.out.1, by rw [HG3.out, HG3.out]; exact HF.out.2.1.swap HH.out HF.out.1 hblk _ (by rw [HF.out.1]; exact m1) (by rw [HF.out.1]; exact m2), by rw [← HX.out]; exact HF.out.2.2⟩⟩
                          case measure => simp [numOf]; omega
                      · have hj0 : j = 0 := by omega
                        have HX := Lib.hid (dn_stop (d := e) (j := j) (.inl hj0))
                        have h0i : ¬ 1 ≤ (j : Int) := by omega
                        clear hj0
                        go_wp2
                        go_meet
                        exact Lib.hid (by rw [← HF.out.2.2, HX.out]; exact ⟨HF.out.1, HF.out.2.1⟩)
                  · have h2i : ¬ 2 ≤ (i : Int) - a := by omega
                    have HSD : Hid (d1 = D2) := Lib.hid (by rw [← HD2.out]; unfold fixDown; rw [if_neg h2])
                    go_wp2
                    go_meet
                    exact Lib.hid (by rw [← HSD.out]; exact ⟨HS1.out, SW.out⟩)
                case rest =>
                  have HW2 := hcut
                  clear hcut
                  obtain ⟨D3, hD3⟩ : ∃ D, fixUp ltF b i D2 = D := ⟨_, rfl⟩
                  rw [hD3] at HP
                  have HD3 := Lib.hid hD3
                  clear hD3
                  have hst : (5 : Int) - s + 1 = 5 - t := by have := HT.out; omega
                  have HST := Lib.hid hst
                  have htl : t ≤ 5 := by have := HT.out; omega
                  have hts : t < s := by have := HT.out; omega
                  clear hst
                  by_cases h2 : 2 ≤ b - i
                  · have h2i : 2 ≤ (b : Int) - i := by omega
                    have HSD : Hid (shiftUp ltF b (i + 1) D2 = D3) := Lib.hid (by rw [← HD3.out]; unfold fixUp; rw [if_pos h2])
                    go_wp2
                    go_loopw [10] (fun vj wr => ∃ (j : Nat) (e : Array Fn), vj = .int .i64 j ∧ i + 1 ≤ j ∧ Hid (e.size = d.size ∧ AtRow w blk off e wr ∧ shiftUp ltF b j e = D3)) (fun vj _ => b - (numOf vj).toNat)
                    case atStart => exact ⟨i + 1, D2, by go_num, Nat.le_refl _, Lib.hid ⟨HW2.out.1, HW2.out.2, HSD.out⟩⟩
                    case round =>
                      obtain ⟨j, e, rfl, hj, HF⟩ := hrel
                      obtain ⟨wq, rfl⟩ : ∃ wq : World, wq = wr := ⟨_, rfl⟩
                      by_cases h0 : j < b
                      · obtain ⟨G3, hG3⟩ := row_words e
                        obtain ⟨hcw, hfw⟩ := HF.out.2.1.cells HH.out HF.out.1 hblk hG3
                        have HG3 := Lib.hid hG3
                        clear hG3
                        have m1 : j < d.size := by omega
                        have m2 : j - 1 < d.size := by omega
                        have m3 : 1 ≤ j := by omega
                        go_wp2
                        go_quiet (first | (go_at_call 52; refine Calls.quiet_of_same (less_any _ _ _)))
                        go_wp2
                        · have hl : lessW (G3 j) (G3 (j - 1)) = false := not_t (by assumption)
                          have HX := Lib.hid (us_stop (d := e) (b := b) (j := j) (.inr (by rw [← lessW_fn, ← HG3.out, ← HG3.out]; exact hl)))
                          have HY := Lib.hid (HX.out.symm.trans HF.out.2.2)
                          go_roundw
                          case rel => exact ⟨i, t, D3, rfl, by rw [HST.out], htl, by omega, by omega, Lib.hid ⟨by rw [← HY.out]; exact HF.out.1, by rw [← HY.out]; exact HF.out.2.1.draws _, HP.out⟩⟩
                          case measure => simp [numOf]; omega
                        · have hl : lessW (G3 j) (G3 (j - 1)) = true := not_f (by assumption)
                          have HX := Lib.hid (us_go (d := e) h0 (by rw [← lessW_fn, ← HG3.out, ← HG3.out]; exact hl))
                          go_region
                          all_goals go_wp2
                          go_roundw
                          case rel => exact ⟨j + 1, swp e j (j - 1), by go_num, by omega, Lib.hid ⟨by rw [size_swp]; exact HF.out.1, by rw [HG3.out, HG3.out]; exact HF.out.2.1.swap HH.out HF.out.1 hblk _ (by rw [HF.out.1]; exact m1) (by rw [HF.out.1]; exact m2), by rw [← HX.out]; exact HF.out.2.2⟩⟩
                          case measure => simp [numOf]; omega
                      · have HX := Lib.hid (us_stop (d := e) (b := b) (j := j) (.inl (by omega)))
                        have HY := Lib.hid (HX.out.symm.trans HF.out.2.2)
                        go_wp2
                        go_roundw
                        case rel => exact ⟨i, t, D3, rfl, by rw [HST.out], htl, by omega, by omega, Lib.hid ⟨by rw [← HY.out]; exact HF.out.1, by rw [← HY.out]; exact HF.out.2.1, HP.out⟩⟩
                        case measure => simp [numOf]; omega
                  · have h2i : ¬ 2 ≤ (b : Int) - i := by omega
                    have HSD : Hid (D2 = D3) := Lib.hid (by rw [← HD3.out]; unfold fixUp; rw [if_neg h2])
                    go_wp2
                    go_roundw
                    case rel => exact ⟨i, t, D3, rfl, by rw [HST.out], htl, by omega, by omega, Lib.hid ⟨by rw [← HSD.out]; exact HW2.out.1, by rw [← HSD.out]; exact HW2.out.2, HP.out⟩⟩
                    case measure => simp [numOf]; omega
    · have HP : Hid (r = (dk, false)) := Lib.hid (by have := HE.out.2.2; rw [show s = 0 by omega] at this; exact this.symm)
      have d0 : decide ((5 : Int) - s < 5) = false := decide_eq_false (by omega)
      go_wp2
      go_ret
      exact PinsP.mk HP.out HE.out.2.1
end Go.Proofs.Ytiancafoipllbaa
