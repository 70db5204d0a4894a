/- What is proved: parts of the walk and of the plain law, 3 texts in one. No condition but those each law names. -/
import Derived.Test.YtjkfondgacjpnaaGreatDoorK42
import Derived.Test.YtjkfondgacjpnaaGreatDoorK36
namespace Go.Proofs.YtjkfondgacjpnaaGreatDoor
open Go.RowKit
open Sx (Ab DW Turns Did Foot MapIs)
set_option maxRecDepth 100000
attribute [local go_sem ↓] rowOf_cell
attribute [local go_sem] rowOf_alloc soft_alloc rowOf_drew soft_drew rowOf_setRow soft_setRow rowOf_setCell soft_setCell frozen_of_soft rowOf_map soft_map Sx.run_mk Ext.row Ext.soft_
structure Kp (S S' : MS) (a : Nat) (n : Nd) : Prop where
  nd : S'.nd a = some n
  wb : S'.wb = S.wb
  nb : S'.nb = S.nb
  mb : S'.mb = S.mb
  now : S'.now = S.now
set_option maxHeartbeats 1000000 in
theorem Propose_gen {w : World} {S : MS} (h : MW w S) {a b : Nat} {n : Nd} {D : Dm} (is : Live S a n D) {nb2 : Nat} (is2 : S.at_ b = ptA nb2) (hab : a ≠ b)
    {i k : Int} {p g : Lg} {m : Msg} (k0 : (k == 0) = false) {R : MS → Prop}
    (hP : ∀ W, Below w.heap.size w W → Calls Tryz.prog 26 #[.pointer (some ⟨D.xb, 0, none⟩), .int .i64 i, .int .i64 b, .agg p.cells, .agg g.cells, .agg S.now.cells] W fun e w' => e = .returned (.tuple #[.agg m.cells, .int .i64 k]) ∧ ∃ S', Kp S S' a n ∧ R S' ∧ Goes w S w' S' ∧ Comp W w' S.all S'.all) :
    Calls Tryz.prog 10 #[.pointer (some ⟨S.wb, 0, none⟩), .int .i64 a, .int .i64 b, .int .i64 i, .agg p.cells, .agg g.cells] w fun e w' => e = .returned (.int .i64 k) ∧ ∃ S', Kp S S' a n ∧ R S' ∧ Goes w S w' S' := by
  have ab : ((a : Int) == b) = false := by simp; omega
  have H := Lib.hid h
  have IS := Lib.hid is
  have PR := Lib.hid hP
  have I2 := Lib.hid is2
  clear h is hP is2
  go_enter Tryz.func10, Tryz.ntmps10
  go_upto_region 1 with (fail)
  have bx := Bxs.new2 w (p.cells) 26 (g.cells) 26; generalize ((w.alloc (.cells (p.cells) 26)).alloc (.cells (g.cells) 26)) = W at bx ⊢; have rx0 := bx.row' 0 rfl; have sx0 := bx.soft' 0 rfl; (try simp only [Nat.add_zero] at rx0 sx0); have rx1 := bx.row' 1 rfl; have sx1 := bx.soft' 1 rfl; (try simp only [Nat.add_zero] at rx1 sx1); have BX := Lib.hid bx; clear bx
  have G := Lib.hid (H.out.below BX.out.below)
  have lk := G.out.mw.look a
  rw [MS.at_some IS.out.at_] at lk
  have lk2 := G.out.mw.look b
  rw [I2.out] at lk2
  unfold ptA at lk lk2
  have rw0 := rowOf_of G.out.mw.wrAt
  have OF := Lib.hid (IS.out.off G.out.mw)
  have RN := Lib.hid (IS.out.row G.out.mw)
  go_wp2_with (go_at_call 25; refine OF.out.mono ?_; rintro _ V ⟨rfl, rfl⟩; clear lk lk2 ab OF; have rn := RN.out; clear RN)
  have B2 : Below w.heap.size w V.drew := BX.out.below.drew
  have zV : w.heap.size + 1 < V.heap.size := BX.out.lt 1 rfl
  have zn : n.b < w.heap.size := (Array.getElem?_eq_some_iff.1 (H.out.ndAt IS.out.nd).row).1
  have zw : S.wb < w.heap.size := (Array.getElem?_eq_some_iff.1 H.out.wrAt).1
  have hz : n.b < V.heap.size ∧ S.wb < V.heap.size ∧ w.heap.size < V.heap.size ∧ w.heap.size + 1 < V.heap.size := by omega
  have R1 : PH n.b S.wb w.heap.size (w.heap.size + 1) _ _ _ _ V := ⟨rn, rw0, rx0, rx1⟩
  have RZ : ∀ (W Z : World) (S' : MS), PH n.b S.wb w.heap.size (w.heap.size + 1) (ndC (.pointer (some ⟨D.xb, 0, none⟩)) n.t n.sv n.dv n.tv) (wrC S.nb S.mb S.now) p.cells g.cells W → V.heap.size ≤ W.heap.size → Kp S S' a n → Comp W Z S.all S'.all → Goes w S Z S' → PH n.b S.wb w.heap.size (w.heap.size + 1) (ndC (.pointer (some ⟨D.xb, 0, none⟩)) n.t n.sv n.dv n.tv) (wrC S.nb S.mb S.now) p.cells g.cells Z := fun W Z S' r hW kp hc g => by
    have hn : ∀ k, w.heap.size ≤ k → ¬ S.all k := fun k hk q => by have := H.out.all_lt q; omega
    have rw1 := rowOf_of g.mw.wrAt
    rw [kp.wb, kp.nb, kp.mb, kp.now] at rw1
    refine ⟨?_, rw1, (rowOf_same (hc.keep _ (by omega) (hn _ (Nat.le_refl _))).1).trans r.2.2.1, (rowOf_same (hc.keep _ (by omega) (hn _ (Nat.le_succ _))).1).trans r.2.2.2⟩
    have := rowOf_of (g.mw.ndAt (k := a) kp.nd).row
    unfold Nd.cells at this
    rw [IS.out.xv] at this
    exact this
  have R1 := Lib.hid R1
  have RZ := Lib.hid RZ
  have hz := Lib.hid hz
  have zV := Lib.hid zV
  clear zn zw rn rw0 rx0 rx1 sx0 sx1
  have B3 : Below w.heap.size w (V.drew.alloc (.cells Msg.zero.cells 67)) := B2.alloc (by have := zV.out; simp; omega) _
  have HB := Lib.hid (And.intro B2 B3)
  clear B2 B3
  go_region_held3 (fun w' => rowOf w' n.b = ndC (.pointer (some ⟨D.xb, 0, none⟩)) n.t n.sv n.dv n.tv ∧ rowOf w' S.wb = wrC S.nb S.mb S.now ∧ rowOf w' w.heap.size = p.cells ∧ rowOf w' (w.heap.size + 1) = g.cells)
    (first
      | exact R1.out
      | exact PH.alloc (w := V.drew) _ R1.out hz.out (Nat.le_refl _)
      | exact RA.out
      | exact RA.out.alloc _ hz.out HS.out.1
      | exact RA.out.set _ hz.out (Nat.le_refl _)
      | exact (RA.out.alloc _ hz.out HS.out.1).set _ hz.out HS.out.1)
    ((go_at_call 26; first
      | (refine (PR.out _ HB.out.1).mono ?_; rintro _ Z ⟨rfl, S', kp, rs, g3, c3⟩; have RA := Lib.hid (RZ.out V.drew _ _ R1.out (Nat.le_refl _) kp c3 g3); have G3 := Lib.hid g3; have Q1 := Lib.hid (And.intro kp rs); have HS := Lib.hid (And.intro c3.size True.intro); clear g3 c3 kp rs)
      | (refine (PR.out _ HB.out.2).mono ?_; rintro _ Z ⟨rfl, S', kp, rs, g3, c3⟩
         have RA := Lib.hid (RZ.out (V.drew.alloc (.cells Msg.zero.cells 67)) _ _ (PH.alloc (w := V.drew) _ R1.out hz.out (Nat.le_refl _)) (by simp) kp c3 g3)
         have KP := c3.keep V.heap.size (by simp) (fun q => by have := H.out.all_lt q; have := zV.out; omega)
         have hm : Z.heap[V.heap.size]? = some (.cells Msg.zero.cells 67) := KP.1.trans (heap_alloc_new V.drew _)
         have rm := rowOf_of hm
         have sm := soft_of hm
         have G3 := Lib.hid g3; have Q1 := Lib.hid (And.intro kp rs)
         have HS := Lib.hid (And.intro (show V.heap.size ≤ Z.heap.size from by have := c3.size; simp at this; omega) KP.2)
         clear g3 c3 kp rs hm KP)))
  all_goals
    clear PR RZ R1
    obtain ⟨mb, Y, e1, e2, g4, rm4, sm4⟩ := (by first | exact end_b G3.out (Nat.le_of_lt (Nat.lt_of_succ_lt zV.out)) HS.out.2 m.cells sm | exact end_a G3.out Msg.zero.cells m.cells 67)
    rw [← e2, ← e1]
    clear e1 e2
    have G4 := Lib.hid g4
    clear g4
    go_wp2
    go_ret
    exact ⟨rfl, S', Q1.out.1, Q1.out.2, G4.out⟩
theorem Propose_twice {w : World} {S : MS} (h : MW w S) (hF : Forms S.u) (hT : Tabs S.u) {a b : Nat} {n : Nd} {D : Dm} (is : Live S a n D) {nb2 : Nat} (is2 : S.at_ b = ptA nb2) (hk : TmK D.t) (hsl : D.seed.length ≤ 64) (hab : a ≠ b)
    {i : Int} {p g : Lg} {q : En} (hi : I64 i) (hc : errD (proposeD D i b p g S.now) = 0) (l1 : (p.a < D.t.least) = False) (l2 : (p.a > D.t.most) = False) (hq : getA D.M i = some q) :
    Calls Tryz.prog 10 #[.pointer (some ⟨S.wb, 0, none⟩), .int .i64 a, .int .i64 b, .int .i64 i, .agg p.cells, .agg g.cells] w fun e w' => e = .returned (.int .i64 13) ∧ Goes w S w' S := by
  refine (Propose_gen (m := Msg.zero) (k := 13) (R := (· = S)) h is is2 hab rfl fun W hW => ?_).mono ?_
  · have G2 := h.below hW
    refine (propose_twice (peer := (b : Int)) (n := S.now) (is.dae G2.mw) ((G2.mw.mine is.ds).base hF hT) hk hsl hi hc l1 l2 (Lib.hid hq)).mono ?_
    rintro e Z ⟨he, hb⟩
    have g3 := G2.mw.below hb
    exact ⟨he, S, ⟨is.nd, rfl, rfl, rfl, rfl⟩, rfl, G2.trans g3, g3.comp⟩
  · rintro e w' ⟨he, S', _, rfl, g⟩
    exact ⟨he, g⟩
theorem Propose_arg {w : World} {S : MS} (h : MW w S) {a b i : Int} {p g : Lg} (hx : S.at_ a = .pointer none ∨ (∃ x, S.at_ a = ptA x) ∧ S.at_ b = .pointer none ∨ (∃ x y, S.at_ a = ptA x ∧ S.at_ b = ptA y) ∧ a = b) :
    Calls Tryz.prog 10 #[.pointer (some ⟨S.wb, 0, none⟩), .int .i64 a, .int .i64 b, .int .i64 i, .agg p.cells, .agg g.cells] w fun e w' => e = .returned (.int .i64 1) ∧ Goes w S w' S := by
  have H := Lib.hid h
  have HX := Lib.hid hx
  clear h hx
  go_enter Tryz.func10, Tryz.ntmps10
  go_upto_region 1 with (fail)
  have bx := Bxs.new2 w (p.cells) 26 (g.cells) 26; generalize ((w.alloc (.cells (p.cells) 26)).alloc (.cells (g.cells) 26)) = W at bx ⊢; have rx0 := bx.row' 0 rfl; have sx0 := bx.soft' 0 rfl; (try simp only [Nat.add_zero] at rx0 sx0); have rx1 := bx.row' 1 rfl; have sx1 := bx.soft' 1 rfl; (try simp only [Nat.add_zero] at rx1 sx1); have BX := Lib.hid bx; clear bx
  have G := Lib.hid (H.out.below BX.out.below)
  have lk := G.out.mw.look a
  have lk2 := G.out.mw.look b
  have rw0 := rowOf_of G.out.mw.wrAt
  rcases HX.out with e | ⟨⟨x, e⟩, e2⟩ | ⟨⟨x, y, e, e2⟩, rfl⟩
  · rw [e] at lk
    clear HX e lk2
    go_wp2
    go_ret
    exact ⟨rfl, G.out⟩
  · rw [e] at lk
    rw [e2] at lk2
    unfold ptA at lk
    clear HX e e2
    go_wp2
    go_ret
    exact ⟨rfl, G.out⟩
  · rw [e] at lk
    unfold ptA at lk
    have ab : (a == a) = true := by simp
    clear HX e e2 lk2
    go_wp2
    go_ret
    exact ⟨rfl, G.out⟩
theorem Propose_down {w : World} {S : MS} (h : MW w S) {a b i : Int} {x y : Nat} {p g : Lg} (e : S.at_ a = ptA x) (e2 : S.at_ b = ptA y) (ab : (a == b) = false) (ho : ∀ W, MW W S → Calls Tryz.prog 25 #[ptA x] W fun e w' => e = .returned (.bool true) ∧ w' = W) :
    Calls Tryz.prog 10 #[.pointer (some ⟨S.wb, 0, none⟩), .int .i64 a, .int .i64 b, .int .i64 i, .agg p.cells, .agg g.cells] w fun e w' => e = .returned (.int .i64 9) ∧ Goes w S w' S := by
  have H := Lib.hid h
  have HO := Lib.hid ho
  clear h ho
  go_enter Tryz.func10, Tryz.ntmps10
  go_upto_region 1 with (fail)
  have bx := Bxs.new2 w (p.cells) 26 (g.cells) 26; generalize ((w.alloc (.cells (p.cells) 26)).alloc (.cells (g.cells) 26)) = W at bx ⊢; have rx0 := bx.row' 0 rfl; have sx0 := bx.soft' 0 rfl; (try simp only [Nat.add_zero] at rx0 sx0); have rx1 := bx.row' 1 rfl; have sx1 := bx.soft' 1 rfl; (try simp only [Nat.add_zero] at rx1 sx1); have BX := Lib.hid bx; clear bx
  have G := Lib.hid (H.out.below BX.out.below)
  have lk := G.out.mw.look a
  have lk2 := G.out.mw.look b
  have rw0 := rowOf_of G.out.mw.wrAt
  rw [e] at lk
  rw [e2] at lk2
  unfold ptA at lk lk2
  clear e e2
  have OF := Lib.hid (HO.out _ G.out.mw)
  go_wp2_with (go_at_call 25; refine OF.out.mono ?_; rintro _ V ⟨rfl, rfl⟩)
  go_ret
  exact ⟨rfl, G.out⟩
end Go.Proofs.YtjkfondgacjpnaaGreatDoor

namespace Go.Proofs.YtjkfondgacjpnaaGreatDoor
open Go.RowKit
open Sx (Ab DW Turns Did Foot MapIs)
set_option maxRecDepth 100000
attribute [local go_sem ↓] rowOf_cell
attribute [local go_sem] rowOf_alloc soft_alloc rowOf_drew soft_drew rowOf_setRow soft_setRow rowOf_setCell soft_setCell frozen_of_soft rowOf_map soft_map Sx.run_mk Ext.row Ext.soft_
def firstB (r : Option En) : Bool := r.isSome && ((swO r).d.r == 1)
theorem first_any {w : World} {S : MS} (h : MW w S) {a : Nat} {n : Nd} {D : Dm} (is : Live S a n D) (i : Int) : Calls Tryz.prog 35 #[.pointer (some ⟨n.b, 0, none⟩), .int .i64 i] w fun e w' => e = .returned (.tuple #[.agg (swO (getA D.M i)).d.cells, .bool (firstB (getA D.M i))]) ∧ Below w.heap.size w w' := by
  have H := Lib.hid h
  have IS := Lib.hid is
  clear h is
  generalize hg : getA D.M i = r
  have HG := Lib.hid hg
  clear hg
  generalize hfb : firstB r = fb
  unfold firstB at hfb
  generalize hs : swO r = s at hfb ⊢
  generalize hi : r.isSome = bi at hfb
  have HS := Lib.hid (And.intro hs hi)
  clear hs hi
  go_enter Tryz.func35, Tryz.ntmps35
  go_upto_region 1 with (fail)
  have bx := Bx.new w (Dl.zero.cells) 83; generalize w.alloc (.cells (Dl.zero.cells) 83) = W at bx ⊢; have rx := bx.rowOf; have sx := bx.soft; have BX := Lib.hid bx; clear bx
  have G := H.out.below BX.out.below
  have rn := IS.out.row G.mw
  have BK := Lib.hid (Book_any (IS.out.dae G.mw))
  have SW := Lib.hid (Swap_any (IS.out.dae G.mw).bok i)
  rw [HG.out, HS.out.1, HS.out.2] at SW
  have rx0 := BX.out.rowOf
  clear G
  go_wp2_with (first
    | (go_at_call 32; refine BK.out.mono ?_; rintro _ V ⟨rfl, rfl⟩)
    | (go_at_call 34; refine SW.out.mono ?_; rintro _ U ⟨rfl, hb⟩; have bx := BX.out.step hb; clear BX rx sx rx0 rn SW BK hb; have rx := bx.rowOf; have sx := bx.soft; have BX := Lib.hid bx; clear bx))
  have B2 := Bx.made U Sw.zero.cells s.cells 85
  have lt0 : w.heap.size < U.heap.size := (Array.getElem?_eq_some_iff.1 BX.out.row).1
  have bx := BX.out.step B2.below
  generalize (U.alloc (.cells Sw.zero.cells 85)).setRow U.heap.size s.cells = V2 at B2 bx ⊢
  have r2 := B2.rowOf
  generalize U.heap.size = ub at r2 lt0 ⊢
  clear B2 BX rx sx
  have rx := bx.rowOf
  have sx := bx.soft
  have BX := Lib.hid bx
  clear bx
  have hne : ¬ ub = w.heap.size := by omega
  have fin : rowOf (V2.drew.setRow w.heap.size s.d.cells) w.heap.size = s.d.cells ∧ Below w.heap.size w (V2.drew.setRow w.heap.size s.d.cells) := ⟨(rowOf_setRow _ _ _ _ sx).trans (if_pos rfl), Below.setRow_ BX.out.below.drew (Nat.le_refl _) _⟩
  have FIN := Lib.hid fin
  clear fin
  cases bi with
  | false =>
    subst hfb
    go_region
    go_wp2
    refine bodyPost_ret (results_row1 (t := 83) rfl Tryz.underlying83 rfl (by kernel_rfl) _ _ w.heap.size rfl FIN.out.1 (d_size _)) rfl ?_
    exact ⟨rfl, FIN.out.2⟩
  | true =>
    rw [Bool.true_and] at hfb
    go_region
    go_wp2
    refine bodyPost_ret (results_row1 (t := 83) rfl Tryz.underlying83 rfl (by kernel_rfl) _ _ w.heap.size rfl FIN.out.1 (d_size _)) rfl ?_
    exact ⟨rfl, FIN.out.2⟩
theorem Again_none {w : World} {S : MS} (h : MW w S) {a : Nat} {n : Nd} {D : Dm} (is : Live S a n D) {i : Int} (hf : firstB (getA D.M i) = false) : Calls Tryz.prog 16 #[.pointer (some ⟨S.wb, 0, none⟩), .int .i64 a, .int .i64 i] w fun e w' => e = .returned (.int .i64 12) ∧ Goes w S w' S := by
  have rw0 := rowOf_of h.wrAt
  have lk := h.look a
  rw [MS.at_some is.at_] at lk
  unfold ptA at lk
  have OF := Lib.hid (is.off h)
  have FI := Lib.hid (first_any h is i)
  rw [hf] at FI
  have H := Lib.hid h
  clear h is hf
  go_enter Tryz.func16, Tryz.ntmps16
  go_wp2_with (first
    | (go_at_call 25; refine OF.out.mono ?_; rintro _ V ⟨rfl, rfl⟩)
    | (go_at_call 35; refine FI.out.mono ?_; rintro _ U ⟨rfl, hb⟩; have G := Lib.hid (H.out.below hb); clear hb OF FI rw0 lk))
  go_ret
  exact ⟨rfl, G.out.trans (G.out.mw.below (Bx.made U Dl.zero.cells _ 83).below)⟩
theorem Again_arg {w : World} {S : MS} (h : MW w S) {a i : Int} (e : S.at_ a = .pointer none) : Calls Tryz.prog 16 #[.pointer (some ⟨S.wb, 0, none⟩), .int .i64 a, .int .i64 i] w fun e w' => e = .returned (.int .i64 1) ∧ w' = w := by
  have rw0 := rowOf_of h.wrAt
  have lk := h.look a
  rw [e] at lk
  clear h e
  go_enter Tryz.func16, Tryz.ntmps16
  go_wp2
  go_ret
  exact ⟨rfl, rfl⟩
theorem Again_down {w : World} {S : MS} (h : MW w S) {a i : Int} {x : Nat} (e : S.at_ a = ptA x) (ho : Calls Tryz.prog 25 #[ptA x] w fun e w' => e = .returned (.bool true) ∧ w' = w) : Calls Tryz.prog 16 #[.pointer (some ⟨S.wb, 0, none⟩), .int .i64 a, .int .i64 i] w fun e w' => e = .returned (.int .i64 9) ∧ w' = w := by
  have rw0 := rowOf_of h.wrAt
  have lk := h.look a
  rw [e] at lk
  unfold ptA at lk
  have HO := Lib.hid ho
  clear h e ho
  go_enter Tryz.func16, Tryz.ntmps16
  go_wp2_with (go_at_call 25; refine HO.out.mono ?_; rintro _ V ⟨rfl, rfl⟩)
  go_ret
  exact ⟨rfl, rfl⟩
theorem Arm_no {w : World} {S : MS} (h : MW w S) {a i : Int} (e : S.at_ a = .pointer none) : Calls Tryz.prog 9 #[.pointer (some ⟨S.wb, 0, none⟩), .int .i64 a, .int .i64 i] w fun e w' => e = .returned (.bool false) ∧ w' = w := by
  have rw0 := rowOf_of h.wrAt
  have lk := h.look a
  rw [e] at lk
  clear h e
  go_enter Tryz.func9, Tryz.ntmps9
  go_wp2
  go_ret
  exact ⟨rfl, rfl⟩
theorem Restart_arg {w : World} {S : MS} (h : MW w S) {a : Int} {v : Value} (e : S.at_ a = .pointer none) : Calls Tryz.prog 13 #[.pointer (some ⟨S.wb, 0, none⟩), .int .i64 a, v] w fun e w' => e = .returned (.int .i64 1) ∧ w' = w := by
  have rw0 := rowOf_of h.wrAt
  have lk := h.look a
  rw [e] at lk
  clear h e
  go_enter Tryz.func13, Tryz.ntmps13
  go_wp2
  go_ret
  exact ⟨rfl, rfl⟩
end Go.Proofs.YtjkfondgacjpnaaGreatDoor

namespace Go.Proofs.YtjkfondgacjpnaaGreatDoor
open Go.RowKit
open Sx (Ab DW Turns Did Foot MapIs)
set_option maxRecDepth 100000
attribute [local go_sem ↓] rowOf_cell
attribute [local go_sem] rowOf_alloc soft_alloc rowOf_drew soft_drew rowOf_setRow soft_setRow rowOf_setCell soft_setCell frozen_of_soft rowOf_map soft_map Sx.run_mk Ext.row Ext.soft_
def ltV (f t : Int) (a : Option Addr) (n c : Nat) : Array Value := #[.int .i64 f, .int .i64 t, .slice a n c]
theorem Live.to {S : MS} {j : Nat} {n : Nd} {D D' : Dm} (h : Live S j n D) (e : D'.xb = D.xb) : Live { S with ds := upd S.ds j (.live D') } j n D' := ⟨h.nd, upd_at _ _ _, h.at_, by rw [h.xv, e]⟩
set_option maxHeartbeats 1000000 in
theorem hear_prop {w : World} {S : MS} (h : MW w S) (hnb : S.nb = S.X.nb) (hF : Forms S.u) {f b : Nat} {n : Nd} {D : Dm} (is : Live S b n D) {ao : Option Addr} {nn c : Nat} {l : List Nat} (hs : Sl w ao nn c (bts l)) (hr : Rs (l, 0)) {m : Msg} (hm : mgetM l = (0, m)) (k0 : m.k = 1) {free : Int} {L : List Nat} {R : Dm → Prop}
    (hH : ∀ W, Below w.heap.size w W → Calls Tryz.prog 54 #[.pointer (some ⟨D.xb, 0, none⟩), .int .i64 f, .slice ao nn c, .agg S.now.cells, .int .i64 free] W fun e w' => ∃ D' ao' c', e = .returned (.slice ao' L.length c') ∧ Sl w' ao' L.length c' (bts L) ∧ D'.xb = D.xb ∧ R D' ∧ Goes w S w' { S with ds := upd S.ds b (.live D') } ∧ Comp W w' S.all ({ S with ds := upd S.ds b (.live D') } : MS).all)
    (hL : L.length ≤ 400) (hn : S.X.L.length < 1000) (hfb : f ≠ b) (hf : 1 ≤ f ∧ (f : Int) ≤ S.X.nodes) (hb : 1 ≤ b ∧ (b : Int) ≤ S.X.nodes) :
    Calls Tryz.prog 29 #[.pointer (some ⟨S.wb, 0, none⟩), .pointer (some ⟨n.b, 0, none⟩), .agg (ltV f b ao nn c), .int .i64 free] w fun e w' => e = .returned (.tuple #[]) ∧ ∃ D' X', D'.xb = D.xb ∧ R D' ∧ Goes w S w' { S with X := X', ds := upd S.ds b (.live D') } ∧ X'.says = S.X.says ++ [((b : Int), (f : Int), L)] ∧ X'.nodes = S.X.nodes ∧ X'.nb = S.X.nb := by
  have H := Lib.hid h
  have IS := Lib.hid is
  have HS := Lib.hid hs
  have HH := Lib.hid hH
  have HF := Lib.hid hF
  have HR := Lib.hid (And.intro hr (And.intro hm (And.intro k0 (And.intro hL (And.intro hn (And.intro hfb (And.intro hf hb)))))))
  clear h is hs hH hr hm hL hn hfb hf hb hF k0
  unfold ltV
  go_enter Tryz.func29, Tryz.ntmps29
  go_upto_region 1 with (fail)
  have bx := Bx.new w (#[.int .i64 f, .int .i64 b, .slice ao nn c]) 76; generalize w.alloc (.cells (#[.int .i64 f, .int .i64 b, .slice ao nn c]) 76) = W at bx ⊢; have rx := bx.rowOf; have sx := bx.soft; have BX := Lib.hid bx; clear bx
  have G := H.out.below BX.out.below
  have MG := Lib.hid (MGet_any (HF.out.keep (Nat.le_refl _) G.mw.low) (HS.out.keep (Nat.le_refl _) BX.out.below) HR.out.1)
  rw [HR.out.2.1] at MG
  unfold RetMG at MG
  clear G
  dsimp only at MG
  go_wp2_with (go_at_call 53; refine MG.out.mono ?_; rintro _ V ⟨rfl, hb⟩; have bx := BX.out.step hb; clear BX rx sx MG hb; have rx := bx.rowOf; have BX := Lib.hid bx; clear bx; have km := HR.out.2.2.1)
  have B2 := Bx.made V Msg.zero.cells m.cells 67
  have bx := BX.out.step B2.below
  generalize (V.alloc (.cells Msg.zero.cells 67)).setRow V.heap.size m.cells = V2 at B2 bx ⊢
  generalize V.heap.size = mb at *
  have G := H.out.below bx.below
  have rn := IS.out.row G.mw
  have rw0 := rowOf_of G.mw.wrAt
  clear rx BX B2
  have rx := bx.rowOf
  have C5 := Lib.hid (HH.out V2.drew bx.below.drew)
  have BX := Lib.hid bx
  clear bx G HH
  (refine wp_region_still_tail 13 (by kernel_rfl) (by kernel_rfl) ?_; simp only [List.take_succ_cons, List.take_zero, List.drop_succ_cons, List.drop_zero]; (iterate 13 still_step); refine wpStill_nil ?_)
  go_wp2_with (go_at_call 54; refine C5.out.mono ?_; rintro _ Z ⟨D', ao', c', rfl, hs', e1, rd, g, cp⟩)
  have lt0 : w.heap.size < V2.drew.heap.size := (Array.getElem?_eq_some_iff.1 BX.out.row).1
  have hx : Z.heap[w.heap.size]? = some (.cells #[.int .i64 f, .int .i64 b, .slice ao nn c] 76) := (cp.keep _ lt0 fun q => Nat.lt_irrefl _ (H.out.all_lt q)).1.trans BX.out.row
  have OF := Lib.hid ((IS.out.to e1).off g.mw)
  have rw1 := rowOf_of g.mw.wrAt
  dsimp only at rw1
  rw [hnb] at rw1
  have G3 := Lib.hid g
  have SD := Lib.hid (Send_any (w := Z.drew) (X := S.X) ((g.mw.below (Below.refl _ Z).drew).mw.netAt) (eq_false (by have := HR.out.2.2.2.2.1; omega)) (a := b) (b := f) (eq_true (by have := HR.out.2.2.2.2.2.2.2; omega)) (eq_true HR.out.2.2.2.2.2.2.2.2) (eq_true (by have := HR.out.2.2.2.2.2.2.1; omega)) (eq_true HR.out.2.2.2.2.2.2.1.2) (by have := HR.out.2.2.2.2.2.1; simp; omega) (hs'.keep (Nat.le_refl _) (Below.refl _ Z).drew) (eq_true (by have := HR.out.2.2.2.1; omega)))
  have KD := Lib.hid (And.intro e1 rd)
  clear rn rw0 rx BX lt0 C5 g cp e1 rd hs'
  have rx := rowOf_of hx
  clear hx
  go_wp2_with (go_at_call 25; refine OF.out.mono ?_; rintro _ Z2 ⟨rfl, rfl⟩)
  (refine wp_region_still_tail 9 (by kernel_rfl) (by kernel_rfl) ?_; simp only [List.take_succ_cons, List.take_zero, List.drop_succ_cons, List.drop_zero]; (iterate 9 still_step); refine wpStill_nil ?_)
  go_wp2_with (go_at_call 50; refine SD.out.mono ?_; rintro _ U ⟨rfl, X', t, e⟩; have g5 := G3.out.trans ((G3.out.mw.below (Below.refl _ _).drew).trans ((G3.out.mw.below (Below.refl _ _).drew).mw.net t)); have G5 := Lib.hid g5; have T := Lib.hid t; clear g5 t)
  refine bodyPost_ret (results_none rfl _ _ _) rfl ?_
  exact ⟨rfl, D', X', KD.out.1, KD.out.2, G5.out, e, T.out.nodes, T.out.nb⟩
end Go.Proofs.YtjkfondgacjpnaaGreatDoor
