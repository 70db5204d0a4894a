/- What is proved: parts of the walk and of the plain law, 2 texts in one. No condition but those each law names. -/
import Derived.Test.YtjkfondgacjpnaaGreatDoorK35
namespace Go.Proofs.YtjkfondgacjpnaaGreatDoor
open Go.RowKit
open Sx (Ab DW Turns Did Foot)
set_option maxRecDepth 100000
attribute [local go_sem ↓] rowOf_cell ebl1 ebl2 ebrDk ebrSk ebmRk
attribute [local go_sem] rowOf_alloc soft_alloc rowOf_drew soft_drew rowOf_setRow soft_setRow frozen_of_soft Ext.row Ext.soft_ rOf_D rOf_S rcD_eq rcS_eq
def takesE (t : Tm) (d : Dl) (n : Cl) (free : Int) : Int := if errD d ≠ 0 then errD d else if (quoteV t d.p.a free).2 ≠ 0 then (quoteV t d.p.a free).2 else if d.g.a < (quoteV t d.p.a free).1 then 22 else safeE t d n
section
variable {w : World} {D : Dm} {d : Dl} {n : Cl} {free : Int}
theorem takes_deal {k : Int} (h : Dae w D) (e1 : errD d = k) (k0 : (k == 0) = false) : Calls Tryz.prog 79 #[.pointer (some ⟨D.xb, 0, none⟩), .agg d.cells, .agg n.cells, .int .i64 free] w fun e w' => e = .returned (.int .i64 k) ∧ Below w.heap.size w w' := by
  have H := Lib.hid h
  have H1 := Lib.hid e1
  go_enter Tryz.func79, Tryz.ntmps79
  go_upto_region 1 with (fail)
  have bx := Bxs.new2 w (d.cells) 83 (n.cells) 37; generalize ((w.alloc (.cells (d.cells) 83)).alloc (.cells (n.cells) 37)) = W at bx ⊢; have rx0 := bx.row' 0 rfl; have sx0 := bx.soft' 0 rfl; (try simp only [Nat.add_zero] at rx0 sx0); have rx1 := bx.row' 1 rfl; have sx1 := bx.soft' 1 rfl; (try simp only [Nat.add_zero] at rx1 sx1); have BX := Lib.hid bx; clear bx
  go_wp2_with fail
  refine (deal_is H1.out _).mono ?_; rintro _ W2 ⟨rfl, hb⟩; have bx := BX.out.step hb; clear BX hb rx0 sx0 rx1 sx1; have rx0 := bx.row' 0 rfl; have sx0 := bx.soft' 0 rfl; (try simp only [Nat.add_zero] at rx0 sx0); have rx1 := bx.row' 1 rfl; have sx1 := bx.soft' 1 rfl; (try simp only [Nat.add_zero] at rx1 sx1); have BX := Lib.hid bx; clear bx
  go_wp2
  go_ret
  exact ⟨rfl, BX.out.below⟩
set_option maxHeartbeats 2000000 in
theorem takes_quote {v q : Int} (h : Dae w D) (HT : Hid (TmK D.t)) (e1 : errD d = 0) (H2 : Hid (quoteV D.t d.p.a free = (v, q))) (q0 : (q == 0) = false) : Calls Tryz.prog 79 #[.pointer (some ⟨D.xb, 0, none⟩), .agg d.cells, .agg n.cells, .int .i64 free] w fun e w' => e = .returned (.int .i64 q) ∧ Below w.heap.size w w' := by
  have H := Lib.hid h
  have H1 := Lib.hid e1
  go_enter Tryz.func79, Tryz.ntmps79
  go_upto_region 1 with (fail)
  have bx := Bxs.new2 w (d.cells) 83 (n.cells) 37; generalize ((w.alloc (.cells (d.cells) 83)).alloc (.cells (n.cells) 37)) = W at bx ⊢; have rx0 := bx.row' 0 rfl; have sx0 := bx.soft' 0 rfl; (try simp only [Nat.add_zero] at rx0 sx0); have rx1 := bx.row' 1 rfl; have sx1 := bx.soft' 1 rfl; (try simp only [Nat.add_zero] at rx1 sx1); have BX := Lib.hid bx; clear bx
  go_wp2_with fail
  refine (deal_is H1.out _).mono ?_; rintro _ W2 ⟨rfl, hb⟩; have bx := BX.out.step hb; clear BX hb rx0 sx0 rx1 sx1; have rx0 := bx.row' 0 rfl; have sx0 := bx.soft' 0 rfl; (try simp only [Nat.add_zero] at rx0 sx0); have rx1 := bx.row' 1 rfl; have sx1 := bx.soft' 1 rfl; (try simp only [Nat.add_zero] at rx1 sx1); have BX := Lib.hid bx; clear bx
  have D2 := H.out.below BX.out.below
  have rD := rowOf_of D2.row
  unfold Dm.cells at rD
  have Q : ∀ w, Calls Tryz.prog 107 #[.agg D.t.cells, .int .i64 d.p.a, .int .i64 free] w (Ret (.tuple #[.int .i64 v, .int .i64 q]) w) := fun w => by
    have := ret_of (Quote_any HT.out d.p.a free w)
    rw [H2.out] at this
    exact this
  have Q := Lib.hid Q
  have lx : D.xb < W2.heap.size := D2.lt (.inl rfl)
  have l0 := BX.out.lt 0 rfl
  have l1 := BX.out.lt 1 rfl
  simp only [Nat.add_zero] at l0
  clear D2
  go_upto_region 4 with (fail)
  (refine wp_region_grow (by kernel_rfl) (by kernel_rfl) ?_; (repeat (go_big_quiet_step (((go_at_call 107; exact Calls.ext_of (Q.out _)))))); refine wpQuiet_nil ?_; rintro _ ⟨g, rfl⟩)
  have bx := BX.out.step g.below; clear BX rx0 sx0 rx1 sx1; have rx0 := bx.row' 0 rfl; have sx0 := bx.soft' 0 rfl; (try simp only [Nat.add_zero] at rx0 sx0); have rx1 := bx.row' 1 rfl; have sx1 := bx.soft' 1 rfl; (try simp only [Nat.add_zero] at rx1 sx1); have BX := Lib.hid bx; clear bx
  generalize g.val = V at *
  go_wp2
  go_ret
  exact ⟨rfl, BX.out.below⟩
set_option maxHeartbeats 2000000 in
theorem takes_less {v q : Int} (h : Dae w D) (HT : Hid (TmK D.t)) (e1 : errD d = 0) (H2 : Hid (quoteV D.t d.p.a free = (v, q))) (q0 : q = 0) (e3 : (d.g.a < v) = True) : Calls Tryz.prog 79 #[.pointer (some ⟨D.xb, 0, none⟩), .agg d.cells, .agg n.cells, .int .i64 free] w fun e w' => e = .returned (.int .i64 22) ∧ Below w.heap.size w w' := by
  subst q0
  have H := Lib.hid h
  have H1 := Lib.hid e1
  go_enter Tryz.func79, Tryz.ntmps79
  go_upto_region 1 with (fail)
  have bx := Bxs.new2 w (d.cells) 83 (n.cells) 37; generalize ((w.alloc (.cells (d.cells) 83)).alloc (.cells (n.cells) 37)) = W at bx ⊢; have rx0 := bx.row' 0 rfl; have sx0 := bx.soft' 0 rfl; (try simp only [Nat.add_zero] at rx0 sx0); have rx1 := bx.row' 1 rfl; have sx1 := bx.soft' 1 rfl; (try simp only [Nat.add_zero] at rx1 sx1); have BX := Lib.hid bx; clear bx
  go_wp2_with fail
  refine (deal_is H1.out _).mono ?_; rintro _ W2 ⟨rfl, hb⟩; have bx := BX.out.step hb; clear BX hb rx0 sx0 rx1 sx1; have rx0 := bx.row' 0 rfl; have sx0 := bx.soft' 0 rfl; (try simp only [Nat.add_zero] at rx0 sx0); have rx1 := bx.row' 1 rfl; have sx1 := bx.soft' 1 rfl; (try simp only [Nat.add_zero] at rx1 sx1); have BX := Lib.hid bx; clear bx
  have D2 := H.out.below BX.out.below
  have rD := rowOf_of D2.row
  unfold Dm.cells at rD
  have Q : ∀ w, Calls Tryz.prog 107 #[.agg D.t.cells, .int .i64 d.p.a, .int .i64 free] w (Ret (.tuple #[.int .i64 v, .int .i64 0]) w) := fun w => by
    have := ret_of (Quote_any HT.out d.p.a free w)
    rw [H2.out] at this
    exact this
  have Q := Lib.hid Q
  have lx : D.xb < W2.heap.size := D2.lt (.inl rfl)
  have l0 := BX.out.lt 0 rfl
  have l1 := BX.out.lt 1 rfl
  simp only [Nat.add_zero] at l0
  clear D2
  go_upto_region 4 with (fail)
  (refine wp_region_grow (by kernel_rfl) (by kernel_rfl) ?_; (repeat (go_big_quiet_step (((go_at_call 107; exact Calls.ext_of (Q.out _)))))); refine wpQuiet_nil ?_; rintro _ ⟨g, rfl⟩)
  have bx := BX.out.step g.below; clear BX rx0 sx0 rx1 sx1; have rx0 := bx.row' 0 rfl; have sx0 := bx.soft' 0 rfl; (try simp only [Nat.add_zero] at rx0 sx0); have rx1 := bx.row' 1 rfl; have sx1 := bx.soft' 1 rfl; (try simp only [Nat.add_zero] at rx1 sx1); have BX := Lib.hid bx; clear bx
  generalize g.val = V at *
  go_wp2
  go_ret
  exact ⟨rfl, BX.out.below⟩
set_option maxHeartbeats 2000000 in
theorem takes_late {v s : Int} (h : Dae w D) (HT : Hid (TmK D.t)) (e1 : errD d = 0) (H2 : Hid (quoteV D.t d.p.a free = (v, 0))) (e3 : (d.g.a < v) = False) (H4 : Hid (safeE D.t d n = s)) (s0 : (s == 0) = false) : Calls Tryz.prog 79 #[.pointer (some ⟨D.xb, 0, none⟩), .agg d.cells, .agg n.cells, .int .i64 free] w fun e w' => e = .returned (.int .i64 s) ∧ Below w.heap.size w w' := by
  have H := Lib.hid h
  have H1 := Lib.hid e1
  go_enter Tryz.func79, Tryz.ntmps79
  go_upto_region 1 with (fail)
  have bx := Bxs.new2 w (d.cells) 83 (n.cells) 37; generalize ((w.alloc (.cells (d.cells) 83)).alloc (.cells (n.cells) 37)) = W at bx ⊢; have rx0 := bx.row' 0 rfl; have sx0 := bx.soft' 0 rfl; (try simp only [Nat.add_zero] at rx0 sx0); have rx1 := bx.row' 1 rfl; have sx1 := bx.soft' 1 rfl; (try simp only [Nat.add_zero] at rx1 sx1); have BX := Lib.hid bx; clear bx
  go_wp2_with fail
  refine (deal_is H1.out _).mono ?_; rintro _ W2 ⟨rfl, hb⟩; have bx := BX.out.step hb; clear BX hb rx0 sx0 rx1 sx1; have rx0 := bx.row' 0 rfl; have sx0 := bx.soft' 0 rfl; (try simp only [Nat.add_zero] at rx0 sx0); have rx1 := bx.row' 1 rfl; have sx1 := bx.soft' 1 rfl; (try simp only [Nat.add_zero] at rx1 sx1); have BX := Lib.hid bx; clear bx
  have D2 := H.out.below BX.out.below
  have rD := rowOf_of D2.row
  unfold Dm.cells at rD
  have Q : ∀ w, Calls Tryz.prog 107 #[.agg D.t.cells, .int .i64 d.p.a, .int .i64 free] w (Ret (.tuple #[.int .i64 v, .int .i64 0]) w) := fun w => by
    have := ret_of (Quote_any HT.out d.p.a free w)
    rw [H2.out] at this
    exact this
  have Q := Lib.hid Q
  have lx : D.xb < W2.heap.size := D2.lt (.inl rfl)
  have l0 := BX.out.lt 0 rfl
  have l1 := BX.out.lt 1 rfl
  simp only [Nat.add_zero] at l0
  clear D2
  go_upto_region 4 with (fail)
  (refine wp_region_grow (by kernel_rfl) (by kernel_rfl) ?_; (repeat (go_big_quiet_step (((go_at_call 107; exact Calls.ext_of (Q.out _)))))); refine wpQuiet_nil ?_; rintro _ ⟨g, rfl⟩)
  have bx := BX.out.step g.below; clear BX rx0 sx0 rx1 sx1; have rx0 := bx.row' 0 rfl; have sx0 := bx.soft' 0 rfl; (try simp only [Nat.add_zero] at rx0 sx0); have rx1 := bx.row' 1 rfl; have sx1 := bx.soft' 1 rfl; (try simp only [Nat.add_zero] at rx1 sx1); have BX := Lib.hid bx; clear bx
  have D3 := H.out.below BX.out.below
  have rD := rowOf_of D3.row
  unfold Dm.cells at rD
  have lx : D.xb < g.val.heap.size := D3.lt (.inl rfl)
  have l0 := BX.out.lt 0 rfl
  have l1 := BX.out.lt 1 rfl
  simp only [Nat.add_zero] at l0
  clear D3
  generalize g.val = V at *
  go_upto_region 9 with (fail)
  have K : ∀ w, Calls Tryz.prog 108 #[.agg D.t.cells, .agg d.cells, .agg n.cells] w (Ret (.int .i64 s) w) := fun w => by
    have := ret_of (Safe_any HT.out.tm d n w)
    rw [H4.out] at this
    exact this
  have K := Lib.hid K
  (refine wp_region_grow (by kernel_rfl) (by kernel_rfl) ?_; (repeat (go_big_quiet_step (((go_at_call 108; exact Calls.ext_of (K.out _)))))); refine wpQuiet_nil ?_; rintro _ ⟨g2, rfl⟩)
  have bx := BX.out.step g2.below; clear BX rx0 sx0 rx1 sx1; have rx0 := bx.row' 0 rfl; have sx0 := bx.soft' 0 rfl; (try simp only [Nat.add_zero] at rx0 sx0); have rx1 := bx.row' 1 rfl; have sx1 := bx.soft' 1 rfl; (try simp only [Nat.add_zero] at rx1 sx1); have BX := Lib.hid bx; clear bx
  generalize g2.val = X at *
  go_wp2
  go_ret
  exact ⟨rfl, BX.out.below⟩
set_option maxHeartbeats 2000000 in
theorem takes_twice {v : Int} {q : En} (h : Dae w D) (HT : Hid (TmK D.t)) (e1 : errD d = 0) (H2 : Hid (quoteV D.t d.p.a free = (v, 0))) (e3 : (d.g.a < v) = False) (H4 : Hid (safeE D.t d n = 0)) (hq : Hid (getA D.M d.i = some q)) : Calls Tryz.prog 79 #[.pointer (some ⟨D.xb, 0, none⟩), .agg d.cells, .agg n.cells, .int .i64 free] w fun e w' => e = .returned (.int .i64 13) ∧ Below w.heap.size w w' := by
  have H := Lib.hid h
  have H1 := Lib.hid e1
  go_enter Tryz.func79, Tryz.ntmps79
  go_upto_region 1 with (fail)
  have bx := Bxs.new2 w (d.cells) 83 (n.cells) 37; generalize ((w.alloc (.cells (d.cells) 83)).alloc (.cells (n.cells) 37)) = W at bx ⊢; have rx0 := bx.row' 0 rfl; have sx0 := bx.soft' 0 rfl; (try simp only [Nat.add_zero] at rx0 sx0); have rx1 := bx.row' 1 rfl; have sx1 := bx.soft' 1 rfl; (try simp only [Nat.add_zero] at rx1 sx1); have BX := Lib.hid bx; clear bx
  go_wp2_with fail
  refine (deal_is H1.out _).mono ?_; rintro _ W2 ⟨rfl, hb⟩; have bx := BX.out.step hb; clear BX hb rx0 sx0 rx1 sx1; have rx0 := bx.row' 0 rfl; have sx0 := bx.soft' 0 rfl; (try simp only [Nat.add_zero] at rx0 sx0); have rx1 := bx.row' 1 rfl; have sx1 := bx.soft' 1 rfl; (try simp only [Nat.add_zero] at rx1 sx1); have BX := Lib.hid bx; clear bx
  have D2 := H.out.below BX.out.below
  have rD := rowOf_of D2.row
  unfold Dm.cells at rD
  have Q : ∀ w, Calls Tryz.prog 107 #[.agg D.t.cells, .int .i64 d.p.a, .int .i64 free] w (Ret (.tuple #[.int .i64 v, .int .i64 0]) w) := fun w => by
    have := ret_of (Quote_any HT.out d.p.a free w)
    rw [H2.out] at this
    exact this
  have Q := Lib.hid Q
  have lx : D.xb < W2.heap.size := D2.lt (.inl rfl)
  have l0 := BX.out.lt 0 rfl
  have l1 := BX.out.lt 1 rfl
  simp only [Nat.add_zero] at l0
  clear D2
  go_upto_region 4 with (fail)
  (refine wp_region_grow (by kernel_rfl) (by kernel_rfl) ?_; (repeat (go_big_quiet_step (((go_at_call 107; exact Calls.ext_of (Q.out _)))))); refine wpQuiet_nil ?_; rintro _ ⟨g, rfl⟩)
  have bx := BX.out.step g.below; clear BX rx0 sx0 rx1 sx1; have rx0 := bx.row' 0 rfl; have sx0 := bx.soft' 0 rfl; (try simp only [Nat.add_zero] at rx0 sx0); have rx1 := bx.row' 1 rfl; have sx1 := bx.soft' 1 rfl; (try simp only [Nat.add_zero] at rx1 sx1); have BX := Lib.hid bx; clear bx
  have D3 := H.out.below BX.out.below
  have rD := rowOf_of D3.row
  unfold Dm.cells at rD
  have lx : D.xb < g.val.heap.size := D3.lt (.inl rfl)
  have l0 := BX.out.lt 0 rfl
  have l1 := BX.out.lt 1 rfl
  simp only [Nat.add_zero] at l0
  clear D3
  generalize g.val = V at *
  go_upto_region 9 with (fail)
  have K : ∀ w, Calls Tryz.prog 108 #[.agg D.t.cells, .agg d.cells, .agg n.cells] w (Ret (.int .i64 0) w) := fun w => by
    have := ret_of (Safe_any HT.out.tm d n w)
    rw [H4.out] at this
    exact this
  have K := Lib.hid K
  (refine wp_region_grow (by kernel_rfl) (by kernel_rfl) ?_; (repeat (go_big_quiet_step (((go_at_call 108; exact Calls.ext_of (K.out _)))))); refine wpQuiet_nil ?_; rintro _ ⟨g2, rfl⟩)
  have bx := BX.out.step g2.below; clear BX rx0 sx0 rx1 sx1; have rx0 := bx.row' 0 rfl; have sx0 := bx.soft' 0 rfl; (try simp only [Nat.add_zero] at rx0 sx0); have rx1 := bx.row' 1 rfl; have sx1 := bx.soft' 1 rfl; (try simp only [Nat.add_zero] at rx1 sx1); have BX := Lib.hid bx; clear bx
  generalize g2.val = X at *
  have D4 := H.out.below BX.out.below
  have RM := Lib.hid (room_twice D4 hq.out)
  clear D4 rD lx l0 l1
  go_wp2_with fail
  refine (RM.out).mono ?_; rintro _ Y ⟨rfl, hb⟩; have bx := BX.out.step hb; clear BX hb rx0 sx0 rx1 sx1; have rx0 := bx.row' 0 rfl; have sx0 := bx.soft' 0 rfl; (try simp only [Nat.add_zero] at rx0 sx0); have rx1 := bx.row' 1 rfl; have sx1 := bx.soft' 1 rfl; (try simp only [Nat.add_zero] at rx1 sx1); have BX := Lib.hid bx; clear bx
  go_wp2
  go_ret
  exact ⟨rfl, BX.out.below⟩
set_option maxHeartbeats 2000000 in
theorem takes_ok {v : Int} {R : List (Int × List Nat)} (HL : Hid (Lies w D (· = []) R)) (HB : Hid (Base w D)) (HT : Hid (TmK D.t)) (HR : Hid ((secL R).length ≤ 250)) (HS : Hid (Small d.h.l)) (HD : Hid (dealOk d = true)) (H2 : Hid (quoteV D.t d.p.a free = (v, 0))) (e3 : (d.g.a < v) = False) (H4 : Hid (safeE D.t d n = 0)) :
    Calls Tryz.prog 79 #[.pointer (some ⟨D.xb, 0, none⟩), .agg d.cells, .agg n.cells, .int .i64 free] w fun e w' => e = .returned (.int .i64 0) ∧ ∃ D', Lies w' D' (With [] d.i ⟨d, 1, false, Hs.zero⟩) (R ++ [(1, putD d)]) ∧ Trans w D w' D' := by
  have h := HL.out.dae
  have e1 := errD_ok HD.out
  have H := Lib.hid h
  have H1 := Lib.hid e1
  clear h e1
  go_enter Tryz.func79, Tryz.ntmps79
  go_upto_region 1 with (fail)
  have bx := Bxs.new2 w (d.cells) 83 (n.cells) 37; generalize ((w.alloc (.cells (d.cells) 83)).alloc (.cells (n.cells) 37)) = W at bx ⊢; have rx0 := bx.row' 0 rfl; have sx0 := bx.soft' 0 rfl; (try simp only [Nat.add_zero] at rx0 sx0); have rx1 := bx.row' 1 rfl; have sx1 := bx.soft' 1 rfl; (try simp only [Nat.add_zero] at rx1 sx1); have BX := Lib.hid bx; clear bx
  go_wp2_with fail
  refine (deal_is H1.out _).mono ?_; rintro _ W2 ⟨rfl, hb⟩; have bx := BX.out.step hb; clear BX hb rx0 sx0 rx1 sx1; have rx0 := bx.row' 0 rfl; have sx0 := bx.soft' 0 rfl; (try simp only [Nat.add_zero] at rx0 sx0); have rx1 := bx.row' 1 rfl; have sx1 := bx.soft' 1 rfl; (try simp only [Nat.add_zero] at rx1 sx1); have BX := Lib.hid bx; clear bx
  have D2 := H.out.below BX.out.below
  have rD := rowOf_of D2.row
  unfold Dm.cells at rD
  have Q : ∀ w, Calls Tryz.prog 107 #[.agg D.t.cells, .int .i64 d.p.a, .int .i64 free] w (Ret (.tuple #[.int .i64 v, .int .i64 0]) w) := fun w => by
    have := ret_of (Quote_any HT.out d.p.a free w)
    rw [H2.out] at this
    exact this
  have Q := Lib.hid Q
  have lx : D.xb < W2.heap.size := D2.lt (.inl rfl)
  have l0 := BX.out.lt 0 rfl
  have l1 := BX.out.lt 1 rfl
  simp only [Nat.add_zero] at l0
  clear D2
  go_upto_region 4 with (fail)
  (refine wp_region_grow (by kernel_rfl) (by kernel_rfl) ?_; (repeat (go_big_quiet_step (((go_at_call 107; exact Calls.ext_of (Q.out _)))))); refine wpQuiet_nil ?_; rintro _ ⟨g, rfl⟩)
  have bx := BX.out.step g.below; clear BX rx0 sx0 rx1 sx1; have rx0 := bx.row' 0 rfl; have sx0 := bx.soft' 0 rfl; (try simp only [Nat.add_zero] at rx0 sx0); have rx1 := bx.row' 1 rfl; have sx1 := bx.soft' 1 rfl; (try simp only [Nat.add_zero] at rx1 sx1); have BX := Lib.hid bx; clear bx
  have D3 := H.out.below BX.out.below
  have rD := rowOf_of D3.row
  unfold Dm.cells at rD
  have lx : D.xb < g.val.heap.size := D3.lt (.inl rfl)
  have l0 := BX.out.lt 0 rfl
  have l1 := BX.out.lt 1 rfl
  simp only [Nat.add_zero] at l0
  clear D3
  generalize g.val = V at *
  go_upto_region 9 with (fail)
  have K : ∀ w, Calls Tryz.prog 108 #[.agg D.t.cells, .agg d.cells, .agg n.cells] w (Ret (.int .i64 0) w) := fun w => by
    have := ret_of (Safe_any HT.out.tm d n w)
    rw [H4.out] at this
    exact this
  have K := Lib.hid K
  (refine wp_region_grow (by kernel_rfl) (by kernel_rfl) ?_; (repeat (go_big_quiet_step (((go_at_call 108; exact Calls.ext_of (K.out _)))))); refine wpQuiet_nil ?_; rintro _ ⟨g2, rfl⟩)
  have bx := BX.out.step g2.below; clear BX rx0 sx0 rx1 sx1; have rx0 := bx.row' 0 rfl; have sx0 := bx.soft' 0 rfl; (try simp only [Nat.add_zero] at rx0 sx0); have rx1 := bx.row' 1 rfl; have sx1 := bx.soft' 1 rfl; (try simp only [Nat.add_zero] at rx1 sx1); have BX := Lib.hid bx; clear bx
  generalize g2.val = X at *
  have D4 := H.out.below BX.out.below
  have RM := Lib.hid (room_ok D4 d.i HL.out.book)
  clear D4 rD lx l0 l1
  go_wp2_with fail
  refine (RM.out).mono ?_; rintro _ Y ⟨rfl, hb⟩; have bx := BX.out.step hb; clear BX hb rx0 sx0 rx1 sx1; have rx0 := bx.row' 0 rfl; have sx0 := bx.soft' 0 rfl; (try simp only [Nat.add_zero] at rx0 sx0); have rx1 := bx.row' 1 rfl; have sx1 := bx.soft' 1 rfl; (try simp only [Nat.add_zero] at rx1 sx1); have BX := Lib.hid bx; clear bx
  go_upto_region 15 with (fail)
  have hb := (Below.refl Y.heap.size Y).alloc (Nat.le_refl _) (.cells (rcD d).cells 119)
  have hbw := BX.out.below.trans (hb.mono BX.out.below.size)
  have na : ¬ D.all Y.heap.size := fun q => by
    have := H.out.all_lt q
    have := BX.out.below.size
    omega
  have KD := Lib.hid (keep_deal HD.out HS.out (M := []) rfl (by decide) HR.out (HL.out.low hbw) (HB.out.trans (Trans.below hbw)) (heap_alloc_new Y _) na)
  have HW := Lib.hid hbw
  clear hb hbw na
  go_wp2_with fail
  refine KD.out.mono ?_
  rintro _ Z ⟨rfl, D', q1, q2⟩
  have Q1 := Lib.hid q1
  have Q2 := Lib.hid ((Trans.below HW.out).trans q2)
  clear q1 q2 KD
  go_wp2
  go_ret
  exact ⟨rfl, D', Q1.out, Q2.out⟩
end
theorem takes_no {w : World} {D : Dm} {d : Dl} {n : Cl} {free k : Int} (h : Dae w D) (hT : TmK D.t) (hk : takesE D.t d n free = k) (k0 : k ≠ 0) : Calls Tryz.prog 79 #[.pointer (some ⟨D.xb, 0, none⟩), .agg d.cells, .agg n.cells, .int .i64 free] w fun e w' => e = .returned (.int .i64 k) ∧ Below w.heap.size w w' := by
  subst hk
  unfold takesE at k0 ⊢
  by_cases h1 : errD d ≠ 0
  · rw [if_pos h1]
    exact takes_deal h rfl (by rw [beq_eq_false_iff_ne]; exact h1)
  · rw [if_neg h1] at k0 ⊢
    have h1 : errD d = 0 := by omega
    by_cases h2 : (quoteV D.t d.p.a free).2 ≠ 0
    · rw [if_pos h2]
      exact takes_quote h (Lib.hid hT) h1 (Lib.hid rfl) (by rw [beq_eq_false_iff_ne]; exact h2)
    · rw [if_neg h2] at k0 ⊢
      have h2 : (quoteV D.t d.p.a free).2 = 0 := by omega
      by_cases h3 : d.g.a < (quoteV D.t d.p.a free).1
      · rw [if_pos h3]
        exact takes_less h (Lib.hid hT) h1 (Lib.hid rfl) h2 (eq_true h3)
      · rw [if_neg h3] at k0 ⊢
        exact takes_late h (Lib.hid hT) h1 (Lib.hid (Prod.ext rfl h2)) (eq_false h3) (Lib.hid rfl) (by rw [beq_eq_false_iff_ne]; exact k0)
theorem takesE_ok {t : Tm} {d : Dl} {n : Cl} {free : Int} (h : takesE t d n free = 0) : dealOk d = true ∧ (∃ v, quoteV t d.p.a free = (v, 0) ∧ ¬ d.g.a < v) ∧ safeE t d n = 0 := by
  unfold takesE at h
  split at h
  · rename_i q; exact absurd h q
  · split at h
    · rename_i q; exact absurd h q
    · split at h
      · omega
      · rename_i q1 q2 q3
        refine ⟨?_, ⟨_, Prod.ext rfl (by omega), q3⟩, h⟩
        unfold errD at q1
        cases hd : dealOk d with
        | true => rfl
        | false => rw [hd] at q1; simp at q1
end Go.Proofs.YtjkfondgacjpnaaGreatDoor

namespace Go.Proofs.YtjkfondgacjpnaaGreatDoor
open Go.RowKit
open Sx (Ab DW Turns Did Foot)
set_option maxRecDepth 100000
section
variable (w : World) (dst : Option Tmp) (ty : TypeId) (pos : String) (af : Array Edge) (gd : Option (Nat × Bool))
theorem ebd6k (A : Act) (a p g h q : Operand) (k : Int) (ha : A.eval a = .int .i64 (iv (A.eval a))) (hp : A.eval p = .agg (lOf (A.eval p)).cells) (hg : A.eval g = .agg (lOf (A.eval g)).cells) (hh : A.eval h = .agg (hOf (A.eval h)).cells) (hq : A.eval q = .int .i64 (iv (A.eval q))) :
    (execOp A.eval ⟨dst, .build 83 #[(0, a), (1, .const (.int .i64 k)), (2, p), (3, g), (4, h), (5, q)], ty, pos, af, gd⟩).run Tryz.prog w = .ok (.value (.agg (Dl.cells ⟨iv (A.eval a), k, lOf (A.eval p), lOf (A.eval g), hOf (A.eval h), iv (A.eval q)⟩))) w :=
  ebd6 w A.eval dst ty pos af gd a (.const (.int .i64 k)) p g h q ha rfl hp hg hh hq
theorem ebm5k (A : Act) (a p g h : Operand) (k : Int) (ha : A.eval a = .int .i64 (iv (A.eval a))) (hp : A.eval p = .agg (lOf (A.eval p)).cells) (hg : A.eval g = .agg (lOf (A.eval g)).cells) (hh : A.eval h = .agg (hOf (A.eval h)).cells) :
    (execOp A.eval ⟨dst, .build 67 #[(0, .const (.int .i64 k)), (1, a), (3, p), (4, g), (5, h)], ty, pos, af, gd⟩).run Tryz.prog w = .ok (.value (.agg (Msg.cells ⟨k, iv (A.eval a), 0, lOf (A.eval p), lOf (A.eval g), hOf (A.eval h)⟩))) w :=
  ebm5 w A.eval dst ty pos af gd (.const (.int .i64 k)) a p g h rfl ha hp hg hh
end
attribute [local go_sem ↓] rowOf_cell ebd6k ebm5k
attribute [local go_sem] rowOf_alloc soft_alloc rowOf_drew soft_drew rowOf_setRow soft_setRow frozen_of_soft
def heardD (m : Msg) (peer : Int) : Dl := ⟨m.i, 2, m.g, m.p, m.h, peer⟩
def acceptM (d : Dl) : Msg := ⟨2, d.i, 0, d.p, d.g, d.h⟩
section
variable {w : World} {D : Dm} {n : Cl} {free peer : Int} {ao : Option Addr} {k c : Nat} {l : List Nat}
set_option maxHeartbeats 2000000 in
theorem hear_no {m : Msg} {e : Int} (h : Dae w D) (hf : Forms w) (hs : Sl w ao k c (bts l)) (hr : Rs (l, 0)) (hm : mgetM l = (0, m)) (k0 : m.k = 1) (hi : 1 ≤ m.i ∧ m.i ≤ 1073741824) (he : 1 ≤ e ∧ e ≤ 24) (ht : ∀ W, Dae W D → Calls Tryz.prog 79 #[.pointer (some ⟨D.xb, 0, none⟩), .agg (heardD m peer).cells, .agg n.cells, .int .i64 free] W fun x w' => x = .returned (.int .i64 e) ∧ Below W.heap.size W w') : Calls Tryz.prog 54 #[.pointer (some ⟨D.xb, 0, none⟩), .int .i64 peer, .slice ao k c, .agg n.cells, .int .i64 free] w (RetB (putC m.i e) w) := by
  have hn : idE m.i (refE e) = 0 := by
    unfold idE refE
    rw [if_neg (by omega), if_neg (by omega)]
  have HN := Lib.hid hn
  have HT := Lib.hid ht
  have e0 : (e == 0) = false := by rw [beq_eq_false_iff_ne]; omega
  clear hn hi he ht
  have H := Lib.hid h
  have HF := Lib.hid hf
  have HSl := Lib.hid hs
  have HRs := Lib.hid hr
  have HM := Lib.hid hm
  clear h hs hr hm hf
  go_enter Tryz.func54, Tryz.ntmps54
  go_upto_region 1 with (fail)
  have bx := Bx.new w (n.cells) 37; generalize w.alloc (.cells (n.cells) 37) = W at bx ⊢; have rx := bx.rowOf; have sx := bx.soft; have BX := Lib.hid bx; clear bx
  have G := MGet_any (HF.out.keep (Nat.le_refl _) BX.out.below) (HSl.out.keep (Nat.le_refl _) BX.out.below) HRs.out
  rw [HM.out] at G
  have GG := Lib.hid G
  clear G
  have rD := rowOf_of (H.out.below BX.out.below).row
  unfold Dm.cells at rD
  go_wp2_with fail
  refine GG.out.mono ?_
  rintro _ W2 ⟨rfl, hb⟩
  have bx := BX.out.step hb
  clear BX GG rx sx rD hb
  have BX := Lib.hid bx
  clear bx
  go_upto_region 4 with (fail)
  have L := Bx.made W2 Msg.zero.cells m.cells 67
  generalize (W2.alloc (.cells Msg.zero.cells 67)).setRow W2.heap.size m.cells = W3 at L ⊢
  have bx := BX.out.step L.below
  clear BX
  have BX := Lib.hid bx
  have rm := L.rowOf
  have rx := bx.rowOf
  have LX := Lib.hid L
  clear bx L
  go_upto_region 9 with (fail)
  have L2 := Bx.made W3 Dl.zero.cells (heardD m peer).cells 83
  rw [show ({ i := m.i, r := 2, p := m.g, g := m.p, h := m.h, q := peer } : Dl) = heardD m peer from rfl]
  have hdi : (heardD m peer).i = m.i := rfl
  generalize (W3.alloc (.cells Dl.zero.cells 83)).setRow W3.heap.size (heardD m peer).cells = W4 at L2 ⊢
  have bx := BX.out.step L2.below
  have lx := LX.out.step L2.below
  clear BX LX rm rx
  have BX := Lib.hid bx
  have LX := Lib.hid lx
  have rd := L2.rowOf
  have rm := lx.rowOf
  have rx := bx.rowOf
  have LD := Lib.hid L2
  clear L2 bx lx hdi
  have T := Lib.hid (HT.out W4 (H.out.below BX.out.below))
  go_wp2_with fail
  refine T.out.mono ?_
  rintro _ W5 ⟨rfl, hb⟩
  have bx := BX.out.step hb
  have lx := LX.out.step hb
  clear BX LX LD T rm rx rd hb
  have BX := Lib.hid bx
  have rm := lx.rowOf
  clear bx lx
  have R := Lib.hid (refusal_call (HF.out.keep (Nat.le_refl _) BX.out.below) HN.out)
  go_wp2_with fail
  refine R.out.mono ?_
  rintro _ V ⟨a2, c2, rfl, hb, s2⟩
  have B := Lib.hid (BX.out.below.trans (hb.mono BX.out.below.size))
  have S := Lib.hid s2
  clear hb s2 R
  go_wp2
  go_ret
  exact ⟨a2, c2, rfl, B.out, S.out⟩
set_option maxHeartbeats 2000000 in
theorem hear_ok {m : Msg} {P' : List (Int × En) → Prop} {R R' : List (Int × List Nat)} (hL : Lies w D (· = []) R) (hB : Base w D) (hs : Sl w ao k c (bts l)) (hr : Rs (l, 0)) (hm : mgetM l = (0, m)) (k0 : m.k = 1) (hn : idE m.i (propE (acceptM (heardD m peer))) = 0) (hii : I64 m.i ∧ LgI m.g ∧ LgI m.p)
    (ht : ∀ W, Lies W D (· = []) R → Base W D → Calls Tryz.prog 79 #[.pointer (some ⟨D.xb, 0, none⟩), .agg (heardD m peer).cells, .agg n.cells, .int .i64 free] W fun x w' => x = .returned (.int .i64 0) ∧ ∃ D', Lies w' D' P' R' ∧ Trans W D w' D') :
    Calls Tryz.prog 54 #[.pointer (some ⟨D.xb, 0, none⟩), .int .i64 peer, .slice ao k c, .agg n.cells, .int .i64 free] w fun e w' => ∃ a c', e = .returned (.slice a (putLM (acceptM (heardD m peer))).length c') ∧ Sl w' a (putLM (acceptM (heardD m peer))).length c' (bts (putLM (acceptM (heardD m peer)))) ∧ ∃ D', Lies w' D' P' R' ∧ Trans w D w' D' := by
  have h := hL.dae
  have hf := hB.forms
  have HL := Lib.hid hL
  have HB := Lib.hid hB
  have HN := Lib.hid hn
  have HII := Lib.hid hii
  have HT := Lib.hid ht
  clear hL hB hn hii ht
  have H := Lib.hid h
  have HF := Lib.hid hf
  have HSl := Lib.hid hs
  have HRs := Lib.hid hr
  have HM := Lib.hid hm
  clear h hs hr hm hf
  go_enter Tryz.func54, Tryz.ntmps54
  go_upto_region 1 with (fail)
  have bx := Bx.new w (n.cells) 37; generalize w.alloc (.cells (n.cells) 37) = W at bx ⊢; have rx := bx.rowOf; have sx := bx.soft; have BX := Lib.hid bx; clear bx
  have G := MGet_any (HF.out.keep (Nat.le_refl _) BX.out.below) (HSl.out.keep (Nat.le_refl _) BX.out.below) HRs.out
  rw [HM.out] at G
  have GG := Lib.hid G
  clear G
  have rD := rowOf_of (H.out.below BX.out.below).row
  unfold Dm.cells at rD
  go_wp2_with fail
  refine GG.out.mono ?_
  rintro _ W2 ⟨rfl, hb⟩
  have bx := BX.out.step hb
  have HLN := Lib.hid bx.below.size
  clear BX GG rx sx rD hb
  have BX := Lib.hid bx
  clear bx
  go_upto_region 4 with (fail)
  have L := Bx.made W2 Msg.zero.cells m.cells 67
  generalize (W2.alloc (.cells Msg.zero.cells 67)).setRow W2.heap.size m.cells = W3 at L ⊢
  have bx := BX.out.step L.below
  clear BX
  have BX := Lib.hid bx
  have rm := L.rowOf
  have rx := bx.rowOf
  have LX := Lib.hid L
  have LN := Lib.hid HLN.out
  have LX2 := Lib.hid (show W2.heap.size ≤ W3.heap.size from Nat.le_of_lt (Array.getElem?_eq_some_iff.1 L.row).1)
  clear bx L
  go_upto_region 9 with (fail)
  have L2 := Bx.made W3 Dl.zero.cells (heardD m peer).cells 83
  rw [show ({ i := m.i, r := 2, p := m.g, g := m.p, h := m.h, q := peer } : Dl) = heardD m peer from rfl]
  have hdi : (heardD m peer).i = m.i := rfl
  generalize (W3.alloc (.cells Dl.zero.cells 83)).setRow W3.heap.size (heardD m peer).cells = W4 at L2 ⊢
  have bx := BX.out.step L2.below
  have lx := LX.out.step L2.below
  clear BX LX rm rx
  have BX := Lib.hid bx
  have LX := Lib.hid lx
  have rd := L2.rowOf
  have rm := lx.rowOf
  have rx := bx.rowOf
  have LD := Lib.hid L2
  clear L2 bx lx hdi
  have T := Lib.hid (HT.out W4 (HL.out.low BX.out.below) (HB.out.trans (Trans.below BX.out.below)))
  go_wp2_with fail
  refine T.out.mono ?_
  rintro _ W5 ⟨rfl, D', q1, q2⟩
  have na : ∀ i, w.heap.size ≤ i → ¬ D.all i := fun i hi q => by have := H.out.all_lt q; omega
  have rm : rowOf W5 W2.heap.size = m.cells := rowOf_of ((q2.keep _ (Array.getElem?_eq_some_iff.1 LX.out.row).1 (na _ LN.out)).1.trans LX.out.row)
  have rd : rowOf W5 W3.heap.size = (heardD m peer).cells := rowOf_of ((q2.keep _ (Array.getElem?_eq_some_iff.1 LD.out.row).1 (na _ (Nat.le_trans LN.out LX2.out))).1.trans LD.out.row)
  have B5 := (HB.out.trans (Trans.below BX.out.below)).trans q2
  have P := Lib.hid (MPut_legs B5.forms (m := acceptM (heardD m peer)) (.inr rfl) HN.out HII.out.1 HII.out.2.1 HII.out.2.2)
  have Q1 := Lib.hid q1
  have Q2 := Lib.hid ((Trans.below BX.out.below).trans q2)
  have E := Lib.hid (show Msg.cells ⟨2, m.i, 0, (heardD m peer).p, (heardD m peer).g, (heardD m peer).h⟩ = (acceptM (heardD m peer)).cells from rfl)
  clear q1 q2 na B5 T BX LX LD HT
  have hdd : Msg.cells ⟨2, m.i, 0, (heardD m peer).p, (heardD m peer).g, (heardD m peer).h⟩ = (acceptM (heardD m peer)).cells := E.out
  go_wp2_with fail
  refine P.out.mono ?_
  rintro _ V ⟨a2, c2, rfl, hb, ho⟩
  have S := Lib.hid (Sl.own ho)
  have QL := Lib.hid (Q1.out.low hb)
  have QT := Lib.hid (Q2.out.trans (Trans.below hb))
  clear hb ho P
  go_wp2
  go_ret
  exact ⟨a2, c2, rfl, S.out, D', QL.out, QT.out⟩
end
end Go.Proofs.YtjkfondgacjpnaaGreatDoor

namespace Go.Proofs.YtjkfondgacjpnaaGreatDoor
open Go.RowKit
open Sx (Ab DW Turns Did Foot)
set_option maxRecDepth 100000
attribute [local go_sem ↓] rowOf_cell
attribute [local go_sem] rowOf_alloc soft_alloc rowOf_drew soft_drew rowOf_setRow soft_setRow frozen_of_soft
theorem intL_pos (u : Nat) : 0 < (intL u).length := by
  unfold intL
  split
  · simp
  · split
    · simp
    · split <;> simp
theorem intI_pos (x : Int) : 0 < (intI x).length := intL_pos _
set_option maxHeartbeats 1000000 in
theorem secret_any {w : World} {D : Dm} (h : Dae w D) (hB : Base w D) (hl : D.seed.length ≤ 64) {i : Int} (hi : I64 i) : Calls Tryz.prog 43 #[.pointer (some ⟨D.xb, 0, none⟩), .int .i64 i] w fun e w' => e = .returned (.agg (secretH (D.seed ++ intI i)).cells) ∧ Below w.heap.size w w' := by
  have H := Lib.hid h
  have HB := Lib.hid hB
  have HI := Lib.hid hi
  have HL := Lib.hid hl
  generalize hq : secretH (D.seed ++ intI i) = q
  have HQ := Lib.hid hq
  clear h hB hi hl hq
  go_enter Tryz.func43, Tryz.ntmps43
  go_upto_region 1 with (fail)
  have bx := Bx.new w (Hs.zero.cells) 65; generalize w.alloc (.cells (Hs.zero.cells) 65) = W at bx ⊢; have rx := bx.rowOf; have sx := bx.soft; have BX := Lib.hid bx; clear bx
  have D1 := H.out.below BX.out.below
  have rD := rowOf_of D1.row
  unfold Dm.cells at rD
  have C := Lib.hid (Clone_any D1.sd (by have := HL.out; omega))
  unfold Dm.sv at rD
  clear D1
  go_wp2_with fail
  refine C.out.mono ?_
  rintro _ W2 ⟨a2, c2, rfl, hb2, o2⟩
  have bx := BX.out.step hb2
  have I := Lib.hid (Int_op (HB.out.forms.keep (Nat.le_refl _) bx.below) (Sl.own o2) (by have := HL.out; omega) i HI.out)
  clear BX C rx sx rD hb2 o2
  have BX := Lib.hid bx
  clear bx
  go_wp2_with fail
  refine I.out.mono ?_
  rintro _ W3 ⟨a3, c3, n3, rfl, hb3, o3⟩
  have bx := BX.out.step hb3
  have hn3 : n3 = (D.seed ++ intI i).length := own_n o3 rfl
  have hlen : n3 ≤ 73 := by rw [hn3, List.length_append]; have := HL.out; have := intI_len i; omega
  have hpos : 0 < n3 := by rw [hn3, List.length_append]; have := intI_pos i; omega
  have T := Tagged_any (HB.out.tabs.keep (Nat.le_refl _) bx.below) (Sl.own o3) hpos (by omega)
  rw [HQ.out] at T
  have T := Lib.hid T
  clear BX I hb3 o3 hn3 hlen hpos
  have BX := Lib.hid bx
  clear bx
  go_wp2_with fail
  refine T.out.mono ?_
  rintro _ W4 ⟨rfl, hb⟩
  have bx := BX.out.step hb
  clear BX T hb
  have sx := bx.soft
  have rx := bx.rowOf
  have BX := Lib.hid bx
  clear bx
  go_wp2
  have hc : rowOf (World.setRow W4 w.heap.size q.cells) w.heap.size = q.cells := (rowOf_setRow _ _ _ _ sx).trans (if_pos rfl)
  refine bodyPost_ret (results_row (t := 65) rfl Tryz.underlying65 rfl (by kernel_rfl) _ _ w.heap.size rfl hc (h_size _)) rfl ?_
  exact ⟨rfl, Below.setRow_ BX.out.below (Nat.le_refl _) _⟩
end Go.Proofs.YtjkfondgacjpnaaGreatDoor
