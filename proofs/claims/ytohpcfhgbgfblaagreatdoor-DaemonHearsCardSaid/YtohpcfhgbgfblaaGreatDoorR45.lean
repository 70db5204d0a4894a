/- What is proved: parts of the walk and of the plain law, 1 texts in one. No condition but those each law names. -/
import Derived.Test.YtohpcfhgbgfblaaGreatDoorR44
namespace Go.Proofs.YtohpcfhgbgfblaaGreatDoor
open Go.RowKit
open Sx (Ab DW Turns Did Foot)
set_option maxRecDepth 100000
/-- What the law is given. -/
structure Hd where
  peer : Int
  free : Int
  ao : Option Addr
  k : Nat
  c : Nat
  n : Cl
def Hd.cells (q : Hd) : Array Value := #[.int .i64 q.peer, .int .i64 q.free, .slice q.ao q.k q.c, .int .i64 q.n.a, .int .i64 q.n.b, .int .i64 q.n.c]
section
variable (q : Hd)
theorem hd_size : q.cells.size = 6 := rfl
theorem hd_0 : q.cells[0]? = some (.int .i64 q.peer) := rfl
theorem hd_1 : q.cells[1]? = some (.int .i64 q.free) := rfl
theorem hd_2 : q.cells[2]? = some (.slice q.ao q.k q.c) := rfl
theorem hd_0g (h : 0 < q.cells.size) : q.cells[0]'h = .int .i64 q.peer := rfl
theorem hd_1g (h : 1 < q.cells.size) : q.cells[1]'h = .int .i64 q.free := rfl
theorem hd_2g (h : 2 < q.cells.size) : q.cells[2]'h = .slice q.ao q.k q.c := rfl
theorem hd_n : sub q.cells 3 3 = q.n.cells := by kernel_rfl
end
theorem lg_eql (l : Lg) (w : World) : (binOp .eql 37 (.agg l.cells) (.agg l.cells)).run Tryz.prog w = .ok (.bool true) w := by
  obtain ⟨a, b, c⟩ := l
  simp [Lg.cells, go_sem]
theorem eqg37 (w : World) (x y : Operand) (xs ys : Array Value) : (eqGuard .eql 37 x y (.agg xs) (.agg ys)).run Tryz.prog w = .ok () w := by kernel_rfl
def IsL (v : Value) : Prop := ∃ l : Lg, v = .agg l.cells
theorem is_l (l : Lg) : IsL (.agg l.cells) = True := eq_true ⟨l, rfl⟩
theorem eeql37 (w : World) (ρ : Operand → Value) (x y : Operand) (dst : Option Tmp) (ty : TypeId) (pos : String) (af : Array Edge) (gd : Option (Nat × Bool)) (r : TypeId) (h1 : ρ x = ρ y) (h2 : IsL (ρ y)) : (execOp ρ ⟨dst, .binOp .eql 37 x y r, ty, pos, af, gd⟩).run Tryz.prog w = .ok (.value (.bool true)) w := by
  obtain ⟨m, hm⟩ := h2
  unfold execOp
  simp only [Sem.run_bind, h1, hm, eqg37, Result.andThen_ok, lg_eql, Sem.run_pure]
attribute [local go_sem ↓] rowOf_cell eeql39 eeql37 hd_0 hd_1 hd_2
attribute [local go_sem] rowOf_alloc soft_alloc rowOf_drew soft_drew rowOf_setRow soft_setRow frozen_of_soft Ext.row Ext.soft_ hd_size hd_0g hd_1g hd_2g hd_n seed_lit conv_seed is_h is_l
theorem known_ret {w : World} (hf : Forms w) (ht : Tabs w) : Calls Tryz.prog 8 #[] w (Ret (.bool true) w) := ret_of (known_any hf ht)
set_option maxHeartbeats 4000000 in
theorem hears_big {w : World} (hf : Forms w) (ht : Tabs w) {q : Hd} (hk : ((q.k : Int) > 1024) = True) : Calls Tryz.prog 3 #[.agg q.cells] w fun e w' => e = .returned (.bool true) ∧ Below w.heap.size w w' := by
  have HF := Lib.hid hf
  have HT := Lib.hid ht
  clear hf ht
  go_enter Tryz.func3, Tryz.ntmps3
  go_upto_region 1 with (fail)
  have bx := Bx.new w (q.cells) 25; generalize w.alloc (.cells (q.cells) 25) = W at bx ⊢; have rx := bx.rowOf; have sx := bx.soft; have BX := Lib.hid bx; clear bx
  have hlt : w.heap.size < W.heap.size := (Array.getElem?_eq_some_iff.1 BX.out.row).1
  have hne : ¬ w.heap.size = W.heap.size := Nat.ne_of_lt hlt
  go_region
  have nx : Bx W q.n.cells 23 ((W.alloc (.cells #[.int .i64 0, .int .i64 0, .int .i64 0] 23)).drew.setRow W.heap.size q.n.cells) := ⟨setRow_heap (W.alloc (.cells #[.int .i64 0, .int .i64 0, .int .i64 0] 23)).drew W.heap.size _ q.n.cells 23 _ (heap_alloc_new W _), Below.setRow_ (below1 W _).drew (Nat.le_refl _) _⟩
  generalize (W.alloc (.cells #[.int .i64 0, .int .i64 0, .int .i64 0] 23)).drew.setRow W.heap.size q.n.cells = V0 at nx ⊢
  have B0 := Lib.hid (BX.out.below.trans (nx.below.mono BX.out.below.size))
  have NX := Lib.hid nx
  have HFV := Lib.hid (HF.out.keep (Nat.le_refl _) B0.out)
  have HTV := Lib.hid (HT.out.keep (Nat.le_refl _) B0.out)
  clear nx rx sx BX hlt hne HF HT
  go_wp2_with fail
  refine (Terms_any V0).mono ?_
  rintro _ W1 ⟨rfl, hb⟩
  have HB := Lib.hid hb
  clear hb
  go_wp2_with fail
  refine (Sx.new_w (seedW W1)).mono ?_
  rintro _ X ⟨bb, oo, F, rfl, hd, hbX, hF⟩
  have O := Lib.hid (open_seed HB.out hd hbX hF)
  clear hd hbX hF
  go_wp2_with fail
  refine O.out.mono ?_
  rintro _ Y ⟨D, rfl, l1, t1, s1, m1⟩
  have L1 := Lib.hid l1
  have M1 := Lib.hid m1
  have T1 := Lib.hid t1
  have S1 := Lib.hid s1
  clear l1 m1 t1 s1 O HB
  have K := Lib.hid (known_any (HFV.out.keep (Nat.le_refl _) M1.out.low) (HTV.out.keep (Nat.le_refl _) M1.out.low))
  go_wp2_with fail
  refine K.out.mono ?_
  rintro _ Z ⟨rfl, hb⟩
  have FB := Lib.hid (B0.out.trans ((M1.out.low.trans (hb.mono M1.out.low.size)).mono B0.out.size))
  clear hb K
  go_wp2
  go_ret
  exact ⟨rfl, FB.out⟩
set_option maxHeartbeats 4000000 in
theorem hears_no {w : World} (hf : Forms w) (ht : Tabs w) {q : Hd} (hk : ((q.k : Int) > 1024) = False) {l : List Nat} (hs : Sl w q.ao q.k q.c (bts l)) (hr : Rs (l, 0)) {i c : Int} (he : idE i (refE c) = 0) (HC : (mgetM l).1 = 0)
    (hh : ∀ W D, Lies W D (· = []) [] → Base W D → D.t = T26 → Sl W q.ao q.k q.c (bts l) → Calls Tryz.prog 10 #[.pointer (some ⟨D.xb, 0, none⟩), .int .i64 q.peer, .slice q.ao q.k q.c, .agg q.n.cells, .int .i64 q.free] W (RetB (putC i c) W)) : Calls Tryz.prog 3 #[.agg q.cells] w fun e w' => e = .returned (.bool true) ∧ Below w.heap.size w w' := by
  have HC' := Lib.hid HC
  clear HC
  have HSL := Lib.hid hs
  have HR := Lib.hid hr
  have HE := Lib.hid he
  clear hs hr he
  have HF := Lib.hid hf
  have HT := Lib.hid ht
  clear hf ht
  go_enter Tryz.func3, Tryz.ntmps3
  go_upto_region 1 with (fail)
  have bx := Bx.new w (q.cells) 25; generalize w.alloc (.cells (q.cells) 25) = W at bx ⊢; have rx := bx.rowOf; have sx := bx.soft; have BX := Lib.hid bx; clear bx
  have hlt : w.heap.size < W.heap.size := (Array.getElem?_eq_some_iff.1 BX.out.row).1
  have hne : ¬ w.heap.size = W.heap.size := Nat.ne_of_lt hlt
  go_region
  have nx : Bx W q.n.cells 23 ((W.alloc (.cells #[.int .i64 0, .int .i64 0, .int .i64 0] 23)).drew.setRow W.heap.size q.n.cells) := ⟨setRow_heap (W.alloc (.cells #[.int .i64 0, .int .i64 0, .int .i64 0] 23)).drew W.heap.size _ q.n.cells 23 _ (heap_alloc_new W _), Below.setRow_ (below1 W _).drew (Nat.le_refl _) _⟩
  generalize (W.alloc (.cells #[.int .i64 0, .int .i64 0, .int .i64 0] 23)).drew.setRow W.heap.size q.n.cells = V0 at nx ⊢
  have B0 := Lib.hid (BX.out.below.trans (nx.below.mono BX.out.below.size))
  have NX := Lib.hid nx
  have HFV := Lib.hid (HF.out.keep (Nat.le_refl _) B0.out)
  have HTV := Lib.hid (HT.out.keep (Nat.le_refl _) B0.out)
  clear nx rx sx BX hlt hne HF HT
  go_wp2_with fail
  refine (Terms_any V0).mono ?_
  rintro _ W1 ⟨rfl, hb⟩
  have HB := Lib.hid hb
  clear hb
  go_wp2_with fail
  refine (Sx.new_w (seedW W1)).mono ?_
  rintro _ X ⟨bb, oo, F, rfl, hd, hbX, hF⟩
  have O := Lib.hid (open_seed HB.out hd hbX hF)
  clear hd hbX hF
  go_wp2_with fail
  refine O.out.mono ?_
  rintro _ Y ⟨D, rfl, l1, t1, s1, m1⟩
  have L1 := Lib.hid l1
  have M1 := Lib.hid m1
  have T1 := Lib.hid t1
  have S1 := Lib.hid s1
  clear l1 m1 t1 s1 O HB
  have rn := rowOf_of ((M1.out.low.block _ (Array.getElem?_eq_some_iff.1 NX.out.row).1).trans NX.out.row)
  have BY := Lib.hid (B0.out.trans (M1.out.low.mono B0.out.size))
  have HH := Lib.hid (hh Y D L1.out (M1.out.base HFV.out HTV.out) T1.out (HSL.out.keep (Nat.le_refl _) BY.out))
  clear hh
  go_upto_region 5 with (fail)
  go_wp2_with fail
  refine HH.out.mono ?_
  rintro _ Z ⟨a2, c2, rfl, hb, s2⟩
  have BZ := Lib.hid (BY.out.trans (hb.mono BY.out.size))
  have LZ := Lib.hid (L1.out.low hb)
  have FZ := Lib.hid ((HFV.out.keep (Nat.le_refl _) M1.out.low).keep (Nat.le_refl _) hb)
  have TZ := Lib.hid ((HTV.out.keep (Nat.le_refl _) M1.out.low).keep (Nat.le_refl _) hb)
  have G := MGet_any FZ.out s2 ⟨small_putC i c, by have := putC_len i c; show (putC i c).length < 1000000; omega⟩
  rw [mget_code HE.out] at G
  have G := Lib.hid G
  clear hb s2 HH rn BY
  go_wp2_with fail
  refine G.out.mono ?_
  rintro _ Z2 ⟨rfl, hb⟩
  have HB := Lib.hid hb
  clear hb G
  go_upto_region 6 with (fail)
  have bx := Bx.made Z2 Msg.zero.cells (msgR i c).cells 41
  generalize (Z2.alloc (.cells Msg.zero.cells 41)).setRow Z2.heap.size (msgR i c).cells = Z3 at bx ⊢
  have B3 := HB.out.trans (bx.below.mono HB.out.size)
  have rm := bx.rowOf
  have BX := Lib.hid bx
  have LW := Lib.hid (LZ.out.low B3)
  have BW := Lib.hid (BZ.out.trans (B3.mono BZ.out.size))
  have G2 := MGet_any (FZ.out.keep (Nat.le_refl _) B3) (HSL.out.keep (Nat.le_refl _) BW.out) HR.out
  rw [show mgetM l = (0, (mgetM l).2) from Prod.ext HC'.out rfl] at G2
  have G2 := Lib.hid G2
  have FW := Lib.hid (FZ.out.keep (Nat.le_refl _) B3)
  have TW := Lib.hid (TZ.out.keep (Nat.le_refl _) B3)
  generalize (mgetM l).2 = m2 at G2
  clear B3 bx HB LZ FZ TZ BZ
  go_wp2_with fail
  refine G2.out.mono ?_
  rintro _ Z4 ⟨rfl, hb⟩
  have HB := Lib.hid hb
  clear hb G2 rm
  go_upto_region 10 with (fail)
  have bx := Bx.made Z4 Msg.zero.cells m2.cells 41
  generalize (Z4.alloc (.cells Msg.zero.cells 41)).setRow Z4.heap.size m2.cells = Z5 at bx ⊢
  have B5 := HB.out.trans (bx.below.mono HB.out.size)
  have rm := (BX.out.step B5).rowOf
  have l5 := LW.out.low B5
  have bo := l5.dae.bok
  rw [l5.book] at bo
  have I := Lib.hid (Ids_nil bo)
  have BK := Lib.hid (Book_any l5.dae)
  have B5' := Lib.hid B5
  clear bx B5 HB l5 bo
  go_wp2_with fail
  refine BK.out.mono ?_
  rintro _ _ ⟨rfl, rfl⟩
  go_wp2_with fail
  refine I.out.mono ?_
  rintro _ Z6 ⟨rfl, hb⟩
  have b6 := B5'.out.trans (hb.mono B5'.out.size)
  have rm := (BX.out.step b6).rowOf
  have K := Lib.hid (known_any (FW.out.keep (Nat.le_refl _) b6) (TW.out.keep (Nat.le_refl _) b6))
  have B6 := Lib.hid (BW.out.trans (b6.mono BW.out.size))
  clear hb b6 I BK B5'
  go_wp2_with fail
  refine K.out.mono ?_
  rintro _ Z7 ⟨rfl, hb⟩
  have FB := Lib.hid (B6.out.trans (hb.mono B6.out.size))
  clear hb K rm
  go_wp2
  go_ret
  exact ⟨rfl, FB.out⟩
set_option maxHeartbeats 4000000 in
theorem hears_bad {w : World} (hf : Forms w) (ht : Tabs w) {q : Hd} (hk : ((q.k : Int) > 1024) = False) {l : List Nat} (hs : Sl w q.ao q.k q.c (bts l)) (hr : Rs (l, 0)) {i c : Int} (he : idE i (refE c) = 0) (HC : (mgetM l).1 = c)
    (hh : ∀ W D, Lies W D (· = []) [] → Base W D → D.t = T26 → Sl W q.ao q.k q.c (bts l) → Calls Tryz.prog 10 #[.pointer (some ⟨D.xb, 0, none⟩), .int .i64 q.peer, .slice q.ao q.k q.c, .agg q.n.cells, .int .i64 q.free] W (RetB (putC i c) W)) : Calls Tryz.prog 3 #[.agg q.cells] w fun e w' => e = .returned (.bool true) ∧ Below w.heap.size w w' := by
  have c0 : (c == 0) = false := by
    obtain ⟨_, hc⟩ := idE_in he
    rw [beq_eq_false_iff_ne]
    unfold refE at hc
    split at hc <;> omega
  have HC' := Lib.hid HC
  clear HC
  have HSL := Lib.hid hs
  have HR := Lib.hid hr
  have HE := Lib.hid he
  clear hs hr he
  have HF := Lib.hid hf
  have HT := Lib.hid ht
  clear hf ht
  go_enter Tryz.func3, Tryz.ntmps3
  go_upto_region 1 with (fail)
  have bx := Bx.new w (q.cells) 25; generalize w.alloc (.cells (q.cells) 25) = W at bx ⊢; have rx := bx.rowOf; have sx := bx.soft; have BX := Lib.hid bx; clear bx
  have hlt : w.heap.size < W.heap.size := (Array.getElem?_eq_some_iff.1 BX.out.row).1
  have hne : ¬ w.heap.size = W.heap.size := Nat.ne_of_lt hlt
  go_region
  have nx : Bx W q.n.cells 23 ((W.alloc (.cells #[.int .i64 0, .int .i64 0, .int .i64 0] 23)).drew.setRow W.heap.size q.n.cells) := ⟨setRow_heap (W.alloc (.cells #[.int .i64 0, .int .i64 0, .int .i64 0] 23)).drew W.heap.size _ q.n.cells 23 _ (heap_alloc_new W _), Below.setRow_ (below1 W _).drew (Nat.le_refl _) _⟩
  generalize (W.alloc (.cells #[.int .i64 0, .int .i64 0, .int .i64 0] 23)).drew.setRow W.heap.size q.n.cells = V0 at nx ⊢
  have B0 := Lib.hid (BX.out.below.trans (nx.below.mono BX.out.below.size))
  have NX := Lib.hid nx
  have HFV := Lib.hid (HF.out.keep (Nat.le_refl _) B0.out)
  have HTV := Lib.hid (HT.out.keep (Nat.le_refl _) B0.out)
  clear nx rx sx BX hlt hne HF HT
  go_wp2_with fail
  refine (Terms_any V0).mono ?_
  rintro _ W1 ⟨rfl, hb⟩
  have HB := Lib.hid hb
  clear hb
  go_wp2_with fail
  refine (Sx.new_w (seedW W1)).mono ?_
  rintro _ X ⟨bb, oo, F, rfl, hd, hbX, hF⟩
  have O := Lib.hid (open_seed HB.out hd hbX hF)
  clear hd hbX hF
  go_wp2_with fail
  refine O.out.mono ?_
  rintro _ Y ⟨D, rfl, l1, t1, s1, m1⟩
  have L1 := Lib.hid l1
  have M1 := Lib.hid m1
  have T1 := Lib.hid t1
  have S1 := Lib.hid s1
  clear l1 m1 t1 s1 O HB
  have rn := rowOf_of ((M1.out.low.block _ (Array.getElem?_eq_some_iff.1 NX.out.row).1).trans NX.out.row)
  have BY := Lib.hid (B0.out.trans (M1.out.low.mono B0.out.size))
  have HH := Lib.hid (hh Y D L1.out (M1.out.base HFV.out HTV.out) T1.out (HSL.out.keep (Nat.le_refl _) BY.out))
  clear hh
  go_upto_region 5 with (fail)
  go_wp2_with fail
  refine HH.out.mono ?_
  rintro _ Z ⟨a2, c2, rfl, hb, s2⟩
  have BZ := Lib.hid (BY.out.trans (hb.mono BY.out.size))
  have LZ := Lib.hid (L1.out.low hb)
  have FZ := Lib.hid ((HFV.out.keep (Nat.le_refl _) M1.out.low).keep (Nat.le_refl _) hb)
  have TZ := Lib.hid ((HTV.out.keep (Nat.le_refl _) M1.out.low).keep (Nat.le_refl _) hb)
  have G := MGet_any FZ.out s2 ⟨small_putC i c, by have := putC_len i c; show (putC i c).length < 1000000; omega⟩
  rw [mget_code HE.out] at G
  have G := Lib.hid G
  clear hb s2 HH rn BY
  go_wp2_with fail
  refine G.out.mono ?_
  rintro _ Z2 ⟨rfl, hb⟩
  have HB := Lib.hid hb
  clear hb G
  go_upto_region 6 with (fail)
  have bx := Bx.made Z2 Msg.zero.cells (msgR i c).cells 41
  generalize (Z2.alloc (.cells Msg.zero.cells 41)).setRow Z2.heap.size (msgR i c).cells = Z3 at bx ⊢
  have B3 := HB.out.trans (bx.below.mono HB.out.size)
  have rm := bx.rowOf
  have BX := Lib.hid bx
  have LW := Lib.hid (LZ.out.low B3)
  have BW := Lib.hid (BZ.out.trans (B3.mono BZ.out.size))
  have G2 := MGet_any (FZ.out.keep (Nat.le_refl _) B3) (HSL.out.keep (Nat.le_refl _) BW.out) HR.out
  rw [show mgetM l = (c, (mgetM l).2) from Prod.ext HC'.out rfl] at G2
  have G2 := Lib.hid G2
  have FW := Lib.hid (FZ.out.keep (Nat.le_refl _) B3)
  have TW := Lib.hid (TZ.out.keep (Nat.le_refl _) B3)
  generalize (mgetM l).2 = m2 at G2
  clear B3 bx HB LZ FZ TZ BZ
  go_wp2_with fail
  refine G2.out.mono ?_
  rintro _ Z4 ⟨rfl, hb⟩
  have HB := Lib.hid hb
  clear hb G2 rm
  go_upto_region 10 with (fail)
  have bx := Bx.made Z4 Msg.zero.cells m2.cells 41
  generalize (Z4.alloc (.cells Msg.zero.cells 41)).setRow Z4.heap.size m2.cells = Z5 at bx ⊢
  have B5 := HB.out.trans (bx.below.mono HB.out.size)
  have rm := (BX.out.step B5).rowOf
  have l5 := LW.out.low B5
  have bo := l5.dae.bok
  rw [l5.book] at bo
  have I := Lib.hid (Ids_nil bo)
  have BK := Lib.hid (Book_any l5.dae)
  have B5' := Lib.hid B5
  clear bx B5 HB l5 bo
  go_wp2_with fail
  refine BK.out.mono ?_
  rintro _ _ ⟨rfl, rfl⟩
  go_wp2_with fail
  refine I.out.mono ?_
  rintro _ Z6 ⟨rfl, hb⟩
  have b6 := B5'.out.trans (hb.mono B5'.out.size)
  have rm := (BX.out.step b6).rowOf
  have K := Lib.hid (known_any (FW.out.keep (Nat.le_refl _) b6) (TW.out.keep (Nat.le_refl _) b6))
  have B6 := Lib.hid (BW.out.trans (b6.mono BW.out.size))
  clear hb b6 I BK B5'
  go_wp2_with fail
  refine K.out.mono ?_
  rintro _ Z7 ⟨rfl, hb⟩
  have FB := Lib.hid (B6.out.trans (hb.mono B6.out.size))
  clear hb K rm
  go_wp2
  go_ret
  exact ⟨rfl, FB.out⟩
end Go.Proofs.YtohpcfhgbgfblaaGreatDoor
