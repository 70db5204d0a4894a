/- What is proved: parts of the walk and of the plain law, 1 texts in one. No condition but those each law names. -/
import Derived.Test.YtohpcfhgbgfblaaGreatDoorS48
namespace Go.Proofs.YtohpcfhgbgfblaaGreatDoor
open Go.RowKit
open Sx (Ab DW Turns Did Foot)
set_option maxRecDepth 100000
theorem blg2 (w : World) (a b : Int) : (Instr.build 37 #[(0, .int .i64 a), (1, .int .i64 b)]).run Tryz.prog w = .ok (.agg (Lg.cells ⟨a, b, 0⟩)) w := by kernel_rfl
theorem blg3 (w : World) (a b c : Int) : (Instr.build 37 #[(0, .int .i64 a), (1, .int .i64 b), (2, .int .i64 c)]).run Tryz.prog w = .ok (.agg (Lg.cells ⟨a, b, c⟩)) w := by kernel_rfl
section
variable (w : World) (A : Act) (dst : Option Tmp) (ty : TypeId) (pos : String) (af : Array Edge) (gd : Option (Nat × Bool))
theorem xlg2 (a b : Int) : (execOp A.eval ⟨dst, .build 37 #[(0, .const (.int .i64 a)), (1, .const (.int .i64 b))], ty, pos, af, gd⟩).run Tryz.prog w = .ok (.value (.agg (Lg.cells ⟨a, b, 0⟩))) w := by
  have h : (Instr.build 37 #[(0, A.eval (.const (.int .i64 a))), (1, A.eval (.const (.int .i64 b)))]).run Tryz.prog w = _ := blg2 w a b
  unfold execOp
  simp only [Sem.run_bind, Sem.run_pure, List.map_toArray, List.map_cons, List.map_nil, h, Result.andThen_ok]
theorem xlg3 (a b c : Int) : (execOp A.eval ⟨dst, .build 37 #[(0, .const (.int .i64 a)), (1, .const (.int .i64 b)), (2, .const (.int .i64 c))], ty, pos, af, gd⟩).run Tryz.prog w = .ok (.value (.agg (Lg.cells ⟨a, b, c⟩))) w := by
  have h : (Instr.build 37 #[(0, A.eval (.const (.int .i64 a))), (1, A.eval (.const (.int .i64 b))), (2, A.eval (.const (.int .i64 c)))]).run Tryz.prog w = _ := blg3 w a b c
  unfold execOp
  simp only [Sem.run_bind, Sem.run_pure, List.map_toArray, List.map_cons, List.map_nil, h, Result.andThen_ok]
theorem xms5 (i j : Int) (x y z : Operand) (hx : A.eval x = .agg (lOf (A.eval x)).cells) (hy : A.eval y = .agg (lOf (A.eval y)).cells) (hz : A.eval z = .agg (hOf (A.eval z)).cells) :
    (execOp A.eval ⟨dst, .build 41 #[(0, .const (.int .i64 i)), (1, .const (.int .i64 j)), (3, x), (4, y), (5, z)], ty, pos, af, gd⟩).run Tryz.prog w = .ok (.value (.agg (Msg.cells ⟨i, j, 0, lOf (A.eval x), lOf (A.eval y), hOf (A.eval z)⟩))) w := by
  have h : (Instr.build 41 #[(0, A.eval (.const (.int .i64 i))), (1, A.eval (.const (.int .i64 j))), (3, .agg (lOf (A.eval x)).cells), (4, .agg (lOf (A.eval y)).cells), (5, .agg (hOf (A.eval z)).cells)]).run Tryz.prog w = _ := bm5 w i j _ _ _
  rw [← hx, ← hy, ← hz] at h
  unfold execOp
  simp only [Sem.run_bind, Sem.run_pure, List.map_toArray, List.map_cons, List.map_nil, h, Result.andThen_ok]
end
attribute [local go_sem ↓] rowOf_cell ebt0 load72 xlg2 xlg3 xms5 xbh7 xbh9 xbm4 xfc0 xfc2 xfc4 xrd0 xrd1 xm5 ebt2
attribute [local go_sem] rowOf_alloc soft_alloc rowOf_drew soft_drew rowOf_setRow soft_setRow rowOf_setCell soft_setCell frozen_of_soft Ext.row Ext.soft_ seed_lit conv_seed m5_size mO_mk clO_mk tvO_mk tvK_lk
theorem make65 (w : World) : (Instr.makeSlice 22 (.int .i64 65) (.int .i64 65)).run Tryz.prog w = .ok (.slice (some ⟨w.heap.size, 0, none⟩) 65 65) (w.alloc (.cells (Array.replicate 65 (.int .u8 0)) 5)) := by kernel_rfl
/-- The letters of the regions that open daemons anew. -/
def K29 (i : Nat) : Bool := i == 1 || i == 2
def mk29 (i : Nat) (x : Option Addr) : Value := match i with
  | 1 => .slice x 65 65
  | _ => .pointer x
def ob29 (_ : Nat) (_ : Option Addr) (_ : World) : Prop := True
theorem hp29 : ∀ i x (w1 : World) (g : Ext w1), ob29 i x w1 → ob29 i x g.val := fun _ _ _ _ _ => trivial
theorem mk29_1 (x : Option Addr) : mk29 1 x = .slice x 65 65 := rfl
theorem mk29_2 (x : Option Addr) : mk29 2 x = .pointer x := rfl
def K32 (i : Nat) : Bool := i == 1
def mk32 (_ : Nat) (x : Option Addr) : Value := .pointer x
theorem sw26_kn : sw26.kn = false := rfl
theorem sw26_st : sw26.st = 1 := rfl
attribute [local go_sem] msgR_k msgR_c sw26_kn sw26_st
set_option maxHeartbeats 8000000 in
theorem known26_any {w : World} (hf : Forms w) (ht : Tabs w) : Calls Tryz.prog 4 #[] w fun e w' => e = .returned (.bool true) ∧ Below w.heap.size w w' := by
  have HF := Lib.hid hf
  have HT := Lib.hid ht
  clear hf ht
  go_enter Tryz.func4, Tryz.ntmps4
  go_wp2_with fail
  refine (Terms_any _).mono ?_
  rintro _ W ⟨rfl, hb⟩
  have HB := Lib.hid hb
  clear hb
  go_wp2_with fail
  refine (Sx.new_w (seedW W)).mono ?_
  rintro _ X ⟨b, o, F, rfl, hd, hbX, hF⟩
  have O := Lib.hid (open_seed HB.out hd hbX hF)
  clear hd hbX hF
  go_wp2_with fail
  refine O.out.mono ?_
  rintro _ Y ⟨D, rfl, l1, t1, s1, m1⟩
  have K0 : KS w Y D 0 [] := ⟨m1, ⟨t1, s1, .inl ⟨by decide, l1⟩⟩, ⟨fun x hx => (by cases hx), fun x hx => (by cases hx)⟩⟩
  have KK := Lib.hid K0
  clear l1 t1 s1 m1 O HB K0
  go_upto_region 5 with (fail)
  rw [show (#[Value.int .i64 100, Value.int .i64 200, Value.int .i64 0] : Array Value) = now26.cells from rfl]
  have bx := Bx.new Y now26.cells 23
  have k1 := KK.out.box bx
  generalize Y.alloc (.cells now26.cells 23) = Y1 at bx k1 ⊢
  generalize Y.heap.size = n3 at k1 ⊢
  have rn := k1.row 0 rfl
  have KK1 := Lib.hid k1
  clear KK bx k1
  go_wp2_with fail
  refine (propA KK1.out HF.out HT.out).mono ?_
  rintro _ Z ⟨rfl, hb⟩
  have k2 := KK1.out.low hb
  have KK := Lib.hid k2
  clear KK1 rn hb k2
  go_upto_region 6 with (fail)
  have bx := Bx.made Z Msg.zero.cells Msg.zero.cells 41
  generalize (Z.alloc (.cells Msg.zero.cells 41)).setRow Z.heap.size Msg.zero.cells = Z1 at bx ⊢
  have k1 := KK.out.low bx.below
  have rn := k1.row 0 rfl
  have KK1 := Lib.hid k1
  clear KK bx k1
  go_wp2_with fail
  refine (propB KK1.out HF.out HT.out).mono ?_
  rintro _ Z ⟨rfl, hb⟩
  have k2 := KK1.out.low hb
  have KK := Lib.hid k2
  clear KK1 rn hb k2
  go_upto_region 7 with (fail)
  have bx := Bx.made Z Msg.zero.cells Msg.zero.cells 41
  generalize (Z.alloc (.cells Msg.zero.cells 41)).setRow Z.heap.size Msg.zero.cells = Z1 at bx ⊢
  have k1 := KK.out.low bx.below
  have rn := k1.row 0 rfl
  have KK1 := Lib.hid k1
  clear KK bx k1
  go_wp2_with fail
  refine (propC KK1.out HF.out HT.out).mono ?_
  rintro _ Z ⟨rfl, hb⟩
  have k2 := KK1.out.low hb
  have KK := Lib.hid k2
  clear KK1 rn hb k2
  go_upto_region 8 with (fail)
  have bx := Bx.made Z Msg.zero.cells Msg.zero.cells 41
  generalize (Z.alloc (.cells Msg.zero.cells 41)).setRow Z.heap.size Msg.zero.cells = Z1 at bx ⊢
  have k1 := KK.out.low bx.below
  have KK1 := Lib.hid k1
  clear KK bx k1
  go_upto_region 9 with (fail)
  rw [show Msg.cells ⟨1, 5, 0, ⟨1, 216, 270⟩, ⟨0, 200, 130⟩, sevenH⟩ = says26.cells from rfl]
  have bx := Bx.made Z1 Msg.zero.cells says26.cells 41
  generalize (Z1.alloc (.cells Msg.zero.cells 41)).setRow Z1.heap.size says26.cells = Z2 at bx ⊢
  have k1 := KK1.out.box bx
  generalize Z1.heap.size = n10 at k1 ⊢
  have r10 := k1.row 0 rfl
  have KK := Lib.hid k1
  clear KK1 bx k1
  go_upto_region 10 with (fail)
  have bx := Bx.made Z2 Msg.zero.cells says26.cells 41
  generalize (Z2.alloc (.cells Msg.zero.cells 41)).setRow Z2.heap.size says26.cells = V at bx ⊢
  have rx := bx.rowOf
  have sx := bx.soft
  have BX := Lib.hid bx
  clear bx r10
  go_upto_region 11 with (fail)
  have bx := BX.out.set1 4 (.int .i64 215)
  rw [show says26.cells.setIfInBounds 4 (.int .i64 215) = poor26.cells from rfl] at bx
  generalize V.setCell ⟨Z2.heap.size, 4, none⟩ (.int .i64 215) = V2 at bx ⊢
  have k1 := KK.out.box bx
  generalize Z2.heap.size = n11 at k1 ⊢
  have r10 := k1.row 1 rfl
  have KK1 := Lib.hid k1
  clear KK bx k1 rx sx BX
  go_upto_region 12 with (fail)
  have bx := Bx.made V2 Msg.zero.cells says26.cells 41
  generalize (V2.alloc (.cells Msg.zero.cells 41)).setRow V2.heap.size says26.cells = V3 at bx ⊢
  have rx := bx.rowOf
  have sx := bx.soft
  have BX := Lib.hid bx
  clear bx r10
  go_upto_region 13 with (fail)
  have bx := BX.out.set1 5 (.int .i64 269)
  rw [show says26.cells.setIfInBounds 5 (.int .i64 269) = late26.cells from rfl] at bx
  generalize V3.setCell ⟨V2.heap.size, 5, none⟩ (.int .i64 269) = V4 at bx ⊢
  have k1 := KK1.out.box bx
  generalize V2.heap.size = n12 at k1 ⊢
  have r12 := k1.row 0 rfl
  have r11 := k1.row 1 rfl
  have r10 := k1.row 2 rfl
  have KK := Lib.hid k1
  clear KK1 bx k1 rx sx BX
  go_upto_region 14 with (fail)
  rw [show (⟨2, 5, 0, says26.p, says26.g, Hs.zero⟩ : Msg) = acc26 from rfl]
  have k1 := KK.out.box (Bx.new V4 (m5 poor26 late26 acc26 says26 says26) 41)
  generalize V4.alloc (.cells (m5 poor26 late26 acc26 says26 says26) 41) = V5 at k1 ⊢
  generalize V4.heap.size = n13 at k1 ⊢
  have KK1 := Lib.hid k1
  clear KK k1 r12 r11 r10
  go_upto_region 15 with (fail)
  have k1 := KK1.out.box (Bx.new V5 #[.int .i64 22, .int .i64 23, .int .i64 2, .int .i64 0, .int .i64 13] 3)
  generalize V5.alloc (.cells #[.int .i64 22, .int .i64 23, .int .i64 2, .int .i64 0, .int .i64 13] 3) = V6 at k1 ⊢
  generalize V5.heap.size = n14 at k1 ⊢
  have KK := Lib.hid k1
  clear KK1 k1
  go_wp2_with fail
  go_loopw [15] (fun i wr => ∃ (j : Nat) (D' : Dm), j ≤ 5 ∧ i = .int .i64 j ∧ D'.xb = D.xb ∧ KS w wr D' j [(n14, #[.int .i64 22, .int .i64 23, .int .i64 2, .int .i64 0, .int .i64 13], 3), (n13, m5 poor26 late26 acc26 says26 says26, 41), (n12, late26.cells, 41), (n11, poor26.cells, 41), (n10, says26.cells, 41), (n3, now26.cells, 23)]) (fun i _ => 5 - (intOf i).toNat)
  case atStart => exact ⟨0, D, by decide, rfl, rfl, KK.out⟩
  case round =>
    obtain ⟨j, D1, hj, rfl, hx, kj⟩ := hrel
    clear KK
    have KJ := Lib.hid kj
    have HX := Lib.hid hx
    clear kj hx
    by_cases hlt : j < 5
    · have i1 : (j : Int) < 5 := by omega
      have r13 := KJ.out.row 1 rfl
      have i3 : sub (m5 poor26 late26 acc26 says26 says26) (j * 41) 41 = (let26 j).cells := by rw [m5_at _ _ _ _ _ j hlt, five26 j hlt]
      have i2 : j * 41 + 41 ≤ 205 := by omega
      have P := Lib.hid (MPut_legs (KJ.out.base HF.out HT.out).forms (let_ok j).1 (let_ok j).2.1 (let_ok j).2.2.1 (let_ok j).2.2.2.1 (let_ok j).2.2.2.2)
      go_wp2_with fail
      refine P.out.mono ?_
      rintro _ V7 ⟨ai, ci, rfl, hb, ho⟩
      have k7 := KJ.out.low hb
      have HS := Lib.hid (Sl.own ho)
      clear KJ r13 i3 i2 P hb ho
      have r3 := k7.row 5 rfl
      have HE := hears5 hlt k7.st (k7.base HF.out HT.out) HS.out
      rw [HX.out] at HE
      have HE := Lib.hid HE
      have KJ := Lib.hid k7
      clear k7
      go_wp2_with fail
      refine HE.out.mono ?_
      rintro _ V8 ⟨aa, ca, La, ma, rfl, sa, ra, ga, wa, ia, D2, s2, t2⟩
      have k8 := KJ.out.trans t2 s2
      have HX2 := Lib.hid (t2.xb.trans HX.out)
      have G := MGet_any (k8.base HF.out HT.out).forms sa ra
      rw [ga] at G
      have G := Lib.hid G
      have KJ2 := Lib.hid k8
      clear KJ HE r3 HX HS k8 t2 s2 sa ra ga
      go_wp2_with fail
      refine G.out.mono ?_
      rintro _ V9 ⟨rfl, hb⟩
      have k9 := KJ2.out.low hb
      have KJ := Lib.hid k9
      clear KJ2 G hb k9
      go_upto_region 20 with (fail)
      have bx := Bx.made V9 Msg.zero.cells ma.cells 41
      generalize (V9.alloc (.cells Msg.zero.cells 41)).setRow V9.heap.size ma.cells = V10 at bx ⊢
      have k10 := KJ.out.low bx.below
      have rm := bx.rowOf
      have r14 := k10.row 0 rfl
      have w14 : (#[Value.int .i64 22, Value.int .i64 23, Value.int .i64 2, Value.int .i64 0, Value.int .i64 13] : Array Value)[j]? = some (.int .i64 (want26 j)) := by
        match j, hlt with
        | 0, _ => rfl
        | 1, _ => rfl
        | 2, _ => rfl
        | 3, _ => rfl
        | 4, _ => rfl
      have KK := Lib.hid k10
      clear KJ bx k10
      generalize want26 j = wj at wa w14
      generalize (#[Value.int .i64 22, Value.int .i64 23, Value.int .i64 2, Value.int .i64 0, Value.int .i64 13] : Array Value) = C14 at w14 r14 ⊢
      go_region
      have k11 := KK.out.low (Below.refl _ V10).drew
      generalize V10.drew = V11 at k11 ⊢
      have KJ := Lib.hid k11
      clear KK rm r14 w14 wa ia k11
      go_wp2_with fail
      refine ⟨⟨j + 1, D2, by omega, rfl, HX2.out, KJ.out⟩, ?_⟩
      show 5 - ((j : Int) + 1).toNat < 5 - (j : Int).toNat
      omega
    · obtain rfl : j = 5 := by omega
      have hx := HX.out
      rw [← hx]
      clear hx HX
      go_upto_region 22 with (fail)
      have r3 := KJ.out.row 5 rfl
      have ne3 : ¬ n3 = wr.heap.size := Nat.ne_of_lt (KJ.out.lt 5 rfl)
      have k22 := KJ.out.low (below1 wr (.cells #[.int .u8 1] 5))
      have HBD := Lib.hid (hearBad k22 HF.out HT.out (one_new wr))
      have KK := Lib.hid k22
      clear KJ k22
      go_wp2_with fail
      generalize wr.alloc (.cells #[.int .u8 1] 5) = V0 at *
      refine HBD.out.mono ?_
      rintro _ V1 ⟨a1, c1, rfl, hb, sl⟩
      have k1 := KK.out.low hb
      have G := Lib.hid (getCode (k1.base HF.out HT.out).forms (i := 1) (x := 4) ⟨by decide, by decide⟩ ⟨by decide, by decide⟩ sl)
      have KJ := Lib.hid k1
      clear KK HBD r3 ne3 hb sl k1
      go_wp2_with fail
      refine G.out.mono ?_
      rintro _ V2 ⟨rfl, hb⟩
      have k1 := KJ.out.low hb
      have KK := Lib.hid k1
      clear KJ G hb k1
      go_upto_region 23 with (fail)
      have k1 := KK.out.box (Bx.made V2 Msg.zero.cells (msgR 1 4).cells 41)
      generalize (V2.alloc (.cells Msg.zero.cells 41)).setRow V2.heap.size (msgR 1 4).cells = V3 at k1 ⊢
      generalize V2.heap.size = n20 at k1 ⊢
      have r10 := k1.row 5 rfl
      have P := Lib.hid (MPut_legs (k1.base HF.out HT.out).forms says_ok.1 says_ok.2.1 says_ok.2.2.1 says_ok.2.2.2.1 says_ok.2.2.2.2)
      have KJ := Lib.hid k1
      clear KK k1
      go_wp2_with fail
      refine P.out.mono ?_
      rintro _ V4 ⟨ai, ci, rfl, hb, ho⟩
      have k1 := KJ.out.low hb
      have r3 := k1.row 6 rfl
      have HL := Lib.hid (hearLess k1 HF.out HT.out (Sl.own ho))
      have KK := Lib.hid k1
      clear KJ P r10 hb ho k1
      go_wp2_with fail
      refine HL.out.mono ?_
      rintro _ V5 ⟨a2, c2, rfl, hb, sl⟩
      have k1 := KK.out.low hb
      have G := Lib.hid (getCode (k1.base HF.out HT.out).forms (i := 5) (x := 22) ⟨by decide, by decide⟩ ⟨by decide, by decide⟩ sl)
      have KJ := Lib.hid k1
      clear KK HL r3 hb sl k1
      go_wp2_with fail
      refine G.out.mono ?_
      rintro _ V6 ⟨rfl, hb⟩
      have k1 := KJ.out.low hb
      have KK := Lib.hid k1
      clear KJ G hb k1
      go_upto_region 25 with (fail)
      have k1 := KK.out.box (Bx.made V6 Msg.zero.cells (msgR 5 22).cells 41)
      generalize (V6.alloc (.cells Msg.zero.cells 41)).setRow V6.heap.size (msgR 5 22).cells = V7 at k1 ⊢
      generalize V6.heap.size = n24 at k1 ⊢
      have r3 := k1.row 7 rfl
      have SW := Lib.hid (stepW k1)
      have KJ := Lib.hid k1
      clear KK k1
      go_wp2_with fail
      refine SW.out.mono ?_
      rintro _ V8 ⟨rfl, hb⟩
      have k1 := KJ.out.low hb
      have KK := Lib.hid k1
      clear KJ SW r3 hb k1
      go_upto_region 26 with (fail)
      have k1 := KK.out.low (Bx.made V8 Tv.zero.cells Tv.zero.cells 67).below
      generalize (V8.alloc (.cells Tv.zero.cells 67)).setRow V8.heap.size Tv.zero.cells = V9 at k1 ⊢
      have SW := Lib.hid (stepN k1)
      have KJ := Lib.hid k1
      clear KK k1
      go_wp2_with fail
      refine SW.out.mono ?_
      rintro _ V10 ⟨rfl, hb⟩
      have k1 := KJ.out.low hb
      have KK := Lib.hid k1
      clear KJ SW hb k1
      go_upto_region 27 with (fail)
      have k1 := KK.out.low (Bx.made V10 Tv.zero.cells Tv.zero.cells 67).below
      generalize (V10.alloc (.cells Tv.zero.cells 67)).setRow V10.heap.size Tv.zero.cells = V11 at k1 ⊢
      have r3 := k1.row 7 rfl
      have SW := Lib.hid (stepL k1 HF.out HT.out)
      have KJ := Lib.hid k1
      clear KK k1
      go_wp2_with fail
      refine SW.out.mono ?_
      rintro _ V12 ⟨rfl, hb⟩
      have k1 := KJ.out.low hb
      have KK := Lib.hid k1
      clear KJ SW r3 hb k1
      go_upto_region 28 with (fail)
      have k1 := KK.out.box (Bx.made V12 Tv.zero.cells Tv.zero.cells 67)
      generalize (V12.alloc (.cells Tv.zero.cells 67)).setRow V12.heap.size Tv.zero.cells = V13 at k1 ⊢
      generalize V12.heap.size = n33 at k1 ⊢
      have BK := Lib.hid (Book_any k1.st.dae)
      have SW := Lib.hid (swapS k1)
      have KJ := Lib.hid k1
      clear KK k1
      go_wp2_with fail
      refine BK.out.mono ?_
      rintro _ _ ⟨rfl, rfl⟩
      go_wp2_with fail
      refine SW.out.mono ?_
      rintro _ V14 ⟨rfl, hb⟩
      have k1 := KJ.out.low hb
      have KK := Lib.hid k1
      clear KJ SW BK hb k1
      go_upto_region 29 with (fail)
      have k1 := KK.out.box (Bx.made V14 Sw.zero.cells sw26.cells 52)
      generalize (V14.alloc (.cells Sw.zero.cells 52)).setRow V14.heap.size sw26.cells = V15 at k1 ⊢
      generalize V14.heap.size = n35 at k1 ⊢
      have KJ := Lib.hid k1
      clear KK k1
      have k1 := KJ.out
      refine Ls.wp_region_lays (β := Option Addr) (K := K29) (mk := mk29) (ob := ob29) hp29 9 (by kernel_rfl) (by kernel_rfl) ?_
      simp only [List.take_succ_cons, List.drop_succ_cons, List.take_nil, List.drop_nil]
      (refine Ls.grow_step rfl (fun k hk => ?_); go_simp; (refine ⟨_, fun g => ret_of (Terms_any g.val), hk _ ?_⟩; clear hk k))
      (refine Ls.grow_lay rfl (fun _ => rfl) (fun E g hk => ?_) ?_)
      · go_simp
        rw [make65]
        exact ⟨some ⟨_, 0, none⟩, rfl, ⟨⟨_, below1 _ _⟩, rfl⟩, trivial⟩
      simp only [Act.put, List.setIfInBounds_toArray, List.set_cons_succ, List.set_cons_zero, Nat.reduceAdd, Nat.zero_add, mk29_1]
      (refine Ls.grow_lay rfl (fun _ => rfl) (fun E g hk => ?_) ?_)
      · go_simp
        refine ⟨rfl, (Sx.new_w g.val).mono ?_⟩
        rintro e w2 ⟨b1, o1, F1, rfl, _, hb1, _⟩
        exact ⟨some ⟨b1, o1, none⟩, rfl, ⟨⟨_, hb1⟩, rfl⟩, trivial⟩
      simp only [Act.put, List.setIfInBounds_toArray, List.set_cons_succ, List.set_cons_zero, Nat.reduceAdd, mk29_2]
      (refine Ls.grow_step rfl (fun k hk => ?_); go_simp; (refine ⟨_, fun E g => ret_of (Open_long T26_ok (eq_true (by decide)) _ g.val), hk _ ?_⟩; clear hk k))
      (refine Ls.grow_step rfl (fun k hk => ?_); go_simp; (refine hk _ ?_; clear hk k))
      (refine Ls.grow_step rfl (fun k hk => ?_); go_simp; (refine hk _ ?_; clear hk k))
      (refine Ls.grow_step rfl (fun k hk => ?_); go_simp; (refine hk _ ?_; clear hk k))
      (refine Ls.grow_step rfl (fun k hk => ?_); go_simp; (refine hk _ ?_; clear hk k))
      (refine Ls.grow_step rfl (fun k hk => ?_); go_simp; (refine hk _ ?_; clear hk k))
      refine (fun E w' hob ⟨g, hg⟩ => ?_)
      subst hg
      clear hob
      have k2 := k1.low g.below
      dsimp only
      generalize E 1 = e1
      generalize E 2 = e2
      generalize g.val = V16 at k2 ⊢
      clear E k1
      have KK := Lib.hid k2
      clear KJ k2
      go_wp2_with fail
      refine (Terms_any V16).mono ?_
      rintro _ V17 ⟨rfl, hb⟩
      have k1 := KK.out.low hb
      have KJ := Lib.hid k1
      clear KK hb k1
      go_upto_region 31 with (fail)
      rw [show (#[Value.int .i64 0, Value.int .i64 0, Value.int .i64 0, Value.int .i64 0, Value.int .i64 0, Value.int .i64 0, Value.int .i64 0, Value.int .i64 0, Value.int .i64 0] : Array Value) = Tm.cells ⟨0, 0, 0, 0, 0, 0, 0, 0, 0⟩ from rfl]
      have bx := Bx.made V17 (Tm.cells ⟨0, 0, 0, 0, 0, 0, 0, 0, 0⟩) T26.cells 31
      generalize (V17.alloc (.cells (Tm.cells ⟨0, 0, 0, 0, 0, 0, 0, 0, 0⟩) 31)).setRow V17.heap.size T26.cells = V18 at bx ⊢
      have rx := bx.rowOf
      have sx := bx.soft
      have BX := Lib.hid bx
      clear bx
      go_upto_region 32 with (fail)
      have bx := BX.out.set1 8 (.int .i64 0)
      rw [show T26.cells.setIfInBounds 8 (.int .i64 0) = Tm.cells { T26 with fast := 0 } from rfl] at bx
      generalize V18.setCell ⟨V17.heap.size, 8, none⟩ (.int .i64 0) = V19 at bx ⊢
      have k1 := KJ.out.box bx
      generalize V17.heap.size = n39 at k1 ⊢
      have KK := Lib.hid k1
      clear KJ bx rx sx BX
      have r39 := k1.row 0 rfl
      have l39 : n39 < V19.heap.size := k1.lt 0 rfl
      refine Ls.wp_region_lays (β := Option Addr) (K := K32) (mk := mk32) (ob := ob29) hp29 8 (by kernel_rfl) (by kernel_rfl) ?_
      simp only [List.take_succ_cons, List.drop_succ_cons, List.take_nil, List.drop_nil]
      (refine Ls.grow_step rfl (fun k hk => ?_); go_simp; (refine hk _ ?_; clear hk k))
      (refine Ls.grow_lay rfl (fun _ => rfl) (fun E g hk => ?_) ?_)
      · go_simp
        refine ⟨rfl, (Sx.new_w g.val).mono ?_⟩
        rintro e w2 ⟨b1, o1, F1, rfl, _, hb1, _⟩
        exact ⟨some ⟨b1, o1, none⟩, rfl, ⟨⟨_, hb1⟩, rfl⟩, trivial⟩
      simp only [Act.put, List.setIfInBounds_toArray, List.set_cons_succ, List.set_cons_zero, Nat.reduceAdd, Nat.zero_add, mk32]
      (refine Ls.grow_step rfl (fun k hk => ?_); go_simp; (refine ⟨_, fun E g => ret_of (Open_terms chk_bad rfl _ _ g.val), hk _ ?_⟩; clear hk k))
      (refine Ls.grow_step rfl (fun k hk => ?_); go_simp; (refine hk _ ?_; clear hk k))
      (refine Ls.grow_step rfl (fun k hk => ?_); go_simp; (refine hk _ ?_; clear hk k))
      (refine Ls.grow_step rfl (fun k hk => ?_); go_simp; (refine hk _ ?_; clear hk k))
      (refine Ls.grow_step rfl (fun k hk => ?_); go_simp; (refine hk _ ?_; clear hk k))
      (refine Ls.grow_step rfl (fun k hk => ?_); go_simp; (refine hk _ ?_; clear hk k))
      refine (fun E w' hob ⟨g, hg⟩ => ?_)
      subst hg
      clear hob
      have k2 := k1.low g.below
      dsimp only
      generalize E 1 = e3
      generalize g.val = V20 at k2 ⊢
      clear E k1 r39 l39 KK
      have r35 := k2.row 1 rfl
      have r33 := k2.row 2 rfl
      have r24 := k2.row 3 rfl
      have r20 := k2.row 4 rfl
      have KN := Lib.hid (known_any (k2.base HF.out HT.out).forms (k2.base HF.out HT.out).tabs)
      have KJ := Lib.hid k2
      clear k2
      go_wp2_with fail
      refine KN.out.mono ?_
      rintro _ V21 ⟨rfl, hb⟩
      have k1 := KJ.out.low hb
      have FB := Lib.hid k1.mine.low
      clear KN KJ hb k1 r35 r33 r24 r20
      go_wp2
      go_ret
      exact ⟨rfl, FB.out⟩
end Go.Proofs.YtohpcfhgbgfblaaGreatDoor
