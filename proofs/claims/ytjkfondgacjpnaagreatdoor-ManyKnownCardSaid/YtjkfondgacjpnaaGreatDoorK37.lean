/- What is proved: parts of the walk and of the plain law, 3 texts in one. No condition but those each law names. -/
import Derived.Test.YtjkfondgacjpnaaGreatDoorK36
import Derived.Test.YtjkfondgacjpnaaGreatDoorK28
import Derived.Lib.SlBytesConst
import Derived.Test.YtjkfondgacjpnaaGreatDoorK18
import Derived.Test.YtjkfondgacjpnaaGreatDoorK22
import Derived.Lib.AppendZeros
import Derived.ArgAppend
namespace Go.Proofs.YtjkfondgacjpnaaGreatDoor
open Go.RowKit
open Sx (Ab DW Turns Did Foot)
set_option maxRecDepth 100000
attribute [local go_sem ↓] rowOf_cell ebl1 ebl2 ebrDk ebrSk ebd6k ebm5k
attribute [local go_sem] rowOf_alloc soft_alloc rowOf_drew soft_drew rowOf_setRow soft_setRow frozen_of_soft Ext.row Ext.soft_ rOf_D rOf_S rcD_eq rcS_eq
theorem legsV_i (t : Tm) (d : Dl) (n : Cl) : (legsV t d n).i = d.i ∧ (legsV t d n).h = d.h := by
  unfold legsV
  split <;> exact ⟨rfl, rfl⟩
theorem Dae.keepB {w w' : World} {D : Dm} (h : Dae w D) (hk : ∀ i, D.all i → w'.heap[i]? = w.heap[i]?) (hz : w.heap.size ≤ w'.heap.size) : Dae w' D :=
  ⟨(hk _ (.inl (.inl rfl))).trans h.row, h.sd.block (hk _ (.inl (.inr (.inl rfl)))), Nat.lt_of_lt_of_le h.sl hz, ⟨h.jd.dw.keepB fun i hx => hk i (.inr (.inr hx)), (hk _ (.inr (.inl rfl))).trans h.jd.jr, h.jd.ap⟩, h.hold, h.calm, h.bok.keepB fun i x hi => hk i (.inl (.inr (.inr hi))), h.f1, h.f2⟩
theorem Lies.row {w : World} {D : Dm} {P : List (Int × En) → Prop} {R : List (Int × List Nat)} (h : Lies w D P R) {b : Nat} (hb : ¬ D.all b) (C : Array Value) : Lies (w.setRow b C) D P R :=
  ⟨h.dae.keepB (fun i hi => setRow_other _ _ _ _ fun e => hb (e ▸ hi)) (by simp [World.setRow]), h.book, h.rows, h.cal⟩
theorem Trans.row {w Z : World} {D D' : Dm} (t : Trans w D Z D') {b : Nat} (hb : w.heap.size ≤ b) (C : Array Value) : Trans w D (Z.setRow b C) D' :=
  ⟨t.os, t.tape, t.output, Nat.le_trans t.size (by simp [World.setRow]), fun i hi hn => ⟨(setRow_other _ _ _ _ (by omega)).trans (t.keep i hi hn).1, (t.keep i hi hn).2⟩, t.xb, t.bk, t.t, t.seed, t.dv⟩
structure PSt (w V : World) (p g : Lg) (n : Cl) (s : Hs) (d : Dl) (b N : Nat) : Prop where
  bx : Bxs w [(p.cells, 26), (g.cells, 26), (n.cells, 37), (Msg.zero.cells, 67)] V
  rs : V.heap[b]? = some (.cells s.cells 65)
  rd : ∃ t, V.heap[N]? = some (.cells d.cells t)
  lb : w.heap.size ≤ b
  lN : w.heap.size ≤ N
theorem PSt.step {w V V' : World} {p g : Lg} {n : Cl} {s : Hs} {d : Dl} {b N : Nat} (h : PSt w V p g n s d b N) (hb : Below V.heap.size V V') : PSt w V' p g n s d b N := by
  obtain ⟨t, ht⟩ := h.rd
  exact ⟨h.bx.step hb, (hb.block _ (Array.getElem?_eq_some_iff.1 h.rs).1).trans h.rs, ⟨t, (hb.block _ (Array.getElem?_eq_some_iff.1 ht).1).trans ht⟩, h.lb, h.lN⟩
theorem PSt.d {w V : World} {p g : Lg} {n : Cl} {s : Hs} {d : Dl} {b N : Nat} (h : PSt w V p g n s d b N) : rowOf V N = d.cells := by
  obtain ⟨t, ht⟩ := h.rd
  exact rowOf_of ht
def proposeD (D : Dm) (i peer : Int) (p g : Lg) (n : Cl) : Dl := legsV D.t ⟨i, 1, p, g, sumH (secretH (D.seed ++ intI i)).l, peer⟩ n
def proposeM (d : Dl) : Msg := ⟨1, d.i, 0, d.p, d.g, d.h⟩
section
variable {w : World} {D : Dm} {n : Cl} {i peer : Int} {p g : Lg}
set_option maxHeartbeats 2000000 in
theorem propose_ok {R : List (Int × List Nat)} (hL : Lies w D (· = []) R) (hR : (secL R).length ≤ 240) (hB : Base w D) (hT : TmK D.t) (hsl : D.seed.length ≤ 64) (hi : I64 i) (hc : errD (proposeD D i peer p g n) = 0) (l1 : (p.a < D.t.least) = False) (l2 : (p.a > D.t.most) = False) : Calls Tryz.prog 26 #[.pointer (some ⟨D.xb, 0, none⟩), .int .i64 i, .int .i64 peer, .agg p.cells, .agg g.cells, .agg n.cells] w fun e w' => e = .returned (.tuple #[.agg (proposeM (proposeD D i peer p g n)).cells, .int .i64 0]) ∧ ∃ D', Lies w' D' (With [] i ⟨proposeD D i peer p g n, 1, true, secretH (D.seed ++ intI i)⟩) (R ++ [(1, putD (proposeD D i peer p g n))] ++ [(1, putS i (secretH (D.seed ++ intI i)))]) ∧ Trans w D w' D' := by
  unfold proposeD at *
  have h := hL.dae
  have H := Lib.hid h
  have HL := Lib.hid hL
  have HR := Lib.hid hR
  clear hL hR
  have HB := Lib.hid hB
  have HT := Lib.hid hT
  have HSL := Lib.hid hsl
  have HI := Lib.hid hi
  generalize hs : secretH (D.seed ++ intI i) = s at *
  generalize hd : legsV D.t ⟨i, 1, p, g, sumH s.l, peer⟩ n = d at *
  have HS := Lib.hid hs
  have HD := Lib.hid hd
  have HC := Lib.hid hc
  clear h hB hT hsl hi hs hd hc
  go_enter Tryz.func26, Tryz.ntmps26
  go_upto_region 1 with (fail)
  have bx := Bxs.new4 w p.cells 26 g.cells 26 n.cells 37 Msg.zero.cells 67
  generalize (((w.alloc (.cells p.cells 26)).alloc (.cells g.cells 26)).alloc (.cells n.cells 37)).alloc (.cells Msg.zero.cells 67) = W at bx ⊢
  have SC := secret_any (H.out.below bx.below) (HB.out.trans (Trans.below bx.below)) HSL.out HI.out
  rw [HS.out] at SC
  have SC := Lib.hid SC
  have BX := Lib.hid bx
  clear bx
  go_wp2_with fail
  refine SC.out.mono ?_
  rintro _ W2 ⟨rfl, hb⟩
  have bx := BX.out.step hb
  clear BX SC hb
  have BX := Lib.hid bx
  clear bx
  go_upto_region 2 with (fail)
  have LW := Lib.hid BX.out.below.size
  have L := Bx.made W2 Hs.zero.cells s.cells 65
  generalize (W2.alloc (.cells Hs.zero.cells 65)).setRow W2.heap.size s.cells = W3 at L ⊢
  have bx := BX.out.step L.below
  clear BX
  have rx0 := bx.row' 0 rfl
  have rx1 := bx.row' 1 rfl
  have rx2 := bx.row' 2 rfl
  have lt0 := bx.lt 0 rfl
  have lt1 := bx.lt 1 rfl
  have lt2 := bx.lt 2 rfl
  simp only [Nat.add_zero] at rx0 lt0
  have rs := L.rowOf
  have lts := (Array.getElem?_eq_some_iff.1 L.row).1
  have D3 := H.out.below bx.below
  have B3 := HB.out.trans (Trans.below bx.below)
  have rD := rowOf_of D3.row
  unfold Dm.cells at rD
  have ltx : D.xb < W3.heap.size := D3.lt (.inl rfl)
  have K1 : ∀ g : Ext W3, Calls Tryz.prog 45 #[.slice (some ⟨W2.heap.size, 0, none⟩) 32 32] g.val (Ret (.agg (sumH s.l).cells) g.val) := fun g =>
    ret_of (Blake_any (B3.tabs.keep (Nat.le_refl _) g.below) (Sl.keep (sl_in rs (h_whole s)) (Nat.le_refl _) g.below) (by decide))
  have K1 := Lib.hid K1
  have K2 : ∀ w : World, Calls Tryz.prog 44 #[.agg D.t.cells, .agg (Dl.cells ⟨i, 1, p, g, sumH s.l, peer⟩), .agg n.cells] w (Ret (.agg d.cells) w) := fun w => by
    have := ret_of (Legs_any HT.out.tm ⟨i, 1, p, g, sumH s.l, peer⟩ n w)
    rw [HD.out] at this
    exact this
  have K2 := Lib.hid K2
  have BX := Lib.hid bx
  have LS := Lib.hid L
  clear bx L D3 B3
  (refine wp_region_lay_tail 14 13 (fun N => .pointer (some ⟨N, 0, none⟩)) (.cells Dl.zero.cells 83) (by kernel_rfl) (by kernel_rfl) ?_; simp only [List.take_succ_cons, List.take_zero, List.drop_succ_cons, List.drop_zero]; (repeat (first | (refine grow_lay rfl (fun _ => rfl) (fun _ _ => (by simp [go_sem])) ?_; simp only [Act.put, List.setIfInBounds_toArray, List.set_cons_succ, List.set_cons_zero]) | (refine grow_step rfl (fun K hK => ?_); go_simp; (first | (refine hK _ ?_; clear hK K) | (apply Exists.intro; refine ⟨fun _ => ?_, hK _ ?_⟩; (first | (go_at_call 45; exact K1.out _) | (go_at_call 44; exact K2.out _)); clear hK K))))); refine (fun N w' hN lN eN ⟨g3, he⟩ => ?_); subst he; have rN := rowOf_of eN; have sN := soft_of eN; clear eN)
  have bw := Below.setRow_ g3.below hN d.cells
  have rd : rowOf (g3.val.setRow N d.cells) N = d.cells := (rowOf_setRow _ _ _ _ sN).trans (if_pos rfl)
  have sd : soft (g3.val.setRow N d.cells) N = true := (soft_setRow _ _ _ _).trans sN
  obtain ⟨td, htd⟩ := soft_spec sd
  rw [rd] at htd
  have ps : PSt w (g3.val.setRow N d.cells) p g n s d W2.heap.size N := ⟨BX.out.step bw, (bw.block _ (Array.getElem?_eq_some_iff.1 LS.out.row).1).trans LS.out.row, ⟨td, htd⟩, LW.out, Nat.le_trans LW.out (Nat.le_trans (Nat.le_of_lt (Array.getElem?_eq_some_iff.1 LS.out.row).1) hN)⟩
  have PS := Lib.hid ps
  clear rx0 rx1 rx2 lt0 lt1 lt2 rs lts rD ltx K1 K2 BX LS bw sd htd ps
  go_frame
  go_upto_region 3 with (fail)
  generalize g3.val.setRow N d.cells = V at *
  clear hN rN sN
  have C := Lib.hid (deal_is HC.out V)
  go_wp2_with fail
  refine C.out.mono ?_
  rintro _ V2 ⟨rfl, hb⟩
  have ps := PS.out.step hb
  clear PS rd C hb
  have rp := ps.bx.row' 0 rfl
  simp only [Nat.add_zero] at rp
  have rD := rowOf_of (H.out.below ps.bx.below).row
  unfold Dm.cells at rD
  have PS := Lib.hid ps
  clear ps
  go_upto_region 8 with (fail)
  go_region
  have ps := PS.out.step (Below.refl _ V2).drew
  have PS2 := Lib.hid ps
  clear rp rD PS ps l1 l2
  generalize V2.drew = V3 at *
  have RM := Lib.hid (room_ok (H.out.below PS2.out.bx.below) i HL.out.book)
  go_wp2_with fail
  refine RM.out.mono ?_
  rintro _ V4 ⟨rfl, hb⟩
  have ps := PS2.out.step hb
  clear RM hb PS2
  have PS := Lib.hid ps
  clear ps
  have rs := rowOf_of PS.out.rs
  have rd := PS.out.d
  have hdi : d.i = i := by rw [← HD.out]; exact (legsV_i _ _ _).1
  have hdh : d.h = sumH s.l := by rw [← HD.out]; exact (legsV_i _ _ _).2
  have hss : Small s.l := by rw [← HS.out]; exact sumH_small _
  have hsd : Small d.h.l := by rw [hdh]; exact sumH_small _
  have hrc : Rc.cells ⟨1, i, d, Hs.zero, 0, 0, Tv.zero⟩ = (rcD d).cells := by rw [← hdi]; rfl
  have hpm : Msg.cells ⟨1, i, 0, d.p, d.g, d.h⟩ = (proposeM d).cells := by rw [← hdi]; rfl
  have HPM := Lib.hid hpm
  have HDI := Lib.hid hdi
  have hok : dealOk d = true := by
    have := HC.out
    unfold errD at this
    cases hd : dealOk d with
    | true => rfl
    | false => rw [hd] at this; simp at this
  have hb := (Below.refl V4.heap.size V4).alloc (Nat.le_refl _) (.cells ((rcD d).list ++ (rcS i s).list).toArray 119)
  have hbw := PS.out.bx.below.trans (hb.mono PS.out.bx.below.size)
  have na : ∀ j, w.heap.size ≤ j → ¬ D.all j := fun j hj q => by have := H.out.all_lt q; omega
  have KD := keep_both (w := V4.alloc (.cells ((rcD d).list ++ (rcS i s).list).toArray 119)) (M := []) hok hsd hss hdh.symm rfl (by decide) HR.out (HL.out.low hbw) (HB.out.trans (Trans.below hbw)) (C := ((rcD d).list ++ (rcS i s).list).toArray) (by rw [hdi]) (heap_alloc_new V4 _) (na _ PS.out.bx.below.size)
  rw [hdi] at KD
  have KD := Lib.hid KD
  have HW := Lib.hid hbw
  have NA := Lib.hid na
  have ps := PS.out.step hb
  have PS5 := Lib.hid ps
  clear hb hbw na hdi hdh hss hsd hok ps hpm PS
  go_upto_region 11 with (fail)
  go_wp2_with fail
  refine KD.out.mono ?_
  rintro _ Z ⟨rfl, D', q1, q2⟩
  have bd : rowOf Z N = d.cells := by
    obtain ⟨t, ht⟩ := PS5.out.rd
    exact rowOf_of ((q2.keep _ (Array.getElem?_eq_some_iff.1 ht).1 (NA.out _ PS5.out.lN)).1.trans ht)
  have h3 := PS5.out.bx.rows 3 _ _ rfl
  have b3 : Z.heap[w.heap.size + 3]? = some (.cells Msg.zero.cells 67) := (q2.keep _ (Array.getElem?_eq_some_iff.1 h3).1 (NA.out _ (Nat.le_add_right _ _))).1.trans h3
  have n3 := (q2.keep _ (Array.getElem?_eq_some_iff.1 h3).1 (NA.out _ (Nat.le_add_right _ _))).2
  have rx3 := rowOf_of b3
  have sx3 := soft_of b3
  have Q1 := Lib.hid q1
  have Q2 := Lib.hid ((Trans.below HW.out).trans q2)
  have B3 := Lib.hid b3
  clear q1 q2 KD PS5 HW rs rd hrc h3 b3
  have hpm := HPM.out
  have hc : rowOf (World.setRow Z (w.heap.size + 1 + 1 + 1) (proposeM d).cells) (w.heap.size + 1 + 1 + 1) = (proposeM d).cells := (rowOf_setRow _ _ _ _ sx3).trans (if_pos rfl)
  have HC3 := Lib.hid hc
  clear hc
  go_wp2_with fail
  refine bodyPost_ret (results_row1 (t := 67) rfl Tryz.underlying67 rfl (by kernel_rfl) _ _ (w.heap.size + 1 + 1 + 1) rfl HC3.out (m_size _)) rfl ?_
  exact ⟨rfl, D', Q1.out.row n3 _, Q2.out.row (Nat.le_add_right _ _) _⟩
set_option maxHeartbeats 2000000 in
theorem propose_twice {q : En} (h : Dae w D) (hB : Base w D) (hT : TmK D.t) (hsl : D.seed.length ≤ 64) (hi : I64 i) (hc : errD (proposeD D i peer p g n) = 0) (l1 : (p.a < D.t.least) = False) (l2 : (p.a > D.t.most) = False) (hq : Hid (getA D.M i = some q)) : Calls Tryz.prog 26 #[.pointer (some ⟨D.xb, 0, none⟩), .int .i64 i, .int .i64 peer, .agg p.cells, .agg g.cells, .agg n.cells] w fun e w' => e = .returned (.tuple #[.agg Msg.zero.cells, .int .i64 13]) ∧ Below w.heap.size w w' := by
  unfold proposeD at *
  have H := Lib.hid h
  have HB := Lib.hid hB
  have HT := Lib.hid hT
  have HSL := Lib.hid hsl
  have HI := Lib.hid hi
  generalize hs : secretH (D.seed ++ intI i) = s at *
  generalize hd : legsV D.t ⟨i, 1, p, g, sumH s.l, peer⟩ n = d at *
  have HS := Lib.hid hs
  have HD := Lib.hid hd
  have HC := Lib.hid hc
  clear h hB hT hsl hi hs hd hc
  go_enter Tryz.func26, Tryz.ntmps26
  go_upto_region 1 with (fail)
  have bx := Bxs.new4 w p.cells 26 g.cells 26 n.cells 37 Msg.zero.cells 67
  generalize (((w.alloc (.cells p.cells 26)).alloc (.cells g.cells 26)).alloc (.cells n.cells 37)).alloc (.cells Msg.zero.cells 67) = W at bx ⊢
  have SC := secret_any (H.out.below bx.below) (HB.out.trans (Trans.below bx.below)) HSL.out HI.out
  rw [HS.out] at SC
  have SC := Lib.hid SC
  have BX := Lib.hid bx
  clear bx
  go_wp2_with fail
  refine SC.out.mono ?_
  rintro _ W2 ⟨rfl, hb⟩
  have bx := BX.out.step hb
  clear BX SC hb
  have BX := Lib.hid bx
  clear bx
  go_upto_region 2 with (fail)
  have LW := Lib.hid BX.out.below.size
  have L := Bx.made W2 Hs.zero.cells s.cells 65
  generalize (W2.alloc (.cells Hs.zero.cells 65)).setRow W2.heap.size s.cells = W3 at L ⊢
  have bx := BX.out.step L.below
  clear BX
  have rx0 := bx.row' 0 rfl
  have rx1 := bx.row' 1 rfl
  have rx2 := bx.row' 2 rfl
  have lt0 := bx.lt 0 rfl
  have lt1 := bx.lt 1 rfl
  have lt2 := bx.lt 2 rfl
  simp only [Nat.add_zero] at rx0 lt0
  have rs := L.rowOf
  have lts := (Array.getElem?_eq_some_iff.1 L.row).1
  have D3 := H.out.below bx.below
  have B3 := HB.out.trans (Trans.below bx.below)
  have rD := rowOf_of D3.row
  unfold Dm.cells at rD
  have ltx : D.xb < W3.heap.size := D3.lt (.inl rfl)
  have K1 : ∀ g : Ext W3, Calls Tryz.prog 45 #[.slice (some ⟨W2.heap.size, 0, none⟩) 32 32] g.val (Ret (.agg (sumH s.l).cells) g.val) := fun g =>
    ret_of (Blake_any (B3.tabs.keep (Nat.le_refl _) g.below) (Sl.keep (sl_in rs (h_whole s)) (Nat.le_refl _) g.below) (by decide))
  have K1 := Lib.hid K1
  have K2 : ∀ w : World, Calls Tryz.prog 44 #[.agg D.t.cells, .agg (Dl.cells ⟨i, 1, p, g, sumH s.l, peer⟩), .agg n.cells] w (Ret (.agg d.cells) w) := fun w => by
    have := ret_of (Legs_any HT.out.tm ⟨i, 1, p, g, sumH s.l, peer⟩ n w)
    rw [HD.out] at this
    exact this
  have K2 := Lib.hid K2
  have BX := Lib.hid bx
  have LS := Lib.hid L
  clear bx L D3 B3
  (refine wp_region_lay_tail 14 13 (fun N => .pointer (some ⟨N, 0, none⟩)) (.cells Dl.zero.cells 83) (by kernel_rfl) (by kernel_rfl) ?_; simp only [List.take_succ_cons, List.take_zero, List.drop_succ_cons, List.drop_zero]; (repeat (first | (refine grow_lay rfl (fun _ => rfl) (fun _ _ => (by simp [go_sem])) ?_; simp only [Act.put, List.setIfInBounds_toArray, List.set_cons_succ, List.set_cons_zero]) | (refine grow_step rfl (fun K hK => ?_); go_simp; (first | (refine hK _ ?_; clear hK K) | (apply Exists.intro; refine ⟨fun _ => ?_, hK _ ?_⟩; (first | (go_at_call 45; exact K1.out _) | (go_at_call 44; exact K2.out _)); clear hK K))))); refine (fun N w' hN lN eN ⟨g3, he⟩ => ?_); subst he; have rN := rowOf_of eN; have sN := soft_of eN; clear eN)
  have bw := Below.setRow_ g3.below hN d.cells
  have rd : rowOf (g3.val.setRow N d.cells) N = d.cells := (rowOf_setRow _ _ _ _ sN).trans (if_pos rfl)
  have sd : soft (g3.val.setRow N d.cells) N = true := (soft_setRow _ _ _ _).trans sN
  obtain ⟨td, htd⟩ := soft_spec sd
  rw [rd] at htd
  have ps : PSt w (g3.val.setRow N d.cells) p g n s d W2.heap.size N := ⟨BX.out.step bw, (bw.block _ (Array.getElem?_eq_some_iff.1 LS.out.row).1).trans LS.out.row, ⟨td, htd⟩, LW.out, Nat.le_trans LW.out (Nat.le_trans (Nat.le_of_lt (Array.getElem?_eq_some_iff.1 LS.out.row).1) hN)⟩
  have PS := Lib.hid ps
  clear rx0 rx1 rx2 lt0 lt1 lt2 rs lts rD ltx K1 K2 BX LS bw sd htd ps
  go_frame
  go_upto_region 3 with (fail)
  generalize g3.val.setRow N d.cells = V at *
  clear hN rN sN
  have C := Lib.hid (deal_is HC.out V)
  go_wp2_with fail
  refine C.out.mono ?_
  rintro _ V2 ⟨rfl, hb⟩
  have ps := PS.out.step hb
  clear PS rd C hb
  have rp := ps.bx.row' 0 rfl
  simp only [Nat.add_zero] at rp
  have rD := rowOf_of (H.out.below ps.bx.below).row
  unfold Dm.cells at rD
  have PS := Lib.hid ps
  clear ps
  go_upto_region 8 with (fail)
  go_region
  have ps := PS.out.step (Below.refl _ V2).drew
  have PS2 := Lib.hid ps
  clear rp rD PS ps l1 l2
  generalize V2.drew = V3 at *
  have RM := Lib.hid (room_twice (H.out.below PS2.out.bx.below) hq.out)
  go_wp2_with fail
  refine RM.out.mono ?_
  rintro _ V4 ⟨rfl, hb⟩
  have ps := PS2.out.step hb
  clear RM hb PS2
  have PS := Lib.hid ps
  clear ps
  have rx3 := PS.out.bx.row' 3 rfl
  have sx3 := PS.out.bx.soft' 3 rfl
  have BB := Lib.hid PS.out.bx.below
  have hc : rowOf (World.setRow V4 (w.heap.size + 1 + 1 + 1) Msg.zero.cells) (w.heap.size + 1 + 1 + 1) = Msg.zero.cells := (rowOf_setRow _ _ _ _ sx3).trans (if_pos rfl)
  have HC3 := Lib.hid hc
  clear hc
  go_wp2
  refine bodyPost_ret (results_row1 (t := 67) rfl Tryz.underlying67 rfl (by kernel_rfl) _ _ (w.heap.size + 1 + 1 + 1) rfl HC3.out (m_size _)) rfl ?_
  exact ⟨rfl, Below.setRow_ BB.out (Nat.le_add_right _ _) _⟩
end
end Go.Proofs.YtjkfondgacjpnaaGreatDoor

namespace Go.Proofs.YtjkfondgacjpnaaGreatDoor
open Go.RowKit
open Sx (Ab DW Turns Did Foot)
set_option maxRecDepth 100000
attribute [local go_sem ↓] rowOf_cell
attribute [local go_sem] rowOf_alloc soft_alloc rowOf_drew soft_drew rowOf_setRow soft_setRow frozen_of_soft Ext.row Ext.soft_
def tmOf (v : Value) : Tm := ⟨iAt v 0, iAt v 1, iAt v 2, iAt v 3, iAt v 4, iAt v 5, iAt v 6, iAt v 7, iAt v 8⟩
def svOf (v : Value) : Sv := match v with
  | .slice a n c => ⟨a, n, c⟩
  | _ => Sv.nil
def pbOf (v : Value) : Nat := match v with
  | .pointer (some a) => a.block
  | _ => 0
theorem tmOf_mk (t : Tm) : tmOf (.agg t.cells) = t := rfl
theorem svOf_mk (a : Option Addr) (n c : Nat) : svOf (.slice a n c) = ⟨a, n, c⟩ := rfl
theorem pbOf_mk (b o : Nat) : pbOf (.pointer (some ⟨b, o, none⟩)) = b := rfl
theorem bdm (w : World) (t : Tm) (s : Sv) (jb bk : Nat) : (Instr.build 109 #[(0, .agg t.cells), (1, .slice s.a s.n s.c), (2, .pointer (some ⟨jb, 0, none⟩)), (3, .pointer (some ⟨bk, 0, none⟩))]).run Tryz.prog w = .ok (.agg (dmC t s jb bk false)) w := by kernel_rfl
theorem ebdm (w : World) (A : Act) (dst : Option Tmp) (ty : TypeId) (pos : String) (af : Array Edge) (gd : Option (Nat × Bool)) (x y z u : Operand) (hx : A.eval x = .agg (tmOf (A.eval x)).cells) (hy : A.eval y = .slice (svOf (A.eval y)).a (svOf (A.eval y)).n (svOf (A.eval y)).c) (hz : A.eval z = .pointer (some ⟨pbOf (A.eval z), 0, none⟩)) (hu : A.eval u = .pointer (some ⟨pbOf (A.eval u), 0, none⟩)) :
    (execOp A.eval ⟨dst, .build 109 #[(0, x), (1, y), (2, z), (3, u)], ty, pos, af, gd⟩).run Tryz.prog w = .ok (.value (.agg (dmC (tmOf (A.eval x)) (svOf (A.eval y)) (pbOf (A.eval z)) (pbOf (A.eval u)) false))) w := by
  have h := bdm w (tmOf (A.eval x)) (svOf (A.eval y)) (pbOf (A.eval z)) (pbOf (A.eval u))
  rw [← hx, ← hy, ← hz, ← hu] at h
  unfold execOp
  simp only [Sem.run_bind, Sem.run_pure, List.map_toArray, List.map_cons, List.map_nil, h, Result.andThen_ok]
attribute [local go_sem ↓] ebdm
attribute [local go_sem] tmOf_mk svOf_mk pbOf_mk
structure Born (F : Foot) (w : World) (D : Dm) (w' : World) : Prop where
  os : w'.os = w.os
  tape : w'.tape = w.tape
  output : w'.output = w.output
  size : w.heap.size ≤ w'.heap.size
  keep : ∀ i, i < w.heap.size → (∀ x, ¬ F i x) → w'.heap[i]? = w.heap[i]? ∧ ¬ D.all i
theorem born_dae {w W2 W3 X2 : World} {F F' : Foot} {dv : Value} {A' : Ab} {jb : Nat} {j : Jr} {t : Tm} {seed : List Nat} {a1 : Option Addr} {n c1 bk mb : Nat} (hbw : Below w.heap.size w W2) (tb : TB F W2 F' W3) (jd : JD W3 F' dv A' jb j) (hjb : W2.heap.size ≤ jb) (hh : Holds A' j []) (hc : Calm A')
    (own : X2.ownsRow W3.heap.size 5 1 (.slice a1 n c1) n (bts seed)) (bok : BookAt X2 bk mb []) (hb3 : Below W3.heap.size W3 X2) (l1 : W3.heap.size ≤ bk) (l2 : W3.heap.size ≤ mb) (h0 : 0 < n) :
    ∃ D : Dm, D.xb = X2.heap.size ∧ Lies (X2.alloc (.cells (dmC t ⟨a1, n, c1⟩ jb bk false) 109)) D (· = []) [] ∧ D.t = t ∧ D.seed = seed ∧ Born F w D (X2.alloc (.cells (dmC t ⟨a1, n, c1⟩ jb bk false) 109)) ∧ D.dv = dv := by
  have sl := Sl.own own
  obtain ⟨sb, so, rfl, hsb, _⟩ := sl.at h0
  have ho := own
  obtain ⟨_, ⟨e, _⟩ | ⟨g, cp, cur, e, hg, hgc, _⟩⟩ := ho
  · cases e
  cases e
  have hn : seed.length = n := by rw [← sl.len, bts_length]
  subst hn
  have hal : Below X2.heap.size X2 (X2.alloc (.cells (dmC t ⟨some ⟨sb, 0, none⟩, seed.length, c1⟩ jb bk false) 109)) := (Below.refl _ X2).alloc (Nat.le_refl _) _
  have hz : (X2.alloc (.cells (dmC t ⟨some ⟨sb, 0, none⟩, seed.length, c1⟩ jb bk false) 109)).heap.size = X2.heap.size + 1 := by simp
  have bokl : ∀ i x, FootB bk mb [] i x → i = bk ∨ i = mb := fun i x h => by
    rcases h with h | h | ⟨p, hp, _⟩
    · exact .inl h
    · exact .inr h
    · cases hp
  have lb : bk < X2.heap.size := (Array.getElem?_eq_some_iff.1 bok.ob).1
  have lm : mb < X2.heap.size := bok.lt (x := 0) (.inr (.inl rfl))
  have z3 := hb3.size
  have nsb : sb ≠ bk := fun q => by have := bok.ob; rw [← q, hgc] at this; cases this
  have nsm : sb ≠ mb := fun q => by obtain ⟨es, c, x, _⟩ := bok.mp; rw [← q, hgc] at x; cases x
  let D : Dm := ⟨F', X2.heap.size, jb, bk, mb, sb, c1, t, seed, dv, A', j, [], [], true⟩
  have hown : ∀ i, D.own i → W3.heap.size ≤ i := fun i hi => by
    rcases hi with hi | hi | hi
    · have hi : i = X2.heap.size := hi
      omega
    · have hi : i = sb := hi
      omega
    · rcases bokl i 0 hi with h | h <;> omega
  refine ⟨D, rfl, ⟨⟨heap_alloc_new X2 _, sl.keep (Nat.le_refl _) hal, (by rw [hz]; show sb < _; omega), (jd.below hb3).below hal, hh, fun _ => hc, bok.below hal, fun i hi => ?_, ?_⟩, rfl, rfl, rfl⟩, rfl, rfl, ?_, rfl⟩
  · have := hown i hi
    refine ⟨fun e => ?_, fun x hx => ?_⟩
    · have h1 := jd.lt
      have e : i = jb := e
      omega
    · have := jd.dw.lt hx
      omega
  · refine ⟨fun q => ?_, fun q => ?_, ?_⟩
    · rcases bokl _ 0 q with h | h
      · have h : X2.heap.size = bk := h
        omega
      · have h : X2.heap.size = mb := h
        omega
    · exact (bokl _ 0 q).elim nsb nsm
    · show X2.heap.size ≠ sb
      omega
  · have zw := hbw.size
    have zt := tb.t.size
    refine ⟨hal.os.trans (hb3.os.trans (tb.t.os.trans hbw.os)), hal.tape.trans (hb3.tape.trans (tb.t.tape.trans hbw.tape)), hal.output.trans (hb3.output.trans (tb.t.output.trans hbw.output)), by rw [hz]; omega, fun i hi hn => ⟨?_, fun q => ?_⟩⟩
    · exact (hal.block i (by omega)).trans ((hb3.block i (by omega)).trans ((tb.t.block i (by omega) hn).trans (hbw.block i hi)))
    · rcases q with q | q | ⟨x, hx⟩
      · have := hown i q
        omega
      · have q : i = jb := q
        omega
      · rcases tb.fb i x hx with h | h
        · exact hn x h
        · omega
set_option maxHeartbeats 2000000 in
theorem Open_new {w : World} {F : Foot} {dv : Value} {A A' : Ab} {j : Jr} (H : DW w F dv A) (hA : Ab.Sm A) (ho : openP A = ⟨0, A', j, []⟩) (hh : Holds A' j []) (hc : Calm A') {t : Tm} (hk : TmK t) {b o n c : Nat} {seed : List Nat} (hs : Sl w (some ⟨b, o, none⟩) n c (bts seed)) (h0 : 0 < n) (hn : n ≤ 64) (hb : b < w.heap.size) (hF : ∀ x, ¬ F b x) :
    Calls Tryz.prog 58 #[.agg t.cells, .slice (some ⟨b, o, none⟩) n c, dv] w fun e w' => ∃ D, e = .returned (.tuple #[.pointer (some ⟨D.xb, 0, none⟩), .int .i64 0]) ∧ Lies w' D (· = []) [] ∧ D.t = t ∧ D.seed = seed ∧ Born F w D w' ∧ D.dv = dv := by
  have HK := Lib.hid hk
  have HH := Lib.hid hh
  have HC := Lib.hid hc
  have HS := Lib.hid hs
  have HF := Lib.hid hF
  have HB := Lib.hid hb
  have HD := Lib.hid H
  have HA := Lib.hid hA
  have HO := Lib.hid ho
  have hn2 : ((n : Int) > 64) = False := eq_false (by omega)
  obtain ⟨db, dof, rfl⟩ := dw_form H
  clear hk hh hc hs hF hb H hA ho
  go_enter Tryz.func58, Tryz.ntmps58
  go_upto_region 1 with (fail)
  have bx := Bx.new w (t.cells) 53; generalize w.alloc (.cells (t.cells) 53) = W at bx ⊢; have rx := bx.rowOf; have sx := bx.soft; have BX := Lib.hid bx; clear bx
  have Q := QCheck_any t W
  rw [HK.out.chk] at Q
  have Q := Lib.hid Q
  go_wp2_with fail
  refine (Q.out).mono ?_; rintro _ W2 ⟨rfl, hb⟩; have bx := BX.out.step hb; clear BX rx sx hb; have rx := bx.rowOf; have sx := bx.soft; have BX := Lib.hid bx; clear bx
  have hbW := BX.out.below
  have O := Lib.hid (Open_ok (HD.out.below hbW) HA.out HO.out)
  clear hbW
  go_wp2_with fail
  refine O.out.mono ?_
  rintro _ W3 ⟨F', jb, ao, cc, L, rfl, jd, tb, hjb, _, _⟩
  have l0 : w.heap.size < W2.heap.size := (Array.getElem?_eq_some_iff.1 BX.out.row).1
  have n0 : ∀ x, ¬ F w.heap.size x := fun x q => absurd (HD.out.lt q) (Nat.lt_irrefl _)
  have rt : rowOf W3.drew w.heap.size = t.cells := rowOf_of ((tb.t.block _ l0 n0).trans BX.out.row)
  have lt3 : w.heap.size < W3.heap.size := Nat.lt_of_lt_of_le l0 tb.t.size
  have hs3 : Sl W3.drew (some ⟨b, o, none⟩) n c (bts seed) := HS.out.block ((tb.t.block b (Nat.lt_of_lt_of_le HB.out BX.out.below.size) HF.out).trans (BX.out.below.block b HB.out))
  have CA := Lib.hid (Clone_any hs3 (by omega))
  have NB := Lib.hid (New_book W3.drew)
  have HS3 := Lib.hid hs3
  have JD := Lib.hid jd
  have TB := Lib.hid tb
  have JB := Lib.hid hjb
  have L0 := Lib.hid l0
  clear jd tb hjb l0 n0 hs3 rx sx O Q
  go_upto_region 9 with (fail)
  have keep : ∀ X : World, Below W3.drew.heap.size W3.drew X → rowOf X w.heap.size = t.cells := fun X hX => by
    have : X.heap[w.heap.size]? = W3.drew.heap[w.heap.size]? := hX.block _ lt3
    unfold rowOf at rt ⊢
    rw [this]
    exact rt
  have KP := Lib.hid keep
  clear keep
  go_region_held3 (fun w' => rowOf w' w.heap.size = t.cells) (first | exact rt | exact r1 | exact r2 | exact r3)
    (first
      | (go_at_call 37; refine CA.out.mono ?_; rintro _ X1 ⟨a1, c1, rfl, hb1, own1⟩
         have r1 := KP.out X1 hb1
         have NA := Lib.hid (New_book X1)
         have O1 := Lib.hid own1
         have B1 := Lib.hid hb1
         clear own1 hb1)
      | (go_at_call 85; refine NA.out.mono ?_; rintro _ X2 ⟨bk, mb, rfl, k1, k2, k3, k4⟩
         have r2 := KP.out X2 (B1.out.trans (k2.mono B1.out.size))
         have r3 := KP.out (X2.alloc (.cells (dmC t ⟨a1, n, c1⟩ jb bk false) 109)) ((B1.out.trans (k2.mono B1.out.size)).alloc (B1.out.trans (k2.mono B1.out.size)).size _)
         have FIN := Lib.hid (And.intro (own_keep O1.out (Nat.le_refl _) k2) (And.intro k1 (And.intro (B1.out.trans (k2.mono B1.out.size)) (And.intro (Nat.le_trans B1.out.size k3) (Nat.le_trans B1.out.size k4)))))
         clear k1 k2 k3 k4)
      | (go_at_call 85; refine NB.out.mono ?_; rintro _ X1 ⟨bk, mb, rfl, k1, k2, k3, k4⟩
         have r1 := KP.out X1 k2
         have CB := Lib.hid (Clone_any (w := X1) (HS3.out.keep (Nat.le_refl _) k2) (by omega))
         have K1 := Lib.hid k1
         have K2 := Lib.hid k2
         have K3 := Lib.hid (And.intro k3 k4)
         clear k1 k2 k3 k4)
      | (go_at_call 37; refine CB.out.mono ?_; rintro _ X2 ⟨a1, c1, rfl, hb1, own1⟩
         have r2 := KP.out X2 (K2.out.trans (hb1.mono K2.out.size))
         have r3 := KP.out (X2.alloc (.cells (dmC t ⟨a1, n, c1⟩ jb bk false) 80)) ((K2.out.trans (hb1.mono K2.out.size)).alloc (K2.out.trans (hb1.mono K2.out.size)).size _)
         have FIN := Lib.hid (And.intro (own_base own1 K2.out.size) (And.intro (K1.out.below hb1) (And.intro (K2.out.trans (hb1.mono K2.out.size)) K3.out)))
         clear own1 hb1))
  all_goals obtain ⟨D, e1, q1, q2, q3, q4⟩ := born_dae (t := t) BX.out.below TB.out JD.out JB.out HH.out HC.out FIN.out.1 FIN.out.2.1 ((Below.refl W3.heap.size W3).drew.trans FIN.out.2.2.1) FIN.out.2.2.2.1 FIN.out.2.2.2.2 h0
  all_goals rw [← e1]
  all_goals generalize X2.alloc _ = Y at *
  all_goals have RES := Lib.hid (And.intro q1 (And.intro q2 (And.intro q3 q4)))
  all_goals clear q1 q2 q3 q4 e1 FIN r1 r2 r3 rt lt3
  all_goals go_upto_region 11 with (fail)
  all_goals go_loopw [43] (fun i wr => i = .int .i64 0 ∧ wr = Y) (fun _ _ => 0)
  case atStart => exact ⟨rfl, rfl⟩
  case round =>
    obtain ⟨rfl, rfl⟩ := hrel
    go_wp2
    refine bodyPost_ret (results_tmp2 rfl _ _ _) rfl ?_
    exact ⟨D, rfl, RES.out⟩
end Go.Proofs.YtjkfondgacjpnaaGreatDoor

namespace Go.Proofs.YtjkfondgacjpnaaGreatDoor
open Go.RowKit
open Sx (Ab DW Turns Did Foot)
set_option maxRecDepth 100000
def T26 : Tm := ⟨10, 1000, 5, 100, 1000, 2, 3, 4, 2⟩
theorem T26_ok : TmK T26 := ⟨by kernel_rfl, ⟨by decide, by decide, by decide, by decide⟩, by decide, by decide, by decide⟩
attribute [local go_sem ↓] rowOf_cell
attribute [local go_sem] rowOf_alloc soft_alloc rowOf_drew soft_drew rowOf_setRow soft_setRow frozen_of_soft Ext.row Ext.soft_
theorem T26_lit : (#[Value.int .i64 10, Value.int .i64 1000, Value.int .i64 5, Value.int .i64 100, Value.int .i64 1000, Value.int .i64 2, Value.int .i64 3, Value.int .i64 4, Value.int .i64 2] : Array Value) = T26.cells := rfl
attribute [local go_sem] T26_lit
theorem Terms_any (w : World) : Calls Tryz.prog 22 #[] w fun e w' => e = .returned (.agg T26.cells) ∧ Below w.heap.size w w' := by
  go_enter Tryz.func22, Tryz.ntmps22
  go_upto_region 1 with (fail)
  have bx := Bx.new w (Tm.cells ⟨0, 0, 0, 0, 0, 0, 0, 0, 0⟩) 53
  rw [show (#[Value.int .i64 0, Value.int .i64 0, Value.int .i64 0, Value.int .i64 0, Value.int .i64 0, Value.int .i64 0, Value.int .i64 0, Value.int .i64 0, Value.int .i64 0] : Array Value) = Tm.cells ⟨0, 0, 0, 0, 0, 0, 0, 0, 0⟩ from rfl]
  generalize w.alloc (.cells (Tm.cells ⟨0, 0, 0, 0, 0, 0, 0, 0, 0⟩) 53) = W at bx ⊢
  have rx := bx.rowOf
  have sx := bx.soft
  have BX := Lib.hid bx
  clear bx
  go_wp2
  have hc : rowOf (World.setRow W w.heap.size T26.cells) w.heap.size = T26.cells := (rowOf_setRow _ _ _ _ sx).trans (if_pos rfl)
  refine bodyPost_ret (results_row (t := 53) rfl Tryz.underlying53 rfl (by kernel_rfl) _ _ w.heap.size rfl hc (tm_size _)) rfl ?_
  exact ⟨rfl, Below.setRow_ BX.out.below (Nat.le_refl _) _⟩
def seedL : List Nat := [115, 101, 101, 100]
def seedC : Array Value := #[.int .u8 115, .int .u8 101, .int .u8 101, .int .u8 100]
def seedW (w : World) : World := w.alloc (.cells seedC 5 (4, 5))
theorem conv_seed (w : World) : (convert 56 56 (.slice (some ⟨w.heap.size, 0, none⟩) 4 4)).run Tryz.prog (w.alloc (.cells seedC 5)) = .ok (.slice (some ⟨w.heap.size, 0, none⟩) 4 4) (seedW w) :=
  Go.Lib.run_convert_bytes_const w 56 5 seedC 4 4 Tryz.underlying56 Tryz.underlying5
theorem seed_lit (w : World) : (#[Value.int .u8 115, Value.int .u8 101, Value.int .u8 101, Value.int .u8 100] : Array Value) = seedC := rfl
structure Mine (w V : World) (D : Dm) : Prop where
  low : Below w.heap.size w V
  own : ∀ i, i < w.heap.size → ¬ D.all i
theorem Mine.trans {w V V' : World} {D D' : Dm} (h : Mine w V D) (t : Trans V D V' D') : Mine w V' D' :=
  ⟨⟨t.os.trans h.low.os, t.tape.trans h.low.tape, t.output.trans h.low.output, Nat.le_trans h.low.size t.size, fun i hi => (t.keep i (Nat.lt_of_lt_of_le hi h.low.size) (h.own i hi)).1.trans (h.low.block i hi)⟩,
   fun i hi => (t.keep i (Nat.lt_of_lt_of_le hi h.low.size) (h.own i hi)).2⟩
theorem Mine.base {w V : World} {D : Dm} (h : Mine w V D) (hf : Forms w) (ht : Tabs w) : Base V D :=
  let ⟨_, g4⟩ := ht.g4
  let ⟨_, g5⟩ := ht.g5
  ⟨hf.keep (Nat.le_refl _) h.low, ht.keep (Nat.le_refl _) h.low, h.own _ hf.lt, h.own _ (Array.getElem?_eq_some_iff.1 g4).1, h.own _ (Array.getElem?_eq_some_iff.1 g5).1⟩
theorem Book_any {w : World} {D : Dm} (h : Dae w D) : Calls Tryz.prog 32 #[.pointer (some ⟨D.xb, 0, none⟩)] w fun e w' => e = .returned (.pointer (some ⟨D.bk, 0, none⟩)) ∧ w' = w := by
  have rD := rowOf_of h.row
  unfold Dm.cells at rD
  clear h
  go_enter Tryz.func32, Tryz.ntmps32
  go_wp2
  go_ret
  exact ⟨rfl, rfl⟩
theorem eql_h (h : Hs) (w : World) : (binOp .eql 65 (.agg h.cells) (.agg h.cells)).run Tryz.prog w = .ok (.bool true) w := by
  obtain ⟨f, rfl⟩ := h.form
  have e := eq39 f 9998
  rw [hexp_eq]
  simp [go_sem, e]
theorem eeql39 (w : World) (ρ : Operand → Value) (x y : Operand) (dst : Option Tmp) (ty : TypeId) (pos : String) (af : Array Edge) (gd : Option (Nat × Bool)) (r : TypeId) (h1 : ρ x = ρ y) (h2 : IsH (ρ y)) : (execOp ρ ⟨dst, .binOp .eql 65 x y r, ty, pos, af, gd⟩).run Tryz.prog w = .ok (.value (.bool true)) w := by
  obtain ⟨m, hm⟩ := h2
  unfold execOp
  simp only [Sem.run_bind, h1, hm, eqg39 _ _ _ _ _ _ (.inr rfl), Result.andThen_ok, eql_h, Sem.run_pure]
attribute [local go_sem ↓] eeql39
attribute [local go_sem] seed_lit conv_seed is_h
end Go.Proofs.YtjkfondgacjpnaaGreatDoor

namespace Go.Proofs.YtjkfondgacjpnaaGreatDoor
open Go.RowKit
set_option maxRecDepth 100000
theorem accept_ok {d : Dl} (h : dealOk d = true) : idE d.i (propE (acceptM d)) = 0 ∧ I64 d.i ∧ LgI d.p ∧ LgI d.g := by
  have hin := dealOk_in h
  unfold dealOk legOk at h
  simp only [Bool.and_eq_true] at h
  obtain ⟨h1, _, ⟨h3, h4, h5⟩, ⟨h6, h7, h8⟩, h9, _⟩ := h
  have w1 := of_decide_eq_true h1
  have w3 := of_decide_eq_true h3
  have w4 := of_decide_eq_true h4
  have w5 := of_decide_eq_true h5
  have w6 := of_decide_eq_true h6
  have w7 := of_decide_eq_true h7
  have w8 := of_decide_eq_true h8
  have hne : d.p.w ≠ d.g.w := by simpa using h9
  refine ⟨?_, hin.i.i64, ⟨hin.pw.i64, hin.pa.i64, hin.pu.i64⟩, ⟨hin.gw.i64, hin.ga.i64, hin.gu.i64⟩⟩
  have e1 : legE d.p = 0 := by unfold legE; rw [if_neg (by omega), if_neg (by omega), if_neg (by omega)]
  have e2 : legE d.g = 0 := by unfold legE; rw [if_neg (by omega), if_neg (by omega), if_neg (by omega)]
  unfold idE propE acceptM
  rw [if_neg (by omega), if_neg (by simp only; omega), if_neg (by simp only; omega), if_neg hne, if_neg (by simp)]
theorem small_putC (i c : Int) : Small (putC i c) := ((intI_small _).append (intI_small _)).append (intI_small _)
theorem putC_len (i c : Int) : (putC i c).length ≤ 27 := by
  have h1 := intI_len 3
  have h2 := intI_len i
  have h3 := intI_len c
  unfold putC
  simp only [List.length_append]
  omega
theorem small_legI (l : Lg) : Small (legI l) := ((intI_small _).append (intI_small _)).append (intI_small _)
theorem small_putLM {m : Msg} (h : Small m.h.l) : Small (putLM m) := (((intI_small _).append (intI_small _)).append ((small_legI _).append (small_legI _))).append h
theorem putLM_len (m : Msg) : (putLM m).length ≤ 104 := by
  have h1 := intI_len m.k
  have h2 := intI_len m.i
  have h3 := legI_len m.p
  have h4 := legI_len m.g
  have h5 := m.h.hl
  unfold putLM legsI
  simp only [List.length_append]
  omega
end Go.Proofs.YtjkfondgacjpnaaGreatDoor

namespace Go.Proofs.YtjkfondgacjpnaaGreatDoor
open Go.RowKit
set_option maxRecDepth 100000
theorem ret_same {f : FuncId} {args : Array Value} {w : World} {v : Value} (h : Calls Tryz.prog f args w fun e w' => e = .returned v ∧ w' = w) : Calls Tryz.prog f args w (Ret v w) :=
  ret_of (h.mono fun _ _ ⟨he, e⟩ => ⟨he, by rw [e]; exact Below.refl _ _⟩)
theorem step_app_at {P : Program} {t e : TypeId} {size : Nat} (E : Elem P t e size) {ops : Array Oper} {o : Oper} {a : Act} {w : World} {K : Act → World → Prop} {Q : Exit → Act → World → Prop} {X : Prop} (hgd : o.guard = none) (s x : Operand)
    (ho : o.op = .call { callee := .builtin .append, args := #[s, x], argTypes := #[t, t] })
    {B : Nat} {v : Value} {n : Nat} {xs : List Value} (hs : a.eval s = v) (hown : w.ownsRow B e size v n xs)
    {ad : Addr} {m c : Nat} {news : List Value} (hx : a.eval x = .slice (some ad) m c) (hl : news.length = m * size)
    (hnews : ∀ (j : Nat) u, news[j]? = some u → w.cell? (ad.add j) = some u) (h1 : ∀ u ∈ news, u.oneCell' = true)
    (hm : 0 < m) (h63 : n + m ≤ 1099511627776) (hB : B ≤ w.heap.size)
    (h : ∀ g cap w', w'.ownsRow B e size (.slice (some ⟨g, 0, none⟩) (n + m) cap) (n + m) (xs ++ news) → w.grownBy w' v.ownBlock → (v.ownBlock = some g ∨ g = w.heap.size) → g < w'.heap.size → K (a.put o.dst (.slice (some ⟨g, 0, none⟩) (n + m) cap)) w') :
    if Region.wanted o (yielded ops a.tmps) = true then Oper.wp P o a w K Q else X := by
  obtain ⟨hu, hpos, i, z, hi, hz, hsz, hby, hzs⟩ := E
  refine step_append_lies w hgd s x t ho B e i z size i.bytes hu hi hz hsz rfl hzs hpos v n xs hs hown ad m c news hx hl hnews h1 hm (by simp only [maxLen]; omega) ?_ hB w.heap.size rfl h
  calc (n + m) * i.bytes ≤ 1099511627776 * 64 := Nat.mul_le_mul h63 hby
    _ ≤ 140737488355328 := by decide
structure Comp (w w' : World) (P P' : Nat → Prop) : Prop where
  os : w'.os = w.os
  tape : w'.tape = w.tape
  output : w'.output = w.output
  size : w.heap.size ≤ w'.heap.size
  keep : ∀ i, i < w.heap.size → ¬ P i → w'.heap[i]? = w.heap[i]? ∧ ¬ P' i
theorem Comp.below {w w' : World} {P : Nat → Prop} (h : Below w.heap.size w w') : Comp w w' P P := ⟨h.os, h.tape, h.output, h.size, fun i hi hn => ⟨h.block i hi, hn⟩⟩
theorem Comp.trans {w w1 w2 : World} {P P1 P2 : Nat → Prop} (h : Comp w w1 P P1) (k : Comp w1 w2 P1 P2) : Comp w w2 P P2 :=
  ⟨k.os.trans h.os, k.tape.trans h.tape, k.output.trans h.output, Nat.le_trans h.size k.size, fun i hi hn => by
    obtain ⟨h1, h2⟩ := h.keep i hi hn
    obtain ⟨k1, k2⟩ := k.keep i (Nat.lt_of_lt_of_le hi h.size) h2
    exact ⟨k1.trans h1, k2⟩⟩
end Go.Proofs.YtjkfondgacjpnaaGreatDoor
