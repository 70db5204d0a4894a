/- What is proved: parts of the walk and of the plain law, 1 texts in one. No condition but those each law names. -/
import Derived.Test.YtohpcfhgbgfblaaGreatDoorS42
namespace Go.Proofs.YtohpcfhgbgfblaaGreatDoor
open Go.RowKit
open Sx (Ab DW Turns Did Foot)
set_option maxRecDepth 100000
attribute [local go_sem ↓] rowOf_cell ebl1 ebl2 ebrDk ebrSk ebd6k ebm5k
attribute [local go_sem] rowOf_alloc soft_alloc rowOf_drew soft_drew rowOf_setRow soft_setRow frozen_of_soft Ext.row Ext.soft_ rOf_D rOf_S rcD_eq rcS_eq
theorem Bxs.new4' (w : World) (C1 : Array Value) (t1 : TypeId) (C2 : Array Value) (t2 : TypeId) (C3 : Array Value) (t3 : TypeId) (C4 : Array Value) (t4 : TypeId) : Bxs w [(C1, t1), (C2, t2), (C3, t3), (C4, t4)] ((((w.alloc (.cells C1 t1)).alloc (.cells C2 t2)).alloc (.cells C3 t3)).alloc (.cells C4 t4)) := Bxs.new4 w C1 t1 C2 t2 C3 t3 C4 t4
theorem legsV_i (t : Tm) (d : Dl) (n : Cl) : (legsV t d n).i = d.i ∧ (legsV t d n).h = d.h := by
  unfold legsV
  split <;> exact ⟨rfl, rfl⟩
theorem Dae.keepB {w w' : World} {D : Dm} (h : Dae w D) (hk : ∀ i, D.all i → w'.heap[i]? = w.heap[i]?) (hz : w.heap.size ≤ w'.heap.size) : Dae w' D :=
  ⟨(hk _ (.inl (.inl rfl))).trans h.row, h.sd.block (hk _ (.inl (.inr (.inl rfl)))), Nat.lt_of_lt_of_le h.sl hz, ⟨h.jd.dw.keepB fun i hx => hk i (.inr (.inr hx)), (hk _ (.inr (.inl rfl))).trans h.jd.jr, h.jd.ap⟩, h.hold, h.calm, h.bok.keepB fun i x hi => hk i (.inl (.inr (.inr hi))), h.f1, h.f2⟩
theorem Lies.row {w : World} {D : Dm} {P : List (Int × En) → Prop} {R : List (Int × List Nat)} (h : Lies w D P R) {b : Nat} (hb : ¬ D.all b) (C : Array Value) : Lies (w.setRow b C) D P R :=
  ⟨h.dae.keepB (fun i hi => setRow_other _ _ _ _ fun e => hb (e ▸ hi)) (by simp [World.setRow]), h.book, h.rows⟩
theorem Trans.row {w Z : World} {D D' : Dm} (t : Trans w D Z D') {b : Nat} (hb : w.heap.size ≤ b) (C : Array Value) : Trans w D (Z.setRow b C) D' :=
  ⟨t.os, t.tape, t.output, Nat.le_trans t.size (by simp [World.setRow]), fun i hi hn => ⟨(setRow_other _ _ _ _ (by omega)).trans (t.keep i hi hn).1, (t.keep i hi hn).2⟩, t.xb, t.bk, t.t, t.seed⟩
/-- A proposal's blocks. -/
structure PSt (w V : World) (p g : Lg) (n : Cl) (s : Hs) (d : Dl) (b N : Nat) : Prop where
  bx : Bxs w [(p.cells, 37), (g.cells, 37), (n.cells, 23), (Msg.zero.cells, 41)] V
  rs : V.heap[b]? = some (.cells s.cells 39)
  rd : ∃ t, V.heap[N]? = some (.cells d.cells t)
  lb : w.heap.size ≤ b
  lN : w.heap.size ≤ N
theorem PSt.step {w V V' : World} {p g : Lg} {n : Cl} {s : Hs} {d : Dl} {b N : Nat} (h : PSt w V p g n s d b N) (hb : Below V.heap.size V V') : PSt w V' p g n s d b N := by
  obtain ⟨t, ht⟩ := h.rd
  exact ⟨h.bx.step hb, (hb.block _ (Array.getElem?_eq_some_iff.1 h.rs).1).trans h.rs, ⟨t, (hb.block _ (Array.getElem?_eq_some_iff.1 ht).1).trans ht⟩, h.lb, h.lN⟩
theorem PSt.d {w V : World} {p g : Lg} {n : Cl} {s : Hs} {d : Dl} {b N : Nat} (h : PSt w V p g n s d b N) : rowOf V N = d.cells := by
  obtain ⟨t, ht⟩ := h.rd
  exact rowOf_of ht
/-- The deal that a proposal makes. -/
def proposeD (D : Dm) (i peer : Int) (p g : Lg) (n : Cl) : Dl := legsV D.t ⟨i, 1, p, g, sumH (secretH (D.seed ++ intI i)).l, peer⟩ n
def proposeM (d : Dl) : Msg := ⟨1, d.i, 0, d.p, d.g, d.h⟩
section
variable {w : World} {D : Dm} {n : Cl} {i peer : Int} {p g : Lg}
set_option maxHeartbeats 2000000 in
theorem propose_ok {R : List (Int × List Nat)} (hL : Lies w D (· = []) R) (hR : (secL R).length ≤ 240) (hB : Base w D) (hT : TmK D.t) (hsl : D.seed.length ≤ 64) (hi : I64 i) (hc : errD (proposeD D i peer p g n) = 0) (l1 : (p.a < D.t.least) = False) (l2 : (p.a > D.t.most) = False) : Calls Tryz.prog 17 #[.pointer (some ⟨D.xb, 0, none⟩), .int .i64 i, .int .i64 peer, .agg p.cells, .agg g.cells, .agg n.cells] w fun e w' => e = .returned (.tuple #[.agg (proposeM (proposeD D i peer p g n)).cells, .int .i64 0]) ∧ ∃ D', Lies w' D' (With [] i ⟨proposeD D i peer p g n, 1, true, secretH (D.seed ++ intI i)⟩) (R ++ [(1, putD (proposeD D i peer p g n))] ++ [(1, putS i (secretH (D.seed ++ intI i)))]) ∧ Trans w D w' D' := by
  unfold proposeD at *
  have h := hL.dae
  have H := Lib.hid h
  have HL := Lib.hid hL
  have HR := Lib.hid hR
  clear hL hR
  have HB := Lib.hid hB
  have HT := Lib.hid hT
  have HSL := Lib.hid hsl
  have HI := Lib.hid hi
  generalize hs : secretH (D.seed ++ intI i) = s at *
  generalize hd : legsV D.t ⟨i, 1, p, g, sumH s.l, peer⟩ n = d at *
  have HS := Lib.hid hs
  have HD := Lib.hid hd
  have HC := Lib.hid hc
  clear h hB hT hsl hi hs hd hc
  go_enter Tryz.func17, Tryz.ntmps17
  go_upto_region 1 with (fail)
  have bx := Bxs.new4 w p.cells 37 g.cells 37 n.cells 23 Msg.zero.cells 41
  generalize (((w.alloc (.cells p.cells 37)).alloc (.cells g.cells 37)).alloc (.cells n.cells 23)).alloc (.cells Msg.zero.cells 41) = W at bx ⊢
  have SC := secret_any (H.out.below bx.below) (HB.out.trans (Trans.below bx.below)) HSL.out HI.out
  rw [HS.out] at SC
  have SC := Lib.hid SC
  have BX := Lib.hid bx
  clear bx
  go_wp2_with fail
  refine SC.out.mono ?_
  rintro _ W2 ⟨rfl, hb⟩
  have bx := BX.out.step hb
  clear BX SC hb
  have BX := Lib.hid bx
  clear bx
  go_upto_region 2 with (fail)
  have LW := Lib.hid BX.out.below.size
  have L := Bx.made W2 Hs.zero.cells s.cells 39
  generalize (W2.alloc (.cells Hs.zero.cells 39)).setRow W2.heap.size s.cells = W3 at L ⊢
  have bx := BX.out.step L.below
  clear BX
  have rx0 := bx.row' 0 rfl
  have rx1 := bx.row' 1 rfl
  have rx2 := bx.row' 2 rfl
  have lt0 := bx.lt 0 rfl
  have lt1 := bx.lt 1 rfl
  have lt2 := bx.lt 2 rfl
  simp only [Nat.add_zero] at rx0 lt0
  have rs := L.rowOf
  have lts := (Array.getElem?_eq_some_iff.1 L.row).1
  have D3 := H.out.below bx.below
  have B3 := HB.out.trans (Trans.below bx.below)
  have rD := rowOf_of D3.row
  unfold Dm.cells at rD
  have ltx : D.xb < W3.heap.size := D3.lt (.inl rfl)
  have K1 : ∀ g : Ext W3, Calls Tryz.prog 26 #[.slice (some ⟨W2.heap.size, 0, none⟩) 32 32] g.val (Ret (.agg (sumH s.l).cells) g.val) := fun g =>
    ret_of (Blake_any (B3.tabs.keep (Nat.le_refl _) g.below) (Sl.keep (sl_in rs (h_whole s)) (Nat.le_refl _) g.below) (by decide))
  have K1 := Lib.hid K1
  have K2 : ∀ w : World, Calls Tryz.prog 45 #[.agg D.t.cells, .agg (Dl.cells ⟨i, 1, p, g, sumH s.l, peer⟩), .agg n.cells] w (Ret (.agg d.cells) w) := fun w => by
    have := ret_of (Legs_any HT.out.tm ⟨i, 1, p, g, sumH s.l, peer⟩ n w)
    rw [HD.out] at this
    exact this
  have K2 := Lib.hid K2
  have BX := Lib.hid bx
  have LS := Lib.hid L
  clear bx L D3 B3
  (refine wp_region_lay_tail 14 13 (fun N => .pointer (some ⟨N, 0, none⟩)) (.cells Dl.zero.cells 50) (by kernel_rfl) (by kernel_rfl) ?_; simp only [List.take_succ_cons, List.take_zero, List.drop_succ_cons, List.drop_zero]; (repeat (first | (refine grow_lay rfl (fun _ => rfl) (fun _ _ => (by simp [go_sem])) ?_; simp only [Act.put, List.setIfInBounds_toArray, List.set_cons_succ, List.set_cons_zero]) | (refine grow_step rfl (fun K hK => ?_); go_simp; (first | (refine hK _ ?_; clear hK K) | (apply Exists.intro; refine ⟨fun _ => ?_, hK _ ?_⟩; (first | (go_at_call 26; exact K1.out _) | (go_at_call 45; exact K2.out _)); clear hK K))))); refine (fun N w' hN lN eN ⟨g3, he⟩ => ?_); subst he; have rN := rowOf_of eN; have sN := soft_of eN; clear eN)
  have bw := Below.setRow_ g3.below hN d.cells
  have rd : rowOf (g3.val.setRow N d.cells) N = d.cells := (rowOf_setRow _ _ _ _ sN).trans (if_pos rfl)
  have sd : soft (g3.val.setRow N d.cells) N = true := (soft_setRow _ _ _ _).trans sN
  obtain ⟨td, htd⟩ := soft_spec sd
  rw [rd] at htd
  have ps : PSt w (g3.val.setRow N d.cells) p g n s d W2.heap.size N := ⟨BX.out.step bw, (bw.block _ (Array.getElem?_eq_some_iff.1 LS.out.row).1).trans LS.out.row, ⟨td, htd⟩, LW.out, Nat.le_trans LW.out (Nat.le_trans (Nat.le_of_lt (Array.getElem?_eq_some_iff.1 LS.out.row).1) hN)⟩
  have PS := Lib.hid ps
  clear rx0 rx1 rx2 lt0 lt1 lt2 rs lts rD ltx K1 K2 BX LS bw sd htd ps
  go_frame
  go_upto_region 3 with (fail)
  generalize g3.val.setRow N d.cells = V at *
  clear hN rN sN
  have C := Lib.hid (deal_is HC.out V)
  go_wp2_with fail
  refine C.out.mono ?_
  rintro _ V2 ⟨rfl, hb⟩
  have ps := PS.out.step hb
  clear PS rd C hb
  have rp := ps.bx.row' 0 rfl
  simp only [Nat.add_zero] at rp
  have rD := rowOf_of (H.out.below ps.bx.below).row
  unfold Dm.cells at rD
  have PS := Lib.hid ps
  clear ps
  go_upto_region 8 with (fail)
  go_region
  have ps := PS.out.step (Below.refl _ V2).drew
  have PS2 := Lib.hid ps
  clear rp rD PS ps l1 l2
  generalize V2.drew = V3 at *
  have RM := Lib.hid (room_ok (H.out.below PS2.out.bx.below) i HL.out.book)
  go_wp2_with fail
  refine RM.out.mono ?_
  rintro _ V4 ⟨rfl, hb⟩
  have ps := PS2.out.step hb
  clear RM hb PS2
  have PS := Lib.hid ps
  clear ps
  have rs := rowOf_of PS.out.rs
  have rd := PS.out.d
  have hdi : d.i = i := by rw [← HD.out]; exact (legsV_i _ _ _).1
  have hdh : d.h = sumH s.l := by rw [← HD.out]; exact (legsV_i _ _ _).2
  have hss : Small s.l := by rw [← HS.out]; exact sumH_small _
  have hsd : Small d.h.l := by rw [hdh]; exact sumH_small _
  have hrc : Rc.cells ⟨1, i, d, Hs.zero, 0, 0, Tv.zero⟩ = (rcD d).cells := by rw [← hdi]; rfl
  have hpm : Msg.cells ⟨1, i, 0, d.p, d.g, d.h⟩ = (proposeM d).cells := by rw [← hdi]; rfl
  have HPM := Lib.hid hpm
  have HDI := Lib.hid hdi
  have hok : dealOk d = true := by
    have := HC.out
    unfold errD at this
    cases hd : dealOk d with
    | true => rfl
    | false => rw [hd] at this; simp at this
  have hb := (Below.refl V4.heap.size V4).alloc (Nat.le_refl _) (.cells ((rcD d).list ++ (rcS i s).list).toArray 84)
  have hbw := PS.out.bx.below.trans (hb.mono PS.out.bx.below.size)
  have na : ∀ j, w.heap.size ≤ j → ¬ D.all j := fun j hj q => by have := H.out.all_lt q; omega
  have KD := keep_both (w := V4.alloc (.cells ((rcD d).list ++ (rcS i s).list).toArray 84)) (M := []) hok hsd hss hdh.symm rfl (by decide) HR.out (HL.out.low hbw) (HB.out.trans (Trans.below hbw)) (C := ((rcD d).list ++ (rcS i s).list).toArray) (by rw [hdi]) (heap_alloc_new V4 _) (na _ PS.out.bx.below.size)
  rw [hdi] at KD
  have KD := Lib.hid KD
  have HW := Lib.hid hbw
  have NA := Lib.hid na
  have ps := PS.out.step hb
  have PS5 := Lib.hid ps
  clear hb hbw na hdi hdh hss hsd hok ps hpm PS
  go_upto_region 11 with (fail)
  go_wp2_with fail
  refine KD.out.mono ?_
  rintro _ Z ⟨rfl, D', q1, q2⟩
  have bd : rowOf Z N = d.cells := by
    obtain ⟨t, ht⟩ := PS5.out.rd
    exact rowOf_of ((q2.keep _ (Array.getElem?_eq_some_iff.1 ht).1 (NA.out _ PS5.out.lN)).1.trans ht)
  have h3 := PS5.out.bx.rows 3 _ _ rfl
  have b3 : Z.heap[w.heap.size + 3]? = some (.cells Msg.zero.cells 41) := (q2.keep _ (Array.getElem?_eq_some_iff.1 h3).1 (NA.out _ (Nat.le_add_right _ _))).1.trans h3
  have n3 := (q2.keep _ (Array.getElem?_eq_some_iff.1 h3).1 (NA.out _ (Nat.le_add_right _ _))).2
  have rx3 := rowOf_of b3
  have sx3 := soft_of b3
  have Q1 := Lib.hid q1
  have Q2 := Lib.hid ((Trans.below HW.out).trans q2)
  have B3 := Lib.hid b3
  clear q1 q2 KD PS5 HW rs rd hrc h3 b3
  have hpm := HPM.out
  have hc : rowOf (World.setRow Z (w.heap.size + 1 + 1 + 1) (proposeM d).cells) (w.heap.size + 1 + 1 + 1) = (proposeM d).cells := (rowOf_setRow _ _ _ _ sx3).trans (if_pos rfl)
  have HC3 := Lib.hid hc
  clear hc
  go_wp2_with fail
  refine bodyPost_ret (results_row1 (t := 41) rfl Tryz.underlying41 rfl (by kernel_rfl) _ _ (w.heap.size + 1 + 1 + 1) rfl HC3.out (m_size _)) rfl ?_
  exact ⟨rfl, D', Q1.out.row n3 _, Q2.out.row (Nat.le_add_right _ _) _⟩
set_option maxHeartbeats 2000000 in
theorem propose_bad {k : Int} (h : Dae w D) (hB : Base w D) (hT : TmK D.t) (hsl : D.seed.length ≤ 64) (hi : I64 i) (hc : errD (proposeD D i peer p g n) = k) (k0 : (k == 0) = false) : Calls Tryz.prog 17 #[.pointer (some ⟨D.xb, 0, none⟩), .int .i64 i, .int .i64 peer, .agg p.cells, .agg g.cells, .agg n.cells] w fun e w' => e = .returned (.tuple #[.agg Msg.zero.cells, .int .i64 k]) ∧ Below w.heap.size w w' := by
  unfold proposeD at *
  have H := Lib.hid h
  have HB := Lib.hid hB
  have HT := Lib.hid hT
  have HSL := Lib.hid hsl
  have HI := Lib.hid hi
  generalize hs : secretH (D.seed ++ intI i) = s at *
  generalize hd : legsV D.t ⟨i, 1, p, g, sumH s.l, peer⟩ n = d at *
  have HS := Lib.hid hs
  have HD := Lib.hid hd
  have HC := Lib.hid hc
  clear h hB hT hsl hi hs hd hc
  go_enter Tryz.func17, Tryz.ntmps17
  go_upto_region 1 with (fail)
  have bx := Bxs.new4 w p.cells 37 g.cells 37 n.cells 23 Msg.zero.cells 41
  generalize (((w.alloc (.cells p.cells 37)).alloc (.cells g.cells 37)).alloc (.cells n.cells 23)).alloc (.cells Msg.zero.cells 41) = W at bx ⊢
  have SC := secret_any (H.out.below bx.below) (HB.out.trans (Trans.below bx.below)) HSL.out HI.out
  rw [HS.out] at SC
  have SC := Lib.hid SC
  have BX := Lib.hid bx
  clear bx
  go_wp2_with fail
  refine SC.out.mono ?_
  rintro _ W2 ⟨rfl, hb⟩
  have bx := BX.out.step hb
  clear BX SC hb
  have BX := Lib.hid bx
  clear bx
  go_upto_region 2 with (fail)
  have LW := Lib.hid BX.out.below.size
  have L := Bx.made W2 Hs.zero.cells s.cells 39
  generalize (W2.alloc (.cells Hs.zero.cells 39)).setRow W2.heap.size s.cells = W3 at L ⊢
  have bx := BX.out.step L.below
  clear BX
  have rx0 := bx.row' 0 rfl
  have rx1 := bx.row' 1 rfl
  have rx2 := bx.row' 2 rfl
  have lt0 := bx.lt 0 rfl
  have lt1 := bx.lt 1 rfl
  have lt2 := bx.lt 2 rfl
  simp only [Nat.add_zero] at rx0 lt0
  have rs := L.rowOf
  have lts := (Array.getElem?_eq_some_iff.1 L.row).1
  have D3 := H.out.below bx.below
  have B3 := HB.out.trans (Trans.below bx.below)
  have rD := rowOf_of D3.row
  unfold Dm.cells at rD
  have ltx : D.xb < W3.heap.size := D3.lt (.inl rfl)
  have K1 : ∀ g : Ext W3, Calls Tryz.prog 26 #[.slice (some ⟨W2.heap.size, 0, none⟩) 32 32] g.val (Ret (.agg (sumH s.l).cells) g.val) := fun g =>
    ret_of (Blake_any (B3.tabs.keep (Nat.le_refl _) g.below) (Sl.keep (sl_in rs (h_whole s)) (Nat.le_refl _) g.below) (by decide))
  have K1 := Lib.hid K1
  have K2 : ∀ w : World, Calls Tryz.prog 45 #[.agg D.t.cells, .agg (Dl.cells ⟨i, 1, p, g, sumH s.l, peer⟩), .agg n.cells] w (Ret (.agg d.cells) w) := fun w => by
    have := ret_of (Legs_any HT.out.tm ⟨i, 1, p, g, sumH s.l, peer⟩ n w)
    rw [HD.out] at this
    exact this
  have K2 := Lib.hid K2
  have BX := Lib.hid bx
  have LS := Lib.hid L
  clear bx L D3 B3
  (refine wp_region_lay_tail 14 13 (fun N => .pointer (some ⟨N, 0, none⟩)) (.cells Dl.zero.cells 50) (by kernel_rfl) (by kernel_rfl) ?_; simp only [List.take_succ_cons, List.take_zero, List.drop_succ_cons, List.drop_zero]; (repeat (first | (refine grow_lay rfl (fun _ => rfl) (fun _ _ => (by simp [go_sem])) ?_; simp only [Act.put, List.setIfInBounds_toArray, List.set_cons_succ, List.set_cons_zero]) | (refine grow_step rfl (fun K hK => ?_); go_simp; (first | (refine hK _ ?_; clear hK K) | (apply Exists.intro; refine ⟨fun _ => ?_, hK _ ?_⟩; (first | (go_at_call 26; exact K1.out _) | (go_at_call 45; exact K2.out _)); clear hK K))))); refine (fun N w' hN lN eN ⟨g3, he⟩ => ?_); subst he; have rN := rowOf_of eN; have sN := soft_of eN; clear eN)
  have bw := Below.setRow_ g3.below hN d.cells
  have rd : rowOf (g3.val.setRow N d.cells) N = d.cells := (rowOf_setRow _ _ _ _ sN).trans (if_pos rfl)
  have sd : soft (g3.val.setRow N d.cells) N = true := (soft_setRow _ _ _ _).trans sN
  obtain ⟨td, htd⟩ := soft_spec sd
  rw [rd] at htd
  have ps : PSt w (g3.val.setRow N d.cells) p g n s d W2.heap.size N := ⟨BX.out.step bw, (bw.block _ (Array.getElem?_eq_some_iff.1 LS.out.row).1).trans LS.out.row, ⟨td, htd⟩, LW.out, Nat.le_trans LW.out (Nat.le_trans (Nat.le_of_lt (Array.getElem?_eq_some_iff.1 LS.out.row).1) hN)⟩
  have PS := Lib.hid ps
  clear rx0 rx1 rx2 lt0 lt1 lt2 rs lts rD ltx K1 K2 BX LS bw sd htd ps
  go_frame
  go_upto_region 3 with (fail)
  generalize g3.val.setRow N d.cells = V at *
  clear hN rN sN
  have C := Lib.hid (deal_is HC.out V)
  go_wp2_with fail
  refine C.out.mono ?_
  rintro _ V2 ⟨rfl, hb⟩
  have ps := PS.out.step hb
  clear PS rd C hb
  have rp := ps.bx.row' 0 rfl
  simp only [Nat.add_zero] at rp
  have rD := rowOf_of (H.out.below ps.bx.below).row
  unfold Dm.cells at rD
  have PS := Lib.hid ps
  clear ps
  have rx3 := PS.out.bx.row' 3 rfl
  have sx3 := PS.out.bx.soft' 3 rfl
  have BB := Lib.hid PS.out.bx.below
  have hc : rowOf (World.setRow V2 (w.heap.size + 1 + 1 + 1) Msg.zero.cells) (w.heap.size + 1 + 1 + 1) = Msg.zero.cells := (rowOf_setRow _ _ _ _ sx3).trans (if_pos rfl)
  have HC3 := Lib.hid hc
  clear hc
  go_wp2
  refine bodyPost_ret (results_row1 (t := 41) rfl Tryz.underlying41 rfl (by kernel_rfl) _ _ (w.heap.size + 1 + 1 + 1) rfl HC3.out (m_size _)) rfl ?_
  exact ⟨rfl, Below.setRow_ BB.out (Nat.le_add_right _ _) _⟩
set_option maxHeartbeats 2000000 in
theorem propose_low (h : Dae w D) (hB : Base w D) (hT : TmK D.t) (hsl : D.seed.length ≤ 64) (hi : I64 i) (hc : errD (proposeD D i peer p g n) = 0) (l1 : (p.a < D.t.least) = True) : Calls Tryz.prog 17 #[.pointer (some ⟨D.xb, 0, none⟩), .int .i64 i, .int .i64 peer, .agg p.cells, .agg g.cells, .agg n.cells] w fun e w' => e = .returned (.tuple #[.agg Msg.zero.cells, .int .i64 22]) ∧ Below w.heap.size w w' := by
  unfold proposeD at *
  have H := Lib.hid h
  have HB := Lib.hid hB
  have HT := Lib.hid hT
  have HSL := Lib.hid hsl
  have HI := Lib.hid hi
  generalize hs : secretH (D.seed ++ intI i) = s at *
  generalize hd : legsV D.t ⟨i, 1, p, g, sumH s.l, peer⟩ n = d at *
  have HS := Lib.hid hs
  have HD := Lib.hid hd
  have HC := Lib.hid hc
  clear h hB hT hsl hi hs hd hc
  go_enter Tryz.func17, Tryz.ntmps17
  go_upto_region 1 with (fail)
  have bx := Bxs.new4 w p.cells 37 g.cells 37 n.cells 23 Msg.zero.cells 41
  generalize (((w.alloc (.cells p.cells 37)).alloc (.cells g.cells 37)).alloc (.cells n.cells 23)).alloc (.cells Msg.zero.cells 41) = W at bx ⊢
  have SC := secret_any (H.out.below bx.below) (HB.out.trans (Trans.below bx.below)) HSL.out HI.out
  rw [HS.out] at SC
  have SC := Lib.hid SC
  have BX := Lib.hid bx
  clear bx
  go_wp2_with fail
  refine SC.out.mono ?_
  rintro _ W2 ⟨rfl, hb⟩
  have bx := BX.out.step hb
  clear BX SC hb
  have BX := Lib.hid bx
  clear bx
  go_upto_region 2 with (fail)
  have LW := Lib.hid BX.out.below.size
  have L := Bx.made W2 Hs.zero.cells s.cells 39
  generalize (W2.alloc (.cells Hs.zero.cells 39)).setRow W2.heap.size s.cells = W3 at L ⊢
  have bx := BX.out.step L.below
  clear BX
  have rx0 := bx.row' 0 rfl
  have rx1 := bx.row' 1 rfl
  have rx2 := bx.row' 2 rfl
  have lt0 := bx.lt 0 rfl
  have lt1 := bx.lt 1 rfl
  have lt2 := bx.lt 2 rfl
  simp only [Nat.add_zero] at rx0 lt0
  have rs := L.rowOf
  have lts := (Array.getElem?_eq_some_iff.1 L.row).1
  have D3 := H.out.below bx.below
  have B3 := HB.out.trans (Trans.below bx.below)
  have rD := rowOf_of D3.row
  unfold Dm.cells at rD
  have ltx : D.xb < W3.heap.size := D3.lt (.inl rfl)
  have K1 : ∀ g : Ext W3, Calls Tryz.prog 26 #[.slice (some ⟨W2.heap.size, 0, none⟩) 32 32] g.val (Ret (.agg (sumH s.l).cells) g.val) := fun g =>
    ret_of (Blake_any (B3.tabs.keep (Nat.le_refl _) g.below) (Sl.keep (sl_in rs (h_whole s)) (Nat.le_refl _) g.below) (by decide))
  have K1 := Lib.hid K1
  have K2 : ∀ w : World, Calls Tryz.prog 45 #[.agg D.t.cells, .agg (Dl.cells ⟨i, 1, p, g, sumH s.l, peer⟩), .agg n.cells] w (Ret (.agg d.cells) w) := fun w => by
    have := ret_of (Legs_any HT.out.tm ⟨i, 1, p, g, sumH s.l, peer⟩ n w)
    rw [HD.out] at this
    exact this
  have K2 := Lib.hid K2
  have BX := Lib.hid bx
  have LS := Lib.hid L
  clear bx L D3 B3
  (refine wp_region_lay_tail 14 13 (fun N => .pointer (some ⟨N, 0, none⟩)) (.cells Dl.zero.cells 50) (by kernel_rfl) (by kernel_rfl) ?_; simp only [List.take_succ_cons, List.take_zero, List.drop_succ_cons, List.drop_zero]; (repeat (first | (refine grow_lay rfl (fun _ => rfl) (fun _ _ => (by simp [go_sem])) ?_; simp only [Act.put, List.setIfInBounds_toArray, List.set_cons_succ, List.set_cons_zero]) | (refine grow_step rfl (fun K hK => ?_); go_simp; (first | (refine hK _ ?_; clear hK K) | (apply Exists.intro; refine ⟨fun _ => ?_, hK _ ?_⟩; (first | (go_at_call 26; exact K1.out _) | (go_at_call 45; exact K2.out _)); clear hK K))))); refine (fun N w' hN lN eN ⟨g3, he⟩ => ?_); subst he; have rN := rowOf_of eN; have sN := soft_of eN; clear eN)
  have bw := Below.setRow_ g3.below hN d.cells
  have rd : rowOf (g3.val.setRow N d.cells) N = d.cells := (rowOf_setRow _ _ _ _ sN).trans (if_pos rfl)
  have sd : soft (g3.val.setRow N d.cells) N = true := (soft_setRow _ _ _ _).trans sN
  obtain ⟨td, htd⟩ := soft_spec sd
  rw [rd] at htd
  have ps : PSt w (g3.val.setRow N d.cells) p g n s d W2.heap.size N := ⟨BX.out.step bw, (bw.block _ (Array.getElem?_eq_some_iff.1 LS.out.row).1).trans LS.out.row, ⟨td, htd⟩, LW.out, Nat.le_trans LW.out (Nat.le_trans (Nat.le_of_lt (Array.getElem?_eq_some_iff.1 LS.out.row).1) hN)⟩
  have PS := Lib.hid ps
  clear rx0 rx1 rx2 lt0 lt1 lt2 rs lts rD ltx K1 K2 BX LS bw sd htd ps
  go_frame
  go_upto_region 3 with (fail)
  generalize g3.val.setRow N d.cells = V at *
  clear hN rN sN
  have C := Lib.hid (deal_is HC.out V)
  go_wp2_with fail
  refine C.out.mono ?_
  rintro _ V2 ⟨rfl, hb⟩
  have ps := PS.out.step hb
  clear PS rd C hb
  have rp := ps.bx.row' 0 rfl
  simp only [Nat.add_zero] at rp
  have rD := rowOf_of (H.out.below ps.bx.below).row
  unfold Dm.cells at rD
  have PS := Lib.hid ps
  clear ps
  go_upto_region 8 with (fail)
  go_region
  have ps := PS.out.step (Below.refl _ V2).drew
  have PS2 := Lib.hid ps
  clear rp rD PS ps l1
  generalize V2.drew = V3 at *
  have rx3 := PS2.out.bx.row' 3 rfl
  have sx3 := PS2.out.bx.soft' 3 rfl
  have BB := Lib.hid PS2.out.bx.below
  have hc : rowOf (World.setRow V3 (w.heap.size + 1 + 1 + 1) Msg.zero.cells) (w.heap.size + 1 + 1 + 1) = Msg.zero.cells := (rowOf_setRow _ _ _ _ sx3).trans (if_pos rfl)
  have HC3 := Lib.hid hc
  clear hc
  go_wp2
  refine bodyPost_ret (results_row1 (t := 41) rfl Tryz.underlying41 rfl (by kernel_rfl) _ _ (w.heap.size + 1 + 1 + 1) rfl HC3.out (m_size _)) rfl ?_
  exact ⟨rfl, Below.setRow_ BB.out (Nat.le_add_right _ _) _⟩
set_option maxHeartbeats 2000000 in
theorem propose_twice {q : En} (h : Dae w D) (hB : Base w D) (hT : TmK D.t) (hsl : D.seed.length ≤ 64) (hi : I64 i) (hc : errD (proposeD D i peer p g n) = 0) (l1 : (p.a < D.t.least) = False) (l2 : (p.a > D.t.most) = False) (hq : Hid (getA D.M i = some q)) : Calls Tryz.prog 17 #[.pointer (some ⟨D.xb, 0, none⟩), .int .i64 i, .int .i64 peer, .agg p.cells, .agg g.cells, .agg n.cells] w fun e w' => e = .returned (.tuple #[.agg Msg.zero.cells, .int .i64 13]) ∧ Below w.heap.size w w' := by
  unfold proposeD at *
  have H := Lib.hid h
  have HB := Lib.hid hB
  have HT := Lib.hid hT
  have HSL := Lib.hid hsl
  have HI := Lib.hid hi
  generalize hs : secretH (D.seed ++ intI i) = s at *
  generalize hd : legsV D.t ⟨i, 1, p, g, sumH s.l, peer⟩ n = d at *
  have HS := Lib.hid hs
  have HD := Lib.hid hd
  have HC := Lib.hid hc
  clear h hB hT hsl hi hs hd hc
  go_enter Tryz.func17, Tryz.ntmps17
  go_upto_region 1 with (fail)
  have bx := Bxs.new4 w p.cells 37 g.cells 37 n.cells 23 Msg.zero.cells 41
  generalize (((w.alloc (.cells p.cells 37)).alloc (.cells g.cells 37)).alloc (.cells n.cells 23)).alloc (.cells Msg.zero.cells 41) = W at bx ⊢
  have SC := secret_any (H.out.below bx.below) (HB.out.trans (Trans.below bx.below)) HSL.out HI.out
  rw [HS.out] at SC
  have SC := Lib.hid SC
  have BX := Lib.hid bx
  clear bx
  go_wp2_with fail
  refine SC.out.mono ?_
  rintro _ W2 ⟨rfl, hb⟩
  have bx := BX.out.step hb
  clear BX SC hb
  have BX := Lib.hid bx
  clear bx
  go_upto_region 2 with (fail)
  have LW := Lib.hid BX.out.below.size
  have L := Bx.made W2 Hs.zero.cells s.cells 39
  generalize (W2.alloc (.cells Hs.zero.cells 39)).setRow W2.heap.size s.cells = W3 at L ⊢
  have bx := BX.out.step L.below
  clear BX
  have rx0 := bx.row' 0 rfl
  have rx1 := bx.row' 1 rfl
  have rx2 := bx.row' 2 rfl
  have lt0 := bx.lt 0 rfl
  have lt1 := bx.lt 1 rfl
  have lt2 := bx.lt 2 rfl
  simp only [Nat.add_zero] at rx0 lt0
  have rs := L.rowOf
  have lts := (Array.getElem?_eq_some_iff.1 L.row).1
  have D3 := H.out.below bx.below
  have B3 := HB.out.trans (Trans.below bx.below)
  have rD := rowOf_of D3.row
  unfold Dm.cells at rD
  have ltx : D.xb < W3.heap.size := D3.lt (.inl rfl)
  have K1 : ∀ g : Ext W3, Calls Tryz.prog 26 #[.slice (some ⟨W2.heap.size, 0, none⟩) 32 32] g.val (Ret (.agg (sumH s.l).cells) g.val) := fun g =>
    ret_of (Blake_any (B3.tabs.keep (Nat.le_refl _) g.below) (Sl.keep (sl_in rs (h_whole s)) (Nat.le_refl _) g.below) (by decide))
  have K1 := Lib.hid K1
  have K2 : ∀ w : World, Calls Tryz.prog 45 #[.agg D.t.cells, .agg (Dl.cells ⟨i, 1, p, g, sumH s.l, peer⟩), .agg n.cells] w (Ret (.agg d.cells) w) := fun w => by
    have := ret_of (Legs_any HT.out.tm ⟨i, 1, p, g, sumH s.l, peer⟩ n w)
    rw [HD.out] at this
    exact this
  have K2 := Lib.hid K2
  have BX := Lib.hid bx
  have LS := Lib.hid L
  clear bx L D3 B3
  (refine wp_region_lay_tail 14 13 (fun N => .pointer (some ⟨N, 0, none⟩)) (.cells Dl.zero.cells 50) (by kernel_rfl) (by kernel_rfl) ?_; simp only [List.take_succ_cons, List.take_zero, List.drop_succ_cons, List.drop_zero]; (repeat (first | (refine grow_lay rfl (fun _ => rfl) (fun _ _ => (by simp [go_sem])) ?_; simp only [Act.put, List.setIfInBounds_toArray, List.set_cons_succ, List.set_cons_zero]) | (refine grow_step rfl (fun K hK => ?_); go_simp; (first | (refine hK _ ?_; clear hK K) | (apply Exists.intro; refine ⟨fun _ => ?_, hK _ ?_⟩; (first | (go_at_call 26; exact K1.out _) | (go_at_call 45; exact K2.out _)); clear hK K))))); refine (fun N w' hN lN eN ⟨g3, he⟩ => ?_); subst he; have rN := rowOf_of eN; have sN := soft_of eN; clear eN)
  have bw := Below.setRow_ g3.below hN d.cells
  have rd : rowOf (g3.val.setRow N d.cells) N = d.cells := (rowOf_setRow _ _ _ _ sN).trans (if_pos rfl)
  have sd : soft (g3.val.setRow N d.cells) N = true := (soft_setRow _ _ _ _).trans sN
  obtain ⟨td, htd⟩ := soft_spec sd
  rw [rd] at htd
  have ps : PSt w (g3.val.setRow N d.cells) p g n s d W2.heap.size N := ⟨BX.out.step bw, (bw.block _ (Array.getElem?_eq_some_iff.1 LS.out.row).1).trans LS.out.row, ⟨td, htd⟩, LW.out, Nat.le_trans LW.out (Nat.le_trans (Nat.le_of_lt (Array.getElem?_eq_some_iff.1 LS.out.row).1) hN)⟩
  have PS := Lib.hid ps
  clear rx0 rx1 rx2 lt0 lt1 lt2 rs lts rD ltx K1 K2 BX LS bw sd htd ps
  go_frame
  go_upto_region 3 with (fail)
  generalize g3.val.setRow N d.cells = V at *
  clear hN rN sN
  have C := Lib.hid (deal_is HC.out V)
  go_wp2_with fail
  refine C.out.mono ?_
  rintro _ V2 ⟨rfl, hb⟩
  have ps := PS.out.step hb
  clear PS rd C hb
  have rp := ps.bx.row' 0 rfl
  simp only [Nat.add_zero] at rp
  have rD := rowOf_of (H.out.below ps.bx.below).row
  unfold Dm.cells at rD
  have PS := Lib.hid ps
  clear ps
  go_upto_region 8 with (fail)
  go_region
  have ps := PS.out.step (Below.refl _ V2).drew
  have PS2 := Lib.hid ps
  clear rp rD PS ps l1 l2
  generalize V2.drew = V3 at *
  have RM := Lib.hid (room_twice (H.out.below PS2.out.bx.below) hq.out)
  go_wp2_with fail
  refine RM.out.mono ?_
  rintro _ V4 ⟨rfl, hb⟩
  have ps := PS2.out.step hb
  clear RM hb PS2
  have PS := Lib.hid ps
  clear ps
  have rx3 := PS.out.bx.row' 3 rfl
  have sx3 := PS.out.bx.soft' 3 rfl
  have BB := Lib.hid PS.out.bx.below
  have hc : rowOf (World.setRow V4 (w.heap.size + 1 + 1 + 1) Msg.zero.cells) (w.heap.size + 1 + 1 + 1) = Msg.zero.cells := (rowOf_setRow _ _ _ _ sx3).trans (if_pos rfl)
  have HC3 := Lib.hid hc
  clear hc
  go_wp2
  refine bodyPost_ret (results_row1 (t := 41) rfl Tryz.underlying41 rfl (by kernel_rfl) _ _ (w.heap.size + 1 + 1 + 1) rfl HC3.out (m_size _)) rfl ?_
  exact ⟨rfl, Below.setRow_ BB.out (Nat.le_add_right _ _) _⟩
end
end Go.Proofs.YtohpcfhgbgfblaaGreatDoor
