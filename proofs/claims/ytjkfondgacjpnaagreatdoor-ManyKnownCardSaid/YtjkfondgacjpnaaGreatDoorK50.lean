/- What is proved: parts of the walk and of the plain law, 1 texts in one. No condition but those each law names. -/
import Derived.Test.YtjkfondgacjpnaaGreatDoorK49
namespace Go.Proofs.YtjkfondgacjpnaaGreatDoor
open Go.RowKit
open Sx (Ab DW Turns Did Foot MapIs DiskAt FootD z128)
set_option maxRecDepth 100000
attribute [local go_sem ↓] rowOf_cell
attribute [local go_sem] rowOf_alloc soft_alloc rowOf_drew soft_drew rowOf_setRow soft_setRow rowOf_setCell soft_setCell frozen_of_soft rowOf_map soft_map Sx.run_mk Ext.row Ext.soft_
attribute [local go_sem ↓] ebT1 ebT2
attribute [local go_sem] tmOf_mk tm0_lit
attribute [local go_sem high] make64
def lgC : Lg := ⟨1, 215, 0⟩
theorem Duo.third {S0 S : MS} {W : World} {a b j : Nat} {D1 D2 D : Dm} {n : Nd} {tb : Nat} {tl : List (Int × Value)} {L : List (Int × Int × List Nat)} (d : Duo S0 S W a b D1 D2 tb tl L) (h1 : j ≠ a) (h2 : j ≠ b) (is : Live S0 j n D) : Live S j n D := by
  obtain ⟨_, _, _, _, _, e6, e7⟩ := d.eqs
  exact ⟨by rw [e7]; exact is.nd, (d.dk j h1 h2).trans is.ds, by rw [e6]; exact is.at_, is.xv⟩
theorem k_err5 (h : Hs) : errD (legsV T26 ⟨5, 1, lgC, lgG, h, 3⟩ ⟨100, 200, 0⟩) = 0 := by kernel_rfl
theorem k_err5' (h : Hs) : errD (legsV T26 ⟨5, 1, lgP, lgG, h, 3⟩ ⟨100, 200, 0⟩) = 0 := by kernel_rfl
theorem k_err9 (h : Hs) : errD (legsV T26 ⟨9, 1, lgP, lgG, h, 2⟩ ⟨100, 200, 0⟩) = 0 := by kernel_rfl
theorem k_tak5 (h : Hs) : takesE T26 (heardD (proposeM (legsV T26 ⟨5, 1, lgC, lgG, h, 3⟩ ⟨100, 200, 0⟩)) 2) ⟨100, 200, 0⟩ 1000 = 22 := by kernel_rfl
structure Fr0 (S S' : MS) : Prop where
  wb : S'.wb = S.wb
  u : S'.u = S.u
  nodes : S'.nodes = S.nodes
  now : S'.now = S.now
structure Bxl (U : World) (b1 b2 : Nat) : Prop where
  r1 : U.heap[b1]? = some (.cells lgP.cells 26)
  r2 : U.heap[b2]? = some (.cells lgG.cells 26)
theorem Bxl.keep {U W : World} {b1 b2 : Nat} (h : Bxl U b1 b2) (hb : Below U.heap.size U W) : Bxl W b1 b2 :=
  ⟨(hb.block _ (Array.getElem?_eq_some_iff.1 h.r1).1).trans h.r1, (hb.block _ (Array.getElem?_eq_some_iff.1 h.r2).1).trans h.r2⟩
theorem Bxl.new (V : World) : Bxl ((((V.alloc (.cells Lg.zero.cells 26)).alloc (.cells Lg.zero.cells 26)).setRow V.heap.size lgP.cells).setRow (V.heap.size + 1) lgG.cells) V.heap.size (V.heap.size + 1) := by
  have b := Bxs.new2 V Lg.zero.cells 26 Lg.zero.cells 26
  have h0 := b.rows 0 _ _ rfl
  have h1 := b.rows 1 _ _ rfl
  refine ⟨?_, ?_⟩
  · rw [setRow_other _ _ _ _ (by omega)]
    exact setRow_heap _ _ _ _ _ _ h0
  · exact setRow_heap _ _ Lg.zero.cells _ _ _ ((setRow_other _ _ _ _ (by omega)).trans h1)
set_option maxHeartbeats 4000000 in
theorem Known_any {w : World} (hF : Forms w) (hT : Tabs w) : Calls Tryz.prog 4 #[] w fun e w' => e = .returned (.bool true) ∧ Below w.heap.size w w' := by
  have HF := Lib.hid hF
  have HT := Lib.hid hT
  clear hF hT
  go_enter Tryz.func4, Tryz.ntmps4
  go_upto_region 2 with (go_at_call 6; refine (legs_any w).mono ?_; rintro _ V ⟨rfl, hb⟩; have HB := Lib.hid hb; clear hb)
  have bV : Below V.heap.size V ((((V.alloc (.cells Lg.zero.cells 26)).alloc (.cells Lg.zero.cells 26)).setRow V.heap.size lgP.cells).setRow (V.heap.size + 1) lgG.cells) := Below.setRow_ (Below.setRow_ (Bxs.new2 V Lg.zero.cells 26 Lg.zero.cells 26).below (Nat.le_refl _) lgP.cells) (Nat.le_succ _) lgG.cells
  have bL := Bxl.new V
  generalize (((V.alloc (.cells Lg.zero.cells 26)).alloc (.cells Lg.zero.cells 26)).setRow V.heap.size lgP.cells).setRow (V.heap.size + 1) lgG.cells = U at bV bL ⊢
  have bU := HB.out.trans (bV.mono HB.out.size)
  generalize V.heap.size = b1 at bL ⊢
  have HU := Lib.hid (And.intro bU bL)
  clear bV bU bL HB
  go_wp2_with fail
  refine (made_any (n := 3) ⟨by decide, by decide⟩).mono ?_
  rintro _ W ⟨S, rfl, st⟩
  have hFU := HF.out.keep (Nat.le_refl _) HU.out.1
  have hTU := HT.out.keep (Nat.le_refl _) HU.out.1
  have RB : ∀ (W' : World) (S' : MS), MW W' S' → S'.u = S.u → rowOf W' b1 = lgP.cells ∧ rowOf W' (b1 + 1) = lgG.cells := fun W' S' m e => by
    have lo := m.low
    rw [e] at lo
    have q := (HU.out.2.keep st.u).keep lo
    exact ⟨rowOf_of q.r1, rowOf_of q.r2⟩
  obtain ⟨rb1, rb2⟩ := RB _ _ st.mw rfl
  obtain ⟨n1, D1, i1, m1, x1, x2⟩ := st.fr 1 (by decide) (by decide)
  obtain ⟨n3, D3, i3, _, _, _⟩ := st.fr 3 (by decide) (by decide)
  have a0 : S.at_ 0 = .pointer none := by unfold MS.at_; rw [st.at_ 0 (.inl (by decide))]; rfl
  have a4 : S.at_ 4 = .pointer none := by unfold MS.at_; rw [st.at_ 4 (.inr (by decide))]; rfl
  have a1 : S.at_ 1 = ptA n1.b := MS.at_some i1.at_
  have N1 := Lib.hid (show NodeIs S 1 n1 D1 [] ∧ D1.M = [] ∧ D1.R = [] ∧ D1.cal = true from ⟨i1, m1, x1, x2⟩)
  have A := Lib.hid (And.intro a0 (And.intro a4 (And.intro a1 (And.intro i1.live (And.intro m1 i3.live)))))
  have RBH := Lib.hid RB
  have ST := Lib.hid st
  have HFU := Lib.hid (And.intro hFU hTU)
  clear st a0 a4 a1 i1 m1 i3 x1 x2 RB hFU hTU
  go_wp2_with fail
  refine (Propose_arg ST.out.mw (.inr (.inr ⟨⟨n1.b, n1.b, A.out.2.2.1, A.out.2.2.1⟩, rfl⟩))).mono ?_
  rintro _ W1 ⟨rfl, g1⟩
  clear rb1 rb2
  have G1 := Lib.hid g1
  clear g1
  obtain ⟨rb1, rb2⟩ := RBH.out _ _ G1.out.mw rfl
  go_wp2_with fail
  refine (Propose_arg G1.out.mw (.inl A.out.1)).mono ?_
  rintro _ W2 ⟨rfl, g2⟩
  clear rb1 rb2
  have G2 := Lib.hid (G1.out.trans g2)
  clear g2
  obtain ⟨rb1, rb2⟩ := RBH.out _ _ G2.out.mw rfl
  go_wp2_with fail
  refine (Propose_arg G2.out.mw (.inr (.inl ⟨⟨n1.b, A.out.2.2.1⟩, A.out.2.1⟩))).mono ?_
  rintro _ W3 ⟨rfl, g3⟩
  clear rb1 rb2
  have G3 := Lib.hid (G2.out.trans g3)
  clear g3
  obtain ⟨rb1, rb2⟩ := RBH.out _ _ G3.out.mw rfl
  go_wp2_with fail
  refine (Again_none (a := 1) G3.out.mw A.out.2.2.2.1 (by rw [A.out.2.2.2.2.1]; rfl)).mono ?_
  rintro _ W4 ⟨rfl, g4⟩
  clear rb1 rb2
  have G4 := Lib.hid (G3.out.trans g4)
  clear g4
  obtain ⟨rb1, rb2⟩ := RBH.out _ _ G4.out.mw rfl
  go_wp2_with fail
  refine (Again_arg G4.out.mw A.out.2.1).mono ?_
  rintro _ W5 ⟨rfl, rfl⟩
  go_wp2_with fail
  refine (Deliver_none G4.out.mw ST.out.nbx ST.out.L A.out.1).mono ?_
  rintro _ W6 ⟨rfl, g6⟩
  clear rb1 rb2
  have G6 := Lib.hid (G4.out.trans g6)
  clear g6
  obtain ⟨rb1, rb2⟩ := RBH.out _ _ G6.out.mw rfl
  go_wp2_with fail
  refine (Turn_no (S := S) 3 1 (.inl ⟨eq_false (by decide), eq_true (by decide)⟩)).mono ?_
  rintro _ W7 ⟨rfl, rfl⟩
  go_wp2_with fail
  refine (Turn_no (S := S) 0 (-1) (.inr ⟨eq_false (by decide), eq_false (by decide), eq_true (by decide)⟩)).mono ?_
  rintro _ W8 ⟨rfl, rfl⟩
  go_wp2_with fail
  refine (Arm_no G6.out.mw A.out.1).mono ?_
  rintro _ W9 ⟨rfl, rfl⟩
  go_wp2_with fail
  refine (Restart_arg G6.out.mw A.out.2.1).mono ?_
  rintro _ W10 ⟨rfl, rfl⟩
  go_wp2_with fail
  refine (Off_nil G6.out.mw A.out.1).mono ?_
  rintro _ W11 ⟨rfl, rfl⟩
  go_wp2_with fail
  refine (Off_nil G6.out.mw A.out.2.1).mono ?_
  rintro _ W12 ⟨rfl, rfl⟩
  go_wp2_with fail
  refine (Off_live (a := 3) G6.out.mw A.out.2.2.2.2.2).mono ?_
  rintro _ W13 ⟨rfl, rfl⟩
  go_upto_region 7 with (fail)
  have by0 := Bx.made W13 Lg.zero.cells lgP.cells 26
  have sy := by0.soft
  have ry := by0.rowOf
  have by1 := by0.set1' 1 (.int .i64 215)
  generalize (W13.alloc (.cells Lg.zero.cells 26)).setRow W13.heap.size lgP.cells = Y at by0 sy ry by1 ⊢
  go_upto_region 8 with (fail)
  generalize Y.setCell ⟨W13.heap.size, 1, none⟩ (.int .i64 215) = Y2 at by1 ⊢
  have ry2 : rowOf Y2 W13.heap.size = lgC.cells := by1.rowOf
  generalize W13.heap.size = cb at ry2 ⊢
  have G7 := Lib.hid (G6.out.trans (G6.out.mw.below by1.below))
  clear by0 sy ry by1 rb1 rb2
  obtain ⟨rb1, rb2⟩ := RBH.out _ _ G7.out.mw rfl
  obtain ⟨n2, n3', E2, E3, tb, c, d, i1, i2, hs, h0⟩ := ST.out.ctx HFU.out.1 HFU.out.2 (a := 2) (b := 3) (by decide) ⟨by decide, by decide⟩ ⟨by decide, by decide⟩
  have d1 : Duo S S Y2 2 3 E2 E3 tb [] [] := { d with mw := G7.out.mw }
  have P := Lib.hid (st_propose (i := 5) (p := lgC) (g := lgG) c d1 i1 hs ⟨by decide, by decide⟩ (by decide) (k_err5 _) (eq_false (by decide)) (eq_false (by decide)))
  have ke : errD (dealP E2 3 5 lgC lgG) = 0 := k_err5 _
  have ke2 : errD (dealP E2 3 5 lgP lgG) = 0 := k_err5' _
  have kt : takesE T26 (heardD (proposeM (dealP E2 3 5 lgC lgG)) 2) ⟨100, 200, 0⟩ 1000 = 22 := k_tak5 _
  have ksm : Small (dealP E2 3 5 lgC lgG).h.l := by rw [(dealP_ih E2 3 5 lgC lgG).2]; exact sumH_small _
  have ki : (dealP E2 3 5 lgC lgG).i = 5 := (dealP_ih E2 3 5 lgC lgG).1
  have kr : (dealP E2 3 5 lgC lgG).r = 1 ∧ (dealP E2 3 5 lgC lgG).q = 3 := ⟨rfl, rfl⟩
  generalize dealP E2 3 5 lgC lgG = dd at *
  have KK := Lib.hid (And.intro ke (And.intro ke2 (And.intro kt (And.intro ksm (And.intro ki (And.intro kr hs))))))
  have C := Lib.hid c
  have I2 := Lib.hid i2
  clear ke ke2 kt ksm ki kr hs h0 c i1 i2 d d1
  go_wp2_with fail
  refine P.out.mono ?_
  rintro _ W14 ⟨rfl, S1, D2, d2, j2⟩
  have A1 := Lib.hid (And.intro (show Duo S S1 W14 2 3 D2 E3 tb [] [((2 : Nat), (3 : Nat), putLM (proposeM dd))] from d2) j2)
  clear d2 j2 P rb1 rb2 ry2
  obtain ⟨rb1, rb2⟩ := RBH.out _ _ A1.out.1.mw A1.out.1.eqs.1
  obtain ⟨q1, hM1, hq1⟩ := with_one A1.out.2.book
  have hg1 : getA D2.M 5 = some q1 := by rw [hM1]; rfl
  have HG := Lib.hid (And.intro hg1 hq1)
  clear hM1 hq1 hg1
  have K1 := Lib.hid (st_twice (i := 5) (p := lgP) (g := lgG) C.out A1.out.1 A1.out.2 KK.out.2.2.2.2.2.2 ⟨by decide, by decide⟩ HG.out.1 KK.out.2.1 (eq_false (by decide)) (eq_false (by decide)))
  go_wp2_with fail
  refine K1.out.mono ?_
  rintro _ W15 ⟨rfl, d3⟩
  have A2 := Lib.hid d3
  clear d3 K1 rb1 rb2
  have K2 := Lib.hid (st_hear_no (k := 0) (e := 22) (free := 1000) C.out A2.out I2.out rfl KK.out.1 KK.out.2.2.2.1 (by simp) (by decide) fun X da => takes_no da (by rw [I2.out.t]; exact T26_ok) (by rw [I2.out.t]; exact KK.out.2.2.1) (by decide))
  go_wp2_with fail
  refine K2.out.mono ?_
  rintro _ W16 ⟨rfl, S2, d4⟩
  have A3 := Lib.hid (show Duo S S2 W16 2 3 D2 E3 tb [] [((3 : Nat), (2 : Nat), putC dd.i 22)] from d4)
  clear d4 K2
  have K3 := Lib.hid (st_ref (k := 0) (free := 1000) C.out A3.out A1.out.2 (by rw [KK.out.2.2.2.2.1]; exact HG.out.1) (by rw [HG.out.2]; exact KK.out.2.2.2.2.2.1.1) (by rw [HG.out.2]; exact KK.out.2.2.2.2.2.1.2) rfl (by rw [KK.out.2.2.2.2.1]; decide) (by decide) (by simp) rfl)
  go_wp2_with fail
  refine K3.out.mono ?_
  rintro _ W17 ⟨rfl, S3, d5⟩
  have A4 := Lib.hid (show Duo S S3 W17 2 3 D2 E3 tb [(dd.i, wordV 3 22)] [] from d5)
  clear d5 K3
  have K4 := Lib.hid (st_told (i := 5) (x := 3) (y := 22) C.out A4.out A1.out.2 (by rw [KK.out.2.2.2.2.1]; rfl))
  go_wp2_with fail
  refine K4.out.mono ?_
  rintro _ W18 ⟨rfl, d6⟩
  have A5 := Lib.hid d6
  clear d6 K4
  obtain ⟨e1, e2, e3, e4, e5, e6, e7⟩ := A5.out.eqs
  have L1 : Live S3 1 n1 D1 := A5.out.third (by decide) (by decide) A.out.2.2.2.1
  have da := L1.dae A5.out.mw
  have hold : Holds D1.A D1.j [] := by have := da.hold; rw [N1.out.2.2.1] at this; exact this
  have calm := da.calm N1.out.2.2.2
  have K5 := Arm_any (i := 0) A5.out.mw L1 N1.out.1.dv.symm ⟨by decide, by decide⟩
  rw [e2] at K5
  have K5 := Lib.hid K5
  have F3 : Fr0 S S3 := ⟨e2, e1, e6, e5⟩
  have FF := Lib.hid (And.intro F3 (And.intro e7 (And.intro hold calm)))
  clear e1 e2 e3 e4 e5 e6 da hold calm F3
  go_wp2_with fail
  refine K5.out.mono ?_
  rintro _ W19 ⟨rfl, F5, g5⟩
  obtain ⟨S5, g5, h5, s5, t5, u5⟩ : ∃ S5, Goes W18 S3 W19 S5 ∧ Fr0 S S5 ∧ S5.nd = S.nd ∧ S5.ds 1 = .live { D1 with F := F5, A := D1.A.arm 0, cal := false } ∧ (∀ j, j ≠ 1 → S5.ds j = S3.ds j) := ⟨_, g5, ⟨rfl, FF.out.1.u, FF.out.1.nodes, FF.out.1.now⟩, FF.out.2.1, upd_at S3.ds 1 _, fun j h => upd_ne S3.ds _ h⟩
  have L5 : Live S5 1 n1 { D1 with F := F5, A := D1.A.arm 0, cal := false } := ⟨by rw [s5]; exact N1.out.1.nd, t5, by rw [h5.nodes]; exact N1.out.1.at_, N1.out.1.xv⟩
  obtain ⟨rb1, rb2⟩ := RBH.out _ _ g5.mw h5.u
  have at2 : S5.at_ (2 : Nat) = ptA n2.b := MS.at_some (by rw [h5.nodes]; exact C.out.at1)
  have pd : proposeD { D1 with F := F5, A := D1.A.arm 0, cal := false } 9 (2 : Nat) lgP lgG S5.now = legsV T26 ⟨9, 1, lgP, lgG, sumH (secretH (D1.seed ++ intI 9)).l, 2⟩ ⟨100, 200, 0⟩ := by
    unfold proposeD
    rw [h5.now, ST.out.now]
    show legsV D1.t _ _ = _
    rw [N1.out.1.t]
    rfl
  have hsm9 : Small (proposeD { D1 with F := F5, A := D1.A.arm 0, cal := false } 9 (2 : Nat) lgP lgG S5.now).h.l := by
    rw [pd, (legsV_i _ _ _).2]
    exact sumH_small _
  obtain ⟨ae, al, aa⟩ := arm_fails (L := putD (proposeD { D1 with F := F5, A := D1.A.arm 0, cal := false } 9 (2 : Nat) lgP lgG S5.now)) FF.out.2.2.1 FF.out.2.2.2 (putD_ok hsm9) (by have := npc_D (proposeD { D1 with F := F5, A := D1.A.arm 0, cal := false } 9 (2 : Nat) lgP lgG S5.now); show 0 + _ ≤ 255; omega)
  have K6 := Propose_fails (i := 9) (p := lgP) (g := lgG) g5.mw (by rw [h5.u]; exact HFU.out.1.keep (Nat.le_refl _) ST.out.u) (by rw [h5.u]; exact HFU.out.2.keep (Nat.le_refl _) ST.out.u) L5 at2 (by show TmK D1.t; rw [N1.out.1.t]; exact T26_ok) (by show D1.seed.length ≤ 64; rw [N1.out.1.seed]; exact N1.out.1.sl) (by decide) N1.out.2.1 ⟨by decide, by decide⟩ (by rw [pd]; exact k_err9 _) (by show (lgP.a < D1.t.least) = False; rw [N1.out.1.t]; exact eq_false (by decide)) (by show (lgP.a > D1.t.most) = False; rw [N1.out.1.t]; exact eq_false (by decide)) ae
  rw [h5.wb] at K6
  have K6 := Lib.hid K6
  have HH5 := Lib.hid (And.intro h5 (And.intro s5 (And.intro u5 aa)))
  clear h5 s5 t5 u5 L5 at2 pd hsm9 ae aa g5 K5
  go_wp2_with fail
  refine K6.out.mono ?_
  rintro _ W20 ⟨rfl, D6, x6, q6, g6⟩
  obtain ⟨S6, g6, h6, s6, t6, u6⟩ : ∃ S6, Goes W19 S5 W20 S6 ∧ Fr0 S S6 ∧ S6.nd = S.nd ∧ S6.ds 1 = .dead D6 ∧ (∀ j, j ≠ 1 → S6.ds j = S3.ds j) := ⟨_, g6, ⟨rfl, HH5.out.1.u, HH5.out.1.nodes, HH5.out.1.now⟩, HH5.out.2.1, upd_at S5.ds 1 _, fun j h => (upd_ne S5.ds _ h).trans (HH5.out.2.2.1 j h)⟩
  have L6 : Gone S6 1 n1 D6 := ⟨by rw [s6]; exact N1.out.1.nd, t6, by rw [h6.nodes]; exact N1.out.1.at_, by rw [x6]; exact N1.out.1.xv⟩
  have cr : Holds (crash0 D6.A) D1.j [] ∧ Calm (crash0 D6.A) := by
    have e : D6.A = ((D1.A.arm 0).put D1.j.at_ al).strA := by rw [q6]; exact HH5.out.2.2.2
    rw [e]
    exact crash_holds FF.out.2.2.1
  have dv6 : n1.dv = D6.dv := by rw [q6]; exact N1.out.1.dv.symm
  have H6 := Lib.hid (And.intro h6 (And.intro s6 (And.intro u6 (And.intro L6 (And.intro cr dv6)))))
  have G6' := Lib.hid g6
  clear h6 s6 t6 u6 L6 cr dv6 g6 x6 q6 K6 rb1 rb2
  obtain ⟨rb1, rb2⟩ := RBH.out _ _ G6'.out.mw H6.out.1.u
  have at1 : S6.at_ 1 = ptA n1.b := MS.at_some (by rw [H6.out.1.nodes]; exact N1.out.1.at_)
  have at2 : S6.at_ 2 = ptA n2.b := MS.at_some (by rw [H6.out.1.nodes]; exact C.out.at1)
  have K7 := Propose_down (a := 1) (b := 2) (i := 9) (p := lgP) (g := lgG) G6'.out.mw at1 at2 rfl fun X m => H6.out.2.2.2.1.off m
  rw [H6.out.1.wb] at K7
  have K7 := Lib.hid K7
  have AT := Lib.hid (And.intro at1 at2)
  clear at1 at2
  go_wp2_with fail
  refine K7.out.mono ?_
  rintro _ W21 ⟨rfl, g7⟩
  have G8 := Lib.hid g7
  clear g7 K7 rb1 rb2
  have K8 := Again_down (a := 1) (i := 9) G8.out.mw AT.out.1 (H6.out.2.2.2.1.off G8.out.mw)
  rw [H6.out.1.wb] at K8
  have K8 := Lib.hid K8
  go_wp2_with fail
  refine K8.out.mono ?_
  rintro _ W22 ⟨rfl, rfl⟩
  clear K8
  have K9 := Restart_nil (a := 1) G8.out.mw H6.out.2.2.2.1 H6.out.2.2.2.2.2 H6.out.2.2.2.2.1.1 H6.out.2.2.2.2.1.2 (by rw [N1.out.1.nt]; exact T26_ok) N1.out.1.s0 N1.out.1.sl
  rw [H6.out.1.wb] at K9
  have K9 := Lib.hid K9
  go_wp2_with fail
  refine K9.out.mono ?_
  rintro _ W23 ⟨rfl, D7, tb7, g7, l7⟩
  obtain ⟨S7, g8, h7, s7, s73, t7, t73⟩ : ∃ S7, Goes W22 S6 W23 S7 ∧ Fr0 S S7 ∧ S7.nd 1 = some { n1 with xv := ptA D7.xb, tv := .map (some tb7) } ∧ S7.nd 3 = S.nd 3 ∧ S7.ds 1 = .live D7 ∧ S7.ds 3 = S3.ds 3 := ⟨_, g7, ⟨rfl, H6.out.1.u, H6.out.1.nodes, H6.out.1.now⟩, upd_at S6.nd 1 _, (upd_ne S6.nd (some { n1 with xv := ptA D7.xb, tv := .map (some tb7) }) (show (3 : Nat) ≠ 1 by decide)).trans (congrFun H6.out.2.1 3), upd_at S6.ds 1 _, (upd_ne S6.ds (.live D7) (show (3 : Nat) ≠ 1 by decide)).trans (H6.out.2.2.1 3 (by decide))⟩
  have L71 : Live S7 1 { n1 with xv := ptA D7.xb, tv := .map (some tb7) } D7 := ⟨s7, t7, by rw [h7.nodes]; exact N1.out.1.at_, rfl⟩
  have L73 : Live S7 3 n3' E3 := ⟨by rw [s73]; exact C.out.nd2, by rw [t73]; exact A5.out.d2, by rw [h7.nodes]; exact C.out.at2, C.out.xv2⟩
  have GA := Lib.hid (show Goes W23 S7 W23 S7 from g8.mw.below (Below.refl _ W23))
  have Z := Lib.hid (And.intro h7 (And.intro L71 (And.intro L73 (And.intro l7.book I2.out.book))))
  clear g8 g7 h7 s7 s73 t7 t73 L71 L73 l7 K9
  go_wp2_with fail
  refine (Terms_any W23).mono ?_
  rintro _ W24 ⟨rfl, b24⟩
  have GB := Lib.hid (GA.out.trans (GA.out.mw.below b24))
  clear b24 GA
  go_wp2_with fail
  refine (New_few).mono ?_
  rintro _ W25 ⟨rfl, rfl⟩
  have GC := Lib.hid (GB.out.trans (GB.out.mw.below (below1 W24 (.cells T26.cells 53))))
  clear GB
  generalize W24.alloc (.cells T26.cells 53) = X1 at GC ⊢
  go_wp2_with fail
  refine (Terms_any X1).mono ?_
  rintro _ X2 ⟨rfl, b2⟩
  have GD := Lib.hid (GC.out.trans (GC.out.mw.below b2))
  clear b2 GC
  go_wp2_with fail
  refine (New_bad (heap_alloc_new X2 _)).mono ?_
  rintro _ X3 ⟨rfl, b3⟩
  have GE := Lib.hid (GD.out.trans ((GD.out.mw.below (below1 X2 (.cells (tm0.cells ++ T26.cells) 53))).trans ((GD.out.mw.below (below1 X2 (.cells (tm0.cells ++ T26.cells) 53))).mw.below b3)))
  clear b3 GD
  go_upto_region 18 with (fail)
  have SL := Lib.hid (show LSt X3 X3.drew none none from ⟨(Below.refl _ X3).drew, fun x e => (by cases e), fun x e => (by cases e)⟩)
  have SL0 := Lib.hid (show LSt X3 X3 none none from ⟨Below.refl _ X3, fun x e => (by cases e), fun x e => (by cases e)⟩)
  go_region_held3 (fun _ => True) (first | trivial) (first
    | (go_at_call 22; refine (Terms_any _).mono ?_; rintro _ Xa ⟨rfl, hb⟩; first
        | (have st := SL.out.step (by with_reducible exact hb); clear SL hb; have SL := Lib.hid st; clear st)
        | (have st : LSt X3 _ none (some X3.heap.size) := (SL0.out.mk64.step (Below.refl _ (X3.alloc (.cells z64 5))).drew).step (by with_reducible exact hb); clear SL hb; have SL := Lib.hid st; clear st)
        | (have st := SL.out.mk64.step (by with_reducible exact hb); clear SL hb; have SL := Lib.hid st; clear st))
    | (go_at_call 21; first
        | (have sl := SL.out.lit.mk64; have f1 := sl.hb Xa.heap.size rfl; have f2 := sl.hm (Xa.heap.size + 1) (congrArg some (by simp)); with_reducible refine (New_long f1 f2).mono ?_; rintro _ Xf ⟨rfl, hb⟩; have BF := Lib.hid (sl.low.trans (hb.mono sl.low.size)); clear SL hb sl f1 f2)
        | (have sl := SL.out.mk64.lit; have f1 := sl.hb (Xa.heap.size + 1) (congrArg some (by simp)); have f2 := sl.hm Xa.heap.size rfl; with_reducible refine (New_long f1 f2).mono ?_; rintro _ Xf ⟨rfl, hb⟩; have BF := Lib.hid (sl.low.trans (hb.mono sl.low.size)); clear SL hb sl f1 f2)
        | (have sl := SL.out.lit; have f1 := sl.hb Xa.heap.size rfl; have f2 := sl.hm _ rfl; with_reducible refine (New_long f1 f2).mono ?_; rintro _ Xf ⟨rfl, hb⟩; have BF := Lib.hid (sl.low.trans (hb.mono sl.low.size)); clear SL hb sl f1 f2)))
  all_goals
    have GF := GE.out.trans (GE.out.mw.below BF.out)
    have K1 := Swaps_zero (a := 3) GF.mw Z.out.2.2.1 Z.out.2.2.2.2
    rw [Z.out.1.wb] at K1
    have K1 := Lib.hid K1
    clear BF GF
    go_wp2_with fail
    refine K1.out.mono ?_
    rintro _ Y1 ⟨ao1, cp1, rfl, gy1⟩
    have K2 := Off_live (a := 1) gy1.mw Z.out.2.1
    rw [Z.out.1.wb] at K2
    have K2 := Lib.hid K2
    have GY := Lib.hid gy1
    clear gy1 K1
    go_wp2_with fail
    refine K2.out.mono ?_
    rintro _ Y2 ⟨rfl, rfl⟩
    have K3 := Swaps_zero (a := 1) GY.out.mw Z.out.2.1 Z.out.2.2.2.1
    rw [Z.out.1.wb] at K3
    have K3 := Lib.hid K3
    clear K2
    go_wp2_with fail
    refine K3.out.mono ?_
    rintro _ Y3 ⟨ao3, cp3, rfl, gy3⟩
    have lo := gy3.mw.low
    rw [Z.out.1.u] at lo
    have bw : Below w.heap.size w Y3 := HU.out.1.trans ((ST.out.u.trans (lo.mono ST.out.u.size)).mono HU.out.1.size)
    have WK := Lib.hid (works_any (HF.out.keep (Nat.le_refl _) bw) (HT.out.keep (Nat.le_refl _) bw))
    have BW := Lib.hid bw
    clear lo bw gy3 K3
    go_wp2_with fail
    refine WK.out.mono ?_
    rintro _ Y4 ⟨rfl, b4⟩
    have BB := Lib.hid (BW.out.trans (b4.mono BW.out.size))
    clear b4 WK
    go_wp2
    go_ret
    exact ⟨rfl, BB.out⟩
end Go.Proofs.YtjkfondgacjpnaaGreatDoor
