/- What is proved: parts of the walk and of the plain law, 2 texts in one. No condition but those each law names. -/
import Derived.Test.YtjkfondgacjpnaaGreatDoorF44
import Derived.Test.YtjkfondgacjpnaaGreatDoorF37
import Derived.Test.YtjkfondgacjpnaaGreatDoorF36
namespace Go.Proofs.YtjkfondgacjpnaaGreatDoor
open Go.RowKit
open Sx (Ab DW Turns Did Foot)
set_option maxRecDepth 100000
theorem putA_two {α:Type} (M:List (Int × α)) (i:Int) (a b:α):putA (putA M i a) i b=putA M i b:=by
 induction M with
 | nil=>simp [putA]
 | cons p M ih=>
  obtain ⟨k,x⟩:=p
  unfold putA
  by_cases h:i=k
  ·simp [h,putA]
  ·simp [h,putA,ih]
theorem roomE_ok {B:List (Int × Sw)} {k:Int} (h:roomE B k=0):getA B k=none∧B.length < 16:=by
 unfold roomE at h
 split at h
 ·omega
 ·rename_i q
  split at h
  ·rename_i q2
   exact ⟨by cases hg:getA B k with | none=>rfl | some s=>rw [hg] at q;exact absurd rfl q,q2⟩
  ·omega
theorem add_deal {B:List (Int × Sw)} {d:Dl} (h:dealOk d=true) (hs:Small d.h.l) (hr:roomE B d.i=0):Run B [.dl d] (putA B d.i (newS d)):=
 .cons (.dl h hs (roomE_ok hr).1 (roomE_ok hr).2) .nil
theorem add_both {B:List (Int × Sw)} {d:Dl} {s:Hs} (h:dealOk d=true) (hs:Small d.h.l) (hr:roomE B d.i=0) (hss:Small s.l) (hsum:sumH s.l=d.h):Run B [.dl d,.se d.i s] (putA B d.i (knowS d s)):=by
 refine .cons (.dl h hs (roomE_ok hr).1 (roomE_ok hr).2) ?_
 have:=Run.cons (Adds.se (B:=putA B d.i (newS d)) (dealOk_id h) hss (by rw [getA_put,if_pos rfl]) hsum) Run.nil
 rw [putA_two] at this
 exact this
def proposeF (D:Dm) (B:List (Int × Sw)) (i peer:Int) (p g:Lg) (n:Cl):Int:=
 if errD (proposeD D i peer p g n) ≠ 0 then errD (proposeD D i peer p g n) else if p.a < D.t.least ∨ p.a > D.t.most then 22 else roomE B i
attribute [local go_sem ↓] rowOf_cell ebl1 ebl2 ebrDk ebrSk ebd6k ebm5k
attribute [local go_sem] rowOf_alloc soft_alloc rowOf_drew soft_drew rowOf_setRow soft_setRow frozen_of_soft Ext.row Ext.soft_ rOf_D rOf_S rcD_eq rcS_eq
theorem Dae0.row_ {k:Bool} {w:World} {D:Dm} (h:Dae0 k w D) {b:Nat} (hb:¬ D.all b) (C:Array Value):Dae0 k (w.setRow b C) D:=
 h.keepB (fun i hi=>setRow_other _ _ _ _ fun e=>hb (e ▸ hi)) (by simp [World.setRow])
theorem On.row_ {w:World} {D:Dm} {L:List It} {B:List (Int × Sw)} (h:On w D L B) {b:Nat} (hb:¬ D.all b) (C:Array Value):On (w.setRow b C) D L B:=
 ⟨h.dae.keepB (fun i hi=>setRow_other _ _ _ _ fun e=>hb (e ▸ hi)) (by simp [World.setRow]),h.on,h.rows,h.book,h.run⟩
section
variable {w:World} {D:Dm} {n:Cl} {i peer:Int} {p g:Lg}
set_option maxHeartbeats 4000000 in
theorem propose_all {L:List It} {B:List (Int × Sw)} (hL:On w D L B) (hB:Base w D) (hT:TmK D.t) (hsl:D.seed.length ≤ 64) (hi:I64 i):
  Calls Tryz.prog 26 #[.pointer (some ⟨D.xb,0,none⟩),.int .i64 i,.int .i64 peer,.agg p.cells,.agg g.cells,.agg n.cells] w fun e w'=>
   (∃ k,k ≠ 0∧proposeF D B i peer p g n=k∧e=.returned (.tuple #[.agg Msg.zero.cells,.int .i64 k])∧Below w.heap.size w w') ∨
   (proposeF D B i peer p g n=0∧((e=.returned (.tuple #[.agg (proposeM (proposeD D i peer p g n)).cells,.int .i64 0])∧KeptOk w D (L ++ [.dl (proposeD D i peer p g n),.se i (secretH (D.seed ++ intI i))]) (putA B i (knowS (proposeD D i peer p g n) (secretH (D.seed ++ intI i)))) w') ∨
    (e=.returned (.tuple #[.agg Msg.zero.cells,.int .i64 9])∧KeptNo w D L [.dl (proposeD D i peer p g n),.se i (secretH (D.seed ++ intI i))] w'))):=by
 unfold proposeF proposeD
 have h:=hL.dae
 have H:=Lib.hid h
 have HL:=Lib.hid hL
 have HB:=Lib.hid hB
 have HT:=Lib.hid hT
 have HSL:=Lib.hid hsl
 have HI:=Lib.hid hi
 generalize hs:secretH (D.seed ++ intI i)=s at *
 generalize hd:legsV D.t ⟨i,1,p,g,sumH s.l,peer⟩ n=d at *
 generalize hc:errD d=ke at *
 generalize hpf:(if ke ≠ 0 then ke else if p.a < D.t.least ∨ p.a > D.t.most then 22 else roomE B i)=pf
 have HPF:=Lib.hid hpf
 have HS:=Lib.hid hs
 have HD:=Lib.hid hd
 have HC:=Lib.hid hc
 clear h hL hB hT hsl hi hs hd hc hpf
 go_enter Tryz.func26,Tryz.ntmps26
 go_upto_region 1 with (fail)
 have bx:=Bxs.new4 w p.cells 26 g.cells 26 n.cells 37 Msg.zero.cells 67
 generalize (((w.alloc (.cells p.cells 26)).alloc (.cells g.cells 26)).alloc (.cells n.cells 37)).alloc (.cells Msg.zero.cells 67)=W at bx ⊢
 have SC:=secret_any (H.out.below bx.below) (HB.out.trans (Trans.below bx.below)) HSL.out HI.out
 rw [HS.out] at SC
 have SC:=Lib.hid SC
 have BX:=Lib.hid bx
 clear bx
 go_wp2_with fail
 refine SC.out.mono ?_
 rintro _ W2 ⟨rfl,hb⟩
 have bx:=BX.out.step hb
 clear BX SC hb
 have BX:=Lib.hid bx
 clear bx
 go_upto_region 2 with (fail)
 have LW:=Lib.hid BX.out.below.size
 have L':=Bx.made W2 Hs.zero.cells s.cells 65
 generalize (W2.alloc (.cells Hs.zero.cells 65)).setRow W2.heap.size s.cells=W3 at L' ⊢
 have bx:=BX.out.step L'.below
 clear BX
 have rx0:=bx.row' 0 rfl
 have rx1:=bx.row' 1 rfl
 have rx2:=bx.row' 2 rfl
 have lt0:=bx.lt 0 rfl
 have lt1:=bx.lt 1 rfl
 have lt2:=bx.lt 2 rfl
 simp only [Nat.add_zero] at rx0 lt0
 have rs:=L'.rowOf
 have lts:=(Array.getElem?_eq_some_iff.1 L'.row).1
 have D3:=H.out.below bx.below
 have B3:=HB.out.trans (Trans.below bx.below)
 have rD:=rowOf_of D3.row
 unfold Dm.cells at rD
 have ltx:D.xb < W3.heap.size:=D3.lt (.inl rfl)
 have K1:∀ g:Ext W3,Calls Tryz.prog 45 #[.slice (some ⟨W2.heap.size,0,none⟩) 32 32] g.val (Ret (.agg (sumH s.l).cells) g.val):=fun g=>
  ret_of (Blake_any (B3.tabs.keep (Nat.le_refl _) g.below) (Sl.keep (sl_in rs (h_whole s)) (Nat.le_refl _) g.below) (by decide))
 have K1:=Lib.hid K1
 have K2:∀ w:World,Calls Tryz.prog 44 #[.agg D.t.cells,.agg (Dl.cells ⟨i,1,p,g,sumH s.l,peer⟩),.agg n.cells] w (Ret (.agg d.cells) w):=fun w=>by
  have:=ret_of (Legs_any HT.out.tm ⟨i,1,p,g,sumH s.l,peer⟩ n w)
  rw [HD.out] at this
  exact this
 have K2:=Lib.hid K2
 have BX:=Lib.hid bx
 have LS:=Lib.hid L'
 clear bx L' D3 B3
 (refine wp_region_lay_tail 14 13 (fun N=>.pointer (some ⟨N,0,none⟩)) (.cells Dl.zero.cells 83) (by kernel_rfl) (by kernel_rfl) ?_;simp only [List.take_succ_cons,List.take_zero,List.drop_succ_cons,List.drop_zero];(repeat (first | (refine grow_lay rfl (fun _=>rfl) (fun _ _=>(by simp [go_sem])) ?_;simp only [Act.put,List.setIfInBounds_toArray,List.set_cons_succ,List.set_cons_zero]) | (refine grow_step rfl (fun K hK=>?_);go_simp;(first | (refine hK _ ?_;clear hK K) | (apply Exists.intro;refine ⟨fun _=>?_,hK _ ?_⟩;((first | (go_at_call 45;exact K1.out _) | (go_at_call 44;exact K2.out _)));clear hK K)))));refine (fun N w' hN lN eN ⟨g3,he⟩=>?_);subst he;have rN:=rowOf_of eN;have sN:=soft_of eN;clear eN)
 have bw:=Below.setRow_ g3.below hN d.cells
 have rd:rowOf (g3.val.setRow N d.cells) N=d.cells:=(rowOf_setRow _ _ _ _ sN).trans (if_pos rfl)
 have sd:soft (g3.val.setRow N d.cells) N=true:=(soft_setRow _ _ _ _).trans sN
 obtain ⟨td,htd⟩:=soft_spec sd
 rw [rd] at htd
 have ps:PSt w (g3.val.setRow N d.cells) p g n s d W2.heap.size N:=⟨BX.out.step bw,(bw.block _ (Array.getElem?_eq_some_iff.1 LS.out.row).1).trans LS.out.row,⟨td,htd⟩,LW.out,Nat.le_trans LW.out (Nat.le_trans (Nat.le_of_lt (Array.getElem?_eq_some_iff.1 LS.out.row).1) hN)⟩
 have PS:=Lib.hid ps
 clear rx0 rx1 rx2 lt0 lt1 lt2 rs lts rD ltx K1 K2 BX LS bw sd htd ps
 go_frame
 go_upto_region 3 with (fail)
 generalize g3.val.setRow N d.cells=V at *
 clear hN rN sN
 have C:=Lib.hid (deal_is HC.out V)
 go_wp2_with fail
 refine C.out.mono ?_
 rintro _ V2 ⟨rfl,hb⟩
 have ps:=PS.out.step hb
 clear PS rd C hb
 have rp:=ps.bx.row' 0 rfl
 simp only [Nat.add_zero] at rp
 have rD:=rowOf_of (H.out.below ps.bx.below).row
 unfold Dm.cells at rD
 have PS:=Lib.hid ps
 clear ps
 by_cases hk0:ke=0
 case neg=>
  have k0:(ke == 0)=false:=beq_eq_false_iff_ne.2 hk0
  have rx3:=PS.out.bx.row' 3 rfl
  have sx3:=PS.out.bx.soft' 3 rfl
  have BB:=Lib.hid PS.out.bx.below
  have hc:rowOf (World.setRow V2 (w.heap.size + 1 + 1 + 1) Msg.zero.cells) (w.heap.size + 1 + 1 + 1)=Msg.zero.cells:=(rowOf_setRow _ _ _ _ sx3).trans (if_pos rfl)
  have HC3:=Lib.hid hc
  have HK0:=Lib.hid hk0
  clear hc hk0
  go_wp2
  refine bodyPost_ret (results_row1 (t:=67) rfl Tryz.underlying67 rfl (by kernel_rfl) _ _ (w.heap.size + 1 + 1 + 1) rfl HC3.out (m_size _)) rfl ?_
  exact .inl ⟨ke,HK0.out,by rw [← HPF.out,if_pos HK0.out],rfl,Below.setRow_ BB.out (Nat.le_add_right _ _) _⟩
 subst hk0
 go_upto_region 8 with (fail)
 rcases (show p.a < D.t.least ∨ (¬ p.a < D.t.least∧p.a > D.t.most) ∨ (¬ p.a < D.t.least∧¬ p.a > D.t.most) by omega) with q | ⟨q,q2⟩ | ⟨q,q2⟩
 case' inl=>have l1:(p.a < D.t.least)=True:=eq_true q;have HQ:=Lib.hid (show p.a < D.t.least ∨ p.a > D.t.most from .inl q)
 case' inr.inl=>have l1:(p.a < D.t.least)=False:=eq_false q;have l2:(p.a > D.t.most)=True:=eq_true q2;have HQ:=Lib.hid (show p.a < D.t.least ∨ p.a > D.t.most from .inr q2)
 case' inr.inr=>have l1:(p.a < D.t.least)=False:=eq_false q;have l2:(p.a > D.t.most)=False:=eq_false q2;have HQ:=Lib.hid (show ¬ (p.a < D.t.least ∨ p.a > D.t.most) by omega)
 case inl=>
  clear q
  go_region
  have PS2:=Lib.hid (PS.out.step (Below.refl _ V2).drew)
  clear rp rD PS l1
  generalize V2.drew=V3 at *
  have rx3:=PS2.out.bx.row' 3 rfl
  have sx3:=PS2.out.bx.soft' 3 rfl
  have BB:=Lib.hid PS2.out.bx.below
  have hc:rowOf (World.setRow V3 (w.heap.size + 1 + 1 + 1) Msg.zero.cells) (w.heap.size + 1 + 1 + 1)=Msg.zero.cells:=(rowOf_setRow _ _ _ _ sx3).trans (if_pos rfl)
  have HC3:=Lib.hid hc
  clear hc
  go_wp2
  refine bodyPost_ret (results_row1 (t:=67) rfl Tryz.underlying67 rfl (by kernel_rfl) _ _ (w.heap.size + 1 + 1 + 1) rfl HC3.out (m_size _)) rfl ?_
  exact .inl ⟨22,by decide,by rw [← HPF.out,if_neg (by simp),if_pos HQ.out],rfl,Below.setRow_ BB.out (Nat.le_add_right _ _) _⟩
 case inr.inl=>
  clear q q2
  go_region
  have PS2:=Lib.hid (PS.out.step (Below.refl _ V2).drew)
  clear rp rD PS l1 l2
  generalize V2.drew=V3 at *
  have rx3:=PS2.out.bx.row' 3 rfl
  have sx3:=PS2.out.bx.soft' 3 rfl
  have BB:=Lib.hid PS2.out.bx.below
  have hc:rowOf (World.setRow V3 (w.heap.size + 1 + 1 + 1) Msg.zero.cells) (w.heap.size + 1 + 1 + 1)=Msg.zero.cells:=(rowOf_setRow _ _ _ _ sx3).trans (if_pos rfl)
  have HC3:=Lib.hid hc
  clear hc
  go_wp2
  refine bodyPost_ret (results_row1 (t:=67) rfl Tryz.underlying67 rfl (by kernel_rfl) _ _ (w.heap.size + 1 + 1 + 1) rfl HC3.out (m_size _)) rfl ?_
  exact .inl ⟨22,by decide,by rw [← HPF.out,if_neg (by simp),if_pos HQ.out],rfl,Below.setRow_ BB.out (Nat.le_add_right _ _) _⟩
 clear q q2
 go_region
 have PS2:=Lib.hid (PS.out.step (Below.refl _ V2).drew)
 clear rp rD PS l1 l2
 generalize V2.drew=V3 at *
 have RM:=room_any (H.out.below PS2.out.bx.below) (by rw [HL.out.book];exact HL.out.fine) i
 rw [HL.out.book] at RM
 generalize hro:roomE B i=ro at *
 have RM:=Lib.hid RM
 have HRO:=Lib.hid hro
 clear hro
 go_wp2_with fail
 refine RM.out.mono ?_
 rintro _ V4 ⟨rfl,hb⟩
 have PS:=Lib.hid (PS2.out.step hb)
 clear RM hb PS2
 have rs:=rowOf_of PS.out.rs
 have rd:=PS.out.d
 by_cases hr0:ro=0
 case neg=>
  have k0:(ro == 0)=false:=beq_eq_false_iff_ne.2 hr0
  have rx3:=PS.out.bx.row' 3 rfl
  have sx3:=PS.out.bx.soft' 3 rfl
  have BB:=Lib.hid PS.out.bx.below
  have hc:rowOf (World.setRow V4 (w.heap.size + 1 + 1 + 1) Msg.zero.cells) (w.heap.size + 1 + 1 + 1)=Msg.zero.cells:=(rowOf_setRow _ _ _ _ sx3).trans (if_pos rfl)
  have HC3:=Lib.hid hc
  have HK0:=Lib.hid hr0
  clear hc hr0
  go_wp2
  refine bodyPost_ret (results_row1 (t:=67) rfl Tryz.underlying67 rfl (by kernel_rfl) _ _ (w.heap.size + 1 + 1 + 1) rfl HC3.out (m_size _)) rfl ?_
  exact .inl ⟨ro,HK0.out,by rw [← HPF.out,if_neg (by simp),if_neg HQ.out],rfl,Below.setRow_ BB.out (Nat.le_add_right _ _) _⟩
 subst hr0
 have hdi:d.i=i:=by rw [← HD.out];exact (legsV_i _ _ _).1
 have hdh:d.h=sumH s.l:=by rw [← HD.out];exact (legsV_i _ _ _).2
 have hss:Small s.l:=by rw [← HS.out];exact sumH_small _
 have hsd:Small d.h.l:=by rw [hdh];exact sumH_small _
 have hrc:Rc.cells ⟨1,i,d,Hs.zero,0,0,Tv.zero⟩=(rcD d).cells:=by rw [← hdi];rfl
 have hpm:Msg.cells ⟨1,i,0,d.p,d.g,d.h⟩=(proposeM d).cells:=by rw [← hdi];rfl
 have HPM:=Lib.hid hpm
 have HDI:=Lib.hid hdi
 have hok:dealOk d=true:=by
  have:=HC.out
  unfold errD at this
  cases hd:dealOk d with
  | true=>rfl
  | false=>rw [hd] at this;simp at this
 have hb:=(Below.refl V4.heap.size V4).alloc (Nat.le_refl _) (.cells ((rcD d).list ++ (rcS i s).list).toArray 119)
 have hbw:=PS.out.bx.below.trans (hb.mono PS.out.bx.below.size)
 have na:∀ j,w.heap.size ≤ j→¬ D.all j:=fun j hj q=>by have:=H.out.all_lt q;omega
 have KD:=keep_its (w:=V4.alloc (.cells ((rcD d).list ++ (rcS i s).list).toArray 119)) (its:=[.dl d,.se i s]) (Nat.le_refl 2) (HL.out.below hbw) (by rw [← hdi];exact add_both hok hsd (by rw [hdi];exact HRO.out) hss hdh.symm) (HB.out.trans (Trans.below hbw)) (C:=((rcD d).list ++ (rcS i s).list).toArray) (heap_alloc_new V4 _) (by simp [r_len]) (fun k a hk=>by
   match k,hk with
   | 0,hk=>cases hk;exact sub_at [] (rcD d).list (rcS i s).list rfl (r_len _) rfl
   | 1,hk=>cases hk;exact sub_at (rcD d).list (rcS i s).list [] (r_len _) (r_len _) (by simp)
   | k + 2,hk=>simp at hk) (na _ PS.out.bx.below.size)
 rw [hdi] at KD
 have KD:=Lib.hid (show Calls Tryz.prog 48 #[.pointer (some ⟨D.xb,0,none⟩),.slice (some ⟨V4.heap.size,0,none⟩) 2 2] _ _ from KD)
 have HW:=Lib.hid hbw
 have NA:=Lib.hid na
 have PS5:=Lib.hid (PS.out.step hb)
 clear hb hbw na hdi hdh hss hsd hok hpm PS
 go_upto_region 11 with (fail)
 go_wp2_with fail
 refine KD.out.mono ?_
 rintro _ Z (⟨rfl,D',q1,qc,q2⟩ | ⟨rfl,qc,D',k,a,q0,q1,q3,q4,q5,q2⟩)
 ·have bd:rowOf Z N=d.cells:=by
   obtain ⟨t,ht⟩:=PS5.out.rd
   exact rowOf_of ((q2.keep _ (Array.getElem?_eq_some_iff.1 ht).1 (NA.out _ PS5.out.lN)).1.trans ht)
  have h3:=PS5.out.bx.rows 3 _ _ rfl
  have b3:Z.heap[w.heap.size + 3]?=some (.cells Msg.zero.cells 67):=(q2.keep _ (Array.getElem?_eq_some_iff.1 h3).1 (NA.out _ (Nat.le_add_right _ _))).1.trans h3
  have n3:=(q2.keep _ (Array.getElem?_eq_some_iff.1 h3).1 (NA.out _ (Nat.le_add_right _ _))).2
  have rx3:=rowOf_of b3
  have sx3:=soft_of b3
  have Q1:=Lib.hid (And.intro q1 qc)
  have Q2:=Lib.hid ((Trans.below HW.out).trans q2)
  clear q1 q2 qc KD PS5 HW rs rd hrc h3 b3
  have hpm:=HPM.out
  have hc:rowOf (World.setRow Z (w.heap.size + 1 + 1 + 1) (proposeM d).cells) (w.heap.size + 1 + 1 + 1)=(proposeM d).cells:=(rowOf_setRow _ _ _ _ sx3).trans (if_pos rfl)
  have HC3:=Lib.hid hc
  clear hc
  go_wp2_with fail
  refine bodyPost_ret (results_row1 (t:=67) rfl Tryz.underlying67 rfl (by kernel_rfl) _ _ (w.heap.size + 1 + 1 + 1) rfl HC3.out (m_size _)) rfl ?_
  exact .inr ⟨by rw [← HPF.out,if_neg (by simp),if_neg HQ.out],.inl ⟨rfl,D',Q1.out.1.row_ n3 _,Q1.out.2,Q2.out.row (Nat.le_add_right _ _) _⟩⟩
 ·have h3:=PS5.out.bx.rows 3 _ _ rfl
  have b3:Z.heap[w.heap.size + 3]?=some (.cells Msg.zero.cells 67):=(q2.keep _ (Array.getElem?_eq_some_iff.1 h3).1 (NA.out _ (Nat.le_add_right _ _))).1.trans h3
  have n3:=(q2.keep _ (Array.getElem?_eq_some_iff.1 h3).1 (NA.out _ (Nat.le_add_right _ _))).2
  have rx3:=rowOf_of b3
  have sx3:=soft_of b3
  have Q1:=Lib.hid (And.intro qc (And.intro q0 (And.intro q1 (And.intro q3 (And.intro q4 q5)))))
  have Q2:=Lib.hid ((Trans.below HW.out).trans q2)
  clear q0 q1 q2 q3 q4 q5 qc KD PS5 HW rs rd hrc h3 b3
  have hc:rowOf (World.setRow Z (w.heap.size + 1 + 1 + 1) Msg.zero.cells) (w.heap.size + 1 + 1 + 1)=Msg.zero.cells:=(rowOf_setRow _ _ _ _ sx3).trans (if_pos rfl)
  have HC3:=Lib.hid hc
  clear hc
  go_wp2_with fail
  refine bodyPost_ret (results_row1 (t:=67) rfl Tryz.underlying67 rfl (by kernel_rfl) _ _ (w.heap.size + 1 + 1 + 1) rfl HC3.out (m_size _)) rfl ?_
  obtain ⟨qc,q0,q1,q3,q4,q5⟩:=Q1.out
  exact .inr ⟨by rw [← HPF.out,if_neg (by simp),if_neg HQ.out],.inr ⟨rfl,qc,D',k,a,q0,q1.row_ n3 _,q3,q4,q5,Q2.out.row (Nat.le_add_right _ _) _⟩⟩
end
end Go.Proofs.YtjkfondgacjpnaaGreatDoor

namespace Go.Proofs.YtjkfondgacjpnaaGreatDoor
open Go.RowKit
open Sx (Ab DW Turns Did Foot)
set_option maxRecDepth 100000
theorem fr_own {w:World} {B n cap:Nat} {ao:Option Addr} {L:List Fm} (hn:0 < n) (h:Frames w B (.slice ao n cap) L) (hl:L.length=n):∃ g cur,ao=some ⟨g,0,none⟩∧w.heap[g]?=some (.cells cur 177)∧n * 2 ≤ cur.size∧n ≤ cap∧∀ (k:Nat) f,L[k]?=some f→cur[k * 2]?=some (.int .i64 f.kind)∧cur[k * 2 + 1]?=some f.val:=by
 have hr:=h.row
 rw [hl] at hr
 rcases hr.2 with ⟨hv,h0,_⟩ | ⟨g,cp,cur,hv,_,hh,hc,_,hs,ht⟩
 ·cases hv;omega
 ·cases hv
  have hz:cur.size=cap * 2:=hs
  have hz2:n * 2 ≤ cap * 2:=Nat.mul_le_mul_right 2 hc
  refine ⟨g,cur,rfl,hh,by omega,hc,fun k f hf=>?_⟩
  have hk:k < n:=by rw [← hl];exact (List.getElem?_eq_some_iff.1 hf).1
  obtain ⟨e1,e2⟩:=fcells_at L k f hf
  rw [← ht] at e1 e2
  rw [List.getElem?_take_of_lt (by omega)] at e1 e2
  exact ⟨by simpa using e1,by simpa using e2⟩
theorem sub_two {cur:Array Value} {a:Nat} {x y:Value} (h0:cur[a]?=some x) (h1:cur[a + 1]?=some y):sub cur a 2=#[x,y]:=by
 have l1:=(Array.getElem?_eq_some_iff.1 h1).1
 unfold sub
 apply Array.ext_getElem?
 intro j
 rw [Array.getElem?_extract]
 match j with
 | 0=>rw [if_pos (by omega)];exact h0
 | 1=>rw [if_pos (by omega)];exact h1
 | j + 2=>rw [if_neg (by omega)];simp
attribute [local go_sem ↓] rowOf_cell ebdm
attribute [local go_sem] rowOf_alloc soft_alloc rowOf_drew soft_drew rowOf_setRow soft_setRow rowOf_setCell soft_setCell frozen_of_soft tmOf_mk svOf_mk pbOf_mk
theorem load177 (w:World) (ρ:Operand→Value) (x:Operand) (dst:Option Tmp) (ty:TypeId) (pos:String) (af:Array Edge) (gd:Option (Nat × Bool)) (hp:pp (ρ x)=true) (h:po (ρ x) + 2 ≤ (rowOf w (pb (ρ x))).size):(execOp ρ ⟨dst,.load 177 x,ty,pos,af,gd⟩).run Tryz.prog w=.ok (.value (.agg (sub (rowOf w (pb (ρ x))) (po (ρ x)) 2))) w:=
 exec_load_row 177 2 Tryz.underlying177 rfl (by kernel_rfl) w ρ x dst ty pos af gd hp h
attribute [local go_sem ↓] load177
structure FrD (w:World) (D:Dm) (v:Value) (L:List Fm):Prop where
 fr:Frames w 0 v L
 clear:∀ k,v.ownBlock=some k→¬ D.all k
 bclear:∀ f ∈ L,∀ k,f.val.ownBlock=some k→¬ D.all k
theorem FrD.trans {w w':World} {D D':Dm} {v:Value} {L:List Fm} (h:FrD w D v L) (t:Trans w D w' D'):FrD w' D' v L:=
 ⟨h.fr.heap (fun k hk=>(t.keep k (h.fr.row.lt k hk).2 (h.clear k hk)).1) (fun f hf k hk=>(t.keep k ((h.fr.body f hf).lt k hk).2 (h.bclear f hf k hk)).1),fun k hk=>(t.keep k (h.fr.row.lt k hk).2 (h.clear k hk)).2,fun f hf k hk=>(t.keep k ((h.fr.body f hf).lt k hk).2 (h.bclear f hf k hk)).2⟩
theorem told_it {L:List It} {K:List Fm} (h:told K=rowsIt L) {k:Nat} {a:It} (ha:L[k]?=some a):∃ f,K[k]?=some f∧f.kind=1∧f.body=a.row.2:=by
 have e:=congrArg (fun q=>q[k]?) h
 simp only [told,rowsIt,List.getElem?_map,ha,Option.map_some] at e
 cases hf:K[k]? with
 | none=>rw [hf] at e;cases e
 | some f=>
  rw [hf] at e
  have e:=Option.some.inj e
  rw [row_one a] at e
  exact ⟨f,rfl,congrArg Prod.fst e,congrArg Prod.snd e⟩
theorem Born.trans {F:Foot} {w Y w':World} {D D':Dm} (h:Born F w D Y) (t:Trans Y D w' D'):Born F w D' w':=
 ⟨t.os.trans h.os,t.tape.trans h.tape,t.output.trans h.output,Nat.le_trans h.size t.size,fun i hi hn=>⟨(t.keep i (Nat.lt_of_lt_of_le hi h.size) (h.keep i hi hn).2).1.trans (h.keep i hi hn).1,(t.keep i (Nat.lt_of_lt_of_le hi h.size) (h.keep i hi hn).2).2⟩⟩
set_option maxHeartbeats 4000000 in
theorem Open_rows {w:World} {F:Foot} {dv:Value} {A A':Ab} {j:Jr} {L:List It} {B:List (Int × Sw)} (H:DW w F dv A) (hA:Ab.Sm A) (ho:openP A=⟨0,A',j,rowsIt L⟩) (hh:Holds A' j (rowsIt L)) (hc:Calm A') (hr:Run [] L B) (hf:Forms w) (ht:Tabs w) (h3:2 < w.heap.size∧∀ i,i ≤ 2→∀ x,¬ F i x) {t:Tm} (hk:TmK t) {b o n c:Nat} {seed:List Nat} (hs:Sl w (some ⟨b,o,none⟩) n c (bts seed)) (h0:0 < n) (hn:n ≤ 64) (hb:b < w.heap.size) (hF:∀ x,¬ F b x):
   Calls Tryz.prog 58 #[.agg t.cells,.slice (some ⟨b,o,none⟩) n c,dv] w fun e w'=>∃ D,e=.returned (.tuple #[.pointer (some ⟨D.xb,0,none⟩),.int .i64 0])∧On w' D L B∧Calm D.A∧D.t=t∧D.seed=seed∧Born F w D w'∧D.dv=dv:=by
 have HK:=Lib.hid hk
 have HH:=Lib.hid hh
 have HC:=Lib.hid hc
 have HS:=Lib.hid hs
 have HF:=Lib.hid hF
 have HB:=Lib.hid hb
 have HD:=Lib.hid H
 have HA:=Lib.hid hA
 have HO:=Lib.hid ho
 have HR:=Lib.hid hr
 have HG:=Lib.hid (And.intro hf (And.intro ht h3))
 have hn2:((n:Int) > 64)=False:=eq_false (by omega)
 have el:(rowsIt L).length=L.length:=by unfold rowsIt;rw [List.length_map]
 obtain ⟨db,dof,rfl⟩:=dw_form H
 clear hk hh hc hs hF hb H hA ho hr hf ht h3
 go_enter Tryz.func58,Tryz.ntmps58
 go_upto_region 1 with (fail)
 have bx:=Bx.new w (t.cells) 53;generalize w.alloc (.cells (t.cells) 53)=W at bx ⊢;have rx:=bx.rowOf;have sx:=bx.soft;have BX:=Lib.hid bx;clear bx
 have Q:=QCheck_any t W
 rw [HK.out.chk] at Q
 have Q:=Lib.hid Q
 go_wp2_with fail
 refine (Q.out).mono ?_;rintro _ W2 ⟨rfl,hb⟩;have bx:=BX.out.step hb;clear BX rx sx hb;have rx:=bx.rowOf;have sx:=bx.soft;have BX:=Lib.hid bx;clear bx
 have hbW:=BX.out.below
 have O:=Open_ok (HD.out.below hbW) HA.out HO.out
 rw [el] at O
 have O:=Lib.hid O
 clear hbW
 go_wp2_with fail
 refine O.out.mono ?_
 rintro _ W3 ⟨F',jb,ao,cc,K,rfl,jd,tb,hjb,frw,tdl⟩
 have l0:w.heap.size < W2.heap.size:=(Array.getElem?_eq_some_iff.1 BX.out.row).1
 have n0:∀ x,¬ F w.heap.size x:=fun x q=>absurd (HD.out.lt q) (Nat.lt_irrefl _)
 have rt:rowOf W3.drew w.heap.size=t.cells:=rowOf_of ((tb.t.block _ l0 n0).trans BX.out.row)
 have lt3:w.heap.size < W3.heap.size:=Nat.lt_of_lt_of_le l0 tb.t.size
 have hs3:Sl W3.drew (some ⟨b,o,none⟩) n c (bts seed):=HS.out.block ((tb.t.block b (Nat.lt_of_lt_of_le HB.out BX.out.below.size) HF.out).trans (BX.out.below.block b HB.out))
 have CA:=Lib.hid (Clone_any hs3 (by omega))
 have NB:=Lib.hid (New_book W3.drew)
 have HS3:=Lib.hid hs3
 have JD:=Lib.hid jd
 have TB:=Lib.hid tb
 have JB:=Lib.hid hjb
 have L0:=Lib.hid l0
 have FW:=Lib.hid (And.intro frw tdl)
 clear jd tb hjb l0 n0 hs3 rx sx O Q frw tdl
 go_upto_region 9 with (fail)
 have keep:∀ X:World,Below W3.drew.heap.size W3.drew X→rowOf X w.heap.size=t.cells:=fun X hX=>by
   have:X.heap[w.heap.size]?=W3.drew.heap[w.heap.size]?:=hX.block _ lt3
   unfold rowOf at rt ⊢
   rw [this]
   exact rt
 have KP:=Lib.hid keep
 clear keep
 go_region_held3 (fun w'=>rowOf w' w.heap.size=t.cells) (first | exact rt | exact r1 | exact r2 | exact r3)
   (first
     | (go_at_call 37;refine CA.out.mono ?_;rintro _ X1 ⟨a1,c1,rfl,hb1,own1⟩
        have r1:=KP.out X1 hb1
        have NA:=Lib.hid (New_book X1)
        have O1:=Lib.hid own1
        have B1:=Lib.hid hb1
        clear own1 hb1)
     | (go_at_call 85;refine NA.out.mono ?_;rintro _ X2 ⟨bk,mb,rfl,k1,k2,k3,k4⟩
        have r2:=KP.out X2 (B1.out.trans (k2.mono B1.out.size))
        have r3:=KP.out (X2.alloc (.cells (dmC t ⟨a1,n,c1⟩ jb bk false) 109)) ((B1.out.trans (k2.mono B1.out.size)).alloc (B1.out.trans (k2.mono B1.out.size)).size _)
        have FIN:=Lib.hid (And.intro (own_keep O1.out (Nat.le_refl _) k2) (And.intro k1 (And.intro (B1.out.trans (k2.mono B1.out.size)) (And.intro (Nat.le_trans B1.out.size k3) (Nat.le_trans B1.out.size k4)))))
        clear k1 k2 k3 k4)
     | (go_at_call 85;refine NB.out.mono ?_;rintro _ X1 ⟨bk,mb,rfl,k1,k2,k3,k4⟩
        have r1:=KP.out X1 k2
        have CB:=Lib.hid (Clone_any (w:=X1) (HS3.out.keep (Nat.le_refl _) k2) (by omega))
        have K1:=Lib.hid k1
        have K2:=Lib.hid k2
        have K3:=Lib.hid (And.intro k3 k4)
        clear k1 k2 k3 k4)
     | (go_at_call 37;refine CB.out.mono ?_;rintro _ X2 ⟨a1,c1,rfl,hb1,own1⟩
        have r2:=KP.out X2 (K2.out.trans (hb1.mono K2.out.size))
        have r3:=KP.out (X2.alloc (.cells (dmC t ⟨a1,n,c1⟩ jb bk false) 109)) ((K2.out.trans (hb1.mono K2.out.size)).alloc (K2.out.trans (hb1.mono K2.out.size)).size _)
        have FIN:=Lib.hid (And.intro (own_base own1 K2.out.size) (And.intro (K1.out.below hb1) (And.intro (K2.out.trans (hb1.mono K2.out.size)) K3.out)))
        clear own1 hb1))
 all_goals
   have b3:Below W3.heap.size W3 X2:=(Below.refl W3.heap.size W3).drew.trans FIN.out.2.2.1
   obtain ⟨D,e1,q1,q2,q3,q4,q5,q6,q7⟩:=born_dae (t:=t) BX.out.below TB.out JD.out JB.out HH.out HC.out FIN.out.1 FIN.out.2.1 b3 FIN.out.2.2.2.1 FIN.out.2.2.2.2 h0
   rw [← e1]
   have b4:Below W3.heap.size W3 (X2.alloc (.cells (dmC t ⟨a1,n,c1⟩ jb bk false) 109)):=b3.alloc b3.size _
   generalize X2.alloc _=Y at *
   have frd:FrD Y D (.slice ao L.length cc) K:=⟨let q:=(FW.out.1.keep (Nat.le_refl _) b4).base (Nat.zero_le _);q.fr,fun k hk q=>by
     rcases q6 k q with q | ⟨x,q⟩
     · have:=(FW.out.1.fr.row.lt k hk).2;omega
     · exact FW.out.1.clear k hk x q,fun f hf k hk q=>by
     rcases q6 k q with q | ⟨x,q⟩
     · have:=((FW.out.1.fr.body f hf).lt k hk).2;omega
     · exact FW.out.1.bclear f hf k hk x q⟩
   have hbase:Base Y D:=by
     obtain ⟨g1,g2,g3,g4⟩:=HG.out
     have hw:∀ i,i ≤ 2→Y.heap[i]?=w.heap[i]?:=fun i hi=>(b4.block i (by have:=TB.out.t.size;have:=BX.out.below.size;omega)).trans ((TB.out.t.block i (by have:=BX.out.below.size;omega) (g4 i hi)).trans (BX.out.below.block i (by omega)))
     have hn:∀ i,i ≤ 2→¬ D.all i:=fun i hi=>(q4.keep i (by omega) (g4 i hi)).2
     obtain ⟨t4,y4⟩:=g2.g4
     obtain ⟨t5,y5⟩:=g2.g5
     exact ⟨fun j v hj=>(Sx.cell_block (hw 0 (by decide)) _).1.trans (g1 j v hj),⟨⟨t4,(hw 1 (by decide)).trans y4⟩,⟨t5,(hw 2 (by decide)).trans y5⟩⟩,hn 0 (by decide),hn 1 (by decide),hn 2 (by decide)⟩
   have RES:=Lib.hid (And.intro q1 (And.intro q2 (And.intro q3 (And.intro q4 (And.intro q5 q7)))))
   have FR:=Lib.hid frd
   have BS:=Lib.hid hbase
   clear q1 q2 q3 q4 q5 q6 q7 e1 FIN r1 r2 r3 rt lt3 b3 b4 frd hbase
   go_upto_region 11 with (fail)
   go_loopw [43] (fun i wr=>∃ (k:Nat) (M':List (Int × En)),k ≤ L.length∧i=.int .i64 k∧Dae wr { D with M:=M' }∧Run (bkOf M') (L.drop k) B∧Trans Y D wr { D with M:=M' }) (fun i _=>L.length - (intOf i).toNat)
 case atStart=>exact ⟨0,D.M,Nat.zero_le _,rfl,RES.out.1.dae,by rw [RES.out.2.2.2.2.2];exact HR.out,Trans.below (Below.refl _ _)⟩
 case round=>
   obtain ⟨k,M',hk,rfl,hd,hrun,htr⟩:=hrel
   have HT:=Lib.hid htr
   have HDA:=Lib.hid hd
   have fr:=FR.out.trans htr
   have FR2:=Lib.hid fr
   by_cases hlt:k < L.length
   · have i1:(k:Int) < L.length:=by omega
     have hdr:L.drop k=L[k] :: L.drop (k + 1):=List.drop_eq_getElem_cons hlt
     have hak:L[k]?=some L[k]:=List.getElem?_eq_getElem hlt
     generalize L[k]=a at hdr hak
     rw [hdr] at hrun
     obtain ⟨B1,ad,run2⟩:=hrun.head
     obtain ⟨f,hf,fk,fb⟩:=told_it FW.out.2 hak
     have hKl:K.length=L.length:=by have:=congrArg List.length FW.out.2;simpa [told,rowsIt] using this
     obtain ⟨g,cur,rfl,hg,hcz,hcap,hcf⟩:=fr_own (by omega) fr.fr hKl
     have rg:=rowOf_of hg
     obtain ⟨c0,c1'⟩:=hcf k f hf
     have i3:=sub_two c0 c1'
     have i2:k * 2 + 2 ≤ cur.size:=by omega
     have hSl:Sl wr f.ao f.body.length f.cap (bts a.row.2):=by rw [← fb];exact Sl.own (fr.fr.body f (List.mem_of_getElem? hf))
     rw [fk] at i3
     unfold Fm.val at i3
     have HSL:=Lib.hid hSl
     have AD:=Lib.hid (And.intro ad run2)
     clear hd hrun htr fr hf fk fb hKl hg hcf c0 c1' hSl ad run2 hdr hak hcz
     go_upto_region 13 with (fail)
     have bm:=Bx.new wr #[.int .i64 1,.slice f.ao f.body.length f.cap] 177
     generalize wr.alloc (.cells #[.int .i64 1,.slice f.ao f.body.length f.cap] 177)=V1 at bm ⊢
     have rf:=bm.rowOf
     have T1:=HT.out.trans (Trans.below bm.below)
     have RG:=Lib.hid (RGet_it AD.out.1.ok (BS.out.trans T1).forms (HSL.out.keep (Nat.le_refl _) bm.below))
     have BM:=Lib.hid bm
     clear rg i3 i2 bm T1
     go_wp2_with fail
     refine RG.out.mono ?_
     rintro _ V2 ⟨rfl,hb2⟩
     go_upto_region 14 with (fail)
     have bm2:=Bx.made V2 Rc.zero.cells a.rc.cells 119
     have bm:=(BM.out.step hb2).step bm2.below
     have x2:=Lib.hid (Array.getElem?_eq_some_iff.1 (BM.out.step hb2).row).1
     generalize (V2.alloc (.cells Rc.zero.cells 119)).setRow V2.heap.size a.rc.cells=V3 at bm2 bm ⊢
     have T3:=HT.out.trans (Trans.below bm.below)
     have d3:=HDA.out.below bm.below
     have AP:=Lib.hid (app_it (w:=V3.drew) (d3.below (Below.refl _ V3).drew) ((BS.out.trans T3).trans (Trans.below (Below.refl _ V3).drew)) AD.out.1)
     have lw:=HDA.out
     have nf:¬ Dm.all { D with M:=M' } wr.heap.size:=fun q=>absurd (lw.all_lt q) (Nat.lt_irrefl _)
     have nr:¬ Dm.all { D with M:=M' } V2.heap.size:=fun q=>by have:=lw.all_lt q;have:=(BM.out.step hb2).below.size;omega
     have rf:=bm.rowOf
     have rr:=bm2.rowOf
     have rx:=rowOf_of d3.row
     unfold Dm.cells at rx
     have R2:rowOf V3.drew wr.heap.size=#[.int .i64 1,.slice f.ao f.body.length f.cap]∧rowOf V3.drew D.xb=dmC D.t D.sv D.jb D.bk false∧rowOf V3.drew V2.heap.size=a.rc.cells:=⟨rf,rx,rr⟩
     have HM:=Lib.hid (And.intro bm.row (And.intro bm2.row (And.intro nf nr)))
     have T3:=Lib.hid T3
     have z1:=r_size a.rc
     have z2:=r_whole a.rc
     generalize V2.heap.size=rb at *
     generalize wr.heap.size=fb at *
     clear BM RG hb2 bm bm2 d3 lw nf nr rf rr rx x2
     go_region_held3 (fun w'=>rowOf w' fb=#[.int .i64 1,.slice f.ao f.body.length f.cap]∧rowOf w' D.xb=dmC D.t D.sv D.jb D.bk false∧rowOf w' rb=a.rc.cells) (first | exact R2 | exact R3)
       ((go_at_call 70;(with_reducible refine AP.out.mono ?_);rintro _ X ⟨rfl,M2,d2,b2,t2⟩
         have x1:=(t2.keep fb (Array.getElem?_eq_some_iff.1 HM.out.1).1 HM.out.2.2.1).1.trans HM.out.1
         have x2:=(t2.keep rb (Array.getElem?_eq_some_iff.1 HM.out.2.1).1 HM.out.2.2.2).1.trans HM.out.2.1
         have x3:=rowOf_of d2.row
         unfold Dm.cells at x3
         have R3:rowOf X fb=#[.int .i64 1,.slice f.ao f.body.length f.cap]∧rowOf X D.xb=dmC D.t D.sv D.jb D.bk false∧rowOf X rb=a.rc.cells:=⟨rowOf_of x1,x3,rowOf_of x2⟩
         have HZ:=Lib.hid (And.intro d2 (And.intro b2 (T3.out.trans ((Trans.below (Below.refl _ V3).drew).trans t2))))
         clear d2 b2 t2 x1 x2 x3))
     have wk:IntKind.i64.wrap ((k:Int) + 1)=(k:Int) + 1:=wrap_small (by omega) (by have:=HR.out.room;have:=secL_ge (rowsIt L);have:=el;omega)
     clear R2 R3 AP z1 z2
     go_wp2
     go_roundw
     case rel=>exact ⟨k + 1,M2,hlt,rfl,HZ.out.1,by rw [HZ.out.2.1];exact AD.out.2,HZ.out.2.2⟩
     case measure=>simp [intOf];omega
   · obtain rfl:k=L.length:=by omega
     rw [List.drop_length] at hrun
     cases hrun
     have i1:¬ (L.length:Int) < L.length:=by omega
     clear hd htr fr
     go_wp2
     refine bodyPost_ret (results_tmp2 rfl _ _ _) rfl ?_
     obtain ⟨q1,q2,q3,q4,q5,q6⟩:=RES.out
     have ht:=HT.out
     exact ⟨{ D with M:=M' },rfl,⟨HDA.out,(q1.dae.calm q1.cal).on,q1.rows,rfl,HR.out⟩,q1.dae.calm q1.cal,q2,q3,q4.trans ht,q5⟩
end Go.Proofs.YtjkfondgacjpnaaGreatDoor
