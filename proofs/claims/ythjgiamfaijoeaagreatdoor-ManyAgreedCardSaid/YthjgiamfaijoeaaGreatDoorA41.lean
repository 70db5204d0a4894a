/- What is proved: parts of the walk and of the plain law. No condition but those each law names. -/
import Derived.Test.YthjgiamfaijoeaaGreatDoorA40
import Derived.Test.YthjgiamfaijoeaaGreatDoorA33
import Derived.Test.YthjgiamfaijoeaaGreatDoorA32
import Derived.Test.YthjgiamfaijoeaaGreatDoorA00
set_option linter.unusedSimpArgs false
set_option linter.unusedVariables false
namespace Go.Proofs.YthjgiamfaijoeaaGreatDoor
open Go.RowKit
open Sx (Ab DW Turns Did Foot)
set_option maxRecDepth 100000
theorem zx8 {α:Type} (M:List (Int × α)) (i:Int) (a b:α):putA (putA M i a) i b=putA M i b:=by
 induction M with
 | nil=>simp [putA]
 | cons p M ih=>
  obtain ⟨k,x⟩:=p
  unfold putA
  by_cases h:i=k
  ·simp [h,putA]
  ·simp [h,putA,ih]
theorem zhd {B:List (Int × Sw)} {k:Int} (h:zch B k=0):getA B k=none∧B.length < 16:=by
 unfold zch at h
 split at h
 ·omega
 ·rename_i q
  split at h
  ·rename_i q2
   exact ⟨by cases hg:getA B k with | none=>rfl | some s=>rw [hg] at q;exact absurd rfl q,q2⟩
  ·omega
theorem zx9 {B:List (Int × Sw)} {d:Dl} (h:za6 d=true) (hs:Small d.h.l) (hr:zch B d.i=0):Run B [.dl d] (putA B d.i (newS d)):=
 .cons (.dl h hs (zhd hr).1 (zhd hr).2) .nil
theorem zya {B:List (Int × Sw)} {d:Dl} {s:Hs} (h:za6 d=true) (hs:Small d.h.l) (hr:zch B d.i=0) (hss:Small s.l) (hsum:sumH s.l=d.h):Run B [.dl d,.se d.i s] (putA B d.i (zez d s)):=by
 refine .cons (.dl h hs (zhd hr).1 (zhd hr).2) ?_
 have:=Run.cons (Adds.se (B:=putA B d.i (newS d)) (zld h) hss (by rw [zba,if_pos rfl]) hsum) Run.nil
 rw [zx8] at this
 exact this
def zb8 (D:Dm) (B:List (Int × Sw)) (i peer:Int) (p g:Lg) (n:Cl):Int:=
 if errD (zbm D i peer p g n) ≠ 0 then errD (zbm D i peer p g n) else if p.a < D.t.least ∨ p.a > D.t.most then 22 else zch B i
attribute [local go_sem ↓] zad ebl1 ebl2 zug zuh zxh zul
attribute [local go_sem] zaf zai zaj zal zab zah zae Ext.row Ext.soft_ zue zuf zly zlz
theorem Dae0.row_ {k:Bool} {w:World} {D:Dm} (h:Dae0 k w D) {b:Nat} (hb:¬ D.all b) (C:Array Value):Dae0 k (w.setRow b C) D:=
 h.keepB (fun i hi=>setRow_other _ _ _ _ fun e=>hb (e ▸ hi)) (by simp [World.setRow])
theorem On.row_ {w:World} {D:Dm} {L:List It} {B:List (Int × Sw)} (h:On w D L B) {b:Nat} (hb:¬ D.all b) (C:Array Value):On (w.setRow b C) D L B:=
 ⟨h.dae.keepB (fun i hi=>setRow_other _ _ _ _ fun e=>hb (e ▸ hi)) (by simp [World.setRow]),h.on,h.rows,h.book,h.run⟩
section
variable {w:World} {D:Dm} {n:Cl} {i peer:Int} {p g:Lg}
set_option maxHeartbeats 4000000 in
theorem zn7 {L:List It} {B:List (Int × Sw)} (hL:On w D L B) (hB:Base w D) (hT:TmK D.t) (hsl:D.seed.length ≤ 64) (hi:I64 i):
  Calls Tryz.prog 67 #[.pointer (some ⟨D.xb,0,none⟩),.int .i64 i,.int .i64 peer,.agg p.cells,.agg g.cells,.agg n.cells] w fun e w'=>
   (∃ k,k ≠ 0∧zb8 D B i peer p g n=k∧e=.returned (.tuple #[.agg Msg.zero.cells,.int .i64 k])∧Below w.heap.size w w') ∨
   (zb8 D B i peer p g n=0∧((e=.returned (.tuple #[.agg (zaz (zbm D i peer p g n)).cells,.int .i64 0])∧zp0 w D (L ++ [.dl (zbm D i peer p g n),.se i (secretH (D.seed ++ intI i))]) (putA B i (zez (zbm D i peer p g n) (secretH (D.seed ++ intI i)))) w') ∨
    (e=.returned (.tuple #[.agg Msg.zero.cells,.int .i64 9])∧KeptNo w D L [.dl (zbm D i peer p g n),.se i (secretH (D.seed ++ intI i))] w'))):=by
 unfold zb8 zbm
 have h:=hL.dae
 have H:=zac8 h
 have HL:=zac8 hL
 have HB:=zac8 hB
 have HT:=zac8 hT
 have HSL:=zac8 hsl
 have HI:=zac8 hi
 generalize hs:secretH (D.seed ++ intI i)=s at *
 generalize hd:zgb D.t ⟨i,1,p,g,sumH s.l,peer⟩ n=d at *
 generalize hc:errD d=ke at *
 generalize hpf:(if ke ≠ 0 then ke else if p.a < D.t.least ∨ p.a > D.t.most then 22 else zch B i)=pf
 have HPF:=zac8 hpf
 have HS:=zac8 hs
 have HD:=zac8 hd
 have HC:=zac8 hc
 clear h hL hB hT hsl hi hs hd hc hpf
 go_enter Tryz.func67,Tryz.ntmps67
 go_upto_region 1 with (fail)
 have bx:=Bxs.new4 w p.cells 30 g.cells 30 n.cells 52 Msg.zero.cells 118
 generalize (((w.alloc (.cells p.cells 30)).alloc (.cells g.cells 30)).alloc (.cells n.cells 52)).alloc (.cells Msg.zero.cells 118)=W at bx ⊢
 have SC:=zre (H.out.below bx.below) (HB.out.trans (Trans.below bx.below)) HSL.out HI.out
 rw [HS.out] at SC
 have SC:=zac8 SC
 have BX:=zac8 bx
 clear bx
 go_wp2_with fail
 refine SC.out.mono ?_
 rintro _ W2 ⟨rfl,hb⟩
 have bx:=BX.out.step hb
 clear BX SC hb
 have BX:=zac8 bx
 clear bx
 go_upto_region 2 with (fail)
 have LW:=zac8 BX.out.below.size
 have L':=Bx.made W2 Hs.zero.cells s.cells 58
 generalize (W2.alloc (.cells Hs.zero.cells 58)).setRow W2.heap.size s.cells=W3 at L' ⊢
 have bx:=BX.out.step L'.below
 clear BX
 have rx0:=bx.row' 0 rfl
 have rx1:=bx.row' 1 rfl
 have rx2:=bx.row' 2 rfl
 have lt0:=bx.lt 0 rfl
 have lt1:=bx.lt 1 rfl
 have lt2:=bx.lt 2 rfl
 simp only [Nat.add_zero] at rx0 lt0
 have rs:=L'.rowOf
 have lts:=(zac7 L'.row).1
 have D3:=H.out.below bx.below
 have B3:=HB.out.trans (Trans.below bx.below)
 have rD:=zaa D3.row
 unfold Dm.cells at rD
 have ltx:D.xb < W3.heap.size:=D3.lt (.inl rfl)
 have K1:∀ g:Ext W3,Calls Tryz.prog 106 #[.slice (some ⟨W2.heap.size,0,none⟩) 32 32] g.val (Ret (.agg (sumH s.l).cells) g.val):=fun g=>
  zbz (zfu (B3.tabs.keep (zac9 _) g.below) (Sl.keep (sl_in rs (zs0 s)) (zac9 _) g.below) (by decide))
 have K1:=zac8 K1
 have K2:∀ w:World,Calls Tryz.prog 105 #[.agg D.t.cells,.agg (Dl.cells ⟨i,1,p,g,sumH s.l,peer⟩),.agg n.cells] w (Ret (.agg d.cells) w):=fun w=>by
  have:=zbz (zxa HT.out.tm ⟨i,1,p,g,sumH s.l,peer⟩ n w)
  rw [HD.out] at this
  exact this
 have K2:=zac8 K2
 have BX:=zac8 bx
 have LS:=zac8 L'
 clear bx L' D3 B3
 (refine zaw 14 13 (fun N=>.pointer (some ⟨N,0,none⟩)) (.cells Dl.zero.cells 60) (by kernel_rfl) (by kernel_rfl) ?_;simp only [List.take_succ_cons,List.take_zero,List.drop_succ_cons,List.drop_zero];(repeat (first | (refine grow_lay rfl (fun _=>rfl) (fun _ _=>(by simp [go_sem])) ?_;simp only [Act.put,List.setIfInBounds_toArray,List.set_cons_succ,List.set_cons_zero]) | (refine grow_step rfl (fun K hK=>?_);go_simp;(first | (refine hK _ ?_;clear hK K) | (apply Exists.intro;refine ⟨fun _=>?_,hK _ ?_⟩;((first | (go_at_call 106;exact K1.out _) | (go_at_call 105;exact K2.out _)));clear hK K)))));refine (fun N w' hN lN eN ⟨g3,he⟩=>?_);subst he;have rN:=zaa eN;have sN:=zan eN;clear eN)
 have bw:=Below.setRow_ g3.below hN d.cells
 have rd:rowOf (g3.val.setRow N d.cells) N=d.cells:=(zab _ _ _ _ sN).trans (if_pos rfl)
 have sd:soft (g3.val.setRow N d.cells) N=true:=(zah _ _ _ _).trans sN
 obtain ⟨td,htd⟩:=zfd sd
 rw [rd] at htd
 have ps:PSt w (g3.val.setRow N d.cells) p g n s d W2.heap.size N:=⟨BX.out.step bw,(bw.block _ (zac7 LS.out.row).1).trans LS.out.row,⟨td,htd⟩,LW.out,Nat.le_trans LW.out (Nat.le_trans (Nat.le_of_lt (zac7 LS.out.row).1) hN)⟩
 have PS:=zac8 ps
 clear rx0 rx1 rx2 lt0 lt1 lt2 rs lts rD ltx K1 K2 BX LS bw sd htd ps
 go_frame
 go_upto_region 3 with (fail)
 generalize g3.val.setRow N d.cells=V at *
 clear hN rN sN
 have C:=zac8 (zfa HC.out V)
 go_wp2_with fail
 refine C.out.mono ?_
 rintro _ V2 ⟨rfl,hb⟩
 have ps:=PS.out.step hb
 clear PS rd C hb
 have rp:=ps.bx.row' 0 rfl
 simp only [Nat.add_zero] at rp
 have rD:=zaa (H.out.below ps.bx.below).row
 unfold Dm.cells at rD
 have PS:=zac8 ps
 clear ps
 by_cases hk0:ke=0
 case neg=>
  have k0:(ke == 0)=false:=beq_eq_false_iff_ne.2 hk0
  have rx3:=PS.out.bx.row' 3 rfl
  have sx3:=PS.out.bx.soft' 3 rfl
  have BB:=zac8 PS.out.bx.below
  have hc:rowOf (World.setRow V2 (w.heap.size + 1 + 1 + 1) Msg.zero.cells) (w.heap.size + 1 + 1 + 1)=Msg.zero.cells:=(zab _ _ _ _ sx3).trans (if_pos rfl)
  have HC3:=zac8 hc
  have HK0:=zac8 hk0
  clear hc hk0
  go_wp2
  refine bodyPost_ret (zaq (t:=118) rfl Tryz.underlying118 rfl (by kernel_rfl) _ _ (w.heap.size + 1 + 1 + 1) rfl HC3.out (zc3 _)) rfl ?_
  exact .inl ⟨ke,HK0.out,by rw [← HPF.out,if_pos HK0.out],rfl,Below.setRow_ BB.out (Nat.le_add_right _ _) _⟩
 subst hk0
 go_upto_region 8 with (fail)
 rcases (show p.a < D.t.least ∨ (¬ p.a < D.t.least∧p.a > D.t.most) ∨ (¬ p.a < D.t.least∧¬ p.a > D.t.most) by omega) with q | ⟨q,q2⟩ | ⟨q,q2⟩
 case' inl=>have l1:(p.a < D.t.least)=True:=eq_true q;have HQ:=zac8 (show p.a < D.t.least ∨ p.a > D.t.most from .inl q)
 case' inr.inl=>have l1:(p.a < D.t.least)=False:=eq_false q;have l2:(p.a > D.t.most)=True:=eq_true q2;have HQ:=zac8 (show p.a < D.t.least ∨ p.a > D.t.most from .inr q2)
 case' inr.inr=>have l1:(p.a < D.t.least)=False:=eq_false q;have l2:(p.a > D.t.most)=False:=eq_false q2;have HQ:=zac8 (show ¬ (p.a < D.t.least ∨ p.a > D.t.most) by omega)
 case inl=>
  clear q
  go_region
  have PS2:=zac8 (PS.out.step (Below.refl _ V2).drew)
  clear rp rD PS l1
  generalize V2.drew=V3 at *
  have rx3:=PS2.out.bx.row' 3 rfl
  have sx3:=PS2.out.bx.soft' 3 rfl
  have BB:=zac8 PS2.out.bx.below
  have hc:rowOf (World.setRow V3 (w.heap.size + 1 + 1 + 1) Msg.zero.cells) (w.heap.size + 1 + 1 + 1)=Msg.zero.cells:=(zab _ _ _ _ sx3).trans (if_pos rfl)
  have HC3:=zac8 hc
  clear hc
  go_wp2
  refine bodyPost_ret (zaq (t:=118) rfl Tryz.underlying118 rfl (by kernel_rfl) _ _ (w.heap.size + 1 + 1 + 1) rfl HC3.out (zc3 _)) rfl ?_
  exact .inl ⟨22,by decide,by rw [← HPF.out,if_neg (by simp),if_pos HQ.out],rfl,Below.setRow_ BB.out (Nat.le_add_right _ _) _⟩
 case inr.inl=>
  clear q q2
  go_region
  have PS2:=zac8 (PS.out.step (Below.refl _ V2).drew)
  clear rp rD PS l1 l2
  generalize V2.drew=V3 at *
  have rx3:=PS2.out.bx.row' 3 rfl
  have sx3:=PS2.out.bx.soft' 3 rfl
  have BB:=zac8 PS2.out.bx.below
  have hc:rowOf (World.setRow V3 (w.heap.size + 1 + 1 + 1) Msg.zero.cells) (w.heap.size + 1 + 1 + 1)=Msg.zero.cells:=(zab _ _ _ _ sx3).trans (if_pos rfl)
  have HC3:=zac8 hc
  clear hc
  go_wp2
  refine bodyPost_ret (zaq (t:=118) rfl Tryz.underlying118 rfl (by kernel_rfl) _ _ (w.heap.size + 1 + 1 + 1) rfl HC3.out (zc3 _)) rfl ?_
  exact .inl ⟨22,by decide,by rw [← HPF.out,if_neg (by simp),if_pos HQ.out],rfl,Below.setRow_ BB.out (Nat.le_add_right _ _) _⟩
 clear q q2
 go_region
 have PS2:=zac8 (PS.out.step (Below.refl _ V2).drew)
 clear rp rD PS l1 l2
 generalize V2.drew=V3 at *
 have RM:=zpz (H.out.below PS2.out.bx.below) (by rw [HL.out.book];exact HL.out.fine) i
 rw [HL.out.book] at RM
 generalize hro:zch B i=ro at *
 have RM:=zac8 RM
 have HRO:=zac8 hro
 clear hro
 go_wp2_with fail
 refine RM.out.mono ?_
 rintro _ V4 ⟨rfl,hb⟩
 have PS:=zac8 (PS2.out.step hb)
 clear RM hb PS2
 have rs:=zaa PS.out.rs
 have rd:=PS.out.d
 by_cases hr0:ro=0
 case neg=>
  have k0:(ro == 0)=false:=beq_eq_false_iff_ne.2 hr0
  have rx3:=PS.out.bx.row' 3 rfl
  have sx3:=PS.out.bx.soft' 3 rfl
  have BB:=zac8 PS.out.bx.below
  have hc:rowOf (World.setRow V4 (w.heap.size + 1 + 1 + 1) Msg.zero.cells) (w.heap.size + 1 + 1 + 1)=Msg.zero.cells:=(zab _ _ _ _ sx3).trans (if_pos rfl)
  have HC3:=zac8 hc
  have HK0:=zac8 hr0
  clear hc hr0
  go_wp2
  refine bodyPost_ret (zaq (t:=118) rfl Tryz.underlying118 rfl (by kernel_rfl) _ _ (w.heap.size + 1 + 1 + 1) rfl HC3.out (zc3 _)) rfl ?_
  exact .inl ⟨ro,HK0.out,by rw [← HPF.out,if_neg (by simp),if_neg HQ.out],rfl,Below.setRow_ BB.out (Nat.le_add_right _ _) _⟩
 subst hr0
 have hdi:d.i=i:=by rw [← HD.out];exact (zii _ _ _).1
 have hdh:d.h=sumH s.l:=by rw [← HD.out];exact (zii _ _ _).2
 have hss:Small s.l:=by rw [← HS.out];exact zev _
 have hsd:Small d.h.l:=by rw [hdh];exact zev _
 have hrc:Rc.cells ⟨1,i,d,Hs.zero,0,0,Tv.zero⟩=(rcD d).cells:=by rw [← hdi];rfl
 have hpm:Msg.cells ⟨1,i,0,d.p,d.g,d.h⟩=(zaz d).cells:=by rw [← hdi];rfl
 have HPM:=zac8 hpm
 have HDI:=zac8 hdi
 have hok:za6 d=true:=by
  have:=HC.out
  unfold errD at this
  cases hd:za6 d with
  | true=>rfl
  | false=>rw [hd] at this;simp at this
 have hb:=(Below.refl V4.heap.size V4).alloc (zac9 _) (.cells ((rcD d).list ++ (rcS i s).list).toArray 162)
 have hbw:=PS.out.bx.below.trans (hb.mono PS.out.bx.below.size)
 have na:∀ j,w.heap.size ≤ j→¬ D.all j:=fun j hj q=>by have:=H.out.all_lt q;omega
 have KD:=zp1 (w:=V4.alloc (.cells ((rcD d).list ++ (rcS i s).list).toArray 162)) (its:=[.dl d,.se i s]) (zac9 2) (HL.out.below hbw) (by rw [← hdi];exact zya hok hsd (by rw [hdi];exact HRO.out) hss hdh.symm) (HB.out.trans (Trans.below hbw)) (C:=((rcD d).list ++ (rcS i s).list).toArray) (heap_alloc_new V4 _) (by simp [zqx]) (fun k a hk=>by
   match k,hk with
   | 0,hk=>cases hk;exact zbt [] (rcD d).list (rcS i s).list rfl (zqx _) rfl
   | 1,hk=>cases hk;exact zbt (rcD d).list (rcS i s).list [] (zqx _) (zqx _) (by simp)
   | k + 2,hk=>simp at hk) (na _ PS.out.bx.below.size)
 rw [hdi] at KD
 have KD:=zac8 (show Calls Tryz.prog 109 #[.pointer (some ⟨D.xb,0,none⟩),.slice (some ⟨V4.heap.size,0,none⟩) 2 2] _ _ from KD)
 have HW:=zac8 hbw
 have NA:=zac8 na
 have PS5:=zac8 (PS.out.step hb)
 clear hb hbw na hdi hdh hss hsd hok hpm PS
 go_upto_region 11 with (fail)
 go_wp2_with fail
 refine KD.out.mono ?_
 rintro _ Z (⟨rfl,D',q1,qc,q2⟩ | ⟨rfl,qc,D',k,a,q0,q1,q3,q4,q5,q2⟩)
 ·have bd:rowOf Z N=d.cells:=by
   obtain ⟨t,ht⟩:=PS5.out.rd
   exact zaa ((q2.keep _ (zac7 ht).1 (NA.out _ PS5.out.lN)).1.trans ht)
  have h3:=PS5.out.bx.rows 3 _ _ rfl
  have b3:Z.heap[w.heap.size + 3]?=some (.cells Msg.zero.cells 118):=(q2.keep _ (zac7 h3).1 (NA.out _ (Nat.le_add_right _ _))).1.trans h3
  have n3:=(q2.keep _ (zac7 h3).1 (NA.out _ (Nat.le_add_right _ _))).2
  have rx3:=zaa b3
  have sx3:=zan b3
  have Q1:=zac8 (And.intro q1 qc)
  have Q2:=zac8 ((Trans.below HW.out).trans q2)
  clear q1 q2 qc KD PS5 HW rs rd hrc h3 b3
  have hpm:=HPM.out
  have hc:rowOf (World.setRow Z (w.heap.size + 1 + 1 + 1) (zaz d).cells) (w.heap.size + 1 + 1 + 1)=(zaz d).cells:=(zab _ _ _ _ sx3).trans (if_pos rfl)
  have HC3:=zac8 hc
  clear hc
  go_wp2_with fail
  refine bodyPost_ret (zaq (t:=118) rfl Tryz.underlying118 rfl (by kernel_rfl) _ _ (w.heap.size + 1 + 1 + 1) rfl HC3.out (zc3 _)) rfl ?_
  exact .inr ⟨by rw [← HPF.out,if_neg (by simp),if_neg HQ.out],.inl ⟨rfl,D',Q1.out.1.row_ n3 _,Q1.out.2,Q2.out.row (Nat.le_add_right _ _) _⟩⟩
 ·have h3:=PS5.out.bx.rows 3 _ _ rfl
  have b3:Z.heap[w.heap.size + 3]?=some (.cells Msg.zero.cells 118):=(q2.keep _ (zac7 h3).1 (NA.out _ (Nat.le_add_right _ _))).1.trans h3
  have n3:=(q2.keep _ (zac7 h3).1 (NA.out _ (Nat.le_add_right _ _))).2
  have rx3:=zaa b3
  have sx3:=zan b3
  have Q1:=zac8 (And.intro qc (And.intro q0 (And.intro q1 (And.intro q3 (And.intro q4 q5)))))
  have Q2:=zac8 ((Trans.below HW.out).trans q2)
  clear q0 q1 q2 q3 q4 q5 qc KD PS5 HW rs rd hrc h3 b3
  have hc:rowOf (World.setRow Z (w.heap.size + 1 + 1 + 1) Msg.zero.cells) (w.heap.size + 1 + 1 + 1)=Msg.zero.cells:=(zab _ _ _ _ sx3).trans (if_pos rfl)
  have HC3:=zac8 hc
  clear hc
  go_wp2_with fail
  refine bodyPost_ret (zaq (t:=118) rfl Tryz.underlying118 rfl (by kernel_rfl) _ _ (w.heap.size + 1 + 1 + 1) rfl HC3.out (zc3 _)) rfl ?_
  obtain ⟨qc,q0,q1,q3,q4,q5⟩:=Q1.out
  exact .inr ⟨by rw [← HPF.out,if_neg (by simp),if_neg HQ.out],.inr ⟨rfl,qc,D',k,a,q0,q1.row_ n3 _,q3,q4,q5,Q2.out.row (Nat.le_add_right _ _) _⟩⟩
end
end Go.Proofs.YthjgiamfaijoeaaGreatDoor
namespace Go.Proofs.YthjgiamfaijoeaaGreatDoor
open Go.RowKit
open Sx (Ab DW Turns Did Foot)
set_option maxRecDepth 100000
theorem fr_own {w:World} {B n cap:Nat} {ao:Option Addr} {L:List Fm} (hn:0 < n) (h:Frames w B (.slice ao n cap) L) (hl:L.length=n):∃ g cur,ao=some ⟨g,0,none⟩∧w.heap[g]?=some (.cells cur 166)∧n * 2 ≤ cur.size∧n ≤ cap∧∀ (k:Nat) f,L[k]?=some f→cur[k * 2]?=some (.int .i64 f.kind)∧cur[k * 2 + 1]?=some f.val:=by
 have hr:=h.row
 rw [hl] at hr
 rcases hr.2 with ⟨hv,h0,_⟩ | ⟨g,cp,cur,hv,_,hh,hc,_,hs,ht⟩
 ·cases hv;omega
 ·cases hv
  have hz:cur.size=cap * 2:=hs
  have hz2:n * 2 ≤ cap * 2:=Nat.mul_le_mul_right 2 hc
  refine ⟨g,cur,rfl,hh,by omega,hc,fun k f hf=>?_⟩
  have hk:k < n:=by rw [← hl];exact (List.getElem?_eq_some_iff.1 hf).1
  obtain ⟨e1,e2⟩:=zsd L k f hf
  rw [← ht] at e1 e2
  rw [List.getElem?_take_of_lt (by omega)] at e1 e2
  exact ⟨by simpa using e1,by simpa using e2⟩
theorem zacl {cur:Array Value} {a:Nat} {x y:Value} (h0:cur[a]?=some x) (h1:cur[a + 1]?=some y):sub cur a 2=#[x,y]:=by
 have l1:=(zac7 h1).1
 unfold sub
 apply Array.ext_getElem?
 intro j
 rw [Array.getElem?_extract]
 match j with
 | 0=>rw [if_pos (by omega)];exact h0
 | 1=>rw [if_pos (by omega)];exact h1
 | j + 2=>rw [if_neg (by omega)];simp
attribute [local go_sem ↓] zad ebdm
attribute [local go_sem] zaf zai zaj zal zab zah zac zak zae zn0 zn1 zn2
theorem zacm (w:World) (ρ:Operand→Value) (x:Operand) (dst:Option Tmp) (ty:TypeId) (pos:String) (af:Array Edge) (gd:Option (Nat × Bool)) (hp:pp (ρ x)=true) (h:po (ρ x) + 2 ≤ (rowOf w (pb (ρ x))).size):(execOp ρ ⟨dst,.load 166 x,ty,pos,af,gd⟩).run Tryz.prog w=.ok (.value (.agg (sub (rowOf w (pb (ρ x))) (po (ρ x)) 2))) w:=
 zat 166 2 Tryz.underlying166 rfl (by kernel_rfl) w ρ x dst ty pos af gd hp h
attribute [local go_sem ↓] zacm
structure FrD (w:World) (D:Dm) (v:Value) (L:List Fm):Prop where
 fr:Frames w 0 v L
 clear:∀ k,v.ownBlock=some k→¬ D.all k
 bclear:∀ f ∈ L,∀ k,f.val.ownBlock=some k→¬ D.all k
theorem FrD.trans {w w':World} {D D':Dm} {v:Value} {L:List Fm} (h:FrD w D v L) (t:Trans w D w' D'):FrD w' D' v L:=
 ⟨h.fr.heap (fun k hk=>(t.keep k (h.fr.row.lt k hk).2 (h.clear k hk)).1) (fun f hf k hk=>(t.keep k ((h.fr.body f hf).lt k hk).2 (h.bclear f hf k hk)).1),fun k hk=>(t.keep k (h.fr.row.lt k hk).2 (h.clear k hk)).2,fun f hf k hk=>(t.keep k ((h.fr.body f hf).lt k hk).2 (h.bclear f hf k hk)).2⟩
theorem zacn {L:List It} {K:List Fm} (h:told K=zbc L) {k:Nat} {a:It} (ha:L[k]?=some a):∃ f,K[k]?=some f∧f.kind=1∧f.body=a.row.2:=by
 have e:=congrArg (fun q=>q[k]?) h
 simp only [told,zbc,List.getElem?_map,ha,Option.map_some] at e
 cases hf:K[k]? with
 | none=>rw [hf] at e;cases e
 | some f=>
  rw [hf] at e
  have e:=Option.some.inj e
  rw [zkg a] at e
  exact ⟨f,rfl,congrArg Prod.fst e,congrArg Prod.snd e⟩
theorem Born.trans {F:Foot} {w Y w':World} {D D':Dm} (h:Born F w D Y) (t:Trans Y D w' D'):Born F w D' w':=
 ⟨t.os.trans h.os,t.tape.trans h.tape,t.output.trans h.output,Nat.le_trans h.size t.size,fun i hi hn=>⟨(t.keep i (Nat.lt_of_lt_of_le hi h.size) (h.keep i hi hn).2).1.trans (h.keep i hi hn).1,(t.keep i (Nat.lt_of_lt_of_le hi h.size) (h.keep i hi hn).2).2⟩⟩
set_option maxHeartbeats 4000000 in
theorem zu8 {w:World} {F:Foot} {dv:Value} {A A':Ab} {j:Jr} {L:List It} {B:List (Int × Sw)} (H:DW w F dv A) (hA:Ab.Sm A) (ho:zce A=⟨0,A',j,zbc L⟩) (hh:Holds A' j (zbc L)) (hc:Calm A') (hr:Run [] L B) (hf:Forms w) (ht:Tabs w) (h3:3 < w.heap.size∧∀ i,i ≤ 3→∀ x,¬ F i x) {t:Tm} (hk:TmK t) {b o n c:Nat} {seed:List Nat} (hs:Sl w (some ⟨b,o,none⟩) n c (bts seed)) (h0:0 < n) (hn:n ≤ 64) (hb:b < w.heap.size) (hF:∀ x,¬ F b x):
   Calls Tryz.prog 72 #[.agg t.cells,.slice (some ⟨b,o,none⟩) n c,dv] w fun e w'=>∃ D,e=.returned (.tuple #[.pointer (some ⟨D.xb,0,none⟩),.int .i64 0])∧On w' D L B∧Calm D.A∧D.t=t∧D.seed=seed∧Born F w D w'∧D.dv=dv:=by
 have HK:=zac8 hk
 have HH:=zac8 hh
 have HC:=zac8 hc
 have HS:=zac8 hs
 have HF:=zac8 hF
 have HB:=zac8 hb
 have HD:=zac8 H
 have HA:=zac8 hA
 have HO:=zac8 ho
 have HR:=zac8 hr
 have HG:=zac8 (And.intro hf (And.intro ht h3))
 have hn2:((n:Int) > 64)=False:=eq_false (by omega)
 have el:(zbc L).length=L.length:=by unfold zbc;rw [List.length_map]
 obtain ⟨db,dof,rfl⟩:=zm5 H
 clear hk hh hc hs hF hb H hA ho hr hf ht h3
 go_enter Tryz.func72,Tryz.ntmps72
 go_upto_region 1 with (fail)
 have bx:=Bx.new w (t.cells) 68;generalize w.alloc (.cells (t.cells) 68)=W at bx ⊢;have rx:=bx.rowOf;have sx:=bx.soft;have BX:=zac8 bx;clear bx
 have Q:=zes t W
 rw [HK.out.chk] at Q
 have Q:=zac8 Q
 go_wp2_with fail
 refine (Q.out).mono ?_;rintro _ W2 ⟨rfl,hb⟩;have bx:=BX.out.step hb;clear BX rx sx hb;have rx:=bx.rowOf;have sx:=bx.soft;have BX:=zac8 bx;clear bx
 have hbW:=BX.out.below
 have O:=zss (HD.out.below hbW) HA.out HO.out
 rw [el] at O
 have O:=zac8 O
 clear hbW
 go_wp2_with fail
 refine O.out.mono ?_
 rintro _ W3 ⟨F',jb,ao,cc,K,rfl,jd,tb,hjb,frw,tdl⟩
 have l0:w.heap.size < W2.heap.size:=(zac7 BX.out.row).1
 have n0:∀ x,¬ F w.heap.size x:=fun x q=>absurd (HD.out.lt q) (Nat.lt_irrefl _)
 have rt:rowOf W3.drew w.heap.size=t.cells:=zaa ((tb.t.block _ l0 n0).trans BX.out.row)
 have lt3:w.heap.size < W3.heap.size:=Nat.lt_of_lt_of_le l0 tb.t.size
 have hs3:Sl W3.drew (some ⟨b,o,none⟩) n c (bts seed):=HS.out.block ((tb.t.block b (Nat.lt_of_lt_of_le HB.out BX.out.below.size) HF.out).trans (BX.out.below.block b HB.out))
 have CA:=zac8 (zb3 hs3 (by omega))
 have NB:=zac8 (zg6 W3.drew)
 have HS3:=zac8 hs3
 have JD:=zac8 jd
 have TB:=zac8 tb
 have JB:=zac8 hjb
 have L0:=zac8 l0
 have FW:=zac8 (And.intro frw tdl)
 clear jd tb hjb l0 n0 hs3 rx sx O Q frw tdl
 go_upto_region 9 with (fail)
 have keep:∀ X:World,Below W3.drew.heap.size W3.drew X→rowOf X w.heap.size=t.cells:=fun X hX=>by
   have:X.heap[w.heap.size]?=W3.drew.heap[w.heap.size]?:=hX.block _ lt3
   unfold rowOf at rt ⊢
   rw [this]
   exact rt
 have KP:=zac8 keep
 clear keep
 go_region_held3 (fun w'=>rowOf w' w.heap.size=t.cells) (first | exact rt | exact r1 | exact r2 | exact r3)
   (first
     | (go_at_call 34;refine CA.out.mono ?_;rintro _ X1 ⟨a1,c1,rfl,hb1,own1⟩
        have r1:=KP.out X1 hb1
        have NA:=zac8 (zg6 X1)
        have O1:=zac8 own1
        have B1:=zac8 hb1
        clear own1 hb1)
     | (go_at_call 112;refine NA.out.mono ?_;rintro _ X2 ⟨bk,mb,rfl,k1,k2,k3,k4⟩
        have r2:=KP.out X2 (B1.out.trans (k2.mono B1.out.size))
        have r3:=KP.out (X2.alloc (.cells (dmC t ⟨a1,n,c1⟩ jb bk false) 190)) ((B1.out.trans (k2.mono B1.out.size)).alloc (B1.out.trans (k2.mono B1.out.size)).size _)
        have FIN:=zac8 (And.intro (zbe O1.out (zac9 _) k2) (And.intro k1 (And.intro (B1.out.trans (k2.mono B1.out.size)) (And.intro (Nat.le_trans B1.out.size k3) (Nat.le_trans B1.out.size k4)))))
        clear k1 k2 k3 k4)
     | (go_at_call 112;refine NB.out.mono ?_;rintro _ X1 ⟨bk,mb,rfl,k1,k2,k3,k4⟩
        have r1:=KP.out X1 k2
        have CB:=zac8 (zb3 (w:=X1) (HS3.out.keep (zac9 _) k2) (by omega))
        have K1:=zac8 k1
        have K2:=zac8 k2
        have K3:=zac8 (And.intro k3 k4)
        clear k1 k2 k3 k4)
     | (go_at_call 34;refine CB.out.mono ?_;rintro _ X2 ⟨a1,c1,rfl,hb1,own1⟩
        have r2:=KP.out X2 (K2.out.trans (hb1.mono K2.out.size))
        have r3:=KP.out (X2.alloc (.cells (dmC t ⟨a1,n,c1⟩ jb bk false) 109)) ((K2.out.trans (hb1.mono K2.out.size)).alloc (K2.out.trans (hb1.mono K2.out.size)).size _)
        have FIN:=zac8 (And.intro (za0 own1 K2.out.size) (And.intro (K1.out.below hb1) (And.intro (K2.out.trans (hb1.mono K2.out.size)) K3.out)))
        clear own1 hb1))
 all_goals
   have b3:Below W3.heap.size W3 X2:=(Below.refl W3.heap.size W3).drew.trans FIN.out.2.2.1
   obtain ⟨D,e1,q1,q2,q3,q4,q5,q6,q7⟩:=zpi (t:=t) BX.out.below TB.out JD.out JB.out HH.out HC.out FIN.out.1 FIN.out.2.1 b3 FIN.out.2.2.2.1 FIN.out.2.2.2.2 h0
   rw [← e1]
   have b4:Below W3.heap.size W3 (X2.alloc (.cells (dmC t ⟨a1,n,c1⟩ jb bk false) 190)):=b3.alloc b3.size _
   generalize X2.alloc _=Y at *
   have frd:FrD Y D (.slice ao L.length cc) K:=⟨let q:=(FW.out.1.keep (zac9 _) b4).base (Nat.zero_le _);q.fr,fun k hk q=>by
     rcases q6 k q with q | ⟨x,q⟩
     · have:=(FW.out.1.fr.row.lt k hk).2;omega
     · exact FW.out.1.clear k hk x q,fun f hf k hk q=>by
     rcases q6 k q with q | ⟨x,q⟩
     · have:=((FW.out.1.fr.body f hf).lt k hk).2;omega
     · exact FW.out.1.bclear f hf k hk x q⟩
   have hbase:Base Y D:=by
     obtain ⟨g1,g2,g3,g4⟩:=HG.out
     have hw:∀ i,i ≤ 3→Y.heap[i]?=w.heap[i]?:=fun i hi=>(b4.block i (by have:=TB.out.t.size;have:=BX.out.below.size;omega)).trans ((TB.out.t.block i (by have:=BX.out.below.size;omega) (g4 i hi)).trans (BX.out.below.block i (by omega)))
     have hn:∀ i,i ≤ 3→¬ D.all i:=fun i hi=>(q4.keep i (by omega) (g4 i hi)).2
     obtain ⟨t4,y4⟩:=g2.g4
     obtain ⟨t5,y5⟩:=g2.g5
     exact ⟨fun j v hj=>(Sx.cell_block (hw 0 (by decide)) _).1.trans (g1 j v hj),⟨⟨t4,(hw 1 (by decide)).trans y4⟩,⟨t5,(hw 3 (by decide)).trans y5⟩⟩,hn 0 (by decide),hn 1 (by decide),hn 3 (by decide)⟩
   have RES:=zac8 (And.intro q1 (And.intro q2 (And.intro q3 (And.intro q4 (And.intro q5 q7)))))
   have FR:=zac8 frd
   have BS:=zac8 hbase
   clear q1 q2 q3 q4 q5 q6 q7 e1 FIN r1 r2 r3 rt lt3 b3 b4 frd hbase
   go_upto_region 11 with (fail)
   go_loopw [43] (fun i wr=>∃ (k:Nat) (M':List (Int × En)),k ≤ L.length∧i=.int .i64 k∧Dae wr { D with M:=M' }∧Run (bkOf M') (L.drop k) B∧Trans Y D wr { D with M:=M' }) (fun i _=>L.length - (intOf i).toNat)
 case atStart=>exact ⟨0,D.M,Nat.zero_le _,rfl,RES.out.1.dae,by rw [RES.out.2.2.2.2.2];exact HR.out,Trans.below (Below.refl _ _)⟩
 case round=>
   obtain ⟨k,M',hk,rfl,hd,hrun,htr⟩:=hrel
   have HT:=zac8 htr
   have HDA:=zac8 hd
   have fr:=FR.out.trans htr
   have FR2:=zac8 fr
   by_cases hlt:k < L.length
   · have i1:(k:Int) < L.length:=by omega
     have hdr:L.drop k=L[k] :: L.drop (k + 1):=List.drop_eq_getElem_cons hlt
     have hak:L[k]?=some L[k]:=List.getElem?_eq_getElem hlt
     generalize L[k]=a at hdr hak
     rw [hdr] at hrun
     obtain ⟨B1,ad,run2⟩:=hrun.head
     obtain ⟨f,hf,fk,fb⟩:=zacn FW.out.2 hak
     have hKl:K.length=L.length:=by have:=congrArg List.length FW.out.2;simpa [told,zbc] using this
     obtain ⟨g,cur,rfl,hg,hcz,hcap,hcf⟩:=fr_own (by omega) fr.fr hKl
     have rg:=zaa hg
     obtain ⟨c0,c1'⟩:=hcf k f hf
     have i3:=zacl c0 c1'
     have i2:k * 2 + 2 ≤ cur.size:=by omega
     have hSl:Sl wr f.ao f.body.length f.cap (bts a.row.2):=by rw [← fb];exact Sl.own (fr.fr.body f (List.mem_of_getElem? hf))
     rw [fk] at i3
     unfold Fm.val at i3
     have HSL:=zac8 hSl
     have AD:=zac8 (And.intro ad run2)
     clear hd hrun htr fr hf fk fb hKl hg hcf c0 c1' hSl ad run2 hdr hak hcz
     go_upto_region 13 with (fail)
     have bm:=Bx.new wr #[.int .i64 1,.slice f.ao f.body.length f.cap] 166
     generalize wr.alloc (.cells #[.int .i64 1,.slice f.ao f.body.length f.cap] 166)=V1 at bm ⊢
     have rf:=bm.rowOf
     have T1:=HT.out.trans (Trans.below bm.below)
     have RG:=zac8 (zab1 AD.out.1.ok (BS.out.trans T1).forms (HSL.out.keep (zac9 _) bm.below))
     have BM:=zac8 bm
     clear rg i3 i2 bm T1
     go_wp2_with fail
     refine RG.out.mono ?_
     rintro _ V2 ⟨rfl,hb2⟩
     go_upto_region 14 with (fail)
     have bm2:=Bx.made V2 Rc.zero.cells a.rc.cells 162
     have bm:=(BM.out.step hb2).step bm2.below
     have x2:=zac8 (zac7 (BM.out.step hb2).row).1
     generalize (V2.alloc (.cells Rc.zero.cells 162)).setRow V2.heap.size a.rc.cells=V3 at bm2 bm ⊢
     have T3:=HT.out.trans (Trans.below bm.below)
     have d3:=HDA.out.below bm.below
     have AP:=zac8 (zzn (w:=V3.drew) (d3.below (Below.refl _ V3).drew) ((BS.out.trans T3).trans (Trans.below (Below.refl _ V3).drew)) AD.out.1)
     have lw:=HDA.out
     have nf:¬ Dm.all { D with M:=M' } wr.heap.size:=fun q=>absurd (lw.all_lt q) (Nat.lt_irrefl _)
     have nr:¬ Dm.all { D with M:=M' } V2.heap.size:=fun q=>by have:=lw.all_lt q;have:=(BM.out.step hb2).below.size;omega
     have rf:=bm.rowOf
     have rr:=bm2.rowOf
     have rx:=zaa d3.row
     unfold Dm.cells at rx
     have R2:rowOf V3.drew wr.heap.size=#[.int .i64 1,.slice f.ao f.body.length f.cap]∧rowOf V3.drew D.xb=dmC D.t D.sv D.jb D.bk false∧rowOf V3.drew V2.heap.size=a.rc.cells:=⟨rf,rx,rr⟩
     have HM:=zac8 (And.intro bm.row (And.intro bm2.row (And.intro nf nr)))
     have T3:=zac8 T3
     have z1:=zec a.rc
     have z2:=zj1 a.rc
     generalize V2.heap.size=rb at *
     generalize wr.heap.size=fb at *
     clear BM RG hb2 bm bm2 d3 lw nf nr rf rr rx x2
     go_region_held3 (fun w'=>rowOf w' fb=#[.int .i64 1,.slice f.ao f.body.length f.cap]∧rowOf w' D.xb=dmC D.t D.sv D.jb D.bk false∧rowOf w' rb=a.rc.cells) (first | exact R2 | exact R3)
       ((go_at_call 114;(with_reducible refine AP.out.mono ?_);rintro _ X ⟨rfl,M2,d2,b2,t2⟩
         have x1:=(t2.keep fb (zac7 HM.out.1).1 HM.out.2.2.1).1.trans HM.out.1
         have x2:=(t2.keep rb (zac7 HM.out.2.1).1 HM.out.2.2.2).1.trans HM.out.2.1
         have x3:=zaa d2.row
         unfold Dm.cells at x3
         have R3:rowOf X fb=#[.int .i64 1,.slice f.ao f.body.length f.cap]∧rowOf X D.xb=dmC D.t D.sv D.jb D.bk false∧rowOf X rb=a.rc.cells:=⟨zaa x1,x3,zaa x2⟩
         have HZ:=zac8 (And.intro d2 (And.intro b2 (T3.out.trans ((Trans.below (Below.refl _ V3).drew).trans t2))))
         clear d2 b2 t2 x1 x2 x3))
     have wk:IntKind.i64.wrap ((k:Int) + 1)=(k:Int) + 1:=zau (by omega) (by have:=HR.out.room;have:=zsj (zbc L);have:=el;omega)
     clear R2 R3 AP z1 z2
     go_wp2
     go_roundw
     case rel=>exact ⟨k + 1,M2,hlt,rfl,HZ.out.1,by rw [HZ.out.2.1];exact AD.out.2,HZ.out.2.2⟩
     case measure=>simp [intOf];omega
   · obtain rfl:k=L.length:=by omega
     rw [List.drop_length] at hrun
     cases hrun
     have i1:¬ (L.length:Int) < L.length:=by omega
     clear hd htr fr
     go_wp2
     refine bodyPost_ret (results_tmp2 rfl _ _ _) rfl ?_
     obtain ⟨q1,q2,q3,q4,q5,q6⟩:=RES.out
     have ht:=HT.out
     exact ⟨{ D with M:=M' },rfl,⟨HDA.out,(q1.dae.calm q1.cal).on,q1.rows,rfl,HR.out⟩,q1.dae.calm q1.cal,q2,q3,q4.trans ht,q5⟩
end Go.Proofs.YthjgiamfaijoeaaGreatDoor
