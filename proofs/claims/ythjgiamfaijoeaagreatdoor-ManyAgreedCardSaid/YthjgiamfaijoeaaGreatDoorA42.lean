/- What is proved: parts of the walk and of the plain law. No condition but those each law names. -/
import Derived.Test.YthjgiamfaijoeaaGreatDoorA41
import Derived.Test.YthjgiamfaijoeaaGreatDoorA38
import Derived.Test.YthjgiamfaijoeaaGreatDoorA00
set_option linter.unusedSimpArgs false
set_option linter.unusedVariables false
namespace Go.Proofs.YthjgiamfaijoeaaGreatDoor
open Go.RowKit
open Sx (Ab DW Turns Did Foot)
set_option maxRecDepth 100000
attribute [local go_sem ↓] zad ebl1 ebl2 zug zuh zabs
attribute [local go_sem] zaf zai zaj zal zab zah zae Ext.row Ext.soft_ zue zuf zly zlz
def zb6 (t:Tm) (B:List (Int × Sw)) (d:Dl) (n:Cl) (free:Int):Int:=if zdq t d n free ≠ 0 then zdq t d n free else zch B d.i
section
variable {w:World} {D:Dm} {d:Dl} {n:Cl} {free:Int} {L:List It} {B:List (Int × Sw)}
set_option maxHeartbeats 4000000 in
theorem zyb {v:Int} (HL:Hid (On w D L B)) (HB:Hid (Base w D)) (HT:Hid (TmK D.t)) (HS:Hid (Small d.h.l)) (HD:Hid (za6 d=true)) (H2:Hid (zc4 D.t d.p.a free=(v,0))) (e3:(d.g.a < v)=False) (H4:Hid (zey D.t d n=0)):
  Calls Tryz.prog 164 #[.pointer (some ⟨D.xb,0,none⟩),.agg d.cells,.agg n.cells,.int .i64 free] w fun e w'=>
   (∃ k,k ≠ 0∧zch B d.i=k∧e=.returned (.int .i64 k)∧Below w.heap.size w w') ∨
   (zch B d.i=0∧((e=.returned (.int .i64 0)∧zp0 w D (L ++ [.dl d]) (putA B d.i (newS d)) w') ∨ (e=.returned (.int .i64 9)∧KeptNo w D L [.dl d] w'))):=by
 have h:=HL.out.dae
 have e1:=zj3 HD.out
 have H:=zac8 h
 have H1:=zac8 e1
 clear h e1
 generalize hpf:zch B d.i=pf
 have HPF:=zac8 hpf
 clear hpf
 obtain ⟨ro,hro⟩:∃ ro,zch B d.i=ro:=⟨_,rfl⟩
 have HRO:=zac8 hro
 clear hro
 go_enter Tryz.func164,Tryz.ntmps164
 go_upto_region 1 with (fail)
 have bx:=Bxs.new2 w (d.cells) 60 (n.cells) 52;generalize ((w.alloc (.cells (d.cells) 60)).alloc (.cells (n.cells) 52))=W at bx ⊢;have rx0:=bx.row' 0 rfl;have sx0:=bx.soft' 0 rfl;(try simp only [Nat.add_zero] at rx0 sx0);have rx1:=bx.row' 1 rfl;have sx1:=bx.soft' 1 rfl;(try simp only [Nat.add_zero] at rx1 sx1);have BX:=zac8 bx;clear bx
 go_wp2_with fail
 refine (zfa H1.out _).mono ?_;rintro _ W2 ⟨rfl,hb⟩;have bx:=BX.out.step hb;clear BX hb rx0 sx0 rx1 sx1;have rx0:=bx.row' 0 rfl;have sx0:=bx.soft' 0 rfl;(try simp only [Nat.add_zero] at rx0 sx0);have rx1:=bx.row' 1 rfl;have sx1:=bx.soft' 1 rfl;(try simp only [Nat.add_zero] at rx1 sx1);have BX:=zac8 bx;clear bx
 have D2:=H.out.below BX.out.below
 have rD:=zaa D2.row
 unfold Dm.cells at rD
 have Q:∀ w,Calls Tryz.prog 229 #[.agg D.t.cells,.int .i64 d.p.a,.int .i64 free] w (Ret (.tuple #[.int .i64 v,.int .i64 0]) w):=fun w=>by
  have:=zbz (zft HT.out d.p.a free w)
  rw [H2.out] at this
  exact this
 have Q:=zac8 Q
 have lx:D.xb < W2.heap.size:=D2.lt (.inl rfl)
 have l0:=BX.out.lt 0 rfl
 have l1:=BX.out.lt 1 rfl
 simp only [Nat.add_zero] at l0
 clear D2
 go_upto_region 4 with (fail)
 (refine zay (by kernel_rfl) (by kernel_rfl) ?_;(repeat (go_big_quiet_step (((go_at_call 229;exact Calls.ext_of (Q.out _))))));refine wpQuiet_nil ?_;rintro _ ⟨g,rfl⟩)
 have bx:=BX.out.step g.below;clear BX rx0 sx0 rx1 sx1;have rx0:=bx.row' 0 rfl;have sx0:=bx.soft' 0 rfl;(try simp only [Nat.add_zero] at rx0 sx0);have rx1:=bx.row' 1 rfl;have sx1:=bx.soft' 1 rfl;(try simp only [Nat.add_zero] at rx1 sx1);have BX:=zac8 bx;clear bx
 have D3:=H.out.below BX.out.below
 have rD:=zaa D3.row
 unfold Dm.cells at rD
 have lx:D.xb < g.val.heap.size:=D3.lt (.inl rfl)
 have l0:=BX.out.lt 0 rfl
 have l1:=BX.out.lt 1 rfl
 simp only [Nat.add_zero] at l0
 clear D3
 generalize g.val=V at *
 go_upto_region 9 with (fail)
 have K:∀ w,Calls Tryz.prog 230 #[.agg D.t.cells,.agg d.cells,.agg n.cells] w (Ret (.int .i64 0) w):=fun w=>by
  have:=zbz (zo7 HT.out.tm d n w)
  rw [H4.out] at this
  exact this
 have K:=zac8 K
 (refine zay (by kernel_rfl) (by kernel_rfl) ?_;(repeat (go_big_quiet_step (((go_at_call 230;exact Calls.ext_of (K.out _))))));refine wpQuiet_nil ?_;rintro _ ⟨g2,rfl⟩)
 have bx:=BX.out.step g2.below;clear BX rx0 sx0 rx1 sx1;have rx0:=bx.row' 0 rfl;have sx0:=bx.soft' 0 rfl;(try simp only [Nat.add_zero] at rx0 sx0);have rx1:=bx.row' 1 rfl;have sx1:=bx.soft' 1 rfl;(try simp only [Nat.add_zero] at rx1 sx1);have BX:=zac8 bx;clear bx
 generalize g2.val=X at *
 have D4:=H.out.below BX.out.below
 have RM:=zpz D4 (by rw [HL.out.book];exact HL.out.fine) d.i
 rw [HL.out.book,HRO.out] at RM
 have RM:=zac8 RM
 clear D4 rD lx l0 l1
 go_wp2_with fail
 refine (RM.out).mono ?_;rintro _ Y ⟨rfl,hb⟩;have bx:=BX.out.step hb;clear BX hb rx0 sx0 rx1 sx1;have rx0:=bx.row' 0 rfl;have sx0:=bx.soft' 0 rfl;(try simp only [Nat.add_zero] at rx0 sx0);have rx1:=bx.row' 1 rfl;have sx1:=bx.soft' 1 rfl;(try simp only [Nat.add_zero] at rx1 sx1);have BX:=zac8 bx;clear bx
 by_cases hr0:ro=0
 case neg=>
  have k0:(ro == 0)=false:=beq_eq_false_iff_ne.2 hr0
  have HK0:=zac8 hr0
  clear hr0
  go_wp2
  go_ret
  exact .inl ⟨ro,HK0.out,HPF.out.symm.trans HRO.out,rfl,BX.out.below⟩
 subst hr0
 go_upto_region 15 with (fail)
 have hb:=(Below.refl Y.heap.size Y).alloc (zac9 _) (.cells (rcD d).cells 162)
 have hbw:=BX.out.below.trans (hb.mono BX.out.below.size)
 have na:¬ D.all Y.heap.size:=fun q=>by
  have:=H.out.all_lt q
  have:=BX.out.below.size
  omega
 have KD:=zp1 (w:=Y.alloc (.cells (rcD d).cells 162)) (its:=[.dl d]) (Nat.le_succ 1) (HL.out.below hbw) (zx9 HD.out HS.out HRO.out) (HB.out.trans (Trans.below hbw)) (heap_alloc_new Y _) (zec _) (fun k a hk=>by
  match k,hk with
  | 0,hk=>cases hk;exact zud _
  | k + 1,hk=>simp at hk) na
 have KD:=zac8 (show Calls Tryz.prog 109 #[.pointer (some ⟨D.xb,0,none⟩),.slice (some ⟨Y.heap.size,0,none⟩) 1 1] _ _ from KD)
 have HW:=zac8 hbw
 clear hb hbw na
 go_wp2_with fail
 refine KD.out.mono ?_
 rintro _ Z (⟨rfl,D',q1,qc,q2⟩ | ⟨rfl,qc,D',k,a,q0,q1,q3,q4,q5,q2⟩)
 ·have Q1:=zac8 (And.intro q1 qc)
  have Q2:=zac8 ((Trans.below HW.out).trans q2)
  clear q1 q2 qc KD
  go_wp2
  go_ret
  exact .inr ⟨HPF.out.symm.trans HRO.out,.inl ⟨rfl,D',Q1.out.1,Q1.out.2,Q2.out⟩⟩
 ·have Q1:=zac8 (And.intro qc (And.intro q0 (And.intro q1 (And.intro q3 (And.intro q4 q5)))))
  have Q2:=zac8 ((Trans.below HW.out).trans q2)
  clear q0 q1 q2 q3 q4 q5 qc KD
  go_wp2
  go_ret
  obtain ⟨qc,q0,q1,q3,q4,q5⟩:=Q1.out
  exact .inr ⟨HPF.out.symm.trans HRO.out,.inr ⟨rfl,qc,D',k,a,q0,q1,q3,q4,q5,Q2.out⟩⟩
def Took (w:World) (D:Dm) (L:List It) (B:List (Int × Sw)) (d:Dl) (c:Int) (e:Int) (w':World):Prop:=
 (e ≠ 0∧c=e∧Below w.heap.size w w') ∨ (c=0∧((e=0∧zp0 w D (L ++ [.dl d]) (putA B d.i (newS d)) w') ∨ (e=9∧KeptNo w D L [.dl d] w')))
theorem zu9 (h:On w D L B) (hB:Base w D) (hT:TmK D.t) (hs:Small d.h.l):
  Calls Tryz.prog 164 #[.pointer (some ⟨D.xb,0,none⟩),.agg d.cells,.agg n.cells,.int .i64 free] w fun x w'=>∃ e,x=.returned (.int .i64 e)∧Took w D L B d (zb6 D.t B d n free) e w':=by
 by_cases hk:zdq D.t d n free=0
 ·obtain ⟨q1,⟨v,q2,q3⟩,q4⟩:=zih hk
  have e:zb6 D.t B d n free=zch B d.i:=by unfold zb6;rw [hk];simp
  rw [e]
  refine (zyb (zac8 h) (zac8 hB) (zac8 hT) (zac8 hs) (zac8 q1) (zac8 q2) (eq_false q3) (zac8 q4)).mono ?_
  rintro x w' (⟨k,k0,e1,rfl,hb⟩ | ⟨e1,⟨rfl,q⟩ | ⟨rfl,q⟩⟩)
  ·exact ⟨k,rfl,.inl ⟨k0,e1,hb⟩⟩
  ·exact ⟨0,rfl,.inr ⟨e1,.inl ⟨rfl,q⟩⟩⟩
  ·exact ⟨9,rfl,.inr ⟨e1,.inr ⟨rfl,q⟩⟩⟩
 ·refine (zxg h.dae hT rfl hk).mono ?_
  rintro x w' ⟨rfl,hb⟩
  exact ⟨_,rfl,.inl ⟨hk,by unfold zb6;rw [if_pos hk],hb⟩⟩
end
attribute [local go_sem ↓] zxh zul
section
variable {w:World} {D:Dm} {n:Cl} {free peer:Int} {ao:Option Addr} {k c:Nat} {l:List Nat}
def zfz (m:Msg) (peer e:Int):List Nat:=if e=0 then zbu (zb2 (zcw m peer)) else putC m.i e
set_option maxHeartbeats 4000000 in
theorem zyc {m:Msg} {Q:Int→World→World→Prop} (h:Dae w D) (hB:Base w D) (hs:Sl w ao k c (bts l)) (hr:Rs (l,0)) (hm:zf8 l=(0,m)) (k0:m.k=1) (hi:1 ≤ m.i∧m.i ≤ 1073741824) (hn:∀ W W',Q 0 W W'→idE m.i (zcg (zb2 (zcw m peer)))=0∧I64 m.i∧LgI m.g∧LgI m.p) (hc:∀ e W W',Q e W W'→0 ≤ e∧e ≤ 24)
  (hq:∀ e W W',Q e W W'→Below w.heap.size w W→W.os=W'.os∧∀ i,i < W.heap.size→w.heap.size ≤ i→W'.heap[i]?=W.heap[i]?) (hf:∀ e W W',Q e W W'→Below w.heap.size w W→Forms W')
  (ht:∀ W,Dae W D→Base W D→Calls Tryz.prog 164 #[.pointer (some ⟨D.xb,0,none⟩),.agg (zcw m peer).cells,.agg n.cells,.int .i64 free] W fun x w'=>∃ e,x=.returned (.int .i64 e)∧Q e W w'):
  Calls Tryz.prog 103 #[.pointer (some ⟨D.xb,0,none⟩),.int .i64 peer,.slice ao k c,.agg n.cells,.int .i64 free] w fun x w'=>∃ e a c' W W',x=.returned (.slice a (zfz m peer e).length c')∧Sl w' a (zfz m peer e).length c' (bts (zfz m peer e))∧Below w.heap.size w W∧Q e W W'∧Below W'.heap.size W' w':=by
 have hf0:=hB.forms
 have HN:=zac8 hn
 have HCC:=zac8 hc
 have HII:=zac8 hi
 have HT:=zac8 ht
 have HQ:=zac8 hq
 have HFF:=zac8 hf
 have HB:=zac8 hB
 clear hB hn hi ht hc hq hf
 have H:=zac8 h
 have HF:=zac8 hf0
 have HSl:=zac8 hs
 have HRs:=zac8 hr
 have HM:=zac8 hm
 clear h hs hr hm hf0
 go_enter Tryz.func103,Tryz.ntmps103
 go_upto_region 1 with (fail)
 have bx:=Bx.new w (n.cells) 52;generalize w.alloc (.cells (n.cells) 52)=W at bx ⊢;have rx:=bx.rowOf;have sx:=bx.soft;have BX:=zac8 bx;clear bx
 have G:=zfq (HF.out.keep (zac9 _) BX.out.below) (HSl.out.keep (zac9 _) BX.out.below) HRs.out
 rw [HM.out] at G
 have GG:=zac8 G
 clear G
 have rD:=zaa (H.out.below BX.out.below).row
 unfold Dm.cells at rD
 go_wp2_with fail
 refine GG.out.mono ?_
 rintro _ W2 ⟨rfl,hb⟩
 have bx:=BX.out.step hb
 have HLN:=zac8 bx.below.size
 clear BX GG rx sx rD hb
 have BX:=zac8 bx
 clear bx
 go_upto_region 4 with (fail)
 have L:=Bx.made W2 Msg.zero.cells m.cells 118
 generalize (W2.alloc (.cells Msg.zero.cells 118)).setRow W2.heap.size m.cells=W3 at L ⊢
 have bx:=BX.out.step L.below
 clear BX
 have BX:=zac8 bx
 have rm:=L.rowOf
 have rx:=bx.rowOf
 have LX:=zac8 L
 have LN:=zac8 HLN.out
 have LX2:=zac8 (show W2.heap.size ≤ W3.heap.size from Nat.le_of_lt (zac7 L.row).1)
 clear bx L
 go_upto_region 9 with (fail)
 have L2:=Bx.made W3 Dl.zero.cells (zcw m peer).cells 60
 rw [show ({ i:=m.i,r:=2,p:=m.g,g:=m.p,h:=m.h,q:=peer }:Dl)=zcw m peer from rfl]
 have hdi:(zcw m peer).i=m.i:=rfl
 generalize (W3.alloc (.cells Dl.zero.cells 60)).setRow W3.heap.size (zcw m peer).cells=W4 at L2 ⊢
 have bx:=BX.out.step L2.below
 have lx:=LX.out.step L2.below
 clear BX LX rm rx
 have BX:=zac8 bx
 have LX:=zac8 lx
 have rd:=L2.rowOf
 have rm:=lx.rowOf
 have rx:=bx.rowOf
 have LD:=zac8 L2
 clear L2 bx lx hdi
 have T:=zac8 (HT.out W4 (H.out.below BX.out.below) (HB.out.trans (Trans.below BX.out.below)))
 go_wp2_with fail
 refine T.out.mono ?_
 rintro _ W5 ⟨e,rfl,qe⟩
 have kp:=(HQ.out e _ _ qe BX.out.below).2
 have rm:rowOf W5 W2.heap.size=m.cells:=zaa ((kp _ (zac7 LX.out.row).1 LN.out).trans LX.out.row)
 have rd:rowOf W5 W3.heap.size=(zcw m peer).cells:=zaa ((kp _ (zac7 LD.out.row).1 (Nat.le_trans LN.out LX2.out)).trans LD.out.row)
 have F5:=HFF.out e _ _ qe BX.out.below
 have ec:=HCC.out e _ _ qe
 have QE:=zac8 qe
 have HB4:=zac8 BX.out.below
 clear kp T BX LX LD HT qe rx
 by_cases e0:e=0
 ·subst e0
  have en:=HN.out _ _ QE.out
  have P:=zac8 (zh7 F5 (m:=zb2 (zcw m peer)) (.inr rfl) en.1 en.2.1 en.2.2.1 en.2.2.2)
  have hdd:Msg.cells ⟨2,m.i,0,(zcw m peer).p,(zcw m peer).g,(zcw m peer).h⟩=(zb2 (zcw m peer)).cells:=rfl
  have HL:=zac8 (show zfz m peer 0=zbu (zb2 (zcw m peer)) from if_pos rfl)
  clear en F5 ec
  go_wp2_with fail
  refine P.out.mono ?_
  rintro _ V ⟨a2,c2,rfl,hb,ho⟩
  have S:=zac8 (And.intro (Sl.own ho) hb)
  clear hb ho P
  go_wp2
  go_ret
  refine ⟨0,a2,c2,W4,W5,?_,?_,HB4.out,QE.out,S.out.2⟩
  ·rw [HL.out];rfl
  ·rw [HL.out];exact S.out.1
 ·have k0':(e == 0)=false:=beq_eq_false_iff_ne.2 e0
  have hn:idE m.i (refE e)=0:=by
   have:=HII.out
   unfold idE refE
   rw [if_neg (by omega),if_neg (by omega)]
  have R:=zac8 (zl0 F5 hn)
  have HL:=zac8 (show zfz m peer e=putC m.i e from if_neg e0)
  clear hn F5 ec e0
  go_wp2_with fail
  refine R.out.mono ?_
  rintro _ V ⟨a2,c2,rfl,hb,s2⟩
  have S:=zac8 (And.intro s2 hb)
  clear hb s2 R
  go_wp2
  go_ret
  refine ⟨e,a2,c2,W4,W5,?_,?_,HB4.out,QE.out,S.out.2⟩
  ·rw [HL.out];rfl
  ·rw [HL.out];exact S.out.1
end
end Go.Proofs.YthjgiamfaijoeaaGreatDoor
namespace Go.Proofs.YthjgiamfaijoeaaGreatDoor
open Go.RowKit
open Sx (Ab DW Turns Did Foot MapIs)
set_option maxRecDepth 100000
attribute [local go_sem ↓] zad
attribute [local go_sem] zaf zai zaj zal zab zah zac zak zae zav za4 Sx.run_mk Ext.row Ext.soft_
theorem zzo (M:List (Int × En)):∀ (ks:List Int) (j:Nat) (hj:j < ks.length) (o:Nat),o < 75→(swL M ks)[j * 75 + o]?=(swO (getA M ks[j])).list[o]?
 | [],j,hj,_,_=>absurd hj (Nat.not_lt_zero _)
 | k :: ks,0,_,o,ho=>by
  show ((swO (getA M k)).list ++ swL M ks)[0 * 75 + o]?=_
  rw [List.getElem?_append_left (by rw [zgt];omega),Nat.zero_mul,Nat.zero_add]
  rfl
 | k :: ks,j + 1,hj,o,ho=>by
  show ((swO (getA M k)).list ++ swL M ks)[(j + 1) * 75 + o]?=_
  rw [List.getElem?_append_right (by rw [zgt];omega),zgt,show (j + 1) * 75 + o - 75=j * 75 + o by omega,zzo M ks j (by simpa using hj) o ho]
  rfl
theorem sw_own {w:World} {B n cap:Nat} {ao:Option Addr} {M:List (Int × En)} {ks:List Int} (hn:0 < n) (h:w.ownsRow B 62 75 (.slice ao n cap) n (swL M ks)) (hl:ks.length=n):∃ g cur,ao=some ⟨g,0,none⟩∧w.heap[g]?=some (.cells cur 62)∧n * 75 ≤ cur.size∧n ≤ cap∧∀ (j:Nat) (hj:j < ks.length) (o:Nat),o < 75→cur[j * 75 + o]?=(swO (getA M ks[j])).cells[o]?:=by
 rcases h.2 with ⟨hv,h0,_⟩ | ⟨g,cp,cur,hv,_,hh,hc,_,hs,ht⟩
 ·cases hv;omega
 ·cases hv
  have hz:cur.size=cap * 75:=hs
  have hz2:n * 75 ≤ cap * 75:=Nat.mul_le_mul_right 75 hc
  refine ⟨g,cur,rfl,hh,by omega,hc,fun j hj o ho=>?_⟩
  have e:=zzo M ks j hj o ho
  rw [← ht,List.getElem?_take_of_lt (by omega)] at e
  simpa [Sw.cells] using e
theorem s_40 (s:Sw):s.cells[40]?=some (.int .i64 s.d.q):=by
 have h:=d_40 s.d
 have e:s.cells[40]?=s.d.cells[40]?:=by
  have z:40 < s.d.list.length:=by rw [s.d.len];decide
  show s.list.toArray[40]?=s.d.list.toArray[40]?
  rw [List.getElem?_toArray,List.getElem?_toArray]
  exact List.getElem?_append_left z
 rw [e,h]
def hasD (M:List (Int × En)) (id role peer:Int) (k:Int):Bool:=(swO (getA M k)).d.i == id && ((swO (getA M k)).d.r == role && (swO (getA M k)).d.q == peer)
set_option maxHeartbeats 2000000 in
theorem zjf {w:World} {S:MS} (h:MW w S) {a:Nat} {n:Nd} {D:Dm} {kd:Bool} (is:Has S a n D kd) (hl:D.M.length ≤ 16) (hi:∀ p ∈ D.M,I64 p.1) (id role peer:Int):Calls Tryz.prog 31 #[.pointer (some ⟨S.wb,0,none⟩),.int .i64 a,.int .i64 id,.int .i64 role,.int .i64 peer] w fun e w'=>∃ ks:List Int,ks.Perm (D.M.map (·.1))∧e=.returned (.bool (ks.any (hasD D.M id role peer)))∧Below w.heap.size w w':=by
 have SW:=zac8 (zme h is hl hi)
 have HL:=zac8 hl
 clear h is hl hi
 go_enter Tryz.func31,Tryz.ntmps31
 go_upto_region 3 with (go_at_call 21;refine SW.out.mono ?_;rintro _ V ⟨ao,cap,ks,rfl,hp,ho,hb⟩)
 have lk16:ks.length ≤ 16:=by rw [hp.length_eq,List.length_map];exact HL.out
 have HO:=zac8 ho
 have HP:=zac8 hp
 have HB:=zac8 hb
 clear hp ho hb SW
 go_loopw [12] (fun i wr=>∃ k:Nat,k ≤ ks.length∧i=.int .i64 k∧(ks.take k).any (hasD D.M id role peer)=false∧wr=V) (fun i _=>ks.length - (intOf i).toNat)
 case atStart=>exact ⟨0,Nat.zero_le _,rfl,rfl,rfl⟩
 case round=>
  obtain ⟨k,hk,rfl,hno,rfl⟩:=hrel
  have HN:=zac8 hno
  clear hno
  by_cases hlt:k < ks.length
  ·have i1:(k:Int) < ks.length:=by omega
   obtain ⟨g,cur,rfl,hg,hcz,hcap,hc⟩:=sw_own (by omega) HO.out rfl
   have rg:=zaa hg
   have e0:=hc k hlt 0 (by decide)
   have e1:=hc k hlt 1 (by decide)
   have e40:=hc k hlt 40 (by decide)
   obtain ⟨kk,hkk⟩:∃ kk,kk=ks[k]:=⟨_,rfl⟩
   rw [← hkk] at e0 e1 e40
   have hnx:(ks.take (k + 1)).any (hasD D.M id role peer)=hasD D.M id role peer kk:=by
    rw [List.take_succ_eq_append_getElem hlt,List.any_append,HN.out,Bool.false_or,← hkk]
    simp
   unfold hasD at hnx
   have HK:=zac8 hkk
   clear hkk hc hg
   generalize swO (getA D.M kk)=s at *
   have c0:cur[k * 75 + 0]?=some (.int .i64 s.d.i):=e0.trans (s_0 s)
   have c1:cur[k * 75 + 1]?=some (.int .i64 s.d.r):=e1.trans (s_1 s)
   have c40:cur[k * 75 + 40]?=some (.int .i64 s.d.q):=e40.trans (s_40 s)
   rw [Nat.add_zero] at c0
   have z0:k * 75 < cur.size:=by omega
   have z1:k * 75 + 1 < cur.size:=by omega
   have z40:k * 75 + 40 < cur.size:=by omega
   have g0:cur[k * 75]'z0=.int .i64 s.d.i:=Option.some.inj ((Array.getElem?_eq_getElem z0).symm.trans c0)
   have g1:cur[k * 75 + 1]'z1=.int .i64 s.d.r:=Option.some.inj ((Array.getElem?_eq_getElem z1).symm.trans c1)
   have g40:cur[k * 75 + 40]'z40=.int .i64 s.d.q:=Option.some.inj ((Array.getElem?_eq_getElem z40).symm.trans c40)
   clear e0 e1 e40
   have wk:IntKind.i64.wrap ((k:Int) + 1)=(k:Int) + 1:=zau (by omega) (by omega)
   have no:(s.d.i == id && (s.d.r == role && s.d.q == peer))=false→(ks.take (k + 1)).any (hasD D.M id role peer)=false:=fun e=>by rw [← e,← hnx];rfl
   have yes:(s.d.i == id && (s.d.r == role && s.d.q == peer))=true→ks.any (hasD D.M id role peer)=true:=fun e=>by
    have e2:=hnx.trans e
    rw [← List.take_append_drop (k + 1) ks,List.any_append]
    have e3:(ks.take (k + 1)).any (hasD D.M id role peer)=true:=e2
    rw [e3,Bool.true_or]
   have NO:=zac8 no
   have YES:=zac8 yes
   clear no yes hnx
   cases h1:(s.d.i == id) with
   | false=>
    have n1:=NO.out (by rw [h1];rfl)
    go_wp2
    go_roundw
    case rel=>exact ⟨k + 1,by omega,rfl,n1,trivial⟩
    case measure=>simp [intOf];omega
   | true=>
    cases h2:(s.d.r == role) with
    | false=>
     have n1:=NO.out (by rw [h1,h2];rfl)
     go_wp2
     go_roundw
     case rel=>exact ⟨k + 1,by omega,rfl,n1,trivial⟩
     case measure=>simp [intOf];omega
    | true=>
     cases h3:(s.d.q == peer) with
     | false=>
      have n1:=NO.out (by rw [h1,h2,h3];rfl)
      go_wp2
      go_roundw
      case rel=>exact ⟨k + 1,by omega,rfl,n1,trivial⟩
      case measure=>simp [intOf];omega
     | true=>
      have y1:=YES.out (by rw [h1,h2,h3];rfl)
      go_wp2
      go_ret
      exact ⟨ks,HP.out,by rw [y1];rfl,HB.out⟩
  ·have e:k=ks.length:=by omega
   subst e
   have HN2:=HN.out
   rw [List.take_length] at HN2
   have HN3:=zac8 HN2
   clear HN2
   go_wp2
   go_ret
   exact ⟨ks,HP.out,by rw [HN3.out];rfl,HB.out⟩
end Go.Proofs.YthjgiamfaijoeaaGreatDoor
namespace Go.Proofs.YthjgiamfaijoeaaGreatDoor
open Go.RowKit
open Sx (Ab DW Turns Did Foot MapIs zbf)
set_option maxRecDepth 100000
attribute [local go_sem ↓] zad
attribute [local go_sem] zaf zai zaj zal zab zah zac zak zae zav za4 Sx.run_mk
set_option maxHeartbeats 2000000 in
theorem zyd {w:World} {S:MS} (h:MW w S) (hFo:Forms S.u) (hTa:Tabs S.u) {k:Nat} {n:Nd} {F:Foot} {A A':Ab} {j:Jr} {L:List It} {B:List (Int × Sw)} (hn:S.nd k=some n) (hd:S.ds k=.disk F n.dv A) (hA:Ab.Sm A) (ho:zce A=⟨0,A',j,zbc L⟩) (hh:Holds A' j (zbc L)) (hc:Calm A') (hr:Run [] L B) (hT:TmK n.t) (h0:0 < n.seed.length) (hl:n.seed.length ≤ 64):
   Calls Tryz.prog 36 #[.pointer (some ⟨n.b,0,none⟩)] w fun e w'=>e=.returned (.int .i64 0)∧∃ D tb,Goes w S w' { S with nd:=upd S.nd k (some { n with xv:=ptA D.xb,tv:=.map (some tb) }),tm:=upd S.tm k (some (tb,[])),ds:=upd S.ds k (.live D) }∧On w' D L B∧Calm D.A∧D.t=n.t∧D.seed=n.seed∧D.dv=n.dv:=by
 have H:=zac8 h
 have HN:=zac8 hn
 have HD:=zac8 hd
 have HP:=zac8 (And.intro hA (And.intro ho (And.intro hh (And.intro hc (And.intro hT (And.intro h0 (And.intro hl hr)))))))
 have HG:=zac8 (And.intro hFo hTa)
 have r0:=zaa (h.ndAt hn).row
 have s0:=zan (h.ndAt hn).row
 have nb0:(n.b=w.heap.size)=False:=eq_false (Nat.ne_of_lt (zac7 (h.ndAt hn).row).1)
 unfold Nd.cells at r0
 clear h hn hd hA ho hh hc hT h0 hl hr hFo hTa
 go_enter Tryz.func36,Tryz.ntmps36
 go_upto_region 2 with (fail)
 have g1:=H.out.tmNew k
 have g2:=g1.mw.nrSet (n':={ n with tv:=.map (some w.heap.size) }) (show ({ S with tm:=upd S.tm k (some (w.heap.size,[])) }:MS).nd k=some n from HN.out) 12 (.map (some w.heap.size)) rfl rfl rfl rfl rfl
 have G:=(g1.trans g2).drew
 clear g1 g2
 have eW:∃ W,W=(w.alloc (.map #[] 0)).setCell ⟨n.b,12,none⟩ (.map (some w.heap.size)):=⟨_,rfl⟩
 obtain ⟨W,eW⟩:=eW
 rw [← eW] at G ⊢
 have na:=G.mw.ndAt (k:=k) (upd_at _ _ _)
 have r2:rowOf W n.b=ndC n.xv n.t n.sv n.dv (.map (some w.heap.size)):=zaa na.row
 have s2:soft W n.b=true:=zan na.row
 have hdw:DW W.drew F n.dv A:=by
   have:=G.mw.at_ (.da k)
   simp only [MS.part,HD.out] at this
   exact this
 have hF:∀ x,¬ F n.sb x:=fun x q=>by
   refine G.mw.dis (.nr k) (.da k) (fun e=>by cases e) n.sb ?_ ?_
   · show (MS.part _ (.nr k)).P n.sb
     simp only [MS.part,upd_at]
     exact Or.inr trivial
   · simp only [MS.part,HD.out]
     exact ⟨x,q⟩
 have hlow:=G.mw.low
 have h3:3 < W.drew.heap.size∧∀ i,i ≤ 3→∀ x,¬ F i x:=by
   obtain ⟨t5,y5⟩:=HG.out.2.g5
   have l2:3 < S.u.heap.size:=(zac7 y5).1
   refine ⟨Nat.lt_of_lt_of_le l2 hlow.size,fun i hi x q=>?_⟩
   refine G.mw.dis .base (.da k) (fun e=>by cases e) i ?_ ?_
   · show i < S.u.heap.size
     omega
   · simp only [MS.part,HD.out]
     exact ⟨x,q⟩
 have OP:=zac8 (zu8 hdw HP.out.1 HP.out.2.1 HP.out.2.2.1 HP.out.2.2.2.1 HP.out.2.2.2.2.2.2.2 (HG.out.1.keep (zac9 _) hlow) (HG.out.2.keep (zac9 _) hlow) h3 HP.out.2.2.2.2.1 na.sd HP.out.2.2.2.2.2.1 HP.out.2.2.2.2.2.2.1 na.lt hF)
 dsimp only at OP
 have R2:NdR W.drew n:=NdR.of r2
 have G:=zac8 G
 unfold NdR at R2
 clear r0 s0 nb0 na hdw hF eW hlow h3
 go_region_held3 (fun w'=>sub (rowOf w' n.b) 1 9=n.t.cells∧10 ≤ (rowOf w' n.b).size∧(rowOf w' n.b)[10]?=some (.slice (some ⟨n.sb,0,none⟩) n.seed.length n.sc)∧(rowOf w' n.b)[11]?=some n.dv) (first | exact R2 | exact R3 | exact R4) (first
   | (go_at_call 72;refine OP.out.mono ?_;rintro _ V ⟨D,rfl,q1,q2,q3,q4,q5,q6⟩
      have g3:=G.out.trans (G.out.mw.da k (d:=.live D) (by show Comp _ _ (S.ds k).part.P _;rw [HD.out];exact q5.comp) q1.dae)
      have nv:=g3.mw.ndAt (k:=k) (upd_at _ _ _)
      have r3:rowOf V n.b=ndC n.xv n.t n.sv n.dv (.map (some w.heap.size)):=zaa nv.row
      have s3:soft V n.b=true:=zan nv.row
      have R3:NdR V n:=NdR.of r3
      have R4:NdR (V.setCell ⟨n.b,0,none⟩ (ptA D.xb)) n:=(NdR.of (by rw [zac,if_pos rfl,r3];exact zuy _ _ _ _ _ _))
      have G3:=zac8 g3
      have Q:=zac8 (And.intro q1 (And.intro q2 (And.intro q3 (And.intro q4 q6))))
      unfold NdR at R3 R4
      clear g3 nv q1 q2 q3 q4 q5 q6 r2 s2))
 have g4:=G3.out.trans (G3.out.mw.nrSet (k:=k) (n':={ n with xv:=ptA D.xb,tv:=.map (some w.heap.size) }) (upd_at _ _ _) 0 (ptA D.xb) rfl rfl rfl rfl rfl)
 dsimp only at g4
 rw [zfw] at g4
 have L4:On (V.setCell ⟨n.b,0,none⟩ (ptA D.xb)) D L B:=⟨g4.mw.daAt (k:=k) (upd_at _ _ _),Q.out.1.on,Q.out.1.rows,Q.out.1.book,Q.out.1.run⟩
 have G4:=zac8 g4
 have L4:=zac8 L4
 clear g4 R2 R3 R4 r3 s3
 go_wp2
 go_ret
 exact ⟨rfl,D,w.heap.size,G4.out,L4.out,Q.out.2⟩
theorem Holds.back_it {A A':Ab} {j:Jr} {L:List It} (h:Holds A j (zbc L)) {K:List Int} (hc:zbf A K A'):∃ A'' j',zce A'=⟨0,A'',j',zbc L⟩∧Holds A'' j' (zbc L)∧Calm A''∧Ab.Sm A':=by
 obtain ⟨A'',j',q1,q2,q3⟩:=h.back_opens hc
 exact ⟨A'',j',q1,q2,q3,zhc h.half.sm hc⟩
theorem Fell.back_it {D:Dm} {L:List It} {a:It} (h:Fell D L a) {A':Ab} {K:List Int} (hc:zbf D.A K A'):∃ A'' j' L',(L'=L ∨ L'=L ++ [a])∧zce A'=⟨0,A'',j',zbc L'⟩∧Holds A'' j' (zbc L')∧Calm A''∧Ab.Sm A':=by
 obtain ⟨T,hb⟩:=h.back
 obtain ⟨A'',j',q,q3⟩:=hb.opens hc
 rcases q with ⟨q1,q2⟩ | ⟨q1,q2⟩
 ·exact ⟨A'',j',L,.inl rfl,q1,q2,q3,zhc h.sm hc⟩
 ·exact ⟨A'',j',L ++ [a],.inr rfl,q1,q2,q3,zhc h.sm hc⟩
theorem zn8 {w:World} {S:MS} (h:MW w S) (hFo:Forms S.u) (hTa:Tabs S.u) {a:Nat} {n:Nd} {F:Foot} {A:Ab} {ao:Option Addr} {c:Nat} {K:List Int} (HK:KeepAt w ao K) (hn:S.nd a=some n) (hat:getA S.nodes a=some (ptA n.b)) (hdw:DW w F n.dv A) (hFd:∀ i x,F i x→(S.ds a).part.P i) {O:List It→List (Int × Sw)→Prop}
  (hO:∀ A',zbf A K A'→∃ A'' j' L B,O L B∧zce A'=⟨0,A'',j',zbc L⟩∧Holds A'' j' (zbc L)∧Calm A''∧Ab.Sm A'∧Run [] L B) (hT:TmK n.t) (h0:0 < n.seed.length) (hl:n.seed.length ≤ 64):
  Calls Tryz.prog 19 #[.pointer (some ⟨S.wb,0,none⟩),.int .i64 a,.slice ao K.length c] w fun e w'=>e=.returned (.int .i64 0)∧∃ D tb L B,O L B∧Goes w S w' { S with nd:=upd S.nd a (some { n with xv:=ptA D.xb,tv:=.map (some tb) }),tm:=upd S.tm a (some (tb,[])),ds:=upd S.ds a (.live D) }∧On w' D L B∧Calm D.A∧D.t=n.t∧D.seed=n.seed∧D.dv=n.dv:=by
 have rw0:=zaa h.wrAt
 have lk:=h.look a
 rw [MS.at_some hat] at lk
 unfold ptA at lk
 have rn:=zaa (h.ndAt hn).row
 unfold Nd.cells at rn
 have CR:=zac8 (zu6 (c:=c) hdw HK)
 have H:=zac8 h
 have HH:=zac8 (And.intro hT (And.intro h0 hl))
 have HN:=zac8 hn
 have HO:=zac8 hO
 have HG:=zac8 (And.intro hFo hTa)
 have HD:=zac8 hFd
 clear h hn hat hdw hFd hT h0 hl hO hFo hTa HK
 go_enter Tryz.func19,Tryz.ntmps19
 go_wp2_with (go_at_call 58;refine CR.out.mono ?_;rintro _ V ⟨A',hct,rfl,F',hd,ht,hf⟩)
 have g1:Goes w S V { S with ds:=upd S.ds a (.disk F' n.dv A') }:=H.out.da a ⟨ht.os,ht.tape,ht.output,ht.size,fun i hi hn=>⟨ht.block i hi fun x hx=>hn (HD.out _ x hx),fun ⟨x,q⟩=>(hf _ x q).elim (fun q=>hn (HD.out _ x q)) fun q=>by omega⟩⟩ hd
 obtain ⟨A'',j',L,B,o1,o2,o3,o4,o5,o6⟩:=HO.out A' hct
 have OK:=zyd (k:=a) (n:=n) (F:=F') (A:=A') (A':=A'') (j:=j') (L:=L) (B:=B) g1.mw HG.out.1 HG.out.2 HN.out (upd_at _ _ _) o5 o2 o3 o4 o6 HH.out.1 HH.out.2.1 HH.out.2.2
 dsimp only at OK
 simp only [zfw] at OK
 have OK:=zac8 OK
 have G1:=zac8 g1
 have O1:=zac8 o1
 clear g1 hd ht hf CR o1 o2 o3 o4 o5 o6 hct
 refine OK.out.mono ?_
 rintro _ Z ⟨rfl,D,tb,g2,l2,l3⟩
 have G2:=zac8 (And.intro (G1.out.trans g2) (And.intro l2 l3))
 clear g2 l2 l3 OK G1 rw0 lk rn
 go_wp2
 go_ret
 exact ⟨rfl,D,tb,L,B,O1.out,G2.out⟩
end Go.Proofs.YthjgiamfaijoeaaGreatDoor
namespace Go.Proofs.YthjgiamfaijoeaaGreatDoor
open Go.RowKit
open Sx (Ab DW Turns Did Foot MapIs)
set_option maxRecDepth 100000
attribute [local go_sem ↓] zad
attribute [local go_sem] zaf zai zaj zal zab zah zac zak zae zav za4 Sx.run_mk Ext.row Ext.soft_
theorem say_at {w:World} {S:MS} {wb:Nat} (hw:S.wb=wb) (h:MW w S) (hnb:S.nb=S.X.nb) {m:Msg} {l:List Nat} (hput:∀ w,Below S.u.heap.size S.u w→Calls Tryz.prog 100 #[.agg m.cells] w (zfo l w)) (hll:l.length ≤ 400) (hn:S.X.L.length < 1000) {a b:Int} (a1:(a ≥ 1)=True) (a2:(a ≤ S.X.nodes)=True) (b1:(b ≥ 1)=True) (b2:(b ≤ S.X.nodes)=True) (hab:(a != b)=true):
  Calls Tryz.prog 64 #[.pointer (some ⟨wb,0,none⟩),.int .i64 a,.int .i64 b,.agg m.cells] w fun e w'=>e=.returned (.tuple #[])∧∃ X',Goes w S w' { S with X:=X' }∧X'.says=S.X.says ++ [(a,b,l)]∧X'.nodes=S.X.nodes∧X'.nb=S.X.nb:=hw ▸ zu2 h hnb hput hll hn a1 a2 b1 b2 hab
set_option maxHeartbeats 2000000 in
theorem zn9 {w:World} {S:MS} (h:MW w S) (hnb:S.nb=S.X.nb) {a b:Nat} {n:Nd} {D:Dm} (is:Live S a n D) {nb2:Nat} (is2:S.at_ b=ptA nb2) (hab:a ≠ b) (ha:1 ≤ a∧(a:Int) ≤ S.X.nodes) (hb:1 ≤ b∧(b:Int) ≤ S.X.nodes) (hlen:S.X.L.length < 1000)
   {i:Int} {p g:Lg} {R:Msg→Int→MS→Prop} (hS:∀ m S',R m 0 S'→S'.X=S.X∧(zbu m).length ≤ 400∧∀ w,Below S'.u.heap.size S'.u w→Calls Tryz.prog 100 #[.agg m.cells] w (zfo (zbu m) w))
   (hP:∀ W,Below w.heap.size w W→Calls Tryz.prog 67 #[.pointer (some ⟨D.xb,0,none⟩),.int .i64 i,.int .i64 b,.agg p.cells,.agg g.cells,.agg S.now.cells] W fun e w'=>∃ m k S',e=.returned (.tuple #[.agg m.cells,.int .i64 k])∧Kp S S' a n∧R m k S'∧Goes w S w' S'∧Comp W w' S.all S'.all):
   Calls Tryz.prog 29 #[.pointer (some ⟨S.wb,0,none⟩),.int .i64 a,.int .i64 b,.int .i64 i,.agg p.cells,.agg g.cells] w fun e w'=>∃ m k S',e=.returned (.int .i64 k)∧Kp S S' a n∧R m k S'∧(k ≠ 0→Goes w S w' S')∧(k=0→∃ X',Goes w S w' { S' with X:=X' }∧X'.says=S.X.says ++ [((a:Int),(b:Int),zbu m)]∧X'.nodes=S.X.nodes∧X'.nb=S.X.nb):=by
 have ab:((a:Int) == b)=false:=by simp;omega
 have H:=zac8 h
 have IS:=zac8 is
 have PR:=zac8 hP
 have I2:=zac8 is2
 have HS:=zac8 hS
 have HC:=zac8 (And.intro hnb (And.intro hab (And.intro ha (And.intro hb hlen))))
 clear h is hP is2 hS hnb hab ha hb hlen
 go_enter Tryz.func29,Tryz.ntmps29
 go_upto_region 1 with (fail)
 have bx:=Bxs.new2 w (p.cells) 30 (g.cells) 30;generalize ((w.alloc (.cells (p.cells) 30)).alloc (.cells (g.cells) 30))=W at bx ⊢;have rx0:=bx.row' 0 rfl;have sx0:=bx.soft' 0 rfl;(try simp only [Nat.add_zero] at rx0 sx0);have rx1:=bx.row' 1 rfl;have sx1:=bx.soft' 1 rfl;(try simp only [Nat.add_zero] at rx1 sx1);have BX:=zac8 bx;clear bx
 have G:=zac8 (H.out.below BX.out.below)
 have lk:=G.out.mw.look a
 rw [MS.at_some IS.out.at_] at lk
 have lk2:=G.out.mw.look b
 rw [I2.out] at lk2
 unfold ptA at lk lk2
 have rw0:=zaa G.out.mw.wrAt
 have OF:=zac8 (IS.out.off G.out.mw)
 have RN:=zac8 (IS.out.row G.out.mw)
 go_wp2_with (go_at_call 57;refine OF.out.mono ?_;rintro _ V ⟨rfl,rfl⟩;clear lk lk2 ab OF;have rn:=RN.out;clear RN)
 have B2:Below w.heap.size w V.drew:=BX.out.below.drew
 have zV:w.heap.size + 1 < V.heap.size:=BX.out.lt 1 rfl
 have zn:n.b < w.heap.size:=(zac7 (H.out.ndAt IS.out.nd).row).1
 have zw:S.wb < w.heap.size:=(zac7 H.out.wrAt).1
 have hz:n.b < V.heap.size∧S.wb < V.heap.size∧w.heap.size < V.heap.size∧w.heap.size + 1 < V.heap.size:=by omega
 have R1:PH n.b S.wb w.heap.size (w.heap.size + 1) _ _ _ _ V:=⟨rn,rw0,rx0,rx1⟩
 have RZ:∀ (W Z:World) (S':MS),PH n.b S.wb w.heap.size (w.heap.size + 1) (ndC (.pointer (some ⟨D.xb,0,none⟩)) n.t n.sv n.dv n.tv) (wrC S.nb S.mb S.now) p.cells g.cells W→V.heap.size ≤ W.heap.size→Kp S S' a n→Comp W Z S.all S'.all→Goes w S Z S'→PH n.b S.wb w.heap.size (w.heap.size + 1) (ndC (.pointer (some ⟨D.xb,0,none⟩)) n.t n.sv n.dv n.tv) (wrC S.nb S.mb S.now) p.cells g.cells Z:=fun W Z S' r hW kp hc g=>by
   have hn:∀ k,w.heap.size ≤ k→¬ S.all k:=fun k hk q=>by have:=H.out.all_lt q;omega
   have rw1:=zaa g.mw.wrAt
   rw [kp.wb,kp.nb,kp.mb,kp.now] at rw1
   refine ⟨?_,rw1,(za8 (hc.keep _ (by omega) (hn _ (zac9 _))).1).trans r.2.2.1,(za8 (hc.keep _ (by omega) (hn _ (Nat.le_succ _))).1).trans r.2.2.2⟩
   have:=zaa (g.mw.ndAt (k:=a) kp.nd).row
   unfold Nd.cells at this
   rw [IS.out.xv] at this
   exact this
 have R1:=zac8 R1
 have RZ:=zac8 RZ
 have hz:=zac8 hz
 have zV:=zac8 zV
 clear zn zw rn rw0 rx0 rx1 sx0 sx1
 have B3:Below w.heap.size w (V.drew.alloc (.cells Msg.zero.cells 118)):=B2.alloc (by have:=zV.out;simp;omega) _
 have HB:=zac8 (And.intro B2 B3)
 clear B2 B3
 go_region_held3 (fun w'=>rowOf w' n.b=ndC (.pointer (some ⟨D.xb,0,none⟩)) n.t n.sv n.dv n.tv∧rowOf w' S.wb=wrC S.nb S.mb S.now∧rowOf w' w.heap.size=p.cells∧rowOf w' (w.heap.size + 1)=g.cells)
   (first
     | exact R1.out
     | exact PH.alloc (w:=V.drew) _ R1.out hz.out (zac9 _)
     | exact RA.out
     | exact RA.out.alloc _ hz.out HSZ.out.1
     | exact RA.out.set _ hz.out (zac9 _)
     | exact (RA.out.alloc _ hz.out HSZ.out.1).set _ hz.out HSZ.out.1)
   ((go_at_call 67;first
     | (refine (PR.out _ HB.out.1).mono ?_;rintro _ Z ⟨m,k,S',rfl,kp,rs,g3,c3⟩;have RA:=zac8 (RZ.out V.drew _ _ R1.out (zac9 _) kp c3 g3);have G3:=zac8 g3;have Q1:=zac8 (And.intro kp rs);have HSZ:=zac8 (And.intro c3.size True.intro);clear g3 c3 kp rs)
     | (refine (PR.out _ HB.out.2).mono ?_;rintro _ Z ⟨m,k,S',rfl,kp,rs,g3,c3⟩
        have RA:=zac8 (RZ.out (V.drew.alloc (.cells Msg.zero.cells 118)) _ _ (PH.alloc (w:=V.drew) _ R1.out hz.out (zac9 _)) (by simp) kp c3 g3)
        have KP:=c3.keep V.heap.size (by simp) (fun q=>by have:=H.out.all_lt q;have:=zV.out;omega)
        have hm:Z.heap[V.heap.size]?=some (.cells Msg.zero.cells 118):=KP.1.trans (heap_alloc_new V.drew _)
        have rm:=zaa hm
        have sm:=zan hm
        have G3:=zac8 g3;have Q1:=zac8 (And.intro kp rs)
        have HSZ:=zac8 (And.intro (show V.heap.size ≤ Z.heap.size from by have:=c3.size;simp at this;omega) KP.2)
        clear g3 c3 kp rs hm KP)))
 all_goals
   clear PR RZ R1
   obtain ⟨mb,Y,e1,e2,g4,rm4,sm4⟩:=(by first | exact end_b G3.out (Nat.le_of_lt (Nat.lt_of_succ_lt zV.out)) HSZ.out.2 m.cells sm | exact end_a G3.out Msg.zero.cells m.cells 118)
   rw [← e2,← e1]
   clear e1 e2
   by_cases k0':k=0
   · subst k0'
     obtain ⟨t1,t2,t3⟩:=HS.out m S' Q1.out.2
     obtain ⟨c1,c2,c3,c4,c5⟩:=HC.out
     have SY:=zac8 (say_at (m:=m) (l:=zbu m) (a:=a) (b:=b) Q1.out.1.wb g4.mw (by rw [Q1.out.1.nb,t1];exact c1) t3 t2 (by rw [t1];exact c5) (eq_true (by omega)) (eq_true (by rw [t1];exact c3.2)) (eq_true (by omega)) (eq_true (by rw [t1];exact c4.2)) (by simp;omega))
     have G4:=zac8 g4
     have T1:=zac8 t1
     clear g4 t1 t2 t3 c1 c2 c3 c4 c5
     go_wp2_with (go_at_call 64;refine SY.out.mono ?_;rintro _ U ⟨rfl,X',g5,s1,s2,s3⟩;have G5:=zac8 (G4.out.trans g5);have SS:=zac8 (And.intro s1 (And.intro s2 s3));clear g5 s1 s2 s3)
     go_ret
     have ss:=SS.out
     rw [T1.out] at ss
     exact ⟨m,0,S',rfl,Q1.out.1,Q1.out.2,fun q=>absurd rfl q,fun _=>⟨X',G5.out,ss⟩⟩
   · have k0:(k == 0)=false:=beq_eq_false_iff_ne.2 k0'
     have G4:=zac8 g4
     have K0:=zac8 k0'
     clear g4 k0'
     go_wp2
     go_ret
     exact ⟨m,k,S',rfl,Q1.out.1,Q1.out.2,fun _=>G4.out,fun q=>absurd q K0.out⟩
structure OnD (D:Dm) (L:List It) (B:List (Int × Sw)):Prop where
 on:D.A.off=false
 rows:D.R=zbc L
 book:bkOf D.M=B
 run:Run [] L B
structure DnD (D:Dm) (L:List It) (B:List (Int × Sw)) (a:It):Prop where
 fell:Fell D L a
 book:bkOf D.M=B
 run:Run [] L B
 add:∃ B2,Adds B a B2
theorem On.d {w:World} {D:Dm} {L:List It} {B:List (Int × Sw)} (h:On w D L B):OnD D L B:=⟨h.on,h.rows,h.book,h.run⟩
theorem OnD.on' {w:World} {D:Dm} {L:List It} {B:List (Int × Sw)} (h:OnD D L B) (d:Dae w D):On w D L B:=⟨d,h.on,h.rows,h.book,h.run⟩
structure Stay (D D':Dm):Prop where
 xb:D'.xb=D.xb
 t:D'.t=D.t
 seed:D'.seed=D.seed
 dv:D'.dv=D.dv
theorem Trans.stay {w w':World} {D D':Dm} (t:Trans w D w' D'):Stay D D':=⟨t.xb,t.t,t.seed,t.dv⟩
theorem MW.fall {w w':World} {S:MS} (h:MW w S) {k:Nat} {D D':Dm} (hk:S.ds k=.live D) (t:Trans w D w' D') (hd:Dae0 true w' D'):Goes w S w' { S with ds:=upd S.ds k (.dead D') }:=
 h.da k (by rw [hk];exact t.comp) hd
theorem KeptNo.dn {w w':World} {D:Dm} {L its:List It} (h:KeptNo w D L its w'):¬ Calm D.A∧∃ D' k a,its[k]?=some a∧DnD D' (L ++ its.take k) (bkOf D'.M) a∧Dae0 true w' D'∧Trans w D w' D':=by
 obtain ⟨q1,D',k,a,q2,q3,q4,q5,q6,q7⟩:=h
 exact ⟨q1,D',k,a,q2,⟨q4,rfl,q5,q6⟩,q3,q7⟩
theorem zoa {w:World} {S:MS} (h:MW w S) (hnb:S.nb=S.X.nb) (hF:Forms S.u) (hT:Tabs S.u) {a b:Nat} {n:Nd} {D:Dm} (is:Live S a n D) {nb2:Nat} (is2:S.at_ b=ptA nb2) (hk:TmK D.t) (hsl:D.seed.length ≤ 64) (hab:a ≠ b) (ha:1 ≤ a∧(a:Int) ≤ S.X.nodes) (hb:1 ≤ b∧(b:Int) ≤ S.X.nodes) (hlen:S.X.L.length < 1000)
   {L:List It} {B:List (Int × Sw)} (ho:OnD D L B) {i:Int} {p g:Lg} (hi:I64 i):
   Calls Tryz.prog 29 #[.pointer (some ⟨S.wb,0,none⟩),.int .i64 a,.int .i64 b,.int .i64 i,.agg p.cells,.agg g.cells] w fun e w'=>∃ k,e=.returned (.int .i64 k)∧
     ((k ≠ 0∧zb8 D B i b p g S.now=k∧Goes w S w' S) ∨
      (k=0∧zb8 D B i b p g S.now=0∧∃ X' D',Goes w S w' { S with X:=X',ds:=upd S.ds a (.live D') }∧OnD D' (L ++ [.dl (zbm D i b p g S.now),.se i (secretH (D.seed ++ intI i))]) (putA B i (zez (zbm D i b p g S.now) (secretH (D.seed ++ intI i))))∧(Calm D.A→Calm D'.A)∧Stay D D'∧X'.says=S.X.says ++ [((a:Int),(b:Int),zbu (zaz (zbm D i b p g S.now)))]∧X'.nodes=S.X.nodes∧X'.nb=S.X.nb) ∨
      (k=9∧zb8 D B i b p g S.now=0∧¬ Calm D.A∧∃ D' j c,[It.dl (zbm D i b p g S.now),.se i (secretH (D.seed ++ intI i))][j]?=some c∧Goes w S w' { S with ds:=upd S.ds a (.dead D') }∧DnD D' (L ++ [It.dl (zbm D i b p g S.now),.se i (secretH (D.seed ++ intI i))].take j) (bkOf D'.M) c∧Stay D D')):=by
 generalize hd:zbm D i b p g S.now=d
 refine (zn9 (i:=i) (p:=p) (g:=g) (R:=fun m k S'=>(k ≠ 0∧zb8 D B i b p g S.now=k∧S'=S) ∨
     (k=0∧zb8 D B i b p g S.now=0∧m=zaz d∧∃ D',S'={ S with ds:=upd S.ds a (.live D') }∧OnD D' (L ++ [.dl d,.se i (secretH (D.seed ++ intI i))]) (putA B i (zez d (secretH (D.seed ++ intI i))))∧(Calm D.A→Calm D'.A)∧Stay D D') ∨
     (k=9∧zb8 D B i b p g S.now=0∧¬ Calm D.A∧∃ D' j c,[It.dl d,.se i (secretH (D.seed ++ intI i))][j]?=some c∧S'={ S with ds:=upd S.ds a (.dead D') }∧DnD D' (L ++ [It.dl d,.se i (secretH (D.seed ++ intI i))].take j) (bkOf D'.M) c∧Stay D D')) h hnb is is2 hab ha hb hlen (fun m S' q=>?_) (fun W hW=>?_)).mono ?_
 · rcases q with ⟨q,_⟩ | ⟨_,q1,rfl,D',rfl,q2⟩ | ⟨q,_⟩
   · exact absurd rfl q
   · refine ⟨rfl,Nat.le_trans (zb5 _) (by decide),fun W hW=>?_⟩
     have he:errD d=0:=by
       rw [← hd]
       unfold zb8 at q1
       split at q1
       · rename_i q;exact absurd q1 q
       · rename_i q;exact Decidable.not_not.1 q
     have hid:=zd1 he
     exact zh7 (hF.keep (zac9 _) hW) (.inl rfl) hid.1 hid.2.1 hid.2.2.1 hid.2.2.2
   · cases q
 · have G2:=h.below hW
   refine (zn7 (peer:=(b:Int)) (n:=S.now) (ho.on' (is.dae G2.mw)) ((G2.mw.mine is.ds).base hF hT) hk hsl hi).mono ?_
   rw [hd]
   rintro e Z (⟨k,k0,q1,rfl,hb⟩ | ⟨q1,⟨rfl,D',o,c,t⟩ | ⟨rfl,q2⟩⟩)
   · have g3:=G2.mw.below hb
     exact ⟨_,k,S,rfl,⟨is.nd,rfl,rfl,rfl,rfl⟩,.inl ⟨k0,q1,rfl⟩,G2.trans g3,g3.comp⟩
   · have g3:=G2.mw.live (k:=a) is.ds t o.dae
     exact ⟨_,0,({ S with ds:=upd S.ds a (.live D') }:MS),rfl,⟨is.nd,rfl,rfl,rfl,rfl⟩,.inr (.inl ⟨rfl,q1,rfl,D',rfl,o.d,c,t.stay⟩),G2.trans g3,g3.comp⟩
   · obtain ⟨q3,D',j,c,q4,q5,q6,t⟩:=q2.dn
     have g3:=G2.mw.fall (k:=a) is.ds t q6
     exact ⟨_,9,({ S with ds:=upd S.ds a (.dead D') }:MS),rfl,⟨is.nd,rfl,rfl,rfl,rfl⟩,.inr (.inr ⟨rfl,q1,q3,D',j,c,q4,rfl,q5,t.stay⟩),G2.trans g3,g3.comp⟩
 · rintro e w' ⟨m,k,S',rfl,_,q,k1,k2⟩
   rcases q with ⟨q1,q2,rfl⟩ | ⟨rfl,q1,rfl,D',rfl,q2,q3,q4⟩ | ⟨rfl,q1,q2,D',j,c,q3,rfl,q4,q5⟩
   · exact ⟨k,rfl,.inl ⟨q1,q2,k1 q1⟩⟩
   · obtain ⟨X',g,s⟩:=k2 rfl
     exact ⟨0,rfl,.inr (.inl ⟨rfl,q1,X',D',g,q2,q3,q4,s⟩)⟩
   · exact ⟨9,rfl,.inr (.inr ⟨rfl,q1,q2,D',j,c,q3,k1 (by decide),q4,q5⟩)⟩
end Go.Proofs.YthjgiamfaijoeaaGreatDoor
