/- What is proved: parts of the walk and of the plain law, 3 texts in one. No condition but those each law names. -/
import Derived.Test.YtjkfondgacjpnaaGreatDoorF45
import Derived.Test.YtjkfondgacjpnaaGreatDoorF42
namespace Go.Proofs.YtjkfondgacjpnaaGreatDoor
open Go.RowKit
open Sx (Ab DW Turns Did Foot)
set_option maxRecDepth 100000
attribute [local go_sem ↓] rowOf_cell ebl1 ebl2 ebrDk ebrSk ebmRk
attribute [local go_sem] rowOf_alloc soft_alloc rowOf_drew soft_drew rowOf_setRow soft_setRow frozen_of_soft Ext.row Ext.soft_ rOf_D rOf_S rcD_eq rcS_eq
def takesF (t:Tm) (B:List (Int × Sw)) (d:Dl) (n:Cl) (free:Int):Int:=if takesE t d n free ≠ 0 then takesE t d n free else roomE B d.i
section
variable {w:World} {D:Dm} {d:Dl} {n:Cl} {free:Int} {L:List It} {B:List (Int × Sw)}
set_option maxHeartbeats 4000000 in
theorem takes_go {v:Int} (HL:Hid (On w D L B)) (HB:Hid (Base w D)) (HT:Hid (TmK D.t)) (HS:Hid (Small d.h.l)) (HD:Hid (dealOk d=true)) (H2:Hid (quoteV D.t d.p.a free=(v,0))) (e3:(d.g.a < v)=False) (H4:Hid (safeE D.t d n=0)):
  Calls Tryz.prog 79 #[.pointer (some ⟨D.xb,0,none⟩),.agg d.cells,.agg n.cells,.int .i64 free] w fun e w'=>
   (∃ k,k ≠ 0∧roomE B d.i=k∧e=.returned (.int .i64 k)∧Below w.heap.size w w') ∨
   (roomE B d.i=0∧((e=.returned (.int .i64 0)∧KeptOk w D (L ++ [.dl d]) (putA B d.i (newS d)) w') ∨ (e=.returned (.int .i64 9)∧KeptNo w D L [.dl d] w'))):=by
 have h:=HL.out.dae
 have e1:=errD_ok HD.out
 have H:=Lib.hid h
 have H1:=Lib.hid e1
 clear h e1
 generalize hpf:roomE B d.i=pf
 have HPF:=Lib.hid hpf
 clear hpf
 obtain ⟨ro,hro⟩:∃ ro,roomE B d.i=ro:=⟨_,rfl⟩
 have HRO:=Lib.hid hro
 clear hro
 go_enter Tryz.func79,Tryz.ntmps79
 go_upto_region 1 with (fail)
 have bx:=Bxs.new2 w (d.cells) 83 (n.cells) 37;generalize ((w.alloc (.cells (d.cells) 83)).alloc (.cells (n.cells) 37))=W at bx ⊢;have rx0:=bx.row' 0 rfl;have sx0:=bx.soft' 0 rfl;(try simp only [Nat.add_zero] at rx0 sx0);have rx1:=bx.row' 1 rfl;have sx1:=bx.soft' 1 rfl;(try simp only [Nat.add_zero] at rx1 sx1);have BX:=Lib.hid bx;clear bx
 go_wp2_with fail
 refine (deal_is H1.out _).mono ?_;rintro _ W2 ⟨rfl,hb⟩;have bx:=BX.out.step hb;clear BX hb rx0 sx0 rx1 sx1;have rx0:=bx.row' 0 rfl;have sx0:=bx.soft' 0 rfl;(try simp only [Nat.add_zero] at rx0 sx0);have rx1:=bx.row' 1 rfl;have sx1:=bx.soft' 1 rfl;(try simp only [Nat.add_zero] at rx1 sx1);have BX:=Lib.hid bx;clear bx
 have D2:=H.out.below BX.out.below
 have rD:=rowOf_of D2.row
 unfold Dm.cells at rD
 have Q:∀ w,Calls Tryz.prog 107 #[.agg D.t.cells,.int .i64 d.p.a,.int .i64 free] w (Ret (.tuple #[.int .i64 v,.int .i64 0]) w):=fun w=>by
  have:=ret_of (Quote_any HT.out d.p.a free w)
  rw [H2.out] at this
  exact this
 have Q:=Lib.hid Q
 have lx:D.xb < W2.heap.size:=D2.lt (.inl rfl)
 have l0:=BX.out.lt 0 rfl
 have l1:=BX.out.lt 1 rfl
 simp only [Nat.add_zero] at l0
 clear D2
 go_upto_region 4 with (fail)
 (refine wp_region_grow (by kernel_rfl) (by kernel_rfl) ?_;(repeat (go_big_quiet_step (((go_at_call 107;exact Calls.ext_of (Q.out _))))));refine wpQuiet_nil ?_;rintro _ ⟨g,rfl⟩)
 have bx:=BX.out.step g.below;clear BX rx0 sx0 rx1 sx1;have rx0:=bx.row' 0 rfl;have sx0:=bx.soft' 0 rfl;(try simp only [Nat.add_zero] at rx0 sx0);have rx1:=bx.row' 1 rfl;have sx1:=bx.soft' 1 rfl;(try simp only [Nat.add_zero] at rx1 sx1);have BX:=Lib.hid bx;clear bx
 have D3:=H.out.below BX.out.below
 have rD:=rowOf_of D3.row
 unfold Dm.cells at rD
 have lx:D.xb < g.val.heap.size:=D3.lt (.inl rfl)
 have l0:=BX.out.lt 0 rfl
 have l1:=BX.out.lt 1 rfl
 simp only [Nat.add_zero] at l0
 clear D3
 generalize g.val=V at *
 go_upto_region 9 with (fail)
 have K:∀ w,Calls Tryz.prog 108 #[.agg D.t.cells,.agg d.cells,.agg n.cells] w (Ret (.int .i64 0) w):=fun w=>by
  have:=ret_of (Safe_any HT.out.tm d n w)
  rw [H4.out] at this
  exact this
 have K:=Lib.hid K
 (refine wp_region_grow (by kernel_rfl) (by kernel_rfl) ?_;(repeat (go_big_quiet_step (((go_at_call 108;exact Calls.ext_of (K.out _))))));refine wpQuiet_nil ?_;rintro _ ⟨g2,rfl⟩)
 have bx:=BX.out.step g2.below;clear BX rx0 sx0 rx1 sx1;have rx0:=bx.row' 0 rfl;have sx0:=bx.soft' 0 rfl;(try simp only [Nat.add_zero] at rx0 sx0);have rx1:=bx.row' 1 rfl;have sx1:=bx.soft' 1 rfl;(try simp only [Nat.add_zero] at rx1 sx1);have BX:=Lib.hid bx;clear bx
 generalize g2.val=X at *
 have D4:=H.out.below BX.out.below
 have RM:=room_any D4 (by rw [HL.out.book];exact HL.out.fine) d.i
 rw [HL.out.book,HRO.out] at RM
 have RM:=Lib.hid RM
 clear D4 rD lx l0 l1
 go_wp2_with fail
 refine (RM.out).mono ?_;rintro _ Y ⟨rfl,hb⟩;have bx:=BX.out.step hb;clear BX hb rx0 sx0 rx1 sx1;have rx0:=bx.row' 0 rfl;have sx0:=bx.soft' 0 rfl;(try simp only [Nat.add_zero] at rx0 sx0);have rx1:=bx.row' 1 rfl;have sx1:=bx.soft' 1 rfl;(try simp only [Nat.add_zero] at rx1 sx1);have BX:=Lib.hid bx;clear bx
 by_cases hr0:ro=0
 case neg=>
  have k0:(ro == 0)=false:=beq_eq_false_iff_ne.2 hr0
  have HK0:=Lib.hid hr0
  clear hr0
  go_wp2
  go_ret
  exact .inl ⟨ro,HK0.out,HPF.out.symm.trans HRO.out,rfl,BX.out.below⟩
 subst hr0
 go_upto_region 15 with (fail)
 have hb:=(Below.refl Y.heap.size Y).alloc (Nat.le_refl _) (.cells (rcD d).cells 119)
 have hbw:=BX.out.below.trans (hb.mono BX.out.below.size)
 have na:¬ D.all Y.heap.size:=fun q=>by
  have:=H.out.all_lt q
  have:=BX.out.below.size
  omega
 have KD:=keep_its (w:=Y.alloc (.cells (rcD d).cells 119)) (its:=[.dl d]) (Nat.le_succ 1) (HL.out.below hbw) (add_deal HD.out HS.out HRO.out) (HB.out.trans (Trans.below hbw)) (heap_alloc_new Y _) (r_size _) (fun k a hk=>by
  match k,hk with
  | 0,hk=>cases hk;exact sub_whole _
  | k + 1,hk=>simp at hk) na
 have KD:=Lib.hid (show Calls Tryz.prog 48 #[.pointer (some ⟨D.xb,0,none⟩),.slice (some ⟨Y.heap.size,0,none⟩) 1 1] _ _ from KD)
 have HW:=Lib.hid hbw
 clear hb hbw na
 go_wp2_with fail
 refine KD.out.mono ?_
 rintro _ Z (⟨rfl,D',q1,qc,q2⟩ | ⟨rfl,qc,D',k,a,q0,q1,q3,q4,q5,q2⟩)
 ·have Q1:=Lib.hid (And.intro q1 qc)
  have Q2:=Lib.hid ((Trans.below HW.out).trans q2)
  clear q1 q2 qc KD
  go_wp2
  go_ret
  exact .inr ⟨HPF.out.symm.trans HRO.out,.inl ⟨rfl,D',Q1.out.1,Q1.out.2,Q2.out⟩⟩
 ·have Q1:=Lib.hid (And.intro qc (And.intro q0 (And.intro q1 (And.intro q3 (And.intro q4 q5)))))
  have Q2:=Lib.hid ((Trans.below HW.out).trans q2)
  clear q0 q1 q2 q3 q4 q5 qc KD
  go_wp2
  go_ret
  obtain ⟨qc,q0,q1,q3,q4,q5⟩:=Q1.out
  exact .inr ⟨HPF.out.symm.trans HRO.out,.inr ⟨rfl,qc,D',k,a,q0,q1,q3,q4,q5,Q2.out⟩⟩
def Took (w:World) (D:Dm) (L:List It) (B:List (Int × Sw)) (d:Dl) (c:Int) (e:Int) (w':World):Prop:=
 (e ≠ 0∧c=e∧Below w.heap.size w w') ∨ (c=0∧((e=0∧KeptOk w D (L ++ [.dl d]) (putA B d.i (newS d)) w') ∨ (e=9∧KeptNo w D L [.dl d] w')))
theorem takes_all (h:On w D L B) (hB:Base w D) (hT:TmK D.t) (hs:Small d.h.l):
  Calls Tryz.prog 79 #[.pointer (some ⟨D.xb,0,none⟩),.agg d.cells,.agg n.cells,.int .i64 free] w fun x w'=>∃ e,x=.returned (.int .i64 e)∧Took w D L B d (takesF D.t B d n free) e w':=by
 by_cases hk:takesE D.t d n free=0
 ·obtain ⟨q1,⟨v,q2,q3⟩,q4⟩:=takesE_ok hk
  have e:takesF D.t B d n free=roomE B d.i:=by unfold takesF;rw [hk];simp
  rw [e]
  refine (takes_go (Lib.hid h) (Lib.hid hB) (Lib.hid hT) (Lib.hid hs) (Lib.hid q1) (Lib.hid q2) (eq_false q3) (Lib.hid q4)).mono ?_
  rintro x w' (⟨k,k0,e1,rfl,hb⟩ | ⟨e1,⟨rfl,q⟩ | ⟨rfl,q⟩⟩)
  ·exact ⟨k,rfl,.inl ⟨k0,e1,hb⟩⟩
  ·exact ⟨0,rfl,.inr ⟨e1,.inl ⟨rfl,q⟩⟩⟩
  ·exact ⟨9,rfl,.inr ⟨e1,.inr ⟨rfl,q⟩⟩⟩
 ·refine (takes_no h.dae hT rfl hk).mono ?_
  rintro x w' ⟨rfl,hb⟩
  exact ⟨_,rfl,.inl ⟨hk,by unfold takesF;rw [if_pos hk],hb⟩⟩
end
attribute [local go_sem ↓] ebd6k ebm5k
section
variable {w:World} {D:Dm} {n:Cl} {free peer:Int} {ao:Option Addr} {k c:Nat} {l:List Nat}
def heardL (m:Msg) (peer e:Int):List Nat:=if e=0 then putLM (acceptM (heardD m peer)) else putC m.i e
set_option maxHeartbeats 4000000 in
theorem hear_all {m:Msg} {Q:Int→World→World→Prop} (h:Dae w D) (hB:Base w D) (hs:Sl w ao k c (bts l)) (hr:Rs (l,0)) (hm:mgetM l=(0,m)) (k0:m.k=1) (hi:1 ≤ m.i∧m.i ≤ 1073741824) (hn:∀ W W',Q 0 W W'→idE m.i (propE (acceptM (heardD m peer)))=0∧I64 m.i∧LgI m.g∧LgI m.p) (hc:∀ e W W',Q e W W'→0 ≤ e∧e ≤ 24)
  (hq:∀ e W W',Q e W W'→Below w.heap.size w W→W.os=W'.os∧∀ i,i < W.heap.size→w.heap.size ≤ i→W'.heap[i]?=W.heap[i]?) (hf:∀ e W W',Q e W W'→Below w.heap.size w W→Forms W')
  (ht:∀ W,Dae W D→Base W D→Calls Tryz.prog 79 #[.pointer (some ⟨D.xb,0,none⟩),.agg (heardD m peer).cells,.agg n.cells,.int .i64 free] W fun x w'=>∃ e,x=.returned (.int .i64 e)∧Q e W w'):
  Calls Tryz.prog 54 #[.pointer (some ⟨D.xb,0,none⟩),.int .i64 peer,.slice ao k c,.agg n.cells,.int .i64 free] w fun x w'=>∃ e a c' W W',x=.returned (.slice a (heardL m peer e).length c')∧Sl w' a (heardL m peer e).length c' (bts (heardL m peer e))∧Below w.heap.size w W∧Q e W W'∧Below W'.heap.size W' w':=by
 have hf0:=hB.forms
 have HN:=Lib.hid hn
 have HCC:=Lib.hid hc
 have HII:=Lib.hid hi
 have HT:=Lib.hid ht
 have HQ:=Lib.hid hq
 have HFF:=Lib.hid hf
 have HB:=Lib.hid hB
 clear hB hn hi ht hc hq hf
 have H:=Lib.hid h
 have HF:=Lib.hid hf0
 have HSl:=Lib.hid hs
 have HRs:=Lib.hid hr
 have HM:=Lib.hid hm
 clear h hs hr hm hf0
 go_enter Tryz.func54,Tryz.ntmps54
 go_upto_region 1 with (fail)
 have bx:=Bx.new w (n.cells) 37;generalize w.alloc (.cells (n.cells) 37)=W at bx ⊢;have rx:=bx.rowOf;have sx:=bx.soft;have BX:=Lib.hid bx;clear bx
 have G:=MGet_any (HF.out.keep (Nat.le_refl _) BX.out.below) (HSl.out.keep (Nat.le_refl _) BX.out.below) HRs.out
 rw [HM.out] at G
 have GG:=Lib.hid G
 clear G
 have rD:=rowOf_of (H.out.below BX.out.below).row
 unfold Dm.cells at rD
 go_wp2_with fail
 refine GG.out.mono ?_
 rintro _ W2 ⟨rfl,hb⟩
 have bx:=BX.out.step hb
 have HLN:=Lib.hid bx.below.size
 clear BX GG rx sx rD hb
 have BX:=Lib.hid bx
 clear bx
 go_upto_region 4 with (fail)
 have L:=Bx.made W2 Msg.zero.cells m.cells 67
 generalize (W2.alloc (.cells Msg.zero.cells 67)).setRow W2.heap.size m.cells=W3 at L ⊢
 have bx:=BX.out.step L.below
 clear BX
 have BX:=Lib.hid bx
 have rm:=L.rowOf
 have rx:=bx.rowOf
 have LX:=Lib.hid L
 have LN:=Lib.hid HLN.out
 have LX2:=Lib.hid (show W2.heap.size ≤ W3.heap.size from Nat.le_of_lt (Array.getElem?_eq_some_iff.1 L.row).1)
 clear bx L
 go_upto_region 9 with (fail)
 have L2:=Bx.made W3 Dl.zero.cells (heardD m peer).cells 83
 rw [show ({ i:=m.i,r:=2,p:=m.g,g:=m.p,h:=m.h,q:=peer }:Dl)=heardD m peer from rfl]
 have hdi:(heardD m peer).i=m.i:=rfl
 generalize (W3.alloc (.cells Dl.zero.cells 83)).setRow W3.heap.size (heardD m peer).cells=W4 at L2 ⊢
 have bx:=BX.out.step L2.below
 have lx:=LX.out.step L2.below
 clear BX LX rm rx
 have BX:=Lib.hid bx
 have LX:=Lib.hid lx
 have rd:=L2.rowOf
 have rm:=lx.rowOf
 have rx:=bx.rowOf
 have LD:=Lib.hid L2
 clear L2 bx lx hdi
 have T:=Lib.hid (HT.out W4 (H.out.below BX.out.below) (HB.out.trans (Trans.below BX.out.below)))
 go_wp2_with fail
 refine T.out.mono ?_
 rintro _ W5 ⟨e,rfl,qe⟩
 have kp:=(HQ.out e _ _ qe BX.out.below).2
 have rm:rowOf W5 W2.heap.size=m.cells:=rowOf_of ((kp _ (Array.getElem?_eq_some_iff.1 LX.out.row).1 LN.out).trans LX.out.row)
 have rd:rowOf W5 W3.heap.size=(heardD m peer).cells:=rowOf_of ((kp _ (Array.getElem?_eq_some_iff.1 LD.out.row).1 (Nat.le_trans LN.out LX2.out)).trans LD.out.row)
 have F5:=HFF.out e _ _ qe BX.out.below
 have ec:=HCC.out e _ _ qe
 have QE:=Lib.hid qe
 have HB4:=Lib.hid BX.out.below
 clear kp T BX LX LD HT qe rx
 by_cases e0:e=0
 ·subst e0
  have en:=HN.out _ _ QE.out
  have P:=Lib.hid (MPut_legs F5 (m:=acceptM (heardD m peer)) (.inr rfl) en.1 en.2.1 en.2.2.1 en.2.2.2)
  have hdd:Msg.cells ⟨2,m.i,0,(heardD m peer).p,(heardD m peer).g,(heardD m peer).h⟩=(acceptM (heardD m peer)).cells:=rfl
  have HL:=Lib.hid (show heardL m peer 0=putLM (acceptM (heardD m peer)) from if_pos rfl)
  clear en F5 ec
  go_wp2_with fail
  refine P.out.mono ?_
  rintro _ V ⟨a2,c2,rfl,hb,ho⟩
  have S:=Lib.hid (And.intro (Sl.own ho) hb)
  clear hb ho P
  go_wp2
  go_ret
  refine ⟨0,a2,c2,W4,W5,?_,?_,HB4.out,QE.out,S.out.2⟩
  ·rw [HL.out];rfl
  ·rw [HL.out];exact S.out.1
 ·have k0':(e == 0)=false:=beq_eq_false_iff_ne.2 e0
  have hn:idE m.i (refE e)=0:=by
   have:=HII.out
   unfold idE refE
   rw [if_neg (by omega),if_neg (by omega)]
  have R:=Lib.hid (refusal_call F5 hn)
  have HL:=Lib.hid (show heardL m peer e=putC m.i e from if_neg e0)
  clear hn F5 ec e0
  go_wp2_with fail
  refine R.out.mono ?_
  rintro _ V ⟨a2,c2,rfl,hb,s2⟩
  have S:=Lib.hid (And.intro s2 hb)
  clear hb s2 R
  go_wp2
  go_ret
  refine ⟨e,a2,c2,W4,W5,?_,?_,HB4.out,QE.out,S.out.2⟩
  ·rw [HL.out];rfl
  ·rw [HL.out];exact S.out.1
end
end Go.Proofs.YtjkfondgacjpnaaGreatDoor

namespace Go.Proofs.YtjkfondgacjpnaaGreatDoor
open Go.RowKit
open Sx (Ab DW Turns Did Foot MapIs)
set_option maxRecDepth 100000
attribute [local go_sem ↓] rowOf_cell
attribute [local go_sem] rowOf_alloc soft_alloc rowOf_drew soft_drew rowOf_setRow soft_setRow rowOf_setCell soft_setCell frozen_of_soft rowOf_map soft_map Sx.run_mk Ext.row Ext.soft_
theorem swL_at (M:List (Int × En)):∀ (ks:List Int) (j:Nat) (hj:j < ks.length) (o:Nat),o < 75→(swL M ks)[j * 75 + o]?=(swO (getA M ks[j])).list[o]?
 | [],j,hj,_,_=>absurd hj (Nat.not_lt_zero _)
 | k :: ks,0,_,o,ho=>by
  show ((swO (getA M k)).list ++ swL M ks)[0 * 75 + o]?=_
  rw [List.getElem?_append_left (by rw [s_len];omega),Nat.zero_mul,Nat.zero_add]
  rfl
 | k :: ks,j + 1,hj,o,ho=>by
  show ((swO (getA M k)).list ++ swL M ks)[(j + 1) * 75 + o]?=_
  rw [List.getElem?_append_right (by rw [s_len];omega),s_len,show (j + 1) * 75 + o - 75=j * 75 + o by omega,swL_at M ks j (by simpa using hj) o ho]
  rfl
theorem sw_own {w:World} {B n cap:Nat} {ao:Option Addr} {M:List (Int × En)} {ks:List Int} (hn:0 < n) (h:w.ownsRow B 85 75 (.slice ao n cap) n (swL M ks)) (hl:ks.length=n):∃ g cur,ao=some ⟨g,0,none⟩∧w.heap[g]?=some (.cells cur 85)∧n * 75 ≤ cur.size∧n ≤ cap∧∀ (j:Nat) (hj:j < ks.length) (o:Nat),o < 75→cur[j * 75 + o]?=(swO (getA M ks[j])).cells[o]?:=by
 rcases h.2 with ⟨hv,h0,_⟩ | ⟨g,cp,cur,hv,_,hh,hc,_,hs,ht⟩
 ·cases hv;omega
 ·cases hv
  have hz:cur.size=cap * 75:=hs
  have hz2:n * 75 ≤ cap * 75:=Nat.mul_le_mul_right 75 hc
  refine ⟨g,cur,rfl,hh,by omega,hc,fun j hj o ho=>?_⟩
  have e:=swL_at M ks j hj o ho
  rw [← ht,List.getElem?_take_of_lt (by omega)] at e
  simpa [Sw.cells] using e
theorem s_40 (s:Sw):s.cells[40]?=some (.int .i64 s.d.q):=by
 have h:=d_40 s.d
 have e:s.cells[40]?=s.d.cells[40]?:=by
  have z:40 < s.d.list.length:=by rw [s.d.len];decide
  show s.list.toArray[40]?=s.d.list.toArray[40]?
  rw [List.getElem?_toArray,List.getElem?_toArray]
  exact List.getElem?_append_left z
 rw [e,h]
def hasD (M:List (Int × En)) (id role peer:Int) (k:Int):Bool:=(swO (getA M k)).d.i == id && ((swO (getA M k)).d.r == role && (swO (getA M k)).d.q == peer)
set_option maxHeartbeats 2000000 in
theorem agreed_any {w:World} {S:MS} (h:MW w S) {a:Nat} {n:Nd} {D:Dm} {kd:Bool} (is:Has S a n D kd) (hl:D.M.length ≤ 16) (hi:∀ p ∈ D.M,I64 p.1) (id role peer:Int):Calls Tryz.prog 14 #[.pointer (some ⟨S.wb,0,none⟩),.int .i64 a,.int .i64 id,.int .i64 role,.int .i64 peer] w fun e w'=>∃ ks:List Int,ks.Perm (D.M.map (·.1))∧e=.returned (.bool (ks.any (hasD D.M id role peer)))∧Below w.heap.size w w':=by
 have SW:=Lib.hid (Swaps_any h is hl hi)
 have HL:=Lib.hid hl
 clear h is hl hi
 go_enter Tryz.func14,Tryz.ntmps14
 go_upto_region 3 with (go_at_call 15;refine SW.out.mono ?_;rintro _ V ⟨ao,cap,ks,rfl,hp,ho,hb⟩)
 have lk16:ks.length ≤ 16:=by rw [hp.length_eq,List.length_map];exact HL.out
 have HO:=Lib.hid ho
 have HP:=Lib.hid hp
 have HB:=Lib.hid hb
 clear hp ho hb SW
 go_loopw [12] (fun i wr=>∃ k:Nat,k ≤ ks.length∧i=.int .i64 k∧(ks.take k).any (hasD D.M id role peer)=false∧wr=V) (fun i _=>ks.length - (intOf i).toNat)
 case atStart=>exact ⟨0,Nat.zero_le _,rfl,rfl,rfl⟩
 case round=>
  obtain ⟨k,hk,rfl,hno,rfl⟩:=hrel
  have HN:=Lib.hid hno
  clear hno
  by_cases hlt:k < ks.length
  ·have i1:(k:Int) < ks.length:=by omega
   obtain ⟨g,cur,rfl,hg,hcz,hcap,hc⟩:=sw_own (by omega) HO.out rfl
   have rg:=rowOf_of hg
   have e0:=hc k hlt 0 (by decide)
   have e1:=hc k hlt 1 (by decide)
   have e40:=hc k hlt 40 (by decide)
   obtain ⟨kk,hkk⟩:∃ kk,kk=ks[k]:=⟨_,rfl⟩
   rw [← hkk] at e0 e1 e40
   have hnx:(ks.take (k + 1)).any (hasD D.M id role peer)=hasD D.M id role peer kk:=by
    rw [List.take_succ_eq_append_getElem hlt,List.any_append,HN.out,Bool.false_or,← hkk]
    simp
   unfold hasD at hnx
   have HK:=Lib.hid hkk
   clear hkk hc hg
   generalize swO (getA D.M kk)=s at *
   have c0:cur[k * 75 + 0]?=some (.int .i64 s.d.i):=e0.trans (s_0 s)
   have c1:cur[k * 75 + 1]?=some (.int .i64 s.d.r):=e1.trans (s_1 s)
   have c40:cur[k * 75 + 40]?=some (.int .i64 s.d.q):=e40.trans (s_40 s)
   rw [Nat.add_zero] at c0
   have z0:k * 75 < cur.size:=by omega
   have z1:k * 75 + 1 < cur.size:=by omega
   have z40:k * 75 + 40 < cur.size:=by omega
   have g0:cur[k * 75]'z0=.int .i64 s.d.i:=Option.some.inj ((Array.getElem?_eq_getElem z0).symm.trans c0)
   have g1:cur[k * 75 + 1]'z1=.int .i64 s.d.r:=Option.some.inj ((Array.getElem?_eq_getElem z1).symm.trans c1)
   have g40:cur[k * 75 + 40]'z40=.int .i64 s.d.q:=Option.some.inj ((Array.getElem?_eq_getElem z40).symm.trans c40)
   clear e0 e1 e40
   have wk:IntKind.i64.wrap ((k:Int) + 1)=(k:Int) + 1:=wrap_small (by omega) (by omega)
   have no:(s.d.i == id && (s.d.r == role && s.d.q == peer))=false→(ks.take (k + 1)).any (hasD D.M id role peer)=false:=fun e=>by rw [← e,← hnx];rfl
   have yes:(s.d.i == id && (s.d.r == role && s.d.q == peer))=true→ks.any (hasD D.M id role peer)=true:=fun e=>by
    have e2:=hnx.trans e
    rw [← List.take_append_drop (k + 1) ks,List.any_append]
    have e3:(ks.take (k + 1)).any (hasD D.M id role peer)=true:=e2
    rw [e3,Bool.true_or]
   have NO:=Lib.hid no
   have YES:=Lib.hid yes
   clear no yes hnx
   cases h1:(s.d.i == id) with
   | false=>
    have n1:=NO.out (by rw [h1];rfl)
    go_wp2
    go_roundw
    case rel=>exact ⟨k + 1,by omega,rfl,n1,trivial⟩
    case measure=>simp [intOf];omega
   | true=>
    cases h2:(s.d.r == role) with
    | false=>
     have n1:=NO.out (by rw [h1,h2];rfl)
     go_wp2
     go_roundw
     case rel=>exact ⟨k + 1,by omega,rfl,n1,trivial⟩
     case measure=>simp [intOf];omega
    | true=>
     cases h3:(s.d.q == peer) with
     | false=>
      have n1:=NO.out (by rw [h1,h2,h3];rfl)
      go_wp2
      go_roundw
      case rel=>exact ⟨k + 1,by omega,rfl,n1,trivial⟩
      case measure=>simp [intOf];omega
     | true=>
      have y1:=YES.out (by rw [h1,h2,h3];rfl)
      go_wp2
      go_ret
      exact ⟨ks,HP.out,by rw [y1];rfl,HB.out⟩
  ·have e:k=ks.length:=by omega
   subst e
   have HN2:=HN.out
   rw [List.take_length] at HN2
   have HN3:=Lib.hid HN2
   clear HN2
   go_wp2
   go_ret
   exact ⟨ks,HP.out,by rw [HN3.out];rfl,HB.out⟩
end Go.Proofs.YtjkfondgacjpnaaGreatDoor

namespace Go.Proofs.YtjkfondgacjpnaaGreatDoor
open Go.RowKit
open Sx (Ab DW Turns Did Foot MapIs CrashTo)
set_option maxRecDepth 100000
attribute [local go_sem ↓] rowOf_cell
attribute [local go_sem] rowOf_alloc soft_alloc rowOf_drew soft_drew rowOf_setRow soft_setRow rowOf_setCell soft_setCell frozen_of_soft rowOf_map soft_map Sx.run_mk
set_option maxHeartbeats 2000000 in
theorem open_any {w:World} {S:MS} (h:MW w S) (hFo:Forms S.u) (hTa:Tabs S.u) {k:Nat} {n:Nd} {F:Foot} {A A':Ab} {j:Jr} {L:List It} {B:List (Int × Sw)} (hn:S.nd k=some n) (hd:S.ds k=.disk F n.dv A) (hA:Ab.Sm A) (ho:openP A=⟨0,A',j,rowsIt L⟩) (hh:Holds A' j (rowsIt L)) (hc:Calm A') (hr:Run [] L B) (hT:TmK n.t) (h0:0 < n.seed.length) (hl:n.seed.length ≤ 64):
   Calls Tryz.prog 31 #[.pointer (some ⟨n.b,0,none⟩)] w fun e w'=>e=.returned (.int .i64 0)∧∃ D tb,Goes w S w' { S with nd:=upd S.nd k (some { n with xv:=ptA D.xb,tv:=.map (some tb) }),tm:=upd S.tm k (some (tb,[])),ds:=upd S.ds k (.live D) }∧On w' D L B∧Calm D.A∧D.t=n.t∧D.seed=n.seed∧D.dv=n.dv:=by
 have H:=Lib.hid h
 have HN:=Lib.hid hn
 have HD:=Lib.hid hd
 have HP:=Lib.hid (And.intro hA (And.intro ho (And.intro hh (And.intro hc (And.intro hT (And.intro h0 (And.intro hl hr)))))))
 have HG:=Lib.hid (And.intro hFo hTa)
 have r0:=rowOf_of (h.ndAt hn).row
 have s0:=soft_of (h.ndAt hn).row
 have nb0:(n.b=w.heap.size)=False:=eq_false (Nat.ne_of_lt (Array.getElem?_eq_some_iff.1 (h.ndAt hn).row).1)
 unfold Nd.cells at r0
 clear h hn hd hA ho hh hc hT h0 hl hr hFo hTa
 go_enter Tryz.func31,Tryz.ntmps31
 go_upto_region 2 with (fail)
 have g1:=H.out.tmNew k
 have g2:=g1.mw.nrSet (n':={ n with tv:=.map (some w.heap.size) }) (show ({ S with tm:=upd S.tm k (some (w.heap.size,[])) }:MS).nd k=some n from HN.out) 12 (.map (some w.heap.size)) rfl rfl rfl rfl rfl
 have G:=(g1.trans g2).drew
 clear g1 g2
 have eW:∃ W,W=(w.alloc (.map #[] 0)).setCell ⟨n.b,12,none⟩ (.map (some w.heap.size)):=⟨_,rfl⟩
 obtain ⟨W,eW⟩:=eW
 rw [← eW] at G ⊢
 have na:=G.mw.ndAt (k:=k) (upd_at _ _ _)
 have r2:rowOf W n.b=ndC n.xv n.t n.sv n.dv (.map (some w.heap.size)):=rowOf_of na.row
 have s2:soft W n.b=true:=soft_of na.row
 have hdw:DW W.drew F n.dv A:=by
   have:=G.mw.at_ (.da k)
   simp only [MS.part,HD.out] at this
   exact this
 have hF:∀ x,¬ F n.sb x:=fun x q=>by
   refine G.mw.dis (.nr k) (.da k) (fun e=>by cases e) n.sb ?_ ?_
   · show (MS.part _ (.nr k)).P n.sb
     simp only [MS.part,upd_at]
     exact Or.inr trivial
   · simp only [MS.part,HD.out]
     exact ⟨x,q⟩
 have hlow:=G.mw.low
 have h3:2 < W.drew.heap.size∧∀ i,i ≤ 2→∀ x,¬ F i x:=by
   obtain ⟨t5,y5⟩:=HG.out.2.g5
   have l2:2 < S.u.heap.size:=(Array.getElem?_eq_some_iff.1 y5).1
   refine ⟨Nat.lt_of_lt_of_le l2 hlow.size,fun i hi x q=>?_⟩
   refine G.mw.dis .base (.da k) (fun e=>by cases e) i ?_ ?_
   · show i < S.u.heap.size
     omega
   · simp only [MS.part,HD.out]
     exact ⟨x,q⟩
 have OP:=Lib.hid (Open_rows hdw HP.out.1 HP.out.2.1 HP.out.2.2.1 HP.out.2.2.2.1 HP.out.2.2.2.2.2.2.2 (HG.out.1.keep (Nat.le_refl _) hlow) (HG.out.2.keep (Nat.le_refl _) hlow) h3 HP.out.2.2.2.2.1 na.sd HP.out.2.2.2.2.2.1 HP.out.2.2.2.2.2.2.1 na.lt hF)
 dsimp only at OP
 have R2:NdR W.drew n:=NdR.of r2
 have G:=Lib.hid G
 unfold NdR at R2
 clear r0 s0 nb0 na hdw hF eW hlow h3
 go_region_held3 (fun w'=>sub (rowOf w' n.b) 1 9=n.t.cells∧10 ≤ (rowOf w' n.b).size∧(rowOf w' n.b)[10]?=some (.slice (some ⟨n.sb,0,none⟩) n.seed.length n.sc)∧(rowOf w' n.b)[11]?=some n.dv) (first | exact R2 | exact R3 | exact R4) (first
   | (go_at_call 58;refine OP.out.mono ?_;rintro _ V ⟨D,rfl,q1,q2,q3,q4,q5,q6⟩
      have g3:=G.out.trans (G.out.mw.da k (d:=.live D) (by show Comp _ _ (S.ds k).part.P _;rw [HD.out];exact q5.comp) q1.dae)
      have nv:=g3.mw.ndAt (k:=k) (upd_at _ _ _)
      have r3:rowOf V n.b=ndC n.xv n.t n.sv n.dv (.map (some w.heap.size)):=rowOf_of nv.row
      have s3:soft V n.b=true:=soft_of nv.row
      have R3:NdR V n:=NdR.of r3
      have R4:NdR (V.setCell ⟨n.b,0,none⟩ (ptA D.xb)) n:=(NdR.of (by rw [rowOf_setCell,if_pos rfl,r3];exact nd_set0 _ _ _ _ _ _))
      have G3:=Lib.hid g3
      have Q:=Lib.hid (And.intro q1 (And.intro q2 (And.intro q3 (And.intro q4 q6))))
      unfold NdR at R3 R4
      clear g3 nv q1 q2 q3 q4 q5 q6 r2 s2))
 have g4:=G3.out.trans (G3.out.mw.nrSet (k:=k) (n':={ n with xv:=ptA D.xb,tv:=.map (some w.heap.size) }) (upd_at _ _ _) 0 (ptA D.xb) rfl rfl rfl rfl rfl)
 dsimp only at g4
 rw [upd_twice] at g4
 have L4:On (V.setCell ⟨n.b,0,none⟩ (ptA D.xb)) D L B:=⟨g4.mw.daAt (k:=k) (upd_at _ _ _),Q.out.1.on,Q.out.1.rows,Q.out.1.book,Q.out.1.run⟩
 have G4:=Lib.hid g4
 have L4:=Lib.hid L4
 clear g4 R2 R3 R4 r3 s3
 go_wp2
 go_ret
 exact ⟨rfl,D,w.heap.size,G4.out,L4.out,Q.out.2⟩
theorem Holds.back_it {A A':Ab} {j:Jr} {L:List It} (h:Holds A j (rowsIt L)) {K:List Int} (hc:CrashTo A K A'):∃ A'' j',openP A'=⟨0,A'',j',rowsIt L⟩∧Holds A'' j' (rowsIt L)∧Calm A''∧Ab.Sm A':=by
 obtain ⟨A'',j',q1,q2,q3⟩:=h.back_opens hc
 exact ⟨A'',j',q1,q2,q3,crash_sm h.half.sm hc⟩
theorem Fell.back_it {D:Dm} {L:List It} {a:It} (h:Fell D L a) {A':Ab} {K:List Int} (hc:CrashTo D.A K A'):∃ A'' j' L',(L'=L ∨ L'=L ++ [a])∧openP A'=⟨0,A'',j',rowsIt L'⟩∧Holds A'' j' (rowsIt L')∧Calm A''∧Ab.Sm A':=by
 obtain ⟨T,hb⟩:=h.back
 obtain ⟨A'',j',q,q3⟩:=hb.opens hc
 rcases q with ⟨q1,q2⟩ | ⟨q1,q2⟩
 ·exact ⟨A'',j',L,.inl rfl,q1,q2,q3,crash_sm h.sm hc⟩
 ·exact ⟨A'',j',L ++ [a],.inr rfl,q1,q2,q3,crash_sm h.sm hc⟩
theorem Restart_gen {w:World} {S:MS} (h:MW w S) (hFo:Forms S.u) (hTa:Tabs S.u) {a:Nat} {n:Nd} {F:Foot} {A:Ab} {ao:Option Addr} {c:Nat} {K:List Int} (HK:KeepAt w ao K) (hn:S.nd a=some n) (hat:getA S.nodes a=some (ptA n.b)) (hdw:DW w F n.dv A) (hFd:∀ i x,F i x→(S.ds a).part.P i) {O:List It→List (Int × Sw)→Prop}
  (hO:∀ A',CrashTo A K A'→∃ A'' j' L B,O L B∧openP A'=⟨0,A'',j',rowsIt L⟩∧Holds A'' j' (rowsIt L)∧Calm A''∧Ab.Sm A'∧Run [] L B) (hT:TmK n.t) (h0:0 < n.seed.length) (hl:n.seed.length ≤ 64):
  Calls Tryz.prog 13 #[.pointer (some ⟨S.wb,0,none⟩),.int .i64 a,.slice ao K.length c] w fun e w'=>e=.returned (.int .i64 0)∧∃ D tb L B,O L B∧Goes w S w' { S with nd:=upd S.nd a (some { n with xv:=ptA D.xb,tv:=.map (some tb) }),tm:=upd S.tm a (some (tb,[])),ds:=upd S.ds a (.live D) }∧On w' D L B∧Calm D.A∧D.t=n.t∧D.seed=n.seed∧D.dv=n.dv:=by
 have rw0:=rowOf_of h.wrAt
 have lk:=h.look a
 rw [MS.at_some hat] at lk
 unfold ptA at lk
 have rn:=rowOf_of (h.ndAt hn).row
 unfold Nd.cells at rn
 have CR:=Lib.hid (Crash_any (c:=c) hdw HK)
 have H:=Lib.hid h
 have HH:=Lib.hid (And.intro hT (And.intro h0 hl))
 have HN:=Lib.hid hn
 have HO:=Lib.hid hO
 have HG:=Lib.hid (And.intro hFo hTa)
 have HD:=Lib.hid hFd
 clear h hn hat hdw hFd hT h0 hl hO hFo hTa HK
 go_enter Tryz.func13,Tryz.ntmps13
 go_wp2_with (go_at_call 30;refine CR.out.mono ?_;rintro _ V ⟨A',hct,rfl,F',hd,ht,hf⟩)
 have g1:Goes w S V { S with ds:=upd S.ds a (.disk F' n.dv A') }:=H.out.da a ⟨ht.os,ht.tape,ht.output,ht.size,fun i hi hn=>⟨ht.block i hi fun x hx=>hn (HD.out _ x hx),fun ⟨x,q⟩=>(hf _ x q).elim (fun q=>hn (HD.out _ x q)) fun q=>by omega⟩⟩ hd
 obtain ⟨A'',j',L,B,o1,o2,o3,o4,o5,o6⟩:=HO.out A' hct
 have OK:=open_any (k:=a) (n:=n) (F:=F') (A:=A') (A':=A'') (j:=j') (L:=L) (B:=B) g1.mw HG.out.1 HG.out.2 HN.out (upd_at _ _ _) o5 o2 o3 o4 o6 HH.out.1 HH.out.2.1 HH.out.2.2
 dsimp only at OK
 simp only [upd_twice] at OK
 have OK:=Lib.hid OK
 have G1:=Lib.hid g1
 have O1:=Lib.hid o1
 clear g1 hd ht hf CR o1 o2 o3 o4 o5 o6 hct
 refine OK.out.mono ?_
 rintro _ Z ⟨rfl,D,tb,g2,l2,l3⟩
 have G2:=Lib.hid (And.intro (G1.out.trans g2) (And.intro l2 l3))
 clear g2 l2 l3 OK G1 rw0 lk rn
 go_wp2
 go_ret
 exact ⟨rfl,D,tb,L,B,O1.out,G2.out⟩
end Go.Proofs.YtjkfondgacjpnaaGreatDoor
