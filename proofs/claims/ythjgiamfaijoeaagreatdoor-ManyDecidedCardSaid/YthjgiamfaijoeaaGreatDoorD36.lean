/- What is proved: parts of the walk and of the plain law. No condition but those each law names. -/
import Derived.Test.YthjgiamfaijoeaaGreatDoorD28
import Derived.Test.YthjgiamfaijoeaaGreatDoorD35
import Derived.Test.YthjgiamfaijoeaaGreatDoorD33
import Derived.Test.YthjgiamfaijoeaaGreatDoorD00
set_option linter.unusedSimpArgs false
set_option linter.unusedVariables false
set_option maxRecDepth 100000
namespace Go.Proofs.YthjgiamfaijoeaaGreatDoor
open Go.RowKit
section
open Sx (Ab DW Turns Did Foot)
theorem fr_own {w:World} {B n cap:Nat} {ao:Option Addr} {L:List Fm} (hn:0 < n) (h:Frames w B (.slice ao n cap) L) (hl:L.length=n):∃ g cur,ao=some ⟨g,0,none⟩∧w.heap[g]?=some (.cells cur 166)∧n * 2 ≤ cur.size∧n ≤ cap∧∀ (k:Nat) f,L[k]?=some f→cur[k * 2]?=some (.int .i64 f.kind)∧cur[k * 2 + 1]?=some f.val:=by
 have hr:=h.row
 rw [hl] at hr
 rcases hr.2 with ⟨hv,h0,_⟩ | ⟨g,cp,cur,hv,_,hh,hc,_,hs,ht⟩
 ·cases hv;omega
 ·cases hv
  have hz:cur.size=cap * 2:=hs
  have hz2:n * 2 ≤ cap * 2:=Nat.mul_le_mul_right 2 hc
  refine ⟨g,cur,rfl,hh,by omega,hc,fun k f hf=>?_⟩
  have hk:k < n:=by rw [← hl];exact (List.getElem?_eq_some_iff.1 hf).1
  obtain ⟨e1,e2⟩:=zsv L k f hf
  rw [← ht] at e1 e2
  rw [List.getElem?_take_of_lt (by omega)] at e1 e2
  exact ⟨by simpa using e1,by simpa using e2⟩
theorem zac6 {cur:Array Value} {a:Nat} {x y:Value} (h0:cur[a]?=some x) (h1:cur[a + 1]?=some y):sub cur a 2=#[x,y]:=by
 have l1:=(zadu h1).1
 unfold sub
 apply Array.ext_getElem?
 intro j
 rw [Array.getElem?_extract]
 match j with
 | 0=>rw [if_pos (by omega)];exact h0
 | 1=>rw [if_pos (by omega)];exact h1
 | j + 2=>rw [if_neg (by omega)];simp
attribute [local go_sem ↓] zad ebdm
attribute [local go_sem] zaf zai zaj zal zab zah zac zak zae zn9 zoa zob
theorem zac7 (w:World) (ρ:Operand→Value) (x:Operand) (dst:Option Tmp) (ty:TypeId) (pos:String) (af:Array Edge) (gd:Option (Nat × Bool)) (hp:pp (ρ x)=true) (h:po (ρ x) + 2 ≤ (rowOf w (pb (ρ x))).size):(execOp ρ ⟨dst,.load 166 x,ty,pos,af,gd⟩).run Tryz.prog w=.ok (.value (.agg (sub (rowOf w (pb (ρ x))) (po (ρ x)) 2))) w:=
 zav 166 2 Tryz.underlying166 rfl (by kernel_rfl) w ρ x dst ty pos af gd hp h
attribute [local go_sem ↓] zac7
structure FrD (w:World) (D:Dm) (v:Value) (L:List Fm):Prop where
 fr:Frames w 0 v L
 clear:∀ k,v.ownBlock=some k→¬ D.all k
 bclear:∀ f ∈ L,∀ k,f.val.ownBlock=some k→¬ D.all k
theorem FrD.trans {w w':World} {D D':Dm} {v:Value} {L:List Fm} (h:FrD w D v L) (t:Trans w D w' D'):FrD w' D' v L:=
 ⟨h.fr.heap (fun k hk=>(t.keep k (h.fr.row.lt k hk).2 (h.clear k hk)).1) (fun f hf k hk=>(t.keep k ((h.fr.body f hf).lt k hk).2 (h.bclear f hf k hk)).1),fun k hk=>(t.keep k (h.fr.row.lt k hk).2 (h.clear k hk)).2,fun f hf k hk=>(t.keep k ((h.fr.body f hf).lt k hk).2 (h.bclear f hf k hk)).2⟩
theorem zac8 {L:List It} {K:List Fm} (h:told K=zbc L) {k:Nat} {a:It} (ha:L[k]?=some a):∃ f,K[k]?=some f∧f.kind=1∧f.body=a.row.2:=by
 have e:=congrArg (fun q=>q[k]?) h
 simp only [told,zbc,List.getElem?_map,ha,Option.map_some] at e
 cases hf:K[k]? with
 | none=>rw [hf] at e;cases e
 | some f=>
  rw [hf] at e
  have e:=Option.some.inj e
  rw [zks a] at e
  exact ⟨f,rfl,congrArg Prod.fst e,congrArg Prod.snd e⟩
theorem Born.trans {F:Foot} {w Y w':World} {D D':Dm} (h:Born F w D Y) (t:Trans Y D w' D'):Born F w D' w':=
 ⟨t.os.trans h.os,t.tape.trans h.tape,t.output.trans h.output,Nat.le_trans h.size t.size,fun i hi hn=>⟨(t.keep i (Nat.lt_of_lt_of_le hi h.size) (h.keep i hi hn).2).1.trans (h.keep i hi hn).1,(t.keep i (Nat.lt_of_lt_of_le hi h.size) (h.keep i hi hn).2).2⟩⟩
set_option maxHeartbeats 4000000 in
theorem zvq {w:World} {F:Foot} {dv:Value} {A A':Ab} {j:Jr} {L:List It} {B:List (Int × Sw)} (H:DW w F dv A) (hA:Ab.Sm A) (ho:zce A=⟨0,A',j,zbc L⟩) (hh:Holds A' j (zbc L)) (hc:Calm A') (hr:Run [] L B) (hf:Forms w) (ht:Tabs w) (h3:3 < w.heap.size∧∀ i,i ≤ 3→∀ x,¬ F i x) {t:Tm} (hk:TmK t) {b o n c:Nat} {seed:List Nat} (hs:Sl w (some ⟨b,o,none⟩) n c (bts seed)) (h0:0 < n) (hn:n ≤ 64) (hb:b < w.heap.size) (hF:∀ x,¬ F b x):
   Calls Tryz.prog 72 #[.agg t.cells,.slice (some ⟨b,o,none⟩) n c,dv] w fun e w'=>∃ D,e=.returned (.tuple #[.pointer (some ⟨D.xb,0,none⟩),.int .i64 0])∧On w' D L B∧Calm D.A∧D.t=t∧D.seed=seed∧Born F w D w'∧D.dv=dv:=by
 have HK:=zadv hk
 have HH:=zadv hh
 have HC:=zadv hc
 have HS:=zadv hs
 have HF:=zadv hF
 have HB:=zadv hb
 have HD:=zadv H
 have HA:=zadv hA
 have HO:=zadv ho
 have HR:=zadv hr
 have HG:=zadv (zadx hf (zadx ht h3))
 have hn2:((n:Int) > 64)=False:=eq_false (by omega)
 have el:(zbc L).length=L.length:=by unfold zbc;rw [List.length_map]
 obtain ⟨db,dof,rfl⟩:=zne H
 clear hk hh hc hs hF hb H hA ho hr hf ht h3
 go_enter Tryz.func72,Tryz.ntmps72
 go_upto_region 1 with (fail)
 have bx:=Bx.new w (t.cells) 68;generalize w.alloc (.cells (t.cells) 68)=W at bx ⊢;have rx:=bx.rowOf;have sx:=bx.soft;have BX:=zadv bx;clear bx
 have Q:=zet t W
 rw [HK.out.chk] at Q
 have Q:=zadv Q
 go_wp2_with fail
 refine (Q.out).mono ?_;rintro _ W2 ⟨rfl,hb⟩;have bx:=BX.out.step hb;clear BX rx sx hb;have rx:=bx.rowOf;have sx:=bx.soft;have BX:=zadv bx;clear bx
 have hbW:=BX.out.below
 have O:=zta (HD.out.below hbW) HA.out HO.out
 rw [el] at O
 have O:=zadv O
 clear hbW
 go_wp2_with fail
 refine O.out.mono ?_
 rintro _ W3 ⟨F',jb,ao,cc,K,rfl,jd,tb,hjb,frw,tdl⟩
 have l0:w.heap.size < W2.heap.size:=(zadu BX.out.row).1
 have n0:∀ x,¬ F w.heap.size x:=fun x q=>absurd (HD.out.lt q) (Nat.lt_irrefl _)
 have rt:rowOf W3.drew w.heap.size=t.cells:=zaa ((tb.t.block _ l0 n0).trans BX.out.row)
 have lt3:w.heap.size < W3.heap.size:=Nat.lt_of_lt_of_le l0 tb.t.size
 have hs3:Sl W3.drew (some ⟨b,o,none⟩) n c (bts seed):=HS.out.block ((tb.t.block b (Nat.lt_of_lt_of_le HB.out BX.out.below.size) HF.out).trans (BX.out.below.block b HB.out))
 have CA:=zadv (zb3 hs3 (by omega))
 have NB:=zadv (zha W3.drew)
 have HS3:=zadv hs3
 have JD:=zadv jd
 have TB:=zadv tb
 have JB:=zadv hjb
 have L0:=zadv l0
 have FW:=zadv (zadx frw tdl)
 clear jd tb hjb l0 n0 hs3 rx sx O Q frw tdl
 go_upto_region 9 with (fail)
 have keep:∀ X:World,Below W3.drew.heap.size W3.drew X→rowOf X w.heap.size=t.cells:=fun X hX=>by
   have:X.heap[w.heap.size]?=W3.drew.heap[w.heap.size]?:=hX.block _ lt3
   unfold rowOf at rt ⊢
   rw [this]
   exact rt
 have KP:=zadv keep
 clear keep
 go_region_held3 (fun w'=>rowOf w' w.heap.size=t.cells) (first | exact rt | exact r1 | exact r2 | exact r3)
   (first
     | (go_at_call 34;refine CA.out.mono ?_;rintro _ X1 ⟨a1,c1,rfl,hb1,own1⟩
        have r1:=KP.out X1 hb1
        have NA:=zadv (zha X1)
        have O1:=zadv own1
        have B1:=zadv hb1
        clear own1 hb1)
     | (go_at_call 112;refine NA.out.mono ?_;rintro _ X2 ⟨bk,mb,rfl,k1,k2,k3,k4⟩
        have r2:=KP.out X2 (B1.out.trans (k2.mono B1.out.size))
        have r3:=KP.out (X2.alloc (.cells (dmC t ⟨a1,n,c1⟩ jb bk false) 190)) ((B1.out.trans (k2.mono B1.out.size)).alloc (B1.out.trans (k2.mono B1.out.size)).size _)
        have FIN:=zadv (zadx (zbe O1.out (zadw _) k2) (zadx k1 (zadx (B1.out.trans (k2.mono B1.out.size)) (zadx (Nat.le_trans B1.out.size k3) (Nat.le_trans B1.out.size k4)))))
        clear k1 k2 k3 k4)
     | (go_at_call 112;refine NB.out.mono ?_;rintro _ X1 ⟨bk,mb,rfl,k1,k2,k3,k4⟩
        have r1:=KP.out X1 k2
        have CB:=zadv (zb3 (w:=X1) (HS3.out.keep (zadw _) k2) (by omega))
        have K1:=zadv k1
        have K2:=zadv k2
        have K3:=zadv (zadx k3 k4)
        clear k1 k2 k3 k4)
     | (go_at_call 34;refine CB.out.mono ?_;rintro _ X2 ⟨a1,c1,rfl,hb1,own1⟩
        have r2:=KP.out X2 (K2.out.trans (hb1.mono K2.out.size))
        have r3:=KP.out (X2.alloc (.cells (dmC t ⟨a1,n,c1⟩ jb bk false) 109)) ((K2.out.trans (hb1.mono K2.out.size)).alloc (K2.out.trans (hb1.mono K2.out.size)).size _)
        have FIN:=zadv (zadx (za0 own1 K2.out.size) (zadx (K1.out.below hb1) (zadx (K2.out.trans (hb1.mono K2.out.size)) K3.out)))
        clear own1 hb1))
 all_goals
   have b3:Below W3.heap.size W3 X2:=(Below.refl W3.heap.size W3).drew.trans FIN.out.2.2.1
   obtain ⟨D,e1,q1,q2,q3,q4,q5,q6,q7⟩:=zpw (t:=t) BX.out.below TB.out JD.out JB.out HH.out HC.out FIN.out.1 FIN.out.2.1 b3 FIN.out.2.2.2.1 FIN.out.2.2.2.2 h0
   rw [← e1]
   have b4:Below W3.heap.size W3 (X2.alloc (.cells (dmC t ⟨a1,n,c1⟩ jb bk false) 190)):=b3.alloc b3.size _
   generalize X2.alloc _=Y at *
   have frd:FrD Y D (.slice ao L.length cc) K:=⟨let q:=(FW.out.1.keep (zadw _) b4).base (Nat.zero_le _);q.fr,fun k hk q=>by
     rcases q6 k q with q | ⟨x,q⟩
     · have:=(FW.out.1.fr.row.lt k hk).2;omega
     · exact FW.out.1.clear k hk x q,fun f hf k hk q=>by
     rcases q6 k q with q | ⟨x,q⟩
     · have:=((FW.out.1.fr.body f hf).lt k hk).2;omega
     · exact FW.out.1.bclear f hf k hk x q⟩
   have hbase:Base Y D:=by
     obtain ⟨g1,g2,g3,g4⟩:=HG.out
     have hw:∀ i,i ≤ 3→Y.heap[i]?=w.heap[i]?:=fun i hi=>(b4.block i (by have:=TB.out.t.size;have:=BX.out.below.size;omega)).trans ((TB.out.t.block i (by have:=BX.out.below.size;omega) (g4 i hi)).trans (BX.out.below.block i (by omega)))
     have hn:∀ i,i ≤ 3→¬ D.all i:=fun i hi=>(q4.keep i (by omega) (g4 i hi)).2
     obtain ⟨t4,y4⟩:=g2.g4
     obtain ⟨t5,y5⟩:=g2.g5
     exact ⟨fun j v hj=>(Sx.cell_block (hw 0 (by decide)) _).1.trans (g1 j v hj),⟨⟨t4,(hw 1 (by decide)).trans y4⟩,⟨t5,(hw 3 (by decide)).trans y5⟩⟩,hn 0 (by decide),hn 1 (by decide),hn 3 (by decide)⟩
   have RES:=zadv (zadx q1 (zadx q2 (zadx q3 (zadx q4 (zadx q5 q7)))))
   have FR:=zadv frd
   have BS:=zadv hbase
   clear q1 q2 q3 q4 q5 q6 q7 e1 FIN r1 r2 r3 rt lt3 b3 b4 frd hbase
   go_upto_region 11 with (fail)
   go_loopw [43] (fun i wr=>∃ (k:Nat) (M':List (Int × En)),k ≤ L.length∧i=.int .i64 k∧Dae wr { D with M:=M' }∧Run (bkOf M') (L.drop k) B∧Trans Y D wr { D with M:=M' }) (fun i _=>L.length - (intOf i).toNat)
 case atStart=>exact ⟨0,D.M,Nat.zero_le _,rfl,RES.out.1.dae,by rw [RES.out.2.2.2.2.2];exact HR.out,Trans.below (Below.refl _ _)⟩
 case round=>
   obtain ⟨k,M',hk,rfl,hd,hrun,htr⟩:=hrel
   have HT:=zadv htr
   have HDA:=zadv hd
   have fr:=FR.out.trans htr
   have FR2:=zadv fr
   by_cases hlt:k < L.length
   · have i1:(k:Int) < L.length:=by omega
     have hdr:L.drop k=L[k] :: L.drop (k + 1):=List.drop_eq_getElem_cons hlt
     have hak:L[k]?=some L[k]:=zady hlt
     generalize L[k]=a at hdr hak
     rw [hdr] at hrun
     obtain ⟨B1,ad,run2⟩:=hrun.head
     obtain ⟨f,hf,fk,fb⟩:=zac8 FW.out.2 hak
     have hKl:K.length=L.length:=by have:=congrArg List.length FW.out.2;simpa [told,zbc] using this
     obtain ⟨g,cur,rfl,hg,hcz,hcap,hcf⟩:=fr_own (by omega) fr.fr hKl
     have rg:=zaa hg
     obtain ⟨c0,c1'⟩:=hcf k f hf
     have i3:=zac6 c0 c1'
     have i2:k * 2 + 2 ≤ cur.size:=by omega
     have hSl:Sl wr f.ao f.body.length f.cap (bts a.row.2):=by rw [← fb];exact Sl.own (fr.fr.body f (List.mem_of_getElem? hf))
     rw [fk] at i3
     unfold Fm.val at i3
     have HSL:=zadv hSl
     have AD:=zadv (zadx ad run2)
     clear hd hrun htr fr hf fk fb hKl hg hcf c0 c1' hSl ad run2 hdr hak hcz
     go_upto_region 13 with (fail)
     have bm:=Bx.new wr #[.int .i64 1,.slice f.ao f.body.length f.cap] 166
     generalize wr.alloc (.cells #[.int .i64 1,.slice f.ao f.body.length f.cap] 166)=V1 at bm ⊢
     have rf:=bm.rowOf
     have T1:=HT.out.trans (Trans.below bm.below)
     have RG:=zadv (zacm AD.out.1.ok (BS.out.trans T1).forms (HSL.out.keep (zadw _) bm.below))
     have BM:=zadv bm
     clear rg i3 i2 bm T1
     go_wp2_with fail
     refine RG.out.mono ?_
     rintro _ V2 ⟨rfl,hb2⟩
     go_upto_region 14 with (fail)
     have bm2:=Bx.made V2 Rc.zero.cells a.rc.cells 162
     have bm:=(BM.out.step hb2).step bm2.below
     have x2:=zadv (zadu (BM.out.step hb2).row).1
     generalize (V2.alloc (.cells Rc.zero.cells 162)).setRow V2.heap.size a.rc.cells=V3 at bm2 bm ⊢
     have T3:=HT.out.trans (Trans.below bm.below)
     have d3:=HDA.out.below bm.below
     have AP:=zadv (zz8 (w:=V3.drew) (d3.below (Below.refl _ V3).drew) ((BS.out.trans T3).trans (Trans.below (Below.refl _ V3).drew)) AD.out.1)
     have lw:=HDA.out
     have nf:¬ Dm.all { D with M:=M' } wr.heap.size:=fun q=>absurd (lw.all_lt q) (Nat.lt_irrefl _)
     have nr:¬ Dm.all { D with M:=M' } V2.heap.size:=fun q=>by have:=lw.all_lt q;have:=(BM.out.step hb2).below.size;omega
     have rf:=bm.rowOf
     have rr:=bm2.rowOf
     have rx:=zaa d3.row
     unfold Dm.cells at rx
     have R2:rowOf V3.drew wr.heap.size=#[.int .i64 1,.slice f.ao f.body.length f.cap]∧rowOf V3.drew D.xb=dmC D.t D.sv D.jb D.bk false∧rowOf V3.drew V2.heap.size=a.rc.cells:=⟨rf,rx,rr⟩
     have HM:=zadv (zadx bm.row (zadx bm2.row (zadx nf nr)))
     have T3:=zadv T3
     have z1:=zec a.rc
     have z2:=zke a.rc
     generalize V2.heap.size=rb at *
     generalize wr.heap.size=fb at *
     clear BM RG hb2 bm bm2 d3 lw nf nr rf rr rx x2
     go_region_held3 (fun w'=>rowOf w' fb=#[.int .i64 1,.slice f.ao f.body.length f.cap]∧rowOf w' D.xb=dmC D.t D.sv D.jb D.bk false∧rowOf w' rb=a.rc.cells) (first | exact R2 | exact R3)
       ((go_at_call 114;(with_reducible refine AP.out.mono ?_);rintro _ X ⟨rfl,M2,d2,b2,t2⟩
         have x1:=(t2.keep fb (zadu HM.out.1).1 HM.out.2.2.1).1.trans HM.out.1
         have x2:=(t2.keep rb (zadu HM.out.2.1).1 HM.out.2.2.2).1.trans HM.out.2.1
         have x3:=zaa d2.row
         unfold Dm.cells at x3
         have R3:rowOf X fb=#[.int .i64 1,.slice f.ao f.body.length f.cap]∧rowOf X D.xb=dmC D.t D.sv D.jb D.bk false∧rowOf X rb=a.rc.cells:=⟨zaa x1,x3,zaa x2⟩
         have HZ:=zadv (zadx d2 (zadx b2 (T3.out.trans ((Trans.below (Below.refl _ V3).drew).trans t2))))
         clear d2 b2 t2 x1 x2 x3))
     have wk:IntKind.i64.wrap ((k:Int) + 1)=(k:Int) + 1:=zar (by omega) (by have:=HR.out.room;have:=zs1 (zbc L);have:=el;omega)
     clear R2 R3 AP z1 z2
     go_wp2
     go_roundw
     case rel=>exact ⟨k + 1,M2,hlt,rfl,HZ.out.1,by rw [HZ.out.2.1];exact AD.out.2,HZ.out.2.2⟩
     case measure=>simp [intOf];omega
   · obtain rfl:k=L.length:=by omega
     rw [List.drop_length] at hrun
     cases hrun
     have i1:¬ (L.length:Int) < L.length:=by omega
     clear hd htr fr
     go_wp2
     refine bodyPost_ret (results_tmp2 rfl _ _ _) rfl ?_
     obtain ⟨q1,q2,q3,q4,q5,q6⟩:=RES.out
     have ht:=HT.out
     exact ⟨{ D with M:=M' },rfl,⟨HDA.out,(q1.dae.calm q1.cal).on,q1.rows,rfl,HR.out⟩,q1.dae.calm q1.cal,q2,q3,q4.trans ht,q5⟩
end
section
open Sx (Ab DW Turns Did Foot)
attribute [local go_sem ↓] zad ebl1 ebl2 zuy zuz zacd
attribute [local go_sem] zaf zai zaj zal zab zah zae Ext.row Ext.soft_ zuw zux zl8 zl9
def zb6 (t:Tm) (B:List (Int × Sw)) (d:Dl) (n:Cl) (free:Int):Int:=if zdq t d n free ≠ 0 then zdq t d n free else zch B d.i
section
variable {w:World} {D:Dm} {d:Dl} {n:Cl} {free:Int} {L:List It} {B:List (Int × Sw)}
set_option maxHeartbeats 4000000 in
theorem zy0 {v:Int} (HL:Hid (On w D L B)) (HB:Hid (Base w D)) (HT:Hid (TmK D.t)) (HS:Hid (Small d.h.l)) (HD:Hid (za5 d=true)) (H2:Hid (zc4 D.t d.p.a free=(v,0))) (e3:(d.g.a < v)=False) (H4:Hid (zez D.t d n=0)):
  Calls Tryz.prog 164 #[.pointer (some ⟨D.xb,0,none⟩),.agg d.cells,.agg n.cells,.int .i64 free] w fun e w'=>
   (∃ k,k ≠ 0∧zch B d.i=k∧e=.returned (.int .i64 k)∧Below w.heap.size w w') ∨
   (zch B d.i=0∧((e=.returned (.int .i64 0)∧zqe w D (L ++ [.dl d]) (putA B d.i (newS d)) w') ∨ (e=.returned (.int .i64 9)∧KeptNo w D L [.dl d] w'))):=by
 have h:=HL.out.dae
 have e1:=zh7 HD.out
 have H:=zadv h
 have H1:=zadv e1
 clear h e1
 generalize hpf:zch B d.i=pf
 have HPF:=zadv hpf
 clear hpf
 obtain ⟨ro,hro⟩:∃ ro,zch B d.i=ro:=⟨_,rfl⟩
 have HRO:=zadv hro
 clear hro
 go_enter Tryz.func164,Tryz.ntmps164
 go_upto_region 1 with (fail)
 have bx:=Bxs.new2 w (d.cells) 60 (n.cells) 52;generalize ((w.alloc (.cells (d.cells) 60)).alloc (.cells (n.cells) 52))=W at bx ⊢;have rx0:=bx.row' 0 rfl;have sx0:=bx.soft' 0 rfl;(try simp only [Nat.add_zero] at rx0 sx0);have rx1:=bx.row' 1 rfl;have sx1:=bx.soft' 1 rfl;(try simp only [Nat.add_zero] at rx1 sx1);have BX:=zadv bx;clear bx
 go_wp2_with fail
 refine (zfb H1.out _).mono ?_;rintro _ W2 ⟨rfl,hb⟩;have bx:=BX.out.step hb;clear BX hb rx0 sx0 rx1 sx1;have rx0:=bx.row' 0 rfl;have sx0:=bx.soft' 0 rfl;(try simp only [Nat.add_zero] at rx0 sx0);have rx1:=bx.row' 1 rfl;have sx1:=bx.soft' 1 rfl;(try simp only [Nat.add_zero] at rx1 sx1);have BX:=zadv bx;clear bx
 have D2:=H.out.below BX.out.below
 have rD:=zaa D2.row
 unfold Dm.cells at rD
 have Q:∀ w,Calls Tryz.prog 229 #[.agg D.t.cells,.int .i64 d.p.a,.int .i64 free] w (Ret (.tuple #[.int .i64 v,.int .i64 0]) w):=fun w=>by
  have:=zb0 (zfu HT.out d.p.a free w)
  rw [H2.out] at this
  exact this
 have Q:=zadv Q
 have lx:D.xb < W2.heap.size:=D2.lt (.inl rfl)
 have l0:=BX.out.lt 0 rfl
 have l1:=BX.out.lt 1 rfl
 simp only [Nat.add_zero] at l0
 clear D2
 go_upto_region 4 with (fail)
 (refine zaz (by kernel_rfl) (by kernel_rfl) ?_;(repeat (go_big_quiet_step (((go_at_call 229;exact Calls.ext_of (Q.out _))))));refine wpQuiet_nil ?_;rintro _ ⟨g,rfl⟩)
 have bx:=BX.out.step g.below;clear BX rx0 sx0 rx1 sx1;have rx0:=bx.row' 0 rfl;have sx0:=bx.soft' 0 rfl;(try simp only [Nat.add_zero] at rx0 sx0);have rx1:=bx.row' 1 rfl;have sx1:=bx.soft' 1 rfl;(try simp only [Nat.add_zero] at rx1 sx1);have BX:=zadv bx;clear bx
 have D3:=H.out.below BX.out.below
 have rD:=zaa D3.row
 unfold Dm.cells at rD
 have lx:D.xb < g.val.heap.size:=D3.lt (.inl rfl)
 have l0:=BX.out.lt 0 rfl
 have l1:=BX.out.lt 1 rfl
 simp only [Nat.add_zero] at l0
 clear D3
 generalize g.val=V at *
 go_upto_region 9 with (fail)
 have K:∀ w,Calls Tryz.prog 230 #[.agg D.t.cells,.agg d.cells,.agg n.cells] w (Ret (.int .i64 0) w):=fun w=>by
  have:=zb0 (zpl HT.out.tm d n w)
  rw [H4.out] at this
  exact this
 have K:=zadv K
 (refine zaz (by kernel_rfl) (by kernel_rfl) ?_;(repeat (go_big_quiet_step (((go_at_call 230;exact Calls.ext_of (K.out _))))));refine wpQuiet_nil ?_;rintro _ ⟨g2,rfl⟩)
 have bx:=BX.out.step g2.below;clear BX rx0 sx0 rx1 sx1;have rx0:=bx.row' 0 rfl;have sx0:=bx.soft' 0 rfl;(try simp only [Nat.add_zero] at rx0 sx0);have rx1:=bx.row' 1 rfl;have sx1:=bx.soft' 1 rfl;(try simp only [Nat.add_zero] at rx1 sx1);have BX:=zadv bx;clear bx
 generalize g2.val=X at *
 have D4:=H.out.below BX.out.below
 have RM:=zqd D4 (by rw [HL.out.book];exact HL.out.fine) d.i
 rw [HL.out.book,HRO.out] at RM
 have RM:=zadv RM
 clear D4 rD lx l0 l1
 go_wp2_with fail
 refine (RM.out).mono ?_;rintro _ Y ⟨rfl,hb⟩;have bx:=BX.out.step hb;clear BX hb rx0 sx0 rx1 sx1;have rx0:=bx.row' 0 rfl;have sx0:=bx.soft' 0 rfl;(try simp only [Nat.add_zero] at rx0 sx0);have rx1:=bx.row' 1 rfl;have sx1:=bx.soft' 1 rfl;(try simp only [Nat.add_zero] at rx1 sx1);have BX:=zadv bx;clear bx
 by_cases hr0:ro=0
 case neg=>
  have k0:(ro == 0)=false:=beq_eq_false_iff_ne.2 hr0
  have HK0:=zadv hr0
  clear hr0
  go_wp2
  go_ret
  exact .inl ⟨ro,HK0.out,HPF.out.symm.trans HRO.out,rfl,BX.out.below⟩
 subst hr0
 go_upto_region 15 with (fail)
 have hb:=(Below.refl Y.heap.size Y).alloc (zadw _) (.cells (rcD d).cells 162)
 have hbw:=BX.out.below.trans (hb.mono BX.out.below.size)
 have na:¬ D.all Y.heap.size:=fun q=>by
  have:=H.out.all_lt q
  have:=BX.out.below.size
  omega
 have KD:=zqf (w:=Y.alloc (.cells (rcD d).cells 162)) (its:=[.dl d]) (Nat.le_succ 1) (HL.out.below hbw) (zyy HD.out HS.out HRO.out) (HB.out.trans (Trans.below hbw)) (heap_alloc_new Y _) (zec _) (fun k a hk=>by
  match k,hk with
  | 0,hk=>cases hk;exact zuv _
  | k + 1,hk=>simp at hk) na
 have KD:=zadv (show Calls Tryz.prog 109 #[.pointer (some ⟨D.xb,0,none⟩),.slice (some ⟨Y.heap.size,0,none⟩) 1 1] _ _ from KD)
 have HW:=zadv hbw
 clear hb hbw na
 go_wp2_with fail
 refine KD.out.mono ?_
 rintro _ Z (⟨rfl,D',q1,qc,q2⟩ | ⟨rfl,qc,D',k,a,q0,q1,q3,q4,q5,q2⟩)
 ·have Q1:=zadv (zadx q1 qc)
  have Q2:=zadv ((Trans.below HW.out).trans q2)
  clear q1 q2 qc KD
  go_wp2
  go_ret
  exact .inr ⟨HPF.out.symm.trans HRO.out,.inl ⟨rfl,D',Q1.out.1,Q1.out.2,Q2.out⟩⟩
 ·have Q1:=zadv (zadx qc (zadx q0 (zadx q1 (zadx q3 (zadx q4 q5)))))
  have Q2:=zadv ((Trans.below HW.out).trans q2)
  clear q0 q1 q2 q3 q4 q5 qc KD
  go_wp2
  go_ret
  obtain ⟨qc,q0,q1,q3,q4,q5⟩:=Q1.out
  exact .inr ⟨HPF.out.symm.trans HRO.out,.inr ⟨rfl,qc,D',k,a,q0,q1,q3,q4,q5,Q2.out⟩⟩
def Took (w:World) (D:Dm) (L:List It) (B:List (Int × Sw)) (d:Dl) (c:Int) (e:Int) (w':World):Prop:=
 (e ≠ 0∧c=e∧Below w.heap.size w w') ∨ (c=0∧((e=0∧zqe w D (L ++ [.dl d]) (putA B d.i (newS d)) w') ∨ (e=9∧KeptNo w D L [.dl d] w')))
theorem zvr (h:On w D L B) (hB:Base w D) (hT:TmK D.t) (hs:Small d.h.l):
  Calls Tryz.prog 164 #[.pointer (some ⟨D.xb,0,none⟩),.agg d.cells,.agg n.cells,.int .i64 free] w fun x w'=>∃ e,x=.returned (.int .i64 e)∧Took w D L B d (zb6 D.t B d n free) e w':=by
 by_cases hk:zdq D.t d n free=0
 ·obtain ⟨q1,⟨v,q2,q3⟩,q4⟩:=zio hk
  have e:zb6 D.t B d n free=zch B d.i:=by unfold zb6;rw [hk];simp
  rw [e]
  refine (zy0 (zadv h) (zadv hB) (zadv hT) (zadv hs) (zadv q1) (zadv q2) (eq_false q3) (zadv q4)).mono ?_
  rintro x w' (⟨k,k0,e1,rfl,hb⟩ | ⟨e1,⟨rfl,q⟩ | ⟨rfl,q⟩⟩)
  ·exact ⟨k,rfl,.inl ⟨k0,e1,hb⟩⟩
  ·exact ⟨0,rfl,.inr ⟨e1,.inl ⟨rfl,q⟩⟩⟩
  ·exact ⟨9,rfl,.inr ⟨e1,.inr ⟨rfl,q⟩⟩⟩
 ·refine (zx5 h.dae hT rfl hk).mono ?_
  rintro x w' ⟨rfl,hb⟩
  exact ⟨_,rfl,.inl ⟨hk,by unfold zb6;rw [if_pos hk],hb⟩⟩
end
attribute [local go_sem ↓] zx6 zu3
section
variable {w:World} {D:Dm} {n:Cl} {free peer:Int} {ao:Option Addr} {k c:Nat} {l:List Nat}
def zf1 (m:Msg) (peer e:Int):List Nat:=if e=0 then zbi (zbg (zcw m peer)) else putC m.i e
set_option maxHeartbeats 4000000 in
theorem zy1 {m:Msg} {Q:Int→World→World→Prop} (h:Dae w D) (hB:Base w D) (hs:Sl w ao k c (bts l)) (hr:Rs (l,0)) (hm:zee l=(0,m)) (k0:m.k=1) (hi:1 ≤ m.i∧m.i ≤ 1073741824) (hn:∀ W W',Q 0 W W'→idE m.i (zcg (zbg (zcw m peer)))=0∧I64 m.i∧LgI m.g∧LgI m.p) (hc:∀ e W W',Q e W W'→0 ≤ e∧e ≤ 24)
  (hq:∀ e W W',Q e W W'→Below w.heap.size w W→W.os=W'.os∧∀ i,i < W.heap.size→w.heap.size ≤ i→W'.heap[i]?=W.heap[i]?) (hf:∀ e W W',Q e W W'→Below w.heap.size w W→Forms W')
  (ht:∀ W,Dae W D→Base W D→Calls Tryz.prog 164 #[.pointer (some ⟨D.xb,0,none⟩),.agg (zcw m peer).cells,.agg n.cells,.int .i64 free] W fun x w'=>∃ e,x=.returned (.int .i64 e)∧Q e W w'):
  Calls Tryz.prog 103 #[.pointer (some ⟨D.xb,0,none⟩),.int .i64 peer,.slice ao k c,.agg n.cells,.int .i64 free] w fun x w'=>∃ e a c' W W',x=.returned (.slice a (zf1 m peer e).length c')∧Sl w' a (zf1 m peer e).length c' (bts (zf1 m peer e))∧Below w.heap.size w W∧Q e W W'∧Below W'.heap.size W' w':=by
 have hf0:=hB.forms
 have HN:=zadv hn
 have HCC:=zadv hc
 have HII:=zadv hi
 have HT:=zadv ht
 have HQ:=zadv hq
 have HFF:=zadv hf
 have HB:=zadv hB
 clear hB hn hi ht hc hq hf
 have H:=zadv h
 have HF:=zadv hf0
 have HSl:=zadv hs
 have HRs:=zadv hr
 have HM:=zadv hm
 clear h hs hr hm hf0
 go_enter Tryz.func103,Tryz.ntmps103
 go_upto_region 1 with (fail)
 have bx:=Bx.new w (n.cells) 52;generalize w.alloc (.cells (n.cells) 52)=W at bx ⊢;have rx:=bx.rowOf;have sx:=bx.soft;have BX:=zadv bx;clear bx
 have G:=zfr (HF.out.keep (zadw _) BX.out.below) (HSl.out.keep (zadw _) BX.out.below) HRs.out
 rw [HM.out] at G
 have GG:=zadv G
 clear G
 have rD:=zaa (H.out.below BX.out.below).row
 unfold Dm.cells at rD
 go_wp2_with fail
 refine GG.out.mono ?_
 rintro _ W2 ⟨rfl,hb⟩
 have bx:=BX.out.step hb
 have HLN:=zadv bx.below.size
 clear BX GG rx sx rD hb
 have BX:=zadv bx
 clear bx
 go_upto_region 4 with (fail)
 have L:=Bx.made W2 Msg.zero.cells m.cells 118
 generalize (W2.alloc (.cells Msg.zero.cells 118)).setRow W2.heap.size m.cells=W3 at L ⊢
 have bx:=BX.out.step L.below
 clear BX
 have BX:=zadv bx
 have rm:=L.rowOf
 have rx:=bx.rowOf
 have LX:=zadv L
 have LN:=zadv HLN.out
 have LX2:=zadv (show W2.heap.size ≤ W3.heap.size from Nat.le_of_lt (zadu L.row).1)
 clear bx L
 go_upto_region 9 with (fail)
 have L2:=Bx.made W3 Dl.zero.cells (zcw m peer).cells 60
 rw [show ({ i:=m.i,r:=2,p:=m.g,g:=m.p,h:=m.h,q:=peer }:Dl)=zcw m peer from rfl]
 have hdi:(zcw m peer).i=m.i:=rfl
 generalize (W3.alloc (.cells Dl.zero.cells 60)).setRow W3.heap.size (zcw m peer).cells=W4 at L2 ⊢
 have bx:=BX.out.step L2.below
 have lx:=LX.out.step L2.below
 clear BX LX rm rx
 have BX:=zadv bx
 have LX:=zadv lx
 have rd:=L2.rowOf
 have rm:=lx.rowOf
 have rx:=bx.rowOf
 have LD:=zadv L2
 clear L2 bx lx hdi
 have T:=zadv (HT.out W4 (H.out.below BX.out.below) (HB.out.trans (Trans.below BX.out.below)))
 go_wp2_with fail
 refine T.out.mono ?_
 rintro _ W5 ⟨e,rfl,qe⟩
 have kp:=(HQ.out e _ _ qe BX.out.below).2
 have rm:rowOf W5 W2.heap.size=m.cells:=zaa ((kp _ (zadu LX.out.row).1 LN.out).trans LX.out.row)
 have rd:rowOf W5 W3.heap.size=(zcw m peer).cells:=zaa ((kp _ (zadu LD.out.row).1 (Nat.le_trans LN.out LX2.out)).trans LD.out.row)
 have F5:=HFF.out e _ _ qe BX.out.below
 have ec:=HCC.out e _ _ qe
 have QE:=zadv qe
 have HB4:=zadv BX.out.below
 clear kp T BX LX LD HT qe rx
 by_cases e0:e=0
 ·subst e0
  have en:=HN.out _ _ QE.out
  have P:=zadv (zic F5 (m:=zbg (zcw m peer)) (.inr rfl) en.1 en.2.1 en.2.2.1 en.2.2.2)
  have hdd:Msg.cells ⟨2,m.i,0,(zcw m peer).p,(zcw m peer).g,(zcw m peer).h⟩=(zbg (zcw m peer)).cells:=rfl
  have HL:=zadv (show zf1 m peer 0=zbi (zbg (zcw m peer)) from if_pos rfl)
  clear en F5 ec
  go_wp2_with fail
  refine P.out.mono ?_
  rintro _ V ⟨a2,c2,rfl,hb,ho⟩
  have S:=zadv (zadx (Sl.own ho) hb)
  clear hb ho P
  go_wp2
  go_ret
  refine ⟨0,a2,c2,W4,W5,?_,?_,HB4.out,QE.out,S.out.2⟩
  ·rw [HL.out];rfl
  ·rw [HL.out];exact S.out.1
 ·have k0':(e == 0)=false:=beq_eq_false_iff_ne.2 e0
  have hn:idE m.i (refE e)=0:=by
   have:=HII.out
   unfold idE refE
   rw [if_neg (by omega),if_neg (by omega)]
  have R:=zadv (zma F5 hn)
  have HL:=zadv (show zf1 m peer e=putC m.i e from if_neg e0)
  clear hn F5 ec e0
  go_wp2_with fail
  refine R.out.mono ?_
  rintro _ V ⟨a2,c2,rfl,hb,s2⟩
  have S:=zadv (zadx s2 hb)
  clear hb s2 R
  go_wp2
  go_ret
  refine ⟨e,a2,c2,W4,W5,?_,?_,HB4.out,QE.out,S.out.2⟩
  ·rw [HL.out];rfl
  ·rw [HL.out];exact S.out.1
end
end
section
open Sx (Ab DW Turns Did Foot MapIs)
attribute [local go_sem ↓] zad
attribute [local go_sem] zaf zai zaj zal zab zah zac zak zae zaw za2 Sx.run_mk Ext.row Ext.soft_
theorem zz9 (M:List (Int × En)):∀ (ks:List Int) (j:Nat) (hj:j < ks.length) (o:Nat),o < 75→(swL M ks)[j * 75 + o]?=(swO (getA M ks[j])).list[o]?
 | [],j,hj,_,_=>absurd hj (Nat.not_lt_zero _)
 | k :: ks,0,_,o,ho=>by
  show ((swO (getA M k)).list ++ swL M ks)[0 * 75 + o]?=_
  rw [List.getElem?_append_left (by rw [zgx];omega),Nat.zero_mul,Nat.zero_add]
  rfl
 | k :: ks,j + 1,hj,o,ho=>by
  show ((swO (getA M k)).list ++ swL M ks)[(j + 1) * 75 + o]?=_
  rw [List.getElem?_append_right (by rw [zgx];omega),zgx,show (j + 1) * 75 + o - 75=j * 75 + o by omega,zz9 M ks j (by simpa using hj) o ho]
  rfl
theorem sw_own {w:World} {B n cap:Nat} {ao:Option Addr} {M:List (Int × En)} {ks:List Int} (hn:0 < n) (h:w.ownsRow B 62 75 (.slice ao n cap) n (swL M ks)) (hl:ks.length=n):∃ g cur,ao=some ⟨g,0,none⟩∧w.heap[g]?=some (.cells cur 62)∧n * 75 ≤ cur.size∧n ≤ cap∧∀ (j:Nat) (hj:j < ks.length) (o:Nat),o < 75→cur[j * 75 + o]?=(swO (getA M ks[j])).cells[o]?:=by
 rcases h.2 with ⟨hv,h0,_⟩ | ⟨g,cp,cur,hv,_,hh,hc,_,hs,ht⟩
 ·cases hv;omega
 ·cases hv
  have hz:cur.size=cap * 75:=hs
  have hz2:n * 75 ≤ cap * 75:=Nat.mul_le_mul_right 75 hc
  refine ⟨g,cur,rfl,hh,by omega,hc,fun j hj o ho=>?_⟩
  have e:=zz9 M ks j hj o ho
  rw [← ht,List.getElem?_take_of_lt (by omega)] at e
  simpa [Sw.cells] using e
theorem s_40 (s:Sw):s.cells[40]?=some (.int .i64 s.d.q):=by
 have h:=d_40 s.d
 have e:s.cells[40]?=s.d.cells[40]?:=by
  have z:40 < s.d.list.length:=by rw [s.d.len];decide
  show s.list.toArray[40]?=s.d.list.toArray[40]?
  rw [List.getElem?_toArray,List.getElem?_toArray]
  exact List.getElem?_append_left z
 rw [e,h]
def hasD (M:List (Int × En)) (id role peer:Int) (k:Int):Bool:=(swO (getA M k)).d.i == id && ((swO (getA M k)).d.r == role && (swO (getA M k)).d.q == peer)
set_option maxHeartbeats 2000000 in
theorem zjs {w:World} {S:MS} (h:MW w S) {a:Nat} {n:Nd} {D:Dm} {kd:Bool} (is:Has S a n D kd) (hl:D.M.length ≤ 16) (hi:∀ p ∈ D.M,I64 p.1) (id role peer:Int):Calls Tryz.prog 31 #[.pointer (some ⟨S.wb,0,none⟩),.int .i64 a,.int .i64 id,.int .i64 role,.int .i64 peer] w fun e w'=>∃ ks:List Int,ks.Perm (D.M.map (·.1))∧e=.returned (.bool (ks.any (hasD D.M id role peer)))∧Below w.heap.size w w':=by
 have SW:=zadv (zmo h is hl hi)
 have HL:=zadv hl
 clear h is hl hi
 go_enter Tryz.func31,Tryz.ntmps31
 go_upto_region 3 with (go_at_call 21;refine SW.out.mono ?_;rintro _ V ⟨ao,cap,ks,rfl,hp,ho,hb⟩)
 have lk16:ks.length ≤ 16:=by rw [hp.length_eq,List.length_map];exact HL.out
 have HO:=zadv ho
 have HP:=zadv hp
 have HB:=zadv hb
 clear hp ho hb SW
 go_loopw [12] (fun i wr=>∃ k:Nat,k ≤ ks.length∧i=.int .i64 k∧(ks.take k).any (hasD D.M id role peer)=false∧wr=V) (fun i _=>ks.length - (intOf i).toNat)
 case atStart=>exact ⟨0,Nat.zero_le _,rfl,rfl,rfl⟩
 case round=>
  obtain ⟨k,hk,rfl,hno,rfl⟩:=hrel
  have HN:=zadv hno
  clear hno
  by_cases hlt:k < ks.length
  ·have i1:(k:Int) < ks.length:=by omega
   obtain ⟨g,cur,rfl,hg,hcz,hcap,hc⟩:=sw_own (by omega) HO.out rfl
   have rg:=zaa hg
   have e0:=hc k hlt 0 (by decide)
   have e1:=hc k hlt 1 (by decide)
   have e40:=hc k hlt 40 (by decide)
   obtain ⟨kk,hkk⟩:∃ kk,kk=ks[k]:=⟨_,rfl⟩
   rw [← hkk] at e0 e1 e40
   have hnx:(ks.take (k + 1)).any (hasD D.M id role peer)=hasD D.M id role peer kk:=by
    rw [List.take_succ_eq_append_getElem hlt,List.any_append,HN.out,Bool.false_or,← hkk]
    simp
   unfold hasD at hnx
   have HK:=zadv hkk
   clear hkk hc hg
   generalize swO (getA D.M kk)=s at *
   have c0:cur[k * 75 + 0]?=some (.int .i64 s.d.i):=e0.trans (s_0 s)
   have c1:cur[k * 75 + 1]?=some (.int .i64 s.d.r):=e1.trans (s_1 s)
   have c40:cur[k * 75 + 40]?=some (.int .i64 s.d.q):=e40.trans (s_40 s)
   rw [Nat.add_zero] at c0
   have z0:k * 75 < cur.size:=by omega
   have z1:k * 75 + 1 < cur.size:=by omega
   have z40:k * 75 + 40 < cur.size:=by omega
   have g0:cur[k * 75]'z0=.int .i64 s.d.i:=Option.some.inj ((Array.getElem?_eq_getElem z0).symm.trans c0)
   have g1:cur[k * 75 + 1]'z1=.int .i64 s.d.r:=Option.some.inj ((Array.getElem?_eq_getElem z1).symm.trans c1)
   have g40:cur[k * 75 + 40]'z40=.int .i64 s.d.q:=Option.some.inj ((Array.getElem?_eq_getElem z40).symm.trans c40)
   clear e0 e1 e40
   have wk:IntKind.i64.wrap ((k:Int) + 1)=(k:Int) + 1:=zar (by omega) (by omega)
   have no:(s.d.i == id && (s.d.r == role && s.d.q == peer))=false→(ks.take (k + 1)).any (hasD D.M id role peer)=false:=fun e=>by rw [← e,← hnx];rfl
   have yes:(s.d.i == id && (s.d.r == role && s.d.q == peer))=true→ks.any (hasD D.M id role peer)=true:=fun e=>by
    have e2:=hnx.trans e
    rw [← List.take_append_drop (k + 1) ks,List.any_append]
    have e3:(ks.take (k + 1)).any (hasD D.M id role peer)=true:=e2
    rw [e3,Bool.true_or]
   have NO:=zadv no
   have YES:=zadv yes
   clear no yes hnx
   cases h1:(s.d.i == id) with
   | false=>
    have n1:=NO.out (by rw [h1];rfl)
    go_wp2
    go_roundw
    case rel=>exact ⟨k + 1,by omega,rfl,n1,trivial⟩
    case measure=>simp [intOf];omega
   | true=>
    cases h2:(s.d.r == role) with
    | false=>
     have n1:=NO.out (by rw [h1,h2];rfl)
     go_wp2
     go_roundw
     case rel=>exact ⟨k + 1,by omega,rfl,n1,trivial⟩
     case measure=>simp [intOf];omega
    | true=>
     cases h3:(s.d.q == peer) with
     | false=>
      have n1:=NO.out (by rw [h1,h2,h3];rfl)
      go_wp2
      go_roundw
      case rel=>exact ⟨k + 1,by omega,rfl,n1,trivial⟩
      case measure=>simp [intOf];omega
     | true=>
      have y1:=YES.out (by rw [h1,h2,h3];rfl)
      go_wp2
      go_ret
      exact ⟨ks,HP.out,by rw [y1];rfl,HB.out⟩
  ·have e:k=ks.length:=by omega
   subst e
   have HN2:=HN.out
   rw [List.take_length] at HN2
   have HN3:=zadv HN2
   clear HN2
   go_wp2
   go_ret
   exact ⟨ks,HP.out,by rw [HN3.out];rfl,HB.out⟩
end
section
open Sx (Ab DW Turns Did Foot MapIs zbf)
attribute [local go_sem ↓] zad
attribute [local go_sem] zaf zai zaj zal zab zah zac zak zae zaw za2 Sx.run_mk
set_option maxHeartbeats 2000000 in
theorem zy2 {w:World} {S:MS} (h:MW w S) (hFo:Forms S.u) (hTa:Tabs S.u) {k:Nat} {n:Nd} {F:Foot} {A A':Ab} {j:Jr} {L:List It} {B:List (Int × Sw)} (hn:S.nd k=some n) (hd:S.ds k=.disk F n.dv A) (hA:Ab.Sm A) (ho:zce A=⟨0,A',j,zbc L⟩) (hh:Holds A' j (zbc L)) (hc:Calm A') (hr:Run [] L B) (hT:TmK n.t) (h0:0 < n.seed.length) (hl:n.seed.length ≤ 64):
   Calls Tryz.prog 36 #[.pointer (some ⟨n.b,0,none⟩)] w fun e w'=>e=.returned (.int .i64 0)∧∃ D tb,Goes w S w' { S with nd:=upd S.nd k (some { n with xv:=ptA D.xb,tv:=.map (some tb) }),tm:=upd S.tm k (some (tb,[])),ds:=upd S.ds k (.live D) }∧On w' D L B∧Calm D.A∧D.t=n.t∧D.seed=n.seed∧D.dv=n.dv:=by
 have H:=zadv h
 have HN:=zadv hn
 have HD:=zadv hd
 have HP:=zadv (zadx hA (zadx ho (zadx hh (zadx hc (zadx hT (zadx h0 (zadx hl hr)))))))
 have HG:=zadv (zadx hFo hTa)
 have r0:=zaa (h.ndAt hn).row
 have s0:=zan (h.ndAt hn).row
 have nb0:(n.b=w.heap.size)=False:=eq_false (Nat.ne_of_lt (zadu (h.ndAt hn).row).1)
 unfold Nd.cells at r0
 clear h hn hd hA ho hh hc hT h0 hl hr hFo hTa
 go_enter Tryz.func36,Tryz.ntmps36
 go_upto_region 2 with (fail)
 have g1:=H.out.tmNew k
 have g2:=g1.mw.nrSet (n':={ n with tv:=.map (some w.heap.size) }) (show ({ S with tm:=upd S.tm k (some (w.heap.size,[])) }:MS).nd k=some n from HN.out) 12 (.map (some w.heap.size)) rfl rfl rfl rfl rfl
 have G:=(g1.trans g2).drew
 clear g1 g2
 have eW:∃ W,W=(w.alloc (.map #[] 0)).setCell ⟨n.b,12,none⟩ (.map (some w.heap.size)):=⟨_,rfl⟩
 obtain ⟨W,eW⟩:=eW
 rw [← eW] at G ⊢
 have na:=G.mw.ndAt (k:=k) (upd_at _ _ _)
 have r2:rowOf W n.b=ndC n.xv n.t n.sv n.dv (.map (some w.heap.size)):=zaa na.row
 have s2:soft W n.b=true:=zan na.row
 have hdw:DW W.drew F n.dv A:=by
   have:=G.mw.at_ (.da k)
   simp only [MS.part,HD.out] at this
   exact this
 have hF:∀ x,¬ F n.sb x:=fun x q=>by
   refine G.mw.dis (.nr k) (.da k) (fun e=>by cases e) n.sb ?_ ?_
   · show (MS.part _ (.nr k)).P n.sb
     simp only [MS.part,upd_at]
     exact Or.inr trivial
   · simp only [MS.part,HD.out]
     exact ⟨x,q⟩
 have hlow:=G.mw.low
 have h3:3 < W.drew.heap.size∧∀ i,i ≤ 3→∀ x,¬ F i x:=by
   obtain ⟨t5,y5⟩:=HG.out.2.g5
   have l2:3 < S.u.heap.size:=(zadu y5).1
   refine ⟨Nat.lt_of_lt_of_le l2 hlow.size,fun i hi x q=>?_⟩
   refine G.mw.dis .base (.da k) (fun e=>by cases e) i ?_ ?_
   · show i < S.u.heap.size
     omega
   · simp only [MS.part,HD.out]
     exact ⟨x,q⟩
 have OP:=zadv (zvq hdw HP.out.1 HP.out.2.1 HP.out.2.2.1 HP.out.2.2.2.1 HP.out.2.2.2.2.2.2.2 (HG.out.1.keep (zadw _) hlow) (HG.out.2.keep (zadw _) hlow) h3 HP.out.2.2.2.2.1 na.sd HP.out.2.2.2.2.2.1 HP.out.2.2.2.2.2.2.1 na.lt hF)
 dsimp only at OP
 have R2:NdR W.drew n:=NdR.of r2
 have G:=zadv G
 unfold NdR at R2
 clear r0 s0 nb0 na hdw hF eW hlow h3
 go_region_held3 (fun w'=>sub (rowOf w' n.b) 1 9=n.t.cells∧10 ≤ (rowOf w' n.b).size∧(rowOf w' n.b)[10]?=some (.slice (some ⟨n.sb,0,none⟩) n.seed.length n.sc)∧(rowOf w' n.b)[11]?=some n.dv) (first | exact R2 | exact R3 | exact R4) (first
   | (go_at_call 72;refine OP.out.mono ?_;rintro _ V ⟨D,rfl,q1,q2,q3,q4,q5,q6⟩
      have g3:=G.out.trans (G.out.mw.da k (d:=.live D) (by show Comp _ _ (S.ds k).part.P _;rw [HD.out];exact q5.comp) q1.dae)
      have nv:=g3.mw.ndAt (k:=k) (upd_at _ _ _)
      have r3:rowOf V n.b=ndC n.xv n.t n.sv n.dv (.map (some w.heap.size)):=zaa nv.row
      have s3:soft V n.b=true:=zan nv.row
      have R3:NdR V n:=NdR.of r3
      have R4:NdR (V.setCell ⟨n.b,0,none⟩ (ptA D.xb)) n:=(NdR.of (by rw [zac,if_pos rfl,r3];exact zvg _ _ _ _ _ _))
      have G3:=zadv g3
      have Q:=zadv (zadx q1 (zadx q2 (zadx q3 (zadx q4 q6))))
      unfold NdR at R3 R4
      clear g3 nv q1 q2 q3 q4 q5 q6 r2 s2))
 have g4:=G3.out.trans (G3.out.mw.nrSet (k:=k) (n':={ n with xv:=ptA D.xb,tv:=.map (some w.heap.size) }) (upd_at _ _ _) 0 (ptA D.xb) rfl rfl rfl rfl rfl)
 dsimp only at g4
 rw [zfy] at g4
 have L4:On (V.setCell ⟨n.b,0,none⟩ (ptA D.xb)) D L B:=⟨g4.mw.daAt (k:=k) (upd_at _ _ _),Q.out.1.on,Q.out.1.rows,Q.out.1.book,Q.out.1.run⟩
 have G4:=zadv g4
 have L4:=zadv L4
 clear g4 R2 R3 R4 r3 s3
 go_wp2
 go_ret
 exact ⟨rfl,D,w.heap.size,G4.out,L4.out,Q.out.2⟩
theorem Holds.back_it {A A':Ab} {j:Jr} {L:List It} (h:Holds A j (zbc L)) {K:List Int} (hc:zbf A K A'):∃ A'' j',zce A'=⟨0,A'',j',zbc L⟩∧Holds A'' j' (zbc L)∧Calm A''∧Ab.Sm A':=by
 obtain ⟨A'',j',q1,q2,q3⟩:=h.back_opens hc
 exact ⟨A'',j',q1,q2,q3,zhg h.half.sm hc⟩
theorem Fell.back_it {D:Dm} {L:List It} {a:It} (h:Fell D L a) {A':Ab} {K:List Int} (hc:zbf D.A K A'):∃ A'' j' L',(L'=L ∨ L'=L ++ [a])∧zce A'=⟨0,A'',j',zbc L'⟩∧Holds A'' j' (zbc L')∧Calm A''∧Ab.Sm A':=by
 obtain ⟨T,hb⟩:=h.back
 obtain ⟨A'',j',q,q3⟩:=hb.opens hc
 rcases q with ⟨q1,q2⟩ | ⟨q1,q2⟩
 ·exact ⟨A'',j',L,.inl rfl,q1,q2,q3,zhg h.sm hc⟩
 ·exact ⟨A'',j',L ++ [a],.inr rfl,q1,q2,q3,zhg h.sm hc⟩
theorem zoh {w:World} {S:MS} (h:MW w S) (hFo:Forms S.u) (hTa:Tabs S.u) {a:Nat} {n:Nd} {F:Foot} {A:Ab} {ao:Option Addr} {c:Nat} {K:List Int} (HK:KeepAt w ao K) (hn:S.nd a=some n) (hat:getA S.nodes a=some (ptA n.b)) (hdw:DW w F n.dv A) (hFd:∀ i x,F i x→(S.ds a).part.P i) {O:List It→List (Int × Sw)→Prop}
  (hO:∀ A',zbf A K A'→∃ A'' j' L B,O L B∧zce A'=⟨0,A'',j',zbc L⟩∧Holds A'' j' (zbc L)∧Calm A''∧Ab.Sm A'∧Run [] L B) (hT:TmK n.t) (h0:0 < n.seed.length) (hl:n.seed.length ≤ 64):
  Calls Tryz.prog 19 #[.pointer (some ⟨S.wb,0,none⟩),.int .i64 a,.slice ao K.length c] w fun e w'=>e=.returned (.int .i64 0)∧∃ D tb L B,O L B∧Goes w S w' { S with nd:=upd S.nd a (some { n with xv:=ptA D.xb,tv:=.map (some tb) }),tm:=upd S.tm a (some (tb,[])),ds:=upd S.ds a (.live D) }∧On w' D L B∧Calm D.A∧D.t=n.t∧D.seed=n.seed∧D.dv=n.dv:=by
 have rw0:=zaa h.wrAt
 have lk:=h.look a
 rw [MS.at_some hat] at lk
 unfold ptA at lk
 have rn:=zaa (h.ndAt hn).row
 unfold Nd.cells at rn
 have CR:=zadv (zvo (c:=c) hdw HK)
 have H:=zadv h
 have HH:=zadv (zadx hT (zadx h0 hl))
 have HN:=zadv hn
 have HO:=zadv hO
 have HG:=zadv (zadx hFo hTa)
 have HD:=zadv hFd
 clear h hn hat hdw hFd hT h0 hl hO hFo hTa HK
 go_enter Tryz.func19,Tryz.ntmps19
 go_wp2_with (go_at_call 58;refine CR.out.mono ?_;rintro _ V ⟨A',hct,rfl,F',hd,ht,hf⟩)
 have g1:Goes w S V { S with ds:=upd S.ds a (.disk F' n.dv A') }:=H.out.da a ⟨ht.os,ht.tape,ht.output,ht.size,fun i hi hn=>⟨ht.block i hi fun x hx=>hn (HD.out _ x hx),fun ⟨x,q⟩=>(hf _ x q).elim (fun q=>hn (HD.out _ x q)) fun q=>by omega⟩⟩ hd
 obtain ⟨A'',j',L,B,o1,o2,o3,o4,o5,o6⟩:=HO.out A' hct
 have OK:=zy2 (k:=a) (n:=n) (F:=F') (A:=A') (A':=A'') (j:=j') (L:=L) (B:=B) g1.mw HG.out.1 HG.out.2 HN.out (upd_at _ _ _) o5 o2 o3 o4 o6 HH.out.1 HH.out.2.1 HH.out.2.2
 dsimp only at OK
 simp only [zfy] at OK
 have OK:=zadv OK
 have G1:=zadv g1
 have O1:=zadv o1
 clear g1 hd ht hf CR o1 o2 o3 o4 o5 o6 hct
 refine OK.out.mono ?_
 rintro _ Z ⟨rfl,D,tb,g2,l2,l3⟩
 have G2:=zadv (zadx (G1.out.trans g2) (zadx l2 l3))
 clear g2 l2 l3 OK G1 rw0 lk rn
 go_wp2
 go_ret
 exact ⟨rfl,D,tb,L,B,O1.out,G2.out⟩
end
end Go.Proofs.YthjgiamfaijoeaaGreatDoor
