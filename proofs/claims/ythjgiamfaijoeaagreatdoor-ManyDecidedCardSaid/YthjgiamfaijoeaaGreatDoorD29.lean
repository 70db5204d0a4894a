/- What is proved: parts of the walk and of the plain law. No condition but those each law names. -/
import Derived.Test.YthjgiamfaijoeaaGreatDoorD28
import Derived.Test.YthjgiamfaijoeaaGreatDoorD22
import Derived.Lib.SlBytesConst
import Derived.Test.YthjgiamfaijoeaaGreatDoorD14
import Derived.Test.YthjgiamfaijoeaaGreatDoorD18
import Derived.Lib.AppendZeros
import Derived.ArgAppend
import Derived.Test.YthjgiamfaijoeaaGreatDoorD12
import Derived.Test.YthjgiamfaijoeaaGreatDoorD02
import Derived.Test.YthjgiamfaijoeaaGreatDoorD00
set_option linter.unusedSimpArgs false
set_option linter.unusedVariables false
set_option maxRecDepth 100000
namespace Go.Proofs.YthjgiamfaijoeaaGreatDoor
open Go.RowKit
section
open Sx (Ab DW Turns Did Foot)
attribute [local go_sem ↓] zad ebl1 ebl2 zuy zuz zx6 zu3
attribute [local go_sem] zaf zai zaj zal zab zah zae Ext.row Ext.soft_ zuw zux zl8 zl9
theorem zip (t:Tm) (d:Dl) (n:Cl):(zgf t d n).i=d.i∧(zgf t d n).h=d.h:=by
 unfold zgf
 split <;> exact ⟨rfl,rfl⟩
theorem Dae.keepB {w w':World} {D:Dm} (h:Dae w D) (hk:∀ i,D.all i→w'.heap[i]?=w.heap[i]?) (hz:w.heap.size ≤ w'.heap.size):Dae w' D:=
 ⟨(hk _ (.inl (.inl rfl))).trans h.row,h.sd.block (hk _ (.inl (.inr (.inl rfl)))),Nat.lt_of_lt_of_le h.sl hz,⟨h.jd.dw.keepB fun i hx=>hk i (.inr (.inr hx)),(hk _ (.inr (.inl rfl))).trans h.jd.jr,h.jd.ap⟩,h.hold,h.calm,h.bok.keepB fun i x hi=>hk i (.inl (.inr (.inr hi))),h.f1,h.f2⟩
theorem Trans.row {w Z:World} {D D':Dm} (t:Trans w D Z D') {b:Nat} (hb:w.heap.size ≤ b) (C:Array Value):Trans w D (Z.setRow b C) D':=
 ⟨t.os,t.tape,t.output,Nat.le_trans t.size (by simp [World.setRow]),fun i hi hn=>⟨(setRow_other _ _ _ _ (by omega)).trans (t.keep i hi hn).1,(t.keep i hi hn).2⟩,t.xb,t.bk,t.t,t.seed,t.dv⟩
structure PSt (w V:World) (p g:Lg) (n:Cl) (s:Hs) (d:Dl) (b N:Nat):Prop where
 bx:Bxs w [(p.cells,30),(g.cells,30),(n.cells,52),(Msg.zero.cells,118)] V
 rs:V.heap[b]?=some (.cells s.cells 58)
 rd:∃ t,V.heap[N]?=some (.cells d.cells t)
 lb:w.heap.size ≤ b
 lN:w.heap.size ≤ N
theorem PSt.step {w V V':World} {p g:Lg} {n:Cl} {s:Hs} {d:Dl} {b N:Nat} (h:PSt w V p g n s d b N) (hb:Below V.heap.size V V'):PSt w V' p g n s d b N:=by
 obtain ⟨t,ht⟩:=h.rd
 exact ⟨h.bx.step hb,(hb.block _ (zadu h.rs).1).trans h.rs,⟨t,(hb.block _ (zadu ht).1).trans ht⟩,h.lb,h.lN⟩
theorem PSt.d {w V:World} {p g:Lg} {n:Cl} {s:Hs} {d:Dl} {b N:Nat} (h:PSt w V p g n s d b N):rowOf V N=d.cells:=by
 obtain ⟨t,ht⟩:=h.rd
 exact zaa ht
def zbo (D:Dm) (i peer:Int) (p g:Lg) (n:Cl):Dl:=zgf D.t ⟨i,1,p,g,sumH (secretH (D.seed ++ intI i)).l,peer⟩ n
def zax (d:Dl):Msg:=⟨1,d.i,0,d.p,d.g,d.h⟩
section
variable {w:World} {D:Dm} {n:Cl} {i peer:Int} {p g:Lg}
end
end
section
open Sx (Ab DW Turns Did Foot)
attribute [local go_sem ↓] zad
attribute [local go_sem] zaf zai zaj zal zab zah zae Ext.row Ext.soft_
def tmOf (v:Value):Tm:=⟨iAt v 0,iAt v 1,iAt v 2,iAt v 3,iAt v 4,iAt v 5,iAt v 6,iAt v 7,iAt v 8⟩
def svOf (v:Value):Sv:=match v with
 | .slice a n c=>⟨a,n,c⟩
 | _=>Sv.nil
def pbOf (v:Value):Nat:=match v with
 | .pointer (some a)=>a.block
 | _=>0
theorem zn9 (t:Tm):tmOf (.agg t.cells)=t:=rfl
theorem zoa (a:Option Addr) (n c:Nat):svOf (.slice a n c)=⟨a,n,c⟩:=rfl
theorem zob (b o:Nat):pbOf (.pointer (some ⟨b,o,none⟩))=b:=rfl
theorem bdm (w:World) (t:Tm) (s:Sv) (jb bk:Nat):(Instr.build 190 #[(0,.agg t.cells),(1,.slice s.a s.n s.c),(2,.pointer (some ⟨jb,0,none⟩)),(3,.pointer (some ⟨bk,0,none⟩))]).run Tryz.prog w=.ok (.agg (dmC t s jb bk false)) w:=by kernel_rfl
theorem ebdm (w:World) (A:Act) (dst:Option Tmp) (ty:TypeId) (pos:String) (af:Array Edge) (gd:Option (Nat × Bool)) (x y z u:Operand) (hx:A.eval x=.agg (tmOf (A.eval x)).cells) (hy:A.eval y=.slice (svOf (A.eval y)).a (svOf (A.eval y)).n (svOf (A.eval y)).c) (hz:A.eval z=.pointer (some ⟨pbOf (A.eval z),0,none⟩)) (hu:A.eval u=.pointer (some ⟨pbOf (A.eval u),0,none⟩)):
  (execOp A.eval ⟨dst,.build 190 #[(0,x),(1,y),(2,z),(3,u)],ty,pos,af,gd⟩).run Tryz.prog w=.ok (.value (.agg (dmC (tmOf (A.eval x)) (svOf (A.eval y)) (pbOf (A.eval z)) (pbOf (A.eval u)) false))) w:=by
 have h:=bdm w (tmOf (A.eval x)) (svOf (A.eval y)) (pbOf (A.eval z)) (pbOf (A.eval u))
 rw [← hx,← hy,← hz,← hu] at h
 unfold execOp
 simp only [Sem.run_bind,Sem.run_pure,List.map_toArray,List.map_cons,List.map_nil,h,Result.andThen_ok]
attribute [local go_sem ↓] ebdm
attribute [local go_sem] zn9 zoa zob
structure Born (F:Foot) (w:World) (D:Dm) (w':World):Prop where
 os:w'.os=w.os
 tape:w'.tape=w.tape
 output:w'.output=w.output
 size:w.heap.size ≤ w'.heap.size
 keep:∀ i,i < w.heap.size→(∀ x,¬ F i x)→w'.heap[i]?=w.heap[i]?∧¬ D.all i
theorem zpw {w W2 W3 X2:World} {F F':Foot} {dv:Value} {A':Ab} {jb:Nat} {j:Jr} {t:Tm} {seed:List Nat} {a1:Option Addr} {n c1 bk mb:Nat} {R:List (Int × List Nat)} (hbw:Below w.heap.size w W2) (tb:TB F W2 F' W3) (jd:JD W3 F' dv A' jb j) (hjb:W2.heap.size ≤ jb) (hh:Holds A' j R) (hc:Calm A')
  (own:X2.ownsRow W3.heap.size 5 1 (.slice a1 n c1) n (bts seed)) (bok:BookAt X2 bk mb []) (hb3:Below W3.heap.size W3 X2) (l1:W3.heap.size ≤ bk) (l2:W3.heap.size ≤ mb) (h0:0 < n):
  ∃ D:Dm,D.xb=X2.heap.size∧Lies (X2.alloc (.cells (dmC t ⟨a1,n,c1⟩ jb bk false) 190)) D (·=[]) R∧D.t=t∧D.seed=seed∧Born F w D (X2.alloc (.cells (dmC t ⟨a1,n,c1⟩ jb bk false) 190))∧D.dv=dv∧(∀ i,D.all i→W3.heap.size ≤ i ∨ ∃ x,Fb F' jb i x)∧D.M=[]:=by
 have sl:=Sl.own own
 obtain ⟨sb,so,rfl,hsb,_⟩:=sl.at h0
 have ho:=own
 obtain ⟨_,⟨e,_⟩ | ⟨g,cp,cur,e,hg,hgc,_⟩⟩:=ho
 ·cases e
 cases e
 have hn:seed.length=n:=by rw [← sl.len,zam]
 subst hn
 have hal:Below X2.heap.size X2 (X2.alloc (.cells (dmC t ⟨some ⟨sb,0,none⟩,seed.length,c1⟩ jb bk false) 190)):=(Below.refl _ X2).alloc (zadw _) _
 have hz:(X2.alloc (.cells (dmC t ⟨some ⟨sb,0,none⟩,seed.length,c1⟩ jb bk false) 190)).heap.size=X2.heap.size + 1:=by simp
 have bokl:∀ i x,zc5 bk mb [] i x→i=bk ∨ i=mb:=fun i x h=>by
  rcases h with h | h | ⟨p,hp,_⟩
  ·exact .inl h
  ·exact .inr h
  ·cases hp
 have lb:bk < X2.heap.size:=(zadu bok.ob).1
 have lm:mb < X2.heap.size:=bok.lt (x:=0) (.inr (.inl rfl))
 have z3:=hb3.size
 have nsb:sb ≠ bk:=fun q=>by have:=bok.ob;rw [← q,hgc] at this;cases this
 have nsm:sb ≠ mb:=fun q=>by obtain ⟨es,c,x,_⟩:=bok.mp;rw [← q,hgc] at x;cases x
 let D:Dm:=⟨F',X2.heap.size,jb,bk,mb,sb,c1,t,seed,dv,A',j,R,[],true⟩
 have hown:∀ i,D.own i→W3.heap.size ≤ i:=fun i hi=>by
  rcases hi with hi | hi | hi
  ·have hi:i=X2.heap.size:=hi
   omega
  ·have hi:i=sb:=hi
   omega
  ·rcases bokl i 0 hi with h | h <;> omega
 refine ⟨D,rfl,⟨⟨heap_alloc_new X2 _,sl.keep (zadw _) hal,(by rw [hz];show sb < _;omega),(jd.below hb3).below hal,hh,fun _=>hc,bok.below hal,fun i hi=>?_,?_⟩,rfl,rfl,rfl⟩,rfl,rfl,?_,rfl,fun i hi=>hi.elim (fun q=>.inl (hown i q)) fun q=>q.elim (fun e=>.inr ⟨0,.inr e⟩) fun ⟨x,q⟩=>.inr ⟨x,.inl q⟩,rfl⟩
 ·have:=hown i hi
  refine ⟨fun e=>?_,fun x hx=>?_⟩
  ·have h1:=jd.lt
   have e:i=jb:=e
   omega
  ·have:=jd.dw.lt hx
   omega
 ·refine ⟨fun q=>?_,fun q=>?_,?_⟩
  ·rcases bokl _ 0 q with h | h
   ·have h:X2.heap.size=bk:=h
    omega
   ·have h:X2.heap.size=mb:=h
    omega
  ·exact (bokl _ 0 q).elim nsb nsm
  ·show X2.heap.size ≠ sb
   omega
 ·have zw:=hbw.size
  have zt:=tb.t.size
  refine ⟨hal.os.trans (hb3.os.trans (tb.t.os.trans hbw.os)),hal.tape.trans (hb3.tape.trans (tb.t.tape.trans hbw.tape)),hal.output.trans (hb3.output.trans (tb.t.output.trans hbw.output)),by rw [hz];omega,fun i hi hn=>⟨?_,fun q=>?_⟩⟩
  ·exact (hal.block i (by omega)).trans ((hb3.block i (by omega)).trans ((tb.t.block i (by omega) hn).trans (hbw.block i hi)))
  ·rcases q with q | q | ⟨x,hx⟩
   ·have:=hown i q
    omega
   ·have q:i=jb:=q
    omega
   ·rcases tb.fb i x hx with h | h
    ·exact hn x h
    ·omega
set_option maxHeartbeats 2000000 in
theorem zx9 {w:World} {F:Foot} {dv:Value} {A A':Ab} {j:Jr} (H:DW w F dv A) (hA:Ab.Sm A) (ho:zce A=⟨0,A',j,[]⟩) (hh:Holds A' j []) (hc:Calm A') {t:Tm} (hk:TmK t) {b o n c:Nat} {seed:List Nat} (hs:Sl w (some ⟨b,o,none⟩) n c (bts seed)) (h0:0 < n) (hn:n ≤ 64) (hb:b < w.heap.size) (hF:∀ x,¬ F b x):
   Calls Tryz.prog 72 #[.agg t.cells,.slice (some ⟨b,o,none⟩) n c,dv] w fun e w'=>∃ D,e=.returned (.tuple #[.pointer (some ⟨D.xb,0,none⟩),.int .i64 0])∧Lies w' D (·=[]) []∧D.t=t∧D.seed=seed∧Born F w D w'∧D.dv=dv:=by
 have HK:=zadv hk
 have HH:=zadv hh
 have HC:=zadv hc
 have HS:=zadv hs
 have HF:=zadv hF
 have HB:=zadv hb
 have HD:=zadv H
 have HA:=zadv hA
 have HO:=zadv ho
 have hn2:((n:Int) > 64)=False:=eq_false (by omega)
 obtain ⟨db,dof,rfl⟩:=zne H
 clear hk hh hc hs hF hb H hA ho
 go_enter Tryz.func72,Tryz.ntmps72
 go_upto_region 1 with (fail)
 have bx:=Bx.new w (t.cells) 68;generalize w.alloc (.cells (t.cells) 68)=W at bx ⊢;have rx:=bx.rowOf;have sx:=bx.soft;have BX:=zadv bx;clear bx
 have Q:=zet t W
 rw [HK.out.chk] at Q
 have Q:=zadv Q
 go_wp2_with fail
 refine (Q.out).mono ?_;rintro _ W2 ⟨rfl,hb⟩;have bx:=BX.out.step hb;clear BX rx sx hb;have rx:=bx.rowOf;have sx:=bx.soft;have BX:=zadv bx;clear bx
 have hbW:=BX.out.below
 have O:=zadv (zta (HD.out.below hbW) HA.out HO.out)
 clear hbW
 go_wp2_with fail
 refine O.out.mono ?_
 rintro _ W3 ⟨F',jb,ao,cc,L,rfl,jd,tb,hjb,_,_⟩
 have l0:w.heap.size < W2.heap.size:=(zadu BX.out.row).1
 have n0:∀ x,¬ F w.heap.size x:=fun x q=>absurd (HD.out.lt q) (Nat.lt_irrefl _)
 have rt:rowOf W3.drew w.heap.size=t.cells:=zaa ((tb.t.block _ l0 n0).trans BX.out.row)
 have lt3:w.heap.size < W3.heap.size:=Nat.lt_of_lt_of_le l0 tb.t.size
 have hs3:Sl W3.drew (some ⟨b,o,none⟩) n c (bts seed):=HS.out.block ((tb.t.block b (Nat.lt_of_lt_of_le HB.out BX.out.below.size) HF.out).trans (BX.out.below.block b HB.out))
 have CA:=zadv (zb3 hs3 (by omega))
 have NB:=zadv (zha W3.drew)
 have HS3:=zadv hs3
 have JD:=zadv jd
 have TB:=zadv tb
 have JB:=zadv hjb
 have L0:=zadv l0
 clear jd tb hjb l0 n0 hs3 rx sx O Q
 go_upto_region 9 with (fail)
 have keep:∀ X:World,Below W3.drew.heap.size W3.drew X→rowOf X w.heap.size=t.cells:=fun X hX=>by
   have:X.heap[w.heap.size]?=W3.drew.heap[w.heap.size]?:=hX.block _ lt3
   unfold rowOf at rt ⊢
   rw [this]
   exact rt
 have KP:=zadv keep
 clear keep
 go_region_held3 (fun w'=>rowOf w' w.heap.size=t.cells) (first | exact rt | exact r1 | exact r2 | exact r3)
   (first
     | (go_at_call 34;refine CA.out.mono ?_;rintro _ X1 ⟨a1,c1,rfl,hb1,own1⟩
        have r1:=KP.out X1 hb1
        have NA:=zadv (zha X1)
        have O1:=zadv own1
        have B1:=zadv hb1
        clear own1 hb1)
     | (go_at_call 112;refine NA.out.mono ?_;rintro _ X2 ⟨bk,mb,rfl,k1,k2,k3,k4⟩
        have r2:=KP.out X2 (B1.out.trans (k2.mono B1.out.size))
        have r3:=KP.out (X2.alloc (.cells (dmC t ⟨a1,n,c1⟩ jb bk false) 190)) ((B1.out.trans (k2.mono B1.out.size)).alloc (B1.out.trans (k2.mono B1.out.size)).size _)
        have FIN:=zadv (zadx (zbe O1.out (zadw _) k2) (zadx k1 (zadx (B1.out.trans (k2.mono B1.out.size)) (zadx (Nat.le_trans B1.out.size k3) (Nat.le_trans B1.out.size k4)))))
        clear k1 k2 k3 k4)
     | (go_at_call 112;refine NB.out.mono ?_;rintro _ X1 ⟨bk,mb,rfl,k1,k2,k3,k4⟩
        have r1:=KP.out X1 k2
        have CB:=zadv (zb3 (w:=X1) (HS3.out.keep (zadw _) k2) (by omega))
        have K1:=zadv k1
        have K2:=zadv k2
        have K3:=zadv (zadx k3 k4)
        clear k1 k2 k3 k4)
     | (go_at_call 34;refine CB.out.mono ?_;rintro _ X2 ⟨a1,c1,rfl,hb1,own1⟩
        have r2:=KP.out X2 (K2.out.trans (hb1.mono K2.out.size))
        have r3:=KP.out (X2.alloc (.cells (dmC t ⟨a1,n,c1⟩ jb bk false) 80)) ((K2.out.trans (hb1.mono K2.out.size)).alloc (K2.out.trans (hb1.mono K2.out.size)).size _)
        have FIN:=zadv (zadx (za0 own1 K2.out.size) (zadx (K1.out.below hb1) (zadx (K2.out.trans (hb1.mono K2.out.size)) K3.out)))
        clear own1 hb1))
 all_goals obtain ⟨D,e1,q1,q2,q3,q4,q5,_,_⟩:=zpw (t:=t) BX.out.below TB.out JD.out JB.out HH.out HC.out FIN.out.1 FIN.out.2.1 ((Below.refl W3.heap.size W3).drew.trans FIN.out.2.2.1) FIN.out.2.2.2.1 FIN.out.2.2.2.2 h0
 all_goals rw [← e1]
 all_goals generalize X2.alloc _=Y at *
 all_goals have RES:=zadv (zadx q1 (zadx q2 (zadx q3 (zadx q4 q5))))
 all_goals clear q1 q2 q3 q4 q5 e1 FIN r1 r2 r3 rt lt3
 all_goals go_upto_region 11 with (fail)
 all_goals go_loopw [43] (fun i wr=>i=.int .i64 0∧wr=Y) (fun _ _=>0)
 case atStart=>exact ⟨rfl,rfl⟩
 case round=>
   obtain ⟨rfl,rfl⟩:=hrel
   go_wp2
   refine bodyPost_ret (results_tmp2 rfl _ _ _) rfl ?_
   exact ⟨D,rfl,RES.out⟩
end
section
open Sx (Ab DW Turns Did Foot)
def T26:Tm:=⟨10,1000,5,100,1000,2,3,4,2⟩
theorem zpx:TmK T26:=⟨by kernel_rfl,⟨by decide,by decide,by decide,by decide⟩,by decide,by decide,by decide⟩
attribute [local go_sem ↓] zad
attribute [local go_sem] zaf zai zaj zal zab zah zae Ext.row Ext.soft_
theorem zaco:(#[Value.int .i64 10,Value.int .i64 1000,Value.int .i64 5,Value.int .i64 100,Value.int .i64 1000,Value.int .i64 2,Value.int .i64 3,Value.int .i64 4,Value.int .i64 2]:Array Value)=T26.cells:=rfl
attribute [local go_sem] zaco
theorem zu4 (w:World):Calls Tryz.prog 26 #[] w fun e w'=>e=.returned (.agg T26.cells)∧Below w.heap.size w w':=by
 go_enter Tryz.func26,Tryz.ntmps26
 go_upto_region 1 with (fail)
 have bx:=Bx.new w (Tm.cells ⟨0,0,0,0,0,0,0,0,0⟩) 68
 rw [show (#[Value.int .i64 0,Value.int .i64 0,Value.int .i64 0,Value.int .i64 0,Value.int .i64 0,Value.int .i64 0,Value.int .i64 0,Value.int .i64 0,Value.int .i64 0]:Array Value)=Tm.cells ⟨0,0,0,0,0,0,0,0,0⟩ from rfl]
 generalize w.alloc (.cells (Tm.cells ⟨0,0,0,0,0,0,0,0,0⟩) 68)=W at bx ⊢
 have rx:=bx.rowOf
 have sx:=bx.soft
 have BX:=zadv bx
 clear bx
 go_wp2
 have hc:rowOf (World.setRow W w.heap.size T26.cells) w.heap.size=T26.cells:=(zab _ _ _ _ sx).trans (if_pos rfl)
 refine bodyPost_ret (za6 (t:=68) rfl Tryz.underlying68 rfl (by kernel_rfl) _ _ w.heap.size rfl hc (zt9 _)) rfl ?_
 exact ⟨rfl,Below.setRow_ BX.out.below (zadw _) _⟩
def seedL:List Nat:=[115,101,101,100]
def zu5:Array Value:=#[.int .u8 115,.int .u8 101,.int .u8 101,.int .u8 100]
def zrx (w:World):World:=w.alloc (.cells zu5 5 (4,5))
theorem zmi (w:World):(convert 37 37 (.slice (some ⟨w.heap.size,0,none⟩) 4 4)).run Tryz.prog (w.alloc (.cells zu5 5))=.ok (.slice (some ⟨w.heap.size,0,none⟩) 4 4) (zrx w):=
 Go.Lib.run_convert_bytes_const w 37 5 zu5 4 4 Tryz.underlying37 Tryz.underlying5
theorem zpy (w:World):(#[Value.int .u8 115,Value.int .u8 101,Value.int .u8 101,Value.int .u8 100]:Array Value)=zu5:=rfl
structure Mine (w V:World) (D:Dm):Prop where
 low:Below w.heap.size w V
 own:∀ i,i < w.heap.size→¬ D.all i
theorem Mine.base {w V:World} {D:Dm} (h:Mine w V D) (hf:Forms w) (ht:Tabs w):Base V D:=
 let ⟨_,g4⟩:=ht.g4
 let ⟨_,g5⟩:=ht.g5
 ⟨hf.keep (zadw _) h.low,ht.keep (zadw _) h.low,h.own _ hf.lt,h.own _ (zadu g4).1,h.own _ (zadu g5).1⟩
theorem zya {w:World} {D:Dm} (h:Dae w D):Calls Tryz.prog 60 #[.pointer (some ⟨D.xb,0,none⟩)] w fun e w'=>e=.returned (.pointer (some ⟨D.bk,0,none⟩))∧w'=w:=by
 have rD:=zaa h.row
 unfold Dm.cells at rD
 clear h
 go_enter Tryz.func60,Tryz.ntmps60
 go_wp2
 go_ret
 exact ⟨rfl,rfl⟩
theorem eql_h (h:Hs) (w:World):(binOp .eql 58 (.agg h.cells) (.agg h.cells)).run Tryz.prog w=.ok (.bool true) w:=by
 obtain ⟨f,rfl⟩:=h.form
 have e:=eq39 f 9998
 rw [ztv]
 simp [go_sem,e]
theorem zmj (w:World) (ρ:Operand→Value) (x y:Operand) (dst:Option Tmp) (ty:TypeId) (pos:String) (af:Array Edge) (gd:Option (Nat × Bool)) (r:TypeId) (h1:ρ x=ρ y) (h2:IsH (ρ y)):(execOp ρ ⟨dst,.binOp .eql 58 x y r,ty,pos,af,gd⟩).run Tryz.prog w=.ok (.value (.bool true)) w:=by
 obtain ⟨m,hm⟩:=h2
 unfold execOp
 simp only [Sem.run_bind,h1,hm,eqg39 _ _ _ _ _ _ (.inr rfl),Result.andThen_ok,eql_h,Sem.run_pure]
attribute [local go_sem ↓] zmj
attribute [local go_sem] zpy zmi is_h
end
section
theorem fee26 {a:Int} (h0:100 ≤ a) (h1:a ≤ 1000):feeV T26 a.toNat=(16,0):=by
 have hp:zi7 a.toNat (T26.ppm).toNat=1:=by show (a.toNat * 1000 + 999999) / 1000000=1;omega
 have ht:totV [T26.base,((1:Nat):Int),T26.reserve]=(16,0):=by kernel_rfl
 have hs:zif 16 (a.toNat:Nat)=((16:Int) + (a.toNat:Nat),(0:Int)):=by
  unfold zif
  rw [if_pos]
  unfold aisA
  omega
 unfold feeV
 rw [hp,ht]
 simp only []
 rw [hs]
 simp
theorem zyb (a free:Int):zc4 T26 a free=if a < 100 ∨ a > 1000 ∨ a > free then (0,22) else (a + 16,0):=by
 unfold zc4
 by_cases h:a < T26.least ∨ a > T26.most ∨ a > free
 ·have h':a < 100 ∨ a > 1000 ∨ a > free:=h
  rw [if_pos h,if_pos h']
 ·have h':¬ (a < 100 ∨ a > 1000 ∨ a > free):=h
  rw [if_neg h,if_neg h',fee26 (by omega) (by omega)]
  rw [if_neg (by simp)]
theorem zu6 (t:Tm) (d:Dl) (n:Cl):zez t d n=23 ∨ zez t d n=0:=by
 unfold zez
 split
 ·exact .inl rfl
 ·exact .inr rfl
theorem zry (d:Dl) (n:Cl) (free:Int):0 ≤ zdq T26 d n free∧zdq T26 d n free ≤ 24:=by
 unfold zdq
 split
 ·unfold errD
  split <;> decide
 ·split
  ·rw [zyb]
   split
   ·exact ⟨by show (0:Int) ≤ 22;decide,by show (22:Int) ≤ 24;decide⟩
   ·exact ⟨by show (0:Int) ≤ 0;decide,by show (0:Int) ≤ 24;decide⟩
  ·split
   ·decide
   ·rcases zu6 T26 d n with h | h <;> rw [h] <;> decide
theorem zfx {d:Dl} (h:za5 d=true):idE d.i (zcg (zbg d))=0∧I64 d.i∧LgI d.p∧LgI d.g:=by
 have hin:=zh8 h
 unfold za5 zi5 at h
 simp only [Bool.and_eq_true] at h
 obtain ⟨h1,_,⟨h3,h4,h5⟩,⟨h6,h7,h8⟩,h9,_⟩:=h
 have w1:=of_decide_eq_true h1
 have w3:=of_decide_eq_true h3
 have w4:=of_decide_eq_true h4
 have w5:=of_decide_eq_true h5
 have w6:=of_decide_eq_true h6
 have w7:=of_decide_eq_true h7
 have w8:=of_decide_eq_true h8
 have hne:d.p.w ≠ d.g.w:=by simpa using h9
 refine ⟨?_,hin.i.i64,⟨hin.pw.i64,hin.pa.i64,hin.pu.i64⟩,⟨hin.gw.i64,hin.ga.i64,hin.gu.i64⟩⟩
 have e1:legE d.p=0:=by unfold legE;rw [if_neg (by omega),if_neg (by omega),if_neg (by omega)]
 have e2:legE d.g=0:=by unfold legE;rw [if_neg (by omega),if_neg (by omega),if_neg (by omega)]
 unfold idE zcg zbg
 rw [if_neg (by omega),if_neg (by simp only;omega),if_neg (by simp only;omega),if_neg hne,if_neg (by simp)]
theorem zrz (i c:Int):Small (putC i c):=((zby _).append (zby _)).append (zby _)
theorem zhe (i c:Int):(putC i c).length ≤ 27:=by
 have h1:=zba 3
 have h2:=zba i
 have h3:=zba c
 unfold putC
 simp only [List.length_append]
 omega
theorem zjo (l:Lg):Small (legI l):=((zby _).append (zby _)).append (zby _)
theorem ziq {m:Msg} (h:Small m.h.l):Small (zbi m):=(((zby _).append (zby _)).append ((zjo _).append (zjo _))).append h
theorem zb5 (m:Msg):(zbi m).length ≤ 104:=by
 have h1:=zba m.k
 have h2:=zba m.i
 have h3:=zg9 m.p
 have h4:=zg9 m.g
 have h5:=m.h.hl
 unfold zbi zdx
 simp only [List.length_append]
 omega
end
section
open Sx (Ab DW Turns Did Foot MapIs DiskAt FootD)
theorem zpz:∀ (n:Nat) (l:List Int),l.Nodup→(∀ x ∈ l,0 ≤ x∧x < n)→l.length ≤ n
 | 0,l,_,hb=>by
  cases l with
  | nil=>exact zadw _
  | cons x r=>have:=hb x (List.mem_cons_self ..);omega
 | n + 1,l,hn,hb=>by
  have h1:=zpz n (l.erase (n:Int)) (hn.erase _) fun x hx=>by
   have h2:=hb x (List.mem_of_mem_erase hx)
   have h3:x ≠ n:=fun e=>by
    subst e
    exact hn.not_mem_erase hx
   omega
  have h2:l.length ≤ (l.erase (n:Int)).length + 1:=by
   rw [List.length_erase]
   split <;> omega
  omega
theorem zyc {lo:List (Int × List Int)} (h:((encA loC lo).map (·.1)).Nodup):(lo.map (·.1)).Nodup:=by
 unfold encA at h
 rw [List.map_map] at h
 have e:lo.map ((fun q:Value × Value=>q.1) ∘ fun p=>(Value.int .i64 p.1,loC p.2))=(lo.map (·.1)).map (Value.int .i64):=by rw [List.map_map];rfl
 rw [e] at h
 exact List.Pairwise.of_map (S:=fun x y:Value=>x ≠ y) (Value.int .i64) (fun a b hab e=>hab (by rw [e])) h
def crash0 (A:Ab):Ab:={ A with loose:=fun _=>none,off:=false,left:=-1 }
end
section
open Sx (Ab DW Turns Did Foot MapIs DiskAt FootD getL ptV ints findIx keyInt disk_cell mapIs_find zel zds zfh)
def kept (A:Ab) (k:Int) (x:Option (List Nat)):Ab:={ A with last:=fun j=>if j=k then x else A.last j }
theorem zp0 {w w':World} {A:Ab} {bd r1 r2:Nat} {bl:Int→Option (Option Nat)} (h:DiskAt w A bd r1 r2 bl) (k:Int) (v:Option Nat) (x:Option (List Nat))
  (hm:∃ es c l,w'.heap[r1]?=some (.map es c)∧MapIs (prs es) l∧MapKept.Stamped es c∧(∀ p ∈ l,IntK p.1)∧∀ j,getL l (.int .i64 j)=if j=k then some (ptV v) else (bl j).map ptV)
  (hv:(v=none∧x=none) ∨ ∃ b l,v=some b∧x=some l∧w.heap.size ≤ b∧l.length=128∧SecAt w' b (ints l))
  (hk:∀ i,i < w.heap.size→i ≠ r1→w'.heap[i]?=w.heap[i]?):DiskAt w' (kept A k x) bd r1 r2 (fun j=>if j=k then some v else bl j):=by
 obtain ⟨n1,n2,n3⟩:=h.nmap
 have lb:bd < w.heap.size:=(zadu h.ob).1
 refine ⟨(hk bd lb n1).trans h.ob,?_,?_,fun j b hb=>?_,fun j hb=>?_,fun j hb=>?_,h.lo,h.ne,fun j j' b hb hb'=>?_,h.rng⟩
 ·obtain ⟨es,c,l,e1,e2,e3,e4,e5⟩:=hm
  refine ⟨es,c,l,e1,e2,e3,e4,fun j=>?_⟩
  rw [e5 j]
  split <;> rfl
 ·obtain ⟨es,c,l,e,r⟩:=h.m2
  exact ⟨es,c,l,(hk r2 (zadu e).1 (Ne.symm h.ne)).trans e,r⟩
 ·have hb:(if j=k then some v else bl j)=some (some b):=hb
  show b ≠ bd∧∃ l,(if j=k then x else A.last j)=some l∧_
  by_cases e:j=k
  ·rw [if_pos e] at hb
   cases hb
   rw [if_pos e]
   rcases hv with ⟨q,_⟩ | ⟨b',l,q,rfl,q2,q3,q4⟩
   ·cases q
   ·cases q
    exact ⟨by omega,l,rfl,q3,q4⟩
  ·rw [if_neg e] at hb
   rw [if_neg e]
   obtain ⟨q1,l,q2,q3,q4⟩:=h.sec j b hb
   exact ⟨q1,l,q2,q3,Sx.secat_heap q4 (hk b (Sx.secat_lt q4 q3) (n3 j b hb).1)⟩
 ·have hb:(if j=k then some v else bl j)=some none:=hb
  show (if j=k then x else A.last j)=none
  by_cases e:j=k
  ·rw [if_pos e] at hb
   cases hb
   rw [if_pos e]
   rcases hv with ⟨_,q⟩ | ⟨b',l,q,_⟩
   ·exact q
   ·cases q
  ·rw [if_neg e] at hb
   rw [if_neg e]
   exact h.torn j hb
 ·have hb:(if j=k then some v else bl j)=none:=hb
  show (if j=k then x else A.last j)=_
  by_cases e:j=k
  ·rw [if_pos e] at hb;cases hb
  ·rw [if_neg e] at hb
   rw [if_neg e]
   exact h.bare j hb
 ·have hb:(if j=k then some v else bl j)=some (some b):=hb
  have hb':(if j'=k then some v else bl j')=some (some b):=hb'
  have hlt:∀ i,bl i=some (some b)→b < w.heap.size:=fun i hi=>h.size (x:=0) (.inr (.inr (.inr ⟨i,hi⟩)))
  have hge:some v=some (some b)→w.heap.size ≤ b:=fun e=>by
   cases e
   rcases hv with ⟨q,_⟩ | ⟨b',l,q,_,q2,_⟩
   ·cases q
   ·cases q;exact q2
  by_cases e:j=k <;> by_cases e':j'=k
  ·rw [e,e']
  ·rw [if_pos e] at hb;rw [if_neg e'] at hb'
   have:=hlt _ hb';have:=hge hb;omega
  ·rw [if_neg e] at hb;rw [if_pos e'] at hb'
   have:=hlt _ hb;have:=hge hb';omega
  ·rw [if_neg e] at hb;rw [if_neg e'] at hb'
   exact h.inj _ _ _ hb hb'
theorem zu7 {l1:List (Value × Value)} {bl:Int→Option (Option Nat)} (h:∀ j,getL l1 (.int .i64 j)=(bl j).map ptV) (k:Int) (v:Option Nat) (j:Int):getL (Sx.putL l1 (.int .i64 k) (ptV v)) (.int .i64 j)=if j=k then some (ptV v) else (bl j).map ptV:=by
 rw [zds]
 by_cases e:j=k
 ·rw [if_pos e,if_pos (by rw [e])]
 ·rw [if_neg e,if_neg (fun q=>e (by cases q;rfl)),h j]
theorem zu8 {l1:List (Value × Value)} (h:∀ p ∈ l1,IntK p.1) (k:Int) (v:Value):∀ p ∈ Sx.putL l1 (.int .i64 k) v,IntK p.1:=fun p hp=>by
 rcases zel p hp with rfl | hp
 ·exact ⟨k,rfl⟩
 ·exact h p hp
theorem zyd {w:World} {A:Ab} {bd r1 r2:Nat} {bl:Int→Option (Option Nat)} (h:DiskAt w A bd r1 r2 bl) {k:Int} {l:List Nat} (hl:A.loose k=some l):
  Calls Tryz.prog 97 #[.pointer (some ⟨bd,0,none⟩),.int .i64 k] w fun en w'=>en=.returned (.tuple #[])∧∃ bl',DiskAt w' (kept A k (some l)) bd r1 r2 bl'∧(∀ j b,bl' j=some (some b)→bl j=some (some b) ∨ w.heap.size ≤ b)∧Turns (fun i _=>i=r1) w w':=by
 obtain ⟨es1,c1,l1,a1,a2,a3,a4,a5⟩:=h.m1
 obtain ⟨es2,c2,lo,b1,b2,b3,b4⟩:=h.m2
 have hlo:getA lo k=some (ints l):=by rw [b4 k,hl];rfl
 have hlen:=(h.lo k l hl).1
 obtain ⟨j,hf⟩:∃ j,findIx (.int .i64 k) es2.toList 0=some (j,loC (ints l)):=by
  have h1:=mapIs_find (c:=id) (es:=es2.toList) (l:=encA loC lo) (by rw [show (encA loC lo).map (fun p=>(p.1,id p.2))=encA loC lo from List.map_id _];exact b2) (.int .i64 k)
  rw [zcb,hlo] at h1
  cases hq:findIx (.int .i64 k) es2.toList 0 with
  | none=>rw [hq] at h1;cases h1
  | some p=>rw [hq] at h1;obtain ⟨j,u⟩:=p;exact ⟨j,by rw [show u=loC (ints l) from Option.some.inj h1]⟩
 refine (zgj (disk_cell h 0).1 (disk_cell h 1).1 a1 b1 a2 (zbm a2 a4) a3 (zbm b2 (zcc loC lo)) hf (by rw [zfh];exact hlen)).mono ?_
 rintro en w' ⟨rfl,b,es',c',g1,g2,g3,g4,g5,g6,g7⟩
 refine ⟨rfl,_,zp0 h k (some b) (some l) ⟨es',c',_,g3,g4,g5,zu8 a4 k _,zu7 a5 k (some b)⟩ (.inr ⟨b,l,rfl,rfl,g1,hlen,g6⟩) (fun i hi hn=>g7.block i hi fun _ e=>hn e),fun j b' hb=>?_,⟨g7.os,g7.tape,g7.output,g7.size,fun i hi hn=>g7.block i hi hn⟩⟩
 have hb:(if j=k then some (some b) else bl j)=some (some b'):=hb
 split at hb
 ·cases hb;exact .inr g1
 ·exact .inl hb
theorem torn_w {w:World} {A:Ab} {bd r1 r2:Nat} {bl:Int→Option (Option Nat)} (h:DiskAt w A bd r1 r2 bl) (k:Int):
  ∃ w',(Instr.mapUpdate 132 (.map (some r1)) (.int .i64 k) (.pointer none)).run Tryz.prog w=.ok () w'∧∃ bl',DiskAt w' (kept A k none) bd r1 r2 bl'∧(∀ j b,bl' j=some (some b)→bl j=some (some b) ∨ w.heap.size ≤ b)∧Turns (fun i _=>i=r1) w w':=by
 obtain ⟨es1,c1,l1,a1,a2,a3,a4,a5⟩:=h.m1
 obtain ⟨es',c',hup,hM,hst⟩:=zb4 (P:=Tryz.prog) (t:=132) Tryz.underlying132 (keyInt Tryz.underlying3) a1 a2 a3 (v:=ptV none) ⟨k,rfl⟩ (zbm a2 a4)
 refine ⟨_,hup,_,zp0 h k none none ⟨es',c',_,(MapKept.heap_set a1).1,hM,hst,zu8 a4 k _,zu7 a5 k none⟩ (.inl ⟨rfl,rfl⟩) (fun i hi hn=>(MapKept.heap_set a1).2 i hn),fun j b hb=>?_,⟨rfl,rfl,rfl,by simp,fun i hi hn=>(MapKept.heap_set a1).2 i (hn 0)⟩⟩
 have hb:(if j=k then some none else bl j)=some (some b):=hb
 split at hb
 ·cases hb
 ·exact .inl hb
end
section
open Sx (Ab DW Turns Did Foot)
attribute [local go_sem ↓] zad
attribute [local go_sem] zaf zai zaj zal zab zah zac zak zae dm_t zkm
structure Dae0 (k:Bool) (w:World) (D:Dm):Prop where
 row:w.heap[D.xb]?=some (.cells (dmC D.t D.sv D.jb D.bk k) 190)
 sd:Sl w (some ⟨D.sb,0,none⟩) D.seed.length D.c (bts D.seed)
 sl:D.sb < w.heap.size
 jd:JD w D.F D.dv D.A D.jb D.j
 bok:BookAt w D.bk D.mb D.M
 f1:∀ i,D.own i→i ≠ D.jb∧∀ x,¬ D.F i x
 f2:¬ zc5 D.bk D.mb D.M D.xb 0∧¬ zc5 D.bk D.mb D.M D.sb 0∧D.xb ≠ D.sb
theorem Dae.d0 {w:World} {D:Dm} (h:Dae w D):Dae0 false w D:=⟨h.row,h.sd,h.sl,h.jd,h.bok,h.f1,h.f2⟩
theorem Dae0.dae {w:World} {D:Dm} (h:Dae0 false w D) (hh:Holds D.A D.j D.R) (hc:D.cal=true→Calm D.A):Dae w D:=⟨h.row,h.sd,h.sl,h.jd,hh,hc,h.bok,h.f1,h.f2⟩
section
variable {w w':World} {D:Dm} {k:Bool}
theorem Dae0.lt (h:Dae0 k w D) {i:Nat} (hi:D.own i):i < w.heap.size:=by
 rcases hi with rfl | rfl | hi
 ·exact (zadu h.row).1
 ·exact h.sl
 ·exact h.bok.lt hi
theorem Dae0.all_lt (h:Dae0 k w D) {i:Nat} (hi:D.all i):i < w.heap.size:=by
 rcases hi with hi | rfl | ⟨x,hx⟩
 ·exact h.lt hi
 ·exact h.jd.lt
 ·exact h.jd.dw.lt hx
theorem Dae0.keepB (h:Dae0 k w D) (hk:∀ i,D.all i→w'.heap[i]?=w.heap[i]?) (hz:w.heap.size ≤ w'.heap.size):Dae0 k w' D:=
 ⟨(hk _ (.inl (.inl rfl))).trans h.row,h.sd.block (hk _ (.inl (.inr (.inl rfl)))),Nat.lt_of_lt_of_le h.sl hz,⟨h.jd.dw.keepB fun i hx=>hk i (.inr (.inr hx)),(hk _ (.inr (.inl rfl))).trans h.jd.jr,h.jd.ap⟩,h.bok.keepB fun i x hi=>hk i (.inl (.inr (.inr hi))),h.f1,h.f2⟩
theorem Dae0.below (h:Dae0 k w D) (hw:Below w.heap.size w w'):Dae0 k w' D:=h.keepB (fun i hi=>hw.block i (h.all_lt hi)) hw.size
theorem Dae0.went (h:Dae0 k w D) {F':Foot} {A':Ab} {j':Jr} {R':List (Int × List Nat)} {c:Bool} (hj:JD w' F' D.dv A' D.jb j') (hw:Went D.F D.jb w F' w'):Dae0 k w' { D with F:=F',A:=A',j:=j',R:=R',cal:=c }:=by
 have hk:∀ i,D.own i→w'.heap[i]?=w.heap[i]?:=fun i hi=>hw.block i (h.lt hi) (h.f1 i hi).1 (h.f1 i hi).2
 refine ⟨(hk _ (.inl rfl)).trans h.row,h.sd.block (hk _ (.inr (.inl rfl))),Nat.lt_of_lt_of_le h.sl hw.size,hj,h.bok.keepB fun i x hi=>hk i (.inr (.inr hi)),fun i hi=>⟨(h.f1 i hi).1,fun x hx=>?_⟩,h.f2⟩
 rcases hw.fb i x hx with h1 | h1
 ·exact (h.f1 i hi).2 x h1
 ·have:=h.lt hi
  omega
theorem Trans.went' {F':Foot} {A':Ab} {j':Jr} {R':List (Int × List Nat)} {c:Bool} (hw:Went D.F D.jb w F' w'):Trans w D w' { D with F:=F',A:=A',j:=j',R:=R',cal:=c }:=
 have h:=Trans.went (D:=D) (A':=A') (j':=j') (R':=R') hw
 ⟨h.os,h.tape,h.output,h.size,h.keep,rfl,rfl,rfl,rfl,rfl⟩
theorem Dae0.kill (h:Dae0 false w D):Dae0 true (w.setCell ⟨D.xb,12,none⟩ (.bool true)) D:=by
 have hx:∀ i,D.xb ≠ i→(w.setCell ⟨D.xb,12,none⟩ (.bool true)).heap[i]?=w.heap[i]?:=fun i hi=>by rw [zag,if_neg hi]
 have fx:=h.f1 D.xb (.inl rfl)
 refine ⟨?_,h.sd.block (hx _ h.f2.2.2),by have:=h.sl;simpa [World.setCell] using this,⟨h.jd.dw.keepB fun i ⟨x,q⟩=>hx i fun e=>fx.2 x (e ▸ q),(hx _ fx.1).trans h.jd.jr,h.jd.ap⟩,h.bok.keepB fun i x hi=>hx i fun e=>h.f2.1 (e ▸ hi),h.f1,h.f2⟩
 rw [zag,if_pos rfl,h.row]
 rfl
end
end
section
theorem zp1 {f:FuncId} {args:Array Value} {w:World} {v:Value} (h:Calls Tryz.prog f args w fun e w'=>e=.returned v∧w'=w):Calls Tryz.prog f args w (Ret v w):=
 zb0 (h.mono fun _ _ ⟨he,e⟩=>⟨he,by rw [e];exact Below.refl _ _⟩)
theorem zfd {P:Program} {t e:TypeId} {size:Nat} (E:Elem P t e size) {ops:Array Oper} {o:Oper} {a:Act} {w:World} {K:Act→World→Prop} {Q:Exit→Act→World→Prop} {X:Prop} (hgd:o.guard=none) (s x:Operand)
  (ho:o.op=.call { callee:=.builtin .append,args:=#[s,x],argTypes:=#[t,t] })
  {B:Nat} {v:Value} {n:Nat} {xs:List Value} (hs:a.eval s=v) (hown:w.ownsRow B e size v n xs)
  {ad:Addr} {m c:Nat} {news:List Value} (hx:a.eval x=.slice (some ad) m c) (hl:news.length=m * size)
  (hnews:∀ (j:Nat) u,news[j]?=some u→w.cell? (ad.add j)=some u) (h1:∀ u ∈ news,u.oneCell'=true)
  (hm:0 < m) (h63:n + m ≤ 1099511627776) (hB:B ≤ w.heap.size)
  (h:∀ g cap w',w'.ownsRow B e size (.slice (some ⟨g,0,none⟩) (n + m) cap) (n + m) (xs ++ news)→w.grownBy w' v.ownBlock→(v.ownBlock=some g ∨ g=w.heap.size)→g < w'.heap.size→K (a.put o.dst (.slice (some ⟨g,0,none⟩) (n + m) cap)) w'):
  if Region.wanted o (yielded ops a.tmps)=true then Oper.wp P o a w K Q else X:=by
 obtain ⟨hu,hpos,i,z,hi,hz,hsz,hby,hzs⟩:=E
 refine step_append_lies w hgd s x t ho B e i z size i.bytes hu hi hz hsz rfl hzs hpos v n xs hs hown ad m c news hx hl hnews h1 hm (by simp only [maxLen];omega) ?_ hB w.heap.size rfl h
 calc (n + m) * i.bytes ≤ 1099511627776 * 64:=Nat.mul_le_mul h63 hby
  _ ≤ 140737488355328:=by decide
structure Comp (w w':World) (P P':Nat→Prop):Prop where
 os:w'.os=w.os
 tape:w'.tape=w.tape
 output:w'.output=w.output
 size:w.heap.size ≤ w'.heap.size
 keep:∀ i,i < w.heap.size→¬ P i→w'.heap[i]?=w.heap[i]?∧¬ P' i
theorem Comp.below {w w':World} {P:Nat→Prop} (h:Below w.heap.size w w'):Comp w w' P P:=⟨h.os,h.tape,h.output,h.size,fun i hi hn=>⟨h.block i hi,hn⟩⟩
theorem Comp.trans {w w1 w2:World} {P P1 P2:Nat→Prop} (h:Comp w w1 P P1) (k:Comp w1 w2 P1 P2):Comp w w2 P P2:=
 ⟨k.os.trans h.os,k.tape.trans h.tape,k.output.trans h.output,Nat.le_trans h.size k.size,fun i hi hn=>by
  obtain ⟨h1,h2⟩:=h.keep i hi hn
  obtain ⟨k1,k2⟩:=k.keep i (Nat.lt_of_lt_of_le hi h.size) h2
  exact ⟨k1.trans h1,k2⟩⟩
end
section
open Sx (findIx KeyT getL putL MapIs mapIs_find zel zds)
def wayV (a b:Int):Value:=.agg #[.int .i64 a,.int .i64 b]
theorem zp2 {a b c d:Int} (h:wayV a b=wayV c d):a=c∧b=d:=by
 simp [wayV] at h
 exact h
theorem way_eq (a b c d:Int) (w:World):(Op.equal 102 (wayV a b) (wayV c d)).run Tryz.prog w=.ok (a == c && b == d) w:=by
 have h3:Tryz.prog.plainKey 3=true:=by kernel_rfl
 have c3:Tryz.prog.cellsOf 3=1:=by kernel_rfl
 obtain ⟨i,hi⟩:=info_of_underlying (P:=Tryz.prog) Tryz.underlying3
 show (Op.equalIn (9998 + 1 + 1) 102 (.agg #[.int .i64 a,.int .i64 b]) (.agg #[.int .i64 c,.int .i64 d])).run Tryz.prog w=_
 rw [run_equalIn_array w (9998 + 1) _ _ Tryz.underlying102 hi,c3]
 have p0:∀ x y:Int,(part 3 #[.int .i64 x,.int .i64 y] 0).run Tryz.prog w=.ok (.int .i64 x) w:=fun x y=>run_part_plain w h3 rfl
 have p1:∀ x y:Int,(part 3 #[.int .i64 x,.int .i64 y] 1).run Tryz.prog w=.ok (.int .i64 y) w:=fun x y=>run_part_plain w h3 rfl
 have e0:∀ x y:Int,(Op.equalIn (9998 + 1) 3 (.int .i64 x) (.int .i64 y)).run Tryz.prog w=.ok (x == y) w:=fun x y=>by
  rw [run_equalIn_int w 9998 3 .i64 .i64 x y Tryz.underlying3]
 show (Op.eqItems (9998 + 1) 3 1 #[.int .i64 a,.int .i64 b] #[.int .i64 c,.int .i64 d] [0,1]).run Tryz.prog w=_
 cases h1:(a == c) <;> cases h2:(b == d) <;> simp [Op.eqItems,p0,p1,e0,h1,h2]
theorem zp3 (a b:Int):∀ (es:List MapEntry) (i:Nat) (w:World),(∀ e ∈ es,∃ c d,e.key=wayV c d)→(Instr.findAsking 102 (wayV a b) es i).run Tryz.prog w=.ok (findIx (wayV a b) es i) w
 | [],_,_,_=>rfl
 | e :: es,i,w,h=>by
  obtain ⟨c,d,hk⟩:=h e (List.mem_cons_self ..)
  have ih:=zp3 a b es (i + 1) w fun x hx=>h x (List.mem_cons_of_mem _ hx)
  unfold Instr.findAsking findIx
  rw [Sem.run_bind,hk,way_eq]
  by_cases q:a=c∧b=d
  ·obtain ⟨rfl,rfl⟩:=q
   simp [hk]
  ·have hn:(a == c && b == d)=false:=by simpa using q
   have hv:¬ wayV a b=wayV c d:=fun e=>q (zp2 e)
   simp [hn,hv,hk,ih]
theorem zp4:KeyT Tryz.prog 102 (fun v=>∃ a b,v=wayV a b) where
 chk:=by rintro em v w ⟨a,b,rfl⟩;cases em <;> kernel_rfl
 find:=by
  rintro v es w ⟨a,b,rfl⟩ h
  unfold Instr.findKey
  rw [Sem.run_bind,run_underlying Tryz.underlying102,Result.andThen_ok]
  cases es with
  | nil=>rfl
  | cons e es=>
   obtain ⟨c,d,hk⟩:=h e (List.mem_cons_self ..)
   have:Instr.findNow (.array 2 3) (wayV a b) (e :: es) 0=none:=by
    unfold Instr.findNow
    rw [hk]
    rfl
   rw [this]
   exact zp3 a b (e :: es) 0 w h
 bits:=by rintro v ⟨a,b,rfl⟩;simp [wayV,Instr.sameBits]
 conc:=by rintro v h ⟨a,b,rfl⟩;simp [wayV,Sx.concE,Sx.concA,Sx.concC]
structure CutAt (w:World) (m:Nat) (f:Int→Int→Bool):Prop where
 at_:∃ es clock l,w.heap[m]?=some (.map es clock)∧MapIs (es.toList.map fun e=>(e.key,e.val)) l∧MapKept.Stamped es clock∧(∀ e ∈ es.toList,∃ a b,e.key=wayV a b)∧∀ a b,(getL l (wayV a b)).getD (.bool false)=.bool (f a b)
theorem CutAt.lt {w:World} {m:Nat} {f:Int→Int→Bool} (h:CutAt w m f):m < w.heap.size:=by
 obtain ⟨_,_,_,h,_⟩:=h.at_
 exact (zadu h).1
theorem CutAt.keep {w w':World} {m:Nat} {f:Int→Int→Bool} (h:CutAt w m f) (e:w'.heap[m]?=w.heap[m]?):CutAt w' m f:=by
 obtain ⟨es,c,l,h1,h2⟩:=h.at_
 exact ⟨es,c,l,e.trans h1,h2⟩
theorem CutAt.none {w:World} {m:Nat} (h:w.heap[m]?=some (.map #[] 0)):CutAt w m (fun _ _=>false):=by
 refine ⟨#[],0,[],h,⟨List.Perm.nil,List.nodup_nil⟩,?_,fun e h=>by simp at h,fun a b=>rfl⟩
 constructor <;> simp
theorem zp5 {w:World} {m:Nat} {f:Int→Int→Bool} (h:CutAt w m f) (a b:Int):(Instr.lookup 106 (.map (some m)) (.agg #[.int .i64 a,.int .i64 b]) false).run Tryz.prog w=.ok (.bool (f a b)) w:=by
 obtain ⟨es,c,l,h1,h2,_,h3,h4⟩:=h.at_
 have hM:MapIs (es.toList.map fun e=>(e.key,e.val)) (l.map fun p=>(p.1,id p.2)):=by rw [show l.map (fun p=>(p.1,id p.2))=l from List.map_id _];exact h2
 have q:=mapIs_find hM (wayV a b)
 have h4:=h4 a b
 cases hf:findIx (wayV a b) es.toList 0 with
 | none=>
  rw [hf] at q
  have hg:getL l (wayV a b)=none:=by simpa using q.symm
  rw [hg] at h4
  have h4:Value.bool false=.bool (f a b):=h4
  rw [← h4]
  have hget:=MapKept.run_getObj_map (P:=Tryz.prog) h1
  have hfi:=zp4.find (wayV a b) es.toList w ⟨a,b,rfl⟩ h3
  rw [hf] at hfi
  have zv:(zeroValue 4).run Tryz.prog w=.ok (.bool false) w:=by kernel_rfl
  have ck:=zp4.chk es.isEmpty (wayV a b) w ⟨a,b,rfl⟩
  show (Instr.lookup 106 (.map (some m)) (wayV a b) false).run Tryz.prog w=_
  simp [Instr.lookup,run_underlying Tryz.underlying106,hget,go_sem,ck,hfi,zv]
 | some p=>
  obtain ⟨j,u⟩:=p
  rw [hf] at q
  have hg:getL l (wayV a b)=some u:=by simpa using q.symm
  rw [hg] at h4
  have h4:u=.bool (f a b):=h4
  subst h4
  exact ze4 (P:=Tryz.prog) (t:=106) Tryz.underlying106 zp4 h1 ⟨a,b,rfl⟩ h3 hf
theorem zacp {w:World} {m:Nat} {f:Int→Int→Bool} (h:CutAt w m f) (a b:Int) (v:Bool):∃ es c,(Instr.mapUpdate 106 (.map (some m)) (.agg #[.int .i64 a,.int .i64 b]) (.bool v)).run Tryz.prog w=.ok () { w with heap:=w.heap.setIfInBounds m (.map es c) }∧
  CutAt { w with heap:=w.heap.setIfInBounds m (.map es c) } m (fun x y=>if x=a∧y=b then v else f x y):=by
 have hlt:=h.lt
 obtain ⟨es,c,l,h1,h2,h5,h3,h4⟩:=h.at_
 obtain ⟨es',c',g1,g2,g3⟩:=zb4 (P:=Tryz.prog) (t:=106) Tryz.underlying106 zp4 h1 h2 h5 (v:=.bool v) ⟨a,b,rfl⟩ h3
 refine ⟨es',c',g1,es',c',Sx.putL l (wayV a b) (.bool v),by simp [hlt],g2,g3,fun e he=>?_,fun x y=>?_⟩
 ·have hm:(e.key,e.val) ∈ es'.toList.map fun e=>(e.key,e.val):=List.mem_map.2 ⟨e,he,rfl⟩
  have hm:=g2.1.subset hm
  rcases zel _ hm with q | q
  ·exact ⟨a,b,by injection q⟩
  ·have hq:=h2.1.symm.subset q
   obtain ⟨e0,he0,e1⟩:=List.mem_map.1 hq
   injection e1 with e1
   rw [← e1]
   exact h3 e0 he0
 ·rw [zds]
  by_cases q:x=a∧y=b
  ·obtain ⟨rfl,rfl⟩:=q
   simp
  ·have hv:¬ wayV x y=wayV a b:=fun e=>q (zp2 e)
   rw [if_neg hv,if_neg q]
   exact h4 x y
end
section
structure Lt where
 f:Int
 t:Int
 a:Option Addr
 c:Nat
 l:List Nat
def Lt.cells (x:Lt):List Value:=[.int .i64 x.f,.int .i64 x.t,.slice x.a x.l.length x.c]
def ltC (L:List Lt):List Value:=L.flatMap Lt.cells
structure Nt where
 nb:Nat
 mc:Nat
 B:Nat
 nodes:Int
 ra:Option Addr
 rc:Nat
 L:List Lt
 n1:Int
 n2:Int
 n3:Int
 n4:Int
 cut:Int→Int→Bool
def ntC (nodes:Int) (ra:Option Addr) (rn rc mc:Nat) (a b c d:Int):Array Value:=#[.int .i64 nodes,.slice ra rn rc,.map (some mc),.int .i64 a,.int .i64 b,.int .i64 c,.int .i64 d]
def Nt.cells (X:Nt):Array Value:=ntC X.nodes X.ra X.L.length X.rc X.mc X.n1 X.n2 X.n3 X.n4
def Nt.rb (X:Nt) (i:Nat):Prop:=∃ o,X.ra=some ⟨i,o,none⟩
def Nt.all (X:Nt) (i:Nat):Prop:=i=X.nb ∨ i=X.mc ∨ X.rb i ∨ ∃ x ∈ X.L,∃ o,x.a=some ⟨i,o,none⟩
structure NetAt (w:World) (X:Nt):Prop where
 row:w.heap[X.nb]?=some (.cells X.cells 108)
 cuts:CutAt w X.mc X.cut
 own:w.ownsRow X.B 120 3 (.slice X.ra X.L.length X.rc) X.L.length (ltC X.L)
 bod:∀ x ∈ X.L,Sl w x.a x.l.length x.c (bts x.l)
 lt:∀ x ∈ X.L,∀ k o,x.a=some ⟨k,o,none⟩→k < w.heap.size∧k ≠ X.nb∧¬ X.rb k
 nr:¬ X.rb X.nb∧¬ X.rb X.mc
 bB:X.B ≤ w.heap.size
theorem NetAt.all_lt {w:World} {X:Nt} (h:NetAt w X) {i:Nat} (hi:X.all i):i < w.heap.size:=by
 rcases hi with rfl | rfl | ⟨o,e⟩ | ⟨x,hx,o,e⟩
 ·exact (zadu h.row).1
 ·exact h.cuts.lt
 ·have ho:=h.own
  rw [e] at ho
  exact (zem ho).2
 ·exact (h.lt x hx i o e).1
theorem NetAt.keepB {w w':World} {X:Nt} (h:NetAt w X) (hz:w.heap.size ≤ w'.heap.size) (hk:∀ i,X.all i→w'.heap[i]?=w.heap[i]?):NetAt w' X:=by
 refine ⟨(hk _ (.inl rfl)).trans h.row,h.cuts.keep (hk _ (.inr (.inl rfl))),zcd h.own fun k hkb=>hk k (.inr (.inr (.inl ?_))),fun x hx=>?_,fun x hx k o e=>?_,h.nr,Nat.le_trans h.bB hz⟩
 ·have ho:=h.own
  cases hra:X.ra with
  | none=>rw [hra] at hkb;cases hkb
  | some ad=>
   rw [hra] at ho hkb
   rcases ho.2 with ⟨hv,_⟩ | ⟨g,cp,cur,hv,_⟩
   ·cases hv
   ·cases hv
    obtain rfl:g=k:=by simpa [Value.ownBlock] using hkb
    exact ⟨0,hra⟩
 ·have hs:=h.bod x hx
  rcases hs.cells with e | ⟨b,o,e,hc⟩
  ·exact ⟨hs.len,hs.le,hs.nil,.inl e⟩
  ·exact ⟨hs.len,hs.le,hs.nil,.inr ⟨b,o,e,fun j y hj=>(Sx.cell_block (hk b (.inr (.inr (.inr ⟨x,hx,o,e⟩)))) _).1.trans (hc j y hj)⟩⟩
 ·obtain ⟨h1,h2⟩:=h.lt x hx k o e
  exact ⟨Nat.lt_of_lt_of_le h1 hz,h2⟩
theorem NetAt.mn {w:World} {X:Nt} (h:NetAt w X):X.mc ≠ X.nb:=fun e=>by
 obtain ⟨_,_,_,h1,_⟩:=h.cuts.at_
 have h2:=h.row
 rw [e,h2] at h1
 cases h1
theorem NetAt.below {w w':World} {X:Nt} (h:NetAt w X) (hb:Below w.heap.size w w'):NetAt w' X:=h.keepB hb.size fun i hi=>hb.block i (h.all_lt hi)
section
variable (nodes:Int) (ra:Option Addr) (rn rc mc:Nat) (a b c d:Int)
end
theorem zbj (X:Nt):X.cells=#[.int .i64 X.nodes,.slice X.ra X.L.length X.rc,.map (some X.mc),.int .i64 X.n1,.int .i64 X.n2,.int .i64 X.n3,.int .i64 X.n4]:=rfl
attribute [local go_sem ↓] zad
attribute [local go_sem] zaf zai zaj zal zab zah zac zak zae Sx.run_mk
theorem zacq {n:Int} (h1:(n < 1)=False) (h2:(n > 32)=False) (w:World):Calls Tryz.prog 33 #[.int .i64 n] w fun e w'=>∃ X,e=.returned (.pointer (some ⟨X.nb,0,none⟩))∧NetAt w' X∧X.nodes=n∧(X.L=[]∧X.cut=fun _ _=>false)∧Below w.heap.size w w'∧∀ i,X.all i→w.heap.size ≤ i:=by
 go_enter Tryz.func33,Tryz.ntmps33
 go_wp2
 go_ret
 have b1:=(Below.refl w.heap.size w).alloc (zadw _) (.map #[] 0)
 have s1:(w.alloc (.map #[] 0)).heap.size=w.heap.size + 1:=by simp
 refine ⟨⟨w.heap.size + 1,w.heap.size,w.heap.size,n,none,0,[],0,0,0,0,fun _ _=>false⟩,rfl,⟨?_,?_,World.ownsRow_nil _ _ _ _,fun x hx=>(by cases hx),fun x hx=>(by cases hx),⟨fun h=>(by obtain ⟨o,h⟩:=h;cases h),fun h=>(by obtain ⟨o,h⟩:=h;cases h)⟩,by simp;omega⟩,rfl,⟨rfl,rfl⟩,b1.alloc b1.size _,fun i hi=>?_⟩
 ·have:=heap_alloc_new (w.alloc (.map #[] 0)) (.cells (ntC n none 0 0 w.heap.size 0 0 0 0) 108)
  rw [s1] at this
  exact this
 ·refine CutAt.none ?_
  show ((w.alloc (.map #[] 0)).alloc _).heap[w.heap.size]?=_
  rw [(MapKept.heap_alloc _ _).2 _ (by rw [s1];omega)]
  exact heap_alloc_new w _
 ·rcases hi with rfl | rfl | ⟨o,e⟩ | ⟨x,hx,_⟩
  ·exact Nat.le_succ _
  ·exact zadw _
  ·cases e
  ·cases hx
theorem zp6 {ad:Addr} (w:World):Calls Tryz.prog 69 #[.bool false,.pointer (some ad)] w fun e w'=>e=.returned (.bool false)∧w'=w:=by
 go_enter Tryz.func69,Tryz.ntmps69
 go_wp2
 go_ret
 exact ⟨rfl,rfl⟩
theorem zkp {w:World} {b k:Nat} {C:Array Value} {x:Int} (hr:rowOf w b=C) (hs:soft w b=true) (hk:C[k]?=some (.int .i64 x)):Calls Tryz.prog 69 #[.bool true,.pointer (some ⟨b,k,none⟩)] w fun e w'=>e=.returned (.bool true)∧w'=w.setCell ⟨b,k,none⟩ (.int .i64 (wrap64 (x + 1))):=by
 go_enter Tryz.func69,Tryz.ntmps69
 go_wp2
 go_ret
 exact ⟨rfl,rfl⟩
theorem zu9 {w:World} {X:Nt} (h:NetAt w X):Calls Tryz.prog 23 #[.pointer (some ⟨X.nb,0,none⟩)] w fun e w'=>e=.returned (.int .i64 X.L.length)∧w'=w:=by
 have r0:=zaa h.row
 rw [zbj] at r0
 clear h
 go_enter Tryz.func23,Tryz.ntmps23
 go_wp2
 go_ret
 exact ⟨rfl,rfl⟩
end
end Go.Proofs.YthjgiamfaijoeaaGreatDoor
