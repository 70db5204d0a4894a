/- What is proved: parts of the walk and of the plain law. No condition but those each law names. -/
import Derived.Test.YthjgiamfaijoeaaGreatDoorA45
import Derived.Test.YthjgiamfaijoeaaGreatDoorA23
import Derived.Test.YthjgiamfaijoeaaGreatDoorA38
import Derived.Test.YthjgiamfaijoeaaGreatDoorA00
set_option linter.unusedSimpArgs false
set_option linter.unusedVariables false
namespace Go.Proofs.YthjgiamfaijoeaaGreatDoor
open Go.RowKit
set_option maxRecDepth 100000
attribute [local go_sem ↓] zad
attribute [local go_sem] zaf zai zaj zal zab zah zac zak zae Ext.row Ext.soft_ zdb zin
set_option maxHeartbeats 4000000 in
theorem zacu {w:World} {X:Nt} (h:NetAt w X) {k:Nat} {x:Lt} (hk:X.L[k]?=some x) (hn:x.l.length < 1000000) (hlen:X.L.length ≤ 1000000):
  Calls Tryz.prog 32 #[.pointer (some ⟨X.nb,0,none⟩),.int .i64 k] w fun e w'=>e=.returned (.bool true)∧∃ X',NetTo w X w' X'∧X'.says=X.says.eraseIdx k:=by
 have H:=zac8 h
 have HK:=zac8 hk
 have HL:=zac8 hlen
 have i1:(k:Int) < 1000000:=by have:=(List.getElem?_eq_some_iff.1 hk).1;omega
 have LK:=zac8 (zke h hk hn)
 clear h hk hn hlen
 go_enter Tryz.func32,Tryz.ntmps32
 go_wp2_with fail
 refine LK.out.mono ?_
 rintro _ V ⟨ao,c,rfl,hb,_,_⟩
 have HB:=zac8 hb
 clear LK hb
 go_upto_region 2 with (fail)
 have L:=Bx.new V #[.int .i64 x.f,.int .i64 x.t,.slice ao x.l.length c] 120
 generalize V.alloc (.cells #[.int .i64 x.f,.int .i64 x.t,.slice ao x.l.length c] 120)=V4 at L ⊢
 have B4:=zac8 (HB.out.trans (L.below.mono HB.out.size))
 have h4:=H.out.below B4.out
 have rn:=zaa h4.row
 have sn:=zan h4.row
 rw [zbh] at rn
 have O1:=zac8 (zkd (k:=6) (x:=X.n4) rn sn rfl)
 have N5:=NetAt.cnt h4 (k:=6) (v:=.int .i64 (wrap64 (X.n4 + 1))) (a:=X.n1) (b:=X.n2) (c:=X.n3) (d:=wrap64 (X.n4 + 1)) rfl
 clear L HB h4
 go_upto_region 3 with (go_at_call 69;refine O1.out.mono ?_;rintro _ V5 ⟨rfl,rfl⟩)
 have T5:=(NetTo.below H.out B4.out).trans N5
 obtain ⟨g,cur,hra,_⟩:=H.out.at HK.out
 have kl:=(List.getElem?_eq_some_iff.1 HK.out).1
 generalize hX:({ X with n1:=X.n1,n2:=X.n2,n3:=X.n3,n4:=wrap64 (X.n4 + 1) }:Nt)=X1 at N5 T5
 have eX:X1.nb=X.nb∧X1.L=X.L∧X1.ra=X.ra∧X1.rc=X.rc∧X1.mc=X.mc∧X1.B=X.B:=by subst hX;exact ⟨rfl,rfl,rfl,rfl,rfl,rfl⟩
 have rn5:=zaa N5.at'.row
 have sn5:=zan N5.at'.row
 rw [zbh,eX.2.2.2.2.1] at rn5
 rw [eX.1] at rn5 sn5
 have T5:=zac8 T5
 have EX:=zac8 eX
 have NN5:=zac8 N5.at'
 have KL:=zac8 kl
 generalize V4.setCell ⟨X.nb,6,none⟩ (.int .i64 (wrap64 (X.n4 + 1)))=V5 at *
 rw [eX.2.2.1,eX.2.1,hra] at rn5
 have D:=zac8 (zut (w:=V5) (B:=X1.B) (g:=g) (rc:=X1.rc) (L:=X1.L) (i:=k) (by have:=NN5.out.own;rw [eX.2.2.1,hra] at this;exact this) (by rw [eX.2.1];exact kl) (by rw [eX.2.1];exact HL.out))
 clear N5 rn sn O1 eX kl
 go_wp2_with fail
 have D1:=D.out
 rw [EX.out.2.1,show (((k + 1:Nat):Int))=(k:Int) + 1 by omega] at D1
 clear D
 refine D1.mono ?_
 rintro _ W6 ⟨rfl,O6,C,rfl⟩
 obtain ⟨X2,N6,S6⟩:=zux (w:=V5) (X:=X1) (k:=k) (g:=g) (C:=C) NN5.out (by rw [EX.out.2.1];exact KL.out) (by rw [EX.out.2.2.1];exact hra) (by rw [EX.out.2.1];exact O6)
 rw [EX.out.1,EX.out.2.1] at N6
 have nbg:¬ X.nb=g:=fun e=>H.out.nr.1 ⟨0,e ▸ hra⟩
 have sn6:soft (V5.drew.setRow g C) X.nb=true:=by
  have:=zan (w:=V5.drew.setRow g C) (b:=X.nb) ((setRow_other _ _ _ _ nbg).trans (show V5.drew.heap[X.nb]?=_ from EX.out.1 ▸ NN5.out.row))
  exact this
 have rn6:rowOf (V5.drew.setRow g C) X.nb=rowOf V5 X.nb:=by
  unfold rowOf
  rw [setRow_other _ _ _ _ nbg]
  rfl
 rw [rn5] at rn6
 have TT:=zac8 (T5.out.trans N6)
 have SS:=zac8 (S6.trans (congrArg (fun l:List Lt=>(l.map Lt.told).eraseIdx k) EX.out.2.1))
 clear rn5 sn5 O6 N6 D1 S6
 go_wp2
 go_ret
 exact ⟨rfl,X2,TT.out,SS.out⟩
theorem zmr {w:World} {X:Nt} (h:NetAt w X) {a:Int} (a1:(a ≥ 1)=True) (a2:(a ≤ X.nodes)=True):
  Calls Tryz.prog 59 #[.pointer (some ⟨X.nb,0,none⟩),.int .i64 a,.int .i64 a] w fun e w'=>∃ x y:Int,e=.returned (.tuple #[.agg #[.int .i64 x,.int .i64 y],.bool false])∧Below w.heap.size w w':=by
 have r0:=zaa h.row
 rw [zbh] at r0
 have l0:=h.all_lt (.inl rfl)
 have L0:=zac8 l0
 have R0:=zac8 h.row
 clear h
 go_enter Tryz.func59,Tryz.ntmps59
 go_upto_region 1 with (fail)
 have bx:=Bxs.new2 w (#[.pointer (some ⟨X.nb,0,none⟩)]) 50 (#[.int .i64 0,.int .i64 0]) 102;generalize ((w.alloc (.cells (#[.pointer (some ⟨X.nb,0,none⟩)]) 50)).alloc (.cells (#[.int .i64 0,.int .i64 0]) 102))=W at bx ⊢;have rx0:=bx.row' 0 rfl;have sx0:=bx.soft' 0 rfl;(try simp only [Nat.add_zero] at rx0 sx0);have rx1:=bx.row' 1 rfl;have sx1:=bx.soft' 1 rfl;(try simp only [Nat.add_zero] at rx1 sx1);have BX:=zac8 bx;clear bx
 have rn:=zaa ((BX.out.below.block _ L0.out).trans R0.out)
 rw [zbh] at rn
 clear r0 l0
 have hab:(a != a)=false:=by simp
 go_wp2_with fail
 refine (zhb rx0 rn rfl a1 a2).mono ?_
 rintro _ W2 ⟨rfl,rfl⟩
 go_wp2_with fail
 refine (zhb rx0 rn rfl a1 a2).mono ?_
 rintro _ W3 ⟨rfl,rfl⟩
 have B:=(BX.out.below.setCell (p:=⟨w.heap.size + 1,0,none⟩) (Nat.le_add_right w.heap.size 1) (.int .i64 a)).setCell (p:=⟨w.heap.size + 1,1,none⟩) (Nat.le_add_right w.heap.size 1) (.int .i64 a)
 have hc:rowOf ((W3.setCell ⟨w.heap.size + 1,0,none⟩ (.int .i64 a)).setCell ⟨w.heap.size + 1,1,none⟩ (.int .i64 a)) (w.heap.size + 1)=#[.int .i64 a,.int .i64 a]:=by
  rw [zac,if_pos rfl,zac,if_pos rfl,rx1]
  rfl
 go_wp2
 refine bodyPost_ret (zaq (t:=102) rfl Tryz.underlying102 rfl (by kernel_rfl) _ _ (w.heap.size + 1) rfl hc rfl) rfl ?_
 exact ⟨_,_,rfl,B⟩
theorem zyq {w:World} {X:Nt} (h:NetAt w X) {a:Int} (a1:(a ≥ 1)=True) (a2:(a ≤ X.nodes)=True) (v:Bool):
  Calls Tryz.prog 20 #[.pointer (some ⟨X.nb,0,none⟩),.int .i64 a,.int .i64 a,.bool v] w fun e w'=>e=.returned (.bool false)∧Below w.heap.size w w':=by
 have BT:=zac8 (zmr h a1 a2)
 clear h a1 a2
 go_enter Tryz.func20,Tryz.ntmps20
 go_wp2_with fail
 refine BT.out.mono ?_
 rintro _ V ⟨x,y,rfl,hb⟩
 have HB:=zac8 hb
 clear BT hb
 go_upto_region 2 with (fail)
 have B2:=zac8 (HB.out.trans ((zas V (.cells #[.int .i64 x,.int .i64 y] 102)).mono HB.out.size))
 generalize V.alloc (.cells #[.int .i64 x,.int .i64 y] 102)=V2 at B2 ⊢
 go_wp2
 go_ret
 exact ⟨rfl,B2.out⟩
def setW (f:Int→Int→Bool) (a b:Int) (v:Bool):Int→Int→Bool:=fun x y=>if x=min a b∧y=max a b then v else f x y
theorem zyr {w:World} {m:Nat} {es:Array MapEntry} {c:Nat} (h:w.heap[m]?=some (.map es c)) (o:Nat):w.cell? ⟨m,o,none⟩=none:=by
 unfold World.cell?
 simp only [h]
theorem NetAt.cutTo {w:World} {X:Nt} (h:NetAt w X) {f:Int→Int→Bool} {es:Array MapEntry} {c:Nat} (hc:CutAt (putMap w X.mc es c) X.mc f):NetAt (putMap w X.mc es c) { X with cut:=f }∧Comp w (putMap w X.mc es c) X.all X.all:=by
 have ks:∀ i,i ≠ X.mc→(putMap w X.mc es c).heap[i]?=w.heap[i]?:=fun i hi=>zbv _ _ _ _ hi
 have zs:(putMap w X.mc es c).heap.size=w.heap.size:=by simp [putMap]
 have ne:∀ i o y,w.cell? ⟨i,o,none⟩=some y→i ≠ X.mc:=fun i o y e q=>by
  subst q
  obtain ⟨es,c,l,h1,_⟩:=h.cuts.at_
  rw [zyr h1] at e
  cases e
 refine ⟨⟨(ks _ (Ne.symm h.mn)).trans h.row,hc,zcd h.own fun i hi=>ks i fun e=>h.nr.2 (e ▸ (zmb h).1 hi),fun x hx=>?_,fun x hx i o e=>⟨by rw [zs];exact (h.lt x hx i o e).1,(h.lt x hx i o e).2⟩,h.nr,by rw [zs];exact h.bB⟩,rfl,rfl,rfl,by rw [zs];exact zac9 _,fun i hi hn=>⟨ks i fun e=>hn (.inr (.inl e)),hn⟩⟩
 have hs:=h.bod x hx
 rcases hs.cells with e | ⟨i,o,e,hcc⟩
 ·exact ⟨hs.len,hs.le,hs.nil,.inl e⟩
 ·exact ⟨hs.len,hs.le,hs.nil,.inr ⟨i,o,e,fun j y hj=>(Sx.cell_block (ks i (ne i _ y (hcc j y hj))) _).1.trans (hcc j y hj)⟩⟩
theorem Cut_ok {w:World} {X:Nt} (h:NetAt w X) {a b:Int} (a1:(a ≥ 1)=True) (a2:(a ≤ X.nodes)=True) (b1:(b ≥ 1)=True) (b2:(b ≤ X.nodes)=True) (hab:(a != b)=true) (v:Bool):
  Calls Tryz.prog 20 #[.pointer (some ⟨X.nb,0,none⟩),.int .i64 a,.int .i64 b,.bool v] w fun e w'=>e=.returned (.bool true)∧NetAt w' { X with cut:=setW X.cut a b v }∧Comp w w' X.all X.all:=by
 have H:=zac8 h
 have BT:=zac8 (zex h a1 a2 b1 b2 hab)
 clear h a1 a2 b1 b2 hab
 go_enter Tryz.func20,Tryz.ntmps20
 go_wp2_with fail
 refine BT.out.mono ?_
 rintro _ V ⟨x,y,rfl,hxy,hb⟩
 have HB:=zac8 hb
 have XY:=zac8 hxy
 clear BT hb hxy
 go_upto_region 2 with (fail)
 have L:=Bx.new V #[.int .i64 x,.int .i64 y] 102
 have B2:=zac8 (HB.out.trans (L.below.mono HB.out.size))
 have rl:=L.rowOf
 clear HB L
 generalize V.alloc (.cells #[.int .i64 x,.int .i64 y] 102)=V2 at B2 rl ⊢
 have h2:=H.out.below B2.out
 have rn:=zaa h2.row
 rw [zbh] at rn
 have h3:NetAt V2.drew X:=H.out.below B2.out.drew
 obtain ⟨es,c,up,ct⟩:=zab4 h3.cuts x y v
 have N3:=h3.cutTo (es:=es) (c:=c) ct
 have FIN:NetAt (putMap V2.drew X.mc es c) { X with cut:=setW X.cut a b v }∧Comp w (putMap V2.drew X.mc es c) X.all X.all:=by
  have e:(fun x' y'=>if x'=x∧y'=y then v else X.cut x' y')=setW X.cut a b v:=by
   rw [XY.out.1,XY.out.2]
   rfl
  exact ⟨by rw [← e];exact N3.1,(Comp.below B2.out.drew).trans N3.2⟩
 have FN:=zac8 FIN
 clear h2 h3 ct N3 FIN B2
 go_upto_region 3 with (fail)
 (refine wp_region_still_tail 6 (by kernel_rfl) (by kernel_rfl) ?_;simp only [List.take_succ_cons,List.take_zero,List.drop_succ_cons,List.drop_zero];(iterate 6 still_step);refine wpStill_nil ?_)
 go_wp2
 go_ret
 exact ⟨rfl,FN.out⟩
end Go.Proofs.YthjgiamfaijoeaaGreatDoor
namespace Go.Proofs.YthjgiamfaijoeaaGreatDoor
open Go.RowKit
open Sx (Ab DW Turns Did Foot MapIs)
set_option maxRecDepth 100000
attribute [local go_sem ↓] zad
attribute [local go_sem] zaf zai zaj zal zab zah zac zak zae zav za4 Sx.run_mk Ext.row Ext.soft_
section
variable (nb mb:Nat) (n:Cl)
theorem wr_4:(wrC nb mb n)[4]?=some (.int .i64 n.c):=rfl
theorem wr_4g (q:4 < (wrC nb mb n).size):(wrC nb mb n)[4]'q=.int .i64 n.c:=rfl
end
attribute [local go_sem ↓] wr_4
attribute [local go_sem] wr_4g
structure zgx (n:Cl):Prop where
 a:0 ≤ n.a∧n.a ≤ 1073741824
 b:0 ≤ n.b∧n.b ≤ 1073741824
 c:0 ≤ n.c∧n.c ≤ 1073741824
theorem zir {x n:Int} (h:0 ≤ x∧x ≤ 1073741824):wrap64 (1073741824 - x)=1073741824 - x:=by
 unfold wrap64
 omega
theorem zof {w:World} {S:MS} (k n:Int) (hk:k < 0 ∨ 3 ≤ k ∨ (0 ≤ k∧k < 3∧n < 0)):Calls Tryz.prog 27 #[.pointer (some ⟨S.wb,0,none⟩),.int .i64 k,.int .i64 n] w fun e w'=>e=.returned (.bool false)∧w'=w:=by
 by_cases h0:k < 0
 ·have i0:(k < 0)=True:=eq_true h0
  clear h0 hk
  go_enter Tryz.func27,Tryz.ntmps27
  go_wp2
  go_ret
  exact ⟨rfl,rfl⟩
 ·refine zacf k n ?_
  rcases hk with q | q | ⟨q1,q2,q3⟩
  ·exact absurd q h0
  ·exact .inl ⟨eq_false h0,eq_true q⟩
  ·exact .inr ⟨eq_false h0,eq_false (by omega),eq_true q3⟩
theorem Turn_a {w:World} {S:MS} (h:MW w S) (hn:zgx S.now) {n:Int} (n0:(n < 0)=False):Calls Tryz.prog 27 #[.pointer (some ⟨S.wb,0,none⟩),.int .i64 0,.int .i64 n] w fun e w'=>∃ v now',e=.returned v∧zgx now'∧Goes w S w' { S with now:=now' }:=by
 have r0:=zaa h.wrAt
 have s0:=zan h.wrAt
 have H:=zac8 h
 have tr:=zir (n:=n) hn.a
 have NB:=zac8 hn
 clear h hn
 by_cases hg:n > 1073741824 - S.now.a
 ·have n1:(n > wrap64 (1073741824 - S.now.a))=True:=eq_true (by rw [tr];exact hg)
  clear hg tr
  go_enter Tryz.func27,Tryz.ntmps27
  go_wp2
  go_ret
  exact ⟨_,_,rfl,NB.out,H.out.below (Below.refl _ w)⟩
 ·have n1:(n > wrap64 (1073741824 - S.now.a))=False:=eq_false (by rw [tr];exact hg)
  have n2:IntKind.i64.wrap (S.now.a + n)=S.now.a + n:=zau (by have:=NB.out.a;have:=of_eq_false n0;omega) (by have:=NB.out.a;omega)
  have HG:=zac8 (And.intro hg (of_eq_false n0))
  clear hg tr
  go_enter Tryz.func27,Tryz.ntmps27
  go_upto_region 3 with (fail)
  go_region
  go_wp2
  go_ret
  have A:zgx ⟨S.now.a + n,S.now.b,S.now.c⟩:=⟨by have:=NB.out.a;have:=HG.out;show 0 ≤ S.now.a + n∧S.now.a + n ≤ (1073741824:Int);omega,by have:=NB.out.b;have:=HG.out;show 0 ≤ S.now.b∧S.now.b ≤ (1073741824:Int);omega,by have:=NB.out.c;have:=HG.out;show 0 ≤ S.now.c∧S.now.c ≤ (1073741824:Int);omega⟩
  have B:=(H.out.wr ⟨S.now.a + n,S.now.b,S.now.c⟩ 2 (.int .i64 (S.now.a + n)) rfl).drew
  first | exact ⟨⟨_,rfl⟩,_,A,B⟩ | exact ⟨.bool true,_,A,B⟩
theorem Turn_b {w:World} {S:MS} (h:MW w S) (hn:zgx S.now) {n:Int} (n0:(n < 0)=False):Calls Tryz.prog 27 #[.pointer (some ⟨S.wb,0,none⟩),.int .i64 1,.int .i64 n] w fun e w'=>∃ v now',e=.returned v∧zgx now'∧Goes w S w' { S with now:=now' }:=by
 have r0:=zaa h.wrAt
 have s0:=zan h.wrAt
 have H:=zac8 h
 have tr:=zir (n:=n) hn.b
 have NB:=zac8 hn
 clear h hn
 by_cases hg:n > 1073741824 - S.now.b
 ·have n1:(n > wrap64 (1073741824 - S.now.b))=True:=eq_true (by rw [tr];exact hg)
  clear hg tr
  go_enter Tryz.func27,Tryz.ntmps27
  go_wp2
  go_ret
  exact ⟨_,_,rfl,NB.out,H.out.below (Below.refl _ w)⟩
 ·have n1:(n > wrap64 (1073741824 - S.now.b))=False:=eq_false (by rw [tr];exact hg)
  have n2:IntKind.i64.wrap (S.now.b + n)=S.now.b + n:=zau (by have:=NB.out.b;have:=of_eq_false n0;omega) (by have:=NB.out.b;omega)
  have HG:=zac8 (And.intro hg (of_eq_false n0))
  clear hg tr
  go_enter Tryz.func27,Tryz.ntmps27
  go_upto_region 3 with (fail)
  go_region
  go_wp2
  go_ret
  have A:zgx ⟨S.now.a,S.now.b + n,S.now.c⟩:=⟨by have:=NB.out.a;have:=HG.out;show 0 ≤ S.now.a∧S.now.a ≤ (1073741824:Int);omega,by have:=NB.out.b;have:=HG.out;show 0 ≤ S.now.b + n∧S.now.b + n ≤ (1073741824:Int);omega,by have:=NB.out.c;have:=HG.out;show 0 ≤ S.now.c∧S.now.c ≤ (1073741824:Int);omega⟩
  have B:=(H.out.wr ⟨S.now.a,S.now.b + n,S.now.c⟩ 3 (.int .i64 (S.now.b + n)) rfl).drew
  first | exact ⟨⟨_,rfl⟩,_,A,B⟩ | exact ⟨.bool true,_,A,B⟩
theorem Turn_c {w:World} {S:MS} (h:MW w S) (hn:zgx S.now) {n:Int} (n0:(n < 0)=False):Calls Tryz.prog 27 #[.pointer (some ⟨S.wb,0,none⟩),.int .i64 2,.int .i64 n] w fun e w'=>∃ v now',e=.returned v∧zgx now'∧Goes w S w' { S with now:=now' }:=by
 have r0:=zaa h.wrAt
 have s0:=zan h.wrAt
 have H:=zac8 h
 have tr:=zir (n:=n) hn.c
 have NB:=zac8 hn
 clear h hn
 by_cases hg:n > 1073741824 - S.now.c
 ·have n1:(n > wrap64 (1073741824 - S.now.c))=True:=eq_true (by rw [tr];exact hg)
  clear hg tr
  go_enter Tryz.func27,Tryz.ntmps27
  go_wp2
  go_ret
  exact ⟨_,_,rfl,NB.out,H.out.below (Below.refl _ w)⟩
 ·have n1:(n > wrap64 (1073741824 - S.now.c))=False:=eq_false (by rw [tr];exact hg)
  have n2:IntKind.i64.wrap (S.now.c + n)=S.now.c + n:=zau (by have:=NB.out.c;have:=of_eq_false n0;omega) (by have:=NB.out.c;omega)
  have HG:=zac8 (And.intro hg (of_eq_false n0))
  clear hg tr
  go_enter Tryz.func27,Tryz.ntmps27
  go_upto_region 3 with (fail)
  go_region
  go_wp2
  go_ret
  have A:zgx ⟨S.now.a,S.now.b,S.now.c + n⟩:=⟨by have:=NB.out.a;have:=HG.out;show 0 ≤ S.now.a∧S.now.a ≤ (1073741824:Int);omega,by have:=NB.out.b;have:=HG.out;show 0 ≤ S.now.b∧S.now.b ≤ (1073741824:Int);omega,by have:=NB.out.c;have:=HG.out;show 0 ≤ S.now.c + n∧S.now.c + n ≤ (1073741824:Int);omega⟩
  have B:=(H.out.wr ⟨S.now.a,S.now.b,S.now.c + n⟩ 4 (.int .i64 (S.now.c + n)) rfl).drew
  first | exact ⟨⟨_,rfl⟩,_,A,B⟩ | exact ⟨.bool true,_,A,B⟩
theorem zys {w:World} {S:MS} (h:MW w S) (hn:zgx S.now) (k n:Int):Calls Tryz.prog 27 #[.pointer (some ⟨S.wb,0,none⟩),.int .i64 k,.int .i64 n] w fun e w'=>∃ v now',e=.returned v∧zgx now'∧Goes w S w' { S with now:=now' }:=by
 by_cases hk:k < 0 ∨ 3 ≤ k ∨ (0 ≤ k∧k < 3∧n < 0)
 ·refine (zof (w:=w) (S:=S) k n hk).mono ?_
  rintro e w' ⟨rfl,hw⟩
  subst hw
  exact ⟨_,_,rfl,hn,h.below (Below.refl _ _)⟩
 ·have n0:(n < 0)=False:=eq_false (by omega)
  have:k=0 ∨ k=1 ∨ k=2:=by omega
  rcases this with rfl | rfl | rfl
  ·exact Turn_a h hn n0
  ·exact Turn_b h hn n0
  ·exact Turn_c h hn n0
set_option maxHeartbeats 1000000 in
theorem zgo {w:World} {S:MS} (h:MW w S) (hnb:S.nb=S.X.nb) {k free:Int} (h0:S.at_ 0=.pointer none) (hD:Calls Tryz.prog 65 #[.pointer (some ⟨S.X.nb,0,none⟩),.int .i64 k] w fun e w'=>e=.returned (.tuple #[.agg #[.int .i64 0,.int .i64 0,.slice none 0 0],.bool false])∧Below w.heap.size w w'):
  Calls Tryz.prog 24 #[.pointer (some ⟨S.wb,0,none⟩),.int .i64 k,.int .i64 free] w fun e w'=>e=.returned (.bool false)∧Goes w S w' S:=by
 have rw0:=zaa h.wrAt
 rw [hnb] at rw0
 have DL:=zac8 hD
 have H:=zac8 h
 have H0:=zac8 h0
 clear h hD h0
 go_enter Tryz.func24,Tryz.ntmps24
 go_upto_region 2 with (go_at_call 65;refine DL.out.mono ?_;rintro _ W ⟨rfl,hb⟩)
 have bx:=Bx.new W #[.int .i64 0,.int .i64 0,.slice none 0 0] 120
 generalize W.alloc (.cells #[.int .i64 0,.int .i64 0,.slice none 0 0] 120)=V at bx ⊢
 have G:=H.out.below (hb.trans (bx.below.mono hb.size))
 have GG:=zac8 G
 have r0:=zaa G.mw.wrAt
 have rx:=bx.rowOf
 have lk:=(G.mw.below (Below.refl _ V).drew).mw.look 0
 rw [H0.out] at lk
 clear G hb bx rw0
 (refine wp_region_still_tail 7 (by kernel_rfl) (by kernel_rfl) ?_;simp only [List.take_succ_cons,List.take_zero,List.drop_succ_cons,List.drop_zero];(iterate 7 still_step);refine wpStill_nil ?_)
 go_wp2
 go_ret
 exact ⟨rfl,GG.out.drew⟩
end Go.Proofs.YthjgiamfaijoeaaGreatDoor
namespace Go.Proofs.YthjgiamfaijoeaaGreatDoor
open Go.RowKit
open Sx (Ab DW Turns Did Foot MapIs)
set_option maxRecDepth 100000
theorem Run.split {B2:List (Int × Sw)} {t:List It}:∀ {L:List It} {B:List (Int × Sw)},Run B (L ++ t) B2→∃ B1,Run B L B1∧Run B1 t B2
 | [],B,h=>⟨B,.nil,h⟩
 | a :: L,B,h=>by
  obtain ⟨B1,h1,h2⟩:=Run.head (show Run B (a :: (L ++ t)) B2 from h)
  obtain ⟨B3,h3,h4⟩:=Run.split h2
  exact ⟨B3,.cons h1 h3,h4⟩
structure Wst (c:Wd) (w:World) (xs:Nat→Nod) (ls:List (Int × Int × List Nat)) (now:Cl):Prop where
 wx:WX c w xs ls now
 inv:Inv c.N xs ls
 nk:zgx now
 n8:c.N ≤ 8
def Nx (c:Wd) (n:Nat) (w:World):Prop:=∃ f xs ls now,Wst { c with cut:=f } w xs ls now∧ls.length ≤ n
section
variable {c:Wd} {w w':World} {xs:Nat→Nod} {ls:List (Int × Int × List Nat)} {now:Cl}
theorem Wst.nx (h:Wst c w xs ls now) {n:Nat} (hn:ls.length ≤ n):Nx c n w:=⟨c.cut,xs,ls,now,h,hn⟩
theorem LetOk.small {N:Nat} {x:Int × Int × List Nat} (h:LetOk N xs x):x.2.2.length ≤ 104:=by
 cases h with
 | prop=>exact zb5 _
 | acc=>exact zb5 _
 | ref=>exact Nat.le_trans (zha _ _) (by decide)
theorem LetOk.ends {N:Nat} {x:Int × Int × List Nat} (h:LetOk N xs x):∃ f t:Nat,x.1=f∧x.2.1=t∧(1 ≤ f∧f ≤ N)∧(1 ≤ t∧t ≤ N)∧f ≠ t:=by
 cases h with
 | prop ha hb hab=>exact ⟨_,_,rfl,rfl,ha,hb,hab⟩
 | acc ha hb hab=>exact ⟨_,_,rfl,rfl,hb,ha,Ne.symm hab⟩
 | ref ha hb hab=>exact ⟨_,_,rfl,rfl,hb,ha,Ne.symm hab⟩
theorem zvh (h:Wst c w xs ls now) {a b:Nat} (ha:1 ≤ a∧a ≤ c.N) (hb:1 ≤ b∧b ≤ c.N) (hl:ls.length < 1000) {i:Int} {p g:Lg} (hi:I64 i):
  Calls Tryz.prog 29 #[.pointer (some ⟨c.wb,0,none⟩),.int .i64 a,.int .i64 b,.int .i64 i,.agg p.cells,.agg g.cells] w fun e w'=>(∃ v,e=.returned v)∧Nx c (ls.length + 1) w':=by
 by_cases hab:a=b
 ·subst hab
  obtain ⟨S,hw⟩:=h.wx
  obtain ⟨n,D,tb,q,at1⟩:=hw.at_ ha
  rw [← hw.wb]
  refine (zn4 (p:=p) (g:=g) (i:=i) hw.mw (.inr (.inr ⟨⟨_,_,at1,at1⟩,rfl⟩))).mono ?_
  rintro e w' ⟨rfl,gg⟩
  exact ⟨⟨_,rfl⟩,Wst.nx ⟨⟨S,hw.goes gg⟩,h.inv,h.nk,h.n8⟩ (by omega)⟩
 ·refine (zmk h.wx ha hb hab hl hi).mono ?_
  rintro e w' ⟨k,rfl,⟨_,_,wx⟩ | ⟨_,hf,hp,wx⟩ | ⟨_,hf,_,hp,j,f,B',hj,wx⟩⟩
  ·exact ⟨⟨_,rfl⟩,Wst.nx ⟨wx,h.inv,h.nk,h.n8⟩ (by omega)⟩
  ·exact ⟨⟨_,rfl⟩,Wst.nx ⟨wx,zoc h.inv ha hb hab hp,h.nk,h.n8⟩ (by simp)⟩
  ·refine ⟨⟨_,rfl⟩,Wst.nx ⟨wx,zyk h.inv ha hb hab hp hj ?_,h.nk,h.n8⟩ (by omega)⟩
   obtain ⟨S,hh⟩:=wx
   obtain ⟨n,D,tb,q,_⟩:=hh.at_ ha
   have r:=q.run
   rw [upd_at] at r
   obtain ⟨B1,r1,r2⟩:=Run.split (show Run [] ((xs a).L ++ (zkh (xs a).sd i b p g now).take j) B' from r)
   obtain ⟨S0,h0⟩:=h.wx
   obtain ⟨n0,D0,tb0,q0,_⟩:=h0.at_ ha
   rw [Run.det q0.run r1]
   exact r2
theorem zacv (h:Wst c w xs ls now) {a:Nat} (ha:1 ≤ a∧a ≤ c.N) (hl:ls.length < 1000) (i:Int):
  Calls Tryz.prog 22 #[.pointer (some ⟨c.wb,0,none⟩),.int .i64 a,.int .i64 i] w fun e w'=>(∃ v,e=.returned v)∧Nx c (ls.length + 1) w':=by
 cases hf:(xs a).fell with
 | some f=>
  obtain ⟨S,hw⟩:=h.wx
  obtain ⟨n,D,tb,q,at1⟩:=hw.at_ ha
  have hh:=q.has
  rw [hf] at hh
  rw [← hw.wb]
  refine (zrl (i:=i) hw.mw at1 (hh.off hw.mw)).mono ?_
  rintro e w' ⟨rfl,rfl⟩
  exact ⟨⟨_,rfl⟩,Wst.nx h (by omega)⟩
 | none=>
  by_cases hs:∃ s,getA (xs a).B i=some s∧s.d.r=1
  ·obtain ⟨s,hs,hr⟩:=hs
   obtain ⟨di,m,m1,m2,m3,mq,_⟩:=(h.inv.node a ha.1 ha.2).book i s hs
   have fi:=(h.wx.fine ha).at hs
   refine (zacr h.wx ha hf hs hr mq ⟨m1,m2⟩ (Ne.symm m3) hl).mono ?_
   rintro e w' ⟨rfl,wx⟩
   exact ⟨⟨_,rfl⟩,Wst.nx ⟨wx,h.inv.snoc (.prop (s:=s) ha ⟨m1,m2⟩ (Ne.symm m3) (by rw [di];exact hs) rfl hr mq (zj3 fi.2.1) fi.2.2.1),h.nk,h.n8⟩ (by simp)⟩
  ·obtain ⟨S,hw⟩:=h.wx
   obtain ⟨n,D,tb,q,at1⟩:=hw.at_ ha
   have hb:zfx (getA D.M i)=false:=by
    cases e:getA D.M i with
    | none=>rfl
    | some en=>
     have e2:getA (xs a).B i=some en.s:=by rw [← q.book,zg9,e];rfl
     show (true && (en.s.d.r == 1))=false
     rw [Bool.true_and]
     exact beq_eq_false_iff_ne.2 fun r=>hs ⟨_,e2,r⟩
   rw [← hw.wb]
   refine (zrk (i:=i) hw.mw (q.live hf).1 hb).mono ?_
   rintro e w' ⟨rfl,gg⟩
   exact ⟨⟨_,rfl⟩,Wst.nx ⟨⟨S,hw.goes gg⟩,h.inv,h.nk,h.n8⟩ (by omega)⟩
theorem A_arm (h:Wst c w xs ls now) {a:Nat} (ha:1 ≤ a∧a ≤ c.N) {i:Int} (hi:-1 ≤ i∧i < 9223372036854775808):
  Calls Tryz.prog 17 #[.pointer (some ⟨c.wb,0,none⟩),.int .i64 a,.int .i64 i] w fun e w'=>(∃ v,e=.returned v)∧Nx c ls.length w':=by
 refine (W_arm h.wx ha hi).mono ?_
 rintro e w' ⟨rfl,wx⟩
 exact ⟨⟨_,rfl⟩,Wst.nx ⟨wx,h.inv.calm a _,h.nk,h.n8⟩ (zac9 _)⟩
theorem zvi (h:Wst c w xs ls now) {a:Nat} (ha:1 ≤ a∧a ≤ c.N) {ao:Option Addr} {cc:Nat} {K:List Int} (HK:KeepAt w ao K):
  Calls Tryz.prog 19 #[.pointer (some ⟨c.wb,0,none⟩),.int .i64 a,.slice ao K.length cc] w fun e w'=>(∃ v,e=.returned v)∧Nx c ls.length w':=by
 refine (zva h.wx ha HK).mono ?_
 rintro e w' ⟨rfl,L,B,came,_,wx⟩
 exact ⟨⟨_,rfl⟩,Wst.nx ⟨wx,h.inv.back ha.1 ha.2 came,h.nk,h.n8⟩ (zac9 _)⟩
theorem A_turn (h:Wst c w xs ls now) (k n:Int):
  Calls Tryz.prog 27 #[.pointer (some ⟨c.wb,0,none⟩),.int .i64 k,.int .i64 n] w fun e w'=>(∃ v,e=.returned v)∧Nx c ls.length w':=by
 obtain ⟨S,hw⟩:=h.wx
 rw [← hw.wb]
 refine (zys hw.mw (by rw [hw.now];exact h.nk) k n).mono ?_
 rintro e w' ⟨v,now',rfl,nk,g⟩
 exact ⟨⟨_,rfl⟩,Wst.nx (now:=now') (xs:=xs) (ls:=ls) ⟨⟨_,⟨g.mw,hw.u,hw.wb,hw.nb,hw.xnb,hw.nn,hw.says,rfl,hw.hF,hw.hT,hw.no,fun j j1 j2=>(hw.ni j j1 j2).same rfl rfl rfl rfl,hw.exg g,hw.cut⟩⟩,h.inv,nk,h.n8⟩ (zac9 _)⟩
theorem zyt (h:Wst c w xs ls now) (hl:ls.length < 1000) (k:Int):
  Calls Tryz.prog 30 #[.pointer (some ⟨c.nb,0,none⟩),.int .i64 k] w fun e w'=>(∃ v,e=.returned v)∧Nx c (ls.length + 1) w':=by
 by_cases hk:k < 0 ∨ (ls.length:Int) ≤ k
 ·obtain ⟨S,hw⟩:=h.wx
  rw [← hw.xnb]
  refine (zrt hw.mw.netAt (by rw [hw.len];exact hk)).mono ?_
  rintro e w' ⟨rfl,hb⟩
  exact ⟨⟨_,rfl⟩,Wst.nx ⟨h.wx.below hb,h.inv,h.nk,h.n8⟩ (by omega)⟩
 ·obtain ⟨j,rfl⟩:∃ j:Nat,k=j:=⟨k.toNat,by omega⟩
  have hj:j < ls.length:=by omega
  have hg:ls[j]?=some ls[j]:=List.getElem?_eq_getElem hj
  have lo:=h.inv.lets _ (List.mem_of_getElem? hg)
  refine (zp9 h.wx hg (by have:=lo.small;omega) hl).mono ?_
  rintro e w' ⟨rfl,wx⟩
  exact ⟨⟨_,rfl⟩,Wst.nx ⟨wx,h.inv.snoc lo,h.nk,h.n8⟩ (by simp)⟩
theorem A_lose (h:Wst c w xs ls now) (hl:ls.length ≤ 1000) (k:Int):
  Calls Tryz.prog 32 #[.pointer (some ⟨c.nb,0,none⟩),.int .i64 k] w fun e w'=>(∃ v,e=.returned v)∧Nx c ls.length w':=by
 by_cases hk:k < 0 ∨ (ls.length:Int) ≤ k
 ·obtain ⟨S,hw⟩:=h.wx
  rw [← hw.xnb]
  refine (zyp hw.mw.netAt (by rw [hw.len];exact hk)).mono ?_
  rintro e w' ⟨rfl,hb⟩
  exact ⟨⟨_,rfl⟩,Wst.nx ⟨h.wx.below hb,h.inv,h.nk,h.n8⟩ (zac9 _)⟩
 ·obtain ⟨j,rfl⟩:∃ j:Nat,k=j:=⟨k.toNat,by omega⟩
  have hj:j < ls.length:=by omega
  have hg:ls[j]?=some ls[j]:=List.getElem?_eq_getElem hj
  have lo:=h.inv.lets _ (List.mem_of_getElem? hg)
  obtain ⟨S,hw⟩:=h.wx
  obtain ⟨y,h1,h2,h3,h4⟩:=zge (X:=S.X) (k:=j) (f:=ls[j].1) (t:=ls[j].2.1) (l:=ls[j].2.2) (by rw [hw.says];exact hg)
  rw [← hw.xnb]
  refine (zacu hw.mw.netAt h1 (by rw [h4];have:=lo.small;omega) (by rw [hw.len];omega)).mono ?_
  rintro e w' ⟨rfl,X',t,s⟩
  have g:=hw.mw.net t
  exact ⟨⟨_,rfl⟩,Wst.nx ⟨⟨_,hw.to0 g t.nb t.nodes (by rw [s,hw.says])⟩,h.inv.erase j,h.nk,h.n8⟩ (by rw [List.length_eraseIdx,if_pos hj];omega)⟩
end
end Go.Proofs.YthjgiamfaijoeaaGreatDoor
namespace Go.Proofs.YthjgiamfaijoeaaGreatDoor
open Go.RowKit
open Sx (Ab DW Turns Did Foot MapIs)
set_option maxRecDepth 100000
section
variable {c:Wd} {w w':World} {xs:Nat→Nod} {ls:List (Int × Int × List Nat)} {now:Cl}
theorem MW.ways {S:MS} (h:MW w S) {f:Int→Int→Bool} (hN:NetAt w' { S.X with cut:=f }) (hc:Comp w w' S.X.all S.X.all):Goes w S w' { S with X:={ S.X with cut:=f },cut:=f }:=
 h.step .net hc ⟨hN,rfl⟩ fun j hj=>by cases j <;> first | rfl | exact absurd rfl hj
theorem W_cut (h:WX c w xs ls now) {a b:Nat} (ha:1 ≤ a∧a ≤ c.N) (hb:1 ≤ b∧b ≤ c.N) (hab:a ≠ b) (v:Bool):
  Calls Tryz.prog 20 #[.pointer (some ⟨c.nb,0,none⟩),.int .i64 a,.int .i64 b,.bool v] w fun e w'=>e=.returned (.bool true)∧WX { c with cut:=setW c.cut a b v } w' xs ls now:=by
 obtain ⟨S,hw⟩:=h
 have K:Calls Tryz.prog 20 #[.pointer (some ⟨S.X.nb,0,none⟩),.int .i64 a,.int .i64 b,.bool v] w fun e w'=>e=.returned (.bool true)∧WX { c with cut:=setW c.cut a b v } w' xs ls now:=by
  refine (Cut_ok hw.mw.netAt (eq_true (by omega)) (eq_true (by rw [hw.nn];omega)) (eq_true (by omega)) (eq_true (by rw [hw.nn];omega)) (by simp;omega) v).mono ?_
  rintro e w' ⟨rfl,hN,hc⟩
  have g:=hw.mw.ways hN hc
  refine ⟨rfl,_,⟨g.mw,hw.u,hw.wb,hw.nb,hw.xnb,hw.nn,hw.says,hw.now,hw.hF,hw.hT,hw.no,fun j j1 j2=>(hw.ni j j1 j2).same rfl rfl rfl rfl,hw.exg g,?_⟩⟩
  show setW S.X.cut a b v=setW c.cut a b v
  rw [hw.mw.netCut.2,hw.cut]
 rw [hw.xnb] at K
 exact K
theorem A_cut (h:Wst c w xs ls now) {a b:Nat} (ha:1 ≤ a∧a ≤ c.N) (hb:1 ≤ b∧b ≤ c.N) (v:Bool):
  Calls Tryz.prog 20 #[.pointer (some ⟨c.nb,0,none⟩),.int .i64 a,.int .i64 b,.bool v] w fun e w'=>(∃ v,e=.returned v)∧Nx c ls.length w':=by
 by_cases hab:a=b
 ·subst hab
  obtain ⟨S,hw⟩:=h.wx
  rw [← hw.xnb]
  refine (zyq hw.mw.netAt (a:=a) (eq_true (by omega)) (eq_true (by rw [hw.nn];omega)) v).mono ?_
  rintro e w' ⟨rfl,hbl⟩
  exact ⟨⟨_,rfl⟩,Wst.nx ⟨h.wx.below hbl,h.inv,h.nk,h.n8⟩ (zac9 _)⟩
 ·refine (W_cut h.wx ha hb hab v).mono ?_
  rintro e w' ⟨rfl,wx⟩
  exact ⟨⟨_,rfl⟩,_,_,_,_,⟨wx,h.inv,h.nk,h.n8⟩,zac9 _⟩
theorem WI.none0 {S:MS} (h:WI c w S xs ls now):S.at_ 0=.pointer none:=by
 unfold MS.at_
 rw [h.no 0 (.inl (by decide))]
 rfl
theorem zvj (h:Wst c w xs ls now) (hl:ls.length ≤ 1000) (k free:Int):
  Calls Tryz.prog 24 #[.pointer (some ⟨c.wb,0,none⟩),.int .i64 k,.int .i64 free] w fun e w'=>(∃ v,e=.returned v)∧Nx c ls.length w':=by
 by_cases hk:k < 0 ∨ (ls.length:Int) ≤ k
 ·obtain ⟨S,hw⟩:=h.wx
  rw [← hw.wb]
  refine (zgo (free:=free) hw.mw hw.nbx hw.none0 (zod hw.mw.netAt (by rw [hw.len];exact hk))).mono ?_
  rintro e w' ⟨rfl,g⟩
  exact ⟨⟨_,rfl⟩,Wst.nx ⟨⟨S,hw.goes g⟩,h.inv,h.nk,h.n8⟩ (zac9 _)⟩
 obtain ⟨j,rfl⟩:∃ j:Nat,k=j:=⟨k.toNat,by omega⟩
 have hj:j < ls.length:=by omega
 have hg:ls[j]?=some ls[j]:=List.getElem?_eq_getElem hj
 have lo:=h.inv.lets _ (List.mem_of_getElem? hg)
 generalize hx:ls[j]=x at hg lo
 have le:(ls.eraseIdx j).length=ls.length - 1:=by rw [List.length_eraseIdx,if_pos hj]
 obtain ⟨f,t,e1,e2,hf,ht,hft⟩:=lo.ends
 cases hct:c.cut (min (f:Int) t) (max (f:Int) t) with
 | true=>
  obtain ⟨S,hw⟩:=h.wx
  obtain ⟨y,h1,h2,h3,h4⟩:=zge (X:=S.X) (k:=j) (f:=x.1) (t:=x.2.1) (l:=x.2.2) (by rw [hw.says];exact hg)
  have nn:=hw.nn
  rw [← hw.wb]
  refine (zgo (free:=free) hw.mw hw.nbx hw.none0 (zoe hw.mw.netAt h1 (by rw [h4];have:=lo.small;omega) (eq_true (by rw [h2,e1];omega)) (eq_true (by rw [h2,e1];omega)) (eq_true (by rw [h3,e2];omega)) (eq_true (by rw [h3,e2];omega)) (by rw [h2,h3,e1,e2];simp;omega) (by rw [h2,h3,e1,e2,hw.mw.netCut.2,hw.cut];exact hct))).mono ?_
  rintro e w' ⟨rfl,g⟩
  exact ⟨⟨_,rfl⟩,Wst.nx ⟨⟨S,hw.goes g⟩,h.inv,h.nk,h.n8⟩ (zac9 _)⟩
 | false=>
  cases lo with
  | prop ha hb hab hs hd r q ok sm=>
   rename_i a b dd s
   obtain rfl:a=f:=by have:(a:Int)=f:=e1;omega
   obtain rfl:b=t:=by have:(b:Int)=t:=e2;omega
   cases hfl:(xs b).fell with
   | some _=>
    refine (zvc h.wx ha hb hab hct (by rw [hfl];rfl) hg (by have:=zb5 (zaz dd);omega) hl).mono ?_
    rintro e w' ⟨rfl,wx⟩
    exact ⟨⟨_,rfl⟩,Wst.nx ⟨wx,h.inv.erase j,h.nk,h.n8⟩ (by omega)⟩
   | none=>
    refine (zvb h.wx ha hb hab hct hfl hg ok sm hl).mono ?_
    rintro e w' ⟨rfl,⟨z,wx⟩ | ⟨z,wx⟩ | ⟨z,_,wx⟩⟩
    ·exact ⟨⟨_,rfl⟩,Wst.nx ⟨wx,zym h.inv ha hb hab hs hd r q ok z,h.nk,h.n8⟩ (by rw [List.length_append,le];simp;omega)⟩
    ·exact ⟨⟨_,rfl⟩,Wst.nx ⟨wx,zyl h.inv ha hb hab hs hd r q sm z,h.nk,h.n8⟩ (by rw [List.length_append,le];simp;omega)⟩
    ·exact ⟨⟨_,rfl⟩,Wst.nx ⟨wx,zvg h.inv ha hb hab hs hd r q,h.nk,h.n8⟩ (by omega)⟩
  | acc ha hb hab hs hd r q h2 hd2 ok sm=>
   rename_i a b dd s s2
   obtain rfl:b=f:=by have:(b:Int)=f:=e1;omega
   obtain rfl:a=t:=by have:(a:Int)=t:=e2;omega
   cases hfl:(xs a).fell with
   | some _=>
    refine (zvc h.wx hb ha (Ne.symm hab) hct (by rw [hfl];rfl) hg (by have:=zb5 (zb2 (zax dd a));omega) hl).mono ?_
    rintro e w' ⟨rfl,wx⟩
    exact ⟨⟨_,rfl⟩,Wst.nx ⟨wx,h.inv.erase j,h.nk,h.n8⟩ (by omega)⟩
   | none=>
    refine (W_acc h.wx ha hb hab hct hfl (h.inv.node a ha.1 ha.2).words hs hd r q hg ok sm hl).mono ?_
    rintro e w' ⟨rfl,wx⟩
    exact ⟨⟨_,rfl⟩,Wst.nx ⟨wx,zacs h.inv ha hb hs hd r q h2 hd2,h.nk,h.n8⟩ (by omega)⟩
  | ref ha hb hab hs r q hi hc=>
   rename_i a b i cd s
   obtain rfl:b=f:=by have:(b:Int)=f:=e1;omega
   obtain rfl:a=t:=by have:(a:Int)=t:=e2;omega
   cases hfl:(xs a).fell with
   | some _=>
    refine (zvc h.wx hb ha (Ne.symm hab) hct (by rw [hfl];rfl) hg (by have:=zha i cd;omega) hl).mono ?_
    rintro e w' ⟨rfl,wx⟩
    exact ⟨⟨_,rfl⟩,Wst.nx ⟨wx,h.inv.erase j,h.nk,h.n8⟩ (by omega)⟩
   | none=>
    refine (W_ref h.wx ha hb hab hct hfl (h.inv.node a ha.1 ha.2).words hs r q hi hc hg hl).mono ?_
    rintro e w' ⟨rfl,wx⟩
    exact ⟨⟨_,rfl⟩,Wst.nx ⟨wx,zact h.inv ha,h.nk,h.n8⟩ (by omega)⟩
end
end Go.Proofs.YthjgiamfaijoeaaGreatDoor
