/- What is proved: parts of the walk and of the plain law. No condition but those each law names. -/
import Derived.Test.YthjgiamfaijoeaaGreatDoorD33
import Derived.Test.YthjgiamfaijoeaaGreatDoorD39
import Derived.Test.YthjgiamfaijoeaaGreatDoorD00
set_option linter.unusedSimpArgs false
set_option linter.unusedVariables false
set_option maxRecDepth 100000
namespace Go.Proofs.YthjgiamfaijoeaaGreatDoor
open Go.RowKit
section
open Sx (Ab DW Turns Did Foot MapIs)
attribute [local go_sem ↓] zad
attribute [local go_sem] zaf zai zaj zal zab zah zac zak zae zaw za2 Sx.run_mk Ext.row Ext.soft_
section
variable (nb mb:Nat) (n:Cl)
theorem wr_4:(wrC nb mb n)[4]?=some (.int .i64 n.c):=rfl
theorem wr_4g (q:4 < (wrC nb mb n).size):(wrC nb mb n)[4]'q=.int .i64 n.c:=rfl
end
attribute [local go_sem ↓] wr_4
attribute [local go_sem] wr_4g
structure zg1 (n:Cl):Prop where
 a:0 ≤ n.a∧n.a ≤ 1073741824
 b:0 ≤ n.b∧n.b ≤ 1073741824
 c:0 ≤ n.c∧n.c ≤ 1073741824
theorem zi1 {x n:Int} (h:0 ≤ x∧x ≤ 1073741824):wrap64 (1073741824 - x)=1073741824 - x:=by
 unfold wrap64
 omega
theorem zop {w:World} {S:MS} (k n:Int) (hk:k < 0 ∨ 3 ≤ k ∨ (0 ≤ k∧k < 3∧n < 0)):Calls Tryz.prog 27 #[.pointer (some ⟨S.wb,0,none⟩),.int .i64 k,.int .i64 n] w fun e w'=>e=.returned (.bool false)∧w'=w:=by
 by_cases h0:k < 0
 ·have i0:(k < 0)=True:=eq_true h0
  clear h0 hk
  go_enter Tryz.func27,Tryz.ntmps27
  go_wp2
  go_ret
  exact ⟨rfl,rfl⟩
 ·refine zac0 k n ?_
  rcases hk with q | q | ⟨q1,q2,q3⟩
  ·exact absurd q h0
  ·exact .inl ⟨eq_false h0,eq_true q⟩
  ·exact .inr ⟨eq_false h0,eq_false (by omega),eq_true q3⟩
theorem Turn_a {w:World} {S:MS} (h:MW w S) (hn:zg1 S.now) {n:Int} (n0:(n < 0)=False):Calls Tryz.prog 27 #[.pointer (some ⟨S.wb,0,none⟩),.int .i64 0,.int .i64 n] w fun e w'=>∃ v now',e=.returned v∧zg1 now'∧Goes w S w' { S with now:=now' }:=by
 have r0:=zaa h.wrAt
 have s0:=zan h.wrAt
 have H:=zadv h
 have tr:=zi1 (n:=n) hn.a
 have NB:=zadv hn
 clear h hn
 by_cases hg:n > 1073741824 - S.now.a
 ·have n1:(n > wrap64 (1073741824 - S.now.a))=True:=eq_true (by rw [tr];exact hg)
  clear hg tr
  go_enter Tryz.func27,Tryz.ntmps27
  go_wp2
  go_ret
  exact ⟨_,_,rfl,NB.out,H.out.below (Below.refl _ w)⟩
 ·have n1:(n > wrap64 (1073741824 - S.now.a))=False:=eq_false (by rw [tr];exact hg)
  have n2:IntKind.i64.wrap (S.now.a + n)=S.now.a + n:=zar (by have:=NB.out.a;have:=of_eq_false n0;omega) (by have:=NB.out.a;omega)
  have HG:=zadv (zadx hg (of_eq_false n0))
  clear hg tr
  go_enter Tryz.func27,Tryz.ntmps27
  go_upto_region 3 with (fail)
  go_region
  go_wp2
  go_ret
  have A:zg1 ⟨S.now.a + n,S.now.b,S.now.c⟩:=⟨by have:=NB.out.a;have:=HG.out;show 0 ≤ S.now.a + n∧S.now.a + n ≤ (1073741824:Int);omega,by have:=NB.out.b;have:=HG.out;show 0 ≤ S.now.b∧S.now.b ≤ (1073741824:Int);omega,by have:=NB.out.c;have:=HG.out;show 0 ≤ S.now.c∧S.now.c ≤ (1073741824:Int);omega⟩
  have B:=(H.out.wr ⟨S.now.a + n,S.now.b,S.now.c⟩ 2 (.int .i64 (S.now.a + n)) rfl).drew
  first | exact ⟨⟨_,rfl⟩,_,A,B⟩ | exact ⟨.bool true,_,A,B⟩
theorem Turn_b {w:World} {S:MS} (h:MW w S) (hn:zg1 S.now) {n:Int} (n0:(n < 0)=False):Calls Tryz.prog 27 #[.pointer (some ⟨S.wb,0,none⟩),.int .i64 1,.int .i64 n] w fun e w'=>∃ v now',e=.returned v∧zg1 now'∧Goes w S w' { S with now:=now' }:=by
 have r0:=zaa h.wrAt
 have s0:=zan h.wrAt
 have H:=zadv h
 have tr:=zi1 (n:=n) hn.b
 have NB:=zadv hn
 clear h hn
 by_cases hg:n > 1073741824 - S.now.b
 ·have n1:(n > wrap64 (1073741824 - S.now.b))=True:=eq_true (by rw [tr];exact hg)
  clear hg tr
  go_enter Tryz.func27,Tryz.ntmps27
  go_wp2
  go_ret
  exact ⟨_,_,rfl,NB.out,H.out.below (Below.refl _ w)⟩
 ·have n1:(n > wrap64 (1073741824 - S.now.b))=False:=eq_false (by rw [tr];exact hg)
  have n2:IntKind.i64.wrap (S.now.b + n)=S.now.b + n:=zar (by have:=NB.out.b;have:=of_eq_false n0;omega) (by have:=NB.out.b;omega)
  have HG:=zadv (zadx hg (of_eq_false n0))
  clear hg tr
  go_enter Tryz.func27,Tryz.ntmps27
  go_upto_region 3 with (fail)
  go_region
  go_wp2
  go_ret
  have A:zg1 ⟨S.now.a,S.now.b + n,S.now.c⟩:=⟨by have:=NB.out.a;have:=HG.out;show 0 ≤ S.now.a∧S.now.a ≤ (1073741824:Int);omega,by have:=NB.out.b;have:=HG.out;show 0 ≤ S.now.b + n∧S.now.b + n ≤ (1073741824:Int);omega,by have:=NB.out.c;have:=HG.out;show 0 ≤ S.now.c∧S.now.c ≤ (1073741824:Int);omega⟩
  have B:=(H.out.wr ⟨S.now.a,S.now.b + n,S.now.c⟩ 3 (.int .i64 (S.now.b + n)) rfl).drew
  first | exact ⟨⟨_,rfl⟩,_,A,B⟩ | exact ⟨.bool true,_,A,B⟩
theorem Turn_c {w:World} {S:MS} (h:MW w S) (hn:zg1 S.now) {n:Int} (n0:(n < 0)=False):Calls Tryz.prog 27 #[.pointer (some ⟨S.wb,0,none⟩),.int .i64 2,.int .i64 n] w fun e w'=>∃ v now',e=.returned v∧zg1 now'∧Goes w S w' { S with now:=now' }:=by
 have r0:=zaa h.wrAt
 have s0:=zan h.wrAt
 have H:=zadv h
 have tr:=zi1 (n:=n) hn.c
 have NB:=zadv hn
 clear h hn
 by_cases hg:n > 1073741824 - S.now.c
 ·have n1:(n > wrap64 (1073741824 - S.now.c))=True:=eq_true (by rw [tr];exact hg)
  clear hg tr
  go_enter Tryz.func27,Tryz.ntmps27
  go_wp2
  go_ret
  exact ⟨_,_,rfl,NB.out,H.out.below (Below.refl _ w)⟩
 ·have n1:(n > wrap64 (1073741824 - S.now.c))=False:=eq_false (by rw [tr];exact hg)
  have n2:IntKind.i64.wrap (S.now.c + n)=S.now.c + n:=zar (by have:=NB.out.c;have:=of_eq_false n0;omega) (by have:=NB.out.c;omega)
  have HG:=zadv (zadx hg (of_eq_false n0))
  clear hg tr
  go_enter Tryz.func27,Tryz.ntmps27
  go_upto_region 3 with (fail)
  go_region
  go_wp2
  go_ret
  have A:zg1 ⟨S.now.a,S.now.b,S.now.c + n⟩:=⟨by have:=NB.out.a;have:=HG.out;show 0 ≤ S.now.a∧S.now.a ≤ (1073741824:Int);omega,by have:=NB.out.b;have:=HG.out;show 0 ≤ S.now.b∧S.now.b ≤ (1073741824:Int);omega,by have:=NB.out.c;have:=HG.out;show 0 ≤ S.now.c + n∧S.now.c + n ≤ (1073741824:Int);omega⟩
  have B:=(H.out.wr ⟨S.now.a,S.now.b,S.now.c + n⟩ 4 (.int .i64 (S.now.c + n)) rfl).drew
  first | exact ⟨⟨_,rfl⟩,_,A,B⟩ | exact ⟨.bool true,_,A,B⟩
theorem zze {w:World} {S:MS} (h:MW w S) (hn:zg1 S.now) (k n:Int):Calls Tryz.prog 27 #[.pointer (some ⟨S.wb,0,none⟩),.int .i64 k,.int .i64 n] w fun e w'=>∃ v now',e=.returned v∧zg1 now'∧Goes w S w' { S with now:=now' }:=by
 by_cases hk:k < 0 ∨ 3 ≤ k ∨ (0 ≤ k∧k < 3∧n < 0)
 ·refine (zop (w:=w) (S:=S) k n hk).mono ?_
  rintro e w' ⟨rfl,hw⟩
  subst hw
  exact ⟨_,_,rfl,hn,h.below (Below.refl _ _)⟩
 ·have n0:(n < 0)=False:=eq_false (by omega)
  have:k=0 ∨ k=1 ∨ k=2:=by omega
  rcases this with rfl | rfl | rfl
  ·exact Turn_a h hn n0
  ·exact Turn_b h hn n0
  ·exact Turn_c h hn n0
set_option maxHeartbeats 1000000 in
theorem zgs {w:World} {S:MS} (h:MW w S) (hnb:S.nb=S.X.nb) {k free:Int} (h0:S.at_ 0=.pointer none) (hD:Calls Tryz.prog 65 #[.pointer (some ⟨S.X.nb,0,none⟩),.int .i64 k] w fun e w'=>e=.returned (.tuple #[.agg #[.int .i64 0,.int .i64 0,.slice none 0 0],.bool false])∧Below w.heap.size w w'):
  Calls Tryz.prog 24 #[.pointer (some ⟨S.wb,0,none⟩),.int .i64 k,.int .i64 free] w fun e w'=>e=.returned (.bool false)∧Goes w S w' S:=by
 have rw0:=zaa h.wrAt
 rw [hnb] at rw0
 have DL:=zadv hD
 have H:=zadv h
 have H0:=zadv h0
 clear h hD h0
 go_enter Tryz.func24,Tryz.ntmps24
 go_upto_region 2 with (go_at_call 65;refine DL.out.mono ?_;rintro _ W ⟨rfl,hb⟩)
 have bx:=Bx.new W #[.int .i64 0,.int .i64 0,.slice none 0 0] 120
 generalize W.alloc (.cells #[.int .i64 0,.int .i64 0,.slice none 0 0] 120)=V at bx ⊢
 have G:=H.out.below (hb.trans (bx.below.mono hb.size))
 have GG:=zadv G
 have r0:=zaa G.mw.wrAt
 have rx:=bx.rowOf
 have lk:=(G.mw.below (Below.refl _ V).drew).mw.look 0
 rw [H0.out] at lk
 clear G hb bx rw0
 (refine wp_region_still_tail 7 (by kernel_rfl) (by kernel_rfl) ?_;simp only [List.take_succ_cons,List.take_zero,List.drop_succ_cons,List.drop_zero];(iterate 7 still_step);refine wpStill_nil ?_)
 go_wp2
 go_ret
 exact ⟨rfl,GG.out.drew⟩
end
section
open Sx (Ab DW Turns Did Foot MapIs)
theorem Run.split {B2:List (Int × Sw)} {t:List It}:∀ {L:List It} {B:List (Int × Sw)},Run B (L ++ t) B2→∃ B1,Run B L B1∧Run B1 t B2
 | [],B,h=>⟨B,.nil,h⟩
 | a :: L,B,h=>by
  obtain ⟨B1,h1,h2⟩:=Run.head (show Run B (a :: (L ++ t)) B2 from h)
  obtain ⟨B3,h3,h4⟩:=Run.split h2
  exact ⟨B3,.cons h1 h3,h4⟩
structure Wst (c:Wd) (w:World) (xs:Nat→Nod) (ls:List (Int × Int × List Nat)) (now:Cl):Prop where
 wx:WX c w xs ls now
 inv:Inv c.N xs ls
 nk:zg1 now
 n8:c.N ≤ 8
def Nx (c:Wd) (n:Nat) (w:World):Prop:=∃ f xs ls now,Wst { c with cut:=f } w xs ls now∧ls.length ≤ n
section
variable {c:Wd} {w w':World} {xs:Nat→Nod} {ls:List (Int × Int × List Nat)} {now:Cl}
theorem Wst.nx (h:Wst c w xs ls now) {n:Nat} (hn:ls.length ≤ n):Nx c n w:=⟨c.cut,xs,ls,now,h,hn⟩
theorem LetOk.small {N:Nat} {x:Int × Int × List Nat} (h:LetOk N xs x):x.2.2.length ≤ 104:=by
 cases h with
 | prop=>exact zb5 _
 | acc=>exact zb5 _
 | ref=>exact Nat.le_trans (zhe _ _) (by decide)
theorem LetOk.ends {N:Nat} {x:Int × Int × List Nat} (h:LetOk N xs x):∃ f t:Nat,x.1=f∧x.2.1=t∧(1 ≤ f∧f ≤ N)∧(1 ≤ t∧t ≤ N)∧f ≠ t:=by
 cases h with
 | prop ha hb hab=>exact ⟨_,_,rfl,rfl,ha,hb,hab⟩
 | acc ha hb hab=>exact ⟨_,_,rfl,rfl,hb,ha,Ne.symm hab⟩
 | ref ha hb hab=>exact ⟨_,_,rfl,rfl,hb,ha,Ne.symm hab⟩
theorem zvz (h:Wst c w xs ls now) {a b:Nat} (ha:1 ≤ a∧a ≤ c.N) (hb:1 ≤ b∧b ≤ c.N) (hl:ls.length < 1000) {i:Int} {p g:Lg} (hi:I64 i):
  Calls Tryz.prog 29 #[.pointer (some ⟨c.wb,0,none⟩),.int .i64 a,.int .i64 b,.int .i64 i,.agg p.cells,.agg g.cells] w fun e w'=>(∃ v,e=.returned v)∧Nx c (ls.length + 1) w':=by
 by_cases hab:a=b
 ·subst hab
  obtain ⟨S,hw⟩:=h.wx
  obtain ⟨n,D,tb,q,at1⟩:=hw.at_ ha
  rw [← hw.wb]
  refine (zod (p:=p) (g:=g) (i:=i) hw.mw (.inr (.inr ⟨⟨_,_,at1,at1⟩,rfl⟩))).mono ?_
  rintro e w' ⟨rfl,gg⟩
  exact ⟨⟨_,rfl⟩,Wst.nx ⟨⟨S,hw.goes gg⟩,h.inv,h.nk,h.n8⟩ (by omega)⟩
 ·refine (zmu h.wx ha hb hab hl hi).mono ?_
  rintro e w' ⟨k,rfl,⟨_,_,wx⟩ | ⟨_,hf,hp,wx⟩ | ⟨_,hf,_,hp,j,f,B',hj,wx⟩⟩
  ·exact ⟨⟨_,rfl⟩,Wst.nx ⟨wx,h.inv,h.nk,h.n8⟩ (by omega)⟩
  ·exact ⟨⟨_,rfl⟩,Wst.nx ⟨wx,zom h.inv ha hb hab hp,h.nk,h.n8⟩ (by simp)⟩
  ·refine ⟨⟨_,rfl⟩,Wst.nx ⟨wx,zy8 h.inv ha hb hab hp hj ?_,h.nk,h.n8⟩ (by omega)⟩
   obtain ⟨S,hh⟩:=wx
   obtain ⟨n,D,tb,q,_⟩:=hh.at_ ha
   have r:=q.run
   rw [upd_at] at r
   obtain ⟨B1,r1,r2⟩:=Run.split (show Run [] ((xs a).L ++ (zkt (xs a).sd i b p g now).take j) B' from r)
   obtain ⟨S0,h0⟩:=h.wx
   obtain ⟨n0,D0,tb0,q0,_⟩:=h0.at_ ha
   rw [Run.det q0.run r1]
   exact r2
theorem zadd (h:Wst c w xs ls now) {a:Nat} (ha:1 ≤ a∧a ≤ c.N) (hl:ls.length < 1000) (i:Int):
  Calls Tryz.prog 22 #[.pointer (some ⟨c.wb,0,none⟩),.int .i64 a,.int .i64 i] w fun e w'=>(∃ v,e=.returned v)∧Nx c (ls.length + 1) w':=by
 cases hf:(xs a).fell with
 | some f=>
  obtain ⟨S,hw⟩:=h.wx
  obtain ⟨n,D,tb,q,at1⟩:=hw.at_ ha
  have hh:=q.has
  rw [hf] at hh
  rw [← hw.wb]
  refine (zr3 (i:=i) hw.mw at1 (hh.off hw.mw)).mono ?_
  rintro e w' ⟨rfl,rfl⟩
  exact ⟨⟨_,rfl⟩,Wst.nx h (by omega)⟩
 | none=>
  by_cases hs:∃ s,getA (xs a).B i=some s∧s.d.r=1
  ·obtain ⟨s,hs,hr⟩:=hs
   obtain ⟨di,m,m1,m2,m3,mq,_⟩:=(h.inv.node a ha.1 ha.2).book i s hs
   have fi:=(h.wx.fine ha).at hs
   refine (zvs h.wx ha hf hs hr mq ⟨m1,m2⟩ (Ne.symm m3) hl).mono ?_
   rintro e w' ⟨rfl,wx⟩
   exact ⟨⟨_,rfl⟩,Wst.nx ⟨wx,h.inv.snoc (.prop (s:=s) ha ⟨m1,m2⟩ (Ne.symm m3) (by rw [di];exact hs) rfl hr mq (zh7 fi.2.1) fi.2.2.1),h.nk,h.n8⟩ (by simp)⟩
  ·obtain ⟨S,hw⟩:=h.wx
   obtain ⟨n,D,tb,q,at1⟩:=hw.at_ ha
   have hb:zfz (getA D.M i)=false:=by
    cases e:getA D.M i with
    | none=>rfl
    | some en=>
     have e2:getA (xs a).B i=some en.s:=by rw [← q.book,zhd,e];rfl
     show (true && (en.s.d.r == 1))=false
     rw [Bool.true_and]
     exact beq_eq_false_iff_ne.2 fun r=>hs ⟨_,e2,r⟩
   rw [← hw.wb]
   refine (zr2 (i:=i) hw.mw (q.live hf).1 hb).mono ?_
   rintro e w' ⟨rfl,gg⟩
   exact ⟨⟨_,rfl⟩,Wst.nx ⟨⟨S,hw.goes gg⟩,h.inv,h.nk,h.n8⟩ (by omega)⟩
theorem A_arm (h:Wst c w xs ls now) {a:Nat} (ha:1 ≤ a∧a ≤ c.N) {i:Int} (hi:-1 ≤ i∧i < 9223372036854775808):
  Calls Tryz.prog 17 #[.pointer (some ⟨c.wb,0,none⟩),.int .i64 a,.int .i64 i] w fun e w'=>(∃ v,e=.returned v)∧Nx c ls.length w':=by
 refine (W_arm h.wx ha hi).mono ?_
 rintro e w' ⟨rfl,wx⟩
 exact ⟨⟨_,rfl⟩,Wst.nx ⟨wx,h.inv.calm a _,h.nk,h.n8⟩ (zadw _)⟩
theorem zv0 (h:Wst c w xs ls now) {a:Nat} (ha:1 ≤ a∧a ≤ c.N) {ao:Option Addr} {cc:Nat} {K:List Int} (HK:KeepAt w ao K):
  Calls Tryz.prog 19 #[.pointer (some ⟨c.wb,0,none⟩),.int .i64 a,.slice ao K.length cc] w fun e w'=>(∃ v,e=.returned v)∧Nx c ls.length w':=by
 refine (zmv h.wx ha HK).mono ?_
 rintro e w' ⟨rfl,L,B,came,_,wx⟩
 exact ⟨⟨_,rfl⟩,Wst.nx ⟨wx,h.inv.back ha.1 ha.2 came,h.nk,h.n8⟩ (zadw _)⟩
theorem A_turn (h:Wst c w xs ls now) (k n:Int):
  Calls Tryz.prog 27 #[.pointer (some ⟨c.wb,0,none⟩),.int .i64 k,.int .i64 n] w fun e w'=>(∃ v,e=.returned v)∧Nx c ls.length w':=by
 obtain ⟨S,hw⟩:=h.wx
 rw [← hw.wb]
 refine (zze hw.mw (by rw [hw.now];exact h.nk) k n).mono ?_
 rintro e w' ⟨v,now',rfl,nk,g⟩
 exact ⟨⟨_,rfl⟩,Wst.nx (now:=now') (xs:=xs) (ls:=ls) ⟨⟨_,⟨g.mw,hw.u,hw.wb,hw.nb,hw.xnb,hw.nn,hw.says,rfl,hw.hF,hw.hT,hw.no,fun j j1 j2=>(hw.ni j j1 j2).same rfl rfl rfl rfl,hw.exg g,hw.cut⟩⟩,h.inv,nk,h.n8⟩ (zadw _)⟩
theorem zzf (h:Wst c w xs ls now) (hl:ls.length < 1000) (k:Int):
  Calls Tryz.prog 30 #[.pointer (some ⟨c.nb,0,none⟩),.int .i64 k] w fun e w'=>(∃ v,e=.returned v)∧Nx c (ls.length + 1) w':=by
 by_cases hk:k < 0 ∨ (ls.length:Int) ≤ k
 ·obtain ⟨S,hw⟩:=h.wx
  rw [← hw.xnb]
  refine (zsa hw.mw.netAt (by rw [hw.len];exact hk)).mono ?_
  rintro e w' ⟨rfl,hb⟩
  exact ⟨⟨_,rfl⟩,Wst.nx ⟨h.wx.below hb,h.inv,h.nk,h.n8⟩ (by omega)⟩
 ·obtain ⟨j,rfl⟩:∃ j:Nat,k=j:=⟨k.toNat,by omega⟩
  have hj:j < ls.length:=by omega
  have hg:ls[j]?=some ls[j]:=zady hj
  have lo:=h.inv.lets _ (List.mem_of_getElem? hg)
  refine (zqp h.wx hg (by have:=lo.small;omega) hl).mono ?_
  rintro e w' ⟨rfl,wx⟩
  exact ⟨⟨_,rfl⟩,Wst.nx ⟨wx,h.inv.snoc lo,h.nk,h.n8⟩ (by simp)⟩
theorem A_lose (h:Wst c w xs ls now) (hl:ls.length ≤ 1000) (k:Int):
  Calls Tryz.prog 32 #[.pointer (some ⟨c.nb,0,none⟩),.int .i64 k] w fun e w'=>(∃ v,e=.returned v)∧Nx c ls.length w':=by
 by_cases hk:k < 0 ∨ (ls.length:Int) ≤ k
 ·obtain ⟨S,hw⟩:=h.wx
  rw [← hw.xnb]
  refine (zzb hw.mw.netAt (by rw [hw.len];exact hk)).mono ?_
  rintro e w' ⟨rfl,hb⟩
  exact ⟨⟨_,rfl⟩,Wst.nx ⟨h.wx.below hb,h.inv,h.nk,h.n8⟩ (zadw _)⟩
 ·obtain ⟨j,rfl⟩:∃ j:Nat,k=j:=⟨k.toNat,by omega⟩
  have hj:j < ls.length:=by omega
  have hg:ls[j]?=some ls[j]:=zady hj
  have lo:=h.inv.lets _ (List.mem_of_getElem? hg)
  obtain ⟨S,hw⟩:=h.wx
  obtain ⟨y,h1,h2,h3,h4⟩:=zgi (X:=S.X) (k:=j) (f:=ls[j].1) (t:=ls[j].2.1) (l:=ls[j].2.2) (by rw [hw.says];exact hg)
  rw [← hw.xnb]
  refine (zadc hw.mw.netAt h1 (by rw [h4];have:=lo.small;omega) (by rw [hw.len];omega)).mono ?_
  rintro e w' ⟨rfl,X',t,s⟩
  have g:=hw.mw.net t
  exact ⟨⟨_,rfl⟩,Wst.nx ⟨⟨_,hw.to0 g t.nb t.nodes (by rw [s,hw.says])⟩,h.inv.erase j,h.nk,h.n8⟩ (by rw [List.length_eraseIdx,if_pos hj];omega)⟩
end
end
section
open Sx (Ab DW Turns Did Foot MapIs)
section
variable {c:Wd} {w w':World} {xs:Nat→Nod} {ls:List (Int × Int × List Nat)} {now:Cl}
theorem MW.ways {S:MS} (h:MW w S) {f:Int→Int→Bool} (hN:NetAt w' { S.X with cut:=f }) (hc:Comp w w' S.X.all S.X.all):Goes w S w' { S with X:={ S.X with cut:=f },cut:=f }:=
 h.step .net hc ⟨hN,rfl⟩ fun j hj=>by cases j <;> first | rfl | exact absurd rfl hj
theorem W_cut (h:WX c w xs ls now) {a b:Nat} (ha:1 ≤ a∧a ≤ c.N) (hb:1 ≤ b∧b ≤ c.N) (hab:a ≠ b) (v:Bool):
  Calls Tryz.prog 20 #[.pointer (some ⟨c.nb,0,none⟩),.int .i64 a,.int .i64 b,.bool v] w fun e w'=>e=.returned (.bool true)∧WX { c with cut:=setW c.cut a b v } w' xs ls now:=by
 obtain ⟨S,hw⟩:=h
 have K:Calls Tryz.prog 20 #[.pointer (some ⟨S.X.nb,0,none⟩),.int .i64 a,.int .i64 b,.bool v] w fun e w'=>e=.returned (.bool true)∧WX { c with cut:=setW c.cut a b v } w' xs ls now:=by
  refine (Cut_ok hw.mw.netAt (eq_true (by omega)) (eq_true (by rw [hw.nn];omega)) (eq_true (by omega)) (eq_true (by rw [hw.nn];omega)) (by simp;omega) v).mono ?_
  rintro e w' ⟨rfl,hN,hc⟩
  have g:=hw.mw.ways hN hc
  refine ⟨rfl,_,⟨g.mw,hw.u,hw.wb,hw.nb,hw.xnb,hw.nn,hw.says,hw.now,hw.hF,hw.hT,hw.no,fun j j1 j2=>(hw.ni j j1 j2).same rfl rfl rfl rfl,hw.exg g,?_⟩⟩
  show setW S.X.cut a b v=setW c.cut a b v
  rw [hw.mw.netCut.2,hw.cut]
 rw [hw.xnb] at K
 exact K
theorem A_cut (h:Wst c w xs ls now) {a b:Nat} (ha:1 ≤ a∧a ≤ c.N) (hb:1 ≤ b∧b ≤ c.N) (v:Bool):
  Calls Tryz.prog 20 #[.pointer (some ⟨c.nb,0,none⟩),.int .i64 a,.int .i64 b,.bool v] w fun e w'=>(∃ v,e=.returned v)∧Nx c ls.length w':=by
 by_cases hab:a=b
 ·subst hab
  obtain ⟨S,hw⟩:=h.wx
  rw [← hw.xnb]
  refine (zzc hw.mw.netAt (a:=a) (eq_true (by omega)) (eq_true (by rw [hw.nn];omega)) v).mono ?_
  rintro e w' ⟨rfl,hbl⟩
  exact ⟨⟨_,rfl⟩,Wst.nx ⟨h.wx.below hbl,h.inv,h.nk,h.n8⟩ (zadw _)⟩
 ·refine (W_cut h.wx ha hb hab v).mono ?_
  rintro e w' ⟨rfl,wx⟩
  exact ⟨⟨_,rfl⟩,_,_,_,_,⟨wx,h.inv,h.nk,h.n8⟩,zadw _⟩
theorem WI.none0 {S:MS} (h:WI c w S xs ls now):S.at_ 0=.pointer none:=by
 unfold MS.at_
 rw [h.no 0 (.inl (by decide))]
 rfl
theorem zv1 (h:Wst c w xs ls now) (hl:ls.length ≤ 1000) (k free:Int):
  Calls Tryz.prog 24 #[.pointer (some ⟨c.wb,0,none⟩),.int .i64 k,.int .i64 free] w fun e w'=>(∃ v,e=.returned v)∧Nx c ls.length w':=by
 by_cases hk:k < 0 ∨ (ls.length:Int) ≤ k
 ·obtain ⟨S,hw⟩:=h.wx
  rw [← hw.wb]
  refine (zgs (free:=free) hw.mw hw.nbx hw.none0 (zon hw.mw.netAt (by rw [hw.len];exact hk))).mono ?_
  rintro e w' ⟨rfl,g⟩
  exact ⟨⟨_,rfl⟩,Wst.nx ⟨⟨S,hw.goes g⟩,h.inv,h.nk,h.n8⟩ (zadw _)⟩
 obtain ⟨j,rfl⟩:∃ j:Nat,k=j:=⟨k.toNat,by omega⟩
 have hj:j < ls.length:=by omega
 have hg:ls[j]?=some ls[j]:=zady hj
 have lo:=h.inv.lets _ (List.mem_of_getElem? hg)
 generalize hx:ls[j]=x at hg lo
 have le:(ls.eraseIdx j).length=ls.length - 1:=by rw [List.length_eraseIdx,if_pos hj]
 obtain ⟨f,t,e1,e2,hf,ht,hft⟩:=lo.ends
 cases hct:c.cut (min (f:Int) t) (max (f:Int) t) with
 | true=>
  obtain ⟨S,hw⟩:=h.wx
  obtain ⟨y,h1,h2,h3,h4⟩:=zgi (X:=S.X) (k:=j) (f:=x.1) (t:=x.2.1) (l:=x.2.2) (by rw [hw.says];exact hg)
  have nn:=hw.nn
  rw [← hw.wb]
  refine (zgs (free:=free) hw.mw hw.nbx hw.none0 (zoo hw.mw.netAt h1 (by rw [h4];have:=lo.small;omega) (eq_true (by rw [h2,e1];omega)) (eq_true (by rw [h2,e1];omega)) (eq_true (by rw [h3,e2];omega)) (eq_true (by rw [h3,e2];omega)) (by rw [h2,h3,e1,e2];simp;omega) (by rw [h2,h3,e1,e2,hw.mw.netCut.2,hw.cut];exact hct))).mono ?_
  rintro e w' ⟨rfl,g⟩
  exact ⟨⟨_,rfl⟩,Wst.nx ⟨⟨S,hw.goes g⟩,h.inv,h.nk,h.n8⟩ (zadw _)⟩
 | false=>
  cases lo with
  | prop ha hb hab hs hd r q ok sm=>
   rename_i a b dd s
   obtain rfl:a=f:=by have:(a:Int)=f:=e1;omega
   obtain rfl:b=t:=by have:(b:Int)=t:=e2;omega
   cases hfl:(xs b).fell with
   | some _=>
    refine (zvt h.wx ha hb hab hct (by rw [hfl];rfl) hg (by have:=zb5 (zax dd);omega) hl).mono ?_
    rintro e w' ⟨rfl,wx⟩
    exact ⟨⟨_,rfl⟩,Wst.nx ⟨wx,h.inv.erase j,h.nk,h.n8⟩ (by omega)⟩
   | none=>
    refine (zqj h.wx ha hb hab hct hfl hg ok sm hl).mono ?_
    rintro e w' ⟨rfl,⟨z,wx⟩ | ⟨z,wx⟩ | ⟨z,_,wx⟩⟩
    ·exact ⟨⟨_,rfl⟩,Wst.nx ⟨wx,zqo h.inv ha hb hab hs hd r q ok z,h.nk,h.n8⟩ (by rw [List.length_append,le];simp;omega)⟩
    ·exact ⟨⟨_,rfl⟩,Wst.nx ⟨wx,zqn h.inv ha hb hab hs hd r q sm z,h.nk,h.n8⟩ (by rw [List.length_append,le];simp;omega)⟩
    ·exact ⟨⟨_,rfl⟩,Wst.nx ⟨wx,zvw h.inv ha hb hab hs hd r q,h.nk,h.n8⟩ (by omega)⟩
  | acc ha hb hab hs hd r q h2 hd2 ok sm=>
   rename_i a b dd s s2
   obtain rfl:b=f:=by have:(b:Int)=f:=e1;omega
   obtain rfl:a=t:=by have:(a:Int)=t:=e2;omega
   cases hfl:(xs a).fell with
   | some _=>
    refine (zvt h.wx hb ha (Ne.symm hab) hct (by rw [hfl];rfl) hg (by have:=zb5 (zbg (zau dd a));omega) hl).mono ?_
    rintro e w' ⟨rfl,wx⟩
    exact ⟨⟨_,rfl⟩,Wst.nx ⟨wx,h.inv.erase j,h.nk,h.n8⟩ (by omega)⟩
   | none=>
    refine (zada h.wx ha hb hab hct hfl (h.inv.node a ha.1 ha.2).words hs hd r q hg ok sm hl).mono ?_
    rintro e w' ⟨rfl,wx⟩
    exact ⟨⟨_,rfl⟩,Wst.nx ⟨wx,zvx h.inv ha hb hs hd r q h2 hd2,h.nk,h.n8⟩ (by omega)⟩
  | ref ha hb hab hs r q hi hc=>
   rename_i a b i cd s
   obtain rfl:b=f:=by have:(b:Int)=f:=e1;omega
   obtain rfl:a=t:=by have:(a:Int)=t:=e2;omega
   cases hfl:(xs a).fell with
   | some _=>
    refine (zvt h.wx hb ha (Ne.symm hab) hct (by rw [hfl];rfl) hg (by have:=zhe i cd;omega) hl).mono ?_
    rintro e w' ⟨rfl,wx⟩
    exact ⟨⟨_,rfl⟩,Wst.nx ⟨wx,h.inv.erase j,h.nk,h.n8⟩ (by omega)⟩
   | none=>
    refine (zadb h.wx ha hb hab hct hfl (h.inv.node a ha.1 ha.2).words hs r q hi hc hg hl).mono ?_
    rintro e w' ⟨rfl,wx⟩
    exact ⟨⟨_,rfl⟩,Wst.nx ⟨wx,zvy h.inv ha,h.nk,h.n8⟩ (by omega)⟩
end
end
section
def zi2 (a:Nat) (i:Int) (x:Int × Int × List Nat):Prop:=∃ m,zee x.2.2=(0,m)∧m.i=i∧((m.k=1∧x.1=a) ∨ (m.k ≠ 1∧x.2.1=a))
def Ans (x:Int × Int × List Nat):Prop:=∃ m,zee x.2.2=(0,m)∧m.k ≠ 1
section
variable {a b n:Nat} {i cd:Int} {dd:Dl}
theorem zoq (h:za5 (zau dd a)=true):zee (zbi (zbg (zau dd a)))=(0,zbg (zau dd a)):=zim (.inr rfl) (zfx h).1
theorem zor (hi:1 ≤ i∧i ≤ 1073741824) (hc:1 ≤ cd∧cd ≤ 24):zee (putC i cd)=(0,msgR i cd):=by
 refine zil ?_
 unfold idE refE
 rw [if_neg (by omega),if_neg (by omega)]
theorem zsb (ok:errD dd=0):zi2 a dd.i ((a:Int),(b:Int),zbi (zax dd)):=⟨zax dd,zf2 ok,rfl,.inl ⟨rfl,rfl⟩⟩
theorem zv2 (ok:za5 (zau dd a)=true):zi2 a dd.i ((b:Int),(a:Int),zbi (zbg (zau dd a))):=
 ⟨_,zoq ok,rfl,.inr ⟨show (2:Int) ≠ 1 by decide,rfl⟩⟩
theorem zv3 (hi:1 ≤ i∧i ≤ 1073741824) (hc:1 ≤ cd∧cd ≤ 24):zi2 a i ((b:Int),(a:Int),putC i cd):=
 ⟨_,zor hi hc,rfl,.inr ⟨show (3:Int) ≠ 1 by decide,rfl⟩⟩
theorem zade (ok:za5 (zau dd a)=true):Ans ((b:Int),(a:Int),zbi (zbg (zau dd a))):=⟨_,zoq ok,show (2:Int) ≠ 1 by decide⟩
theorem zadf (hi:1 ≤ i∧i ≤ 1073741824) (hc:1 ≤ cd∧cd ≤ 24):Ans ((b:Int),(a:Int),putC i cd):=⟨_,zor hi hc,show (3:Int) ≠ 1 by decide⟩
theorem zv4 (ok:errD dd=0) (h:Ans ((a:Int),(b:Int),zbi (zax dd))):False:=by
 obtain ⟨m,h1,h2⟩:=h
 have e:=(Prod.mk.inj ((zf2 ok).symm.trans h1)).2
 subst e
 exact h2 rfl
theorem zv5 {k:Int} (ok:errD dd=0) (h:zi2 n k ((a:Int),(b:Int),zbi (zax dd))):n=a∧k=dd.i:=by
 obtain ⟨m,h1,h2,h3⟩:=h
 have e:=(Prod.mk.inj ((zf2 ok).symm.trans h1)).2
 subst e
 rcases h3 with ⟨_,h3⟩ | ⟨h3,_⟩
 ·have h3:(a:Int)=n:=h3
  exact ⟨by omega,h2.symm⟩
 ·exact absurd rfl h3
theorem of_acc {k:Int} (ok:za5 (zau dd a)=true) (h:zi2 n k ((b:Int),(a:Int),zbi (zbg (zau dd a)))):n=a∧k=dd.i:=by
 obtain ⟨m,h1,h2,h3⟩:=h
 have e:=(Prod.mk.inj ((zoq ok).symm.trans h1)).2
 subst e
 rcases h3 with ⟨h3,_⟩ | ⟨_,h3⟩
 ·exact absurd h3 (by show ¬ (2:Int)=1;decide)
 ·have h3:(a:Int)=n:=h3
  exact ⟨by omega,h2.symm⟩
theorem of_ref {k:Int} (hi:1 ≤ i∧i ≤ 1073741824) (hc:1 ≤ cd∧cd ≤ 24) (h:zi2 n k ((b:Int),(a:Int),putC i cd)):n=a∧k=i:=by
 obtain ⟨m,h1,h2,h3⟩:=h
 have e:=(Prod.mk.inj ((zor hi hc).symm.trans h1)).2
 subst e
 rcases h3 with ⟨h3,_⟩ | ⟨_,h3⟩
 ·exact absurd h3 (by show ¬ (3:Int)=1;decide)
 ·have h3:(a:Int)=n:=h3
  exact ⟨by omega,h2.symm⟩
end
def Pd (y:Nod) (n:Nat) (ls:List (Int × Int × List Nat)) (k:Int):Prop:=(getA y.told k).isSome=true ∨ ∃ x ∈ ls,zi2 n k x
def Pend (N:Nat) (xs:Nat→Nod) (ls:List (Int × Int × List Nat)):Prop:=∀ n,1 ≤ n→n ≤ N→∀ k s,getA (xs n).B k=some s→s.d.r=1→Pd (xs n) n ls k
def Calms (N:Nat) (xs:Nat→Nod):Prop:=∀ n,1 ≤ n→n ≤ N→(xs n).fell=none∧(xs n).calm=true
section
variable {N:Nat} {xs:Nat→Nod} {l l':List (Int × Int × List Nat)} {x y:Int × Int × List Nat} {y':Nod} {a b:Nat} {dd:Dl}
theorem Calms.upd (h:Calms N xs) (h1:y'.fell=(xs a).fell) (h2:y'.calm=(xs a).calm):Calms N (upd xs a y'):=fun n n1 n2=>by
 by_cases e:n=a
 ·subst e
  rw [upd_at,h1,h2]
  exact h n n1 n2
 ·rw [upd_ne _ _ e]
  exact h n n1 n2
theorem Pd.mono {n:Nat} {z:Nod} {k:Int} (h:Pd z n l k) (hs:∀ x ∈ l,x ∈ l'):Pd z n l' k:=by
 rcases h with h | ⟨x,hx,ha⟩
 ·exact .inl h
 ·exact .inr ⟨x,hs x hx,ha⟩
theorem Pend.turn (h:Pend N xs (x :: l)) {i:Int} (h1:∀ n k,zi2 n k x→n=a∧k=i) (h2:zi2 a i y):Pend N xs (l ++ [y]):=fun n n1 n2 k s hs hr=>by
 rcases h n n1 n2 k s hs hr with q | ⟨z,hz,q⟩
 ·exact .inl q
 ·rcases List.mem_cons.1 hz with rfl | hz
  ·obtain ⟨rfl,rfl⟩:=h1 n k q
   exact .inr ⟨y,List.mem_append_right _ (List.mem_singleton.2 rfl),h2⟩
  ·exact .inr ⟨z,List.mem_append_left _ hz,q⟩
theorem Pend.second (h:Pend N xs l) {B:List (Int × Sw)} {L:List It} (hB:∀ k s,getA B k=some s→s.d.r=1→getA (xs b).B k=some s):Pend N (upd xs b { xs b with L:=L,B:=B }) l:=fun n n1 n2 k s hs hr=>by
 by_cases e:n=b
 ·subst e
  rw [upd_at] at hs ⊢
  exact h n n1 n2 k s (hB k s hs hr) hr
 ·rw [upd_ne _ _ e] at hs ⊢
  exact h n n1 n2 k s hs hr
theorem zv6 {B:List (Int × Sw)} {i:Int} {z:Sw} (hz:z.d.r ≠ 1):∀ k s,getA (putA B i z) k=some s→s.d.r=1→getA B k=some s:=fun k s hs hr=>by
 rw [za7] at hs
 split at hs
 ·cases hs
  exact absurd hr hz
 ·exact hs
theorem Pend.told (h:Pend N xs (x :: l)) {i:Int} (h1:∀ n k,zi2 n k x→n=a∧k=i) {t:List (Int × Value)} (ht:(getA t i).isSome=true) (hm:∀ k,(getA (xs a).told k).isSome=true→(getA t k).isSome=true):Pend N (upd xs a { xs a with told:=t }) l:=fun n n1 n2 k s hs hr=>by
 have K:Pd (xs n) n (x :: l) k:=by
  by_cases e:n=a
  ·subst e
   rw [upd_at] at hs
   exact h n n1 n2 k s hs hr
  ·rw [upd_ne _ _ e] at hs
   exact h n n1 n2 k s hs hr
 rcases K with q | ⟨z,hz,q⟩
 ·refine .inl ?_
  by_cases e:n=a
  ·subst e
   rw [upd_at]
   exact hm k q
  ·rw [upd_ne _ _ e]
   exact q
 ·rcases List.mem_cons.1 hz with rfl | hz
  ·obtain ⟨rfl,rfl⟩:=h1 n k q
   refine .inl ?_
   rw [upd_at]
   exact ht
  ·exact .inr ⟨z,hz,q⟩
theorem zqq {t:List (Int × Value)} {i:Int} {v:Value}:(getA (putA t i v) i).isSome=true:=by
 rw [za7,if_pos rfl]
 rfl
theorem zm0 {t:List (Int × Value)} {i:Int} {v:Value} (k:Int) (h:(getA t k).isSome=true):(getA (putA t i v) k).isSome=true:=by
 rw [za7]
 split
 ·rfl
 ·exact h
theorem zsc {t:List (Int × Value)} {i cd:Int}:(getA (zi8 t i cd) i).isSome=true:=by
 unfold zi8
 split
 ·assumption
 ·exact zqq
theorem zos {t:List (Int × Value)} {i cd:Int} (k:Int) (h:(getA t k).isSome=true):(getA (zi8 t i cd) k).isSome=true:=by
 unfold zi8
 split
 ·exact h
 ·exact zm0 k h
end
end
section
open Sx (Ab DW Turns Did Foot MapIs)
attribute [local go_sem ↓] zad
attribute [local go_sem] zaf zai zaj zal zab zah zac zak zae zaw za2 Sx.run_mk Ext.row Ext.soft_
theorem Pick_2 {v:Int} (w:World):Calls Tryz.prog 6 #[.int .i64 v,.int .i64 2] w fun e w'=>∃ b,(0 ≤ b∧b < 2)∧e=.returned (.int .i64 b)∧w'=w:=by
 have h1:-2 < v.tmod 2∧v.tmod 2 < 2:=by
  rw [Int.tmod_eq_emod]
  split <;> omega
 by_cases h:v.tmod 2 < 0
 ·have h2:IntKind.i64.wrap (v.tmod 2 + 2)=v.tmod 2 + 2:=zar (by omega) (by omega)
  have HH:=zadv (zadx h h1)
  have h:(v.tmod 2 < 0)=True:=eq_true h
  clear h1
  go_enter Tryz.func6,Tryz.ntmps6
  go_wp2
  go_ret
  exact ⟨_,by have:=HH.out;omega,rfl,rfl⟩
 ·have HH:=zadv (zadx h h1)
  have h:(v.tmod 2 < 0)=False:=eq_false h
  clear h1
  go_enter Tryz.func6,Tryz.ntmps6
  go_wp2
  go_ret
  exact ⟨_,by have:=HH.out;omega,rfl,rfl⟩
theorem zaab {v:Int} (w:World):Calls Tryz.prog 6 #[.int .i64 v,.int .i64 3] w fun e w'=>∃ b,(0 ≤ b∧b < 3)∧e=.returned (.int .i64 b)∧w'=w:=by
 have h1:-3 < v.tmod 3∧v.tmod 3 < 3:=by
  rw [Int.tmod_eq_emod]
  split <;> omega
 by_cases h:v.tmod 3 < 0
 ·have h2:IntKind.i64.wrap (v.tmod 3 + 3)=v.tmod 3 + 3:=zar (by omega) (by omega)
  have HH:=zadv (zadx h h1)
  have h:(v.tmod 3 < 0)=True:=eq_true h
  clear h1
  go_enter Tryz.func6,Tryz.ntmps6
  go_wp2
  go_ret
  exact ⟨_,by have:=HH.out;omega,rfl,rfl⟩
 ·have HH:=zadv (zadx h h1)
  have h:(v.tmod 3 < 0)=False:=eq_false h
  clear h1
  go_enter Tryz.func6,Tryz.ntmps6
  go_wp2
  go_ret
  exact ⟨_,by have:=HH.out;omega,rfl,rfl⟩
theorem Pick_4 {v:Int} (w:World):Calls Tryz.prog 6 #[.int .i64 v,.int .i64 4] w fun e w'=>∃ b,(0 ≤ b∧b < 4)∧e=.returned (.int .i64 b)∧w'=w:=by
 have h1:-4 < v.tmod 4∧v.tmod 4 < 4:=by
  rw [Int.tmod_eq_emod]
  split <;> omega
 by_cases h:v.tmod 4 < 0
 ·have h2:IntKind.i64.wrap (v.tmod 4 + 4)=v.tmod 4 + 4:=zar (by omega) (by omega)
  have HH:=zadv (zadx h h1)
  have h:(v.tmod 4 < 0)=True:=eq_true h
  clear h1
  go_enter Tryz.func6,Tryz.ntmps6
  go_wp2
  go_ret
  exact ⟨_,by have:=HH.out;omega,rfl,rfl⟩
 ·have HH:=zadv (zadx h h1)
  have h:(v.tmod 4 < 0)=False:=eq_false h
  clear h1
  go_enter Tryz.func6,Tryz.ntmps6
  go_wp2
  go_ret
  exact ⟨_,by have:=HH.out;omega,rfl,rfl⟩
theorem Pick_5 {v:Int} (w:World):Calls Tryz.prog 6 #[.int .i64 v,.int .i64 5] w fun e w'=>∃ b,(0 ≤ b∧b < 5)∧e=.returned (.int .i64 b)∧w'=w:=by
 have h1:-5 < v.tmod 5∧v.tmod 5 < 5:=by
  rw [Int.tmod_eq_emod]
  split <;> omega
 by_cases h:v.tmod 5 < 0
 ·have h2:IntKind.i64.wrap (v.tmod 5 + 5)=v.tmod 5 + 5:=zar (by omega) (by omega)
  have HH:=zadv (zadx h h1)
  have h:(v.tmod 5 < 0)=True:=eq_true h
  clear h1
  go_enter Tryz.func6,Tryz.ntmps6
  go_wp2
  go_ret
  exact ⟨_,by have:=HH.out;omega,rfl,rfl⟩
 ·have HH:=zadv (zadx h h1)
  have h:(v.tmod 5 < 0)=False:=eq_false h
  clear h1
  go_enter Tryz.func6,Tryz.ntmps6
  go_wp2
  go_ret
  exact ⟨_,by have:=HH.out;omega,rfl,rfl⟩
theorem zadg {v:Int} (w:World):Calls Tryz.prog 6 #[.int .i64 v,.int .i64 10] w fun e w'=>∃ b,(0 ≤ b∧b < 10)∧e=.returned (.int .i64 b)∧w'=w:=by
 have h1:-10 < v.tmod 10∧v.tmod 10 < 10:=by
  rw [Int.tmod_eq_emod]
  split <;> omega
 by_cases h:v.tmod 10 < 0
 ·have h2:IntKind.i64.wrap (v.tmod 10 + 10)=v.tmod 10 + 10:=zar (by omega) (by omega)
  have HH:=zadv (zadx h h1)
  have h:(v.tmod 10 < 0)=True:=eq_true h
  clear h1
  go_enter Tryz.func6,Tryz.ntmps6
  go_wp2
  go_ret
  exact ⟨_,by have:=HH.out;omega,rfl,rfl⟩
 ·have HH:=zadv (zadx h h1)
  have h:(v.tmod 10 < 0)=False:=eq_false h
  clear h1
  go_enter Tryz.func6,Tryz.ntmps6
  go_wp2
  go_ret
  exact ⟨_,by have:=HH.out;omega,rfl,rfl⟩
theorem zadh {v:Int} (w:World):Calls Tryz.prog 6 #[.int .i64 v,.int .i64 40] w fun e w'=>∃ b,(0 ≤ b∧b < 40)∧e=.returned (.int .i64 b)∧w'=w:=by
 have h1:-40 < v.tmod 40∧v.tmod 40 < 40:=by
  rw [Int.tmod_eq_emod]
  split <;> omega
 by_cases h:v.tmod 40 < 0
 ·have h2:IntKind.i64.wrap (v.tmod 40 + 40)=v.tmod 40 + 40:=zar (by omega) (by omega)
  have HH:=zadv (zadx h h1)
  have h:(v.tmod 40 < 0)=True:=eq_true h
  clear h1
  go_enter Tryz.func6,Tryz.ntmps6
  go_wp2
  go_ret
  exact ⟨_,by have:=HH.out;omega,rfl,rfl⟩
 ·have HH:=zadv (zadx h h1)
  have h:(v.tmod 40 < 0)=False:=eq_false h
  clear h1
  go_enter Tryz.func6,Tryz.ntmps6
  go_wp2
  go_ret
  exact ⟨_,by have:=HH.out;omega,rfl,rfl⟩
theorem zaac {m:Nat} (hm:2 ≤ m∧m ≤ 5) {v:Int} (w:World):Calls Tryz.prog 6 #[.int .i64 v,.int .i64 m] w fun e w'=>∃ b,(0 ≤ b∧b < (m:Int))∧e=.returned (.int .i64 b)∧w'=w:=by
 have:m=2 ∨ m=3 ∨ m=4 ∨ m=5:=by omega
 rcases this with rfl | rfl | rfl | rfl
 ·exact Pick_2 w
 ·exact zaab w
 ·exact Pick_4 w
 ·exact Pick_5 w
structure Ac where
 d:Int
 a:Int
 b:Int
 i:Int
 k:Int
 n:Int
 f:Int
 p:Lg
 g:Lg
 v:Value
def Ac.cells (x:Ac):Array Value:=#[.int .i64 x.d,.int .i64 x.a,.int .i64 x.b,.int .i64 x.i,.int .i64 x.k,.int .i64 x.n,.int .i64 x.f,.int .i64 x.p.w,.int .i64 x.p.a,.int .i64 x.p.u,.int .i64 x.g.w,.int .i64 x.g.a,.int .i64 x.g.u,x.v]
section
variable (x:Ac)
theorem zot:x.cells.size=14:=rfl
theorem ac_0:x.cells[0]?=some (.int .i64 x.d):=rfl
theorem ac_0g (q:0 < x.cells.size):x.cells[0]'q=.int .i64 x.d:=rfl
theorem ac_1:x.cells[1]?=some (.int .i64 x.a):=rfl
theorem ac_1g (q:1 < x.cells.size):x.cells[1]'q=.int .i64 x.a:=rfl
theorem ac_2:x.cells[2]?=some (.int .i64 x.b):=rfl
theorem ac_2g (q:2 < x.cells.size):x.cells[2]'q=.int .i64 x.b:=rfl
theorem ac_3:x.cells[3]?=some (.int .i64 x.i):=rfl
theorem ac_3g (q:3 < x.cells.size):x.cells[3]'q=.int .i64 x.i:=rfl
theorem ac_4:x.cells[4]?=some (.int .i64 x.k):=rfl
theorem ac_4g (q:4 < x.cells.size):x.cells[4]'q=.int .i64 x.k:=rfl
theorem ac_5:x.cells[5]?=some (.int .i64 x.n):=rfl
theorem ac_5g (q:5 < x.cells.size):x.cells[5]'q=.int .i64 x.n:=rfl
theorem ac_6:x.cells[6]?=some (.int .i64 x.f):=rfl
theorem ac_6g (q:6 < x.cells.size):x.cells[6]'q=.int .i64 x.f:=rfl
theorem ac_13:x.cells[13]?=some (x.v):=rfl
theorem ac_13g (q:13 < x.cells.size):x.cells[13]'q=x.v:=rfl
theorem ac_p:sub x.cells 7 3=x.p.cells:=by kernel_rfl
theorem ac_q:sub x.cells 10 3=x.g.cells:=by kernel_rfl
end
attribute [local go_sem ↓] ac_0 ac_1 ac_2 ac_3 ac_4 ac_5 ac_6 ac_13
attribute [local go_sem] zot ac_0g ac_1g ac_2g ac_3g ac_4g ac_5g ac_6g ac_13g ac_p ac_q
theorem KeepAt.below {w w':World} {ao:Option Addr} {K:List Int} (h:KeepAt w ao K) (hb:Below w.heap.size w w'):KeepAt w' ao K:=
 h.keep fun b o x v hc hv=>by
  have lt:=World.block_lt_of_cell? w ⟨b,o,none⟩ hc
  rw [hv]
  exact (Sx.cell_block (hb.block b lt) _).1.trans hc
theorem Wst.below {c:Wd} {w w':World} {xs:Nat→Nod} {ls:List (Int × Int × List Nat)} {now:Cl} (h:Wst c w xs ls now) (hb:Below w.heap.size w w'):Wst c w' xs ls now:=⟨h.wx.below hb,h.inv,h.nk,h.n8⟩
theorem Nx.mono {c:Wd} {n m:Nat} {w:World} (h:Nx c n w) (hm:n ≤ m):Nx c m w:=by
 obtain ⟨f,xs,ls,now,h,hl⟩:=h
 exact ⟨f,xs,ls,now,h,Nat.le_trans hl hm⟩
theorem zou {c:Wd} {w:World} {xs:Nat→Nod} {ls:List (Int × Int × List Nat)} {now:Cl} (h:Wst c w xs ls now) {a:Nat} (ha:1 ≤ a∧a ≤ c.N) {v:Value} {ao:Option Addr} {cc:Nat} {K:List Int} (hv:v=.slice ao K.length cc) (HK:KeepAt w ao K):
  Calls Tryz.prog 19 #[.pointer (some ⟨c.wb,0,none⟩),.int .i64 a,v] w fun e w'=>(∃ v,e=.returned v)∧Nx c ls.length w':=by
 subst hv
 exact zv0 h ha HK
set_option maxHeartbeats 8000000 in
theorem zzg {c:Wd} {w:World} {xs:Nat→Nod} {ls:List (Int × Int × List Nat)} {now:Cl} (h:Wst c w xs ls now) (hN:2 ≤ c.N∧c.N ≤ 5) (hl:ls.length < 1000) {x:Ac} (hi:I64 x.i) {ao:Option Addr} {cc:Nat} {K:List Int} (hv:x.v=.slice ao K.length cc) (HK:KeepAt w ao K):
  Calls Tryz.prog 10 #[.pointer (some ⟨c.wb,0,none⟩),.int .i64 c.N,.agg x.cells] w fun e w'=>e=.returned (.tuple #[])∧Nx c (ls.length + 1) w':=by
 have H:=zadv h
 have HN:=zadv hN
 have HI:=zadv (zadx hi (zadx hv HK))
 have HL:=zadv hl
 clear h hN hi hv HK hl
 go_enter Tryz.func10,Tryz.ntmps10
 go_upto_region 1 with (fail)
 have bx:=Bx.new w (x.cells) 33;generalize w.alloc (.cells (x.cells) 33)=V at bx ⊢;have rx:=bx.rowOf;have sx:=bx.soft
 have HV:=zadv (H.out.below bx.below)
 have KV:=zadv (HI.out.2.2.below bx.below)
 have LX:=zadv bx.row
 clear bx
 go_wp2_with fail
 refine (zaac HN.out V).mono ?_
 rintro _ V1 ⟨r1,hr1,rfl,rfl⟩
 have n5:=HN.out
 obtain ⟨a,ea⟩:∃ a:Nat,(a:Int)=1 + r1:=⟨(1 + r1).toNat,by omega⟩
 have wa:IntKind.i64.wrap (1 + r1)=a:=(zar (by omega) (by omega)).trans ea.symm
 have HA:=zadv (show 1 ≤ a∧a ≤ c.N by omega)
 clear hr1 ea
 go_wp2_with fail
 refine (zaac HN.out V1).mono ?_
 rintro _ V2 ⟨r2,hr2,rfl,rfl⟩
 obtain ⟨b,eb⟩:∃ b:Nat,(b:Int)=1 + r2:=⟨(1 + r2).toNat,by omega⟩
 have wb:IntKind.i64.wrap (1 + r2)=b:=(zar (by omega) (by omega)).trans eb.symm
 have HB:=zadv (show 1 ≤ b∧b ≤ c.N by omega)
 clear hr2 eb
 go_wp2_with fail
 refine (zadg V2).mono ?_
 rintro _ V3 ⟨r3,hr3,rfl,rfl⟩
 have h10:r3=0 ∨ r3=1 ∨ r3=2 ∨ r3=3 ∨ r3=4 ∨ r3=5 ∨ r3=6 ∨ r3=7 ∨ r3=8 ∨ r3=9:=by omega
 clear hr3 wa wb n5
 obtain ⟨mb,rw0⟩:=zol HV.out.wx
 rcases h10 with rfl | rfl | rfl | rfl | rfl | rfl | rfl | rfl | rfl | rfl
 ·go_wp2_with (go_at_call 29;refine (zvz HV.out HA.out HB.out HL.out HI.out.1).mono ?_;rintro _ U ⟨⟨v,rfl⟩,nx⟩;have NX:=zadv nx;clear nx)
  go_end0
  exact ⟨rfl,NX.out⟩
 ·go_wp2_with (go_at_call 22;refine (zadd HV.out HA.out HL.out x.i).mono ?_;rintro _ U ⟨⟨v,rfl⟩,nx⟩;have NX:=zadv nx;clear nx)
  go_end0
  exact ⟨rfl,NX.out⟩
 ·go_wp2_with (go_at_call 24;refine (zv1 HV.out (Nat.le_of_lt HL.out) x.k x.f).mono ?_;rintro _ U ⟨⟨v,rfl⟩,nx⟩;have NX:=zadv nx;clear nx)
  go_end0
  exact ⟨rfl,NX.out.mono (Nat.le_succ _)⟩
 ·go_upto_region 12 with (fail)
  (refine wp_region_still_tail 6 (by kernel_rfl) (by kernel_rfl) ?_;simp only [List.take_succ_cons,List.take_zero,List.drop_succ_cons,List.drop_zero];(iterate 6 still_step);refine wpStill_nil ?_)
  go_wp2_with (go_at_call 30;refine (zzf (HV.out.below (Below.refl _ _).drew) HL.out x.k).mono ?_;rintro _ U ⟨⟨v,rfl⟩,nx⟩;have NX:=zadv nx;clear nx)
  go_end0
  exact ⟨rfl,NX.out⟩
 ·go_upto_region 14 with (fail)
  (refine wp_region_still_tail 6 (by kernel_rfl) (by kernel_rfl) ?_;simp only [List.take_succ_cons,List.take_zero,List.drop_succ_cons,List.drop_zero];(iterate 6 still_step);refine wpStill_nil ?_)
  go_wp2_with (go_at_call 32;refine (A_lose (HV.out.below (Below.refl _ _).drew) (Nat.le_of_lt HL.out) x.k).mono ?_;rintro _ U ⟨⟨v,rfl⟩,nx⟩;have NX:=zadv nx;clear nx)
  go_end0
  exact ⟨rfl,NX.out.mono (Nat.le_succ _)⟩
 ·go_wp2_with (go_at_call 20;refine (A_cut HV.out HA.out HB.out true).mono ?_;rintro _ U ⟨⟨v,rfl⟩,nx⟩;have NX:=zadv nx;clear nx)
  go_end0
  exact ⟨rfl,NX.out.mono (Nat.le_succ _)⟩
 ·go_wp2_with (go_at_call 20;refine (A_cut HV.out HA.out HB.out false).mono ?_;rintro _ U ⟨⟨v,rfl⟩,nx⟩;have NX:=zadv nx;clear nx)
  go_end0
  exact ⟨rfl,NX.out.mono (Nat.le_succ _)⟩
 ·go_wp2_with (go_at_call 27;refine (A_turn HV.out x.k x.n).mono ?_;rintro _ U ⟨⟨v,rfl⟩,nx⟩;have NX:=zadv nx;clear nx)
  go_end0
  exact ⟨rfl,NX.out.mono (Nat.le_succ _)⟩
 ·go_wp2_with (first
   | (go_at_call 6;refine (zadh _).mono ?_;rintro _ W4 ⟨r4,hr4,rfl,rfl⟩)
   | (go_at_call 17;refine (A_arm (i:=r4) HV.out HA.out (by omega)).mono ?_;rintro _ U ⟨⟨v,rfl⟩,nx⟩;have NX:=zadv nx;clear nx))
  go_end0
  exact ⟨rfl,NX.out.mono (Nat.le_succ _)⟩
 ·go_wp2_with (go_at_call 19;refine (zou HV.out HA.out HI.out.2.1 KV.out).mono ?_;rintro _ U ⟨⟨v,rfl⟩,nx⟩;have NX:=zadv nx;clear nx)
  go_end0
  exact ⟨rfl,NX.out.mono (Nat.le_succ _)⟩
end
end Go.Proofs.YthjgiamfaijoeaaGreatDoor
