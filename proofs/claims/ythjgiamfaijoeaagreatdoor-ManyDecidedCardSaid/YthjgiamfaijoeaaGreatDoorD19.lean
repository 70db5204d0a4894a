/- What is proved: parts of the walk and of the plain law. No condition but those each law names. -/
import Derived.Test.YthjgiamfaijoeaaGreatDoorD16
import Derived.Test.YthjgiamfaijoeaaGreatDoorD18
import Derived.Test.YthjgiamfaijoeaaGreatDoorD00
set_option linter.unusedSimpArgs false
set_option linter.unusedVariables false
set_option maxRecDepth 100000
namespace Go.Proofs.YthjgiamfaijoeaaGreatDoor
open Go.RowKit
section
attribute [local go_sem ↓] zad
attribute [local go_sem] zaf zai zaj zal Ext.row
theorem zck {P:Program} {α:Type} {w:World} {mk:α→Value} {ob:α→World→Prop} {r:Result Next} {f:FuncId} {args:Array Value} (h:r=.ok (.enter f args) w)
  (hc:Calls P f args w fun e w2=>∃ x,e=.returned (mk x)∧(∃ g:Ext w,w2=g.val)∧ob x w2):Mk.Oper.makesUpon P w mk ob r:=by
 subst h
 exact ⟨rfl,hc⟩
abbrev PB:=Option Addr × Nat × Nat
def KP (i:Nat):Bool:=[2,3,4,8,11].contains i
def mkP (i:Nat) (x:PB):Value:=match i with
 | 2=>.pointer (some ⟨x.2.1,0,none⟩)
 | 3=>.pointer (some ⟨x.2.1,0,none⟩)
 | 4=>.pointer (some ⟨x.2.1,1,none⟩)
 | 8=>.slice x.1 x.2.1 x.2.2
 | 11=>.slice x.1 x.2.1 x.2.2
 | _=>undef
theorem mkP_2 (x:PB):mkP 2 x=.pointer (some ⟨x.2.1,0,none⟩):=rfl
theorem mkP_3 (x:PB):mkP 3 x=.pointer (some ⟨x.2.1,0,none⟩):=rfl
theorem mkP_4 (x:PB):mkP 4 x=.pointer (some ⟨x.2.1,1,none⟩):=rfl
theorem mkP_8 (x:PB):mkP 8 x=.slice x.1 x.2.1 x.2.2:=rfl
theorem zz0 (x:PB):mkP 11 x=.slice x.1 x.2.1 x.2.2:=rfl
def obP (kv:Array Value) (l1 l2:List Nat) (i:Nat) (x:PB) (w:World):Prop:=match i with
 | 2=>w.heap[x.2.1]?=some (.cells kv 247)
 | 3=>w.heap[x.2.1]?=some (.cells kv 247)
 | 4=>w.heap[x.2.1]?=some (.cells kv 247)
 | 8=>Sl w x.1 x.2.1 x.2.2 (bts l1)
 | 11=>Sl w x.1 x.2.1 x.2.2 (bts l2)
 | _=>True
theorem hpP (kv:Array Value) (l1 l2:List Nat):∀ i x (w1:World) (g:Ext w1),obP kv l1 l2 i x w1→obP kv l1 l2 i x g.val:=fun i x w1 g h=>by
 have hb:w1.heap[x.2.1]?=some (.cells kv 247)→g.val.heap[x.2.1]?=some (.cells kv 247):=fun h=>(g.below.block _ (zadu h).1).trans h
 unfold obP at *
 split at h
 ·exact hb h
 ·exact hb h
 ·exact hb h
 ·exact Sl.ext h g
 ·exact Sl.ext h g
 ·trivial
def zbi (m:Msg):List Nat:=intI m.k ++ intI m.i ++ zdx m 2 ++ m.h.l
def putC (i c:Int):List Nat:=intI 3 ++ intI i ++ intI c
theorem zxm {m:Msg} {k:Int} (hk:m.k=1 ∨ m.k=2) (h:idE m.i (zcg m)=k) (w:World):Calls Tryz.prog 156 #[.agg m.cells] w fun e w'=>e=.returned (.int .i64 k)∧Below w.heap.size w w':=h ▸ zia hk w
theorem ztz {i c:Int} {k:Int} (h:idE i (refE c)=k) (w:World):Calls Tryz.prog 156 #[.agg (msgR i c).cells] w fun e w'=>e=.returned (.int .i64 k)∧Below w.heap.size w w':=h ▸ zib i c w
set_option maxHeartbeats 4000000 in
theorem zic {w:World} (hf:Forms w) {m:Msg} (hk:m.k=1 ∨ m.k=2) (he:idE m.i (zcg m)=0) (hi:I64 m.i) (hp:LgI m.p) (hg:LgI m.g):Calls Tryz.prog 100 #[.agg (m.cells)] w (zfp (zbi m) w):=by
 have HKK:=zadv hk
 have HE:=zadv he
 have HI:=zadv hi
 have HP:=zadv hp
 have HG:=zadv hg
 have HK:=zadv (show I64 m.k by rcases hk with h | h <;> (rw [h];exact ⟨by decide,by decide⟩))
 clear hk he hi hp hg
 have HF:=zadv hf
 clear hf
 go_enter Tryz.func100,Tryz.ntmps100
 go_upto_region 1 with (fail)
 have bx:=Bx.new w (m.cells) 118;generalize w.alloc (.cells (m.cells) 118)=W at bx ⊢;have rx:=bx.rowOf;have sx:=bx.soft;have BX:=zadv bx;clear bx
 go_wp2_with fail
 refine (zxm HKK.out HE.out _).mono ?_;rintro _ W2 ⟨rfl,hb⟩;have bx:=BX.out.step hb;clear BX rx sx hb;have rx:=bx.rowOf;have sx:=bx.soft;have BX:=zadv bx;clear bx
 go_wp2_with fail
 have hlt:=(zadu BX.out.row).1
 refine Ls.wp_region_lays (K:=KP) (mk:=mkP) (ob:=obP (zbx 220 221 222) (intI (m.k)) (intI (m.k) ++ intI (m.i))) (hpP _ _ _) 13 (by kernel_rfl) (by kernel_rfl) ?_
 simp only [List.take_succ_cons,List.take_zero,List.drop_succ_cons,List.drop_zero]
 (refine Ls.grow_step rfl (fun k hk=>?_);go_simp;(refine hk _ ?_;clear hk k))
 (refine Ls.grow_step rfl (fun k hk=>?_);go_simp;(refine hk _ ?_;clear hk k))
 (refine Ls.grow_lay rfl (fun _=>rfl) (fun E g hk=>?_) ?_)
 ·refine zck (f:=157) (args:=#[.int .i64 (m.k)]) ?e (((zdn HKK.out g.val)).mono ?_)
  case e=>go_simp
  rintro _ _ ⟨rfl,rfl⟩
  exact ⟨(none,g.val.heap.size,0),rfl,⟨⟨_,zat _ _⟩,rfl⟩,heap_alloc_new _ _⟩
 simp only [Act.put,List.setIfInBounds_toArray,List.set_cons_succ,List.set_cons_zero,Nat.reduceAdd,mkP_2]
 (refine Ls.grow_lay rfl (fun _=>rfl) (fun E g hk=>?_) ?_)
 ·have h:=hk ⟨2,.data⟩ (by simp) rfl rfl
  clear hk
  go_simp
  exact ⟨E 2,rfl,⟨⟨_,Below.refl _ _⟩,rfl⟩,h⟩
 simp only [Act.put,List.setIfInBounds_toArray,List.set_cons_succ,List.set_cons_zero,Nat.reduceAdd,mkP_3]
 (refine Ls.grow_lay rfl (fun _=>rfl) (fun E g hk=>?_) ?_)
 ·have h:=hk ⟨3,.data⟩ (by simp) rfl rfl
  clear hk
  go_simp
  exact ⟨E 3,rfl,⟨⟨_,Below.refl _ _⟩,rfl⟩,h⟩
 simp only [Act.put,List.setIfInBounds_toArray,List.set_cons_succ,List.set_cons_zero,Nat.reduceAdd,mkP_4]
 (refine Ls.grow_read rfl (fun _=>.func (.func 221) #[] #[]) (fun _=>rfl) (fun E g hk=>?_) ?_)
 ·have h:g.val.heap[(E 4).2.1]?=some (.cells (zbx 220 221 222) 247):=hk ⟨4,.data⟩ (by simp) rfl rfl
  have hr:=zaa h
  clear hk h
  go_simp
  first | done | exact ⟨rfl,rfl⟩
 simp only [Act.put,List.setIfInBounds_toArray,List.set_cons_succ,List.set_cons_zero,Nat.reduceAdd]
 (refine Ls.grow_step rfl (fun k hk=>?_);go_simp;(refine hk _ ?_;clear hk k))
 (refine Ls.grow_step rfl (fun k hk=>?_);go_simp;(refine hk _ ?_;clear hk k))
 (refine Ls.grow_lay rfl (fun _=>rfl) (fun E g hk=>?_) ?_)
 ·refine zck (f:=158) (args:=#[.slice none 0 0,.int .i64 (m.k)]) ?e ((zed (HF.out.keep (zadw _) (BX.out.step g.below).below) (n:=0) (l:=[]) (Sl.nothing _) (by decide) _ HK.out).mono ?_)
  case e=>go_simp
  rintro _ w2 ⟨ao,cap,n',rfl,hb,hown⟩
  exact ⟨(ao,n',cap),rfl,⟨⟨_,hb⟩,rfl⟩,Sl.own hown⟩
 simp only [Act.put,List.setIfInBounds_toArray,List.set_cons_succ,List.set_cons_zero,Nat.reduceAdd,mkP_8]
 (refine Ls.grow_step rfl (fun k hk=>?_);go_simp;(refine hk _ ?_;clear hk k))
 (refine Ls.grow_step rfl (fun k hk=>?_);go_simp;(refine hk _ ?_;clear hk k))
 (refine Ls.grow_lay rfl (fun _=>rfl) (fun E g hk=>?_) ?_)
 ·have h:Sl g.val (E 8).1 (E 8).2.1 (E 8).2.2 (bts (intI (m.k))):=hk ⟨8,.data⟩ (by simp) rfl rfl
  refine zck (f:=158) (args:=#[.slice (E 8).1 (E 8).2.1 (E 8).2.2,.int .i64 (m.i)]) ?e ((zed (HF.out.keep (zadw _) (BX.out.step g.below).below) h (by have:=zba (m.k);omega) _ HI.out).mono ?_)
  case e=>go_simp
  rintro _ w2 ⟨ao,cap,n',rfl,hb,hown⟩
  exact ⟨(ao,n',cap),rfl,⟨⟨_,hb⟩,rfl⟩,Sl.own hown⟩
 simp only [Act.put,List.setIfInBounds_toArray,List.set_cons_succ,List.set_cons_zero,Nat.reduceAdd,zz0]
 (refine Ls.grow_step rfl (fun k hk=>?_);go_simp;(refine hk _ ?_;clear hk k))
 rintro E w4 hob ⟨g,rfl⟩
 have h11:Sl g.val (E 11).1 (E 11).2.1 (E 11).2.2 (bts (intI (m.k) ++ intI (m.i))):=hob 11 (by decide) rfl
 have bx:=BX.out.step g.below
 dsimp only
 obtain ⟨⟨a11,n11,c11⟩,e11⟩:∃ x,x=E 11:=⟨_,rfl⟩
 rw [← e11] at h11 ⊢
 have hl11:n11 ≤ 18:=by have:=h11.len;rw [zam,List.length_append] at this;have:=zba (m.k);have:=zba (m.i);simp only at *;omega
 have PC:=zadv (znp (HF.out.keep (zadw _) bx.below) h11 (by simp only;omega) HP.out HG.out)
 have BX2:=zadv bx
 clear bx h11 hob BX rx sx e11
 go_wp2_with fail
 refine PC.out.mono ?_
 rintro _ W6 ⟨a6,c6,n6,rfl,hb6,own6⟩
 have e6:n6=(zbi m).length:=zabt own6 (by rfl)
 subst e6
 have O6:=zadv (za0 own6 BX2.out.below.size)
 have B6:=zadv (BX2.out.step hb6).below
 clear own6 hb6 PC
 go_wp2
 refine bodyPost_ret (results_tmp2 rfl _ _ _) rfl ?_
 exact ⟨a6,c6,rfl,B6.out,O6.out⟩
set_option maxHeartbeats 4000000 in
theorem zt0 {w:World} (hf:Forms w) {i c:Int} (he:idE i (refE c)=0) (hi:I64 i) (hc:I64 c):Calls Tryz.prog 100 #[.agg ((msgR i c).cells)] w (zfp (putC i c) w):=by
 have HE:=zadv he
 have HI:=zadv hi
 have HC:=zadv hc
 have HK:=zadv (show I64 3 from ⟨by decide,by decide⟩)
 clear he hi hc
 have HF:=zadv hf
 clear hf
 go_enter Tryz.func100,Tryz.ntmps100
 go_upto_region 1 with (fail)
 have bx:=Bx.new w ((msgR i c).cells) 118;generalize w.alloc (.cells ((msgR i c).cells) 118)=W at bx ⊢;have rx:=bx.rowOf;have sx:=bx.soft;have BX:=zadv bx;clear bx
 go_wp2_with fail
 refine (ztz HE.out _).mono ?_;rintro _ W2 ⟨rfl,hb⟩;have bx:=BX.out.step hb;clear BX rx sx hb;have rx:=bx.rowOf;have sx:=bx.soft;have BX:=zadv bx;clear bx
 go_wp2_with fail
 have hlt:=(zadu BX.out.row).1
 refine Ls.wp_region_lays (K:=KP) (mk:=mkP) (ob:=obP (zbx 223 224 225) (intI (3)) (intI (3) ++ intI (i))) (hpP _ _ _) 13 (by kernel_rfl) (by kernel_rfl) ?_
 simp only [List.take_succ_cons,List.take_zero,List.drop_succ_cons,List.drop_zero]
 (refine Ls.grow_step rfl (fun k hk=>?_);go_simp;(refine hk _ ?_;clear hk k))
 (refine Ls.grow_step rfl (fun k hk=>?_);go_simp;(refine hk _ ?_;clear hk k))
 (refine Ls.grow_lay rfl (fun _=>rfl) (fun E g hk=>?_) ?_)
 ·refine zck (f:=157) (args:=#[.int .i64 (3)]) ?e (((zdo g.val)).mono ?_)
  case e=>go_simp
  rintro _ _ ⟨rfl,rfl⟩
  exact ⟨(none,g.val.heap.size,0),rfl,⟨⟨_,zat _ _⟩,rfl⟩,heap_alloc_new _ _⟩
 simp only [Act.put,List.setIfInBounds_toArray,List.set_cons_succ,List.set_cons_zero,Nat.reduceAdd,mkP_2]
 (refine Ls.grow_lay rfl (fun _=>rfl) (fun E g hk=>?_) ?_)
 ·have h:=hk ⟨2,.data⟩ (by simp) rfl rfl
  clear hk
  go_simp
  exact ⟨E 2,rfl,⟨⟨_,Below.refl _ _⟩,rfl⟩,h⟩
 simp only [Act.put,List.setIfInBounds_toArray,List.set_cons_succ,List.set_cons_zero,Nat.reduceAdd,mkP_3]
 (refine Ls.grow_lay rfl (fun _=>rfl) (fun E g hk=>?_) ?_)
 ·have h:=hk ⟨3,.data⟩ (by simp) rfl rfl
  clear hk
  go_simp
  exact ⟨E 3,rfl,⟨⟨_,Below.refl _ _⟩,rfl⟩,h⟩
 simp only [Act.put,List.setIfInBounds_toArray,List.set_cons_succ,List.set_cons_zero,Nat.reduceAdd,mkP_4]
 (refine Ls.grow_read rfl (fun _=>.func (.func 224) #[] #[]) (fun _=>rfl) (fun E g hk=>?_) ?_)
 ·have h:g.val.heap[(E 4).2.1]?=some (.cells (zbx 223 224 225) 247):=hk ⟨4,.data⟩ (by simp) rfl rfl
  have hr:=zaa h
  clear hk h
  go_simp
  first | done | exact ⟨rfl,rfl⟩
 simp only [Act.put,List.setIfInBounds_toArray,List.set_cons_succ,List.set_cons_zero,Nat.reduceAdd]
 (refine Ls.grow_step rfl (fun k hk=>?_);go_simp;(refine hk _ ?_;clear hk k))
 (refine Ls.grow_step rfl (fun k hk=>?_);go_simp;(refine hk _ ?_;clear hk k))
 (refine Ls.grow_lay rfl (fun _=>rfl) (fun E g hk=>?_) ?_)
 ·refine zck (f:=158) (args:=#[.slice none 0 0,.int .i64 (3)]) ?e ((zed (HF.out.keep (zadw _) (BX.out.step g.below).below) (n:=0) (l:=[]) (Sl.nothing _) (by decide) _ HK.out).mono ?_)
  case e=>go_simp
  rintro _ w2 ⟨ao,cap,n',rfl,hb,hown⟩
  exact ⟨(ao,n',cap),rfl,⟨⟨_,hb⟩,rfl⟩,Sl.own hown⟩
 simp only [Act.put,List.setIfInBounds_toArray,List.set_cons_succ,List.set_cons_zero,Nat.reduceAdd,mkP_8]
 (refine Ls.grow_step rfl (fun k hk=>?_);go_simp;(refine hk _ ?_;clear hk k))
 (refine Ls.grow_step rfl (fun k hk=>?_);go_simp;(refine hk _ ?_;clear hk k))
 (refine Ls.grow_lay rfl (fun _=>rfl) (fun E g hk=>?_) ?_)
 ·have h:Sl g.val (E 8).1 (E 8).2.1 (E 8).2.2 (bts (intI (3))):=hk ⟨8,.data⟩ (by simp) rfl rfl
  refine zck (f:=158) (args:=#[.slice (E 8).1 (E 8).2.1 (E 8).2.2,.int .i64 (i)]) ?e ((zed (HF.out.keep (zadw _) (BX.out.step g.below).below) h (by have:=zba (3);omega) _ HI.out).mono ?_)
  case e=>go_simp
  rintro _ w2 ⟨ao,cap,n',rfl,hb,hown⟩
  exact ⟨(ao,n',cap),rfl,⟨⟨_,hb⟩,rfl⟩,Sl.own hown⟩
 simp only [Act.put,List.setIfInBounds_toArray,List.set_cons_succ,List.set_cons_zero,Nat.reduceAdd,zz0]
 (refine Ls.grow_step rfl (fun k hk=>?_);go_simp;(refine hk _ ?_;clear hk k))
 rintro E w4 hob ⟨g,rfl⟩
 have h11:Sl g.val (E 11).1 (E 11).2.1 (E 11).2.2 (bts (intI (3) ++ intI (i))):=hob 11 (by decide) rfl
 have bx:=BX.out.step g.below
 dsimp only
 obtain ⟨⟨a11,n11,c11⟩,e11⟩:∃ x,x=E 11:=⟨_,rfl⟩
 rw [← e11] at h11 ⊢
 have hl11:n11 ≤ 18:=by have:=h11.len;rw [zam,List.length_append] at this;have:=zba (3);have:=zba (i);simp only at *;omega
 have PC:=zadv (RetO.op (zno (HF.out.keep (zadw _) bx.below) h11 (by simp only;omega) (m:=msgR i c) HC.out))
 have BX2:=zadv bx
 clear bx h11 hob BX rx sx e11
 go_wp2_with fail
 refine PC.out.mono ?_
 rintro _ W6 ⟨a6,c6,n6,rfl,hb6,own6⟩
 have e6:n6=(putC i c).length:=zabt own6 (by rfl)
 subst e6
 have O6:=zadv (za0 own6 BX2.out.below.size)
 have B6:=zadv (BX2.out.step hb6).below
 clear own6 hb6 PC
 go_wp2
 refine bodyPost_ret (results_tmp2 rfl _ _ _) rfl ?_
 exact ⟨a6,c6,rfl,B6.out,O6.out⟩
end
section
theorem sl_sub {w:World} {b o n c:Nat} {vs:List Value} (h:Sl w (some ⟨b,o,none⟩) n c vs) (hn:0 < n):sub (rowOf w b) o n=vs.toArray∧o + n ≤ (rowOf w b).size:=by
 obtain ⟨b',o',e,_,hc⟩:=h.at hn
 cases e
 have hl:=h.len
 have hs:o + n ≤ (rowOf w b).size:=by
  have h1:n - 1 < vs.length:=by omega
  have:=hc (n - 1) _ (zady h1)
  rw [zad] at this
  have:=(zadu this).1
  omega
 refine ⟨?_,hs⟩
 unfold sub
 apply Array.ext_getElem?
 intro i
 rw [Array.getElem?_extract]
 simp only [List.getElem?_toArray,Nat.min_eq_left hs,Nat.add_sub_cancel_left]
 by_cases hi:i < n
 ·rw [if_pos hi]
  have h1:i < vs.length:=by omega
  have:=hc i _ (zady h1)
  rw [zad] at this
  rw [this,zady h1]
 ·rw [if_neg hi,List.getElem?_eq_none (by omega)]
theorem ButN.row {N p b:Nat} {w w':World} {cs:Array Value} (h:ButN N p w w') (hb:b=p ∨ N ≤ b):ButN N p w (w'.setRow b cs):=
 h.trans ⟨rfl,rfl,rfl,by simp [World.setRow],fun k h1 h2=>setRow_other w' b k cs (by omega)⟩
def hs32 (l:List Nat):Hs:=if h:(l.take 32).length=32 then ⟨l.take 32,h⟩ else Hs.zero
theorem zz1 {l:List Nat} (h:¬ l.length < 32):(hs32 l).l=l.take 32:=by
 unfold hs32
 rw [dif_pos (by rw [List.length_take];omega)]
def rdHs (s:RS):Hs × RS:=if s.2 ≠ 0 then (Hs.zero,[],s.2) else if s.1.length < 32 then (Hs.zero,[],4) else (hs32 s.1,s.1.drop 32,0)
def HashR (B:Nat) (p:Nat) (w:World) (l:List Nat):Ending→World→Prop:=fun e w'=>But p w w'∧
 if l.length < 32 then e=.panicked [stopE 4 false]∧∃ v,Rdr w' p v 0 else e=.returned (.agg (hs32 l).cells)∧RdB B w' p (l.drop 32,0)
attribute [local go_sem ↓] zad
attribute [local go_sem] zaf zai zaj zal
theorem zt1 (w:World) (b o:Nat):(Instr.arrayAt 58 (.slice (some ⟨b,o,none⟩) 32 32)).run Tryz.prog w=.ok (.pointer (some ⟨b,o,none⟩)) w:=by kernel_rfl
attribute [local go_sem] zt1
theorem zt2 {w:World} {B rb p:Nat} {l:List Nat} (hb:w.cell? ⟨rb,0,none⟩=some (.pointer (some ⟨p,0,none⟩))) (hr:RdB B w p (l,0)):Calls Tryz.prog 322 #[.pointer (some ⟨rb,0,none⟩)] w (HashR B p w l):=by
 obtain ⟨ao,n,c,h1,h2,h3⟩:=hr
 have hln:l.length=n:=by have:=h2.len;rwa [zam] at this
 have H3:=zadv h3
 have HC:=zadv hb
 have HR:=zadv (show Rdr w p (.slice ao n c) 0 from h1)
 have HS:=zadv (show Sl w ao n c (bts l) from h2)
 clear hb h1 h2 h3
 by_cases hsh:n < 32
 ·have e1:l.length < 32:=by omega
  go_enter Tryz.func322,Tryz.ntmps322
  go_upto_region 1 with (fail)
  have bx:=Bx.new w (Hs.zero.cells) 58;generalize w.alloc (.cells (Hs.zero.cells) 58)=W at bx ⊢;have rx:=bx.rowOf;have sx:=bx.soft;have BX:=zadv bx;clear bx
  have c1:=za4 (zadw _) BX.out.below HC.out
  rw [zad] at c1
  have T:=zadv (zga (HR.out.keep (zadw _) BX.out.below) hsh)
  go_wp2_with fail
  refine T.out.mono ?_
  rintro _ _ ⟨rfl,rfl⟩
  refine ⟨rfl,ButN.below BX.out.below,?_⟩
  rw [if_pos e1]
  exact ⟨rfl,_,HR.out.keep (zadw _) BX.out.below⟩
 ·have e1:¬ l.length < 32:=by omega
  have hp:=HR.out.lt
  have hcut:Sl w (cutA ao 32 c) (n - 32) (c - 32) (bts (l.drop 32)):=HS.out.cutB (l:=32) (r:=n) (m:=c) (by omega) (zadw _) (zadw _) HS.out.le rfl rfl (by rw [List.take_of_length_le];rw [List.length_drop];omega)
  have hfront:Sl w ao 32 32 (bts (l.take 32)):=HS.out.frontB (by omega) (by omega) (by have:=HS.out.le;omega) rfl
  obtain ⟨b,o,rfl,hbl,_⟩:=hfront.at (by decide)
  have hbp:=HR.out.apart hfront b o rfl (by decide)
  have HCut:=zadv hcut
  have HFr:=zadv hfront
  have HL:=zadv (zz1 e1)
  clear hcut hfront
  go_enter Tryz.func322,Tryz.ntmps322
  go_upto_region 1 with (fail)
  have bx:=Bx.new w (Hs.zero.cells) 58;generalize w.alloc (.cells (Hs.zero.cells) 58)=W at bx ⊢;have rx:=bx.rowOf;have sx:=bx.soft;have BX:=zadv bx;clear bx
  have c1:=za4 (zadw _) BX.out.below HC.out
  rw [zad] at c1
  have r1:=HR.out.keep (zadw _) BX.out.below
  have T:=zadv (zj9 r1 (m:=32) (by omega) HS.out.le)
  have HR1:=zadv r1
  clear r1
  go_wp2_with fail
  refine T.out.mono ?_
  rintro _ W2 ⟨rfl,e2⟩
  have hb2:But p W W2:=by rw [e2];exact ButN.refl.set 0 _
  have r2:Rdr W2 p (.slice (cutA (some ⟨b,o,none⟩) 32 c) (n - 32) (c - 32)) 0:=by rw [e2];exact HR1.out.set
  clear e2
  have f2:=hb2.sl (HFr.out.keep (zadw _) BX.out.below) (zadw _) (HR1.out.apart (HFr.out.keep (zadw _) BX.out.below))
  have s2:=hb2.sl (HCut.out.keep (zadw _) BX.out.below) (zadw _) (HR1.out.apart (HCut.out.keep (zadw _) BX.out.below))
  obtain ⟨g1,g2⟩:=sl_sub f2 (by decide)
  rw [← HL.out] at g1
  have g1':sub (rowOf W2 b) o 32=(hs32 l).cells:=g1
  have hne:w.heap.size ≠ p:=by omega
  have q2:W2.heap[w.heap.size]?=some (.cells Hs.zero.cells 58):=(hb2.block _ (zadu BX.out.row).1 hne).trans BX.out.row
  have rx2:=zaa q2
  have sx2:=zan q2
  have H2:=zadv (zadx hb2 (zadx r2 (zadx s2 (zadx f2 q2))))
  clear rx sx c1 hb2 r2 s2 f2 q2 g1 T
  go_wp2_with fail
  obtain ⟨hb2,r2,s2,f2,q2⟩:=H2.out
  have hself:ButN W2.heap.size w.heap.size W2 (W2.setRow w.heap.size (hs32 l).cells):=ButN.refl.row (.inl rfl)
  have hc:rowOf (W2.setRow w.heap.size (hs32 l).cells) w.heap.size=(hs32 l).cells:=by rw [zab _ _ _ _ (zan q2),if_pos rfl]
  refine bodyPost_ret (za6 (t:=58) rfl Tryz.underlying58 rfl (by kernel_rfl) _ _ w.heap.size rfl hc (zdl _)) rfl ?_
  refine ⟨ButN.row (ButN.trans (ButN.below BX.out.below) (hb2.mono BX.out.below.size)) (.inr (zadw _)),?_⟩
  rw [if_neg e1]
  have hcb:∀ b4 o4,cutA (some ⟨b,o,none⟩) 32 c=some ⟨b4,o4,none⟩→0 < n - 32→b4=b:=fun b4 o4 e4 _=>zeq e4
  refine ⟨rfl,_,_,_,hself.rdr r2 (zadw _) (Ne.symm hne),hself.sl s2 (zadw _) ?_,?_⟩
  ·intro b4 o4 e4 hn4
   have:=hcb b4 o4 e4 hn4
   omega
  ·intro b4 o4 e4 hn4
   rw [hcb b4 o4 e4 hn4]
   exact H3.out b o rfl (by omega)
end
section
attribute [local go_sem ↓] zad
attribute [local go_sem] zaf zai zaj zal zac zak Array.getElem?_setIfInBounds
theorem zlt (p q:Addr) (w:World):
  CallsD Tryz.prog 369 #[.pointer (some p),.pointer (some q)] .returning w fun e u' w'=>e=.returned (.tuple #[])∧u'=.returning∧w'=w:=by
 refine callsD_of_wpS Tryz.func369 rfl fun c₀ cs hu=>?_
 apply wpS_seq
 apply wpS_region
 simp [wpOpsS,go_sem,recoverD,hu,Tryz.ntmps369,Exit.thenS]
 apply wpS_seq
 apply wpS_region
 simp [wpOpsS,go_sem,Exit.thenS]
 refine wpS_cond (t:=false) (by simp [Act.eval,Array.replicate]) ?_
 simp only [Bool.false_eq_true,if_false]
 refine wpS_of_wp (wp_skip ?_)
 cases c₀
 simp_all [bodyPostS,results,Tryz.results369]
set_option maxHeartbeats 1000000 in
theorem zgp (rb ob:Nat) (k:Int) (older:List PanicEntry) (w:World) {rp:Nat} {v:Value} {k0:Int} {h0:Hs} (hp:w.cell? ⟨rb,0,none⟩=some (.pointer (some ⟨rp,0,none⟩))) (hr:Rdr w rp v k0) (hq:w.heap[ob]?=some (.cells h0.cells 58)) (hne:rp ≠ ob):
  CallsD Tryz.prog 369 #[.pointer (some ⟨rb,0,none⟩),.pointer (some ⟨ob,0,none⟩)] (.panicking (stopE k false :: older)) w fun e u' w'=>
   e=.returned (.tuple #[])∧u'=.panicking (stopE k true :: older)∧∃ W,Below w.heap.size w W∧w'=((W.setCell ⟨rp,1,none⟩ (.int .i64 k)).setCell ⟨rp,0,none⟩ (.slice none 0 0)).setRow ob Hs.zero.cells:=by
 refine callsD_of_wpS Tryz.func369 rfl fun c₀ cs hu=>?_
 have HP:=zadv hp
 have HR:=zadv hr
 have HQ:=zadv hq
 clear hp hr hq
 apply wpS_seq
 apply wpS_region
 unfold stopE at hu ⊢
 simp [wpOpsS,go_sem,recoverD,hu,Tryz.ntmps369,Exit.thenS]
 refine wpS_of_wp ?_
 generalize ht:HAppend.hAppend (α:=Array Value) (β:=Array Value) (γ:=Array Value) #[.pointer (some ⟨rb,0,none⟩),.pointer (some ⟨ob,0,none⟩)] _=T
 have e:T=#[.pointer (some ⟨rb,0,none⟩),.pointer (some ⟨ob,0,none⟩),.iface 364 (.agg #[.int .i64 k]),undef,undef,undef,.iface 364 (.agg #[.int .i64 k]),undef,undef,undef,undef,undef,undef,undef,undef,undef,undef,undef,undef,undef,undef,undef,undef,undef,undef,undef]:=by rw [← ht];kernel_rfl
 subst e
 have HU:=zadv hu
 clear ht hu
 go_upto_region 6 with (fail)
 have hb1:=zat w (.cells #[.int .i64 k] 364)
 have x2:=heap_alloc_new w (.cells #[.int .i64 k] 364)
 have hb2:=zat (w.alloc (.cells #[.int .i64 k] 364)) (.cells Hs.zero.cells 58)
 have x3:=heap_alloc_new (w.alloc (.cells #[.int .i64 k] 364)) (.cells Hs.zero.cells 58)
 have x2':=(hb2.block _ (zadu x2).1).trans x2
 have hbb:=hb1.trans (hb2.mono hb1.size)
 rw [World.size_alloc] at x3
 clear hb1 hb2 x2
 generalize (w.alloc (.cells #[.int .i64 k] 364)).alloc (.cells Hs.zero.cells 58)=W at hbb x2' x3 ⊢
 have c1:=za4 (zadw _) hbb HP.out
 have c2:=zaa x2'
 have c3:=zaa x3
 have hr2:=HR.out.keep (zadw _) hbb
 have c4:=hr2.left
 have c5:=hr2.why
 have f4:=hr2.soft0
 have f5:=hr2.soft1
 have q2:=(hbb.block _ (zadu HQ.out).1).trans HQ.out
 have c6:=zaa q2
 have s6:=zan q2
 rw [zad] at c1 c4 c5
 have HB:=zadv hbb
 have hne1:¬ rp=ob:=hne
 have hne2:¬ ob=rp:=Ne.symm hne
 have hrl:=HR.out.lt
 have hne3:¬ w.heap.size + 1=rp:=by omega
 have hne4:¬ w.heap.size=rp:=by omega
 clear hbb hr2 q2 x2' x3 hne hrl
 go_region
 refine ⟨rfl,.panicking (stopE k true :: older),rfl,.tuple #[],results_none rfl _ _ _,rfl,rfl,W.drew,HB.out.drew,rfl⟩
theorem zpj {w w1 W:World} {p ob:Nat} {v:Value} {k0 k:Int} {h0:Hs} (hb:But p w w1) (hr:Rdr w1 p v k0) (ho:w1.heap[ob]?=some (.cells h0.cells 58)) (hpo:p ≠ ob) (hwo:w.heap.size ≤ ob)
  (hW:∃ V,Below w1.heap.size w1 V∧W=((V.setCell ⟨p,1,none⟩ (.int .i64 k)).setCell ⟨p,0,none⟩ (.slice none 0 0)).setRow ob Hs.zero.cells):
  But p w W∧Rd W p ([],k)∧rowOf W ob=Hs.zero.cells:=by
 obtain ⟨V,hV,rfl⟩:=hW
 have h1:=hr.keep (zadw _) hV
 have h2:=(hV.block _ (zadu ho).1).trans ho
 have hB:But p w V:=ButN.trans hb (ButN.below (hV.mono hb.size))
 have h3:((V.setCell ⟨p,1,none⟩ (.int .i64 k)).setCell ⟨p,0,none⟩ (.slice none 0 0)).heap[ob]?=some (.cells h0.cells 58):=by
  rw [zag,if_neg hpo,zag,if_neg hpo]
  exact h2
 refine ⟨ButN.row ((hB.set 1 _).set 0 _) (.inr hwo),⟨none,0,0,?_,Sl.nothing _⟩,?_⟩
 ·show Rdr _ p _ k
  unfold Rdr at *
  rw [setRow_other _ _ _ _ hpo,zag,if_pos rfl,zag,if_pos rfl,h1]
  rfl
 ·rw [zab _ _ _ _ (zan h3),if_pos rfl]
end
section
attribute [local go_sem ↓] zad
attribute [local go_sem] zaj zal
set_option maxHeartbeats 2000000 in
theorem zrh {w:World} {B p rb:Nat} {s:RS} (hr:RdB B w p s) (hBw:B ≤ w.heap.size) (hrb:w.cell? ⟨rb,0,none⟩=some (.pointer (some ⟨p,0,none⟩))) (hrp:rb ≠ p):
  Calls Tryz.prog 321 #[.pointer (some ⟨p,0,none⟩),.func (.func 322) #[] #[.pointer (some ⟨rb,0,none⟩)]] w fun e w'=>e=.returned (.agg (rdHs s).1.cells)∧But p w w'∧RdB B w' p (rdHs s).2:=by
 obtain ⟨v,hv⟩:=hr.rd.cases
 have hpl:=hr.rd.lt
 have hb1:=zat w (.cells #[.pointer (some ⟨p,0,none⟩)] 250)
 have c1:=zcn w (.pointer (some ⟨p,0,none⟩)) 250
 have hb2:=zat (w.alloc (.cells #[.pointer (some ⟨p,0,none⟩)] 250)) (.cells Hs.zero.cells 58)
 have c1':=za4 (zadw _) hb2 c1
 have q2:=heap_alloc_new (w.alloc (.cells #[.pointer (some ⟨p,0,none⟩)] 250)) (.cells Hs.zero.cells 58)
 have hbb:=hb1.trans (hb2.mono hb1.size)
 have hsz:((w.alloc (.cells #[.pointer (some ⟨p,0,none⟩)] 250)).alloc (.cells Hs.zero.cells 58)).heap.size=w.heap.size + 2:=by simp
 have HR:=zadv (hr.keep (zadw _) hbb)
 have HB:=zadv hbb
 have HRB:=zadv (za4 (zadw _) hbb hrb)
 have hv2:=hv.keep (zadw _) hbb
 have y1:=hv2.why
 rw [World.size_alloc] at q2
 have HV:=zadv hv2
 obtain ⟨W,hW⟩:∃ W,W=(w.alloc (.cells #[.pointer (some ⟨p,0,none⟩)] 250)).alloc (.cells Hs.zero.cells 58):=⟨_,rfl⟩
 rw [← hW] at c1' q2 HR HB HRB y1 HV hsz
 have C1:=zadv c1'
 have Q2:=zadv q2
 have rq:=zaa q2
 have sq:=zan q2
 rw [zad] at c1' y1
 have HW:=zadv hW
 have hne1:¬ p=w.heap.size:=by omega
 have hne2:¬ p=w.heap.size + 1:=by omega
 have hbW:But p w W.drew:=ButN.below (HB.out.drew)
 clear c1 hr hv hb1 hb2 hbb hv2 hW q2 hrb
 by_cases h0:s.2=0
 ·rw [h0] at y1
  have e1:s=(s.1,0):=by rw [← h0]
  have NA:=zadv (zt2 (B:=B) (w:=W.drew) (l:=s.1) (HRB.out) (by rw [← e1];exact HR.out.keep (zadw _) (Below.refl _ W).drew))
  go_enter_defers Tryz.func321,Tryz.ntmps321
  go_upto_region 2 with (fail)
  rw [← HW.out]
  (refine wp_region_still_tail 9 (by kernel_rfl) (by kernel_rfl) ?_;simp only [List.take_succ_cons,List.take_zero,List.drop_succ_cons,List.drop_zero];(iterate 9 still_step);refine wpStill_nil ?_)
  go_wp2_with fail
  refine (zh3 _ _).mono ?_
  rintro _ _ ⟨rfl,rfl⟩
  go_wp2_with fail
  refine NA.out.mono ?_
  rintro e w2 ⟨hb2,hm⟩
  have q1:=hb2.cell (b:=w.heap.size) (o:=0) C1.out (zadw _) (Ne.symm hne1)
  have x2:w2.heap[w.heap.size + 1]?=some (.cells Hs.zero.cells 58):=(hb2.block (w.heap.size + 1) (by show _ < W.heap.size;omega) (Ne.symm hne2)).trans Q2.out
  have hbw2:But p w w2:=But.trans hbW hb2
  by_cases hsh:s.1.length < 32
  ·rw [if_pos hsh] at hm
   obtain ⟨rfl,v2,hv2⟩:=hm
   have ER:rdHs s=(Hs.zero,[],4):=by unfold rdHs;rw [if_neg (by simp [h0]),if_pos hsh]
   simp only []
   refine leaves_cons (f:=369) (args:=#[.pointer (some ⟨w.heap.size,0,none⟩),.pointer (some ⟨w.heap.size + 1,0,none⟩)]) (by simp) (by simp [go_sem]) ?_
   refine (zgp w.heap.size (w.heap.size + 1) 4 [] w2 q1 hv2 x2 hne2).mono ?_
   rintro e u' w'' ⟨rfl,rfl,hw''⟩
   obtain ⟨g1,g2,g3⟩:=zpj hbw2 hv2 x2 hne2 (Nat.le_succ _) hw''
   rw [ER]
   refine ⟨_,za6 (t:=58) rfl Tryz.underlying58 rfl (by kernel_rfl) _ _ (w.heap.size + 1) rfl g3 (zdl _),rfl,g1,g2.nb B⟩
  ·rw [if_neg hsh] at hm
   obtain ⟨rfl,hrd2⟩:=hm
   have ER:rdHs s=(hs32 s.1,s.1.drop 32,0):=by unfold rdHs;rw [if_neg (by simp [h0]),if_neg hsh]
   have rq2:=zaa x2
   have sq2:=zan x2
   have HRd:=zadv hrd2
   have HBw:=zadv hbw2
   have X2:=zadv x2
   have ER:=zadv ER
   clear hb2 hrd2 hbw2 c1' y1 HV hbW rq sq x2 q1 e1 NA
   go_wp2_with fail
   refine leaves_cons (f:=369) (args:=#[.pointer (some ⟨w.heap.size,0,none⟩),.pointer (some ⟨w.heap.size + 1,0,none⟩)]) (by simp) (by simp [go_sem]) ?_
   refine (zlt _ _ _).mono ?_
   rintro e u' w'' ⟨rfl,rfl,rfl⟩
   rw [ER.out]
   have hself:ButN w2.heap.size (w.heap.size + 1) w2 (w2.setRow (w.heap.size + 1) (hs32 s.1).cells):=ButN.refl.row (.inl rfl)
   have hc:rowOf (w2.setRow (w.heap.size + 1) (hs32 s.1).cells) (w.heap.size + 1)=(hs32 s.1).cells:=by rw [zab _ _ _ _ (zan X2.out),if_pos rfl]
   obtain ⟨ao,n,c,r1,r2,r3⟩:=HRd.out
   refine ⟨_,za6 (t:=58) rfl Tryz.underlying58 rfl (by kernel_rfl) _ _ (w.heap.size + 1) rfl hc (zdl _),rfl,ButN.row HBw.out (.inr (Nat.le_succ _)),ao,n,c,hself.rdr r1 (zadw _) hne2,hself.sl r2 (zadw _) ?_,r3⟩
   intro b4 o4 e4 hn4
   have:=r3 b4 o4 e4 hn4
   omega
 ·have k1:(s.2 == 0)=false:=by rw [beq_eq_false_iff_ne];exact h0
  have e1:rdHs s=(Hs.zero,[],s.2):=by unfold rdHs;rw [if_pos h0]
  go_enter_defers Tryz.func321,Tryz.ntmps321
  go_upto_region 2 with (fail)
  rw [← HW.out]
  (refine wp_region_still_tail 9 (by kernel_rfl) (by kernel_rfl) ?_;simp only [List.take_succ_cons,List.take_zero,List.drop_succ_cons,List.drop_zero];(iterate 9 still_step);refine wpStill_nil ?_)
  go_wp2_with fail
  refine (zfm _ _).mono ?_
  rintro _ _ ⟨rfl,rfl⟩
  simp only []
  refine leaves_cons (f:=369) (args:=#[.pointer (some ⟨w.heap.size,0,none⟩),.pointer (some ⟨w.heap.size + 1,0,none⟩)]) (by simp) (by simp [go_sem]) ?_
  refine (zgp w.heap.size (w.heap.size + 1) s.2 [] W.drew C1.out (HV.out.keep (zadw _) (Below.refl _ W).drew) Q2.out hne2).mono ?_
  rintro e u' w'' ⟨rfl,rfl,hw''⟩
  obtain ⟨g1,g2,g3⟩:=zpj hbW (HV.out.keep (zadw _) (Below.refl _ W).drew) Q2.out hne2 (Nat.le_succ _) hw''
  rw [e1]
  refine ⟨_,za6 (t:=58) rfl Tryz.underlying58 rfl (by kernel_rfl) _ _ (w.heap.size + 1) rfl g3 (zdl _),rfl,g1,g2.nb B⟩
theorem zlu {w:World} {B p:Nat} {s:RS} (hr:RdB B w p s) (hBw:B ≤ w.heap.size):
  Calls Tryz.prog 256 #[.pointer (some ⟨p,0,none⟩)] w fun e w'=>e=.returned (.agg (rdHs s).1.cells)∧But p w w'∧RdB B w' p (rdHs s).2:=by
 have hpl:=hr.rd.lt
 have hb1:=zat w (.cells #[.pointer (some ⟨p,0,none⟩)] 250)
 have c1:=zcn w (.pointer (some ⟨p,0,none⟩)) 250
 have hb2:=zat (w.alloc (.cells #[.pointer (some ⟨p,0,none⟩)] 250)) (.cells Hs.zero.cells 58)
 have c1':=za4 (zadw _) hb2 c1
 have q2:=heap_alloc_new (w.alloc (.cells #[.pointer (some ⟨p,0,none⟩)] 250)) (.cells Hs.zero.cells 58)
 have hbb:=hb1.trans (hb2.mono hb1.size)
 have hsz:((w.alloc (.cells #[.pointer (some ⟨p,0,none⟩)] 250)).alloc (.cells Hs.zero.cells 58)).heap.size=w.heap.size + 2:=by simp
 have HR:=zadv (zrh (B:=B) (hr.keep (zadw _) hbb) (by omega) c1' (by omega))
 have HB:=zadv hbb
 rw [World.size_alloc] at q2
 obtain ⟨W,hW⟩:∃ W,W=(w.alloc (.cells #[.pointer (some ⟨p,0,none⟩)] 250)).alloc (.cells Hs.zero.cells 58):=⟨_,rfl⟩
 rw [← hW] at c1' q2 HR HB hsz
 have Q2:=zadv q2
 have HW:=zadv hW
 have hne2:¬ p=w.heap.size + 1:=by omega
 rw [zad] at c1'
 clear c1 hr hb1 hb2 hbb hW q2
 go_enter Tryz.func256,Tryz.ntmps256
 go_upto_region 1 with (fail)
 rw [← HW.out]
 go_wp2_with fail
 refine HR.out.mono ?_
 rintro _ w2 ⟨rfl,hb2,hr2⟩
 have x2:w2.heap[w.heap.size + 1]?=some (.cells Hs.zero.cells 58):=(hb2.block (w.heap.size + 1) (by show _ < W.heap.size;omega) (Ne.symm hne2)).trans Q2.out
 have rq2:=zaa x2
 have sq2:=zan x2
 have H2:=zadv (zadx hb2 (zadx hr2 x2))
 clear hb2 hr2 x2 c1' HR
 go_wp2_with fail
 obtain ⟨hb2,⟨ao,n,c,r1,r2,r3⟩,x2⟩:=H2.out
 have hself:ButN w2.heap.size (w.heap.size + 1) w2 (w2.setRow (w.heap.size + 1) (rdHs s).1.cells):=ButN.refl.row (.inl rfl)
 have hc:rowOf (w2.setRow (w.heap.size + 1) (rdHs s).1.cells) (w.heap.size + 1)=(rdHs s).1.cells:=by rw [zab _ _ _ _ (zan x2),if_pos rfl]
 refine bodyPost_ret (za6 (t:=58) rfl Tryz.underlying58 rfl (by kernel_rfl) _ _ (w.heap.size + 1) rfl hc (zdl _)) rfl ?_
 refine ⟨rfl,ButN.row (ButN.trans (ButN.below HB.out) (hb2.mono (by omega))) (.inr (Nat.le_succ _)),ao,n,c,hself.rdr r1 (zadw _) hne2,hself.sl r2 (zadw _) ?_,r3⟩
 intro b4 o4 e4 hn4
 have:=r3 b4 o4 e4 hn4
 omega
end
section
attribute [local go_sem ↓] zad
attribute [local go_sem] zaf zai zaj zal zac zak zab zah zae
structure Rs (s:RS):Prop where
 small:Small s.1
 len:s.1.length < 1000000
theorem Rs.nil (k:Int):Rs ([],k):=⟨fun x h=>(by cases h),(by show 0 < _;decide)⟩
theorem Rs.int {s:RS} (h:Rs s):Rs (rdI s).2:=by
 unfold rdI
 split
 ·exact Rs.nil _
 ·cases hr:zgb s.1 with
  | error e=>exact Rs.nil _
  | ok ur=>
   obtain ⟨u,r⟩:=ur
   obtain ⟨h1,h2,h3⟩:=ztf hr
   exact ⟨fun x hx=>h.small x (h3 x hx),Nat.lt_of_le_of_lt h1 h.len⟩
def MB (w:World) (b:Nat) (m:Msg):Prop:=w.heap[b]?=some (.cells m.cells 118)
theorem MB.lt {w:World} {b:Nat} {m:Msg} (h:MB w b m):b < w.heap.size:=(zadu h).1
theorem MB.row {w:World} {b:Nat} {m:Msg} (h:MB w b m):rowOf w b=m.cells:=zaa h
theorem MB.soft {w:World} {b:Nat} {m:Msg} (h:MB w b m):soft w b=true:=zan h
theorem MB.but {w w':World} {b p:Nat} {m:Msg} (h:MB w b m) (hb:But p w w') (hp:b ≠ p):MB w' b m:=(hb.block b h.lt hp).trans h
theorem MB.set {w:World} {b i:Nat} {v:Value} {m m':Msg} (h:MB w b m) (e:m.cells.setIfInBounds i v=m'.cells):MB (w.setCell ⟨b,i,none⟩ v) b m':=by
 unfold MB at *
 rw [zag,if_pos rfl,h]
 simp only [Option.map_some,e]
theorem RdB.other {B N b p:Nat} {w w':World} {s:RS} (h:RdB B w p s) (hb:ButN N b w w') (hN:w.heap.size ≤ N) (hp:p ≠ b) (hB:B ≤ b):RdB B w' p s:=by
 obtain ⟨ao,n,c,h1,h2,h3⟩:=h
 exact ⟨ao,n,c,hb.rdr h1 hN hp,hb.sl h2 hN (fun b' o e hn=>by have:=h3 b' o e hn;omega),h3⟩
def But2 (p b:Nat) (w w':World):Prop:=∀ B,B ≤ p→B ≤ b→B ≤ w.heap.size→Below B w w'
theorem znq {w:World} (hf:Forms w) {b p:Nat} {s:RS} {m:Msg} (hp2:p ≠ 0) (hr:RdB b w p s) (hpb:p ≠ b) (hm:MB w b m) (hs:Rs s):
  Calls Tryz.prog 225 #[.pointer (some ⟨p,0,none⟩),.pointer (some ⟨b,0,none⟩)] w fun e w'=>e=.returned (.tuple #[])∧But2 p b w w'∧RdB b w' p (rdI s).2∧MB w' b { m with c:=(rdI s).1 }:=by
 have R:=zadv (zco hf hp2 hr hs.small hs.len)
 have HM:=zadv hm
 clear hf hr hm
 go_enter Tryz.func225,Tryz.ntmps225
 go_wp2_with fail
 refine R.out.mono ?_
 rintro _ w2 ⟨rfl,hb2,hr2⟩
 have hm2:=HM.out.but hb2 (Ne.symm hpb)
 have rx:=hm2.row
 have sx:=hm2.soft
 have H:=zadv (zadx hb2 (zadx hr2 hm2))
 clear hb2 hr2 hm2 R
 go_wp2
 obtain ⟨hb2,hr2,hm2⟩:=H.out
 go_end0
 refine ⟨rfl,fun B h1 h2 h3=>(hb2.to h3 h1).setCell h2 _,hr2.other (ButN.refl.set 2 _) (zadw _) hpb (zadw _),hm2.set (zzr _ _)⟩
theorem Forms.low {w w':World} {B:Nat} (hf:Forms w) (hb:Below B w w') (h:0 < B):Forms w':=fun j v hj=>(hb.cell (p:=⟨0,j,none⟩) h).trans (hf j v hj)
theorem But2.forms {w w':World} {p b:Nat} (h:But2 p b w w') (hf:Forms w) (hp:0 < p) (hb:0 < b):Forms w':=by
 have h2:0 < w.heap.size:=World.block_lt_of_cell? w ⟨0,0,none⟩ (hf 0 _ rfl)
 exact hf.low (h 1 (by omega) (by omega) (by omega)) (by decide)
theorem But2.refl (p b:Nat) (w:World):But2 p b w w:=fun B _ _ _=>Below.refl B w
theorem But2.trans {w w' w2:World} {p b:Nat} (h:But2 p b w w') (k:But2 p b w' w2):But2 p b w w2:=fun B h1 h2 h3=>(h B h1 h2 h3).trans (k B h1 h2 (Nat.le_trans h3 (h B h1 h2 h3).size))
theorem But2.but {w w':World} {p b:Nat} (h:But p w w'):But2 p b w w':=fun B h1 _ h3=>h.to h3 h1
theorem But2.set {w w':World} {p b:Nat} (h:But2 p b w w') (i:Nat) (v:Value):But2 p b w (w'.setCell ⟨b,i,none⟩ v):=fun B h1 h2 h3=>(h B h1 h2 h3).setCell h2 _
theorem But2.below {w w':World} {p b:Nat} (h:Below w.heap.size w w'):But2 p b w w':=fun _ _ _ h3=>h.mono h3
def zde (s:RS):Lg × RS:=(⟨(rdI s).1,(rdI (rdI s).2).1,(rdI (rdI (rdI s).2).2).1⟩,(rdI (rdI (rdI s).2).2).2)
theorem Rs.leg {s:RS} (h:Rs s):Rs (zde s).2:=h.int.int.int
def mAt (m:Msg) (s:RS):Nat→Msg × RS
 | 0=>(m,s)
 | 1=>({ m with p:=(zde s).1 },(zde s).2)
 | _=>({ m with p:=(zde s).1,g:=(zde (zde s).2).1 },(zde (zde s).2).2)
set_option maxHeartbeats 2000000 in
theorem znr {w:World} (hf:Forms w) {b p:Nat} {s:RS} {m:Msg} (hp2:0 < p) (hb2:0 < b) (hr:RdB b w p s) (hpb:p ≠ b) (hm:MB w b m) (hs:Rs s):
  Calls Tryz.prog 222 #[.pointer (some ⟨p,0,none⟩),.pointer (some ⟨b,0,none⟩)] w fun e w'=>e=.returned (.tuple #[])∧But2 p b w w'∧RdB b w' p (rdHs (mAt m s 2).2).2∧MB w' b { (mAt m s 2).1 with h:=(rdHs (mAt m s 2).2).1 }:=by
 have HF:=zadv hf
 have HR:=zadv hr
 have HM:=zadv hm
 have HS:=zadv hs
 clear hf hr hm hs
 go_enter Tryz.func222,Tryz.ntmps222
 go_wp2_with fail
 go_region
 go_wp2_with fail
 have hpl:=HR.out.rd.lt
 have hbl:=HM.out.lt
 have hb0:Below w.heap.size w (w.alloc (.cells #[.pointer (some ⟨b,3,none⟩),.pointer (some ⟨b,6,none⟩)] 255)).drew:=(zat w _).drew
 have hx0:(w.alloc (.cells #[.pointer (some ⟨b,3,none⟩),.pointer (some ⟨b,6,none⟩)] 255)).drew.heap[w.heap.size]?=some (.cells #[.pointer (some ⟨b,3,none⟩),.pointer (some ⟨b,6,none⟩)] 255):=heap_alloc_new w _
 generalize (w.alloc (.cells #[.pointer (some ⟨b,3,none⟩),.pointer (some ⟨b,6,none⟩)] 255)).drew=V at hb0 hx0 ⊢
 have HB0:=zadv hb0
 have HX0:=zadv hx0
 clear hb0 hx0
 go_loopw [14] (fun v14 wr=>∃ j:Nat,j ≤ 2∧v14=.int .i64 j∧But2 p b w wr∧RdB b wr p (mAt m s j).2∧MB wr b (mAt m s j).1∧wr.heap[w.heap.size]?=some (.cells #[.pointer (some ⟨b,3,none⟩),.pointer (some ⟨b,6,none⟩)] 255)) (fun v14 _=>2 - (intOf v14).toNat)
 case atStart=>exact ⟨0,by omega,rfl,But2.below HB0.out,HR.out.keep (zadw _) HB0.out,(HB0.out.block b hbl).trans HM.out,HX0.out⟩
 case round=>
  obtain ⟨j,hj,rfl,hbw,hrw,hmw,hx⟩:=hrel
  have HBW:=zadv hbw
  have HRW:=zadv hrw
  have HMW:=zadv hmw
  have HX:=zadv hx
  have FW:=zadv (hbw.forms HF.out hp2 hb2)
  have HS0:=zadv HS.out
  have HS1:=zadv HS.out.leg
  have rs:=zaa hx
  have hsz:=(zadu hx).1
  clear hbw hrw hmw hx
  match j,hj with
  | 0,_=>
   have R1:=zadv (zco FW.out (by omega:p ≠ 0) (show RdB b wr p s from HRW.out) HS0.out.small HS0.out.len)
   go_wp2_with fail
   refine R1.out.mono ?_
   rintro _ w1 ⟨rfl,hb1,hr1⟩
   have hm1:=MB.but (show MB wr b (m) from HMW.out) hb1 (Ne.symm hpb)
   have f1:=hb1.forms FW.out (zadw _) (by omega)
   have R2:=zadv (zco f1 (by omega:p ≠ 0) hr1 HS0.out.int.small HS0.out.int.len)
   have B1:=zadv (HBW.out.trans (But2.but hb1))
   have X1:=zadv ((hb1.block w.heap.size (by omega) (by omega)).trans HX.out)
   have M1:=zadv hm1
   have F1:=zadv f1
   have Z1:=hb1.size
   clear hb1 hr1 hm1 f1 R1 rs
   go_wp2_with fail
   refine R2.out.mono ?_
   rintro _ w2 ⟨rfl,hb2,hr2⟩
   have hm2:=M1.out.but hb2 (Ne.symm hpb)
   have f2:=hb2.forms F1.out (zadw _) (by omega)
   have R3:=zadv (zco f2 (by omega:p ≠ 0) hr2 HS0.out.int.int.small HS0.out.int.int.len)
   have B2:=zadv (B1.out.trans (But2.but hb2))
   have X2:=zadv ((hb2.block w.heap.size (by omega) (by omega)).trans X1.out)
   have M2:=zadv hm2
   have F2:=zadv f2
   have Z2:=hb2.size
   clear hb2 hr2 hm2 f2 R2 B1 X1 M1 F1
   go_wp2_with fail
   refine R3.out.mono ?_
   rintro _ w3 ⟨rfl,hb3,hr3⟩
   have hm3:=M2.out.but hb3 (Ne.symm hpb)
   have B3:=zadv (B2.out.trans (But2.but hb3))
   have X3:=zadv ((hb3.block w.heap.size (by omega) (by omega)).trans X2.out)
   have M3:=zadv hm3
   have RD3:=zadv hr3
   have rx:=hm3.row
   have sx:=hm3.soft
   have Z3:=hb3.size
   clear hb3 hr3 hm3 R3 B2 X2 M2 F2
   go_wp2
   have h5:=((But2.refl p b w3).set 3 (.int .i64 (rdI s).1)).set 4 (.int .i64 (rdI (rdI s).2).1) |>.set 5 (.int .i64 (rdI (rdI (rdI s).2).2).1)
   have hq:ButN w3.heap.size b w3 (((w3.setCell ⟨b,3,none⟩ (.int .i64 (rdI s).1)).setCell ⟨b,4,none⟩ (.int .i64 (rdI (rdI s).2).1)).setCell ⟨b,5,none⟩ (.int .i64 (rdI (rdI (rdI s).2).2).1)):=((ButN.refl.set 3 _).set 4 _).set 5 _
   have X4:=zadv ((hq.block w.heap.size (by omega) (by omega)).trans X3.out)
   have B4:=zadv (B3.out.trans h5)
   have RD4:=zadv (RD3.out.other hq (zadw _) hpb (zadw _))
   have M4:=zadv (show MB (((w3.setCell ⟨b,3,none⟩ (.int .i64 (rdI s).1)).setCell ⟨b,4,none⟩ (.int .i64 (rdI (rdI s).2).1)).setCell ⟨b,5,none⟩ (.int .i64 (rdI (rdI (rdI s).2).2).1)) b (mAt m s 1).1 from ((M3.out.set (zzs _ _)).set (zzt _ _)).set (zzu _ _))
   clear h5 hq rx sx X3 B3 RD3 M3
   go_roundw
   case rel=>exact ⟨0 + 1,by omega,rfl,B4.out,RD4.out,M4.out,X4.out⟩
   case measure=>simp [intOf]
  | 1,_=>
   have R1:=zadv (zco FW.out (by omega:p ≠ 0) (show RdB b wr p (zde s).2 from HRW.out) HS1.out.small HS1.out.len)
   go_wp2_with fail
   refine R1.out.mono ?_
   rintro _ w1 ⟨rfl,hb1,hr1⟩
   have hm1:=MB.but (show MB wr b ({ m with p:=(zde s).1 }) from HMW.out) hb1 (Ne.symm hpb)
   have f1:=hb1.forms FW.out (zadw _) (by omega)
   have R2:=zadv (zco f1 (by omega:p ≠ 0) hr1 HS1.out.int.small HS1.out.int.len)
   have B1:=zadv (HBW.out.trans (But2.but hb1))
   have X1:=zadv ((hb1.block w.heap.size (by omega) (by omega)).trans HX.out)
   have M1:=zadv hm1
   have F1:=zadv f1
   have Z1:=hb1.size
   clear hb1 hr1 hm1 f1 R1 rs
   go_wp2_with fail
   refine R2.out.mono ?_
   rintro _ w2 ⟨rfl,hb2,hr2⟩
   have hm2:=M1.out.but hb2 (Ne.symm hpb)
   have f2:=hb2.forms F1.out (zadw _) (by omega)
   have R3:=zadv (zco f2 (by omega:p ≠ 0) hr2 HS1.out.int.int.small HS1.out.int.int.len)
   have B2:=zadv (B1.out.trans (But2.but hb2))
   have X2:=zadv ((hb2.block w.heap.size (by omega) (by omega)).trans X1.out)
   have M2:=zadv hm2
   have F2:=zadv f2
   have Z2:=hb2.size
   clear hb2 hr2 hm2 f2 R2 B1 X1 M1 F1
   go_wp2_with fail
   refine R3.out.mono ?_
   rintro _ w3 ⟨rfl,hb3,hr3⟩
   have hm3:=M2.out.but hb3 (Ne.symm hpb)
   have B3:=zadv (B2.out.trans (But2.but hb3))
   have X3:=zadv ((hb3.block w.heap.size (by omega) (by omega)).trans X2.out)
   have M3:=zadv hm3
   have RD3:=zadv hr3
   have rx:=hm3.row
   have sx:=hm3.soft
   have Z3:=hb3.size
   clear hb3 hr3 hm3 R3 B2 X2 M2 F2
   go_wp2
   have h5:=((But2.refl p b w3).set 6 (.int .i64 (rdI (zde s).2).1)).set 7 (.int .i64 (rdI (rdI (zde s).2).2).1) |>.set 8 (.int .i64 (rdI (rdI (rdI (zde s).2).2).2).1)
   have hq:ButN w3.heap.size b w3 (((w3.setCell ⟨b,6,none⟩ (.int .i64 (rdI (zde s).2).1)).setCell ⟨b,7,none⟩ (.int .i64 (rdI (rdI (zde s).2).2).1)).setCell ⟨b,8,none⟩ (.int .i64 (rdI (rdI (rdI (zde s).2).2).2).1)):=((ButN.refl.set 6 _).set 7 _).set 8 _
   have X4:=zadv ((hq.block w.heap.size (by omega) (by omega)).trans X3.out)
   have B4:=zadv (B3.out.trans h5)
   have RD4:=zadv (RD3.out.other hq (zadw _) hpb (zadw _))
   have M4:=zadv (show MB (((w3.setCell ⟨b,6,none⟩ (.int .i64 (rdI (zde s).2).1)).setCell ⟨b,7,none⟩ (.int .i64 (rdI (rdI (zde s).2).2).1)).setCell ⟨b,8,none⟩ (.int .i64 (rdI (rdI (rdI (zde s).2).2).2).1)) b (mAt m s 2).1 from ((M3.out.set (zzv _ _)).set (zzw _ _)).set (zzx _ _))
   clear h5 hq rx sx X3 B3 RD3 M3
   go_roundw
   case rel=>exact ⟨1 + 1,by omega,rfl,B4.out,RD4.out,M4.out,X4.out⟩
   case measure=>simp [intOf]
  | 2,_=>
   have HA:=zadv (zlu (show RdB b wr p (mAt m s 2).2 from HRW.out) (Nat.le_of_lt HMW.out.lt))
   go_wp2_with fail
   refine HA.out.mono ?_
   rintro _ w1 ⟨rfl,hb1,hr1⟩
   have hm1:=HMW.out.but hb1 (Ne.symm hpb)
   have B1:=zadv (HBW.out.trans (But2.but hb1))
   have M1:=zadv hm1
   have RD1:=zadv hr1
   have rx:=hm1.row
   have sx:=hm1.soft
   clear hb1 hr1 hm1 HA rs
   go_wp2
   go_end0
   have hq:ButN w1.heap.size b w1 (w1.setRow b (Msg.cells { (mAt m s 2).1 with h:=(rdHs (mAt m s 2).2).1 })):=ButN.refl.row (.inl rfl)
   refine ⟨rfl,B1.out.trans (fun B h1 h2 h3=>hq.to h3 h2),RD1.out.other hq (zadw _) hpb (zadw _),setRow_heap w1 b _ _ 118 _ M1.out⟩
end
end Go.Proofs.YthjgiamfaijoeaaGreatDoor
