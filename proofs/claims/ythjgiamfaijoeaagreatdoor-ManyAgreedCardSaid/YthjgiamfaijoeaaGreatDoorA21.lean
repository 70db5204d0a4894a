/- What is proved: parts of the walk and of the plain law. No condition but those each law names. -/
import Derived.Test.YthjgiamfaijoeaaGreatDoorA18
import Derived.Test.YthjgiamfaijoeaaGreatDoorA20
import Derived.Test.YthjgiamfaijoeaaGreatDoorA00
set_option linter.unusedSimpArgs false
set_option linter.unusedVariables false
namespace Go.Proofs.YthjgiamfaijoeaaGreatDoor
open Go.RowKit
set_option maxRecDepth 100000
attribute [local go_sem ↓] zad
attribute [local go_sem] zaf zai zaj zal Ext.row
theorem zck {P:Program} {α:Type} {w:World} {mk:α→Value} {ob:α→World→Prop} {r:Result Next} {f:FuncId} {args:Array Value} (h:r=.ok (.enter f args) w)
  (hc:Calls P f args w fun e w2=>∃ x,e=.returned (mk x)∧(∃ g:Ext w,w2=g.val)∧ob x w2):Mk.Oper.makesUpon P w mk ob r:=by
 subst h
 exact ⟨rfl,hc⟩
abbrev PB:=Option Addr × Nat × Nat
def KP (i:Nat):Bool:=[2,3,4,8,11].contains i
def mkP (i:Nat) (x:PB):Value:=match i with
 | 2=>.pointer (some ⟨x.2.1,0,none⟩)
 | 3=>.pointer (some ⟨x.2.1,0,none⟩)
 | 4=>.pointer (some ⟨x.2.1,1,none⟩)
 | 8=>.slice x.1 x.2.1 x.2.2
 | 11=>.slice x.1 x.2.1 x.2.2
 | _=>undef
theorem mkP_2 (x:PB):mkP 2 x=.pointer (some ⟨x.2.1,0,none⟩):=rfl
theorem mkP_3 (x:PB):mkP 3 x=.pointer (some ⟨x.2.1,0,none⟩):=rfl
theorem mkP_4 (x:PB):mkP 4 x=.pointer (some ⟨x.2.1,1,none⟩):=rfl
theorem mkP_8 (x:PB):mkP 8 x=.slice x.1 x.2.1 x.2.2:=rfl
theorem zzf (x:PB):mkP 11 x=.slice x.1 x.2.1 x.2.2:=rfl
def obP (kv:Array Value) (l1 l2:List Nat) (i:Nat) (x:PB) (w:World):Prop:=match i with
 | 2=>w.heap[x.2.1]?=some (.cells kv 247)
 | 3=>w.heap[x.2.1]?=some (.cells kv 247)
 | 4=>w.heap[x.2.1]?=some (.cells kv 247)
 | 8=>Sl w x.1 x.2.1 x.2.2 (bts l1)
 | 11=>Sl w x.1 x.2.1 x.2.2 (bts l2)
 | _=>True
theorem hpP (kv:Array Value) (l1 l2:List Nat):∀ i x (w1:World) (g:Ext w1),obP kv l1 l2 i x w1→obP kv l1 l2 i x g.val:=fun i x w1 g h=>by
 have hb:w1.heap[x.2.1]?=some (.cells kv 247)→g.val.heap[x.2.1]?=some (.cells kv 247):=fun h=>(g.below.block _ (zac7 h).1).trans h
 unfold obP at *
 split at h
 ·exact hb h
 ·exact hb h
 ·exact hb h
 ·exact Sl.ext h g
 ·exact Sl.ext h g
 ·trivial
def zbu (m:Msg):List Nat:=intI m.k ++ intI m.i ++ zdx m 2 ++ m.h.l
def putC (i c:Int):List Nat:=intI 3 ++ intI i ++ intI c
theorem zwx {m:Msg} {k:Int} (hk:m.k=1 ∨ m.k=2) (h:idE m.i (zcg m)=k) (w:World):Calls Tryz.prog 156 #[.agg m.cells] w fun e w'=>e=.returned (.int .i64 k)∧Below w.heap.size w w':=h ▸ zh5 hk w
theorem zth {i c:Int} {k:Int} (h:idE i (refE c)=k) (w:World):Calls Tryz.prog 156 #[.agg (msgR i c).cells] w fun e w'=>e=.returned (.int .i64 k)∧Below w.heap.size w w':=h ▸ zh6 i c w
set_option maxHeartbeats 4000000 in
theorem zh7 {w:World} (hf:Forms w) {m:Msg} (hk:m.k=1 ∨ m.k=2) (he:idE m.i (zcg m)=0) (hi:I64 m.i) (hp:LgI m.p) (hg:LgI m.g):Calls Tryz.prog 100 #[.agg (m.cells)] w (zfo (zbu m) w):=by
 have HKK:=zac8 hk
 have HE:=zac8 he
 have HI:=zac8 hi
 have HP:=zac8 hp
 have HG:=zac8 hg
 have HK:=zac8 (show I64 m.k by rcases hk with h | h <;> (rw [h];exact ⟨by decide,by decide⟩))
 clear hk he hi hp hg
 have HF:=zac8 hf
 clear hf
 go_enter Tryz.func100,Tryz.ntmps100
 go_upto_region 1 with (fail)
 have bx:=Bx.new w (m.cells) 118;generalize w.alloc (.cells (m.cells) 118)=W at bx ⊢;have rx:=bx.rowOf;have sx:=bx.soft;have BX:=zac8 bx;clear bx
 go_wp2_with fail
 refine (zwx HKK.out HE.out _).mono ?_;rintro _ W2 ⟨rfl,hb⟩;have bx:=BX.out.step hb;clear BX rx sx hb;have rx:=bx.rowOf;have sx:=bx.soft;have BX:=zac8 bx;clear bx
 go_wp2_with fail
 have hlt:=(zac7 BX.out.row).1
 refine Ls.wp_region_lays (K:=KP) (mk:=mkP) (ob:=obP (zbw 220 221 222) (intI (m.k)) (intI (m.k) ++ intI (m.i))) (hpP _ _ _) 13 (by kernel_rfl) (by kernel_rfl) ?_
 simp only [List.take_succ_cons,List.take_zero,List.drop_succ_cons,List.drop_zero]
 (refine Ls.grow_step rfl (fun k hk=>?_);go_simp;(refine hk _ ?_;clear hk k))
 (refine Ls.grow_step rfl (fun k hk=>?_);go_simp;(refine hk _ ?_;clear hk k))
 (refine Ls.grow_lay rfl (fun _=>rfl) (fun E g hk=>?_) ?_)
 ·refine zck (f:=157) (args:=#[.int .i64 (m.k)]) ?e (((zdn HKK.out g.val)).mono ?_)
  case e=>go_simp
  rintro _ _ ⟨rfl,rfl⟩
  exact ⟨(none,g.val.heap.size,0),rfl,⟨⟨_,zas _ _⟩,rfl⟩,heap_alloc_new _ _⟩
 simp only [Act.put,List.setIfInBounds_toArray,List.set_cons_succ,List.set_cons_zero,Nat.reduceAdd,mkP_2]
 (refine Ls.grow_lay rfl (fun _=>rfl) (fun E g hk=>?_) ?_)
 ·have h:=hk ⟨2,.data⟩ (by simp) rfl rfl
  clear hk
  go_simp
  exact ⟨E 2,rfl,⟨⟨_,Below.refl _ _⟩,rfl⟩,h⟩
 simp only [Act.put,List.setIfInBounds_toArray,List.set_cons_succ,List.set_cons_zero,Nat.reduceAdd,mkP_3]
 (refine Ls.grow_lay rfl (fun _=>rfl) (fun E g hk=>?_) ?_)
 ·have h:=hk ⟨3,.data⟩ (by simp) rfl rfl
  clear hk
  go_simp
  exact ⟨E 3,rfl,⟨⟨_,Below.refl _ _⟩,rfl⟩,h⟩
 simp only [Act.put,List.setIfInBounds_toArray,List.set_cons_succ,List.set_cons_zero,Nat.reduceAdd,mkP_4]
 (refine Ls.grow_read rfl (fun _=>.func (.func 221) #[] #[]) (fun _=>rfl) (fun E g hk=>?_) ?_)
 ·have h:g.val.heap[(E 4).2.1]?=some (.cells (zbw 220 221 222) 247):=hk ⟨4,.data⟩ (by simp) rfl rfl
  have hr:=zaa h
  clear hk h
  go_simp
  first | done | exact ⟨rfl,rfl⟩
 simp only [Act.put,List.setIfInBounds_toArray,List.set_cons_succ,List.set_cons_zero,Nat.reduceAdd]
 (refine Ls.grow_step rfl (fun k hk=>?_);go_simp;(refine hk _ ?_;clear hk k))
 (refine Ls.grow_step rfl (fun k hk=>?_);go_simp;(refine hk _ ?_;clear hk k))
 (refine Ls.grow_lay rfl (fun _=>rfl) (fun E g hk=>?_) ?_)
 ·refine zck (f:=158) (args:=#[.slice none 0 0,.int .i64 (m.k)]) ?e ((zed (HF.out.keep (zac9 _) (BX.out.step g.below).below) (n:=0) (l:=[]) (Sl.nothing _) (by decide) _ HK.out).mono ?_)
  case e=>go_simp
  rintro _ w2 ⟨ao,cap,n',rfl,hb,hown⟩
  exact ⟨(ao,n',cap),rfl,⟨⟨_,hb⟩,rfl⟩,Sl.own hown⟩
 simp only [Act.put,List.setIfInBounds_toArray,List.set_cons_succ,List.set_cons_zero,Nat.reduceAdd,mkP_8]
 (refine Ls.grow_step rfl (fun k hk=>?_);go_simp;(refine hk _ ?_;clear hk k))
 (refine Ls.grow_step rfl (fun k hk=>?_);go_simp;(refine hk _ ?_;clear hk k))
 (refine Ls.grow_lay rfl (fun _=>rfl) (fun E g hk=>?_) ?_)
 ·have h:Sl g.val (E 8).1 (E 8).2.1 (E 8).2.2 (bts (intI (m.k))):=hk ⟨8,.data⟩ (by simp) rfl rfl
  refine zck (f:=158) (args:=#[.slice (E 8).1 (E 8).2.1 (E 8).2.2,.int .i64 (m.i)]) ?e ((zed (HF.out.keep (zac9 _) (BX.out.step g.below).below) h (by have:=za9 (m.k);omega) _ HI.out).mono ?_)
  case e=>go_simp
  rintro _ w2 ⟨ao,cap,n',rfl,hb,hown⟩
  exact ⟨(ao,n',cap),rfl,⟨⟨_,hb⟩,rfl⟩,Sl.own hown⟩
 simp only [Act.put,List.setIfInBounds_toArray,List.set_cons_succ,List.set_cons_zero,Nat.reduceAdd,zzf]
 (refine Ls.grow_step rfl (fun k hk=>?_);go_simp;(refine hk _ ?_;clear hk k))
 rintro E w4 hob ⟨g,rfl⟩
 have h11:Sl g.val (E 11).1 (E 11).2.1 (E 11).2.2 (bts (intI (m.k) ++ intI (m.i))):=hob 11 (by decide) rfl
 have bx:=BX.out.step g.below
 dsimp only
 obtain ⟨⟨a11,n11,c11⟩,e11⟩:∃ x,x=E 11:=⟨_,rfl⟩
 rw [← e11] at h11 ⊢
 have hl11:n11 ≤ 18:=by have:=h11.len;rw [zam,List.length_append] at this;have:=za9 (m.k);have:=za9 (m.i);simp only at *;omega
 have PC:=zac8 (zng (HF.out.keep (zac9 _) bx.below) h11 (by simp only;omega) HP.out HG.out)
 have BX2:=zac8 bx
 clear bx h11 hob BX rx sx e11
 go_wp2_with fail
 refine PC.out.mono ?_
 rintro _ W6 ⟨a6,c6,n6,rfl,hb6,own6⟩
 have e6:n6=(zbu m).length:=zaa8 own6 (by rfl)
 subst e6
 have O6:=zac8 (za0 own6 BX2.out.below.size)
 have B6:=zac8 (BX2.out.step hb6).below
 clear own6 hb6 PC
 go_wp2
 refine bodyPost_ret (results_tmp2 rfl _ _ _) rfl ?_
 exact ⟨a6,c6,rfl,B6.out,O6.out⟩
set_option maxHeartbeats 4000000 in
theorem zti {w:World} (hf:Forms w) {i c:Int} (he:idE i (refE c)=0) (hi:I64 i) (hc:I64 c):Calls Tryz.prog 100 #[.agg ((msgR i c).cells)] w (zfo (putC i c) w):=by
 have HE:=zac8 he
 have HI:=zac8 hi
 have HC:=zac8 hc
 have HK:=zac8 (show I64 3 from ⟨by decide,by decide⟩)
 clear he hi hc
 have HF:=zac8 hf
 clear hf
 go_enter Tryz.func100,Tryz.ntmps100
 go_upto_region 1 with (fail)
 have bx:=Bx.new w ((msgR i c).cells) 118;generalize w.alloc (.cells ((msgR i c).cells) 118)=W at bx ⊢;have rx:=bx.rowOf;have sx:=bx.soft;have BX:=zac8 bx;clear bx
 go_wp2_with fail
 refine (zth HE.out _).mono ?_;rintro _ W2 ⟨rfl,hb⟩;have bx:=BX.out.step hb;clear BX rx sx hb;have rx:=bx.rowOf;have sx:=bx.soft;have BX:=zac8 bx;clear bx
 go_wp2_with fail
 have hlt:=(zac7 BX.out.row).1
 refine Ls.wp_region_lays (K:=KP) (mk:=mkP) (ob:=obP (zbw 223 224 225) (intI (3)) (intI (3) ++ intI (i))) (hpP _ _ _) 13 (by kernel_rfl) (by kernel_rfl) ?_
 simp only [List.take_succ_cons,List.take_zero,List.drop_succ_cons,List.drop_zero]
 (refine Ls.grow_step rfl (fun k hk=>?_);go_simp;(refine hk _ ?_;clear hk k))
 (refine Ls.grow_step rfl (fun k hk=>?_);go_simp;(refine hk _ ?_;clear hk k))
 (refine Ls.grow_lay rfl (fun _=>rfl) (fun E g hk=>?_) ?_)
 ·refine zck (f:=157) (args:=#[.int .i64 (3)]) ?e (((zdo g.val)).mono ?_)
  case e=>go_simp
  rintro _ _ ⟨rfl,rfl⟩
  exact ⟨(none,g.val.heap.size,0),rfl,⟨⟨_,zas _ _⟩,rfl⟩,heap_alloc_new _ _⟩
 simp only [Act.put,List.setIfInBounds_toArray,List.set_cons_succ,List.set_cons_zero,Nat.reduceAdd,mkP_2]
 (refine Ls.grow_lay rfl (fun _=>rfl) (fun E g hk=>?_) ?_)
 ·have h:=hk ⟨2,.data⟩ (by simp) rfl rfl
  clear hk
  go_simp
  exact ⟨E 2,rfl,⟨⟨_,Below.refl _ _⟩,rfl⟩,h⟩
 simp only [Act.put,List.setIfInBounds_toArray,List.set_cons_succ,List.set_cons_zero,Nat.reduceAdd,mkP_3]
 (refine Ls.grow_lay rfl (fun _=>rfl) (fun E g hk=>?_) ?_)
 ·have h:=hk ⟨3,.data⟩ (by simp) rfl rfl
  clear hk
  go_simp
  exact ⟨E 3,rfl,⟨⟨_,Below.refl _ _⟩,rfl⟩,h⟩
 simp only [Act.put,List.setIfInBounds_toArray,List.set_cons_succ,List.set_cons_zero,Nat.reduceAdd,mkP_4]
 (refine Ls.grow_read rfl (fun _=>.func (.func 224) #[] #[]) (fun _=>rfl) (fun E g hk=>?_) ?_)
 ·have h:g.val.heap[(E 4).2.1]?=some (.cells (zbw 223 224 225) 247):=hk ⟨4,.data⟩ (by simp) rfl rfl
  have hr:=zaa h
  clear hk h
  go_simp
  first | done | exact ⟨rfl,rfl⟩
 simp only [Act.put,List.setIfInBounds_toArray,List.set_cons_succ,List.set_cons_zero,Nat.reduceAdd]
 (refine Ls.grow_step rfl (fun k hk=>?_);go_simp;(refine hk _ ?_;clear hk k))
 (refine Ls.grow_step rfl (fun k hk=>?_);go_simp;(refine hk _ ?_;clear hk k))
 (refine Ls.grow_lay rfl (fun _=>rfl) (fun E g hk=>?_) ?_)
 ·refine zck (f:=158) (args:=#[.slice none 0 0,.int .i64 (3)]) ?e ((zed (HF.out.keep (zac9 _) (BX.out.step g.below).below) (n:=0) (l:=[]) (Sl.nothing _) (by decide) _ HK.out).mono ?_)
  case e=>go_simp
  rintro _ w2 ⟨ao,cap,n',rfl,hb,hown⟩
  exact ⟨(ao,n',cap),rfl,⟨⟨_,hb⟩,rfl⟩,Sl.own hown⟩
 simp only [Act.put,List.setIfInBounds_toArray,List.set_cons_succ,List.set_cons_zero,Nat.reduceAdd,mkP_8]
 (refine Ls.grow_step rfl (fun k hk=>?_);go_simp;(refine hk _ ?_;clear hk k))
 (refine Ls.grow_step rfl (fun k hk=>?_);go_simp;(refine hk _ ?_;clear hk k))
 (refine Ls.grow_lay rfl (fun _=>rfl) (fun E g hk=>?_) ?_)
 ·have h:Sl g.val (E 8).1 (E 8).2.1 (E 8).2.2 (bts (intI (3))):=hk ⟨8,.data⟩ (by simp) rfl rfl
  refine zck (f:=158) (args:=#[.slice (E 8).1 (E 8).2.1 (E 8).2.2,.int .i64 (i)]) ?e ((zed (HF.out.keep (zac9 _) (BX.out.step g.below).below) h (by have:=za9 (3);omega) _ HI.out).mono ?_)
  case e=>go_simp
  rintro _ w2 ⟨ao,cap,n',rfl,hb,hown⟩
  exact ⟨(ao,n',cap),rfl,⟨⟨_,hb⟩,rfl⟩,Sl.own hown⟩
 simp only [Act.put,List.setIfInBounds_toArray,List.set_cons_succ,List.set_cons_zero,Nat.reduceAdd,zzf]
 (refine Ls.grow_step rfl (fun k hk=>?_);go_simp;(refine hk _ ?_;clear hk k))
 rintro E w4 hob ⟨g,rfl⟩
 have h11:Sl g.val (E 11).1 (E 11).2.1 (E 11).2.2 (bts (intI (3) ++ intI (i))):=hob 11 (by decide) rfl
 have bx:=BX.out.step g.below
 dsimp only
 obtain ⟨⟨a11,n11,c11⟩,e11⟩:∃ x,x=E 11:=⟨_,rfl⟩
 rw [← e11] at h11 ⊢
 have hl11:n11 ≤ 18:=by have:=h11.len;rw [zam,List.length_append] at this;have:=za9 (3);have:=za9 (i);simp only at *;omega
 have PC:=zac8 (RetO.op (znf (HF.out.keep (zac9 _) bx.below) h11 (by simp only;omega) (m:=msgR i c) HC.out))
 have BX2:=zac8 bx
 clear bx h11 hob BX rx sx e11
 go_wp2_with fail
 refine PC.out.mono ?_
 rintro _ W6 ⟨a6,c6,n6,rfl,hb6,own6⟩
 have e6:n6=(putC i c).length:=zaa8 own6 (by rfl)
 subst e6
 have O6:=zac8 (za0 own6 BX2.out.below.size)
 have B6:=zac8 (BX2.out.step hb6).below
 clear own6 hb6 PC
 go_wp2
 refine bodyPost_ret (results_tmp2 rfl _ _ _) rfl ?_
 exact ⟨a6,c6,rfl,B6.out,O6.out⟩
end Go.Proofs.YthjgiamfaijoeaaGreatDoor
namespace Go.Proofs.YthjgiamfaijoeaaGreatDoor
open Go.RowKit
set_option maxRecDepth 100000
theorem sl_sub {w:World} {b o n c:Nat} {vs:List Value} (h:Sl w (some ⟨b,o,none⟩) n c vs) (hn:0 < n):sub (rowOf w b) o n=vs.toArray∧o + n ≤ (rowOf w b).size:=by
 obtain ⟨b',o',e,_,hc⟩:=h.at hn
 cases e
 have hl:=h.len
 have hs:o + n ≤ (rowOf w b).size:=by
  have h1:n - 1 < vs.length:=by omega
  have:=hc (n - 1) _ (List.getElem?_eq_getElem h1)
  rw [zad] at this
  have:=(zac7 this).1
  omega
 refine ⟨?_,hs⟩
 unfold sub
 apply Array.ext_getElem?
 intro i
 rw [Array.getElem?_extract]
 simp only [List.getElem?_toArray,Nat.min_eq_left hs,Nat.add_sub_cancel_left]
 by_cases hi:i < n
 ·rw [if_pos hi]
  have h1:i < vs.length:=by omega
  have:=hc i _ (List.getElem?_eq_getElem h1)
  rw [zad] at this
  rw [this,List.getElem?_eq_getElem h1]
 ·rw [if_neg hi,List.getElem?_eq_none (by omega)]
theorem ButN.row {N p b:Nat} {w w':World} {cs:Array Value} (h:ButN N p w w') (hb:b=p ∨ N ≤ b):ButN N p w (w'.setRow b cs):=
 h.trans ⟨rfl,rfl,rfl,by simp [World.setRow],fun k h1 h2=>setRow_other w' b k cs (by omega)⟩
def hs32 (l:List Nat):Hs:=if h:(l.take 32).length=32 then ⟨l.take 32,h⟩ else Hs.zero
theorem zzg {l:List Nat} (h:¬ l.length < 32):(hs32 l).l=l.take 32:=by
 unfold hs32
 rw [dif_pos (by rw [List.length_take];omega)]
def rdHs (s:RS):Hs × RS:=if s.2 ≠ 0 then (Hs.zero,[],s.2) else if s.1.length < 32 then (Hs.zero,[],4) else (hs32 s.1,s.1.drop 32,0)
def HashR (B:Nat) (p:Nat) (w:World) (l:List Nat):Ending→World→Prop:=fun e w'=>But p w w'∧
 if l.length < 32 then e=.panicked [stopE 4 false]∧∃ v,Rdr w' p v 0 else e=.returned (.agg (hs32 l).cells)∧RdB B w' p (l.drop 32,0)
attribute [local go_sem ↓] zad
attribute [local go_sem] zaf zai zaj zal
theorem ztj (w:World) (b o:Nat):(Instr.arrayAt 58 (.slice (some ⟨b,o,none⟩) 32 32)).run Tryz.prog w=.ok (.pointer (some ⟨b,o,none⟩)) w:=by kernel_rfl
attribute [local go_sem] ztj
theorem ztk {w:World} {B rb p:Nat} {l:List Nat} (hb:w.cell? ⟨rb,0,none⟩=some (.pointer (some ⟨p,0,none⟩))) (hr:RdB B w p (l,0)):Calls Tryz.prog 322 #[.pointer (some ⟨rb,0,none⟩)] w (HashR B p w l):=by
 obtain ⟨ao,n,c,h1,h2,h3⟩:=hr
 have hln:l.length=n:=by have:=h2.len;rwa [zam] at this
 have H3:=zac8 h3
 have HC:=zac8 hb
 have HR:=zac8 (show Rdr w p (.slice ao n c) 0 from h1)
 have HS:=zac8 (show Sl w ao n c (bts l) from h2)
 clear hb h1 h2 h3
 by_cases hsh:n < 32
 ·have e1:l.length < 32:=by omega
  go_enter Tryz.func322,Tryz.ntmps322
  go_upto_region 1 with (fail)
  have bx:=Bx.new w (Hs.zero.cells) 58;generalize w.alloc (.cells (Hs.zero.cells) 58)=W at bx ⊢;have rx:=bx.rowOf;have sx:=bx.soft;have BX:=zac8 bx;clear bx
  have c1:=za3 (zac9 _) BX.out.below HC.out
  rw [zad] at c1
  have T:=zac8 (zf5 (HR.out.keep (zac9 _) BX.out.below) hsh)
  go_wp2_with fail
  refine T.out.mono ?_
  rintro _ _ ⟨rfl,rfl⟩
  refine ⟨rfl,ButN.below BX.out.below,?_⟩
  rw [if_pos e1]
  exact ⟨rfl,_,HR.out.keep (zac9 _) BX.out.below⟩
 ·have e1:¬ l.length < 32:=by omega
  have hp:=HR.out.lt
  have hcut:Sl w (cutA ao 32 c) (n - 32) (c - 32) (bts (l.drop 32)):=HS.out.cutB (l:=32) (r:=n) (m:=c) (by omega) (zac9 _) (zac9 _) HS.out.le rfl rfl (by rw [List.take_of_length_le];rw [List.length_drop];omega)
  have hfront:Sl w ao 32 32 (bts (l.take 32)):=HS.out.frontB (by omega) (by omega) (by have:=HS.out.le;omega) rfl
  obtain ⟨b,o,rfl,hbl,_⟩:=hfront.at (by decide)
  have hbp:=HR.out.apart hfront b o rfl (by decide)
  have HCut:=zac8 hcut
  have HFr:=zac8 hfront
  have HL:=zac8 (zzg e1)
  clear hcut hfront
  go_enter Tryz.func322,Tryz.ntmps322
  go_upto_region 1 with (fail)
  have bx:=Bx.new w (Hs.zero.cells) 58;generalize w.alloc (.cells (Hs.zero.cells) 58)=W at bx ⊢;have rx:=bx.rowOf;have sx:=bx.soft;have BX:=zac8 bx;clear bx
  have c1:=za3 (zac9 _) BX.out.below HC.out
  rw [zad] at c1
  have r1:=HR.out.keep (zac9 _) BX.out.below
  have T:=zac8 (zjw r1 (m:=32) (by omega) HS.out.le)
  have HR1:=zac8 r1
  clear r1
  go_wp2_with fail
  refine T.out.mono ?_
  rintro _ W2 ⟨rfl,e2⟩
  have hb2:But p W W2:=by rw [e2];exact ButN.refl.set 0 _
  have r2:Rdr W2 p (.slice (cutA (some ⟨b,o,none⟩) 32 c) (n - 32) (c - 32)) 0:=by rw [e2];exact HR1.out.set
  clear e2
  have f2:=hb2.sl (HFr.out.keep (zac9 _) BX.out.below) (zac9 _) (HR1.out.apart (HFr.out.keep (zac9 _) BX.out.below))
  have s2:=hb2.sl (HCut.out.keep (zac9 _) BX.out.below) (zac9 _) (HR1.out.apart (HCut.out.keep (zac9 _) BX.out.below))
  obtain ⟨g1,g2⟩:=sl_sub f2 (by decide)
  rw [← HL.out] at g1
  have g1':sub (rowOf W2 b) o 32=(hs32 l).cells:=g1
  have hne:w.heap.size ≠ p:=by omega
  have q2:W2.heap[w.heap.size]?=some (.cells Hs.zero.cells 58):=(hb2.block _ (zac7 BX.out.row).1 hne).trans BX.out.row
  have rx2:=zaa q2
  have sx2:=zan q2
  have H2:=zac8 (And.intro hb2 (And.intro r2 (And.intro s2 (And.intro f2 q2))))
  clear rx sx c1 hb2 r2 s2 f2 q2 g1 T
  go_wp2_with fail
  obtain ⟨hb2,r2,s2,f2,q2⟩:=H2.out
  have hself:ButN W2.heap.size w.heap.size W2 (W2.setRow w.heap.size (hs32 l).cells):=ButN.refl.row (.inl rfl)
  have hc:rowOf (W2.setRow w.heap.size (hs32 l).cells) w.heap.size=(hs32 l).cells:=by rw [zab _ _ _ _ (zan q2),if_pos rfl]
  refine bodyPost_ret (za5 (t:=58) rfl Tryz.underlying58 rfl (by kernel_rfl) _ _ w.heap.size rfl hc (zdl _)) rfl ?_
  refine ⟨ButN.row (ButN.trans (ButN.below BX.out.below) (hb2.mono BX.out.below.size)) (.inr (zac9 _)),?_⟩
  rw [if_neg e1]
  have hcb:∀ b4 o4,cutA (some ⟨b,o,none⟩) 32 c=some ⟨b4,o4,none⟩→0 < n - 32→b4=b:=fun b4 o4 e4 _=>zep e4
  refine ⟨rfl,_,_,_,hself.rdr r2 (zac9 _) (Ne.symm hne),hself.sl s2 (zac9 _) ?_,?_⟩
  ·intro b4 o4 e4 hn4
   have:=hcb b4 o4 e4 hn4
   omega
  ·intro b4 o4 e4 hn4
   rw [hcb b4 o4 e4 hn4]
   exact H3.out b o rfl (by omega)
end Go.Proofs.YthjgiamfaijoeaaGreatDoor
namespace Go.Proofs.YthjgiamfaijoeaaGreatDoor
open Go.RowKit
set_option maxRecDepth 100000
attribute [local go_sem ↓] zad
attribute [local go_sem] zaf zai zaj zal zac zak Array.getElem?_setIfInBounds
theorem zlh (p q:Addr) (w:World):
  CallsD Tryz.prog 369 #[.pointer (some p),.pointer (some q)] .returning w fun e u' w'=>e=.returned (.tuple #[])∧u'=.returning∧w'=w:=by
 refine callsD_of_wpS Tryz.func369 rfl fun c₀ cs hu=>?_
 apply wpS_seq
 apply wpS_region
 simp [wpOpsS,go_sem,recoverD,hu,Tryz.ntmps369,Exit.thenS]
 apply wpS_seq
 apply wpS_region
 simp [wpOpsS,go_sem,Exit.thenS]
 refine wpS_cond (t:=false) (by simp [Act.eval,Array.replicate]) ?_
 simp only [Bool.false_eq_true,if_false]
 refine wpS_of_wp (wp_skip ?_)
 cases c₀
 simp_all [bodyPostS,results,Tryz.results369]
set_option maxHeartbeats 1000000 in
theorem zgl (rb ob:Nat) (k:Int) (older:List PanicEntry) (w:World) {rp:Nat} {v:Value} {k0:Int} {h0:Hs} (hp:w.cell? ⟨rb,0,none⟩=some (.pointer (some ⟨rp,0,none⟩))) (hr:Rdr w rp v k0) (hq:w.heap[ob]?=some (.cells h0.cells 58)) (hne:rp ≠ ob):
  CallsD Tryz.prog 369 #[.pointer (some ⟨rb,0,none⟩),.pointer (some ⟨ob,0,none⟩)] (.panicking (stopE k false :: older)) w fun e u' w'=>
   e=.returned (.tuple #[])∧u'=.panicking (stopE k true :: older)∧∃ W,Below w.heap.size w W∧w'=((W.setCell ⟨rp,1,none⟩ (.int .i64 k)).setCell ⟨rp,0,none⟩ (.slice none 0 0)).setRow ob Hs.zero.cells:=by
 refine callsD_of_wpS Tryz.func369 rfl fun c₀ cs hu=>?_
 have HP:=zac8 hp
 have HR:=zac8 hr
 have HQ:=zac8 hq
 clear hp hr hq
 apply wpS_seq
 apply wpS_region
 unfold stopE at hu ⊢
 simp [wpOpsS,go_sem,recoverD,hu,Tryz.ntmps369,Exit.thenS]
 refine wpS_of_wp ?_
 generalize ht:HAppend.hAppend (α:=Array Value) (β:=Array Value) (γ:=Array Value) #[.pointer (some ⟨rb,0,none⟩),.pointer (some ⟨ob,0,none⟩)] _=T
 have e:T=#[.pointer (some ⟨rb,0,none⟩),.pointer (some ⟨ob,0,none⟩),.iface 364 (.agg #[.int .i64 k]),undef,undef,undef,.iface 364 (.agg #[.int .i64 k]),undef,undef,undef,undef,undef,undef,undef,undef,undef,undef,undef,undef,undef,undef,undef,undef,undef,undef,undef]:=by rw [← ht];kernel_rfl
 subst e
 have HU:=zac8 hu
 clear ht hu
 go_upto_region 6 with (fail)
 have hb1:=zas w (.cells #[.int .i64 k] 364)
 have x2:=heap_alloc_new w (.cells #[.int .i64 k] 364)
 have hb2:=zas (w.alloc (.cells #[.int .i64 k] 364)) (.cells Hs.zero.cells 58)
 have x3:=heap_alloc_new (w.alloc (.cells #[.int .i64 k] 364)) (.cells Hs.zero.cells 58)
 have x2':=(hb2.block _ (zac7 x2).1).trans x2
 have hbb:=hb1.trans (hb2.mono hb1.size)
 rw [World.size_alloc] at x3
 clear hb1 hb2 x2
 generalize (w.alloc (.cells #[.int .i64 k] 364)).alloc (.cells Hs.zero.cells 58)=W at hbb x2' x3 ⊢
 have c1:=za3 (zac9 _) hbb HP.out
 have c2:=zaa x2'
 have c3:=zaa x3
 have hr2:=HR.out.keep (zac9 _) hbb
 have c4:=hr2.left
 have c5:=hr2.why
 have f4:=hr2.soft0
 have f5:=hr2.soft1
 have q2:=(hbb.block _ (zac7 HQ.out).1).trans HQ.out
 have c6:=zaa q2
 have s6:=zan q2
 rw [zad] at c1 c4 c5
 have HB:=zac8 hbb
 have hne1:¬ rp=ob:=hne
 have hne2:¬ ob=rp:=Ne.symm hne
 have hrl:=HR.out.lt
 have hne3:¬ w.heap.size + 1=rp:=by omega
 have hne4:¬ w.heap.size=rp:=by omega
 clear hbb hr2 q2 x2' x3 hne hrl
 go_region
 refine ⟨rfl,.panicking (stopE k true :: older),rfl,.tuple #[],results_none rfl _ _ _,rfl,rfl,W.drew,HB.out.drew,rfl⟩
theorem zo5 {w w1 W:World} {p ob:Nat} {v:Value} {k0 k:Int} {h0:Hs} (hb:But p w w1) (hr:Rdr w1 p v k0) (ho:w1.heap[ob]?=some (.cells h0.cells 58)) (hpo:p ≠ ob) (hwo:w.heap.size ≤ ob)
  (hW:∃ V,Below w1.heap.size w1 V∧W=((V.setCell ⟨p,1,none⟩ (.int .i64 k)).setCell ⟨p,0,none⟩ (.slice none 0 0)).setRow ob Hs.zero.cells):
  But p w W∧Rd W p ([],k)∧rowOf W ob=Hs.zero.cells:=by
 obtain ⟨V,hV,rfl⟩:=hW
 have h1:=hr.keep (zac9 _) hV
 have h2:=(hV.block _ (zac7 ho).1).trans ho
 have hB:But p w V:=ButN.trans hb (ButN.below (hV.mono hb.size))
 have h3:((V.setCell ⟨p,1,none⟩ (.int .i64 k)).setCell ⟨p,0,none⟩ (.slice none 0 0)).heap[ob]?=some (.cells h0.cells 58):=by
  rw [zag,if_neg hpo,zag,if_neg hpo]
  exact h2
 refine ⟨ButN.row ((hB.set 1 _).set 0 _) (.inr hwo),⟨none,0,0,?_,Sl.nothing _⟩,?_⟩
 ·show Rdr _ p _ k
  unfold Rdr at *
  rw [setRow_other _ _ _ _ hpo,zag,if_pos rfl,zag,if_pos rfl,h1]
  rfl
 ·rw [zab _ _ _ _ (zan h3),if_pos rfl]
end Go.Proofs.YthjgiamfaijoeaaGreatDoor
