/- What is proved: parts of the walk and of the plain law, 1 texts in one. No condition but those each law names. -/
import Derived.Test.YtjkfondgacjpnaaGreatDoorF20
import Derived.Test.YtjkfondgacjpnaaGreatDoorF22
namespace Go.Proofs.YtjkfondgacjpnaaGreatDoor
open Go.RowKit
set_option maxRecDepth 100000
attribute [local go_sem ↓] rowOf_cell
attribute [local go_sem] rowOf_alloc soft_alloc rowOf_drew soft_drew Ext.row
theorem makes_enter {P:Program} {α:Type} {w:World} {mk:α→Value} {ob:α→World→Prop} {r:Result Next} {f:FuncId} {args:Array Value} (h:r=.ok (.enter f args) w)
  (hc:Calls P f args w fun e w2=>∃ x,e=.returned (mk x)∧(∃ g:Ext w,w2=g.val)∧ob x w2):Mk.Oper.makesUpon P w mk ob r:=by
 subst h
 exact ⟨rfl,hc⟩
abbrev PB:=Option Addr × Nat × Nat
def KP (i:Nat):Bool:=[2,3,4,8,11].contains i
def mkP (i:Nat) (x:PB):Value:=match i with
 | 2=>.pointer (some ⟨x.2.1,0,none⟩)
 | 3=>.pointer (some ⟨x.2.1,0,none⟩)
 | 4=>.pointer (some ⟨x.2.1,1,none⟩)
 | 8=>.slice x.1 x.2.1 x.2.2
 | 11=>.slice x.1 x.2.1 x.2.2
 | _=>undef
theorem mkP_2 (x:PB):mkP 2 x=.pointer (some ⟨x.2.1,0,none⟩):=rfl
theorem mkP_3 (x:PB):mkP 3 x=.pointer (some ⟨x.2.1,0,none⟩):=rfl
theorem mkP_4 (x:PB):mkP 4 x=.pointer (some ⟨x.2.1,1,none⟩):=rfl
theorem mkP_8 (x:PB):mkP 8 x=.slice x.1 x.2.1 x.2.2:=rfl
theorem mkP_11 (x:PB):mkP 11 x=.slice x.1 x.2.1 x.2.2:=rfl
def obP (kv:Array Value) (l1 l2:List Nat) (i:Nat) (x:PB) (w:World):Prop:=match i with
 | 2=>w.heap[x.2.1]?=some (.cells kv 164)
 | 3=>w.heap[x.2.1]?=some (.cells kv 164)
 | 4=>w.heap[x.2.1]?=some (.cells kv 164)
 | 8=>Sl w x.1 x.2.1 x.2.2 (bts l1)
 | 11=>Sl w x.1 x.2.1 x.2.2 (bts l2)
 | _=>True
theorem hpP (kv:Array Value) (l1 l2:List Nat):∀ i x (w1:World) (g:Ext w1),obP kv l1 l2 i x w1→obP kv l1 l2 i x g.val:=fun i x w1 g h=>by
 have hb:w1.heap[x.2.1]?=some (.cells kv 164)→g.val.heap[x.2.1]?=some (.cells kv 164):=fun h=>(g.below.block _ (Array.getElem?_eq_some_iff.1 h).1).trans h
 unfold obP at *
 split at h
 ·exact hb h
 ·exact hb h
 ·exact hb h
 ·exact Sl.ext h g
 ·exact Sl.ext h g
 ·trivial
def putLM (m:Msg):List Nat:=intI m.k ++ intI m.i ++ legsI m 2 ++ m.h.l
def putC (i c:Int):List Nat:=intI 3 ++ intI i ++ intI c
theorem check_is {m:Msg} {k:Int} (hk:m.k=1 ∨ m.k=2) (h:idE m.i (propE m)=k) (w:World):Calls Tryz.prog 71 #[.agg m.cells] w fun e w'=>e=.returned (.int .i64 k)∧Below w.heap.size w w':=h ▸ MCheck_legs hk w
theorem checkR_is {i c:Int} {k:Int} (h:idE i (refE c)=k) (w:World):Calls Tryz.prog 71 #[.agg (msgR i c).cells] w fun e w'=>e=.returned (.int .i64 k)∧Below w.heap.size w w':=h ▸ MCheck_code i c w
set_option maxHeartbeats 4000000 in
theorem MPut_legs {w:World} (hf:Forms w) {m:Msg} (hk:m.k=1 ∨ m.k=2) (he:idE m.i (propE m)=0) (hi:I64 m.i) (hp:LgI m.p) (hg:LgI m.g):Calls Tryz.prog 49 #[.agg (m.cells)] w (RetRec (putLM m) w):=by
 have HKK:=Lib.hid hk
 have HE:=Lib.hid he
 have HI:=Lib.hid hi
 have HP:=Lib.hid hp
 have HG:=Lib.hid hg
 have HK:=Lib.hid (show I64 m.k by rcases hk with h | h <;> (rw [h];exact ⟨by decide,by decide⟩))
 clear hk he hi hp hg
 have HF:=Lib.hid hf
 clear hf
 go_enter Tryz.func49,Tryz.ntmps49
 go_upto_region 1 with (fail)
 have bx:=Bx.new w (m.cells) 67;generalize w.alloc (.cells (m.cells) 67)=W at bx ⊢;have rx:=bx.rowOf;have sx:=bx.soft;have BX:=Lib.hid bx;clear bx
 go_wp2_with fail
 refine (check_is HKK.out HE.out _).mono ?_;rintro _ W2 ⟨rfl,hb⟩;have bx:=BX.out.step hb;clear BX rx sx hb;have rx:=bx.rowOf;have sx:=bx.soft;have BX:=Lib.hid bx;clear bx
 go_wp2_with fail
 have hlt:=(Array.getElem?_eq_some_iff.1 BX.out.row).1
 refine Ls.wp_region_lays (K:=KP) (mk:=mkP) (ob:=obP (kindV 99 100 101) (intI (m.k)) (intI (m.k) ++ intI (m.i))) (hpP _ _ _) 13 (by kernel_rfl) (by kernel_rfl) ?_
 simp only [List.take_succ_cons,List.take_zero,List.drop_succ_cons,List.drop_zero]
 (refine Ls.grow_step rfl (fun k hk=>?_);go_simp;(refine hk _ ?_;clear hk k))
 (refine Ls.grow_step rfl (fun k hk=>?_);go_simp;(refine hk _ ?_;clear hk k))
 (refine Ls.grow_lay rfl (fun _=>rfl) (fun E g hk=>?_) ?_)
 ·refine makes_enter (f:=72) (args:=#[.int .i64 (m.k)]) ?e (((kind_legs HKK.out g.val)).mono ?_)
  case e=>go_simp
  rintro _ _ ⟨rfl,rfl⟩
  exact ⟨(none,g.val.heap.size,0),rfl,⟨⟨_,below1 _ _⟩,rfl⟩,heap_alloc_new _ _⟩
 simp only [Act.put,List.setIfInBounds_toArray,List.set_cons_succ,List.set_cons_zero,Nat.reduceAdd,mkP_2]
 (refine Ls.grow_lay rfl (fun _=>rfl) (fun E g hk=>?_) ?_)
 ·have h:=hk ⟨2,.data⟩ (by simp) rfl rfl
  clear hk
  go_simp
  exact ⟨E 2,rfl,⟨⟨_,Below.refl _ _⟩,rfl⟩,h⟩
 simp only [Act.put,List.setIfInBounds_toArray,List.set_cons_succ,List.set_cons_zero,Nat.reduceAdd,mkP_3]
 (refine Ls.grow_lay rfl (fun _=>rfl) (fun E g hk=>?_) ?_)
 ·have h:=hk ⟨3,.data⟩ (by simp) rfl rfl
  clear hk
  go_simp
  exact ⟨E 3,rfl,⟨⟨_,Below.refl _ _⟩,rfl⟩,h⟩
 simp only [Act.put,List.setIfInBounds_toArray,List.set_cons_succ,List.set_cons_zero,Nat.reduceAdd,mkP_4]
 (refine Ls.grow_read rfl (fun _=>.func (.func 100) #[] #[]) (fun _=>rfl) (fun E g hk=>?_) ?_)
 ·have h:g.val.heap[(E 4).2.1]?=some (.cells (kindV 99 100 101) 164):=hk ⟨4,.data⟩ (by simp) rfl rfl
  have hr:=rowOf_of h
  clear hk h
  go_simp
  first | done | exact ⟨rfl,rfl⟩
 simp only [Act.put,List.setIfInBounds_toArray,List.set_cons_succ,List.set_cons_zero,Nat.reduceAdd]
 (refine Ls.grow_step rfl (fun k hk=>?_);go_simp;(refine hk _ ?_;clear hk k))
 (refine Ls.grow_step rfl (fun k hk=>?_);go_simp;(refine hk _ ?_;clear hk k))
 (refine Ls.grow_lay rfl (fun _=>rfl) (fun E g hk=>?_) ?_)
 ·refine makes_enter (f:=61) (args:=#[.slice none 0 0,.int .i64 (m.k)]) ?e ((Int_op (HF.out.keep (Nat.le_refl _) (BX.out.step g.below).below) (n:=0) (l:=[]) (Sl.nothing _) (by decide) _ HK.out).mono ?_)
  case e=>go_simp
  rintro _ w2 ⟨ao,cap,n',rfl,hb,hown⟩
  exact ⟨(ao,n',cap),rfl,⟨⟨_,hb⟩,rfl⟩,Sl.own hown⟩
 simp only [Act.put,List.setIfInBounds_toArray,List.set_cons_succ,List.set_cons_zero,Nat.reduceAdd,mkP_8]
 (refine Ls.grow_step rfl (fun k hk=>?_);go_simp;(refine hk _ ?_;clear hk k))
 (refine Ls.grow_step rfl (fun k hk=>?_);go_simp;(refine hk _ ?_;clear hk k))
 (refine Ls.grow_lay rfl (fun _=>rfl) (fun E g hk=>?_) ?_)
 ·have h:Sl g.val (E 8).1 (E 8).2.1 (E 8).2.2 (bts (intI (m.k))):=hk ⟨8,.data⟩ (by simp) rfl rfl
  refine makes_enter (f:=61) (args:=#[.slice (E 8).1 (E 8).2.1 (E 8).2.2,.int .i64 (m.i)]) ?e ((Int_op (HF.out.keep (Nat.le_refl _) (BX.out.step g.below).below) h (by have:=intI_len (m.k);omega) _ HI.out).mono ?_)
  case e=>go_simp
  rintro _ w2 ⟨ao,cap,n',rfl,hb,hown⟩
  exact ⟨(ao,n',cap),rfl,⟨⟨_,hb⟩,rfl⟩,Sl.own hown⟩
 simp only [Act.put,List.setIfInBounds_toArray,List.set_cons_succ,List.set_cons_zero,Nat.reduceAdd,mkP_11]
 (refine Ls.grow_step rfl (fun k hk=>?_);go_simp;(refine hk _ ?_;clear hk k))
 rintro E w4 hob ⟨g,rfl⟩
 have h11:Sl g.val (E 11).1 (E 11).2.1 (E 11).2.2 (bts (intI (m.k) ++ intI (m.i))):=hob 11 (by decide) rfl
 have bx:=BX.out.step g.below
 dsimp only
 obtain ⟨⟨a11,n11,c11⟩,e11⟩:∃ x,x=E 11:=⟨_,rfl⟩
 rw [← e11] at h11 ⊢
 have hl11:n11 ≤ 18:=by have:=h11.len;rw [bts_length,List.length_append] at this;have:=intI_len (m.k);have:=intI_len (m.i);simp only at *;omega
 have PC:=Lib.hid (putLegs_any (HF.out.keep (Nat.le_refl _) bx.below) h11 (by simp only;omega) HP.out HG.out)
 have BX2:=Lib.hid bx
 clear bx h11 hob BX rx sx e11
 go_wp2_with fail
 refine PC.out.mono ?_
 rintro _ W6 ⟨a6,c6,n6,rfl,hb6,own6⟩
 have e6:n6=(putLM m).length:=own_n own6 (by rfl)
 subst e6
 have O6:=Lib.hid (own_base own6 BX2.out.below.size)
 have B6:=Lib.hid (BX2.out.step hb6).below
 clear own6 hb6 PC
 go_wp2
 refine bodyPost_ret (results_tmp2 rfl _ _ _) rfl ?_
 exact ⟨a6,c6,rfl,B6.out,O6.out⟩
set_option maxHeartbeats 4000000 in
theorem MPut_code {w:World} (hf:Forms w) {i c:Int} (he:idE i (refE c)=0) (hi:I64 i) (hc:I64 c):Calls Tryz.prog 49 #[.agg ((msgR i c).cells)] w (RetRec (putC i c) w):=by
 have HE:=Lib.hid he
 have HI:=Lib.hid hi
 have HC:=Lib.hid hc
 have HK:=Lib.hid (show I64 3 from ⟨by decide,by decide⟩)
 clear he hi hc
 have HF:=Lib.hid hf
 clear hf
 go_enter Tryz.func49,Tryz.ntmps49
 go_upto_region 1 with (fail)
 have bx:=Bx.new w ((msgR i c).cells) 67;generalize w.alloc (.cells ((msgR i c).cells) 67)=W at bx ⊢;have rx:=bx.rowOf;have sx:=bx.soft;have BX:=Lib.hid bx;clear bx
 go_wp2_with fail
 refine (checkR_is HE.out _).mono ?_;rintro _ W2 ⟨rfl,hb⟩;have bx:=BX.out.step hb;clear BX rx sx hb;have rx:=bx.rowOf;have sx:=bx.soft;have BX:=Lib.hid bx;clear bx
 go_wp2_with fail
 have hlt:=(Array.getElem?_eq_some_iff.1 BX.out.row).1
 refine Ls.wp_region_lays (K:=KP) (mk:=mkP) (ob:=obP (kindV 102 103 104) (intI (3)) (intI (3) ++ intI (i))) (hpP _ _ _) 13 (by kernel_rfl) (by kernel_rfl) ?_
 simp only [List.take_succ_cons,List.take_zero,List.drop_succ_cons,List.drop_zero]
 (refine Ls.grow_step rfl (fun k hk=>?_);go_simp;(refine hk _ ?_;clear hk k))
 (refine Ls.grow_step rfl (fun k hk=>?_);go_simp;(refine hk _ ?_;clear hk k))
 (refine Ls.grow_lay rfl (fun _=>rfl) (fun E g hk=>?_) ?_)
 ·refine makes_enter (f:=72) (args:=#[.int .i64 (3)]) ?e (((kind_code g.val)).mono ?_)
  case e=>go_simp
  rintro _ _ ⟨rfl,rfl⟩
  exact ⟨(none,g.val.heap.size,0),rfl,⟨⟨_,below1 _ _⟩,rfl⟩,heap_alloc_new _ _⟩
 simp only [Act.put,List.setIfInBounds_toArray,List.set_cons_succ,List.set_cons_zero,Nat.reduceAdd,mkP_2]
 (refine Ls.grow_lay rfl (fun _=>rfl) (fun E g hk=>?_) ?_)
 ·have h:=hk ⟨2,.data⟩ (by simp) rfl rfl
  clear hk
  go_simp
  exact ⟨E 2,rfl,⟨⟨_,Below.refl _ _⟩,rfl⟩,h⟩
 simp only [Act.put,List.setIfInBounds_toArray,List.set_cons_succ,List.set_cons_zero,Nat.reduceAdd,mkP_3]
 (refine Ls.grow_lay rfl (fun _=>rfl) (fun E g hk=>?_) ?_)
 ·have h:=hk ⟨3,.data⟩ (by simp) rfl rfl
  clear hk
  go_simp
  exact ⟨E 3,rfl,⟨⟨_,Below.refl _ _⟩,rfl⟩,h⟩
 simp only [Act.put,List.setIfInBounds_toArray,List.set_cons_succ,List.set_cons_zero,Nat.reduceAdd,mkP_4]
 (refine Ls.grow_read rfl (fun _=>.func (.func 103) #[] #[]) (fun _=>rfl) (fun E g hk=>?_) ?_)
 ·have h:g.val.heap[(E 4).2.1]?=some (.cells (kindV 102 103 104) 164):=hk ⟨4,.data⟩ (by simp) rfl rfl
  have hr:=rowOf_of h
  clear hk h
  go_simp
  first | done | exact ⟨rfl,rfl⟩
 simp only [Act.put,List.setIfInBounds_toArray,List.set_cons_succ,List.set_cons_zero,Nat.reduceAdd]
 (refine Ls.grow_step rfl (fun k hk=>?_);go_simp;(refine hk _ ?_;clear hk k))
 (refine Ls.grow_step rfl (fun k hk=>?_);go_simp;(refine hk _ ?_;clear hk k))
 (refine Ls.grow_lay rfl (fun _=>rfl) (fun E g hk=>?_) ?_)
 ·refine makes_enter (f:=61) (args:=#[.slice none 0 0,.int .i64 (3)]) ?e ((Int_op (HF.out.keep (Nat.le_refl _) (BX.out.step g.below).below) (n:=0) (l:=[]) (Sl.nothing _) (by decide) _ HK.out).mono ?_)
  case e=>go_simp
  rintro _ w2 ⟨ao,cap,n',rfl,hb,hown⟩
  exact ⟨(ao,n',cap),rfl,⟨⟨_,hb⟩,rfl⟩,Sl.own hown⟩
 simp only [Act.put,List.setIfInBounds_toArray,List.set_cons_succ,List.set_cons_zero,Nat.reduceAdd,mkP_8]
 (refine Ls.grow_step rfl (fun k hk=>?_);go_simp;(refine hk _ ?_;clear hk k))
 (refine Ls.grow_step rfl (fun k hk=>?_);go_simp;(refine hk _ ?_;clear hk k))
 (refine Ls.grow_lay rfl (fun _=>rfl) (fun E g hk=>?_) ?_)
 ·have h:Sl g.val (E 8).1 (E 8).2.1 (E 8).2.2 (bts (intI (3))):=hk ⟨8,.data⟩ (by simp) rfl rfl
  refine makes_enter (f:=61) (args:=#[.slice (E 8).1 (E 8).2.1 (E 8).2.2,.int .i64 (i)]) ?e ((Int_op (HF.out.keep (Nat.le_refl _) (BX.out.step g.below).below) h (by have:=intI_len (3);omega) _ HI.out).mono ?_)
  case e=>go_simp
  rintro _ w2 ⟨ao,cap,n',rfl,hb,hown⟩
  exact ⟨(ao,n',cap),rfl,⟨⟨_,hb⟩,rfl⟩,Sl.own hown⟩
 simp only [Act.put,List.setIfInBounds_toArray,List.set_cons_succ,List.set_cons_zero,Nat.reduceAdd,mkP_11]
 (refine Ls.grow_step rfl (fun k hk=>?_);go_simp;(refine hk _ ?_;clear hk k))
 rintro E w4 hob ⟨g,rfl⟩
 have h11:Sl g.val (E 11).1 (E 11).2.1 (E 11).2.2 (bts (intI (3) ++ intI (i))):=hob 11 (by decide) rfl
 have bx:=BX.out.step g.below
 dsimp only
 obtain ⟨⟨a11,n11,c11⟩,e11⟩:∃ x,x=E 11:=⟨_,rfl⟩
 rw [← e11] at h11 ⊢
 have hl11:n11 ≤ 18:=by have:=h11.len;rw [bts_length,List.length_append] at this;have:=intI_len (3);have:=intI_len (i);simp only at *;omega
 have PC:=Lib.hid (RetO.op (putCode_any (HF.out.keep (Nat.le_refl _) bx.below) h11 (by simp only;omega) (m:=msgR i c) HC.out))
 have BX2:=Lib.hid bx
 clear bx h11 hob BX rx sx e11
 go_wp2_with fail
 refine PC.out.mono ?_
 rintro _ W6 ⟨a6,c6,n6,rfl,hb6,own6⟩
 have e6:n6=(putC i c).length:=own_n own6 (by rfl)
 subst e6
 have O6:=Lib.hid (own_base own6 BX2.out.below.size)
 have B6:=Lib.hid (BX2.out.step hb6).below
 clear own6 hb6 PC
 go_wp2
 refine bodyPost_ret (results_tmp2 rfl _ _ _) rfl ?_
 exact ⟨a6,c6,rfl,B6.out,O6.out⟩
end Go.Proofs.YtjkfondgacjpnaaGreatDoor
namespace Go.Proofs.YtjkfondgacjpnaaGreatDoor
open Go.RowKit
set_option maxRecDepth 100000
theorem sl_sub {w:World} {b o n c:Nat} {vs:List Value} (h:Sl w (some ⟨b,o,none⟩) n c vs) (hn:0 < n):sub (rowOf w b) o n=vs.toArray∧o + n ≤ (rowOf w b).size:=by
 obtain ⟨b',o',e,_,hc⟩:=h.at hn
 cases e
 have hl:=h.len
 have hs:o + n ≤ (rowOf w b).size:=by
  have h1:n - 1 < vs.length:=by omega
  have:=hc (n - 1) _ (List.getElem?_eq_getElem h1)
  rw [rowOf_cell] at this
  have:=(Array.getElem?_eq_some_iff.1 this).1
  omega
 refine ⟨?_,hs⟩
 unfold sub
 apply Array.ext_getElem?
 intro i
 rw [Array.getElem?_extract]
 simp only [List.getElem?_toArray,Nat.min_eq_left hs,Nat.add_sub_cancel_left]
 by_cases hi:i < n
 ·rw [if_pos hi]
  have h1:i < vs.length:=by omega
  have:=hc i _ (List.getElem?_eq_getElem h1)
  rw [rowOf_cell] at this
  rw [this,List.getElem?_eq_getElem h1]
 ·rw [if_neg hi,List.getElem?_eq_none (by omega)]
theorem ButN.row {N p b:Nat} {w w':World} {cs:Array Value} (h:ButN N p w w') (hb:b=p ∨ N ≤ b):ButN N p w (w'.setRow b cs):=
 h.trans ⟨rfl,rfl,rfl,by simp [World.setRow],fun k h1 h2=>setRow_other w' b k cs (by omega)⟩
def hs32 (l:List Nat):Hs:=if h:(l.take 32).length=32 then ⟨l.take 32,h⟩ else Hs.zero
theorem hs32_l {l:List Nat} (h:¬ l.length < 32):(hs32 l).l=l.take 32:=by
 unfold hs32
 rw [dif_pos (by rw [List.length_take];omega)]
def rdHs (s:RS):Hs × RS:=if s.2 ≠ 0 then (Hs.zero,[],s.2) else if s.1.length < 32 then (Hs.zero,[],4) else (hs32 s.1,s.1.drop 32,0)
def HashR (B:Nat) (p:Nat) (w:World) (l:List Nat):Ending→World→Prop:=fun e w'=>But p w w'∧
 if l.length < 32 then e=.panicked [stopE 4 false]∧∃ v,Rdr w' p v 0 else e=.returned (.agg (hs32 l).cells)∧RdB B w' p (l.drop 32,0)
attribute [local go_sem ↓] rowOf_cell
attribute [local go_sem] rowOf_alloc soft_alloc rowOf_drew soft_drew
theorem arrayAt39 (w:World) (b o:Nat):(Instr.arrayAt 65 (.slice (some ⟨b,o,none⟩) 32 32)).run Tryz.prog w=.ok (.pointer (some ⟨b,o,none⟩)) w:=by kernel_rfl
attribute [local go_sem] arrayAt39
theorem hash1_any {w:World} {B rb p:Nat} {l:List Nat} (hb:w.cell? ⟨rb,0,none⟩=some (.pointer (some ⟨p,0,none⟩))) (hr:RdB B w p (l,0)):Calls Tryz.prog 199 #[.pointer (some ⟨rb,0,none⟩)] w (HashR B p w l):=by
 obtain ⟨ao,n,c,h1,h2,h3⟩:=hr
 have hln:l.length=n:=by have:=h2.len;rwa [bts_length] at this
 have H3:=Lib.hid h3
 have HC:=Lib.hid hb
 have HR:=Lib.hid (show Rdr w p (.slice ao n c) 0 from h1)
 have HS:=Lib.hid (show Sl w ao n c (bts l) from h2)
 clear hb h1 h2 h3
 by_cases hsh:n < 32
 ·have e1:l.length < 32:=by omega
  go_enter Tryz.func199,Tryz.ntmps199
  go_upto_region 1 with (fail)
  have bx:=Bx.new w (Hs.zero.cells) 65;generalize w.alloc (.cells (Hs.zero.cells) 65)=W at bx ⊢;have rx:=bx.rowOf;have sx:=bx.soft;have BX:=Lib.hid bx;clear bx
  have c1:=cell_keep' (Nat.le_refl _) BX.out.below HC.out
  rw [rowOf_cell] at c1
  have T:=Lib.hid (take_short (HR.out.keep (Nat.le_refl _) BX.out.below) hsh)
  go_wp2_with fail
  refine T.out.mono ?_
  rintro _ _ ⟨rfl,rfl⟩
  refine ⟨rfl,ButN.below BX.out.below,?_⟩
  rw [if_pos e1]
  exact ⟨rfl,_,HR.out.keep (Nat.le_refl _) BX.out.below⟩
 ·have e1:¬ l.length < 32:=by omega
  have hp:=HR.out.lt
  have hcut:Sl w (cutA ao 32 c) (n - 32) (c - 32) (bts (l.drop 32)):=HS.out.cutB (l:=32) (r:=n) (m:=c) (by omega) (Nat.le_refl _) (Nat.le_refl _) HS.out.le rfl rfl (by rw [List.take_of_length_le];rw [List.length_drop];omega)
  have hfront:Sl w ao 32 32 (bts (l.take 32)):=HS.out.frontB (by omega) (by omega) (by have:=HS.out.le;omega) rfl
  obtain ⟨b,o,rfl,hbl,_⟩:=hfront.at (by decide)
  have hbp:=HR.out.apart hfront b o rfl (by decide)
  have HCut:=Lib.hid hcut
  have HFr:=Lib.hid hfront
  have HL:=Lib.hid (hs32_l e1)
  clear hcut hfront
  go_enter Tryz.func199,Tryz.ntmps199
  go_upto_region 1 with (fail)
  have bx:=Bx.new w (Hs.zero.cells) 65;generalize w.alloc (.cells (Hs.zero.cells) 65)=W at bx ⊢;have rx:=bx.rowOf;have sx:=bx.soft;have BX:=Lib.hid bx;clear bx
  have c1:=cell_keep' (Nat.le_refl _) BX.out.below HC.out
  rw [rowOf_cell] at c1
  have r1:=HR.out.keep (Nat.le_refl _) BX.out.below
  have T:=Lib.hid (take_ok r1 (m:=32) (by omega) HS.out.le)
  have HR1:=Lib.hid r1
  clear r1
  go_wp2_with fail
  refine T.out.mono ?_
  rintro _ W2 ⟨rfl,e2⟩
  have hb2:But p W W2:=by rw [e2];exact ButN.refl.set 0 _
  have r2:Rdr W2 p (.slice (cutA (some ⟨b,o,none⟩) 32 c) (n - 32) (c - 32)) 0:=by rw [e2];exact HR1.out.set
  clear e2
  have f2:=hb2.sl (HFr.out.keep (Nat.le_refl _) BX.out.below) (Nat.le_refl _) (HR1.out.apart (HFr.out.keep (Nat.le_refl _) BX.out.below))
  have s2:=hb2.sl (HCut.out.keep (Nat.le_refl _) BX.out.below) (Nat.le_refl _) (HR1.out.apart (HCut.out.keep (Nat.le_refl _) BX.out.below))
  obtain ⟨g1,g2⟩:=sl_sub f2 (by decide)
  rw [← HL.out] at g1
  have g1':sub (rowOf W2 b) o 32=(hs32 l).cells:=g1
  have hne:w.heap.size ≠ p:=by omega
  have q2:W2.heap[w.heap.size]?=some (.cells Hs.zero.cells 65):=(hb2.block _ (Array.getElem?_eq_some_iff.1 BX.out.row).1 hne).trans BX.out.row
  have rx2:=rowOf_of q2
  have sx2:=soft_of q2
  have H2:=Lib.hid (And.intro hb2 (And.intro r2 (And.intro s2 (And.intro f2 q2))))
  clear rx sx c1 hb2 r2 s2 f2 q2 g1 T
  go_wp2_with fail
  obtain ⟨hb2,r2,s2,f2,q2⟩:=H2.out
  have hself:ButN W2.heap.size w.heap.size W2 (W2.setRow w.heap.size (hs32 l).cells):=ButN.refl.row (.inl rfl)
  have hc:rowOf (W2.setRow w.heap.size (hs32 l).cells) w.heap.size=(hs32 l).cells:=by rw [rowOf_setRow _ _ _ _ (soft_of q2),if_pos rfl]
  refine bodyPost_ret (results_row (t:=65) rfl Tryz.underlying65 rfl (by kernel_rfl) _ _ w.heap.size rfl hc (h_size _)) rfl ?_
  refine ⟨ButN.row (ButN.trans (ButN.below BX.out.below) (hb2.mono BX.out.below.size)) (.inr (Nat.le_refl _)),?_⟩
  rw [if_neg e1]
  have hcb:∀ b4 o4,cutA (some ⟨b,o,none⟩) 32 c=some ⟨b4,o4,none⟩→0 < n - 32→b4=b:=fun b4 o4 e4 _=>cutA_block e4
  refine ⟨rfl,_,_,_,hself.rdr r2 (Nat.le_refl _) (Ne.symm hne),hself.sl s2 (Nat.le_refl _) ?_,?_⟩
  ·intro b4 o4 e4 hn4
   have:=hcb b4 o4 e4 hn4
   omega
  ·intro b4 o4 e4 hn4
   rw [hcb b4 o4 e4 hn4]
   exact H3.out b o rfl (by omega)
end Go.Proofs.YtjkfondgacjpnaaGreatDoor
namespace Go.Proofs.YtjkfondgacjpnaaGreatDoor
open Go.RowKit
set_option maxRecDepth 100000
attribute [local go_sem ↓] rowOf_cell
attribute [local go_sem] rowOf_alloc soft_alloc rowOf_drew soft_drew rowOf_setCell soft_setCell Array.getElem?_setIfInBounds
theorem caughtH_idle (p q:Addr) (w:World):
  CallsD Tryz.prog 235 #[.pointer (some p),.pointer (some q)] .returning w fun e u' w'=>e=.returned (.tuple #[])∧u'=.returning∧w'=w:=by
 refine callsD_of_wpS Tryz.func235 rfl fun c₀ cs hu=>?_
 apply wpS_seq
 apply wpS_region
 simp [wpOpsS,go_sem,recoverD,hu,Tryz.ntmps235,Exit.thenS]
 apply wpS_seq
 apply wpS_region
 simp [wpOpsS,go_sem,Exit.thenS]
 refine wpS_cond (t:=false) (by simp [Act.eval,Array.replicate]) ?_
 simp only [Bool.false_eq_true,if_false]
 refine wpS_of_wp (wp_skip ?_)
 cases c₀
 simp_all [bodyPostS,results,Tryz.results235]
set_option maxHeartbeats 1000000 in
theorem caughtH_stop (rb ob:Nat) (k:Int) (older:List PanicEntry) (w:World) {rp:Nat} {v:Value} {k0:Int} {h0:Hs} (hp:w.cell? ⟨rb,0,none⟩=some (.pointer (some ⟨rp,0,none⟩))) (hr:Rdr w rp v k0) (hq:w.heap[ob]?=some (.cells h0.cells 65)) (hne:rp ≠ ob):
  CallsD Tryz.prog 235 #[.pointer (some ⟨rb,0,none⟩),.pointer (some ⟨ob,0,none⟩)] (.panicking (stopE k false :: older)) w fun e u' w'=>
   e=.returned (.tuple #[])∧u'=.panicking (stopE k true :: older)∧∃ W,Below w.heap.size w W∧w'=((W.setCell ⟨rp,1,none⟩ (.int .i64 k)).setCell ⟨rp,0,none⟩ (.slice none 0 0)).setRow ob Hs.zero.cells:=by
 refine callsD_of_wpS Tryz.func235 rfl fun c₀ cs hu=>?_
 have HP:=Lib.hid hp
 have HR:=Lib.hid hr
 have HQ:=Lib.hid hq
 clear hp hr hq
 apply wpS_seq
 apply wpS_region
 unfold stopE at hu ⊢
 simp [wpOpsS,go_sem,recoverD,hu,Tryz.ntmps235,Exit.thenS]
 refine wpS_of_wp ?_
 generalize ht:HAppend.hAppend (α:=Array Value) (β:=Array Value) (γ:=Array Value) #[.pointer (some ⟨rb,0,none⟩),.pointer (some ⟨ob,0,none⟩)] _=T
 have e:T=#[.pointer (some ⟨rb,0,none⟩),.pointer (some ⟨ob,0,none⟩),.iface 252 (.agg #[.int .i64 k]),undef,undef,undef,.iface 252 (.agg #[.int .i64 k]),undef,undef,undef,undef,undef,undef,undef,undef,undef,undef,undef,undef,undef,undef,undef,undef,undef,undef,undef]:=by rw [← ht];kernel_rfl
 subst e
 have HU:=Lib.hid hu
 clear ht hu
 go_upto_region 6 with (fail)
 have hb1:=below1 w (.cells #[.int .i64 k] 252)
 have x2:=heap_alloc_new w (.cells #[.int .i64 k] 252)
 have hb2:=below1 (w.alloc (.cells #[.int .i64 k] 252)) (.cells Hs.zero.cells 65)
 have x3:=heap_alloc_new (w.alloc (.cells #[.int .i64 k] 252)) (.cells Hs.zero.cells 65)
 have x2':=(hb2.block _ (Array.getElem?_eq_some_iff.1 x2).1).trans x2
 have hbb:=hb1.trans (hb2.mono hb1.size)
 rw [World.size_alloc] at x3
 clear hb1 hb2 x2
 generalize (w.alloc (.cells #[.int .i64 k] 252)).alloc (.cells Hs.zero.cells 65)=W at hbb x2' x3 ⊢
 have c1:=cell_keep' (Nat.le_refl _) hbb HP.out
 have c2:=rowOf_of x2'
 have c3:=rowOf_of x3
 have hr2:=HR.out.keep (Nat.le_refl _) hbb
 have c4:=hr2.left
 have c5:=hr2.why
 have f4:=hr2.soft0
 have f5:=hr2.soft1
 have q2:=(hbb.block _ (Array.getElem?_eq_some_iff.1 HQ.out).1).trans HQ.out
 have c6:=rowOf_of q2
 have s6:=soft_of q2
 rw [rowOf_cell] at c1 c4 c5
 have HB:=Lib.hid hbb
 have hne1:¬ rp=ob:=hne
 have hne2:¬ ob=rp:=Ne.symm hne
 have hrl:=HR.out.lt
 have hne3:¬ w.heap.size + 1=rp:=by omega
 have hne4:¬ w.heap.size=rp:=by omega
 clear hbb hr2 q2 x2' x3 hne hrl
 go_region
 refine ⟨rfl,.panicking (stopE k true :: older),rfl,.tuple #[],results_none rfl _ _ _,rfl,rfl,W.drew,HB.out.drew,rfl⟩
theorem stoppedH {w w1 W:World} {p ob:Nat} {v:Value} {k0 k:Int} {h0:Hs} (hb:But p w w1) (hr:Rdr w1 p v k0) (ho:w1.heap[ob]?=some (.cells h0.cells 65)) (hpo:p ≠ ob) (hwo:w.heap.size ≤ ob)
  (hW:∃ V,Below w1.heap.size w1 V∧W=((V.setCell ⟨p,1,none⟩ (.int .i64 k)).setCell ⟨p,0,none⟩ (.slice none 0 0)).setRow ob Hs.zero.cells):
  But p w W∧Rd W p ([],k)∧rowOf W ob=Hs.zero.cells:=by
 obtain ⟨V,hV,rfl⟩:=hW
 have h1:=hr.keep (Nat.le_refl _) hV
 have h2:=(hV.block _ (Array.getElem?_eq_some_iff.1 ho).1).trans ho
 have hB:But p w V:=ButN.trans hb (ButN.below (hV.mono hb.size))
 have h3:((V.setCell ⟨p,1,none⟩ (.int .i64 k)).setCell ⟨p,0,none⟩ (.slice none 0 0)).heap[ob]?=some (.cells h0.cells 65):=by
  rw [heap_setCell_at,if_neg hpo,heap_setCell_at,if_neg hpo]
  exact h2
 refine ⟨ButN.row ((hB.set 1 _).set 0 _) (.inr hwo),⟨none,0,0,?_,Sl.nothing _⟩,?_⟩
 ·show Rdr _ p _ k
  unfold Rdr at *
  rw [setRow_other _ _ _ _ hpo,heap_setCell_at,if_pos rfl,heap_setCell_at,if_pos rfl,h1]
  rfl
 ·rw [rowOf_setRow _ _ _ _ (soft_of h3),if_pos rfl]
end Go.Proofs.YtjkfondgacjpnaaGreatDoor
