/- What is proved: parts of the walk and of the plain law, 1 texts in one. No condition but those each law names. -/
import Derived.WalkKit
import Derived.StillTail
import Derived.Deep.Quiet
import Derived.BigQuiet
import Derived.Below
import Derived.Deep.AppendLies
import Derived.Laws.AppendOwnNone
namespace Go.Proofs.YtjkfondgacjpnaaGreatDoor
open Go.RowKit
structure Ext (w:World) where
 val:World
 below:Below w.heap.size w val
instance Ext.nonempty (w:World):Nonempty (Ext w):=⟨⟨w,Below.refl _ _⟩⟩
def Ext.trans {w:World} (g:Ext w) (h:Ext g.val):Ext w:=⟨h.val,g.below.trans (h.below.mono g.below.size)⟩
theorem Ext.up {w W:World} (g:Ext W) (h:Below w.heap.size w W):Below w.heap.size w g.val:=h.trans (g.below.mono h.size)
def Ext.of {w w':World} (h:Below w.heap.size w w'):Ext w:=⟨w',h⟩
theorem Ext.cell {w:World} (g:Ext w) (b o:Nat) (h:b < w.heap.size):g.val.cell? ⟨b,o,none⟩=w.cell? ⟨b,o,none⟩:=g.below.cell (p:=⟨b,o,none⟩) h
theorem Ext.frozen {w:World} (g:Ext w) (b o:Nat) (h:b < w.heap.size):g.val.frozen? ⟨b,o,none⟩=w.frozen? ⟨b,o,none⟩:=g.below.frozen (p:=⟨b,o,none⟩) h
theorem Ext.lt {w:World} (g:Ext w) (n:Nat) (h:n < w.heap.size):(n < g.val.heap.size)=True:=eq_true (Nat.lt_of_lt_of_le h g.below.size)
theorem Ext.size {w:World} (g:Ext w):w.heap.size ≤ g.val.heap.size:=g.below.size
def Ret (v:Value) (w:World):Ending→World→Prop:=fun e w'=>e=.returned v∧∃ g:Ext w,w'=g.val
theorem Ret.mk {v:Value} {w w':World} (h:Below w.heap.size w w'):Ret v w (.returned v) w':=⟨rfl,⟨w',h⟩,rfl⟩
theorem Ret.mk_of {v v':Value} {w w':World} (h:Below w.heap.size w w') (e:v'=v):Ret v w (.returned v') w':=⟨by rw [e],⟨w',h⟩,rfl⟩
theorem Calls.ext_of {P:Program} {f:FuncId} {args:Array Value} {w:World} {g:Ext w} {v:Value}
  (h:Calls P f args g.val (Ret v g.val)):Calls P f args g.val fun e w''=>e=.returned v∧∃ g':Ext w,w''=g'.val:=
 h.mono fun _ _ ⟨he,g',hg⟩=>⟨he,g.trans g',hg⟩
theorem forall_ext {w:World} (p:World→Prop):(∀ w',(∃ g:Ext w,w'=g.val)→p w')=∀ g:Ext w,p g.val:=
 propext ⟨fun h g=>h _ ⟨g,rfl⟩,fun h _ ⟨g,e⟩=>by rw [e];exact h g⟩
attribute [go_sem ↓] forall_ext
section
variable {P:Program} {ops:Array Oper} {md:Region.Mode} {C:World→Prop}
theorem wp_region_grow {id:Nat} {Q:Exit→Act→World→Prop} {a:Act} {w:World} {l:List Oper} (hm:P.follows .mixedOrders=true) (hB:Region.lexB .any l.toArray=true)
  (h:wpQuiet P l.toArray (fun w'=>∃ g:Ext w,w'=g.val) (fun a'=>∀ w',(∃ g:Ext w,w'=g.val)→Q .normal a' w') l a):(Code.region id l.toArray true).wp P Q a w:=
 wp_region_quiet (C:=fun w'=>∃ g:Ext w,w'=g.val) hm hB ⟨⟨_,(Below.refl _ w).drew⟩,rfl⟩ (by simpa using h)
def wpAnyC (P:Program) (md:Region.Mode) (ops:Array Oper) (C:World→Prop) (n:Nat) (L:Array Bool→Act→Prop):Nat→Array Bool→Act→Prop
 | 0,listed,a=>L listed a
 | f + 1,listed,a=>
  Region.ready md ops listed ≠ []∧∀ i ∈ Region.ready md ops listed,i < n∧qOp P ops C i (wpAnyC P md ops C n L f (listed.setIfInBounds i true)) a
theorem wpAny_of_headC {n g:Nat} {L:Array Bool→Act→Prop} {Q':Exit→Act→World→Prop} (hL:∀ listed a w,C w→L listed a→wpAny P md ops Q' g listed a w):
  ∀ (f:Nat) (listed:Array Bool) (a:Act) (w:World),C w→wpAnyC P md ops C n L f listed a→wpAny P md ops Q' (f + g) listed a w
 | 0,listed,a,w,hw,h=>by rw [Nat.zero_add];exact hL _ _ _ hw h
 | f + 1,listed,a,w,hw,h=>by
  rw [show f + 1 + g=(f + g) + 1 by omega]
  exact ⟨fun h0=>absurd h0 h.1,fun i hi=>wpOp_of_qOp hw (fun a' w' hw' h'=>wpAny_of_headC hL f _ a' w' hw' h') (h.2 i hi).2⟩
theorem wpAnyC_first {n i:Nat} {oi:Oper} {v:Value} {L:Array Bool→Act→Prop} (hi:ops[i]?=some oi) (hsel:∀ (j:Nat) (o:Oper) cs b,ops[j]?=some o→o.op ≠ .select cs b)
  (hs:Region.sinkB md ops n=true) (hc:Region.chainB md ops n=true) (hn:n < ops.size) (hin:i < n)
  (hdone:∀ listed a,L listed a→∀ j ∈ Region.ready md ops listed,n ≤ j):
  ∀ (f:Nat) (listed:Array Bool) (a:Act),HeadInv md ops n listed→
   (∀ j oj,ops[j]?=some oj→j ≠ i→listed.getD j true=false→(∀ e ∈ oj.after,Region.binds md e=true→e.on ≠ i)→oi.apart ops oj=true)→
   i ∈ Region.ready md ops listed→YieldsIn P ops C oi v a→
   wpAnyC P md ops C n L f (listed.setIfInBounds i true) (a.put oi.dst v)→wpAnyC P md ops C n L (f + 1) listed a:=by
 intro f
 induction f with
 | zero=>
  intro listed a inv _ hr hy H
  have hun:=(mem_ready.1 hr).1
  refine ⟨fun h=>(by rw [h] at hr;cases hr),fun j hj=>?_⟩
  have hjn:j < n:=by
   rcases Nat.lt_or_ge j n with h | h
   ·exact h
   ·exact absurd hj (tail_waits hs hc hn inv _ i rfl hin hun j h)
  refine ⟨hjn,?_⟩
  by_cases hji:j=i
  ·subst hji;exact hy.qOp hi H
  ·have:=hdone _ _ H j (ready_mono hj hji)
   omega
 | succ f ih=>
  intro listed a inv hfree hr hy H
  have hun:=(mem_ready.1 hr).1
  refine ⟨fun h=>(by rw [h] at hr;cases hr),fun j hj=>?_⟩
  have hjn:j < n:=by
   rcases Nat.lt_or_ge j n with h | h
   ·exact h
   ·exact absurd hj (tail_waits hs hc hn inv _ i rfl hin hun j h)
  refine ⟨hjn,?_⟩
  by_cases hji:j=i
  ·subst hji;exact hy.qOp hi H
  ·have h1:=(H.2 j (ready_mono hj hji)).2
   obtain ⟨hjun,oj,hoj,hall⟩:=mem_ready.1 hj
   have hnot:∀ e ∈ oj.after,Region.binds md e=true→e.on ≠ i:=fun e he hb heq=>by
    have h1:=hall e he hb
    rw [heq,getD_both hun] at h1
    cases h1
   have h2:=qOp_put hoj (hfree j oj hoj hji hjun hnot) (fun cs b=>hsel i oi cs b hi) (fun cs b=>hsel j oj cs b hoj) hy h1
   have hfree':∀ k ok,ops[k]?=some ok→k ≠ i→(listed.setIfInBounds j true).getD k true=false→
     (∀ e ∈ ok.after,Region.binds md e=true→e.on ≠ i)→oi.apart ops ok=true:=fun k ok hk hki hun hno=>by
    refine hfree k ok hk hki ?_ hno
    by_cases hjk:j=k
    ·subst hjk;exact hjun
    ·rw [getD_set_ne true hjk] at hun;exact hun
   refine qOp_mono (fun a' h3=>ih (listed.setIfInBounds j true) a' (inv.set hj hjn) hfree' (ready_mono hr (Ne.symm hji)) h3.1 ?_) h2
   rw [Array.setIfInBounds_comm _ _ hji]
   exact h3.2
theorem wpAnyC_lex {n g:Nat} {Lq:Act→Prop} (hsel:Region.noSelect ops=true) (hs:Region.sinkB md ops n=true) (hc:Region.chainB md ops n=true) (hn:n < ops.size):
  ∀ (l:List Oper) (k:Nat) (listed:Array Bool) (a:Act),(∀ j,j < l.length→l[j]?=ops[k + j]?)→k + l.length=n→HeadInv md ops n listed→
  Region.lexHead md ops g l.length k listed=true→wpQuiet P ops C Lq l a→
  wpAnyC P md ops C n (fun listed' a'=>Region.seqB md ops g n listed'=true∧Lq a') l.length listed a
 | [],k,listed,a,_,hk,_,hB,h=>by
  have:k=n:=by simpa using hk
  subst this
  exact ⟨by simpa [Region.lexHead] using hB,h⟩
 | o :: l,k,listed,a,hl,hk,inv,hB,h=>by
  have h0:ops[k]?=some o:=by simpa using (hl 0 (by simp)).symm
  simp only [List.length_cons,Region.lexHead,Bool.and_eq_true] at hB
  obtain ⟨⟨hr,hf⟩,hB'⟩:=hB
  have hkn:k < n:=by simp only [List.length_cons] at hk;omega
  have hr':k ∈ Region.ready md ops listed:=by simpa using hr
  have hst:qOp P ops C k (wpQuiet P ops C Lq l) a:=by unfold qOp;simp only [h0];exact h
  obtain ⟨v,hy,hK⟩:=yieldsIn_of_qOp h0 hst
  exact wpAnyC_first h0 (Region.noSelect_spec hsel) hs hc hn hkn (fun listed' a' hL=>seqB_ready hL.1) l.length listed a inv (Region.free_spec h0 hf) hr' hy
   (wpAnyC_lex hsel hs hc hn l (k + 1) _ _ (fun j hj=>by have:=hl (j + 1) (by simp;omega);simpa [Nat.add_assoc,Nat.add_comm 1 j] using this) (by simp only [List.length_cons] at hk;omega) (inv.set hr' hkn) hB' hK)
theorem wp_region_grow_tail {id:Nat} {Q:Exit→Act→World→Prop} {a:Act} {w:World} {l:List Oper} (n:Nat) (hm:P.follows .mixedOrders=true) (hB:Region.lexTailB .any l.toArray n=true)
  (h:wpQuiet P l.toArray (fun w'=>∃ g:Ext w,w'=g.val) (fun a'=>∀ w',(∃ g:Ext w,w'=g.val)→wpList P l.toArray Q (l.drop n) a' w') (l.take n) a):(Code.region id l.toArray true).wp P Q a w:=by
 simp only [Region.lexTailB,Bool.and_eq_true,decide_eq_true_eq] at hB
 obtain ⟨⟨⟨⟨hsel,hn⟩,hs⟩,hc⟩,hlex⟩:=hB
 have hn':n < l.length:=by simpa using hn
 have htl:(l.take n).length=n:=by simp;omega
 have hdl:(l.drop n).length=l.toArray.size - n:=by simp
 have inv0:HeadInv .any l.toArray n (Array.replicate l.toArray.size false):=
  ⟨by simp,fun j oj _ hl=>(by rw [getD_replicate_false] at hl;cases hl),fun t _ ht=>getD_in (by simpa using ht) (getD_replicate_false _ _)⟩
 have H:=wpAnyC_lex (md:=.any) (g:=l.toArray.size - n) hsel hs hc hn (l.take n) 0 _ a (fun j hj=>by
  have hj':j < n:=by rw [htl] at hj;exact hj
  simp [hj']) (by simpa using htl) inv0 (by rw [htl];exact hlex) h
 refine wp_region_any hm ?_
 have:=wpAny_of_headC (Q':=Q) (g:=l.toArray.size - n) (fun listed a' w' hw' hL=>by
  have:=wpAny_of_seq (md:=.any) (Q':=Q) (l.drop n) n listed a' w' (fun j=>by simp [List.getElem?_drop]) (by rw [hdl];exact hL.1) (hL.2 w' hw')
  rwa [hdl] at this) _ _ _ { w with drawn:=w.drawn + 1 } ⟨⟨_,(Below.refl _ w).drew⟩,rfl⟩ H
 rw [htl,show n + (l.toArray.size - n)=l.toArray.size by omega] at this
 exact this
end
end Go.Proofs.YtjkfondgacjpnaaGreatDoor
namespace Go.Proofs.YtjkfondgacjpnaaGreatDoor
open Go.RowKit
def bts (l:List Nat):List Value:=l.map fun (n:Nat)=>Value.int .u8 (n:Int)
theorem bts_length (l:List Nat):(bts l).length=l.length:=by simp [bts]
theorem bts_append (l k:List Nat):bts (l ++ k)=bts l ++ bts k:=by simp [bts]
theorem bts_get (l:List Nat) (j:Nat):(bts l)[j]?=(l[j]?).map fun (n:Nat)=>Value.int .u8 (n:Int):=by unfold bts;rw [List.getElem?_map]
theorem bts_one (l:List Nat):∀ u ∈ bts l,u.oneCell'=true:=by intro u hu;simp only [bts,List.mem_map] at hu;obtain ⟨n,_,rfl⟩:=hu;rfl
structure Sl (w:World) (ao:Option Addr) (n cap:Nat) (vs:List Value):Prop where
 len:vs.length=n
 le:n ≤ cap
 nil:ao=none→cap=0
 cells:vs=[] ∨ ∃ b o,ao=some ⟨b,o,none⟩∧∀ (j:Nat) x,vs[j]?=some x→w.cell? ⟨b,o + j,none⟩=some x
theorem Sl.at {w:World} {ao:Option Addr} {n cap:Nat} {vs:List Value} (h:Sl w ao n cap vs) (h0:0 < n):∃ b o,ao=some ⟨b,o,none⟩∧b < w.heap.size∧∀ (j:Nat) x,vs[j]?=some x→w.cell? ⟨b,o + j,none⟩=some x:=by
 rcases h.cells with rfl | ⟨b,o,e,hc⟩
 ·have:=h.len;simp at this;omega
 ·have h1:0 < vs.length:=by rw [h.len];exact h0
  exact ⟨b,o,e,World.block_lt_of_cell? w ⟨b,o + 0,none⟩ (hc 0 _ (List.getElem?_eq_getElem h1)),hc⟩
theorem Sl.nothing (w:World):Sl w none 0 0 []:=⟨rfl,Nat.le_refl _,fun _=>rfl,.inl rfl⟩
theorem Sl.keep {w w':World} {B:Nat} {ao:Option Addr} {n cap:Nat} {vs:List Value} (h:Sl w ao n cap vs) (hB:w.heap.size ≤ B) (hw:Below B w w'):Sl w' ao n cap vs:=by
 refine ⟨h.len,h.le,h.nil,?_⟩
 rcases h.cells with h1 | ⟨b,o,e,hc⟩
 ·exact .inl h1
 ·refine .inr ⟨b,o,e,fun j x hj=>?_⟩
  have:=hc j x hj
  rw [hw.cell (p:=⟨b,o + j,none⟩) (Nat.lt_of_lt_of_le (World.block_lt_of_cell? w ⟨b,o + j,none⟩ this) hB)]
  exact this
theorem Sl.ext {w:World} {ao:Option Addr} {n cap:Nat} {vs:List Value} (h:Sl w ao n cap vs) (g:Ext w):Sl g.val ao n cap vs:=h.keep (Nat.le_refl _) g.below
theorem ext_cell {w:World} {b o:Nat} {v:Value} (h:w.cell? ⟨b,o,none⟩=some v):∀ g:Ext w,g.val.cell? ⟨b,o,none⟩=some v:=fun g=>by rw [g.cell b o (World.block_lt_of_cell? w ⟨b,o,none⟩ h)];exact h
def cutA (ao:Option Addr) (l m:Nat):Option Addr:=if m=l then ao else ao.map (·.add (l * 1))
theorem add_zero_addr (a:Addr):a.add 0=a:=by unfold Addr.add;split <;> simp_all
theorem cutA_zero (ao:Option Addr) (m:Nat):cutA ao 0 m=ao:=by
 unfold cutA
 split
 ·rfl
 ·cases ao <;> simp [add_zero_addr]
theorem add_plain_addr (b o i:Nat):(⟨b,o,none⟩:Addr).add i=⟨b,o + i,none⟩:=by unfold Addr.add;split <;> simp_all
theorem cutA_some (b o l m:Nat) (h:m ≠ l):cutA (some ⟨b,o,none⟩) l m=some ⟨b,o + l,none⟩:=by simp [cutA,h,add_plain_addr]
theorem Sl.cut {w:World} {ao:Option Addr} {n cap:Nat} {vs:List Value} (h:Sl w ao n cap vs) {l r m n' cap':Nat} (hlr:l ≤ r) (hr:r ≤ n) (hm:m ≤ cap) (hrm:r ≤ m) (hn:n'=r - l) (hc:cap'=m - l):
  Sl w (cutA ao l m) n' cap' ((vs.drop l).take (r - l)):=by
 have hlen:=h.len
 have hle:=h.le
 subst hn hc
 refine ⟨by simp only [List.length_take,List.length_drop];omega,by omega,fun e=>?_,?_⟩
 ·have:ao=none:=by
   unfold cutA at e
   split at e
   ·exact e
   ·simpa using e
  have:=h.nil this
  omega
 ·by_cases hz:r - l=0
  ·left;rw [hz];rfl
  ·obtain ⟨b,o,e,_,hcells⟩:=h.at (by omega)
   right
   refine ⟨b,o + l,?_,fun j x hj=>?_⟩
   ·rw [e];exact cutA_some b o l m (by omega)
   ·rw [List.getElem?_take] at hj
    split at hj
    ·rw [List.getElem?_drop] at hj
     have:=hcells _ _ hj
     rw [show o + l + j=o + (l + j) by omega]
     exact this
    ·cases hj
theorem Sl.cutB {w:World} {ao:Option Addr} {n cap:Nat} {k:List Nat} (h:Sl w ao n cap (bts k)) {l r m n' cap':Nat} {q:List Nat} (hlr:l ≤ r) (hr:r ≤ n) (hm:m ≤ cap) (hrm:r ≤ m) (hn:n'=r - l) (hc:cap'=m - l) (hq:q=(k.drop l).take (r - l)):
  Sl w (cutA ao l m) n' cap' (bts q):=by
 have:=h.cut hlr hr hm hrm hn hc
 rw [hq]
 unfold bts at *
 rw [List.map_take,List.map_drop]
 exact this
theorem Sl.frontB {w:World} {ao:Option Addr} {n cap:Nat} {k:List Nat} (h:Sl w ao n cap (bts k)) {n' cap':Nat} {q:List Nat} (hr:n' ≤ n) (hrm:n' ≤ cap') (hc:cap' ≤ cap) (hq:q=k.take n'):Sl w ao n' cap' (bts q):=by
 have:=h.cutB (l:=0) (r:=n') (m:=cap') (q:=q) (Nat.zero_le _) hr hc hrm rfl rfl (by simpa using hq)
 rwa [cutA_zero] at this
theorem Sl.own {w:World} {B e n cap n':Nat} {ao:Option Addr} {xs:List Value} (h:w.ownsRow B e 1 (.slice ao n cap) n' xs):Sl w ao n cap xs:=by
 rcases h.2 with ⟨hv,rfl⟩ | ⟨g,c,cur,hv,hb,hg,hn,hm,hs,ht⟩
 ·cases hv
  have hx:xs=[]:=List.eq_nil_of_length_eq_zero (by simpa using h.1)
  subst hx
  exact Sl.nothing w
 ·cases hv
  refine ⟨by simpa using h.1,hn,fun h=>by (cases h),.inr ⟨g,0,rfl,fun j x hj=>?_⟩⟩
  have:=h.cells (g:=g) rfl j x hj
  rwa [add_plain_addr] at this
theorem own_form {w:World} {B e s:Nat} {v:Value} {n:Nat} {xs:List Value} (h:w.ownsRow B e s v n xs):∃ ao cap,v=.slice ao n cap:=by
 rcases h.2 with ⟨hv,rfl⟩ | ⟨g,c,cur,hv,_⟩
 ·exact ⟨_,_,hv⟩
 ·exact ⟨_,_,hv⟩
theorem own_base {w:World} {B B' e s:Nat} {v:Value} {n:Nat} {xs:List Value} (h:w.ownsRow B e s v n xs) (hB:B' ≤ B):w.ownsRow B' e s v n xs:=by
 refine ⟨h.1,?_⟩
 rcases h.2 with h1 | ⟨g,c,cur,hv,hb,r⟩
 ·exact .inl h1
 ·exact .inr ⟨g,c,cur,hv,Nat.le_trans hB hb,r⟩
theorem own_block {w:World} {B e s:Nat} {v:Value} {n:Nat} {xs:List Value} (h:w.ownsRow B e s v n xs):∀ k,v.ownBlock=some k→B ≤ k:=fun k hk=>(h.lt k hk).1
theorem own_keep {w w':World} {B B1 e s:Nat} {v:Value} {n:Nat} {xs:List Value} (h:w.ownsRow B e s v n xs) (hB:w.heap.size ≤ B1) (hw:Below B1 w w'):w'.ownsRow B e s v n xs:=by
 refine ⟨h.1,?_⟩
 rcases h.2 with h1 | ⟨g,c,cur,hv,hb,hg,r⟩
 ·exact .inl h1
 ·exact .inr ⟨g,c,cur,hv,hb,(hw.block g (Nat.lt_of_lt_of_le (Array.getElem?_eq_some_iff.1 hg).1 hB)).trans hg,r⟩
theorem own_ext {w:World} {B e s:Nat} {v:Value} {n:Nat} {xs:List Value} (h:w.ownsRow B e s v n xs) (g:Ext w):g.val.ownsRow B e s v n xs:=own_keep h (Nat.le_refl _) g.below
theorem own_setRow {w:World} {B e s b:Nat} {v:Value} {n:Nat} {xs:List Value} (h:w.ownsRow B e s v n xs) (hb:b < B) (cs:Array Value):(w.setRow b cs).ownsRow B e s v n xs:=by
 refine ⟨h.1,?_⟩
 rcases h.2 with h1 | ⟨g,c,cur,hv,hg,hh,r⟩
 ·exact .inl h1
 ·exact .inr ⟨g,c,cur,hv,hg,by rw [setRow_other w b g cs (by omega)];exact hh,r⟩
theorem own_new (w:World) (B e:Nat) (cs:Array Value) (hB:B ≤ w.heap.size) (hc:cs.size ≤ maxLen):(w.alloc (.cells cs e)).ownsRow B e 1 (.slice (some ⟨w.heap.size,0,none⟩) cs.size cs.size) cs.size cs.toList:=
 ⟨by simp,.inr ⟨w.heap.size,cs.size,cs,rfl,hB,heap_alloc_new w _,Nat.le_refl _,hc,by simp,by rw [Nat.mul_one,← Array.length_toList,List.take_length]⟩⟩
theorem own_unfrozen {w:World} {B e s g n cap j:Nat} {xs:List Value} (h:w.ownsRow B e s (.slice (some ⟨g,0,none⟩) n cap) n xs):w.frozen? ⟨g,j,none⟩=false:=by
 rcases h.2 with ⟨hv,_⟩ | ⟨g',cap',cur,hv,hb,hg,hn,hm,hs,ht⟩
 ·cases hv
 ·cases hv
  simp [World.frozen?,hg]
theorem sl_block {w:World} {b:Nat} {cs:Array Value} {e n:Nat} {fr:Nat × Nat} (h:w.heap[b]?=some (.cells cs e fr)) (hn:cs.size=n):Sl w (some ⟨b,0,none⟩) n n cs.toList:=
 ⟨by simpa using hn,Nat.le_refl _,fun h=>(by cases h),.inr ⟨b,0,rfl,fun j x hj=>by rw [Nat.zero_add,cell_of_row w b j cs e fr h];simpa using hj⟩⟩
theorem sl_marked (w:World) (cs:Array Value) (e n k:Nat) (fr:Nat × Nat) (hk:w.heap.size=k) (hn:cs.size=n):Sl (w.alloc (.cells cs e fr)) (some ⟨k,0,none⟩) n n cs.toList:=by
 subst hk
 exact sl_block (heap_alloc_new w _) hn
structure Elem (P:Program) (t e:TypeId) (size:Nat):Prop where
 und:P.underlying t=some (.slice e)
 pos:0 < size
 info:∃ i z,P.info? e=some i∧i.zero=some z∧i.size=size∧i.bytes ≤ 64∧z.cells.size=size
theorem Elem.mk' {P:Program} {t e:TypeId} {size bytes:Nat} {z:Value} (hu:P.underlying t=some (.slice e)) (h:(P.info? e).map (fun i=>(i.zero,i.size,i.bytes))=some (some z,size,bytes)) (hz:z.cells.size=size) (hs:0 < size) (hb:bytes ≤ 64):Elem P t e size:=by
 obtain ⟨i,h1,h2,h3,h4⟩:=info_parts h
 exact ⟨hu,hs,i,z,h1,h2,h3,by omega,hz⟩
section
variable {P:Program} {t e:TypeId} {size:Nat}
theorem wp_app (E:Elem P t e size) {ops:Array Oper} {rest:List Oper} {o:Oper} {a:Act} {w:World} {Q:Exit→Act→World→Prop} (hgd:o.guard=none) (s x:Operand)
  (ho:o.op=.call { callee:=.builtin .append,args:=#[s,x],argTypes:=#[t,t] })
  {B:Nat} {v:Value} {n:Nat} {xs:List Value} (hs:a.eval s=v) (hown:w.ownsRow B e size v n xs)
  {ao:Option Addr} {m c:Nat} {news:List Value} (hx:a.eval x=.slice ao m c) (hl:news.length=m * size) (hnil:ao=none→m=0∧c=0)
  (hnews:news=[] ∨ ∃ b q,ao=some ⟨b,q,none⟩∧∀ (j:Nat) u,news[j]?=some u→w.cell? ⟨b,q + j,none⟩=some u) (h1:∀ u ∈ news,u.oneCell'=true)
  (h63:n + m ≤ 1099511627776) (hB:B ≤ w.heap.size)
  (h:∀ ao' cap w',w'.ownsRow B e size (.slice ao' (n + m) cap) (n + m) (xs ++ news)→Below B w w'→wpList P ops Q rest (a.put o.dst (.slice ao' (n + m) cap)) w'):wpList P ops Q (o :: rest) a w:=by
 obtain ⟨hu,hpos,i,z,hi,hz,hsz,hby,hzs⟩:=E
 cases ao with
 | none=>
  obtain ⟨rfl,rfl⟩:=hnil rfl
  have hn:news=[]:=List.eq_nil_of_length_eq_zero (by simpa using hl)
  subst hn
  obtain ⟨ao',cap,rfl⟩:=own_form hown
  refine wpList_append_own_none hgd s x t ho B e i size hu hi _ n xs hs hown hx ?_
  exact h ao' cap w (by simpa using hown) (Below.refl _ _)
 | some ad=>
  refine wpList_append_own w hgd s x t ho B e i z size i.bytes hu hi hz hsz rfl hzs hpos v n xs hs hown ad m c news hx hl ?_ h1 (by simp only [maxLen];omega) ?_ hB ?_
  ·rcases hnews with rfl | ⟨b,q,e1,hc⟩
   ·intro j u hj;simp at hj
   ·cases e1
    intro j u hj
    rw [add_plain_addr]
    exact hc j u hj
  ·calc (n + m) * i.bytes ≤ 1099511627776 * 64:=Nat.mul_le_mul h63 hby
    _ ≤ 140737488355328:=by decide
  ·intro v' w' h2 h3 _
   obtain ⟨ao',cap,rfl⟩:=own_form h2
   exact h ao' cap w' h2 ((Below.refl B w).grown h3 hB (own_block hown))
theorem wp_app_at (E:Elem P t e size) {ops:Array Oper} {rest:List Oper} {o:Oper} {a:Act} {w:World} {Q:Exit→Act→World→Prop} (hgd:o.guard=none) (s x:Operand)
  (ho:o.op=.call { callee:=.builtin .append,args:=#[s,x],argTypes:=#[t,t] })
  {B:Nat} {v:Value} {n:Nat} {xs:List Value} (hs:a.eval s=v) (hown:w.ownsRow B e size v n xs)
  {ad:Addr} {m c:Nat} {news:List Value} (hx:a.eval x=.slice (some ad) m c) (hl:news.length=m * size)
  (hnews:∀ (j:Nat) u,news[j]?=some u→w.cell? (ad.add j)=some u) (h1:∀ u ∈ news,u.oneCell'=true)
  (hm:0 < m) (h63:n + m ≤ 1099511627776) (hB:B ≤ w.heap.size)
  (h:∀ g cap w',w'.ownsRow B e size (.slice (some ⟨g,0,none⟩) (n + m) cap) (n + m) (xs ++ news)→w.grownBy w' v.ownBlock→(v.ownBlock=some g ∨ g=w.heap.size)→g < w'.heap.size→wpList P ops Q rest (a.put o.dst (.slice (some ⟨g,0,none⟩) (n + m) cap)) w'):wpList P ops Q (o :: rest) a w:=by
 obtain ⟨hu,hpos,i,z,hi,hz,hsz,hby,hzs⟩:=E
 refine wpList_append_lies w hgd s x t ho B e i z size i.bytes hu hi hz hsz rfl hzs hpos v n xs hs hown ad m c news hx hl hnews h1 hm (by simp only [maxLen];omega) ?_ hB w.heap.size rfl h
 calc (n + m) * i.bytes ≤ 1099511627776 * 64:=Nat.mul_le_mul h63 hby
  _ ≤ 140737488355328:=by decide
theorem new_cells (w:World) (cs:Array Value) (e:TypeId):∀ (j:Nat) u,cs.toList[j]?=some u→(w.alloc (.cells cs e)).cell? ⟨w.heap.size,0 + j,none⟩=some u:=fun j u hu=>by
 have:=World.news_of_block (heap_alloc_new w (.cells cs e)) j u hu
 rwa [add_plain_addr] at this
theorem wp_app1 (E:Elem P t e 1) {ops:Array Oper} {rest:List Oper} {o:Oper} {a:Act} {w:World} {x:Value} {Q:Exit→Act→World→Prop} (hgd:o.guard=none) (s y:Operand)
  (ho:o.op=.call { callee:=.builtin .append,args:=#[s,y],argTypes:=#[t,t] })
  {B:Nat} {v:Value} {n:Nat} {xs:List Value} (hs:a.eval s=v) (hown:w.ownsRow B e 1 v n xs) (hx:a.eval y=.slice (some ⟨w.heap.size,0,none⟩) 1 1) (h1:x.oneCell'=true)
  (h63:n + 1 ≤ 1099511627776) (hB:B ≤ w.heap.size)
  (h:∀ ao' cap w',w'.ownsRow B e 1 (.slice ao' (n + 1) cap) (n + 1) (xs ++ [x])→Below B w w'→wpList P ops Q rest (a.put o.dst (.slice ao' (n + 1) cap)) w'):wpList P ops Q (o :: rest) a (w.alloc (.cells #[x] e)):=by
 refine wp_app E hgd s y ho (B:=B) hs (hown.alloc _) hx (news:=[x]) rfl (fun h=>by cases h) (.inr ⟨w.heap.size,0,rfl,new_cells w #[x] e⟩) ?_ h63 (by simp;omega) ?_
 ·intro u hu
  simp only [List.mem_singleton] at hu
  rw [hu];exact h1
 ·intro ao' cap w' h2 h3
  exact h ao' cap w' h2 (((Below.refl B w).alloc hB _).trans h3)
end
def RetO (e B n:Nat) (vs:List Value) (w:World):Ending→World→Prop:=fun x w'=>∃ ao cap,x=.returned (.slice ao n cap)∧Below B w w'∧w'.ownsRow B e 1 (.slice ao n cap) n vs
end Go.Proofs.YtjkfondgacjpnaaGreatDoor
