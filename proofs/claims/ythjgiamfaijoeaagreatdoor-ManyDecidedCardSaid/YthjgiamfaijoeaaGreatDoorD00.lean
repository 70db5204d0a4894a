/- What is proved: parts of the walk and of the plain law. No condition but those each law names. -/
import Derived.WalkKit
import Derived.StillTail
import Derived.Deep.Quiet
import Derived.BigQuiet
import Derived.Below
import Derived.Deep.AppendLies
import Derived.Laws.AppendOwnNone
import Derived.Lib.Hide
import Derived.Deep.MidRow
import Derived.Laws.CopyRow
import Derived.Laws.CopyOwn
import Derived.Test.YthjgiamfaijoeaaGreatDoorChecked
import Derived.WalkSpells
import Derived.WalkLawsBesides
import Derived.Handy
import Derived.Maps.AppendAt
set_option linter.unusedSimpArgs false
set_option linter.unusedVariables false
set_option maxRecDepth 100000
namespace Go.Proofs.YthjgiamfaijoeaaGreatDoor
open Go.RowKit
section
theorem zadu {α : Type _} {xs : Array α} {i : Nat} {b : α} (h : xs[i]? = some b) : ∃ q : i < xs.size, xs[i] = b := Array.getElem?_eq_some_iff.1 h
theorem zadv {p : Prop} (h : p) : RowKit.Hid p := Lib.hid h
theorem zadw (n : Nat) : n ≤ n := Nat.le_refl n
theorem zadx {a b : Prop} (h : a) (k : b) : a ∧ b := And.intro h k
theorem zady {α : Type _} {l : List α} {i : Nat} (h : i < l.length) : l[i]? = some l[i] := List.getElem?_eq_getElem h
structure Ext (w:World) where
 val:World
 below:Below w.heap.size w val
instance Ext.nonempty (w:World):Nonempty (Ext w):=⟨⟨w,Below.refl _ _⟩⟩
def Ext.trans {w:World} (g:Ext w) (h:Ext g.val):Ext w:=⟨h.val,g.below.trans (h.below.mono g.below.size)⟩
theorem Ext.up {w W:World} (g:Ext W) (h:Below w.heap.size w W):Below w.heap.size w g.val:=h.trans (g.below.mono h.size)
def Ext.of {w w':World} (h:Below w.heap.size w w'):Ext w:=⟨w',h⟩
theorem Ext.cell {w:World} (g:Ext w) (b o:Nat) (h:b < w.heap.size):g.val.cell? ⟨b,o,none⟩=w.cell? ⟨b,o,none⟩:=g.below.cell (p:=⟨b,o,none⟩) h
theorem Ext.frozen {w:World} (g:Ext w) (b o:Nat) (h:b < w.heap.size):g.val.frozen? ⟨b,o,none⟩=w.frozen? ⟨b,o,none⟩:=g.below.frozen (p:=⟨b,o,none⟩) h
theorem Ext.size {w:World} (g:Ext w):w.heap.size ≤ g.val.heap.size:=g.below.size
def Ret (v:Value) (w:World):Ending→World→Prop:=fun e w'=>e=.returned v∧∃ g:Ext w,w'=g.val
theorem Ret.mk {v:Value} {w w':World} (h:Below w.heap.size w w'):Ret v w (.returned v) w':=⟨rfl,⟨w',h⟩,rfl⟩
theorem Ret.mk_of {v v':Value} {w w':World} (h:Below w.heap.size w w') (e:v'=v):Ret v w (.returned v') w':=⟨by rw [e],⟨w',h⟩,rfl⟩
theorem Calls.ext_of {P:Program} {f:FuncId} {args:Array Value} {w:World} {g:Ext w} {v:Value}
  (h:Calls P f args g.val (Ret v g.val)):Calls P f args g.val fun e w''=>e=.returned v∧∃ g':Ext w,w''=g'.val:=
 h.mono fun _ _ ⟨he,g',hg⟩=>⟨he,g.trans g',hg⟩
theorem zqs {w:World} (p:World→Prop):(∀ w',(∃ g:Ext w,w'=g.val)→p w')=∀ g:Ext w,p g.val:=
 propext ⟨fun h g=>h _ ⟨g,rfl⟩,fun h _ ⟨g,e⟩=>by rw [e];exact h g⟩
attribute [go_sem ↓] zqs
section
variable {P:Program} {ops:Array Oper} {md:Region.Mode} {C:World→Prop}
theorem zaz {id:Nat} {Q:Exit→Act→World→Prop} {a:Act} {w:World} {l:List Oper} (hm:P.follows .mixedOrders=true) (hB:Region.lexB .any l.toArray=true)
  (h:wpQuiet P l.toArray (fun w'=>∃ g:Ext w,w'=g.val) (fun a'=>∀ w',(∃ g:Ext w,w'=g.val)→Q .normal a' w') l a):(Code.region id l.toArray true).wp P Q a w:=
 wp_region_quiet (C:=fun w'=>∃ g:Ext w,w'=g.val) hm hB ⟨⟨_,(Below.refl _ w).drew⟩,rfl⟩ (by simpa using h)
def zkw (P:Program) (md:Region.Mode) (ops:Array Oper) (C:World→Prop) (n:Nat) (L:Array Bool→Act→Prop):Nat→Array Bool→Act→Prop
 | 0,listed,a=>L listed a
 | f + 1,listed,a=>
  Region.ready md ops listed ≠ []∧∀ i ∈ Region.ready md ops listed,i < n∧qOp P ops C i (zkw P md ops C n L f (listed.setIfInBounds i true)) a
theorem ze2 {n g:Nat} {L:Array Bool→Act→Prop} {Q':Exit→Act→World→Prop} (hL:∀ listed a w,C w→L listed a→wpAny P md ops Q' g listed a w):
  ∀ (f:Nat) (listed:Array Bool) (a:Act) (w:World),C w→zkw P md ops C n L f listed a→wpAny P md ops Q' (f + g) listed a w
 | 0,listed,a,w,hw,h=>by rw [Nat.zero_add];exact hL _ _ _ hw h
 | f + 1,listed,a,w,hw,h=>by
  rw [show f + 1 + g=(f + g) + 1 by omega]
  exact ⟨fun h0=>absurd h0 h.1,fun i hi=>wpOp_of_qOp hw (fun a' w' hw' h'=>ze2 hL f _ a' w' hw' h') (h.2 i hi).2⟩
theorem zkx {n i:Nat} {oi:Oper} {v:Value} {L:Array Bool→Act→Prop} (hi:ops[i]?=some oi) (hsel:∀ (j:Nat) (o:Oper) cs b,ops[j]?=some o→o.op ≠ .select cs b)
  (hs:Region.sinkB md ops n=true) (hc:Region.chainB md ops n=true) (hn:n < ops.size) (hin:i < n)
  (hdone:∀ listed a,L listed a→∀ j ∈ Region.ready md ops listed,n ≤ j):
  ∀ (f:Nat) (listed:Array Bool) (a:Act),HeadInv md ops n listed→
   (∀ j oj,ops[j]?=some oj→j ≠ i→listed.getD j true=false→(∀ e ∈ oj.after,Region.binds md e=true→e.on ≠ i)→oi.apart ops oj=true)→
   i ∈ Region.ready md ops listed→YieldsIn P ops C oi v a→
   zkw P md ops C n L f (listed.setIfInBounds i true) (a.put oi.dst v)→zkw P md ops C n L (f + 1) listed a:=by
 intro f
 induction f with
 | zero=>
  intro listed a inv _ hr hy H
  have hun:=(mem_ready.1 hr).1
  refine ⟨fun h=>(by rw [h] at hr;cases hr),fun j hj=>?_⟩
  have hjn:j < n:=by
   rcases Nat.lt_or_ge j n with h | h
   ·exact h
   ·exact absurd hj (tail_waits hs hc hn inv _ i rfl hin hun j h)
  refine ⟨hjn,?_⟩
  by_cases hji:j=i
  ·subst hji;exact hy.qOp hi H
  ·have:=hdone _ _ H j (ready_mono hj hji)
   omega
 | succ f ih=>
  intro listed a inv hfree hr hy H
  have hun:=(mem_ready.1 hr).1
  refine ⟨fun h=>(by rw [h] at hr;cases hr),fun j hj=>?_⟩
  have hjn:j < n:=by
   rcases Nat.lt_or_ge j n with h | h
   ·exact h
   ·exact absurd hj (tail_waits hs hc hn inv _ i rfl hin hun j h)
  refine ⟨hjn,?_⟩
  by_cases hji:j=i
  ·subst hji;exact hy.qOp hi H
  ·have h1:=(H.2 j (ready_mono hj hji)).2
   obtain ⟨hjun,oj,hoj,hall⟩:=mem_ready.1 hj
   have hnot:∀ e ∈ oj.after,Region.binds md e=true→e.on ≠ i:=fun e he hb heq=>by
    have h1:=hall e he hb
    rw [heq,getD_both hun] at h1
    cases h1
   have h2:=qOp_put hoj (hfree j oj hoj hji hjun hnot) (fun cs b=>hsel i oi cs b hi) (fun cs b=>hsel j oj cs b hoj) hy h1
   have hfree':∀ k ok,ops[k]?=some ok→k ≠ i→(listed.setIfInBounds j true).getD k true=false→
     (∀ e ∈ ok.after,Region.binds md e=true→e.on ≠ i)→oi.apart ops ok=true:=fun k ok hk hki hun hno=>by
    refine hfree k ok hk hki ?_ hno
    by_cases hjk:j=k
    ·subst hjk;exact hjun
    ·rw [getD_set_ne true hjk] at hun;exact hun
   refine qOp_mono (fun a' h3=>ih (listed.setIfInBounds j true) a' (inv.set hj hjn) hfree' (ready_mono hr (Ne.symm hji)) h3.1 ?_) h2
   rw [Array.setIfInBounds_comm _ _ hji]
   exact h3.2
theorem zi9 {n g:Nat} {Lq:Act→Prop} (hsel:Region.noSelect ops=true) (hs:Region.sinkB md ops n=true) (hc:Region.chainB md ops n=true) (hn:n < ops.size):
  ∀ (l:List Oper) (k:Nat) (listed:Array Bool) (a:Act),(∀ j,j < l.length→l[j]?=ops[k + j]?)→k + l.length=n→HeadInv md ops n listed→
  Region.lexHead md ops g l.length k listed=true→wpQuiet P ops C Lq l a→
  zkw P md ops C n (fun listed' a'=>Region.seqB md ops g n listed'=true∧Lq a') l.length listed a
 | [],k,listed,a,_,hk,_,hB,h=>by
  have:k=n:=by simpa using hk
  subst this
  exact ⟨by simpa [Region.lexHead] using hB,h⟩
 | o :: l,k,listed,a,hl,hk,inv,hB,h=>by
  have h0:ops[k]?=some o:=by simpa using (hl 0 (by simp)).symm
  simp only [List.length_cons,Region.lexHead,Bool.and_eq_true] at hB
  obtain ⟨⟨hr,hf⟩,hB'⟩:=hB
  have hkn:k < n:=by simp only [List.length_cons] at hk;omega
  have hr':k ∈ Region.ready md ops listed:=by simpa using hr
  have hst:qOp P ops C k (wpQuiet P ops C Lq l) a:=by unfold qOp;simp only [h0];exact h
  obtain ⟨v,hy,hK⟩:=yieldsIn_of_qOp h0 hst
  exact zkx h0 (Region.noSelect_spec hsel) hs hc hn hkn (fun listed' a' hL=>seqB_ready hL.1) l.length listed a inv (Region.free_spec h0 hf) hr' hy
   (zi9 hsel hs hc hn l (k + 1) _ _ (fun j hj=>by have:=hl (j + 1) (by simp;omega);simpa [Nat.add_assoc,Nat.add_comm 1 j] using this) (by simp only [List.length_cons] at hk;omega) (inv.set hr' hkn) hB' hK)
theorem zap {id:Nat} {Q:Exit→Act→World→Prop} {a:Act} {w:World} {l:List Oper} (n:Nat) (hm:P.follows .mixedOrders=true) (hB:Region.lexTailB .any l.toArray n=true)
  (h:wpQuiet P l.toArray (fun w'=>∃ g:Ext w,w'=g.val) (fun a'=>∀ w',(∃ g:Ext w,w'=g.val)→wpList P l.toArray Q (l.drop n) a' w') (l.take n) a):(Code.region id l.toArray true).wp P Q a w:=by
 simp only [Region.lexTailB,Bool.and_eq_true,decide_eq_true_eq] at hB
 obtain ⟨⟨⟨⟨hsel,hn⟩,hs⟩,hc⟩,hlex⟩:=hB
 have hn':n < l.length:=by simpa using hn
 have htl:(l.take n).length=n:=by simp;omega
 have hdl:(l.drop n).length=l.toArray.size - n:=by simp
 have inv0:HeadInv .any l.toArray n (Array.replicate l.toArray.size false):=
  ⟨by simp,fun j oj _ hl=>(by rw [getD_replicate_false] at hl;cases hl),fun t _ ht=>getD_in (by simpa using ht) (getD_replicate_false _ _)⟩
 have H:=zi9 (md:=.any) (g:=l.toArray.size - n) hsel hs hc hn (l.take n) 0 _ a (fun j hj=>by
  have hj':j < n:=by rw [htl] at hj;exact hj
  simp [hj']) (by simpa using htl) inv0 (by rw [htl];exact hlex) h
 refine wp_region_any hm ?_
 have:=ze2 (Q':=Q) (g:=l.toArray.size - n) (fun listed a' w' hw' hL=>by
  have:=wpAny_of_seq (md:=.any) (Q':=Q) (l.drop n) n listed a' w' (fun j=>by simp [List.getElem?_drop]) (by rw [hdl];exact hL.1) (hL.2 w' hw')
  rwa [hdl] at this) _ _ _ { w with drawn:=w.drawn + 1 } ⟨⟨_,(Below.refl _ w).drew⟩,rfl⟩ H
 rw [htl,show n + (l.toArray.size - n)=l.toArray.size by omega] at this
 exact this
end
end
section
def bts (l:List Nat):List Value:=l.map fun (n:Nat)=>Value.int .u8 (n:Int)
theorem zam (l:List Nat):(bts l).length=l.length:=by simp [bts]
theorem zbq (l k:List Nat):bts (l ++ k)=bts l ++ bts k:=by simp [bts]
theorem zd6 (l:List Nat) (j:Nat):(bts l)[j]?=(l[j]?).map fun (n:Nat)=>Value.int .u8 (n:Int):=by unfold bts;rw [List.getElem?_map]
theorem zct (l:List Nat):∀ u ∈ bts l,u.oneCell'=true:=by intro u hu;simp only [bts,List.mem_map] at hu;obtain ⟨n,_,rfl⟩:=hu;rfl
structure Sl (w:World) (ao:Option Addr) (n cap:Nat) (vs:List Value):Prop where
 len:vs.length=n
 le:n ≤ cap
 nil:ao=none→cap=0
 cells:vs=[] ∨ ∃ b o,ao=some ⟨b,o,none⟩∧∀ (j:Nat) x,vs[j]?=some x→w.cell? ⟨b,o + j,none⟩=some x
theorem Sl.at {w:World} {ao:Option Addr} {n cap:Nat} {vs:List Value} (h:Sl w ao n cap vs) (h0:0 < n):∃ b o,ao=some ⟨b,o,none⟩∧b < w.heap.size∧∀ (j:Nat) x,vs[j]?=some x→w.cell? ⟨b,o + j,none⟩=some x:=by
 rcases h.cells with rfl | ⟨b,o,e,hc⟩
 ·have:=h.len;simp at this;omega
 ·have h1:0 < vs.length:=by rw [h.len];exact h0
  exact ⟨b,o,e,World.block_lt_of_cell? w ⟨b,o + 0,none⟩ (hc 0 _ (zady h1)),hc⟩
theorem Sl.nothing (w:World):Sl w none 0 0 []:=⟨rfl,zadw _,fun _=>rfl,.inl rfl⟩
theorem Sl.keep {w w':World} {B:Nat} {ao:Option Addr} {n cap:Nat} {vs:List Value} (h:Sl w ao n cap vs) (hB:w.heap.size ≤ B) (hw:Below B w w'):Sl w' ao n cap vs:=by
 refine ⟨h.len,h.le,h.nil,?_⟩
 rcases h.cells with h1 | ⟨b,o,e,hc⟩
 ·exact .inl h1
 ·refine .inr ⟨b,o,e,fun j x hj=>?_⟩
  have:=hc j x hj
  rw [hw.cell (p:=⟨b,o + j,none⟩) (Nat.lt_of_lt_of_le (World.block_lt_of_cell? w ⟨b,o + j,none⟩ this) hB)]
  exact this
theorem Sl.ext {w:World} {ao:Option Addr} {n cap:Nat} {vs:List Value} (h:Sl w ao n cap vs) (g:Ext w):Sl g.val ao n cap vs:=h.keep (zadw _) g.below
theorem zc6 {w:World} {b o:Nat} {v:Value} (h:w.cell? ⟨b,o,none⟩=some v):∀ g:Ext w,g.val.cell? ⟨b,o,none⟩=some v:=fun g=>by rw [g.cell b o (World.block_lt_of_cell? w ⟨b,o,none⟩ h)];exact h
def cutA (ao:Option Addr) (l m:Nat):Option Addr:=if m=l then ao else ao.map (·.add (l * 1))
theorem zcx (a:Addr):a.add 0=a:=by unfold Addr.add;split <;> simp_all
theorem zdg (ao:Option Addr) (m:Nat):cutA ao 0 m=ao:=by
 unfold cutA
 split
 ·rfl
 ·cases ao <;> simp [zcx]
theorem zas (b o i:Nat):(⟨b,o,none⟩:Addr).add i=⟨b,o + i,none⟩:=by unfold Addr.add;split <;> simp_all
theorem zky (b o l m:Nat) (h:m ≠ l):cutA (some ⟨b,o,none⟩) l m=some ⟨b,o + l,none⟩:=by simp [cutA,h,zas]
theorem Sl.cut {w:World} {ao:Option Addr} {n cap:Nat} {vs:List Value} (h:Sl w ao n cap vs) {l r m n' cap':Nat} (hlr:l ≤ r) (hr:r ≤ n) (hm:m ≤ cap) (hrm:r ≤ m) (hn:n'=r - l) (hc:cap'=m - l):
  Sl w (cutA ao l m) n' cap' ((vs.drop l).take (r - l)):=by
 have hlen:=h.len
 have hle:=h.le
 subst hn hc
 refine ⟨by simp only [List.length_take,List.length_drop];omega,by omega,fun e=>?_,?_⟩
 ·have:ao=none:=by
   unfold cutA at e
   split at e
   ·exact e
   ·simpa using e
  have:=h.nil this
  omega
 ·by_cases hz:r - l=0
  ·left;rw [hz];rfl
  ·obtain ⟨b,o,e,_,hcells⟩:=h.at (by omega)
   right
   refine ⟨b,o + l,?_,fun j x hj=>?_⟩
   ·rw [e];exact zky b o l m (by omega)
   ·rw [List.getElem?_take] at hj
    split at hj
    ·rw [List.getElem?_drop] at hj
     have:=hcells _ _ hj
     rw [show o + l + j=o + (l + j) by omega]
     exact this
    ·cases hj
theorem Sl.cutB {w:World} {ao:Option Addr} {n cap:Nat} {k:List Nat} (h:Sl w ao n cap (bts k)) {l r m n' cap':Nat} {q:List Nat} (hlr:l ≤ r) (hr:r ≤ n) (hm:m ≤ cap) (hrm:r ≤ m) (hn:n'=r - l) (hc:cap'=m - l) (hq:q=(k.drop l).take (r - l)):
  Sl w (cutA ao l m) n' cap' (bts q):=by
 have:=h.cut hlr hr hm hrm hn hc
 rw [hq]
 unfold bts at *
 rw [List.map_take,List.map_drop]
 exact this
theorem Sl.frontB {w:World} {ao:Option Addr} {n cap:Nat} {k:List Nat} (h:Sl w ao n cap (bts k)) {n' cap':Nat} {q:List Nat} (hr:n' ≤ n) (hrm:n' ≤ cap') (hc:cap' ≤ cap) (hq:q=k.take n'):Sl w ao n' cap' (bts q):=by
 have:=h.cutB (l:=0) (r:=n') (m:=cap') (q:=q) (Nat.zero_le _) hr hc hrm rfl rfl (by simpa using hq)
 rwa [zdg] at this
theorem Sl.own {w:World} {B e n cap n':Nat} {ao:Option Addr} {xs:List Value} (h:w.ownsRow B e 1 (.slice ao n cap) n' xs):Sl w ao n cap xs:=by
 rcases h.2 with ⟨hv,rfl⟩ | ⟨g,c,cur,hv,hb,hg,hn,hm,hs,ht⟩
 ·cases hv
  have hx:xs=[]:=List.eq_nil_of_length_eq_zero (by simpa using h.1)
  subst hx
  exact Sl.nothing w
 ·cases hv
  refine ⟨by simpa using h.1,hn,fun h=>by (cases h),.inr ⟨g,0,rfl,fun j x hj=>?_⟩⟩
  have:=h.cells (g:=g) rfl j x hj
  rwa [zas] at this
theorem za8 {w:World} {B e s:Nat} {v:Value} {n:Nat} {xs:List Value} (h:w.ownsRow B e s v n xs):∃ ao cap,v=.slice ao n cap:=by
 rcases h.2 with ⟨hv,rfl⟩ | ⟨g,c,cur,hv,_⟩
 ·exact ⟨_,_,hv⟩
 ·exact ⟨_,_,hv⟩
theorem za0 {w:World} {B B' e s:Nat} {v:Value} {n:Nat} {xs:List Value} (h:w.ownsRow B e s v n xs) (hB:B' ≤ B):w.ownsRow B' e s v n xs:=by
 refine ⟨h.1,?_⟩
 rcases h.2 with h1 | ⟨g,c,cur,hv,hb,r⟩
 ·exact .inl h1
 ·exact .inr ⟨g,c,cur,hv,Nat.le_trans hB hb,r⟩
theorem zbb {w:World} {B e s:Nat} {v:Value} {n:Nat} {xs:List Value} (h:w.ownsRow B e s v n xs):∀ k,v.ownBlock=some k→B ≤ k:=fun k hk=>(h.lt k hk).1
theorem zbe {w w':World} {B B1 e s:Nat} {v:Value} {n:Nat} {xs:List Value} (h:w.ownsRow B e s v n xs) (hB:w.heap.size ≤ B1) (hw:Below B1 w w'):w'.ownsRow B e s v n xs:=by
 refine ⟨h.1,?_⟩
 rcases h.2 with h1 | ⟨g,c,cur,hv,hb,hg,r⟩
 ·exact .inl h1
 ·exact .inr ⟨g,c,cur,hv,hb,(hw.block g (Nat.lt_of_lt_of_le (zadu hg).1 hB)).trans hg,r⟩
theorem ze5 {w:World} {B e s:Nat} {v:Value} {n:Nat} {xs:List Value} (h:w.ownsRow B e s v n xs) (g:Ext w):g.val.ownsRow B e s v n xs:=zbe h (zadw _) g.below
theorem zja {w:World} {B e s b:Nat} {v:Value} {n:Nat} {xs:List Value} (h:w.ownsRow B e s v n xs) (hb:b < B) (cs:Array Value):(w.setRow b cs).ownsRow B e s v n xs:=by
 refine ⟨h.1,?_⟩
 rcases h.2 with h1 | ⟨g,c,cur,hv,hg,hh,r⟩
 ·exact .inl h1
 ·exact .inr ⟨g,c,cur,hv,hg,by rw [setRow_other w b g cs (by omega)];exact hh,r⟩
theorem zju (w:World) (B e:Nat) (cs:Array Value) (hB:B ≤ w.heap.size) (hc:cs.size ≤ maxLen):(w.alloc (.cells cs e)).ownsRow B e 1 (.slice (some ⟨w.heap.size,0,none⟩) cs.size cs.size) cs.size cs.toList:=
 ⟨by simp,.inr ⟨w.heap.size,cs.size,cs,rfl,hB,heap_alloc_new w _,zadw _,hc,by simp,by rw [Nat.mul_one,← Array.length_toList,List.take_length]⟩⟩
theorem zkz {w:World} {B e s g n cap j:Nat} {xs:List Value} (h:w.ownsRow B e s (.slice (some ⟨g,0,none⟩) n cap) n xs):w.frozen? ⟨g,j,none⟩=false:=by
 rcases h.2 with ⟨hv,_⟩ | ⟨g',cap',cur,hv,hb,hg,hn,hm,hs,ht⟩
 ·cases hv
 ·cases hv
  simp [World.frozen?,hg]
theorem zox {w:World} {b:Nat} {cs:Array Value} {e n:Nat} {fr:Nat × Nat} (h:w.heap[b]?=some (.cells cs e fr)) (hn:cs.size=n):Sl w (some ⟨b,0,none⟩) n n cs.toList:=
 ⟨by simpa using hn,zadw _,fun h=>(by cases h),.inr ⟨b,0,rfl,fun j x hj=>by rw [Nat.zero_add,cell_of_row w b j cs e fr h];simpa using hj⟩⟩
theorem zcp (w:World) (cs:Array Value) (e n k:Nat) (fr:Nat × Nat) (hk:w.heap.size=k) (hn:cs.size=n):Sl (w.alloc (.cells cs e fr)) (some ⟨k,0,none⟩) n n cs.toList:=by
 subst hk
 exact zox (heap_alloc_new w _) hn
structure Elem (P:Program) (t e:TypeId) (size:Nat):Prop where
 und:P.underlying t=some (.slice e)
 pos:0 < size
 info:∃ i z,P.info? e=some i∧i.zero=some z∧i.size=size∧i.bytes ≤ 64∧z.cells.size=size
theorem Elem.mk' {P:Program} {t e:TypeId} {size bytes:Nat} {z:Value} (hu:P.underlying t=some (.slice e)) (h:(P.info? e).map (fun i=>(i.zero,i.size,i.bytes))=some (some z,size,bytes)) (hz:z.cells.size=size) (hs:0 < size) (hb:bytes ≤ 64):Elem P t e size:=by
 obtain ⟨i,h1,h2,h3,h4⟩:=info_parts h
 exact ⟨hu,hs,i,z,h1,h2,h3,by omega,hz⟩
section
variable {P:Program} {t e:TypeId} {size:Nat}
theorem zjb (E:Elem P t e size) {ops:Array Oper} {rest:List Oper} {o:Oper} {a:Act} {w:World} {Q:Exit→Act→World→Prop} (hgd:o.guard=none) (s x:Operand)
  (ho:o.op=.call { callee:=.builtin .append,args:=#[s,x],argTypes:=#[t,t] })
  {B:Nat} {v:Value} {n:Nat} {xs:List Value} (hs:a.eval s=v) (hown:w.ownsRow B e size v n xs)
  {ao:Option Addr} {m c:Nat} {news:List Value} (hx:a.eval x=.slice ao m c) (hl:news.length=m * size) (hnil:ao=none→m=0∧c=0)
  (hnews:news=[] ∨ ∃ b q,ao=some ⟨b,q,none⟩∧∀ (j:Nat) u,news[j]?=some u→w.cell? ⟨b,q + j,none⟩=some u) (h1:∀ u ∈ news,u.oneCell'=true)
  (h63:n + m ≤ 1099511627776) (hB:B ≤ w.heap.size)
  (h:∀ ao' cap w',w'.ownsRow B e size (.slice ao' (n + m) cap) (n + m) (xs ++ news)→Below B w w'→wpList P ops Q rest (a.put o.dst (.slice ao' (n + m) cap)) w'):wpList P ops Q (o :: rest) a w:=by
 obtain ⟨hu,hpos,i,z,hi,hz,hsz,hby,hzs⟩:=E
 cases ao with
 | none=>
  obtain ⟨rfl,rfl⟩:=hnil rfl
  have hn:news=[]:=List.eq_nil_of_length_eq_zero (by simpa using hl)
  subst hn
  obtain ⟨ao',cap,rfl⟩:=za8 hown
  refine wpList_append_own_none hgd s x t ho B e i size hu hi _ n xs hs hown hx ?_
  exact h ao' cap w (by simpa using hown) (Below.refl _ _)
 | some ad=>
  refine wpList_append_own w hgd s x t ho B e i z size i.bytes hu hi hz hsz rfl hzs hpos v n xs hs hown ad m c news hx hl ?_ h1 (by simp only [maxLen];omega) ?_ hB ?_
  ·rcases hnews with rfl | ⟨b,q,e1,hc⟩
   ·intro j u hj;simp at hj
   ·cases e1
    intro j u hj
    rw [zas]
    exact hc j u hj
  ·calc (n + m) * i.bytes ≤ 1099511627776 * 64:=Nat.mul_le_mul h63 hby
    _ ≤ 140737488355328:=by decide
  ·intro v' w' h2 h3 _
   obtain ⟨ao',cap,rfl⟩:=za8 h2
   exact h ao' cap w' h2 ((Below.refl B w).grown h3 hB (zbb hown))
theorem zcq (E:Elem P t e size) {ops:Array Oper} {rest:List Oper} {o:Oper} {a:Act} {w:World} {Q:Exit→Act→World→Prop} (hgd:o.guard=none) (s x:Operand)
  (ho:o.op=.call { callee:=.builtin .append,args:=#[s,x],argTypes:=#[t,t] })
  {B:Nat} {v:Value} {n:Nat} {xs:List Value} (hs:a.eval s=v) (hown:w.ownsRow B e size v n xs)
  {ad:Addr} {m c:Nat} {news:List Value} (hx:a.eval x=.slice (some ad) m c) (hl:news.length=m * size)
  (hnews:∀ (j:Nat) u,news[j]?=some u→w.cell? (ad.add j)=some u) (h1:∀ u ∈ news,u.oneCell'=true)
  (hm:0 < m) (h63:n + m ≤ 1099511627776) (hB:B ≤ w.heap.size)
  (h:∀ g cap w',w'.ownsRow B e size (.slice (some ⟨g,0,none⟩) (n + m) cap) (n + m) (xs ++ news)→w.grownBy w' v.ownBlock→(v.ownBlock=some g ∨ g=w.heap.size)→g < w'.heap.size→wpList P ops Q rest (a.put o.dst (.slice (some ⟨g,0,none⟩) (n + m) cap)) w'):wpList P ops Q (o :: rest) a w:=by
 obtain ⟨hu,hpos,i,z,hi,hz,hsz,hby,hzs⟩:=E
 refine wpList_append_lies w hgd s x t ho B e i z size i.bytes hu hi hz hsz rfl hzs hpos v n xs hs hown ad m c news hx hl hnews h1 hm (by simp only [maxLen];omega) ?_ hB w.heap.size rfl h
 calc (n + m) * i.bytes ≤ 1099511627776 * 64:=Nat.mul_le_mul h63 hby
  _ ≤ 140737488355328:=by decide
theorem zdh (w:World) (cs:Array Value) (e:TypeId):∀ (j:Nat) u,cs.toList[j]?=some u→(w.alloc (.cells cs e)).cell? ⟨w.heap.size,0 + j,none⟩=some u:=fun j u hu=>by
 have:=World.news_of_block (heap_alloc_new w (.cells cs e)) j u hu
 rwa [zas] at this
theorem zm2 (E:Elem P t e 1) {ops:Array Oper} {rest:List Oper} {o:Oper} {a:Act} {w:World} {x:Value} {Q:Exit→Act→World→Prop} (hgd:o.guard=none) (s y:Operand)
  (ho:o.op=.call { callee:=.builtin .append,args:=#[s,y],argTypes:=#[t,t] })
  {B:Nat} {v:Value} {n:Nat} {xs:List Value} (hs:a.eval s=v) (hown:w.ownsRow B e 1 v n xs) (hx:a.eval y=.slice (some ⟨w.heap.size,0,none⟩) 1 1) (h1:x.oneCell'=true)
  (h63:n + 1 ≤ 1099511627776) (hB:B ≤ w.heap.size)
  (h:∀ ao' cap w',w'.ownsRow B e 1 (.slice ao' (n + 1) cap) (n + 1) (xs ++ [x])→Below B w w'→wpList P ops Q rest (a.put o.dst (.slice ao' (n + 1) cap)) w'):wpList P ops Q (o :: rest) a (w.alloc (.cells #[x] e)):=by
 refine zjb E hgd s y ho (B:=B) hs (hown.alloc _) hx (news:=[x]) rfl (fun h=>by cases h) (.inr ⟨w.heap.size,0,rfl,zdh w #[x] e⟩) ?_ h63 (by simp;omega) ?_
 ·intro u hu
  simp only [List.mem_singleton] at hu
  rw [hu];exact h1
 ·intro ao' cap w' h2 h3
  exact h ao' cap w' h2 (((Below.refl B w).alloc hB _).trans h3)
end
def RetO (e B n:Nat) (vs:List Value) (w:World):Ending→World→Prop:=fun x w'=>∃ ao cap,x=.returned (.slice ao n cap)∧Below B w w'∧w'.ownsRow B e 1 (.slice ao n cap) n vs
end
section
def rowOf (w:World) (b:Nat):Array Value:=match w.heap[b]? with | some (.cells cs _ _)=>cs | _=>#[]
def ones (cs:Array Value):Bool:=cs.all (·.oneCell')
def sub (cs:Array Value) (o n:Nat):Array Value:=cs.extract o (o + n)
def soft (w:World) (b:Nat):Bool:=match w.heap[b]? with | some (.cells _ _ (lo,hi))=>lo == 0 && hi == 0 | _=>false
theorem zfe {w:World} {b:Nat} (h:soft w b=true):∃ t,w.heap[b]?=some (.cells (rowOf w b) t (0,0)):=by
 unfold soft at h
 unfold rowOf
 split at h
 ·rename_i cs t lo hi he
  simp only [Bool.and_eq_true,beq_iff_eq] at h
  obtain ⟨rfl,rfl⟩:=h
  exact ⟨t,by rw [he]⟩
 ·cases h
theorem zaa {w:World} {b:Nat} {cs:Array Value} {t:TypeId} {fr:Nat × Nat} (h:w.heap[b]?=some (.cells cs t fr)):rowOf w b=cs:=by
 unfold rowOf;rw [h]
theorem zan {w:World} {b:Nat} {cs:Array Value} {t:TypeId} (h:w.heap[b]?=some (.cells cs t (0,0))):soft w b=true:=by
 unfold soft;rw [h];rfl
section
variable (w:World) (b b' i:Nat) (v:Value) (cs:Array Value) (t:TypeId)
theorem zad:w.cell? ⟨b,i,none⟩=(rowOf w b)[i]?:=by
 unfold World.cell? rowOf
 simp only
 split <;> simp_all
theorem zaf:rowOf (w.alloc (.cells cs t)) b=if b=w.heap.size then cs else rowOf w b:=by
 split
 ·rename_i h;subst h;exact zaa (heap_alloc_new w _)
 ·rename_i h
  unfold rowOf
  have:(w.alloc (.cells cs t)).heap[b]?=w.heap[b]?:=by
   show (w.heap.push _)[b]?=_
   rw [Array.getElem?_push,if_neg h]
  rw [this]
theorem zai:soft (w.alloc (.cells cs t)) b=if b=w.heap.size then true else soft w b:=by
 split
 ·rename_i h;subst h;exact zan (heap_alloc_new w _)
 ·rename_i h
  unfold soft
  have:(w.alloc (.cells cs t)).heap[b]?=w.heap[b]?:=by
   show (w.heap.push _)[b]?=_
   rw [Array.getElem?_push,if_neg h]
  rw [this]
theorem zag:(w.setCell ⟨b,i,none⟩ v).heap[b']?=if b=b' then (w.heap[b']?).map (fun | .cells c e fr=>.cells (c.setIfInBounds i v) e fr | o=>o) else w.heap[b']?:=by
 simp only [World.setCell,Array.getElem?_modify]
 split <;> rfl
theorem zac:rowOf (w.setCell ⟨b,i,none⟩ v) b'=if b'=b then (rowOf w b).setIfInBounds i v else rowOf w b':=by
 unfold rowOf
 rw [zag]
 by_cases h:b=b'
 ·subst h
  simp only [if_true]
  cases hh:w.heap[b]? with
  | none=>simp
  | some o=>cases o <;> simp
 ·rw [if_neg h,if_neg (fun e=>h e.symm)]
theorem zak:soft (w.setCell ⟨b,i,none⟩ v) b'=soft w b':=by
 unfold soft
 rw [zag]
 by_cases h:b=b'
 ·rw [if_pos h]
  cases hh:w.heap[b']? with
  | none=>simp
  | some o=>cases o <;> simp
 ·rw [if_neg h]
theorem zab (h:soft w b=true):rowOf (w.setRow b cs) b'=if b'=b then cs else rowOf w b':=by
 obtain ⟨t,ht⟩:=zfe h
 split
 ·rename_i e;subst e;exact zaa (setRow_heap w _ _ cs t _ ht)
 ·rename_i e;unfold rowOf;rw [setRow_other w b b' cs e]
theorem zah:soft (w.setRow b cs) b'=soft w b':=by
 unfold soft World.setRow
 simp only [Array.getElem?_modify]
 by_cases h:b=b'
 ·rw [if_pos h]
  cases hh:w.heap[b']? with
  | none=>simp
  | some o=>cases o <;> simp
 ·rw [if_neg h]
theorem zhi (h:soft w b=true):(w.setRow b cs).cell? ⟨b',i,none⟩=if b'=b then cs[i]? else w.cell? ⟨b',i,none⟩:=by
 rw [zad,zab w b b' cs h,zad]
 split <;> rfl
theorem zae (h:soft w b=true):w.frozen? ⟨b,i,none⟩=false:=by
 obtain ⟨t,ht⟩:=zfe h
 exact frozen_of_row w b i _ t ht
theorem zjv (h:soft w b=true):(w.setRow b cs).frozen? ⟨b',i,none⟩=w.frozen? ⟨b',i,none⟩:=by
 by_cases e:b'=b
 ·subst e
  rw [zae w _ i h]
  exact zae _ _ i (by rw [zah];exact h)
 ·unfold World.frozen?
  simp only
  rw [setRow_other w b b' cs e]
variable {w}
theorem Ext.row (g:Ext w) (h:b < w.heap.size):rowOf g.val b=rowOf w b:=by unfold rowOf;rw [g.below.block b h]
theorem Ext.soft_ (g:Ext w) (h:b < w.heap.size):soft g.val b=soft w b:=by unfold soft;rw [g.below.block b h]
end
theorem zaj (w:World) (b:Nat):rowOf w.drew b=rowOf w b:=rfl
theorem zal (w:World) (b:Nat):soft w.drew b=soft w b:=rfl
theorem Below.setRow_ {w0 w:World} (h:Below w0.heap.size w0 w) {b:Nat} (hb:w0.heap.size ≤ b) (cs:Array Value):Below w0.heap.size w0 (w.setRow b cs):=below_setRow h hb cs
def pb:Value→Nat | .pointer (some a)=>a.block | _=>0
def po:Value→Nat | .pointer (some a)=>a.off | _=>0
def pp:Value→Bool | .pointer (some a)=>a.spot.isNone | _=>false
def isAg:Value→Bool | .agg _=>true | _=>false
def agc:Value→Array Value | .agg cs=>cs | _=>#[]
section
variable (b o:Nat) (cs:Array Value)
@[go_sem] theorem pb_mk:pb (.pointer (some ⟨b,o,none⟩))=b:=rfl
@[go_sem] theorem po_mk:po (.pointer (some ⟨b,o,none⟩))=o:=rfl
@[go_sem] theorem pp_mk:pp (.pointer (some ⟨b,o,none⟩))=true:=rfl
@[go_sem] theorem isAg_mk:isAg (.agg cs)=true:=rfl
@[go_sem] theorem agc_mk:agc (.agg cs)=cs:=rfl
end
theorem zm3 {p:Value} (h:pp p=true):p=.pointer (some ⟨pb p,po p,none⟩):=by
 unfold pp at h
 split at h
 ·rename_i a
  obtain ⟨b,o,s⟩:=a
  simp only [Option.isNone_iff_eq_none] at h
  subst h
  rfl
 ·cases h
theorem zk0 {v:Value} (h:isAg v=true):v=.agg (agc v):=by
 unfold isAg at h
 split at h
 ·rfl
 ·cases h
section
variable {P:Program}
theorem zjw {d:TypeDesc} (t:TypeId) (n:Nat) (hu:P.underlying t=some d) (hd:d.isRow=true) (hi:(P.info? t).map (·.size)=some n) (w:World) (p:Value) (hp:pp p=true) (h:po p + n ≤ (rowOf w (pb p)).size):
  (Instr.loadAt t p).run P w=.ok (.agg (sub (rowOf w (pb p)) (po p) n)) w:=by
 rw [zm3 hp]
 simp only [pb_mk,po_mk]
 generalize pb p=b at *
 generalize po p=o at *
 have hc:w.rangeAt b o ((rowOf w b).extract o (o + n)).toList:=fun j v hv=>by
  rw [zad]
  simp only [Array.getElem?_toList,Array.getElem?_extract] at hv
  split at hv
  ·exact hv
  ·cases hv
 rw [run_loadAt_mid w b o t _ d hc hu hd (by rw [hi];simp;omega)]
 rfl
theorem zse (t:TypeId) (n:Nat) (hi:(P.info? t).map (·.size)=some n) (w:World) (p v:Value) (hp:pp p=true) (h0:po p=0) (hv:isAg v=true)
  (hs:soft w (pb p)=true) (hr:(rowOf w (pb p)).size=n) (hn:(agc v).size=n) (h1:ones (agc v)=true):
  (Instr.storeAt t p v).run P w=.ok () (w.setRow (pb p) (agc v)):=by
 rw [zm3 hp,zk0 hv,h0]
 simp only [pb_mk,agc_mk]
 obtain ⟨T,hT⟩:=zfe hs
 simp only [Instr.storeAt,Instr.sureAddr,Sem.run_bind,Sem.run_pure,Result.andThen_ok]
 exact run_storeVar_row w _ T t _ _ hT (by rw [hi,hn]) (by omega) h1
theorem zav {d:TypeDesc} (t:TypeId) (n:Nat) (hu:P.underlying t=some d) (hd:d.isRow=true) (hi:(P.info? t).map (·.size)=some n) (w:World) (ρ:Operand→Value) (x:Operand)
  (dst:Option Tmp) (ty:TypeId) (pos:String) (af:Array Edge) (gd:Option (Nat × Bool))
  (hp:pp (ρ x)=true) (h:po (ρ x) + n ≤ (rowOf w (pb (ρ x))).size):
  (execOp ρ ⟨dst,.load t x,ty,pos,af,gd⟩).run P w=.ok (.value (.agg (sub (rowOf w (pb (ρ x))) (po (ρ x)) n))) w:=by
 have h1:=zjw t n hu hd hi w (ρ x) hp h
 unfold execOp
 simp only [Sem.run_bind,h1,Result.andThen_ok,Sem.run_pure]
theorem za3 (t:TypeId) (n:Nat) (hi:(P.info? t).map (·.size)=some n) (w:World) (ρ:Operand→Value) (x y:Operand)
  (dst:Option Tmp) (ty:TypeId) (pos:String) (af:Array Edge) (gd:Option (Nat × Bool))
  (hp:pp (ρ x)=true) (h0:po (ρ x)=0) (hv:isAg (ρ y)=true)
  (hs:soft w (pb (ρ x))=true) (hr:(rowOf w (pb (ρ x))).size=n) (hn:(agc (ρ y)).size=n) (h1:ones (agc (ρ y))=true):
  (execOp ρ ⟨dst,.store t x y,ty,pos,af,gd⟩).run P w=.ok .skip (w.setRow (pb (ρ x)) (agc (ρ y))):=by
 have h2:=zse t n hi w (ρ x) (ρ y) hp h0 hv hs hr hn h1
 unfold execOp
 simp only [Sem.run_bind,h2,Result.andThen_ok,Sem.run_pure]
theorem zhj {d:TypeDesc} (t:TypeId) (n:Nat) (hu:P.underlying t=some d) (hd:d.isRow=true) (hi:(P.info? t).map (·.size)=some n) (w:World) (b o:Nat) (h:o + n ≤ (rowOf w b).size):
  (loadVar t ⟨b,o,none⟩).run P w=.ok (.agg (sub (rowOf w b) o n)) w:=by
 have h1:=zjw t n hu hd hi w (.pointer (some ⟨b,o,none⟩)) rfl h
 simp only [Instr.loadAt,Instr.sureAddr,Sem.run_bind,Sem.run_pure,Result.andThen_ok] at h1
 exact h1
theorem za6 {fn:Func} {p:Tmp} {d:TypeDesc} {t:TypeId} {n:Nat} (hr:fn.results=#[.cell p t]) (hu:P.underlying t=some d) (hd:d.isRow=true) (hi:(P.info? t).map (·.size)=some n)
  (tmps:Array Value) (w:World) (b:Nat) (hp:tmps.getD p undef=.pointer (some ⟨b,0,none⟩)) {cs:Array Value} (hc:rowOf w b=cs) (hn:cs.size=n):
  (results fn tmps).run P w=.ok (.agg cs) w:=by
 have h1:=zhj t n hu hd hi w b 0 (by rw [hc];omega)
 have hp':tmps[p]?.getD undef=.pointer (some ⟨b,0,none⟩):=by simpa using hp
 have e:sub (rowOf w b) 0 n=cs:=by rw [hc,← hn];simp [sub]
 rw [e] at h1
 simp [results,hr,hp',asAddr,h1]
theorem zk1 {fn:Func} {p u v:Tmp} {d:TypeDesc} {t:TypeId} {n:Nat} (hr:fn.results=#[.cell p t,.tmp u,.tmp v]) (hu:P.underlying t=some d) (hd:d.isRow=true) (hi:(P.info? t).map (·.size)=some n)
  (tmps:Array Value) (w:World) (b:Nat) (hp:tmps.getD p undef=.pointer (some ⟨b,0,none⟩)) {cs:Array Value} (hc:rowOf w b=cs) (hn:cs.size=n):
  (results fn tmps).run P w=.ok (.tuple #[.agg cs,tmps.getD u undef,tmps.getD v undef]) w:=by
 have h1:=zhj t n hu hd hi w b 0 (by rw [hc];omega)
 have hp':tmps[p]?.getD undef=.pointer (some ⟨b,0,none⟩):=by simpa using hp
 have e:sub (rowOf w b) 0 n=cs:=by rw [hc,← hn];simp [sub]
 rw [e] at h1
 simp [results,hr,hp',asAddr,h1]
end
def min4 (x y z u:Int):Int:=if u < (if z < (if y < x then y else x) then z else (if y < x then y else x)) then u else (if z < (if y < x then y else x) then z else (if y < x then y else x))
def max4 (x y z u:Int):Int:=if (if (if x < y then y else x) < z then z else (if x < y then y else x)) < u then u else (if (if x < y then y else x) < z then z else (if x < y then y else x))
theorem zwi {P:Program} (ts:Array TypeId) (t:TypeId) (x y z u:Int) (w:World):(Builtin.min_ ts t #[.int .i64 x,.int .i64 y,.int .i64 z,.int .i64 u]).run P w=.ok (.int .i64 (min4 x y z u)) w:=by
 simp [Builtin.min_,Builtin.min2,min4]
theorem zwj {P:Program} (ts:Array TypeId) (t:TypeId) (x y z u:Int) (w:World):(Builtin.max_ ts t #[.int .i64 x,.int .i64 y,.int .i64 z,.int .i64 u]).run P w=.ok (.int .i64 (max4 x y z u)) w:=by
 simp [Builtin.max_,Builtin.max2,max4]
attribute [go_sem] zwi zwj
end
section
attribute [local go_sem ↓] zdg
theorem zgt:Elem Tryz.prog 37 5 1:=Elem.mk' Tryz.underlying37 (by kernel_rfl) (z:=.int .u8 0) (bytes:=1) rfl (by decide) (by decide)
section
variable (w:World) (a:Option Addr) (len cap:Nat)
theorem zqt (kl kh:IntKind) (l h:Int) (h0:0 ≤ l) (h1:l ≤ h) (h2:h ≤ cap):
  (Instr.slice 37 (.slice a len cap) (some (.int kl l)) (some (.int kh h)) none).run Tryz.prog w=.ok (.slice (cutA a l.toNat cap) (h.toNat - l.toNat) (cap - l.toNat)) w:=by
 rw [run_slice_lh w 37 a len cap Tryz.underlying37 kl kh l h h0 h1 h2]
 rfl
theorem zsf (kh:IntKind) (h:Int) (h0:0 ≤ h) (h2:h ≤ cap):
  (Instr.slice 37 (.slice a len cap) none (some (.int kh h)) none).run Tryz.prog w=.ok (.slice a h.toNat cap) w:=by
 rw [run_slice_h w 37 a len cap Tryz.underlying37 kh h h0 h2]
 show Result.ok (Value.slice (cutA a 0 cap) _ _) w=_
 rw [zdg]
 rfl
theorem zsg (kl:IntKind) (l:Int) (h0:0 ≤ l) (h1:l ≤ len):
  (Instr.slice 37 (.slice a len cap) (some (.int kl l)) none none).run Tryz.prog w=.ok (.slice (cutA a l.toNat cap) (len - l.toNat) (cap - l.toNat)) w:=by
 rw [run_slice_l w 37 a len cap Tryz.underlying37 kl l h0 h1]
 rfl
theorem zm4 (kl kh km:IntKind) (l h m:Int) (h0:0 ≤ l) (h1:l ≤ h) (h2:h ≤ m) (h3:m ≤ cap):
  (Instr.slice 37 (.slice a len cap) (some (.int kl l)) (some (.int kh h)) (some (.int km m))).run Tryz.prog w=.ok (.slice (cutA a l.toNat m.toNat) (h.toNat - l.toNat) (m.toNat - l.toNat)) w:=by
 rw [run_slice_lhm w 37 a len cap Tryz.underlying37 kl kh km l h m h0 h1 h2 h3]
 rfl
end
attribute [go_sem high] zqt zsf zsg zm4
end
section
def turn:Nat:=0x82F63B78
def zm5 (w:Nat):Nat:=(w / 2) ^^^ (if w % 2=1 then turn else 0)
def zwk (w b:Nat):Nat:=Nat.repeat zm5 8 (w ^^^ b)
def creg (l:List Nat):Nat:=l.foldl zwk 4294967295
def csum (l:List Nat):Nat:=4294967295 - creg l
theorem zwl (w:Nat) (h:w < 4294967296):zm5 w < 4294967296:=by
 unfold zm5
 exact Nat.xor_lt_two_pow (n:=32) (by omega) (by unfold turn;split <;> omega)
theorem zsh (q w:Nat) (h:w < 4294967296):Nat.repeat zm5 q w < 4294967296:=by
 induction q with
 | zero=>exact h
 | succ q ih=>exact zwl _ ih
theorem zwm (w b:Nat) (h:w < 4294967296) (hb:b < 256):zwk w b < 4294967296:=zsh _ _ (Nat.xor_lt_two_pow (n:=32) (by omega) (by omega))
theorem zwn (l:List Nat) (hl:∀ x ∈ l,x < 256) (w:Nat) (h:w < 4294967296):l.foldl zwk w < 4294967296:=by
 induction l generalizing w with
 | nil=>exact h
 | cons x l ih=>exact ih (fun y hy=>hl y (by simp [hy])) _ (zwm _ _ h (hl x (by simp)))
theorem zsi (l:List Nat) (hl:∀ x ∈ l,x < 256):creg l < 4294967296:=zwn l hl _ (by decide)
theorem zaag (l:List Nat):csum l < 4294967296:=by unfold csum;omega
theorem zsj (l:List Nat) (j x:Nat) (h:l[j]?=some x):creg (l.take (j + 1))=zwk (creg (l.take j)) x:=by
 rw [List.take_add_one,h];unfold creg;simp
def Small (l:List Nat):Prop:=∀ x ∈ l,x < 256
theorem Small.at {l:List Nat} (h:Small l) {j x:Nat} (hj:l[j]?=some x):x < 256:=h x (List.mem_of_getElem? hj)
theorem Small.take {l:List Nat} (h:Small l) (j:Nat):Small (l.take j):=fun x hx=>h x (List.mem_of_mem_take hx)
theorem Small.drop {l:List Nat} (h:Small l) (j:Nat):Small (l.drop j):=fun x hx=>h x (List.mem_of_mem_drop hx)
theorem Small.append {l k:List Nat} (h:Small l) (h':Small k):Small (l ++ k):=fun x hx=>by
 rcases List.mem_append.1 hx with h1 | h1
 ·exact h x h1
 ·exact h' x h1
theorem zaah (v:Nat) (h:v < 4294967296):bits .xor .u32 ((v:Int) / 2) (bits .and .u32 (-bits .and .u32 (v:Int) 1 % 4294967296) 2197175160)=((zm5 v:Nat):Int):=by
 have h1:=u32_and_nat v 1 h (by decide)
 rw [Nat.and_one_is_mod] at h1
 have h1':bits .and .u32 (v:Int) 1=((v % 2:Nat):Int):=h1
 rw [h1']
 have h2:((v:Int) / 2)=((v / 2:Nat):Int):=by omega
 rw [h2]
 unfold zm5 turn
 rcases Nat.mod_two_eq_zero_or_one v with h0 | h0
 ·rw [h0]
  have h3:bits .and .u32 0 2197175160=0:=by kernel_rfl
  have:=u32_xor_nat (v / 2) 0 (by omega) (by decide)
  simpa [h3] using this
 ·rw [h0]
  have h3:bits .and .u32 4294967295 2197175160=2197175160:=by kernel_rfl
  have:=u32_xor_nat (v / 2) 2197175160 (by omega) (by decide)
  simpa [h3] using this
theorem zwo (b:Nat) (h:b < 4294967296):4294967295 ^^^ b=4294967295 - b:=by
 have h1:(~~~(BitVec.ofNat 32 b)).toNat=2 ^ 32 - 1 - b:=by rw [BitVec.toNat_not,BitVec.toNat_ofNat,Nat.mod_eq_of_lt h]
 rw [BitVec.not_def,BitVec.toNat_xor,BitVec.toNat_allOnes,BitVec.toNat_ofNat,Nat.mod_eq_of_lt h] at h1
 exact h1
set_option maxHeartbeats 1000000 in
theorem zsk {w:World} {ao:Option Addr} {n c:Nat} {l:List Nat} (hl:Sl w ao n c (bts l)) (hs:Small l) (hn:n < 1099511627776):Calls Tryz.prog 319 #[.slice ao n c] w (Ret (.int .u32 (csum l:Nat)) w):=by
 have hln:l.length=n:=by rw [← hl.len,zam]
 go_enter Tryz.func319,Tryz.ntmps319
 go_wp2
 go_loopw [3,8] (fun v i wr=>∃ j:Nat,j ≤ n∧i=.int .i64 j∧v=.int .u32 (creg (l.take j):Nat)∧Below w.heap.size w wr) (fun _ i _=>n - (intOf i).toNat)
 case atStart=>exact ⟨0,by omega,rfl,rfl,by (repeat' (first | (with_reducible exact Below.refl _ _) | (with_reducible assumption) | (with_reducible refine Ext.up _ ?_) | (with_reducible refine Below.alloc ?_ ?_ _) | (with_reducible refine Below.drew ?_) | (with_reducible refine Below.setCell ?_ ?_ _) | (with_reducible refine Below.setRow_ ?_ ?_ _) | go_size))⟩
 case round=>
  obtain ⟨j,hj,rfl,rfl,hb⟩:=hrel
  by_cases hlt:j < n
  ·obtain ⟨b,o,rfl,hbw,hc⟩:=hl.at (by omega)
   obtain ⟨x,hjx⟩:∃ x,l[j]?=some x:=⟨_,zady (by omega)⟩
   have hx:=hc j _ (by rw [zd6,hjx];rfl)
   rw [← hb.cell (by exact hbw)] at hx
   have hx2:=hs.at hjx
   have hr:=zsi _ (hs.take j)
   have hxr:=u32_xor_nat _ x hr (by omega)
   have hz:=Nat.xor_lt_two_pow (n:=32) hr (show x < 2 ^ 32 by omega)
   go_wp2
   go_loopw [3,16] (fun v i wq=>∃ q:Nat,q ≤ 8∧i=.int .i64 q∧v=.int .u32 (Nat.repeat zm5 q (creg (l.take j) ^^^ x):Nat)∧Below w.heap.size w wq) (fun _ i _=>8 - (intOf i).toNat)
   case atStart=>exact ⟨0,by omega,rfl,rfl,by (repeat' (first | (with_reducible exact Below.refl _ _) | (with_reducible assumption) | (with_reducible refine Ext.up _ ?_) | (with_reducible refine Below.alloc ?_ ?_ _) | (with_reducible refine Below.drew ?_) | (with_reducible refine Below.setCell ?_ ?_ _) | (with_reducible refine Below.setRow_ ?_ ?_ _) | go_size))⟩
   case round=>
    obtain ⟨q,hq,rfl,rfl,hbq⟩:=hrel
    have hrq:=zsh q _ hz
    by_cases hlq:q < 8
    ·have hlq':(q:Int) < 8:=by omega
     go_wp2
     go_roundw
     case rel=>exact ⟨q + 1,by omega,rfl,by rw [zaah _ hrq];rfl,hbq⟩
     case measure=>simp [intOf];omega
    ·go_wp2
     go_roundw
     case rel=>
      obtain rfl:q=8:=by omega
      exact ⟨j + 1,by omega,rfl,by rw [zsj l j x hjx];rfl,hbq⟩
     case measure=>simp [intOf];omega
  ·have hrj:=zsi _ (hs.take j)
   have hnot:=u32_xor_nat 4294967295 _ (by decide) hrj
   rw [zwo _ hrj] at hnot
   have hsg:IntKind.u32.signed=false:=rfl
   have hmx:IntKind.u32.max=(4294967295:Nat):=rfl
   go_wp2
   go_ret
   obtain rfl:j=n:=by omega
   refine Ret.mk_of hb ?_
   rw [← hln,List.take_length] at hnot
   rw [← hln,List.take_length]
   exact congrArg (Value.int .u32) hnot
def num:List Nat→Nat
 | []=>0
 | x :: l=>x + 256 * num l
def les (x:Nat):Nat→List Nat
 | 0=>[]
 | k + 1=>x % 256 :: les (x / 256) k
end
end Go.Proofs.YthjgiamfaijoeaaGreatDoor
