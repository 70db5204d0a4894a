/- What is proved: parts of the walk and of the plain law. No condition but those each law names. -/
import Derived.Test.YthjgiamfaijoeaaGreatDoorD00
import Derived.Test.YthjgiamfaijoeaaGreatDoorD13
set_option linter.unusedSimpArgs false
set_option linter.unusedVariables false
set_option maxRecDepth 100000
namespace Go.Proofs.YthjgiamfaijoeaaGreatDoor
open Go.RowKit
section
section
variable {P:Program} {ops:Array Oper} {md:Region.Mode} {w:World} {k:Nat} {mk:Nat→Value} {ob:Obj}
def Oper.growUpon (P:Program) (w1:World) (v:Value):Result Next→Prop
 | .ok (.value u) w'=>w'=w1∧u=v
 | .ok .skip w'=>w'=w1∧v=undef
 | .ok (.enter f args) w'=>w'=w1∧Calls P f args w1 (Ret v w1)
 | _=>False
def Oper.growAt (P:Program) (o:Oper) (a:Act) (w1:World) (v:Value):Prop:=Oper.growUpon P w1 v ((execOp a.eval o).run P w1)
def Oper.lays (P:Program) (o:Oper) (a:Act) (w:World) (mk:Nat→Value) (ob:Obj):Prop:=∀ g:Ext w,(execOp a.eval o).run P g.val=.ok (.value (mk g.val.heap.size)) (g.val.alloc ob)
inductive Does where
 | lays
 | skips
 | yields (v:Value)
def Does.is (d:Does) (P:Program) (ops:Array Oper) (w:World) (mk:Nat→Value) (ob:Obj) (o:Oper) (A:Nat→Act):Prop:=
 match d with
 | .lays=>∀ N,Region.wanted o (yielded ops (A N).tmps)=true∧Oper.lays P o (A N) w mk ob
 | .skips=>∀ N,Region.wanted o (yielded ops (A N).tmps)=false
 | .yields v=>∀ N,Region.wanted o (yielded ops (A N).tmps)=true∧∀ g:Ext w,Oper.growAt P o (A N) g.val v
def Does.val (d:Does) (mk:Nat→Value) (N:Nat):Value:=
 match d with
 | .lays=>mk N
 | .skips=>undef
 | .yields v=>v
def Does.put (d:Does) (mk:Nat→Value) (dst:Option Tmp) (A:Nat→Act):Nat→Act:=fun N=>(A N).put dst (d.val mk N)
def Does.isLay:Does→Bool
 | .lays=>true
 | _=>false
def gOp (P:Program) (ops:Array Oper) (w:World) (k:Nat) (mk:Nat→Value) (ob:Obj) (i:Nat) (K:(Nat→Act)→Bool→Prop) (A:Nat→Act) (s:Bool):Prop:=
 match ops[i]? with
 | none=>K A s
 | some o=>∃ d:Does,d.isLay=decide (i=k)∧d.is P ops w mk ob o A∧K (d.put mk o.dst A) (s || d.isLay)
theorem gOp_mono {i:Nat} {A:Nat→Act} {s:Bool} {K K':(Nat→Act)→Bool→Prop} (h:∀ A s,K A s→K' A s) (hh:gOp P ops w k mk ob i K A s):gOp P ops w k mk ob i K' A s:=by
 unfold gOp at *
 split
 ·rename_i ho;simp only [ho] at hh;exact h _ _ hh
 ·rename_i o ho
  simp only [ho] at hh
  obtain ⟨d,h1,h2,h3⟩:=hh
  exact ⟨d,h1,h2,h _ _ h3⟩
def Held (w:World) (ob:Obj) (A:Nat→Act) (s:Bool) (a:Act) (w':World):Prop:=
 (∃ g:Ext w,w'=g.val)∧match s with
  | false=>∀ N,A N=a
  | true=>∃ N,A N=a∧w.heap.size ≤ N∧N < w'.heap.size∧w'.heap[N]?=some ob
theorem Held.next {A:Nat→Act} {s:Bool} {a:Act} {w1 w2:World} (h:Held w ob A s a w1) (g:Ext w1) (e:w2=g.val) {d:Does} (hd:d.isLay=false) (dst:Option Tmp) (v:Value) (hv:∀ N,d.val mk N=v):
  Held w ob (d.put mk dst A) (s || d.isLay) (a.put dst v) w2:=by
 obtain ⟨⟨g1,rfl⟩,h2⟩:=h
 subst e
 refine ⟨⟨g1.trans g,rfl⟩,?_⟩
 rw [hd,Bool.or_false]
 cases s with
 | false=>exact fun N=>by unfold Does.put;rw [hv N,h2 N]
 | true=>
  obtain ⟨N,hA,b,c,e⟩:=h2
  exact ⟨N,by unfold Does.put;rw [hv N,hA],b,Nat.lt_of_lt_of_le c g.below.size,(g.below.block N c).trans e⟩
theorem Held.frame {A:Nat→Act} {s:Bool} {a:Act} {w1:World} (h:Held w ob A s a w1):∃ N,A N=a:=by
 obtain ⟨_,h2⟩:=h
 cases s with
 | false=>exact ⟨0,h2 0⟩
 | true=>obtain ⟨N,hN,_⟩:=h2;exact ⟨N,hN⟩
theorem wpOp_of_gOp {i:Nat} {A:Nat→Act} {s:Bool} {a:Act} {K:(Nat→Act)→Bool→Prop} {K':Act→World→Prop} {Q':Exit→Act→World→Prop} {w1:World} (hw:Held w ob A s a w1) (hk:i=k→s=false)
  (h:∀ A s a w',Held w ob A s a w'→K A s→K' a w') (hh:gOp P ops w k mk ob i K A s):wpOp P ops Q' i K' a w1:=by
 unfold gOp at hh
 unfold wpOp
 split
 ·rename_i ho;simp only [ho] at hh;exact h _ _ _ _ hw hh
 ·rename_i o ho
  simp only [ho] at hh
  obtain ⟨d,hd,hi,hK⟩:=hh
  obtain ⟨N,hN⟩:=hw.frame
  obtain ⟨g1,e1⟩:=hw.1
  cases d with
  | lays=>
   have hs:=hk (of_decide_eq_true hd.symm)
   subst hs
   subst e1
   obtain ⟨hwant,hl⟩:=hi N
   rw [hN] at hwant hl
   simp only [hwant,if_true]
   refine .inl ?_
   unfold Oper.wp
   rw [hl g1]
   have hA:((Does.lays).put mk o.dst A) g1.val.heap.size=a.put o.dst (mk g1.val.heap.size):=by
    unfold Does.put
    rw [hw.2 g1.val.heap.size]
    rfl
   exact h _ true _ _ ⟨⟨⟨_,g1.below.alloc g1.below.size ob⟩,rfl⟩,⟨g1.val.heap.size,hA,g1.below.size,by simp,heap_alloc_new _ _⟩⟩ hK
  | skips=>
   have hwant:=hi N
   rw [hN] at hwant
   simp only [hwant,Bool.false_eq_true,if_false]
   exact h _ _ _ _ (hw.next ⟨_,Below.refl _ _⟩ rfl rfl o.dst undef (fun _=>rfl)) hK
  | yields v=>
   obtain ⟨hwant,hv⟩:=hi N
   rw [hN] at hwant hv
   simp only [hwant,if_true]
   refine .inl ?_
   have h3:=hv g1
   rw [← e1] at h3
   unfold Oper.growAt at h3
   unfold Oper.wp
   generalize (execOp a.eval o).run P w1=r at *
   cases r with
   | ok n w'=>
    cases n <;> simp only [Oper.growUpon] at h3 <;> simp only [Oper.upon]
    case value u=>
     obtain ⟨e1,e2⟩:=h3
     rw [e1,e2]
     exact h _ _ _ _ (hw.next ⟨_,Below.refl _ _⟩ rfl rfl o.dst v (fun _=>rfl)) hK
    case skip=>
     obtain ⟨e1,e2⟩:=h3
     rw [e1,← e2]
     exact h _ _ _ _ (hw.next ⟨_,Below.refl _ _⟩ rfl rfl o.dst v (fun _=>rfl)) hK
    case enter f args=>
     obtain ⟨e1,hc⟩:=h3
     rw [e1]
     exact hc.mono fun e w'' ⟨he,g2,hg⟩=>by
      subst he
      exact h _ _ _ _ (hw.next g2 hg rfl o.dst v (fun _=>rfl)) hK
   | halt x w'=>simp only [Oper.growUpon] at h3
def wpAnyG (P:Program) (md:Region.Mode) (ops:Array Oper) (w:World) (k:Nat) (mk:Nat→Value) (ob:Obj) (n:Nat) (L:Array Bool→(Nat→Act)→Bool→Prop):Nat→Array Bool→(Nat→Act)→Bool→Prop
 | 0,listed,A,s=>L listed A s
 | f + 1,listed,A,s=>
  Region.ready md ops listed ≠ []∧∀ i ∈ Region.ready md ops listed,i < n∧gOp P ops w k mk ob i (wpAnyG P md ops w k mk ob n L f (listed.setIfInBounds i true)) A s
theorem wpAny_of_headG {n g:Nat} {L:Array Bool→(Nat→Act)→Bool→Prop} {Q':Exit→Act→World→Prop} (hkn:k < ops.size)
  (hL:∀ listed A s a w',Held w ob A s a w'→(s=true ↔ listed.getD k true=true)→L listed A s→wpAny P md ops Q' g listed a w'):
  ∀ (f:Nat) (listed:Array Bool) (A:Nat→Act) (s:Bool) (a:Act) (w':World),listed.size=ops.size→Held w ob A s a w'→(s=true ↔ listed.getD k true=true)→wpAnyG P md ops w k mk ob n L f listed A s→wpAny P md ops Q' (f + g) listed a w'
 | 0,listed,A,s,a,w',_,hw,hsk,h=>by rw [Nat.zero_add];exact hL _ _ _ _ _ hw hsk h
 | f + 1,listed,A,s,a,w',hz,hw,hsk,h=>by
  rw [show f + 1 + g=(f + g) + 1 by omega]
  refine ⟨fun h0=>absurd h0 h.1,fun i hi=>?_⟩
  have hun:=(mem_ready.1 hi).1
  refine wpOp_of_gOp (k:=k) (mk:=mk) (A:=A) (s:=s) (K:=fun A' s'=>wpAnyG P md ops w k mk ob n L f (listed.setIfInBounds i true) A' s'∧(s'=true ↔ (listed.setIfInBounds i true).getD k true=true)) hw (fun e=>?_)
   (fun A' s' a' w2 hw' h'=>wpAny_of_headG hkn hL f _ A' s' a' w2 (by simp [hz]) hw' h'.2 h'.1) ?_
  ·subst e
   cases s with
   | false=>rfl
   | true=>rw [hsk.1 rfl] at hun;cases hun
  ·have h2:=(h.2 i hi).2
   unfold gOp at *
   split
   ·rename_i ho
    simp only [ho] at h2
    refine ⟨h2,?_⟩
    by_cases e:i=k
    ·subst e
     have:ops[i]?=some ops[i]:=Array.getElem?_eq_getElem hkn
     rw [ho] at this
     cases this
    ·rw [getD_set_ne true e];exact hsk
   ·rename_i o ho
    simp only [ho] at h2
    obtain ⟨d,h3,h4,h5⟩:=h2
    refine ⟨d,h3,h4,h5,?_⟩
    by_cases e:i=k
    ·subst e
     rw [h3]
     simp
    ·rw [getD_set_ne true e,h3]
     simp only [e,decide_false,Bool.or_false]
     exact hsk
theorem Does.is_same {d:Does} {o:Oper} {A A':Nat→Act} (hy:d.is P ops w mk ob o A) (he:∀ N,execOp (A' N).eval o=execOp (A N).eval o)
  (hw:∀ N,Region.wanted o (yielded ops (A' N).tmps)=Region.wanted o (yielded ops (A N).tmps)):d.is P ops w mk ob o A':=by
 cases d with
 | lays=>exact fun N=>⟨by rw [hw];exact (hy N).1,fun g=>by rw [he];exact (hy N).2 g⟩
 | skips=>exact fun N=>by rw [hw];exact hy N
 | yields v=>exact fun N=>⟨by rw [hw];exact (hy N).1,fun g=>by unfold Oper.growAt;rw [he];exact (hy N).2 g⟩
theorem gOp_put {j:Nat} {oi oj:Oper} {d:Does} (hj:ops[j]?=some oj) (hap:oi.apart ops oj=true)
  (hsi:∀ cs b,oi.op ≠ .select cs b) (hsj:∀ cs b,oj.op ≠ .select cs b) {K:(Nat→Act)→Bool→Prop} {A:Nat→Act} {s:Bool}
  (hy:d.is P ops w mk ob oi A) (h:gOp P ops w k mk ob j K (d.put mk oi.dst A) (s || d.isLay)):
  gOp P ops w k mk ob j (fun A' s'=>d.is P ops w mk ob oi A'∧K (d.put mk oi.dst A') (s' || d.isLay)) A s:=by
 obtain ⟨h1,h2,h3⟩:=Oper.apart_spec hap
 unfold gOp at *
 simp only [hj] at *
 obtain ⟨e,he1,he2,he3⟩:=h
 refine ⟨e,he1,Does.is_same he2 (fun N=>(execOp_put oj hsj (A N) oi.dst _ h1).symm) (fun N=>(wanted_put oj (A N) oi.dst _ h1).symm),?_,?_⟩
 ·exact Does.is_same hy (fun N=>execOp_put oi hsi (A N) oj.dst _ h3) (fun N=>wanted_put oi (A N) oj.dst _ h3)
 ·have ec:d.put mk oi.dst (e.put mk oj.dst A)=e.put mk oj.dst (d.put mk oi.dst A):=by
   funext N
   exact (Act.put_comm (A N) _ _ h2).symm
  rw [ec,Bool.or_assoc,Bool.or_comm e.isLay,← Bool.or_assoc]
  exact he3
theorem gOp_of {i:Nat} {o:Oper} {d:Does} {A:Nat→Act} {s:Bool} {K:(Nat→Act)→Bool→Prop} (hi:ops[i]?=some o) (hk:d.isLay=decide (i=k)) (hy:d.is P ops w mk ob o A) (h:K (d.put mk o.dst A) (s || d.isLay)):gOp P ops w k mk ob i K A s:=by
 unfold gOp
 simp only [hi]
 exact ⟨d,hk,hy,h⟩
theorem wpAnyG_first {n i:Nat} {oi:Oper} {d:Does} {L:Array Bool→(Nat→Act)→Bool→Prop} (hi:ops[i]?=some oi) (hsel:∀ (j:Nat) (o:Oper) cs b,ops[j]?=some o→o.op ≠ .select cs b)
  (hs:Region.sinkB md ops n=true) (hc:Region.chainB md ops n=true) (hn:n < ops.size) (hin:i < n) (hk:d.isLay=decide (i=k))
  (hdone:∀ listed A s,L listed A s→∀ j ∈ Region.ready md ops listed,n ≤ j):
  ∀ (f:Nat) (listed:Array Bool) (A:Nat→Act) (s:Bool),HeadInv md ops n listed→
   (∀ j oj,ops[j]?=some oj→j ≠ i→listed.getD j true=false→(∀ e ∈ oj.after,Region.binds md e=true→e.on ≠ i)→oi.apart ops oj=true)→
   i ∈ Region.ready md ops listed→d.is P ops w mk ob oi A→
   wpAnyG P md ops w k mk ob n L f (listed.setIfInBounds i true) (d.put mk oi.dst A) (s || d.isLay)→wpAnyG P md ops w k mk ob n L (f + 1) listed A s:=by
 intro f
 induction f with
 | zero=>
  intro listed A s inv _ hr hy H
  have hun:=(mem_ready.1 hr).1
  refine ⟨fun h=>(by rw [h] at hr;cases hr),fun j hj=>?_⟩
  have hjn:j < n:=by
   rcases Nat.lt_or_ge j n with h | h
   ·exact h
   ·exact absurd hj (tail_waits hs hc hn inv _ i rfl hin hun j h)
  refine ⟨hjn,?_⟩
  by_cases hji:j=i
  ·subst hji;exact gOp_of hi hk hy H
  ·have:=hdone _ _ _ H j (ready_mono hj hji)
   omega
 | succ f ih=>
  intro listed A s inv hfree hr hy H
  have hun:=(mem_ready.1 hr).1
  refine ⟨fun h=>(by rw [h] at hr;cases hr),fun j hj=>?_⟩
  have hjn:j < n:=by
   rcases Nat.lt_or_ge j n with h | h
   ·exact h
   ·exact absurd hj (tail_waits hs hc hn inv _ i rfl hin hun j h)
  refine ⟨hjn,?_⟩
  by_cases hji:j=i
  ·subst hji;exact gOp_of hi hk hy H
  ·have h1:=(H.2 j (ready_mono hj hji)).2
   obtain ⟨hjun,oj,hoj,hall⟩:=mem_ready.1 hj
   have hnot:∀ e ∈ oj.after,Region.binds md e=true→e.on ≠ i:=fun e he hb heq=>by
    have h1:=hall e he hb
    rw [heq,getD_both hun] at h1
    cases h1
   have h2:=gOp_put hoj (hfree j oj hoj hji hjun hnot) (fun cs b=>hsel i oi cs b hi) (fun cs b=>hsel j oj cs b hoj) hy h1
   have hfree':∀ k ok,ops[k]?=some ok→k ≠ i→(listed.setIfInBounds j true).getD k true=false→
     (∀ e ∈ ok.after,Region.binds md e=true→e.on ≠ i)→oi.apart ops ok=true:=fun k ok hk hki hun hno=>by
    refine hfree k ok hk hki ?_ hno
    by_cases hjk:j=k
    ·subst hjk;exact hjun
    ·rw [getD_set_ne true hjk] at hun;exact hun
   refine gOp_mono (fun A' s' h3=>ih (listed.setIfInBounds j true) A' s' (inv.set hj hjn) hfree' (ready_mono hr (Ne.symm hji)) h3.1 ?_) h2
   rw [Array.setIfInBounds_comm _ _ hji]
   exact h3.2
def wpGrow (P:Program) (ops:Array Oper) (w:World) (k:Nat) (mk:Nat→Value) (ob:Obj) (Q:(Nat→Act)→Prop):Nat→List Oper→(Nat→Act)→Prop
 | _,[],A=>Q A
 | i,o :: rest,A=>∃ d:Does,d.isLay=decide (i=k)∧d.is P ops w mk ob o A∧wpGrow P ops w k mk ob Q (i + 1) rest (d.put mk o.dst A)
theorem wpAnyG_lex {n g:Nat} {Lq:(Nat→Act)→Prop} (hsel:Region.noSelect ops=true) (hs:Region.sinkB md ops n=true) (hc:Region.chainB md ops n=true) (hn:n < ops.size) (hkn:k < n):
  ∀ (l:List Oper) (q:Nat) (listed:Array Bool) (A:Nat→Act) (s:Bool),(∀ j,j < l.length→l[j]?=ops[q + j]?)→q + l.length=n→HeadInv md ops n listed→s=decide (k < q)→
  Region.lexHead md ops g l.length q listed=true→wpGrow P ops w k mk ob Lq q l A→
  wpAnyG P md ops w k mk ob n (fun listed' A' s'=>Region.seqB md ops g n listed'=true∧s'=true∧Lq A') l.length listed A s
 | [],q,listed,A,s,_,hk,inv,hsq,hB,h=>by
  have:q=n:=by simpa using hk
  subst this
  exact ⟨by simpa [Region.lexHead] using hB,by rw [hsq];simpa using hkn,h⟩
 | o :: l,q,listed,A,s,hl,hk,inv,hsq,hB,h=>by
  have h0:ops[q]?=some o:=by simpa using (hl 0 (by simp)).symm
  simp only [List.length_cons,Region.lexHead,Bool.and_eq_true] at hB
  obtain ⟨⟨hr,hf⟩,hB'⟩:=hB
  have hkn':q < n:=by simp only [List.length_cons] at hk;omega
  have hr':q ∈ Region.ready md ops listed:=by simpa using hr
  obtain ⟨d,hd,hy,hK⟩:=h
  refine wpAnyG_first h0 (Region.noSelect_spec hsel) hs hc hn hkn' hd (fun listed' A' _ hL=>seqB_ready hL.1) l.length listed A s inv (Region.free_spec h0 hf) hr' hy
   (wpAnyG_lex hsel hs hc hn hkn l (q + 1) _ _ _ (fun j hj=>by have:=hl (j + 1) (by simp;omega);simpa [Nat.add_assoc,Nat.add_comm 1 j] using this) (by simp only [List.length_cons] at hk;omega) (inv.set hr' hkn') ?_ hB' hK)
  rw [hsq,hd]
  by_cases e1:k < q
  ·simp [e1,show k < q + 1 by omega]
  ·by_cases e2:q=k
   ·subst e2;simp
   ·simp [e1,e2,show ¬ k < q + 1 by omega]
theorem zay {id:Nat} {Q:Exit→Act→World→Prop} {a:Act} {w:World} {l:List Oper} (n k:Nat) (mk:Nat→Value) (ob:Obj) (hm:P.follows .mixedOrders=true) (hB:(Region.lexTailB .any l.toArray n && decide (k < n))=true)
  (h:wpGrow P l.toArray w k mk ob (fun A=>∀ N w',w.heap.size ≤ N→N < w'.heap.size→w'.heap[N]?=some ob→(∃ g:Ext w,w'=g.val)→wpList P l.toArray Q (l.drop n) (A N) w') 0 (l.take n) (fun _=>a)):(Code.region id l.toArray true).wp P Q a w:=by
 simp only [Region.lexTailB,Bool.and_eq_true,decide_eq_true_eq] at hB
 obtain ⟨⟨⟨⟨⟨hsel,hn⟩,hs⟩,hc⟩,hlex⟩,hk⟩:=hB
 have hn':n < l.length:=by simpa using hn
 have htl:(l.take n).length=n:=by simp;omega
 have hdl:(l.drop n).length=l.toArray.size - n:=by simp
 have inv0:HeadInv .any l.toArray n (Array.replicate l.toArray.size false):=
  ⟨by simp,fun j oj _ hl=>(by rw [getD_replicate_false] at hl;cases hl),fun t _ ht=>getD_in (by simpa using ht) (getD_replicate_false _ _)⟩
 have hk0:(Array.replicate l.toArray.size false).getD k true=false:=getD_in (by simp;omega) (getD_replicate_false _ _)
 have H:=wpAnyG_lex (md:=.any) (g:=l.toArray.size - n) (s:=false) hsel hs hc hn hk (l.take n) 0 _ (fun _=>a) (fun j hj=>by
  have hj':j < n:=by rw [htl] at hj;exact hj
  simp [hj']) (by simpa using htl) inv0 (by simp) (by rw [htl];exact hlex) h
 refine wp_region_any hm ?_
 have:=wpAny_of_headG (Q':=Q) (g:=l.toArray.size - n) (ob:=ob) (by omega) (fun listed A s a' w' hw' hsk hL=>by
  obtain ⟨hseq,hs1,hL3⟩:=hL
  subst hs1
  obtain ⟨N,hA,b,c,e⟩:∃ N,A N=a'∧w.heap.size ≤ N∧N < w'.heap.size∧w'.heap[N]?=some ob:=hw'.2
  have:=wpAny_of_seq (P:=P) (ops:=l.toArray) (md:=.any) (Q':=Q) (l.drop n) n listed a' w' (fun j=>by simp [List.getElem?_drop]) (by rw [hdl];exact hseq) (by rw [← hA];exact hL3 N w' b c e hw'.1)
  rwa [hdl] at this) _ _ _ _ a { w with drawn:=w.drawn + 1 } (by simp) ⟨⟨⟨_,(Below.refl _ w).drew⟩,rfl⟩,fun _=>rfl⟩ (by rw [hk0]) H
 rw [htl,show n + (l.toArray.size - n)=l.toArray.size by omega] at this
 exact this
theorem grow_step {Q:(Nat→Act)→Prop} {i:Nat} {o:Oper} {rest:List Oper} {A:Nat→Act} (hik:decide (i=k)=false)
  (h:∀ K:(Nat→Act)→Prop,(∀ A',wpGrow P ops w k mk ob Q (i + 1) rest A'→K A')→
   ∃ v,(∀ N,Region.wanted o (yielded ops (A N).tmps)=true)∧(∀ N (g:Ext w),Oper.growAt P o (A N) g.val v)∧K (fun N=>(A N).put o.dst v)):wpGrow P ops w k mk ob Q i (o :: rest) A:=by
 obtain ⟨v,h1,h2,h3⟩:=h _ (fun _ h=>h)
 exact ⟨.yields v,hik.symm,fun N=>⟨h1 N,h2 N⟩,h3⟩
theorem grow_lay {Q:(Nat→Act)→Prop} {i:Nat} {o:Oper} {rest:List Oper} {A:Nat→Act} (hik:decide (i=k)=true) (h1:∀ N,Region.wanted o (yielded ops (A N).tmps)=true)
  (h2:∀ N (g:Ext w),(execOp (A N).eval o).run P g.val=.ok (.value (mk g.val.heap.size)) (g.val.alloc ob))
  (h:wpGrow P ops w k mk ob Q (i + 1) rest (fun N=>(A N).put o.dst (mk N))):wpGrow P ops w k mk ob Q i (o :: rest) A:=⟨.lays,hik.symm,fun N=>⟨h1 N,h2 N⟩,h⟩
attribute [go_sem] Oper.growAt Oper.growUpon
end
end
section
attribute [local go_sem ↓] zad
theorem zb0 {f:FuncId} {args:Array Value} {w:World} {v:Value} (h:Calls Tryz.prog f args w fun e w'=>e=.returned v∧Below w.heap.size w w'):Calls Tryz.prog f args w (Ret v w):=
 h.mono fun _ _ ⟨he,hb⟩=>by rw [he];exact Ret.mk hb
theorem zlo (w:World):Calls Tryz.prog 308 #[.agg Tv.zero.cells] w fun e w'=>e=.returned (.bool true)∧Below w.heap.size w w':=by
 go_enter Tryz.func308,Tryz.ntmps308
 go_upto_region 1 with (fail)
 have bx:=Bx.new w (Tv.zero.cells) 160;generalize w.alloc (.cells (Tv.zero.cells) 160)=W at bx ⊢;have rx:=bx.rowOf;have sx:=bx.soft;have BX:=zadv bx;clear bx
 go_wp2
 go_ret
 exact ⟨rfl,BX.out.below⟩
def f3:List Value:=[.int .i64 0,.int .i64 0,.bool false]
def fgc (d:Dl) (h:Hs):Array Value:=(d.list ++ (bts h.l ++ f3)).toArray
section
variable (w:World) (d d':Dl) (h h':Hs)
theorem f_size:(fgc d h).size=76:=by simp [fgc,f3,d.len,h.len]
theorem f_one:ones (fgc d h)=true:=by
 unfold ones fgc
 rw [List.all_toArray,List.all_append,zpg,List.all_append,zer]
 rfl
theorem zabn:sub (fgc d h) 0 76=fgc d h:=zbv [] (d.list ++ (bts h.l ++ f3)) [] rfl (by simp [f3,d.len,h.len]) (by simp [fgc])
theorem zxi:over (fgc d h) 0 d'.cells.toList=fgc d' h:=by
 obtain ⟨i,r,p,g,k,q⟩:=d
 obtain ⟨i',r',p',g',k',q'⟩:=d'
 obtain ⟨f,rfl⟩:=h.form
 obtain ⟨f1,rfl⟩:=k.form
 obtain ⟨f2,rfl⟩:=k'.form
 kernel_rfl
theorem zxj:over (fgc d h) 41 h'.cells.toList=fgc d h':=by
 obtain ⟨i,r,p,g,k,q⟩:=d
 obtain ⟨f,rfl⟩:=h.form
 obtain ⟨f1,rfl⟩:=k.form
 obtain ⟨f2,rfl⟩:=h'.form
 kernel_rfl
theorem bf5:(Instr.build 396 #[(0,.agg d.cells),(1,.agg h.cells),(2,.int .i64 0),(3,.int .i64 0),(4,.bool false)]).run Tryz.prog w=.ok (.agg (fgc d h)) w:=by
 obtain ⟨i,r,p,g,k,q⟩:=d
 obtain ⟨f,rfl⟩:=h.form
 obtain ⟨f1,rfl⟩:=k.form
 kernel_rfl
theorem bf0:(Instr.build 396 #[]).run Tryz.prog w=.ok (.agg (fgc Dl.zero Hs.zero)) w:=by kernel_rfl
theorem zf:(zeroValue 396).run Tryz.prog w=.ok (.agg (fgc Dl.zero Hs.zero)) w:=by kernel_rfl
theorem neq275:(binOp .neq 396 (.agg (fgc Dl.zero Hs.zero)) (.agg (fgc Dl.zero Hs.zero))).run Tryz.prog w=.ok (.bool false) w:=by kernel_rfl
theorem eqg275 (x y:Operand) (xs ys:Array Value):(eqGuard .neq 396 x y (.agg xs) (.agg ys)).run Tryz.prog w=.ok () w:=by kernel_rfl
end
section
variable (w:World) (ρ:Operand→Value) (x y:Operand) (dst:Option Tmp) (ty:TypeId) (pos:String) (af:Array Edge) (gd:Option (Nat × Bool))
theorem zabo (hp:pp (ρ x)=true) (h:po (ρ x) + 76 ≤ (rowOf w (pb (ρ x))).size):(execOp ρ ⟨dst,.load 396 x,ty,pos,af,gd⟩).run Tryz.prog w=.ok (.value (.agg (sub (rowOf w (pb (ρ x))) (po (ρ x)) 76))) w:=
 zav 396 76 Tryz.underlying396 rfl (by kernel_rfl) w ρ x dst ty pos af gd hp h
theorem zxk (hp:pp (ρ x)=true) (h0:po (ρ x)=0) (hv:isAg (ρ y)=true) (hs:soft w (pb (ρ x))=true) (hr:(rowOf w (pb (ρ x))).size=76) (hn:(agc (ρ y)).size=76) (h1:ones (agc (ρ y))=true):
  (execOp ρ ⟨dst,.store 396 x y,ty,pos,af,gd⟩).run Tryz.prog w=.ok .skip (w.setRow (pb (ρ x)) (agc (ρ y))):=
 za3 396 76 (by kernel_rfl) w ρ x y dst ty pos af gd hp h0 hv hs hr hn h1
theorem zxl (hp:pp (ρ x)=true) (hv:isAg (ρ y)=true) (hs:soft w (pb (ρ x))=true) (hr:po (ρ x) + 41 ≤ (rowOf w (pb (ρ x))).size) (hn:(agc (ρ y)).size=41) (h1:ones (agc (ρ y))=true):
  (execOp ρ ⟨dst,.store 60 x y,ty,pos,af,gd⟩).run Tryz.prog w=.ok .skip (w.setRow (pb (ρ x)) (over (rowOf w (pb (ρ x))) (po (ρ x)) (agc (ρ y)).toList)):=
 zh6 60 41 (by kernel_rfl) w ρ x y dst ty pos af gd hp hv hs hr hn h1
theorem ebf5 (a b c e f:Operand) (h1:ρ a=.agg (dOf (ρ a)).cells) (h2:ρ b=.agg (hOf (ρ b)).cells) (h3:ρ c=.int .i64 0) (h4:ρ e=.int .i64 0) (h5:ρ f=.bool false):(execOp ρ ⟨dst,.build 396 #[(0,a),(1,b),(2,c),(3,e),(4,f)],ty,pos,af,gd⟩).run Tryz.prog w=.ok (.value (.agg (fgc (dOf (ρ a)) (hOf (ρ b))))) w:=by
 have h:=bf5 w (dOf (ρ a)) (hOf (ρ b))
 rw [← h1,← h2,← h3,← h5] at h
 unfold execOp
 simp only [Sem.run_bind,Sem.run_pure,List.map_toArray,List.map_cons,List.map_nil,h4,← h3,h,Result.andThen_ok]
theorem ebf0:(execOp ρ ⟨dst,.build 396 #[],ty,pos,af,gd⟩).run Tryz.prog w=.ok (.value (.agg (fgc Dl.zero Hs.zero))) w:=by
 have h:=bf0 w
 unfold execOp
 simp only [Sem.run_bind,Sem.run_pure,List.map_toArray,List.map_cons,List.map_nil,h,Result.andThen_ok]
theorem zabp (r:TypeId) (h1:ρ x=.agg (fgc Dl.zero Hs.zero)) (h2:ρ y=.agg (fgc Dl.zero Hs.zero)):(execOp ρ ⟨dst,.binOp .neq 396 x y r,ty,pos,af,gd⟩).run Tryz.prog w=.ok (.value (.bool false)) w:=by
 unfold execOp
 simp only [Sem.run_bind,h1,h2,eqg275,Result.andThen_ok,neq275,Sem.run_pure]
end
attribute [-go_sem] ztn
attribute [local go_sem ↓] zabo zxk zxl zf ebf5 ebf0 zabp
attribute [local go_sem] f_size f_one zabn zxi zxj
def rcD (d:Dl):Rc:=⟨1,d.i,d,Hs.zero,0,0,Tv.zero⟩
def rcS (i:Int) (h:Hs):Rc:=⟨2,i,Dl.zero,h,0,0,Tv.zero⟩
section
variable (d:Dl) (i:Int) (h:Hs)
theorem rcD_k:(rcD d).k=1:=rfl
theorem rcD_i:(rcD d).i=d.i:=rfl
theorem rcD_d:(rcD d).d=d:=rfl
theorem rcD_s:(rcD d).s=Hs.zero:=rfl
theorem rcD_m:(rcD d).mv=0:=rfl
theorem rcD_st:(rcD d).st=0:=rfl
theorem rcD_t:(rcD d).t=Tv.zero:=rfl
theorem rcS_k:(rcS i h).k=2:=rfl
theorem rcS_i:(rcS i h).i=i:=rfl
theorem rcS_d:(rcS i h).d=Dl.zero:=rfl
theorem rcS_s:(rcS i h).s=h:=rfl
theorem rcS_m:(rcS i h).mv=0:=rfl
theorem rcS_st:(rcS i h).st=0:=rfl
theorem rcS_t:(rcS i h).t=Tv.zero:=rfl
end
attribute [go_sem] rcD_k rcD_i rcD_d rcD_s rcD_m rcD_st rcD_t rcS_k rcS_i rcS_d rcS_s rcS_m rcS_st rcS_t
attribute [local go_sem] Ext.cell Ext.frozen Ext.row Ext.soft_ zaf zai zac zak zab zah zhi zjv zae zaj zal
theorem ztp (d:Dl) (w:World):Calls Tryz.prog 266 #[.agg (rcD d).cells] w fun e w'=>e=.returned (.bool false)∧Below w.heap.size w w':=by
 go_enter Tryz.func266,Tryz.ntmps266
 go_upto_region 1 with (fail)
 have bx:=Bx.new w ((rcD d).cells) 162;generalize w.alloc (.cells ((rcD d).cells) 162)=W at bx ⊢;have rx:=bx.rowOf;have sx:=bx.soft;have BX:=zadv bx;clear bx
 have hlt:w.heap.size < W.heap.size:=(zadu BX.out.row).1
 (refine zay 14 13 (fun N=>.pointer (some ⟨N,0,none⟩)) (.cells (fgc Dl.zero Hs.zero) 396) (by kernel_rfl) (by kernel_rfl) ?_;simp only [List.take_succ_cons,List.take_zero,List.drop_succ_cons,List.drop_zero];(repeat (first | (refine grow_lay rfl (fun _=>rfl) (fun _ _=>(by simp [go_sem])) ?_;simp only [Act.put,List.setIfInBounds_toArray,List.set_cons_succ,List.set_cons_zero]) | (refine grow_step rfl (fun K hK=>?_);go_simp;(first | (refine hK _ ?_;clear hK K) | (apply Exists.intro;refine ⟨fun _=>?_,hK _ ?_⟩;((go_at_call 308;exact zb0 (zlo _)));clear hK K)))));refine (fun N w' hN lN eN ⟨g,he⟩=>?_);subst he;have rN:=zaa eN;have sN:=zan eN;clear eN)
 have u1:¬ w.heap.size=N:=by omega
 have u2:¬ N=w.heap.size:=by omega
 have u3:w.heap.size < g.val.heap.size:=by omega
 go_wp2
 go_ret
 exact ⟨rfl,Below.setRow_ (Below.setRow_ (BX.out.below.trans (g.below.mono BX.out.below.size)) (by omega) _) (by omega) _⟩
theorem ztq (i:Int) (h:Hs) (w:World):Calls Tryz.prog 266 #[.agg (rcS i h).cells] w fun e w'=>e=.returned (.bool false)∧Below w.heap.size w w':=by
 go_enter Tryz.func266,Tryz.ntmps266
 go_upto_region 1 with (fail)
 have bx:=Bx.new w ((rcS i h).cells) 162;generalize w.alloc (.cells ((rcS i h).cells) 162)=W at bx ⊢;have rx:=bx.rowOf;have sx:=bx.soft;have BX:=zadv bx;clear bx
 have hlt:w.heap.size < W.heap.size:=(zadu BX.out.row).1
 (refine zay 14 13 (fun N=>.pointer (some ⟨N,0,none⟩)) (.cells (fgc Dl.zero Hs.zero) 396) (by kernel_rfl) (by kernel_rfl) ?_;simp only [List.take_succ_cons,List.take_zero,List.drop_succ_cons,List.drop_zero];(repeat (first | (refine grow_lay rfl (fun _=>rfl) (fun _ _=>(by simp [go_sem])) ?_;simp only [Act.put,List.setIfInBounds_toArray,List.set_cons_succ,List.set_cons_zero]) | (refine grow_step rfl (fun K hK=>?_);go_simp;(first | (refine hK _ ?_;clear hK K) | (apply Exists.intro;refine ⟨fun _=>?_,hK _ ?_⟩;((go_at_call 308;exact zb0 (zlo _)));clear hK K)))));refine (fun N w' hN lN eN ⟨g,he⟩=>?_);subst he;have rN:=zaa eN;have sN:=zan eN;clear eN)
 have u1:¬ w.heap.size=N:=by omega
 have u2:¬ N=w.heap.size:=by omega
 have u3:w.heap.size < g.val.heap.size:=by omega
 go_wp2
 go_ret
 exact ⟨rfl,Below.setRow_ (Below.setRow_ (BX.out.below.trans (g.below.mono BX.out.below.size)) (by omega) _) (by omega) _⟩
end
section
attribute [local go_sem ↓] zad
theorem zlp {d:Dl} (h:za5 d=true):wi d.i 1 1073741824=true:=by
 unfold za5 at h
 rw [Bool.and_eq_true] at h
 exact h.1
theorem zh7 {d:Dl} (h:za5 d=true):errD d=0:=by unfold errD;rw [h];rfl
theorem zfb {d:Dl} {k:Int} (h:errD d=k) (w:World):Calls Tryz.prog 107 #[.agg d.cells] w fun e w'=>e=.returned (.int .i64 k)∧Below w.heap.size w w':=h ▸ zkf d w
theorem own_D {d:Dl} (hd:za5 d=true) (w:World):Calls Tryz.prog 265 #[.agg (rcD d).cells] w fun e w'=>e=.returned (.int .i64 0)∧Below w.heap.size w w':=by
 have H1:=zadv (zh7 hd)
 have H2:=zadv (zlp hd)
 clear hd
 go_enter Tryz.func265,Tryz.ntmps265
 go_upto_region 1 with (fail)
 have bx:=Bx.new w ((rcD d).cells) 162;generalize w.alloc (.cells ((rcD d).cells) 162)=W at bx ⊢;have rx:=bx.rowOf;have sx:=bx.soft;have BX:=zadv bx;clear bx
 go_wp2_with fail
 refine (zfb H1.out _).mono ?_;rintro _ W2 ⟨rfl,hb⟩;have bx:=BX.out.step hb;clear BX rx sx hb;have rx:=bx.rowOf;have sx:=bx.soft;have BX:=zadv bx;clear bx
 go_wp2_with fail
 refine (za1 H2.out _).mono ?_;rintro _ _ ⟨rfl,rfl⟩
 go_wp2
 go_ret
 exact ⟨rfl,BX.out.below⟩
theorem own_S {i:Int} {h:Hs} (hi:wi i 1 1073741824=true) (w:World):Calls Tryz.prog 265 #[.agg (rcS i h).cells] w fun e w'=>e=.returned (.int .i64 0)∧Below w.heap.size w w':=by
 have H2:=zadv hi
 clear hi
 go_enter Tryz.func265,Tryz.ntmps265
 go_upto_region 1 with (fail)
 have bx:=Bx.new w ((rcS i h).cells) 162;generalize w.alloc (.cells ((rcS i h).cells) 162)=W at bx ⊢;have rx:=bx.rowOf;have sx:=bx.soft;have BX:=zadv bx;clear bx
 go_wp2_with fail
 refine (za1 H2.out _).mono ?_;rintro _ _ ⟨rfl,rfl⟩
 go_wp2
 go_ret
 exact ⟨rfl,BX.out.below⟩
theorem wi14:wi 1 1 4=true:=rfl
theorem wi24:wi 2 1 4=true:=rfl
theorem zkg {d:Dl} (hd:za5 d=true) (w:World):Calls Tryz.prog 186 #[.agg (rcD d).cells] w fun e w'=>e=.returned (.int .i64 0)∧Below w.heap.size w w':=by
 have H1:=zadv hd
 clear hd
 go_enter Tryz.func186,Tryz.ntmps186
 go_upto_region 1 with (fail)
 have bx:=Bx.new w ((rcD d).cells) 162;generalize w.alloc (.cells ((rcD d).cells) 162)=W at bx ⊢;have rx:=bx.rowOf;have sx:=bx.soft;have BX:=zadv bx;clear bx
 go_wp2_with fail
 refine (za1 wi14 _).mono ?_;rintro _ _ ⟨rfl,rfl⟩
 go_wp2_with fail
 refine (own_D H1.out _).mono ?_;rintro _ W2 ⟨rfl,hb⟩;have bx:=BX.out.step hb;clear BX rx sx hb;have rx:=bx.rowOf;have sx:=bx.soft;have BX:=zadv bx;clear bx
 go_wp2_with fail
 refine (ztp _ _).mono ?_;rintro _ W3 ⟨rfl,hb⟩;have bx:=BX.out.step hb;clear BX rx sx hb;have rx:=bx.rowOf;have sx:=bx.soft;have BX:=zadv bx;clear bx
 go_wp2
 go_ret
 exact ⟨rfl,BX.out.below⟩
theorem zkh {i:Int} {h:Hs} (hi:wi i 1 1073741824=true) (w:World):Calls Tryz.prog 186 #[.agg (rcS i h).cells] w fun e w'=>e=.returned (.int .i64 0)∧Below w.heap.size w w':=by
 have H1:=zadv hi
 clear hi
 go_enter Tryz.func186,Tryz.ntmps186
 go_upto_region 1 with (fail)
 have bx:=Bx.new w ((rcS i h).cells) 162;generalize w.alloc (.cells ((rcS i h).cells) 162)=W at bx ⊢;have rx:=bx.rowOf;have sx:=bx.soft;have BX:=zadv bx;clear bx
 go_wp2_with fail
 refine (za1 wi24 _).mono ?_;rintro _ _ ⟨rfl,rfl⟩
 go_wp2_with fail
 refine (own_S H1.out _).mono ?_;rintro _ W2 ⟨rfl,hb⟩;have bx:=BX.out.step hb;clear BX rx sx hb;have rx:=bx.rowOf;have sx:=bx.soft;have BX:=zadv bx;clear bx
 go_wp2_with fail
 refine (ztq _ _ _).mono ?_;rintro _ W3 ⟨rfl,hb⟩;have bx:=BX.out.step hb;clear BX rx sx hb;have rx:=bx.rowOf;have sx:=bx.soft;have BX:=zadv bx;clear bx
 go_wp2
 go_ret
 exact ⟨rfl,BX.out.below⟩
end
end Go.Proofs.YthjgiamfaijoeaaGreatDoor
