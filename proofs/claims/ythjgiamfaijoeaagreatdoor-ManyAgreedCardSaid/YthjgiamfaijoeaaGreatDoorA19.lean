/- What is proved: parts of the walk and of the plain law. No condition but those each law names. -/
import Derived.Test.YthjgiamfaijoeaaGreatDoorA00
set_option linter.unusedSimpArgs false
set_option linter.unusedVariables false
namespace Go.Proofs.YthjgiamfaijoeaaGreatDoor
open Go.RowKit
namespace Mk
section
variable {α:Type} {P:Program} {ops:Array Oper} {md:Region.Mode} {w:World} {k:Nat} {mk:α→Value} {ob:α→World→Prop}
def Oper.growUpon (P:Program) (w1:World) (v:Value):Result Next→Prop
 | .ok (.value u) w'=>w'=w1∧u=v
 | .ok .skip w'=>w'=w1∧v=undef
 | .ok (.enter f args) w'=>w'=w1∧Calls P f args w1 (Ret v w1)
 | _=>False
def Oper.growAt (P:Program) (o:Oper) (a:Act) (w1:World) (v:Value):Prop:=Oper.growUpon P w1 v ((execOp a.eval o).run P w1)
def Oper.makesUpon (P:Program) (w1:World) (mk:α→Value) (ob:α→World→Prop):Result Next→Prop
 | .ok (.value u) w'=>∃ x,u=mk x∧(∃ g:Ext w1,w'=g.val)∧ob x w'
 | .ok (.enter f args) w'=>w'=w1∧Calls P f args w1 fun e w2=>∃ x,e=.returned (mk x)∧(∃ g:Ext w1,w2=g.val)∧ob x w2
 | _=>False
def Oper.lays (P:Program) (o:Oper) (a:Act) (w:World) (mk:α→Value) (ob:α→World→Prop):Prop:=∀ g:Ext w,Oper.makesUpon P g.val mk ob ((execOp a.eval o).run P g.val)
def Oper.readUpon (w1:World) (v:Value):Result Next→Prop
 | .ok (.value u) w'=>w'=w1∧u=v
 | .ok .skip w'=>w'=w1∧v=undef
 | _=>False
def Oper.readAt (P:Program) (o:Oper) (a:Act) (w1:World) (v:Value):Prop:=Oper.readUpon w1 v ((execOp a.eval o).run P w1)
inductive Does (α:Type) where
 | lays
 | skips
 | yields (v:Value)
 | reads (v:α→Value)
def Does.is (d:Does α) (P:Program) (ops:Array Oper) (w:World) (mk:α→Value) (ob:α→World→Prop) (o:Oper) (A:α→Act):Prop:=
 match d with
 | .lays=>∀ N,Region.wanted o (yielded ops (A N).tmps)=true∧Oper.lays P o (A N) w mk ob
 | .skips=>∀ N,Region.wanted o (yielded ops (A N).tmps)=false
 | .yields v=>∀ N,Region.wanted o (yielded ops (A N).tmps)=true∧∀ g:Ext w,Oper.growAt P o (A N) g.val v
 | .reads v=>∀ N,Region.wanted o (yielded ops (A N).tmps)=true∧∀ g:Ext w,Oper.readAt P o (A N) g.val (v N)
def Does.val (d:Does α) (mk:α→Value) (N:α):Value:=
 match d with
 | .lays=>mk N
 | .skips=>undef
 | .yields v=>v
 | .reads v=>v N
def Does.put (d:Does α) (mk:α→Value) (dst:Option Tmp) (A:α→Act):α→Act:=fun N=>(A N).put dst (d.val mk N)
def Does.isLay:Does α→Bool
 | .lays=>true
 | _=>false
def gOp (P:Program) (ops:Array Oper) (w:World) (k:Nat) (mk:α→Value) (ob:α→World→Prop) (i:Nat) (K:(α→Act)→Bool→Prop) (A:α→Act) (s:Bool):Prop:=
 match ops[i]? with
 | none=>K A s
 | some o=>∃ d:Does α,d.isLay=decide (i=k)∧d.is P ops w mk ob o A∧K (d.put mk o.dst A) (s || d.isLay)
theorem gOp_mono {i:Nat} {A:α→Act} {s:Bool} {K K':(α→Act)→Bool→Prop} (h:∀ A s,K A s→K' A s) (hh:gOp P ops w k mk ob i K A s):gOp P ops w k mk ob i K' A s:=by
 unfold gOp at *
 split
 ·rename_i ho;simp only [ho] at hh;exact h _ _ hh
 ·rename_i o ho
  simp only [ho] at hh
  obtain ⟨d,h1,h2,h3⟩:=hh
  exact ⟨d,h1,h2,h _ _ h3⟩
def Held (w:World) (ob:α→World→Prop) (A:α→Act) (s:Bool) (a:Act) (w':World):Prop:=
 (∃ g:Ext w,w'=g.val)∧match s with
  | false=>∀ N,A N=a
  | true=>∃ N,A N=a∧ob N w'
theorem Held.next (hp:∀ x (w1:World) (g:Ext w1),ob x w1→ob x g.val) {A:α→Act} {s:Bool} {a:Act} {w1 w2:World} (h:Held w ob A s a w1) (g:Ext w1) (e:w2=g.val) {d:Does α} (hd:d.isLay=false) (dst:Option Tmp) (v:Value) (hv:∀ N,A N=a→d.val mk N=v):
  Held w ob (d.put mk dst A) (s || d.isLay) (a.put dst v) w2:=by
 obtain ⟨⟨g1,rfl⟩,h2⟩:=h
 subst e
 refine ⟨⟨g1.trans g,rfl⟩,?_⟩
 rw [hd,Bool.or_false]
 cases s with
 | false=>exact fun N=>by unfold Does.put;rw [hv N (h2 N),h2 N]
 | true=>
  obtain ⟨N,hA,b⟩:=h2
  exact ⟨N,by unfold Does.put;rw [hv N hA,hA],hp _ _ g b⟩
theorem Held.frame (d0:α) {A:α→Act} {s:Bool} {a:Act} {w1:World} (h:Held w ob A s a w1):∃ N,A N=a:=by
 obtain ⟨_,h2⟩:=h
 cases s with
 | false=>exact ⟨d0,h2 d0⟩
 | true=>obtain ⟨N,hN,_⟩:=h2;exact ⟨N,hN⟩
theorem wpOp_of_gOp (d0:α) (hp:∀ x (w1:World) (g:Ext w1),ob x w1→ob x g.val) {i:Nat} {A:α→Act} {s:Bool} {a:Act} {K:(α→Act)→Bool→Prop} {K':Act→World→Prop} {Q':Exit→Act→World→Prop} {w1:World} (hw:Held w ob A s a w1) (hk:i=k→s=false)
  (h:∀ A s a w',Held w ob A s a w'→K A s→K' a w') (hh:gOp P ops w k mk ob i K A s):wpOp P ops Q' i K' a w1:=by
 unfold gOp at hh
 unfold wpOp
 split
 ·rename_i ho;simp only [ho] at hh;exact h _ _ _ _ hw hh
 ·rename_i o ho
  simp only [ho] at hh
  obtain ⟨d,hd,hi,hK⟩:=hh
  obtain ⟨N,hN⟩:=hw.frame d0
  obtain ⟨g1,e1⟩:=hw.1
  cases d with
  | lays=>
   have hs:=hk (of_decide_eq_true hd.symm)
   subst hs
   subst e1
   obtain ⟨hwant,hl⟩:=hi N
   rw [hN] at hwant hl
   simp only [hwant,if_true]
   refine .inl ?_
   unfold Oper.wp
   have hr:=hl g1
   unfold Oper.makesUpon at hr
   generalize (execOp a.eval o).run P g1.val=r at *
   have hA:∀ x,((Does.lays).put mk o.dst A) x=a.put o.dst (mk x):=fun x=>by
    unfold Does.put
    rw [hw.2 x]
    rfl
   cases r with
   | ok n w'=>
    cases n <;> simp only [] at hr <;> simp only [Oper.upon]
    case value u=>
     obtain ⟨x,rfl,⟨g2,rfl⟩,hx⟩:=hr
     exact h _ true _ _ ⟨⟨g1.trans g2,rfl⟩,⟨x,hA x,hx⟩⟩ hK
    case enter f args=>
     obtain ⟨rfl,hc⟩:=hr
     exact hc.mono fun e w'' ⟨x,he,⟨g2,hg⟩,hx⟩=>by
      subst he
      subst hg
      exact h _ true _ _ ⟨⟨g1.trans g2,rfl⟩,⟨x,hA x,hx⟩⟩ hK
   | halt x w'=>simp only [] at hr
  | skips=>
   have hwant:=hi N
   rw [hN] at hwant
   simp only [hwant,Bool.false_eq_true,if_false]
   exact h _ _ _ _ (hw.next hp ⟨_,Below.refl _ _⟩ rfl rfl o.dst undef (fun _ _=>rfl)) hK
  | yields v=>
   obtain ⟨hwant,hv⟩:=hi N
   rw [hN] at hwant hv
   simp only [hwant,if_true]
   refine .inl ?_
   have h3:=hv g1
   rw [← e1] at h3
   unfold Oper.growAt at h3
   unfold Oper.wp
   generalize (execOp a.eval o).run P w1=r at *
   cases r with
   | ok n w'=>
    cases n <;> simp only [Oper.growUpon] at h3 <;> simp only [Oper.upon]
    case value u=>
     obtain ⟨e1,e2⟩:=h3
     rw [e1,e2]
     exact h _ _ _ _ (hw.next hp ⟨_,Below.refl _ _⟩ rfl rfl o.dst v (fun _ _=>rfl)) hK
    case skip=>
     obtain ⟨e1,e2⟩:=h3
     rw [e1,← e2]
     exact h _ _ _ _ (hw.next hp ⟨_,Below.refl _ _⟩ rfl rfl o.dst v (fun _ _=>rfl)) hK
    case enter f args=>
     obtain ⟨e1,hc⟩:=h3
     rw [e1]
     exact hc.mono fun e w'' ⟨he,g2,hg⟩=>by
      subst he
      exact h _ _ _ _ (hw.next hp g2 hg rfl o.dst v (fun _ _=>rfl)) hK
   | halt x w'=>simp only [Oper.growUpon] at h3
  | reads v=>
   have hwant:=(hi N).1
   rw [hN] at hwant
   have hv:∀ M,A M=a→Oper.readUpon w1 (v M) ((execOp a.eval o).run P w1):=fun M hM=>by
    have h3:=(hi M).2 g1
    rw [← e1,hM] at h3
    exact h3
   simp only [hwant,if_true]
   refine .inl ?_
   unfold Oper.wp
   generalize (execOp a.eval o).run P w1=r at *
   have h3:=hv N hN
   cases r with
   | ok n w'=>
    cases n <;> simp only [Oper.readUpon] at h3 hv <;> simp only [Oper.upon]
    case value u=>
     rw [h3.1]
     exact h _ _ _ _ (hw.next hp ⟨_,Below.refl _ _⟩ rfl (d:=.reads v) (mk:=mk) rfl o.dst u (fun M hM=>(hv M hM).2.symm)) hK
    case skip=>
     rw [h3.1]
     exact h _ _ _ _ (hw.next hp ⟨_,Below.refl _ _⟩ rfl (d:=.reads v) (mk:=mk) rfl o.dst undef (fun M hM=>(hv M hM).2)) hK
   | halt x w'=>simp only [Oper.readUpon] at h3
def wpAnyG (P:Program) (md:Region.Mode) (ops:Array Oper) (w:World) (k:Nat) (mk:α→Value) (ob:α→World→Prop) (n:Nat) (L:Array Bool→(α→Act)→Bool→Prop):Nat→Array Bool→(α→Act)→Bool→Prop
 | 0,listed,A,s=>L listed A s
 | f + 1,listed,A,s=>
  Region.ready md ops listed ≠ []∧∀ i ∈ Region.ready md ops listed,i < n∧gOp P ops w k mk ob i (wpAnyG P md ops w k mk ob n L f (listed.setIfInBounds i true)) A s
theorem wpAny_of_headG (d0:α) (hp:∀ x (w1:World) (g:Ext w1),ob x w1→ob x g.val) {n g:Nat} {L:Array Bool→(α→Act)→Bool→Prop} {Q':Exit→Act→World→Prop} (hkn:k < ops.size)
  (hL:∀ listed A s a w',Held w ob A s a w'→(s=true ↔ listed.getD k true=true)→L listed A s→wpAny P md ops Q' g listed a w'):
  ∀ (f:Nat) (listed:Array Bool) (A:α→Act) (s:Bool) (a:Act) (w':World),listed.size=ops.size→Held w ob A s a w'→(s=true ↔ listed.getD k true=true)→wpAnyG P md ops w k mk ob n L f listed A s→wpAny P md ops Q' (f + g) listed a w'
 | 0,listed,A,s,a,w',_,hw,hsk,h=>by rw [Nat.zero_add];exact hL _ _ _ _ _ hw hsk h
 | f + 1,listed,A,s,a,w',hz,hw,hsk,h=>by
  rw [show f + 1 + g=(f + g) + 1 by omega]
  refine ⟨fun h0=>absurd h0 h.1,fun i hi=>?_⟩
  have hun:=(mem_ready.1 hi).1
  refine wpOp_of_gOp d0 hp (k:=k) (mk:=mk) (A:=A) (s:=s) (K:=fun A' s'=>wpAnyG P md ops w k mk ob n L f (listed.setIfInBounds i true) A' s'∧(s'=true ↔ (listed.setIfInBounds i true).getD k true=true)) hw (fun e=>?_)
   (fun A' s' a' w2 hw' h'=>wpAny_of_headG d0 hp hkn hL f _ A' s' a' w2 (by simp [hz]) hw' h'.2 h'.1) ?_
  ·subst e
   cases s with
   | false=>rfl
   | true=>rw [hsk.1 rfl] at hun;cases hun
  ·have h2:=(h.2 i hi).2
   unfold gOp at *
   split
   ·rename_i ho
    simp only [ho] at h2
    refine ⟨h2,?_⟩
    by_cases e:i=k
    ·subst e
     have:ops[i]?=some ops[i]:=Array.getElem?_eq_getElem hkn
     rw [ho] at this
     cases this
    ·rw [getD_set_ne true e];exact hsk
   ·rename_i o ho
    simp only [ho] at h2
    obtain ⟨d,h3,h4,h5⟩:=h2
    refine ⟨d,h3,h4,h5,?_⟩
    by_cases e:i=k
    ·subst e
     rw [h3]
     simp
    ·rw [getD_set_ne true e,h3]
     simp only [e,decide_false,Bool.or_false]
     exact hsk
theorem Does.is_same {d:Does α} {o:Oper} {A A':α→Act} (hy:d.is P ops w mk ob o A) (he:∀ N,execOp (A' N).eval o=execOp (A N).eval o)
  (hw:∀ N,Region.wanted o (yielded ops (A' N).tmps)=Region.wanted o (yielded ops (A N).tmps)):d.is P ops w mk ob o A':=by
 cases d with
 | lays=>exact fun N=>⟨by rw [hw];exact (hy N).1,fun g=>by rw [he];exact (hy N).2 g⟩
 | skips=>exact fun N=>by rw [hw];exact hy N
 | yields v=>exact fun N=>⟨by rw [hw];exact (hy N).1,fun g=>by unfold Oper.growAt;rw [he];exact (hy N).2 g⟩
 | reads v=>exact fun N=>⟨by rw [hw];exact (hy N).1,fun g=>by unfold Oper.readAt;rw [he];exact (hy N).2 g⟩
theorem gOp_put {j:Nat} {oi oj:Oper} {d:Does α} (hj:ops[j]?=some oj) (hap:oi.apart ops oj=true)
  (hsi:∀ cs b,oi.op ≠ .select cs b) (hsj:∀ cs b,oj.op ≠ .select cs b) {K:(α→Act)→Bool→Prop} {A:α→Act} {s:Bool}
  (hy:d.is P ops w mk ob oi A) (h:gOp P ops w k mk ob j K (d.put mk oi.dst A) (s || d.isLay)):
  gOp P ops w k mk ob j (fun A' s'=>d.is P ops w mk ob oi A'∧K (d.put mk oi.dst A') (s' || d.isLay)) A s:=by
 obtain ⟨h1,h2,h3⟩:=Oper.apart_spec hap
 unfold gOp at *
 simp only [hj] at *
 obtain ⟨e,he1,he2,he3⟩:=h
 refine ⟨e,he1,Does.is_same he2 (fun N=>(execOp_put oj hsj (A N) oi.dst _ h1).symm) (fun N=>(wanted_put oj (A N) oi.dst _ h1).symm),?_,?_⟩
 ·exact Does.is_same hy (fun N=>execOp_put oi hsi (A N) oj.dst _ h3) (fun N=>wanted_put oi (A N) oj.dst _ h3)
 ·have ec:d.put mk oi.dst (e.put mk oj.dst A)=e.put mk oj.dst (d.put mk oi.dst A):=by
   funext N
   exact (Act.put_comm (A N) _ _ h2).symm
  rw [ec,Bool.or_assoc,Bool.or_comm e.isLay,← Bool.or_assoc]
  exact he3
theorem gOp_of {i:Nat} {o:Oper} {d:Does α} {A:α→Act} {s:Bool} {K:(α→Act)→Bool→Prop} (hi:ops[i]?=some o) (hk:d.isLay=decide (i=k)) (hy:d.is P ops w mk ob o A) (h:K (d.put mk o.dst A) (s || d.isLay)):gOp P ops w k mk ob i K A s:=by
 unfold gOp
 simp only [hi]
 exact ⟨d,hk,hy,h⟩
theorem wpAnyG_first {n i:Nat} {oi:Oper} {d:Does α} {L:Array Bool→(α→Act)→Bool→Prop} (hi:ops[i]?=some oi) (hsel:∀ (j:Nat) (o:Oper) cs b,ops[j]?=some o→o.op ≠ .select cs b)
  (hs:Region.sinkB md ops n=true) (hc:Region.chainB md ops n=true) (hn:n < ops.size) (hin:i < n) (hk:d.isLay=decide (i=k))
  (hdone:∀ listed A s,L listed A s→∀ j ∈ Region.ready md ops listed,n ≤ j):
  ∀ (f:Nat) (listed:Array Bool) (A:α→Act) (s:Bool),HeadInv md ops n listed→
   (∀ j oj,ops[j]?=some oj→j ≠ i→listed.getD j true=false→(∀ e ∈ oj.after,Region.binds md e=true→e.on ≠ i)→oi.apart ops oj=true)→
   i ∈ Region.ready md ops listed→d.is P ops w mk ob oi A→
   wpAnyG P md ops w k mk ob n L f (listed.setIfInBounds i true) (d.put mk oi.dst A) (s || d.isLay)→wpAnyG P md ops w k mk ob n L (f + 1) listed A s:=by
 intro f
 induction f with
 | zero=>
  intro listed A s inv _ hr hy H
  have hun:=(mem_ready.1 hr).1
  refine ⟨fun h=>(by rw [h] at hr;cases hr),fun j hj=>?_⟩
  have hjn:j < n:=by
   rcases Nat.lt_or_ge j n with h | h
   ·exact h
   ·exact absurd hj (tail_waits hs hc hn inv _ i rfl hin hun j h)
  refine ⟨hjn,?_⟩
  by_cases hji:j=i
  ·subst hji;exact gOp_of hi hk hy H
  ·have:=hdone _ _ _ H j (ready_mono hj hji)
   omega
 | succ f ih=>
  intro listed A s inv hfree hr hy H
  have hun:=(mem_ready.1 hr).1
  refine ⟨fun h=>(by rw [h] at hr;cases hr),fun j hj=>?_⟩
  have hjn:j < n:=by
   rcases Nat.lt_or_ge j n with h | h
   ·exact h
   ·exact absurd hj (tail_waits hs hc hn inv _ i rfl hin hun j h)
  refine ⟨hjn,?_⟩
  by_cases hji:j=i
  ·subst hji;exact gOp_of hi hk hy H
  ·have h1:=(H.2 j (ready_mono hj hji)).2
   obtain ⟨hjun,oj,hoj,hall⟩:=mem_ready.1 hj
   have hnot:∀ e ∈ oj.after,Region.binds md e=true→e.on ≠ i:=fun e he hb heq=>by
    have h1:=hall e he hb
    rw [heq,getD_both hun] at h1
    cases h1
   have h2:=gOp_put hoj (hfree j oj hoj hji hjun hnot) (fun cs b=>hsel i oi cs b hi) (fun cs b=>hsel j oj cs b hoj) hy h1
   have hfree':∀ k ok,ops[k]?=some ok→k ≠ i→(listed.setIfInBounds j true).getD k true=false→
     (∀ e ∈ ok.after,Region.binds md e=true→e.on ≠ i)→oi.apart ops ok=true:=fun k ok hk hki hun hno=>by
    refine hfree k ok hk hki ?_ hno
    by_cases hjk:j=k
    ·subst hjk;exact hjun
    ·rw [getD_set_ne true hjk] at hun;exact hun
   refine gOp_mono (fun A' s' h3=>ih (listed.setIfInBounds j true) A' s' (inv.set hj hjn) hfree' (ready_mono hr (Ne.symm hji)) h3.1 ?_) h2
   rw [Array.setIfInBounds_comm _ _ hji]
   exact h3.2
def wpGrow (P:Program) (ops:Array Oper) (w:World) (k:Nat) (mk:α→Value) (ob:α→World→Prop) (Q:(α→Act)→Prop):Nat→List Oper→(α→Act)→Prop
 | _,[],A=>Q A
 | i,o :: rest,A=>∃ d:Does α,d.isLay=decide (i=k)∧d.is P ops w mk ob o A∧wpGrow P ops w k mk ob Q (i + 1) rest (d.put mk o.dst A)
theorem wpAnyG_lex {n g:Nat} {Lq:(α→Act)→Prop} (hsel:Region.noSelect ops=true) (hs:Region.sinkB md ops n=true) (hc:Region.chainB md ops n=true) (hn:n < ops.size) (hkn:k < n):
  ∀ (l:List Oper) (q:Nat) (listed:Array Bool) (A:α→Act) (s:Bool),(∀ j,j < l.length→l[j]?=ops[q + j]?)→q + l.length=n→HeadInv md ops n listed→s=decide (k < q)→
  Region.lexHead md ops g l.length q listed=true→wpGrow P ops w k mk ob Lq q l A→
  wpAnyG P md ops w k mk ob n (fun listed' A' s'=>Region.seqB md ops g n listed'=true∧s'=true∧Lq A') l.length listed A s
 | [],q,listed,A,s,_,hk,inv,hsq,hB,h=>by
  have:q=n:=by simpa using hk
  subst this
  exact ⟨by simpa [Region.lexHead] using hB,by rw [hsq];simpa using hkn,h⟩
 | o :: l,q,listed,A,s,hl,hk,inv,hsq,hB,h=>by
  have h0:ops[q]?=some o:=by simpa using (hl 0 (by simp)).symm
  simp only [List.length_cons,Region.lexHead,Bool.and_eq_true] at hB
  obtain ⟨⟨hr,hf⟩,hB'⟩:=hB
  have hkn':q < n:=by simp only [List.length_cons] at hk;omega
  have hr':q ∈ Region.ready md ops listed:=by simpa using hr
  obtain ⟨d,hd,hy,hK⟩:=h
  refine wpAnyG_first h0 (Region.noSelect_spec hsel) hs hc hn hkn' hd (fun listed' A' _ hL=>seqB_ready hL.1) l.length listed A s inv (Region.free_spec h0 hf) hr' hy
   (wpAnyG_lex hsel hs hc hn hkn l (q + 1) _ _ _ (fun j hj=>by have:=hl (j + 1) (by simp;omega);simpa [Nat.add_assoc,Nat.add_comm 1 j] using this) (by simp only [List.length_cons] at hk;omega) (inv.set hr' hkn') ?_ hB' hK)
  rw [hsq,hd]
  by_cases e1:k < q
  ·simp [e1,show k < q + 1 by omega]
  ·by_cases e2:q=k
   ·subst e2;simp
   ·simp [e1,e2,show ¬ k < q + 1 by omega]
theorem grow_step {Q:(α→Act)→Prop} {i:Nat} {o:Oper} {rest:List Oper} {A:α→Act} (hik:decide (i=k)=false)
  (h:∀ K:(α→Act)→Prop,(∀ A',wpGrow P ops w k mk ob Q (i + 1) rest A'→K A')→
   ∃ v,(∀ N,Region.wanted o (yielded ops (A N).tmps)=true)∧(∀ N (g:Ext w),Oper.growAt P o (A N) g.val v)∧K (fun N=>(A N).put o.dst v)):wpGrow P ops w k mk ob Q i (o :: rest) A:=by
 obtain ⟨v,h1,h2,h3⟩:=h _ (fun _ h=>h)
 exact ⟨.yields v,hik.symm,fun N=>⟨h1 N,h2 N⟩,h3⟩
theorem grow_read {Q:(α→Act)→Prop} {i:Nat} {o:Oper} {rest:List Oper} {A:α→Act} (hik:decide (i=k)=false) (v:α→Value) (h1:∀ N,Region.wanted o (yielded ops (A N).tmps)=true)
  (h2:∀ N (g:Ext w),Oper.readAt P o (A N) g.val (v N))
  (h:wpGrow P ops w k mk ob Q (i + 1) rest (fun N=>(A N).put o.dst (v N))):wpGrow P ops w k mk ob Q i (o :: rest) A:=⟨.reads v,hik.symm,fun N=>⟨h1 N,h2 N⟩,h⟩
theorem grow_lay {Q:(α→Act)→Prop} {i:Nat} {o:Oper} {rest:List Oper} {A:α→Act} (hik:decide (i=k)=true) (h1:∀ N,Region.wanted o (yielded ops (A N).tmps)=true)
  (h2:∀ N (g:Ext w),Oper.makesUpon P g.val mk ob ((execOp (A N).eval o).run P g.val))
  (h:wpGrow P ops w k mk ob Q (i + 1) rest (fun N=>(A N).put o.dst (mk N))):wpGrow P ops w k mk ob Q i (o :: rest) A:=⟨.lays,hik.symm,fun N=>⟨h1 N,h2 N⟩,h⟩
attribute [go_sem] Oper.growAt Oper.growUpon Oper.readAt Oper.readUpon
end
end Mk
end Go.Proofs.YthjgiamfaijoeaaGreatDoor
