/- What is proved: parts of the walk and of the plain law. No condition but those each law names. -/
import Derived.Test.YthjgiamfaijoeaaGreatDoorD17
import Derived.Test.YthjgiamfaijoeaaGreatDoorD00
set_option linter.unusedSimpArgs false
set_option linter.unusedVariables false
set_option maxRecDepth 100000
namespace Go.Proofs.YthjgiamfaijoeaaGreatDoor
open Go.RowKit
namespace Ls
open Mk (Oper.growUpon Oper.growAt Oper.makesUpon Oper.readUpon Oper.readAt)
def upd {β:Type} (E:Nat→β) (i:Nat) (x:β):Nat→β:=fun j=>if j=i then x else E j
theorem upd_at {β:Type} (E:Nat→β) (i:Nat) (x:β):upd E i x i=x:=if_pos rfl
theorem upd_ne {β:Type} (E:Nat→β) {i j:Nat} (x:β) (h:j ≠ i):upd E i x j=E j:=if_neg h
section
variable {β:Type} {P:Program} {ops:Array Oper} {md:Region.Mode} {w:World} {K:Nat→Bool} {mk:Nat→β→Value} {ob:Nat→β→World→Prop}
def zrg (md:Region.Mode) (K:Nat→Bool) (ob:Nat→β→World→Prop) (o:Oper) (E:Nat→β) (w1:World):Prop:=∀ e ∈ o.after,Region.binds md e=true→K e.on=true→ob e.on (E e.on) w1
inductive Does (β:Type) where
 | lays
 | skips
 | yields (v:Value)
 | reads (v:(Nat→β)→Value)
def Does.is (d:Does β) (P:Program) (md:Region.Mode) (ops:Array Oper) (w:World) (K:Nat→Bool) (mk:Nat→β→Value) (ob:Nat→β→World→Prop) (i:Nat) (o:Oper) (A:(Nat→β)→Act):Prop:=
 match d with
 | .lays=>∀ E,Region.wanted o (yielded ops (A E).tmps)=true∧∀ g:Ext w,zrg md K ob o E g.val→Oper.makesUpon P g.val (mk i) (ob i) ((execOp (A E).eval o).run P g.val)
 | .skips=>∀ E,Region.wanted o (yielded ops (A E).tmps)=false
 | .yields v=>∀ E,Region.wanted o (yielded ops (A E).tmps)=true∧∀ g:Ext w,zrg md K ob o E g.val→Oper.growAt P o (A E) g.val v
 | .reads v=>∀ E,Region.wanted o (yielded ops (A E).tmps)=true∧∀ g:Ext w,zrg md K ob o E g.val→Oper.readAt P o (A E) g.val (v E)
def Does.val (d:Does β) (mk:Nat→β→Value) (i:Nat) (E:Nat→β):Value:=
 match d with
 | .lays=>mk i (E i)
 | .skips=>undef
 | .yields v=>v
 | .reads v=>v E
def Does.put (d:Does β) (mk:Nat→β→Value) (i:Nat) (dst:Option Tmp) (A:(Nat→β)→Act):(Nat→β)→Act:=fun E=>(A E).put dst (d.val mk i E)
def Does.isLay:Does β→Bool
 | .lays=>true
 | _=>false
def gOp (P:Program) (md:Region.Mode) (ops:Array Oper) (w:World) (K:Nat→Bool) (mk:Nat→β→Value) (ob:Nat→β→World→Prop) (i:Nat) (k:((Nat→β)→Act)→Prop) (A:(Nat→β)→Act):Prop:=
 match ops[i]? with
 | none=>k A
 | some o=>∃ d:Does β,d.isLay=K i∧d.is P md ops w K mk ob i o A∧k (d.put mk i o.dst A)
theorem gOp_mono {i:Nat} {A:(Nat→β)→Act} {k k':((Nat→β)→Act)→Prop} (h:∀ A,k A→k' A) (hh:gOp P md ops w K mk ob i k A):gOp P md ops w K mk ob i k' A:=by
 unfold gOp at *
 split
 ·rename_i ho;simp only [ho] at hh;exact h _ hh
 ·rename_i o ho
  simp only [ho] at hh
  obtain ⟨d,h1,h2,h3⟩:=hh
  exact ⟨d,h1,h2,h _ h3⟩
def Held (w:World) (K:Nat→Bool) (ob:Nat→β→World→Prop) (s:Nat→Bool) (A:(Nat→β)→Act) (a:Act) (w':World):Prop:=
 (∃ g:Ext w,w'=g.val)∧∃ E:Nat→β,(∀ E',(∀ i,s i=true→E' i=E i)→A E'=a)∧∀ i,K i=true→s i=true→ob i (E i) w'
theorem is_fn {o:Oper} {a:Act} {w1:World} {u v:Value} (h1:Oper.readAt P o a w1 u) (h2:Oper.readAt P o a w1 v):u=v:=by
 unfold Mk.Oper.readAt at h1 h2
 generalize (execOp a.eval o).run P w1=r at *
 cases r with
 | ok n w'=>
  cases n <;> simp only [Mk.Oper.readUpon] at h1 h2
  ·exact h1.2.symm.trans h2.2
  ·exact h1.2.trans h2.2.symm
 | halt x w'=>simp only [Mk.Oper.readUpon] at h1
def mark (s:Nat→Bool) (i:Nat):Nat→Bool:=fun j=>s j || decide (j=i)
theorem Held.next (hp:∀ i x (w1:World) (g:Ext w1),ob i x w1→ob i x g.val) {s:Nat→Bool} {i:Nat} {A:(Nat→β)→Act} {a:Act} {w1 w2:World} {d:Does β} {dst:Option Tmp} {v:Value} {E:Nat→β} (hg:∃ g:Ext w,w1=g.val)
  (hA:∀ E',(∀ i,s i=true→E' i=E i)→A E'=a) (hob:∀ i,K i=true→s i=true→ob i (E i) w1) (g:Ext w1) (e:w2=g.val) (hK:K i=false) (hv:∀ E',(∀ i,s i=true→E' i=E i)→d.val mk i E'=v):
  Held w K ob (mark s i) (d.put mk i dst A) (a.put dst v) w2:=by
 obtain ⟨g1,rfl⟩:=hg
 subst e
 refine ⟨⟨g1.trans g,rfl⟩,E,fun E' h=>?_,fun j hj hs=>?_⟩
 ·have h':∀ i,s i=true→E' i=E i:=fun i hi=>h i (by unfold mark;rw [hi];rfl)
  unfold Does.put
  rw [hA E' h',hv E' h']
 ·unfold mark at hs
  have hji:j ≠ i:=fun e=>by rw [e,hK] at hj;cases hj
  have:s j=true:=by simpa [hji] using hs
  exact hp j _ _ g (hob j hj this)
theorem wpOp_of_gOp (hp:∀ i x (w1:World) (g:Ext w1),ob i x w1→ob i x g.val) {i:Nat} {s:Nat→Bool} {A:(Nat→β)→Act} {a:Act} {k:((Nat→β)→Act)→Prop} {k':Act→World→Prop} {Q':Exit→Act→World→Prop} {w1:World} (hw:Held w K ob s A a w1) (hun:s i=false)
  (hready:∀ o,ops[i]?=some o→∀ e ∈ o.after,Region.binds md e=true→s e.on=true)
  (h:∀ A a w',ops[i]?.isSome=true→Held w K ob (mark s i) A a w'→k A→k' a w') (h0:ops[i]? ≠ none) (hh:gOp P md ops w K mk ob i k A):wpOp P ops Q' i k' a w1:=by
 unfold gOp at hh
 unfold wpOp
 split
 ·rename_i ho;exact absurd ho h0
 ·rename_i o ho
  simp only [ho] at hh
  obtain ⟨d,hd,hi,hK⟩:=hh
  obtain ⟨hg,E,hA,hob⟩:=hw
  have hAE:A E=a:=hA E fun _ _=>rfl
  obtain ⟨g1,e1⟩:=id hg
  have hkn:∀ E',(∀ i,s i=true→E' i=E i)→zrg md K ob o E' w1:=fun E' hE' e he hb hk=>by
   have:=hready o ho e he hb
   rw [hE' _ this]
   exact hob _ hk this
  have hsome:ops[i]?.isSome=true:=by rw [ho];rfl
  cases d with
  | lays=>
   obtain ⟨hwant,hl⟩:=hi E
   rw [hAE] at hwant hl
   simp only [hwant,if_true]
   refine .inl ?_
   unfold Oper.wp
   have hr:=hl g1 (by rw [← e1];exact hkn E fun _ _=>rfl)
   rw [← e1] at hr
   generalize (execOp a.eval o).run P w1=r at *
   have fin:∀ x (w2:World) (g2:Ext w1),w2=g2.val→ob i x w2→Held w K ob (mark s i) (Does.put .lays mk i o.dst A) (a.put o.dst (mk i x)) w2:=fun x w2 g2 e2 hx=>by
    subst e2
    subst e1
    refine ⟨⟨g1.trans g2,rfl⟩,upd E i x,fun E' h'=>?_,fun j hj hs=>?_⟩
    ·have h1:∀ j,s j=true→E' j=E j:=fun j hj=>by
      have hji:j ≠ i:=fun e=>by rw [e,hun] at hj;cases hj
      rw [h' j (by unfold mark;rw [hj];rfl),upd_ne E x hji]
     have h2:E' i=x:=by rw [h' i (by unfold mark;simp),upd_at]
     unfold Does.put
     rw [hA E' h1]
     show a.put o.dst (mk i (E' i))=_
     rw [h2]
    ·by_cases hji:j=i
     ·subst hji;rw [upd_at];exact hx
     ·rw [upd_ne E x hji]
      exact hp j _ _ g2 (hob j hj (by unfold mark at hs;simpa [hji] using hs))
   unfold Mk.Oper.makesUpon at hr
   cases r with
   | ok n w'=>
    cases n <;> simp only [] at hr <;> simp only [Oper.upon]
    case value u=>
     obtain ⟨x,rfl,⟨g2,e2⟩,hx⟩:=hr
     exact h _ _ _ hsome (fin x _ g2 e2 hx) hK
    case enter f args=>
     obtain ⟨rfl,hc⟩:=hr
     exact hc.mono fun e w'' ⟨x,he,⟨g2,e2⟩,hx⟩=>by
      subst he
      exact h _ _ _ hsome (fin x _ g2 e2 hx) hK
   | halt x w'=>simp only [] at hr
  | skips=>
   have hwant:=hi E
   rw [hAE] at hwant
   simp only [hwant,Bool.false_eq_true,if_false]
   refine h _ _ _ hsome (Held.next hp hg hA hob ⟨_,Below.refl _ _⟩ rfl (d:=.skips) hd.symm (v:=undef) fun _ _=>rfl) hK
  | yields v=>
   obtain ⟨hwant,hl⟩:=hi E
   rw [hAE] at hwant hl
   simp only [hwant,if_true]
   refine .inl ?_
   unfold Oper.wp
   have hr:=hl g1 (by rw [← e1];exact hkn E fun _ _=>rfl)
   rw [← e1] at hr
   unfold Mk.Oper.growAt at hr
   generalize (execOp a.eval o).run P w1=r at *
   cases r with
   | ok n w'=>
    cases n <;> simp only [Mk.Oper.growUpon] at hr <;> simp only [Oper.upon]
    case value u=>
     obtain ⟨rfl,rfl⟩:=hr
     exact h _ _ _ hsome (Held.next hp hg hA hob ⟨_,Below.refl _ _⟩ rfl (d:=.yields u) hd.symm (v:=u) fun _ _=>rfl) hK
    case skip=>
     obtain ⟨rfl,rfl⟩:=hr
     exact h _ _ _ hsome (Held.next hp hg hA hob ⟨_,Below.refl _ _⟩ rfl (d:=.yields undef) hd.symm (v:=undef) fun _ _=>rfl) hK
    case enter f args=>
     obtain ⟨rfl,hc⟩:=hr
     exact hc.mono fun e w'' ⟨he,g2,e2⟩=>by
      subst he
      exact h _ _ _ hsome (Held.next hp hg hA hob g2 e2 (d:=.yields v) hd.symm (v:=v) fun _ _=>rfl) hK
   | halt x w'=>simp only [Mk.Oper.growUpon] at hr
  | reads v=>
   have hrd:∀ E',(∀ i,s i=true→E' i=E i)→Oper.readAt P o a w1 (v E'):=fun E' hE'=>by
    have:=(hi E').2 g1 (by rw [← e1];exact hkn E' hE')
    rw [hA E' hE',← e1] at this
    exact this
   have hwant:=(hi E).1
   rw [hAE] at hwant
   have hval:∀ E',(∀ i,s i=true→E' i=E i)→(Does.reads v).val mk i E'=v E:=fun E' hE'=>is_fn (hrd E' hE') (hrd E fun _ _=>rfl)
   have hr:=hrd E fun _ _=>rfl
   simp only [hwant,if_true]
   refine .inl ?_
   unfold Oper.wp
   unfold Mk.Oper.readAt at hr
   generalize (execOp a.eval o).run P w1=r at *
   cases r with
   | ok n w'=>
    cases n <;> simp only [Mk.Oper.readUpon] at hr <;> simp only [Oper.upon]
    case value u=>
     obtain ⟨rfl,hu⟩:=hr
     rw [hu]
     exact h _ _ _ hsome (Held.next hp hg hA hob ⟨_,Below.refl _ _⟩ rfl (d:=.reads v) hd.symm hval) hK
    case skip=>
     obtain ⟨rfl,hu⟩:=hr
     rw [← hu]
     exact h _ _ _ hsome (Held.next hp hg hA hob ⟨_,Below.refl _ _⟩ rfl (d:=.reads v) hd.symm hval) hK
   | halt x w'=>simp only [Mk.Oper.readUpon] at hr
def wpAnyG (P:Program) (md:Region.Mode) (ops:Array Oper) (w:World) (K:Nat→Bool) (mk:Nat→β→Value) (ob:Nat→β→World→Prop) (n:Nat) (L:Array Bool→((Nat→β)→Act)→Prop):Nat→Array Bool→((Nat→β)→Act)→Prop
 | 0,listed,A=>L listed A
 | f + 1,listed,A=>
  Region.ready md ops listed ≠ []∧∀ i ∈ Region.ready md ops listed,i < n∧gOp P md ops w K mk ob i (wpAnyG P md ops w K mk ob n L f (listed.setIfInBounds i true)) A
def done (listed:Array Bool):Nat→Bool:=fun i=>listed.getD i false
theorem zpi (listed:Array Bool) (i:Nat) (hi:i < listed.size):done (listed.setIfInBounds i true)=mark (done listed) i:=by
 funext j
 unfold done mark
 by_cases h:j=i
 ·subst h
  simp [hi]
 ·rw [getD_set_ne false (Ne.symm h)]
  simp [h]
theorem wpAny_of_headG (hp:∀ i x (w1:World) (g:Ext w1),ob i x w1→ob i x g.val) {n g:Nat} {L:Array Bool→((Nat→β)→Act)→Prop} {Q':Exit→Act→World→Prop}
  (hL:∀ listed A a w',listed.size=ops.size→Held w K ob (done listed) A a w'→L listed A→wpAny P md ops Q' g listed a w'):
  ∀ (f:Nat) (listed:Array Bool) (A:(Nat→β)→Act) (a:Act) (w':World),listed.size=ops.size→Held w K ob (done listed) A a w'→wpAnyG P md ops w K mk ob n L f listed A→wpAny P md ops Q' (f + g) listed a w'
 | 0,listed,A,a,w',hz,hw,h=>by rw [Nat.zero_add];exact hL _ _ _ _ hz hw h
 | f + 1,listed,A,a,w',hz,hw,h=>by
  rw [show f + 1 + g=(f + g) + 1 by omega]
  refine ⟨fun h0=>absurd h0 h.1,fun i hi=>?_⟩
  obtain ⟨hun,oi,hoi,hall⟩:=mem_ready.1 hi
  have hil:i < listed.size:=by rw [hz];exact (zadu hoi).1
  refine wpOp_of_gOp (md:=md) hp hw (getD_both hun) (fun o ho e he hb=>?_) (fun A' a' w2 _ hw' h'=>wpAny_of_headG hp hL f _ A' a' w2 (by simp [hz]) (by rw [zpi _ _ hil];exact hw') h') (by rw [hoi];simp) (h.2 i hi).2
  rw [hoi] at ho
  cases ho
  exact hall e he hb
theorem Does.is_same {d:Does β} {i:Nat} {o:Oper} {A A':(Nat→β)→Act} (hy:d.is P md ops w K mk ob i o A) (he:∀ E,execOp (A' E).eval o=execOp (A E).eval o)
  (hw:∀ E,Region.wanted o (yielded ops (A' E).tmps)=Region.wanted o (yielded ops (A E).tmps)):d.is P md ops w K mk ob i o A':=by
 cases d with
 | lays=>exact fun E=>⟨by rw [hw];exact (hy E).1,fun g h=>by rw [he];exact (hy E).2 g h⟩
 | skips=>exact fun E=>by rw [hw];exact hy E
 | yields v=>exact fun E=>⟨by rw [hw];exact (hy E).1,fun g h=>by unfold Mk.Oper.growAt;rw [he];exact (hy E).2 g h⟩
 | reads v=>exact fun E=>⟨by rw [hw];exact (hy E).1,fun g h=>by unfold Mk.Oper.readAt;rw [he];exact (hy E).2 g h⟩
theorem gOp_put {i j:Nat} {oi oj:Oper} {d:Does β} (hj:ops[j]?=some oj) (hap:oi.apart ops oj=true)
  (hsi:∀ cs b,oi.op ≠ .select cs b) (hsj:∀ cs b,oj.op ≠ .select cs b) {k:((Nat→β)→Act)→Prop} {A:(Nat→β)→Act}
  (hy:d.is P md ops w K mk ob i oi A) (h:gOp P md ops w K mk ob j k (d.put mk i oi.dst A)):
  gOp P md ops w K mk ob j (fun A'=>d.is P md ops w K mk ob i oi A'∧k (d.put mk i oi.dst A')) A:=by
 obtain ⟨h1,h2,h3⟩:=Oper.apart_spec hap
 unfold gOp at *
 simp only [hj] at *
 obtain ⟨e,he1,he2,he3⟩:=h
 refine ⟨e,he1,Does.is_same he2 (fun N=>(execOp_put oj hsj (A N) oi.dst _ h1).symm) (fun N=>(wanted_put oj (A N) oi.dst _ h1).symm),?_,?_⟩
 ·exact Does.is_same hy (fun N=>execOp_put oi hsi (A N) oj.dst _ h3) (fun N=>wanted_put oi (A N) oj.dst _ h3)
 ·have ec:d.put mk i oi.dst (e.put mk j oj.dst A)=e.put mk j oj.dst (d.put mk i oi.dst A):=by
   funext N
   exact (Act.put_comm (A N) _ _ h2).symm
  rw [ec]
  exact he3
theorem gOp_of {i:Nat} {o:Oper} {d:Does β} {A:(Nat→β)→Act} {k:((Nat→β)→Act)→Prop} (hi:ops[i]?=some o) (hk:d.isLay=K i) (hy:d.is P md ops w K mk ob i o A) (h:k (d.put mk i o.dst A)):gOp P md ops w K mk ob i k A:=by
 unfold gOp
 simp only [hi]
 exact ⟨d,hk,hy,h⟩
def Cuts (md:Region.Mode) (ops:Array Oper) (n:Nat):Prop:=n=ops.size ∨ (n < ops.size∧Region.sinkB md ops n=true∧Region.chainB md ops n=true)
theorem Cuts.wait {n i j:Nat} {listed:Array Bool} (hc:Cuts md ops n) (inv:HeadInv md ops n listed) (hin:i < n) (hun:listed.getD i true=false) (hj:j ∈ Region.ready md ops listed):j < n:=by
 rcases hc with rfl | ⟨hn,hs,hc⟩
 ·obtain ⟨_,oj,hoj,_⟩:=mem_ready.1 hj
  exact (zadu hoj).1
 ·rcases Nat.lt_or_ge j n with h | h
  ·exact h
  ·exact absurd hj (tail_waits hs hc hn inv _ i rfl hin hun j h)
theorem wpAnyG_first {n i:Nat} {oi:Oper} {d:Does β} {L:Array Bool→((Nat→β)→Act)→Prop} (hi:ops[i]?=some oi) (hsel:∀ (j:Nat) (o:Oper) cs b,ops[j]?=some o→o.op ≠ .select cs b)
  (hcut:Cuts md ops n) (hin:i < n) (hk:d.isLay=K i)
  (hdone:∀ listed A,L listed A→∀ j ∈ Region.ready md ops listed,n ≤ j):
  ∀ (f:Nat) (listed:Array Bool) (A:(Nat→β)→Act),HeadInv md ops n listed→
   (∀ j oj,ops[j]?=some oj→j ≠ i→listed.getD j true=false→(∀ e ∈ oj.after,Region.binds md e=true→e.on ≠ i)→oi.apart ops oj=true)→
   i ∈ Region.ready md ops listed→d.is P md ops w K mk ob i oi A→
   wpAnyG P md ops w K mk ob n L f (listed.setIfInBounds i true) (d.put mk i oi.dst A)→wpAnyG P md ops w K mk ob n L (f + 1) listed A:=by
 intro f
 induction f with
 | zero=>
  intro listed A inv _ hr hy H
  have hun:=(mem_ready.1 hr).1
  refine ⟨fun h=>(by rw [h] at hr;cases hr),fun j hj=>?_⟩
  have hjn:j < n:=hcut.wait inv hin hun hj
  refine ⟨hjn,?_⟩
  by_cases hji:j=i
  ·subst hji;exact gOp_of hi hk hy H
  ·have:=hdone _ _ H j (ready_mono hj hji)
   omega
 | succ f ih=>
  intro listed A inv hfree hr hy H
  have hun:=(mem_ready.1 hr).1
  refine ⟨fun h=>(by rw [h] at hr;cases hr),fun j hj=>?_⟩
  have hjn:j < n:=hcut.wait inv hin hun hj
  refine ⟨hjn,?_⟩
  by_cases hji:j=i
  ·subst hji;exact gOp_of hi hk hy H
  ·have h1:=(H.2 j (ready_mono hj hji)).2
   obtain ⟨hjun,oj,hoj,hall⟩:=mem_ready.1 hj
   have hnot:∀ e ∈ oj.after,Region.binds md e=true→e.on ≠ i:=fun e he hb heq=>by
    have h1:=hall e he hb
    rw [heq,getD_both hun] at h1
    cases h1
   have h2:=gOp_put hoj (hfree j oj hoj hji hjun hnot) (fun cs b=>hsel i oi cs b hi) (fun cs b=>hsel j oj cs b hoj) hy h1
   have hfree':∀ k ok,ops[k]?=some ok→k ≠ i→(listed.setIfInBounds j true).getD k true=false→
     (∀ e ∈ ok.after,Region.binds md e=true→e.on ≠ i)→oi.apart ops ok=true:=fun k ok hk hki hun hno=>by
    refine hfree k ok hk hki ?_ hno
    by_cases hjk:j=k
    ·subst hjk;exact hjun
    ·rw [getD_set_ne true hjk] at hun;exact hun
   refine gOp_mono (fun A' h3=>ih (listed.setIfInBounds j true) A' (inv.set hj hjn) hfree' (ready_mono hr (Ne.symm hji)) h3.1 ?_) h2
   rw [Array.setIfInBounds_comm _ _ hji]
   exact h3.2
def wpGrow (P:Program) (md:Region.Mode) (ops:Array Oper) (w:World) (K:Nat→Bool) (mk:Nat→β→Value) (ob:Nat→β→World→Prop) (Q:((Nat→β)→Act)→Prop):Nat→List Oper→((Nat→β)→Act)→Prop
 | _,[],A=>Q A
 | i,o :: rest,A=>∃ d:Does β,d.isLay=K i∧d.is P md ops w K mk ob i o A∧wpGrow P md ops w K mk ob Q (i + 1) rest (d.put mk i o.dst A)
theorem wpAnyG_lex {n g:Nat} {Lq:((Nat→β)→Act)→Prop} (hsel:Region.noSelect ops=true) (hcut:Cuts md ops n):
  ∀ (l:List Oper) (q:Nat) (listed:Array Bool) (A:(Nat→β)→Act),(∀ j,j < l.length→l[j]?=ops[q + j]?)→q + l.length=n→HeadInv md ops n listed→(∀ j,j < q→done listed j=true)→
  Region.lexHead md ops g l.length q listed=true→wpGrow P md ops w K mk ob Lq q l A→
  wpAnyG P md ops w K mk ob n (fun listed' A'=>Region.seqB md ops g n listed'=true∧(∀ j,j < n→done listed' j=true)∧Lq A') l.length listed A
 | [],q,listed,A,_,hk,inv,hsq,hB,h=>by
  have:q=n:=by simpa using hk
  subst this
  exact ⟨by simpa [Region.lexHead] using hB,hsq,h⟩
 | o :: l,q,listed,A,hl,hk,inv,hsq,hB,h=>by
  have h0:ops[q]?=some o:=by simpa using (hl 0 (by simp)).symm
  simp only [List.length_cons,Region.lexHead,Bool.and_eq_true] at hB
  obtain ⟨⟨hr,hf⟩,hB'⟩:=hB
  have hkn':q < n:=by simp only [List.length_cons] at hk;omega
  have hr':q ∈ Region.ready md ops listed:=by simpa using hr
  obtain ⟨d,hd,hy,hK⟩:=h
  have hql:q < listed.size:=by rw [inv.size];exact (zadu h0).1
  refine wpAnyG_first h0 (Region.noSelect_spec hsel) hcut hkn' hd (fun listed' A' hL=>seqB_ready hL.1) l.length listed A inv (Region.free_spec h0 hf) hr' hy
   (wpAnyG_lex hsel hcut l (q + 1) _ _ (fun j hj=>by have:=hl (j + 1) (by simp;omega);simpa [Nat.add_assoc,Nat.add_comm 1 j] using this) (by simp only [List.length_cons] at hk;omega) (inv.set hr' hkn') (fun j hj=>?_) hB' hK)
  rw [zpi _ _ hql]
  unfold mark
  by_cases e:j=q
  ·simp [e]
  ·rw [hsq j (by omega)];rfl
def headB (md:Region.Mode) (ops:Array Oper) (n:Nat):Bool:=
 Region.noSelect ops && (decide (n=ops.size) || (decide (n < ops.size) && Region.sinkB md ops n && Region.chainB md ops n)) && Region.lexHead md ops (ops.size - n) n 0 (Array.replicate ops.size false)
theorem wp_region_lays [Nonempty β] (hp:∀ i x (w1:World) (g:Ext w1),ob i x w1→ob i x g.val) {id:Nat} {Q:Exit→Act→World→Prop} {a:Act} {l:List Oper} (n:Nat) (hm:P.follows .mixedOrders=true) (hB:headB .any l.toArray n=true)
  (h:wpGrow P .any l.toArray w K mk ob (fun A=>∀ E w',(∀ i,i < n→K i=true→ob i (E i) w')→(∃ g:Ext w,w'=g.val)→wpList P l.toArray Q (l.drop n) (A E) w') 0 (l.take n) (fun _=>a)):(Code.region id l.toArray true).wp P Q a w:=by
 simp only [headB,Bool.and_eq_true,Bool.or_eq_true,decide_eq_true_eq] at hB
 obtain ⟨⟨hsel,hc⟩,hlex⟩:=hB
 have hcut:Cuts .any l.toArray n:=by
  rcases hc with h | ⟨⟨h1,h2⟩,h3⟩
  ·exact .inl h
  ·exact .inr ⟨h1,h2,h3⟩
 have hn':n ≤ l.length:=by
  rcases hcut with h | ⟨h,_⟩
  ·rw [h];simp
  ·have:n < l.length:=by simpa using h
   omega
 have htl:(l.take n).length=n:=by simp;omega
 have hdl:(l.drop n).length=l.toArray.size - n:=by simp
 have inv0:HeadInv .any l.toArray n (Array.replicate l.toArray.size false):=
  ⟨by simp,fun j oj _ hl=>(by rw [getD_replicate_false] at hl;cases hl),fun t _ ht=>getD_in (by simpa using ht) (getD_replicate_false _ _)⟩
 have H:=wpAnyG_lex (md:=.any) (g:=l.toArray.size - n) hsel hcut (l.take n) 0 _ (fun _=>a) (fun j hj=>by
  have hj':j < n:=by rw [htl] at hj;exact hj
  simp [hj']) (by simpa using htl) inv0 (fun j hj=>absurd hj (by omega)) (by rw [htl];exact hlex) h
 refine wp_region_any hm ?_
 have e0:∀ j,done (Array.replicate l.toArray.size false) j=false:=fun j=>getD_replicate_false _ _
 have:=wpAny_of_headG hp (Q':=Q) (g:=l.toArray.size - n) (ob:=ob) (fun listed A a' w' hz hw' hL=>by
  obtain ⟨hseq,hs1,hL3⟩:=hL
  obtain ⟨hg,E,hA,hob⟩:=hw'
  have:=wpAny_of_seq (P:=P) (ops:=l.toArray) (md:=.any) (Q':=Q) (l.drop n) n listed a' w' (fun j=>by simp [List.getElem?_drop]) (by rw [hdl];exact hseq) (by rw [← hA E fun _ _=>rfl];exact hL3 E w' (fun i hi hk=>hob i hk (hs1 i hi)) hg)
  rwa [hdl] at this) _ _ _ a { w with drawn:=w.drawn + 1 } (by simp) ⟨⟨⟨_,(Below.refl _ w).drew⟩,rfl⟩,fun _=>Classical.choice inferInstance,fun E' _=>rfl,fun i _ hs=>by rw [e0] at hs;cases hs⟩ H
 rw [htl,show n + (l.toArray.size - n)=l.toArray.size by simp;omega] at this
 exact this
theorem grow_step {Q:((Nat→β)→Act)→Prop} {i:Nat} {o:Oper} {rest:List Oper} {A:(Nat→β)→Act} (hik:K i=false)
  (h:∀ k:((Nat→β)→Act)→Prop,(∀ A',wpGrow P md ops w K mk ob Q (i + 1) rest A'→k A')→
   ∃ v,(∀ E,Region.wanted o (yielded ops (A E).tmps)=true)∧(∀ E (g:Ext w),Mk.Oper.growAt P o (A E) g.val v)∧k (fun E=>(A E).put o.dst v)):wpGrow P md ops w K mk ob Q i (o :: rest) A:=by
 obtain ⟨v,h1,h2,h3⟩:=h _ (fun _ h=>h)
 exact ⟨.yields v,hik.symm,fun E=>⟨h1 E,fun g _=>h2 E g⟩,h3⟩
theorem grow_read {Q:((Nat→β)→Act)→Prop} {i:Nat} {o:Oper} {rest:List Oper} {A:(Nat→β)→Act} (hik:K i=false) (v:(Nat→β)→Value) (h1:∀ E,Region.wanted o (yielded ops (A E).tmps)=true)
  (h2:∀ E (g:Ext w),zrg md K ob o E g.val→Mk.Oper.readAt P o (A E) g.val (v E))
  (h:wpGrow P md ops w K mk ob Q (i + 1) rest (fun E=>(A E).put o.dst (v E))):wpGrow P md ops w K mk ob Q i (o :: rest) A:=⟨.reads v,hik.symm,fun E=>⟨h1 E,h2 E⟩,h⟩
theorem grow_lay {Q:((Nat→β)→Act)→Prop} {i:Nat} {o:Oper} {rest:List Oper} {A:(Nat→β)→Act} (hik:K i=true) (h1:∀ E,Region.wanted o (yielded ops (A E).tmps)=true)
  (h2:∀ E (g:Ext w),zrg md K ob o E g.val→Mk.Oper.makesUpon P g.val (mk i) (ob i) ((execOp (A E).eval o).run P g.val))
  (h:wpGrow P md ops w K mk ob Q (i + 1) rest (fun E=>(A E).put o.dst (mk i (E i)))):wpGrow P md ops w K mk ob Q i (o :: rest) A:=⟨.lays,hik.symm,fun E=>⟨h1 E,h2 E⟩,h⟩
end
end Ls
end Go.Proofs.YthjgiamfaijoeaaGreatDoor
