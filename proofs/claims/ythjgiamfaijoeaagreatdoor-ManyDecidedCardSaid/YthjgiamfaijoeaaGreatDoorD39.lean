/- What is proved: parts of the walk and of the plain law. No condition but those each law names. -/
import Derived.Test.YthjgiamfaijoeaaGreatDoorD38
import Derived.Test.YthjgiamfaijoeaaGreatDoorD31
import Derived.Test.YthjgiamfaijoeaaGreatDoorD20
import Derived.Test.YthjgiamfaijoeaaGreatDoorD00
set_option linter.unusedSimpArgs false
set_option linter.unusedVariables false
set_option maxRecDepth 100000
namespace Go.Proofs.YthjgiamfaijoeaaGreatDoor
open Go.RowKit
section
def Gr (B B':List (Int × Sw)):Prop:=∀ k s,getA B k=some s→∃ s',getA B' k=some s'∧s'.d=s.d
theorem Gr.refl (B:List (Int × Sw)):Gr B B:=fun _ s h=>⟨s,h,rfl⟩
theorem Gr.trans {B B1 B2:List (Int × Sw)} (h:Gr B B1) (k:Gr B1 B2):Gr B B2:=fun i s hs=>by
 obtain ⟨s1,h1,e1⟩:=h i s hs
 obtain ⟨s2,h2,e2⟩:=k i s1 h1
 exact ⟨s2,h2,e2.trans e1⟩
theorem Gr.adds {B B':List (Int × Sw)} {a:It} (h:Adds B a B'):Gr B B':=by
 intro k s hs
 cases h with
 | dl h1 h2 h3 h4=>
  refine ⟨s,?_,rfl⟩
  rw [za7,if_neg (fun e=>by rw [e,h3] at hs;cases hs)]
  exact hs
 | se h1 h2 h3 h4=>
  rename_i i u d
  by_cases e:k=i
  ·subst e
   rw [h3] at hs
   cases hs
   exact ⟨ze0 d u,by rw [za7,if_pos rfl],rfl⟩
  ·exact ⟨s,by rw [za7,if_neg e];exact hs,rfl⟩
theorem Gr.run {B B':List (Int × Sw)} {L:List It} (h:Run B L B'):Gr B B':=by
 induction h with
 | nil=>exact .refl _
 | cons h _ ih=>exact (Gr.adds h).trans ih
def DOk (N:Nat) (xs:Nat→Nod) (n:Nat) (d:Dl):Prop:=∃ m:Nat,1 ≤ m∧m ≤ N∧m ≠ n∧d.q=m∧(d.r=2→∃ s',getA (xs m).B d.i=some s'∧s'.d=⟨d.i,1,d.g,d.p,d.h,n⟩)
structure NodOk (N:Nat) (xs:Nat→Nod) (n:Nat):Prop where
 words:Words (xs n).told
 book:∀ k s,getA (xs n).B k=some s→s.d.i=k∧DOk N xs n s.d
 pend:∀ d,(xs n).fell=some (.dl d)→DOk N xs n d
 told:∀ k c,getA (xs n).told k=some (zbd 2 c)→∃ s,∃ m:Nat,∃ s2,getA (xs n).B k=some s∧s.d.r=1∧s.d.q=m∧1 ≤ m∧m ≤ N∧getA (xs m).B k=some s2∧s2.d.r=2∧s2.d.q=n
inductive LetOk (N:Nat) (xs:Nat→Nod):Int × Int × List Nat→Prop
 | prop {a b:Nat} {dd:Dl} {s:Sw} (ha:1 ≤ a∧a ≤ N) (hb:1 ≤ b∧b ≤ N) (hab:a ≠ b) (h:getA (xs a).B dd.i=some s) (hd:s.d=dd) (r:dd.r=1) (q:dd.q=b) (ok:errD dd=0) (sm:Small dd.h.l):LetOk N xs ((a:Int),(b:Int),zbi (zax dd))
 | acc {a b:Nat} {dd:Dl} {s s2:Sw} (ha:1 ≤ a∧a ≤ N) (hb:1 ≤ b∧b ≤ N) (hab:a ≠ b) (h:getA (xs a).B dd.i=some s) (hd:s.d=dd) (r:dd.r=1) (q:dd.q=b) (h2:getA (xs b).B dd.i=some s2) (hd2:s2.d=zau dd a) (ok:za5 (zau dd a)=true) (sm:Small dd.h.l):LetOk N xs ((b:Int),(a:Int),zbi (zbg (zau dd a)))
 | ref {a b:Nat} {i cd:Int} {s:Sw} (ha:1 ≤ a∧a ≤ N) (hb:1 ≤ b∧b ≤ N) (hab:a ≠ b) (h:getA (xs a).B i=some s) (r:s.d.r=1) (q:s.d.q=b) (hi:1 ≤ i∧i ≤ 1073741824) (hc:1 ≤ cd∧cd ≤ 24):LetOk N xs ((b:Int),(a:Int),putC i cd)
structure Inv (N:Nat) (xs:Nat→Nod) (ls:List (Int × Int × List Nat)):Prop where
 node:∀ n,1 ≤ n→n ≤ N→NodOk N xs n
 lets:∀ x ∈ ls,LetOk N xs x
section
variable {N:Nat} {xs xs':Nat→Nod} {ls ls':List (Int × Int × List Nat)}
theorem DOk.gr {n:Nat} {d:Dl} (h:DOk N xs n d) (g:∀ m,Gr (xs m).B (xs' m).B):DOk N xs' n d:=by
 obtain ⟨m,m1,m2,m3,q,k⟩:=h
 refine ⟨m,m1,m2,m3,q,fun r=>?_⟩
 obtain ⟨s,h1,h2⟩:=k r
 obtain ⟨s',h3,h4⟩:=g m _ _ h1
 exact ⟨s',h3,h4.trans h2⟩
theorem LetOk.gr {x:Int × Int × List Nat} (h:LetOk N xs x) (g:∀ m,Gr (xs m).B (xs' m).B):LetOk N xs' x:=by
 cases h with
 | prop ha hb hab h hd r q ok sm=>
  obtain ⟨s',h3,h4⟩:=g _ _ _ h
  exact .prop ha hb hab h3 (h4.trans hd) r q ok sm
 | acc ha hb hab h hd r q h2 hd2 ok sm=>
  obtain ⟨s',h3,h4⟩:=g _ _ _ h
  obtain ⟨t',h5,h6⟩:=g _ _ _ h2
  exact .acc ha hb hab h3 (h4.trans hd) r q h5 (h6.trans hd2) ok sm
 | ref ha hb hab h r q hi hc=>
  obtain ⟨s',h3,h4⟩:=g _ _ _ h
  exact .ref ha hb hab h3 (by rw [h4];exact r) (by rw [h4];exact q) hi hc
theorem NodOk.gr {n:Nat} (h:NodOk N xs n) (g:∀ m,Gr (xs m).B (xs' m).B) (e:xs' n=xs n):NodOk N xs' n:=by
 refine ⟨by rw [e];exact h.words,fun k s hs=>?_,fun d hd=>?_,fun k c hk=>?_⟩
 ·rw [e] at hs
  exact ⟨(h.book k s hs).1,(h.book k s hs).2.gr g⟩
 ·rw [e] at hd
  exact (h.pend d hd).gr g
 ·rw [e] at hk
  obtain ⟨s,m,s2,h1,h2,h3,h4,h5,h6,h7,h8⟩:=h.told k c hk
  obtain ⟨s2',h9,h10⟩:=g m _ _ h6
  exact ⟨s,m,s2',by rw [e];exact h1,h2,h3,h4,h5,h9,by rw [h10];exact h7,by rw [h10];exact h8⟩
theorem Gr.upd {a:Nat} {y:Nod} (g:Gr (xs a).B y.B):∀ m,Gr (xs m).B (upd xs a y m).B:=fun m=>by
 by_cases e:m=a
 ·subst e;rw [upd_at];exact g
 ·rw [upd_ne _ _ e];exact .refl _
theorem Inv.upd (h:Inv N xs ls) {a:Nat} {y:Nod} (g:Gr (xs a).B y.B) (ok:1 ≤ a→a ≤ N→NodOk N (upd xs a y) a):Inv N (upd xs a y) ls:=
 ⟨fun n h1 h2=>by
  by_cases e:n=a
  ·subst e;exact ok h1 h2
  ·exact (h.node n h1 h2).gr (Gr.upd g) (upd_ne _ _ e),fun x hx=>(h.lets x hx).gr (Gr.upd g)⟩
theorem Inv.sub (h:Inv N xs ls) (k:∀ x ∈ ls',x ∈ ls):Inv N xs ls':=⟨h.node,fun x hx=>h.lets x (k x hx)⟩
theorem Inv.erase (h:Inv N xs ls) (k:Nat):Inv N xs (ls.eraseIdx k):=h.sub fun _ hx=>List.mem_of_mem_eraseIdx hx
theorem Inv.snoc (h:Inv N xs ls) {x:Int × Int × List Nat} (hx:LetOk N xs x):Inv N xs (ls ++ [x]):=⟨h.node,fun y hy=>by
 rcases List.mem_append.1 hy with hy | hy
 ·exact h.lets y hy
 ·rw [List.mem_singleton.1 hy];exact hx⟩
theorem Inv.calm (h:Inv N xs ls) (a:Nat) (v:Bool):Inv N (Go.Proofs.YthjgiamfaijoeaaGreatDoor.upd xs a { xs a with calm:=v }) ls:=by
 refine h.upd (.refl _) fun h1 h2=>?_
 have k:=h.node a h1 h2
 have g:=Gr.upd (xs:=xs) (a:=a) (y:={ xs a with calm:=v }) (.refl _)
 refine ⟨by rw [upd_at];exact k.words,fun i s hs=>?_,fun d hd=>?_,fun i c hi=>?_⟩
 ·rw [upd_at] at hs
  exact ⟨(k.book i s hs).1,(k.book i s hs).2.gr g⟩
 ·rw [upd_at] at hd
  exact (k.pend d hd).gr g
 ·rw [upd_at] at hi ⊢
  obtain ⟨s,m,s2,h1,h2,h3,h4,h5,h6,h7,h8⟩:=k.told i c hi
  obtain ⟨s2',h9,h10⟩:=g m _ _ h6
  exact ⟨s,m,s2',h1,h2,h3,h4,h5,h9,by rw [h10];exact h7,by rw [h10];exact h8⟩
theorem Inv.grow (h:Inv N xs ls) {a:Nat} {L:List It} {B:List (Int × Sw)} {f:Option It} {cm:Bool} {t:List (Int × Value)} (g:Gr (xs a).B B)
  (hw:Words t) (ht:∀ i c,getA t i=some (zbd 2 c)→getA (xs a).told i=some (zbd 2 c))
  (hn:∀ k s,getA B k=some s→(∃ s0,getA (xs a).B k=some s0∧s.d=s0.d) ∨ (s.d.i=k∧DOk N xs a s.d))
  (hf:∀ d,f=some (.dl d)→DOk N xs a d):Inv N (Go.Proofs.YthjgiamfaijoeaaGreatDoor.upd xs a ⟨(xs a).sd,L,B,f,cm,t⟩) ls:=by
 refine h.upd g fun h1 h2=>?_
 have k:=h.node a h1 h2
 have g:=Gr.upd (xs:=xs) (a:=a) (y:=⟨(xs a).sd,L,B,f,cm,t⟩) g
 refine ⟨by rw [upd_at];exact hw,fun i s hs=>?_,fun d hd=>?_,fun i c hi=>?_⟩
 ·rw [upd_at] at hs
  rcases hn i s hs with ⟨s0,e1,e2⟩ | ⟨e1,e2⟩
  ·rw [e2]
   exact ⟨(k.book i s0 e1).1,(k.book i s0 e1).2.gr g⟩
  ·exact ⟨e1,e2.gr g⟩
 ·rw [upd_at] at hd
  exact (hf d hd).gr g
 ·rw [upd_at] at hi
  obtain ⟨s,m,s2,h1,h2,h3,h4,h5,h6,h7,h8⟩:=k.told i c (ht i c hi)
  obtain ⟨s1,h11,h12⟩:=g a _ _ h1
  obtain ⟨s2',h9,h10⟩:=g m _ _ h6
  exact ⟨s1,m,s2',h11,by rw [h12];exact h2,by rw [h12];exact h3,h4,h5,h9,by rw [h10];exact h7,by rw [h10];exact h8⟩
theorem Inv.hears (h:Inv N xs ls) {a:Nat} {t:List (Int × Value)} (hw:Words t)
  (ht:∀ i c,getA t i=some (zbd 2 c)→getA (xs a).told i=some (zbd 2 c) ∨ ∃ s,∃ m:Nat,∃ s2,getA (xs a).B i=some s∧s.d.r=1∧s.d.q=m∧1 ≤ m∧m ≤ N∧getA (xs m).B i=some s2∧s2.d.r=2∧s2.d.q=a):Inv N (Go.Proofs.YthjgiamfaijoeaaGreatDoor.upd xs a { xs a with told:=t }) ls:=by
 refine h.upd (.refl _) fun h1 h2=>?_
 have k:=h.node a h1 h2
 have g:=Gr.upd (xs:=xs) (a:=a) (y:={ xs a with told:=t }) (.refl _)
 refine ⟨by rw [upd_at];exact hw,fun i s hs=>?_,fun d hd=>?_,fun i c hi=>?_⟩
 ·rw [upd_at] at hs
  exact ⟨(k.book i s hs).1,(k.book i s hs).2.gr g⟩
 ·rw [upd_at] at hd
  exact (k.pend d hd).gr g
 ·rw [upd_at] at hi
  obtain ⟨s,m,s2,h1,h2,h3,h4,h5,h6,h7,h8⟩:∃ s,∃ m:Nat,∃ s2,getA (xs a).B i=some s∧s.d.r=1∧s.d.q=m∧1 ≤ m∧m ≤ N∧getA (xs m).B i=some s2∧s2.d.r=2∧s2.d.q=a:=by
   rcases ht i c hi with q | q
   ·exact k.told i c q
   ·exact q
  obtain ⟨s1,h11,h12⟩:=g a _ _ h1
  obtain ⟨s2',h9,h10⟩:=g m _ _ h6
  exact ⟨s1,m,s2',h11,by rw [h12];exact h2,by rw [h12];exact h3,h4,h5,h9,by rw [h10];exact h7,by rw [h10];exact h8⟩
theorem zql {B B':List (Int × Sw)} {f:It} (h:Adds B f B') {k:Int} {s:Sw} (hs:getA B' k=some s):(∃ s0,getA B k=some s0∧s.d=s0.d) ∨ (f=.dl s.d∧s.d.i=k):=by
 cases h with
 | dl h1 h2 h3 h4=>
  rw [za7] at hs
  split at hs
  ·rename_i e
   cases hs
   exact .inr ⟨rfl,e.symm⟩
  ·exact .inl ⟨s,hs,rfl⟩
 | se h1 h2 h3 h4=>
  rename_i i u d
  rw [za7] at hs
  split at hs
  ·rename_i e
   cases hs
   subst e
   exact .inl ⟨_,h3,rfl⟩
  ·exact .inl ⟨s,hs,rfl⟩
theorem Inv.back (h:Inv N xs ls) {a:Nat} (h1:1 ≤ a) (h2:a ≤ N) {L:List It} {B:List (Int × Sw)} (hc:Came (xs a) L B):Inv N (Go.Proofs.YthjgiamfaijoeaaGreatDoor.upd xs a ⟨(xs a).sd,L,B,none,true,[]⟩) ls:=by
 have k:=h.node a h1 h2
 rcases hc with ⟨_,rfl⟩ | ⟨f,hf,_,ad⟩
 ·exact h.grow (.refl _) Words.nil (fun i c q=>by cases q) (fun i s hs=>.inl ⟨s,hs,rfl⟩) (fun d q=>by cases q)
 ·refine h.grow (Gr.adds ad) Words.nil (fun i c q=>by cases q) (fun i s hs=>?_) (fun d q=>by cases q)
  rcases zql ad hs with q | ⟨q1,q2⟩
  ·exact .inl q
  ·exact .inr ⟨q2,k.pend _ (by rw [hf,q1])⟩
theorem Inv.mirr (h:Inv N xs ls):Mirr N xs:=fun n h1 h2 k s hs hr=>by
 obtain ⟨e,m,m1,m2,m3,q,z⟩:=(h.node n h1 h2).book k s hs
 obtain ⟨s',h3,h4⟩:=z hr
 rw [e] at h3 h4
 exact ⟨m,m1,m2,q,s',h3,h4⟩
end
end
section
theorem zmx (sd:List Nat) (i b:Int) (p g:Lg) (n:Cl):(dealW sd i b p g n).i=i∧(dealW sd i b p g n).r=1∧(dealW sd i b p g n).q=b∧Small (dealW sd i b p g n).h.l:=by
 have e:=zip T26 ⟨i,1,p,g,sumH (secretH (sd ++ intI i)).l,b⟩ n
 have e2:(dealW sd i b p g n).h=sumH (secretH (sd ++ intI i)).l:=e.2
 exact ⟨e.1,rfl,rfl,by rw [e2];exact zew _⟩
theorem zjt {B:List (Int × Sw)} {i:Int} (h:zch B i=0):getA B i=none:=by
 unfold zch at h
 cases e:getA B i with
 | none=>rfl
 | some s=>rw [e] at h;simp at h
theorem zqm {sd:List Nat} {B:List (Int × Sw)} {i b:Int} {p g:Lg} {n:Cl} (h:zg0 sd B i b p g n=0):errD (dealW sd i b p g n)=0∧getA B i=none:=by
 unfold zg0 at h
 split at h
 ·rename_i q
  exact absurd h q
 ·rename_i q
  split at h
  ·cases h
  ·exact ⟨by simpa using q,zjt h⟩
theorem ziz {d:Dl} (h:errD d=0):za5 d=true:=by
 unfold errD at h
 split at h
 ·assumption
 ·cases h
theorem zku {d:Dl} (h:za5 d=true):1 ≤ d.i∧d.i ≤ 1073741824:=by
 unfold za5 at h
 rw [Bool.and_eq_true] at h
 have:=h.1
 unfold wi at this
 simp at this
 omega
section
variable {N:Nat} {xs:Nat→Nod} {ls:List (Int × Int × List Nat)} {a b:Nat} {i:Int} {p g:Lg} {now:Cl} {L:List It}
theorem zom (h:Inv N xs ls) (ha:1 ≤ a∧a ≤ N) (hb:1 ≤ b∧b ≤ N) (hab:a ≠ b) (hp:zg0 (xs a).sd (xs a).B i b p g now=0) {u:Hs}:
  Inv N (upd xs a { xs a with L:=L,B:=putA (xs a).B i (ze0 (dealW (xs a).sd i b p g now) u) }) (ls ++ [((a:Int),(b:Int),zbi (zax (dealW (xs a).sd i b p g now)))]):=by
 obtain ⟨he,hn⟩:=zqm hp
 obtain ⟨d1,d2,d3,d4⟩:=zmx (xs a).sd i b p g now
 have k:=h.node a ha.1 ha.2
 have g0:Gr (xs a).B (putA (xs a).B i (ze0 (dealW (xs a).sd i b p g now) u)):=fun k s hs=>⟨s,by rw [za7,if_neg (fun e=>by rw [e,hn] at hs;cases hs)];exact hs,rfl⟩
 have h2:Inv N (upd xs a ⟨(xs a).sd,L,putA (xs a).B i (ze0 (dealW (xs a).sd i b p g now) u),(xs a).fell,(xs a).calm,(xs a).told⟩) ls:=
  h.grow g0 k.words (fun _ _ q=>q) (fun j s hs=>by
   rw [za7] at hs
   split at hs
   ·rename_i e
    cases hs
    exact .inr ⟨d1.trans e.symm,b,hb.1,hb.2,Ne.symm hab,d3,fun r=>by rw [show (ze0 (dealW (xs a).sd i b p g now) u).d.r=1 from d2] at r;cases r⟩
   ·exact .inl ⟨s,hs,rfl⟩) k.pend
 refine h2.snoc (.prop (s:=ze0 (dealW (xs a).sd i b p g now) u) ha hb hab ?_ rfl d2 d3 he d4)
 rw [upd_at,d1]
 show getA (putA _ _ _) i=_
 rw [za7,if_pos rfl]
theorem zy8 (h:Inv N xs ls) (ha:1 ≤ a∧a ≤ N) (hb:1 ≤ b∧b ≤ N) (hab:a ≠ b) (hp:zg0 (xs a).sd (xs a).B i b p g now=0) {j:Nat} {f:It} {B':List (Int × Sw)} (hj:(zkt (xs a).sd i b p g now)[j]?=some f) (hr:Run (xs a).B ((zkt (xs a).sd i b p g now).take j) B'):
  Inv N (upd xs a { xs a with L:=L,B:=B',fell:=some f }) ls:=by
 obtain ⟨he,hn⟩:=zqm hp
 obtain ⟨d1,d2,d3,d4⟩:=zmx (xs a).sd i b p g now
 have k:=h.node a ha.1 ha.2
 have ok:DOk N xs a (dealW (xs a).sd i b p g now):=⟨b,hb.1,hb.2,Ne.symm hab,d3,fun r=>by rw [d2] at r;cases r⟩
 show Inv N (upd xs a ⟨(xs a).sd,L,B',some f,(xs a).calm,(xs a).told⟩) ls
 refine h.grow (Gr.run hr) k.words (fun _ _ q=>q) ?_ ?_
 ·unfold zkt at hj hr
  match j,hj with
  | 0,hj=>
   cases hr
   exact fun _ s hs=>.inl ⟨s,hs,rfl⟩
  | 1,hj=>
   have hr:Run (xs a).B [.dl (dealW (xs a).sd i b p g now)] B':=hr
   obtain ⟨B1,a1,a2⟩:=hr.head
   cases a2
   intro m s hs
   rcases zql a1 hs with q | ⟨q1,q2⟩
   ·exact .inl q
   ·injection q1 with q1
    exact .inr ⟨q2,by rw [← q1];exact ok⟩
  | j + 2,hj=>simp at hj
 ·intro d hd
  unfold zkt at hj
  match j,hj with
  | 0,hj=>
   cases hj
   cases hd
   exact ok
  | 1,hj=>
   cases hj
   cases hd
  | j + 2,hj=>simp at hj
theorem zmy {n:Nat} {dd:Dl} {s:Sw} (ha:1 ≤ a∧a ≤ N) (hab:a ≠ n) (h:getA (xs a).B dd.i=some s) (hd:s.d=dd) (r:dd.r=1) (q:dd.q=n):DOk N xs n (zau dd a):=
 ⟨a,ha.1,ha.2,hab,rfl,fun _=>⟨s,h,by
  rw [hd]
  obtain ⟨i,r',p,g,h,q'⟩:=dd
  subst r q
  rfl⟩⟩
theorem zqn (h:Inv N xs ls) (ha:1 ≤ a∧a ≤ N) (hb:1 ≤ b∧b ≤ N) (hab:a ≠ b) {dd:Dl} {s:Sw} (hs:getA (xs a).B dd.i=some s) (hd:s.d=dd) (r:dd.r=1) (q:dd.q=b) (sm:Small dd.h.l) {free:Int} (ht:zb6 T26 (xs b).B (zau dd a) now free=0) {k:Nat}:
  Inv N (upd xs b { xs b with L:=L,B:=putA (xs b).B dd.i (newS (zau dd a)) }) (ls.eraseIdx k ++ [((b:Int),(a:Int),zbi (zbg (zau dd a)))]):=by
 obtain ⟨hok,hro⟩:=zix ht
 have hn:getA (xs b).B dd.i=none:=zjt hro
 have kb:=h.node b hb.1 hb.2
 have g0:Gr (xs b).B (putA (xs b).B dd.i (newS (zau dd a))):=fun k s hs=>⟨s,by rw [za7,if_neg (fun e=>by rw [e,hn] at hs;cases hs)];exact hs,rfl⟩
 have h2:Inv N (upd xs b ⟨(xs b).sd,L,putA (xs b).B dd.i (newS (zau dd a)),(xs b).fell,(xs b).calm,(xs b).told⟩) ls:=
  h.grow g0 kb.words (fun _ _ q=>q) (fun j s' hs'=>by
   rw [za7] at hs'
   split at hs'
   ·rename_i e
    cases hs'
    exact .inr ⟨e.symm,zmy ha hab hs hd r q⟩
   ·exact .inl ⟨s',hs',rfl⟩) kb.pend
 refine (h2.erase k).snoc (.acc (s:=s) (s2:=newS (zau dd a)) ha hb hab ?_ hd r q ?_ rfl hok sm)
 ·rw [upd_ne _ _ hab];exact hs
 ·rw [upd_at]
  show getA (putA _ _ _) dd.i=_
  rw [za7,if_pos rfl]
theorem zvw (h:Inv N xs ls) (ha:1 ≤ a∧a ≤ N) (hb:1 ≤ b∧b ≤ N) (hab:a ≠ b) {dd:Dl} {s:Sw} (hs:getA (xs a).B dd.i=some s) (hd:s.d=dd) (r:dd.r=1) (q:dd.q=b) {k:Nat}:
  Inv N (upd xs b { xs b with fell:=some (.dl (zau dd a)) }) (ls.eraseIdx k):=by
 have kb:=h.node b hb.1 hb.2
 show Inv N (upd xs b ⟨(xs b).sd,(xs b).L,(xs b).B,some (.dl (zau dd a)),(xs b).calm,(xs b).told⟩) _
 refine (h.grow (.refl _) kb.words (fun _ _ q=>q) (fun j s' hs'=>.inl ⟨s',hs',rfl⟩) (fun d e=>?_)).erase k
 cases e
 exact zmy ha hab hs hd r q
theorem zqo (h:Inv N xs ls) (ha:1 ≤ a∧a ≤ N) (hb:1 ≤ b∧b ≤ N) (hab:a ≠ b) {dd:Dl} {s:Sw} (hs:getA (xs a).B dd.i=some s) (hd:s.d=dd) (r:dd.r=1) (q:dd.q=b) (ok:errD dd=0) {free:Int} (ht:zb6 T26 (xs b).B (zau dd a) now free ≠ 0) {k:Nat}:
  Inv N xs (ls.eraseIdx k ++ [((b:Int),(a:Int),putC dd.i (zb6 T26 (xs b).B (zau dd a) now free))]):=by
 have:=ziw (xs b).B (zau dd a) now free
 exact (h.erase k).snoc (.ref (s:=s) ha hb hab hs (by rw [hd];exact r) (by rw [hd];exact q) (zku (ziz ok)) (by omega))
theorem zi0 {k c k' c':Int} (h:zbd k c=zbd k' c'):k=k'∧c=c':=by
 simp [zbd] at h
 exact h
theorem zvx (h:Inv N xs ls) (ha:1 ≤ a∧a ≤ N) (hb:1 ≤ b∧b ≤ N) {dd:Dl} {s s2:Sw} (hs:getA (xs a).B dd.i=some s) (hd:s.d=dd) (r:dd.r=1) (q:dd.q=b) (h2:getA (xs b).B dd.i=some s2) (hd2:s2.d=zau dd a) {k:Nat}:
  Inv N (upd xs a { xs a with told:=putA (xs a).told dd.i (zbd 2 0) }) (ls.eraseIdx k):=by
 have ka:=h.node a ha.1 ha.2
 refine (h.hears (ka.words.put _ _ _) (fun i c hi=>?_)).erase k
 rw [za7] at hi
 split at hi
 ·rename_i e
  subst e
  exact .inr ⟨s,b,s2,hs,by rw [hd];exact r,by rw [hd];exact q,hb.1,hb.2,h2,by rw [hd2];rfl,by rw [hd2];rfl⟩
 ·exact .inl hi
theorem zvy (h:Inv N xs ls) (ha:1 ≤ a∧a ≤ N) {i cd:Int} {k:Nat}:
  Inv N (upd xs a { xs a with told:=zi8 (xs a).told i cd }) (ls.eraseIdx k):=by
 have ka:=h.node a ha.1 ha.2
 unfold zi8
 split
 ·refine (h.hears ka.words (fun i c hi=>.inl hi)).erase k
 ·refine (h.hears (ka.words.put _ _ _) (fun j c hj=>?_)).erase k
  rw [za7] at hj
  split at hj
  ·have:=(zi0 (Option.some.inj hj)).1
   omega
  ·exact .inl hj
end
end
section
open Sx (Ab DW Turns Did Foot MapIs)
attribute [local go_sem ↓] zad
attribute [local go_sem] zaf zai zaj zal zab zah zac zak zae zaw za2 Sx.run_mk Ext.row Ext.soft_
def lgP:Lg:=⟨1,216,0⟩
def lgG:Lg:=⟨0,200,0⟩
theorem lg_set (a b:Int):(Lg.zero.cells.setIfInBounds 0 (.int .i64 a)).setIfInBounds 1 (.int .i64 b)=Lg.cells ⟨a,b,0⟩:=rfl
attribute [local go_sem] lg_set
theorem zr9 {P:Program} {fn:Func} {p u:Tmp} {d:TypeDesc} {t:TypeId} {n:Nat} (hr:fn.results=#[.cell p t,.cell u t]) (hu:P.underlying t=some d) (hd:d.isRow=true) (hi:(P.info? t).map (·.size)=some n)
  (tmps:Array Value) (w:World) (b b2:Nat) (hp:tmps.getD p undef=.pointer (some ⟨b,0,none⟩)) (hq:tmps.getD u undef=.pointer (some ⟨b2,0,none⟩)) {cs cs2:Array Value} (hc:rowOf w b=cs) (hn:cs.size=n) (hc2:rowOf w b2=cs2) (hn2:cs2.size=n):
  (results fn tmps).run P w=.ok (.tuple #[.agg cs,.agg cs2]) w:=by
 have h1:=zhj t n hu hd hi w b 0 (by rw [hc];omega)
 have h2:=zhj t n hu hd hi w b2 0 (by rw [hc2];omega)
 have hp':tmps[p]?.getD undef=.pointer (some ⟨b,0,none⟩):=by simpa using hp
 have hq':tmps[u]?.getD undef=.pointer (some ⟨b2,0,none⟩):=by simpa using hq
 have e:sub (rowOf w b) 0 n=cs:=by rw [hc,← hn];simp [sub]
 have e2:sub (rowOf w b2) 0 n=cs2:=by rw [hc2,← hn2];simp [sub]
 rw [e] at h1
 rw [e2] at h2
 simp [results,hr,hp',hq',asAddr,h1,h2]
theorem zy9 (w:World):Calls Tryz.prog 28 #[] w fun e w'=>e=.returned (.tuple #[.agg lgP.cells,.agg lgG.cells])∧Below w.heap.size w w':=by
 go_enter Tryz.func28,Tryz.ntmps28
 go_wp2
 have b:=Bxs.new2 w Lg.zero.cells 30 Lg.zero.cells 30
 have s0:=b.soft' 0 rfl
 have s1:=b.soft' 1 rfl
 rw [Nat.add_zero] at s0
 have hz:=b.lt 1 rfl
 have b1:=Below.setRow_ (Below.setRow_ b.below (zadw _) lgP.cells) (Nat.le_succ _) lgG.cells
 have r0:rowOf ((((w.alloc (.cells Lg.zero.cells 30)).alloc (.cells Lg.zero.cells 30)).setRow w.heap.size lgP.cells).setRow (w.heap.size + 1) lgG.cells) w.heap.size=lgP.cells:=by
  rw [zab _ _ _ _ (by rw [zah];exact s1),if_neg (by omega),zab _ _ _ _ s0,if_pos rfl]
 have r1:rowOf ((((w.alloc (.cells Lg.zero.cells 30)).alloc (.cells Lg.zero.cells 30)).setRow w.heap.size lgP.cells).setRow (w.heap.size + 1) lgG.cells) (w.heap.size + 1)=lgG.cells:=by
  rw [zab _ _ _ _ (by rw [zah];exact s1),if_pos rfl]
 refine bodyPost_ret (zr9 (t:=30) rfl Tryz.underlying30 rfl (by kernel_rfl) _ _ w.heap.size (w.heap.size + 1) rfl rfl r0 rfl r1 rfl) rfl ?_
 exact ⟨rfl,b1⟩
theorem k_err (h:Hs):errD (zgf T26 ⟨7,1,lgP,lgG,h,2⟩ ⟨100,200,0⟩)=0:=by kernel_rfl
theorem k_tak (h:Hs):zdq T26 (zcw (zax (zgf T26 ⟨7,1,lgP,lgG,h,2⟩ ⟨100,200,0⟩)) 1) ⟨100,200,0⟩ 1000=0:=by kernel_rfl
theorem seven:I64 7:=⟨by decide,by decide⟩
def nod0 (sd:List Nat):Nod:=⟨sd,[],[],none,true,[]⟩
theorem Start.wx {w W:World} {S:MS} {N:Nat} (st:Start w W S N) (hF:Forms w) (hT:Tabs w):∃ sd:Nat→List Nat,WX ⟨S.u,S.wb,S.nb,N,[],S.cut⟩ W (fun j=>nod0 (sd j)) [] ⟨100,200,0⟩:=by
 have hex:∀ j,∃ sd:List Nat,1 ≤ j→j ≤ N→NI S j (nod0 sd):=fun j=>by
  by_cases h:1 ≤ j∧j ≤ N
  ·obtain ⟨n,D,q,m,r,cl⟩:=(st.fr j h.1 h.2).is
   obtain ⟨tb,t1,t2⟩:=q.tm
   have da:Dae W D:=st.mw.daAt q.ds
   have cm:=da.calm cl
   refine ⟨n.seed,fun _ _=>⟨n,D,tb,q.nd,q.at_,q.xv,t2,q.dv.symm,q.nt,rfl,q.t,q.seed,q.s0,q.sl,t1,by rw [m];rfl,.nil,fun _=>⟨q.ds,cm.on,by rw [r];rfl,fun _=>cm⟩,fun a e=>(by cases e)⟩⟩
  ·exact ⟨[],fun a b=>absurd ⟨a,b⟩ h⟩
 obtain ⟨sd,hsd⟩:=Classical.skolem.1 hex
 exact ⟨sd,S,⟨st.mw,rfl,rfl,rfl,st.nbx.symm,st.nodes,by unfold Nt.says;rw [st.L];rfl,st.now,hF.keep (zadw _) st.u,hT.keep (zadw _) st.u,st.at_,fun j a b=>hsd j a b,fun p hp=>(by cases hp),rfl⟩⟩
section
variable {c:Wd} {w w':World} {S S':MS} {xs:Nat→Nod} {ls ls':List (Int × Int × List Nat)} {now now':Cl}
theorem zqp (h:WX c w xs ls now) {k:Nat} {x:Int × Int × List Nat} (hk:ls[k]?=some x) (hx:x.2.2.length < 1000000) (hlen:ls.length < 1000):Calls Tryz.prog 30 #[.pointer (some ⟨c.nb,0,none⟩),.int .i64 k] w fun e w'=>e=.returned (.bool true)∧WX c w' xs (ls ++ [x]) now:=by
 obtain ⟨S,h⟩:=h
 obtain ⟨y,h1,h2,h3,h4⟩:=zgi (X:=S.X) (k:=k) (f:=x.1) (t:=x.2.1) (l:=x.2.2) (by rw [h.says];exact hk)
 have K:=zve h.mw.netAt (eq_false (by have:=h.len;omega)) h1 (by rw [h4];exact hx)
 rw [h.xnb] at K
 refine K.mono ?_
 rintro e w' ⟨rfl,X',t,s⟩
 have g:=h.mw.net t
 exact ⟨rfl,_,h.to0 g t.nb t.nodes (by rw [s,h.says,h2,h3,h4])⟩
end
structure Ex (sd:List Nat) (dd:Dl):Prop where
 eq:dealW sd 7 2 lgP lgG ⟨100,200,0⟩=dd
 ok:errD dd=0
 i:dd.i=7
 r:dd.r=1
 q:dd.q=2
 sm:Small dd.h.l
 hd:za5 (zau dd 1)=true
 tk:zdq T26 (zau dd 1) ⟨100,200,0⟩ 1000=0
theorem ex_of (sd:List Nat):Ex sd (dealW sd 7 2 lgP lgG ⟨100,200,0⟩):=by
 have tk:zdq T26 (zau (dealW sd 7 2 lgP lgG ⟨100,200,0⟩) 1) ⟨100,200,0⟩ 1000=0:=k_tak _
 exact ⟨rfl,k_err _,(zip _ _ _).1,rfl,rfl,by rw [show (dealW sd 7 2 lgP lgG ⟨100,200,0⟩).h=_ from (zip _ _ _).2];exact zew _,(zio tk).1,tk⟩
section
variable {sd:List Nat} {dd:Dl}
theorem Ex.prop (h:Ex sd dd):zg0 sd [] 7 2 lgP lgG ⟨100,200,0⟩=0:=by
 unfold zg0
 rw [h.eq,h.ok]
 rfl
theorem Ex.take (h:Ex sd dd) {B:List (Int × Sw)}:zb6 T26 B (zau dd 1) ⟨100,200,0⟩ 1000=zch B 7:=by
 unfold zb6
 rw [h.tk]
 show (if (0:Int) ≠ 0 then (0:Int) else zch B dd.i)=_
 rw [h.i]
 rfl
end
end
section
attribute [local go_sem ↓] zad
attribute [local go_sem] zaf zai zaj zal zab zah zac zak zae Ext.row Ext.soft_ zdb zit
set_option maxHeartbeats 1000000 in
theorem zza {w:World} {X:Nt} (h:NetAt w X) {k:Int} (k0:(k < 0)=True):Calls Tryz.prog 68 #[.pointer (some ⟨X.nb,0,none⟩),.int .i64 k] w fun e w'=>e=.returned (.tuple #[.agg #[.int .i64 0,.int .i64 0,.slice none 0 0],.bool false])∧Below w.heap.size w w':=by
 have H:=zadv h
 clear h
 go_enter Tryz.func68,Tryz.ntmps68
 go_upto_region 1 with (fail)
 have bx:=Bx.new w (#[.int .i64 0,.int .i64 0,.slice none 0 0]) 120;generalize w.alloc (.cells (#[.int .i64 0,.int .i64 0,.slice none 0 0]) 120)=W at bx ⊢;have rx:=bx.rowOf;have sx:=bx.soft;have BX:=zadv bx;clear bx
 have rn:=zaa (H.out.below BX.out.below).row
 rw [zbj] at rn
 have B:=Below.setRow_ BX.out.below (zadw w.heap.size) #[.int .i64 0,.int .i64 0,.slice none 0 0]
 have hc:rowOf (W.setRow w.heap.size #[.int .i64 0,.int .i64 0,.slice none 0 0]) w.heap.size=#[.int .i64 0,.int .i64 0,.slice none 0 0]:=(zab _ _ _ _ sx).trans (if_pos rfl)
 go_wp2
 rw [zr0 rx rfl]
 refine bodyPost_ret (zaq (t:=120) rfl Tryz.underlying120 rfl (by kernel_rfl) _ _ w.heap.size rfl hc rfl) rfl ?_
 exact ⟨rfl,B⟩
theorem zkv {w:World} {X:Nt} (h:NetAt w X) {k:Int} (hk:k < 0 ∨ (X.L.length:Int) ≤ k):Calls Tryz.prog 68 #[.pointer (some ⟨X.nb,0,none⟩),.int .i64 k] w fun e w'=>e=.returned (.tuple #[.agg #[.int .i64 0,.int .i64 0,.slice none 0 0],.bool false])∧Below w.heap.size w w':=by
 by_cases h0:k < 0
 ·exact zza h (eq_true h0)
 ·exact zacw h (eq_false h0) (eq_true (by rcases hk with q | q;exact absurd q h0;exact q))
set_option maxHeartbeats 4000000 in
theorem zon {w:World} {X:Nt} (h:NetAt w X) {k:Int} (hk:k < 0 ∨ (X.L.length:Int) ≤ k):Calls Tryz.prog 65 #[.pointer (some ⟨X.nb,0,none⟩),.int .i64 k] w fun e w'=>e=.returned (.tuple #[.agg #[.int .i64 0,.int .i64 0,.slice none 0 0],.bool false])∧Below w.heap.size w w':=by
 have H:=zadv h
 have E0:=zadv hk
 clear h hk
 go_enter Tryz.func65,Tryz.ntmps65
 go_upto_region 1 with (fail)
 have bx:=Bx.new w (#[.int .i64 0,.int .i64 0,.slice none 0 0]) 120;generalize w.alloc (.cells (#[.int .i64 0,.int .i64 0,.slice none 0 0]) 120)=W at bx ⊢;have rx:=bx.rowOf;have sx:=bx.soft;have BX:=zadv bx;clear bx
 have LK:=zadv (zkv (H.out.below BX.out.below) E0.out)
 go_wp2_with fail
 refine LK.out.mono ?_
 rintro _ V ⟨rfl,hb⟩
 have bx:=BX.out.step hb
 clear BX rx sx LK hb
 have BX:=zadv bx
 clear bx
 go_upto_region 2 with (fail)
 have L:=Bx.new V #[.int .i64 0,.int .i64 0,.slice none 0 0] 120
 generalize V.alloc (.cells #[.int .i64 0,.int .i64 0,.slice none 0 0] 120)=V2 at L ⊢
 have bx:=BX.out.step L.below
 have BT:=zadv (zr1 (w:=V2) (nb:=X.nb))
 have rl:=L.rowOf
 have BL:=zadv bx
 clear BX L bx
 go_wp2_with fail
 refine BT.out.mono ?_
 rintro _ V3 ⟨rfl,hb⟩
 have BM:=zadv (BL.out.step hb)
 clear BL BT rl hb
 go_upto_region 3 with (fail)
 have M:=Bx.new V3 #[.int .i64 0,.int .i64 0] 102
 generalize V3.alloc (.cells #[.int .i64 0,.int .i64 0] 102)=V4 at M ⊢
 have bx:=BM.out.step M.below
 clear BM M
 have BB:=zadv bx
 clear bx
 have O1:=zadv (fun w=>zp1 (zp6 (ad:=⟨X.nb,5,none⟩) w))
 (refine zaz (by kernel_rfl) (by kernel_rfl) ?_;(repeat (go_big_quiet_step (((go_at_call 69;exact Calls.ext_of (O1.out _))))));refine wpQuiet_nil ?_;rintro _ ⟨g,rfl⟩)
 have bx:=BB.out.step g.below
 have r0:=bx.rowOf
 have s0:=bx.soft
 have B8:=Below.setRow_ bx.below (zadw _) #[.int .i64 0,.int .i64 0,.slice none 0 0]
 generalize g.val=V5 at *
 have hc:rowOf (V5.setRow w.heap.size #[.int .i64 0,.int .i64 0,.slice none 0 0]) w.heap.size=#[.int .i64 0,.int .i64 0,.slice none 0 0]:=(zab _ _ _ _ s0).trans (if_pos rfl)
 have B8:=zadv B8
 clear bx
 go_wp2
 rw [zr0 r0 rfl]
 refine bodyPost_ret (zaq (t:=120) rfl Tryz.underlying120 rfl (by kernel_rfl) _ _ w.heap.size rfl hc rfl) rfl ?_
 exact ⟨rfl,B8.out⟩
set_option maxHeartbeats 4000000 in
theorem zoo {w:World} {X:Nt} (h:NetAt w X) {k:Nat} {x:Lt} (hk:X.L[k]?=some x) (hn:x.l.length < 1000000) (a1:(x.f ≥ 1)=True) (a2:(x.f ≤ X.nodes)=True) (b1:(x.t ≥ 1)=True) (b2:(x.t ≤ X.nodes)=True) (hab:(x.f != x.t)=true) (hct:X.cut (min x.f x.t) (max x.f x.t)=true):
  Calls Tryz.prog 65 #[.pointer (some ⟨X.nb,0,none⟩),.int .i64 k] w fun e w'=>e=.returned (.tuple #[.agg #[.int .i64 0,.int .i64 0,.slice none 0 0],.bool false])∧Below w.heap.size w w':=by
 have H:=zadv h
 have HK:=zadv hk
 have HN:=zadv hn
 have HB:=zadv (zadx a1 (zadx a2 (zadx b1 (zadx b2 (zadx hab hct)))))
 clear h hk hn a1 a2 b1 b2 hab
 go_enter Tryz.func65,Tryz.ntmps65
 go_upto_region 1 with (fail)
 have bx:=Bx.new w (#[.int .i64 0,.int .i64 0,.slice none 0 0]) 120;generalize w.alloc (.cells (#[.int .i64 0,.int .i64 0,.slice none 0 0]) 120)=W at bx ⊢;have rx:=bx.rowOf;have sx:=bx.soft;have BX:=zadv bx;clear bx
 have LK:=zadv (zkq (H.out.below BX.out.below) HK.out HN.out)
 go_wp2_with fail
 refine LK.out.mono ?_
 rintro _ V ⟨ao,c,rfl,hb,sl,fl⟩
 have bx:=BX.out.step hb
 clear BX rx sx LK hb sl fl
 have BX:=zadv bx
 clear bx
 go_upto_region 2 with (fail)
 have L:=Bx.new V #[.int .i64 x.f,.int .i64 x.t,.slice ao x.l.length c] 120
 generalize V.alloc (.cells #[.int .i64 x.f,.int .i64 x.t,.slice ao x.l.length c] 120)=V2 at L ⊢
 have bx:=BX.out.step L.below
 have BT:=zadv (zey (H.out.below bx.below) HB.out.1 HB.out.2.1 HB.out.2.2.1 HB.out.2.2.2.1 HB.out.2.2.2.2.1)
 have rl:=L.rowOf
 have BL:=zadv bx
 clear BX L bx
 go_wp2_with fail
 refine BT.out.mono ?_
 rintro _ V3 ⟨p,q,rfl,hpq,hb⟩
 have PQ:=zadv hpq
 clear hpq
 have BM:=zadv (BL.out.step hb)
 clear BL BT rl hb
 go_upto_region 3 with (fail)
 have M:=Bx.new V3 #[.int .i64 p,.int .i64 q] 102
 generalize V3.alloc (.cells #[.int .i64 p,.int .i64 q] 102)=V4 at M ⊢
 have bx:=BM.out.step M.below
 have h4:=H.out.below bx.below
 have rn:=zaa h4.row
 have sn:=zan h4.row
 rw [zbj] at rn
 have rm:=M.rowOf
 have lk:=zp5 (w:=V4.drew) (h4.cuts.keep rfl) p q
 rw [show X.cut p q=true by rw [PQ.out.1,PQ.out.2];exact HB.out.2.2.2.2.2] at lk
 clear BM M hct
 have BB:=zadv bx
 have O1:=zadv (zp6 (w:=V4.drew) (ad:=⟨X.nb,5,none⟩))
 clear bx h4
 go_region_held3 (fun w'=>(rowOf w' X.nb)[2]?=some (.map (some X.mc))∧rowOf w' V3.heap.size=#[.int .i64 p,.int .i64 q]) (first
  | exact ⟨by show (rowOf V4 X.nb)[2]?=_;rw [rn];rfl,rm⟩) (first
  | (go_at_call 69;refine O1.out.mono ?_;rintro _ V5 ⟨rfl,rfl⟩))
 have bx:=BB.out.step (Below.refl V4.heap.size V4).drew
 have r0:=bx.rowOf
 have s0:=bx.soft
 have B8:=Below.setRow_ bx.below (zadw _) #[.int .i64 0,.int .i64 0,.slice none 0 0]
 clear rn sn rm lk O1 BB
 generalize V4.drew=V5 at *
 have hc:rowOf (V5.setRow w.heap.size #[.int .i64 0,.int .i64 0,.slice none 0 0]) w.heap.size=#[.int .i64 0,.int .i64 0,.slice none 0 0]:=(zab _ _ _ _ s0).trans (if_pos rfl)
 have B8:=zadv B8
 clear bx
 go_wp2
 rw [zr0 r0 rfl]
 refine bodyPost_ret (zaq (t:=120) rfl Tryz.underlying120 rfl (by kernel_rfl) _ _ w.heap.size rfl hc rfl) rfl ?_
 exact ⟨rfl,B8.out⟩
set_option maxHeartbeats 2000000 in
theorem zsa {w:World} {X:Nt} (h:NetAt w X) {k:Int} (hk:k < 0 ∨ (X.L.length:Int) ≤ k):Calls Tryz.prog 30 #[.pointer (some ⟨X.nb,0,none⟩),.int .i64 k] w fun e w'=>e=.returned (.bool false)∧Below w.heap.size w w':=by
 have H:=zadv h
 have LK:=zadv (zkv h hk)
 clear h hk
 go_enter Tryz.func30,Tryz.ntmps30
 go_wp2_with fail
 refine LK.out.mono ?_
 rintro _ V ⟨rfl,hb⟩
 have HB:=zadv hb
 clear LK hb
 go_upto_region 2 with (fail)
 have L:=Bx.new V #[.int .i64 0,.int .i64 0,.slice none 0 0] 120
 generalize V.alloc (.cells #[.int .i64 0,.int .i64 0,.slice none 0 0] 120)=V2 at L ⊢
 have B3:=zadv (HB.out.trans (L.below.mono HB.out.size))
 have O1:=zadv (fun w=>zp1 (zp6 (ad:=⟨X.nb,4,none⟩) w))
 clear L HB
 (refine zaz (by kernel_rfl) (by kernel_rfl) ?_;(repeat (go_big_quiet_step (((go_at_call 69;exact Calls.ext_of (O1.out _))))));refine wpQuiet_nil ?_;rintro _ ⟨g,rfl⟩)
 go_wp2
 go_ret
 exact ⟨rfl,B3.out.trans (g.below.mono B3.out.size)⟩
set_option maxHeartbeats 2000000 in
theorem zzb {w:World} {X:Nt} (h:NetAt w X) {k:Int} (hk:k < 0 ∨ (X.L.length:Int) ≤ k):Calls Tryz.prog 32 #[.pointer (some ⟨X.nb,0,none⟩),.int .i64 k] w fun e w'=>e=.returned (.bool false)∧Below w.heap.size w w':=by
 have H:=zadv h
 have LK:=zadv (zkv h hk)
 clear h hk
 go_enter Tryz.func32,Tryz.ntmps32
 go_wp2_with fail
 refine LK.out.mono ?_
 rintro _ V ⟨rfl,hb⟩
 have HB:=zadv hb
 clear LK hb
 go_upto_region 2 with (fail)
 have L:=Bx.new V #[.int .i64 0,.int .i64 0,.slice none 0 0] 120
 generalize V.alloc (.cells #[.int .i64 0,.int .i64 0,.slice none 0 0] 120)=V2 at L ⊢
 have B3:=zadv (HB.out.trans (L.below.mono HB.out.size))
 have O1:=zadv (zp6 (w:=V2) (ad:=⟨X.nb,6,none⟩))
 clear L HB
 go_wp2_with (go_at_call 69;refine O1.out.mono ?_;rintro _ V5 ⟨rfl,rfl⟩)
 go_ret
 exact ⟨rfl,B3.out⟩
end
section
attribute [local go_sem ↓] zad
attribute [local go_sem] zaf zai zaj zal zab zah zac zak zae Ext.row Ext.soft_ zdb zit
set_option maxHeartbeats 4000000 in
theorem zadc {w:World} {X:Nt} (h:NetAt w X) {k:Nat} {x:Lt} (hk:X.L[k]?=some x) (hn:x.l.length < 1000000) (hlen:X.L.length ≤ 1000000):
  Calls Tryz.prog 32 #[.pointer (some ⟨X.nb,0,none⟩),.int .i64 k] w fun e w'=>e=.returned (.bool true)∧∃ X',NetTo w X w' X'∧X'.says=X.says.eraseIdx k:=by
 have H:=zadv h
 have HK:=zadv hk
 have HL:=zadv hlen
 have i1:(k:Int) < 1000000:=by have:=(List.getElem?_eq_some_iff.1 hk).1;omega
 have LK:=zadv (zkq h hk hn)
 clear h hk hn hlen
 go_enter Tryz.func32,Tryz.ntmps32
 go_wp2_with fail
 refine LK.out.mono ?_
 rintro _ V ⟨ao,c,rfl,hb,_,_⟩
 have HB:=zadv hb
 clear LK hb
 go_upto_region 2 with (fail)
 have L:=Bx.new V #[.int .i64 x.f,.int .i64 x.t,.slice ao x.l.length c] 120
 generalize V.alloc (.cells #[.int .i64 x.f,.int .i64 x.t,.slice ao x.l.length c] 120)=V4 at L ⊢
 have B4:=zadv (HB.out.trans (L.below.mono HB.out.size))
 have h4:=H.out.below B4.out
 have rn:=zaa h4.row
 have sn:=zan h4.row
 rw [zbj] at rn
 have O1:=zadv (zkp (k:=6) (x:=X.n4) rn sn rfl)
 have N5:=NetAt.cnt h4 (k:=6) (v:=.int .i64 (wrap64 (X.n4 + 1))) (a:=X.n1) (b:=X.n2) (c:=X.n3) (d:=wrap64 (X.n4 + 1)) rfl
 clear L HB h4
 go_upto_region 3 with (go_at_call 69;refine O1.out.mono ?_;rintro _ V5 ⟨rfl,rfl⟩)
 have T5:=(NetTo.below H.out B4.out).trans N5
 obtain ⟨g,cur,hra,_⟩:=H.out.at HK.out
 have kl:=(List.getElem?_eq_some_iff.1 HK.out).1
 generalize hX:({ X with n1:=X.n1,n2:=X.n2,n3:=X.n3,n4:=wrap64 (X.n4 + 1) }:Nt)=X1 at N5 T5
 have eX:X1.nb=X.nb∧X1.L=X.L∧X1.ra=X.ra∧X1.rc=X.rc∧X1.mc=X.mc∧X1.B=X.B:=by subst hX;exact ⟨rfl,rfl,rfl,rfl,rfl,rfl⟩
 have rn5:=zaa N5.at'.row
 have sn5:=zan N5.at'.row
 rw [zbj,eX.2.2.2.2.1] at rn5
 rw [eX.1] at rn5 sn5
 have T5:=zadv T5
 have EX:=zadv eX
 have NN5:=zadv N5.at'
 have KL:=zadv kl
 generalize V4.setCell ⟨X.nb,6,none⟩ (.int .i64 (wrap64 (X.n4 + 1)))=V5 at *
 rw [eX.2.2.1,eX.2.1,hra] at rn5
 have D:=zadv (zvb (w:=V5) (B:=X1.B) (g:=g) (rc:=X1.rc) (L:=X1.L) (i:=k) (by have:=NN5.out.own;rw [eX.2.2.1,hra] at this;exact this) (by rw [eX.2.1];exact kl) (by rw [eX.2.1];exact HL.out))
 clear N5 rn sn O1 eX kl
 go_wp2_with fail
 have D1:=D.out
 rw [EX.out.2.1,show (((k + 1:Nat):Int))=(k:Int) + 1 by omega] at D1
 clear D
 refine D1.mono ?_
 rintro _ W6 ⟨rfl,O6,C,rfl⟩
 obtain ⟨X2,N6,S6⟩:=zvf (w:=V5) (X:=X1) (k:=k) (g:=g) (C:=C) NN5.out (by rw [EX.out.2.1];exact KL.out) (by rw [EX.out.2.2.1];exact hra) (by rw [EX.out.2.1];exact O6)
 rw [EX.out.1,EX.out.2.1] at N6
 have nbg:¬ X.nb=g:=fun e=>H.out.nr.1 ⟨0,e ▸ hra⟩
 have sn6:soft (V5.drew.setRow g C) X.nb=true:=by
  have:=zan (w:=V5.drew.setRow g C) (b:=X.nb) ((setRow_other _ _ _ _ nbg).trans (show V5.drew.heap[X.nb]?=_ from EX.out.1 ▸ NN5.out.row))
  exact this
 have rn6:rowOf (V5.drew.setRow g C) X.nb=rowOf V5 X.nb:=by
  unfold rowOf
  rw [setRow_other _ _ _ _ nbg]
  rfl
 rw [rn5] at rn6
 have TT:=zadv (T5.out.trans N6)
 have SS:=zadv (S6.trans (congrArg (fun l:List Lt=>(l.map Lt.told).eraseIdx k) EX.out.2.1))
 clear rn5 sn5 O6 N6 D1 S6
 go_wp2
 go_ret
 exact ⟨rfl,X2,TT.out,SS.out⟩
theorem zmz {w:World} {X:Nt} (h:NetAt w X) {a:Int} (a1:(a ≥ 1)=True) (a2:(a ≤ X.nodes)=True):
  Calls Tryz.prog 59 #[.pointer (some ⟨X.nb,0,none⟩),.int .i64 a,.int .i64 a] w fun e w'=>∃ x y:Int,e=.returned (.tuple #[.agg #[.int .i64 x,.int .i64 y],.bool false])∧Below w.heap.size w w':=by
 have r0:=zaa h.row
 rw [zbj] at r0
 have l0:=h.all_lt (.inl rfl)
 have L0:=zadv l0
 have R0:=zadv h.row
 clear h
 go_enter Tryz.func59,Tryz.ntmps59
 go_upto_region 1 with (fail)
 have bx:=Bxs.new2 w (#[.pointer (some ⟨X.nb,0,none⟩)]) 50 (#[.int .i64 0,.int .i64 0]) 102;generalize ((w.alloc (.cells (#[.pointer (some ⟨X.nb,0,none⟩)]) 50)).alloc (.cells (#[.int .i64 0,.int .i64 0]) 102))=W at bx ⊢;have rx0:=bx.row' 0 rfl;have sx0:=bx.soft' 0 rfl;(try simp only [Nat.add_zero] at rx0 sx0);have rx1:=bx.row' 1 rfl;have sx1:=bx.soft' 1 rfl;(try simp only [Nat.add_zero] at rx1 sx1);have BX:=zadv bx;clear bx
 have rn:=zaa ((BX.out.below.block _ L0.out).trans R0.out)
 rw [zbj] at rn
 clear r0 l0
 have hab:(a != a)=false:=by simp
 go_wp2_with fail
 refine (zhf rx0 rn rfl a1 a2).mono ?_
 rintro _ W2 ⟨rfl,rfl⟩
 go_wp2_with fail
 refine (zhf rx0 rn rfl a1 a2).mono ?_
 rintro _ W3 ⟨rfl,rfl⟩
 have B:=(BX.out.below.setCell (p:=⟨w.heap.size + 1,0,none⟩) (Nat.le_add_right w.heap.size 1) (.int .i64 a)).setCell (p:=⟨w.heap.size + 1,1,none⟩) (Nat.le_add_right w.heap.size 1) (.int .i64 a)
 have hc:rowOf ((W3.setCell ⟨w.heap.size + 1,0,none⟩ (.int .i64 a)).setCell ⟨w.heap.size + 1,1,none⟩ (.int .i64 a)) (w.heap.size + 1)=#[.int .i64 a,.int .i64 a]:=by
  rw [zac,if_pos rfl,zac,if_pos rfl,rx1]
  rfl
 go_wp2
 refine bodyPost_ret (zaq (t:=102) rfl Tryz.underlying102 rfl (by kernel_rfl) _ _ (w.heap.size + 1) rfl hc rfl) rfl ?_
 exact ⟨_,_,rfl,B⟩
theorem zzc {w:World} {X:Nt} (h:NetAt w X) {a:Int} (a1:(a ≥ 1)=True) (a2:(a ≤ X.nodes)=True) (v:Bool):
  Calls Tryz.prog 20 #[.pointer (some ⟨X.nb,0,none⟩),.int .i64 a,.int .i64 a,.bool v] w fun e w'=>e=.returned (.bool false)∧Below w.heap.size w w':=by
 have BT:=zadv (zmz h a1 a2)
 clear h a1 a2
 go_enter Tryz.func20,Tryz.ntmps20
 go_wp2_with fail
 refine BT.out.mono ?_
 rintro _ V ⟨x,y,rfl,hb⟩
 have HB:=zadv hb
 clear BT hb
 go_upto_region 2 with (fail)
 have B2:=zadv (HB.out.trans ((zat V (.cells #[.int .i64 x,.int .i64 y] 102)).mono HB.out.size))
 generalize V.alloc (.cells #[.int .i64 x,.int .i64 y] 102)=V2 at B2 ⊢
 go_wp2
 go_ret
 exact ⟨rfl,B2.out⟩
def setW (f:Int→Int→Bool) (a b:Int) (v:Bool):Int→Int→Bool:=fun x y=>if x=min a b∧y=max a b then v else f x y
theorem zzd {w:World} {m:Nat} {es:Array MapEntry} {c:Nat} (h:w.heap[m]?=some (.map es c)) (o:Nat):w.cell? ⟨m,o,none⟩=none:=by
 unfold World.cell?
 simp only [h]
theorem NetAt.cutTo {w:World} {X:Nt} (h:NetAt w X) {f:Int→Int→Bool} {es:Array MapEntry} {c:Nat} (hc:CutAt (putMap w X.mc es c) X.mc f):NetAt (putMap w X.mc es c) { X with cut:=f }∧Comp w (putMap w X.mc es c) X.all X.all:=by
 have ks:∀ i,i ≠ X.mc→(putMap w X.mc es c).heap[i]?=w.heap[i]?:=fun i hi=>zbw _ _ _ _ hi
 have zs:(putMap w X.mc es c).heap.size=w.heap.size:=by simp [putMap]
 have ne:∀ i o y,w.cell? ⟨i,o,none⟩=some y→i ≠ X.mc:=fun i o y e q=>by
  subst q
  obtain ⟨es,c,l,h1,_⟩:=h.cuts.at_
  rw [zzd h1] at e
  cases e
 refine ⟨⟨(ks _ (Ne.symm h.mn)).trans h.row,hc,zcd h.own fun i hi=>ks i fun e=>h.nr.2 (e ▸ (zml h).1 hi),fun x hx=>?_,fun x hx i o e=>⟨by rw [zs];exact (h.lt x hx i o e).1,(h.lt x hx i o e).2⟩,h.nr,by rw [zs];exact h.bB⟩,rfl,rfl,rfl,by rw [zs];exact zadw _,fun i hi hn=>⟨ks i fun e=>hn (.inr (.inl e)),hn⟩⟩
 have hs:=h.bod x hx
 rcases hs.cells with e | ⟨i,o,e,hcc⟩
 ·exact ⟨hs.len,hs.le,hs.nil,.inl e⟩
 ·exact ⟨hs.len,hs.le,hs.nil,.inr ⟨i,o,e,fun j y hj=>(Sx.cell_block (ks i (ne i _ y (hcc j y hj))) _).1.trans (hcc j y hj)⟩⟩
theorem Cut_ok {w:World} {X:Nt} (h:NetAt w X) {a b:Int} (a1:(a ≥ 1)=True) (a2:(a ≤ X.nodes)=True) (b1:(b ≥ 1)=True) (b2:(b ≤ X.nodes)=True) (hab:(a != b)=true) (v:Bool):
  Calls Tryz.prog 20 #[.pointer (some ⟨X.nb,0,none⟩),.int .i64 a,.int .i64 b,.bool v] w fun e w'=>e=.returned (.bool true)∧NetAt w' { X with cut:=setW X.cut a b v }∧Comp w w' X.all X.all:=by
 have H:=zadv h
 have BT:=zadv (zey h a1 a2 b1 b2 hab)
 clear h a1 a2 b1 b2 hab
 go_enter Tryz.func20,Tryz.ntmps20
 go_wp2_with fail
 refine BT.out.mono ?_
 rintro _ V ⟨x,y,rfl,hxy,hb⟩
 have HB:=zadv hb
 have XY:=zadv hxy
 clear BT hb hxy
 go_upto_region 2 with (fail)
 have L:=Bx.new V #[.int .i64 x,.int .i64 y] 102
 have B2:=zadv (HB.out.trans (L.below.mono HB.out.size))
 have rl:=L.rowOf
 clear HB L
 generalize V.alloc (.cells #[.int .i64 x,.int .i64 y] 102)=V2 at B2 rl ⊢
 have h2:=H.out.below B2.out
 have rn:=zaa h2.row
 rw [zbj] at rn
 have h3:NetAt V2.drew X:=H.out.below B2.out.drew
 obtain ⟨es,c,up,ct⟩:=zacp h3.cuts x y v
 have N3:=h3.cutTo (es:=es) (c:=c) ct
 have FIN:NetAt (putMap V2.drew X.mc es c) { X with cut:=setW X.cut a b v }∧Comp w (putMap V2.drew X.mc es c) X.all X.all:=by
  have e:(fun x' y'=>if x'=x∧y'=y then v else X.cut x' y')=setW X.cut a b v:=by
   rw [XY.out.1,XY.out.2]
   rfl
  exact ⟨by rw [← e];exact N3.1,(Comp.below B2.out.drew).trans N3.2⟩
 have FN:=zadv FIN
 clear h2 h3 ct N3 FIN B2
 go_upto_region 3 with (fail)
 (refine wp_region_still_tail 6 (by kernel_rfl) (by kernel_rfl) ?_;simp only [List.take_succ_cons,List.take_zero,List.drop_succ_cons,List.drop_zero];(iterate 6 still_step);refine wpStill_nil ?_)
 go_wp2
 go_ret
 exact ⟨rfl,FN.out⟩
end
end Go.Proofs.YthjgiamfaijoeaaGreatDoor
