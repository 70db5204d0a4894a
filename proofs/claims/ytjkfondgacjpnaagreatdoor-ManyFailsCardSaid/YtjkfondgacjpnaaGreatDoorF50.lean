/- What is proved: parts of the walk and of the plain law, 3 texts in one. No condition but those each law names. -/
import Derived.Test.YtjkfondgacjpnaaGreatDoorF49
namespace Go.Proofs.YtjkfondgacjpnaaGreatDoor
open Go.RowKit
open Sx (Ab DW Turns Did Foot MapIs)
set_option maxRecDepth 100000
theorem least_ex:∃ f:(Nat→Prop)→Nat,∀ P:Nat→Prop,(∃ n,P n)→P (f P)∧∀ m,P m→f P ≤ m:=by
 have all:∀ P:Nat→Prop,∃ k:Nat,(∃ n,P n)→P k∧∀ m,P m→k ≤ m:=fun P=>by
  by_cases h:∃ n,P n
  · obtain ⟨n,hn⟩:=h
    have key:∀ n,P n→∃ k,P k∧∀ m,P m→k ≤ m:=fun n=>by
      induction n using Nat.strongRecOn with
      | ind n ih=>
        intro hn
        by_cases h2:∃ m,P m∧m < n
        · obtain ⟨m,h3,h4⟩:=h2
          exact ih m h4 h3
        · exact ⟨n,hn,fun m hm=>by
            rcases Nat.lt_or_ge m n with q | q
            · exact absurd ⟨m,hm,q⟩ h2
            · exact q⟩
    obtain ⟨k,k1,k2⟩:=key n hn
    exact ⟨k,fun _=>⟨k1,k2⟩⟩
  · exact ⟨0,fun q=>absurd q h⟩
 exact ⟨fun P=>Classical.choose (all P),fun P=>Classical.choose_spec (all P)⟩
def wkOf (pr:Bool):Nat:=if pr then 1 else 2
structure One (x:Nod) (sd:List Nat) (s:Sw) (t:List (Int × Value)):Prop where
 f:x.fell=none
 b:x.B=[(7,s)]
 t:x.told=t
 s:x.sd=sd
structure Two2 (x:Nod) (B:List (Int × Sw)):Prop where
 f:x.fell=none
 b:x.B=B
def Oth (pr:Bool) (xs:Nat→Nod):Prop:=(pr=true→(xs 2).calm=true)∧(pr=false→(xs 1).calm=true)
inductive Ph (pr:Bool) (sd:List Nat) (dd:Dl):Int→Nat→(Nat→Nod)→List (Int × Int × List Nat)→Prop
 | prop {xs:Nat→Nod} {s:Sw} (hd:s.d=dd) (o:One (xs 1) sd s []) (t:Two2 (xs 2) []) (q:Oth pr xs):Ph pr sd dd 0 2 xs [pLet dd]
 | acc {xs:Nat→Nod} {s:Sw} (hd:s.d=dd) (o:One (xs 1) sd s []) (t:Two2 (xs 2) [(7,newS (heardW dd 1))]) (q:Oth pr xs):Ph pr sd dd 0 1 xs [aLet dd]
 | done {xs:Nat→Nod} {s:Sw} (hd:s.d=dd) (o:One (xs 1) sd s [(7,wordV 2 0)]) (t:Two2 (xs 2) [(7,newS (heardW dd 1))]) (q:Oth pr xs):Ph pr sd dd 0 0 xs []
 | fell2 {xs:Nat→Nod} {s:Sw} (hp:pr=false) (hd:s.d=dd) (o:One (xs 1) sd s []) (t:∀ L B,Came (xs 2) L B→B=[] ∨ B=[(7,newS (heardW dd 1))]) (q:Oth pr xs):Ph pr sd dd 0 0 xs []
 | fell1 {xs:Nat→Nod} (hp:pr=true) (o:∀ L B,Came (xs 1) L B→B=[] ∨ ∃ s,s.d=dd∧B=[(7,s)]) (hs:(xs 1).sd=sd) (t:Two2 (xs 2) []) (q:Oth pr xs):Ph pr sd dd 9 0 xs []
section
variable {c:Wd} {w w':World} {xs:Nat→Nod} {ls:List (Int × Int × List Nat)} {sd:List Nat} {dd:Dl} {pr:Bool} {k:Int} {n:Nat}
theorem Oth.upd1 (q:Oth pr xs) {y:Nod} (h:y.calm=(xs 1).calm):Oth pr (upd xs 1 y):=
 ⟨fun e=>by rw [upd_ne _ _ (by decide)];exact q.1 e,fun e=>by rw [upd_at,h];exact q.2 e⟩
theorem Oth.upd2 (q:Oth pr xs) {y:Nod} (h:y.calm=(xs 2).calm):Oth pr (upd xs 2 y):=
 ⟨fun e=>by rw [upd_at,h];exact q.1 e,fun e=>by rw [upd_ne _ _ (by decide)];exact q.2 e⟩
theorem ph_go (h:WX c w xs ls now0) (cn:c.N=2) (x:Ex sd dd) (p:Ph pr sd dd k (n + 1) xs ls):
  Calls Tryz.prog 12 #[.pointer (some ⟨c.wb,0,none⟩),.int .i64 0,.int .i64 1000] w fun e w'=>e=.returned (.bool true)∧∃ m xs' ls',m < n + 1∧WX c w' xs' ls' now0∧Ph pr sd dd k m xs' ls':=by
 generalize hn:n + 1=n1 at p
 cases p with
 | prop hd o t q=>
  have K:=W_prop (a:=1) (b:=2) (k:=0) (free:=1000) h (by rw [cn];decide) (by rw [cn];decide) (by decide) t.f rfl x.ok x.sm (by simp)
  have e:takesF T26 (xs 2).B (heardW dd 1) now0 1000=0:=by rw [t.b];exact x.take
  rw [e] at K
  refine K.mono ?_
  rintro e w' ⟨rfl,⟨z,_⟩ | ⟨_,wx⟩ | ⟨_,cm,wx⟩⟩
  ·exact absurd rfl z
  ·rw [t.b,x.i] at wx
   refine ⟨rfl,1,_,_,by decide,wx,.acc hd (by rw [upd_ne _ _ (by decide)];exact o) (by rw [upd_at];exact ⟨t.f,rfl⟩) (q.upd2 rfl)⟩
  ·refine ⟨rfl,0,_,_,by decide,wx,.fell2 ?_ hd (by rw [upd_ne _ _ (by decide)];exact o) (by
    rw [upd_at]
    rintro L B (⟨_,rfl⟩ | ⟨f,e,_,ad⟩)
    ·exact .inl t.b
    ·cases e
     have ad:Adds (xs 2).B (.dl (heardW dd 1)) B:=ad
     rw [t.b] at ad
     refine .inr ?_
     cases ad
     show putA [] (heardW dd 1).i _=_
     rw [(heardW_i dd 1).1,x.i]
     rfl) (q.upd2 rfl)⟩
   cases hp:pr with
   | false=>rfl
   | true=>rw [q.1 hp] at cm;cases cm
 | acc hd o t q=>
  rename_i s
  have K:=W_acc (a:=1) (b:=2) (k:=0) (free:=1000) (dd:=dd) (s:=s) h (by rw [cn];decide) (by rw [cn];decide) (by decide) o.f (by rw [o.t];exact Words.nil) (by rw [o.b,x.i];rfl) hd x.r x.q rfl x.hd x.sm (by simp)
  rw [o.t,x.i] at K
  refine K.mono ?_
  rintro e w' ⟨rfl,wx⟩
  exact ⟨rfl,0,_,_,by decide,wx,.done hd (by rw [upd_at];exact ⟨o.f,o.b,rfl,o.s⟩) (by rw [upd_ne _ _ (by decide)];exact t) (q.upd1 rfl)⟩
 | done=>cases hn
 | fell2=>cases hn
 | fell1=>cases hn
theorem ph_len (p:Ph pr sd dd k n xs ls):(n=0∧ls.length=0) ∨ (0 < n∧ls.length=1):=by
 cases p <;> simp
theorem ph_prop {sd:Nat→List Nat} (h:WX c w xs [] now0) (hxs:xs=upd (fun j=>nod0 (sd j)) (wkOf pr) { nod0 (sd (wkOf pr)) with calm:=false }) (cn:c.N=2) (x:Ex (sd 1) dd):
  Calls Tryz.prog 10 #[.pointer (some ⟨c.wb,0,none⟩),.int .i64 1,.int .i64 2,.int .i64 7,.agg lgP.cells,.agg lgG.cells] w fun e w'=>∃ k n xs' ls',e=.returned (.int .i64 k)∧WX c w' xs' ls' now0∧Ph pr (sd 1) dd k n xs' ls':=by
 have e1:(xs 1).sd=sd 1∧(xs 1).L=[]∧(xs 1).B=[]∧(xs 1).fell=none∧(xs 1).told=[]:=by
  subst hxs
  cases pr
  ·rw [upd_ne _ _ (by decide)];exact ⟨rfl,rfl,rfl,rfl,rfl⟩
  ·rw [show wkOf true=1 from rfl,upd_at];exact ⟨rfl,rfl,rfl,rfl,rfl⟩
 have e2:Two2 (xs 2) []:=by
  subst hxs
  cases pr
  ·rw [show wkOf false=2 from rfl,upd_at];exact ⟨rfl,rfl⟩
  ·rw [upd_ne _ _ (by decide)];exact ⟨rfl,rfl⟩
 have e3:Oth pr xs:=by
  subst hxs
  cases pr
  ·exact ⟨fun e=>(by cases e),fun _=>by rw [upd_ne _ _ (by decide)];rfl⟩
  ·exact ⟨fun _=>by rw [upd_ne _ _ (by decide)];rfl,fun e=>(by cases e)⟩
 obtain ⟨z1,z2,z3,z4,z5⟩:=e1
 have K:=W_propose (a:=1) (b:=2) h (by rw [cn];decide) (by rw [cn];decide) (by decide) (by decide) (i:=7) (p:=lgP) (g:=lgG) seven
 rw [z1,z2,z3] at K
 have pw:propW (sd 1) [] 7 2 lgP lgG now0=0:=x.prop
 have ed:dealW (sd 1) 7 ((2:Nat):Int) lgP lgG now0=dd:=x.eq
 refine K.mono ?_
 rintro e w' ⟨k,rfl,⟨k0,kp,_⟩ | ⟨rfl,_,_,wx⟩ | ⟨rfl,_,cm,_,j,f,B',hj,wx⟩⟩
 ·exact absurd ((kp z4).symm.trans pw) k0
 ·rw [ed] at wx
  exact ⟨0,2,_,_,rfl,wx,.prop (s:=knowS dd (secretH (sd 1 ++ intI 7))) rfl (by rw [upd_at];exact ⟨z4,rfl,z5,z1⟩) (by rw [upd_ne _ _ (by decide)];exact e2) (e3.upd1 rfl)⟩
 ·have hp:pr=true:=by
   cases hp:pr with
   | true=>rfl
   | false=>rw [e3.2 hp] at cm;cases cm
  refine ⟨9,0,_,_,rfl,wx,.fell1 hp ?_ (by rw [upd_at];exact z1) (by rw [upd_ne _ _ (by decide)];exact e2) (e3.upd1 rfl)⟩
  rw [upd_at]
  have hrun:Run [] ([] ++ (propI (sd 1) 7 ((2:Nat):Int) lgP lgG now0).take j) B':=by
   obtain ⟨S,hh⟩:=wx
   obtain ⟨n,D,tb,q,_⟩:=hh.at_ (a:=1) (by rw [cn];decide)
   have r:=q.run
   rw [upd_at] at r
   exact r
  unfold propI at hj hrun
  rw [ed] at hj hrun
  match j,hj with
  | 0,hj=>
   cases hj
   cases hrun
   rintro L B (⟨_,rfl⟩ | ⟨f,e,_,ad⟩)
   ·exact .inl rfl
   ·cases e
    cases ad
    exact .inr ⟨newS dd,rfl,by show putA [] dd.i _=_;rw [x.i];rfl⟩
  | 1,hj=>
   cases hj
   have hrun:Run [] [.dl dd] B':=hrun
   obtain ⟨B1,a1,a2⟩:=hrun.head
   cases a2
   have eB:B'=[(7,newS dd)]:=by
    cases a1
    show putA [] dd.i _=_
    rw [x.i]
    rfl
   subst eB
   rintro L B (⟨_,rfl⟩ | ⟨f,e,_,ad⟩)
   ·exact .inr ⟨newS dd,rfl,rfl⟩
   ·cases e
    cases ad with
    | se h1 h2 h3 h4=>
     have h3:=Option.some.inj h3
     injection h3 with h3
     subst h3
     exact .inr ⟨_,rfl,rfl⟩
  | j + 2,hj=>simp at hj
def Ready (xs:Nat→Nod) (sd:List Nat) (dd:Dl):Prop:=∃ s B2 t,s.d=dd∧P2 xs sd [(7,s)] B2 t∧(B2=[] ∨ B2=[(7,newS (heardW dd 1))])∧(t=[] ∨ t=[(7,wordV 2 0)])
theorem ph_end (p:Ph pr sd dd k 0 xs ls) {L:List It} {B:List (Int × Sw)} (hc:Came (upd xs (wkOf pr) { xs (wkOf pr) with calm:=true } (wkOf pr)) L B):
  (k=0∧Ready (upd (upd xs (wkOf pr) { xs (wkOf pr) with calm:=true }) (wkOf pr) ⟨(upd xs (wkOf pr) { xs (wkOf pr) with calm:=true } (wkOf pr)).sd,L,B,none,true,[]⟩) sd dd) ∨
  (k=9∧(Ready (upd (upd xs (wkOf pr) { xs (wkOf pr) with calm:=true }) (wkOf pr) ⟨(upd xs (wkOf pr) { xs (wkOf pr) with calm:=true } (wkOf pr)).sd,L,B,none,true,[]⟩) sd dd ∨ P2 (upd (upd xs (wkOf pr) { xs (wkOf pr) with calm:=true }) (wkOf pr) ⟨(upd xs (wkOf pr) { xs (wkOf pr) with calm:=true } (wkOf pr)).sd,L,B,none,true,[]⟩) sd [] [] [])):=by
 rw [upd_at] at hc ⊢
 rw [upd_twice]
 have hc:Came (xs (wkOf pr)) L B:=hc
 generalize hn:(0:Nat)=n0 at p
 cases p with
 | prop=>cases hn
 | acc=>cases hn
 | done hd o t q=>
  rename_i s
  refine .inl ⟨rfl,?_⟩
  cases pr with
  | true=>
   have hc:Came (xs 1) L B:=hc
   have eB:B=[(7,s)]:=by
    rcases hc with ⟨_,e⟩ | ⟨f,e,_⟩
    ·exact e.trans o.b
    ·rw [o.f] at e;cases e
   subst eB
   show Ready (upd xs 1 _) sd dd
   exact ⟨_,_,[],hd,⟨by rw [upd_at],by rw [upd_ne _ _ (by decide)];exact t.f,by rw [upd_at],by rw [upd_ne _ _ (by decide)];exact q.1 rfl,by rw [upd_at],by rw [upd_ne _ _ (by decide)];exact t.b,by rw [upd_at],by rw [upd_at];exact o.s⟩,.inr rfl,.inl rfl⟩
  | false=>
   have hc:Came (xs 2) L B:=hc
   have eB:B=[(7,newS (heardW dd 1))]:=by
    rcases hc with ⟨_,e⟩ | ⟨f,e,_⟩
    ·exact e.trans t.b
    ·rw [t.f] at e;cases e
   subst eB
   show Ready (upd xs 2 _) sd dd
   exact ⟨_,_,_,hd,⟨by rw [upd_ne _ _ (by decide)];exact o.f,by rw [upd_at],by rw [upd_ne _ _ (by decide)];exact q.2 rfl,by rw [upd_at],by rw [upd_ne _ _ (by decide)];exact o.b,by rw [upd_at],by rw [upd_ne _ _ (by decide)];exact o.t,by rw [upd_ne _ _ (by decide)];exact o.s⟩,.inr rfl,.inr rfl⟩
 | fell2 hp hd o t q=>
  subst hp
  have hc:Came (xs 2) L B:=hc
  refine .inl ⟨rfl,?_⟩
  show Ready (upd xs 2 _) sd dd
  exact ⟨_,B,_,hd,⟨by rw [upd_ne _ _ (by decide)];exact o.f,by rw [upd_at],by rw [upd_ne _ _ (by decide)];exact q.2 rfl,by rw [upd_at],by rw [upd_ne _ _ (by decide)];exact o.b,by rw [upd_at],by rw [upd_ne _ _ (by decide)];exact o.t,by rw [upd_ne _ _ (by decide)];exact o.s⟩,t L B hc,.inl rfl⟩
 | fell1 hp o hs t q=>
  subst hp
  have hc:Came (xs 1) L B:=hc
  refine .inr ⟨rfl,?_⟩
  show Ready (upd xs 1 _) sd dd ∨ P2 (upd xs 1 _) sd [] [] []
  rcases o L B hc with rfl | ⟨s,hd,rfl⟩
  ·exact .inr ⟨by rw [upd_at],by rw [upd_ne _ _ (by decide)];exact t.f,by rw [upd_at],by rw [upd_ne _ _ (by decide)];exact q.1 rfl,by rw [upd_at],by rw [upd_ne _ _ (by decide)];exact t.b,by rw [upd_at],by rw [upd_at];exact hs⟩
  ·exact .inl ⟨s,[],[],hd,⟨by rw [upd_at],by rw [upd_ne _ _ (by decide)];exact t.f,by rw [upd_at],by rw [upd_ne _ _ (by decide)];exact q.1 rfl,by rw [upd_at],by rw [upd_ne _ _ (by decide)];exact t.b,by rw [upd_at],by rw [upd_at];exact hs⟩,.inl rfl,.inl rfl⟩
inductive Pq (sd:List Nat) (dd:Dl):Nat→(Nat→Nod)→List (Int × Int × List Nat)→Prop
 | prop {xs:Nat→Nod} (h:Ready xs sd dd):Pq sd dd 2 xs [pLet dd]
 | acc {xs:Nat→Nod} {s:Sw} {t:List (Int × Value)} (hd:s.d=dd) (p:P2 xs sd [(7,s)] [(7,newS (heardW dd 1))] t) (ht:t=[] ∨ t=[(7,wordV 2 0)]):Pq sd dd 1 xs [aLet dd]
 | ref {xs:Nat→Nod} {s:Sw} {t:List (Int × Value)} (hd:s.d=dd) (p:P2 xs sd [(7,s)] [(7,newS (heardW dd 1))] t) (ht:t=[] ∨ t=[(7,wordV 2 0)]):Pq sd dd 1 xs [rLet 13]
 | done {xs:Nat→Nod} {s:Sw} {t:List (Int × Value)} (hd:s.d=dd) (p:P2 xs sd [(7,s)] [(7,newS (heardW dd 1))] t) (ht:t=[(7,wordV 2 0)] ∨ t=[(7,wordV 3 13)]):Pq sd dd 0 xs []
theorem pq_go (h:WX c w xs ls now0) (cn:c.N=2) (x:Ex sd dd) (p:Pq sd dd (n + 1) xs ls):
  Calls Tryz.prog 12 #[.pointer (some ⟨c.wb,0,none⟩),.int .i64 0,.int .i64 1000] w fun e w'=>e=.returned (.bool true)∧∃ m xs' ls',m < n + 1∧WX c w' xs' ls' now0∧Pq sd dd m xs' ls':=by
 generalize hn:n + 1=n1 at p
 cases p with
 | prop hr=>
  obtain ⟨s,B2,t,hd,p,e,ht⟩:=hr
  rcases e with rfl | rfl
  ·refine (T_hear0 (k:=0) h cn p x rfl (by simp)).mono ?_
   rintro e w' ⟨rfl,xs',p',wx⟩
   exact ⟨rfl,1,xs',_,by decide,wx,.acc hd p' ht⟩
  ·refine (T_hear1 (k:=0) h cn p x rfl (by simp)).mono ?_
   rintro e w' ⟨rfl,wx⟩
   exact ⟨rfl,1,xs,_,by decide,wx,.ref hd p ht⟩
 | acc hd p ht=>
  refine (T_acc (k:=0) h cn p (by rcases ht with rfl | rfl <;> first | exact Words.nil | exact words2) hd x rfl (by simp)).mono ?_
  rintro e w' ⟨rfl,xs',p',wx⟩
  exact ⟨rfl,0,xs',_,by decide,wx,.done hd p' (by rcases ht with rfl | rfl <;> exact .inl rfl)⟩
 | ref hd p ht=>
  refine (T_ref (k:=0) h cn p (by rcases ht with rfl | rfl <;> first | exact Words.nil | exact words2) hd x rfl (by simp)).mono ?_
  rintro e w' ⟨rfl,xs',p',wx⟩
  exact ⟨rfl,0,xs',_,by decide,wx,.done hd p' (by rcases ht with rfl | rfl;exact .inr rfl;exact .inl rfl)⟩
 | done=>cases hn
theorem pq_len (p:Pq sd dd n xs ls):(n=0∧ls.length=0) ∨ (0 < n∧ls.length=1):=by
 cases p <;> simp
theorem pq_again (h:WX c w xs [] now0) (cn:c.N=2) (x:Ex sd dd) (hr:Ready xs sd dd):
  Calls Tryz.prog 16 #[.pointer (some ⟨c.wb,0,none⟩),.int .i64 1,.int .i64 7] w fun e w'=>e=.returned (.int .i64 0)∧WX c w' xs [pLet dd] now0:=by
 obtain ⟨s,B2,t,hd,p,_⟩:=id hr
 have K:=W_again (a:=1) (b:=2) (i:=7) (s:=s) h (by rw [cn];decide) p.f1 (by rw [p.b1];rfl) (by rw [hd];exact x.r) (by rw [hd];exact x.q) (by rw [cn];decide) (by decide) (by decide)
 rw [hd] at K
 exact K
theorem T_len (h:WX c w xs ls now0) {a:Nat} (ha:1 ≤ a∧a ≤ c.N) {B:List (Int × Sw)} (hb:(xs a).B=B):Calls Tryz.prog 15 #[.pointer (some ⟨c.wb,0,none⟩),.int .i64 a] w fun e w'=>∃ ao cap,e=.returned (.slice ao B.length cap)∧WX c w' xs ls now0:=by
 refine (W_swaps h ha).mono ?_
 rintro e w' ⟨ao,cap,ks,rfl,hp,_,hb2⟩
 refine ⟨ao,cap,?_,h.below hb2⟩
 rw [hp.length_eq,List.length_map,hb]
theorem p2_mirr {s:Sw} {t:List (Int × Value)} (x:Ex sd dd) (hd:s.d=dd) (p:P2 xs sd [(7,s)] [(7,newS (heardW dd 1))] t):Mirr 2 xs:=by
 intro n h1 h2 k s' hk hr
 have hn:n=1 ∨ n=2:=by omega
 rcases hn with rfl | rfl
 ·rw [p.b1] at hk
  have hk:(if k=7 then some s else none)=some s':=hk
  split at hk
  ·cases hk
   rw [hd,x.r] at hr
   cases hr
  ·cases hk
 ·rw [p.b2] at hk
  have hk:(if k=7 then some (newS (heardW dd 1)) else none)=some s':=hk
  split at hk
  ·rename_i e
   cases hk
   subst e
   refine ⟨1,by decide,by decide,rfl,s,by rw [p.b1];rfl,?_⟩
   rw [hd]
   have e1:=x.i
   have e2:=x.r
   have e3:=x.q
   obtain ⟨i,r,pp,g,h,q⟩:=dd
   subst e1 e2 e3
   rfl
  ·cases hk
end
attribute [local go_sem ↓] rowOf_cell
theorem Pick30 {v:Int} (w:World):Calls Tryz.prog 8 #[.int .i64 v,.int .i64 30] w fun e w'=>∃ b,0 ≤ b∧b < 30∧e=.returned (.int .i64 b)∧w'=w:=by
 have h1:-30 < v.tmod 30∧v.tmod 30 < 30:=by
  rw [Int.tmod_eq_emod]
  split <;> omega
 by_cases h:v.tmod 30 < 0
 ·have h2:IntKind.i64.wrap (v.tmod 30 + 30)=v.tmod 30 + 30:=wrap_small (by omega) (by omega)
  have HH:=Lib.hid (And.intro h h1)
  have h:(v.tmod 30 < 0)=True:=eq_true h
  clear h1
  go_enter Tryz.func8,Tryz.ntmps8
  go_wp2
  go_ret
  exact ⟨_,by have:=HH.out;omega,by have:=HH.out;omega,rfl,rfl⟩
 ·have HH:=Lib.hid (And.intro h h1)
  have h:(v.tmod 30 < 0)=False:=eq_false h
  clear h1
  go_enter Tryz.func8,Tryz.ntmps8
  go_wp2
  go_ret
  exact ⟨_,by have:=HH.out;omega,by have:=HH.out;omega,rfl,rfl⟩
end Go.Proofs.YtjkfondgacjpnaaGreatDoor

namespace Go.Proofs.YtjkfondgacjpnaaGreatDoor
open Go.RowKit
open Sx (Ab DW Turns Did Foot MapIs)
set_option maxRecDepth 100000
attribute [local go_sem ↓] rowOf_cell
attribute [local go_sem] rowOf_alloc soft_alloc rowOf_drew soft_drew rowOf_setRow soft_setRow rowOf_setCell soft_setCell frozen_of_soft rowOf_map soft_map Sx.run_mk Ext.row Ext.soft_
theorem KeepAt.below {w w':World} {ao:Option Addr} {K:List Int} (h:KeepAt w ao K) (hb:Below w.heap.size w w'):KeepAt w' ao K:=
 h.keep fun b o x v hc hv=>by
  have lt:=World.block_lt_of_cell? w ⟨b,o,none⟩ hc
  rw [hv]
  exact (Sx.cell_block (hb.block b lt) _).1.trans hc
theorem WX.f {c:Wd} {w:World} {xs:Nat→Nod} {ls:List (Int × Int × List Nat)} {now:Cl} (h:WX c w xs ls now):Forms w:=by
 obtain ⟨S,h⟩:=h
 exact h.hF.keep (Nat.le_refl _) h.low
theorem WX.t {c:Wd} {w:World} {xs:Nat→Nod} {ls:List (Int × Int × List Nat)} {now:Cl} (h:WX c w xs ls now):Tabs w:=by
 obtain ⟨S,h⟩:=h
 exact h.hT.keep (Nat.le_refl _) h.low
theorem WX.adds {c:Wd} {w w':World} {xs:Nat→Nod} {ls:List (Int × Int × List Nat)} {now:Cl} (h:WX c w xs ls now) (hb:Below w.heap.size w w') (l:List (Nat × Obj)) (hl:∀ p ∈ l,w.heap.size ≤ p.1∧w'.heap[p.1]?=some p.2):WX { c with ex:=l ++ c.ex } w' xs ls now:=by
 obtain ⟨S,h⟩:=h
 have k:=h.below hb
 refine ⟨S,⟨k.mw,k.u,k.wb,k.nb,k.xnb,k.nn,k.says,k.now,k.hF,k.hT,k.no,k.ni,fun p hp=>?_⟩⟩
 rcases List.mem_append.1 hp with hp | hp
 ·exact ⟨(hl p hp).2,fun q=>absurd (h.mw.all_lt q) (Nat.not_lt.2 (hl p hp).1)⟩
 ·exact k.ex p hp
theorem T_mirr {c:Wd} {w:World} {xs:Nat→Nod} {ls:List (Int × Int × List Nat)} {sd:List Nat} {dd:Dl} {s:Sw} {t:List (Int × Value)} (h:WX c w xs ls now0) (cn:c.N=2) (x:Ex sd dd) (hd:s.d=dd) (p:P2 xs sd [(7,s)] [(7,newS (heardW dd 1))] t):
  Calls Tryz.prog 18 #[.pointer (some ⟨c.wb,0,none⟩),.int .i64 2] w fun e w'=>e=.returned (.bool true)∧WX c w' xs ls now0:=by
 have K:=W_mirrored h (by rw [cn];decide) (by rw [cn];exact p2_mirr x hd p)
 rw [cn] at K
 refine K.mono ?_
 rintro e w' ⟨he,hb⟩
 exact ⟨he,h.below hb⟩
theorem T_works {c:Wd} {w:World} {xs:Nat→Nod} {ls:List (Int × Int × List Nat)} (h:WX c w xs ls now0):Calls Tryz.prog 7 #[] w fun e w'=>e=.returned (.bool true)∧WX c w' xs ls now0:=by
 refine (works2 h.f h.t).mono ?_
 rintro e w' ⟨he,hb⟩
 exact ⟨he,h.below hb⟩
theorem T_waits {c:Wd} {w:World} {xs:Nat→Nod} {ls:List (Int × Int × List Nat)} (h:WX c w xs ls now0) {n:Nat} (hn:ls.length=n):Calls Tryz.prog 11 #[.pointer (some ⟨c.nb,0,none⟩)] w fun e w'=>e=.returned (.int .i64 n)∧w'=w:=by
 rw [← hn]
 exact W_waits h
theorem T_agreed1 {c:Wd} {w:World} {xs:Nat→Nod} {ls:List (Int × Int × List Nat)} {B:List (Int × Sw)} (h:WX c w xs ls now0) (cn:c.N=2) (hb:(xs 1).B=B) {r:Bool} (hr:hasB B 7 1 2=r):Calls Tryz.prog 14 #[.pointer (some ⟨c.wb,0,none⟩),.int .i64 1,.int .i64 7,.int .i64 1,.int .i64 2] w fun e w'=>e=.returned (.bool r)∧WX c w' xs ls now0:=by
 have K:=W_agreed (a:=1) h (by rw [cn];decide) 7 1 2
 rw [hb,hr] at K
 exact K
theorem has_one {sd:List Nat} {dd:Dl} (x:Ex sd dd) {s:Sw} (hd:s.d=dd):hasB [(7,s)] 7 1 2=true:=by
 show (s.d.i == 7 && (s.d.r == 1 && s.d.q == 2) || false)=true
 rw [hd,x.i,x.r,x.q]
 rfl
theorem T_lenN {c:Wd} {w:World} {xs:Nat→Nod} {ls:List (Int × Int × List Nat)} (h:WX c w xs ls now0) (cn:c.N=2) {a:Nat} (ha:1 ≤ a∧a ≤ 2) {B:List (Int × Sw)} (hb:(xs a).B=B) {n:Nat} (hn:B.length=n):Calls Tryz.prog 15 #[.pointer (some ⟨c.wb,0,none⟩),.int .i64 a] w fun e w'=>∃ ao cap,e=.returned (.slice ao n cap)∧WX c w' xs ls now0:=by
 rw [← hn]
 exact T_len h (by rw [cn];exact ha) hb
theorem pq_done {xs:Nat→Nod} {ls:List (Int × Int × List Nat)} {sd:List Nat} {dd:Dl} (p:Pq sd dd 0 xs ls):∃ s t,s.d=dd∧P2 xs sd [(7,s)] [(7,newS (heardW dd 1))] t∧(t=[(7,wordV 2 0)] ∨ t=[(7,wordV 3 13)]):=by
 generalize hn:(0:Nat)=n0 at p
 cases p with
 | prop=>cases hn
 | acc=>cases hn
 | ref=>cases hn
 | done hd p ht=>exact ⟨_,_,hd,p,ht⟩
end Go.Proofs.YtjkfondgacjpnaaGreatDoor

namespace Go.Proofs.YtjkfondgacjpnaaGreatDoor
open Go.RowKit
open Sx (Ab DW Turns Did Foot MapIs)
set_option maxRecDepth 100000
attribute [local go_sem ↓] rowOf_cell
attribute [local go_sem] rowOf_alloc soft_alloc rowOf_drew soft_drew rowOf_setRow soft_setRow rowOf_setCell soft_setCell frozen_of_soft rowOf_map soft_map Sx.run_mk Ext.row Ext.soft_
set_option maxHeartbeats 8000000 in
theorem fails_true {w:World} (hF:Forms w) (hT:Tabs w) {bh:Int} {ao:Option Addr} {cc:Nat} {K:List Int} (HK:K.length ≤ 100→KeepAt w ao K):Calls Tryz.prog 3 #[.int .i64 bh,.slice ao K.length cc,.bool true] w fun e w'=>e=.returned (.bool true)∧Below w.heap.size w w':=by
 obtain ⟨lf,hlf⟩:=least_ex
 have LF:=Lib.hid hlf
 have HF:=Lib.hid (And.intro hF hT)
 have KP:=Lib.hid HK
 clear hF hT HK hlf
 go_enter Tryz.func3,Tryz.ntmps3
 go_upto_region 3 with (first
  | (go_at_call 5;refine (made_wx (n:=2) ⟨by decide,by decide⟩ HF.out.1 HF.out.2).mono ?_;rintro _ W ⟨c,sd,rfl,cn,wx,hu⟩;have WA:=Lib.hid (And.intro cn (And.intro wx hu));clear cn wx hu)
  | (go_at_call 6;refine (legs_any W).mono ?_;rintro _ V ⟨rfl,hb⟩;have HB:=Lib.hid hb;clear hb))
 have bx2:=Bxs.new2 V Lg.zero.cells 26 Lg.zero.cells 26
 have bV:Below V.heap.size V ((((V.alloc (.cells Lg.zero.cells 26)).alloc (.cells Lg.zero.cells 26)).setRow V.heap.size lgP.cells).setRow (V.heap.size + 1) lgG.cells):=Below.setRow_ (Below.setRow_ bx2.below (Nat.le_refl _) lgP.cells) (Nat.le_succ _) lgG.cells
 have y0:((((V.alloc (.cells Lg.zero.cells 26)).alloc (.cells Lg.zero.cells 26)).setRow V.heap.size lgP.cells).setRow (V.heap.size + 1) lgG.cells).heap[V.heap.size]?=some (.cells lgP.cells 26):=by
  rw [heap_setRow_ne _ _ (by omega)]
  exact setRow_heap _ _ _ _ _ _ (bx2.rows 0 _ _ rfl)
 have y1:((((V.alloc (.cells Lg.zero.cells 26)).alloc (.cells Lg.zero.cells 26)).setRow V.heap.size lgP.cells).setRow (V.heap.size + 1) lgG.cells).heap[V.heap.size + 1]?=some (.cells lgG.cells 26):=
  setRow_heap _ _ _ _ _ _ ((heap_setRow_ne _ _ (by omega)).trans (bx2.rows 1 _ _ rfl))
 generalize (((V.alloc (.cells Lg.zero.cells 26)).alloc (.cells Lg.zero.cells 26)).setRow V.heap.size lgP.cells).setRow (V.heap.size + 1) lgG.cells=V3 at bV y0 y1 ⊢
 obtain ⟨cn,wx,hu⟩:=WA.out
 have x:=ex_of (sd 1)
 generalize dealW (sd 1) 7 2 lgP lgG ⟨100,200,0⟩=dd at x
 have wxV:=wx.below HB.out
 have wx2:=wxV.adds bV [(V.heap.size,.cells lgP.cells 26),(V.heap.size + 1,.cells lgG.cells 26)] (fun p hp=>by
  rcases List.mem_cons.1 hp with rfl | hp
  ·exact ⟨Nat.le_refl _,y0⟩
  ·rcases List.mem_cons.1 hp with rfl | hp
   ·exact ⟨Nat.le_succ _,y1⟩
   ·cases hp)
 generalize hcc:({ c with ex:=[(V.heap.size,.cells lgP.cells 26),(V.heap.size + 1,.cells lgG.cells 26)] ++ c.ex }:Wd)=c2 at wx2
 have e1:c.wb=c2.wb:=by rw [← hcc]
 have e4:c.u=c2.u:=by rw [← hcc]
 have cn2:c2.N=2:=by rw [← hcc];exact cn
 have m0:(V.heap.size,Obj.cells lgP.cells 26) ∈ c2.ex:=by rw [← hcc];exact List.mem_append_left _ (List.mem_cons_self ..)
 have m1:(V.heap.size + 1,Obj.cells lgG.cells 26) ∈ c2.ex:=by rw [← hcc];exact List.mem_append_left _ (List.mem_cons_of_mem _ (List.mem_cons_self ..))
 rw [e1]
 rw [e4] at hu
 have X:=Lib.hid (And.intro cn2 (And.intro x hu))
 have MM:=Lib.hid (And.intro m0 m1)
 have WX0:=Lib.hid wx2
 generalize V.heap.size=lb at *
 clear WA HB bV cn wx hu x wxV wx2 y0 y1 bx2 e1 e4 cn2 hcc m0 m1
 by_cases hlen:K.length > 100
 ·have i1:((K.length:Int) > 100)=True:=eq_true (by omega)
  have WK:=Lib.hid (T_works WX0.out)
  clear hlen
  go_wp2_with (go_at_call 7;refine WK.out.mono ?_;rintro _ U ⟨rfl,wx⟩;have LO:=Lib.hid wx.low;clear wx)
  go_ret
  exact ⟨rfl,X.out.2.2.trans (LO.out.mono X.out.2.2.size)⟩
 have i1:((K.length:Int) > 100)=False:=eq_false (by omega)
 have KV:=Lib.hid ((KP.out (by omega)).below X.out.2.2)
 clear hlen
 go_wp2_with fail
 refine (Pick30 V3).mono ?_
 rintro _ V4 ⟨b,b0,b1,rfl,rfl⟩
 have AK:=Lib.hid (W_arm (a:=1) WX0.out (by rw [X.out.1];decide) (i:=b) (by omega))
 have eb:decide (b=-1)=false:=decide_eq_false (by omega)
 have EB:=Lib.hid eb
 clear b0 b1 eb
 go_wp2_with fail
 refine AK.out.mono ?_
 rintro _ V5 ⟨rfl,wx⟩
 rw [EB.out] at wx
 have l0:=rowOf_of (wx.has MM.out.1)
 have l1:=rowOf_of (wx.has MM.out.2)
 have PK:=Lib.hid (ph_prop (pr:=true) wx rfl X.out.1 X.out.2.1)
 clear AK wx
 go_wp2_with fail
 refine PK.out.mono ?_
 rintro _ V6 ⟨k,n0,xs0,ls0,rfl,wx,ph⟩
 have ST:=Lib.hid (And.intro wx ph)
 clear PK wx ph l0 l1
 go_upto_region 11 with (fail)
 go_loopw [] (fun wr=>∃ n xs ls,WX c2 wr xs ls now0∧Ph true (sd 1) dd k n xs ls) (fun wr=>lf (fun n=>∃ xs ls,WX c2 wr xs ls now0∧Ph true (sd 1) dd k n xs ls))
 case atStart=>exact ⟨n0,xs0,ls0,ST.out⟩
 case round=>
  obtain ⟨⟨xs,ls,wx,ph⟩,_⟩:=LF.out _ hrel
  generalize hn:lf (fun n=>∃ xs ls,WX c2 wr xs ls now0∧Ph true (sd 1) dd k n xs ls)=n at *
  have HN:=Lib.hid hn
  obtain ⟨mb,rw0⟩:=W_row wx
  clear hn hrel ST
  rcases ph_len ph with ⟨rfl,hl⟩ | ⟨hpos,hl⟩
  ·have WW:=Lib.hid (T_waits wx hl)
   have WY:=Lib.hid (And.intro wx ph)
   clear hl wx ph
   go_upto_region 13 with (go_at_call 11;refine WW.out.mono ?_;rintro _ U1 ⟨rfl,rfl⟩)
   have A2:=Lib.hid (W_arm (a:=1) WY.out.1 (by rw [X.out.1];decide) (i:=-1) (by decide))
   clear WW rw0
   go_wp2_with fail
   refine A2.out.mono ?_
   rintro _ V7 ⟨rfl,wx⟩
   replace wx:WX c2 V7 (upd xs 1 { xs 1 with calm:=true }) ls now0:=wx
   have RS:=Lib.hid (W_restart (a:=1) (cc:=cc) wx (by rw [X.out.1];decide) (KV.out.below wx.low))
   clear A2 wx
   go_wp2_with fail
   refine RS.out.mono ?_
   rintro _ V8 ⟨rfl,L,B,came,_,wx⟩
   have ls0:ls=[]:=List.eq_nil_of_length_eq_zero (by rcases ph_len WY.out.2 with ⟨_,q⟩ | ⟨q,_⟩;exact q;exact absurd q (Nat.lt_irrefl _))
   rw [ls0] at wx
   have pe:=ph_end WY.out.2 came
   generalize hx8:upd (upd xs 1 { xs 1 with calm:=true }) 1 ⟨(upd xs 1 { xs 1 with calm:=true } 1).sd,L,B,none,true,[]⟩=x8 at wx
   replace pe:(k=0∧Ready x8 (sd 1) dd) ∨ (k=9∧(Ready x8 (sd 1) dd ∨ P2 x8 (sd 1) [] [] [])):=by rw [← hx8];exact pe
   have W8:=Lib.hid wx
   clear RS came WY hx8 ls0 wx HN
   rcases pe with ⟨rfl,rdy⟩ | ⟨rfl,rdy | p0⟩
   case inr.inr=>
    have A1:=Lib.hid (T_agreed1 W8.out X.out.1 p0.b1 (r:=false) rfl)
    have PZ:=Lib.hid p0
    clear p0 W8
    go_wp2_with (first
     | (go_at_call 14;refine A1.out.mono ?_;rintro _ U1 ⟨rfl,wx⟩;have N1:=Lib.hid (T_lenN wx X.out.1 (a:=2) (by decide) PZ.out.b2 (n:=0) rfl);clear wx A1)
     | (go_at_call 15;refine N1.out.mono ?_;rintro _ U2 ⟨ao2,cap2,rfl,wx⟩;have l0:=rowOf_of (wx.has MM.out.1);have l1:=rowOf_of (wx.has MM.out.2);have PP:=Lib.hid (T_prop wx X.out.1 PZ.out X.out.2.1 (by decide));clear wx N1)
     | (go_at_call 10;refine PP.out.mono ?_;rintro _ U3 ⟨rfl,xs9,s9,_,_,wx⟩;have WW:=Lib.hid (T_works wx);clear wx l0 l1 PP)
     | (go_at_call 7;refine WW.out.mono ?_;rintro _ U4 ⟨rfl,wx⟩;have LO:=Lib.hid wx.low;clear wx WW))
    go_ret
    exact ⟨rfl,X.out.2.2.trans (LO.out.mono X.out.2.2.size)⟩
   case' inl=>
    have RD:=Lib.hid rdy
    have AG:=Lib.hid (pq_again W8.out X.out.1 X.out.2.1 rdy)
    clear rdy W8
    go_upto_region 20 with (go_at_call 16;refine AG.out.mono ?_;rintro _ V9 ⟨rfl,wx⟩;have Q:=Lib.hid (And.intro wx (Pq.prop RD.out));clear AG wx)
   case' inr.inl=>
    have RD:=Lib.hid rdy
    obtain ⟨s8,_,_,hd8,p8,_⟩:=rdy
    have A1:=Lib.hid (T_agreed1 W8.out X.out.1 p8.b1 (has_one X.out.2.1 hd8))
    clear W8 hd8 p8
    go_upto_region 20 with (first
     | (go_at_call 14;refine A1.out.mono ?_;rintro _ U1 ⟨rfl,wx⟩;have AG:=Lib.hid (pq_again wx X.out.1 X.out.2.1 RD.out);clear wx A1)
     | (go_at_call 16;refine AG.out.mono ?_;rintro _ V9 ⟨rfl,wx⟩;have Q:=Lib.hid (And.intro wx (Pq.prop RD.out));clear AG wx))
   all_goals
    clear RD
    go_loopw [] (fun wr=>∃ n xs ls,WX c2 wr xs ls now0∧Pq (sd 1) dd n xs ls) (fun wr=>lf (fun n=>∃ xs ls,WX c2 wr xs ls now0∧Pq (sd 1) dd n xs ls))
    case atStart=>exact ⟨_,_,_,Q.out⟩
    case round=>
     obtain ⟨⟨xs,ls,wx,ph⟩,_⟩:=LF.out _ hrel
     generalize hn:lf (fun n=>∃ xs ls,WX c2 wr xs ls now0∧Pq (sd 1) dd n xs ls)=n at *
     have HN:=Lib.hid hn
     obtain ⟨mb,rw0⟩:=W_row wx
     clear hn hrel Q
     rcases pq_len ph with ⟨rfl,hl⟩ | ⟨hpos,hl⟩
     ·have WW:=Lib.hid (T_waits wx hl)
      have W9:=Lib.hid wx
      have PD:=Lib.hid (pq_done ph)
      clear hl wx ph HN
      go_upto_region 22 with (go_at_call 11;refine WW.out.mono ?_;rintro _ U1 ⟨rfl,rfl⟩)
      clear WW rw0
      obtain ⟨s9,t9,hd9,p9,ht⟩:=PD.out
      have PW:=Lib.hid (And.intro hd9 p9)
      clear PD hd9 p9
      rcases ht with rfl | rfl
      case' inl=>have TT:=Lib.hid (T_told W9.out X.out.1 PW.out.2 (a:=2) (b:=0) rfl)
      case' inr=>have TT:=Lib.hid (T_told W9.out X.out.1 PW.out.2 (a:=3) (b:=13) rfl)
      all_goals
       clear W9
       go_wp2_with (first
        | (go_at_call 17;refine TT.out.mono ?_;rintro _ U2 ⟨rfl,wx⟩;have A2:=Lib.hid (T_agreed2 wx X.out.1 PW.out.2 X.out.2.1);clear wx TT)
        | (go_at_call 14;refine A2.out.mono ?_;rintro _ U3 ⟨rfl,wx⟩;have N2:=Lib.hid (T_lenN wx X.out.1 (a:=2) (by decide) PW.out.2.b2 (n:=1) rfl);clear wx A2)
        | (go_at_call 15;refine N2.out.mono ?_;rintro _ U4 ⟨ao2,cap2,rfl,wx⟩;have N1:=Lib.hid (T_lenN wx X.out.1 (a:=1) (by decide) PW.out.2.b1 (n:=1) rfl);clear wx N2)
        | (go_at_call 15;refine N1.out.mono ?_;rintro _ U5 ⟨ao1,cap1,rfl,wx⟩;have MI:=Lib.hid (T_mirr wx X.out.1 X.out.2.1 PW.out.1 PW.out.2);clear wx N1)
        | (go_at_call 18;refine MI.out.mono ?_;rintro _ U6 ⟨rfl,wx⟩;have WW:=Lib.hid (T_works wx);clear wx MI)
        | (go_at_call 7;refine WW.out.mono ?_;rintro _ U7 ⟨rfl,wx⟩;have LO:=Lib.hid wx.low;clear wx WW))
       go_ret
       exact ⟨rfl,X.out.2.2.trans (LO.out.mono X.out.2.2.size)⟩
     ·obtain ⟨n,rfl⟩:∃ n',n=n' + 1:=⟨n - 1,by omega⟩
      have WW:=Lib.hid (T_waits wx hl)
      have GO:=Lib.hid (pq_go wx X.out.1 X.out.2.1 ph)
      clear hl wx ph hpos
      go_wp2_with (first
       | (go_at_call 11;refine WW.out.mono ?_;rintro _ U1 ⟨rfl,rfl⟩)
       | (go_at_call 12;refine GO.out.mono ?_;rintro _ U2 ⟨rfl,m,xs',ls',hm,wx',ph'⟩;have NN:=Lib.hid (And.intro hm (And.intro wx' ph'));clear hm wx' ph'))
      go_roundw
      case rel=>exact ⟨m,xs',ls',NN.out.2⟩
      case measure=>
       try rw [HN.out]
       exact Nat.lt_of_le_of_lt ((LF.out _ ⟨m,xs',ls',NN.out.2⟩).2 m ⟨xs',ls',NN.out.2⟩) NN.out.1
  ·obtain ⟨n,rfl⟩:∃ n',n=n' + 1:=⟨n - 1,by omega⟩
   have WW:=Lib.hid (T_waits wx hl)
   have GO:=Lib.hid (ph_go wx X.out.1 X.out.2.1 ph)
   clear hl wx ph hpos
   go_wp2_with (first
    | (go_at_call 11;refine WW.out.mono ?_;rintro _ U1 ⟨rfl,rfl⟩)
    | (go_at_call 12;refine GO.out.mono ?_;rintro _ U2 ⟨rfl,m,xs',ls',hm,wx',ph'⟩;have NN:=Lib.hid (And.intro hm (And.intro wx' ph'));clear hm wx' ph'))
   go_roundw
   case rel=>exact ⟨m,xs',ls',NN.out.2⟩
   case measure=>
    try rw [HN.out]
    exact Nat.lt_of_le_of_lt ((LF.out _ ⟨m,xs',ls',NN.out.2⟩).2 m ⟨xs',ls',NN.out.2⟩) NN.out.1
end Go.Proofs.YtjkfondgacjpnaaGreatDoor
