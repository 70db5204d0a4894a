/- What is proved: parts of the walk and of the plain law. No condition but those each law names. -/
import Derived.Test.YthjgiamfaijoeaaGreatDoorD33
import Derived.Test.YthjgiamfaijoeaaGreatDoorD27
import Derived.Test.YthjgiamfaijoeaaGreatDoorD29
import Derived.Test.YthjgiamfaijoeaaGreatDoorD28
import Derived.Test.YthjgiamfaijoeaaGreatDoorD00
set_option linter.unusedSimpArgs false
set_option linter.unusedVariables false
set_option maxRecDepth 100000
namespace Go.Proofs.YthjgiamfaijoeaaGreatDoor
open Go.RowKit
section
open Sx (Ab z128 padN zbf)
theorem zkr (A:Ab) (k:Int):A.strA.see k=A.see k:=by
 unfold Sx.Ab.strA
 split <;> rfl
theorem zmp (A:Ab):A.strA.last=A.last:=by
 unfold Sx.Ab.strA
 split <;> rfl
theorem zjr (A:Ab):A.strA.loose=A.loose:=by
 unfold Sx.Ab.strA
 split <;> rfl
theorem zqb (A:Ab) (h:A.off=false):A.strA.off=A.str:=by
 unfold Sx.Ab.strA Sx.Ab.str
 by_cases hl:A.left < 0
 ·rw [if_pos hl,decide_eq_true hl,h];rfl
 ·rw [if_neg hl,decide_eq_false hl];rfl
theorem zac4 {A:Ab} (h:A.off=false) (i:Int) (l:List Nat):A.wr i l=(A.put i l).strA∧(A.wrE i l=0 ∨ A.wrE i l=9)∧(A.wr i l).off=decide (A.wrE i l ≠ 0):=by
 have hp:(A.put i l).off=false:=h
 have e1:A.wr i l=(A.put i l).strA:=by unfold Sx.Ab.wr;rw [h];rfl
 have e2:A.wrE i l=if (A.put i l).str=true then 9 else 0:=by unfold Sx.Ab.wrE;rw [h];rfl
 refine ⟨e1,?_,?_⟩
 ·rw [e2];split
  ·exact .inr rfl
  ·exact .inl rfl
 ·rw [e1,zqb _ hp,e2]
  cases (A.put i l).str <;> rfl
theorem zqc {A:Ab} (h:A.off=false):(A.sycE=0 ∨ A.sycE=9)∧A.syc.off=decide (A.sycE ≠ 0)∧(A.sycE=0→A.syc=A.strA.sy)∧(A.sycE ≠ 0→A.syc=A.strA):=by
 have e1:A.syc=if A.str=true then A.strA else A.strA.sy:=by unfold Sx.Ab.syc;rw [h];rfl
 have e2:A.sycE=if A.str=true then 9 else 0:=by unfold Sx.Ab.sycE;rw [h];rfl
 have e3:=zqb A h
 rw [e1,e2]
 cases hs:A.str with
 | true=>
  rw [hs] at e3
  exact ⟨.inr rfl,e3,(fun q=>by cases q),fun _=>rfl⟩
 | false=>
  rw [hs] at e3
  exact ⟨.inl rfl,e3,fun _=>rfl,fun q=>absurd rfl q⟩
theorem zmq (L:List Stp):∀ A,A.off=false→stpsE L A=0→(stpsA L A).off=false∧∀ k,(stpsA L A).see k=seeF L A.see k:=by
 induction L with
 | nil=>intro A h _;exact ⟨h,fun k=>rfl⟩
 | cons s L ih=>
  intro A h he
  have he':(if s.e A=0 then stpsE L (s.A A) else s.e A)=0:=he
  have h0:s.e A=0:=by
   by_cases hq:s.e A=0
   ·exact hq
   ·rw [if_neg hq] at he';exact he'
  rw [if_pos h0] at he'
  have eA:stpsA (s :: L) A=stpsA L (s.A A):=by
   show (if s.e A=0 then stpsA L (s.A A) else s.A A)=_
   rw [if_pos h0]
  rw [eA]
  cases s with
  | wr i l=>
   obtain ⟨q1,_,q3⟩:=zac4 h i l
   have h0':A.wrE i l=0:=h0
   rw [h0'] at q3
   obtain ⟨t1,t2⟩:=ih (A.wr i l) q3 he'
   refine ⟨t1,fun k=>(t2 k).trans ?_⟩
   show seeF L _ k=seeF L _ k
   congr 1
   funext q
   rw [q1,zkr,zs5]
  | sy=>
   obtain ⟨_,q2,q3,_⟩:=zqc h
   have h0':A.sycE=0:=h0
   rw [h0'] at q2
   obtain ⟨t1,t2⟩:=ih A.syc q2 he'
   refine ⟨t1,fun k=>(t2 k).trans ?_⟩
   show seeF L _ k=seeF L _ k
   congr 1
   funext q
   rw [q3 h0',zzo,zkr]
theorem zys (L:List Stp):∀ A,A.off=false→stpsE L A ≠ 0→stpsE L A=9∧(stpsA L A).off=true:=by
 induction L with
 | nil=>intro A _ h;exact absurd rfl h
 | cons s L ih=>
  intro A h he
  have he':(if s.e A=0 then stpsE L (s.A A) else s.e A) ≠ 0:=he
  show (if s.e A=0 then stpsE L (s.A A) else s.e A)=9∧(if s.e A=0 then stpsA L (s.A A) else s.A A).off=true
  have hs:(s.e A=0 ∨ s.e A=9)∧(s.A A).off=decide (s.e A ≠ 0):=by
   cases s with
   | wr i l=>exact ⟨(zac4 h i l).2.1,(zac4 h i l).2.2⟩
   | sy=>exact ⟨(zqc h).1,(zqc h).2.1⟩
  by_cases hq:s.e A=0
  ·rw [if_pos hq] at he' ⊢
   rw [if_pos hq]
   exact ih _ (by rw [hs.2,hq];rfl) he'
  ·rw [if_neg hq,if_neg hq]
   exact ⟨hs.1.resolve_left hq,by rw [hs.2,decide_eq_true hq]⟩
def zac5 (P:Ab→Prop):Prop:=∀ A B:Ab,A.last=B.last→A.loose=B.loose→P A→P B
theorem zvm {P:Ab→Prop} (hP:zac5 P) (L:List Stp) (hL:∀ s ∈ L,∃ i l,s=.wr i l∧∀ A,P A→P (A.put i l)):∀ A,P A→P (stpsA L A):=by
 induction L with
 | nil=>intro A h;exact h
 | cons s L ih=>
  intro A h
  obtain ⟨i,l,rfl,hp⟩:=hL _ (List.mem_cons_self ..)
  have h1:P (A.wr i l):=by
   unfold Sx.Ab.wr
   split
   ·exact h
   ·exact hP (A.put i l) _ (zmp _).symm (zjr _).symm (hp A h)
  show P (if A.wrE i l=0 then stpsA L (A.wr i l) else A.wr i l)
  split
  ·exact ih (fun s hs=>hL s (List.mem_cons_of_mem _ hs)) _ h1
  ·exact h1
theorem zmr {P:Ab→Prop} (hP:zac5 P) (L M:List Stp) (hL:∀ s ∈ L,∃ i l,s=.wr i l∧∀ A,P A→P (A.put i l)) (A:Ab) (hon:A.off=false) (h:P A):
  (stpsE L A ≠ 0∧P (stpsA (L ++ .sy :: M) A)∧stpsE (L ++ .sy :: M) A=9∧(stpsA (L ++ .sy :: M) A).off=true) ∨
  (stpsE L A=0∧(stpsA L A).sycE ≠ 0∧P (stpsA (L ++ .sy :: M) A)∧stpsE (L ++ .sy :: M) A=9∧(stpsA (L ++ .sy :: M) A).off=true) ∨
  (stpsE L A=0∧(stpsA L A).sycE=0∧stpsE (L ++ .sy :: M) A=stpsE M (stpsA L A).strA.sy∧stpsA (L ++ .sy :: M) A=stpsA M (stpsA L A).strA.sy∧(stpsA L A).strA.sy.off=false):=by
 have hk:=zvm hP L hL A h
 by_cases he:stpsE L A=0
 ·obtain ⟨e1,e2⟩:=zpd L (.sy :: M) A he
  obtain ⟨w1,_⟩:=zmq L A hon he
  obtain ⟨s1,s2,s3,s4⟩:=zqc w1
  by_cases hs:(stpsA L A).sycE=0
  ·refine .inr (.inr ⟨he,hs,?_,?_,?_⟩)
   ·rw [e1]
    show (if (stpsA L A).sycE=0 then stpsE M (stpsA L A).syc else (stpsA L A).sycE)=_
    rw [if_pos hs,s3 hs]
   ·rw [e2]
    show (if (stpsA L A).sycE=0 then stpsA M (stpsA L A).syc else (stpsA L A).syc)=_
    rw [if_pos hs,s3 hs]
   ·rw [← s3 hs,s2,hs];rfl
  ·refine .inr (.inl ⟨he,hs,?_,?_,?_⟩)
   ·rw [e2]
    show P (if (stpsA L A).sycE=0 then stpsA M (stpsA L A).syc else (stpsA L A).syc)
    rw [if_neg hs,s4 hs]
    exact hP _ _ (zmp _).symm (zjr _).symm hk
   ·rw [e1]
    show (if (stpsA L A).sycE=0 then stpsE M (stpsA L A).syc else (stpsA L A).sycE)=9
    rw [if_neg hs]
    exact s1.resolve_left hs
   ·rw [e2]
    show (if (stpsA L A).sycE=0 then stpsA M (stpsA L A).syc else (stpsA L A).syc).off=true
    rw [if_neg hs,s2,decide_eq_true hs]
 ·have hA:∀ (L:List Stp) (A:Ab),stpsE L A ≠ 0→stpsA (L ++ .sy :: M) A=stpsA L A∧stpsE (L ++ .sy :: M) A=stpsE L A:=by
   intro L
   induction L with
   | nil=>intro A h;exact absurd rfl h
   | cons s L ih=>
    intro A h
    have h':(if s.e A=0 then stpsE L (s.A A) else s.e A) ≠ 0:=h
    show (if s.e A=0 then stpsA (L ++ .sy :: M) (s.A A) else s.A A)=(if s.e A=0 then stpsA L (s.A A) else s.A A)∧(if s.e A=0 then stpsE (L ++ .sy :: M) (s.A A) else s.e A)=(if s.e A=0 then stpsE L (s.A A) else s.e A)
    by_cases hq:s.e A=0
    ·rw [if_pos hq] at h'
     rw [if_pos hq,if_pos hq,if_pos hq,if_pos hq]
     exact ih _ h'
    ·rw [if_neg hq,if_neg hq,if_neg hq,if_neg hq]
     exact ⟨rfl,rfl⟩
  obtain ⟨t1,t2⟩:=hA L A he
  obtain ⟨u1,u2⟩:=zys L A hon he
  exact .inl ⟨he,by rw [t1];exact hk,by rw [t2];exact u1,by rw [t1];exact u2⟩
end
section
open Sx (Ab z128 padN zbf)
structure zf0 (A0 A:Ab) (at_:Int) (ps:List (List Nat)):Prop where
 last:A.last=A0.last
 loose:∀ k l,A.loose k=some l→∃ (i:Nat) (p:List Nat),ps[i]?=some p∧k=at_ + i∧l=padN p
theorem zms (A0:Ab) (at_:Int) (ps:List (List Nat)):zac5 fun A=>zf0 A0 A at_ ps:=fun A B h1 h2 h=>⟨h1 ▸ h.last,fun k l hk=>h.loose k l (by rw [h2];exact hk)⟩
theorem zr4 {A0 A:Ab} {at_:Int} {ps:List (List Nat)} (h:zf0 A0 A at_ ps) {i:Nat} {p:List Nat} (hp:ps[i]?=some p):zf0 A0 (A.put (at_ + i) p) at_ ps:=by
 refine ⟨h.last,fun k l hk=>?_⟩
 have hk:(if k=at_ + i then some (padN p) else A.loose k)=some l:=hk
 split at hk
 ·cases hk
  rename_i e
  exact ⟨i,p,hp,e,rfl⟩
 ·exact h.loose k l hk
theorem zmt {A0 A A':Ab} {at_:Int} {ps:List (List Nat)} {keep:List Int} (h0:∀ k,A0.loose k=none) (h:zf0 A0 A at_ ps) (hc:zbf A keep A') (k:Int):
  A'.see k=A0.see k ∨ ∃ (i:Nat) (p:List Nat),ps[i]?=some p∧k=at_ + i∧(A'.see k=some (padN p) ∨ A'.see k=none):=by
 have e1:A'.see k=A'.last k:=by unfold Sx.Ab.see;rw [hc.loose]
 have e0:A0.see k=A0.last k:=by unfold Sx.Ab.see;rw [h0]
 rw [e1,e0]
 rcases hc.last k with e | ⟨l,e,e2⟩
 ·exact .inl (by rw [e,h.last])
 ·obtain ⟨i,p,q1,q2,q3⟩:=h.loose k l e
  subst q3
  exact .inr ⟨i,p,q1,q2,e2⟩
theorem zhg {A A':Ab} {keep:List Int} (h:Ab.Sm A) (hc:zbf A keep A'):Ab.Sm A':=fun k l hl=>by
 rcases hl with hl | hl
 ·rcases hc.last k with e | ⟨q,e,e2⟩
  ·exact h k l (.inl (by rw [← e];exact hl))
  ·rcases e2 with e2 | e2
   ·rw [e2] at hl;cases hl;exact h k _ (.inr e)
   ·rw [e2] at hl;cases hl
 ·rw [hc.loose] at hl;cases hl
theorem zoe {A0 A A':Ab} {j:Jr} {R:List (Int × List Nat)} {r:Int × List Nat} {keep:List Int} (h:Holds A0 j R) (hr:zd3 r) (hl:(secL R).length + npc (rowF r) ≤ 255) (hL:zf0 A0 A j.at_ (pcs (rowF r))) (hsm:Ab.Sm A) (hc:zbf A keep A'):
  (Half A' j R ∨ Half A' { j with at_:=j.at_ + npc (rowF r) } (R ++ [r]))∧Calm A'∧∀ k,A'.loose k=none:=by
 have hsm':=zhg hsm hc
 have hat:=h.half.at_
 have hsee:=zmt h.still hL hc
 have hout:∀ k,(k < j.at_ ∨ j.at_ + (npc (rowF r):Nat) ≤ k)→A'.see k=A0.see k:=fun k hk=>by
  rcases hsee k with e | ⟨i,p,q1,q2,_⟩
  ·exact e
  ·have:=(List.getElem?_eq_some_iff.1 q1).1
   rw [zca] at this
   omega
 have hin:∀ i,i < npc (rowF r)→A'.see (j.at_ + (i:Nat))=some (padN (pc (rowF r) i)) ∨ A'.see (j.at_ + (i:Nat))=none ∨ A'.see (j.at_ + (i:Nat))=some z128:=fun i hi=>by
  rcases hsee (j.at_ + i) with e | ⟨i',p,q1,q2,q3⟩
  ·exact .inr (.inr (e.trans (h.rest _ (by omega) (by omega))))
  ·obtain rfl:i=i':=by omega
   rw [zhn _ hi] at q1
   cases q1
   exact q3.imp id .inl
 have hoth:turnA A' (256 - j.first) < j.turn:=by
  rw [zc2 (hout (256 - j.first) (by rcases h.half.f with e | e <;> omega))]
  exact h.half.other
 refine ⟨?_,⟨hc.off,by rw [hc.left];decide⟩,hc.loose⟩
 by_cases hall:∀ i,i < npc (rowF r)→A'.see (j.at_ + (i:Nat))=some (padN (pc (rowF r) i))
 ·refine .inr ?_
  have hlen:(secL (R ++ [r])).length=(secL R).length + npc (rowF r):=by rw [zcj,List.length_append,zep,zcm]
  refine ⟨hsm',h.half.f,h.half.t,h.half.live,fun x hx=>?_,by rw [hlen];exact hl,by rw [hlen];simp only;omega,?_,fun k l hk=>?_,?_,fun s q1 q2=>?_,hoth⟩
  ·rcases List.mem_append.1 hx with hx | hx
   ·exact h.half.ok x hx
   ·rw [List.mem_singleton] at hx;rw [hx];exact hr
  ·exact (hout _ (by simp only;omega)).trans h.half.head
  ·rw [zcj,zep] at hk
   by_cases hlt:k < (secL R).length
   ·rw [List.getElem?_append_left hlt] at hk
    exact (hout _ (by simp only;omega)).trans (h.half.body k l hk)
   ·rw [List.getElem?_append_right (by omega)] at hk
    have hk2:=(List.getElem?_eq_some_iff.1 hk).1
    rw [zcm] at hk2
    rw [zg5 r hk2] at hk
    cases hk
    rw [← hall _ hk2]
    congr 1
    simp only
    omega
  ·simp only
   by_cases hlt:j.at_ + npc (rowF r) < j.first + 256
   ·rw [zj5 (by rw [hout _ (.inr (Int.le_refl _)),h.rest _ (by omega) hlt];exact zlg)]
    rfl
   ·unfold rowA
    rw [show (j.first + 256 - (j.at_ + npc (rowF r))).toNat=0 by omega]
    rfl
  ·simp only at q1 q2
   rw [hout _ (by omega),h.rest _ (by omega) q2]
   exact zlg
 ·refine .inl ⟨hsm',h.half.f,h.half.t,h.half.live,h.half.ok,h.half.len,hat,(hout _ (by omega)).trans h.half.head,fun k l hk=>?_,?_,fun s q1 q2=>?_,hoth⟩
  ·have:=(List.getElem?_eq_some_iff.1 hk).1
   exact (hout _ (by omega)).trans (h.half.body k l hk)
  ·have hex:∃ m,m < npc (rowF r)∧A'.see (j.at_ + (m:Nat)) ≠ some (padN (pc (rowF r) m)):=by
    rcases Classical.not_forall.1 hall with ⟨m,hm⟩
    exact ⟨m,Classical.not_imp.1 hm⟩
   rw [zw3 hr hin hex]
   rfl
  ·by_cases hlt:s < j.at_ + npc (rowF r)
   ·obtain ⟨i,hi⟩:∃ i:Nat,s=j.at_ + i:=⟨(s - j.at_).toNat,by omega⟩
    subst hi
    rcases hin i (by omega) with e | e | e
    ·rw [e]
     intro l hl2
     cases hl2
     rw [zj4]
     omega
    ·rw [e];intro l hl2;cases hl2
    ·rw [e];exact zlg
   ·rw [hout s (by omega),h.rest s (by omega) q2]
    exact zlg
theorem Holds.laid {A A':Ab} {j:Jr} {R:List (Int × List Nat)} (h:Holds A j R) {r:Int × List Nat} (hr:zd3 r) (hl:(secL R).length + npc (rowF r) ≤ 255) (hsm:Ab.Sm A') (s4:∀ k,A'.loose k=none) (s3:∀ k,A'.see k=seeF (wrs j.at_ (pcs (rowF r))) A.see k):
  Holds A' { j with at_:=j.at_ + npc (rowF r) } (R ++ [r]):=by
 have ha:=h.half.at_
 have hout:∀ k,(k < j.at_ ∨ j.at_ + (npc (rowF r):Nat) ≤ k)→A'.see k=A.see k:=fun k hk=>by rw [s3,ze8 _ _ _ _ (by rw [zca];exact hk)]
 have hlen:(secL (R ++ [r])).length=(secL R).length + npc (rowF r):=by rw [zcj,List.length_append,zep,zcm]
 have hb:∀ s,j.at_ ≤ s→s < j.first + 256→A.see s=some z128:=h.rest
 refine zj8 hsm h.half.f h.half.t h.half.live ?_ (by rw [hlen];exact hl) (by rw [hlen];simp only;omega) ?_ ?_ ?_ s4 ?_
 ·intro x hx
  rcases List.mem_append.1 hx with hx | hx
  ·exact h.half.ok x hx
  ·rw [List.mem_singleton] at hx;rw [hx];exact hr
 ·rw [hout _ (by simp only;omega)];exact h.half.head
 ·intro k l hk
  rw [zcj,zep] at hk
  by_cases hlt:k < (secL R).length
  ·rw [List.getElem?_append_left hlt] at hk
   rw [hout _ (by simp only;omega)]
   exact h.half.body k l hk
  ·rw [List.getElem?_append_right (by omega)] at hk
   have hk2:=(List.getElem?_eq_some_iff.1 hk).1
   rw [zcm] at hk2
   rw [zg5 r hk2] at hk
   cases hk
   have:=zs6 (pcs (rowF r)) j.at_ A.see (k - (secL R).length) _ (zhn (rowF r) hk2)
   rw [← s3] at this
   rw [← this]
   congr 1
   simp only
   omega
 ·rw [zc2 (show A'.see (256 - j.first)=A.see (256 - j.first) from hout _ (by rcases h.half.f with e | e <;> omega))]
  exact h.half.other
 ·intro s q1 q2
  simp only at q1 q2
  rw [hout _ (by omega)]
  exact hb s (by omega) q2
theorem Holds.append_armed {A:Ab} {j:Jr} {R:List (Int × List Nat)} (h:Holds A j R) (hon:A.off=false) {r:Int × List Nat} (hr:zd3 r) (hl:(secL R).length + npc (rowF r) ≤ 255):
  (appE A j r.1 r.2=0∧Holds (appA A j r.1 r.2) (appJ A j r.1 r.2) (R ++ [r])∧(appA A j r.1 r.2).off=false∧appJ A j r.1 r.2={ j with at_:=j.at_ + npc (rowF r) }) ∨
  (appE A j r.1 r.2=9∧(appA A j r.1 r.2).off=true∧(appJ A j r.1 r.2).dead=true∧zf0 A (appA A j r.1 r.2) j.at_ (pcs (rowF r))∧Ab.Sm (appA A j r.1 r.2)):=by
 obtain ⟨e1,e2⟩:=zs9 hr
 have ha:=h.half.at_
 have g:(j.dead || A.off)=false:=by rw [h.half.live,hon];rfl
 have hroom:¬ j.first + 256 - j.at_ < (npc (rowF r):Nat):=by omega
 have e3:appL j r.1 r.2=wrs j.at_ (pcs (rowF r)) ++ .sy :: []:=by unfold appL;rw [e2]
 have E:appE A j r.1 r.2=stpsE (wrs j.at_ (pcs (rowF r)) ++ .sy :: []) A:=by unfold appE;rw [g,e1,e2,e3];simp [hroom]
 have EA:appA A j r.1 r.2=stpsA (wrs j.at_ (pcs (rowF r)) ++ .sy :: []) A:=by unfold appA;rw [g,e1,e2,e3];simp [hroom]
 have EJ:appJ A j r.1 r.2=if stpsE (wrs j.at_ (pcs (rowF r)) ++ .sy :: []) A=0 then { j with at_:=j.at_ + npc (rowF r) } else { j with dead:=true }:=by unfold appJ;rw [g,e1,e2,e3];simp [hroom]
 have hsm:Ab.Sm (stpsA (wrs j.at_ (pcs (rowF r)) ++ .sy :: []) A):=zj7 _ _ h.half.sm fun i l hm=>by
  rcases List.mem_append.1 hm with hm | hm
  ·exact zli (fun p hp=>zlh hr hp) i l hm
  ·simp at hm
 have hkeep:∀ s ∈ wrs j.at_ (pcs (rowF r)),∃ i l,s=.wr i l∧∀ B,zf0 A B j.at_ (pcs (rowF r))→zf0 A (B.put i l) j.at_ (pcs (rowF r)):=fun s hs=>by
  unfold wrs at hs
  obtain ⟨i,hi,e⟩:=List.mem_mapIdx.1 hs
  exact ⟨_,_,e.symm,fun B hB=>zr4 hB (zady hi)⟩
 have hP0:zf0 A A j.at_ (pcs (rowF r)):=⟨rfl,fun k l hk=>by rw [h.still] at hk;cases hk⟩
 rw [E,EA,EJ]
 rcases zmr (zms A j.at_ (pcs (rowF r))) (wrs j.at_ (pcs (rowF r))) [] hkeep A hon hP0 with ⟨_,q1,q2,q3⟩ | ⟨_,_,q1,q2,q3⟩ | ⟨w0,w1,q1,q2,q3⟩
 ·exact .inr ⟨q2,q3,by rw [q2];rfl,q1,hsm⟩
 ·exact .inr ⟨q2,q3,by rw [q2];rfl,q1,hsm⟩
 ·have z:stpsE (wrs j.at_ (pcs (rowF r)) ++ .sy :: []) A=0:=q1
  obtain ⟨_,ws⟩:=zmq _ A hon w0
  refine .inl ⟨z,?_,by rw [q2];exact q3,by rw [if_pos z]⟩
  rw [if_pos z]
  refine h.laid hr hl hsm (fun k=>by rw [q2];rfl) (fun k=>?_)
  rw [q2]
  show (stpsA (wrs j.at_ (pcs (rowF r))) A).strA.sy.see k=_
  rw [zzo,zkr,ws]
end
section
open Sx (Ab z128 padN zbf)
def Back (A:Ab) (T:Int) (R R':List (Int × List Nat)):Prop:=∀ keep A',zbf A keep A'→∃ j',(Half A' j' R ∨ Half A' j' R')∧j'.turn ≤ T∧Calm A'∧∀ k,A'.loose k=none
theorem Holds.back {A:Ab} {j:Jr} {R:List (Int × List Nat)} (h:Holds A j R) (R':List (Int × List Nat)):Back A j.turn R R':=fun keep A' hc=>by
 obtain ⟨h1,h2⟩:=znh h hc
 exact ⟨j,.inl h1.half,Int.le_refl _,h2,hc.loose⟩
theorem zyt {A:Ab} (h:A.off=false):Calm (A.arm (-1)):=⟨h,by show Sx.intMax (-1) (-1) < 0;decide⟩
theorem Holds.append_back {A:Ab} {j:Jr} {R:List (Int × List Nat)} (h:Holds A j R) (hon:A.off=false) {r:Int × List Nat} (hr:zd3 r) (hl:(secL R).length + npc (rowF r) ≤ 255):
  (appE A j r.1 r.2=0∧Holds (appA A j r.1 r.2) (appJ A j r.1 r.2) (R ++ [r])∧(appA A j r.1 r.2).off=false∧(appJ A j r.1 r.2).turn=j.turn) ∨
  (appE A j r.1 r.2=9∧(appA A j r.1 r.2).off=true∧(appJ A j r.1 r.2).dead=true∧Back (appA A j r.1 r.2) (j.turn + 1) R (R ++ [r])∧Ab.Sm (appA A j r.1 r.2)):=by
 rcases h.append_armed hon hr hl with ⟨h1,h2,h3,h4⟩ | ⟨h1,h2,h3,h4,h5⟩
 ·exact .inl ⟨h1,h2,h3,by rw [h4]⟩
 ·refine .inr ⟨h1,h2,h3,fun keep A' hc=>?_,h5⟩
  obtain ⟨q1,q2,q3⟩:=zoe h hr hl h4 h5 hc
  rcases q1 with q1 | q1
  ·exact ⟨_,.inl q1,by omega,q2,q3⟩
  ·exact ⟨_,.inr q1,by show j.turn ≤ j.turn + 1;omega,q2,q3⟩
end
section
open Sx (Ab DW Turns Did Foot zbf)
def LastTo (A:Ab) (B:Ab):Prop:=B.loose=A.loose∧B.done=A.done∧∀ k,B.last k=A.last k ∨ ∃ l,A.loose k=some l∧(B.last k=some l ∨ B.last k=none)
theorem LastTo.one {A B:Ab} (h:LastTo A B) (K:List Int) (i:Nat) {k:Int} (hk:(A.loose k).isSome=true):LastTo A (crk1 K i k B):=by
 obtain ⟨h1,h2,h3⟩:=h
 obtain ⟨l,hl⟩:=Option.isSome_iff_exists.1 hk
 unfold crk1
 split
 ·refine ⟨h1,h2,fun j=>?_⟩
  show (if j=k then B.loose k else B.last j)=_ ∨ ∃ l,A.loose j=some l∧((if j=k then B.loose k else B.last j)=some l ∨ (if j=k then B.loose k else B.last j)=none)
  by_cases e:j=k
  ·subst e
   rw [if_pos rfl,h1,hl]
   exact .inr ⟨l,rfl,.inl rfl⟩
  ·rw [if_neg e]
   exact h3 j
 ·split
  ·refine ⟨h1,h2,fun j=>?_⟩
   show (if j=k then none else B.last j)=_ ∨ ∃ l,A.loose j=some l∧((if j=k then none else B.last j)=some l ∨ (if j=k then none else B.last j)=none)
   by_cases e:j=k
   ·subst e
    rw [if_pos rfl,hl]
    exact .inr ⟨l,rfl,.inr rfl⟩
   ·rw [if_neg e]
    exact h3 j
  ·exact ⟨h1,h2,h3⟩
theorem LastTo.all {A:Ab} (K:List Int):∀ (ks:List Int) (i:Nat) {B:Ab},LastTo A B→(∀ k ∈ ks,(A.loose k).isSome=true)→LastTo A (crk K ks i B)
 | [],_,_,h,_=>h
 | k :: r,i,_,h,hk=>LastTo.all K r (i + 1) (h.one K i (hk k (List.mem_cons_self ..))) fun j hj=>hk j (List.mem_cons_of_mem _ hj)
theorem zyu (i:Nat):zgr [] i=0:=by
 unfold zgr
 rw [List.getElem?_nil]
theorem zvn:∀ (ks:List Int) (i:Nat) (A:Ab),crk [] ks i A=A
 | [],_,_=>rfl
 | k :: r,i,A=>by
  have e:crk1 [] i k A=A:=by
   unfold crk1
   rw [zyu]
   rfl
  show crk [] r (i + 1) (crk1 [] i k A)=A
  rw [e]
  exact zvn r (i + 1) A
theorem zyv {K ks:List Int} {A:Ab} (hm:∀ k,k ∈ ks ↔ (A.loose k).isSome=true):zbf A K (zqa K ks A):=by
 have h:=LastTo.all (A:=A) K ks 0 ⟨rfl,rfl,fun _=>.inl rfl⟩ fun k hk=>(hm k).1 hk
 exact ⟨h.2.2,fun e=>by subst e;unfold zqa;rw [zvn];rfl,fun _=>rfl,rfl,rfl,h.2.1⟩
theorem zvo {w:World} {F:Foot} {dv:Value} {A:Ab} (H:DW w F dv A) {ao:Option Addr} {c:Nat} {K:List Int} (HK:KeepAt w ao K):Calls Tryz.prog 58 #[dv,.slice ao K.length c] w fun en w'=>∃ A',zbf A K A'∧Did F w dv A' (.tuple #[]) en w':=
 (zvl H HK).mono fun _ _ ⟨_,_,hm,hd⟩=>⟨_,zyv hm,hd⟩
end
section
open Sx (Ab zbf)
theorem Back.opens {A A':Ab} {T:Int} {R R':List (Int × List Nat)} (h:Back A T R R') {K:List Int} (hc:zbf A K A'):∃ A'' j',((zce A'=⟨0,A'',j',R⟩∧Holds A'' j' R) ∨ (zce A'=⟨0,A'',j',R'⟩∧Holds A'' j' R'))∧Calm A'':=by
 obtain ⟨j',q,_,hc',hl⟩:=h K A' hc
 rcases q with q | q
 ·obtain ⟨A'',o,hh,cc⟩:=q.open_calm hc' hl
  exact ⟨A'',j',.inl ⟨o,hh⟩,cc⟩
 ·obtain ⟨A'',o,hh,cc⟩:=q.open_calm hc' hl
  exact ⟨A'',j',.inr ⟨o,hh⟩,cc⟩
theorem Holds.back_opens {A A':Ab} {j:Jr} {R:List (Int × List Nat)} (h:Holds A j R) {K:List Int} (hc:zbf A K A'):∃ A'' j',zce A'=⟨0,A'',j',R⟩∧Holds A'' j' R∧Calm A'':=by
 obtain ⟨A'',j',q,cc⟩:=(h.back R).opens hc
 rcases q with q | q <;> exact ⟨A'',j',q.1,q.2,cc⟩
end
section
open Sx (Ab DW Turns Did Foot)
attribute [local go_sem ↓] zad
attribute [local go_sem] zaf zai zaj zal zab zah zac zak zae dm_t zkm
set_option maxHeartbeats 1000000 in
theorem zof {w:World} {D:Dm} (h:Dae w D) (hf:Forms w) {r:Rc} {L:List Nat} (hput:∀ w,Forms w→Calls Tryz.prog 233 #[.agg r.cells] w (zfp L w)) (hs:Small L) (hl:L.length < 1000000) {k:Int} (hE:appE D.A D.j 1 L=k) (k8:(k != 8)=true) {R':List (Int × List Nat)}:
  Calls Tryz.prog 173 #[.pointer (some ⟨D.xb,0,none⟩),.agg r.cells] w fun e w'=>e=.returned (.int .i64 k)∧∃ F',Dae0 false w' { D with F:=F',A:=appA D.A D.j 1 L,j:=appJ D.A D.j 1 L,R:=R',cal:=false }∧Trans w D w' { D with F:=F',A:=appA D.A D.j 1 L,j:=appJ D.A D.j 1 L,R:=R',cal:=false }:=by
 have H:=zadv h
 have HF:=zadv hf
 have HP:=zadv hput
 have HO:=zadv (zadx hs (zadx hl hE))
 clear h hf hput hs hl hE
 go_enter Tryz.func173,Tryz.ntmps173
 go_upto_region 1 with (fail)
 have bx:=Bx.new w (r.cells) 162;generalize w.alloc (.cells (r.cells) 162)=W at bx ⊢;have rx:=bx.rowOf;have sx:=bx.soft;have BX:=zadv bx;clear bx
 have P:=zadv (HP.out W (HF.out.keep (zadw _) BX.out.below))
 go_wp2_with fail
 refine P.out.mono ?_
 rintro _ V ⟨ao,c,rfl,hb,ho⟩
 have hbw:Below w.heap.size w V:=BX.out.below.trans (hb.mono BX.out.below.size)
 have h2:=H.out.below hbw
 have r0:=zaa h2.row
 unfold Dm.cells at r0
 have ap:zaao V D.F D.jb ao:=fun k o e=>by
  subst e
  have h1:=ho.lt k rfl
  refine ⟨h1.2,fun e=>?_,fun x hx=>?_⟩
  ·have:=H.out.jd.lt
   have:=BX.out.below.size
   omega
  ·have:=H.out.jd.dw.lt hx
   have:=BX.out.below.size
   omega
 have K:=zq1 h2.jd h2.hold.half.okJ 1 (Sl.own ho) HO.out.1 (by have:=HO.out.2.1;omega) ap
 rw [HO.out.2.2] at K
 have K:=zadv K
 have HB:=zadv hbw
 have H2:=zadv h2
 clear hb ho hbw h2 ap P rx sx BX
 go_wp2_with fail
 refine K.out.mono ?_
 rintro _ V2 ⟨rfl,F',q1,q2⟩
 have Q1:=zadv (H2.out.d0.went (R':=R') (c:=false) q1 q2)
 have Q2:=zadv ((Trans.below HB.out).trans (Trans.went' (A':=appA D.A D.j 1 L) (j':=appJ D.A D.j 1 L) (R':=R') (c:=false) q2))
 clear K q1 q2 r0
 go_wp2
 go_ret
 exact ⟨rfl,F',Q1.out,Q2.out⟩
theorem zvp {B B':List (Int × Sw)} {a:It} (ha:Adds B a B') (w:World) (hf:Forms w):Calls Tryz.prog 233 #[.agg a.rc.cells] w (zfp a.row.2 w):=by
 cases ha with
 | dl h1=>exact Put_D hf h1
 | se h1=>exact Put_S hf h1
theorem zks (a:It):a.row=(1,a.row.2):=by cases a <;> rfl
structure Fell (D:Dm) (L:List It) (a:It):Prop where
 back:∃ T,Back D.A T (zbc L) (zbc (L ++ [a]))
 sm:Ab.Sm D.A
theorem log_it {w:World} {D:Dm} (h:Dae w D) (hon:D.A.off=false) (hf:Forms w) {L:List It} (hR:D.R=zbc L) (hfit:(secL (zbc L)).length ≤ 200) {B B':List (Int × Sw)} {a:It} (ha:Adds B a B'):
  Calls Tryz.prog 173 #[.pointer (some ⟨D.xb,0,none⟩),.agg a.rc.cells] w fun e w'=>
   (e=.returned (.int .i64 0)∧∃ D',Dae w' D'∧D'.A.off=false∧(Calm D.A→Calm D'.A)∧D'.R=zbc (L ++ [a])∧D'.M=D.M∧Trans w D w' D') ∨
   (e=.returned (.int .i64 9)∧¬ Calm D.A∧∃ D',Dae0 false w' D'∧Fell D' L a∧D'.M=D.M∧Trans w D w' D'):=by
 obtain ⟨ok,_⟩:=It.ok ha
 have hlen:npc (rowF a.row) ≤ 4:=zzm ok
 have hok:zd3 (1,a.row.2):=by rw [← zks];exact ok
 have hfit2:(secL D.R).length + npc (rowF (1,a.row.2)) ≤ 255:=by rw [← zks,hR];omega
 have eR:zbc (L ++ [a])=D.R ++ [(1,a.row.2)]:=by rw [zn5,← hR,← zks]
 have hl:a.row.2.length < 1000000:=by have:=ok.2.2.1;omega
 by_cases hc:Calm D.A
 ·obtain ⟨h1,h2,h3,h4⟩:=h.hold.append hc hok hfit2
  refine (zof h hf (zvp ha) ok.2.2.2 hl h1 (by decide) (R':=D.R ++ [(1,a.row.2)])).mono ?_
  rintro e w' ⟨he,F',d,t⟩
  exact .inl ⟨he,_,d.dae h2 fun e=>(by cases e),h3.on,fun _=>h3,eR.symm,rfl,t⟩
 ·rcases h.hold.append_back hon hok hfit2 with ⟨h1,h2,h3,_⟩ | ⟨h1,h2,h3,h4,h5⟩
  ·refine (zof h hf (zvp ha) ok.2.2.2 hl h1 (by decide) (R':=D.R ++ [(1,a.row.2)])).mono ?_
   rintro e w' ⟨he,F',d,t⟩
   exact .inl ⟨he,_,d.dae h2 fun e=>(by cases e),h3,fun q=>absurd q hc,eR.symm,rfl,t⟩
  ·refine (zof h hf (zvp ha) ok.2.2.2 hl h1 (by decide) (R':=D.R)).mono ?_
   rintro e w' ⟨he,F',d,t⟩
   refine .inr ⟨he,hc,_,d,⟨⟨D.j.turn + 1,?_⟩,h5⟩,rfl,t⟩
   rw [eR,← hR]
   exact h4
theorem zz8 {w:World} {D:Dm} (h:Dae w D) (hB:Base w D) {B':List (Int × Sw)} {a:It} (ha:Adds (bkOf D.M) a B'):
  Calls Tryz.prog 114 #[.pointer (some ⟨D.bk,0,none⟩),.agg a.rc.cells] w fun e w'=>e=.returned (.int .i64 0)∧∃ M',Dae w' { D with M:=M' }∧bkOf M'=B'∧Trans w D w' { D with M:=M' }:=by
 cases ha with
 | dl h1 h2 h3 h4=>
  rename_i d
  refine (zacb h.bok h1 (zmc h3) (by rw [← zkn];exact h4)).mono ?_
  rintro e w' ⟨rfl,be,bm,q1,q2,q3,q4⟩
  have hM:∀ i,zc5 D.bk D.mb (putA D.M d.i ⟨be,bm,⟨d,1,false,Hs.zero⟩⟩) i 0→zc5 D.bk D.mb D.M i 0 ∨ w.heap.size ≤ i:=fun i hi=>by
   rcases zuu hi with h1 | rfl | rfl
   ·exact .inl h1
   ·exact .inr q3
   ·exact .inr q4
  exact ⟨rfl,_,h.booked q1 q2 (.inr (.inl rfl)) hM,zpt _ _ _,Trans.booked q2 (.inr (.inl rfl)) hM⟩
 | se h1 h2 h3 h4=>
  rename_i i s d
  obtain ⟨be,bm,hg⟩:=zeh h3
  refine (zacc hB.tabs h.bok h1 hg (s:=s) rfl h4).mono ?_
  rintro e w' ⟨rfl,q1,q2⟩
  have hin:zc5 D.bk D.mb D.M be 0:=.inr (.inr ⟨_,zb7 hg,.inl rfl⟩)
  have hin2:zc5 D.bk D.mb D.M bm 0:=.inr (.inr ⟨_,zb7 hg,.inr rfl⟩)
  have hMM:∀ j,zc5 D.bk D.mb (putA D.M i ⟨be,bm,⟨d,1,true,s⟩⟩) j 0→zc5 D.bk D.mb D.M j 0 ∨ w.heap.size ≤ j:=fun j hj=>by
   rcases zuu hj with h1 | rfl | rfl
   ·exact .inl h1
   ·exact .inl hin
   ·exact .inl hin2
  exact ⟨rfl,_,h.booked q1 q2 hin hMM,zpt _ _ _,Trans.booked q2 hin hMM⟩
structure On (w:World) (D:Dm) (L:List It) (B:List (Int × Sw)):Prop where
 dae:Dae w D
 on:D.A.off=false
 rows:D.R=zbc L
 book:bkOf D.M=B
 run:Run [] L B
theorem On.below {w w':World} {D:Dm} {L:List It} {B:List (Int × Sw)} (h:On w D L B) (hb:Below w.heap.size w w'):On w' D L B:=⟨h.dae.below hb,h.on,h.rows,h.book,h.run⟩
theorem On.fine {w:World} {D:Dm} {L:List It} {B:List (Int × Sw)} (h:On w D L B):Fine B:=Fine.nil.run h.run
def zch (B:List (Int × Sw)) (k:Int):Int:=if (getA B k).isSome then 13 else if B.length < 16 then 0 else 3
set_option maxHeartbeats 1000000 in
theorem zqd {w:World} {D:Dm} (h:Dae w D) (hF:Fine (bkOf D.M)) (k:Int):Calls Tryz.prog 108 #[.pointer (some ⟨D.xb,0,none⟩),.int .i64 k] w fun e w'=>e=.returned (.int .i64 (zch (bkOf D.M) k))∧Below w.heap.size w w':=by
 cases hg:getA (bkOf D.M) k with
 | some s=>
  obtain ⟨b,m,hq⟩:=zeh hg
  have e:zch (bkOf D.M) k=13:=by unfold zch;rw [hg];rfl
  rw [e]
  exact zrq h hq
 | none=>
  obtain ⟨hl,hi⟩:=hF.book
  have e:zch (bkOf D.M) k=if D.M.length < 16 then 0 else 3:=by unfold zch;rw [hg,zkn];rfl
  rw [e]
  generalize hre:(if D.M.length < 16 then (0:Int) else 3)=re
  have HRE:=zadv hre
  clear hre
  have hM:=zmc hg
  have r0:=zaa h.row
  have S:=zhb h.bok k
  have hb:=h.bok
  have hx:=(zadu h.row).1
  rw [hM] at S
  have S:Calls Tryz.prog 62 #[.pointer (some ⟨D.bk,0,none⟩),.int .i64 k] w fun e w'=>e=.returned (.tuple #[.agg Sw.zero.cells,.bool false])∧Below w.heap.size w w':=S
  have S:=zadv S
  have HK:=zadv hb
  have HR:=zadv h.row
  have HX:=zadv hx
  have HL:=zadv (zadx hl hi)
  unfold Dm.cells at r0 HR
  clear hM hb h hx hF hg e hl hi
  go_enter Tryz.func108,Tryz.ntmps108
  go_wp2_with fail
  refine S.out.mono ?_
  rintro _ W ⟨rfl,hb⟩
  have HB:=zadv hb
  clear r0 S hb
  go_upto_region 2 with (fail)
  have B2:=zadv (HB.out.trans ((Bx.made W Sw.zero.cells Sw.zero.cells 62).below.mono HB.out.size))
  generalize (W.alloc (.cells Sw.zero.cells 62)).setRow W.heap.size Sw.zero.cells=V at B2 ⊢
  have r1:=zaa ((B2.out.block _ HX.out).trans HR.out)
  have K:=zadv (zu2 (HK.out.below B2.out) HL.out.1 HL.out.2)
  clear HB
  go_wp2_with fail
  refine K.out.mono ?_
  rintro _ X ⟨v,ss,rfl,hp,ho,_,hb⟩
  obtain ⟨va,vc,rfl⟩:=za8 ho
  have hn:ss.length=D.M.length:=by rw [hp.length_eq,List.length_map]
  have lm:(ss.mergeSort leI').length=ss.length:=List.length_mergeSort ss
  have B3:=zadv (B2.out.trans (hb.mono B2.out.size))
  clear hb ho hp K r1
  rw [hn]
  clear lm hn
  by_cases hlt:D.M.length < 16
  ·have i1:((D.M.length:Int) ≥ 16)=False:=eq_false (by omega)
   obtain rfl:re=0:=by rw [← HRE.out,if_pos hlt]
   clear hlt
   go_wp2
   go_ret
   exact ⟨rfl,B3.out⟩
  ·have i1:((D.M.length:Int) ≥ 16)=True:=eq_true (by omega)
   obtain rfl:re=3:=by rw [← HRE.out,if_neg hlt]
   clear hlt
   go_wp2
   go_ret
   exact ⟨rfl,B3.out⟩
end
end Go.Proofs.YthjgiamfaijoeaaGreatDoor
