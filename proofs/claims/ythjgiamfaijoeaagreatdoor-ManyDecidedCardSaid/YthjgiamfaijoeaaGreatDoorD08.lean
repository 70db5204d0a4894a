/- What is proved: parts of the walk and of the plain law. No condition but those each law names. -/
import Derived.Test.YthjgiamfaijoeaaGreatDoorD07
import Derived.Test.YthjgiamfaijoeaaGreatDoorD00
set_option linter.unusedSimpArgs false
set_option linter.unusedVariables false
set_option maxRecDepth 100000
namespace Go.Proofs.YthjgiamfaijoeaaGreatDoor
open Go.RowKit
section
open Sx (Ab z128 padN)
theorem zh1 (a b:Nat) (ha:a < 9223372036854775808) (hb:b < 9223372036854775808):bits .or .i64 (a:Int) (b:Int)=((a ||| b:Nat):Int):=by
 have hx:a ||| b < 2 ^ 63:=Nat.or_lt_two_pow (by omega) (by omega)
 have h1:(BitVec.ofInt 64 (a:Int)).toNat=a:=by
  rw [BitVec.ofInt_natCast,BitVec.toNat_ofNat];exact Nat.mod_eq_of_lt (by omega)
 have h2:(BitVec.ofInt 64 (b:Int)).toNat=b:=by
  rw [BitVec.ofInt_natCast,BitVec.toNat_ofNat];exact Nat.mod_eq_of_lt (by omega)
 show IntKind.i64.wrap ((BitVec.ofInt 64 (a:Int) ||| BitVec.ofInt 64 (b:Int)).toNat:Int)=_
 rw [BitVec.toNat_or,h1,h2,IntKind.wrap_i64]
 omega
theorem zs2 (x:Nat):∀ (k j:Nat),j < k→(les x k).getD j 0=x / 256 ^ j % 256:=by
 intro k j
 induction k generalizing x j with
 | zero=>intro h;exact absurd h (Nat.not_lt_zero j)
 | succ k ih=>
  intro h
  cases j with
  | zero=>show x % 256=x / 256 ^ 0 % 256;rw [Nat.pow_zero,Nat.div_one]
  | succ j=>
   show (les (x / 256) k).getD j 0=_
   rw [ih _ _ (by omega),Nat.div_div_eq_div_mul,Nat.pow_succ,Nat.mul_comm]
theorem zw6 {m:Nat} (hm:m < 9223372036854775808):∀ j,j ≤ 8→tnum (les m 8) j=((m % 256 ^ j:Nat):Int):=by
 intro j
 induction j with
 | zero=>intro _;show (0:Int)=_;rw [Nat.pow_zero,Nat.mod_one];rfl
 | succ j ih=>
  intro h
  rw [tnum,ih (by omega),zs2 m 8 j (by omega)]
  unfold tstep
  have e1:((m / 256 ^ j % 256:Nat):Int) * 2 ^ (8 * j)=((m / 256 ^ j % 256 * 256 ^ j:Nat):Int):=by
   rw [← zhm]
   push_cast
   rfl
  have hp:0 < 256 ^ j:=Nat.pow_pos (by decide)
  have h1:m / 256 ^ j % 256 * 256 ^ j ≤ m:=Nat.le_trans (Nat.mul_le_mul_right _ (Nat.mod_le _ _)) (Nat.div_mul_le_self _ _)
  have h2:m % 256 ^ j < 256 ^ j:=Nat.mod_lt _ hp
  have h3:m % 256 ^ j ≤ m:=Nat.mod_le _ _
  rw [e1,show wrap64 ((m / 256 ^ j % 256 * 256 ^ j:Nat):Int)=((m / 256 ^ j % 256 * 256 ^ j:Nat):Int) from IntWalk.wrap64_in _ (by omega),zh1 _ _ (by omega) (by omega)]
  congr 1
  rw [Nat.pow_succ,Nat.mod_mul,Nat.or_comm,Nat.mul_comm (m / 256 ^ j % 256),← zhm,← Nat.two_pow_add_eq_or_of_lt (by rw [zhm];exact h2)]
  omega
theorem zaaw {m:Nat} (h1:1 ≤ m) (hm:m < 9223372036854775808):zd9 (fl m)=m:=by
 have e1:getE (fl m)=0:=zhy (by decide) (by rw [zbr];decide) _
 have e2:getK (fl m)=255:=zsy (by decide) (by rw [zbr];decide) _
 have e3:getB (fl m)=les m 8:=zsx (by decide) (by rw [zbr];decide) _
 have e4:tnum (les m 8) 8=m:=by rw [zw6 hm 8 (zadw _),Nat.mod_eq_of_lt (by omega)]
 unfold zd9
 rw [e1,e2,e3,zbr,e4,if_neg (by decide),if_neg (by decide),if_neg (by decide),if_neg (by omega),Int.toNat_natCast,if_pos rfl]
theorem zw7 {A:Ab} {i:Int} {m:Nat} (h:A.see i=some (fl m)) (h1:1 ≤ m) (hm:m < 9223372036854775808):turnA A i=m:=by
 unfold turnA
 rw [h]
 exact zaaw h1 hm
theorem zaax:zd9 z128=0:=by
 unfold zd9
 exact if_pos (by decide)
theorem zs3 {A:Ab} {i:Int} (h:A.see i=some z128):turnA A i=0:=by
 unfold turnA
 rw [h]
 exact zaax
theorem zc2 {A A':Ab} {i:Int} (h:A'.see i=A.see i):turnA A' i=turnA A i:=by
 unfold turnA
 rw [h]
theorem zs4 (m:Nat):padN (ze6 m)=fl m:=by
 unfold padN fl
 rw [zk3]
structure Calm (A:Ab):Prop where
 on:A.off=false
 left:A.left < 0
theorem Calm.str {A:Ab} (h:Calm A):A.str=false∧A.strA=A:=by
 unfold Sx.Ab.str Sx.Ab.strA
 rw [decide_eq_true h.left,if_pos h.left]
 exact ⟨rfl,rfl⟩
theorem zs5 (A:Ab) (i:Int) (l:List Nat) (k:Int):(A.put i l).see k=if k=i then some (padN l) else A.see k:=by
 unfold Sx.Ab.see Sx.Ab.put
 simp only
 by_cases h:k=i
 ·rw [if_pos h,if_pos h]
 ·rw [if_neg h,if_neg h]
theorem Calm.put {A:Ab} (h:Calm A) (i:Int) (l:List Nat):Calm (A.put i l):=⟨h.on,h.left⟩
theorem Calm.wr {A:Ab} (h:Calm A) (i:Int) (l:List Nat):A.wr i l=A.put i l∧A.wrE i l=0:=by
 unfold Sx.Ab.wr Sx.Ab.wrE
 rw [h.on,(h.put i l).str.1,(h.put i l).str.2]
 exact ⟨rfl,rfl⟩
theorem zzo (A:Ab) (k:Int):A.sy.see k=A.see k:=by
 unfold Sx.Ab.see Sx.Ab.sy Sx.Ab.syLast
 rfl
theorem Calm.sy {A:Ab} (h:Calm A):Calm A.sy:=⟨h.on,h.left⟩
theorem Calm.syc {A:Ab} (h:Calm A):A.syc=A.sy∧A.sycE=0:=by
 unfold Sx.Ab.syc Sx.Ab.sycE
 rw [h.on,h.str.1,h.str.2]
 exact ⟨rfl,rfl⟩
def seeF:List Stp→(Int→Option (List Nat))→Int→Option (List Nat)
 | [],f=>f
 | .wr i l :: r,f=>seeF r fun k=>if k=i then some (padN l) else f k
 | .sy :: r,f=>seeF r f
theorem zh2 (L M:List Stp) (f:Int→Option (List Nat)):seeF (L ++ M) f=seeF M (seeF L f):=by
 induction L generalizing f with
 | nil=>rfl
 | cons s L ih=>cases s <;> exact ih _
theorem zlf (L:List Stp):∀ A,Calm A→stpsE L A=0∧Calm (stpsA L A)∧∀ k,(stpsA L A).see k=seeF L A.see k:=by
 induction L with
 | nil=>intro A h;exact ⟨rfl,h,fun k=>rfl⟩
 | cons s L ih=>
  intro A h
  cases s with
  | wr i l=>
   obtain ⟨h1,h2⟩:=h.wr i l
   have e1:stpsE (.wr i l :: L) A=stpsE L (A.put i l):=by
    show (if A.wrE i l=0 then stpsE L (A.wr i l) else A.wrE i l)=_
    rw [if_pos h2,h1]
   have e2:stpsA (.wr i l :: L) A=stpsA L (A.put i l):=by
    show (if A.wrE i l=0 then stpsA L (A.wr i l) else A.wr i l)=_
    rw [if_pos h2,h1]
   rw [e1,e2]
   obtain ⟨a,b,c⟩:=ih _ (h.put i l)
   refine ⟨a,b,fun k=>(c k).trans ?_⟩
   show seeF L _ k=seeF L _ k
   congr 1
   funext q
   exact zs5 A i l q
  | sy=>
   obtain ⟨h1,h2⟩:=h.syc
   have e1:stpsE (.sy :: L) A=stpsE L A.sy:=by
    show (if A.sycE=0 then stpsE L A.syc else A.sycE)=_
    rw [if_pos h2,h1]
   have e2:stpsA (.sy :: L) A=stpsA L A.sy:=by
    show (if A.sycE=0 then stpsA L A.syc else A.syc)=_
    rw [if_pos h2,h1]
   rw [e1,e2]
   obtain ⟨a,b,c⟩:=ih _ h.sy
   refine ⟨a,b,fun k=>(c k).trans ?_⟩
   show seeF L _ k=seeF L _ k
   congr 1
theorem zpd (L M:List Stp):∀ A,stpsE L A=0→stpsE (L ++ M) A=stpsE M (stpsA L A)∧stpsA (L ++ M) A=stpsA M (stpsA L A):=by
 induction L with
 | nil=>intro A _;exact ⟨rfl,rfl⟩
 | cons s L ih=>
  intro A h
  show (if s.e A=0 then stpsE (L ++ M) (s.A A) else s.e A)=stpsE M (if s.e A=0 then stpsA L (s.A A) else s.A A)∧(if s.e A=0 then stpsA (L ++ M) (s.A A) else s.A A)=stpsA M (if s.e A=0 then stpsA L (s.A A) else s.A A)
  have h2:(if s.e A=0 then stpsE L (s.A A) else s.e A)=0:=h
  by_cases hs:s.e A=0
  ·rw [if_pos hs] at h2
   rw [if_pos hs,if_pos hs,if_pos hs]
   exact ih _ h2
  ·rw [if_neg hs] at h2
   exact absurd h2 hs
theorem ze7 (L:List Stp) {A:Ab} (h:Calm A):stpsE (L ++ [.sy]) A=0∧Calm (stpsA (L ++ [.sy]) A)∧(∀ k,(stpsA (L ++ [.sy]) A).see k=seeF L A.see k)∧∀ k,(stpsA (L ++ [.sy]) A).loose k=none:=by
 obtain ⟨a,b,c⟩:=zlf (L ++ [.sy]) A h
 obtain ⟨a1,b1,c1⟩:=zlf L A h
 refine ⟨a,b,fun k=>by rw [c,zh2];rfl,fun k=>?_⟩
 rw [(zpd L [.sy] A a1).2]
 show (if (stpsA L A).sycE=0 then stpsA [] (stpsA L A).syc else (stpsA L A).syc).loose k=none
 rw [b1.syc.1,b1.syc.2]
 rfl
def WrSm (L:List Stp):Prop:=∀ i l,Stp.wr i l ∈ L→Small l
theorem sm_put {A:Ab} (h:Ab.Sm A) (i:Int) {l:List Nat} (hl:Small l):Ab.Sm (A.put i l):=fun k q hq=>by
 rcases hq with hq | hq
 ·exact h k q (.inl hq)
 ·have:(if k=i then some (padN l) else A.loose k)=some q:=hq
  split at this
  ·cases this;exact zq7 hl
  ·exact h k q (.inr this)
theorem znf {A:Ab} (h:Ab.Sm A):Ab.Sm A.strA:=by
 unfold Sx.Ab.strA
 split
 ·exact h
 ·exact fun k l hl=>h k l hl
theorem sm_wr {A:Ab} (h:Ab.Sm A) (i:Int) {l:List Nat} (hl:Small l):Ab.Sm (A.wr i l):=by
 unfold Sx.Ab.wr
 split
 ·exact h
 ·exact znf (sm_put h i hl)
theorem sm_sy {A:Ab} (h:Ab.Sm A):Ab.Sm A.sy:=fun k l hl=>by
 rcases hl with hl | hl
 ·have:A.syLast k=some l:=hl
  unfold Sx.Ab.syLast at this
  split at this
  ·rename_i l2 h2
   cases this
   exact h k _ (.inr h2)
  ·exact h k l (.inl this)
 ·cases hl
theorem sm_syc {A:Ab} (h:Ab.Sm A):Ab.Sm A.syc:=by
 unfold Sx.Ab.syc
 split
 ·exact h
 split
 ·exact znf h
 ·exact sm_sy (znf h)
theorem zj7 (L:List Stp):∀ A,Ab.Sm A→WrSm L→Ab.Sm (stpsA L A):=by
 induction L with
 | nil=>intro A h _;exact h
 | cons s L ih=>
  intro A h hw
  have hs:Ab.Sm (s.A A):=by
   cases s with
   | wr i l=>exact sm_wr h i (hw i l (by simp))
   | sy=>exact sm_syc h
  show Ab.Sm (if s.e A=0 then stpsA L (s.A A) else s.A A)
  split
  ·exact ih _ hs fun i l hl=>hw i l (by simp [hl])
  ·exact hs
theorem zpe (at_:Int) (p:List Nat) (ps:List (List Nat)):wrs at_ (p :: ps)=.wr at_ p :: wrs (at_ + 1) ps:=by
 unfold wrs
 rw [List.mapIdx_cons]
 congr 1
 ·show Stp.wr (at_ + ((0:Nat):Int)) p=_
  congr 1
  omega
 ·congr 1
  funext i q
  congr 1
  omega
theorem ze8 (ps:List (List Nat)):∀ (at_:Int) (f:Int→Option (List Nat)) (k:Int),(k < at_ ∨ at_ + ps.length ≤ k)→seeF (wrs at_ ps) f k=f k:=by
 induction ps with
 | nil=>intro at_ f k _;rfl
 | cons p ps ih=>
  intro at_ f k h
  rw [List.length_cons] at h
  rw [zpe]
  show seeF (wrs (at_ + 1) ps) (fun q=>if q=at_ then some (padN p) else f q) k=_
  rw [ih _ _ k (by omega)]
  exact if_neg (by omega)
theorem zs6 (ps:List (List Nat)):∀ (at_:Int) (f:Int→Option (List Nat)) (i:Nat) (p:List Nat),ps[i]?=some p→seeF (wrs at_ ps) f (at_ + i)=some (padN p):=by
 induction ps with
 | nil=>intro at_ f i p h;simp at h
 | cons q ps ih=>
  intro at_ f i p h
  rw [zpe]
  show seeF (wrs (at_ + 1) ps) (fun k=>if k=at_ then some (padN q) else f k) _=_
  cases i with
  | zero=>
   cases h
   rw [ze8 ps _ _ _ (by omega)]
   exact if_pos (by omega)
  | succ i=>
   have:=ih (at_ + 1) (fun k=>if k=at_ then some (padN q) else f k) i p h
   rw [← this]
   congr 1
   omega
theorem zs7 (A:Ab) (at_:Int):∀ (k:Nat) (s:Int),seeF (tdy A at_ k) A.see s=if at_ ≤ s∧s < at_ + k then some z128 else A.see s:=by
 intro k
 induction k with
 | zero=>intro s;rw [if_neg (by omega)];rfl
 | succ k ih=>
  intro s
  rw [zg4,zh2]
  by_cases hz:A.see (at_ + k)=some z128
  ·rw [if_pos hz]
   show seeF (tdy A at_ k) A.see s=_
   rw [ih s]
   by_cases hs:s=at_ + k
   ·subst hs
    rw [if_neg (by omega),if_pos (by omega),hz]
   ·by_cases h2:at_ ≤ s∧s < at_ + k
    ·rw [if_pos h2,if_pos (by omega)]
    ·rw [if_neg h2,if_neg (by omega)]
  ·rw [if_neg hz]
   show (if s=at_ + k then some (padN []) else seeF (tdy A at_ k) A.see s)=_
   by_cases hs:s=at_ + k
   ·rw [if_pos hs,if_pos (by omega)];rfl
   ·rw [if_neg hs,ih s]
    by_cases h2:at_ ≤ s∧s < at_ + k
    ·rw [if_pos h2,if_pos (by omega)]
    ·rw [if_neg h2,if_neg (by omega)]
theorem zs8 (A:Ab) (at_:Int) (k:Nat):WrSm (tdy A at_ k):=by
 induction k with
 | zero=>intro i l h;simp [tdy] at h
 | succ k ih=>
  intro i l h
  rw [zg4] at h
  rcases List.mem_append.1 h with h | h
  ·exact ih i l h
  ·split at h
   ·simp at h
   ·rw [List.mem_singleton] at h
    cases h
    exact fun x hx=>by cases hx
end
section
open Sx (Ab z128 padN)
structure Half (A:Ab) (j:Jr) (R:List (Int × List Nat)):Prop where
 sm:Ab.Sm A
 f:j.first=0 ∨ j.first=256
 t:1 ≤ j.turn∧j.turn < 4611686018427387904
 live:j.dead=false
 ok:zpb R
 len:(secL R).length ≤ 255
 at_:j.at_=j.first + 1 + (secL R).length
 head:A.see j.first=some (fl j.turn.toNat)
 body:At A (j.first + 1) (secL R)
 part:(rowA A j.at_ (j.first + 256)).ok=false
 duds:∀ s,j.at_ < s→s < j.first + 256→Dud (A.see s)
 other:turnA A (256 - j.first) < j.turn
structure Holds (A:Ab) (j:Jr) (R:List (Int × List Nat)):Prop where
 half:Half A j R
 still:∀ k,A.loose k=none
 rest:∀ s,j.at_ ≤ s→s < j.first + 256→A.see s=some z128
theorem Half.okJ {A:Ab} {j:Jr} {R:List (Int × List Nat)} (h:Half A j R):j.Ok:=by
 have:=h.len
 have:=h.at_
 exact ⟨h.f,by omega,by omega⟩
theorem Half.own {A:Ab} {j:Jr} {R:List (Int × List Nat)} (h:Half A j R):turnA A j.first=j.turn:=by
 have h1:=h.t
 have:=zw7 h.head (by omega) (by omega)
 omega
theorem Half.pick {A:Ab} {j:Jr} {R:List (Int × List Nat)} (h:Half A j R):zgw A=j.first∧zj6 A=j.turn:=by
 have h1:=h.own
 have h2:=h.other
 unfold zgw zj6
 rcases h.f with e | e
 ·rw [e] at h1 h2 ⊢
  have e2:(256:Int) - 0=256:=rfl
  rw [e2] at h2
  rw [if_neg (by omega),if_neg (by omega)]
  exact ⟨rfl,h1⟩
 ·rw [e] at h1 h2 ⊢
  have e2:(256:Int) - 256=0:=rfl
  rw [e2] at h2
  rw [if_pos (by omega),if_pos (by omega)]
  exact ⟨rfl,h1⟩
theorem Half.rows {A:Ab} {j:Jr} {R:List (Int × List Nat)} (h:Half A j R):zbn A j.first=(R,j.at_)∧zcv A j.at_ (j.first + 256)=false:=by
 have h1:=h.part
 have h2:=h.duds
 rw [h.at_] at h1 h2 ⊢
 exact zq8 h.ok h.body h.len h1 h2
theorem Half.opens {A:Ab} {j:Jr} {R:List (Int × List Nat)} (h:Half A j R) (hon:A.off=false):zce A=⟨stpsE (zb1 A j) A,stpsA (zb1 A j) A,j,R⟩:=by
 have hj:oldJ A=j:=by
  unfold oldJ
  rw [h.pick.1,h.pick.2,h.rows.1]
  have:=h.live
  cases j
  simp_all
 unfold zce
 rw [if_neg (by rw [hon];decide),hj,h.pick.1,h.pick.2,h.rows.1]
 have:=h.t
 simp only
 rw [if_neg (by omega),if_neg (by rw [h.rows.2];decide)]
theorem zlg:Dud (some z128):=fun l h=>by
 cases h
 decide
theorem Half.congr {A A':Ab} {j:Jr} {R:List (Int × List Nat)} (h:Half A j R) (hsm:Ab.Sm A') (h1:A'.see j.first=A.see j.first) (h2:∀ s,j.first < s→s < j.at_→A'.see s=A.see s) (h3:∀ s,j.at_ ≤ s→s < j.first + 256→A'.see s=some z128)
  (h4:turnA A' (256 - j.first) < j.turn):Half A' j R:=by
 refine ⟨hsm,h.f,h.t,h.live,h.ok,h.len,h.at_,h1.trans h.head,fun k l hk=>?_,?_,fun s q1 q2=>by rw [h3 s (by omega) q2];exact zlg,h4⟩
 ·have hl:=(List.getElem?_eq_some_iff.1 hk).1
  have:=h.at_
  rw [h2 _ (by omega) (by omega)]
  exact h.body k l hk
 ·by_cases hlt:j.at_ < j.first + 256
  ·rw [zj5 (by rw [h3 j.at_ (Int.le_refl _) hlt];exact zlg)]
   rfl
  ·unfold rowA
   rw [show (j.first + 256 - j.at_).toNat=0 by omega]
   rfl
theorem zj8 {A:Ab} {j:Jr} {R:List (Int × List Nat)} (sm:Ab.Sm A) (f:j.first=0 ∨ j.first=256) (t:1 ≤ j.turn∧j.turn < 4611686018427387904) (live:j.dead=false) (ok:zpb R) (len:(secL R).length ≤ 255)
  (at_:j.at_=j.first + 1 + (secL R).length) (head:A.see j.first=some (fl j.turn.toNat)) (body:At A (j.first + 1) (secL R)) (other:turnA A (256 - j.first) < j.turn) (still:∀ k,A.loose k=none)
  (rest:∀ s,j.at_ ≤ s→s < j.first + 256→A.see s=some z128):Holds A j R:=by
 refine ⟨⟨sm,f,t,live,ok,len,at_,head,body,?_,fun s q1 q2=>by rw [rest s (by omega) q2];exact zlg,other⟩,still,rest⟩
 by_cases hlt:j.at_ < j.first + 256
 ·rw [zj5 (by rw [rest j.at_ (Int.le_refl _) hlt];exact zlg)]
  rfl
 ·unfold rowA
  rw [show (j.first + 256 - j.at_).toNat=0 by omega]
  rfl
theorem Half.open_calm {A:Ab} {j:Jr} {R:List (Int × List Nat)} (h:Half A j R) (hc:Calm A) (hl:∀ k,A.loose k=none):∃ A',zce A=⟨0,A',j,R⟩∧Holds A' j R∧Calm A':=by
 have hj:=h.okJ
 have j1:=hj.lo
 have j2:=hj.hi
 have hlt:=h.at_
 rw [h.opens hc.on]
 by_cases ht:tdy A j.at_ (j.first + 256 - j.at_).toNat=[]
 ·have e:zb1 A j=[]:=by unfold zb1;simp only [ht,if_pos]
  rw [e]
  refine ⟨A,rfl,⟨h,hl,fun s q1 q2=>?_⟩,hc⟩
  have:=zs7 A j.at_ (j.first + 256 - j.at_).toNat s
  rw [ht,if_pos (by omega)] at this
  exact this
 ·have e:zb1 A j=tdy A j.at_ (j.first + 256 - j.at_).toNat ++ [.sy]:=by unfold zb1;simp only [if_neg ht]
  rw [e]
  obtain ⟨s1,s2,s3,s4⟩:=ze7 (tdy A j.at_ (j.first + 256 - j.at_).toNat) hc
  have hsee:∀ k,(stpsA (tdy A j.at_ (j.first + 256 - j.at_).toNat ++ [.sy]) A).see k=if j.at_ ≤ k∧k < j.at_ + ((j.first + 256 - j.at_).toNat:Nat) then some z128 else A.see k:=fun k=>by rw [s3,zs7]
  have hsm:Ab.Sm (stpsA (tdy A j.at_ (j.first + 256 - j.at_).toNat ++ [.sy]) A):=zj7 _ _ h.sm fun i l hm=>by
   rcases List.mem_append.1 hm with hm | hm
   ·exact zs8 A _ _ i l hm
   ·simp at hm
  refine ⟨_,by rw [s1],?_,s2⟩
  generalize stpsA (tdy A j.at_ (j.first + 256 - j.at_).toNat ++ [.sy]) A=A' at *
  have hr:∀ s,j.at_ ≤ s→s < j.first + 256→A'.see s=some z128:=fun s q1 q2=>by rw [hsee,if_pos (by omega)]
  refine ⟨h.congr hsm ?_ (fun s q1 q2=>?_) hr ?_,s4,hr⟩
  ·rw [hsee,if_neg (by omega)]
  ·rw [hsee,if_neg (by omega)]
  ·rw [zc2 (show A'.see (256 - j.first)=A.see (256 - j.first) by rw [hsee,if_neg (by rcases h.f with e | e <;> omega)])]
   exact h.other
theorem zs9 {r:Int × List Nat} (hr:zd3 r):laidE r.1 r.2.length=0∧zdc r.1 r.2=rowF r:=by
 obtain ⟨h1,h2,h3,h4⟩:=hr
 have e:putE r.1 r.2.length=0:=by unfold putE;rw [if_neg (by omega),if_neg (by omega)]
 refine ⟨by unfold laidE;rw [if_neg (by omega),e],?_⟩
 unfold zdc putL rowF
 rw [if_neg (by omega),if_pos e]
theorem zlh {r:Int × List Nat} (hr:zd3 r) {p:List Nat} (hp:p ∈ pcs (rowF r)):Small p:=by
 unfold pcs at hp
 obtain ⟨i,hi,rfl⟩:=List.mem_map.1 hp
 intro x hx
 unfold pc at hx
 rcases List.mem_cons.1 hx with rfl | hx
 ·have:=zzm hr
  have:=List.mem_range.1 hi
  omega
 ·exact zq6 hr x (List.mem_of_mem_drop (List.mem_of_mem_take hx))
theorem zli {at_:Int} {ps:List (List Nat)} (h:∀ p ∈ ps,Small p):WrSm (wrs at_ ps):=fun i l hl=>by
 unfold wrs at hl
 obtain ⟨k,hk,e⟩:=List.mem_mapIdx.1 hl
 cases e
 exact h _ (List.getElem_mem hk)
theorem Holds.append {A:Ab} {j:Jr} {R:List (Int × List Nat)} (h:Holds A j R) (hc:Calm A) {r:Int × List Nat} (hr:zd3 r) (hl:(secL R).length + npc (rowF r) ≤ 255):
  appE A j r.1 r.2=0∧Holds (appA A j r.1 r.2) (appJ A j r.1 r.2) (R ++ [r])∧Calm (appA A j r.1 r.2)∧appJ A j r.1 r.2={ j with at_:=j.at_ + npc (rowF r) }:=by
 obtain ⟨e1,e2⟩:=zs9 hr
 have ha:=h.half.at_
 have g:(j.dead || A.off)=false:=by rw [h.half.live,hc.on];rfl
 have hroom:¬ j.first + 256 - j.at_ < (npc (rowF r):Nat):=by omega
 have e3:appL j r.1 r.2=wrs j.at_ (pcs (rowF r)) ++ [.sy]:=by unfold appL;rw [e2]
 obtain ⟨s1,s2,s3,s4⟩:=ze7 (wrs j.at_ (pcs (rowF r))) hc
 have E:appE A j r.1 r.2=0:=by unfold appE;rw [g,e1,e2,e3];simp [hroom,s1]
 have EA:appA A j r.1 r.2=stpsA (wrs j.at_ (pcs (rowF r)) ++ [.sy]) A:=by unfold appA;rw [g,e1,e2,e3];simp [hroom]
 have EJ:appJ A j r.1 r.2={ j with at_:=j.at_ + npc (rowF r) }:=by unfold appJ;rw [g,e1,e2,e3];simp [hroom,s1]
 refine ⟨E,?_,by rw [EA];exact s2,EJ⟩
 rw [EA,EJ]
 have hsm:Ab.Sm (stpsA (wrs j.at_ (pcs (rowF r)) ++ [.sy]) A):=zj7 _ _ h.half.sm fun i l hm=>by
  rcases List.mem_append.1 hm with hm | hm
  ·exact zli (fun p hp=>zlh hr hp) i l hm
  ·simp at hm
 generalize stpsA (wrs j.at_ (pcs (rowF r)) ++ [.sy]) A=A' at *
 have hout:∀ k,(k < j.at_ ∨ j.at_ + (npc (rowF r):Nat) ≤ k)→A'.see k=A.see k:=fun k hk=>by rw [s3,ze8 _ _ _ _ (by rw [zca];exact hk)]
 have hlen:(secL (R ++ [r])).length=(secL R).length + npc (rowF r):=by rw [zcj,List.length_append,zep,zcm]
 have hb:∀ s,j.at_ ≤ s→s < j.first + 256→A.see s=some z128:=h.rest
 refine zj8 hsm h.half.f h.half.t h.half.live ?_ (by rw [hlen];exact hl) (by rw [hlen];simp only;omega) ?_ ?_ ?_ s4 ?_
 ·intro x hx
  rcases List.mem_append.1 hx with hx | hx
  ·exact h.half.ok x hx
  ·rw [List.mem_singleton] at hx;rw [hx];exact hr
 ·rw [hout _ (by simp only;omega)];exact h.half.head
 ·intro k l hk
  rw [zcj,zep] at hk
  by_cases hlt:k < (secL R).length
  ·rw [List.getElem?_append_left hlt] at hk
   rw [hout _ (by simp only;omega)]
   exact h.half.body k l hk
  ·rw [List.getElem?_append_right (by omega)] at hk
   have hk2:=(List.getElem?_eq_some_iff.1 hk).1
   rw [zcm] at hk2
   rw [zg5 r hk2] at hk
   cases hk
   have:=zs6 (pcs (rowF r)) j.at_ A.see (k - (secL R).length) _ (zhn (rowF r) hk2)
   rw [← s3] at this
   rw [← this]
   congr 1
   simp only
   omega
 ·rw [zc2 (show A'.see (256 - j.first)=A.see (256 - j.first) from hout _ (by rcases h.half.f with e | e <;> omega))]
  exact h.half.other
 ·intro s q1 q2
  simp only at q1 q2
  rw [hout _ (by omega)]
  exact hb s (by omega) q2
theorem zw8:Calm Sx.ab0:=⟨rfl,by decide⟩
theorem zzp:Ab.Sm Sx.ab0:=fun k l h=>by
 rcases h with h | h
 ·cases h;exact zhz _
 ·cases h
theorem zng (m:Nat):Small (ze6 m):=zjx (by decide) (by rw [zbr];decide) (zc1 _ _)
theorem zw9 {A:Ab} (hc:Calm A) (hsm:Ab.Sm A) (h0:turnA A 0=0) (h1:turnA A 256=0) (hz:∀ k:Nat,k < 512→k % 256 ≠ 0→A.see k=some z128):∃ A',zce A=⟨0,A',newJ,[]⟩∧Holds A' newJ []∧Calm A'∧A'.see 256=A.see 256:=by
 have e1:zj6 A=0:=by unfold zj6;rw [h0,h1];rfl
 have e2:zd8 A=true:=by
  unfold zd8
  rw [List.all_eq_true]
  intro k hk
  have:=List.mem_range.1 hk
  unfold zq2
  by_cases hm:k % 256=0
  ·rw [hm];rfl
  ·rw [hz k this hm]
   simp
 have e3:zce A=⟨stpsE newL A,stpsA newL A,newJ,[]⟩:=by
  unfold zce
  rw [if_neg (by rw [hc.on];decide),if_pos e1,if_neg (by rw [e2];decide)]
 obtain ⟨s1,s2,s3,s4⟩:=ze7 [.wr 0 (ze6 1)] hc
 have hsm2:Ab.Sm (stpsA ([.wr 0 (ze6 1)] ++ [.sy]) A):=zj7 _ _ hsm fun i l hm=>by
  simp only [List.singleton_append,List.mem_cons,List.not_mem_nil,or_false] at hm
  rcases hm with hm | hm
  ·cases hm;exact zng 1
  ·cases hm
 have e4:newL=[.wr 0 (ze6 1)] ++ [.sy]:=rfl
 rw [e3,e4]
 generalize stpsA ([.wr 0 (ze6 1)] ++ [.sy]) A=A' at *
 have hsee:∀ k,A'.see k=if k=0 then some (fl 1) else A.see k:=fun k=>by
  rw [s3]
  show (if k=0 then some (padN (ze6 1)) else A.see k)=_
  rw [zs4]
 refine ⟨A',by rw [s1],zj8 hsm2 (.inl rfl) (by decide) rfl (fun r h=>by simp at h) (Nat.zero_le _) rfl ?_ (fun k l h=>by simp [secL] at h) ?_ s4 ?_,s2,?_⟩
 ·show A'.see 0=_
  rw [hsee 0,if_pos rfl];rfl
 ·have:A'.see (256 - newJ.first)=A.see 256:=by
   show A'.see (256 - 0)=_
   rw [show (256:Int) - 0=256 from rfl,hsee,if_neg (by decide)]
  rw [zc2 (A:=A) (i:=256) (A':=A') (by rw [hsee,if_neg (by decide)]) |> fun h=>(show turnA A' (256 - newJ.first)=turnA A 256 from h),h1]
  decide
 ·intro s q1 q2
  have a1:(1:Int) ≤ s:=q1
  have a2:s < 0 + 256:=q2
  rw [hsee,if_neg (by omega)]
  have:=hz s.toNat (by omega) (by omega)
  rw [show ((s.toNat:Nat):Int)=s by omega] at this
  exact this
 ·rw [hsee,if_neg (by decide)]
end
section
end
end Go.Proofs.YthjgiamfaijoeaaGreatDoor
