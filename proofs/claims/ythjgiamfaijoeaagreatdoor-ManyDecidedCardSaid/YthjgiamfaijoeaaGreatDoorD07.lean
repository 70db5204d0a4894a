/- What is proved: parts of the walk and of the plain law. No condition but those each law names. -/
import Derived.Test.YthjgiamfaijoeaaGreatDoorD06
import Derived.Test.YthjgiamfaijoeaaGreatDoorD00
set_option linter.unusedSimpArgs false
set_option linter.unusedVariables false
set_option maxRecDepth 100000
namespace Go.Proofs.YthjgiamfaijoeaaGreatDoor
open Go.RowKit
section
open Sx (Ab z128 padN)
theorem zf8 (k:Nat) (l more:List Nat):fr k l ++ more=k :: l.length % 256 :: l.length / 256 :: (l ++ (les (csum (hd k l)) 4 ++ more)):=by simp [fr,hd]
theorem zj3 (k n:Nat) (q:List Nat):gN (k :: n % 256 :: n / 256 :: q)=n:=by
 show n % 256 + 256 * (n / 256 + 256 * 0)=n
 omega
theorem zhy {k:Nat} {l:List Nat} (hk:0 < k) (hn:l.length ≤ 400) (more:List Nat):getE (fr k l ++ more)=0:=by
 have hN:gN (fr k l ++ more)=l.length:=by rw [zf8,zj3]
 have hlen:(fr k l ++ more).length=l.length + 7 + more.length:=by rw [List.length_append,zd7]
 have ht:(fr k l ++ more).take (3 + l.length)=hd k l:=by
  have:(fr k l ++ more)=hd k l ++ (les (csum (hd k l)) 4 ++ more):=by simp [fr]
  rw [this,show 3 + l.length=(hd k l).length by rw [zhk];omega,List.take_left]
 have hd4:((fr k l ++ more).drop (3 + l.length)).take 4=les (csum (hd k l)) 4:=by
  have:(fr k l ++ more)=hd k l ++ (les (csum (hd k l)) 4 ++ more):=by simp [fr]
  rw [this,show 3 + l.length=(hd k l).length by rw [zhk];omega,List.drop_left]
  exact List.take_left' (zbr _ 4)
 have hz:¬ (fr k l ++ more)[0]?=some 0:=by rw [zf8];simp;omega
 unfold getE
 rw [if_neg (by omega),if_neg hz,hN,if_neg (by omega),if_neg (by omega),if_neg]
 rw [ht,hd4,zaai]
 have:=zaag (hd k l)
 intro h
 apply h
 show csum (hd k l) % 256 ^ 4=csum (hd k l)
 omega
theorem zsx {k:Nat} {l:List Nat} (hk:0 < k) (hn:l.length ≤ 400) (more:List Nat):getB (fr k l ++ more)=l:=by
 unfold getB
 rw [if_pos (zhy hk hn more),zf8,zj3]
 simp
theorem zsy {k:Nat} {l:List Nat} (hk:0 < k) (hn:l.length ≤ 400) (more:List Nat):getK (fr k l ++ more)=k:=by
 unfold getK
 rw [if_pos (zhy hk hn more),zf8]
 rfl
theorem zaav {k:Nat} {l:List Nat} (hk:0 < k) (hn:l.length ≤ 400) (more:List Nat):getM (fr k l ++ more)=(l.length:Int) + 7:=by
 unfold getM
 rw [if_pos (zhy hk hn more),zf8,zj3]
 rfl
theorem zo9 {k:Nat} {l:List Nat} (hk:0 < k) (hn:l.length ≤ 400) {i:Nat} (hi:i < l.length + 7):getE ((fr k l).take i)=4:=by
 have hlen:((fr k l).take i).length=i:=by rw [List.length_take,zd7];omega
 unfold getE
 by_cases h3:i < 3
 ·rw [if_pos (by omega)]
 ·obtain ⟨j,rfl⟩:∃ j,i=j + 3:=⟨i - 3,by omega⟩
  have e:=zf8 k l []
  rw [List.append_nil] at e
  have e2:(fr k l).take (j + 3)=k :: l.length % 256 :: l.length / 256 :: (l ++ (les (csum (hd k l)) 4 ++ [])).take j:=by rw [e];rfl
  rw [if_neg (by omega),if_neg (by rw [e2];simp;omega),e2,zj3,if_neg (by omega),if_pos]
  rw [← e2,hlen];omega
def rowF (r:Int × List Nat):List Nat:=fr r.1.toNat r.2
def secs (r:Int × List Nat):List (List Nat):=(pcs (rowF r)).map padN
def zd3 (r:Int × List Nat):Prop:=1 ≤ r.1∧r.1 < 255∧r.2.length ≤ 400∧Small r.2
theorem zeo (r:Int × List Nat):(rowF r).length=r.2.length + 7:=zd7 _ _
theorem zq6 {r:Int × List Nat} (h:zd3 r):Small (rowF r):=by
 obtain ⟨h1,h2,h3,h4⟩:=h
 exact zjx (by omega) h3 h4
theorem zcm (r:Int × List Nat):(secs r).length=npc (rowF r):=by unfold secs;rw [List.length_map,zca]
theorem zg5 (r:Int × List Nat) {i:Nat} (h:i < npc (rowF r)):(secs r)[i]?=some (padN (pc (rowF r) i)):=by unfold secs;rw [List.getElem?_map,zhn _ h];rfl
theorem zsz (r:Int × List Nat):0 < npc (rowF r):=by unfold npc;rw [zeo];omega
theorem zzm {r:Int × List Nat} (h:zd3 r):npc (rowF r) ≤ 4:=by unfold npc;rw [zeo];have:=h.2.2.1;omega
theorem zhz (n:Nat):Small (List.replicate n 0):=fun x hx=>by rw [List.eq_of_mem_replicate hx];decide
theorem zq7 {l:List Nat} (h:Small l):Small (padN l):=h.append (zhz _)
theorem zj4 (L:List Nat) (i:Nat):(padN (pc L i)).getD 0 0=160 + i:=rfl
theorem zpa (L:List Nat) (i:Nat):∃ z,L.take (127 * i) ++ (padN (pc L i)).drop 1=L.take (127 * (i + 1)) ++ List.replicate z 0∧(127 * (i + 1) ≤ L.length→z=0):=by
 refine ⟨128 - (pc L i).length,?_,fun h=>?_⟩
 ·have e:(padN (pc L i)).drop 1=(L.drop (127 * i)).take 127 ++ List.replicate (128 - (pc L i).length) 0:=rfl
  rw [e,← List.append_assoc]
  congr 1
  rw [show 127 * (i + 1)=127 * i + 127 by omega,List.take_add]
 ·unfold pc
  rw [List.length_cons,List.length_take,List.length_drop]
  omega
def At (A:Ab) (p:Int) (S:List (List Nat)):Prop:=∀ (k:Nat) l,S[k]?=some l→A.see (p + k)=some l
theorem At.left {A:Ab} {p:Int} {S T:List (List Nat)} (h:At A p (S ++ T)):At A p S:=fun k l hk=>h k l (by rw [List.getElem?_append_left (List.getElem?_eq_some_iff.1 hk).1];exact hk)
theorem At.right {A:Ab} {p:Int} {S T:List (List Nat)} (h:At A p (S ++ T)):At A (p + S.length) T:=fun k l hk=>by
 have:=h (S.length + k) l (by rw [List.getElem?_append_right (by omega),Nat.add_sub_cancel_left];exact hk)
 rw [← this]
 congr 1
 omega
def Dud (o:Option (List Nat)):Prop:=∀ l,o=some l→l.getD 0 0 ≠ 160
theorem zj5 {A:Ab} {p end_:Int} (h:Dud (A.see p)):rowA A p end_=Rw.no p:=by
 unfold rowA
 cases hk:(end_ - p).toNat with
 | zero=>rfl
 | succ k=>
  rw [rowL]
  have e:p + ((0:Nat):Int)=p:=by omega
  rw [e]
  cases hs:A.see p with
  | none=>rfl
  | some l=>
   have:=h l hs
   exact if_pos (by omega)
theorem zw2 {A:Ab} {p:Int} {r:Int × List Nat} (hr:zd3 r) (h:At A p (secs r)):∀ (n i k:Nat),i + n=npc (rowF r)→0 < n→n ≤ k→rowL A p k i ((rowF r).take (127 * i))=⟨r.1,r.2,p + npc (rowF r),true⟩:=by
 obtain ⟨r1,r2,r3,r4⟩:=id hr
 have hL:=zeo r
 intro n
 induction n with
 | zero=>intro i k _ h0;exact absurd h0 (Nat.lt_irrefl 0)
 | succ n ih=>
  intro i k hi _ hk
  obtain ⟨k,rfl⟩:∃ q,k=q + 1:=⟨k - 1,by omega⟩
  rw [rowL,h i _ (zg5 r (by omega))]
  obtain ⟨z,hz,hz0⟩:=zpa (rowF r) i
  show (if (((padN (pc (rowF r) i)).getD 0 0:Nat):Int) ≠ 160 + i then _ else _)=_
  rw [zj4,if_neg (by omega)]
  simp only [hz]
  by_cases hn:n=0
  ·subst hn
   have ht:(rowF r).take (127 * (i + 1))=rowF r:=List.take_of_length_le (by unfold npc at hi;omega)
   rw [ht]
   have e1:getE (rowF r ++ List.replicate z 0)=0:=zhy (by omega) r3 _
   have e2:getK (rowF r ++ List.replicate z 0)=r.1:=by
    have:getK (rowF r ++ List.replicate z 0)=(r.1.toNat:Int):=zsy (by omega) r3 _
    rw [this];omega
   have e3:getB (rowF r ++ List.replicate z 0)=r.2:=zsx (by omega) r3 _
   have e4:getM (rowF r ++ List.replicate z 0)=(r.2.length:Int) + 7:=zaav (by omega) r3 _
   rw [if_pos e1,e2,e3,e4]
   have:(decide (r.1 ≠ 255) && decide (127 * (i:Int) < (r.2.length:Int) + 7))=true:=by
    rw [decide_eq_true (by omega),decide_eq_true (by unfold npc at hi;omega)]
    rfl
   rw [this]
   congr 1
   omega
  ·have hlt:127 * (i + 1) < r.2.length + 7:=by unfold npc at hi;omega
   have hz1:=hz0 (by omega)
   subst hz1
   rw [List.replicate_zero,List.append_nil]
   have e1:getE ((rowF r).take (127 * (i + 1)))=4:=zo9 (by omega) r3 hlt
   rw [e1,if_neg (by decide),if_neg (by decide)]
   exact ih (i + 1) k (by omega) (by omega) (by omega)
theorem row_at {A:Ab} {p end_:Int} {r:Int × List Nat} (hr:zd3 r) (h:At A p (secs r)) (he:p + npc (rowF r) ≤ end_):rowA A p end_=⟨r.1,r.2,p + npc (rowF r),true⟩:=by
 have:=zw2 hr h (npc (rowF r)) 0 (end_ - p).toNat (by omega) (zsz r) (by omega)
 simpa [rowA] using this
theorem zs0 {A:Ab} {p:Int} {r:Int × List Nat} (hr:zd3 r) (h:∀ i,i < npc (rowF r)→A.see (p + (i:Nat))=some (padN (pc (rowF r) i)) ∨ A.see (p + (i:Nat))=none ∨ A.see (p + (i:Nat))=some z128):
  ∀ (n i k:Nat),i + n=npc (rowF r)→(∃ m,i ≤ m∧m < npc (rowF r)∧A.see (p + (m:Nat)) ≠ some (padN (pc (rowF r) m)))→rowL A p k i ((rowF r).take (127 * i))=Rw.no p:=by
 obtain ⟨r1,r2,r3,r4⟩:=id hr
 have hL:=zeo r
 intro n
 induction n with
 | zero=>rintro i k hi ⟨m,h1,h2,_⟩;omega
 | succ n ih=>
  rintro i k hi ⟨m,h1,h2,h3⟩
  cases k with
  | zero=>rfl
  | succ k=>
   rw [rowL]
   rcases h i (by omega) with e | e | e
   ·have hne:i ≠ m:=fun q=>h3 (by rw [← q];exact e)
    rw [e]
    obtain ⟨z,hz,hz0⟩:=zpa (rowF r) i
    show (if (((padN (pc (rowF r) i)).getD 0 0:Nat):Int) ≠ 160 + i then _ else _)=_
    rw [zj4,if_neg (by omega)]
    simp only [hz]
    have hlt:127 * (i + 1) < r.2.length + 7:=by unfold npc at h2;omega
    have hz1:=hz0 (by omega)
    subst hz1
    rw [List.replicate_zero,List.append_nil]
    have e1:getE ((rowF r).take (127 * (i + 1)))=4:=zo9 (by omega) r3 hlt
    rw [e1,if_neg (by decide),if_neg (by decide)]
    exact ih (i + 1) k (by omega) ⟨m,by omega,h2,h3⟩
   ·rw [e]
   ·rw [e]
    exact if_pos (by show ((0:Nat):Int) ≠ 160 + i;omega)
theorem zw3 {A:Ab} {p end_:Int} {r:Int × List Nat} (hr:zd3 r) (h:∀ i,i < npc (rowF r)→A.see (p + (i:Nat))=some (padN (pc (rowF r) i)) ∨ A.see (p + (i:Nat))=none ∨ A.see (p + (i:Nat))=some z128)
  (hm:∃ m,m < npc (rowF r)∧A.see (p + (m:Nat)) ≠ some (padN (pc (rowF r) m))):rowA A p end_=Rw.no p:=by
 obtain ⟨m,h1,h2⟩:=hm
 have:=zs0 hr h (npc (rowF r)) 0 (end_ - p).toNat (by omega) ⟨m,Nat.zero_le _,h1,h2⟩
 simpa [rowA] using this
def secL (R:List (Int × List Nat)):List (List Nat):=R.flatMap secs
theorem zh0 (r:Int × List Nat) (R:List (Int × List Nat)):secL (r :: R)=secs r ++ secL R:=rfl
theorem zcj (R S:List (Int × List Nat)):secL (R ++ S)=secL R ++ secL S:=by simp [secL]
theorem zep (r:Int × List Nat):secL [r]=secs r:=by simp [secL]
def zpb (R:List (Int × List Nat)):Prop:=∀ r ∈ R,zd3 r
theorem zs1 (R:List (Int × List Nat)):R.length ≤ (secL R).length:=by
 induction R with
 | nil=>exact zadw _
 | cons r R ih=>rw [zh0,List.length_append,List.length_cons,zcm];have:=zsz r;omega
theorem zlc {A:Ab} {end_:Int} {R:List (Int × List Nat)} (hR:zpb R):∀ (m:Nat) (p:Int),R.length < m→At A p (secL R)→p + (secL R).length ≤ end_→(rowA A (p + (secL R).length) end_).ok=false→zci A end_ m p=(R,p + (secL R).length):=by
 induction R with
 | nil=>
  intro m p hm _ _ h
  obtain ⟨m,rfl⟩:∃ q,m=q + 1:=⟨m - 1,by simp at hm;omega⟩
  have e:p + ((secL []).length:Int)=p:=by show p + ((0:Nat):Int)=p;omega
  rw [e] at h ⊢
  rw [zci,h]
  rfl
 | cons r R ih=>
  intro m p hm h1 h2 h3
  obtain ⟨m,rfl⟩:∃ q,m=q + 1:=⟨m - 1,by simp at hm;omega⟩
  have hl:((secL (r :: R)).length:Int)=(npc (rowF r):Nat) + (secL R).length:=by rw [zh0,List.length_append,zcm];omega
  rw [hl] at h2 h3 ⊢
  rw [← Int.add_assoc] at h2 h3 ⊢
  have e:=row_at (hR r (by simp)) (h1.left (S:=secs r)) (end_:=end_) (by omega)
  have h4:=h1.right (S:=secs r)
  rw [zcm] at h4
  rw [zci,e,if_pos rfl]
  simp only
  rw [ih (fun x hx=>hR x (by simp [hx])) m _ (by simp at hm;omega) h4 h2 h3]
theorem zq8 {A:Ab} {first:Int} {R:List (Int × List Nat)} (hR:zpb R) (h1:At A (first + 1) (secL R)) (hl:(secL R).length ≤ 255) (h2:(rowA A (first + 1 + (secL R).length) (first + 256)).ok=false)
  (h3:∀ s:Int,first + 1 + (secL R).length < s→s < first + 256→Dud (A.see s)):zbn A first=(R,first + 1 + (secL R).length)∧zcv A (first + 1 + (secL R).length) (first + 256)=false:=by
 refine ⟨?_,?_⟩
 ·by_cases hq:R.length < 255
  ·exact zlc hR 255 _ hq h1 (by omega) h2
  ·have hg:=zs1 R
   have h255:R.length=255:=by omega
   have:=zlc (end_:=first + 256) hR 256 _ (by omega) h1 (by omega) h2
   rw [← this]
   unfold zbn
   have gen:∀ (m:Nat) (p:Int),(first + 256 - p).toNat ≤ m→zci A (first + 256) m p=zci A (first + 256) (m + 1) p:=by
    intro m
    induction m with
    | zero=>
     intro p hp
     rw [zci,zci]
     have:(rowA A p (first + 256)).ok=false:=by
      unfold rowA
      rw [show (first + 256 - p).toNat=0 by omega]
      rfl
     rw [this]
     rfl
    | succ m ih=>
     intro p hp
     rw [zci,zci]
     split
     ·rename_i hok
      have:=znd hok
      rw [ih _ (by omega)]
     ·rfl
   exact gen 255 _ (by omega)
 ·unfold zcv
  rw [List.any_eq_false]
  intro k hk
  have:=List.mem_range.1 hk
  rw [zj5 (h3 _ (by omega) (by omega))]
  exact Bool.false_ne_true
end
section
open Sx (Ab DW Turns Did Foot z128)
def Fb (F:Foot) (b:Nat):Foot:=fun k x=>F k x ∨ k=b
theorem Went.tb {F F':Foot} {b:Nat} {w w':World} (h:Went F b w F' w'):TB (Fb F b) w (Fb F' b) w':=
 ⟨⟨h.os,h.tape,h.output,h.size,fun k hk hf=>h.block k hk (fun e=>hf 0 (.inr e)) fun x hx=>hf x (.inl hx)⟩,fun i x hx=>hx.elim (fun h1=>(h.fb i x h1).imp .inl id) fun h1=>.inl (.inr h1)⟩
theorem TB.new {F F1 F2:Foot} {b:Nat} {w w1 w2:World} (h:TB F w F1 w1) (h':Went F1 b w1 F2 w2) (hb:w.heap.size ≤ b):TB F w F2 w2:=
 ⟨⟨h'.os.trans h.t.os,h'.tape.trans h.t.tape,h'.output.trans h.t.output,Nat.le_trans h.t.size h'.size,
  fun k hk hf=>(h'.block k (Nat.lt_of_lt_of_le hk h.t.size) (by omega) fun x hx=>(h.fb k x hx).elim (hf x) (by omega)).trans (h.t.block k hk hf)⟩,
  fun i x hx=>(h'.fb i x hx).elim (fun h1=>h.fb i x h1) fun h1=>.inr (Nat.le_trans h.t.size h1)⟩
theorem zfk {F:Foot} {w:World} {dv:Value} {A':Ab} {v:Value} {e:Ending} {w':World} (h:Did F w dv A' v e w'):e=.returned v∧∃ F',DW w' F' dv A'∧TB F w F' w':=by
 obtain ⟨h1,F',h2,h3,h4⟩:=h
 exact ⟨h1,F',h2,h3,h4⟩
theorem zw4 (A:Ab) (end_:Int):∀ (k:Nat) (at_:Int),at_ ≤ end_→at_ ≤ (zci A end_ k at_).2∧(zci A end_ k at_).2 ≤ end_:=by
 intro k
 induction k with
 | zero=>intro at_ h;exact ⟨Int.le_refl _,h⟩
 | succ k ih=>
  intro at_ h
  rw [zci]
  split
  ·rename_i hok
   have h1:=znd hok
   have h2:=ih _ h1.2
   simp only
   omega
  ·exact ⟨Int.le_refl _,h⟩
theorem zpc (A:Ab) (first:Int):first + 1 ≤ (zbn A first).2∧(zbn A first).2 ≤ first + 256:=zw4 A _ 255 _ (by omega)
theorem zne {w:World} {F:Foot} {dv:Value} {A:Ab} (H:DW w F dv A):∃ b o,dv=.pointer (some ⟨b,o,none⟩):=by
 obtain ⟨bd,r1,r2,bl,_,e,_⟩:=H
 exact ⟨bd,0,e⟩
def zgw (A:Ab):Int:=if turnA A 0 < turnA A 256 then 256 else 0
def zj6 (A:Ab):Int:=if turnA A 0 < turnA A 256 then turnA A 256 else turnA A 0
def newL:List Stp:=[.wr 0 (ze6 1),.sy]
def newJ:Jr:=⟨0,1,1,false⟩
def oldJ (A:Ab):Jr:=⟨zgw A,(zbn A (zgw A)).2,zj6 A,false⟩
structure Op where
 e:Int
 A:Ab
 j:Jr
 rows:List (Int × List Nat)
def zce (A:Ab):Op:=if A.off=true then ⟨9,A,newJ,[]⟩ else
 if zj6 A=0 then (if zd8 A=false then ⟨6,A,newJ,[]⟩ else ⟨stpsE newL A,stpsA newL A,newJ,[]⟩)
 else if zcv A (zbn A (zgw A)).2 (zgw A + 256)=true then ⟨6,A,newJ,[]⟩
 else ⟨stpsE (zb1 A (oldJ A)) A,stpsA (zb1 A (oldJ A)) A,oldJ A,(zbn A (zgw A)).1⟩
def RetOpen (F:Foot) (w:World) (dv:Value) (o:Op):Ending→World→Prop:=fun e w'=>∃ F',TB F w F' w'∧
 if o.e ≠ 0 then DW w' F' dv o.A∧e=.returned (.tuple #[.pointer none,.slice none 0 0,.int .i64 o.e])
 else ∃ b v L,e=.returned (.tuple #[.pointer (some ⟨b,0,none⟩),v,.int .i64 0])∧JD w' F' dv o.A b o.j∧w.heap.size ≤ b∧FrW w' (Fb F' b) w.heap.size v L∧told L=o.rows
theorem zld (l:List Nat):0 ≤ zd9 l:=by
 unfold zd9
 split
 ·exact Int.le_refl _
 split
 ·exact Int.le_refl _
 split
 ·exact Int.le_refl _
 split
 ·exact Int.le_refl _
 ·rename_i h
  split
  ·omega
  ·exact Int.le_refl _
theorem zgl (A:Ab) (i:Int):0 ≤ turnA A i:=by
 unfold turnA
 split
 ·exact Int.le_refl _
 ·exact zld _
theorem RetOpen.bad {F F':Foot} {w w':World} {dv:Value} {A:Ab} {o:Op} {k:Int} (ht:TB F w F' w') (hd:DW w' F' dv A) (h0:k ≠ 0) (he:o.e=k) (hA:o.A=A):RetOpen F w dv o (.returned (.tuple #[.pointer none,.slice none 0 0,.int .i64 k])) w':=
 ⟨F',ht,by rw [if_pos (by rw [he];exact h0),hA,he];exact ⟨hd,rfl⟩⟩
theorem RetOpen.good {F F':Foot} {w w':World} {dv:Value} {A:Ab} {o:Op} {b:Nat} {v:Value} {L:List Fm} {j:Jr} (ht:TB F w F' w') (hd:JD w' F' dv A b j) (he:o.e=0) (hA:o.A=A) (hj:o.j=j) (hb:w.heap.size ≤ b) (hf:FrW w' (Fb F' b) w.heap.size v L) (hr:told L=o.rows):
  RetOpen F w dv o (.returned (.tuple #[.pointer (some ⟨b,0,none⟩),v,.int .i64 0])) w':=
 ⟨F',ht,by rw [if_neg (by rw [he];simp),hA,hj];exact ⟨b,v,L,rfl,hd,hb,hf,hr⟩⟩
theorem zle (A:Ab) {j:Jr} (h:j.first + 256 - j.at_ ≤ 1000):(zb1 A j).length ≤ 100000:=by
 unfold zb1
 have:=znc A j.at_ (j.first + 256 - j.at_).toNat
 simp only
 split
 ·exact Nat.zero_le _
 ·rw [List.length_append]
  simp
  omega
theorem FrW.went {w w':World} {F F':Foot} {b B:Nat} {v:Value} {L:List Fm} (h:FrW w (Fb F b) B v L) (ht:Went F b w F' w'):FrW w' (Fb F' b) B v L:=h.tb ht.tb
theorem zzn {w:World} {F:Foot} {dv:Value} {A:Ab} (h:DW w F dv A) (j:Jr):JD (w.alloc (.cells (j.cells dv) 266)) F dv A w.heap.size j:=
 ⟨h.below (zat w _),heap_alloc_new w _,fun _ hx=>absurd (h.lt hx) (Nat.lt_irrefl _)⟩
set_option maxHeartbeats 4000000 in
theorem zw5 {w:World} {F:Foot} {dv:Value} {A:Ab} (H:DW w F dv A) (hA:Ab.Sm A):Calls Tryz.prog 111 #[dv] w (RetOpen F w dv (zce A)):=by
 obtain ⟨db,dof,rfl⟩:=zne H
 have R0:=zadv (Sx.down_w H)
 cases hoff:A.off with
 | true=>
  have e:zce A=⟨9,A,newJ,[]⟩:=if_pos hoff
  rw [e]
  rw [hoff] at R0
  clear H
  go_enter Tryz.func111,Tryz.ntmps111
  go_wp2_with (go_at_call 175;refine R0.out.mono ?_;rintro _ w1 h;obtain ⟨rfl,F1,d1,t1⟩:=zfk h)
  go_ret3
  exact RetOpen.bad t1 d1 (by decide) rfl rfl
 | false=>
  rw [hoff] at R0
  have e0:zce A=if zj6 A=0 then (if zd8 A=false then ⟨6,A,newJ,[]⟩ else ⟨stpsE newL A,stpsA newL A,newJ,[]⟩)
    else if zcv A (zbn A (zgw A)).2 (zgw A + 256)=true then ⟨6,A,newJ,[]⟩
    else ⟨stpsE (zb1 A (oldJ A)) A,stpsA (zb1 A (oldJ A)) A,oldJ A,(zbn A (zgw A)).1⟩:=if_neg (by rw [hoff];decide)
  have E0:=zadv e0
  clear H e0
  by_cases hgt:turnA A 0 < turnA A 256
  ·have eF:zgw A=256:=if_pos hgt
   have eT:zj6 A=turnA A 256:=if_pos hgt
   have h00:=zgl A 0
   have ET:=zadv eT
   have EF:=zadv eF
   have T0:=fun (w':World) (F':Foot) (h:DW w' F' (.pointer (some ⟨db,dof,none⟩)) A)=>zen h hA (i:=0) (by decide)
   have T1:=fun (w':World) (F':Foot) (h:DW w' F' (.pointer (some ⟨db,dof,none⟩)) A)=>zen h hA (i:=256) (by decide)
   generalize turnA A 0=t0 at *
   generalize turnA A 256=t1 at *
   have T0h:=zadv T0
   have T1h:=zadv T1
   clear T0 T1 eT eF
   go_enter Tryz.func111,Tryz.ntmps111
   go_wp2_with (go_at_call 175;refine R0.out.mono ?_;rintro _ w1 h;obtain ⟨rfl,F1,d1,tb1⟩:=zfk h;have D1:=zadv d1;have TB1:=zadv tb1;clear d1 tb1)
   refine (T0h.out _ _ D1.out).mono ?_
   rintro _ w2 h
   obtain ⟨rfl,F2,d2,tb2⟩:=zfk h
   have TB2:=zadv (TB1.out.trans tb2)
   have hbw:=TB2.out.t.size
   have j3:=zadv (zzn d2 ⟨0,0,t0,false⟩)
   have D2:=zadv (d2.below (zat w2 (.cells #[.pointer (some ⟨db,dof,none⟩),.int .i64 0,.int .i64 0,.int .i64 t0,.bool false] 266)))
   have TB3:=zadv (TB2.out.below (zat w2 (.cells #[.pointer (some ⟨db,dof,none⟩),.int .i64 0,.int .i64 0,.int .i64 t0,.bool false] 266)))
   clear d2 tb2 h
   go_wp2_with fail
   refine (T1h.out _ _ D2.out).mono ?_
   rintro _ w4 h
   obtain ⟨rfl,F4,d4,tb4⟩:=zfk h
   have j4:JD w4 F4 _ A w2.heap.size ⟨0,0,t0,false⟩:=j3.out.did d4 tb4.t tb4.fb
   have T4:=zadv (TB3.out.trans tb4)
   have J4:=zadv j4
   have c41:w4.cell? ⟨w2.heap.size,1,none⟩=some (.int .i64 0):=j4.cell 1
   have c43:w4.cell? ⟨w2.heap.size,3,none⟩=some (.int .i64 t0):=j4.cell 3
   have f41:=j4.unfrozen 1
   have f43:=j4.unfrozen 3
   clear j3 d4 tb4 h j4
   have HJ:=zadv ((J4.out.set (k:=1) (v:=.int .i64 256) (j':=⟨256,0,t0,false⟩) rfl).set (k:=3) (v:=.int .i64 t1) (j':=⟨256,0,t1,false⟩) rfl)
   have HW:=zadv (T4.out.new ((Went.of_set (F:=F4) (b:=w2.heap.size) (k:=1) (w:=w4) (v:=.int .i64 256)).trans (Went.of_set (k:=3) (v:=.int .i64 t1))) hbw)
   have hT:(t1 == 0)=false:=by rw [beq_eq_false_iff_ne];omega
   have hT0:¬ t1=0:=by omega
   go_wp2_with fail
   generalize hw5:((w4.setCell ⟨w2.heap.size,1,none⟩ (.int .i64 256)).setCell ⟨w2.heap.size,3,none⟩ (.int .i64 t1))=w5 at *
   generalize t1=turn at *
   have hJ:=HJ.out
   have c51:w5.cell? ⟨w2.heap.size,1,none⟩=some (.int .i64 (256:Int)):=hJ.cell 1
   have RW:=zadv (zo8 hJ.dw hA (.inr rfl))
   have hE:zce A=if zcv A (zbn A (256:Int)).2 ((256:Int) + 256)=true then ⟨6,A,newJ,[]⟩
     else ⟨stpsE (zb1 A ⟨(256:Int),(zbn A (256:Int)).2,turn,false⟩) A,stpsA (zb1 A ⟨(256:Int),(zbn A (256:Int)).2,turn,false⟩) A,⟨(256:Int),(zbn A (256:Int)).2,turn,false⟩,(zbn A (256:Int)).1⟩:=by
    rw [E0.out,ET.out,if_neg hT0]
    unfold oldJ
    rw [ET.out,EF.out]
   have HE:=zadv hE
   clear hE hJ
   refine RW.out.mono ?_
   rintro _ w6 ⟨F6,d6,tb6,hr⟩
   have J6:=zadv (HJ.out.did d6 tb6.t tb6.fb)
   have T6:=zadv (HW.out.trans tb6)
   clear d6 RW
   by_cases hsp:zcv A (zbn A (256:Int)).2 ((256:Int) + 256)=true
   ·rw [if_pos hsp] at hr
    subst hr
    have q:=zadv (HE.out.trans (if_pos hsp))
    clear HE tb6 hsp
    go_wp2
    go_ret3
    exact RetOpen.bad T6.out J6.out.dw (by decide) (by rw [q.out]) (by rw [q.out])
   ·rw [if_neg hsp] at hr
    obtain ⟨v6,L6,rfl,fr6,tl6⟩:=hr
    have q:=zadv (HE.out.trans (if_neg hsp))
    have hat:=zpc A (256:Int)
    obtain ⟨a6,c6',rfl⟩:=za8 fr6.fr.row
    have TL:=zadv tl6
    generalize (zbn A (256:Int)).1=rs at *
    generalize (zbn A (256:Int)).2=at_ at *
    have hz6:=HW.out.t.size
    have hbl:=J6.out.lt
    have hb5:=HJ.out.lt
    have FR:=zadv (show FrW w6 (Fb F6 w2.heap.size) w.heap.size (.slice a6 L6.length c6') L6 from ⟨⟨za0 fr6.fr.row hz6,fun f hf=>za0 (fr6.fr.body f hf) hz6,fr6.fr.apart⟩,fun k hk x hx=>hx.elim (fr6.clear k hk x) fun e=>absurd (fr6.fr.row.lt k hk).1 (by omega),fun f hf k hk x hx=>hx.elim (fr6.bclear f hf k hk x) fun e=>absurd ((fr6.fr.body f hf).lt k hk).1 (by omega)⟩)
    have c62:w6.cell? ⟨w2.heap.size,2,none⟩=some (.int .i64 0):=J6.out.cell 2
    have f62:=J6.out.unfrozen 2
    have HJ7:=zadv (J6.out.set (k:=2) (v:=.int .i64 at_) (j':=⟨(256:Int),at_,turn,false⟩) rfl)
    have HW7:=zadv (Went.of_set (F:=F6) (b:=w2.heap.size) (k:=2) (w:=w6) (v:=.int .i64 at_))
    clear HE hsp tb6 fr6 tl6
    go_wp2_with fail
    refine (zo6 HJ7.out ⟨(.inr rfl),by simp only;omega,by simp only;omega⟩ hA).mono ?_
    rintro _ w8 ⟨v8,F8,rfl,j8,wt8,st8⟩
    have J8:=zadv j8
    have W8:=zadv (HW7.out.trans wt8)
    have DA:=zadv (zg3 j8 st8 (zle A (by simp only;omega)))
    clear j8 wt8 st8
    go_wp2_with fail
    refine DA.out.mono ?_
    rintro _ w9 ⟨rfl,F9,j9,wt9⟩
    have W9:=zadv (W8.out.trans wt9)
    by_cases he:stpsE (zb1 A ⟨(256:Int),at_,turn,false⟩) A=0
    ·rw [he] at j9 ⊢
     have J9:=zadv (show JD w9 F9 (.pointer (some ⟨db,dof,none⟩)) (stpsA (zb1 A ⟨(256:Int),at_,turn,false⟩) A) w2.heap.size ⟨(256:Int),at_,turn,false⟩ from j9)
     have HQ:=zadv he
     clear j9 wt9 he
     go_wp2
     go_ret3
     exact RetOpen.good (T6.out.new W9.out hbw) J9.out (by rw [q.out];exact HQ.out) (by rw [q.out]) (by rw [q.out]) hbw (FR.out.went W9.out) (by rw [q.out];exact TL.out)
    ·have J9:=zadv j9
     have HQ:=zadv he
     have hb:(stpsE (zb1 A ⟨(256:Int),at_,turn,false⟩) A == 0)=false:=by rw [beq_eq_false_iff_ne];exact he
     have q1:(zce A).e=stpsE (zb1 A ⟨(256:Int),at_,turn,false⟩) A:=by rw [q.out]
     have q2:(zce A).A=stpsA (zb1 A ⟨(256:Int),at_,turn,false⟩) A:=by rw [q.out]
     have Q1:=zadv q1
     have Q2:=zadv q2
     clear j9 wt9 he q1 q2 q
     generalize stpsE (zb1 A ⟨(256:Int),at_,turn,false⟩) A=er at *
     go_wp2
     go_ret3
     exact RetOpen.bad (T6.out.new W9.out hbw) J9.out.dw HQ.out Q1.out Q2.out
  ·have eF:zgw A=0:=if_neg hgt
   have eT:zj6 A=turnA A 0:=if_neg hgt
   have h00:=zgl A 0
   have ET:=zadv eT
   have EF:=zadv eF
   have T0:=fun (w':World) (F':Foot) (h:DW w' F' (.pointer (some ⟨db,dof,none⟩)) A)=>zen h hA (i:=0) (by decide)
   have T1:=fun (w':World) (F':Foot) (h:DW w' F' (.pointer (some ⟨db,dof,none⟩)) A)=>zen h hA (i:=256) (by decide)
   generalize turnA A 0=t0 at *
   generalize turnA A 256=t1 at *
   have T0h:=zadv T0
   have T1h:=zadv T1
   clear T0 T1 eT eF
   go_enter Tryz.func111,Tryz.ntmps111
   go_wp2_with (go_at_call 175;refine R0.out.mono ?_;rintro _ w1 h;obtain ⟨rfl,F1,d1,tb1⟩:=zfk h;have D1:=zadv d1;have TB1:=zadv tb1;clear d1 tb1)
   refine (T0h.out _ _ D1.out).mono ?_
   rintro _ w2 h
   obtain ⟨rfl,F2,d2,tb2⟩:=zfk h
   have TB2:=zadv (TB1.out.trans tb2)
   have hbw:=TB2.out.t.size
   have j3:=zadv (zzn d2 ⟨0,0,t0,false⟩)
   have D2:=zadv (d2.below (zat w2 (.cells #[.pointer (some ⟨db,dof,none⟩),.int .i64 0,.int .i64 0,.int .i64 t0,.bool false] 266)))
   have TB3:=zadv (TB2.out.below (zat w2 (.cells #[.pointer (some ⟨db,dof,none⟩),.int .i64 0,.int .i64 0,.int .i64 t0,.bool false] 266)))
   clear d2 tb2 h
   go_wp2_with fail
   refine (T1h.out _ _ D2.out).mono ?_
   rintro _ w4 h
   obtain ⟨rfl,F4,d4,tb4⟩:=zfk h
   have j4:JD w4 F4 _ A w2.heap.size ⟨0,0,t0,false⟩:=j3.out.did d4 tb4.t tb4.fb
   have T4:=zadv (TB3.out.trans tb4)
   have J4:=zadv j4
   have c41:w4.cell? ⟨w2.heap.size,1,none⟩=some (.int .i64 0):=j4.cell 1
   have c43:w4.cell? ⟨w2.heap.size,3,none⟩=some (.int .i64 t0):=j4.cell 3
   have f41:=j4.unfrozen 1
   have f43:=j4.unfrozen 3
   clear j3 d4 tb4 h j4
   have HJ:=zadv J4.out
   have HW:=zadv T4.out
   by_cases hT0:t0=0
   ·subst hT0
    have c53:w4.cell? ⟨w2.heap.size,2,none⟩=some (.int .i64 0):=J4.out.cell 2
    have f53:=J4.out.unfrozen 2
    have HJ5:=zadv ((J4.out.set (k:=3) (v:=.int .i64 1) (j':=⟨0,0,1,false⟩) rfl).set (k:=2) (v:=.int .i64 1) (j':=newJ) rfl)
    have HW5:=zadv (T4.out.new ((Went.of_set (F:=F4) (b:=w2.heap.size) (k:=3) (w:=w4) (v:=.int .i64 1)).trans (Went.of_set (k:=2) (v:=.int .i64 1))) hbw)
    have hE:zce A=if zd8 A=false then ⟨6,A,newJ,[]⟩ else ⟨stpsE newL A,stpsA newL A,newJ,[]⟩:=by
     rw [E0.out,ET.out,if_pos rfl]
    have HE:=zadv hE
    clear hE
    have CL:=zadv (zsu HJ5.out.dw hA)
    go_wp2_with fail
    cases hcl:zd8 A with
    | false=>
     rw [hcl] at CL
     refine CL.out.mono ?_
     rintro _ w6 h
     obtain ⟨rfl,F6,d6,tb6⟩:=zfk h
     have q:=zadv (HE.out.trans (if_pos hcl))
     have D6:=zadv d6
     have T6:=zadv (HW5.out.trans tb6)
     clear h d6 tb6 HE
     go_wp2
     go_ret3
     exact RetOpen.bad T6.out D6.out (by decide) (by rw [q.out]) (by rw [q.out])
    | true=>
     rw [hcl] at CL
     refine CL.out.mono ?_
     rintro _ w6 h
     obtain ⟨rfl,F6,d6,tb6⟩:=zfk h
     have q:=zadv (HE.out.trans (if_neg (by rw [hcl];decide)))
     have J6:=zadv (HJ5.out.did d6 tb6.t tb6.fb)
     have T6:=zadv (HW5.out.trans tb6)
     clear h d6 tb6 HE
     go_wp2_with fail
     refine (zo1 1 (by decide) w6).mono ?_
     rintro _ w7 ⟨ao7,cap7,rfl,hb7,hown7⟩
     have J7:=zadv (J6.out.below hb7)
     have hlt7:=J6.out.lt
     have hF7:=zadv (fun (k x:Nat) (hf:F6 k x)=>J6.out.dw.lt hf)
     have W7:=zadv (Went.of_below (F:=F6) (b:=w2.heap.size) hb7)
     have WS:=zadv (zhu J7.out (i:=0) (by decide) (ao:=ao7) (n:=15) (c:=cap7) (l:=ze6 1) (by decide) (Sl.own hown7) (N:=w7.heap.size) (fun k o e=>by
      subst e
      obtain ⟨t1,t2⟩:=zem hown7
      exact ⟨t2,t2,by omega,fun x hx=>absurd (hF7.out k x hx) (by omega)⟩))
     clear hb7 hown7
     go_wp2_with fail
     refine WS.out.mono ?_
     rintro _ w8 ⟨u,rfl,u1,hb8,hst8⟩
     obtain ⟨b1,b2,b3,q1',q2',q3',hu,hrest⟩:=id hst8
     subst hu
     clear hrest u1
     have hb9:=zat w8 (.cells #[.func (.func 250) #[] #[.pointer (some ⟨b1,0,none⟩),.pointer (some ⟨b2,0,none⟩),.pointer (some ⟨b3,0,none⟩)],.func (.func 181) #[.pointer (some ⟨db,dof,none⟩)] #[]] 83)
     have hz8:=hb8.size
     have hz7:=W7.out.size
     have J9:=(J7.out.below hb8).below hb9
     have hst9:StpsAt (w8.alloc (.cells #[.func (.func 250) #[] #[.pointer (some ⟨b1,0,none⟩),.pointer (some ⟨b2,0,none⟩),.pointer (some ⟨b3,0,none⟩)],.func (.func 181) #[.pointer (some ⟨db,dof,none⟩)] #[]] 83)) F6 w2.heap.size (.pointer (some ⟨db,dof,none⟩)) (.slice (some ⟨w8.heap.size,0,none⟩) 2 2) newL:=by
      refine ⟨⟨w8.heap.size,_,zju w8 w8.heap.size 83 #[.func (.func 250) #[] #[.pointer (some ⟨b1,0,none⟩),.pointer (some ⟨b2,0,none⟩),.pointer (some ⟨b3,0,none⟩)],.func (.func 181) #[.pointer (some ⟨db,dof,none⟩)] #[]] (zadw _) (show 2 ≤ maxLen by decide),fun i s hs=>?_⟩,fun k hk=>?_⟩
      ·match i,hs with
       | 0,hs=>cases hs;exact ⟨_,rfl,w7.heap.size,hst8.went (Went.of_below hb9)⟩
       | 1,hs=>cases hs;exact ⟨_,rfl,0,rfl⟩
      ·obtain rfl:w8.heap.size=k:=by simpa [Value.ownBlock] using hk
       exact ⟨by omega,fun x hx=>absurd (hF7.out _ x hx) (by omega)⟩
     have DA:=zadv (zg3 J9 hst9 (by decide))
     have W9:=zadv ((W7.out.trans (Went.of_below (F:=F6) (b:=w2.heap.size) hb8)).trans (Went.of_below (F:=F6) (b:=w2.heap.size) hb9))
     clear hst8 hst9 J9 hb8 hb9
     go_wp2_with fail
     refine DA.out.mono ?_
     rintro _ w9 ⟨rfl,F9,j9,wt9⟩
     have WA:=zadv (W9.out.trans wt9)
     by_cases he:stpsE newL A=0
     ·rw [he] at j9 ⊢
      have J9:=zadv (show JD w9 F9 (.pointer (some ⟨db,dof,none⟩)) (stpsA newL A) w2.heap.size newJ from j9)
      have HQ:=zadv he
      clear j9 wt9 he
      go_wp2
      go_ret3
      exact RetOpen.good (T6.out.new WA.out hbw) J9.out (by rw [q.out];exact HQ.out) (by rw [q.out]) (by rw [q.out]) hbw (FrW.nil _ _ _) (by rw [q.out];rfl)
     ·have J9:=zadv j9
      have HQ:=zadv he
      have hb:(stpsE newL A == 0)=false:=by rw [beq_eq_false_iff_ne];exact he
      have q1:(zce A).e=stpsE newL A:=by rw [q.out]
      have q2:(zce A).A=stpsA newL A:=by rw [q.out]
      have Q1:=zadv q1
      have Q2:=zadv q2
      clear j9 wt9 he q1 q2 q
      generalize stpsE newL A=er at *
      go_wp2
      go_ret3
      exact RetOpen.bad (T6.out.new WA.out hbw) J9.out.dw HQ.out Q1.out Q2.out
   ·have hT:(t0 == 0)=false:=by rw [beq_eq_false_iff_ne];exact hT0
    go_wp2_with fail
    generalize w4=w5 at *
    generalize t0=turn at *
    have hJ:=HJ.out
    have c51:w5.cell? ⟨w2.heap.size,1,none⟩=some (.int .i64 (0:Int)):=hJ.cell 1
    have RW:=zadv (zo8 hJ.dw hA (.inl rfl))
    have hE:zce A=if zcv A (zbn A (0:Int)).2 ((0:Int) + 256)=true then ⟨6,A,newJ,[]⟩
      else ⟨stpsE (zb1 A ⟨(0:Int),(zbn A (0:Int)).2,turn,false⟩) A,stpsA (zb1 A ⟨(0:Int),(zbn A (0:Int)).2,turn,false⟩) A,⟨(0:Int),(zbn A (0:Int)).2,turn,false⟩,(zbn A (0:Int)).1⟩:=by
     rw [E0.out,ET.out,if_neg hT0]
     unfold oldJ
     rw [ET.out,EF.out]
    have HE:=zadv hE
    clear hE hJ
    refine RW.out.mono ?_
    rintro _ w6 ⟨F6,d6,tb6,hr⟩
    have J6:=zadv (HJ.out.did d6 tb6.t tb6.fb)
    have T6:=zadv (HW.out.trans tb6)
    clear d6 RW
    by_cases hsp:zcv A (zbn A (0:Int)).2 ((0:Int) + 256)=true
    ·rw [if_pos hsp] at hr
     subst hr
     have q:=zadv (HE.out.trans (if_pos hsp))
     clear HE tb6 hsp
     go_wp2
     go_ret3
     exact RetOpen.bad T6.out J6.out.dw (by decide) (by rw [q.out]) (by rw [q.out])
    ·rw [if_neg hsp] at hr
     obtain ⟨v6,L6,rfl,fr6,tl6⟩:=hr
     have q:=zadv (HE.out.trans (if_neg hsp))
     have hat:=zpc A (0:Int)
     obtain ⟨a6,c6',rfl⟩:=za8 fr6.fr.row
     have TL:=zadv tl6
     generalize (zbn A (0:Int)).1=rs at *
     generalize (zbn A (0:Int)).2=at_ at *
     have hz6:=HW.out.t.size
     have hbl:=J6.out.lt
     have hb5:=HJ.out.lt
     have FR:=zadv (show FrW w6 (Fb F6 w2.heap.size) w.heap.size (.slice a6 L6.length c6') L6 from ⟨⟨za0 fr6.fr.row hz6,fun f hf=>za0 (fr6.fr.body f hf) hz6,fr6.fr.apart⟩,fun k hk x hx=>hx.elim (fr6.clear k hk x) fun e=>absurd (fr6.fr.row.lt k hk).1 (by omega),fun f hf k hk x hx=>hx.elim (fr6.bclear f hf k hk x) fun e=>absurd ((fr6.fr.body f hf).lt k hk).1 (by omega)⟩)
     have c62:w6.cell? ⟨w2.heap.size,2,none⟩=some (.int .i64 0):=J6.out.cell 2
     have f62:=J6.out.unfrozen 2
     have HJ7:=zadv (J6.out.set (k:=2) (v:=.int .i64 at_) (j':=⟨(0:Int),at_,turn,false⟩) rfl)
     have HW7:=zadv (Went.of_set (F:=F6) (b:=w2.heap.size) (k:=2) (w:=w6) (v:=.int .i64 at_))
     clear HE hsp tb6 fr6 tl6
     go_wp2_with fail
     refine (zo6 HJ7.out ⟨(.inl rfl),by simp only;omega,by simp only;omega⟩ hA).mono ?_
     rintro _ w8 ⟨v8,F8,rfl,j8,wt8,st8⟩
     have J8:=zadv j8
     have W8:=zadv (HW7.out.trans wt8)
     have DA:=zadv (zg3 j8 st8 (zle A (by simp only;omega)))
     clear j8 wt8 st8
     go_wp2_with fail
     refine DA.out.mono ?_
     rintro _ w9 ⟨rfl,F9,j9,wt9⟩
     have W9:=zadv (W8.out.trans wt9)
     by_cases he:stpsE (zb1 A ⟨(0:Int),at_,turn,false⟩) A=0
     ·rw [he] at j9 ⊢
      have J9:=zadv (show JD w9 F9 (.pointer (some ⟨db,dof,none⟩)) (stpsA (zb1 A ⟨(0:Int),at_,turn,false⟩) A) w2.heap.size ⟨(0:Int),at_,turn,false⟩ from j9)
      have HQ:=zadv he
      clear j9 wt9 he
      go_wp2
      go_ret3
      exact RetOpen.good (T6.out.new W9.out hbw) J9.out (by rw [q.out];exact HQ.out) (by rw [q.out]) (by rw [q.out]) hbw (FR.out.went W9.out) (by rw [q.out];exact TL.out)
     ·have J9:=zadv j9
      have HQ:=zadv he
      have hb:(stpsE (zb1 A ⟨(0:Int),at_,turn,false⟩) A == 0)=false:=by rw [beq_eq_false_iff_ne];exact he
      have q1:(zce A).e=stpsE (zb1 A ⟨(0:Int),at_,turn,false⟩) A:=by rw [q.out]
      have q2:(zce A).A=stpsA (zb1 A ⟨(0:Int),at_,turn,false⟩) A:=by rw [q.out]
      have Q1:=zadv q1
      have Q2:=zadv q2
      clear j9 wt9 he q1 q2 q
      generalize stpsE (zb1 A ⟨(0:Int),at_,turn,false⟩) A=er at *
      go_wp2
      go_ret3
      exact RetOpen.bad (T6.out.new W9.out hbw) J9.out.dw HQ.out Q1.out Q2.out
end
end Go.Proofs.YthjgiamfaijoeaaGreatDoor
