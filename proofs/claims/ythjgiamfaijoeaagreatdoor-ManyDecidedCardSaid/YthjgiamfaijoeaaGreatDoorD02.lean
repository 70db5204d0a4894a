/- What is proved: parts of the walk and of the plain law. No condition but those each law names. -/
import Derived.Deep.MidRow
import Derived.Laws.CopyRow
import Derived.Laws.CopyOwn
import Derived.WalkKit
import Derived.StillTail
import Derived.Deep.Quiet
import Derived.BigQuiet
import Derived.Below
import Derived.DeepKeys
import Derived.Deep.Upon
import Derived.Laws.MakeOwn
import Derived.Laws.Externs
import Derived.KernelRfl
import Derived.Scope
import Derived.LoopN
import Derived.Deep.LoopGhost
import Derived.MapKept
import Derived.Lib.SlBytesConst
import Derived.Laws.IdiomStrings
import Derived.WideKeyRuns
import Derived.Laws.BytesString
import Derived.Test.YthjgiamfaijoeaaGreatDoorProg
import Derived.ProofKit
import Derived.Maps.Ext
import Derived.Maps.RangeRun
import Derived.Deep.WholeRow
import Derived.Great.Walk
import Derived.Maps.RangeWalk
import Derived.Test.YthjgiamfaijoeaaGreatDoorD00
set_option linter.unusedSimpArgs false
set_option linter.unusedVariables false
set_option maxRecDepth 100000
namespace Go.Proofs.YthjgiamfaijoeaaGreatDoor
section
namespace Sx
open Go.RowKit
variable {α:Type}
def intMax (x y:Int):Int:=if x < y then y else x
abbrev OneV:={ v:Value // v.oneCell'=true }
def hatV (v:Value) (k:Nat):Value:=match v with
 | .slice (some a) _ _=>.pointer (some ⟨a.block,a.off + k,none⟩)
 | .pointer (some a)=>.pointer (some ⟨a.block,a.off + k,none⟩)
 | _=>.pointer (some ⟨0,k,none⟩)
def concC (h:Nat→OneV) (v:Value):Value:=match v with
 | .pointer (some ⟨n,0,some 1⟩)=>(h n).val
 | .pointer (some ⟨n,k,some 2⟩)=>hatV (h n).val k
 | v=>v
def concA (h:Nat→OneV) (v:Value):Value:=match v with
 | .agg cs=>.agg (cs.map (concC h))
 | v=>concC h v
def concE (h:Nat→OneV) (v:Value):Value:=match v with
 | .tuple cs=>.tuple (cs.map (concA h))
 | v=>concA h v
open Go.RowKit
theorem zjf {w:World} {i o:Nat} (h:(w.cell? ⟨i,o,none⟩).isSome=true):i < w.heap.size:=by
 unfold World.cell? at h
 cases hq:w.heap[i]? with
 | none=>simp [hq] at h
 | some o=>exact (zadu hq).1
theorem cell_there {w:World} {i o:Nat}:(w.cell? ⟨i,o,none⟩).isSome=true ↔ ∃ e n,w.shape? i=some (e,n)∧o < n:=by
 unfold World.cell? World.shape?
 cases hq:w.heap[i]? with
 | none=>simp
 | some ob=>
  cases ob with
  | cells c e f=>
   simp only [Option.isSome_none,Bool.false_eq_true,if_false,Option.some.injEq,Prod.mk.injEq,isSome_getElem?]
   exact ⟨fun h=>⟨_,_,⟨rfl,rfl⟩,h⟩,fun ⟨_,_,⟨_,e⟩,h⟩=>by rw [e];exact h⟩
  | _=>simp
def Sane (w:World) (i:Nat):Prop:=∀ c e lo hi,w.heap[i]?=some (.cells c e (lo,hi))→lo ≤ hi
def zbu (w:World) (i:Nat):Option (Nat × Nat):=match w.heap[i]? with
 | some (.cells _ _ f)=>some f
 | _=>none
theorem zgu {w w':World} {i:Nat} (h:w'.heap[i]?=w.heap[i]?):zbu w' i=zbu w i:=by unfold zbu;rw [h]
structure Fr (S:Nat→Nat→Prop) (w0 w:World):Prop where
 os:w.os=w0.os
 tape:w.tape=w0.tape
 output:w.output=w0.output
 size:w0.heap.size ≤ w.heap.size
 block:∀ i,i < w0.heap.size→(∀ o,¬ S i o)→w.heap[i]?=w0.heap[i]?
 cell:∀ i o,i < w0.heap.size→¬ S i o→w.cell? ⟨i,o,none⟩=w0.cell? ⟨i,o,none⟩
 frozen:∀ i o,(w0.cell? ⟨i,o,none⟩).isSome=true→w.frozen? ⟨i,o,none⟩=w0.frozen? ⟨i,o,none⟩
 shape:∀ i,i < w0.heap.size→w.shape? i=w0.shape? i
 sane:∀ i,i < w0.heap.size→Sane w0 i→Sane w i
 frl:∀ i,i < w0.heap.size→(∀ o,w0.cell? ⟨i,o,none⟩=none→¬ S i o)→zbu w i=zbu w0 i
theorem Fr.refl (S:Nat→Nat→Prop) (w:World):Fr S w w:=⟨rfl,rfl,rfl,zadw _,fun _ _ _=>rfl,fun _ _ _ _=>rfl,fun _ _ _=>rfl,fun _ _=>rfl,fun _ _ h=>h,fun _ _ _=>rfl⟩
theorem Fr.trans {S S' T:Nat→Nat→Prop} {w0 w1 w2:World} (h:Fr S w0 w1) (h':Fr S' w1 w2) (hS:∀ i o,i < w0.heap.size→S i o→T i o) (hS':∀ i o,i < w0.heap.size→S' i o→T i o):Fr T w0 w2 where
 os:=h'.os.trans h.os
 tape:=h'.tape.trans h.tape
 output:=h'.output.trans h.output
 size:=Nat.le_trans h.size h'.size
 block i hi hn:=(h'.block i (Nat.lt_of_lt_of_le hi h.size) fun o ho=>hn o (hS' i o hi ho)).trans (h.block i hi fun o ho=>hn o (hS i o hi ho))
 cell i o hi hn:=(h'.cell i o (Nat.lt_of_lt_of_le hi h.size) fun ho=>hn (hS' i o hi ho)).trans (h.cell i o hi fun ho=>hn (hS i o hi ho))
 frozen i o hi:=(h'.frozen i o (by obtain ⟨e,n,h1,h2⟩:=cell_there.1 hi;exact cell_there.2 ⟨e,n,(h.shape i (zjf hi)).trans h1,h2⟩)).trans (h.frozen i o hi)
 shape i hi:=(h'.shape i (Nat.lt_of_lt_of_le hi h.size)).trans (h.shape i hi)
 sane i hi hs:=h'.sane i (Nat.lt_of_lt_of_le hi h.size) (h.sane i hi hs)
 frl i hi hn:=by
  refine (h'.frl i (Nat.lt_of_lt_of_le hi h.size) fun o ho hs=>?_).trans (h.frl i hi fun o ho hs=>hn o ho (hS i o hi hs))
  cases hc:w0.cell? ⟨i,o,none⟩ with
  | none=>exact hn o hc (hS' i o hi hs)
  | some v=>
   obtain ⟨e,n,h1,h2⟩:=cell_there.1 (show (w0.cell? ⟨i,o,none⟩).isSome=true by rw [hc];rfl)
   have:=cell_there.2 ⟨e,n,(h.shape i hi).trans h1,h2⟩
   rw [ho] at this
   cases this
theorem Fr.mono {S T:Nat→Nat→Prop} {w0 w:World} (h:Fr S w0 w) (hS:∀ i o,i < w0.heap.size→S i o→T i o):Fr T w0 w:=h.trans (Fr.refl T w) hS fun _ _ _ h=>h
theorem zi4 {w w':World} {i:Nat} (h:w'.heap[i]?=w.heap[i]?):w'.shape? i=w.shape? i:=by unfold World.shape?;rw [h]
theorem Fr.of_below {S:Nat→Nat→Prop} {w w':World} (h:Below w.heap.size w w'):Fr S w w' where
 os:=h.os
 tape:=h.tape
 output:=h.output
 size:=h.size
 block i hi _:=h.block i hi
 cell i o hi _:=h.cell (p:=⟨i,o,none⟩) hi
 frozen i o hi:=h.frozen (p:=⟨i,o,none⟩) (zjf hi)
 shape i hi:=zi4 (h.block i hi)
 sane i hi hs:=by unfold Sane;rw [h.block i hi];exact hs
 frl i hi _:=zgu (h.block i hi)
theorem zjy (w:World) (p:Addr) (v:Value) (i:Nat):(w.setCell p v).shape? i=w.shape? i:=by
 have h:(w.setCell p v).heap[i]?=if p.block=i then (w.heap[i]?).map (fun | .cells c elem frozen=>.cells (if p.spot.isSome then c else c.setIfInBounds p.off v) elem frozen | o=>o) else w.heap[i]?:=by
  unfold World.setCell
  exact Array.getElem?_modify
 unfold World.shape?
 rw [h]
 by_cases e:p.block=i
 ·rw [if_pos e]
  cases h2:w.heap[i]? with
  | none=>rfl
  | some o=>cases o <;> first | rfl | (simp only [Option.map_some];split <;> simp)
 ·rw [if_neg e]
theorem shape_setCells (b i:Nat):∀ (vs:List Value) (o:Nat) (w:World),(w.setCells b o vs).shape? i=w.shape? i
 | [],_,_=>rfl
 | v :: r,o,w=>by rw [World.setCells,shape_setCells b i r,zjy]
theorem zk5 {w:World} {p:Addr} {v:Value} {i:Nat} (hs:Sane w i):Sane (w.setCell p v) i:=by
 have h:(w.setCell p v).heap[i]?=if p.block=i then (w.heap[i]?).map (fun | .cells c elem frozen=>.cells (if p.spot.isSome then c else c.setIfInBounds p.off v) elem frozen | o=>o) else w.heap[i]?:=by
  unfold World.setCell
  exact Array.getElem?_modify
 intro c e lo hi hc
 rw [h] at hc
 split at hc
 ·cases h2:w.heap[i]? with
  | none=>simp [h2] at hc
  | some o=>
   cases o with
   | cells c' e' f'=>
    obtain ⟨l',u'⟩:=f'
    simp only [h2,Option.map_some,Option.some.injEq,Obj.cells.injEq,Prod.mk.injEq] at hc
    obtain ⟨_,_,rfl,rfl⟩:=hc
    exact hs _ _ _ _ h2
   | _=>simp [h2] at hc
 ·exact hs _ _ _ _ hc
theorem zff (b i:Nat):∀ (vs:List Value) (o:Nat) (w:World),Sane w i→Sane (w.setCells b o vs) i
 | [],_,_,h=>h
 | v :: r,o,w,h=>by rw [World.setCells];exact zff b i r (o + 1) _ (zk5 h)
theorem zfg (b:Nat):∀ (vs:List Value) (o:Nat) (w:World),(w.setCells b o vs).heap.size=w.heap.size
 | [],_,_=>rfl
 | v :: r,o,w=>by rw [World.setCells,zfg b r];simp [World.setCell]
theorem zcy (b:Nat):∀ (vs:List Value) (o:Nat) (w:World),(w.setCells b o vs).os=w.os∧(w.setCells b o vs).tape=w.tape∧(w.setCells b o vs).output=w.output
 | [],_,_=>⟨rfl,rfl,rfl⟩
 | v :: r,o,w=>by rw [World.setCells];exact zcy b r (o + 1) _
theorem ze3 (b:Nat):∀ (vs:List Value) (o:Nat) (w:World) (i:Nat),i ≠ b→(w.setCells b o vs).heap[i]?=w.heap[i]?
 | [],_,_,_,_=>rfl
 | v :: r,o,w,i,h=>by rw [World.setCells,ze3 b r (o + 1) _ i h,Below.heap_setCell _ _ _ _ h]
theorem zho (w:World) (p:Addr) (v:Value) (i:Nat):zbu (w.setCell p v) i=zbu w i:=by
 have h:(w.setCell p v).heap[i]?=if p.block=i then (w.heap[i]?).map (fun | .cells c elem frozen=>.cells (if p.spot.isSome then c else c.setIfInBounds p.off v) elem frozen | o=>o) else w.heap[i]?:=by
  unfold World.setCell
  exact Array.getElem?_modify
 unfold zbu
 rw [h]
 by_cases e:p.block=i
 ·rw [if_pos e]
  cases h2:w.heap[i]? with
  | none=>rfl
  | some o=>cases o <;> rfl
 ·rw [if_neg e]
theorem zd2 (b i:Nat):∀ (vs:List Value) (o:Nat) (w:World),zbu (w.setCells b o vs) i=zbu w i
 | [],_,_=>rfl
 | v :: r,o,w=>by rw [World.setCells,zd2 b i r,zho]
theorem Fr.setCells (w:World) (b o:Nat) (vs:List Value):Fr (fun i x=>i=b∧o ≤ x∧x < o + vs.length) w (w.setCells b o vs) where
 os:=(zcy b vs o w).1
 tape:=(zcy b vs o w).2.1
 output:=(zcy b vs o w).2.2
 size:=by rw [zfg];exact zadw _
 block i hi hn:=by
  by_cases e:i=b
  ·subst e
   cases vs with
   | nil=>rfl
   | cons v vs=>exact absurd ⟨rfl,zadw _,by simp⟩ (hn o)
  ·exact ze3 b vs o w i e
 cell i x hi hn:=World.cell?_setCells_out b vs o w _ fun h1 _=>by
  by_cases h2:x < o
  ·exact .inl h2
  ·by_cases h3:x < o + vs.length
   ·exact absurd ⟨h1,by omega,h3⟩ hn
   ·exact .inr (by show o + vs.length ≤ x;omega)
 frozen i x _:=World.frozen?_setCells b vs o w _
 shape i _:=shape_setCells b i vs o w
 sane i _ hs:=zff b i vs o w hs
 frl i _ _:=zd2 b i vs o w
theorem Fr.alloc (S:Nat→Nat→Prop) (w:World) (o:Obj):Fr S w (w.alloc o):=Fr.of_below ((Below.refl _ w).alloc (zadw _) o)
abbrev Foot:=Nat→Nat→Prop
open Go.RowKit
def MapIs (es l:List (Value × Value)):Prop:=es.Perm l∧(l.map (·.1)).Nodup
theorem zcr {w:World} {p:Addr} {v:Value} (h:w.cell? p=some v):p.block < w.heap.size:=by
 unfold World.cell? at h
 cases hq:w.heap[p.block]? with
 | none=>simp [hq] at h
 | some o=>exact (zadu hq).1
open Go.RowKit
theorem Fr.drew {S:Foot} (w:World):Fr S w w.drew:=⟨rfl,rfl,rfl,zadw _,fun _ _ _=>rfl,fun _ _ _ _=>rfl,fun _ _ _=>rfl,fun _ _=>rfl,fun _ _ h=>h,fun _ _ _=>rfl⟩
open Go.RowKit
noncomputable def findIx (v:Value):List MapEntry→Nat→Option (Nat × Value)
 | [],_=>none
 | e :: es,i=>open Classical in if v=e.key then some (i,e.val) else findIx v es (i + 1)
noncomputable def getL (l:List (Value × Value)) (k:Value):Option Value:=match l with
 | []=>none
 | p :: r=>open Classical in if k=p.1 then some p.2 else getL r k
noncomputable def putL (l:List (Value × Value)) (k v:Value):List (Value × Value):=match l with
 | []=>[(k,v)]
 | p :: r=>open Classical in if k=p.1 then (k,v) :: r else p :: putL r k v
structure KeyT (P:Program) (kt:TypeId) (ok:Value→Prop):Prop where
 chk:∀ em v w,ok v→(Instr.checkKey em 10000 kt v).run P w=.ok () w
 find:∀ v (es:List MapEntry) w,ok v→(∀ e ∈ es,ok e.key)→(Instr.findKey kt v es).run P w=.ok (findIx v es 0) w
 bits:∀ v,ok v→Instr.sameBits 10000 v v=true
 conc:∀ v h,ok v→concE h v=v
section
variable {P:Program}
theorem zhp {k:IntKind} {n:Int}:∀ (es:List MapEntry) (i:Nat),(∀ e ∈ es,∃ m,e.key=.int k m)→Instr.findNow (.int k) (.int k n) es i=some (findIx (.int k n) es i)
 | [],_,_=>rfl
 | e :: es,i,h=>by
  obtain ⟨m,hm⟩:=h e (List.mem_cons_self ..)
  have ih:=zhp (n:=n) es (i + 1) fun x hx=>h x (List.mem_cons_of_mem _ hx)
  have hs:Instr.sameNow (.int k) (.int k n) e.key=some (n == m):=by rw [hm];simp [Instr.sameNow]
  unfold Instr.findNow findIx
  rw [hs]
  by_cases e1:n=m
  ·subst e1
   rw [if_pos hm.symm,beq_self_eq_true]
  ·rw [if_neg (by rw [hm];simpa using e1)]
   have:(n == m)=false:=by simpa using e1
   rw [this]
   exact ih
theorem keyInt {kt:TypeId} {k:IntKind} (hu:P.underlying kt=some (.int k)):KeyT P kt (fun v=>∃ n,v=.int k n) where
 chk:=by rintro em v w ⟨n,rfl⟩;show (Instr.checkKey em (9999 + 1) kt _).run P w=_;rw [Instr.checkKey,Sem.run_bind,run_underlying hu];rfl
 find:=by
  rintro v es w ⟨n,rfl⟩ h
  unfold Instr.findKey
  rw [Sem.run_bind,run_underlying hu,Result.andThen_ok,zhp es 0 h]
  rfl
 bits:=by rintro v ⟨n,rfl⟩;show Instr.sameBits (9999 + 1) _ _=true;simp [Instr.sameBits]
 conc:=by rintro v h ⟨n,rfl⟩;rfl
theorem zjg {c:Value→Value} {k:Value}:∀ (es:List MapEntry) (l:List (Value × Value)) (i:Nat),es.map (fun e=>(e.key,e.val))=l.map (fun p=>(p.1,c p.2))→(findIx k es i).map (·.2)=(getL l k).map c
 | [],l,i,he=>by
  cases l with
  | nil=>rfl
  | cons p r=>cases he
 | e :: es,l,i,he=>by
  cases l with
  | nil=>cases he
  | cons p r=>
   simp only [List.map_cons,List.cons.injEq,Prod.mk.injEq] at he
   obtain ⟨⟨e1,e2⟩,e3⟩:=he
   unfold findIx getL
   rw [e1]
   split
   ·rw [Option.map_some,Option.map_some,e2]
   ·exact zjg es r (i + 1) e3
theorem zf6 {c:Value→Value} {k v:Value}:∀ (es:List MapEntry) (l:List (Value × Value)) (i:Nat),es.map (fun e=>(e.key,e.val))=l.map (fun p=>(p.1,c p.2))→
  (findIx k es i=none→(es.map (fun e=>(e.key,e.val)) ++ [(k,c v)])=(putL l k v).map (fun p=>(p.1,c p.2)))∧
  (∀ j u,findIx k es i=some (j,u)→i ≤ j∧(es[j - i]?).map (·.key)=some k∧(es.modify (j - i) (fun e=>{ e with key:=k,val:=c v })).map (fun e=>(e.key,e.val))=(putL l k v).map (fun p=>(p.1,c p.2)))
 | [],l,i,he=>by
  cases l with
  | nil=>exact ⟨fun _=>rfl,fun j u h=>by cases h⟩
  | cons p r=>cases he
 | e :: es,l,i,he=>by
  cases l with
  | nil=>cases he
  | cons p r=>
   simp only [List.map_cons,List.cons.injEq,Prod.mk.injEq] at he
   obtain ⟨⟨e1,e2⟩,e3⟩:=he
   obtain ⟨ih1,ih2⟩:=zf6 (k:=k) (v:=v) es r (i + 1) e3
   unfold findIx putL
   rw [e1]
   by_cases hk:k=p.1
   ·rw [if_pos hk,if_pos hk]
    refine ⟨fun h=>(by cases h),fun j u hj=>?_⟩
    cases hj
    refine ⟨zadw _,?_,?_⟩
    ·simp [e1,hk]
    ·simp [e3]
   ·rw [if_neg hk,if_neg hk]
    refine ⟨fun hn=>?_,fun j u hj=>?_⟩
    ·rw [List.map_cons,List.cons_append,ih1 hn,List.map_cons,e1,e2]
    ·obtain ⟨g1,g2,g3⟩:=ih2 j u hj
     refine ⟨by omega,?_,?_⟩
     ·rw [show j - i=(j - (i + 1)) + 1 by omega,List.getElem?_cons_succ];exact g2
     ·rw [show j - i=(j - (i + 1)) + 1 by omega,List.modify_succ_cons,List.map_cons,g3,List.map_cons,e1,e2]
theorem zsp {l:List (Value × Value)} {k:Value}:getL l k=none ↔ k ∉ l.map (·.1):=by
 induction l with
 | nil=>simp [getL]
 | cons p r ih=>
  unfold getL
  by_cases h:k=p.1
  ·rw [if_pos h];simp [h]
  ·rw [if_neg h,ih];simp [h]
theorem zdi {l:List (Value × Value)} {k v:Value} (hn:(l.map (·.1)).Nodup):getL l k=some v ↔ (k,v) ∈ l:=by
 induction l with
 | nil=>simp [getL]
 | cons p r ih=>
  rw [List.map_cons,List.nodup_cons] at hn
  unfold getL
  by_cases h:k=p.1
  ·rw [if_pos h,Option.some.injEq]
   constructor
   ·rintro rfl
    rw [h]
    exact List.mem_cons_self ..
   ·intro hm
    rcases List.mem_cons.1 hm with hm | hm
    ·rw [← hm]
    ·exact absurd (List.mem_map.2 ⟨_,hm,h⟩) hn.1
  ·rw [if_neg h,ih hn.2]
   constructor
   ·exact fun hm=>List.mem_cons_of_mem _ hm
   ·intro hm
    rcases List.mem_cons.1 hm with hm | hm
    ·exact absurd (by rw [← hm]) h
    ·exact hm
theorem zk6 {l l':List (Value × Value)} (h:l.Perm l') (hn:(l'.map (·.1)).Nodup) (k:Value):getL l k=getL l' k:=by
 have hn':(l.map (·.1)).Nodup:=(h.map _).nodup_iff.2 hn
 cases hg:getL l' k with
 | none=>
  rw [zsp] at hg ⊢
  exact fun hm=>hg ((h.map _).mem_iff.1 hm)
 | some v=>
  rw [zdi hn] at hg
  rw [zdi hn']
  exact h.mem_iff.2 hg
theorem zsq {l:List (Value × Value)} {k v:Value}:(putL l k v).map (·.1)=open Classical in if k ∈ l.map (·.1) then l.map (·.1) else l.map (·.1) ++ [k]:=by
 induction l with
 | nil=>simp [putL]
 | cons p r ih=>
  unfold putL
  by_cases h:k=p.1
  ·rw [if_pos h];simp [h]
  ·rw [if_neg h,List.map_cons,ih]
   by_cases hm:k ∈ r.map (·.1)
   ·rw [if_pos hm,if_pos (show k ∈ (p :: r).map (·.1) from List.mem_cons_of_mem _ hm)]
    rfl
   ·rw [if_neg hm,if_neg (show ¬ k ∈ (p :: r).map (·.1) by rw [List.map_cons,List.mem_cons];exact fun h'=>h'.elim h hm)]
    rfl
theorem zek {l:List (Value × Value)} {k v:Value} (h:(l.map (·.1)).Nodup):((putL l k v).map (·.1)).Nodup:=by
 rw [zsq]
 split
 ·exact h
 ·rename_i hm
  rw [List.nodup_append]
  exact ⟨h,by simp,fun a ha b hb e=>by rw [List.mem_singleton] at hb;subst hb;subst e;exact hm ha⟩
theorem zds {l:List (Value × Value)} {k v k':Value}:getL (putL l k v) k'=open Classical in if k'=k then some v else getL l k':=by
 induction l with
 | nil=>
  unfold putL
  simp only [getL]
 | cons p r ih=>
  unfold putL
  by_cases h:k=p.1
  ·rw [if_pos h]
   by_cases h':k'=k
   ·subst h';simp [getL]
   ·rw [if_neg h']
    have:¬ k'=p.1:=fun e=>h' (e.trans h.symm)
    simp [getL,h',this]
  ·rw [if_neg h]
   by_cases h':k'=k
   ·subst h'
    rw [if_pos rfl]
    rw [if_pos rfl] at ih
    simp [getL,h,ih]
   ·rw [if_neg h']
    rw [if_neg h'] at ih
    simp [getL,ih]
theorem zm6 {l l':List (Value × Value)} (hn:(l.map (·.1)).Nodup) (hn':(l'.map (·.1)).Nodup) (h:∀ k,getL l k=getL l' k):l.Perm l':=by
 have nd:∀ {m:List (Value × Value)},(m.map (·.1)).Nodup→m.Nodup:=fun {m} hm=>by
  induction m with
  | nil=>exact List.nodup_nil
  | cons a r ih=>
   rw [List.map_cons,List.nodup_cons] at hm
   exact List.nodup_cons.2 ⟨fun ha=>hm.1 (List.mem_map.2 ⟨a,ha,rfl⟩),ih hm.2⟩
 refine (List.perm_ext_iff_of_nodup (nd hn) (nd hn')).2 fun p=>?_
 obtain ⟨k,v⟩:=p
 rw [← zdi hn,← zdi hn',h]
theorem zk7 {l l':List (Value × Value)} (h:l.Perm l') (hn:(l'.map (·.1)).Nodup) (k v:Value):(putL l k v).Perm (putL l' k v):=
 zm6 (zek ((h.map _).nodup_iff.2 hn)) (zek hn) fun k'=>by rw [zds,zds,zk6 h hn]
theorem zws {c:Value→Value} {l:List (Value × Value)} {k:Value}:getL (l.map fun p=>(p.1,c p.2)) k=(getL l k).map c:=by
 induction l with
 | nil=>rfl
 | cons p r ih=>
  rw [List.map_cons]
  unfold getL
  by_cases h:k=p.1
  ·rw [if_pos h,if_pos h];rfl
  ·rw [if_neg h,if_neg h];exact ih
theorem zg2 {c:Value→Value} {l:List (Value × Value)} {k v:Value}:putL (l.map fun p=>(p.1,c p.2)) k (c v)=(putL l k v).map fun p=>(p.1,c p.2):=by
 induction l with
 | nil=>rfl
 | cons p r ih=>
  rw [List.map_cons]
  unfold putL
  by_cases h:k=p.1
  ·rw [if_pos h,if_pos h];rfl
  ·rw [if_neg h,if_neg h,List.map_cons,ih]
def zdt (es:List MapEntry):List (Value × Value):=es.map fun e=>(e.key,e.val)
theorem zjz (es:List MapEntry):es.map (fun e=>(e.key,e.val))=(zdt es).map (fun p=>(p.1,id p.2)):=by
 unfold zdt
 simp
theorem mapIs_find {es:List MapEntry} {l:List (Value × Value)} {c:Value→Value} (h:MapIs (es.map fun e=>(e.key,e.val)) (l.map fun p=>(p.1,c p.2))) (k:Value):(findIx k es 0).map (·.2)=(getL l k).map c:=by
 have h1:=zjg (k:=k) es (zdt es) 0 (zjz es)
 have h2:=zk6 h.1 h.2 k
 rw [h1,Option.map_id,id_eq,← zws]
 exact h2
theorem mapIs_push {es:List MapEntry} {l:List (Value × Value)} {c:Value→Value} {k v:Value} (h:MapIs (es.map fun e=>(e.key,e.val)) (l.map fun p=>(p.1,c p.2))) (hf:findIx k es 0=none):MapIs (es.map (fun e=>(e.key,e.val)) ++ [(k,c v)]) ((putL l k v).map fun p=>(p.1,c p.2)):=by
 have h1:=(zf6 (c:=id) (k:=k) (v:=c v) es (zdt es) 0 (zjz es)).1 hf
 have h2:=zk7 h.1 h.2 k (c v)
 rw [zg2] at h2
 refine ⟨?_,?_⟩
 ·rw [show es.map (fun e=>(e.key,e.val)) ++ [(k,c v)]=(putL (es.map fun e=>(e.key,e.val)) k (c v)) by
   have h3:(putL (zdt es) k (c v)).map (fun p=>(p.1,id p.2))=putL (zdt es) k (c v):=by simp
   rw [h3] at h1
   exact h1]
  exact h2
 ·rw [← zg2]
  exact zek h.2
theorem zk8 {es:List MapEntry} {l:List (Value × Value)} {c:Value→Value} {k v u:Value} {j:Nat} (h:MapIs (es.map fun e=>(e.key,e.val)) (l.map fun p=>(p.1,c p.2))) (hf:findIx k es 0=some (j,u)):
  (es[j]?).map (·.key)=some k∧MapIs ((es.modify j (fun e=>{ e with key:=k,val:=c v })).map fun e=>(e.key,e.val)) ((putL l k v).map fun p=>(p.1,c p.2)):=by
 obtain ⟨_,g2,g3⟩:=(zf6 (c:=id) (k:=k) (v:=c v) es (zdt es) 0 (zjz es)).2 j u hf
 rw [Nat.sub_zero] at g2 g3
 have h2:=zk7 h.1 h.2 k (c v)
 rw [zg2] at h2
 refine ⟨g2,?_,?_⟩
 ·have h3:(putL (zdt es) k (c v)).map (fun p=>(p.1,id p.2))=putL (zdt es) k (c v):=by simp
  rw [h3] at g3
  exact (List.Perm.of_eq g3).trans h2
 ·rw [← zg2]
  exact zek h.2
theorem findIx_none {k:Value}:∀ (es:List MapEntry) (i:Nat),findIx k es i=none→∀ x ∈ es,x.key ≠ k
 | [],_,_,x,hx=>by cases hx
 | e :: es,i,h,x,hx=>by
  unfold findIx at h
  split at h
  ·cases h
  ·rename_i hne
   rcases List.mem_cons.1 hx with rfl | hx
   ·exact fun he=>hne he.symm
   ·exact findIx_none es (i + 1) h x hx
end
open Go.RowKit
section
variable {P:Program}
theorem zel {k v:Value}:∀ {L:List (Value × Value)},∀ p ∈ putL L k v,p=(k,v) ∨ p ∈ L
 | [],p,h=>by simp [putL] at h;exact .inl h
 | q :: r,p,h=>by
  unfold putL at h
  split at h
  ·rcases List.mem_cons.1 h with h | h
   ·exact .inl h
   ·exact .inr (List.mem_cons_of_mem _ h)
  ·rcases List.mem_cons.1 h with h | h
   ·subst h;exact .inr (List.mem_cons_self ..)
   ·exact (zel p h).imp id (List.mem_cons_of_mem _)
theorem zk9 {w:World} {r:Nat} {es:Array MapEntry} {clock:Nat} (hb:w.heap[r]?=some (.map es clock)) (es':Array MapEntry) (clock':Nat):Fr (fun i _=>i=r) w { w with heap:=w.heap.setIfInBounds r (.map es' clock') } where
 os:=rfl
 tape:=rfl
 output:=rfl
 size:=by simp
 block i _ hn:=(MapKept.heap_set hb).2 i fun e=>hn 0 e
 cell i o _ hn:=by unfold World.cell?;simp only;rw [(MapKept.heap_set hb).2 i hn]
 frozen i o hi:=by
  have:i ≠ r:=fun e=>by subst e;unfold World.cell? at hi;simp [hb] at hi
  unfold World.frozen?;simp only;rw [(MapKept.heap_set hb).2 i this]
 shape i _:=by
  by_cases e:i=r
  ·subst e
   unfold World.shape?
   simp only
   rw [(MapKept.heap_set hb).1,hb]
  ·unfold World.shape?;simp only;rw [(MapKept.heap_set hb).2 i e]
 sane i _ hs:=by
  intro c e lo hi hc
  by_cases e:i=r
  ·subst e
   simp only [(MapKept.heap_set hb).1] at hc
   cases hc
  ·simp only [(MapKept.heap_set hb).2 i e] at hc
   exact hs _ _ _ _ hc
 frl i _ _:=by
  by_cases e:i=r
  ·subst e
   unfold zbu
   simp only [(MapKept.heap_set hb).1,hb]
  ·unfold zbu
   simp only [(MapKept.heap_set hb).2 i e]
end
open Go.RowKit
variable {P:Program}
end Sx
end
section
open Go.RowKit Sx
def IntK (v:Value):Prop:=∃ n,v=.int .i64 n
end
section
open Sx
abbrev u8s (bs:List Int):List Value:=bs.map (Value.int .u8)
section
variable {α:Type}
def getA (l:List (Int × α)) (k:Int):Option α:=match l with
 | []=>none
 | p :: r=>if k=p.1 then some p.2 else getA r k
def putA (l:List (Int × α)) (k:Int) (v:α):List (Int × α):=match l with
 | []=>[(k,v)]
 | p :: r=>if k=p.1 then (k,v) :: r else p :: putA r k v
theorem zb7 {l:List (Int × α)} {k:Int} {v:α} (h:getA l k=some v):(k,v) ∈ l:=by
 induction l with
 | nil=>cases h
 | cons p r ih=>
  unfold getA at h
  split at h
  ·rename_i e
   cases h
   rw [e]
   exact List.mem_cons_self ..
  ·exact List.mem_cons_of_mem _ (ih h)
theorem zdu {l:List (Int × α)} {k:Int} {v:α} {p:Int × α} (h:p ∈ putA l k v):p=(k,v) ∨ p ∈ l:=by
 induction l with
 | nil=>simp [putA] at h;exact .inl h
 | cons q r ih=>
  unfold putA at h
  split at h
  ·rcases List.mem_cons.1 h with h | h
   ·exact .inl h
   ·exact .inr (List.mem_cons_of_mem _ h)
  ·rcases List.mem_cons.1 h with h | h
   ·subst h;exact .inr (List.mem_cons_self ..)
   ·exact (ih h).imp id (List.mem_cons_of_mem _)
theorem za7 (l:List (Int × α)) (k:Int) (v:α) (k':Int):getA (putA l k v) k'=if k'=k then some v else getA l k':=by
 induction l with
 | nil=>unfold putA;simp only [getA]
 | cons p r ih=>
  unfold putA
  by_cases h:k=p.1
  ·rw [if_pos h]
   by_cases h':k'=k
   ·subst h';simp [getA]
   ·have:¬ k'=p.1:=fun e=>h' (e.trans h.symm)
    simp [getA,h',this]
  ·rw [if_neg h]
   by_cases h':k'=k
   ·subst h'
    rw [if_pos rfl] at ih ⊢
    simp [getA,h,ih]
   ·rw [if_neg h'] at ih ⊢
    simp [getA,ih]
theorem zhq {l:List (Int × α)} {k:Int}:getA l k=none ↔ k ∉ l.map (·.1):=by
 induction l with
 | nil=>simp [getA]
 | cons p r ih=>
  unfold getA
  by_cases e:k=p.1
  ·simp [e]
  ·rw [if_neg e,ih];simp [e]
theorem zf7 {l:List (Int × α)} {k:Int} {v:α} (h:(l.map (·.1)).Nodup):((putA l k v).map (·.1)).Nodup:=by
 induction l with
 | nil=>simp [putA]
 | cons q r ih=>
  rw [List.map_cons,List.nodup_cons] at h
  unfold putA
  by_cases e:k=q.1
  ·rw [if_pos e,List.map_cons,List.nodup_cons]
   exact ⟨by show k ∉ _;rw [e];exact h.1,h.2⟩
  ·rw [if_neg e,List.map_cons,List.nodup_cons]
   refine ⟨zhq.1 ?_,ih h.2⟩
   rw [za7,if_neg (Ne.symm e)]
   exact zhq.2 h.1
theorem zhr {l:List (Int × α)} (hn:(l.map (·.1)).Nodup) {p:Int × α} (h:p ∈ l):getA l p.1=some p.2:=by
 induction l with
 | nil=>cases h
 | cons q r ih=>
  rw [List.map_cons,List.nodup_cons] at hn
  unfold getA
  rcases List.mem_cons.1 h with rfl | h
  ·rw [if_pos rfl]
  ·rw [if_neg fun e=>hn.1 (by rw [← e];exact List.mem_map.2 ⟨p,h,rfl⟩)]
   exact ih hn.2 h
def encA (c:α→Value) (l:List (Int × α)):List (Value × Value):=l.map fun p=>(.int .i64 p.1,c p.2)
theorem zcb (c:α→Value) (l:List (Int × α)) (k:Int):getL (encA c l) (.int .i64 k)=(getA l k).map c:=by
 induction l with
 | nil=>rfl
 | cons p r ih=>
  unfold encA
  rw [List.map_cons]
  unfold getL getA
  by_cases h:k=p.1
  ·rw [if_pos h,if_pos (by rw [h])];rfl
  ·rw [if_neg h,if_neg (by simpa using h)];exact ih
theorem zj0 (c:α→Value) (l:List (Int × α)) (k:Int) (v:α):putL (encA c l) (.int .i64 k) (c v)=encA c (putA l k v):=by
 induction l with
 | nil=>rfl
 | cons p r ih=>
  unfold encA at ih ⊢
  rw [List.map_cons]
  unfold putL putA
  by_cases h:k=p.1
  ·rw [if_pos h,if_pos (by rw [h])];rfl
  ·rw [if_neg h,if_neg (by simpa using h),ih];rfl
theorem zcc (c:α→Value) (l:List (Int × α)):∀ p ∈ encA c l,IntK p.1:=fun p hp=>by
 obtain ⟨q,_,rfl⟩:=List.mem_map.1 hp
 exact ⟨_,rfl⟩
end
def loC (bs:List Int):Value:=.agg (u8s bs).toArray
theorem zaal {bs:List Int} {c:Value} (h:c ∈ u8s bs):c.oneCell'=true:=by
 obtain ⟨n,_,rfl⟩:=List.mem_map.1 h
 rfl
def inc (c:Int):Int:=IntKind.i64.wrap (c + 1)
end
section
open Go.RowKit Sx
section
variable {P:Program}
theorem ze4 {t kt et:TypeId} {ok:Value→Prop} (hu:P.underlying t=some (.map kt et)) (hk:KeyT P kt ok) {w:World} {r:Nat} {es:Array MapEntry} {clock:Nat} (h2:w.heap[r]?=some (.map es clock)) {k u:Value} {j:Nat} (hok:ok k) (hes:∀ e ∈ es.toList,ok e.key) (hf:findIx k es.toList 0=some (j,u)):
  (Instr.lookup t (.map (some r)) k false).run P w=.ok u w:=by
 have hget:=MapKept.run_getObj_map (P:=P) h2
 have hfi:=hk.find k es.toList w hok hes
 rw [hf] at hfi
 simp only [Instr.lookup,Sem.run_bind,run_underlying hu,Result.andThen_ok,hget,Sem.run_pure,hk.chk es.isEmpty k w hok,hfi]
 rfl
theorem zb4 {t kt et:TypeId} {ok:Value→Prop} (hu:P.underlying t=some (.map kt et)) (hk:KeyT P kt ok) {w:World} {r:Nat} {es:Array MapEntry} {clock:Nat} (h2:w.heap[r]?=some (.map es clock)) {l:List (Value × Value)} (hM:MapIs (es.toList.map fun e=>(e.key,e.val)) l) (hst:MapKept.Stamped es clock) {k v:Value} (hok:ok k) (hes:∀ e ∈ es.toList,ok e.key):
  ∃ es' clock',(Instr.mapUpdate t (.map (some r)) k v).run P w=.ok () { w with heap:=w.heap.setIfInBounds r (.map es' clock') }∧MapIs (es'.toList.map fun e=>(e.key,e.val)) (putL l k v)∧MapKept.Stamped es' clock':=by
 have hget:=MapKept.run_getObj_map (P:=P) h2
 have hfi:=hk.find k es.toList w hok hes
 have hM':MapIs (es.toList.map fun e=>(e.key,e.val)) (l.map fun p=>(p.1,id p.2)):=by rw [show l.map (fun p=>(p.1,id p.2))=l from List.map_id _];exact hM
 have hid:(putL l k v).map (fun p=>(p.1,id p.2))=putL l k v:=List.map_id _
 cases hq:findIx k es.toList 0 with
 | none=>
  rw [hq] at hfi
  refine ⟨es.push { key:=k,val:=v,born:=clock },clock + 1,?_,?_,MapKept.stamped_push hst (findIx_none _ _ hq)⟩
  ·have hset:=MapKept.run_setObj_map (P:=P) (.map (es.push { key:=k,val:=v,born:=clock }) (clock + 1)) h2
   simp only [Instr.mapUpdate,Sem.run_bind,run_underlying hu,Result.andThen_ok,hget,hk.chk false k w hok,hfi,hset]
  ·rw [Array.toList_push,List.map_append,← hid]
   exact mapIs_push (v:=v) hM' hq
 | some p=>
  obtain ⟨j,u⟩:=p
  rw [hq] at hfi
  obtain ⟨g2,g3⟩:=zk8 (v:=v) hM' hq
  rw [hid] at g3
  refine ⟨es.modify j fun e=>{ e with key:=k,val:=v },clock,?_,?_,MapKept.stamped_modify hst j _ (fun _ _=>rfl) fun en _ hen=>?_⟩
  ·have hset:=MapKept.run_setObj_map (P:=P) (.map (es.modify j fun e=>{ e with key:=k,val:=v }) clock) h2
   have hkey:((es[j]?).map (·.key)).getD k=k:=by
    rw [Array.getElem?_toList] at g2
    rw [g2]
    rfl
   have hstay:(Instr.keyThatStays k k).run P w=.ok k w:=by
    unfold Instr.keyThatStays
    rw [hk.bits k hok]
    rfl
   simp only [Instr.mapUpdate,Sem.run_bind,run_underlying hu,Result.andThen_ok,hget,hk.chk false k w hok,hfi,hkey,hstay,hset]
  ·rw [Array.toList_modify];exact g3
  ·rw [Array.getElem?_toList,hen] at g2
   exact (Option.some.inj g2).symm
end
def zm7 (w:World) (r1:Nat) (l1:List (Value × Value)) (k:Int) (bs:List Int) (w':World):Prop:=
 ∃ b es' c',w.heap.size ≤ b∧b < w'.heap.size∧w'.heap[r1]?=some (.map es' c')∧MapIs (es'.toList.map fun e=>(e.key,e.val)) (putL l1 (.int .i64 k) (.pointer (some ⟨b,0,none⟩)))∧MapKept.Stamped es' c'∧
  (∀ (j:Nat) x,bs[j]?=some x→w'.cell? ⟨b,j,none⟩=some (.int .u8 x)∧w'.frozen? ⟨b,j,none⟩=false)∧Fr (fun i _=>i=r1) w w'
theorem zgj {w:World} {bd od r1 r2:Nat} {es1 es2:Array MapEntry} {c1 c2:Nat} {k:Int} {l1:List (Value × Value)} {bs:List Int} {j:Nat}
  (hc0:w.cell? ⟨bd,od,none⟩=some (.map (some r1))) (hc1:w.cell? ⟨bd,od + 1,none⟩=some (.map (some r2))) (h1:w.heap[r1]?=some (.map es1 c1)) (h2:w.heap[r2]?=some (.map es2 c2))
  (hM1:MapIs (es1.toList.map fun e=>(e.key,e.val)) l1) (hk1:∀ e ∈ es1.toList,IntK e.key) (hst1:MapKept.Stamped es1 c1) (hk2:∀ e ∈ es2.toList,IntK e.key) (hf:findIx (.int .i64 k) es2.toList 0=some (j,loC bs)) (hl:bs.length=128):
  Calls Tryz.prog 97 #[.pointer (some ⟨bd,od,none⟩),.int .i64 k] w fun en w'=>en=.returned (.tuple #[])∧zm7 w r1 l1 k bs w':=by
 have e1:(w.alloc (.cells (u8s bs).toArray 185)).heap.size=w.heap.size + 1:=by simp
 have hlt1:r1 < w.heap.size:=(zadu h1).1
 have h1':(w.alloc (.cells (u8s bs).toArray 185)).heap[r1]?=some (.map es1 c1):=by rw [(MapKept.heap_alloc w _).2 r1 hlt1];exact h1
 have hlk:=ze4 (P:=Tryz.prog) (t:=133) Tryz.underlying133 (keyInt Tryz.underlying3) h2 (u:=.agg (u8s bs).toArray) ⟨k,rfl⟩ hk2 hf
 obtain ⟨es',c',hup,hM,hst⟩:=zb4 (P:=Tryz.prog) (t:=132) Tryz.underlying132 (keyInt Tryz.underlying3) h1' hM1 hst1 (v:=.pointer (some ⟨w.heap.size,0,none⟩)) ⟨k,rfl⟩ hk1
 have hst62:(storeCells ⟨w.heap.size,0,none⟩ (u8s bs)).run Tryz.prog (w.alloc (.cells Tryz.zeroCells185 185))=.ok () (w.alloc (.cells (u8s bs).toArray 185)):=by
  refine run_storeCells_new w 185 Tryz.zeroCells185 (u8s bs).toArray ?_ ?_ ?_
  ·rw [List.size_toArray,List.length_map,hl];kernel_rfl
  ·exact (show Tryz.zeroCells185.size=128 by kernel_rfl).trans (by rw [List.size_toArray,List.length_map,hl])
  ·simp only [List.all_toArray,List.all_eq_true]
   exact fun c hc=>zaal hc
 have hA:Fr (fun i _=>i=r1) w (w.alloc (.cells (u8s bs).toArray 185)):=Fr.alloc _ w _
 have hc0':(w.alloc (.cells (u8s bs).toArray 185)).cell? ⟨bd,od,none⟩=some (.map (some r1)):=((Fr.alloc (fun _ _=>False) w _).cell _ _ (zcr hc0) fun h=>h).trans hc0
 have hB:=zk9 h1' es' c'
 have hfin:zm7 w r1 l1 k bs { (w.alloc (.cells (u8s bs).toArray 185)) with heap:=(w.alloc (.cells (u8s bs).toArray 185)).heap.setIfInBounds r1 (.map es' c') }:=by
  refine ⟨w.heap.size,es',c',zadw _,?_,(MapKept.heap_set h1').1,hM,hst,fun j x hj=>?_,hA.trans hB (fun _ _ _ h=>h) (fun _ _ _ h=>h)⟩
  ·show w.heap.size < (Array.setIfInBounds _ _ _).size
   rw [Array.size_setIfInBounds,e1]
   exact Nat.lt_succ_self _
  ·have hc:(w.alloc (.cells (u8s bs).toArray 185)).cell? ⟨w.heap.size,j,none⟩=some (.int .u8 x):=by
    rw [World.cell?_alloc_new]
    simp [u8s,hj]
   rw [hB.cell _ _ (zcr hc) (fun e=>by show False;exact absurd (show w.heap.size=r1 from e) (by omega)),hB.frozen _ _ (by rw [hc];rfl),World.frozen?_alloc_new]
   exact ⟨hc,rfl⟩
 go_enter Tryz.func97,Tryz.ntmps97
 go_wp2
 exact Go.Great.bodyPost_end0 rfl rfl ⟨rfl,hfin⟩
end
section
open Go.RowKit Sx
theorem zqx {w:World} {r:Nat} {m:Option Nat} {s0 c0:Nat} {seen:Array Nat} (hb:w.heap[r]?=some (.mapIter m s0 seen c0)) (m':Option Nat) (s' c':Nat) (seen':Array Nat):Fr (fun i _=>i=r) w { w with heap:=w.heap.setIfInBounds r (.mapIter m' s' seen' c') } where
 os:=rfl
 tape:=rfl
 output:=rfl
 size:=by simp
 block i _ hn:=(MapKept.heap_set hb).2 i fun e=>hn 0 e
 cell i o _ hn:=by unfold World.cell?;simp only;rw [(MapKept.heap_set hb).2 i hn]
 frozen i o hi:=by
  have:i ≠ r:=fun e=>by subst e;unfold World.cell? at hi;simp [hb] at hi
  unfold World.frozen?;simp only;rw [(MapKept.heap_set hb).2 i this]
 shape i _:=by
  by_cases e:i=r
  ·subst e
   unfold World.shape?
   simp only
   rw [(MapKept.heap_set hb).1,hb]
  ·unfold World.shape?;simp only;rw [(MapKept.heap_set hb).2 i e]
 sane i _ hs:=by
  intro c e lo hi hc
  by_cases e:i=r
  ·subst e
   simp only [(MapKept.heap_set hb).1] at hc
   cases hc
  ·simp only [(MapKept.heap_set hb).2 i e] at hc
   exact hs _ _ _ _ hc
 frl i _ _:=by
  by_cases e:i=r
  ·subst e
   unfold zbu
   simp only [(MapKept.heap_set hb).1,hb]
  ·unfold zbu
   simp only [(MapKept.heap_set hb).2 i e]
section
variable {P:Program} (w:World) {ops:Array Oper} {rest:List Oper} {o:Oper} {a:Act} {Q:Exit→Act→World→Prop}
theorem zgv (hg:o.guard=none) (m:Operand) (t:TypeId) (hop:o.op=Op.range t m) (k e:TypeId) (ht:P.underlying t=some (.map k e)) (b:Nat) (es:Array MapEntry) (clock:Nat)
  (hm:a.eval m=.map (some b)) (hb:w.heap[b]?=some (.map es clock))
  (hK:wpList P ops Q rest (a.put o.dst (.pointer (some ⟨w.heap.size,0,none⟩))) (w.alloc (.mapIter (some b) clock #[] clock))):
  wpList P ops Q (o :: rest) a w:=by
 refine wpList_plain hg fun K' hK'=>?_
 have hrun:=run_range_map (P:=P) w t k e b es clock ht hb
 unfold Oper.wp
 simp [execOp,hop,hm,hrun,Result.andThen]
 exact hK' _ _ hK
structure Ranging (w:World) (r b since:Nat) (es:Array MapEntry) (clock:Nat) (seen:Array Nat):Prop where
 it:∃ c0,w.heap[r]?=some (.mapIter (some b) since seen c0)∧since ≤ c0
 mp:w.heap[b]?=some (.map es clock)
 old:∀ x ∈ es.toList,x.born < since
theorem Ranging.left {w:World} {r b since:Nat} {es:Array MapEntry} {clock:Nat} {seen:Array Nat} (h:Ranging w r b since es clock seen):w.rangeLeft b r=(leftOf es seen).size:=by
 obtain ⟨c0,h1,_⟩:=h.it
 unfold World.rangeLeft
 rw [h.mp,h1]
theorem Ranging.kept {w w':World} {r b since:Nat} {es:Array MapEntry} {clock:Nat} {seen:Array Nat} (h:Ranging w r b since es clock seen) (h1:w'.heap[r]?=w.heap[r]?) (h2:w'.heap[b]?=w.heap[b]?):Ranging w' r b since es clock seen:=
 ⟨by obtain ⟨c0,g1,g2⟩:=h.it;exact ⟨c0,h1.trans g1,g2⟩,h2.trans h.mp,h.old⟩
theorem zhs (hg:o.guard=none) (it:Operand) (hop:o.op=Op.next it false) (r b since:Nat) (es:Array MapEntry) (clock:Nat) (seen:Array Nat)
  (hit:a.eval it=.pointer (some ⟨r,0,none⟩)) (h:Ranging w r b since es clock seen) (hne:r ≠ b) (hsc:since ≤ clock) (hn:(es.toList.map (·.born)).Nodup)
  (hDone:(leftOf es seen).size=0→wpList P ops Q rest (a.put o.dst (.tuple #[.bool false])) w)
  (hMore:∀ (e:MapEntry) (w':World),e ∈ (leftOf es seen).toList→Ranging w' r b since es clock (seen.push e.born)→Fr (fun i _=>i=r) w w'→(Instr.entry (.pointer (some ⟨r,0,none⟩))).run P w'=.ok (.tuple #[e.key,e.val]) w'→wpList P ops Q rest (a.put o.dst (.tuple #[.bool true,e.key,e.val])) w'):
  wpList P ops Q (o :: rest) a w:=by
 refine wpList_plain hg fun K' hK'=>?_
 unfold Oper.wp
 obtain ⟨c0,hr,hc0⟩:=h.it
 rcases run_next_at (P:=P) w o.type r b since c0 seen es clock hr h.mp h.old hc0 with ⟨h0,hrun⟩ | ⟨e,he,w1,hw1,hrun⟩
 ·simp [execOp,hop,hit,hrun,Result.andThen]
  exact hK' _ _ (hDone h0)
 ·have hr1:w1.heap[r]?=some (.mapIter (some b) since seen c0):=by rcases hw1 with rfl | rfl <;> exact hr
  have hb1:w1.heap[b]?=some (.map es clock):=by rcases hw1 with rfl | rfl <;> exact h.mp
  have hset:=MapKept.heap_set (o':=.mapIter (some b) since (seen.push e.born) clock) hr1
  have hes:e ∈ es.toList:=by
   unfold leftOf at he
   simp at he
   simpa using he.1
  have hR:Ranging (ChangeMaps.setBlock w1 r (.mapIter (some b) since (seen.push e.born) clock)) r b since es clock (seen.push e.born):=⟨⟨clock,hset.1,hsc⟩,(hset.2 b (Ne.symm hne)).trans hb1,h.old⟩
  simp [execOp,hop,hit,hrun,Result.andThen]
  refine hK' _ _ (hMore e _ he hR ?_ (run_entry_at _ r b since seen es clock e hset.1 hR.mp hes hn))
  have f1:Fr (fun i _=>i=r) w w1:=by
   rcases hw1 with rfl | rfl
   ·exact Fr.refl _ _
   ·exact Fr.drew _
  exact f1.trans (zqx hr1 _ _ _ _) (fun _ _ _ h=>h) (fun _ _ _ h=>h)
end
theorem zwt {w:World} {bd od:Nat} (hc:w.cell? ⟨bd,od + 2,none⟩=some (.bool true)):
  Calls Tryz.prog 181 #[.pointer (some ⟨bd,od,none⟩)] w fun en w'=>en=.returned (.int .i64 9)∧w'=w:=by
 go_enter Tryz.func181,Tryz.ntmps181
 go_wp2
 go_ret
 exact ⟨rfl,rfl⟩
theorem zm8 {w:World} {bd od:Nat} (hc:w.cell? ⟨bd,od + 2,none⟩=some (.bool false)) {R:World→Prop} (hs:Calls Tryz.prog 253 #[.pointer (some ⟨bd,od,none⟩)] w fun en w'=>en=.returned (.bool true)∧R w'):
  Calls Tryz.prog 181 #[.pointer (some ⟨bd,od,none⟩)] w fun en w'=>en=.returned (.int .i64 9)∧R w':=by
 go_enter Tryz.func181,Tryz.ntmps181
 go_wp2_with (go_at_call 253;refine hs.mono ?_;rintro en w' ⟨rfl,hR⟩)
 go_ret
 exact ⟨rfl,hR⟩
abbrev prs (es:Array MapEntry):List (Value × Value):=es.toList.map fun e=>(e.key,e.val)
theorem zbm {es:Array MapEntry} {l:List (Value × Value)} (h:MapIs (prs es) l) (hl:∀ p ∈ l,IntK p.1):∀ e ∈ es.toList,IntK e.key:=fun e he=>
 hl (e.key,e.val) (h.1.mem_iff.1 (List.mem_map.2 ⟨e,he,rfl⟩))
structure SyncAt (w:World) (bd od r1 r2:Nat) (n:Int) (l1:List (Value × Value)) (lo:List (Int × List Int)):Prop where
 c0:w.cell? ⟨bd,od,none⟩=some (.map (some r1))
 c1:w.cell? ⟨bd,od + 1,none⟩=some (.map (some r2))
 c4:w.cell? ⟨bd,od + 4,none⟩=some (.int .i64 n)
 f4:w.frozen? ⟨bd,od + 4,none⟩=false
 m1:∃ es c,w.heap[r1]?=some (.map es c)∧MapIs (prs es) l1∧MapKept.Stamped es c
 k1:∀ p ∈ l1,IntK p.1
 m2:∃ es c,w.heap[r2]?=some (.map es c)∧MapIs (prs es) (encA loC lo)∧MapKept.Stamped es c
 len:∀ p ∈ lo,p.2.length=128
 ne:r1 ≠ r2
def SecAt (w:World) (b:Nat) (bs:List Int):Prop:=∀ (j:Nat) x,bs[j]?=some x→w.cell? ⟨b,j,none⟩=some (.int .u8 x)∧w.frozen? ⟨b,j,none⟩=false
theorem SecAt.keep {w w':World} {b:Nat} {bs:List Int} {S:Foot} (h:SecAt w b bs) (hS:Fr S w w') (hb:b < w.heap.size) (hn:∀ x,¬ S b x):SecAt w' b bs:=fun j x hj=>by
 obtain ⟨h1,h2⟩:=h j x hj
 exact ⟨(hS.cell _ _ hb (hn _)).trans h1,(hS.frozen _ _ (by rw [h1];rfl)).trans h2⟩
structure Part (wb w:World) (r1:Nat) (l1:List (Value × Value)) (lo:List (Int × List Int)) (bl:Int→Option Nat):Prop where
 m1:∃ es c l',w.heap[r1]?=some (.map es c)∧MapIs (prs es) l'∧MapKept.Stamped es c∧(∀ p ∈ l',IntK p.1)∧∀ k,getL l' (.int .i64 k)=match bl k with | some b=>some (.pointer (some ⟨b,0,none⟩)) | none=>getL l1 (.int .i64 k)
 at_:∀ k b,bl k=some b→wb.heap.size < b∧b < w.heap.size∧∃ bs,getA lo k=some bs∧SecAt w b bs
 inj:∀ k k' b,bl k=some b→bl k'=some b→k=k'
 fr:Fr (fun i _=>i=r1) wb w
theorem Part.next {wb w w1 w2:World} {r1:Nat} {l1 l':List (Value × Value)} {lo:List (Int × List Int)} {bl:Int→Option Nat} (h:Part wb w r1 l1 lo bl) (hw:Fr (fun i _=>i=wb.heap.size) w w1) (hlt:wb.heap.size < w.heap.size) (hr1:r1 < wb.heap.size)
  (hk1:∀ p ∈ l',IntK p.1) (hg:∀ k,getL l' (.int .i64 k)=match bl k with | some b=>some (.pointer (some ⟨b,0,none⟩)) | none=>getL l1 (.int .i64 k)) {k:Int} {bs:List Int} (hlo:getA lo k=some bs) (hS:zm7 w1 r1 l' k bs w2):
  ∃ b,Part wb w2 r1 l1 lo (fun z=>if z=k then some b else bl z):=by
 obtain ⟨b,es',c',s1,s2,s3,s4,s5,s6,s7⟩:=hS
 have hsz:w.heap.size ≤ w1.heap.size:=hw.size
 have hsz':w1.heap.size ≤ w2.heap.size:=s7.size
 refine ⟨b,⟨⟨es',c',_,s3,s4,s5,fun p hp=>?_,fun z=>?_⟩,fun z b' hz=>?_,fun z z' b' hz hz'=>?_,?_⟩⟩
 ·rcases zel p hp with rfl | hp
  ·exact ⟨k,rfl⟩
  ·exact hk1 p hp
 ·rw [zds]
  by_cases e:z=k
  ·subst e
   rw [if_pos rfl,if_pos rfl]
  ·rw [if_neg (by simpa using e),if_neg e]
   exact hg z
 ·by_cases e:z=k
  ·subst e
   simp only [if_pos] at hz
   cases hz
   exact ⟨by omega,s2,bs,hlo,s6⟩
  ·simp only [if_neg e] at hz
   obtain ⟨a1,a2,bs',a3,a4⟩:=h.at_ z b' hz
   exact ⟨a1,by omega,bs',a3,(a4.keep hw a2 fun _=>by omega).keep s7 (by omega) fun _=>by omega⟩
 ·by_cases e:z=k
  ·subst e
   by_cases e':z'=z
   ·exact e'.symm
   ·simp only [if_pos,if_neg e'] at hz hz'
    cases hz
    have:=(h.at_ z' b hz').2.1
    omega
  ·by_cases e':z'=k
   ·subst e'
    simp only [if_pos,if_neg e] at hz hz'
    cases hz'
    have:=(h.at_ z b hz).2.1
    omega
   ·simp only [if_neg e,if_neg e'] at hz hz'
    exact h.inj z z' b' hz hz'
 ·have f1:Fr (fun i _=>i=r1) wb w1:=h.fr.trans (T:=fun i _=>i=r1) hw (fun _ _ _ h=>h) fun i _ hi e=>by omega
  exact f1.trans s7 (fun _ _ _ h=>h) (fun _ _ _ h=>h)
theorem zc7 {w:World} {b o:Nat} {v:Value} {es:Array MapEntry} {c:Nat} (h:w.cell? ⟨b,o,none⟩=some v) (hm:w.heap[b]?=some (.map es c)):False:=by
 unfold World.cell? at h
 simp [hm] at h
structure zzl (w w':World) (bd od r1 r2:Nat) (n:Int) (l1:List (Value × Value)) (lo:List (Int × List Int)) (bl:Int→Option Nat):Prop where
 m1:∃ es c l',w'.heap[r1]?=some (.map es c)∧MapIs (prs es) l'∧MapKept.Stamped es c∧(∀ p ∈ l',IntK p.1)∧∀ k,getL l' (.int .i64 k)=match bl k with | some b=>some (.pointer (some ⟨b,0,none⟩)) | none=>getL l1 (.int .i64 k)
 m2:∃ c,w'.heap[r2]?=some (.map #[] c)
 c4:w'.cell? ⟨bd,od + 4,none⟩=some (.int .i64 (inc n))
 at_:∀ k b,bl k=some b→w.heap.size ≤ b∧b < w'.heap.size∧∃ bs,getA lo k=some bs∧SecAt w' b bs
 all:∀ k,(getA lo k).isSome=true→(bl k).isSome=true
 inj:∀ k k' b,bl k=some b→bl k'=some b→k=k'
 fr:Fr (fun i x=>i=r1 ∨ i=r2 ∨ i=bd∧x=od + 4) w w'
theorem zwu {w:World} {bd od r1 r2:Nat} {n:Int} {l1:List (Value × Value)} {lo:List (Int × List Int)} (hc:w.cell? ⟨bd,od + 2,none⟩=some (.bool false)) {R:World→Prop} (hs:Calls Tryz.prog 253 #[.pointer (some ⟨bd,od,none⟩)] w fun en w'=>en=.returned (.bool false)∧R w')
  (hR:∀ w',R w'→SyncAt w' bd od r1 r2 n l1 lo):
  Calls Tryz.prog 181 #[.pointer (some ⟨bd,od,none⟩)] w fun en w2=>en=.returned (.int .i64 0)∧∃ w' bl,R w'∧zzl w' w2 bd od r1 r2 n l1 lo bl:=by
 go_enter Tryz.func181,Tryz.ntmps181
 go_wp2_with (first
  | (go_at_call 253;refine hs.mono ?_;rintro en w' ⟨rfl,hR0⟩;obtain ⟨h0,h1,h4,f4,⟨es1,cl1,hm1,hM1,hS1⟩,k1,⟨es2,cl2,hm2,hM2,hS2⟩,hlen,hne⟩:=hR w' hR0)
  | (at_range;refine zgv _ rfl _ 133 rfl 3 185 Tryz.underlying133 r2 es2 cl2 rfl ?_ ?_))
 ·exact ((Fr.setCells w' bd (od + 4) [_]).block r2 (zadu hm2).1 fun o ho=>zc7 h4 (ho.1 ▸ hm2)).trans hm2
 obtain ⟨W0,hW0⟩:∃ W0,W0=w'.setCell { block:=bd,off:=od + 4 } (Value.int IntKind.i64 (wrap64 (n + 1))):=⟨_,rfl⟩
 rw [← hW0]
 have hF0:Fr (fun i x=>i=bd∧x=od + 4) w' W0:=by
  rw [hW0]
  exact (Fr.setCells w' bd (od + 4) [_]).mono fun i x _ hx=>⟨hx.1,by have h1:=hx.2.1;have h2:x < od + 4 + 1:=hx.2.2;omega⟩
 have g4:W0.cell? ⟨bd,od + 4,none⟩=some (.int .i64 (inc n)):=by
  rw [hW0,World.cell?_setCell_same' _ _ _ (by rw [h4];rfl)]
  unfold inc
  rw [IntWalk.i64_left]
 clear hW0
 have nb1:bd ≠ r1:=fun e=>zc7 h4 (e ▸ hm1)
 have nb2:bd ≠ r2:=fun e=>zc7 h4 (e ▸ hm2)
 have bl0:bd < w'.heap.size:=zcr h4
 have rl1:=(zadu hm1).1
 have rl2:=(zadu hm2).1
 have hs0:=hF0.size
 have g0:=(hF0.cell bd od bl0 (by omega)).trans h0
 have g1:=(hF0.cell bd (od + 1) bl0 (by omega)).trans h1
 have n1:=(hF0.block r1 rl1 fun o e=>nb1 e.1.symm).trans hm1
 have n2:=(hF0.block r2 rl2 fun o e=>nb2 e.1.symm).trans hm2
 go_frame
 go_loopw [3] (fun _ wr=>∃ seen bl,Ranging wr W0.heap.size r2 cl2 es2 cl2 seen∧(∀ e ∈ es2.toList,seen.contains e.born=true→∃ k,e.key=.int .i64 k∧(bl k).isSome=true)∧Part W0 wr r1 l1 lo bl) (fun _ wr=>wr.rangeLeft r2 W0.heap.size)
 case atStart=>
  exact ⟨#[],fun _=>none,⟨⟨cl2,(MapKept.heap_alloc W0 _).1,zadw _⟩,((MapKept.heap_alloc W0 _).2 r2 (by omega)).trans n2,hS2.1⟩,fun e _ h=>by simp at h,
   ⟨⟨es1,cl1,l1,((MapKept.heap_alloc W0 _).2 r1 (by omega)).trans n1,hM1,hS1,k1,fun k=>rfl⟩,fun _ _ h=>(by cases h),fun _ _ _ h=>(by cases h),Fr.alloc _ W0 _⟩⟩
 case round=>
  obtain ⟨seen,bl,hrg,hseen,hp⟩:=hrel
  have hwr:W0.heap.size < wr.heap.size:=by
   obtain ⟨c0,h,_⟩:=hrg.it
   exact (zadu h).1
  have q0:=(hp.fr.cell bd od (by omega) nb1).trans g0
  have q1:=(hp.fr.cell bd (od + 1) (by omega) nb1).trans g1
  go_wp2_with (first
   | (at_next;refine zhs _ rfl _ rfl W0.heap.size r2 cl2 es2 cl2 seen rfl hrg (by omega) (zadw _) hS2.2.1 ?_ ?_))
  ·intro hl0
   have hset:=MapKept.run_setObj_map (P:=Tryz.prog) (.map #[] cl2) hrg.mp
   have hget:=MapKept.run_getObj_map (P:=Tryz.prog) hrg.mp
   have hclr:(Builtin.clear_ #[133] 0 #[.map (some r2)]).run Tryz.prog wr=.ok (.tuple #[]) { wr with heap:=wr.heap.setIfInBounds r2 (.map #[] cl2) }:=by
    simp only [Builtin.clear_,List.getElem?_toArray,List.getElem?_cons_zero,Sem.run_bind,run_underlying Tryz.underlying133,Result.andThen_ok,hget,hset,Sem.run_pure]
   clear hset hget
   have hfin:∃ w' bl,R w'∧zzl w' { wr with heap:=wr.heap.setIfInBounds r2 (.map #[] cl2) } bd od r1 r2 n l1 lo bl:=by
    have hz:=zk9 hrg.mp #[] cl2
    obtain ⟨es',c',l',z1,z2⟩:=hp.m1
    have fz:Fr (fun i _=>i=r1 ∨ i=r2) W0 { wr with heap:=wr.heap.setIfInBounds r2 (.map #[] cl2) }:=hp.fr.trans hz (fun _ _ _ h=>.inl h) (fun _ _ _ h=>.inr h)
    refine ⟨w',bl,hR0,⟨es',c',l',(hz.block r1 (by omega) fun _ e=>hne e).trans z1,z2⟩,⟨cl2,(MapKept.heap_set hrg.mp).1⟩,(fz.cell bd (od + 4) (by omega) (by omega)).trans g4,fun k b hk=>?_,fun k hk=>?_,hp.inj,hF0.trans fz (fun _ _ _ h=>.inr (.inr h)) (fun _ _ _ h=>h.imp id .inl)⟩
    ·obtain ⟨a1,a2,bs,a3,a4⟩:=hp.at_ k b hk
     exact ⟨by omega,Nat.lt_of_lt_of_le a2 hz.size,bs,a3,a4.keep hz a2 fun _=>by omega⟩
    ·cases hg:getA lo k with
     | none=>rw [hg] at hk;cases hk
     | some bs=>
      have h1:getL (encA loC lo) (.int .i64 k)=some (loC bs):=by rw [zcb,hg];rfl
      have h2:=hM2.1.mem_iff.2 ((zdi hM2.2).1 h1)
      obtain ⟨e,he,hee⟩:=List.mem_map.1 h2
      have h3:seen.contains e.born=true:=by
       cases hq:seen.contains e.born with
       | true=>rfl
       | false=>
        have:e ∈ leftOf es2 seen:=by
         unfold leftOf
         rw [Array.mem_filter]
         exact ⟨Array.mem_toList_iff.1 he,by rw [hq];rfl⟩
        rw [show leftOf es2 seen=#[] by simpa using hl0] at this
        exact absurd this (by simp)
      obtain ⟨k',h4,h5⟩:=hseen e he h3
      have h6:e.key=.int .i64 k:=congrArg Prod.fst hee
      rw [h6] at h4
      cases h4
      exact h5
   go_wp2
   go_ret
   exact ⟨rfl,hfin⟩
  ·intro e w1 he hrg1 hf1 hen
   have hes:e ∈ es2.toList:=by
    unfold leftOf at he
    simp at he
    simpa using he.1
   obtain ⟨k,hk⟩:=zbm hM2 (zcc loC lo) e hes
   obtain ⟨bs,hlo,hval⟩:∃ bs,getA lo k=some bs∧e.val=loC bs:=by
    have h1:(e.key,e.val) ∈ encA loC lo:=hM2.1.mem_iff.1 (List.mem_map.2 ⟨e,hes,rfl⟩)
    have h2:=(zdi hM2.2).2 h1
    rw [hk,zcb] at h2
    cases hg:getA lo k with
    | none=>rw [hg] at h2;cases h2
    | some bs=>rw [hg] at h2;exact ⟨bs,rfl,(Option.some.inj h2).symm⟩
   obtain ⟨j,hf⟩:∃ j,findIx (.int .i64 k) es2.toList 0=some (j,loC bs):=by
    have h1:=mapIs_find (c:=id) (es:=es2.toList) (l:=encA loC lo) (by rw [show (encA loC lo).map (fun p=>(p.1,id p.2))=encA loC lo from List.map_id _];exact hM2) (.int .i64 k)
    rw [zcb,hlo] at h1
    cases hq:findIx (.int .i64 k) es2.toList 0 with
    | none=>rw [hq] at h1;cases h1
    | some p=>rw [hq] at h1;obtain ⟨j,u⟩:=p;exact ⟨j,by rw [show u=loC bs from Option.some.inj h1]⟩
   obtain ⟨es',c',l',z1,z2,z3,z4,z5⟩:=hp.m1
   have v0:=(hf1.cell bd od (by omega) (by omega)).trans q0
   have v1:=(hf1.cell bd (od + 1) (by omega) (by omega)).trans q1
   have v2:=(hf1.block r1 (by omega) (fun _=>by omega)).trans z1
   have hset:=zgj v0 v1 v2 hrg1.mp z2 (zbm z2 z4) z3 (zbm hM2 (zcc loC lo)) hf (hlen _ (zb7 hlo))
   rw [hk] at hen ⊢
   go_wp2_with (go_at_call 97;refine hset.mono ?_;rintro en w2 ⟨rfl,hw2⟩)
   have hx:=hw2
   obtain ⟨b0,_,_,_,_,_,_,_,_,hf2⟩:=hx
   obtain ⟨b,hp2⟩:=hp.next hf1 hwr (by omega) z4 z5 hlo hw2
   have hrg2:Ranging w2 W0.heap.size r2 cl2 es2 cl2 (seen.push e.born):=hrg1.kept (hf2.block _ (by have:=hf1.size;omega) fun _=>by omega) (hf2.block _ (by have:=hf1.size;omega) fun _=>by omega)
   go_roundw
   case rel=>
    refine ⟨_,_,hrg2,fun e' he' hsn=>?_,hp2⟩
    obtain ⟨k',hk'⟩:=zbm hM2 (zcc loC lo) e' he'
    refine ⟨k',hk',?_⟩
    by_cases hkk:k'=k
    ·rw [if_pos hkk];rfl
    ·rw [if_neg hkk]
     have:seen.contains e'.born=true:=by
      rcases Array.mem_push.1 (Array.contains_iff_mem.1 hsn) with h | h
      ·exact Array.contains_iff_mem.2 h
      ·have:e'=e:=born_inj hS2.2.1 he' hes h
       subst this
       rw [hk] at hk'
       cases hk'
       exact absurd rfl hkk
     obtain ⟨k'',h1,h2⟩:=hseen e' he' this
     rw [hk'] at h1
     cases h1
     exact h2
   case measure=>rw [hrg2.left,hrg.left];exact left_shrinks es2 seen e (by simpa using he)
end
end Go.Proofs.YthjgiamfaijoeaaGreatDoor
