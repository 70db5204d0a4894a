/- What is proved: parts of the walk and of the plain law, 2 texts in one. No condition but those each law names. -/
import Derived.Test.YtjkfondgacjpnaaGreatDoorF25
namespace Go.Proofs.YtjkfondgacjpnaaGreatDoor
open Go.RowKit
open Sx (MapIs getL putL KeyT keyInt Turns Foot)
set_option maxRecDepth 100000
def putMap (w:World) (r:Nat) (es:Array MapEntry) (c:Nat):World:={ w with heap:=w.heap.setIfInBounds r (.map es c) }
theorem putMap_at {w:World} {r:Nat} (hr:r < w.heap.size) (es:Array MapEntry) (c:Nat):(putMap w r es c).heap[r]?=some (.map es c):=by
 unfold putMap
 simp [hr]
theorem putMap_ne (w:World) (r:Nat) (es:Array MapEntry) (c:Nat) {i:Nat} (h:i ≠ r):(putMap w r es c).heap[i]?=w.heap[i]?:=by
 unfold putMap
 show (w.heap.setIfInBounds r _)[i]?=_
 rw [Array.getElem?_setIfInBounds_ne (Ne.symm h)]
theorem findNo {es:Array MapEntry} {M:List (Int × En)} {k:Int} (hM:MapIs (prs es) (encA En.pt M)) (hf:getA M k=none):Sx.findIx (.int .i64 k) es.toList 0=none:=by
 have hM':MapIs (es.toList.map fun e=>(e.key,e.val)) ((encA En.pt M).map fun p=>(p.1,id p.2)):=by rw [show (encA En.pt M).map (fun p=>(p.1,id p.2))=encA En.pt M from List.map_id _];exact hM
 have hfind:=Sx.mapIs_find hM' (.int .i64 k)
 rw [getL_enc,hf] at hfind
 cases hq:Sx.findIx (.int .i64 k) es.toList 0 with
 | none=>rfl
 | some p=>rw [hq] at hfind;cases hfind
theorem upd_new {w:World} {r:Nat} {es:Array MapEntry} {c:Nat} (h2:w.heap[r]?=some (.map es c)) {M:List (Int × En)} {k:Int} (hM:MapIs (prs es) (encA En.pt M)) (hf:getA M k=none) (v:Value):
  (Instr.mapUpdate 142 (.map (some r)) (.int .i64 k) v).run Tryz.prog w=.ok () (putMap w r (es.push ⟨.int .i64 k,v,c⟩) (c + 1)):=by
 have hk:KeyT Tryz.prog 3 IntK:=keyInt Tryz.underlying3
 have hes:=int_keys hM (encA_int En.pt M)
 have hget:=MapKept.run_getObj_map (P:=Tryz.prog) h2
 have hfi:=hk.find (.int .i64 k) es.toList w ⟨k,rfl⟩ hes
 rw [findNo hM hf] at hfi
 have hset:=MapKept.run_setObj_map (P:=Tryz.prog) (.map (es.push ⟨.int .i64 k,v,c⟩) (c + 1)) h2
 simp only [Instr.mapUpdate,Sem.run_bind,run_underlying Tryz.underlying142,Result.andThen_ok,hget,hk.chk false (.int .i64 k) w ⟨k,rfl⟩,hfi,hset]
 rfl
theorem mapIs_new {es:Array MapEntry} {c:Nat} {M:List (Int × En)} {k:Int} (hM:MapIs (prs es) (encA En.pt M)) (hf:getA M k=none) (e:En):MapIs (prs (es.push ⟨.int .i64 k,e.pt,c⟩)) (encA En.pt (putA M k e)):=by
 have hM':MapIs (es.toList.map fun e=>(e.key,e.val)) ((encA En.pt M).map fun p=>(p.1,id p.2)):=by rw [show (encA En.pt M).map (fun p=>(p.1,id p.2))=encA En.pt M from List.map_id _];exact hM
 have:=Sx.mapIs_push (c:=id) (v:=e.pt) hM' (findNo hM hf)
 rw [← putL_enc]
 have hid:(Sx.putL (encA En.pt M) (.int .i64 k) e.pt).map (fun p=>(p.1,id p.2))=Sx.putL (encA En.pt M) (.int .i64 k) e.pt:=List.map_id _
 rw [hid] at this
 show MapIs ((es.push _).toList.map _) _
 rw [Array.toList_push,List.map_append]
 exact this
theorem len_map {w:World} {r:Nat} {es:Array MapEntry} {c:Nat} (h2:w.heap[r]?=some (.map es c)):(Builtin.len_ #[142] 3 #[.map (some r)]).run Tryz.prog w=.ok (.int .i64 es.size) w:=by
 have hget:=MapKept.run_getObj_map (P:=Tryz.prog) h2
 simp only [Builtin.len_,Sem.run_bind,Sem.run_pure,Result.andThen_ok,List.getElem?_toArray,List.getElem?_cons_zero,run_underlying Tryz.underlying142,hget]
 rfl
theorem mapIs_size {es:Array MapEntry} {M:List (Int × En)} (hM:MapIs (prs es) (encA En.pt M)):es.size=M.length:=by
 have:=hM.1.length_eq
 simpa [encA] using this
theorem BookAt.len {w:World} {bk mb:Nat} {M:List (Int × En)} (h:BookAt w bk mb M):(Builtin.len_ #[142] 3 #[.map (some mb)]).run Tryz.prog w=.ok (.int .i64 M.length) w:=by
 obtain ⟨es,c,e,h1,_⟩:=h.mp
 rw [len_map e,mapIs_size h1]
def sOf (v:Value):Sw:=⟨dOf (.agg (sub (agc v) 0 41)),iAt v 41,(match (agc v)[42]? with | some (Value.bool b)=>b | _=>false),hOf (.agg (sub (agc v) 43 32))⟩
theorem sOf_mk (s:Sw):sOf (.agg s.cells)=s:=by
 have e1:iAt (.agg s.cells) 41=s.st:=by show (match s.cells[41]? with | some (.int _ n)=>n | _=>0)=_;rw [s_41]
 have e2:sub (agc (.agg s.cells)) 43 32=s.s.cells:=s_s s
 have e3:sub (agc (.agg s.cells)) 0 41=s.d.cells:=s_d s
 have e4:(match (agc (.agg s.cells))[42]? with | some (Value.bool b)=>b | _=>false)=s.kn:=by show (match s.cells[42]? with | some (Value.bool b)=>b | _=>false)=_;rw [s_42]
 unfold sOf
 rw [e1,e2,e3,e4,hOf_mk,dOf_mk]
def mOf (v:Value):Nat:=match v with
 | .map (some r)=>r
 | _=>0
theorem mOf_mk (r:Nat):mOf (.map (some r))=r:=rfl
theorem be2 (w:World) (s:Sw) (m:Nat):(Instr.build 148 #[(0,.agg s.cells),(1,.map (some m))]).run Tryz.prog w=.ok (.agg (s.ent m)) w:=by
 obtain ⟨d,st,kn,e⟩:=s
 obtain ⟨i,r,p,g,h,q⟩:=d
 obtain ⟨f,rfl⟩:=h.form
 obtain ⟨f',rfl⟩:=e.form
 kernel_rfl
theorem ebe2 (w:World) (ρ:Operand→Value) (dst:Option Tmp) (ty:TypeId) (pos:String) (af:Array Edge) (gd:Option (Nat × Bool)) (x y:Operand) (hx:ρ x=(.agg (sOf (ρ x)).cells)) (hy:ρ y=(.map (some (mOf (ρ y))))):(execOp ρ ⟨dst,.build 148 #[(0,x),(1,y)],ty,pos,af,gd⟩).run Tryz.prog w=.ok (.value (.agg ((sOf (ρ x)).ent (mOf (ρ y))))) w:=by
 have h:=be2 w (sOf (ρ x)) (mOf (ρ y))
 rw [← hx,← hy] at h
 unfold execOp
 simp only [Sem.run_bind,Sem.run_pure,List.map_toArray,List.map_cons,List.map_nil,h,Result.andThen_ok]
theorem turns_putMap {w X:World} (hb:Below w.heap.size w X) (mb:Nat) (es:Array MapEntry) (c:Nat):Turns (fun i _=>i=mb) w (putMap X mb es c):=
 ⟨hb.os,hb.tape,hb.output,Nat.le_trans hb.size (by unfold putMap;simp),fun k hk hF=>(putMap_ne X mb es c fun e=>hF 0 e).trans (hb.block k hk)⟩
theorem new_entry {V X:World} {bk mb:Nat} {M:List (Int × En)} {es:Array MapEntry} {c:Nat} {k:Int} {s:Sw} (hB:BookAt V bk mb M) (e1:V.heap[mb]?=some (.map es c)) (e2:MapIs (prs es) (encA En.pt M)) (e3:MapKept.Stamped es c)
  (e4:X.heap[mb]?=some (.map es c)) (e5:X.heap[V.heap.size]?=some (.map #[] 0)) (e6:X.heap[V.heap.size + 1]?=some (.cells (Sw.ent s V.heap.size) 148)) (hb2:Below V.heap.size V X) (hF:getA M k=none):
  BookAt (putMap X mb (es.push ⟨.int .i64 k,.pointer (some ⟨V.heap.size + 1,0,none⟩),c⟩) (c + 1)) bk mb (putA M k ⟨V.heap.size + 1,V.heap.size,s⟩):=by
 have hbk:=(Array.getElem?_eq_some_iff.1 hB.ob).1
 have hmb:=(Array.getElem?_eq_some_iff.1 e1).1
 have hmX:=(Array.getElem?_eq_some_iff.1 e4).1
 have hmk:bk ≠ mb:=fun q=>by have:=hB.ob;rw [q,e1] at this;cases this
 have old:∀ p ∈ M,EntAt (putMap X mb (es.push ⟨.int .i64 k,.pointer (some ⟨V.heap.size + 1,0,none⟩),c⟩) (c + 1)) p.2∧p.2.m ≠ mb:=fun p hp=>by
  obtain ⟨h1,h2⟩:=hB.en p hp
  have h3:p.2.b ≠ mb:=fun q=>by have:=h1.row;rw [q,e1] at this;cases this
  exact ⟨⟨(putMap_ne _ _ _ _ h3).trans ((hb2.block _ h1.lt.1).trans h1.row),(putMap_ne _ _ _ _ h2).trans ((hb2.block _ h1.lt.2).trans h1.map)⟩,h2⟩
 refine ⟨(putMap_ne _ _ _ _ hmk).trans ((hb2.block _ hbk).trans hB.ob),⟨_,_,putMap_at hmX _ _,mapIs_new e2 hF ⟨V.heap.size + 1,V.heap.size,s⟩,MapKept.stamped_push e3 (Sx.findIx_none _ _ (findNo e2 hF))⟩,fun p hp=>?_,fun p hp q hq e=>?_⟩
 ·rcases putA_mem hp with rfl | hp
  ·exact ⟨⟨(putMap_ne _ _ _ _ (by show V.heap.size + 1 ≠ mb;omega)).trans e6,(putMap_ne _ _ _ _ (by show V.heap.size ≠ mb;omega)).trans e5⟩,(by show V.heap.size ≠ mb;omega)⟩
  ·exact old p hp
 ·rcases putA_mem hp with rfl | hp
  ·rcases putA_mem hq with rfl | hq
   ·rfl
   ·have:=(hB.en q hq).1.lt.1
    have e:V.heap.size + 1=q.2.b:=e
    omega
  ·rcases putA_mem hq with rfl | hq
   ·have:=(hB.en p hp).1.lt.1
    have e:p.2.b=V.heap.size + 1:=e
    omega
   ·exact hB.inj p hp q hq e
theorem ebs2k (w:World) (A:Act) (dst:Option Tmp) (ty:TypeId) (pos:String) (af:Array Edge) (gd:Option (Nat × Bool)) (x:Operand) (k:Int) (hx:A.eval x=(.agg (dOf (A.eval x)).cells)):(execOp A.eval ⟨dst,.build 85 #[(0,x),(1,.const (.int .i64 k))],ty,pos,af,gd⟩).run Tryz.prog w=.ok (.value (.agg (Sw.cells ⟨(dOf (A.eval x)),k,false,Hs.zero⟩))) w:=ebs2 w A.eval dst ty pos af gd x (.const (.int .i64 k)) hx rfl
theorem rowOf_map {w:World} {es:Array MapEntry} {c b:Nat} (h:(b=w.heap.size)=False):rowOf (w.alloc (.map es c)) b=rowOf w b:=by
 have h:b ≠ w.heap.size:=fun e=>by rw [h] at e;exact e
 by_cases hb:b < w.heap.size
 ·unfold rowOf
  rw [(MapKept.heap_alloc _ _).2 _ hb]
 ·unfold rowOf
  have e1:(w.alloc (.map es c)).heap[b]?=none:=by rw [Array.getElem?_eq_none];simp;omega
  have e2:w.heap[b]?=none:=by rw [Array.getElem?_eq_none];omega
  rw [e1,e2]
attribute [local go_sem ↓] rowOf_cell ebe2 ebs2k
attribute [local go_sem] rowOf_alloc soft_alloc rowOf_drew soft_drew rowOf_setRow soft_setRow e_size e_s e_one sOf_mk mOf_mk Sx.run_mk rowOf_map
theorem BookAt.drew {w:World} {bk mb:Nat} {M:List (Int × En)} (h:BookAt w bk mb M):BookAt w.drew bk mb M:=h.below (Below.refl _ w).drew
set_option maxHeartbeats 1000000 in
theorem deal_any {w:World} {bk mb:Nat} {M:List (Int × En)} (h:BookAt w bk mb M) (r:Rc) (hf:getA M r.i=none) (hl:M.length < 16):Calls Tryz.prog 95 #[.pointer (some ⟨bk,0,none⟩),.agg r.cells] w fun e w'=>e=.returned (.int .i64 0)∧∃ be bm,BookAt w' bk mb (putA M r.i ⟨be,bm,⟨r.d,1,false,Hs.zero⟩⟩)∧Turns (fun i _=>i=mb) w w'∧w.heap.size ≤ be∧w.heap.size ≤ bm:=by
 have H:=Lib.hid h
 have HF:=Lib.hid hf
 have hl2:((M.length:Int) ≥ 16)=False:=eq_false (by omega)
 clear h hf hl
 go_enter Tryz.func95,Tryz.ntmps95
 go_upto_region 1 with (fail)
 have bx:=Bx.new w (r.cells) 119;generalize w.alloc (.cells (r.cells) 119)=W at bx ⊢;have rx:=bx.rowOf;have sx:=bx.soft;have BX:=Lib.hid bx;clear bx
 have hB:=H.out.below BX.out.below
 have r0:=rowOf_of hB.ob
 have L2:=(hB.drew.look r.i).2
 rw [HF.out] at L2
 have HB:=Lib.hid hB.drew
 have BX2:=Lib.hid (BX.out.step (Below.refl _ W).drew)
 clear hB
 go_region
 clear L2 rx sx r0 BX
 generalize W.drew=V at *
 have rx:=BX2.out.rowOf
 have sx:=BX2.out.soft
 have r0:=rowOf_of HB.out.ob
 have N:=HB.out.len
 go_upto_region 6 with (fail)
 clear N hl2
 obtain ⟨es,c,e1,e2,e3⟩:=HB.out.mp
 have hlt:mb < V.heap.size:=(Array.getElem?_eq_some_iff.1 e1).1
 have z1:(V.alloc (.map #[] 0)).heap.size=V.heap.size + 1:=by simp
 obtain ⟨X,hX⟩:∃ X,X=((V.alloc (.map #[] 0)).alloc (.cells (Sw.ent ⟨r.d,1,false,Hs.zero⟩ V.heap.size) 148)).drew:=⟨_,rfl⟩
 have hb1:Below V.heap.size V (V.alloc (.map #[] 0)):=(Below.refl _ V).alloc (Nat.le_refl _) _
 have hb2:Below V.heap.size V X:=by rw [hX];exact (hb1.alloc (by rw [z1];omega) _).drew
 have e4:X.heap[mb]?=some (.map es c):=(hb2.block mb hlt).trans e1
 have e5:X.heap[V.heap.size]?=some (.map #[] 0):=by
  rw [hX]
  show ((V.alloc (.map #[] 0)).alloc _).heap[V.heap.size]?=_
  rw [(MapKept.heap_alloc _ _).2 _ (by rw [z1];omega)]
  exact heap_alloc_new V _
 have e6:X.heap[V.heap.size + 1]?=some (.cells (Sw.ent ⟨r.d,1,false,Hs.zero⟩ V.heap.size) 148):=by
  rw [hX]
  have:=heap_alloc_new (V.alloc (.map #[] 0)) (.cells (Sw.ent ⟨r.d,1,false,Hs.zero⟩ V.heap.size) 148)
  rw [z1] at this
  exact this
 have hw:w.heap.size < V.heap.size:=(Array.getElem?_eq_some_iff.1 BX2.out.row).1
 have hne:¬ w.heap.size=V.heap.size:=by omega
 have hbk:¬ bk=V.heap.size:=by have:=(Array.getElem?_eq_some_iff.1 HB.out.ob).1;omega
 have hbk1:¬ bk=V.heap.size + 1:=by have:=(Array.getElem?_eq_some_iff.1 HB.out.ob).1;omega
 have hne1:¬ w.heap.size=V.heap.size + 1:=by omega
 have U:=upd_new (k:=r.i) e4 e2 HF.out (.pointer (some ⟨V.heap.size + 1,0,none⟩))
 rw [hX] at U
 have HX:=Lib.hid hX
 have K:=Lib.hid (And.intro e1 (And.intro e2 (And.intro e3 (And.intro e4 (And.intro e5 (And.intro e6 hb2))))))
 clear e1 e2 e3 e4 e5 e6 hb1 hb2 hX z1
 go_region
 rw [← HX.out]
 clear U hne hbk hbk1 hne1 rx sx r0
 obtain ⟨e1,e2,e3,e4,e5,e6,hb2⟩:=K.out
 have hbX:=BX2.out.below.trans (hb2.mono BX2.out.below.size)
 have hB:=HB.out
 have hF:=HF.out
 have hmk:bk ≠ mb:=fun q=>by have:=hB.ob;rw [q,e1] at this;cases this
 have T:=new_entry hB e1 e2 e3 e4 e5 e6 hb2 hF
 have TT:=Lib.hid T
 have TB:Turns (fun i _=>i=mb) w (putMap X mb (es.push ⟨.int .i64 r.i,.pointer (some ⟨V.heap.size + 1,0,none⟩),c⟩) (c + 1)):=turns_putMap hbX _ _ _
 have TB2:=Lib.hid TB
 clear K T TB e1 e2 e3 e4 e5 e6 hb2 hbX hB hF hmk HX hlt HB BX2 H HF
 generalize putMap X mb _ _=Y at *
 go_wp2
 go_ret
 exact ⟨rfl,V.heap.size + 1,V.heap.size,TT.out,TB2.out,by omega,by omega⟩
end Go.Proofs.YtjkfondgacjpnaaGreatDoor

namespace Go.Proofs.YtjkfondgacjpnaaGreatDoor
open Go.RowKit
set_option maxRecDepth 100000
attribute [local go_sem ↓] rowOf_cell
attribute [local go_sem] rowOf_alloc soft_alloc rowOf_drew soft_drew Ext.row Ext.soft_
structure Bxs (w:World) (L:List (Array Value × TypeId)) (W:World):Prop where
 below:Below w.heap.size w W
 rows:∀ (j:Nat) C t,L[j]?=some (C,t)→W.heap[w.heap.size + j]?=some (.cells C t)
theorem Bxs.step {w W W':World} {L:List (Array Value × TypeId)} (h:Bxs w L W) (hb:Below W.heap.size W W'):Bxs w L W':=
 ⟨h.below.trans (hb.mono h.below.size),fun j C t hj=>by
  have:=h.rows j C t hj
  exact (hb.block _ (Array.getElem?_eq_some_iff.1 this).1).trans this⟩
theorem Bxs.row' {w W:World} {L:List (Array Value × TypeId)} (h:Bxs w L W) (j:Nat) {C:Array Value} {t:TypeId} (hj:L[j]?=some (C,t)):rowOf W (w.heap.size + j)=C:=rowOf_of (h.rows j C t hj)
theorem Bxs.soft' {w W:World} {L:List (Array Value × TypeId)} (h:Bxs w L W) (j:Nat) {C:Array Value} {t:TypeId} (hj:L[j]?=some (C,t)):soft W (w.heap.size + j)=true:=soft_of (h.rows j C t hj)
theorem Bxs.lt {w W:World} {L:List (Array Value × TypeId)} (h:Bxs w L W) (j:Nat) {C:Array Value} {t:TypeId} (hj:L[j]?=some (C,t)):w.heap.size + j < W.heap.size:=(Array.getElem?_eq_some_iff.1 (h.rows j C t hj)).1
theorem Bxs.nil (w:World):Bxs w [] w:=⟨Below.refl _ _,fun j C t h=>by simp at h⟩
theorem Bxs.snoc {w W:World} {L:List (Array Value × TypeId)} (h:Bxs w L W) (hz:W.heap.size=w.heap.size + L.length) (C:Array Value) (t:TypeId):Bxs w (L ++ [(C,t)]) (W.alloc (.cells C t))∧(W.alloc (.cells C t)).heap.size=w.heap.size + (L ++ [(C,t)]).length:=by
 refine ⟨⟨h.below.alloc (by omega) _,fun j D u hj=>?_⟩,by simp;omega⟩
 by_cases e:j < L.length
 ·rw [List.getElem?_append_left e] at hj
  have:=h.rows j D u hj
  rw [Below.heap_alloc _ _ _ (Array.getElem?_eq_some_iff.1 this).1]
  exact this
 ·have hj2:j=L.length:=by
   have:=(List.getElem?_eq_some_iff.1 hj).1
   simp at this
   omega
  subst hj2
  rw [List.getElem?_append_right (Nat.le_refl _),Nat.sub_self] at hj
  simp only [List.getElem?_cons_zero,Option.some.injEq,Prod.mk.injEq] at hj
  obtain ⟨rfl,rfl⟩:=hj
  rw [← hz]
  exact heap_alloc_new W _
section
variable (w:World) (C1:Array Value) (t1:TypeId) (C2:Array Value) (t2:TypeId) (C3:Array Value) (t3:TypeId) (C4:Array Value) (t4:TypeId)
theorem Bxs.new2:Bxs w [(C1,t1),(C2,t2)] ((w.alloc (.cells C1 t1)).alloc (.cells C2 t2)):=by
 obtain ⟨h1,z1⟩:=(Bxs.nil w).snoc rfl C1 t1
 exact (h1.snoc z1 C2 t2).1
theorem Bxs.new3:Bxs w [(C1,t1),(C2,t2),(C3,t3)] (((w.alloc (.cells C1 t1)).alloc (.cells C2 t2)).alloc (.cells C3 t3)):=by
 obtain ⟨h1,z1⟩:=(Bxs.nil w).snoc rfl C1 t1
 obtain ⟨h2,z2⟩:=h1.snoc z1 C2 t2
 exact (h2.snoc z2 C3 t3).1
theorem Bxs.new4:Bxs w [(C1,t1),(C2,t2),(C3,t3),(C4,t4)] ((((w.alloc (.cells C1 t1)).alloc (.cells C2 t2)).alloc (.cells C3 t3)).alloc (.cells C4 t4)):=by
 obtain ⟨h1,z1⟩:=(Bxs.nil w).snoc rfl C1 t1
 obtain ⟨h2,z2⟩:=h1.snoc z1 C2 t2
 obtain ⟨h3,z3⟩:=h2.snoc z2 C3 t3
 exact (h3.snoc z3 C4 t4).1
end
structure Tm where
 base:Int
 ppm:Int
 reserve:Int
 least:Int
 most:Int
 depth:Int
 delay:Int
 lag:Int
 fast:Int
def Tm.cells (t:Tm):Array Value:=#[.int .i64 t.base,.int .i64 t.ppm,.int .i64 t.reserve,.int .i64 t.least,.int .i64 t.most,.int .i64 t.depth,.int .i64 t.delay,.int .i64 t.lag,.int .i64 t.fast]
structure Cl where
 a:Int
 b:Int
 c:Int
def Cl.cells (t:Cl):Array Value:=#[.int .i64 t.a,.int .i64 t.b,.int .i64 t.c]
section
variable (t:Tm) (n:Cl)
theorem tm_size:t.cells.size=9:=rfl
theorem tm_one:ones t.cells=true:=by kernel_rfl
theorem tm_whole:sub t.cells 0 9=t.cells:=by kernel_rfl
theorem tm_0:t.cells[0]?=some (.int .i64 t.base):=rfl
theorem tm_1:t.cells[1]?=some (.int .i64 t.ppm):=rfl
theorem tm_2:t.cells[2]?=some (.int .i64 t.reserve):=rfl
theorem tm_3:t.cells[3]?=some (.int .i64 t.least):=rfl
theorem tm_4:t.cells[4]?=some (.int .i64 t.most):=rfl
theorem tm_5:t.cells[5]?=some (.int .i64 t.depth):=rfl
theorem tm_6:t.cells[6]?=some (.int .i64 t.delay):=rfl
theorem tm_7:t.cells[7]?=some (.int .i64 t.lag):=rfl
theorem tm_8:t.cells[8]?=some (.int .i64 t.fast):=rfl
theorem tm_0g (q:0 < t.cells.size):t.cells[0]'q=.int .i64 t.base:=rfl
theorem tm_1g (q:1 < t.cells.size):t.cells[1]'q=.int .i64 t.ppm:=rfl
theorem tm_2g (q:2 < t.cells.size):t.cells[2]'q=.int .i64 t.reserve:=rfl
theorem tm_3g (q:3 < t.cells.size):t.cells[3]'q=.int .i64 t.least:=rfl
theorem tm_4g (q:4 < t.cells.size):t.cells[4]'q=.int .i64 t.most:=rfl
theorem tm_5g (q:5 < t.cells.size):t.cells[5]'q=.int .i64 t.depth:=rfl
theorem tm_6g (q:6 < t.cells.size):t.cells[6]'q=.int .i64 t.delay:=rfl
theorem tm_7g (q:7 < t.cells.size):t.cells[7]'q=.int .i64 t.lag:=rfl
theorem tm_8g (q:8 < t.cells.size):t.cells[8]'q=.int .i64 t.fast:=rfl
theorem cl_size:n.cells.size=3:=rfl
theorem cl_one:ones n.cells=true:=by kernel_rfl
theorem cl_whole:sub n.cells 0 3=n.cells:=by kernel_rfl
theorem cl_0:n.cells[0]?=some (.int .i64 n.a):=rfl
theorem cl_1:n.cells[1]?=some (.int .i64 n.b):=rfl
theorem cl_2:n.cells[2]?=some (.int .i64 n.c):=rfl
theorem cl_0g (q:0 < n.cells.size):n.cells[0]'q=.int .i64 n.a:=rfl
theorem cl_1g (q:1 < n.cells.size):n.cells[1]'q=.int .i64 n.b:=rfl
theorem cl_2g (q:2 < n.cells.size):n.cells[2]'q=.int .i64 n.c:=rfl
end
theorem load173 (w:World) (ρ:Operand→Value) (x:Operand) (dst:Option Tmp) (ty:TypeId) (pos:String) (af:Array Edge) (gd:Option (Nat × Bool)) (hp:pp (ρ x)=true) (h:po (ρ x) + 3 ≤ (rowOf w (pb (ρ x))).size):(execOp ρ ⟨dst,.load 152 x,ty,pos,af,gd⟩).run Tryz.prog w=.ok (.value (.agg (sub (rowOf w (pb (ρ x))) (po (ρ x)) 3))) w:=
 exec_load_row 152 3 Tryz.underlying152 rfl (by kernel_rfl) w ρ x dst ty pos af gd hp h
attribute [go_sem ↓] tm_0 tm_1 tm_2 tm_3 tm_4 tm_5 tm_6 tm_7 tm_8 cl_0 cl_1 cl_2 load173
attribute [go_sem] tm_size tm_one tm_whole tm_0g tm_1g tm_2g tm_3g tm_4g tm_5g tm_6g tm_7g tm_8g cl_size cl_one cl_whole cl_0g cl_1g cl_2g
structure TmT (t:Tm):Prop where
 depth:1 ≤ t.depth∧t.depth ≤ 20
 delay:1 ≤ t.delay∧t.delay ≤ 50
 lag:0 ≤ t.lag∧t.lag ≤ 50
 fast:1 ≤ t.fast∧t.fast ≤ 10
def Tm.mar (t:Tm):Int:=t.depth + t.delay + t.lag + 1
theorem TmT.mar {t:Tm} (h:TmT t):3 ≤ t.mar∧t.mar ≤ 121:=by
 have h1:=h.depth
 have h2:=h.delay
 have h3:=h.lag
 unfold Tm.mar
 omega
theorem Margin_any {t:Tm} (h:TmT t) (w:World):Calls Tryz.prog 89 #[.agg t.cells] w fun e w'=>e=.returned (.int .i64 t.mar)∧Below w.heap.size w w':=by
 have h1:=h.depth
 have h2:=h.delay
 have h3:=h.lag
 have e1:wrap64 (t.depth + t.delay)=t.depth + t.delay:=IntWalk.wrap64_in _ (by omega)
 have e2:wrap64 (t.depth + t.delay + t.lag)=t.depth + t.delay + t.lag:=IntWalk.wrap64_in _ (by omega)
 have e3:wrap64 (t.depth + t.delay + t.lag + 1)=t.depth + t.delay + t.lag + 1:=IntWalk.wrap64_in _ (by omega)
 have E3:=Lib.hid (show wrap64 (t.depth + t.delay + t.lag + 1)=t.mar from e3)
 clear h h1 h2 h3 e3
 go_enter Tryz.func89,Tryz.ntmps89
 go_upto_region 1 with (fail)
 have bx:=Bx.new w (t.cells) 53;generalize w.alloc (.cells (t.cells) 53)=W at bx ⊢;have rx:=bx.rowOf;have sx:=bx.soft;have BX:=Lib.hid bx;clear bx
 go_wp2
 go_ret
 refine ⟨?_,BX.out.below⟩
 show Ending.returned (Value.int .i64 (wrap64 (t.depth + t.delay + t.lag + 1)))=_
 rw [E3.out]
def Cl.at_ (n:Cl) (p:Int):Int:=if p=0 then n.a else if p=1 then n.b else if p=2 then n.c else 0
theorem at_any (n:Cl) (p:Int) (w:World):Calls Tryz.prog 62 #[.agg n.cells,.int .i64 p] w fun e w'=>e=.returned (.int .i64 (n.at_ p))∧Below w.heap.size w w':=by
 by_cases h0:p < 0
 ·have E:n.at_ p=0:=by unfold Cl.at_;rw [if_neg (by omega),if_neg (by omega),if_neg (by omega)]
  rw [E]
  clear E
  go_enter Tryz.func62,Tryz.ntmps62
  go_upto_region 1 with (fail)
  have bx:=Bx.new w (n.cells) 152;generalize w.alloc (.cells (n.cells) 152)=W at bx ⊢;have rx:=bx.rowOf;have sx:=bx.soft;have BX:=Lib.hid bx;clear bx
  go_wp2
  go_ret
  exact ⟨rfl,BX.out.below⟩
 ·by_cases h3:p ≥ 3
  ·have E:n.at_ p=0:=by unfold Cl.at_;rw [if_neg (by omega),if_neg (by omega),if_neg (by omega)]
   rw [E]
   clear E
   go_enter Tryz.func62,Tryz.ntmps62
   go_upto_region 1 with (fail)
   have bx:=Bx.new w (n.cells) 152;generalize w.alloc (.cells (n.cells) 152)=W at bx ⊢;have rx:=bx.rowOf;have sx:=bx.soft;have BX:=Lib.hid bx;clear bx
   go_wp2
   go_ret
   exact ⟨rfl,BX.out.below⟩
  ·have hp:p=0 ∨ p=1 ∨ p=2:=by omega
   clear h0 h3
   rcases hp with rfl | rfl | rfl
   ·have E:n.at_ 0=n.a:=by unfold Cl.at_;simp
    rw [E]
    clear E
    go_enter Tryz.func62,Tryz.ntmps62
    go_upto_region 1 with (fail)
    have bx:=Bx.new w (n.cells) 152;generalize w.alloc (.cells (n.cells) 152)=W at bx ⊢;have rx:=bx.rowOf;have sx:=bx.soft;have BX:=Lib.hid bx;clear bx
    go_wp2
    go_ret
    exact ⟨rfl,BX.out.below⟩
   ·have E:n.at_ 1=n.b:=by unfold Cl.at_;simp
    rw [E]
    clear E
    go_enter Tryz.func62,Tryz.ntmps62
    go_upto_region 1 with (fail)
    have bx:=Bx.new w (n.cells) 152;generalize w.alloc (.cells (n.cells) 152)=W at bx ⊢;have rx:=bx.rowOf;have sx:=bx.soft;have BX:=Lib.hid bx;clear bx
    go_wp2
    go_ret
    exact ⟨rfl,BX.out.below⟩
   ·have E:n.at_ 2=n.c:=by unfold Cl.at_;simp
    rw [E]
    clear E
    go_enter Tryz.func62,Tryz.ntmps62
    go_upto_region 1 with (fail)
    have bx:=Bx.new w (n.cells) 152;generalize w.alloc (.cells (n.cells) 152)=W at bx ⊢;have rx:=bx.rowOf;have sx:=bx.soft;have BX:=Lib.hid bx;clear bx
    go_wp2
    go_ret
    exact ⟨rfl,BX.out.below⟩
def leftV (n:Cl) (l:Lg):Int:=max 0 (wrap64 (l.u - n.at_ l.w))
theorem at_ret (n:Cl) (p:Int) (w:World):Calls Tryz.prog 62 #[.agg n.cells,.int .i64 p] w (Ret (.int .i64 (n.at_ p)) w):=ret_of (at_any n p w)
theorem left_any (n:Cl) (l:Lg) (w:World):Calls Tryz.prog 204 #[.agg n.cells,.agg l.cells] w fun e w'=>e=.returned (.int .i64 (leftV n l))∧Below w.heap.size w w':=by
 go_enter Tryz.func204,Tryz.ntmps204
 go_upto_region 1 with (fail)
 have bx:=Bxs.new2 w (n.cells) 152 (l.cells) 26;generalize ((w.alloc (.cells (n.cells) 152)).alloc (.cells (l.cells) 26))=W at bx ⊢;have rx0:=bx.row' 0 rfl;have sx0:=bx.soft' 0 rfl;(try simp only [Nat.add_zero] at rx0 sx0);have rx1:=bx.row' 1 rfl;have sx1:=bx.soft' 1 rfl;(try simp only [Nat.add_zero] at rx1 sx1);have BX:=Lib.hid bx;clear bx
 have hlt0:=BX.out.lt 0 rfl
 have hlt1:=BX.out.lt 1 rfl
 simp only [Nat.add_zero] at hlt0
 (refine wp_region_grow_tail 8 (by kernel_rfl) (by kernel_rfl) ?_;simp only [List.take_succ_cons,List.take_zero,List.drop_succ_cons,List.drop_zero];(repeat (go_big_quiet_step (((go_at_call 62;exact Calls.ext_of (at_ret n l.w _))))));refine wpQuiet_nil ?_;rintro _ ⟨g,rfl⟩)
 have B:=Lib.hid (BX.out.step g.below).below
 go_wp2
 go_ret
 exact ⟨rfl,B.out⟩
theorem left_ret (n:Cl) (l:Lg) (w:World):Calls Tryz.prog 204 #[.agg n.cells,.agg l.cells] w (Ret (.int .i64 (leftV n l)) w):=ret_of (left_any n l w)
theorem Left_any (d:Dl) (n:Cl) (w:World):Calls Tryz.prog 148 #[.agg d.cells,.agg n.cells] w fun e w'=>e=.returned (.tuple #[.int .i64 (leftV n d.p),.int .i64 (leftV n d.g)])∧Below w.heap.size w w':=by
 go_enter Tryz.func148,Tryz.ntmps148
 go_upto_region 1 with (fail)
 have bx:=Bxs.new2 w (d.cells) 83 (n.cells) 37;generalize ((w.alloc (.cells (d.cells) 83)).alloc (.cells (n.cells) 37))=W at bx ⊢;have rx0:=bx.row' 0 rfl;have sx0:=bx.soft' 0 rfl;(try simp only [Nat.add_zero] at rx0 sx0);have rx1:=bx.row' 1 rfl;have sx1:=bx.soft' 1 rfl;(try simp only [Nat.add_zero] at rx1 sx1);have BX:=Lib.hid bx;clear bx
 have hlt0:=BX.out.lt 0 rfl
 have hlt1:=BX.out.lt 1 rfl
 simp only [Nat.add_zero] at hlt0
 go_upto_region 2 with (fail)
 (refine wp_region_grow_tail 8 (by kernel_rfl) (by kernel_rfl) ?_;simp only [List.take_succ_cons,List.take_zero,List.drop_succ_cons,List.drop_zero];(repeat (go_big_quiet_step (((go_at_call 204;exact Calls.ext_of (left_ret _ _ _))))));refine wpQuiet_nil ?_;rintro _ ⟨g,rfl⟩)
 have B:=Lib.hid (BX.out.step g.below).below
 go_wp2
 refine bodyPost_ret (results_tmp2 rfl _ _ _) rfl ?_
 exact ⟨rfl,B.out⟩
theorem Margin_ret {t:Tm} (h:TmT t) (w:World):Calls Tryz.prog 89 #[.agg t.cells] w (Ret (.int .i64 t.mar) w):=ret_of (Margin_any h w)
theorem Short_any {t:Tm} (h:TmT t) (w:World):Calls Tryz.prog 64 #[.agg t.cells] w fun e w'=>e=.returned (.int .i64 (3 * t.mar))∧Below w.heap.size w w':=by
 have hm:=h.mar
 have E:=Lib.hid (show wrap64 (3 * t.mar)=3 * t.mar from IntWalk.wrap64_in _ (by omega))
 have H:=Lib.hid h
 clear h hm
 go_enter Tryz.func64,Tryz.ntmps64
 go_upto_region 1 with (fail)
 have bx:=Bx.new w (t.cells) 53;generalize w.alloc (.cells (t.cells) 53)=W at bx ⊢;have rx:=bx.rowOf;have sx:=bx.soft;have BX:=Lib.hid bx;clear bx
 go_wp2_with fail
 refine (Margin_any H.out _).mono ?_;rintro _ W2 ⟨rfl,hb⟩;have bx:=BX.out.step hb;clear BX rx sx hb;have rx:=bx.rowOf;have sx:=bx.soft;have BX:=Lib.hid bx;clear bx
 go_wp2
 go_ret
 refine ⟨?_,BX.out.below⟩
 show Ending.returned (Value.int .i64 (wrap64 (3 * t.mar)))=_
 rw [E.out]
theorem Short_ret {t:Tm} (h:TmT t) (w:World):Calls Tryz.prog 64 #[.agg t.cells] w (Ret (.int .i64 (3 * t.mar)) w):=ret_of (Short_any h w)
def Tm.long (t:Tm):Int:=t.fast * (3 * t.mar) + t.mar
theorem TmT.long {t:Tm} (h:TmT t):0 ≤ t.fast * (3 * t.mar)∧t.fast * (3 * t.mar) ≤ 3630∧0 ≤ t.long∧t.long ≤ 3751:=by
 have h1:=h.mar
 have h2:=h.fast
 have a1:0 ≤ t.fast * (3 * t.mar):=Int.mul_nonneg (by omega) (by omega)
 have a2:t.fast * (3 * t.mar) ≤ 10 * 363:=Int.mul_le_mul h2.2 (by omega) (by omega) (by omega)
 unfold Tm.long
 omega
theorem Long_any {t:Tm} (h:TmT t) (w:World):Calls Tryz.prog 63 #[.agg t.cells] w fun e w'=>e=.returned (.int .i64 t.long)∧Below w.heap.size w w':=by
 have hl:=h.long
 have e1:wrap64 (t.fast * (3 * t.mar))=t.fast * (3 * t.mar):=IntWalk.wrap64_in _ (by omega)
 have E2:=Lib.hid (show wrap64 (t.fast * (3 * t.mar) + t.mar)=t.long from IntWalk.wrap64_in _ (by unfold Tm.long at hl;omega))
 have H:=Lib.hid h
 clear h hl
 go_enter Tryz.func63,Tryz.ntmps63
 go_upto_region 1 with (fail)
 have bx:=Bx.new w (t.cells) 53;generalize w.alloc (.cells (t.cells) 53)=W at bx ⊢;have rx:=bx.rowOf;have sx:=bx.soft;have BX:=Lib.hid bx;clear bx
 have hlt:w.heap.size < W.heap.size:=(Array.getElem?_eq_some_iff.1 BX.out.row).1
 (refine wp_region_grow_tail 8 (by kernel_rfl) (by kernel_rfl) ?_;simp only [List.take_succ_cons,List.take_zero,List.drop_succ_cons,List.drop_zero];(repeat (go_big_quiet_step ((first | (go_at_call 64;exact Calls.ext_of (Short_ret H.out _)) | (go_at_call 89;exact Calls.ext_of (Margin_ret H.out _))))));refine wpQuiet_nil ?_;rintro _ ⟨g,rfl⟩)
 have B:=Lib.hid (BX.out.step g.below).below
 go_wp2
 go_ret
 refine ⟨?_,B.out⟩
 show Ending.returned (Value.int .i64 (wrap64 (t.fast * (3 * t.mar) + t.mar)))=_
 rw [E2.out]
theorem Long_ret {t:Tm} (h:TmT t) (w:World):Calls Tryz.prog 63 #[.agg t.cells] w (Ret (.int .i64 t.long) w):=ret_of (Long_any h w)
def paidV (d:Dl) (n:Cl):Int:=if d.r=1 then 0 else leftV n d.p
def safeE (t:Tm) (d:Dl) (n:Cl):Int:=if leftV n d.g < wrap64 (t.mar + wrap64 (paidV d n * t.fast)) then 23 else 0
theorem Safe_any {t:Tm} (h:TmT t) (d:Dl) (n:Cl) (w:World):Calls Tryz.prog 108 #[.agg t.cells,.agg d.cells,.agg n.cells] w fun e w'=>e=.returned (.int .i64 (safeE t d n))∧Below w.heap.size w w':=by
 have H:=Lib.hid h
 clear h
 by_cases hr:d.r=1
 ·by_cases hs:leftV n d.g < wrap64 t.mar
  ·have E:safeE t d n=23:=by unfold safeE paidV;rw [if_pos hr,Int.zero_mul,show wrap64 0=0 from IntWalk.wrap64_in _ (by decide),Int.add_zero];exact if_pos hs
   rw [E]
   clear E
   have HS:=Lib.hid (show (leftV n d.g < wrap64 t.mar)=True from eq_true hs)
   clear hs
   go_enter Tryz.func108,Tryz.ntmps108
   go_upto_region 1 with (fail)
   have bx:=Bxs.new3 w (t.cells) 53 (d.cells) 83 (n.cells) 37;generalize (((w.alloc (.cells (t.cells) 53)).alloc (.cells (d.cells) 83)).alloc (.cells (n.cells) 37))=W at bx ⊢;have rx0:=bx.row' 0 rfl;have sx0:=bx.soft' 0 rfl;(try simp only [Nat.add_zero] at rx0 sx0);have rx1:=bx.row' 1 rfl;have sx1:=bx.soft' 1 rfl;(try simp only [Nat.add_zero] at rx1 sx1);have rx2:=bx.row' 2 rfl;have sx2:=bx.soft' 2 rfl;(try simp only [Nat.add_zero] at rx2 sx2);have BX:=Lib.hid bx;clear bx
   go_wp2_with fail
   refine (Left_any _ _ _).mono ?_;rintro _ W2 ⟨rfl,hb⟩;have bx:=BX.out.step hb;clear BX hb rx0 sx0 rx1 sx1 rx2 sx2;have rx0:=bx.row' 0 rfl;have sx0:=bx.soft' 0 rfl;(try simp only [Nat.add_zero] at rx0 sx0);have rx1:=bx.row' 1 rfl;have sx1:=bx.soft' 1 rfl;(try simp only [Nat.add_zero] at rx1 sx1);have rx2:=bx.row' 2 rfl;have sx2:=bx.soft' 2 rfl;(try simp only [Nat.add_zero] at rx2 sx2);have BX:=Lib.hid bx;clear bx
   go_wp2_with fail
   have hlt0:=BX.out.lt 0 rfl
   simp only [Nat.add_zero] at hlt0
   (refine wp_region_grow_tail 8 (by kernel_rfl) (by kernel_rfl) ?_;simp only [List.take_succ_cons,List.take_zero,List.drop_succ_cons,List.drop_zero];(repeat (go_big_quiet_step (((go_at_call 89;exact Calls.ext_of (Margin_ret H.out _))))));refine wpQuiet_nil ?_;rintro _ ⟨g,rfl⟩)
   have B:=Lib.hid (BX.out.step g.below).below
   have hs:=HS.out
   go_wp2
   go_ret
   exact ⟨rfl,B.out⟩
  ·have E:safeE t d n=0:=by unfold safeE paidV;rw [if_pos hr,Int.zero_mul,show wrap64 0=0 from IntWalk.wrap64_in _ (by decide),Int.add_zero];exact if_neg hs
   rw [E]
   clear E
   have HS:=Lib.hid (show (leftV n d.g < wrap64 t.mar)=False from eq_false hs)
   clear hs
   go_enter Tryz.func108,Tryz.ntmps108
   go_upto_region 1 with (fail)
   have bx:=Bxs.new3 w (t.cells) 53 (d.cells) 83 (n.cells) 37;generalize (((w.alloc (.cells (t.cells) 53)).alloc (.cells (d.cells) 83)).alloc (.cells (n.cells) 37))=W at bx ⊢;have rx0:=bx.row' 0 rfl;have sx0:=bx.soft' 0 rfl;(try simp only [Nat.add_zero] at rx0 sx0);have rx1:=bx.row' 1 rfl;have sx1:=bx.soft' 1 rfl;(try simp only [Nat.add_zero] at rx1 sx1);have rx2:=bx.row' 2 rfl;have sx2:=bx.soft' 2 rfl;(try simp only [Nat.add_zero] at rx2 sx2);have BX:=Lib.hid bx;clear bx
   go_wp2_with fail
   refine (Left_any _ _ _).mono ?_;rintro _ W2 ⟨rfl,hb⟩;have bx:=BX.out.step hb;clear BX hb rx0 sx0 rx1 sx1 rx2 sx2;have rx0:=bx.row' 0 rfl;have sx0:=bx.soft' 0 rfl;(try simp only [Nat.add_zero] at rx0 sx0);have rx1:=bx.row' 1 rfl;have sx1:=bx.soft' 1 rfl;(try simp only [Nat.add_zero] at rx1 sx1);have rx2:=bx.row' 2 rfl;have sx2:=bx.soft' 2 rfl;(try simp only [Nat.add_zero] at rx2 sx2);have BX:=Lib.hid bx;clear bx
   go_wp2_with fail
   have hlt0:=BX.out.lt 0 rfl
   simp only [Nat.add_zero] at hlt0
   (refine wp_region_grow_tail 8 (by kernel_rfl) (by kernel_rfl) ?_;simp only [List.take_succ_cons,List.take_zero,List.drop_succ_cons,List.drop_zero];(repeat (go_big_quiet_step (((go_at_call 89;exact Calls.ext_of (Margin_ret H.out _))))));refine wpQuiet_nil ?_;rintro _ ⟨g,rfl⟩)
   have B:=Lib.hid (BX.out.step g.below).below
   have hs:=HS.out
   go_wp2
   go_ret
   exact ⟨rfl,B.out⟩
 ·by_cases hs:leftV n d.g < wrap64 (t.mar + wrap64 (leftV n d.p * t.fast))
  ·have E:safeE t d n=23:=by unfold safeE paidV;rw [if_neg hr];exact if_pos hs
   rw [E]
   clear E
   have hr2:(d.r == 1)=false:=by rw [beq_eq_false_iff_ne];exact hr
   clear hr
   have HS:=Lib.hid (show (leftV n d.g < wrap64 (t.mar + wrap64 (leftV n d.p * t.fast)))=True from eq_true hs)
   clear hs
   go_enter Tryz.func108,Tryz.ntmps108
   go_upto_region 1 with (fail)
   have bx:=Bxs.new3 w (t.cells) 53 (d.cells) 83 (n.cells) 37;generalize (((w.alloc (.cells (t.cells) 53)).alloc (.cells (d.cells) 83)).alloc (.cells (n.cells) 37))=W at bx ⊢;have rx0:=bx.row' 0 rfl;have sx0:=bx.soft' 0 rfl;(try simp only [Nat.add_zero] at rx0 sx0);have rx1:=bx.row' 1 rfl;have sx1:=bx.soft' 1 rfl;(try simp only [Nat.add_zero] at rx1 sx1);have rx2:=bx.row' 2 rfl;have sx2:=bx.soft' 2 rfl;(try simp only [Nat.add_zero] at rx2 sx2);have BX:=Lib.hid bx;clear bx
   go_wp2_with fail
   refine (Left_any _ _ _).mono ?_;rintro _ W2 ⟨rfl,hb⟩;have bx:=BX.out.step hb;clear BX hb rx0 sx0 rx1 sx1 rx2 sx2;have rx0:=bx.row' 0 rfl;have sx0:=bx.soft' 0 rfl;(try simp only [Nat.add_zero] at rx0 sx0);have rx1:=bx.row' 1 rfl;have sx1:=bx.soft' 1 rfl;(try simp only [Nat.add_zero] at rx1 sx1);have rx2:=bx.row' 2 rfl;have sx2:=bx.soft' 2 rfl;(try simp only [Nat.add_zero] at rx2 sx2);have BX:=Lib.hid bx;clear bx
   go_wp2_with fail
   have hlt0:=BX.out.lt 0 rfl
   simp only [Nat.add_zero] at hlt0
   (refine wp_region_grow_tail 8 (by kernel_rfl) (by kernel_rfl) ?_;simp only [List.take_succ_cons,List.take_zero,List.drop_succ_cons,List.drop_zero];(repeat (go_big_quiet_step (((go_at_call 89;exact Calls.ext_of (Margin_ret H.out _))))));refine wpQuiet_nil ?_;rintro _ ⟨g,rfl⟩)
   have B:=Lib.hid (BX.out.step g.below).below
   have hs:=HS.out
   go_wp2
   go_ret
   exact ⟨rfl,B.out⟩
  ·have E:safeE t d n=0:=by unfold safeE paidV;rw [if_neg hr];exact if_neg hs
   rw [E]
   clear E
   have hr2:(d.r == 1)=false:=by rw [beq_eq_false_iff_ne];exact hr
   clear hr
   have HS:=Lib.hid (show (leftV n d.g < wrap64 (t.mar + wrap64 (leftV n d.p * t.fast)))=False from eq_false hs)
   clear hs
   go_enter Tryz.func108,Tryz.ntmps108
   go_upto_region 1 with (fail)
   have bx:=Bxs.new3 w (t.cells) 53 (d.cells) 83 (n.cells) 37;generalize (((w.alloc (.cells (t.cells) 53)).alloc (.cells (d.cells) 83)).alloc (.cells (n.cells) 37))=W at bx ⊢;have rx0:=bx.row' 0 rfl;have sx0:=bx.soft' 0 rfl;(try simp only [Nat.add_zero] at rx0 sx0);have rx1:=bx.row' 1 rfl;have sx1:=bx.soft' 1 rfl;(try simp only [Nat.add_zero] at rx1 sx1);have rx2:=bx.row' 2 rfl;have sx2:=bx.soft' 2 rfl;(try simp only [Nat.add_zero] at rx2 sx2);have BX:=Lib.hid bx;clear bx
   go_wp2_with fail
   refine (Left_any _ _ _).mono ?_;rintro _ W2 ⟨rfl,hb⟩;have bx:=BX.out.step hb;clear BX hb rx0 sx0 rx1 sx1 rx2 sx2;have rx0:=bx.row' 0 rfl;have sx0:=bx.soft' 0 rfl;(try simp only [Nat.add_zero] at rx0 sx0);have rx1:=bx.row' 1 rfl;have sx1:=bx.soft' 1 rfl;(try simp only [Nat.add_zero] at rx1 sx1);have rx2:=bx.row' 2 rfl;have sx2:=bx.soft' 2 rfl;(try simp only [Nat.add_zero] at rx2 sx2);have BX:=Lib.hid bx;clear bx
   go_wp2_with fail
   have hlt0:=BX.out.lt 0 rfl
   simp only [Nat.add_zero] at hlt0
   (refine wp_region_grow_tail 8 (by kernel_rfl) (by kernel_rfl) ?_;simp only [List.take_succ_cons,List.take_zero,List.drop_succ_cons,List.drop_zero];(repeat (go_big_quiet_step (((go_at_call 89;exact Calls.ext_of (Margin_ret H.out _))))));refine wpQuiet_nil ?_;rintro _ ⟨g,rfl⟩)
   have B:=Lib.hid (BX.out.step g.below).below
   have hs:=HS.out
   go_wp2
   go_ret
   exact ⟨rfl,B.out⟩
end Go.Proofs.YtjkfondgacjpnaaGreatDoor
