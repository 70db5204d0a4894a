/- What is proved: parts of the walk and of the plain law, 2 texts in one. No condition but those each law names. -/
import Derived.Test.YtjkfondgacjpnaaGreatDoorF26
import Derived.Test.YtjkfondgacjpnaaGreatDoorF33
import Derived.Test.YtjkfondgacjpnaaGreatDoorF19
import Derived.RangeFuncBox
import Derived.RangeFuncLeaves
import Derived.Shelf.Abstract
import Derived.TacticsInMore
import Derived.LoopNIn
import Derived.LoopIn
import Derived.Test.YtjkfondgacjpnaaGreatDoorF25
import Derived.Test.YtjkfondgacjpnaaGreatDoorF23
import Derived.Test.YtjkfondgacjpnaaGreatDoorF13
import Derived.Test.YtjkfondgacjpnaaGreatDoorF29
namespace Go.Proofs.YtjkfondgacjpnaaGreatDoor
open Go.RowKit
open Sx (MapIs getL putL KeyT keyInt Turns Foot)
set_option maxRecDepth 100000
theorem encA_same {M:List (Int × En)} {k:Int} {e e':En} (h:getA M k=some e) (hp:e'.pt=e.pt):encA En.pt (putA M k e')=encA En.pt M:=by
 induction M with
 | nil=>cases h
 | cons p M ih=>
  obtain ⟨a,x⟩:=p
  unfold getA at h
  unfold putA
  split at h
  ·rename_i q
   rw [if_pos q]
   injection h with h
   subst h
   subst q
   simp [encA,hp]
  ·rename_i q
   rw [if_neg q]
   have:=ih h
   simp [encA] at this ⊢
   exact this
theorem keys_nodup {M:List (Int × En)} (h:((encA En.pt M).map (·.1)).Nodup):(M.map (·.1)).Nodup:=by
 unfold encA at h
 rw [List.map_map] at h
 unfold List.Nodup at h ⊢
 rw [List.pairwise_map] at h ⊢
 exact h.imp fun hab e=>hab (by show Value.int .i64 _=Value.int .i64 _;rw [e])
theorem putA_mem' {M:List (Int × En)} (hn:(M.map (·.1)).Nodup) {k:Int} {v:En} {p:Int × En} (h:p ∈ putA M k v):p=(k,v) ∨ (p ∈ M∧p.1 ≠ k):=by
 have h1:=getA_at (putA_nodup (k:=k) (v:=v) hn) h
 rw [getA_put] at h1
 by_cases e:p.1=k
 ·rw [if_pos e] at h1
  injection h1 with h1
  left
  obtain ⟨a,b⟩:=p
  simp only at e h1
  rw [e,h1]
 ·rw [if_neg e] at h1
  exact .inr ⟨getA_mem h1,e⟩
theorem BookAt.turn {w w':World} {bk mb:Nat} {M:List (Int × En)} {k:Int} {e:En} {s:Sw} (h:BookAt w bk mb M) (he:getA M k=some e) (hr:w'.heap[e.b]?=some (.cells (s.ent e.m) 148)) (ho:∀ i,i ≠ e.b→w'.heap[i]?=w.heap[i]?):
  BookAt w' bk mb (putA M k ⟨e.b,e.m,s⟩):=by
 have hm:=getA_mem he
 have hE:=(h.en _ hm).1
 have n1:bk ≠ e.b:=fun q=>by have:=h.ob;rw [q,hE.row] at this;cases this
 have n2:mb ≠ e.b:=fun q=>by obtain ⟨es,c,x,_⟩:=h.mp;rw [q,hE.row] at x;cases x
 have n3:∀ p ∈ M,p.2.m ≠ e.b:=fun p hp q=>by have:=(h.en p hp).1.map;rw [q,hE.row] at this;cases this
 refine ⟨(ho bk n1).trans h.ob,?_,fun p hp=>?_,fun p hp q hq x=>?_⟩
 ·obtain ⟨es,c,x,y,z⟩:=h.mp
  exact ⟨es,c,(ho mb n2).trans x,by rw [encA_same he (by rfl)];exact y,z⟩
 ·have hn:(M.map (·.1)).Nodup:=by obtain ⟨es,c,_,y,_⟩:=h.mp;exact keys_nodup y.2
  rcases putA_mem' hn hp with rfl | ⟨hp,hk⟩
  ·exact ⟨⟨hr,(ho _ (n3 _ hm)).trans hE.map⟩,(h.en _ hm).2⟩
  ·obtain ⟨h1,h2⟩:=h.en p hp
   have n4:p.2.b ≠ e.b:=fun q=>hk (by have:=h.inj p hp _ hm q;rw [this])
   exact ⟨⟨(ho _ n4).trans h1.row,(ho _ (n3 p hp)).trans h1.map⟩,h2⟩
 ·have hn:(M.map (·.1)).Nodup:=by obtain ⟨es,c,_,y,_⟩:=h.mp;exact keys_nodup y.2
  rcases putA_mem' hn hp with rfl | ⟨hp,hk⟩
  ·rcases putA_mem' hn hq with rfl | ⟨hq,hk⟩
   ·rfl
   ·exact absurd (congrArg Prod.fst (h.inj q hq _ hm x.symm)) hk
  ·rcases putA_mem' hn hq with rfl | ⟨hq,hk'⟩
   ·exact absurd (congrArg Prod.fst (h.inj p hp _ hm x)) hk
   ·exact h.inj p hp q hq x
theorem e_42 (s:Sw) (m:Nat):(s.ent m)[42]?=some (.bool s.kn):=by
 have:=s_42 s
 unfold Sw.cells at this
 unfold Sw.ent
 rw [List.getElem?_toArray] at this ⊢
 rw [List.getElem?_append_left (by rw [s_len];decide)]
 exact this
theorem e_h (s:Sw) (m:Nat):sub (s.ent m) 8 32=s.d.h.cells:=sub_at s.d.head (bts s.d.h.l) ([.int .i64 s.d.q] ++ (.int .i64 s.st :: .bool s.kn :: bts s.s.l) ++ [Value.map (some m)]) rfl s.d.h.len (by simp [Sw.ent,Sw.list,Dl.list])
theorem e_set (s:Sw) (m:Nat) (h:Hs):over ((s.ent m).setIfInBounds 42 (.bool true)) 43 h.cells.toList=Sw.ent { s with kn:=true,s:=h } m:=by
 obtain ⟨d,st,kn,e⟩:=s
 obtain ⟨i,r,p,g,hh,q⟩:=d
 obtain ⟨f,rfl⟩:=hh.form
 obtain ⟨f',rfl⟩:=e.form
 obtain ⟨f2,rfl⟩:=h.form
 kernel_rfl
def IsH (v:Value):Prop:=∃ h:Hs,v=.agg h.cells
theorem is_h (h:Hs):IsH (.agg h.cells)=True:=eq_true ⟨h,rfl⟩
theorem eqg39 (w:World) (op:BinOp) (x y:Operand) (xs ys:Array Value) (ho:op=.neq ∨ op=.eql):(eqGuard op 65 x y (.agg xs) (.agg ys)).run Tryz.prog w=.ok () w:=by rcases ho with rfl | rfl <;> kernel_rfl
theorem neq_h (h:Hs) (w:World):(binOp .neq 65 (.agg h.cells) (.agg h.cells)).run Tryz.prog w=.ok (.bool false) w:=by
 obtain ⟨f,rfl⟩:=h.form
 have e:=eq39 f 9998
 rw [hexp_eq]
 simp [go_sem,e]
theorem eneq39 (w:World) (ρ:Operand→Value) (x y:Operand) (dst:Option Tmp) (ty:TypeId) (pos:String) (af:Array Edge) (gd:Option (Nat × Bool)) (r:TypeId) (h1:ρ x=ρ y) (h2:IsH (ρ y)):(execOp ρ ⟨dst,.binOp .neq 65 x y r,ty,pos,af,gd⟩).run Tryz.prog w=.ok (.value (.bool false)) w:=by
 obtain ⟨m,hm⟩:=h2
 unfold execOp
 simp only [Sem.run_bind,h1,hm,eqg39 _ _ _ _ _ _ (.inl rfl),Result.andThen_ok,neq_h,Sem.run_pure]
theorem sl_in {w:World} {b o:Nat} {cs:Array Value} {h:Hs} (hr:rowOf w b=cs) (hs:sub cs o 32=h.cells):Sl w (some ⟨b,o,none⟩) 32 32 (bts h.l):=by
 refine ⟨h.len,Nat.le_refl _,(fun q=>by cases q),.inr ⟨b,o,rfl,fun j x hj=>?_⟩⟩
 have:=range_of_row hr o 32
 rw [hs] at this
 exact this j x hj
attribute [local go_sem ↓] rowOf_cell eneq39
attribute [local go_sem] rowOf_alloc soft_alloc rowOf_drew soft_drew rowOf_setCell soft_setCell rowOf_setRow soft_setRow frozen_of_soft Ext.row Ext.soft_ e_size e_42 e_h e_one is_h
set_option maxHeartbeats 1000000 in
theorem learns_any {w:World} (ht:Tabs w) {bk mb:Nat} {M:List (Int × En)} (h:BookAt w bk mb M) {k:Int} {e:En} (he:getA M k=some e) {r:Rc} (hkn:e.s.kn=false) (hs:sumH r.s.l=e.s.d.h):
  Calls Tryz.prog 96 #[.pointer (some ⟨e.b,0,none⟩),.agg r.cells] w fun x w'=>x=.returned (.int .i64 0)∧BookAt w' bk mb (putA M k ⟨e.b,e.m,{ e.s with kn:=true,s:=r.s }⟩)∧Turns (fun i _=>i=e.b) w w':=by
 have HE:=(h.en _ (getA_mem he)).1
 have H:=Lib.hid h
 have HA:=Lib.hid he
 have HE:=Lib.hid HE
 have HT:=Lib.hid ht
 clear h he ht
 go_enter Tryz.func96,Tryz.ntmps96
 go_upto_region 1 with (fail)
 have bx:=Bx.new w (r.cells) 119;generalize w.alloc (.cells (r.cells) 119)=W at bx ⊢;have rx:=bx.rowOf;have sx:=bx.soft;have BX:=Lib.hid bx;clear bx
 have r1:=rowOf_of ((BX.out.below.block _ HE.out.lt.1).trans HE.out.row)
 have z1:=e_42 e.s e.m
 rw [hkn] at z1
 have z2:=e_h e.s e.m
 have z3:=e_size e.s e.m
 have KB:∀ g:Ext W,Calls Tryz.prog 45 #[.slice (some ⟨w.heap.size,43,none⟩) 32 32] g.val (Ret (.agg e.s.d.h.cells) g.val):=fun g=>by
  rw [← hs]
  exact ret_of (Blake_any (HT.out.keep (Nat.le_refl _) (BX.out.step g.below).below) (sl_in (BX.out.step g.below).rowOf (r_s r)) (by decide))
 have KB:=Lib.hid KB
 generalize hC:e.s.ent e.m=C at r1 z1 z2 z3
 have HC:=Lib.hid hC
 have z4:∀ q:42 < C.size,C[42]'q=.bool false:=fun q=>getg z1 q
 clear hC
 have hlt0:w.heap.size < W.heap.size:=(Array.getElem?_eq_some_iff.1 BX.out.row).1
 have hlt1:e.b < W.heap.size:=Nat.lt_of_lt_of_le HE.out.lt.1 BX.out.below.size
 go_upto_region 3 with (fail)
 (refine wp_region_grow (by kernel_rfl) (by kernel_rfl) ?_;(repeat (go_big_quiet_step (((go_at_call 45;exact Calls.ext_of (KB.out _))))));refine wpQuiet_nil ?_;rintro _ ⟨g,rfl⟩)
 have bx:=BX.out.step g.below
 have hE2:g.val.heap[e.b]?=some (.cells C 148):=by
  rw [← HC.out]
  exact (bx.below.block _ HE.out.lt.1).trans HE.out.row
 have HB:=Lib.hid (H.out.below bx.below)
 have rE:=rowOf_of hE2
 have sE:=soft_of hE2
 have hne:¬ e.b=w.heap.size:=Nat.ne_of_lt HE.out.lt.1
 clear BX KB rx sx r1 z1 z2 z4 hlt0 hlt1
 generalize g.val=V at *
 have rx:=bx.rowOf
 have BX:=Lib.hid bx
 have HE2:=Lib.hid hE2
 clear bx hE2
 go_wp2
 go_ret
 rw [setRow_after,← HC.out,e_set]
 have hne2:∀ i,i ≠ e.b→(V.setRow e.b (Sw.ent { e.s with kn:=true,s:=r.s } e.m)).heap[i]?=V.heap[i]?:=fun i hi=>setRow_other _ _ _ _ hi
 have hlow:∀ i,i ≠ e.b→i < w.heap.size→(V.setRow e.b (Sw.ent { e.s with kn:=true,s:=r.s } e.m)).heap[i]?=w.heap[i]?:=fun i hi hl=>(hne2 i hi).trans (BX.out.below.block i hl)
 refine ⟨rfl,?_,⟨BX.out.below.os,BX.out.below.tape,BX.out.below.output,Nat.le_trans BX.out.below.size (by simp [World.setRow]),fun i hi hF=>hlow i (hF 0) hi⟩⟩
 exact HB.out.turn HA.out (setRow_heap V e.b C _ 148 _ HE2.out) hne2
end Go.Proofs.YtjkfondgacjpnaaGreatDoor
namespace Go.Proofs.YtjkfondgacjpnaaGreatDoor
open Go.RowKit
open Sx (MapIs getL putL KeyT keyInt Turns Foot)
set_option maxRecDepth 100000
attribute [local go_sem ↓] rowOf_cell
attribute [local go_sem] rowOf_alloc soft_alloc rowOf_drew soft_drew
theorem below_turns {F:Foot} {w W w':World} (hb:Below w.heap.size w W) (h:Turns F W w'):Turns F w w':=
 ⟨h.os.trans hb.os,h.tape.trans hb.tape,h.output.trans hb.output,Nat.le_trans hb.size h.size,fun k hk hF=>(h.block k (Nat.lt_of_lt_of_le hk hb.size) hF).trans (hb.block k hk)⟩
theorem Apply_D {w:World} {bk mb:Nat} {M:List (Int × En)} (h:BookAt w bk mb M) {d:Dl} (hd:dealOk d=true) (hf:getA M d.i=none) (hl:M.length < 16):Calls Tryz.prog 70 #[.pointer (some ⟨bk,0,none⟩),.agg (rcD d).cells] w fun e w'=>e=.returned (.int .i64 0)∧∃ be bm,BookAt w' bk mb (putA M d.i ⟨be,bm,⟨d,1,false,Hs.zero⟩⟩)∧Turns (fun i _=>i=mb) w w'∧w.heap.size ≤ be∧w.heap.size ≤ bm:=by
 have H:=Lib.hid h
 have HF:=Lib.hid hf
 have H1:=Lib.hid hd
 have HL:=Lib.hid hl
 clear h hf hd hl
 go_enter Tryz.func70,Tryz.ntmps70
 go_upto_region 1 with (fail)
 have bx:=Bx.new w ((rcD d).cells) 119;generalize w.alloc (.cells ((rcD d).cells) 119)=W at bx ⊢;have rx:=bx.rowOf;have sx:=bx.soft;have BX:=Lib.hid bx;clear bx
 go_wp2_with fail
 refine (RCheck_D H1.out _).mono ?_;rintro _ W2 ⟨rfl,hb⟩;have bx:=BX.out.step hb;clear BX rx sx hb;have rx:=bx.rowOf;have sx:=bx.soft;have BX:=Lib.hid bx;clear bx
 have K:=Lib.hid (deal_any (H.out.below BX.out.below) (rcD d) HF.out HL.out)
 go_wp2_with fail
 refine K.out.mono ?_
 rintro _ W3 ⟨rfl,be,bm,q1,q2,q3,q4⟩
 have Q1:=Lib.hid q1
 have Q2:=Lib.hid (below_turns BX.out.below q2)
 have hz:=BX.out.below.size
 clear q1 q2 K
 go_wp2
 go_ret
 exact ⟨rfl,be,bm,Q1.out,Q2.out,by omega,by omega⟩
theorem run_ins {w:World} {es:Array MapEntry} {c r:Nat} {k:Int} {v:Value} (hr:r=w.heap.size) (hk:∀ e ∈ es.toList,∃ m,e.key=.int .i64 m∧m ≠ k):
  (Instr.mapUpdate 195 (.map (some r)) (.int .i64 k) v).run Tryz.prog (w.alloc (.map es c))=.ok () (w.alloc (.map (es.push ⟨.int .i64 k,v,c⟩) (c + 1))):=by
 subst hr
 have hK:KeyT Tryz.prog 3 IntK:=keyInt Tryz.underlying3
 have h2:(w.alloc (.map es c)).heap[w.heap.size]?=some (.map es c):=heap_alloc_new w _
 have hget:=MapKept.run_getObj_map (P:=Tryz.prog) h2
 have hfi:=hK.find (.int .i64 k) es.toList (w.alloc (.map es c)) ⟨k,rfl⟩ (fun e he=>by obtain ⟨m,hm,_⟩:=hk e he;exact ⟨m,hm⟩)
 have hno:Sx.findIx (.int .i64 k) es.toList 0=none:=by
  have gen:∀ (l:List MapEntry) (i:Nat),(∀ e ∈ l,∃ m,e.key=.int .i64 m∧m ≠ k)→Sx.findIx (.int .i64 k) l i=none:=by
   intro l
   induction l with
   | nil=>intro i _;rfl
   | cons a l ih=>
    intro i hl
    obtain ⟨m,hm,hn⟩:=hl a (List.mem_cons_self ..)
    unfold Sx.findIx
    rw [if_neg (by rw [hm];intro q;injection q with _ q;exact hn q.symm)]
    exact ih (i + 1) fun e he=>hl e (List.mem_cons_of_mem _ he)
  exact gen _ 0 hk
 rw [hno] at hfi
 have hset:=MapKept.run_setObj_map (P:=Tryz.prog) (.map (es.push ⟨.int .i64 k,v,c⟩) (c + 1)) h2
 simp only [Instr.mapUpdate,Sem.run_bind,run_underlying Tryz.underlying195,Result.andThen_ok,hget,hK.chk false (.int .i64 k) _ ⟨k,rfl⟩,hfi,hset]
 have e:(w.heap.push (.map es c)).setIfInBounds w.heap.size (.map (es.push ⟨.int .i64 k,v,c⟩) (c + 1))=w.heap.push (.map (es.push ⟨.int .i64 k,v,c⟩) (c + 1)):=by
  apply Array.ext_getElem?
  intro i
  rw [Array.getElem?_setIfInBounds,Array.getElem?_push,Array.getElem?_push]
  by_cases q:w.heap.size=i
  ·subst q;simp
  ·rw [if_neg q,if_neg (Ne.symm q)]
   simp [Ne.symm q]
 show Result.ok () { w with heap:=(w.heap.push (.map es c)).setIfInBounds w.heap.size _ }=Result.ok () { w with heap:=w.heap.push _ }
 rw [e]
theorem run_first {w:World} {v v2 v3:Value} {r:Nat} (hr:r=w.heap.size):(Instr.lookup 195 (.map (some r)) (.int .i64 2) false).run Tryz.prog (w.alloc (.map #[⟨.int .i64 2,v,0⟩,⟨.int .i64 3,v2,1⟩,⟨.int .i64 4,v3,2⟩] 3))=.ok v (w.alloc (.map #[⟨.int .i64 2,v,0⟩,⟨.int .i64 3,v2,1⟩,⟨.int .i64 4,v3,2⟩] 3)):=by
 subst hr
 have hK:KeyT Tryz.prog 3 IntK:=keyInt Tryz.underlying3
 have h2:=heap_alloc_new w (.map #[⟨.int .i64 2,v,0⟩,⟨.int .i64 3,v2,1⟩,⟨.int .i64 4,v3,2⟩] 3)
 have hget:=MapKept.run_getObj_map (P:=Tryz.prog) h2
 generalize hW:w.alloc (.map #[⟨.int .i64 2,v,0⟩,⟨.int .i64 3,v2,1⟩,⟨.int .i64 4,v3,2⟩] 3)=W at *
 have hfi:=hK.find (.int .i64 2) [⟨.int .i64 2,v,0⟩,⟨.int .i64 3,v2,1⟩,⟨.int .i64 4,v3,2⟩] W ⟨2,rfl⟩ (fun e he=>by
  simp only [List.mem_cons,List.not_mem_nil,or_false] at he
  rcases he with rfl | rfl | rfl
  ·exact ⟨2,rfl⟩
  ·exact ⟨3,rfl⟩
  ·exact ⟨4,rfl⟩)
 have hf:Sx.findIx (.int .i64 2) [⟨.int .i64 2,v,0⟩,⟨.int .i64 3,v2,1⟩,⟨.int .i64 4,v3,2⟩] 0=some (0,v):=by
  unfold Sx.findIx
  rw [if_pos rfl]
 rw [hf] at hfi
 simp only [Instr.lookup,Sem.run_bind,run_underlying Tryz.underlying195,Result.andThen_ok,hget,Sem.run_pure,hK.chk _ (.int .i64 2) W ⟨2,rfl⟩,hfi]
 rfl
attribute [local go_sem] Sx.run_mk rowOf_map
theorem Apply_S {w:World} (ht:Tabs w) {bk mb:Nat} {M:List (Int × En)} (h:BookAt w bk mb M) {k:Int} {e:En} (hi:wi k 1 1073741824=true) (he:getA M k=some e) {s:Hs} (hkn:e.s.kn=false) (hs:sumH s.l=e.s.d.h):
  Calls Tryz.prog 70 #[.pointer (some ⟨bk,0,none⟩),.agg (rcS k s).cells] w fun x w'=>x=.returned (.int .i64 0)∧BookAt w' bk mb (putA M k ⟨e.b,e.m,{ e.s with kn:=true,s:=s }⟩)∧Turns (fun i _=>i=e.b) w w':=by
 have H:=Lib.hid h
 have HA:=Lib.hid he
 have HT:=Lib.hid ht
 have HI:=Lib.hid hi
 clear h he ht hi
 go_enter Tryz.func70,Tryz.ntmps70
 go_upto_region 1 with (fail)
 have bx:=Bx.new w ((rcS k s).cells) 119;generalize w.alloc (.cells ((rcS k s).cells) 119)=W at bx ⊢;have rx:=bx.rowOf;have sx:=bx.soft;have BX:=Lib.hid bx;clear bx
 go_wp2_with fail
 refine (RCheck_S HI.out _).mono ?_;rintro _ W2 ⟨rfl,hb⟩;have bx:=BX.out.step hb;clear BX rx sx hb;have rx:=bx.rowOf;have sx:=bx.soft;have BX:=Lib.hid bx;clear bx
 have hB:=(H.out.below BX.out.below)
 have r0:=rowOf_of hB.ob
 have L:=(hB.drew.look k).1
 rw [HA.out] at L
 replace L:(Instr.lookup 142 (.map (some mb)) (.int .i64 k) false).run Tryz.prog W2.drew=.ok (.pointer (some ⟨e.b,0,none⟩)) W2.drew:=L
 have HB:=Lib.hid hB.drew
 clear hB
 go_upto_region 6 with (fail)
 go_region
 have bx:=BX.out.step (Below.refl _ W2).drew
 clear BX rx sx r0 L
 generalize W2.drew=V at *
 have rx:=bx.rowOf
 have sx:=bx.soft
 have BX:=Lib.hid bx
 clear bx
 go_upto_region 9 with (fail)
 have hlt:=(Array.getElem?_eq_some_iff.1 BX.out.row).1
 have hne:(w.heap.size=V.heap.size)=False:=eq_false (by omega)
 obtain ⟨f1,hf1⟩:∃ f,f=Value.func (Fn.func 96) #[.pointer (some ⟨e.b,0,none⟩)] #[]:=⟨_,rfl⟩
 obtain ⟨f2,hf2⟩:∃ f,f=Value.func (Fn.func 97) #[.pointer (some ⟨e.b,0,none⟩)] #[]:=⟨_,rfl⟩
 obtain ⟨f3,hf3⟩:∃ f,f=Value.func (Fn.func 98) #[.pointer (some ⟨e.b,0,none⟩)] #[]:=⟨_,rfl⟩
 have I1:(Instr.mapUpdate 195 (.map (some V.heap.size)) (.int .i64 2) f1).run Tryz.prog (V.alloc (.map #[] 0))=.ok () (V.alloc (.map #[⟨.int .i64 2,f1,0⟩] 1)):=run_ins rfl (by intro e he;simp at he)
 have I2:(Instr.mapUpdate 195 (.map (some V.heap.size)) (.int .i64 3) f2).run Tryz.prog (V.alloc (.map #[⟨.int .i64 2,f1,0⟩] 1))=.ok () (V.alloc (.map #[⟨.int .i64 2,f1,0⟩,⟨.int .i64 3,f2,1⟩] 2)):=run_ins rfl (by
  intro e he
  simp only [List.mem_cons,List.not_mem_nil,or_false] at he
  subst he
  exact ⟨2,rfl,by decide⟩)
 have I3:(Instr.mapUpdate 195 (.map (some V.heap.size)) (.int .i64 4) f3).run Tryz.prog (V.alloc (.map #[⟨.int .i64 2,f1,0⟩,⟨.int .i64 3,f2,1⟩] 2))=.ok () (V.alloc (.map #[⟨.int .i64 2,f1,0⟩,⟨.int .i64 3,f2,1⟩,⟨.int .i64 4,f3,2⟩] 3)):=run_ins rfl (by
  intro e he
  simp only [List.mem_cons,List.not_mem_nil,or_false] at he
  rcases he with rfl | rfl
  ·exact ⟨2,rfl,by decide⟩
  ·exact ⟨3,rfl,by decide⟩)
 have I4:(Instr.lookup 195 (.map (some V.heap.size)) (.int .i64 2) false).run Tryz.prog (V.alloc (.map #[⟨.int .i64 2,f1,0⟩,⟨.int .i64 3,f2,1⟩,⟨.int .i64 4,f3,2⟩] 3))=.ok f1 (V.alloc (.map #[⟨.int .i64 2,f1,0⟩,⟨.int .i64 3,f2,1⟩,⟨.int .i64 4,f3,2⟩] 3)):=run_first rfl
 have hb:Below V.heap.size V (V.alloc (.map #[⟨.int .i64 2,f1,0⟩,⟨.int .i64 3,f2,1⟩,⟨.int .i64 4,f3,2⟩] 3)):=(Below.refl _ V).alloc (Nat.le_refl _) _
 have K:=Lib.hid (learns_any (HT.out.keep (Nat.le_refl _) (BX.out.step hb).below) (HB.out.below hb) HA.out (r:=rcS k s) hkn hs)
 have HY:=Lib.hid (BX.out.step hb).below
 subst hf1 hf2 hf3
 clear hb hlt
 go_wp2_with fail
 refine K.out.mono ?_
 rintro _ W5 ⟨rfl,q1,q2⟩
 have Q1:=Lib.hid q1
 have Q2:=Lib.hid (below_turns HY.out q2)
 clear q1 q2 K HY I1 I2 I3 I4 hne rx sx
 go_wp2
 go_ret
 exact ⟨rfl,Q1.out,Q2.out⟩
end Go.Proofs.YtjkfondgacjpnaaGreatDoor
namespace Go.Proofs.YtjkfondgacjpnaaGreatDoor
open Go.RowKit Go.Shelf
open Sx (MapIs getL putL KeyT keyInt Turns Foot)
set_option maxRecDepth 100000
attribute [local go_sem] Oper.semAt_some
end Go.Proofs.YtjkfondgacjpnaaGreatDoor

namespace Go.Proofs.YtjkfondgacjpnaaGreatDoor
open Go.RowKit
set_option maxRecDepth 100000
structure LgIn (l:Lg):Prop where
 w:0 ≤ l.w∧l.w ≤ 2
 a:1 ≤ l.a∧l.a ≤ 1125899906842624
 u:0 ≤ l.u∧l.u ≤ 1073741824
theorem legE_in {l:Lg} (h:legE l=0):LgIn l:=by
 unfold legE at h
 split at h
 ·omega
 ·split at h
  ·omega
  ·split at h
   ·omega
   ·exact ⟨by omega,by omega,by omega⟩
theorem propE_in {m:Msg} (h:propE m=0):LgIn m.p∧LgIn m.g∧m.p.w ≠ m.g.w∧m.c=0:=by
 unfold propE at h
 by_cases h1:legE m.p ≠ 0
 ·rw [if_pos h1] at h;exact absurd h h1
 ·rw [if_neg h1] at h
  by_cases h2:legE m.g ≠ 0
  ·rw [if_pos h2] at h;exact absurd h h2
  ·rw [if_neg h2] at h
   split at h
   ·omega
   ·split at h
    ·omega
    ·exact ⟨legE_in (by omega),legE_in (by omega),by assumption,by omega⟩
theorem idE_in {i k:Int} (h:idE i k=0):(1 ≤ i∧i ≤ 1073741824)∧k=0:=by
 unfold idE at h
 split at h
 ·omega
 ·exact ⟨by omega,h⟩
theorem rdLeg_put {l:Lg} (h:LgIn l) (r:List Nat):rdLeg (legI l ++ r,0)=(l,r,0):=by
 obtain ⟨h1,h2,h3⟩:=h
 have e1:=rdI_put (x:=l.w) (by omega) (by omega) (intI l.a ++ (intI l.u ++ r))
 have e2:=rdI_put (x:=l.a) (by omega) (by omega) (intI l.u ++ r)
 have e3:=rdI_put (x:=l.u) (by omega) (by omega) r
 have e:legI l ++ r=intI l.w ++ (intI l.a ++ (intI l.u ++ r)):=by unfold legI;simp [List.append_assoc]
 rw [e]
 unfold rdLeg
 rw [e1,e2,e3]
 obtain ⟨w,a,u⟩:=l
 simp only at h1 h2 h3 ⊢
 rw [Int.toNat_of_nonneg h1.1,Int.toNat_of_nonneg (by omega),Int.toNat_of_nonneg h3.1]
theorem Hs.eq_of {a b:Hs} (h:a.l=b.l):a=b:=by
 obtain ⟨l,hl⟩:=a
 obtain ⟨k,hk⟩:=b
 simp only at h
 subst h
 rfl
theorem rdHs_put (h:Hs) (r:List Nat):rdHs (h.l ++ r,0)=(h,r,0):=by
 have hl:=h.hl
 unfold rdHs
 rw [if_neg (by simp),if_neg (by rw [List.length_append];omega)]
 have e1:(h.l ++ r).drop 32=r:=List.drop_left' hl
 have e2:hs32 (h.l ++ r)=h:=by
  have e:=hs32_l (l:=h.l ++ r) (by rw [List.length_append];omega)
  rw [List.take_left' hl] at e
  exact Hs.eq_of e
 rw [e1,e2]
theorem mget_code {i c:Int} (he:idE i (refE c)=0):mgetM (putC i c)=(0,msgR i c):=by
 obtain ⟨hi,hc⟩:=idE_in he
 have hc2:1 ≤ c∧c ≤ 24:=by unfold refE at hc;split at hc <;> omega
 have e1:=rdI_put (x:=3) (by decide) (by decide) (intI i ++ intI c)
 have e2:=rdI_put (x:=i) (by omega) (by omega) (intI c)
 have e3:=rdI_put (x:=c) (by omega) (by omega) []
 rw [List.append_nil] at e3
 unfold mgetM putC
 rw [List.append_assoc,e1,e2]
 unfold gM
 rw [if_neg (by simp),if_pos (by rfl),e3]
 unfold finM
 simp only [Int.toNat_of_nonneg (show 0 ≤ c by omega),Int.toNat_of_nonneg (show 0 ≤ i by omega)]
 rw [if_neg (by simp [endR]),if_neg (by rw [he];simp)]
theorem mget_legs {m:Msg} (hk:m.k=1 ∨ m.k=2) (he:idE m.i (propE m)=0):mgetM (putLM m)=(0,m):=by
 obtain ⟨hi,hc⟩:=idE_in he
 obtain ⟨h1,h2,_,h4⟩:=propE_in hc
 have hk0:0 ≤ m.k:=by omega
 have e1:=rdI_put (x:=m.k) (by omega) (by omega) (intI m.i ++ (legI m.p ++ (legI m.g ++ (m.h.l ++ []))))
 have e2:=rdI_put (x:=m.i) (by omega) (by omega) (legI m.p ++ (legI m.g ++ (m.h.l ++ [])))
 have e3:=rdLeg_put h1 (legI m.g ++ (m.h.l ++ []))
 have e4:=rdLeg_put h2 (m.h.l ++ [])
 have e5:=rdHs_put m.h []
 have e:putLM m=intI m.k ++ (intI m.i ++ (legI m.p ++ (legI m.g ++ (m.h.l ++ [])))):=by unfold putLM legsI;simp [List.append_assoc]
 have e6:mLegs m.k.toNat m.i.toNat (legI m.p ++ (legI m.g ++ (m.h.l ++ [])),0)=m:=by
  unfold mLegs mAt
  simp only [e3,e4,e5]
  unfold m0
  obtain ⟨k,i,c,p,g,h⟩:=m
  simp only at hk0 hi h4 ⊢
  rw [Int.toNat_of_nonneg hk0,Int.toNat_of_nonneg (by omega),h4]
 have e7:sLegs m.k.toNat m.i.toNat (legI m.p ++ (legI m.g ++ (m.h.l ++ [])),0)=([],0):=by
  unfold sLegs mAt
  simp only [e3,e4,e5]
 unfold mgetM
 rw [e,e1,e2]
 unfold gM
 rw [if_neg (by simp),if_neg (by simp only;omega),if_pos (by simp only;omega),e6,e7]
 unfold finM
 rw [if_neg (by simp [endR]),if_neg (by simp only [Int.toNat_of_nonneg (show 0 ≤ m.i by omega),he];simp)]
def Told (e:Int):Prop:=0 ≤ e∧e ≤ 24
end Go.Proofs.YtjkfondgacjpnaaGreatDoor
namespace Go.Proofs.YtjkfondgacjpnaaGreatDoor
open Go.RowKit
open Sx (Ab DW Turns Did Foot)
set_option maxRecDepth 100000
def dmC (t:Tm) (sv:Sv) (jb bk:Nat) (dead:Bool):Array Value:=#[.int .i64 t.base,.int .i64 t.ppm,.int .i64 t.reserve,.int .i64 t.least,.int .i64 t.most,.int .i64 t.depth,.int .i64 t.delay,.int .i64 t.lag,.int .i64 t.fast,.slice sv.a sv.n sv.c,.pointer (some ⟨jb,0,none⟩),.pointer (some ⟨bk,0,none⟩),.bool dead]
theorem dm_t (t:Tm) (sv:Sv) (jb bk:Nat) (dead:Bool):sub (dmC t sv jb bk dead) 0 9=t.cells:=by kernel_rfl
theorem dm_size (t:Tm) (sv:Sv) (jb bk:Nat) (dead:Bool):(dmC t sv jb bk dead).size=13:=rfl
section
variable (t:Tm) (sv:Sv) (jb bk:Nat) (dead:Bool)
theorem dm_3:(dmC t sv jb bk dead)[3]?=some (.int .i64 t.least):=rfl
theorem dm_3g (q:3 < (dmC t sv jb bk dead).size):(dmC t sv jb bk dead)[3]'q=.int .i64 t.least:=rfl
theorem dm_4:(dmC t sv jb bk dead)[4]?=some (.int .i64 t.most):=rfl
theorem dm_4g (q:4 < (dmC t sv jb bk dead).size):(dmC t sv jb bk dead)[4]'q=.int .i64 t.most:=rfl
theorem dm_9:(dmC t sv jb bk dead)[9]?=some (.slice sv.a sv.n sv.c):=rfl
theorem dm_9g (q:9 < (dmC t sv jb bk dead).size):(dmC t sv jb bk dead)[9]'q=.slice sv.a sv.n sv.c:=rfl
theorem dm_10:(dmC t sv jb bk dead)[10]?=some (.pointer (some ⟨jb,0,none⟩)):=rfl
theorem dm_10g (q:10 < (dmC t sv jb bk dead).size):(dmC t sv jb bk dead)[10]'q=.pointer (some ⟨jb,0,none⟩):=rfl
theorem dm_11:(dmC t sv jb bk dead)[11]?=some (.pointer (some ⟨bk,0,none⟩)):=rfl
theorem dm_11g (q:11 < (dmC t sv jb bk dead).size):(dmC t sv jb bk dead)[11]'q=.pointer (some ⟨bk,0,none⟩):=rfl
theorem dm_12:(dmC t sv jb bk dead)[12]?=some (.bool dead):=rfl
theorem dm_12g (q:12 < (dmC t sv jb bk dead).size):(dmC t sv jb bk dead)[12]'q=.bool dead:=rfl
end
attribute [go_sem ↓] dm_3 dm_4 dm_9 dm_10 dm_11 dm_12
attribute [go_sem] dm_t dm_size dm_3g dm_4g dm_9g dm_10g dm_11g dm_12g
structure Dm where
 F:Foot
 xb:Nat
 jb:Nat
 bk:Nat
 mb:Nat
 sb:Nat
 c:Nat
 t:Tm
 seed:List Nat
 dv:Value
 A:Ab
 j:Jr
 R:List (Int × List Nat)
 M:List (Int × En)
 cal:Bool
def Dm.sv (D:Dm):Sv:=⟨some ⟨D.sb,0,none⟩,D.seed.length,D.c⟩
def Dm.cells (D:Dm):Array Value:=dmC D.t D.sv D.jb D.bk false
def Dm.own (D:Dm) (i:Nat):Prop:=i=D.xb ∨ i=D.sb ∨ FootB D.bk D.mb D.M i 0
structure Dae (w:World) (D:Dm):Prop where
 row:w.heap[D.xb]?=some (.cells D.cells 109)
 sd:Sl w (some ⟨D.sb,0,none⟩) D.seed.length D.c (bts D.seed)
 sl:D.sb < w.heap.size
 jd:JD w D.F D.dv D.A D.jb D.j
 hold:Holds D.A D.j D.R
 calm:D.cal=true→Calm D.A
 bok:BookAt w D.bk D.mb D.M
 f1:∀ i,D.own i→i ≠ D.jb∧∀ x,¬ D.F i x
 f2:¬ FootB D.bk D.mb D.M D.xb 0∧¬ FootB D.bk D.mb D.M D.sb 0∧D.xb ≠ D.sb
theorem Sl.block {w w':World} {b o n c:Nat} {vs:List Value} (h:Sl w (some ⟨b,o,none⟩) n c vs) (hb:w'.heap[b]?=w.heap[b]?):Sl w' (some ⟨b,o,none⟩) n c vs:=by
 refine ⟨h.len,h.le,h.nil,?_⟩
 rcases h.cells with e | ⟨b',o',e,hc⟩
 ·exact .inl e
 ·cases e
  exact .inr ⟨_,_,rfl,fun j x hj=>(Sx.cell_block hb _).1.trans (hc j x hj)⟩
theorem Dae.lt {w:World} {D:Dm} (h:Dae w D) {i:Nat} (hi:D.own i):i < w.heap.size:=by
 rcases hi with rfl | rfl | hi
 ·exact (Array.getElem?_eq_some_iff.1 h.row).1
 ·exact h.sl
 ·exact h.bok.lt hi
theorem Dae.below {w w':World} {D:Dm} (h:Dae w D) (hw:Below w.heap.size w w'):Dae w' D:=
 ⟨(hw.block _ (h.lt (.inl rfl))).trans h.row,h.sd.block (hw.block _ h.sl),Nat.lt_of_lt_of_le h.sl hw.size,h.jd.below hw,h.hold,h.calm,h.bok.below hw,h.f1,h.f2⟩
theorem Dae.went {w w':World} {D:Dm} (h:Dae w D) {F':Foot} {A':Ab} {j':Jr} {R':List (Int × List Nat)} (hj:JD w' F' D.dv A' D.jb j') (hw:Went D.F D.jb w F' w') (hh:Holds A' j' R') (hc:Calm A'):Dae w' { D with F:=F',A:=A',j:=j',R:=R' }:=by
 have hk:∀ i,D.own i→w'.heap[i]?=w.heap[i]?:=fun i hi=>hw.block i (h.lt hi) (h.f1 i hi).1 (h.f1 i hi).2
 refine ⟨(hk _ (.inl rfl)).trans h.row,h.sd.block (hk _ (.inr (.inl rfl))),Nat.lt_of_lt_of_le h.sl hw.size,hj,hh,fun _=>hc,h.bok.keepB fun i x hi=>hk i (.inr (.inr hi)),fun i hi=>⟨(h.f1 i hi).1,fun x hx=>?_⟩,h.f2⟩
 rcases hw.fb i x hx with h1 | h1
 ·exact (h.f1 i hi).2 x h1
 ·have:=h.lt hi
  omega
theorem Dae.booked {w w':World} {D:Dm} (h:Dae w D) {k:Nat} {M':List (Int × En)} (hb:BookAt w' D.bk D.mb M') (ht:Turns (fun i _=>i=k) w w') (hk:FootB D.bk D.mb D.M k 0) (hM:∀ i,FootB D.bk D.mb M' i 0→FootB D.bk D.mb D.M i 0 ∨ w.heap.size ≤ i):Dae w' { D with M:=M' }:=by
 have n1:D.xb ≠ k:=fun e=>h.f2.1 (e ▸ hk)
 have n2:D.sb ≠ k:=fun e=>h.f2.2.1 (e ▸ hk)
 have n3:D.jb ≠ k:=fun e=>(h.f1 k (.inr (.inr hk))).1 e.symm
 have hb':∀ i,i < w.heap.size→i ≠ k→w'.heap[i]?=w.heap[i]?:=fun i hi hn=>ht.block i hi fun _ e=>hn e
 have hjl:D.jb < w.heap.size:=h.jd.lt
 refine ⟨(hb' _ (h.lt (.inl rfl)) n1).trans h.row,h.sd.block (hb' _ h.sl n2),Nat.lt_of_lt_of_le h.sl ht.size,?_,h.hold,h.calm,hb,fun i hi=>?_,⟨fun e=>?_,fun e=>?_,h.f2.2.2⟩⟩
 ·refine ⟨h.jd.dw.keepB fun i ⟨x,hx⟩=>hb' i (h.jd.dw.lt hx) fun e=>(h.f1 k (.inr (.inr hk))).2 x (e ▸ hx),(hb' _ hjl n3).trans h.jd.jr,h.jd.ap⟩
 ·rcases hi with hi | hi | hi
  ·exact h.f1 i (.inl hi)
  ·exact h.f1 i (.inr (.inl hi))
  ·rcases hM i hi with h1 | h1
   ·exact h.f1 i (.inr (.inr h1))
   ·exact ⟨fun e=>by have e:i=D.jb:=e;omega,fun x hx=>by have:=h.jd.dw.lt hx;omega⟩
 ·rcases hM _ e with h1 | h1
  ·exact h.f2.1 h1
  ·have:=h.lt (.inl rfl);have h1:w.heap.size ≤ D.xb:=h1;omega
 ·rcases hM _ e with h1 | h1
  ·exact h.f2.2.1 h1
  ·have:=h.sl;have h1:w.heap.size ≤ D.sb:=h1;omega
theorem below_same {w:World} {b k:Nat} {C:Array Value} {t:TypeId} {v:Value} (h:w.heap[b]?=some (.cells C t)) (hv:C[k]?=some v):Below w.heap.size w (w.setCell ⟨b,k,none⟩ v):=by
 refine ⟨rfl,rfl,rfl,by simp,fun i _=>?_⟩
 rw [heap_setCell_at]
 split
 ·rename_i e
  have e:b=i:=e
  subst e
  rw [h]
  show some (Obj.cells (C.setIfInBounds k v) t)=_
  congr 2
  apply Array.ext_getElem?
  intro j
  rw [Array.getElem?_setIfInBounds]
  split
  ·rename_i q
   subst q
   rw [if_pos (Array.getElem?_eq_some_iff.1 hv).1,hv]
  ·rfl
 ·rfl
end Go.Proofs.YtjkfondgacjpnaaGreatDoor
namespace Go.Proofs.YtjkfondgacjpnaaGreatDoor
open Go.RowKit
open Sx (Ab DW Turns Did Foot)
set_option maxRecDepth 100000
attribute [local go_sem ↓] rowOf_cell
attribute [local go_sem] rowOf_alloc soft_alloc rowOf_drew soft_drew rowOf_setRow soft_setRow dm_t dm_size
def Dm.all (D:Dm) (i:Nat):Prop:=D.own i ∨ i=D.jb ∨ ∃ x,D.F i x
structure Trans (w:World) (D:Dm) (w':World) (D':Dm):Prop where
 os:w'.os=w.os
 tape:w'.tape=w.tape
 output:w'.output=w.output
 size:w.heap.size ≤ w'.heap.size
 keep:∀ i,i < w.heap.size→¬ D.all i→w'.heap[i]?=w.heap[i]?∧¬ D'.all i
 xb:D'.xb=D.xb
 bk:D'.bk=D.bk
 t:D'.t=D.t
 seed:D'.seed=D.seed
 dv:D'.dv=D.dv
theorem Trans.below {w w':World} {D:Dm} (h:Below w.heap.size w w'):Trans w D w' D:=⟨h.os,h.tape,h.output,h.size,fun i hi hn=>⟨h.block i hi,hn⟩,rfl,rfl,rfl,rfl,rfl⟩
theorem Trans.trans {w w1 w2:World} {D D1 D2:Dm} (h:Trans w D w1 D1) (k:Trans w1 D1 w2 D2):Trans w D w2 D2:=
 ⟨k.os.trans h.os,k.tape.trans h.tape,k.output.trans h.output,Nat.le_trans h.size k.size,fun i hi hn=>by
  obtain ⟨h1,h2⟩:=h.keep i hi hn
  obtain ⟨k1,k2⟩:=k.keep i (Nat.lt_of_lt_of_le hi h.size) h2
  exact ⟨k1.trans h1,k2⟩,k.xb.trans h.xb,k.bk.trans h.bk,k.t.trans h.t,k.seed.trans h.seed,k.dv.trans h.dv⟩
theorem Trans.went {w w':World} {D:Dm} {F':Foot} {A':Ab} {j':Jr} {R':List (Int × List Nat)} (hw:Went D.F D.jb w F' w'):Trans w D w' { D with F:=F',A:=A',j:=j',R:=R' }:=
 ⟨hw.os,hw.tape,hw.output,hw.size,fun i hi hn=>⟨hw.block i hi (fun e=>hn (.inr (.inl e))) (fun x hx=>hn (.inr (.inr ⟨x,hx⟩))),fun q=>by
  rcases q with q | q | ⟨x,hx⟩
  ·exact hn (.inl q)
  ·exact hn (.inr (.inl q))
  ·rcases hw.fb i x hx with h1 | h1
   ·exact hn (.inr (.inr ⟨x,h1⟩))
   ·omega⟩,rfl,rfl,rfl,rfl,rfl⟩
theorem Trans.booked {w w':World} {D:Dm} {k:Nat} {M':List (Int × En)} (ht:Turns (fun i _=>i=k) w w') (hk:FootB D.bk D.mb D.M k 0) (hM:∀ i,FootB D.bk D.mb M' i 0→FootB D.bk D.mb D.M i 0 ∨ w.heap.size ≤ i):Trans w D w' { D with M:=M' }:=
 ⟨ht.os,ht.tape,ht.output,ht.size,fun i hi hn=>⟨ht.block i hi fun _ e=>hn (.inl (.inr (.inr (e ▸ hk)))),fun q=>by
  rcases q with (q | q | q) | q | q
  ·exact hn (.inl (.inl q))
  ·exact hn (.inl (.inr (.inl q)))
  ·rcases hM i q with h1 | h1
   ·exact hn (.inl (.inr (.inr h1)))
   ·omega
  ·exact hn (.inr (.inl q))
  ·exact hn (.inr (.inr q))⟩,rfl,rfl,rfl,rfl,rfl⟩
theorem Dae.all_lt {w:World} {D:Dm} (h:Dae w D) {i:Nat} (hi:D.all i):i < w.heap.size:=by
 rcases hi with hi | rfl | ⟨x,hx⟩
 ·exact h.lt hi
 ·exact h.jd.lt
 ·exact h.jd.dw.lt hx
set_option maxHeartbeats 1000000 in
theorem room_twice {w:World} {D:Dm} (h:Dae w D) {k:Int} {q:En} (hq:getA D.M k=some q):Calls Tryz.prog 47 #[.pointer (some ⟨D.xb,0,none⟩),.int .i64 k] w fun e w'=>e=.returned (.int .i64 13)∧Below w.heap.size w w':=by
 have r0:=rowOf_of h.row
 have S:=Swap_any h.bok k
 rw [hq] at S
 have S:=Lib.hid S
 unfold Dm.cells at r0
 clear hq
 go_enter Tryz.func47,Tryz.ntmps47
 go_wp2_with fail
 refine S.out.mono ?_
 rintro _ W ⟨rfl,hb⟩
 have HB:=Lib.hid hb
 clear r0 S hb
 generalize swO (some q)=sw
 go_upto_region 2 with (fail)
 have B2:=Lib.hid (HB.out.trans ((Bx.made W Sw.zero.cells sw.cells 85).below.mono HB.out.size))
 generalize (W.alloc (.cells Sw.zero.cells 85)).setRow W.heap.size sw.cells=V at B2 ⊢
 go_wp2
 go_ret
 exact ⟨rfl,B2.out⟩
end Go.Proofs.YtjkfondgacjpnaaGreatDoor
