/- What is proved: parts of the walk and of the plain law. No condition but those each law names. -/
import Derived.Test.YthjgiamfaijoeaaGreatDoorD29
import Derived.Test.YthjgiamfaijoeaaGreatDoorD21
import Derived.ProofKit
import Derived.StillTailTactics
import Derived.Deep.AppendSrc
import Derived.Test.YthjgiamfaijoeaaGreatDoorD12
import Derived.Test.YthjgiamfaijoeaaGreatDoorD23
import Derived.Deep.RegionLaw
import Derived.Test.YthjgiamfaijoeaaGreatDoorD00
set_option linter.unusedSimpArgs false
set_option linter.unusedVariables false
set_option maxRecDepth 100000
namespace Go.Proofs.YthjgiamfaijoeaaGreatDoor
open Go.RowKit
section
attribute [local go_sem ↓] zad
attribute [local go_sem] zaf zai zaj zal zab zah zac zak zae Ext.row Ext.soft_
theorem zhf {w:World} {p nb:Nat} {nodes x:Int} {C:Array Value} (hp:rowOf w p=#[.pointer (some ⟨nb,0,none⟩)]) (hn:rowOf w nb=C) (hc:C[0]?=some (.int .i64 nodes)) (h1:(x ≥ 1)=True) (h2:(x ≤ nodes)=True):
  Calls Tryz.prog 98 #[.int .i64 x,.pointer (some ⟨p,0,none⟩)] w fun e w'=>e=.returned (.bool true)∧w'=w:=by
 go_enter Tryz.func98,Tryz.ntmps98
 go_wp2
 go_ret
 exact ⟨rfl,rfl⟩
theorem zacr (w:World) (ρ:Operand→Value) (x:Operand) (dst:Option Tmp) (ty:TypeId) (pos:String) (af:Array Edge) (gd:Option (Nat × Bool)) (hp:pp (ρ x)=true) (h:po (ρ x) + 2 ≤ (rowOf w (pb (ρ x))).size):(execOp ρ ⟨dst,.load 102 x,ty,pos,af,gd⟩).run Tryz.prog w=.ok (.value (.agg (sub (rowOf w (pb (ρ x))) (po (ρ x)) 2))) w:=
 zav 102 2 Tryz.underlying102 rfl (by kernel_rfl) w ρ x dst ty pos af gd hp h
theorem zye (w:World) (ρ:Operand→Value) (x y:Operand) (dst:Option Tmp) (ty:TypeId) (pos:String) (af:Array Edge) (gd:Option (Nat × Bool)) (hp:pp (ρ x)=true) (h0:po (ρ x)=0) (hv:isAg (ρ y)=true) (hs:soft w (pb (ρ x))=true) (hr:(rowOf w (pb (ρ x))).size=2) (hn:(agc (ρ y)).size=2) (h1:ones (agc (ρ y))=true):
  (execOp ρ ⟨dst,.store 102 x y,ty,pos,af,gd⟩).run Tryz.prog w=.ok .skip (w.setRow (pb (ρ x)) (agc (ρ y))):=
 za3 102 2 (by kernel_rfl) w ρ x y dst ty pos af gd hp h0 hv hs hr hn h1
theorem load76 (w:World) (ρ:Operand→Value) (x:Operand) (dst:Option Tmp) (ty:TypeId) (pos:String) (af:Array Edge) (gd:Option (Nat × Bool)) (hp:pp (ρ x)=true) (h:po (ρ x) + 3 ≤ (rowOf w (pb (ρ x))).size):(execOp ρ ⟨dst,.load 120 x,ty,pos,af,gd⟩).run Tryz.prog w=.ok (.value (.agg (sub (rowOf w (pb (ρ x))) (po (ρ x)) 3))) w:=
 zav 120 3 Tryz.underlying120 rfl (by kernel_rfl) w ρ x dst ty pos af gd hp h
theorem zacs (w:World) (ρ:Operand→Value) (x y:Operand) (dst:Option Tmp) (ty:TypeId) (pos:String) (af:Array Edge) (gd:Option (Nat × Bool)) (hp:pp (ρ x)=true) (h0:po (ρ x)=0) (hv:isAg (ρ y)=true) (hs:soft w (pb (ρ x))=true) (hr:(rowOf w (pb (ρ x))).size=3) (hn:(agc (ρ y)).size=3) (h1:ones (agc (ρ y))=true):
  (execOp ρ ⟨dst,.store 120 x y,ty,pos,af,gd⟩).run Tryz.prog w=.ok .skip (w.setRow (pb (ρ x)) (agc (ρ y))):=
 za3 120 3 (by kernel_rfl) w ρ x y dst ty pos af gd hp h0 hv hs hr hn h1
attribute [go_sem ↓] zacr zye load76 zacs
theorem zey {w:World} {X:Nt} (h:NetAt w X) {a b:Int} (a1:(a ≥ 1)=True) (a2:(a ≤ X.nodes)=True) (b1:(b ≥ 1)=True) (b2:(b ≤ X.nodes)=True) (hab:(a != b)=true):
  Calls Tryz.prog 59 #[.pointer (some ⟨X.nb,0,none⟩),.int .i64 a,.int .i64 b] w fun e w'=>∃ x y:Int,e=.returned (.tuple #[.agg #[.int .i64 x,.int .i64 y],.bool true])∧(x=min a b∧y=max a b)∧Below w.heap.size w w':=by
 have r0:=zaa h.row
 rw [zbj] at r0
 have l0:=h.all_lt (.inl rfl)
 have L0:=zadv l0
 have R0:=zadv h.row
 clear h
 go_enter Tryz.func59,Tryz.ntmps59
 go_upto_region 1 with (fail)
 have bx:=Bxs.new2 w (#[.pointer (some ⟨X.nb,0,none⟩)]) 50 (#[.int .i64 0,.int .i64 0]) 102;generalize ((w.alloc (.cells (#[.pointer (some ⟨X.nb,0,none⟩)]) 50)).alloc (.cells (#[.int .i64 0,.int .i64 0]) 102))=W at bx ⊢;have rx0:=bx.row' 0 rfl;have sx0:=bx.soft' 0 rfl;(try simp only [Nat.add_zero] at rx0 sx0);have rx1:=bx.row' 1 rfl;have sx1:=bx.soft' 1 rfl;(try simp only [Nat.add_zero] at rx1 sx1);have BX:=zadv bx;clear bx
 have rn:=zaa ((BX.out.below.block _ L0.out).trans R0.out)
 rw [zbj] at rn
 clear r0 l0
 go_wp2_with fail
 refine (zhf rx0 rn rfl a1 a2).mono ?_
 rintro _ W2 ⟨rfl,rfl⟩
 go_wp2_with fail
 refine (zhf rx0 rn rfl b1 b2).mono ?_
 rintro _ W3 ⟨rfl,rfl⟩
 have B:=(BX.out.below.setCell (p:=⟨w.heap.size + 1,0,none⟩) (Nat.le_add_right w.heap.size 1) (.int .i64 (min a b))).setCell (p:=⟨w.heap.size + 1,1,none⟩) (Nat.le_add_right w.heap.size 1) (.int .i64 (max a b))
 have hc:rowOf ((W3.setCell ⟨w.heap.size + 1,0,none⟩ (.int .i64 (min a b))).setCell ⟨w.heap.size + 1,1,none⟩ (.int .i64 (max a b))) (w.heap.size + 1)=#[.int .i64 (min a b),.int .i64 (max a b)]:=by
  rw [zac,if_pos rfl,zac,if_pos rfl,rx1]
  rfl
 go_wp2
 refine bodyPost_ret (zaq (t:=102) rfl Tryz.underlying102 rfl (by kernel_rfl) _ _ (w.heap.size + 1) rfl hc rfl) rfl ?_
 exact ⟨_,_,rfl,⟨rfl,rfl⟩,B⟩
end
section
def ze1:List Value:=[.int .i64 0,.int .i64 0,.slice none 0 0]
theorem src_of {w:World} {b o c n cap i:Nat} {news:List Value} (hl:news.length=n * 3) (hn:0 < n→¬ cap=i) (hc:∀ (j:Nat) u,news[j]?=some u→w.cell? ⟨b,o + i * 3 + j,none⟩=some u) (h1:∀ u ∈ news,u.oneCell'=true):
  Src Tryz.prog 3 105 (.slice (if cap=i then some ⟨b,o,none⟩ else some ⟨b,o + i * 3,none⟩) n c) n news w:=by
 by_cases h0:0 < n
 ·rw [if_neg (hn h0)]
  exact Src.ofSlice w Tryz.underlying105 _ n c news hl (fun j u hj=>by rw [zas];exact hc j u hj) h1
 ·obtain rfl:n=0:=by omega
  have:news=[]:=List.length_eq_zero_iff.1 (by simpa using hl)
  subst this
  refine ⟨.inl ⟨_,Tryz.underlying105⟩,fun _=>rfl,?_,?_,rfl,fun u hu=>by cases hu⟩
  ·split <;> (simp [Builtin.firstCells,loadCells];exact run_loadCells_list (P:=Tryz.prog) (w:=w) _ [] (fun j v hv=>by simp at hv))
  ·split <;> (simp [Builtin.firstCells,loadCells];exact run_loadCells_list (P:=Tryz.prog) (w:=w.drew) _ [] (fun j v hv=>by simp at hv))
theorem zva {w:World} {b o c:Nat} {ty:TypeId} (hc:∀ j,j < 3→(w.cell? ⟨b,o + j,none⟩).isSome=true∧w.frozen? ⟨b,o + j,none⟩=false):
  (Builtin.clear_ #[105] ty #[.slice (some ⟨b,o,none⟩) 1 c]).run Tryz.prog w=.ok (.tuple #[]) (w.setCells b o ze1):=by
 obtain ⟨i,hi,hz,hs,_⟩:=info_parts (show (Tryz.prog.info? 120).map (fun i=>(i.zero,i.size,i.bytes))=some (some (.agg ze1.toArray),3,40) by kernel_rfl)
 have hzr:(zeroValue 120).run Tryz.prog w=.ok (.agg ze1.toArray) w:=by simp [zeroValue,typeInfo,hi,hz]
 have hst:=run_storeCells_cells (P:=Tryz.prog) b o ze1 0 w (fun j hj=>by simpa using (hc j (by simpa [ze1] using hj)).1) (fun j hj=>by simpa using (hc j (by simpa [ze1] using hj)).2) (fun v hv=>by
  simp [ze1] at hv;rcases hv with rfl | rfl <;> rfl)
 simp only [Nat.add_zero] at hst
 have hzc:(Builtin.zeroCells (Value.agg ze1.toArray).cells 1).toList=ze1:=by kernel_rfl
 simp only [Builtin.clear_,List.getElem?_toArray,List.getElem?_cons_zero,Sem.run_bind,run_underlying Tryz.underlying105,Result.andThen_ok,hzr,hzc,hst,Sem.run_pure]
set_option maxHeartbeats 2000000 in
theorem zact {w:World} {b o len cap:Nat} {i:Nat} (hil:i < len) (hc:len ≤ cap) (hlen:len ≤ 1000000) {tl:List Value} (hl:tl.length=(len - (i + 1)) * 3)
  (ht:∀ (j:Nat) u,tl[j]?=some u→w.cell? ⟨b,o + (i + 1) * 3 + j,none⟩=some u) (h1c:∀ u ∈ tl,u.oneCell'=true)
  (hw:∀ j,j < len * 3→(w.cell? ⟨b,o + j,none⟩).isSome=true∧w.frozen? ⟨b,o + j,none⟩=false):
  Calls Tryz.prog 71 #[.slice (some ⟨b,o,none⟩) len cap,.int .i64 i,.int .i64 (i + 1:Nat)] w fun e w'=>e=.returned (.slice (some ⟨b,o,none⟩) (len - 1) cap)∧w'=(w.drew.setCells b (o + i * 3) tl).setCells b (o + (len - 1) * 3) ze1:=by
 have h1:(i:Int) ≤ len:=by omega
 have h2:(0:Int) ≤ i:=by omega
 have h3:(i:Int) ≤ cap:=by omega
 have h4:(i:Int) + 1 ≤ len:=by omega
 have h5:(0:Int) ≤ (i:Int) + 1:=by omega
 have h6:((i:Int) + 1).toNat=i + 1:=by omega
 have h7:¬ cap=0:=by omega
 have h8:¬ cap=i:=by omega
 have h9:(i:Int) + 1 ≤ cap:=by omega
 obtain ⟨inf,hi,hz,hs,_⟩:=info_parts (show (Tryz.prog.info? 120).map (fun i=>(i.zero,i.size,i.bytes))=some (some (.agg ze1.toArray),3,40) by kernel_rfl)
 have hsrc:Src Tryz.prog 3 105 (.slice (if cap=i + 1 then some ⟨b,o,none⟩ else some ⟨b,o + (i + 1) * 3,none⟩) (len - (i + 1)) (cap - (i + 1))) (len - (i + 1)) tl w.drew:=src_of hl (by omega) ht h1c
 have hrun:∀ ty,(Builtin.append_ #[105,105] ty #[.slice (some ⟨b,o,none⟩) i cap,.slice (if cap=i + 1 then some ⟨b,o,none⟩ else some ⟨b,o + (i + 1) * 3,none⟩) (len - (i + 1)) (cap - (i + 1))]).run Tryz.prog w.drew=.ok (.slice (some ⟨b,o,none⟩) (len - 1) cap) (w.drew.setCells b (o + i * 3) tl):=fun ty=>by
  rw [← hs] at hsrc
  have:=run_append_room_src (P:=Tryz.prog) w.drew 105 105 ty 120 inf Tryz.underlying105 hi b o i cap _ (len - (i + 1)) tl hsrc (by omega) (fun j hj=>by rw [hs,Nat.add_assoc];exact (hw (i * 3 + j) (by omega)).1) (fun j hj=>by rw [hs,Nat.add_assoc];exact (hw (i * 3 + j) (by omega)).2)
  rw [hs,show i + (len - (i + 1))=len - 1 by omega] at this
  exact this
 have hclear:∀ ty,(Builtin.clear_ #[105] ty #[.slice (some ⟨b,o + (len - 1) * 3,none⟩) 1 (cap - (len - 1))]).run Tryz.prog (w.drew.setCells b (o + i * 3) tl)=.ok (.tuple #[]) ((w.drew.setCells b (o + i * 3) tl).setCells b (o + (len - 1) * 3) ze1):=fun ty=>zva fun j hj=>by
  rw [World.frozen?_setCells,Sx.cell_there,Sx.shape_setCells,← Sx.cell_there,Nat.add_assoc]
  exact hw ((len - 1) * 3 + j) (by omega)
 have k1:(0:Int) ≤ ((len - 1:Nat):Int):=by omega
 have k2:((len - 1:Nat):Int) ≤ len:=by omega
 have k3:((len:Nat):Int) ≤ cap:=by omega
 have k4:¬ cap=len - 1:=by omega
 have k5:len - (len - 1)=1:=by omega
 clear ht hw hsrc hl
 go_enter Tryz.func71,Tryz.ntmps71
 go_wp2_with fail
 go_still_tail 6,(by kernel_rfl)
 change wpList _ _ _ _ _ w.drew
 refine wpList_plain rfl fun K hK=>?_
 unfold Oper.wp
 simp only [execOp,resolve,invoke,builtin,Sem.run_bind,Sem.run_pure,Result.andThen_ok,List.map_toArray,List.map_cons,List.map_nil]
 change Oper.upon _ _ _ _ _ (Result.andThen ((Builtin.append_ #[105,105] 105 #[.slice (some ⟨b,o,none⟩) i cap,.slice (if cap=i + 1 then some ⟨b,o,none⟩ else some ⟨b,o + (i + 1) * 3,none⟩) (len - (i + 1)) (cap - (i + 1))]).run Tryz.prog w.drew) _)
 rw [hrun,Result.andThen_ok,Oper.upon_value]
 refine hK _ _ ?_
 clear hrun hK
 go_wp2_with fail
 all_goals
  go_ret
  exact ⟨rfl,rfl⟩
end
section
theorem zir:∀ (l:List Value) (cs:Array Value) (o:Nat),o + l.length ≤ cs.size→(over cs o l).toList=cs.toList.take o ++ (l ++ cs.toList.drop (o + l.length))
 | [],cs,o,_=>by simp [over]
 | v :: l,cs,o,h=>by
  have hl:o + (l.length + 1) ≤ cs.size:=h
  unfold over
  rw [zir l (cs.setIfInBounds o v) (o + 1) (by simp;omega)]
  have ht:(cs.toList.take o).length=o:=by simp;omega
  have e:(cs.setIfInBounds o v).toList=cs.toList.take o ++ v :: cs.toList.drop (o + 1):=by
   rw [Array.toList_setIfInBounds,List.set_eq_take_append_cons_drop,if_pos (by simp;omega)]
  have hd:cs.toList.drop (o + (v :: l).length)=(cs.toList.drop (o + 1)).drop l.length:=by rw [List.drop_drop];congr 1;simp;omega
  rw [e,hd]
  generalize cs.toList.take o=A at ht ⊢
  generalize cs.toList.drop (o + 1)=C
  subst ht
  rw [List.take_length_add_append,show A.length + 1 + l.length=A.length + (l.length + 1) by omega,List.drop_length_add_append]
  simp
theorem zmk (w:World) (b:Nat) (c1 c2:Array Value):(w.setRow b c1).setRow b c2=w.setRow b c2:=by
 unfold World.setRow
 simp only
 congr 1
 apply Array.ext_getElem?
 intro j
 simp only [Array.getElem?_modify]
 by_cases h:b=j
 ·simp only [h,if_true]
  cases hh:w.heap[j]? with
  | none=>simp
  | some o=>cases o <;> simp
 ·simp only [h,if_false]
theorem zis (l:List Value) (cs:Array Value) (o:Nat):(over cs o l).size=cs.size:=by
 induction l generalizing cs o with
 | nil=>rfl
 | cons v l ih=>unfold over;rw [ih];simp
theorem lt_len (x:Lt):x.cells.length=3:=rfl
theorem zei (L:List Lt):(ltC L).length=L.length * 3:=by
 induction L with
 | nil=>rfl
 | cons x L ih=>unfold ltC at *;rw [List.flatMap_cons,List.length_append,ih,lt_len,List.length_cons];omega
theorem zdr (L K:List Lt):ltC (L ++ K)=ltC L ++ ltC K:=by simp [ltC]
theorem zyf (L:List Lt) (i:Nat):(ltC L).take (i * 3)=ltC (L.take i):=by
 have h:=zdr (L.take i) (L.drop i)
 rw [List.take_append_drop] at h
 rw [h,List.take_append,zei]
 by_cases hi:i ≤ L.length
 ·rw [List.length_take_of_le hi,Nat.sub_self,List.take_zero,List.append_nil,List.take_of_length_le (by rw [zei,List.length_take_of_le hi];omega)]
 ·rw [List.drop_eq_nil_of_le (by omega),List.take_of_length_le (by rw [zei];have:=List.length_take_le i L;omega)]
  simp [ltC]
theorem zacu (x:Lt):∀ u ∈ x.cells,u.oneCell'=true:=fun u hu=>by
 simp only [Lt.cells,List.mem_cons,List.not_mem_nil,or_false] at hu
 rcases hu with rfl | rfl | rfl <;> rfl
theorem zyg (L:List Lt):∀ u ∈ ltC L,u.oneCell'=true:=fun u hu=>by
 obtain ⟨x,_,h⟩:=List.mem_flatMap.1 hu
 exact zacu x u h
theorem zvb {w:World} {B g rc:Nat} {L:List Lt} {i:Nat} (h:w.ownsRow B 120 3 (.slice (some ⟨g,0,none⟩) L.length rc) L.length (ltC L)) (hi:i < L.length) (hlen:L.length ≤ 1000000):
  Calls Tryz.prog 71 #[.slice (some ⟨g,0,none⟩) L.length rc,.int .i64 i,.int .i64 (i + 1:Nat)] w fun e w'=>e=.returned (.slice (some ⟨g,0,none⟩) (L.length - 1) rc)∧w'.ownsRow B 120 3 (.slice (some ⟨g,0,none⟩) (L.length - 1) rc) (L.length - 1) (ltC (L.eraseIdx i))∧(∃ C,w'=w.drew.setRow g C):=by
 have hu:=fun j=>zkz (j:=j) h
 have ho:=h
 rcases h.2 with ⟨hv,_⟩ | ⟨g',cap,cur,hv,hB,hh,hn,hm,hs,ht⟩
 ·cases hv
 cases hv
 have hcl:cur.toList.length=rc * 3:=by simpa using hs
 have hcur:cur.toList.take (L.length * 3)=ltC L:=by
  have:L.length * 3=L.length * 3:=rfl
  simpa using ht
 have hget:∀ (j:Nat) u,(ltC (L.drop (i + 1)))[j]?=some u→cur[(i + 1) * 3 + j]?=some u:=fun j u hj=>by
  have e:=zdr (L.take (i + 1)) (L.drop (i + 1))
  rw [List.take_append_drop] at e
  have hl1:(ltC (L.take (i + 1))).length=(i + 1) * 3:=by rw [zei,List.length_take_of_le (by omega)]
  have h1:(ltC L)[(i + 1) * 3 + j]?=some u:=by rw [e,List.getElem?_append_right (by rw [hl1];omega),hl1,Nat.add_sub_cancel_left];exact hj
  rw [← hcur] at h1
  rw [List.getElem?_take] at h1
  split at h1
  ·simpa using h1
  ·cases h1
 have D:=zact (w:=w) (b:=g) (o:=0) (len:=L.length) (cap:=rc) hi hn hlen (tl:=ltC (L.drop (i + 1))) (by rw [zei,List.length_drop])
  (fun j u hj=>by rw [Nat.zero_add,zad,zaa hh];exact hget j u hj) (zyg _)
  (fun j hj=>⟨by rw [Nat.zero_add,zad,zaa hh,Array.getElem?_eq_getElem (by rw [hs];omega)];rfl,hu _⟩)
 refine D.mono ?_
 rintro e w' ⟨rfl,rfl⟩
 have e1:w.drew.setCells g (0 + i * 3) (ltC (L.drop (i + 1)))=w.drew.setRow g (over cur (i * 3) (ltC (L.drop (i + 1)))):=by
  rw [zc8,Nat.zero_add,show rowOf w.drew g=cur from zaa hh]
 have hh2:(w.drew.setRow g (over cur (i * 3) (ltC (L.drop (i + 1))))).heap[g]?=some (.cells (over cur (i * 3) (ltC (L.drop (i + 1)))) 120):=setRow_heap w.drew g _ _ 120 _ hh
 have e2:(w.drew.setRow g (over cur (i * 3) (ltC (L.drop (i + 1))))).setCells g (0 + (L.length - 1) * 3) ze1=w.drew.setRow g (over (over cur (i * 3) (ltC (L.drop (i + 1)))) ((L.length - 1) * 3) ze1):=by
  rw [zc8,Nat.zero_add,zaa hh2,zmk]
 rw [e1,e2]
 have hz:(over (over cur (i * 3) (ltC (L.drop (i + 1)))) ((L.length - 1) * 3) ze1).size=rc * 3:=by rw [zis,zis,hs]
 have hl2:(ltC (L.drop (i + 1))).length=(L.length - (i + 1)) * 3:=by rw [zei,List.length_drop]
 have htk:(over (over cur (i * 3) (ltC (L.drop (i + 1)))) ((L.length - 1) * 3) ze1).toList.take ((L.length - 1) * 3)=ltC (L.eraseIdx i):=by
  have q1:(cur.toList.take (i * 3)).length=i * 3:=by rw [List.length_take];omega
  have q2:cur.toList.take (i * 3)=ltC (L.take i):=by
   rw [← zyf,← hcur,List.take_take,Nat.min_eq_left (by omega)]
  have e3:(over cur (i * 3) (ltC (L.drop (i + 1)))).toList=(cur.toList.take (i * 3) ++ ltC (L.drop (i + 1))) ++ cur.toList.drop (i * 3 + (ltC (L.drop (i + 1))).length):=by
   rw [zir _ _ _ (by rw [hs,hl2];omega),List.append_assoc]
  have e4:(cur.toList.take (i * 3) ++ ltC (L.drop (i + 1))).length=(L.length - 1) * 3:=by rw [List.length_append,q1,hl2];omega
  rw [zir _ _ _ (by rw [zis,hs];show (L.length - 1) * 3 + 3 ≤ _;omega),e3,List.take_left' e4,List.take_left' e4,q2,← zdr,← List.eraseIdx_eq_take_drop_succ]
 refine ⟨rfl,⟨by rw [zei,List.length_eraseIdx_of_lt hi],.inr ⟨g,rc,_,rfl,hB,setRow_heap w.drew g _ _ 120 _ hh,by omega,hm,hz,by simpa using htk⟩⟩,_,rfl⟩
end
section
attribute [local go_sem ↓] zad
attribute [local go_sem] zaf zai zaj zal zab zah zac zak zae Ext.row Ext.soft_
theorem zdb (a b c:Value):sub #[a,b,c] 0 3=#[a,b,c]:=by simp [sub]
attribute [local go_sem] zdb
theorem elemL:Elem Tryz.prog 105 120 3:=Elem.mk' Tryz.underlying105 (by kernel_rfl) (z:=.agg #[.int .i64 0,.int .i64 0,.slice none 0 0]) (bytes:=40) rfl (by decide) (by decide)
def Lt.told (x:Lt):Int × Int × List Nat:=(x.f,x.t,x.l)
structure NetTo (w:World) (X:Nt) (w':World) (X':Nt):Prop where
 at':NetAt w' X'
 comp:Comp w w' X.all X'.all
 nb:X'.nb=X.nb
 nodes:X'.nodes=X.nodes
 cut:X'.cut=X.cut
theorem Bx.set1' {w W:World} {C:Array Value} {t:TypeId} (h:Bx w C t W) (k:Nat) (v:Value):Bx w (C.setIfInBounds k v) t (W.setCell ⟨w.heap.size,k,none⟩ v):=by
 refine ⟨?_,h.below.setCell (zadw _) _⟩
 rw [zag,if_pos rfl,h.row]
 rfl
theorem zml {X:Nt} {w:World} (h:NetAt w X) {k:Nat}:(Value.slice X.ra X.L.length X.rc).ownBlock=some k ↔ X.rb k:=by
 have ho:=h.own
 constructor
 ·intro e
  cases hra:X.ra with
  | none=>rw [hra] at e;cases e
  | some ad=>
   rw [hra] at ho e
   rcases ho.2 with ⟨hv,_⟩ | ⟨g,cp,cur,hv,_⟩
   ·cases hv
   ·cases hv
    obtain rfl:g=k:=by simpa [Value.ownBlock] using e
    exact ⟨0,hra⟩
 ·rintro ⟨o,e⟩
  rw [e]
  rfl
theorem zacv {w0 V w7:World} {X:Nt} (h0:NetAt w0 X) (hb0:Below w0.heap.size w0 V) {f t:Int} {a2:Option Addr} {c2:Nat} {l:List Nat} (hs:Sl V a2 l.length c2 (bts l)) (hf:∀ k o,a2=some ⟨k,o,none⟩→k < V.heap.size∧w0.heap.size ≤ k) {g cap:Nat}
  (ho:w7.ownsRow X.B 120 3 (.slice (some ⟨g,0,none⟩) (X.L.length + 1) cap) (X.L.length + 1) (ltC X.L ++ [.int .i64 f,.int .i64 t,.slice a2 l.length c2])) (hg:V.grownBy w7 (Value.slice X.ra X.L.length X.rc).ownBlock)
  (hat:(Value.slice X.ra X.L.length X.rc).ownBlock=some g ∨ g=V.heap.size) (hlt:g < w7.heap.size):
  ∃ X',NetTo w0 X (w7.setCell ⟨X.nb,1,none⟩ (.slice (some ⟨g,0,none⟩) (X.L.length + 1) cap)) X'∧X'.L.map Lt.told=X.L.map Lt.told ++ [(f,t,l)]:=by
 have h:=h0.below hb0
 have hB:=h.bB
 have hf:∀ k o,a2=some ⟨k,o,none⟩→k < V.heap.size∧¬ X.all k∧w0.heap.size ≤ k:=fun k o e=>⟨(hf k o e).1,fun q=>by have:=h0.all_lt q;have:=(hf k o e).2;omega,(hf k o e).2⟩
 have hgo:X.rb g ∨ g=V.heap.size:=hat.imp (fun e=>(zml h).1 e) id
 have nG:∀ i,i < V.heap.size→¬ X.rb i→i ≠ g:=fun i hi hn e=>by
  subst e
  rcases hgo with e | e
  ·exact hn e
  ·omega
 have nN:X.nb ≠ g:=nG _ (h.all_lt (.inl rfl)) h.nr.1
 have kp:∀ i,i < V.heap.size→¬ X.rb i→w7.heap[i]?=V.heap[i]?:=fun i hi hn=>hg.block i hi fun e=>hn ((zml h).1 e.symm)
 have bl:=(Below.refl X.B V).grown hg hB (zbb h.own)
 have ks:∀ i,i ≠ X.nb→(w7.setCell ⟨X.nb,1,none⟩ (.slice (some ⟨g,0,none⟩) (X.L.length + 1) cap)).heap[i]?=w7.heap[i]?:=fun i hi=>by
  rw [zag,if_neg (fun e=>hi e.symm)]
 have hrow:(w7.setCell ⟨X.nb,1,none⟩ (.slice (some ⟨g,0,none⟩) (X.L.length + 1) cap)).heap[X.nb]?=some (.cells (X.cells.setIfInBounds 1 (.slice (some ⟨g,0,none⟩) (X.L.length + 1) cap)) 108):=by
  rw [zag,if_pos rfl,kp _ (h.all_lt (.inl rfl)) h.nr.1,h.row]
  rfl
 have zs:(w7.setCell ⟨X.nb,1,none⟩ (.slice (some ⟨g,0,none⟩) (X.L.length + 1) cap)).heap.size=w7.heap.size:=by simp [World.setCell]
 have zV:V.heap.size ≤ w7.heap.size:=hg.size
 have hL:(X.L ++ [(⟨f,t,a2,c2,l⟩:Lt)]).length=X.L.length + 1:=by simp
 refine ⟨{ X with ra:=some ⟨g,0,none⟩,rc:=cap,L:=X.L ++ [⟨f,t,a2,c2,l⟩] },⟨⟨?_,?_,?_,?_,?_,?_,by rw [zs];exact Nat.le_trans h.bB zV⟩,?_,rfl,rfl,rfl⟩,by simp [Lt.told]⟩
 ·rw [hrow]
  show some (Obj.cells _ 108)=some (Obj.cells (ntC _ _ (X.L ++ [(⟨f,t,a2,c2,l⟩:Lt)]).length _ _ _ _ _ _) 108)
  rw [hL]
  rfl
 ·exact h.cuts.keep ((ks _ h.mn).trans (kp _ (h.all_lt (.inr (.inl rfl))) h.nr.2))
 ·show World.ownsRow _ X.B 120 3 (.slice (some ⟨g,0,none⟩) (X.L ++ [(⟨f,t,a2,c2,l⟩:Lt)]).length cap) (X.L ++ [(⟨f,t,a2,c2,l⟩:Lt)]).length (ltC (X.L ++ [⟨f,t,a2,c2,l⟩]))
  rw [hL,zdr]
  refine zcd (show w7.ownsRow X.B 120 3 _ _ (ltC X.L ++ ltC [⟨f,t,a2,c2,l⟩]) from ho) fun k hk=>ks k fun e=>?_
  obtain rfl:g=k:=by simpa [Value.ownBlock] using hk
  exact nN e.symm
 ·intro x hx
  rcases List.mem_append.1 hx with hx | hx
  ·have hsx:=h.bod x hx
   rcases hsx.cells with e | ⟨b,o,e,hc⟩
   ·exact ⟨hsx.len,hsx.le,hsx.nil,.inl e⟩
   ·obtain ⟨q1,q2,q3⟩:=h.lt x hx b o e
    exact ⟨hsx.len,hsx.le,hsx.nil,.inr ⟨b,o,e,fun j y hj=>(Sx.cell_block ((ks b q2).trans (kp b q1 q3)) _).1.trans (hc j y hj)⟩⟩
  ·obtain rfl:=List.mem_singleton.1 hx
   rcases hs.cells with e | ⟨b,o,e,hc⟩
   ·exact ⟨hs.len,hs.le,hs.nil,.inl e⟩
   ·obtain ⟨q1,q2,_⟩:=hf b o e
    exact ⟨hs.len,hs.le,hs.nil,.inr ⟨b,o,e,fun j y hj=>(Sx.cell_block ((ks b fun e=>q2 (.inl e)).trans (kp b q1 fun e=>q2 (.inr (.inr (.inl e))))) _).1.trans (hc j y hj)⟩⟩
 ·intro x hx k o e
  have key:k < V.heap.size∧k ≠ X.nb∧¬ X.rb k:=by
   rcases List.mem_append.1 hx with hx | hx
   ·exact h.lt x hx k o e
   ·obtain rfl:=List.mem_singleton.1 hx
    obtain ⟨q1,q2,_⟩:=hf k o e
    exact ⟨q1,fun e=>q2 (.inl e),fun e=>q2 (.inr (.inr (.inl e)))⟩
  refine ⟨by rw [zs];omega,key.2.1,fun q=>?_⟩
  obtain ⟨o',q⟩:=q
  have q:(some ⟨g,0,none⟩:Option Addr)=some ⟨k,o',none⟩:=q
  injection q with q
  injection q with q1
  exact nG k key.1 key.2.2 q1.symm
 ·refine ⟨fun q=>?_,fun q=>?_⟩
  ·obtain ⟨o',q⟩:=q
   have q:(some ⟨g,0,none⟩:Option Addr)=some ⟨X.nb,o',none⟩:=q
   injection q with q
   injection q with q1
   exact nN q1.symm
  ·obtain ⟨o',q⟩:=q
   have q:(some ⟨g,0,none⟩:Option Addr)=some ⟨X.mc,o',none⟩:=q
   injection q with q
   injection q with q1
   exact nG X.mc (h.all_lt (.inr (.inl rfl))) h.nr.2 q1.symm
 ·have zb:=hb0.size
  refine ⟨bl.os.trans hb0.os,bl.tape.trans hb0.tape,bl.output.trans hb0.output,by rw [zs];omega,fun i hi hn=>⟨(ks i fun e=>hn (.inl e)).trans ((kp i (by omega) fun e=>hn (.inr (.inr (.inl e)))).trans (hb0.block i hi)),fun q=>?_⟩⟩
  rcases q with q | q | ⟨o,q⟩ | ⟨x,hx,o,q⟩
  ·exact hn (.inl q)
  ·exact hn (.inr (.inl q))
  ·have q:(some ⟨g,0,none⟩:Option Addr)=some ⟨i,o,none⟩:=q
   injection q with q
   injection q with q1
   subst q1
   rcases hgo with e | e
   ·exact hn (.inr (.inr (.inl e)))
   ·omega
  ·rcases List.mem_append.1 hx with hx | hx
   ·exact hn (.inr (.inr (.inr ⟨x,hx,o,q⟩)))
   ·obtain rfl:=List.mem_singleton.1 hx
    have:=(hf i o q).2.2
    omega
theorem zvc {V w7:World} {X:Nt} (h:NetAt V X) (hg:V.grownBy w7 (Value.slice X.ra X.L.length X.rc).ownBlock):w7.heap[X.nb]?=some (.cells X.cells 108):=(hg.block _ (h.all_lt (.inl rfl)) fun e=>h.nr.1 ((zml h).1 e.symm)).trans h.row
theorem zvd {w:World} {X:Nt} (h:NetAt w X) (hl:((X.L.length:Int) ≥ 1000)=False) {f t:Int} {ao:Option Addr} {n c:Nat} {l:List Nat} (hs:Sl w ao n c (bts l)) (hn:n < 1000000):
  Calls Tryz.prog 70 #[.pointer (some ⟨X.nb,0,none⟩),.agg #[.int .i64 f,.int .i64 t,.slice ao n c]] w fun e w'=>e=.returned (.bool true)∧∃ X',NetTo w X w' X'∧X'.L.map Lt.told=X.L.map Lt.told ++ [(f,t,l)]:=by
 obtain rfl:n=l.length:=by have:=hs.len;rw [zam] at this;exact this.symm
 have hl2:X.L.length < 1000:=by have:=of_eq_false hl;omega
 have H:=zadv h
 have HS:=zadv hs
 have l0:=zadv (h.all_lt (.inl rfl))
 clear h hs
 go_enter Tryz.func70,Tryz.ntmps70
 go_upto_region 1 with (fail)
 have bx:=Bx.new w (#[.int .i64 f,.int .i64 t,.slice ao l.length c]) 120;generalize w.alloc (.cells (#[.int .i64 f,.int .i64 t,.slice ao l.length c]) 120)=W at bx ⊢;have rx:=bx.rowOf;have sx:=bx.soft;have BX:=zadv bx;clear bx
 have rn:=zaa ((BX.out.below.block _ l0.out).trans H.out.row)
 rw [zbj] at rn
 have C:=zadv (zb3 (HS.out.keep (zadw _) BX.out.below) (by omega))
 go_wp2_with fail
 refine C.out.mono ?_
 rintro _ V ⟨a2,c2,rfl,hb,own2⟩
 have bx:=BX.out.step hb
 have O2:=zadv own2
 have LW:=zadv (show w.heap.size < W.heap.size from (zadu BX.out.row).1)
 have HBW:=zadv hb
 clear BX rx sx rn C hb own2
 have rx:=bx.rowOf
 have sx:=bx.soft
 have BX:=zadv bx
 clear bx
 go_upto_region 4 with (fail)
 have bx:=BX.out.set1' 2 (.slice a2 l.length c2)
 rw [show (#[.int .i64 f,.int .i64 t,.slice ao l.length c]:Array Value).setIfInBounds 2 (.slice a2 l.length c2)=#[.int .i64 f,.int .i64 t,.slice a2 l.length c2] from rfl] at bx
 have O3:=zadv (zcd (w':=V.setCell ⟨w.heap.size,2,none⟩ (.slice a2 l.length c2)) O2.out fun k hk=>by rw [zag,if_neg (fun e=>by have e:w.heap.size=k:=e;have:=zbb O2.out k hk;have:=LW.out;omega)])
 generalize V.setCell ⟨w.heap.size,2,none⟩ (.slice a2 l.length c2)=V2 at bx O3 ⊢
 clear BX rx sx O2
 have rx:=bx.rowOf
 have rn:=zaa ((bx.below.block _ l0.out).trans H.out.row)
 have sn:=zan ((bx.below.block _ l0.out).trans H.out.row)
 rw [zbj] at rn
 have RB:∀ w',Below V2.heap.size V2 w'→rowOf w' X.nb=#[.int .i64 X.nodes,.slice X.ra X.L.length X.rc,.map (some X.mc),.int .i64 X.n1,.int .i64 X.n2,.int .i64 X.n3,.int .i64 X.n4]∧rowOf w' w.heap.size=#[.int .i64 f,.int .i64 t,.slice a2 l.length c2]:=fun w' hb=>
  ⟨zaa ((hb.block _ (Nat.lt_of_lt_of_le l0.out bx.below.size)).trans ((bx.below.block _ l0.out).trans H.out.row)),zaa ((hb.block _ (zadu bx.row).1).trans bx.row)⟩
 have RB:=zadv RB
 have BX:=zadv bx
 have nn:¬ X.nb=V2.heap.size:=Nat.ne_of_lt (Nat.lt_of_lt_of_le l0.out bx.below.size)
 have nw:¬ w.heap.size=V2.heap.size:=Nat.ne_of_lt (zadu bx.row).1
 have AL:=zadv (((Below.refl V2.heap.size V2).alloc (zadw _) (.cells #[.int .i64 f,.int .i64 t,.slice a2 l.length c2] 120)).drew)
 have HV:=zadv (BX.out.below.trans (AL.out.mono BX.out.below.size))
 have O4:=zadv (H.out.below HV.out).own
 have SA:=zadv (Sl.keep (Sl.own O3.out) (zadw _) AL.out)
 have FA:=zadv (show ∀ k o,a2=some ⟨k,o,none⟩→k < ((V2.alloc (.cells #[.int .i64 f,.int .i64 t,.slice a2 l.length c2] 120)).drew).heap.size∧w.heap.size ≤ k from fun k o e=>by
  have ho:=O3.out
  rw [e] at ho
  have h1:=zem ho
  have h2:=AL.out.size
  have h3:=LW.out
  exact ⟨by omega,by omega⟩)
 clear bx
 go_region_law (first
   | (refine zfd elemL rfl _ _ rfl (B:=X.B) (n:=X.L.length) (xs:=ltC X.L) rfl O4.out rfl (m:=1) (news:=[.int .i64 f,.int .i64 t,.slice a2 l.length c2]) rfl (fun y z hz=>(by have:=World.news_of_block (heap_alloc_new V2 (.cells #[.int .i64 f,.int .i64 t,.slice a2 l.length c2] 120)) y z hz;exact this)) (fun u hu=>(by simp only [List.mem_cons,List.not_mem_nil,or_false] at hu;rcases hu with rfl | rfl | rfl <;> rfl)) (by decide) (by omega) (H.out.below HV.out).bB ?_;intro g7 cap7 w7 hown7 hgr7 hat7 hlt7;have k1:rowOf w7 X.nb=#[.int .i64 X.nodes,.slice X.ra X.L.length X.rc,.map (some X.mc),.int .i64 X.n1,.int .i64 X.n2,.int .i64 X.n3,.int .i64 X.n4]:=zaa (zvc (H.out.below HV.out) hgr7);have k2:soft w7 X.nb=true:=zan (zvc (H.out.below HV.out) hgr7);have RES:=zadv (zacv H.out HV.out SA.out FA.out hown7 hgr7 hat7 hlt7);clear hown7 hgr7 hat7 hlt7))
 all_goals clear RB rx rn sn nn nw O3 O4 SA FA AL k1 k2
 all_goals go_wp2
 all_goals go_ret
 all_goals exact ⟨rfl,RES.out⟩
end
section
attribute [local go_sem ↓] zad
attribute [local go_sem] zaf zai zaj zal zab zah zac zak zae Ext.row Ext.soft_
theorem NetAt.cnt {w:World} {X:Nt} (h:NetAt w X) {k:Nat} {v:Value} {a b c d:Int} (hc:({ X with n1:=a,n2:=b,n3:=c,n4:=d }:Nt).cells=X.cells.setIfInBounds k v):NetTo w X (w.setCell ⟨X.nb,k,none⟩ v) { X with n1:=a,n2:=b,n3:=c,n4:=d }:=by
 have ks:∀ i,i ≠ X.nb→(w.setCell ⟨X.nb,k,none⟩ v).heap[i]?=w.heap[i]?:=fun i hi=>by
  rw [zag,if_neg (fun e=>hi e.symm)]
 have zs:(w.setCell ⟨X.nb,k,none⟩ v).heap.size=w.heap.size:=by simp [World.setCell]
 refine ⟨⟨?_,h.cuts.keep (ks _ h.mn),zcd h.own fun i hi=>ks i fun e=>h.nr.1 (e ▸ (zml h).1 hi),fun x hx=>?_,fun x hx i o e=>⟨by rw [zs];exact (h.lt x hx i o e).1,(h.lt x hx i o e).2⟩,h.nr,by rw [zs];exact h.bB⟩,⟨rfl,rfl,rfl,by rw [zs];exact zadw _,fun i hi hn=>⟨ks i fun e=>hn (.inl e),hn⟩⟩,rfl,rfl,rfl⟩
 ·rw [zag,if_pos rfl,h.row,hc]
  rfl
 ·have hs:=h.bod x hx
  rcases hs.cells with e | ⟨i,o,e,hcc⟩
  ·exact ⟨hs.len,hs.le,hs.nil,.inl e⟩
  ·exact ⟨hs.len,hs.le,hs.nil,.inr ⟨i,o,e,fun j y hj=>(Sx.cell_block (ks i (h.lt x hx i o e).2.1) _).1.trans (hcc j y hj)⟩⟩
theorem NetTo.trans {w w1 w2:World} {X X1 X2:Nt} (h:NetTo w X w1 X1) (k:NetTo w1 X1 w2 X2):NetTo w X w2 X2:=⟨k.at',h.comp.trans k.comp,k.nb.trans h.nb,k.nodes.trans h.nodes,k.cut.trans h.cut⟩
theorem NetTo.below {w w1:World} {X:Nt} (h:NetAt w X) (hb:Below w.heap.size w w1):NetTo w X w1 X:=⟨h.below hb,Comp.below hb,rfl,rfl,rfl⟩
def Nt.says (X:Nt):List (Int × Int × List Nat):=X.L.map Lt.told
set_option maxHeartbeats 4000000 in
theorem zp7 {w:World} {X:Nt} (h:NetAt w X) (hl:((X.L.length:Int) ≥ 1000)=False) {a b:Int} (a1:(a ≥ 1)=True) (a2:(a ≤ X.nodes)=True) (b1:(b ≥ 1)=True) (b2:(b ≤ X.nodes)=True) (hab:(a != b)=true) {ao:Option Addr} {n c:Nat} {l:List Nat} (hs:Sl w ao n c (bts l)) (hn:((n:Int) ≤ 400)=True):
  Calls Tryz.prog 101 #[.pointer (some ⟨X.nb,0,none⟩),.int .i64 a,.int .i64 b,.slice ao n c] w fun e w'=>e=.returned (.bool true)∧∃ X',NetTo w X w' X'∧X'.says=X.says ++ [(a,b,l)]:=by
 have H:=zadv h
 have HS:=zadv hs
 have BT:=zadv (zey h a1 a2 b1 b2 hab)
 clear h hs a1 a2 b1 b2 hab
 go_enter Tryz.func101,Tryz.ntmps101
 go_wp2_with fail
 refine BT.out.mono ?_
 rintro _ V ⟨x,y,rfl,hxy,hb⟩
 clear hxy
 have HB:=zadv hb
 clear BT hb
 go_upto_region 2 with (fail)
 have B2:=zadv (HB.out.trans ((zat V (.cells #[.int .i64 x,.int .i64 y] 102)).mono HB.out.size))
 generalize V.alloc (.cells #[.int .i64 x,.int .i64 y] 102)=V2 at B2 ⊢
 have B3:=zadv (B2.out.trans ((Below.refl V2.heap.size V2).drew.mono B2.out.size))
 have L:=zadv (zvd (w:=V2.drew) (f:=a) (t:=b) (H.out.below B3.out) hl (HS.out.keep (zadw _) B3.out) (by have:=of_eq_true hn;omega))
 clear HB
 go_region_held3 (fun _=>True) (trivial) (first
  | (go_at_call 70;refine L.out.mono ?_;rintro _ V3 ⟨rfl,X1,N1,S1⟩;have r1:=zaa N1.at'.row;have s1:=zan N1.at'.row;rw [N1.nb] at r1 s1;have O1:=zadv (zkp (k:=3) (x:=X1.n1) r1 s1 rfl);have NN:=zadv N1;have SS:=zadv S1;clear r1 s1 N1 S1 L)
  | (go_at_call 69;refine O1.out.mono ?_;rintro _ V4 ⟨rfl,rfl⟩))
 have C:=NN.out.at'.cnt (k:=3) (v:=.int .i64 (wrap64 (X1.n1 + 1))) (a:=wrap64 (X1.n1 + 1)) (b:=X1.n2) (c:=X1.n3) (d:=X1.n4) rfl
 have FIN:=zadv ((NetTo.below H.out B3.out).trans (NN.out.trans C))
 have e:=NN.out.nb
 rw [← e]
 clear O1 C e
 go_wp2
 go_ret
 exact ⟨rfl,_,FIN.out,SS.out⟩
end
section
attribute [local go_sem ↓] zad
attribute [local go_sem] zaf zai zaj zal zab zah zac zak zae Ext.row Ext.soft_ zdb
theorem NetAt.at {w:World} {X:Nt} (h:NetAt w X) {k:Nat} {x:Lt} (hk:X.L[k]?=some x):∃ g cur,X.ra=some ⟨g,0,none⟩∧w.heap[g]?=some (.cells cur 120)∧k * 3 + 3 ≤ cur.size∧sub cur (k * 3) 3=#[.int .i64 x.f,.int .i64 x.t,.slice x.a x.l.length x.c]∧X.L.length ≤ X.rc:=by
 obtain ⟨hl,hx⟩:=List.getElem?_eq_some_iff.1 hk
 rcases h.own.2 with ⟨hv,h0⟩ | ⟨g,cp,cur,hv,_,hh,hn,_,hs,ht⟩
 ·have:X.L.length=0:=by
   have:=h0
   simpa using this
  omega
 ·injection hv with e1 e2 e3
  subst e3
  refine ⟨g,cur,e1,hh,by rw [hs];omega,?_,hn⟩
  have ht:cur.toList.take (X.L.length * 3)=ltC X.L:=by simpa using ht
  have e:X.L=X.L.take k ++ (x :: X.L.drop (k + 1)):=by rw [← hx,List.getElem_cons_drop,List.take_append_drop]
  have hc:cur.toList=ltC (X.L.take k) ++ (x.cells ++ (ltC (X.L.drop (k + 1)) ++ cur.toList.drop (X.L.length * 3))):=by
   have e2:ltC X.L=ltC (X.L.take k) ++ (x.cells ++ ltC (X.L.drop (k + 1))):=by
    conv=>lhs;rw [e,zdr]
    rfl
   have e3:cur.toList=ltC X.L ++ cur.toList.drop (X.L.length * 3):=by
    conv=>lhs;rw [← List.take_append_drop (X.L.length * 3) cur.toList,ht]
   rw [e2,List.append_assoc,List.append_assoc] at e3
   exact e3
  exact zbv (ltC (X.L.take k)) x.cells _ (by rw [zei,List.length_take_of_le (by omega)]) rfl hc
theorem zr0 {W:World} {b:Nat} {C:Array Value} (h:rowOf W b=C) (hC:C.size=3) (v0 v1 v2:Value):((W.setCell ⟨b,0,none⟩ v0).setCell ⟨b,1,none⟩ v1).setCell ⟨b,2,none⟩ v2=W.setRow b #[v0,v1,v2]:=by
 have e:rowOf (((W.setCell ⟨b,0,none⟩ v0).setCell ⟨b,1,none⟩ v1).setCell ⟨b,2,none⟩ v2) b=#[v0,v1,v2]:=by
  rw [zac,if_pos rfl,zac,if_pos rfl,zac,if_pos rfl,h]
  apply Array.ext (by simp [hC])
  intro i h1 h2
  have hi:i < 3:=by simpa using h2
  match i,hi with
  | 0,_=>simp [Array.getElem_setIfInBounds,hC]
  | 1,_=>simp [Array.getElem_setIfInBounds,hC]
  | 2,_=>simp [Array.getElem_setIfInBounds,hC]
 rw [← setRow_self (((W.setCell ⟨b,0,none⟩ v0).setCell ⟨b,1,none⟩ v1).setCell ⟨b,2,none⟩ v2) b,e,zcs,zcs,zcs]
set_option maxHeartbeats 1000000 in
theorem zacw {w:World} {X:Nt} (h:NetAt w X) {k:Int} (k0:(k < 0)=False) (k1:(k ≥ (X.L.length:Int))=True):Calls Tryz.prog 68 #[.pointer (some ⟨X.nb,0,none⟩),.int .i64 k] w fun e w'=>e=.returned (.tuple #[.agg #[.int .i64 0,.int .i64 0,.slice none 0 0],.bool false])∧Below w.heap.size w w':=by
 have H:=zadv h
 clear h
 go_enter Tryz.func68,Tryz.ntmps68
 go_upto_region 1 with (fail)
 have bx:=Bx.new w (#[.int .i64 0,.int .i64 0,.slice none 0 0]) 120;generalize w.alloc (.cells (#[.int .i64 0,.int .i64 0,.slice none 0 0]) 120)=W at bx ⊢;have rx:=bx.rowOf;have sx:=bx.soft;have BX:=zadv bx;clear bx
 have rn:=zaa (H.out.below BX.out.below).row
 rw [zbj] at rn
 have B:=Below.setRow_ BX.out.below (zadw w.heap.size) #[.int .i64 0,.int .i64 0,.slice none 0 0]
 have hc:rowOf (W.setRow w.heap.size #[.int .i64 0,.int .i64 0,.slice none 0 0]) w.heap.size=#[.int .i64 0,.int .i64 0,.slice none 0 0]:=(zab _ _ _ _ sx).trans (if_pos rfl)
 go_wp2
 rw [zr0 rx rfl]
 refine bodyPost_ret (zaq (t:=120) rfl Tryz.underlying120 rfl (by kernel_rfl) _ _ w.heap.size rfl hc rfl) rfl ?_
 exact ⟨rfl,B⟩
set_option maxHeartbeats 1000000 in
theorem zkq {w:World} {X:Nt} (h:NetAt w X) {k:Nat} {x:Lt} (hk:X.L[k]?=some x) (hn:x.l.length < 1000000):Calls Tryz.prog 68 #[.pointer (some ⟨X.nb,0,none⟩),.int .i64 k] w fun e w'=>∃ a c,e=.returned (.tuple #[.agg #[.int .i64 x.f,.int .i64 x.t,.slice a x.l.length c],.bool true])∧Below w.heap.size w w'∧Sl w' a x.l.length c (bts x.l)∧∀ i o,a=some ⟨i,o,none⟩→w.heap.size ≤ i∧i < w'.heap.size:=by
 obtain ⟨hl,hx⟩:=List.getElem?_eq_some_iff.1 hk
 have H:=zadv h
 have i0:(k:Int) < X.L.length:=by omega
 have HX:=zadv (h.bod x (List.mem_of_getElem? hk))
 obtain ⟨g,cur,hra,hg,hz,hsub,hrc⟩:=h.at hk
 have HG:=zadv hg
 have HN:=zadv hn
 clear h hk hl hx hg hn
 go_enter Tryz.func68,Tryz.ntmps68
 go_upto_region 1 with (fail)
 have bx:=Bx.new w (#[.int .i64 0,.int .i64 0,.slice none 0 0]) 120;generalize w.alloc (.cells (#[.int .i64 0,.int .i64 0,.slice none 0 0]) 120)=W at bx ⊢;have rx:=bx.rowOf;have sx:=bx.soft;have BX:=zadv bx;clear bx
 have rn:=zaa (H.out.below BX.out.below).row
 rw [zbj,hra] at rn
 have rg:=zaa ((BX.out.below.block _ (zadu HG.out).1).trans HG.out)
 go_upto_region 4 with (fail)
 have LW:=zadv (zadu BX.out.row).1
 have L:=Bx.new W #[.int .i64 x.f,.int .i64 x.t,.slice x.a x.l.length x.c] 120
 generalize W.alloc (.cells #[.int .i64 x.f,.int .i64 x.t,.slice x.a x.l.length x.c] 120)=V at L ⊢
 have bx:=BX.out.step L.below
 have C:=zadv (zb3 (HX.out.keep (zadw _) bx.below) (by have:=HN.out;omega))
 have rl:=L.rowOf
 have BL:=zadv (zadx bx L)
 clear BX rx sx rn rg bx L
 go_wp2_with fail
 refine C.out.mono ?_
 rintro _ V2 ⟨a2,c2,rfl,hb,own2⟩
 have bx:=BL.out.1.step hb
 have bl:=BL.out.2.step hb
 have SL:=zadv (Sl.own own2)
 have OW:=zadv own2
 have LV:=zadv hb.size
 have LB:=zadv (zadu BL.out.2.row).1
 clear BL C rl hb own2
 have rl:=bl.rowOf
 have sl:=bl.soft
 have rx:=bx.rowOf
 have sx:=bx.soft
 have BL:=zadv (zadx bx bl)
 clear bx bl
 go_upto_region 5 with (fail)
 have bl:=BL.out.2.set1' 2 (.slice a2 x.l.length c2)
 rw [show (#[.int .i64 x.f,.int .i64 x.t,.slice x.a x.l.length x.c]:Array Value).setIfInBounds 2 (.slice a2 x.l.length c2)=#[.int .i64 x.f,.int .i64 x.t,.slice a2 x.l.length c2] from rfl] at bl
 have kp:∀ i,i ≠ W.heap.size→(V2.setCell ⟨W.heap.size,2,none⟩ (.slice a2 x.l.length c2)).heap[i]?=V2.heap[i]?:=fun i hi=>by rw [zag,if_neg (fun e=>hi e.symm)]
 have O5:=zcd (w':=V2.setCell ⟨W.heap.size,2,none⟩ (.slice a2 x.l.length c2)) OW.out fun i hi=>kp i fun e=>by have:=zbb OW.out i hi;have:=LB.out;omega
 have q0:=(kp w.heap.size (Nat.ne_of_lt LW.out)).trans BL.out.1.row
 have B5:Below w.heap.size w (V2.setCell ⟨W.heap.size,2,none⟩ (.slice a2 x.l.length c2)):=BL.out.1.below.setCell (Nat.le_of_lt LW.out) _
 generalize V2.setCell ⟨W.heap.size,2,none⟩ (.slice a2 x.l.length c2)=V3 at bl O5 q0 B5 ⊢
 clear kp rl sl rx sx BL
 have rl:=bl.rowOf
 have rx:=zaa q0
 have sx:=zan q0
 have B6:=Below.setRow_ B5 (zadw w.heap.size) #[.int .i64 x.f,.int .i64 x.t,.slice a2 x.l.length c2]
 have hc:rowOf (V3.setRow w.heap.size #[.int .i64 x.f,.int .i64 x.t,.slice a2 x.l.length c2]) w.heap.size=#[.int .i64 x.f,.int .i64 x.t,.slice a2 x.l.length c2]:=(zab _ _ _ _ sx).trans (if_pos rfl)
 have O6:=(zja (b:=w.heap.size) O5 (by have:=LB.out;have:=LW.out;omega) #[.int .i64 x.f,.int .i64 x.t,.slice a2 x.l.length c2])
 have S6:=Sl.own O6
 have z6:(V3.setRow w.heap.size #[.int .i64 x.f,.int .i64 x.t,.slice a2 x.l.length c2]).heap.size=V3.heap.size:=by simp [World.setRow]
 have F6:∀ i o,a2=some ⟨i,o,none⟩→w.heap.size ≤ i∧i < (V3.setRow w.heap.size #[.int .i64 x.f,.int .i64 x.t,.slice a2 x.l.length c2]).heap.size:=fun i o e=>by
  rw [z6]
  rw [e] at O5
  have h1:=zem O5
  have h2:=LB.out
  have h3:=LW.out
  exact ⟨by omega,h1.2⟩
 clear O5 O6 bl
 go_wp2
 rw [zr0 rx rfl]
 refine bodyPost_ret (zaq (t:=120) rfl Tryz.underlying120 rfl (by kernel_rfl) _ _ w.heap.size rfl hc rfl) rfl ?_
 exact ⟨a2,c2,rfl,B6,S6,F6⟩
end
section
attribute [local go_sem ↓] zad
attribute [local go_sem] zaf zai zaj zal zab zah zac zak zae Ext.row Ext.soft_ zdb
theorem NetTo.other {w w1:World} {X X1:Nt} (h:NetTo w X w1 X1) {i:Nat} (hi:i < w.heap.size) (hn:¬ X.all i):w1.heap[i]?=w.heap[i]?:=(h.comp.keep i hi hn).1
set_option maxHeartbeats 4000000 in
theorem zve {w:World} {X:Nt} (h:NetAt w X) (hl:((X.L.length:Int) ≥ 1000)=False) {k:Nat} {x:Lt} (hk:X.L[k]?=some x) (hn:x.l.length < 1000000):Calls Tryz.prog 30 #[.pointer (some ⟨X.nb,0,none⟩),.int .i64 k] w fun e w'=>e=.returned (.bool true)∧∃ X',NetTo w X w' X'∧X'.says=X.says ++ [(x.f,x.t,x.l)]:=by
 have H:=zadv h
 have LK:=zadv (zkq h hk hn)
 have HN:=zadv hn
 clear h hk hn
 go_enter Tryz.func30,Tryz.ntmps30
 go_wp2_with fail
 refine LK.out.mono ?_
 rintro _ V ⟨a2,c2,rfl,hb,sl,_⟩
 have HB:=zadv hb
 have SL:=zadv sl
 clear LK hb sl
 go_upto_region 2 with (fail)
 have L:=Bx.new V #[.int .i64 x.f,.int .i64 x.t,.slice a2 x.l.length c2] 120
 generalize V.alloc (.cells #[.int .i64 x.f,.int .i64 x.t,.slice a2 x.l.length c2] 120)=V2 at L ⊢
 have B3:=zadv (HB.out.trans ((L.below.trans ((Below.refl V2.heap.size V2).drew.mono L.below.size)).mono HB.out.size))
 have q0:V2.drew.heap[V.heap.size]?=some (.cells #[.int .i64 x.f,.int .i64 x.t,.slice a2 x.l.length c2] 120):=L.row
 have Q0:=zadv q0
 have NA:=zadv (show ¬ X.all V.heap.size from fun q=>by have:=H.out.all_lt q;have:=HB.out.size;omega)
 have LL:=zadv (zvd (w:=V2.drew) (f:=x.f) (t:=x.t) (H.out.below B3.out) hl (SL.out.keep (zadw _) (L.below.trans ((Below.refl V2.heap.size V2).drew.mono L.below.size))) HN.out)
 have r0:=zaa q0
 clear L q0
 go_region_held3 (fun w'=>rowOf w' V.heap.size=#[.int .i64 x.f,.int .i64 x.t,.slice a2 x.l.length c2]) (first | exact r0 | exact r1 | exact r2)
  (first
   | (go_at_call 70;refine LL.out.mono ?_;rintro _ V3 ⟨rfl,X1,N1,S1⟩;have h1:=(N1.other (zadu Q0.out).1 NA.out).trans Q0.out;have r1:=zaa h1;have rn:=zaa N1.at'.row;have sn:=zan N1.at'.row;rw [N1.nb] at rn sn;have O1:=zadv (zkp (k:=4) (x:=X1.n2) rn sn rfl);have r2:rowOf (V3.setCell ⟨X.nb,4,none⟩ (.int .i64 (wrap64 (X1.n2 + 1)))) V.heap.size=#[.int .i64 x.f,.int .i64 x.t,.slice a2 x.l.length c2]:=(by rw [zac,if_neg (fun e=>NA.out (.inl e))];exact r1);have NN:=zadv N1;have SS:=zadv S1;clear rn sn N1 S1 LL h1)
   | (go_at_call 69;refine O1.out.mono ?_;rintro _ V4 ⟨rfl,rfl⟩))
 have C:=NN.out.at'.cnt (k:=4) (v:=.int .i64 (wrap64 (X1.n2 + 1))) (a:=X1.n1) (b:=wrap64 (X1.n2 + 1)) (c:=X1.n3) (d:=X1.n4) rfl
 have FIN:=zadv ((NetTo.below H.out B3.out).trans (NN.out.trans C))
 have e:=NN.out.nb
 clear r0 r1 r2 O1
 rw [← e]
 clear C e
 go_wp2
 go_ret
 exact ⟨rfl,_,FIN.out,SS.out⟩
end
end Go.Proofs.YthjgiamfaijoeaaGreatDoor
