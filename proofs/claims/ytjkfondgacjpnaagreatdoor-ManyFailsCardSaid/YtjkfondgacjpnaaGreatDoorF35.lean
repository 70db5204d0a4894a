/- What is proved: parts of the walk and of the plain law, 3 texts in one. No condition but those each law names. -/
import Derived.Test.YtjkfondgacjpnaaGreatDoorF34
namespace Go.Proofs.YtjkfondgacjpnaaGreatDoor
open Go.RowKit
open Sx (Ab DW Turns Did Foot)
set_option maxRecDepth 100000
theorem keep1_any {w:World} {xb b0 b1:Nat} {C:Array Value} {t:TypeId} (h0:w.cell? ⟨b0,0,none⟩=some (.pointer (some ⟨xb,0,none⟩))) (h1:w.cell? ⟨b1,0,none⟩=some (.int .i64 0)) (hx:w.heap[xb]?=some (.cells C t)) (hc:C[12]?=some (.bool false)):
  CallsD Tryz.prog 68 #[.pointer (some ⟨b0,0,none⟩),.pointer (some ⟨b1,0,none⟩)] .returning w fun e u' w'=>u'=.returning∧(∃ v,e=.returned v)∧Below w.heap.size w w':=by
 have hb:=below_same hx hc
 have c12:w.cell? ⟨xb,12,none⟩=some (.bool false):=by simp [World.cell?,hx,hc]
 have f12:w.frozen? ⟨xb,12,none⟩=false:=by simp [World.frozen?,hx]
 refine callsD_of_wp Tryz.func68 rfl ?_
 simp only [Tryz.ntmps68,List.size_toArray,List.length_cons,List.length_nil,Nat.reduceAdd,Nat.reduceSub,Array.replicate_succ,Array.replicate_zero,List.push_toArray,List.append_toArray,List.nil_append,List.cons_append]
 have B2:=Lib.hid hb.drew
 clear hb hc
 go_region
 go_end0
 exact ⟨⟨_,rfl⟩,B2.out⟩
structure Base (w:World) (D:Dm):Prop where
 forms:Forms w
 tabs:Tabs w
 n2:¬ D.all 0
 n4:¬ D.all 1
 n5:¬ D.all 2
theorem Forms.lt {w:World} (h:Forms w):0 < w.heap.size:=World.block_lt_of_cell? w ⟨0,0,none⟩ (h 0 _ rfl)
theorem Base.trans {w w':World} {D D':Dm} (h:Base w D) (t:Trans w D w' D'):Base w' D':=by
 have l2:=h.forms.lt
 obtain ⟨t4,g4⟩:=h.tabs.g4
 obtain ⟨t5,g5⟩:=h.tabs.g5
 have l4:=(Array.getElem?_eq_some_iff.1 g4).1
 have l5:=(Array.getElem?_eq_some_iff.1 g5).1
 exact ⟨fun j v hj=>(Sx.cell_block (t.keep 0 l2 h.n2).1 _).1.trans (h.forms j v hj),⟨⟨t4,(t.keep 1 l4 h.n4).1.trans g4⟩,⟨t5,(t.keep 2 l5 h.n5).1.trans g5⟩⟩,(t.keep 0 l2 h.n2).2,(t.keep 1 l4 h.n4).2,(t.keep 2 l5 h.n5).2⟩
attribute [local go_sem ↓] rowOf_cell
attribute [local go_sem] rowOf_alloc soft_alloc rowOf_drew soft_drew rowOf_setRow soft_setRow rowOf_setCell soft_setCell frozen_of_soft
end Go.Proofs.YtjkfondgacjpnaaGreatDoor
namespace Go.Proofs.YtjkfondgacjpnaaGreatDoor
open Go.RowKit
open Sx (Ab DW Turns Did Foot)
set_option maxRecDepth 100000
theorem intL_small (u:Nat) (hu:u < 18446744073709551616):Small (intL u):=by
 unfold intL
 split
 ·intro x hx
  have:=List.mem_singleton.1 hx
  omega
 ·split
  ·exact fun x hx=>(List.mem_cons.1 hx).elim (fun e=>by omega) (les_small _ _ x)
  ·split
   ·exact fun x hx=>(List.mem_cons.1 hx).elim (fun e=>by omega) (les_small _ _ x)
   ·exact fun x hx=>(List.mem_cons.1 hx).elim (fun e=>by omega) (les_small _ _ x)
theorem intI_small (x:Int):Small (intI x):=intL_small _ (by omega)
theorem intsL_small (xs:List Int):Small (intsL xs):=fun x hx=>by
 obtain ⟨y,_,hy⟩:=List.mem_flatMap.1 hx
 exact intI_small y x hy
theorem putD_ok {d:Dl} (h:Small d.h.l):RowOk (1,putD d):=
 ⟨by show (1:Int) ≤ 1;decide,by show (1:Int) < 255;decide,by have:=putD_len d;show (putD d).length ≤ 400;omega,(((intsL_small _).append (intsL_small _)).append h).append (intsL_small _)⟩
theorem putS_ok {i:Int} {h:Hs} (hs:Small h.l):RowOk (1,putS i h):=
 ⟨by show (1:Int) ≤ 1;decide,by show (1:Int) < 255;decide,by have:=putS_len i h;show (putS i h).length ≤ 400;omega,(intsL_small _).append hs⟩
theorem npc_D (d:Dl):npc (rowF (1,putD d)) ≤ 2:=by
 have:=putD_len d
 unfold npc
 rw [rowF_len]
 show ((putD d).length + 7 + 126) / 127 ≤ 2
 omega
theorem npc_S (i:Int) (h:Hs):npc (rowF (1,putS i h)) ≤ 1:=by
 have:=putS_len i h
 unfold npc
 rw [rowF_len]
 show ((putS i h).length + 7 + 126) / 127 ≤ 1
 omega
structure Lies (w:World) (D:Dm) (P:List (Int × En)→Prop) (R:List (Int × List Nat)):Prop where
 dae:Dae w D
 book:P D.M
 rows:D.R=R
 cal:D.cal=true
theorem Lies.low {w w':World} {D:Dm} {P:List (Int × En)→Prop} {R:List (Int × List Nat)} (h:Lies w D P R) (hb:Below w.heap.size w w'):Lies w' D P R:=⟨h.dae.below hb,h.book,h.rows,h.cal⟩
theorem putFoot {bk mb:Nat} {M:List (Int × En)} {k:Int} {e:En} {i:Nat} (h:FootB bk mb (putA M k e) i 0):FootB bk mb M i 0 ∨ i=e.b ∨ i=e.m:=by
 rcases h with h | h | ⟨p,hp,h⟩
 ·exact .inl (.inl h)
 ·exact .inl (.inr (.inl h))
 ·rcases putA_mem hp with rfl | hp
  ·exact .inr h
  ·exact .inl (.inr (.inr ⟨p,hp,h⟩))
theorem sub_whole (r:Rc):sub r.cells (0 * 80) 80=r.cells:=by rw [Nat.zero_mul];exact r_whole r
end Go.Proofs.YtjkfondgacjpnaaGreatDoor
namespace Go.Proofs.YtjkfondgacjpnaaGreatDoor
open Go.RowKit
open Sx (Ab DW Turns Did Foot)
set_option maxRecDepth 100000
theorem bsl1 (w:World) (r:Rc):(Instr.buildSlice 158 1 #[(0,.agg r.cells)]).run Tryz.prog w=.ok (.slice (some ⟨w.heap.size,0,none⟩) 1 1) (w.alloc (.cells r.cells 119)):=by
 obtain ⟨k,i,⟨di,dr,p,g,h,q⟩,s,mv,st,t⟩:=r
 obtain ⟨f,rfl⟩:=h.form
 obtain ⟨f2,rfl⟩:=s.form
 kernel_rfl
theorem bsl2 (w:World) (r r':Rc):(Instr.buildSlice 158 2 #[(0,.agg r.cells),(1,.agg r'.cells)]).run Tryz.prog w=.ok (.slice (some ⟨w.heap.size,0,none⟩) 2 2) (w.alloc (.cells (r.list ++ r'.list).toArray 119)):=by
 obtain ⟨k,i,⟨di,dr,p,g,h,q⟩,s,mv,st,t⟩:=r
 obtain ⟨f,rfl⟩:=h.form
 obtain ⟨f2,rfl⟩:=s.form
 obtain ⟨k',i',⟨di',dr',p',g',h',q'⟩,s',mv',st',t'⟩:=r'
 obtain ⟨f',rfl⟩:=h'.form
 obtain ⟨f2',rfl⟩:=s'.form
 kernel_rfl
def rOf (v:Value):Rc:=⟨iAt v 0,iAt v 1,dOf (.agg (sub (agc v) 2 41)),hOf (.agg (sub (agc v) 43 32)),iAt v 75,iAt v 76,Tv.zero⟩
theorem rOf_mk (k i:Int) (d:Dl) (s:Hs) (mv st:Int):rOf (.agg (Rc.cells ⟨k,i,d,s,mv,st,Tv.zero⟩))=⟨k,i,d,s,mv,st,Tv.zero⟩:=by
 have e1:sub (agc (.agg (Rc.cells ⟨k,i,d,s,mv,st,Tv.zero⟩))) 2 41=d.cells:=r_d _
 have e2:sub (agc (.agg (Rc.cells ⟨k,i,d,s,mv,st,Tv.zero⟩))) 43 32=s.cells:=r_s _
 have e3:iAt (.agg (Rc.cells ⟨k,i,d,s,mv,st,Tv.zero⟩)) 75=mv:=by show (match (Rc.cells ⟨k,i,d,s,mv,st,Tv.zero⟩)[75]? with | some (.int _ n)=>n | _=>0)=_;rw [r_75]
 have e4:iAt (.agg (Rc.cells ⟨k,i,d,s,mv,st,Tv.zero⟩)) 76=st:=by show (match (Rc.cells ⟨k,i,d,s,mv,st,Tv.zero⟩)[76]? with | some (.int _ n)=>n | _=>0)=_;rw [r_76]
 unfold rOf
 rw [e1,e2,e3,e4,dOf_mk,hOf_mk]
 rfl
theorem rOf_D (d:Dl):rOf (.agg (rcD d).cells)=rcD d:=rOf_mk _ _ _ _ _ _
theorem rOf_S (i:Int) (h:Hs):rOf (.agg (rcS i h).cells)=rcS i h:=rOf_mk _ _ _ _ _ _
theorem rcD_eq (d:Dl):Rc.cells ⟨1,d.i,d,Hs.zero,0,0,Tv.zero⟩=(rcD d).cells:=rfl
theorem rcS_eq (i:Int) (h:Hs):Rc.cells ⟨2,i,Dl.zero,h,0,0,Tv.zero⟩=(rcS i h).cells:=rfl
section
variable (w:World) (ρ:Operand→Value) (dst:Option Tmp) (ty:TypeId) (pos:String) (af:Array Edge) (gd:Option (Nat × Bool))
theorem ebl1 (x:Operand) (hx:ρ x=.agg (rOf (ρ x)).cells):(execOp ρ ⟨dst,.buildSlice 158 1 #[(0,x)],ty,pos,af,gd⟩).run Tryz.prog w=.ok (.value (.slice (some ⟨w.heap.size,0,none⟩) 1 1)) (w.alloc (.cells (rOf (ρ x)).cells 119)):=by
 have h:=bsl1 w (rOf (ρ x))
 rw [← hx] at h
 unfold execOp
 simp only [Sem.run_bind,Sem.run_pure,List.map_toArray,List.map_cons,List.map_nil,h,Result.andThen_ok]
theorem ebl2 (x y:Operand) (hx:ρ x=.agg (rOf (ρ x)).cells) (hy:ρ y=.agg (rOf (ρ y)).cells):(execOp ρ ⟨dst,.buildSlice 158 2 #[(0,x),(1,y)],ty,pos,af,gd⟩).run Tryz.prog w=.ok (.value (.slice (some ⟨w.heap.size,0,none⟩) 2 2)) (w.alloc (.cells ((rOf (ρ x)).list ++ (rOf (ρ y)).list).toArray 119)):=by
 have h:=bsl2 w (rOf (ρ x)) (rOf (ρ y))
 rw [← hx,← hy] at h
 unfold execOp
 simp only [Sem.run_bind,Sem.run_pure,List.map_toArray,List.map_cons,List.map_nil,h,Result.andThen_ok]
theorem ebrDk (A:Act) (y z:Operand) (hy:A.eval y=.int .i64 (iv (A.eval y))) (hz:A.eval z=.agg (dOf (A.eval z)).cells):(execOp A.eval ⟨dst,.build 119 #[(0,.const (.int .i64 1)),(1,y),(2,z)],ty,pos,af,gd⟩).run Tryz.prog w=.ok (.value (.agg (Rc.cells ⟨1,iv (A.eval y),dOf (A.eval z),Hs.zero,0,0,Tv.zero⟩))) w:=
 ebr2 w A.eval dst ty pos af gd (.const (.int .i64 1)) y z rfl hy hz
theorem ebrSk (A:Act) (y z:Operand) (hy:A.eval y=.int .i64 (iv (A.eval y))) (hz:A.eval z=.agg (hOf (A.eval z)).cells):(execOp A.eval ⟨dst,.build 119 #[(0,.const (.int .i64 2)),(1,y),(3,z)],ty,pos,af,gd⟩).run Tryz.prog w=.ok (.value (.agg (Rc.cells ⟨2,iv (A.eval y),Dl.zero,hOf (A.eval z),0,0,Tv.zero⟩))) w:=
 ebr3 w A.eval dst ty pos af gd (.const (.int .i64 2)) y z rfl hy hz
theorem ebmRk (A:Act) (y z:Operand) (hy:A.eval y=.int .i64 (iv (A.eval y))) (hz:A.eval z=.int .i64 (iv (A.eval z))):(execOp A.eval ⟨dst,.build 67 #[(0,.const (.int .i64 3)),(1,y),(2,z)],ty,pos,af,gd⟩).run Tryz.prog w=.ok (.value (.agg (msgR (iv (A.eval y)) (iv (A.eval z))).cells)) w:=
 ebm3 w A.eval dst ty pos af gd (.const (.int .i64 3)) y z rfl hy hz
end
attribute [local go_sem ↓] rowOf_cell ebl1 ebl2 ebrDk ebrSk ebmRk
attribute [local go_sem] rowOf_alloc soft_alloc rowOf_drew soft_drew rowOf_setRow soft_setRow rOf_D rOf_S rcD_eq rcS_eq
def RetB (L:List Nat) (w:World):Ending→World→Prop:=fun e w'=>∃ ao c,e=.returned (.slice ao L.length c)∧Below w.heap.size w w'∧Sl w' ao L.length c (bts L)
theorem refusal_call {w:World} (hf:Forms w) {i c:Int} (he:idE i (refE c)=0):Calls Tryz.prog 78 #[.int .i64 i,.int .i64 c] w (RetB (putC i c) w):=by
 obtain ⟨hi,hc⟩:=idE_in he
 have hc2:1 ≤ c∧c ≤ 24:=by unfold refE at hc;split at hc <;> omega
 have P:=Lib.hid (MPut_code hf he ⟨by omega,by omega⟩ ⟨by omega,by omega⟩)
 clear hf he hi hc hc2
 go_enter Tryz.func78,Tryz.ntmps78
 go_wp2_with fail
 refine P.out.mono ?_
 rintro _ W ⟨ao,c,rfl,hb,ho⟩
 have HB:=Lib.hid hb
 have HO:=Lib.hid (Sl.own ho)
 clear hb ho P
 go_wp2
 go_ret
 exact ⟨ao,c,rfl,HB.out,HO.out⟩
end Go.Proofs.YtjkfondgacjpnaaGreatDoor

namespace Go.Proofs.YtjkfondgacjpnaaGreatDoor
open Go.RowKit
set_option maxRecDepth 100000
inductive It
 | dl (d:Dl)
 | se (i:Int) (s:Hs)
def It.row:It→Int × List Nat
 | .dl d=>(1,putD d)
 | .se i s=>(1,putS i s)
def It.rc:It→Rc
 | .dl d=>rcD d
 | .se i s=>rcS i s
def rowsIt (L:List It):List (Int × List Nat):=L.map It.row
def bkOf (M:List (Int × En)):List (Int × Sw):=M.map fun p=>(p.1,p.2.s)
theorem bkOf_get (M:List (Int × En)) (k:Int):getA (bkOf M) k=(getA M k).map (·.s):=by
 induction M with
 | nil=>rfl
 | cons p M ih=>
  show (if k=p.1 then some p.2.s else getA (bkOf M) k)=(if k=p.1 then some p.2 else getA M k).map (·.s)
  rw [ih]
  split <;> rfl
theorem bkOf_put (M:List (Int × En)) (k:Int) (e:En):bkOf (putA M k e)=putA (bkOf M) k e.s:=by
 induction M with
 | nil=>rfl
 | cons p M ih=>
  show bkOf (if k=p.1 then (k,e) :: M else p :: putA M k e)=if k=p.1 then (k,e.s) :: bkOf M else (p.1,p.2.s) :: putA (bkOf M) k e.s
  rw [← ih]
  split <;> rfl
theorem bkOf_len (M:List (Int × En)):(bkOf M).length=M.length:=by unfold bkOf;rw [List.length_map]
theorem bkOf_keys (M:List (Int × En)):(bkOf M).map (·.1)=M.map (·.1):=by unfold bkOf;rw [List.map_map];rfl
theorem bkOf_none {M:List (Int × En)} {k:Int} (h:getA (bkOf M) k=none):getA M k=none:=by
 rw [bkOf_get] at h
 exact Option.map_eq_none_iff.1 h
theorem bkOf_some {M:List (Int × En)} {k:Int} {s:Sw} (h:getA (bkOf M) k=some s):∃ b m,getA M k=some ⟨b,m,s⟩:=by
 rw [bkOf_get] at h
 obtain ⟨e,h1,h2⟩:=Option.map_eq_some_iff.1 h
 exact ⟨e.b,e.m,by rw [h1,← h2]⟩
def swS:Option Sw→Sw
 | some s=>s
 | none=>Sw.zero
theorem swO_bk (M:List (Int × En)) (k:Int):swO (getA M k)=swS (getA (bkOf M) k):=by
 rw [bkOf_get]
 cases getA M k <;> rfl
def newS (d:Dl):Sw:=⟨d,1,false,Hs.zero⟩
def knowS (d:Dl) (s:Hs):Sw:=⟨d,1,true,s⟩
inductive Adds:List (Int × Sw)→It→List (Int × Sw)→Prop
 | dl {B:List (Int × Sw)} {d:Dl} (h1:dealOk d=true) (h2:Small d.h.l) (h3:getA B d.i=none) (h4:B.length < 16):Adds B (.dl d) (putA B d.i (newS d))
 | se {B:List (Int × Sw)} {i:Int} {s:Hs} {d:Dl} (h1:wi i 1 1073741824=true) (h2:Small s.l) (h3:getA B i=some (newS d)) (h4:sumH s.l=d.h):Adds B (.se i s) (putA B i (knowS d s))
inductive Run:List (Int × Sw)→List It→List (Int × Sw)→Prop
 | nil {B:List (Int × Sw)}:Run B [] B
 | cons {B B1 B2:List (Int × Sw)} {a:It} {L:List It} (h:Adds B a B1) (k:Run B1 L B2):Run B (a :: L) B2
theorem Run.snoc {B B1 B2:List (Int × Sw)} {L:List It} {a:It} (h:Run B L B1) (k:Adds B1 a B2):Run B (L ++ [a]) B2:=by
 induction h with
 | nil=>exact .cons k .nil
 | cons q _ ih=>exact .cons q (ih k)
theorem Run.head {B B2:List (Int × Sw)} {L:List It} {a:It} (h:Run B (a :: L) B2):∃ B1,Adds B a B1∧Run B1 L B2:=by
 cases h with
 | cons h k=>exact ⟨_,h,k⟩
def wtS (s:Sw):Nat:=if s.kn then 3 else 2
def wtB (B:List (Int × Sw)):Nat:=(B.map fun p=>wtS p.2).sum
theorem wtB_le (B:List (Int × Sw)):wtB B ≤ 3 * B.length:=by
 induction B with
 | nil=>exact Nat.le_refl _
 | cons p B ih=>
  show wtS p.2 + wtB B ≤ 3 * (B.length + 1)
  have:wtS p.2 ≤ 3:=by unfold wtS;split <;> omega
  omega
theorem wtB_new {B:List (Int × Sw)} {k:Int} {s:Sw} (h:getA B k=none):wtB (putA B k s)=wtB B + wtS s:=by
 induction B with
 | nil=>show wtS s + 0=0 + wtS s;omega
 | cons p B ih=>
  have h:(if k=p.1 then some p.2 else getA B k)=none:=h
  show wtB (if k=p.1 then (k,s) :: B else p :: putA B k s)=wtS p.2 + wtB B + wtS s
  by_cases e:k=p.1
  ·rw [if_pos e] at h;cases h
  ·rw [if_neg e] at h ⊢
   have:=ih h
   show wtS p.2 + wtB (putA B k s)=_
   omega
theorem wtB_turn {B:List (Int × Sw)} {k:Int} {s u:Sw} (h:getA B k=some u):wtB (putA B k s) + wtS u=wtB B + wtS s:=by
 induction B with
 | nil=>cases h
 | cons p B ih=>
  have h:(if k=p.1 then some p.2 else getA B k)=some u:=h
  show wtB (if k=p.1 then (k,s) :: B else p :: putA B k s) + wtS u=wtS p.2 + wtB B + wtS s
  by_cases e:k=p.1
  ·rw [if_pos e] at h ⊢
   cases h
   show wtS s + wtB B + wtS p.2=_
   omega
  ·rw [if_neg e] at h ⊢
   have:=ih h
   show wtS p.2 + wtB (putA B k s) + wtS u=_
   omega
theorem putA_len_new {α:Type} {B:List (Int × α)} {k:Int} {s:α} (h:getA B k=none):(putA B k s).length=B.length + 1:=by
 induction B with
 | nil=>rfl
 | cons p B ih=>
  have h:(if k=p.1 then some p.2 else getA B k)=none:=h
  show (if k=p.1 then (k,s) :: B else p :: putA B k s).length=B.length + 1 + 1
  by_cases e:k=p.1
  ·rw [if_pos e] at h;cases h
  ·rw [if_neg e] at h ⊢
   show (putA B k s).length + 1=_
   rw [ih h]
theorem putA_len_turn {α:Type} {B:List (Int × α)} {k:Int} {s u:α} (h:getA B k=some u):(putA B k s).length=B.length:=by
 induction B with
 | nil=>cases h
 | cons p B ih=>
  have h:(if k=p.1 then some p.2 else getA B k)=some u:=h
  show (if k=p.1 then (k,s) :: B else p :: putA B k s).length=B.length + 1
  by_cases e:k=p.1
  ·rw [if_pos e];rfl
  ·rw [if_neg e] at h ⊢
   show (putA B k s).length + 1=_
   rw [ih h]
structure Fine (B:List (Int × Sw)):Prop where
 nd:(B.map (·.1)).Nodup
 len:B.length ≤ 16
 ent:∀ p ∈ B,p.2.d.i=p.1∧dealOk p.2.d=true∧Small p.2.d.h.l∧p.2.st=1
theorem Fine.nil:Fine []:=⟨List.nodup_nil,Nat.zero_le _,fun _ h=>by cases h⟩
theorem Fine.at {B:List (Int × Sw)} (h:Fine B) {k:Int} {s:Sw} (hk:getA B k=some s):s.d.i=k∧dealOk s.d=true∧Small s.d.h.l∧s.st=1:=h.ent _ (getA_mem hk)
theorem Fine.adds {B B':List (Int × Sw)} {a:It} (h:Fine B) (k:Adds B a B'):Fine B':=by
 cases k with
 | dl h1 h2 h3 h4=>
  refine ⟨putA_nodup h.nd,by rw [putA_len_new h3];omega,fun p hp=>?_⟩
  rcases putA_mem hp with rfl | hp
  ·exact ⟨rfl,h1,h2,rfl⟩
  ·exact h.ent p hp
 | se h1 h2 h3 h4=>
  refine ⟨putA_nodup h.nd,by rw [putA_len_turn h3];exact h.len,fun p hp=>?_⟩
  rcases putA_mem hp with rfl | hp
  ·obtain ⟨q1,q2,q3,_⟩:=h.at h3
   exact ⟨q1,q2,q3,rfl⟩
  ·exact h.ent p hp
theorem Fine.run {B B':List (Int × Sw)} {L:List It} (h:Fine B) (k:Run B L B'):Fine B':=by
 induction k with
 | nil=>exact h
 | cons q _ ih=>exact ih (h.adds q)
theorem Fine.i64 {B:List (Int × Sw)} (h:Fine B):∀ p ∈ B,I64 p.1:=fun p hp=>by
 obtain ⟨q1,q2,_⟩:=h.ent p hp
 rw [← q1]
 exact (dealOk_in q2).i.i64
theorem Fine.book {M:List (Int × En)} (h:Fine (bkOf M)):M.length ≤ 16∧∀ p ∈ M,I64 p.1:=
 ⟨by rw [← bkOf_len];exact h.len,fun p hp=>h.i64 (p.1,p.2.s) (List.mem_map.2 ⟨p,hp,rfl⟩)⟩
theorem It.ok {B B':List (Int × Sw)} {a:It} (k:Adds B a B'):RowOk a.row∧npc (rowF a.row) + wtB B ≤ wtB B':=by
 cases k with
 | dl h1 h2 h3 h4=>
  rename_i d
  refine ⟨putD_ok h2,?_⟩
  rw [wtB_new h3]
  have:=npc_D d
  show npc (rowF (1,putD d)) + wtB B ≤ wtB B + 2
  omega
 | se h1 h2 h3 h4=>
  rename_i i s d
  refine ⟨putS_ok h2,?_⟩
  have q:=wtB_turn (s:=knowS d s) h3
  have:=npc_S i s
  have q:wtB (putA B i (knowS d s)) + 2=wtB B + 3:=q
  show npc (rowF (1,putS i s)) + wtB B ≤ _
  omega
theorem Run.secs {B B':List (Int × Sw)} {L:List It} (k:Run B L B'):(secL (rowsIt L)).length + wtB B ≤ wtB B':=by
 induction k with
 | nil=>exact Nat.le_of_eq (Nat.zero_add _)
 | cons q _ ih=>
  have:=(It.ok q).2
  show (secL (_ :: rowsIt _)).length + _ ≤ _
  rw [secL_cons,List.length_append,secs_len]
  omega
theorem Run.room {B:List (Int × Sw)} {L:List It} (k:Run [] L B):(secL (rowsIt L)).length ≤ 48:=by
 have h:=k.secs
 have h2:=wtB_le B
 have h3:=(Fine.nil.run k).len
 have h4:wtB []=0:=rfl
 omega
theorem rowsIt_snoc (L:List It) (a:It):rowsIt (L ++ [a])=rowsIt L ++ [a.row]:=by unfold rowsIt;rw [List.map_append];rfl
end Go.Proofs.YtjkfondgacjpnaaGreatDoor

namespace Go.Proofs.YtjkfondgacjpnaaGreatDoor
open Go.RowKit
set_option maxRecDepth 100000
attribute [local go_sem ↓] rowOf_cell
attribute [local go_sem] rowOf_alloc soft_alloc rowOf_drew soft_drew rowOf_setRow soft_setRow rowOf_setCell soft_setCell frozen_of_soft
theorem Rs.tail {a r:List Nat} {k:Int} (h:Rs (a ++ r,k)):Rs (r,k):=
 ⟨fun x hx=>h.small x (List.mem_append_right _ hx),by have:=h.len;simp only [List.length_append] at this;show r.length < _;omega⟩
theorem But.setNew {w W:World} {p b:Nat} (h:But p w W) (hb:w.heap.size ≤ b) {i:Nat} {v:Value}:But p w (W.setCell ⟨b,i,none⟩ v):=
 ⟨h.os,h.tape,h.output,by have:=h.size;simpa [World.setCell] using this,fun k q r=>by rw [heap_setCell_at,if_neg (by omega)];exact h.block k q r⟩
section
variable {w:World} {B p:Nat}
theorem RInt_put {x:Int} {r:List Nat} (hf:Forms w) (hp:p ≠ 0) (h0:0 ≤ x) (h1:x < 9223372036854775808) (hs:Rs (intI x ++ r,0)) (hr:RdB B w p (intI x ++ r,0)):
  Calls Tryz.prog 75 #[.pointer (some ⟨p,0,none⟩)] w fun e w'=>e=.returned (.int .i64 x)∧But p w w'∧RdB B w' p (r,0):=by
 have K:=RInt_any hf hp hr hs.small hs.len
 rw [rdI_put h0 h1 r,show (((x.toNat,r,(0:Int)):Nat × RS).1:Int)=x from Int.toNat_of_nonneg h0] at K
 exact K
theorem RHash_put {h:Hs} {r:List Nat} (hr:RdB B w p (h.l ++ r,0)) (hB:B ≤ w.heap.size):
  Calls Tryz.prog 140 #[.pointer (some ⟨p,0,none⟩)] w fun e w'=>e=.returned (.agg h.cells)∧But p w w'∧RdB B w' p (r,0):=by
 have K:=RHash_any hr hB
 rw [rdHs_put] at K
 exact K
end
structure RR (w0:World) (p b:Nat) (w:World) (s:RS) (r:Rc):Prop where
 rd:RdB b w p s
 row:w.heap[b]?=some (.cells r.cells 119)
 fm:Forms w
 but:But2 p b w0 w
 pos:0 < p∧0 < b∧p ≠ b
section
variable {w0 w w':World} {p b:Nat} {s s':RS} {r r':Rc}
theorem RR.read (h:RR w0 p b w s r) (hb:But p w w') (hr:RdB b w' p s'):RR w0 p b w' s' r:=
 ⟨hr,(hb.block b (Array.getElem?_eq_some_iff.1 h.row).1 (Ne.symm h.pos.2.2)).trans h.row,hb.forms h.fm (Nat.le_refl _) (Nat.pos_iff_ne_zero.1 h.pos.1),h.but.trans (But2.but hb),h.pos⟩
theorem RR.set (h:RR w0 p b w s r) {i:Nat} {v:Value} (e:r.cells.setIfInBounds i v=r'.cells):RR w0 p b (w.setCell ⟨b,i,none⟩ v) s r':=
 ⟨h.rd.other (ButN.refl.set i v) (Nat.le_refl _) h.pos.2.2 (Nat.le_refl _),by rw [heap_setCell_at,if_pos rfl,h.row];simp only [Option.map_some,e],((But2.refl p b w).set i v).forms h.fm h.pos.1 h.pos.2.1,h.but.set i v,h.pos⟩
theorem RR.over (h:RR w0 p b w s r) {C:Array Value} (e:C=r'.cells):RR w0 p b (w.setRow b C) s r':=by
 have hb2:ButN w.heap.size b w (w.setRow b C):=ButN.refl.row (.inl rfl)
 have b2:But2 p b w (w.setRow b C):=fun B h1 h2 h3=>hb2.to h3 h2
 refine ⟨h.rd.other hb2 (Nat.le_refl _) h.pos.2.2 (Nat.le_refl _),?_,b2.forms h.fm h.pos.1 h.pos.2.1,h.but.trans b2,h.pos⟩
 subst e
 show (w.heap.modify b fun o=>match o with | .cells _ t f=>.cells r'.cells t f | o=>o)[b]?=_
 simp only [Array.getElem?_modify,if_true,h.row,Option.map_some]
end
theorem r_set42 (r:Rc) (v:Int):r.cells.setIfInBounds 42 (.int .i64 v)=Rc.cells { r with d:={ r.d with q:=v } }:=by
 obtain ⟨k,i,⟨di,dr,p,g,h,q⟩,s,mv,st,t⟩:=r
 obtain ⟨f,rfl⟩:=h.form
 rfl
theorem over_rp (r:Rc) (l:Lg):over r.cells 4 l.cells.toList=Rc.cells { r with d:={ r.d with p:=l } }:=rfl
theorem over_rg (r:Rc) (l:Lg):over r.cells 7 l.cells.toList=Rc.cells { r with d:={ r.d with g:=l } }:=rfl
theorem over_rh (r:Rc) (x:Hs):over r.cells 10 x.cells.toList=Rc.cells { r with d:={ r.d with h:=x } }:=by
 obtain ⟨k,i,⟨di,dr,p,g,h,q⟩,s,mv,st,t⟩:=r
 obtain ⟨f,rfl⟩:=h.form
 obtain ⟨f',rfl⟩:=x.form
 kernel_rfl
theorem over_rs (r:Rc) (x:Hs):over r.cells 43 x.cells.toList=Rc.cells { r with s:=x }:=by
 obtain ⟨k,i,⟨di,dr,p,g,h,q⟩,s,mv,st,t⟩:=r
 obtain ⟨f,rfl⟩:=h.form
 obtain ⟨f',rfl⟩:=s.form
 obtain ⟨f2,rfl⟩:=x.form
 kernel_rfl
set_option maxHeartbeats 1000000 in
theorem RLeg_put {w:World} {B p:Nat} {l:Lg} {r:List Nat} (hf:Forms w) (hp:0 < p) (hl:LgIn l) (hs:Rs (legI l ++ r,0)) (hr:RdB B w p (legI l ++ r,0)) (hB:B ≤ w.heap.size):
  Calls Tryz.prog 179 #[.pointer (some ⟨p,0,none⟩)] w fun e w'=>e=.returned (.agg l.cells)∧But p w w'∧RdB B w' p (r,0):=by
 obtain ⟨h1,h2,h3⟩:=hl
 have e:legI l ++ r=intI l.w ++ (intI l.a ++ (intI l.u ++ r)):=by unfold legI;simp [List.append_assoc]
 rw [e] at hs hr
 have HS:=Lib.hid hs
 have HR:=Lib.hid hr
 have HF:=Lib.hid hf
 have HL:=Lib.hid (And.intro h1 (And.intro h2 h3))
 have hpl:=hr.rd.lt
 have PL:=Lib.hid hpl
 clear e hs hr hf h1 h2 h3 hpl
 go_enter Tryz.func179,Tryz.ntmps179
 go_upto_region 1 with (fail)
 have b0:=below1 w (.cells Lg.zero.cells 26)
 have x0:(w.alloc (.cells Lg.zero.cells 26)).heap[w.heap.size]?=some (.cells Lg.zero.cells 26):=heap_alloc_new w _
 generalize w.alloc (.cells Lg.zero.cells 26)=W at b0 x0 ⊢
 have pn:p ≠ w.heap.size:=Nat.ne_of_lt PL.out
 have K1:=Lib.hid (RInt_put (HF.out.keep (Nat.le_refl _) b0) (by omega) HL.out.1.1 (by have:=HL.out.1;omega) HS.out (HR.out.keep (Nat.le_refl _) b0))
 have X0:=Lib.hid x0
 have B0:=Lib.hid b0
 clear x0 b0
 go_wp2_with fail
 refine K1.out.mono ?_
 rintro _ W1 ⟨rfl,hb1,hr1⟩
 have lw:w.heap.size < W.heap.size:=(Array.getElem?_eq_some_iff.1 X0.out).1
 have x1:=(hb1.block w.heap.size lw (Ne.symm pn)).trans X0.out
 have r1:=rowOf_of x1
 have s1:=soft_of x1
 have hw1:But p w W1:=ButN.trans (ButN.below B0.out) (hb1.mono B0.out.size)
 have A1:=Lib.hid (And.intro hw1 (And.intro hr1 x1))
 clear K1 hb1 hr1 hw1 x1 X0 B0 lw
 go_upto_region 2 with (fail)
 have h1w:But p w (W1.setCell ⟨w.heap.size,0,none⟩ (.int .i64 l.w)):=A1.out.1.setNew (Nat.le_refl _)
 have hr1:RdB B (W1.setCell ⟨w.heap.size,0,none⟩ (.int .i64 l.w)) p (intI l.a ++ (intI l.u ++ r),0):=A1.out.2.1.other (ButN.refl.set 0 _) (Nat.le_refl _) pn hB
 have x1:(W1.setCell ⟨w.heap.size,0,none⟩ (.int .i64 l.w)).heap[w.heap.size]?=some (.cells (Lg.cells ⟨l.w,0,0⟩) 26):=by rw [heap_setCell_at,if_pos rfl,A1.out.2.2];rfl
 generalize W1.setCell ⟨w.heap.size,0,none⟩ (.int .i64 l.w)=V1 at h1w hr1 x1 ⊢
 have K2:=Lib.hid (RInt_put (h1w.forms HF.out (Nat.le_refl _) (by omega)) (by omega) (by have:=HL.out.2.1;omega) (by have:=HL.out.2.1;omega) HS.out.tail hr1)
 have A2:=Lib.hid (And.intro h1w x1)
 clear A1 h1w hr1 x1 r1 s1
 go_wp2_with fail
 refine K2.out.mono ?_
 rintro _ W2 ⟨rfl,hb1,hr1⟩
 have x1:=(hb1.block w.heap.size (Array.getElem?_eq_some_iff.1 A2.out.2).1 (Ne.symm pn)).trans A2.out.2
 have r1:=rowOf_of x1
 have s1:=soft_of x1
 have A1:=Lib.hid (And.intro (But.trans A2.out.1 hb1) (And.intro hr1 x1))
 clear K2 hb1 hr1 x1 A2
 go_upto_region 3 with (fail)
 have h1w:But p w (W2.setCell ⟨w.heap.size,1,none⟩ (.int .i64 l.a)):=A1.out.1.setNew (Nat.le_refl _)
 have hr1:RdB B (W2.setCell ⟨w.heap.size,1,none⟩ (.int .i64 l.a)) p (intI l.u ++ r,0):=A1.out.2.1.other (ButN.refl.set 1 _) (Nat.le_refl _) pn hB
 have x1:(W2.setCell ⟨w.heap.size,1,none⟩ (.int .i64 l.a)).heap[w.heap.size]?=some (.cells (Lg.cells ⟨l.w,l.a,0⟩) 26):=by rw [heap_setCell_at,if_pos rfl,A1.out.2.2];rfl
 generalize W2.setCell ⟨w.heap.size,1,none⟩ (.int .i64 l.a)=V2 at h1w hr1 x1 ⊢
 have K3:=Lib.hid (RInt_put (h1w.forms HF.out (Nat.le_refl _) (by omega)) (by omega) HL.out.2.2.1 (by have:=HL.out.2.2;omega) HS.out.tail.tail hr1)
 have A2:=Lib.hid (And.intro h1w x1)
 clear A1 h1w hr1 x1 r1 s1
 go_wp2_with fail
 refine K3.out.mono ?_
 rintro _ W3 ⟨rfl,hb1,hr1⟩
 have x1:=(hb1.block w.heap.size (Array.getElem?_eq_some_iff.1 A2.out.2).1 (Ne.symm pn)).trans A2.out.2
 have r1:=rowOf_of x1
 have s1:=soft_of x1
 have A1:=Lib.hid (And.intro (But.trans A2.out.1 hb1) (And.intro hr1 x1))
 clear K3 hb1 hr1 x1 A2
 go_upto_region 4 with (fail)
 have h1w:But p w (W3.setCell ⟨w.heap.size,2,none⟩ (.int .i64 l.u)):=A1.out.1.setNew (Nat.le_refl _)
 have hr1:RdB B (W3.setCell ⟨w.heap.size,2,none⟩ (.int .i64 l.u)) p (r,0):=A1.out.2.1.other (ButN.refl.set 2 _) (Nat.le_refl _) pn hB
 have x1:(W3.setCell ⟨w.heap.size,2,none⟩ (.int .i64 l.u)).heap[w.heap.size]?=some (.cells l.cells 26):=by rw [heap_setCell_at,if_pos rfl,A1.out.2.2];rfl
 generalize W3.setCell ⟨w.heap.size,2,none⟩ (.int .i64 l.u)=V3 at h1w hr1 x1 ⊢
 have r2:=rowOf_of x1
 have s2:=soft_of x1
 have l1:=l_whole l
 have ov:=over_l l l
 have A2:=Lib.hid (And.intro h1w (And.intro hr1 x1))
 clear A1 h1w hr1 x1 r1 s1
 go_wp2
 have hself:ButN V3.heap.size w.heap.size V3 (V3.setRow w.heap.size l.cells):=ButN.refl.row (.inl rfl)
 have hc:rowOf (V3.setRow w.heap.size l.cells) w.heap.size=l.cells:=by rw [rowOf_setRow _ _ _ _ (soft_of A2.out.2.2),if_pos rfl]
 refine bodyPost_ret (results_row (t:=26) rfl Tryz.underlying26 rfl (by kernel_rfl) _ _ w.heap.size rfl hc rfl) rfl ?_
 exact ⟨rfl,ButN.row A2.out.1 (.inr (Nat.le_refl _)),A2.out.2.1.other hself (Nat.le_refl _) pn hB⟩
end Go.Proofs.YtjkfondgacjpnaaGreatDoor
