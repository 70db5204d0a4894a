/- What is proved: parts of the walk and of the plain law. No condition but those each law names. -/
import Derived.Test.YthjgiamfaijoeaaGreatDoorD02
import Derived.Test.YthjgiamfaijoeaaGreatDoorD01
import Derived.Lib.Hide
import Derived.StillTailTactics
import Derived.Test.YthjgiamfaijoeaaGreatDoorD00
set_option linter.unusedSimpArgs false
set_option linter.unusedVariables false
set_option maxRecDepth 100000
namespace Go.Proofs.YthjgiamfaijoeaaGreatDoor
open Go.RowKit
namespace Sx
structure Ab where
 last:Int→Option (List Nat)
 loose:Int→Option (List Nat)
 off:Bool
 left:Int
 done:Int
def ints (l:List Nat):List Int:=l.map Int.ofNat
theorem zfh (l:List Nat):(ints l).length=l.length:=List.length_map ..
theorem zo2 (l:List Nat):u8s (ints l)=bts l:=by unfold ints bts u8s;rw [List.map_map];rfl
def z128:List Nat:=List.replicate 128 0
theorem cell_block {w w':World} {i:Nat} (e:w'.heap[i]?=w.heap[i]?) (x:Nat):w'.cell? ⟨i,x,none⟩=w.cell? ⟨i,x,none⟩∧w'.frozen? ⟨i,x,none⟩=w.frozen? ⟨i,x,none⟩:=by
 unfold World.cell? World.frozen?
 simp [e]
structure Turns (F:Foot) (w w':World):Prop where
 os:w'.os=w.os
 tape:w'.tape=w.tape
 output:w'.output=w.output
 size:w.heap.size ≤ w'.heap.size
 block:∀ k,k < w.heap.size→(∀ x,¬ F k x)→w'.heap[k]?=w.heap[k]?
theorem Turns.refl (F:Foot) (w:World):Turns F w w:=⟨rfl,rfl,rfl,zadw _,fun _ _ _=>rfl⟩
def Ab.str (A:Ab):Bool:=!decide (A.left < 0) && decide (A.left - 1 < 0)
def Ab.strA (A:Ab):Ab:=if A.left < 0 then A else { A with left:=A.left - 1,off:=decide (A.left - 1 < 0) }
def Ab.arm (A:Ab) (n:Int):Ab:={ A with left:=intMax n (-1) }
def padN (l:List Nat):List Nat:=l ++ List.replicate (128 - l.length) 0
def Ab.put (A:Ab) (i:Int) (l:List Nat):Ab:={ A with loose:=fun k=>if k=i then some (padN l) else A.loose k,done:=inc A.done }
def Ab.wr (A:Ab) (i:Int) (l:List Nat):Ab:=if A.off then A else (A.put i l).strA
def Ab.wrE (A:Ab) (i:Int) (l:List Nat):Int:=if A.off then 9 else if (A.put i l).str then 9 else 0
def Ab.syLast (A:Ab) (k:Int):Option (List Nat):=match A.loose k with
 | some l=>some l
 | none=>A.last k
def Ab.sy (A:Ab):Ab:=⟨A.syLast,fun _=>none,A.off,A.left,inc A.done⟩
def Ab.syc (A:Ab):Ab:=if A.off then A else if A.str then A.strA else A.strA.sy
def Ab.sycE (A:Ab):Int:=if A.off then 9 else if A.str then 9 else 0
def Ab.see (A:Ab) (i:Int):Option (List Nat):=match A.loose i with
 | some l=>some l
 | none=>A.last i
def ab0:Ab:=⟨fun _=>some z128,fun _=>none,false,-1,0⟩
structure zbf (A:Ab) (keep:List Int) (A':Ab):Prop where
 last:∀ k,A'.last k=A.last k ∨ ∃ l,A.loose k=some l∧(A'.last k=some l ∨ A'.last k=none)
 old:keep=[]→A'.last=A.last
 loose:∀ k,A'.loose k=none
 off:A'.off=false
 left:A'.left=-1
 done:A'.done=A.done
def ptV:Option Nat→Value
 | some b=>.pointer (some ⟨b,0,none⟩)
 | none=>.pointer none
def Ab.cells (A:Ab) (r1 r2:Nat):Array Value:=#[.map (some r1),.map (some r2),.bool A.off,.int .i64 A.left,.int .i64 A.done]
structure DiskAt (w:World) (A:Ab) (bd r1 r2:Nat) (bl:Int→Option (Option Nat)):Prop where
 ob:w.heap[bd]?=some (.cells (A.cells r1 r2) 135)
 m1:∃ es c l,w.heap[r1]?=some (.map es c)∧MapIs (prs es) l∧MapKept.Stamped es c∧(∀ p ∈ l,IntK p.1)∧∀ k,getL l (.int .i64 k)=(bl k).map ptV
 m2:∃ es c lo,w.heap[r2]?=some (.map es c)∧MapIs (prs es) (encA loC lo)∧MapKept.Stamped es c∧∀ k,getA lo k=(A.loose k).map ints
 sec:∀ k b,bl k=some (some b)→b ≠ bd∧∃ l,A.last k=some l∧l.length=128∧SecAt w b (ints l)
 torn:∀ k,bl k=some none→A.last k=none
 bare:∀ k,bl k=none→A.last k=some z128
 lo:∀ k l,A.loose k=some l→l.length=128∧0 ≤ k∧k < 512
 ne:r1 ≠ r2
 inj:∀ k k' b,bl k=some (some b)→bl k'=some (some b)→k=k'
 rng:-1 ≤ A.left∧A.left < 9223372036854775808
def FootD (bd r1 r2:Nat) (bl:Int→Option (Option Nat)):Foot:=fun b _=>b=bd ∨ b=r1 ∨ b=r2 ∨ ∃ k,bl k=some (some b)
def DW (w:World) (F:Foot) (dv:Value) (A:Ab):Prop:=∃ bd r1 r2 bl,DiskAt w A bd r1 r2 bl∧dv=.pointer (some ⟨bd,0,none⟩)∧∀ b x,F b x ↔ FootD bd r1 r2 bl b x
theorem secat_lt {w:World} {b:Nat} {l:List Nat} (h:SecAt w b (ints l)) (hl:l.length=128):b < w.heap.size:=by
 obtain ⟨x,hx⟩:∃ x,(ints l)[0]?=some x:=⟨_,zady (by rw [zfh];omega)⟩
 exact World.block_lt_of_cell? w ⟨b,0,none⟩ (h 0 x hx).1
theorem zfi {w:World} {b:Nat} {l:List Nat} (h:SecAt w b (ints l)) (hl:l.length=128) {es:Array MapEntry} {c:Nat} (hm:w.heap[b]?=some (.map es c)):False:=by
 obtain ⟨x,hx⟩:∃ x,(ints l)[0]?=some x:=⟨_,zady (by rw [zfh];omega)⟩
 exact zc7 (h 0 x hx).1 hm
theorem DiskAt.size {w:World} {A:Ab} {bd r1 r2:Nat} {bl:Int→Option (Option Nat)} (h:DiskAt w A bd r1 r2 bl) {b x:Nat} (hf:FootD bd r1 r2 bl b x):b < w.heap.size:=by
 rcases hf with rfl | rfl | rfl | ⟨k,hk⟩
 ·exact (zadu h.ob).1
 ·obtain ⟨es,c,l,e,_⟩:=h.m1
  exact (zadu e).1
 ·obtain ⟨es,c,l,e,_⟩:=h.m2
  exact (zadu e).1
 ·obtain ⟨_,l,_,hl,hs⟩:=h.sec k b hk
  exact secat_lt hs hl
theorem DiskAt.nmap {w:World} {A:Ab} {bd r1 r2:Nat} {bl:Int→Option (Option Nat)} (h:DiskAt w A bd r1 r2 bl):bd ≠ r1∧bd ≠ r2∧∀ k b,bl k=some (some b)→b ≠ r1∧b ≠ r2:=by
 obtain ⟨es,c,l,e,_⟩:=h.m1
 obtain ⟨es2,c2,l2,e2,_⟩:=h.m2
 refine ⟨fun q=>?_,fun q=>?_,fun k b hk=>⟨fun q=>?_,fun q=>?_⟩⟩
 ·have:=h.ob;rw [q,e] at this;cases this
 ·have:=h.ob;rw [q,e2] at this;cases this
 ·obtain ⟨_,l,_,hl,hs⟩:=h.sec k b hk
  subst q
  exact zfi hs hl e
 ·obtain ⟨_,l,_,hl,hs⟩:=h.sec k b hk
  subst q
  exact zfi hs hl e2
theorem secat_heap {w w':World} {b:Nat} {bs:List Int} (h:SecAt w b bs) (e:w'.heap[b]?=w.heap[b]?):SecAt w' b bs:=fun j x hj=>by
 obtain ⟨h1,h2⟩:=h j x hj
 exact ⟨(cell_block e j).1.trans h1,(cell_block e j).2.trans h2⟩
theorem DiskAt.keepB {w w':World} {A:Ab} {bd r1 r2:Nat} {bl:Int→Option (Option Nat)} (h:DiskAt w A bd r1 r2 bl) (hk:∀ b x,FootD bd r1 r2 bl b x→w'.heap[b]?=w.heap[b]?):DiskAt w' A bd r1 r2 bl:=by
 refine ⟨(hk bd 0 (.inl rfl)).trans h.ob,?_,?_,fun k b hb=>?_,h.torn,h.bare,h.lo,h.ne,h.inj,h.rng⟩
 ·obtain ⟨es,c,l,e,r⟩:=h.m1
  exact ⟨es,c,l,(hk r1 0 (.inr (.inl rfl))).trans e,r⟩
 ·obtain ⟨es,c,l,e,r⟩:=h.m2
  exact ⟨es,c,l,(hk r2 0 (.inr (.inr (.inl rfl)))).trans e,r⟩
 ·obtain ⟨h1,l,h2,h3,h4⟩:=h.sec k b hb
  exact ⟨h1,l,h2,h3,secat_heap h4 (hk b 0 (.inr (.inr (.inr ⟨k,hb⟩))))⟩
theorem DW.keepB {w w':World} {F:Foot} {dv:Value} {A:Ab} (H:DW w F dv A) (hk:∀ i,(∃ x,F i x)→w'.heap[i]?=w.heap[i]?):DW w' F dv A:=by
 obtain ⟨bd,r1,r2,bl,h,e,hf⟩:=H
 exact ⟨bd,r1,r2,bl,h.keepB fun b x hb=>hk b ⟨x,(hf b x).2 hb⟩,e,hf⟩
theorem DW.lt {w:World} {F:Foot} {dv:Value} {A:Ab} (H:DW w F dv A) {b x:Nat} (hf:F b x):b < w.heap.size:=by
 obtain ⟨bd,r1,r2,bl,h,e,hF⟩:=H
 exact h.size ((hF b x).1 hf)
theorem DW.keep {w w':World} {F S:Foot} {dv:Value} {A:Ab} (H:DW w F dv A) (hS:Fr S w w') (hd:∀ b x,F b x→¬ S b x):DW w' F dv A:=by
 refine H.keepB fun i ⟨x,hx⟩=>hS.block i (H.lt hx) fun o ho=>?_
 obtain ⟨bd,r1,r2,bl,h,e,hF⟩:=H
 exact hd i o ((hF i o).2 ((hF i x).1 hx)) ho
theorem DW.below {w w':World} {F:Foot} {dv:Value} {A:Ab} (H:DW w F dv A) (hw:Below w.heap.size w w'):DW w' F dv A:=H.keepB fun i ⟨_,hx⟩=>hw.block i (H.lt hx)
def Did (F:Foot) (w:World) (dv:Value) (A':Ab) (v:Value):Ending→World→Prop:=fun en w'=>en=.returned v∧∃ F',DW w' F' dv A'∧Turns F w w'∧∀ b x,F' b x→F b x ∨ w.heap.size ≤ b
theorem DiskAt.turn {w w':World} {A A':Ab} {bd r1 r2:Nat} {bl:Int→Option (Option Nat)} (h:DiskAt w A bd r1 r2 bl) (h1:A'.last=A.last) (h2:A'.loose=A.loose) (h3:-1 ≤ A'.left∧A'.left < 9223372036854775808)
  (hob:w'.heap[bd]?=some (.cells (A'.cells r1 r2) 135)) (hk:∀ i,i ≠ bd→w'.heap[i]?=w.heap[i]?):DiskAt w' A' bd r1 r2 bl:=by
 obtain ⟨n1,n2,n3⟩:=h.nmap
 refine ⟨hob,?_,?_,fun k b hb=>?_,fun k hb=>by rw [h1];exact h.torn k hb,fun k hb=>by rw [h1];exact h.bare k hb,fun k l hb=>h.lo k l (by rw [← h2];exact hb),h.ne,h.inj,h3⟩
 ·obtain ⟨es,c,l,e,r⟩:=h.m1
  exact ⟨es,c,l,(hk r1 (Ne.symm n1)).trans e,r⟩
 ·obtain ⟨es,c,l,e,r,s,t⟩:=h.m2
  exact ⟨es,c,l,(hk r2 (Ne.symm n2)).trans e,r,s,by rw [h2];exact t⟩
 ·obtain ⟨q1,l,q2,q3,q4⟩:=h.sec k b hb
  exact ⟨q1,l,by rw [h1];exact q2,q3,secat_heap q4 (hk b q1)⟩
theorem turns_set {F:Foot} {w:World} {bd k:Nat} {v:Value} (h:∃ x,F bd x):Turns F w (w.setCell ⟨bd,k,none⟩ v):=
 ⟨rfl,rfl,rfl,by simp [World.setCell],fun i hi hF=>Below.heap_setCell _ _ _ _ (by show i ≠ bd;rintro rfl;obtain ⟨x,hx⟩:=h;exact hF x hx)⟩
theorem disk_cell {w:World} {A:Ab} {bd r1 r2:Nat} {bl:Int→Option (Option Nat)} (h:DiskAt w A bd r1 r2 bl) (k:Nat):w.cell? ⟨bd,k,none⟩=(A.cells r1 r2)[k]?∧w.frozen? ⟨bd,k,none⟩=false:=by
 unfold World.cell? World.frozen?
 rw [h.ob]
 exact ⟨rfl,by simp⟩
theorem set_ob {w:World} {bd k:Nat} {v:Value} {cs:Array Value} {t:TypeId} (h:w.heap[bd]?=some (.cells cs t)):(w.setCell ⟨bd,k,none⟩ v).heap[bd]?=some (.cells (cs.setIfInBounds k v) t):=by
 rw [zag,if_pos rfl,h]
 rfl
theorem set_ne {w:World} {bd k:Nat} {v:Value}:∀ i,i ≠ bd→(w.setCell ⟨bd,k,none⟩ v).heap[i]?=w.heap[i]?:=fun i hi=>Below.heap_setCell _ _ _ _ (by show i ≠ bd;exact hi)
theorem down_w {w:World} {F:Foot} {dv:Value} {A:Ab} (H:DW w F dv A):Calls Tryz.prog 175 #[dv] w (Did F w dv A (.bool A.off)):=by
 obtain ⟨bd,r1,r2,bl,h,rfl,hF⟩:=H
 have HH:=zadv h
 have c2:w.cell? ⟨bd,2,none⟩=some (.bool A.off):=(disk_cell h 2).1
 clear h
 go_enter Tryz.func175,Tryz.ntmps175
 go_wp2
 go_ret
 exact ⟨rfl,F,⟨bd,r1,r2,bl,HH.out,rfl,hF⟩,Turns.refl F w,fun _ _ h=>.inl h⟩
theorem zo3 {w:World} {A:Ab} {bd r1 r2:Nat} {bl:Int→Option (Option Nat)} (h:DiskAt w A bd r1 r2 bl) (hon:A.off=false):Calls Tryz.prog 253 #[.pointer (some ⟨bd,0,none⟩)] w fun e w'=>e=.returned (.bool A.str)∧DiskAt w' A.strA bd r1 r2 bl∧w'.os=w.os∧w'.tape=w.tape∧w'.output=w.output∧w'.heap.size=w.heap.size∧∀ i,i ≠ bd→w'.heap[i]?=w.heap[i]?:=by
 have HH:=zadv h
 have hr:=h.rng
 have c3:w.cell? ⟨bd,3,none⟩=some (.int .i64 A.left):=(disk_cell h 3).1
 have f3:=(disk_cell h 3).2
 have c2:w.cell? ⟨bd,2,none⟩=some (.bool A.off):=(disk_cell h 2).1
 have f2:=(disk_cell h 2).2
 clear h
 by_cases hl:A.left < 0
 ·have e1:A.str=false:=by unfold Ab.str;simp [hl]
  have e2:A.strA=A:=by unfold Ab.strA;rw [if_pos hl]
  rw [e1,e2]
  clear e1 e2
  go_enter Tryz.func253,Tryz.ntmps253
  go_wp2
  go_ret
  exact ⟨rfl,HH.out,rfl,rfl,rfl,rfl,fun _ _=>rfl⟩
 ·have e1:A.str=decide (A.left - 1 < 0):=by unfold Ab.str;simp [hl]
  have e2:A.strA={ A with left:=A.left - 1,off:=decide (A.left - 1 < 0) }:=by unfold Ab.strA;rw [if_neg hl]
  have hw1:wrap64 (A.left - 1)=A.left - 1:=IntWalk.wrap64_in _ (by omega)
  rw [e1,e2]
  clear e1 e2
  go_enter Tryz.func253,Tryz.ntmps253
  go_wp2
  go_ret
  refine ⟨rfl,HH.out.turn rfl rfl ⟨by show -1 ≤ A.left - 1;omega,by show A.left - 1 < _;omega⟩ ?_ (fun i hi=>(set_ne i hi).trans (set_ne i hi)),rfl,rfl,rfl,by simp [World.setCell],fun i hi=>(set_ne i hi).trans (set_ne i hi)⟩
  rw [set_ob (set_ob HH.out.ob)]
  rfl
theorem zsr (w:World) {i:Int} (hi:0 ≤ i∧i < 512):Calls Tryz.prog 316 #[.int .i64 i] w (Ret (.bool true) w):=by
 obtain ⟨h0,h1⟩:=hi
 go_enter Tryz.func316,Tryz.ntmps316
 go_wp2
 go_ret
 exact Ret.mk_of (Below.refl _ _) rfl
theorem put_lo {w w':World} {A:Ab} {bd r1 r2:Nat} {bl:Int→Option (Option Nat)} (h:DiskAt w A bd r1 r2 bl) {i:Int} (hi:0 ≤ i∧i < 512) {l:List Nat} (hl:l.length ≤ 128)
  (hm:∃ es c lo,w'.heap[r2]?=some (.map es c)∧MapIs (prs es) (encA loC (putA lo i (ints (padN l))))∧MapKept.Stamped es c∧∀ k,getA lo k=(A.loose k).map ints)
  (hob:w'.heap[bd]?=some (.cells ((A.put i l).cells r1 r2) 135)) (hk:∀ b,b < w.heap.size→b ≠ bd→b ≠ r2→w'.heap[b]?=w.heap[b]?):DiskAt w' (A.put i l) bd r1 r2 bl:=by
 obtain ⟨n1,n2,n3⟩:=h.nmap
 refine ⟨hob,?_,?_,fun k b hb=>?_,h.torn,h.bare,fun k q hq=>?_,h.ne,h.inj,h.rng⟩
 ·obtain ⟨es,c,q,e,r⟩:=h.m1
  exact ⟨es,c,q,(hk r1 (zadu e).1 (Ne.symm n1) h.ne).trans e,r⟩
 ·obtain ⟨es,c,lo,e1,e2,e3,e4⟩:=hm
  refine ⟨es,c,_,e1,e2,e3,fun k=>?_⟩
  rw [za7]
  show _=(if k=i then some (padN l) else A.loose k).map ints
  by_cases hki:k=i
  ·rw [if_pos hki,if_pos hki];rfl
  ·rw [if_neg hki,if_neg hki];exact e4 k
 ·obtain ⟨q1,q,q2,q3,q4⟩:=h.sec k b hb
  exact ⟨q1,q,q2,q3,secat_heap q4 (hk b (secat_lt q4 q3) q1 (n3 k b hb).2)⟩
 ·have hq:(if k=i then some (padN l) else A.loose k)=some q:=hq
  split at hq
  ·cases hq
   rename_i e
   subst e
   exact ⟨by unfold padN;rw [List.length_append,List.length_replicate];omega,hi⟩
  ·exact h.lo k q hq
theorem z74:Tryz.zeroCells185.toList=bts (List.replicate 128 0):=by kernel_rfl
theorem zqy (w:World) (cs cs':Array Value) (t:TypeId) (fr:Nat × Nat):(w.alloc (.cells cs t fr)).setRow w.heap.size cs'=w.alloc (.cells cs' t fr):=by
 have h:((w.heap.push (.cells cs t fr)).modify w.heap.size fun | .cells _ e f=>.cells cs' e f | o=>o)=w.heap.push (.cells cs' t fr):=by
  apply Array.ext_getElem?
  intro j
  rw [Array.getElem?_modify,Array.getElem?_push,Array.getElem?_push]
  by_cases hj:w.heap.size=j
  ·subst hj;simp
  ·rw [if_neg hj,if_neg (Ne.symm hj),if_neg (Ne.symm hj)]
 exact congrArg (fun hp=>(World.mk hp w.tape w.drawn w.os w.output)) h
theorem zwv (w:World) {ao:Option Addr} {n c:Nat} {l:List Nat} (hsl:Go.Proofs.YthjgiamfaijoeaaGreatDoor.Sl w ao n c (bts l)) (hl:n ≤ 128):
  (Builtin.copy_ #[37,37] 3 #[.slice (some ⟨w.heap.size,0,none⟩) 128 128,.slice ao n c]).run Tryz.prog (w.alloc (.cells Tryz.zeroCells185 185))=.ok (.int .i64 n) (w.alloc (.cells (bts (padN l)).toArray 185)):=by
 have hln:l.length=n:=by rw [← hsl.len,zam]
 have hS:=hsl.keep (zadw _) ((Below.refl _ w).alloc (zadw _) (.cells Tryz.zeroCells185 185))
 have hi5:(Tryz.prog.info? 5).map (·.size)=some 1:=by kernel_rfl
 have hz74:Tryz.zeroCells185.size=128:=by kernel_rfl
 cases ao with
 | none=>
  obtain rfl:c=0:=hsl.nil rfl
  obtain rfl:n=0:=by have:=hsl.le;omega
  obtain rfl:l=[]:=List.eq_nil_of_length_eq_zero hln
  rw [run_copy_nil Tryz.prog _ 37 37 3 5 _ 128 128 Tryz.underlying37 (by rw [hi5];rfl)]
  have:(bts (padN [])).toArray=Tryz.zeroCells185:=by kernel_rfl
  rw [this]
  rfl
 | some a=>
  have hcell:∀ j v,(bts l)[j]?=some v→(w.alloc (.cells Tryz.zeroCells185 185)).cell? (a.add j)=some v:=fun j v hj=>by
   obtain ⟨b,o,e,_,hc⟩:=hS.at (by have:=(List.getElem?_eq_some_iff.1 hj).1;rw [zam] at this;omega)
   cases e
   rw [zas]
   exact hc j v hj
  rw [run_copy_row Tryz.prog _ 37 37 3 5 w.heap.size 0 128 128 a n c Tryz.zeroCells185 185 (bts l) Tryz.underlying37 hi5 (heap_alloc_new w _) (by rw [zam,hln];exact (Nat.min_eq_left hl).symm) hcell (by rw [zam,hln,hz74];omega) (zct l)]
  rw [zqy,zam,hln,z74]
  have e:List.take 0 (bts (List.replicate 128 0)) ++ bts l ++ List.drop (0 + n) (bts (List.replicate 128 0))=bts (padN l):=by
   unfold padN
   rw [List.take_zero,List.nil_append,zbq,Nat.zero_add,hln]
   congr 1
   unfold bts
   rw [← List.map_drop,List.drop_replicate]
  rw [e]
  rfl
set_option maxHeartbeats 2000000 in
theorem write_w {w:World} {F:Foot} {dv:Value} {A:Ab} (H:DW w F dv A) {i:Int} (hi:0 ≤ i∧i < 512) {ao:Option Addr} {n c:Nat} {l:List Nat} (hsl:Go.Proofs.YthjgiamfaijoeaaGreatDoor.Sl w ao n c (bts l)) (hl:n ≤ 128) (hap:∀ b o j,ao=some ⟨b,o,none⟩→j < n→¬ F b (o + j)):
  Calls Tryz.prog 251 #[dv,.int .i64 i,.slice ao n c] w (Did F w dv (A.wr i l) (.int .i64 (A.wrE i l))):=by
 obtain ⟨bd,r1,r2,bl,h,rfl,hF⟩:=H
 have hln:l.length=n:=by rw [← hsl.len,zam]
 have HH:=zadv h
 have c2:w.cell? ⟨bd,2,none⟩=some (.bool A.off):=(disk_cell h 2).1
 clear h hap
 cases hoff:A.off with
 | true=>
  have e1:A.wr i l=A:=by unfold Ab.wr;rw [hoff];rfl
  have e2:A.wrE i l=9:=by unfold Ab.wrE;rw [hoff];rfl
  rw [e1,e2]
  rw [hoff] at c2
  clear e1 e2 hoff
  go_enter Tryz.func251,Tryz.ntmps251
  go_wp2
  go_ret
  exact ⟨rfl,F,⟨bd,r1,r2,bl,HH.out,rfl,hF⟩,Turns.refl F w,fun _ _ h=>.inl h⟩
 | false=>
  have e1:A.wr i l=(A.put i l).strA:=by unfold Ab.wr;rw [hoff];rfl
  have e2:A.wrE i l=if (A.put i l).str then 9 else 0:=by unfold Ab.wrE;rw [hoff];rfl
  rw [e1]
  rw [hoff] at c2
  generalize hE:A.wrE i l=E at *
  have HE:=zadv (e2.symm.trans rfl)
  clear hE
  have hl2:¬ (128:Int) < n:=by omega
  have TH:=zadv (zsr w hi)
  clear e1 e2
  go_enter Tryz.func251,Tryz.ntmps251
  go_wp2_with fail
  refine TH.out.mono ?_
  rintro _ _ ⟨rfl,g,rfl⟩
  have S1:=hsl.ext g
  have D1:=zadv (HH.out.keepB (w':=g.val) fun b x hb=>g.below.block b (HH.out.size hb))
  have B1:=zadv g.below
  generalize g.val=w1 at *
  clear TH hsl
  have hcp:=zwv w1 S1 hl
  clear S1
  go_wp2_with fail
  obtain ⟨W,hW⟩:∃ W,W=w1.alloc (.cells (bts (padN l)).toArray 185):=⟨_,rfl⟩
  have hb2:=(Below.refl w1.heap.size w1).alloc (zadw _) (.cells (bts (padN l)).toArray 185)
  have D2:=zadv (D1.out.keepB (w':=W) fun b x hb=>by rw [hW];exact hb2.block b (D1.out.size hb))
  have hrow:W.heap[w1.heap.size]?=some (.cells (bts (padN l)).toArray 185):=by rw [hW];exact heap_alloc_new w1 _
  obtain ⟨V,hV⟩:∃ V:World,V={ heap:=W.heap,tape:=W.tape,drawn:=W.drawn + 1,os:=W.os,output:=W.output }:=⟨_,rfl⟩
  have hVh:V.heap=W.heap:=by rw [hV]
  have D3:=zadv (D2.out.keepB (w':=V) fun b x _=>by rw [hVh])
  have c1:V.cell? ⟨bd,1,none⟩=some (.map (some r2)):=(disk_cell D3.out 1).1
  have hrowV:rowOf V w1.heap.size=(bts (padN l)).toArray:=by unfold rowOf;rw [hVh,hrow]
  have hpl:(bts (padN l)).toArray.size=128:=by rw [List.size_toArray,zam];unfold padN;rw [List.length_append,List.length_replicate];omega
  have hld:(Instr.loadAt 185 (.pointer (some ⟨w1.heap.size,0,none⟩))).run Tryz.prog V=.ok (.agg (bts (padN l)).toArray) V:=by
   have:=zjw (P:=Tryz.prog) 185 128 Tryz.underlying185 rfl (by kernel_rfl) V (.pointer (some ⟨w1.heap.size,0,none⟩)) rfl (by
    show 0 + 128 ≤ (rowOf V w1.heap.size).size
    rw [hrowV,hpl]
    exact zadw _)
   rw [this]
   show Result.ok (Value.agg (sub (rowOf V w1.heap.size) 0 128)) V=_
   rw [hrowV]
   unfold sub
   rw [Nat.zero_add,← hpl,Array.extract_size]
  have c1W:W.cell? ⟨bd,1,none⟩=some (.map (some r2)):=(disk_cell D2.out 1).1
  obtain ⟨es,cl,lo,m1,m2,m3,m4⟩:=D3.out.m2
  obtain ⟨es',cl',hup,m5,m6⟩:=zb4 (P:=Tryz.prog) (t:=133) Tryz.underlying133 (keyInt Tryz.underlying3) m1 m2 m3 (k:=.int .i64 i) (v:=.agg (bts (padN l)).toArray) ⟨i,rfl⟩ (zbm m2 (zcc loC lo))
  have hlo:(.agg (bts (padN l)).toArray:Value)=loC (ints (padN l)):=by unfold loC;rw [zo2]
  rw [hlo,zj0] at m5
  have M4:=zadv m4
  have M5:=zadv m5
  have M6:=zadv m6
  have hr2:r2 < V.heap.size:=(zadu m1).1
  clear m1 m2 m3 m4 m5 m6 hlo
  have HB2:=zadv (show Below w1.heap.size w1 W by rw [hW];exact hb2)
  have hz2:w1.heap.size < W.heap.size:=by rw [hW];simp
  rw [← hW]
  clear hrowV hpl hW hb2 hcp hVh
  have hVW:V={ heap:=W.heap,tape:=W.tape,drawn:=W.drawn + 1,os:=W.os,output:=W.output }:=hV
  have HVW:=zadv hVW
  have c1V:({ heap:=W.heap,tape:=W.tape,drawn:=W.drawn + 1,os:=W.os,output:=W.output }:World).cell? ⟨bd,1,none⟩=some (.map (some r2)):=by rw [← hV];exact c1
  clear c1 hV hVW
  have HLD:=zadv hld
  have HUP:=zadv hup
  clear hld hup
  refine wp_region_still_tail 6 (by kernel_rfl) (by kernel_rfl) ?_
  simp only [List.take_succ_cons,List.take_zero,List.drop_succ_cons,List.drop_zero]
  iterate 5 still_step
  rw [← HVW.out]
  refine wpStill_step (fun K hK=>?_)
  rw [if_pos (show Region.wanted _ _=true from rfl)]
  unfold Oper.still
  simp only [execOp,Sem.run_bind,Sem.run_pure]
  change Oper.stillUpon _ _ _ _ _ (Result.andThen ((Instr.loadAt 185 (.pointer (some ⟨w1.heap.size,0,none⟩))).run Tryz.prog V) _)
  rw [HLD.out,Result.andThen_ok]
  change Oper.stillUpon _ _ _ _ _ (Result.ok (Next.value _) V)
  rw [Oper.stillUpon_value]
  refine hK _ ?_
  clear hK
  refine wpStill_nil ?_
  refine wpList_plain rfl fun K hK=>?_
  unfold Oper.wp
  simp only [execOp,Sem.run_bind,Sem.run_pure]
  change Oper.upon _ _ _ _ _ (Result.andThen ((Instr.mapUpdate 133 (.map (some r2)) (.int .i64 i) (.agg (bts (padN l)).toArray)).run Tryz.prog V) _)
  rw [HUP.out,Result.andThen_ok]
  change K _ _
  refine hK _ _ ?_
  clear hK
  obtain ⟨U,hU⟩:∃ U:World,U={ heap:=V.heap.setIfInBounds r2 (.map es' cl'),tape:=V.tape,drawn:=V.drawn,os:=V.os,output:=V.output }:=⟨_,rfl⟩
  rw [← hU]
  obtain ⟨n1,n2,n3⟩:=D3.out.nmap
  have u2:U.heap[r2]?=some (.map es' cl'):=by rw [hU];exact Array.getElem?_setIfInBounds_self_of_lt hr2
  have une:∀ k,k ≠ r2→U.heap[k]?=V.heap[k]?:=fun k hk=>by rw [hU];exact Array.getElem?_setIfInBounds_ne (Ne.symm hk)
  have usz:U.heap.size=V.heap.size:=by rw [hU];simp
  have uo:U.os=V.os∧U.tape=V.tape∧U.output=V.output:=by rw [hU];exact ⟨rfl,rfl,rfl⟩
  have hob:U.heap[bd]?=some (.cells (A.cells r1 r2) 135):=(une bd n2).trans D3.out.ob
  have c4:U.cell? ⟨bd,4,none⟩=some (.int .i64 A.done):=by unfold World.cell?;rw [hob];rfl
  have f4:U.frozen? ⟨bd,4,none⟩=false:=by unfold World.frozen?;rw [hob];simp
  have hd:IntKind.i64.wrap (A.done + 1)=inc A.done:=rfl
  have hd2:wrap64 (A.done + 1)=inc A.done:=by unfold inc;rw [IntWalk.i64_left]
  have P5:=zadv (put_lo (w':=U.setCell ⟨bd,4,none⟩ (.int .i64 (inc A.done))) D3.out hi (l:=l) (by omega) ⟨es',cl',lo,(set_ne r2 (Ne.symm n2)).trans u2,M5.out,M6.out,M4.out⟩ (by rw [set_ob hob];rfl) (fun b _ hb1 hb2=>(set_ne b hb1).trans (une b hb2)))
  have ST:=zadv (zo3 P5.out hoff)
  have HUN:=zadv (fun k (h1:k ≠ bd) (h2:k ≠ r2)=>((set_ne (v:=.int .i64 (inc A.done)) (k:=4) k h1).trans (une k h2)))
  have HUO:=zadv uo
  have HUS:=zadv (show (U.setCell ⟨bd,4,none⟩ (.int .i64 (inc A.done))).heap.size=V.heap.size by simp [World.setCell,usz])
  clear hU u2 une usz uo hob HUP M4 M5 M6 D1 D2 D3 c1V c1W HLD
  have vo:V.os=W.os∧V.tape=W.tape∧V.output=W.output∧V.heap=W.heap:=by rw [HVW.out];exact ⟨rfl,rfl,rfl,rfl⟩
  have HT:Hid (∀ w6:World,w6.os=(U.setCell ⟨bd,4,none⟩ (.int .i64 (inc A.done))).os→w6.tape=(U.setCell ⟨bd,4,none⟩ (.int .i64 (inc A.done))).tape→w6.output=(U.setCell ⟨bd,4,none⟩ (.int .i64 (inc A.done))).output→w6.heap.size=(U.setCell ⟨bd,4,none⟩ (.int .i64 (inc A.done))).heap.size→
    (∀ k,k ≠ bd→w6.heap[k]?=(U.setCell ⟨bd,4,none⟩ (.int .i64 (inc A.done))).heap[k]?)→Turns F w w6):=fun w6 o1 o2 o3 o4 o5=>by
   obtain ⟨a1,a2,a3⟩:=HUO.out
   obtain ⟨v1,v2,v3,v4⟩:=vo
   refine ⟨o1.trans (a1.trans (v1.trans (HB2.out.os.trans B1.out.os))),o2.trans (a2.trans (v2.trans (HB2.out.tape.trans B1.out.tape))),o3.trans (a3.trans (v3.trans (HB2.out.output.trans B1.out.output))),?_,fun k hk hFk=>?_⟩
   ·rw [o4,HUS.out,v4]
    exact Nat.le_trans B1.out.size HB2.out.size
   ·have h1:k ≠ bd:=fun e=>hFk 0 ((hF k 0).2 (.inl e))
    have h2:k ≠ r2:=fun e=>hFk 0 ((hF k 0).2 (.inr (.inr (.inl e))))
    rw [o5 k h1,HUN.out k h1 h2,v4,HB2.out.block k (Nat.lt_of_lt_of_le hk B1.out.size),B1.out.block k hk]
  clear HVW HUN HUO HUS HB2 B1 vo hz2 hrow hr2
  go_wp2_with fail
  cases hs:(A.put i l).str with
  | true=>
   rw [hs] at ST HE
   clear hs
   refine ST.out.mono ?_
   rintro _ w6 ⟨rfl,d6,o1,o2,o3,o4,o5⟩
   have hE9:E=9:=HE.out.symm
   subst hE9
   have T6:=zadv (HT.out w6 o1 o2 o3 o4 o5)
   have D6:=zadv d6
   clear o1 o2 o3 o4 o5 d6 ST
   go_wp2
   go_ret
   exact ⟨rfl,F,⟨bd,r1,r2,bl,D6.out,rfl,hF⟩,T6.out,fun _ _ h=>.inl h⟩
  | false=>
   rw [hs] at ST HE
   clear hs
   refine ST.out.mono ?_
   rintro _ w6 ⟨rfl,d6,o1,o2,o3,o4,o5⟩
   have hE9:E=0:=HE.out.symm
   subst hE9
   have T6:=zadv (HT.out w6 o1 o2 o3 o4 o5)
   have D6:=zadv d6
   clear o1 o2 o3 o4 o5 d6 ST
   go_wp2
   go_ret
   exact ⟨rfl,F,⟨bd,r1,r2,bl,D6.out,rfl,hF⟩,T6.out,fun _ _ h=>.inl h⟩
end Sx
end Go.Proofs.YthjgiamfaijoeaaGreatDoor
