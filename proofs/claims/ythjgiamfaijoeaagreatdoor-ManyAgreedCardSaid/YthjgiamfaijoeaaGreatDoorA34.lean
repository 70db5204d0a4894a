/- What is proved: parts of the walk and of the plain law. No condition but those each law names. -/
import Derived.Test.YthjgiamfaijoeaaGreatDoorA33
import Derived.Test.YthjgiamfaijoeaaGreatDoorA16
import Derived.Test.YthjgiamfaijoeaaGreatDoorA20
import Derived.Lib.AppendZeros
import Derived.ArgAppend
import Derived.Test.YthjgiamfaijoeaaGreatDoorA14
import Derived.Test.YthjgiamfaijoeaaGreatDoorA03
import Derived.Test.YthjgiamfaijoeaaGreatDoorA24
import Derived.ProofKit
import Derived.StillTailTactics
import Derived.Deep.AppendSrc
import Derived.Test.YthjgiamfaijoeaaGreatDoorA00
set_option linter.unusedSimpArgs false
set_option linter.unusedVariables false
namespace Go.Proofs.YthjgiamfaijoeaaGreatDoor
open Go.RowKit
open Sx (Ab DW Turns Did Foot MapIs DiskAt FootD getL ptV ints findIx keyInt disk_cell mapIs_find zek zds zfg)
set_option maxRecDepth 100000
def kept (A:Ab) (k:Int) (x:Option (List Nat)):Ab:={ A with last:=fun j=>if j=k then x else A.last j }
theorem zpm {w w':World} {A:Ab} {bd r1 r2:Nat} {bl:Int→Option (Option Nat)} (h:DiskAt w A bd r1 r2 bl) (k:Int) (v:Option Nat) (x:Option (List Nat))
  (hm:∃ es c l,w'.heap[r1]?=some (.map es c)∧MapIs (prs es) l∧MapKept.Stamped es c∧(∀ p ∈ l,IntK p.1)∧∀ j,getL l (.int .i64 j)=if j=k then some (ptV v) else (bl j).map ptV)
  (hv:(v=none∧x=none) ∨ ∃ b l,v=some b∧x=some l∧w.heap.size ≤ b∧l.length=128∧SecAt w' b (ints l))
  (hk:∀ i,i < w.heap.size→i ≠ r1→w'.heap[i]?=w.heap[i]?):DiskAt w' (kept A k x) bd r1 r2 (fun j=>if j=k then some v else bl j):=by
 obtain ⟨n1,n2,n3⟩:=h.nmap
 have lb:bd < w.heap.size:=(zac7 h.ob).1
 refine ⟨(hk bd lb n1).trans h.ob,?_,?_,fun j b hb=>?_,fun j hb=>?_,fun j hb=>?_,h.lo,h.ne,fun j j' b hb hb'=>?_,h.rng⟩
 ·obtain ⟨es,c,l,e1,e2,e3,e4,e5⟩:=hm
  refine ⟨es,c,l,e1,e2,e3,e4,fun j=>?_⟩
  rw [e5 j]
  split <;> rfl
 ·obtain ⟨es,c,l,e,r⟩:=h.m2
  exact ⟨es,c,l,(hk r2 (zac7 e).1 (Ne.symm h.ne)).trans e,r⟩
 ·have hb:(if j=k then some v else bl j)=some (some b):=hb
  show b ≠ bd∧∃ l,(if j=k then x else A.last j)=some l∧_
  by_cases e:j=k
  ·rw [if_pos e] at hb
   cases hb
   rw [if_pos e]
   rcases hv with ⟨q,_⟩ | ⟨b',l,q,rfl,q2,q3,q4⟩
   ·cases q
   ·cases q
    exact ⟨by omega,l,rfl,q3,q4⟩
  ·rw [if_neg e] at hb
   rw [if_neg e]
   obtain ⟨q1,l,q2,q3,q4⟩:=h.sec j b hb
   exact ⟨q1,l,q2,q3,Sx.secat_heap q4 (hk b (Sx.secat_lt q4 q3) (n3 j b hb).1)⟩
 ·have hb:(if j=k then some v else bl j)=some none:=hb
  show (if j=k then x else A.last j)=none
  by_cases e:j=k
  ·rw [if_pos e] at hb
   cases hb
   rw [if_pos e]
   rcases hv with ⟨_,q⟩ | ⟨b',l,q,_⟩
   ·exact q
   ·cases q
  ·rw [if_neg e] at hb
   rw [if_neg e]
   exact h.torn j hb
 ·have hb:(if j=k then some v else bl j)=none:=hb
  show (if j=k then x else A.last j)=_
  by_cases e:j=k
  ·rw [if_pos e] at hb;cases hb
  ·rw [if_neg e] at hb
   rw [if_neg e]
   exact h.bare j hb
 ·have hb:(if j=k then some v else bl j)=some (some b):=hb
  have hb':(if j'=k then some v else bl j')=some (some b):=hb'
  have hlt:∀ i,bl i=some (some b)→b < w.heap.size:=fun i hi=>h.size (x:=0) (.inr (.inr (.inr ⟨i,hi⟩)))
  have hge:some v=some (some b)→w.heap.size ≤ b:=fun e=>by
   cases e
   rcases hv with ⟨q,_⟩ | ⟨b',l,q,_,q2,_⟩
   ·cases q
   ·cases q;exact q2
  by_cases e:j=k <;> by_cases e':j'=k
  ·rw [e,e']
  ·rw [if_pos e] at hb;rw [if_neg e'] at hb'
   have:=hlt _ hb';have:=hge hb;omega
  ·rw [if_neg e] at hb;rw [if_pos e'] at hb'
   have:=hlt _ hb;have:=hge hb';omega
  ·rw [if_neg e] at hb;rw [if_neg e'] at hb'
   exact h.inj _ _ _ hb hb'
theorem zup {l1:List (Value × Value)} {bl:Int→Option (Option Nat)} (h:∀ j,getL l1 (.int .i64 j)=(bl j).map ptV) (k:Int) (v:Option Nat) (j:Int):getL (Sx.putL l1 (.int .i64 k) (ptV v)) (.int .i64 j)=if j=k then some (ptV v) else (bl j).map ptV:=by
 rw [zds]
 by_cases e:j=k
 ·rw [if_pos e,if_pos (by rw [e])]
 ·rw [if_neg e,if_neg (fun q=>e (by cases q;rfl)),h j]
theorem zuq {l1:List (Value × Value)} (h:∀ p ∈ l1,IntK p.1) (k:Int) (v:Value):∀ p ∈ Sx.putL l1 (.int .i64 k) v,IntK p.1:=fun p hp=>by
 rcases zek p hp with rfl | hp
 ·exact ⟨k,rfl⟩
 ·exact h p hp
theorem zxo {w:World} {A:Ab} {bd r1 r2:Nat} {bl:Int→Option (Option Nat)} (h:DiskAt w A bd r1 r2 bl) {k:Int} {l:List Nat} (hl:A.loose k=some l):
  Calls Tryz.prog 97 #[.pointer (some ⟨bd,0,none⟩),.int .i64 k] w fun en w'=>en=.returned (.tuple #[])∧∃ bl',DiskAt w' (kept A k (some l)) bd r1 r2 bl'∧(∀ j b,bl' j=some (some b)→bl j=some (some b) ∨ w.heap.size ≤ b)∧Turns (fun i _=>i=r1) w w':=by
 obtain ⟨es1,c1,l1,a1,a2,a3,a4,a5⟩:=h.m1
 obtain ⟨es2,c2,lo,b1,b2,b3,b4⟩:=h.m2
 have hlo:getA lo k=some (ints l):=by rw [b4 k,hl];rfl
 have hlen:=(h.lo k l hl).1
 obtain ⟨j,hf⟩:∃ j,findIx (.int .i64 k) es2.toList 0=some (j,loC (ints l)):=by
  have h1:=mapIs_find (c:=id) (es:=es2.toList) (l:=encA loC lo) (by rw [show (encA loC lo).map (fun p=>(p.1,id p.2))=encA loC lo from List.map_id _];exact b2) (.int .i64 k)
  rw [zcb,hlo] at h1
  cases hq:findIx (.int .i64 k) es2.toList 0 with
  | none=>rw [hq] at h1;cases h1
  | some p=>rw [hq] at h1;obtain ⟨j,u⟩:=p;exact ⟨j,by rw [show u=loC (ints l) from Option.some.inj h1]⟩
 refine (zgf (disk_cell h 0).1 (disk_cell h 1).1 a1 b1 a2 (zbk a2 a4) a3 (zbk b2 (zcc loC lo)) hf (by rw [zfg];exact hlen)).mono ?_
 rintro en w' ⟨rfl,b,es',c',g1,g2,g3,g4,g5,g6,g7⟩
 refine ⟨rfl,_,zpm h k (some b) (some l) ⟨es',c',_,g3,g4,g5,zuq a4 k _,zup a5 k (some b)⟩ (.inr ⟨b,l,rfl,rfl,g1,hlen,g6⟩) (fun i hi hn=>g7.block i hi fun _ e=>hn e),fun j b' hb=>?_,⟨g7.os,g7.tape,g7.output,g7.size,fun i hi hn=>g7.block i hi hn⟩⟩
 have hb:(if j=k then some (some b) else bl j)=some (some b'):=hb
 split at hb
 ·cases hb;exact .inr g1
 ·exact .inl hb
theorem torn_w {w:World} {A:Ab} {bd r1 r2:Nat} {bl:Int→Option (Option Nat)} (h:DiskAt w A bd r1 r2 bl) (k:Int):
  ∃ w',(Instr.mapUpdate 132 (.map (some r1)) (.int .i64 k) (.pointer none)).run Tryz.prog w=.ok () w'∧∃ bl',DiskAt w' (kept A k none) bd r1 r2 bl'∧(∀ j b,bl' j=some (some b)→bl j=some (some b) ∨ w.heap.size ≤ b)∧Turns (fun i _=>i=r1) w w':=by
 obtain ⟨es1,c1,l1,a1,a2,a3,a4,a5⟩:=h.m1
 obtain ⟨es',c',hup,hM,hst⟩:=zb4 (P:=Tryz.prog) (t:=132) Tryz.underlying132 (keyInt Tryz.underlying3) a1 a2 a3 (v:=ptV none) ⟨k,rfl⟩ (zbk a2 a4)
 refine ⟨_,hup,_,zpm h k none none ⟨es',c',_,(MapKept.heap_set a1).1,hM,hst,zuq a4 k _,zup a5 k none⟩ (.inl ⟨rfl,rfl⟩) (fun i hi hn=>(MapKept.heap_set a1).2 i hn),fun j b hb=>?_,⟨rfl,rfl,rfl,by simp,fun i hi hn=>(MapKept.heap_set a1).2 i (hn 0)⟩⟩
 have hb:(if j=k then some none else bl j)=some (some b):=hb
 split at hb
 ·cases hb
 ·exact .inl hb
end Go.Proofs.YthjgiamfaijoeaaGreatDoor
namespace Go.Proofs.YthjgiamfaijoeaaGreatDoor
open Go.RowKit
open Sx (Ab DW Turns Did Foot)
set_option maxRecDepth 100000
attribute [local go_sem ↓] zad
attribute [local go_sem] zaf zai zaj zal zab zah zac zak zae dm_t zka
structure Dae0 (k:Bool) (w:World) (D:Dm):Prop where
 row:w.heap[D.xb]?=some (.cells (dmC D.t D.sv D.jb D.bk k) 190)
 sd:Sl w (some ⟨D.sb,0,none⟩) D.seed.length D.c (bts D.seed)
 sl:D.sb < w.heap.size
 jd:JD w D.F D.dv D.A D.jb D.j
 bok:BookAt w D.bk D.mb D.M
 f1:∀ i,D.own i→i ≠ D.jb∧∀ x,¬ D.F i x
 f2:¬ zc5 D.bk D.mb D.M D.xb 0∧¬ zc5 D.bk D.mb D.M D.sb 0∧D.xb ≠ D.sb
theorem Dae.d0 {w:World} {D:Dm} (h:Dae w D):Dae0 false w D:=⟨h.row,h.sd,h.sl,h.jd,h.bok,h.f1,h.f2⟩
theorem Dae0.dae {w:World} {D:Dm} (h:Dae0 false w D) (hh:Holds D.A D.j D.R) (hc:D.cal=true→Calm D.A):Dae w D:=⟨h.row,h.sd,h.sl,h.jd,hh,hc,h.bok,h.f1,h.f2⟩
section
variable {w w':World} {D:Dm} {k:Bool}
theorem Dae0.lt (h:Dae0 k w D) {i:Nat} (hi:D.own i):i < w.heap.size:=by
 rcases hi with rfl | rfl | hi
 ·exact (zac7 h.row).1
 ·exact h.sl
 ·exact h.bok.lt hi
theorem Dae0.all_lt (h:Dae0 k w D) {i:Nat} (hi:D.all i):i < w.heap.size:=by
 rcases hi with hi | rfl | ⟨x,hx⟩
 ·exact h.lt hi
 ·exact h.jd.lt
 ·exact h.jd.dw.lt hx
theorem Dae0.keepB (h:Dae0 k w D) (hk:∀ i,D.all i→w'.heap[i]?=w.heap[i]?) (hz:w.heap.size ≤ w'.heap.size):Dae0 k w' D:=
 ⟨(hk _ (.inl (.inl rfl))).trans h.row,h.sd.block (hk _ (.inl (.inr (.inl rfl)))),Nat.lt_of_lt_of_le h.sl hz,⟨h.jd.dw.keepB fun i hx=>hk i (.inr (.inr hx)),(hk _ (.inr (.inl rfl))).trans h.jd.jr,h.jd.ap⟩,h.bok.keepB fun i x hi=>hk i (.inl (.inr (.inr hi))),h.f1,h.f2⟩
theorem Dae0.below (h:Dae0 k w D) (hw:Below w.heap.size w w'):Dae0 k w' D:=h.keepB (fun i hi=>hw.block i (h.all_lt hi)) hw.size
theorem Dae0.went (h:Dae0 k w D) {F':Foot} {A':Ab} {j':Jr} {R':List (Int × List Nat)} {c:Bool} (hj:JD w' F' D.dv A' D.jb j') (hw:Went D.F D.jb w F' w'):Dae0 k w' { D with F:=F',A:=A',j:=j',R:=R',cal:=c }:=by
 have hk:∀ i,D.own i→w'.heap[i]?=w.heap[i]?:=fun i hi=>hw.block i (h.lt hi) (h.f1 i hi).1 (h.f1 i hi).2
 refine ⟨(hk _ (.inl rfl)).trans h.row,h.sd.block (hk _ (.inr (.inl rfl))),Nat.lt_of_lt_of_le h.sl hw.size,hj,h.bok.keepB fun i x hi=>hk i (.inr (.inr hi)),fun i hi=>⟨(h.f1 i hi).1,fun x hx=>?_⟩,h.f2⟩
 rcases hw.fb i x hx with h1 | h1
 ·exact (h.f1 i hi).2 x h1
 ·have:=h.lt hi
  omega
theorem Trans.went' {F':Foot} {A':Ab} {j':Jr} {R':List (Int × List Nat)} {c:Bool} (hw:Went D.F D.jb w F' w'):Trans w D w' { D with F:=F',A:=A',j:=j',R:=R',cal:=c }:=
 have h:=Trans.went (D:=D) (A':=A') (j':=j') (R':=R') hw
 ⟨h.os,h.tape,h.output,h.size,h.keep,rfl,rfl,rfl,rfl,rfl⟩
theorem Dae0.kill (h:Dae0 false w D):Dae0 true (w.setCell ⟨D.xb,12,none⟩ (.bool true)) D:=by
 have hx:∀ i,D.xb ≠ i→(w.setCell ⟨D.xb,12,none⟩ (.bool true)).heap[i]?=w.heap[i]?:=fun i hi=>by rw [zag,if_neg hi]
 have fx:=h.f1 D.xb (.inl rfl)
 refine ⟨?_,h.sd.block (hx _ h.f2.2.2),by have:=h.sl;simpa [World.setCell] using this,⟨h.jd.dw.keepB fun i ⟨x,q⟩=>hx i fun e=>fx.2 x (e ▸ q),(hx _ fx.1).trans h.jd.jr,h.jd.ap⟩,h.bok.keepB fun i x hi=>hx i fun e=>h.f2.1 (e ▸ hi),h.f1,h.f2⟩
 rw [zag,if_pos rfl,h.row]
 rfl
end
end Go.Proofs.YthjgiamfaijoeaaGreatDoor
namespace Go.Proofs.YthjgiamfaijoeaaGreatDoor
open Go.RowKit
set_option maxRecDepth 100000
theorem zpn {f:FuncId} {args:Array Value} {w:World} {v:Value} (h:Calls Tryz.prog f args w fun e w'=>e=.returned v∧w'=w):Calls Tryz.prog f args w (Ret v w):=
 zbz (h.mono fun _ _ ⟨he,e⟩=>⟨he,by rw [e];exact Below.refl _ _⟩)
theorem zfc {P:Program} {t e:TypeId} {size:Nat} (E:Elem P t e size) {ops:Array Oper} {o:Oper} {a:Act} {w:World} {K:Act→World→Prop} {Q:Exit→Act→World→Prop} {X:Prop} (hgd:o.guard=none) (s x:Operand)
  (ho:o.op=.call { callee:=.builtin .append,args:=#[s,x],argTypes:=#[t,t] })
  {B:Nat} {v:Value} {n:Nat} {xs:List Value} (hs:a.eval s=v) (hown:w.ownsRow B e size v n xs)
  {ad:Addr} {m c:Nat} {news:List Value} (hx:a.eval x=.slice (some ad) m c) (hl:news.length=m * size)
  (hnews:∀ (j:Nat) u,news[j]?=some u→w.cell? (ad.add j)=some u) (h1:∀ u ∈ news,u.oneCell'=true)
  (hm:0 < m) (h63:n + m ≤ 1099511627776) (hB:B ≤ w.heap.size)
  (h:∀ g cap w',w'.ownsRow B e size (.slice (some ⟨g,0,none⟩) (n + m) cap) (n + m) (xs ++ news)→w.grownBy w' v.ownBlock→(v.ownBlock=some g ∨ g=w.heap.size)→g < w'.heap.size→K (a.put o.dst (.slice (some ⟨g,0,none⟩) (n + m) cap)) w'):
  if Region.wanted o (yielded ops a.tmps)=true then Oper.wp P o a w K Q else X:=by
 obtain ⟨hu,hpos,i,z,hi,hz,hsz,hby,hzs⟩:=E
 refine step_append_lies w hgd s x t ho B e i z size i.bytes hu hi hz hsz rfl hzs hpos v n xs hs hown ad m c news hx hl hnews h1 hm (by simp only [maxLen];omega) ?_ hB w.heap.size rfl h
 calc (n + m) * i.bytes ≤ 1099511627776 * 64:=Nat.mul_le_mul h63 hby
  _ ≤ 140737488355328:=by decide
structure Comp (w w':World) (P P':Nat→Prop):Prop where
 os:w'.os=w.os
 tape:w'.tape=w.tape
 output:w'.output=w.output
 size:w.heap.size ≤ w'.heap.size
 keep:∀ i,i < w.heap.size→¬ P i→w'.heap[i]?=w.heap[i]?∧¬ P' i
theorem Comp.below {w w':World} {P:Nat→Prop} (h:Below w.heap.size w w'):Comp w w' P P:=⟨h.os,h.tape,h.output,h.size,fun i hi hn=>⟨h.block i hi,hn⟩⟩
theorem Comp.trans {w w1 w2:World} {P P1 P2:Nat→Prop} (h:Comp w w1 P P1) (k:Comp w1 w2 P1 P2):Comp w w2 P P2:=
 ⟨k.os.trans h.os,k.tape.trans h.tape,k.output.trans h.output,Nat.le_trans h.size k.size,fun i hi hn=>by
  obtain ⟨h1,h2⟩:=h.keep i hi hn
  obtain ⟨k1,k2⟩:=k.keep i (Nat.lt_of_lt_of_le hi h.size) h2
  exact ⟨k1.trans h1,k2⟩⟩
end Go.Proofs.YthjgiamfaijoeaaGreatDoor
namespace Go.Proofs.YthjgiamfaijoeaaGreatDoor
open Go.RowKit
open Sx (findIx KeyT getL putL MapIs mapIs_find zek zds)
set_option maxRecDepth 100000
def wayV (a b:Int):Value:=.agg #[.int .i64 a,.int .i64 b]
theorem zpo {a b c d:Int} (h:wayV a b=wayV c d):a=c∧b=d:=by
 simp [wayV] at h
 exact h
theorem way_eq (a b c d:Int) (w:World):(Op.equal 102 (wayV a b) (wayV c d)).run Tryz.prog w=.ok (a == c && b == d) w:=by
 have h3:Tryz.prog.plainKey 3=true:=by kernel_rfl
 have c3:Tryz.prog.cellsOf 3=1:=by kernel_rfl
 obtain ⟨i,hi⟩:=info_of_underlying (P:=Tryz.prog) Tryz.underlying3
 show (Op.equalIn (9998 + 1 + 1) 102 (.agg #[.int .i64 a,.int .i64 b]) (.agg #[.int .i64 c,.int .i64 d])).run Tryz.prog w=_
 rw [run_equalIn_array w (9998 + 1) _ _ Tryz.underlying102 hi,c3]
 have p0:∀ x y:Int,(part 3 #[.int .i64 x,.int .i64 y] 0).run Tryz.prog w=.ok (.int .i64 x) w:=fun x y=>run_part_plain w h3 rfl
 have p1:∀ x y:Int,(part 3 #[.int .i64 x,.int .i64 y] 1).run Tryz.prog w=.ok (.int .i64 y) w:=fun x y=>run_part_plain w h3 rfl
 have e0:∀ x y:Int,(Op.equalIn (9998 + 1) 3 (.int .i64 x) (.int .i64 y)).run Tryz.prog w=.ok (x == y) w:=fun x y=>by
  rw [run_equalIn_int w 9998 3 .i64 .i64 x y Tryz.underlying3]
 show (Op.eqItems (9998 + 1) 3 1 #[.int .i64 a,.int .i64 b] #[.int .i64 c,.int .i64 d] [0,1]).run Tryz.prog w=_
 cases h1:(a == c) <;> cases h2:(b == d) <;> simp [Op.eqItems,p0,p1,e0,h1,h2]
theorem zpp (a b:Int):∀ (es:List MapEntry) (i:Nat) (w:World),(∀ e ∈ es,∃ c d,e.key=wayV c d)→(Instr.findAsking 102 (wayV a b) es i).run Tryz.prog w=.ok (findIx (wayV a b) es i) w
 | [],_,_,_=>rfl
 | e :: es,i,w,h=>by
  obtain ⟨c,d,hk⟩:=h e (List.mem_cons_self ..)
  have ih:=zpp a b es (i + 1) w fun x hx=>h x (List.mem_cons_of_mem _ hx)
  unfold Instr.findAsking findIx
  rw [Sem.run_bind,hk,way_eq]
  by_cases q:a=c∧b=d
  ·obtain ⟨rfl,rfl⟩:=q
   simp [hk]
  ·have hn:(a == c && b == d)=false:=by simpa using q
   have hv:¬ wayV a b=wayV c d:=fun e=>q (zpo e)
   simp [hn,hv,hk,ih]
theorem zpq:KeyT Tryz.prog 102 (fun v=>∃ a b,v=wayV a b) where
 chk:=by rintro em v w ⟨a,b,rfl⟩;cases em <;> kernel_rfl
 find:=by
  rintro v es w ⟨a,b,rfl⟩ h
  unfold Instr.findKey
  rw [Sem.run_bind,run_underlying Tryz.underlying102,Result.andThen_ok]
  cases es with
  | nil=>rfl
  | cons e es=>
   obtain ⟨c,d,hk⟩:=h e (List.mem_cons_self ..)
   have:Instr.findNow (.array 2 3) (wayV a b) (e :: es) 0=none:=by
    unfold Instr.findNow
    rw [hk]
    rfl
   rw [this]
   exact zpp a b (e :: es) 0 w h
 bits:=by rintro v ⟨a,b,rfl⟩;simp [wayV,Instr.sameBits]
 conc:=by rintro v h ⟨a,b,rfl⟩;simp [wayV,Sx.concE,Sx.concA,Sx.concC]
structure CutAt (w:World) (m:Nat) (f:Int→Int→Bool):Prop where
 at_:∃ es clock l,w.heap[m]?=some (.map es clock)∧MapIs (es.toList.map fun e=>(e.key,e.val)) l∧MapKept.Stamped es clock∧(∀ e ∈ es.toList,∃ a b,e.key=wayV a b)∧∀ a b,(getL l (wayV a b)).getD (.bool false)=.bool (f a b)
theorem CutAt.lt {w:World} {m:Nat} {f:Int→Int→Bool} (h:CutAt w m f):m < w.heap.size:=by
 obtain ⟨_,_,_,h,_⟩:=h.at_
 exact (zac7 h).1
theorem CutAt.keep {w w':World} {m:Nat} {f:Int→Int→Bool} (h:CutAt w m f) (e:w'.heap[m]?=w.heap[m]?):CutAt w' m f:=by
 obtain ⟨es,c,l,h1,h2⟩:=h.at_
 exact ⟨es,c,l,e.trans h1,h2⟩
theorem CutAt.none {w:World} {m:Nat} (h:w.heap[m]?=some (.map #[] 0)):CutAt w m (fun _ _=>false):=by
 refine ⟨#[],0,[],h,⟨List.Perm.nil,List.nodup_nil⟩,?_,fun e h=>by simp at h,fun a b=>rfl⟩
 constructor <;> simp
theorem zpr {w:World} {m:Nat} {f:Int→Int→Bool} (h:CutAt w m f) (a b:Int):(Instr.lookup 106 (.map (some m)) (.agg #[.int .i64 a,.int .i64 b]) false).run Tryz.prog w=.ok (.bool (f a b)) w:=by
 obtain ⟨es,c,l,h1,h2,_,h3,h4⟩:=h.at_
 have hM:MapIs (es.toList.map fun e=>(e.key,e.val)) (l.map fun p=>(p.1,id p.2)):=by rw [show l.map (fun p=>(p.1,id p.2))=l from List.map_id _];exact h2
 have q:=mapIs_find hM (wayV a b)
 have h4:=h4 a b
 cases hf:findIx (wayV a b) es.toList 0 with
 | none=>
  rw [hf] at q
  have hg:getL l (wayV a b)=none:=by simpa using q.symm
  rw [hg] at h4
  have h4:Value.bool false=.bool (f a b):=h4
  rw [← h4]
  have hget:=MapKept.run_getObj_map (P:=Tryz.prog) h1
  have hfi:=zpq.find (wayV a b) es.toList w ⟨a,b,rfl⟩ h3
  rw [hf] at hfi
  have zv:(zeroValue 4).run Tryz.prog w=.ok (.bool false) w:=by kernel_rfl
  have ck:=zpq.chk es.isEmpty (wayV a b) w ⟨a,b,rfl⟩
  show (Instr.lookup 106 (.map (some m)) (wayV a b) false).run Tryz.prog w=_
  simp [Instr.lookup,run_underlying Tryz.underlying106,hget,go_sem,ck,hfi,zv]
 | some p=>
  obtain ⟨j,u⟩:=p
  rw [hf] at q
  have hg:getL l (wayV a b)=some u:=by simpa using q.symm
  rw [hg] at h4
  have h4:u=.bool (f a b):=h4
  subst h4
  exact ze3 (P:=Tryz.prog) (t:=106) Tryz.underlying106 zpq h1 ⟨a,b,rfl⟩ h3 hf
theorem zab4 {w:World} {m:Nat} {f:Int→Int→Bool} (h:CutAt w m f) (a b:Int) (v:Bool):∃ es c,(Instr.mapUpdate 106 (.map (some m)) (.agg #[.int .i64 a,.int .i64 b]) (.bool v)).run Tryz.prog w=.ok () { w with heap:=w.heap.setIfInBounds m (.map es c) }∧
  CutAt { w with heap:=w.heap.setIfInBounds m (.map es c) } m (fun x y=>if x=a∧y=b then v else f x y):=by
 have hlt:=h.lt
 obtain ⟨es,c,l,h1,h2,h5,h3,h4⟩:=h.at_
 obtain ⟨es',c',g1,g2,g3⟩:=zb4 (P:=Tryz.prog) (t:=106) Tryz.underlying106 zpq h1 h2 h5 (v:=.bool v) ⟨a,b,rfl⟩ h3
 refine ⟨es',c',g1,es',c',Sx.putL l (wayV a b) (.bool v),by simp [hlt],g2,g3,fun e he=>?_,fun x y=>?_⟩
 ·have hm:(e.key,e.val) ∈ es'.toList.map fun e=>(e.key,e.val):=List.mem_map.2 ⟨e,he,rfl⟩
  have hm:=g2.1.subset hm
  rcases zek _ hm with q | q
  ·exact ⟨a,b,by injection q⟩
  ·have hq:=h2.1.symm.subset q
   obtain ⟨e0,he0,e1⟩:=List.mem_map.1 hq
   injection e1 with e1
   rw [← e1]
   exact h3 e0 he0
 ·rw [zds]
  by_cases q:x=a∧y=b
  ·obtain ⟨rfl,rfl⟩:=q
   simp
  ·have hv:¬ wayV x y=wayV a b:=fun e=>q (zpo e)
   rw [if_neg hv,if_neg q]
   exact h4 x y
end Go.Proofs.YthjgiamfaijoeaaGreatDoor
namespace Go.Proofs.YthjgiamfaijoeaaGreatDoor
open Go.RowKit
set_option maxRecDepth 100000
structure Lt where
 f:Int
 t:Int
 a:Option Addr
 c:Nat
 l:List Nat
def Lt.cells (x:Lt):List Value:=[.int .i64 x.f,.int .i64 x.t,.slice x.a x.l.length x.c]
def ltC (L:List Lt):List Value:=L.flatMap Lt.cells
structure Nt where
 nb:Nat
 mc:Nat
 B:Nat
 nodes:Int
 ra:Option Addr
 rc:Nat
 L:List Lt
 n1:Int
 n2:Int
 n3:Int
 n4:Int
 cut:Int→Int→Bool
def ntC (nodes:Int) (ra:Option Addr) (rn rc mc:Nat) (a b c d:Int):Array Value:=#[.int .i64 nodes,.slice ra rn rc,.map (some mc),.int .i64 a,.int .i64 b,.int .i64 c,.int .i64 d]
def Nt.cells (X:Nt):Array Value:=ntC X.nodes X.ra X.L.length X.rc X.mc X.n1 X.n2 X.n3 X.n4
def Nt.rb (X:Nt) (i:Nat):Prop:=∃ o,X.ra=some ⟨i,o,none⟩
def Nt.all (X:Nt) (i:Nat):Prop:=i=X.nb ∨ i=X.mc ∨ X.rb i ∨ ∃ x ∈ X.L,∃ o,x.a=some ⟨i,o,none⟩
structure NetAt (w:World) (X:Nt):Prop where
 row:w.heap[X.nb]?=some (.cells X.cells 108)
 cuts:CutAt w X.mc X.cut
 own:w.ownsRow X.B 120 3 (.slice X.ra X.L.length X.rc) X.L.length (ltC X.L)
 bod:∀ x ∈ X.L,Sl w x.a x.l.length x.c (bts x.l)
 lt:∀ x ∈ X.L,∀ k o,x.a=some ⟨k,o,none⟩→k < w.heap.size∧k ≠ X.nb∧¬ X.rb k
 nr:¬ X.rb X.nb∧¬ X.rb X.mc
 bB:X.B ≤ w.heap.size
theorem NetAt.all_lt {w:World} {X:Nt} (h:NetAt w X) {i:Nat} (hi:X.all i):i < w.heap.size:=by
 rcases hi with rfl | rfl | ⟨o,e⟩ | ⟨x,hx,o,e⟩
 ·exact (zac7 h.row).1
 ·exact h.cuts.lt
 ·have ho:=h.own
  rw [e] at ho
  exact (zel ho).2
 ·exact (h.lt x hx i o e).1
theorem NetAt.keepB {w w':World} {X:Nt} (h:NetAt w X) (hz:w.heap.size ≤ w'.heap.size) (hk:∀ i,X.all i→w'.heap[i]?=w.heap[i]?):NetAt w' X:=by
 refine ⟨(hk _ (.inl rfl)).trans h.row,h.cuts.keep (hk _ (.inr (.inl rfl))),zcd h.own fun k hkb=>hk k (.inr (.inr (.inl ?_))),fun x hx=>?_,fun x hx k o e=>?_,h.nr,Nat.le_trans h.bB hz⟩
 ·have ho:=h.own
  cases hra:X.ra with
  | none=>rw [hra] at hkb;cases hkb
  | some ad=>
   rw [hra] at ho hkb
   rcases ho.2 with ⟨hv,_⟩ | ⟨g,cp,cur,hv,_⟩
   ·cases hv
   ·cases hv
    obtain rfl:g=k:=by simpa [Value.ownBlock] using hkb
    exact ⟨0,hra⟩
 ·have hs:=h.bod x hx
  rcases hs.cells with e | ⟨b,o,e,hc⟩
  ·exact ⟨hs.len,hs.le,hs.nil,.inl e⟩
  ·exact ⟨hs.len,hs.le,hs.nil,.inr ⟨b,o,e,fun j y hj=>(Sx.cell_block (hk b (.inr (.inr (.inr ⟨x,hx,o,e⟩)))) _).1.trans (hc j y hj)⟩⟩
 ·obtain ⟨h1,h2⟩:=h.lt x hx k o e
  exact ⟨Nat.lt_of_lt_of_le h1 hz,h2⟩
theorem NetAt.mn {w:World} {X:Nt} (h:NetAt w X):X.mc ≠ X.nb:=fun e=>by
 obtain ⟨_,_,_,h1,_⟩:=h.cuts.at_
 have h2:=h.row
 rw [e,h2] at h1
 cases h1
theorem NetAt.below {w w':World} {X:Nt} (h:NetAt w X) (hb:Below w.heap.size w w'):NetAt w' X:=h.keepB hb.size fun i hi=>hb.block i (h.all_lt hi)
section
variable (nodes:Int) (ra:Option Addr) (rn rc mc:Nat) (a b c d:Int)
end
theorem zbh (X:Nt):X.cells=#[.int .i64 X.nodes,.slice X.ra X.L.length X.rc,.map (some X.mc),.int .i64 X.n1,.int .i64 X.n2,.int .i64 X.n3,.int .i64 X.n4]:=rfl
attribute [local go_sem ↓] zad
attribute [local go_sem] zaf zai zaj zal zab zah zac zak zae Sx.run_mk
theorem zab5 {n:Int} (h1:(n < 1)=False) (h2:(n > 32)=False) (w:World):Calls Tryz.prog 33 #[.int .i64 n] w fun e w'=>∃ X,e=.returned (.pointer (some ⟨X.nb,0,none⟩))∧NetAt w' X∧X.nodes=n∧(X.L=[]∧X.cut=fun _ _=>false)∧Below w.heap.size w w'∧∀ i,X.all i→w.heap.size ≤ i:=by
 go_enter Tryz.func33,Tryz.ntmps33
 go_wp2
 go_ret
 have b1:=(Below.refl w.heap.size w).alloc (zac9 _) (.map #[] 0)
 have s1:(w.alloc (.map #[] 0)).heap.size=w.heap.size + 1:=by simp
 refine ⟨⟨w.heap.size + 1,w.heap.size,w.heap.size,n,none,0,[],0,0,0,0,fun _ _=>false⟩,rfl,⟨?_,?_,World.ownsRow_nil _ _ _ _,fun x hx=>(by cases hx),fun x hx=>(by cases hx),⟨fun h=>(by obtain ⟨o,h⟩:=h;cases h),fun h=>(by obtain ⟨o,h⟩:=h;cases h)⟩,by simp;omega⟩,rfl,⟨rfl,rfl⟩,b1.alloc b1.size _,fun i hi=>?_⟩
 ·have:=heap_alloc_new (w.alloc (.map #[] 0)) (.cells (ntC n none 0 0 w.heap.size 0 0 0 0) 108)
  rw [s1] at this
  exact this
 ·refine CutAt.none ?_
  show ((w.alloc (.map #[] 0)).alloc _).heap[w.heap.size]?=_
  rw [(MapKept.heap_alloc _ _).2 _ (by rw [s1];omega)]
  exact heap_alloc_new w _
 ·rcases hi with rfl | rfl | ⟨o,e⟩ | ⟨x,hx,_⟩
  ·exact Nat.le_succ _
  ·exact zac9 _
  ·cases e
  ·cases hx
theorem zps {ad:Addr} (w:World):Calls Tryz.prog 69 #[.bool false,.pointer (some ad)] w fun e w'=>e=.returned (.bool false)∧w'=w:=by
 go_enter Tryz.func69,Tryz.ntmps69
 go_wp2
 go_ret
 exact ⟨rfl,rfl⟩
theorem zkd {w:World} {b k:Nat} {C:Array Value} {x:Int} (hr:rowOf w b=C) (hs:soft w b=true) (hk:C[k]?=some (.int .i64 x)):Calls Tryz.prog 69 #[.bool true,.pointer (some ⟨b,k,none⟩)] w fun e w'=>e=.returned (.bool true)∧w'=w.setCell ⟨b,k,none⟩ (.int .i64 (wrap64 (x + 1))):=by
 go_enter Tryz.func69,Tryz.ntmps69
 go_wp2
 go_ret
 exact ⟨rfl,rfl⟩
theorem zur {w:World} {X:Nt} (h:NetAt w X):Calls Tryz.prog 23 #[.pointer (some ⟨X.nb,0,none⟩)] w fun e w'=>e=.returned (.int .i64 X.L.length)∧w'=w:=by
 have r0:=zaa h.row
 rw [zbh] at r0
 clear h
 go_enter Tryz.func23,Tryz.ntmps23
 go_wp2
 go_ret
 exact ⟨rfl,rfl⟩
end Go.Proofs.YthjgiamfaijoeaaGreatDoor
namespace Go.Proofs.YthjgiamfaijoeaaGreatDoor
open Go.RowKit
set_option maxRecDepth 100000
attribute [local go_sem ↓] zad
attribute [local go_sem] zaf zai zaj zal zab zah zac zak zae Ext.row Ext.soft_
theorem zhb {w:World} {p nb:Nat} {nodes x:Int} {C:Array Value} (hp:rowOf w p=#[.pointer (some ⟨nb,0,none⟩)]) (hn:rowOf w nb=C) (hc:C[0]?=some (.int .i64 nodes)) (h1:(x ≥ 1)=True) (h2:(x ≤ nodes)=True):
  Calls Tryz.prog 98 #[.int .i64 x,.pointer (some ⟨p,0,none⟩)] w fun e w'=>e=.returned (.bool true)∧w'=w:=by
 go_enter Tryz.func98,Tryz.ntmps98
 go_wp2
 go_ret
 exact ⟨rfl,rfl⟩
theorem zab6 (w:World) (ρ:Operand→Value) (x:Operand) (dst:Option Tmp) (ty:TypeId) (pos:String) (af:Array Edge) (gd:Option (Nat × Bool)) (hp:pp (ρ x)=true) (h:po (ρ x) + 2 ≤ (rowOf w (pb (ρ x))).size):(execOp ρ ⟨dst,.load 102 x,ty,pos,af,gd⟩).run Tryz.prog w=.ok (.value (.agg (sub (rowOf w (pb (ρ x))) (po (ρ x)) 2))) w:=
 zat 102 2 Tryz.underlying102 rfl (by kernel_rfl) w ρ x dst ty pos af gd hp h
theorem zxp (w:World) (ρ:Operand→Value) (x y:Operand) (dst:Option Tmp) (ty:TypeId) (pos:String) (af:Array Edge) (gd:Option (Nat × Bool)) (hp:pp (ρ x)=true) (h0:po (ρ x)=0) (hv:isAg (ρ y)=true) (hs:soft w (pb (ρ x))=true) (hr:(rowOf w (pb (ρ x))).size=2) (hn:(agc (ρ y)).size=2) (h1:ones (agc (ρ y))=true):
  (execOp ρ ⟨dst,.store 102 x y,ty,pos,af,gd⟩).run Tryz.prog w=.ok .skip (w.setRow (pb (ρ x)) (agc (ρ y))):=
 za2 102 2 (by kernel_rfl) w ρ x y dst ty pos af gd hp h0 hv hs hr hn h1
theorem load76 (w:World) (ρ:Operand→Value) (x:Operand) (dst:Option Tmp) (ty:TypeId) (pos:String) (af:Array Edge) (gd:Option (Nat × Bool)) (hp:pp (ρ x)=true) (h:po (ρ x) + 3 ≤ (rowOf w (pb (ρ x))).size):(execOp ρ ⟨dst,.load 120 x,ty,pos,af,gd⟩).run Tryz.prog w=.ok (.value (.agg (sub (rowOf w (pb (ρ x))) (po (ρ x)) 3))) w:=
 zat 120 3 Tryz.underlying120 rfl (by kernel_rfl) w ρ x dst ty pos af gd hp h
theorem zab7 (w:World) (ρ:Operand→Value) (x y:Operand) (dst:Option Tmp) (ty:TypeId) (pos:String) (af:Array Edge) (gd:Option (Nat × Bool)) (hp:pp (ρ x)=true) (h0:po (ρ x)=0) (hv:isAg (ρ y)=true) (hs:soft w (pb (ρ x))=true) (hr:(rowOf w (pb (ρ x))).size=3) (hn:(agc (ρ y)).size=3) (h1:ones (agc (ρ y))=true):
  (execOp ρ ⟨dst,.store 120 x y,ty,pos,af,gd⟩).run Tryz.prog w=.ok .skip (w.setRow (pb (ρ x)) (agc (ρ y))):=
 za2 120 3 (by kernel_rfl) w ρ x y dst ty pos af gd hp h0 hv hs hr hn h1
attribute [go_sem ↓] zab6 zxp load76 zab7
theorem zex {w:World} {X:Nt} (h:NetAt w X) {a b:Int} (a1:(a ≥ 1)=True) (a2:(a ≤ X.nodes)=True) (b1:(b ≥ 1)=True) (b2:(b ≤ X.nodes)=True) (hab:(a != b)=true):
  Calls Tryz.prog 59 #[.pointer (some ⟨X.nb,0,none⟩),.int .i64 a,.int .i64 b] w fun e w'=>∃ x y:Int,e=.returned (.tuple #[.agg #[.int .i64 x,.int .i64 y],.bool true])∧(x=min a b∧y=max a b)∧Below w.heap.size w w':=by
 have r0:=zaa h.row
 rw [zbh] at r0
 have l0:=h.all_lt (.inl rfl)
 have L0:=zac8 l0
 have R0:=zac8 h.row
 clear h
 go_enter Tryz.func59,Tryz.ntmps59
 go_upto_region 1 with (fail)
 have bx:=Bxs.new2 w (#[.pointer (some ⟨X.nb,0,none⟩)]) 50 (#[.int .i64 0,.int .i64 0]) 102;generalize ((w.alloc (.cells (#[.pointer (some ⟨X.nb,0,none⟩)]) 50)).alloc (.cells (#[.int .i64 0,.int .i64 0]) 102))=W at bx ⊢;have rx0:=bx.row' 0 rfl;have sx0:=bx.soft' 0 rfl;(try simp only [Nat.add_zero] at rx0 sx0);have rx1:=bx.row' 1 rfl;have sx1:=bx.soft' 1 rfl;(try simp only [Nat.add_zero] at rx1 sx1);have BX:=zac8 bx;clear bx
 have rn:=zaa ((BX.out.below.block _ L0.out).trans R0.out)
 rw [zbh] at rn
 clear r0 l0
 go_wp2_with fail
 refine (zhb rx0 rn rfl a1 a2).mono ?_
 rintro _ W2 ⟨rfl,rfl⟩
 go_wp2_with fail
 refine (zhb rx0 rn rfl b1 b2).mono ?_
 rintro _ W3 ⟨rfl,rfl⟩
 have B:=(BX.out.below.setCell (p:=⟨w.heap.size + 1,0,none⟩) (Nat.le_add_right w.heap.size 1) (.int .i64 (min a b))).setCell (p:=⟨w.heap.size + 1,1,none⟩) (Nat.le_add_right w.heap.size 1) (.int .i64 (max a b))
 have hc:rowOf ((W3.setCell ⟨w.heap.size + 1,0,none⟩ (.int .i64 (min a b))).setCell ⟨w.heap.size + 1,1,none⟩ (.int .i64 (max a b))) (w.heap.size + 1)=#[.int .i64 (min a b),.int .i64 (max a b)]:=by
  rw [zac,if_pos rfl,zac,if_pos rfl,rx1]
  rfl
 go_wp2
 refine bodyPost_ret (zaq (t:=102) rfl Tryz.underlying102 rfl (by kernel_rfl) _ _ (w.heap.size + 1) rfl hc rfl) rfl ?_
 exact ⟨_,_,rfl,⟨rfl,rfl⟩,B⟩
end Go.Proofs.YthjgiamfaijoeaaGreatDoor
namespace Go.Proofs.YthjgiamfaijoeaaGreatDoor
open Go.RowKit
set_option maxRecDepth 100000
def ze0:List Value:=[.int .i64 0,.int .i64 0,.slice none 0 0]
theorem src_of {w:World} {b o c n cap i:Nat} {news:List Value} (hl:news.length=n * 3) (hn:0 < n→¬ cap=i) (hc:∀ (j:Nat) u,news[j]?=some u→w.cell? ⟨b,o + i * 3 + j,none⟩=some u) (h1:∀ u ∈ news,u.oneCell'=true):
  Src Tryz.prog 3 105 (.slice (if cap=i then some ⟨b,o,none⟩ else some ⟨b,o + i * 3,none⟩) n c) n news w:=by
 by_cases h0:0 < n
 ·rw [if_neg (hn h0)]
  exact Src.ofSlice w Tryz.underlying105 _ n c news hl (fun j u hj=>by rw [zar];exact hc j u hj) h1
 ·obtain rfl:n=0:=by omega
  have:news=[]:=List.length_eq_zero_iff.1 (by simpa using hl)
  subst this
  refine ⟨.inl ⟨_,Tryz.underlying105⟩,fun _=>rfl,?_,?_,rfl,fun u hu=>by cases hu⟩
  ·split <;> (simp [Builtin.firstCells,loadCells];exact run_loadCells_list (P:=Tryz.prog) (w:=w) _ [] (fun j v hv=>by simp at hv))
  ·split <;> (simp [Builtin.firstCells,loadCells];exact run_loadCells_list (P:=Tryz.prog) (w:=w.drew) _ [] (fun j v hv=>by simp at hv))
theorem zus {w:World} {b o c:Nat} {ty:TypeId} (hc:∀ j,j < 3→(w.cell? ⟨b,o + j,none⟩).isSome=true∧w.frozen? ⟨b,o + j,none⟩=false):
  (Builtin.clear_ #[105] ty #[.slice (some ⟨b,o,none⟩) 1 c]).run Tryz.prog w=.ok (.tuple #[]) (w.setCells b o ze0):=by
 obtain ⟨i,hi,hz,hs,_⟩:=info_parts (show (Tryz.prog.info? 120).map (fun i=>(i.zero,i.size,i.bytes))=some (some (.agg ze0.toArray),3,40) by kernel_rfl)
 have hzr:(zeroValue 120).run Tryz.prog w=.ok (.agg ze0.toArray) w:=by simp [zeroValue,typeInfo,hi,hz]
 have hst:=run_storeCells_cells (P:=Tryz.prog) b o ze0 0 w (fun j hj=>by simpa using (hc j (by simpa [ze0] using hj)).1) (fun j hj=>by simpa using (hc j (by simpa [ze0] using hj)).2) (fun v hv=>by
  simp [ze0] at hv;rcases hv with rfl | rfl <;> rfl)
 simp only [Nat.add_zero] at hst
 have hzc:(Builtin.zeroCells (Value.agg ze0.toArray).cells 1).toList=ze0:=by kernel_rfl
 simp only [Builtin.clear_,List.getElem?_toArray,List.getElem?_cons_zero,Sem.run_bind,run_underlying Tryz.underlying105,Result.andThen_ok,hzr,hzc,hst,Sem.run_pure]
set_option maxHeartbeats 2000000 in
theorem zab8 {w:World} {b o len cap:Nat} {i:Nat} (hil:i < len) (hc:len ≤ cap) (hlen:len ≤ 1000000) {tl:List Value} (hl:tl.length=(len - (i + 1)) * 3)
  (ht:∀ (j:Nat) u,tl[j]?=some u→w.cell? ⟨b,o + (i + 1) * 3 + j,none⟩=some u) (h1c:∀ u ∈ tl,u.oneCell'=true)
  (hw:∀ j,j < len * 3→(w.cell? ⟨b,o + j,none⟩).isSome=true∧w.frozen? ⟨b,o + j,none⟩=false):
  Calls Tryz.prog 71 #[.slice (some ⟨b,o,none⟩) len cap,.int .i64 i,.int .i64 (i + 1:Nat)] w fun e w'=>e=.returned (.slice (some ⟨b,o,none⟩) (len - 1) cap)∧w'=(w.drew.setCells b (o + i * 3) tl).setCells b (o + (len - 1) * 3) ze0:=by
 have h1:(i:Int) ≤ len:=by omega
 have h2:(0:Int) ≤ i:=by omega
 have h3:(i:Int) ≤ cap:=by omega
 have h4:(i:Int) + 1 ≤ len:=by omega
 have h5:(0:Int) ≤ (i:Int) + 1:=by omega
 have h6:((i:Int) + 1).toNat=i + 1:=by omega
 have h7:¬ cap=0:=by omega
 have h8:¬ cap=i:=by omega
 have h9:(i:Int) + 1 ≤ cap:=by omega
 obtain ⟨inf,hi,hz,hs,_⟩:=info_parts (show (Tryz.prog.info? 120).map (fun i=>(i.zero,i.size,i.bytes))=some (some (.agg ze0.toArray),3,40) by kernel_rfl)
 have hsrc:Src Tryz.prog 3 105 (.slice (if cap=i + 1 then some ⟨b,o,none⟩ else some ⟨b,o + (i + 1) * 3,none⟩) (len - (i + 1)) (cap - (i + 1))) (len - (i + 1)) tl w.drew:=src_of hl (by omega) ht h1c
 have hrun:∀ ty,(Builtin.append_ #[105,105] ty #[.slice (some ⟨b,o,none⟩) i cap,.slice (if cap=i + 1 then some ⟨b,o,none⟩ else some ⟨b,o + (i + 1) * 3,none⟩) (len - (i + 1)) (cap - (i + 1))]).run Tryz.prog w.drew=.ok (.slice (some ⟨b,o,none⟩) (len - 1) cap) (w.drew.setCells b (o + i * 3) tl):=fun ty=>by
  rw [← hs] at hsrc
  have:=run_append_room_src (P:=Tryz.prog) w.drew 105 105 ty 120 inf Tryz.underlying105 hi b o i cap _ (len - (i + 1)) tl hsrc (by omega) (fun j hj=>by rw [hs,Nat.add_assoc];exact (hw (i * 3 + j) (by omega)).1) (fun j hj=>by rw [hs,Nat.add_assoc];exact (hw (i * 3 + j) (by omega)).2)
  rw [hs,show i + (len - (i + 1))=len - 1 by omega] at this
  exact this
 have hclear:∀ ty,(Builtin.clear_ #[105] ty #[.slice (some ⟨b,o + (len - 1) * 3,none⟩) 1 (cap - (len - 1))]).run Tryz.prog (w.drew.setCells b (o + i * 3) tl)=.ok (.tuple #[]) ((w.drew.setCells b (o + i * 3) tl).setCells b (o + (len - 1) * 3) ze0):=fun ty=>zus fun j hj=>by
  rw [World.frozen?_setCells,Sx.cell_there,Sx.shape_setCells,← Sx.cell_there,Nat.add_assoc]
  exact hw ((len - 1) * 3 + j) (by omega)
 have k1:(0:Int) ≤ ((len - 1:Nat):Int):=by omega
 have k2:((len - 1:Nat):Int) ≤ len:=by omega
 have k3:((len:Nat):Int) ≤ cap:=by omega
 have k4:¬ cap=len - 1:=by omega
 have k5:len - (len - 1)=1:=by omega
 clear ht hw hsrc hl
 go_enter Tryz.func71,Tryz.ntmps71
 go_wp2_with fail
 go_still_tail 6,(by kernel_rfl)
 change wpList _ _ _ _ _ w.drew
 refine wpList_plain rfl fun K hK=>?_
 unfold Oper.wp
 simp only [execOp,resolve,invoke,builtin,Sem.run_bind,Sem.run_pure,Result.andThen_ok,List.map_toArray,List.map_cons,List.map_nil]
 change Oper.upon _ _ _ _ _ (Result.andThen ((Builtin.append_ #[105,105] 105 #[.slice (some ⟨b,o,none⟩) i cap,.slice (if cap=i + 1 then some ⟨b,o,none⟩ else some ⟨b,o + (i + 1) * 3,none⟩) (len - (i + 1)) (cap - (i + 1))]).run Tryz.prog w.drew) _)
 rw [hrun,Result.andThen_ok,Oper.upon_value]
 refine hK _ _ ?_
 clear hrun hK
 go_wp2_with fail
 all_goals
  go_ret
  exact ⟨rfl,rfl⟩
end Go.Proofs.YthjgiamfaijoeaaGreatDoor
