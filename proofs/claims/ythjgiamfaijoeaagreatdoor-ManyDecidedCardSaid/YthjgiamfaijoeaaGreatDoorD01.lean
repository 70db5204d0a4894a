/- What is proved: parts of the walk and of the plain law. No condition but those each law names. -/
import Derived.Test.YthjgiamfaijoeaaGreatDoorD00
import Derived.Lib.SliceRun
import Derived.Deep.RegionHeld3
import Derived.Laws.BytesArg
import Derived.Laws.BytesString
import Derived.Lib.Bytes
import Derived.Lib.Hide
set_option linter.unusedSimpArgs false
set_option linter.unusedVariables false
set_option maxRecDepth 100000
namespace Go.Proofs.YthjgiamfaijoeaaGreatDoor
open Go.RowKit
section
theorem zzk (l:List Nat) (hs:Small l):num l < 256 ^ l.length:=by
 induction l with
 | nil=>decide
 | cons x l ih=>
  have h1:=ih fun y hy=>hs y (by simp [hy])
  have h2:=hs x (by simp)
  simp only [num,List.length_cons,Nat.pow_succ]
  omega
theorem zwp (l:List Nat) (x:Nat):num (l ++ [x])=num l + x * 256 ^ l.length:=by
 induction l with
 | nil=>simp [num]
 | cons y l ih=>simp only [num,List.cons_append,ih,List.length_cons,Nat.pow_succ,Nat.mul_add,Nat.add_assoc];rw [Nat.mul_left_comm 256 x,Nat.mul_comm 256 (num l),Nat.mul_comm (256 ^ _) 256]
theorem zwq (l:List Nat) (hs:Small l) (j x:Nat) (hj:j < 4) (hx:l[j]?=some x):bits .or .u32 ((num (l.take j):Nat):Int) ((x:Int) * 2 ^ (8 * j) % 4294967296)=((num (l.take (j + 1)):Nat):Int):=by
 have hx2:=hs.at hx
 have hlj:(l.take j).length=j:=by
  have:=(List.getElem?_eq_some_iff.1 hx).1
  rw [List.length_take];omega
 have hr:=zzk _ (hs.take j)
 rw [hlj] at hr
 have e1:(256:Nat) ^ j=2 ^ (8 * j):=by rw [Nat.pow_mul]
 rw [e1] at hr
 have h4:(2:Nat) ^ (8 * j) ≤ 2 ^ 24:=Nat.pow_le_pow_right (by decide) (by omega)
 have h5:x * 2 ^ (8 * j) < 4294967296:=by
  calc x * 2 ^ (8 * j) ≤ 255 * 2 ^ 24:=Nat.mul_le_mul (by omega) h4
   _ < 4294967296:=by decide
 have h6:((x:Int) * 2 ^ (8 * j) % 4294967296)=((x * 2 ^ (8 * j):Nat):Int):=by
  have:((x:Int) * 2 ^ (8 * j))=((x * 2 ^ (8 * j):Nat):Int):=by simp
  rw [this];omega
 rw [h6,u32_or_nat _ _ (by omega) h5,List.take_add_one,hx]
 show ((_:Nat):Int)=((num (l.take j ++ [x]):Nat):Int)
 rw [zwp,hlj,e1,Nat.or_comm,Nat.mul_comm,← Nat.two_pow_add_eq_or_of_lt hr,Nat.add_comm]
theorem zbr (x k:Nat):(les x k).length=k:=by
 induction k generalizing x with
 | zero=>rfl
 | succ k ih=>simp [les,ih]
theorem zoy (x k:Nat):les x (k + 1)=les x k ++ [x / 256 ^ k % 256]:=by
 induction k generalizing x with
 | zero=>simp [les]
 | succ k ih=>rw [les,ih,les,List.cons_append,Nat.div_div_eq_div_mul,Nat.pow_succ,Nat.mul_comm 256]
theorem zc1 (x k:Nat):Small (les x k):=by
 induction k generalizing x with
 | zero=>intro y hy;simp [les] at hy
 | succ k ih=>
  intro y hy
  simp only [les,List.mem_cons] at hy
  rcases hy with rfl | hy
  ·omega
  ·exact ih _ y hy
theorem zaai (x k:Nat):num (les x k)=x % 256 ^ k:=by
 induction k generalizing x with
 | zero=>simp [les,num];omega
 | succ k ih=>rw [les,num,ih,Nat.pow_succ,Nat.mul_comm (256 ^ k),Nat.mod_mul]
set_option maxHeartbeats 1000000 in
theorem zjc {w:World} {ao:Option Addr} {n c:Nat} {l:List Nat} (hl:Sl w ao n c (bts l)) (hs:Small l) (hn:n ≤ 4):Calls Tryz.prog 318 #[.slice ao n c] w (Ret (.int .u32 (num l:Nat)) w):=by
 have hln:l.length=n:=by rw [← hl.len,zam]
 go_enter Tryz.func318,Tryz.ntmps318
 go_wp2
 go_loopw [3,8] (fun v i wr=>∃ j:Nat,j ≤ n∧i=.int .i64 j∧v=.int .u32 (num (l.take j):Nat)∧Below w.heap.size w wr) (fun _ i _=>n - (intOf i).toNat)
 case atStart=>exact ⟨0,by omega,rfl,rfl,by (repeat' (first | (with_reducible exact Below.refl _ _) | (with_reducible assumption) | (with_reducible refine Ext.up _ ?_) | (with_reducible refine Below.alloc ?_ ?_ _) | (with_reducible refine Below.drew ?_) | (with_reducible refine Below.setCell ?_ ?_ _) | (with_reducible refine Below.setRow_ ?_ ?_ _) | go_size))⟩
 case round=>
  obtain ⟨j,hj,rfl,rfl,hb⟩:=hrel
  by_cases hlt:j < n
  ·obtain ⟨b,o,rfl,hbw,hc⟩:=hl.at (by omega)
   obtain ⟨x,hjx⟩:∃ x,l[j]?=some x:=⟨_,zady (by omega)⟩
   have hx:=hc j _ (by rw [zd6,hjx];rfl)
   rw [← hb.cell (by exact hbw)] at hx
   have hx2:=hs.at hjx
   have hj4:(j:Int) < 4:=by omega
   go_wp2
   go_roundw
   case rel=>exact ⟨j + 1,by omega,rfl,congrArg (Value.int .u32) (zwq l hs j x (by omega) hjx),by (repeat' (first | (with_reducible exact Below.refl _ _) | (with_reducible assumption) | (with_reducible refine Ext.up _ ?_) | (with_reducible refine Below.alloc ?_ ?_ _) | (with_reducible refine Below.drew ?_) | (with_reducible refine Below.setCell ?_ ?_ _) | (with_reducible refine Below.setRow_ ?_ ?_ _) | go_size))⟩
   case measure=>simp [intOf];omega
  ·go_wp2
   go_ret
   obtain rfl:j=n:=by omega
   refine Ret.mk_of hb ?_
   rw [← hln,List.take_length]
   rfl
theorem zsl {w:World} {B:Nat} {ao:Option Addr} {n c:Nat} {xs:List Nat} (hown:w.ownsRow B 5 1 (.slice ao n c) n (bts xs)) (hB:B ≤ w.heap.size) (x k:Nat) (hn:n < 549755813888) (hk:k ≤ 4):
  Calls Tryz.prog 320 #[.slice ao n c,.int .u32 x,.int .i64 k] w (RetO 5 B (n + k) (bts (xs ++ les x k)) w):=by
 go_enter Tryz.func320,Tryz.ntmps320
 go_wp2
 go_loopw [0,1,8] (fun v y i wr=>∃ j:Nat,j ≤ k∧i=.int .i64 j∧y=.int .u32 ((x / 256 ^ j:Nat):Int)∧wr.ownsRow B 5 1 v (n + j) (bts (xs ++ les x j))∧Below B w wr) (fun _ _ i _=>k - (intOf i).toNat)
 case atStart=>exact ⟨0,by omega,rfl,by simp,by simpa [les] using hown,Below.refl _ _⟩
 case round=>
  obtain ⟨j,hj,rfl,rfl,hown',hb⟩:=hrel
  obtain ⟨ao',cap,rfl⟩:=za8 hown'
  have hz:=Nat.le_trans hB hb.size
  have hxj:x / 256 ^ j ≤ x:=Nat.div_le_self _ _
  by_cases hlt:j < k
  ·have hj4:(j:Int) < k:=by omega
   go_wp2_with (at_builtin;refine zm2 zgt rfl _ _ rfl (B:=B) rfl hown' rfl rfl (by omega) hz ?_)
   intro ao2 cap2 w2 hown2 hb2
   go_wp2
   go_roundw
   case rel=>
    refine ⟨j + 1,by omega,rfl,?_,?_,hb.trans hb2⟩
    ·rw [Nat.pow_succ,← Nat.div_div_eq_div_mul];simp
    ·rw [zoy,← List.append_assoc,zbq]
     have e:bts [x / 256 ^ j % 256]=[Value.int .u8 ((x:Int) / 256 ^ j % 256)]:=by simp [bts]
     rw [e];exact hown2
   case measure=>simp [intOf];omega
  ·go_wp2
   go_ret
   obtain rfl:j=k:=by omega
   exact ⟨ao',cap,rfl,hb,hown'⟩
theorem zb3 {w:World} {ao:Option Addr} {n c:Nat} {l:List Nat} (hl:Sl w ao n c (bts l)) (hn:n < 1099511627776):Calls Tryz.prog 34 #[.slice ao n c] w (RetO 5 w.heap.size n (bts l) w):=by
 have hln:l.length=n:=by rw [← hl.len,zam]
 have hnil:=fun (w:World) (a:Option Addr) (n c:Nat)=>Go.Lib.run_eql_slice_nil (P:=Tryz.prog) w 37 5 a n c 0 0 Tryz.underlying37
 cases ao with
 | none=>
  obtain rfl:c=0:=hl.nil rfl
  obtain rfl:n=0:=by have:=hl.le;omega
  obtain rfl:l=[]:=List.eq_nil_of_length_eq_zero hln
  go_enter Tryz.func34,Tryz.ntmps34
  go_wp2
  go_ret
  exact ⟨none,0,rfl,Below.refl _ _,World.ownsRow_nil _ _ _ _⟩
 | some ad=>
  have hal:Sl (w.alloc (.cells #[] 5)) (some ad) n c (bts l):=hl.keep (zadw _) ((Below.refl _ w).alloc (zadw _) _)
  go_enter Tryz.func34,Tryz.ntmps34
  go_wp2_with (at_builtin;refine zjb zgt rfl _ _ rfl (B:=w.heap.size) rfl (World.ownsRow_made w #[] 0 (zadw _) (by decide) rfl) rfl (by rw [Nat.mul_one];exact hal.len) (fun h=>by cases h) hal.cells (zct l) (by omega) (by simp) ?_)
  intro ao' cap w' hown hb
  go_wp2
  go_ret
  exact ⟨ao',cap,rfl,((Below.refl _ w).alloc (zadw _) _).trans hb,hown⟩
end
section
def hd (k:Nat) (l:List Nat):List Nat:=k :: l.length % 256 :: l.length / 256 :: l
def fr (k:Nat) (l:List Nat):List Nat:=hd k l ++ les (csum (hd k l)) 4
def putE (kind:Int) (n:Nat):Int:=if kind < 1 ∨ 255 < kind then 2 else if 400 < n then 5 else 0
def putL (kind:Int) (l:List Nat):List Nat:=if putE kind l.length=0 then fr kind.toNat l else []
theorem zoz {k:Nat} {l:List Nat} (hk:k < 256) (hn:l.length ≤ 400) (hs:Small l):Small (hd k l):=by
 intro x hx
 simp only [hd,List.mem_cons] at hx
 rcases hx with rfl | rfl | rfl | hx
 ·exact hk
 ·omega
 ·omega
 ·exact hs x hx
theorem zhk (k:Nat) (l:List Nat):(hd k l).length=l.length + 3:=rfl
theorem zd7 (k:Nat) (l:List Nat):(fr k l).length=l.length + 7:=by simp [fr,zhk,zbr]
theorem zjx {k:Nat} {l:List Nat} (hk:k < 256) (hn:l.length ≤ 400) (hs:Small l):Small (fr k l):=(zoz hk hn hs).append (zc1 _ _)
def RetP (kind:Int) (l:List Nat) (w:World):Ending→World→Prop:=fun e w'=>∃ ao cap,e=.returned (.tuple #[.slice ao (putL kind l).length cap,.int .i64 (putE kind l.length)])∧Below w.heap.size w w'∧w'.ownsRow w.heap.size 5 1 (.slice ao (putL kind l).length cap) (putL kind l).length (bts (putL kind l))
theorem zsm {w:World} {ao:Option Addr} {n c:Nat} {l:List Nat} (kind:Int) (hl:Sl w ao n c (bts l)) (hs:Small l) (hn:n < 1099511627776):Calls Tryz.prog 252 #[.int .i64 kind,.slice ao n c] w (RetP kind l w):=by
 have hln:l.length=n:=by rw [← hl.len,zam]
 by_cases h1:kind < 1 ∨ 255 < kind
 ·have e1:putE kind l.length=2:=if_pos h1
  have e2:putL kind l=[]:=by unfold putL;rw [e1];rfl
  unfold RetP
  rw [e1,e2]
  rcases h1 with h1 | h1
  ·go_enter Tryz.func252,Tryz.ntmps252
   go_wp2
   go_ret2
   exact ⟨none,0,rfl,Below.refl _ _,World.ownsRow_nil _ _ _ _⟩
  ·have h0:¬ kind < 1:=by omega
   go_enter Tryz.func252,Tryz.ntmps252
   go_wp2
   go_ret2
   exact ⟨none,0,rfl,Below.refl _ _,World.ownsRow_nil _ _ _ _⟩
 ·have h2:¬ kind < 1:=by omega
  have h3:¬ 255 < kind:=by omega
  by_cases h4:400 < n
  ·have e1:putE kind l.length=5:=by unfold putE;rw [if_neg h1,if_pos (by omega)]
   have e2:putL kind l=[]:=by unfold putL;rw [e1];rfl
   unfold RetP
   rw [e1,e2]
   have h4':(400:Int) < n:=by omega
   go_enter Tryz.func252,Tryz.ntmps252
   go_wp2
   go_ret2
   exact ⟨none,0,rfl,Below.refl _ _,World.ownsRow_nil _ _ _ _⟩
  ·have e1:putE kind l.length=0:=by unfold putE;rw [if_neg h1,if_neg (by omega)]
   have e2:putL kind l=fr kind.toNat l:=by unfold putL;rw [e1];rfl
   unfold RetP
   rw [e1,e2]
   have h4':¬ (400:Int) < n:=by omega
   obtain ⟨k,rfl⟩:∃ k:Nat,kind=k:=⟨kind.toNat,by omega⟩
   have hk:(k:Int) % 256=k:=by omega
   have hm:(n:Int) % 4294967296=n:=by omega
   have hnew:(w.alloc (.cells #[.int .u8 (k:Int)] 5)).ownsRow w.heap.size 5 1 (.slice (some ⟨w.heap.size,0,none⟩) 1 1) 1 (bts [k]):=zju w w.heap.size 5 #[.int .u8 k] (zadw _) (show 1 ≤ maxLen by decide)
   have B1:Below w.heap.size w (w.alloc (.cells #[.int .u8 (k:Int)] 5)):=(Below.refl _ w).alloc (zadw _) _
   go_enter Tryz.func252,Tryz.ntmps252
   have hh:bts ([k] ++ les n 2) ++ bts l=bts (hd k l):=by
    rw [← zbq]
    refine congrArg bts ?_
    unfold hd
    rw [hln]
    simp [les]
    omega
   have hsm:=zoz (k:=k) (l:=l) (by omega) (by omega) hs
   go_wp2_with (first
    | (go_at_call 320;refine (zsl (ze5 hown2 g) (Nat.le_trans hz2 g.size) (csum (hd k l)) 4 (by omega) (by decide)).mono ?_;rintro _ w4 ⟨ao4,cap4,rfl,hb4,hown4⟩)
    | (go_at_call 320;refine (zsl hnew (by simp) n 2 (by decide) (by decide)).mono ?_;rintro _ w1 ⟨ao1,cap1,rfl,hb1,hown1⟩;have hbw1:=B1.trans hb1;have hl1:=hl.keep (zadw _) hbw1;have hz1:=hbw1.size)
    | (at_builtin;refine zjb zgt rfl _ _ rfl (B:=w.heap.size) rfl (hown1:w1.ownsRow _ 5 1 (.slice ao1 3 cap1) 3 _) rfl (by rw [Nat.mul_one];exact hl1.len) (fun h=>⟨by have:=hl1.nil h;have:=hl1.le;omega,hl1.nil h⟩) hl1.cells (zct l) (by omega) hz1 ?_;intro ao2 cap2 w2 hown2 hb2;rw [hh] at hown2;have hbw2:=hbw1.trans hb2;have hz2:=hbw2.size)
    | (go_at_call 319;refine (zsk (Sl.own hown2) hsm (by omega)).mono ?_;rintro _ _ ⟨rfl,g,rfl⟩))
   go_ret2
   have e3:(fr (k:Int).toNat l).length=3 + n + 4:=by rw [zd7];omega
   rw [e3]
   exact ⟨ao4,cap4,rfl,(g.up hbw2).trans hb4,hown4⟩
end
section
def gN (l:List Nat):Nat:=num ((l.drop 1).take 2)
def getE (l:List Nat):Int:=
 if l.length < 3 then 4 else if l[0]?=some 0 then 2 else if 400 < gN l then 5 else if l.length < gN l + 7 then 4
 else if num ((l.drop (3 + gN l)).take 4) ≠ csum (l.take (3 + gN l)) then 6 else 0
def getB (l:List Nat):List Nat:=if getE l=0 then (l.drop 3).take (gN l) else []
def getK (l:List Nat):Int:=if getE l=0 then ((l.getD 0 0:Nat):Int) else 0
def getM (l:List Nat):Int:=if getE l=0 then ((gN l + 7:Nat):Int) else 0
def RetG (l:List Nat) (w:World):Ending→World→Prop:=fun e w'=>∃ ao cap,e=.returned (.tuple #[.agg #[.int .i64 (getK l),.slice ao (getB l).length cap],.int .i64 (getM l),.int .i64 (getE l)])∧Below w.heap.size w w'∧w'.ownsRow w.heap.size 5 1 (.slice ao (getB l).length cap) (getB l).length (bts (getB l))
theorem RetG.bad {l:List Nat} {w:World} {er:Int} (h:getE l=er) (h0:er ≠ 0) {w':World} (hb:Below w.heap.size w w'):RetG l w (.returned (.tuple #[.agg #[.int .i64 0,.slice none 0 0],.int .i64 0,.int .i64 er])) w':=by
 subst h
 have e1:getB l=[]:=if_neg h0
 have e2:getK l=0:=if_neg h0
 have e3:getM l=0:=if_neg h0
 refine ⟨none,0,?_,hb,?_⟩
 ·rw [e1,e2,e3];rfl
 ·rw [e1];exact World.ownsRow_nil _ _ _ _
theorem zbk {fn:Func} {p u v:Tmp} (hr:fn.results=#[.cell p 166,.tmp u,.tmp v]) (tmps:Array Value) (w:World) (b:Nat) (hp:tmps.getD p undef=.pointer (some ⟨b,0,none⟩)) {cs:Array Value} (hc:rowOf w b=cs) (hn:cs.size=2):
  (results fn tmps).run Tryz.prog w=.ok (.tuple #[.agg cs,tmps.getD u undef,tmps.getD v undef]) w:=zk1 hr Tryz.underlying166 rfl (by kernel_rfl) tmps w b hp hc hn
theorem zaaj (w:World) (ρ:Operand→Value) (x y:Operand) (dst:Option Tmp) (ty:TypeId) (pos:String) (af:Array Edge) (gd:Option (Nat × Bool)) (hp:pp (ρ x)=true) (h0:po (ρ x)=0) (hv:isAg (ρ y)=true) (hs:soft w (pb (ρ x))=true) (hr:(rowOf w (pb (ρ x))).size=2) (hn:(agc (ρ y)).size=2) (h1:ones (agc (ρ y))=true):
  (execOp ρ ⟨dst,.store 166 x y,ty,pos,af,gd⟩).run Tryz.prog w=.ok .skip (w.setRow (pb (ρ x)) (agc (ρ y))):=
 za3 166 2 (by kernel_rfl) w ρ x y dst ty pos af gd hp h0 hv hs hr hn h1
theorem zqu (a:Int) (ao:Option Addr) (n c:Nat):ones #[.int .i64 a,.slice ao n c]=true:=by simp [ones,Value.oneCell']
theorem zar {x:Int} (h0:0 ≤ x) (h1:x < 9223372036854775808):IntKind.i64.wrap x=x:=by
 rw [IntKind.wrap_i64];omega
theorem zat (w:World) (o:Obj):Below w.heap.size w (w.alloc o):=(Below.refl _ w).alloc (zadw _) o
attribute [local go_sem ↓] zaaj
attribute [local go_sem] zqu
set_option maxHeartbeats 2000000 in
theorem zhl {w:World} {ao:Option Addr} {n c:Nat} {l:List Nat} (hl:Sl w ao n c (bts l)) (hs:Small l) (hn:n < 1099511627776):Calls Tryz.prog 247 #[.slice ao n c] w (RetG l w):=by
 have hln:l.length=n:=by rw [← hl.len,zam]
 by_cases h3:n < 3
 ·have e:getE l=4:=if_pos (by omega)
  have h3':(n:Int) < 3:=by omega
  go_enter Tryz.func247,Tryz.ntmps247
  go_wp2
  refine bodyPost_ret (zbk rfl _ _ w.heap.size rfl (cs:=#[.int .i64 0,.slice none 0 0]) (by simp [zaf]) rfl) rfl ?_
  exact RetG.bad e (by decide) (zat _ _)
 ·obtain ⟨b,o,rfl,hbw,hc⟩:=hl.at (by omega)
  have hle:=hl.le
  obtain ⟨x0,hx0⟩:∃ x,l[0]?=some x:=⟨_,zady (by omega)⟩
  have hx:=hc 0 _ (by rw [zd6,hx0];rfl)
  rw [Nat.add_zero] at hx
  have hxs:=hs.at hx0
  have h3':¬ (n:Int) < 3:=by omega
  have hc3:(3:Int) ≤ c:=by omega
  have W1:=zat w (.cells #[.int .i64 0,.slice none 0 0] 166)
  have hl1:=hl.keep (zadw _) W1
  have cut1:Sl (w.alloc (.cells #[.int .i64 0,.slice none 0 0] 166)) (cutA (some ⟨b,o,none⟩) 1 c) 2 (c - 1) (bts ((l.drop 1).take 2)):=hl1.cutB (l:=1) (r:=3) (m:=c) (by omega) (by omega) (by omega) (by omega) (by omega) (by omega) rfl
  obtain ⟨N,hN⟩:∃ N,N=gN l:=⟨_,rfl⟩
  have hnum:=zjc cut1 ((hs.drop 1).take 2) (by decide)
  have hN2:N < 65536:=by
   have:=zzk _ ((hs.drop 1).take 2)
   have hle2:((l.drop 1).take 2).length=2:=by simp;omega
   rw [hle2] at this
   rw [hN];exact this
  rw [show num ((l.drop 1).take 2)=N from hN.symm] at hnum
  have HN:Hid (N=gN l):=hN
  clear hN
  have hx1:(w.alloc (.cells #[.int .i64 0,.slice none 0 0] 166)).cell? ⟨b,o,none⟩=some (.int .u8 (x0:Int)):=by rw [W1.cell (p:=⟨b,o,none⟩) hbw];exact hx
  have gx:=zc6 hx1
  have gr:∀ g:Ext (w.alloc (.cells #[.int .i64 0,.slice none 0 0] 166)),rowOf g.val w.heap.size=#[.int .i64 0,.slice none 0 0]:=fun g=>by rw [g.row _ (by simp)];simp [zaf]
  have gs:∀ g:Ext (w.alloc (.cells #[.int .i64 0,.slice none 0 0] 166)),soft g.val w.heap.size=true:=fun g=>by rw [g.soft_ _ (by simp)];simp [zai]
  have fin:∀ (g:Ext (w.alloc (.cells #[.int .i64 0,.slice none 0 0] 166))) (er:Int),getE l=er→er ≠ 0→RetG l w (.returned (.tuple #[.agg #[.int .i64 0,.slice none 0 0],.int .i64 0,.int .i64 er])) (g.val.setRow w.heap.size #[.int .i64 0,.slice none 0 0]):=fun g er h h0=>RetG.bad h h0 (Below.setRow_ (g.up W1) (zadw _) _)
  have row:∀ (g:Ext (w.alloc (.cells #[.int .i64 0,.slice none 0 0] 166))) cs,rowOf (g.val.setRow w.heap.size cs) w.heap.size=cs:=fun g cs=>by rw [zab _ _ _ _ (gs g),if_pos rfl]
  clear W1 hx1
  by_cases hz:x0=0
  ·have e:getE l=2:=by unfold getE;rw [if_neg (by omega),hx0,if_pos (by rw [hz])]
   subst hz
   go_enter Tryz.func247,Tryz.ntmps247
   go_wp2_with (go_at_call 318;refine hnum.mono ?_;rintro _ _ ⟨rfl,g,rfl⟩)
   refine bodyPost_ret (zbk rfl _ _ w.heap.size rfl (row g _) rfl) rfl ?_
   exact fin g 2 e (by decide)
  by_cases h4:400 < N
  ·have e:getE l=5:=by unfold getE;rw [if_neg (by omega),hx0,if_neg (by simpa using hz),if_pos (by rw [← HN.out];exact h4)]
   have hz':((x0:Int) == 0)=false:=by simp;omega
   have h4':(403:Int) < 3 + N:=by omega
   go_enter Tryz.func247,Tryz.ntmps247
   go_wp2_with (go_at_call 318;refine hnum.mono ?_;rintro _ _ ⟨rfl,g,rfl⟩)
   refine bodyPost_ret (zbk rfl _ _ w.heap.size rfl (row g _) rfl) rfl ?_
   exact fin g 5 e (by decide)
  by_cases h5:n < N + 7
  ·have e:getE l=4:=by unfold getE;rw [if_neg (by omega),hx0,if_neg (by simpa using hz),if_neg (by rw [← HN.out];exact h4),if_pos (by rw [← HN.out];omega)]
   have hz':((x0:Int) == 0)=false:=by simp;omega
   have h4':¬ (403:Int) < 3 + N:=by omega
   have h5':(n:Int) < 3 + N + 4:=by omega
   go_enter Tryz.func247,Tryz.ntmps247
   go_wp2_with (go_at_call 318;refine hnum.mono ?_;rintro _ _ ⟨rfl,g,rfl⟩)
   refine bodyPost_ret (zbk rfl _ _ w.heap.size rfl (row g _) rfl) rfl ?_
   exact fin g 4 e (by decide)
  have hz':((x0:Int) == 0)=false:=by simp;omega
  have h4':¬ (403:Int) < 3 + N:=by omega
  have h5':¬ (n:Int) < 3 + N + 4:=by omega
  have h6:(3:Int) + N + 4 ≤ c:=by omega
  have h7:(3:Int) + N ≤ c:=by omega
  have h9:(3:Int) + N ≤ 3 + N + 4:=by omega
  have h10:(0:Int) ≤ 3 + N:=by omega
  have t1:((3:Int) + N).toNat=3 + N:=by omega
  have t2:((3:Int) + N + 4).toNat=3 + N + 4:=by omega
  have cut2:Sl (w.alloc (.cells #[.int .i64 0,.slice none 0 0] 166)) (cutA (some ⟨b,o,none⟩) (3 + N) c) (3 + N + 4 - (3 + N)) (c - (3 + N)) (bts ((l.drop (3 + N)).take 4)):=hl1.cutB (l:=3 + N) (r:=3 + N + 4) (m:=c) (by omega) (by omega) (by omega) (by omega) (by omega) (by omega) (by congr 1;omega)
  have cut3:Sl (w.alloc (.cells #[.int .i64 0,.slice none 0 0] 166)) (some ⟨b,o,none⟩) (3 + N) c (bts (l.take (3 + N))):=hl1.frontB (by omega) (by omega) (by omega) rfl
  have t3:3 + N + 4 - (3 + N)=4:=by omega
  have h11:(3:Int) ≤ 3 + N:=by omega
  have h12:(0:Int) < n:=by omega
  have h13:0 < n:=by omega
  have cut4:Sl (w.alloc (.cells #[.int .i64 0,.slice none 0 0] 166)) (cutA (some ⟨b,o,none⟩) 3 (3 + N)) N N (bts ((l.drop 3).take N)):=hl1.cutB (l:=3) (r:=3 + N) (m:=3 + N) (by omega) (by omega) (by omega) (by omega) (by omega) (by omega) (by congr 1;omega)
  rw [t3] at cut2
  obtain ⟨M,hM⟩:∃ M,M=num ((l.drop (3 + N)).take 4):=⟨_,rfl⟩
  have hnum2:=fun (g:Ext (w.alloc (.cells #[.int .i64 0,.slice none 0 0] 166))) (g':Ext g.val)=>zjc ((cut2.ext g).ext g') ((hs.drop (3 + N)).take 4) (by decide)
  rw [← hM] at hnum2
  have hsum:=fun (g:Ext (w.alloc (.cells #[.int .i64 0,.slice none 0 0] 166))) (g':Ext g.val)=>zsk ((cut3.ext g).ext g') (hs.take (3 + N)) (by omega)
  obtain ⟨C,hC⟩:∃ C,C=csum (l.take (3 + N)):=⟨_,rfl⟩
  rw [← hC] at hsum
  have HM:Hid (M=num ((l.drop (3 + N)).take 4)):=hM
  have HC:Hid (C=csum (l.take (3 + N))):=hC
  clear hM hC cut2 cut3 cut1
  have gx2:=fun (g:Ext (w.alloc (.cells #[.int .i64 0,.slice none 0 0] 166))) (g2:Ext g.val)=>zc6 (gx (g.trans g2))
  have gr2:=fun (g:Ext (w.alloc (.cells #[.int .i64 0,.slice none 0 0] 166))) (g2:Ext g.val)=>gr (g.trans g2)
  have gs2:=fun (g:Ext (w.alloc (.cells #[.int .i64 0,.slice none 0 0] 166))) (g2:Ext g.val)=>gs (g.trans g2)
  by_cases h8:M=C
  ·have e:getE l=0:=by unfold getE;rw [if_neg (by omega),hx0,if_neg (by simpa using hz),if_neg (by rw [← HN.out];exact h4),if_neg (by rw [← HN.out];omega),if_neg (by rw [← HN.out,← HM.out,← HC.out];simpa using h8)]
   have h8':((M:Int) == (C:Int))=true:=by simp;omega
   go_enter Tryz.func247,Tryz.ntmps247
   go_wp2_with (first
    | (go_at_call 318;refine hnum.mono ?_;rintro _ _ ⟨rfl,g,rfl⟩)
    | ((refine zaz (by kernel_rfl) (by kernel_rfl) ?_;(repeat (go_big_quiet_step ((first | (go_at_call 318;exact Calls.ext_of (hnum2 g _)) | (go_at_call 319;exact Calls.ext_of (hsum g _))))));refine wpQuiet_nil ?_;rintro _ ⟨g2,rfl⟩);have q0:∀ g3:Ext g2.val,g3.val.cell? ⟨b,o,none⟩=some (.int .u8 (x0:Int)):=gx2 g g2;have q1:rowOf g2.val w.heap.size=#[.int .i64 0,.slice none 0 0]:=gr2 g g2;have q2:soft g2.val w.heap.size=true:=gs2 g g2))
   have hz2:w.heap.size ≤ g2.val.heap.size:=Nat.le_trans (Nat.le_trans (by simp) g.size) g2.size
   have q3:∀ g3:Ext g2.val,rowOf g3.val w.heap.size=#[.int .i64 0,.slice none 0 0]:=fun g3=>gr2 (g.trans g2) g3
   have q4:∀ g3:Ext g2.val,soft g3.val w.heap.size=true:=fun g3=>gs2 (g.trans g2) g3
   have cut5:=fun g3:Ext g2.val=>((cut4.ext g).ext g2).ext g3
   have hbH:¬ b=w.heap.size:=by omega
   have hNn:N < 1099511627776:=by omega
   go_region_held3 (fun w'=>w'.cell? ⟨b,o,none⟩=some (.int .u8 (x0:Int))) (first | exact q0 ⟨_,(Below.refl _ _).drew⟩ | exact q0 g3 | (rw [zhi _ _ _ _ _ (q4 g3),if_neg hbH];exact q0 g3) | go_keep)
    (first | (go_at_call 34;refine (zb3 (cut5 ⟨_,(Below.refl _ _).drew⟩) hNn).mono ?_;rintro _ w3 ⟨ao',cap,rfl,hb,hown⟩;obtain ⟨g3,rfl⟩:∃ g3:Ext g2.val,w3=g3.val:=⟨⟨_,((Below.refl _ _).drew).trans hb⟩,rfl⟩))
   have hw1:IntKind.i64.wrap (x0:Int)=x0:=zar (by omega) (by omega)
   have hw2:IntKind.i64.wrap (3 + (N:Int) + 4)=((N + 7:Nat):Int):=by rw [zar (by omega) (by omega)];omega
   rw [hw1,hw2]
   have eb:getB l=(l.drop 3).take N:=by unfold getB;rw [if_pos e,← HN.out]
   have el:((l.drop 3).take N).length=N:=by rw [List.length_take,List.length_drop];omega
   go_wp2
   refine bodyPost_ret (zbk rfl _ _ w.heap.size rfl (cs:=#[.int .i64 x0,.slice ao' N cap]) (by rw [zab _ _ _ _ (q4 g3),if_pos rfl]) rfl) rfl ?_
   refine ⟨ao',cap,?_,?_,?_⟩
   ·have ek:getK l=x0:=by unfold getK;rw [if_pos e];simp [List.getD,hx0]
    have em:getM l=((N + 7:Nat):Int):=by unfold getM;rw [if_pos e,← HN.out]
    rw [ek,em,e,eb,el]
    rfl
   ·have W1:=zat w (.cells #[.int .i64 0,.slice none 0 0] 166)
    exact Below.setRow_ (g3.up (g2.up (g.up W1))) (zadw _) _
   ·rw [eb,el]
    have hlt:w.heap.size < g2.val.drew.heap.size:=Nat.lt_of_lt_of_le (Nat.lt_of_lt_of_le (show w.heap.size < (w.alloc (.cells #[.int .i64 0,.slice none 0 0] 166)).heap.size by simp) g.size) g2.size
    exact za0 (zja hown hlt _) (Nat.le_of_lt hlt)
  ·have e:getE l=6:=by unfold getE;rw [if_neg (by omega),hx0,if_neg (by simpa using hz),if_neg (by rw [← HN.out];exact h4),if_neg (by rw [← HN.out];omega),if_pos (by rw [← HN.out,← HM.out,← HC.out];exact h8)]
   have h8':((M:Int) == (C:Int))=false:=by simp;omega
   go_enter Tryz.func247,Tryz.ntmps247
   go_wp2_with (first
    | (go_at_call 318;refine hnum.mono ?_;rintro _ _ ⟨rfl,g,rfl⟩)
    | ((refine zaz (by kernel_rfl) (by kernel_rfl) ?_;(repeat (go_big_quiet_step ((first | (go_at_call 318;exact Calls.ext_of (hnum2 g _)) | (go_at_call 319;exact Calls.ext_of (hsum g _))))));refine wpQuiet_nil ?_;rintro _ ⟨g2,rfl⟩);have q1:rowOf g2.val w.heap.size=#[.int .i64 0,.slice none 0 0]:=gr2 g g2;have q2:soft g2.val w.heap.size=true:=gs2 g g2))
   refine bodyPost_ret (zbk rfl _ _ w.heap.size rfl (row (g.trans g2) _) rfl) rfl ?_
   exact fin (g.trans g2) 6 e (by decide)
end
section
def u8l (l:List Nat):List UInt8:=l.map UInt8.ofNat
theorem zaak {l k:List Nat} (hl:Small l) (hk:Small k) (h:u8l l=u8l k):l=k:=by
 refine List.ext_getElem? fun i=>?_
 have e:=congrArg (fun q=>q[i]?) h
 unfold u8l at e
 simp only [List.getElem?_map] at e
 cases h1:l[i]? with
 | none=>cases h2:k[i]? with
  | none=>rfl
  | some y=>rw [h1,h2] at e;cases e
 | some x=>cases h2:k[i]? with
  | none=>rw [h1,h2] at e;cases e
  | some y=>
   rw [h1,h2] at e
   simp only [Option.map_some,Option.some.injEq] at e
   have a:=hl x (List.mem_of_getElem? h1)
   have b:=hk y (List.mem_of_getElem? h2)
   have:=congrArg UInt8.toNat e
   simp only [UInt8.toNat_ofNat'] at this
   congr 1
   omega
theorem zo0 {w:World} {ao:Option Addr} {n c:Nat} {l:List Nat} (hl:Sl w ao n c (bts l)):∃ s:ByteArray,(∀ g:Ext w,(convert 37 9 (.slice ao n c)).run Tryz.prog g.val=.ok (.string s) g.val)∧s.toList=u8l l:=by
 have hln:l.length=n:=by rw [← hl.len,zam]
 by_cases h0:n=0
 ·subst h0
  obtain rfl:l=[]:=List.eq_nil_of_length_eq_zero hln
  refine ⟨strOfNums [],fun g=>?_,by rw [Lib.strOfNums_toList];rfl⟩
  rw [run_convert_bytes_string g.val 37 9 5 _ 0 c Tryz.underlying37 Tryz.underlying5 Tryz.underlying9]
  cases ao <;> simp [Conv.bytesToString,loadCells]
  all_goals rfl
 ·obtain ⟨b,o,rfl,hb,hc⟩:=hl.at (by omega)
  refine ⟨strOfNums (l.map Int.ofNat),fun g=>run_convert_bytes_arg (P:=Tryz.prog) g.val 37 5 Tryz.underlying37 Tryz.underlying5 b o n c _ (by rw [List.length_map];exact hln) (fun i hi=>?_) 9 Tryz.underlying9,?_⟩
  ·have hli:i < l.length:=by omega
   have:=hc i (.int .u8 (l[i]:Nat)) (by rw [zd6,zady hli];rfl)
   rw [← g.cell b (o + i) hb] at this
   rw [this,List.getD_eq_getElem?_getD,List.getElem?_map,zady hli]
   rfl
  ·rw [Lib.strOfNums_toList]
   unfold Lib.bytesOf u8l
   rw [List.map_map]
   rfl
theorem zk2 {w:World} {ao bo:Option Addr} {n m c d:Nat} {l k:List Nat} (hl:Sl w ao n c (bts l)) (hk:Sl w bo m d (bts k)) (sl:Small l) (sk:Small k):Calls Tryz.prog 248 #[.slice ao n c,.slice bo m d] w (Ret (.bool (decide (l=k))) w):=by
 obtain ⟨s,hs,es⟩:=zo0 hl
 obtain ⟨t,ht,et⟩:=zo0 hk
 have hs:=hs ⟨w,Below.refl _ _⟩
 have ht:=ht ⟨w,Below.refl _ _⟩
 have e:(u8l l == u8l k)=decide (l=k):=by
  by_cases h:l=k
  ·subst h;simp
  ·rw [decide_eq_false h,beq_eq_false_iff_ne]
   exact fun e=>h (zaak sl sk e)
 go_enter Tryz.func248,Tryz.ntmps248
 go_wp2
 go_ret
 exact Ret.mk_of (Below.refl _ _) rfl
def ze6 (t:Nat):List Nat:=fr 255 (les t 8)
theorem zjd (t:Nat):putL 255 (les t 8)=ze6 t∧putE 255 (les t 8).length=0:=by
 have h:putE 255 (les t 8).length=0:=by rw [zbr];decide
 refine ⟨?_,h⟩
 unfold putL ze6
 rw [if_pos h]
 rfl
theorem zk3 (t:Nat):(ze6 t).length=15:=by unfold ze6 fr hd;simp [zbr]
theorem zhm (j:Nat):2 ^ (8 * j)=256 ^ j:=by rw [Nat.pow_mul]
set_option maxHeartbeats 1000000 in
theorem zo1 (t:Nat) (ht:t < 9223372036854775808) (w:World):Calls Tryz.prog 180 #[.int .i64 t] w (RetO 5 w.heap.size 15 (bts (ze6 t)) w):=by
 go_enter Tryz.func180,Tryz.ntmps180
 go_wp2
 go_loopw [3,7] (fun v i wr=>∃ j:Nat,j ≤ 8∧i=.int .i64 j∧wr.ownsRow w.heap.size 5 1 v j (bts (les t j))∧Below w.heap.size w wr) (fun _ i _=>8 - (intOf i).toNat)
 case atStart=>exact ⟨0,by omega,rfl,World.ownsRow_nil _ _ _ _,Below.refl _ _⟩
 case round=>
  obtain ⟨j,hj,rfl,hown,hb⟩:=hrel
  obtain ⟨ao',cap,rfl⟩:=za8 hown
  have hz:=hb.size
  by_cases hlt:j < 8
  ·have hj4:(j:Int) < 8:=by omega
   go_wp2_with (at_builtin;refine zm2 zgt rfl _ _ rfl (B:=w.heap.size) rfl hown rfl rfl (by omega) hz ?_)
   intro ao2 cap2 w2 hown2 hb2
   have hown3:w2.ownsRow w.heap.size 5 1 (.slice ao2 (j + 1) cap2) (j + 1) (bts (les t (j + 1))):=by
    rw [zoy,zbq,← zhm]
    exact hown2
   clear hown2
   go_wp2
   go_roundw
   case rel=>exact ⟨j + 1,by omega,rfl,hown3,hb.trans hb2⟩
   case measure=>simp [intOf];omega
  ·obtain rfl:j=8:=by omega
   have hsl:=Sl.own hown
   have P:=zsm 255 hsl (zc1 t 8) (by decide)
   unfold RetP at P
   rw [(zjd t).1,(zjd t).2,zk3] at P
   go_wp2_with (go_at_call 252;refine P.mono ?_;rintro _ w2 ⟨ao2,cap2,rfl,hb2,hown2⟩)
   go_ret
   exact ⟨ao2,cap2,rfl,hb.trans (hb2.mono hz),za0 hown2 hz⟩
end
section
theorem elemP:Elem Tryz.prog 326 37 1:=Elem.mk' Tryz.underlying326 (by kernel_rfl) (z:=.slice none 0 0) (bytes:=24) rfl (by decide) (by decide)
theorem zsn {w:World} {B B' e e' s s' n m:Nat} {u v:Value} {xs ys:List Value} (hu:w.ownsRow B e s u n xs) (hv:w.ownsRow B' e' s' v m ys) (he:e ≠ e'):∀ k,u.ownBlock=some k→v.ownBlock ≠ some k:=fun k hk e2=>by
 rcases hu.2 with ⟨h,_⟩ | ⟨g,c,cur,h,_,h1,_⟩
 ·subst h;cases hk
 ·subst h
  rcases hv.2 with ⟨h',_⟩ | ⟨g',c',cur',h',_,h1',_⟩
  ·subst h';cases e2
  ·subst h'
   have a:g=k:=by simpa [Value.ownBlock] using hk
   have b:g'=k:=by simpa [Value.ownBlock] using e2
   subst a
   subst b
   rw [h1] at h1'
   cases h1'
   exact he rfl
theorem zje {w w':World} {B e e' s s' n m B':Nat} {u v:Value} {xs ys:List Value} (h:w.ownsRow B e s u n xs) (hgr:w.grownBy w' v.ownBlock) (hv:w.ownsRow B' e' s' v m ys) (he:e ≠ e'):w'.ownsRow B e s u n xs:=by
 refine h.kept hgr ?_
 cases e0:u.ownBlock with
 | none=>exact .inl rfl
 | some k=>exact .inr fun e2=>zsn h hv he k e0 e2.symm
theorem zso {wr w2:World} {B e s n:Nat} {u:Value} {xs:List Value} (h:wr.ownsRow B e s u n xs) (o:Obj) (hgr:(wr.alloc o).grownBy w2 (some wr.heap.size)):w2.ownsRow B e s u n xs:=by
 refine (h.alloc o).kept hgr ?_
 cases e0:u.ownBlock with
 | none=>exact .inl rfl
 | some k=>
  have h1:=(h.lt k e0).2
  exact .inr fun e2=>by
   have e3:k=wr.heap.size:=Option.some.inj e2
   omega
def m127 (n:Nat):Nat:=min n 127
theorem zqv (ts:Array TypeId) (t:TypeId) (n:Nat) (w:World):(Builtin.min_ ts t #[.int .i64 127,.int .i64 (n:Int)]).run Tryz.prog w=.ok (.int .i64 (m127 n:Nat)) w:=by
 simp [Builtin.min_,Builtin.min2,m127]
 split <;> omega
def pc (L:List Nat) (i:Nat):List Nat:=(160 + i) :: (L.drop (127 * i)).take 127
def npc (L:List Nat):Nat:=(L.length + 126) / 127
def pcs (L:List Nat):List (List Nat):=(List.range (npc L)).map (pc L)
theorem zca (L:List Nat):(pcs L).length=npc L:=by simp [pcs]
theorem zhn (L:List Nat) {i:Nat} (h:i < npc L):(pcs L)[i]?=some (pc L i):=by simp [pcs,h]
def PcsAt (w:World) (B:Nat) (vs:List Value) (ps:List (List Nat)):Prop:=vs.length=ps.length∧∀ (i:Nat) v p,vs[i]?=some v→ps[i]?=some p→w.ownsRow B 5 1 v p.length (bts p)
theorem PcsAt.keep {w w':World} {B C:Nat} {vs:List Value} {ps:List (List Nat)} (h:PcsAt w B vs ps) (hB:w.heap.size ≤ C) (hw:Below C w w'):PcsAt w' B vs ps:=⟨h.1,fun i v p h1 h2=>zbe (h.2 i v p h1 h2) hB hw⟩
attribute [local go_sem ↓] zdg zqv
set_option maxHeartbeats 2000000 in
theorem zqw {w:World} {ao:Option Addr} {n c:Nat} {L:List Nat} (hl:Sl w ao n c (bts L)) (hn:n ≤ 10000):
  Calls Tryz.prog 367 #[.slice ao n c] w fun e w'=>∃ v vs,e=.returned v∧Below w.heap.size w w'∧w'.ownsRow w.heap.size 37 1 v (npc L) vs∧PcsAt w' w.heap.size vs (pcs L):=by
 have hln:L.length=n:=by rw [← hl.len,zam]
 go_enter Tryz.func367,Tryz.ntmps367
 go_wp2
 go_loopw [0,3,4,5] (fun v0 v3 v4 _ wr=>∃ (i:Nat) (a0:Option Addr) (c0:Nat) (vs:List Value),i ≤ npc L∧v0=.slice a0 (n - 127 * i) c0∧Sl w a0 (n - 127 * i) c0 (bts (L.drop (127 * i)))∧v4=.int .i64 i∧
   wr.ownsRow w.heap.size 37 1 v3 i vs∧PcsAt wr w.heap.size vs ((pcs L).take i)∧Below w.heap.size w wr) (fun v0 _ _ _ _=>match v0 with | .slice _ k _=>k | _=>0)
 case atStart=>exact ⟨0,ao,c,[],Nat.zero_le _,rfl,by simpa using hl,rfl,World.ownsRow_nil _ _ _ _,⟨rfl,fun i v p h=>by simp at h⟩,Below.refl _ _⟩
 case round=>
  obtain ⟨i,a0,c0,vs,hi,rfl,hs,rfl,hown,hps,hb⟩:=hrel
  obtain ⟨ao',cap,rfl⟩:=za8 hown
  have hz:=hb.size
  have hle:=hs.le
  by_cases hlt:i < npc L
  ·have hpos:127 * i < n:=by unfold npc at hlt;omega
   have hpos2:(0:Int) < ((n - 127 * i:Nat):Int):=by omega
   generalize hk:n - 127 * i=k at *
   have hm1:m127 k ≤ k:=by unfold m127;omega
   have hm2:m127 k ≤ 127:=by unfold m127;omega
   have hm0:0 < m127 k:=by unfold m127;omega
   have hmc:((m127 k:Nat):Int) ≤ c0:=by omega
   have hmk:((m127 k:Nat):Int) ≤ k:=by omega
   have hdl:(L.drop (127 * i)).length=k:=by rw [List.length_drop];omega
   have hfr:Sl w a0 (m127 k) c0 (bts ((L.drop (127 * i)).take 127)):=hs.frontB hm1 (by omega) (zadw _) (by
    unfold m127
    rcases Nat.le_total k 127 with h | h
    ·rw [Nat.min_eq_left h,← hdl,List.take_length,List.take_of_length_le (by omega)]
    ·rw [Nat.min_eq_right h])
   have hbk:Sl w (cutA a0 (m127 k) c0) (k - m127 k) (c0 - m127 k) (bts (L.drop (127 * (i + 1)))):=hs.cutB (l:=m127 k) (r:=k) (m:=c0) hm1 (zadw _) (zadw _) hle rfl rfl (by
    rw [List.drop_drop,List.take_of_length_le (by rw [List.length_drop];omega)]
    unfold m127
    rcases Nat.le_total k 127 with h | h
    ·rw [Nat.min_eq_left h,List.drop_eq_nil_of_le (by omega),List.drop_eq_nil_of_le (by omega)]
    ·rw [Nat.min_eq_right h,show 127 * (i + 1)=127 * i + 127 by omega])
   have HF:=zadv hfr
   have HBk:=zadv hbk
   have HS:=zadv hps
   clear hfr hbk hps
   obtain ⟨b,o,rfl,hbw,hc⟩:=hs.at (by omega)
   have hi3:i < 96:=by unfold npc at hlt;omega
   have hsz:w.heap.size ≤ (wr.alloc (.cells #[.int .u8 (160 + (i:Int))] 5)).heap.size:=by simp;omega
   have hcells:∀ (j:Nat) u,(bts ((L.drop (127 * i)).take 127))[j]?=some u→(wr.alloc (.cells #[.int .u8 (160 + (i:Int))] 5)).cell? ((⟨b,o,none⟩:Addr).add j)=some u:=fun j u hj=>by
    have:=HF.out.keep (zadw _) (hb.alloc hz (.cells #[.int .u8 (160 + (i:Int))] 5))
    obtain ⟨b2,o2,e,_,h⟩:=this.at hm0
    cases e
    rw [zas]
    exact h j u hj
   have hfl:=HF.out.len
   have hpc:bts (pc L i)=[Value.int .u8 (160 + (i:Int))] ++ bts ((L.drop (127 * i)).take 127):=by unfold pc bts;simp
   have hpl:(pc L i).length=1 + m127 k:=by
    have:=congrArg List.length hpc
    rw [zam,List.length_append,hfl] at this
    simpa using this
   have HP:=zadv hpc
   have HL:=zadv hpl
   clear hc hs hpc hpl
   go_wp2_with (at_builtin;go_loud (refine zcq zgt rfl _ _ rfl (B:=w.heap.size) (n:=1) (xs:=[.int .u8 (160 + (i:Int))]) (news:=bts ((L.drop (127 * i)).take 127)) rfl (zju wr w.heap.size 5 #[.int .u8 (160 + (i:Int))] hz (show 1 ≤ maxLen by decide)) rfl (by rw [hfl,Nat.mul_one]) hcells (zct _) hm0 (by omega) hsz ?_))
   intro g2 cap2 w2 hown2 hgr2 hat2 _
   have hown3:=zso hown _ hgr2
   have hps3:PcsAt w2 w.heap.size vs ((pcs L).take i):=⟨HS.out.1,fun j v p h1 h2=>zso (HS.out.2 j v p h1 h2) _ hgr2⟩
   have hpn:w2.ownsRow w.heap.size 5 1 (.slice (some ⟨g2,0,none⟩) (1 + m127 k) cap2) (pc L i).length (bts (pc L i)):=by rw [HL.out,HP.out];exact hown2
   have hb2:Below w.heap.size w w2:=(hb.alloc hz _).trans ((Below.refl _ _).grown hgr2 hsz (fun q hq=>by cases hq;exact hz))
   have hz2:=hb2.size
   have HS3:=zadv hps3
   have HPN:=zadv hpn
   clear hown2 hgr2 hat2 hcells hps3 hpn hown
   have hown4:=hown3.alloc (.cells #[.slice (some ⟨g2,0,none⟩) (1 + m127 k) cap2] 37)
   go_wp2_with (at_builtin;refine zcq elemP rfl _ _ rfl (B:=w.heap.size) (n:=i) (xs:=vs) (news:=[.slice (some ⟨g2,0,none⟩) (1 + m127 k) cap2]) rfl hown4 rfl rfl (fun j u hj=>by have:=zdh w2 #[.slice (some ⟨g2,0,none⟩) (1 + m127 k) cap2] 37 j u hj;rw [zas];exact this) (fun u hu=>by rw [List.mem_singleton] at hu;rw [hu];rfl) (by decide) (by omega) (by simp;omega) ?_)
   intro g4 cap4 w4 hown5 hgr4 _ _
   have hps4:PcsAt w4 w.heap.size (vs ++ [.slice (some ⟨g2,0,none⟩) (1 + m127 k) cap2]) ((pcs L).take (i + 1)):=by
    have ht:(pcs L).take (i + 1)=(pcs L).take i ++ [pc L i]:=by rw [List.take_add_one,zhn L hlt];rfl
    have hl1:vs.length=i:=by rw [HS3.out.1,List.length_take,zca];omega
    have hl2:((pcs L).take i).length=i:=by rw [List.length_take,zca];omega
    rw [ht]
    refine ⟨by simp [hl1,hl2],fun j v p h1 h2=>?_⟩
    rcases Nat.lt_trichotomy j i with h | h | h
    ·rw [List.getElem?_append_left (by omega)] at h1 h2
     exact zje ((HS3.out.2 j v p h1 h2).alloc _) hgr4 hown4 (by decide)
    ·subst h
     rw [List.getElem?_append_right (by omega),hl1,Nat.sub_self] at h1
     rw [List.getElem?_append_right (by omega),hl2,Nat.sub_self] at h2
     cases h1
     cases h2
     exact zje (HPN.out.alloc _) hgr4 hown4 (by decide)
    ·rw [List.getElem?_eq_none (by simp;omega)] at h1
     cases h1
   have hb4:Below w.heap.size w w4:=(hb2.alloc hz2 _).trans ((Below.refl _ _).grown hgr4 (by simp;omega) (zbb hown4))
   have HS4:=zadv hps4
   have hkk:k - m127 k=n - 127 * (i + 1):=by unfold m127;omega
   clear hgr4 hown4 hps4 hown3
   go_wp2
   go_roundw
   case rel=>exact ⟨i + 1,_,_,_,by omega,rfl,by rw [← hkk];exact HBk.out,rfl,hown5,HS4.out,hb4⟩
   case measure=>simp;omega
  ·obtain rfl:i=npc L:=by omega
   have h0:n - 127 * npc L=0:=by unfold npc;omega
   have hps2:PcsAt wr w.heap.size vs (pcs L):=by rwa [← zca,List.take_length] at hps
   have HS:=zadv hps2
   clear hps hps2
   rw [h0] at hle ⊢
   go_wp2
   go_ret
   exact ⟨_,vs,rfl,hb,hown,HS.out⟩
def laidE (kind:Int) (n:Nat):Int:=if kind=255 then 2 else putE kind n
def zdc (kind:Int) (l:List Nat):List Nat:=if kind=255 then [] else putL kind l
theorem zk4 (kind:Int) (l:List Nat):(zdc kind l).length ≤ 407:=by
 unfold zdc
 split
 ·simp
 ·unfold putL
  split
  ·rename_i h
   rw [zd7]
   unfold putE at h
   split at h
   ·cases h
   split at h
   ·cases h
   ·omega
  ·simp
theorem zwr {w:World} {ao:Option Addr} {n c:Nat} {l:List Nat} (kind:Int) (hl:Sl w ao n c (bts l)) (hs:Small l) (hn:n < 1099511627776):
  Calls Tryz.prog 312 #[.int .i64 kind,.slice ao n c] w fun e w'=>∃ v vs,e=.returned (.tuple #[v,.int .i64 (laidE kind l.length)])∧Below w.heap.size w w'∧w'.ownsRow w.heap.size 37 1 v (npc (zdc kind l)) vs∧PcsAt w' w.heap.size vs (pcs (zdc kind l)):=by
 by_cases hk:kind=255
 ·subst hk
  have e1:laidE 255 l.length=2:=if_pos rfl
  have e2:zdc 255 l=[]:=if_pos rfl
  rw [e1,e2]
  go_enter Tryz.func312,Tryz.ntmps312
  go_wp2
  refine bodyPost_ret (results_tmp2 rfl _ _ _) rfl ⟨_,[],rfl,Below.refl _ _,World.ownsRow_nil _ _ _ _,⟨rfl,fun i v p h=>by simp at h⟩⟩
 ·have e1:laidE kind l.length=putE kind l.length:=if_neg hk
  have e2:zdc kind l=putL kind l:=if_neg hk
  have hk2:(kind == 255)=false:=by rw [beq_eq_false_iff_ne];exact hk
  have hll:(putL kind l).length ≤ 407:=by rw [← e2];exact zk4 kind l
  rw [e1,e2]
  go_enter Tryz.func312,Tryz.ntmps312
  go_wp2_with (go_at_call 252;refine (zsm kind hl hs hn).mono ?_;rintro _ w2 ⟨ao2,cap2,rfl,hb2,hown2⟩)
  refine (zqw (Sl.own hown2) (by omega)).mono ?_
  rintro _ w3 ⟨v,vs,rfl,hb3,hown3,hps⟩
  have HS:=zadv hps
  clear hps
  obtain ⟨ao3,cap3,rfl⟩:=za8 hown3
  go_wp2
  exact bodyPost_ret (results_tmp2 rfl _ _ _) rfl ⟨_,vs,rfl,hb2.trans (hb3.mono hb2.size),za0 hown3 hb2.size,⟨HS.out.1,fun i v p h1 h2=>za0 (HS.out.2 i v p h1 h2) hb2.size⟩⟩
end
end Go.Proofs.YthjgiamfaijoeaaGreatDoor
