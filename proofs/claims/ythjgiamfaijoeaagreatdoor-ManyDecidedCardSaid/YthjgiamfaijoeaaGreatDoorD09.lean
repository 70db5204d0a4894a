/- What is proved: parts of the walk and of the plain law. No condition but those each law names. -/
import Derived.Test.YthjgiamfaijoeaaGreatDoorD08
import Derived.Lib.SlBytesConst
import Derived.Deep.Cut
import Derived.Test.YthjgiamfaijoeaaGreatDoorD00
set_option linter.unusedSimpArgs false
set_option linter.unusedVariables false
set_option maxRecDepth 100000
namespace Go.Proofs.YthjgiamfaijoeaaGreatDoor
open Go.RowKit
section
open Sx (Ab DW Turns Did Foot z128 padN zbf)
theorem zta {w:World} {F:Foot} {dv:Value} {A A':Ab} {j:Jr} {R:List (Int × List Nat)} (H:DW w F dv A) (hA:Ab.Sm A) (ho:zce A=⟨0,A',j,R⟩):Calls Tryz.prog 111 #[dv] w fun e w'=>∃ F' b ao c L,
  e=.returned (.tuple #[.pointer (some ⟨b,0,none⟩),.slice ao R.length c,.int .i64 0])∧JD w' F' dv A' b j∧TB F w F' w'∧w.heap.size ≤ b∧FrW w' (Fb F' b) w.heap.size (.slice ao R.length c) L∧told L=R:=by
 refine (zw5 H hA).mono ?_
 rintro e w' ⟨F',ht,hr⟩
 rw [ho,if_neg (by simp)] at hr
 obtain ⟨b,v,L,rfl,h1,h2,h3,h4⟩:=hr
 obtain ⟨ao,c,hv⟩:=za8 h3.fr.row
 have hl:L.length=R.length:=by have:=congrArg List.length h4;simpa [told] using this
 rw [hl] at hv
 subst hv
 exact ⟨F',b,ao,c,L,rfl,h1,ht,h2,h3,h4⟩
theorem znh {A A':Ab} {j:Jr} {R:List (Int × List Nat)} {keep:List Int} (h:Holds A j R) (hc:zbf A keep A'):Holds A' j R∧Calm A':=by
 have hsee:∀ k,A'.see k=A.see k:=fun k=>by
  unfold Sx.Ab.see
  rw [hc.loose,h.still]
  rcases hc.last k with e | ⟨l,e,_⟩
  ·exact e
  ·rw [h.still] at e;cases e
 have hsm:Ab.Sm A':=fun k l hl=>by
  rcases hl with hl | hl
  ·rcases hc.last k with e | ⟨q,e,_⟩
   ·exact h.half.sm k l (.inl (by rw [← e];exact hl))
   ·rw [h.still] at e;cases e
  ·rw [hc.loose] at hl;cases hl
 refine ⟨⟨h.half.congr hsm (hsee _) (fun s _ _=>hsee s) (fun s q1 q2=>(hsee s).trans (h.rest s q1 q2)) (by rw [zc2 (hsee _)];exact h.half.other),hc.loose,fun s q1 q2=>(hsee s).trans (h.rest s q1 q2)⟩,⟨hc.off,by rw [hc.left];decide⟩⟩
theorem zaay (w:World):(Instr.makeSlice 37 (.int .i64 121) (.int .i64 121)).run Tryz.prog w=.ok (.slice (some ⟨w.heap.size,0,none⟩) 121 121) (w.alloc (.cells (bts (List.replicate 121 0)).toArray 5)):=by
 obtain ⟨i,hi,h1,h2,h3⟩:=info_parts (show (Tryz.prog.info? 5).map (fun i=>(i.zero,i.size,i.bytes))=some (some (.int .u8 0),1,1) by kernel_rfl)
 have:=run_make (P:=Tryz.prog) w 37 5 i (.int .u8 0) Tryz.underlying37 hi h1 .i64 .i64 121 121 (by decide) (Int.le_refl _) (by rw [h3];decide) (by decide)
 rw [h2] at this
 have hz:madeCells (Value.int .u8 0).cells ((121:Int).toNat * 1)=(bts (List.replicate 121 0)).toArray:=by kernel_rfl
 rw [hz] at this
 exact this
attribute [local go_sem high] zaay
theorem conv32 (w:World) (cs:Array Value) (n c k:Nat) (hk:k=w.heap.size):(convert 37 37 (.slice (some ⟨k,0,none⟩) n c)).run Tryz.prog (w.alloc (.cells cs 5))=.ok (.slice (some ⟨k,0,none⟩) n c) (w.alloc (.cells cs 5 (cs.size,cs.size + 1))):=by
 subst hk
 exact Go.Lib.run_convert_bytes_const w 37 5 cs n c Tryz.underlying37 Tryz.underlying5
attribute [local go_sem] conv32
end
section
theorem zxa (n:Nat) (hn:n < 1099511627776) (w:World):Calls Tryz.prog 357 #[.slice none 0 0,.int .i64 n] w fun e w'=>∃ ao c,e=.returned (.slice ao 0 c)∧Below w.heap.size w w'∧w'.ownsRow w.heap.size 5 1 (.slice ao 0 c) 0 []:=by
 obtain ⟨i,hi,hz,hsz,hby⟩:=info_parts (show (Tryz.prog.info? 5).map (fun i=>(i.zero,i.size,i.bytes))=some (some (.int .u8 0),1,1) by kernel_rfl)
 by_cases h0:n=0
 ·subst h0
  go_enter Tryz.func357,Tryz.ntmps357
  go_wp2
  go_ret
  exact ⟨none,0,rfl,Below.refl _ _,World.ownsRow_nil _ _ _ _⟩
 ·have hold:(Builtin.firstCells i.size 0 (.slice none 0 0)).run Tryz.prog w.drew=.ok (([]:List Value).toArray) w.drew:=by
   rw [hsz];rfl
  have hr:=Lib.run_append_grow_zeros (P:=Tryz.prog) w 37 3 37 5 i (.int .u8 0) .i64 .i64 Tryz.underlying37 Tryz.underlying3 hi hz none 0 0 [] hold n (by omega) (by rw [hsz];decide) (by omega) (by omega) (by rw [hby];omega) (growslice_fits (by omega) (by rw [hby];omega))
  rw [Nat.zero_add] at hr
  have hge:=grownCap_ge w n 0 5
  have hcm2:grownCap w n 0 5 ≤ maxLen:=grownCap_le_maxLen w n 0 5 (by simp only [maxLen];omega)
  have hsize:(([]:List Value).toArray ++ Builtin.zeroCells (Value.int .u8 0).cells n ++ Builtin.zeroCells (Value.int .u8 0).cells (grownCap w n 0 5 - n)).size=grownCap w n 0 5:=by
   have hzc:(Value.int .u8 0).cells.size=1:=rfl
   simp only [Array.size_append,List.size_toArray,size_zeroCells,hzc,List.length_nil]
   omega
  generalize grownCap w n 0 5=cap at *
  generalize ([]:List Value).toArray ++ Builtin.zeroCells (Value.int .u8 0).cells n ++ Builtin.zeroCells (Value.int .u8 0).cells (cap - n)=cs at *
  have hn0:(0:Int) < n:=by omega
  have hown:(w.drew.alloc (.cells cs 5)).ownsRow w.heap.size 5 1 (.slice (some ⟨w.heap.size,0,none⟩) 0 cap) 0 []:=⟨rfl,.inr ⟨w.heap.size,cap,cs,rfl,zadw _,heap_alloc_new w.drew _,Nat.zero_le _,hcm2,by rw [Nat.mul_one];exact hsize,rfl⟩⟩
  have hb:Below w.heap.size w (w.drew.alloc (.cells cs 5)):=((Below.refl w.heap.size w).drew).alloc (zadw _) _
  have HOwn:=zadv hown
  have HBl:=zadv hb
  clear hold hown hb hge hcm2 hsize hi hz hsz hby
  go_enter Tryz.func357,Tryz.ntmps357
  have HR:=zadv hr
  clear hr
  go_wp2_with (at_builtin;refine zgk rfl _ _ rfl _ _ rfl rfl _ _ HR.out ?_)
  go_ret
  exact ⟨_,_,rfl,HBl.out,HOwn.out⟩
theorem za4 {w w':World} {B b o:Nat} {v:Value} (hB:w.heap.size ≤ B) (hw:Below B w w') (h:w.cell? ⟨b,o,none⟩=some v):w'.cell? ⟨b,o,none⟩=some v:=
 (hw.cell (p:=⟨b,o,none⟩) (Nat.lt_of_lt_of_le (World.block_lt_of_cell? w ⟨b,o,none⟩ h) hB)).trans h
def sm2 (n m:Nat):Nat→Nat
 | 0=>0
 | 1=>n
 | _=>n + m
def xs2 (l k:List Nat):Nat→List Nat
 | 0=>[]
 | 1=>l
 | _=>l ++ k
set_option maxHeartbeats 2000000 in
theorem zq9 {w:World} {bk n m c d:Nat} {ao bo:Option Addr} {l k:List Nat} (q0:w.cell? ⟨bk,0,none⟩=some (.slice ao n c)) (q1:w.cell? ⟨bk,1,none⟩=some (.slice bo m d)) (h1:Sl w ao n c (bts l)) (h2:Sl w bo m d (bts k)) (hn:n + m < 1099511627776):
  Calls Tryz.prog 297 #[.slice (some ⟨bk,0,none⟩) 2 2] w (RetO 5 w.heap.size (n + m) (bts (l ++ k)) w):=by
 have hln:l.length=n:=by rw [← h1.len,zam]
 have hkn:k.length=m:=by rw [← h2.len,zam]
 have H1:=zadv h1
 have H2:=zadv h2
 clear h1 h2
 go_enter Tryz.func297,Tryz.ntmps297
 go_wp2
 go_loopw [3,11] (fun v3 v11 wr=>∃ i:Nat,i ≤ 2∧wr=w∧v11=.int .i64 i∧v3=.int .i64 (sm2 n m i:Nat)) (fun _ v11 _=>2 - (intOf v11).toNat)
 case atStart=>exact ⟨0,by omega,rfl,rfl,rfl⟩
 case round=>
  obtain ⟨i,hi,hw,rfl,rfl⟩:=hrel
  have hw':=hw.symm
  subst hw'
  clear hw
  match i,hi with
  | 0,_=>
   have e0:sm2 n m 0=0:=rfl
   rw [e0]
   go_wp2
   go_roundw
   case rel=>exact ⟨1,by omega,by first | rfl | trivial,rfl,by show _=Value.int .i64 ((n:Nat):Int);first | rfl | simp⟩
   case measure=>simp [intOf]
  | 1,_=>
   have e0:sm2 n m 1=n:=rfl
   rw [e0]
   have e1:wrap64 ((n:Int) + m)=n + m:=IntWalk.wrap64_in _ (by omega)
   go_wp2
   go_roundw
   case rel=>exact ⟨2,by omega,by first | rfl | trivial,rfl,by show _=Value.int .i64 ((n + m:Nat):Int);push_cast;first | rfl | simp⟩
   case measure=>simp [intOf]
  | 2,_=>
   have e0:sm2 n m 2=n + m:=rfl
   rw [e0]
   have GR:=zadv (zxa (n + m) hn w)
   rw [Int.natCast_add] at GR
   go_wp2_with fail
   refine GR.out.mono ?_
   rintro _ w1 ⟨a0,c0,rfl,hb1,own1⟩
   have HB1:=zadv hb1
   have HO1:=zadv own1
   clear GR hb1 own1
   go_wp2
   go_loopw [6,27] (fun v6 v27 wq=>∃ i:Nat,i ≤ 2∧v27=.int .i64 i∧wq.ownsRow w.heap.size 5 1 v6 (sm2 n m i) (bts (xs2 l k i))∧Below w.heap.size w wq) (fun _ v27 _=>2 - (intOf v27).toNat)
   case atStart=>exact ⟨0,by omega,rfl,HO1.out,HB1.out⟩
   case round=>
    obtain ⟨i,hi,rfl,hown,hbl⟩:=hrel
    obtain ⟨a6,c6,rfl⟩:=za8 hown
    have p0:=za4 (zadw _) hbl q0
    have p1:=za4 (zadw _) hbl q1
    have S1:=H1.out.keep (zadw _) hbl
    have S2:=H2.out.keep (zadw _) hbl
    have hz:=hbl.size
    have HBL:=zadv hbl
    clear hbl HB1 HO1 q0 q1
    match i,hi with
    | 0,_=>
     have e0:sm2 n m 0=0:=rfl
     have e1:xs2 l k 0=[]:=rfl
     rw [e0,e1] at hown
     rw [e0]
     go_wp2_with (at_builtin;refine zjb zgt rfl _ _ rfl (B:=w.heap.size) rfl hown rfl (by rw [Nat.mul_one];exact S1.len) (fun h=>⟨by have:=S1.nil h;have:=S1.le;omega,S1.nil h⟩) S1.cells (zct l) (by omega) hz ?_)
     intro ao2 cap2 w2 hown2 hb2
     have B2:=zadv (HBL.out.trans (hb2.mono (zadw _)))
     have O2:Hid (w2.ownsRow w.heap.size 5 1 (.slice ao2 n cap2) n (bts l)):=hown2
     clear hown2 hb2 hown
     go_wp2
     go_roundw
     case rel=>exact ⟨1,by omega,by go_num,O2.out,B2.out⟩
     case measure=>simp [intOf]
    | 1,_=>
     have e0:sm2 n m 1=n:=rfl
     have e1:xs2 l k 1=l:=rfl
     rw [e0,e1] at hown
     rw [e0]
     go_wp2_with (at_builtin;refine zjb zgt rfl _ _ rfl (B:=w.heap.size) rfl hown rfl (by rw [Nat.mul_one];exact S2.len) (fun h=>⟨by have:=S2.nil h;have:=S2.le;omega,S2.nil h⟩) S2.cells (zct k) (by omega) hz ?_)
     intro ao2 cap2 w2 hown2 hb2
     have B2:=zadv (HBL.out.trans (hb2.mono (zadw _)))
     have O2:=zadv (show w2.ownsRow w.heap.size 5 1 (.slice ao2 (n + m) cap2) (n + m) (bts (l ++ k)) by rw [zbq];exact hown2)
     clear hown2 hb2 hown
     go_wp2
     go_roundw
     case rel=>exact ⟨2,by omega,by go_num,O2.out,B2.out⟩
     case measure=>simp [intOf]
    | 2,_=>
     have e0:sm2 n m 2=n + m:=rfl
     have e1:xs2 l k 2=l ++ k:=rfl
     rw [e0,e1] at hown
     rw [e0]
     have HO:=zadv hown
     clear hown
     go_wp2
     go_ret
     exact ⟨a6,c6,rfl,HBL.out,HO.out⟩
theorem zf9 {w:World} {n m c d:Nat} {ao bo:Option Addr} {l k:List Nat} (h1:Sl w ao n c (bts l)) (h2:Sl w bo m d (bts k)) (hn:n + m < 1099511627776):
  Calls Tryz.prog 226 #[.slice ao n c,.slice bo m d] w (RetO 5 w.heap.size (n + m) (bts (l ++ k)) w):=by
 have hb:=zat w (.cells #[.slice ao n c,.slice bo m d] 37)
 have hx:=heap_alloc_new w (.cells #[.slice ao n c,.slice bo m d] 37)
 have CC:=zadv (zq9 (bk:=w.heap.size) (zao hx 0).1 (zao hx 1).1 (h1.keep (zadw _) hb) (h2.keep (zadw _) hb) hn)
 have HB:=zadv hb
 clear h1 h2 hb hx
 go_enter Tryz.func226,Tryz.ntmps226
 go_wp2_with fail
 refine CC.out.mono ?_
 rintro _ w2 ⟨a2,c2,rfl,hb2,own2⟩
 have B2:=zadv (HB.out.trans (hb2.mono HB.out.size))
 have O2:=zadv (za0 own2 HB.out.size)
 clear CC hb2 own2
 go_wp2
 go_ret
 exact ⟨a2,c2,rfl,B2.out,O2.out⟩
end
section
def zdk:List Value:=[.int .u8 253,.int .i64 2,.int .u64 253,.int .u8 254,.int .i64 4,.int .u64 65536,.int .u8 255,.int .i64 8,.int .u64 4294967296]
def Forms (w:World):Prop:=∀ (j:Nat) v,zdk[j]?=some v→w.cell? ⟨0,j,none⟩=some v
theorem Forms.keep {w w':World} {B:Nat} (h:Forms w) (hB:w.heap.size ≤ B) (hw:Below B w w'):Forms w':=fun j v hj=>za4 hB hw (h j v hj)
def intL (u:Nat):List Nat:=if u < 253 then [u] else if u < 65536 then 253 :: les u 2 else if u < 4294967296 then 254 :: les u 4 else 255 :: les u 8
theorem set3 {w:World} {b:Nat} {x y z u v t:Value} {ty:TypeId} (h:w.heap[b]?=some (.cells #[x,y,z] ty)):(((w.setCell ⟨b,0,none⟩ u).setCell ⟨b,1,none⟩ v).setCell ⟨b,2,none⟩ t).heap[b]?=some (.cells #[u,v,t] ty):=by
 rw [zag,if_pos rfl,zag,if_pos rfl,zag,if_pos rfl,h]
 rfl
theorem box3 {wr:World} {A:Array Value} {b:Nat} (h:wr.heap[b]?=some (.cells A 299)) (hk:b < wr.heap.size) (o:Obj):(wr.alloc o).heap[b]?=some (.cells A 299):=((zat wr o).block b hk).trans h
def frm:Nat→Array Value
 | 0=>#[.int .u8 253,.int .i64 2,.int .u64 253]
 | 1=>#[.int .u8 254,.int .i64 4,.int .u64 65536]
 | _=>#[.int .u8 255,.int .i64 8,.int .u64 4294967296]
def fix (u:Nat):Nat→Nat
 | 0=>0
 | 1=>if u < 65536 then 0 else 1
 | _=>if u < 65536 then 0 else if u < 4294967296 then 1 else 2
theorem zxb {u:Nat} (h1:¬ u < 253):∃ ah wd ls:Nat,frm (fix u 2)=#[.int .u8 ah,.int .i64 wd,.int .u64 ls]∧intL u=ah :: les u wd∧ah < 256∧wd ≤ 8:=by
 have e2:fix u 2=if u < 65536 then 0 else if u < 4294967296 then 1 else 2:=rfl
 unfold intL
 rw [e2,if_neg h1]
 by_cases h2:u < 65536
 ·rw [if_pos h2,if_pos h2]
  exact ⟨253,2,253,rfl,rfl,by decide,by decide⟩
 ·rw [if_neg h2,if_neg h2]
  by_cases h3:u < 4294967296
  ·rw [if_pos h3,if_pos h3]
   exact ⟨254,4,65536,rfl,rfl,by decide,by decide⟩
  ·rw [if_neg h3,if_neg h3]
   exact ⟨255,8,4294967296,rfl,rfl,by decide,by decide⟩
theorem zdd (x:Nat):∀ k,(les x k).length=k
 | 0=>rfl
 | k + 1=>by
  have:=zdd (x / 256) k
  show (x % 256 :: les (x / 256) k).length=_
  rw [List.length_cons,this]
theorem zxc (u wd j:Nat) (h:j < wd):(les u wd).take (j + 1)=(les u wd).take j ++ [u / 256 ^ j % 256]:=by
 have hg:=zs2 u wd j h
 have hl:j < (les u wd).length:=by rw [zdd];exact h
 rw [List.take_add_one,zady hl]
 rw [List.getD_eq_getElem?_getD,zady hl] at hg
 simp only [Option.getD_some] at hg
 rw [hg]
 rfl
theorem zaaz (u j:Nat):[Value.int .u8 ((u:Int) / 2 ^ (8 * j) % 256)]=bts [u / 256 ^ j % 256]:=by
 have e:(u:Int) / 2 ^ (8 * j) % 256=((u / 256 ^ j % 256:Nat):Int):=by
  rw [← zhm]
  push_cast
  rfl
 rw [e]
 rfl
set_option maxHeartbeats 4000000 in
theorem zni {w:World} (hf:Forms w) {n c:Nat} {ao:Option Addr} {l:List Nat} (hl:Sl w ao n c (bts l)) (hn:n < 1000000000) (x:Int) (hx:-9223372036854775808 ≤ x∧x < 9223372036854775808):
  Calls Tryz.prog 158 #[.slice ao n c,.int .i64 x] w (RetO 5 w.heap.size (n + (intL (x % 18446744073709551616).toNat).length) (bts (l ++ intL (x % 18446744073709551616).toNat)) w):=by
 obtain ⟨u,hu,hu2⟩:∃ u:Nat,x % 18446744073709551616=u∧u < 18446744073709551616:=⟨(x % 18446744073709551616).toNat,by omega,by omega⟩
 rw [hu,Int.toNat_natCast]
 have e0:IntKind.u64.wrap x=u:=by rw [IntKind.wrap_u64];omega
 have g0:w.cell? ⟨0,0,none⟩=some (.int .u8 253):=hf 0 _ rfl
 have g1:w.cell? ⟨0,1,none⟩=some (.int .i64 2):=hf 1 _ rfl
 have g2:w.cell? ⟨0,2,none⟩=some (.int .u64 253):=hf 2 _ rfl
 have HF:=zadv hf
 have HL:=zadv hl
 clear hf hl
 by_cases h1:u < 253
 ·have k1:(u:Int) < 253:=by omega
  have e1:IntKind.u8.wrap x=u:=by rw [IntKind.wrap_u8];omega
  have ei:intL u=[u]:=by unfold intL;rw [if_pos h1]
  rw [ei]
  clear hu ei
  have hb:=zat w (.cells #[.int .u8 (u:Int)] 5)
  have BE:=zadv (zf9 (HL.out.keep (zadw _) hb) (show Sl (w.alloc (.cells #[.int .u8 (u:Int)] 5)) (some ⟨w.heap.size,0,none⟩) 1 1 (bts [u]) from zcp w #[.int .u8 (u:Int)] 5 1 w.heap.size (0,0) rfl rfl) (by omega))
  have HB:=zadv hb
  clear hb
  go_enter Tryz.func158,Tryz.ntmps158
  go_wp2_with fail
  refine BE.out.mono ?_
  rintro _ w2 ⟨a2,c2,rfl,hb2,own2⟩
  have B2:=zadv (HB.out.trans (hb2.mono HB.out.size))
  have O2:=zadv (za0 own2 HB.out.size)
  clear BE hb2 own2 e0 e1
  go_wp2
  go_ret
  exact ⟨a2,c2,rfl,B2.out,O2.out⟩
 ·have k1:¬ (u:Int) < 253:=by omega
  clear hu
  go_enter Tryz.func158,Tryz.ntmps158
  go_wp2_with fail
  go_loopw [27] (fun v27 wr=>∃ i:Nat,i ≤ 2∧v27=.int .i64 i∧wr.heap[w.heap.size]?=some (.cells (frm (fix u i)) 299)∧Below w.heap.size w wr) (fun v27 _=>2 - (intOf v27).toNat)
  case atStart=>exact ⟨0,by omega,rfl,heap_alloc_new w _,zat w _⟩
  case round=>
   obtain ⟨i,hi,rfl,hbx,hb⟩:=hrel
   have f3:=(HF.out.keep (zadw _) hb) 3 _ rfl
   have f4:=(HF.out.keep (zadw _) hb) 4 _ rfl
   have f5:=(HF.out.keep (zadw _) hb) 5 _ rfl
   have f6:=(HF.out.keep (zadw _) hb) 6 _ rfl
   have f7:=(HF.out.keep (zadw _) hb) 7 _ rfl
   have f8:=(HF.out.keep (zadw _) hb) 8 _ rfl
   have HBx:=zadv hbx
   have HB:=zadv hb
   have hz:=hb.size
   have hzx:=(zadu hbx).1
   clear hb hbx g0 g1 g2
   match i,hi with
   | 0,_=>
    by_cases h2:u < 65536
    ·have k2:¬ (65536:Int) ≤ u:=by omega
     have k3:(u:Int) < 65536:=by omega
     go_wp2
     refine ⟨⟨1,by omega,rfl,?_,HB.out.trans ((zat wr _).mono hz)⟩,by simp [intOf]⟩
     rw [box3 HBx.out hzx,show fix u 1=fix u 0 by show (if u < 65536 then 0 else 1)=0;rw [if_pos h2]]
    ·have k2:(65536:Int) ≤ u:=by omega
     have k3:¬ (u:Int) < 65536:=by omega
     have HBx':wr.heap[w.heap.size]?=some (.cells #[.int .u8 253,.int .i64 2,.int .u64 253] 299):=HBx.out
     have hq:(wr.alloc (.cells #[.int .u8 254,.int .i64 4,.int .u64 65536] 299)).heap[w.heap.size]?=some (.cells #[.int .u8 253,.int .i64 2,.int .u64 253] 299):=box3 HBx' hzx _
     have y0:(wr.alloc (.cells #[.int .u8 254,.int .i64 4,.int .u64 65536] 299)).cell? ⟨w.heap.size,0,none⟩=some (.int .u8 253):=(zao hq 0).1
     have y1:(wr.alloc (.cells #[.int .u8 254,.int .i64 4,.int .u64 65536] 299)).cell? ⟨w.heap.size,1,none⟩=some (.int .i64 2):=(zao hq 1).1
     have y2:(wr.alloc (.cells #[.int .u8 254,.int .i64 4,.int .u64 65536] 299)).cell? ⟨w.heap.size,2,none⟩=some (.int .u64 253):=(zao hq 2).1
     have z0:(wr.alloc (.cells #[.int .u8 254,.int .i64 4,.int .u64 65536] 299)).frozen? ⟨w.heap.size,0,none⟩=false:=(zao hq 0).2
     have z1:(wr.alloc (.cells #[.int .u8 254,.int .i64 4,.int .u64 65536] 299)).frozen? ⟨w.heap.size,1,none⟩=false:=(zao hq 1).2
     have z2:(wr.alloc (.cells #[.int .u8 254,.int .i64 4,.int .u64 65536] 299)).frozen? ⟨w.heap.size,2,none⟩=false:=(zao hq 2).2
     have HQ:=zadv hq
     clear hq
     have HB5:=zadv (HB.out.trans ((zat wr (.cells #[.int .u8 254,.int .i64 4,.int .u64 65536] 299)).mono hz))
     go_upto_region 9 with (fail)
     have HQ2:Hid ((wr.alloc (.cells #[.int .u8 254,.int .i64 4,.int .u64 65536] 299)).cell? ⟨wr.heap.size,0,none⟩=some (.int .u8 254)∧(wr.alloc (.cells #[.int .u8 254,.int .i64 4,.int .u64 65536] 299)).cell? ⟨wr.heap.size,1,none⟩=some (.int .i64 4)∧(wr.alloc (.cells #[.int .u8 254,.int .i64 4,.int .u64 65536] 299)).cell? ⟨wr.heap.size,2,none⟩=some (.int .u64 65536)):=
      ⟨(zao (heap_alloc_new wr _) 0).1,(zao (heap_alloc_new wr _) 1).1,(zao (heap_alloc_new wr _) 2).1⟩
     generalize (wr.alloc (.cells #[.int .u8 254,.int .i64 4,.int .u64 65536] 299))=w5 at *
     obtain ⟨t0,t1,t2⟩:=HQ2.out
     go_wp2
     refine ⟨⟨1,by omega,rfl,?_,((HB5.out.setCell (p:=⟨w.heap.size,0,none⟩) (zadw _) _).setCell (p:=⟨w.heap.size,1,none⟩) (zadw _) _).setCell (p:=⟨w.heap.size,2,none⟩) (zadw _) _⟩,by simp [intOf]⟩
     rw [show fix u 1=1 by show (if u < 65536 then 0 else 1)=1;rw [if_neg h2]]
     exact set3 HQ.out
   | 1,_=>
    by_cases h3:u < 4294967296
    ·have k2:¬ (4294967296:Int) ≤ u:=by omega
     have k3:(u:Int) < 4294967296:=by omega
     go_wp2
     refine ⟨⟨2,by omega,rfl,?_,HB.out.trans ((zat wr _).mono hz)⟩,by simp [intOf]⟩
     rw [box3 HBx.out hzx,show fix u 2=fix u 1 by show (if u < 65536 then 0 else if u < 4294967296 then 1 else 2)=(if u < 65536 then 0 else 1);rw [if_pos h3]]
    ·have k2:(4294967296:Int) ≤ u:=by omega
     have k3:¬ (u:Int) < 4294967296:=by omega
     have h2:¬ u < 65536:=by omega
     have HBx':wr.heap[w.heap.size]?=some (.cells #[.int .u8 254,.int .i64 4,.int .u64 65536] 299):=by have:=HBx.out;rw [show fix u 1=1 by show (if u < 65536 then 0 else 1)=1;rw [if_neg h2]] at this;exact this
     have hq:(wr.alloc (.cells #[.int .u8 255,.int .i64 8,.int .u64 4294967296] 299)).heap[w.heap.size]?=some (.cells #[.int .u8 254,.int .i64 4,.int .u64 65536] 299):=box3 HBx' hzx _
     have y0:(wr.alloc (.cells #[.int .u8 255,.int .i64 8,.int .u64 4294967296] 299)).cell? ⟨w.heap.size,0,none⟩=some (.int .u8 254):=(zao hq 0).1
     have y1:(wr.alloc (.cells #[.int .u8 255,.int .i64 8,.int .u64 4294967296] 299)).cell? ⟨w.heap.size,1,none⟩=some (.int .i64 4):=(zao hq 1).1
     have y2:(wr.alloc (.cells #[.int .u8 255,.int .i64 8,.int .u64 4294967296] 299)).cell? ⟨w.heap.size,2,none⟩=some (.int .u64 65536):=(zao hq 2).1
     have z0:(wr.alloc (.cells #[.int .u8 255,.int .i64 8,.int .u64 4294967296] 299)).frozen? ⟨w.heap.size,0,none⟩=false:=(zao hq 0).2
     have z1:(wr.alloc (.cells #[.int .u8 255,.int .i64 8,.int .u64 4294967296] 299)).frozen? ⟨w.heap.size,1,none⟩=false:=(zao hq 1).2
     have z2:(wr.alloc (.cells #[.int .u8 255,.int .i64 8,.int .u64 4294967296] 299)).frozen? ⟨w.heap.size,2,none⟩=false:=(zao hq 2).2
     have HQ:=zadv hq
     clear hq
     have HB5:=zadv (HB.out.trans ((zat wr (.cells #[.int .u8 255,.int .i64 8,.int .u64 4294967296] 299)).mono hz))
     go_upto_region 9 with (fail)
     have HQ2:Hid ((wr.alloc (.cells #[.int .u8 255,.int .i64 8,.int .u64 4294967296] 299)).cell? ⟨wr.heap.size,0,none⟩=some (.int .u8 255)∧(wr.alloc (.cells #[.int .u8 255,.int .i64 8,.int .u64 4294967296] 299)).cell? ⟨wr.heap.size,1,none⟩=some (.int .i64 8)∧(wr.alloc (.cells #[.int .u8 255,.int .i64 8,.int .u64 4294967296] 299)).cell? ⟨wr.heap.size,2,none⟩=some (.int .u64 4294967296)):=
      ⟨(zao (heap_alloc_new wr _) 0).1,(zao (heap_alloc_new wr _) 1).1,(zao (heap_alloc_new wr _) 2).1⟩
     generalize (wr.alloc (.cells #[.int .u8 255,.int .i64 8,.int .u64 4294967296] 299))=w5 at *
     obtain ⟨t0,t1,t2⟩:=HQ2.out
     go_wp2
     refine ⟨⟨2,by omega,rfl,?_,((HB5.out.setCell (p:=⟨w.heap.size,0,none⟩) (zadw _) _).setCell (p:=⟨w.heap.size,1,none⟩) (zadw _) _).setCell (p:=⟨w.heap.size,2,none⟩) (zadw _) _⟩,by simp [intOf]⟩
     rw [show fix u 2=2 by show (if u < 65536 then 0 else if u < 4294967296 then 1 else 2)=2;rw [if_neg h2,if_neg h3]]
     exact set3 HQ.out
   | 2,_=>
    obtain ⟨ah,wd,ls,hfrm,hint,hah,hwd⟩:=zxb h1
    have hbx:wr.heap[w.heap.size]?=some (.cells #[.int .u8 ah,.int .i64 wd,.int .u64 ls] 299):=by rw [HBx.out,hfrm]
    have y0:wr.cell? ⟨w.heap.size,0,none⟩=some (.int .u8 ah):=(zao hbx 0).1
    have HI:=zadv hint
    have hb:=zat wr (.cells #[.int .u8 (ah:Int)] 5)
    have BE:=zadv (zf9 ((HL.out.keep (zadw _) HB.out).keep (zadw _) hb) (show Sl (wr.alloc (.cells #[.int .u8 (ah:Int)] 5)) (some ⟨wr.heap.size,0,none⟩) 1 1 (bts [ah]) from zcp wr #[.int .u8 (ah:Int)] 5 1 wr.heap.size (0,0) rfl rfl) (by omega))
    have HB6:=zadv (HB.out.trans (hb.mono hz))
    have hx6:=zadv ((hb.block w.heap.size hzx).trans hbx)
    have hz6:=hb.size
    clear hb hbx hfrm hint HBx f3 f4 f5 f6 f7 f8
    go_wp2_with fail
    refine BE.out.mono ?_
    rintro _ w7 ⟨a7,c7,rfl,hb7,own7⟩
    have hzw:w.heap.size ≤ (wr.alloc (.cells #[.int .u8 (ah:Int)] 5)).heap.size:=Nat.le_trans hz hz6
    have B7:=zadv (HB6.out.trans (hb7.mono hzw))
    have O7:=zadv (za0 own7 hzw)
    have hx7:=(hb7.block w.heap.size (Nat.lt_of_lt_of_le hzx hz6)).trans hx6.out
    have y1:w7.cell? ⟨w.heap.size,1,none⟩=some (.int .i64 wd):=(zao hx7 1).1
    clear BE hb7 own7 hx7 y0
    go_wp2
    go_loopw [9,44] (fun v9 v44 wq=>∃ j:Nat,j ≤ wd∧v44=.int .i64 j∧wq.ownsRow w.heap.size 5 1 v9 (n + 1 + j) (bts (l ++ [ah] ++ (les u wd).take j))∧Below w.heap.size w wq) (fun _ v44 _=>wd - (intOf v44).toNat)
    case atStart=>exact ⟨0,by omega,rfl,by simpa using O7.out,B7.out⟩
    case round=>
     obtain ⟨j,hj,rfl,hown,hbq⟩:=hrel
     obtain ⟨a9,c9,rfl⟩:=za8 hown
     by_cases hlt:j < wd
     ·have hlt':(j:Int) < wd:=by omega
      have hzq:=hbq.size
      have e8:wrap64 (8 * (j:Int))=8 * j:=IntWalk.wrap64_in _ (by omega)
      go_wp2_with (at_builtin;refine zm2 zgt rfl _ _ rfl (B:=w.heap.size) rfl hown rfl rfl (by omega) hzq ?_)
      intro ao2 cap2 w2 hown2 hb2
      have B2:=zadv (hbq.trans hb2)
      have O2:=zadv (show w2.ownsRow w.heap.size 5 1 (.slice ao2 (n + 1 + (j + 1)) cap2) (n + 1 + (j + 1)) (bts (l ++ [ah] ++ (les u wd).take (j + 1))) by
       rw [zxc u wd j hlt,← List.append_assoc,zbq,← zaaz u j,← Nat.add_assoc]
       have e:l ++ [ah] ++ (les u wd).take j=l ++ ah :: (les u wd).take j:=by rw [List.append_assoc];rfl
       rw [e]
       exact hown2)
      clear hown2 hb2 hown hbq
      go_wp2
      go_roundw
      case rel=>exact ⟨j + 1,by omega,by go_num,O2.out,B2.out⟩
      case measure=>simp [intOf];omega
     ·obtain rfl:j=wd:=by omega
      have hlt':¬ (j:Int) < j:=by omega
      have HO:=zadv (show wr.ownsRow w.heap.size 5 1 (.slice a9 (n + 1 + j) c9) (n + 1 + j) (bts (l ++ (ah :: les u j))) by
       have e:l ++ [ah] ++ (les u j).take j=l ++ (ah :: les u j):=by rw [List.take_of_length_le (by rw [zdd];exact zadw _),List.append_assoc];rfl
       rw [← e];exact hown)
      have HBq:=zadv hbq
      clear hown hbq
      go_wp2
      go_ret
      have e:n + (ah :: les u j).length=n + 1 + j:=by rw [List.length_cons,zdd];omega
      rw [HI.out,e]
      exact ⟨a9,c9,rfl,HBq.out,HO.out⟩
end
end Go.Proofs.YthjgiamfaijoeaaGreatDoor
