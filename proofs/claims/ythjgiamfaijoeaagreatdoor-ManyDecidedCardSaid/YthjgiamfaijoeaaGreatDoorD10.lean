/- What is proved: parts of the walk and of the plain law. No condition but those each law names. -/
import Derived.Test.YthjgiamfaijoeaaGreatDoorD09
import Derived.Defers
import Derived.Recover
import Derived.RangeFuncBox
import Derived.RangeFuncLeaves
import Derived.RangeFuncWrites
import Derived.Shelf.Abstract
import Derived.OwnWalkIn
import Derived.TacticsInMore
import Derived.LoopNIn
import Derived.LoopIn
import Derived.Test.YthjgiamfaijoeaaGreatDoorD00
set_option linter.unusedSimpArgs false
set_option linter.unusedVariables false
set_option maxRecDepth 100000
namespace Go.Proofs.YthjgiamfaijoeaaGreatDoor
section
open Go.RowKit
theorem zg6 {w:World} {n c:Nat} {ao:Option Addr} {l h:List Nat} (hl:Sl w ao n c (bts l)) (hh:h.length=32) (hn:n < 1000000000):
  Calls Tryz.prog 296 #[.slice ao n c,.agg (bts h).toArray] w (RetO 5 w.heap.size (n + 32) (bts (l ++ h)) w):=by
 have hb:=zat w (.cells (bts h).toArray 58)
 have hsl:Sl (w.alloc (.cells (bts h).toArray 58)) (some ⟨w.heap.size,0,none⟩) 32 32 (bts h):=zcp w (bts h).toArray 58 32 w.heap.size (0,0) rfl (by rw [List.size_toArray,zam,hh])
 have BE:=zadv (zf9 (hl.keep (zadw _) hb) hsl (by omega))
 have HB:=zadv hb
 have hs:(bts h).length=32:=by rw [zam,hh]
 clear hb hsl hl
 go_enter Tryz.func296,Tryz.ntmps296
 go_wp2_with fail
 refine BE.out.mono ?_
 rintro _ w2 ⟨a2,c2,rfl,hb2,own2⟩
 have B2:=zadv (HB.out.trans (hb2.mono HB.out.size))
 have O2:=zadv (za0 own2 HB.out.size)
 clear BE hb2 own2
 go_wp2
 go_ret
 exact ⟨a2,c2,rfl,B2.out,O2.out⟩
def intI (x:Int):List Nat:=intL (x % 18446744073709551616).toNat
theorem zba (x:Int):(intI x).length ≤ 9:=by
 unfold intI intL
 split
 ·simp
 ·split
  ·rw [List.length_cons,zdd];decide
  ·split
   ·rw [List.length_cons,zdd];decide
   ·rw [List.length_cons,zdd];decide
def zbh (xs:List Int):List Nat:=xs.flatMap intI
theorem zcf (xs:List Int):(zbh xs).length ≤ 9 * xs.length:=by
 induction xs with
 | nil=>exact zadw _
 | cons x xs ih=>
  have:=zba x
  show (intI x ++ zbh xs).length ≤ _
  rw [List.length_append,List.length_cons]
  omega
theorem zra {xs:List Int} {j:Nat} {x:Int} (h:xs[j]?=some x):zbh (xs.take (j + 1))=zbh (xs.take j) ++ intI x:=by
 unfold zbh
 rw [List.take_add_one,h,List.flatMap_append]
 simp
def I64 (x:Int):Prop:=-9223372036854775808 ≤ x∧x < 9223372036854775808
set_option maxHeartbeats 2000000 in
theorem zfl {w:World} (hf:Forms w) {n c m d:Nat} {ao bo:Option Addr} {l:List Nat} {xs:List Int} (hl:Sl w ao n c (bts l)) (hx:Sl w bo m d (xs.map (Value.int .i64))) (hr:∀ x ∈ xs,I64 x) (hn:n < 100000) (hm:0 < m) (hm2:m ≤ 1000):
  Calls Tryz.prog 307 #[.slice ao n c,.slice bo m d] w (RetO 5 w.heap.size (n + (zbh xs).length) (bts (l ++ zbh xs)) w):=by
 have hxl:xs.length=m:=by rw [← hx.len,List.length_map]
 have hll:l.length=n:=by rw [← hl.len,zam]
 have HX:=zadv hx
 have HL:=zadv hl
 have HF:=zadv hf
 have HR:=zadv hr
 clear hx hl hf hr
 go_enter Tryz.func307,Tryz.ntmps307
 go_wp2
 go_loopw [0,9] (fun v0 v9 wr=>∃ (j:Nat) (ar:Option Addr) (cr:Nat),j ≤ m∧v9=.int .i64 j∧v0=.slice ar (n + (zbh (xs.take j)).length) cr∧Sl wr ar (n + (zbh (xs.take j)).length) cr (bts (l ++ zbh (xs.take j)))∧Below w.heap.size w wr∧
  (0 < j→wr.ownsRow w.heap.size 5 1 (.slice ar (n + (zbh (xs.take j)).length) cr) (n + (zbh (xs.take j)).length) (bts (l ++ zbh (xs.take j))))) (fun _ v9 _=>m - (intOf v9).toNat)
 case atStart=>exact ⟨0,ao,c,by omega,rfl,rfl,by simpa [zbh] using HL.out,Below.refl _ _,fun h=>absurd h (by omega)⟩
 case round=>
  obtain ⟨j,ar,cr,hj,rfl,rfl,hsl,hb,hown⟩:=hrel
  have HO:=zadv hown
  have HB:=zadv hb
  by_cases hlt:j < m
  ·have hlt':(j:Int) < m:=by omega
   obtain ⟨x,hxj⟩:∃ x,xs[j]?=some x:=⟨_,zady (by omega)⟩
   obtain ⟨b,o,rfl,hbl,hc⟩:=HX.out.at (by omega)
   have q0:=za4 (zadw _) hb (hc j (.int .i64 x) (by rw [List.getElem?_map,hxj];rfl))
   have hlen:=zcf (xs.take j)
   have hlt2:(xs.take j).length ≤ 1000:=by rw [List.length_take];omega
   have IC:=zadv (zni (HF.out.keep (zadw _) hb) hsl (by omega) x (HR.out x (List.mem_of_getElem? hxj)))
   have HT:=zadv (zra hxj)
   have hz:=hb.size
   clear hown hb hsl hxj hc
   go_wp2_with fail
   refine IC.out.mono ?_
   rintro _ w2 ⟨a2,c2,rfl,hb2,own2⟩
   have B2:=zadv (HB.out.trans (hb2.mono hz))
   have el:n + (zbh (xs.take j)).length + (intL (x % 18446744073709551616).toNat).length=n + (zbh (xs.take (j + 1))).length:=by rw [HT.out,List.length_append];show _=n + (_ + (intL _).length);omega
   have eb:l ++ zbh (xs.take j) ++ intL (x % 18446744073709551616).toNat=l ++ zbh (xs.take (j + 1)):=by rw [HT.out,List.append_assoc];rfl
   rw [el,eb] at own2
   rw [el]
   have O2:=zadv (za0 own2 hz)
   clear IC hb2 own2 el eb
   go_wp2
   go_roundw
   case rel=>exact ⟨j + 1,a2,c2,by omega,by go_num,rfl,Sl.own O2.out,B2.out,fun _=>O2.out⟩
   case measure=>simp [intOf];omega
  ·obtain rfl:j=m:=by omega
   have hlt':¬ (j:Int) < j:=by omega
   have e:xs.take j=xs:=by rw [← hxl,List.take_length]
   have H2:=zadv (show Sl wr ar (n + (zbh xs).length) cr (bts (l ++ zbh xs)) by rw [e] at hsl;exact hsl)
   have HO2:=zadv (show wr.ownsRow w.heap.size 5 1 (.slice ar (n + (zbh xs).length) cr) (n + (zbh xs).length) (bts (l ++ zbh xs)) by have:=HO.out hm;rw [e] at this;exact this)
   rw [e]
   clear hsl hb hown HO e
   go_wp2
   go_ret
   exact ⟨ar,cr,rfl,HB.out,HO2.out⟩
end
section
open Go.RowKit
theorem zh3 (k:Int) (w:World):Calls Tryz.prog 299 #[.bool true,.int .i64 k] w fun e w'=>e=.returned (.tuple #[])∧w'=w:=by
 go_enter Tryz.func299,Tryz.ntmps299
 go_wp2
 go_end0
 exact ⟨rfl,rfl⟩
theorem zfm (k:Int) (w:World):Calls Tryz.prog 299 #[.bool false,.int .i64 k] w fun e w'=>e=.panicked [{ v:=.iface 364 (.agg #[.int .i64 k]),recovered:=false }]∧w'=w:=by
 go_enter Tryz.func299,Tryz.ntmps299
 go_wp2
 exact ⟨rfl,rfl,rfl⟩
def Rdr (w:World) (p:Nat) (v:Value) (k:Int):Prop:=w.heap[p]?=some (.cells #[v,.int .i64 k] 304)
theorem zpf {w:World} {ao:Option Addr} {n c:Nat} {l:List Nat} (hl:Sl w ao n c (bts l)) (hn:n < 1000000):Calls Tryz.prog 159 #[.slice ao n c] w fun e w'=>∃ p a2 c2,e=.returned (.pointer (some ⟨p,0,none⟩))∧w.heap.size ≤ p∧Below w.heap.size w w'∧Rdr w' p (.slice a2 n c2) 0∧Sl w' a2 n c2 (bts l):=by
 have CL:=zadv (zb3 hl (by omega))
 clear hl
 go_enter Tryz.func159,Tryz.ntmps159
 go_wp2_with fail
 refine CL.out.mono ?_
 rintro _ w2 ⟨a2,c2,rfl,hb2,own2⟩
 go_wp2
 go_ret
 have hz:=hb2.size
 have h3:Below w.heap.size w (w2.alloc (.cells #[.slice a2 n c2,.int .i64 0] 304)):=hb2.alloc hz _
 exact ⟨w2.heap.size,a2,c2,rfl,hz,h3,heap_alloc_new w2 _,(Sl.own own2).keep (zadw _) (zat w2 _)⟩
theorem zga {w:World} {p:Nat} {ao:Option Addr} {n c:Nat} {k:Int} (hr:Rdr w p (.slice ao n c) k) {m:Nat} (hm:n < m):Calls Tryz.prog 300 #[.pointer (some ⟨p,0,none⟩),.int .i64 m] w fun e w'=>e=.panicked [{ v:=.iface 364 (.agg #[.int .i64 4]),recovered:=false }]∧w'=w:=by
 have h0:w.cell? ⟨p,0,none⟩=some (.slice ao n c):=by unfold Rdr at hr;simp [World.cell?,hr]
 have hlt:¬ (m:Int) ≤ n:=by omega
 go_enter Tryz.func300,Tryz.ntmps300
 go_wp2_with fail
 refine (zfm _ _).mono ?_
 rintro _ _ ⟨rfl,rfl⟩
 exact ⟨rfl,rfl,rfl⟩
theorem zj9 {w:World} {p:Nat} {ao:Option Addr} {n c:Nat} {k:Int} (hr:Rdr w p (.slice ao n c) k) {m:Nat} (hm:m ≤ n) (hc:n ≤ c):Calls Tryz.prog 300 #[.pointer (some ⟨p,0,none⟩),.int .i64 m] w fun e w'=>e=.returned (.slice ao m m)∧w'=w.setCell ⟨p,0,none⟩ (.slice (cutA ao m c) (n - m) (c - m)):=by
 have h0:w.cell? ⟨p,0,none⟩=some (.slice ao n c):=by unfold Rdr at hr;simp [World.cell?,hr]
 have h1:w.frozen? ⟨p,0,none⟩=false:=by unfold Rdr at hr;simp [World.frozen?,hr]
 have hlt:(m:Int) ≤ n:=by omega
 have hmc:m ≤ c:=by omega
 go_enter Tryz.func300,Tryz.ntmps300
 go_wp2_with fail
 refine (zh3 _ _).mono ?_
 rintro _ _ ⟨rfl,rfl⟩
 go_wp2
 go_ret
 exact ⟨rfl,rfl⟩
theorem Rdr.set {w:World} {p:Nat} {v v':Value} {k:Int} (hr:Rdr w p v k):Rdr (w.setCell ⟨p,0,none⟩ v') p v' k:=by
 unfold Rdr at *
 simp [World.setCell,Array.getElem?_modify,hr]
end
section
open Go.RowKit
theorem eq143 {w:World} {q x y:Nat} (wd ls:Int) (h0:w.cell? ⟨q,0,none⟩=some (.int .u8 y)):Calls Tryz.prog 302 #[.agg #[.int .u8 x,.int .i64 wd,.int .u64 ls],.pointer (some ⟨q,0,none⟩)] w fun e w'=>e=.returned (.bool ((x:Int) == (y:Int)))∧Below w.heap.size w w':=by
 have hb:=zat w (.cells #[.int .u8 x,.int .i64 wd,.int .u64 ls] 299)
 have h1:=za4 (zadw _) hb h0
 have HB:=zadv hb
 clear hb h0
 go_enter Tryz.func302,Tryz.ntmps302
 go_wp2
 go_ret
 exact ⟨rfl,HB.out⟩
theorem zh4 {w:World} {q x y:Nat} (wd ls:Int) (h0:w.cell? ⟨q,0,none⟩=some (.int .u8 y)) (h:x=y):Calls Tryz.prog 302 #[.agg #[.int .u8 x,.int .i64 wd,.int .u64 ls],.pointer (some ⟨q,0,none⟩)] w fun e w'=>e=.returned (.bool true)∧Below w.heap.size w w':=by
 have:=eq143 (x:=x) wd ls h0
 rwa [show ((x:Int) == (y:Int))=true by subst h;exact beq_self_eq_true _] at this
theorem zka {w:World} {q x y:Nat} (wd ls:Int) (h0:w.cell? ⟨q,0,none⟩=some (.int .u8 y)) (h:x ≠ y):Calls Tryz.prog 302 #[.agg #[.int .u8 x,.int .i64 wd,.int .u64 ls],.pointer (some ⟨q,0,none⟩)] w fun e w'=>e=.returned (.bool false)∧Below w.heap.size w w':=by
 have:=eq143 (x:=x) wd ls h0
 rwa [show ((x:Int) == (y:Int))=false by rw [beq_eq_false_iff_ne];omega] at this
def zkb (y:Nat):Int:=if y=253 then 0 else if y=254 then 1 else if y=255 then 2 else -1
theorem ztb {w:World} (hf:Forms w) {q y:Nat} (h0:w.cell? ⟨q,0,none⟩=some (.int .u8 y)):Calls Tryz.prog 301 #[.slice (some ⟨0,0,none⟩) 3 3,.func (.func 302) #[] #[.pointer (some ⟨q,0,none⟩)]] w fun e w'=>e=.returned (.int .i64 (zkb y))∧Below w.heap.size w w':=by
 have HF:=zadv hf
 have H0:=zadv h0
 clear hf h0
 go_enter Tryz.func301,Tryz.ntmps301
 go_wp2_with fail
 go_loopw [8] (fun v8 wr=>∃ j:Nat,j ≤ 3∧v8=.int .i64 j∧(∀ i,i < j→y ≠ 253 + i)∧Below w.heap.size w wr) (fun v8 _=>3 - (intOf v8).toNat)
 case atStart=>exact ⟨0,by omega,rfl,fun i h=>absurd h (by omega),Below.refl _ _⟩
 case round=>
  obtain ⟨j,hj,rfl,hno,hb⟩:=hrel
  have HB:=zadv hb
  have HN:=zadv hno
  have F1:=HF.out.keep (zadw _) hb
  have E:=fun (_x:Nat)=>za4 (zadw _) hb H0.out
  have hz:=hb.size
  clear hb hno
  by_cases hlt:j < 3
  ·obtain rfl | rfl | rfl:j=0 ∨ j=1 ∨ j=2:=by omega
   ·have c0:=F1 0 _ rfl
    have c1:=F1 1 _ rfl
    have c2:=F1 2 _ rfl
    clear F1
    by_cases hy:253=y
    ·have E1:=zadv (zh4 2 253 (E 253) hy)
     have HF:=zadv (show (Value.int .i64 0)=.int .i64 (zkb y) by rw [← hy];rfl)
     clear E hy
     go_wp2_with fail
     refine E1.out.mono ?_
     rintro _ w2 ⟨rfl,hb2⟩
     have B2:=zadv (HB.out.trans (hb2.mono hz))
     clear hb2 E1
     go_wp2
     go_ret
     exact ⟨congrArg Ending.returned HF.out,B2.out⟩
    ·have E1:=zadv (zka 2 253 (E 253) hy)
     have HN2:=zadv (show ∀ i,i < 0 + 1→y ≠ 253 + i from fun i hi=>by
      by_cases h:i < 0
      ·exact HN.out i h
      ·have:i=0:=by omega
       omega)
     clear E hy
     go_wp2_with fail
     refine E1.out.mono ?_
     rintro _ w2 ⟨rfl,hb2⟩
     have B2:=zadv (HB.out.trans (hb2.mono hz))
     clear hb2 E1
     go_wp2
     go_roundw
     case rel=>exact ⟨0+1,by omega,rfl,HN2.out,B2.out⟩
     case measure=>simp [intOf]
   ·have c0:=F1 3 _ rfl
    have c1:=F1 4 _ rfl
    have c2:=F1 5 _ rfl
    clear F1
    by_cases hy:254=y
    ·have E1:=zadv (zh4 4 65536 (E 254) hy)
     have HF:=zadv (show (Value.int .i64 1)=.int .i64 (zkb y) by rw [← hy];rfl)
     clear E hy
     go_wp2_with fail
     refine E1.out.mono ?_
     rintro _ w2 ⟨rfl,hb2⟩
     have B2:=zadv (HB.out.trans (hb2.mono hz))
     clear hb2 E1
     go_wp2
     go_ret
     exact ⟨congrArg Ending.returned HF.out,B2.out⟩
    ·have E1:=zadv (zka 4 65536 (E 254) hy)
     have HN2:=zadv (show ∀ i,i < 1 + 1→y ≠ 253 + i from fun i hi=>by
      by_cases h:i < 1
      ·exact HN.out i h
      ·have:i=1:=by omega
       omega)
     clear E hy
     go_wp2_with fail
     refine E1.out.mono ?_
     rintro _ w2 ⟨rfl,hb2⟩
     have B2:=zadv (HB.out.trans (hb2.mono hz))
     clear hb2 E1
     go_wp2
     go_roundw
     case rel=>exact ⟨1+1,by omega,rfl,HN2.out,B2.out⟩
     case measure=>simp [intOf]
   ·have c0:=F1 6 _ rfl
    have c1:=F1 7 _ rfl
    have c2:=F1 8 _ rfl
    clear F1
    by_cases hy:255=y
    ·have E1:=zadv (zh4 8 4294967296 (E 255) hy)
     have HF:=zadv (show (Value.int .i64 2)=.int .i64 (zkb y) by rw [← hy];rfl)
     clear E hy
     go_wp2_with fail
     refine E1.out.mono ?_
     rintro _ w2 ⟨rfl,hb2⟩
     have B2:=zadv (HB.out.trans (hb2.mono hz))
     clear hb2 E1
     go_wp2
     go_ret
     exact ⟨congrArg Ending.returned HF.out,B2.out⟩
    ·have E1:=zadv (zka 8 4294967296 (E 255) hy)
     have HN2:=zadv (show ∀ i,i < 2 + 1→y ≠ 253 + i from fun i hi=>by
      by_cases h:i < 2
      ·exact HN.out i h
      ·have:i=2:=by omega
       omega)
     clear E hy
     go_wp2_with fail
     refine E1.out.mono ?_
     rintro _ w2 ⟨rfl,hb2⟩
     have B2:=zadv (HB.out.trans (hb2.mono hz))
     clear hb2 E1
     go_wp2
     go_roundw
     case rel=>exact ⟨2+1,by omega,rfl,HN2.out,B2.out⟩
     case measure=>simp [intOf]
  ·obtain rfl:j=3:=by omega
   have HF:=zadv (show (Value.int .i64 (-1))=.int .i64 (zkb y) by
    have h0:=HN.out 0 (by omega)
    have h1:=HN.out 1 (by omega)
    have h2:=HN.out 2 (by omega)
    rw [zkb,if_neg h0,if_neg h1,if_neg h2])
   clear E F1 HN
   go_wp2
   go_ret
   exact ⟨congrArg Ending.returned HF.out,HB.out⟩
end
section
open Go.RowKit
theorem Forms.set {w:World} (hf:Forms w) {p:Nat} (hp:p ≠ 0) (v:Value):Forms (w.setCell ⟨p,0,none⟩ v):=fun j u hj=>by
 rw [World.cell?_setCell_other _ _ _ _ (by intro h;cases h;exact hp rfl)];exact hf j u hj
theorem zcn (w:World) (v:Value) (t:TypeId):(w.alloc (.cells #[v] t)).cell? ⟨w.heap.size,0,none⟩=some v:=by
 unfold World.cell?
 rw [heap_alloc_new w (.cells #[v] t)]
 rfl
theorem zrb {w:World} (hf:Forms w) {p b o n c x:Nat} {k:Int} (hr:Rdr w p (.slice (some ⟨b,o,none⟩) n c) k) (h0:0 < n) (hc:n ≤ c) (hx:w.cell? ⟨b,o,none⟩=some (.int .u8 x)) (hpb:b ≠ p) (hp2:p ≠ 0) (hx3:x < 253):Calls Tryz.prog 228 #[.pointer (some ⟨p,0,none⟩)] w fun e w'=>e=.returned (.int .i64 x)∧Below w.heap.size (w.setCell ⟨p,0,none⟩ (.slice (cutA (some ⟨b,o,none⟩) 1 c) (n - 1) (c - 1))) w':=by
 have T:=zadv (zj9 hr (m:=1) (by omega) hc)
 have hx2:(w.setCell ⟨p,0,none⟩ (.slice (cutA (some ⟨b,o,none⟩) 1 c) (n - 1) (c - 1))).cell? ⟨b,o,none⟩=some (.int .u8 x):=by
  rw [World.cell?_setCell_other _ _ _ _ (by intro h;cases h;exact hpb rfl)];exact hx
 have hf2:=hf.set hp2 (.slice (cutA (some ⟨b,o,none⟩) 1 c) (n - 1) (c - 1))
 have hz:(w.setCell ⟨p,0,none⟩ (.slice (cutA (some ⟨b,o,none⟩) 1 c) (n - 1) (c - 1))).heap.size=w.heap.size:=by simp [World.setCell]
 clear hr hx hf
 obtain ⟨w1,hw1⟩:∃ w1,w1=w.setCell ⟨p,0,none⟩ (.slice (cutA (some ⟨b,o,none⟩) 1 c) (n - 1) (c - 1)):=⟨_,rfl⟩
 have T1:=zadv T.out
 clear T
 rw [← hw1] at hz hx2 hf2 T1 ⊢
 have HZ:=zadv hz
 clear hz hw1
 go_enter Tryz.func228,Tryz.ntmps228
 go_wp2_with fail
 refine T1.out.mono ?_
 rintro _ w2 ⟨rfl,e2⟩
 have e3:w1=w2:=e2.symm
 subst e3
 clear e2
 have hb1:=zat w1 (.cells #[.int .u8 x] 5)
 have F:=zadv (ztb (hf2.keep (zadw _) hb1) (q:=w1.heap.size) (y:=x) (zcn w1 _ 5))
 have B1:=zadv hb1
 clear T1 hf2 hb1
 go_wp2_with fail
 refine F.out.mono ?_
 rintro _ w3 ⟨rfl,hb3⟩
 have hfx:zkb x=-1:=by unfold zkb;rw [if_neg (by omega),if_neg (by omega),if_neg (by omega)]
 rw [hfx]
 have hq:(w1.alloc (.cells #[.int .u8 x] 5)).cell? ⟨w1.heap.size,0,none⟩=some (.int .u8 x):=zcn w1 _ 5
 have hq3:=za4 (zadw _) hb3 hq
 have B3:=zadv (B1.out.trans (hb3.mono B1.out.size))
 clear hb3 hq F hfx
 go_wp2
 go_ret
 exact ⟨rfl,HZ.out ▸ B3.out⟩
end
section
open Go.RowKit
theorem Rdr.left {w:World} {p:Nat} {v:Value} {k:Int} (hr:Rdr w p v k):w.cell? ⟨p,0,none⟩=some v:=by unfold Rdr at hr;unfold World.cell?;rw [hr];rfl
theorem Rdr.why {w:World} {p:Nat} {v:Value} {k:Int} (hr:Rdr w p v k):w.cell? ⟨p,1,none⟩=some (.int .i64 k):=by unfold Rdr at hr;unfold World.cell?;rw [hr];rfl
theorem zxd {w:World} {p n c:Nat} {ao:Option Addr} {k:Int} (hr:Rdr w p (.slice ao n c) k) (h0:0 < n):Calls Tryz.prog 162 #[.pointer (some ⟨p,0,none⟩)] w fun e w'=>e=.returned (.int .i64 5)∧w'=w:=by
 have h1:=hr.left
 have h2:=hr.why
 have hlt:(n:Int) > 0:=by omega
 clear hr
 go_enter Tryz.func162,Tryz.ntmps162
 go_wp2
 go_ret
 exact ⟨rfl,rfl⟩
theorem zaa0 {w:World} {p c:Nat} {ao:Option Addr} {k:Int} (hr:Rdr w p (.slice ao 0 c) k):Calls Tryz.prog 162 #[.pointer (some ⟨p,0,none⟩)] w fun e w'=>e=.returned (.int .i64 k)∧w'=w:=by
 have h1:=hr.left
 have h2:=hr.why
 clear hr
 go_enter Tryz.func162,Tryz.ntmps162
 go_wp2
 go_ret
 exact ⟨rfl,rfl⟩
theorem zlj {w:World} {p c:Nat} {ao:Option Addr} {k:Int} (hr:Rdr w p (.slice ao 0 c) k):Calls Tryz.prog 228 #[.pointer (some ⟨p,0,none⟩)] w fun e w'=>e=.panicked [{ v:=.iface 364 (.agg #[.int .i64 4]),recovered:=false }]∧Below w.heap.size w w':=by
 have T:=zadv (zga hr (m:=1) (by omega))
 clear hr
 go_enter Tryz.func228,Tryz.ntmps228
 go_wp2_with fail
 refine T.out.mono ?_
 rintro _ w2 ⟨rfl,e2⟩
 have e3:w=w2:=e2.symm
 subst e3
 exact ⟨rfl,rfl,Below.refl _ _⟩
theorem zaa1 {w:World} {p:Nat} {v:Value} {k:Int} (hr:Rdr w p v k):Calls Tryz.prog 161 #[.pointer (some ⟨p,0,none⟩)] w fun e w'=>e=.returned (.bool (!(k == 0)))∧w'=w:=by
 have h2:=hr.why
 clear hr
 go_enter Tryz.func161,Tryz.ntmps161
 go_wp2
 go_ret
 exact ⟨rfl,rfl⟩
end
section
def leN:List Nat→Nat
 | []=>0
 | x :: l=>x + 256 * leN l
theorem ztc (u:Nat):∀ k,leN (les u k)=u % 256 ^ k
 | 0=>by show 0=u % 1;omega
 | k + 1=>by
  show u % 256 + 256 * leN (les (u / 256) k)=_
  rw [ztc (u / 256) k,Nat.pow_succ,Nat.mul_comm (256 ^ k) 256,Nat.mod_mul]
theorem ztd:∀ (l:List Nat),(∀ x ∈ l,x < 256)→leN l < 256 ^ l.length
 | [],_=>by decide
 | x :: l,h=>by
  have h1:=h x (List.mem_cons_self ..)
  have h2:=ztd l (fun y hy=>h y (List.mem_cons_of_mem _ hy))
  show x + 256 * leN l < 256 ^ (l.length + 1)
  rw [Nat.pow_succ]
  omega
theorem zxe {l:List Nat} {j:Nat} {x:Nat} (h:l[j]?=some x):leN (l.drop j)=x + 256 * leN (l.drop (j + 1)):=by
 have:=List.drop_eq_getElem_cons (List.getElem?_eq_some_iff.1 h).1
 rw [this,(List.getElem?_eq_some_iff.1 h).2]
 rfl
def fwd (x:Nat):Nat:=if x=253 then 2 else if x=254 then 4 else 8
def fls (x:Nat):Nat:=if x=253 then 253 else if x=254 then 65536 else 4294967296
def zgb:List Nat→Except Int (Nat × List Nat)
 | []=>.error 4
 | x :: l=>if x < 253 then .ok (x,l) else if l.length < fwd x then .error 4 else if 9223372036854775808 ≤ leN (l.take (fwd x)) then .error 15 else if leN (l.take (fwd x)) < fls x then .error 10 else .ok (leN (l.take (fwd x)),l.drop (fwd x))
theorem zc0 (x:Nat) (l:List Nat):zgb (x :: l)=if x < 253 then .ok (x,l) else if l.length < fwd x then .error 4 else if 9223372036854775808 ≤ leN (l.take (fwd x)) then .error 15 else if leN (l.take (fwd x)) < fls x then .error 10 else .ok (leN (l.take (fwd x)),l.drop (fwd x)):=rfl
abbrev RS:=List Nat × Int
def ofN:Except Int (Nat × List Nat)→Nat × RS
 | .ok (u,r)=>(u,r,0)
 | .error e=>(0,[],e)
def rdI (s:RS):Nat × RS:=if s.2 ≠ 0 then (0,[],s.2) else ofN (zgb s.1)
def endR (s:RS):Int:=if s.1=[] then s.2 else 5
theorem rdI_0 (l:List Nat):rdI (l,0)=ofN (zgb l):=rfl
theorem zgc {u x wd:Nat} (hx:¬ x < 253) (h0:fwd x=wd) (h1:u < 256 ^ wd) (h2:fls x ≤ u) (hu:u < 9223372036854775808) (r:List Nat):zgb (x :: (les u wd ++ r))=.ok (u,r):=by
 have e:leN (les u wd)=u:=by rw [ztc,Nat.mod_eq_of_lt h1]
 have e1:(les u wd ++ r).take wd=les u wd:=by rw [List.take_left' (zdd u wd)]
 have e2:(les u wd ++ r).drop wd=r:=by rw [List.drop_left' (zdd u wd)]
 rw [zc0]
 rw [if_neg hx,h0,e1,e2,e,if_neg (by rw [List.length_append,zdd];omega),if_neg (by omega),if_neg (by omega)]
theorem zte {u:Nat} (hu:u < 9223372036854775808) (r:List Nat):zgb (intL u ++ r)=.ok (u,r):=by
 unfold intL
 split
 ·rename_i h
  show zgb (u :: r)=_
  rw [zc0]
  rw [if_pos h]
 ·rename_i h
  split
  ·rename_i h2
   exact zgc (x:=253) (wd:=2) (by decide) rfl (by omega) (by show 253 ≤ u;omega) hu r
  ·rename_i h2
   split
   ·rename_i h3
    exact zgc (x:=254) (wd:=4) (by decide) rfl (by omega) (by show 65536 ≤ u;omega) hu r
   ·rename_i h3
    exact zgc (x:=255) (wd:=8) (by decide) rfl (by omega) (by show 4294967296 ≤ u;omega) hu r
theorem zdw {x:Int} (h0:0 ≤ x) (h1:x < 9223372036854775808) (r:List Nat):rdI (intI x ++ r,0)=(x.toNat,r,0):=by
 have e:(x % 18446744073709551616).toNat=x.toNat:=by omega
 unfold intI
 rw [rdI_0,e,zte (by omega)]
 rfl
theorem ztf {l r:List Nat} {u:Nat} (h:zgb l=.ok (u,r)):r.length ≤ l.length∧u < 9223372036854775808∧∀ x ∈ r,x ∈ l:=by
 cases l with
 | nil=>cases h
 | cons x l=>
  rw [zc0] at h
  by_cases h1:x < 253
  ·rw [if_pos h1] at h
   cases h
   exact ⟨by simp,by omega,fun y hy=>List.mem_cons_of_mem _ hy⟩
  ·rw [if_neg h1] at h
   by_cases h2:l.length < fwd x
   ·rw [if_pos h2] at h;cases h
   ·rw [if_neg h2] at h
    by_cases h3:9223372036854775808 ≤ leN (l.take (fwd x))
    ·rw [if_pos h3] at h;cases h
    ·rw [if_neg h3] at h
     by_cases h4:leN (l.take (fwd x)) < fls x
     ·rw [if_pos h4] at h;cases h
     ·rw [if_neg h4] at h
      cases h
      exact ⟨by rw [List.length_drop,List.length_cons];omega,by omega,fun y hy=>List.mem_cons_of_mem _ (List.mem_of_mem_drop hy)⟩
end
section
open Go.RowKit
def stopE (k:Int) (r:Bool):PanicEntry:={ v:=.iface 364 (.agg #[.int .i64 k]),recovered:=r }
theorem znj (k:Int) (w:World):Sem.run Tryz.prog (Instr.typeAssert (.iface 364 (.agg #[.int .i64 k])) 20 364 true) w=.ok (.tuple #[.agg #[.int .i64 k],.bool true]) w:=by
 rfl
theorem zea {w w':World} {B b o:Nat} {v:Value} (hB:w.heap.size ≤ B) (hw:Below B w w') (h:w.cell? ⟨b,o,none⟩=some v):w'.frozen? ⟨b,o,none⟩=w.frozen? ⟨b,o,none⟩:=
 hw.frozen (p:=⟨b,o,none⟩) (Nat.lt_of_lt_of_le (World.block_lt_of_cell? w ⟨b,o,none⟩ h) hB)
theorem Rdr.soft0 {w:World} {p:Nat} {v:Value} {k:Int} (hr:Rdr w p v k):w.frozen? ⟨p,0,none⟩=false:=by unfold Rdr at hr;simp [World.frozen?,hr]
theorem Rdr.soft1 {w:World} {p:Nat} {v:Value} {k:Int} (hr:Rdr w p v k):w.frozen? ⟨p,1,none⟩=false:=by unfold Rdr at hr;simp [World.frozen?,hr]
attribute [go_sem] znj
theorem znk (p q:Addr) (w:World):
  CallsD Tryz.prog 298 #[.pointer (some p),.pointer (some q)] .returning w fun e u' w'=>e=.returned (.tuple #[])∧u'=.returning∧w'=w:=by
 refine callsD_of_wpS Tryz.func298 rfl fun c₀ cs hu=>?_
 apply wpS_seq
 apply wpS_region
 simp [wpOpsS,go_sem,recoverD,hu,Tryz.ntmps298,Exit.thenS]
 apply wpS_seq
 apply wpS_region
 simp [wpOpsS,go_sem,Exit.thenS]
 refine wpS_cond (t:=false) (by simp [Act.eval,Array.replicate]) ?_
 simp only [Bool.false_eq_true,if_false]
 refine wpS_of_wp (wp_skip ?_)
 cases c₀
 simp_all [bodyPostS,results,Tryz.results298]
set_option maxHeartbeats 200000 in
theorem zh5 (rb ob:Nat) (k:Int) (older:List PanicEntry) (w:World) {rp:Nat} {v:Value} {k0:Int} {o:Value} (hp:w.cell? ⟨rb,0,none⟩=some (.pointer (some ⟨rp,0,none⟩))) (hr:Rdr w rp v k0) (hq:w.cell? ⟨ob,0,none⟩=some o) (hqf:w.frozen? ⟨ob,0,none⟩=false) (hne:rp ≠ ob):
  CallsD Tryz.prog 298 #[.pointer (some ⟨rb,0,none⟩),.pointer (some ⟨ob,0,none⟩)] (.panicking (stopE k false :: older)) w fun e u' w'=>
   e=.returned (.tuple #[])∧u'=.panicking (stopE k true :: older)∧w'=(((w.alloc (.cells #[.int .i64 k] 364)).setCell ⟨rp,1,none⟩ (.int .i64 k)).setCell ⟨rp,0,none⟩ (.slice none 0 0)).setCell ⟨ob,0,none⟩ (.int .i64 0):=by
 refine callsD_of_wpS Tryz.func298 rfl fun c₀ cs hu=>?_
 have hbw:=zat w (.cells #[.int .i64 k] 364)
 have h1:=za4 (zadw _) hbw hp
 have h2:=zcn w (.int .i64 k) 364
 have h3:=za4 (zadw _) hbw hr.left
 have h4:=za4 (zadw _) hbw hr.why
 have h5:=za4 (zadw _) hbw hq
 have f3:=(zea (zadw _) hbw hr.left).trans hr.soft0
 have f4:=(zea (zadw _) hbw hr.why).trans hr.soft1
 have f5:=(zea (zadw _) hbw hq).trans hqf
 apply wpS_seq
 apply wpS_region
 unfold stopE at hu ⊢
 simp [wpOpsS,go_sem,recoverD,hu,Tryz.ntmps298,Exit.thenS]
 refine wpS_of_wp ?_
 generalize ht:HAppend.hAppend (α:=Array Value) (β:=Array Value) (γ:=Array Value) #[.pointer (some ⟨rb,0,none⟩),.pointer (some ⟨ob,0,none⟩)] _=T
 have e:T=#[.pointer (some ⟨rb,0,none⟩),.pointer (some ⟨ob,0,none⟩),.iface 364 (.agg #[.int .i64 k]),undef,undef,undef,.iface 364 (.agg #[.int .i64 k]),undef,undef,undef,undef,undef,undef,undef,undef,undef,undef,undef,undef,undef,undef,undef,undef,undef,undef,undef]:=by rw [← ht];kernel_rfl
 subst e
 have HU:=zadv hu
 clear ht hu hp hr hq hqf hbw
 go_wp2
 simp_all [bodyPostS,results,Tryz.results298]
end
section
open Go.RowKit Go.Shelf
attribute [local go_sem] Oper.semAt_some
structure ButN (N p:Nat) (w w':World):Prop where
 os:w'.os=w.os
 tape:w'.tape=w.tape
 output:w'.output=w.output
 size:w.heap.size ≤ w'.heap.size
 block:∀ k,k < N→k ≠ p→w'.heap[k]?=w.heap[k]?
abbrev But (p:Nat) (w w':World):Prop:=ButN w.heap.size p w w'
section
variable {N p:Nat} {w w' w2:World}
theorem ButN.refl:ButN N p w w:=⟨rfl,rfl,rfl,zadw _,fun _ _ _=>rfl⟩
theorem ButN.trans (h:ButN N p w w') (k:ButN N p w' w2):ButN N p w w2:=⟨k.os.trans h.os,k.tape.trans h.tape,k.output.trans h.output,Nat.le_trans h.size k.size,fun i q r=>(k.block i q r).trans (h.block i q r)⟩
theorem ButN.mono {M:Nat} (h:ButN N p w w') (hM:M ≤ N):ButN M p w w':=⟨h.os,h.tape,h.output,h.size,fun k q=>h.block k (Nat.lt_of_lt_of_le q hM)⟩
theorem But.trans (h:But p w w') (k:But p w' w2):But p w w2:=ButN.trans h (ButN.mono k h.size)
theorem ButN.below (h:Below N w w'):ButN N p w w':=⟨h.os,h.tape,h.output,h.size,fun k q _=>h.block k q⟩
theorem ButN.set (h:ButN N p w w') (o:Nat) (v:Value):ButN N p w (w'.setCell ⟨p,o,none⟩ v):=
 h.trans ⟨rfl,rfl,rfl,by simp [World.setCell],fun k _ r=>Below.heap_setCell _ _ _ _ r⟩
theorem ButN.to {B:Nat} (h:ButN N p w w') (hB:B ≤ N) (hp:B ≤ p):Below B w w':=⟨h.os,h.tape,h.output,h.size,fun k q=>h.block k (by omega) (by omega)⟩
theorem ButN.cell (h:ButN N p w w') {b o:Nat} {v:Value} (hc:w.cell? ⟨b,o,none⟩=some v) (hN:w.heap.size ≤ N) (hb:b ≠ p):w'.cell? ⟨b,o,none⟩=some v:=by
 have hlt:=World.block_lt_of_cell? w ⟨b,o,none⟩ hc
 rw [World.cell?_of_block (w:=w) (h.block b (Nat.lt_of_lt_of_le hlt hN) hb)]
 exact hc
theorem ButN.sl (h:ButN N p w w') {ao:Option Addr} {n c:Nat} {vs:List Value} (hs:Sl w ao n c vs) (hN:w.heap.size ≤ N) (hne:∀ b o,ao=some ⟨b,o,none⟩→0 < n→b ≠ p):Sl w' ao n c vs:=by
 refine ⟨hs.len,hs.le,hs.nil,?_⟩
 rcases hs.cells with e | ⟨b,o,e,hc⟩
 ·exact .inl e
 ·by_cases h0:vs=[]
  ·exact .inl h0
  ·refine .inr ⟨b,o,e,fun j x hj=>h.cell (hc j x hj) hN (hne b o e ?_)⟩
   rw [← hs.len]
   cases vs with
   | nil=>exact absurd rfl h0
   | cons=>simp
theorem ButN.rdr (h:ButN N p w w') {q:Nat} {v:Value} {k:Int} (hr:Rdr w q v k) (hN:w.heap.size ≤ N) (hq:q ≠ p):Rdr w' q v k:=by
 unfold Rdr at *
 rw [h.block q (Nat.lt_of_lt_of_le (zadu hr).1 hN) hq]
 exact hr
theorem ButN.forms (h:ButN N p w w') (hf:Forms w) (hN:w.heap.size ≤ N) (hp:p ≠ 0):Forms w':=fun j v hj=>h.cell (hf j v hj) hN (Ne.symm hp)
end
theorem butN_t {N p:Nat} {A B C:World} (h:ButN N p A B) (k:ButN N p B C):ButN N p A C:=h.trans k
theorem zzq {N p:Nat} {w:World} (hn:N ≤ w.heap.size) (W:World) (l:Nat) (o o':Obj) (hl:w.heap.size ≤ l) (h:W.heap[l]?=some o) (hc:o.isCells=false) (hk:o.isWalk=false):ButN N p W (W.putObj l o'):=
 ButN.below (belowK_b hn W l o o' hl h hc hk)
def Rd (w:World) (p:Nat) (s:RS):Prop:=∃ ao n c,Rdr w p (.slice ao n c) s.2∧Sl w ao n c (bts s.1)
theorem Rdr.keep {w w':World} {B p:Nat} {v:Value} {k:Int} (h:Rdr w p v k) (hB:w.heap.size ≤ B) (hw:Below B w w'):Rdr w' p v k:=by
 unfold Rdr at *
 rw [hw.block p (Nat.lt_of_lt_of_le (zadu h).1 hB)]
 exact h
theorem Rdr.lt {w:World} {p:Nat} {v:Value} {k:Int} (h:Rdr w p v k):p < w.heap.size:=(zadu h).1
theorem Rd.lt {w:World} {p:Nat} {s:RS} (h:Rd w p s):p < w.heap.size:=by
 obtain ⟨ao,n,c,h1,_⟩:=h
 exact h1.lt
theorem Rdr.apart {w:World} {p:Nat} {u:Option Addr} {a c2:Nat} {k:Int} (h:Rdr w p (.slice u a c2) k) {ao:Option Addr} {n c:Nat} {l:List Nat} (hs:Sl w ao n c (bts l)):∀ b o,ao=some ⟨b,o,none⟩→0 < n→b ≠ p:=by
 rintro b o rfl hn rfl
 obtain ⟨b',o',e,_,hc⟩:=hs.at hn
 cases e
 have hl:0 < l.length:=by rw [← zam,hs.len];exact hn
 have h0:=hc 0 (.int .u8 (l[0]:Int)) (by unfold bts;rw [List.getElem?_map,zady hl];rfl)
 unfold Rdr at h
 unfold World.cell? at h0
 rw [h] at h0
 simp only at h0
 match o with
 | 0=>cases h0
 | 1=>cases h0
 | o + 2=>simp at h0
theorem zeq {b o l m b' o':Nat} (h:cutA (some ⟨b,o,none⟩) l m=some ⟨b',o',none⟩):b'=b:=by
 unfold cutA at h
 split at h
 ·cases h;rfl
 ·simp only [Option.map_some,Option.some.injEq,Addr.add] at h
  split at h <;> first | (cases h;rfl) | (injection h with h _ _;exact h.symm)
def RdB (B:Nat) (w:World) (p:Nat) (s:RS):Prop:=∃ ao n c,Rdr w p (.slice ao n c) s.2∧Sl w ao n c (bts s.1)∧∀ b o,ao=some ⟨b,o,none⟩→0 < n→b < B
theorem Rd.b {w:World} {p:Nat} {s:RS} (h:Rd w p s):RdB w.heap.size w p s:=by
 obtain ⟨ao,n,c,h1,h2⟩:=h
 refine ⟨ao,n,c,h1,h2,?_⟩
 rintro b o rfl hn
 obtain ⟨b',o',e,hlt,_⟩:=h2.at hn
 cases e
 exact hlt
theorem RdB.keep {w w':World} {B C p:Nat} {s:RS} (h:RdB C w p s) (hB:w.heap.size ≤ B) (hw:Below B w w'):RdB C w' p s:=by
 obtain ⟨ao,n,c,h1,h2,h3⟩:=h
 exact ⟨ao,n,c,h1.keep hB hw,h2.keep hB hw,h3⟩
theorem Rd.nb {w:World} {p:Nat} {k:Int} (h:Rd w p ([],k)) (B:Nat):RdB B w p ([],k):=by
 obtain ⟨ao,n,c,h1,h2⟩:=h
 refine ⟨ao,n,c,h1,h2,fun b o _ hn=>?_⟩
 have:=h2.len
 simp [bts] at this
 omega
theorem RdB.rd {B:Nat} {w:World} {p:Nat} {s:RS} (h:RdB B w p s):Rd w p s:=let ⟨ao,n,c,h1,h2,_⟩:=h;⟨ao,n,c,h1,h2⟩
def ze9 (zs:List Nat):Nat→List (Nat × Nat)
 | 0=>[]
 | k + 1=>ze9 zs k ++ [(zs.length - 1 - k,zs.getD (zs.length - 1 - k) 0)]
theorem zlk (zs:List Nat):∀ k,(ze9 zs k).length=k
 | 0=>rfl
 | k + 1=>by show (ze9 zs k ++ _).length=_;rw [List.length_append,zlk zs k];rfl
theorem zgm (zs : List Nat) {j : Nat} : ∀ {k}, j ≤ k → ze9 zs j <+: ze9 zs k
 | 0, h => by obtain rfl : j = 0 := by omega
              exact List.prefix_rfl
 | k + 1, h => by
   by_cases e : j = k + 1
   · subst e; exact List.prefix_rfl
   · exact (zgm zs (by omega)).trans (List.prefix_append _ _)
set_option maxHeartbeats 2000000 in
theorem zxf (n:Nat) (hn:1 ≤ n) (l Bs b off cap N ub:Nat) (zs:List Nat) (hlen:zs.length < 1000000) (hub:Bs ≠ ub) (hbb:b ≠ ub) (J Jx:List (Nat × Nat)→World→Prop)
  (hY:∀ pre x W,J pre W→pre.length < zs.length→YieldAt Fence.wide (n - 1) Tryz.prog l #[.int .i64 (x:Nat × Nat).1,.int .u8 x.2] W fun e W'=>
   (e=.returned (.bool true)∧J (pre ++ [x]) W'∧ButN N ub W W') ∨ (e=.returned (.bool false)∧Jx (pre ++ [x]) W'))
  (W:World) (hB:Bs < N) (hbN:b < N) (hN:N ≤ W.heap.size) (hBs:W.cell? ⟨Bs,0,none⟩=some (.slice (some ⟨b,off,none⟩) zs.length cap)) (hc:∀ j (h:j < zs.length),W.cell? ⟨b,off + j,none⟩=some (.int .u8 zs[j])) (h0:J [] W):
  CallsIn Fence.wide n Tryz.prog 358 #[.func (.yield l) #[] #[],.pointer (some ⟨Bs,0,none⟩)] W fun e W'=>(∃ v,e=.returned v)∧
   ((∃ ys,ys=ze9 zs zs.length∧J ys W') ∨ (∃ pre,pre <+: ze9 zs zs.length∧Jx pre W')):=by
 have hl0:wrap64 ((zs.length:Int) - 1)=(zs.length:Int) - 1:=IntWalk.wrap64_in _ (by omega)
 refine callsIn_of_wp Tryz.func358 rfl trivial ?_ rfl
 simp only [Tryz.ntmps358,List.size_toArray,List.length_cons,List.length_nil,Nat.reduceAdd,Nat.reduceSub,Array.replicate_succ,Array.replicate_zero,List.push_toArray,List.append_toArray,List.nil_append,List.cons_append]
 gi_wp2
 gi_loopw [3] (fun i wr=>∃ k:Nat,k ≤ zs.length∧i=.int .i64 ((zs.length:Int) - 1 - k)∧J (ze9 zs k) wr∧ButN N ub W wr)
  (fun i _=>(intOf i + 1).toNat)
 case atStart=>exact ⟨0,Nat.zero_le _,by simp,h0,ButN.refl⟩
 case round=>
  obtain ⟨k,hk,rfl,hJs,hnx⟩:=hrel
  have cellk:∀ {b o:Nat} {v:Value},b < N→b ≠ ub→W.cell? ⟨b,o,none⟩=some v→wr.cell? ⟨b,o,none⟩=some v:=fun {b o v} h1 h2 h3=>by
   rw [World.cell?_of_block (w:=W) (hnx.block b h1 h2)];exact h3
  have hbs:=cellk hB hub hBs
  by_cases hlt:k < zs.length
  ·obtain ⟨m,hm⟩:∃ m:Nat,zs.length=m + 1 + k:=⟨zs.length - 1 - k,by omega⟩
   have hcx:=cellk hbN hbb (hc m (by omega))
   obtain ⟨z,hz⟩:∃ z,z=zs[m]'(by omega):=⟨_,rfl⟩
   rw [← hz] at hcx
   have hgd:zs.getD m 0=z:=by rw [hz,List.getD_eq_getElem?_getD,zady (by omega)];rfl
   have em:zs.length - 1 - k=m:=by omega
   have ei:(zs.length:Int) - 1 - k=m:=by omega
   have hbk:ze9 zs (k + 1)=ze9 zs k ++ [(m,z)]:=by show ze9 zs k ++ [(_,_)]=_;rw [em,hgd]
   have ew:wrap64 ((m:Int) - 1)=(m:Int) - 1:=IntWalk.wrap64_in _ (by omega)
   have hm0:(0:Int) ≤ m:=by omega
   have hml:(m:Int) < zs.length:=by omega
   have hmt:(m:Int).toNat=m:=rfl
   rw [ei]
   obtain ⟨fn,tmps,assign,body,hy,hR⟩:=hY _ (m,z) wr hJs (by rw [zlk];exact hlt)
   have HM:=zadv hm
   have HBK:=zadv hbk
   clear hz hgd hBs hc hl0 ei em hm hbk
   gi_wp2
   refine hR.mono ?_
   rintro e W3 (⟨rfl,hJ3,hk3⟩ | ⟨rfl,hJx3⟩)
   ·gi_wp2
    go_roundw
    case rel=>exact ⟨k + 1,by omega,by have:=HM.out;go_num,by rw [HBK.out];exact hJ3,hnx.trans hk3⟩
    case measure=>simp [intOf]
   ·gi_wp2
    refine bodyPost_ret (results_none rfl _ _ _) rfl ?_
    exact ⟨⟨_,rfl⟩,.inr ⟨_,by rw [← HBK.out];exact zgm zs (by omega),hJx3⟩⟩
  ·obtain rfl:k=zs.length:=by omega
   have ei:(zs.length:Int) - 1 - zs.length=-1:=by omega
   rw [ei]
   gi_wp2
   go_end0
   exact ⟨⟨_,rfl⟩,.inl ⟨_,rfl,hJs⟩⟩
end
end Go.Proofs.YthjgiamfaijoeaaGreatDoor
