/- What is proved: parts of the walk and of the plain law. No condition but those each law names. -/
import Derived.Test.YthjgiamfaijoeaaGreatDoorD25
import Derived.Lib.ConvBytes
import Derived.ArgAppend
import Derived.Test.YthjgiamfaijoeaaGreatDoorD20
import Derived.Test.YthjgiamfaijoeaaGreatDoorD15
import Derived.RangeFuncBox
import Derived.RangeFuncLeaves
import Derived.Shelf.Abstract
import Derived.TacticsInMore
import Derived.LoopNIn
import Derived.LoopIn
import Derived.Test.YthjgiamfaijoeaaGreatDoorD00
set_option linter.unusedSimpArgs false
set_option linter.unusedVariables false
set_option maxRecDepth 100000
namespace Go.Proofs.YthjgiamfaijoeaaGreatDoor
section
open Go.RowKit
def zd5 (l:List Nat):List Nat:=l ++ List.replicate (64 - l.length) 0
def zcu (h:List Int) (count:Nat) (l:List Nat):List Int:=
 if hl:l.length ≤ 64 then zgg h (zd5 l) (count + l.length) true
 else zcu (zgg h (l.take 64) (count + 64) false) (count + 64) (l.drop 64)
termination_by l.length
decreasing_by simp;omega
theorem Bx.set1 {w W:World} {C:Array Value} {t:TypeId} (h:Bx w C t W) (k:Nat) (v:Value):Bx w (C.setIfInBounds k v) t (W.setCell ⟨w.heap.size,k,none⟩ v):=by
 refine ⟨?_,h.below.setCell (zadw _) _⟩
 rw [zag,if_pos rfl,h.row]
 rfl
theorem zn0 {h:List Int} {k:Nat} {l:List Nat} (hl:l.length ≤ 64):zcu h k l=zgg h (zd5 (l.take 64)) (k + l.length) true:=by
 rw [zcu,dif_pos hl,List.take_of_length_le hl]
theorem zn1 {h:List Int} {k:Nat} {l:List Nat} (hl:64 < l.length):zcu h k l=zcu (zgg h (zd5 (l.take 64)) (k + 64) false) (k + 64) (l.drop 64):=by
 rw [zcu,dif_neg (by omega)]
 have e:zd5 (l.take 64)=l.take 64:=by
  unfold zd5
  rw [List.length_take,Nat.min_eq_left (by omega)]
  simp
 rw [e]
def h0V:List Int:=begV.set 0 (bits .xor .u32 (wd begV 0) (bits .xor .u32 (bits .xor .u32 16842752 0) 32))
def outB (h:List Int) (k:Nat):Nat:=(wd h (k / 4) / 2 ^ (8 * (k % 4)) % 256).toNat
theorem zpq (h:List Int) (k:Nat):((outB h k:Nat):Int)=wd h (k / 4) / 2 ^ (8 * (k % 4)) % 256:=by
 unfold outB
 exact Int.toNat_of_nonneg (Int.emod_nonneg _ (by decide))
def outN (h:List Int):Nat→List Nat
 | 0=>List.replicate 32 0
 | k + 1=>(outN h k).set k (outB h k)
theorem zkl (h:List Int):∀ k,(outN h k).length=32
 | 0=>rfl
 | k + 1=>by rw [outN,List.length_set];exact zkl h k
theorem zjm (h:List Int):∀ k,∀ x ∈ outN h k,x < 256
 | 0,x,hx=>by
  have:=List.eq_of_mem_replicate hx
  omega
 | k + 1,x,hx=>by
  rcases List.mem_or_eq_of_mem_set hx with h1 | h1
  ·exact zjm h k x h1
  ·have:=zpq h k
   omega
def outH (h:List Int) (k:Nat):Hs:=⟨outN h k,zkl h k⟩
theorem zgh (h:List Int) (k:Nat):(bts (outN h k)).toArray=(outH h k).cells:=rfl
theorem zrn (h:List Int) (k:Nat):∀ x ∈ (outH h k).l,x < 256:=zjm h k
theorem zaca (h:List Int) (k:Nat) {j:Nat} (hj:j < 32):((bts (outN h k)).toArray)[j]?=some (.int .u8 ((outN h k).getD j 0:Nat)):=by
 have:j < (outN h k).length:=by rw [zkl];exact hj
 simp [bts,zady this,List.getD]
attribute [local go_sem ↓] zad
attribute [local go_sem] zaf zai zaj zal zab zah zae Ext.row Ext.soft_
theorem copy64 {w:World} {ao:Option Addr} {n c:Nat} {l:List Nat} (hsl:Sl w ao n c (bts l)) {g:Nat} (hg:w.heap[g]?=some (.cells (bts (List.replicate 64 0)).toArray 312)):
  (Builtin.copy_ #[37,37] 3 #[.slice (some ⟨g,0,none⟩) 64 64,.slice ao n c]).run Tryz.prog w=.ok (.int .i64 (min n 64:Nat)) (w.setRow g (bts (zd5 (l.take 64))).toArray):=by
 have hln:l.length=n:=by rw [← hsl.len,zam]
 have hi5:(Tryz.prog.info? 5).map (·.size)=some 1:=by kernel_rfl
 cases ao with
 | none=>
  obtain rfl:c=0:=hsl.nil rfl
  obtain rfl:n=0:=by have:=hsl.le;omega
  obtain rfl:l=[]:=List.eq_nil_of_length_eq_zero hln
  rw [run_copy_nil Tryz.prog _ 37 37 3 5 _ 64 64 Tryz.underlying37 (by rw [hi5];rfl)]
  rw [show bts (zd5 (List.take 64 []))=bts (List.replicate 64 0) from rfl,Go.setRow_self w g _ 312 _ hg]
  rfl
 | some a=>
  have hcell:∀ j v,(bts (l.take 64))[j]?=some v→w.cell? (a.add j)=some v:=fun j v hj=>by
   have hj2:(bts l)[j]?=some v:=by
    unfold bts at hj ⊢
    rw [List.map_take,List.getElem?_take] at hj
    split at hj
    ·exact hj
    ·cases hj
   obtain ⟨b,o,e,_,hc⟩:=hsl.at (by have:=(List.getElem?_eq_some_iff.1 hj2).1;rw [zam] at this;omega)
   cases e
   rw [zas]
   exact hc j v hj2
  have hlt:(bts (l.take 64)).length=min n 64:=by rw [zam,List.length_take,hln];exact Nat.min_comm _ _
  rw [run_copy_row Tryz.prog _ 37 37 3 5 g 0 64 64 a n c _ 312 (bts (l.take 64)) Tryz.underlying37 hi5 hg hlt hcell (by rw [hlt];simp [bts];omega) (zct _)]
  rw [hlt]
  have e:List.take 0 (bts (List.replicate 64 0)) ++ bts (l.take 64) ++ List.drop (0 + min n 64) (bts (List.replicate 64 0))=bts (zd5 (l.take 64)):=by
   unfold zd5
   rw [List.take_zero,List.nil_append,zbq,Nat.zero_add,List.length_take,hln]
   congr 1
   unfold bts
   rw [← List.map_drop,List.drop_replicate]
   congr 2
   omega
  rw [e]
  rfl
def slN:Value→Nat
 | .slice _ n _=>n
 | _=>0
theorem zx2 (w:World) (a:Act) (dst:Option Tmp) (ty:TypeId) (pos:String) (af:Array Edge) (gd:Option (Nat × Bool)) (h:rowOf w 1=uts begV):(execOp a.eval ⟨dst,.load 311 (.global 1),ty,pos,af,gd⟩).run Tryz.prog w=.ok (.value (.agg (uts begV))) w:=by
 rw [zuk w a.eval (.global 1) dst ty pos af gd rfl (by show 0 + 8 ≤ (rowOf w 1).size;rw [h];decide)]
 show Result.ok (Next.value (.agg (sub (rowOf w 1) 0 8))) w=_
 rw [h,zkk (n:=8) rfl]
attribute [local go_sem ↓] zx2
set_option maxHeartbeats 4000000 in
theorem zum {w:World} {t4 t5:TypeId} {ao:Option Addr} {n c:Nat} {l:List Nat} (hg:w.heap[1]?=some (.cells (uts begV) t4)) (ho:w.heap[3]?=some (.cells ordC t5)) (hs:Sl w ao n c (bts l)) (hn:n < 1000000):
  Calls Tryz.prog 169 #[.slice none 0 0,.slice ao n c] w fun e w'=>e=.returned (.agg (bts (outN (zcu h0V 0 l) 32)).toArray)∧Below w.heap.size w w':=by
 have hg4:=zaa hg
 go_enter Tryz.func169,Tryz.ntmps169
 go_upto_region 4 with (fail)
 obtain ⟨bx,hz1⟩:=(Bxs.nil w).snoc rfl Hs.zero.cells 58
 simp only [List.nil_append,List.length_singleton] at bx hz1
 generalize w.alloc (.cells Hs.zero.cells 58)=W1 at bx hz1 ⊢
 have hg4:rowOf W1 1=uts begV:=zaa ((bx.below.block _ (zadu hg).1).trans hg)
 have z3:(uts begV).size=8:=rfl
 have z2:=zev begV
 go_upto_region 5 with (fail)
 rw [show (#[Value.int IntKind.u32 0,Value.int IntKind.u32 0,Value.int IntKind.u32 0,Value.int IntKind.u32 0,Value.int IntKind.u32 0,Value.int IntKind.u32 0,Value.int IntKind.u32 0,Value.int IntKind.u32 0]:Array Value)=uts z8 from rfl]
 have bx:=(bx.snoc' hz1 (uts z8) 311).put (j:=1) rfl (uts begV)
 have hz2:((W1.alloc (.cells (uts z8) 311)).setRow (w.heap.size + 1) (uts begV)).heap.size=w.heap.size + 2:=by simp [World.setRow,hz1]
 simp only [List.cons_append,List.nil_append,List.set_cons_succ,List.set_cons_zero] at bx
 generalize (W1.alloc (.cells (uts z8) 311)).setRow (w.heap.size + 1) (uts begV)=W2 at bx hz2 ⊢
 clear hz1 hg4
 have c0:=bx.word 1 rfl (a:=0) (by decide)
 have s0:=bx.soft' 1 rfl
 go_upto_region 10 with (fail)
 have bx:=bx.wset (j:=1) rfl 0 (bits .xor .u32 (wd begV 0) (bits .xor .u32 (bits .xor .u32 16842752 0) 32))
 simp only [List.set_cons_succ,List.set_cons_zero] at bx
 generalize W2.setCell _ _=W3 at bx ⊢
 clear c0 s0
 go_loopw [7,8] (fun v u wr=>∃ (j:Nat) (ao':Option Addr) (c':Nat) (hh:List Int),j ≤ n∧v=.slice ao' (n - j) c'∧u=.int .u64 j∧Sl w ao' (n - j) c' (bts (l.drop j))∧hh.length=8∧Bxs w [(Hs.zero.cells,58),(uts hh,311)] wr∧zcu hh j (l.drop j)=zcu h0V 0 l) (fun v _ _=>slN v)
 case atStart=>exact ⟨0,ao,c,h0V,Nat.zero_le _,rfl,rfl,hs,rfl,bx,rfl⟩
 case round=>
  clear bx
  obtain ⟨j,ao',c',hh,hj,rfl,rfl,S,hl8,BX,PV⟩:=hrel
  have hb1:=(Below.refl wr.heap.size wr).alloc (zadw _) (.cells (bts (List.replicate 64 0)).toArray 312)
  have S1:=(S.keep (zadw _) BX.below).keep (zadw _) hb1
  have hcp:=copy64 S1 (heap_alloc_new wr _)
  go_upto_region 11 with (fail)
  rw [show (#[Value.int IntKind.u8 0,Value.int IntKind.u8 0,Value.int IntKind.u8 0,Value.int IntKind.u8 0,Value.int IntKind.u8 0,Value.int IntKind.u8 0,Value.int IntKind.u8 0,Value.int IntKind.u8 0,Value.int IntKind.u8 0,Value.int IntKind.u8 0,Value.int IntKind.u8 0,Value.int IntKind.u8 0,Value.int IntKind.u8 0,Value.int IntKind.u8 0,Value.int IntKind.u8 0,Value.int IntKind.u8 0,Value.int IntKind.u8 0,Value.int IntKind.u8 0,Value.int IntKind.u8 0,Value.int IntKind.u8 0,Value.int IntKind.u8 0,Value.int IntKind.u8 0,Value.int IntKind.u8 0,Value.int IntKind.u8 0,Value.int IntKind.u8 0,Value.int IntKind.u8 0,Value.int IntKind.u8 0,Value.int IntKind.u8 0,Value.int IntKind.u8 0,Value.int IntKind.u8 0,Value.int IntKind.u8 0,Value.int IntKind.u8 0,Value.int IntKind.u8 0,Value.int IntKind.u8 0,Value.int IntKind.u8 0,Value.int IntKind.u8 0,Value.int IntKind.u8 0,Value.int IntKind.u8 0,Value.int IntKind.u8 0,Value.int IntKind.u8 0,Value.int IntKind.u8 0,Value.int IntKind.u8 0,Value.int IntKind.u8 0,Value.int IntKind.u8 0,Value.int IntKind.u8 0,Value.int IntKind.u8 0,Value.int IntKind.u8 0,Value.int IntKind.u8 0,Value.int IntKind.u8 0,Value.int IntKind.u8 0,Value.int IntKind.u8 0,Value.int IntKind.u8 0,Value.int IntKind.u8 0,Value.int IntKind.u8 0,Value.int IntKind.u8 0,Value.int IntKind.u8 0,Value.int IntKind.u8 0,Value.int IntKind.u8 0,Value.int IntKind.u8 0,Value.int IntKind.u8 0,Value.int IntKind.u8 0,Value.int IntKind.u8 0,Value.int IntKind.u8 0,Value.int IntKind.u8 0]:Array Value)=(bts (List.replicate 64 0)).toArray from rfl]
  have hN:wr.heap.size < (wr.alloc (.cells (bts (List.replicate 64 0)).toArray 312)).heap.size:=by simp
  have hrow:=heap_alloc_new wr (.cells (bts (List.replicate 64 0)).toArray 312)
  generalize wr.alloc (.cells (bts (List.replicate 64 0)).toArray 312)=V1 at hb1 S1 hcp hN hrow ⊢
  go_upto_region 12 with (fail)
  have hb2:=Below.setRow_ hb1 (zadw _) (bts (zd5 (List.take 64 (List.drop j l)))).toArray
  have hrow2:=setRow_heap V1 wr.heap.size _ (bts (zd5 (List.take 64 (List.drop j l)))).toArray 312 _ hrow
  generalize V1.setRow wr.heap.size (bts (zd5 (List.take 64 (List.drop j l)))).toArray=V2 at hb2 hrow2 ⊢
  clear hcp S1 hrow hN hb1
  obtain ⟨m,hm⟩:∃ m,m=min (n - j) 64:=⟨_,rfl⟩
  rw [← hm]
  have bx:=BX.step hb2
  clear BX
  have hmn:m ≤ n - j:=by omega
  have hmc:(n - j:Nat) ≤ c':=S.le
  have HM:=zadv hm
  have e1:IntKind.u64.wrap (m:Int)=m:=by rw [IntKind.wrap_u64];omega
  have e2:IntKind.u64.wrap ((j:Int) + m)=((j + m:Nat):Int):=by rw [IntKind.wrap_u64];omega
  have S3:=S.cutB (l:=m) (r:=n - j) (m:=c') (q:=l.drop (j + m)) (n':=n - j - m) (cap':=c' - m) hmn (zadw _) (zadw _) hmc rfl rfl (by rw [List.drop_drop,List.take_of_length_le (by have:=S.len;rw [zam,List.length_drop] at this;rw [List.length_drop];omega)])
  have hlen:l.length - j=n - j:=by have:=S.len;rwa [zam,List.length_drop] at this
  clear hm S
  have g4:=(bx.below.block _ (zadu hg).1).trans hg
  have g5:=(bx.below.block _ (zadu ho).1).trans ho
  have plen:(zd5 (List.take 64 (List.drop j l))).length=64:=by unfold zd5;rw [List.length_append,List.length_replicate,List.length_take];omega
  have rb:=bx.row' 1 rfl
  have sb:=bx.soft' 1 rfl
  have z1:=zkk hl8
  have z2:=zev hh
  have z3:(uts hh).size=8:=by rw [zdy,hl8]
  have BX:=zadv bx
  clear bx
  obtain ⟨r,hr⟩:∃ r,n - j - m=r:=⟨_,rfl⟩
  rw [hr] at S3
  have HRR:=zadv hr
  have Hj:=zadv hj
  have Hn:=zadv hn
  have HL:=zadv hlen
  have PV:=zadv PV
  have S3:=zadv S3
  clear hj hn hlen
  by_cases hz:r=0
  ·subst hz
   have T:=zpp g4 g5 ⟨hrow2,plen⟩ hl8 (j + m) true
   rw [Int.natCast_add] at T
   have TT:=zadv T
   clear T g4 g5 hrow2 plen
   go_wp2_with fail
   refine TT.out.mono ?_
   rintro _ V3 ⟨rfl,b3⟩
   have bx:=BX.out.step b3
   clear TT BX rb sb
   have rb:=bx.row' 1 rfl
   have sb:=bx.soft' 1 rfl
   have hl9:(zgg hh (zd5 ((l.drop j).take 64)) (j + m) true).length=8:=by unfold zgg;rw [zcz];exact hl8
   have hR:zgg hh (zd5 ((l.drop j).take 64)) (j + m) true=zcu h0V 0 l:=by
    have hlen:=HL.out
    have hm:=HM.out
    have hj:=Hj.out
    rw [← PV.out,zn0 (l:=l.drop j) (by rw [List.length_drop];omega),List.length_drop,show l.length - j=m by omega]
   rw [hR] at hl9 ⊢
   clear hR
   generalize hq:zcu h0V 0 l=R at hl9 ⊢
   have hRR:=zadv hq
   have z4:=zev R
   have z5:(uts R).size=8:=by rw [zdy,hl9]
   have bx:=bx.put (j:=1) rfl (uts R)
   simp only [List.set_cons_succ,List.set_cons_zero] at bx
   have BX:=zadv bx
   clear bx PV hq
   go_upto_region 18 with (fail)
   have N:=Bx.new (V3.setRow (w.heap.size + 1) (uts R)) (bts (outN R 0)).toArray 58
   rw [show Hs.zero.cells=(bts (outN R 0)).toArray from rfl]
   clear rb sb hr hb2 e1 e2
   go_loopw [65] (fun v wr=>∃ k:Nat,k ≤ 32∧v=.int .i64 k∧Bx (V3.setRow (w.heap.size + 1) (uts R)) (bts (outN R k)).toArray 58 wr) (fun v _=>32 - (intOf v).toNat)
   case atStart=>exact ⟨0,by decide,rfl,N⟩
   case round=>
    clear N
    obtain ⟨k,hk,rfl,N⟩:=hrel
    have bx:=BX.out.step N.below
    have hz3:(V3.setRow (w.heap.size + 1) (uts R)).heap.size=V3.heap.size:=by simp [World.setRow]
    have rb:rowOf wr V3.heap.size=(bts (outN R k)).toArray:=by rw [← hz3];exact N.rowOf
    have sb:soft wr V3.heap.size=true:=by rw [← hz3];exact N.soft
    by_cases hlt:k < 32
    ·have i1:(k:Int) < 32:=by omega
     obtain ⟨q,hq⟩:∃ q,q=k / 4:=⟨_,rfl⟩
     have c0:=bx.word 1 rfl (a:=q) (by omega)
     have c1:(rowOf wr V3.heap.size)[k]?=_:=(congrArg (·[k]?) rb).trans (zaca R k hlt)
     have i2:((k:Int).tdiv 4)=(q:Int):=by rw [hq];exact Int.ofNat_tdiv k 4
     have i3:((k:Int).tmod 4)=((k % 4:Nat):Int):=Int.ofNat_tmod k 4
     have i4:(q:Int) < 8:=by omega
     have HQ:=zadv hq
     have NN:=zadv N
     have HZ:=zadv hz3
     clear hq rb N hz3
     go_upto_region 20 with (fail)
     go_wp2_with fail
     have N2:=NN.out.set1 k (.int .u8 (wd R q / 2 ^ (8 * (k % 4)) % 256))
     refine ⟨⟨k + 1,by omega,rfl,?_⟩,?_⟩
     ·rw [HZ.out] at N2
      have e:(bts (outN R k)).toArray.setIfInBounds k (.int .u8 (wd R q / 2 ^ (8 * (k % 4)) % 256))=(bts (outN R (k + 1))).toArray:=by
       rw [HQ.out,← zpq]
       simp [outN,bts]
      rw [e] at N2
      exact N2
     ·show 32 - ((k:Int) + 1).toNat < 32 - (k:Int).toNat
      omega
    ·obtain rfl:k=32:=by omega
     have r0:=bx.row' 0 rfl
     have s0:=bx.soft' 0 rfl
     simp only [Nat.add_zero] at r0 s0
     have BB:=zadv bx.below
     rw [zgh] at rb
     have hF0:=zgh R 32
     generalize outH R 32=hF at rb hF0
     have HF:=zadv hF0
     clear hF0
     clear bx N
     go_wp2_with fail
     have hc:rowOf (World.setRow wr w.heap.size hF.cells) w.heap.size=hF.cells:=(zab _ _ _ _ s0).trans (if_pos rfl)
     refine bodyPost_ret (za6 (t:=58) rfl Tryz.underlying58 rfl (by kernel_rfl) _ _ w.heap.size rfl hc (zdl _)) rfl ?_
     refine ⟨?_,Below.setRow_ BB.out (zadw _) _⟩
     rw [← HF.out,hRR.out]
  ·have hb0:((r:Int) == 0)=false:=by rw [beq_eq_false_iff_ne];omega
   have hcm:¬ c'=m:=by omega
   have Hz:=zadv hz
   clear hz
   have T:=zpp g4 g5 ⟨hrow2,plen⟩ hl8 (j + m) false
   rw [Int.natCast_add] at T
   have TT:=zadv T
   clear T g4 g5 hrow2 plen
   go_wp2_with fail
   refine TT.out.mono ?_
   rintro _ V3 ⟨rfl,b3⟩
   have bx:=BX.out.step b3
   clear TT BX rb sb
   have rb:=bx.row' 1 rfl
   have sb:=bx.soft' 1 rfl
   have hl9:(zgg hh (zd5 ((l.drop j).take 64)) (j + m) false).length=8:=by unfold zgg;rw [zcz];exact hl8
   generalize htk:zgg hh (zd5 ((l.drop j).take 64)) (j + m) false=R at hl9 ⊢
   have z4:=zev R
   have z5:(uts R).size=8:=by rw [zdy,hl9]
   have BX:=zadv bx
   have HT:=zadv htk
   clear bx htk
   go_wp2_with fail
   have hr:=HRR.out
   have hlen:=HL.out
   have hz:=Hz.out
   have hm:=HM.out
   have hj:=Hj.out
   have h64:m=64:=by omega
   refine ⟨⟨j + m,cutA ao' m c',c' - m,R,by omega,?_,?_,?_,hl9,BX.out.put (j:=1) rfl (uts R),?_⟩,?_⟩
   ·rw [show n - (j + m)=r by omega]
   ·rw [Int.natCast_add]
   ·rw [show n - (j + m)=r by omega]
    exact S3.out
   ·rw [← PV.out,zn1 (l:=l.drop j) (by rw [List.length_drop];omega),← HT.out,h64,List.drop_drop]
   ·show r < n - j
    omega
end
section
open Go.RowKit
structure Tabs (w:World):Prop where
 g4:∃ t,w.heap[1]?=some (.cells (uts begV) t)
 g5:∃ t,w.heap[3]?=some (.cells ordC t)
theorem Tabs.keep {w w':World} {B:Nat} (h:Tabs w) (hB:w.heap.size ≤ B) (hw:Below B w w'):Tabs w':=
 let ⟨t4,g4⟩:=h.g4
 let ⟨t5,g5⟩:=h.g5
 ⟨⟨t4,(hw.block _ (Nat.lt_of_lt_of_le (zadu g4).1 hB)).trans g4⟩,⟨t5,(hw.block _ (Nat.lt_of_lt_of_le (zadu g5).1 hB)).trans g5⟩⟩
def sumH (l:List Nat):Hs:=outH (zcu h0V 0 l) 32
theorem zew (l:List Nat):∀ x ∈ (sumH l).l,x < 256:=zrn _ 32
attribute [local go_sem ↓] zad
attribute [local go_sem] zaf zai zaj zal zab zah
theorem zun {w:World} (ht:Tabs w) {ao:Option Addr} {n c:Nat} {l:List Nat} (hs:Sl w ao n c (bts l)) (hn:n < 1000000):
  Calls Tryz.prog 169 #[.slice none 0 0,.slice ao n c] w fun e w'=>e=.returned (.agg (sumH l).cells)∧Below w.heap.size w w':=by
 obtain ⟨t4,g4⟩:=ht.g4
 obtain ⟨t5,g5⟩:=ht.g5
 have:=zum g4 g5 hs hn
 rw [zgh] at this
 exact this
theorem zfv {w:World} (ht:Tabs w) {ao:Option Addr} {n c:Nat} {l:List Nat} (hs:Sl w ao n c (bts l)) (hn:n < 1000000):
  Calls Tryz.prog 106 #[.slice ao n c] w fun e w'=>e=.returned (.agg (sumH l).cells)∧Below w.heap.size w w':=by
 have HT:=zadv ht
 have HS:=zadv hs
 generalize hq:sumH l=q
 have HQ:=zadv hq
 clear ht hs hq
 go_enter Tryz.func106,Tryz.ntmps106
 go_upto_region 1 with (fail)
 have bx:=Bx.new w (Hs.zero.cells) 58;generalize w.alloc (.cells (Hs.zero.cells) 58)=W at bx ⊢;have rx:=bx.rowOf;have sx:=bx.soft;have BX:=zadv bx;clear bx
 have K:=zadv (zun (HT.out.keep (zadw _) BX.out.below) (HS.out.keep (zadw _) BX.out.below) hn)
 rw [HQ.out] at K
 go_wp2_with fail
 refine K.out.mono ?_
 rintro _ W2 ⟨rfl,hb⟩
 have bx:=BX.out.step hb
 clear BX rx sx hb K
 have rx:=bx.rowOf
 have sx:=bx.soft
 have BX:=zadv bx
 clear bx
 go_wp2
 have hc:rowOf (World.setRow W2 w.heap.size q.cells) w.heap.size=q.cells:=(zab _ _ _ _ sx).trans (if_pos rfl)
 refine bodyPost_ret (za6 (t:=58) rfl Tryz.underlying58 rfl (by kernel_rfl) _ _ w.heap.size rfl hc (zdl _)) rfl ?_
 exact ⟨rfl,Below.setRow_ BX.out.below (zadw _) _⟩
def zn2:List Nat:=[115,101,99,114,101,116]
def secretS:ByteArray:=⟨#[115,101,99,114,101,116]⟩
theorem zn3 (w:World):∃ c w',(convert 9 37 (.string secretS)).run Tryz.prog w=.ok (.slice (some ⟨w.heap.size,0,none⟩) 6 c) w'∧Below w.heap.size w w'∧Sl w' (some ⟨w.heap.size,0,none⟩) 6 c (bts zn2):=by
 have hsz:secretS.size=6:=by kernel_rfl
 have hr:=Go.Lib.run_convert_string_bytes (P:=Tryz.prog) w 9 37 5 secretS Tryz.underlying9 Tryz.underlying37 Tryz.underlying5
 rw [hsz] at hr
 refine ⟨grownCap w 6 0 5,Go.Lib.bytesWorld w 5 secretS,hr,⟨rfl,rfl,rfl,by rw [Go.Lib.bytesWorld_size];omega,fun k hk=>Go.Lib.bytesWorld_at_old w 5 secretS k hk⟩,⟨rfl,grownCap_ge w 6 0 5,(fun h=>by cases h),.inr ⟨_,0,rfl,fun j x hj=>?_⟩⟩⟩
 have hlt:j < 6:=(List.getElem?_eq_some_iff.1 hj).1
 rw [Nat.zero_add,Go.Lib.bytesWorld_cell w 5 secretS j (by rw [hsz];exact hlt)]
 match j,hlt with
 | 0,_=>exact hj
 | 1,_=>exact hj
 | 2,_=>exact hj
 | 3,_=>exact hj
 | 4,_=>exact hj
 | 5,_=>exact hj
def secretH (l:List Nat):Hs:=sumH ((sumH zn2).l ++ l)
set_option maxHeartbeats 1000000 in
theorem zro {w:World} (ht:Tabs w) {ao:Option Addr} {n c:Nat} {l:List Nat} (hs:Sl w ao n c (bts l)) (h0:0 < n) (hn:n < 100000):
  Calls Tryz.prog 165 #[.string secretS,.slice ao n c] w fun e w'=>e=.returned (.agg (secretH l).cells)∧Below w.heap.size w w':=by
 have HT:=zadv ht
 have HS:=zadv hs
 have hq:secretH l=secretH l:=rfl
 conv at hq=>lhs;unfold secretH
 generalize secretH l=q at hq ⊢
 have HQ:=zadv hq
 generalize hx:sumH zn2=x at HQ
 have HX:=zadv hx
 clear ht hs hq hx
 go_enter Tryz.func165,Tryz.ntmps165
 go_upto_region 1 with (fail)
 have bx:=Bx.new w (Hs.zero.cells) 58;generalize w.alloc (.cells (Hs.zero.cells) 58)=W at bx ⊢;have rx:=bx.rowOf;have sx:=bx.soft;have BX:=zadv bx;clear bx
 obtain ⟨c1,W1,hC,hb1,S1⟩:=zn3 W
 have K:=zadv (zfv (HT.out.keep (zadw _) (BX.out.below.trans (hb1.mono BX.out.below.size))) S1 (by decide))
 rw [HX.out] at K
 have bx:=BX.out.step hb1
 clear BX
 have BX:=zadv bx
 clear bx rx sx hb1 S1
 generalize secretS=sS at hC ⊢
 go_wp2_with fail
 refine K.out.mono ?_
 rintro _ W2 ⟨rfl,hb2⟩
 have bx:=BX.out.step hb2
 clear BX K hC
 have BX:=zadv bx
 clear bx hb2
 go_upto_region 2 with (fail)
 have dx:=Bx.made W2 Hs.zero.cells x.cells 58
 generalize (W2.alloc (.cells Hs.zero.cells 58)).setRow W2.heap.size x.cells=W3 at dx ⊢
 have bx:=BX.out.step dx.below
 have hsx:Sl W3 (some ⟨W2.heap.size,0,none⟩) 32 32 (bts x.l):=by
  have:=zox dx.row (n:=32) (zdl x)
  exact this
 obtain ⟨b,o,rfl,_,hc⟩:=(HS.out.keep (zadw _) bx.below).at h0
 obtain ⟨g',o',e,_,hg⟩:=hsx.at (by decide)
 cases e
 obtain ⟨i,hi,h1,h2,h3⟩:=info_parts (show (Tryz.prog.info? 5).map (fun i=>(i.zero,i.size,i.bytes))=some (some (.int .u8 0),1,1) by kernel_rfl)
 have l1:(bts x.l).length=32 * 1:=x.len
 have l2:(bts l).length=n * 1:=by rw [Nat.mul_one];exact HS.out.len
 have BX:=zadv bx
 clear bx dx hsx
 have A1:=zadv hi
 have A2:=zadv h1
 have A3:=zadv h2
 have A4:=zadv h3
 have A5:=zadv hg
 have A6:=zadv hc
 have A7:=zadv l1
 have A8:=zadv l2
 clear hi h1 h2 h3 hg hc l1 l2
 go_wp2_with (at_builtin;refine wpList_append_grows W3 rfl _ _ 37 rfl 5 i (.int .u8 0) 1 1 Tryz.underlying37 A1.out A2.out A3.out A4.out rfl (by decide) (some ⟨W2.heap.size,0,none⟩) 32 32 (bts x.l) rfl (fun h=>by cases h) A7.out (fun b e j u hj=>by cases e;rw [zas];exact A5.out j u hj) ⟨b,o,none⟩ n c (bts l) rfl A8.out (fun j u hj=>by rw [zas];exact A6.out j u hj) (zct _) (by omega) (by unfold maxLen;omega) (by omega) ?_)
 intro v4 W4 own4 gr4
 rw [← zbq] at own4
 obtain ⟨a4,c4,rfl⟩:=za8 own4
 have S4:=Sl.own own4
 have bx:=BX.out.step ⟨gr4.os,gr4.tape,gr4.output,gr4.size,fun j hj=>gr4.block j hj (by simp)⟩
 have K:=zadv (zfv (HT.out.keep (zadw _) bx.below) S4 (by omega))
 rw [HQ.out] at K
 clear BX
 have BX:=zadv bx
 clear bx own4 gr4 S4
 go_wp2_with fail
 refine K.out.mono ?_
 rintro _ W5 ⟨rfl,hb⟩
 have bx:=BX.out.step hb
 clear BX hb K
 have rx:=bx.rowOf
 have sx:=bx.soft
 have BX:=zadv bx
 clear bx
 go_wp2
 have hc:rowOf (World.setRow W5 w.heap.size q.cells) w.heap.size=q.cells:=(zab _ _ _ _ sx).trans (if_pos rfl)
 refine bodyPost_ret (za6 (t:=58) rfl Tryz.underlying58 rfl (by kernel_rfl) _ _ w.heap.size rfl hc (zdl _)) rfl ?_
 exact ⟨rfl,Below.setRow_ BX.out.below (zadw _) _⟩
end
section
open Go.RowKit
open Sx (MapIs getL putL KeyT keyInt Turns Foot)
theorem zuo {M:List (Int × En)} {k:Int} {e e':En} (h:getA M k=some e) (hp:e'.pt=e.pt):encA En.pt (putA M k e')=encA En.pt M:=by
 induction M with
 | nil=>cases h
 | cons p M ih=>
  obtain ⟨a,x⟩:=p
  unfold getA at h
  unfold putA
  split at h
  ·rename_i q
   rw [if_pos q]
   injection h with h
   subst h
   subst q
   simp [encA,hp]
  ·rename_i q
   rw [if_neg q]
   have:=ih h
   simp [encA] at this ⊢
   exact this
theorem zjn {M:List (Int × En)} (h:((encA En.pt M).map (·.1)).Nodup):(M.map (·.1)).Nodup:=by
 unfold encA at h
 rw [List.map_map] at h
 unfold List.Nodup at h ⊢
 rw [List.pairwise_map] at h ⊢
 exact h.imp fun hab e=>hab (by show Value.int .i64 _=Value.int .i64 _;rw [e])
theorem zfw {M:List (Int × En)} (hn:(M.map (·.1)).Nodup) {k:Int} {v:En} {p:Int × En} (h:p ∈ putA M k v):p=(k,v) ∨ (p ∈ M∧p.1 ≠ k):=by
 have h1:=zhr (zf7 (k:=k) (v:=v) hn) h
 rw [za7] at h1
 by_cases e:p.1=k
 ·rw [if_pos e] at h1
  injection h1 with h1
  left
  obtain ⟨a,b⟩:=p
  simp only at e h1
  rw [e,h1]
 ·rw [if_neg e] at h1
  exact .inr ⟨zb7 h1,e⟩
theorem BookAt.turn {w w':World} {bk mb:Nat} {M:List (Int × En)} {k:Int} {e:En} {s:Sw} (h:BookAt w bk mb M) (he:getA M k=some e) (hr:w'.heap[e.b]?=some (.cells (s.ent e.m) 198)) (ho:∀ i,i ≠ e.b→w'.heap[i]?=w.heap[i]?):
  BookAt w' bk mb (putA M k ⟨e.b,e.m,s⟩):=by
 have hm:=zb7 he
 have hE:=(h.en _ hm).1
 have n1:bk ≠ e.b:=fun q=>by have:=h.ob;rw [q,hE.row] at this;cases this
 have n2:mb ≠ e.b:=fun q=>by obtain ⟨es,c,x,_⟩:=h.mp;rw [q,hE.row] at x;cases x
 have n3:∀ p ∈ M,p.2.m ≠ e.b:=fun p hp q=>by have:=(h.en p hp).1.map;rw [q,hE.row] at this;cases this
 refine ⟨(ho bk n1).trans h.ob,?_,fun p hp=>?_,fun p hp q hq x=>?_⟩
 ·obtain ⟨es,c,x,y,z⟩:=h.mp
  exact ⟨es,c,(ho mb n2).trans x,by rw [zuo he (by rfl)];exact y,z⟩
 ·have hn:(M.map (·.1)).Nodup:=by obtain ⟨es,c,_,y,_⟩:=h.mp;exact zjn y.2
  rcases zfw hn hp with rfl | ⟨hp,hk⟩
  ·exact ⟨⟨hr,(ho _ (n3 _ hm)).trans hE.map⟩,(h.en _ hm).2⟩
  ·obtain ⟨h1,h2⟩:=h.en p hp
   have n4:p.2.b ≠ e.b:=fun q=>hk (by have:=h.inj p hp _ hm q;rw [this])
   exact ⟨⟨(ho _ n4).trans h1.row,(ho _ (n3 p hp)).trans h1.map⟩,h2⟩
 ·have hn:(M.map (·.1)).Nodup:=by obtain ⟨es,c,_,y,_⟩:=h.mp;exact zjn y.2
  rcases zfw hn hp with rfl | ⟨hp,hk⟩
  ·rcases zfw hn hq with rfl | ⟨hq,hk⟩
   ·rfl
   ·exact absurd (congrArg Prod.fst (h.inj q hq _ hm x.symm)) hk
  ·rcases zfw hn hq with rfl | ⟨hq,hk'⟩
   ·exact absurd (congrArg Prod.fst (h.inj p hp _ hm x)) hk
   ·exact h.inj p hp q hq x
theorem e_42 (s:Sw) (m:Nat):(s.ent m)[42]?=some (.bool s.kn):=by
 have:=s_42 s
 unfold Sw.cells at this
 unfold Sw.ent
 rw [List.getElem?_toArray] at this ⊢
 rw [List.getElem?_append_left (by rw [zgx];decide)]
 exact this
theorem e_h (s:Sw) (m:Nat):sub (s.ent m) 8 32=s.d.h.cells:=zbv s.d.head (bts s.d.h.l) ([.int .i64 s.d.q] ++ (.int .i64 s.st :: .bool s.kn :: bts s.s.l) ++ [Value.map (some m)]) rfl s.d.h.len (by simp [Sw.ent,Sw.list,Dl.list])
theorem e_set (s:Sw) (m:Nat) (h:Hs):over ((s.ent m).setIfInBounds 42 (.bool true)) 43 h.cells.toList=Sw.ent { s with kn:=true,s:=h } m:=by
 obtain ⟨d,st,kn,e⟩:=s
 obtain ⟨i,r,p,g,hh,q⟩:=d
 obtain ⟨f,rfl⟩:=hh.form
 obtain ⟨f',rfl⟩:=e.form
 obtain ⟨f2,rfl⟩:=h.form
 kernel_rfl
def IsH (v:Value):Prop:=∃ h:Hs,v=.agg h.cells
theorem is_h (h:Hs):IsH (.agg h.cells)=True:=eq_true ⟨h,rfl⟩
theorem eqg39 (w:World) (op:BinOp) (x y:Operand) (xs ys:Array Value) (ho:op=.neq ∨ op=.eql):(eqGuard op 58 x y (.agg xs) (.agg ys)).run Tryz.prog w=.ok () w:=by rcases ho with rfl | rfl <;> kernel_rfl
theorem neq_h (h:Hs) (w:World):(binOp .neq 58 (.agg h.cells) (.agg h.cells)).run Tryz.prog w=.ok (.bool false) w:=by
 obtain ⟨f,rfl⟩:=h.form
 have e:=eq39 f 9998
 rw [ztv]
 simp [go_sem,e]
theorem eneq39 (w:World) (ρ:Operand→Value) (x y:Operand) (dst:Option Tmp) (ty:TypeId) (pos:String) (af:Array Edge) (gd:Option (Nat × Bool)) (r:TypeId) (h1:ρ x=ρ y) (h2:IsH (ρ y)):(execOp ρ ⟨dst,.binOp .neq 58 x y r,ty,pos,af,gd⟩).run Tryz.prog w=.ok (.value (.bool false)) w:=by
 obtain ⟨m,hm⟩:=h2
 unfold execOp
 simp only [Sem.run_bind,h1,hm,eqg39 _ _ _ _ _ _ (.inl rfl),Result.andThen_ok,neq_h,Sem.run_pure]
theorem sl_in {w:World} {b o:Nat} {cs:Array Value} {h:Hs} (hr:rowOf w b=cs) (hs:sub cs o 32=h.cells):Sl w (some ⟨b,o,none⟩) 32 32 (bts h.l):=by
 refine ⟨h.len,zadw _,(fun q=>by cases q),.inr ⟨b,o,rfl,fun j x hj=>?_⟩⟩
 have:=zgo hr o 32
 rw [hs] at this
 exact this j x hj
attribute [local go_sem ↓] zad eneq39
attribute [local go_sem] zaf zai zaj zal zac zak zab zah zae Ext.row Ext.soft_ zly e_42 e_h zabu is_h
set_option maxHeartbeats 1000000 in
theorem zrp {w:World} (ht:Tabs w) {bk mb:Nat} {M:List (Int × En)} (h:BookAt w bk mb M) {k:Int} {e:En} (he:getA M k=some e) {r:Rc} (hkn:e.s.kn=false) (hs:sumH r.s.l=e.s.d.h):
  Calls Tryz.prog 188 #[.pointer (some ⟨e.b,0,none⟩),.agg r.cells] w fun x w'=>x=.returned (.int .i64 0)∧BookAt w' bk mb (putA M k ⟨e.b,e.m,{ e.s with kn:=true,s:=r.s }⟩)∧Turns (fun i _=>i=e.b) w w':=by
 have HE:=(h.en _ (zb7 he)).1
 have H:=zadv h
 have HA:=zadv he
 have HE:=zadv HE
 have HT:=zadv ht
 clear h he ht
 go_enter Tryz.func188,Tryz.ntmps188
 go_upto_region 1 with (fail)
 have bx:=Bx.new w (r.cells) 162;generalize w.alloc (.cells (r.cells) 162)=W at bx ⊢;have rx:=bx.rowOf;have sx:=bx.soft;have BX:=zadv bx;clear bx
 have r1:=zaa ((BX.out.below.block _ HE.out.lt.1).trans HE.out.row)
 have z1:=e_42 e.s e.m
 rw [hkn] at z1
 have z2:=e_h e.s e.m
 have z3:=zly e.s e.m
 have KB:∀ g:Ext W,Calls Tryz.prog 106 #[.slice (some ⟨w.heap.size,43,none⟩) 32 32] g.val (Ret (.agg e.s.d.h.cells) g.val):=fun g=>by
  rw [← hs]
  exact zb0 (zfv (HT.out.keep (zadw _) (BX.out.step g.below).below) (sl_in (BX.out.step g.below).rowOf (r_s r)) (by decide))
 have KB:=zadv KB
 generalize hC:e.s.ent e.m=C at r1 z1 z2 z3
 have HC:=zadv hC
 have z4:∀ q:42 < C.size,C[42]'q=.bool false:=fun q=>getg z1 q
 clear hC
 have hlt0:w.heap.size < W.heap.size:=(zadu BX.out.row).1
 have hlt1:e.b < W.heap.size:=Nat.lt_of_lt_of_le HE.out.lt.1 BX.out.below.size
 go_upto_region 3 with (fail)
 (refine zaz (by kernel_rfl) (by kernel_rfl) ?_;(repeat (go_big_quiet_step (((go_at_call 106;exact Calls.ext_of (KB.out _))))));refine wpQuiet_nil ?_;rintro _ ⟨g,rfl⟩)
 have bx:=BX.out.step g.below
 have hE2:g.val.heap[e.b]?=some (.cells C 198):=by
  rw [← HC.out]
  exact (bx.below.block _ HE.out.lt.1).trans HE.out.row
 have HB:=zadv (H.out.below bx.below)
 have rE:=zaa hE2
 have sE:=zan hE2
 have hne:¬ e.b=w.heap.size:=Nat.ne_of_lt HE.out.lt.1
 clear BX KB rx sx r1 z1 z2 z4 hlt0 hlt1
 generalize g.val=V at *
 have rx:=bx.rowOf
 have BX:=zadv bx
 have HE2:=zadv hE2
 clear bx hE2
 go_wp2
 go_ret
 rw [zcs,← HC.out,e_set]
 have hne2:∀ i,i ≠ e.b→(V.setRow e.b (Sw.ent { e.s with kn:=true,s:=r.s } e.m)).heap[i]?=V.heap[i]?:=fun i hi=>setRow_other _ _ _ _ hi
 have hlow:∀ i,i ≠ e.b→i < w.heap.size→(V.setRow e.b (Sw.ent { e.s with kn:=true,s:=r.s } e.m)).heap[i]?=w.heap[i]?:=fun i hi hl=>(hne2 i hi).trans (BX.out.below.block i hl)
 refine ⟨rfl,?_,⟨BX.out.below.os,BX.out.below.tape,BX.out.below.output,Nat.le_trans BX.out.below.size (by simp [World.setRow]),fun i hi hF=>hlow i (hF 0) hi⟩⟩
 exact HB.out.turn HA.out (setRow_heap V e.b C _ 198 _ HE2.out) hne2
end
section
open Go.RowKit
open Sx (MapIs getL putL KeyT keyInt Turns Foot)
attribute [local go_sem ↓] zad
attribute [local go_sem] zaf zai zaj zal
theorem zik {F:Foot} {w W w':World} (hb:Below w.heap.size w W) (h:Turns F W w'):Turns F w w':=
 ⟨h.os.trans hb.os,h.tape.trans hb.tape,h.output.trans hb.output,Nat.le_trans hb.size h.size,fun k hk hF=>(h.block k (Nat.lt_of_lt_of_le hk hb.size) hF).trans (hb.block k hk)⟩
theorem zacb {w:World} {bk mb:Nat} {M:List (Int × En)} (h:BookAt w bk mb M) {d:Dl} (hd:za5 d=true) (hf:getA M d.i=none) (hl:M.length < 16):Calls Tryz.prog 114 #[.pointer (some ⟨bk,0,none⟩),.agg (rcD d).cells] w fun e w'=>e=.returned (.int .i64 0)∧∃ be bm,BookAt w' bk mb (putA M d.i ⟨be,bm,⟨d,1,false,Hs.zero⟩⟩)∧Turns (fun i _=>i=mb) w w'∧w.heap.size ≤ be∧w.heap.size ≤ bm:=by
 have H:=zadv h
 have HF:=zadv hf
 have H1:=zadv hd
 have HL:=zadv hl
 clear h hf hd hl
 go_enter Tryz.func114,Tryz.ntmps114
 go_upto_region 1 with (fail)
 have bx:=Bx.new w ((rcD d).cells) 162;generalize w.alloc (.cells ((rcD d).cells) 162)=W at bx ⊢;have rx:=bx.rowOf;have sx:=bx.soft;have BX:=zadv bx;clear bx
 go_wp2_with fail
 refine (zkg H1.out _).mono ?_;rintro _ W2 ⟨rfl,hb⟩;have bx:=BX.out.step hb;clear BX rx sx hb;have rx:=bx.rowOf;have sx:=bx.soft;have BX:=zadv bx;clear bx
 have K:=zadv (zxn (H.out.below BX.out.below) (rcD d) HF.out HL.out)
 go_wp2_with fail
 refine K.out.mono ?_
 rintro _ W3 ⟨rfl,be,bm,q1,q2,q3,q4⟩
 have Q1:=zadv q1
 have Q2:=zadv (zik BX.out.below q2)
 have hz:=BX.out.below.size
 clear q1 q2 K
 go_wp2
 go_ret
 exact ⟨rfl,be,bm,Q1.out,Q2.out,by omega,by omega⟩
theorem zn4 {w:World} {es:Array MapEntry} {c r:Nat} {k:Int} {v:Value} (hr:r=w.heap.size) (hk:∀ e ∈ es.toList,∃ m,e.key=.int .i64 m∧m ≠ k):
  (Instr.mapUpdate 275 (.map (some r)) (.int .i64 k) v).run Tryz.prog (w.alloc (.map es c))=.ok () (w.alloc (.map (es.push ⟨.int .i64 k,v,c⟩) (c + 1))):=by
 subst hr
 have hK:KeyT Tryz.prog 3 IntK:=keyInt Tryz.underlying3
 have h2:(w.alloc (.map es c)).heap[w.heap.size]?=some (.map es c):=heap_alloc_new w _
 have hget:=MapKept.run_getObj_map (P:=Tryz.prog) h2
 have hfi:=hK.find (.int .i64 k) es.toList (w.alloc (.map es c)) ⟨k,rfl⟩ (fun e he=>by obtain ⟨m,hm,_⟩:=hk e he;exact ⟨m,hm⟩)
 have hno:Sx.findIx (.int .i64 k) es.toList 0=none:=by
  have gen:∀ (l:List MapEntry) (i:Nat),(∀ e ∈ l,∃ m,e.key=.int .i64 m∧m ≠ k)→Sx.findIx (.int .i64 k) l i=none:=by
   intro l
   induction l with
   | nil=>intro i _;rfl
   | cons a l ih=>
    intro i hl
    obtain ⟨m,hm,hn⟩:=hl a (List.mem_cons_self ..)
    unfold Sx.findIx
    rw [if_neg (by rw [hm];intro q;injection q with _ q;exact hn q.symm)]
    exact ih (i + 1) fun e he=>hl e (List.mem_cons_of_mem _ he)
  exact gen _ 0 hk
 rw [hno] at hfi
 have hset:=MapKept.run_setObj_map (P:=Tryz.prog) (.map (es.push ⟨.int .i64 k,v,c⟩) (c + 1)) h2
 simp only [Instr.mapUpdate,Sem.run_bind,run_underlying Tryz.underlying275,Result.andThen_ok,hget,hK.chk false (.int .i64 k) _ ⟨k,rfl⟩,hfi,hset]
 have e:(w.heap.push (.map es c)).setIfInBounds w.heap.size (.map (es.push ⟨.int .i64 k,v,c⟩) (c + 1))=w.heap.push (.map (es.push ⟨.int .i64 k,v,c⟩) (c + 1)):=by
  apply Array.ext_getElem?
  intro i
  rw [Array.getElem?_setIfInBounds,Array.getElem?_push,Array.getElem?_push]
  by_cases q:w.heap.size=i
  ·subst q;simp
  ·rw [if_neg q,if_neg (Ne.symm q)]
   simp [Ne.symm q]
 show Result.ok () { w with heap:=(w.heap.push (.map es c)).setIfInBounds w.heap.size _ }=Result.ok () { w with heap:=w.heap.push _ }
 rw [e]
theorem zup {w:World} {v v2 v3:Value} {r:Nat} (hr:r=w.heap.size):(Instr.lookup 275 (.map (some r)) (.int .i64 2) false).run Tryz.prog (w.alloc (.map #[⟨.int .i64 2,v,0⟩,⟨.int .i64 3,v2,1⟩,⟨.int .i64 4,v3,2⟩] 3))=.ok v (w.alloc (.map #[⟨.int .i64 2,v,0⟩,⟨.int .i64 3,v2,1⟩,⟨.int .i64 4,v3,2⟩] 3)):=by
 subst hr
 have hK:KeyT Tryz.prog 3 IntK:=keyInt Tryz.underlying3
 have h2:=heap_alloc_new w (.map #[⟨.int .i64 2,v,0⟩,⟨.int .i64 3,v2,1⟩,⟨.int .i64 4,v3,2⟩] 3)
 have hget:=MapKept.run_getObj_map (P:=Tryz.prog) h2
 generalize hW:w.alloc (.map #[⟨.int .i64 2,v,0⟩,⟨.int .i64 3,v2,1⟩,⟨.int .i64 4,v3,2⟩] 3)=W at *
 have hfi:=hK.find (.int .i64 2) [⟨.int .i64 2,v,0⟩,⟨.int .i64 3,v2,1⟩,⟨.int .i64 4,v3,2⟩] W ⟨2,rfl⟩ (fun e he=>by
  simp only [List.mem_cons,List.not_mem_nil,or_false] at he
  rcases he with rfl | rfl | rfl
  ·exact ⟨2,rfl⟩
  ·exact ⟨3,rfl⟩
  ·exact ⟨4,rfl⟩)
 have hf:Sx.findIx (.int .i64 2) [⟨.int .i64 2,v,0⟩,⟨.int .i64 3,v2,1⟩,⟨.int .i64 4,v3,2⟩] 0=some (0,v):=by
  unfold Sx.findIx
  rw [if_pos rfl]
 rw [hf] at hfi
 simp only [Instr.lookup,Sem.run_bind,run_underlying Tryz.underlying275,Result.andThen_ok,hget,Sem.run_pure,hK.chk _ (.int .i64 2) W ⟨2,rfl⟩,hfi]
 rfl
attribute [local go_sem] Sx.run_mk zaw
theorem zacc {w:World} (ht:Tabs w) {bk mb:Nat} {M:List (Int × En)} (h:BookAt w bk mb M) {k:Int} {e:En} (hi:wi k 1 1073741824=true) (he:getA M k=some e) {s:Hs} (hkn:e.s.kn=false) (hs:sumH s.l=e.s.d.h):
  Calls Tryz.prog 114 #[.pointer (some ⟨bk,0,none⟩),.agg (rcS k s).cells] w fun x w'=>x=.returned (.int .i64 0)∧BookAt w' bk mb (putA M k ⟨e.b,e.m,{ e.s with kn:=true,s:=s }⟩)∧Turns (fun i _=>i=e.b) w w':=by
 have H:=zadv h
 have HA:=zadv he
 have HT:=zadv ht
 have HI:=zadv hi
 clear h he ht hi
 go_enter Tryz.func114,Tryz.ntmps114
 go_upto_region 1 with (fail)
 have bx:=Bx.new w ((rcS k s).cells) 162;generalize w.alloc (.cells ((rcS k s).cells) 162)=W at bx ⊢;have rx:=bx.rowOf;have sx:=bx.soft;have BX:=zadv bx;clear bx
 go_wp2_with fail
 refine (zkh HI.out _).mono ?_;rintro _ W2 ⟨rfl,hb⟩;have bx:=BX.out.step hb;clear BX rx sx hb;have rx:=bx.rowOf;have sx:=bx.soft;have BX:=zadv bx;clear bx
 have hB:=(H.out.below BX.out.below)
 have r0:=zaa hB.ob
 have L:=(hB.drew.look k).1
 rw [HA.out] at L
 replace L:(Instr.lookup 192 (.map (some mb)) (.int .i64 k) false).run Tryz.prog W2.drew=.ok (.pointer (some ⟨e.b,0,none⟩)) W2.drew:=L
 have HB:=zadv hB.drew
 clear hB
 go_upto_region 6 with (fail)
 go_region
 have bx:=BX.out.step (Below.refl _ W2).drew
 clear BX rx sx r0 L
 generalize W2.drew=V at *
 have rx:=bx.rowOf
 have sx:=bx.soft
 have BX:=zadv bx
 clear bx
 go_upto_region 9 with (fail)
 have hlt:=(zadu BX.out.row).1
 have hne:(w.heap.size=V.heap.size)=False:=eq_false (by omega)
 obtain ⟨f1,hf1⟩:∃ f,f=Value.func (Fn.func 188) #[.pointer (some ⟨e.b,0,none⟩)] #[]:=⟨_,rfl⟩
 obtain ⟨f2,hf2⟩:∃ f,f=Value.func (Fn.func 189) #[.pointer (some ⟨e.b,0,none⟩)] #[]:=⟨_,rfl⟩
 obtain ⟨f3,hf3⟩:∃ f,f=Value.func (Fn.func 190) #[.pointer (some ⟨e.b,0,none⟩)] #[]:=⟨_,rfl⟩
 have I1:(Instr.mapUpdate 275 (.map (some V.heap.size)) (.int .i64 2) f1).run Tryz.prog (V.alloc (.map #[] 0))=.ok () (V.alloc (.map #[⟨.int .i64 2,f1,0⟩] 1)):=zn4 rfl (by intro e he;simp at he)
 have I2:(Instr.mapUpdate 275 (.map (some V.heap.size)) (.int .i64 3) f2).run Tryz.prog (V.alloc (.map #[⟨.int .i64 2,f1,0⟩] 1))=.ok () (V.alloc (.map #[⟨.int .i64 2,f1,0⟩,⟨.int .i64 3,f2,1⟩] 2)):=zn4 rfl (by
  intro e he
  simp only [List.mem_cons,List.not_mem_nil,or_false] at he
  subst he
  exact ⟨2,rfl,by decide⟩)
 have I3:(Instr.mapUpdate 275 (.map (some V.heap.size)) (.int .i64 4) f3).run Tryz.prog (V.alloc (.map #[⟨.int .i64 2,f1,0⟩,⟨.int .i64 3,f2,1⟩] 2))=.ok () (V.alloc (.map #[⟨.int .i64 2,f1,0⟩,⟨.int .i64 3,f2,1⟩,⟨.int .i64 4,f3,2⟩] 3)):=zn4 rfl (by
  intro e he
  simp only [List.mem_cons,List.not_mem_nil,or_false] at he
  rcases he with rfl | rfl
  ·exact ⟨2,rfl,by decide⟩
  ·exact ⟨3,rfl,by decide⟩)
 have I4:(Instr.lookup 275 (.map (some V.heap.size)) (.int .i64 2) false).run Tryz.prog (V.alloc (.map #[⟨.int .i64 2,f1,0⟩,⟨.int .i64 3,f2,1⟩,⟨.int .i64 4,f3,2⟩] 3))=.ok f1 (V.alloc (.map #[⟨.int .i64 2,f1,0⟩,⟨.int .i64 3,f2,1⟩,⟨.int .i64 4,f3,2⟩] 3)):=zup rfl
 have hb:Below V.heap.size V (V.alloc (.map #[⟨.int .i64 2,f1,0⟩,⟨.int .i64 3,f2,1⟩,⟨.int .i64 4,f3,2⟩] 3)):=(Below.refl _ V).alloc (zadw _) _
 have K:=zadv (zrp (HT.out.keep (zadw _) (BX.out.step hb).below) (HB.out.below hb) HA.out (r:=rcS k s) hkn hs)
 have HY:=zadv (BX.out.step hb).below
 subst hf1 hf2 hf3
 clear hb hlt
 go_wp2_with fail
 refine K.out.mono ?_
 rintro _ W5 ⟨rfl,q1,q2⟩
 have Q1:=zadv q1
 have Q2:=zadv (zik HY.out q2)
 clear q1 q2 K HY I1 I2 I3 I4 hne rx sx
 go_wp2
 go_ret
 exact ⟨rfl,Q1.out,Q2.out⟩
end
section
open Go.RowKit Go.Shelf
open Sx (MapIs getL putL KeyT keyInt Turns Foot)
attribute [local go_sem] Oper.semAt_some
end
end Go.Proofs.YthjgiamfaijoeaaGreatDoor
