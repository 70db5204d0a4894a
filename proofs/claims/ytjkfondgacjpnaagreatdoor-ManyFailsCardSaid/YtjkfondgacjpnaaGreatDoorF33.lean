/- What is proved: parts of the walk and of the plain law, 1 texts in one. No condition but those each law names. -/
import Derived.Test.YtjkfondgacjpnaaGreatDoorF32
import Derived.Lib.ConvBytes
import Derived.ArgAppend
namespace Go.Proofs.YtjkfondgacjpnaaGreatDoor
open Go.RowKit
set_option maxRecDepth 100000
def pad64 (l:List Nat):List Nat:=l ++ List.replicate (64 - l.length) 0
def piecesV (h:List Int) (count:Nat) (l:List Nat):List Int:=
 if hl:l.length ≤ 64 then takeV h (pad64 l) (count + l.length) true
 else piecesV (takeV h (l.take 64) (count + 64) false) (count + 64) (l.drop 64)
termination_by l.length
decreasing_by simp;omega
theorem Bx.set1 {w W:World} {C:Array Value} {t:TypeId} (h:Bx w C t W) (k:Nat) (v:Value):Bx w (C.setIfInBounds k v) t (W.setCell ⟨w.heap.size,k,none⟩ v):=by
 refine ⟨?_,h.below.setCell (Nat.le_refl _) _⟩
 rw [heap_setCell_at,if_pos rfl,h.row]
 rfl
theorem pieces_last {h:List Int} {k:Nat} {l:List Nat} (hl:l.length ≤ 64):piecesV h k l=takeV h (pad64 (l.take 64)) (k + l.length) true:=by
 rw [piecesV,dif_pos hl,List.take_of_length_le hl]
theorem pieces_next {h:List Int} {k:Nat} {l:List Nat} (hl:64 < l.length):piecesV h k l=piecesV (takeV h (pad64 (l.take 64)) (k + 64) false) (k + 64) (l.drop 64):=by
 rw [piecesV,dif_neg (by omega)]
 have e:pad64 (l.take 64)=l.take 64:=by
  unfold pad64
  rw [List.length_take,Nat.min_eq_left (by omega)]
  simp
 rw [e]
def h0V:List Int:=begV.set 0 (bits .xor .u32 (wd begV 0) (bits .xor .u32 (bits .xor .u32 16842752 0) 32))
def outB (h:List Int) (k:Nat):Nat:=(wd h (k / 4) / 2 ^ (8 * (k % 4)) % 256).toNat
theorem outB_int (h:List Int) (k:Nat):((outB h k:Nat):Int)=wd h (k / 4) / 2 ^ (8 * (k % 4)) % 256:=by
 unfold outB
 exact Int.toNat_of_nonneg (Int.emod_nonneg _ (by decide))
def outN (h:List Int):Nat→List Nat
 | 0=>List.replicate 32 0
 | k + 1=>(outN h k).set k (outB h k)
theorem outN_len (h:List Int):∀ k,(outN h k).length=32
 | 0=>rfl
 | k + 1=>by rw [outN,List.length_set];exact outN_len h k
theorem outN_small (h:List Int):∀ k,∀ x ∈ outN h k,x < 256
 | 0,x,hx=>by
  have:=List.eq_of_mem_replicate hx
  omega
 | k + 1,x,hx=>by
  rcases List.mem_or_eq_of_mem_set hx with h1 | h1
  ·exact outN_small h k x h1
  ·have:=outB_int h k
   omega
def outH (h:List Int) (k:Nat):Hs:=⟨outN h k,outN_len h k⟩
theorem outH_cells (h:List Int) (k:Nat):(bts (outN h k)).toArray=(outH h k).cells:=rfl
theorem outH_small (h:List Int) (k:Nat):∀ x ∈ (outH h k).l,x < 256:=outN_small h k
theorem outN_at (h:List Int) (k:Nat) {j:Nat} (hj:j < 32):((bts (outN h k)).toArray)[j]?=some (.int .u8 ((outN h k).getD j 0:Nat)):=by
 have:j < (outN h k).length:=by rw [outN_len];exact hj
 simp [bts,List.getElem?_eq_getElem this,List.getD]
attribute [local go_sem ↓] rowOf_cell
attribute [local go_sem] rowOf_alloc soft_alloc rowOf_drew soft_drew rowOf_setRow soft_setRow frozen_of_soft Ext.row Ext.soft_
theorem copy64 {w:World} {ao:Option Addr} {n c:Nat} {l:List Nat} (hsl:Sl w ao n c (bts l)) {g:Nat} (hg:w.heap[g]?=some (.cells (bts (List.replicate 64 0)).toArray 190)):
  (Builtin.copy_ #[56,56] 3 #[.slice (some ⟨g,0,none⟩) 64 64,.slice ao n c]).run Tryz.prog w=.ok (.int .i64 (min n 64:Nat)) (w.setRow g (bts (pad64 (l.take 64))).toArray):=by
 have hln:l.length=n:=by rw [← hsl.len,bts_length]
 have hi5:(Tryz.prog.info? 5).map (·.size)=some 1:=by kernel_rfl
 cases ao with
 | none=>
  obtain rfl:c=0:=hsl.nil rfl
  obtain rfl:n=0:=by have:=hsl.le;omega
  obtain rfl:l=[]:=List.eq_nil_of_length_eq_zero hln
  rw [run_copy_nil Tryz.prog _ 56 56 3 5 _ 64 64 Tryz.underlying56 (by rw [hi5];rfl)]
  rw [show bts (pad64 (List.take 64 []))=bts (List.replicate 64 0) from rfl,Go.setRow_self w g _ 190 _ hg]
  rfl
 | some a=>
  have hcell:∀ j v,(bts (l.take 64))[j]?=some v→w.cell? (a.add j)=some v:=fun j v hj=>by
   have hj2:(bts l)[j]?=some v:=by
    unfold bts at hj ⊢
    rw [List.map_take,List.getElem?_take] at hj
    split at hj
    ·exact hj
    ·cases hj
   obtain ⟨b,o,e,_,hc⟩:=hsl.at (by have:=(List.getElem?_eq_some_iff.1 hj2).1;rw [bts_length] at this;omega)
   cases e
   rw [add_plain_addr]
   exact hc j v hj2
  have hlt:(bts (l.take 64)).length=min n 64:=by rw [bts_length,List.length_take,hln];exact Nat.min_comm _ _
  rw [run_copy_row Tryz.prog _ 56 56 3 5 g 0 64 64 a n c _ 190 (bts (l.take 64)) Tryz.underlying56 hi5 hg hlt hcell (by rw [hlt];simp [bts];omega) (bts_one _)]
  rw [hlt]
  have e:List.take 0 (bts (List.replicate 64 0)) ++ bts (l.take 64) ++ List.drop (0 + min n 64) (bts (List.replicate 64 0))=bts (pad64 (l.take 64)):=by
   unfold pad64
   rw [List.take_zero,List.nil_append,bts_append,Nat.zero_add,List.length_take,hln]
   congr 1
   unfold bts
   rw [← List.map_drop,List.drop_replicate]
   congr 2
   omega
  rw [e]
  rfl
def slN:Value→Nat
 | .slice _ n _=>n
 | _=>0
theorem load230g (w:World) (a:Act) (dst:Option Tmp) (ty:TypeId) (pos:String) (af:Array Edge) (gd:Option (Nat × Bool)) (h:rowOf w 1=uts begV):(execOp a.eval ⟨dst,.load 188 (.global 1),ty,pos,af,gd⟩).run Tryz.prog w=.ok (.value (.agg (uts begV))) w:=by
 rw [load230 w a.eval (.global 1) dst ty pos af gd rfl (by show 0 + 8 ≤ (rowOf w 1).size;rw [h];decide)]
 show Result.ok (Next.value (.agg (sub (rowOf w 1) 0 8))) w=_
 rw [h,uts_sub (n:=8) rfl]
attribute [local go_sem ↓] load230g
set_option maxHeartbeats 4000000 in
theorem Keyed_nil {w:World} {t4 t5:TypeId} {ao:Option Addr} {n c:Nat} {l:List Nat} (hg:w.heap[1]?=some (.cells (uts begV) t4)) (ho:w.heap[2]?=some (.cells ordC t5)) (hs:Sl w ao n c (bts l)) (hn:n < 1000000):
  Calls Tryz.prog 65 #[.slice none 0 0,.slice ao n c] w fun e w'=>e=.returned (.agg (bts (outN (piecesV h0V 0 l) 32)).toArray)∧Below w.heap.size w w':=by
 have hg4:=rowOf_of hg
 go_enter Tryz.func65,Tryz.ntmps65
 go_upto_region 4 with (fail)
 obtain ⟨bx,hz1⟩:=(Bxs.nil w).snoc rfl Hs.zero.cells 65
 simp only [List.nil_append,List.length_singleton] at bx hz1
 generalize w.alloc (.cells Hs.zero.cells 65)=W1 at bx hz1 ⊢
 have hg4:rowOf W1 1=uts begV:=rowOf_of ((bx.below.block _ (Array.getElem?_eq_some_iff.1 hg).1).trans hg)
 have z3:(uts begV).size=8:=rfl
 have z2:=uts_ones begV
 go_upto_region 5 with (fail)
 rw [show (#[Value.int IntKind.u32 0,Value.int IntKind.u32 0,Value.int IntKind.u32 0,Value.int IntKind.u32 0,Value.int IntKind.u32 0,Value.int IntKind.u32 0,Value.int IntKind.u32 0,Value.int IntKind.u32 0]:Array Value)=uts z8 from rfl]
 have bx:=(bx.snoc' hz1 (uts z8) 188).put (j:=1) rfl (uts begV)
 have hz2:((W1.alloc (.cells (uts z8) 188)).setRow (w.heap.size + 1) (uts begV)).heap.size=w.heap.size + 2:=by simp [World.setRow,hz1]
 simp only [List.cons_append,List.nil_append,List.set_cons_succ,List.set_cons_zero] at bx
 generalize (W1.alloc (.cells (uts z8) 188)).setRow (w.heap.size + 1) (uts begV)=W2 at bx hz2 ⊢
 clear hz1 hg4
 have c0:=bx.word 1 rfl (a:=0) (by decide)
 have s0:=bx.soft' 1 rfl
 go_upto_region 10 with (fail)
 have bx:=bx.wset (j:=1) rfl 0 (bits .xor .u32 (wd begV 0) (bits .xor .u32 (bits .xor .u32 16842752 0) 32))
 simp only [List.set_cons_succ,List.set_cons_zero] at bx
 generalize W2.setCell _ _=W3 at bx ⊢
 clear c0 s0
 go_loopw [7,8] (fun v u wr=>∃ (j:Nat) (ao':Option Addr) (c':Nat) (hh:List Int),j ≤ n∧v=.slice ao' (n - j) c'∧u=.int .u64 j∧Sl w ao' (n - j) c' (bts (l.drop j))∧hh.length=8∧Bxs w [(Hs.zero.cells,65),(uts hh,188)] wr∧piecesV hh j (l.drop j)=piecesV h0V 0 l) (fun v _ _=>slN v)
 case atStart=>exact ⟨0,ao,c,h0V,Nat.zero_le _,rfl,rfl,hs,rfl,bx,rfl⟩
 case round=>
  clear bx
  obtain ⟨j,ao',c',hh,hj,rfl,rfl,S,hl8,BX,PV⟩:=hrel
  have hb1:=(Below.refl wr.heap.size wr).alloc (Nat.le_refl _) (.cells (bts (List.replicate 64 0)).toArray 190)
  have S1:=(S.keep (Nat.le_refl _) BX.below).keep (Nat.le_refl _) hb1
  have hcp:=copy64 S1 (heap_alloc_new wr _)
  go_upto_region 11 with (fail)
  rw [show (#[Value.int IntKind.u8 0,Value.int IntKind.u8 0,Value.int IntKind.u8 0,Value.int IntKind.u8 0,Value.int IntKind.u8 0,Value.int IntKind.u8 0,Value.int IntKind.u8 0,Value.int IntKind.u8 0,Value.int IntKind.u8 0,Value.int IntKind.u8 0,Value.int IntKind.u8 0,Value.int IntKind.u8 0,Value.int IntKind.u8 0,Value.int IntKind.u8 0,Value.int IntKind.u8 0,Value.int IntKind.u8 0,Value.int IntKind.u8 0,Value.int IntKind.u8 0,Value.int IntKind.u8 0,Value.int IntKind.u8 0,Value.int IntKind.u8 0,Value.int IntKind.u8 0,Value.int IntKind.u8 0,Value.int IntKind.u8 0,Value.int IntKind.u8 0,Value.int IntKind.u8 0,Value.int IntKind.u8 0,Value.int IntKind.u8 0,Value.int IntKind.u8 0,Value.int IntKind.u8 0,Value.int IntKind.u8 0,Value.int IntKind.u8 0,Value.int IntKind.u8 0,Value.int IntKind.u8 0,Value.int IntKind.u8 0,Value.int IntKind.u8 0,Value.int IntKind.u8 0,Value.int IntKind.u8 0,Value.int IntKind.u8 0,Value.int IntKind.u8 0,Value.int IntKind.u8 0,Value.int IntKind.u8 0,Value.int IntKind.u8 0,Value.int IntKind.u8 0,Value.int IntKind.u8 0,Value.int IntKind.u8 0,Value.int IntKind.u8 0,Value.int IntKind.u8 0,Value.int IntKind.u8 0,Value.int IntKind.u8 0,Value.int IntKind.u8 0,Value.int IntKind.u8 0,Value.int IntKind.u8 0,Value.int IntKind.u8 0,Value.int IntKind.u8 0,Value.int IntKind.u8 0,Value.int IntKind.u8 0,Value.int IntKind.u8 0,Value.int IntKind.u8 0,Value.int IntKind.u8 0,Value.int IntKind.u8 0,Value.int IntKind.u8 0,Value.int IntKind.u8 0,Value.int IntKind.u8 0]:Array Value)=(bts (List.replicate 64 0)).toArray from rfl]
  have hN:wr.heap.size < (wr.alloc (.cells (bts (List.replicate 64 0)).toArray 190)).heap.size:=by simp
  have hrow:=heap_alloc_new wr (.cells (bts (List.replicate 64 0)).toArray 190)
  generalize wr.alloc (.cells (bts (List.replicate 64 0)).toArray 190)=V1 at hb1 S1 hcp hN hrow ⊢
  go_upto_region 12 with (fail)
  have hb2:=Below.setRow_ hb1 (Nat.le_refl _) (bts (pad64 (List.take 64 (List.drop j l)))).toArray
  have hrow2:=setRow_heap V1 wr.heap.size _ (bts (pad64 (List.take 64 (List.drop j l)))).toArray 190 _ hrow
  generalize V1.setRow wr.heap.size (bts (pad64 (List.take 64 (List.drop j l)))).toArray=V2 at hb2 hrow2 ⊢
  clear hcp S1 hrow hN hb1
  obtain ⟨m,hm⟩:∃ m,m=min (n - j) 64:=⟨_,rfl⟩
  rw [← hm]
  have bx:=BX.step hb2
  clear BX
  have hmn:m ≤ n - j:=by omega
  have hmc:(n - j:Nat) ≤ c':=S.le
  have HM:=Lib.hid hm
  have e1:IntKind.u64.wrap (m:Int)=m:=by rw [IntKind.wrap_u64];omega
  have e2:IntKind.u64.wrap ((j:Int) + m)=((j + m:Nat):Int):=by rw [IntKind.wrap_u64];omega
  have S3:=S.cutB (l:=m) (r:=n - j) (m:=c') (q:=l.drop (j + m)) (n':=n - j - m) (cap':=c' - m) hmn (Nat.le_refl _) (Nat.le_refl _) hmc rfl rfl (by rw [List.drop_drop,List.take_of_length_le (by have:=S.len;rw [bts_length,List.length_drop] at this;rw [List.length_drop];omega)])
  have hlen:l.length - j=n - j:=by have:=S.len;rwa [bts_length,List.length_drop] at this
  clear hm S
  have g4:=(bx.below.block _ (Array.getElem?_eq_some_iff.1 hg).1).trans hg
  have g5:=(bx.below.block _ (Array.getElem?_eq_some_iff.1 ho).1).trans ho
  have plen:(pad64 (List.take 64 (List.drop j l))).length=64:=by unfold pad64;rw [List.length_append,List.length_replicate,List.length_take];omega
  have rb:=bx.row' 1 rfl
  have sb:=bx.soft' 1 rfl
  have z1:=uts_sub hl8
  have z2:=uts_ones hh
  have z3:(uts hh).size=8:=by rw [uts_size,hl8]
  have BX:=Lib.hid bx
  clear bx
  obtain ⟨r,hr⟩:∃ r,n - j - m=r:=⟨_,rfl⟩
  rw [hr] at S3
  have HRR:=Lib.hid hr
  have Hj:=Lib.hid hj
  have Hn:=Lib.hid hn
  have HL:=Lib.hid hlen
  have PV:=Lib.hid PV
  have S3:=Lib.hid S3
  clear hj hn hlen
  by_cases hz:r=0
  ·subst hz
   have T:=take_any g4 g5 ⟨hrow2,plen⟩ hl8 (j + m) true
   rw [Int.natCast_add] at T
   have TT:=Lib.hid T
   clear T g4 g5 hrow2 plen
   go_wp2_with fail
   refine TT.out.mono ?_
   rintro _ V3 ⟨rfl,b3⟩
   have bx:=BX.out.step b3
   clear TT BX rb sb
   have rb:=bx.row' 1 rfl
   have sb:=bx.soft' 1 rfl
   have hl9:(takeV hh (pad64 ((l.drop j).take 64)) (j + m) true).length=8:=by unfold takeV;rw [finN_len];exact hl8
   have hR:takeV hh (pad64 ((l.drop j).take 64)) (j + m) true=piecesV h0V 0 l:=by
    have hlen:=HL.out
    have hm:=HM.out
    have hj:=Hj.out
    rw [← PV.out,pieces_last (l:=l.drop j) (by rw [List.length_drop];omega),List.length_drop,show l.length - j=m by omega]
   rw [hR] at hl9 ⊢
   clear hR
   generalize hq:piecesV h0V 0 l=R at hl9 ⊢
   have hRR:=Lib.hid hq
   have z4:=uts_ones R
   have z5:(uts R).size=8:=by rw [uts_size,hl9]
   have bx:=bx.put (j:=1) rfl (uts R)
   simp only [List.set_cons_succ,List.set_cons_zero] at bx
   have BX:=Lib.hid bx
   clear bx PV hq
   go_upto_region 18 with (fail)
   have N:=Bx.new (V3.setRow (w.heap.size + 1) (uts R)) (bts (outN R 0)).toArray 65
   rw [show Hs.zero.cells=(bts (outN R 0)).toArray from rfl]
   clear rb sb hr hb2 e1 e2
   go_loopw [65] (fun v wr=>∃ k:Nat,k ≤ 32∧v=.int .i64 k∧Bx (V3.setRow (w.heap.size + 1) (uts R)) (bts (outN R k)).toArray 65 wr) (fun v _=>32 - (intOf v).toNat)
   case atStart=>exact ⟨0,by decide,rfl,N⟩
   case round=>
    clear N
    obtain ⟨k,hk,rfl,N⟩:=hrel
    have bx:=BX.out.step N.below
    have hz3:(V3.setRow (w.heap.size + 1) (uts R)).heap.size=V3.heap.size:=by simp [World.setRow]
    have rb:rowOf wr V3.heap.size=(bts (outN R k)).toArray:=by rw [← hz3];exact N.rowOf
    have sb:soft wr V3.heap.size=true:=by rw [← hz3];exact N.soft
    by_cases hlt:k < 32
    ·have i1:(k:Int) < 32:=by omega
     obtain ⟨q,hq⟩:∃ q,q=k / 4:=⟨_,rfl⟩
     have c0:=bx.word 1 rfl (a:=q) (by omega)
     have c1:(rowOf wr V3.heap.size)[k]?=_:=(congrArg (·[k]?) rb).trans (outN_at R k hlt)
     have i2:((k:Int).tdiv 4)=(q:Int):=by rw [hq];exact Int.ofNat_tdiv k 4
     have i3:((k:Int).tmod 4)=((k % 4:Nat):Int):=Int.ofNat_tmod k 4
     have i4:(q:Int) < 8:=by omega
     have HQ:=Lib.hid hq
     have NN:=Lib.hid N
     have HZ:=Lib.hid hz3
     clear hq rb N hz3
     go_upto_region 20 with (fail)
     go_wp2_with fail
     have N2:=NN.out.set1 k (.int .u8 (wd R q / 2 ^ (8 * (k % 4)) % 256))
     refine ⟨⟨k + 1,by omega,rfl,?_⟩,?_⟩
     ·rw [HZ.out] at N2
      have e:(bts (outN R k)).toArray.setIfInBounds k (.int .u8 (wd R q / 2 ^ (8 * (k % 4)) % 256))=(bts (outN R (k + 1))).toArray:=by
       rw [HQ.out,← outB_int]
       simp [outN,bts]
      rw [e] at N2
      exact N2
     ·show 32 - ((k:Int) + 1).toNat < 32 - (k:Int).toNat
      omega
    ·obtain rfl:k=32:=by omega
     have r0:=bx.row' 0 rfl
     have s0:=bx.soft' 0 rfl
     simp only [Nat.add_zero] at r0 s0
     have BB:=Lib.hid bx.below
     rw [outH_cells] at rb
     have hF0:=outH_cells R 32
     generalize outH R 32=hF at rb hF0
     have HF:=Lib.hid hF0
     clear hF0
     clear bx N
     go_wp2_with fail
     have hc:rowOf (World.setRow wr w.heap.size hF.cells) w.heap.size=hF.cells:=(rowOf_setRow _ _ _ _ s0).trans (if_pos rfl)
     refine bodyPost_ret (results_row (t:=65) rfl Tryz.underlying65 rfl (by kernel_rfl) _ _ w.heap.size rfl hc (h_size _)) rfl ?_
     refine ⟨?_,Below.setRow_ BB.out (Nat.le_refl _) _⟩
     rw [← HF.out,hRR.out]
  ·have hb0:((r:Int) == 0)=false:=by rw [beq_eq_false_iff_ne];omega
   have hcm:¬ c'=m:=by omega
   have Hz:=Lib.hid hz
   clear hz
   have T:=take_any g4 g5 ⟨hrow2,plen⟩ hl8 (j + m) false
   rw [Int.natCast_add] at T
   have TT:=Lib.hid T
   clear T g4 g5 hrow2 plen
   go_wp2_with fail
   refine TT.out.mono ?_
   rintro _ V3 ⟨rfl,b3⟩
   have bx:=BX.out.step b3
   clear TT BX rb sb
   have rb:=bx.row' 1 rfl
   have sb:=bx.soft' 1 rfl
   have hl9:(takeV hh (pad64 ((l.drop j).take 64)) (j + m) false).length=8:=by unfold takeV;rw [finN_len];exact hl8
   generalize htk:takeV hh (pad64 ((l.drop j).take 64)) (j + m) false=R at hl9 ⊢
   have z4:=uts_ones R
   have z5:(uts R).size=8:=by rw [uts_size,hl9]
   have BX:=Lib.hid bx
   have HT:=Lib.hid htk
   clear bx htk
   go_wp2_with fail
   have hr:=HRR.out
   have hlen:=HL.out
   have hz:=Hz.out
   have hm:=HM.out
   have hj:=Hj.out
   have h64:m=64:=by omega
   refine ⟨⟨j + m,cutA ao' m c',c' - m,R,by omega,?_,?_,?_,hl9,BX.out.put (j:=1) rfl (uts R),?_⟩,?_⟩
   ·rw [show n - (j + m)=r by omega]
   ·rw [Int.natCast_add]
   ·rw [show n - (j + m)=r by omega]
    exact S3.out
   ·rw [← PV.out,pieces_next (l:=l.drop j) (by rw [List.length_drop];omega),← HT.out,h64,List.drop_drop]
   ·show r < n - j
    omega
end Go.Proofs.YtjkfondgacjpnaaGreatDoor
namespace Go.Proofs.YtjkfondgacjpnaaGreatDoor
open Go.RowKit
set_option maxRecDepth 100000
structure Tabs (w:World):Prop where
 g4:∃ t,w.heap[1]?=some (.cells (uts begV) t)
 g5:∃ t,w.heap[2]?=some (.cells ordC t)
theorem Tabs.keep {w w':World} {B:Nat} (h:Tabs w) (hB:w.heap.size ≤ B) (hw:Below B w w'):Tabs w':=
 let ⟨t4,g4⟩:=h.g4
 let ⟨t5,g5⟩:=h.g5
 ⟨⟨t4,(hw.block _ (Nat.lt_of_lt_of_le (Array.getElem?_eq_some_iff.1 g4).1 hB)).trans g4⟩,⟨t5,(hw.block _ (Nat.lt_of_lt_of_le (Array.getElem?_eq_some_iff.1 g5).1 hB)).trans g5⟩⟩
def sumH (l:List Nat):Hs:=outH (piecesV h0V 0 l) 32
theorem sumH_small (l:List Nat):∀ x ∈ (sumH l).l,x < 256:=outH_small _ 32
attribute [local go_sem ↓] rowOf_cell
attribute [local go_sem] rowOf_alloc soft_alloc rowOf_drew soft_drew rowOf_setRow soft_setRow
theorem Keyed_any {w:World} (ht:Tabs w) {ao:Option Addr} {n c:Nat} {l:List Nat} (hs:Sl w ao n c (bts l)) (hn:n < 1000000):
  Calls Tryz.prog 65 #[.slice none 0 0,.slice ao n c] w fun e w'=>e=.returned (.agg (sumH l).cells)∧Below w.heap.size w w':=by
 obtain ⟨t4,g4⟩:=ht.g4
 obtain ⟨t5,g5⟩:=ht.g5
 have:=Keyed_nil g4 g5 hs hn
 rw [outH_cells] at this
 exact this
theorem Blake_any {w:World} (ht:Tabs w) {ao:Option Addr} {n c:Nat} {l:List Nat} (hs:Sl w ao n c (bts l)) (hn:n < 1000000):
  Calls Tryz.prog 45 #[.slice ao n c] w fun e w'=>e=.returned (.agg (sumH l).cells)∧Below w.heap.size w w':=by
 have HT:=Lib.hid ht
 have HS:=Lib.hid hs
 generalize hq:sumH l=q
 have HQ:=Lib.hid hq
 clear ht hs hq
 go_enter Tryz.func45,Tryz.ntmps45
 go_upto_region 1 with (fail)
 have bx:=Bx.new w (Hs.zero.cells) 65;generalize w.alloc (.cells (Hs.zero.cells) 65)=W at bx ⊢;have rx:=bx.rowOf;have sx:=bx.soft;have BX:=Lib.hid bx;clear bx
 have K:=Lib.hid (Keyed_any (HT.out.keep (Nat.le_refl _) BX.out.below) (HS.out.keep (Nat.le_refl _) BX.out.below) hn)
 rw [HQ.out] at K
 go_wp2_with fail
 refine K.out.mono ?_
 rintro _ W2 ⟨rfl,hb⟩
 have bx:=BX.out.step hb
 clear BX rx sx hb K
 have rx:=bx.rowOf
 have sx:=bx.soft
 have BX:=Lib.hid bx
 clear bx
 go_wp2
 have hc:rowOf (World.setRow W2 w.heap.size q.cells) w.heap.size=q.cells:=(rowOf_setRow _ _ _ _ sx).trans (if_pos rfl)
 refine bodyPost_ret (results_row (t:=65) rfl Tryz.underlying65 rfl (by kernel_rfl) _ _ w.heap.size rfl hc (h_size _)) rfl ?_
 exact ⟨rfl,Below.setRow_ BX.out.below (Nat.le_refl _) _⟩
def secretL:List Nat:=[115,101,99,114,101,116]
def secretS:ByteArray:=⟨#[115,101,99,114,101,116]⟩
theorem conv_secret (w:World):∃ c w',(convert 9 56 (.string secretS)).run Tryz.prog w=.ok (.slice (some ⟨w.heap.size,0,none⟩) 6 c) w'∧Below w.heap.size w w'∧Sl w' (some ⟨w.heap.size,0,none⟩) 6 c (bts secretL):=by
 have hsz:secretS.size=6:=by kernel_rfl
 have hr:=Go.Lib.run_convert_string_bytes (P:=Tryz.prog) w 9 56 5 secretS Tryz.underlying9 Tryz.underlying56 Tryz.underlying5
 rw [hsz] at hr
 refine ⟨grownCap w 6 0 5,Go.Lib.bytesWorld w 5 secretS,hr,⟨rfl,rfl,rfl,by rw [Go.Lib.bytesWorld_size];omega,fun k hk=>Go.Lib.bytesWorld_at_old w 5 secretS k hk⟩,⟨rfl,grownCap_ge w 6 0 5,(fun h=>by cases h),.inr ⟨_,0,rfl,fun j x hj=>?_⟩⟩⟩
 have hlt:j < 6:=(List.getElem?_eq_some_iff.1 hj).1
 rw [Nat.zero_add,Go.Lib.bytesWorld_cell w 5 secretS j (by rw [hsz];exact hlt)]
 match j,hlt with
 | 0,_=>exact hj
 | 1,_=>exact hj
 | 2,_=>exact hj
 | 3,_=>exact hj
 | 4,_=>exact hj
 | 5,_=>exact hj
def secretH (l:List Nat):Hs:=sumH ((sumH secretL).l ++ l)
set_option maxHeartbeats 1000000 in
theorem Tagged_any {w:World} (ht:Tabs w) {ao:Option Addr} {n c:Nat} {l:List Nat} (hs:Sl w ao n c (bts l)) (h0:0 < n) (hn:n < 100000):
  Calls Tryz.prog 60 #[.string secretS,.slice ao n c] w fun e w'=>e=.returned (.agg (secretH l).cells)∧Below w.heap.size w w':=by
 have HT:=Lib.hid ht
 have HS:=Lib.hid hs
 have hq:secretH l=secretH l:=rfl
 conv at hq=>lhs;unfold secretH
 generalize secretH l=q at hq ⊢
 have HQ:=Lib.hid hq
 generalize hx:sumH secretL=x at HQ
 have HX:=Lib.hid hx
 clear ht hs hq hx
 go_enter Tryz.func60,Tryz.ntmps60
 go_upto_region 1 with (fail)
 have bx:=Bx.new w (Hs.zero.cells) 65;generalize w.alloc (.cells (Hs.zero.cells) 65)=W at bx ⊢;have rx:=bx.rowOf;have sx:=bx.soft;have BX:=Lib.hid bx;clear bx
 obtain ⟨c1,W1,hC,hb1,S1⟩:=conv_secret W
 have K:=Lib.hid (Blake_any (HT.out.keep (Nat.le_refl _) (BX.out.below.trans (hb1.mono BX.out.below.size))) S1 (by decide))
 rw [HX.out] at K
 have bx:=BX.out.step hb1
 clear BX
 have BX:=Lib.hid bx
 clear bx rx sx hb1 S1
 generalize secretS=sS at hC ⊢
 go_wp2_with fail
 refine K.out.mono ?_
 rintro _ W2 ⟨rfl,hb2⟩
 have bx:=BX.out.step hb2
 clear BX K hC
 have BX:=Lib.hid bx
 clear bx hb2
 go_upto_region 2 with (fail)
 have dx:=Bx.made W2 Hs.zero.cells x.cells 65
 generalize (W2.alloc (.cells Hs.zero.cells 65)).setRow W2.heap.size x.cells=W3 at dx ⊢
 have bx:=BX.out.step dx.below
 have hsx:Sl W3 (some ⟨W2.heap.size,0,none⟩) 32 32 (bts x.l):=by
  have:=sl_block dx.row (n:=32) (h_size x)
  exact this
 obtain ⟨b,o,rfl,_,hc⟩:=(HS.out.keep (Nat.le_refl _) bx.below).at h0
 obtain ⟨g',o',e,_,hg⟩:=hsx.at (by decide)
 cases e
 obtain ⟨i,hi,h1,h2,h3⟩:=info_parts (show (Tryz.prog.info? 5).map (fun i=>(i.zero,i.size,i.bytes))=some (some (.int .u8 0),1,1) by kernel_rfl)
 have l1:(bts x.l).length=32 * 1:=x.len
 have l2:(bts l).length=n * 1:=by rw [Nat.mul_one];exact HS.out.len
 have BX:=Lib.hid bx
 clear bx dx hsx
 have A1:=Lib.hid hi
 have A2:=Lib.hid h1
 have A3:=Lib.hid h2
 have A4:=Lib.hid h3
 have A5:=Lib.hid hg
 have A6:=Lib.hid hc
 have A7:=Lib.hid l1
 have A8:=Lib.hid l2
 clear hi h1 h2 h3 hg hc l1 l2
 go_wp2_with (at_builtin;refine wpList_append_grows W3 rfl _ _ 56 rfl 5 i (.int .u8 0) 1 1 Tryz.underlying56 A1.out A2.out A3.out A4.out rfl (by decide) (some ⟨W2.heap.size,0,none⟩) 32 32 (bts x.l) rfl (fun h=>by cases h) A7.out (fun b e j u hj=>by cases e;rw [add_plain_addr];exact A5.out j u hj) ⟨b,o,none⟩ n c (bts l) rfl A8.out (fun j u hj=>by rw [add_plain_addr];exact A6.out j u hj) (bts_one _) (by omega) (by unfold maxLen;omega) (by omega) ?_)
 intro v4 W4 own4 gr4
 rw [← bts_append] at own4
 obtain ⟨a4,c4,rfl⟩:=own_form own4
 have S4:=Sl.own own4
 have bx:=BX.out.step ⟨gr4.os,gr4.tape,gr4.output,gr4.size,fun j hj=>gr4.block j hj (by simp)⟩
 have K:=Lib.hid (Blake_any (HT.out.keep (Nat.le_refl _) bx.below) S4 (by omega))
 rw [HQ.out] at K
 clear BX
 have BX:=Lib.hid bx
 clear bx own4 gr4 S4
 go_wp2_with fail
 refine K.out.mono ?_
 rintro _ W5 ⟨rfl,hb⟩
 have bx:=BX.out.step hb
 clear BX hb K
 have rx:=bx.rowOf
 have sx:=bx.soft
 have BX:=Lib.hid bx
 clear bx
 go_wp2
 have hc:rowOf (World.setRow W5 w.heap.size q.cells) w.heap.size=q.cells:=(rowOf_setRow _ _ _ _ sx).trans (if_pos rfl)
 refine bodyPost_ret (results_row (t:=65) rfl Tryz.underlying65 rfl (by kernel_rfl) _ _ w.heap.size rfl hc (h_size _)) rfl ?_
 exact ⟨rfl,Below.setRow_ BX.out.below (Nat.le_refl _) _⟩
end Go.Proofs.YtjkfondgacjpnaaGreatDoor
