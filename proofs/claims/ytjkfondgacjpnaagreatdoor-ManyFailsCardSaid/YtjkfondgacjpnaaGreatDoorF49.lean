/- What is proved: parts of the walk and of the plain law, 4 texts in one. No condition but those each law names. -/
import Derived.Test.YtjkfondgacjpnaaGreatDoorF48
namespace Go.Proofs.YtjkfondgacjpnaaGreatDoor
open Go.RowKit
open Sx (Ab DW Turns Did Foot MapIs)
set_option maxRecDepth 100000
attribute [local go_sem ↓] rowOf_cell eeql39 eeql26
attribute [local go_sem] rowOf_alloc soft_alloc rowOf_drew soft_drew rowOf_setRow soft_setRow rowOf_setCell soft_setCell frozen_of_soft rowOf_map soft_map Sx.run_mk Ext.row Ext.soft_ is_h is_l
theorem sub_from {cur C:Array Value} {a n:Nat} (hn:n ≤ C.size) (h:∀ o,o < n→cur[a + o]?=C[o]?):sub cur a n=sub C 0 n:=by
 unfold sub
 apply Array.ext_getElem?
 intro j
 rw [Array.getElem?_extract,Array.getElem?_extract]
 by_cases hj:j < n
 ·have l:a + j < cur.size:=by
   have e:=h j hj
   rw [Array.getElem?_eq_getElem (by omega:j < C.size)] at e
   exact (Array.getElem?_eq_some_iff.1 e).1
  have l2:a + n ≤ cur.size:=by
   rcases Nat.eq_zero_or_pos n with e | e
   ·omega
   ·have e:=h (n - 1) (by omega)
    rw [Array.getElem?_eq_getElem (by omega:n - 1 < C.size)] at e
    have:=(Array.getElem?_eq_some_iff.1 e).1
    omega
  rw [if_pos (by omega),if_pos (by omega),h j hj,Nat.zero_add]
 ·rw [if_neg (by omega),if_neg (by omega)]
def swB (B:List (Int × Sw)) (ks:List Int):List Value:=ks.flatMap fun k=>(swS (getA B k)).list
theorem swB_eq (M:List (Int × En)) (ks:List Int):swL M ks=swB (bkOf M) ks:=by
 unfold swL swB
 congr 1
 funext k
 rw [swO_bk]
theorem swB_at (B:List (Int × Sw)):∀ (ks:List Int) (j:Nat) (hj:j < ks.length) (o:Nat),o < 75→(swB B ks)[j * 75 + o]?=(swS (getA B ks[j])).list[o]?
 | [],j,hj,_,_=>absurd hj (Nat.not_lt_zero _)
 | k :: ks,0,_,o,ho=>by
  show ((swS (getA B k)).list ++ swB B ks)[0 * 75 + o]?=_
  rw [List.getElem?_append_left (by rw [s_len];omega),Nat.zero_mul,Nat.zero_add]
  rfl
 | k :: ks,j + 1,hj,o,ho=>by
  show ((swS (getA B k)).list ++ swB B ks)[(j + 1) * 75 + o]?=_
  rw [List.getElem?_append_right (by rw [s_len];omega),s_len,show (j + 1) * 75 + o - 75=j * 75 + o by omega,swB_at B ks j (by simpa using hj) o ho]
  rfl
theorem swB_own {w:World} {A n cap:Nat} {ao:Option Addr} {B:List (Int × Sw)} {ks:List Int} (h:w.ownsRow A 85 75 (.slice ao n cap) n (swB B ks)) (hl:ks.length=n) {j:Nat} (hj:j < n) {k:Int} (hk:ks[j]?=some k):∃ g cur,ao=some ⟨g,0,none⟩∧w.heap[g]?=some (.cells cur 85)∧j * 75 + 41 ≤ cur.size∧n ≤ cap∧sub cur (j * 75) 41=(swS (getA B k)).d.cells:=by
 subst hl
 rcases h.2 with ⟨hv,h0⟩ | ⟨g,cp,cur,hv,_,hh,hc,_,hs,ht⟩
 ·omega
 ·cases hv
  have hz:cur.size=cap * 75:=hs
  have hz2:ks.length * 75 ≤ cap * 75:=Nat.mul_le_mul_right 75 hc
  have hj2:(j + 1) * 75 ≤ ks.length * 75:=Nat.mul_le_mul_right 75 hj
  have ek:ks[j]=k:=Option.some.inj ((List.getElem?_eq_getElem hj).symm.trans hk)
  refine ⟨g,cur,rfl,hh,by omega,hc,?_⟩
  rw [sub_from (C:=(swS (getA B k)).cells) (by rw [s_size];decide) fun o ho=>?_]
  ·exact s_d _
  ·have e:=swB_at B ks j hj o (by omega)
   rw [← ht,List.getElem?_take_of_lt (by omega),ek] at e
   simpa [Sw.cells] using e
section
variable {c:Wd} {w w':World} {S S':MS} {xs:Nat→Nod} {ls ls':List (Int × Int × List Nat)} {now now':Cl}
theorem W_swaps (h:WX c w xs ls now) {a:Nat} (ha:1 ≤ a∧a ≤ c.N):Calls Tryz.prog 15 #[.pointer (some ⟨c.wb,0,none⟩),.int .i64 a] w fun e w'=>∃ ao cap ks,e=.returned (.slice ao ks.length cap)∧ks.Perm ((xs a).B.map (·.1))∧w'.ownsRow w.heap.size 85 75 (.slice ao ks.length cap) ks.length (swB (xs a).B ks)∧Below w.heap.size w w':=by
 obtain ⟨S,h⟩:=h
 obtain ⟨n,D,tb,q,at1⟩:=h.at_ ha
 have hfb:Fine (bkOf D.M):=by rw [q.book];exact Fine.nil.run q.run
 rw [← h.wb]
 refine (Swaps_any h.mw q.has hfb.book.1 hfb.book.2).mono ?_
 rintro e w' ⟨ao,cap,ks,he,hp,ho,hb⟩
 refine ⟨ao,cap,ks,he,?_,?_,hb⟩
 ·rw [← q.book,bkOf_keys];exact hp
 ·rw [← q.book,← swB_eq];exact ho
def Mirr (N:Nat) (xs:Nat→Nod):Prop:=∀ n,1 ≤ n→n ≤ N→∀ k s,getA (xs n).B k=some s→s.d.r=2→∃ m:Nat,1 ≤ m∧m ≤ N∧s.d.q=m∧∃ s',getA (xs m).B k=some s'∧s'.d=⟨k,1,s.d.g,s.d.p,s.d.h,n⟩
theorem WX.fine (h:WX c w xs ls now) {a:Nat} (ha:1 ≤ a∧a ≤ c.N):Fine (xs a).B:=by
 obtain ⟨S,h⟩:=h
 obtain ⟨n,D,tb,q,_⟩:=h.at_ ha
 exact Fine.nil.run q.run
theorem key_some {B:List (Int × Sw)} {k:Int} (h:k ∈ B.map (·.1)):∃ s,getA B k=some s:=by
 cases e:getA B k with
 | none=>exact absurd h (getA_none.1 e)
 | some s=>exact ⟨s,rfl⟩
set_option maxHeartbeats 4000000 in
theorem W_mirrored (h:WX c w xs ls now) (hN:c.N ≤ 100) (hm:Mirr c.N xs):Calls Tryz.prog 18 #[.pointer (some ⟨c.wb,0,none⟩),.int .i64 c.N] w fun e w'=>e=.returned (.bool true)∧Below w.heap.size w w':=by
 have H:=Lib.hid h
 have HM:=Lib.hid hm
 have HN:=Lib.hid hN
 clear h hm hN
 go_enter Tryz.func18,Tryz.ntmps18
 go_upto_region 2 with (fail)
 go_loopw [5] (fun i wr=>∃ k:Nat,1 ≤ k∧k ≤ c.N + 1∧i=.int .i64 k∧Below w.heap.size w wr) (fun i _=>c.N + 1 - (intOf i).toNat)
 case atStart=>exact ⟨1,by omega,by omega,rfl,Below.refl _ w⟩
 case round=>
  obtain ⟨k,hk1,hk2,rfl,hb⟩:=hrel
  have HB:=Lib.hid hb
  clear hb
  have wk:IntKind.i64.wrap ((k:Int) + 1)=(k:Int) + 1:=wrap_small (by omega) (by have:=HN.out;omega)
  by_cases hlt:k ≤ c.N
  ·have i1:(k:Int) ≤ c.N:=by omega
   have SW:=Lib.hid (W_swaps (H.out.below HB.out) (a:=k) ⟨hk1,hlt⟩)
   go_upto_region 6 with (go_at_call 15;refine SW.out.mono ?_;rintro _ V ⟨ao,cap,ks,rfl,hp,ho,hb⟩)
   have HO:=Lib.hid (And.intro hp ho)
   have HV:=Lib.hid (HB.out.trans (hb.mono HB.out.size))
   have hl16:ks.length ≤ 16:=by rw [hp.length_eq,List.length_map];exact (H.out.fine ⟨hk1,hlt⟩).len
   have HL:=Lib.hid hl16
   clear hp ho hb SW hl16
   go_loopw [7] (fun i wr=>∃ j:Nat,j ≤ ks.length∧i=.int .i64 j∧Below V.heap.size V wr) (fun i _=>ks.length - (intOf i).toNat)
   case atStart=>exact ⟨0,Nat.zero_le _,rfl,Below.refl _ V⟩
   case round=>
    obtain ⟨j,hj,rfl,hbv⟩:=hrel
    have wj:IntKind.i64.wrap ((j:Int) + 1)=(j:Int) + 1:=wrap_small (by omega) (by have:=HL.out;omega)
    by_cases hjl:j < ks.length
    ·have j1:(j:Int) < ks.length:=by omega
     obtain ⟨kk,hkk⟩:∃ kk,ks[j]?=some kk:=⟨_,List.getElem?_eq_getElem hjl⟩
     obtain ⟨g,cur,rfl,hg,hcz,hcap,hsub⟩:=swB_own HO.out.2 rfl hjl hkk
     obtain ⟨s,hs⟩:=key_some (HO.out.1.mem_iff.1 (List.mem_of_getElem? hkk))
     have fi:=(H.out.fine ⟨hk1,hlt⟩).at hs
     rw [hs] at hsub
     replace hsub:sub cur (j * 75) 41=s.d.cells:=hsub
     have rg:=rowOf_of ((hbv.block g (Array.getElem?_eq_some_iff.1 hg).1).trans hg)
     have HS:=Lib.hid (And.intro hs fi)
     have HBV:=Lib.hid hbv
     clear hg hs fi hkk hbv
     go_upto_region 9 with (fail)
     have B3:=Bx.made wr Dl.zero.cells s.d.cells 83
     generalize (wr.alloc (.cells Dl.zero.cells 83)).setRow wr.heap.size s.d.cells=V3 at B3 ⊢
     have rd:=B3.rowOf
     have b3:=HBV.out.trans (B3.below.mono HBV.out.size)
     have HB3:=Lib.hid b3
     have br:=B3.row
     generalize wr.heap.size=db at *
     generalize hdd:s.d=d at *
     have HDD:=Lib.hid hdd
     have BD:=Lib.hid br
     clear rg hsub b3 B3 hdd br
     cases hr:(d.r != 2) with
     | true=>
      go_wp2
      go_roundw
      case rel=>exact ⟨j + 1,by omega,rfl,HB3.out⟩
      case measure=>simp [intOf];omega
     | false=>
      have hr2:d.r=2:=by simpa using hr
      obtain ⟨m,m1,m2,hq,s',hs',hd'⟩:=HM.out k hk1 hlt kk s HS.out.1 (by rw [HDD.out];exact hr2)
      rw [HDD.out] at hq hd'
      have ekk:d.i=kk:=HS.out.2.1
      have SW2:=W_swaps (H.out.below (HV.out.trans (HB3.out.mono HV.out.size))) (a:=m) ⟨m1,m2⟩
      rw [← hq] at SW2
      have SW2:=Lib.hid SW2
      have HX:=Lib.hid (And.intro m1 (And.intro m2 (And.intro hs' (And.intro hd' (And.intro ekk hq)))))
      clear m1 m2 hs' hd' ekk hq hr2
      go_upto_region 13 with (go_at_call 15;refine SW2.out.mono ?_;rintro _ V4 ⟨ao2,cap2,ks2,rfl,hp2,ho2,hb2⟩)
      have HO2:=Lib.hid (And.intro hp2 ho2)
      have HB4:=Lib.hid (HB3.out.trans (hb2.mono HB3.out.size))
      have x8:=Lib.hid ((hb2.block _ (Array.getElem?_eq_some_iff.1 BD.out).1).trans BD.out)
      have l16:ks2.length ≤ 16:=by rw [hp2.length_eq,List.length_map];exact (H.out.fine ⟨HX.out.1,HX.out.2.1⟩).len
      have HL2:=Lib.hid l16
      clear hp2 ho2 hb2 SW2 l16 rd
      go_loopw [10,11] (fun f i wr=>∃ z:Nat,z ≤ ks2.length∧i=.int .i64 z∧f=.bool ((ks2.take z).any (· == kk))∧Below V4.heap.size V4 wr) (fun _ i _=>ks2.length - (intOf i).toNat)
      case atStart=>exact ⟨0,Nat.zero_le _,rfl,rfl,Below.refl _ V4⟩
      case round=>
       obtain ⟨z,hz,rfl,rfl,hbz⟩:=hrel
       have wz:IntKind.i64.wrap ((z:Int) + 1)=(z:Int) + 1:=wrap_small (by omega) (by have:=HL2.out;omega)
       by_cases hzl:z < ks2.length
       ·have z1:(z:Int) < ks2.length:=by omega
        obtain ⟨k3,hk3⟩:∃ k3,ks2[z]?=some k3:=⟨_,List.getElem?_eq_getElem hzl⟩
        obtain ⟨g2,cur2,rfl,hg2,hcz2,hcap2,hsub2⟩:=swB_own HO2.out.2 rfl hzl hk3
        obtain ⟨s3,hs3⟩:=key_some (HO2.out.1.mem_iff.1 (List.mem_of_getElem? hk3))
        have fi3:=(H.out.fine ⟨HX.out.1,HX.out.2.1⟩).at hs3
        rw [hs3] at hsub2
        replace hsub2:sub cur2 (z * 75) 41=s3.d.cells:=hsub2
        have rg2:=rowOf_of ((hbz.block g2 (Array.getElem?_eq_some_iff.1 hg2).1).trans hg2)
        have r8:=rowOf_of ((hbz.block _ (Array.getElem?_eq_some_iff.1 x8.out).1).trans x8.out)
        have hnx:(ks2.take (z + 1)).any (· == kk)=((ks2.take z).any (· == kk) || k3 == kk):=by
         have e3:ks2[z]=k3:=Option.some.inj ((List.getElem?_eq_getElem hzl).symm.trans hk3)
         rw [List.take_succ_eq_append_getElem hzl,List.any_append,e3]
         simp
        have HNX:=Lib.hid hnx
        have HBZ:=Lib.hid hbz
        have l8:db < wr.heap.size:=Nat.lt_of_lt_of_le (Array.getElem?_eq_some_iff.1 x8.out).1 hbz.size
        clear hg2 hk3 hnx hbz
        have dq:k3=kk∧s3.d=⟨d.i,1,d.g,d.p,d.h,k⟩ ∨ (k3 == kk)=false∧(s3.d.i == d.i)=false:=by
         by_cases e:k3=kk
         ·refine .inl ⟨e,?_⟩
          subst e
          have e2:=Option.some.inj (hs3.symm.trans HX.out.2.2.1)
          rw [e2,HX.out.2.2.2.1,HX.out.2.2.2.2.1]
         ·refine .inr ⟨by simpa using e,?_⟩
          rw [fi3.1,HX.out.2.2.2.2.1]
          simpa using e
        have DQ:=Lib.hid dq
        clear dq fi3 hs3
        go_upto_region 16 with (fail)
        have B5:=Bx.made wr Dl.zero.cells s3.d.cells 83
        have r8':=(rowOf_same (B5.below.block _ l8)).trans r8
        generalize (wr.alloc (.cells Dl.zero.cells 83)).setRow wr.heap.size s3.d.cells=V5 at B5 r8' ⊢
        have rd5:=B5.rowOf
        have HB5:=Lib.hid (HBZ.out.trans (B5.below.mono HBZ.out.size))
        generalize s3.d=d3 at *
        clear rg2 hsub2 B5 r8 l8
        generalize hfn:(ks2.take z).any (· == kk)=fn at *
        have NX:∀ b,(fn || k3 == kk)=b→(ks2.take (z + 1)).any (· == kk)=b:=fun b e=>HNX.out.trans e
        have NX:=Lib.hid NX
        clear hfn
        cases fn with
        | true=>
         go_wp2
         go_roundw
         case rel=>exact ⟨z + 1,by omega,rfl,congrArg Value.bool (NX.out true rfl).symm,HB5.out⟩
         case measure=>simp [intOf];omega
        | false=>
         rcases DQ.out with ⟨e,rfl⟩ | ⟨e,e2⟩
         ·have ne:=NX.out true (by rw [e];simp)
          have NE:=Lib.hid ne
          have t1:(d.i == d.i)=true:=by simp
          have t2:((k:Int) == (k:Int))=true:=by simp
          clear e ne
          go_wp2
          go_roundw
          case rel=>exact ⟨z + 1,by omega,rfl,congrArg Value.bool NE.out.symm,HB5.out⟩
          case measure=>simp [intOf];omega
         ·have ne:=NX.out false (by rw [e];rfl)
          have NE:=Lib.hid ne
          clear e ne
          cases e3:(d3.r == 1) with
          | true=>
           go_wp2
           go_roundw
           case rel=>exact ⟨z + 1,by omega,rfl,congrArg Value.bool NE.out.symm,HB5.out⟩
           case measure=>simp [intOf];omega
          | false=>
           go_wp2
           go_roundw
           case rel=>exact ⟨z + 1,by omega,rfl,congrArg Value.bool NE.out.symm,HB5.out⟩
           case measure=>simp [intOf];omega
       ·obtain rfl:z=ks2.length:=by omega
        have ef:(ks2.take ks2.length).any (· == kk)=true:=by
         rw [List.take_length,List.any_eq_true]
         exact ⟨kk,HO2.out.1.mem_iff.2 (List.mem_map.2 ⟨_,getA_mem HX.out.2.2.1,rfl⟩),by simp⟩
        rw [ef]
        have z1:¬ (ks2.length:Int) < ks2.length:=by omega
        have HBZ:=Lib.hid (HB4.out.trans (hbz.mono HB4.out.size))
        clear ef hbz
        go_wp2
        go_roundw
        case rel=>exact ⟨j + 1,by omega,rfl,HBZ.out⟩
        case measure=>simp [intOf];omega
    ·obtain rfl:j=ks.length:=by omega
     have j1:¬ (ks.length:Int) < ks.length:=by omega
     have HBV:=Lib.hid (HV.out.trans (hbv.mono HV.out.size))
     clear hbv
     go_wp2
     go_roundw
     case rel=>exact ⟨k + 1,by omega,by omega,rfl,HBV.out⟩
     case measure=>simp [intOf];omega
  ·obtain rfl:k=c.N + 1:=by omega
   have i1:¬ ((c.N + 1:Nat):Int) ≤ c.N:=by omega
   go_wp2
   go_ret
   exact ⟨rfl,HB.out⟩
end
end Go.Proofs.YtjkfondgacjpnaaGreatDoor

namespace Go.Proofs.YtjkfondgacjpnaaGreatDoor
open Go.RowKit
open Sx (Ab DW Turns Did Foot MapIs)
set_option maxRecDepth 100000
attribute [local go_sem ↓] rowOf_cell
attribute [local go_sem] rowOf_alloc soft_alloc rowOf_drew soft_drew rowOf_setRow soft_setRow rowOf_setCell soft_setCell frozen_of_soft rowOf_map soft_map Sx.run_mk Ext.row Ext.soft_
def lgP:Lg:=⟨1,216,0⟩
def lgG:Lg:=⟨0,200,0⟩
theorem lg_set (a b:Int):(Lg.zero.cells.setIfInBounds 0 (.int .i64 a)).setIfInBounds 1 (.int .i64 b)=Lg.cells ⟨a,b,0⟩:=rfl
attribute [local go_sem] lg_set
theorem results_rr {P:Program} {fn:Func} {p u:Tmp} {d:TypeDesc} {t:TypeId} {n:Nat} (hr:fn.results=#[.cell p t,.cell u t]) (hu:P.underlying t=some d) (hd:d.isRow=true) (hi:(P.info? t).map (·.size)=some n)
  (tmps:Array Value) (w:World) (b b2:Nat) (hp:tmps.getD p undef=.pointer (some ⟨b,0,none⟩)) (hq:tmps.getD u undef=.pointer (some ⟨b2,0,none⟩)) {cs cs2:Array Value} (hc:rowOf w b=cs) (hn:cs.size=n) (hc2:rowOf w b2=cs2) (hn2:cs2.size=n):
  (results fn tmps).run P w=.ok (.tuple #[.agg cs,.agg cs2]) w:=by
 have h1:=var_row t n hu hd hi w b 0 (by rw [hc];omega)
 have h2:=var_row t n hu hd hi w b2 0 (by rw [hc2];omega)
 have hp':tmps[p]?.getD undef=.pointer (some ⟨b,0,none⟩):=by simpa using hp
 have hq':tmps[u]?.getD undef=.pointer (some ⟨b2,0,none⟩):=by simpa using hq
 have e:sub (rowOf w b) 0 n=cs:=by rw [hc,← hn];simp [sub]
 have e2:sub (rowOf w b2) 0 n=cs2:=by rw [hc2,← hn2];simp [sub]
 rw [e] at h1
 rw [e2] at h2
 simp [results,hr,hp',hq',asAddr,h1,h2]
theorem legs_any (w:World):Calls Tryz.prog 6 #[] w fun e w'=>e=.returned (.tuple #[.agg lgP.cells,.agg lgG.cells])∧Below w.heap.size w w':=by
 go_enter Tryz.func6,Tryz.ntmps6
 go_wp2
 have b:=Bxs.new2 w Lg.zero.cells 26 Lg.zero.cells 26
 have s0:=b.soft' 0 rfl
 have s1:=b.soft' 1 rfl
 rw [Nat.add_zero] at s0
 have hz:=b.lt 1 rfl
 have b1:=Below.setRow_ (Below.setRow_ b.below (Nat.le_refl _) lgP.cells) (Nat.le_succ _) lgG.cells
 have r0:rowOf ((((w.alloc (.cells Lg.zero.cells 26)).alloc (.cells Lg.zero.cells 26)).setRow w.heap.size lgP.cells).setRow (w.heap.size + 1) lgG.cells) w.heap.size=lgP.cells:=by
  rw [rowOf_setRow _ _ _ _ (by rw [soft_setRow];exact s1),if_neg (by omega),rowOf_setRow _ _ _ _ s0,if_pos rfl]
 have r1:rowOf ((((w.alloc (.cells Lg.zero.cells 26)).alloc (.cells Lg.zero.cells 26)).setRow w.heap.size lgP.cells).setRow (w.heap.size + 1) lgG.cells) (w.heap.size + 1)=lgG.cells:=by
  rw [rowOf_setRow _ _ _ _ (by rw [soft_setRow];exact s1),if_pos rfl]
 refine bodyPost_ret (results_rr (t:=26) rfl Tryz.underlying26 rfl (by kernel_rfl) _ _ w.heap.size (w.heap.size + 1) rfl rfl r0 rfl r1 rfl) rfl ?_
 exact ⟨rfl,b1⟩
theorem k_err (h:Hs):errD (legsV T26 ⟨7,1,lgP,lgG,h,2⟩ ⟨100,200,0⟩)=0:=by kernel_rfl
theorem k_tak (h:Hs):takesE T26 (heardD (proposeM (legsV T26 ⟨7,1,lgP,lgG,h,2⟩ ⟨100,200,0⟩)) 1) ⟨100,200,0⟩ 1000=0:=by kernel_rfl
theorem seven:I64 7:=⟨by decide,by decide⟩
def nod0 (sd:List Nat):Nod:=⟨sd,[],[],none,true,[]⟩
theorem Start.wx {w W:World} {S:MS} {N:Nat} (st:Start w W S N) (hF:Forms w) (hT:Tabs w):∃ sd:Nat→List Nat,WX ⟨S.u,S.wb,S.nb,N,[]⟩ W (fun j=>nod0 (sd j)) [] ⟨100,200,0⟩:=by
 have hex:∀ j,∃ sd:List Nat,1 ≤ j→j ≤ N→NI S j (nod0 sd):=fun j=>by
  by_cases h:1 ≤ j∧j ≤ N
  ·obtain ⟨n,D,q,m,r,cl⟩:=(st.fr j h.1 h.2).is
   obtain ⟨tb,t1,t2⟩:=q.tm
   have da:Dae W D:=st.mw.daAt q.ds
   have cm:=da.calm cl
   refine ⟨n.seed,fun _ _=>⟨n,D,tb,q.nd,q.at_,q.xv,t2,q.dv.symm,q.nt,rfl,q.t,q.seed,q.s0,q.sl,t1,by rw [m];rfl,.nil,fun _=>⟨q.ds,cm.on,by rw [r];rfl,fun _=>cm⟩,fun a e=>(by cases e)⟩⟩
  ·exact ⟨[],fun a b=>absurd ⟨a,b⟩ h⟩
 obtain ⟨sd,hsd⟩:=Classical.skolem.1 hex
 exact ⟨sd,S,⟨st.mw,rfl,rfl,rfl,st.nbx.symm,st.nodes,by unfold Nt.says;rw [st.L];rfl,st.now,hF.keep (Nat.le_refl _) st.u,hT.keep (Nat.le_refl _) st.u,st.at_,fun j a b=>hsd j a b,fun p hp=>(by cases hp)⟩⟩
section
variable {c:Wd} {w w':World} {S S':MS} {xs:Nat→Nod} {ls ls':List (Int × Int × List Nat)} {now now':Cl}
theorem W_double (h:WX c w xs ls now) {k:Nat} {x:Int × Int × List Nat} (hk:ls[k]?=some x) (hx:x.2.2.length < 1000000) (hlen:ls.length < 1000):Calls Tryz.prog 23 #[.pointer (some ⟨c.nb,0,none⟩),.int .i64 k] w fun e w'=>e=.returned (.bool true)∧WX c w' xs (ls ++ [x]) now:=by
 obtain ⟨S,h⟩:=h
 obtain ⟨y,h1,h2,h3,h4⟩:=says_at (X:=S.X) (k:=k) (f:=x.1) (t:=x.2.1) (l:=x.2.2) (by rw [h.says];exact hk)
 have K:=Double_ok h.mw.netAt (eq_false (by have:=h.len;omega)) h1 (by rw [h4];exact hx)
 rw [h.xnb] at K
 refine K.mono ?_
 rintro e w' ⟨rfl,X',t,s⟩
 have g:=h.mw.net t
 exact ⟨rfl,_,h.to0 g t.nb t.nodes (by rw [s,h.says,h2,h3,h4])⟩
end
structure Ex (sd:List Nat) (dd:Dl):Prop where
 eq:dealW sd 7 2 lgP lgG ⟨100,200,0⟩=dd
 ok:errD dd=0
 i:dd.i=7
 r:dd.r=1
 q:dd.q=2
 sm:Small dd.h.l
 hd:dealOk (heardW dd 1)=true
 tk:takesE T26 (heardW dd 1) ⟨100,200,0⟩ 1000=0
theorem ex_of (sd:List Nat):Ex sd (dealW sd 7 2 lgP lgG ⟨100,200,0⟩):=by
 have tk:takesE T26 (heardW (dealW sd 7 2 lgP lgG ⟨100,200,0⟩) 1) ⟨100,200,0⟩ 1000=0:=k_tak _
 exact ⟨rfl,k_err _,(legsV_i _ _ _).1,rfl,rfl,by rw [show (dealW sd 7 2 lgP lgG ⟨100,200,0⟩).h=_ from (legsV_i _ _ _).2];exact sumH_small _,(takesE_ok tk).1,tk⟩
section
variable {sd:List Nat} {dd:Dl}
theorem Ex.prop (h:Ex sd dd):propW sd [] 7 2 lgP lgG ⟨100,200,0⟩=0:=by
 unfold propW
 rw [h.eq,h.ok]
 rfl
theorem Ex.take (h:Ex sd dd) {B:List (Int × Sw)}:takesF T26 B (heardW dd 1) ⟨100,200,0⟩ 1000=roomE B 7:=by
 unfold takesF
 rw [h.tk]
 show (if (0:Int) ≠ 0 then (0:Int) else roomE B dd.i)=_
 rw [h.i]
 rfl
end
end Go.Proofs.YtjkfondgacjpnaaGreatDoor

namespace Go.Proofs.YtjkfondgacjpnaaGreatDoor
open Go.RowKit
open Sx (Ab DW Turns Did Foot MapIs)
set_option maxRecDepth 100000
attribute [local go_sem ↓] rowOf_cell
attribute [local go_sem] rowOf_alloc soft_alloc rowOf_drew soft_drew rowOf_setRow soft_setRow rowOf_setCell soft_setCell frozen_of_soft rowOf_map soft_map Sx.run_mk Ext.row Ext.soft_
def now0:Cl:=⟨100,200,0⟩
theorem made_wx {w:World} {n:Nat} (hn:2 ≤ n∧n ≤ 8) (hF:Forms w) (hT:Tabs w):Calls Tryz.prog 5 #[.int .i64 n] w fun e w'=>∃ (c:Wd) (sd:Nat→List Nat),e=.returned (.pointer (some ⟨c.wb,0,none⟩))∧c.N=n∧WX c w' (fun j=>nod0 (sd j)) [] now0∧Below w.heap.size w c.u:=by
 refine (made_any hn).mono ?_
 rintro e W ⟨S,rfl,st⟩
 obtain ⟨sd,wx⟩:=st.wx hF hT
 exact ⟨⟨S.u,S.wb,S.nb,n,[]⟩,sd,rfl,rfl,wx,st.u⟩
structure P2 (xs:Nat→Nod) (sd:List Nat) (B1 B2:List (Int × Sw)) (t1:List (Int × Value)):Prop where
 f1:(xs 1).fell=none
 f2:(xs 2).fell=none
 c1:(xs 1).calm=true
 c2:(xs 2).calm=true
 b1:(xs 1).B=B1
 b2:(xs 2).B=B2
 t1:(xs 1).told=t1
 s1:(xs 1).sd=sd
theorem p2_0 (sd:Nat→List Nat):P2 (fun j=>nod0 (sd j)) (sd 1) [] [] []:=⟨rfl,rfl,rfl,rfl,rfl,rfl,rfl,rfl⟩
theorem p2_1 {xs:Nat→Nod} {sd:List Nat} {B1 B2:List (Int × Sw)} {t1:List (Int × Value)} (p:P2 xs sd B1 B2 t1) {y:Nod} (f:y.fell=none) (c:y.calm=true) (s:y.sd=sd):P2 (upd xs 1 y) sd y.B B2 y.told:=
 ⟨by rw [upd_at];exact f,by rw [upd_ne _ _ (by decide)];exact p.f2,by rw [upd_at];exact c,by rw [upd_ne _ _ (by decide)];exact p.c2,by rw [upd_at],by rw [upd_ne _ _ (by decide)];exact p.b2,by rw [upd_at],by rw [upd_at];exact s⟩
theorem p2_2 {xs:Nat→Nod} {sd:List Nat} {B1 B2:List (Int × Sw)} {t1:List (Int × Value)} (p:P2 xs sd B1 B2 t1) {y:Nod} (f:y.fell=none) (c:y.calm=true):P2 (upd xs 2 y) sd B1 y.B t1:=
 ⟨by rw [upd_ne _ _ (by decide)];exact p.f1,by rw [upd_at];exact f,by rw [upd_ne _ _ (by decide)];exact p.c1,by rw [upd_at];exact c,by rw [upd_ne _ _ (by decide)];exact p.b1,by rw [upd_at],by rw [upd_ne _ _ (by decide)];exact p.t1,by rw [upd_ne _ _ (by decide)];exact p.s1⟩
def pLet (dd:Dl):Int × Int × List Nat:=(((1:Nat):Int),((2:Nat):Int),putLM (proposeM dd))
def aLet (dd:Dl):Int × Int × List Nat:=(((2:Nat):Int),((1:Nat):Int),putLM (acceptM (heardW dd 1)))
def rLet (cd:Int):Int × Int × List Nat:=(((2:Nat):Int),((1:Nat):Int),putC 7 cd)
section
variable {c:Wd} {w w':World} {xs:Nat→Nod} {ls:List (Int × Int × List Nat)} {sd:List Nat} {B1 B2:List (Int × Sw)} {t1:List (Int × Value)} {dd:Dl}
theorem T_prop (h:WX c w xs ls now0) (cn:c.N=2) (p:P2 xs sd [] B2 t1) (x:Ex sd dd) (hl:ls.length < 1000):
  Calls Tryz.prog 10 #[.pointer (some ⟨c.wb,0,none⟩),.int .i64 1,.int .i64 2,.int .i64 7,.agg lgP.cells,.agg lgG.cells] w fun e w'=>e=.returned (.int .i64 0)∧∃ xs' s,s.d=dd∧P2 xs' sd [(7,s)] B2 t1∧WX c w' xs' (ls ++ [pLet dd]) now0:=by
 have K:=W_propose (a:=1) (b:=2) h (by rw [cn];decide) (by rw [cn];decide) (by decide) hl (i:=7) (p:=lgP) (g:=lgG) seven
 refine K.mono ?_
 rw [p.s1,p.b1]
 have pw:propW sd [] 7 2 lgP lgG now0=0:=x.prop
 rintro e w' ⟨k,rfl,⟨k0,kp,_⟩ | ⟨rfl,_,_,wx⟩ | ⟨rfl,_,cm,_⟩⟩
 ·exact absurd ((kp p.f1).symm.trans pw) k0
 ·have e:dealW sd 7 ((2:Nat):Int) lgP lgG now0=dd:=x.eq
  rw [e] at wx
  have q:=p2_1 (y:={ xs 1 with L:=(xs 1).L ++ propI sd 7 ((2:Nat):Int) lgP lgG now0,B:=[(7,knowS dd (secretH (sd ++ intI 7)))] }) p p.f1 p.c1 p.s1
  exact ⟨rfl,_,knowS dd (secretH (sd ++ intI 7)),rfl,⟨q.f1,q.f2,q.c1,q.c2,q.b1,q.b2,q.t1.trans p.t1,q.s1⟩,wx⟩
 ·rw [p.c1] at cm;cases cm
theorem T_hear0 (h:WX c w xs ls now0) (cn:c.N=2) (p:P2 xs sd B1 [] t1) (x:Ex sd dd) {k:Nat} (hk:ls[k]?=some (pLet dd)) (hl:ls.length ≤ 1000):
  Calls Tryz.prog 12 #[.pointer (some ⟨c.wb,0,none⟩),.int .i64 k,.int .i64 1000] w fun e w'=>e=.returned (.bool true)∧∃ xs',P2 xs' sd B1 [(7,newS (heardW dd 1))] t1∧WX c w' xs' (ls.eraseIdx k ++ [aLet dd]) now0:=by
 have K:=W_prop (a:=1) (b:=2) (free:=1000) h (by rw [cn];decide) (by rw [cn];decide) (by decide) p.f2 hk x.ok x.sm hl
 have e:takesF T26 (xs 2).B (heardW dd 1) now0 1000=0:=by rw [p.b2];exact x.take
 rw [e] at K
 refine K.mono ?_
 rintro e w' ⟨rfl,⟨q,_⟩ | ⟨_,wx⟩ | ⟨_,cm,_⟩⟩
 ·exact absurd rfl q
 ·rw [p.b2,x.i] at wx
  exact ⟨rfl,_,p2_2 (y:={ xs 2 with L:=(xs 2).L ++ [.dl (heardW dd 1)],B:=[(7,newS (heardW dd 1))] }) p p.f2 p.c2,wx⟩
 ·rw [p.c2] at cm;cases cm
theorem T_hear1 (h:WX c w xs ls now0) (cn:c.N=2) {s:Sw} (p:P2 xs sd B1 [(7,s)] t1) (x:Ex sd dd) {k:Nat} (hk:ls[k]?=some (pLet dd)) (hl:ls.length ≤ 1000):
  Calls Tryz.prog 12 #[.pointer (some ⟨c.wb,0,none⟩),.int .i64 k,.int .i64 1000] w fun e w'=>e=.returned (.bool true)∧WX c w' xs (ls.eraseIdx k ++ [rLet 13]) now0:=by
 have K:=W_prop (a:=1) (b:=2) (free:=1000) h (by rw [cn];decide) (by rw [cn];decide) (by decide) p.f2 hk x.ok x.sm hl
 have e:takesF T26 (xs 2).B (heardW dd 1) now0 1000=13:=by rw [p.b2];exact x.take
 rw [e,x.i] at K
 refine K.mono ?_
 rintro e w' ⟨rfl,⟨_,wx⟩ | ⟨q,_⟩ | ⟨q,_⟩⟩
 ·exact ⟨rfl,wx⟩
 ·cases q
 ·cases q
theorem T_acc (h:WX c w xs ls now0) (cn:c.N=2) {s:Sw} (p:P2 xs sd [(7,s)] B2 t1) (hw:Words t1) (hd:s.d=dd) (x:Ex sd dd) {k:Nat} (hk:ls[k]?=some (aLet dd)) (hl:ls.length ≤ 1000):
  Calls Tryz.prog 12 #[.pointer (some ⟨c.wb,0,none⟩),.int .i64 k,.int .i64 1000] w fun e w'=>e=.returned (.bool true)∧∃ xs',P2 xs' sd [(7,s)] B2 (putA t1 7 (wordV 2 0))∧WX c w' xs' (ls.eraseIdx k) now0:=by
 have K:=W_acc (a:=1) (b:=2) (free:=1000) (dd:=dd) (s:=s) h (by rw [cn];decide) (by rw [cn];decide) (by decide) p.f1 (by rw [p.t1];exact hw) (by rw [p.b1,x.i];rfl) hd x.r x.q hk x.hd x.sm hl
 rw [p.t1,x.i] at K
 refine K.mono ?_
 rintro e w' ⟨rfl,wx⟩
 have q:=p2_1 (y:={ xs 1 with told:=putA t1 7 (wordV 2 0) }) p p.f1 p.c1 p.s1
 exact ⟨rfl,_,⟨q.f1,q.f2,q.c1,q.c2,q.b1.trans p.b1,q.b2,q.t1,q.s1⟩,wx⟩
theorem T_ref (h:WX c w xs ls now0) (cn:c.N=2) {s:Sw} (p:P2 xs sd [(7,s)] B2 t1) (hw:Words t1) (hd:s.d=dd) (x:Ex sd dd) {k:Nat} (hk:ls[k]?=some (rLet 13)) (hl:ls.length ≤ 1000):
  Calls Tryz.prog 12 #[.pointer (some ⟨c.wb,0,none⟩),.int .i64 k,.int .i64 1000] w fun e w'=>e=.returned (.bool true)∧∃ xs',P2 xs' sd [(7,s)] B2 (toldR t1 7 13)∧WX c w' xs' (ls.eraseIdx k) now0:=by
 have K:=W_ref (a:=1) (b:=2) (free:=1000) (i:=7) (cd:=13) (s:=s) h (by rw [cn];decide) (by rw [cn];decide) (by decide) p.f1 (by rw [p.t1];exact hw) (by rw [p.b1];rfl) (by rw [hd];exact x.r) (by rw [hd];exact x.q) (by decide) (by decide) hk hl
 rw [p.t1] at K
 refine K.mono ?_
 rintro e w' ⟨rfl,wx⟩
 have q:=p2_1 (y:={ xs 1 with told:=toldR t1 7 13 }) p p.f1 p.c1 p.s1
 exact ⟨rfl,_,⟨q.f1,q.f2,q.c1,q.c2,q.b1.trans p.b1,q.b2,q.t1,q.s1⟩,wx⟩
theorem T_told (h:WX c w xs ls now0) (cn:c.N=2) (p:P2 xs sd B1 B2 t1) {a b:Int} (hg:(getA t1 7).getD (wordV 0 0)=wordV a b):
  Calls Tryz.prog 17 #[.pointer (some ⟨c.wb,0,none⟩),.int .i64 1,.int .i64 7] w fun e w'=>e=.returned (.tuple #[.int .i64 a,.int .i64 b])∧WX c w' xs ls now0:=
 W_told (a:=1) h (by rw [cn];decide) (by rw [p.t1];exact hg)
theorem T_agreed2 (h:WX c w xs ls now0) (cn:c.N=2) (p:P2 xs sd B1 [(7,newS (heardW dd 1))] t1) (x:Ex sd dd):
  Calls Tryz.prog 14 #[.pointer (some ⟨c.wb,0,none⟩),.int .i64 2,.int .i64 7,.int .i64 2,.int .i64 1] w fun e w'=>e=.returned (.bool true)∧WX c w' xs ls now0:=by
 have K:=W_agreed (a:=2) h (by rw [cn];decide) 7 2 1
 rw [p.b2] at K
 have e:hasB [(7,newS (heardW dd 1))] 7 2 1=true:=by
  have hi:=x.i
  show ((heardW dd 1).i == 7 && ((heardW dd 1).r == 2 && (heardW dd 1).q == 1) || false)=true
  rw [(heardW_i dd 1).1,hi]
  rfl
 rw [e] at K
 exact K
end
end Go.Proofs.YtjkfondgacjpnaaGreatDoor

namespace Go.Proofs.YtjkfondgacjpnaaGreatDoor
open Go.RowKit
open Sx (Ab DW Turns Did Foot MapIs)
set_option maxRecDepth 100000
attribute [local go_sem ↓] rowOf_cell
attribute [local go_sem] rowOf_alloc soft_alloc rowOf_drew soft_drew rowOf_setRow soft_setRow rowOf_setCell soft_setCell frozen_of_soft rowOf_map soft_map Sx.run_mk Ext.row Ext.soft_
theorem pLet_len (dd:Dl):(pLet dd).2.2.length < 1000000:=by have:=putLM_len (proposeM dd);show (putLM (proposeM dd)).length < _;omega
theorem words2:Words [(7,wordV 2 0)]:=Words.nil.put 7 2 0
theorem words3:Words [(7,wordV 3 13)]:=Words.nil.put 7 3 13
set_option maxHeartbeats 4000000 in
theorem works2 {w:World} (hF:Forms w) (hT:Tabs w):Calls Tryz.prog 7 #[] w fun e w'=>e=.returned (.bool true)∧Below w.heap.size w w':=by
 have HF:=Lib.hid (And.intro hF hT)
 clear hF hT
 go_enter Tryz.func7,Tryz.ntmps7
 go_wp2_with (first
  | (go_at_call 5;refine (made_wx (n:=2) ⟨by decide,by decide⟩ HF.out.1 HF.out.2).mono ?_;rintro _ W ⟨c,sd,rfl,cn,wx,hu⟩;have WA:=Lib.hid (And.intro cn (And.intro wx hu));clear cn wx hu)
  | (go_at_call 6;refine (legs_any W).mono ?_;rintro _ V ⟨rfl,hb⟩;have HB:=Lib.hid hb;clear hb))
 have bV:Below V.heap.size V ((((V.alloc (.cells Lg.zero.cells 26)).alloc (.cells Lg.zero.cells 26)).setRow V.heap.size lgP.cells).setRow (V.heap.size + 1) lgG.cells):=Below.setRow_ (Below.setRow_ (Bxs.new2 V Lg.zero.cells 26 Lg.zero.cells 26).below (Nat.le_refl _) lgP.cells) (Nat.le_succ _) lgG.cells
 generalize (((V.alloc (.cells Lg.zero.cells 26)).alloc (.cells Lg.zero.cells 26)).setRow V.heap.size lgP.cells).setRow (V.heap.size + 1) lgG.cells=V3 at bV ⊢
 obtain ⟨cn,wx,hu⟩:=WA.out
 have x:=ex_of (sd 1)
 generalize dealW (sd 1) 7 2 lgP lgG ⟨100,200,0⟩=dd at x
 have K:=Lib.hid (T_prop (wx.below (HB.out.trans (bV.mono HB.out.size))) cn (p2_0 sd) x (by decide))
 have X:=Lib.hid (And.intro cn (And.intro x hu))
 clear WA HB bV cn wx hu x
 go_wp2_with fail
 refine K.out.mono ?_
 rintro _ W1 ⟨rfl,x1,s,hd,p1,wx⟩
 obtain ⟨mb,rw1⟩:=W_row wx
 have HD:=Lib.hid hd
 have P1:=Lib.hid p1
 have K1:=Lib.hid (W_double (k:=0) wx rfl (pLet_len dd) (by simp))
 clear K hd p1 wx
 go_wp2_with fail
 refine K1.out.mono ?_
 rintro _ W2 ⟨rfl,wx⟩
 have K2:=Lib.hid (T_hear0 (k:=0) wx X.out.1 P1.out X.out.2.1 rfl (by simp))
 clear K1 wx rw1
 go_wp2_with fail
 refine K2.out.mono ?_
 rintro _ W3 ⟨rfl,x2,p2,wx⟩
 have P2':=Lib.hid p2
 have K3:=Lib.hid (T_agreed2 (show WX c W3 x2 [pLet dd,aLet dd] now0 from wx) X.out.1 p2 X.out.2.1)
 clear K2 P1 p2 wx
 go_wp2_with fail
 refine K3.out.mono ?_
 rintro _ W4 ⟨rfl,wx⟩
 have K4:=Lib.hid (T_hear1 (k:=0) wx X.out.1 P2'.out X.out.2.1 rfl (by simp))
 clear K3 wx
 go_wp2_with fail
 refine K4.out.mono ?_
 rintro _ W5 ⟨rfl,wx⟩
 have K5:=Lib.hid (T_ref (k:=1) (show WX c W5 x2 [aLet dd,rLet 13] now0 from wx) X.out.1 P2'.out Words.nil HD.out X.out.2.1 rfl (by simp))
 clear K4 wx
 go_wp2_with fail
 refine K5.out.mono ?_
 rintro _ W6 ⟨rfl,x3,p3,wx⟩
 have P3:=Lib.hid p3
 have K6:=Lib.hid (T_told (show WX c W6 x3 [aLet dd] now0 from wx) X.out.1 p3 (a:=3) (b:=13) rfl)
 clear K5 wx P2' p3
 go_wp2_with fail
 refine K6.out.mono ?_
 rintro _ W7 ⟨rfl,wx⟩
 have K7:=Lib.hid (T_acc (k:=0) wx X.out.1 P3.out words3 HD.out X.out.2.1 rfl (by simp))
 clear K6 wx
 go_wp2_with fail
 refine K7.out.mono ?_
 rintro _ W8 ⟨rfl,x4,p4,wx⟩
 have K8:=Lib.hid (T_told (show WX c W8 x4 [] now0 from wx) X.out.1 p4 (a:=2) (b:=0) rfl)
 clear K7 wx P3 p4
 go_wp2_with fail
 refine K8.out.mono ?_
 rintro _ W9 ⟨rfl,wx⟩
 obtain ⟨mb2,rw2⟩:=W_row wx
 have lo:=wx.low
 have K9:=Lib.hid (W_waits wx)
 have LO:=Lib.hid lo
 clear K8 wx lo
 go_wp2_with (go_at_call 11;refine K9.out.mono ?_;rintro _ W10 ⟨rfl,rfl⟩)
 go_ret
 exact ⟨rfl,X.out.2.2.trans (LO.out.mono X.out.2.2.size)⟩
end Go.Proofs.YtjkfondgacjpnaaGreatDoor
