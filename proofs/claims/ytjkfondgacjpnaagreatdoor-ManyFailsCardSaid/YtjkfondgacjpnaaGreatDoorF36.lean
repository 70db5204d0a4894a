/- What is proved: parts of the walk and of the plain law, 3 texts in one. No condition but those each law names. -/
import Derived.Test.YtjkfondgacjpnaaGreatDoorF35
import Derived.Shelf.SlIterI.Nil
import Derived.Shelf.SortM.Plain
import Derived.Shelf.SortM.SortNone
import Derived.Test.YtjkfondgacjpnaaGreatDoorProg
import Derived.Test.YtjkfondgacjpnaaGreatDoorF04
import Derived.Test.YtjkfondgacjpnaaGreatDoorF34
namespace Go.Proofs.YtjkfondgacjpnaaGreatDoor
open Go.RowKit
set_option maxRecDepth 100000
attribute [local go_sem ↓] rowOf_cell
attribute [local go_sem] rowOf_alloc soft_alloc rowOf_drew soft_drew rowOf_setRow soft_setRow rowOf_setCell soft_setCell frozen_of_soft
def rc0 (k i:Int):Rc:=⟨k,i,Dl.zero,Hs.zero,0,0,Tv.zero⟩
theorem rc0_k (k i:Int):(rc0 k i).k=k:=rfl
theorem rc0_i (k i:Int):(rc0 k i).i=i:=rfl
attribute [local go_sem] rc0_k rc0_i
def rp1 (d:Dl):Rc:=⟨1,d.i,⟨d.i,d.r,Lg.zero,Lg.zero,Hs.zero,0⟩,Hs.zero,0,0,Tv.zero⟩
def rp2 (d:Dl):Rc:=⟨1,d.i,⟨d.i,d.r,d.p,Lg.zero,Hs.zero,0⟩,Hs.zero,0,0,Tv.zero⟩
def rp3 (d:Dl):Rc:=⟨1,d.i,⟨d.i,d.r,d.p,d.g,Hs.zero,0⟩,Hs.zero,0,0,Tv.zero⟩
def rp4 (d:Dl):Rc:=⟨1,d.i,⟨d.i,d.r,d.p,d.g,d.h,0⟩,Hs.zero,0,0,Tv.zero⟩
def tailD (d:Dl):List Nat:=intI d.r ++ (legI d.p ++ (legI d.g ++ (d.h.l ++ intI d.q)))
theorem putD_eq (d:Dl):putD d=intI 1 ++ (intI d.i ++ tailD d):=by unfold putD tailD intsL dInts legI;simp [List.append_assoc]
theorem putS_eq (i:Int) (h:Hs):putS i h=intI 2 ++ (intI i ++ h.l):=by unfold putS intsL;simp [List.append_assoc]
theorem deal_legs {d:Dl} (h:dealOk d=true):LgIn d.p∧LgIn d.g∧(1 ≤ d.i∧d.i ≤ 1073741824)∧(1 ≤ d.r∧d.r ≤ 2)∧(1 ≤ d.q∧d.q ≤ 32):=by
 unfold dealOk legOk at h
 simp only [Bool.and_eq_true] at h
 obtain ⟨h1,h2,⟨h3,h4,h5⟩,⟨h6,h7,h8⟩,_,h9⟩:=h
 exact ⟨⟨of_decide_eq_true h3,of_decide_eq_true h4,of_decide_eq_true h5⟩,⟨of_decide_eq_true h6,of_decide_eq_true h7,of_decide_eq_true h8⟩,of_decide_eq_true h1,of_decide_eq_true h2,of_decide_eq_true h9⟩
set_option maxHeartbeats 4000000 in
theorem rest_D {w:World} {p b:Nat} {d:Dl} (hd:dealOk d=true) (hs:Rs (tailD d,0)) (h:RR w p b w (tailD d,0) (rc0 1 d.i)):
  Calls Tryz.prog 122 #[.pointer (some ⟨p,0,none⟩),.pointer (some ⟨b,0,none⟩)] w fun e w'=>e=.returned (.slice none 0 0)∧RR w p b w' ([],0) (rcD d):=by
 obtain ⟨lp,lg,li,lr,lq⟩:=deal_legs hd
 have HS:=Lib.hid hs
 have HL:=Lib.hid (And.intro lp (And.intro lg (And.intro lr lq)))
 have H:=Lib.hid h
 have r0:=rowOf_of h.row
 have s0:=soft_of h.row
 have hc0:(rc0 1 d.i).cells[0]?=some (.int .i64 1):=rfl
 have hc1:(rc0 1 d.i).cells[1]?=some (.int .i64 d.i):=rfl
 have e1:(rc0 1 d.i).cells.setIfInBounds 2 (.int .i64 d.i)=Rc.cells { rc0 1 d.i with d:={ Dl.zero with i:=d.i } }:=rfl
 have E1:=Lib.hid e1
 clear hs h lp lg li lr lq e1 hd
 go_enter Tryz.func122,Tryz.ntmps122
 go_upto_region 5 with (fail)
 have a1:=H.out.set E1.out
 generalize w.setCell ⟨b,2,none⟩ (.int .i64 d.i)=V0 at a1 ⊢
 have K1:=Lib.hid (RInt_put (x:=d.r) (r:=legI d.p ++ (legI d.g ++ (d.h.l ++ intI d.q))) a1.fm (Nat.pos_iff_ne_zero.1 a1.pos.1) (by have:=HL.out;omega) (by have:=HL.out;omega) HS.out a1.rd)
 have A1:=Lib.hid a1
 clear a1 r0 s0 hc0 hc1 H E1
 go_wp2_with fail
 refine K1.out.mono ?_
 rintro _ W1 ⟨rfl,hb,hr⟩
 have a1:=A1.out.read hb hr
 have r1:=rowOf_of a1.row
 have s1:=soft_of a1.row
 have A2:=Lib.hid (show RR w p b (W1.setCell ⟨b,3,none⟩ (.int .i64 d.r)) _ (rp1 d) from a1.set rfl)
 clear a1 K1 A1 hb hr
 go_upto_region 6 with (fail)
 generalize W1.setCell ⟨b,3,none⟩ (.int .i64 d.r)=V1 at A2 ⊢
 have K2:=Lib.hid (RLeg_put (l:=d.p) (r:=legI d.g ++ (d.h.l ++ intI d.q)) A2.out.fm A2.out.pos.1 HL.out.1 HS.out.tail A2.out.rd (Nat.le_of_lt (Array.getElem?_eq_some_iff.1 A2.out.row).1))
 clear r1 s1
 go_wp2_with fail
 refine K2.out.mono ?_
 rintro _ W2 ⟨rfl,hb,hr⟩
 have a1:=A2.out.read hb hr
 have r1:=rowOf_of a1.row
 have s1:=soft_of a1.row
 have A3:=Lib.hid (show RR w p b (W2.setRow b (over (Rc.cells (rp1 d)) 4 d.p.cells.toList)) _ (rp2 d) from a1.over (over_rp _ _))
 have z1:=r_size (rp1 d)
 have z2:=l_size d.p
 have z3:=l_one d.p
 clear a1 K2 A2 hb hr
 go_upto_region 7 with (fail)
 generalize W2.setRow b _=V2 at A3 ⊢
 have K3:=Lib.hid (RLeg_put (l:=d.g) (r:=d.h.l ++ intI d.q) A3.out.fm A3.out.pos.1 HL.out.2.1 HS.out.tail.tail A3.out.rd (Nat.le_of_lt (Array.getElem?_eq_some_iff.1 A3.out.row).1))
 clear r1 s1 z1 z2 z3
 go_wp2_with fail
 refine K3.out.mono ?_
 rintro _ W3 ⟨rfl,hb,hr⟩
 have a1:=A3.out.read hb hr
 have r1:=rowOf_of a1.row
 have s1:=soft_of a1.row
 have A4:=Lib.hid (show RR w p b (W3.setRow b (over (Rc.cells (rp2 d)) 7 d.g.cells.toList)) _ (rp3 d) from a1.over (over_rg _ _))
 have z1:=r_size (rp2 d)
 have z2:=l_size d.g
 have z3:=l_one d.g
 clear a1 K3 A3 hb hr
 go_upto_region 8 with (fail)
 generalize W3.setRow b _=V3 at A4 ⊢
 have K4:=Lib.hid (RHash_put (h:=d.h) (r:=intI d.q) A4.out.rd (Nat.le_of_lt (Array.getElem?_eq_some_iff.1 A4.out.row).1))
 clear r1 s1 z1 z2 z3
 go_wp2_with fail
 refine K4.out.mono ?_
 rintro _ W4 ⟨rfl,hb,hr⟩
 have a1:=A4.out.read hb hr
 have r1:=rowOf_of a1.row
 have s1:=soft_of a1.row
 have A5:=Lib.hid (show RR w p b (W4.setRow b (over (Rc.cells (rp3 d)) 10 d.h.cells.toList)) (intI d.q ++ [],0) (rp4 d) from by rw [List.append_nil];exact a1.over (over_rh _ _))
 have z1:=r_size (rp3 d)
 have z2:=h_size d.h
 have z3:=h_one d.h
 clear a1 K4 A4 hb hr
 go_upto_region 9 with (fail)
 generalize W4.setRow b _=V4 at A5 ⊢
 have K5:=Lib.hid (RInt_put (x:=d.q) (r:=[]) A5.out.fm (Nat.pos_iff_ne_zero.1 A5.out.pos.1) (by have:=HL.out;omega) (by have:=HL.out;omega) (by rw [List.append_nil];exact HS.out.tail.tail.tail.tail) A5.out.rd)
 clear r1 s1 z1 z2 z3
 go_wp2_with fail
 refine K5.out.mono ?_
 rintro _ W5 ⟨rfl,hb,hr⟩
 have a1:=A5.out.read hb hr
 have r1:=rowOf_of a1.row
 have s1:=soft_of a1.row
 have A6:=Lib.hid (show RR w p b (W5.setCell ⟨b,42,none⟩ (.int .i64 d.q)) _ (rcD d) from a1.set (r_set42 _ _))
 clear a1 K5 A5 hb hr
 go_wp2
 go_ret
 exact ⟨rfl,A6.out⟩
set_option maxHeartbeats 2000000 in
theorem rest_S {w:World} {p b:Nat} {i:Int} {h:Hs} (hR:RR w p b w (h.l,0) (rc0 2 i)):
  Calls Tryz.prog 122 #[.pointer (some ⟨p,0,none⟩),.pointer (some ⟨b,0,none⟩)] w fun e w'=>e=.returned (.slice none 0 0)∧RR w p b w' ([],0) (rcS i h):=by
 have H:=Lib.hid hR
 have r0:=rowOf_of hR.row
 have s0:=soft_of hR.row
 have hc0:(rc0 2 i).cells[0]?=some (.int .i64 2):=rfl
 have K:=Lib.hid (RHash_put (h:=h) (r:=[]) (by rw [List.append_nil];exact hR.rd) (Nat.le_of_lt (Array.getElem?_eq_some_iff.1 hR.row).1))
 clear hR
 go_enter Tryz.func122,Tryz.ntmps122
 go_wp2_with fail
 refine K.out.mono ?_
 rintro _ W1 ⟨rfl,hb,hr⟩
 have a1:=H.out.read hb hr
 have r1:=rowOf_of a1.row
 have s1:=soft_of a1.row
 have A6:=Lib.hid (show RR w p b (W1.setRow b (over (Rc.cells (rc0 2 i)) 43 h.cells.toList)) _ (rcS i h) from a1.over (over_rs _ _))
 have z1:=r_size (rc0 2 i)
 have z2:=h_size h
 have z3:=h_one h
 clear a1 K hb hr r0 s0 hc0 H
 go_wp2
 go_ret
 exact ⟨rfl,A6.out⟩
def ItOk:It→Prop
 | .dl d=>dealOk d=true∧Small d.h.l
 | .se i s=>wi i 1 1073741824=true∧Small s.l
theorem Adds.ok {B B':List (Int × Sw)} {a:It} (h:Adds B a B'):ItOk a:=by
 cases h with
 | dl h1 h2=>exact ⟨h1,h2⟩
 | se h1 h2=>exact ⟨h1,h2⟩
theorem br1 (w:World) (a:Int):(Instr.build 119 #[(0,.int .i64 a)]).run Tryz.prog w=.ok (.agg (rc0 a 0).cells) w:=by kernel_rfl
theorem ebr1 (w:World) (ρ:Operand→Value) (dst:Option Tmp) (ty:TypeId) (pos:String) (af:Array Edge) (gd:Option (Nat × Bool)) (x:Operand) (hx:ρ x=.int .i64 (iv (ρ x))):(execOp ρ ⟨dst,.build 119 #[(0,x)],ty,pos,af,gd⟩).run Tryz.prog w=.ok (.value (.agg (rc0 (iv (ρ x)) 0).cells)) w:=by
 have h:=br1 w (iv (ρ x))
 rw [← hx] at h
 unfold execOp
 simp only [Sem.run_bind,Sem.run_pure,List.map_toArray,List.map_cons,List.map_nil,h,Result.andThen_ok]
attribute [local go_sem ↓] ebr1
set_option maxHeartbeats 4000000 in
theorem RGet_gen {w:World} {ao:Option Addr} {n c:Nat} {kk ii:Int} {tl:List Nat} {r:Rc} (hf:Forms w) (hl:Sl w ao n c (bts (intI kk ++ (intI ii ++ tl)))) (hs:Rs (intI kk ++ (intI ii ++ tl),0)) (hn:n ≤ 400) (hk:1 ≤ kk∧kk ≤ 4) (hi:1 ≤ ii∧ii ≤ 1073741824)
  (hrest:∀ w p b,RR w p b w (tl,0) (rc0 kk ii)→Calls Tryz.prog 122 #[.pointer (some ⟨p,0,none⟩),.pointer (some ⟨b,0,none⟩)] w fun e w'=>e=.returned (.slice none 0 0)∧RR w p b w' ([],0) r)
  (hchk:∀ w,Calls Tryz.prog 94 #[.agg r.cells] w fun e w'=>e=.returned (.int .i64 0)∧Below w.heap.size w w'):
  Calls Tryz.prog 86 #[.slice ao n c] w fun e w'=>e=.returned (.tuple #[.agg r.cells,.int .i64 0])∧Below w.heap.size w w':=by
 have HF:=Lib.hid hf
 have HL:=Lib.hid hl
 have HS:=Lib.hid hs
 have HK:=Lib.hid (And.intro hk hi)
 have HR:=Lib.hid hrest
 have HC:=Lib.hid hchk
 have n4:((n:Int) > 400)=False:=eq_false (by omega)
 have HN:=Lib.hid hn
 clear hf hl hs hk hi hrest hchk hn
 go_enter Tryz.func86,Tryz.ntmps86
 go_upto_region 1 with (fail)
 have bx:=Bx.new w (Rc.zero.cells) 119;generalize w.alloc (.cells (Rc.zero.cells) 119)=W at bx ⊢;have rx:=bx.rowOf;have sx:=bx.soft;have BX:=Lib.hid bx;clear bx
 have RA:=Lib.hid (Read_any (HL.out.keep (Nat.le_refl _) BX.out.below) (by have:=HN.out;omega))
 go_wp2_with fail
 refine RA.out.mono ?_
 rintro _ w1 ⟨p,a1,c1,rfl,hp1,hb1,hr1,hs1⟩
 have hrd1:RdB w1.heap.size w1 p (intI kk ++ (intI ii ++ tl),0):=Rd.b ⟨a1,n,c1,hr1,hs1⟩
 have bx1:=BX.out.step hb1
 have hpw:w.heap.size < p:=by have:=(Array.getElem?_eq_some_iff.1 BX.out.row).1;omega
 have R1:=Lib.hid (RInt_put (HF.out.keep (Nat.le_refl _) bx1.below) (by omega:p ≠ 0) (by have:=HK.out;omega) (by have:=HK.out;omega) HS.out hrd1)
 have BX1:=Lib.hid bx1
 clear BX rx sx hb1 hr1 hs1 hrd1 bx1 RA hp1
 go_wp2_with fail
 refine R1.out.mono ?_
 rintro _ w2 ⟨rfl,hb2,hr2⟩
 have B2:=Lib.hid (BX1.out.below.trans (hb2.to BX1.out.below.size (by omega)))
 have X2:=Lib.hid ((hb2.block w.heap.size (Array.getElem?_eq_some_iff.1 BX1.out.row).1 (by omega)).trans BX1.out.row)
 have Z2:=hb2.size
 have HR2:=Lib.hid (hr2.mono Z2)
 have PL:=hr2.rd.lt
 clear hb2 hr2 R1 BX1
 go_upto_region 3 with (fail)
 have dx:=Bx.made w2 Rc.zero.cells (rc0 kk 0).cells 119
 change Code.wp _ _ _ _ ((w2.alloc (.cells Rc.zero.cells 119)).setRow w2.heap.size (rc0 kk 0).cells)
 generalize (w2.alloc (.cells Rc.zero.cells 119)).setRow w2.heap.size (rc0 kk 0).cells=V at dx ⊢
 have hw2:w.heap.size < w2.heap.size:=(Array.getElem?_eq_some_iff.1 X2.out).1
 have B3:=Lib.hid (B2.out.trans (dx.below.mono B2.out.size))
 have X3:=Lib.hid ((dx.below.block w.heap.size hw2).trans X2.out)
 have a0:RR V p w2.heap.size V (intI ii ++ tl,0) (rc0 kk 0):=⟨HR2.out.keep (Nat.le_refl _) dx.below,dx.row,HF.out.keep (Nat.le_refl _) B3.out,But2.refl _ _ _,by omega⟩
 have LW:=Lib.hid (And.intro hpw hw2)
 generalize w2.heap.size=b at *
 have K1:=Lib.hid (RInt_put (x:=ii) (r:=tl) a0.fm (Nat.pos_iff_ne_zero.1 a0.pos.1) (by have:=HK.out;omega) (by have:=HK.out;omega) HS.out.tail a0.rd)
 have A0:=Lib.hid a0
 clear a0 dx B2 X2 HR2 Z2 PL hpw hw2
 go_wp2_with fail
 refine K1.out.mono ?_
 rintro _ W1 ⟨rfl,hb,hr⟩
 have a1:=A0.out.read hb hr
 have r1:=rowOf_of a1.row
 have s1:=soft_of a1.row
 have A1:=Lib.hid (show RR V p b (W1.setCell ⟨b,1,none⟩ (.int .i64 ii)) (tl,0) (rc0 kk ii) from a1.set rfl)
 have z0:=r_size (rc0 kk 0)
 clear a1 K1 A0 hb hr
 go_upto_region 4 with (fail)
 generalize W1.setCell ⟨b,1,none⟩ (.int .i64 ii)=V1 at A1 ⊢
 have KB:Calls Tryz.prog 76 #[.pointer (some ⟨p,0,none⟩)] V1 fun e w'=>e=.returned (.bool false)∧w'=V1:=RBad_any A1.out.rd.rd
 have KB:=Lib.hid KB
 clear r1 s1 z0
 go_wp2_with fail
 refine KB.out.mono ?_
 rintro _ V2 ⟨rfl,rfl⟩
 have r1:=rowOf_of A1.out.row
 have c0:(rc0 kk ii).cells[0]?=some (.int .i64 kk):=rfl
 have KW:=Lib.hid (within_is (n:=kk) (a:=1) (b:=4) (t:=true) (decide_eq_true HK.out.1) V2)
 have KR:=Lib.hid (HR.out V2 p b ⟨A1.out.rd,A1.out.row,A1.out.fm,But2.refl _ _ _,A1.out.pos⟩)
 clear KB
 go_wp2_with fail
 refine KW.out.mono ?_
 rintro _ V3 ⟨rfl,rfl⟩
 clear KW r1 c0
 go_wp2_with fail
 refine KR.out.mono ?_
 rintro _ V4 ⟨rfl,a2⟩
 have b2:=A1.out.but.trans a2.but
 have X4:=Lib.hid (((b2 (w.heap.size + 1) LW.out.1 LW.out.2 (Nat.lt_of_lt_of_le (Array.getElem?_eq_some_iff.1 X3.out).1 (Nat.le_refl _))).block w.heap.size (Nat.lt_succ_self _)).trans X3.out)
 have B4:=Lib.hid (B3.out.trans (b2 w.heap.size (Nat.le_of_lt LW.out.1) (Nat.le_of_lt LW.out.2) B3.out.size))
 have A2:=Lib.hid a2
 have KE:Calls Tryz.prog 77 #[.pointer (some ⟨p,0,none⟩)] V4 fun e w'=>e=.returned (.int .i64 0)∧w'=V4:=End_any a2.rd.rd
 have KE:=Lib.hid KE
 clear KR a2 b2 A1 X3 B3
 go_wp2_with fail
 refine KE.out.mono ?_
 rintro _ V5 ⟨rfl,rfl⟩
 have r1:=rowOf_of A2.out.row
 have z1:=r_size r
 have z2:=r_whole r
 have KC:=Lib.hid (HC.out V5)
 clear KE
 go_wp2_with fail
 refine KC.out.mono ?_
 rintro _ V6 ⟨rfl,hb⟩
 have X5:=(hb.block w.heap.size (Array.getElem?_eq_some_iff.1 X4.out).1).trans X4.out
 have B5:=Lib.hid (B4.out.trans (hb.mono B4.out.size))
 have r1:=rowOf_of ((hb.block b (Array.getElem?_eq_some_iff.1 A2.out.row).1).trans A2.out.row)
 have r2:=rowOf_of X5
 have s2:=soft_of X5
 have z3:=r_one r
 have z4:=r_size Rc.zero
 have HX:=Lib.hid X5
 clear KC hb X5 X4 B4 A2
 go_wp2
 have hc:rowOf (V6.setRow w.heap.size r.cells) w.heap.size=r.cells:=by rw [rowOf_setRow _ _ _ _ (soft_of HX.out),if_pos rfl]
 refine bodyPost_ret (results_row1 (t:=119) rfl Tryz.underlying119 rfl (by kernel_rfl) _ _ w.heap.size rfl hc (r_size _)) rfl ?_
 exact ⟨rfl,Below.setRow_ B5.out (Nat.le_refl _) _⟩
theorem RGet_it {w:World} {ao:Option Addr} {n c:Nat} {a:It} (ha:ItOk a) (hf:Forms w) (hl:Sl w ao n c (bts a.row.2)):
  Calls Tryz.prog 86 #[.slice ao n c] w fun e w'=>e=.returned (.tuple #[.agg a.rc.cells,.int .i64 0])∧Below w.heap.size w w':=by
 have hln:a.row.2.length=n:=by have:=hl.len;rwa [bts_length] at this
 cases a with
 | dl d=>
  obtain ⟨h1,h2⟩:=ha
  have hl:Sl w ao n c (bts (putD d)):=hl
  have hln:(putD d).length=n:=hln
  have hlen:=putD_len d
  have hsm:Small (putD d):=(putD_ok h2).2.2.2
  have hi:=(deal_legs h1).2.2.1
  rw [putD_eq] at hl hln hlen hsm
  have hs:Rs (intI 1 ++ (intI d.i ++ tailD d),0):=⟨hsm,by show (intI 1 ++ (intI d.i ++ tailD d)).length < _;omega⟩
  exact RGet_gen (r:=rcD d) hf hl hs (by omega) (by decide) hi (fun w p b h=>rest_D h1 hs.tail.tail h) (fun w=>RCheck_D h1 w)
 | se i s=>
  obtain ⟨h1,h2⟩:=ha
  have hl:Sl w ao n c (bts (putS i s)):=hl
  have hln:(putS i s).length=n:=hln
  have hlen:=putS_len i s
  have hsm:Small (putS i s):=(putS_ok h2).2.2.2
  have hi:1 ≤ i∧i ≤ 1073741824:=of_decide_eq_true h1
  rw [putS_eq] at hl hln hlen hsm
  have hs:Rs (intI 2 ++ (intI i ++ s.l),0):=⟨hsm,by show (intI 2 ++ (intI i ++ s.l)).length < _;omega⟩
  exact RGet_gen (r:=rcS i s) hf hl hs (by omega) (by decide) hi (fun w p b h=>rest_S h) (fun w=>RCheck_S h1 w)
end Go.Proofs.YtjkfondgacjpnaaGreatDoor

namespace Go.Proofs.YtjkfondgacjpnaaGreatDoor
open Go.Shelf Go.RowKit Go.Maps Go.Sort
def keysD_ren:Go.Shelf.Ren:=⟨fun | 7=>56 | 10=>82 | n=>n,fun | 23=>102 | 26=>3 | 3=>136 | 28=>133 | 0=>0 | 27=>132 | 33=>49 | 4=>4 | n=>n,fun | n=>n⟩
theorem keysD:Go.Proofs.SlLaysZI.n7 Tryz.prog keysD_ren:={
 mixed:=by kernel_rfl
 f7:=⟨Tryz.f56.name,by decide,Tryz.func56.trans (congrArg some (by kernel_rfl))⟩
 f10:=⟨Tryz.f82.name,by decide,Tryz.func82.trans (congrArg some (by kernel_rfl))⟩
 t0:=Tryz.underlying0
 a0:=Tryz.isAgg0
 z0:=Tryz.sizeOf0
 v0:=Tryz.zeroValue0
 t4:=Tryz.underlying4
 a4:=Tryz.isAgg4
 z4:=Tryz.sizeOf4
 v4:=Tryz.zeroValue4
 t23:=Tryz.underlying102
 a23:=Tryz.isAgg102
 z23:=Tryz.sizeOf102
 v23:=Tryz.zeroValue102
 t26:=Tryz.underlying3
 a26:=Tryz.isAgg3
 z26:=Tryz.sizeOf3
 v26:=Tryz.zeroValue3
 t27:=Tryz.underlying132
 a27:=Tryz.isAgg132
 z27:=Tryz.sizeOf132
 v27:=Tryz.zeroValue132
 t28:=Tryz.underlying133
 a28:=Tryz.isAgg133
 z28:=Tryz.sizeOf133
 v28:=Tryz.zeroValue133
 t33:=Tryz.underlying49
 a33:=Tryz.isAgg49
 z33:=Tryz.sizeOf49
 v33:=Tryz.zeroValue49 }
def keysB_ren:Go.Shelf.Ren:=⟨fun | 7=>59 | 10=>87 | n=>n,fun | 23=>142 | 26=>3 | 3=>143 | 28=>133 | 0=>0 | 27=>132 | 33=>49 | 4=>4 | n=>n,fun | n=>n⟩
theorem keysB:Go.Proofs.SlLaysZI.n7 Tryz.prog keysB_ren:={
 mixed:=by kernel_rfl
 f7:=⟨Tryz.f59.name,by decide,Tryz.func59.trans (congrArg some (by kernel_rfl))⟩
 f10:=⟨Tryz.f87.name,by decide,Tryz.func87.trans (congrArg some (by kernel_rfl))⟩
 t0:=Tryz.underlying0
 a0:=Tryz.isAgg0
 z0:=Tryz.sizeOf0
 v0:=Tryz.zeroValue0
 t4:=Tryz.underlying4
 a4:=Tryz.isAgg4
 z4:=Tryz.sizeOf4
 v4:=Tryz.zeroValue4
 t23:=Tryz.underlying142
 a23:=Tryz.isAgg142
 z23:=Tryz.sizeOf142
 v23:=Tryz.zeroValue142
 t26:=Tryz.underlying3
 a26:=Tryz.isAgg3
 z26:=Tryz.sizeOf3
 v26:=Tryz.zeroValue3
 t27:=Tryz.underlying132
 a27:=Tryz.isAgg132
 z27:=Tryz.sizeOf132
 v27:=Tryz.zeroValue132
 t28:=Tryz.underlying133
 a28:=Tryz.isAgg133
 z28:=Tryz.sizeOf133
 v28:=Tryz.zeroValue133
 t33:=Tryz.underlying49
 a33:=Tryz.isAgg49
 z33:=Tryz.sizeOf49
 v33:=Tryz.zeroValue49 }
def sortedA_ren:Go.Shelf.Ren:=⟨fun | 6=>55 | 8=>80 | 9=>81 | 11=>109 | 13=>111 | 12=>110 | 23=>158 | 24=>159 | 14=>149 | 15=>150 | 16=>151 | 17=>152 | 18=>153 | 19=>154 | 20=>155 | 21=>156 | 22=>157 | 25=>205 | 26=>206 | 27=>207 | 28=>208 | 29=>209 | 30=>210 | 31=>242 | n=>n,fun | 26=>3 | 28=>133 | 24=>22 | 0=>0 | 3=>3 | 37=>189 | 48=>186 | 50=>180 | 4=>4 | 40=>264 | 39=>263 | 45=>268 | 5=>5 | 9=>9 | 51=>310 | 55=>100 | 57=>342 | 58=>45 | 33=>49 | n=>n,fun | n=>n⟩
theorem sortedA:Go.Proofs.SlLaysZI.n6 Tryz.prog sortedA_ren:={
 mixed:=by kernel_rfl
 f6:=⟨Tryz.f55.name,by decide,Tryz.func55.trans (congrArg some (by kernel_rfl))⟩
 f8:=⟨Tryz.f80.name,by decide,Tryz.func80.trans (congrArg some (by kernel_rfl))⟩
 f11:=⟨Tryz.f109.name,by decide,Tryz.func109.trans (congrArg some (by kernel_rfl))⟩
 t0:=Tryz.underlying0
 a0:=Tryz.isAgg0
 z0:=Tryz.sizeOf0
 v0:=Tryz.zeroValue0
 t24:=Tryz.underlying22
 a24:=Tryz.isAgg22
 z24:=Tryz.sizeOf22
 v24:=Tryz.zeroValue22
 t26:=Tryz.underlying3
 a26:=Tryz.isAgg3
 z26:=Tryz.sizeOf3
 v26:=Tryz.zeroValue3
 t28:=Tryz.underlying133
 a28:=Tryz.isAgg133
 z28:=Tryz.sizeOf133
 v28:=Tryz.zeroValue133
 i26:=by kernel_rfl }
def sortA_ren:Go.Shelf.Ren:=⟨fun | 5=>81 | 8=>111 | 7=>110 | 19=>158 | 20=>159 | 10=>149 | 11=>150 | 12=>151 | 13=>152 | 14=>153 | 15=>154 | 16=>155 | 17=>156 | 18=>157 | 30=>205 | 31=>206 | 32=>207 | 33=>208 | 34=>209 | 35=>210 | 40=>242 | n=>n,fun | 23=>22 | 25=>3 | 3=>3 | 32=>189 | 22=>22 | 0=>0 | 44=>186 | 46=>180 | 4=>4 | 36=>264 | 35=>263 | 41=>268 | 5=>5 | 9=>9 | 53=>310 | 57=>100 | 63=>342 | 64=>45 | n=>n,fun | n=>n⟩
theorem sortA:Go.Proofs.SlLaysM.n5 Tryz.prog sortA_ren:={
 mixed:=by kernel_rfl
 f5:=⟨Tryz.f81.name,by decide,Tryz.func81.trans (congrArg some (by kernel_rfl))⟩
 f7:=⟨Tryz.f110.name,by decide,Tryz.func110.trans (congrArg some (by kernel_rfl))⟩
 f8:=Tryz.func111.trans (congrArg some (by kernel_rfl))
 f10:=⟨Tryz.f149.name,by decide,Tryz.func149.trans (congrArg some (by kernel_rfl))⟩
 f11:=⟨Tryz.f150.name,by decide,Tryz.func150.trans (congrArg some (by kernel_rfl))⟩
 f12:=⟨Tryz.f151.name,by decide,Tryz.func151.trans (congrArg some (by kernel_rfl))⟩
 f13:=⟨Tryz.f152.name,by decide,Tryz.func152.trans (congrArg some (by kernel_rfl))⟩
 f14:=⟨Tryz.f153.name,by decide,Tryz.func153.trans (congrArg some (by kernel_rfl))⟩
 f15:=⟨Tryz.f154.name,by decide,Tryz.func154.trans (congrArg some (by kernel_rfl))⟩
 f16:=⟨Tryz.f155.name,by decide,Tryz.func155.trans (congrArg some (by kernel_rfl))⟩
 f17:=⟨Tryz.f156.name,by decide,Tryz.func156.trans (congrArg some (by kernel_rfl))⟩
 f18:=⟨Tryz.f157.name,by decide,Tryz.func157.trans (congrArg some (by kernel_rfl))⟩
 f19:=Tryz.func158.trans (congrArg some (by kernel_rfl))
 f20:=Tryz.func159.trans (congrArg some (by kernel_rfl))
 f30:=⟨Tryz.f205.name,by decide,Tryz.func205.trans (congrArg some (by kernel_rfl))⟩
 f31:=Tryz.func206.trans (congrArg some (by kernel_rfl))
 f32:=Tryz.func207.trans (congrArg some (by kernel_rfl))
 f33:=⟨Tryz.f208.name,by decide,Tryz.func208.trans (congrArg some (by kernel_rfl))⟩
 f34:=⟨Tryz.f209.name,by decide,Tryz.func209.trans (congrArg some (by kernel_rfl))⟩
 f35:=⟨Tryz.f210.name,by decide,Tryz.func210.trans (congrArg some (by kernel_rfl))⟩
 f40:=⟨Tryz.f242.name,by decide,Tryz.func242.trans (congrArg some (by kernel_rfl))⟩
 t0:=Tryz.underlying0
 a0:=Tryz.isAgg0
 z0:=Tryz.sizeOf0
 v0:=Tryz.zeroValue0
 t3:=Tryz.underlying3
 a3:=Tryz.isAgg3
 z3:=Tryz.sizeOf3
 v3:=Tryz.zeroValue3
 t4:=Tryz.underlying4
 a4:=Tryz.isAgg4
 z4:=Tryz.sizeOf4
 v4:=Tryz.zeroValue4
 t5:=Tryz.underlying5
 a5:=Tryz.isAgg5
 z5:=Tryz.sizeOf5
 v5:=Tryz.zeroValue5
 t9:=Tryz.underlying9
 a9:=Tryz.isAgg9
 z9:=Tryz.sizeOf9
 v9:=Tryz.zeroValue9
 t22:=Tryz.underlying22
 a22:=Tryz.isAgg22
 z22:=Tryz.sizeOf22
 v22:=Tryz.zeroValue22
 t23:=Tryz.underlying22
 a23:=Tryz.isAgg22
 z23:=Tryz.sizeOf22
 v23:=Tryz.zeroValue22
 t25:=Tryz.underlying3
 a25:=Tryz.isAgg3
 z25:=Tryz.sizeOf3
 v25:=Tryz.zeroValue3
 t32:=Tryz.underlying189
 a32:=Tryz.isAgg189
 z32:=Tryz.sizeOf189
 v32:=Tryz.zeroValue189
 t35:=Tryz.underlying263
 a35:=Tryz.isAgg263
 z35:=Tryz.sizeOf263
 v35:=Tryz.zeroValue263
 t36:=Tryz.underlying264
 a36:=Tryz.isAgg264
 z36:=Tryz.sizeOf264
 v36:=Tryz.zeroValue264
 t41:=Tryz.underlying268
 a41:=Tryz.isAgg268
 z41:=Tryz.sizeOf268
 v41:=Tryz.zeroValue268
 t44:=Tryz.underlying186
 a44:=Tryz.isAgg186
 z44:=Tryz.sizeOf186
 v44:=Tryz.zeroValue186
 t46:=Tryz.underlying180
 a46:=Tryz.isAgg180
 z46:=Tryz.sizeOf180
 v46:=Tryz.zeroValue180
 t53:=Tryz.underlying310
 a53:=Tryz.isAgg310
 z53:=Tryz.sizeOf310
 v53:=Tryz.zeroValue310
 t57:=Tryz.underlying100
 a57:=Tryz.isAgg100
 z57:=Tryz.sizeOf100
 v57:=Tryz.zeroValue100
 t63:=Tryz.underlying342
 a63:=Tryz.isAgg342
 z63:=Tryz.sizeOf342
 v63:=Tryz.zeroValue342
 t64:=Tryz.underlying45
 a64:=Tryz.isAgg45
 z64:=Tryz.sizeOf45
 v64:=Tryz.zeroValue45 }
theorem sortsA (m:Nat):AnyZI.SortsIn Tryz.prog sortedA_ren Fence.wide m:=
 ⟨fun blk off cap ss W hH hblk hsz=>callsIn_wide.2 (AnyM.slices_Sort_int sortA blk off cap ss W hH hblk hsz),
  fun p cap W=>callsIn_wide.2 (AnyM.slices_Sort_int_none sortA p cap W)⟩
end Go.Proofs.YtjkfondgacjpnaaGreatDoor
namespace Go.Proofs.YtjkfondgacjpnaaGreatDoor
open Sx
open Go.RowKit (Below)
open Go.WideElems (Fit rd rg rg_of)
set_option maxRecDepth 100000
def leI':Int→Int→Bool:=fun x y=>decide (x ≤ y)
theorem keysD_calls (mb:Option Nat) (w:World):Calls Tryz.prog 56 #[.map mb] w fun e w'=>e=.returned (.func (.func 82) #[] #[.pointer (some ⟨w.heap.size,0,none⟩)])∧w'=w.alloc (.cells #[.map mb] 102):=
 (callsIn_wide (n:=5)).1 (AnyZI.keys_in keysD Fence.wide 5 trivial rfl mb w)
theorem keysB_calls (mb:Option Nat) (w:World):Calls Tryz.prog 59 #[.map mb] w fun e w'=>e=.returned (.func (.func 87) #[] #[.pointer (some ⟨w.heap.size,0,none⟩)])∧w'=w.alloc (.cells #[.map mb] 142):=
 (callsIn_wide (n:=5)).1 (AnyZI.keys_in keysB Fence.wide 5 trivial rfl mb w)
theorem rd_int {e:MapEntry} {k:Int} (h1:e.key=.int .i64 k) (h2:-9223372036854775808 ≤ k∧k ≤ 9223372036854775807):rd Tryz.prog 3 (fun _=>some ((DataW.nil:DataW Unit),[])) e=some (Lit.int .i64 k,DataW.nil):=by
 have hwf:(Lit.int .i64 k).wf=true:=by
  show (decide ((-9223372036854775808:Int) ≤ k) && decide (k ≤ (9223372036854775807:Int)))=true
  rw [decide_eq_true (by omega),decide_eq_true (by omega)]
  rfl
 unfold rd keyOf
 rw [h1,Tryz.underlying3]
 simp [mapKey,hwf]
theorem sor_of {w:World} {f:FuncId} {b r:Nat} {es:Array MapEntry} {cl:Nat} (hr:w.heap[r]?=some (.map es cl)) (hst:MapKept.Stamped es cl) (hk:∀ e ∈ es.toList,∃ k:Int,e.key=.int .i64 k∧-9223372036854775808 ≤ k∧k ≤ 9223372036854775807) (hsz:es.size ≤ 512)
  (hs:∀ (D:List (Lit × DataW Unit)),w.ownsMap Tryz.prog 3 (fun _=>some ((DataW.nil:DataW Unit),[])) r es.size (DataW.map D)→SeqGives Fence.wide 2 Tryz.prog f #[.pointer (some ⟨b,0,none⟩)] encZ (fun ss=>ss.Perm (intKeys (DataW.map D))) (Maps.size (DataW.map D)) w)
  (he:Enters Tryz.prog f):
  Calls Tryz.prog 55 #[.func (.func f) #[] #[.pointer (some ⟨b,0,none⟩)]] w fun e w'=>∃ (v:Value) (ss:List Int),e=.returned v∧ss.Perm (es.toList.map fun e=>intOf e.key)∧
   w'.ownsRow w.heap.size 3 1 v ss.length ((ss.mergeSort leI').map encZ)∧(v=.slice none 0 0 ↔ ss=[])∧Below w.heap.size w w':=by
 have hrd:∀ e ∈ es.toList,∃ k:Int,e.key=.int .i64 k∧rd Tryz.prog 3 (fun _=>some ((DataW.nil:DataW Unit),[])) e=some (Lit.int .i64 k,DataW.nil):=fun e he=>by
  obtain ⟨k,h1,h2⟩:=hk e he
  exact ⟨k,h1,rd_int h1 h2⟩
 have hfit:Fit Tryz.prog 3 (fun _=>some ((DataW.nil:DataW Unit),[])) es cl:=⟨Nat.le_trans hsz (by decide),hst,fun e he=>by obtain ⟨k,_,h⟩:=hrd e he;exact ⟨_,h⟩⟩
 have hown:w.ownsMap Tryz.prog 3 (fun _=>some ((DataW.nil:DataW Unit),[])) r es.size (DataW.map ((es.toList.map (rg Tryz.prog 3 (fun _=>some ((DataW.nil:DataW Unit),[])))).foldr DataW.insert [])):=⟨es,cl,hr,hfit,Nat.le_refl _,rfl⟩
 have hsize:Maps.size (DataW.map ((es.toList.map (rg Tryz.prog 3 (fun _=>some ((DataW.nil:DataW Unit),[])))).foldr DataW.insert []))=es.size:=by simp [Maps.size,Go.length_sorted]
 have hseq:=hs _ hown
 have cS:=AnyZI.sorted_in sortedA Fence.wide 5 trivial trivial trivial trivial rfl (by omega) (sortsA _) (enters_of Tryz.func81 (by kernel_rfl) rfl) f #[.pointer (some ⟨b,0,none⟩)] trivial he _ _ (by rw [hsize];exact Nat.le_trans hsz (by decide)) (by rw [hsize];omega) w hseq
 refine ((callsIn_wide (n:=5)).1 cS).mono ?_
 rintro e w' ⟨v,ss,rfl,hS,hrow,hnil,hbe⟩
 refine ⟨v,ss,rfl,hS.trans ?_,hrow,hnil,hbe⟩
 show (List.map _ _).Perm _
 refine ((WideShapes.sorted_perm _).map _).trans ?_
 rw [List.map_map]
 refine List.Perm.of_eq (List.map_congr_left fun e he=>?_)
 obtain ⟨k,h1,h2⟩:=hrd e he
 show Go.intOf (rg _ _ _ e).1=_
 rw [rg_of h2,h1]
 rfl
theorem sorD {w:World} {b r:Nat} {es:Array MapEntry} {cl:Nat} (hb:w.cell? ⟨b,0,none⟩=some (.map (some r))) (hr:w.heap[r]?=some (.map es cl)) (hst:MapKept.Stamped es cl) (hk:∀ e ∈ es.toList,∃ k:Int,e.key=.int .i64 k∧-9223372036854775808 ≤ k∧k ≤ 9223372036854775807) (hsz:es.size ≤ 512):
  Calls Tryz.prog 55 #[.func (.func 82) #[] #[.pointer (some ⟨b,0,none⟩)]] w fun e w'=>∃ (v:Value) (ss:List Int),e=.returned v∧ss.Perm (es.toList.map fun e=>intOf e.key)∧
   w'.ownsRow w.heap.size 3 1 v ss.length ((ss.mergeSort leI').map encZ)∧(v=.slice none 0 0 ↔ ss=[])∧Below w.heap.size w w':=
 sor_of hr hst hk hsz (fun _ ho=>AnyZI.keys_gives (ρ:=keysD_ren) { keysD with } Fence.wide _ trivial rfl (by omega) b r es.size _ w (cell_some_lt hb) hb ho) (enters_of Tryz.func82 (by kernel_rfl) rfl)
theorem sorB {w:World} {b r:Nat} {es:Array MapEntry} {cl:Nat} (hb:w.cell? ⟨b,0,none⟩=some (.map (some r))) (hr:w.heap[r]?=some (.map es cl)) (hst:MapKept.Stamped es cl) (hk:∀ e ∈ es.toList,∃ k:Int,e.key=.int .i64 k∧-9223372036854775808 ≤ k∧k ≤ 9223372036854775807) (hsz:es.size ≤ 512):
  Calls Tryz.prog 55 #[.func (.func 87) #[] #[.pointer (some ⟨b,0,none⟩)]] w fun e w'=>∃ (v:Value) (ss:List Int),e=.returned v∧ss.Perm (es.toList.map fun e=>intOf e.key)∧
   w'.ownsRow w.heap.size 3 1 v ss.length ((ss.mergeSort leI').map encZ)∧(v=.slice none 0 0 ↔ ss=[])∧Below w.heap.size w w':=
 sor_of hr hst hk hsz (fun _ ho=>AnyZI.keys_gives (ρ:=keysB_ren) { keysB with } Fence.wide _ trivial rfl (by omega) b r es.size _ w (cell_some_lt hb) hb ho) (enters_of Tryz.func87 (by kernel_rfl) rfl)
end Go.Proofs.YtjkfondgacjpnaaGreatDoor

namespace Go.Proofs.YtjkfondgacjpnaaGreatDoor
open Go.RowKit
set_option maxRecDepth 100000
attribute [local go_sem ↓] rowOf_cell
theorem keys_perm {es:Array MapEntry} {M:List (Int × En)} (h:Sx.MapIs (prs es) (encA En.pt M)):(es.toList.map fun e=>intOf e.key).Perm (M.map (·.1)):=by
 have h1:=h.1.map (fun p=>intOf p.1)
 simp only [prs,encA,List.map_map] at h1
 exact h1
theorem Ids_any {w:World} {bk mb:Nat} {M:List (Int × En)} (h:BookAt w bk mb M) (hl:M.length ≤ 16) (hi:∀ p ∈ M,I64 p.1):Calls Tryz.prog 33 #[.pointer (some ⟨bk,0,none⟩)] w fun e w'=>∃ v ss,e=.returned v∧ss.Perm (M.map (·.1))∧w'.ownsRow w.heap.size 3 1 v ss.length ((ss.mergeSort leI').map encZ)∧(v=.slice none 0 0 ↔ ss=[])∧Below w.heap.size w w':=by
 have r0:=rowOf_of h.ob
 obtain ⟨es,c,e1,e2,e3⟩:=h.mp
 have hsz:es.size ≤ 16:=by
  have:=e2.1.length_eq
  simp [encA,prs] at this
  omega
 have hb0:=(Array.getElem?_eq_some_iff.1 e1).1
 have hb:Below w.heap.size w (w.alloc (.cells #[.map (some mb)] 142)):=(Below.refl _ w).alloc (Nat.le_refl _) _
 have hk:∀ e ∈ es.toList,∃ k:Int,e.key=.int .i64 k∧-9223372036854775808 ≤ k∧k ≤ 9223372036854775807:=fun e he=>by
  have hm:(e.key,e.val) ∈ encA En.pt M:=e2.1.mem_iff.1 (List.mem_map.2 ⟨e,he,rfl⟩)
  obtain ⟨q,hq,e⟩:=List.mem_map.1 hm
  have:=hi q hq
  unfold I64 at this
  exact ⟨q.1,(congrArg Prod.fst e).symm,by omega,by omega⟩
 have K:=Lib.hid (sorB (w:=w.alloc (.cells #[.map (some mb)] 142)) (b:=w.heap.size) (by rw [rowOf_cell,rowOf_of (heap_alloc_new w _)];rfl) ((hb.block mb hb0).trans e1) e3 hk (by omega))
 have KP:=Lib.hid (keys_perm e2)
 have HB:=Lib.hid hb
 clear e1 e2 e3 hk hb hb0 hsz h hi
 go_enter Tryz.func33,Tryz.ntmps33
 go_wp2_with (first
  | (go_at_call 59;refine (keysB_calls _ _).mono ?_;rintro _ _ ⟨rfl,rfl⟩)
  | (go_at_call 55;refine K.out.mono ?_;rintro _ W ⟨v,ss,rfl,hp,ho,hn,hb⟩;have HC:=Lib.hid (HB.out.trans (hb.mono HB.out.size));have HO:=Lib.hid (And.intro hp (And.intro ho hn));clear hb hp ho hn))
 go_ret
 exact ⟨_,ss,rfl,HO.out.1.trans KP.out,own_base HO.out.2.1 HB.out.size,HO.out.2.2,HC.out⟩
end Go.Proofs.YtjkfondgacjpnaaGreatDoor
