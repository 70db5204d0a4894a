/- What is proved: parts of the walk and of the plain law. No condition but those each law names. -/
import Derived.Test.YthjgiamfaijoeaaGreatDoorD27
import Derived.Shelf.SlIterI.Nil
import Derived.Shelf.SortM.Plain
import Derived.Shelf.SortM.SortNone
import Derived.Test.YthjgiamfaijoeaaGreatDoorProg
import Derived.Test.YthjgiamfaijoeaaGreatDoorD02
import Derived.Test.YthjgiamfaijoeaaGreatDoorD26
import Derived.Test.YthjgiamfaijoeaaGreatDoorD00
set_option linter.unusedSimpArgs false
set_option linter.unusedVariables false
set_option maxRecDepth 100000
namespace Go.Proofs.YthjgiamfaijoeaaGreatDoor
section
open Go.RowKit
attribute [local go_sem ↓] zad
attribute [local go_sem] zaf zai zaj zal zab zah zac zak zae
def rc0 (k i:Int):Rc:=⟨k,i,Dl.zero,Hs.zero,0,0,Tv.zero⟩
theorem rc0_k (k i:Int):(rc0 k i).k=k:=rfl
theorem rc0_i (k i:Int):(rc0 k i).i=i:=rfl
attribute [local go_sem] rc0_k rc0_i
def rp1 (d:Dl):Rc:=⟨1,d.i,⟨d.i,d.r,Lg.zero,Lg.zero,Hs.zero,0⟩,Hs.zero,0,0,Tv.zero⟩
def rp2 (d:Dl):Rc:=⟨1,d.i,⟨d.i,d.r,d.p,Lg.zero,Hs.zero,0⟩,Hs.zero,0,0,Tv.zero⟩
def rp3 (d:Dl):Rc:=⟨1,d.i,⟨d.i,d.r,d.p,d.g,Hs.zero,0⟩,Hs.zero,0,0,Tv.zero⟩
def rp4 (d:Dl):Rc:=⟨1,d.i,⟨d.i,d.r,d.p,d.g,d.h,0⟩,Hs.zero,0,0,Tv.zero⟩
def zrs (d:Dl):List Nat:=intI d.r ++ (legI d.p ++ (legI d.g ++ (d.h.l ++ intI d.q)))
theorem zack (d:Dl):putD d=intI 1 ++ (intI d.i ++ zrs d):=by unfold putD zrs zbh zh9 legI;simp [List.append_assoc]
theorem zacl (i:Int) (h:Hs):putS i h=intI 2 ++ (intI i ++ h.l):=by unfold putS zbh;simp [List.append_assoc]
theorem zmf {d:Dl} (h:za5 d=true):LgIn d.p∧LgIn d.g∧(1 ≤ d.i∧d.i ≤ 1073741824)∧(1 ≤ d.r∧d.r ≤ 2)∧(1 ≤ d.q∧d.q ≤ 32):=by
 unfold za5 zi5 at h
 simp only [Bool.and_eq_true] at h
 obtain ⟨h1,h2,⟨h3,h4,h5⟩,⟨h6,h7,h8⟩,_,h9⟩:=h
 exact ⟨⟨of_decide_eq_true h3,of_decide_eq_true h4,of_decide_eq_true h5⟩,⟨of_decide_eq_true h6,of_decide_eq_true h7,of_decide_eq_true h8⟩,of_decide_eq_true h1,of_decide_eq_true h2,of_decide_eq_true h9⟩
set_option maxHeartbeats 4000000 in
theorem rest_D {w:World} {p b:Nat} {d:Dl} (hd:za5 d=true) (hs:Rs (zrs d,0)) (h:RR w p b w (zrs d,0) (rc0 1 d.i)):
  Calls Tryz.prog 184 #[.pointer (some ⟨p,0,none⟩),.pointer (some ⟨b,0,none⟩)] w fun e w'=>e=.returned (.slice none 0 0)∧RR w p b w' ([],0) (rcD d):=by
 obtain ⟨lp,lg,li,lr,lq⟩:=zmf hd
 have HS:=zadv hs
 have HL:=zadv (zadx lp (zadx lg (zadx lr lq)))
 have H:=zadv h
 have r0:=zaa h.row
 have s0:=zan h.row
 have hc0:(rc0 1 d.i).cells[0]?=some (.int .i64 1):=rfl
 have hc1:(rc0 1 d.i).cells[1]?=some (.int .i64 d.i):=rfl
 have e1:(rc0 1 d.i).cells.setIfInBounds 2 (.int .i64 d.i)=Rc.cells { rc0 1 d.i with d:={ Dl.zero with i:=d.i } }:=rfl
 have E1:=zadv e1
 clear hs h lp lg li lr lq e1 hd
 go_enter Tryz.func184,Tryz.ntmps184
 go_upto_region 5 with (fail)
 have a1:=H.out.set E1.out
 generalize w.setCell ⟨b,2,none⟩ (.int .i64 d.i)=V0 at a1 ⊢
 have K1:=zadv (zd0 (x:=d.r) (r:=legI d.p ++ (legI d.g ++ (d.h.l ++ intI d.q))) a1.fm (Nat.pos_iff_ne_zero.1 a1.pos.1) (by have:=HL.out;omega) (by have:=HL.out;omega) HS.out a1.rd)
 have A1:=zadv a1
 clear a1 r0 s0 hc0 hc1 H E1
 go_wp2_with fail
 refine K1.out.mono ?_
 rintro _ W1 ⟨rfl,hb,hr⟩
 have a1:=A1.out.read hb hr
 have r1:=zaa a1.row
 have s1:=zan a1.row
 have A2:=zadv (show RR w p b (W1.setCell ⟨b,3,none⟩ (.int .i64 d.r)) _ (rp1 d) from a1.set rfl)
 clear a1 K1 A1 hb hr
 go_upto_region 6 with (fail)
 generalize W1.setCell ⟨b,3,none⟩ (.int .i64 d.r)=V1 at A2 ⊢
 have K2:=zadv (zpu (l:=d.p) (r:=legI d.g ++ (d.h.l ++ intI d.q)) A2.out.fm A2.out.pos.1 HL.out.1 HS.out.tail A2.out.rd (Nat.le_of_lt (zadu A2.out.row).1))
 clear r1 s1
 go_wp2_with fail
 refine K2.out.mono ?_
 rintro _ W2 ⟨rfl,hb,hr⟩
 have a1:=A2.out.read hb hr
 have r1:=zaa a1.row
 have s1:=zan a1.row
 have A3:=zadv (show RR w p b (W2.setRow b (over (Rc.cells (rp1 d)) 4 d.p.cells.toList)) _ (rp2 d) from a1.over (zacg _ _))
 have z1:=zec (rp1 d)
 have z2:=ztj d.p
 have z3:=zaa5 d.p
 clear a1 K2 A2 hb hr
 go_upto_region 7 with (fail)
 generalize W2.setRow b _=V2 at A3 ⊢
 have K3:=zadv (zpu (l:=d.g) (r:=d.h.l ++ intI d.q) A3.out.fm A3.out.pos.1 HL.out.2.1 HS.out.tail.tail A3.out.rd (Nat.le_of_lt (zadu A3.out.row).1))
 clear r1 s1 z1 z2 z3
 go_wp2_with fail
 refine K3.out.mono ?_
 rintro _ W3 ⟨rfl,hb,hr⟩
 have a1:=A3.out.read hb hr
 have r1:=zaa a1.row
 have s1:=zan a1.row
 have A4:=zadv (show RR w p b (W3.setRow b (over (Rc.cells (rp2 d)) 7 d.g.cells.toList)) _ (rp3 d) from a1.over (zach _ _))
 have z1:=zec (rp2 d)
 have z2:=ztj d.g
 have z3:=zaa5 d.g
 clear a1 K3 A3 hb hr
 go_upto_region 8 with (fail)
 generalize W3.setRow b _=V3 at A4 ⊢
 have K4:=zadv (zme (h:=d.h) (r:=intI d.q) A4.out.rd (Nat.le_of_lt (zadu A4.out.row).1))
 clear r1 s1 z1 z2 z3
 go_wp2_with fail
 refine K4.out.mono ?_
 rintro _ W4 ⟨rfl,hb,hr⟩
 have a1:=A4.out.read hb hr
 have r1:=zaa a1.row
 have s1:=zan a1.row
 have A5:=zadv (show RR w p b (W4.setRow b (over (Rc.cells (rp3 d)) 10 d.h.cells.toList)) (intI d.q ++ [],0) (rp4 d) from by rw [List.append_nil];exact a1.over (zaci _ _))
 have z1:=zec (rp3 d)
 have z2:=zdl d.h
 have z3:=zaa4 d.h
 clear a1 K4 A4 hb hr
 go_upto_region 9 with (fail)
 generalize W4.setRow b _=V4 at A5 ⊢
 have K5:=zadv (zd0 (x:=d.q) (r:=[]) A5.out.fm (Nat.pos_iff_ne_zero.1 A5.out.pos.1) (by have:=HL.out;omega) (by have:=HL.out;omega) (by rw [List.append_nil];exact HS.out.tail.tail.tail.tail) A5.out.rd)
 clear r1 s1 z1 z2 z3
 go_wp2_with fail
 refine K5.out.mono ?_
 rintro _ W5 ⟨rfl,hb,hr⟩
 have a1:=A5.out.read hb hr
 have r1:=zaa a1.row
 have s1:=zan a1.row
 have A6:=zadv (show RR w p b (W5.setCell ⟨b,42,none⟩ (.int .i64 d.q)) _ (rcD d) from a1.set (zacf _ _))
 clear a1 K5 A5 hb hr
 go_wp2
 go_ret
 exact ⟨rfl,A6.out⟩
set_option maxHeartbeats 2000000 in
theorem rest_S {w:World} {p b:Nat} {i:Int} {h:Hs} (hR:RR w p b w (h.l,0) (rc0 2 i)):
  Calls Tryz.prog 184 #[.pointer (some ⟨p,0,none⟩),.pointer (some ⟨b,0,none⟩)] w fun e w'=>e=.returned (.slice none 0 0)∧RR w p b w' ([],0) (rcS i h):=by
 have H:=zadv hR
 have r0:=zaa hR.row
 have s0:=zan hR.row
 have hc0:(rc0 2 i).cells[0]?=some (.int .i64 2):=rfl
 have K:=zadv (zme (h:=h) (r:=[]) (by rw [List.append_nil];exact hR.rd) (Nat.le_of_lt (zadu hR.row).1))
 clear hR
 go_enter Tryz.func184,Tryz.ntmps184
 go_wp2_with fail
 refine K.out.mono ?_
 rintro _ W1 ⟨rfl,hb,hr⟩
 have a1:=H.out.read hb hr
 have r1:=zaa a1.row
 have s1:=zan a1.row
 have A6:=zadv (show RR w p b (W1.setRow b (over (Rc.cells (rc0 2 i)) 43 h.cells.toList)) _ (rcS i h) from a1.over (zacj _ _))
 have z1:=zec (rc0 2 i)
 have z2:=zdl h
 have z3:=zaa4 h
 clear a1 K hb hr r0 s0 hc0 H
 go_wp2
 go_ret
 exact ⟨rfl,A6.out⟩
def ItOk:It→Prop
 | .dl d=>za5 d=true∧Small d.h.l
 | .se i s=>wi i 1 1073741824=true∧Small s.l
theorem Adds.ok {B B':List (Int × Sw)} {a:It} (h:Adds B a B'):ItOk a:=by
 cases h with
 | dl h1 h2=>exact ⟨h1,h2⟩
 | se h1 h2=>exact ⟨h1,h2⟩
theorem br1 (w:World) (a:Int):(Instr.build 162 #[(0,.int .i64 a)]).run Tryz.prog w=.ok (.agg (rc0 a 0).cells) w:=by kernel_rfl
theorem ebr1 (w:World) (ρ:Operand→Value) (dst:Option Tmp) (ty:TypeId) (pos:String) (af:Array Edge) (gd:Option (Nat × Bool)) (x:Operand) (hx:ρ x=.int .i64 (iv (ρ x))):(execOp ρ ⟨dst,.build 162 #[(0,x)],ty,pos,af,gd⟩).run Tryz.prog w=.ok (.value (.agg (rc0 (iv (ρ x)) 0).cells)) w:=by
 have h:=br1 w (iv (ρ x))
 rw [← hx] at h
 unfold execOp
 simp only [Sem.run_bind,Sem.run_pure,List.map_toArray,List.map_cons,List.map_nil,h,Result.andThen_ok]
attribute [local go_sem ↓] ebr1
set_option maxHeartbeats 4000000 in
theorem zpv {w:World} {ao:Option Addr} {n c:Nat} {kk ii:Int} {tl:List Nat} {r:Rc} (hf:Forms w) (hl:Sl w ao n c (bts (intI kk ++ (intI ii ++ tl)))) (hs:Rs (intI kk ++ (intI ii ++ tl),0)) (hn:n ≤ 400) (hk:1 ≤ kk∧kk ≤ 4) (hi:1 ≤ ii∧ii ≤ 1073741824)
  (hrest:∀ w p b,RR w p b w (tl,0) (rc0 kk ii)→Calls Tryz.prog 184 #[.pointer (some ⟨p,0,none⟩),.pointer (some ⟨b,0,none⟩)] w fun e w'=>e=.returned (.slice none 0 0)∧RR w p b w' ([],0) r)
  (hchk:∀ w,Calls Tryz.prog 186 #[.agg r.cells] w fun e w'=>e=.returned (.int .i64 0)∧Below w.heap.size w w'):
  Calls Tryz.prog 113 #[.slice ao n c] w fun e w'=>e=.returned (.tuple #[.agg r.cells,.int .i64 0])∧Below w.heap.size w w':=by
 have HF:=zadv hf
 have HL:=zadv hl
 have HS:=zadv hs
 have HK:=zadv (zadx hk hi)
 have HR:=zadv hrest
 have HC:=zadv hchk
 have n4:((n:Int) > 400)=False:=eq_false (by omega)
 have HN:=zadv hn
 clear hf hl hs hk hi hrest hchk hn
 go_enter Tryz.func113,Tryz.ntmps113
 go_upto_region 1 with (fail)
 have bx:=Bx.new w (Rc.zero.cells) 162;generalize w.alloc (.cells (Rc.zero.cells) 162)=W at bx ⊢;have rx:=bx.rowOf;have sx:=bx.soft;have BX:=zadv bx;clear bx
 have RA:=zadv (zpf (HL.out.keep (zadw _) BX.out.below) (by have:=HN.out;omega))
 go_wp2_with fail
 refine RA.out.mono ?_
 rintro _ w1 ⟨p,a1,c1,rfl,hp1,hb1,hr1,hs1⟩
 have hrd1:RdB w1.heap.size w1 p (intI kk ++ (intI ii ++ tl),0):=Rd.b ⟨a1,n,c1,hr1,hs1⟩
 have bx1:=BX.out.step hb1
 have hpw:w.heap.size < p:=by have:=(zadu BX.out.row).1;omega
 have R1:=zadv (zd0 (HF.out.keep (zadw _) bx1.below) (by omega:p ≠ 0) (by have:=HK.out;omega) (by have:=HK.out;omega) HS.out hrd1)
 have BX1:=zadv bx1
 clear BX rx sx hb1 hr1 hs1 hrd1 bx1 RA hp1
 go_wp2_with fail
 refine R1.out.mono ?_
 rintro _ w2 ⟨rfl,hb2,hr2⟩
 have B2:=zadv (BX1.out.below.trans (hb2.to BX1.out.below.size (by omega)))
 have X2:=zadv ((hb2.block w.heap.size (zadu BX1.out.row).1 (by omega)).trans BX1.out.row)
 have Z2:=hb2.size
 have HR2:=zadv (hr2.mono Z2)
 have PL:=hr2.rd.lt
 clear hb2 hr2 R1 BX1
 go_upto_region 3 with (fail)
 have dx:=Bx.made w2 Rc.zero.cells (rc0 kk 0).cells 162
 change Code.wp _ _ _ _ ((w2.alloc (.cells Rc.zero.cells 162)).setRow w2.heap.size (rc0 kk 0).cells)
 generalize (w2.alloc (.cells Rc.zero.cells 162)).setRow w2.heap.size (rc0 kk 0).cells=V at dx ⊢
 have hw2:w.heap.size < w2.heap.size:=(zadu X2.out).1
 have B3:=zadv (B2.out.trans (dx.below.mono B2.out.size))
 have X3:=zadv ((dx.below.block w.heap.size hw2).trans X2.out)
 have a0:RR V p w2.heap.size V (intI ii ++ tl,0) (rc0 kk 0):=⟨HR2.out.keep (zadw _) dx.below,dx.row,HF.out.keep (zadw _) B3.out,But2.refl _ _ _,by omega⟩
 have LW:=zadv (zadx hpw hw2)
 generalize w2.heap.size=b at *
 have K1:=zadv (zd0 (x:=ii) (r:=tl) a0.fm (Nat.pos_iff_ne_zero.1 a0.pos.1) (by have:=HK.out;omega) (by have:=HK.out;omega) HS.out.tail a0.rd)
 have A0:=zadv a0
 clear a0 dx B2 X2 HR2 Z2 PL hpw hw2
 go_wp2_with fail
 refine K1.out.mono ?_
 rintro _ W1 ⟨rfl,hb,hr⟩
 have a1:=A0.out.read hb hr
 have r1:=zaa a1.row
 have s1:=zan a1.row
 have A1:=zadv (show RR V p b (W1.setCell ⟨b,1,none⟩ (.int .i64 ii)) (tl,0) (rc0 kk ii) from a1.set rfl)
 have z0:=zec (rc0 kk 0)
 clear a1 K1 A0 hb hr
 go_upto_region 4 with (fail)
 generalize W1.setCell ⟨b,1,none⟩ (.int .i64 ii)=V1 at A1 ⊢
 have KB:Calls Tryz.prog 161 #[.pointer (some ⟨p,0,none⟩)] V1 fun e w'=>e=.returned (.bool false)∧w'=V1:=zfq A1.out.rd.rd
 have KB:=zadv KB
 clear r1 s1 z0
 go_wp2_with fail
 refine KB.out.mono ?_
 rintro _ V2 ⟨rfl,rfl⟩
 have r1:=zaa A1.out.row
 have c0:(rc0 kk ii).cells[0]?=some (.int .i64 kk):=rfl
 have KW:=zadv (za1 (n:=kk) (a:=1) (b:=4) (t:=true) (decide_eq_true HK.out.1) V2)
 have KR:=zadv (HR.out V2 p b ⟨A1.out.rd,A1.out.row,A1.out.fm,But2.refl _ _ _,A1.out.pos⟩)
 clear KB
 go_wp2_with fail
 refine KW.out.mono ?_
 rintro _ V3 ⟨rfl,rfl⟩
 clear KW r1 c0
 go_wp2_with fail
 refine KR.out.mono ?_
 rintro _ V4 ⟨rfl,a2⟩
 have b2:=A1.out.but.trans a2.but
 have X4:=zadv (((b2 (w.heap.size + 1) LW.out.1 LW.out.2 (Nat.lt_of_lt_of_le (zadu X3.out).1 (zadw _))).block w.heap.size (Nat.lt_succ_self _)).trans X3.out)
 have B4:=zadv (B3.out.trans (b2 w.heap.size (Nat.le_of_lt LW.out.1) (Nat.le_of_lt LW.out.2) B3.out.size))
 have A2:=zadv a2
 have KE:Calls Tryz.prog 162 #[.pointer (some ⟨p,0,none⟩)] V4 fun e w'=>e=.returned (.int .i64 0)∧w'=V4:=zkj a2.rd.rd
 have KE:=zadv KE
 clear KR a2 b2 A1 X3 B3
 go_wp2_with fail
 refine KE.out.mono ?_
 rintro _ V5 ⟨rfl,rfl⟩
 have r1:=zaa A2.out.row
 have z1:=zec r
 have z2:=zke r
 have KC:=zadv (HC.out V5)
 clear KE
 go_wp2_with fail
 refine KC.out.mono ?_
 rintro _ V6 ⟨rfl,hb⟩
 have X5:=(hb.block w.heap.size (zadu X4.out).1).trans X4.out
 have B5:=zadv (B4.out.trans (hb.mono B4.out.size))
 have r1:=zaa ((hb.block b (zadu A2.out.row).1).trans A2.out.row)
 have r2:=zaa X5
 have s2:=zan X5
 have z3:=r_one r
 have z4:=zec Rc.zero
 have HX:=zadv X5
 clear KC hb X5 X4 B4 A2
 go_wp2
 have hc:rowOf (V6.setRow w.heap.size r.cells) w.heap.size=r.cells:=by rw [zab _ _ _ _ (zan HX.out),if_pos rfl]
 refine bodyPost_ret (zaq (t:=162) rfl Tryz.underlying162 rfl (by kernel_rfl) _ _ w.heap.size rfl hc (zec _)) rfl ?_
 exact ⟨rfl,Below.setRow_ B5.out (zadw _) _⟩
theorem zacm {w:World} {ao:Option Addr} {n c:Nat} {a:It} (ha:ItOk a) (hf:Forms w) (hl:Sl w ao n c (bts a.row.2)):
  Calls Tryz.prog 113 #[.slice ao n c] w fun e w'=>e=.returned (.tuple #[.agg a.rc.cells,.int .i64 0])∧Below w.heap.size w w':=by
 have hln:a.row.2.length=n:=by have:=hl.len;rwa [zam] at this
 cases a with
 | dl d=>
  obtain ⟨h1,h2⟩:=ha
  have hl:Sl w ao n c (bts (putD d)):=hl
  have hln:(putD d).length=n:=hln
  have hlen:=zg7 d
  have hsm:Small (putD d):=(zus h2).2.2.2
  have hi:=(zmf h1).2.2.1
  rw [zack] at hl hln hlen hsm
  have hs:Rs (intI 1 ++ (intI d.i ++ zrs d),0):=⟨hsm,by show (intI 1 ++ (intI d.i ++ zrs d)).length < _;omega⟩
  exact zpv (r:=rcD d) hf hl hs (by omega) (by decide) hi (fun w p b h=>rest_D h1 hs.tail.tail h) (fun w=>zkg h1 w)
 | se i s=>
  obtain ⟨h1,h2⟩:=ha
  have hl:Sl w ao n c (bts (putS i s)):=hl
  have hln:(putS i s).length=n:=hln
  have hlen:=zg8 i s
  have hsm:Small (putS i s):=(zut h2).2.2.2
  have hi:1 ≤ i∧i ≤ 1073741824:=of_decide_eq_true h1
  rw [zacl] at hl hln hlen hsm
  have hs:Rs (intI 2 ++ (intI i ++ s.l),0):=⟨hsm,by show (intI 2 ++ (intI i ++ s.l)).length < _;omega⟩
  exact zpv (r:=rcS i s) hf hl hs (by omega) (by decide) hi (fun w p b h=>rest_S h) (fun w=>zkh h1 w)
end
section
open Go.Shelf Go.RowKit Go.Maps Go.Sort
def zmg:Go.Shelf.Ren:=⟨fun | 7=>96 | 10=>154 | n=>n,fun | 23=>133 | 26=>3 | 3=>185 | 28=>182 | 0=>0 | 27=>181 | 33=>47 | 4=>4 | n=>n,fun | n=>n⟩
theorem keysD:Go.Proofs.SlLaysZI.n7 Tryz.prog zmg:={
 mixed:=by kernel_rfl
 f7:=⟨Tryz.f96.name,by decide,Tryz.func96.trans (congrArg some (by kernel_rfl))⟩
 f10:=⟨Tryz.f154.name,by decide,Tryz.func154.trans (congrArg some (by kernel_rfl))⟩
 t0:=Tryz.underlying0
 a0:=Tryz.isAgg0
 z0:=Tryz.sizeOf0
 v0:=Tryz.zeroValue0
 t4:=Tryz.underlying4
 a4:=Tryz.isAgg4
 z4:=Tryz.sizeOf4
 v4:=Tryz.zeroValue4
 t23:=Tryz.underlying133
 a23:=Tryz.isAgg133
 z23:=Tryz.sizeOf133
 v23:=Tryz.zeroValue133
 t26:=Tryz.underlying3
 a26:=Tryz.isAgg3
 z26:=Tryz.sizeOf3
 v26:=Tryz.zeroValue3
 t27:=Tryz.underlying181
 a27:=Tryz.isAgg181
 z27:=Tryz.sizeOf181
 v27:=Tryz.zeroValue181
 t28:=Tryz.underlying182
 a28:=Tryz.isAgg182
 z28:=Tryz.sizeOf182
 v28:=Tryz.zeroValue182
 t33:=Tryz.underlying47
 a33:=Tryz.isAgg47
 z33:=Tryz.sizeOf47
 v33:=Tryz.zeroValue47 }
def zmh:Go.Shelf.Ren:=⟨fun | 7=>99 | 10=>155 | n=>n,fun | 23=>192 | 26=>3 | 3=>193 | 28=>182 | 0=>0 | 27=>181 | 33=>47 | 4=>4 | n=>n,fun | n=>n⟩
theorem keysB:Go.Proofs.SlLaysZI.n7 Tryz.prog zmh:={
 mixed:=by kernel_rfl
 f7:=⟨Tryz.f99.name,by decide,Tryz.func99.trans (congrArg some (by kernel_rfl))⟩
 f10:=⟨Tryz.f155.name,by decide,Tryz.func155.trans (congrArg some (by kernel_rfl))⟩
 t0:=Tryz.underlying0
 a0:=Tryz.isAgg0
 z0:=Tryz.sizeOf0
 v0:=Tryz.zeroValue0
 t4:=Tryz.underlying4
 a4:=Tryz.isAgg4
 z4:=Tryz.sizeOf4
 v4:=Tryz.zeroValue4
 t23:=Tryz.underlying192
 a23:=Tryz.isAgg192
 z23:=Tryz.sizeOf192
 v23:=Tryz.zeroValue192
 t26:=Tryz.underlying3
 a26:=Tryz.isAgg3
 z26:=Tryz.sizeOf3
 v26:=Tryz.zeroValue3
 t27:=Tryz.underlying181
 a27:=Tryz.isAgg181
 z27:=Tryz.sizeOf181
 v27:=Tryz.zeroValue181
 t28:=Tryz.underlying182
 a28:=Tryz.isAgg182
 z28:=Tryz.sizeOf182
 v28:=Tryz.zeroValue182
 t33:=Tryz.underlying47
 a33:=Tryz.isAgg47
 z33:=Tryz.sizeOf47
 v33:=Tryz.zeroValue47 }
def zin:Go.Shelf.Ren:=⟨fun | 6=>95 | 8=>152 | 9=>153 | 11=>217 | 13=>219 | 12=>218 | 23=>293 | 24=>294 | 14=>284 | 15=>285 | 16=>286 | 17=>287 | 18=>288 | 19=>289 | 20=>290 | 21=>291 | 22=>292 | 25=>351 | 26=>352 | 27=>353 | 28=>354 | 29=>355 | 30=>356 | 31=>379 | n=>n,fun | 26=>3 | 28=>182 | 24=>31 | 0=>0 | 3=>3 | 37=>297 | 48=>309 | 50=>283 | 4=>4 | 40=>353 | 39=>352 | 45=>357 | 5=>5 | 9=>9 | 51=>404 | 55=>130 | 57=>424 | 58=>65 | 33=>47 | n=>n,fun | n=>n⟩
theorem zacn:Go.Proofs.SlLaysZI.n6 Tryz.prog zin:={
 mixed:=by kernel_rfl
 f6:=⟨Tryz.f95.name,by decide,Tryz.func95.trans (congrArg some (by kernel_rfl))⟩
 f8:=⟨Tryz.f152.name,by decide,Tryz.func152.trans (congrArg some (by kernel_rfl))⟩
 f11:=⟨Tryz.f217.name,by decide,Tryz.func217.trans (congrArg some (by kernel_rfl))⟩
 t0:=Tryz.underlying0
 a0:=Tryz.isAgg0
 z0:=Tryz.sizeOf0
 v0:=Tryz.zeroValue0
 t24:=Tryz.underlying31
 a24:=Tryz.isAgg31
 z24:=Tryz.sizeOf31
 v24:=Tryz.zeroValue31
 t26:=Tryz.underlying3
 a26:=Tryz.isAgg3
 z26:=Tryz.sizeOf3
 v26:=Tryz.zeroValue3
 t28:=Tryz.underlying182
 a28:=Tryz.isAgg182
 z28:=Tryz.sizeOf182
 v28:=Tryz.zeroValue182
 i26:=by kernel_rfl }
def zu0:Go.Shelf.Ren:=⟨fun | 5=>153 | 8=>219 | 7=>218 | 19=>293 | 20=>294 | 10=>284 | 11=>285 | 12=>286 | 13=>287 | 14=>288 | 15=>289 | 16=>290 | 17=>291 | 18=>292 | 30=>351 | 31=>352 | 32=>353 | 33=>354 | 34=>355 | 35=>356 | 40=>379 | n=>n,fun | 23=>31 | 25=>3 | 3=>3 | 32=>297 | 22=>31 | 0=>0 | 44=>309 | 46=>283 | 4=>4 | 36=>353 | 35=>352 | 41=>357 | 5=>5 | 9=>9 | 53=>404 | 57=>130 | 63=>424 | 64=>65 | n=>n,fun | n=>n⟩
theorem sortA:Go.Proofs.SlLaysM.n5 Tryz.prog zu0:={
 mixed:=by kernel_rfl
 f5:=⟨Tryz.f153.name,by decide,Tryz.func153.trans (congrArg some (by kernel_rfl))⟩
 f7:=⟨Tryz.f218.name,by decide,Tryz.func218.trans (congrArg some (by kernel_rfl))⟩
 f8:=Tryz.func219.trans (congrArg some (by kernel_rfl))
 f10:=⟨Tryz.f284.name,by decide,Tryz.func284.trans (congrArg some (by kernel_rfl))⟩
 f11:=⟨Tryz.f285.name,by decide,Tryz.func285.trans (congrArg some (by kernel_rfl))⟩
 f12:=⟨Tryz.f286.name,by decide,Tryz.func286.trans (congrArg some (by kernel_rfl))⟩
 f13:=⟨Tryz.f287.name,by decide,Tryz.func287.trans (congrArg some (by kernel_rfl))⟩
 f14:=⟨Tryz.f288.name,by decide,Tryz.func288.trans (congrArg some (by kernel_rfl))⟩
 f15:=⟨Tryz.f289.name,by decide,Tryz.func289.trans (congrArg some (by kernel_rfl))⟩
 f16:=⟨Tryz.f290.name,by decide,Tryz.func290.trans (congrArg some (by kernel_rfl))⟩
 f17:=⟨Tryz.f291.name,by decide,Tryz.func291.trans (congrArg some (by kernel_rfl))⟩
 f18:=⟨Tryz.f292.name,by decide,Tryz.func292.trans (congrArg some (by kernel_rfl))⟩
 f19:=Tryz.func293.trans (congrArg some (by kernel_rfl))
 f20:=Tryz.func294.trans (congrArg some (by kernel_rfl))
 f30:=⟨Tryz.f351.name,by decide,Tryz.func351.trans (congrArg some (by kernel_rfl))⟩
 f31:=Tryz.func352.trans (congrArg some (by kernel_rfl))
 f32:=Tryz.func353.trans (congrArg some (by kernel_rfl))
 f33:=⟨Tryz.f354.name,by decide,Tryz.func354.trans (congrArg some (by kernel_rfl))⟩
 f34:=⟨Tryz.f355.name,by decide,Tryz.func355.trans (congrArg some (by kernel_rfl))⟩
 f35:=⟨Tryz.f356.name,by decide,Tryz.func356.trans (congrArg some (by kernel_rfl))⟩
 f40:=⟨Tryz.f379.name,by decide,Tryz.func379.trans (congrArg some (by kernel_rfl))⟩
 t0:=Tryz.underlying0
 a0:=Tryz.isAgg0
 z0:=Tryz.sizeOf0
 v0:=Tryz.zeroValue0
 t3:=Tryz.underlying3
 a3:=Tryz.isAgg3
 z3:=Tryz.sizeOf3
 v3:=Tryz.zeroValue3
 t4:=Tryz.underlying4
 a4:=Tryz.isAgg4
 z4:=Tryz.sizeOf4
 v4:=Tryz.zeroValue4
 t5:=Tryz.underlying5
 a5:=Tryz.isAgg5
 z5:=Tryz.sizeOf5
 v5:=Tryz.zeroValue5
 t9:=Tryz.underlying9
 a9:=Tryz.isAgg9
 z9:=Tryz.sizeOf9
 v9:=Tryz.zeroValue9
 t22:=Tryz.underlying31
 a22:=Tryz.isAgg31
 z22:=Tryz.sizeOf31
 v22:=Tryz.zeroValue31
 t23:=Tryz.underlying31
 a23:=Tryz.isAgg31
 z23:=Tryz.sizeOf31
 v23:=Tryz.zeroValue31
 t25:=Tryz.underlying3
 a25:=Tryz.isAgg3
 z25:=Tryz.sizeOf3
 v25:=Tryz.zeroValue3
 t32:=Tryz.underlying297
 a32:=Tryz.isAgg297
 z32:=Tryz.sizeOf297
 v32:=Tryz.zeroValue297
 t35:=Tryz.underlying352
 a35:=Tryz.isAgg352
 z35:=Tryz.sizeOf352
 v35:=Tryz.zeroValue352
 t36:=Tryz.underlying353
 a36:=Tryz.isAgg353
 z36:=Tryz.sizeOf353
 v36:=Tryz.zeroValue353
 t41:=Tryz.underlying357
 a41:=Tryz.isAgg357
 z41:=Tryz.sizeOf357
 v41:=Tryz.zeroValue357
 t44:=Tryz.underlying309
 a44:=Tryz.isAgg309
 z44:=Tryz.sizeOf309
 v44:=Tryz.zeroValue309
 t46:=Tryz.underlying283
 a46:=Tryz.isAgg283
 z46:=Tryz.sizeOf283
 v46:=Tryz.zeroValue283
 t53:=Tryz.underlying404
 a53:=Tryz.isAgg404
 z53:=Tryz.sizeOf404
 v53:=Tryz.zeroValue404
 t57:=Tryz.underlying130
 a57:=Tryz.isAgg130
 z57:=Tryz.sizeOf130
 v57:=Tryz.zeroValue130
 t63:=Tryz.underlying424
 a63:=Tryz.isAgg424
 z63:=Tryz.sizeOf424
 v63:=Tryz.zeroValue424
 t64:=Tryz.underlying65
 a64:=Tryz.isAgg65
 z64:=Tryz.sizeOf65
 v64:=Tryz.zeroValue65 }
theorem sortsA (m:Nat):AnyZI.SortsIn Tryz.prog zin Fence.wide m:=
 ⟨fun blk off cap ss W hH hblk hsz=>callsIn_wide.2 (AnyM.slices_Sort_int sortA blk off cap ss W hH hblk hsz),
  fun p cap W=>callsIn_wide.2 (AnyM.slices_Sort_int_none sortA p cap W)⟩
end
section
open Sx
open Go.RowKit (Below)
open Go.WideElems (Fit rd rg rg_of)
def leI':Int→Int→Bool:=fun x y=>decide (x ≤ y)
theorem zn6 (mb:Option Nat) (w:World):Calls Tryz.prog 96 #[.map mb] w fun e w'=>e=.returned (.func (.func 154) #[] #[.pointer (some ⟨w.heap.size,0,none⟩)])∧w'=w.alloc (.cells #[.map mb] 133):=
 (callsIn_wide (n:=5)).1 (AnyZI.keys_in keysD Fence.wide 5 trivial rfl mb w)
theorem zn7 (mb:Option Nat) (w:World):Calls Tryz.prog 99 #[.map mb] w fun e w'=>e=.returned (.func (.func 155) #[] #[.pointer (some ⟨w.heap.size,0,none⟩)])∧w'=w.alloc (.cells #[.map mb] 192):=
 (callsIn_wide (n:=5)).1 (AnyZI.keys_in keysB Fence.wide 5 trivial rfl mb w)
theorem rd_int {e:MapEntry} {k:Int} (h1:e.key=.int .i64 k) (h2:-9223372036854775808 ≤ k∧k ≤ 9223372036854775807):rd Tryz.prog 3 (fun _=>some ((DataW.nil:DataW Unit),[])) e=some (Lit.int .i64 k,DataW.nil):=by
 have hwf:(Lit.int .i64 k).wf=true:=by
  show (decide ((-9223372036854775808:Int) ≤ k) && decide (k ≤ (9223372036854775807:Int)))=true
  rw [decide_eq_true (by omega),decide_eq_true (by omega)]
  rfl
 unfold rd keyOf
 rw [h1,Tryz.underlying3]
 simp [mapKey,hwf]
theorem zz4 {w:World} {f:FuncId} {b r:Nat} {es:Array MapEntry} {cl:Nat} (hr:w.heap[r]?=some (.map es cl)) (hst:MapKept.Stamped es cl) (hk:∀ e ∈ es.toList,∃ k:Int,e.key=.int .i64 k∧-9223372036854775808 ≤ k∧k ≤ 9223372036854775807) (hsz:es.size ≤ 512)
  (hs:∀ (D:List (Lit × DataW Unit)),w.ownsMap Tryz.prog 3 (fun _=>some ((DataW.nil:DataW Unit),[])) r es.size (DataW.map D)→SeqGives Fence.wide 2 Tryz.prog f #[.pointer (some ⟨b,0,none⟩)] encZ (fun ss=>ss.Perm (intKeys (DataW.map D))) (Maps.size (DataW.map D)) w)
  (he:Enters Tryz.prog f):
  Calls Tryz.prog 95 #[.func (.func f) #[] #[.pointer (some ⟨b,0,none⟩)]] w fun e w'=>∃ (v:Value) (ss:List Int),e=.returned v∧ss.Perm (es.toList.map fun e=>intOf e.key)∧
   w'.ownsRow w.heap.size 3 1 v ss.length ((ss.mergeSort leI').map encZ)∧(v=.slice none 0 0 ↔ ss=[])∧Below w.heap.size w w':=by
 have hrd:∀ e ∈ es.toList,∃ k:Int,e.key=.int .i64 k∧rd Tryz.prog 3 (fun _=>some ((DataW.nil:DataW Unit),[])) e=some (Lit.int .i64 k,DataW.nil):=fun e he=>by
  obtain ⟨k,h1,h2⟩:=hk e he
  exact ⟨k,h1,rd_int h1 h2⟩
 have hfit:Fit Tryz.prog 3 (fun _=>some ((DataW.nil:DataW Unit),[])) es cl:=⟨Nat.le_trans hsz (by decide),hst,fun e he=>by obtain ⟨k,_,h⟩:=hrd e he;exact ⟨_,h⟩⟩
 have hown:w.ownsMap Tryz.prog 3 (fun _=>some ((DataW.nil:DataW Unit),[])) r es.size (DataW.map ((es.toList.map (rg Tryz.prog 3 (fun _=>some ((DataW.nil:DataW Unit),[])))).foldr DataW.insert [])):=⟨es,cl,hr,hfit,zadw _,rfl⟩
 have hsize:Maps.size (DataW.map ((es.toList.map (rg Tryz.prog 3 (fun _=>some ((DataW.nil:DataW Unit),[])))).foldr DataW.insert []))=es.size:=by simp [Maps.size,Go.length_sorted]
 have hseq:=hs _ hown
 have cS:=AnyZI.sorted_in zacn Fence.wide 5 trivial trivial trivial trivial rfl (by omega) (sortsA _) (enters_of Tryz.func153 (by kernel_rfl) rfl) f #[.pointer (some ⟨b,0,none⟩)] trivial he _ _ (by rw [hsize];exact Nat.le_trans hsz (by decide)) (by rw [hsize];omega) w hseq
 refine ((callsIn_wide (n:=5)).1 cS).mono ?_
 rintro e w' ⟨v,ss,rfl,hS,hrow,hnil,hbe⟩
 refine ⟨v,ss,rfl,hS.trans ?_,hrow,hnil,hbe⟩
 show (List.map _ _).Perm _
 refine ((WideShapes.sorted_perm _).map _).trans ?_
 rw [List.map_map]
 refine List.Perm.of_eq (List.map_congr_left fun e he=>?_)
 obtain ⟨k,h1,h2⟩:=hrd e he
 show Go.intOf (rg _ _ _ e).1=_
 rw [rg_of h2,h1]
 rfl
theorem sorD {w:World} {b r:Nat} {es:Array MapEntry} {cl:Nat} (hb:w.cell? ⟨b,0,none⟩=some (.map (some r))) (hr:w.heap[r]?=some (.map es cl)) (hst:MapKept.Stamped es cl) (hk:∀ e ∈ es.toList,∃ k:Int,e.key=.int .i64 k∧-9223372036854775808 ≤ k∧k ≤ 9223372036854775807) (hsz:es.size ≤ 512):
  Calls Tryz.prog 95 #[.func (.func 154) #[] #[.pointer (some ⟨b,0,none⟩)]] w fun e w'=>∃ (v:Value) (ss:List Int),e=.returned v∧ss.Perm (es.toList.map fun e=>intOf e.key)∧
   w'.ownsRow w.heap.size 3 1 v ss.length ((ss.mergeSort leI').map encZ)∧(v=.slice none 0 0 ↔ ss=[])∧Below w.heap.size w w':=
 zz4 hr hst hk hsz (fun _ ho=>AnyZI.keys_gives (ρ:=zmg) { keysD with } Fence.wide _ trivial rfl (by omega) b r es.size _ w (zcr hb) hb ho) (enters_of Tryz.func154 (by kernel_rfl) rfl)
theorem sorB {w:World} {b r:Nat} {es:Array MapEntry} {cl:Nat} (hb:w.cell? ⟨b,0,none⟩=some (.map (some r))) (hr:w.heap[r]?=some (.map es cl)) (hst:MapKept.Stamped es cl) (hk:∀ e ∈ es.toList,∃ k:Int,e.key=.int .i64 k∧-9223372036854775808 ≤ k∧k ≤ 9223372036854775807) (hsz:es.size ≤ 512):
  Calls Tryz.prog 95 #[.func (.func 155) #[] #[.pointer (some ⟨b,0,none⟩)]] w fun e w'=>∃ (v:Value) (ss:List Int),e=.returned v∧ss.Perm (es.toList.map fun e=>intOf e.key)∧
   w'.ownsRow w.heap.size 3 1 v ss.length ((ss.mergeSort leI').map encZ)∧(v=.slice none 0 0 ↔ ss=[])∧Below w.heap.size w w':=
 zz4 hr hst hk hsz (fun _ ho=>AnyZI.keys_gives (ρ:=zmh) { keysB with } Fence.wide _ trivial rfl (by omega) b r es.size _ w (zcr hb) hb ho) (enters_of Tryz.func155 (by kernel_rfl) rfl)
end
section
open Go.RowKit
attribute [local go_sem ↓] zad
theorem zu1 {es:Array MapEntry} {M:List (Int × En)} (h:Sx.MapIs (prs es) (encA En.pt M)):(es.toList.map fun e=>intOf e.key).Perm (M.map (·.1)):=by
 have h1:=h.1.map (fun p=>intOf p.1)
 simp only [prs,encA,List.map_map] at h1
 exact h1
theorem zu2 {w:World} {bk mb:Nat} {M:List (Int × En)} (h:BookAt w bk mb M) (hl:M.length ≤ 16) (hi:∀ p ∈ M,I64 p.1):Calls Tryz.prog 61 #[.pointer (some ⟨bk,0,none⟩)] w fun e w'=>∃ v ss,e=.returned v∧ss.Perm (M.map (·.1))∧w'.ownsRow w.heap.size 3 1 v ss.length ((ss.mergeSort leI').map encZ)∧(v=.slice none 0 0 ↔ ss=[])∧Below w.heap.size w w':=by
 have r0:=zaa h.ob
 obtain ⟨es,c,e1,e2,e3⟩:=h.mp
 have hsz:es.size ≤ 16:=by
  have:=e2.1.length_eq
  simp [encA,prs] at this
  omega
 have hb0:=(zadu e1).1
 have hb:Below w.heap.size w (w.alloc (.cells #[.map (some mb)] 192)):=(Below.refl _ w).alloc (zadw _) _
 have hk:∀ e ∈ es.toList,∃ k:Int,e.key=.int .i64 k∧-9223372036854775808 ≤ k∧k ≤ 9223372036854775807:=fun e he=>by
  have hm:(e.key,e.val) ∈ encA En.pt M:=e2.1.mem_iff.1 (List.mem_map.2 ⟨e,he,rfl⟩)
  obtain ⟨q,hq,e⟩:=List.mem_map.1 hm
  have:=hi q hq
  unfold I64 at this
  exact ⟨q.1,(congrArg Prod.fst e).symm,by omega,by omega⟩
 have K:=zadv (sorB (w:=w.alloc (.cells #[.map (some mb)] 192)) (b:=w.heap.size) (by rw [zad,zaa (heap_alloc_new w _)];rfl) ((hb.block mb hb0).trans e1) e3 hk (by omega))
 have KP:=zadv (zu1 e2)
 have HB:=zadv hb
 clear e1 e2 e3 hk hb hb0 hsz h hi
 go_enter Tryz.func61,Tryz.ntmps61
 go_wp2_with (first
  | (go_at_call 99;refine (zn7 _ _).mono ?_;rintro _ _ ⟨rfl,rfl⟩)
  | (go_at_call 95;refine K.out.mono ?_;rintro _ W ⟨v,ss,rfl,hp,ho,hn,hb⟩;have HC:=zadv (HB.out.trans (hb.mono HB.out.size));have HO:=zadv (zadx hp (zadx ho hn));clear hb hp ho hn))
 go_ret
 exact ⟨_,ss,rfl,HO.out.1.trans KP.out,za0 HO.out.2.1 HB.out.size,HO.out.2.2,HC.out⟩
end
section
open Go.RowKit
open Sx (Ab DW Turns Did Foot)
attribute [local go_sem ↓] zad ebl1 ebl2 zuy zuz zacd
attribute [local go_sem] zaf zai zaj zal zab zah zae Ext.row Ext.soft_ zuw zux zl8 zl9
def zdq (t:Tm) (d:Dl) (n:Cl) (free:Int):Int:=if errD d ≠ 0 then errD d else if (zc4 t d.p.a free).2 ≠ 0 then (zc4 t d.p.a free).2 else if d.g.a < (zc4 t d.p.a free).1 then 22 else zez t d n
section
variable {w:World} {D:Dm} {d:Dl} {n:Cl} {free:Int}
theorem zrt {k:Int} (h:Dae w D) (e1:errD d=k) (k0:(k == 0)=false):Calls Tryz.prog 164 #[.pointer (some ⟨D.xb,0,none⟩),.agg d.cells,.agg n.cells,.int .i64 free] w fun e w'=>e=.returned (.int .i64 k)∧Below w.heap.size w w':=by
 have H:=zadv h
 have H1:=zadv e1
 go_enter Tryz.func164,Tryz.ntmps164
 go_upto_region 1 with (fail)
 have bx:=Bxs.new2 w (d.cells) 60 (n.cells) 52;generalize ((w.alloc (.cells (d.cells) 60)).alloc (.cells (n.cells) 52))=W at bx ⊢;have rx0:=bx.row' 0 rfl;have sx0:=bx.soft' 0 rfl;(try simp only [Nat.add_zero] at rx0 sx0);have rx1:=bx.row' 1 rfl;have sx1:=bx.soft' 1 rfl;(try simp only [Nat.add_zero] at rx1 sx1);have BX:=zadv bx;clear bx
 go_wp2_with fail
 refine (zfb H1.out _).mono ?_;rintro _ W2 ⟨rfl,hb⟩;have bx:=BX.out.step hb;clear BX hb rx0 sx0 rx1 sx1;have rx0:=bx.row' 0 rfl;have sx0:=bx.soft' 0 rfl;(try simp only [Nat.add_zero] at rx0 sx0);have rx1:=bx.row' 1 rfl;have sx1:=bx.soft' 1 rfl;(try simp only [Nat.add_zero] at rx1 sx1);have BX:=zadv bx;clear bx
 go_wp2
 go_ret
 exact ⟨rfl,BX.out.below⟩
set_option maxHeartbeats 2000000 in
theorem zn8 {v q:Int} (h:Dae w D) (HT:Hid (TmK D.t)) (e1:errD d=0) (H2:Hid (zc4 D.t d.p.a free=(v,q))) (q0:(q == 0)=false):Calls Tryz.prog 164 #[.pointer (some ⟨D.xb,0,none⟩),.agg d.cells,.agg n.cells,.int .i64 free] w fun e w'=>e=.returned (.int .i64 q)∧Below w.heap.size w w':=by
 have H:=zadv h
 have H1:=zadv e1
 go_enter Tryz.func164,Tryz.ntmps164
 go_upto_region 1 with (fail)
 have bx:=Bxs.new2 w (d.cells) 60 (n.cells) 52;generalize ((w.alloc (.cells (d.cells) 60)).alloc (.cells (n.cells) 52))=W at bx ⊢;have rx0:=bx.row' 0 rfl;have sx0:=bx.soft' 0 rfl;(try simp only [Nat.add_zero] at rx0 sx0);have rx1:=bx.row' 1 rfl;have sx1:=bx.soft' 1 rfl;(try simp only [Nat.add_zero] at rx1 sx1);have BX:=zadv bx;clear bx
 go_wp2_with fail
 refine (zfb H1.out _).mono ?_;rintro _ W2 ⟨rfl,hb⟩;have bx:=BX.out.step hb;clear BX hb rx0 sx0 rx1 sx1;have rx0:=bx.row' 0 rfl;have sx0:=bx.soft' 0 rfl;(try simp only [Nat.add_zero] at rx0 sx0);have rx1:=bx.row' 1 rfl;have sx1:=bx.soft' 1 rfl;(try simp only [Nat.add_zero] at rx1 sx1);have BX:=zadv bx;clear bx
 have D2:=H.out.below BX.out.below
 have rD:=zaa D2.row
 unfold Dm.cells at rD
 have Q:∀ w,Calls Tryz.prog 229 #[.agg D.t.cells,.int .i64 d.p.a,.int .i64 free] w (Ret (.tuple #[.int .i64 v,.int .i64 q]) w):=fun w=>by
  have:=zb0 (zfu HT.out d.p.a free w)
  rw [H2.out] at this
  exact this
 have Q:=zadv Q
 have lx:D.xb < W2.heap.size:=D2.lt (.inl rfl)
 have l0:=BX.out.lt 0 rfl
 have l1:=BX.out.lt 1 rfl
 simp only [Nat.add_zero] at l0
 clear D2
 go_upto_region 4 with (fail)
 (refine zaz (by kernel_rfl) (by kernel_rfl) ?_;(repeat (go_big_quiet_step (((go_at_call 229;exact Calls.ext_of (Q.out _))))));refine wpQuiet_nil ?_;rintro _ ⟨g,rfl⟩)
 have bx:=BX.out.step g.below;clear BX rx0 sx0 rx1 sx1;have rx0:=bx.row' 0 rfl;have sx0:=bx.soft' 0 rfl;(try simp only [Nat.add_zero] at rx0 sx0);have rx1:=bx.row' 1 rfl;have sx1:=bx.soft' 1 rfl;(try simp only [Nat.add_zero] at rx1 sx1);have BX:=zadv bx;clear bx
 generalize g.val=V at *
 go_wp2
 go_ret
 exact ⟨rfl,BX.out.below⟩
set_option maxHeartbeats 2000000 in
theorem zru {v q:Int} (h:Dae w D) (HT:Hid (TmK D.t)) (e1:errD d=0) (H2:Hid (zc4 D.t d.p.a free=(v,q))) (q0:q=0) (e3:(d.g.a < v)=True):Calls Tryz.prog 164 #[.pointer (some ⟨D.xb,0,none⟩),.agg d.cells,.agg n.cells,.int .i64 free] w fun e w'=>e=.returned (.int .i64 22)∧Below w.heap.size w w':=by
 subst q0
 have H:=zadv h
 have H1:=zadv e1
 go_enter Tryz.func164,Tryz.ntmps164
 go_upto_region 1 with (fail)
 have bx:=Bxs.new2 w (d.cells) 60 (n.cells) 52;generalize ((w.alloc (.cells (d.cells) 60)).alloc (.cells (n.cells) 52))=W at bx ⊢;have rx0:=bx.row' 0 rfl;have sx0:=bx.soft' 0 rfl;(try simp only [Nat.add_zero] at rx0 sx0);have rx1:=bx.row' 1 rfl;have sx1:=bx.soft' 1 rfl;(try simp only [Nat.add_zero] at rx1 sx1);have BX:=zadv bx;clear bx
 go_wp2_with fail
 refine (zfb H1.out _).mono ?_;rintro _ W2 ⟨rfl,hb⟩;have bx:=BX.out.step hb;clear BX hb rx0 sx0 rx1 sx1;have rx0:=bx.row' 0 rfl;have sx0:=bx.soft' 0 rfl;(try simp only [Nat.add_zero] at rx0 sx0);have rx1:=bx.row' 1 rfl;have sx1:=bx.soft' 1 rfl;(try simp only [Nat.add_zero] at rx1 sx1);have BX:=zadv bx;clear bx
 have D2:=H.out.below BX.out.below
 have rD:=zaa D2.row
 unfold Dm.cells at rD
 have Q:∀ w,Calls Tryz.prog 229 #[.agg D.t.cells,.int .i64 d.p.a,.int .i64 free] w (Ret (.tuple #[.int .i64 v,.int .i64 0]) w):=fun w=>by
  have:=zb0 (zfu HT.out d.p.a free w)
  rw [H2.out] at this
  exact this
 have Q:=zadv Q
 have lx:D.xb < W2.heap.size:=D2.lt (.inl rfl)
 have l0:=BX.out.lt 0 rfl
 have l1:=BX.out.lt 1 rfl
 simp only [Nat.add_zero] at l0
 clear D2
 go_upto_region 4 with (fail)
 (refine zaz (by kernel_rfl) (by kernel_rfl) ?_;(repeat (go_big_quiet_step (((go_at_call 229;exact Calls.ext_of (Q.out _))))));refine wpQuiet_nil ?_;rintro _ ⟨g,rfl⟩)
 have bx:=BX.out.step g.below;clear BX rx0 sx0 rx1 sx1;have rx0:=bx.row' 0 rfl;have sx0:=bx.soft' 0 rfl;(try simp only [Nat.add_zero] at rx0 sx0);have rx1:=bx.row' 1 rfl;have sx1:=bx.soft' 1 rfl;(try simp only [Nat.add_zero] at rx1 sx1);have BX:=zadv bx;clear bx
 generalize g.val=V at *
 go_wp2
 go_ret
 exact ⟨rfl,BX.out.below⟩
set_option maxHeartbeats 2000000 in
theorem zrv {v s:Int} (h:Dae w D) (HT:Hid (TmK D.t)) (e1:errD d=0) (H2:Hid (zc4 D.t d.p.a free=(v,0))) (e3:(d.g.a < v)=False) (H4:Hid (zez D.t d n=s)) (s0:(s == 0)=false):Calls Tryz.prog 164 #[.pointer (some ⟨D.xb,0,none⟩),.agg d.cells,.agg n.cells,.int .i64 free] w fun e w'=>e=.returned (.int .i64 s)∧Below w.heap.size w w':=by
 have H:=zadv h
 have H1:=zadv e1
 go_enter Tryz.func164,Tryz.ntmps164
 go_upto_region 1 with (fail)
 have bx:=Bxs.new2 w (d.cells) 60 (n.cells) 52;generalize ((w.alloc (.cells (d.cells) 60)).alloc (.cells (n.cells) 52))=W at bx ⊢;have rx0:=bx.row' 0 rfl;have sx0:=bx.soft' 0 rfl;(try simp only [Nat.add_zero] at rx0 sx0);have rx1:=bx.row' 1 rfl;have sx1:=bx.soft' 1 rfl;(try simp only [Nat.add_zero] at rx1 sx1);have BX:=zadv bx;clear bx
 go_wp2_with fail
 refine (zfb H1.out _).mono ?_;rintro _ W2 ⟨rfl,hb⟩;have bx:=BX.out.step hb;clear BX hb rx0 sx0 rx1 sx1;have rx0:=bx.row' 0 rfl;have sx0:=bx.soft' 0 rfl;(try simp only [Nat.add_zero] at rx0 sx0);have rx1:=bx.row' 1 rfl;have sx1:=bx.soft' 1 rfl;(try simp only [Nat.add_zero] at rx1 sx1);have BX:=zadv bx;clear bx
 have D2:=H.out.below BX.out.below
 have rD:=zaa D2.row
 unfold Dm.cells at rD
 have Q:∀ w,Calls Tryz.prog 229 #[.agg D.t.cells,.int .i64 d.p.a,.int .i64 free] w (Ret (.tuple #[.int .i64 v,.int .i64 0]) w):=fun w=>by
  have:=zb0 (zfu HT.out d.p.a free w)
  rw [H2.out] at this
  exact this
 have Q:=zadv Q
 have lx:D.xb < W2.heap.size:=D2.lt (.inl rfl)
 have l0:=BX.out.lt 0 rfl
 have l1:=BX.out.lt 1 rfl
 simp only [Nat.add_zero] at l0
 clear D2
 go_upto_region 4 with (fail)
 (refine zaz (by kernel_rfl) (by kernel_rfl) ?_;(repeat (go_big_quiet_step (((go_at_call 229;exact Calls.ext_of (Q.out _))))));refine wpQuiet_nil ?_;rintro _ ⟨g,rfl⟩)
 have bx:=BX.out.step g.below;clear BX rx0 sx0 rx1 sx1;have rx0:=bx.row' 0 rfl;have sx0:=bx.soft' 0 rfl;(try simp only [Nat.add_zero] at rx0 sx0);have rx1:=bx.row' 1 rfl;have sx1:=bx.soft' 1 rfl;(try simp only [Nat.add_zero] at rx1 sx1);have BX:=zadv bx;clear bx
 have D3:=H.out.below BX.out.below
 have rD:=zaa D3.row
 unfold Dm.cells at rD
 have lx:D.xb < g.val.heap.size:=D3.lt (.inl rfl)
 have l0:=BX.out.lt 0 rfl
 have l1:=BX.out.lt 1 rfl
 simp only [Nat.add_zero] at l0
 clear D3
 generalize g.val=V at *
 go_upto_region 9 with (fail)
 have K:∀ w,Calls Tryz.prog 230 #[.agg D.t.cells,.agg d.cells,.agg n.cells] w (Ret (.int .i64 s) w):=fun w=>by
  have:=zb0 (zpl HT.out.tm d n w)
  rw [H4.out] at this
  exact this
 have K:=zadv K
 (refine zaz (by kernel_rfl) (by kernel_rfl) ?_;(repeat (go_big_quiet_step (((go_at_call 230;exact Calls.ext_of (K.out _))))));refine wpQuiet_nil ?_;rintro _ ⟨g2,rfl⟩)
 have bx:=BX.out.step g2.below;clear BX rx0 sx0 rx1 sx1;have rx0:=bx.row' 0 rfl;have sx0:=bx.soft' 0 rfl;(try simp only [Nat.add_zero] at rx0 sx0);have rx1:=bx.row' 1 rfl;have sx1:=bx.soft' 1 rfl;(try simp only [Nat.add_zero] at rx1 sx1);have BX:=zadv bx;clear bx
 generalize g2.val=X at *
 go_wp2
 go_ret
 exact ⟨rfl,BX.out.below⟩
end
theorem zx5 {w:World} {D:Dm} {d:Dl} {n:Cl} {free k:Int} (h:Dae w D) (hT:TmK D.t) (hk:zdq D.t d n free=k) (k0:k ≠ 0):Calls Tryz.prog 164 #[.pointer (some ⟨D.xb,0,none⟩),.agg d.cells,.agg n.cells,.int .i64 free] w fun e w'=>e=.returned (.int .i64 k)∧Below w.heap.size w w':=by
 subst hk
 unfold zdq at k0 ⊢
 by_cases h1:errD d ≠ 0
 ·rw [if_pos h1]
  exact zrt h rfl (by rw [beq_eq_false_iff_ne];exact h1)
 ·rw [if_neg h1] at k0 ⊢
  have h1:errD d=0:=by omega
  by_cases h2:(zc4 D.t d.p.a free).2 ≠ 0
  ·rw [if_pos h2]
   exact zn8 h (zadv hT) h1 (zadv rfl) (by rw [beq_eq_false_iff_ne];exact h2)
  ·rw [if_neg h2] at k0 ⊢
   have h2:(zc4 D.t d.p.a free).2=0:=by omega
   by_cases h3:d.g.a < (zc4 D.t d.p.a free).1
   ·rw [if_pos h3]
    exact zru h (zadv hT) h1 (zadv rfl) h2 (eq_true h3)
   ·rw [if_neg h3] at k0 ⊢
    exact zrv h (zadv hT) h1 (zadv (Prod.ext rfl h2)) (eq_false h3) (zadv rfl) (by rw [beq_eq_false_iff_ne];exact k0)
theorem zio {t:Tm} {d:Dl} {n:Cl} {free:Int} (h:zdq t d n free=0):za5 d=true∧(∃ v,zc4 t d.p.a free=(v,0)∧¬ d.g.a < v)∧zez t d n=0:=by
 unfold zdq at h
 split at h
 ·rename_i q;exact absurd h q
 ·split at h
  ·rename_i q;exact absurd h q
  ·split at h
   ·omega
   ·rename_i q1 q2 q3
    refine ⟨?_,⟨_,Prod.ext rfl (by omega),q3⟩,h⟩
    unfold errD at q1
    cases hd:za5 d with
    | true=>rfl
    | false=>rw [hd] at q1;simp at q1
end
section
open Go.RowKit
open Sx (Ab DW Turns Did Foot)
section
variable (w:World) (dst:Option Tmp) (ty:TypeId) (pos:String) (af:Array Edge) (gd:Option (Nat × Bool))
theorem zx6 (A:Act) (a p g h q:Operand) (k:Int) (ha:A.eval a=.int .i64 (iv (A.eval a))) (hp:A.eval p=.agg (lOf (A.eval p)).cells) (hg:A.eval g=.agg (lOf (A.eval g)).cells) (hh:A.eval h=.agg (hOf (A.eval h)).cells) (hq:A.eval q=.int .i64 (iv (A.eval q))):
  (execOp A.eval ⟨dst,.build 60 #[(0,a),(1,.const (.int .i64 k)),(2,p),(3,g),(4,h),(5,q)],ty,pos,af,gd⟩).run Tryz.prog w=.ok (.value (.agg (Dl.cells ⟨iv (A.eval a),k,lOf (A.eval p),lOf (A.eval g),hOf (A.eval h),iv (A.eval q)⟩))) w:=
 ebd6 w A.eval dst ty pos af gd a (.const (.int .i64 k)) p g h q ha rfl hp hg hh hq
theorem zu3 (A:Act) (a p g h:Operand) (k:Int) (ha:A.eval a=.int .i64 (iv (A.eval a))) (hp:A.eval p=.agg (lOf (A.eval p)).cells) (hg:A.eval g=.agg (lOf (A.eval g)).cells) (hh:A.eval h=.agg (hOf (A.eval h)).cells):
  (execOp A.eval ⟨dst,.build 118 #[(0,.const (.int .i64 k)),(1,a),(3,p),(4,g),(5,h)],ty,pos,af,gd⟩).run Tryz.prog w=.ok (.value (.agg (Msg.cells ⟨k,iv (A.eval a),0,lOf (A.eval p),lOf (A.eval g),hOf (A.eval h)⟩))) w:=
 ebm5 w A.eval dst ty pos af gd (.const (.int .i64 k)) a p g h rfl ha hp hg hh
end
attribute [local go_sem ↓] zad zx6 zu3
attribute [local go_sem] zaf zai zaj zal zab zah zae
def zcw (m:Msg) (peer:Int):Dl:=⟨m.i,2,m.g,m.p,m.h,peer⟩
def zbg (d:Dl):Msg:=⟨2,d.i,0,d.p,d.g,d.h⟩
section
variable {w:World} {D:Dm} {n:Cl} {free peer:Int} {ao:Option Addr} {k c:Nat} {l:List Nat}
end
end
section
open Go.RowKit
open Sx (Ab DW Turns Did Foot)
attribute [local go_sem ↓] zad
attribute [local go_sem] zaf zai zaj zal zab zah zae
theorem zx7 (u:Nat):0 < (intL u).length:=by
 unfold intL
 split
 ·simp
 ·split
  ·simp
  ·split <;> simp
theorem zx8 (x:Int):0 < (intI x).length:=zx7 _
set_option maxHeartbeats 1000000 in
theorem zrw {w:World} {D:Dm} (h:Dae w D) (hB:Base w D) (hl:D.seed.length ≤ 64) {i:Int} (hi:I64 i):Calls Tryz.prog 104 #[.pointer (some ⟨D.xb,0,none⟩),.int .i64 i] w fun e w'=>e=.returned (.agg (secretH (D.seed ++ intI i)).cells)∧Below w.heap.size w w':=by
 have H:=zadv h
 have HB:=zadv hB
 have HI:=zadv hi
 have HL:=zadv hl
 generalize hq:secretH (D.seed ++ intI i)=q
 have HQ:=zadv hq
 clear h hB hi hl hq
 go_enter Tryz.func104,Tryz.ntmps104
 go_upto_region 1 with (fail)
 have bx:=Bx.new w (Hs.zero.cells) 58;generalize w.alloc (.cells (Hs.zero.cells) 58)=W at bx ⊢;have rx:=bx.rowOf;have sx:=bx.soft;have BX:=zadv bx;clear bx
 have D1:=H.out.below BX.out.below
 have rD:=zaa D1.row
 unfold Dm.cells at rD
 have C:=zadv (zb3 D1.sd (by have:=HL.out;omega))
 unfold Dm.sv at rD
 clear D1
 go_wp2_with fail
 refine C.out.mono ?_
 rintro _ W2 ⟨a2,c2,rfl,hb2,o2⟩
 have bx:=BX.out.step hb2
 have I:=zadv (zed (HB.out.forms.keep (zadw _) bx.below) (Sl.own o2) (by have:=HL.out;omega) i HI.out)
 clear BX C rx sx rD hb2 o2
 have BX:=zadv bx
 clear bx
 go_wp2_with fail
 refine I.out.mono ?_
 rintro _ W3 ⟨a3,c3,n3,rfl,hb3,o3⟩
 have bx:=BX.out.step hb3
 have hn3:n3=(D.seed ++ intI i).length:=zabt o3 rfl
 have hlen:n3 ≤ 73:=by rw [hn3,List.length_append];have:=HL.out;have:=zba i;omega
 have hpos:0 < n3:=by rw [hn3,List.length_append];have:=zx8 i;omega
 have T:=zro (HB.out.tabs.keep (zadw _) bx.below) (Sl.own o3) hpos (by omega)
 rw [HQ.out] at T
 have T:=zadv T
 clear BX I hb3 o3 hn3 hlen hpos
 have BX:=zadv bx
 clear bx
 go_wp2_with fail
 refine T.out.mono ?_
 rintro _ W4 ⟨rfl,hb⟩
 have bx:=BX.out.step hb
 clear BX T hb
 have sx:=bx.soft
 have rx:=bx.rowOf
 have BX:=zadv bx
 clear bx
 go_wp2
 have hc:rowOf (World.setRow W4 w.heap.size q.cells) w.heap.size=q.cells:=(zab _ _ _ _ sx).trans (if_pos rfl)
 refine bodyPost_ret (za6 (t:=58) rfl Tryz.underlying58 rfl (by kernel_rfl) _ _ w.heap.size rfl hc (zdl _)) rfl ?_
 exact ⟨rfl,Below.setRow_ BX.out.below (zadw _) _⟩
end
end Go.Proofs.YthjgiamfaijoeaaGreatDoor
