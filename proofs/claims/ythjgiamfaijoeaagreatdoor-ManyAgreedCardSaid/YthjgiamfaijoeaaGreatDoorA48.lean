/- What is proved: parts of the walk and of the plain law. No condition but those each law names. -/
import Derived.Test.YthjgiamfaijoeaaGreatDoorA47
import Derived.Test.YthjgiamfaijoeaaGreatDoorA44
import Derived.Test.YthjgiamfaijoeaaGreatDoorRows
import Derived.Lib.LaidTab
import Derived.Lib.LaidU8
import Derived.LaidMore
import Derived.OpenShut
import Derived.Stop.Joined
import Derived.ProofKit
import Derived.Lay
import Derived.DataReads
import Derived.ChangeSlices
import Derived.Test.YthjgiamfaijoeaaGreatDoorA00
set_option linter.unusedSimpArgs false
set_option linter.unusedVariables false
namespace Go.Proofs.YthjgiamfaijoeaaGreatDoor
open Go.RowKit
open Sx (Ab DW Turns Did Foot MapIs)
set_option maxRecDepth 100000
attribute [local go_sem ↓] zad
attribute [local go_sem] zaf zai zaj zal zab zah zac zak zae zav za4 Sx.run_mk Ext.row Ext.soft_
theorem WX.f {c:Wd} {w:World} {xs:Nat→Nod} {ls:List (Int × Int × List Nat)} {now:Cl} (h:WX c w xs ls now):Forms w:=by
 obtain ⟨S,h⟩:=h
 exact h.hF.keep (zac9 _) h.low
theorem WX.t {c:Wd} {w:World} {xs:Nat→Nod} {ls:List (Int × Int × List Nat)} {now:Cl} (h:WX c w xs ls now):Tabs w:=by
 obtain ⟨S,h⟩:=h
 exact h.hT.keep (zac9 _) h.low
theorem zac1 (w:World) (ρ:Operand→Value) (x:Operand) (dst:Option Tmp) (ty:TypeId) (pos:String) (af:Array Edge) (gd:Option (Nat × Bool)) (hp:pp (ρ x)=true) (h:po (ρ x) + 14 ≤ (rowOf w (pb (ρ x))).size):(execOp ρ ⟨dst,.load 33 x,ty,pos,af,gd⟩).run Tryz.prog w=.ok (.value (.agg (sub (rowOf w (pb (ρ x))) (po (ρ x)) 14))) w:=
 zat 33 14 Tryz.underlying33 rfl (by kernel_rfl) w ρ x dst ty pos af gd hp h
attribute [local go_sem ↓] zac1
theorem AcAt.row {w:World} {x:Ac} {b o:Nat} (h:AcAt w x b o):o + 14 ≤ (rowOf w b).size∧sub (rowOf w b) o 14=x.cells:=by
 have hc:∀ j,j < 14→(rowOf w b)[o + j]?=x.cells[j]?:=fun j hj=>by rw [← zad];exact h.cell j hj
 have h13:o + 13 < (rowOf w b).size:=by
  have e:=hc 13 (by decide)
  have e2:x.cells[13]?=some x.v:=rfl
  rw [e2] at e
  exact (zac7 e).1
 refine ⟨by omega,?_⟩
 exact (zp6 (C:=x.cells) (by rw [zog];decide) hc).trans (by kernel_rfl)
theorem Wst.start {c:Wd} {w:World} {sd:Nat→List Nat} (h:WX c w (fun j=>nod0 (sd j)) [] now0) (h8:c.N ≤ 8):Wst c w (fun j=>nod0 (sd j)) [] now0:=
 ⟨h,⟨fun n _ _=>⟨Words.nil,fun k s q=>(by cases q),fun d q=>(by cases q),fun k cc q=>(by cases q)⟩,fun x hx=>(by cases hx)⟩,⟨by decide,by decide,by decide⟩,h8⟩
set_option maxHeartbeats 8000000 in
theorem zrv {w:World} (hF:Forms w) (hT:Tabs w) {n:Int} {ao:Option Addr} {cap:Nat} {L:List Ac} (h:ActsAt w ao L):Calls Tryz.prog 3 #[.int .i64 n,.slice ao L.length cap] w fun e w'=>e=.returned (.bool true)∧Below w.heap.size w w':=by
 have HF:=zac8 (And.intro hF hT)
 have HA:=zac8 h
 clear hF hT h
 go_enter Tryz.func3,Tryz.ntmps3
 go_wp2_with fail
 refine (zzq w).mono ?_
 rintro _ W0 ⟨r,hr,rfl,rfl⟩
 obtain ⟨N,eN⟩:∃ N:Nat,(N:Int)=2 + r:=⟨(2 + r).toNat,by omega⟩
 have wN:IntKind.i64.wrap (2 + r)=N:=(zau (by omega) (by omega)).trans eN.symm
 have HN:=zac8 (show 2 ≤ N∧N ≤ 5 by omega)
 clear hr eN
 go_wp2_with fail
 refine (zvn (n:=N) ⟨HN.out.1,by have:=HN.out;omega⟩ HF.out.1 HF.out.2).mono ?_
 rintro _ V ⟨c,sd,rfl,cn,wx,hu⟩
 have WA:=zac8 (And.intro cn.1 (And.intro (Wst.start wx (by rw [cn.1];have:=HN.out;omega)) hu))
 have AV:=zac8 (HA.out.below (hu.trans (wx.low.mono hu.size)))
 have GR:=zac8 (zvm (cap:=cap) AV.out)
 clear cn wx hu
 go_wp2_with fail
 refine GR.out.mono ?_
 rintro _ V2 ⟨rfl,v,rfl,hv⟩
 have HV:=zac8 hv
 clear hv GR
 rcases HV.out with rfl | ⟨rfl,md⟩
 ·have WK:=zac8 (zzu WA.out.2.1.wx.f WA.out.2.1.wx.t)
  go_wp2_with (go_at_call 9;refine WK.out.mono ?_;rintro _ U ⟨rfl,hb⟩;have LO:=zac8 hb;clear hb)
  go_ret
  have lo:=WA.out.2.1.wx.low
  exact ⟨rfl,WA.out.2.2.trans ((lo.trans (LO.out.mono lo.size)).mono WA.out.2.2.size)⟩
 have MD:=zac8 md
 clear HV md
 go_upto_region 6 with (fail)
 go_loopw [6] (fun i wr=>∃ j:Nat,j ≤ L.length∧i=.int .i64 j∧Nx c j wr) (fun i _=>L.length - (intOf i).toNat)
 case atStart=>exact ⟨0,Nat.zero_le _,rfl,WA.out.2.1.nx (zac9 _)⟩
 case round=>
  obtain ⟨j,hj,rfl,nx⟩:=hrel
  obtain ⟨f,xs,ls,now,st,hl⟩:=nx
  have ST:=zac8 (And.intro st hl)
  have low:Below c.u.heap.size c.u wr:=st.wx.low
  have LOW:=zac8 (WA.out.2.2.trans (low.mono WA.out.2.2.size))
  clear st hl low
  have wj:IntKind.i64.wrap ((j:Int) + 1)=(j:Int) + 1:=zau (by omega) (by have:=MD.out.1;omega)
  by_cases hjl:j < L.length
  ·have j1:(j:Int) < L.length:=by omega
   obtain ⟨x,hx⟩:∃ x,L[j]?=some x:=⟨_,List.getElem?_eq_getElem hjl⟩
   obtain ⟨b,o,rfl,ka⟩:=(HA.out.below LOW.out).each j x hx
   obtain ⟨rs,re⟩:=ka.row
   obtain ⟨a2,cc,K,hv,hk⟩:=ka.keep
   have kk:=hk (by have:=MD.out.2 x (List.mem_of_getElem? hx);rw [hv] at this;exact this)
   have DO:=zac8 (zyu ST.out.1 (by show 2 ≤ c.N∧c.N ≤ 5;rw [WA.out.1];exact HN.out) (by have:=ST.out.2;have:=MD.out.1;omega) ka.i64 hv kk)
   have eN:((({ c with cut:=f }:Wd).N:Nat):Int)=N:=congrArg Int.ofNat WA.out.1
   rw [eN] at DO
   clear ka hx hv hk kk eN
   go_upto_region 9 with (go_at_call 10;refine DO.out.mono ?_;rintro _ U ⟨rfl,nx⟩;have NX:=zac8 nx;clear nx)
   clear rs re
   obtain ⟨f2,xs2,ls2,now2,st2,hl2⟩:=NX.out
   replace st2:Wst ({ c with cut:=f2 }:Wd) U xs2 ls2 now2:=st2
   have S2:=zac8 (And.intro st2 hl2)
   have MI:=zrr st2.wx (by have:=st2.n8;omega) st2.inv.mirr
   have TD:∀ W,Below U.heap.size U W→Calls Tryz.prog 12 #[.pointer (some ⟨c.wb,0,none⟩),.int .i64 ((({ c with cut:=f2 }:Wd).N:Nat):Int)] W fun e w'=>e=.returned (.bool true)∧Below W.heap.size W w':=fun W hW=>zvl (c:=({ c with cut:=f2 }:Wd)) (st2.wx.below hW) (by have:=st2.n8;omega) (fun m m1 m2=>(st2.inv.node m m1 m2).words) st2.inv.told
   have eN:((({ c with cut:=f2 }:Wd).N:Nat):Int)=N:=congrArg Int.ofNat WA.out.1
   rw [eN] at MI TD
   have MI:=zac8 MI
   have TD:=zac8 TD
   clear eN NX st2 hl2
   go_wp2_with (first
    | (go_at_call 11;refine MI.out.mono ?_;rintro _ U2 ⟨rfl,hb⟩;have B2:=zac8 hb;clear hb)
    | (go_at_call 12;refine (TD.out _ B2.out).mono ?_;rintro _ U3 ⟨rfl,hb⟩;have B3:=zac8 (B2.out.trans (hb.mono B2.out.size));clear hb))
   go_roundw
   case rel=>exact ⟨j + 1,by omega,rfl,f2,xs2,ls2,now2,S2.out.1.below B3.out,by have:=S2.out.2;have:=ST.out.2;omega⟩
   case measure=>simp [intOf];omega
  ·obtain rfl:j=L.length:=by omega
   have j1:¬ (L.length:Int) < L.length:=by omega
   have WK:=zac8 (zzu ST.out.1.wx.f ST.out.1.wx.t)
   go_wp2_with (go_at_call 9;refine WK.out.mono ?_;rintro _ U ⟨rfl,hb⟩;have LO:=zac8 hb;clear hb)
   go_ret
   exact ⟨rfl,LOW.out.trans (LO.out.mono LOW.out.size)⟩
end Go.Proofs.YthjgiamfaijoeaaGreatDoor
namespace Go.Proofs.YthjgiamfaijoeaaGreatDoor
open Go.RowKit
set_option maxRecDepth 100000
abbrev zoi : List (String × DataW Unit) := [("mangrove/blake.begins", Rows.laid_mangrove_blake_begins), ("mangrove/blake.orders", Rows.laid_mangrove_blake_orders), ("mangrove/pack.forms", Rows.laid_mangrove_pack_forms)]
theorem gBeg : Tryz.prog.globalNamed "mangrove/blake.begins" = some 1 := by kernel_rfl
theorem gOrd : Tryz.prog.globalNamed "mangrove/blake.orders" = some 3 := by kernel_rfl
theorem gFor : Tryz.prog.globalNamed "mangrove/pack.forms" = some 0 := by kernel_rfl
theorem tBeg:(Tryz.prog.globals[1]?).map (·.type)=some 311:=by kernel_rfl
theorem tOrd:(Tryz.prog.globals[3]?).map (·.type)=some 376:=by kernel_rfl
theorem tFor:(Tryz.prog.globals[0]?).map (·.type)=some 300:=by kernel_rfl
theorem zms {W:World} {n:String} {g:Nat} {cs:Array Value} {ps:List MemPlace} (hg:Tryz.prog.globalNamed n=some g) (hv:W.var? Tryz.prog n=some cs) (h0:0 < cs.size) (hin:∀ x ∈ MemPlace.row ⟨g,0,none⟩ cs.size,x ∈ ps)
  (hps:∀ b off,MemPlace.cell b off ∈ ps→(∃ c t,W.heap[b]?=some (.cells c t (0,0)))∧∀ u v,W.cell? ⟨b,off,none⟩=some (.iface u v)→Value.okWide Tryz.prog W .any 0 u v):∃ t,W.heap[g]?=some (.cells cs t):=by
 have hm:MemPlace.cell g 0 ∈ MemPlace.row ⟨g,0,none⟩ cs.size:=List.mem_map.2 ⟨0,List.mem_range.2 h0,rfl⟩
 obtain ⟨⟨c,t,hc⟩,_⟩:=hps g 0 (hin _ hm)
 unfold World.var? at hv
 rw [hg,Option.bind_some,hc] at hv
 simp only [Option.some.injEq] at hv
 exact ⟨t,by rw [hc,hv]⟩
theorem zyx {cs:List Value} {i:Nat} {v:Value} (h:(cs.drop i).take 1=[v]):cs[i]?=some v:=by
 have:=congrArg (·[0]?) h
 simpa [List.getElem?_take] using this
section
variable {W:World} {enc:TypeId × Value→Unit} {sp:Nat→Bool} {held:Bool} {fuel:Nat}
theorem ord_of {cs:List Value} {p:List MemPlace} (h:DataW.trod enc Tryz.prog W 0 sp held fuel 376 cs=some (Rows.laid_mangrove_blake_orders,p)):cs=ordC.toList:=by
 obtain ⟨_,_,_,_,hlen,_,_⟩:=DataW.trod_array Tryz.underlying376 h
 have hlen:cs.length=10:=hlen.trans (by kernel_rfl)
 have c9:Tryz.prog.cellsOf 9=1:=by kernel_rfl
 have H:∀ i,i < 10→∃ s:ByteArray,cs[i]?=some (.string s)∧(match (Rows.laid_mangrove_blake_orders:DataW Unit) with | .agg l=>l[i]? | _=>none)=some (.lit (.string s.data.toList)):=fun i hi=>by
  obtain ⟨f,d,q,hd,ht⟩:=Lib.array_elem Tryz.underlying376 (show DataW.trod enc Tryz.prog W 0 sp held fuel 376 cs=some (.agg _,p) from h) i hi
  rw [c9,Nat.mul_one] at ht
  obtain ⟨s,h1,h2,_⟩:=DataW.trod_string Tryz.underlying9 ht
  refine ⟨s,zyx h1,?_⟩
  simp only [Prod.mk.injEq] at h2
  rw [← h2.1]
  exact hd
 have E:∀ (s:ByteArray) (l:List UInt8),s.data.toList=l→s=⟨l.toArray⟩:=fun s l e=>by
  cases s
  simp only at e
  rw [← e]
 apply List.ext_getElem?
 intro i
 by_cases hi:i < 10
 ·obtain ⟨s,h1,h2⟩:=H i hi
  rw [h1]
  match i,hi with
  | 0,_=>simp [Rows.laid_mangrove_blake_orders] at h2;rw [E s _ h2.symm];rfl
  | 1,_=>simp [Rows.laid_mangrove_blake_orders] at h2;rw [E s _ h2.symm];rfl
  | 2,_=>simp [Rows.laid_mangrove_blake_orders] at h2;rw [E s _ h2.symm];rfl
  | 3,_=>simp [Rows.laid_mangrove_blake_orders] at h2;rw [E s _ h2.symm];rfl
  | 4,_=>simp [Rows.laid_mangrove_blake_orders] at h2;rw [E s _ h2.symm];rfl
  | 5,_=>simp [Rows.laid_mangrove_blake_orders] at h2;rw [E s _ h2.symm];rfl
  | 6,_=>simp [Rows.laid_mangrove_blake_orders] at h2;rw [E s _ h2.symm];rfl
  | 7,_=>simp [Rows.laid_mangrove_blake_orders] at h2;rw [E s _ h2.symm];rfl
  | 8,_=>simp [Rows.laid_mangrove_blake_orders] at h2;rw [E s _ h2.symm];rfl
  | 9,_=>simp [Rows.laid_mangrove_blake_orders] at h2;rw [E s _ h2.symm];rfl
  | i + 10,h=>omega
 ·rw [List.getElem?_eq_none (by omega),List.getElem?_eq_none (by show 10 ≤ i;omega)]
theorem zac2 {cs:List Value} {p:List MemPlace} {a b c:Int} (h:DataW.trod enc Tryz.prog W 0 sp held fuel 299 cs=some (.agg [.lit (.int .u8 a),.lit (.int .i64 b),.lit (.int .u64 c)],p)):cs[0]?=some (.int .u8 a)∧cs[1]?=some (.int .i64 b)∧cs[2]?=some (.int .u64 c):=by
 obtain ⟨xs,n,rfl,hx,hl,hxl,hall⟩:=DataW.trod_struct Tryz.underlying299 h
 have h0:DataW.trod enc Tryz.prog W 0 sp held n 5 ((cs.drop 0).take (Tryz.prog.cellsOf 5))=xs[0]?:=hall 0 _ rfl
 have h1:DataW.trod enc Tryz.prog W 0 sp held n 3 ((cs.drop 1).take (Tryz.prog.cellsOf 3))=xs[1]?:=hall 1 _ rfl
 have h2:DataW.trod enc Tryz.prog W 0 sp held n 283 ((cs.drop 2).take (Tryz.prog.cellsOf 283))=xs[2]?:=hall 2 _ rfl
 rw [show Tryz.prog.cellsOf 5=1 by kernel_rfl] at h0
 rw [show Tryz.prog.cellsOf 3=1 by kernel_rfl] at h1
 rw [show Tryz.prog.cellsOf 283=1 by kernel_rfl] at h2
 match xs,hxl,hx,h0,h1,h2 with
 | [x0,x1,x2],_,hx,h0,h1,h2=>
  simp only [List.map_cons,List.map_nil,Prod.mk.injEq,DataW.agg.injEq,List.cons.injEq] at hx
  obtain ⟨⟨e0,e1,e2,_⟩,_⟩:=hx
  obtain ⟨n0,c0,y0,_⟩:=DataW.trod_int Tryz.underlying5 (show DataW.trod _ Tryz.prog W 0 _ _ n 5 _=some x0 from h0)
  obtain ⟨n1,c1,y1,_⟩:=DataW.trod_int Tryz.underlying3 (show DataW.trod _ Tryz.prog W 0 _ _ n 3 _=some x1 from h1)
  obtain ⟨n2,c2,y2,_⟩:=DataW.trod_int Tryz.underlying283 (show DataW.trod _ Tryz.prog W 0 _ _ n 283 _=some x2 from h2)
  rw [y0] at e0
  rw [y1] at e1
  rw [y2] at e2
  simp only [DataW.lit.injEq,Lit.int.injEq,true_and] at e0 e1 e2
  exact ⟨by rw [e0];exact zyx c0,by rw [e1];exact zyx c1,by rw [e2];exact zyx c2⟩
end
theorem zac3 {W:World} (h:laidMetH Tryz.prog zoi W):Forms W∧Tabs W:=by
 rw [MakeChecks.laidMetH_plain _ _ _ (by kernel_rfl)] at h
 obtain ⟨ps,⟨g0,t0,cs0,f0,p0,q0,hg0,ht0,hv0,hd0,⟨g1,t1,cs1,f1,p1,q1,hg1,ht1,hv1,hd1,⟨g2,t2,cs2,f2,p2,q2,hg2,ht2,hv2,hd2,e3,e2⟩,e1⟩,e0⟩,_,hps⟩:=h
 obtain rfl:=Option.some.inj (gBeg.symm.trans hg0)
 obtain rfl:=Option.some.inj (gOrd.symm.trans hg1)
 obtain rfl:=Option.some.inj (gFor.symm.trans hg2)
 obtain rfl:=Option.some.inj (tBeg.symm.trans ht0)
 obtain rfl:=Option.some.inj (tOrd.symm.trans ht1)
 obtain rfl:=Option.some.inj (tFor.symm.trans ht2)
 have B0:cs0=uts begV:=by
  have:=Lib.cells_of_tab (P:=Tryz.prog) (zs:=begV) (k:=.u32) (n:=8) (e:=309) Tryz.underlying311 Tryz.underlying309 (by kernel_rfl) (by kernel_rfl) hd0
  rw [← Array.toArray_toList (xs:=cs0),this]
  rfl
 have B1:cs1=ordC:=by
  rw [← Array.toArray_toList (xs:=cs1),ord_of hd1]
 obtain ⟨t4,G4⟩:=zms gBeg hv0 (by rw [B0];decide) (fun x hx=>by rw [e0];simp [hx]) hps
 obtain ⟨t5,G5⟩:=zms gOrd hv1 (by rw [B1];decide) (fun x hx=>by rw [e0,e1];simp [hx]) hps
 rw [B0] at G4
 rw [B1] at G5
 refine ⟨?_,⟨⟨t4,G4⟩,⟨t5,G5⟩⟩⟩
 have c179:Tryz.prog.cellsOf 299=3:=by kernel_rfl
 have F:∀ i,i < 3→∃ d:DataW Unit,(match (Rows.laid_mangrove_pack_forms:DataW Unit) with | .agg l=>l[i]? | _=>none)=some d∧∃ f q,DataW.trod (fun _=>()) Tryz.prog W 0 (fun _=>true) false f 299 ((cs2.toList.drop (i * 3)).take 3)=some (d,q):=fun i hi=>by
  obtain ⟨f,d,q,hd,ht⟩:=Lib.array_elem Tryz.underlying300 (show DataW.trod _ Tryz.prog W 0 _ false _ 300 cs2.toList=some (.agg _,p2) from hd2) i hi
  rw [c179] at ht
  exact ⟨d,hd,f,q,ht⟩
 have K:∀ i a b c,i < 3→(match (Rows.laid_mangrove_pack_forms:DataW Unit) with | .agg l=>l[i]? | _=>none)=some (.agg [.lit (.int .u8 a),.lit (.int .i64 b),.lit (.int .u64 c)])→cs2[i * 3]?=some (.int .u8 a)∧cs2[i * 3 + 1]?=some (.int .i64 b)∧cs2[i * 3 + 2]?=some (.int .u64 c):=fun i a b c hi e=>by
  obtain ⟨d,hd,f,q,ht⟩:=F i hi
  rw [e] at hd
  cases hd
  obtain ⟨k0,k1,k2⟩:=zac2 ht
  simp [List.getElem?_drop] at k0 k1 k2
  exact ⟨by simpa using k0,by simpa using k1,by simpa using k2⟩
 obtain ⟨a0,a1,a2⟩:=K 0 253 2 253 (by decide) rfl
 obtain ⟨b0,b1,b2⟩:=K 1 254 4 65536 (by decide) rfl
 obtain ⟨c0,c1,c2⟩:=K 2 255 8 4294967296 (by decide) rfl
 intro j v hj
 rw [World.var?_cell gFor hv2 j]
 match j with
 | 0=>simp [zdk] at hj;rw [← hj];exact a0
 | 1=>simp [zdk] at hj;rw [← hj];exact a1
 | 2=>simp [zdk] at hj;rw [← hj];exact a2
 | 3=>simp [zdk] at hj;rw [← hj];exact b0
 | 4=>simp [zdk] at hj;rw [← hj];exact b1
 | 5=>simp [zdk] at hj;rw [← hj];exact b2
 | 6=>simp [zdk] at hj;rw [← hj];exact c0
 | 7=>simp [zdk] at hj;rw [← hj];exact c1
 | 8=>simp [zdk] at hj;rw [← hj];exact c2
 | j + 9=>simp [zdk] at hj
end Go.Proofs.YthjgiamfaijoeaaGreatDoor
namespace Go.Proofs.YthjgiamfaijoeaaGreatDoor
open Go.ChangeShapes Go.WideShapes Go.ChangeAt Go.RowKit
set_option linter.unusedVariables false
set_option maxRecDepth 100000
theorem ownK26:ownKnob Tryz.prog.godebug=none:=by kernel_rfl
theorem zvp:laidOutB Tryz.prog=true:=by kernel_rfl
theorem zvq (os:Os) (args:Array Value):laidMetH Tryz.prog zoi ((World.laidAll Tryz.prog os zoi).forCall (fun _ _=>0) ⟨#[],args,[]⟩).memory:=by
 rw [MakeChecks.laidMetH_plain _ _ _ (by kernel_rfl)]
 exact laidMet_laidAll args (by kernel_rfl) (by kernel_rfl)
theorem zf0 {w:World} {a:Addr} {v:Value} (h:w.cell? a=some v):a=⟨a.block,a.off,none⟩:=by
 obtain ⟨b,o,s⟩:=a
 unfold World.cell? at h
 split at h
 ·simp only at h
  split at h
  ·cases h
  ·rename_i hs
   cases s with
   | none=>rfl
   | some _=>simp at hs
 ·cases h
theorem zac4 {H:Type} {enc:TypeId × Value→H} {w:World} {v:Value} {d:DataW H} {p:List MemPlace} (hv:∃ a n c,v=.slice a n c) (h:DataW.Trod enc Tryz.prog w 0 (fun _=>true) true 31 v d p):∃ (ao:Option Addr) (c:Nat) (K:List Int),v=.slice ao K.length c∧(K.length ≤ 100→KeepAt w ao K):=by
 obtain ⟨a,n,c,rfl⟩:=hv
 obtain ⟨m,hm⟩:=h
 rcases open_ints Tryz.underlying31 Tryz.underlying3 (by kernel_rfl) hm with ⟨h1,_⟩ | ⟨a',len,cap,zs,h1,_,hle,hmx,hzl,_,hcell,hwf⟩
 ·have:Value.slice a n c=.slice none 0 0:=by simpa [Value.cells] using h1
  cases this
  exact ⟨none,0,[],rfl,fun _=>⟨fun j x h=>by simp at h,fun x h=>by simp at h,by decide⟩⟩
 ·have:Value.slice a n c=.slice (some a') len cap:=by simpa [Value.cells] using h1
  cases this
  have hzl':zs.length=c:=by simpa using hzl
  have hn:(zs.take n).length=n:=by rw [List.length_take];omega
  refine ⟨some a',c,zs.take n,by rw [hn],fun h100=>⟨fun j x hj=>?_,fun x hx=>?_,by omega⟩⟩
  ·rw [List.getElem?_take] at hj
   split at hj
   ·rename_i hjn
    have hp:=zf0 (hcell 0 (by omega))
    have ha:a'=⟨a'.block,a'.off,none⟩:=by rwa [show a'.add 0=a' from zcx a'] at hp
    have hc1:=hcell j (by omega)
    rw [ha,zar] at hc1
    have hz:zs[j]?=some (zs.getD j 0):=by rw [List.getD_eq_getElem?_getD,List.getElem?_eq_getElem (show j < zs.length by omega)];rfl
    rw [hz] at hj
    cases hj
    exact ⟨a'.block,a'.off,congrArg some ha,hc1⟩
   ·cases hj
  ·have:=hwf x (List.mem_of_mem_take hx)
   simp [Lit.wf,IntKind.min,IntKind.max,IntKind.signed,IntKind.bits] at this
   omega
structure ItemsR {α:Type} (P:α→Nat→Nat→Prop) (size:Nat) (ao:Option Addr) (n c:Nat) (L:List α):Prop where
 len:L.length=n
 le:n ≤ c
 mx:n ≤ 9223372036854775807
 nil:ao=none→c=0
 each:∀ (i:Nat) x,L[i]?=some x→∃ b o,ao=some ⟨b,o,none⟩∧P x b (o + i * size)
theorem zyy {H α:Type} [Inhabited α] {enc:TypeId × Value→H} {w:World} {t e:TypeId} {size fuel:Nat} {x:DataW H × List MemPlace} {ao:Option Addr} {n c:Nat} (P:α→Nat→Nat→Prop) (ht:Tryz.prog.underlying t=some (.slice e)) (hc:Tryz.prog.cellsOf e=size)
  (h:DataW.trod enc Tryz.prog w 0 (fun _=>true) true fuel t [.slice ao n c]=some x)
  (he:∀ (a:Addr) (m:Nat) (y:DataW H × List MemPlace),(w.cells? 0 a size).bind (DataW.trod enc Tryz.prog w 0 (fun _=>true) true m e)=some y→a=⟨a.block,a.off,none⟩∧∃ f,P f a.block a.off):∃ L:List α,ItemsR P size ao n c L:=by
 rcases DataW.trod_slice ht h with ⟨h1,_⟩ | ⟨a',len,cap,elems,rest,n',_,h1,hx,_,hle,hmx,hlen,hel,_⟩
 ·have:Value.slice ao n c=.slice none 0 0:=by simpa using h1
  cases this
  exact ⟨[],rfl,zac9 _,by omega,fun _=>rfl,fun i x h=>by simp at h⟩
 ·have:Value.slice ao n c=.slice (some a') len cap:=by simpa using h1
  cases this
  rw [hc] at hel
  have H:∀ i:Nat,∃ f:α,i < n→a'=⟨a'.block,a'.off,none⟩∧P f a'.block (a'.off + i * size):=fun i=>by
   by_cases hi:i < n
   ·have h2:=hel i hi
    rw [List.getElem?_eq_getElem (show i < elems.length by omega)] at h2
    obtain ⟨_,f,hf⟩:=he _ _ _ h2
    have h3:=hel 0 (by omega)
    rw [List.getElem?_eq_getElem (show 0 < elems.length by omega)] at h3
    have ha:=(he _ _ _ h3).1
    rw [Nat.zero_mul,zcx] at ha
    refine ⟨f,fun _=>⟨ha,?_⟩⟩
    rw [ha,zar] at hf
    exact hf
   ·exact ⟨default,fun h=>absurd h hi⟩
  obtain ⟨F,hF⟩:=Classical.axiomOfChoice H
  refine ⟨(List.range n).map F,by simp,by simpa using hle,by simp only [maxLen] at hmx;omega,(fun h=>by cases h),fun i f hf=>?_⟩
  rw [List.getElem?_map,Option.map_eq_some_iff] at hf
  obtain ⟨j,hj,rfl⟩:=hf
  have hi:i < n:=by simpa using (List.getElem?_eq_some_iff.1 hj).1
  rw [List.getElem?_range hi] at hj
  cases hj
  obtain ⟨q1,q2⟩:=hF i hi
  exact ⟨_,_,congrArg some q1,q2⟩
section
variable {H:Type} {enc:TypeId × Value→H} {w:World}
theorem zdf {n:Nat} {x:Value} {r:List Value} {y:DataW H × List MemPlace} (h:DataW.trod enc Tryz.prog w 0 (fun _=>true) true n 3 (List.take (Tryz.prog.cellsOf 3) (x :: r))=some y):∃ k,x=.int .i64 k∧I64 k:=by
 rw [show Tryz.prog.cellsOf 3=1 by kernel_rfl] at h
 obtain ⟨k,hk,_,hw⟩:=DataW.trod_int Tryz.underlying3 h
 refine ⟨k,by simpa using hk,?_⟩
 simp [Lit.wf,IntKind.min,IntKind.max,IntKind.signed,IntKind.bits] at hw
 unfold I64
 omega
theorem zvr {n:Nat} {x0 x1 x2:Value} {r:List Value} {y:DataW H × List MemPlace} (h:DataW.trod enc Tryz.prog w 0 (fun _=>true) true n 30 (List.take (Tryz.prog.cellsOf 30) (x0 :: x1 :: x2 :: r))=some y):∃ l:Lg,x0=.int .i64 l.w∧x1=.int .i64 l.a∧x2=.int .i64 l.u:=by
 rw [show Tryz.prog.cellsOf 30=3 by kernel_rfl] at h
 have h:DataW.trod enc Tryz.prog w 0 (fun _=>true) true n 30 [x0,x1,x2]=some y:=h
 obtain ⟨xs,n',_,_,_,hxl,hfs⟩:=DataW.trod_struct Tryz.underlying30 h
 have f0:=hfs 0 _ rfl
 have f1:=hfs 1 _ rfl
 have f2:=hfs 2 _ rfl
 obtain ⟨y0,hy0⟩:∃ y,xs[0]?=some y:=⟨_,List.getElem?_eq_getElem (by rw [hxl];decide)⟩
 obtain ⟨y1,hy1⟩:∃ y,xs[1]?=some y:=⟨_,List.getElem?_eq_getElem (by rw [hxl];decide)⟩
 obtain ⟨y2,hy2⟩:∃ y,xs[2]?=some y:=⟨_,List.getElem?_eq_getElem (by rw [hxl];decide)⟩
 rw [hy0] at f0
 rw [hy1] at f1
 rw [hy2] at f2
 obtain ⟨a,ha,_⟩:=zdf (show DataW.trod enc Tryz.prog w 0 (fun _=>true) true n' 3 (List.take (Tryz.prog.cellsOf 3) [x0,x1,x2])=some y0 from f0)
 obtain ⟨b,hb,_⟩:=zdf (show DataW.trod enc Tryz.prog w 0 (fun _=>true) true n' 3 (List.take (Tryz.prog.cellsOf 3) [x1,x2])=some y1 from f1)
 obtain ⟨c,hc,_⟩:=zdf (show DataW.trod enc Tryz.prog w 0 (fun _=>true) true n' 3 (List.take (Tryz.prog.cellsOf 3) [x2])=some y2 from f2)
 exact ⟨⟨a,b,c⟩,ha,hb,hc⟩
instance:Inhabited Ac:=⟨⟨0,0,0,0,0,0,0,Lg.zero,Lg.zero,.slice none 0 0⟩⟩
set_option maxHeartbeats 4000000 in
theorem act_of (a:Addr) (m:Nat) (y:DataW H × List MemPlace) (h:(w.cells? 0 a 14).bind (DataW.trod enc Tryz.prog w 0 (fun _=>true) true m 33)=some y):a=⟨a.block,a.off,none⟩∧∃ f:Ac,AcAt w f a.block a.off:=by
 rw [Option.bind_eq_some_iff] at h
 obtain ⟨cs,hcs,hf⟩:=h
 obtain ⟨_,hl,hc⟩:=World.cells?_some hcs
 match cs,hl with
 | [x0,x1,x2,x3,x4,x5,x6,x7,x8,x9,x10,x11,x12,x13],_=>
  obtain ⟨ys,n',_,_,_,hxl,hfs⟩:=DataW.trod_struct Tryz.underlying33 hf
  have f0:=hfs 0 _ rfl
  obtain ⟨y0,hy0⟩:∃ y,ys[0]?=some y:=⟨_,List.getElem?_eq_getElem (by rw [hxl];decide)⟩
  rw [hy0] at f0
  have f1:=hfs 1 _ rfl
  obtain ⟨y1,hy1⟩:∃ y,ys[1]?=some y:=⟨_,List.getElem?_eq_getElem (by rw [hxl];decide)⟩
  rw [hy1] at f1
  have f2:=hfs 2 _ rfl
  obtain ⟨y2,hy2⟩:∃ y,ys[2]?=some y:=⟨_,List.getElem?_eq_getElem (by rw [hxl];decide)⟩
  rw [hy2] at f2
  have f3:=hfs 3 _ rfl
  obtain ⟨y3,hy3⟩:∃ y,ys[3]?=some y:=⟨_,List.getElem?_eq_getElem (by rw [hxl];decide)⟩
  rw [hy3] at f3
  have f4:=hfs 4 _ rfl
  obtain ⟨y4,hy4⟩:∃ y,ys[4]?=some y:=⟨_,List.getElem?_eq_getElem (by rw [hxl];decide)⟩
  rw [hy4] at f4
  have f5:=hfs 5 _ rfl
  obtain ⟨y5,hy5⟩:∃ y,ys[5]?=some y:=⟨_,List.getElem?_eq_getElem (by rw [hxl];decide)⟩
  rw [hy5] at f5
  have f6:=hfs 6 _ rfl
  obtain ⟨y6,hy6⟩:∃ y,ys[6]?=some y:=⟨_,List.getElem?_eq_getElem (by rw [hxl];decide)⟩
  rw [hy6] at f6
  have f7:=hfs 7 _ rfl
  obtain ⟨y7,hy7⟩:∃ y,ys[7]?=some y:=⟨_,List.getElem?_eq_getElem (by rw [hxl];decide)⟩
  rw [hy7] at f7
  have f8:=hfs 8 _ rfl
  obtain ⟨y8,hy8⟩:∃ y,ys[8]?=some y:=⟨_,List.getElem?_eq_getElem (by rw [hxl];decide)⟩
  rw [hy8] at f8
  have f9:=hfs 9 _ rfl
  obtain ⟨y9,hy9⟩:∃ y,ys[9]?=some y:=⟨_,List.getElem?_eq_getElem (by rw [hxl];decide)⟩
  rw [hy9] at f9
  obtain ⟨k0,e0,i0⟩:=zdf (show DataW.trod enc Tryz.prog w 0 (fun _=>true) true n' 3 (List.take (Tryz.prog.cellsOf 3) [x0,x1,x2,x3,x4,x5,x6,x7,x8,x9,x10,x11,x12,x13])=some y0 from f0)
  obtain ⟨k1,e1,i1⟩:=zdf (show DataW.trod enc Tryz.prog w 0 (fun _=>true) true n' 3 (List.take (Tryz.prog.cellsOf 3) [x1,x2,x3,x4,x5,x6,x7,x8,x9,x10,x11,x12,x13])=some y1 from f1)
  obtain ⟨k2,e2,i2⟩:=zdf (show DataW.trod enc Tryz.prog w 0 (fun _=>true) true n' 3 (List.take (Tryz.prog.cellsOf 3) [x2,x3,x4,x5,x6,x7,x8,x9,x10,x11,x12,x13])=some y2 from f2)
  obtain ⟨k3,e3,i3⟩:=zdf (show DataW.trod enc Tryz.prog w 0 (fun _=>true) true n' 3 (List.take (Tryz.prog.cellsOf 3) [x3,x4,x5,x6,x7,x8,x9,x10,x11,x12,x13])=some y3 from f3)
  obtain ⟨k4,e4,i4⟩:=zdf (show DataW.trod enc Tryz.prog w 0 (fun _=>true) true n' 3 (List.take (Tryz.prog.cellsOf 3) [x4,x5,x6,x7,x8,x9,x10,x11,x12,x13])=some y4 from f4)
  obtain ⟨k5,e5,i5⟩:=zdf (show DataW.trod enc Tryz.prog w 0 (fun _=>true) true n' 3 (List.take (Tryz.prog.cellsOf 3) [x5,x6,x7,x8,x9,x10,x11,x12,x13])=some y5 from f5)
  obtain ⟨k6,e6,i6⟩:=zdf (show DataW.trod enc Tryz.prog w 0 (fun _=>true) true n' 3 (List.take (Tryz.prog.cellsOf 3) [x6,x7,x8,x9,x10,x11,x12,x13])=some y6 from f6)
  obtain ⟨lp,p0,p1,p2⟩:=zvr (show DataW.trod enc Tryz.prog w 0 (fun _=>true) true n' 30 (List.take (Tryz.prog.cellsOf 30) [x7,x8,x9,x10,x11,x12,x13])=some y7 from f7)
  obtain ⟨lg,g0,g1,g2⟩:=zvr (show DataW.trod enc Tryz.prog w 0 (fun _=>true) true n' 30 (List.take (Tryz.prog.cellsOf 30) [x10,x11,x12,x13])=some y8 from f8)
  have f9':DataW.trod enc Tryz.prog w 0 (fun _=>true) true n' 31 (List.take (Tryz.prog.cellsOf 31) [x13])=some y9:=f9
  rw [show Tryz.prog.cellsOf 31=1 by kernel_rfl] at f9'
  have hsl:∃ ax nx cx,x13=.slice ax nx cx:=by
   rcases DataW.trod_slice Tryz.underlying31 f9' with ⟨h,_⟩ | ⟨a,len,cap,_,_,_,_,h,_⟩
   ·exact ⟨_,_,_,by simpa using h⟩
   ·exact ⟨_,_,_,by simpa using h⟩
  obtain ⟨bx,my,dy,rfl⟩:=hsl
  obtain ⟨ao,cc,K,hv,hk⟩:=zac4 (v:=.slice bx my dy) (d:=y9.1) (p:=y9.2) ⟨_,_,_,rfl⟩ ⟨n',f9'⟩
  have hp:a=⟨a.block,a.off,none⟩:=by
   have h0:=hc 0 (by decide)
   have h0:w.cell? (a.add 0)=some x0:=h0
   rw [zcx] at h0
   exact zf0 h0
  refine ⟨hp,⟨k0,k1,k2,k3,k4,k5,k6,lp,lg,.slice bx my dy⟩,⟨fun j hj=>?_,i3,⟨ao,cc,K,hv,hk⟩⟩⟩
  have hj':=hc j hj
  rw [hp,zar] at hj'
  refine hj'.trans ?_
  subst e0 e1 e2 e3 e4 e5 e6 p0 p1 p2 g0 g1 g2
  match j,hj with
  | 0,_=>rfl
  | 1,_=>rfl
  | 2,_=>rfl
  | 3,_=>rfl
  | 4,_=>rfl
  | 5,_=>rfl
  | 6,_=>rfl
  | 7,_=>rfl
  | 8,_=>rfl
  | 9,_=>rfl
  | 10,_=>rfl
  | 11,_=>rfl
  | 12,_=>rfl
  | 13,_=>rfl
  | j + 14,h=>omega
theorem zac5 {v:Value} {d:DataW H} {p:List MemPlace} (hv:∃ a n c,v=.slice a n c) (h:DataW.Trod enc Tryz.prog w 0 (fun _=>true) true 22 v d p):∃ ao c,∃ L:List Ac,v=.slice ao L.length c∧ActsAt w ao L:=by
 obtain ⟨a,n,c,rfl⟩:=hv
 obtain ⟨m,hm⟩:=h
 obtain ⟨L,hL⟩:=zyy (AcAt w) Tryz.underlying22 (by kernel_rfl) hm act_of
 exact ⟨a,c,L,by rw [hL.len],⟨hL.each⟩⟩
end
end Go.Proofs.YthjgiamfaijoeaaGreatDoor
namespace Go.Proofs.YthjgiamfaijoeaaGreatDoor
open Go.ChangeShapes Go.WideShapes Go.ChangeAt Go.RowKit
set_option linter.unusedVariables false
set_option maxRecDepth 100000
namespace lawManyAgreed
theorem lifted (os:Os) (started:os.Started) (H:Type) (enc:TypeId × Value→H):
  ReturnsInHanded {} Tryz.checked os 3 .any (fun w args=>(Rows.manyAgreedSpec.pre enc Tryz.prog Tryz.f3 [] false w args∧laidMetH Tryz.prog zoi w)∧sizedMet enc Tryz.prog Tryz.f3 (OpenSpec.ofChange Rows.manyAgreedSpec) false w args)
   (Rows.manyAgreedSpec.post enc Tryz.prog Tryz.f3 false true false false):=by
 refine returnsInHanded_of_change_and (C:=Tryz.checked) (X:=fun w _=>laidMetH Tryz.prog zoi w) (fun _ _ _ hh h=>h.of_heap hh) ownK26 started (by kernel_rfl) Tryz.func3
  (ChangeSpec.witness_shaped (enc:=enc) (C:=Tryz.checked) (os:=os) (X:=fun w _=>laidMetH Tryz.prog zoi w) false (World.laidAll Tryz.prog os zoi) #[.int .i64 0,.slice none 0 0] 8 rfl (World.shaped_of_ZipB (by kernel_rfl) (by kernel_rfl)) (by kernel_rfl) (by kernel_rfl) (by kernel_rfl) (zvq os _)) ?_
 intro W base args ds gs before hval0 hW _ _ hL _
 have hval:∀ (j:Nat) t v,Tryz.f3.params[j]?=some t→args[j]?=some v→Value.okWide Tryz.prog W .any base t v:=hval0
 have hW':=hW
 obtain ⟨p,q,hA0,hV,rfl,hfz,hnd⟩:=hW
 have hA:DataW.TrodAll enc Tryz.prog W 0 (fun _=>true) true Tryz.f3.params.toList args.toList ds p:=hA0
 rw [Tryz.params3] at hA hval
 obtain ⟨v0,vs0,d0,ds0,p0,q0,hargs,rfl,rfl,h0,r0⟩:=trodAll_cons hA
 obtain ⟨v1,vs1,d1,ds1,p1,q1,rfl,rfl,rfl,h1,r1⟩:=trodAll_cons r0
 obtain ⟨rfl,rfl,rfl⟩:=trodAll_nil r1
 obtain rfl:args=#[v0,v1]:=by cases args;simp_all
 obtain ⟨rfl,rfl⟩:=trodVars_none hV
 have lt0:∀ x ∈ p0,x.block < W.heap.size:=by obtain ⟨m,hm⟩:=h0;exact DataW.trod_lt m _ _ _ hm
 have lt1:∀ x ∈ p1,x.block < W.heap.size:=by obtain ⟨m,hm⟩:=h1;exact DataW.trod_lt m _ _ _ hm
 obtain ⟨a0,rfl⟩:=okWide_int Tryz.underlying3 (hval 0 3 v0 rfl rfl)
 obtain ⟨ao,cc,L,rfl,HA⟩:=zac5 (okWide_slice Tryz.underlying22 (hval 1 22 v1 rfl rfl)) h1
 obtain ⟨hf,ht⟩:=zac3 hL
 clear hA0 hval0
 refine (zrv hf ht HA).mono fun e W' he=>?_
 obtain ⟨rfl,hb⟩:=he
 exact ⟨_,rfl,_,_,_,[],_,[],hW',trodAll_mk1 (shut_bool Tryz.underlying4 _),(trodAll_cons_mk (Below.trod zvp (by kernel_rfl) (of_decide_eq_true (by kernel_rfl)) h0 hb lt0) (trodAll_cons_mk (Below.trod zvp (by kernel_rfl) (of_decide_eq_true (by kernel_rfl)) h1 hb lt1) trodAll_mk0)),rfl,hb.frame _,fun h=>by cases h⟩
end lawManyAgreed
end Go.Proofs.YthjgiamfaijoeaaGreatDoor
