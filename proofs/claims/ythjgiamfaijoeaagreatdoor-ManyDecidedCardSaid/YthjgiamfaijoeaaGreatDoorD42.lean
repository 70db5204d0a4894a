/- What is proved: parts of the walk and of the plain law. No condition but those each law names. -/
import Derived.Test.YthjgiamfaijoeaaGreatDoorD41
import Derived.Test.YthjgiamfaijoeaaGreatDoorD38
import Derived.Test.YthjgiamfaijoeaaGreatDoorRows
import Derived.Lib.LaidTab
import Derived.Lib.LaidU8
import Derived.LaidMore
import Derived.OpenShut
import Derived.Stop.Joined
import Derived.ProofKit
import Derived.Lay
import Derived.DataReads
import Derived.ChangeSlices
import Derived.Test.YthjgiamfaijoeaaGreatDoorD00
set_option linter.unusedSimpArgs false
set_option linter.unusedVariables false
set_option maxRecDepth 100000
namespace Go.Proofs.YthjgiamfaijoeaaGreatDoor
section
open Go.RowKit
open Sx (Ab DW Turns Did Foot MapIs)
attribute [local go_sem ↓] zad zwc
attribute [local go_sem] zaf zai zaj zal zab zah zac zak zae zaw za2 Sx.run_mk Ext.row Ext.soft_
set_option maxHeartbeats 16000000 in
theorem zov {w:World} (hF:Forms w) (hT:Tabs w) {n:Int} {ao:Option Addr} {cap:Nat} {L:List Ac} (h:ActsAt w ao L):Calls Tryz.prog 5 #[.int .i64 n,.slice ao L.length cap] w fun e w'=>e=.returned (.bool true)∧Below w.heap.size w w':=by
 have HF:=zadv (zadx hF hT)
 have HA:=zadv h
 clear hF hT h
 go_enter Tryz.func5,Tryz.ntmps5
 go_wp2_with fail
 refine (zaab w).mono ?_
 rintro _ W0 ⟨r,hr,rfl,rfl⟩
 obtain ⟨N,eN⟩:∃ N:Nat,(N:Int)=2 + r:=⟨(2 + r).toNat,by omega⟩
 have wN:IntKind.i64.wrap (2 + r)=N:=(zar (by omega) (by omega)).trans eN.symm
 have HN:=zadv (show 2 ≤ N∧N ≤ 4 by omega)
 clear hr eN
 go_wp2_with fail
 refine (zv9 (n:=N) ⟨HN.out.1,by have:=HN.out;omega⟩ HF.out.1 HF.out.2).mono ?_
 rintro _ V ⟨c,sd,rfl,cn,wx,hu⟩
 obtain rfl:c.N=N:=cn.1
 have WA:=zadv (zadx (Wst.start wx (by have:=HN.out;omega)) hu)
 have AV:=zadv (HA.out.below (hu.trans (wx.low.mono hu.size)))
 have GR:=zadv (zv8 (cap:=cap) AV.out)
 clear cn wx hu wN
 go_wp2_with fail
 refine GR.out.mono ?_
 rintro _ V2 ⟨rfl,v,rfl,hv⟩
 have HV:=zadv hv
 clear hv GR
 rcases HV.out with rfl | ⟨rfl,md⟩
 ·have WK:=zadv (zwb WA.out.1.wx.f WA.out.1.wx.t)
  go_wp2_with (go_at_call 9;refine WK.out.mono ?_;rintro _ U ⟨rfl,hb⟩;have LO:=zadv hb;clear hb)
  go_ret
  have lo:=WA.out.1.wx.low
  exact ⟨rfl,WA.out.2.trans ((lo.trans (LO.out.mono lo.size)).mono WA.out.2.size)⟩
 have MD:=zadv md
 clear HV md
 by_cases h60:L.length > 60
 ·have l60:((L.length:Int) > 60)=True:=eq_true (by omega)
  have WK:=zadv (zwb WA.out.1.wx.f WA.out.1.wx.t)
  clear h60
  go_wp2_with (go_at_call 9;refine WK.out.mono ?_;rintro _ U ⟨rfl,hb⟩;have LO:=zadv hb;clear hb)
  go_ret
  have lo:=WA.out.1.wx.low
  exact ⟨rfl,WA.out.2.trans ((lo.trans (LO.out.mono lo.size)).mono WA.out.2.size)⟩
 have l60:((L.length:Int) > 60)=False:=eq_false (by omega)
 have H60:=zadv h60
 clear h60
 go_upto_region 6 with (fail)
 clear l60
 go_loopw [6] (fun i wr=>∃ j:Nat,j ≤ L.length∧i=.int .i64 j∧Nx c j wr) (fun i _=>L.length - (intOf i).toNat)
 case atStart=>exact ⟨0,Nat.zero_le _,rfl,WA.out.1.nx (zadw _)⟩
 case round=>
  obtain ⟨j,hj,rfl,nx⟩:=hrel
  obtain ⟨f,xs,ls,now,st,hl⟩:=nx
  have ST:=zadv (zadx st hl)
  have low:Below c.u.heap.size c.u wr:=st.wx.low
  have LOW:=zadv (WA.out.2.trans (low.mono WA.out.2.size))
  clear st hl low
  have wj:IntKind.i64.wrap ((j:Int) + 1)=(j:Int) + 1:=zar (by omega) (by have:=MD.out.1;omega)
  by_cases hjl:j < L.length
  ·have j1:(j:Int) < L.length:=by omega
   obtain ⟨x,hx⟩:∃ x,L[j]?=some x:=⟨_,zady hjl⟩
   obtain ⟨b,o,rfl,ka⟩:=(HA.out.below LOW.out).each j x hx
   obtain ⟨rs,re⟩:=ka.row
   obtain ⟨a2,cc,K,hv,hk⟩:=ka.keep
   have kk:=hk (by have:=MD.out.2 x (List.mem_of_getElem? hx);rw [hv] at this;exact this)
   have DO:Calls Tryz.prog 10 #[.pointer (some ⟨c.wb,0,none⟩),.int .i64 c.N,.agg x.cells] wr fun e w'=>e=.returned (.tuple #[])∧Nx { c with cut:=f } (ls.length + 1) w':=zzg ST.out.1 (by show 2 ≤ c.N∧c.N ≤ 5;have:=HN.out;omega) (by have:=ST.out.2;have:=MD.out.1;omega) ka.i64 hv kk
   have DO:=zadv DO
   clear ka hx hv hk kk
   go_upto_region 7 with (go_at_call 10;refine DO.out.mono ?_;rintro _ U ⟨rfl,nx⟩;have NX:=zadv nx;clear nx)
   clear rs re
   obtain ⟨f2,xs2,ls2,now2,st2,hl2⟩:=NX.out
   replace st2:Wst ({ c with cut:=f2 }:Wd) U xs2 ls2 now2:=st2
   have S2:=zadv (zadx st2 hl2)
   clear NX st2 hl2
   go_wp2
   go_roundw
   case rel=>exact ⟨j + 1,by omega,rfl,f2,xs2,ls2,now2,S2.out.1,by have:=S2.out.2;have:=ST.out.2;omega⟩
   case measure=>simp [intOf];omega
  ·obtain rfl:j=L.length:=by omega
   have j1:¬ (L.length:Int) < L.length:=by omega
   have HS:S2 c 1 wr:=⟨f,xs,ls,now,ST.out.1,by have:=ST.out.2;have:=H60.out;omega,fun n n1 n2=>by omega,fun a b h1 h2 h3 q=>by omega⟩
   have HS:=zadv HS
   clear ST wj hj hjl
   go_upto_region 10 with (fail)
   clear j1
   go_loopw [7] (fun i wr=>∃ k:Nat,1 ≤ k∧k ≤ c.N + 1∧i=.int .i64 k∧S2 c k wr) (fun i _=>c.N + 1 - (intOf i).toNat)
   case atStart=>exact ⟨1,by omega,by omega,rfl,HS.out⟩
   case round=>
    obtain ⟨k,hk1,hk2,rfl,h2⟩:=hrel
    have H2:=zadv h2
    clear h2
    have wk:IntKind.i64.wrap ((k:Int) + 1)=((k + 1:Nat):Int):=(zar (by omega) (by have:=HN.out;omega)).trans (by omega)
    by_cases hlt:k ≤ c.N
    ·have i1:(k:Int) ≤ c.N:=by omega
     have AR:=zadv (P_arm H2.out ⟨hk1,hlt⟩)
     go_upto_region 13 with (go_at_call 17;refine AR.out.mono ?_;rintro _ U ⟨rfl,ha⟩;have HAR:=zadv ha;clear ha)
     obtain ⟨b,po,p3,pr⟩:=P_off HAR.out ⟨hk1,hlt⟩
     have PO:=zadv po
     have P3:=zadv p3
     have PR:=zadv pr
     clear po p3 pr AR
     cases b with
     | false=>
      have Q3:=zadv (P3.out rfl)
      clear P3 PR
      go_upto_region 16 with (go_at_call 18;refine PO.out.mono ?_;rintro _ U2 ⟨rfl,rfl⟩)
      go_loopw [8] (fun i wr=>∃ z:Nat,k + 1 ≤ z∧z ≤ c.N + 1∧i=.int .i64 z∧S3 c k z wr) (fun i _=>c.N + 1 - (intOf i).toNat)
      case atStart=>exact ⟨k + 1,zadw _,by omega,rfl,Q3.out⟩
      case round=>
       obtain ⟨z,hz1,hz2,rfl,h3⟩:=hrel
       have H3:=zadv h3
       clear h3
       have wz:IntKind.i64.wrap ((z:Int) + 1)=((z + 1:Nat):Int):=(zar (by omega) (by have:=HN.out;omega)).trans (by omega)
       by_cases hzl:z ≤ c.N
       ·have i2:(z:Int) ≤ c.N:=by omega
        have CU:=zadv (P_cut H3.out hk1 ⟨by omega,hzl⟩)
        obtain ⟨f3,xs3,ls3,now3,st3,_⟩:=H3.out
        obtain ⟨mb,rw0⟩:=zol st3.wx
        replace rw0:rowOf wr c.wb=wrC c.nb mb now3:=rw0
        clear st3
        go_wp2_with (go_at_call 20;refine CU.out.mono ?_;rintro _ U3 ⟨rfl,h3⟩;have H4:=zadv h3;clear h3 rw0)
        go_roundw
        case rel=>exact ⟨z + 1,by omega,by omega,rfl,H4.out⟩
        case measure=>simp [intOf];omega
       ·obtain rfl:z=c.N + 1:=by omega
        have i2:¬ ((c.N + 1:Nat):Int) ≤ c.N:=by omega
        go_wp2
        go_roundw
        case rel=>exact ⟨k + 1,by omega,by omega,rfl,H3.out.up⟩
        case measure=>simp [intOf];omega
     | true=>
      have RE:=zadv (PR.out rfl)
      clear P3 PR
      go_upto_region 16 with (first
       | (go_at_call 18;refine PO.out.mono ?_;rintro _ U2 ⟨rfl,rfl⟩)
       | (go_at_call 19;refine RE.out.mono ?_;rintro _ U4 ⟨rfl,h3⟩;have HR:=zadv h3;clear h3))
      go_loopw [8] (fun i wr=>∃ z:Nat,k + 1 ≤ z∧z ≤ c.N + 1∧i=.int .i64 z∧S3 c k z wr) (fun i _=>c.N + 1 - (intOf i).toNat)
      case atStart=>exact ⟨k + 1,zadw _,by omega,rfl,HR.out⟩
      case round=>
       obtain ⟨z,hz1,hz2,rfl,h3⟩:=hrel
       have H3:=zadv h3
       clear h3
       have wz:IntKind.i64.wrap ((z:Int) + 1)=((z + 1:Nat):Int):=(zar (by omega) (by have:=HN.out;omega)).trans (by omega)
       by_cases hzl:z ≤ c.N
       ·have i2:(z:Int) ≤ c.N:=by omega
        have CU:=zadv (P_cut H3.out hk1 ⟨by omega,hzl⟩)
        obtain ⟨f3,xs3,ls3,now3,st3,_⟩:=H3.out
        obtain ⟨mb,rw0⟩:=zol st3.wx
        replace rw0:rowOf wr c.wb=wrC c.nb mb now3:=rw0
        clear st3
        go_wp2_with (go_at_call 20;refine CU.out.mono ?_;rintro _ U3 ⟨rfl,h3⟩;have H4:=zadv h3;clear h3 rw0)
        go_roundw
        case rel=>exact ⟨z + 1,by omega,by omega,rfl,H4.out⟩
        case measure=>simp [intOf];omega
       ·obtain rfl:z=c.N + 1:=by omega
        have i2:¬ ((c.N + 1:Nat):Int) ≤ c.N:=by omega
        go_wp2
        go_roundw
        case rel=>exact ⟨k + 1,by omega,by omega,rfl,H3.out.up⟩
        case measure=>simp [intOf];omega
    ·obtain rfl:k=c.N + 1:=by omega
     have i1:¬ ((c.N + 1:Nat):Int) ≤ c.N:=by omega
     have HS4:=zadv H2.out.all
     clear H2 HS wk
     go_upto_region 20 with (fail)
     clear i1
     go_loopw [9] (fun i wr=>∃ k:Nat,1 ≤ k∧k ≤ c.N + 1∧i=.int .i64 k∧S4 c k wr) (fun i _=>c.N + 1 - (intOf i).toNat)
     case atStart=>exact ⟨1,by omega,by omega,rfl,HS4.out⟩
     case round=>
      obtain ⟨k,hk1,hk2,rfl,h4⟩:=hrel
      have H4:=zadv h4
      clear h4
      have wk:IntKind.i64.wrap ((k:Int) + 1)=((k + 1:Nat):Int):=(zar (by omega) (by have:=HN.out;omega)).trans (by omega)
      by_cases hlt:k ≤ c.N
      ·have i1:(k:Int) ≤ c.N:=by omega
       obtain ⟨f4,xs4,ls4,now4,st4,l4,cm4,op4,old4⟩:=H4.out
       have fine4:=st4.wx.fine (a:=k) ⟨hk1,hlt⟩
       have SW:=zadv (zadm st4 (a:=k) ⟨hk1,hlt⟩)
       have X4:=zadv (zadx l4 (zadx cm4 (zadx op4 (zadx old4 fine4))))
       clear st4 l4 cm4 op4 old4 fine4
       go_upto_region 24 with (go_at_call 21;refine SW.out.mono ?_;rintro _ V3 ⟨ao3,cap3,ks,ex',rfl,hp,st,hx,hcs⟩)
       have HP:=zadv (zadx hp (zadx hx hcs))
       have hl16:ks.length ≤ 16:=by rw [hp.length_eq,List.length_map];exact X4.out.2.2.2.2.len
       have HL:=zadv hl16
       have S0:S5 { c with ex:=ex' } f4 xs4 now4 k ks 0 ls4 V3:=⟨st,by have:=X4.out.1;omega,X4.out.2.1,X4.out.2.2.1,X4.out.2.2.2.1,fun i hi=>by simp at hi⟩
       have S0:=zadv S0
       clear hp hx hcs st hl16 SW
       go_loopw [11] (fun i wr=>∃ j:Nat,j ≤ ks.length∧i=.int .i64 j∧∃ ls,S5 { c with ex:=ex' } f4 xs4 now4 k ks j ls wr) (fun i _=>ks.length - (intOf i).toNat)
       case atStart=>exact ⟨0,Nat.zero_le _,rfl,_,S0.out⟩
       case round=>
        obtain ⟨j,hj,rfl,ls5,h5⟩:=hrel
        have H5:=zadv h5
        clear h5
        have wj:IntKind.i64.wrap ((j:Int) + 1)=((j + 1:Nat):Int):=(zar (by omega) (by have:=HL.out;omega)).trans (by omega)
        by_cases hjl:j < ks.length
        ·have j1:(j:Int) < ks.length:=by omega
         obtain ⟨kk,hkk⟩:∃ kk,ks[j]?=some kk:=⟨_,zady hjl⟩
         obtain ⟨g,cur,rfl,hmem,hcz,hcap,hsub⟩:=HP.out.2.2 j kk hkk
         obtain ⟨s,hs⟩:=zf4 (HP.out.1.mem_iff.1 (List.mem_of_getElem? hkk))
         have fi:=X4.out.2.2.2.2.at hs
         have hg:wr.heap[g]?=some (.cells cur 62):=H5.out.st.wx.has hmem
         rw [hs] at hsub
         have e0:=hsub 0 (by decide)
         have e1:=hsub 1 (by decide)
         have c0:cur[j * 75 + 0]?=some (.int .i64 s.d.i):=e0.trans (s_0 s)
         have c1:cur[j * 75 + 1]?=some (.int .i64 s.d.r):=e1.trans (s_1 s)
         rw [Nat.add_zero,fi.1] at c0
         have z0:j * 75 < cur.size:=by omega
         have z1:j * 75 + 1 < cur.size:=by omega
         have g0:cur[j * 75]'z0=.int .i64 kk:=Option.some.inj ((Array.getElem?_eq_getElem z0).symm.trans c0)
         have g1:cur[j * 75 + 1]'z1=.int .i64 s.d.r:=Option.some.inj ((Array.getElem?_eq_getElem z1).symm.trans c1)
         have rg:=zaa hg
         have HS5:=zadv (zadx hkk hs)
         clear hg hs fi hkk hsub e0 e1 hmem
         cases hr:(s.d.r == 1) with
         | true=>
          have hr1:s.d.r=1:=by simpa using hr
          have AG:Calls Tryz.prog 22 #[.pointer (some ⟨c.wb,0,none⟩),.int .i64 k,.int .i64 kk] wr fun e w'=>e=.returned (.int .i64 0)∧∃ x,S5 { c with ex:=ex' } f4 xs4 now4 k ks (j + 1) (ls5 ++ [x]) w':=zadn H5.out ⟨hk1,hlt⟩ (by have:=HN.out;show c.N ≤ 4;omega) (by have:=HL.out;omega) HS5.out.1 HS5.out.2 hr1
          have AG:=zadv AG
          clear hr1
          go_wp2_with (go_at_call 22;refine AG.out.mono ?_;rintro _ U5 ⟨rfl,x,h6⟩;have H6:=zadv h6;clear h6)
          go_roundw
          case rel=>exact ⟨j + 1,by omega,rfl,_,H6.out⟩
          case measure=>simp [intOf];omega
         | false=>
          have hr1:s.d.r ≠ 1:=by simpa using hr
          have H6:=zadv (H5.out.skip HS5.out.1 HS5.out.2 hr1)
          clear hr1
          go_wp2
          go_roundw
          case rel=>exact ⟨j + 1,by omega,rfl,_,H6.out⟩
          case measure=>simp [intOf];omega
        ·obtain rfl:j=ks.length:=by omega
         have j1:¬ (ks.length:Int) < ks.length:=by omega
         have H6:=zadv (H5.out.up HP.out.2.1 HP.out.1 HL.out hk1)
         clear H5
         go_wp2
         go_roundw
         case rel=>exact ⟨k + 1,by omega,by omega,rfl,H6.out⟩
         case measure=>simp [intOf];omega
      ·obtain rfl:k=c.N + 1:=by omega
       have i1:¬ ((c.N + 1:Nat):Int) ≤ c.N:=by omega
       have HS6:=zadv (H4.out.all HN.out.2)
       clear H4 HS4 wk
       go_upto_region 29 with (fail)
       clear i1
       go_loopw [12] (fun i wr=>∃ j:Nat,i=.int .i64 j∧S6 c j wr) (fun i _=>248 - (intOf i).toNat)
       case atStart=>exact ⟨0,rfl,HS6.out⟩
       case round=>
        obtain ⟨j,rfl,h6⟩:=hrel
        have H6:=zadv h6
        clear h6
        have j248:j ≤ 248:=by obtain ⟨_,_,_,_,_,_,_,_,_,_,hl⟩:=H6.out;omega
        have wj:IntKind.i64.wrap ((j:Int) + 1)=((j + 1:Nat):Int):=(zar (by omega) (by omega)).trans (by omega)
        have j1:(j:Int) < 1000:=by omega
        obtain ⟨m,pw,pd,pe⟩:=zado H6.out
        obtain ⟨f6,xs6,la,lb,now6,st6,_⟩:=H6.out
        obtain ⟨mb,rw0⟩:=zol st6.wx
        replace rw0:rowOf wr c.wb=wrC c.nb mb now6:=rw0
        have PW:=zadv pw
        have PD:=zadv pd
        have PE:=zadv pe
        have J248:=zadv j248
        clear pw pd pe st6 j248
        by_cases hm:0 < m
        ·have m1:(m:Int) > 0:=by omega
         have DE:=zadv (PD.out hm)
         clear hm
         go_wp2_with (first
          | (go_at_call 23;refine PW.out.mono ?_;rintro _ U6 ⟨rfl,rfl⟩)
          | (go_at_call 24;refine DE.out.mono ?_;rintro _ U7 ⟨rfl,h7⟩;have H7:=zadv h7;clear h7 rw0))
         go_roundw
         case rel=>exact ⟨j + 1,rfl,H7.out⟩
         case measure=>simp [intOf];have:=J248.out;have h8:j + 1 ≤ 248:=(by obtain ⟨_,_,_,_,_,_,_,_,_,_,hl⟩:=H7.out;omega);omega
        ·obtain rfl:m=0:=by omega
         have m1:¬ ((0:Nat):Int) > 0:=by decide
         obtain ⟨f7,xs7,now7,st7,pd7⟩:=PE.out rfl
         have S7:=zadv (zadx st7 pd7)
         have low:Below c.u.heap.size c.u wr:=st7.wx.low
         have LO7:=zadv (WA.out.2.trans (low.mono WA.out.2.size))
         clear hm PD PE H6 HS6 wj j1 st7 pd7 low J248
         go_upto_region 34 with (go_at_call 23;refine PW.out.mono ?_;rintro _ U6 ⟨rfl,rfl⟩)
         clear rw0 m1 PW
         go_loopw [13] (fun i wz=>∃ k:Nat,1 ≤ k∧k ≤ c.N + 1∧i=.int .i64 k∧Below U6.heap.size U6 wz) (fun i _=>c.N + 1 - (intOf i).toNat)
         case atStart=>exact ⟨1,by omega,by omega,rfl,Below.refl _ _⟩
         case round=>
          obtain ⟨k,hk1,hk2,rfl,hb⟩:=hrel
          have HB:=zadv hb
          clear hb
          have wk:IntKind.i64.wrap ((k:Int) + 1)=((k + 1:Nat):Int):=(zar (by omega) (by have:=HN.out;omega)).trans (by omega)
          by_cases hlt:k ≤ c.N
          ·have i1:(k:Int) ≤ c.N:=by omega
           have SW:=zadv (ziy (S7.out.1.wx.below HB.out) (a:=k) ⟨hk1,hlt⟩)
           go_upto_region 38 with (go_at_call 21;refine SW.out.mono ?_;rintro _ V8 ⟨ao8,cap8,ks,rfl,hp,ho,hb⟩)
           have HO:=zadv (zadx hp ho)
           have HV:=zadv (HB.out.trans (hb.mono HB.out.size))
           have hl16:ks.length ≤ 16:=by rw [hp.length_eq,List.length_map];exact (S7.out.1.wx.fine (a:=k) ⟨hk1,hlt⟩).len
           have HL:=zadv hl16
           clear hp ho hb SW hl16
           go_loopw [15] (fun i wy=>∃ j:Nat,j ≤ ks.length∧i=.int .i64 j∧Below V8.heap.size V8 wy) (fun i _=>ks.length - (intOf i).toNat)
           case atStart=>exact ⟨0,Nat.zero_le _,rfl,Below.refl _ V8⟩
           case round=>
            obtain ⟨j,hj,rfl,hbv⟩:=hrel
            have wj:IntKind.i64.wrap ((j:Int) + 1)=((j + 1:Nat):Int):=(zar (by omega) (by have:=HL.out;omega)).trans (by omega)
            by_cases hjl:j < ks.length
            ·have j1:(j:Int) < ks.length:=by omega
             obtain ⟨kk,hkk⟩:∃ kk,ks[j]?=some kk:=⟨_,zady hjl⟩
             obtain ⟨g,cur,rfl,hg,hcz,hcap,hsub⟩:=zi3 HO.out.2 rfl hjl hkk
             obtain ⟨s,hs⟩:=zf4 (HO.out.1.mem_iff.1 (List.mem_of_getElem? hkk))
             have fi:=(S7.out.1.wx.fine (a:=k) ⟨hk1,hlt⟩).at hs
             rw [hs] at hsub
             have e0:=hsub 0 (by decide)
             have e1:=hsub 1 (by decide)
             have c0:cur[j * 75 + 0]?=some (.int .i64 s.d.i):=e0.trans (s_0 s)
             have c1:cur[j * 75 + 1]?=some (.int .i64 s.d.r):=e1.trans (s_1 s)
             rw [Nat.add_zero,fi.1] at c0
             have z0:j * 75 < cur.size:=by omega
             have z1:j * 75 + 1 < cur.size:=by omega
             have g0:cur[j * 75]'z0=.int .i64 kk:=Option.some.inj ((Array.getElem?_eq_getElem z0).symm.trans c0)
             have g1:cur[j * 75 + 1]'z1=.int .i64 s.d.r:=Option.some.inj ((Array.getElem?_eq_getElem z1).symm.trans c1)
             have rg:=zaa ((hbv.block g (zadu hg).1).trans hg)
             have HG:=zadv ((hbv.block g (zadu hg).1).trans hg)
             have HBV:=zadv hbv
             have hw:=(S7.out.1.inv.node k hk1 hlt).words
             obtain ⟨kd,cd,hkc⟩:=zf3 (getA (xs7 k).told kk) (fun x hx=>hw _ _ hx)
             have K0:s.d.r=1→kd ≠ 0:=fun hr=>by
              rcases S7.out.2 k hk1 hlt kk s hs hr with q | ⟨x,hx,_⟩
              ·obtain ⟨v,hv⟩:=Option.isSome_iff_exists.1 q
               obtain ⟨k2,c2,rfl,h0⟩:=hw _ _ hv
               rw [hv] at hkc
               rw [← (zi0 hkc).1]
               exact h0
              ·cases hx
             have TD:=zadv (zqr (S7.out.1.wx.below (HV.out.trans (HBV.out.mono HV.out.size))) (a:=k) ⟨hk1,hlt⟩ hkc)
             have K0:=zadv K0
             clear hg hs fi hkk hbv hsub e0 e1 hkc hw
             go_upto_region 41 with (go_at_call 25;refine TD.out.mono ?_;rintro _ V9 ⟨rfl,hb2⟩)
             have HB2:=zadv (HBV.out.trans (hb2.mono HBV.out.size))
             have rg2:=zaa ((hb2.block g (zadu HG.out).1).trans HG.out)
             clear rg TD hb2
             cases hr:(s.d.r == 1) with
             | true=>
              have k0:(kd == 0)=false:=by simpa using K0.out (by simpa using hr)
              go_wp2
              go_roundw
              case rel=>exact ⟨j + 1,by omega,rfl,HB2.out⟩
              case measure=>simp [intOf];omega
             | false=>
              go_wp2
              go_roundw
              case rel=>exact ⟨j + 1,by omega,rfl,HB2.out⟩
              case measure=>simp [intOf];omega
            ·obtain rfl:j=ks.length:=by omega
             have j1:¬ (ks.length:Int) < ks.length:=by omega
             have HBV:=zadv (HV.out.trans (hbv.mono HV.out.size))
             clear hbv
             go_wp2
             go_roundw
             case rel=>exact ⟨k + 1,by omega,by omega,rfl,HBV.out⟩
             case measure=>simp [intOf];omega
          ·obtain rfl:k=c.N + 1:=by omega
           have i1:¬ ((c.N + 1:Nat):Int) ≤ c.N:=by omega
           have wx9:=S7.out.1.wx.below HB.out
           have MI:Calls Tryz.prog 11 #[.pointer (some ⟨c.wb,0,none⟩),.int .i64 c.N] wr fun e w'=>e=.returned (.bool true)∧Below wr.heap.size wr w':=zr8 (c:={ c with cut:=f7 }) wx9 (by have:=HN.out;show c.N ≤ 100;omega) S7.out.1.inv.mirr
           have TD:∀ W,Below wr.heap.size wr W→Calls Tryz.prog 12 #[.pointer (some ⟨c.wb,0,none⟩),.int .i64 c.N] W fun e w'=>e=.returned (.bool true)∧Below W.heap.size W w':=fun W hW=>zv7 (c:={ c with cut:=f7 }) (wx9.below hW) (by have:=HN.out;show c.N ≤ 100;omega) (fun m m1 m2=>(S7.out.1.inv.node m m1 m2).words) S7.out.1.inv.told
           have WK:∀ W,Below wr.heap.size wr W→Calls Tryz.prog 9 #[] W fun e w'=>e=.returned (.bool true)∧Below W.heap.size W w':=fun W hW=>zwb (wx9.below hW).f (wx9.below hW).t
           have PW2:Calls Tryz.prog 23 #[.pointer (some ⟨c.nb,0,none⟩)] wr fun e w'=>e=.returned (.int .i64 0)∧w'=wr:=zok (c:={ c with cut:=f7 }) wx9
           obtain ⟨mb,rw0⟩:=zol wx9
           replace rw0:rowOf wr c.wb=wrC c.nb mb now7:=rw0
           have MI:=zadv MI
           have TD:=zadv TD
           have WK:=zadv WK
           have PW2:=zadv PW2
           clear wx9
           go_wp2_with (first
            | (go_at_call 23;refine PW2.out.mono ?_;rintro _ U6 ⟨rfl,rfl⟩)
            | (go_at_call 11;refine MI.out.mono ?_;rintro _ U7 ⟨rfl,hb⟩;have B2:=zadv hb;clear hb rw0)
            | (go_at_call 12;refine (TD.out _ B2.out).mono ?_;rintro _ U8 ⟨rfl,hb⟩;have B3:=zadv (B2.out.trans (hb.mono B2.out.size));clear hb)
            | (go_at_call 9;refine (WK.out _ B3.out).mono ?_;rintro _ U9 ⟨rfl,hb⟩;have B4:=zadv (B3.out.trans (hb.mono B3.out.size));clear hb))
           go_ret
           exact ⟨rfl,LO7.out.trans ((HB.out.trans (B4.out.mono HB.out.size)).mono LO7.out.size)⟩
end
section
open Go.RowKit
abbrev zow : List (String × DataW Unit) := [("mangrove/blake.begins", Rows.laid_mangrove_blake_begins), ("mangrove/blake.orders", Rows.laid_mangrove_blake_orders), ("mangrove/pack.forms", Rows.laid_mangrove_pack_forms)]
theorem gBeg : Tryz.prog.globalNamed "mangrove/blake.begins" = some 1 := by kernel_rfl
theorem gOrd : Tryz.prog.globalNamed "mangrove/blake.orders" = some 3 := by kernel_rfl
theorem gFor : Tryz.prog.globalNamed "mangrove/pack.forms" = some 0 := by kernel_rfl
theorem tBeg:(Tryz.prog.globals[1]?).map (·.type)=some 311:=by kernel_rfl
theorem tOrd:(Tryz.prog.globals[3]?).map (·.type)=some 376:=by kernel_rfl
theorem tFor:(Tryz.prog.globals[0]?).map (·.type)=some 300:=by kernel_rfl
theorem zm1 {W:World} {n:String} {g:Nat} {cs:Array Value} {ps:List MemPlace} (hg:Tryz.prog.globalNamed n=some g) (hv:W.var? Tryz.prog n=some cs) (h0:0 < cs.size) (hin:∀ x ∈ MemPlace.row ⟨g,0,none⟩ cs.size,x ∈ ps)
  (hps:∀ b off,MemPlace.cell b off ∈ ps→(∃ c t,W.heap[b]?=some (.cells c t (0,0)))∧∀ u v,W.cell? ⟨b,off,none⟩=some (.iface u v)→Value.okWide Tryz.prog W .any 0 u v):∃ t,W.heap[g]?=some (.cells cs t):=by
 have hm:MemPlace.cell g 0 ∈ MemPlace.row ⟨g,0,none⟩ cs.size:=List.mem_map.2 ⟨0,List.mem_range.2 h0,rfl⟩
 obtain ⟨⟨c,t,hc⟩,_⟩:=hps g 0 (hin _ hm)
 unfold World.var? at hv
 rw [hg,Option.bind_some,hc] at hv
 simp only [Option.some.injEq] at hv
 exact ⟨t,by rw [hc,hv]⟩
theorem zzi {cs:List Value} {i:Nat} {v:Value} (h:(cs.drop i).take 1=[v]):cs[i]?=some v:=by
 have:=congrArg (·[0]?) h
 simpa [List.getElem?_take] using this
section
variable {W:World} {enc:TypeId × Value→Unit} {sp:Nat→Bool} {held:Bool} {fuel:Nat}
theorem ord_of {cs:List Value} {p:List MemPlace} (h:DataW.trod enc Tryz.prog W 0 sp held fuel 376 cs=some (Rows.laid_mangrove_blake_orders,p)):cs=ordC.toList:=by
 obtain ⟨_,_,_,_,hlen,_,_⟩:=DataW.trod_array Tryz.underlying376 h
 have hlen:cs.length=10:=hlen.trans (by kernel_rfl)
 have c9:Tryz.prog.cellsOf 9=1:=by kernel_rfl
 have H:∀ i,i < 10→∃ s:ByteArray,cs[i]?=some (.string s)∧(match (Rows.laid_mangrove_blake_orders:DataW Unit) with | .agg l=>l[i]? | _=>none)=some (.lit (.string s.data.toList)):=fun i hi=>by
  obtain ⟨f,d,q,hd,ht⟩:=Lib.array_elem Tryz.underlying376 (show DataW.trod enc Tryz.prog W 0 sp held fuel 376 cs=some (.agg _,p) from h) i hi
  rw [c9,Nat.mul_one] at ht
  obtain ⟨s,h1,h2,_⟩:=DataW.trod_string Tryz.underlying9 ht
  refine ⟨s,zzi h1,?_⟩
  simp only [Prod.mk.injEq] at h2
  rw [← h2.1]
  exact hd
 have E:∀ (s:ByteArray) (l:List UInt8),s.data.toList=l→s=⟨l.toArray⟩:=fun s l e=>by
  cases s
  simp only at e
  rw [← e]
 apply List.ext_getElem?
 intro i
 by_cases hi:i < 10
 ·obtain ⟨s,h1,h2⟩:=H i hi
  rw [h1]
  match i,hi with
  | 0,_=>simp [Rows.laid_mangrove_blake_orders] at h2;rw [E s _ h2.symm];rfl
  | 1,_=>simp [Rows.laid_mangrove_blake_orders] at h2;rw [E s _ h2.symm];rfl
  | 2,_=>simp [Rows.laid_mangrove_blake_orders] at h2;rw [E s _ h2.symm];rfl
  | 3,_=>simp [Rows.laid_mangrove_blake_orders] at h2;rw [E s _ h2.symm];rfl
  | 4,_=>simp [Rows.laid_mangrove_blake_orders] at h2;rw [E s _ h2.symm];rfl
  | 5,_=>simp [Rows.laid_mangrove_blake_orders] at h2;rw [E s _ h2.symm];rfl
  | 6,_=>simp [Rows.laid_mangrove_blake_orders] at h2;rw [E s _ h2.symm];rfl
  | 7,_=>simp [Rows.laid_mangrove_blake_orders] at h2;rw [E s _ h2.symm];rfl
  | 8,_=>simp [Rows.laid_mangrove_blake_orders] at h2;rw [E s _ h2.symm];rfl
  | 9,_=>simp [Rows.laid_mangrove_blake_orders] at h2;rw [E s _ h2.symm];rfl
  | i + 10,h=>omega
 ·rw [List.getElem?_eq_none (by omega),List.getElem?_eq_none (by show 10 ≤ i;omega)]
theorem zadp {cs:List Value} {p:List MemPlace} {a b c:Int} (h:DataW.trod enc Tryz.prog W 0 sp held fuel 299 cs=some (.agg [.lit (.int .u8 a),.lit (.int .i64 b),.lit (.int .u64 c)],p)):cs[0]?=some (.int .u8 a)∧cs[1]?=some (.int .i64 b)∧cs[2]?=some (.int .u64 c):=by
 obtain ⟨xs,n,rfl,hx,hl,hxl,hall⟩:=DataW.trod_struct Tryz.underlying299 h
 have h0:DataW.trod enc Tryz.prog W 0 sp held n 5 ((cs.drop 0).take (Tryz.prog.cellsOf 5))=xs[0]?:=hall 0 _ rfl
 have h1:DataW.trod enc Tryz.prog W 0 sp held n 3 ((cs.drop 1).take (Tryz.prog.cellsOf 3))=xs[1]?:=hall 1 _ rfl
 have h2:DataW.trod enc Tryz.prog W 0 sp held n 283 ((cs.drop 2).take (Tryz.prog.cellsOf 283))=xs[2]?:=hall 2 _ rfl
 rw [show Tryz.prog.cellsOf 5=1 by kernel_rfl] at h0
 rw [show Tryz.prog.cellsOf 3=1 by kernel_rfl] at h1
 rw [show Tryz.prog.cellsOf 283=1 by kernel_rfl] at h2
 match xs,hxl,hx,h0,h1,h2 with
 | [x0,x1,x2],_,hx,h0,h1,h2=>
  simp only [List.map_cons,List.map_nil,Prod.mk.injEq,DataW.agg.injEq,List.cons.injEq] at hx
  obtain ⟨⟨e0,e1,e2,_⟩,_⟩:=hx
  obtain ⟨n0,c0,y0,_⟩:=DataW.trod_int Tryz.underlying5 (show DataW.trod _ Tryz.prog W 0 _ _ n 5 _=some x0 from h0)
  obtain ⟨n1,c1,y1,_⟩:=DataW.trod_int Tryz.underlying3 (show DataW.trod _ Tryz.prog W 0 _ _ n 3 _=some x1 from h1)
  obtain ⟨n2,c2,y2,_⟩:=DataW.trod_int Tryz.underlying283 (show DataW.trod _ Tryz.prog W 0 _ _ n 283 _=some x2 from h2)
  rw [y0] at e0
  rw [y1] at e1
  rw [y2] at e2
  simp only [DataW.lit.injEq,Lit.int.injEq,true_and] at e0 e1 e2
  exact ⟨by rw [e0];exact zzi c0,by rw [e1];exact zzi c1,by rw [e2];exact zzi c2⟩
end
theorem zadq {W:World} (h:laidMetH Tryz.prog zow W):Forms W∧Tabs W:=by
 rw [MakeChecks.laidMetH_plain _ _ _ (by kernel_rfl)] at h
 obtain ⟨ps,⟨g0,t0,cs0,f0,p0,q0,hg0,ht0,hv0,hd0,⟨g1,t1,cs1,f1,p1,q1,hg1,ht1,hv1,hd1,⟨g2,t2,cs2,f2,p2,q2,hg2,ht2,hv2,hd2,e3,e2⟩,e1⟩,e0⟩,_,hps⟩:=h
 obtain rfl:=Option.some.inj (gBeg.symm.trans hg0)
 obtain rfl:=Option.some.inj (gOrd.symm.trans hg1)
 obtain rfl:=Option.some.inj (gFor.symm.trans hg2)
 obtain rfl:=Option.some.inj (tBeg.symm.trans ht0)
 obtain rfl:=Option.some.inj (tOrd.symm.trans ht1)
 obtain rfl:=Option.some.inj (tFor.symm.trans ht2)
 have B0:cs0=uts begV:=by
  have:=Lib.cells_of_tab (P:=Tryz.prog) (zs:=begV) (k:=.u32) (n:=8) (e:=309) Tryz.underlying311 Tryz.underlying309 (by kernel_rfl) (by kernel_rfl) hd0
  rw [← Array.toArray_toList (xs:=cs0),this]
  rfl
 have B1:cs1=ordC:=by
  rw [← Array.toArray_toList (xs:=cs1),ord_of hd1]
 obtain ⟨t4,G4⟩:=zm1 gBeg hv0 (by rw [B0];decide) (fun x hx=>by rw [e0];simp [hx]) hps
 obtain ⟨t5,G5⟩:=zm1 gOrd hv1 (by rw [B1];decide) (fun x hx=>by rw [e0,e1];simp [hx]) hps
 rw [B0] at G4
 rw [B1] at G5
 refine ⟨?_,⟨⟨t4,G4⟩,⟨t5,G5⟩⟩⟩
 have c179:Tryz.prog.cellsOf 299=3:=by kernel_rfl
 have F:∀ i,i < 3→∃ d:DataW Unit,(match (Rows.laid_mangrove_pack_forms:DataW Unit) with | .agg l=>l[i]? | _=>none)=some d∧∃ f q,DataW.trod (fun _=>()) Tryz.prog W 0 (fun _=>true) false f 299 ((cs2.toList.drop (i * 3)).take 3)=some (d,q):=fun i hi=>by
  obtain ⟨f,d,q,hd,ht⟩:=Lib.array_elem Tryz.underlying300 (show DataW.trod _ Tryz.prog W 0 _ false _ 300 cs2.toList=some (.agg _,p2) from hd2) i hi
  rw [c179] at ht
  exact ⟨d,hd,f,q,ht⟩
 have K:∀ i a b c,i < 3→(match (Rows.laid_mangrove_pack_forms:DataW Unit) with | .agg l=>l[i]? | _=>none)=some (.agg [.lit (.int .u8 a),.lit (.int .i64 b),.lit (.int .u64 c)])→cs2[i * 3]?=some (.int .u8 a)∧cs2[i * 3 + 1]?=some (.int .i64 b)∧cs2[i * 3 + 2]?=some (.int .u64 c):=fun i a b c hi e=>by
  obtain ⟨d,hd,f,q,ht⟩:=F i hi
  rw [e] at hd
  cases hd
  obtain ⟨k0,k1,k2⟩:=zadp ht
  simp [List.getElem?_drop] at k0 k1 k2
  exact ⟨by simpa using k0,by simpa using k1,by simpa using k2⟩
 obtain ⟨a0,a1,a2⟩:=K 0 253 2 253 (by decide) rfl
 obtain ⟨b0,b1,b2⟩:=K 1 254 4 65536 (by decide) rfl
 obtain ⟨c0,c1,c2⟩:=K 2 255 8 4294967296 (by decide) rfl
 intro j v hj
 rw [World.var?_cell gFor hv2 j]
 match j with
 | 0=>simp [zdk] at hj;rw [← hj];exact a0
 | 1=>simp [zdk] at hj;rw [← hj];exact a1
 | 2=>simp [zdk] at hj;rw [← hj];exact a2
 | 3=>simp [zdk] at hj;rw [← hj];exact b0
 | 4=>simp [zdk] at hj;rw [← hj];exact b1
 | 5=>simp [zdk] at hj;rw [← hj];exact b2
 | 6=>simp [zdk] at hj;rw [← hj];exact c0
 | 7=>simp [zdk] at hj;rw [← hj];exact c1
 | 8=>simp [zdk] at hj;rw [← hj];exact c2
 | j + 9=>simp [zdk] at hj
end
section
open Go.ChangeShapes Go.WideShapes Go.ChangeAt Go.RowKit
set_option linter.unusedVariables false
theorem ownK26:ownKnob Tryz.prog.godebug=none:=by kernel_rfl
theorem zwe:laidOutB Tryz.prog=true:=by kernel_rfl
theorem zwf (os:Os) (args:Array Value):laidMetH Tryz.prog zow ((World.laidAll Tryz.prog os zow).forCall (fun _ _=>0) ⟨#[],args,[]⟩).memory:=by
 rw [MakeChecks.laidMetH_plain _ _ _ (by kernel_rfl)]
 exact laidMet_laidAll args (by kernel_rfl) (by kernel_rfl)
theorem zf5 {w:World} {a:Addr} {v:Value} (h:w.cell? a=some v):a=⟨a.block,a.off,none⟩:=by
 obtain ⟨b,o,s⟩:=a
 unfold World.cell? at h
 split at h
 ·simp only at h
  split at h
  ·cases h
  ·rename_i hs
   cases s with
   | none=>rfl
   | some _=>simp at hs
 ·cases h
theorem zadr {H:Type} {enc:TypeId × Value→H} {w:World} {v:Value} {d:DataW H} {p:List MemPlace} (hv:∃ a n c,v=.slice a n c) (h:DataW.Trod enc Tryz.prog w 0 (fun _=>true) true 31 v d p):∃ (ao:Option Addr) (c:Nat) (K:List Int),v=.slice ao K.length c∧(K.length ≤ 100→KeepAt w ao K):=by
 obtain ⟨a,n,c,rfl⟩:=hv
 obtain ⟨m,hm⟩:=h
 rcases open_ints Tryz.underlying31 Tryz.underlying3 (by kernel_rfl) hm with ⟨h1,_⟩ | ⟨a',len,cap,zs,h1,_,hle,hmx,hzl,_,hcell,hwf⟩
 ·have:Value.slice a n c=.slice none 0 0:=by simpa [Value.cells] using h1
  cases this
  exact ⟨none,0,[],rfl,fun _=>⟨fun j x h=>by simp at h,fun x h=>by simp at h,by decide⟩⟩
 ·have:Value.slice a n c=.slice (some a') len cap:=by simpa [Value.cells] using h1
  cases this
  have hzl':zs.length=c:=by simpa using hzl
  have hn:(zs.take n).length=n:=by rw [List.length_take];omega
  refine ⟨some a',c,zs.take n,by rw [hn],fun h100=>⟨fun j x hj=>?_,fun x hx=>?_,by omega⟩⟩
  ·rw [List.getElem?_take] at hj
   split at hj
   ·rename_i hjn
    have hp:=zf5 (hcell 0 (by omega))
    have ha:a'=⟨a'.block,a'.off,none⟩:=by rwa [show a'.add 0=a' from zcx a'] at hp
    have hc1:=hcell j (by omega)
    rw [ha,zas] at hc1
    have hz:zs[j]?=some (zs.getD j 0):=by rw [List.getD_eq_getElem?_getD,zady (show j < zs.length by omega)];rfl
    rw [hz] at hj
    cases hj
    exact ⟨a'.block,a'.off,congrArg some ha,hc1⟩
   ·cases hj
  ·have:=hwf x (List.mem_of_mem_take hx)
   simp [Lit.wf,IntKind.min,IntKind.max,IntKind.signed,IntKind.bits] at this
   omega
structure ItemsR {α:Type} (P:α→Nat→Nat→Prop) (size:Nat) (ao:Option Addr) (n c:Nat) (L:List α):Prop where
 len:L.length=n
 le:n ≤ c
 mx:n ≤ 9223372036854775807
 nil:ao=none→c=0
 each:∀ (i:Nat) x,L[i]?=some x→∃ b o,ao=some ⟨b,o,none⟩∧P x b (o + i * size)
theorem zzj {H α:Type} [Inhabited α] {enc:TypeId × Value→H} {w:World} {t e:TypeId} {size fuel:Nat} {x:DataW H × List MemPlace} {ao:Option Addr} {n c:Nat} (P:α→Nat→Nat→Prop) (ht:Tryz.prog.underlying t=some (.slice e)) (hc:Tryz.prog.cellsOf e=size)
  (h:DataW.trod enc Tryz.prog w 0 (fun _=>true) true fuel t [.slice ao n c]=some x)
  (he:∀ (a:Addr) (m:Nat) (y:DataW H × List MemPlace),(w.cells? 0 a size).bind (DataW.trod enc Tryz.prog w 0 (fun _=>true) true m e)=some y→a=⟨a.block,a.off,none⟩∧∃ f,P f a.block a.off):∃ L:List α,ItemsR P size ao n c L:=by
 rcases DataW.trod_slice ht h with ⟨h1,_⟩ | ⟨a',len,cap,elems,rest,n',_,h1,hx,_,hle,hmx,hlen,hel,_⟩
 ·have:Value.slice ao n c=.slice none 0 0:=by simpa using h1
  cases this
  exact ⟨[],rfl,zadw _,by omega,fun _=>rfl,fun i x h=>by simp at h⟩
 ·have:Value.slice ao n c=.slice (some a') len cap:=by simpa using h1
  cases this
  rw [hc] at hel
  have H:∀ i:Nat,∃ f:α,i < n→a'=⟨a'.block,a'.off,none⟩∧P f a'.block (a'.off + i * size):=fun i=>by
   by_cases hi:i < n
   ·have h2:=hel i hi
    rw [zady (show i < elems.length by omega)] at h2
    obtain ⟨_,f,hf⟩:=he _ _ _ h2
    have h3:=hel 0 (by omega)
    rw [zady (show 0 < elems.length by omega)] at h3
    have ha:=(he _ _ _ h3).1
    rw [Nat.zero_mul,zcx] at ha
    refine ⟨f,fun _=>⟨ha,?_⟩⟩
    rw [ha,zas] at hf
    exact hf
   ·exact ⟨default,fun h=>absurd h hi⟩
  obtain ⟨F,hF⟩:=Classical.axiomOfChoice H
  refine ⟨(List.range n).map F,by simp,by simpa using hle,by simp only [maxLen] at hmx;omega,(fun h=>by cases h),fun i f hf=>?_⟩
  rw [List.getElem?_map,Option.map_eq_some_iff] at hf
  obtain ⟨j,hj,rfl⟩:=hf
  have hi:i < n:=by simpa using (List.getElem?_eq_some_iff.1 hj).1
  rw [List.getElem?_range hi] at hj
  cases hj
  obtain ⟨q1,q2⟩:=hF i hi
  exact ⟨_,_,congrArg some q1,q2⟩
section
variable {H:Type} {enc:TypeId × Value→H} {w:World}
theorem zdf {n:Nat} {x:Value} {r:List Value} {y:DataW H × List MemPlace} (h:DataW.trod enc Tryz.prog w 0 (fun _=>true) true n 3 (List.take (Tryz.prog.cellsOf 3) (x :: r))=some y):∃ k,x=.int .i64 k∧I64 k:=by
 rw [show Tryz.prog.cellsOf 3=1 by kernel_rfl] at h
 obtain ⟨k,hk,_,hw⟩:=DataW.trod_int Tryz.underlying3 h
 refine ⟨k,by simpa using hk,?_⟩
 simp [Lit.wf,IntKind.min,IntKind.max,IntKind.signed,IntKind.bits] at hw
 unfold I64
 omega
theorem zwg {n:Nat} {x0 x1 x2:Value} {r:List Value} {y:DataW H × List MemPlace} (h:DataW.trod enc Tryz.prog w 0 (fun _=>true) true n 30 (List.take (Tryz.prog.cellsOf 30) (x0 :: x1 :: x2 :: r))=some y):∃ l:Lg,x0=.int .i64 l.w∧x1=.int .i64 l.a∧x2=.int .i64 l.u:=by
 rw [show Tryz.prog.cellsOf 30=3 by kernel_rfl] at h
 have h:DataW.trod enc Tryz.prog w 0 (fun _=>true) true n 30 [x0,x1,x2]=some y:=h
 obtain ⟨xs,n',_,_,_,hxl,hfs⟩:=DataW.trod_struct Tryz.underlying30 h
 have f0:=hfs 0 _ rfl
 have f1:=hfs 1 _ rfl
 have f2:=hfs 2 _ rfl
 obtain ⟨y0,hy0⟩:∃ y,xs[0]?=some y:=⟨_,zady (by rw [hxl];decide)⟩
 obtain ⟨y1,hy1⟩:∃ y,xs[1]?=some y:=⟨_,zady (by rw [hxl];decide)⟩
 obtain ⟨y2,hy2⟩:∃ y,xs[2]?=some y:=⟨_,zady (by rw [hxl];decide)⟩
 rw [hy0] at f0
 rw [hy1] at f1
 rw [hy2] at f2
 obtain ⟨a,ha,_⟩:=zdf (show DataW.trod enc Tryz.prog w 0 (fun _=>true) true n' 3 (List.take (Tryz.prog.cellsOf 3) [x0,x1,x2])=some y0 from f0)
 obtain ⟨b,hb,_⟩:=zdf (show DataW.trod enc Tryz.prog w 0 (fun _=>true) true n' 3 (List.take (Tryz.prog.cellsOf 3) [x1,x2])=some y1 from f1)
 obtain ⟨c,hc,_⟩:=zdf (show DataW.trod enc Tryz.prog w 0 (fun _=>true) true n' 3 (List.take (Tryz.prog.cellsOf 3) [x2])=some y2 from f2)
 exact ⟨⟨a,b,c⟩,ha,hb,hc⟩
instance:Inhabited Ac:=⟨⟨0,0,0,0,0,0,0,Lg.zero,Lg.zero,.slice none 0 0⟩⟩
set_option maxHeartbeats 4000000 in
theorem act_of (a:Addr) (m:Nat) (y:DataW H × List MemPlace) (h:(w.cells? 0 a 14).bind (DataW.trod enc Tryz.prog w 0 (fun _=>true) true m 33)=some y):a=⟨a.block,a.off,none⟩∧∃ f:Ac,AcAt w f a.block a.off:=by
 rw [Option.bind_eq_some_iff] at h
 obtain ⟨cs,hcs,hf⟩:=h
 obtain ⟨_,hl,hc⟩:=World.cells?_some hcs
 match cs,hl with
 | [x0,x1,x2,x3,x4,x5,x6,x7,x8,x9,x10,x11,x12,x13],_=>
  obtain ⟨ys,n',_,_,_,hxl,hfs⟩:=DataW.trod_struct Tryz.underlying33 hf
  have f0:=hfs 0 _ rfl
  obtain ⟨y0,hy0⟩:∃ y,ys[0]?=some y:=⟨_,zady (by rw [hxl];decide)⟩
  rw [hy0] at f0
  have f1:=hfs 1 _ rfl
  obtain ⟨y1,hy1⟩:∃ y,ys[1]?=some y:=⟨_,zady (by rw [hxl];decide)⟩
  rw [hy1] at f1
  have f2:=hfs 2 _ rfl
  obtain ⟨y2,hy2⟩:∃ y,ys[2]?=some y:=⟨_,zady (by rw [hxl];decide)⟩
  rw [hy2] at f2
  have f3:=hfs 3 _ rfl
  obtain ⟨y3,hy3⟩:∃ y,ys[3]?=some y:=⟨_,zady (by rw [hxl];decide)⟩
  rw [hy3] at f3
  have f4:=hfs 4 _ rfl
  obtain ⟨y4,hy4⟩:∃ y,ys[4]?=some y:=⟨_,zady (by rw [hxl];decide)⟩
  rw [hy4] at f4
  have f5:=hfs 5 _ rfl
  obtain ⟨y5,hy5⟩:∃ y,ys[5]?=some y:=⟨_,zady (by rw [hxl];decide)⟩
  rw [hy5] at f5
  have f6:=hfs 6 _ rfl
  obtain ⟨y6,hy6⟩:∃ y,ys[6]?=some y:=⟨_,zady (by rw [hxl];decide)⟩
  rw [hy6] at f6
  have f7:=hfs 7 _ rfl
  obtain ⟨y7,hy7⟩:∃ y,ys[7]?=some y:=⟨_,zady (by rw [hxl];decide)⟩
  rw [hy7] at f7
  have f8:=hfs 8 _ rfl
  obtain ⟨y8,hy8⟩:∃ y,ys[8]?=some y:=⟨_,zady (by rw [hxl];decide)⟩
  rw [hy8] at f8
  have f9:=hfs 9 _ rfl
  obtain ⟨y9,hy9⟩:∃ y,ys[9]?=some y:=⟨_,zady (by rw [hxl];decide)⟩
  rw [hy9] at f9
  obtain ⟨k0,e0,i0⟩:=zdf (show DataW.trod enc Tryz.prog w 0 (fun _=>true) true n' 3 (List.take (Tryz.prog.cellsOf 3) [x0,x1,x2,x3,x4,x5,x6,x7,x8,x9,x10,x11,x12,x13])=some y0 from f0)
  obtain ⟨k1,e1,i1⟩:=zdf (show DataW.trod enc Tryz.prog w 0 (fun _=>true) true n' 3 (List.take (Tryz.prog.cellsOf 3) [x1,x2,x3,x4,x5,x6,x7,x8,x9,x10,x11,x12,x13])=some y1 from f1)
  obtain ⟨k2,e2,i2⟩:=zdf (show DataW.trod enc Tryz.prog w 0 (fun _=>true) true n' 3 (List.take (Tryz.prog.cellsOf 3) [x2,x3,x4,x5,x6,x7,x8,x9,x10,x11,x12,x13])=some y2 from f2)
  obtain ⟨k3,e3,i3⟩:=zdf (show DataW.trod enc Tryz.prog w 0 (fun _=>true) true n' 3 (List.take (Tryz.prog.cellsOf 3) [x3,x4,x5,x6,x7,x8,x9,x10,x11,x12,x13])=some y3 from f3)
  obtain ⟨k4,e4,i4⟩:=zdf (show DataW.trod enc Tryz.prog w 0 (fun _=>true) true n' 3 (List.take (Tryz.prog.cellsOf 3) [x4,x5,x6,x7,x8,x9,x10,x11,x12,x13])=some y4 from f4)
  obtain ⟨k5,e5,i5⟩:=zdf (show DataW.trod enc Tryz.prog w 0 (fun _=>true) true n' 3 (List.take (Tryz.prog.cellsOf 3) [x5,x6,x7,x8,x9,x10,x11,x12,x13])=some y5 from f5)
  obtain ⟨k6,e6,i6⟩:=zdf (show DataW.trod enc Tryz.prog w 0 (fun _=>true) true n' 3 (List.take (Tryz.prog.cellsOf 3) [x6,x7,x8,x9,x10,x11,x12,x13])=some y6 from f6)
  obtain ⟨lp,p0,p1,p2⟩:=zwg (show DataW.trod enc Tryz.prog w 0 (fun _=>true) true n' 30 (List.take (Tryz.prog.cellsOf 30) [x7,x8,x9,x10,x11,x12,x13])=some y7 from f7)
  obtain ⟨lg,g0,g1,g2⟩:=zwg (show DataW.trod enc Tryz.prog w 0 (fun _=>true) true n' 30 (List.take (Tryz.prog.cellsOf 30) [x10,x11,x12,x13])=some y8 from f8)
  have f9':DataW.trod enc Tryz.prog w 0 (fun _=>true) true n' 31 (List.take (Tryz.prog.cellsOf 31) [x13])=some y9:=f9
  rw [show Tryz.prog.cellsOf 31=1 by kernel_rfl] at f9'
  have hsl:∃ ax nx cx,x13=.slice ax nx cx:=by
   rcases DataW.trod_slice Tryz.underlying31 f9' with ⟨h,_⟩ | ⟨a,len,cap,_,_,_,_,h,_⟩
   ·exact ⟨_,_,_,by simpa using h⟩
   ·exact ⟨_,_,_,by simpa using h⟩
  obtain ⟨bx,my,dy,rfl⟩:=hsl
  obtain ⟨ao,cc,K,hv,hk⟩:=zadr (v:=.slice bx my dy) (d:=y9.1) (p:=y9.2) ⟨_,_,_,rfl⟩ ⟨n',f9'⟩
  have hp:a=⟨a.block,a.off,none⟩:=by
   have h0:=hc 0 (by decide)
   have h0:w.cell? (a.add 0)=some x0:=h0
   rw [zcx] at h0
   exact zf5 h0
  refine ⟨hp,⟨k0,k1,k2,k3,k4,k5,k6,lp,lg,.slice bx my dy⟩,⟨fun j hj=>?_,i3,⟨ao,cc,K,hv,hk⟩⟩⟩
  have hj':=hc j hj
  rw [hp,zas] at hj'
  refine hj'.trans ?_
  subst e0 e1 e2 e3 e4 e5 e6 p0 p1 p2 g0 g1 g2
  match j,hj with
  | 0,_=>rfl
  | 1,_=>rfl
  | 2,_=>rfl
  | 3,_=>rfl
  | 4,_=>rfl
  | 5,_=>rfl
  | 6,_=>rfl
  | 7,_=>rfl
  | 8,_=>rfl
  | 9,_=>rfl
  | 10,_=>rfl
  | 11,_=>rfl
  | 12,_=>rfl
  | 13,_=>rfl
  | j + 14,h=>omega
theorem zads {v:Value} {d:DataW H} {p:List MemPlace} (hv:∃ a n c,v=.slice a n c) (h:DataW.Trod enc Tryz.prog w 0 (fun _=>true) true 22 v d p):∃ ao c,∃ L:List Ac,v=.slice ao L.length c∧ActsAt w ao L:=by
 obtain ⟨a,n,c,rfl⟩:=hv
 obtain ⟨m,hm⟩:=h
 obtain ⟨L,hL⟩:=zzj (AcAt w) Tryz.underlying22 (by kernel_rfl) hm act_of
 exact ⟨a,c,L,by rw [hL.len],⟨hL.each⟩⟩
end
end
section
open Go.ChangeShapes Go.WideShapes Go.ChangeAt Go.RowKit
set_option linter.unusedVariables false
namespace lawManyDecided
theorem lifted (os:Os) (started:os.Started) (H:Type) (enc:TypeId × Value→H):
  ReturnsInHanded {} Tryz.checked os 5 .any (fun w args=>(Rows.manyDecidedSpec.pre enc Tryz.prog Tryz.f5 [] false w args∧laidMetH Tryz.prog zow w)∧sizedMet enc Tryz.prog Tryz.f5 (OpenSpec.ofChange Rows.manyDecidedSpec) false w args)
   (Rows.manyDecidedSpec.post enc Tryz.prog Tryz.f5 false true false false):=by
 refine returnsInHanded_of_change_and (C:=Tryz.checked) (X:=fun w _=>laidMetH Tryz.prog zow w) (fun _ _ _ hh h=>h.of_heap hh) ownK26 started (by kernel_rfl) Tryz.func5
  (ChangeSpec.witness_shaped (enc:=enc) (C:=Tryz.checked) (os:=os) (X:=fun w _=>laidMetH Tryz.prog zow w) false (World.laidAll Tryz.prog os zow) #[.int .i64 0,.slice none 0 0] 8 rfl (World.shaped_of_ZipB (by kernel_rfl) (by kernel_rfl)) (by kernel_rfl) (by kernel_rfl) (by kernel_rfl) (zwf os _)) ?_
 intro W base args ds gs before hval0 hW _ _ hL _
 have hval:∀ (j:Nat) t v,Tryz.f5.params[j]?=some t→args[j]?=some v→Value.okWide Tryz.prog W .any base t v:=hval0
 have hW':=hW
 obtain ⟨p,q,hA0,hV,rfl,hfz,hnd⟩:=hW
 have hA:DataW.TrodAll enc Tryz.prog W 0 (fun _=>true) true Tryz.f5.params.toList args.toList ds p:=hA0
 rw [Tryz.params5] at hA hval
 obtain ⟨v0,vs0,d0,ds0,p0,q0,hargs,rfl,rfl,h0,r0⟩:=trodAll_cons hA
 obtain ⟨v1,vs1,d1,ds1,p1,q1,rfl,rfl,rfl,h1,r1⟩:=trodAll_cons r0
 obtain ⟨rfl,rfl,rfl⟩:=trodAll_nil r1
 obtain rfl:args=#[v0,v1]:=by cases args;simp_all
 obtain ⟨rfl,rfl⟩:=trodVars_none hV
 have lt0:∀ x ∈ p0,x.block < W.heap.size:=by obtain ⟨m,hm⟩:=h0;exact DataW.trod_lt m _ _ _ hm
 have lt1:∀ x ∈ p1,x.block < W.heap.size:=by obtain ⟨m,hm⟩:=h1;exact DataW.trod_lt m _ _ _ hm
 obtain ⟨a0,rfl⟩:=okWide_int Tryz.underlying3 (hval 0 3 v0 rfl rfl)
 obtain ⟨ao,cc,L,rfl,HA⟩:=zads (okWide_slice Tryz.underlying22 (hval 1 22 v1 rfl rfl)) h1
 obtain ⟨hf,ht⟩:=zadq hL
 clear hA0 hval0
 refine (zov hf ht HA).mono fun e W' he=>?_
 obtain ⟨rfl,hb⟩:=he
 exact ⟨_,rfl,_,_,_,[],_,[],hW',trodAll_mk1 (shut_bool Tryz.underlying4 _),(trodAll_cons_mk (Below.trod zwe (by kernel_rfl) (of_decide_eq_true (by kernel_rfl)) h0 hb lt0) (trodAll_cons_mk (Below.trod zwe (by kernel_rfl) (of_decide_eq_true (by kernel_rfl)) h1 hb lt1) trodAll_mk0)),rfl,hb.frame _,fun h=>by cases h⟩
end lawManyDecided
end
end Go.Proofs.YthjgiamfaijoeaaGreatDoor
