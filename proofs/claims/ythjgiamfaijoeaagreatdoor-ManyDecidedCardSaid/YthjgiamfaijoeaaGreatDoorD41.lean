/- What is proved: parts of the walk and of the plain law. No condition but those each law names. -/
import Derived.Test.YthjgiamfaijoeaaGreatDoorD40
import Derived.Test.YthjgiamfaijoeaaGreatDoorD39
import Derived.Test.YthjgiamfaijoeaaGreatDoorD00
set_option linter.unusedSimpArgs false
set_option linter.unusedVariables false
set_option maxRecDepth 100000
namespace Go.Proofs.YthjgiamfaijoeaaGreatDoor
open Go.RowKit
section
open Sx (Ab DW Turns Did Foot MapIs)
attribute [local go_sem ↓] zad
attribute [local go_sem] zaf zai zaj zal zab zah zac zak zae zaw za2 Sx.run_mk Ext.row Ext.soft_
section
variable {c:Wd} {w w':World} {xs:Nat→Nod} {ls:List (Int × Int × List Nat)} {now:Cl}
theorem zqr (h:WX c w xs ls now) {a:Nat} (ha:1 ≤ a∧a ≤ c.N) {i x y:Int} (hg:(getA (xs a).told i).getD (zbd 0 0)=zbd x y):
  Calls Tryz.prog 25 #[.pointer (some ⟨c.wb,0,none⟩),.int .i64 a,.int .i64 i] w fun e w'=>e=.returned (.tuple #[.int .i64 x,.int .i64 y])∧Below w.heap.size w w':=by
 obtain ⟨S,h⟩:=h
 obtain ⟨n,D,tb,q,at1⟩:=h.at_ ha
 rw [← h.wb]
 have r:=(h.mw.ndAt q.nd).row
 unfold Nd.cells at r
 rw [q.tv] at r
 exact zvi h.mw at1 r (h.mw.tmAt q.tm) hg
theorem zsd (h:WX c w xs ls now) {a:Nat} (ha:1 ≤ a∧a ≤ c.N) (id role peer:Int):
  Calls Tryz.prog 31 #[.pointer (some ⟨c.wb,0,none⟩),.int .i64 a,.int .i64 id,.int .i64 role,.int .i64 peer] w fun e w'=>e=.returned (.bool (hasB (xs a).B id role peer))∧Below w.heap.size w w':=by
 obtain ⟨S,h⟩:=h
 obtain ⟨n,D,tb,q,at1⟩:=h.at_ ha
 have hf:Fine (xs a).B:=Fine.nil.run q.run
 have hfb:=hf
 rw [← q.book] at hfb
 rw [← h.wb]
 refine (zjs h.mw q.has hfb.book.1 hfb.book.2 id role peer).mono ?_
 rintro e w' ⟨ks,hp,he,hb⟩
 rw [zaaa q.book hf hp] at he
 exact ⟨he,hb⟩
def zaad (N:Nat) (xs:Nat→Nod):Prop:=∀ n,1 ≤ n→n ≤ N→∀ k s cc,getA (xs n).B k=some s→getA (xs n).told k=some (zbd 2 cc)→s.d.r=1∧∃ m:Nat,1 ≤ m∧m ≤ N∧s.d.q=m∧hasB (xs m).B k 2 n=true
theorem zadi {B:List (Int × Sw)} {k r p:Int} {s:Sw} (h:getA B k=some s) (hi:s.d.i=k) (hr:s.d.r=r) (hq:s.d.q=p):hasB B k r p=true:=by
 unfold hasB
 rw [List.any_eq_true]
 exact ⟨_,zb7 h,by simp [hi,hr,hq]⟩
theorem Inv.told {N:Nat} (h:Inv N xs ls):zaad N xs:=fun n h1 h2 k s cc hs ht=>by
 obtain ⟨s',m,s2,e1,e2,e3,e4,e5,e6,e7,e8⟩:=(h.node n h1 h2).told k cc ht
 obtain rfl:=Option.some.inj (hs.symm.trans e1)
 exact ⟨e2,m,e4,e5,e3,zadi e6 ((h.node m e4 e5).book k s2 e6).1 e7 e8⟩
theorem zi3 {w:World} {A n cap:Nat} {ao:Option Addr} {B:List (Int × Sw)} {ks:List Int} (h:w.ownsRow A 62 75 (.slice ao n cap) n (swB B ks)) (hl:ks.length=n) {j:Nat} (hj:j < n) {k:Int} (hk:ks[j]?=some k):∃ g cur,ao=some ⟨g,0,none⟩∧w.heap[g]?=some (.cells cur 62)∧j * 75 + 75 ≤ cur.size∧n ≤ cap∧∀ o,o < 75→cur[j * 75 + o]?=(swS (getA B k)).cells[o]?:=by
 subst hl
 rcases h.2 with ⟨hv,h0⟩ | ⟨g,cp,cur,hv,_,hh,hc,_,hs,ht⟩
 ·omega
 ·cases hv
  have hz:cur.size=cap * 75:=hs
  have hz2:ks.length * 75 ≤ cap * 75:=Nat.mul_le_mul_right 75 hc
  have hj2:(j + 1) * 75 ≤ ks.length * 75:=Nat.mul_le_mul_right 75 hj
  have ek:ks[j]=k:=Option.some.inj ((zady hj).symm.trans hk)
  refine ⟨g,cur,rfl,hh,by omega,hc,fun o ho=>?_⟩
  have e:=zvu B ks j hj o (by omega)
  rw [← ht,List.getElem?_take_of_lt (by omega),ek] at e
  simpa [Sw.cells] using e
set_option maxHeartbeats 8000000 in
theorem zv7 (h:WX c w xs ls now) (hN:c.N ≤ 100) (hw:∀ n,1 ≤ n→n ≤ c.N→Words (xs n).told) (hm:zaad c.N xs):Calls Tryz.prog 12 #[.pointer (some ⟨c.wb,0,none⟩),.int .i64 c.N] w fun e w'=>e=.returned (.bool true)∧Below w.heap.size w w':=by
 have H:=zadv h
 have HM:=zadv (zadx hw hm)
 have HN:=zadv hN
 clear h hm hN hw
 go_enter Tryz.func12,Tryz.ntmps12
 go_upto_region 2 with (fail)
 go_loopw [5] (fun i wr=>∃ k:Nat,1 ≤ k∧k ≤ c.N + 1∧i=.int .i64 k∧Below w.heap.size w wr) (fun i _=>c.N + 1 - (intOf i).toNat)
 case atStart=>exact ⟨1,by omega,by omega,rfl,Below.refl _ w⟩
 case round=>
  obtain ⟨k,hk1,hk2,rfl,hb⟩:=hrel
  have HB:=zadv hb
  clear hb
  have wk:IntKind.i64.wrap ((k:Int) + 1)=(k:Int) + 1:=zar (by omega) (by have:=HN.out;omega)
  by_cases hlt:k ≤ c.N
  ·have i1:(k:Int) ≤ c.N:=by omega
   have SW:=zadv (ziy (H.out.below HB.out) (a:=k) ⟨hk1,hlt⟩)
   go_upto_region 6 with (go_at_call 21;refine SW.out.mono ?_;rintro _ V ⟨ao,cap,ks,rfl,hp,ho,hb⟩)
   have HO:=zadv (zadx hp ho)
   have HV:=zadv (HB.out.trans (hb.mono HB.out.size))
   have hl16:ks.length ≤ 16:=by rw [hp.length_eq,List.length_map];exact (H.out.fine ⟨hk1,hlt⟩).len
   have HL:=zadv hl16
   clear hp ho hb SW hl16
   go_loopw [7] (fun i wr=>∃ j:Nat,j ≤ ks.length∧i=.int .i64 j∧Below V.heap.size V wr) (fun i _=>ks.length - (intOf i).toNat)
   case atStart=>exact ⟨0,Nat.zero_le _,rfl,Below.refl _ V⟩
   case round=>
    obtain ⟨j,hj,rfl,hbv⟩:=hrel
    have wj:IntKind.i64.wrap ((j:Int) + 1)=(j:Int) + 1:=zar (by omega) (by have:=HL.out;omega)
    by_cases hjl:j < ks.length
    ·have j1:(j:Int) < ks.length:=by omega
     obtain ⟨kk,hkk⟩:∃ kk,ks[j]?=some kk:=⟨_,zady hjl⟩
     obtain ⟨g,cur,rfl,hg,hcz,hcap,hsub⟩:=zi3 HO.out.2 rfl hjl hkk
     obtain ⟨s,hs⟩:=zf4 (HO.out.1.mem_iff.1 (List.mem_of_getElem? hkk))
     have fi:=(H.out.fine ⟨hk1,hlt⟩).at hs
     rw [hs] at hsub
     have e0:=hsub 0 (by decide)
     have e1:=hsub 1 (by decide)
     have e40:=hsub 40 (by decide)
     have c0:cur[j * 75 + 0]?=some (.int .i64 s.d.i):=e0.trans (s_0 s)
     have c1:cur[j * 75 + 1]?=some (.int .i64 s.d.r):=e1.trans (s_1 s)
     have c40:cur[j * 75 + 40]?=some (.int .i64 s.d.q):=e40.trans (s_40 s)
     rw [Nat.add_zero] at c0
     have z0:j * 75 < cur.size:=by omega
     have z1:j * 75 + 1 < cur.size:=by omega
     have z40:j * 75 + 40 < cur.size:=by omega
     have g0:cur[j * 75]'z0=.int .i64 s.d.i:=Option.some.inj ((Array.getElem?_eq_getElem z0).symm.trans c0)
     have g1:cur[j * 75 + 1]'z1=.int .i64 s.d.r:=Option.some.inj ((Array.getElem?_eq_getElem z1).symm.trans c1)
     have g40:cur[j * 75 + 40]'z40=.int .i64 s.d.q:=Option.some.inj ((Array.getElem?_eq_getElem z40).symm.trans c40)
     have rg:=zaa ((hbv.block g (zadu hg).1).trans hg)
     have HG:=zadv ((hbv.block g (zadu hg).1).trans hg)
     have HBV:=zadv hbv
     obtain ⟨kd,cd,hkc⟩:=zf3 (getA (xs k).told s.d.i) (fun x hx=>HM.out.1 k hk1 hlt _ _ hx)
     have TD:=zadv (zqr (H.out.below (HV.out.trans (HBV.out.mono HV.out.size))) ⟨hk1,hlt⟩ hkc)
     have HS:=zadv (zadx hs (zadx fi hkc))
     clear hg hs fi hkk hbv hsub e0 e1 e40 hkc
     go_upto_region 9 with (go_at_call 25;refine TD.out.mono ?_;rintro _ V2 ⟨rfl,hb2⟩)
     have HB2:=zadv (HBV.out.trans (hb2.mono HBV.out.size))
     have rg2:=zaa ((hb2.block g (zadu HG.out).1).trans HG.out)
     have lg:g < V2.heap.size:=Nat.lt_of_lt_of_le (zadu HG.out).1 hb2.size
     clear rg TD hb2
     by_cases hk2:kd=2
     ·subst hk2
      have ht:getA (xs k).told kk=some (zbd 2 cd):=by
       have e:=HS.out.2.2
       rw [HS.out.2.1.1] at e
       cases q:getA (xs k).told kk with
       | none=>
        rw [q] at e
        have:=(zi0 e).1
        omega
       | some v=>
        rw [q] at e
        exact congrArg some e
      obtain ⟨hr,m,m1,m2,hq,hh⟩:=HM.out.2 k hk1 hlt kk s cd HS.out.1 ht
      rw [hr] at c1 g1
      rw [hq] at c40 g40
      have AG:=zadv (fun gw:Ext V2=>(zsd ((H.out.below (HV.out.trans (HB2.out.mono HV.out.size))).below gw.below) (a:=m) ⟨m1,m2⟩ s.d.i 2 k).mono (R':=Ret (.bool true) gw.val) (fun e w' hx=>by
       rw [HS.out.2.1.1,hh] at hx
       exact ⟨hx.1,⟨⟨w',hx.2⟩,rfl⟩⟩))
      clear ht hr hq hh
      (refine zaz (by kernel_rfl) (by kernel_rfl) ?_;(repeat (go_big_quiet_step (((go_at_call 31;exact Calls.ext_of (AG.out _))))));refine wpQuiet_nil ?_;rintro _ ⟨gg,rfl⟩)
      go_wp2
      go_roundw
      case rel=>exact ⟨j + 1,by omega,rfl,HB2.out.trans (gg.below.mono HB2.out.size)⟩
      case measure=>simp [intOf];omega
     ·have k2:(kd == 2)=false:=by simpa using hk2
      clear hk2
      (refine zaz (by kernel_rfl) (by kernel_rfl) ?_;(repeat (go_big_quiet_step ((fail))));refine wpQuiet_nil ?_;rintro _ ⟨gg,rfl⟩)
      go_wp2
      go_roundw
      case rel=>exact ⟨j + 1,by omega,rfl,HB2.out.trans (gg.below.mono HB2.out.size)⟩
      case measure=>simp [intOf];omega
    ·obtain rfl:j=ks.length:=by omega
     have j1:¬ (ks.length:Int) < ks.length:=by omega
     have HBV:=zadv (HV.out.trans (hbv.mono HV.out.size))
     clear hbv
     go_wp2
     go_roundw
     case rel=>exact ⟨k + 1,by omega,by omega,rfl,HBV.out⟩
     case measure=>simp [intOf];omega
  ·obtain rfl:k=c.N + 1:=by omega
   have i1:¬ ((c.N + 1:Nat):Int) ≤ c.N:=by omega
   go_wp2
   go_ret
   exact ⟨rfl,HB.out⟩
end
end
section
open Sx (Ab DW Turns Did Foot MapIs)
attribute [local go_sem ↓] zad
attribute [local go_sem] zaf zai zaj zal zab zah zac zak zae zaw za2 Sx.run_mk Ext.row Ext.soft_
structure AcAt (w:World) (x:Ac) (b o:Nat):Prop where
 cell:∀ j,j < 14→w.cell? ⟨b,o + j,none⟩=x.cells[j]?
 i64:I64 x.i
 keep:∃ ao cc,∃ K:List Int,x.v=.slice ao K.length cc∧(K.length ≤ 100→KeepAt w ao K)
structure ActsAt (w:World) (ao:Option Addr) (L:List Ac):Prop where
 each:∀ (i:Nat) x,L[i]?=some x→∃ b o,ao=some ⟨b,o,none⟩∧AcAt w x b (o + i * 14)
def kl (v:Value):Nat:=match v with
 | .slice _ n _=>n
 | _=>0
theorem AcAt.below {w w':World} {x:Ac} {b o:Nat} (h:AcAt w x b o) (hb:Below w.heap.size w w'):AcAt w' x b o:=by
 refine ⟨fun j hj=>?_,h.i64,?_⟩
 ·have hx:(x.cells[j]?).isSome=true:=by rw [Array.getElem?_eq_getElem (by rw [zot];exact hj)];rfl
  have lt:b < w.heap.size:=by
   rw [← h.cell j hj] at hx
   obtain ⟨v,hv⟩:=Option.isSome_iff_exists.1 hx
   exact World.block_lt_of_cell? w ⟨b,o + j,none⟩ hv
  exact (Sx.cell_block (hb.block b lt) _).1.trans (h.cell j hj)
 ·obtain ⟨ao,cc,K,e,hk⟩:=h.keep
  exact ⟨ao,cc,K,e,fun q=>(hk q).below hb⟩
theorem ActsAt.below {w w':World} {ao:Option Addr} {L:List Ac} (h:ActsAt w ao L) (hb:Below w.heap.size w w'):ActsAt w' ao L:=
 ⟨fun i x hx=>by
  obtain ⟨b,o,e,k⟩:=h.each i x hx
  exact ⟨b,o,e,k.below hb⟩⟩
def Modest (L:List Ac):Prop:=L.length ≤ 80∧∀ x ∈ L,kl x.v ≤ 100
theorem zv8 {w:World} {ao:Option Addr} {cap:Nat} {L:List Ac} (h:ActsAt w ao L):Calls Tryz.prog 8 #[.slice none 0 0,.slice none 0 0,.slice ao L.length cap] w fun e w'=>w'=w∧∃ v,e=.returned v∧(v=.bool true ∨ v=.bool false∧Modest L):=by
 by_cases hlen:L.length > 80
 ·have i1:((L.length:Int) > 80)=True:=eq_true (by omega)
  clear hlen
  go_enter Tryz.func8,Tryz.ntmps8
  go_wp2
  go_ret
  exact ⟨rfl,_,rfl,.inl rfl⟩
 have i1:((L.length:Int) > 80)=False:=eq_false (by omega)
 have HL:=zadv hlen
 have H:=zadv h
 clear hlen h
 go_enter Tryz.func8,Tryz.ntmps8
 go_upto_region 4 with (fail)
 go_loopw [7] (fun i wr=>∃ j:Nat,j ≤ L.length∧i=.int .i64 j∧wr=w∧∀ x ∈ L.take j,kl x.v ≤ 100) (fun i _=>L.length - (intOf i).toNat)
 case atStart=>exact ⟨0,Nat.zero_le _,rfl,rfl,fun x hx=>by simp at hx⟩
 case round=>
  obtain ⟨j,hj,rfl,rfl,hall⟩:=hrel
  have HA:=zadv hall
  clear hall
  have wj:IntKind.i64.wrap ((j:Int) + 1)=(j:Int) + 1:=zar (by omega) (by have:=HL.out;omega)
  by_cases hjl:j < L.length
  ·have j1:(j:Int) < L.length:=by omega
   obtain ⟨x,hx⟩:∃ x,L[j]?=some x:=⟨_,zady hjl⟩
   obtain ⟨b,o,rfl,ka⟩:=H.out.each j x hx
   obtain ⟨a2,cc,K,hv,_⟩:=ka.keep
   have hc:(rowOf wr b)[o + j * 14 + 13]?=some (.slice a2 K.length cc):=by
    have hc:=ka.cell 13 (by decide)
    rw [zad] at hc
    rw [hc,← hv]
    rfl
   have HX:=zadv (zadx hx hv)
   clear ka hx hv
   by_cases hk:K.length > 100
   ·have k1:((K.length:Int) > 100)=True:=eq_true (by omega)
    clear hk
    go_wp2
    go_ret
    exact ⟨rfl,_,rfl,.inl rfl⟩
   ·have k1:((K.length:Int) > 100)=False:=eq_false (by omega)
    have HK:=zadv hk
    clear hk
    go_wp2
    go_roundw
    case rel=>
     refine ⟨j + 1,by omega,rfl,trivial,fun y hy=>?_⟩
     have e3:L[j]=x:=Option.some.inj ((zady hjl).symm.trans HX.out.1)
     rw [List.take_succ_eq_append_getElem hjl,e3] at hy
     rcases List.mem_append.1 hy with hy | hy
     ·exact HA.out y hy
     ·obtain rfl:=List.mem_singleton.1 hy
      rw [HX.out.2]
      show K.length ≤ 100
      have:=HK.out
      omega
    case measure=>simp [intOf];omega
  ·obtain rfl:j=L.length:=by omega
   have j1:¬ (L.length:Int) < L.length:=by omega
   go_wp2
   go_ret
   exact ⟨rfl,_,rfl,.inr ⟨rfl,by have:=HL.out;omega,by have:=HA.out;rwa [List.take_length] at this⟩⟩
end
section
open Sx (Ab DW Turns Did Foot MapIs)
attribute [local go_sem ↓] zad
attribute [local go_sem] zaf zai zaj zal zab zah zac zak zae zaw za2 Sx.run_mk Ext.row Ext.soft_
def now0:Cl:=⟨100,200,0⟩
theorem zv9 {w:World} {n:Nat} (hn:2 ≤ n∧n ≤ 8) (hF:Forms w) (hT:Tabs w):Calls Tryz.prog 7 #[.int .i64 n] w fun e w'=>∃ (c:Wd) (sd:Nat→List Nat),e=.returned (.pointer (some ⟨c.wb,0,none⟩))∧(c.N=n∧c.cut=fun _ _=>false)∧WX c w' (fun j=>nod0 (sd j)) [] now0∧Below w.heap.size w c.u:=by
 refine (zyn hn).mono ?_
 rintro e W ⟨S,rfl,st⟩
 obtain ⟨sd,wx⟩:=st.wx hF hT
 exact ⟨⟨S.u,S.wb,S.nb,n,[],S.cut⟩,sd,rfl,⟨rfl,st.ct⟩,wx,st.u⟩
structure P2 (xs:Nat→Nod) (sd:List Nat) (B1 B2:List (Int × Sw)) (t1:List (Int × Value)):Prop where
 f1:(xs 1).fell=none
 f2:(xs 2).fell=none
 c1:(xs 1).calm=true
 c2:(xs 2).calm=true
 b1:(xs 1).B=B1
 b2:(xs 2).B=B2
 t1:(xs 1).told=t1
 s1:(xs 1).sd=sd
theorem p2_0 (sd:Nat→List Nat):P2 (fun j=>nod0 (sd j)) (sd 1) [] [] []:=⟨rfl,rfl,rfl,rfl,rfl,rfl,rfl,rfl⟩
theorem p2_1 {xs:Nat→Nod} {sd:List Nat} {B1 B2:List (Int × Sw)} {t1:List (Int × Value)} (p:P2 xs sd B1 B2 t1) {y:Nod} (f:y.fell=none) (c:y.calm=true) (s:y.sd=sd):P2 (upd xs 1 y) sd y.B B2 y.told:=
 ⟨by rw [upd_at];exact f,by rw [upd_ne _ _ (by decide)];exact p.f2,by rw [upd_at];exact c,by rw [upd_ne _ _ (by decide)];exact p.c2,by rw [upd_at],by rw [upd_ne _ _ (by decide)];exact p.b2,by rw [upd_at],by rw [upd_at];exact s⟩
theorem p2_2 {xs:Nat→Nod} {sd:List Nat} {B1 B2:List (Int × Sw)} {t1:List (Int × Value)} (p:P2 xs sd B1 B2 t1) {y:Nod} (f:y.fell=none) (c:y.calm=true):P2 (upd xs 2 y) sd B1 y.B t1:=
 ⟨by rw [upd_ne _ _ (by decide)];exact p.f1,by rw [upd_at];exact f,by rw [upd_ne _ _ (by decide)];exact p.c1,by rw [upd_at];exact c,by rw [upd_ne _ _ (by decide)];exact p.b1,by rw [upd_at],by rw [upd_ne _ _ (by decide)];exact p.t1,by rw [upd_ne _ _ (by decide)];exact p.s1⟩
def pLet (dd:Dl):Int × Int × List Nat:=(((1:Nat):Int),((2:Nat):Int),zbi (zax dd))
def aLet (dd:Dl):Int × Int × List Nat:=(((2:Nat):Int),((1:Nat):Int),zbi (zbg (zau dd 1)))
def rLet (cd:Int):Int × Int × List Nat:=(((2:Nat):Int),((1:Nat):Int),putC 7 cd)
section
variable {c:Wd} {w w':World} {xs:Nat→Nod} {ls:List (Int × Int × List Nat)} {sd:List Nat} {B1 B2:List (Int × Sw)} {t1:List (Int × Value)} {dd:Dl}
theorem T_prop (h:WX c w xs ls now0) (cn:c.N=2∧c.cut=fun _ _=>false) (p:P2 xs sd [] B2 t1) (x:Ex sd dd) (hl:ls.length < 1000):
  Calls Tryz.prog 29 #[.pointer (some ⟨c.wb,0,none⟩),.int .i64 1,.int .i64 2,.int .i64 7,.agg lgP.cells,.agg lgG.cells] w fun e w'=>e=.returned (.int .i64 0)∧∃ xs' s,s.d=dd∧P2 xs' sd [(7,s)] B2 t1∧WX c w' xs' (ls ++ [pLet dd]) now0:=by
 have K:=zmu (a:=1) (b:=2) h (by rw [cn.1];decide) (by rw [cn.1];decide) (by decide) hl (i:=7) (p:=lgP) (g:=lgG) seven
 refine K.mono ?_
 rw [p.s1,p.b1]
 have pw:zg0 sd [] 7 2 lgP lgG now0=0:=x.prop
 rintro e w' ⟨k,rfl,⟨k0,kp,_⟩ | ⟨rfl,_,_,wx⟩ | ⟨rfl,_,cm,_⟩⟩
 ·exact absurd ((kp p.f1).symm.trans pw) k0
 ·have e:dealW sd 7 ((2:Nat):Int) lgP lgG now0=dd:=x.eq
  rw [e] at wx
  have q:=p2_1 (y:={ xs 1 with L:=(xs 1).L ++ zkt sd 7 ((2:Nat):Int) lgP lgG now0,B:=[(7,ze0 dd (secretH (sd ++ intI 7)))] }) p p.f1 p.c1 p.s1
  exact ⟨rfl,_,ze0 dd (secretH (sd ++ intI 7)),rfl,⟨q.f1,q.f2,q.c1,q.c2,q.b1,q.b2,q.t1.trans p.t1,q.s1⟩,wx⟩
 ·rw [p.c1] at cm;cases cm
theorem zadj (h:WX c w xs ls now0) (cn:c.N=2∧c.cut=fun _ _=>false) (p:P2 xs sd B1 [] t1) (x:Ex sd dd) {k:Nat} (hk:ls[k]?=some (pLet dd)) (hl:ls.length ≤ 1000):
  Calls Tryz.prog 24 #[.pointer (some ⟨c.wb,0,none⟩),.int .i64 k,.int .i64 1000] w fun e w'=>e=.returned (.bool true)∧∃ xs',P2 xs' sd B1 [(7,newS (zau dd 1))] t1∧WX c w' xs' (ls.eraseIdx k ++ [aLet dd]) now0:=by
 have K:=zqj (a:=1) (b:=2) (free:=1000) h (by rw [cn.1];decide) (by rw [cn.1];decide) (by decide) (by rw [cn.2]) p.f2 hk x.ok x.sm hl
 have e:zb6 T26 (xs 2).B (zau dd 1) now0 1000=0:=by rw [p.b2];exact x.take
 rw [e] at K
 refine K.mono ?_
 rintro e w' ⟨rfl,⟨q,_⟩ | ⟨_,wx⟩ | ⟨_,cm,_⟩⟩
 ·exact absurd rfl q
 ·rw [p.b2,x.i] at wx
  exact ⟨rfl,_,p2_2 (y:={ xs 2 with L:=(xs 2).L ++ [.dl (zau dd 1)],B:=[(7,newS (zau dd 1))] }) p p.f2 p.c2,wx⟩
 ·rw [p.c2] at cm;cases cm
theorem zadk (h:WX c w xs ls now0) (cn:c.N=2∧c.cut=fun _ _=>false) {s:Sw} (p:P2 xs sd B1 [(7,s)] t1) (x:Ex sd dd) {k:Nat} (hk:ls[k]?=some (pLet dd)) (hl:ls.length ≤ 1000):
  Calls Tryz.prog 24 #[.pointer (some ⟨c.wb,0,none⟩),.int .i64 k,.int .i64 1000] w fun e w'=>e=.returned (.bool true)∧WX c w' xs (ls.eraseIdx k ++ [rLet 13]) now0:=by
 have K:=zqj (a:=1) (b:=2) (free:=1000) h (by rw [cn.1];decide) (by rw [cn.1];decide) (by decide) (by rw [cn.2]) p.f2 hk x.ok x.sm hl
 have e:zb6 T26 (xs 2).B (zau dd 1) now0 1000=13:=by rw [p.b2];exact x.take
 rw [e,x.i] at K
 refine K.mono ?_
 rintro e w' ⟨rfl,⟨_,wx⟩ | ⟨q,_⟩ | ⟨q,_⟩⟩
 ·exact ⟨rfl,wx⟩
 ·cases q
 ·cases q
theorem T_acc (h:WX c w xs ls now0) (cn:c.N=2∧c.cut=fun _ _=>false) {s:Sw} (p:P2 xs sd [(7,s)] B2 t1) (hw:Words t1) (hd:s.d=dd) (x:Ex sd dd) {k:Nat} (hk:ls[k]?=some (aLet dd)) (hl:ls.length ≤ 1000):
  Calls Tryz.prog 24 #[.pointer (some ⟨c.wb,0,none⟩),.int .i64 k,.int .i64 1000] w fun e w'=>e=.returned (.bool true)∧∃ xs',P2 xs' sd [(7,s)] B2 (putA t1 7 (zbd 2 0))∧WX c w' xs' (ls.eraseIdx k) now0:=by
 have K:=zada (a:=1) (b:=2) (free:=1000) (dd:=dd) (s:=s) h (by rw [cn.1];decide) (by rw [cn.1];decide) (by decide) (by rw [cn.2]) p.f1 (by rw [p.t1];exact hw) (by rw [p.b1,x.i];rfl) hd x.r x.q hk x.hd x.sm hl
 rw [p.t1,x.i] at K
 refine K.mono ?_
 rintro e w' ⟨rfl,wx⟩
 have q:=p2_1 (y:={ xs 1 with told:=putA t1 7 (zbd 2 0) }) p p.f1 p.c1 p.s1
 exact ⟨rfl,_,⟨q.f1,q.f2,q.c1,q.c2,q.b1.trans p.b1,q.b2,q.t1,q.s1⟩,wx⟩
theorem T_ref (h:WX c w xs ls now0) (cn:c.N=2∧c.cut=fun _ _=>false) {s:Sw} (p:P2 xs sd [(7,s)] B2 t1) (hw:Words t1) (hd:s.d=dd) (x:Ex sd dd) {k:Nat} (hk:ls[k]?=some (rLet 13)) (hl:ls.length ≤ 1000):
  Calls Tryz.prog 24 #[.pointer (some ⟨c.wb,0,none⟩),.int .i64 k,.int .i64 1000] w fun e w'=>e=.returned (.bool true)∧∃ xs',P2 xs' sd [(7,s)] B2 (zi8 t1 7 13)∧WX c w' xs' (ls.eraseIdx k) now0:=by
 have K:=zadb (a:=1) (b:=2) (free:=1000) (i:=7) (cd:=13) (s:=s) h (by rw [cn.1];decide) (by rw [cn.1];decide) (by decide) (by rw [cn.2]) p.f1 (by rw [p.t1];exact hw) (by rw [p.b1];rfl) (by rw [hd];exact x.r) (by rw [hd];exact x.q) (by decide) (by decide) hk hl
 rw [p.t1] at K
 refine K.mono ?_
 rintro e w' ⟨rfl,wx⟩
 have q:=p2_1 (y:={ xs 1 with told:=zi8 t1 7 13 }) p p.f1 p.c1 p.s1
 exact ⟨rfl,_,⟨q.f1,q.f2,q.c1,q.c2,q.b1.trans p.b1,q.b2,q.t1,q.s1⟩,wx⟩
theorem zaae (h:WX c w xs ls now0) (cn:c.N=2∧c.cut=fun _ _=>false) (p:P2 xs sd B1 B2 t1) {a b:Int} (hg:(getA t1 7).getD (zbd 0 0)=zbd a b):
  Calls Tryz.prog 25 #[.pointer (some ⟨c.wb,0,none⟩),.int .i64 1,.int .i64 7] w fun e w'=>e=.returned (.tuple #[.int .i64 a,.int .i64 b])∧WX c w' xs ls now0:=
 W_told (a:=1) h (by rw [cn.1];decide) (by rw [p.t1];exact hg)
theorem zwa (h:WX c w xs ls now0) (cn:c.N=2∧c.cut=fun _ _=>false) (p:P2 xs sd B1 [(7,newS (zau dd 1))] t1) (x:Ex sd dd):
  Calls Tryz.prog 31 #[.pointer (some ⟨c.wb,0,none⟩),.int .i64 2,.int .i64 7,.int .i64 2,.int .i64 1] w fun e w'=>e=.returned (.bool true)∧WX c w' xs ls now0:=by
 have K:=zy4 (a:=2) h (by rw [cn.1];decide) 7 2 1
 rw [p.b2] at K
 have e:hasB [(7,newS (zau dd 1))] 7 2 1=true:=by
  have hi:=x.i
  show ((zau dd 1).i == 7 && ((zau dd 1).r == 2 && (zau dd 1).q == 1) || false)=true
  rw [(zy6 dd 1).1,hi]
  rfl
 rw [e] at K
 exact K
end
end
section
open Sx (Ab DW Turns Did Foot MapIs)
attribute [local go_sem ↓] zad
attribute [local go_sem] zaf zai zaj zal zab zah zac zak zae zaw za2 Sx.run_mk Ext.row Ext.soft_
theorem zzh (dd:Dl):(pLet dd).2.2.length < 1000000:=by have:=zb5 (zax dd);show (zbi (zax dd)).length < _;omega
theorem words3:Words [(7,zbd 3 13)]:=Words.nil.put 7 3 13
set_option maxHeartbeats 4000000 in
theorem zwb {w:World} (hF:Forms w) (hT:Tabs w):Calls Tryz.prog 9 #[] w fun e w'=>e=.returned (.bool true)∧Below w.heap.size w w':=by
 have HF:=zadv (zadx hF hT)
 clear hF hT
 go_enter Tryz.func9,Tryz.ntmps9
 go_wp2_with (first
  | (go_at_call 7;refine (zv9 (n:=2) ⟨by decide,by decide⟩ HF.out.1 HF.out.2).mono ?_;rintro _ W ⟨c,sd,rfl,cn,wx,hu⟩;have WA:=zadv (zadx cn (zadx wx hu));clear cn wx hu)
  | (go_at_call 28;refine (zy9 W).mono ?_;rintro _ V ⟨rfl,hb⟩;have HB:=zadv hb;clear hb))
 have bV:Below V.heap.size V ((((V.alloc (.cells Lg.zero.cells 30)).alloc (.cells Lg.zero.cells 30)).setRow V.heap.size lgP.cells).setRow (V.heap.size + 1) lgG.cells):=Below.setRow_ (Below.setRow_ (Bxs.new2 V Lg.zero.cells 30 Lg.zero.cells 30).below (zadw _) lgP.cells) (Nat.le_succ _) lgG.cells
 generalize (((V.alloc (.cells Lg.zero.cells 30)).alloc (.cells Lg.zero.cells 30)).setRow V.heap.size lgP.cells).setRow (V.heap.size + 1) lgG.cells=V3 at bV ⊢
 obtain ⟨cn,wx,hu⟩:=WA.out
 have x:=ex_of (sd 1)
 generalize dealW (sd 1) 7 2 lgP lgG ⟨100,200,0⟩=dd at x
 have K:=zadv (T_prop (wx.below (HB.out.trans (bV.mono HB.out.size))) cn (p2_0 sd) x (by decide))
 have X:=zadv (zadx cn (zadx x hu))
 clear WA HB bV cn wx hu x
 go_wp2_with fail
 refine K.out.mono ?_
 rintro _ W1 ⟨rfl,x1,s,hd,p1,wx⟩
 obtain ⟨mb,rw1⟩:=zol wx
 have HD:=zadv hd
 have P1:=zadv p1
 have K1:=zadv (zqp (k:=0) wx rfl (zzh dd) (by simp))
 clear K hd p1 wx
 go_wp2_with fail
 refine K1.out.mono ?_
 rintro _ W2 ⟨rfl,wx⟩
 have K2:=zadv (zadj (k:=0) wx X.out.1 P1.out X.out.2.1 rfl (by simp))
 clear K1 wx rw1
 go_wp2_with fail
 refine K2.out.mono ?_
 rintro _ W3 ⟨rfl,x2,p2,wx⟩
 have P2':=zadv p2
 have K3:=zadv (zwa (show WX c W3 x2 [pLet dd,aLet dd] now0 from wx) X.out.1 p2 X.out.2.1)
 clear K2 P1 p2 wx
 go_wp2_with fail
 refine K3.out.mono ?_
 rintro _ W4 ⟨rfl,wx⟩
 have K4:=zadv (zadk (k:=0) wx X.out.1 P2'.out X.out.2.1 rfl (by simp))
 clear K3 wx
 go_wp2_with fail
 refine K4.out.mono ?_
 rintro _ W5 ⟨rfl,wx⟩
 have K5:=zadv (T_ref (k:=1) (show WX c W5 x2 [aLet dd,rLet 13] now0 from wx) X.out.1 P2'.out Words.nil HD.out X.out.2.1 rfl (by simp))
 clear K4 wx
 go_wp2_with fail
 refine K5.out.mono ?_
 rintro _ W6 ⟨rfl,x3,p3,wx⟩
 have P3:=zadv p3
 have K6:=zadv (zaae (show WX c W6 x3 [aLet dd] now0 from wx) X.out.1 p3 (a:=3) (b:=13) rfl)
 clear K5 wx P2' p3
 go_wp2_with fail
 refine K6.out.mono ?_
 rintro _ W7 ⟨rfl,wx⟩
 have K7:=zadv (T_acc (k:=0) wx X.out.1 P3.out words3 HD.out X.out.2.1 rfl (by simp))
 clear K6 wx
 go_wp2_with fail
 refine K7.out.mono ?_
 rintro _ W8 ⟨rfl,x4,p4,wx⟩
 have K8:=zadv (zaae (show WX c W8 x4 [] now0 from wx) X.out.1 p4 (a:=2) (b:=0) rfl)
 clear K7 wx P3 p4
 go_wp2_with fail
 refine K8.out.mono ?_
 rintro _ W9 ⟨rfl,wx⟩
 obtain ⟨mb2,rw2⟩:=zol wx
 have lo:=wx.low
 have K9:=zadv (zok wx)
 have LO:=zadv lo
 clear K8 wx lo
 go_wp2_with (go_at_call 23;refine K9.out.mono ?_;rintro _ W10 ⟨rfl,rfl⟩)
 go_ret
 exact ⟨rfl,X.out.2.2.trans (LO.out.mono X.out.2.2.size)⟩
end
section
open Sx (Ab DW Turns Did Foot MapIs)
attribute [local go_sem ↓] zad
attribute [local go_sem] zaf zai zaj zal zab zah zac zak zae zaw za2 Sx.run_mk Ext.row Ext.soft_
theorem WX.f {c:Wd} {w:World} {xs:Nat→Nod} {ls:List (Int × Int × List Nat)} {now:Cl} (h:WX c w xs ls now):Forms w:=by
 obtain ⟨S,h⟩:=h
 exact h.hF.keep (zadw _) h.low
theorem WX.t {c:Wd} {w:World} {xs:Nat→Nod} {ls:List (Int × Int × List Nat)} {now:Cl} (h:WX c w xs ls now):Tabs w:=by
 obtain ⟨S,h⟩:=h
 exact h.hT.keep (zadw _) h.low
theorem zwc (w:World) (ρ:Operand→Value) (x:Operand) (dst:Option Tmp) (ty:TypeId) (pos:String) (af:Array Edge) (gd:Option (Nat × Bool)) (hp:pp (ρ x)=true) (h:po (ρ x) + 14 ≤ (rowOf w (pb (ρ x))).size):(execOp ρ ⟨dst,.load 33 x,ty,pos,af,gd⟩).run Tryz.prog w=.ok (.value (.agg (sub (rowOf w (pb (ρ x))) (po (ρ x)) 14))) w:=
 zav 33 14 Tryz.underlying33 rfl (by kernel_rfl) w ρ x dst ty pos af gd hp h
attribute [local go_sem ↓] zwc
theorem AcAt.row {w:World} {x:Ac} {b o:Nat} (h:AcAt w x b o):o + 14 ≤ (rowOf w b).size∧sub (rowOf w b) o 14=x.cells:=by
 have hc:∀ j,j < 14→(rowOf w b)[o + j]?=x.cells[j]?:=fun j hj=>by rw [← zad];exact h.cell j hj
 have h13:o + 13 < (rowOf w b).size:=by
  have e:=hc 13 (by decide)
  have e2:x.cells[13]?=some x.v:=rfl
  rw [e2] at e
  exact (zadu e).1
 refine ⟨by omega,?_⟩
 exact (zqk (C:=x.cells) (by rw [zot];decide) hc).trans (by kernel_rfl)
theorem Wst.start {c:Wd} {w:World} {sd:Nat→List Nat} (h:WX c w (fun j=>nod0 (sd j)) [] now0) (h8:c.N ≤ 8):Wst c w (fun j=>nod0 (sd j)) [] now0:=
 ⟨h,⟨fun n _ _=>⟨Words.nil,fun k s q=>(by cases q),fun d q=>(by cases q),fun k cc q=>(by cases q)⟩,fun x hx=>(by cases hx)⟩,⟨by decide,by decide,by decide⟩,h8⟩
end
section
open Sx (Ab DW Turns Did Foot MapIs)
def Opn (N:Nat) (f:Int→Int→Bool) (P:Nat→Nat→Prop):Prop:=∀ a b:Nat,1 ≤ a→a < b→b ≤ N→P a b→f a b=false
theorem Opn.set {N:Nat} {f:Int→Int→Bool} {P:Nat→Nat→Prop} (h:Opn N f P) {a b:Nat} (hab:a < b):Opn N (setW f a b false) (fun x y=>P x y ∨ (x=a∧y=b)):=fun x y h1 h2 h3 q=>by
 unfold setW
 split
 ·rfl
 ·rename_i z
  rcases q with q | ⟨rfl,rfl⟩
  ·exact h x y h1 h2 h3 q
  ·exact absurd ⟨by omega,by omega⟩ z
theorem Opn.mono {N:Nat} {f:Int→Int→Bool} {P Q:Nat→Nat→Prop} (h:Opn N f P) (k:∀ a b,1 ≤ a→a < b→b ≤ N→Q a b→P a b):Opn N f Q:=fun a b h1 h2 h3 q=>h a b h1 h2 h3 (k a b h1 h2 h3 q)
section
variable {c:Wd} {w w':World} {xs:Nat→Nod} {ls l:List (Int × Int × List Nat)} {x:Int × Int × List Nat} {now:Cl}
theorem zaaf (h:Wst c w xs (x :: l) now) (hc:Opn c.N c.cut fun _ _=>True) (hm:Calms c.N xs) (hp:Pend c.N xs (x :: l)) (hl:l.length < 1000):
  Calls Tryz.prog 24 #[.pointer (some ⟨c.wb,0,none⟩),.int .i64 ((0:Nat):Int),.int .i64 1000] w fun e w'=>e=.returned (.bool true)∧∃ xs' l',Wst c w' xs' l' now∧Calms c.N xs'∧Pend c.N xs' l'∧(l'=l ∨ ∃ y,l'=l ++ [y]∧Ans y∧¬ Ans x):=by
 have lo:=h.inv.lets x (List.mem_cons_self ..)
 obtain ⟨f,t,e1,e2,hf,ht,hft⟩:=lo.ends
 have hct:c.cut (min (f:Int) t) (max (f:Int) t)=false:=by
  rcases Nat.lt_or_gt_of_ne hft with q | q
  ·rw [show min (f:Int) t=f by omega,show max (f:Int) t=t by omega]
   exact hc f t hf.1 q ht.2 trivial
  ·rw [show min (f:Int) t=t by omega,show max (f:Int) t=f by omega]
   exact hc t f ht.1 q hf.2 trivial
 have hl2:(x :: l).length ≤ 1000:=by rw [List.length_cons];omega
 cases lo with
 | prop ha hb hab hs hd r q ok sm=>
  rename_i a b dd s
  obtain rfl:a=f:=by have:(a:Int)=f:=e1;omega
  obtain rfl:b=t:=by have:(b:Int)=t:=e2;omega
  refine (zqj (k:=0) (free:=1000) h.wx ha hb hab hct (hm b hb.1 hb.2).1 rfl ok sm hl2).mono ?_
  rintro e w' ⟨rfl,⟨z,wx⟩ | ⟨z,wx⟩ | ⟨_,z,_⟩⟩
  ·have zz:=ziw (xs b).B (zau dd a) now 1000
   exact ⟨rfl,xs,_,⟨wx,zqo h.inv ha hb hab hs hd r q ok z,h.nk,h.n8⟩,hm,hp.turn (fun n k=>zv5 ok) (zv3 (zku (ziz ok)) (by omega)),.inr ⟨_,rfl,zadf (zku (ziz ok)) (by omega),zv4 ok⟩⟩
  ·have ok2:=(zix z).1
   exact ⟨rfl,_,_,⟨wx,zqn h.inv ha hb hab hs hd r q sm z,h.nk,h.n8⟩,hm.upd rfl rfl,(hp.turn (fun n k=>zv5 ok) (zv2 ok2)).second (zv6 (show (2:Int) ≠ 1 by decide)),.inr ⟨_,rfl,zade ok2,zv4 ok⟩⟩
  ·rw [(hm b hb.1 hb.2).2] at z
   cases z
 | acc ha hb hab hs hd r q h2 hd2 ok sm=>
  rename_i a b dd s s2
  obtain rfl:b=f:=by have:(b:Int)=f:=e1;omega
  obtain rfl:a=t:=by have:(a:Int)=t:=e2;omega
  refine (zada (k:=0) (free:=1000) h.wx ha hb hab hct (hm a ha.1 ha.2).1 (h.inv.node a ha.1 ha.2).words hs hd r q rfl ok sm hl2).mono ?_
  rintro e w' ⟨rfl,wx⟩
  exact ⟨rfl,_,_,⟨wx,zvx (k:=0) h.inv ha hb hs hd r q h2 hd2,h.nk,h.n8⟩,hm.upd rfl rfl,hp.told (fun n k=>of_acc ok) zqq zm0,.inl rfl⟩
 | ref ha hb hab hs r q hi hcd=>
  rename_i a b i cd s
  obtain rfl:b=f:=by have:(b:Int)=f:=e1;omega
  obtain rfl:a=t:=by have:(a:Int)=t:=e2;omega
  refine (zadb (k:=0) (free:=1000) h.wx ha hb hab hct (hm a ha.1 ha.2).1 (h.inv.node a ha.1 ha.2).words hs r q hi hcd rfl hl2).mono ?_
  rintro e w' ⟨rfl,wx⟩
  exact ⟨rfl,_,_,⟨wx,zvy (k:=0) h.inv ha,h.nk,h.n8⟩,hm.upd rfl rfl,hp.told (fun n k=>of_ref hi hcd) zsc zos,.inl rfl⟩
theorem zadl (h:Wst c w xs ls now) (hm:Calms c.N xs) {a:Nat} (ha:1 ≤ a∧a ≤ c.N) (hl:ls.length < 1000) {i:Int} {s:Sw} (hs:getA (xs a).B i=some s) (hr:s.d.r=1):
  Calls Tryz.prog 22 #[.pointer (some ⟨c.wb,0,none⟩),.int .i64 a,.int .i64 i] w fun e w'=>e=.returned (.int .i64 0)∧∃ x,zi2 a i x∧Wst c w' xs (ls ++ [x]) now:=by
 obtain ⟨di,m,m1,m2,m3,mq,_⟩:=(h.inv.node a ha.1 ha.2).book i s hs
 have fi:=(h.wx.fine ha).at hs
 refine (zvs h.wx ha (hm a ha.1 ha.2).1 hs hr mq ⟨m1,m2⟩ (Ne.symm m3) hl).mono ?_
 rintro e w' ⟨rfl,wx⟩
 have ok:=zh7 fi.2.1
 have ab:=zsb (a:=a) (b:=m) ok
 rw [di] at ab
 exact ⟨rfl,_,ab,⟨wx,h.inv.snoc (.prop (s:=s) ha ⟨m1,m2⟩ (Ne.symm m3) (by rw [di];exact hs) rfl hr mq ok fi.2.2.1),h.nk,h.n8⟩⟩
theorem W_off (h:WX c w xs ls now) {a:Nat} (ha:1 ≤ a∧a ≤ c.N):Calls Tryz.prog 18 #[.pointer (some ⟨c.wb,0,none⟩),.int .i64 a] w fun e w'=>e=.returned (.bool (xs a).fell.isSome)∧w'=w:=by
 obtain ⟨S,h⟩:=h
 obtain ⟨n,D,tb,q,at1⟩:=h.at_ ha
 rw [← h.wb]
 exact Off_at h.mw (by rw [at1];exact q.has.off h.mw)
theorem C_arm (h:Wst c w xs ls now) {a:Nat} (ha:1 ≤ a∧a ≤ c.N):
  Calls Tryz.prog 17 #[.pointer (some ⟨c.wb,0,none⟩),.int .i64 a,.int .i64 (-1)] w fun e w'=>e=.returned (.bool true)∧Wst c w' (upd xs a { xs a with calm:=true }) ls now:=by
 refine (W_arm h.wx ha (i:=-1) (by decide)).mono ?_
 rintro e w' ⟨rfl,wx⟩
 exact ⟨rfl,wx,h.inv.calm a _,h.nk,h.n8⟩
theorem zwd (h:Wst c w xs ls now) {a:Nat} (ha:1 ≤ a∧a ≤ c.N):
  Calls Tryz.prog 19 #[.pointer (some ⟨c.wb,0,none⟩),.int .i64 a,.slice none 0 0] w fun e w'=>e=.returned (.int .i64 0)∧∃ L B,Wst c w' (upd xs a ⟨(xs a).sd,L,B,none,true,[]⟩) ls now:=by
 refine (zmv (K:=[]) (cc:=0) h.wx ha ⟨fun j x h=>by simp at h,fun x h=>by simp at h,by decide⟩).mono ?_
 rintro e w' ⟨rfl,L,B,came,_,wx⟩
 exact ⟨rfl,L,B,wx,h.inv.back ha.1 ha.2 came,h.nk,h.n8⟩
theorem C_cut (h:Wst c w xs ls now) {a b:Nat} (ha:1 ≤ a∧a ≤ c.N) (hb:1 ≤ b∧b ≤ c.N) (hab:a ≠ b):
  Calls Tryz.prog 20 #[.pointer (some ⟨c.nb,0,none⟩),.int .i64 a,.int .i64 b,.bool false] w fun e w'=>e=.returned (.bool true)∧Wst { c with cut:=setW c.cut a b false } w' xs ls now:=by
 refine (W_cut h.wx ha hb hab false).mono ?_
 rintro e w' ⟨rfl,wx⟩
 exact ⟨rfl,wx,h.inv,h.nk,h.n8⟩
theorem WX.less {e e':List (Nat × Obj)} (h:WX { c with ex:=e' } w xs ls now) (k:∀ p ∈ e,p ∈ e'):WX { c with ex:=e } w xs ls now:=by
 obtain ⟨S,h⟩:=h
 exact ⟨S,⟨h.mw,h.u,h.wb,h.nb,h.xnb,h.nn,h.says,h.now,h.hF,h.hT,h.no,h.ni,fun p hp=>h.ex p (k p hp),h.cut⟩⟩
theorem Wst.less {e e':List (Nat × Obj)} (h:Wst { c with ex:=e' } w xs ls now) (k:∀ p ∈ e,p ∈ e'):Wst { c with ex:=e } w xs ls now:=⟨h.wx.less k,h.inv,h.nk,h.n8⟩
theorem zadm (h:Wst c w xs ls now) {a:Nat} (ha:1 ≤ a∧a ≤ c.N):Calls Tryz.prog 21 #[.pointer (some ⟨c.wb,0,none⟩),.int .i64 a] w fun e w'=>∃ (ao:Option Addr) (cap:Nat) (ks:List Int) (ex':List (Nat × Obj)),e=.returned (.slice ao ks.length cap)∧ks.Perm ((xs a).B.map (·.1))∧Wst { c with ex:=ex' } w' xs ls now∧(∀ p ∈ c.ex,p ∈ ex')∧
  ∀ (j:Nat) k,ks[j]?=some k→∃ g cur,ao=some ⟨g,0,none⟩∧(g,Obj.cells cur 62) ∈ ex'∧j * 75 + 75 ≤ cur.size∧ks.length ≤ cap∧∀ o,o < 75→cur[j * 75 + o]?=(swS (getA (xs a).B k)).cells[o]?:=by
 refine (ziy h.wx ha).mono ?_
 rintro e w' ⟨ao,cap,ks,rfl,hp,ho,hb⟩
 have ho2:=ho.2
 rcases ho2 with ⟨hv,h0⟩ | ⟨g,cp,cur,hv,hge,hh,hc,_,hs,ht⟩
 ·refine ⟨ao,cap,ks,c.ex,rfl,hp,⟨h.wx.below hb,h.inv,h.nk,h.n8⟩,fun _ q=>q,fun j k hk=>?_⟩
  have:=(List.getElem?_eq_some_iff.1 hk).1
  omega
 ·refine ⟨ao,cap,ks,(g,Obj.cells cur 62) :: c.ex,rfl,hp,⟨h.wx.add hb hge hh,h.inv,h.nk,h.n8⟩,fun _ q=>List.mem_cons_of_mem _ q,fun j k hk=>?_⟩
  have hj:=(List.getElem?_eq_some_iff.1 hk).1
  obtain ⟨g',cur',e1,e2,e3,e4,e5⟩:=zi3 ho rfl hj hk
  cases hv
  cases e1
  obtain rfl:cur=cur':=by
   have e:=hh.symm.trans e2
   injection e with e
   injection e with e
  exact ⟨g,cur,rfl,List.mem_cons_self ..,e3,e4,e5⟩
theorem D_que {l1 l2:List (Int × Int × List Nat)} (h:Wst c w xs (l1 ++ l2) now) (ne:0 < (l1 ++ l2).length) (hc:Opn c.N c.cut fun _ _=>True) (hm:Calms c.N xs) (hp:Pend c.N xs (l1 ++ l2)) (ha:∀ y ∈ l2,Ans y) (hl:2 * l1.length + l2.length ≤ 900):
  Calls Tryz.prog 24 #[.pointer (some ⟨c.wb,0,none⟩),.int .i64 ((0:Nat):Int),.int .i64 1000] w fun e w'=>e=.returned (.bool true)∧∃ xs' l1' l2',Wst c w' xs' (l1' ++ l2') now∧Calms c.N xs'∧Pend c.N xs' (l1' ++ l2')∧(∀ y ∈ l2',Ans y)∧2 * l1'.length + l2'.length + 1 ≤ 2 * l1.length + l2.length:=by
 match l1 with
 | x :: l1=>
  rw [List.length_cons] at hl
  refine (zaaf (l:=l1 ++ l2) h hc hm hp (by rw [List.length_append];omega)).mono ?_
  rintro e w' ⟨rfl,xs',l',st,cm,pd,rfl | ⟨y,rfl,ay,_⟩⟩
  ·exact ⟨rfl,xs',l1,l2,st,cm,pd,ha,by rw [List.length_cons];omega⟩
  ·rw [List.append_assoc] at st pd
   refine ⟨rfl,xs',l1,l2 ++ [y],st,cm,pd,fun z hz=>?_,by rw [List.length_cons,List.length_append,List.length_singleton];omega⟩
   rcases List.mem_append.1 hz with hz | hz
   ·exact ha z hz
   ·rw [List.mem_singleton.1 hz];exact ay
 | []=>
  match l2 with
  | []=>exact absurd ne (by simp)
  | x :: l2=>
   rw [List.length_nil,List.length_cons] at hl
   refine (zaaf (l:=l2) h hc hm hp (by omega)).mono ?_
   rintro e w' ⟨rfl,xs',l',st,cm,pd,rfl | ⟨y,rfl,_,nx⟩⟩
   ·exact ⟨rfl,xs',[],l',st,cm,pd,fun z hz=>ha z (List.mem_cons_of_mem _ hz),by rw [List.length_nil,List.length_cons];omega⟩
   ·exact absurd (ha x (List.mem_cons_self ..)) nx
end
end
section
open Sx (Ab DW Turns Did Foot MapIs)
def S2 (c:Wd) (k:Nat) (w:World):Prop:=∃ f xs ls now,Wst { c with cut:=f } w xs ls now∧ls.length ≤ 60∧(∀ n,1 ≤ n→n < k→(xs n).fell=none∧(xs n).calm=true)∧Opn c.N f fun a _=>a < k
def S2a (c:Wd) (k:Nat) (w:World):Prop:=∃ f xs ls now,Wst { c with cut:=f } w xs ls now∧ls.length ≤ 60∧(∀ n,1 ≤ n→n < k→(xs n).fell=none∧(xs n).calm=true)∧(xs k).calm=true∧Opn c.N f fun a _=>a < k
def S3 (c:Wd) (k z:Nat) (w:World):Prop:=∃ f xs ls now,Wst { c with cut:=f } w xs ls now∧ls.length ≤ 60∧(∀ n,1 ≤ n→n < k + 1→(xs n).fell=none∧(xs n).calm=true)∧Opn c.N f fun a b=>a < k ∨ (a=k∧b < z)
def S4 (c:Wd) (k:Nat) (w:World):Prop:=∃ f xs ls now,Wst { c with cut:=f } w xs ls now∧ls.length ≤ 60 + 16 * (k - 1)∧Calms c.N xs∧Opn c.N f (fun _ _=>True)∧∀ n,1 ≤ n→n < k→∀ i s,getA (xs n).B i=some s→s.d.r=1→Pd (xs n) n ls i
structure S5 (c:Wd) (f:Int→Int→Bool) (xs:Nat→Nod) (now:Cl) (k:Nat) (ks:List Int) (j:Nat) (ls:List (Int × Int × List Nat)) (w:World):Prop where
 st:Wst { c with cut:=f } w xs ls now
 len:ls.length ≤ 60 + 16 * (k - 1) + j
 calm:Calms c.N xs
 opn:Opn c.N f fun _ _=>True
 old:∀ n,1 ≤ n→n < k→∀ i s,getA (xs n).B i=some s→s.d.r=1→Pd (xs n) n ls i
 new:∀ i ∈ ks.take j,∀ s,getA (xs k).B i=some s→s.d.r=1→Pd (xs k) k ls i
def S6 (c:Wd) (j:Nat) (w:World):Prop:=∃ f xs l1 l2 now,Wst { c with cut:=f } w xs (l1 ++ l2) now∧Calms c.N xs∧Opn c.N f (fun _ _=>True)∧Pend c.N xs (l1 ++ l2)∧(∀ y ∈ l2,Ans y)∧2 * l1.length + l2.length + j ≤ 248
section
variable {c:Wd} {w w':World} {k z j:Nat}
theorem P_arm (h:S2 c k w) (hk:1 ≤ k∧k ≤ c.N):Calls Tryz.prog 17 #[.pointer (some ⟨c.wb,0,none⟩),.int .i64 k,.int .i64 (-1)] w fun e w'=>e=.returned (.bool true)∧S2a c k w':=by
 obtain ⟨f,xs,ls,now,st,hl,hc,ho⟩:=h
 refine (C_arm st hk).mono ?_
 rintro e w' ⟨rfl,st⟩
 refine ⟨rfl,f,_,ls,now,st,hl,fun n n1 n2=>?_,by rw [upd_at],ho⟩
 rw [upd_ne _ _ (show n ≠ k by omega)]
 exact hc n n1 n2
theorem P_off (h:S2a c k w) (hk:1 ≤ k∧k ≤ c.N):∃ b,Calls Tryz.prog 18 #[.pointer (some ⟨c.wb,0,none⟩),.int .i64 k] w (fun e w'=>e=.returned (.bool b)∧w'=w)∧(b=false→S3 c k (k + 1) w)∧
  (b=true→Calls Tryz.prog 19 #[.pointer (some ⟨c.wb,0,none⟩),.int .i64 k,.slice none 0 0] w fun e w'=>e=.returned (.int .i64 0)∧S3 c k (k + 1) w'):=by
 obtain ⟨f,xs,ls,now,st,hl,hc,hcm,ho⟩:=h
 have hop:Opn c.N f fun a b=>a < k ∨ (a=k∧b < k + 1):=ho.mono fun a b h1 h2 h3 q=>by
  rcases q with q | q
  ·exact q
  ·omega
 refine ⟨_,W_off st.wx hk,fun e=>?_,fun _=>?_⟩
 ·refine ⟨f,xs,ls,now,st,hl,fun n n1 n2=>?_,hop⟩
  by_cases e2:n=k
  ·subst e2
   refine ⟨?_,hcm⟩
   cases q:(xs n).fell with
   | none=>rfl
   | some _=>rw [q] at e;cases e
  ·exact hc n n1 (by omega)
 ·refine (zwd st hk).mono ?_
  rintro e w' ⟨rfl,L,B,st⟩
  refine ⟨rfl,f,_,ls,now,st,hl,fun n n1 n2=>?_,hop⟩
  by_cases e2:n=k
  ·subst e2
   rw [upd_at]
   exact ⟨rfl,rfl⟩
  ·rw [upd_ne _ _ e2]
   exact hc n n1 (by omega)
theorem P_cut (h:S3 c k z w) (hk:1 ≤ k) (hz:k < z∧z ≤ c.N):Calls Tryz.prog 20 #[.pointer (some ⟨c.nb,0,none⟩),.int .i64 k,.int .i64 z,.bool false] w fun e w'=>e=.returned (.bool true)∧S3 c k (z + 1) w':=by
 obtain ⟨f,xs,ls,now,st,hl,hc,ho⟩:=h
 refine (C_cut st (a:=k) (b:=z) ⟨hk,by show k ≤ c.N;omega⟩ ⟨by omega,hz.2⟩ (by omega)).mono ?_
 rintro e w' ⟨rfl,st⟩
 exact ⟨rfl,_,xs,ls,now,st,hl,hc,(ho.set hz.1).mono fun a b h1 h2 h3 q=>by omega⟩
theorem S3.up (h:S3 c k (c.N + 1) w):S2 c (k + 1) w:=by
 obtain ⟨f,xs,ls,now,st,hl,hc,ho⟩:=h
 exact ⟨f,xs,ls,now,st,hl,hc,ho.mono fun a b h1 h2 h3 q=>by omega⟩
theorem S2.all (h:S2 c (c.N + 1) w):S4 c 1 w:=by
 obtain ⟨f,xs,ls,now,st,hl,hc,ho⟩:=h
 exact ⟨f,xs,ls,now,st,by omega,fun n n1 n2=>hc n n1 (by omega),ho.mono fun a b h1 h2 h3 _=>by omega,fun n n1 n2=>by omega⟩
theorem S5.skip {f:Int→Int→Bool} {xs:Nat→Nod} {now:Cl} {ks:List Int} {ls:List (Int × Int × List Nat)} (h:S5 c f xs now k ks j ls w) {kk:Int} (hk:ks[j]?=some kk) {s:Sw} (hs:getA (xs k).B kk=some s) (hr:s.d.r ≠ 1):S5 c f xs now k ks (j + 1) ls w:=by
 refine ⟨h.st,by have:=h.len;omega,h.calm,h.opn,h.old,fun i hi=>?_⟩
 have hj:=(List.getElem?_eq_some_iff.1 hk)
 rw [List.take_succ_eq_append_getElem hj.1] at hi
 rcases List.mem_append.1 hi with hi | hi
 ·exact h.new i hi
 ·rw [List.mem_singleton.1 hi,hj.2]
  intro s' hs' hr'
  rw [hs] at hs'
  cases hs'
  exact absurd hr' hr
theorem zadn {f:Int→Int→Bool} {xs:Nat→Nod} {now:Cl} {ks:List Int} {ls:List (Int × Int × List Nat)} (h:S5 c f xs now k ks j ls w) (hk:1 ≤ k∧k ≤ c.N) (h4:c.N ≤ 4) (hj:j < 16) {kk:Int} (hkk:ks[j]?=some kk) {s:Sw} (hs:getA (xs k).B kk=some s) (hr:s.d.r=1):
  Calls Tryz.prog 22 #[.pointer (some ⟨c.wb,0,none⟩),.int .i64 k,.int .i64 kk] w fun e w'=>e=.returned (.int .i64 0)∧∃ x,S5 c f xs now k ks (j + 1) (ls ++ [x]) w':=by
 refine (zadl h.st h.calm hk (by have:=h.len;omega) hs hr).mono ?_
 rintro e w' ⟨rfl,x,ab,st⟩
 refine ⟨rfl,x,st,by rw [List.length_append,List.length_singleton];have:=h.len;omega,h.calm,h.opn,fun n n1 n2 i s hs hr=>(h.old n n1 n2 i s hs hr).mono fun _ q=>List.mem_append_left _ q,fun i hi=>?_⟩
 have hjj:=(List.getElem?_eq_some_iff.1 hkk)
 rw [List.take_succ_eq_append_getElem hjj.1] at hi
 rcases List.mem_append.1 hi with hi | hi
 ·exact fun s hs hr=>(h.new i hi s hs hr).mono fun _ q=>List.mem_append_left _ q
 ·rw [List.mem_singleton.1 hi,hjj.2]
  exact fun _ _ _=>.inr ⟨x,List.mem_append_right _ (List.mem_singleton.2 rfl),ab⟩
theorem S5.up {ex':List (Nat × Obj)} {f:Int→Int→Bool} {xs:Nat→Nod} {now:Cl} {ks:List Int} {ls:List (Int × Int × List Nat)} (h:S5 { c with ex:=ex' } f xs now k ks ks.length ls w) (hx:∀ p ∈ c.ex,p ∈ ex') (hp:ks.Perm ((xs k).B.map (·.1))) (h16:ks.length ≤ 16) (hk:1 ≤ k):S4 c (k + 1) w:=by
 refine ⟨f,xs,ls,now,Wst.less (c:={ c with cut:=f }) h.st hx,by have:=h.len;omega,h.calm,h.opn,fun n n1 n2 i s hs hr=>?_⟩
 by_cases e:n=k
 ·subst e
  have hn:=h.new
  rw [List.take_length] at hn
  exact hn i (hp.mem_iff.2 (List.mem_map.2 ⟨_,zb7 hs,rfl⟩)) s hs hr
 ·exact h.old n n1 (by omega) i s hs hr
theorem S4.all (h:S4 c (c.N + 1) w) (h4:c.N ≤ 4):S6 c 0 w:=by
 obtain ⟨f,xs,ls,now,st,hl,hc,ho,hp⟩:=h
 refine ⟨f,xs,ls,[],now,by rw [List.append_nil];exact st,hc,ho,?_,(fun y hy=>(by cases hy)),by rw [List.length_nil];omega⟩
 rw [List.append_nil]
 exact fun n n1 n2=>hp n n1 (by omega)
theorem zado (h:S6 c j w):∃ m:Nat,Calls Tryz.prog 23 #[.pointer (some ⟨c.nb,0,none⟩)] w (fun e w'=>e=.returned (.int .i64 m)∧w'=w)∧
  (0 < m→Calls Tryz.prog 24 #[.pointer (some ⟨c.wb,0,none⟩),.int .i64 ((0:Nat):Int),.int .i64 1000] w fun e w'=>e=.returned (.bool true)∧S6 c (j + 1) w')∧
  (m=0→∃ f xs now,Wst { c with cut:=f } w xs [] now∧Pend c.N xs []):=by
 obtain ⟨f,xs,l1,l2,now,st,cm,ho,hp,ha,hl⟩:=h
 refine ⟨_,zok (c:={ c with cut:=f }) st.wx,fun h0=>?_,fun h0=>?_⟩
 ·refine (D_que st h0 ho cm hp ha (by omega)).mono ?_
  rintro e w' ⟨rfl,xs',l1',l2',st',cm',pd',ha',hl'⟩
  exact ⟨rfl,f,xs',l1',l2',now,st',cm',ho,pd',ha',by omega⟩
 ·have e:=List.eq_nil_of_length_eq_zero h0
  rw [e] at st hp
  exact ⟨f,xs,now,st,hp⟩
end
end
end Go.Proofs.YthjgiamfaijoeaaGreatDoor
