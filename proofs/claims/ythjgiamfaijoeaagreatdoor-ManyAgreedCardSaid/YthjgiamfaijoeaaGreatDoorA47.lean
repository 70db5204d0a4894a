/- What is proved: parts of the walk and of the plain law. No condition but those each law names. -/
import Derived.Test.YthjgiamfaijoeaaGreatDoorA46
import Derived.Test.YthjgiamfaijoeaaGreatDoorA45
import Derived.Test.YthjgiamfaijoeaaGreatDoorA00
set_option linter.unusedSimpArgs false
set_option linter.unusedVariables false
namespace Go.Proofs.YthjgiamfaijoeaaGreatDoor
open Go.RowKit
open Sx (Ab DW Turns Did Foot MapIs)
set_option maxRecDepth 100000
attribute [local go_sem ↓] zad
attribute [local go_sem] zaf zai zaj zal zab zah zac zak zae zav za4 Sx.run_mk Ext.row Ext.soft_
theorem Pick_2 {v:Int} (w:World):Calls Tryz.prog 6 #[.int .i64 v,.int .i64 2] w fun e w'=>∃ b,(0 ≤ b∧b < 2)∧e=.returned (.int .i64 b)∧w'=w:=by
 have h1:-2 < v.tmod 2∧v.tmod 2 < 2:=by
  rw [Int.tmod_eq_emod]
  split <;> omega
 by_cases h:v.tmod 2 < 0
 ·have h2:IntKind.i64.wrap (v.tmod 2 + 2)=v.tmod 2 + 2:=zau (by omega) (by omega)
  have HH:=zac8 (And.intro h h1)
  have h:(v.tmod 2 < 0)=True:=eq_true h
  clear h1
  go_enter Tryz.func6,Tryz.ntmps6
  go_wp2
  go_ret
  exact ⟨_,by have:=HH.out;omega,rfl,rfl⟩
 ·have HH:=zac8 (And.intro h h1)
  have h:(v.tmod 2 < 0)=False:=eq_false h
  clear h1
  go_enter Tryz.func6,Tryz.ntmps6
  go_wp2
  go_ret
  exact ⟨_,by have:=HH.out;omega,rfl,rfl⟩
theorem Pick_3 {v:Int} (w:World):Calls Tryz.prog 6 #[.int .i64 v,.int .i64 3] w fun e w'=>∃ b,(0 ≤ b∧b < 3)∧e=.returned (.int .i64 b)∧w'=w:=by
 have h1:-3 < v.tmod 3∧v.tmod 3 < 3:=by
  rw [Int.tmod_eq_emod]
  split <;> omega
 by_cases h:v.tmod 3 < 0
 ·have h2:IntKind.i64.wrap (v.tmod 3 + 3)=v.tmod 3 + 3:=zau (by omega) (by omega)
  have HH:=zac8 (And.intro h h1)
  have h:(v.tmod 3 < 0)=True:=eq_true h
  clear h1
  go_enter Tryz.func6,Tryz.ntmps6
  go_wp2
  go_ret
  exact ⟨_,by have:=HH.out;omega,rfl,rfl⟩
 ·have HH:=zac8 (And.intro h h1)
  have h:(v.tmod 3 < 0)=False:=eq_false h
  clear h1
  go_enter Tryz.func6,Tryz.ntmps6
  go_wp2
  go_ret
  exact ⟨_,by have:=HH.out;omega,rfl,rfl⟩
theorem zzq {v:Int} (w:World):Calls Tryz.prog 6 #[.int .i64 v,.int .i64 4] w fun e w'=>∃ b,(0 ≤ b∧b < 4)∧e=.returned (.int .i64 b)∧w'=w:=by
 have h1:-4 < v.tmod 4∧v.tmod 4 < 4:=by
  rw [Int.tmod_eq_emod]
  split <;> omega
 by_cases h:v.tmod 4 < 0
 ·have h2:IntKind.i64.wrap (v.tmod 4 + 4)=v.tmod 4 + 4:=zau (by omega) (by omega)
  have HH:=zac8 (And.intro h h1)
  have h:(v.tmod 4 < 0)=True:=eq_true h
  clear h1
  go_enter Tryz.func6,Tryz.ntmps6
  go_wp2
  go_ret
  exact ⟨_,by have:=HH.out;omega,rfl,rfl⟩
 ·have HH:=zac8 (And.intro h h1)
  have h:(v.tmod 4 < 0)=False:=eq_false h
  clear h1
  go_enter Tryz.func6,Tryz.ntmps6
  go_wp2
  go_ret
  exact ⟨_,by have:=HH.out;omega,rfl,rfl⟩
theorem Pick_5 {v:Int} (w:World):Calls Tryz.prog 6 #[.int .i64 v,.int .i64 5] w fun e w'=>∃ b,(0 ≤ b∧b < 5)∧e=.returned (.int .i64 b)∧w'=w:=by
 have h1:-5 < v.tmod 5∧v.tmod 5 < 5:=by
  rw [Int.tmod_eq_emod]
  split <;> omega
 by_cases h:v.tmod 5 < 0
 ·have h2:IntKind.i64.wrap (v.tmod 5 + 5)=v.tmod 5 + 5:=zau (by omega) (by omega)
  have HH:=zac8 (And.intro h h1)
  have h:(v.tmod 5 < 0)=True:=eq_true h
  clear h1
  go_enter Tryz.func6,Tryz.ntmps6
  go_wp2
  go_ret
  exact ⟨_,by have:=HH.out;omega,rfl,rfl⟩
 ·have HH:=zac8 (And.intro h h1)
  have h:(v.tmod 5 < 0)=False:=eq_false h
  clear h1
  go_enter Tryz.func6,Tryz.ntmps6
  go_wp2
  go_ret
  exact ⟨_,by have:=HH.out;omega,rfl,rfl⟩
theorem zacw {v:Int} (w:World):Calls Tryz.prog 6 #[.int .i64 v,.int .i64 10] w fun e w'=>∃ b,(0 ≤ b∧b < 10)∧e=.returned (.int .i64 b)∧w'=w:=by
 have h1:-10 < v.tmod 10∧v.tmod 10 < 10:=by
  rw [Int.tmod_eq_emod]
  split <;> omega
 by_cases h:v.tmod 10 < 0
 ·have h2:IntKind.i64.wrap (v.tmod 10 + 10)=v.tmod 10 + 10:=zau (by omega) (by omega)
  have HH:=zac8 (And.intro h h1)
  have h:(v.tmod 10 < 0)=True:=eq_true h
  clear h1
  go_enter Tryz.func6,Tryz.ntmps6
  go_wp2
  go_ret
  exact ⟨_,by have:=HH.out;omega,rfl,rfl⟩
 ·have HH:=zac8 (And.intro h h1)
  have h:(v.tmod 10 < 0)=False:=eq_false h
  clear h1
  go_enter Tryz.func6,Tryz.ntmps6
  go_wp2
  go_ret
  exact ⟨_,by have:=HH.out;omega,rfl,rfl⟩
theorem zacx {v:Int} (w:World):Calls Tryz.prog 6 #[.int .i64 v,.int .i64 40] w fun e w'=>∃ b,(0 ≤ b∧b < 40)∧e=.returned (.int .i64 b)∧w'=w:=by
 have h1:-40 < v.tmod 40∧v.tmod 40 < 40:=by
  rw [Int.tmod_eq_emod]
  split <;> omega
 by_cases h:v.tmod 40 < 0
 ·have h2:IntKind.i64.wrap (v.tmod 40 + 40)=v.tmod 40 + 40:=zau (by omega) (by omega)
  have HH:=zac8 (And.intro h h1)
  have h:(v.tmod 40 < 0)=True:=eq_true h
  clear h1
  go_enter Tryz.func6,Tryz.ntmps6
  go_wp2
  go_ret
  exact ⟨_,by have:=HH.out;omega,rfl,rfl⟩
 ·have HH:=zac8 (And.intro h h1)
  have h:(v.tmod 40 < 0)=False:=eq_false h
  clear h1
  go_enter Tryz.func6,Tryz.ntmps6
  go_wp2
  go_ret
  exact ⟨_,by have:=HH.out;omega,rfl,rfl⟩
theorem zzr {m:Nat} (hm:2 ≤ m∧m ≤ 5) {v:Int} (w:World):Calls Tryz.prog 6 #[.int .i64 v,.int .i64 m] w fun e w'=>∃ b,(0 ≤ b∧b < (m:Int))∧e=.returned (.int .i64 b)∧w'=w:=by
 have:m=2 ∨ m=3 ∨ m=4 ∨ m=5:=by omega
 rcases this with rfl | rfl | rfl | rfl
 ·exact Pick_2 w
 ·exact Pick_3 w
 ·exact zzq w
 ·exact Pick_5 w
structure Ac where
 d:Int
 a:Int
 b:Int
 i:Int
 k:Int
 n:Int
 f:Int
 p:Lg
 g:Lg
 v:Value
def Ac.cells (x:Ac):Array Value:=#[.int .i64 x.d,.int .i64 x.a,.int .i64 x.b,.int .i64 x.i,.int .i64 x.k,.int .i64 x.n,.int .i64 x.f,.int .i64 x.p.w,.int .i64 x.p.a,.int .i64 x.p.u,.int .i64 x.g.w,.int .i64 x.g.a,.int .i64 x.g.u,x.v]
section
variable (x:Ac)
theorem zog:x.cells.size=14:=rfl
theorem ac_0:x.cells[0]?=some (.int .i64 x.d):=rfl
theorem ac_0g (q:0 < x.cells.size):x.cells[0]'q=.int .i64 x.d:=rfl
theorem ac_1:x.cells[1]?=some (.int .i64 x.a):=rfl
theorem ac_1g (q:1 < x.cells.size):x.cells[1]'q=.int .i64 x.a:=rfl
theorem ac_2:x.cells[2]?=some (.int .i64 x.b):=rfl
theorem ac_2g (q:2 < x.cells.size):x.cells[2]'q=.int .i64 x.b:=rfl
theorem ac_3:x.cells[3]?=some (.int .i64 x.i):=rfl
theorem ac_3g (q:3 < x.cells.size):x.cells[3]'q=.int .i64 x.i:=rfl
theorem ac_4:x.cells[4]?=some (.int .i64 x.k):=rfl
theorem ac_4g (q:4 < x.cells.size):x.cells[4]'q=.int .i64 x.k:=rfl
theorem ac_5:x.cells[5]?=some (.int .i64 x.n):=rfl
theorem ac_5g (q:5 < x.cells.size):x.cells[5]'q=.int .i64 x.n:=rfl
theorem ac_6:x.cells[6]?=some (.int .i64 x.f):=rfl
theorem ac_6g (q:6 < x.cells.size):x.cells[6]'q=.int .i64 x.f:=rfl
theorem ac_13:x.cells[13]?=some (x.v):=rfl
theorem ac_13g (q:13 < x.cells.size):x.cells[13]'q=x.v:=rfl
theorem ac_p:sub x.cells 7 3=x.p.cells:=by kernel_rfl
theorem ac_q:sub x.cells 10 3=x.g.cells:=by kernel_rfl
end
attribute [local go_sem ↓] ac_0 ac_1 ac_2 ac_3 ac_4 ac_5 ac_6 ac_13
attribute [local go_sem] zog ac_0g ac_1g ac_2g ac_3g ac_4g ac_5g ac_6g ac_13g ac_p ac_q
theorem KeepAt.below {w w':World} {ao:Option Addr} {K:List Int} (h:KeepAt w ao K) (hb:Below w.heap.size w w'):KeepAt w' ao K:=
 h.keep fun b o x v hc hv=>by
  have lt:=World.block_lt_of_cell? w ⟨b,o,none⟩ hc
  rw [hv]
  exact (Sx.cell_block (hb.block b lt) _).1.trans hc
theorem Wst.below {c:Wd} {w w':World} {xs:Nat→Nod} {ls:List (Int × Int × List Nat)} {now:Cl} (h:Wst c w xs ls now) (hb:Below w.heap.size w w'):Wst c w' xs ls now:=⟨h.wx.below hb,h.inv,h.nk,h.n8⟩
theorem Nx.mono {c:Wd} {n m:Nat} {w:World} (h:Nx c n w) (hm:n ≤ m):Nx c m w:=by
 obtain ⟨f,xs,ls,now,h,hl⟩:=h
 exact ⟨f,xs,ls,now,h,Nat.le_trans hl hm⟩
theorem zoh {c:Wd} {w:World} {xs:Nat→Nod} {ls:List (Int × Int × List Nat)} {now:Cl} (h:Wst c w xs ls now) {a:Nat} (ha:1 ≤ a∧a ≤ c.N) {v:Value} {ao:Option Addr} {cc:Nat} {K:List Int} (hv:v=.slice ao K.length cc) (HK:KeepAt w ao K):
  Calls Tryz.prog 19 #[.pointer (some ⟨c.wb,0,none⟩),.int .i64 a,v] w fun e w'=>(∃ v,e=.returned v)∧Nx c ls.length w':=by
 subst hv
 exact zvi h ha HK
set_option maxHeartbeats 8000000 in
theorem zyu {c:Wd} {w:World} {xs:Nat→Nod} {ls:List (Int × Int × List Nat)} {now:Cl} (h:Wst c w xs ls now) (hN:2 ≤ c.N∧c.N ≤ 5) (hl:ls.length < 1000) {x:Ac} (hi:I64 x.i) {ao:Option Addr} {cc:Nat} {K:List Int} (hv:x.v=.slice ao K.length cc) (HK:KeepAt w ao K):
  Calls Tryz.prog 10 #[.pointer (some ⟨c.wb,0,none⟩),.int .i64 c.N,.agg x.cells] w fun e w'=>e=.returned (.tuple #[])∧Nx c (ls.length + 1) w':=by
 have H:=zac8 h
 have HN:=zac8 hN
 have HI:=zac8 (And.intro hi (And.intro hv HK))
 have HL:=zac8 hl
 clear h hN hi hv HK hl
 go_enter Tryz.func10,Tryz.ntmps10
 go_upto_region 1 with (fail)
 have bx:=Bx.new w (x.cells) 33;generalize w.alloc (.cells (x.cells) 33)=V at bx ⊢;have rx:=bx.rowOf;have sx:=bx.soft
 have HV:=zac8 (H.out.below bx.below)
 have KV:=zac8 (HI.out.2.2.below bx.below)
 have LX:=zac8 bx.row
 clear bx
 go_wp2_with fail
 refine (zzr HN.out V).mono ?_
 rintro _ V1 ⟨r1,hr1,rfl,rfl⟩
 have n5:=HN.out
 obtain ⟨a,ea⟩:∃ a:Nat,(a:Int)=1 + r1:=⟨(1 + r1).toNat,by omega⟩
 have wa:IntKind.i64.wrap (1 + r1)=a:=(zau (by omega) (by omega)).trans ea.symm
 have HA:=zac8 (show 1 ≤ a∧a ≤ c.N by omega)
 clear hr1 ea
 go_wp2_with fail
 refine (zzr HN.out V1).mono ?_
 rintro _ V2 ⟨r2,hr2,rfl,rfl⟩
 obtain ⟨b,eb⟩:∃ b:Nat,(b:Int)=1 + r2:=⟨(1 + r2).toNat,by omega⟩
 have wb:IntKind.i64.wrap (1 + r2)=b:=(zau (by omega) (by omega)).trans eb.symm
 have HB:=zac8 (show 1 ≤ b∧b ≤ c.N by omega)
 clear hr2 eb
 go_wp2_with fail
 refine (zacw V2).mono ?_
 rintro _ V3 ⟨r3,hr3,rfl,rfl⟩
 have h10:r3=0 ∨ r3=1 ∨ r3=2 ∨ r3=3 ∨ r3=4 ∨ r3=5 ∨ r3=6 ∨ r3=7 ∨ r3=8 ∨ r3=9:=by omega
 clear hr3 wa wb n5
 obtain ⟨mb,rw0⟩:=zacq HV.out.wx
 rcases h10 with rfl | rfl | rfl | rfl | rfl | rfl | rfl | rfl | rfl | rfl
 ·go_wp2_with (go_at_call 29;refine (zvh HV.out HA.out HB.out HL.out HI.out.1).mono ?_;rintro _ U ⟨⟨v,rfl⟩,nx⟩;have NX:=zac8 nx;clear nx)
  go_end0
  exact ⟨rfl,NX.out⟩
 ·go_wp2_with (go_at_call 22;refine (zacv HV.out HA.out HL.out x.i).mono ?_;rintro _ U ⟨⟨v,rfl⟩,nx⟩;have NX:=zac8 nx;clear nx)
  go_end0
  exact ⟨rfl,NX.out⟩
 ·go_wp2_with (go_at_call 24;refine (zvj HV.out (Nat.le_of_lt HL.out) x.k x.f).mono ?_;rintro _ U ⟨⟨v,rfl⟩,nx⟩;have NX:=zac8 nx;clear nx)
  go_end0
  exact ⟨rfl,NX.out.mono (Nat.le_succ _)⟩
 ·go_upto_region 12 with (fail)
  (refine wp_region_still_tail 6 (by kernel_rfl) (by kernel_rfl) ?_;simp only [List.take_succ_cons,List.take_zero,List.drop_succ_cons,List.drop_zero];(iterate 6 still_step);refine wpStill_nil ?_)
  go_wp2_with (go_at_call 30;refine (zyt (HV.out.below (Below.refl _ _).drew) HL.out x.k).mono ?_;rintro _ U ⟨⟨v,rfl⟩,nx⟩;have NX:=zac8 nx;clear nx)
  go_end0
  exact ⟨rfl,NX.out⟩
 ·go_upto_region 14 with (fail)
  (refine wp_region_still_tail 6 (by kernel_rfl) (by kernel_rfl) ?_;simp only [List.take_succ_cons,List.take_zero,List.drop_succ_cons,List.drop_zero];(iterate 6 still_step);refine wpStill_nil ?_)
  go_wp2_with (go_at_call 32;refine (A_lose (HV.out.below (Below.refl _ _).drew) (Nat.le_of_lt HL.out) x.k).mono ?_;rintro _ U ⟨⟨v,rfl⟩,nx⟩;have NX:=zac8 nx;clear nx)
  go_end0
  exact ⟨rfl,NX.out.mono (Nat.le_succ _)⟩
 ·go_wp2_with (go_at_call 20;refine (A_cut HV.out HA.out HB.out true).mono ?_;rintro _ U ⟨⟨v,rfl⟩,nx⟩;have NX:=zac8 nx;clear nx)
  go_end0
  exact ⟨rfl,NX.out.mono (Nat.le_succ _)⟩
 ·go_wp2_with (go_at_call 20;refine (A_cut HV.out HA.out HB.out false).mono ?_;rintro _ U ⟨⟨v,rfl⟩,nx⟩;have NX:=zac8 nx;clear nx)
  go_end0
  exact ⟨rfl,NX.out.mono (Nat.le_succ _)⟩
 ·go_wp2_with (go_at_call 27;refine (A_turn HV.out x.k x.n).mono ?_;rintro _ U ⟨⟨v,rfl⟩,nx⟩;have NX:=zac8 nx;clear nx)
  go_end0
  exact ⟨rfl,NX.out.mono (Nat.le_succ _)⟩
 ·go_wp2_with (first
   | (go_at_call 6;refine (zacx _).mono ?_;rintro _ W4 ⟨r4,hr4,rfl,rfl⟩)
   | (go_at_call 17;refine (A_arm (i:=r4) HV.out HA.out (by omega)).mono ?_;rintro _ U ⟨⟨v,rfl⟩,nx⟩;have NX:=zac8 nx;clear nx))
  go_end0
  exact ⟨rfl,NX.out.mono (Nat.le_succ _)⟩
 ·go_wp2_with (go_at_call 19;refine (zoh HV.out HA.out HI.out.2.1 KV.out).mono ?_;rintro _ U ⟨⟨v,rfl⟩,nx⟩;have NX:=zac8 nx;clear nx)
  go_end0
  exact ⟨rfl,NX.out.mono (Nat.le_succ _)⟩
end Go.Proofs.YthjgiamfaijoeaaGreatDoor
namespace Go.Proofs.YthjgiamfaijoeaaGreatDoor
open Go.RowKit
open Sx (Ab DW Turns Did Foot MapIs)
set_option maxRecDepth 100000
attribute [local go_sem ↓] zad
attribute [local go_sem] zaf zai zaj zal zab zah zac zak zae zav za4 Sx.run_mk Ext.row Ext.soft_
section
variable {c:Wd} {w w':World} {xs:Nat→Nod} {ls:List (Int × Int × List Nat)} {now:Cl}
theorem zyv (h:WX c w xs ls now) {a:Nat} (ha:1 ≤ a∧a ≤ c.N) {i x y:Int} (hg:(getA (xs a).told i).getD (zbd 0 0)=zbd x y):
  Calls Tryz.prog 25 #[.pointer (some ⟨c.wb,0,none⟩),.int .i64 a,.int .i64 i] w fun e w'=>e=.returned (.tuple #[.int .i64 x,.int .i64 y])∧Below w.heap.size w w':=by
 obtain ⟨S,h⟩:=h
 obtain ⟨n,D,tb,q,at1⟩:=h.at_ ha
 rw [← h.wb]
 have r:=(h.mw.ndAt q.nd).row
 unfold Nd.cells at r
 rw [q.tv] at r
 exact zu0 h.mw at1 r (h.mw.tmAt q.tm) hg
theorem zru (h:WX c w xs ls now) {a:Nat} (ha:1 ≤ a∧a ≤ c.N) (id role peer:Int):
  Calls Tryz.prog 31 #[.pointer (some ⟨c.wb,0,none⟩),.int .i64 a,.int .i64 id,.int .i64 role,.int .i64 peer] w fun e w'=>e=.returned (.bool (hasB (xs a).B id role peer))∧Below w.heap.size w w':=by
 obtain ⟨S,h⟩:=h
 obtain ⟨n,D,tb,q,at1⟩:=h.at_ ha
 have hf:Fine (xs a).B:=Fine.nil.run q.run
 have hfb:=hf
 rw [← q.book] at hfb
 rw [← h.wb]
 refine (zjf h.mw q.has hfb.book.1 hfb.book.2 id role peer).mono ?_
 rintro e w' ⟨ks,hp,he,hb⟩
 rw [zzp q.book hf hp] at he
 exact ⟨he,hb⟩
def zzs (N:Nat) (xs:Nat→Nod):Prop:=∀ n,1 ≤ n→n ≤ N→∀ k s cc,getA (xs n).B k=some s→getA (xs n).told k=some (zbd 2 cc)→s.d.r=1∧∃ m:Nat,1 ≤ m∧m ≤ N∧s.d.q=m∧hasB (xs m).B k 2 n=true
theorem zacy {B:List (Int × Sw)} {k r p:Int} {s:Sw} (h:getA B k=some s) (hi:s.d.i=k) (hr:s.d.r=r) (hq:s.d.q=p):hasB B k r p=true:=by
 unfold hasB
 rw [List.any_eq_true]
 exact ⟨_,zca h,by simp [hi,hr,hq]⟩
theorem Inv.told {N:Nat} (h:Inv N xs ls):zzs N xs:=fun n h1 h2 k s cc hs ht=>by
 obtain ⟨s',m,s2,e1,e2,e3,e4,e5,e6,e7,e8⟩:=(h.node n h1 h2).told k cc ht
 obtain rfl:=Option.some.inj (hs.symm.trans e1)
 exact ⟨e2,m,e4,e5,e3,zacy e6 ((h.node m e4 e5).book k s2 e6).1 e7 e8⟩
theorem zvk {w:World} {A n cap:Nat} {ao:Option Addr} {B:List (Int × Sw)} {ks:List Int} (h:w.ownsRow A 62 75 (.slice ao n cap) n (swB B ks)) (hl:ks.length=n) {j:Nat} (hj:j < n) {k:Int} (hk:ks[j]?=some k):∃ g cur,ao=some ⟨g,0,none⟩∧w.heap[g]?=some (.cells cur 62)∧j * 75 + 75 ≤ cur.size∧n ≤ cap∧∀ o,o < 75→cur[j * 75 + o]?=(swS (getA B k)).cells[o]?:=by
 subst hl
 rcases h.2 with ⟨hv,h0⟩ | ⟨g,cp,cur,hv,_,hh,hc,_,hs,ht⟩
 ·omega
 ·cases hv
  have hz:cur.size=cap * 75:=hs
  have hz2:ks.length * 75 ≤ cap * 75:=Nat.mul_le_mul_right 75 hc
  have hj2:(j + 1) * 75 ≤ ks.length * 75:=Nat.mul_le_mul_right 75 hj
  have ek:ks[j]=k:=Option.some.inj ((List.getElem?_eq_getElem hj).symm.trans hk)
  refine ⟨g,cur,rfl,hh,by omega,hc,fun o ho=>?_⟩
  have e:=zvd B ks j hj o (by omega)
  rw [← ht,List.getElem?_take_of_lt (by omega),ek] at e
  simpa [Sw.cells] using e
set_option maxHeartbeats 8000000 in
theorem zvl (h:WX c w xs ls now) (hN:c.N ≤ 100) (hw:∀ n,1 ≤ n→n ≤ c.N→Words (xs n).told) (hm:zzs c.N xs):Calls Tryz.prog 12 #[.pointer (some ⟨c.wb,0,none⟩),.int .i64 c.N] w fun e w'=>e=.returned (.bool true)∧Below w.heap.size w w':=by
 have H:=zac8 h
 have HM:=zac8 (And.intro hw hm)
 have HN:=zac8 hN
 clear h hm hN hw
 go_enter Tryz.func12,Tryz.ntmps12
 go_upto_region 2 with (fail)
 go_loopw [5] (fun i wr=>∃ k:Nat,1 ≤ k∧k ≤ c.N + 1∧i=.int .i64 k∧Below w.heap.size w wr) (fun i _=>c.N + 1 - (intOf i).toNat)
 case atStart=>exact ⟨1,by omega,by omega,rfl,Below.refl _ w⟩
 case round=>
  obtain ⟨k,hk1,hk2,rfl,hb⟩:=hrel
  have HB:=zac8 hb
  clear hb
  have wk:IntKind.i64.wrap ((k:Int) + 1)=(k:Int) + 1:=zau (by omega) (by have:=HN.out;omega)
  by_cases hlt:k ≤ c.N
  ·have i1:(k:Int) ≤ c.N:=by omega
   have SW:=zac8 (zob (H.out.below HB.out) (a:=k) ⟨hk1,hlt⟩)
   go_upto_region 6 with (go_at_call 21;refine SW.out.mono ?_;rintro _ V ⟨ao,cap,ks,rfl,hp,ho,hb⟩)
   have HO:=zac8 (And.intro hp ho)
   have HV:=zac8 (HB.out.trans (hb.mono HB.out.size))
   have hl16:ks.length ≤ 16:=by rw [hp.length_eq,List.length_map];exact (H.out.fine ⟨hk1,hlt⟩).len
   have HL:=zac8 hl16
   clear hp ho hb SW hl16
   go_loopw [7] (fun i wr=>∃ j:Nat,j ≤ ks.length∧i=.int .i64 j∧Below V.heap.size V wr) (fun i _=>ks.length - (intOf i).toNat)
   case atStart=>exact ⟨0,Nat.zero_le _,rfl,Below.refl _ V⟩
   case round=>
    obtain ⟨j,hj,rfl,hbv⟩:=hrel
    have wj:IntKind.i64.wrap ((j:Int) + 1)=(j:Int) + 1:=zau (by omega) (by have:=HL.out;omega)
    by_cases hjl:j < ks.length
    ·have j1:(j:Int) < ks.length:=by omega
     obtain ⟨kk,hkk⟩:∃ kk,ks[j]?=some kk:=⟨_,List.getElem?_eq_getElem hjl⟩
     obtain ⟨g,cur,rfl,hg,hcz,hcap,hsub⟩:=zvk HO.out.2 rfl hjl hkk
     obtain ⟨s,hs⟩:=zki (HO.out.1.mem_iff.1 (List.mem_of_getElem? hkk))
     have fi:=(H.out.fine ⟨hk1,hlt⟩).at hs
     rw [hs] at hsub
     have e0:=hsub 0 (by decide)
     have e1:=hsub 1 (by decide)
     have e40:=hsub 40 (by decide)
     have c0:cur[j * 75 + 0]?=some (.int .i64 s.d.i):=e0.trans (s_0 s)
     have c1:cur[j * 75 + 1]?=some (.int .i64 s.d.r):=e1.trans (s_1 s)
     have c40:cur[j * 75 + 40]?=some (.int .i64 s.d.q):=e40.trans (s_40 s)
     rw [Nat.add_zero] at c0
     have z0:j * 75 < cur.size:=by omega
     have z1:j * 75 + 1 < cur.size:=by omega
     have z40:j * 75 + 40 < cur.size:=by omega
     have g0:cur[j * 75]'z0=.int .i64 s.d.i:=Option.some.inj ((Array.getElem?_eq_getElem z0).symm.trans c0)
     have g1:cur[j * 75 + 1]'z1=.int .i64 s.d.r:=Option.some.inj ((Array.getElem?_eq_getElem z1).symm.trans c1)
     have g40:cur[j * 75 + 40]'z40=.int .i64 s.d.q:=Option.some.inj ((Array.getElem?_eq_getElem z40).symm.trans c40)
     have rg:=zaa ((hbv.block g (zac7 hg).1).trans hg)
     have HG:=zac8 ((hbv.block g (zac7 hg).1).trans hg)
     have HBV:=zac8 hbv
     obtain ⟨kd,cd,hkc⟩:=ziq (getA (xs k).told s.d.i) (fun x hx=>HM.out.1 k hk1 hlt _ _ hx)
     have TD:=zac8 (zyv (H.out.below (HV.out.trans (HBV.out.mono HV.out.size))) ⟨hk1,hlt⟩ hkc)
     have HS:=zac8 (And.intro hs (And.intro fi hkc))
     clear hg hs fi hkk hbv hsub e0 e1 e40 hkc
     go_upto_region 9 with (go_at_call 25;refine TD.out.mono ?_;rintro _ V2 ⟨rfl,hb2⟩)
     have HB2:=zac8 (HBV.out.trans (hb2.mono HBV.out.size))
     have rg2:=zaa ((hb2.block g (zac7 HG.out).1).trans HG.out)
     have lg:g < V2.heap.size:=Nat.lt_of_lt_of_le (zac7 HG.out).1 hb2.size
     clear rg TD hb2
     by_cases hk2:kd=2
     ·subst hk2
      have ht:getA (xs k).told kk=some (zbd 2 cd):=by
       have e:=HS.out.2.2
       rw [HS.out.2.1.1] at e
       cases q:getA (xs k).told kk with
       | none=>
        rw [q] at e
        have:=(zmq e).1
        omega
       | some v=>
        rw [q] at e
        exact congrArg some e
      obtain ⟨hr,m,m1,m2,hq,hh⟩:=HM.out.2 k hk1 hlt kk s cd HS.out.1 ht
      rw [hr] at c1 g1
      rw [hq] at c40 g40
      have AG:=zac8 (fun gw:Ext V2=>(zru ((H.out.below (HV.out.trans (HB2.out.mono HV.out.size))).below gw.below) (a:=m) ⟨m1,m2⟩ s.d.i 2 k).mono (R':=Ret (.bool true) gw.val) (fun e w' hx=>by
       rw [HS.out.2.1.1,hh] at hx
       exact ⟨hx.1,⟨⟨w',hx.2⟩,rfl⟩⟩))
      clear ht hr hq hh
      (refine zay (by kernel_rfl) (by kernel_rfl) ?_;(repeat (go_big_quiet_step (((go_at_call 31;exact Calls.ext_of (AG.out _))))));refine wpQuiet_nil ?_;rintro _ ⟨gg,rfl⟩)
      go_wp2
      go_roundw
      case rel=>exact ⟨j + 1,by omega,rfl,HB2.out.trans (gg.below.mono HB2.out.size)⟩
      case measure=>simp [intOf];omega
     ·have k2:(kd == 2)=false:=by simpa using hk2
      clear hk2
      (refine zay (by kernel_rfl) (by kernel_rfl) ?_;(repeat (go_big_quiet_step ((fail))));refine wpQuiet_nil ?_;rintro _ ⟨gg,rfl⟩)
      go_wp2
      go_roundw
      case rel=>exact ⟨j + 1,by omega,rfl,HB2.out.trans (gg.below.mono HB2.out.size)⟩
      case measure=>simp [intOf];omega
    ·obtain rfl:j=ks.length:=by omega
     have j1:¬ (ks.length:Int) < ks.length:=by omega
     have HBV:=zac8 (HV.out.trans (hbv.mono HV.out.size))
     clear hbv
     go_wp2
     go_roundw
     case rel=>exact ⟨k + 1,by omega,by omega,rfl,HBV.out⟩
     case measure=>simp [intOf];omega
  ·obtain rfl:k=c.N + 1:=by omega
   have i1:¬ ((c.N + 1:Nat):Int) ≤ c.N:=by omega
   go_wp2
   go_ret
   exact ⟨rfl,HB.out⟩
end
end Go.Proofs.YthjgiamfaijoeaaGreatDoor
namespace Go.Proofs.YthjgiamfaijoeaaGreatDoor
open Go.RowKit
open Sx (Ab DW Turns Did Foot MapIs)
set_option maxRecDepth 100000
attribute [local go_sem ↓] zad
attribute [local go_sem] zaf zai zaj zal zab zah zac zak zae zav za4 Sx.run_mk Ext.row Ext.soft_
structure AcAt (w:World) (x:Ac) (b o:Nat):Prop where
 cell:∀ j,j < 14→w.cell? ⟨b,o + j,none⟩=x.cells[j]?
 i64:I64 x.i
 keep:∃ ao cc,∃ K:List Int,x.v=.slice ao K.length cc∧(K.length ≤ 100→KeepAt w ao K)
structure ActsAt (w:World) (ao:Option Addr) (L:List Ac):Prop where
 each:∀ (i:Nat) x,L[i]?=some x→∃ b o,ao=some ⟨b,o,none⟩∧AcAt w x b (o + i * 14)
def kl (v:Value):Nat:=match v with
 | .slice _ n _=>n
 | _=>0
theorem AcAt.below {w w':World} {x:Ac} {b o:Nat} (h:AcAt w x b o) (hb:Below w.heap.size w w'):AcAt w' x b o:=by
 refine ⟨fun j hj=>?_,h.i64,?_⟩
 ·have hx:(x.cells[j]?).isSome=true:=by rw [Array.getElem?_eq_getElem (by rw [zog];exact hj)];rfl
  have lt:b < w.heap.size:=by
   rw [← h.cell j hj] at hx
   obtain ⟨v,hv⟩:=Option.isSome_iff_exists.1 hx
   exact World.block_lt_of_cell? w ⟨b,o + j,none⟩ hv
  exact (Sx.cell_block (hb.block b lt) _).1.trans (h.cell j hj)
 ·obtain ⟨ao,cc,K,e,hk⟩:=h.keep
  exact ⟨ao,cc,K,e,fun q=>(hk q).below hb⟩
theorem ActsAt.below {w w':World} {ao:Option Addr} {L:List Ac} (h:ActsAt w ao L) (hb:Below w.heap.size w w'):ActsAt w' ao L:=
 ⟨fun i x hx=>by
  obtain ⟨b,o,e,k⟩:=h.each i x hx
  exact ⟨b,o,e,k.below hb⟩⟩
def Modest (L:List Ac):Prop:=L.length ≤ 80∧∀ x ∈ L,kl x.v ≤ 100
theorem zvm {w:World} {ao:Option Addr} {cap:Nat} {L:List Ac} (h:ActsAt w ao L):Calls Tryz.prog 8 #[.slice none 0 0,.slice none 0 0,.slice ao L.length cap] w fun e w'=>w'=w∧∃ v,e=.returned v∧(v=.bool true ∨ v=.bool false∧Modest L):=by
 by_cases hlen:L.length > 80
 ·have i1:((L.length:Int) > 80)=True:=eq_true (by omega)
  clear hlen
  go_enter Tryz.func8,Tryz.ntmps8
  go_wp2
  go_ret
  exact ⟨rfl,_,rfl,.inl rfl⟩
 have i1:((L.length:Int) > 80)=False:=eq_false (by omega)
 have HL:=zac8 hlen
 have H:=zac8 h
 clear hlen h
 go_enter Tryz.func8,Tryz.ntmps8
 go_upto_region 4 with (fail)
 go_loopw [7] (fun i wr=>∃ j:Nat,j ≤ L.length∧i=.int .i64 j∧wr=w∧∀ x ∈ L.take j,kl x.v ≤ 100) (fun i _=>L.length - (intOf i).toNat)
 case atStart=>exact ⟨0,Nat.zero_le _,rfl,rfl,fun x hx=>by simp at hx⟩
 case round=>
  obtain ⟨j,hj,rfl,rfl,hall⟩:=hrel
  have HA:=zac8 hall
  clear hall
  have wj:IntKind.i64.wrap ((j:Int) + 1)=(j:Int) + 1:=zau (by omega) (by have:=HL.out;omega)
  by_cases hjl:j < L.length
  ·have j1:(j:Int) < L.length:=by omega
   obtain ⟨x,hx⟩:∃ x,L[j]?=some x:=⟨_,List.getElem?_eq_getElem hjl⟩
   obtain ⟨b,o,rfl,ka⟩:=H.out.each j x hx
   obtain ⟨a2,cc,K,hv,_⟩:=ka.keep
   have hc:(rowOf wr b)[o + j * 14 + 13]?=some (.slice a2 K.length cc):=by
    have hc:=ka.cell 13 (by decide)
    rw [zad] at hc
    rw [hc,← hv]
    rfl
   have HX:=zac8 (And.intro hx hv)
   clear ka hx hv
   by_cases hk:K.length > 100
   ·have k1:((K.length:Int) > 100)=True:=eq_true (by omega)
    clear hk
    go_wp2
    go_ret
    exact ⟨rfl,_,rfl,.inl rfl⟩
   ·have k1:((K.length:Int) > 100)=False:=eq_false (by omega)
    have HK:=zac8 hk
    clear hk
    go_wp2
    go_roundw
    case rel=>
     refine ⟨j + 1,by omega,rfl,trivial,fun y hy=>?_⟩
     have e3:L[j]=x:=Option.some.inj ((List.getElem?_eq_getElem hjl).symm.trans HX.out.1)
     rw [List.take_succ_eq_append_getElem hjl,e3] at hy
     rcases List.mem_append.1 hy with hy | hy
     ·exact HA.out y hy
     ·obtain rfl:=List.mem_singleton.1 hy
      rw [HX.out.2]
      show K.length ≤ 100
      have:=HK.out
      omega
    case measure=>simp [intOf];omega
  ·obtain rfl:j=L.length:=by omega
   have j1:¬ (L.length:Int) < L.length:=by omega
   go_wp2
   go_ret
   exact ⟨rfl,_,rfl,.inr ⟨rfl,by have:=HL.out;omega,by have:=HA.out;rwa [List.take_length] at this⟩⟩
end Go.Proofs.YthjgiamfaijoeaaGreatDoor
namespace Go.Proofs.YthjgiamfaijoeaaGreatDoor
open Go.RowKit
open Sx (Ab DW Turns Did Foot MapIs)
set_option maxRecDepth 100000
attribute [local go_sem ↓] zad
attribute [local go_sem] zaf zai zaj zal zab zah zac zak zae zav za4 Sx.run_mk Ext.row Ext.soft_
def now0:Cl:=⟨100,200,0⟩
theorem zvn {w:World} {n:Nat} (hn:2 ≤ n∧n ≤ 8) (hF:Forms w) (hT:Tabs w):Calls Tryz.prog 7 #[.int .i64 n] w fun e w'=>∃ (c:Wd) (sd:Nat→List Nat),e=.returned (.pointer (some ⟨c.wb,0,none⟩))∧(c.N=n∧c.cut=fun _ _=>false)∧WX c w' (fun j=>nod0 (sd j)) [] now0∧Below w.heap.size w c.u:=by
 refine (zxy hn).mono ?_
 rintro e W ⟨S,rfl,st⟩
 obtain ⟨sd,wx⟩:=st.wx hF hT
 exact ⟨⟨S.u,S.wb,S.nb,n,[],S.cut⟩,sd,rfl,⟨rfl,st.ct⟩,wx,st.u⟩
structure P2 (xs:Nat→Nod) (sd:List Nat) (B1 B2:List (Int × Sw)) (t1:List (Int × Value)):Prop where
 f1:(xs 1).fell=none
 f2:(xs 2).fell=none
 c1:(xs 1).calm=true
 c2:(xs 2).calm=true
 b1:(xs 1).B=B1
 b2:(xs 2).B=B2
 t1:(xs 1).told=t1
 s1:(xs 1).sd=sd
theorem p2_0 (sd:Nat→List Nat):P2 (fun j=>nod0 (sd j)) (sd 1) [] [] []:=⟨rfl,rfl,rfl,rfl,rfl,rfl,rfl,rfl⟩
theorem p2_1 {xs:Nat→Nod} {sd:List Nat} {B1 B2:List (Int × Sw)} {t1:List (Int × Value)} (p:P2 xs sd B1 B2 t1) {y:Nod} (f:y.fell=none) (c:y.calm=true) (s:y.sd=sd):P2 (upd xs 1 y) sd y.B B2 y.told:=
 ⟨by rw [upd_at];exact f,by rw [upd_ne _ _ (by decide)];exact p.f2,by rw [upd_at];exact c,by rw [upd_ne _ _ (by decide)];exact p.c2,by rw [upd_at],by rw [upd_ne _ _ (by decide)];exact p.b2,by rw [upd_at],by rw [upd_at];exact s⟩
theorem p2_2 {xs:Nat→Nod} {sd:List Nat} {B1 B2:List (Int × Sw)} {t1:List (Int × Value)} (p:P2 xs sd B1 B2 t1) {y:Nod} (f:y.fell=none) (c:y.calm=true):P2 (upd xs 2 y) sd B1 y.B t1:=
 ⟨by rw [upd_ne _ _ (by decide)];exact p.f1,by rw [upd_at];exact f,by rw [upd_ne _ _ (by decide)];exact p.c1,by rw [upd_at];exact c,by rw [upd_ne _ _ (by decide)];exact p.b1,by rw [upd_at],by rw [upd_ne _ _ (by decide)];exact p.t1,by rw [upd_ne _ _ (by decide)];exact p.s1⟩
def pLet (dd:Dl):Int × Int × List Nat:=(((1:Nat):Int),((2:Nat):Int),zbu (zaz dd))
def aLet (dd:Dl):Int × Int × List Nat:=(((2:Nat):Int),((1:Nat):Int),zbu (zb2 (zax dd 1)))
def rLet (cd:Int):Int × Int × List Nat:=(((2:Nat):Int),((1:Nat):Int),putC 7 cd)
section
variable {c:Wd} {w w':World} {xs:Nat→Nod} {ls:List (Int × Int × List Nat)} {sd:List Nat} {B1 B2:List (Int × Sw)} {t1:List (Int × Value)} {dd:Dl}
theorem T_prop (h:WX c w xs ls now0) (cn:c.N=2∧c.cut=fun _ _=>false) (p:P2 xs sd [] B2 t1) (x:Ex sd dd) (hl:ls.length < 1000):
  Calls Tryz.prog 29 #[.pointer (some ⟨c.wb,0,none⟩),.int .i64 1,.int .i64 2,.int .i64 7,.agg lgP.cells,.agg lgG.cells] w fun e w'=>e=.returned (.int .i64 0)∧∃ xs' s,s.d=dd∧P2 xs' sd [(7,s)] B2 t1∧WX c w' xs' (ls ++ [pLet dd]) now0:=by
 have K:=zmk (a:=1) (b:=2) h (by rw [cn.1];decide) (by rw [cn.1];decide) (by decide) hl (i:=7) (p:=lgP) (g:=lgG) seven
 refine K.mono ?_
 rw [p.s1,p.b1]
 have pw:zgw sd [] 7 2 lgP lgG now0=0:=x.prop
 rintro e w' ⟨k,rfl,⟨k0,kp,_⟩ | ⟨rfl,_,_,wx⟩ | ⟨rfl,_,cm,_⟩⟩
 ·exact absurd ((kp p.f1).symm.trans pw) k0
 ·have e:dealW sd 7 ((2:Nat):Int) lgP lgG now0=dd:=x.eq
  rw [e] at wx
  have q:=p2_1 (y:={ xs 1 with L:=(xs 1).L ++ zkh sd 7 ((2:Nat):Int) lgP lgG now0,B:=[(7,zez dd (secretH (sd ++ intI 7)))] }) p p.f1 p.c1 p.s1
  exact ⟨rfl,_,zez dd (secretH (sd ++ intI 7)),rfl,⟨q.f1,q.f2,q.c1,q.c2,q.b1,q.b2,q.t1.trans p.t1,q.s1⟩,wx⟩
 ·rw [p.c1] at cm;cases cm
theorem zacz (h:WX c w xs ls now0) (cn:c.N=2∧c.cut=fun _ _=>false) (p:P2 xs sd B1 [] t1) (x:Ex sd dd) {k:Nat} (hk:ls[k]?=some (pLet dd)) (hl:ls.length ≤ 1000):
  Calls Tryz.prog 24 #[.pointer (some ⟨c.wb,0,none⟩),.int .i64 k,.int .i64 1000] w fun e w'=>e=.returned (.bool true)∧∃ xs',P2 xs' sd B1 [(7,newS (zax dd 1))] t1∧WX c w' xs' (ls.eraseIdx k ++ [aLet dd]) now0:=by
 have K:=zvb (a:=1) (b:=2) (free:=1000) h (by rw [cn.1];decide) (by rw [cn.1];decide) (by decide) (by rw [cn.2]) p.f2 hk x.ok x.sm hl
 have e:zb6 T26 (xs 2).B (zax dd 1) now0 1000=0:=by rw [p.b2];exact x.take
 rw [e] at K
 refine K.mono ?_
 rintro e w' ⟨rfl,⟨q,_⟩ | ⟨_,wx⟩ | ⟨_,cm,_⟩⟩
 ·exact absurd rfl q
 ·rw [p.b2,x.i] at wx
  exact ⟨rfl,_,p2_2 (y:={ xs 2 with L:=(xs 2).L ++ [.dl (zax dd 1)],B:=[(7,newS (zax dd 1))] }) p p.f2 p.c2,wx⟩
 ·rw [p.c2] at cm;cases cm
theorem zac0 (h:WX c w xs ls now0) (cn:c.N=2∧c.cut=fun _ _=>false) {s:Sw} (p:P2 xs sd B1 [(7,s)] t1) (x:Ex sd dd) {k:Nat} (hk:ls[k]?=some (pLet dd)) (hl:ls.length ≤ 1000):
  Calls Tryz.prog 24 #[.pointer (some ⟨c.wb,0,none⟩),.int .i64 k,.int .i64 1000] w fun e w'=>e=.returned (.bool true)∧WX c w' xs (ls.eraseIdx k ++ [rLet 13]) now0:=by
 have K:=zvb (a:=1) (b:=2) (free:=1000) h (by rw [cn.1];decide) (by rw [cn.1];decide) (by decide) (by rw [cn.2]) p.f2 hk x.ok x.sm hl
 have e:zb6 T26 (xs 2).B (zax dd 1) now0 1000=13:=by rw [p.b2];exact x.take
 rw [e,x.i] at K
 refine K.mono ?_
 rintro e w' ⟨rfl,⟨_,wx⟩ | ⟨q,_⟩ | ⟨q,_⟩⟩
 ·exact ⟨rfl,wx⟩
 ·cases q
 ·cases q
theorem T_acc (h:WX c w xs ls now0) (cn:c.N=2∧c.cut=fun _ _=>false) {s:Sw} (p:P2 xs sd [(7,s)] B2 t1) (hw:Words t1) (hd:s.d=dd) (x:Ex sd dd) {k:Nat} (hk:ls[k]?=some (aLet dd)) (hl:ls.length ≤ 1000):
  Calls Tryz.prog 24 #[.pointer (some ⟨c.wb,0,none⟩),.int .i64 k,.int .i64 1000] w fun e w'=>e=.returned (.bool true)∧∃ xs',P2 xs' sd [(7,s)] B2 (putA t1 7 (zbd 2 0))∧WX c w' xs' (ls.eraseIdx k) now0:=by
 have K:=W_acc (a:=1) (b:=2) (free:=1000) (dd:=dd) (s:=s) h (by rw [cn.1];decide) (by rw [cn.1];decide) (by decide) (by rw [cn.2]) p.f1 (by rw [p.t1];exact hw) (by rw [p.b1,x.i];rfl) hd x.r x.q hk x.hd x.sm hl
 rw [p.t1,x.i] at K
 refine K.mono ?_
 rintro e w' ⟨rfl,wx⟩
 have q:=p2_1 (y:={ xs 1 with told:=putA t1 7 (zbd 2 0) }) p p.f1 p.c1 p.s1
 exact ⟨rfl,_,⟨q.f1,q.f2,q.c1,q.c2,q.b1.trans p.b1,q.b2,q.t1,q.s1⟩,wx⟩
theorem T_ref (h:WX c w xs ls now0) (cn:c.N=2∧c.cut=fun _ _=>false) {s:Sw} (p:P2 xs sd [(7,s)] B2 t1) (hw:Words t1) (hd:s.d=dd) (x:Ex sd dd) {k:Nat} (hk:ls[k]?=some (rLet 13)) (hl:ls.length ≤ 1000):
  Calls Tryz.prog 24 #[.pointer (some ⟨c.wb,0,none⟩),.int .i64 k,.int .i64 1000] w fun e w'=>e=.returned (.bool true)∧∃ xs',P2 xs' sd [(7,s)] B2 (zrq t1 7 13)∧WX c w' xs' (ls.eraseIdx k) now0:=by
 have K:=W_ref (a:=1) (b:=2) (free:=1000) (i:=7) (cd:=13) (s:=s) h (by rw [cn.1];decide) (by rw [cn.1];decide) (by decide) (by rw [cn.2]) p.f1 (by rw [p.t1];exact hw) (by rw [p.b1];rfl) (by rw [hd];exact x.r) (by rw [hd];exact x.q) (by decide) (by decide) hk hl
 rw [p.t1] at K
 refine K.mono ?_
 rintro e w' ⟨rfl,wx⟩
 have q:=p2_1 (y:={ xs 1 with told:=zrq t1 7 13 }) p p.f1 p.c1 p.s1
 exact ⟨rfl,_,⟨q.f1,q.f2,q.c1,q.c2,q.b1.trans p.b1,q.b2,q.t1,q.s1⟩,wx⟩
theorem zzt (h:WX c w xs ls now0) (cn:c.N=2∧c.cut=fun _ _=>false) (p:P2 xs sd B1 B2 t1) {a b:Int} (hg:(getA t1 7).getD (zbd 0 0)=zbd a b):
  Calls Tryz.prog 25 #[.pointer (some ⟨c.wb,0,none⟩),.int .i64 1,.int .i64 7] w fun e w'=>e=.returned (.tuple #[.int .i64 a,.int .i64 b])∧WX c w' xs ls now0:=
 W_told (a:=1) h (by rw [cn.1];decide) (by rw [p.t1];exact hg)
theorem zvo (h:WX c w xs ls now0) (cn:c.N=2∧c.cut=fun _ _=>false) (p:P2 xs sd B1 [(7,newS (zax dd 1))] t1) (x:Ex sd dd):
  Calls Tryz.prog 31 #[.pointer (some ⟨c.wb,0,none⟩),.int .i64 2,.int .i64 7,.int .i64 2,.int .i64 1] w fun e w'=>e=.returned (.bool true)∧WX c w' xs ls now0:=by
 have K:=zyf (a:=2) h (by rw [cn.1];decide) 7 2 1
 rw [p.b2] at K
 have e:hasB [(7,newS (zax dd 1))] 7 2 1=true:=by
  have hi:=x.i
  show ((zax dd 1).i == 7 && ((zax dd 1).r == 2 && (zax dd 1).q == 1) || false)=true
  rw [(zyh dd 1).1,hi]
  rfl
 rw [e] at K
 exact K
end
end Go.Proofs.YthjgiamfaijoeaaGreatDoor
namespace Go.Proofs.YthjgiamfaijoeaaGreatDoor
open Go.RowKit
open Sx (Ab DW Turns Did Foot MapIs)
set_option maxRecDepth 100000
attribute [local go_sem ↓] zad
attribute [local go_sem] zaf zai zaj zal zab zah zac zak zae zav za4 Sx.run_mk Ext.row Ext.soft_
theorem zyw (dd:Dl):(pLet dd).2.2.length < 1000000:=by have:=zb5 (zaz dd);show (zbu (zaz dd)).length < _;omega
theorem words3:Words [(7,zbd 3 13)]:=Words.nil.put 7 3 13
set_option maxHeartbeats 4000000 in
theorem zzu {w:World} (hF:Forms w) (hT:Tabs w):Calls Tryz.prog 9 #[] w fun e w'=>e=.returned (.bool true)∧Below w.heap.size w w':=by
 have HF:=zac8 (And.intro hF hT)
 clear hF hT
 go_enter Tryz.func9,Tryz.ntmps9
 go_wp2_with (first
  | (go_at_call 7;refine (zvn (n:=2) ⟨by decide,by decide⟩ HF.out.1 HF.out.2).mono ?_;rintro _ W ⟨c,sd,rfl,cn,wx,hu⟩;have WA:=zac8 (And.intro cn (And.intro wx hu));clear cn wx hu)
  | (go_at_call 28;refine (zyn W).mono ?_;rintro _ V ⟨rfl,hb⟩;have HB:=zac8 hb;clear hb))
 have bV:Below V.heap.size V ((((V.alloc (.cells Lg.zero.cells 30)).alloc (.cells Lg.zero.cells 30)).setRow V.heap.size lgP.cells).setRow (V.heap.size + 1) lgG.cells):=Below.setRow_ (Below.setRow_ (Bxs.new2 V Lg.zero.cells 30 Lg.zero.cells 30).below (zac9 _) lgP.cells) (Nat.le_succ _) lgG.cells
 generalize (((V.alloc (.cells Lg.zero.cells 30)).alloc (.cells Lg.zero.cells 30)).setRow V.heap.size lgP.cells).setRow (V.heap.size + 1) lgG.cells=V3 at bV ⊢
 obtain ⟨cn,wx,hu⟩:=WA.out
 have x:=ex_of (sd 1)
 generalize dealW (sd 1) 7 2 lgP lgG ⟨100,200,0⟩=dd at x
 have K:=zac8 (T_prop (wx.below (HB.out.trans (bV.mono HB.out.size))) cn (p2_0 sd) x (by decide))
 have X:=zac8 (And.intro cn (And.intro x hu))
 clear WA HB bV cn wx hu x
 go_wp2_with fail
 refine K.out.mono ?_
 rintro _ W1 ⟨rfl,x1,s,hd,p1,wx⟩
 obtain ⟨mb,rw1⟩:=zacq wx
 have HD:=zac8 hd
 have P1:=zac8 p1
 have K1:=zac8 (zp9 (k:=0) wx rfl (zyw dd) (by simp))
 clear K hd p1 wx
 go_wp2_with fail
 refine K1.out.mono ?_
 rintro _ W2 ⟨rfl,wx⟩
 have K2:=zac8 (zacz (k:=0) wx X.out.1 P1.out X.out.2.1 rfl (by simp))
 clear K1 wx rw1
 go_wp2_with fail
 refine K2.out.mono ?_
 rintro _ W3 ⟨rfl,x2,p2,wx⟩
 have P2':=zac8 p2
 have K3:=zac8 (zvo (show WX c W3 x2 [pLet dd,aLet dd] now0 from wx) X.out.1 p2 X.out.2.1)
 clear K2 P1 p2 wx
 go_wp2_with fail
 refine K3.out.mono ?_
 rintro _ W4 ⟨rfl,wx⟩
 have K4:=zac8 (zac0 (k:=0) wx X.out.1 P2'.out X.out.2.1 rfl (by simp))
 clear K3 wx
 go_wp2_with fail
 refine K4.out.mono ?_
 rintro _ W5 ⟨rfl,wx⟩
 have K5:=zac8 (T_ref (k:=1) (show WX c W5 x2 [aLet dd,rLet 13] now0 from wx) X.out.1 P2'.out Words.nil HD.out X.out.2.1 rfl (by simp))
 clear K4 wx
 go_wp2_with fail
 refine K5.out.mono ?_
 rintro _ W6 ⟨rfl,x3,p3,wx⟩
 have P3:=zac8 p3
 have K6:=zac8 (zzt (show WX c W6 x3 [aLet dd] now0 from wx) X.out.1 p3 (a:=3) (b:=13) rfl)
 clear K5 wx P2' p3
 go_wp2_with fail
 refine K6.out.mono ?_
 rintro _ W7 ⟨rfl,wx⟩
 have K7:=zac8 (T_acc (k:=0) wx X.out.1 P3.out words3 HD.out X.out.2.1 rfl (by simp))
 clear K6 wx
 go_wp2_with fail
 refine K7.out.mono ?_
 rintro _ W8 ⟨rfl,x4,p4,wx⟩
 have K8:=zac8 (zzt (show WX c W8 x4 [] now0 from wx) X.out.1 p4 (a:=2) (b:=0) rfl)
 clear K7 wx P3 p4
 go_wp2_with fail
 refine K8.out.mono ?_
 rintro _ W9 ⟨rfl,wx⟩
 obtain ⟨mb2,rw2⟩:=zacq wx
 have lo:=wx.low
 have K9:=zac8 (zacp wx)
 have LO:=zac8 lo
 clear K8 wx lo
 go_wp2_with (go_at_call 23;refine K9.out.mono ?_;rintro _ W10 ⟨rfl,rfl⟩)
 go_ret
 exact ⟨rfl,X.out.2.2.trans (LO.out.mono X.out.2.2.size)⟩
end Go.Proofs.YthjgiamfaijoeaaGreatDoor
