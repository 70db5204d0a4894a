/- What is proved: parts of the walk and of the plain law. No condition but those each law names. -/
import Derived.Test.YthjgiamfaijoeaaGreatDoorD32
import Derived.Test.YthjgiamfaijoeaaGreatDoorD28
import Derived.Test.YthjgiamfaijoeaaGreatDoorD29
import Derived.Test.YthjgiamfaijoeaaGreatDoorD00
set_option linter.unusedSimpArgs false
set_option linter.unusedVariables false
set_option maxRecDepth 100000
namespace Go.Proofs.YthjgiamfaijoeaaGreatDoor
open Go.RowKit
section
open Sx (Ab DW Turns Did Foot MapIs)
attribute [local go_sem ↓] zad
attribute [local go_sem] zaf zai zaj zal zab zah zac zak zae zaw za2 Sx.run_mk Ext.row Ext.soft_
def zfz (r:Option En):Bool:=r.isSome && ((swO r).d.r == 1)
theorem zej {w:World} {S:MS} (h:MW w S) {a:Nat} {n:Nd} {D:Dm} (is:Live S a n D) (i:Int):Calls Tryz.prog 63 #[.pointer (some ⟨n.b,0,none⟩),.int .i64 i] w fun e w'=>e=.returned (.tuple #[.agg (swO (getA D.M i)).d.cells,.bool (zfz (getA D.M i))])∧Below w.heap.size w w':=by
 have H:=zadv h
 have IS:=zadv is
 clear h is
 generalize hg:getA D.M i=r
 have HG:=zadv hg
 clear hg
 generalize hfb:zfz r=fb
 unfold zfz at hfb
 generalize hs:swO r=s at hfb ⊢
 generalize hi:r.isSome=bi at hfb
 have HS:=zadv (zadx hs hi)
 clear hs hi
 go_enter Tryz.func63,Tryz.ntmps63
 go_upto_region 1 with (fail)
 have bx:=Bx.new w (Dl.zero.cells) 60;generalize w.alloc (.cells (Dl.zero.cells) 60)=W at bx ⊢;have rx:=bx.rowOf;have sx:=bx.soft;have BX:=zadv bx;clear bx
 have G:=H.out.below BX.out.below
 have rn:=IS.out.row G.mw
 have BK:=zadv (zya (IS.out.dae G.mw))
 have SW:=zadv (zhb (IS.out.dae G.mw).bok i)
 rw [HG.out,HS.out.1,HS.out.2] at SW
 have rx0:=BX.out.rowOf
 clear G
 go_wp2_with (first
  | (go_at_call 60;refine BK.out.mono ?_;rintro _ V ⟨rfl,rfl⟩)
  | (go_at_call 62;refine SW.out.mono ?_;rintro _ U ⟨rfl,hb⟩;have bx:=BX.out.step hb;clear BX rx sx rx0 rn SW BK hb;have rx:=bx.rowOf;have sx:=bx.soft;have BX:=zadv bx;clear bx))
 have B2:=Bx.made U Sw.zero.cells s.cells 62
 have lt0:w.heap.size < U.heap.size:=(zadu BX.out.row).1
 have bx:=BX.out.step B2.below
 generalize (U.alloc (.cells Sw.zero.cells 62)).setRow U.heap.size s.cells=V2 at B2 bx ⊢
 have r2:=B2.rowOf
 generalize U.heap.size=ub at r2 lt0 ⊢
 clear B2 BX rx sx
 have rx:=bx.rowOf
 have sx:=bx.soft
 have BX:=zadv bx
 clear bx
 have hne:¬ ub=w.heap.size:=by omega
 have fin:rowOf (V2.drew.setRow w.heap.size s.d.cells) w.heap.size=s.d.cells∧Below w.heap.size w (V2.drew.setRow w.heap.size s.d.cells):=⟨(zab _ _ _ _ sx).trans (if_pos rfl),Below.setRow_ BX.out.below.drew (zadw _) _⟩
 have FIN:=zadv fin
 clear fin
 cases bi with
 | false=>
  subst hfb
  go_region
  go_wp2
  refine bodyPost_ret (zaq (t:=60) rfl Tryz.underlying60 rfl (by kernel_rfl) _ _ w.heap.size rfl FIN.out.1 (zlm _)) rfl ?_
  exact ⟨rfl,FIN.out.2⟩
 | true=>
  rw [Bool.true_and] at hfb
  go_region
  go_wp2
  refine bodyPost_ret (zaq (t:=60) rfl Tryz.underlying60 rfl (by kernel_rfl) _ _ w.heap.size rfl FIN.out.1 (zlm _)) rfl ?_
  exact ⟨rfl,FIN.out.2⟩
theorem zr2 {w:World} {S:MS} (h:MW w S) {a:Nat} {n:Nd} {D:Dm} (is:Live S a n D) {i:Int} (hf:zfz (getA D.M i)=false):Calls Tryz.prog 22 #[.pointer (some ⟨S.wb,0,none⟩),.int .i64 a,.int .i64 i] w fun e w'=>e=.returned (.int .i64 12)∧Goes w S w' S:=by
 have rw0:=zaa h.wrAt
 have lk:=h.look a
 rw [MS.at_some is.at_] at lk
 unfold ptA at lk
 have OF:=zadv (is.off h)
 have FI:=zadv (zej h is i)
 rw [hf] at FI
 have H:=zadv h
 clear h is hf
 go_enter Tryz.func22,Tryz.ntmps22
 go_wp2_with (first
  | (go_at_call 57;refine OF.out.mono ?_;rintro _ V ⟨rfl,rfl⟩)
  | (go_at_call 63;refine FI.out.mono ?_;rintro _ U ⟨rfl,hb⟩;have G:=zadv (H.out.below hb);clear hb OF FI rw0 lk))
 go_ret
 exact ⟨rfl,G.out.trans (G.out.mw.below (Bx.made U Dl.zero.cells _ 60).below)⟩
theorem zr3 {w:World} {S:MS} (h:MW w S) {a i:Int} {x:Nat} (e:S.at_ a=ptA x) (ho:Calls Tryz.prog 57 #[ptA x] w fun e w'=>e=.returned (.bool true)∧w'=w):Calls Tryz.prog 22 #[.pointer (some ⟨S.wb,0,none⟩),.int .i64 a,.int .i64 i] w fun e w'=>e=.returned (.int .i64 9)∧w'=w:=by
 have rw0:=zaa h.wrAt
 have lk:=h.look a
 rw [e] at lk
 unfold ptA at lk
 have HO:=zadv ho
 clear h e ho
 go_enter Tryz.func22,Tryz.ntmps22
 go_wp2_with (go_at_call 57;refine HO.out.mono ?_;rintro _ V ⟨rfl,rfl⟩)
 go_ret
 exact ⟨rfl,rfl⟩
end
section
open Sx (Ab DW Turns Did Foot MapIs)
attribute [local go_sem ↓] zad
attribute [local go_sem] zaf zai zaj zal zab zah zac zak zae zaw za2 Sx.run_mk Ext.row Ext.soft_
def ltV (f t:Int) (a:Option Addr) (n c:Nat):Array Value:=#[.int .i64 f,.int .i64 t,.slice a n c]
theorem zyo {α:Type} (f:Nat→α) {k:Nat} {v:α} (h:f k=v):upd f k v=f:=funext fun j=>by
 unfold upd
 split
 ·rename_i e;rw [e,h]
 ·rfl
end
section
open Sx (Ab DW Turns Did Foot MapIs)
attribute [local go_sem ↓] zad
attribute [local go_sem] zaf zai zaj zal zab zah zac zak zae zaw za2 Sx.run_mk Ext.row Ext.soft_
theorem IMap.look2 {t et:TypeId} {z:Value} (hu:Tryz.prog.underlying t=some (.map 3 et)) {i:TypeInfo} (hi:Tryz.prog.info? et=some i) (hz:i.zero=some z) {w:World} {r:Nat} {l:List (Int × Value)} (h:IMap w r l) (k:Int):
  (Instr.lookup t (.map (some r)) (.int .i64 k) true).run Tryz.prog w=.ok (.tuple #[(getA l k).getD z,.bool (getA l k).isSome]) w:=by
 obtain ⟨es,c,h1,h2,_⟩:=h
 have hk:Sx.KeyT Tryz.prog 3 IntK:=Sx.keyInt Tryz.underlying3
 have hes:=zbm h2 (zcc id l)
 cases hg:getA l k with
 | none=>exact Sx.run_lookup_no hu hk hi hz h1 h2 ⟨k,rfl⟩ hes (by rw [zcb,hg];rfl)
 | some v=>exact Sx.run_lookup_ok hu hk h1 h2 ⟨k,rfl⟩ hes (by rw [zcb,hg];rfl)
def zbd (k c:Int):Value:=.agg #[.int .i64 k,.int .i64 c]
theorem zbz {w:World} {r:Nat} {l:List (Int × Value)} (h:IMap w r l) (k:Int):(Instr.lookup 80 (.map (some r)) (.int .i64 k) true).run Tryz.prog w=.ok (.tuple #[(getA l k).getD (zbd 0 0),.bool (getA l k).isSome]) w:=by
 obtain ⟨i,h1,h2⟩:=zz5
 exact h.look2 Tryz.underlying80 h1 h2 k
theorem eql_l (l:Lg) (w:World):(binOp .eql 30 (.agg l.cells) (.agg l.cells)).run Tryz.prog w=.ok (.bool true) w:=by
 unfold Lg.cells
 simp [go_sem]
theorem eqg26 (w:World) (x y:Operand) (xs ys:Array Value):(eqGuard .eql 30 x y (.agg xs) (.agg ys)).run Tryz.prog w=.ok () w:=by kernel_rfl
def IsL (v:Value):Prop:=∃ l:Lg,v=.agg l.cells
theorem is_l (l:Lg):IsL (.agg l.cells)=True:=eq_true ⟨l,rfl⟩
theorem zp8 (w:World) (ρ:Operand→Value) (x y:Operand) (dst:Option Tmp) (ty:TypeId) (pos:String) (af:Array Edge) (gd:Option (Nat × Bool)) (r:TypeId) (h1:ρ x=ρ y) (h2:IsL (ρ y)):(execOp ρ ⟨dst,.binOp .eql 30 x y r,ty,pos,af,gd⟩).run Tryz.prog w=.ok (.value (.bool true)) w:=by
 obtain ⟨l,hl⟩:=h2
 unfold execOp
 simp only [Sem.run_bind,h1,hl,eqg26,Result.andThen_ok,eql_l,Sem.run_pure]
attribute [local go_sem ↓] zmj zp8
attribute [local go_sem] is_h is_l
theorem zp9 {w:World} {r:Nat} {l:List (Int × Value)} (h:IMap w r l) (k:Int) (v:Value):∃ es c,(Instr.mapUpdate 80 (.map (some r)) (.int .i64 k) v).run Tryz.prog w=.ok () (putMap w r es c)∧IMap (putMap w r es c) r (putA l k v):=h.upd Tryz.underlying80 k v
set_option maxHeartbeats 2000000 in
theorem zyp {w:World} {S:MS} (h:MW w S) (hF:Forms S.u) {f b:Nat} {n:Nd} {D:Dm} (is:Live S b n D) {tb:Nat} {tl:List (Int × Value)} (ht:S.tm b=some (tb,tl)) (hv:n.tv=.map (some tb)) {ao:Option Addr} {nn c:Nat} {l:List Nat} (hs:Sl w ao nn c (bts l)) (hr:Rs (l,0)) {i:Int} {x y:Int} (hw:(getA tl i).getD (zbd 0 0)=zbd x y) {q:En} (hq:getA D.M i=some q) (h1:(q.s.d.r == 1)=true) (hp:q.s.d.q=f) (hm:zee l=(0,⟨2,i,0,q.s.d.g,q.s.d.p,q.s.d.h⟩)) {free:Int}:
  Calls Tryz.prog 66 #[.pointer (some ⟨S.wb,0,none⟩),.pointer (some ⟨n.b,0,none⟩),.agg (ltV f b ao nn c),.int .i64 free] w fun e w'=>e=.returned (.tuple #[])∧Goes w S w' { S with tm:=upd S.tm b (some (tb,putA tl i (zbd 2 0))) }:=by
 have H:=zadv h
 have IS:=zadv is
 have HS:=zadv hs
 have HF:=zadv hF
 have HT:=zadv (zadx ht hv)
 have HR:=zadv (zadx hr hm)
 have HQ:=zadv (zadx hq (zadx h1 hp))
 clear h is hs hr hm hF ht hv hq h1 hp
 unfold ltV
 go_enter Tryz.func66,Tryz.ntmps66
 go_upto_region 1 with (fail)
 have bx:=Bx.new w (#[.int .i64 f,.int .i64 b,.slice ao nn c]) 120;generalize w.alloc (.cells (#[.int .i64 f,.int .i64 b,.slice ao nn c]) 120)=W at bx ⊢;have rx:=bx.rowOf;have sx:=bx.soft;have BX:=zadv bx;clear bx
 have G:=H.out.below BX.out.below
 have MG:=zadv (zfr (HF.out.keep (zadw _) G.mw.low) (HS.out.keep (zadw _) BX.out.below) HR.out.1)
 rw [HR.out.2] at MG
 unfold zt5 at MG
 clear G
 dsimp only at MG
 go_upto_region 6 with (go_at_call 102;refine MG.out.mono ?_;rintro _ V ⟨rfl,hb⟩;have bx:=BX.out.step hb;clear BX rx sx MG hb;have rx:=bx.rowOf;have BX:=zadv bx;clear bx)
 generalize hM:(⟨2,i,0,q.s.d.g,q.s.d.p,q.s.d.h⟩:Msg)=m at *
 have B2:=Bx.made V Msg.zero.cells m.cells 118
 have bx:=BX.out.step B2.below
 generalize (V.alloc (.cells Msg.zero.cells 118)).setRow V.heap.size m.cells=V2 at B2 bx ⊢
 have rm:=B2.rowOf
 have by_:=B2.row
 generalize V.heap.size=mb at rm by_ ⊢
 have G:=H.out.below bx.below
 have FI:=zadv (zej G.mw IS.out i)
 rw [HQ.out.1] at FI
 have fb:zfz (some q)=true:=HQ.out.2.1
 rw [fb] at FI
 replace FI:Hid (Calls Tryz.prog 63 #[.pointer (some ⟨n.b,0,none⟩),.int .i64 i] V2 fun e w'=>e=.returned (.tuple #[.agg q.s.d.cells,.bool true])∧Below V2.heap.size V2 w'):=FI
 have mi:m.i=i:=by rw [← hM]
 have BY:=zadv by_
 clear fb G rx BX B2 by_
 have rx:=bx.rowOf
 have BX:=zadv bx
 clear bx
 have pq:(q.s.d.q != (f:Int))=false:=by rw [HQ.out.2.2];simp
 have HM:=zadv hM
 clear hM
 go_upto_region 7 with (go_at_call 63;refine FI.out.mono ?_;rintro _ U ⟨rfl,hb⟩;have bx:=BX.out.step hb;have by_:=(hb.block _ (zadu BY.out).1).trans BY.out;clear BX BY rx rm FI hb;have BX:=zadv bx;have BY:=zadv by_;clear bx by_)
 have B3:=Bx.made U Dl.zero.cells q.s.d.cells 60
 have bx:=BX.out.step B3.below
 have by_:=(B3.below.block _ (zadu BY.out).1).trans BY.out
 generalize (U.alloc (.cells Dl.zero.cells 60)).setRow U.heap.size q.s.d.cells=V3 at B3 bx by_ ⊢
 have rd:=B3.rowOf
 have bd:=B3.row
 have l3:=(zadu bd).1
 generalize U.heap.size=db at rd bd l3 ⊢
 clear B3 BX BY
 have rx:=bx.rowOf
 have rm:=zaa by_
 have G:=H.out.below bx.below
 have rn:=IS.out.row G.mw
 rw [HT.out.2] at rn
 have lk:=zbz (G.mw.tmAt HT.out.1) i
 dsimp only at lk
 have l1:=(zadu bx.row).1
 have l2:=(zadu by_).1
 have l4:=(zadu (G.mw.ndAt IS.out.nd).row).1
 have BX:=zadv bx
 have GG:=zadv G
 have LL:=zadv (zadx l1 (zadx l2 (zadx l3 l4)))
 clear bx G by_ bd l1 l2 l3 l4
 generalize q.s.d=d at *
 rw [hw] at lk
 unfold zbd at lk
 go_upto_region 8 with (fail)
 clear rx
 have lkA:=zbz (((GG.out.mw.tmAt HT.out.1).same ((MapKept.heap_alloc V3 (.cells #[.int .i64 0,.int .i64 0] 125)).2 _ (GG.out.mw.tmAt HT.out.1).lt)):IMap (V3.alloc (.cells #[.int .i64 0,.int .i64 0] 125)).drew tb tl) i
 have lkB:=zbz (((GG.out.mw.tmAt HT.out.1).same rfl):IMap V3.drew tb tl) i
 dsimp only at lkA lkB
 rw [hw] at lkA lkB
 unfold zbd at lkA lkB
 have n1:(mb=V3.heap.size)=False:=eq_false (Nat.ne_of_lt LL.out.2.1)
 have n2:(n.b=V3.heap.size)=False:=eq_false (Nat.ne_of_lt LL.out.2.2.2)
 have n3:(db=V3.heap.size)=False:=eq_false (Nat.ne_of_lt LL.out.2.2.1)
 generalize (getA tl i).isSome=kn at lk lkA lkB
 clear lk
 go_region
 all_goals
  have b4:=(zat V3 (.cells #[.int .i64 x,.int .i64 y] 125)).drew
  have rm4:=(za9 (b4.block _ LL.out.2.1)).trans rm
  have rd4:=(za9 (b4.block _ LL.out.2.2.1)).trans rd
  have rn4:=(za9 (b4.block _ LL.out.2.2.2)).trans rn
  have G4:=GG.out.trans (GG.out.mw.below b4)
  clear b4 rm rd rn lkA lkB n1 n2 n3 GG LL
  generalize (V3.alloc (.cells #[.int .i64 x,.int .i64 y] 125)).drew=V4 at rm4 rd4 rn4 G4 ⊢
  have tm4:IMap V4.drew tb tl:=(G4.mw.tmAt HT.out.1).same rfl
  obtain ⟨es,cc,hup,hm5⟩:=zp9 tm4 i (zbd 2 0)
  have g5:=(G4.mw.below (Below.refl _ V4).drew).mw.tmTo (w':=putMap V4.drew tb es cc) b (p:=(tb,putA tl i (zbd 2 0))) ⟨rfl,rfl,rfl,by simp [putMap],fun j hj hn=>⟨zbw _ _ _ _ (by intro e;exact hn (by simp only [MS.part,HT.out.1];exact e)),fun e=>hn (by simp only [MS.part,HT.out.1];exact e)⟩⟩ hm5
  have G5:=zadv (G4.trans ((G4.mw.below (Below.refl _ V4).drew).trans g5))
  unfold zbd at hup
  clear tm4 hm5 g5 G4 BX
  have hm2:=HM.out
  clear HM
  subst hm2
  go_upto_region 10 with (fail)
  (refine wp_region_still_tail 7 (by kernel_rfl) (by kernel_rfl) ?_;simp only [List.take_succ_cons,List.take_zero,List.drop_succ_cons,List.drop_zero];(iterate 7 still_step);refine wpStill_nil ?_)
  go_wp2
  go_end0
  exact ⟨rfl,G5.out⟩
end
section
open Sx (Ab DW Turns Did Foot MapIs)
attribute [local go_sem ↓] zad
attribute [local go_sem] zaf zai zaj zal zab zah zac zak zae zaw za2 Sx.run_mk Ext.row Ext.soft_
attribute [local go_sem ↓] zmj zp8
attribute [local go_sem] is_h is_l
attribute [local go_sem] ztw ztx zty
set_option maxHeartbeats 2000000 in
theorem zyq {w:World} {S:MS} (h:MW w S) (hF:Forms S.u) {f b:Nat} {n:Nd} {D:Dm} (is:Live S b n D) {tb:Nat} {tl:List (Int × Value)} (ht:S.tm b=some (tb,tl)) (hv:n.tv=.map (some tb)) {ao:Option Addr} {nn c:Nat} {l:List Nat} (hs:Sl w ao nn c (bts l)) (hr:Rs (l,0)) {i:Int} {x y:Int} {cd:Int} (hw:(getA tl i).getD (zbd 0 0)=zbd x y) (hkn:(getA tl i).isSome=false) {q:En} (hq:getA D.M i=some q) (h1:(q.s.d.r == 1)=true) (hp:q.s.d.q=f) (hm:zee l=(0,msgR i cd)) {free:Int}:
  Calls Tryz.prog 66 #[.pointer (some ⟨S.wb,0,none⟩),.pointer (some ⟨n.b,0,none⟩),.agg (ltV f b ao nn c),.int .i64 free] w fun e w'=>e=.returned (.tuple #[])∧Goes w S w' { S with tm:=upd S.tm b (some (tb,putA tl i (zbd 3 cd))) }:=by
 have H:=zadv h
 have IS:=zadv is
 have HS:=zadv hs
 have HF:=zadv hF
 have HT:=zadv (zadx ht hv)
 have HR:=zadv (zadx hr hm)
 have HQ:=zadv (zadx hq (zadx h1 hp))
 clear h is hs hr hm hF ht hv hq h1 hp
 unfold ltV
 go_enter Tryz.func66,Tryz.ntmps66
 go_upto_region 1 with (fail)
 have bx:=Bx.new w (#[.int .i64 f,.int .i64 b,.slice ao nn c]) 120;generalize w.alloc (.cells (#[.int .i64 f,.int .i64 b,.slice ao nn c]) 120)=W at bx ⊢;have rx:=bx.rowOf;have sx:=bx.soft;have BX:=zadv bx;clear bx
 have G:=H.out.below BX.out.below
 have MG:=zadv (zfr (HF.out.keep (zadw _) G.mw.low) (HS.out.keep (zadw _) BX.out.below) HR.out.1)
 rw [HR.out.2] at MG
 unfold zt5 at MG
 clear G
 dsimp only at MG
 go_upto_region 6 with (go_at_call 102;refine MG.out.mono ?_;rintro _ V ⟨rfl,hb⟩;have bx:=BX.out.step hb;clear BX rx sx MG hb;have rx:=bx.rowOf;have BX:=zadv bx;clear bx)
 generalize hM:msgR i cd=m at *
 have B2:=Bx.made V Msg.zero.cells m.cells 118
 have bx:=BX.out.step B2.below
 generalize (V.alloc (.cells Msg.zero.cells 118)).setRow V.heap.size m.cells=V2 at B2 bx ⊢
 have rm:=B2.rowOf
 have by_:=B2.row
 generalize V.heap.size=mb at rm by_ ⊢
 have G:=H.out.below bx.below
 have FI:=zadv (zej G.mw IS.out i)
 rw [HQ.out.1] at FI
 have fb:zfz (some q)=true:=HQ.out.2.1
 rw [fb] at FI
 replace FI:Hid (Calls Tryz.prog 63 #[.pointer (some ⟨n.b,0,none⟩),.int .i64 i] V2 fun e w'=>e=.returned (.tuple #[.agg q.s.d.cells,.bool true])∧Below V2.heap.size V2 w'):=FI
 have mi:m.i=i:=by rw [← hM];rfl
 have BY:=zadv by_
 clear fb G rx BX B2 by_
 have rx:=bx.rowOf
 have BX:=zadv bx
 clear bx
 have pq:(q.s.d.q != (f:Int))=false:=by rw [HQ.out.2.2];simp
 have HM:=zadv hM
 clear hM
 go_upto_region 7 with (go_at_call 63;refine FI.out.mono ?_;rintro _ U ⟨rfl,hb⟩;have bx:=BX.out.step hb;have by_:=(hb.block _ (zadu BY.out).1).trans BY.out;clear BX BY rx rm FI hb;have BX:=zadv bx;have BY:=zadv by_;clear bx by_)
 have B3:=Bx.made U Dl.zero.cells q.s.d.cells 60
 have bx:=BX.out.step B3.below
 have by_:=(B3.below.block _ (zadu BY.out).1).trans BY.out
 generalize (U.alloc (.cells Dl.zero.cells 60)).setRow U.heap.size q.s.d.cells=V3 at B3 bx by_ ⊢
 have rd:=B3.rowOf
 have bd:=B3.row
 have l3:=(zadu bd).1
 generalize U.heap.size=db at rd bd l3 ⊢
 clear B3 BX BY
 have rx:=bx.rowOf
 have rm:=zaa by_
 have G:=H.out.below bx.below
 have rn:=IS.out.row G.mw
 rw [HT.out.2] at rn
 have lk:=zbz (G.mw.tmAt HT.out.1) i
 dsimp only at lk
 have l1:=(zadu bx.row).1
 have l2:=(zadu by_).1
 have l4:=(zadu (G.mw.ndAt IS.out.nd).row).1
 have BX:=zadv bx
 have GG:=zadv G
 have LL:=zadv (zadx l1 (zadx l2 (zadx l3 l4)))
 clear bx G by_ bd l1 l2 l3 l4
 generalize q.s.d=d at *
 rw [hw] at lk
 unfold zbd at lk
 go_upto_region 8 with (fail)
 clear rx
 have lkA:=zbz (((GG.out.mw.tmAt HT.out.1).same ((MapKept.heap_alloc V3 (.cells #[.int .i64 0,.int .i64 0] 125)).2 _ (GG.out.mw.tmAt HT.out.1).lt)):IMap (V3.alloc (.cells #[.int .i64 0,.int .i64 0] 125)).drew tb tl) i
 have lkB:=zbz (((GG.out.mw.tmAt HT.out.1).same rfl):IMap V3.drew tb tl) i
 dsimp only at lkA lkB
 rw [hw] at lkA lkB
 unfold zbd at lkA lkB
 have n1:(mb=V3.heap.size)=False:=eq_false (Nat.ne_of_lt LL.out.2.1)
 have n2:(n.b=V3.heap.size)=False:=eq_false (Nat.ne_of_lt LL.out.2.2.2)
 have n3:(db=V3.heap.size)=False:=eq_false (Nat.ne_of_lt LL.out.2.2.1)
 rw [hkn] at lk lkA lkB
 clear lk
 go_region
 all_goals
  have b4:=(zat V3 (.cells #[.int .i64 x,.int .i64 y] 125)).drew
  have rm4:=(za9 (b4.block _ LL.out.2.1)).trans rm
  have rd4:=(za9 (b4.block _ LL.out.2.2.1)).trans rd
  have rn4:=(za9 (b4.block _ LL.out.2.2.2)).trans rn
  have G4:=GG.out.trans (GG.out.mw.below b4)
  clear b4 rm rd rn lkA lkB n1 n2 n3 GG LL
  generalize (V3.alloc (.cells #[.int .i64 x,.int .i64 y] 125)).drew=V4 at rm4 rd4 rn4 G4 ⊢
  have tm4:IMap V4.drew tb tl:=(G4.mw.tmAt HT.out.1).same rfl
  obtain ⟨es,cc,hup,hm5⟩:=zp9 tm4 i (zbd 3 cd)
  have g5:=(G4.mw.below (Below.refl _ V4).drew).mw.tmTo (w':=putMap V4.drew tb es cc) b (p:=(tb,putA tl i (zbd 3 cd))) ⟨rfl,rfl,rfl,by simp [putMap],fun j hj hn=>⟨zbw _ _ _ _ (by intro e;exact hn (by simp only [MS.part,HT.out.1];exact e)),fun e=>hn (by simp only [MS.part,HT.out.1];exact e)⟩⟩ hm5
  have G5:=zadv (G4.trans ((G4.mw.below (Below.refl _ V4).drew).trans g5))
  unfold zbd at hup
  clear tm4 hm5 g5 G4 BX
  have hm2:=HM.out
  clear HM
  subst hm2
  go_upto_region 12 with (fail)
  (refine wp_region_still_tail 9 (by kernel_rfl) (by kernel_rfl) ?_;simp only [List.take_succ_cons,List.take_zero,List.drop_succ_cons,List.drop_zero];(iterate 9 still_step);refine wpStill_nil ?_)
  go_wp2
  go_end0
  exact ⟨rfl,G5.out⟩
end
section
open Sx (Ab DW Turns Did Foot MapIs)
attribute [local go_sem ↓] zad
attribute [local go_sem] zaf zai zaj zal zab zah zac zak zae zaw za2 Sx.run_mk Ext.row Ext.soft_
set_option maxHeartbeats 1000000 in
theorem ziv {w:World} {S:MS} (h:MW w S) (hnb:S.nb=S.X.nb) {k:Nat} {x:Lt} (hk:S.X.L[k]?=some x) (hx:x.l.length < 1000000) (hlen:S.X.L.length ≤ 1000000) {f t:Nat} (hf:x.f=f∧1 ≤ f∧(f:Int) ≤ S.X.nodes) (ht:x.t=t∧1 ≤ t∧(t:Int) ≤ S.X.nodes) (hft:f ≠ t) (hct:S.cut (min (f:Int) t) (max (f:Int) t)=false) {n:Nd} {D:Dm} (is:Live S t n D) {free:Int} {R:MS→Prop}
  (hH:∀ W X1 a c,Goes w S W { S with X:=X1 }→X1.says=S.X.says.eraseIdx k→X1.nodes=S.X.nodes→X1.nb=S.X.nb→Sl W a x.l.length c (bts x.l)→Calls Tryz.prog 66 #[.pointer (some ⟨S.wb,0,none⟩),.pointer (some ⟨n.b,0,none⟩),.agg (ltV f t a x.l.length c),.int .i64 free] W fun e w'=>e=.returned (.tuple #[])∧∃ S',Goes w S w' S'∧R S'):
  Calls Tryz.prog 24 #[.pointer (some ⟨S.wb,0,none⟩),.int .i64 k,.int .i64 free] w fun e w'=>e=.returned (.bool true)∧∃ S',Goes w S w' S'∧R S':=by
 have rw0:=zaa h.wrAt
 rw [hnb] at rw0
 have DL:=zadv (zjp h.netAt hk hx hlen (eq_true (by have:=hf;omega)) (eq_true (by have:=hf;omega)) (eq_true (by have:=ht;omega)) (eq_true (by have:=ht;omega)) (by have:=hf.1;have:=ht.1;simp;omega) (by rw [h.netCut.2,hf.1,ht.1];exact hct))
 have H:=zadv h
 have IS:=zadv is
 have HH:=zadv hH
 have HF:=zadv (zadx hf.1 ht.1)
 clear h hk hx hlen hf ht is hH hct
 go_enter Tryz.func24,Tryz.ntmps24
 go_upto_region 2 with (go_at_call 65;refine DL.out.mono ?_;rintro _ W ⟨a,c,X1,rfl,t1,s1,hs,lo⟩)
 rw [HF.out.1,HF.out.2]
 have bx:=Bx.new W #[.int .i64 f,.int .i64 t,.slice a x.l.length c] 120
 generalize W.alloc (.cells #[.int .i64 f,.int .i64 t,.slice a x.l.length c] 120)=V at bx ⊢
 have g1:=H.out.net t1
 have G:=g1.trans (g1.mw.below bx.below)
 have GG:=zadv G
 have r0:=zaa G.mw.wrAt
 have rx:=bx.rowOf
 dsimp only at r0
 have lk:=(G.mw.below (Below.refl _ V).drew).mw.look t
 have is1:Live ({ S with X:=X1 }:MS) t n D:=⟨IS.out.nd,IS.out.ds,IS.out.at_,IS.out.xv⟩
 rw [MS.at_some is1.at_] at lk
 dsimp only at lk
 unfold ptA at lk
 have LK:=zadv lk
 have OF:=zadv (is1.off (G.mw.below (Below.refl _ V).drew).mw)
 have HE:=zadv (HH.out V.drew X1 a c (G.trans (G.mw.below (Below.refl _ V).drew)) s1 t1.nodes t1.nb (hs.keep (zadw _) bx.below.drew))
 clear G g1 is1 t1 s1 hs lo bx
 (refine wp_region_still_tail 7 (by kernel_rfl) (by kernel_rfl) ?_;simp only [List.take_succ_cons,List.take_zero,List.drop_succ_cons,List.drop_zero];(iterate 7 still_step);refine wpStill_nil ?_)
 go_wp2_with (first
  | (go_at_call 57;refine OF.out.mono ?_;rintro _ V2 ⟨rfl,rfl⟩)
  | (go_at_call 66;refine HE.out.mono ?_;rintro _ U ⟨rfl,S',g,r⟩;have GR:=zadv (zadx g r);clear g r))
 go_ret
 exact ⟨rfl,S',GR.out⟩
end
section
open Sx (Ab DW Turns Did Foot MapIs)
attribute [local go_sem ↓] zad
attribute [local go_sem] zaf zai zaj zal zab zah zac zak zae zaw za2 Sx.run_mk Ext.row Ext.soft_
def swL (M:List (Int × En)) (ks:List Int):List Value:=ks.flatMap fun k=>(swO (getA M k)).list
theorem elemW:ElemG Tryz.prog 55 62 75:=ElemG.mk' Tryz.underlying55 (by kernel_rfl) (z:=.agg Sw.zero.cells) (bytes:=152) (by show Sw.zero.cells.size=75;exact zln _) (by decide) (by decide)
theorem s_ones (s:Sw):∀ u ∈ s.list,u.oneCell'=true:=fun u hu=>by
 have:=zaa8 s
 unfold ones Sw.cells at this
 rw [List.all_toArray,List.all_eq_true] at this
 exact this u hu
structure Has (S:MS) (j:Nat) (n:Nd) (D:Dm) (k:Bool):Prop where
 nd:S.nd j=some n
 ds:S.ds j=if k then .dead D else .live D
 at_:getA S.nodes j=some (ptA n.b)
 xv:n.xv=ptA D.xb
theorem Live.has {S:MS} {j:Nat} {n:Nd} {D:Dm} (h:Live S j n D):Has S j n D false:=⟨h.nd,h.ds,h.at_,h.xv⟩
theorem Has.row {S:MS} {j:Nat} {n:Nd} {D:Dm} {k:Bool} (h:Has S j n D k) {w:World} (m:MW w S):rowOf w n.b=ndC (.pointer (some ⟨D.xb,0,none⟩)) n.t n.sv n.dv n.tv:=by
 have:=zaa (m.ndAt h.nd).row
 unfold Nd.cells at this
 rw [h.xv] at this
 exact this
theorem Has.dae {S:MS} {j:Nat} {n:Nd} {D:Dm} {k:Bool} (h:Has S j n D k) {w:World} (m:MW w S):Dae0 k w D:=by
 have:=m.at_ (.da j)
 simp only [MS.part,h.ds] at this
 cases k with
 | false=>exact Dae.d0 this
 | true=>exact this
theorem zmn {w:World} {D:Dm} {k:Bool} (h:Dae0 k w D):Calls Tryz.prog 60 #[.pointer (some ⟨D.xb,0,none⟩)] w fun e w'=>e=.returned (.pointer (some ⟨D.bk,0,none⟩))∧w'=w:=by
 have rD:=zaa h.row
 clear h
 go_enter Tryz.func60,Tryz.ntmps60
 go_wp2
 go_ret
 exact ⟨rfl,rfl⟩
theorem zyr (M:List (Int × En)) {ks:List Int} {k:Nat} (h:k < ks.length):swL M (ks.take (k + 1))=swL M (ks.take k) ++ (swO (getA M ks[k])).list:=by
 unfold swL
 rw [List.take_succ_eq_append_getElem h,List.flatMap_append]
 simp
theorem zz7 {w:World} {B n cap:Nat} {ao:Option Addr} {l:List Int} (hn:0 < n) (h:w.ownsRow B 3 1 (.slice ao n cap) n (l.map encZ)) (hl:l.length=n):∃ g cur,ao=some ⟨g,0,none⟩∧w.heap[g]?=some (.cells cur 3)∧n ≤ cur.size∧∀ (j:Nat) (hj:j < l.length),cur[j]?=some (.int .i64 l[j]):=by
 rcases h.2 with ⟨hv,h0,_⟩ | ⟨g,cp,cur,hv,_,hh,hc,_,hs,ht⟩
 ·cases hv;omega
 ·cases hv
  refine ⟨g,cur,rfl,hh,by omega,fun j hj=>?_⟩
  have e:(cur.toList.take (n * 1))[j]?=some (.int .i64 l[j]):=by
   rw [ht,List.getElem?_map,zady hj]
   rfl
  rw [List.getElem?_take_of_lt (by omega)] at e
  simpa using e
theorem bsW (w:World) (s:Sw):(Instr.buildSlice 55 1 #[(0,.agg s.cells)]).run Tryz.prog w=.ok (.slice (some ⟨w.heap.size,0,none⟩) 1 1) (w.alloc (.cells s.cells 62)):=by
 obtain ⟨⟨di,dr,p,g,h,q⟩,st,kn,sc⟩:=s
 obtain ⟨f,rfl⟩:=h.form
 obtain ⟨f2,rfl⟩:=sc.form
 kernel_rfl
theorem ebsW (w:World) (ρ:Operand→Value) (dst:Option Tmp) (ty:TypeId) (pos:String) (af:Array Edge) (gd:Option (Nat × Bool)) (x:Operand) (hx:ρ x=.agg (sOf (ρ x)).cells):(execOp ρ ⟨dst,.buildSlice 55 1 #[(0,x)],ty,pos,af,gd⟩).run Tryz.prog w=.ok (.value (.slice (some ⟨w.heap.size,0,none⟩) 1 1)) (w.alloc (.cells (sOf (ρ x)).cells 62)):=by
 have h:=bsW w (sOf (ρ x))
 rw [← hx] at h
 unfold execOp
 simp only [Sem.run_bind,Sem.run_pure,List.map_toArray,List.map_cons,List.map_nil,h,Result.andThen_ok]
attribute [local go_sem ↓] ebsW
attribute [local go_sem] zz2
set_option maxHeartbeats 1000000 in
theorem zmo {w:World} {S:MS} (h:MW w S) {a:Nat} {n:Nd} {D:Dm} {kd:Bool} (is:Has S a n D kd) (hl:D.M.length ≤ 16) (hi:∀ p ∈ D.M,I64 p.1):Calls Tryz.prog 21 #[.pointer (some ⟨S.wb,0,none⟩),.int .i64 a] w fun e w'=>∃ ao cap ks,e=.returned (.slice ao ks.length cap)∧ks.Perm (D.M.map (·.1))∧w'.ownsRow w.heap.size 62 75 (.slice ao ks.length cap) ks.length (swL D.M ks)∧Below w.heap.size w w':=by
 have rw0:=zaa h.wrAt
 have lk:=h.look a
 rw [MS.at_some is.at_] at lk
 unfold ptA at lk
 have rn:=is.row h
 have BK:=zadv (zmn (is.dae h))
 have ID:=zadv (zu2 (is.dae h).bok hl hi)
 have H:=zadv h
 have IS:=zadv is
 have HL:=zadv hl
 clear h is hl hi
 go_enter Tryz.func21,Tryz.ntmps21
 go_upto_region 5 with (first
  | (go_at_call 60;refine BK.out.mono ?_;rintro _ w1 ⟨rfl,rfl⟩)
  | (go_at_call 61;refine ID.out.mono ?_;rintro _ V ⟨v,ss,rfl,hp,ho,hn,hb⟩;obtain ⟨va,vc,rfl⟩:=za8 ho;clear lk rw0 rn BK ID))
 have lm:(ss.mergeSort leI').length=ss.length:=List.length_mergeSort ss
 have pm:(ss.mergeSort leI').Perm (D.M.map (·.1)):=(List.mergeSort_perm ss leI').trans hp
 rw [← lm] at ho hn ⊢
 generalize ss.mergeSort leI'=ks at *
 have lk16:ks.length ≤ 16:=by rw [pm.length_eq,List.length_map];exact HL.out
 have HO:=zadv ho
 have HP:=zadv pm
 have HB:=zadv hb
 clear hp hn ho pm hb lm
 go_loopw [4,32] (fun l i wr=>∃ (k:Nat) (ao:Option Addr) (cap:Nat),k ≤ ks.length∧i=.int .i64 k∧l=.slice ao k cap∧wr.ownsRow V.heap.size 62 75 (.slice ao k cap) k (swL D.M (ks.take k))∧Below V.heap.size V wr) (fun _ i _=>ks.length - (intOf i).toNat)
 case atStart=>exact ⟨0,none,0,Nat.zero_le _,rfl,rfl,World.ownsRow_nil _ _ _ _,Below.refl _ V⟩
 case round=>
  obtain ⟨k,ao,cap,hk,rfl,rfl,hown,hbv⟩:=hrel
  have HW:=zadv hown
  have HV:=zadv hbv
  by_cases hlt:k < ks.length
  ·have i1:(k:Int) < ks.length:=by omega
   obtain ⟨g,cur,rfl,hg,hcz,hc⟩:=zz7 (by omega) HO.out rfl
   have hg2:=(hbv.block g (zadu hg).1).trans hg
   have rg:=zaa hg2
   have ck:=hc k hlt
   obtain ⟨kk,hkk⟩:∃ kk,kk=ks[k]:=⟨_,rfl⟩
   rw [← hkk] at ck
   have HK:=zadv hkk
   clear hkk
   have G:=H.out.below (HB.out.trans (hbv.mono HB.out.size))
   have rn:=IS.out.row G.mw
   have BK:=zadv (zmn (IS.out.dae G.mw))
   have SW:=zadv (zhb (IS.out.dae G.mw).bok kk)
   have z1:k < cur.size:=by omega
   have ck2:cur[k]'z1=.int .i64 kk:=Option.some.inj ((Array.getElem?_eq_getElem z1).symm.trans ck)
   clear hown hbv hg hc hg2 G
   go_upto_region 8 with (first
    | (go_at_call 60;refine BK.out.mono ?_;rintro _ w2 ⟨rfl,rfl⟩)
    | (go_at_call 62;refine SW.out.mono ?_;rintro _ U ⟨rfl,hb⟩;have hb2:=HV.out.trans (hb.mono HV.out.size);have ho2:U.ownsRow V.heap.size 62 75 (.slice ao k cap) k (swL D.M (ks.take k)):=ze5 HW.out (Ext.of hb);have HB2:=zadv hb2;have HO2:=zadv ho2;clear hb hb2 ho2 BK SW rn rg))
   have B3:=Bx.made U Sw.zero.cells (swO (getA D.M kk)).cells 62
   generalize (U.alloc (.cells Sw.zero.cells 62)).setRow U.heap.size (swO (getA D.M kk)).cells=U2 at B3 ⊢
   have r3:=B3.rowOf
   have hb3:=HB2.out.trans (B3.below.mono HB2.out.size)
   have ho3:U2.ownsRow V.heap.size 62 75 (.slice ao k cap) k (swL D.M (ks.take k)):=ze5 HO2.out (Ext.of B3.below)
   have HB3:=zadv hb3
   have HO3:=zadv ho3
   clear hb3 ho3 B3 ck ck2
   go_wp2_with (at_builtin;refine zjq elemW rfl _ _ rfl (B:=V.heap.size) (v:=.slice ao k cap) (n:=k) (xs:=swL D.M (ks.take k)) (news:=(swO (getA D.M kk)).list) rfl (HO3.out.alloc _) rfl (by rw [zgx]) (fun j u hj=>World.news_of_block (heap_alloc_new U2 (.cells (swO (getA D.M kk)).cells 62)) j u (by simpa [Sw.cells] using hj)) (s_ones _) (by decide) (by omega) (by have:=HB3.out.size;simp;omega) ?_;intro g2 cap2 w3 hown2 hgr hat hlt2)
   have hb2:Below V.heap.size V w3:=(HB3.out.trans (((Below.refl _ U2).alloc (zadw _) (.cells (swO (getA D.M kk)).cells 62)).mono HB3.out.size)).grown hgr (by have:=HB3.out.size;simp;omega) (zbb (HO3.out.alloc (.cells (swO (getA D.M kk)).cells 62)))
   have hs:=zyr D.M hlt
   rw [← HK.out] at hs
   rw [← hs] at hown2
   clear hgr hat hlt2 hs
   have wk:IntKind.i64.wrap ((k:Int) + 1)=(k:Int) + 1:=zar (by omega) (by omega)
   go_wp2
   go_roundw
   case rel=>exact ⟨k + 1,_,_,by omega,rfl,rfl,hown2,hb2⟩
   case measure=>simp [intOf];omega
  ·have e:k=ks.length:=by omega
   subst e
   have HW2:=HW.out
   rw [List.take_length] at HW2
   have HW3:=zadv HW2
   clear HW2
   go_wp2
   go_ret
   exact ⟨ao,cap,ks,rfl,HP.out,za0 HW3.out HB.out.size,HB.out.trans (HV.out.mono HB.out.size)⟩
end
section
open Sx (Ab DW Turns Did Foot MapIs DiskAt FootD)
attribute [local go_sem ↓] zad
attribute [local go_sem] zaf zai zaj zal zab zah zac zak zae zaw za2 Sx.run_mk Ext.row Ext.soft_
structure KeepAt (w:World) (ao:Option Addr) (K:List Int):Prop where
 cell:∀ (j:Nat) x,K[j]?=some x→∃ b o,ao=some ⟨b,o,none⟩∧w.cell? ⟨b,o + j,none⟩=some (.int .i64 x)
 rng:∀ x ∈ K,-9223372036854775808 ≤ x∧x < 9223372036854775808
 len:K.length < 4611686018427387904
theorem KeepAt.keep {w w':World} {ao:Option Addr} {K:List Int} (h:KeepAt w ao K) (hk:∀ b o x v,w.cell? ⟨b,o,none⟩=some (.int .i64 x)→v=w'.cell? ⟨b,o,none⟩→v=some (.int .i64 x)):KeepAt w' ao K:=
 ⟨fun j x hj=>by
  obtain ⟨b,o,e,hc⟩:=h.cell j x hj
  exact ⟨b,o,e,hk b _ x _ hc rfl⟩,h.rng,h.len⟩
def zgr (K:List Int) (i:Nat):Int:=match K[i]? with
 | none=>0
 | some x=>x % 3
def crk1 (K:List Int) (i:Nat) (k:Int) (A:Ab):Ab:=if zgr K i=1 then kept A k (A.loose k) else if zgr K i=2 then kept A k none else A
def crk (K:List Int):List Int→Nat→Ab→Ab
 | [],_,A=>A
 | k :: r,i,A=>crk K r (i + 1) (crk1 K i k A)
def zqa (K ks:List Int) (A:Ab):Ab:=crash0 (crk K ks 0 A)
structure Alike (A B:Ab):Prop where
 loose:B.loose=A.loose
 off:B.off=A.off
 left:B.left=A.left
 done:B.done=A.done
theorem Alike.one {A B:Ab} (h:Alike A B) (K:List Int) (i:Nat) (k:Int):Alike A (crk1 K i k B):=by
 unfold crk1 kept
 split
 ·exact ⟨h.loose,h.off,h.left,h.done⟩
 ·split
  ·exact ⟨h.loose,h.off,h.left,h.done⟩
  ·exact h
theorem rem3 (x:Int):(x.tmod 3 + 3).tmod 3=x % 3:=by
 rw [Int.tmod_eq_emod,Int.tmod_eq_emod]
 split <;> split <;> omega
set_option maxHeartbeats 4000000 in
theorem zvl {w:World} {F:Foot} {dv:Value} {A:Ab} (H:DW w F dv A) {ao:Option Addr} {c:Nat} {K:List Int} (HK:KeepAt w ao K):Calls Tryz.prog 58 #[dv,.slice ao K.length c] w fun en w'=>∃ ks:List Int,ks.Nodup∧(∀ k,k ∈ ks ↔ (A.loose k).isSome=true)∧Did F w dv (zqa K ks A) (.tuple #[]) en w':=by
 obtain ⟨bd,r1,r2,bl,h,rfl,hF⟩:=H
 obtain ⟨es,cl,lo,e1,e2,e3,e4⟩:=h.m2
 have nd:=zyc e2.2
 have hlo:∀ k,k ∈ lo.map (·.1) ↔ (A.loose k).isSome=true:=fun k=>by
  constructor
  ·intro hk
   obtain ⟨p,hp,rfl⟩:=List.mem_map.1 hk
   have h1:=zhr nd hp
   rw [e4 p.1] at h1
   cases hl:A.loose p.1 with
   | none=>rw [hl] at h1;cases h1
   | some l=>rfl
  ·intro hk
   have h1:=e4 k
   cases hl:A.loose k with
   | none=>rw [hl] at hk;cases hk
   | some l=>
    rw [hl] at h1
    exact List.mem_map.2 ⟨_,zb7 h1,rfl⟩
 have hr:∀ p ∈ lo,0 ≤ p.1∧p.1 < 512:=fun p hp=>by
  have h1:=zhr nd hp
  rw [e4 p.1] at h1
  cases hl:A.loose p.1 with
  | none=>rw [hl] at h1;cases h1
  | some l=>exact (h.lo _ _ hl).2
 have hsz:es.size ≤ 512:=by
  have:=e2.1.length_eq
  simp [encA,prs] at this
  have h2:=zpz 512 (lo.map (·.1)) nd fun x hx=>by
   obtain ⟨p,hp,rfl⟩:=List.mem_map.1 hx
   exact hr p hp
  rw [List.length_map] at h2
  omega
 have hk:∀ e ∈ es.toList,∃ k:Int,e.key=.int .i64 k∧-9223372036854775808 ≤ k∧k ≤ 9223372036854775807:=fun e he=>by
  have hm:(e.key,e.val) ∈ encA loC lo:=e2.1.mem_iff.1 (List.mem_map.2 ⟨e,he,rfl⟩)
  obtain ⟨q,hq,ee⟩:=List.mem_map.1 hm
  have:=hr q hq
  exact ⟨q.1,(congrArg Prod.fst ee).symm,by omega,by omega⟩
 have hb0:=(zadu e1).1
 have hb:Below w.heap.size w (w.alloc (.cells #[.map (some r2)] 133)):=(Below.refl _ w).alloc (zadw _) _
 have KK:=zadv (sorD (w:=w.alloc (.cells #[.map (some r2)] 133)) (b:=w.heap.size) (by rw [zad,zaa (heap_alloc_new w _)];rfl) ((hb.block r2 hb0).trans e1) e3 hk hsz)
 have rd:=zaa h.ob
 have HB:=zadv hb
 have HH:=zadv h
 have E1:=zadv e1
 have HZ:=zadv hsz
 have HL0:=zadv hlo
 have ND:=zadv nd
 have E2:=zadv e2
 have HKK:=zadv HK
 clear h e1 e2 e3 e4 nd hr hsz hk hb hlo HK
 unfold Sx.Ab.cells at rd
 go_enter Tryz.func58,Tryz.ntmps58
 go_upto_region 1 with (first
  | (go_at_call 96;refine (zn6 _ _).mono ?_;rintro _ _ ⟨rfl,rfl⟩)
  | (go_at_call 95;refine KK.out.mono ?_;rintro _ V ⟨v,ss,rfl,hp,ho,hn,hb2⟩;obtain ⟨va,vc,rfl⟩:=za8 ho;have HV:=zadv (HB.out.trans (hb2.mono HB.out.size));clear hb2 KK HB))
 have lm:(ss.mergeSort leI').length=ss.length:=List.length_mergeSort ss
 have lz:(ss.mergeSort leI').length ≤ 512:=by
  have:=hp.length_eq
  rw [List.length_map] at this
  have h5:es.toList.length=es.size:=Array.length_toList
  have:=HZ.out
  omega
 have hks:(ss.mergeSort leI').Nodup∧∀ k,k ∈ ss.mergeSort leI' ↔ (A.loose k).isSome=true:=by
  have p1:(ss.mergeSort leI').Perm (lo.map (·.1)):=by
   refine (List.mergeSort_perm ss leI').trans (hp.trans ?_)
   have:=(E2.out.1.map fun q:Value × Value=>intOf q.1)
   unfold encA prs at this
   rw [List.map_map,List.map_map] at this
   exact this
  exact ⟨p1.nodup_iff.2 ND.out,fun k=>p1.mem_iff.trans (HL0.out k)⟩
 rw [← lm] at ho ⊢
 generalize ss.mergeSort leI'=ks at *
 have HO:=zadv ho
 have HKS:=zadv hks
 clear ho hp hn lm rd hks HL0 ND E2
 have HL:=zadv lz
 clear lz HZ
 have hVd:=HV.out
 have hV:=HH.out.keepB (w':=V) fun b x hx=>hVd.block b (HH.out.size hx)
 have HVD:=zadv hV
 clear hVd hV
 go_loopw [14] (fun i wr=>∃ (k:Nat) (B:Ab) (bl':Int→Option (Option Nat)),k ≤ ks.length∧i=.int .i64 k∧crk K (ks.drop k) k B=crk K ks 0 A∧Alike A B∧DiskAt wr B bd r1 r2 bl'∧(∀ j b,bl' j=some (some b)→bl j=some (some b) ∨ V.heap.size ≤ b)∧Turns (fun i _=>i=r1) V wr) (fun i _=>ks.length - (intOf i).toNat)
 case atStart=>exact ⟨0,A,bl,Nat.zero_le _,rfl,rfl,⟨rfl,rfl,rfl,rfl⟩,HVD.out,fun _ _ h=>.inl h,Turns.refl _ _⟩
 case round=>
  obtain ⟨k,B,bl',hk,rfl,hcr,hal,hd,hbl,ht⟩:=hrel
  by_cases hlt:k < ks.length
  ·have i1:(k:Int) < ks.length:=by omega
   obtain ⟨g,cur,rfl,hg0,hcz,hc⟩:=zz7 (by omega) HO.out rfl
   have rm1:∀ b v,V.cell? ⟨b,v,none⟩ ≠ none→b ≠ r1:=fun b v hb e=>by
    obtain ⟨_,_,_,m,_⟩:=HVD.out.m1
    subst e
    exact hb (by unfold World.cell?;rw [m])
   have hg:wr.heap[g]?=some (.cells cur 3):=(ht.block g (zadu hg0).1 fun _ e=>by
    obtain ⟨_,_,_,m,_⟩:=HVD.out.m1
    have e:g=r1:=e
    subst e
    rw [m] at hg0
    cases hg0).trans hg0
   have rg:=zaa hg
   have ck:=hc k hlt
   obtain ⟨kk,hkk⟩:∃ kk,kk=ks[k]:=⟨_,rfl⟩
   rw [← hkk] at ck
   have z1:k < cur.size:=by omega
   have ck2:cur[k]'z1=.int .i64 kk:=Option.some.inj ((Array.getElem?_eq_getElem z1).symm.trans ck)
   have wk:IntKind.i64.wrap ((k:Int) + 1)=(k:Int) + 1:=zar (by omega) (by have:=HL.out;omega)
   have k0:((k:Int) < 0)=False:=eq_false (by omega)
   have hdr:ks.drop k=kk :: ks.drop (k + 1):=by rw [hkk];exact List.drop_eq_getElem_cons hlt
   rw [hdr] at hcr
   have hlk:∃ l,B.loose kk=some l:=by
    have:=(HKS.out.2 kk).1 (hkk ▸ List.getElem_mem hlt)
    rw [hal.loose]
    exact Option.isSome_iff_exists.1 this
   have hst:∀ j b,bl' j=some (some b)→b ≠ r1:=fun j b hb=>(hd.nmap.2.2 j b hb).1
   have HAL:=zadv (hal.one K k kk)
   have hcr2:crk K (ks.drop (k + 1)) (k + 1) (crk1 K k kk B)=crk K ks 0 A:=hcr
   have HCR:=zadv hcr2
   clear hcr2
   have HD:=zadv hd
   have HBL:=zadv hbl
   have HT:=zadv ht
   have rd:=zaa hd.ob
   unfold Sx.Ab.cells at rd
   have HLK:=zadv hlk
   clear hg hg0 hc hkk hal hcr hd hbl ht hst hdr hlk
   by_cases hkl:k < K.length
   ·have i2:(k:Int) < K.length:=by omega
    obtain ⟨x,hx⟩:∃ x,K[k]?=some x:=⟨_,zady hkl⟩
    obtain ⟨b,o,rfl,hcx⟩:=HKK.out.cell k x hx
    have hbw:b < w.heap.size:=World.block_lt_of_cell? w ⟨b,o + k,none⟩ hcx
    have hcV:V.cell? ⟨b,o + k,none⟩=some (.int .i64 x):=(Sx.cell_block (HV.out.block b hbw) _).1.trans hcx
    have hcw:wr.cell? ⟨b,o + k,none⟩=some (.int .i64 x):=(Sx.cell_block (HT.out.block b (Nat.lt_of_lt_of_le hbw HV.out.size) fun _ e=>rm1 b _ (by rw [hcV];exact fun q=>by cases q) e) _).1.trans hcV
    rw [zad] at hcw
    have hxr:=HKK.out.rng x (List.mem_of_getElem? hx)
    have hf:zgr K k=x % 3:=by unfold zgr;rw [hx]
    have w2:IntKind.i64.wrap (x.tmod 3 + 3)=x.tmod 3 + 3:=zar (by rw [Int.tmod_eq_emod];split <;> omega) (by rw [Int.tmod_eq_emod];split <;> omega)
    have w3:(x.tmod 3 + 3).tmod 3=x % 3:=rem3 x
    clear hcV hbw hx rm1 hxr
    rcases (show x % 3=0 ∨ x % 3=1 ∨ x % 3=2 by omega) with h3 | h3 | h3 <;> rw [h3] at w3 hf
    ·go_wp2
     go_roundw
     case rel=>
      have e:crk1 K k kk B=B:=by unfold crk1;rw [hf];rfl
      have q1:=HCR.out
      have q2:=HAL.out
      rw [e] at q1 q2
      exact ⟨k + 1,B,bl',by omega,rfl,q1,q2,HD.out,HBL.out,HT.out⟩
     case measure=>simp [intOf];omega
    ·obtain ⟨l,hl⟩:=HLK.out
     have S:=zadv (zyd HD.out hl)
     have HL2:=zadv hl
     clear hl
     go_wp2_with (go_at_call 97;refine S.out.mono ?_;rintro _ w2 ⟨rfl,bl2,d2,b2,t2⟩;have D2:=zadv d2;have B2:=zadv b2;have T2:=zadv t2;clear d2 b2 t2 S)
     go_roundw
     case rel=>
      have e:crk1 K k kk B=kept B kk (some l):=by unfold crk1;rw [hf,HL2.out];rfl
      have q1:=HCR.out
      have q2:=HAL.out
      rw [e] at q1 q2
      refine ⟨k + 1,_,bl2,by omega,rfl,q1,q2,D2.out,fun j b hb=>?_,⟨T2.out.os.trans HT.out.os,T2.out.tape.trans HT.out.tape,T2.out.output.trans HT.out.output,Nat.le_trans HT.out.size T2.out.size,fun i hi hn=>(T2.out.block i (Nat.lt_of_lt_of_le hi HT.out.size) hn).trans (HT.out.block i hi hn)⟩⟩
      rcases B2.out j b hb with h | h
      ·exact HBL.out j b h
      ·exact .inr (Nat.le_trans HT.out.size h)
     case measure=>simp [intOf];omega
    ·obtain ⟨w2,hup,bl2,d2,b2,t2⟩:=torn_w HD.out kk
     have D2:=zadv d2
     have B2:=zadv b2
     have T2:=zadv t2
     clear d2 b2 t2
     go_wp2
     go_roundw
     case rel=>
      have e:crk1 K k kk B=kept B kk none:=by unfold crk1;rw [hf];rfl
      have q1:=HCR.out
      have q2:=HAL.out
      rw [e] at q1 q2
      refine ⟨k + 1,_,bl2,by omega,rfl,q1,q2,D2.out,fun j b hb=>?_,⟨T2.out.os.trans HT.out.os,T2.out.tape.trans HT.out.tape,T2.out.output.trans HT.out.output,Nat.le_trans HT.out.size T2.out.size,fun i hi hn=>(T2.out.block i (Nat.lt_of_lt_of_le hi HT.out.size) hn).trans (HT.out.block i hi hn)⟩⟩
      rcases B2.out j b hb with h | h
      ·exact HBL.out j b h
      ·exact .inr (Nat.le_trans HT.out.size h)
     case measure=>simp [intOf];omega
   ·have i2:((k:Int) < K.length)=False:=eq_false (by omega)
    have hf:zgr K k=0:=by unfold zgr;rw [List.getElem?_eq_none (by omega)]
    clear rm1
    go_wp2
    go_roundw
    case rel=>
     have e:crk1 K k kk B=B:=by unfold crk1;rw [hf];rfl
     have q1:=HCR.out
     have q2:=HAL.out
     rw [e] at q1 q2
     exact ⟨k + 1,B,bl',by omega,rfl,q1,q2,HD.out,HBL.out,HT.out⟩
    case measure=>simp [intOf];omega
  ·obtain rfl:k=ks.length:=by omega
   rw [List.drop_length] at hcr
   have hcr2:B=crk K ks 0 A:=hcr
   obtain ⟨es',cl',lo',f1,f2,f3,f4⟩:=hd.m2
   have rd:=zaa hd.ob
   have sd:=zan hd.ob
   unfold Sx.Ab.cells at rd
   have mr:wr.heap[r2]?=some (.map es' cl'):=f1
   have hset:=MapKept.run_setObj_map (P:=Tryz.prog) (.map #[] cl') mr
   have hget:=MapKept.run_getObj_map (P:=Tryz.prog) mr
   have hclr:(Builtin.clear_ #[133] 0 #[.map (some r2)]).run Tryz.prog wr=.ok (.tuple #[]) { wr with heap:=wr.heap.setIfInBounds r2 (.map #[] cl') }:=by
    simp only [Builtin.clear_,List.getElem?_toArray,List.getElem?_cons_zero,Sem.run_bind,run_underlying Tryz.underlying133,Result.andThen_ok,hget,hset,Sem.run_pure]
   have HS:=zadv hd
   have HAL:=zadv hal
   have HCR:=zadv hcr2
   have HBL:=zadv hbl
   have HT:=zadv ht
   clear hset hget hd f1 f2 f3 f4 hal hcr hcr2 hbl ht hlt hk
   go_upto_region 13 with (fail)
   obtain ⟨Y,hY⟩:∃ Y,Y=putMap wr r2 #[] cl':=⟨_,rfl⟩
   refine (show Code.wp Tryz.prog _ _ _ (putMap wr r2 #[] cl') from ?_)
   rw [← hY]
   have hy2:Y.heap[r2]?=some (.map #[] cl'):=by rw [hY];exact zid (zadu mr).1 _ _
   have hyn:∀ i,i ≠ r2→Y.heap[i]?=wr.heap[i]?:=fun i hi=>by rw [hY];exact zbw _ _ _ _ hi
   have hyz:Y.heap.size=wr.heap.size∧Y.os=wr.os∧Y.tape=wr.tape∧Y.output=wr.output:=by rw [hY];exact ⟨by simp [putMap],rfl,rfl,rfl⟩
   obtain ⟨n1,n2,n3⟩:=HS.out.nmap
   have hbd:=(hyn bd n2).trans HS.out.ob
   have rd:=zaa hbd
   have sd:=zan hbd
   unfold Sx.Ab.cells at rd
   have Z:=zadv (zadx hy2 (zadx hyn (zadx hyz (zadx n1 (zadx n2 (zadx n3 hbd))))))
   clear hy2 hyn hyz n1 n2 n3 hbd mr hclr hY
   go_wp2
   go_end0
   obtain ⟨hy2,hyn,hyz,n1,n2,n3,hbd⟩:=Z.out
   have hk:∀ i,i ≠ bd→((Y.setCell ⟨bd,2,none⟩ (.bool false)).setCell ⟨bd,3,none⟩ (.int .i64 (-1))).heap[i]?=Y.heap[i]?:=fun i hi=>by
    rw [zag,if_neg (Ne.symm hi),zag,if_neg (Ne.symm hi)]
   have d:=HS.out
   refine ⟨ks,HKS.out.1,HKS.out.2,rfl,FootD bd r1 r2 bl',⟨bd,r1,r2,bl',?_,rfl,fun _ _=>Iff.rfl⟩,?_,?_⟩
   ·unfold zqa
    rw [← HCR.out]
    refine ⟨?_,?_,?_,fun k b hb=>?_,d.torn,d.bare,fun k l hb=>(by cases hb),d.ne,d.inj,⟨Int.le_refl _,by show (-1:Int) < _;decide⟩⟩
    ·rw [zag,if_pos rfl,zag,if_pos rfl,hbd]
     rfl
    ·obtain ⟨es1,c1,l1,q1,q2⟩:=d.m1
     exact ⟨es1,c1,l1,((hk r1 (Ne.symm n1)).trans (hyn r1 d.ne)).trans q1,q2⟩
    ·exact ⟨#[],cl',[],(hk r2 (Ne.symm n2)).trans hy2,⟨List.Perm.refl _,List.nodup_nil⟩,MapKept.stamped_empty _,fun k=>rfl⟩
    ·obtain ⟨q1,l,q2,q3,q4⟩:=d.sec k b hb
     exact ⟨q1,l,q2,q3,Sx.secat_heap q4 ((hk b q1).trans (hyn b (n3 k b hb).2))⟩
   ·have hv:=HV.out
    have ht:=HT.out
    refine ⟨hyz.2.1.trans (ht.os.trans hv.os),hyz.2.2.1.trans (ht.tape.trans hv.tape),hyz.2.2.2.trans (ht.output.trans hv.output),?_,fun i hi hn=>?_⟩
    ·have:=hv.size
     have:=ht.size
     have:=hyz.1
     simp [World.setCell]
     omega
    ·rw [hk i (fun e=>hn 0 (e ▸ (hF bd 0).2 (.inl rfl))),hyn i (fun e=>hn 0 (e ▸ (hF r2 0).2 (.inr (.inr (.inl rfl)))))]
     exact (ht.block i (Nat.lt_of_lt_of_le hi hv.size) fun _ e=>hn 0 (e ▸ (hF r1 0).2 (.inr (.inl rfl)))).trans (hv.block i hi)
   ·intro b x hb
    rcases hb with rfl | rfl | rfl | ⟨j,hj⟩
    ·exact .inl ((hF _ _).2 (.inl rfl))
    ·exact .inl ((hF _ _).2 (.inr (.inl rfl)))
    ·exact .inl ((hF _ _).2 (.inr (.inr (.inl rfl))))
    ·rcases HBL.out j b hj with h | h
     ·exact .inl ((hF _ _).2 (.inr (.inr (.inr ⟨j,h⟩))))
     ·exact .inr (Nat.le_trans HV.out.size h)
end
section
open Sx (Ab DW Turns Did Foot MapIs DiskAt FootD)
end
end Go.Proofs.YthjgiamfaijoeaaGreatDoor
