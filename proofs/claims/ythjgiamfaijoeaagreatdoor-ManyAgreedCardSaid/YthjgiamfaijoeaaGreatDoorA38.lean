/- What is proved: parts of the walk and of the plain law. No condition but those each law names. -/
import Derived.Test.YthjgiamfaijoeaaGreatDoorA37
import Derived.Test.YthjgiamfaijoeaaGreatDoorA33
import Derived.Test.YthjgiamfaijoeaaGreatDoorA00
set_option linter.unusedSimpArgs false
set_option linter.unusedVariables false
namespace Go.Proofs.YthjgiamfaijoeaaGreatDoor
open Go.RowKit
open Sx (Ab DW Turns Did Foot MapIs)
set_option maxRecDepth 100000
attribute [local go_sem ↓] zad
attribute [local go_sem] zaf zai zaj zal zab zah zac zak zae zav za4 Sx.run_mk Ext.row Ext.soft_
structure Live (S:MS) (j:Nat) (n:Nd) (D:Dm):Prop where
 nd:S.nd j=some n
 ds:S.ds j=.live D
 at_:getA S.nodes j=some (ptA n.b)
 xv:n.xv=ptA D.xb
theorem MS.at_some {S:MS} {k:Int} {v:Value} (h:getA S.nodes k=some v):S.at_ k=v:=by unfold MS.at_;rw [h];rfl
theorem Live.row {S:MS} {j:Nat} {n:Nd} {D:Dm} (h:Live S j n D) {w:World} (m:MW w S):rowOf w n.b=ndC (.pointer (some ⟨D.xb,0,none⟩)) n.t n.sv n.dv n.tv:=by
 have:=zaa (m.ndAt h.nd).row
 unfold Nd.cells at this
 rw [h.xv] at this
 exact this
theorem Live.dae {S:MS} {j:Nat} {n:Nd} {D:Dm} (h:Live S j n D) {w:World} (m:MW w S):Dae w D:=m.daAt h.ds
theorem Live.drow {S:MS} {j:Nat} {n:Nd} {D:Dm} (h:Live S j n D) {w:World} (m:MW w S):rowOf w D.xb=dmC D.t D.sv D.jb D.bk false:=zaa (h.dae m).row
theorem Live.off {S:MS} {j:Nat} {n:Nd} {D:Dm} (h:Live S j n D) {w:World} (m:MW w S):Calls Tryz.prog 57 #[ptA n.b] w fun e w'=>e=.returned (.bool false)∧w'=w:=zn3 (h.row m) (h.drow m)
def PH (nb wb b1 b2:Nat) (N C P G:Array Value) (w':World):Prop:=rowOf w' nb=N∧rowOf w' wb=C∧rowOf w' b1=P∧rowOf w' b2=G
section
variable {nb wb b1 b2 B:Nat} {N C P G:Array Value}
theorem za8 {w w':World} {b:Nat} (h:w'.heap[b]?=w.heap[b]?):rowOf w' b=rowOf w b:=by unfold rowOf;rw [h]
theorem PH.keep {w w':World} (h:PH nb wb b1 b2 N C P G w) (h1:w'.heap[nb]?=w.heap[nb]?) (h2:w'.heap[wb]?=w.heap[wb]?) (h3:w'.heap[b1]?=w.heap[b1]?) (h4:w'.heap[b2]?=w.heap[b2]?):PH nb wb b1 b2 N C P G w':=
 ⟨(za8 h1).trans h.1,(za8 h2).trans h.2.1,(za8 h3).trans h.2.2.1,(za8 h4).trans h.2.2.2⟩
theorem PH.alloc {w:World} (o:Obj) (h:PH nb wb b1 b2 N C P G w) (hz:nb < B∧wb < B∧b1 < B∧b2 < B) (hB:B ≤ w.heap.size):PH nb wb b1 b2 N C P G (w.alloc o):=
 h.keep ((MapKept.heap_alloc _ _).2 _ (by omega)) ((MapKept.heap_alloc _ _).2 _ (by omega)) ((MapKept.heap_alloc _ _).2 _ (by omega)) ((MapKept.heap_alloc _ _).2 _ (by omega))
theorem zbq (w:World) {b i:Nat} (C:Array Value) (h:i ≠ b):(w.setRow b C).heap[i]?=w.heap[i]?:=by
 exact setRow_other _ _ _ _ h
theorem Goes.set {w w':World} {S S':MS} (h:Goes w S w' S') {b:Nat} (hb:w.heap.size ≤ b) (hn:¬ S'.all b) (C:Array Value):Goes w S (w'.setRow b C) S':=
 ⟨h.mw.apart (Q:=(·=b)) ⟨rfl,rfl,rfl,Nat.le_of_eq (by simp [World.setRow]),fun i hi=>zbq _ _ hi⟩ fun i hi=>hi ▸ hn,⟨h.comp.os,h.comp.tape,h.comp.output,by have:=h.comp.size;simpa [World.setRow] using this,fun i hi hq=>⟨(zbq _ _ (by omega)).trans (h.comp.keep i hi hq).1,(h.comp.keep i hi hq).2⟩⟩⟩
theorem PH.set {w:World} {b:Nat} (X:Array Value) (h:PH nb wb b1 b2 N C P G w) (hz:nb < B∧wb < B∧b1 < B∧b2 < B) (hB:B ≤ b):PH nb wb b1 b2 N C P G (w.setRow b X):=
 h.keep (zbq _ _ (by omega)) (zbq _ _ (by omega)) (zbq _ _ (by omega)) (zbq _ _ (by omega))
end
theorem zd1 {d:Dl} (h:errD d=0):idE d.i (zcg (zaz d))=0∧I64 d.i∧LgI d.p∧LgI d.g:=
 zij (d:=d) (by
  unfold errD at h
  split at h
  ·assumption
  ·exact absurd h (by decide))
theorem end_a {w Z:World} {S S':MS} (g:Goes w S Z S') (C0 C:Array Value) (ty:TypeId):∃ mb Y,mb=Z.heap.size∧Y=(Z.alloc (.cells C0 ty)).setRow Z.heap.size C∧Goes w S Y S'∧rowOf Y mb=C∧soft Y mb=true:=by
 have b:=Bx.made Z C0 C ty
 exact ⟨_,_,rfl,rfl,g.trans (g.mw.below b.below),b.rowOf,b.soft⟩
theorem end_b {w Z:World} {S S':MS} (g:Goes w S Z S') {b:Nat} (hb:w.heap.size ≤ b) (hn:¬ S'.all b) (C:Array Value) (hs:soft Z b=true):∃ mb Y,mb=b∧Y=Z.setRow b C∧Goes w S Y S'∧rowOf Y mb=C∧soft Y mb=true:=by
 refine ⟨_,_,rfl,rfl,g.set hb hn C,?_,?_⟩
 ·rw [zab _ _ _ _ hs,if_pos rfl]
 ·rw [zah];exact hs
end Go.Proofs.YthjgiamfaijoeaaGreatDoor
namespace Go.Proofs.YthjgiamfaijoeaaGreatDoor
open Go.RowKit
open Sx (Ab DW Turns Did Foot MapIs)
set_option maxRecDepth 100000
attribute [local go_sem ↓] zad
attribute [local go_sem] zaf zai zaj zal zab zah zac zak zae zav za4 Sx.run_mk Ext.row Ext.soft_
structure Kp (S S':MS) (a:Nat) (n:Nd):Prop where
 nd:S'.nd a=some n
 wb:S'.wb=S.wb
 nb:S'.nb=S.nb
 mb:S'.mb=S.mb
 now:S'.now=S.now
theorem zn4 {w:World} {S:MS} (h:MW w S) {a b i:Int} {p g:Lg} (hx:S.at_ a=.pointer none ∨ (∃ x,S.at_ a=ptA x)∧S.at_ b=.pointer none ∨ (∃ x y,S.at_ a=ptA x∧S.at_ b=ptA y)∧a=b):
  Calls Tryz.prog 29 #[.pointer (some ⟨S.wb,0,none⟩),.int .i64 a,.int .i64 b,.int .i64 i,.agg p.cells,.agg g.cells] w fun e w'=>e=.returned (.int .i64 1)∧Goes w S w' S:=by
 have H:=zac8 h
 have HX:=zac8 hx
 clear h hx
 go_enter Tryz.func29,Tryz.ntmps29
 go_upto_region 1 with (fail)
 have bx:=Bxs.new2 w (p.cells) 30 (g.cells) 30;generalize ((w.alloc (.cells (p.cells) 30)).alloc (.cells (g.cells) 30))=W at bx ⊢;have rx0:=bx.row' 0 rfl;have sx0:=bx.soft' 0 rfl;(try simp only [Nat.add_zero] at rx0 sx0);have rx1:=bx.row' 1 rfl;have sx1:=bx.soft' 1 rfl;(try simp only [Nat.add_zero] at rx1 sx1);have BX:=zac8 bx;clear bx
 have G:=zac8 (H.out.below BX.out.below)
 have lk:=G.out.mw.look a
 have lk2:=G.out.mw.look b
 have rw0:=zaa G.out.mw.wrAt
 rcases HX.out with e | ⟨⟨x,e⟩,e2⟩ | ⟨⟨x,y,e,e2⟩,rfl⟩
 ·rw [e] at lk
  clear HX e lk2
  go_wp2
  go_ret
  exact ⟨rfl,G.out⟩
 ·rw [e] at lk
  rw [e2] at lk2
  unfold ptA at lk
  clear HX e e2
  go_wp2
  go_ret
  exact ⟨rfl,G.out⟩
 ·rw [e] at lk
  unfold ptA at lk
  have ab:(a == a)=true:=by simp
  clear HX e e2 lk2
  go_wp2
  go_ret
  exact ⟨rfl,G.out⟩
theorem zmc {w:World} {S:MS} (h:MW w S) {a b i:Int} {x y:Nat} {p g:Lg} (e:S.at_ a=ptA x) (e2:S.at_ b=ptA y) (ab:(a == b)=false) (ho:∀ W,MW W S→Calls Tryz.prog 57 #[ptA x] W fun e w'=>e=.returned (.bool true)∧w'=W):
  Calls Tryz.prog 29 #[.pointer (some ⟨S.wb,0,none⟩),.int .i64 a,.int .i64 b,.int .i64 i,.agg p.cells,.agg g.cells] w fun e w'=>e=.returned (.int .i64 9)∧Goes w S w' S:=by
 have H:=zac8 h
 have HO:=zac8 ho
 clear h ho
 go_enter Tryz.func29,Tryz.ntmps29
 go_upto_region 1 with (fail)
 have bx:=Bxs.new2 w (p.cells) 30 (g.cells) 30;generalize ((w.alloc (.cells (p.cells) 30)).alloc (.cells (g.cells) 30))=W at bx ⊢;have rx0:=bx.row' 0 rfl;have sx0:=bx.soft' 0 rfl;(try simp only [Nat.add_zero] at rx0 sx0);have rx1:=bx.row' 1 rfl;have sx1:=bx.soft' 1 rfl;(try simp only [Nat.add_zero] at rx1 sx1);have BX:=zac8 bx;clear bx
 have G:=zac8 (H.out.below BX.out.below)
 have lk:=G.out.mw.look a
 have lk2:=G.out.mw.look b
 have rw0:=zaa G.out.mw.wrAt
 rw [e] at lk
 rw [e2] at lk2
 unfold ptA at lk lk2
 clear e e2
 have OF:=zac8 (HO.out _ G.out.mw)
 go_wp2_with (go_at_call 57;refine OF.out.mono ?_;rintro _ V ⟨rfl,rfl⟩)
 go_ret
 exact ⟨rfl,G.out⟩
end Go.Proofs.YthjgiamfaijoeaaGreatDoor
namespace Go.Proofs.YthjgiamfaijoeaaGreatDoor
open Go.RowKit
open Sx (Ab DW Turns Did Foot MapIs)
set_option maxRecDepth 100000
attribute [local go_sem ↓] zad
attribute [local go_sem] zaf zai zaj zal zab zah zac zak zae zav za4 Sx.run_mk Ext.row Ext.soft_
def zfx (r:Option En):Bool:=r.isSome && ((swO r).d.r == 1)
theorem zei {w:World} {S:MS} (h:MW w S) {a:Nat} {n:Nd} {D:Dm} (is:Live S a n D) (i:Int):Calls Tryz.prog 63 #[.pointer (some ⟨n.b,0,none⟩),.int .i64 i] w fun e w'=>e=.returned (.tuple #[.agg (swO (getA D.M i)).d.cells,.bool (zfx (getA D.M i))])∧Below w.heap.size w w':=by
 have H:=zac8 h
 have IS:=zac8 is
 clear h is
 generalize hg:getA D.M i=r
 have HG:=zac8 hg
 clear hg
 generalize hfb:zfx r=fb
 unfold zfx at hfb
 generalize hs:swO r=s at hfb ⊢
 generalize hi:r.isSome=bi at hfb
 have HS:=zac8 (And.intro hs hi)
 clear hs hi
 go_enter Tryz.func63,Tryz.ntmps63
 go_upto_region 1 with (fail)
 have bx:=Bx.new w (Dl.zero.cells) 60;generalize w.alloc (.cells (Dl.zero.cells) 60)=W at bx ⊢;have rx:=bx.rowOf;have sx:=bx.soft;have BX:=zac8 bx;clear bx
 have G:=H.out.below BX.out.below
 have rn:=IS.out.row G.mw
 have BK:=zac8 (zxl (IS.out.dae G.mw))
 have SW:=zac8 (zg7 (IS.out.dae G.mw).bok i)
 rw [HG.out,HS.out.1,HS.out.2] at SW
 have rx0:=BX.out.rowOf
 clear G
 go_wp2_with (first
  | (go_at_call 60;refine BK.out.mono ?_;rintro _ V ⟨rfl,rfl⟩)
  | (go_at_call 62;refine SW.out.mono ?_;rintro _ U ⟨rfl,hb⟩;have bx:=BX.out.step hb;clear BX rx sx rx0 rn SW BK hb;have rx:=bx.rowOf;have sx:=bx.soft;have BX:=zac8 bx;clear bx))
 have B2:=Bx.made U Sw.zero.cells s.cells 62
 have lt0:w.heap.size < U.heap.size:=(zac7 BX.out.row).1
 have bx:=BX.out.step B2.below
 generalize (U.alloc (.cells Sw.zero.cells 62)).setRow U.heap.size s.cells=V2 at B2 bx ⊢
 have r2:=B2.rowOf
 generalize U.heap.size=ub at r2 lt0 ⊢
 clear B2 BX rx sx
 have rx:=bx.rowOf
 have sx:=bx.soft
 have BX:=zac8 bx
 clear bx
 have hne:¬ ub=w.heap.size:=by omega
 have fin:rowOf (V2.drew.setRow w.heap.size s.d.cells) w.heap.size=s.d.cells∧Below w.heap.size w (V2.drew.setRow w.heap.size s.d.cells):=⟨(zab _ _ _ _ sx).trans (if_pos rfl),Below.setRow_ BX.out.below.drew (zac9 _) _⟩
 have FIN:=zac8 fin
 clear fin
 cases bi with
 | false=>
  subst hfb
  go_region
  go_wp2
  refine bodyPost_ret (zaq (t:=60) rfl Tryz.underlying60 rfl (by kernel_rfl) _ _ w.heap.size rfl FIN.out.1 (zla _)) rfl ?_
  exact ⟨rfl,FIN.out.2⟩
 | true=>
  rw [Bool.true_and] at hfb
  go_region
  go_wp2
  refine bodyPost_ret (zaq (t:=60) rfl Tryz.underlying60 rfl (by kernel_rfl) _ _ w.heap.size rfl FIN.out.1 (zla _)) rfl ?_
  exact ⟨rfl,FIN.out.2⟩
theorem zrk {w:World} {S:MS} (h:MW w S) {a:Nat} {n:Nd} {D:Dm} (is:Live S a n D) {i:Int} (hf:zfx (getA D.M i)=false):Calls Tryz.prog 22 #[.pointer (some ⟨S.wb,0,none⟩),.int .i64 a,.int .i64 i] w fun e w'=>e=.returned (.int .i64 12)∧Goes w S w' S:=by
 have rw0:=zaa h.wrAt
 have lk:=h.look a
 rw [MS.at_some is.at_] at lk
 unfold ptA at lk
 have OF:=zac8 (is.off h)
 have FI:=zac8 (zei h is i)
 rw [hf] at FI
 have H:=zac8 h
 clear h is hf
 go_enter Tryz.func22,Tryz.ntmps22
 go_wp2_with (first
  | (go_at_call 57;refine OF.out.mono ?_;rintro _ V ⟨rfl,rfl⟩)
  | (go_at_call 63;refine FI.out.mono ?_;rintro _ U ⟨rfl,hb⟩;have G:=zac8 (H.out.below hb);clear hb OF FI rw0 lk))
 go_ret
 exact ⟨rfl,G.out.trans (G.out.mw.below (Bx.made U Dl.zero.cells _ 60).below)⟩
theorem zrl {w:World} {S:MS} (h:MW w S) {a i:Int} {x:Nat} (e:S.at_ a=ptA x) (ho:Calls Tryz.prog 57 #[ptA x] w fun e w'=>e=.returned (.bool true)∧w'=w):Calls Tryz.prog 22 #[.pointer (some ⟨S.wb,0,none⟩),.int .i64 a,.int .i64 i] w fun e w'=>e=.returned (.int .i64 9)∧w'=w:=by
 have rw0:=zaa h.wrAt
 have lk:=h.look a
 rw [e] at lk
 unfold ptA at lk
 have HO:=zac8 ho
 clear h e ho
 go_enter Tryz.func22,Tryz.ntmps22
 go_wp2_with (go_at_call 57;refine HO.out.mono ?_;rintro _ V ⟨rfl,rfl⟩)
 go_ret
 exact ⟨rfl,rfl⟩
end Go.Proofs.YthjgiamfaijoeaaGreatDoor
namespace Go.Proofs.YthjgiamfaijoeaaGreatDoor
open Go.RowKit
open Sx (Ab DW Turns Did Foot MapIs)
set_option maxRecDepth 100000
attribute [local go_sem ↓] zad
attribute [local go_sem] zaf zai zaj zal zab zah zac zak zae zav za4 Sx.run_mk Ext.row Ext.soft_
def ltV (f t:Int) (a:Option Addr) (n c:Nat):Array Value:=#[.int .i64 f,.int .i64 t,.slice a n c]
theorem zxz {α:Type} (f:Nat→α) {k:Nat} {v:α} (h:f k=v):upd f k v=f:=funext fun j=>by
 unfold upd
 split
 ·rename_i e;rw [e,h]
 ·rfl
end Go.Proofs.YthjgiamfaijoeaaGreatDoor
namespace Go.Proofs.YthjgiamfaijoeaaGreatDoor
open Go.RowKit
open Sx (Ab DW Turns Did Foot MapIs)
set_option maxRecDepth 100000
attribute [local go_sem ↓] zad
attribute [local go_sem] zaf zai zaj zal zab zah zac zak zae zav za4 Sx.run_mk Ext.row Ext.soft_
theorem IMap.look2 {t et:TypeId} {z:Value} (hu:Tryz.prog.underlying t=some (.map 3 et)) {i:TypeInfo} (hi:Tryz.prog.info? et=some i) (hz:i.zero=some z) {w:World} {r:Nat} {l:List (Int × Value)} (h:IMap w r l) (k:Int):
  (Instr.lookup t (.map (some r)) (.int .i64 k) true).run Tryz.prog w=.ok (.tuple #[(getA l k).getD z,.bool (getA l k).isSome]) w:=by
 obtain ⟨es,c,h1,h2,_⟩:=h
 have hk:Sx.KeyT Tryz.prog 3 IntK:=Sx.keyInt Tryz.underlying3
 have hes:=zbk h2 (zcc id l)
 cases hg:getA l k with
 | none=>exact Sx.run_lookup_no hu hk hi hz h1 h2 ⟨k,rfl⟩ hes (by rw [zcb,hg];rfl)
 | some v=>exact Sx.run_lookup_ok hu hk h1 h2 ⟨k,rfl⟩ hes (by rw [zcb,hg];rfl)
def zbd (k c:Int):Value:=.agg #[.int .i64 k,.int .i64 c]
theorem zby {w:World} {r:Nat} {l:List (Int × Value)} (h:IMap w r l) (k:Int):(Instr.lookup 80 (.map (some r)) (.int .i64 k) true).run Tryz.prog w=.ok (.tuple #[(getA l k).getD (zbd 0 0),.bool (getA l k).isSome]) w:=by
 obtain ⟨i,h1,h2⟩:=zzk
 exact h.look2 Tryz.underlying80 h1 h2 k
theorem eql_l (l:Lg) (w:World):(binOp .eql 30 (.agg l.cells) (.agg l.cells)).run Tryz.prog w=.ok (.bool true) w:=by
 unfold Lg.cells
 simp [go_sem]
theorem eqg26 (w:World) (x y:Operand) (xs ys:Array Value):(eqGuard .eql 30 x y (.agg xs) (.agg ys)).run Tryz.prog w=.ok () w:=by kernel_rfl
def IsL (v:Value):Prop:=∃ l:Lg,v=.agg l.cells
theorem is_l (l:Lg):IsL (.agg l.cells)=True:=eq_true ⟨l,rfl⟩
theorem zpu (w:World) (ρ:Operand→Value) (x y:Operand) (dst:Option Tmp) (ty:TypeId) (pos:String) (af:Array Edge) (gd:Option (Nat × Bool)) (r:TypeId) (h1:ρ x=ρ y) (h2:IsL (ρ y)):(execOp ρ ⟨dst,.binOp .eql 30 x y r,ty,pos,af,gd⟩).run Tryz.prog w=.ok (.value (.bool true)) w:=by
 obtain ⟨l,hl⟩:=h2
 unfold execOp
 simp only [Sem.run_bind,h1,hl,eqg26,Result.andThen_ok,eql_l,Sem.run_pure]
attribute [local go_sem ↓] zl9 zpu
attribute [local go_sem] is_h is_l
theorem zpv {w:World} {r:Nat} {l:List (Int × Value)} (h:IMap w r l) (k:Int) (v:Value):∃ es c,(Instr.mapUpdate 80 (.map (some r)) (.int .i64 k) v).run Tryz.prog w=.ok () (putMap w r es c)∧IMap (putMap w r es c) r (putA l k v):=h.upd Tryz.underlying80 k v
set_option maxHeartbeats 2000000 in
theorem zx0 {w:World} {S:MS} (h:MW w S) (hF:Forms S.u) {f b:Nat} {n:Nd} {D:Dm} (is:Live S b n D) {tb:Nat} {tl:List (Int × Value)} (ht:S.tm b=some (tb,tl)) (hv:n.tv=.map (some tb)) {ao:Option Addr} {nn c:Nat} {l:List Nat} (hs:Sl w ao nn c (bts l)) (hr:Rs (l,0)) {i:Int} {x y:Int} (hw:(getA tl i).getD (zbd 0 0)=zbd x y) {q:En} (hq:getA D.M i=some q) (h1:(q.s.d.r == 1)=true) (hp:q.s.d.q=f) (hm:zf8 l=(0,⟨2,i,0,q.s.d.g,q.s.d.p,q.s.d.h⟩)) {free:Int}:
  Calls Tryz.prog 66 #[.pointer (some ⟨S.wb,0,none⟩),.pointer (some ⟨n.b,0,none⟩),.agg (ltV f b ao nn c),.int .i64 free] w fun e w'=>e=.returned (.tuple #[])∧Goes w S w' { S with tm:=upd S.tm b (some (tb,putA tl i (zbd 2 0))) }:=by
 have H:=zac8 h
 have IS:=zac8 is
 have HS:=zac8 hs
 have HF:=zac8 hF
 have HT:=zac8 (And.intro ht hv)
 have HR:=zac8 (And.intro hr hm)
 have HQ:=zac8 (And.intro hq (And.intro h1 hp))
 clear h is hs hr hm hF ht hv hq h1 hp
 unfold ltV
 go_enter Tryz.func66,Tryz.ntmps66
 go_upto_region 1 with (fail)
 have bx:=Bx.new w (#[.int .i64 f,.int .i64 b,.slice ao nn c]) 120;generalize w.alloc (.cells (#[.int .i64 f,.int .i64 b,.slice ao nn c]) 120)=W at bx ⊢;have rx:=bx.rowOf;have sx:=bx.soft;have BX:=zac8 bx;clear bx
 have G:=H.out.below BX.out.below
 have MG:=zac8 (zfq (HF.out.keep (zac9 _) G.mw.low) (HS.out.keep (zac9 _) BX.out.below) HR.out.1)
 rw [HR.out.2] at MG
 unfold ztn at MG
 clear G
 dsimp only at MG
 go_upto_region 6 with (go_at_call 102;refine MG.out.mono ?_;rintro _ V ⟨rfl,hb⟩;have bx:=BX.out.step hb;clear BX rx sx MG hb;have rx:=bx.rowOf;have BX:=zac8 bx;clear bx)
 generalize hM:(⟨2,i,0,q.s.d.g,q.s.d.p,q.s.d.h⟩:Msg)=m at *
 have B2:=Bx.made V Msg.zero.cells m.cells 118
 have bx:=BX.out.step B2.below
 generalize (V.alloc (.cells Msg.zero.cells 118)).setRow V.heap.size m.cells=V2 at B2 bx ⊢
 have rm:=B2.rowOf
 have by_:=B2.row
 generalize V.heap.size=mb at rm by_ ⊢
 have G:=H.out.below bx.below
 have FI:=zac8 (zei G.mw IS.out i)
 rw [HQ.out.1] at FI
 have fb:zfx (some q)=true:=HQ.out.2.1
 rw [fb] at FI
 replace FI:Hid (Calls Tryz.prog 63 #[.pointer (some ⟨n.b,0,none⟩),.int .i64 i] V2 fun e w'=>e=.returned (.tuple #[.agg q.s.d.cells,.bool true])∧Below V2.heap.size V2 w'):=FI
 have mi:m.i=i:=by rw [← hM]
 have BY:=zac8 by_
 clear fb G rx BX B2 by_
 have rx:=bx.rowOf
 have BX:=zac8 bx
 clear bx
 have pq:(q.s.d.q != (f:Int))=false:=by rw [HQ.out.2.2];simp
 have HM:=zac8 hM
 clear hM
 go_upto_region 7 with (go_at_call 63;refine FI.out.mono ?_;rintro _ U ⟨rfl,hb⟩;have bx:=BX.out.step hb;have by_:=(hb.block _ (zac7 BY.out).1).trans BY.out;clear BX BY rx rm FI hb;have BX:=zac8 bx;have BY:=zac8 by_;clear bx by_)
 have B3:=Bx.made U Dl.zero.cells q.s.d.cells 60
 have bx:=BX.out.step B3.below
 have by_:=(B3.below.block _ (zac7 BY.out).1).trans BY.out
 generalize (U.alloc (.cells Dl.zero.cells 60)).setRow U.heap.size q.s.d.cells=V3 at B3 bx by_ ⊢
 have rd:=B3.rowOf
 have bd:=B3.row
 have l3:=(zac7 bd).1
 generalize U.heap.size=db at rd bd l3 ⊢
 clear B3 BX BY
 have rx:=bx.rowOf
 have rm:=zaa by_
 have G:=H.out.below bx.below
 have rn:=IS.out.row G.mw
 rw [HT.out.2] at rn
 have lk:=zby (G.mw.tmAt HT.out.1) i
 dsimp only at lk
 have l1:=(zac7 bx.row).1
 have l2:=(zac7 by_).1
 have l4:=(zac7 (G.mw.ndAt IS.out.nd).row).1
 have BX:=zac8 bx
 have GG:=zac8 G
 have LL:=zac8 (And.intro l1 (And.intro l2 (And.intro l3 l4)))
 clear bx G by_ bd l1 l2 l3 l4
 generalize q.s.d=d at *
 rw [hw] at lk
 unfold zbd at lk
 go_upto_region 8 with (fail)
 clear rx
 have lkA:=zby (((GG.out.mw.tmAt HT.out.1).same ((MapKept.heap_alloc V3 (.cells #[.int .i64 0,.int .i64 0] 125)).2 _ (GG.out.mw.tmAt HT.out.1).lt)):IMap (V3.alloc (.cells #[.int .i64 0,.int .i64 0] 125)).drew tb tl) i
 have lkB:=zby (((GG.out.mw.tmAt HT.out.1).same rfl):IMap V3.drew tb tl) i
 dsimp only at lkA lkB
 rw [hw] at lkA lkB
 unfold zbd at lkA lkB
 have n1:(mb=V3.heap.size)=False:=eq_false (Nat.ne_of_lt LL.out.2.1)
 have n2:(n.b=V3.heap.size)=False:=eq_false (Nat.ne_of_lt LL.out.2.2.2)
 have n3:(db=V3.heap.size)=False:=eq_false (Nat.ne_of_lt LL.out.2.2.1)
 generalize (getA tl i).isSome=kn at lk lkA lkB
 clear lk
 go_region
 all_goals
  have b4:=(zas V3 (.cells #[.int .i64 x,.int .i64 y] 125)).drew
  have rm4:=(za8 (b4.block _ LL.out.2.1)).trans rm
  have rd4:=(za8 (b4.block _ LL.out.2.2.1)).trans rd
  have rn4:=(za8 (b4.block _ LL.out.2.2.2)).trans rn
  have G4:=GG.out.trans (GG.out.mw.below b4)
  clear b4 rm rd rn lkA lkB n1 n2 n3 GG LL
  generalize (V3.alloc (.cells #[.int .i64 x,.int .i64 y] 125)).drew=V4 at rm4 rd4 rn4 G4 ⊢
  have tm4:IMap V4.drew tb tl:=(G4.mw.tmAt HT.out.1).same rfl
  obtain ⟨es,cc,hup,hm5⟩:=zpv tm4 i (zbd 2 0)
  have g5:=(G4.mw.below (Below.refl _ V4).drew).mw.tmTo (w':=putMap V4.drew tb es cc) b (p:=(tb,putA tl i (zbd 2 0))) ⟨rfl,rfl,rfl,by simp [putMap],fun j hj hn=>⟨zbv _ _ _ _ (by intro e;exact hn (by simp only [MS.part,HT.out.1];exact e)),fun e=>hn (by simp only [MS.part,HT.out.1];exact e)⟩⟩ hm5
  have G5:=zac8 (G4.trans ((G4.mw.below (Below.refl _ V4).drew).trans g5))
  unfold zbd at hup
  clear tm4 hm5 g5 G4 BX
  have hm2:=HM.out
  clear HM
  subst hm2
  go_upto_region 10 with (fail)
  (refine wp_region_still_tail 7 (by kernel_rfl) (by kernel_rfl) ?_;simp only [List.take_succ_cons,List.take_zero,List.drop_succ_cons,List.drop_zero];(iterate 7 still_step);refine wpStill_nil ?_)
  go_wp2
  go_end0
  exact ⟨rfl,G5.out⟩
end Go.Proofs.YthjgiamfaijoeaaGreatDoor
namespace Go.Proofs.YthjgiamfaijoeaaGreatDoor
open Go.RowKit
open Sx (Ab DW Turns Did Foot MapIs)
set_option maxRecDepth 100000
attribute [local go_sem ↓] zad
attribute [local go_sem] zaf zai zaj zal zab zah zac zak zae zav za4 Sx.run_mk Ext.row Ext.soft_
attribute [local go_sem ↓] zl9 zpu
attribute [local go_sem] is_h is_l
attribute [local go_sem] zte ztf ztg
set_option maxHeartbeats 2000000 in
theorem zx1 {w:World} {S:MS} (h:MW w S) (hF:Forms S.u) {f b:Nat} {n:Nd} {D:Dm} (is:Live S b n D) {tb:Nat} {tl:List (Int × Value)} (ht:S.tm b=some (tb,tl)) (hv:n.tv=.map (some tb)) {ao:Option Addr} {nn c:Nat} {l:List Nat} (hs:Sl w ao nn c (bts l)) (hr:Rs (l,0)) {i:Int} {x y:Int} {cd:Int} (hw:(getA tl i).getD (zbd 0 0)=zbd x y) (hkn:(getA tl i).isSome=false) {q:En} (hq:getA D.M i=some q) (h1:(q.s.d.r == 1)=true) (hp:q.s.d.q=f) (hm:zf8 l=(0,msgR i cd)) {free:Int}:
  Calls Tryz.prog 66 #[.pointer (some ⟨S.wb,0,none⟩),.pointer (some ⟨n.b,0,none⟩),.agg (ltV f b ao nn c),.int .i64 free] w fun e w'=>e=.returned (.tuple #[])∧Goes w S w' { S with tm:=upd S.tm b (some (tb,putA tl i (zbd 3 cd))) }:=by
 have H:=zac8 h
 have IS:=zac8 is
 have HS:=zac8 hs
 have HF:=zac8 hF
 have HT:=zac8 (And.intro ht hv)
 have HR:=zac8 (And.intro hr hm)
 have HQ:=zac8 (And.intro hq (And.intro h1 hp))
 clear h is hs hr hm hF ht hv hq h1 hp
 unfold ltV
 go_enter Tryz.func66,Tryz.ntmps66
 go_upto_region 1 with (fail)
 have bx:=Bx.new w (#[.int .i64 f,.int .i64 b,.slice ao nn c]) 120;generalize w.alloc (.cells (#[.int .i64 f,.int .i64 b,.slice ao nn c]) 120)=W at bx ⊢;have rx:=bx.rowOf;have sx:=bx.soft;have BX:=zac8 bx;clear bx
 have G:=H.out.below BX.out.below
 have MG:=zac8 (zfq (HF.out.keep (zac9 _) G.mw.low) (HS.out.keep (zac9 _) BX.out.below) HR.out.1)
 rw [HR.out.2] at MG
 unfold ztn at MG
 clear G
 dsimp only at MG
 go_upto_region 6 with (go_at_call 102;refine MG.out.mono ?_;rintro _ V ⟨rfl,hb⟩;have bx:=BX.out.step hb;clear BX rx sx MG hb;have rx:=bx.rowOf;have BX:=zac8 bx;clear bx)
 generalize hM:msgR i cd=m at *
 have B2:=Bx.made V Msg.zero.cells m.cells 118
 have bx:=BX.out.step B2.below
 generalize (V.alloc (.cells Msg.zero.cells 118)).setRow V.heap.size m.cells=V2 at B2 bx ⊢
 have rm:=B2.rowOf
 have by_:=B2.row
 generalize V.heap.size=mb at rm by_ ⊢
 have G:=H.out.below bx.below
 have FI:=zac8 (zei G.mw IS.out i)
 rw [HQ.out.1] at FI
 have fb:zfx (some q)=true:=HQ.out.2.1
 rw [fb] at FI
 replace FI:Hid (Calls Tryz.prog 63 #[.pointer (some ⟨n.b,0,none⟩),.int .i64 i] V2 fun e w'=>e=.returned (.tuple #[.agg q.s.d.cells,.bool true])∧Below V2.heap.size V2 w'):=FI
 have mi:m.i=i:=by rw [← hM];rfl
 have BY:=zac8 by_
 clear fb G rx BX B2 by_
 have rx:=bx.rowOf
 have BX:=zac8 bx
 clear bx
 have pq:(q.s.d.q != (f:Int))=false:=by rw [HQ.out.2.2];simp
 have HM:=zac8 hM
 clear hM
 go_upto_region 7 with (go_at_call 63;refine FI.out.mono ?_;rintro _ U ⟨rfl,hb⟩;have bx:=BX.out.step hb;have by_:=(hb.block _ (zac7 BY.out).1).trans BY.out;clear BX BY rx rm FI hb;have BX:=zac8 bx;have BY:=zac8 by_;clear bx by_)
 have B3:=Bx.made U Dl.zero.cells q.s.d.cells 60
 have bx:=BX.out.step B3.below
 have by_:=(B3.below.block _ (zac7 BY.out).1).trans BY.out
 generalize (U.alloc (.cells Dl.zero.cells 60)).setRow U.heap.size q.s.d.cells=V3 at B3 bx by_ ⊢
 have rd:=B3.rowOf
 have bd:=B3.row
 have l3:=(zac7 bd).1
 generalize U.heap.size=db at rd bd l3 ⊢
 clear B3 BX BY
 have rx:=bx.rowOf
 have rm:=zaa by_
 have G:=H.out.below bx.below
 have rn:=IS.out.row G.mw
 rw [HT.out.2] at rn
 have lk:=zby (G.mw.tmAt HT.out.1) i
 dsimp only at lk
 have l1:=(zac7 bx.row).1
 have l2:=(zac7 by_).1
 have l4:=(zac7 (G.mw.ndAt IS.out.nd).row).1
 have BX:=zac8 bx
 have GG:=zac8 G
 have LL:=zac8 (And.intro l1 (And.intro l2 (And.intro l3 l4)))
 clear bx G by_ bd l1 l2 l3 l4
 generalize q.s.d=d at *
 rw [hw] at lk
 unfold zbd at lk
 go_upto_region 8 with (fail)
 clear rx
 have lkA:=zby (((GG.out.mw.tmAt HT.out.1).same ((MapKept.heap_alloc V3 (.cells #[.int .i64 0,.int .i64 0] 125)).2 _ (GG.out.mw.tmAt HT.out.1).lt)):IMap (V3.alloc (.cells #[.int .i64 0,.int .i64 0] 125)).drew tb tl) i
 have lkB:=zby (((GG.out.mw.tmAt HT.out.1).same rfl):IMap V3.drew tb tl) i
 dsimp only at lkA lkB
 rw [hw] at lkA lkB
 unfold zbd at lkA lkB
 have n1:(mb=V3.heap.size)=False:=eq_false (Nat.ne_of_lt LL.out.2.1)
 have n2:(n.b=V3.heap.size)=False:=eq_false (Nat.ne_of_lt LL.out.2.2.2)
 have n3:(db=V3.heap.size)=False:=eq_false (Nat.ne_of_lt LL.out.2.2.1)
 rw [hkn] at lk lkA lkB
 clear lk
 go_region
 all_goals
  have b4:=(zas V3 (.cells #[.int .i64 x,.int .i64 y] 125)).drew
  have rm4:=(za8 (b4.block _ LL.out.2.1)).trans rm
  have rd4:=(za8 (b4.block _ LL.out.2.2.1)).trans rd
  have rn4:=(za8 (b4.block _ LL.out.2.2.2)).trans rn
  have G4:=GG.out.trans (GG.out.mw.below b4)
  clear b4 rm rd rn lkA lkB n1 n2 n3 GG LL
  generalize (V3.alloc (.cells #[.int .i64 x,.int .i64 y] 125)).drew=V4 at rm4 rd4 rn4 G4 ⊢
  have tm4:IMap V4.drew tb tl:=(G4.mw.tmAt HT.out.1).same rfl
  obtain ⟨es,cc,hup,hm5⟩:=zpv tm4 i (zbd 3 cd)
  have g5:=(G4.mw.below (Below.refl _ V4).drew).mw.tmTo (w':=putMap V4.drew tb es cc) b (p:=(tb,putA tl i (zbd 3 cd))) ⟨rfl,rfl,rfl,by simp [putMap],fun j hj hn=>⟨zbv _ _ _ _ (by intro e;exact hn (by simp only [MS.part,HT.out.1];exact e)),fun e=>hn (by simp only [MS.part,HT.out.1];exact e)⟩⟩ hm5
  have G5:=zac8 (G4.trans ((G4.mw.below (Below.refl _ V4).drew).trans g5))
  unfold zbd at hup
  clear tm4 hm5 g5 G4 BX
  have hm2:=HM.out
  clear HM
  subst hm2
  go_upto_region 12 with (fail)
  (refine wp_region_still_tail 9 (by kernel_rfl) (by kernel_rfl) ?_;simp only [List.take_succ_cons,List.take_zero,List.drop_succ_cons,List.drop_zero];(iterate 9 still_step);refine wpStill_nil ?_)
  go_wp2
  go_end0
  exact ⟨rfl,G5.out⟩
end Go.Proofs.YthjgiamfaijoeaaGreatDoor
namespace Go.Proofs.YthjgiamfaijoeaaGreatDoor
open Go.RowKit
open Sx (Ab DW Turns Did Foot MapIs)
set_option maxRecDepth 100000
attribute [local go_sem ↓] zad
attribute [local go_sem] zaf zai zaj zal zab zah zac zak zae zav za4 Sx.run_mk Ext.row Ext.soft_
set_option maxHeartbeats 1000000 in
theorem zip {w:World} {S:MS} (h:MW w S) (hnb:S.nb=S.X.nb) {k:Nat} {x:Lt} (hk:S.X.L[k]?=some x) (hx:x.l.length < 1000000) (hlen:S.X.L.length ≤ 1000000) {f t:Nat} (hf:x.f=f∧1 ≤ f∧(f:Int) ≤ S.X.nodes) (ht:x.t=t∧1 ≤ t∧(t:Int) ≤ S.X.nodes) (hft:f ≠ t) (hct:S.cut (min (f:Int) t) (max (f:Int) t)=false) {n:Nd} {D:Dm} (is:Live S t n D) {free:Int} {R:MS→Prop}
  (hH:∀ W X1 a c,Goes w S W { S with X:=X1 }→X1.says=S.X.says.eraseIdx k→X1.nodes=S.X.nodes→X1.nb=S.X.nb→Sl W a x.l.length c (bts x.l)→Calls Tryz.prog 66 #[.pointer (some ⟨S.wb,0,none⟩),.pointer (some ⟨n.b,0,none⟩),.agg (ltV f t a x.l.length c),.int .i64 free] W fun e w'=>e=.returned (.tuple #[])∧∃ S',Goes w S w' S'∧R S'):
  Calls Tryz.prog 24 #[.pointer (some ⟨S.wb,0,none⟩),.int .i64 k,.int .i64 free] w fun e w'=>e=.returned (.bool true)∧∃ S',Goes w S w' S'∧R S':=by
 have rw0:=zaa h.wrAt
 rw [hnb] at rw0
 have DL:=zac8 (zjc h.netAt hk hx hlen (eq_true (by have:=hf;omega)) (eq_true (by have:=hf;omega)) (eq_true (by have:=ht;omega)) (eq_true (by have:=ht;omega)) (by have:=hf.1;have:=ht.1;simp;omega) (by rw [h.netCut.2,hf.1,ht.1];exact hct))
 have H:=zac8 h
 have IS:=zac8 is
 have HH:=zac8 hH
 have HF:=zac8 (And.intro hf.1 ht.1)
 clear h hk hx hlen hf ht is hH hct
 go_enter Tryz.func24,Tryz.ntmps24
 go_upto_region 2 with (go_at_call 65;refine DL.out.mono ?_;rintro _ W ⟨a,c,X1,rfl,t1,s1,hs,lo⟩)
 rw [HF.out.1,HF.out.2]
 have bx:=Bx.new W #[.int .i64 f,.int .i64 t,.slice a x.l.length c] 120
 generalize W.alloc (.cells #[.int .i64 f,.int .i64 t,.slice a x.l.length c] 120)=V at bx ⊢
 have g1:=H.out.net t1
 have G:=g1.trans (g1.mw.below bx.below)
 have GG:=zac8 G
 have r0:=zaa G.mw.wrAt
 have rx:=bx.rowOf
 dsimp only at r0
 have lk:=(G.mw.below (Below.refl _ V).drew).mw.look t
 have is1:Live ({ S with X:=X1 }:MS) t n D:=⟨IS.out.nd,IS.out.ds,IS.out.at_,IS.out.xv⟩
 rw [MS.at_some is1.at_] at lk
 dsimp only at lk
 unfold ptA at lk
 have LK:=zac8 lk
 have OF:=zac8 (is1.off (G.mw.below (Below.refl _ V).drew).mw)
 have HE:=zac8 (HH.out V.drew X1 a c (G.trans (G.mw.below (Below.refl _ V).drew)) s1 t1.nodes t1.nb (hs.keep (zac9 _) bx.below.drew))
 clear G g1 is1 t1 s1 hs lo bx
 (refine wp_region_still_tail 7 (by kernel_rfl) (by kernel_rfl) ?_;simp only [List.take_succ_cons,List.take_zero,List.drop_succ_cons,List.drop_zero];(iterate 7 still_step);refine wpStill_nil ?_)
 go_wp2_with (first
  | (go_at_call 57;refine OF.out.mono ?_;rintro _ V2 ⟨rfl,rfl⟩)
  | (go_at_call 66;refine HE.out.mono ?_;rintro _ U ⟨rfl,S',g,r⟩;have GR:=zac8 (And.intro g r);clear g r))
 go_ret
 exact ⟨rfl,S',GR.out⟩
end Go.Proofs.YthjgiamfaijoeaaGreatDoor
namespace Go.Proofs.YthjgiamfaijoeaaGreatDoor
open Go.RowKit
open Sx (Ab DW Turns Did Foot MapIs)
set_option maxRecDepth 100000
attribute [local go_sem ↓] zad
attribute [local go_sem] zaf zai zaj zal zab zah zac zak zae zav za4 Sx.run_mk Ext.row Ext.soft_
def swL (M:List (Int × En)) (ks:List Int):List Value:=ks.flatMap fun k=>(swO (getA M k)).list
theorem elemW:ElemG Tryz.prog 55 62 75:=ElemG.mk' Tryz.underlying55 (by kernel_rfl) (z:=.agg Sw.zero.cells) (bytes:=152) (by show Sw.zero.cells.size=75;exact zlb _) (by decide) (by decide)
theorem s_ones (s:Sw):∀ u ∈ s.list,u.oneCell'=true:=fun u hu=>by
 have:=zaan s
 unfold ones Sw.cells at this
 rw [List.all_toArray,List.all_eq_true] at this
 exact this u hu
structure Has (S:MS) (j:Nat) (n:Nd) (D:Dm) (k:Bool):Prop where
 nd:S.nd j=some n
 ds:S.ds j=if k then .dead D else .live D
 at_:getA S.nodes j=some (ptA n.b)
 xv:n.xv=ptA D.xb
theorem Live.has {S:MS} {j:Nat} {n:Nd} {D:Dm} (h:Live S j n D):Has S j n D false:=⟨h.nd,h.ds,h.at_,h.xv⟩
theorem Has.row {S:MS} {j:Nat} {n:Nd} {D:Dm} {k:Bool} (h:Has S j n D k) {w:World} (m:MW w S):rowOf w n.b=ndC (.pointer (some ⟨D.xb,0,none⟩)) n.t n.sv n.dv n.tv:=by
 have:=zaa (m.ndAt h.nd).row
 unfold Nd.cells at this
 rw [h.xv] at this
 exact this
theorem Has.dae {S:MS} {j:Nat} {n:Nd} {D:Dm} {k:Bool} (h:Has S j n D k) {w:World} (m:MW w S):Dae0 k w D:=by
 have:=m.at_ (.da j)
 simp only [MS.part,h.ds] at this
 cases k with
 | false=>exact Dae.d0 this
 | true=>exact this
theorem zmd {w:World} {D:Dm} {k:Bool} (h:Dae0 k w D):Calls Tryz.prog 60 #[.pointer (some ⟨D.xb,0,none⟩)] w fun e w'=>e=.returned (.pointer (some ⟨D.bk,0,none⟩))∧w'=w:=by
 have rD:=zaa h.row
 clear h
 go_enter Tryz.func60,Tryz.ntmps60
 go_wp2
 go_ret
 exact ⟨rfl,rfl⟩
theorem zx2 (M:List (Int × En)) {ks:List Int} {k:Nat} (h:k < ks.length):swL M (ks.take (k + 1))=swL M (ks.take k) ++ (swO (getA M ks[k])).list:=by
 unfold swL
 rw [List.take_succ_eq_append_getElem h,List.flatMap_append]
 simp
theorem zzm {w:World} {B n cap:Nat} {ao:Option Addr} {l:List Int} (hn:0 < n) (h:w.ownsRow B 3 1 (.slice ao n cap) n (l.map encZ)) (hl:l.length=n):∃ g cur,ao=some ⟨g,0,none⟩∧w.heap[g]?=some (.cells cur 3)∧n ≤ cur.size∧∀ (j:Nat) (hj:j < l.length),cur[j]?=some (.int .i64 l[j]):=by
 rcases h.2 with ⟨hv,h0,_⟩ | ⟨g,cp,cur,hv,_,hh,hc,_,hs,ht⟩
 ·cases hv;omega
 ·cases hv
  refine ⟨g,cur,rfl,hh,by omega,fun j hj=>?_⟩
  have e:(cur.toList.take (n * 1))[j]?=some (.int .i64 l[j]):=by
   rw [ht,List.getElem?_map,List.getElem?_eq_getElem hj]
   rfl
  rw [List.getElem?_take_of_lt (by omega)] at e
  simpa using e
theorem bsW (w:World) (s:Sw):(Instr.buildSlice 55 1 #[(0,.agg s.cells)]).run Tryz.prog w=.ok (.slice (some ⟨w.heap.size,0,none⟩) 1 1) (w.alloc (.cells s.cells 62)):=by
 obtain ⟨⟨di,dr,p,g,h,q⟩,st,kn,sc⟩:=s
 obtain ⟨f,rfl⟩:=h.form
 obtain ⟨f2,rfl⟩:=sc.form
 kernel_rfl
theorem ebsW (w:World) (ρ:Operand→Value) (dst:Option Tmp) (ty:TypeId) (pos:String) (af:Array Edge) (gd:Option (Nat × Bool)) (x:Operand) (hx:ρ x=.agg (sOf (ρ x)).cells):(execOp ρ ⟨dst,.buildSlice 55 1 #[(0,x)],ty,pos,af,gd⟩).run Tryz.prog w=.ok (.value (.slice (some ⟨w.heap.size,0,none⟩) 1 1)) (w.alloc (.cells (sOf (ρ x)).cells 62)):=by
 have h:=bsW w (sOf (ρ x))
 rw [← hx] at h
 unfold execOp
 simp only [Sem.run_bind,Sem.run_pure,List.map_toArray,List.map_cons,List.map_nil,h,Result.andThen_ok]
attribute [local go_sem ↓] ebsW
attribute [local go_sem] zzh
set_option maxHeartbeats 1000000 in
theorem zme {w:World} {S:MS} (h:MW w S) {a:Nat} {n:Nd} {D:Dm} {kd:Bool} (is:Has S a n D kd) (hl:D.M.length ≤ 16) (hi:∀ p ∈ D.M,I64 p.1):Calls Tryz.prog 21 #[.pointer (some ⟨S.wb,0,none⟩),.int .i64 a] w fun e w'=>∃ ao cap ks,e=.returned (.slice ao ks.length cap)∧ks.Perm (D.M.map (·.1))∧w'.ownsRow w.heap.size 62 75 (.slice ao ks.length cap) ks.length (swL D.M ks)∧Below w.heap.size w w':=by
 have rw0:=zaa h.wrAt
 have lk:=h.look a
 rw [MS.at_some is.at_] at lk
 unfold ptA at lk
 have rn:=is.row h
 have BK:=zac8 (zmd (is.dae h))
 have ID:=zac8 (zuk (is.dae h).bok hl hi)
 have H:=zac8 h
 have IS:=zac8 is
 have HL:=zac8 hl
 clear h is hl hi
 go_enter Tryz.func21,Tryz.ntmps21
 go_upto_region 5 with (first
  | (go_at_call 60;refine BK.out.mono ?_;rintro _ w1 ⟨rfl,rfl⟩)
  | (go_at_call 61;refine ID.out.mono ?_;rintro _ V ⟨v,ss,rfl,hp,ho,hn,hb⟩;obtain ⟨va,vc,rfl⟩:=za7 ho;clear lk rw0 rn BK ID))
 have lm:(ss.mergeSort leI').length=ss.length:=List.length_mergeSort ss
 have pm:(ss.mergeSort leI').Perm (D.M.map (·.1)):=(List.mergeSort_perm ss leI').trans hp
 rw [← lm] at ho hn ⊢
 generalize ss.mergeSort leI'=ks at *
 have lk16:ks.length ≤ 16:=by rw [pm.length_eq,List.length_map];exact HL.out
 have HO:=zac8 ho
 have HP:=zac8 pm
 have HB:=zac8 hb
 clear hp hn ho pm hb lm
 go_loopw [4,32] (fun l i wr=>∃ (k:Nat) (ao:Option Addr) (cap:Nat),k ≤ ks.length∧i=.int .i64 k∧l=.slice ao k cap∧wr.ownsRow V.heap.size 62 75 (.slice ao k cap) k (swL D.M (ks.take k))∧Below V.heap.size V wr) (fun _ i _=>ks.length - (intOf i).toNat)
 case atStart=>exact ⟨0,none,0,Nat.zero_le _,rfl,rfl,World.ownsRow_nil _ _ _ _,Below.refl _ V⟩
 case round=>
  obtain ⟨k,ao,cap,hk,rfl,rfl,hown,hbv⟩:=hrel
  have HW:=zac8 hown
  have HV:=zac8 hbv
  by_cases hlt:k < ks.length
  ·have i1:(k:Int) < ks.length:=by omega
   obtain ⟨g,cur,rfl,hg,hcz,hc⟩:=zzm (by omega) HO.out rfl
   have hg2:=(hbv.block g (zac7 hg).1).trans hg
   have rg:=zaa hg2
   have ck:=hc k hlt
   obtain ⟨kk,hkk⟩:∃ kk,kk=ks[k]:=⟨_,rfl⟩
   rw [← hkk] at ck
   have HK:=zac8 hkk
   clear hkk
   have G:=H.out.below (HB.out.trans (hbv.mono HB.out.size))
   have rn:=IS.out.row G.mw
   have BK:=zac8 (zmd (IS.out.dae G.mw))
   have SW:=zac8 (zg7 (IS.out.dae G.mw).bok kk)
   have z1:k < cur.size:=by omega
   have ck2:cur[k]'z1=.int .i64 kk:=Option.some.inj ((Array.getElem?_eq_getElem z1).symm.trans ck)
   clear hown hbv hg hc hg2 G
   go_upto_region 8 with (first
    | (go_at_call 60;refine BK.out.mono ?_;rintro _ w2 ⟨rfl,rfl⟩)
    | (go_at_call 62;refine SW.out.mono ?_;rintro _ U ⟨rfl,hb⟩;have hb2:=HV.out.trans (hb.mono HV.out.size);have ho2:U.ownsRow V.heap.size 62 75 (.slice ao k cap) k (swL D.M (ks.take k)):=ze4 HW.out (Ext.of hb);have HB2:=zac8 hb2;have HO2:=zac8 ho2;clear hb hb2 ho2 BK SW rn rg))
   have B3:=Bx.made U Sw.zero.cells (swO (getA D.M kk)).cells 62
   generalize (U.alloc (.cells Sw.zero.cells 62)).setRow U.heap.size (swO (getA D.M kk)).cells=U2 at B3 ⊢
   have r3:=B3.rowOf
   have hb3:=HB2.out.trans (B3.below.mono HB2.out.size)
   have ho3:U2.ownsRow V.heap.size 62 75 (.slice ao k cap) k (swL D.M (ks.take k)):=ze4 HO2.out (Ext.of B3.below)
   have HB3:=zac8 hb3
   have HO3:=zac8 ho3
   clear hb3 ho3 B3 ck ck2
   go_wp2_with (at_builtin;refine zjd elemW rfl _ _ rfl (B:=V.heap.size) (v:=.slice ao k cap) (n:=k) (xs:=swL D.M (ks.take k)) (news:=(swO (getA D.M kk)).list) rfl (HO3.out.alloc _) rfl (by rw [zgt]) (fun j u hj=>World.news_of_block (heap_alloc_new U2 (.cells (swO (getA D.M kk)).cells 62)) j u (by simpa [Sw.cells] using hj)) (s_ones _) (by decide) (by omega) (by have:=HB3.out.size;simp;omega) ?_;intro g2 cap2 w3 hown2 hgr hat hlt2)
   have hb2:Below V.heap.size V w3:=(HB3.out.trans (((Below.refl _ U2).alloc (zac9 _) (.cells (swO (getA D.M kk)).cells 62)).mono HB3.out.size)).grown hgr (by have:=HB3.out.size;simp;omega) (zbb (HO3.out.alloc (.cells (swO (getA D.M kk)).cells 62)))
   have hs:=zx2 D.M hlt
   rw [← HK.out] at hs
   rw [← hs] at hown2
   clear hgr hat hlt2 hs
   have wk:IntKind.i64.wrap ((k:Int) + 1)=(k:Int) + 1:=zau (by omega) (by omega)
   go_wp2
   go_roundw
   case rel=>exact ⟨k + 1,_,_,by omega,rfl,rfl,hown2,hb2⟩
   case measure=>simp [intOf];omega
  ·have e:k=ks.length:=by omega
   subst e
   have HW2:=HW.out
   rw [List.take_length] at HW2
   have HW3:=zac8 HW2
   clear HW2
   go_wp2
   go_ret
   exact ⟨ao,cap,ks,rfl,HP.out,za0 HW3.out HB.out.size,HB.out.trans (HV.out.mono HB.out.size)⟩
end Go.Proofs.YthjgiamfaijoeaaGreatDoor
