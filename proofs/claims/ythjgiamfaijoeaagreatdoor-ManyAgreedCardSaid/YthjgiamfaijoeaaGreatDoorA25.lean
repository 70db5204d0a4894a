/- What is proved: parts of the walk and of the plain law. No condition but those each law names. -/
import Derived.Test.YthjgiamfaijoeaaGreatDoorA24
import Derived.Maps.AppendAt
import Derived.Laws.Externs
import Derived.Laws.BitsAllLaws
import Derived.Test.YthjgiamfaijoeaaGreatDoorA00
set_option linter.unusedSimpArgs false
set_option linter.unusedVariables false
namespace Go.Proofs.YthjgiamfaijoeaaGreatDoor
open Go.RowKit
set_option maxRecDepth 100000
attribute [local go_sem ↓] zdg
def aits (l:List Int):List Value:=l.map fun (n:Int)=>Value.int .i64 n
theorem zer (l:List Int):(aits l).length=l.length:=by simp [aits]
theorem ztu (l:List Int) (j:Nat):(aits l)[j]?=(l[j]?).map fun (n:Int)=>Value.int .i64 n:=by unfold aits;rw [List.getElem?_map]
def aisA (a:Int):Prop:=0 ≤ a∧a ≤ 1125899906842624
instance (a:Int):Decidable (aisA a):=inferInstanceAs (Decidable (_∧_))
def zbr (l:List Int):Bool:=l.all fun a=>decide (aisA a)
theorem zlp {l:List Int} {j:Nat} {x:Int} (h:l[j]?=some x):zbr (l.take (j + 1))=(zbr (l.take j) && decide (aisA x)):=by
 unfold zbr;rw [List.take_add_one,h];simp [List.all_append]
theorem zw4 {l:List Int} {j:Nat} {x:Int} (h:l[j]?=some x) (hx:¬ aisA x):zbr l=false:=by
 unfold zbr;rw [List.all_eq_false];exact ⟨x,List.mem_of_getElem? h,by simpa using hx⟩
def aRetM (l:List Int) (w:World):Ending→World→Prop:=fun e w'=>(e=if zbr l then .returned (.tuple #[]) else .panicked [{ v:=.iface 38 (.int .i64 15),recovered:=false }])∧∃ g:Ext w,w'=g.val
theorem zlq {a:Int} (h:aisA a) (w:World):Calls Tryz.prog 380 #[.int .i64 a] w (Ret (.int .i64 0) w):=by
 have h1:¬ a < 0:=by have:=h.1;omega
 have h2:¬ a > 1125899906842624:=by have:=h.2;omega
 go_enter Tryz.func380,Tryz.ntmps380
 go_wp2
 go_ret
 (refine Ret.mk ?_;(repeat' (first | (with_reducible exact Below.refl _ _) | (with_reducible assumption) | (with_reducible refine Ext.up _ ?_) | (with_reducible refine Below.alloc ?_ ?_ _) | (with_reducible refine Below.drew ?_) | (with_reducible refine Below.setCell ?_ ?_ _) | (with_reducible refine Below.setRow_ ?_ ?_ _) | go_size)))
theorem zw5 {a:Int} (h:¬ aisA a) (w:World):Calls Tryz.prog 380 #[.int .i64 a] w (Ret (.int .i64 15) w):=by
 by_cases h1:a < 0
 ·go_enter Tryz.func380,Tryz.ntmps380
  go_wp2
  go_ret
  (refine Ret.mk ?_;(repeat' (first | (with_reducible exact Below.refl _ _) | (with_reducible assumption) | (with_reducible refine Ext.up _ ?_) | (with_reducible refine Below.alloc ?_ ?_ _) | (with_reducible refine Below.drew ?_) | (with_reducible refine Below.setCell ?_ ?_ _) | (with_reducible refine Below.setRow_ ?_ ?_ _) | go_size)))
 ·have h2:a > 1125899906842624:=by apply Classical.byContradiction;intro hc;exact h ⟨by omega,by omega⟩
  go_enter Tryz.func380,Tryz.ntmps380
  go_wp2
  go_ret
  (refine Ret.mk ?_;(repeat' (first | (with_reducible exact Below.refl _ _) | (with_reducible assumption) | (with_reducible refine Ext.up _ ?_) | (with_reducible refine Below.alloc ?_ ?_ _) | (with_reducible refine Below.drew ?_) | (with_reducible refine Below.setCell ?_ ?_ _) | (with_reducible refine Below.setRow_ ?_ ?_ _) | go_size)))
set_option maxHeartbeats 1000000 in
theorem zlr {w:World} {ao:Option Addr} {n c:Nat} {l:List Int} (hl:Sl w ao n c (aits l)) (hn:n < 1099511627776):Calls Tryz.prog 385 #[.slice ao n c] w (aRetM l w):=by
 have hln:l.length=n:=by rw [← hl.len,zer]
 go_enter Tryz.func385,Tryz.ntmps385
 go_wp2
 go_loopw [6] (fun i wr=>∃ j:Nat,j ≤ n∧i=.int .i64 j∧zbr (l.take j)=true∧Below w.heap.size w wr) (fun i _=>n - (intOf i).toNat)
 case atStart=>exact ⟨0,by omega,rfl,rfl,by (repeat' (first | (with_reducible exact Below.refl _ _) | (with_reducible assumption) | (with_reducible refine Ext.up _ ?_) | (with_reducible refine Below.alloc ?_ ?_ _) | (with_reducible refine Below.drew ?_) | (with_reducible refine Below.setCell ?_ ?_ _) | (with_reducible refine Below.setRow_ ?_ ?_ _) | go_size))⟩
 case round=>
  obtain ⟨j,hj,rfl,hall,hb⟩:=hrel
  by_cases hlt:j < n
  ·obtain ⟨b,o,rfl,hbw,hc⟩:=hl.at (by omega)
   obtain ⟨x,hjx⟩:∃ x,l[j]?=some x:=⟨_,List.getElem?_eq_getElem (by omega)⟩
   have hx:=hc j _ (by rw [ztu,hjx];rfl)
   rw [← hb.cell (by exact hbw)] at hx
   have ht:=zlp hjx
   by_cases hxa:aisA x
   ·go_wp2_with (go_at_call 380;refine (zlq hxa _).mono ?_;rintro _ _ ⟨rfl,g,rfl⟩)
    go_roundw
    case rel=>exact ⟨j + 1,by omega,rfl,by rw [ht,hall];simpa using hxa,by (repeat' (first | (with_reducible exact Below.refl _ _) | (with_reducible assumption) | (with_reducible refine Ext.up _ ?_) | (with_reducible refine Below.alloc ?_ ?_ _) | (with_reducible refine Below.drew ?_) | (with_reducible refine Below.setCell ?_ ?_ _) | (with_reducible refine Below.setRow_ ?_ ?_ _) | go_size))⟩
    case measure=>simp [intOf];omega
   ·have hno:=zw4 hjx hxa
    go_wp2_with (go_at_call 380;refine (zw5 hxa _).mono ?_;rintro _ _ ⟨rfl,g,rfl⟩)
    refine ⟨rfl,?_⟩
    exact ⟨by rw [hno];rfl,⟨g.val,by (repeat' (first | (with_reducible exact Below.refl _ _) | (with_reducible assumption) | (with_reducible refine Ext.up _ ?_) | (with_reducible refine Below.alloc ?_ ?_ _) | (with_reducible refine Below.drew ?_) | (with_reducible refine Below.setCell ?_ ?_ _) | (with_reducible refine Below.setRow_ ?_ ?_ _) | go_size))⟩,rfl⟩
  ·go_wp2
   obtain rfl:j=n:=by omega
   rw [← hln,List.take_length] at hall
   go_end0
   exact ⟨by rw [hall];rfl,⟨_,hb⟩,rfl⟩
theorem zf9 (p q:Addr) (x y:Value) (u:TypeId) (pv:Value) (older:List PanicEntry) (w:World) (hc:w.cell? p=some x) (hz:w.frozen? p=false) (hc2:w.cell? q=some y) (hz2:w.frozen? q=false) (hpq:¬ p=q):
  CallsD Tryz.prog 384 #[.pointer (some p),.pointer (some q)] (.panicking ({ v:=.iface u pv,recovered:=false } :: older)) w fun e u' w'=>
   e=.returned (.tuple #[])∧u'=.panicking ({ v:=.iface u pv,recovered:=true } :: older)∧w'=(w.setCell p (.int .i64 0)).setCell q (.int .i64 15):=by
 refine callsD_of_wpS Tryz.func384 rfl fun c₀ cs hu=>?_
 apply wpS_seq
 apply wpS_region
 simp [wpOpsS,go_sem,recoverD,hu,Tryz.ntmps384,Exit.thenS]
 apply wpS_seq
 apply wpS_region
 simp [wpOpsS,go_sem,Exit.thenS]
 refine wpS_cond (t:=true) (by simp [Act.eval,Array.replicate]) ?_
 simp only [if_true]
 apply wpS_region
 have hc3:(w.setCell p (.int .i64 0)).cell? q=some y:=by rw [World.cell?_setCell_other _ _ _ _ hpq];exact hc2
 simp [wpOpsS,go_sem,hc,hz,hc3,hz2,bodyPostS,results,Tryz.results384]
theorem zgm (p q:Addr) (w:World):
  CallsD Tryz.prog 384 #[.pointer (some p),.pointer (some q)] .returning w fun e u' w'=>e=.returned (.tuple #[])∧u'=.returning∧w'=w:=by
 refine callsD_of_wpS Tryz.func384 rfl fun c₀ cs hu=>?_
 apply wpS_seq
 apply wpS_region
 simp [wpOpsS,go_sem,recoverD,hu,Tryz.ntmps384,Exit.thenS]
 apply wpS_seq
 apply wpS_region
 simp [wpOpsS,go_sem,Exit.thenS]
 refine wpS_cond (t:=false) (by simp [Act.eval,Array.replicate]) ?_
 simp only [Bool.false_eq_true,if_false]
 refine wpS_of_wp (wp_skip ?_)
 cases c₀
 simp_all [bodyPostS,results,Tryz.results384]
def zia (a b:Int):Int × Int:=if aisA a∧aisA b∧aisA (a + b) then (a + b,0) else (0,15)
def zee (p:Int × Int):Value:=.tuple #[.int .i64 p.1,.int .i64 p.2]
theorem zbn (w:World) (l:List Int) (t:TypeId) (h:l.length ≤ maxLen) {cs:Array Value} (hcs:cs=(aits l).toArray) {k n:Nat} (hk:k=w.heap.size) (hn:n=l.length):Sl (w.alloc (.cells cs t)) (some ⟨k,0,none⟩) n n (aits l):=by
 subst hk hcs hn
 have:=Sl.own (zjh w 0 t (aits l).toArray (Nat.zero_le _) (by simpa [zer] using h))
 simpa [zer] using this
theorem zfr {w:World} {ao:Option Addr} {n c:Nat} {l:List Int} (hl:Sl w ao n c (aits l)) (hn:n < 1099511627776) (h:zbr l=true):Calls Tryz.prog 385 #[.slice ao n c] w (Ret (.tuple #[]) w):=
 (zlr hl hn).mono fun e w' ⟨he,g,hg⟩=>by rw [h] at he;exact ⟨he,g,hg⟩
theorem zfs {w:World} {ao:Option Addr} {n c:Nat} {l:List Int} (hl:Sl w ao n c (aits l)) (hn:n < 1099511627776) (h:zbr l=false):Calls Tryz.prog 385 #[.slice ao n c] w (fun e w'=>e=.panicked [{ v:=.iface 38 (.int .i64 15),recovered:=false }]∧∃ g:Ext w,w'=g.val):=
 (zlr hl hn).mono fun e w' ⟨he,g,hg⟩=>by rw [h] at he;exact ⟨he,g,hg⟩
structure aTwo (w W:World) (x y:Value):Prop where
 c0:W.cell? ⟨w.heap.size,0,none⟩=some x
 f0:W.frozen? ⟨w.heap.size,0,none⟩=false
 c1:W.cell? ⟨w.heap.size + 1,0,none⟩=some y
 f1:W.frozen? ⟨w.heap.size + 1,0,none⟩=false
 below:Below w.heap.size w W
 size:w.heap.size + 1 < W.heap.size
theorem aTwo.mk2 (w:World) (x y:Value) (t u:TypeId):aTwo w ((w.alloc (.cells #[x] t)).alloc (.cells #[y] u)) x y where
 c0:=by simp [go_sem]
 f0:=by simp [go_sem]
 c1:=by
  have:=World.cell?_alloc_new (w.alloc (.cells #[x] t)) #[y] u
  simp [go_sem]
 f1:=by simp [go_sem]
 below:=((Below.refl _ _).alloc (zac9 _) _).alloc (by simp) _
 size:=by simp
theorem aTwo.ext {w W:World} {x y:Value} (h:aTwo w W x y) (g:Ext W):aTwo w g.val x y where
 c0:=(g.cell _ _ (by have:=h.size;omega)).trans h.c0
 f0:=(g.frozen _ _ (by have:=h.size;omega)).trans h.f0
 c1:=(g.cell _ _ h.size).trans h.c1
 f1:=(g.frozen _ _ h.size).trans h.f1
 below:=g.up h.below
 size:=Nat.lt_of_lt_of_le h.size g.size
theorem aTwo.alloc {w W:World} {x y:Value} (h:aTwo w W x y) (o:Obj):aTwo w (W.alloc o) x y:=h.ext (Ext.of ((Below.refl _ _).alloc (zac9 _) o))
theorem aTwo.set0 {w W:World} {x y:Value} (h:aTwo w W x y) (v:Value):aTwo w (W.setCell ⟨w.heap.size,0,none⟩ v) v y where
 c0:=by simp [go_sem,h.c0]
 f0:=by rw [World.frozen?_setCell];exact h.f0
 c1:=by rw [World.cell?_setCell_other _ _ _ _ (by simp)];exact h.c1
 f1:=by rw [World.frozen?_setCell];exact h.f1
 below:=h.below.setCell (zac9 _) _
 size:=by simpa [World.setCell] using h.size
theorem aTwo.set1 {w W:World} {x y:Value} (h:aTwo w W x y) (v:Value):aTwo w (W.setCell ⟨w.heap.size + 1,0,none⟩ v) x v where
 c0:=by rw [World.cell?_setCell_other _ _ _ _ (by simp)];exact h.c0
 f0:=by rw [World.frozen?_setCell];exact h.f0
 c1:=by simp [go_sem,h.c1]
 f1:=by rw [World.frozen?_setCell];exact h.f1
 below:=h.below.setCell (by simp) _
 size:=by simpa [World.setCell] using h.size
theorem aTwo.caught {w W:World} {x y:Value} (h:aTwo w W x y) (u:TypeId) (pv:Value):CallsD Tryz.prog 384 #[.pointer (some ⟨w.heap.size,0,none⟩),.pointer (some ⟨w.heap.size + 1,0,none⟩)] (.panicking [{ v:=.iface u pv,recovered:=false }]) W fun e u' w'=>
  e=.returned (.tuple #[])∧u'=.panicking [{ v:=.iface u pv,recovered:=true }]∧aTwo w w' (.int .i64 0) (.int .i64 15):=
 (zf9 _ _ x y u pv [] W h.c0 h.f0 h.c1 h.f1 (by simp)).mono fun e u' w' ⟨he,hu,hw⟩=>⟨he,hu,by rw [hw];exact (h.set0 _).set1 _⟩
theorem ztv (a b:Int) (w:World):Calls Tryz.prog 361 #[.int .i64 a,.int .i64 b] w (Ret (zee (zia a b)) w):=by
 have T0:=aTwo.mk2 w (.int .i64 0) (.int .i64 0) 3 38
 by_cases h1:aisA a∧aisA b
 ·obtain ⟨ha,hb⟩:=h1
  have hall:zbr [a,b]=true:=by simp [zbr,ha,hb]
  have e1:IntKind.i64.wrap (a + b)=a + b:=by rw [IntKind.wrap_i64];have:=ha.1;have:=ha.2;have:=hb.1;have:=hb.2;omega
  by_cases h2:aisA (a + b)
  ·have hall2:zbr [a + b]=true:=by simp [zbr,h2]
   have hv:zia a b=(a + b,0):=if_pos ⟨ha,hb,h2⟩
   rw [hv]
   go_enter_defers Tryz.func361,Tryz.ntmps361
   go_wp2_with fail
   refine (zfr (zbn _ [a,b] _ (by simp [maxLen]) rfl (by simp) rfl) (by simp) hall).mono ?_
   rintro _ _ ⟨rfl,g,rfl⟩
   have T1:=(T0.alloc (.cells (aits [a,b]).toArray 3)).ext g
   go_wp2_with fail
   refine (zfr (zbn _ [a + b] _ (by simp [maxLen]) rfl rfl rfl) (by simp) hall2).mono ?_
   rintro _ _ ⟨rfl,g2,rfl⟩
   have T2:=(T1.alloc (.cells (aits [a + b]).toArray 3)).ext g2
   have c0:=T2.c0
   have f0:=T2.f0
   have c1:=(T2.set0 (.int .i64 (a + b))).c1
   have f1:=T2.f1
   go_wp2_with fail
   have T3:=(T2.set0 (.int .i64 (a + b))).set1 (.int .i64 0)
   clear c0 c1
   refine leaves_cons (f:=384) (args:=#[.pointer (some ⟨w.heap.size,0,none⟩),.pointer (some ⟨w.heap.size + 1,0,none⟩)]) (by simp) (by simp [go_sem]) ?_
   refine (zgm _ _ _).mono ?_
   rintro e u' w'' ⟨rfl,rfl,rfl⟩
   have c0:=T3.c0
   have c1:=T3.c1
   simp [Leaves,settle,results,Tryz.results361,go_sem,c0,c1]
   exact Ret.mk T3.below
  ·have hall2:zbr [a + b]=false:=by simp [zbr,h2]
   have hv:zia a b=(0,15):=if_neg (fun h=>h2 h.2.2)
   rw [hv]
   go_enter_defers Tryz.func361,Tryz.ntmps361
   go_wp2_with fail
   refine (zfr (zbn _ [a,b] _ (by simp [maxLen]) rfl (by simp) rfl) (by simp) hall).mono ?_
   rintro _ _ ⟨rfl,g,rfl⟩
   have T1:=(T0.alloc (.cells (aits [a,b]).toArray 3)).ext g
   go_wp2_with fail
   refine (zfs (zbn _ [a + b] _ (by simp [maxLen]) rfl rfl rfl) (by simp) hall2).mono ?_
   rintro _ _ ⟨rfl,g2,rfl⟩
   have T2:=(T1.alloc (.cells (aits [a + b]).toArray 3)).ext g2
   simp only []
   refine leaves_cons (f:=384) (args:=#[.pointer (some ⟨w.heap.size,0,none⟩),.pointer (some ⟨w.heap.size + 1,0,none⟩)]) (by simp) (by simp [go_sem]) ?_
   refine (T2.caught _ _).mono ?_
   rintro e u' w'' ⟨rfl,rfl,TE⟩
   have c0:=TE.c0
   have c1:=TE.c1
   simp [Leaves,settle,results,Tryz.results361,go_sem,c0,c1]
   exact Ret.mk TE.below
 ·have hall:zbr [a,b]=false:=by
   cases h:zbr [a,b] with
   | false=>rfl
   | true=>simp [zbr] at h;exact absurd h h1
  have hv:zia a b=(0,15):=if_neg (fun h=>h1 ⟨h.1,h.2.1⟩)
  rw [hv]
  go_enter_defers Tryz.func361,Tryz.ntmps361
  go_wp2_with fail
  refine (zfs (zbn _ [a,b] _ (by simp [maxLen]) rfl (by simp) rfl) (by simp) hall).mono ?_
  rintro _ _ ⟨rfl,g,rfl⟩
  have T1:=(T0.alloc (.cells (aits [a,b]).toArray 3)).ext g
  simp only []
  refine leaves_cons (f:=384) (args:=#[.pointer (some ⟨w.heap.size,0,none⟩),.pointer (some ⟨w.heap.size + 1,0,none⟩)]) (by simp) (by simp [go_sem]) ?_
  refine (T1.caught _ _).mono ?_
  rintro e u' w'' ⟨rfl,rfl,TE⟩
  have c0:=TE.c0
  have c1:=TE.c1
  simp [Leaves,settle,results,Tryz.results361,go_sem,c0,c1]
  exact Ret.mk TE.below
end Go.Proofs.YthjgiamfaijoeaaGreatDoor
namespace Go.Proofs.YthjgiamfaijoeaaGreatDoor
open Go.RowKit
set_option maxRecDepth 100000
section
variable {P:Program}
def znj (P:Program) (g:FuncId):Bool:=match P.funcs[g]? with
 | some fn => fn.name == "math/bits.Add64" && fn.body.isNone && (Extern.allNextRows.lookup fn.origin).isNone
 | none=>false
def ztw:Array Value→Sem Value:=fun args=>do
 let (x, y, c) ← Extern.MathBitsCarry.three "Add64" args
 pure (Extern.MathBitsCarry.pair ((x + y + c) % Extern.MathBitsCarry.m64) ((x + y + c) / Extern.MathBitsCarry.m64))
theorem ztx : Extern.MathBitsCarry.rows.lookup "math/bits.Add64" = some ztw := rfl
theorem zga : Extern.allNextRows.lookup "math/bits.Add64" = none ∧ Extern.allTypedRows.lookup "math/bits.Add64" = none ∧ Extern.allGenericRows.lookup "math/bits.Add64" = none := ⟨by kernel_rfl, by kernel_rfl, by kernel_rfl⟩
theorem zq1 : Extern.allRows.lookup "math/bits.Add64" = Extern.MathBitsCarry.rows.lookup "math/bits.Add64" := by kernel_rfl
theorem zq2 (k k' k2:IntKind) (x y:Int) (w:World):
  (ztw #[.int k x,.int k' y,.int k2 0]).run P w=.ok (.tuple #[.int .u64 ((x.toNat + y.toNat) % 18446744073709551616:Nat),.int .u64 ((x.toNat + y.toNat) / 18446744073709551616:Nat)]) w:=rfl
theorem zty {g:FuncId} (h:znj P g=true) (k k' k2:IntKind) (x y:Int) (w:World):
  (callFunc g #[.int k x,.int k' y,.int k2 0]).run P w=.ok (.value (.tuple #[.int .u64 ((x.toNat + y.toNat) % 18446744073709551616:Nat),.int .u64 ((x.toNat + y.toNat) / 18446744073709551616:Nat)])) w:=by
 unfold znj at h
 split at h
 ·rename_i fn hf
  simp only [Bool.and_eq_true,beq_iff_eq,Option.isNone_iff_eq_none] at h
  obtain ⟨⟨h1,h2⟩,h3⟩:=h
  have hn:Extern.findNext fn=none:=by
   unfold Extern.findNext
   simp only [h1,zga.1,h3,Option.map_none]
   rfl
  have he:=ztx
  rw [← zq1] at he
  have hs:Extern.find fn=some ztw:=by
   unfold Extern.find
   simp only [h1,zga.2.1,zga.2.2,he,Option.map_none]
   rfl
  rw [run_callFunc_extern hf (by rw [h1];decide) (by rw [h2];rfl) hn hs]
  rw [zq2]
  rfl
 ·cases h
end
theorem is39:znj Tryz.prog 382=true:=by kernel_rfl
theorem add39 (x y:Int) (w:World):(callFunc 382 #[.int .u64 x,.int .u64 y,.int .u64 0]).run Tryz.prog w=.ok (.value (.tuple #[.int .u64 ((x.toNat + y.toNat) % 18446744073709551616:Nat),.int .u64 ((x.toNat + y.toNat) / 18446744073709551616:Nat)])) w:=zty is39 .u64 .u64 .u64 x y w
theorem znk {x y:Nat} (hx:x < 4294967296) (hy:y < 4294967296) (w:World):Calls Tryz.prog 381 #[.int .u64 x,.int .u64 y] w fun e w'=>e=.returned (.tuple #[.int .u64 0,.int .u64 (x * y:Nat)])∧w'=w:=by
 have b1:bits .and .u64 (x:Int) 4294967295=x:=by
  have:=u64_and_nat x 4294967295 (by omega) (by decide)
  rw [show ((4294967295:Nat):Int)=4294967295 from rfl] at this
  rw [this,show (4294967295:Nat)=2 ^ 32 - 1 from rfl,Nat.and_two_pow_sub_one_eq_mod,Nat.mod_eq_of_lt (by simpa using hx)]
 have b2:bits .and .u64 (y:Int) 4294967295=y:=by
  have:=u64_and_nat y 4294967295 (by omega) (by decide)
  rw [show ((4294967295:Nat):Int)=4294967295 from rfl] at this
  rw [this,show (4294967295:Nat)=2 ^ 32 - 1 from rfl,Nat.and_two_pow_sub_one_eq_mod,Nat.mod_eq_of_lt (by simpa using hy)]
 have d1:(x:Int) / 4294967296=0:=by omega
 have d2:(y:Int) / 4294967296=0:=by omega
 have hq:x * y < 18446744073709551616:=Nat.lt_of_le_of_lt (Nat.mul_le_mul (Nat.le_of_lt_succ hx) (Nat.le_of_lt_succ hy)) (by decide)
 obtain ⟨q,hqq⟩:∃ q,q=x * y:=⟨_,rfl⟩
 rw [← hqq] at hq ⊢
 have e1:IntKind.u64.wrap ((x:Int) * y)=(q:Int):=by rw [IntKind.wrap_u64,hqq,Int.natCast_mul];rw [hqq,] at hq;exact Int.emod_eq_of_lt (by rw [← Int.natCast_mul];omega) (by rw [← Int.natCast_mul];omega)
 obtain ⟨r,hr⟩:∃ r,r=q / 4294967296:=⟨_,rfl⟩
 have hr2:r < 4294967296:=by omega
 have e2:IntKind.u64.wrap ((q:Int) / 4294967296)=(r:Int):=by rw [IntKind.wrap_u64];omega
 have e3:bits .and .u64 (r:Int) 4294967295=r:=by
  have:=u64_and_nat r 4294967295 (by omega) (by decide)
  rw [show ((4294967295:Nat):Int)=4294967295 from rfl] at this
  rw [this,show (4294967295:Nat)=2 ^ 32 - 1 from rfl,Nat.and_two_pow_sub_one_eq_mod,Nat.mod_eq_of_lt (by simpa using hr2)]
 have e4:(r:Int) / 4294967296=0:=by omega
 have e5:IntKind.u64.wrap (r:Int)=r:=by rw [IntKind.wrap_u64];omega
 clear hr hqq
 go_enter Tryz.func381,Tryz.ntmps381
 go_wp2
 refine bodyPost_ret (results_tmp2 rfl _ _ _) rfl ?_
 exact ⟨rfl,rfl⟩
theorem znl {l d:Nat} (hl:l < 18446744073709551616) (hd:0 < d) (hd2:d < 9223372036854775808) (w:World):Calls Tryz.prog 383 #[.int .u64 0,.int .u64 l,.int .u64 d] w fun e w'=>e=.returned (.tuple #[.int .u64 (l / d:Nat),.int .u64 (l % d:Nat)])∧Below w.heap.size w w':=by
 have h1:((d:Int) == 0)=false:=by rw [beq_eq_false_iff_ne];omega
 have h2:¬ (d:Int) ≤ 0:=by omega
 have h3:¬ (d:Int)=0:=by omega
 have q1:IntKind.u64.wrap ((l:Int) / d)=((l / d:Nat):Int):=by
  have hk:=Nat.div_le_self l d
  rw [← Int.natCast_ediv]
  generalize l / d=k at hk ⊢
  rw [IntKind.wrap_u64]
  omega
 have q2:(l:Int) % d=((l % d:Nat):Int):=(Int.natCast_emod l d).symm
 go_enter Tryz.func383,Tryz.ntmps383
 go_wp2_with fail
 go_region
 have hb:=(Below.refl w.heap.size w).drew
 go_wp2
 refine bodyPost_ret (results_tmp2 rfl _ _ _) rfl ?_
 exact ⟨rfl,hb⟩
def ziv (a ppm:Nat):Nat:=(a * ppm + 999999) / 1000000
theorem zq3 {a ppm:Nat} (ha:a < 4294967296) (hp:ppm ≤ 1000000) (w:World):Calls Tryz.prog 359 #[.int .i64 a,.int .i64 ppm] w fun e w'=>e=.returned (.tuple #[.int .i64 (ziv a ppm:Nat),.int .i64 0])∧Below w.heap.size w w':=by
 have hA:=zac8 (zlq (a:=(a:Int)) ⟨by omega,by omega⟩)
 have hM:=zac8 (fun w=>znk (x:=a) (y:=ppm) (by omega) (by omega) w)
 have h1:¬ (ppm:Int) < 0:=by omega
 have h2:¬ (ppm:Int) > 1000000:=by omega
 have u1:IntKind.u64.wrap (a:Int)=a:=by rw [IntKind.wrap_u64];omega
 have u2:IntKind.u64.wrap (ppm:Int)=ppm:=by rw [IntKind.wrap_u64];omega
 have hq:a * ppm ≤ 4294967295 * 1000000:=Nat.mul_le_mul (by omega) hp
 obtain ⟨q,hqq⟩:∃ q,q=a * ppm:=⟨_,rfl⟩
 have hD:=zac8 (fun w=>znl (l:=q + 999999) (d:=1000000) (by omega) (by decide) (by decide) w)
 have m1:(((q:Int).toNat + (999999:Int).toNat) % 18446744073709551616:Nat)=q + 999999:=by show (q + 999999) % 18446744073709551616=_;omega
 have m2:(((q:Int).toNat + (999999:Int).toNat) / 18446744073709551616:Nat)=0:=by show (q + 999999) / 18446744073709551616=_;omega
 have A:=zac8 (show ∀ w,(callFunc 382 #[.int .u64 (q:Int),.int .u64 999999,.int .u64 0]).run Tryz.prog w=.ok (.value (.tuple #[.int .u64 ((q + 999999:Nat):Int),.int .u64 0])) w from fun w=>by rw [add39 (q:Int) 999999 w,m1,m2];rfl)
 have z0:IntKind.u64.wrap (0:Int)=0:=by rw [IntKind.wrap_u64];rfl
 have EV:ziv a ppm=(q + 999999) / 1000000:=by unfold ziv;rw [hqq]
 rw [EV]
 rw [← hqq] at hM
 have i1:IntKind.i64.wrap (((q + 999999) / 1000000:Nat):Int)=((q + 999999) / 1000000:Nat):=by rw [IntKind.wrap_i64];omega
 have HQ:=zac8 (show q < 9000000000000000 by omega)
 clear hq hqq m1 m2 EV
 go_enter Tryz.func359,Tryz.ntmps359
 go_wp2_with fail
 refine (hA.out w).mono ?_
 rintro _ _ ⟨rfl,g,rfl⟩
 go_wp2_with fail
 refine (hM.out _).mono ?_
 rintro _ _ ⟨rfl,rfl⟩
 have A1:=A.out g.val
 go_wp2_with fail
 refine (hD.out _).mono ?_
 rintro _ w3 ⟨rfl,hb3⟩
 have B3:=zac8 (g.below.trans (hb3.mono g.below.size))
 clear hb3
 go_wp2
 refine bodyPost_ret (results_tmp2 rfl _ _ _) rfl ?_
 refine ⟨?_,B3.out⟩
 show Ending.returned (.tuple #[.int .i64 (wrap64 (((q:Int) + 999999) / 1000000)),.int .i64 0])=_
 have:=HQ.out
 rw [IntWalk.wrap64_in _ (by omega)]
 rfl
end Go.Proofs.YthjgiamfaijoeaaGreatDoor
