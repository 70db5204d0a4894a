/- What is proved: parts of the walk and of the plain law. No condition but those each law names. -/
import Derived.Test.YthjgiamfaijoeaaGreatDoorD20
import Derived.Maps.AppendAt
import Derived.Laws.Externs
import Derived.Laws.BitsAllLaws
import Derived.Test.YthjgiamfaijoeaaGreatDoorD00
set_option linter.unusedSimpArgs false
set_option linter.unusedVariables false
set_option maxRecDepth 100000
namespace Go.Proofs.YthjgiamfaijoeaaGreatDoor
open Go.RowKit
section
attribute [local go_sem ↓] zad
attribute [local go_sem] zaf zai zaj zal Ext.row Ext.soft_
structure Bxs (w:World) (L:List (Array Value × TypeId)) (W:World):Prop where
 below:Below w.heap.size w W
 rows:∀ (j:Nat) C t,L[j]?=some (C,t)→W.heap[w.heap.size + j]?=some (.cells C t)
theorem Bxs.step {w W W':World} {L:List (Array Value × TypeId)} (h:Bxs w L W) (hb:Below W.heap.size W W'):Bxs w L W':=
 ⟨h.below.trans (hb.mono h.below.size),fun j C t hj=>by
  have:=h.rows j C t hj
  exact (hb.block _ (zadu this).1).trans this⟩
theorem Bxs.row' {w W:World} {L:List (Array Value × TypeId)} (h:Bxs w L W) (j:Nat) {C:Array Value} {t:TypeId} (hj:L[j]?=some (C,t)):rowOf W (w.heap.size + j)=C:=zaa (h.rows j C t hj)
theorem Bxs.soft' {w W:World} {L:List (Array Value × TypeId)} (h:Bxs w L W) (j:Nat) {C:Array Value} {t:TypeId} (hj:L[j]?=some (C,t)):soft W (w.heap.size + j)=true:=zan (h.rows j C t hj)
theorem Bxs.lt {w W:World} {L:List (Array Value × TypeId)} (h:Bxs w L W) (j:Nat) {C:Array Value} {t:TypeId} (hj:L[j]?=some (C,t)):w.heap.size + j < W.heap.size:=(zadu (h.rows j C t hj)).1
theorem Bxs.nil (w:World):Bxs w [] w:=⟨Below.refl _ _,fun j C t h=>by simp at h⟩
theorem Bxs.snoc {w W:World} {L:List (Array Value × TypeId)} (h:Bxs w L W) (hz:W.heap.size=w.heap.size + L.length) (C:Array Value) (t:TypeId):Bxs w (L ++ [(C,t)]) (W.alloc (.cells C t))∧(W.alloc (.cells C t)).heap.size=w.heap.size + (L ++ [(C,t)]).length:=by
 refine ⟨⟨h.below.alloc (by omega) _,fun j D u hj=>?_⟩,by simp;omega⟩
 by_cases e:j < L.length
 ·rw [List.getElem?_append_left e] at hj
  have:=h.rows j D u hj
  rw [Below.heap_alloc _ _ _ (zadu this).1]
  exact this
 ·have hj2:j=L.length:=by
   have:=(List.getElem?_eq_some_iff.1 hj).1
   simp at this
   omega
  subst hj2
  rw [List.getElem?_append_right (zadw _),Nat.sub_self] at hj
  simp only [List.getElem?_cons_zero,Option.some.injEq,Prod.mk.injEq] at hj
  obtain ⟨rfl,rfl⟩:=hj
  rw [← hz]
  exact heap_alloc_new W _
section
variable (w:World) (C1:Array Value) (t1:TypeId) (C2:Array Value) (t2:TypeId) (C3:Array Value) (t3:TypeId) (C4:Array Value) (t4:TypeId)
theorem Bxs.new2:Bxs w [(C1,t1),(C2,t2)] ((w.alloc (.cells C1 t1)).alloc (.cells C2 t2)):=by
 obtain ⟨h1,z1⟩:=(Bxs.nil w).snoc rfl C1 t1
 exact (h1.snoc z1 C2 t2).1
theorem Bxs.new3:Bxs w [(C1,t1),(C2,t2),(C3,t3)] (((w.alloc (.cells C1 t1)).alloc (.cells C2 t2)).alloc (.cells C3 t3)):=by
 obtain ⟨h1,z1⟩:=(Bxs.nil w).snoc rfl C1 t1
 obtain ⟨h2,z2⟩:=h1.snoc z1 C2 t2
 exact (h2.snoc z2 C3 t3).1
theorem Bxs.new4:Bxs w [(C1,t1),(C2,t2),(C3,t3),(C4,t4)] ((((w.alloc (.cells C1 t1)).alloc (.cells C2 t2)).alloc (.cells C3 t3)).alloc (.cells C4 t4)):=by
 obtain ⟨h1,z1⟩:=(Bxs.nil w).snoc rfl C1 t1
 obtain ⟨h2,z2⟩:=h1.snoc z1 C2 t2
 obtain ⟨h3,z3⟩:=h2.snoc z2 C3 t3
 exact (h3.snoc z3 C4 t4).1
end
structure Tm where
 base:Int
 ppm:Int
 reserve:Int
 least:Int
 most:Int
 depth:Int
 delay:Int
 lag:Int
 fast:Int
def Tm.cells (t:Tm):Array Value:=#[.int .i64 t.base,.int .i64 t.ppm,.int .i64 t.reserve,.int .i64 t.least,.int .i64 t.most,.int .i64 t.depth,.int .i64 t.delay,.int .i64 t.lag,.int .i64 t.fast]
structure Cl where
 a:Int
 b:Int
 c:Int
def Cl.cells (t:Cl):Array Value:=#[.int .i64 t.a,.int .i64 t.b,.int .i64 t.c]
section
variable (t:Tm) (n:Cl)
theorem zt9:t.cells.size=9:=rfl
theorem tm_one:ones t.cells=true:=by kernel_rfl
theorem zxo:sub t.cells 0 9=t.cells:=by kernel_rfl
theorem tm_0:t.cells[0]?=some (.int .i64 t.base):=rfl
theorem tm_1:t.cells[1]?=some (.int .i64 t.ppm):=rfl
theorem tm_2:t.cells[2]?=some (.int .i64 t.reserve):=rfl
theorem tm_3:t.cells[3]?=some (.int .i64 t.least):=rfl
theorem tm_4:t.cells[4]?=some (.int .i64 t.most):=rfl
theorem tm_5:t.cells[5]?=some (.int .i64 t.depth):=rfl
theorem tm_6:t.cells[6]?=some (.int .i64 t.delay):=rfl
theorem tm_7:t.cells[7]?=some (.int .i64 t.lag):=rfl
theorem tm_8:t.cells[8]?=some (.int .i64 t.fast):=rfl
theorem tm_0g (q:0 < t.cells.size):t.cells[0]'q=.int .i64 t.base:=rfl
theorem tm_1g (q:1 < t.cells.size):t.cells[1]'q=.int .i64 t.ppm:=rfl
theorem tm_2g (q:2 < t.cells.size):t.cells[2]'q=.int .i64 t.reserve:=rfl
theorem tm_3g (q:3 < t.cells.size):t.cells[3]'q=.int .i64 t.least:=rfl
theorem tm_4g (q:4 < t.cells.size):t.cells[4]'q=.int .i64 t.most:=rfl
theorem tm_5g (q:5 < t.cells.size):t.cells[5]'q=.int .i64 t.depth:=rfl
theorem tm_6g (q:6 < t.cells.size):t.cells[6]'q=.int .i64 t.delay:=rfl
theorem tm_7g (q:7 < t.cells.size):t.cells[7]'q=.int .i64 t.lag:=rfl
theorem tm_8g (q:8 < t.cells.size):t.cells[8]'q=.int .i64 t.fast:=rfl
theorem zaby:n.cells.size=3:=rfl
theorem cl_one:ones n.cells=true:=by kernel_rfl
theorem zxp:sub n.cells 0 3=n.cells:=by kernel_rfl
theorem cl_0:n.cells[0]?=some (.int .i64 n.a):=rfl
theorem cl_1:n.cells[1]?=some (.int .i64 n.b):=rfl
theorem cl_2:n.cells[2]?=some (.int .i64 n.c):=rfl
theorem cl_0g (q:0 < n.cells.size):n.cells[0]'q=.int .i64 n.a:=rfl
theorem cl_1g (q:1 < n.cells.size):n.cells[1]'q=.int .i64 n.b:=rfl
theorem cl_2g (q:2 < n.cells.size):n.cells[2]'q=.int .i64 n.c:=rfl
end
theorem zabz (w:World) (ρ:Operand→Value) (x:Operand) (dst:Option Tmp) (ty:TypeId) (pos:String) (af:Array Edge) (gd:Option (Nat × Bool)) (hp:pp (ρ x)=true) (h:po (ρ x) + 3 ≤ (rowOf w (pb (ρ x))).size):(execOp ρ ⟨dst,.load 256 x,ty,pos,af,gd⟩).run Tryz.prog w=.ok (.value (.agg (sub (rowOf w (pb (ρ x))) (po (ρ x)) 3))) w:=
 zav 256 3 Tryz.underlying256 rfl (by kernel_rfl) w ρ x dst ty pos af gd hp h
attribute [go_sem ↓] tm_0 tm_1 tm_2 tm_3 tm_4 tm_5 tm_6 tm_7 tm_8 cl_0 cl_1 cl_2 zabz
attribute [go_sem] zt9 tm_one zxo tm_0g tm_1g tm_2g tm_3g tm_4g tm_5g tm_6g tm_7g tm_8g zaby cl_one zxp cl_0g cl_1g cl_2g
structure TmT (t:Tm):Prop where
 depth:1 ≤ t.depth∧t.depth ≤ 20
 delay:1 ≤ t.delay∧t.delay ≤ 50
 lag:0 ≤ t.lag∧t.lag ≤ 50
 fast:1 ≤ t.fast∧t.fast ≤ 10
def Tm.mar (t:Tm):Int:=t.depth + t.delay + t.lag + 1
theorem TmT.mar {t:Tm} (h:TmT t):3 ≤ t.mar∧t.mar ≤ 121:=by
 have h1:=h.depth
 have h2:=h.delay
 have h3:=h.lag
 unfold Tm.mar
 omega
theorem zjk {t:Tm} (h:TmT t) (w:World):Calls Tryz.prog 231 #[.agg t.cells] w fun e w'=>e=.returned (.int .i64 t.mar)∧Below w.heap.size w w':=by
 have h1:=h.depth
 have h2:=h.delay
 have h3:=h.lag
 have e1:wrap64 (t.depth + t.delay)=t.depth + t.delay:=IntWalk.wrap64_in _ (by omega)
 have e2:wrap64 (t.depth + t.delay + t.lag)=t.depth + t.delay + t.lag:=IntWalk.wrap64_in _ (by omega)
 have e3:wrap64 (t.depth + t.delay + t.lag + 1)=t.depth + t.delay + t.lag + 1:=IntWalk.wrap64_in _ (by omega)
 have E3:=zadv (show wrap64 (t.depth + t.delay + t.lag + 1)=t.mar from e3)
 clear h h1 h2 h3 e3
 go_enter Tryz.func231,Tryz.ntmps231
 go_upto_region 1 with (fail)
 have bx:=Bx.new w (t.cells) 68;generalize w.alloc (.cells (t.cells) 68)=W at bx ⊢;have rx:=bx.rowOf;have sx:=bx.soft;have BX:=zadv bx;clear bx
 go_wp2
 go_ret
 refine ⟨?_,BX.out.below⟩
 show Ending.returned (Value.int .i64 (wrap64 (t.depth + t.delay + t.lag + 1)))=_
 rw [E3.out]
def Cl.at_ (n:Cl) (p:Int):Int:=if p=0 then n.a else if p=1 then n.b else if p=2 then n.c else 0
theorem at_any (n:Cl) (p:Int) (w:World):Calls Tryz.prog 166 #[.agg n.cells,.int .i64 p] w fun e w'=>e=.returned (.int .i64 (n.at_ p))∧Below w.heap.size w w':=by
 by_cases h0:p < 0
 ·have E:n.at_ p=0:=by unfold Cl.at_;rw [if_neg (by omega),if_neg (by omega),if_neg (by omega)]
  rw [E]
  clear E
  go_enter Tryz.func166,Tryz.ntmps166
  go_upto_region 1 with (fail)
  have bx:=Bx.new w (n.cells) 256;generalize w.alloc (.cells (n.cells) 256)=W at bx ⊢;have rx:=bx.rowOf;have sx:=bx.soft;have BX:=zadv bx;clear bx
  go_wp2
  go_ret
  exact ⟨rfl,BX.out.below⟩
 ·by_cases h3:p ≥ 3
  ·have E:n.at_ p=0:=by unfold Cl.at_;rw [if_neg (by omega),if_neg (by omega),if_neg (by omega)]
   rw [E]
   clear E
   go_enter Tryz.func166,Tryz.ntmps166
   go_upto_region 1 with (fail)
   have bx:=Bx.new w (n.cells) 256;generalize w.alloc (.cells (n.cells) 256)=W at bx ⊢;have rx:=bx.rowOf;have sx:=bx.soft;have BX:=zadv bx;clear bx
   go_wp2
   go_ret
   exact ⟨rfl,BX.out.below⟩
  ·have hp:p=0 ∨ p=1 ∨ p=2:=by omega
   clear h0 h3
   rcases hp with rfl | rfl | rfl
   ·have E:n.at_ 0=n.a:=by unfold Cl.at_;simp
    rw [E]
    clear E
    go_enter Tryz.func166,Tryz.ntmps166
    go_upto_region 1 with (fail)
    have bx:=Bx.new w (n.cells) 256;generalize w.alloc (.cells (n.cells) 256)=W at bx ⊢;have rx:=bx.rowOf;have sx:=bx.soft;have BX:=zadv bx;clear bx
    go_wp2
    go_ret
    exact ⟨rfl,BX.out.below⟩
   ·have E:n.at_ 1=n.b:=by unfold Cl.at_;simp
    rw [E]
    clear E
    go_enter Tryz.func166,Tryz.ntmps166
    go_upto_region 1 with (fail)
    have bx:=Bx.new w (n.cells) 256;generalize w.alloc (.cells (n.cells) 256)=W at bx ⊢;have rx:=bx.rowOf;have sx:=bx.soft;have BX:=zadv bx;clear bx
    go_wp2
    go_ret
    exact ⟨rfl,BX.out.below⟩
   ·have E:n.at_ 2=n.c:=by unfold Cl.at_;simp
    rw [E]
    clear E
    go_enter Tryz.func166,Tryz.ntmps166
    go_upto_region 1 with (fail)
    have bx:=Bx.new w (n.cells) 256;generalize w.alloc (.cells (n.cells) 256)=W at bx ⊢;have rx:=bx.rowOf;have sx:=bx.soft;have BX:=zadv bx;clear bx
    go_wp2
    go_ret
    exact ⟨rfl,BX.out.below⟩
def zfc (n:Cl) (l:Lg):Int:=max 0 (wrap64 (l.u - n.at_ l.w))
theorem zl0 (n:Cl) (p:Int) (w:World):Calls Tryz.prog 166 #[.agg n.cells,.int .i64 p] w (Ret (.int .i64 (n.at_ p)) w):=zb0 (at_any n p w)
theorem zxq (n:Cl) (l:Lg) (w:World):Calls Tryz.prog 362 #[.agg n.cells,.agg l.cells] w fun e w'=>e=.returned (.int .i64 (zfc n l))∧Below w.heap.size w w':=by
 go_enter Tryz.func362,Tryz.ntmps362
 go_upto_region 1 with (fail)
 have bx:=Bxs.new2 w (n.cells) 256 (l.cells) 30;generalize ((w.alloc (.cells (n.cells) 256)).alloc (.cells (l.cells) 30))=W at bx ⊢;have rx0:=bx.row' 0 rfl;have sx0:=bx.soft' 0 rfl;(try simp only [Nat.add_zero] at rx0 sx0);have rx1:=bx.row' 1 rfl;have sx1:=bx.soft' 1 rfl;(try simp only [Nat.add_zero] at rx1 sx1);have BX:=zadv bx;clear bx
 have hlt0:=BX.out.lt 0 rfl
 have hlt1:=BX.out.lt 1 rfl
 simp only [Nat.add_zero] at hlt0
 (refine zap 8 (by kernel_rfl) (by kernel_rfl) ?_;simp only [List.take_succ_cons,List.take_zero,List.drop_succ_cons,List.drop_zero];(repeat (go_big_quiet_step (((go_at_call 166;exact Calls.ext_of (zl0 n l.w _))))));refine wpQuiet_nil ?_;rintro _ ⟨g,rfl⟩)
 have B:=zadv (BX.out.step g.below).below
 go_wp2
 go_ret
 exact ⟨rfl,B.out⟩
theorem zxr (n:Cl) (l:Lg) (w:World):Calls Tryz.prog 362 #[.agg n.cells,.agg l.cells] w (Ret (.int .i64 (zfc n l)) w):=zb0 (zxq n l w)
theorem zhc (d:Dl) (n:Cl) (w:World):Calls Tryz.prog 305 #[.agg d.cells,.agg n.cells] w fun e w'=>e=.returned (.tuple #[.int .i64 (zfc n d.p),.int .i64 (zfc n d.g)])∧Below w.heap.size w w':=by
 go_enter Tryz.func305,Tryz.ntmps305
 go_upto_region 1 with (fail)
 have bx:=Bxs.new2 w (d.cells) 60 (n.cells) 52;generalize ((w.alloc (.cells (d.cells) 60)).alloc (.cells (n.cells) 52))=W at bx ⊢;have rx0:=bx.row' 0 rfl;have sx0:=bx.soft' 0 rfl;(try simp only [Nat.add_zero] at rx0 sx0);have rx1:=bx.row' 1 rfl;have sx1:=bx.soft' 1 rfl;(try simp only [Nat.add_zero] at rx1 sx1);have BX:=zadv bx;clear bx
 have hlt0:=BX.out.lt 0 rfl
 have hlt1:=BX.out.lt 1 rfl
 simp only [Nat.add_zero] at hlt0
 go_upto_region 2 with (fail)
 (refine zap 8 (by kernel_rfl) (by kernel_rfl) ?_;simp only [List.take_succ_cons,List.take_zero,List.drop_succ_cons,List.drop_zero];(repeat (go_big_quiet_step (((go_at_call 362;exact Calls.ext_of (zxr _ _ _))))));refine wpQuiet_nil ?_;rintro _ ⟨g,rfl⟩)
 have B:=zadv (BX.out.step g.below).below
 go_wp2
 refine bodyPost_ret (results_tmp2 rfl _ _ _) rfl ?_
 exact ⟨rfl,B.out⟩
theorem zdp {t:Tm} (h:TmT t) (w:World):Calls Tryz.prog 231 #[.agg t.cells] w (Ret (.int .i64 t.mar) w):=zb0 (zjk h w)
theorem zua {t:Tm} (h:TmT t) (w:World):Calls Tryz.prog 168 #[.agg t.cells] w fun e w'=>e=.returned (.int .i64 (3 * t.mar))∧Below w.heap.size w w':=by
 have hm:=h.mar
 have E:=zadv (show wrap64 (3 * t.mar)=3 * t.mar from IntWalk.wrap64_in _ (by omega))
 have H:=zadv h
 clear h hm
 go_enter Tryz.func168,Tryz.ntmps168
 go_upto_region 1 with (fail)
 have bx:=Bx.new w (t.cells) 68;generalize w.alloc (.cells (t.cells) 68)=W at bx ⊢;have rx:=bx.rowOf;have sx:=bx.soft;have BX:=zadv bx;clear bx
 go_wp2_with fail
 refine (zjk H.out _).mono ?_;rintro _ W2 ⟨rfl,hb⟩;have bx:=BX.out.step hb;clear BX rx sx hb;have rx:=bx.rowOf;have sx:=bx.soft;have BX:=zadv bx;clear bx
 go_wp2
 go_ret
 refine ⟨?_,BX.out.below⟩
 show Ending.returned (Value.int .i64 (wrap64 (3 * t.mar)))=_
 rw [E.out]
theorem zie {t:Tm} (h:TmT t) (w:World):Calls Tryz.prog 168 #[.agg t.cells] w (Ret (.int .i64 (3 * t.mar)) w):=zb0 (zua h w)
def Tm.long (t:Tm):Int:=t.fast * (3 * t.mar) + t.mar
theorem TmT.long {t:Tm} (h:TmT t):0 ≤ t.fast * (3 * t.mar)∧t.fast * (3 * t.mar) ≤ 3630∧0 ≤ t.long∧t.long ≤ 3751:=by
 have h1:=h.mar
 have h2:=h.fast
 have a1:0 ≤ t.fast * (3 * t.mar):=Int.mul_nonneg (by omega) (by omega)
 have a2:t.fast * (3 * t.mar) ≤ 10 * 363:=Int.mul_le_mul h2.2 (by omega) (by omega) (by omega)
 unfold Tm.long
 omega
theorem zxs {t:Tm} (h:TmT t) (w:World):Calls Tryz.prog 167 #[.agg t.cells] w fun e w'=>e=.returned (.int .i64 t.long)∧Below w.heap.size w w':=by
 have hl:=h.long
 have e1:wrap64 (t.fast * (3 * t.mar))=t.fast * (3 * t.mar):=IntWalk.wrap64_in _ (by omega)
 have E2:=zadv (show wrap64 (t.fast * (3 * t.mar) + t.mar)=t.long from IntWalk.wrap64_in _ (by unfold Tm.long at hl;omega))
 have H:=zadv h
 clear h hl
 go_enter Tryz.func167,Tryz.ntmps167
 go_upto_region 1 with (fail)
 have bx:=Bx.new w (t.cells) 68;generalize w.alloc (.cells (t.cells) 68)=W at bx ⊢;have rx:=bx.rowOf;have sx:=bx.soft;have BX:=zadv bx;clear bx
 have hlt:w.heap.size < W.heap.size:=(zadu BX.out.row).1
 (refine zap 8 (by kernel_rfl) (by kernel_rfl) ?_;simp only [List.take_succ_cons,List.take_zero,List.drop_succ_cons,List.drop_zero];(repeat (go_big_quiet_step ((first | (go_at_call 168;exact Calls.ext_of (zie H.out _)) | (go_at_call 231;exact Calls.ext_of (zdp H.out _))))));refine wpQuiet_nil ?_;rintro _ ⟨g,rfl⟩)
 have B:=zadv (BX.out.step g.below).below
 go_wp2
 go_ret
 refine ⟨?_,B.out⟩
 show Ending.returned (Value.int .i64 (wrap64 (t.fast * (3 * t.mar) + t.mar)))=_
 rw [E2.out]
theorem zpk {t:Tm} (h:TmT t) (w:World):Calls Tryz.prog 167 #[.agg t.cells] w (Ret (.int .i64 t.long) w):=zb0 (zxs h w)
def zub (d:Dl) (n:Cl):Int:=if d.r=1 then 0 else zfc n d.p
def zez (t:Tm) (d:Dl) (n:Cl):Int:=if zfc n d.g < wrap64 (t.mar + wrap64 (zub d n * t.fast)) then 23 else 0
theorem zpl {t:Tm} (h:TmT t) (d:Dl) (n:Cl) (w:World):Calls Tryz.prog 230 #[.agg t.cells,.agg d.cells,.agg n.cells] w fun e w'=>e=.returned (.int .i64 (zez t d n))∧Below w.heap.size w w':=by
 have H:=zadv h
 clear h
 by_cases hr:d.r=1
 ·by_cases hs:zfc n d.g < wrap64 t.mar
  ·have E:zez t d n=23:=by unfold zez zub;rw [if_pos hr,Int.zero_mul,show wrap64 0=0 from IntWalk.wrap64_in _ (by decide),Int.add_zero];exact if_pos hs
   rw [E]
   clear E
   have HS:=zadv (show (zfc n d.g < wrap64 t.mar)=True from eq_true hs)
   clear hs
   go_enter Tryz.func230,Tryz.ntmps230
   go_upto_region 1 with (fail)
   have bx:=Bxs.new3 w (t.cells) 68 (d.cells) 60 (n.cells) 52;generalize (((w.alloc (.cells (t.cells) 68)).alloc (.cells (d.cells) 60)).alloc (.cells (n.cells) 52))=W at bx ⊢;have rx0:=bx.row' 0 rfl;have sx0:=bx.soft' 0 rfl;(try simp only [Nat.add_zero] at rx0 sx0);have rx1:=bx.row' 1 rfl;have sx1:=bx.soft' 1 rfl;(try simp only [Nat.add_zero] at rx1 sx1);have rx2:=bx.row' 2 rfl;have sx2:=bx.soft' 2 rfl;(try simp only [Nat.add_zero] at rx2 sx2);have BX:=zadv bx;clear bx
   go_wp2_with fail
   refine (zhc _ _ _).mono ?_;rintro _ W2 ⟨rfl,hb⟩;have bx:=BX.out.step hb;clear BX hb rx0 sx0 rx1 sx1 rx2 sx2;have rx0:=bx.row' 0 rfl;have sx0:=bx.soft' 0 rfl;(try simp only [Nat.add_zero] at rx0 sx0);have rx1:=bx.row' 1 rfl;have sx1:=bx.soft' 1 rfl;(try simp only [Nat.add_zero] at rx1 sx1);have rx2:=bx.row' 2 rfl;have sx2:=bx.soft' 2 rfl;(try simp only [Nat.add_zero] at rx2 sx2);have BX:=zadv bx;clear bx
   go_wp2_with fail
   have hlt0:=BX.out.lt 0 rfl
   simp only [Nat.add_zero] at hlt0
   (refine zap 8 (by kernel_rfl) (by kernel_rfl) ?_;simp only [List.take_succ_cons,List.take_zero,List.drop_succ_cons,List.drop_zero];(repeat (go_big_quiet_step (((go_at_call 231;exact Calls.ext_of (zdp H.out _))))));refine wpQuiet_nil ?_;rintro _ ⟨g,rfl⟩)
   have B:=zadv (BX.out.step g.below).below
   have hs:=HS.out
   go_wp2
   go_ret
   exact ⟨rfl,B.out⟩
  ·have E:zez t d n=0:=by unfold zez zub;rw [if_pos hr,Int.zero_mul,show wrap64 0=0 from IntWalk.wrap64_in _ (by decide),Int.add_zero];exact if_neg hs
   rw [E]
   clear E
   have HS:=zadv (show (zfc n d.g < wrap64 t.mar)=False from eq_false hs)
   clear hs
   go_enter Tryz.func230,Tryz.ntmps230
   go_upto_region 1 with (fail)
   have bx:=Bxs.new3 w (t.cells) 68 (d.cells) 60 (n.cells) 52;generalize (((w.alloc (.cells (t.cells) 68)).alloc (.cells (d.cells) 60)).alloc (.cells (n.cells) 52))=W at bx ⊢;have rx0:=bx.row' 0 rfl;have sx0:=bx.soft' 0 rfl;(try simp only [Nat.add_zero] at rx0 sx0);have rx1:=bx.row' 1 rfl;have sx1:=bx.soft' 1 rfl;(try simp only [Nat.add_zero] at rx1 sx1);have rx2:=bx.row' 2 rfl;have sx2:=bx.soft' 2 rfl;(try simp only [Nat.add_zero] at rx2 sx2);have BX:=zadv bx;clear bx
   go_wp2_with fail
   refine (zhc _ _ _).mono ?_;rintro _ W2 ⟨rfl,hb⟩;have bx:=BX.out.step hb;clear BX hb rx0 sx0 rx1 sx1 rx2 sx2;have rx0:=bx.row' 0 rfl;have sx0:=bx.soft' 0 rfl;(try simp only [Nat.add_zero] at rx0 sx0);have rx1:=bx.row' 1 rfl;have sx1:=bx.soft' 1 rfl;(try simp only [Nat.add_zero] at rx1 sx1);have rx2:=bx.row' 2 rfl;have sx2:=bx.soft' 2 rfl;(try simp only [Nat.add_zero] at rx2 sx2);have BX:=zadv bx;clear bx
   go_wp2_with fail
   have hlt0:=BX.out.lt 0 rfl
   simp only [Nat.add_zero] at hlt0
   (refine zap 8 (by kernel_rfl) (by kernel_rfl) ?_;simp only [List.take_succ_cons,List.take_zero,List.drop_succ_cons,List.drop_zero];(repeat (go_big_quiet_step (((go_at_call 231;exact Calls.ext_of (zdp H.out _))))));refine wpQuiet_nil ?_;rintro _ ⟨g,rfl⟩)
   have B:=zadv (BX.out.step g.below).below
   have hs:=HS.out
   go_wp2
   go_ret
   exact ⟨rfl,B.out⟩
 ·by_cases hs:zfc n d.g < wrap64 (t.mar + wrap64 (zfc n d.p * t.fast))
  ·have E:zez t d n=23:=by unfold zez zub;rw [if_neg hr];exact if_pos hs
   rw [E]
   clear E
   have hr2:(d.r == 1)=false:=by rw [beq_eq_false_iff_ne];exact hr
   clear hr
   have HS:=zadv (show (zfc n d.g < wrap64 (t.mar + wrap64 (zfc n d.p * t.fast)))=True from eq_true hs)
   clear hs
   go_enter Tryz.func230,Tryz.ntmps230
   go_upto_region 1 with (fail)
   have bx:=Bxs.new3 w (t.cells) 68 (d.cells) 60 (n.cells) 52;generalize (((w.alloc (.cells (t.cells) 68)).alloc (.cells (d.cells) 60)).alloc (.cells (n.cells) 52))=W at bx ⊢;have rx0:=bx.row' 0 rfl;have sx0:=bx.soft' 0 rfl;(try simp only [Nat.add_zero] at rx0 sx0);have rx1:=bx.row' 1 rfl;have sx1:=bx.soft' 1 rfl;(try simp only [Nat.add_zero] at rx1 sx1);have rx2:=bx.row' 2 rfl;have sx2:=bx.soft' 2 rfl;(try simp only [Nat.add_zero] at rx2 sx2);have BX:=zadv bx;clear bx
   go_wp2_with fail
   refine (zhc _ _ _).mono ?_;rintro _ W2 ⟨rfl,hb⟩;have bx:=BX.out.step hb;clear BX hb rx0 sx0 rx1 sx1 rx2 sx2;have rx0:=bx.row' 0 rfl;have sx0:=bx.soft' 0 rfl;(try simp only [Nat.add_zero] at rx0 sx0);have rx1:=bx.row' 1 rfl;have sx1:=bx.soft' 1 rfl;(try simp only [Nat.add_zero] at rx1 sx1);have rx2:=bx.row' 2 rfl;have sx2:=bx.soft' 2 rfl;(try simp only [Nat.add_zero] at rx2 sx2);have BX:=zadv bx;clear bx
   go_wp2_with fail
   have hlt0:=BX.out.lt 0 rfl
   simp only [Nat.add_zero] at hlt0
   (refine zap 8 (by kernel_rfl) (by kernel_rfl) ?_;simp only [List.take_succ_cons,List.take_zero,List.drop_succ_cons,List.drop_zero];(repeat (go_big_quiet_step (((go_at_call 231;exact Calls.ext_of (zdp H.out _))))));refine wpQuiet_nil ?_;rintro _ ⟨g,rfl⟩)
   have B:=zadv (BX.out.step g.below).below
   have hs:=HS.out
   go_wp2
   go_ret
   exact ⟨rfl,B.out⟩
  ·have E:zez t d n=0:=by unfold zez zub;rw [if_neg hr];exact if_neg hs
   rw [E]
   clear E
   have hr2:(d.r == 1)=false:=by rw [beq_eq_false_iff_ne];exact hr
   clear hr
   have HS:=zadv (show (zfc n d.g < wrap64 (t.mar + wrap64 (zfc n d.p * t.fast)))=False from eq_false hs)
   clear hs
   go_enter Tryz.func230,Tryz.ntmps230
   go_upto_region 1 with (fail)
   have bx:=Bxs.new3 w (t.cells) 68 (d.cells) 60 (n.cells) 52;generalize (((w.alloc (.cells (t.cells) 68)).alloc (.cells (d.cells) 60)).alloc (.cells (n.cells) 52))=W at bx ⊢;have rx0:=bx.row' 0 rfl;have sx0:=bx.soft' 0 rfl;(try simp only [Nat.add_zero] at rx0 sx0);have rx1:=bx.row' 1 rfl;have sx1:=bx.soft' 1 rfl;(try simp only [Nat.add_zero] at rx1 sx1);have rx2:=bx.row' 2 rfl;have sx2:=bx.soft' 2 rfl;(try simp only [Nat.add_zero] at rx2 sx2);have BX:=zadv bx;clear bx
   go_wp2_with fail
   refine (zhc _ _ _).mono ?_;rintro _ W2 ⟨rfl,hb⟩;have bx:=BX.out.step hb;clear BX hb rx0 sx0 rx1 sx1 rx2 sx2;have rx0:=bx.row' 0 rfl;have sx0:=bx.soft' 0 rfl;(try simp only [Nat.add_zero] at rx0 sx0);have rx1:=bx.row' 1 rfl;have sx1:=bx.soft' 1 rfl;(try simp only [Nat.add_zero] at rx1 sx1);have rx2:=bx.row' 2 rfl;have sx2:=bx.soft' 2 rfl;(try simp only [Nat.add_zero] at rx2 sx2);have BX:=zadv bx;clear bx
   go_wp2_with fail
   have hlt0:=BX.out.lt 0 rfl
   simp only [Nat.add_zero] at hlt0
   (refine zap 8 (by kernel_rfl) (by kernel_rfl) ?_;simp only [List.take_succ_cons,List.take_zero,List.drop_succ_cons,List.drop_zero];(repeat (go_big_quiet_step (((go_at_call 231;exact Calls.ext_of (zdp H.out _))))));refine wpQuiet_nil ?_;rintro _ ⟨g,rfl⟩)
   have B:=zadv (BX.out.step g.below).below
   have hs:=HS.out
   go_wp2
   go_ret
   exact ⟨rfl,B.out⟩
end
section
attribute [local go_sem ↓] zdg
def aits (l:List Int):List Value:=l.map fun (n:Int)=>Value.int .i64 n
theorem zes (l:List Int):(aits l).length=l.length:=by simp [aits]
theorem zuc (l:List Int) (j:Nat):(aits l)[j]?=(l[j]?).map fun (n:Int)=>Value.int .i64 n:=by unfold aits;rw [List.getElem?_map]
def aisA (a:Int):Prop:=0 ≤ a∧a ≤ 1125899906842624
instance (a:Int):Decidable (aisA a):=inferInstanceAs (Decidable (_∧_))
def zbt (l:List Int):Bool:=l.all fun a=>decide (aisA a)
theorem zl1 {l:List Int} {j:Nat} {x:Int} (h:l[j]?=some x):zbt (l.take (j + 1))=(zbt (l.take j) && decide (aisA x)):=by
 unfold zbt;rw [List.take_add_one,h];simp [List.all_append]
theorem zxt {l:List Int} {j:Nat} {x:Int} (h:l[j]?=some x) (hx:¬ aisA x):zbt l=false:=by
 unfold zbt;rw [List.all_eq_false];exact ⟨x,List.mem_of_getElem? h,by simpa using hx⟩
def aRetM (l:List Int) (w:World):Ending→World→Prop:=fun e w'=>(e=if zbt l then .returned (.tuple #[]) else .panicked [{ v:=.iface 38 (.int .i64 15),recovered:=false }])∧∃ g:Ext w,w'=g.val
theorem zl2 {a:Int} (h:aisA a) (w:World):Calls Tryz.prog 380 #[.int .i64 a] w (Ret (.int .i64 0) w):=by
 have h1:¬ a < 0:=by have:=h.1;omega
 have h2:¬ a > 1125899906842624:=by have:=h.2;omega
 go_enter Tryz.func380,Tryz.ntmps380
 go_wp2
 go_ret
 (refine Ret.mk ?_;(repeat' (first | (with_reducible exact Below.refl _ _) | (with_reducible assumption) | (with_reducible refine Ext.up _ ?_) | (with_reducible refine Below.alloc ?_ ?_ _) | (with_reducible refine Below.drew ?_) | (with_reducible refine Below.setCell ?_ ?_ _) | (with_reducible refine Below.setRow_ ?_ ?_ _) | go_size)))
theorem zxu {a:Int} (h:¬ aisA a) (w:World):Calls Tryz.prog 380 #[.int .i64 a] w (Ret (.int .i64 15) w):=by
 by_cases h1:a < 0
 ·go_enter Tryz.func380,Tryz.ntmps380
  go_wp2
  go_ret
  (refine Ret.mk ?_;(repeat' (first | (with_reducible exact Below.refl _ _) | (with_reducible assumption) | (with_reducible refine Ext.up _ ?_) | (with_reducible refine Below.alloc ?_ ?_ _) | (with_reducible refine Below.drew ?_) | (with_reducible refine Below.setCell ?_ ?_ _) | (with_reducible refine Below.setRow_ ?_ ?_ _) | go_size)))
 ·have h2:a > 1125899906842624:=by apply Classical.byContradiction;intro hc;exact h ⟨by omega,by omega⟩
  go_enter Tryz.func380,Tryz.ntmps380
  go_wp2
  go_ret
  (refine Ret.mk ?_;(repeat' (first | (with_reducible exact Below.refl _ _) | (with_reducible assumption) | (with_reducible refine Ext.up _ ?_) | (with_reducible refine Below.alloc ?_ ?_ _) | (with_reducible refine Below.drew ?_) | (with_reducible refine Below.setCell ?_ ?_ _) | (with_reducible refine Below.setRow_ ?_ ?_ _) | go_size)))
set_option maxHeartbeats 1000000 in
theorem zl3 {w:World} {ao:Option Addr} {n c:Nat} {l:List Int} (hl:Sl w ao n c (aits l)) (hn:n < 1099511627776):Calls Tryz.prog 385 #[.slice ao n c] w (aRetM l w):=by
 have hln:l.length=n:=by rw [← hl.len,zes]
 go_enter Tryz.func385,Tryz.ntmps385
 go_wp2
 go_loopw [6] (fun i wr=>∃ j:Nat,j ≤ n∧i=.int .i64 j∧zbt (l.take j)=true∧Below w.heap.size w wr) (fun i _=>n - (intOf i).toNat)
 case atStart=>exact ⟨0,by omega,rfl,rfl,by (repeat' (first | (with_reducible exact Below.refl _ _) | (with_reducible assumption) | (with_reducible refine Ext.up _ ?_) | (with_reducible refine Below.alloc ?_ ?_ _) | (with_reducible refine Below.drew ?_) | (with_reducible refine Below.setCell ?_ ?_ _) | (with_reducible refine Below.setRow_ ?_ ?_ _) | go_size))⟩
 case round=>
  obtain ⟨j,hj,rfl,hall,hb⟩:=hrel
  by_cases hlt:j < n
  ·obtain ⟨b,o,rfl,hbw,hc⟩:=hl.at (by omega)
   obtain ⟨x,hjx⟩:∃ x,l[j]?=some x:=⟨_,zady (by omega)⟩
   have hx:=hc j _ (by rw [zuc,hjx];rfl)
   rw [← hb.cell (by exact hbw)] at hx
   have ht:=zl1 hjx
   by_cases hxa:aisA x
   ·go_wp2_with (go_at_call 380;refine (zl2 hxa _).mono ?_;rintro _ _ ⟨rfl,g,rfl⟩)
    go_roundw
    case rel=>exact ⟨j + 1,by omega,rfl,by rw [ht,hall];simpa using hxa,by (repeat' (first | (with_reducible exact Below.refl _ _) | (with_reducible assumption) | (with_reducible refine Ext.up _ ?_) | (with_reducible refine Below.alloc ?_ ?_ _) | (with_reducible refine Below.drew ?_) | (with_reducible refine Below.setCell ?_ ?_ _) | (with_reducible refine Below.setRow_ ?_ ?_ _) | go_size))⟩
    case measure=>simp [intOf];omega
   ·have hno:=zxt hjx hxa
    go_wp2_with (go_at_call 380;refine (zxu hxa _).mono ?_;rintro _ _ ⟨rfl,g,rfl⟩)
    refine ⟨rfl,?_⟩
    exact ⟨by rw [hno];rfl,⟨g.val,by (repeat' (first | (with_reducible exact Below.refl _ _) | (with_reducible assumption) | (with_reducible refine Ext.up _ ?_) | (with_reducible refine Below.alloc ?_ ?_ _) | (with_reducible refine Below.drew ?_) | (with_reducible refine Below.setCell ?_ ?_ _) | (with_reducible refine Below.setRow_ ?_ ?_ _) | go_size))⟩,rfl⟩
  ·go_wp2
   obtain rfl:j=n:=by omega
   rw [← hln,List.take_length] at hall
   go_end0
   exact ⟨by rw [hall];rfl,⟨_,hb⟩,rfl⟩
theorem zgd (p q:Addr) (x y:Value) (u:TypeId) (pv:Value) (older:List PanicEntry) (w:World) (hc:w.cell? p=some x) (hz:w.frozen? p=false) (hc2:w.cell? q=some y) (hz2:w.frozen? q=false) (hpq:¬ p=q):
  CallsD Tryz.prog 384 #[.pointer (some p),.pointer (some q)] (.panicking ({ v:=.iface u pv,recovered:=false } :: older)) w fun e u' w'=>
   e=.returned (.tuple #[])∧u'=.panicking ({ v:=.iface u pv,recovered:=true } :: older)∧w'=(w.setCell p (.int .i64 0)).setCell q (.int .i64 15):=by
 refine callsD_of_wpS Tryz.func384 rfl fun c₀ cs hu=>?_
 apply wpS_seq
 apply wpS_region
 simp [wpOpsS,go_sem,recoverD,hu,Tryz.ntmps384,Exit.thenS]
 apply wpS_seq
 apply wpS_region
 simp [wpOpsS,go_sem,Exit.thenS]
 refine wpS_cond (t:=true) (by simp [Act.eval,Array.replicate]) ?_
 simp only [if_true]
 apply wpS_region
 have hc3:(w.setCell p (.int .i64 0)).cell? q=some y:=by rw [World.cell?_setCell_other _ _ _ _ hpq];exact hc2
 simp [wpOpsS,go_sem,hc,hz,hc3,hz2,bodyPostS,results,Tryz.results384]
theorem zgq (p q:Addr) (w:World):
  CallsD Tryz.prog 384 #[.pointer (some p),.pointer (some q)] .returning w fun e u' w'=>e=.returned (.tuple #[])∧u'=.returning∧w'=w:=by
 refine callsD_of_wpS Tryz.func384 rfl fun c₀ cs hu=>?_
 apply wpS_seq
 apply wpS_region
 simp [wpOpsS,go_sem,recoverD,hu,Tryz.ntmps384,Exit.thenS]
 apply wpS_seq
 apply wpS_region
 simp [wpOpsS,go_sem,Exit.thenS]
 refine wpS_cond (t:=false) (by simp [Act.eval,Array.replicate]) ?_
 simp only [Bool.false_eq_true,if_false]
 refine wpS_of_wp (wp_skip ?_)
 cases c₀
 simp_all [bodyPostS,results,Tryz.results384]
def zif (a b:Int):Int × Int:=if aisA a∧aisA b∧aisA (a + b) then (a + b,0) else (0,15)
def zef (p:Int × Int):Value:=.tuple #[.int .i64 p.1,.int .i64 p.2]
theorem zbp (w:World) (l:List Int) (t:TypeId) (h:l.length ≤ maxLen) {cs:Array Value} (hcs:cs=(aits l).toArray) {k n:Nat} (hk:k=w.heap.size) (hn:n=l.length):Sl (w.alloc (.cells cs t)) (some ⟨k,0,none⟩) n n (aits l):=by
 subst hk hcs hn
 have:=Sl.own (zju w 0 t (aits l).toArray (Nat.zero_le _) (by simpa [zes] using h))
 simpa [zes] using this
theorem zfs {w:World} {ao:Option Addr} {n c:Nat} {l:List Int} (hl:Sl w ao n c (aits l)) (hn:n < 1099511627776) (h:zbt l=true):Calls Tryz.prog 385 #[.slice ao n c] w (Ret (.tuple #[]) w):=
 (zl3 hl hn).mono fun e w' ⟨he,g,hg⟩=>by rw [h] at he;exact ⟨he,g,hg⟩
theorem zft {w:World} {ao:Option Addr} {n c:Nat} {l:List Int} (hl:Sl w ao n c (aits l)) (hn:n < 1099511627776) (h:zbt l=false):Calls Tryz.prog 385 #[.slice ao n c] w (fun e w'=>e=.panicked [{ v:=.iface 38 (.int .i64 15),recovered:=false }]∧∃ g:Ext w,w'=g.val):=
 (zl3 hl hn).mono fun e w' ⟨he,g,hg⟩=>by rw [h] at he;exact ⟨he,g,hg⟩
structure aTwo (w W:World) (x y:Value):Prop where
 c0:W.cell? ⟨w.heap.size,0,none⟩=some x
 f0:W.frozen? ⟨w.heap.size,0,none⟩=false
 c1:W.cell? ⟨w.heap.size + 1,0,none⟩=some y
 f1:W.frozen? ⟨w.heap.size + 1,0,none⟩=false
 below:Below w.heap.size w W
 size:w.heap.size + 1 < W.heap.size
theorem aTwo.mk2 (w:World) (x y:Value) (t u:TypeId):aTwo w ((w.alloc (.cells #[x] t)).alloc (.cells #[y] u)) x y where
 c0:=by simp [go_sem]
 f0:=by simp [go_sem]
 c1:=by
  have:=World.cell?_alloc_new (w.alloc (.cells #[x] t)) #[y] u
  simp [go_sem]
 f1:=by simp [go_sem]
 below:=((Below.refl _ _).alloc (zadw _) _).alloc (by simp) _
 size:=by simp
theorem aTwo.ext {w W:World} {x y:Value} (h:aTwo w W x y) (g:Ext W):aTwo w g.val x y where
 c0:=(g.cell _ _ (by have:=h.size;omega)).trans h.c0
 f0:=(g.frozen _ _ (by have:=h.size;omega)).trans h.f0
 c1:=(g.cell _ _ h.size).trans h.c1
 f1:=(g.frozen _ _ h.size).trans h.f1
 below:=g.up h.below
 size:=Nat.lt_of_lt_of_le h.size g.size
theorem aTwo.alloc {w W:World} {x y:Value} (h:aTwo w W x y) (o:Obj):aTwo w (W.alloc o) x y:=h.ext (Ext.of ((Below.refl _ _).alloc (zadw _) o))
theorem aTwo.set0 {w W:World} {x y:Value} (h:aTwo w W x y) (v:Value):aTwo w (W.setCell ⟨w.heap.size,0,none⟩ v) v y where
 c0:=by simp [go_sem,h.c0]
 f0:=by rw [World.frozen?_setCell];exact h.f0
 c1:=by rw [World.cell?_setCell_other _ _ _ _ (by simp)];exact h.c1
 f1:=by rw [World.frozen?_setCell];exact h.f1
 below:=h.below.setCell (zadw _) _
 size:=by simpa [World.setCell] using h.size
theorem aTwo.set1 {w W:World} {x y:Value} (h:aTwo w W x y) (v:Value):aTwo w (W.setCell ⟨w.heap.size + 1,0,none⟩ v) x v where
 c0:=by rw [World.cell?_setCell_other _ _ _ _ (by simp)];exact h.c0
 f0:=by rw [World.frozen?_setCell];exact h.f0
 c1:=by simp [go_sem,h.c1]
 f1:=by rw [World.frozen?_setCell];exact h.f1
 below:=h.below.setCell (by simp) _
 size:=by simpa [World.setCell] using h.size
theorem aTwo.caught {w W:World} {x y:Value} (h:aTwo w W x y) (u:TypeId) (pv:Value):CallsD Tryz.prog 384 #[.pointer (some ⟨w.heap.size,0,none⟩),.pointer (some ⟨w.heap.size + 1,0,none⟩)] (.panicking [{ v:=.iface u pv,recovered:=false }]) W fun e u' w'=>
  e=.returned (.tuple #[])∧u'=.panicking [{ v:=.iface u pv,recovered:=true }]∧aTwo w w' (.int .i64 0) (.int .i64 15):=
 (zgd _ _ x y u pv [] W h.c0 h.f0 h.c1 h.f1 (by simp)).mono fun e u' w' ⟨he,hu,hw⟩=>⟨he,hu,by rw [hw];exact (h.set0 _).set1 _⟩
theorem zud (a b:Int) (w:World):Calls Tryz.prog 361 #[.int .i64 a,.int .i64 b] w (Ret (zef (zif a b)) w):=by
 have T0:=aTwo.mk2 w (.int .i64 0) (.int .i64 0) 3 38
 by_cases h1:aisA a∧aisA b
 ·obtain ⟨ha,hb⟩:=h1
  have hall:zbt [a,b]=true:=by simp [zbt,ha,hb]
  have e1:IntKind.i64.wrap (a + b)=a + b:=by rw [IntKind.wrap_i64];have:=ha.1;have:=ha.2;have:=hb.1;have:=hb.2;omega
  by_cases h2:aisA (a + b)
  ·have hall2:zbt [a + b]=true:=by simp [zbt,h2]
   have hv:zif a b=(a + b,0):=if_pos ⟨ha,hb,h2⟩
   rw [hv]
   go_enter_defers Tryz.func361,Tryz.ntmps361
   go_wp2_with fail
   refine (zfs (zbp _ [a,b] _ (by simp [maxLen]) rfl (by simp) rfl) (by simp) hall).mono ?_
   rintro _ _ ⟨rfl,g,rfl⟩
   have T1:=(T0.alloc (.cells (aits [a,b]).toArray 3)).ext g
   go_wp2_with fail
   refine (zfs (zbp _ [a + b] _ (by simp [maxLen]) rfl rfl rfl) (by simp) hall2).mono ?_
   rintro _ _ ⟨rfl,g2,rfl⟩
   have T2:=(T1.alloc (.cells (aits [a + b]).toArray 3)).ext g2
   have c0:=T2.c0
   have f0:=T2.f0
   have c1:=(T2.set0 (.int .i64 (a + b))).c1
   have f1:=T2.f1
   go_wp2_with fail
   have T3:=(T2.set0 (.int .i64 (a + b))).set1 (.int .i64 0)
   clear c0 c1
   refine leaves_cons (f:=384) (args:=#[.pointer (some ⟨w.heap.size,0,none⟩),.pointer (some ⟨w.heap.size + 1,0,none⟩)]) (by simp) (by simp [go_sem]) ?_
   refine (zgq _ _ _).mono ?_
   rintro e u' w'' ⟨rfl,rfl,rfl⟩
   have c0:=T3.c0
   have c1:=T3.c1
   simp [Leaves,settle,results,Tryz.results361,go_sem,c0,c1]
   exact Ret.mk T3.below
  ·have hall2:zbt [a + b]=false:=by simp [zbt,h2]
   have hv:zif a b=(0,15):=if_neg (fun h=>h2 h.2.2)
   rw [hv]
   go_enter_defers Tryz.func361,Tryz.ntmps361
   go_wp2_with fail
   refine (zfs (zbp _ [a,b] _ (by simp [maxLen]) rfl (by simp) rfl) (by simp) hall).mono ?_
   rintro _ _ ⟨rfl,g,rfl⟩
   have T1:=(T0.alloc (.cells (aits [a,b]).toArray 3)).ext g
   go_wp2_with fail
   refine (zft (zbp _ [a + b] _ (by simp [maxLen]) rfl rfl rfl) (by simp) hall2).mono ?_
   rintro _ _ ⟨rfl,g2,rfl⟩
   have T2:=(T1.alloc (.cells (aits [a + b]).toArray 3)).ext g2
   simp only []
   refine leaves_cons (f:=384) (args:=#[.pointer (some ⟨w.heap.size,0,none⟩),.pointer (some ⟨w.heap.size + 1,0,none⟩)]) (by simp) (by simp [go_sem]) ?_
   refine (T2.caught _ _).mono ?_
   rintro e u' w'' ⟨rfl,rfl,TE⟩
   have c0:=TE.c0
   have c1:=TE.c1
   simp [Leaves,settle,results,Tryz.results361,go_sem,c0,c1]
   exact Ret.mk TE.below
 ·have hall:zbt [a,b]=false:=by
   cases h:zbt [a,b] with
   | false=>rfl
   | true=>simp [zbt] at h;exact absurd h h1
  have hv:zif a b=(0,15):=if_neg (fun h=>h1 ⟨h.1,h.2.1⟩)
  rw [hv]
  go_enter_defers Tryz.func361,Tryz.ntmps361
  go_wp2_with fail
  refine (zft (zbp _ [a,b] _ (by simp [maxLen]) rfl (by simp) rfl) (by simp) hall).mono ?_
  rintro _ _ ⟨rfl,g,rfl⟩
  have T1:=(T0.alloc (.cells (aits [a,b]).toArray 3)).ext g
  simp only []
  refine leaves_cons (f:=384) (args:=#[.pointer (some ⟨w.heap.size,0,none⟩),.pointer (some ⟨w.heap.size + 1,0,none⟩)]) (by simp) (by simp [go_sem]) ?_
  refine (T1.caught _ _).mono ?_
  rintro e u' w'' ⟨rfl,rfl,TE⟩
  have c0:=TE.c0
  have c1:=TE.c1
  simp [Leaves,settle,results,Tryz.results361,go_sem,c0,c1]
  exact Ret.mk TE.below
end
section
section
variable {P:Program}
def zns (P:Program) (g:FuncId):Bool:=match P.funcs[g]? with
 | some fn => fn.name == "math/bits.Add64" && fn.body.isNone && (Extern.allNextRows.lookup fn.origin).isNone
 | none=>false
def zue:Array Value→Sem Value:=fun args=>do
 let (x, y, c) ← Extern.MathBitsCarry.three "Add64" args
 pure (Extern.MathBitsCarry.pair ((x + y + c) % Extern.MathBitsCarry.m64) ((x + y + c) / Extern.MathBitsCarry.m64))
theorem zuf : Extern.MathBitsCarry.rows.lookup "math/bits.Add64" = some zue := rfl
theorem zge : Extern.allNextRows.lookup "math/bits.Add64" = none ∧ Extern.allTypedRows.lookup "math/bits.Add64" = none ∧ Extern.allGenericRows.lookup "math/bits.Add64" = none := ⟨by kernel_rfl, by kernel_rfl, by kernel_rfl⟩
theorem zrj : Extern.allRows.lookup "math/bits.Add64" = Extern.MathBitsCarry.rows.lookup "math/bits.Add64" := by kernel_rfl
theorem zrk (k k' k2:IntKind) (x y:Int) (w:World):
  (zue #[.int k x,.int k' y,.int k2 0]).run P w=.ok (.tuple #[.int .u64 ((x.toNat + y.toNat) % 18446744073709551616:Nat),.int .u64 ((x.toNat + y.toNat) / 18446744073709551616:Nat)]) w:=rfl
theorem zug {g:FuncId} (h:zns P g=true) (k k' k2:IntKind) (x y:Int) (w:World):
  (callFunc g #[.int k x,.int k' y,.int k2 0]).run P w=.ok (.value (.tuple #[.int .u64 ((x.toNat + y.toNat) % 18446744073709551616:Nat),.int .u64 ((x.toNat + y.toNat) / 18446744073709551616:Nat)])) w:=by
 unfold zns at h
 split at h
 ·rename_i fn hf
  simp only [Bool.and_eq_true,beq_iff_eq,Option.isNone_iff_eq_none] at h
  obtain ⟨⟨h1,h2⟩,h3⟩:=h
  have hn:Extern.findNext fn=none:=by
   unfold Extern.findNext
   simp only [h1,zge.1,h3,Option.map_none]
   rfl
  have he:=zuf
  rw [← zrj] at he
  have hs:Extern.find fn=some zue:=by
   unfold Extern.find
   simp only [h1,zge.2.1,zge.2.2,he,Option.map_none]
   rfl
  rw [run_callFunc_extern hf (by rw [h1];decide) (by rw [h2];rfl) hn hs]
  rw [zrk]
  rfl
 ·cases h
end
theorem is39:zns Tryz.prog 382=true:=by kernel_rfl
theorem add39 (x y:Int) (w:World):(callFunc 382 #[.int .u64 x,.int .u64 y,.int .u64 0]).run Tryz.prog w=.ok (.value (.tuple #[.int .u64 ((x.toNat + y.toNat) % 18446744073709551616:Nat),.int .u64 ((x.toNat + y.toNat) / 18446744073709551616:Nat)])) w:=zug is39 .u64 .u64 .u64 x y w
theorem znt {x y:Nat} (hx:x < 4294967296) (hy:y < 4294967296) (w:World):Calls Tryz.prog 381 #[.int .u64 x,.int .u64 y] w fun e w'=>e=.returned (.tuple #[.int .u64 0,.int .u64 (x * y:Nat)])∧w'=w:=by
 have b1:bits .and .u64 (x:Int) 4294967295=x:=by
  have:=u64_and_nat x 4294967295 (by omega) (by decide)
  rw [show ((4294967295:Nat):Int)=4294967295 from rfl] at this
  rw [this,show (4294967295:Nat)=2 ^ 32 - 1 from rfl,Nat.and_two_pow_sub_one_eq_mod,Nat.mod_eq_of_lt (by simpa using hx)]
 have b2:bits .and .u64 (y:Int) 4294967295=y:=by
  have:=u64_and_nat y 4294967295 (by omega) (by decide)
  rw [show ((4294967295:Nat):Int)=4294967295 from rfl] at this
  rw [this,show (4294967295:Nat)=2 ^ 32 - 1 from rfl,Nat.and_two_pow_sub_one_eq_mod,Nat.mod_eq_of_lt (by simpa using hy)]
 have d1:(x:Int) / 4294967296=0:=by omega
 have d2:(y:Int) / 4294967296=0:=by omega
 have hq:x * y < 18446744073709551616:=Nat.lt_of_le_of_lt (Nat.mul_le_mul (Nat.le_of_lt_succ hx) (Nat.le_of_lt_succ hy)) (by decide)
 obtain ⟨q,hqq⟩:∃ q,q=x * y:=⟨_,rfl⟩
 rw [← hqq] at hq ⊢
 have e1:IntKind.u64.wrap ((x:Int) * y)=(q:Int):=by rw [IntKind.wrap_u64,hqq,Int.natCast_mul];rw [hqq,] at hq;exact Int.emod_eq_of_lt (by rw [← Int.natCast_mul];omega) (by rw [← Int.natCast_mul];omega)
 obtain ⟨r,hr⟩:∃ r,r=q / 4294967296:=⟨_,rfl⟩
 have hr2:r < 4294967296:=by omega
 have e2:IntKind.u64.wrap ((q:Int) / 4294967296)=(r:Int):=by rw [IntKind.wrap_u64];omega
 have e3:bits .and .u64 (r:Int) 4294967295=r:=by
  have:=u64_and_nat r 4294967295 (by omega) (by decide)
  rw [show ((4294967295:Nat):Int)=4294967295 from rfl] at this
  rw [this,show (4294967295:Nat)=2 ^ 32 - 1 from rfl,Nat.and_two_pow_sub_one_eq_mod,Nat.mod_eq_of_lt (by simpa using hr2)]
 have e4:(r:Int) / 4294967296=0:=by omega
 have e5:IntKind.u64.wrap (r:Int)=r:=by rw [IntKind.wrap_u64];omega
 clear hr hqq
 go_enter Tryz.func381,Tryz.ntmps381
 go_wp2
 refine bodyPost_ret (results_tmp2 rfl _ _ _) rfl ?_
 exact ⟨rfl,rfl⟩
theorem znu {l d:Nat} (hl:l < 18446744073709551616) (hd:0 < d) (hd2:d < 9223372036854775808) (w:World):Calls Tryz.prog 383 #[.int .u64 0,.int .u64 l,.int .u64 d] w fun e w'=>e=.returned (.tuple #[.int .u64 (l / d:Nat),.int .u64 (l % d:Nat)])∧Below w.heap.size w w':=by
 have h1:((d:Int) == 0)=false:=by rw [beq_eq_false_iff_ne];omega
 have h2:¬ (d:Int) ≤ 0:=by omega
 have h3:¬ (d:Int)=0:=by omega
 have q1:IntKind.u64.wrap ((l:Int) / d)=((l / d:Nat):Int):=by
  have hk:=Nat.div_le_self l d
  rw [← Int.natCast_ediv]
  generalize l / d=k at hk ⊢
  rw [IntKind.wrap_u64]
  omega
 have q2:(l:Int) % d=((l % d:Nat):Int):=(Int.natCast_emod l d).symm
 go_enter Tryz.func383,Tryz.ntmps383
 go_wp2_with fail
 go_region
 have hb:=(Below.refl w.heap.size w).drew
 go_wp2
 refine bodyPost_ret (results_tmp2 rfl _ _ _) rfl ?_
 exact ⟨rfl,hb⟩
def zi7 (a ppm:Nat):Nat:=(a * ppm + 999999) / 1000000
theorem zrl {a ppm:Nat} (ha:a < 4294967296) (hp:ppm ≤ 1000000) (w:World):Calls Tryz.prog 359 #[.int .i64 a,.int .i64 ppm] w fun e w'=>e=.returned (.tuple #[.int .i64 (zi7 a ppm:Nat),.int .i64 0])∧Below w.heap.size w w':=by
 have hA:=zadv (zl2 (a:=(a:Int)) ⟨by omega,by omega⟩)
 have hM:=zadv (fun w=>znt (x:=a) (y:=ppm) (by omega) (by omega) w)
 have h1:¬ (ppm:Int) < 0:=by omega
 have h2:¬ (ppm:Int) > 1000000:=by omega
 have u1:IntKind.u64.wrap (a:Int)=a:=by rw [IntKind.wrap_u64];omega
 have u2:IntKind.u64.wrap (ppm:Int)=ppm:=by rw [IntKind.wrap_u64];omega
 have hq:a * ppm ≤ 4294967295 * 1000000:=Nat.mul_le_mul (by omega) hp
 obtain ⟨q,hqq⟩:∃ q,q=a * ppm:=⟨_,rfl⟩
 have hD:=zadv (fun w=>znu (l:=q + 999999) (d:=1000000) (by omega) (by decide) (by decide) w)
 have m1:(((q:Int).toNat + (999999:Int).toNat) % 18446744073709551616:Nat)=q + 999999:=by show (q + 999999) % 18446744073709551616=_;omega
 have m2:(((q:Int).toNat + (999999:Int).toNat) / 18446744073709551616:Nat)=0:=by show (q + 999999) / 18446744073709551616=_;omega
 have A:=zadv (show ∀ w,(callFunc 382 #[.int .u64 (q:Int),.int .u64 999999,.int .u64 0]).run Tryz.prog w=.ok (.value (.tuple #[.int .u64 ((q + 999999:Nat):Int),.int .u64 0])) w from fun w=>by rw [add39 (q:Int) 999999 w,m1,m2];rfl)
 have z0:IntKind.u64.wrap (0:Int)=0:=by rw [IntKind.wrap_u64];rfl
 have EV:zi7 a ppm=(q + 999999) / 1000000:=by unfold zi7;rw [hqq]
 rw [EV]
 rw [← hqq] at hM
 have i1:IntKind.i64.wrap (((q + 999999) / 1000000:Nat):Int)=((q + 999999) / 1000000:Nat):=by rw [IntKind.wrap_i64];omega
 have HQ:=zadv (show q < 9000000000000000 by omega)
 clear hq hqq m1 m2 EV
 go_enter Tryz.func359,Tryz.ntmps359
 go_wp2_with fail
 refine (hA.out w).mono ?_
 rintro _ _ ⟨rfl,g,rfl⟩
 go_wp2_with fail
 refine (hM.out _).mono ?_
 rintro _ _ ⟨rfl,rfl⟩
 have A1:=A.out g.val
 go_wp2_with fail
 refine (hD.out _).mono ?_
 rintro _ w3 ⟨rfl,hb3⟩
 have B3:=zadv (g.below.trans (hb3.mono g.below.size))
 clear hb3
 go_wp2
 refine bodyPost_ret (results_tmp2 rfl _ _ _) rfl ?_
 refine ⟨?_,B3.out⟩
 show Ending.returned (.tuple #[.int .i64 (wrap64 (((q:Int) + 999999) / 1000000)),.int .i64 0])=_
 have:=HQ.out
 rw [IntWalk.wrap64_in _ (by omega)]
 rfl
end
end Go.Proofs.YthjgiamfaijoeaaGreatDoor
