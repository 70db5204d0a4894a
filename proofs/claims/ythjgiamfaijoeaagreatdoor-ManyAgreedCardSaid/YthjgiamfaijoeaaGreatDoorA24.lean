/- What is proved: parts of the walk and of the plain law. No condition but those each law names. -/
import Derived.Test.YthjgiamfaijoeaaGreatDoorA23
import Derived.Test.YthjgiamfaijoeaaGreatDoorA00
set_option linter.unusedSimpArgs false
set_option linter.unusedVariables false
namespace Go.Proofs.YthjgiamfaijoeaaGreatDoor
open Go.RowKit
set_option maxRecDepth 100000
attribute [local go_sem ↓] zad
attribute [local go_sem] zaf zai zaj zal Ext.row Ext.soft_
structure Bxs (w:World) (L:List (Array Value × TypeId)) (W:World):Prop where
 below:Below w.heap.size w W
 rows:∀ (j:Nat) C t,L[j]?=some (C,t)→W.heap[w.heap.size + j]?=some (.cells C t)
theorem Bxs.step {w W W':World} {L:List (Array Value × TypeId)} (h:Bxs w L W) (hb:Below W.heap.size W W'):Bxs w L W':=
 ⟨h.below.trans (hb.mono h.below.size),fun j C t hj=>by
  have:=h.rows j C t hj
  exact (hb.block _ (zac7 this).1).trans this⟩
theorem Bxs.row' {w W:World} {L:List (Array Value × TypeId)} (h:Bxs w L W) (j:Nat) {C:Array Value} {t:TypeId} (hj:L[j]?=some (C,t)):rowOf W (w.heap.size + j)=C:=zaa (h.rows j C t hj)
theorem Bxs.soft' {w W:World} {L:List (Array Value × TypeId)} (h:Bxs w L W) (j:Nat) {C:Array Value} {t:TypeId} (hj:L[j]?=some (C,t)):soft W (w.heap.size + j)=true:=zan (h.rows j C t hj)
theorem Bxs.lt {w W:World} {L:List (Array Value × TypeId)} (h:Bxs w L W) (j:Nat) {C:Array Value} {t:TypeId} (hj:L[j]?=some (C,t)):w.heap.size + j < W.heap.size:=(zac7 (h.rows j C t hj)).1
theorem Bxs.nil (w:World):Bxs w [] w:=⟨Below.refl _ _,fun j C t h=>by simp at h⟩
theorem Bxs.snoc {w W:World} {L:List (Array Value × TypeId)} (h:Bxs w L W) (hz:W.heap.size=w.heap.size + L.length) (C:Array Value) (t:TypeId):Bxs w (L ++ [(C,t)]) (W.alloc (.cells C t))∧(W.alloc (.cells C t)).heap.size=w.heap.size + (L ++ [(C,t)]).length:=by
 refine ⟨⟨h.below.alloc (by omega) _,fun j D u hj=>?_⟩,by simp;omega⟩
 by_cases e:j < L.length
 ·rw [List.getElem?_append_left e] at hj
  have:=h.rows j D u hj
  rw [Below.heap_alloc _ _ _ (zac7 this).1]
  exact this
 ·have hj2:j=L.length:=by
   have:=(List.getElem?_eq_some_iff.1 hj).1
   simp at this
   omega
  subst hj2
  rw [List.getElem?_append_right (zac9 _),Nat.sub_self] at hj
  simp only [List.getElem?_cons_zero,Option.some.injEq,Prod.mk.injEq] at hj
  obtain ⟨rfl,rfl⟩:=hj
  rw [← hz]
  exact heap_alloc_new W _
section
variable (w:World) (C1:Array Value) (t1:TypeId) (C2:Array Value) (t2:TypeId) (C3:Array Value) (t3:TypeId) (C4:Array Value) (t4:TypeId)
theorem Bxs.new2:Bxs w [(C1,t1),(C2,t2)] ((w.alloc (.cells C1 t1)).alloc (.cells C2 t2)):=by
 obtain ⟨h1,z1⟩:=(Bxs.nil w).snoc rfl C1 t1
 exact (h1.snoc z1 C2 t2).1
theorem Bxs.new3:Bxs w [(C1,t1),(C2,t2),(C3,t3)] (((w.alloc (.cells C1 t1)).alloc (.cells C2 t2)).alloc (.cells C3 t3)):=by
 obtain ⟨h1,z1⟩:=(Bxs.nil w).snoc rfl C1 t1
 obtain ⟨h2,z2⟩:=h1.snoc z1 C2 t2
 exact (h2.snoc z2 C3 t3).1
theorem Bxs.new4:Bxs w [(C1,t1),(C2,t2),(C3,t3),(C4,t4)] ((((w.alloc (.cells C1 t1)).alloc (.cells C2 t2)).alloc (.cells C3 t3)).alloc (.cells C4 t4)):=by
 obtain ⟨h1,z1⟩:=(Bxs.nil w).snoc rfl C1 t1
 obtain ⟨h2,z2⟩:=h1.snoc z1 C2 t2
 obtain ⟨h3,z3⟩:=h2.snoc z2 C3 t3
 exact (h3.snoc z3 C4 t4).1
end
structure Tm where
 base:Int
 ppm:Int
 reserve:Int
 least:Int
 most:Int
 depth:Int
 delay:Int
 lag:Int
 fast:Int
def Tm.cells (t:Tm):Array Value:=#[.int .i64 t.base,.int .i64 t.ppm,.int .i64 t.reserve,.int .i64 t.least,.int .i64 t.most,.int .i64 t.depth,.int .i64 t.delay,.int .i64 t.lag,.int .i64 t.fast]
structure Cl where
 a:Int
 b:Int
 c:Int
def Cl.cells (t:Cl):Array Value:=#[.int .i64 t.a,.int .i64 t.b,.int .i64 t.c]
section
variable (t:Tm) (n:Cl)
theorem ztr:t.cells.size=9:=rfl
theorem tm_one:ones t.cells=true:=by kernel_rfl
theorem zwz:sub t.cells 0 9=t.cells:=by kernel_rfl
theorem tm_0:t.cells[0]?=some (.int .i64 t.base):=rfl
theorem tm_1:t.cells[1]?=some (.int .i64 t.ppm):=rfl
theorem tm_2:t.cells[2]?=some (.int .i64 t.reserve):=rfl
theorem tm_3:t.cells[3]?=some (.int .i64 t.least):=rfl
theorem tm_4:t.cells[4]?=some (.int .i64 t.most):=rfl
theorem tm_5:t.cells[5]?=some (.int .i64 t.depth):=rfl
theorem tm_6:t.cells[6]?=some (.int .i64 t.delay):=rfl
theorem tm_7:t.cells[7]?=some (.int .i64 t.lag):=rfl
theorem tm_8:t.cells[8]?=some (.int .i64 t.fast):=rfl
theorem tm_0g (q:0 < t.cells.size):t.cells[0]'q=.int .i64 t.base:=rfl
theorem tm_1g (q:1 < t.cells.size):t.cells[1]'q=.int .i64 t.ppm:=rfl
theorem tm_2g (q:2 < t.cells.size):t.cells[2]'q=.int .i64 t.reserve:=rfl
theorem tm_3g (q:3 < t.cells.size):t.cells[3]'q=.int .i64 t.least:=rfl
theorem tm_4g (q:4 < t.cells.size):t.cells[4]'q=.int .i64 t.most:=rfl
theorem tm_5g (q:5 < t.cells.size):t.cells[5]'q=.int .i64 t.depth:=rfl
theorem tm_6g (q:6 < t.cells.size):t.cells[6]'q=.int .i64 t.delay:=rfl
theorem tm_7g (q:7 < t.cells.size):t.cells[7]'q=.int .i64 t.lag:=rfl
theorem tm_8g (q:8 < t.cells.size):t.cells[8]'q=.int .i64 t.fast:=rfl
theorem zabd:n.cells.size=3:=rfl
theorem cl_one:ones n.cells=true:=by kernel_rfl
theorem zw0:sub n.cells 0 3=n.cells:=by kernel_rfl
theorem cl_0:n.cells[0]?=some (.int .i64 n.a):=rfl
theorem cl_1:n.cells[1]?=some (.int .i64 n.b):=rfl
theorem cl_2:n.cells[2]?=some (.int .i64 n.c):=rfl
theorem cl_0g (q:0 < n.cells.size):n.cells[0]'q=.int .i64 n.a:=rfl
theorem cl_1g (q:1 < n.cells.size):n.cells[1]'q=.int .i64 n.b:=rfl
theorem cl_2g (q:2 < n.cells.size):n.cells[2]'q=.int .i64 n.c:=rfl
end
theorem zabe (w:World) (ρ:Operand→Value) (x:Operand) (dst:Option Tmp) (ty:TypeId) (pos:String) (af:Array Edge) (gd:Option (Nat × Bool)) (hp:pp (ρ x)=true) (h:po (ρ x) + 3 ≤ (rowOf w (pb (ρ x))).size):(execOp ρ ⟨dst,.load 256 x,ty,pos,af,gd⟩).run Tryz.prog w=.ok (.value (.agg (sub (rowOf w (pb (ρ x))) (po (ρ x)) 3))) w:=
 zat 256 3 Tryz.underlying256 rfl (by kernel_rfl) w ρ x dst ty pos af gd hp h
attribute [go_sem ↓] tm_0 tm_1 tm_2 tm_3 tm_4 tm_5 tm_6 tm_7 tm_8 cl_0 cl_1 cl_2 zabe
attribute [go_sem] ztr tm_one zwz tm_0g tm_1g tm_2g tm_3g tm_4g tm_5g tm_6g tm_7g tm_8g zabd cl_one zw0 cl_0g cl_1g cl_2g
structure TmT (t:Tm):Prop where
 depth:1 ≤ t.depth∧t.depth ≤ 20
 delay:1 ≤ t.delay∧t.delay ≤ 50
 lag:0 ≤ t.lag∧t.lag ≤ 50
 fast:1 ≤ t.fast∧t.fast ≤ 10
def Tm.mar (t:Tm):Int:=t.depth + t.delay + t.lag + 1
theorem TmT.mar {t:Tm} (h:TmT t):3 ≤ t.mar∧t.mar ≤ 121:=by
 have h1:=h.depth
 have h2:=h.delay
 have h3:=h.lag
 unfold Tm.mar
 omega
theorem zi7 {t:Tm} (h:TmT t) (w:World):Calls Tryz.prog 231 #[.agg t.cells] w fun e w'=>e=.returned (.int .i64 t.mar)∧Below w.heap.size w w':=by
 have h1:=h.depth
 have h2:=h.delay
 have h3:=h.lag
 have e1:wrap64 (t.depth + t.delay)=t.depth + t.delay:=IntWalk.wrap64_in _ (by omega)
 have e2:wrap64 (t.depth + t.delay + t.lag)=t.depth + t.delay + t.lag:=IntWalk.wrap64_in _ (by omega)
 have e3:wrap64 (t.depth + t.delay + t.lag + 1)=t.depth + t.delay + t.lag + 1:=IntWalk.wrap64_in _ (by omega)
 have E3:=zac8 (show wrap64 (t.depth + t.delay + t.lag + 1)=t.mar from e3)
 clear h h1 h2 h3 e3
 go_enter Tryz.func231,Tryz.ntmps231
 go_upto_region 1 with (fail)
 have bx:=Bx.new w (t.cells) 68;generalize w.alloc (.cells (t.cells) 68)=W at bx ⊢;have rx:=bx.rowOf;have sx:=bx.soft;have BX:=zac8 bx;clear bx
 go_wp2
 go_ret
 refine ⟨?_,BX.out.below⟩
 show Ending.returned (Value.int .i64 (wrap64 (t.depth + t.delay + t.lag + 1)))=_
 rw [E3.out]
def Cl.at_ (n:Cl) (p:Int):Int:=if p=0 then n.a else if p=1 then n.b else if p=2 then n.c else 0
theorem at_any (n:Cl) (p:Int) (w:World):Calls Tryz.prog 166 #[.agg n.cells,.int .i64 p] w fun e w'=>e=.returned (.int .i64 (n.at_ p))∧Below w.heap.size w w':=by
 by_cases h0:p < 0
 ·have E:n.at_ p=0:=by unfold Cl.at_;rw [if_neg (by omega),if_neg (by omega),if_neg (by omega)]
  rw [E]
  clear E
  go_enter Tryz.func166,Tryz.ntmps166
  go_upto_region 1 with (fail)
  have bx:=Bx.new w (n.cells) 256;generalize w.alloc (.cells (n.cells) 256)=W at bx ⊢;have rx:=bx.rowOf;have sx:=bx.soft;have BX:=zac8 bx;clear bx
  go_wp2
  go_ret
  exact ⟨rfl,BX.out.below⟩
 ·by_cases h3:p ≥ 3
  ·have E:n.at_ p=0:=by unfold Cl.at_;rw [if_neg (by omega),if_neg (by omega),if_neg (by omega)]
   rw [E]
   clear E
   go_enter Tryz.func166,Tryz.ntmps166
   go_upto_region 1 with (fail)
   have bx:=Bx.new w (n.cells) 256;generalize w.alloc (.cells (n.cells) 256)=W at bx ⊢;have rx:=bx.rowOf;have sx:=bx.soft;have BX:=zac8 bx;clear bx
   go_wp2
   go_ret
   exact ⟨rfl,BX.out.below⟩
  ·have hp:p=0 ∨ p=1 ∨ p=2:=by omega
   clear h0 h3
   rcases hp with rfl | rfl | rfl
   ·have E:n.at_ 0=n.a:=by unfold Cl.at_;simp
    rw [E]
    clear E
    go_enter Tryz.func166,Tryz.ntmps166
    go_upto_region 1 with (fail)
    have bx:=Bx.new w (n.cells) 256;generalize w.alloc (.cells (n.cells) 256)=W at bx ⊢;have rx:=bx.rowOf;have sx:=bx.soft;have BX:=zac8 bx;clear bx
    go_wp2
    go_ret
    exact ⟨rfl,BX.out.below⟩
   ·have E:n.at_ 1=n.b:=by unfold Cl.at_;simp
    rw [E]
    clear E
    go_enter Tryz.func166,Tryz.ntmps166
    go_upto_region 1 with (fail)
    have bx:=Bx.new w (n.cells) 256;generalize w.alloc (.cells (n.cells) 256)=W at bx ⊢;have rx:=bx.rowOf;have sx:=bx.soft;have BX:=zac8 bx;clear bx
    go_wp2
    go_ret
    exact ⟨rfl,BX.out.below⟩
   ·have E:n.at_ 2=n.c:=by unfold Cl.at_;simp
    rw [E]
    clear E
    go_enter Tryz.func166,Tryz.ntmps166
    go_upto_region 1 with (fail)
    have bx:=Bx.new w (n.cells) 256;generalize w.alloc (.cells (n.cells) 256)=W at bx ⊢;have rx:=bx.rowOf;have sx:=bx.soft;have BX:=zac8 bx;clear bx
    go_wp2
    go_ret
    exact ⟨rfl,BX.out.below⟩
def zfb (n:Cl) (l:Lg):Int:=max 0 (wrap64 (l.u - n.at_ l.w))
theorem zlo (n:Cl) (p:Int) (w:World):Calls Tryz.prog 166 #[.agg n.cells,.int .i64 p] w (Ret (.int .i64 (n.at_ p)) w):=zbz (at_any n p w)
theorem zw1 (n:Cl) (l:Lg) (w:World):Calls Tryz.prog 362 #[.agg n.cells,.agg l.cells] w fun e w'=>e=.returned (.int .i64 (zfb n l))∧Below w.heap.size w w':=by
 go_enter Tryz.func362,Tryz.ntmps362
 go_upto_region 1 with (fail)
 have bx:=Bxs.new2 w (n.cells) 256 (l.cells) 30;generalize ((w.alloc (.cells (n.cells) 256)).alloc (.cells (l.cells) 30))=W at bx ⊢;have rx0:=bx.row' 0 rfl;have sx0:=bx.soft' 0 rfl;(try simp only [Nat.add_zero] at rx0 sx0);have rx1:=bx.row' 1 rfl;have sx1:=bx.soft' 1 rfl;(try simp only [Nat.add_zero] at rx1 sx1);have BX:=zac8 bx;clear bx
 have hlt0:=BX.out.lt 0 rfl
 have hlt1:=BX.out.lt 1 rfl
 simp only [Nat.add_zero] at hlt0
 (refine zap 8 (by kernel_rfl) (by kernel_rfl) ?_;simp only [List.take_succ_cons,List.take_zero,List.drop_succ_cons,List.drop_zero];(repeat (go_big_quiet_step (((go_at_call 166;exact Calls.ext_of (zlo n l.w _))))));refine wpQuiet_nil ?_;rintro _ ⟨g,rfl⟩)
 have B:=zac8 (BX.out.step g.below).below
 go_wp2
 go_ret
 exact ⟨rfl,B.out⟩
theorem zw2 (n:Cl) (l:Lg) (w:World):Calls Tryz.prog 362 #[.agg n.cells,.agg l.cells] w (Ret (.int .i64 (zfb n l)) w):=zbz (zw1 n l w)
theorem zg8 (d:Dl) (n:Cl) (w:World):Calls Tryz.prog 305 #[.agg d.cells,.agg n.cells] w fun e w'=>e=.returned (.tuple #[.int .i64 (zfb n d.p),.int .i64 (zfb n d.g)])∧Below w.heap.size w w':=by
 go_enter Tryz.func305,Tryz.ntmps305
 go_upto_region 1 with (fail)
 have bx:=Bxs.new2 w (d.cells) 60 (n.cells) 52;generalize ((w.alloc (.cells (d.cells) 60)).alloc (.cells (n.cells) 52))=W at bx ⊢;have rx0:=bx.row' 0 rfl;have sx0:=bx.soft' 0 rfl;(try simp only [Nat.add_zero] at rx0 sx0);have rx1:=bx.row' 1 rfl;have sx1:=bx.soft' 1 rfl;(try simp only [Nat.add_zero] at rx1 sx1);have BX:=zac8 bx;clear bx
 have hlt0:=BX.out.lt 0 rfl
 have hlt1:=BX.out.lt 1 rfl
 simp only [Nat.add_zero] at hlt0
 go_upto_region 2 with (fail)
 (refine zap 8 (by kernel_rfl) (by kernel_rfl) ?_;simp only [List.take_succ_cons,List.take_zero,List.drop_succ_cons,List.drop_zero];(repeat (go_big_quiet_step (((go_at_call 362;exact Calls.ext_of (zw2 _ _ _))))));refine wpQuiet_nil ?_;rintro _ ⟨g,rfl⟩)
 have B:=zac8 (BX.out.step g.below).below
 go_wp2
 refine bodyPost_ret (results_tmp2 rfl _ _ _) rfl ?_
 exact ⟨rfl,B.out⟩
theorem zdp {t:Tm} (h:TmT t) (w:World):Calls Tryz.prog 231 #[.agg t.cells] w (Ret (.int .i64 t.mar) w):=zbz (zi7 h w)
theorem zts {t:Tm} (h:TmT t) (w:World):Calls Tryz.prog 168 #[.agg t.cells] w fun e w'=>e=.returned (.int .i64 (3 * t.mar))∧Below w.heap.size w w':=by
 have hm:=h.mar
 have E:=zac8 (show wrap64 (3 * t.mar)=3 * t.mar from IntWalk.wrap64_in _ (by omega))
 have H:=zac8 h
 clear h hm
 go_enter Tryz.func168,Tryz.ntmps168
 go_upto_region 1 with (fail)
 have bx:=Bx.new w (t.cells) 68;generalize w.alloc (.cells (t.cells) 68)=W at bx ⊢;have rx:=bx.rowOf;have sx:=bx.soft;have BX:=zac8 bx;clear bx
 go_wp2_with fail
 refine (zi7 H.out _).mono ?_;rintro _ W2 ⟨rfl,hb⟩;have bx:=BX.out.step hb;clear BX rx sx hb;have rx:=bx.rowOf;have sx:=bx.soft;have BX:=zac8 bx;clear bx
 go_wp2
 go_ret
 refine ⟨?_,BX.out.below⟩
 show Ending.returned (Value.int .i64 (wrap64 (3 * t.mar)))=_
 rw [E.out]
theorem zh9 {t:Tm} (h:TmT t) (w:World):Calls Tryz.prog 168 #[.agg t.cells] w (Ret (.int .i64 (3 * t.mar)) w):=zbz (zts h w)
def Tm.long (t:Tm):Int:=t.fast * (3 * t.mar) + t.mar
theorem TmT.long {t:Tm} (h:TmT t):0 ≤ t.fast * (3 * t.mar)∧t.fast * (3 * t.mar) ≤ 3630∧0 ≤ t.long∧t.long ≤ 3751:=by
 have h1:=h.mar
 have h2:=h.fast
 have a1:0 ≤ t.fast * (3 * t.mar):=Int.mul_nonneg (by omega) (by omega)
 have a2:t.fast * (3 * t.mar) ≤ 10 * 363:=Int.mul_le_mul h2.2 (by omega) (by omega) (by omega)
 unfold Tm.long
 omega
theorem zw3 {t:Tm} (h:TmT t) (w:World):Calls Tryz.prog 167 #[.agg t.cells] w fun e w'=>e=.returned (.int .i64 t.long)∧Below w.heap.size w w':=by
 have hl:=h.long
 have e1:wrap64 (t.fast * (3 * t.mar))=t.fast * (3 * t.mar):=IntWalk.wrap64_in _ (by omega)
 have E2:=zac8 (show wrap64 (t.fast * (3 * t.mar) + t.mar)=t.long from IntWalk.wrap64_in _ (by unfold Tm.long at hl;omega))
 have H:=zac8 h
 clear h hl
 go_enter Tryz.func167,Tryz.ntmps167
 go_upto_region 1 with (fail)
 have bx:=Bx.new w (t.cells) 68;generalize w.alloc (.cells (t.cells) 68)=W at bx ⊢;have rx:=bx.rowOf;have sx:=bx.soft;have BX:=zac8 bx;clear bx
 have hlt:w.heap.size < W.heap.size:=(zac7 BX.out.row).1
 (refine zap 8 (by kernel_rfl) (by kernel_rfl) ?_;simp only [List.take_succ_cons,List.take_zero,List.drop_succ_cons,List.drop_zero];(repeat (go_big_quiet_step ((first | (go_at_call 168;exact Calls.ext_of (zh9 H.out _)) | (go_at_call 231;exact Calls.ext_of (zdp H.out _))))));refine wpQuiet_nil ?_;rintro _ ⟨g,rfl⟩)
 have B:=zac8 (BX.out.step g.below).below
 go_wp2
 go_ret
 refine ⟨?_,B.out⟩
 show Ending.returned (Value.int .i64 (wrap64 (t.fast * (3 * t.mar) + t.mar)))=_
 rw [E2.out]
theorem zo6 {t:Tm} (h:TmT t) (w:World):Calls Tryz.prog 167 #[.agg t.cells] w (Ret (.int .i64 t.long) w):=zbz (zw3 h w)
def ztt (d:Dl) (n:Cl):Int:=if d.r=1 then 0 else zfb n d.p
def zey (t:Tm) (d:Dl) (n:Cl):Int:=if zfb n d.g < wrap64 (t.mar + wrap64 (ztt d n * t.fast)) then 23 else 0
theorem zo7 {t:Tm} (h:TmT t) (d:Dl) (n:Cl) (w:World):Calls Tryz.prog 230 #[.agg t.cells,.agg d.cells,.agg n.cells] w fun e w'=>e=.returned (.int .i64 (zey t d n))∧Below w.heap.size w w':=by
 have H:=zac8 h
 clear h
 by_cases hr:d.r=1
 ·by_cases hs:zfb n d.g < wrap64 t.mar
  ·have E:zey t d n=23:=by unfold zey ztt;rw [if_pos hr,Int.zero_mul,show wrap64 0=0 from IntWalk.wrap64_in _ (by decide),Int.add_zero];exact if_pos hs
   rw [E]
   clear E
   have HS:=zac8 (show (zfb n d.g < wrap64 t.mar)=True from eq_true hs)
   clear hs
   go_enter Tryz.func230,Tryz.ntmps230
   go_upto_region 1 with (fail)
   have bx:=Bxs.new3 w (t.cells) 68 (d.cells) 60 (n.cells) 52;generalize (((w.alloc (.cells (t.cells) 68)).alloc (.cells (d.cells) 60)).alloc (.cells (n.cells) 52))=W at bx ⊢;have rx0:=bx.row' 0 rfl;have sx0:=bx.soft' 0 rfl;(try simp only [Nat.add_zero] at rx0 sx0);have rx1:=bx.row' 1 rfl;have sx1:=bx.soft' 1 rfl;(try simp only [Nat.add_zero] at rx1 sx1);have rx2:=bx.row' 2 rfl;have sx2:=bx.soft' 2 rfl;(try simp only [Nat.add_zero] at rx2 sx2);have BX:=zac8 bx;clear bx
   go_wp2_with fail
   refine (zg8 _ _ _).mono ?_;rintro _ W2 ⟨rfl,hb⟩;have bx:=BX.out.step hb;clear BX hb rx0 sx0 rx1 sx1 rx2 sx2;have rx0:=bx.row' 0 rfl;have sx0:=bx.soft' 0 rfl;(try simp only [Nat.add_zero] at rx0 sx0);have rx1:=bx.row' 1 rfl;have sx1:=bx.soft' 1 rfl;(try simp only [Nat.add_zero] at rx1 sx1);have rx2:=bx.row' 2 rfl;have sx2:=bx.soft' 2 rfl;(try simp only [Nat.add_zero] at rx2 sx2);have BX:=zac8 bx;clear bx
   go_wp2_with fail
   have hlt0:=BX.out.lt 0 rfl
   simp only [Nat.add_zero] at hlt0
   (refine zap 8 (by kernel_rfl) (by kernel_rfl) ?_;simp only [List.take_succ_cons,List.take_zero,List.drop_succ_cons,List.drop_zero];(repeat (go_big_quiet_step (((go_at_call 231;exact Calls.ext_of (zdp H.out _))))));refine wpQuiet_nil ?_;rintro _ ⟨g,rfl⟩)
   have B:=zac8 (BX.out.step g.below).below
   have hs:=HS.out
   go_wp2
   go_ret
   exact ⟨rfl,B.out⟩
  ·have E:zey t d n=0:=by unfold zey ztt;rw [if_pos hr,Int.zero_mul,show wrap64 0=0 from IntWalk.wrap64_in _ (by decide),Int.add_zero];exact if_neg hs
   rw [E]
   clear E
   have HS:=zac8 (show (zfb n d.g < wrap64 t.mar)=False from eq_false hs)
   clear hs
   go_enter Tryz.func230,Tryz.ntmps230
   go_upto_region 1 with (fail)
   have bx:=Bxs.new3 w (t.cells) 68 (d.cells) 60 (n.cells) 52;generalize (((w.alloc (.cells (t.cells) 68)).alloc (.cells (d.cells) 60)).alloc (.cells (n.cells) 52))=W at bx ⊢;have rx0:=bx.row' 0 rfl;have sx0:=bx.soft' 0 rfl;(try simp only [Nat.add_zero] at rx0 sx0);have rx1:=bx.row' 1 rfl;have sx1:=bx.soft' 1 rfl;(try simp only [Nat.add_zero] at rx1 sx1);have rx2:=bx.row' 2 rfl;have sx2:=bx.soft' 2 rfl;(try simp only [Nat.add_zero] at rx2 sx2);have BX:=zac8 bx;clear bx
   go_wp2_with fail
   refine (zg8 _ _ _).mono ?_;rintro _ W2 ⟨rfl,hb⟩;have bx:=BX.out.step hb;clear BX hb rx0 sx0 rx1 sx1 rx2 sx2;have rx0:=bx.row' 0 rfl;have sx0:=bx.soft' 0 rfl;(try simp only [Nat.add_zero] at rx0 sx0);have rx1:=bx.row' 1 rfl;have sx1:=bx.soft' 1 rfl;(try simp only [Nat.add_zero] at rx1 sx1);have rx2:=bx.row' 2 rfl;have sx2:=bx.soft' 2 rfl;(try simp only [Nat.add_zero] at rx2 sx2);have BX:=zac8 bx;clear bx
   go_wp2_with fail
   have hlt0:=BX.out.lt 0 rfl
   simp only [Nat.add_zero] at hlt0
   (refine zap 8 (by kernel_rfl) (by kernel_rfl) ?_;simp only [List.take_succ_cons,List.take_zero,List.drop_succ_cons,List.drop_zero];(repeat (go_big_quiet_step (((go_at_call 231;exact Calls.ext_of (zdp H.out _))))));refine wpQuiet_nil ?_;rintro _ ⟨g,rfl⟩)
   have B:=zac8 (BX.out.step g.below).below
   have hs:=HS.out
   go_wp2
   go_ret
   exact ⟨rfl,B.out⟩
 ·by_cases hs:zfb n d.g < wrap64 (t.mar + wrap64 (zfb n d.p * t.fast))
  ·have E:zey t d n=23:=by unfold zey ztt;rw [if_neg hr];exact if_pos hs
   rw [E]
   clear E
   have hr2:(d.r == 1)=false:=by rw [beq_eq_false_iff_ne];exact hr
   clear hr
   have HS:=zac8 (show (zfb n d.g < wrap64 (t.mar + wrap64 (zfb n d.p * t.fast)))=True from eq_true hs)
   clear hs
   go_enter Tryz.func230,Tryz.ntmps230
   go_upto_region 1 with (fail)
   have bx:=Bxs.new3 w (t.cells) 68 (d.cells) 60 (n.cells) 52;generalize (((w.alloc (.cells (t.cells) 68)).alloc (.cells (d.cells) 60)).alloc (.cells (n.cells) 52))=W at bx ⊢;have rx0:=bx.row' 0 rfl;have sx0:=bx.soft' 0 rfl;(try simp only [Nat.add_zero] at rx0 sx0);have rx1:=bx.row' 1 rfl;have sx1:=bx.soft' 1 rfl;(try simp only [Nat.add_zero] at rx1 sx1);have rx2:=bx.row' 2 rfl;have sx2:=bx.soft' 2 rfl;(try simp only [Nat.add_zero] at rx2 sx2);have BX:=zac8 bx;clear bx
   go_wp2_with fail
   refine (zg8 _ _ _).mono ?_;rintro _ W2 ⟨rfl,hb⟩;have bx:=BX.out.step hb;clear BX hb rx0 sx0 rx1 sx1 rx2 sx2;have rx0:=bx.row' 0 rfl;have sx0:=bx.soft' 0 rfl;(try simp only [Nat.add_zero] at rx0 sx0);have rx1:=bx.row' 1 rfl;have sx1:=bx.soft' 1 rfl;(try simp only [Nat.add_zero] at rx1 sx1);have rx2:=bx.row' 2 rfl;have sx2:=bx.soft' 2 rfl;(try simp only [Nat.add_zero] at rx2 sx2);have BX:=zac8 bx;clear bx
   go_wp2_with fail
   have hlt0:=BX.out.lt 0 rfl
   simp only [Nat.add_zero] at hlt0
   (refine zap 8 (by kernel_rfl) (by kernel_rfl) ?_;simp only [List.take_succ_cons,List.take_zero,List.drop_succ_cons,List.drop_zero];(repeat (go_big_quiet_step (((go_at_call 231;exact Calls.ext_of (zdp H.out _))))));refine wpQuiet_nil ?_;rintro _ ⟨g,rfl⟩)
   have B:=zac8 (BX.out.step g.below).below
   have hs:=HS.out
   go_wp2
   go_ret
   exact ⟨rfl,B.out⟩
  ·have E:zey t d n=0:=by unfold zey ztt;rw [if_neg hr];exact if_neg hs
   rw [E]
   clear E
   have hr2:(d.r == 1)=false:=by rw [beq_eq_false_iff_ne];exact hr
   clear hr
   have HS:=zac8 (show (zfb n d.g < wrap64 (t.mar + wrap64 (zfb n d.p * t.fast)))=False from eq_false hs)
   clear hs
   go_enter Tryz.func230,Tryz.ntmps230
   go_upto_region 1 with (fail)
   have bx:=Bxs.new3 w (t.cells) 68 (d.cells) 60 (n.cells) 52;generalize (((w.alloc (.cells (t.cells) 68)).alloc (.cells (d.cells) 60)).alloc (.cells (n.cells) 52))=W at bx ⊢;have rx0:=bx.row' 0 rfl;have sx0:=bx.soft' 0 rfl;(try simp only [Nat.add_zero] at rx0 sx0);have rx1:=bx.row' 1 rfl;have sx1:=bx.soft' 1 rfl;(try simp only [Nat.add_zero] at rx1 sx1);have rx2:=bx.row' 2 rfl;have sx2:=bx.soft' 2 rfl;(try simp only [Nat.add_zero] at rx2 sx2);have BX:=zac8 bx;clear bx
   go_wp2_with fail
   refine (zg8 _ _ _).mono ?_;rintro _ W2 ⟨rfl,hb⟩;have bx:=BX.out.step hb;clear BX hb rx0 sx0 rx1 sx1 rx2 sx2;have rx0:=bx.row' 0 rfl;have sx0:=bx.soft' 0 rfl;(try simp only [Nat.add_zero] at rx0 sx0);have rx1:=bx.row' 1 rfl;have sx1:=bx.soft' 1 rfl;(try simp only [Nat.add_zero] at rx1 sx1);have rx2:=bx.row' 2 rfl;have sx2:=bx.soft' 2 rfl;(try simp only [Nat.add_zero] at rx2 sx2);have BX:=zac8 bx;clear bx
   go_wp2_with fail
   have hlt0:=BX.out.lt 0 rfl
   simp only [Nat.add_zero] at hlt0
   (refine zap 8 (by kernel_rfl) (by kernel_rfl) ?_;simp only [List.take_succ_cons,List.take_zero,List.drop_succ_cons,List.drop_zero];(repeat (go_big_quiet_step (((go_at_call 231;exact Calls.ext_of (zdp H.out _))))));refine wpQuiet_nil ?_;rintro _ ⟨g,rfl⟩)
   have B:=zac8 (BX.out.step g.below).below
   have hs:=HS.out
   go_wp2
   go_ret
   exact ⟨rfl,B.out⟩
end Go.Proofs.YthjgiamfaijoeaaGreatDoor
