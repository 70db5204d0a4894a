/- What is proved: parts of the walk and of the plain law, 4 texts in one. No condition but those each law names. -/
import Derived.Test.YtjkfondgacjpnaaGreatDoorF35
import Derived.Test.YtjkfondgacjpnaaGreatDoorF28
import Derived.Lib.SlBytesConst
namespace Go.Proofs.YtjkfondgacjpnaaGreatDoor
open Go.RowKit
open Sx (Ab DW Turns Did Foot)
set_option maxRecDepth 100000
attribute [local go_sem ↓] rowOf_cell ebl1 ebl2 ebrDk ebrSk ebmRk
attribute [local go_sem] rowOf_alloc soft_alloc rowOf_drew soft_drew rowOf_setRow soft_setRow frozen_of_soft Ext.row Ext.soft_ rOf_D rOf_S rcD_eq rcS_eq
def takesE (t:Tm) (d:Dl) (n:Cl) (free:Int):Int:=if errD d ≠ 0 then errD d else if (quoteV t d.p.a free).2 ≠ 0 then (quoteV t d.p.a free).2 else if d.g.a < (quoteV t d.p.a free).1 then 22 else safeE t d n
section
variable {w:World} {D:Dm} {d:Dl} {n:Cl} {free:Int}
theorem takes_deal {k:Int} (h:Dae w D) (e1:errD d=k) (k0:(k == 0)=false):Calls Tryz.prog 79 #[.pointer (some ⟨D.xb,0,none⟩),.agg d.cells,.agg n.cells,.int .i64 free] w fun e w'=>e=.returned (.int .i64 k)∧Below w.heap.size w w':=by
 have H:=Lib.hid h
 have H1:=Lib.hid e1
 go_enter Tryz.func79,Tryz.ntmps79
 go_upto_region 1 with (fail)
 have bx:=Bxs.new2 w (d.cells) 83 (n.cells) 37;generalize ((w.alloc (.cells (d.cells) 83)).alloc (.cells (n.cells) 37))=W at bx ⊢;have rx0:=bx.row' 0 rfl;have sx0:=bx.soft' 0 rfl;(try simp only [Nat.add_zero] at rx0 sx0);have rx1:=bx.row' 1 rfl;have sx1:=bx.soft' 1 rfl;(try simp only [Nat.add_zero] at rx1 sx1);have BX:=Lib.hid bx;clear bx
 go_wp2_with fail
 refine (deal_is H1.out _).mono ?_;rintro _ W2 ⟨rfl,hb⟩;have bx:=BX.out.step hb;clear BX hb rx0 sx0 rx1 sx1;have rx0:=bx.row' 0 rfl;have sx0:=bx.soft' 0 rfl;(try simp only [Nat.add_zero] at rx0 sx0);have rx1:=bx.row' 1 rfl;have sx1:=bx.soft' 1 rfl;(try simp only [Nat.add_zero] at rx1 sx1);have BX:=Lib.hid bx;clear bx
 go_wp2
 go_ret
 exact ⟨rfl,BX.out.below⟩
set_option maxHeartbeats 2000000 in
theorem takes_quote {v q:Int} (h:Dae w D) (HT:Hid (TmK D.t)) (e1:errD d=0) (H2:Hid (quoteV D.t d.p.a free=(v,q))) (q0:(q == 0)=false):Calls Tryz.prog 79 #[.pointer (some ⟨D.xb,0,none⟩),.agg d.cells,.agg n.cells,.int .i64 free] w fun e w'=>e=.returned (.int .i64 q)∧Below w.heap.size w w':=by
 have H:=Lib.hid h
 have H1:=Lib.hid e1
 go_enter Tryz.func79,Tryz.ntmps79
 go_upto_region 1 with (fail)
 have bx:=Bxs.new2 w (d.cells) 83 (n.cells) 37;generalize ((w.alloc (.cells (d.cells) 83)).alloc (.cells (n.cells) 37))=W at bx ⊢;have rx0:=bx.row' 0 rfl;have sx0:=bx.soft' 0 rfl;(try simp only [Nat.add_zero] at rx0 sx0);have rx1:=bx.row' 1 rfl;have sx1:=bx.soft' 1 rfl;(try simp only [Nat.add_zero] at rx1 sx1);have BX:=Lib.hid bx;clear bx
 go_wp2_with fail
 refine (deal_is H1.out _).mono ?_;rintro _ W2 ⟨rfl,hb⟩;have bx:=BX.out.step hb;clear BX hb rx0 sx0 rx1 sx1;have rx0:=bx.row' 0 rfl;have sx0:=bx.soft' 0 rfl;(try simp only [Nat.add_zero] at rx0 sx0);have rx1:=bx.row' 1 rfl;have sx1:=bx.soft' 1 rfl;(try simp only [Nat.add_zero] at rx1 sx1);have BX:=Lib.hid bx;clear bx
 have D2:=H.out.below BX.out.below
 have rD:=rowOf_of D2.row
 unfold Dm.cells at rD
 have Q:∀ w,Calls Tryz.prog 107 #[.agg D.t.cells,.int .i64 d.p.a,.int .i64 free] w (Ret (.tuple #[.int .i64 v,.int .i64 q]) w):=fun w=>by
  have:=ret_of (Quote_any HT.out d.p.a free w)
  rw [H2.out] at this
  exact this
 have Q:=Lib.hid Q
 have lx:D.xb < W2.heap.size:=D2.lt (.inl rfl)
 have l0:=BX.out.lt 0 rfl
 have l1:=BX.out.lt 1 rfl
 simp only [Nat.add_zero] at l0
 clear D2
 go_upto_region 4 with (fail)
 (refine wp_region_grow (by kernel_rfl) (by kernel_rfl) ?_;(repeat (go_big_quiet_step (((go_at_call 107;exact Calls.ext_of (Q.out _))))));refine wpQuiet_nil ?_;rintro _ ⟨g,rfl⟩)
 have bx:=BX.out.step g.below;clear BX rx0 sx0 rx1 sx1;have rx0:=bx.row' 0 rfl;have sx0:=bx.soft' 0 rfl;(try simp only [Nat.add_zero] at rx0 sx0);have rx1:=bx.row' 1 rfl;have sx1:=bx.soft' 1 rfl;(try simp only [Nat.add_zero] at rx1 sx1);have BX:=Lib.hid bx;clear bx
 generalize g.val=V at *
 go_wp2
 go_ret
 exact ⟨rfl,BX.out.below⟩
set_option maxHeartbeats 2000000 in
theorem takes_less {v q:Int} (h:Dae w D) (HT:Hid (TmK D.t)) (e1:errD d=0) (H2:Hid (quoteV D.t d.p.a free=(v,q))) (q0:q=0) (e3:(d.g.a < v)=True):Calls Tryz.prog 79 #[.pointer (some ⟨D.xb,0,none⟩),.agg d.cells,.agg n.cells,.int .i64 free] w fun e w'=>e=.returned (.int .i64 22)∧Below w.heap.size w w':=by
 subst q0
 have H:=Lib.hid h
 have H1:=Lib.hid e1
 go_enter Tryz.func79,Tryz.ntmps79
 go_upto_region 1 with (fail)
 have bx:=Bxs.new2 w (d.cells) 83 (n.cells) 37;generalize ((w.alloc (.cells (d.cells) 83)).alloc (.cells (n.cells) 37))=W at bx ⊢;have rx0:=bx.row' 0 rfl;have sx0:=bx.soft' 0 rfl;(try simp only [Nat.add_zero] at rx0 sx0);have rx1:=bx.row' 1 rfl;have sx1:=bx.soft' 1 rfl;(try simp only [Nat.add_zero] at rx1 sx1);have BX:=Lib.hid bx;clear bx
 go_wp2_with fail
 refine (deal_is H1.out _).mono ?_;rintro _ W2 ⟨rfl,hb⟩;have bx:=BX.out.step hb;clear BX hb rx0 sx0 rx1 sx1;have rx0:=bx.row' 0 rfl;have sx0:=bx.soft' 0 rfl;(try simp only [Nat.add_zero] at rx0 sx0);have rx1:=bx.row' 1 rfl;have sx1:=bx.soft' 1 rfl;(try simp only [Nat.add_zero] at rx1 sx1);have BX:=Lib.hid bx;clear bx
 have D2:=H.out.below BX.out.below
 have rD:=rowOf_of D2.row
 unfold Dm.cells at rD
 have Q:∀ w,Calls Tryz.prog 107 #[.agg D.t.cells,.int .i64 d.p.a,.int .i64 free] w (Ret (.tuple #[.int .i64 v,.int .i64 0]) w):=fun w=>by
  have:=ret_of (Quote_any HT.out d.p.a free w)
  rw [H2.out] at this
  exact this
 have Q:=Lib.hid Q
 have lx:D.xb < W2.heap.size:=D2.lt (.inl rfl)
 have l0:=BX.out.lt 0 rfl
 have l1:=BX.out.lt 1 rfl
 simp only [Nat.add_zero] at l0
 clear D2
 go_upto_region 4 with (fail)
 (refine wp_region_grow (by kernel_rfl) (by kernel_rfl) ?_;(repeat (go_big_quiet_step (((go_at_call 107;exact Calls.ext_of (Q.out _))))));refine wpQuiet_nil ?_;rintro _ ⟨g,rfl⟩)
 have bx:=BX.out.step g.below;clear BX rx0 sx0 rx1 sx1;have rx0:=bx.row' 0 rfl;have sx0:=bx.soft' 0 rfl;(try simp only [Nat.add_zero] at rx0 sx0);have rx1:=bx.row' 1 rfl;have sx1:=bx.soft' 1 rfl;(try simp only [Nat.add_zero] at rx1 sx1);have BX:=Lib.hid bx;clear bx
 generalize g.val=V at *
 go_wp2
 go_ret
 exact ⟨rfl,BX.out.below⟩
set_option maxHeartbeats 2000000 in
theorem takes_late {v s:Int} (h:Dae w D) (HT:Hid (TmK D.t)) (e1:errD d=0) (H2:Hid (quoteV D.t d.p.a free=(v,0))) (e3:(d.g.a < v)=False) (H4:Hid (safeE D.t d n=s)) (s0:(s == 0)=false):Calls Tryz.prog 79 #[.pointer (some ⟨D.xb,0,none⟩),.agg d.cells,.agg n.cells,.int .i64 free] w fun e w'=>e=.returned (.int .i64 s)∧Below w.heap.size w w':=by
 have H:=Lib.hid h
 have H1:=Lib.hid e1
 go_enter Tryz.func79,Tryz.ntmps79
 go_upto_region 1 with (fail)
 have bx:=Bxs.new2 w (d.cells) 83 (n.cells) 37;generalize ((w.alloc (.cells (d.cells) 83)).alloc (.cells (n.cells) 37))=W at bx ⊢;have rx0:=bx.row' 0 rfl;have sx0:=bx.soft' 0 rfl;(try simp only [Nat.add_zero] at rx0 sx0);have rx1:=bx.row' 1 rfl;have sx1:=bx.soft' 1 rfl;(try simp only [Nat.add_zero] at rx1 sx1);have BX:=Lib.hid bx;clear bx
 go_wp2_with fail
 refine (deal_is H1.out _).mono ?_;rintro _ W2 ⟨rfl,hb⟩;have bx:=BX.out.step hb;clear BX hb rx0 sx0 rx1 sx1;have rx0:=bx.row' 0 rfl;have sx0:=bx.soft' 0 rfl;(try simp only [Nat.add_zero] at rx0 sx0);have rx1:=bx.row' 1 rfl;have sx1:=bx.soft' 1 rfl;(try simp only [Nat.add_zero] at rx1 sx1);have BX:=Lib.hid bx;clear bx
 have D2:=H.out.below BX.out.below
 have rD:=rowOf_of D2.row
 unfold Dm.cells at rD
 have Q:∀ w,Calls Tryz.prog 107 #[.agg D.t.cells,.int .i64 d.p.a,.int .i64 free] w (Ret (.tuple #[.int .i64 v,.int .i64 0]) w):=fun w=>by
  have:=ret_of (Quote_any HT.out d.p.a free w)
  rw [H2.out] at this
  exact this
 have Q:=Lib.hid Q
 have lx:D.xb < W2.heap.size:=D2.lt (.inl rfl)
 have l0:=BX.out.lt 0 rfl
 have l1:=BX.out.lt 1 rfl
 simp only [Nat.add_zero] at l0
 clear D2
 go_upto_region 4 with (fail)
 (refine wp_region_grow (by kernel_rfl) (by kernel_rfl) ?_;(repeat (go_big_quiet_step (((go_at_call 107;exact Calls.ext_of (Q.out _))))));refine wpQuiet_nil ?_;rintro _ ⟨g,rfl⟩)
 have bx:=BX.out.step g.below;clear BX rx0 sx0 rx1 sx1;have rx0:=bx.row' 0 rfl;have sx0:=bx.soft' 0 rfl;(try simp only [Nat.add_zero] at rx0 sx0);have rx1:=bx.row' 1 rfl;have sx1:=bx.soft' 1 rfl;(try simp only [Nat.add_zero] at rx1 sx1);have BX:=Lib.hid bx;clear bx
 have D3:=H.out.below BX.out.below
 have rD:=rowOf_of D3.row
 unfold Dm.cells at rD
 have lx:D.xb < g.val.heap.size:=D3.lt (.inl rfl)
 have l0:=BX.out.lt 0 rfl
 have l1:=BX.out.lt 1 rfl
 simp only [Nat.add_zero] at l0
 clear D3
 generalize g.val=V at *
 go_upto_region 9 with (fail)
 have K:∀ w,Calls Tryz.prog 108 #[.agg D.t.cells,.agg d.cells,.agg n.cells] w (Ret (.int .i64 s) w):=fun w=>by
  have:=ret_of (Safe_any HT.out.tm d n w)
  rw [H4.out] at this
  exact this
 have K:=Lib.hid K
 (refine wp_region_grow (by kernel_rfl) (by kernel_rfl) ?_;(repeat (go_big_quiet_step (((go_at_call 108;exact Calls.ext_of (K.out _))))));refine wpQuiet_nil ?_;rintro _ ⟨g2,rfl⟩)
 have bx:=BX.out.step g2.below;clear BX rx0 sx0 rx1 sx1;have rx0:=bx.row' 0 rfl;have sx0:=bx.soft' 0 rfl;(try simp only [Nat.add_zero] at rx0 sx0);have rx1:=bx.row' 1 rfl;have sx1:=bx.soft' 1 rfl;(try simp only [Nat.add_zero] at rx1 sx1);have BX:=Lib.hid bx;clear bx
 generalize g2.val=X at *
 go_wp2
 go_ret
 exact ⟨rfl,BX.out.below⟩
end
theorem takes_no {w:World} {D:Dm} {d:Dl} {n:Cl} {free k:Int} (h:Dae w D) (hT:TmK D.t) (hk:takesE D.t d n free=k) (k0:k ≠ 0):Calls Tryz.prog 79 #[.pointer (some ⟨D.xb,0,none⟩),.agg d.cells,.agg n.cells,.int .i64 free] w fun e w'=>e=.returned (.int .i64 k)∧Below w.heap.size w w':=by
 subst hk
 unfold takesE at k0 ⊢
 by_cases h1:errD d ≠ 0
 ·rw [if_pos h1]
  exact takes_deal h rfl (by rw [beq_eq_false_iff_ne];exact h1)
 ·rw [if_neg h1] at k0 ⊢
  have h1:errD d=0:=by omega
  by_cases h2:(quoteV D.t d.p.a free).2 ≠ 0
  ·rw [if_pos h2]
   exact takes_quote h (Lib.hid hT) h1 (Lib.hid rfl) (by rw [beq_eq_false_iff_ne];exact h2)
  ·rw [if_neg h2] at k0 ⊢
   have h2:(quoteV D.t d.p.a free).2=0:=by omega
   by_cases h3:d.g.a < (quoteV D.t d.p.a free).1
   ·rw [if_pos h3]
    exact takes_less h (Lib.hid hT) h1 (Lib.hid rfl) h2 (eq_true h3)
   ·rw [if_neg h3] at k0 ⊢
    exact takes_late h (Lib.hid hT) h1 (Lib.hid (Prod.ext rfl h2)) (eq_false h3) (Lib.hid rfl) (by rw [beq_eq_false_iff_ne];exact k0)
theorem takesE_ok {t:Tm} {d:Dl} {n:Cl} {free:Int} (h:takesE t d n free=0):dealOk d=true∧(∃ v,quoteV t d.p.a free=(v,0)∧¬ d.g.a < v)∧safeE t d n=0:=by
 unfold takesE at h
 split at h
 ·rename_i q;exact absurd h q
 ·split at h
  ·rename_i q;exact absurd h q
  ·split at h
   ·omega
   ·rename_i q1 q2 q3
    refine ⟨?_,⟨_,Prod.ext rfl (by omega),q3⟩,h⟩
    unfold errD at q1
    cases hd:dealOk d with
    | true=>rfl
    | false=>rw [hd] at q1;simp at q1
end Go.Proofs.YtjkfondgacjpnaaGreatDoor
namespace Go.Proofs.YtjkfondgacjpnaaGreatDoor
open Go.RowKit
open Sx (Ab DW Turns Did Foot)
set_option maxRecDepth 100000
section
variable (w:World) (dst:Option Tmp) (ty:TypeId) (pos:String) (af:Array Edge) (gd:Option (Nat × Bool))
theorem ebd6k (A:Act) (a p g h q:Operand) (k:Int) (ha:A.eval a=.int .i64 (iv (A.eval a))) (hp:A.eval p=.agg (lOf (A.eval p)).cells) (hg:A.eval g=.agg (lOf (A.eval g)).cells) (hh:A.eval h=.agg (hOf (A.eval h)).cells) (hq:A.eval q=.int .i64 (iv (A.eval q))):
  (execOp A.eval ⟨dst,.build 83 #[(0,a),(1,.const (.int .i64 k)),(2,p),(3,g),(4,h),(5,q)],ty,pos,af,gd⟩).run Tryz.prog w=.ok (.value (.agg (Dl.cells ⟨iv (A.eval a),k,lOf (A.eval p),lOf (A.eval g),hOf (A.eval h),iv (A.eval q)⟩))) w:=
 ebd6 w A.eval dst ty pos af gd a (.const (.int .i64 k)) p g h q ha rfl hp hg hh hq
theorem ebm5k (A:Act) (a p g h:Operand) (k:Int) (ha:A.eval a=.int .i64 (iv (A.eval a))) (hp:A.eval p=.agg (lOf (A.eval p)).cells) (hg:A.eval g=.agg (lOf (A.eval g)).cells) (hh:A.eval h=.agg (hOf (A.eval h)).cells):
  (execOp A.eval ⟨dst,.build 67 #[(0,.const (.int .i64 k)),(1,a),(3,p),(4,g),(5,h)],ty,pos,af,gd⟩).run Tryz.prog w=.ok (.value (.agg (Msg.cells ⟨k,iv (A.eval a),0,lOf (A.eval p),lOf (A.eval g),hOf (A.eval h)⟩))) w:=
 ebm5 w A.eval dst ty pos af gd (.const (.int .i64 k)) a p g h rfl ha hp hg hh
end
attribute [local go_sem ↓] rowOf_cell ebd6k ebm5k
attribute [local go_sem] rowOf_alloc soft_alloc rowOf_drew soft_drew rowOf_setRow soft_setRow frozen_of_soft
def heardD (m:Msg) (peer:Int):Dl:=⟨m.i,2,m.g,m.p,m.h,peer⟩
def acceptM (d:Dl):Msg:=⟨2,d.i,0,d.p,d.g,d.h⟩
section
variable {w:World} {D:Dm} {n:Cl} {free peer:Int} {ao:Option Addr} {k c:Nat} {l:List Nat}
end
end Go.Proofs.YtjkfondgacjpnaaGreatDoor

namespace Go.Proofs.YtjkfondgacjpnaaGreatDoor
open Go.RowKit
open Sx (Ab DW Turns Did Foot)
set_option maxRecDepth 100000
attribute [local go_sem ↓] rowOf_cell
attribute [local go_sem] rowOf_alloc soft_alloc rowOf_drew soft_drew rowOf_setRow soft_setRow frozen_of_soft
theorem intL_pos (u:Nat):0 < (intL u).length:=by
 unfold intL
 split
 ·simp
 ·split
  ·simp
  ·split <;> simp
theorem intI_pos (x:Int):0 < (intI x).length:=intL_pos _
set_option maxHeartbeats 1000000 in
theorem secret_any {w:World} {D:Dm} (h:Dae w D) (hB:Base w D) (hl:D.seed.length ≤ 64) {i:Int} (hi:I64 i):Calls Tryz.prog 43 #[.pointer (some ⟨D.xb,0,none⟩),.int .i64 i] w fun e w'=>e=.returned (.agg (secretH (D.seed ++ intI i)).cells)∧Below w.heap.size w w':=by
 have H:=Lib.hid h
 have HB:=Lib.hid hB
 have HI:=Lib.hid hi
 have HL:=Lib.hid hl
 generalize hq:secretH (D.seed ++ intI i)=q
 have HQ:=Lib.hid hq
 clear h hB hi hl hq
 go_enter Tryz.func43,Tryz.ntmps43
 go_upto_region 1 with (fail)
 have bx:=Bx.new w (Hs.zero.cells) 65;generalize w.alloc (.cells (Hs.zero.cells) 65)=W at bx ⊢;have rx:=bx.rowOf;have sx:=bx.soft;have BX:=Lib.hid bx;clear bx
 have D1:=H.out.below BX.out.below
 have rD:=rowOf_of D1.row
 unfold Dm.cells at rD
 have C:=Lib.hid (Clone_any D1.sd (by have:=HL.out;omega))
 unfold Dm.sv at rD
 clear D1
 go_wp2_with fail
 refine C.out.mono ?_
 rintro _ W2 ⟨a2,c2,rfl,hb2,o2⟩
 have bx:=BX.out.step hb2
 have I:=Lib.hid (Int_op (HB.out.forms.keep (Nat.le_refl _) bx.below) (Sl.own o2) (by have:=HL.out;omega) i HI.out)
 clear BX C rx sx rD hb2 o2
 have BX:=Lib.hid bx
 clear bx
 go_wp2_with fail
 refine I.out.mono ?_
 rintro _ W3 ⟨a3,c3,n3,rfl,hb3,o3⟩
 have bx:=BX.out.step hb3
 have hn3:n3=(D.seed ++ intI i).length:=own_n o3 rfl
 have hlen:n3 ≤ 73:=by rw [hn3,List.length_append];have:=HL.out;have:=intI_len i;omega
 have hpos:0 < n3:=by rw [hn3,List.length_append];have:=intI_pos i;omega
 have T:=Tagged_any (HB.out.tabs.keep (Nat.le_refl _) bx.below) (Sl.own o3) hpos (by omega)
 rw [HQ.out] at T
 have T:=Lib.hid T
 clear BX I hb3 o3 hn3 hlen hpos
 have BX:=Lib.hid bx
 clear bx
 go_wp2_with fail
 refine T.out.mono ?_
 rintro _ W4 ⟨rfl,hb⟩
 have bx:=BX.out.step hb
 clear BX T hb
 have sx:=bx.soft
 have rx:=bx.rowOf
 have BX:=Lib.hid bx
 clear bx
 go_wp2
 have hc:rowOf (World.setRow W4 w.heap.size q.cells) w.heap.size=q.cells:=(rowOf_setRow _ _ _ _ sx).trans (if_pos rfl)
 refine bodyPost_ret (results_row (t:=65) rfl Tryz.underlying65 rfl (by kernel_rfl) _ _ w.heap.size rfl hc (h_size _)) rfl ?_
 exact ⟨rfl,Below.setRow_ BX.out.below (Nat.le_refl _) _⟩
end Go.Proofs.YtjkfondgacjpnaaGreatDoor

namespace Go.Proofs.YtjkfondgacjpnaaGreatDoor
open Go.RowKit
open Sx (Ab DW Turns Did Foot)
set_option maxRecDepth 100000
attribute [local go_sem ↓] rowOf_cell ebl1 ebl2 ebrDk ebrSk ebd6k ebm5k
attribute [local go_sem] rowOf_alloc soft_alloc rowOf_drew soft_drew rowOf_setRow soft_setRow frozen_of_soft Ext.row Ext.soft_ rOf_D rOf_S rcD_eq rcS_eq
theorem legsV_i (t:Tm) (d:Dl) (n:Cl):(legsV t d n).i=d.i∧(legsV t d n).h=d.h:=by
 unfold legsV
 split <;> exact ⟨rfl,rfl⟩
theorem Dae.keepB {w w':World} {D:Dm} (h:Dae w D) (hk:∀ i,D.all i→w'.heap[i]?=w.heap[i]?) (hz:w.heap.size ≤ w'.heap.size):Dae w' D:=
 ⟨(hk _ (.inl (.inl rfl))).trans h.row,h.sd.block (hk _ (.inl (.inr (.inl rfl)))),Nat.lt_of_lt_of_le h.sl hz,⟨h.jd.dw.keepB fun i hx=>hk i (.inr (.inr hx)),(hk _ (.inr (.inl rfl))).trans h.jd.jr,h.jd.ap⟩,h.hold,h.calm,h.bok.keepB fun i x hi=>hk i (.inl (.inr (.inr hi))),h.f1,h.f2⟩
theorem Lies.row {w:World} {D:Dm} {P:List (Int × En)→Prop} {R:List (Int × List Nat)} (h:Lies w D P R) {b:Nat} (hb:¬ D.all b) (C:Array Value):Lies (w.setRow b C) D P R:=
 ⟨h.dae.keepB (fun i hi=>setRow_other _ _ _ _ fun e=>hb (e ▸ hi)) (by simp [World.setRow]),h.book,h.rows,h.cal⟩
theorem Trans.row {w Z:World} {D D':Dm} (t:Trans w D Z D') {b:Nat} (hb:w.heap.size ≤ b) (C:Array Value):Trans w D (Z.setRow b C) D':=
 ⟨t.os,t.tape,t.output,Nat.le_trans t.size (by simp [World.setRow]),fun i hi hn=>⟨(setRow_other _ _ _ _ (by omega)).trans (t.keep i hi hn).1,(t.keep i hi hn).2⟩,t.xb,t.bk,t.t,t.seed,t.dv⟩
structure PSt (w V:World) (p g:Lg) (n:Cl) (s:Hs) (d:Dl) (b N:Nat):Prop where
 bx:Bxs w [(p.cells,26),(g.cells,26),(n.cells,37),(Msg.zero.cells,67)] V
 rs:V.heap[b]?=some (.cells s.cells 65)
 rd:∃ t,V.heap[N]?=some (.cells d.cells t)
 lb:w.heap.size ≤ b
 lN:w.heap.size ≤ N
theorem PSt.step {w V V':World} {p g:Lg} {n:Cl} {s:Hs} {d:Dl} {b N:Nat} (h:PSt w V p g n s d b N) (hb:Below V.heap.size V V'):PSt w V' p g n s d b N:=by
 obtain ⟨t,ht⟩:=h.rd
 exact ⟨h.bx.step hb,(hb.block _ (Array.getElem?_eq_some_iff.1 h.rs).1).trans h.rs,⟨t,(hb.block _ (Array.getElem?_eq_some_iff.1 ht).1).trans ht⟩,h.lb,h.lN⟩
theorem PSt.d {w V:World} {p g:Lg} {n:Cl} {s:Hs} {d:Dl} {b N:Nat} (h:PSt w V p g n s d b N):rowOf V N=d.cells:=by
 obtain ⟨t,ht⟩:=h.rd
 exact rowOf_of ht
def proposeD (D:Dm) (i peer:Int) (p g:Lg) (n:Cl):Dl:=legsV D.t ⟨i,1,p,g,sumH (secretH (D.seed ++ intI i)).l,peer⟩ n
def proposeM (d:Dl):Msg:=⟨1,d.i,0,d.p,d.g,d.h⟩
section
variable {w:World} {D:Dm} {n:Cl} {i peer:Int} {p g:Lg}
end
end Go.Proofs.YtjkfondgacjpnaaGreatDoor

namespace Go.Proofs.YtjkfondgacjpnaaGreatDoor
open Go.RowKit
open Sx (Ab DW Turns Did Foot)
set_option maxRecDepth 100000
attribute [local go_sem ↓] rowOf_cell
attribute [local go_sem] rowOf_alloc soft_alloc rowOf_drew soft_drew rowOf_setRow soft_setRow frozen_of_soft Ext.row Ext.soft_
def tmOf (v:Value):Tm:=⟨iAt v 0,iAt v 1,iAt v 2,iAt v 3,iAt v 4,iAt v 5,iAt v 6,iAt v 7,iAt v 8⟩
def svOf (v:Value):Sv:=match v with
 | .slice a n c=>⟨a,n,c⟩
 | _=>Sv.nil
def pbOf (v:Value):Nat:=match v with
 | .pointer (some a)=>a.block
 | _=>0
theorem tmOf_mk (t:Tm):tmOf (.agg t.cells)=t:=rfl
theorem svOf_mk (a:Option Addr) (n c:Nat):svOf (.slice a n c)=⟨a,n,c⟩:=rfl
theorem pbOf_mk (b o:Nat):pbOf (.pointer (some ⟨b,o,none⟩))=b:=rfl
theorem bdm (w:World) (t:Tm) (s:Sv) (jb bk:Nat):(Instr.build 109 #[(0,.agg t.cells),(1,.slice s.a s.n s.c),(2,.pointer (some ⟨jb,0,none⟩)),(3,.pointer (some ⟨bk,0,none⟩))]).run Tryz.prog w=.ok (.agg (dmC t s jb bk false)) w:=by kernel_rfl
theorem ebdm (w:World) (A:Act) (dst:Option Tmp) (ty:TypeId) (pos:String) (af:Array Edge) (gd:Option (Nat × Bool)) (x y z u:Operand) (hx:A.eval x=.agg (tmOf (A.eval x)).cells) (hy:A.eval y=.slice (svOf (A.eval y)).a (svOf (A.eval y)).n (svOf (A.eval y)).c) (hz:A.eval z=.pointer (some ⟨pbOf (A.eval z),0,none⟩)) (hu:A.eval u=.pointer (some ⟨pbOf (A.eval u),0,none⟩)):
  (execOp A.eval ⟨dst,.build 109 #[(0,x),(1,y),(2,z),(3,u)],ty,pos,af,gd⟩).run Tryz.prog w=.ok (.value (.agg (dmC (tmOf (A.eval x)) (svOf (A.eval y)) (pbOf (A.eval z)) (pbOf (A.eval u)) false))) w:=by
 have h:=bdm w (tmOf (A.eval x)) (svOf (A.eval y)) (pbOf (A.eval z)) (pbOf (A.eval u))
 rw [← hx,← hy,← hz,← hu] at h
 unfold execOp
 simp only [Sem.run_bind,Sem.run_pure,List.map_toArray,List.map_cons,List.map_nil,h,Result.andThen_ok]
attribute [local go_sem ↓] ebdm
attribute [local go_sem] tmOf_mk svOf_mk pbOf_mk
structure Born (F:Foot) (w:World) (D:Dm) (w':World):Prop where
 os:w'.os=w.os
 tape:w'.tape=w.tape
 output:w'.output=w.output
 size:w.heap.size ≤ w'.heap.size
 keep:∀ i,i < w.heap.size→(∀ x,¬ F i x)→w'.heap[i]?=w.heap[i]?∧¬ D.all i
theorem born_dae {w W2 W3 X2:World} {F F':Foot} {dv:Value} {A':Ab} {jb:Nat} {j:Jr} {t:Tm} {seed:List Nat} {a1:Option Addr} {n c1 bk mb:Nat} {R:List (Int × List Nat)} (hbw:Below w.heap.size w W2) (tb:TB F W2 F' W3) (jd:JD W3 F' dv A' jb j) (hjb:W2.heap.size ≤ jb) (hh:Holds A' j R) (hc:Calm A')
  (own:X2.ownsRow W3.heap.size 5 1 (.slice a1 n c1) n (bts seed)) (bok:BookAt X2 bk mb []) (hb3:Below W3.heap.size W3 X2) (l1:W3.heap.size ≤ bk) (l2:W3.heap.size ≤ mb) (h0:0 < n):
  ∃ D:Dm,D.xb=X2.heap.size∧Lies (X2.alloc (.cells (dmC t ⟨a1,n,c1⟩ jb bk false) 109)) D (·=[]) R∧D.t=t∧D.seed=seed∧Born F w D (X2.alloc (.cells (dmC t ⟨a1,n,c1⟩ jb bk false) 109))∧D.dv=dv∧(∀ i,D.all i→W3.heap.size ≤ i ∨ ∃ x,Fb F' jb i x)∧D.M=[]:=by
 have sl:=Sl.own own
 obtain ⟨sb,so,rfl,hsb,_⟩:=sl.at h0
 have ho:=own
 obtain ⟨_,⟨e,_⟩ | ⟨g,cp,cur,e,hg,hgc,_⟩⟩:=ho
 ·cases e
 cases e
 have hn:seed.length=n:=by rw [← sl.len,bts_length]
 subst hn
 have hal:Below X2.heap.size X2 (X2.alloc (.cells (dmC t ⟨some ⟨sb,0,none⟩,seed.length,c1⟩ jb bk false) 109)):=(Below.refl _ X2).alloc (Nat.le_refl _) _
 have hz:(X2.alloc (.cells (dmC t ⟨some ⟨sb,0,none⟩,seed.length,c1⟩ jb bk false) 109)).heap.size=X2.heap.size + 1:=by simp
 have bokl:∀ i x,FootB bk mb [] i x→i=bk ∨ i=mb:=fun i x h=>by
  rcases h with h | h | ⟨p,hp,_⟩
  ·exact .inl h
  ·exact .inr h
  ·cases hp
 have lb:bk < X2.heap.size:=(Array.getElem?_eq_some_iff.1 bok.ob).1
 have lm:mb < X2.heap.size:=bok.lt (x:=0) (.inr (.inl rfl))
 have z3:=hb3.size
 have nsb:sb ≠ bk:=fun q=>by have:=bok.ob;rw [← q,hgc] at this;cases this
 have nsm:sb ≠ mb:=fun q=>by obtain ⟨es,c,x,_⟩:=bok.mp;rw [← q,hgc] at x;cases x
 let D:Dm:=⟨F',X2.heap.size,jb,bk,mb,sb,c1,t,seed,dv,A',j,R,[],true⟩
 have hown:∀ i,D.own i→W3.heap.size ≤ i:=fun i hi=>by
  rcases hi with hi | hi | hi
  ·have hi:i=X2.heap.size:=hi
   omega
  ·have hi:i=sb:=hi
   omega
  ·rcases bokl i 0 hi with h | h <;> omega
 refine ⟨D,rfl,⟨⟨heap_alloc_new X2 _,sl.keep (Nat.le_refl _) hal,(by rw [hz];show sb < _;omega),(jd.below hb3).below hal,hh,fun _=>hc,bok.below hal,fun i hi=>?_,?_⟩,rfl,rfl,rfl⟩,rfl,rfl,?_,rfl,fun i hi=>hi.elim (fun q=>.inl (hown i q)) fun q=>q.elim (fun e=>.inr ⟨0,.inr e⟩) fun ⟨x,q⟩=>.inr ⟨x,.inl q⟩,rfl⟩
 ·have:=hown i hi
  refine ⟨fun e=>?_,fun x hx=>?_⟩
  ·have h1:=jd.lt
   have e:i=jb:=e
   omega
  ·have:=jd.dw.lt hx
   omega
 ·refine ⟨fun q=>?_,fun q=>?_,?_⟩
  ·rcases bokl _ 0 q with h | h
   ·have h:X2.heap.size=bk:=h
    omega
   ·have h:X2.heap.size=mb:=h
    omega
  ·exact (bokl _ 0 q).elim nsb nsm
  ·show X2.heap.size ≠ sb
   omega
 ·have zw:=hbw.size
  have zt:=tb.t.size
  refine ⟨hal.os.trans (hb3.os.trans (tb.t.os.trans hbw.os)),hal.tape.trans (hb3.tape.trans (tb.t.tape.trans hbw.tape)),hal.output.trans (hb3.output.trans (tb.t.output.trans hbw.output)),by rw [hz];omega,fun i hi hn=>⟨?_,fun q=>?_⟩⟩
  ·exact (hal.block i (by omega)).trans ((hb3.block i (by omega)).trans ((tb.t.block i (by omega) hn).trans (hbw.block i hi)))
  ·rcases q with q | q | ⟨x,hx⟩
   ·have:=hown i q
    omega
   ·have q:i=jb:=q
    omega
   ·rcases tb.fb i x hx with h | h
    ·exact hn x h
    ·omega
set_option maxHeartbeats 2000000 in
theorem Open_new {w:World} {F:Foot} {dv:Value} {A A':Ab} {j:Jr} (H:DW w F dv A) (hA:Ab.Sm A) (ho:openP A=⟨0,A',j,[]⟩) (hh:Holds A' j []) (hc:Calm A') {t:Tm} (hk:TmK t) {b o n c:Nat} {seed:List Nat} (hs:Sl w (some ⟨b,o,none⟩) n c (bts seed)) (h0:0 < n) (hn:n ≤ 64) (hb:b < w.heap.size) (hF:∀ x,¬ F b x):
   Calls Tryz.prog 58 #[.agg t.cells,.slice (some ⟨b,o,none⟩) n c,dv] w fun e w'=>∃ D,e=.returned (.tuple #[.pointer (some ⟨D.xb,0,none⟩),.int .i64 0])∧Lies w' D (·=[]) []∧D.t=t∧D.seed=seed∧Born F w D w'∧D.dv=dv:=by
 have HK:=Lib.hid hk
 have HH:=Lib.hid hh
 have HC:=Lib.hid hc
 have HS:=Lib.hid hs
 have HF:=Lib.hid hF
 have HB:=Lib.hid hb
 have HD:=Lib.hid H
 have HA:=Lib.hid hA
 have HO:=Lib.hid ho
 have hn2:((n:Int) > 64)=False:=eq_false (by omega)
 obtain ⟨db,dof,rfl⟩:=dw_form H
 clear hk hh hc hs hF hb H hA ho
 go_enter Tryz.func58,Tryz.ntmps58
 go_upto_region 1 with (fail)
 have bx:=Bx.new w (t.cells) 53;generalize w.alloc (.cells (t.cells) 53)=W at bx ⊢;have rx:=bx.rowOf;have sx:=bx.soft;have BX:=Lib.hid bx;clear bx
 have Q:=QCheck_any t W
 rw [HK.out.chk] at Q
 have Q:=Lib.hid Q
 go_wp2_with fail
 refine (Q.out).mono ?_;rintro _ W2 ⟨rfl,hb⟩;have bx:=BX.out.step hb;clear BX rx sx hb;have rx:=bx.rowOf;have sx:=bx.soft;have BX:=Lib.hid bx;clear bx
 have hbW:=BX.out.below
 have O:=Lib.hid (Open_ok (HD.out.below hbW) HA.out HO.out)
 clear hbW
 go_wp2_with fail
 refine O.out.mono ?_
 rintro _ W3 ⟨F',jb,ao,cc,L,rfl,jd,tb,hjb,_,_⟩
 have l0:w.heap.size < W2.heap.size:=(Array.getElem?_eq_some_iff.1 BX.out.row).1
 have n0:∀ x,¬ F w.heap.size x:=fun x q=>absurd (HD.out.lt q) (Nat.lt_irrefl _)
 have rt:rowOf W3.drew w.heap.size=t.cells:=rowOf_of ((tb.t.block _ l0 n0).trans BX.out.row)
 have lt3:w.heap.size < W3.heap.size:=Nat.lt_of_lt_of_le l0 tb.t.size
 have hs3:Sl W3.drew (some ⟨b,o,none⟩) n c (bts seed):=HS.out.block ((tb.t.block b (Nat.lt_of_lt_of_le HB.out BX.out.below.size) HF.out).trans (BX.out.below.block b HB.out))
 have CA:=Lib.hid (Clone_any hs3 (by omega))
 have NB:=Lib.hid (New_book W3.drew)
 have HS3:=Lib.hid hs3
 have JD:=Lib.hid jd
 have TB:=Lib.hid tb
 have JB:=Lib.hid hjb
 have L0:=Lib.hid l0
 clear jd tb hjb l0 n0 hs3 rx sx O Q
 go_upto_region 9 with (fail)
 have keep:∀ X:World,Below W3.drew.heap.size W3.drew X→rowOf X w.heap.size=t.cells:=fun X hX=>by
   have:X.heap[w.heap.size]?=W3.drew.heap[w.heap.size]?:=hX.block _ lt3
   unfold rowOf at rt ⊢
   rw [this]
   exact rt
 have KP:=Lib.hid keep
 clear keep
 go_region_held3 (fun w'=>rowOf w' w.heap.size=t.cells) (first | exact rt | exact r1 | exact r2 | exact r3)
   (first
     | (go_at_call 37;refine CA.out.mono ?_;rintro _ X1 ⟨a1,c1,rfl,hb1,own1⟩
        have r1:=KP.out X1 hb1
        have NA:=Lib.hid (New_book X1)
        have O1:=Lib.hid own1
        have B1:=Lib.hid hb1
        clear own1 hb1)
     | (go_at_call 85;refine NA.out.mono ?_;rintro _ X2 ⟨bk,mb,rfl,k1,k2,k3,k4⟩
        have r2:=KP.out X2 (B1.out.trans (k2.mono B1.out.size))
        have r3:=KP.out (X2.alloc (.cells (dmC t ⟨a1,n,c1⟩ jb bk false) 109)) ((B1.out.trans (k2.mono B1.out.size)).alloc (B1.out.trans (k2.mono B1.out.size)).size _)
        have FIN:=Lib.hid (And.intro (own_keep O1.out (Nat.le_refl _) k2) (And.intro k1 (And.intro (B1.out.trans (k2.mono B1.out.size)) (And.intro (Nat.le_trans B1.out.size k3) (Nat.le_trans B1.out.size k4)))))
        clear k1 k2 k3 k4)
     | (go_at_call 85;refine NB.out.mono ?_;rintro _ X1 ⟨bk,mb,rfl,k1,k2,k3,k4⟩
        have r1:=KP.out X1 k2
        have CB:=Lib.hid (Clone_any (w:=X1) (HS3.out.keep (Nat.le_refl _) k2) (by omega))
        have K1:=Lib.hid k1
        have K2:=Lib.hid k2
        have K3:=Lib.hid (And.intro k3 k4)
        clear k1 k2 k3 k4)
     | (go_at_call 37;refine CB.out.mono ?_;rintro _ X2 ⟨a1,c1,rfl,hb1,own1⟩
        have r2:=KP.out X2 (K2.out.trans (hb1.mono K2.out.size))
        have r3:=KP.out (X2.alloc (.cells (dmC t ⟨a1,n,c1⟩ jb bk false) 80)) ((K2.out.trans (hb1.mono K2.out.size)).alloc (K2.out.trans (hb1.mono K2.out.size)).size _)
        have FIN:=Lib.hid (And.intro (own_base own1 K2.out.size) (And.intro (K1.out.below hb1) (And.intro (K2.out.trans (hb1.mono K2.out.size)) K3.out)))
        clear own1 hb1))
 all_goals obtain ⟨D,e1,q1,q2,q3,q4,q5,_,_⟩:=born_dae (t:=t) BX.out.below TB.out JD.out JB.out HH.out HC.out FIN.out.1 FIN.out.2.1 ((Below.refl W3.heap.size W3).drew.trans FIN.out.2.2.1) FIN.out.2.2.2.1 FIN.out.2.2.2.2 h0
 all_goals rw [← e1]
 all_goals generalize X2.alloc _=Y at *
 all_goals have RES:=Lib.hid (And.intro q1 (And.intro q2 (And.intro q3 (And.intro q4 q5))))
 all_goals clear q1 q2 q3 q4 q5 e1 FIN r1 r2 r3 rt lt3
 all_goals go_upto_region 11 with (fail)
 all_goals go_loopw [43] (fun i wr=>i=.int .i64 0∧wr=Y) (fun _ _=>0)
 case atStart=>exact ⟨rfl,rfl⟩
 case round=>
   obtain ⟨rfl,rfl⟩:=hrel
   go_wp2
   refine bodyPost_ret (results_tmp2 rfl _ _ _) rfl ?_
   exact ⟨D,rfl,RES.out⟩
end Go.Proofs.YtjkfondgacjpnaaGreatDoor
namespace Go.Proofs.YtjkfondgacjpnaaGreatDoor
open Go.RowKit
open Sx (Ab DW Turns Did Foot)
set_option maxRecDepth 100000
def T26:Tm:=⟨10,1000,5,100,1000,2,3,4,2⟩
theorem T26_ok:TmK T26:=⟨by kernel_rfl,⟨by decide,by decide,by decide,by decide⟩,by decide,by decide,by decide⟩
attribute [local go_sem ↓] rowOf_cell
attribute [local go_sem] rowOf_alloc soft_alloc rowOf_drew soft_drew rowOf_setRow soft_setRow frozen_of_soft Ext.row Ext.soft_
theorem T26_lit:(#[Value.int .i64 10,Value.int .i64 1000,Value.int .i64 5,Value.int .i64 100,Value.int .i64 1000,Value.int .i64 2,Value.int .i64 3,Value.int .i64 4,Value.int .i64 2]:Array Value)=T26.cells:=rfl
attribute [local go_sem] T26_lit
theorem Terms_any (w:World):Calls Tryz.prog 22 #[] w fun e w'=>e=.returned (.agg T26.cells)∧Below w.heap.size w w':=by
 go_enter Tryz.func22,Tryz.ntmps22
 go_upto_region 1 with (fail)
 have bx:=Bx.new w (Tm.cells ⟨0,0,0,0,0,0,0,0,0⟩) 53
 rw [show (#[Value.int .i64 0,Value.int .i64 0,Value.int .i64 0,Value.int .i64 0,Value.int .i64 0,Value.int .i64 0,Value.int .i64 0,Value.int .i64 0,Value.int .i64 0]:Array Value)=Tm.cells ⟨0,0,0,0,0,0,0,0,0⟩ from rfl]
 generalize w.alloc (.cells (Tm.cells ⟨0,0,0,0,0,0,0,0,0⟩) 53)=W at bx ⊢
 have rx:=bx.rowOf
 have sx:=bx.soft
 have BX:=Lib.hid bx
 clear bx
 go_wp2
 have hc:rowOf (World.setRow W w.heap.size T26.cells) w.heap.size=T26.cells:=(rowOf_setRow _ _ _ _ sx).trans (if_pos rfl)
 refine bodyPost_ret (results_row (t:=53) rfl Tryz.underlying53 rfl (by kernel_rfl) _ _ w.heap.size rfl hc (tm_size _)) rfl ?_
 exact ⟨rfl,Below.setRow_ BX.out.below (Nat.le_refl _) _⟩
def seedL:List Nat:=[115,101,101,100]
def seedC:Array Value:=#[.int .u8 115,.int .u8 101,.int .u8 101,.int .u8 100]
def seedW (w:World):World:=w.alloc (.cells seedC 5 (4,5))
theorem conv_seed (w:World):(convert 56 56 (.slice (some ⟨w.heap.size,0,none⟩) 4 4)).run Tryz.prog (w.alloc (.cells seedC 5))=.ok (.slice (some ⟨w.heap.size,0,none⟩) 4 4) (seedW w):=
 Go.Lib.run_convert_bytes_const w 56 5 seedC 4 4 Tryz.underlying56 Tryz.underlying5
theorem seed_lit (w:World):(#[Value.int .u8 115,Value.int .u8 101,Value.int .u8 101,Value.int .u8 100]:Array Value)=seedC:=rfl
structure Mine (w V:World) (D:Dm):Prop where
 low:Below w.heap.size w V
 own:∀ i,i < w.heap.size→¬ D.all i
theorem Mine.trans {w V V':World} {D D':Dm} (h:Mine w V D) (t:Trans V D V' D'):Mine w V' D':=
 ⟨⟨t.os.trans h.low.os,t.tape.trans h.low.tape,t.output.trans h.low.output,Nat.le_trans h.low.size t.size,fun i hi=>(t.keep i (Nat.lt_of_lt_of_le hi h.low.size) (h.own i hi)).1.trans (h.low.block i hi)⟩,
  fun i hi=>(t.keep i (Nat.lt_of_lt_of_le hi h.low.size) (h.own i hi)).2⟩
theorem Mine.base {w V:World} {D:Dm} (h:Mine w V D) (hf:Forms w) (ht:Tabs w):Base V D:=
 let ⟨_,g4⟩:=ht.g4
 let ⟨_,g5⟩:=ht.g5
 ⟨hf.keep (Nat.le_refl _) h.low,ht.keep (Nat.le_refl _) h.low,h.own _ hf.lt,h.own _ (Array.getElem?_eq_some_iff.1 g4).1,h.own _ (Array.getElem?_eq_some_iff.1 g5).1⟩
theorem Book_any {w:World} {D:Dm} (h:Dae w D):Calls Tryz.prog 32 #[.pointer (some ⟨D.xb,0,none⟩)] w fun e w'=>e=.returned (.pointer (some ⟨D.bk,0,none⟩))∧w'=w:=by
 have rD:=rowOf_of h.row
 unfold Dm.cells at rD
 clear h
 go_enter Tryz.func32,Tryz.ntmps32
 go_wp2
 go_ret
 exact ⟨rfl,rfl⟩
theorem eql_h (h:Hs) (w:World):(binOp .eql 65 (.agg h.cells) (.agg h.cells)).run Tryz.prog w=.ok (.bool true) w:=by
 obtain ⟨f,rfl⟩:=h.form
 have e:=eq39 f 9998
 rw [hexp_eq]
 simp [go_sem,e]
theorem eeql39 (w:World) (ρ:Operand→Value) (x y:Operand) (dst:Option Tmp) (ty:TypeId) (pos:String) (af:Array Edge) (gd:Option (Nat × Bool)) (r:TypeId) (h1:ρ x=ρ y) (h2:IsH (ρ y)):(execOp ρ ⟨dst,.binOp .eql 65 x y r,ty,pos,af,gd⟩).run Tryz.prog w=.ok (.value (.bool true)) w:=by
 obtain ⟨m,hm⟩:=h2
 unfold execOp
 simp only [Sem.run_bind,h1,hm,eqg39 _ _ _ _ _ _ (.inr rfl),Result.andThen_ok,eql_h,Sem.run_pure]
attribute [local go_sem ↓] eeql39
attribute [local go_sem] seed_lit conv_seed is_h
end Go.Proofs.YtjkfondgacjpnaaGreatDoor
namespace Go.Proofs.YtjkfondgacjpnaaGreatDoor
open Go.RowKit
set_option maxRecDepth 100000
theorem fee26 {a:Int} (h0:100 ≤ a) (h1:a ≤ 1000):feeV T26 a.toNat=(16,0):=by
 have hp:partV a.toNat (T26.ppm).toNat=1:=by show (a.toNat * 1000 + 999999) / 1000000=1;omega
 have ht:totV [T26.base,((1:Nat):Int),T26.reserve]=(16,0):=by kernel_rfl
 have hs:asumV 16 (a.toNat:Nat)=((16:Int) + (a.toNat:Nat),(0:Int)):=by
  unfold asumV
  rw [if_pos]
  unfold aisA
  omega
 unfold feeV
 rw [hp,ht]
 simp only []
 rw [hs]
 simp
theorem quote26' (a free:Int):quoteV T26 a free=if a < 100 ∨ a > 1000 ∨ a > free then (0,22) else (a + 16,0):=by
 unfold quoteV
 by_cases h:a < T26.least ∨ a > T26.most ∨ a > free
 ·have h':a < 100 ∨ a > 1000 ∨ a > free:=h
  rw [if_pos h,if_pos h']
 ·have h':¬ (a < 100 ∨ a > 1000 ∨ a > free):=h
  rw [if_neg h,if_neg h',fee26 (by omega) (by omega)]
  rw [if_neg (by simp)]
theorem safe_told (t:Tm) (d:Dl) (n:Cl):safeE t d n=23 ∨ safeE t d n=0:=by
 unfold safeE
 split
 ·exact .inl rfl
 ·exact .inr rfl
theorem takes_told (d:Dl) (n:Cl) (free:Int):0 ≤ takesE T26 d n free∧takesE T26 d n free ≤ 24:=by
 unfold takesE
 split
 ·unfold errD
  split <;> decide
 ·split
  ·rw [quote26']
   split
   ·exact ⟨by show (0:Int) ≤ 22;decide,by show (22:Int) ≤ 24;decide⟩
   ·exact ⟨by show (0:Int) ≤ 0;decide,by show (0:Int) ≤ 24;decide⟩
  ·split
   ·decide
   ·rcases safe_told T26 d n with h | h <;> rw [h] <;> decide
theorem accept_ok {d:Dl} (h:dealOk d=true):idE d.i (propE (acceptM d))=0∧I64 d.i∧LgI d.p∧LgI d.g:=by
 have hin:=dealOk_in h
 unfold dealOk legOk at h
 simp only [Bool.and_eq_true] at h
 obtain ⟨h1,_,⟨h3,h4,h5⟩,⟨h6,h7,h8⟩,h9,_⟩:=h
 have w1:=of_decide_eq_true h1
 have w3:=of_decide_eq_true h3
 have w4:=of_decide_eq_true h4
 have w5:=of_decide_eq_true h5
 have w6:=of_decide_eq_true h6
 have w7:=of_decide_eq_true h7
 have w8:=of_decide_eq_true h8
 have hne:d.p.w ≠ d.g.w:=by simpa using h9
 refine ⟨?_,hin.i.i64,⟨hin.pw.i64,hin.pa.i64,hin.pu.i64⟩,⟨hin.gw.i64,hin.ga.i64,hin.gu.i64⟩⟩
 have e1:legE d.p=0:=by unfold legE;rw [if_neg (by omega),if_neg (by omega),if_neg (by omega)]
 have e2:legE d.g=0:=by unfold legE;rw [if_neg (by omega),if_neg (by omega),if_neg (by omega)]
 unfold idE propE acceptM
 rw [if_neg (by omega),if_neg (by simp only;omega),if_neg (by simp only;omega),if_neg hne,if_neg (by simp)]
theorem small_putC (i c:Int):Small (putC i c):=((intI_small _).append (intI_small _)).append (intI_small _)
theorem putC_len (i c:Int):(putC i c).length ≤ 27:=by
 have h1:=intI_len 3
 have h2:=intI_len i
 have h3:=intI_len c
 unfold putC
 simp only [List.length_append]
 omega
theorem small_legI (l:Lg):Small (legI l):=((intI_small _).append (intI_small _)).append (intI_small _)
theorem small_putLM {m:Msg} (h:Small m.h.l):Small (putLM m):=(((intI_small _).append (intI_small _)).append ((small_legI _).append (small_legI _))).append h
theorem putLM_len (m:Msg):(putLM m).length ≤ 104:=by
 have h1:=intI_len m.k
 have h2:=intI_len m.i
 have h3:=legI_len m.p
 have h4:=legI_len m.g
 have h5:=m.h.hl
 unfold putLM legsI
 simp only [List.length_append]
 omega
end Go.Proofs.YtjkfondgacjpnaaGreatDoor
