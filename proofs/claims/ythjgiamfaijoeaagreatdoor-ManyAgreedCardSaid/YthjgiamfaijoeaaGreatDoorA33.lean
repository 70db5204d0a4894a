/- What is proved: parts of the walk and of the plain law. No condition but those each law names. -/
import Derived.Test.YthjgiamfaijoeaaGreatDoorA31
import Derived.Test.YthjgiamfaijoeaaGreatDoorA26
import Derived.Lib.SlBytesConst
import Derived.Test.YthjgiamfaijoeaaGreatDoorA32
import Derived.Test.YthjgiamfaijoeaaGreatDoorA00
set_option linter.unusedSimpArgs false
set_option linter.unusedVariables false
namespace Go.Proofs.YthjgiamfaijoeaaGreatDoor
open Go.RowKit
open Sx (Ab DW Turns Did Foot)
set_option maxRecDepth 100000
attribute [local go_sem ↓] zad ebl1 ebl2 zug zuh zabs
attribute [local go_sem] zaf zai zaj zal zab zah zae Ext.row Ext.soft_ zue zuf zly zlz
def zdq (t:Tm) (d:Dl) (n:Cl) (free:Int):Int:=if errD d ≠ 0 then errD d else if (zc4 t d.p.a free).2 ≠ 0 then (zc4 t d.p.a free).2 else if d.g.a < (zc4 t d.p.a free).1 then 22 else zey t d n
section
variable {w:World} {D:Dm} {d:Dl} {n:Cl} {free:Int}
theorem zrb {k:Int} (h:Dae w D) (e1:errD d=k) (k0:(k == 0)=false):Calls Tryz.prog 164 #[.pointer (some ⟨D.xb,0,none⟩),.agg d.cells,.agg n.cells,.int .i64 free] w fun e w'=>e=.returned (.int .i64 k)∧Below w.heap.size w w':=by
 have H:=zac8 h
 have H1:=zac8 e1
 go_enter Tryz.func164,Tryz.ntmps164
 go_upto_region 1 with (fail)
 have bx:=Bxs.new2 w (d.cells) 60 (n.cells) 52;generalize ((w.alloc (.cells (d.cells) 60)).alloc (.cells (n.cells) 52))=W at bx ⊢;have rx0:=bx.row' 0 rfl;have sx0:=bx.soft' 0 rfl;(try simp only [Nat.add_zero] at rx0 sx0);have rx1:=bx.row' 1 rfl;have sx1:=bx.soft' 1 rfl;(try simp only [Nat.add_zero] at rx1 sx1);have BX:=zac8 bx;clear bx
 go_wp2_with fail
 refine (zfa H1.out _).mono ?_;rintro _ W2 ⟨rfl,hb⟩;have bx:=BX.out.step hb;clear BX hb rx0 sx0 rx1 sx1;have rx0:=bx.row' 0 rfl;have sx0:=bx.soft' 0 rfl;(try simp only [Nat.add_zero] at rx0 sx0);have rx1:=bx.row' 1 rfl;have sx1:=bx.soft' 1 rfl;(try simp only [Nat.add_zero] at rx1 sx1);have BX:=zac8 bx;clear bx
 go_wp2
 go_ret
 exact ⟨rfl,BX.out.below⟩
set_option maxHeartbeats 2000000 in
theorem znz {v q:Int} (h:Dae w D) (HT:Hid (TmK D.t)) (e1:errD d=0) (H2:Hid (zc4 D.t d.p.a free=(v,q))) (q0:(q == 0)=false):Calls Tryz.prog 164 #[.pointer (some ⟨D.xb,0,none⟩),.agg d.cells,.agg n.cells,.int .i64 free] w fun e w'=>e=.returned (.int .i64 q)∧Below w.heap.size w w':=by
 have H:=zac8 h
 have H1:=zac8 e1
 go_enter Tryz.func164,Tryz.ntmps164
 go_upto_region 1 with (fail)
 have bx:=Bxs.new2 w (d.cells) 60 (n.cells) 52;generalize ((w.alloc (.cells (d.cells) 60)).alloc (.cells (n.cells) 52))=W at bx ⊢;have rx0:=bx.row' 0 rfl;have sx0:=bx.soft' 0 rfl;(try simp only [Nat.add_zero] at rx0 sx0);have rx1:=bx.row' 1 rfl;have sx1:=bx.soft' 1 rfl;(try simp only [Nat.add_zero] at rx1 sx1);have BX:=zac8 bx;clear bx
 go_wp2_with fail
 refine (zfa H1.out _).mono ?_;rintro _ W2 ⟨rfl,hb⟩;have bx:=BX.out.step hb;clear BX hb rx0 sx0 rx1 sx1;have rx0:=bx.row' 0 rfl;have sx0:=bx.soft' 0 rfl;(try simp only [Nat.add_zero] at rx0 sx0);have rx1:=bx.row' 1 rfl;have sx1:=bx.soft' 1 rfl;(try simp only [Nat.add_zero] at rx1 sx1);have BX:=zac8 bx;clear bx
 have D2:=H.out.below BX.out.below
 have rD:=zaa D2.row
 unfold Dm.cells at rD
 have Q:∀ w,Calls Tryz.prog 229 #[.agg D.t.cells,.int .i64 d.p.a,.int .i64 free] w (Ret (.tuple #[.int .i64 v,.int .i64 q]) w):=fun w=>by
  have:=zbz (zft HT.out d.p.a free w)
  rw [H2.out] at this
  exact this
 have Q:=zac8 Q
 have lx:D.xb < W2.heap.size:=D2.lt (.inl rfl)
 have l0:=BX.out.lt 0 rfl
 have l1:=BX.out.lt 1 rfl
 simp only [Nat.add_zero] at l0
 clear D2
 go_upto_region 4 with (fail)
 (refine zay (by kernel_rfl) (by kernel_rfl) ?_;(repeat (go_big_quiet_step (((go_at_call 229;exact Calls.ext_of (Q.out _))))));refine wpQuiet_nil ?_;rintro _ ⟨g,rfl⟩)
 have bx:=BX.out.step g.below;clear BX rx0 sx0 rx1 sx1;have rx0:=bx.row' 0 rfl;have sx0:=bx.soft' 0 rfl;(try simp only [Nat.add_zero] at rx0 sx0);have rx1:=bx.row' 1 rfl;have sx1:=bx.soft' 1 rfl;(try simp only [Nat.add_zero] at rx1 sx1);have BX:=zac8 bx;clear bx
 generalize g.val=V at *
 go_wp2
 go_ret
 exact ⟨rfl,BX.out.below⟩
set_option maxHeartbeats 2000000 in
theorem zrc {v q:Int} (h:Dae w D) (HT:Hid (TmK D.t)) (e1:errD d=0) (H2:Hid (zc4 D.t d.p.a free=(v,q))) (q0:q=0) (e3:(d.g.a < v)=True):Calls Tryz.prog 164 #[.pointer (some ⟨D.xb,0,none⟩),.agg d.cells,.agg n.cells,.int .i64 free] w fun e w'=>e=.returned (.int .i64 22)∧Below w.heap.size w w':=by
 subst q0
 have H:=zac8 h
 have H1:=zac8 e1
 go_enter Tryz.func164,Tryz.ntmps164
 go_upto_region 1 with (fail)
 have bx:=Bxs.new2 w (d.cells) 60 (n.cells) 52;generalize ((w.alloc (.cells (d.cells) 60)).alloc (.cells (n.cells) 52))=W at bx ⊢;have rx0:=bx.row' 0 rfl;have sx0:=bx.soft' 0 rfl;(try simp only [Nat.add_zero] at rx0 sx0);have rx1:=bx.row' 1 rfl;have sx1:=bx.soft' 1 rfl;(try simp only [Nat.add_zero] at rx1 sx1);have BX:=zac8 bx;clear bx
 go_wp2_with fail
 refine (zfa H1.out _).mono ?_;rintro _ W2 ⟨rfl,hb⟩;have bx:=BX.out.step hb;clear BX hb rx0 sx0 rx1 sx1;have rx0:=bx.row' 0 rfl;have sx0:=bx.soft' 0 rfl;(try simp only [Nat.add_zero] at rx0 sx0);have rx1:=bx.row' 1 rfl;have sx1:=bx.soft' 1 rfl;(try simp only [Nat.add_zero] at rx1 sx1);have BX:=zac8 bx;clear bx
 have D2:=H.out.below BX.out.below
 have rD:=zaa D2.row
 unfold Dm.cells at rD
 have Q:∀ w,Calls Tryz.prog 229 #[.agg D.t.cells,.int .i64 d.p.a,.int .i64 free] w (Ret (.tuple #[.int .i64 v,.int .i64 0]) w):=fun w=>by
  have:=zbz (zft HT.out d.p.a free w)
  rw [H2.out] at this
  exact this
 have Q:=zac8 Q
 have lx:D.xb < W2.heap.size:=D2.lt (.inl rfl)
 have l0:=BX.out.lt 0 rfl
 have l1:=BX.out.lt 1 rfl
 simp only [Nat.add_zero] at l0
 clear D2
 go_upto_region 4 with (fail)
 (refine zay (by kernel_rfl) (by kernel_rfl) ?_;(repeat (go_big_quiet_step (((go_at_call 229;exact Calls.ext_of (Q.out _))))));refine wpQuiet_nil ?_;rintro _ ⟨g,rfl⟩)
 have bx:=BX.out.step g.below;clear BX rx0 sx0 rx1 sx1;have rx0:=bx.row' 0 rfl;have sx0:=bx.soft' 0 rfl;(try simp only [Nat.add_zero] at rx0 sx0);have rx1:=bx.row' 1 rfl;have sx1:=bx.soft' 1 rfl;(try simp only [Nat.add_zero] at rx1 sx1);have BX:=zac8 bx;clear bx
 generalize g.val=V at *
 go_wp2
 go_ret
 exact ⟨rfl,BX.out.below⟩
set_option maxHeartbeats 2000000 in
theorem zrd {v s:Int} (h:Dae w D) (HT:Hid (TmK D.t)) (e1:errD d=0) (H2:Hid (zc4 D.t d.p.a free=(v,0))) (e3:(d.g.a < v)=False) (H4:Hid (zey D.t d n=s)) (s0:(s == 0)=false):Calls Tryz.prog 164 #[.pointer (some ⟨D.xb,0,none⟩),.agg d.cells,.agg n.cells,.int .i64 free] w fun e w'=>e=.returned (.int .i64 s)∧Below w.heap.size w w':=by
 have H:=zac8 h
 have H1:=zac8 e1
 go_enter Tryz.func164,Tryz.ntmps164
 go_upto_region 1 with (fail)
 have bx:=Bxs.new2 w (d.cells) 60 (n.cells) 52;generalize ((w.alloc (.cells (d.cells) 60)).alloc (.cells (n.cells) 52))=W at bx ⊢;have rx0:=bx.row' 0 rfl;have sx0:=bx.soft' 0 rfl;(try simp only [Nat.add_zero] at rx0 sx0);have rx1:=bx.row' 1 rfl;have sx1:=bx.soft' 1 rfl;(try simp only [Nat.add_zero] at rx1 sx1);have BX:=zac8 bx;clear bx
 go_wp2_with fail
 refine (zfa H1.out _).mono ?_;rintro _ W2 ⟨rfl,hb⟩;have bx:=BX.out.step hb;clear BX hb rx0 sx0 rx1 sx1;have rx0:=bx.row' 0 rfl;have sx0:=bx.soft' 0 rfl;(try simp only [Nat.add_zero] at rx0 sx0);have rx1:=bx.row' 1 rfl;have sx1:=bx.soft' 1 rfl;(try simp only [Nat.add_zero] at rx1 sx1);have BX:=zac8 bx;clear bx
 have D2:=H.out.below BX.out.below
 have rD:=zaa D2.row
 unfold Dm.cells at rD
 have Q:∀ w,Calls Tryz.prog 229 #[.agg D.t.cells,.int .i64 d.p.a,.int .i64 free] w (Ret (.tuple #[.int .i64 v,.int .i64 0]) w):=fun w=>by
  have:=zbz (zft HT.out d.p.a free w)
  rw [H2.out] at this
  exact this
 have Q:=zac8 Q
 have lx:D.xb < W2.heap.size:=D2.lt (.inl rfl)
 have l0:=BX.out.lt 0 rfl
 have l1:=BX.out.lt 1 rfl
 simp only [Nat.add_zero] at l0
 clear D2
 go_upto_region 4 with (fail)
 (refine zay (by kernel_rfl) (by kernel_rfl) ?_;(repeat (go_big_quiet_step (((go_at_call 229;exact Calls.ext_of (Q.out _))))));refine wpQuiet_nil ?_;rintro _ ⟨g,rfl⟩)
 have bx:=BX.out.step g.below;clear BX rx0 sx0 rx1 sx1;have rx0:=bx.row' 0 rfl;have sx0:=bx.soft' 0 rfl;(try simp only [Nat.add_zero] at rx0 sx0);have rx1:=bx.row' 1 rfl;have sx1:=bx.soft' 1 rfl;(try simp only [Nat.add_zero] at rx1 sx1);have BX:=zac8 bx;clear bx
 have D3:=H.out.below BX.out.below
 have rD:=zaa D3.row
 unfold Dm.cells at rD
 have lx:D.xb < g.val.heap.size:=D3.lt (.inl rfl)
 have l0:=BX.out.lt 0 rfl
 have l1:=BX.out.lt 1 rfl
 simp only [Nat.add_zero] at l0
 clear D3
 generalize g.val=V at *
 go_upto_region 9 with (fail)
 have K:∀ w,Calls Tryz.prog 230 #[.agg D.t.cells,.agg d.cells,.agg n.cells] w (Ret (.int .i64 s) w):=fun w=>by
  have:=zbz (zo7 HT.out.tm d n w)
  rw [H4.out] at this
  exact this
 have K:=zac8 K
 (refine zay (by kernel_rfl) (by kernel_rfl) ?_;(repeat (go_big_quiet_step (((go_at_call 230;exact Calls.ext_of (K.out _))))));refine wpQuiet_nil ?_;rintro _ ⟨g2,rfl⟩)
 have bx:=BX.out.step g2.below;clear BX rx0 sx0 rx1 sx1;have rx0:=bx.row' 0 rfl;have sx0:=bx.soft' 0 rfl;(try simp only [Nat.add_zero] at rx0 sx0);have rx1:=bx.row' 1 rfl;have sx1:=bx.soft' 1 rfl;(try simp only [Nat.add_zero] at rx1 sx1);have BX:=zac8 bx;clear bx
 generalize g2.val=X at *
 go_wp2
 go_ret
 exact ⟨rfl,BX.out.below⟩
end
theorem zxg {w:World} {D:Dm} {d:Dl} {n:Cl} {free k:Int} (h:Dae w D) (hT:TmK D.t) (hk:zdq D.t d n free=k) (k0:k ≠ 0):Calls Tryz.prog 164 #[.pointer (some ⟨D.xb,0,none⟩),.agg d.cells,.agg n.cells,.int .i64 free] w fun e w'=>e=.returned (.int .i64 k)∧Below w.heap.size w w':=by
 subst hk
 unfold zdq at k0 ⊢
 by_cases h1:errD d ≠ 0
 ·rw [if_pos h1]
  exact zrb h rfl (by rw [beq_eq_false_iff_ne];exact h1)
 ·rw [if_neg h1] at k0 ⊢
  have h1:errD d=0:=by omega
  by_cases h2:(zc4 D.t d.p.a free).2 ≠ 0
  ·rw [if_pos h2]
   exact znz h (zac8 hT) h1 (zac8 rfl) (by rw [beq_eq_false_iff_ne];exact h2)
  ·rw [if_neg h2] at k0 ⊢
   have h2:(zc4 D.t d.p.a free).2=0:=by omega
   by_cases h3:d.g.a < (zc4 D.t d.p.a free).1
   ·rw [if_pos h3]
    exact zrc h (zac8 hT) h1 (zac8 rfl) h2 (eq_true h3)
   ·rw [if_neg h3] at k0 ⊢
    exact zrd h (zac8 hT) h1 (zac8 (Prod.ext rfl h2)) (eq_false h3) (zac8 rfl) (by rw [beq_eq_false_iff_ne];exact k0)
theorem zih {t:Tm} {d:Dl} {n:Cl} {free:Int} (h:zdq t d n free=0):za6 d=true∧(∃ v,zc4 t d.p.a free=(v,0)∧¬ d.g.a < v)∧zey t d n=0:=by
 unfold zdq at h
 split at h
 ·rename_i q;exact absurd h q
 ·split at h
  ·rename_i q;exact absurd h q
  ·split at h
   ·omega
   ·rename_i q1 q2 q3
    refine ⟨?_,⟨_,Prod.ext rfl (by omega),q3⟩,h⟩
    unfold errD at q1
    cases hd:za6 d with
    | true=>rfl
    | false=>rw [hd] at q1;simp at q1
end Go.Proofs.YthjgiamfaijoeaaGreatDoor
namespace Go.Proofs.YthjgiamfaijoeaaGreatDoor
open Go.RowKit
open Sx (Ab DW Turns Did Foot)
set_option maxRecDepth 100000
section
variable (w:World) (dst:Option Tmp) (ty:TypeId) (pos:String) (af:Array Edge) (gd:Option (Nat × Bool))
theorem zxh (A:Act) (a p g h q:Operand) (k:Int) (ha:A.eval a=.int .i64 (iv (A.eval a))) (hp:A.eval p=.agg (lOf (A.eval p)).cells) (hg:A.eval g=.agg (lOf (A.eval g)).cells) (hh:A.eval h=.agg (hOf (A.eval h)).cells) (hq:A.eval q=.int .i64 (iv (A.eval q))):
  (execOp A.eval ⟨dst,.build 60 #[(0,a),(1,.const (.int .i64 k)),(2,p),(3,g),(4,h),(5,q)],ty,pos,af,gd⟩).run Tryz.prog w=.ok (.value (.agg (Dl.cells ⟨iv (A.eval a),k,lOf (A.eval p),lOf (A.eval g),hOf (A.eval h),iv (A.eval q)⟩))) w:=
 ebd6 w A.eval dst ty pos af gd a (.const (.int .i64 k)) p g h q ha rfl hp hg hh hq
theorem zul (A:Act) (a p g h:Operand) (k:Int) (ha:A.eval a=.int .i64 (iv (A.eval a))) (hp:A.eval p=.agg (lOf (A.eval p)).cells) (hg:A.eval g=.agg (lOf (A.eval g)).cells) (hh:A.eval h=.agg (hOf (A.eval h)).cells):
  (execOp A.eval ⟨dst,.build 118 #[(0,.const (.int .i64 k)),(1,a),(3,p),(4,g),(5,h)],ty,pos,af,gd⟩).run Tryz.prog w=.ok (.value (.agg (Msg.cells ⟨k,iv (A.eval a),0,lOf (A.eval p),lOf (A.eval g),hOf (A.eval h)⟩))) w:=
 ebm5 w A.eval dst ty pos af gd (.const (.int .i64 k)) a p g h rfl ha hp hg hh
end
attribute [local go_sem ↓] zad zxh zul
attribute [local go_sem] zaf zai zaj zal zab zah zae
def zcw (m:Msg) (peer:Int):Dl:=⟨m.i,2,m.g,m.p,m.h,peer⟩
def zb2 (d:Dl):Msg:=⟨2,d.i,0,d.p,d.g,d.h⟩
section
variable {w:World} {D:Dm} {n:Cl} {free peer:Int} {ao:Option Addr} {k c:Nat} {l:List Nat}
end
end Go.Proofs.YthjgiamfaijoeaaGreatDoor
namespace Go.Proofs.YthjgiamfaijoeaaGreatDoor
open Go.RowKit
open Sx (Ab DW Turns Did Foot)
set_option maxRecDepth 100000
attribute [local go_sem ↓] zad
attribute [local go_sem] zaf zai zaj zal zab zah zae
theorem zxi (u:Nat):0 < (intL u).length:=by
 unfold intL
 split
 ·simp
 ·split
  ·simp
  ·split <;> simp
theorem zxj (x:Int):0 < (intI x).length:=zxi _
set_option maxHeartbeats 1000000 in
theorem zre {w:World} {D:Dm} (h:Dae w D) (hB:Base w D) (hl:D.seed.length ≤ 64) {i:Int} (hi:I64 i):Calls Tryz.prog 104 #[.pointer (some ⟨D.xb,0,none⟩),.int .i64 i] w fun e w'=>e=.returned (.agg (secretH (D.seed ++ intI i)).cells)∧Below w.heap.size w w':=by
 have H:=zac8 h
 have HB:=zac8 hB
 have HI:=zac8 hi
 have HL:=zac8 hl
 generalize hq:secretH (D.seed ++ intI i)=q
 have HQ:=zac8 hq
 clear h hB hi hl hq
 go_enter Tryz.func104,Tryz.ntmps104
 go_upto_region 1 with (fail)
 have bx:=Bx.new w (Hs.zero.cells) 58;generalize w.alloc (.cells (Hs.zero.cells) 58)=W at bx ⊢;have rx:=bx.rowOf;have sx:=bx.soft;have BX:=zac8 bx;clear bx
 have D1:=H.out.below BX.out.below
 have rD:=zaa D1.row
 unfold Dm.cells at rD
 have C:=zac8 (zb3 D1.sd (by have:=HL.out;omega))
 unfold Dm.sv at rD
 clear D1
 go_wp2_with fail
 refine C.out.mono ?_
 rintro _ W2 ⟨a2,c2,rfl,hb2,o2⟩
 have bx:=BX.out.step hb2
 have I:=zac8 (zed (HB.out.forms.keep (zac9 _) bx.below) (Sl.own o2) (by have:=HL.out;omega) i HI.out)
 clear BX C rx sx rD hb2 o2
 have BX:=zac8 bx
 clear bx
 go_wp2_with fail
 refine I.out.mono ?_
 rintro _ W3 ⟨a3,c3,n3,rfl,hb3,o3⟩
 have bx:=BX.out.step hb3
 have hn3:n3=(D.seed ++ intI i).length:=zaa8 o3 rfl
 have hlen:n3 ≤ 73:=by rw [hn3,List.length_append];have:=HL.out;have:=za9 i;omega
 have hpos:0 < n3:=by rw [hn3,List.length_append];have:=zxj i;omega
 have T:=zq6 (HB.out.tabs.keep (zac9 _) bx.below) (Sl.own o3) hpos (by omega)
 rw [HQ.out] at T
 have T:=zac8 T
 clear BX I hb3 o3 hn3 hlen hpos
 have BX:=zac8 bx
 clear bx
 go_wp2_with fail
 refine T.out.mono ?_
 rintro _ W4 ⟨rfl,hb⟩
 have bx:=BX.out.step hb
 clear BX T hb
 have sx:=bx.soft
 have rx:=bx.rowOf
 have BX:=zac8 bx
 clear bx
 go_wp2
 have hc:rowOf (World.setRow W4 w.heap.size q.cells) w.heap.size=q.cells:=(zab _ _ _ _ sx).trans (if_pos rfl)
 refine bodyPost_ret (za5 (t:=58) rfl Tryz.underlying58 rfl (by kernel_rfl) _ _ w.heap.size rfl hc (zdl _)) rfl ?_
 exact ⟨rfl,Below.setRow_ BX.out.below (zac9 _) _⟩
end Go.Proofs.YthjgiamfaijoeaaGreatDoor
namespace Go.Proofs.YthjgiamfaijoeaaGreatDoor
open Go.RowKit
open Sx (Ab DW Turns Did Foot)
set_option maxRecDepth 100000
attribute [local go_sem ↓] zad ebl1 ebl2 zug zuh zxh zul
attribute [local go_sem] zaf zai zaj zal zab zah zae Ext.row Ext.soft_ zue zuf zly zlz
theorem zii (t:Tm) (d:Dl) (n:Cl):(zgb t d n).i=d.i∧(zgb t d n).h=d.h:=by
 unfold zgb
 split <;> exact ⟨rfl,rfl⟩
theorem Dae.keepB {w w':World} {D:Dm} (h:Dae w D) (hk:∀ i,D.all i→w'.heap[i]?=w.heap[i]?) (hz:w.heap.size ≤ w'.heap.size):Dae w' D:=
 ⟨(hk _ (.inl (.inl rfl))).trans h.row,h.sd.block (hk _ (.inl (.inr (.inl rfl)))),Nat.lt_of_lt_of_le h.sl hz,⟨h.jd.dw.keepB fun i hx=>hk i (.inr (.inr hx)),(hk _ (.inr (.inl rfl))).trans h.jd.jr,h.jd.ap⟩,h.hold,h.calm,h.bok.keepB fun i x hi=>hk i (.inl (.inr (.inr hi))),h.f1,h.f2⟩
theorem Trans.row {w Z:World} {D D':Dm} (t:Trans w D Z D') {b:Nat} (hb:w.heap.size ≤ b) (C:Array Value):Trans w D (Z.setRow b C) D':=
 ⟨t.os,t.tape,t.output,Nat.le_trans t.size (by simp [World.setRow]),fun i hi hn=>⟨(setRow_other _ _ _ _ (by omega)).trans (t.keep i hi hn).1,(t.keep i hi hn).2⟩,t.xb,t.bk,t.t,t.seed,t.dv⟩
structure PSt (w V:World) (p g:Lg) (n:Cl) (s:Hs) (d:Dl) (b N:Nat):Prop where
 bx:Bxs w [(p.cells,30),(g.cells,30),(n.cells,52),(Msg.zero.cells,118)] V
 rs:V.heap[b]?=some (.cells s.cells 58)
 rd:∃ t,V.heap[N]?=some (.cells d.cells t)
 lb:w.heap.size ≤ b
 lN:w.heap.size ≤ N
theorem PSt.step {w V V':World} {p g:Lg} {n:Cl} {s:Hs} {d:Dl} {b N:Nat} (h:PSt w V p g n s d b N) (hb:Below V.heap.size V V'):PSt w V' p g n s d b N:=by
 obtain ⟨t,ht⟩:=h.rd
 exact ⟨h.bx.step hb,(hb.block _ (zac7 h.rs).1).trans h.rs,⟨t,(hb.block _ (zac7 ht).1).trans ht⟩,h.lb,h.lN⟩
theorem PSt.d {w V:World} {p g:Lg} {n:Cl} {s:Hs} {d:Dl} {b N:Nat} (h:PSt w V p g n s d b N):rowOf V N=d.cells:=by
 obtain ⟨t,ht⟩:=h.rd
 exact zaa ht
def zbm (D:Dm) (i peer:Int) (p g:Lg) (n:Cl):Dl:=zgb D.t ⟨i,1,p,g,sumH (secretH (D.seed ++ intI i)).l,peer⟩ n
def zaz (d:Dl):Msg:=⟨1,d.i,0,d.p,d.g,d.h⟩
section
variable {w:World} {D:Dm} {n:Cl} {i peer:Int} {p g:Lg}
end
end Go.Proofs.YthjgiamfaijoeaaGreatDoor
namespace Go.Proofs.YthjgiamfaijoeaaGreatDoor
open Go.RowKit
open Sx (Ab DW Turns Did Foot)
set_option maxRecDepth 100000
attribute [local go_sem ↓] zad
attribute [local go_sem] zaf zai zaj zal zab zah zae Ext.row Ext.soft_
def tmOf (v:Value):Tm:=⟨iAt v 0,iAt v 1,iAt v 2,iAt v 3,iAt v 4,iAt v 5,iAt v 6,iAt v 7,iAt v 8⟩
def svOf (v:Value):Sv:=match v with
 | .slice a n c=>⟨a,n,c⟩
 | _=>Sv.nil
def pbOf (v:Value):Nat:=match v with
 | .pointer (some a)=>a.block
 | _=>0
theorem zn0 (t:Tm):tmOf (.agg t.cells)=t:=rfl
theorem zn1 (a:Option Addr) (n c:Nat):svOf (.slice a n c)=⟨a,n,c⟩:=rfl
theorem zn2 (b o:Nat):pbOf (.pointer (some ⟨b,o,none⟩))=b:=rfl
theorem bdm (w:World) (t:Tm) (s:Sv) (jb bk:Nat):(Instr.build 190 #[(0,.agg t.cells),(1,.slice s.a s.n s.c),(2,.pointer (some ⟨jb,0,none⟩)),(3,.pointer (some ⟨bk,0,none⟩))]).run Tryz.prog w=.ok (.agg (dmC t s jb bk false)) w:=by kernel_rfl
theorem ebdm (w:World) (A:Act) (dst:Option Tmp) (ty:TypeId) (pos:String) (af:Array Edge) (gd:Option (Nat × Bool)) (x y z u:Operand) (hx:A.eval x=.agg (tmOf (A.eval x)).cells) (hy:A.eval y=.slice (svOf (A.eval y)).a (svOf (A.eval y)).n (svOf (A.eval y)).c) (hz:A.eval z=.pointer (some ⟨pbOf (A.eval z),0,none⟩)) (hu:A.eval u=.pointer (some ⟨pbOf (A.eval u),0,none⟩)):
  (execOp A.eval ⟨dst,.build 190 #[(0,x),(1,y),(2,z),(3,u)],ty,pos,af,gd⟩).run Tryz.prog w=.ok (.value (.agg (dmC (tmOf (A.eval x)) (svOf (A.eval y)) (pbOf (A.eval z)) (pbOf (A.eval u)) false))) w:=by
 have h:=bdm w (tmOf (A.eval x)) (svOf (A.eval y)) (pbOf (A.eval z)) (pbOf (A.eval u))
 rw [← hx,← hy,← hz,← hu] at h
 unfold execOp
 simp only [Sem.run_bind,Sem.run_pure,List.map_toArray,List.map_cons,List.map_nil,h,Result.andThen_ok]
attribute [local go_sem ↓] ebdm
attribute [local go_sem] zn0 zn1 zn2
structure Born (F:Foot) (w:World) (D:Dm) (w':World):Prop where
 os:w'.os=w.os
 tape:w'.tape=w.tape
 output:w'.output=w.output
 size:w.heap.size ≤ w'.heap.size
 keep:∀ i,i < w.heap.size→(∀ x,¬ F i x)→w'.heap[i]?=w.heap[i]?∧¬ D.all i
theorem zpi {w W2 W3 X2:World} {F F':Foot} {dv:Value} {A':Ab} {jb:Nat} {j:Jr} {t:Tm} {seed:List Nat} {a1:Option Addr} {n c1 bk mb:Nat} {R:List (Int × List Nat)} (hbw:Below w.heap.size w W2) (tb:TB F W2 F' W3) (jd:JD W3 F' dv A' jb j) (hjb:W2.heap.size ≤ jb) (hh:Holds A' j R) (hc:Calm A')
  (own:X2.ownsRow W3.heap.size 5 1 (.slice a1 n c1) n (bts seed)) (bok:BookAt X2 bk mb []) (hb3:Below W3.heap.size W3 X2) (l1:W3.heap.size ≤ bk) (l2:W3.heap.size ≤ mb) (h0:0 < n):
  ∃ D:Dm,D.xb=X2.heap.size∧Lies (X2.alloc (.cells (dmC t ⟨a1,n,c1⟩ jb bk false) 190)) D (·=[]) R∧D.t=t∧D.seed=seed∧Born F w D (X2.alloc (.cells (dmC t ⟨a1,n,c1⟩ jb bk false) 190))∧D.dv=dv∧(∀ i,D.all i→W3.heap.size ≤ i ∨ ∃ x,Fb F' jb i x)∧D.M=[]:=by
 have sl:=Sl.own own
 obtain ⟨sb,so,rfl,hsb,_⟩:=sl.at h0
 have ho:=own
 obtain ⟨_,⟨e,_⟩ | ⟨g,cp,cur,e,hg,hgc,_⟩⟩:=ho
 ·cases e
 cases e
 have hn:seed.length=n:=by rw [← sl.len,zam]
 subst hn
 have hal:Below X2.heap.size X2 (X2.alloc (.cells (dmC t ⟨some ⟨sb,0,none⟩,seed.length,c1⟩ jb bk false) 190)):=(Below.refl _ X2).alloc (zac9 _) _
 have hz:(X2.alloc (.cells (dmC t ⟨some ⟨sb,0,none⟩,seed.length,c1⟩ jb bk false) 190)).heap.size=X2.heap.size + 1:=by simp
 have bokl:∀ i x,zc5 bk mb [] i x→i=bk ∨ i=mb:=fun i x h=>by
  rcases h with h | h | ⟨p,hp,_⟩
  ·exact .inl h
  ·exact .inr h
  ·cases hp
 have lb:bk < X2.heap.size:=(zac7 bok.ob).1
 have lm:mb < X2.heap.size:=bok.lt (x:=0) (.inr (.inl rfl))
 have z3:=hb3.size
 have nsb:sb ≠ bk:=fun q=>by have:=bok.ob;rw [← q,hgc] at this;cases this
 have nsm:sb ≠ mb:=fun q=>by obtain ⟨es,c,x,_⟩:=bok.mp;rw [← q,hgc] at x;cases x
 let D:Dm:=⟨F',X2.heap.size,jb,bk,mb,sb,c1,t,seed,dv,A',j,R,[],true⟩
 have hown:∀ i,D.own i→W3.heap.size ≤ i:=fun i hi=>by
  rcases hi with hi | hi | hi
  ·have hi:i=X2.heap.size:=hi
   omega
  ·have hi:i=sb:=hi
   omega
  ·rcases bokl i 0 hi with h | h <;> omega
 refine ⟨D,rfl,⟨⟨heap_alloc_new X2 _,sl.keep (zac9 _) hal,(by rw [hz];show sb < _;omega),(jd.below hb3).below hal,hh,fun _=>hc,bok.below hal,fun i hi=>?_,?_⟩,rfl,rfl,rfl⟩,rfl,rfl,?_,rfl,fun i hi=>hi.elim (fun q=>.inl (hown i q)) fun q=>q.elim (fun e=>.inr ⟨0,.inr e⟩) fun ⟨x,q⟩=>.inr ⟨x,.inl q⟩,rfl⟩
 ·have:=hown i hi
  refine ⟨fun e=>?_,fun x hx=>?_⟩
  ·have h1:=jd.lt
   have e:i=jb:=e
   omega
  ·have:=jd.dw.lt hx
   omega
 ·refine ⟨fun q=>?_,fun q=>?_,?_⟩
  ·rcases bokl _ 0 q with h | h
   ·have h:X2.heap.size=bk:=h
    omega
   ·have h:X2.heap.size=mb:=h
    omega
  ·exact (bokl _ 0 q).elim nsb nsm
  ·show X2.heap.size ≠ sb
   omega
 ·have zw:=hbw.size
  have zt:=tb.t.size
  refine ⟨hal.os.trans (hb3.os.trans (tb.t.os.trans hbw.os)),hal.tape.trans (hb3.tape.trans (tb.t.tape.trans hbw.tape)),hal.output.trans (hb3.output.trans (tb.t.output.trans hbw.output)),by rw [hz];omega,fun i hi hn=>⟨?_,fun q=>?_⟩⟩
  ·exact (hal.block i (by omega)).trans ((hb3.block i (by omega)).trans ((tb.t.block i (by omega) hn).trans (hbw.block i hi)))
  ·rcases q with q | q | ⟨x,hx⟩
   ·have:=hown i q
    omega
   ·have q:i=jb:=q
    omega
   ·rcases tb.fb i x hx with h | h
    ·exact hn x h
    ·omega
set_option maxHeartbeats 2000000 in
theorem zxk {w:World} {F:Foot} {dv:Value} {A A':Ab} {j:Jr} (H:DW w F dv A) (hA:Ab.Sm A) (ho:zce A=⟨0,A',j,[]⟩) (hh:Holds A' j []) (hc:Calm A') {t:Tm} (hk:TmK t) {b o n c:Nat} {seed:List Nat} (hs:Sl w (some ⟨b,o,none⟩) n c (bts seed)) (h0:0 < n) (hn:n ≤ 64) (hb:b < w.heap.size) (hF:∀ x,¬ F b x):
   Calls Tryz.prog 72 #[.agg t.cells,.slice (some ⟨b,o,none⟩) n c,dv] w fun e w'=>∃ D,e=.returned (.tuple #[.pointer (some ⟨D.xb,0,none⟩),.int .i64 0])∧Lies w' D (·=[]) []∧D.t=t∧D.seed=seed∧Born F w D w'∧D.dv=dv:=by
 have HK:=zac8 hk
 have HH:=zac8 hh
 have HC:=zac8 hc
 have HS:=zac8 hs
 have HF:=zac8 hF
 have HB:=zac8 hb
 have HD:=zac8 H
 have HA:=zac8 hA
 have HO:=zac8 ho
 have hn2:((n:Int) > 64)=False:=eq_false (by omega)
 obtain ⟨db,dof,rfl⟩:=zm5 H
 clear hk hh hc hs hF hb H hA ho
 go_enter Tryz.func72,Tryz.ntmps72
 go_upto_region 1 with (fail)
 have bx:=Bx.new w (t.cells) 68;generalize w.alloc (.cells (t.cells) 68)=W at bx ⊢;have rx:=bx.rowOf;have sx:=bx.soft;have BX:=zac8 bx;clear bx
 have Q:=zes t W
 rw [HK.out.chk] at Q
 have Q:=zac8 Q
 go_wp2_with fail
 refine (Q.out).mono ?_;rintro _ W2 ⟨rfl,hb⟩;have bx:=BX.out.step hb;clear BX rx sx hb;have rx:=bx.rowOf;have sx:=bx.soft;have BX:=zac8 bx;clear bx
 have hbW:=BX.out.below
 have O:=zac8 (zss (HD.out.below hbW) HA.out HO.out)
 clear hbW
 go_wp2_with fail
 refine O.out.mono ?_
 rintro _ W3 ⟨F',jb,ao,cc,L,rfl,jd,tb,hjb,_,_⟩
 have l0:w.heap.size < W2.heap.size:=(zac7 BX.out.row).1
 have n0:∀ x,¬ F w.heap.size x:=fun x q=>absurd (HD.out.lt q) (Nat.lt_irrefl _)
 have rt:rowOf W3.drew w.heap.size=t.cells:=zaa ((tb.t.block _ l0 n0).trans BX.out.row)
 have lt3:w.heap.size < W3.heap.size:=Nat.lt_of_lt_of_le l0 tb.t.size
 have hs3:Sl W3.drew (some ⟨b,o,none⟩) n c (bts seed):=HS.out.block ((tb.t.block b (Nat.lt_of_lt_of_le HB.out BX.out.below.size) HF.out).trans (BX.out.below.block b HB.out))
 have CA:=zac8 (zb3 hs3 (by omega))
 have NB:=zac8 (zg6 W3.drew)
 have HS3:=zac8 hs3
 have JD:=zac8 jd
 have TB:=zac8 tb
 have JB:=zac8 hjb
 have L0:=zac8 l0
 clear jd tb hjb l0 n0 hs3 rx sx O Q
 go_upto_region 9 with (fail)
 have keep:∀ X:World,Below W3.drew.heap.size W3.drew X→rowOf X w.heap.size=t.cells:=fun X hX=>by
   have:X.heap[w.heap.size]?=W3.drew.heap[w.heap.size]?:=hX.block _ lt3
   unfold rowOf at rt ⊢
   rw [this]
   exact rt
 have KP:=zac8 keep
 clear keep
 go_region_held3 (fun w'=>rowOf w' w.heap.size=t.cells) (first | exact rt | exact r1 | exact r2 | exact r3)
   (first
     | (go_at_call 34;refine CA.out.mono ?_;rintro _ X1 ⟨a1,c1,rfl,hb1,own1⟩
        have r1:=KP.out X1 hb1
        have NA:=zac8 (zg6 X1)
        have O1:=zac8 own1
        have B1:=zac8 hb1
        clear own1 hb1)
     | (go_at_call 112;refine NA.out.mono ?_;rintro _ X2 ⟨bk,mb,rfl,k1,k2,k3,k4⟩
        have r2:=KP.out X2 (B1.out.trans (k2.mono B1.out.size))
        have r3:=KP.out (X2.alloc (.cells (dmC t ⟨a1,n,c1⟩ jb bk false) 190)) ((B1.out.trans (k2.mono B1.out.size)).alloc (B1.out.trans (k2.mono B1.out.size)).size _)
        have FIN:=zac8 (And.intro (zbe O1.out (zac9 _) k2) (And.intro k1 (And.intro (B1.out.trans (k2.mono B1.out.size)) (And.intro (Nat.le_trans B1.out.size k3) (Nat.le_trans B1.out.size k4)))))
        clear k1 k2 k3 k4)
     | (go_at_call 112;refine NB.out.mono ?_;rintro _ X1 ⟨bk,mb,rfl,k1,k2,k3,k4⟩
        have r1:=KP.out X1 k2
        have CB:=zac8 (zb3 (w:=X1) (HS3.out.keep (zac9 _) k2) (by omega))
        have K1:=zac8 k1
        have K2:=zac8 k2
        have K3:=zac8 (And.intro k3 k4)
        clear k1 k2 k3 k4)
     | (go_at_call 34;refine CB.out.mono ?_;rintro _ X2 ⟨a1,c1,rfl,hb1,own1⟩
        have r2:=KP.out X2 (K2.out.trans (hb1.mono K2.out.size))
        have r3:=KP.out (X2.alloc (.cells (dmC t ⟨a1,n,c1⟩ jb bk false) 80)) ((K2.out.trans (hb1.mono K2.out.size)).alloc (K2.out.trans (hb1.mono K2.out.size)).size _)
        have FIN:=zac8 (And.intro (za0 own1 K2.out.size) (And.intro (K1.out.below hb1) (And.intro (K2.out.trans (hb1.mono K2.out.size)) K3.out)))
        clear own1 hb1))
 all_goals obtain ⟨D,e1,q1,q2,q3,q4,q5,_,_⟩:=zpi (t:=t) BX.out.below TB.out JD.out JB.out HH.out HC.out FIN.out.1 FIN.out.2.1 ((Below.refl W3.heap.size W3).drew.trans FIN.out.2.2.1) FIN.out.2.2.2.1 FIN.out.2.2.2.2 h0
 all_goals rw [← e1]
 all_goals generalize X2.alloc _=Y at *
 all_goals have RES:=zac8 (And.intro q1 (And.intro q2 (And.intro q3 (And.intro q4 q5))))
 all_goals clear q1 q2 q3 q4 q5 e1 FIN r1 r2 r3 rt lt3
 all_goals go_upto_region 11 with (fail)
 all_goals go_loopw [43] (fun i wr=>i=.int .i64 0∧wr=Y) (fun _ _=>0)
 case atStart=>exact ⟨rfl,rfl⟩
 case round=>
   obtain ⟨rfl,rfl⟩:=hrel
   go_wp2
   refine bodyPost_ret (results_tmp2 rfl _ _ _) rfl ?_
   exact ⟨D,rfl,RES.out⟩
end Go.Proofs.YthjgiamfaijoeaaGreatDoor
namespace Go.Proofs.YthjgiamfaijoeaaGreatDoor
open Go.RowKit
open Sx (Ab DW Turns Did Foot)
set_option maxRecDepth 100000
def T26:Tm:=⟨10,1000,5,100,1000,2,3,4,2⟩
theorem zpj:TmK T26:=⟨by kernel_rfl,⟨by decide,by decide,by decide,by decide⟩,by decide,by decide,by decide⟩
attribute [local go_sem ↓] zad
attribute [local go_sem] zaf zai zaj zal zab zah zae Ext.row Ext.soft_
theorem zab3:(#[Value.int .i64 10,Value.int .i64 1000,Value.int .i64 5,Value.int .i64 100,Value.int .i64 1000,Value.int .i64 2,Value.int .i64 3,Value.int .i64 4,Value.int .i64 2]:Array Value)=T26.cells:=rfl
attribute [local go_sem] zab3
theorem zum (w:World):Calls Tryz.prog 26 #[] w fun e w'=>e=.returned (.agg T26.cells)∧Below w.heap.size w w':=by
 go_enter Tryz.func26,Tryz.ntmps26
 go_upto_region 1 with (fail)
 have bx:=Bx.new w (Tm.cells ⟨0,0,0,0,0,0,0,0,0⟩) 68
 rw [show (#[Value.int .i64 0,Value.int .i64 0,Value.int .i64 0,Value.int .i64 0,Value.int .i64 0,Value.int .i64 0,Value.int .i64 0,Value.int .i64 0,Value.int .i64 0]:Array Value)=Tm.cells ⟨0,0,0,0,0,0,0,0,0⟩ from rfl]
 generalize w.alloc (.cells (Tm.cells ⟨0,0,0,0,0,0,0,0,0⟩) 68)=W at bx ⊢
 have rx:=bx.rowOf
 have sx:=bx.soft
 have BX:=zac8 bx
 clear bx
 go_wp2
 have hc:rowOf (World.setRow W w.heap.size T26.cells) w.heap.size=T26.cells:=(zab _ _ _ _ sx).trans (if_pos rfl)
 refine bodyPost_ret (za5 (t:=68) rfl Tryz.underlying68 rfl (by kernel_rfl) _ _ w.heap.size rfl hc (ztr _)) rfl ?_
 exact ⟨rfl,Below.setRow_ BX.out.below (zac9 _) _⟩
def seedL:List Nat:=[115,101,101,100]
def zun:Array Value:=#[.int .u8 115,.int .u8 101,.int .u8 101,.int .u8 100]
def zrf (w:World):World:=w.alloc (.cells zun 5 (4,5))
theorem zl8 (w:World):(convert 37 37 (.slice (some ⟨w.heap.size,0,none⟩) 4 4)).run Tryz.prog (w.alloc (.cells zun 5))=.ok (.slice (some ⟨w.heap.size,0,none⟩) 4 4) (zrf w):=
 Go.Lib.run_convert_bytes_const w 37 5 zun 4 4 Tryz.underlying37 Tryz.underlying5
theorem zpk (w:World):(#[Value.int .u8 115,Value.int .u8 101,Value.int .u8 101,Value.int .u8 100]:Array Value)=zun:=rfl
structure Mine (w V:World) (D:Dm):Prop where
 low:Below w.heap.size w V
 own:∀ i,i < w.heap.size→¬ D.all i
theorem Mine.base {w V:World} {D:Dm} (h:Mine w V D) (hf:Forms w) (ht:Tabs w):Base V D:=
 let ⟨_,g4⟩:=ht.g4
 let ⟨_,g5⟩:=ht.g5
 ⟨hf.keep (zac9 _) h.low,ht.keep (zac9 _) h.low,h.own _ hf.lt,h.own _ (zac7 g4).1,h.own _ (zac7 g5).1⟩
theorem zxl {w:World} {D:Dm} (h:Dae w D):Calls Tryz.prog 60 #[.pointer (some ⟨D.xb,0,none⟩)] w fun e w'=>e=.returned (.pointer (some ⟨D.bk,0,none⟩))∧w'=w:=by
 have rD:=zaa h.row
 unfold Dm.cells at rD
 clear h
 go_enter Tryz.func60,Tryz.ntmps60
 go_wp2
 go_ret
 exact ⟨rfl,rfl⟩
theorem eql_h (h:Hs) (w:World):(binOp .eql 58 (.agg h.cells) (.agg h.cells)).run Tryz.prog w=.ok (.bool true) w:=by
 obtain ⟨f,rfl⟩:=h.form
 have e:=eq39 f 9998
 rw [ztd]
 simp [go_sem,e]
theorem zl9 (w:World) (ρ:Operand→Value) (x y:Operand) (dst:Option Tmp) (ty:TypeId) (pos:String) (af:Array Edge) (gd:Option (Nat × Bool)) (r:TypeId) (h1:ρ x=ρ y) (h2:IsH (ρ y)):(execOp ρ ⟨dst,.binOp .eql 58 x y r,ty,pos,af,gd⟩).run Tryz.prog w=.ok (.value (.bool true)) w:=by
 obtain ⟨m,hm⟩:=h2
 unfold execOp
 simp only [Sem.run_bind,h1,hm,eqg39 _ _ _ _ _ _ (.inr rfl),Result.andThen_ok,eql_h,Sem.run_pure]
attribute [local go_sem ↓] zl9
attribute [local go_sem] zpk zl8 is_h
end Go.Proofs.YthjgiamfaijoeaaGreatDoor
namespace Go.Proofs.YthjgiamfaijoeaaGreatDoor
open Go.RowKit
set_option maxRecDepth 100000
theorem fee26 {a:Int} (h0:100 ≤ a) (h1:a ≤ 1000):feeV T26 a.toNat=(16,0):=by
 have hp:ziv a.toNat (T26.ppm).toNat=1:=by show (a.toNat * 1000 + 999999) / 1000000=1;omega
 have ht:totV [T26.base,((1:Nat):Int),T26.reserve]=(16,0):=by kernel_rfl
 have hs:zia 16 (a.toNat:Nat)=((16:Int) + (a.toNat:Nat),(0:Int)):=by
  unfold zia
  rw [if_pos]
  unfold aisA
  omega
 unfold feeV
 rw [hp,ht]
 simp only []
 rw [hs]
 simp
theorem zxm (a free:Int):zc4 T26 a free=if a < 100 ∨ a > 1000 ∨ a > free then (0,22) else (a + 16,0):=by
 unfold zc4
 by_cases h:a < T26.least ∨ a > T26.most ∨ a > free
 ·have h':a < 100 ∨ a > 1000 ∨ a > free:=h
  rw [if_pos h,if_pos h']
 ·have h':¬ (a < 100 ∨ a > 1000 ∨ a > free):=h
  rw [if_neg h,if_neg h',fee26 (by omega) (by omega)]
  rw [if_neg (by simp)]
theorem zuo (t:Tm) (d:Dl) (n:Cl):zey t d n=23 ∨ zey t d n=0:=by
 unfold zey
 split
 ·exact .inl rfl
 ·exact .inr rfl
theorem zrg (d:Dl) (n:Cl) (free:Int):0 ≤ zdq T26 d n free∧zdq T26 d n free ≤ 24:=by
 unfold zdq
 split
 ·unfold errD
  split <;> decide
 ·split
  ·rw [zxm]
   split
   ·exact ⟨by show (0:Int) ≤ 22;decide,by show (22:Int) ≤ 24;decide⟩
   ·exact ⟨by show (0:Int) ≤ 0;decide,by show (0:Int) ≤ 24;decide⟩
  ·split
   ·decide
   ·rcases zuo T26 d n with h | h <;> rw [h] <;> decide
theorem zij {d:Dl} (h:za6 d=true):idE d.i (zcg (zb2 d))=0∧I64 d.i∧LgI d.p∧LgI d.g:=by
 have hin:=zh3 h
 unfold za6 zit at h
 simp only [Bool.and_eq_true] at h
 obtain ⟨h1,_,⟨h3,h4,h5⟩,⟨h6,h7,h8⟩,h9,_⟩:=h
 have w1:=of_decide_eq_true h1
 have w3:=of_decide_eq_true h3
 have w4:=of_decide_eq_true h4
 have w5:=of_decide_eq_true h5
 have w6:=of_decide_eq_true h6
 have w7:=of_decide_eq_true h7
 have w8:=of_decide_eq_true h8
 have hne:d.p.w ≠ d.g.w:=by simpa using h9
 refine ⟨?_,hin.i.i64,⟨hin.pw.i64,hin.pa.i64,hin.pu.i64⟩,⟨hin.gw.i64,hin.ga.i64,hin.gu.i64⟩⟩
 have e1:legE d.p=0:=by unfold legE;rw [if_neg (by omega),if_neg (by omega),if_neg (by omega)]
 have e2:legE d.g=0:=by unfold legE;rw [if_neg (by omega),if_neg (by omega),if_neg (by omega)]
 unfold idE zcg zb2
 rw [if_neg (by omega),if_neg (by simp only;omega),if_neg (by simp only;omega),if_neg hne,if_neg (by simp)]
theorem zrh (i c:Int):Small (putC i c):=((zbx _).append (zbx _)).append (zbx _)
theorem zha (i c:Int):(putC i c).length ≤ 27:=by
 have h1:=za9 3
 have h2:=za9 i
 have h3:=za9 c
 unfold putC
 simp only [List.length_append]
 omega
theorem zjb (l:Lg):Small (legI l):=((zbx _).append (zbx _)).append (zbx _)
theorem zik {m:Msg} (h:Small m.h.l):Small (zbu m):=(((zbx _).append (zbx _)).append ((zjb _).append (zjb _))).append h
theorem zb5 (m:Msg):(zbu m).length ≤ 104:=by
 have h1:=za9 m.k
 have h2:=za9 m.i
 have h3:=zg5 m.p
 have h4:=zg5 m.g
 have h5:=m.h.hl
 unfold zbu zdx
 simp only [List.length_append]
 omega
end Go.Proofs.YthjgiamfaijoeaaGreatDoor
namespace Go.Proofs.YthjgiamfaijoeaaGreatDoor
open Go.RowKit
open Sx (Ab DW Turns Did Foot MapIs DiskAt FootD)
set_option maxRecDepth 100000
theorem zpl:∀ (n:Nat) (l:List Int),l.Nodup→(∀ x ∈ l,0 ≤ x∧x < n)→l.length ≤ n
 | 0,l,_,hb=>by
  cases l with
  | nil=>exact zac9 _
  | cons x r=>have:=hb x (List.mem_cons_self ..);omega
 | n + 1,l,hn,hb=>by
  have h1:=zpl n (l.erase (n:Int)) (hn.erase _) fun x hx=>by
   have h2:=hb x (List.mem_of_mem_erase hx)
   have h3:x ≠ n:=fun e=>by
    subst e
    exact hn.not_mem_erase hx
   omega
  have h2:l.length ≤ (l.erase (n:Int)).length + 1:=by
   rw [List.length_erase]
   split <;> omega
  omega
theorem zxn {lo:List (Int × List Int)} (h:((encA loC lo).map (·.1)).Nodup):(lo.map (·.1)).Nodup:=by
 unfold encA at h
 rw [List.map_map] at h
 have e:lo.map ((fun q:Value × Value=>q.1) ∘ fun p=>(Value.int .i64 p.1,loC p.2))=(lo.map (·.1)).map (Value.int .i64):=by rw [List.map_map];rfl
 rw [e] at h
 exact List.Pairwise.of_map (S:=fun x y:Value=>x ≠ y) (Value.int .i64) (fun a b hab e=>hab (by rw [e])) h
def crash0 (A:Ab):Ab:={ A with loose:=fun _=>none,off:=false,left:=-1 }
end Go.Proofs.YthjgiamfaijoeaaGreatDoor
