/- What is proved: parts of the walk and of the plain law. No condition but those each law names. -/
import Derived.Test.YthjgiamfaijoeaaGreatDoorD12
import Derived.Test.YthjgiamfaijoeaaGreatDoorD00
set_option linter.unusedSimpArgs false
set_option linter.unusedVariables false
set_option maxRecDepth 100000
namespace Go.Proofs.YthjgiamfaijoeaaGreatDoor
open Go.RowKit
section
def iv:Value→Int | .int _ n=>n | _=>0
def bv:Value→Bool | .bool b=>b | _=>false
def u8v:Value→Nat | .int _ n=>n.toNat | _=>0
def iAt (v:Value) (i:Nat):Int:=match (agc v)[i]? with | some (.int _ n)=>n | _=>0
def hOf (v:Value):Hs:=if h:((agc v).toList.map u8v).length=32 then ⟨_,h⟩ else Hs.zero
def lOf (v:Value):Lg:=⟨iAt v 0,iAt v 1,iAt v 2⟩
def dOf (v:Value):Dl:=⟨iAt v 0,iAt v 1,⟨iAt v 2,iAt v 3,iAt v 4⟩,⟨iAt v 5,iAt v 6,iAt v 7⟩,hOf (.agg (sub (agc v) 8 32)),iAt v 40⟩
theorem iv_mk (k:IntKind) (n:Int):iv (.int k n)=n:=rfl
theorem bv_mk (b:Bool):bv (.bool b)=b:=rfl
theorem zph (h:Hs):hOf (.agg h.cells)=h:=by
 have e:(agc (.agg h.cells)).toList.map u8v=h.l:=by
  show (bts h.l).map u8v=h.l
  unfold bts
  rw [List.map_map]
  apply List.ext_getElem?
  intro i
  rw [List.getElem?_map]
  cases h.l[i]? <;> rfl
 unfold hOf
 rw [dif_pos (by rw [e];exact h.hl)]
 obtain ⟨l,hl⟩:=h
 congr 1
theorem lOf_mk (l:Lg):lOf (.agg l.cells)=l:=rfl
theorem zto (d:Dl):dOf (.agg d.cells)=d:=by
 have e:iAt (.agg d.cells) 40=d.q:=by show (match d.cells[40]? with | some (.int _ n)=>n | _=>0)=_;rw [d_40]
 have e2:sub (agc (.agg d.cells)) 8 32=d.h.cells:=d_h d
 unfold dOf
 rw [e,e2,zph]
 rfl
attribute [go_sem] iv_mk bv_mk zph lOf_mk zto
section
variable (w:World) (ρ:Operand→Value) (dst:Option Tmp) (ty:TypeId) (pos:String) (af:Array Edge) (gd:Option (Nat × Bool))
theorem ebm0 :(execOp ρ ⟨dst,.build 118 #[],ty,pos,af,gd⟩).run Tryz.prog w=.ok (.value (.agg Msg.zero.cells)) w:=by
 have h:=bm0 w
 unfold execOp
 simp only [Sem.run_bind,Sem.run_pure,List.map_toArray,List.map_cons,List.map_nil,h,Result.andThen_ok]
theorem ebm2 (x y:Operand) (hx:ρ x=(.int .i64 (iv (ρ x)))) (hy:ρ y=(.int .i64 (iv (ρ y)))):(execOp ρ ⟨dst,.build 118 #[(0,x),(1,y)],ty,pos,af,gd⟩).run Tryz.prog w=.ok (.value (.agg (Msg.cells ⟨(iv (ρ x)),(iv (ρ y)),0,Lg.zero,Lg.zero,Hs.zero⟩))) w:=by
 have h:=bm2 w (iv (ρ x)) (iv (ρ y))
 rw [← hx,← hy] at h
 unfold execOp
 simp only [Sem.run_bind,Sem.run_pure,List.map_toArray,List.map_cons,List.map_nil,h,Result.andThen_ok]
theorem ebm3 (x y z:Operand) (hx:ρ x=(.int .i64 (iv (ρ x)))) (hy:ρ y=(.int .i64 (iv (ρ y)))) (hz:ρ z=(.int .i64 (iv (ρ z)))):(execOp ρ ⟨dst,.build 118 #[(0,x),(1,y),(2,z)],ty,pos,af,gd⟩).run Tryz.prog w=.ok (.value (.agg (Msg.cells ⟨(iv (ρ x)),(iv (ρ y)),(iv (ρ z)),Lg.zero,Lg.zero,Hs.zero⟩))) w:=by
 have h:=bm3 w (iv (ρ x)) (iv (ρ y)) (iv (ρ z))
 rw [← hx,← hy,← hz] at h
 unfold execOp
 simp only [Sem.run_bind,Sem.run_pure,List.map_toArray,List.map_cons,List.map_nil,h,Result.andThen_ok]
theorem ebm5 (x y z u v:Operand) (hx:ρ x=(.int .i64 (iv (ρ x)))) (hy:ρ y=(.int .i64 (iv (ρ y)))) (hz:ρ z=(.agg (lOf (ρ z)).cells)) (hu:ρ u=(.agg (lOf (ρ u)).cells)) (hv:ρ v=(.agg (hOf (ρ v)).cells)):(execOp ρ ⟨dst,.build 118 #[(0,x),(1,y),(3,z),(4,u),(5,v)],ty,pos,af,gd⟩).run Tryz.prog w=.ok (.value (.agg (Msg.cells ⟨(iv (ρ x)),(iv (ρ y)),0,(lOf (ρ z)),(lOf (ρ u)),(hOf (ρ v))⟩))) w:=by
 have h:=bm5 w (iv (ρ x)) (iv (ρ y)) (lOf (ρ z)) (lOf (ρ u)) (hOf (ρ v))
 rw [← hx,← hy,← hz,← hu,← hv] at h
 unfold execOp
 simp only [Sem.run_bind,Sem.run_pure,List.map_toArray,List.map_cons,List.map_nil,h,Result.andThen_ok]
theorem ebd0 :(execOp ρ ⟨dst,.build 60 #[],ty,pos,af,gd⟩).run Tryz.prog w=.ok (.value (.agg Dl.zero.cells)) w:=by
 have h:=bd0 w
 unfold execOp
 simp only [Sem.run_bind,Sem.run_pure,List.map_toArray,List.map_cons,List.map_nil,h,Result.andThen_ok]
theorem ebd6 (x y z u v t:Operand) (hx:ρ x=(.int .i64 (iv (ρ x)))) (hy:ρ y=(.int .i64 (iv (ρ y)))) (hz:ρ z=(.agg (lOf (ρ z)).cells)) (hu:ρ u=(.agg (lOf (ρ u)).cells)) (hv:ρ v=(.agg (hOf (ρ v)).cells)) (ht:ρ t=(.int .i64 (iv (ρ t)))):(execOp ρ ⟨dst,.build 60 #[(0,x),(1,y),(2,z),(3,u),(4,v),(5,t)],ty,pos,af,gd⟩).run Tryz.prog w=.ok (.value (.agg (Dl.cells ⟨(iv (ρ x)),(iv (ρ y)),(lOf (ρ z)),(lOf (ρ u)),(hOf (ρ v)),(iv (ρ t))⟩))) w:=by
 have h:=bd6 w (iv (ρ x)) (iv (ρ y)) (iv (ρ t)) (lOf (ρ z)) (lOf (ρ u)) (hOf (ρ v))
 rw [← hx,← hy,← hz,← hu,← hv,← ht] at h
 unfold execOp
 simp only [Sem.run_bind,Sem.run_pure,List.map_toArray,List.map_cons,List.map_nil,h,Result.andThen_ok]
theorem ebh0 :(execOp ρ ⟨dst,.build 58 #[],ty,pos,af,gd⟩).run Tryz.prog w=.ok (.value (.agg Hs.zero.cells)) w:=by
 have h:=bh0 w
 unfold execOp
 simp only [Sem.run_bind,Sem.run_pure,List.map_toArray,List.map_cons,List.map_nil,h,Result.andThen_ok]
theorem ebr2 (x y z:Operand) (hx:ρ x=(.int .i64 (iv (ρ x)))) (hy:ρ y=(.int .i64 (iv (ρ y)))) (hz:ρ z=(.agg (dOf (ρ z)).cells)):(execOp ρ ⟨dst,.build 162 #[(0,x),(1,y),(2,z)],ty,pos,af,gd⟩).run Tryz.prog w=.ok (.value (.agg (Rc.cells ⟨(iv (ρ x)),(iv (ρ y)),(dOf (ρ z)),Hs.zero,0,0,Tv.zero⟩))) w:=by
 have h:=br2 w (iv (ρ x)) (iv (ρ y)) (dOf (ρ z))
 rw [← hx,← hy,← hz] at h
 unfold execOp
 simp only [Sem.run_bind,Sem.run_pure,List.map_toArray,List.map_cons,List.map_nil,h,Result.andThen_ok]
theorem ebr3 (x y z:Operand) (hx:ρ x=(.int .i64 (iv (ρ x)))) (hy:ρ y=(.int .i64 (iv (ρ y)))) (hz:ρ z=(.agg (hOf (ρ z)).cells)):(execOp ρ ⟨dst,.build 162 #[(0,x),(1,y),(3,z)],ty,pos,af,gd⟩).run Tryz.prog w=.ok (.value (.agg (Rc.cells ⟨(iv (ρ x)),(iv (ρ y)),Dl.zero,(hOf (ρ z)),0,0,Tv.zero⟩))) w:=by
 have h:=br3 w (iv (ρ x)) (iv (ρ y)) (hOf (ρ z))
 rw [← hx,← hy,← hz] at h
 unfold execOp
 simp only [Sem.run_bind,Sem.run_pure,List.map_toArray,List.map_cons,List.map_nil,h,Result.andThen_ok]
theorem ebs0 :(execOp ρ ⟨dst,.build 62 #[],ty,pos,af,gd⟩).run Tryz.prog w=.ok (.value (.agg Sw.zero.cells)) w:=by
 have h:=bs0 w
 unfold execOp
 simp only [Sem.run_bind,Sem.run_pure,List.map_toArray,List.map_cons,List.map_nil,h,Result.andThen_ok]
theorem ebs2 (x y:Operand) (hx:ρ x=(.agg (dOf (ρ x)).cells)) (hy:ρ y=(.int .i64 (iv (ρ y)))):(execOp ρ ⟨dst,.build 62 #[(0,x),(1,y)],ty,pos,af,gd⟩).run Tryz.prog w=.ok (.value (.agg (Sw.cells ⟨(dOf (ρ x)),(iv (ρ y)),false,Hs.zero⟩))) w:=by
 have h:=bs2 w (iv (ρ y)) (dOf (ρ x))
 rw [← hx,← hy] at h
 unfold execOp
 simp only [Sem.run_bind,Sem.run_pure,List.map_toArray,List.map_cons,List.map_nil,h,Result.andThen_ok]
end
attribute [go_sem ↓] ebm0 ebm2 ebm3 ebm5 ebd0 ebd6 ebh0 ebr2 ebr3 ebs0 ebs2
end
section
attribute [local go_sem ↓] zad
structure Bx (w:World) (C:Array Value) (t:TypeId) (W:World):Prop where
 row:W.heap[w.heap.size]?=some (.cells C t)
 below:Below w.heap.size w W
theorem Bx.new (w:World) (C:Array Value) (t:TypeId):Bx w C t (w.alloc (.cells C t)):=⟨heap_alloc_new w _,zat w _⟩
theorem Bx.step {w W W':World} {C:Array Value} {t:TypeId} (h:Bx w C t W) (hb:Below W.heap.size W W'):Bx w C t W':=
 ⟨(hb.block _ (zadu h.row).1).trans h.row,h.below.trans (hb.mono h.below.size)⟩
theorem Bx.rowOf {w W:World} {C:Array Value} {t:TypeId} (h:Bx w C t W):rowOf W w.heap.size=C:=zaa h.row
theorem Bx.soft {w W:World} {C:Array Value} {t:TypeId} (h:Bx w C t W):soft W w.heap.size=true:=zan h.row
def wi (n a b:Int):Bool:=decide (a ≤ n∧n ≤ b)
theorem zjj (n a b:Int) (w:World):Calls Tryz.prog 170 #[.int .i64 n,.int .i64 a,.int .i64 b] w fun e w'=>e=.returned (.bool (wi n a b))∧w'=w:=by
 by_cases h1:a ≤ n
 ·by_cases h2:n ≤ b
  ·have e:wi n a b=true:=decide_eq_true ⟨h1,h2⟩
   rw [e]
   clear e
   go_enter Tryz.func170,Tryz.ntmps170
   go_wp2
   go_ret
   exact ⟨rfl,rfl⟩
  ·have e:wi n a b=false:=decide_eq_false fun h=>h2 h.2
   rw [e]
   clear e
   go_enter Tryz.func170,Tryz.ntmps170
   go_wp2
   go_ret
   exact ⟨rfl,rfl⟩
 ·have e:wi n a b=false:=decide_eq_false fun h=>h1 h.1
  rw [e]
  clear e
  go_enter Tryz.func170,Tryz.ntmps170
  go_wp2
  go_ret
  exact ⟨rfl,rfl⟩
theorem za1 {n a b:Int} {t:Bool} (h:wi n a b=t) (w:World):Calls Tryz.prog 170 #[.int .i64 n,.int .i64 a,.int .i64 b] w fun e w'=>e=.returned (.bool t)∧w'=w:=h ▸ zjj n a b w
def zi5 (l:Lg):Bool:=wi l.w 0 2 && (wi l.a 1 1125899906842624 && wi l.u 0 1073741824)
theorem zabm (l:Lg) (w:World):Calls Tryz.prog 171 #[.agg l.cells] w fun e w'=>e=.returned (.bool (zi5 l))∧Below w.heap.size w w':=by
 unfold zi5
 cases h1:wi l.w 0 2 with
 | false=>
  have H1:=zadv h1
  clear h1
  go_enter Tryz.func171,Tryz.ntmps171
  go_upto_region 1 with (fail)
  have bx:=Bx.new w (l.cells) 30;generalize w.alloc (.cells (l.cells) 30)=W at bx ⊢;have rx:=bx.rowOf;have sx:=bx.soft;have BX:=zadv bx;clear bx
  go_wp2_with fail
  refine (za1 H1.out _).mono ?_;rintro _ _ ⟨rfl,rfl⟩
  go_wp2
  go_ret
  exact ⟨rfl,BX.out.below⟩
 | true=>
  have H1:=zadv h1
  clear h1
  cases h2:wi l.a 1 1125899906842624 with
  | false=>
   have H2:=zadv h2
   clear h2
   go_enter Tryz.func171,Tryz.ntmps171
   go_upto_region 1 with (fail)
   have bx:=Bx.new w (l.cells) 30;generalize w.alloc (.cells (l.cells) 30)=W at bx ⊢;have rx:=bx.rowOf;have sx:=bx.soft;have BX:=zadv bx;clear bx
   go_wp2_with fail
   refine (za1 H1.out _).mono ?_;rintro _ _ ⟨rfl,rfl⟩
   go_wp2_with fail
   refine (za1 H2.out _).mono ?_;rintro _ _ ⟨rfl,rfl⟩
   go_wp2
   go_ret
   exact ⟨rfl,BX.out.below⟩
  | true=>
   have H2:=zadv h2
   clear h2
   go_enter Tryz.func171,Tryz.ntmps171
   go_upto_region 1 with (fail)
   have bx:=Bx.new w (l.cells) 30;generalize w.alloc (.cells (l.cells) 30)=W at bx ⊢;have rx:=bx.rowOf;have sx:=bx.soft;have BX:=zadv bx;clear bx
   go_wp2_with fail
   refine (za1 H1.out _).mono ?_;rintro _ _ ⟨rfl,rfl⟩
   go_wp2_with fail
   refine (za1 H2.out _).mono ?_;rintro _ _ ⟨rfl,rfl⟩
   go_wp2_with fail
   refine (zjj _ _ _ _).mono ?_;rintro _ _ ⟨rfl,rfl⟩
   go_wp2
   go_ret
   exact ⟨rfl,BX.out.below⟩
theorem zfn {l:Lg} {t:Bool} (h:zi5 l=t) (w:World):Calls Tryz.prog 171 #[.agg l.cells] w fun e w'=>e=.returned (.bool t)∧Below w.heap.size w w':=h ▸ zabm l w
def za5 (d:Dl):Bool:=wi d.i 1 1073741824 && (wi d.r 1 2 && (zi5 d.p && (zi5 d.g && (!(d.p.w == d.g.w) && wi d.q 1 32))))
def errD (d:Dl):Int:=if za5 d then 0 else 1
theorem zkf (d:Dl) (w:World):Calls Tryz.prog 107 #[.agg d.cells] w fun e w'=>e=.returned (.int .i64 (errD d))∧Below w.heap.size w w':=by
 cases h0:wi d.i 1 1073741824 with
 | false=>
  have H0:=zadv h0
  clear h0
  have E:errD d=1:=by unfold errD za5;rw [H0.out];rfl
  rw [E]
  clear E
  go_enter Tryz.func107,Tryz.ntmps107
  go_upto_region 1 with (fail)
  have bx:=Bx.new w (d.cells) 60;generalize w.alloc (.cells (d.cells) 60)=W at bx ⊢;have rx:=bx.rowOf;have sx:=bx.soft;have BX:=zadv bx;clear bx
  go_wp2_with fail
  refine (za1 H0.out _).mono ?_;rintro _ _ ⟨rfl,rfl⟩
  go_wp2
  go_ret
  exact ⟨rfl,BX.out.below⟩
 | true=>
  have H0:=zadv h0
  clear h0
  cases h1:wi d.r 1 2 with
  | false=>
   have H1:=zadv h1
   clear h1
   have E:errD d=1:=by unfold errD za5;rw [H0.out,H1.out];rfl
   rw [E]
   clear E
   go_enter Tryz.func107,Tryz.ntmps107
   go_upto_region 1 with (fail)
   have bx:=Bx.new w (d.cells) 60;generalize w.alloc (.cells (d.cells) 60)=W at bx ⊢;have rx:=bx.rowOf;have sx:=bx.soft;have BX:=zadv bx;clear bx
   go_wp2_with fail
   refine (za1 H0.out _).mono ?_;rintro _ _ ⟨rfl,rfl⟩
   go_wp2_with fail
   refine (za1 H1.out _).mono ?_;rintro _ _ ⟨rfl,rfl⟩
   go_wp2
   go_ret
   exact ⟨rfl,BX.out.below⟩
  | true=>
   have H1:=zadv h1
   clear h1
   cases h2:zi5 d.p with
   | false=>
    have H2:=zadv h2
    clear h2
    have E:errD d=1:=by unfold errD za5;rw [H0.out,H1.out,H2.out];rfl
    rw [E]
    clear E
    go_enter Tryz.func107,Tryz.ntmps107
    go_upto_region 1 with (fail)
    have bx:=Bx.new w (d.cells) 60;generalize w.alloc (.cells (d.cells) 60)=W at bx ⊢;have rx:=bx.rowOf;have sx:=bx.soft;have BX:=zadv bx;clear bx
    go_wp2_with fail
    refine (za1 H0.out _).mono ?_;rintro _ _ ⟨rfl,rfl⟩
    go_wp2_with fail
    refine (za1 H1.out _).mono ?_;rintro _ _ ⟨rfl,rfl⟩
    go_wp2_with fail
    refine (zfn H2.out _).mono ?_;rintro _ W2 ⟨rfl,hb⟩;have bx:=BX.out.step hb;clear BX rx sx hb;have rx:=bx.rowOf;have sx:=bx.soft;have BX:=zadv bx;clear bx
    go_wp2
    go_ret
    exact ⟨rfl,BX.out.below⟩
   | true=>
    have H2:=zadv h2
    clear h2
    cases h3:zi5 d.g with
    | false=>
     have H3:=zadv h3
     clear h3
     have E:errD d=1:=by unfold errD za5;rw [H0.out,H1.out,H2.out,H3.out];rfl
     rw [E]
     clear E
     go_enter Tryz.func107,Tryz.ntmps107
     go_upto_region 1 with (fail)
     have bx:=Bx.new w (d.cells) 60;generalize w.alloc (.cells (d.cells) 60)=W at bx ⊢;have rx:=bx.rowOf;have sx:=bx.soft;have BX:=zadv bx;clear bx
     go_wp2_with fail
     refine (za1 H0.out _).mono ?_;rintro _ _ ⟨rfl,rfl⟩
     go_wp2_with fail
     refine (za1 H1.out _).mono ?_;rintro _ _ ⟨rfl,rfl⟩
     go_wp2_with fail
     refine (zfn H2.out _).mono ?_;rintro _ W2 ⟨rfl,hb⟩;have bx:=BX.out.step hb;clear BX rx sx hb;have rx:=bx.rowOf;have sx:=bx.soft;have BX:=zadv bx;clear bx
     go_wp2_with fail
     refine (zfn H3.out _).mono ?_;rintro _ W3 ⟨rfl,hb⟩;have bx:=BX.out.step hb;clear BX rx sx hb;have rx:=bx.rowOf;have sx:=bx.soft;have BX:=zadv bx;clear bx
     go_wp2
     go_ret
     exact ⟨rfl,BX.out.below⟩
    | true=>
     have H3:=zadv h3
     clear h3
     cases h4:(d.p.w == d.g.w) with
     | true=>
      have H4:=zadv h4
      clear h4
      have E:errD d=1:=by unfold errD za5;rw [H0.out,H1.out,H2.out,H3.out,H4.out];rfl
      rw [E]
      clear E
      go_enter Tryz.func107,Tryz.ntmps107
      go_upto_region 1 with (fail)
      have bx:=Bx.new w (d.cells) 60;generalize w.alloc (.cells (d.cells) 60)=W at bx ⊢;have rx:=bx.rowOf;have sx:=bx.soft;have BX:=zadv bx;clear bx
      have h4:=H4.out
      go_wp2_with fail
      refine (za1 H0.out _).mono ?_;rintro _ _ ⟨rfl,rfl⟩
      go_wp2_with fail
      refine (za1 H1.out _).mono ?_;rintro _ _ ⟨rfl,rfl⟩
      go_wp2_with fail
      refine (zfn H2.out _).mono ?_;rintro _ W2 ⟨rfl,hb⟩;have bx:=BX.out.step hb;clear BX rx sx hb;have rx:=bx.rowOf;have sx:=bx.soft;have BX:=zadv bx;clear bx
      go_wp2_with fail
      refine (zfn H3.out _).mono ?_;rintro _ W3 ⟨rfl,hb⟩;have bx:=BX.out.step hb;clear BX rx sx hb;have rx:=bx.rowOf;have sx:=bx.soft;have BX:=zadv bx;clear bx
      go_wp2
      go_ret
      exact ⟨rfl,BX.out.below⟩
     | false=>
      have H4:=zadv h4
      clear h4
      cases h5:wi d.q 1 32 with
      | false=>
       have H5:=zadv h5
       clear h5
       have E:errD d=1:=by unfold errD za5;rw [H0.out,H1.out,H2.out,H3.out,H4.out,H5.out];rfl
       rw [E]
       clear E
       go_enter Tryz.func107,Tryz.ntmps107
       go_upto_region 1 with (fail)
       have bx:=Bx.new w (d.cells) 60;generalize w.alloc (.cells (d.cells) 60)=W at bx ⊢;have rx:=bx.rowOf;have sx:=bx.soft;have BX:=zadv bx;clear bx
       have h4:=H4.out
       go_wp2_with fail
       refine (za1 H0.out _).mono ?_;rintro _ _ ⟨rfl,rfl⟩
       go_wp2_with fail
       refine (za1 H1.out _).mono ?_;rintro _ _ ⟨rfl,rfl⟩
       go_wp2_with fail
       refine (zfn H2.out _).mono ?_;rintro _ W2 ⟨rfl,hb⟩;have bx:=BX.out.step hb;clear BX rx sx hb;have rx:=bx.rowOf;have sx:=bx.soft;have BX:=zadv bx;clear bx
       go_wp2_with fail
       refine (zfn H3.out _).mono ?_;rintro _ W3 ⟨rfl,hb⟩;have bx:=BX.out.step hb;clear BX rx sx hb;have rx:=bx.rowOf;have sx:=bx.soft;have BX:=zadv bx;clear bx
       go_wp2_with fail
       refine (za1 H5.out _).mono ?_;rintro _ _ ⟨rfl,rfl⟩
       go_wp2
       go_ret
       exact ⟨rfl,BX.out.below⟩
      | true=>
       have H5:=zadv h5
       clear h5
       have E:errD d=0:=by unfold errD za5;rw [H0.out,H1.out,H2.out,H3.out,H4.out,H5.out];rfl
       rw [E]
       clear E
       go_enter Tryz.func107,Tryz.ntmps107
       go_upto_region 1 with (fail)
       have bx:=Bx.new w (d.cells) 60;generalize w.alloc (.cells (d.cells) 60)=W at bx ⊢;have rx:=bx.rowOf;have sx:=bx.soft;have BX:=zadv bx;clear bx
       have h4:=H4.out
       go_wp2_with fail
       refine (za1 H0.out _).mono ?_;rintro _ _ ⟨rfl,rfl⟩
       go_wp2_with fail
       refine (za1 H1.out _).mono ?_;rintro _ _ ⟨rfl,rfl⟩
       go_wp2_with fail
       refine (zfn H2.out _).mono ?_;rintro _ W2 ⟨rfl,hb⟩;have bx:=BX.out.step hb;clear BX rx sx hb;have rx:=bx.rowOf;have sx:=bx.soft;have BX:=zadv bx;clear bx
       go_wp2_with fail
       refine (zfn H3.out _).mono ?_;rintro _ W3 ⟨rfl,hb⟩;have bx:=BX.out.step hb;clear BX rx sx hb;have rx:=bx.rowOf;have sx:=bx.soft;have BX:=zadv bx;clear bx
       go_wp2_with fail
       refine (za1 H5.out _).mono ?_;rintro _ _ ⟨rfl,rfl⟩
       go_wp2
       go_ret
       exact ⟨rfl,BX.out.below⟩
end
end Go.Proofs.YthjgiamfaijoeaaGreatDoor
