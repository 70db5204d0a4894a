/- What is proved: parts of the walk and of the plain law. No condition but those each law names. -/
import Derived.Test.YthjgiamfaijoeaaGreatDoorD15
import Derived.StillTailTactics
import Derived.Test.YthjgiamfaijoeaaGreatDoorD00
set_option linter.unusedSimpArgs false
set_option linter.unusedVariables false
set_option maxRecDepth 100000
namespace Go.Proofs.YthjgiamfaijoeaaGreatDoor
open Go.RowKit
section
attribute [local go_sem ↓] zad
attribute [local go_sem] zaf zai zaj zal
section
variable (a b c:Nat)
theorem kv_0:(zbx a b c)[0]?=some (.func (.func a) #[] #[]):=rfl
theorem kv_1:(zbx a b c)[1]?=some (.func (.func b) #[] #[]):=rfl
theorem kv_2:(zbx a b c)[2]?=some (.func (.func c) #[] #[]):=rfl
theorem zabs:(zbx a b c).size=3:=rfl
theorem kv_0g (q:0 < (zbx a b c).size):(zbx a b c)[0]'q=.func (.func a) #[] #[]:=rfl
theorem kv_1g (q:1 < (zbx a b c).size):(zbx a b c)[1]'q=.func (.func b) #[] #[]:=rfl
theorem kv_2g (q:2 < (zbx a b c).size):(zbx a b c)[2]'q=.func (.func c) #[] #[]:=rfl
end
attribute [go_sem ↓] kv_0 kv_1 kv_2
attribute [go_sem] zabs kv_0g kv_1g kv_2g
def idE (i k:Int):Int:=if i < 1 ∨ i > 1073741824 then 1 else k
set_option maxHeartbeats 1000000 in
theorem zia {m:Msg} (hk:m.k=1 ∨ m.k=2) (w:World):Calls Tryz.prog 156 #[.agg (m.cells)] w fun e w'=>e=.returned (.int .i64 (idE m.i (zcg m)))∧Below w.heap.size w w':=by
 have HK:=zadv hk
 clear hk
 by_cases h1:m.i < 1
 ·have E:idE m.i (zcg m)=1:=if_pos (.inl h1)
  rw [E]
  clear E
  go_enter Tryz.func156,Tryz.ntmps156
  go_upto_region 1 with (fail)
  have bx:=Bx.new w (m.cells) 118;generalize w.alloc (.cells (m.cells) 118)=W at bx ⊢;have rx:=bx.rowOf;have sx:=bx.soft;have BX:=zadv bx;clear bx
  go_wp2_with fail
  refine (zdn HK.out _).mono ?_;rintro _ _ ⟨rfl,rfl⟩
  have kx:=Bx.new W (zbx 220 221 222) 247
  have bx:=BX.out.step kx.below
  clear BX rx sx
  generalize W.alloc (.cells (zbx 220 221 222) 247)=W2 at kx bx ⊢
  have rx:=bx.rowOf
  have rk:=kx.rowOf
  have BX:=zadv bx
  clear bx kx
  go_wp2
  go_ret
  exact ⟨rfl,BX.out.below⟩
 ·by_cases h2:m.i > 1073741824
  ·have E:idE m.i (zcg m)=1:=if_pos (.inr h2)
   rw [E]
   clear E
   go_enter Tryz.func156,Tryz.ntmps156
   go_upto_region 1 with (fail)
   have bx:=Bx.new w (m.cells) 118;generalize w.alloc (.cells (m.cells) 118)=W at bx ⊢;have rx:=bx.rowOf;have sx:=bx.soft;have BX:=zadv bx;clear bx
   go_wp2_with fail
   refine (zdn HK.out _).mono ?_;rintro _ _ ⟨rfl,rfl⟩
   have kx:=Bx.new W (zbx 220 221 222) 247
   have bx:=BX.out.step kx.below
   clear BX rx sx
   generalize W.alloc (.cells (zbx 220 221 222) 247)=W2 at kx bx ⊢
   have rx:=bx.rowOf
   have rk:=kx.rowOf
   have BX:=zadv bx
   clear bx kx
   go_wp2
   go_ret
   exact ⟨rfl,BX.out.below⟩
  ·have E:idE m.i (zcg m)=zcg m:=if_neg (by omega)
   rw [E]
   clear E
   go_enter Tryz.func156,Tryz.ntmps156
   go_upto_region 1 with (fail)
   have bx:=Bx.new w (m.cells) 118;generalize w.alloc (.cells (m.cells) 118)=W at bx ⊢;have rx:=bx.rowOf;have sx:=bx.soft;have BX:=zadv bx;clear bx
   go_wp2_with fail
   refine (zdn HK.out _).mono ?_;rintro _ _ ⟨rfl,rfl⟩
   have kx:=Bx.new W (zbx 220 221 222) 247
   have bx:=BX.out.step kx.below
   clear BX rx sx
   generalize W.alloc (.cells (zbx 220 221 222) 247)=W2 at kx bx ⊢
   have rx:=bx.rowOf
   have rk:=kx.rowOf
   have BX:=zadv bx
   clear bx kx
   go_wp2_with fail
   have bd:=BX.out.step (Below.refl W2.heap.size W2).drew
   have rxd:=bd.rowOf
   have rkd:rowOf W2.drew W.heap.size=zbx 220 221 222:=rk
   have BD:=zadv bd
   clear bd
   (refine wp_region_still_tail 5 (by kernel_rfl) (by kernel_rfl) ?_;simp only [List.take_succ_cons,List.take_zero,List.drop_succ_cons,List.drop_zero];(iterate 5 still_step);refine wpStill_nil ?_)
   go_wp2_with fail
   refine (zlr m _).mono ?_
   rintro _ W4 ⟨rfl,hb4⟩
   have B4:=zadv (BD.out.step hb4).below
   clear hb4
   go_wp2
   go_ret
   exact ⟨rfl,B4.out⟩
set_option maxHeartbeats 1000000 in
theorem zib (i c:Int) (w:World):Calls Tryz.prog 156 #[.agg ((msgR i c).cells)] w fun e w'=>e=.returned (.int .i64 (idE i (refE c)))∧Below w.heap.size w w':=by
 by_cases h1:i < 1
 ·have E:idE i (refE c)=1:=if_pos (.inl h1)
  rw [E]
  clear E
  go_enter Tryz.func156,Tryz.ntmps156
  go_upto_region 1 with (fail)
  have bx:=Bx.new w ((msgR i c).cells) 118;generalize w.alloc (.cells ((msgR i c).cells) 118)=W at bx ⊢;have rx:=bx.rowOf;have sx:=bx.soft;have BX:=zadv bx;clear bx
  go_wp2_with fail
  refine (zdo _).mono ?_;rintro _ _ ⟨rfl,rfl⟩
  have kx:=Bx.new W (zbx 223 224 225) 247
  have bx:=BX.out.step kx.below
  clear BX rx sx
  generalize W.alloc (.cells (zbx 223 224 225) 247)=W2 at kx bx ⊢
  have rx:=bx.rowOf
  have rk:=kx.rowOf
  have BX:=zadv bx
  clear bx kx
  go_wp2
  go_ret
  exact ⟨rfl,BX.out.below⟩
 ·by_cases h2:i > 1073741824
  ·have E:idE i (refE c)=1:=if_pos (.inr h2)
   rw [E]
   clear E
   go_enter Tryz.func156,Tryz.ntmps156
   go_upto_region 1 with (fail)
   have bx:=Bx.new w ((msgR i c).cells) 118;generalize w.alloc (.cells ((msgR i c).cells) 118)=W at bx ⊢;have rx:=bx.rowOf;have sx:=bx.soft;have BX:=zadv bx;clear bx
   go_wp2_with fail
   refine (zdo _).mono ?_;rintro _ _ ⟨rfl,rfl⟩
   have kx:=Bx.new W (zbx 223 224 225) 247
   have bx:=BX.out.step kx.below
   clear BX rx sx
   generalize W.alloc (.cells (zbx 223 224 225) 247)=W2 at kx bx ⊢
   have rx:=bx.rowOf
   have rk:=kx.rowOf
   have BX:=zadv bx
   clear bx kx
   go_wp2
   go_ret
   exact ⟨rfl,BX.out.below⟩
  ·have E:idE i (refE c)=refE c:=if_neg (by omega)
   rw [E]
   clear E
   go_enter Tryz.func156,Tryz.ntmps156
   go_upto_region 1 with (fail)
   have bx:=Bx.new w ((msgR i c).cells) 118;generalize w.alloc (.cells ((msgR i c).cells) 118)=W at bx ⊢;have rx:=bx.rowOf;have sx:=bx.soft;have BX:=zadv bx;clear bx
   go_wp2_with fail
   refine (zdo _).mono ?_;rintro _ _ ⟨rfl,rfl⟩
   have kx:=Bx.new W (zbx 223 224 225) 247
   have bx:=BX.out.step kx.below
   clear BX rx sx
   generalize W.alloc (.cells (zbx 223 224 225) 247)=W2 at kx bx ⊢
   have rx:=bx.rowOf
   have rk:=kx.rowOf
   have BX:=zadv bx
   clear bx kx
   go_wp2_with fail
   have bd:=BX.out.step (Below.refl W2.heap.size W2).drew
   have rxd:=bd.rowOf
   have rkd:rowOf W2.drew W.heap.size=zbx 223 224 225:=rk
   have BD:=zadv bd
   clear bd
   (refine wp_region_still_tail 5 (by kernel_rfl) (by kernel_rfl) ?_;simp only [List.take_succ_cons,List.take_zero,List.drop_succ_cons,List.drop_zero];(iterate 5 still_step);refine wpStill_nil ?_)
   go_wp2_with fail
   refine (znn i c _).mono ?_
   rintro _ W4 ⟨rfl,hb4⟩
   have B4:=zadv (BD.out.step hb4).below
   clear hb4
   go_wp2
   go_ret
   exact ⟨rfl,B4.out⟩
end
section
attribute [local go_sem ↓] zad bs243
attribute [local go_sem] zaf zai zaj zal zzy g_p g_g zlq
def legI (l:Lg):List Nat:=intI l.w ++ intI l.a ++ intI l.u
theorem zg9 (l:Lg):(legI l).length ≤ 27:=by
 have h1:=zba l.w
 have h2:=zba l.a
 have h3:=zba l.u
 unfold legI
 simp only [List.length_append]
 omega
structure LgI (l:Lg):Prop where
 w:I64 l.w
 a:I64 l.a
 u:I64 l.u
theorem zno {w:World} (hf:Forms w) {n c:Nat} {ao:Option Addr} {l:List Nat} (hl:Sl w ao n c (bts l)) (hn:n < 100000) {m:Msg} (hc:I64 m.c):
  Calls Tryz.prog 224 #[.slice ao n c,.agg m.cells] w (RetO 5 w.heap.size (n + (intI m.c).length) (bts (l ++ intI m.c)) w):=by
 have hb:=zat w (.cells m.cells 118)
 have IC:=zadv (zni (hf.keep (zadw _) hb) (hl.keep (zadw _) hb) (by omega) m.c hc)
 have HB:=zadv hb
 clear hf hl hc hb
 go_enter Tryz.func224,Tryz.ntmps224
 go_wp2_with fail
 refine IC.out.mono ?_
 rintro _ W2 ⟨a2,c2,rfl,hb2,own2⟩
 have B2:=zadv (HB.out.trans (hb2.mono HB.out.size))
 have O2:=zadv (show W2.ownsRow w.heap.size 5 1 (.slice a2 (n + (intI m.c).length) c2) (n + (intI m.c).length) (bts (l ++ intI m.c)) from za0 own2 HB.out.size)
 clear IC hb2 own2
 go_wp2
 go_ret
 exact ⟨a2,c2,rfl,B2.out,O2.out⟩
def RetI (l:List Nat) (w:World):Ending→World→Prop:=fun e w'=>∃ ao cap n,e=.returned (.slice ao n cap)∧Below w.heap.size w w'∧w'.ownsRow w.heap.size 5 1 (.slice ao n cap) n (bts l)
theorem RetO.op {n:Nat} {l:List Nat} {w:World} {f:FuncId} {args:Array Value} (h:Calls Tryz.prog f args w (RetO 5 w.heap.size n (bts l) w)):Calls Tryz.prog f args w (RetI l w):=
 h.mono fun _ _ ⟨ao,cap,he,hb,ho⟩=>⟨ao,cap,n,he,hb,ho⟩
theorem zabt {w:World} {B n k:Nat} {v:Value} {l:List Nat} (h:w.ownsRow B 5 1 v n (bts l)) (hk:l.length=k):n=k:=by
 have:=h.1
 rw [Nat.mul_one,zam] at this
 omega
theorem zed {w:World} (hf:Forms w) {n c:Nat} {ao:Option Addr} {l:List Nat} (hl:Sl w ao n c (bts l)) (hn:l.length < 1000000000) (x:Int) (hx:I64 x):Calls Tryz.prog 158 #[.slice ao n c,.int .i64 x] w (RetI (l ++ intI x) w):=
 RetO.op (zni hf hl (by rw [← hl.len,zam];exact hn) x hx)
def zdx (m:Msg):Nat→List Nat
 | 0=>[]
 | 1=>legI m.p
 | _=>legI m.p ++ legI m.g
theorem zc9 {w:World} {b:Nat} {l:Lg} (h:rowOf w b=l.cells):(rowOf w b)[0]?=some (.int .i64 l.w)∧(rowOf w b)[1]?=some (.int .i64 l.a)∧(rowOf w b)[2]?=some (.int .i64 l.u):=by
 rw [h]
 exact ⟨rfl,rfl,rfl⟩
set_option maxHeartbeats 4000000 in
theorem znp {w:World} (hf:Forms w) {n c:Nat} {ao:Option Addr} {l:List Nat} (hl:Sl w ao n c (bts l)) (hn:n < 100000) {m:Msg} (hp:LgI m.p) (hg:LgI m.g):
   Calls Tryz.prog 221 #[.slice ao n c,.agg m.cells] w (RetI (l ++ zdx m 2 ++ m.h.l) w):=by
 have HF:=zadv hf
 have HL:=zadv hl
 have HP:=zadv hp
 have HG:=zadv hg
 have hll:l.length=n:=by have:=hl.len;rwa [zam] at this
 have hlp:=zg9 m.p
 have hlg:=zg9 m.g
 have HLL:=zadv hll
 clear hf hl hp hg hll
 go_enter Tryz.func221,Tryz.ntmps221
 go_upto_region 1 with (fail)
 have bx:=Bx.new w (m.cells) 118;generalize w.alloc (.cells (m.cells) 118)=W at bx ⊢;have rx:=bx.rowOf;have sx:=bx.soft;have BX:=zadv bx;clear bx
 go_wp2_with fail
 go_loopw [0,13] (fun v0 v13 wr=>∃ (j nr:Nat) (ar:Option Addr) (cr:Nat),j ≤ 2∧v13=.int .i64 j∧v0=.slice ar nr cr∧Sl wr ar nr cr (bts (l ++ zdx m j))∧Bx w m.cells 118 wr∧Bx W (znm m) 30 wr) (fun _ v13 _=>2 - (intOf v13).toNat)
 case atStart=>
   have hb:=(BX.out.step (zat W (.cells (znm m) 30)))
   exact ⟨0,n,ao,c,by omega,rfl,rfl,by simpa [zdx] using HL.out.keep (zadw _) hb.below,hb,Bx.new W _ _⟩
 case round=>
   obtain ⟨j,nr,ar,cr,hj,rfl,rfl,hsl,bx,sl⟩:=hrel
   have rx:=bx.rowOf
   have rs:=sl.rowOf
   have BX:=zadv bx
   have SX:=zadv sl
   have HS:=zadv hsl
   clear bx sl hsl
   match j,hj with
   | 0,_=>
     have h14:W.heap.size ≠ wr.heap.size:=by have:=(zadu SX.out.row).1;omega
     have h15:w.heap.size ≠ wr.heap.size:=by have:=(zadu BX.out.row).1;omega
     go_upto_region 4 with (fail)
     have lx:=Bx.made wr Lg.zero.cells m.p.cells 30
     generalize (wr.alloc (.cells Lg.zero.cells 30)).setRow wr.heap.size m.p.cells=W5 at lx ⊢
     have hb0:=lx.below.drew
     have lxd:=lx.step (Below.refl W5.heap.size W5).drew
     have k0:=zc9 lxd.rowOf
     have hn0:(l ++ zdx m 0).length < 200000:=by rw [List.length_append,HLL.out];simp only [zdx,List.length_nil];omega
     have I1:=zadv (zed (w:=W5.drew) (HF.out.keep (zadw _) (BX.out.step hb0).below) (HS.out.keep (zadw _) hb0) (by omega) m.p.w HP.out.w)
     have LX:=zadv lxd
     have HB0:=zadv hb0
     have HN:=zadv hn0
     clear lx lxd hb0 rx rs h14 h15 hn0
     have gs:(zdx m 0) ++ legI m.p=zdx m 1:=rfl
     have GS:=zadv gs
     clear gs
     go_region_held3 (fun w'=>(rowOf w' wr.heap.size)[0]?=some (.int .i64 m.p.w)∧(rowOf w' wr.heap.size)[1]?=some (.int .i64 m.p.a)∧(rowOf w' wr.heap.size)[2]?=some (.int .i64 m.p.u)) (first | exact k0 | exact k1 | exact k2 | exact k3)
       (first
         | (go_at_call 158;(with_reducible refine I1.out.mono ?_);rintro _ V1 ⟨b1,d1,n1,rfl,hb1,own1⟩
            have l1:=LX.out.step hb1
            have k1:=zc9 l1.rowOf
            have hB1:=HB0.out.trans (hb1.mono HB0.out.size)
            have I2:=zadv (zed (HF.out.keep (zadw _) (BX.out.step hB1).below) (Sl.own own1) (by have:=HN.out;have:=zba m.p.w;simp only [List.length_append] at *;omega) m.p.a HP.out.a)
            have L1:=zadv l1
            have HB1:=zadv hB1
            clear l1 hb1 own1 hB1)
         | (go_at_call 158;(with_reducible refine I2.out.mono ?_);rintro _ V2 ⟨b2,d2,n2,rfl,hb2,own2⟩
            have l2:=L1.out.step hb2
            have k2:=zc9 l2.rowOf
            have hB2:=HB1.out.trans (hb2.mono HB1.out.size)
            have I3:=zadv (zed (HF.out.keep (zadw _) (BX.out.step hB2).below) (Sl.own own2) (by have:=HN.out;have:=zba m.p.w;have:=zba m.p.a;simp only [List.length_append] at *;omega) m.p.u HP.out.u)
            have L2:=zadv l2
            have HB2:=zadv hB2
            clear l2 hb2 own2 hB2)
         | (go_at_call 158;(with_reducible refine I3.out.mono ?_);rintro _ V3 ⟨b3,d3,n3,rfl,hb3,own3⟩
            have l3:=L2.out.step hb3
            have k3:=zc9 l3.rowOf
            have hB3:=HB2.out.trans (hb3.mono HB2.out.size)
            have eb:l ++ zdx m 0 ++ intI m.p.w ++ intI m.p.a ++ intI m.p.u=l ++ zdx m 1:=by
              rw [← GS.out];unfold legI;simp only [List.append_assoc]
            rw [eb] at own3
            have S3:=zadv (Sl.own own3)
            have HB3:=zadv hB3
            clear l3 hb3 own3 hB3 eb))
     all_goals have bx:=BX.out.step HB3.out
     all_goals have sl:=SX.out.step HB3.out
     all_goals have BX3:=zadv bx
     all_goals have SX3:=zadv sl
     all_goals clear bx sl k0 k1 k2 k3 I1 I2 I3
     all_goals go_wp2
     all_goals go_roundw
     case rel=>exact ⟨0 + 1,n3,b3,d3,by omega,rfl,rfl,S3.out,BX3.out,SX3.out⟩
     case measure=>simp [intOf]
   | 1,_=>
     have h14:W.heap.size ≠ wr.heap.size:=by have:=(zadu SX.out.row).1;omega
     have h15:w.heap.size ≠ wr.heap.size:=by have:=(zadu BX.out.row).1;omega
     go_upto_region 4 with (fail)
     have lx:=Bx.made wr Lg.zero.cells m.g.cells 30
     generalize (wr.alloc (.cells Lg.zero.cells 30)).setRow wr.heap.size m.g.cells=W5 at lx ⊢
     have hb0:=lx.below.drew
     have lxd:=lx.step (Below.refl W5.heap.size W5).drew
     have k0:=zc9 lxd.rowOf
     have hn0:(l ++ zdx m 1).length < 200000:=by rw [List.length_append,HLL.out];simp only [zdx,List.length_nil];omega
     have I1:=zadv (zed (w:=W5.drew) (HF.out.keep (zadw _) (BX.out.step hb0).below) (HS.out.keep (zadw _) hb0) (by omega) m.g.w HG.out.w)
     have LX:=zadv lxd
     have HB0:=zadv hb0
     have HN:=zadv hn0
     clear lx lxd hb0 rx rs h14 h15 hn0
     have gs:(zdx m 1) ++ legI m.g=zdx m 2:=rfl
     have GS:=zadv gs
     clear gs
     go_region_held3 (fun w'=>(rowOf w' wr.heap.size)[0]?=some (.int .i64 m.g.w)∧(rowOf w' wr.heap.size)[1]?=some (.int .i64 m.g.a)∧(rowOf w' wr.heap.size)[2]?=some (.int .i64 m.g.u)) (first | exact k0 | exact k1 | exact k2 | exact k3)
       (first
         | (go_at_call 158;(with_reducible refine I1.out.mono ?_);rintro _ V1 ⟨b1,d1,n1,rfl,hb1,own1⟩
            have l1:=LX.out.step hb1
            have k1:=zc9 l1.rowOf
            have hB1:=HB0.out.trans (hb1.mono HB0.out.size)
            have I2:=zadv (zed (HF.out.keep (zadw _) (BX.out.step hB1).below) (Sl.own own1) (by have:=HN.out;have:=zba m.g.w;simp only [List.length_append] at *;omega) m.g.a HG.out.a)
            have L1:=zadv l1
            have HB1:=zadv hB1
            clear l1 hb1 own1 hB1)
         | (go_at_call 158;(with_reducible refine I2.out.mono ?_);rintro _ V2 ⟨b2,d2,n2,rfl,hb2,own2⟩
            have l2:=L1.out.step hb2
            have k2:=zc9 l2.rowOf
            have hB2:=HB1.out.trans (hb2.mono HB1.out.size)
            have I3:=zadv (zed (HF.out.keep (zadw _) (BX.out.step hB2).below) (Sl.own own2) (by have:=HN.out;have:=zba m.g.w;have:=zba m.g.a;simp only [List.length_append] at *;omega) m.g.u HG.out.u)
            have L2:=zadv l2
            have HB2:=zadv hB2
            clear l2 hb2 own2 hB2)
         | (go_at_call 158;(with_reducible refine I3.out.mono ?_);rintro _ V3 ⟨b3,d3,n3,rfl,hb3,own3⟩
            have l3:=L2.out.step hb3
            have k3:=zc9 l3.rowOf
            have hB3:=HB2.out.trans (hb3.mono HB2.out.size)
            have eb:l ++ zdx m 1 ++ intI m.g.w ++ intI m.g.a ++ intI m.g.u=l ++ zdx m 2:=by
              rw [← GS.out];unfold legI;simp only [List.append_assoc]
            rw [eb] at own3
            have S3:=zadv (Sl.own own3)
            have HB3:=zadv hB3
            clear l3 hb3 own3 hB3 eb))
     all_goals have bx:=BX.out.step HB3.out
     all_goals have sl:=SX.out.step HB3.out
     all_goals have BX3:=zadv bx
     all_goals have SX3:=zadv sl
     all_goals clear bx sl k0 k1 k2 k3 I1 I2 I3
     all_goals go_wp2
     all_goals go_roundw
     case rel=>exact ⟨1 + 1,n3,b3,d3,by omega,rfl,rfl,S3.out,BX3.out,SX3.out⟩
     case measure=>simp [intOf]
   | 2,_=>
     have hn2:nr < 200000:=by have:=HS.out.len;rw [zam,List.length_append,HLL.out] at this;simp only [zdx,List.length_append] at this;omega
     have HA:=zadv (RetO.op (zg6 HS.out m.h.hl (by omega)))
     clear rs hn2
     go_wp2_with fail
     refine HA.out.mono ?_
     rintro _ V4 ⟨b4,d4,n4,rfl,hb4,own4⟩
     have O4:=zadv (za0 own4 BX.out.below.size)
     have B4:=zadv (BX.out.step hb4).below
     clear hb4 own4
     go_wp2
     go_ret
     exact ⟨b4,d4,n4,rfl,B4.out,O4.out⟩
end
end Go.Proofs.YthjgiamfaijoeaaGreatDoor
