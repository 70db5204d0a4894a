/- What is proved: parts of the walk and of the plain law. No condition but those each law names. -/
import Derived.Test.YthjgiamfaijoeaaGreatDoorD14
import Derived.Test.YthjgiamfaijoeaaGreatDoorD00
set_option linter.unusedSimpArgs false
set_option linter.unusedVariables false
set_option maxRecDepth 100000
namespace Go.Proofs.YthjgiamfaijoeaaGreatDoor
open Go.RowKit
section
attribute [local go_sem ↓] zad
attribute [local go_sem] zaf zai zaj zal
theorem zfo (w:World) (xs:List Int) (t:TypeId) {cs:Array Value} (hc:cs=(xs.map (Value.int .i64)).toArray) {n k:Nat} (hn:n=xs.length) (hk:k=w.heap.size):Sl (w.alloc (.cells cs t)) (some ⟨k,0,none⟩) n n (xs.map (Value.int .i64)):=by
 subst hc hn hk
 exact zcp w _ t _ _ (0,0) rfl (by simp)
def inR (x:Int):Prop:=0 ≤ x∧x ≤ 1125899906842624
theorem inR.i64 {x:Int} (h:inR x):I64 x:=⟨by have:=h.1;omega,by have:=h.2;omega⟩
theorem zi6 {n a b:Int} (h:wi n a b=true) (ha:0 ≤ a) (hb:b ≤ 1125899906842624):inR n:=by
 have:=of_decide_eq_true h
 exact ⟨by omega,by omega⟩
structure DlIn (d:Dl):Prop where
 i:inR d.i
 r:inR d.r
 pw:inR d.p.w
 pa:inR d.p.a
 pu:inR d.p.u
 gw:inR d.g.w
 ga:inR d.g.a
 gu:inR d.g.u
 q:inR d.q
theorem zh8 {d:Dl} (h:za5 d=true):DlIn d:=by
 unfold za5 zi5 at h
 simp only [Bool.and_eq_true] at h
 obtain ⟨h1,h2,⟨h3,h4,h5⟩,⟨h6,h7,h8⟩,_,h9⟩:=h
 exact ⟨zi6 h1 (by decide) (by decide),zi6 h2 (by decide) (by decide),zi6 h3 (by decide) (by decide),zi6 h4 (by decide) (by decide),zi6 h5 (by decide) (by decide),zi6 h6 (by decide) (by decide),zi6 h7 (by decide) (by decide),zi6 h8 (by decide) (by decide),zi6 h9 (by decide) (by decide)⟩
def zh9 (d:Dl):List Int:=[d.r,d.p.w,d.p.a,d.p.u,d.g.w,d.g.a,d.g.u]
theorem ztr {d:Dl} (h:DlIn d):∀ x ∈ zh9 d,I64 x:=by
 intro x hx
 simp only [zh9,List.mem_cons,List.not_mem_nil,or_false] at hx
 rcases hx with rfl | rfl | rfl | rfl | rfl | rfl | rfl
 ·exact h.r.i64
 ·exact h.pw.i64
 ·exact h.pa.i64
 ·exact h.pu.i64
 ·exact h.gw.i64
 ·exact h.ga.i64
 ·exact h.gu.i64
def putD (d:Dl):List Nat:=zbh [1,d.i] ++ zbh (zh9 d) ++ d.h.l ++ zbh [d.q]
def putS (i:Int) (h:Hs):List Nat:=zbh [2,i] ++ h.l
theorem zg7 (d:Dl):(putD d).length ≤ 122:=by
 have h1:=zcf [1,d.i]
 have h2:=zcf (zh9 d)
 have h3:=zcf [d.q]
 have h4:=d.h.hl
 unfold putD
 simp only [List.length_append,zh9,List.length_cons,List.length_nil] at *
 omega
theorem zg8 (i:Int) (h:Hs):(putS i h).length ≤ 50:=by
 have h1:=zcf [2,i]
 have h4:=h.hl
 unfold putS
 simp only [List.length_append,List.length_cons,List.length_nil] at *
 omega
def zfp (l:List Nat) (w:World):Ending→World→Prop:=fun e w'=>∃ ao c,e=.returned (.tuple #[.slice ao l.length c,.int .i64 0])∧Below w.heap.size w w'∧w'.ownsRow w.heap.size 5 1 (.slice ao l.length c) l.length (bts l)
theorem Bx.made (w:World) (C0 C:Array Value) (t:TypeId):Bx w C t ((w.alloc (.cells C0 t)).setRow w.heap.size C):=
 ⟨setRow_heap _ _ C0 C t _ (heap_alloc_new w _),Below.setRow_ (zat w _) (zadw _) _⟩
set_option maxHeartbeats 2000000 in
theorem Put_S {w:World} (hf:Forms w) {i:Int} {h:Hs} (hi:wi i 1 1073741824=true):Calls Tryz.prog 233 #[.agg (rcS i h).cells] w (zfp (putS i h) w):=by
 have H1:=zadv hi
 have HF:=zadv hf
 have hir:inR i:=zi6 hi (by decide) (by decide)
 have hl1:=zcf [2,i]
 have hl2:=zg8 i h
 have hl3:(putS i h).length=(zbh [2,i]).length + 32:=by unfold putS;rw [List.length_append,h.hl]
 have HL:=zadv hl2
 have HL3:=zadv hl3
 clear hi hf hl2 hl3
 go_enter Tryz.func233,Tryz.ntmps233
 go_upto_region 1 with (fail)
 have bx:=Bx.new w ((rcS i h).cells) 162;generalize w.alloc (.cells ((rcS i h).cells) 162)=W at bx ⊢;have rx:=bx.rowOf;have sx:=bx.soft;have BX:=zadv bx;clear bx
 go_wp2_with fail
 refine (zkh H1.out _).mono ?_;rintro _ W2 ⟨rfl,hb⟩;have bx:=BX.out.step hb;clear BX rx sx hb;have rx:=bx.rowOf;have sx:=bx.soft;have BX:=zadv bx;clear bx
 have hb3:=zat W2 (.cells #[.int .i64 2,.int .i64 i] 3)
 have IA:=zadv (zfl (HF.out.keep (zadw _) ((BX.out.step hb3).below)) (n:=0) (l:=[]) (Sl.nothing _) (zfo W2 [2,i] 3 rfl (n:=2) rfl rfl) (by intro x hx;simp only [List.mem_cons,List.not_mem_nil,or_false] at hx;rcases hx with rfl | rfl;exact ⟨by decide,by decide⟩;exact hir.i64) (by decide) (by decide) (by decide))
 have HB3:=zadv hb3
 clear hb3
 go_wp2_with fail
 refine IA.out.mono ?_
 rintro _ W4 ⟨a4,c4,rfl,hb4,own4⟩
 have hz3:w.heap.size ≤ (W2.alloc (.cells #[.int .i64 2,.int .i64 i] 3)).heap.size:=Nat.le_trans BX.out.below.size HB3.out.size
 have e0:0 + (zbh [2,i]).length=(zbh [2,i]).length:=Nat.zero_add _
 rw [e0] at own4 ⊢
 have O4:=zadv (za0 own4 hz3)
 have bx:=BX.out.step (HB3.out.trans (hb4.mono HB3.out.size))
 clear BX rx sx IA HB3 own4 hb4 hz3
 have rx:=bx.rowOf
 have sx:=bx.soft
 have BX:=zadv bx
 have hlt:=(zadu bx.row).1
 have hne:¬ w.heap.size=W4.heap.size:=by omega
 clear bx
 go_upto_region 6 with (fail)
 have hb5:Below W4.heap.size W4 ((W4.alloc (.cells Dl.zero.cells 60)).setRow W4.heap.size Dl.zero.cells):=Below.setRow_ (zat W4 _) (zadw _) _
 generalize (W4.alloc (.cells Dl.zero.cells 60)).setRow W4.heap.size Dl.zero.cells=W5 at hb5 ⊢
 have bx:=BX.out.step hb5
 clear BX rx sx hlt hne
 have rx:=bx.rowOf
 have sx:=bx.soft
 have BX:=zadv bx
 have O5:=zadv (zbe O4.out (zadw _) hb5)
 have HA:=zadv (zg6 (Sl.own O5.out) h.hl (by simp only [List.length_cons,List.length_nil] at hl1;omega))
 clear bx hb5 O4
 go_wp2_with fail
 refine HA.out.mono ?_
 rintro _ W6 ⟨a6,c6,rfl,hb6,own6⟩
 have eb:bts ([] ++ zbh [2,i] ++ h.l)=bts (putS i h):=rfl
 rw [eb] at own6
 rw [← HL3.out] at own6 ⊢
 have O6:=zadv (za0 own6 BX.out.below.size)
 have B6:=zadv (BX.out.below.trans (hb6.mono BX.out.below.size))
 have hn:¬ ((putS i h).length:Int) > 400:=by have:=HL.out;omega
 clear own6 hb6 BX HA O5 rx sx
 go_wp2
 refine bodyPost_ret (results_tmp2 rfl _ _ _) rfl ?_
 exact ⟨a6,c6,rfl,B6.out,O6.out⟩
theorem zgo {w:World} {b:Nat} {cs:Array Value} (h:rowOf w b=cs) (o n:Nat):w.rangeAt b o (sub cs o n).toList:=fun j v hv=>by
 rw [zad,h]
 unfold sub at hv
 simp only [Array.getElem?_toList,Array.getElem?_extract] at hv
 split at hv
 ·exact hv
 ·cases hv
theorem zdm {w:World} {b:Nat} {d:Dl} (h:rowOf w b=d.cells):w.rangeAt b 8 (bts d.h.l)∧(rowOf w b)[40]?=some (.int .i64 d.q):=by
 refine ⟨?_,?_⟩
 ·have:=zgo h 8 32
  rw [d_h] at this
  exact this
 ·rw [h]
  exact d_40 d
set_option maxHeartbeats 4000000 in
theorem Put_D {w:World} (hf:Forms w) {d:Dl} (hd:za5 d=true):Calls Tryz.prog 233 #[.agg (rcD d).cells] w (zfp (putD d) w):=by
 have H1:=zadv hd
 have HF:=zadv hf
 have HI:=zadv (zh8 hd)
 have hl1:=zadv (zcf [1,d.i])
 have hl2:=zadv (zcf (zh9 d))
 have hl3:=zadv (zcf [d.q])
 have HL:=zadv (zg7 d)
 clear hd hf
 go_enter Tryz.func233,Tryz.ntmps233
 go_upto_region 1 with (fail)
 have bx:=Bx.new w ((rcD d).cells) 162;generalize w.alloc (.cells ((rcD d).cells) 162)=W at bx ⊢;have rx:=bx.rowOf;have sx:=bx.soft;have BX:=zadv bx;clear bx
 go_wp2_with fail
 refine (zkg H1.out _).mono ?_;rintro _ W2 ⟨rfl,hb⟩;have bx:=BX.out.step hb;clear BX rx sx hb;have rx:=bx.rowOf;have sx:=bx.soft;have BX:=zadv bx;clear bx
 have hb3:=zat W2 (.cells #[.int .i64 1,.int .i64 d.i] 3)
 have IA:=zadv (zfl (HF.out.keep (zadw _) ((BX.out.step hb3).below)) (n:=0) (l:=[]) (Sl.nothing _) (zfo W2 [1,d.i] 3 rfl (n:=2) rfl rfl) (by intro x hx;simp only [List.mem_cons,List.not_mem_nil,or_false] at hx;rcases hx with rfl | rfl;exact ⟨by decide,by decide⟩;exact HI.out.i.i64) (by decide) (by decide) (by decide))
 have HB3:=zadv hb3
 clear hb3
 go_wp2_with fail
 refine IA.out.mono ?_
 rintro _ W4 ⟨a4,c4,rfl,hb4,own4⟩
 have hz3:w.heap.size ≤ (W2.alloc (.cells #[.int .i64 1,.int .i64 d.i] 3)).heap.size:=Nat.le_trans BX.out.below.size HB3.out.size
 have e0:0 + (zbh [1,d.i]).length=(zbh [1,d.i]).length:=Nat.zero_add _
 rw [e0] at own4 ⊢
 have O4:=zadv (za0 own4 hz3)
 have bx:=BX.out.step (HB3.out.trans (hb4.mono HB3.out.size))
 clear BX rx sx IA HB3 own4 hb4 hz3
 have rx:=bx.rowOf
 have sx:=bx.soft
 have BX:=zadv bx
 have hlt:=(zadu bx.row).1
 have hne:¬ w.heap.size=W4.heap.size:=by omega
 clear bx
 go_upto_region 6 with (fail)
 have dx:=Bx.made W4 Dl.zero.cells d.cells 60
 generalize (W4.alloc (.cells Dl.zero.cells 60)).setRow W4.heap.size d.cells=W5 at dx ⊢
 have bx:=BX.out.step dx.below
 clear BX rx sx hlt hne
 have rx:=bx.rowOf
 have rd:=dx.rowOf
 have O5:=zadv (zbe O4.out (zadw _) dx.below)
 have hb6:=zat W5 (.cells #[.int .i64 d.r,.int .i64 d.p.w,.int .i64 d.p.a,.int .i64 d.p.u,.int .i64 d.g.w,.int .i64 d.g.a,.int .i64 d.g.u] 3)
 have hn1:(zbh [1,d.i]).length < 100000:=by have:=hl1.out;simp only [List.length_cons,List.length_nil] at this;omega
 have IB:=zadv (zfl (HF.out.keep (zadw _) ((bx.step hb6).below)) (Sl.keep (Sl.own O5.out) (zadw _) hb6) (zfo W5 (zh9 d) 3 rfl (n:=7) rfl rfl) (ztr HI.out) hn1 (by decide) (by decide))
 have BX:=zadv bx
 have DX:=zadv dx
 have HB6:=zadv hb6
 clear bx dx hb6 O4 hn1
 go_wp2_with fail
 refine IB.out.mono ?_
 rintro _ W7 ⟨a7,c7,rfl,hb7,own7⟩
 have hz6:w.heap.size ≤ (W5.alloc (.cells #[.int .i64 d.r,.int .i64 d.p.w,.int .i64 d.p.a,.int .i64 d.p.u,.int .i64 d.g.w,.int .i64 d.g.a,.int .i64 d.g.u] 3)).heap.size:=Nat.le_trans BX.out.below.size HB6.out.size
 have O7:=zadv (za0 own7 hz6)
 have hb57:=HB6.out.trans (hb7.mono HB6.out.size)
 have bx:=BX.out.step hb57
 have dx:=DX.out.step hb57
 clear BX DX rx rd IB HB6 own7 hb7 hz6 hb57 O5
 have rx:=bx.rowOf
 have rd:=dx.rowOf
 have BX:=zadv bx
 have DX:=zadv dx
 clear bx dx
 go_wp2_with fail
 have hn7:(zbh [1,d.i]).length + (zbh (zh9 d)).length < 1000:=by have h1:=hl1.out;have h2:=hl2.out;simp only [zh9,List.length_cons,List.length_nil] at *;omega
 have hbD:=(Below.refl W7.heap.size W7).drew
 have hbE:=hbD.alloc (zadw _) (.cells #[.int .i64 d.q] 3)
 have rd0:=zdm (w:=W7.drew) (b:=W4.heap.size) (d:=d) rd
 have re:=zdm (DX.out.step hbE).rowOf
 have HsA:=zadv (zg6 (w:=W7.drew) (Sl.keep (Sl.own O7.out) (zadw _) hbD) d.h.hl (by omega))
 have HsB:=zadv (zg6 (w:=W7.drew.alloc (.cells #[.int .i64 d.q] 3)) (Sl.keep (Sl.own O7.out) (zadw _) hbE) d.h.hl (by omega))
 have HD:=zadv hbD
 have HE:=zadv hbE
 have HN:=zadv hn7
 have hq:∀ x ∈ [d.q],I64 x:=by intro x hx;rw [List.mem_singleton] at hx;subst hx;exact HI.out.q.i64
 have HQ:=zadv hq
 have HL3:=zadv (show (zbh [1,d.i]).length + (zbh (zh9 d)).length + 32 + (zbh [d.q]).length=(putD d).length by unfold putD;simp only [List.length_append,d.h.hl])
 have hn400:¬ ((putD d).length:Int) > 400:=by have:=HL.out;omega
 have hwz:=BX.out.below.size
 have u39:=Tryz.underlying58
 have i39:(Tryz.prog.info? 58).map (·.size)=some (bts d.h.l).length:=by rw [d.h.len];kernel_rfl
 clear hbD hbE hn7 hq rx rd
 go_region_held3 (fun w'=>w'.rangeAt W4.heap.size 8 (bts d.h.l)∧(rowOf w' W4.heap.size)[40]?=some (.int .i64 d.q)) (first | exact rd0 | exact re | exact r8 | exact r8b | exact r9)
   (first
     | (go_at_call 296;refine HsA.out.mono ?_;rintro _ W8 ⟨a8,c8,rfl,hb8,own8⟩
        have hb78:=HD.out.trans hb8
        have r8:=zdm (DX.out.step hb78).rowOf
        have hb88:=zat W8 (.cells #[.int .i64 d.q] 3)
        have hb79:=hb78.trans (hb88.mono hb78.size)
        have r8b:=zdm (DX.out.step hb79).rowOf
        have IC:=zadv (zfl (HF.out.keep (zadw _) (BX.out.step hb79).below) (Sl.keep (Sl.own own8) (zadw _) hb88) (zfo W8 [d.q] 3 rfl (n:=1) rfl rfl) HQ.out (by have:=HN.out;omega) (by decide) (by decide))
        have HB:=zadv hb79
        clear own8 hb8 hb78 hb88 hb79)
     | (go_at_call 296;refine HsB.out.mono ?_;rintro _ W8 ⟨a8,c8,rfl,hb8,own8⟩
        have hb79:=HE.out.trans (hb8.mono HE.out.size)
        have r8:=zdm (DX.out.step hb79).rowOf
        have IC:=zadv (zfl (HF.out.keep (zadw _) (BX.out.step hb79).below) (Sl.own own8) (Sl.keep (zfo W7.drew [d.q] 3 rfl (n:=1) rfl rfl) (zadw _) hb8) HQ.out (by have:=HN.out;omega) (by decide) (by decide))
        have HB:=zadv hb79
        clear own8 hb8 hb79)
     | (go_at_call 307;refine IC.out.mono ?_;rintro _ W9 ⟨a9,c9,rfl,hb9,own9⟩
        rw [HL3.out] at own9 ⊢
        have hb:=HB.out.trans (hb9.mono HB.out.size)
        have r9:=zdm (DX.out.step hb).rowOf
        have O9:=zadv (za0 own9 (Nat.le_trans hwz HB.out.size))
        have B9:=zadv (BX.out.step hb).below
        clear own9 hb9 hb))
 all_goals clear HsA HsB IC HB r8 r9 rd0 re u39 i39
 all_goals go_wp2
 all_goals refine bodyPost_ret (results_tmp2 rfl _ _ _) rfl ?_
 all_goals exact ⟨a9,c9,rfl,B9.out,O9.out⟩
end
section
attribute [local go_sem ↓] zad
attribute [local go_sem] zaf zai zaj zal
def legE (l:Lg):Int:=if l.w < 0 ∨ l.w > 2 then 1 else if l.u < 0 ∨ l.u > 1073741824 then 1 else if l.a < 1 ∨ l.a > 1125899906842624 then 15 else 0
theorem zki (l:Lg) (w:World):Calls Tryz.prog 295 #[.agg l.cells] w fun e w'=>e=.returned (.int .i64 (legE l))∧Below w.heap.size w w':=by
 have go:∀ (b1 b2 b3 b4 b5 b6:Bool),decide (l.w < 0)=b1→decide (l.w > 2)=b2→decide (l.u < 0)=b3→decide (l.u > 1073741824)=b4→decide (l.a < 1)=b5→decide (l.a > 1125899906842624)=b6→
     Calls Tryz.prog 295 #[.agg l.cells] w fun e w'=>e=.returned (.int .i64 (if b1 || b2 then 1 else if b3 || b4 then 1 else if b5 || b6 then 15 else 0))∧Below w.heap.size w w':=by
   intro b1 b2 b3 b4 b5 b6 h1 h2 h3 h4 h5 h6
   cases b1 <;> cases b2 <;> cases b3 <;> cases b4 <;> cases b5 <;> cases b6 <;>
     first
     | (exfalso;simp only [decide_eq_true_eq] at h1 h2;omega)
     | (exfalso;simp only [decide_eq_true_eq] at h3 h4;omega)
     | (exfalso;simp only [decide_eq_true_eq] at h5 h6;omega)
     | (simp only [decide_eq_true_eq,decide_eq_false_iff_not] at h1 h2 h3 h4 h5 h6
        go_enter Tryz.func295,Tryz.ntmps295
        go_upto_region 1 with (fail)
        have bx:=Bx.new w (l.cells) 30;generalize w.alloc (.cells (l.cells) 30)=W at bx ⊢;have rx:=bx.rowOf;have sx:=bx.soft;have BX:=zadv bx;clear bx
        go_wp2
        go_ret
        exact ⟨rfl,BX.out.below⟩)
 have:=go _ _ _ _ _ _ rfl rfl rfl rfl rfl rfl
 have e:(if decide (l.w < 0) || decide (l.w > 2) then (1:Int) else if decide (l.u < 0) || decide (l.u > 1073741824) then 1 else if decide (l.a < 1) || decide (l.a > 1125899906842624) then 15 else 0)=legE l:=by
   unfold legE
   simp only [Bool.or_eq_true,decide_eq_true_eq]
 rw [e] at this
 exact this
theorem zts {l:Lg} {k:Int} (h:legE l=k) (w:World):Calls Tryz.prog 295 #[.agg l.cells] w fun e w'=>e=.returned (.int .i64 k)∧Below w.heap.size w w':=h ▸ zki l w
def znm (m:Msg):Array Value:=#[.int .i64 m.p.w,.int .i64 m.p.a,.int .i64 m.p.u,.int .i64 m.g.w,.int .i64 m.g.a,.int .i64 m.g.u]
section
variable (m:Msg)
theorem zzy:(znm m).size=6:=rfl
theorem g_p:sub (znm m) 0 3=m.p.cells:=by kernel_rfl
theorem g_g:sub (znm m) 3 3=m.g.cells:=by kernel_rfl
end
def ztt (p g:Lg):Array Value:=#[.int .i64 p.w,.int .i64 p.a,.int .i64 p.u,.int .i64 g.w,.int .i64 g.a,.int .i64 g.u]
theorem ztu (w:World) (p g:Lg):(Instr.buildSlice 291 2 #[(0,.agg p.cells),(1,.agg g.cells)]).run Tryz.prog w=.ok (.slice (some ⟨w.heap.size,0,none⟩) 2 2) (w.alloc (.cells (ztt p g) 30)):=by kernel_rfl
theorem bs243 (w:World) (ρ:Operand→Value) (dst:Option Tmp) (ty:TypeId) (pos:String) (af:Array Edge) (gd:Option (Nat × Bool)) (x y:Operand) (hx:ρ x=.agg (lOf (ρ x)).cells) (hy:ρ y=.agg (lOf (ρ y)).cells):
  (execOp ρ ⟨dst,.buildSlice 291 2 #[(0,x),(1,y)],ty,pos,af,gd⟩).run Tryz.prog w=.ok (.value (.slice (some ⟨w.heap.size,0,none⟩) 2 2)) (w.alloc (.cells (ztt (lOf (ρ x)) (lOf (ρ y))) 30)):=by
 have h:=ztu w (lOf (ρ x)) (lOf (ρ y))
 rw [← hx,← hy] at h
 unfold execOp
 simp only [Sem.run_bind,Sem.run_pure,List.map_toArray,List.map_cons,List.map_nil,h,Result.andThen_ok]
theorem zlq (m:Msg):ztt m.p m.g=znm m:=rfl
attribute [local go_sem ↓] bs243
attribute [local go_sem] zzy g_p g_g zlq
def zcg (m:Msg):Int:=if legE m.p ≠ 0 then legE m.p else if legE m.g ≠ 0 then legE m.g else if m.p.w=m.g.w then 1 else if m.c ≠ 0 then 11 else 0
theorem zb8 {q:Nat→Prop} {j:Nat} (h:∀ i,i < j→q i) (hj:q j):∀ i,i < j + 1→q i:=fun i hi=>by
 by_cases e:i=j
 ·rw [e];exact hj
 ·exact h i (by omega)
theorem zzz (l l':Lg):over l.cells 0 l'.cells.toList=l'.cells:=rfl
attribute [go_sem] zzz
def legAt (m:Msg):Nat→Lg
 | 0=>m.p
 | _=>m.g
set_option maxHeartbeats 1000000 in
theorem zlr (m:Msg) (w:World):Calls Tryz.prog 220 #[.agg m.cells] w fun e w'=>e=.returned (.int .i64 (zcg m))∧Below w.heap.size w w':=by
 go_enter Tryz.func220,Tryz.ntmps220
 go_upto_region 1 with (fail)
 have bx:=Bx.new w (m.cells) 118;generalize w.alloc (.cells (m.cells) 118)=W at bx ⊢;have rx:=bx.rowOf;have sx:=bx.soft;have BX:=zadv bx;clear bx
 go_wp2_with fail
 go_loopw [12] (fun v12 wr=>∃ j:Nat,j ≤ 2∧v12=.int .i64 j∧(∀ i,i < j→legE (legAt m i)=0)∧Bx w m.cells 118 wr∧Bx W (znm m) 30 wr) (fun v12 _=>2 - (intOf v12).toNat)
 case atStart=>exact ⟨0,by omega,rfl,fun i h=>absurd h (by omega),BX.out.step (zat W _),Bx.new W _ _⟩
 case round=>
  obtain ⟨j,hj,rfl,hall,bx,sl⟩:=hrel
  have rx:=bx.rowOf
  have rs:=sl.rowOf
  have BX:=zadv bx
  have SX:=zadv sl
  have HA:=zadv hall
  clear bx sl hall
  match j,hj with
  | 0,_=>
   have h14:W.heap.size ≠ wr.heap.size:=by have:=(zadu SX.out.row).1;omega
   have h15:w.heap.size ≠ wr.heap.size:=by have:=(zadu BX.out.row).1;omega
   go_upto_region 4 with (fail)
   have lx:=Bx.made wr Lg.zero.cells m.p.cells 30
   generalize (wr.alloc (.cells Lg.zero.cells 30)).setRow wr.heap.size m.p.cells=W5 at lx ⊢
   have bx:=BX.out.step lx.below
   have sl:=SX.out.step lx.below
   have rl:=lx.rowOf
   have BX:=zadv bx
   have SX:=zadv sl
   clear bx sl lx rx rs h14 h15
   by_cases hz:legE m.p=0
   ·go_wp2_with fail
    refine (zts hz _).mono ?_
    rintro _ W6 ⟨rfl,hb6⟩
    have bx:=BX.out.step hb6
    have sl:=SX.out.step hb6
    have BX:=zadv bx
    have SX:=zadv sl
    have HZ:=zadv hz
    clear bx sl hb6 rl hz
    go_wp2
    go_roundw
    case rel=>exact ⟨0 + 1,by omega,rfl,zb8 HA.out HZ.out,BX.out,SX.out⟩
    case measure=>simp [intOf]
   ·have hz2:(legE m.p == 0)=false:=by rw [beq_eq_false_iff_ne];exact hz
    have HE:=zadv (show zcg m=legE m.p by unfold zcg;rw [if_pos (show legE m.p ≠ 0 from hz)])
    have HZ:=zadv hz
    clear hz
    go_wp2_with fail
    refine (zki m.p _).mono ?_
    rintro _ W6 ⟨rfl,hb6⟩
    have B6:=zadv (BX.out.step hb6).below
    clear hb6 rl
    go_wp2
    go_ret
    exact ⟨by rw [HE.out];rfl,B6.out⟩
  | 1,_=>
   have h14:W.heap.size ≠ wr.heap.size:=by have:=(zadu SX.out.row).1;omega
   have h15:w.heap.size ≠ wr.heap.size:=by have:=(zadu BX.out.row).1;omega
   go_upto_region 4 with (fail)
   have lx:=Bx.made wr Lg.zero.cells m.g.cells 30
   generalize (wr.alloc (.cells Lg.zero.cells 30)).setRow wr.heap.size m.g.cells=W5 at lx ⊢
   have bx:=BX.out.step lx.below
   have sl:=SX.out.step lx.below
   have rl:=lx.rowOf
   have BX:=zadv bx
   have SX:=zadv sl
   clear bx sl lx rx rs h14 h15
   by_cases hz:legE m.g=0
   ·go_wp2_with fail
    refine (zts hz _).mono ?_
    rintro _ W6 ⟨rfl,hb6⟩
    have bx:=BX.out.step hb6
    have sl:=SX.out.step hb6
    have BX:=zadv bx
    have SX:=zadv sl
    have HZ:=zadv hz
    clear bx sl hb6 rl hz
    go_wp2
    go_roundw
    case rel=>exact ⟨1 + 1,by omega,rfl,zb8 HA.out HZ.out,BX.out,SX.out⟩
    case measure=>simp [intOf]
   ·have hz2:(legE m.g == 0)=false:=by rw [beq_eq_false_iff_ne];exact hz
    have HE:=zadv (show zcg m=legE m.g by unfold zcg;rw [if_neg (by rw [show legE m.p=0 from HA.out 0 (by decide)];simp),if_pos (show legE m.g ≠ 0 from hz)])
    have HZ:=zadv hz
    clear hz
    go_wp2_with fail
    refine (zki m.g _).mono ?_
    rintro _ W6 ⟨rfl,hb6⟩
    have B6:=zadv (BX.out.step hb6).below
    clear hb6 rl
    go_wp2
    go_ret
    exact ⟨by rw [HE.out];rfl,B6.out⟩
  | 2,_=>
   have h1:legE m.p=0:=HA.out 0 (by decide)
   have h2:legE m.g=0:=HA.out 1 (by decide)
   have e0:zcg m=if m.p.w=m.g.w then 1 else if m.c ≠ 0 then 11 else 0:=by
    unfold zcg
    rw [if_neg (by rw [h1];simp),if_neg (by rw [h2];simp)]
   by_cases hw:m.p.w=m.g.w
   ·have E:=zadv (show zcg m=1 by rw [e0,if_pos hw])
    have hw2:(m.p.w == m.g.w)=true:=by rw [beq_iff_eq];exact hw
    clear e0 hw rs h1 h2
    go_wp2
    go_ret
    exact ⟨by rw [E.out];rfl,BX.out.below⟩
   ·have hw2:(m.p.w == m.g.w)=false:=by rw [beq_eq_false_iff_ne];exact hw
    by_cases hc:m.c=0
    ·have E:=zadv (show zcg m=0 by rw [e0,if_neg hw,if_neg (by rw [hc];simp)])
     clear e0 hw rs h1 h2
     go_wp2
     go_ret
     exact ⟨by rw [E.out];rfl,BX.out.below⟩
    ·have E:=zadv (show zcg m=11 by rw [e0,if_neg hw,if_pos hc])
     have hc2:(m.c == 0)=false:=by rw [beq_eq_false_iff_ne];exact hc
     clear e0 hw rs h1 h2 hc
     go_wp2
     go_ret
     exact ⟨by rw [E.out];rfl,BX.out.below⟩
end
section
def hexp (f:Nat→Nat):Array Value:=#[.int .u8 (f 0:Nat),.int .u8 (f 1:Nat),.int .u8 (f 2:Nat),.int .u8 (f 3:Nat),.int .u8 (f 4:Nat),.int .u8 (f 5:Nat),.int .u8 (f 6:Nat),.int .u8 (f 7:Nat),.int .u8 (f 8:Nat),.int .u8 (f 9:Nat),.int .u8 (f 10:Nat),.int .u8 (f 11:Nat),.int .u8 (f 12:Nat),.int .u8 (f 13:Nat),.int .u8 (f 14:Nat),.int .u8 (f 15:Nat),.int .u8 (f 16:Nat),.int .u8 (f 17:Nat),.int .u8 (f 18:Nat),.int .u8 (f 19:Nat),.int .u8 (f 20:Nat),.int .u8 (f 21:Nat),.int .u8 (f 22:Nat),.int .u8 (f 23:Nat),.int .u8 (f 24:Nat),.int .u8 (f 25:Nat),.int .u8 (f 26:Nat),.int .u8 (f 27:Nat),.int .u8 (f 28:Nat),.int .u8 (f 29:Nat),.int .u8 (f 30:Nat),.int .u8 (f 31:Nat)]
theorem ztv (f:Nat→Nat):(Hs.mk [f 0,f 1,f 2,f 3,f 4,f 5,f 6,f 7,f 8,f 9,f 10,f 11,f 12,f 13,f 14,f 15,f 16,f 17,f 18,f 19,f 20,f 21,f 22,f 23,f 24,f 25,f 26,f 27,f 28,f 29,f 30,f 31] rfl).cells=hexp f:=rfl
theorem eq39 (f:Nat→Nat) (dd:Nat) (w:World):(Op.equalIn (dd + 1 + 1) 58 (.agg (hexp f)) (.agg (hexp f))).run Tryz.prog w=.ok true w:=by
 obtain ⟨i,hi⟩:=info_of_underlying Tryz.underlying5
 refine zkd Tryz.underlying58 hi Tryz.underlying5 (by kernel_rfl) dd _ (fun j hj=>?_) w
 match j,hj with | 0,_=>exact ⟨_,rfl⟩ | 1,_=>exact ⟨_,rfl⟩ | 2,_=>exact ⟨_,rfl⟩ | 3,_=>exact ⟨_,rfl⟩ | 4,_=>exact ⟨_,rfl⟩ | 5,_=>exact ⟨_,rfl⟩ | 6,_=>exact ⟨_,rfl⟩ | 7,_=>exact ⟨_,rfl⟩ | 8,_=>exact ⟨_,rfl⟩ | 9,_=>exact ⟨_,rfl⟩ | 10,_=>exact ⟨_,rfl⟩ | 11,_=>exact ⟨_,rfl⟩ | 12,_=>exact ⟨_,rfl⟩ | 13,_=>exact ⟨_,rfl⟩ | 14,_=>exact ⟨_,rfl⟩ | 15,_=>exact ⟨_,rfl⟩ | 16,_=>exact ⟨_,rfl⟩ | 17,_=>exact ⟨_,rfl⟩ | 18,_=>exact ⟨_,rfl⟩ | 19,_=>exact ⟨_,rfl⟩ | 20,_=>exact ⟨_,rfl⟩ | 21,_=>exact ⟨_,rfl⟩ | 22,_=>exact ⟨_,rfl⟩ | 23,_=>exact ⟨_,rfl⟩ | 24,_=>exact ⟨_,rfl⟩ | 25,_=>exact ⟨_,rfl⟩ | 26,_=>exact ⟨_,rfl⟩ | 27,_=>exact ⟨_,rfl⟩ | 28,_=>exact ⟨_,rfl⟩ | 29,_=>exact ⟨_,rfl⟩ | 30,_=>exact ⟨_,rfl⟩ | 31,_=>exact ⟨_,rfl⟩ | n + 32,h=>omega
theorem eq39a (f:Nat→Nat) (w:World):(Op.equalIn 9999 58 (.agg #[.int .u8 (f 0:Nat),.int .u8 (f 1:Nat),.int .u8 (f 2:Nat),.int .u8 (f 3:Nat),.int .u8 (f 4:Nat),.int .u8 (f 5:Nat),.int .u8 (f 6:Nat),.int .u8 (f 7:Nat),.int .u8 (f 8:Nat),.int .u8 (f 9:Nat),.int .u8 (f 10:Nat),.int .u8 (f 11:Nat),.int .u8 (f 12:Nat),.int .u8 (f 13:Nat),.int .u8 (f 14:Nat),.int .u8 (f 15:Nat),.int .u8 (f 16:Nat),.int .u8 (f 17:Nat),.int .u8 (f 18:Nat),.int .u8 (f 19:Nat),.int .u8 (f 20:Nat),.int .u8 (f 21:Nat),.int .u8 (f 22:Nat),.int .u8 (f 23:Nat),.int .u8 (f 24:Nat),.int .u8 (f 25:Nat),.int .u8 (f 26:Nat),.int .u8 (f 27:Nat),.int .u8 (f 28:Nat),.int .u8 (f 29:Nat),.int .u8 (f 30:Nat),.int .u8 (f 31:Nat)]) (.agg #[.int .u8 (f 0:Nat),.int .u8 (f 1:Nat),.int .u8 (f 2:Nat),.int .u8 (f 3:Nat),.int .u8 (f 4:Nat),.int .u8 (f 5:Nat),.int .u8 (f 6:Nat),.int .u8 (f 7:Nat),.int .u8 (f 8:Nat),.int .u8 (f 9:Nat),.int .u8 (f 10:Nat),.int .u8 (f 11:Nat),.int .u8 (f 12:Nat),.int .u8 (f 13:Nat),.int .u8 (f 14:Nat),.int .u8 (f 15:Nat),.int .u8 (f 16:Nat),.int .u8 (f 17:Nat),.int .u8 (f 18:Nat),.int .u8 (f 19:Nat),.int .u8 (f 20:Nat),.int .u8 (f 21:Nat),.int .u8 (f 22:Nat),.int .u8 (f 23:Nat),.int .u8 (f 24:Nat),.int .u8 (f 25:Nat),.int .u8 (f 26:Nat),.int .u8 (f 27:Nat),.int .u8 (f 28:Nat),.int .u8 (f 29:Nat),.int .u8 (f 30:Nat),.int .u8 (f 31:Nat)])).run Tryz.prog w=.ok true w:=eq39 f 9997 w
theorem zabq (m:Msg) (w:World):(binOp .neq 118 (.agg m.cells) (.agg m.cells)).run Tryz.prog w=.ok (.bool false) w:=by
 obtain ⟨k,i,c,⟨pw,pa,pu⟩,⟨gw,ga,gu⟩,h⟩:=m
 obtain ⟨f,rfl⟩:=h.form
 have e:=eq39a f
 simp [Msg.cells,Msg.head,bts,go_sem,e]
theorem eqg41 (w:World) (x y:Operand) (xs ys:Array Value):(eqGuard .neq 118 x y (.agg xs) (.agg ys)).run Tryz.prog w=.ok () w:=by kernel_rfl
def IsM (v:Value):Prop:=∃ m:Msg,v=.agg m.cells
theorem eneq41 (w:World) (ρ:Operand→Value) (x y:Operand) (dst:Option Tmp) (ty:TypeId) (pos:String) (af:Array Edge) (gd:Option (Nat × Bool)) (r:TypeId) (h1:ρ x=ρ y) (h2:IsM (ρ y)):(execOp ρ ⟨dst,.binOp .neq 118 x y r,ty,pos,af,gd⟩).run Tryz.prog w=.ok (.value (.bool false)) w:=by
 obtain ⟨m,hm⟩:=h2
 unfold execOp
 simp only [Sem.run_bind,h1,hm,eqg41,Result.andThen_ok,zabq,Sem.run_pure]
theorem is_msg (m:Msg):IsM (.agg m.cells)=True:=eq_true ⟨m,rfl⟩
attribute [local go_sem ↓] zad eneq41
attribute [local go_sem] zaf zai zaj zal is_msg
def msgR (i c:Int):Msg:=⟨3,i,c,Lg.zero,Lg.zero,Hs.zero⟩
section
variable (i c:Int)
theorem ztw:(msgR i c).k=3:=rfl
theorem ztx:(msgR i c).i=i:=rfl
theorem zty:(msgR i c).c=c:=rfl
theorem zabr:(Msg.cells ⟨3,i,c,Lg.zero,Lg.zero,Hs.zero⟩)=(msgR i c).cells:=rfl
end
attribute [go_sem] ztw ztx zty zabr
def refE (c:Int):Int:=if c < 1 ∨ c > 24 then 1 else 0
theorem znn (i c:Int) (w:World):Calls Tryz.prog 223 #[.agg (msgR i c).cells] w fun e w'=>e=.returned (.int .i64 (refE c))∧Below w.heap.size w w':=by
 by_cases h1:c < 1
 ·have E:refE c=1:=if_pos (.inl h1)
  rw [E]
  clear E
  go_enter Tryz.func223,Tryz.ntmps223
  go_upto_region 1 with (fail)
  have bx:=Bx.new w ((msgR i c).cells) 118;generalize w.alloc (.cells ((msgR i c).cells) 118)=W at bx ⊢;have rx:=bx.rowOf;have sx:=bx.soft;have BX:=zadv bx;clear bx
  go_wp2
  go_ret
  exact ⟨rfl,BX.out.below⟩
 ·by_cases h2:c > 24
  ·have E:refE c=1:=if_pos (.inr h2)
   rw [E]
   clear E
   go_enter Tryz.func223,Tryz.ntmps223
   go_upto_region 1 with (fail)
   have bx:=Bx.new w ((msgR i c).cells) 118;generalize w.alloc (.cells ((msgR i c).cells) 118)=W at bx ⊢;have rx:=bx.rowOf;have sx:=bx.soft;have BX:=zadv bx;clear bx
   go_wp2
   go_ret
   exact ⟨rfl,BX.out.below⟩
  ·have E:refE c=0:=if_neg (by omega)
   rw [E]
   clear E
   go_enter Tryz.func223,Tryz.ntmps223
   go_upto_region 1 with (fail)
   have bx:=Bx.new w ((msgR i c).cells) 118;generalize w.alloc (.cells ((msgR i c).cells) 118)=W at bx ⊢;have rx:=bx.rowOf;have sx:=bx.soft;have BX:=zadv bx;clear bx
   go_wp2
   go_ret
   exact ⟨rfl,BX.out.below⟩
def zbx (a b c:Nat):Array Value:=#[.func (.func a) #[] #[],.func (.func b) #[] #[],.func (.func c) #[] #[]]
theorem zdn {k:Int} (h:k=1 ∨ k=2) (w:World):Calls Tryz.prog 157 #[.int .i64 k] w fun e w'=>e=.returned (.pointer (some ⟨w.heap.size,0,none⟩))∧w'=w.alloc (.cells (zbx 220 221 222) 247):=by
 rcases h with rfl | rfl
 ·go_enter Tryz.func157,Tryz.ntmps157
  go_wp2
  go_ret
  exact ⟨rfl,rfl⟩
 ·go_enter Tryz.func157,Tryz.ntmps157
  go_wp2
  go_ret
  exact ⟨rfl,rfl⟩
theorem zdo (w:World):Calls Tryz.prog 157 #[.int .i64 3] w fun e w'=>e=.returned (.pointer (some ⟨w.heap.size,0,none⟩))∧w'=w.alloc (.cells (zbx 223 224 225) 247):=by
 go_enter Tryz.func157,Tryz.ntmps157
 go_wp2
 go_ret
 exact ⟨rfl,rfl⟩
theorem zls {k:Int} (h1:k ≠ 1) (h2:k ≠ 2) (h3:k ≠ 3) (w:World):Calls Tryz.prog 157 #[.int .i64 k] w fun e w'=>e=.returned (.pointer none)∧w'=w:=by
 have k1:(k == 1)=false:=by rw [beq_eq_false_iff_ne];exact h1
 have k2:(k == 2)=false:=by rw [beq_eq_false_iff_ne];exact h2
 have k3:(k == 3)=false:=by rw [beq_eq_false_iff_ne];exact h3
 clear h1 h2 h3
 go_enter Tryz.func157,Tryz.ntmps157
 go_wp2
 go_ret
 exact ⟨rfl,rfl⟩
end
end Go.Proofs.YthjgiamfaijoeaaGreatDoor
