/- What is proved: parts of the walk and of the plain law. No condition but those each law names. -/
import Derived.Test.YthjgiamfaijoeaaGreatDoorD19
import Derived.Test.YthjgiamfaijoeaaGreatDoorD15
import Derived.Test.YthjgiamfaijoeaaGreatDoorD04
import Derived.StillTailTactics
import Derived.Test.YthjgiamfaijoeaaGreatDoorD00
set_option linter.unusedSimpArgs false
set_option linter.unusedVariables false
set_option maxRecDepth 100000
namespace Go.Proofs.YthjgiamfaijoeaaGreatDoor
open Go.RowKit
section
attribute [local go_sem ↓] zad
attribute [local go_sem] zaf zai zaj zal zac zak zab zah zae
theorem zaq {P:Program} {fn:Func} {p u:Tmp} {d:TypeDesc} {t:TypeId} {n:Nat} (hr:fn.results=#[.cell p t,.tmp u]) (hu:P.underlying t=some d) (hd:d.isRow=true) (hi:(P.info? t).map (·.size)=some n)
  (tmps:Array Value) (w:World) (b:Nat) (hp:tmps.getD p undef=.pointer (some ⟨b,0,none⟩)) {cs:Array Value} (hc:rowOf w b=cs) (hn:cs.size=n):
  (results fn tmps).run P w=.ok (.tuple #[.agg cs,tmps.getD u undef]) w:=by
 have h1:=zhj t n hu hd hi w b 0 (by rw [hc];omega)
 have hp':tmps[p]?.getD undef=.pointer (some ⟨b,0,none⟩):=by simpa using hp
 have e:sub (rowOf w b) 0 n=cs:=by rw [hc,← hn];simp [sub]
 rw [e] at h1
 simp [results,hr,hp',asAddr,h1]
theorem zkj {w:World} {p:Nat} {s:RS} (hr:Rd w p s):Calls Tryz.prog 162 #[.pointer (some ⟨p,0,none⟩)] w fun e w'=>e=.returned (.int .i64 (endR s))∧w'=w:=by
 obtain ⟨ao,n,c,h1,h2⟩:=hr
 have hl:=h2.len
 rw [zam] at hl
 by_cases h0:n=0
 ·subst h0
  have e:endR s=s.2:=by unfold endR;rw [if_pos (List.eq_nil_of_length_eq_zero hl)]
  rw [e]
  exact zaa0 h1
 ·have e:endR s=5:=by unfold endR;rw [if_neg (fun h=>h0 (by rw [← hl,h];rfl))]
  rw [e]
  exact zxd h1 (by omega)
theorem zfq {w:World} {p:Nat} {s:RS} (hr:Rd w p s):Calls Tryz.prog 161 #[.pointer (some ⟨p,0,none⟩)] w fun e w'=>e=.returned (.bool (!(s.2 == 0)))∧w'=w:=by
 obtain ⟨v,hv⟩:=hr.cases
 exact zaa1 hv
theorem RdB.mono {B C:Nat} {w:World} {p:Nat} {s:RS} (h:RdB B w p s) (hB:B ≤ C):RdB C w p s:=by
 obtain ⟨ao,n,c,h1,h2,h3⟩:=h
 exact ⟨ao,n,c,h1,h2,fun b o e hn=>Nat.lt_of_lt_of_le (h3 b o e hn) hB⟩
theorem zt3 (k:Int) (w:World):Calls Tryz.prog 157 #[.int .i64 k] w fun e w'=>(∃ x,e=.returned (.pointer x))∧Below w.heap.size w w':=by
 by_cases h:k=1 ∨ k=2
 ·exact (zdn h w).mono fun e w' ⟨he,hw⟩=>⟨⟨_,he⟩,by rw [hw];exact zat _ _⟩
 ·by_cases h3:k=3
  ·subst h3
   exact (zdo w).mono fun e w' ⟨he,hw⟩=>⟨⟨_,he⟩,by rw [hw];exact zat _ _⟩
  ·exact (zls (fun e=>h (.inl e)) (fun e=>h (.inr e)) h3 w).mono fun e w' ⟨he,hw⟩=>⟨⟨_,he⟩,by rw [hw];exact Below.refl _ _⟩
def finM (m:Msg) (s:RS) (chk:Int):Int × Msg:=if endR s ≠ 0 then (endR s,Msg.zero) else if chk ≠ 0 then (chk,Msg.zero) else (0,m)
def m0 (k i:Nat):Msg:=⟨k,i,0,Lg.zero,Lg.zero,Hs.zero⟩
def zd4 (k i:Nat) (s:RS):Msg:={ (mAt (m0 k i) s 2).1 with h:=(rdHs (mAt (m0 k i) s 2).2).1 }
def zlv (k i:Nat) (s:RS):RS:=(rdHs (mAt (m0 k i) s 2).2).2
theorem zt4 {k i:Nat} {s:RS} (hk:(zd4 k i s).k=1 ∨ (zd4 k i s).k=2) (w:World):Calls Tryz.prog 156 #[.agg (zd4 k i s).cells] w fun e w'=>e=.returned (.int .i64 (idE i (zcg (zd4 k i s))))∧Below w.heap.size w w':=zia hk w
def gM (k i:Nat) (s2:RS):Int × Msg:=
 if s2.2 ≠ 0 then (endR s2,Msg.zero)
 else if k=3 then finM (msgR i (rdI s2).1) (rdI s2).2 (idE i (refE (rdI s2).1))
 else if k=1 ∨ k=2 then finM (zd4 k i s2) (zlv k i s2) (idE i (zcg (zd4 k i s2)))
 else (2,Msg.zero)
def zee (l:List Nat):Int × Msg:=gM (rdI (l,0)).1 (rdI (rdI (l,0)).2).1 (rdI (rdI (l,0)).2).2
def zt5 (w:World) (r:Int × Msg):Ending→World→Prop:=fun e w'=>e=.returned (.tuple #[.agg r.2.cells,.int .i64 r.1])∧Below w.heap.size w w'
set_option maxHeartbeats 4000000 in
theorem zfr {w:World} (hf:Forms w) {ao:Option Addr} {n c:Nat} {l:List Nat} (hl:Sl w ao n c (bts l)) (hs:Rs (l,0)):Calls Tryz.prog 102 #[.slice ao n c] w (zt5 w (zee l)):=by
 have hln:l.length=n:=by have:=hl.len;rwa [zam] at this
 have HF:=zadv hf
 have HL:=zadv hl
 have HS:=zadv hs
 have hn:n < 1000000:=by rw [← hln];exact hs.len
 have h2w:0 < w.heap.size:=World.block_lt_of_cell? w ⟨0,0,none⟩ (hf 0 _ rfl)
 have hS:=hs.int
 obtain ⟨⟨k,s1⟩,e1⟩:∃ x,rdI (l,0)=x:=⟨_,rfl⟩
 rw [e1] at hS
 have hS2:=hS.int
 obtain ⟨⟨i,s2⟩,e2⟩:∃ x,rdI s1=x:=⟨_,rfl⟩
 rw [show (rdI (k,s1).2).2=s2 by rw [e2]] at hS2
 have EG:zee l=gM k i s2:=by unfold zee;rw [e1];dsimp only;rw [e2]
 rw [EG]
 have HS1:=zadv (show Rs s1 from hS)
 have HS2:=zadv hS2
 have E1:=zadv e1
 have E2:=zadv e2
 clear hf hl hs hS hS2 e1 e2 EG
 go_enter Tryz.func102,Tryz.ntmps102
 go_upto_region 1 with (fail)
 have bx:=Bx.new w (Msg.zero.cells) 118;generalize w.alloc (.cells (Msg.zero.cells) 118)=W at bx ⊢;have rx:=bx.rowOf;have sx:=bx.soft;have BX:=zadv bx;clear bx
 have RA:=zadv (zpf (HL.out.keep (zadw _) BX.out.below) hn)
 go_wp2_with fail
 refine RA.out.mono ?_
 rintro _ w1 ⟨p,a1,c1,rfl,hp1,hb1,hr1,hs1⟩
 have hrd1:RdB w1.heap.size w1 p (l,0):=Rd.b ⟨a1,n,c1,hr1,hs1⟩
 have bx1:=BX.out.step hb1
 have hpw:w.heap.size < p:=by have:=(zadu BX.out.row).1;omega
 have R1:=zadv (zco (HF.out.keep (zadw _) bx1.below) (by omega:p ≠ 0) hrd1 HS.out.small HS.out.len)
 rw [E1.out] at R1
 have BX1:=zadv bx1
 clear BX rx sx hb1 hr1 hs1 hrd1 bx1 RA hp1
 go_wp2_with fail
 refine R1.out.mono ?_
 rintro _ w2 ⟨rfl,hb2,hr2⟩
 have B2:=zadv (BX1.out.below.trans (hb2.to BX1.out.below.size (by omega)))
 have X2:=zadv ((hb2.block w.heap.size (zadu BX1.out.row).1 (by omega)).trans BX1.out.row)
 have R2:=zadv (zco (HF.out.keep (zadw _) B2.out) (by omega:p ≠ 0) hr2 HS1.out.small HS1.out.len)
 rw [E2.out] at R2
 have Z2:=hb2.size
 clear hb2 hr2 R1 BX1
 go_wp2_with fail
 refine R2.out.mono ?_
 rintro _ w3 ⟨rfl,hb3,hr3⟩
 have B3:=zadv (B2.out.trans (hb3.to B2.out.size (by omega)))
 have X3:=zadv ((hb3.block w.heap.size (zadu X2.out).1 (by omega)).trans X2.out)
 have Z3:=hb3.size
 have RD3:=zadv hr3
 clear hb3 hr3 R2 B2 X2
 go_upto_region 3 with (fail)
 have dx:=Bx.made w3 Msg.zero.cells (m0 k i).cells 118
 change Code.wp _ _ _ _ ((w3.alloc (.cells Msg.zero.cells 118)).setRow w3.heap.size (m0 k i).cells)
 generalize (w3.alloc (.cells Msg.zero.cells 118)).setRow w3.heap.size (m0 k i).cells=w5 at dx ⊢
 have B5:=zadv (B3.out.trans (dx.below.mono B3.out.size))
 have X5:=zadv ((dx.below.block w.heap.size (zadu X3.out).1).trans X3.out)
 have RD5:=zadv ((RD3.out.mono (show w1.heap.size ≤ w3.heap.size by omega)).keep (zadw _) dx.below)
 have rm:=dx.rowOf
 have hb3:w3.heap.size < w5.heap.size:=(zadu dx.row).1
 have M5:=zadv (show MB w5 w3.heap.size (m0 k i) from dx.row)
 have hp3:p < w3.heap.size:=RD3.out.rd.lt
 have hw3:w.heap.size < w3.heap.size:=(zadu X3.out).1
 generalize hbb:w3.heap.size=b at *
 clear dx B3 X3 RD3 hbb Z2 Z3
 by_cases hbad:s2.2=0
 ·have good:(!(s2.2 == 0))=false:=by rw [hbad];rfl
  have HBad:=zadv (show gM k i s2=if k=3 then finM (msgR i (rdI s2).1) (rdI s2).2 (idE i (refE (rdI s2).1)) else if k=1 ∨ k=2 then finM (zd4 k i s2) (zlv k i s2) (idE i (zcg (zd4 k i s2))) else (2,Msg.zero) from if_neg (fun h=>h hbad))
  clear hbad
  by_cases h3:k=3
  ·have EB:=zadv (HBad.out.trans (if_pos h3))
   subst h3
   go_wp2_with fail
   refine (zdo w5).mono ?_
   rintro _ _ ⟨rfl,rfl⟩
   have kx:=Bx.new w5 (zbx 223 224 225) 247
   generalize w5.alloc (.cells (zbx 223 224 225) 247)=w6 at kx ⊢
   have RD6:=zadv (RD5.out.keep (zadw _) kx.below)
   have B6:=zadv (B5.out.trans (kx.below.mono B5.out.size))
   have X6:=zadv ((kx.below.block w.heap.size (zadu X5.out).1).trans X5.out)
   have M6:=zadv (show MB w6 b (m0 3 i) from (kx.below.block b hb3).trans M5.out)
   have rk:=kx.rowOf
   have F6:=zadv (HF.out.keep (zadw _) B6.out)
   clear kx rm
   go_wp2_with fail
   refine (zfq RD6.out.rd).mono ?_
   rintro _ _ ⟨rfl,rfl⟩
   rw [good]
   have GL:=zadv (znq F6.out (by omega:p ≠ 0) RD6.out (by omega) M6.out HS2.out)
   go_wp2_with fail
   refine GL.out.mono ?_
   rintro _ w7 ⟨rfl,hb7,hr7,hm7⟩
   have B7:=zadv (B6.out.trans (hb7 w.heap.size (by omega) (by omega) B6.out.size))
   have X7:=zadv (((hb7 (w.heap.size + 1) (by omega) (by omega) (by have:=(zadu X6.out).1;omega)).block w.heap.size (Nat.lt_succ_self _)).trans X6.out)
   have M7:=zadv (show MB w7 b (msgR i (rdI s2).1) from hm7)
   have RD7:=zadv (show RdB b w7 p ((rdI s2).2) from hr7)
   clear hb7 hr7 hm7 GL rk
   go_wp2_with fail
   refine (zkj RD7.out.rd).mono ?_
   rintro _ wz ⟨rfl,ez⟩
   have ez2:w7=wz:=ez.symm
   subst ez2
   clear ez
   have rx:=zaa X7.out
   have sx:=zan X7.out
   have rm:=M7.out.row
   by_cases he:endR ((rdI s2).2)=0
   ·rw [he]
    obtain ⟨ck,hck⟩:∃ x,x=idE i (refE (rdI s2).1):=⟨_,rfl⟩
    have CK:=zadv (zib i (rdI s2).1 w7)
    rw [← hck] at CK
    have HCK:=zadv hck
    have HE:=zadv he
    clear hck he rx sx
    go_wp2_with fail
    refine CK.out.mono ?_
    rintro _ w8 ⟨rfl,hb8⟩
    have B8:=zadv (B7.out.trans (hb8.mono B7.out.size))
    have X8:=zadv ((hb8.block w.heap.size (zadu X7.out).1).trans X7.out)
    have rm8:rowOf w8 b=Msg.cells (msgR i (rdI s2).1):=zaa ((hb8.block b M7.out.lt).trans M7.out)
    have rx:=zaa X8.out
    have sx:=zan X8.out
    clear hb8 rm CK
    by_cases hc0:ck=0
    ·have EG:=zadv (show gM 3 i s2=(0,msgR i (rdI s2).1) by rw [EB.out];unfold finM;rw [if_neg (by rw [HE.out];simp),← HCK.out,if_neg (by rw [hc0];simp)])
     subst hc0
     go_wp2
     have hc:rowOf (World.setRow _ w.heap.size (Msg.cells (msgR i (rdI s2).1))) w.heap.size=Msg.cells (msgR i (rdI s2).1):=(zab _ _ _ _ (zan X8.out)).trans (if_pos rfl)
     refine bodyPost_ret (zaq (t:=118) rfl Tryz.underlying118 rfl (by kernel_rfl) _ _ w.heap.size rfl hc (zc3 _)) rfl ?_
     rw [EG.out]
     exact ⟨rfl,Below.setRow_ B8.out (zadw _) _⟩
    ·have EG:=zadv (show gM 3 i s2=(ck,Msg.zero) by rw [EB.out];unfold finM;rw [if_neg (by rw [HE.out];simp),← HCK.out,if_pos hc0])
     have hc1:(ck == 0)=false:=by rw [beq_eq_false_iff_ne];exact hc0
     have hc2:(ck != 0)=true:=by rw [bne_iff_ne];exact hc0
     clear hc0
     go_wp2
     have hc:rowOf (World.setRow _ w.heap.size (Msg.cells Msg.zero)) w.heap.size=Msg.cells Msg.zero:=(zab _ _ _ _ (zan X8.out)).trans (if_pos rfl)
     refine bodyPost_ret (zaq (t:=118) rfl Tryz.underlying118 rfl (by kernel_rfl) _ _ w.heap.size rfl hc (zc3 _)) rfl ?_
     rw [EG.out]
     exact ⟨rfl,Below.setRow_ B8.out (zadw _) _⟩
   ·have B8:=B7
    have X8:=X7
    have EG:=zadv (show gM 3 i s2=(endR ((rdI s2).2),Msg.zero) by rw [EB.out];unfold finM;rw [if_pos he])
    obtain ⟨ek,hek⟩:∃ x,x=endR ((rdI s2).2):=⟨_,rfl⟩
    rw [← hek] at he EG ⊢
    have hc1:(ek == 0)=false:=by rw [beq_eq_false_iff_ne];exact he
    have hc2:(ek != 0)=true:=by rw [bne_iff_ne];exact he
    clear he hek rm
    go_wp2
    have hc:rowOf (World.setRow _ w.heap.size (Msg.cells Msg.zero)) w.heap.size=Msg.cells Msg.zero:=(zab _ _ _ _ (zan X8.out)).trans (if_pos rfl)
    refine bodyPost_ret (zaq (t:=118) rfl Tryz.underlying118 rfl (by kernel_rfl) _ _ w.heap.size rfl hc (zc3 _)) rfl ?_
    rw [EG.out]
    exact ⟨rfl,Below.setRow_ B8.out (zadw _) _⟩
  ·by_cases h12:k=1 ∨ k=2
   ·have EB:=zadv (HBad.out.trans ((if_neg h3).trans (if_pos h12)))
    have HK:=zadv (show (zd4 k i s2).k=1 ∨ (zd4 k i s2).k=2 by rcases h12 with rfl | rfl;exact .inl rfl;exact .inr rfl)
    have HK2:=zadv (show (k:Int)=1 ∨ (k:Int)=2 by rcases h12 with rfl | rfl;exact .inl rfl;exact .inr rfl)
    clear h3 h12
    go_wp2_with fail
    refine (zdn HK2.out w5).mono ?_
    rintro _ _ ⟨rfl,rfl⟩
    have kx:=Bx.new w5 (zbx 220 221 222) 247
    generalize w5.alloc (.cells (zbx 220 221 222) 247)=w6 at kx ⊢
    have RD6:=zadv (RD5.out.keep (zadw _) kx.below)
    have B6:=zadv (B5.out.trans (kx.below.mono B5.out.size))
    have X6:=zadv ((kx.below.block w.heap.size (zadu X5.out).1).trans X5.out)
    have M6:=zadv (show MB w6 b (m0 k i) from (kx.below.block b hb3).trans M5.out)
    have rk:=kx.rowOf
    have F6:=zadv (HF.out.keep (zadw _) B6.out)
    clear kx rm
    go_wp2_with fail
    refine (zfq RD6.out.rd).mono ?_
    rintro _ _ ⟨rfl,rfl⟩
    rw [good]
    have GL:=zadv (znr F6.out (by omega) (by omega) RD6.out (by omega) M6.out HS2.out)
    go_wp2_with fail
    refine GL.out.mono ?_
    rintro _ w7 ⟨rfl,hb7,hr7,hm7⟩
    have B7:=zadv (B6.out.trans (hb7 w.heap.size (by omega) (by omega) B6.out.size))
    have X7:=zadv (((hb7 (w.heap.size + 1) (by omega) (by omega) (by have:=(zadu X6.out).1;omega)).block w.heap.size (Nat.lt_succ_self _)).trans X6.out)
    have M7:=zadv (show MB w7 b (zd4 k i s2) from hm7)
    have RD7:=zadv (show RdB b w7 p (zlv k i s2) from hr7)
    clear hb7 hr7 hm7 GL rk
    go_wp2_with fail
    refine (zkj RD7.out.rd).mono ?_
    rintro _ wz ⟨rfl,ez⟩
    have ez2:w7=wz:=ez.symm
    subst ez2
    clear ez
    have rx:=zaa X7.out
    have sx:=zan X7.out
    have rm:=M7.out.row
    by_cases he:endR (zlv k i s2)=0
    ·rw [he]
     obtain ⟨ck,hck⟩:∃ x,x=idE i (zcg (zd4 k i s2)):=⟨_,rfl⟩
     have CK:=zadv (zt4 HK.out w7)
     rw [← hck] at CK
     have HCK:=zadv hck
     have HE:=zadv he
     clear hck he rx sx
     go_wp2_with fail
     refine CK.out.mono ?_
     rintro _ w8 ⟨rfl,hb8⟩
     have B8:=zadv (B7.out.trans (hb8.mono B7.out.size))
     have X8:=zadv ((hb8.block w.heap.size (zadu X7.out).1).trans X7.out)
     have rm8:rowOf w8 b=Msg.cells (zd4 k i s2):=zaa ((hb8.block b M7.out.lt).trans M7.out)
     have rx:=zaa X8.out
     have sx:=zan X8.out
     clear hb8 rm CK
     by_cases hc0:ck=0
     ·have EG:=zadv (show gM k i s2=(0,zd4 k i s2) by rw [EB.out];unfold finM;rw [if_neg (by rw [HE.out];simp),← HCK.out,if_neg (by rw [hc0];simp)])
      subst hc0
      go_wp2
      have hc:rowOf (World.setRow _ w.heap.size (Msg.cells (zd4 k i s2))) w.heap.size=Msg.cells (zd4 k i s2):=(zab _ _ _ _ (zan X8.out)).trans (if_pos rfl)
      refine bodyPost_ret (zaq (t:=118) rfl Tryz.underlying118 rfl (by kernel_rfl) _ _ w.heap.size rfl hc (zc3 _)) rfl ?_
      rw [EG.out]
      exact ⟨rfl,Below.setRow_ B8.out (zadw _) _⟩
     ·have EG:=zadv (show gM k i s2=(ck,Msg.zero) by rw [EB.out];unfold finM;rw [if_neg (by rw [HE.out];simp),← HCK.out,if_pos hc0])
      have hc1:(ck == 0)=false:=by rw [beq_eq_false_iff_ne];exact hc0
      have hc2:(ck != 0)=true:=by rw [bne_iff_ne];exact hc0
      clear hc0
      go_wp2
      have hc:rowOf (World.setRow _ w.heap.size (Msg.cells Msg.zero)) w.heap.size=Msg.cells Msg.zero:=(zab _ _ _ _ (zan X8.out)).trans (if_pos rfl)
      refine bodyPost_ret (zaq (t:=118) rfl Tryz.underlying118 rfl (by kernel_rfl) _ _ w.heap.size rfl hc (zc3 _)) rfl ?_
      rw [EG.out]
      exact ⟨rfl,Below.setRow_ B8.out (zadw _) _⟩
    ·have B8:=B7
     have X8:=X7
     have EG:=zadv (show gM k i s2=(endR (zlv k i s2),Msg.zero) by rw [EB.out];unfold finM;rw [if_pos he])
     obtain ⟨ek,hek⟩:∃ x,x=endR (zlv k i s2):=⟨_,rfl⟩
     rw [← hek] at he EG ⊢
     have hc1:(ek == 0)=false:=by rw [beq_eq_false_iff_ne];exact he
     have hc2:(ek != 0)=true:=by rw [bne_iff_ne];exact he
     clear he hek rm
     go_wp2
     have hc:rowOf (World.setRow _ w.heap.size (Msg.cells Msg.zero)) w.heap.size=Msg.cells Msg.zero:=(zab _ _ _ _ (zan X8.out)).trans (if_pos rfl)
     refine bodyPost_ret (zaq (t:=118) rfl Tryz.underlying118 rfl (by kernel_rfl) _ _ w.heap.size rfl hc (zc3 _)) rfl ?_
     rw [EG.out]
     exact ⟨rfl,Below.setRow_ B8.out (zadw _) _⟩
   ·have EG:=zadv (HBad.out.trans ((if_neg h3).trans (if_neg h12)))
    have kn:=zls (k:=(k:Int)) (by omega) (by omega) (by omega) w5
    have B8:=B5
    have X8:=X5
    have rx:=zaa X8.out
    have sx:=zan X8.out
    clear h3 h12
    go_wp2_with fail
    refine kn.mono ?_
    rintro _ _ ⟨rfl,rfl⟩
    clear kn
    go_wp2_with fail
    refine (zfq RD5.out.rd).mono ?_
    rintro _ _ ⟨rfl,rfl⟩
    rw [good]
    go_wp2
    have hc:rowOf (World.setRow _ w.heap.size (Msg.cells Msg.zero)) w.heap.size=Msg.cells Msg.zero:=(zab _ _ _ _ (zan X8.out)).trans (if_pos rfl)
    refine bodyPost_ret (zaq (t:=118) rfl Tryz.underlying118 rfl (by kernel_rfl) _ _ w.heap.size rfl hc (zc3 _)) rfl ?_
    rw [EG.out]
    exact ⟨rfl,Below.setRow_ B8.out (zadw _) _⟩
 ·have EG:gM k i s2=(endR s2,Msg.zero):=if_pos hbad
  have bad:(!(s2.2 == 0))=true:=by rw [Bool.not_eq_true',beq_eq_false_iff_ne];exact hbad
  go_wp2_with fail
  refine (zt3 _ _).mono ?_
  rintro _ w6 ⟨⟨x,rfl⟩,hb6⟩
  have RD6:=zadv (RD5.out.keep (zadw _) hb6).rd
  have B6:=zadv (B5.out.trans (hb6.mono B5.out.size))
  have x6:=(hb6.block w.heap.size (zadu X5.out).1).trans X5.out
  have rx:=zaa x6
  have sx:=zan x6
  have X6:=zadv x6
  clear hb6 x6 rm hbad
  go_wp2_with fail
  refine (zfq RD6.out).mono ?_
  rintro _ _ ⟨rfl,rfl⟩
  rw [bad]
  go_wp2_with fail
  refine (zkj RD6.out).mono ?_
  rintro _ _ ⟨rfl,rfl⟩
  have EGH:=zadv EG
  clear EG bad
  go_wp2
  have hc:rowOf (World.setRow _ w.heap.size Msg.zero.cells) w.heap.size=Msg.zero.cells:=(zab _ _ _ _ (zan X6.out)).trans (if_pos rfl)
  refine bodyPost_ret (zaq (t:=118) rfl Tryz.underlying118 rfl (by kernel_rfl) _ _ w.heap.size rfl hc (zc3 _)) rfl ?_
  rw [EGH.out]
  exact ⟨rfl,Below.setRow_ B6.out (zadw _) _⟩
end
section
open Sx (MapIs getL putL KeyT keyInt Turns Foot)
section
variable {P:Program}
theorem zlw {t kt et:TypeId} {ok:Value→Prop} (hu:P.underlying t=some (.map kt et)) (hk:KeyT P kt ok) {w:World} {r:Nat} {es:Array MapEntry} {clock:Nat} (h2:w.heap[r]?=some (.map es clock)) {k u:Value} {l:List (Value × Value)} (hM:MapIs (prs es) l) (hok:ok k) (hes:∀ e ∈ es.toList,ok e.key) (hf:getL l k=some u):
  (Instr.lookup t (.map (some r)) k false).run P w=.ok u w:=by
 have hget:=MapKept.run_getObj_map (P:=P) h2
 have hfi:=hk.find k es.toList w hok hes
 have hM':MapIs (es.toList.map fun e=>(e.key,e.val)) (l.map fun p=>(p.1,id p.2)):=by rw [show l.map (fun p=>(p.1,id p.2))=l from List.map_id _];exact hM
 have hfind:=Sx.mapIs_find hM' k
 rw [hf] at hfind
 cases hq:Sx.findIx k es.toList 0 with
 | none=>rw [hq] at hfind;cases hfind
 | some p=>
  obtain ⟨j,u'⟩:=p
  rw [hq] at hfind hfi
  have:u'=u:=by simpa using hfind
  subst this
  simp only [Instr.lookup,Sem.run_bind,run_underlying hu,Result.andThen_ok,hget,Sem.run_pure,hk.chk es.isEmpty k w hok,hfi]
  rfl
theorem zlx {t kt et:TypeId} {ok:Value→Prop} (hu:P.underlying t=some (.map kt et)) (hk:KeyT P kt ok) {i:TypeInfo} {z:Value} (hi:P.info? et=some i) (hz:i.zero=some z) {w:World} {r:Nat} {es:Array MapEntry} {clock:Nat} (h2:w.heap[r]?=some (.map es clock)) {k:Value} {l:List (Value × Value)} (hM:MapIs (prs es) l) (hok:ok k) (hes:∀ e ∈ es.toList,ok e.key) (hf:getL l k=none):
  (Instr.lookup t (.map (some r)) k false).run P w=.ok z w:=by
 have hget:=MapKept.run_getObj_map (P:=P) h2
 have hfi:=hk.find k es.toList w hok hes
 have hM':MapIs (es.toList.map fun e=>(e.key,e.val)) (l.map fun p=>(p.1,id p.2)):=by rw [show l.map (fun p=>(p.1,id p.2))=l from List.map_id _];exact hM
 have hfind:=Sx.mapIs_find hM' k
 rw [hf] at hfind
 have hzr:∀ w,(zeroValue et).run P w=.ok z w:=fun w=>by simp [zeroValue,typeInfo,hi,hz]
 cases hq:Sx.findIx k es.toList 0 with
 | some p=>rw [hq] at hfind;cases hfind
 | none=>
  rw [hq] at hfi
  simp only [Instr.lookup,Sem.run_bind,run_underlying hu,Result.andThen_ok,hget,Sem.run_pure,hk.chk es.isEmpty k w hok,hfi,hzr]
  rfl
end
structure En where
 b:Nat
 m:Nat
 s:Sw
def En.pt (e:En):Value:=.pointer (some ⟨e.b,0,none⟩)
def Sw.ent (s:Sw) (m:Nat):Array Value:=(s.list ++ [Value.map (some m)]).toArray
structure EntAt (w:World) (e:En):Prop where
 row:w.heap[e.b]?=some (.cells (e.s.ent e.m) 198)
 map:w.heap[e.m]?=some (.map #[] 0)
structure BookAt (w:World) (bk mb:Nat) (M:List (Int × En)):Prop where
 ob:w.heap[bk]?=some (.cells #[.map (some mb)] 195)
 mp:∃ es c,w.heap[mb]?=some (.map es c)∧MapIs (prs es) (encA En.pt M)∧MapKept.Stamped es c
 en:∀ p ∈ M,EntAt w p.2∧p.2.m ≠ mb
 inj:∀ p ∈ M,∀ q ∈ M,p.2.b=q.2.b→p=q
def zc5 (bk mb:Nat) (M:List (Int × En)):Foot:=fun i _=>i=bk ∨ i=mb ∨ ∃ p ∈ M,i=p.2.b ∨ i=p.2.m
theorem EntAt.lt {w:World} {e:En} (h:EntAt w e):e.b < w.heap.size∧e.m < w.heap.size:=⟨(zadu h.row).1,(zadu h.map).1⟩
theorem BookAt.lt {w:World} {bk mb:Nat} {M:List (Int × En)} (h:BookAt w bk mb M) {i x:Nat} (hf:zc5 bk mb M i x):i < w.heap.size:=by
 rcases hf with rfl | rfl | ⟨p,hp,rfl | rfl⟩
 ·exact (zadu h.ob).1
 ·obtain ⟨es,c,e,_⟩:=h.mp
  exact (zadu e).1
 ·exact (h.en p hp).1.lt.1
 ·exact (h.en p hp).1.lt.2
theorem BookAt.keepB {w w':World} {bk mb:Nat} {M:List (Int × En)} (h:BookAt w bk mb M) (hk:∀ i x,zc5 bk mb M i x→w'.heap[i]?=w.heap[i]?):BookAt w' bk mb M:=by
 refine ⟨(hk bk 0 (.inl rfl)).trans h.ob,?_,fun p hp=>⟨⟨(hk _ 0 (.inr (.inr ⟨p,hp,.inl rfl⟩))).trans (h.en p hp).1.row,(hk _ 0 (.inr (.inr ⟨p,hp,.inr rfl⟩))).trans (h.en p hp).1.map⟩,(h.en p hp).2⟩,h.inj⟩
 obtain ⟨es,c,e,r⟩:=h.mp
 exact ⟨es,c,(hk mb 0 (.inr (.inl rfl))).trans e,r⟩
theorem BookAt.below {w w':World} {bk mb:Nat} {M:List (Int × En)} (h:BookAt w bk mb M) (hw:Below w.heap.size w w'):BookAt w' bk mb M:=h.keepB fun i _ hi=>hw.block i (h.lt hi)
theorem zly (s:Sw) (m:Nat):(s.ent m).size=76:=by simp [Sw.ent,zgx]
theorem e_s (s:Sw) (m:Nat):sub (s.ent m) 0 75=s.cells:=zbv [] s.list [Value.map (some m)] rfl (zgx s) (by simp [Sw.ent])
theorem zabu (s:Sw) (m:Nat):ones (s.ent m)=true:=by
 have:=zaa8 s
 unfold ones Sw.cells at this
 unfold ones Sw.ent
 rw [List.all_toArray] at this ⊢
 rw [List.all_append,this]
 rfl
theorem zabv:∃ i,Tryz.prog.info? 193=some i∧i.zero=some (.pointer none):=by
 obtain ⟨i,h1,h2,_,_⟩:=info_parts (show (Tryz.prog.info? 193).map (fun i=>(i.zero,i.size,i.bytes))=some (some (.pointer none),1,8) by kernel_rfl)
 exact ⟨i,h1,h2⟩
def ptO:Option En→Value
 | some e=>e.pt
 | none=>.pointer none
def swO:Option En→Sw
 | some e=>e.s
 | none=>Sw.zero
theorem BookAt.look {w:World} {bk mb:Nat} {M:List (Int × En)} (h:BookAt w bk mb M) (k:Int):(Instr.lookup 192 (.map (some mb)) (.int .i64 k) false).run Tryz.prog w=.ok (ptO (getA M k)) w∧(Instr.lookup 192 (.map (some mb)) (.int .i64 k) true).run Tryz.prog w=.ok (.tuple #[ptO (getA M k),.bool (getA M k).isSome]) w:=by
 obtain ⟨es,c,e,h1,h2⟩:=h.mp
 have hg:=zcb En.pt M k
 have hk:=zbm h1 (zcc En.pt M)
 cases hq:getA M k with
 | some x=>
  rw [hq] at hg
  exact ⟨zlw Tryz.underlying192 (keyInt Tryz.underlying3) e h1 ⟨k,rfl⟩ hk hg,Sx.run_lookup_ok Tryz.underlying192 (keyInt Tryz.underlying3) e h1 ⟨k,rfl⟩ hk hg⟩
 | none=>
  rw [hq] at hg
  obtain ⟨i,i1,i2⟩:=zabv
  exact ⟨zlx Tryz.underlying192 (keyInt Tryz.underlying3) i1 i2 e h1 ⟨k,rfl⟩ hk hg,Sx.run_lookup_no Tryz.underlying192 (keyInt Tryz.underlying3) i1 i2 e h1 ⟨k,rfl⟩ hk hg⟩
attribute [local go_sem] Sx.run_mk
theorem zha (w:World):Calls Tryz.prog 112 #[] w fun e w'=>∃ bk mb,e=.returned (.pointer (some ⟨bk,0,none⟩))∧BookAt w' bk mb []∧Below w.heap.size w w'∧w.heap.size ≤ bk∧w.heap.size ≤ mb:=by
 go_enter Tryz.func112,Tryz.ntmps112
 go_wp2
 go_ret
 have s1:(w.alloc (.map #[] 0)).heap.size=w.heap.size + 1:=by simp
 have b1:Below w.heap.size w (w.alloc (.map #[] 0)):=(Below.refl _ w).alloc (zadw _) _
 refine ⟨w.heap.size + 1,w.heap.size,rfl,⟨?_,⟨#[],0,?_,⟨List.Perm.refl _,List.nodup_nil⟩,MapKept.stamped_empty _⟩,fun p hp=>(by cases hp),fun p hp=>(by cases hp)⟩,b1.alloc (by rw [s1];omega) _,by omega,zadw _⟩
 ·have:=heap_alloc_new (w.alloc (.map #[] 0)) (.cells #[.map (some w.heap.size)] 195)
  rw [s1] at this
  exact this
 ·rw [(MapKept.heap_alloc _ _).2 _ (by rw [s1];omega)]
  exact heap_alloc_new w _
attribute [local go_sem ↓] zad
attribute [local go_sem] zaf zai zaj zal zab zah zly e_s zabu
set_option maxHeartbeats 1000000 in
theorem zhb {w:World} {bk mb:Nat} {M:List (Int × En)} (h:BookAt w bk mb M) (k:Int):Calls Tryz.prog 62 #[.pointer (some ⟨bk,0,none⟩),.int .i64 k] w fun e w'=>e=.returned (.tuple #[.agg (swO (getA M k)).cells,.bool (getA M k).isSome])∧Below w.heap.size w w':=by
 have H:=zadv h
 have HQ:∀ q,getA M k=some q→EntAt w q:=fun q hq=>(h.en _ (zb7 hq)).1
 generalize hr:getA M k=r
 rw [hr] at HQ
 have HR:=zadv hr
 clear h hr
 cases r with
 | none=>
  go_enter Tryz.func62,Tryz.ntmps62
  go_upto_region 1 with (fail)
  have bx:=Bx.new w (Sw.zero.cells) 62;generalize w.alloc (.cells (Sw.zero.cells) 62)=W at bx ⊢;have rx:=bx.rowOf;have sx:=bx.soft;have BX:=zadv bx;clear bx
  have hB:=H.out.below BX.out.below
  have r0:=zaa hB.ob
  have L:=(hB.look k).1
  rw [HR.out] at L
  replace L:(Instr.lookup 192 (.map (some mb)) (.int .i64 k) false).run Tryz.prog W=.ok (.pointer none) W:=L
  clear hB
  go_wp2
  have b2:=Below.setRow_ BX.out.below (zadw _) Sw.zero.cells
  have hc:rowOf (W.setRow w.heap.size Sw.zero.cells) w.heap.size=Sw.zero.cells:=(zab _ _ _ _ sx).trans (if_pos rfl)
  refine bodyPost_ret (zaq (t:=62) rfl Tryz.underlying62 rfl (by kernel_rfl) _ _ w.heap.size rfl hc (zln _)) rfl ?_
  exact ⟨rfl,b2⟩
 | some q=>
  have E:=HQ q rfl
  have HE:=zadv E
  clear HQ E
  go_enter Tryz.func62,Tryz.ntmps62
  go_upto_region 1 with (fail)
  have bx:=Bx.new w (Sw.zero.cells) 62;generalize w.alloc (.cells (Sw.zero.cells) 62)=W at bx ⊢;have rx:=bx.rowOf;have sx:=bx.soft;have BX:=zadv bx;clear bx
  have hB:=H.out.below BX.out.below
  have r0:=zaa hB.ob
  have L:=(hB.look k).1
  rw [HR.out] at L
  replace L:(Instr.lookup 192 (.map (some mb)) (.int .i64 k) false).run Tryz.prog W=.ok (.pointer (some ⟨q.b,0,none⟩)) W:=L
  have r1:=zaa ((BX.out.below.block _ HE.out.lt.1).trans HE.out.row)
  have z1:=e_s q.s q.m
  have z2:=zly q.s q.m
  generalize q.s.ent q.m=C at r1 z1 z2
  clear hB
  go_upto_region 3 with (fail)
  clear L HR H
  go_wp2
  have b2:=Below.setRow_ BX.out.below (zadw _) q.s.cells
  have hc:rowOf (W.setRow w.heap.size q.s.cells) w.heap.size=q.s.cells:=(zab _ _ _ _ sx).trans (if_pos rfl)
  refine bodyPost_ret (zaq (t:=62) rfl Tryz.underlying62 rfl (by kernel_rfl) _ _ w.heap.size rfl hc (zln _)) rfl ?_
  exact ⟨rfl,b2⟩
end
section
open Sx (MapIs getL putL KeyT keyInt Turns Foot)
def putMap (w:World) (r:Nat) (es:Array MapEntry) (c:Nat):World:={ w with heap:=w.heap.setIfInBounds r (.map es c) }
theorem zid {w:World} {r:Nat} (hr:r < w.heap.size) (es:Array MapEntry) (c:Nat):(putMap w r es c).heap[r]?=some (.map es c):=by
 unfold putMap
 simp [hr]
theorem zbw (w:World) (r:Nat) (es:Array MapEntry) (c:Nat) {i:Nat} (h:i ≠ r):(putMap w r es c).heap[i]?=w.heap[i]?:=by
 unfold putMap
 show (w.heap.setIfInBounds r _)[i]?=_
 rw [Array.getElem?_setIfInBounds_ne (Ne.symm h)]
theorem zt6 {es:Array MapEntry} {M:List (Int × En)} {k:Int} (hM:MapIs (prs es) (encA En.pt M)) (hf:getA M k=none):Sx.findIx (.int .i64 k) es.toList 0=none:=by
 have hM':MapIs (es.toList.map fun e=>(e.key,e.val)) ((encA En.pt M).map fun p=>(p.1,id p.2)):=by rw [show (encA En.pt M).map (fun p=>(p.1,id p.2))=encA En.pt M from List.map_id _];exact hM
 have hfind:=Sx.mapIs_find hM' (.int .i64 k)
 rw [zcb,hf] at hfind
 cases hq:Sx.findIx (.int .i64 k) es.toList 0 with
 | none=>rfl
 | some p=>rw [hq] at hfind;cases hfind
theorem zabw {w:World} {r:Nat} {es:Array MapEntry} {c:Nat} (h2:w.heap[r]?=some (.map es c)) {M:List (Int × En)} {k:Int} (hM:MapIs (prs es) (encA En.pt M)) (hf:getA M k=none) (v:Value):
  (Instr.mapUpdate 192 (.map (some r)) (.int .i64 k) v).run Tryz.prog w=.ok () (putMap w r (es.push ⟨.int .i64 k,v,c⟩) (c + 1)):=by
 have hk:KeyT Tryz.prog 3 IntK:=keyInt Tryz.underlying3
 have hes:=zbm hM (zcc En.pt M)
 have hget:=MapKept.run_getObj_map (P:=Tryz.prog) h2
 have hfi:=hk.find (.int .i64 k) es.toList w ⟨k,rfl⟩ hes
 rw [zt6 hM hf] at hfi
 have hset:=MapKept.run_setObj_map (P:=Tryz.prog) (.map (es.push ⟨.int .i64 k,v,c⟩) (c + 1)) h2
 simp only [Instr.mapUpdate,Sem.run_bind,run_underlying Tryz.underlying192,Result.andThen_ok,hget,hk.chk false (.int .i64 k) w ⟨k,rfl⟩,hfi,hset]
 rfl
theorem zt7 {es:Array MapEntry} {c:Nat} {M:List (Int × En)} {k:Int} (hM:MapIs (prs es) (encA En.pt M)) (hf:getA M k=none) (e:En):MapIs (prs (es.push ⟨.int .i64 k,e.pt,c⟩)) (encA En.pt (putA M k e)):=by
 have hM':MapIs (es.toList.map fun e=>(e.key,e.val)) ((encA En.pt M).map fun p=>(p.1,id p.2)):=by rw [show (encA En.pt M).map (fun p=>(p.1,id p.2))=encA En.pt M from List.map_id _];exact hM
 have:=Sx.mapIs_push (c:=id) (v:=e.pt) hM' (zt6 hM hf)
 rw [← zj0]
 have hid:(Sx.putL (encA En.pt M) (.int .i64 k) e.pt).map (fun p=>(p.1,id p.2))=Sx.putL (encA En.pt M) (.int .i64 k) e.pt:=List.map_id _
 rw [hid] at this
 show MapIs ((es.push _).toList.map _) _
 rw [Array.toList_push,List.map_append]
 exact this
theorem zabx {w:World} {r:Nat} {es:Array MapEntry} {c:Nat} (h2:w.heap[r]?=some (.map es c)):(Builtin.len_ #[192] 3 #[.map (some r)]).run Tryz.prog w=.ok (.int .i64 es.size) w:=by
 have hget:=MapKept.run_getObj_map (P:=Tryz.prog) h2
 simp only [Builtin.len_,Sem.run_bind,Sem.run_pure,Result.andThen_ok,List.getElem?_toArray,List.getElem?_cons_zero,run_underlying Tryz.underlying192,hget]
 rfl
theorem zri {es:Array MapEntry} {M:List (Int × En)} (hM:MapIs (prs es) (encA En.pt M)):es.size=M.length:=by
 have:=hM.1.length_eq
 simpa [encA] using this
theorem BookAt.len {w:World} {bk mb:Nat} {M:List (Int × En)} (h:BookAt w bk mb M):(Builtin.len_ #[192] 3 #[.map (some mb)]).run Tryz.prog w=.ok (.int .i64 M.length) w:=by
 obtain ⟨es,c,e,h1,_⟩:=h.mp
 rw [zabx e,zri h1]
def sOf (v:Value):Sw:=⟨dOf (.agg (sub (agc v) 0 41)),iAt v 41,(match (agc v)[42]? with | some (Value.bool b)=>b | _=>false),hOf (.agg (sub (agc v) 43 32))⟩
theorem zz2 (s:Sw):sOf (.agg s.cells)=s:=by
 have e1:iAt (.agg s.cells) 41=s.st:=by show (match s.cells[41]? with | some (.int _ n)=>n | _=>0)=_;rw [s_41]
 have e2:sub (agc (.agg s.cells)) 43 32=s.s.cells:=s_s s
 have e3:sub (agc (.agg s.cells)) 0 41=s.d.cells:=s_d s
 have e4:(match (agc (.agg s.cells))[42]? with | some (Value.bool b)=>b | _=>false)=s.kn:=by show (match s.cells[42]? with | some (Value.bool b)=>b | _=>false)=_;rw [s_42]
 unfold sOf
 rw [e1,e2,e3,e4,zph,zto]
def mOf (v:Value):Nat:=match v with
 | .map (some r)=>r
 | _=>0
theorem mOf_mk (r:Nat):mOf (.map (some r))=r:=rfl
theorem be2 (w:World) (s:Sw) (m:Nat):(Instr.build 198 #[(0,.agg s.cells),(1,.map (some m))]).run Tryz.prog w=.ok (.agg (s.ent m)) w:=by
 obtain ⟨d,st,kn,e⟩:=s
 obtain ⟨i,r,p,g,h,q⟩:=d
 obtain ⟨f,rfl⟩:=h.form
 obtain ⟨f',rfl⟩:=e.form
 kernel_rfl
theorem ebe2 (w:World) (ρ:Operand→Value) (dst:Option Tmp) (ty:TypeId) (pos:String) (af:Array Edge) (gd:Option (Nat × Bool)) (x y:Operand) (hx:ρ x=(.agg (sOf (ρ x)).cells)) (hy:ρ y=(.map (some (mOf (ρ y))))):(execOp ρ ⟨dst,.build 198 #[(0,x),(1,y)],ty,pos,af,gd⟩).run Tryz.prog w=.ok (.value (.agg ((sOf (ρ x)).ent (mOf (ρ y))))) w:=by
 have h:=be2 w (sOf (ρ x)) (mOf (ρ y))
 rw [← hx,← hy] at h
 unfold execOp
 simp only [Sem.run_bind,Sem.run_pure,List.map_toArray,List.map_cons,List.map_nil,h,Result.andThen_ok]
theorem zlz {w X:World} (hb:Below w.heap.size w X) (mb:Nat) (es:Array MapEntry) (c:Nat):Turns (fun i _=>i=mb) w (putMap X mb es c):=
 ⟨hb.os,hb.tape,hb.output,Nat.le_trans hb.size (by unfold putMap;simp),fun k hk hF=>(zbw X mb es c fun e=>hF 0 e).trans (hb.block k hk)⟩
theorem zt8 {V X:World} {bk mb:Nat} {M:List (Int × En)} {es:Array MapEntry} {c:Nat} {k:Int} {s:Sw} (hB:BookAt V bk mb M) (e1:V.heap[mb]?=some (.map es c)) (e2:MapIs (prs es) (encA En.pt M)) (e3:MapKept.Stamped es c)
  (e4:X.heap[mb]?=some (.map es c)) (e5:X.heap[V.heap.size]?=some (.map #[] 0)) (e6:X.heap[V.heap.size + 1]?=some (.cells (Sw.ent s V.heap.size) 198)) (hb2:Below V.heap.size V X) (hF:getA M k=none):
  BookAt (putMap X mb (es.push ⟨.int .i64 k,.pointer (some ⟨V.heap.size + 1,0,none⟩),c⟩) (c + 1)) bk mb (putA M k ⟨V.heap.size + 1,V.heap.size,s⟩):=by
 have hbk:=(zadu hB.ob).1
 have hmb:=(zadu e1).1
 have hmX:=(zadu e4).1
 have hmk:bk ≠ mb:=fun q=>by have:=hB.ob;rw [q,e1] at this;cases this
 have old:∀ p ∈ M,EntAt (putMap X mb (es.push ⟨.int .i64 k,.pointer (some ⟨V.heap.size + 1,0,none⟩),c⟩) (c + 1)) p.2∧p.2.m ≠ mb:=fun p hp=>by
  obtain ⟨h1,h2⟩:=hB.en p hp
  have h3:p.2.b ≠ mb:=fun q=>by have:=h1.row;rw [q,e1] at this;cases this
  exact ⟨⟨(zbw _ _ _ _ h3).trans ((hb2.block _ h1.lt.1).trans h1.row),(zbw _ _ _ _ h2).trans ((hb2.block _ h1.lt.2).trans h1.map)⟩,h2⟩
 refine ⟨(zbw _ _ _ _ hmk).trans ((hb2.block _ hbk).trans hB.ob),⟨_,_,zid hmX _ _,zt7 e2 hF ⟨V.heap.size + 1,V.heap.size,s⟩,MapKept.stamped_push e3 (Sx.findIx_none _ _ (zt6 e2 hF))⟩,fun p hp=>?_,fun p hp q hq e=>?_⟩
 ·rcases zdu hp with rfl | hp
  ·exact ⟨⟨(zbw _ _ _ _ (by show V.heap.size + 1 ≠ mb;omega)).trans e6,(zbw _ _ _ _ (by show V.heap.size ≠ mb;omega)).trans e5⟩,(by show V.heap.size ≠ mb;omega)⟩
  ·exact old p hp
 ·rcases zdu hp with rfl | hp
  ·rcases zdu hq with rfl | hq
   ·rfl
   ·have:=(hB.en q hq).1.lt.1
    have e:V.heap.size + 1=q.2.b:=e
    omega
  ·rcases zdu hq with rfl | hq
   ·have:=(hB.en p hp).1.lt.1
    have e:p.2.b=V.heap.size + 1:=e
    omega
   ·exact hB.inj p hp q hq e
theorem ebs2k (w:World) (A:Act) (dst:Option Tmp) (ty:TypeId) (pos:String) (af:Array Edge) (gd:Option (Nat × Bool)) (x:Operand) (k:Int) (hx:A.eval x=(.agg (dOf (A.eval x)).cells)):(execOp A.eval ⟨dst,.build 62 #[(0,x),(1,.const (.int .i64 k))],ty,pos,af,gd⟩).run Tryz.prog w=.ok (.value (.agg (Sw.cells ⟨(dOf (A.eval x)),k,false,Hs.zero⟩))) w:=ebs2 w A.eval dst ty pos af gd x (.const (.int .i64 k)) hx rfl
theorem zaw {w:World} {es:Array MapEntry} {c b:Nat} (h:(b=w.heap.size)=False):rowOf (w.alloc (.map es c)) b=rowOf w b:=by
 have h:b ≠ w.heap.size:=fun e=>by rw [h] at e;exact e
 by_cases hb:b < w.heap.size
 ·unfold rowOf
  rw [(MapKept.heap_alloc _ _).2 _ hb]
 ·unfold rowOf
  have e1:(w.alloc (.map es c)).heap[b]?=none:=by rw [Array.getElem?_eq_none];simp;omega
  have e2:w.heap[b]?=none:=by rw [Array.getElem?_eq_none];omega
  rw [e1,e2]
attribute [local go_sem ↓] zad ebe2 ebs2k
attribute [local go_sem] zaf zai zaj zal zab zah zly e_s zabu zz2 mOf_mk Sx.run_mk zaw
theorem BookAt.drew {w:World} {bk mb:Nat} {M:List (Int × En)} (h:BookAt w bk mb M):BookAt w.drew bk mb M:=h.below (Below.refl _ w).drew
set_option maxHeartbeats 1000000 in
theorem zxn {w:World} {bk mb:Nat} {M:List (Int × En)} (h:BookAt w bk mb M) (r:Rc) (hf:getA M r.i=none) (hl:M.length < 16):Calls Tryz.prog 187 #[.pointer (some ⟨bk,0,none⟩),.agg r.cells] w fun e w'=>e=.returned (.int .i64 0)∧∃ be bm,BookAt w' bk mb (putA M r.i ⟨be,bm,⟨r.d,1,false,Hs.zero⟩⟩)∧Turns (fun i _=>i=mb) w w'∧w.heap.size ≤ be∧w.heap.size ≤ bm:=by
 have H:=zadv h
 have HF:=zadv hf
 have hl2:((M.length:Int) ≥ 16)=False:=eq_false (by omega)
 clear h hf hl
 go_enter Tryz.func187,Tryz.ntmps187
 go_upto_region 1 with (fail)
 have bx:=Bx.new w (r.cells) 162;generalize w.alloc (.cells (r.cells) 162)=W at bx ⊢;have rx:=bx.rowOf;have sx:=bx.soft;have BX:=zadv bx;clear bx
 have hB:=H.out.below BX.out.below
 have r0:=zaa hB.ob
 have L2:=(hB.drew.look r.i).2
 rw [HF.out] at L2
 have HB:=zadv hB.drew
 have BX2:=zadv (BX.out.step (Below.refl _ W).drew)
 clear hB
 go_region
 clear L2 rx sx r0 BX
 generalize W.drew=V at *
 have rx:=BX2.out.rowOf
 have sx:=BX2.out.soft
 have r0:=zaa HB.out.ob
 have N:=HB.out.len
 go_upto_region 6 with (fail)
 clear N hl2
 obtain ⟨es,c,e1,e2,e3⟩:=HB.out.mp
 have hlt:mb < V.heap.size:=(zadu e1).1
 have z1:(V.alloc (.map #[] 0)).heap.size=V.heap.size + 1:=by simp
 obtain ⟨X,hX⟩:∃ X,X=((V.alloc (.map #[] 0)).alloc (.cells (Sw.ent ⟨r.d,1,false,Hs.zero⟩ V.heap.size) 198)).drew:=⟨_,rfl⟩
 have hb1:Below V.heap.size V (V.alloc (.map #[] 0)):=(Below.refl _ V).alloc (zadw _) _
 have hb2:Below V.heap.size V X:=by rw [hX];exact (hb1.alloc (by rw [z1];omega) _).drew
 have e4:X.heap[mb]?=some (.map es c):=(hb2.block mb hlt).trans e1
 have e5:X.heap[V.heap.size]?=some (.map #[] 0):=by
  rw [hX]
  show ((V.alloc (.map #[] 0)).alloc _).heap[V.heap.size]?=_
  rw [(MapKept.heap_alloc _ _).2 _ (by rw [z1];omega)]
  exact heap_alloc_new V _
 have e6:X.heap[V.heap.size + 1]?=some (.cells (Sw.ent ⟨r.d,1,false,Hs.zero⟩ V.heap.size) 198):=by
  rw [hX]
  have:=heap_alloc_new (V.alloc (.map #[] 0)) (.cells (Sw.ent ⟨r.d,1,false,Hs.zero⟩ V.heap.size) 198)
  rw [z1] at this
  exact this
 have hw:w.heap.size < V.heap.size:=(zadu BX2.out.row).1
 have hne:¬ w.heap.size=V.heap.size:=by omega
 have hbk:¬ bk=V.heap.size:=by have:=(zadu HB.out.ob).1;omega
 have hbk1:¬ bk=V.heap.size + 1:=by have:=(zadu HB.out.ob).1;omega
 have hne1:¬ w.heap.size=V.heap.size + 1:=by omega
 have U:=zabw (k:=r.i) e4 e2 HF.out (.pointer (some ⟨V.heap.size + 1,0,none⟩))
 rw [hX] at U
 have HX:=zadv hX
 have K:=zadv (zadx e1 (zadx e2 (zadx e3 (zadx e4 (zadx e5 (zadx e6 hb2))))))
 clear e1 e2 e3 e4 e5 e6 hb1 hb2 hX z1
 go_region
 rw [← HX.out]
 clear U hne hbk hbk1 hne1 rx sx r0
 obtain ⟨e1,e2,e3,e4,e5,e6,hb2⟩:=K.out
 have hbX:=BX2.out.below.trans (hb2.mono BX2.out.below.size)
 have hB:=HB.out
 have hF:=HF.out
 have hmk:bk ≠ mb:=fun q=>by have:=hB.ob;rw [q,e1] at this;cases this
 have T:=zt8 hB e1 e2 e3 e4 e5 e6 hb2 hF
 have TT:=zadv T
 have TB:Turns (fun i _=>i=mb) w (putMap X mb (es.push ⟨.int .i64 r.i,.pointer (some ⟨V.heap.size + 1,0,none⟩),c⟩) (c + 1)):=zlz hbX _ _ _
 have TB2:=zadv TB
 clear K T TB e1 e2 e3 e4 e5 e6 hb2 hbX hB hF hmk HX hlt HB BX2 H HF
 generalize putMap X mb _ _=Y at *
 go_wp2
 go_ret
 exact ⟨rfl,V.heap.size + 1,V.heap.size,TT.out,TB2.out,by omega,by omega⟩
end
end Go.Proofs.YthjgiamfaijoeaaGreatDoor
