/- What is proved: parts of the walk and of the plain law, 1 texts in one. No condition but those each law names. -/
import Derived.Test.YtjkfondgacjpnaaGreatDoorF24
import Derived.Test.YtjkfondgacjpnaaGreatDoorF19
import Derived.Test.YtjkfondgacjpnaaGreatDoorF06
import Derived.StillTailTactics
namespace Go.Proofs.YtjkfondgacjpnaaGreatDoor
open Go.RowKit
set_option maxRecDepth 100000
attribute [local go_sem ↓] rowOf_cell
attribute [local go_sem] rowOf_alloc soft_alloc rowOf_drew soft_drew rowOf_setCell soft_setCell rowOf_setRow soft_setRow frozen_of_soft
theorem results_row1 {P:Program} {fn:Func} {p u:Tmp} {d:TypeDesc} {t:TypeId} {n:Nat} (hr:fn.results=#[.cell p t,.tmp u]) (hu:P.underlying t=some d) (hd:d.isRow=true) (hi:(P.info? t).map (·.size)=some n)
  (tmps:Array Value) (w:World) (b:Nat) (hp:tmps.getD p undef=.pointer (some ⟨b,0,none⟩)) {cs:Array Value} (hc:rowOf w b=cs) (hn:cs.size=n):
  (results fn tmps).run P w=.ok (.tuple #[.agg cs,tmps.getD u undef]) w:=by
 have h1:=var_row t n hu hd hi w b 0 (by rw [hc];omega)
 have hp':tmps[p]?.getD undef=.pointer (some ⟨b,0,none⟩):=by simpa using hp
 have e:sub (rowOf w b) 0 n=cs:=by rw [hc,← hn];simp [sub]
 rw [e] at h1
 simp [results,hr,hp',asAddr,h1]
theorem End_any {w:World} {p:Nat} {s:RS} (hr:Rd w p s):Calls Tryz.prog 77 #[.pointer (some ⟨p,0,none⟩)] w fun e w'=>e=.returned (.int .i64 (endR s))∧w'=w:=by
 obtain ⟨ao,n,c,h1,h2⟩:=hr
 have hl:=h2.len
 rw [bts_length] at hl
 by_cases h0:n=0
 ·subst h0
  have e:endR s=s.2:=by unfold endR;rw [if_pos (List.eq_nil_of_length_eq_zero hl)]
  rw [e]
  exact End_why h1
 ·have e:endR s=5:=by unfold endR;rw [if_neg (fun h=>h0 (by rw [← hl,h];rfl))]
  rw [e]
  exact End_long h1 (by omega)
theorem RBad_any {w:World} {p:Nat} {s:RS} (hr:Rd w p s):Calls Tryz.prog 76 #[.pointer (some ⟨p,0,none⟩)] w fun e w'=>e=.returned (.bool (!(s.2 == 0)))∧w'=w:=by
 obtain ⟨v,hv⟩:=hr.cases
 exact Bad_any hv
theorem RdB.mono {B C:Nat} {w:World} {p:Nat} {s:RS} (h:RdB B w p s) (hB:B ≤ C):RdB C w p s:=by
 obtain ⟨ao,n,c,h1,h2,h3⟩:=h
 exact ⟨ao,n,c,h1,h2,fun b o e hn=>Nat.lt_of_lt_of_le (h3 b o e hn) hB⟩
theorem kind_some (k:Int) (w:World):Calls Tryz.prog 72 #[.int .i64 k] w fun e w'=>(∃ x,e=.returned (.pointer x))∧Below w.heap.size w w':=by
 by_cases h:k=1 ∨ k=2
 ·exact (kind_legs h w).mono fun e w' ⟨he,hw⟩=>⟨⟨_,he⟩,by rw [hw];exact below1 _ _⟩
 ·by_cases h3:k=3
  ·subst h3
   exact (kind_code w).mono fun e w' ⟨he,hw⟩=>⟨⟨_,he⟩,by rw [hw];exact below1 _ _⟩
  ·exact (kind_none (fun e=>h (.inl e)) (fun e=>h (.inr e)) h3 w).mono fun e w' ⟨he,hw⟩=>⟨⟨_,he⟩,by rw [hw];exact Below.refl _ _⟩
def finM (m:Msg) (s:RS) (chk:Int):Int × Msg:=if endR s ≠ 0 then (endR s,Msg.zero) else if chk ≠ 0 then (chk,Msg.zero) else (0,m)
def m0 (k i:Nat):Msg:=⟨k,i,0,Lg.zero,Lg.zero,Hs.zero⟩
def mLegs (k i:Nat) (s:RS):Msg:={ (mAt (m0 k i) s 2).1 with h:=(rdHs (mAt (m0 k i) s 2).2).1 }
def sLegs (k i:Nat) (s:RS):RS:=(rdHs (mAt (m0 k i) s 2).2).2
theorem mcheck_ki {k i:Nat} {s:RS} (hk:(mLegs k i s).k=1 ∨ (mLegs k i s).k=2) (w:World):Calls Tryz.prog 71 #[.agg (mLegs k i s).cells] w fun e w'=>e=.returned (.int .i64 (idE i (propE (mLegs k i s))))∧Below w.heap.size w w':=MCheck_legs hk w
def gM (k i:Nat) (s2:RS):Int × Msg:=
 if s2.2 ≠ 0 then (endR s2,Msg.zero)
 else if k=3 then finM (msgR i (rdI s2).1) (rdI s2).2 (idE i (refE (rdI s2).1))
 else if k=1 ∨ k=2 then finM (mLegs k i s2) (sLegs k i s2) (idE i (propE (mLegs k i s2)))
 else (2,Msg.zero)
def mgetM (l:List Nat):Int × Msg:=gM (rdI (l,0)).1 (rdI (rdI (l,0)).2).1 (rdI (rdI (l,0)).2).2
def RetMG (w:World) (r:Int × Msg):Ending→World→Prop:=fun e w'=>e=.returned (.tuple #[.agg r.2.cells,.int .i64 r.1])∧Below w.heap.size w w'
set_option maxHeartbeats 4000000 in
theorem MGet_any {w:World} (hf:Forms w) {ao:Option Addr} {n c:Nat} {l:List Nat} (hl:Sl w ao n c (bts l)) (hs:Rs (l,0)):Calls Tryz.prog 53 #[.slice ao n c] w (RetMG w (mgetM l)):=by
 have hln:l.length=n:=by have:=hl.len;rwa [bts_length] at this
 have HF:=Lib.hid hf
 have HL:=Lib.hid hl
 have HS:=Lib.hid hs
 have hn:n < 1000000:=by rw [← hln];exact hs.len
 have h2w:0 < w.heap.size:=World.block_lt_of_cell? w ⟨0,0,none⟩ (hf 0 _ rfl)
 have hS:=hs.int
 obtain ⟨⟨k,s1⟩,e1⟩:∃ x,rdI (l,0)=x:=⟨_,rfl⟩
 rw [e1] at hS
 have hS2:=hS.int
 obtain ⟨⟨i,s2⟩,e2⟩:∃ x,rdI s1=x:=⟨_,rfl⟩
 rw [show (rdI (k,s1).2).2=s2 by rw [e2]] at hS2
 have EG:mgetM l=gM k i s2:=by unfold mgetM;rw [e1];dsimp only;rw [e2]
 rw [EG]
 have HS1:=Lib.hid (show Rs s1 from hS)
 have HS2:=Lib.hid hS2
 have E1:=Lib.hid e1
 have E2:=Lib.hid e2
 clear hf hl hs hS hS2 e1 e2 EG
 go_enter Tryz.func53,Tryz.ntmps53
 go_upto_region 1 with (fail)
 have bx:=Bx.new w (Msg.zero.cells) 67;generalize w.alloc (.cells (Msg.zero.cells) 67)=W at bx ⊢;have rx:=bx.rowOf;have sx:=bx.soft;have BX:=Lib.hid bx;clear bx
 have RA:=Lib.hid (Read_any (HL.out.keep (Nat.le_refl _) BX.out.below) hn)
 go_wp2_with fail
 refine RA.out.mono ?_
 rintro _ w1 ⟨p,a1,c1,rfl,hp1,hb1,hr1,hs1⟩
 have hrd1:RdB w1.heap.size w1 p (l,0):=Rd.b ⟨a1,n,c1,hr1,hs1⟩
 have bx1:=BX.out.step hb1
 have hpw:w.heap.size < p:=by have:=(Array.getElem?_eq_some_iff.1 BX.out.row).1;omega
 have R1:=Lib.hid (RInt_any (HF.out.keep (Nat.le_refl _) bx1.below) (by omega:p ≠ 0) hrd1 HS.out.small HS.out.len)
 rw [E1.out] at R1
 have BX1:=Lib.hid bx1
 clear BX rx sx hb1 hr1 hs1 hrd1 bx1 RA hp1
 go_wp2_with fail
 refine R1.out.mono ?_
 rintro _ w2 ⟨rfl,hb2,hr2⟩
 have B2:=Lib.hid (BX1.out.below.trans (hb2.to BX1.out.below.size (by omega)))
 have X2:=Lib.hid ((hb2.block w.heap.size (Array.getElem?_eq_some_iff.1 BX1.out.row).1 (by omega)).trans BX1.out.row)
 have R2:=Lib.hid (RInt_any (HF.out.keep (Nat.le_refl _) B2.out) (by omega:p ≠ 0) hr2 HS1.out.small HS1.out.len)
 rw [E2.out] at R2
 have Z2:=hb2.size
 clear hb2 hr2 R1 BX1
 go_wp2_with fail
 refine R2.out.mono ?_
 rintro _ w3 ⟨rfl,hb3,hr3⟩
 have B3:=Lib.hid (B2.out.trans (hb3.to B2.out.size (by omega)))
 have X3:=Lib.hid ((hb3.block w.heap.size (Array.getElem?_eq_some_iff.1 X2.out).1 (by omega)).trans X2.out)
 have Z3:=hb3.size
 have RD3:=Lib.hid hr3
 clear hb3 hr3 R2 B2 X2
 go_upto_region 3 with (fail)
 have dx:=Bx.made w3 Msg.zero.cells (m0 k i).cells 67
 change Code.wp _ _ _ _ ((w3.alloc (.cells Msg.zero.cells 67)).setRow w3.heap.size (m0 k i).cells)
 generalize (w3.alloc (.cells Msg.zero.cells 67)).setRow w3.heap.size (m0 k i).cells=w5 at dx ⊢
 have B5:=Lib.hid (B3.out.trans (dx.below.mono B3.out.size))
 have X5:=Lib.hid ((dx.below.block w.heap.size (Array.getElem?_eq_some_iff.1 X3.out).1).trans X3.out)
 have RD5:=Lib.hid ((RD3.out.mono (show w1.heap.size ≤ w3.heap.size by omega)).keep (Nat.le_refl _) dx.below)
 have rm:=dx.rowOf
 have hb3:w3.heap.size < w5.heap.size:=(Array.getElem?_eq_some_iff.1 dx.row).1
 have M5:=Lib.hid (show MB w5 w3.heap.size (m0 k i) from dx.row)
 have hp3:p < w3.heap.size:=RD3.out.rd.lt
 have hw3:w.heap.size < w3.heap.size:=(Array.getElem?_eq_some_iff.1 X3.out).1
 generalize hbb:w3.heap.size=b at *
 clear dx B3 X3 RD3 hbb Z2 Z3
 by_cases hbad:s2.2=0
 ·have good:(!(s2.2 == 0))=false:=by rw [hbad];rfl
  have HBad:=Lib.hid (show gM k i s2=if k=3 then finM (msgR i (rdI s2).1) (rdI s2).2 (idE i (refE (rdI s2).1)) else if k=1 ∨ k=2 then finM (mLegs k i s2) (sLegs k i s2) (idE i (propE (mLegs k i s2))) else (2,Msg.zero) from if_neg (fun h=>h hbad))
  clear hbad
  by_cases h3:k=3
  ·have EB:=Lib.hid (HBad.out.trans (if_pos h3))
   subst h3
   go_wp2_with fail
   refine (kind_code w5).mono ?_
   rintro _ _ ⟨rfl,rfl⟩
   have kx:=Bx.new w5 (kindV 102 103 104) 164
   generalize w5.alloc (.cells (kindV 102 103 104) 164)=w6 at kx ⊢
   have RD6:=Lib.hid (RD5.out.keep (Nat.le_refl _) kx.below)
   have B6:=Lib.hid (B5.out.trans (kx.below.mono B5.out.size))
   have X6:=Lib.hid ((kx.below.block w.heap.size (Array.getElem?_eq_some_iff.1 X5.out).1).trans X5.out)
   have M6:=Lib.hid (show MB w6 b (m0 3 i) from (kx.below.block b hb3).trans M5.out)
   have rk:=kx.rowOf
   have F6:=Lib.hid (HF.out.keep (Nat.le_refl _) B6.out)
   clear kx rm
   go_wp2_with fail
   refine (RBad_any RD6.out.rd).mono ?_
   rintro _ _ ⟨rfl,rfl⟩
   rw [good]
   have GL:=Lib.hid (getCode_any F6.out (by omega:p ≠ 0) RD6.out (by omega) M6.out HS2.out)
   go_wp2_with fail
   refine GL.out.mono ?_
   rintro _ w7 ⟨rfl,hb7,hr7,hm7⟩
   have B7:=Lib.hid (B6.out.trans (hb7 w.heap.size (by omega) (by omega) B6.out.size))
   have X7:=Lib.hid (((hb7 (w.heap.size + 1) (by omega) (by omega) (by have:=(Array.getElem?_eq_some_iff.1 X6.out).1;omega)).block w.heap.size (Nat.lt_succ_self _)).trans X6.out)
   have M7:=Lib.hid (show MB w7 b (msgR i (rdI s2).1) from hm7)
   have RD7:=Lib.hid (show RdB b w7 p ((rdI s2).2) from hr7)
   clear hb7 hr7 hm7 GL rk
   go_wp2_with fail
   refine (End_any RD7.out.rd).mono ?_
   rintro _ wz ⟨rfl,ez⟩
   have ez2:w7=wz:=ez.symm
   subst ez2
   clear ez
   have rx:=rowOf_of X7.out
   have sx:=soft_of X7.out
   have rm:=M7.out.row
   by_cases he:endR ((rdI s2).2)=0
   ·rw [he]
    obtain ⟨ck,hck⟩:∃ x,x=idE i (refE (rdI s2).1):=⟨_,rfl⟩
    have CK:=Lib.hid (MCheck_code i (rdI s2).1 w7)
    rw [← hck] at CK
    have HCK:=Lib.hid hck
    have HE:=Lib.hid he
    clear hck he rx sx
    go_wp2_with fail
    refine CK.out.mono ?_
    rintro _ w8 ⟨rfl,hb8⟩
    have B8:=Lib.hid (B7.out.trans (hb8.mono B7.out.size))
    have X8:=Lib.hid ((hb8.block w.heap.size (Array.getElem?_eq_some_iff.1 X7.out).1).trans X7.out)
    have rm8:rowOf w8 b=Msg.cells (msgR i (rdI s2).1):=rowOf_of ((hb8.block b M7.out.lt).trans M7.out)
    have rx:=rowOf_of X8.out
    have sx:=soft_of X8.out
    clear hb8 rm CK
    by_cases hc0:ck=0
    ·have EG:=Lib.hid (show gM 3 i s2=(0,msgR i (rdI s2).1) by rw [EB.out];unfold finM;rw [if_neg (by rw [HE.out];simp),← HCK.out,if_neg (by rw [hc0];simp)])
     subst hc0
     go_wp2
     have hc:rowOf (World.setRow _ w.heap.size (Msg.cells (msgR i (rdI s2).1))) w.heap.size=Msg.cells (msgR i (rdI s2).1):=(rowOf_setRow _ _ _ _ (soft_of X8.out)).trans (if_pos rfl)
     refine bodyPost_ret (results_row1 (t:=67) rfl Tryz.underlying67 rfl (by kernel_rfl) _ _ w.heap.size rfl hc (m_size _)) rfl ?_
     rw [EG.out]
     exact ⟨rfl,Below.setRow_ B8.out (Nat.le_refl _) _⟩
    ·have EG:=Lib.hid (show gM 3 i s2=(ck,Msg.zero) by rw [EB.out];unfold finM;rw [if_neg (by rw [HE.out];simp),← HCK.out,if_pos hc0])
     have hc1:(ck == 0)=false:=by rw [beq_eq_false_iff_ne];exact hc0
     have hc2:(ck != 0)=true:=by rw [bne_iff_ne];exact hc0
     clear hc0
     go_wp2
     have hc:rowOf (World.setRow _ w.heap.size (Msg.cells Msg.zero)) w.heap.size=Msg.cells Msg.zero:=(rowOf_setRow _ _ _ _ (soft_of X8.out)).trans (if_pos rfl)
     refine bodyPost_ret (results_row1 (t:=67) rfl Tryz.underlying67 rfl (by kernel_rfl) _ _ w.heap.size rfl hc (m_size _)) rfl ?_
     rw [EG.out]
     exact ⟨rfl,Below.setRow_ B8.out (Nat.le_refl _) _⟩
   ·have B8:=B7
    have X8:=X7
    have EG:=Lib.hid (show gM 3 i s2=(endR ((rdI s2).2),Msg.zero) by rw [EB.out];unfold finM;rw [if_pos he])
    obtain ⟨ek,hek⟩:∃ x,x=endR ((rdI s2).2):=⟨_,rfl⟩
    rw [← hek] at he EG ⊢
    have hc1:(ek == 0)=false:=by rw [beq_eq_false_iff_ne];exact he
    have hc2:(ek != 0)=true:=by rw [bne_iff_ne];exact he
    clear he hek rm
    go_wp2
    have hc:rowOf (World.setRow _ w.heap.size (Msg.cells Msg.zero)) w.heap.size=Msg.cells Msg.zero:=(rowOf_setRow _ _ _ _ (soft_of X8.out)).trans (if_pos rfl)
    refine bodyPost_ret (results_row1 (t:=67) rfl Tryz.underlying67 rfl (by kernel_rfl) _ _ w.heap.size rfl hc (m_size _)) rfl ?_
    rw [EG.out]
    exact ⟨rfl,Below.setRow_ B8.out (Nat.le_refl _) _⟩
  ·by_cases h12:k=1 ∨ k=2
   ·have EB:=Lib.hid (HBad.out.trans ((if_neg h3).trans (if_pos h12)))
    have HK:=Lib.hid (show (mLegs k i s2).k=1 ∨ (mLegs k i s2).k=2 by rcases h12 with rfl | rfl;exact .inl rfl;exact .inr rfl)
    have HK2:=Lib.hid (show (k:Int)=1 ∨ (k:Int)=2 by rcases h12 with rfl | rfl;exact .inl rfl;exact .inr rfl)
    clear h3 h12
    go_wp2_with fail
    refine (kind_legs HK2.out w5).mono ?_
    rintro _ _ ⟨rfl,rfl⟩
    have kx:=Bx.new w5 (kindV 99 100 101) 164
    generalize w5.alloc (.cells (kindV 99 100 101) 164)=w6 at kx ⊢
    have RD6:=Lib.hid (RD5.out.keep (Nat.le_refl _) kx.below)
    have B6:=Lib.hid (B5.out.trans (kx.below.mono B5.out.size))
    have X6:=Lib.hid ((kx.below.block w.heap.size (Array.getElem?_eq_some_iff.1 X5.out).1).trans X5.out)
    have M6:=Lib.hid (show MB w6 b (m0 k i) from (kx.below.block b hb3).trans M5.out)
    have rk:=kx.rowOf
    have F6:=Lib.hid (HF.out.keep (Nat.le_refl _) B6.out)
    clear kx rm
    go_wp2_with fail
    refine (RBad_any RD6.out.rd).mono ?_
    rintro _ _ ⟨rfl,rfl⟩
    rw [good]
    have GL:=Lib.hid (getLegs_any F6.out (by omega) (by omega) RD6.out (by omega) M6.out HS2.out)
    go_wp2_with fail
    refine GL.out.mono ?_
    rintro _ w7 ⟨rfl,hb7,hr7,hm7⟩
    have B7:=Lib.hid (B6.out.trans (hb7 w.heap.size (by omega) (by omega) B6.out.size))
    have X7:=Lib.hid (((hb7 (w.heap.size + 1) (by omega) (by omega) (by have:=(Array.getElem?_eq_some_iff.1 X6.out).1;omega)).block w.heap.size (Nat.lt_succ_self _)).trans X6.out)
    have M7:=Lib.hid (show MB w7 b (mLegs k i s2) from hm7)
    have RD7:=Lib.hid (show RdB b w7 p (sLegs k i s2) from hr7)
    clear hb7 hr7 hm7 GL rk
    go_wp2_with fail
    refine (End_any RD7.out.rd).mono ?_
    rintro _ wz ⟨rfl,ez⟩
    have ez2:w7=wz:=ez.symm
    subst ez2
    clear ez
    have rx:=rowOf_of X7.out
    have sx:=soft_of X7.out
    have rm:=M7.out.row
    by_cases he:endR (sLegs k i s2)=0
    ·rw [he]
     obtain ⟨ck,hck⟩:∃ x,x=idE i (propE (mLegs k i s2)):=⟨_,rfl⟩
     have CK:=Lib.hid (mcheck_ki HK.out w7)
     rw [← hck] at CK
     have HCK:=Lib.hid hck
     have HE:=Lib.hid he
     clear hck he rx sx
     go_wp2_with fail
     refine CK.out.mono ?_
     rintro _ w8 ⟨rfl,hb8⟩
     have B8:=Lib.hid (B7.out.trans (hb8.mono B7.out.size))
     have X8:=Lib.hid ((hb8.block w.heap.size (Array.getElem?_eq_some_iff.1 X7.out).1).trans X7.out)
     have rm8:rowOf w8 b=Msg.cells (mLegs k i s2):=rowOf_of ((hb8.block b M7.out.lt).trans M7.out)
     have rx:=rowOf_of X8.out
     have sx:=soft_of X8.out
     clear hb8 rm CK
     by_cases hc0:ck=0
     ·have EG:=Lib.hid (show gM k i s2=(0,mLegs k i s2) by rw [EB.out];unfold finM;rw [if_neg (by rw [HE.out];simp),← HCK.out,if_neg (by rw [hc0];simp)])
      subst hc0
      go_wp2
      have hc:rowOf (World.setRow _ w.heap.size (Msg.cells (mLegs k i s2))) w.heap.size=Msg.cells (mLegs k i s2):=(rowOf_setRow _ _ _ _ (soft_of X8.out)).trans (if_pos rfl)
      refine bodyPost_ret (results_row1 (t:=67) rfl Tryz.underlying67 rfl (by kernel_rfl) _ _ w.heap.size rfl hc (m_size _)) rfl ?_
      rw [EG.out]
      exact ⟨rfl,Below.setRow_ B8.out (Nat.le_refl _) _⟩
     ·have EG:=Lib.hid (show gM k i s2=(ck,Msg.zero) by rw [EB.out];unfold finM;rw [if_neg (by rw [HE.out];simp),← HCK.out,if_pos hc0])
      have hc1:(ck == 0)=false:=by rw [beq_eq_false_iff_ne];exact hc0
      have hc2:(ck != 0)=true:=by rw [bne_iff_ne];exact hc0
      clear hc0
      go_wp2
      have hc:rowOf (World.setRow _ w.heap.size (Msg.cells Msg.zero)) w.heap.size=Msg.cells Msg.zero:=(rowOf_setRow _ _ _ _ (soft_of X8.out)).trans (if_pos rfl)
      refine bodyPost_ret (results_row1 (t:=67) rfl Tryz.underlying67 rfl (by kernel_rfl) _ _ w.heap.size rfl hc (m_size _)) rfl ?_
      rw [EG.out]
      exact ⟨rfl,Below.setRow_ B8.out (Nat.le_refl _) _⟩
    ·have B8:=B7
     have X8:=X7
     have EG:=Lib.hid (show gM k i s2=(endR (sLegs k i s2),Msg.zero) by rw [EB.out];unfold finM;rw [if_pos he])
     obtain ⟨ek,hek⟩:∃ x,x=endR (sLegs k i s2):=⟨_,rfl⟩
     rw [← hek] at he EG ⊢
     have hc1:(ek == 0)=false:=by rw [beq_eq_false_iff_ne];exact he
     have hc2:(ek != 0)=true:=by rw [bne_iff_ne];exact he
     clear he hek rm
     go_wp2
     have hc:rowOf (World.setRow _ w.heap.size (Msg.cells Msg.zero)) w.heap.size=Msg.cells Msg.zero:=(rowOf_setRow _ _ _ _ (soft_of X8.out)).trans (if_pos rfl)
     refine bodyPost_ret (results_row1 (t:=67) rfl Tryz.underlying67 rfl (by kernel_rfl) _ _ w.heap.size rfl hc (m_size _)) rfl ?_
     rw [EG.out]
     exact ⟨rfl,Below.setRow_ B8.out (Nat.le_refl _) _⟩
   ·have EG:=Lib.hid (HBad.out.trans ((if_neg h3).trans (if_neg h12)))
    have kn:=kind_none (k:=(k:Int)) (by omega) (by omega) (by omega) w5
    have B8:=B5
    have X8:=X5
    have rx:=rowOf_of X8.out
    have sx:=soft_of X8.out
    clear h3 h12
    go_wp2_with fail
    refine kn.mono ?_
    rintro _ _ ⟨rfl,rfl⟩
    clear kn
    go_wp2_with fail
    refine (RBad_any RD5.out.rd).mono ?_
    rintro _ _ ⟨rfl,rfl⟩
    rw [good]
    go_wp2
    have hc:rowOf (World.setRow _ w.heap.size (Msg.cells Msg.zero)) w.heap.size=Msg.cells Msg.zero:=(rowOf_setRow _ _ _ _ (soft_of X8.out)).trans (if_pos rfl)
    refine bodyPost_ret (results_row1 (t:=67) rfl Tryz.underlying67 rfl (by kernel_rfl) _ _ w.heap.size rfl hc (m_size _)) rfl ?_
    rw [EG.out]
    exact ⟨rfl,Below.setRow_ B8.out (Nat.le_refl _) _⟩
 ·have EG:gM k i s2=(endR s2,Msg.zero):=if_pos hbad
  have bad:(!(s2.2 == 0))=true:=by rw [Bool.not_eq_true',beq_eq_false_iff_ne];exact hbad
  go_wp2_with fail
  refine (kind_some _ _).mono ?_
  rintro _ w6 ⟨⟨x,rfl⟩,hb6⟩
  have RD6:=Lib.hid (RD5.out.keep (Nat.le_refl _) hb6).rd
  have B6:=Lib.hid (B5.out.trans (hb6.mono B5.out.size))
  have x6:=(hb6.block w.heap.size (Array.getElem?_eq_some_iff.1 X5.out).1).trans X5.out
  have rx:=rowOf_of x6
  have sx:=soft_of x6
  have X6:=Lib.hid x6
  clear hb6 x6 rm hbad
  go_wp2_with fail
  refine (RBad_any RD6.out).mono ?_
  rintro _ _ ⟨rfl,rfl⟩
  rw [bad]
  go_wp2_with fail
  refine (End_any RD6.out).mono ?_
  rintro _ _ ⟨rfl,rfl⟩
  have EGH:=Lib.hid EG
  clear EG bad
  go_wp2
  have hc:rowOf (World.setRow _ w.heap.size Msg.zero.cells) w.heap.size=Msg.zero.cells:=(rowOf_setRow _ _ _ _ (soft_of X6.out)).trans (if_pos rfl)
  refine bodyPost_ret (results_row1 (t:=67) rfl Tryz.underlying67 rfl (by kernel_rfl) _ _ w.heap.size rfl hc (m_size _)) rfl ?_
  rw [EGH.out]
  exact ⟨rfl,Below.setRow_ B6.out (Nat.le_refl _) _⟩
end Go.Proofs.YtjkfondgacjpnaaGreatDoor
namespace Go.Proofs.YtjkfondgacjpnaaGreatDoor
open Go.RowKit
open Sx (MapIs getL putL KeyT keyInt Turns Foot)
set_option maxRecDepth 100000
section
variable {P:Program}
theorem lookup_ok {t kt et:TypeId} {ok:Value→Prop} (hu:P.underlying t=some (.map kt et)) (hk:KeyT P kt ok) {w:World} {r:Nat} {es:Array MapEntry} {clock:Nat} (h2:w.heap[r]?=some (.map es clock)) {k u:Value} {l:List (Value × Value)} (hM:MapIs (prs es) l) (hok:ok k) (hes:∀ e ∈ es.toList,ok e.key) (hf:getL l k=some u):
  (Instr.lookup t (.map (some r)) k false).run P w=.ok u w:=by
 have hget:=MapKept.run_getObj_map (P:=P) h2
 have hfi:=hk.find k es.toList w hok hes
 have hM':MapIs (es.toList.map fun e=>(e.key,e.val)) (l.map fun p=>(p.1,id p.2)):=by rw [show l.map (fun p=>(p.1,id p.2))=l from List.map_id _];exact hM
 have hfind:=Sx.mapIs_find hM' k
 rw [hf] at hfind
 cases hq:Sx.findIx k es.toList 0 with
 | none=>rw [hq] at hfind;cases hfind
 | some p=>
  obtain ⟨j,u'⟩:=p
  rw [hq] at hfind hfi
  have:u'=u:=by simpa using hfind
  subst this
  simp only [Instr.lookup,Sem.run_bind,run_underlying hu,Result.andThen_ok,hget,Sem.run_pure,hk.chk es.isEmpty k w hok,hfi]
  rfl
theorem lookup_no {t kt et:TypeId} {ok:Value→Prop} (hu:P.underlying t=some (.map kt et)) (hk:KeyT P kt ok) {i:TypeInfo} {z:Value} (hi:P.info? et=some i) (hz:i.zero=some z) {w:World} {r:Nat} {es:Array MapEntry} {clock:Nat} (h2:w.heap[r]?=some (.map es clock)) {k:Value} {l:List (Value × Value)} (hM:MapIs (prs es) l) (hok:ok k) (hes:∀ e ∈ es.toList,ok e.key) (hf:getL l k=none):
  (Instr.lookup t (.map (some r)) k false).run P w=.ok z w:=by
 have hget:=MapKept.run_getObj_map (P:=P) h2
 have hfi:=hk.find k es.toList w hok hes
 have hM':MapIs (es.toList.map fun e=>(e.key,e.val)) (l.map fun p=>(p.1,id p.2)):=by rw [show l.map (fun p=>(p.1,id p.2))=l from List.map_id _];exact hM
 have hfind:=Sx.mapIs_find hM' k
 rw [hf] at hfind
 have hzr:∀ w,(zeroValue et).run P w=.ok z w:=fun w=>by simp [zeroValue,typeInfo,hi,hz]
 cases hq:Sx.findIx k es.toList 0 with
 | some p=>rw [hq] at hfind;cases hfind
 | none=>
  rw [hq] at hfi
  simp only [Instr.lookup,Sem.run_bind,run_underlying hu,Result.andThen_ok,hget,Sem.run_pure,hk.chk es.isEmpty k w hok,hfi,hzr]
  rfl
end
structure En where
 b:Nat
 m:Nat
 s:Sw
def En.pt (e:En):Value:=.pointer (some ⟨e.b,0,none⟩)
def Sw.ent (s:Sw) (m:Nat):Array Value:=(s.list ++ [Value.map (some m)]).toArray
structure EntAt (w:World) (e:En):Prop where
 row:w.heap[e.b]?=some (.cells (e.s.ent e.m) 148)
 map:w.heap[e.m]?=some (.map #[] 0)
structure BookAt (w:World) (bk mb:Nat) (M:List (Int × En)):Prop where
 ob:w.heap[bk]?=some (.cells #[.map (some mb)] 145)
 mp:∃ es c,w.heap[mb]?=some (.map es c)∧MapIs (prs es) (encA En.pt M)∧MapKept.Stamped es c
 en:∀ p ∈ M,EntAt w p.2∧p.2.m ≠ mb
 inj:∀ p ∈ M,∀ q ∈ M,p.2.b=q.2.b→p=q
def FootB (bk mb:Nat) (M:List (Int × En)):Foot:=fun i _=>i=bk ∨ i=mb ∨ ∃ p ∈ M,i=p.2.b ∨ i=p.2.m
theorem EntAt.lt {w:World} {e:En} (h:EntAt w e):e.b < w.heap.size∧e.m < w.heap.size:=⟨(Array.getElem?_eq_some_iff.1 h.row).1,(Array.getElem?_eq_some_iff.1 h.map).1⟩
theorem BookAt.lt {w:World} {bk mb:Nat} {M:List (Int × En)} (h:BookAt w bk mb M) {i x:Nat} (hf:FootB bk mb M i x):i < w.heap.size:=by
 rcases hf with rfl | rfl | ⟨p,hp,rfl | rfl⟩
 ·exact (Array.getElem?_eq_some_iff.1 h.ob).1
 ·obtain ⟨es,c,e,_⟩:=h.mp
  exact (Array.getElem?_eq_some_iff.1 e).1
 ·exact (h.en p hp).1.lt.1
 ·exact (h.en p hp).1.lt.2
theorem BookAt.keepB {w w':World} {bk mb:Nat} {M:List (Int × En)} (h:BookAt w bk mb M) (hk:∀ i x,FootB bk mb M i x→w'.heap[i]?=w.heap[i]?):BookAt w' bk mb M:=by
 refine ⟨(hk bk 0 (.inl rfl)).trans h.ob,?_,fun p hp=>⟨⟨(hk _ 0 (.inr (.inr ⟨p,hp,.inl rfl⟩))).trans (h.en p hp).1.row,(hk _ 0 (.inr (.inr ⟨p,hp,.inr rfl⟩))).trans (h.en p hp).1.map⟩,(h.en p hp).2⟩,h.inj⟩
 obtain ⟨es,c,e,r⟩:=h.mp
 exact ⟨es,c,(hk mb 0 (.inr (.inl rfl))).trans e,r⟩
theorem BookAt.below {w w':World} {bk mb:Nat} {M:List (Int × En)} (h:BookAt w bk mb M) (hw:Below w.heap.size w w'):BookAt w' bk mb M:=h.keepB fun i _ hi=>hw.block i (h.lt hi)
theorem e_size (s:Sw) (m:Nat):(s.ent m).size=76:=by simp [Sw.ent,s_len]
theorem e_s (s:Sw) (m:Nat):sub (s.ent m) 0 75=s.cells:=sub_at [] s.list [Value.map (some m)] rfl (s_len s) (by simp [Sw.ent])
theorem e_one (s:Sw) (m:Nat):ones (s.ent m)=true:=by
 have:=s_one s
 unfold ones Sw.cells at this
 unfold ones Sw.ent
 rw [List.all_toArray] at this ⊢
 rw [List.all_append,this]
 rfl
theorem zero112:∃ i,Tryz.prog.info? 143=some i∧i.zero=some (.pointer none):=by
 obtain ⟨i,h1,h2,_,_⟩:=info_parts (show (Tryz.prog.info? 143).map (fun i=>(i.zero,i.size,i.bytes))=some (some (.pointer none),1,8) by kernel_rfl)
 exact ⟨i,h1,h2⟩
def ptO:Option En→Value
 | some e=>e.pt
 | none=>.pointer none
def swO:Option En→Sw
 | some e=>e.s
 | none=>Sw.zero
theorem BookAt.look {w:World} {bk mb:Nat} {M:List (Int × En)} (h:BookAt w bk mb M) (k:Int):(Instr.lookup 142 (.map (some mb)) (.int .i64 k) false).run Tryz.prog w=.ok (ptO (getA M k)) w∧(Instr.lookup 142 (.map (some mb)) (.int .i64 k) true).run Tryz.prog w=.ok (.tuple #[ptO (getA M k),.bool (getA M k).isSome]) w:=by
 obtain ⟨es,c,e,h1,h2⟩:=h.mp
 have hg:=getL_enc En.pt M k
 have hk:=int_keys h1 (encA_int En.pt M)
 cases hq:getA M k with
 | some x=>
  rw [hq] at hg
  exact ⟨lookup_ok Tryz.underlying142 (keyInt Tryz.underlying3) e h1 ⟨k,rfl⟩ hk hg,Sx.run_lookup_ok Tryz.underlying142 (keyInt Tryz.underlying3) e h1 ⟨k,rfl⟩ hk hg⟩
 | none=>
  rw [hq] at hg
  obtain ⟨i,i1,i2⟩:=zero112
  exact ⟨lookup_no Tryz.underlying142 (keyInt Tryz.underlying3) i1 i2 e h1 ⟨k,rfl⟩ hk hg,Sx.run_lookup_no Tryz.underlying142 (keyInt Tryz.underlying3) i1 i2 e h1 ⟨k,rfl⟩ hk hg⟩
attribute [local go_sem] Sx.run_mk
theorem New_book (w:World):Calls Tryz.prog 85 #[] w fun e w'=>∃ bk mb,e=.returned (.pointer (some ⟨bk,0,none⟩))∧BookAt w' bk mb []∧Below w.heap.size w w'∧w.heap.size ≤ bk∧w.heap.size ≤ mb:=by
 go_enter Tryz.func85,Tryz.ntmps85
 go_wp2
 go_ret
 have s1:(w.alloc (.map #[] 0)).heap.size=w.heap.size + 1:=by simp
 have b1:Below w.heap.size w (w.alloc (.map #[] 0)):=(Below.refl _ w).alloc (Nat.le_refl _) _
 refine ⟨w.heap.size + 1,w.heap.size,rfl,⟨?_,⟨#[],0,?_,⟨List.Perm.refl _,List.nodup_nil⟩,MapKept.stamped_empty _⟩,fun p hp=>(by cases hp),fun p hp=>(by cases hp)⟩,b1.alloc (by rw [s1];omega) _,by omega,Nat.le_refl _⟩
 ·have:=heap_alloc_new (w.alloc (.map #[] 0)) (.cells #[.map (some w.heap.size)] 145)
  rw [s1] at this
  exact this
 ·rw [(MapKept.heap_alloc _ _).2 _ (by rw [s1];omega)]
  exact heap_alloc_new w _
attribute [local go_sem ↓] rowOf_cell
attribute [local go_sem] rowOf_alloc soft_alloc rowOf_drew soft_drew rowOf_setRow soft_setRow e_size e_s e_one
set_option maxHeartbeats 1000000 in
theorem Swap_any {w:World} {bk mb:Nat} {M:List (Int × En)} (h:BookAt w bk mb M) (k:Int):Calls Tryz.prog 34 #[.pointer (some ⟨bk,0,none⟩),.int .i64 k] w fun e w'=>e=.returned (.tuple #[.agg (swO (getA M k)).cells,.bool (getA M k).isSome])∧Below w.heap.size w w':=by
 have H:=Lib.hid h
 have HQ:∀ q,getA M k=some q→EntAt w q:=fun q hq=>(h.en _ (getA_mem hq)).1
 generalize hr:getA M k=r
 rw [hr] at HQ
 have HR:=Lib.hid hr
 clear h hr
 cases r with
 | none=>
  go_enter Tryz.func34,Tryz.ntmps34
  go_upto_region 1 with (fail)
  have bx:=Bx.new w (Sw.zero.cells) 85;generalize w.alloc (.cells (Sw.zero.cells) 85)=W at bx ⊢;have rx:=bx.rowOf;have sx:=bx.soft;have BX:=Lib.hid bx;clear bx
  have hB:=H.out.below BX.out.below
  have r0:=rowOf_of hB.ob
  have L:=(hB.look k).1
  rw [HR.out] at L
  replace L:(Instr.lookup 142 (.map (some mb)) (.int .i64 k) false).run Tryz.prog W=.ok (.pointer none) W:=L
  clear hB
  go_wp2
  have b2:=Below.setRow_ BX.out.below (Nat.le_refl _) Sw.zero.cells
  have hc:rowOf (W.setRow w.heap.size Sw.zero.cells) w.heap.size=Sw.zero.cells:=(rowOf_setRow _ _ _ _ sx).trans (if_pos rfl)
  refine bodyPost_ret (results_row1 (t:=85) rfl Tryz.underlying85 rfl (by kernel_rfl) _ _ w.heap.size rfl hc (s_size _)) rfl ?_
  exact ⟨rfl,b2⟩
 | some q=>
  have E:=HQ q rfl
  have HE:=Lib.hid E
  clear HQ E
  go_enter Tryz.func34,Tryz.ntmps34
  go_upto_region 1 with (fail)
  have bx:=Bx.new w (Sw.zero.cells) 85;generalize w.alloc (.cells (Sw.zero.cells) 85)=W at bx ⊢;have rx:=bx.rowOf;have sx:=bx.soft;have BX:=Lib.hid bx;clear bx
  have hB:=H.out.below BX.out.below
  have r0:=rowOf_of hB.ob
  have L:=(hB.look k).1
  rw [HR.out] at L
  replace L:(Instr.lookup 142 (.map (some mb)) (.int .i64 k) false).run Tryz.prog W=.ok (.pointer (some ⟨q.b,0,none⟩)) W:=L
  have r1:=rowOf_of ((BX.out.below.block _ HE.out.lt.1).trans HE.out.row)
  have z1:=e_s q.s q.m
  have z2:=e_size q.s q.m
  generalize q.s.ent q.m=C at r1 z1 z2
  clear hB
  go_upto_region 3 with (fail)
  clear L HR H
  go_wp2
  have b2:=Below.setRow_ BX.out.below (Nat.le_refl _) q.s.cells
  have hc:rowOf (W.setRow w.heap.size q.s.cells) w.heap.size=q.s.cells:=(rowOf_setRow _ _ _ _ sx).trans (if_pos rfl)
  refine bodyPost_ret (results_row1 (t:=85) rfl Tryz.underlying85 rfl (by kernel_rfl) _ _ w.heap.size rfl hc (s_size _)) rfl ?_
  exact ⟨rfl,b2⟩
end Go.Proofs.YtjkfondgacjpnaaGreatDoor
