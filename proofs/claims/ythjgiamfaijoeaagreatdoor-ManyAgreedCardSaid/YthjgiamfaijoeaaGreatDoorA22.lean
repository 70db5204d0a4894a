/- What is proved: parts of the walk and of the plain law. No condition but those each law names. -/
import Derived.Test.YthjgiamfaijoeaaGreatDoorA21
import Derived.Test.YthjgiamfaijoeaaGreatDoorA00
set_option linter.unusedSimpArgs false
set_option linter.unusedVariables false
namespace Go.Proofs.YthjgiamfaijoeaaGreatDoor
open Go.RowKit
set_option maxRecDepth 100000
attribute [local go_sem ↓] zad
attribute [local go_sem] zaj zal
set_option maxHeartbeats 2000000 in
theorem zqz {w:World} {B p rb:Nat} {s:RS} (hr:RdB B w p s) (hBw:B ≤ w.heap.size) (hrb:w.cell? ⟨rb,0,none⟩=some (.pointer (some ⟨p,0,none⟩))) (hrp:rb ≠ p):
  Calls Tryz.prog 321 #[.pointer (some ⟨p,0,none⟩),.func (.func 322) #[] #[.pointer (some ⟨rb,0,none⟩)]] w fun e w'=>e=.returned (.agg (rdHs s).1.cells)∧But p w w'∧RdB B w' p (rdHs s).2:=by
 obtain ⟨v,hv⟩:=hr.rd.cases
 have hpl:=hr.rd.lt
 have hb1:=zas w (.cells #[.pointer (some ⟨p,0,none⟩)] 250)
 have c1:=zcn w (.pointer (some ⟨p,0,none⟩)) 250
 have hb2:=zas (w.alloc (.cells #[.pointer (some ⟨p,0,none⟩)] 250)) (.cells Hs.zero.cells 58)
 have c1':=za3 (zac9 _) hb2 c1
 have q2:=heap_alloc_new (w.alloc (.cells #[.pointer (some ⟨p,0,none⟩)] 250)) (.cells Hs.zero.cells 58)
 have hbb:=hb1.trans (hb2.mono hb1.size)
 have hsz:((w.alloc (.cells #[.pointer (some ⟨p,0,none⟩)] 250)).alloc (.cells Hs.zero.cells 58)).heap.size=w.heap.size + 2:=by simp
 have HR:=zac8 (hr.keep (zac9 _) hbb)
 have HB:=zac8 hbb
 have HRB:=zac8 (za3 (zac9 _) hbb hrb)
 have hv2:=hv.keep (zac9 _) hbb
 have y1:=hv2.why
 rw [World.size_alloc] at q2
 have HV:=zac8 hv2
 obtain ⟨W,hW⟩:∃ W,W=(w.alloc (.cells #[.pointer (some ⟨p,0,none⟩)] 250)).alloc (.cells Hs.zero.cells 58):=⟨_,rfl⟩
 rw [← hW] at c1' q2 HR HB HRB y1 HV hsz
 have C1:=zac8 c1'
 have Q2:=zac8 q2
 have rq:=zaa q2
 have sq:=zan q2
 rw [zad] at c1' y1
 have HW:=zac8 hW
 have hne1:¬ p=w.heap.size:=by omega
 have hne2:¬ p=w.heap.size + 1:=by omega
 have hbW:But p w W.drew:=ButN.below (HB.out.drew)
 clear c1 hr hv hb1 hb2 hbb hv2 hW q2 hrb
 by_cases h0:s.2=0
 ·rw [h0] at y1
  have e1:s=(s.1,0):=by rw [← h0]
  have NA:=zac8 (ztk (B:=B) (w:=W.drew) (l:=s.1) (HRB.out) (by rw [← e1];exact HR.out.keep (zac9 _) (Below.refl _ W).drew))
  go_enter_defers Tryz.func321,Tryz.ntmps321
  go_upto_region 2 with (fail)
  rw [← HW.out]
  (refine wp_region_still_tail 9 (by kernel_rfl) (by kernel_rfl) ?_;simp only [List.take_succ_cons,List.take_zero,List.drop_succ_cons,List.drop_zero];(iterate 9 still_step);refine wpStill_nil ?_)
  go_wp2_with fail
  refine (zhz _ _).mono ?_
  rintro _ _ ⟨rfl,rfl⟩
  go_wp2_with fail
  refine NA.out.mono ?_
  rintro e w2 ⟨hb2,hm⟩
  have q1:=hb2.cell (b:=w.heap.size) (o:=0) C1.out (zac9 _) (Ne.symm hne1)
  have x2:w2.heap[w.heap.size + 1]?=some (.cells Hs.zero.cells 58):=(hb2.block (w.heap.size + 1) (by show _ < W.heap.size;omega) (Ne.symm hne2)).trans Q2.out
  have hbw2:But p w w2:=But.trans hbW hb2
  by_cases hsh:s.1.length < 32
  ·rw [if_pos hsh] at hm
   obtain ⟨rfl,v2,hv2⟩:=hm
   have ER:rdHs s=(Hs.zero,[],4):=by unfold rdHs;rw [if_neg (by simp [h0]),if_pos hsh]
   simp only []
   refine leaves_cons (f:=369) (args:=#[.pointer (some ⟨w.heap.size,0,none⟩),.pointer (some ⟨w.heap.size + 1,0,none⟩)]) (by simp) (by simp [go_sem]) ?_
   refine (zgl w.heap.size (w.heap.size + 1) 4 [] w2 q1 hv2 x2 hne2).mono ?_
   rintro e u' w'' ⟨rfl,rfl,hw''⟩
   obtain ⟨g1,g2,g3⟩:=zo5 hbw2 hv2 x2 hne2 (Nat.le_succ _) hw''
   rw [ER]
   refine ⟨_,za5 (t:=58) rfl Tryz.underlying58 rfl (by kernel_rfl) _ _ (w.heap.size + 1) rfl g3 (zdl _),rfl,g1,g2.nb B⟩
  ·rw [if_neg hsh] at hm
   obtain ⟨rfl,hrd2⟩:=hm
   have ER:rdHs s=(hs32 s.1,s.1.drop 32,0):=by unfold rdHs;rw [if_neg (by simp [h0]),if_neg hsh]
   have rq2:=zaa x2
   have sq2:=zan x2
   have HRd:=zac8 hrd2
   have HBw:=zac8 hbw2
   have X2:=zac8 x2
   have ER:=zac8 ER
   clear hb2 hrd2 hbw2 c1' y1 HV hbW rq sq x2 q1 e1 NA
   go_wp2_with fail
   refine leaves_cons (f:=369) (args:=#[.pointer (some ⟨w.heap.size,0,none⟩),.pointer (some ⟨w.heap.size + 1,0,none⟩)]) (by simp) (by simp [go_sem]) ?_
   refine (zlh _ _ _).mono ?_
   rintro e u' w'' ⟨rfl,rfl,rfl⟩
   rw [ER.out]
   have hself:ButN w2.heap.size (w.heap.size + 1) w2 (w2.setRow (w.heap.size + 1) (hs32 s.1).cells):=ButN.refl.row (.inl rfl)
   have hc:rowOf (w2.setRow (w.heap.size + 1) (hs32 s.1).cells) (w.heap.size + 1)=(hs32 s.1).cells:=by rw [zab _ _ _ _ (zan X2.out),if_pos rfl]
   obtain ⟨ao,n,c,r1,r2,r3⟩:=HRd.out
   refine ⟨_,za5 (t:=58) rfl Tryz.underlying58 rfl (by kernel_rfl) _ _ (w.heap.size + 1) rfl hc (zdl _),rfl,ButN.row HBw.out (.inr (Nat.le_succ _)),ao,n,c,hself.rdr r1 (zac9 _) hne2,hself.sl r2 (zac9 _) ?_,r3⟩
   intro b4 o4 e4 hn4
   have:=r3 b4 o4 e4 hn4
   omega
 ·have k1:(s.2 == 0)=false:=by rw [beq_eq_false_iff_ne];exact h0
  have e1:rdHs s=(Hs.zero,[],s.2):=by unfold rdHs;rw [if_pos h0]
  go_enter_defers Tryz.func321,Tryz.ntmps321
  go_upto_region 2 with (fail)
  rw [← HW.out]
  (refine wp_region_still_tail 9 (by kernel_rfl) (by kernel_rfl) ?_;simp only [List.take_succ_cons,List.take_zero,List.drop_succ_cons,List.drop_zero];(iterate 9 still_step);refine wpStill_nil ?_)
  go_wp2_with fail
  refine (zfl _ _).mono ?_
  rintro _ _ ⟨rfl,rfl⟩
  simp only []
  refine leaves_cons (f:=369) (args:=#[.pointer (some ⟨w.heap.size,0,none⟩),.pointer (some ⟨w.heap.size + 1,0,none⟩)]) (by simp) (by simp [go_sem]) ?_
  refine (zgl w.heap.size (w.heap.size + 1) s.2 [] W.drew C1.out (HV.out.keep (zac9 _) (Below.refl _ W).drew) Q2.out hne2).mono ?_
  rintro e u' w'' ⟨rfl,rfl,hw''⟩
  obtain ⟨g1,g2,g3⟩:=zo5 hbW (HV.out.keep (zac9 _) (Below.refl _ W).drew) Q2.out hne2 (Nat.le_succ _) hw''
  rw [e1]
  refine ⟨_,za5 (t:=58) rfl Tryz.underlying58 rfl (by kernel_rfl) _ _ (w.heap.size + 1) rfl g3 (zdl _),rfl,g1,g2.nb B⟩
theorem zli {w:World} {B p:Nat} {s:RS} (hr:RdB B w p s) (hBw:B ≤ w.heap.size):
  Calls Tryz.prog 256 #[.pointer (some ⟨p,0,none⟩)] w fun e w'=>e=.returned (.agg (rdHs s).1.cells)∧But p w w'∧RdB B w' p (rdHs s).2:=by
 have hpl:=hr.rd.lt
 have hb1:=zas w (.cells #[.pointer (some ⟨p,0,none⟩)] 250)
 have c1:=zcn w (.pointer (some ⟨p,0,none⟩)) 250
 have hb2:=zas (w.alloc (.cells #[.pointer (some ⟨p,0,none⟩)] 250)) (.cells Hs.zero.cells 58)
 have c1':=za3 (zac9 _) hb2 c1
 have q2:=heap_alloc_new (w.alloc (.cells #[.pointer (some ⟨p,0,none⟩)] 250)) (.cells Hs.zero.cells 58)
 have hbb:=hb1.trans (hb2.mono hb1.size)
 have hsz:((w.alloc (.cells #[.pointer (some ⟨p,0,none⟩)] 250)).alloc (.cells Hs.zero.cells 58)).heap.size=w.heap.size + 2:=by simp
 have HR:=zac8 (zqz (B:=B) (hr.keep (zac9 _) hbb) (by omega) c1' (by omega))
 have HB:=zac8 hbb
 rw [World.size_alloc] at q2
 obtain ⟨W,hW⟩:∃ W,W=(w.alloc (.cells #[.pointer (some ⟨p,0,none⟩)] 250)).alloc (.cells Hs.zero.cells 58):=⟨_,rfl⟩
 rw [← hW] at c1' q2 HR HB hsz
 have Q2:=zac8 q2
 have HW:=zac8 hW
 have hne2:¬ p=w.heap.size + 1:=by omega
 rw [zad] at c1'
 clear c1 hr hb1 hb2 hbb hW q2
 go_enter Tryz.func256,Tryz.ntmps256
 go_upto_region 1 with (fail)
 rw [← HW.out]
 go_wp2_with fail
 refine HR.out.mono ?_
 rintro _ w2 ⟨rfl,hb2,hr2⟩
 have x2:w2.heap[w.heap.size + 1]?=some (.cells Hs.zero.cells 58):=(hb2.block (w.heap.size + 1) (by show _ < W.heap.size;omega) (Ne.symm hne2)).trans Q2.out
 have rq2:=zaa x2
 have sq2:=zan x2
 have H2:=zac8 (And.intro hb2 (And.intro hr2 x2))
 clear hb2 hr2 x2 c1' HR
 go_wp2_with fail
 obtain ⟨hb2,⟨ao,n,c,r1,r2,r3⟩,x2⟩:=H2.out
 have hself:ButN w2.heap.size (w.heap.size + 1) w2 (w2.setRow (w.heap.size + 1) (rdHs s).1.cells):=ButN.refl.row (.inl rfl)
 have hc:rowOf (w2.setRow (w.heap.size + 1) (rdHs s).1.cells) (w.heap.size + 1)=(rdHs s).1.cells:=by rw [zab _ _ _ _ (zan x2),if_pos rfl]
 refine bodyPost_ret (za5 (t:=58) rfl Tryz.underlying58 rfl (by kernel_rfl) _ _ (w.heap.size + 1) rfl hc (zdl _)) rfl ?_
 refine ⟨rfl,ButN.row (ButN.trans (ButN.below HB.out) (hb2.mono (by omega))) (.inr (Nat.le_succ _)),ao,n,c,hself.rdr r1 (zac9 _) hne2,hself.sl r2 (zac9 _) ?_,r3⟩
 intro b4 o4 e4 hn4
 have:=r3 b4 o4 e4 hn4
 omega
end Go.Proofs.YthjgiamfaijoeaaGreatDoor
namespace Go.Proofs.YthjgiamfaijoeaaGreatDoor
open Go.RowKit
set_option maxRecDepth 100000
attribute [local go_sem ↓] zad
attribute [local go_sem] zaf zai zaj zal zac zak zab zah zae
structure Rs (s:RS):Prop where
 small:Small s.1
 len:s.1.length < 1000000
theorem Rs.nil (k:Int):Rs ([],k):=⟨fun x h=>(by cases h),(by show 0 < _;decide)⟩
theorem Rs.int {s:RS} (h:Rs s):Rs (rdI s).2:=by
 unfold rdI
 split
 ·exact Rs.nil _
 ·cases hr:zf6 s.1 with
  | error e=>exact Rs.nil _
  | ok ur=>
   obtain ⟨u,r⟩:=ur
   obtain ⟨h1,h2,h3⟩:=zsx hr
   exact ⟨fun x hx=>h.small x (h3 x hx),Nat.lt_of_le_of_lt h1 h.len⟩
def MB (w:World) (b:Nat) (m:Msg):Prop:=w.heap[b]?=some (.cells m.cells 118)
theorem MB.lt {w:World} {b:Nat} {m:Msg} (h:MB w b m):b < w.heap.size:=(zac7 h).1
theorem MB.row {w:World} {b:Nat} {m:Msg} (h:MB w b m):rowOf w b=m.cells:=zaa h
theorem MB.soft {w:World} {b:Nat} {m:Msg} (h:MB w b m):soft w b=true:=zan h
theorem MB.but {w w':World} {b p:Nat} {m:Msg} (h:MB w b m) (hb:But p w w') (hp:b ≠ p):MB w' b m:=(hb.block b h.lt hp).trans h
theorem MB.set {w:World} {b i:Nat} {v:Value} {m m':Msg} (h:MB w b m) (e:m.cells.setIfInBounds i v=m'.cells):MB (w.setCell ⟨b,i,none⟩ v) b m':=by
 unfold MB at *
 rw [zag,if_pos rfl,h]
 simp only [Option.map_some,e]
theorem RdB.other {B N b p:Nat} {w w':World} {s:RS} (h:RdB B w p s) (hb:ButN N b w w') (hN:w.heap.size ≤ N) (hp:p ≠ b) (hB:B ≤ b):RdB B w' p s:=by
 obtain ⟨ao,n,c,h1,h2,h3⟩:=h
 exact ⟨ao,n,c,hb.rdr h1 hN hp,hb.sl h2 hN (fun b' o e hn=>by have:=h3 b' o e hn;omega),h3⟩
def But2 (p b:Nat) (w w':World):Prop:=∀ B,B ≤ p→B ≤ b→B ≤ w.heap.size→Below B w w'
theorem znh {w:World} (hf:Forms w) {b p:Nat} {s:RS} {m:Msg} (hp2:p ≠ 0) (hr:RdB b w p s) (hpb:p ≠ b) (hm:MB w b m) (hs:Rs s):
  Calls Tryz.prog 225 #[.pointer (some ⟨p,0,none⟩),.pointer (some ⟨b,0,none⟩)] w fun e w'=>e=.returned (.tuple #[])∧But2 p b w w'∧RdB b w' p (rdI s).2∧MB w' b { m with c:=(rdI s).1 }:=by
 have R:=zac8 (zco hf hp2 hr hs.small hs.len)
 have HM:=zac8 hm
 clear hf hr hm
 go_enter Tryz.func225,Tryz.ntmps225
 go_wp2_with fail
 refine R.out.mono ?_
 rintro _ w2 ⟨rfl,hb2,hr2⟩
 have hm2:=HM.out.but hb2 (Ne.symm hpb)
 have rx:=hm2.row
 have sx:=hm2.soft
 have H:=zac8 (And.intro hb2 (And.intro hr2 hm2))
 clear hb2 hr2 hm2 R
 go_wp2
 obtain ⟨hb2,hr2,hm2⟩:=H.out
 go_end0
 refine ⟨rfl,fun B h1 h2 h3=>(hb2.to h3 h1).setCell h2 _,hr2.other (ButN.refl.set 2 _) (zac9 _) hpb (zac9 _),hm2.set (zy6 _ _)⟩
theorem Forms.low {w w':World} {B:Nat} (hf:Forms w) (hb:Below B w w') (h:0 < B):Forms w':=fun j v hj=>(hb.cell (p:=⟨0,j,none⟩) h).trans (hf j v hj)
theorem But2.forms {w w':World} {p b:Nat} (h:But2 p b w w') (hf:Forms w) (hp:0 < p) (hb:0 < b):Forms w':=by
 have h2:0 < w.heap.size:=World.block_lt_of_cell? w ⟨0,0,none⟩ (hf 0 _ rfl)
 exact hf.low (h 1 (by omega) (by omega) (by omega)) (by decide)
theorem But2.refl (p b:Nat) (w:World):But2 p b w w:=fun B _ _ _=>Below.refl B w
theorem But2.trans {w w' w2:World} {p b:Nat} (h:But2 p b w w') (k:But2 p b w' w2):But2 p b w w2:=fun B h1 h2 h3=>(h B h1 h2 h3).trans (k B h1 h2 (Nat.le_trans h3 (h B h1 h2 h3).size))
theorem But2.but {w w':World} {p b:Nat} (h:But p w w'):But2 p b w w':=fun B h1 _ h3=>h.to h3 h1
theorem But2.set {w w':World} {p b:Nat} (h:But2 p b w w') (i:Nat) (v:Value):But2 p b w (w'.setCell ⟨b,i,none⟩ v):=fun B h1 h2 h3=>(h B h1 h2 h3).setCell h2 _
theorem But2.below {w w':World} {p b:Nat} (h:Below w.heap.size w w'):But2 p b w w':=fun _ _ _ h3=>h.mono h3
def zde (s:RS):Lg × RS:=(⟨(rdI s).1,(rdI (rdI s).2).1,(rdI (rdI (rdI s).2).2).1⟩,(rdI (rdI (rdI s).2).2).2)
theorem Rs.leg {s:RS} (h:Rs s):Rs (zde s).2:=h.int.int.int
def mAt (m:Msg) (s:RS):Nat→Msg × RS
 | 0=>(m,s)
 | 1=>({ m with p:=(zde s).1 },(zde s).2)
 | _=>({ m with p:=(zde s).1,g:=(zde (zde s).2).1 },(zde (zde s).2).2)
set_option maxHeartbeats 2000000 in
theorem zni {w:World} (hf:Forms w) {b p:Nat} {s:RS} {m:Msg} (hp2:0 < p) (hb2:0 < b) (hr:RdB b w p s) (hpb:p ≠ b) (hm:MB w b m) (hs:Rs s):
  Calls Tryz.prog 222 #[.pointer (some ⟨p,0,none⟩),.pointer (some ⟨b,0,none⟩)] w fun e w'=>e=.returned (.tuple #[])∧But2 p b w w'∧RdB b w' p (rdHs (mAt m s 2).2).2∧MB w' b { (mAt m s 2).1 with h:=(rdHs (mAt m s 2).2).1 }:=by
 have HF:=zac8 hf
 have HR:=zac8 hr
 have HM:=zac8 hm
 have HS:=zac8 hs
 clear hf hr hm hs
 go_enter Tryz.func222,Tryz.ntmps222
 go_wp2_with fail
 go_region
 go_wp2_with fail
 have hpl:=HR.out.rd.lt
 have hbl:=HM.out.lt
 have hb0:Below w.heap.size w (w.alloc (.cells #[.pointer (some ⟨b,3,none⟩),.pointer (some ⟨b,6,none⟩)] 255)).drew:=(zas w _).drew
 have hx0:(w.alloc (.cells #[.pointer (some ⟨b,3,none⟩),.pointer (some ⟨b,6,none⟩)] 255)).drew.heap[w.heap.size]?=some (.cells #[.pointer (some ⟨b,3,none⟩),.pointer (some ⟨b,6,none⟩)] 255):=heap_alloc_new w _
 generalize (w.alloc (.cells #[.pointer (some ⟨b,3,none⟩),.pointer (some ⟨b,6,none⟩)] 255)).drew=V at hb0 hx0 ⊢
 have HB0:=zac8 hb0
 have HX0:=zac8 hx0
 clear hb0 hx0
 go_loopw [14] (fun v14 wr=>∃ j:Nat,j ≤ 2∧v14=.int .i64 j∧But2 p b w wr∧RdB b wr p (mAt m s j).2∧MB wr b (mAt m s j).1∧wr.heap[w.heap.size]?=some (.cells #[.pointer (some ⟨b,3,none⟩),.pointer (some ⟨b,6,none⟩)] 255)) (fun v14 _=>2 - (intOf v14).toNat)
 case atStart=>exact ⟨0,by omega,rfl,But2.below HB0.out,HR.out.keep (zac9 _) HB0.out,(HB0.out.block b hbl).trans HM.out,HX0.out⟩
 case round=>
  obtain ⟨j,hj,rfl,hbw,hrw,hmw,hx⟩:=hrel
  have HBW:=zac8 hbw
  have HRW:=zac8 hrw
  have HMW:=zac8 hmw
  have HX:=zac8 hx
  have FW:=zac8 (hbw.forms HF.out hp2 hb2)
  have HS0:=zac8 HS.out
  have HS1:=zac8 HS.out.leg
  have rs:=zaa hx
  have hsz:=(zac7 hx).1
  clear hbw hrw hmw hx
  match j,hj with
  | 0,_=>
   have R1:=zac8 (zco FW.out (by omega:p ≠ 0) (show RdB b wr p s from HRW.out) HS0.out.small HS0.out.len)
   go_wp2_with fail
   refine R1.out.mono ?_
   rintro _ w1 ⟨rfl,hb1,hr1⟩
   have hm1:=MB.but (show MB wr b (m) from HMW.out) hb1 (Ne.symm hpb)
   have f1:=hb1.forms FW.out (zac9 _) (by omega)
   have R2:=zac8 (zco f1 (by omega:p ≠ 0) hr1 HS0.out.int.small HS0.out.int.len)
   have B1:=zac8 (HBW.out.trans (But2.but hb1))
   have X1:=zac8 ((hb1.block w.heap.size (by omega) (by omega)).trans HX.out)
   have M1:=zac8 hm1
   have F1:=zac8 f1
   have Z1:=hb1.size
   clear hb1 hr1 hm1 f1 R1 rs
   go_wp2_with fail
   refine R2.out.mono ?_
   rintro _ w2 ⟨rfl,hb2,hr2⟩
   have hm2:=M1.out.but hb2 (Ne.symm hpb)
   have f2:=hb2.forms F1.out (zac9 _) (by omega)
   have R3:=zac8 (zco f2 (by omega:p ≠ 0) hr2 HS0.out.int.int.small HS0.out.int.int.len)
   have B2:=zac8 (B1.out.trans (But2.but hb2))
   have X2:=zac8 ((hb2.block w.heap.size (by omega) (by omega)).trans X1.out)
   have M2:=zac8 hm2
   have F2:=zac8 f2
   have Z2:=hb2.size
   clear hb2 hr2 hm2 f2 R2 B1 X1 M1 F1
   go_wp2_with fail
   refine R3.out.mono ?_
   rintro _ w3 ⟨rfl,hb3,hr3⟩
   have hm3:=M2.out.but hb3 (Ne.symm hpb)
   have B3:=zac8 (B2.out.trans (But2.but hb3))
   have X3:=zac8 ((hb3.block w.heap.size (by omega) (by omega)).trans X2.out)
   have M3:=zac8 hm3
   have RD3:=zac8 hr3
   have rx:=hm3.row
   have sx:=hm3.soft
   have Z3:=hb3.size
   clear hb3 hr3 hm3 R3 B2 X2 M2 F2
   go_wp2
   have h5:=((But2.refl p b w3).set 3 (.int .i64 (rdI s).1)).set 4 (.int .i64 (rdI (rdI s).2).1) |>.set 5 (.int .i64 (rdI (rdI (rdI s).2).2).1)
   have hq:ButN w3.heap.size b w3 (((w3.setCell ⟨b,3,none⟩ (.int .i64 (rdI s).1)).setCell ⟨b,4,none⟩ (.int .i64 (rdI (rdI s).2).1)).setCell ⟨b,5,none⟩ (.int .i64 (rdI (rdI (rdI s).2).2).1)):=((ButN.refl.set 3 _).set 4 _).set 5 _
   have X4:=zac8 ((hq.block w.heap.size (by omega) (by omega)).trans X3.out)
   have B4:=zac8 (B3.out.trans h5)
   have RD4:=zac8 (RD3.out.other hq (zac9 _) hpb (zac9 _))
   have M4:=zac8 (show MB (((w3.setCell ⟨b,3,none⟩ (.int .i64 (rdI s).1)).setCell ⟨b,4,none⟩ (.int .i64 (rdI (rdI s).2).1)).setCell ⟨b,5,none⟩ (.int .i64 (rdI (rdI (rdI s).2).2).1)) b (mAt m s 1).1 from ((M3.out.set (zy7 _ _)).set (zy8 _ _)).set (zy9 _ _))
   clear h5 hq rx sx X3 B3 RD3 M3
   go_roundw
   case rel=>exact ⟨0 + 1,by omega,rfl,B4.out,RD4.out,M4.out,X4.out⟩
   case measure=>simp [intOf]
  | 1,_=>
   have R1:=zac8 (zco FW.out (by omega:p ≠ 0) (show RdB b wr p (zde s).2 from HRW.out) HS1.out.small HS1.out.len)
   go_wp2_with fail
   refine R1.out.mono ?_
   rintro _ w1 ⟨rfl,hb1,hr1⟩
   have hm1:=MB.but (show MB wr b ({ m with p:=(zde s).1 }) from HMW.out) hb1 (Ne.symm hpb)
   have f1:=hb1.forms FW.out (zac9 _) (by omega)
   have R2:=zac8 (zco f1 (by omega:p ≠ 0) hr1 HS1.out.int.small HS1.out.int.len)
   have B1:=zac8 (HBW.out.trans (But2.but hb1))
   have X1:=zac8 ((hb1.block w.heap.size (by omega) (by omega)).trans HX.out)
   have M1:=zac8 hm1
   have F1:=zac8 f1
   have Z1:=hb1.size
   clear hb1 hr1 hm1 f1 R1 rs
   go_wp2_with fail
   refine R2.out.mono ?_
   rintro _ w2 ⟨rfl,hb2,hr2⟩
   have hm2:=M1.out.but hb2 (Ne.symm hpb)
   have f2:=hb2.forms F1.out (zac9 _) (by omega)
   have R3:=zac8 (zco f2 (by omega:p ≠ 0) hr2 HS1.out.int.int.small HS1.out.int.int.len)
   have B2:=zac8 (B1.out.trans (But2.but hb2))
   have X2:=zac8 ((hb2.block w.heap.size (by omega) (by omega)).trans X1.out)
   have M2:=zac8 hm2
   have F2:=zac8 f2
   have Z2:=hb2.size
   clear hb2 hr2 hm2 f2 R2 B1 X1 M1 F1
   go_wp2_with fail
   refine R3.out.mono ?_
   rintro _ w3 ⟨rfl,hb3,hr3⟩
   have hm3:=M2.out.but hb3 (Ne.symm hpb)
   have B3:=zac8 (B2.out.trans (But2.but hb3))
   have X3:=zac8 ((hb3.block w.heap.size (by omega) (by omega)).trans X2.out)
   have M3:=zac8 hm3
   have RD3:=zac8 hr3
   have rx:=hm3.row
   have sx:=hm3.soft
   have Z3:=hb3.size
   clear hb3 hr3 hm3 R3 B2 X2 M2 F2
   go_wp2
   have h5:=((But2.refl p b w3).set 6 (.int .i64 (rdI (zde s).2).1)).set 7 (.int .i64 (rdI (rdI (zde s).2).2).1) |>.set 8 (.int .i64 (rdI (rdI (rdI (zde s).2).2).2).1)
   have hq:ButN w3.heap.size b w3 (((w3.setCell ⟨b,6,none⟩ (.int .i64 (rdI (zde s).2).1)).setCell ⟨b,7,none⟩ (.int .i64 (rdI (rdI (zde s).2).2).1)).setCell ⟨b,8,none⟩ (.int .i64 (rdI (rdI (rdI (zde s).2).2).2).1)):=((ButN.refl.set 6 _).set 7 _).set 8 _
   have X4:=zac8 ((hq.block w.heap.size (by omega) (by omega)).trans X3.out)
   have B4:=zac8 (B3.out.trans h5)
   have RD4:=zac8 (RD3.out.other hq (zac9 _) hpb (zac9 _))
   have M4:=zac8 (show MB (((w3.setCell ⟨b,6,none⟩ (.int .i64 (rdI (zde s).2).1)).setCell ⟨b,7,none⟩ (.int .i64 (rdI (rdI (zde s).2).2).1)).setCell ⟨b,8,none⟩ (.int .i64 (rdI (rdI (rdI (zde s).2).2).2).1)) b (mAt m s 2).1 from ((M3.out.set (zza _ _)).set (zzb _ _)).set (zzc _ _))
   clear h5 hq rx sx X3 B3 RD3 M3
   go_roundw
   case rel=>exact ⟨1 + 1,by omega,rfl,B4.out,RD4.out,M4.out,X4.out⟩
   case measure=>simp [intOf]
  | 2,_=>
   have HA:=zac8 (zli (show RdB b wr p (mAt m s 2).2 from HRW.out) (Nat.le_of_lt HMW.out.lt))
   go_wp2_with fail
   refine HA.out.mono ?_
   rintro _ w1 ⟨rfl,hb1,hr1⟩
   have hm1:=HMW.out.but hb1 (Ne.symm hpb)
   have B1:=zac8 (HBW.out.trans (But2.but hb1))
   have M1:=zac8 hm1
   have RD1:=zac8 hr1
   have rx:=hm1.row
   have sx:=hm1.soft
   clear hb1 hr1 hm1 HA rs
   go_wp2
   go_end0
   have hq:ButN w1.heap.size b w1 (w1.setRow b (Msg.cells { (mAt m s 2).1 with h:=(rdHs (mAt m s 2).2).1 })):=ButN.refl.row (.inl rfl)
   refine ⟨rfl,B1.out.trans (fun B h1 h2 h3=>hq.to h3 h2),RD1.out.other hq (zac9 _) hpb (zac9 _),setRow_heap w1 b _ _ 118 _ M1.out⟩
end Go.Proofs.YthjgiamfaijoeaaGreatDoor
