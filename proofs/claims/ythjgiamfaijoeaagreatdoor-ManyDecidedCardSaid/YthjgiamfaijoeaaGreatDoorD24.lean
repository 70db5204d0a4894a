/- What is proved: parts of the walk and of the plain law. No condition but those each law names. -/
import Derived.Test.YthjgiamfaijoeaaGreatDoorD23
import Derived.Test.YthjgiamfaijoeaaGreatDoorD00
set_option linter.unusedSimpArgs false
set_option linter.unusedVariables false
set_option maxRecDepth 100000
namespace Go.Proofs.YthjgiamfaijoeaaGreatDoor
open Go.RowKit
attribute [local go_sem ↓] zad
attribute [local go_sem] zaf zai zaj zal zac zak zab zah zae Ext.row Ext.soft_
def zij (x:Nat):Prop:=(48 ≤ x∧x ≤ 57) ∨ (97 ≤ x∧x ≤ 102)
instance (x:Nat):Decidable (zij x):=by unfold zij;infer_instance
def dg (x:Nat):Nat:=if 97 ≤ x then x - 87 else x - 48
theorem dg_lt {x:Nat} (h:zij x):dg x < 16:=by unfold dg zij at *;split <;> omega
theorem zuh {x:Nat} (h:zij x) (w:World):Calls Tryz.prog 363 #[.int .u8 x] w fun e w'=>e=.returned (.int .i64 (dg x))∧w'=w:=by
 by_cases h1:97 ≤ x
 ·obtain ⟨y,rfl⟩:∃ y,x=97 + y:=⟨x - 97,by omega⟩
  have hy:y < 6:=by unfold zij at h;omega
  have E:((dg (97 + y):Nat):Int)=y + 10:=by unfold dg;rw [if_pos h1];omega
  rw [E]
  clear E h h1
  go_enter Tryz.func363,Tryz.ntmps363
  go_wp2
  go_ret
  refine ⟨?_,rfl⟩
  show Ending.returned (.int .i64 (97 + (y:Int) - 97 + 10))=_
  congr 2
  omega
 ·obtain ⟨y,rfl⟩:∃ y,x=48 + y:=⟨x - 48,by unfold zij at h;omega⟩
  have hy:y < 10:=by unfold zij at h;omega
  have E:((dg (48 + y):Nat):Int)=y:=by unfold dg;rw [if_neg h1];omega
  rw [E]
  clear E h h1
  go_enter Tryz.func363,Tryz.ntmps363
  go_wp2
  go_ret
  refine ⟨?_,rfl⟩
  show Ending.returned (.int .i64 (48 + (y:Int) - 48))=_
  congr 2
  omega
theorem zb2 {x:Nat} (h:zij x) (w:World):Calls Tryz.prog 363 #[.int .u8 x] w (Ret (.int .i64 (dg x)) w):=zb0 ((zuh h w).mono fun _ _ ⟨h,e⟩=>⟨h,by rw [e];exact Below.refl _ _⟩)
def sb (s:ByteArray) (i:Nat):Nat:=if h:i < s.size then (s[i]'h).toNat else 0
structure Hex (s:ByteArray):Prop where
 size:s.size=16
 hex:∀ i,i < 16→zij (sb s i)
theorem Hex.at {s:ByteArray} (h:Hex s) {i:Nat} (hi:i < 16) (z:Int) (hz:z=i):∃ x d,x=sb s i∧zij x∧d=dg x∧d < 16∧(∀ w,(Instr.index 9 (.string s) (.int .i64 z)).run Tryz.prog w=.ok (.int .u8 x) w):=by
 refine ⟨_,_,rfl,h.hex i hi,rfl,dg_lt (h.hex i hi),fun w=>?_⟩
 subst hz
 rw [run_index_string w 9 s .i64 i Tryz.underlying9]
 have hs:=h.size
 rw [dif_pos ⟨by omega,by omega⟩]
 congr 3
 unfold sb
 rw [dif_pos (by omega)]
 rfl
theorem Ws.low {w w':World} {b:Nat} {l:List Int} {n:Nat} {t:TypeId} (h:Ws w b l n t) (hb:Below w.heap.size w w'):Ws w' b l n t:=⟨(hb.block _ h.lt).trans h.row,h.len⟩
def zl4 (m:List Int) (s:ByteArray) (l:List Int) (k:Nat):List Int:=
 zgy l (k % 4) (4 + (k % 4 + k / 4) % 4) (8 + (k % 4 + 2 * (k / 4)) % 4) (12 + (k % 4 + 3 * (k / 4)) % 4) (wd m (dg (sb s (2 * k)))) (wd m (dg (sb s (2 * k + 1))))
def roundN (m:List Int) (s:ByteArray) (l:List Int):Nat→List Int
 | 0=>l
 | k + 1=>zl4 m s (roundN m s l k) k
set_option maxHeartbeats 4000000 in
theorem zl5 {w:World} {p q:Nat} {l m:List Int} {s:ByteArray} (h:Ws w p l 16 375) (hm:Ws w q m 16 374) (hne:q ≠ p) (hs:Hex s):
  Calls Tryz.prog 306 #[.pointer (some ⟨p,0,none⟩),.pointer (some ⟨q,0,none⟩),.string s] w fun e w'=>e=.returned (.tuple #[])∧But p w w'∧Ws w' p (roundN m s l 8) 16 375:=by
 have hlt:=h.lt
 go_enter Tryz.func306,Tryz.ntmps306
 go_upto_region 1 with (fail)
 go_loopw [10] (fun i wr=>(i=.int .i64 0∧But p w wr∧Ws wr p (roundN m s l 0) 16 375) ∨ (i=.int .i64 1∧But p w wr∧Ws wr p (roundN m s l 1) 16 375) ∨ (i=.int .i64 2∧But p w wr∧Ws wr p (roundN m s l 2) 16 375) ∨ (i=.int .i64 3∧But p w wr∧Ws wr p (roundN m s l 3) 16 375) ∨ (i=.int .i64 4∧But p w wr∧Ws wr p (roundN m s l 4) 16 375) ∨ (i=.int .i64 5∧But p w wr∧Ws wr p (roundN m s l 5) 16 375) ∨ (i=.int .i64 6∧But p w wr∧Ws wr p (roundN m s l 6) 16 375) ∨ (i=.int .i64 7∧But p w wr∧Ws wr p (roundN m s l 7) 16 375) ∨ (i=.int .i64 8∧But p w wr∧Ws wr p (roundN m s l 8) 16 375)) (fun i _=>8 - (intOf i).toNat)
 case atStart=>exact .inl ⟨rfl,ButN.refl,h⟩
 case round=>
  obtain ⟨rfl,B,P⟩ | ⟨rfl,B,P⟩ | ⟨rfl,B,P⟩ | ⟨rfl,B,P⟩ | ⟨rfl,B,P⟩ | ⟨rfl,B,P⟩ | ⟨rfl,B,P⟩ | ⟨rfl,B,P⟩ | ⟨rfl,B,P⟩:=hrel
  ·obtain ⟨x,dx,hx,ix,hdx,lx,fx⟩:=hs.at (i:=0) (by decide) 0 rfl
   obtain ⟨y,dy,hy,iy,hdy,ly,fy⟩:=hs.at (i:=1) (by decide) 1 rfl
   have DX:=zadv (zb2 ix)
   have DY:=zadv (zb2 iy)
   rw [← hdx] at DX
   rw [← hdy] at DY
   have lx':(dx:Int) < 16:=by omega
   have ly':(dy:Int) < 16:=by omega
   have w1:IntKind.i64.wrap 0=0:=by decide
   have w2:IntKind.i64.wrap 1=1:=by decide
   have M:=hm.far B hne
   have mx:=M.at lx
   have my:=M.at ly
   have ml:=M.lt
   have HS:=zadv (show roundN m s l 1=zgy (roundN m s l 0) 0 4 8 12 (wd m dx) (wd m dy) by rw [hdx,hdy,hx,hy];rfl)
   have HP:=zadv P
   have HM:=zadv M
   clear P M hx hy hdx hdy ix iy
   generalize roundN m s l 0=l0 at HP HS
   generalize wd m dx=vx at *
   generalize wd m dy=vy at *
   go_upto_region 3 with (fail)
   (refine zay 21 20 (fun N=>.pointer (some ⟨N,0,none⟩)) (.cells #[.int .u32 0,.int .u32 0] 415) (by kernel_rfl) (by kernel_rfl) ?_;simp only [List.take_succ_cons,List.take_zero,List.drop_succ_cons,List.drop_zero];(repeat (first | (refine grow_lay rfl (fun _=>rfl) (fun _ _=>(by simp [go_sem])) ?_;simp only [Act.put,List.setIfInBounds_toArray,List.set_cons_succ,List.set_cons_zero]) | (refine grow_step rfl (fun K hK=>?_);go_simp;(first | (refine hK _ ?_;clear hK K) | (apply Exists.intro;refine ⟨fun _=>?_,hK _ ?_⟩;(first | (go_at_call 363;with_reducible exact DX.out _) | (go_at_call 363;with_reducible exact DY.out _));clear hK K)))));refine (fun N w' hN lN eN ⟨g,he⟩=>?_);subst he;have rN:=zaa eN;have sN:=zan eN;clear eN)
   have HW:=zadv ((g.below.setCell (p:=⟨N,0,none⟩) hN (.int .u32 vx)).setCell (p:=⟨N,1,none⟩) hN (.int .u32 vy))
   go_wp2_with fail
   generalize World.setCell (World.setCell g.val _ _) _ _=W1 at HW ⊢
   have P1:=HP.out.low HW.out
   refine (zda P1 (a:=0) (b:=4) (c:=8) (d:=12) (by decide) (by decide) (by decide) (by decide) vx vy).mono ?_
   rintro _ W2 ⟨rfl,b2,P2⟩
   rw [← HS.out] at P2
   have B2:=zadv (B.trans (ButN.trans (ButN.below HW.out) (b2.mono HW.out.size)))
   have P3:=zadv P2
   clear P1 P2 HW b2 B HP HM HS mx my ml
   go_wp2
   refine ⟨.inr (.inl ⟨rfl,B2.out,P3.out⟩),?_⟩
   decide
  ·obtain ⟨x,dx,hx,ix,hdx,lx,fx⟩:=hs.at (i:=2) (by decide) 2 rfl
   obtain ⟨y,dy,hy,iy,hdy,ly,fy⟩:=hs.at (i:=3) (by decide) 3 rfl
   have DX:=zadv (zb2 ix)
   have DY:=zadv (zb2 iy)
   rw [← hdx] at DX
   rw [← hdy] at DY
   have lx':(dx:Int) < 16:=by omega
   have ly':(dy:Int) < 16:=by omega
   have w1:IntKind.i64.wrap 2=2:=by decide
   have w2:IntKind.i64.wrap 3=3:=by decide
   have M:=hm.far B hne
   have mx:=M.at lx
   have my:=M.at ly
   have ml:=M.lt
   have HS:=zadv (show roundN m s l 2=zgy (roundN m s l 1) 1 5 9 13 (wd m dx) (wd m dy) by rw [hdx,hdy,hx,hy];rfl)
   have HP:=zadv P
   have HM:=zadv M
   clear P M hx hy hdx hdy ix iy
   generalize roundN m s l 1=l0 at HP HS
   generalize wd m dx=vx at *
   generalize wd m dy=vy at *
   go_upto_region 3 with (fail)
   (refine zay 21 20 (fun N=>.pointer (some ⟨N,0,none⟩)) (.cells #[.int .u32 0,.int .u32 0] 415) (by kernel_rfl) (by kernel_rfl) ?_;simp only [List.take_succ_cons,List.take_zero,List.drop_succ_cons,List.drop_zero];(repeat (first | (refine grow_lay rfl (fun _=>rfl) (fun _ _=>(by simp [go_sem])) ?_;simp only [Act.put,List.setIfInBounds_toArray,List.set_cons_succ,List.set_cons_zero]) | (refine grow_step rfl (fun K hK=>?_);go_simp;(first | (refine hK _ ?_;clear hK K) | (apply Exists.intro;refine ⟨fun _=>?_,hK _ ?_⟩;(first | (go_at_call 363;with_reducible exact DX.out _) | (go_at_call 363;with_reducible exact DY.out _));clear hK K)))));refine (fun N w' hN lN eN ⟨g,he⟩=>?_);subst he;have rN:=zaa eN;have sN:=zan eN;clear eN)
   have HW:=zadv ((g.below.setCell (p:=⟨N,0,none⟩) hN (.int .u32 vx)).setCell (p:=⟨N,1,none⟩) hN (.int .u32 vy))
   go_wp2_with fail
   generalize World.setCell (World.setCell g.val _ _) _ _=W1 at HW ⊢
   have P1:=HP.out.low HW.out
   refine (zda P1 (a:=1) (b:=5) (c:=9) (d:=13) (by decide) (by decide) (by decide) (by decide) vx vy).mono ?_
   rintro _ W2 ⟨rfl,b2,P2⟩
   rw [← HS.out] at P2
   have B2:=zadv (B.trans (ButN.trans (ButN.below HW.out) (b2.mono HW.out.size)))
   have P3:=zadv P2
   clear P1 P2 HW b2 B HP HM HS mx my ml
   go_wp2
   refine ⟨.inr (.inr (.inl ⟨rfl,B2.out,P3.out⟩)),?_⟩
   decide
  ·obtain ⟨x,dx,hx,ix,hdx,lx,fx⟩:=hs.at (i:=4) (by decide) 4 rfl
   obtain ⟨y,dy,hy,iy,hdy,ly,fy⟩:=hs.at (i:=5) (by decide) 5 rfl
   have DX:=zadv (zb2 ix)
   have DY:=zadv (zb2 iy)
   rw [← hdx] at DX
   rw [← hdy] at DY
   have lx':(dx:Int) < 16:=by omega
   have ly':(dy:Int) < 16:=by omega
   have w1:IntKind.i64.wrap 4=4:=by decide
   have w2:IntKind.i64.wrap 5=5:=by decide
   have M:=hm.far B hne
   have mx:=M.at lx
   have my:=M.at ly
   have ml:=M.lt
   have HS:=zadv (show roundN m s l 3=zgy (roundN m s l 2) 2 6 10 14 (wd m dx) (wd m dy) by rw [hdx,hdy,hx,hy];rfl)
   have HP:=zadv P
   have HM:=zadv M
   clear P M hx hy hdx hdy ix iy
   generalize roundN m s l 2=l0 at HP HS
   generalize wd m dx=vx at *
   generalize wd m dy=vy at *
   go_upto_region 3 with (fail)
   (refine zay 21 20 (fun N=>.pointer (some ⟨N,0,none⟩)) (.cells #[.int .u32 0,.int .u32 0] 415) (by kernel_rfl) (by kernel_rfl) ?_;simp only [List.take_succ_cons,List.take_zero,List.drop_succ_cons,List.drop_zero];(repeat (first | (refine grow_lay rfl (fun _=>rfl) (fun _ _=>(by simp [go_sem])) ?_;simp only [Act.put,List.setIfInBounds_toArray,List.set_cons_succ,List.set_cons_zero]) | (refine grow_step rfl (fun K hK=>?_);go_simp;(first | (refine hK _ ?_;clear hK K) | (apply Exists.intro;refine ⟨fun _=>?_,hK _ ?_⟩;(first | (go_at_call 363;with_reducible exact DX.out _) | (go_at_call 363;with_reducible exact DY.out _));clear hK K)))));refine (fun N w' hN lN eN ⟨g,he⟩=>?_);subst he;have rN:=zaa eN;have sN:=zan eN;clear eN)
   have HW:=zadv ((g.below.setCell (p:=⟨N,0,none⟩) hN (.int .u32 vx)).setCell (p:=⟨N,1,none⟩) hN (.int .u32 vy))
   go_wp2_with fail
   generalize World.setCell (World.setCell g.val _ _) _ _=W1 at HW ⊢
   have P1:=HP.out.low HW.out
   refine (zda P1 (a:=2) (b:=6) (c:=10) (d:=14) (by decide) (by decide) (by decide) (by decide) vx vy).mono ?_
   rintro _ W2 ⟨rfl,b2,P2⟩
   rw [← HS.out] at P2
   have B2:=zadv (B.trans (ButN.trans (ButN.below HW.out) (b2.mono HW.out.size)))
   have P3:=zadv P2
   clear P1 P2 HW b2 B HP HM HS mx my ml
   go_wp2
   refine ⟨.inr (.inr (.inr (.inl ⟨rfl,B2.out,P3.out⟩))),?_⟩
   decide
  ·obtain ⟨x,dx,hx,ix,hdx,lx,fx⟩:=hs.at (i:=6) (by decide) 6 rfl
   obtain ⟨y,dy,hy,iy,hdy,ly,fy⟩:=hs.at (i:=7) (by decide) 7 rfl
   have DX:=zadv (zb2 ix)
   have DY:=zadv (zb2 iy)
   rw [← hdx] at DX
   rw [← hdy] at DY
   have lx':(dx:Int) < 16:=by omega
   have ly':(dy:Int) < 16:=by omega
   have w1:IntKind.i64.wrap 6=6:=by decide
   have w2:IntKind.i64.wrap 7=7:=by decide
   have M:=hm.far B hne
   have mx:=M.at lx
   have my:=M.at ly
   have ml:=M.lt
   have HS:=zadv (show roundN m s l 4=zgy (roundN m s l 3) 3 7 11 15 (wd m dx) (wd m dy) by rw [hdx,hdy,hx,hy];rfl)
   have HP:=zadv P
   have HM:=zadv M
   clear P M hx hy hdx hdy ix iy
   generalize roundN m s l 3=l0 at HP HS
   generalize wd m dx=vx at *
   generalize wd m dy=vy at *
   go_upto_region 3 with (fail)
   (refine zay 21 20 (fun N=>.pointer (some ⟨N,0,none⟩)) (.cells #[.int .u32 0,.int .u32 0] 415) (by kernel_rfl) (by kernel_rfl) ?_;simp only [List.take_succ_cons,List.take_zero,List.drop_succ_cons,List.drop_zero];(repeat (first | (refine grow_lay rfl (fun _=>rfl) (fun _ _=>(by simp [go_sem])) ?_;simp only [Act.put,List.setIfInBounds_toArray,List.set_cons_succ,List.set_cons_zero]) | (refine grow_step rfl (fun K hK=>?_);go_simp;(first | (refine hK _ ?_;clear hK K) | (apply Exists.intro;refine ⟨fun _=>?_,hK _ ?_⟩;(first | (go_at_call 363;with_reducible exact DX.out _) | (go_at_call 363;with_reducible exact DY.out _));clear hK K)))));refine (fun N w' hN lN eN ⟨g,he⟩=>?_);subst he;have rN:=zaa eN;have sN:=zan eN;clear eN)
   have HW:=zadv ((g.below.setCell (p:=⟨N,0,none⟩) hN (.int .u32 vx)).setCell (p:=⟨N,1,none⟩) hN (.int .u32 vy))
   go_wp2_with fail
   generalize World.setCell (World.setCell g.val _ _) _ _=W1 at HW ⊢
   have P1:=HP.out.low HW.out
   refine (zda P1 (a:=3) (b:=7) (c:=11) (d:=15) (by decide) (by decide) (by decide) (by decide) vx vy).mono ?_
   rintro _ W2 ⟨rfl,b2,P2⟩
   rw [← HS.out] at P2
   have B2:=zadv (B.trans (ButN.trans (ButN.below HW.out) (b2.mono HW.out.size)))
   have P3:=zadv P2
   clear P1 P2 HW b2 B HP HM HS mx my ml
   go_wp2
   refine ⟨.inr (.inr (.inr (.inr (.inl ⟨rfl,B2.out,P3.out⟩)))),?_⟩
   decide
  ·obtain ⟨x,dx,hx,ix,hdx,lx,fx⟩:=hs.at (i:=8) (by decide) 8 rfl
   obtain ⟨y,dy,hy,iy,hdy,ly,fy⟩:=hs.at (i:=9) (by decide) 9 rfl
   have DX:=zadv (zb2 ix)
   have DY:=zadv (zb2 iy)
   rw [← hdx] at DX
   rw [← hdy] at DY
   have lx':(dx:Int) < 16:=by omega
   have ly':(dy:Int) < 16:=by omega
   have w1:IntKind.i64.wrap 8=8:=by decide
   have w2:IntKind.i64.wrap 9=9:=by decide
   have M:=hm.far B hne
   have mx:=M.at lx
   have my:=M.at ly
   have ml:=M.lt
   have HS:=zadv (show roundN m s l 5=zgy (roundN m s l 4) 0 5 10 15 (wd m dx) (wd m dy) by rw [hdx,hdy,hx,hy];rfl)
   have HP:=zadv P
   have HM:=zadv M
   clear P M hx hy hdx hdy ix iy
   generalize roundN m s l 4=l0 at HP HS
   generalize wd m dx=vx at *
   generalize wd m dy=vy at *
   go_upto_region 3 with (fail)
   (refine zay 21 20 (fun N=>.pointer (some ⟨N,0,none⟩)) (.cells #[.int .u32 0,.int .u32 0] 415) (by kernel_rfl) (by kernel_rfl) ?_;simp only [List.take_succ_cons,List.take_zero,List.drop_succ_cons,List.drop_zero];(repeat (first | (refine grow_lay rfl (fun _=>rfl) (fun _ _=>(by simp [go_sem])) ?_;simp only [Act.put,List.setIfInBounds_toArray,List.set_cons_succ,List.set_cons_zero]) | (refine grow_step rfl (fun K hK=>?_);go_simp;(first | (refine hK _ ?_;clear hK K) | (apply Exists.intro;refine ⟨fun _=>?_,hK _ ?_⟩;(first | (go_at_call 363;with_reducible exact DX.out _) | (go_at_call 363;with_reducible exact DY.out _));clear hK K)))));refine (fun N w' hN lN eN ⟨g,he⟩=>?_);subst he;have rN:=zaa eN;have sN:=zan eN;clear eN)
   have HW:=zadv ((g.below.setCell (p:=⟨N,0,none⟩) hN (.int .u32 vx)).setCell (p:=⟨N,1,none⟩) hN (.int .u32 vy))
   go_wp2_with fail
   generalize World.setCell (World.setCell g.val _ _) _ _=W1 at HW ⊢
   have P1:=HP.out.low HW.out
   refine (zda P1 (a:=0) (b:=5) (c:=10) (d:=15) (by decide) (by decide) (by decide) (by decide) vx vy).mono ?_
   rintro _ W2 ⟨rfl,b2,P2⟩
   rw [← HS.out] at P2
   have B2:=zadv (B.trans (ButN.trans (ButN.below HW.out) (b2.mono HW.out.size)))
   have P3:=zadv P2
   clear P1 P2 HW b2 B HP HM HS mx my ml
   go_wp2
   refine ⟨.inr (.inr (.inr (.inr (.inr (.inl ⟨rfl,B2.out,P3.out⟩))))),?_⟩
   decide
  ·obtain ⟨x,dx,hx,ix,hdx,lx,fx⟩:=hs.at (i:=10) (by decide) 10 rfl
   obtain ⟨y,dy,hy,iy,hdy,ly,fy⟩:=hs.at (i:=11) (by decide) 11 rfl
   have DX:=zadv (zb2 ix)
   have DY:=zadv (zb2 iy)
   rw [← hdx] at DX
   rw [← hdy] at DY
   have lx':(dx:Int) < 16:=by omega
   have ly':(dy:Int) < 16:=by omega
   have w1:IntKind.i64.wrap 10=10:=by decide
   have w2:IntKind.i64.wrap 11=11:=by decide
   have M:=hm.far B hne
   have mx:=M.at lx
   have my:=M.at ly
   have ml:=M.lt
   have HS:=zadv (show roundN m s l 6=zgy (roundN m s l 5) 1 6 11 12 (wd m dx) (wd m dy) by rw [hdx,hdy,hx,hy];rfl)
   have HP:=zadv P
   have HM:=zadv M
   clear P M hx hy hdx hdy ix iy
   generalize roundN m s l 5=l0 at HP HS
   generalize wd m dx=vx at *
   generalize wd m dy=vy at *
   go_upto_region 3 with (fail)
   (refine zay 21 20 (fun N=>.pointer (some ⟨N,0,none⟩)) (.cells #[.int .u32 0,.int .u32 0] 415) (by kernel_rfl) (by kernel_rfl) ?_;simp only [List.take_succ_cons,List.take_zero,List.drop_succ_cons,List.drop_zero];(repeat (first | (refine grow_lay rfl (fun _=>rfl) (fun _ _=>(by simp [go_sem])) ?_;simp only [Act.put,List.setIfInBounds_toArray,List.set_cons_succ,List.set_cons_zero]) | (refine grow_step rfl (fun K hK=>?_);go_simp;(first | (refine hK _ ?_;clear hK K) | (apply Exists.intro;refine ⟨fun _=>?_,hK _ ?_⟩;(first | (go_at_call 363;with_reducible exact DX.out _) | (go_at_call 363;with_reducible exact DY.out _));clear hK K)))));refine (fun N w' hN lN eN ⟨g,he⟩=>?_);subst he;have rN:=zaa eN;have sN:=zan eN;clear eN)
   have HW:=zadv ((g.below.setCell (p:=⟨N,0,none⟩) hN (.int .u32 vx)).setCell (p:=⟨N,1,none⟩) hN (.int .u32 vy))
   go_wp2_with fail
   generalize World.setCell (World.setCell g.val _ _) _ _=W1 at HW ⊢
   have P1:=HP.out.low HW.out
   refine (zda P1 (a:=1) (b:=6) (c:=11) (d:=12) (by decide) (by decide) (by decide) (by decide) vx vy).mono ?_
   rintro _ W2 ⟨rfl,b2,P2⟩
   rw [← HS.out] at P2
   have B2:=zadv (B.trans (ButN.trans (ButN.below HW.out) (b2.mono HW.out.size)))
   have P3:=zadv P2
   clear P1 P2 HW b2 B HP HM HS mx my ml
   go_wp2
   refine ⟨.inr (.inr (.inr (.inr (.inr (.inr (.inl ⟨rfl,B2.out,P3.out⟩)))))),?_⟩
   decide
  ·obtain ⟨x,dx,hx,ix,hdx,lx,fx⟩:=hs.at (i:=12) (by decide) 12 rfl
   obtain ⟨y,dy,hy,iy,hdy,ly,fy⟩:=hs.at (i:=13) (by decide) 13 rfl
   have DX:=zadv (zb2 ix)
   have DY:=zadv (zb2 iy)
   rw [← hdx] at DX
   rw [← hdy] at DY
   have lx':(dx:Int) < 16:=by omega
   have ly':(dy:Int) < 16:=by omega
   have w1:IntKind.i64.wrap 12=12:=by decide
   have w2:IntKind.i64.wrap 13=13:=by decide
   have M:=hm.far B hne
   have mx:=M.at lx
   have my:=M.at ly
   have ml:=M.lt
   have HS:=zadv (show roundN m s l 7=zgy (roundN m s l 6) 2 7 8 13 (wd m dx) (wd m dy) by rw [hdx,hdy,hx,hy];rfl)
   have HP:=zadv P
   have HM:=zadv M
   clear P M hx hy hdx hdy ix iy
   generalize roundN m s l 6=l0 at HP HS
   generalize wd m dx=vx at *
   generalize wd m dy=vy at *
   go_upto_region 3 with (fail)
   (refine zay 21 20 (fun N=>.pointer (some ⟨N,0,none⟩)) (.cells #[.int .u32 0,.int .u32 0] 415) (by kernel_rfl) (by kernel_rfl) ?_;simp only [List.take_succ_cons,List.take_zero,List.drop_succ_cons,List.drop_zero];(repeat (first | (refine grow_lay rfl (fun _=>rfl) (fun _ _=>(by simp [go_sem])) ?_;simp only [Act.put,List.setIfInBounds_toArray,List.set_cons_succ,List.set_cons_zero]) | (refine grow_step rfl (fun K hK=>?_);go_simp;(first | (refine hK _ ?_;clear hK K) | (apply Exists.intro;refine ⟨fun _=>?_,hK _ ?_⟩;(first | (go_at_call 363;with_reducible exact DX.out _) | (go_at_call 363;with_reducible exact DY.out _));clear hK K)))));refine (fun N w' hN lN eN ⟨g,he⟩=>?_);subst he;have rN:=zaa eN;have sN:=zan eN;clear eN)
   have HW:=zadv ((g.below.setCell (p:=⟨N,0,none⟩) hN (.int .u32 vx)).setCell (p:=⟨N,1,none⟩) hN (.int .u32 vy))
   go_wp2_with fail
   generalize World.setCell (World.setCell g.val _ _) _ _=W1 at HW ⊢
   have P1:=HP.out.low HW.out
   refine (zda P1 (a:=2) (b:=7) (c:=8) (d:=13) (by decide) (by decide) (by decide) (by decide) vx vy).mono ?_
   rintro _ W2 ⟨rfl,b2,P2⟩
   rw [← HS.out] at P2
   have B2:=zadv (B.trans (ButN.trans (ButN.below HW.out) (b2.mono HW.out.size)))
   have P3:=zadv P2
   clear P1 P2 HW b2 B HP HM HS mx my ml
   go_wp2
   refine ⟨.inr (.inr (.inr (.inr (.inr (.inr (.inr (.inl ⟨rfl,B2.out,P3.out⟩))))))),?_⟩
   decide
  ·obtain ⟨x,dx,hx,ix,hdx,lx,fx⟩:=hs.at (i:=14) (by decide) 14 rfl
   obtain ⟨y,dy,hy,iy,hdy,ly,fy⟩:=hs.at (i:=15) (by decide) 15 rfl
   have DX:=zadv (zb2 ix)
   have DY:=zadv (zb2 iy)
   rw [← hdx] at DX
   rw [← hdy] at DY
   have lx':(dx:Int) < 16:=by omega
   have ly':(dy:Int) < 16:=by omega
   have w1:IntKind.i64.wrap 14=14:=by decide
   have w2:IntKind.i64.wrap 15=15:=by decide
   have M:=hm.far B hne
   have mx:=M.at lx
   have my:=M.at ly
   have ml:=M.lt
   have HS:=zadv (show roundN m s l 8=zgy (roundN m s l 7) 3 4 9 14 (wd m dx) (wd m dy) by rw [hdx,hdy,hx,hy];rfl)
   have HP:=zadv P
   have HM:=zadv M
   clear P M hx hy hdx hdy ix iy
   generalize roundN m s l 7=l0 at HP HS
   generalize wd m dx=vx at *
   generalize wd m dy=vy at *
   go_upto_region 3 with (fail)
   (refine zay 21 20 (fun N=>.pointer (some ⟨N,0,none⟩)) (.cells #[.int .u32 0,.int .u32 0] 415) (by kernel_rfl) (by kernel_rfl) ?_;simp only [List.take_succ_cons,List.take_zero,List.drop_succ_cons,List.drop_zero];(repeat (first | (refine grow_lay rfl (fun _=>rfl) (fun _ _=>(by simp [go_sem])) ?_;simp only [Act.put,List.setIfInBounds_toArray,List.set_cons_succ,List.set_cons_zero]) | (refine grow_step rfl (fun K hK=>?_);go_simp;(first | (refine hK _ ?_;clear hK K) | (apply Exists.intro;refine ⟨fun _=>?_,hK _ ?_⟩;(first | (go_at_call 363;with_reducible exact DX.out _) | (go_at_call 363;with_reducible exact DY.out _));clear hK K)))));refine (fun N w' hN lN eN ⟨g,he⟩=>?_);subst he;have rN:=zaa eN;have sN:=zan eN;clear eN)
   have HW:=zadv ((g.below.setCell (p:=⟨N,0,none⟩) hN (.int .u32 vx)).setCell (p:=⟨N,1,none⟩) hN (.int .u32 vy))
   go_wp2_with fail
   generalize World.setCell (World.setCell g.val _ _) _ _=W1 at HW ⊢
   have P1:=HP.out.low HW.out
   refine (zda P1 (a:=3) (b:=4) (c:=9) (d:=14) (by decide) (by decide) (by decide) (by decide) vx vy).mono ?_
   rintro _ W2 ⟨rfl,b2,P2⟩
   rw [← HS.out] at P2
   have B2:=zadv (B.trans (ButN.trans (ButN.below HW.out) (b2.mono HW.out.size)))
   have P3:=zadv P2
   clear P1 P2 HW b2 B HP HM HS mx my ml
   go_wp2
   refine ⟨.inr (.inr (.inr (.inr (.inr (.inr (.inr (.inr (⟨rfl,B2.out,P3.out⟩)))))))),?_⟩
   decide
  ·go_wp2
   go_end0
   exact ⟨rfl,B,P⟩
end Go.Proofs.YthjgiamfaijoeaaGreatDoor
