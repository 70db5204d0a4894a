/- What is proved: parts of the walk and of the plain law. No condition but those each law names. -/
import Derived.Test.YthjgiamfaijoeaaGreatDoorA25
import Derived.Test.YthjgiamfaijoeaaGreatDoorA26
import Derived.Test.YthjgiamfaijoeaaGreatDoorA00
set_option linter.unusedSimpArgs false
set_option linter.unusedVariables false
namespace Go.Proofs.YthjgiamfaijoeaaGreatDoor
open Go.RowKit
set_option maxRecDepth 100000
attribute [local go_sem ↓] zdg
def totV (l:List Int):Int × Int:=if zbr l=true∧l.sum ≤ 1125899906842624 then (l.sum,0) else (0,15)
theorem zo8 {l:List Int} (h:zbr l=true) {x:Int} (hx:x ∈ l):aisA x:=by unfold zbr at h;rw [List.all_eq_true] at h;simpa using h x hx
theorem zet:∀ {l:List Int},zbr l=true→0 ≤ l.sum
 | [],_=>by simp
 | x :: l,h=>by
  have h1:=zo8 h (List.mem_cons_self ..)
  have h2:zbr l=true:=by unfold zbr at h ⊢;simp only [List.all_cons,Bool.and_eq_true] at h;exact h.2
  have h3:=zet h2
  simp only [List.sum_cons]
  have:=h1.1
  omega
theorem zw7 {l:List Int} {j:Nat} {x:Int} (h:l[j]?=some x):(l.take (j + 1)).sum=(l.take j).sum + x:=by
 rw [List.take_add_one,h];simp
theorem znm {l:List Int} (h:zbr l=true) (j:Nat):(l.take j).sum ≤ l.sum:=by
 have h1:(l.take j).sum + (l.drop j).sum=l.sum:=by rw [← List.sum_append_int,List.take_append_drop]
 have h2:zbr (l.drop j)=true:=by
  unfold zbr at h ⊢
  rw [List.all_eq_true] at h ⊢
  exact fun x hx=>h x (List.mem_of_mem_drop hx)
 have:=zet h2
 omega
theorem zo9 {l:List Int} {j:Nat} {x:Int} (h:l[j]?=some x) (hx:¬ aisA x ∨ (l.take (j + 1)).sum > 1125899906842624):totV l=(0,15):=by
 unfold totV
 rw [if_neg]
 rintro ⟨h1,h2⟩
 rcases hx with hx | hx
 ·exact hx (zo8 h1 (List.mem_of_getElem? h))
 ·have:=znm h1 (j + 1)
  omega
set_option maxHeartbeats 2000000 in
theorem zib {w:World} {ao:Option Addr} {n c:Nat} {l:List Int} (hl:Sl w ao n c (aits l)) (hn:n < 1099511627776):Calls Tryz.prog 360 #[.slice ao n c] w (Ret (zee (totV l)) w):=by
 have hln:l.length=n:=by rw [← hl.len,zer]
 have T0:=aTwo.mk2 w (.int .i64 0) (.int .i64 0) 3 38
 go_enter_defers Tryz.func360,Tryz.ntmps360
 go_wp2_with fail
 go_loopw [8] (fun i wr=>∃ j:Nat,j ≤ n∧i=.int .i64 j∧zbr (l.take j)=true∧(l.take j).sum ≤ 1125899906842624∧aTwo w wr (.int .i64 (l.take j).sum) (.int .i64 0)) (fun i _=>n - (intOf i).toNat)
 case atStart=>exact ⟨0,by omega,rfl,rfl,by simp,by simpa using T0⟩
 case round=>
  obtain ⟨j,hj,rfl,hall,hsum,TW⟩:=hrel
  have hb:=TW.below
  have hs0:=zet hall
  by_cases hlt:j < n
  ·obtain ⟨b,o,rfl,hbw,hc⟩:=hl.at (by omega)
   obtain ⟨x,hjx⟩:∃ x,l[j]?=some x:=⟨_,List.getElem?_eq_getElem (by omega)⟩
   have hx:=hc j _ (by rw [ztu,hjx];rfl)
   rw [← hb.cell (by exact hbw)] at hx
   have ht:=zlp hjx
   have hst:=zw7 hjx
   generalize hS:(l.take j).sum=S at hst hsum hs0 TW
   generalize hS':(l.take (j + 1)).sum=S' at hst
   by_cases hxa:aisA x
   ·have hone:zbr [x]=true:=by simp [zbr,hxa]
    have e1:IntKind.i64.wrap (S + x)=S + x:=by rw [IntKind.wrap_i64];have:=hxa.1;have:=hxa.2;omega
    go_wp2_with fail
    refine (zfr (zbn _ [x] _ (by simp [maxLen]) rfl rfl rfl) (by simp) hone).mono ?_
    rintro _ _ ⟨rfl,g,rfl⟩
    have T1:=(TW.alloc (.cells (aits [x]).toArray 3)).ext g
    have c0:=T1.c0
    have f0:=T1.f0
    by_cases hgt:S + x > 1125899906842624
    ·have hnot:¬ aisA (S + x):=fun h=>by have:=h.2;omega
     have htwo:zbr [S + x]=false:=by simp [zbr,hnot]
     have c0':=(T1.set0 (.int .i64 (S + x))).c0
     go_wp2_with fail
     refine (zfs (zbn _ [S + x] _ (by simp [maxLen]) rfl (by simp [World.setCell]) rfl) (by simp) htwo).mono ?_
     rintro _ _ ⟨rfl,g2,rfl⟩
     have T2:=((T1.set0 (.int .i64 (S + x))).alloc (.cells (aits [S + x]).toArray 3)).ext g2
     clear c0 f0 c0'
     simp only []
     refine leaves_cons (f:=384) (args:=#[.pointer (some ⟨w.heap.size,0,none⟩),.pointer (some ⟨w.heap.size + 1,0,none⟩)]) (by simp) (by simp [go_sem]) ?_
     refine (T2.caught _ _).mono ?_
     rintro e u' w'' ⟨rfl,rfl,TE⟩
     have c0:=TE.c0
     have c1:=TE.c1
     simp [Leaves,settle,results,Tryz.results360,go_sem,c0,c1]
     exact Ret.mk_of TE.below (by rw [zo9 hjx (.inr (by rw [hS',hst];exact hgt))];rfl)
    ·have hyes:aisA (S + x):=⟨by have:=hxa.1;omega,by omega⟩
     have htwo:zbr [S + x]=true:=by simp [zbr,hyes]
     have c0':=(T1.set0 (.int .i64 (S + x))).c0
     go_wp2_with fail
     refine (zfr (zbn _ [S + x] _ (by simp [maxLen]) rfl (by simp [World.setCell]) rfl) (by simp) htwo).mono ?_
     rintro _ _ ⟨rfl,g2,rfl⟩
     have T2:=((T1.set0 (.int .i64 (S + x))).alloc (.cells (aits [S + x]).toArray 3)).ext g2
     clear c0 f0 c0'
     go_wp2_with fail
     go_roundw
     case rel=>exact ⟨j + 1,by omega,rfl,by rw [ht,hall];simpa using hxa,by rw [hS'];omega,by rw [hS',hst];exact T2⟩
     case measure=>simp [intOf];omega
   ·have hone:zbr [x]=false:=by simp [zbr,hxa]
    go_wp2_with fail
    refine (zfs (zbn _ [x] _ (by simp [maxLen]) rfl rfl rfl) (by simp) hone).mono ?_
    rintro _ _ ⟨rfl,g,rfl⟩
    have T1:=(TW.alloc (.cells (aits [x]).toArray 3)).ext g
    simp only []
    refine leaves_cons (f:=384) (args:=#[.pointer (some ⟨w.heap.size,0,none⟩),.pointer (some ⟨w.heap.size + 1,0,none⟩)]) (by simp) (by simp [go_sem]) ?_
    refine (T1.caught _ _).mono ?_
    rintro e u' w'' ⟨rfl,rfl,TE⟩
    have c0:=TE.c0
    have c1:=TE.c1
    simp [Leaves,settle,results,Tryz.results360,go_sem,c0,c1]
    exact Ret.mk_of TE.below (by rw [zo9 hjx (.inl hxa)];rfl)
  ·obtain rfl:j=n:=by omega
   rw [← hln,List.take_length] at hall hsum TW
   have hv:totV l=(l.sum,0):=if_pos ⟨hall,hsum⟩
   have c0:=TW.c0
   have f0:=TW.f0
   have c1:=(TW.set0 (.int .i64 l.sum)).c1
   have f1:=TW.f1
   go_wp2_with fail
   have T3:=(TW.set0 (.int .i64 l.sum)).set1 (.int .i64 0)
   clear c0 c1
   refine leaves_cons (f:=384) (args:=#[.pointer (some ⟨w.heap.size,0,none⟩),.pointer (some ⟨w.heap.size + 1,0,none⟩)]) (by simp) (by simp [go_sem]) ?_
   refine (zgm _ _ _).mono ?_
   rintro e u' w'' ⟨rfl,rfl,rfl⟩
   have c0:=T3.c0
   have c1:=T3.c1
   simp [Leaves,settle,results,Tryz.results360,go_sem,c0,c1]
   exact Ret.mk_of T3.below (by rw [hv];rfl)
end Go.Proofs.YthjgiamfaijoeaaGreatDoor
namespace Go.Proofs.YthjgiamfaijoeaaGreatDoor
open Go.RowKit
set_option maxRecDepth 100000
attribute [local go_sem ↓] zad
attribute [local go_sem] zaf zai
structure TmK (t:Tm):Prop where
 chk:chkT t=0
 tm:TmT t
 ppm:0 ≤ t.ppm∧t.ppm ≤ 1000000
 least:1 ≤ t.least
 most:t.most < 4294967296
def feeV (t:Tm) (a:Nat):Int × Int:=
 if (totV [t.base,(ziv a t.ppm.toNat:Nat),t.reserve]).2 ≠ 0 then (0,(totV [t.base,(ziv a t.ppm.toNat:Nat),t.reserve]).2)
 else if (zia (totV [t.base,(ziv a t.ppm.toNat:Nat),t.reserve]).1 a).2 ≠ 0 then (0,(zia (totV [t.base,(ziv a t.ppm.toNat:Nat),t.reserve]).1 a).2)
 else ((totV [t.base,(ziv a t.ppm.toNat:Nat),t.reserve]).1,0)
theorem zabi {t:Tm} (h:TmK t) {a:Nat} (ha:a < 4294967296) (w:World):Calls Tryz.prog 304 #[.agg t.cells,.int .i64 a] w fun e w'=>e=.returned (zee (feeV t a))∧Below w.heap.size w w':=by
 have hpp:=h.ppm
 obtain ⟨pp,hp⟩:∃ pp:Nat,t.ppm=pp:=⟨t.ppm.toNat,by omega⟩
 have QC:=zac8 (fun w=>zes t w)
 rw [h.chk] at QC
 have PS:=zac8 (fun w=>zq3 ha (show pp ≤ 1000000 by omega) w)
 obtain ⟨P,hP⟩:∃ P,P=ziv a pp:=⟨_,rfl⟩
 have hfee:feeV t a=if (totV [t.base,(P:Nat),t.reserve]).2 ≠ 0 then (0,(totV [t.base,(P:Nat),t.reserve]).2) else if (zia (totV [t.base,(P:Nat),t.reserve]).1 a).2 ≠ 0 then (0,(zia (totV [t.base,(P:Nat),t.reserve]).1 a).2) else ((totV [t.base,(P:Nat),t.reserve]).1,0):=by
  unfold feeV
  rw [hp,Int.toNat_natCast,← hP]
 rw [← hP] at PS
 obtain ⟨⟨x,e⟩,hx⟩:∃ y,totV [t.base,(P:Nat),t.reserve]=y:=⟨_,rfl⟩
 rw [hx] at hfee
 have HX:=zac8 hx
 have HP:=zac8 hp
 obtain ⟨⟨y,d⟩,hy⟩:∃ z,zia x a=z:=⟨_,rfl⟩
 rw [hy] at hfee
 have HY:=zac8 hy
 rw [hfee]
 clear hx hy hP hfee hpp h
 by_cases he:e=0
 ·subst he
  rw [if_neg (by simp)]
  by_cases hd:d=0
  ·subst hd
   rw [if_neg (by simp)]
   go_enter Tryz.func304,Tryz.ntmps304
   go_upto_region 1 with (fail)
   have bx:=Bx.new w (t.cells) 68;generalize w.alloc (.cells (t.cells) 68)=W at bx ⊢;have rx:=bx.rowOf;have sx:=bx.soft;have BX:=zac8 bx;clear bx
   go_wp2_with fail
   refine (QC.out W).mono ?_;rintro _ W2 ⟨rfl,hb⟩;have bx:=BX.out.step hb;clear BX rx sx hb;have rx:=bx.rowOf;have sx:=bx.soft;have BX:=zac8 bx;clear bx
   go_wp2_with fail
   have hp:=HP.out
   refine (PS.out W2).mono ?_;rintro _ W3 ⟨rfl,hb⟩;have bx:=BX.out.step hb;clear BX rx sx hb;have rx:=bx.rowOf;have sx:=bx.soft;have BX:=zac8 bx;clear bx
   clear hp
   have hb4:=zas W3 (.cells #[.int .i64 t.base,.int .i64 P,.int .i64 t.reserve] 3)
   have TA:=zac8 (zib (w:=W3.alloc (.cells #[.int .i64 t.base,.int .i64 P,.int .i64 t.reserve] 3)) (l:=[t.base,(P:Nat),t.reserve]) (zbn W3 [t.base,(P:Nat),t.reserve] 3 (by simp [maxLen]) rfl rfl (n:=3) rfl) (by decide))
   rw [HX.out] at TA
   have HB4:=zac8 hb4
   clear hb4
   go_wp2_with fail
   refine TA.out.mono ?_
   rintro _ W5 ⟨rfl,g5,rfl⟩
   have bx:=BX.out.step (HB4.out.trans (g5.below.mono HB4.out.size))
   clear BX rx sx TA HB4
   have rx:=bx.rowOf
   have sx:=bx.soft
   have BX:=zac8 bx
   clear bx
   unfold zee
   go_wp2_with fail
   refine (ztv x a g5.val).mono ?_
   rintro _ W6 ⟨rfl,g6,rfl⟩
   rw [HY.out]
   have B6:=zac8 (BX.out.step g6.below).below
   unfold zee
   go_wp2
   refine bodyPost_ret (results_tmp2 rfl _ _ _) rfl ?_
   exact ⟨rfl,B6.out⟩
  ·rw [if_pos hd]
   have hd2:(d == 0)=false:=by rw [beq_eq_false_iff_ne];exact hd
   have hd3:(d != 0)=true:=by rw [bne_iff_ne];exact hd
   clear hd
   go_enter Tryz.func304,Tryz.ntmps304
   go_upto_region 1 with (fail)
   have bx:=Bx.new w (t.cells) 68;generalize w.alloc (.cells (t.cells) 68)=W at bx ⊢;have rx:=bx.rowOf;have sx:=bx.soft;have BX:=zac8 bx;clear bx
   go_wp2_with fail
   refine (QC.out W).mono ?_;rintro _ W2 ⟨rfl,hb⟩;have bx:=BX.out.step hb;clear BX rx sx hb;have rx:=bx.rowOf;have sx:=bx.soft;have BX:=zac8 bx;clear bx
   go_wp2_with fail
   have hp:=HP.out
   refine (PS.out W2).mono ?_;rintro _ W3 ⟨rfl,hb⟩;have bx:=BX.out.step hb;clear BX rx sx hb;have rx:=bx.rowOf;have sx:=bx.soft;have BX:=zac8 bx;clear bx
   clear hp
   have hb4:=zas W3 (.cells #[.int .i64 t.base,.int .i64 P,.int .i64 t.reserve] 3)
   have TA:=zac8 (zib (w:=W3.alloc (.cells #[.int .i64 t.base,.int .i64 P,.int .i64 t.reserve] 3)) (l:=[t.base,(P:Nat),t.reserve]) (zbn W3 [t.base,(P:Nat),t.reserve] 3 (by simp [maxLen]) rfl rfl (n:=3) rfl) (by decide))
   rw [HX.out] at TA
   have HB4:=zac8 hb4
   clear hb4
   go_wp2_with fail
   refine TA.out.mono ?_
   rintro _ W5 ⟨rfl,g5,rfl⟩
   have bx:=BX.out.step (HB4.out.trans (g5.below.mono HB4.out.size))
   clear BX rx sx TA HB4
   have rx:=bx.rowOf
   have sx:=bx.soft
   have BX:=zac8 bx
   clear bx
   unfold zee
   go_wp2_with fail
   refine (ztv x a g5.val).mono ?_
   rintro _ W6 ⟨rfl,g6,rfl⟩
   rw [HY.out]
   have B6:=zac8 (BX.out.step g6.below).below
   unfold zee
   go_wp2
   refine bodyPost_ret (results_tmp2 rfl _ _ _) rfl ?_
   exact ⟨rfl,B6.out⟩
 ·rw [if_pos he]
  have he2:(e == 0)=false:=by rw [beq_eq_false_iff_ne];exact he
  have he3:(e != 0)=true:=by rw [bne_iff_ne];exact he
  clear he
  go_enter Tryz.func304,Tryz.ntmps304
  go_upto_region 1 with (fail)
  have bx:=Bx.new w (t.cells) 68;generalize w.alloc (.cells (t.cells) 68)=W at bx ⊢;have rx:=bx.rowOf;have sx:=bx.soft;have BX:=zac8 bx;clear bx
  go_wp2_with fail
  refine (QC.out W).mono ?_;rintro _ W2 ⟨rfl,hb⟩;have bx:=BX.out.step hb;clear BX rx sx hb;have rx:=bx.rowOf;have sx:=bx.soft;have BX:=zac8 bx;clear bx
  go_wp2_with fail
  have hp:=HP.out
  refine (PS.out W2).mono ?_;rintro _ W3 ⟨rfl,hb⟩;have bx:=BX.out.step hb;clear BX rx sx hb;have rx:=bx.rowOf;have sx:=bx.soft;have BX:=zac8 bx;clear bx
  clear hp
  have hb4:=zas W3 (.cells #[.int .i64 t.base,.int .i64 P,.int .i64 t.reserve] 3)
  have TA:=zac8 (zib (w:=W3.alloc (.cells #[.int .i64 t.base,.int .i64 P,.int .i64 t.reserve] 3)) (l:=[t.base,(P:Nat),t.reserve]) (zbn W3 [t.base,(P:Nat),t.reserve] 3 (by simp [maxLen]) rfl rfl (n:=3) rfl) (by decide))
  rw [HX.out] at TA
  have HB4:=zac8 hb4
  clear hb4
  go_wp2_with fail
  refine TA.out.mono ?_
  rintro _ W5 ⟨rfl,g5,rfl⟩
  have bx:=BX.out.step (HB4.out.trans (g5.below.mono HB4.out.size))
  clear BX rx sx TA HB4
  have rx:=bx.rowOf
  have sx:=bx.soft
  have BX:=zac8 bx
  clear bx
  unfold zee
  go_wp2
  refine bodyPost_ret (results_tmp2 rfl _ _ _) rfl ?_
  exact ⟨rfl,BX.out.below⟩
def zc4 (t:Tm) (a free:Int):Int × Int:=if a < t.least ∨ a > t.most ∨ a > free then (0,22) else if (feeV t a.toNat).2 ≠ 0 then (0,(feeV t a.toNat).2) else (a + (feeV t a.toNat).1,0)
theorem zft {t:Tm} (h:TmK t) (a free:Int) (w:World):Calls Tryz.prog 229 #[.agg t.cells,.int .i64 a,.int .i64 free] w fun e w'=>e=.returned (zee (zc4 t a free))∧Below w.heap.size w w':=by
 have QC:=zac8 (fun w=>zes t w)
 rw [h.chk] at QC
 unfold zc4
 by_cases h1:a < t.least
 ·rw [if_pos (Or.inl h1)]
  go_enter Tryz.func229,Tryz.ntmps229
  go_upto_region 1 with (fail)
  have bx:=Bx.new w (t.cells) 68;generalize w.alloc (.cells (t.cells) 68)=W at bx ⊢;have rx:=bx.rowOf;have sx:=bx.soft;have BX:=zac8 bx;clear bx
  go_wp2_with fail
  refine (QC.out W).mono ?_;rintro _ W2 ⟨rfl,hb⟩;have bx:=BX.out.step hb;clear BX rx sx hb;have rx:=bx.rowOf;have sx:=bx.soft;have BX:=zac8 bx;clear bx
  go_wp2
  refine bodyPost_ret (results_tmp2 rfl _ _ _) rfl ?_
  exact ⟨rfl,BX.out.below⟩
 by_cases h2:a > t.most
 ·rw [if_pos (Or.inr (Or.inl h2))]
  go_enter Tryz.func229,Tryz.ntmps229
  go_upto_region 1 with (fail)
  have bx:=Bx.new w (t.cells) 68;generalize w.alloc (.cells (t.cells) 68)=W at bx ⊢;have rx:=bx.rowOf;have sx:=bx.soft;have BX:=zac8 bx;clear bx
  go_wp2_with fail
  refine (QC.out W).mono ?_;rintro _ W2 ⟨rfl,hb⟩;have bx:=BX.out.step hb;clear BX rx sx hb;have rx:=bx.rowOf;have sx:=bx.soft;have BX:=zac8 bx;clear bx
  go_wp2
  refine bodyPost_ret (results_tmp2 rfl _ _ _) rfl ?_
  exact ⟨rfl,BX.out.below⟩
 by_cases h3:a > free
 ·rw [if_pos (Or.inr (Or.inr h3))]
  go_enter Tryz.func229,Tryz.ntmps229
  go_upto_region 1 with (fail)
  have bx:=Bx.new w (t.cells) 68;generalize w.alloc (.cells (t.cells) 68)=W at bx ⊢;have rx:=bx.rowOf;have sx:=bx.soft;have BX:=zac8 bx;clear bx
  go_wp2_with fail
  refine (QC.out W).mono ?_;rintro _ W2 ⟨rfl,hb⟩;have bx:=BX.out.step hb;clear BX rx sx hb;have rx:=bx.rowOf;have sx:=bx.soft;have BX:=zac8 bx;clear bx
  go_wp2
  refine bodyPost_ret (results_tmp2 rfl _ _ _) rfl ?_
  exact ⟨rfl,BX.out.below⟩
 rw [if_neg (by rintro (h | h | h) <;> omega)]
 have hl:=h.least
 have hm:=h.most
 obtain ⟨n,rfl⟩:∃ n:Nat,a=n:=⟨a.toNat,by omega⟩
 rw [Int.toNat_natCast]
 have FE:=zac8 (fun w=>zabi h (a:=n) (by omega) w)
 obtain ⟨⟨x,e⟩,hx⟩:∃ y,feeV t n=y:=⟨_,rfl⟩
 have hr:e=0→0 ≤ x∧x ≤ 1125899906842624:=by
  intro he
  subst he
  have hz:=hx
  unfold feeV at hz
  split at hz
  ·injection hz with u v;contradiction
  ·rename_i hz1
   split at hz
   ·injection hz with u v;contradiction
   ·injection hz with u v
    rw [← u]
    unfold totV at hz1 ⊢
    split
    ·rename_i hq
     exact ⟨zet hq.1,hq.2⟩
    ·rename_i hq
     rw [if_neg hq] at hz1
     exact absurd (by decide) hz1
 rw [hx] at FE ⊢
 have HN:=zac8 (show n < 4294967296 by omega)
 clear hx hl hm h
 by_cases he:e=0
 ·subst he
  have hxr:=zac8 (hr rfl)
  have e0:((0:Int) == 0)=true:=rfl
  clear hr
  rw [if_neg (by simp)]
  go_enter Tryz.func229,Tryz.ntmps229
  go_upto_region 1 with (fail)
  have bx:=Bx.new w (t.cells) 68;generalize w.alloc (.cells (t.cells) 68)=W at bx ⊢;have rx:=bx.rowOf;have sx:=bx.soft;have BX:=zac8 bx;clear bx
  go_wp2_with fail
  refine (QC.out W).mono ?_;rintro _ W2 ⟨rfl,hb⟩;have bx:=BX.out.step hb;clear BX rx sx hb;have rx:=bx.rowOf;have sx:=bx.soft;have BX:=zac8 bx;clear bx
  go_wp2_with fail
  refine (FE.out W2).mono ?_;rintro _ W3 ⟨rfl,hb⟩;have bx:=BX.out.step hb;clear BX rx sx hb;have rx:=bx.rowOf;have sx:=bx.soft;have BX:=zac8 bx;clear bx
  unfold zee
  go_wp2
  refine bodyPost_ret (results_tmp2 rfl _ _ _) rfl ?_
  refine ⟨?_,BX.out.below⟩
  show Ending.returned (.tuple #[.int .i64 (wrap64 ((n:Int) + x)),.int .i64 0])=_
  rw [IntWalk.wrap64_in _ (by have:=HN.out;have:=hxr.out;omega)]
  rfl
 ·have hd2:(e == 0)=false:=by rw [beq_eq_false_iff_ne];exact he
  have hd3:(e != 0)=true:=by rw [bne_iff_ne];exact he
  clear hr
  rw [if_pos he]
  clear he
  go_enter Tryz.func229,Tryz.ntmps229
  go_upto_region 1 with (fail)
  have bx:=Bx.new w (t.cells) 68;generalize w.alloc (.cells (t.cells) 68)=W at bx ⊢;have rx:=bx.rowOf;have sx:=bx.soft;have BX:=zac8 bx;clear bx
  go_wp2_with fail
  refine (QC.out W).mono ?_;rintro _ W2 ⟨rfl,hb⟩;have bx:=BX.out.step hb;clear BX rx sx hb;have rx:=bx.rowOf;have sx:=bx.soft;have BX:=zac8 bx;clear bx
  go_wp2_with fail
  refine (FE.out W2).mono ?_;rintro _ W3 ⟨rfl,hb⟩;have bx:=BX.out.step hb;clear BX rx sx hb;have rx:=bx.rowOf;have sx:=bx.soft;have BX:=zac8 bx;clear bx
  unfold zee
  go_wp2
  refine bodyPost_ret (results_tmp2 rfl _ _ _) rfl ?_
  exact ⟨rfl,BX.out.below⟩
end Go.Proofs.YthjgiamfaijoeaaGreatDoor
namespace Go.Proofs.YthjgiamfaijoeaaGreatDoor
open Go.RowKit
set_option maxRecDepth 100000
attribute [local go_sem ↓] zad
attribute [local go_sem] zaf zai zaj zal zab zah zae Ext.row Ext.soft_
theorem Bxs.set {w W:World} {L:List (Array Value × TypeId)} (h:Bxs w L W) {j:Nat} {C:Array Value} {t:TypeId} (hj:L[j]?=some (C,t)) (k:Nat) (v:Value):Bxs w (L.set j (C.setIfInBounds k v,t)) (W.setCell ⟨w.heap.size + j,k,none⟩ v):=by
 refine ⟨h.below.setCell (Nat.le_add_right ..) _,fun i D u hi=>?_⟩
 by_cases e:i=j
 ·subst e
  rw [List.getElem?_set_self (List.getElem?_eq_some_iff.1 hj).1] at hi
  injection hi with hi
  injection hi with h1 h2
  subst h1 h2
  rw [zag,if_pos rfl,h.rows i C t hj]
  rfl
 ·rw [List.getElem?_set_ne (fun x=>e x.symm)] at hi
  rw [zag,if_neg (by show ¬ w.heap.size + j=w.heap.size + i;omega)]
  exact h.rows i D u hi
def zgb (t:Tm) (d:Dl) (n:Cl):Dl:=
 if d.r=1 then { d with p:={ d.p with u:=wrap64 (n.at_ d.p.w + t.long) },g:={ d.g with u:=wrap64 (n.at_ d.g.w + 3 * t.mar) } }
 else { d with p:={ d.p with u:=wrap64 (n.at_ d.p.w + 3 * t.mar) },g:={ d.g with u:=wrap64 (n.at_ d.g.w + t.long) } }
set_option maxHeartbeats 4000000 in
theorem zw8 {t:Tm} (h:TmT t) (d:Dl) (n:Cl) (hr:d.r=1) (w:World):Calls Tryz.prog 105 #[.agg t.cells,.agg d.cells,.agg n.cells] w fun e w'=>e=.returned (.agg (zgb t d n).cells)∧Below w.heap.size w w':=by
 have H:=zac8 h
 have LV:=zac8 (show zgb t d n={ d with p:={ d.p with u:=wrap64 (n.at_ d.p.w + t.long) },g:={ d.g with u:=wrap64 (n.at_ d.g.w + 3 * t.mar) } } from if_pos hr)
 clear h
 go_enter Tryz.func105,Tryz.ntmps105
 go_upto_region 1 with (fail)
 have bx:=Bxs.new4 w (t.cells) 68 (d.cells) 60 (n.cells) 52 (Dl.zero.cells) 60;generalize ((((w.alloc (.cells (t.cells) 68)).alloc (.cells (d.cells) 60)).alloc (.cells (n.cells) 52)).alloc (.cells (Dl.zero.cells) 60))=W at bx ⊢;have rx0:=bx.row' 0 rfl;have sx0:=bx.soft' 0 rfl;(try simp only [Nat.add_zero] at rx0 sx0);have rx1:=bx.row' 1 rfl;have sx1:=bx.soft' 1 rfl;(try simp only [Nat.add_zero] at rx1 sx1);have rx2:=bx.row' 2 rfl;have sx2:=bx.soft' 2 rfl;(try simp only [Nat.add_zero] at rx2 sx2);have rx3:=bx.row' 3 rfl;have sx3:=bx.soft' 3 rfl;(try simp only [Nat.add_zero] at rx3 sx3);have BX:=zac8 bx;clear bx
 have hlt0:=BX.out.lt 0 rfl
 have hlt1:=BX.out.lt 1 rfl
 have hlt2:=BX.out.lt 2 rfl
 have hlt3:=BX.out.lt 3 rfl
 simp only [Nat.add_zero] at hlt0
 go_upto_region 4 with (fail)
 (refine zap 12 (by kernel_rfl) (by kernel_rfl) ?_;simp only [List.take_succ_cons,List.take_zero,List.drop_succ_cons,List.drop_zero];(repeat (go_big_quiet_step ((first | (go_at_call 166;exact Calls.ext_of (zlo _ _ _)) | (go_at_call 167;exact Calls.ext_of (zo6 H.out _))))));refine wpQuiet_nil ?_;rintro _ ⟨g,rfl⟩)
 have bx:=BX.out.step g.below;clear BX rx0 sx0 rx1 sx1 rx2 sx2 rx3 sx3;have rx0:=bx.row' 0 rfl;have sx0:=bx.soft' 0 rfl;(try simp only [Nat.add_zero] at rx0 sx0);have rx1:=bx.row' 1 rfl;have sx1:=bx.soft' 1 rfl;(try simp only [Nat.add_zero] at rx1 sx1);have rx2:=bx.row' 2 rfl;have sx2:=bx.soft' 2 rfl;(try simp only [Nat.add_zero] at rx2 sx2);have rx3:=bx.row' 3 rfl;have sx3:=bx.soft' 3 rfl;(try simp only [Nat.add_zero] at rx3 sx3);have BX:=zac8 bx;clear bx
 generalize g.val=V1 at *
 go_wp2_with fail
 have bx:=BX.out.set (j:=1) rfl 4 (.int .i64 (wrap64 (n.at_ d.p.w + t.long)))
 rw [zs3] at bx
 generalize hd1:({d with p:={d.p with u:=wrap64 (n.at_ d.p.w + t.long)}}:Dl)=d1 at bx
 clear BX rx0 sx0 rx1 sx1 rx2 sx2 rx3 sx3
 generalize V1.setCell _ _=W1 at bx ⊢
 have rx0:=bx.row' 0 rfl
 have sx0:=bx.soft' 0 rfl
 have hlt0:=bx.lt 0 rfl
 have rx1:=bx.row' 1 rfl
 have sx1:=bx.soft' 1 rfl
 have hlt1:=bx.lt 1 rfl
 have rx2:=bx.row' 2 rfl
 have sx2:=bx.soft' 2 rfl
 have hlt2:=bx.lt 2 rfl
 have rx3:=bx.row' 3 rfl
 have sx3:=bx.soft' 3 rfl
 have hlt3:=bx.lt 3 rfl
 simp only [Nat.add_zero] at rx0 sx0 hlt0
 have BX:=zac8 bx
 clear bx
 have hg:=zac8 (show d1.g=d.g by rw [← hd1])
 have HD1:=zac8 hd1
 clear hd1
 (refine zap 12 (by kernel_rfl) (by kernel_rfl) ?_;simp only [List.take_succ_cons,List.take_zero,List.drop_succ_cons,List.drop_zero];(repeat (go_big_quiet_step ((first | (go_at_call 166;exact Calls.ext_of (zlo _ _ _)) | (go_at_call 168;exact Calls.ext_of (zh9 H.out _))))));refine wpQuiet_nil ?_;rintro _ ⟨g2,rfl⟩)
 have bx:=BX.out.step g2.below;clear BX rx0 sx0 rx1 sx1 rx2 sx2 rx3 sx3;have rx0:=bx.row' 0 rfl;have sx0:=bx.soft' 0 rfl;(try simp only [Nat.add_zero] at rx0 sx0);have rx1:=bx.row' 1 rfl;have sx1:=bx.soft' 1 rfl;(try simp only [Nat.add_zero] at rx1 sx1);have rx2:=bx.row' 2 rfl;have sx2:=bx.soft' 2 rfl;(try simp only [Nat.add_zero] at rx2 sx2);have rx3:=bx.row' 3 rfl;have sx3:=bx.soft' 3 rfl;(try simp only [Nat.add_zero] at rx3 sx3);have BX:=zac8 bx;clear bx
 generalize g2.val=V2 at *
 go_upto_region 6 with (fail)
 have bx:=BX.out.set (j:=1) rfl 7 (.int .i64 (wrap64 (n.at_ d1.g.w + 3 * t.mar)))
 rw [zs4] at bx
 generalize hd2:({d1 with g:={d1.g with u:=wrap64 (n.at_ d1.g.w + 3 * t.mar)}}:Dl)=d2 at bx
 clear BX rx0 sx0 rx1 sx1 rx2 sx2 rx3 sx3
 generalize V2.setCell _ _=W2 at bx ⊢
 have rx0:=bx.row' 0 rfl
 have sx0:=bx.soft' 0 rfl
 have hlt0:=bx.lt 0 rfl
 have rx1:=bx.row' 1 rfl
 have sx1:=bx.soft' 1 rfl
 have hlt1:=bx.lt 1 rfl
 have rx2:=bx.row' 2 rfl
 have sx2:=bx.soft' 2 rfl
 have hlt2:=bx.lt 2 rfl
 have rx3:=bx.row' 3 rfl
 have sx3:=bx.soft' 3 rfl
 have hlt3:=bx.lt 3 rfl
 simp only [Nat.add_zero] at rx0 sx0 hlt0
 have BX:=zac8 bx
 clear bx
 have HD2:=zac8 hd2
 clear hd2
 go_wp2
 have hc:rowOf (World.setRow W2 (w.heap.size + 1 + 1 + 1) d2.cells) (w.heap.size + 1 + 1 + 1)=d2.cells:=(zab _ _ _ _ sx3).trans (if_pos rfl)
 refine bodyPost_ret (za5 (t:=60) rfl Tryz.underlying60 rfl (by kernel_rfl) _ _ (w.heap.size + 1 + 1 + 1) rfl hc (zla _)) rfl ?_
 refine ⟨?_,Below.setRow_ BX.out.below (by omega) _⟩
 rw [LV.out,← HD2.out,hg.out,← HD1.out]
set_option maxHeartbeats 4000000 in
theorem zw9 {t:Tm} (h:TmT t) (d:Dl) (n:Cl) (hr:(d.r == 1)=false) (w:World):Calls Tryz.prog 105 #[.agg t.cells,.agg d.cells,.agg n.cells] w fun e w'=>e=.returned (.agg (zgb t d n).cells)∧Below w.heap.size w w':=by
 have H:=zac8 h
 have LV:=zac8 (show zgb t d n={ d with p:={ d.p with u:=wrap64 (n.at_ d.p.w + 3 * t.mar) },g:={ d.g with u:=wrap64 (n.at_ d.g.w + t.long) } } from if_neg (by simpa using hr))
 clear h
 go_enter Tryz.func105,Tryz.ntmps105
 go_upto_region 1 with (fail)
 have bx:=Bxs.new4 w (t.cells) 68 (d.cells) 60 (n.cells) 52 (Dl.zero.cells) 60;generalize ((((w.alloc (.cells (t.cells) 68)).alloc (.cells (d.cells) 60)).alloc (.cells (n.cells) 52)).alloc (.cells (Dl.zero.cells) 60))=W at bx ⊢;have rx0:=bx.row' 0 rfl;have sx0:=bx.soft' 0 rfl;(try simp only [Nat.add_zero] at rx0 sx0);have rx1:=bx.row' 1 rfl;have sx1:=bx.soft' 1 rfl;(try simp only [Nat.add_zero] at rx1 sx1);have rx2:=bx.row' 2 rfl;have sx2:=bx.soft' 2 rfl;(try simp only [Nat.add_zero] at rx2 sx2);have rx3:=bx.row' 3 rfl;have sx3:=bx.soft' 3 rfl;(try simp only [Nat.add_zero] at rx3 sx3);have BX:=zac8 bx;clear bx
 have hlt0:=BX.out.lt 0 rfl
 have hlt1:=BX.out.lt 1 rfl
 have hlt2:=BX.out.lt 2 rfl
 have hlt3:=BX.out.lt 3 rfl
 simp only [Nat.add_zero] at hlt0
 go_upto_region 4 with (fail)
 (refine zap 12 (by kernel_rfl) (by kernel_rfl) ?_;simp only [List.take_succ_cons,List.take_zero,List.drop_succ_cons,List.drop_zero];(repeat (go_big_quiet_step ((first | (go_at_call 166;exact Calls.ext_of (zlo _ _ _)) | (go_at_call 167;exact Calls.ext_of (zo6 H.out _))))));refine wpQuiet_nil ?_;rintro _ ⟨g,rfl⟩)
 have bx:=BX.out.step g.below;clear BX rx0 sx0 rx1 sx1 rx2 sx2 rx3 sx3;have rx0:=bx.row' 0 rfl;have sx0:=bx.soft' 0 rfl;(try simp only [Nat.add_zero] at rx0 sx0);have rx1:=bx.row' 1 rfl;have sx1:=bx.soft' 1 rfl;(try simp only [Nat.add_zero] at rx1 sx1);have rx2:=bx.row' 2 rfl;have sx2:=bx.soft' 2 rfl;(try simp only [Nat.add_zero] at rx2 sx2);have rx3:=bx.row' 3 rfl;have sx3:=bx.soft' 3 rfl;(try simp only [Nat.add_zero] at rx3 sx3);have BX:=zac8 bx;clear bx
 generalize g.val=V1 at *
 go_wp2_with fail
 have bx:=BX.out.set (j:=1) rfl 7 (.int .i64 (wrap64 (n.at_ d.g.w + t.long)))
 rw [zs4] at bx
 generalize hd1:({d with g:={d.g with u:=wrap64 (n.at_ d.g.w + t.long)}}:Dl)=d1 at bx
 clear BX rx0 sx0 rx1 sx1 rx2 sx2 rx3 sx3
 generalize V1.setCell _ _=W1 at bx ⊢
 have rx0:=bx.row' 0 rfl
 have sx0:=bx.soft' 0 rfl
 have hlt0:=bx.lt 0 rfl
 have rx1:=bx.row' 1 rfl
 have sx1:=bx.soft' 1 rfl
 have hlt1:=bx.lt 1 rfl
 have rx2:=bx.row' 2 rfl
 have sx2:=bx.soft' 2 rfl
 have hlt2:=bx.lt 2 rfl
 have rx3:=bx.row' 3 rfl
 have sx3:=bx.soft' 3 rfl
 have hlt3:=bx.lt 3 rfl
 simp only [Nat.add_zero] at rx0 sx0 hlt0
 have BX:=zac8 bx
 clear bx
 have hg:=zac8 (show d1.p=d.p by rw [← hd1])
 have HD1:=zac8 hd1
 clear hd1
 (refine zap 12 (by kernel_rfl) (by kernel_rfl) ?_;simp only [List.take_succ_cons,List.take_zero,List.drop_succ_cons,List.drop_zero];(repeat (go_big_quiet_step ((first | (go_at_call 166;exact Calls.ext_of (zlo _ _ _)) | (go_at_call 168;exact Calls.ext_of (zh9 H.out _))))));refine wpQuiet_nil ?_;rintro _ ⟨g2,rfl⟩)
 have bx:=BX.out.step g2.below;clear BX rx0 sx0 rx1 sx1 rx2 sx2 rx3 sx3;have rx0:=bx.row' 0 rfl;have sx0:=bx.soft' 0 rfl;(try simp only [Nat.add_zero] at rx0 sx0);have rx1:=bx.row' 1 rfl;have sx1:=bx.soft' 1 rfl;(try simp only [Nat.add_zero] at rx1 sx1);have rx2:=bx.row' 2 rfl;have sx2:=bx.soft' 2 rfl;(try simp only [Nat.add_zero] at rx2 sx2);have rx3:=bx.row' 3 rfl;have sx3:=bx.soft' 3 rfl;(try simp only [Nat.add_zero] at rx3 sx3);have BX:=zac8 bx;clear bx
 generalize g2.val=V2 at *
 go_upto_region 6 with (fail)
 have bx:=BX.out.set (j:=1) rfl 4 (.int .i64 (wrap64 (n.at_ d1.p.w + 3 * t.mar)))
 rw [zs3] at bx
 generalize hd2:({d1 with p:={d1.p with u:=wrap64 (n.at_ d1.p.w + 3 * t.mar)}}:Dl)=d2 at bx
 clear BX rx0 sx0 rx1 sx1 rx2 sx2 rx3 sx3
 generalize V2.setCell _ _=W2 at bx ⊢
 have rx0:=bx.row' 0 rfl
 have sx0:=bx.soft' 0 rfl
 have hlt0:=bx.lt 0 rfl
 have rx1:=bx.row' 1 rfl
 have sx1:=bx.soft' 1 rfl
 have hlt1:=bx.lt 1 rfl
 have rx2:=bx.row' 2 rfl
 have sx2:=bx.soft' 2 rfl
 have hlt2:=bx.lt 2 rfl
 have rx3:=bx.row' 3 rfl
 have sx3:=bx.soft' 3 rfl
 have hlt3:=bx.lt 3 rfl
 simp only [Nat.add_zero] at rx0 sx0 hlt0
 have BX:=zac8 bx
 clear bx
 have HD2:=zac8 hd2
 clear hd2
 go_wp2
 have hc:rowOf (World.setRow W2 (w.heap.size + 1 + 1 + 1) d2.cells) (w.heap.size + 1 + 1 + 1)=d2.cells:=(zab _ _ _ _ sx3).trans (if_pos rfl)
 refine bodyPost_ret (za5 (t:=60) rfl Tryz.underlying60 rfl (by kernel_rfl) _ _ (w.heap.size + 1 + 1 + 1) rfl hc (zla _)) rfl ?_
 refine ⟨?_,Below.setRow_ BX.out.below (by omega) _⟩
 rw [LV.out,← HD2.out,hg.out,← HD1.out]
theorem zxa {t:Tm} (h:TmT t) (d:Dl) (n:Cl) (w:World):Calls Tryz.prog 105 #[.agg t.cells,.agg d.cells,.agg n.cells] w fun e w'=>e=.returned (.agg (zgb t d n).cells)∧Below w.heap.size w w':=by
 by_cases hr:d.r=1
 ·exact zw8 h d n hr w
 ·exact zw9 h d n (by simpa using hr) w
end Go.Proofs.YthjgiamfaijoeaaGreatDoor
