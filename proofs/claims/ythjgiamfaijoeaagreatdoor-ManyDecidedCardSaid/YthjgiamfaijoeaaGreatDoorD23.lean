/- What is proved: parts of the walk and of the plain law. No condition but those each law names. -/
import Derived.Test.YthjgiamfaijoeaaGreatDoorD21
import Derived.Test.YthjgiamfaijoeaaGreatDoorD22
import Derived.Test.YthjgiamfaijoeaaGreatDoorD00
set_option linter.unusedSimpArgs false
set_option linter.unusedVariables false
set_option maxRecDepth 100000
namespace Go.Proofs.YthjgiamfaijoeaaGreatDoor
open Go.RowKit
section
attribute [local go_sem ↓] zdg
def totV (l:List Int):Int × Int:=if zbt l=true∧l.sum ≤ 1125899906842624 then (l.sum,0) else (0,15)
theorem zpm {l:List Int} (h:zbt l=true) {x:Int} (hx:x ∈ l):aisA x:=by unfold zbt at h;rw [List.all_eq_true] at h;simpa using h x hx
theorem zeu:∀ {l:List Int},zbt l=true→0 ≤ l.sum
 | [],_=>by simp
 | x :: l,h=>by
  have h1:=zpm h (List.mem_cons_self ..)
  have h2:zbt l=true:=by unfold zbt at h ⊢;simp only [List.all_cons,Bool.and_eq_true] at h;exact h.2
  have h3:=zeu h2
  simp only [List.sum_cons]
  have:=h1.1
  omega
theorem zxw {l:List Int} {j:Nat} {x:Int} (h:l[j]?=some x):(l.take (j + 1)).sum=(l.take j).sum + x:=by
 rw [List.take_add_one,h];simp
theorem znv {l:List Int} (h:zbt l=true) (j:Nat):(l.take j).sum ≤ l.sum:=by
 have h1:(l.take j).sum + (l.drop j).sum=l.sum:=by rw [← List.sum_append_int,List.take_append_drop]
 have h2:zbt (l.drop j)=true:=by
  unfold zbt at h ⊢
  rw [List.all_eq_true] at h ⊢
  exact fun x hx=>h x (List.mem_of_mem_drop hx)
 have:=zeu h2
 omega
theorem zpn {l:List Int} {j:Nat} {x:Int} (h:l[j]?=some x) (hx:¬ aisA x ∨ (l.take (j + 1)).sum > 1125899906842624):totV l=(0,15):=by
 unfold totV
 rw [if_neg]
 rintro ⟨h1,h2⟩
 rcases hx with hx | hx
 ·exact hx (zpm h1 (List.mem_of_getElem? h))
 ·have:=znv h1 (j + 1)
  omega
set_option maxHeartbeats 2000000 in
theorem zig {w:World} {ao:Option Addr} {n c:Nat} {l:List Int} (hl:Sl w ao n c (aits l)) (hn:n < 1099511627776):Calls Tryz.prog 360 #[.slice ao n c] w (Ret (zef (totV l)) w):=by
 have hln:l.length=n:=by rw [← hl.len,zes]
 have T0:=aTwo.mk2 w (.int .i64 0) (.int .i64 0) 3 38
 go_enter_defers Tryz.func360,Tryz.ntmps360
 go_wp2_with fail
 go_loopw [8] (fun i wr=>∃ j:Nat,j ≤ n∧i=.int .i64 j∧zbt (l.take j)=true∧(l.take j).sum ≤ 1125899906842624∧aTwo w wr (.int .i64 (l.take j).sum) (.int .i64 0)) (fun i _=>n - (intOf i).toNat)
 case atStart=>exact ⟨0,by omega,rfl,rfl,by simp,by simpa using T0⟩
 case round=>
  obtain ⟨j,hj,rfl,hall,hsum,TW⟩:=hrel
  have hb:=TW.below
  have hs0:=zeu hall
  by_cases hlt:j < n
  ·obtain ⟨b,o,rfl,hbw,hc⟩:=hl.at (by omega)
   obtain ⟨x,hjx⟩:∃ x,l[j]?=some x:=⟨_,zady (by omega)⟩
   have hx:=hc j _ (by rw [zuc,hjx];rfl)
   rw [← hb.cell (by exact hbw)] at hx
   have ht:=zl1 hjx
   have hst:=zxw hjx
   generalize hS:(l.take j).sum=S at hst hsum hs0 TW
   generalize hS':(l.take (j + 1)).sum=S' at hst
   by_cases hxa:aisA x
   ·have hone:zbt [x]=true:=by simp [zbt,hxa]
    have e1:IntKind.i64.wrap (S + x)=S + x:=by rw [IntKind.wrap_i64];have:=hxa.1;have:=hxa.2;omega
    go_wp2_with fail
    refine (zfs (zbp _ [x] _ (by simp [maxLen]) rfl rfl rfl) (by simp) hone).mono ?_
    rintro _ _ ⟨rfl,g,rfl⟩
    have T1:=(TW.alloc (.cells (aits [x]).toArray 3)).ext g
    have c0:=T1.c0
    have f0:=T1.f0
    by_cases hgt:S + x > 1125899906842624
    ·have hnot:¬ aisA (S + x):=fun h=>by have:=h.2;omega
     have htwo:zbt [S + x]=false:=by simp [zbt,hnot]
     have c0':=(T1.set0 (.int .i64 (S + x))).c0
     go_wp2_with fail
     refine (zft (zbp _ [S + x] _ (by simp [maxLen]) rfl (by simp [World.setCell]) rfl) (by simp) htwo).mono ?_
     rintro _ _ ⟨rfl,g2,rfl⟩
     have T2:=((T1.set0 (.int .i64 (S + x))).alloc (.cells (aits [S + x]).toArray 3)).ext g2
     clear c0 f0 c0'
     simp only []
     refine leaves_cons (f:=384) (args:=#[.pointer (some ⟨w.heap.size,0,none⟩),.pointer (some ⟨w.heap.size + 1,0,none⟩)]) (by simp) (by simp [go_sem]) ?_
     refine (T2.caught _ _).mono ?_
     rintro e u' w'' ⟨rfl,rfl,TE⟩
     have c0:=TE.c0
     have c1:=TE.c1
     simp [Leaves,settle,results,Tryz.results360,go_sem,c0,c1]
     exact Ret.mk_of TE.below (by rw [zpn hjx (.inr (by rw [hS',hst];exact hgt))];rfl)
    ·have hyes:aisA (S + x):=⟨by have:=hxa.1;omega,by omega⟩
     have htwo:zbt [S + x]=true:=by simp [zbt,hyes]
     have c0':=(T1.set0 (.int .i64 (S + x))).c0
     go_wp2_with fail
     refine (zfs (zbp _ [S + x] _ (by simp [maxLen]) rfl (by simp [World.setCell]) rfl) (by simp) htwo).mono ?_
     rintro _ _ ⟨rfl,g2,rfl⟩
     have T2:=((T1.set0 (.int .i64 (S + x))).alloc (.cells (aits [S + x]).toArray 3)).ext g2
     clear c0 f0 c0'
     go_wp2_with fail
     go_roundw
     case rel=>exact ⟨j + 1,by omega,rfl,by rw [ht,hall];simpa using hxa,by rw [hS'];omega,by rw [hS',hst];exact T2⟩
     case measure=>simp [intOf];omega
   ·have hone:zbt [x]=false:=by simp [zbt,hxa]
    go_wp2_with fail
    refine (zft (zbp _ [x] _ (by simp [maxLen]) rfl rfl rfl) (by simp) hone).mono ?_
    rintro _ _ ⟨rfl,g,rfl⟩
    have T1:=(TW.alloc (.cells (aits [x]).toArray 3)).ext g
    simp only []
    refine leaves_cons (f:=384) (args:=#[.pointer (some ⟨w.heap.size,0,none⟩),.pointer (some ⟨w.heap.size + 1,0,none⟩)]) (by simp) (by simp [go_sem]) ?_
    refine (T1.caught _ _).mono ?_
    rintro e u' w'' ⟨rfl,rfl,TE⟩
    have c0:=TE.c0
    have c1:=TE.c1
    simp [Leaves,settle,results,Tryz.results360,go_sem,c0,c1]
    exact Ret.mk_of TE.below (by rw [zpn hjx (.inl hxa)];rfl)
  ·obtain rfl:j=n:=by omega
   rw [← hln,List.take_length] at hall hsum TW
   have hv:totV l=(l.sum,0):=if_pos ⟨hall,hsum⟩
   have c0:=TW.c0
   have f0:=TW.f0
   have c1:=(TW.set0 (.int .i64 l.sum)).c1
   have f1:=TW.f1
   go_wp2_with fail
   have T3:=(TW.set0 (.int .i64 l.sum)).set1 (.int .i64 0)
   clear c0 c1
   refine leaves_cons (f:=384) (args:=#[.pointer (some ⟨w.heap.size,0,none⟩),.pointer (some ⟨w.heap.size + 1,0,none⟩)]) (by simp) (by simp [go_sem]) ?_
   refine (zgq _ _ _).mono ?_
   rintro e u' w'' ⟨rfl,rfl,rfl⟩
   have c0:=T3.c0
   have c1:=T3.c1
   simp [Leaves,settle,results,Tryz.results360,go_sem,c0,c1]
   exact Ret.mk_of T3.below (by rw [hv];rfl)
end
section
attribute [local go_sem ↓] zad
attribute [local go_sem] zaf zai
structure TmK (t:Tm):Prop where
 chk:chkT t=0
 tm:TmT t
 ppm:0 ≤ t.ppm∧t.ppm ≤ 1000000
 least:1 ≤ t.least
 most:t.most < 4294967296
def feeV (t:Tm) (a:Nat):Int × Int:=
 if (totV [t.base,(zi7 a t.ppm.toNat:Nat),t.reserve]).2 ≠ 0 then (0,(totV [t.base,(zi7 a t.ppm.toNat:Nat),t.reserve]).2)
 else if (zif (totV [t.base,(zi7 a t.ppm.toNat:Nat),t.reserve]).1 a).2 ≠ 0 then (0,(zif (totV [t.base,(zi7 a t.ppm.toNat:Nat),t.reserve]).1 a).2)
 else ((totV [t.base,(zi7 a t.ppm.toNat:Nat),t.reserve]).1,0)
theorem zab3 {t:Tm} (h:TmK t) {a:Nat} (ha:a < 4294967296) (w:World):Calls Tryz.prog 304 #[.agg t.cells,.int .i64 a] w fun e w'=>e=.returned (zef (feeV t a))∧Below w.heap.size w w':=by
 have hpp:=h.ppm
 obtain ⟨pp,hp⟩:∃ pp:Nat,t.ppm=pp:=⟨t.ppm.toNat,by omega⟩
 have QC:=zadv (fun w=>zet t w)
 rw [h.chk] at QC
 have PS:=zadv (fun w=>zrl ha (show pp ≤ 1000000 by omega) w)
 obtain ⟨P,hP⟩:∃ P,P=zi7 a pp:=⟨_,rfl⟩
 have hfee:feeV t a=if (totV [t.base,(P:Nat),t.reserve]).2 ≠ 0 then (0,(totV [t.base,(P:Nat),t.reserve]).2) else if (zif (totV [t.base,(P:Nat),t.reserve]).1 a).2 ≠ 0 then (0,(zif (totV [t.base,(P:Nat),t.reserve]).1 a).2) else ((totV [t.base,(P:Nat),t.reserve]).1,0):=by
  unfold feeV
  rw [hp,Int.toNat_natCast,← hP]
 rw [← hP] at PS
 obtain ⟨⟨x,e⟩,hx⟩:∃ y,totV [t.base,(P:Nat),t.reserve]=y:=⟨_,rfl⟩
 rw [hx] at hfee
 have HX:=zadv hx
 have HP:=zadv hp
 obtain ⟨⟨y,d⟩,hy⟩:∃ z,zif x a=z:=⟨_,rfl⟩
 rw [hy] at hfee
 have HY:=zadv hy
 rw [hfee]
 clear hx hy hP hfee hpp h
 by_cases he:e=0
 ·subst he
  rw [if_neg (by simp)]
  by_cases hd:d=0
  ·subst hd
   rw [if_neg (by simp)]
   go_enter Tryz.func304,Tryz.ntmps304
   go_upto_region 1 with (fail)
   have bx:=Bx.new w (t.cells) 68;generalize w.alloc (.cells (t.cells) 68)=W at bx ⊢;have rx:=bx.rowOf;have sx:=bx.soft;have BX:=zadv bx;clear bx
   go_wp2_with fail
   refine (QC.out W).mono ?_;rintro _ W2 ⟨rfl,hb⟩;have bx:=BX.out.step hb;clear BX rx sx hb;have rx:=bx.rowOf;have sx:=bx.soft;have BX:=zadv bx;clear bx
   go_wp2_with fail
   have hp:=HP.out
   refine (PS.out W2).mono ?_;rintro _ W3 ⟨rfl,hb⟩;have bx:=BX.out.step hb;clear BX rx sx hb;have rx:=bx.rowOf;have sx:=bx.soft;have BX:=zadv bx;clear bx
   clear hp
   have hb4:=zat W3 (.cells #[.int .i64 t.base,.int .i64 P,.int .i64 t.reserve] 3)
   have TA:=zadv (zig (w:=W3.alloc (.cells #[.int .i64 t.base,.int .i64 P,.int .i64 t.reserve] 3)) (l:=[t.base,(P:Nat),t.reserve]) (zbp W3 [t.base,(P:Nat),t.reserve] 3 (by simp [maxLen]) rfl rfl (n:=3) rfl) (by decide))
   rw [HX.out] at TA
   have HB4:=zadv hb4
   clear hb4
   go_wp2_with fail
   refine TA.out.mono ?_
   rintro _ W5 ⟨rfl,g5,rfl⟩
   have bx:=BX.out.step (HB4.out.trans (g5.below.mono HB4.out.size))
   clear BX rx sx TA HB4
   have rx:=bx.rowOf
   have sx:=bx.soft
   have BX:=zadv bx
   clear bx
   unfold zef
   go_wp2_with fail
   refine (zud x a g5.val).mono ?_
   rintro _ W6 ⟨rfl,g6,rfl⟩
   rw [HY.out]
   have B6:=zadv (BX.out.step g6.below).below
   unfold zef
   go_wp2
   refine bodyPost_ret (results_tmp2 rfl _ _ _) rfl ?_
   exact ⟨rfl,B6.out⟩
  ·rw [if_pos hd]
   have hd2:(d == 0)=false:=by rw [beq_eq_false_iff_ne];exact hd
   have hd3:(d != 0)=true:=by rw [bne_iff_ne];exact hd
   clear hd
   go_enter Tryz.func304,Tryz.ntmps304
   go_upto_region 1 with (fail)
   have bx:=Bx.new w (t.cells) 68;generalize w.alloc (.cells (t.cells) 68)=W at bx ⊢;have rx:=bx.rowOf;have sx:=bx.soft;have BX:=zadv bx;clear bx
   go_wp2_with fail
   refine (QC.out W).mono ?_;rintro _ W2 ⟨rfl,hb⟩;have bx:=BX.out.step hb;clear BX rx sx hb;have rx:=bx.rowOf;have sx:=bx.soft;have BX:=zadv bx;clear bx
   go_wp2_with fail
   have hp:=HP.out
   refine (PS.out W2).mono ?_;rintro _ W3 ⟨rfl,hb⟩;have bx:=BX.out.step hb;clear BX rx sx hb;have rx:=bx.rowOf;have sx:=bx.soft;have BX:=zadv bx;clear bx
   clear hp
   have hb4:=zat W3 (.cells #[.int .i64 t.base,.int .i64 P,.int .i64 t.reserve] 3)
   have TA:=zadv (zig (w:=W3.alloc (.cells #[.int .i64 t.base,.int .i64 P,.int .i64 t.reserve] 3)) (l:=[t.base,(P:Nat),t.reserve]) (zbp W3 [t.base,(P:Nat),t.reserve] 3 (by simp [maxLen]) rfl rfl (n:=3) rfl) (by decide))
   rw [HX.out] at TA
   have HB4:=zadv hb4
   clear hb4
   go_wp2_with fail
   refine TA.out.mono ?_
   rintro _ W5 ⟨rfl,g5,rfl⟩
   have bx:=BX.out.step (HB4.out.trans (g5.below.mono HB4.out.size))
   clear BX rx sx TA HB4
   have rx:=bx.rowOf
   have sx:=bx.soft
   have BX:=zadv bx
   clear bx
   unfold zef
   go_wp2_with fail
   refine (zud x a g5.val).mono ?_
   rintro _ W6 ⟨rfl,g6,rfl⟩
   rw [HY.out]
   have B6:=zadv (BX.out.step g6.below).below
   unfold zef
   go_wp2
   refine bodyPost_ret (results_tmp2 rfl _ _ _) rfl ?_
   exact ⟨rfl,B6.out⟩
 ·rw [if_pos he]
  have he2:(e == 0)=false:=by rw [beq_eq_false_iff_ne];exact he
  have he3:(e != 0)=true:=by rw [bne_iff_ne];exact he
  clear he
  go_enter Tryz.func304,Tryz.ntmps304
  go_upto_region 1 with (fail)
  have bx:=Bx.new w (t.cells) 68;generalize w.alloc (.cells (t.cells) 68)=W at bx ⊢;have rx:=bx.rowOf;have sx:=bx.soft;have BX:=zadv bx;clear bx
  go_wp2_with fail
  refine (QC.out W).mono ?_;rintro _ W2 ⟨rfl,hb⟩;have bx:=BX.out.step hb;clear BX rx sx hb;have rx:=bx.rowOf;have sx:=bx.soft;have BX:=zadv bx;clear bx
  go_wp2_with fail
  have hp:=HP.out
  refine (PS.out W2).mono ?_;rintro _ W3 ⟨rfl,hb⟩;have bx:=BX.out.step hb;clear BX rx sx hb;have rx:=bx.rowOf;have sx:=bx.soft;have BX:=zadv bx;clear bx
  clear hp
  have hb4:=zat W3 (.cells #[.int .i64 t.base,.int .i64 P,.int .i64 t.reserve] 3)
  have TA:=zadv (zig (w:=W3.alloc (.cells #[.int .i64 t.base,.int .i64 P,.int .i64 t.reserve] 3)) (l:=[t.base,(P:Nat),t.reserve]) (zbp W3 [t.base,(P:Nat),t.reserve] 3 (by simp [maxLen]) rfl rfl (n:=3) rfl) (by decide))
  rw [HX.out] at TA
  have HB4:=zadv hb4
  clear hb4
  go_wp2_with fail
  refine TA.out.mono ?_
  rintro _ W5 ⟨rfl,g5,rfl⟩
  have bx:=BX.out.step (HB4.out.trans (g5.below.mono HB4.out.size))
  clear BX rx sx TA HB4
  have rx:=bx.rowOf
  have sx:=bx.soft
  have BX:=zadv bx
  clear bx
  unfold zef
  go_wp2
  refine bodyPost_ret (results_tmp2 rfl _ _ _) rfl ?_
  exact ⟨rfl,BX.out.below⟩
def zc4 (t:Tm) (a free:Int):Int × Int:=if a < t.least ∨ a > t.most ∨ a > free then (0,22) else if (feeV t a.toNat).2 ≠ 0 then (0,(feeV t a.toNat).2) else (a + (feeV t a.toNat).1,0)
theorem zfu {t:Tm} (h:TmK t) (a free:Int) (w:World):Calls Tryz.prog 229 #[.agg t.cells,.int .i64 a,.int .i64 free] w fun e w'=>e=.returned (zef (zc4 t a free))∧Below w.heap.size w w':=by
 have QC:=zadv (fun w=>zet t w)
 rw [h.chk] at QC
 unfold zc4
 by_cases h1:a < t.least
 ·rw [if_pos (Or.inl h1)]
  go_enter Tryz.func229,Tryz.ntmps229
  go_upto_region 1 with (fail)
  have bx:=Bx.new w (t.cells) 68;generalize w.alloc (.cells (t.cells) 68)=W at bx ⊢;have rx:=bx.rowOf;have sx:=bx.soft;have BX:=zadv bx;clear bx
  go_wp2_with fail
  refine (QC.out W).mono ?_;rintro _ W2 ⟨rfl,hb⟩;have bx:=BX.out.step hb;clear BX rx sx hb;have rx:=bx.rowOf;have sx:=bx.soft;have BX:=zadv bx;clear bx
  go_wp2
  refine bodyPost_ret (results_tmp2 rfl _ _ _) rfl ?_
  exact ⟨rfl,BX.out.below⟩
 by_cases h2:a > t.most
 ·rw [if_pos (Or.inr (Or.inl h2))]
  go_enter Tryz.func229,Tryz.ntmps229
  go_upto_region 1 with (fail)
  have bx:=Bx.new w (t.cells) 68;generalize w.alloc (.cells (t.cells) 68)=W at bx ⊢;have rx:=bx.rowOf;have sx:=bx.soft;have BX:=zadv bx;clear bx
  go_wp2_with fail
  refine (QC.out W).mono ?_;rintro _ W2 ⟨rfl,hb⟩;have bx:=BX.out.step hb;clear BX rx sx hb;have rx:=bx.rowOf;have sx:=bx.soft;have BX:=zadv bx;clear bx
  go_wp2
  refine bodyPost_ret (results_tmp2 rfl _ _ _) rfl ?_
  exact ⟨rfl,BX.out.below⟩
 by_cases h3:a > free
 ·rw [if_pos (Or.inr (Or.inr h3))]
  go_enter Tryz.func229,Tryz.ntmps229
  go_upto_region 1 with (fail)
  have bx:=Bx.new w (t.cells) 68;generalize w.alloc (.cells (t.cells) 68)=W at bx ⊢;have rx:=bx.rowOf;have sx:=bx.soft;have BX:=zadv bx;clear bx
  go_wp2_with fail
  refine (QC.out W).mono ?_;rintro _ W2 ⟨rfl,hb⟩;have bx:=BX.out.step hb;clear BX rx sx hb;have rx:=bx.rowOf;have sx:=bx.soft;have BX:=zadv bx;clear bx
  go_wp2
  refine bodyPost_ret (results_tmp2 rfl _ _ _) rfl ?_
  exact ⟨rfl,BX.out.below⟩
 rw [if_neg (by rintro (h | h | h) <;> omega)]
 have hl:=h.least
 have hm:=h.most
 obtain ⟨n,rfl⟩:∃ n:Nat,a=n:=⟨a.toNat,by omega⟩
 rw [Int.toNat_natCast]
 have FE:=zadv (fun w=>zab3 h (a:=n) (by omega) w)
 obtain ⟨⟨x,e⟩,hx⟩:∃ y,feeV t n=y:=⟨_,rfl⟩
 have hr:e=0→0 ≤ x∧x ≤ 1125899906842624:=by
  intro he
  subst he
  have hz:=hx
  unfold feeV at hz
  split at hz
  ·injection hz with u v;contradiction
  ·rename_i hz1
   split at hz
   ·injection hz with u v;contradiction
   ·injection hz with u v
    rw [← u]
    unfold totV at hz1 ⊢
    split
    ·rename_i hq
     exact ⟨zeu hq.1,hq.2⟩
    ·rename_i hq
     rw [if_neg hq] at hz1
     exact absurd (by decide) hz1
 rw [hx] at FE ⊢
 have HN:=zadv (show n < 4294967296 by omega)
 clear hx hl hm h
 by_cases he:e=0
 ·subst he
  have hxr:=zadv (hr rfl)
  have e0:((0:Int) == 0)=true:=rfl
  clear hr
  rw [if_neg (by simp)]
  go_enter Tryz.func229,Tryz.ntmps229
  go_upto_region 1 with (fail)
  have bx:=Bx.new w (t.cells) 68;generalize w.alloc (.cells (t.cells) 68)=W at bx ⊢;have rx:=bx.rowOf;have sx:=bx.soft;have BX:=zadv bx;clear bx
  go_wp2_with fail
  refine (QC.out W).mono ?_;rintro _ W2 ⟨rfl,hb⟩;have bx:=BX.out.step hb;clear BX rx sx hb;have rx:=bx.rowOf;have sx:=bx.soft;have BX:=zadv bx;clear bx
  go_wp2_with fail
  refine (FE.out W2).mono ?_;rintro _ W3 ⟨rfl,hb⟩;have bx:=BX.out.step hb;clear BX rx sx hb;have rx:=bx.rowOf;have sx:=bx.soft;have BX:=zadv bx;clear bx
  unfold zef
  go_wp2
  refine bodyPost_ret (results_tmp2 rfl _ _ _) rfl ?_
  refine ⟨?_,BX.out.below⟩
  show Ending.returned (.tuple #[.int .i64 (wrap64 ((n:Int) + x)),.int .i64 0])=_
  rw [IntWalk.wrap64_in _ (by have:=HN.out;have:=hxr.out;omega)]
  rfl
 ·have hd2:(e == 0)=false:=by rw [beq_eq_false_iff_ne];exact he
  have hd3:(e != 0)=true:=by rw [bne_iff_ne];exact he
  clear hr
  rw [if_pos he]
  clear he
  go_enter Tryz.func229,Tryz.ntmps229
  go_upto_region 1 with (fail)
  have bx:=Bx.new w (t.cells) 68;generalize w.alloc (.cells (t.cells) 68)=W at bx ⊢;have rx:=bx.rowOf;have sx:=bx.soft;have BX:=zadv bx;clear bx
  go_wp2_with fail
  refine (QC.out W).mono ?_;rintro _ W2 ⟨rfl,hb⟩;have bx:=BX.out.step hb;clear BX rx sx hb;have rx:=bx.rowOf;have sx:=bx.soft;have BX:=zadv bx;clear bx
  go_wp2_with fail
  refine (FE.out W2).mono ?_;rintro _ W3 ⟨rfl,hb⟩;have bx:=BX.out.step hb;clear BX rx sx hb;have rx:=bx.rowOf;have sx:=bx.soft;have BX:=zadv bx;clear bx
  unfold zef
  go_wp2
  refine bodyPost_ret (results_tmp2 rfl _ _ _) rfl ?_
  exact ⟨rfl,BX.out.below⟩
end
section
attribute [local go_sem ↓] zad
attribute [local go_sem] zaf zai zaj zal zab zah zae Ext.row Ext.soft_
theorem Bxs.set {w W:World} {L:List (Array Value × TypeId)} (h:Bxs w L W) {j:Nat} {C:Array Value} {t:TypeId} (hj:L[j]?=some (C,t)) (k:Nat) (v:Value):Bxs w (L.set j (C.setIfInBounds k v,t)) (W.setCell ⟨w.heap.size + j,k,none⟩ v):=by
 refine ⟨h.below.setCell (Nat.le_add_right ..) _,fun i D u hi=>?_⟩
 by_cases e:i=j
 ·subst e
  rw [List.getElem?_set_self (List.getElem?_eq_some_iff.1 hj).1] at hi
  injection hi with hi
  injection hi with h1 h2
  subst h1 h2
  rw [zag,if_pos rfl,h.rows i C t hj]
  rfl
 ·rw [List.getElem?_set_ne (fun x=>e x.symm)] at hi
  rw [zag,if_neg (by show ¬ w.heap.size + j=w.heap.size + i;omega)]
  exact h.rows i D u hi
def zgf (t:Tm) (d:Dl) (n:Cl):Dl:=
 if d.r=1 then { d with p:={ d.p with u:=wrap64 (n.at_ d.p.w + t.long) },g:={ d.g with u:=wrap64 (n.at_ d.g.w + 3 * t.mar) } }
 else { d with p:={ d.p with u:=wrap64 (n.at_ d.p.w + 3 * t.mar) },g:={ d.g with u:=wrap64 (n.at_ d.g.w + t.long) } }
set_option maxHeartbeats 4000000 in
theorem zxx {t:Tm} (h:TmT t) (d:Dl) (n:Cl) (hr:d.r=1) (w:World):Calls Tryz.prog 105 #[.agg t.cells,.agg d.cells,.agg n.cells] w fun e w'=>e=.returned (.agg (zgf t d n).cells)∧Below w.heap.size w w':=by
 have H:=zadv h
 have LV:=zadv (show zgf t d n={ d with p:={ d.p with u:=wrap64 (n.at_ d.p.w + t.long) },g:={ d.g with u:=wrap64 (n.at_ d.g.w + 3 * t.mar) } } from if_pos hr)
 clear h
 go_enter Tryz.func105,Tryz.ntmps105
 go_upto_region 1 with (fail)
 have bx:=Bxs.new4 w (t.cells) 68 (d.cells) 60 (n.cells) 52 (Dl.zero.cells) 60;generalize ((((w.alloc (.cells (t.cells) 68)).alloc (.cells (d.cells) 60)).alloc (.cells (n.cells) 52)).alloc (.cells (Dl.zero.cells) 60))=W at bx ⊢;have rx0:=bx.row' 0 rfl;have sx0:=bx.soft' 0 rfl;(try simp only [Nat.add_zero] at rx0 sx0);have rx1:=bx.row' 1 rfl;have sx1:=bx.soft' 1 rfl;(try simp only [Nat.add_zero] at rx1 sx1);have rx2:=bx.row' 2 rfl;have sx2:=bx.soft' 2 rfl;(try simp only [Nat.add_zero] at rx2 sx2);have rx3:=bx.row' 3 rfl;have sx3:=bx.soft' 3 rfl;(try simp only [Nat.add_zero] at rx3 sx3);have BX:=zadv bx;clear bx
 have hlt0:=BX.out.lt 0 rfl
 have hlt1:=BX.out.lt 1 rfl
 have hlt2:=BX.out.lt 2 rfl
 have hlt3:=BX.out.lt 3 rfl
 simp only [Nat.add_zero] at hlt0
 go_upto_region 4 with (fail)
 (refine zap 12 (by kernel_rfl) (by kernel_rfl) ?_;simp only [List.take_succ_cons,List.take_zero,List.drop_succ_cons,List.drop_zero];(repeat (go_big_quiet_step ((first | (go_at_call 166;exact Calls.ext_of (zl0 _ _ _)) | (go_at_call 167;exact Calls.ext_of (zpk H.out _))))));refine wpQuiet_nil ?_;rintro _ ⟨g,rfl⟩)
 have bx:=BX.out.step g.below;clear BX rx0 sx0 rx1 sx1 rx2 sx2 rx3 sx3;have rx0:=bx.row' 0 rfl;have sx0:=bx.soft' 0 rfl;(try simp only [Nat.add_zero] at rx0 sx0);have rx1:=bx.row' 1 rfl;have sx1:=bx.soft' 1 rfl;(try simp only [Nat.add_zero] at rx1 sx1);have rx2:=bx.row' 2 rfl;have sx2:=bx.soft' 2 rfl;(try simp only [Nat.add_zero] at rx2 sx2);have rx3:=bx.row' 3 rfl;have sx3:=bx.soft' 3 rfl;(try simp only [Nat.add_zero] at rx3 sx3);have BX:=zadv bx;clear bx
 generalize g.val=V1 at *
 go_wp2_with fail
 have bx:=BX.out.set (j:=1) rfl 4 (.int .i64 (wrap64 (n.at_ d.p.w + t.long)))
 rw [ztl] at bx
 generalize hd1:({d with p:={d.p with u:=wrap64 (n.at_ d.p.w + t.long)}}:Dl)=d1 at bx
 clear BX rx0 sx0 rx1 sx1 rx2 sx2 rx3 sx3
 generalize V1.setCell _ _=W1 at bx ⊢
 have rx0:=bx.row' 0 rfl
 have sx0:=bx.soft' 0 rfl
 have hlt0:=bx.lt 0 rfl
 have rx1:=bx.row' 1 rfl
 have sx1:=bx.soft' 1 rfl
 have hlt1:=bx.lt 1 rfl
 have rx2:=bx.row' 2 rfl
 have sx2:=bx.soft' 2 rfl
 have hlt2:=bx.lt 2 rfl
 have rx3:=bx.row' 3 rfl
 have sx3:=bx.soft' 3 rfl
 have hlt3:=bx.lt 3 rfl
 simp only [Nat.add_zero] at rx0 sx0 hlt0
 have BX:=zadv bx
 clear bx
 have hg:=zadv (show d1.g=d.g by rw [← hd1])
 have HD1:=zadv hd1
 clear hd1
 (refine zap 12 (by kernel_rfl) (by kernel_rfl) ?_;simp only [List.take_succ_cons,List.take_zero,List.drop_succ_cons,List.drop_zero];(repeat (go_big_quiet_step ((first | (go_at_call 166;exact Calls.ext_of (zl0 _ _ _)) | (go_at_call 168;exact Calls.ext_of (zie H.out _))))));refine wpQuiet_nil ?_;rintro _ ⟨g2,rfl⟩)
 have bx:=BX.out.step g2.below;clear BX rx0 sx0 rx1 sx1 rx2 sx2 rx3 sx3;have rx0:=bx.row' 0 rfl;have sx0:=bx.soft' 0 rfl;(try simp only [Nat.add_zero] at rx0 sx0);have rx1:=bx.row' 1 rfl;have sx1:=bx.soft' 1 rfl;(try simp only [Nat.add_zero] at rx1 sx1);have rx2:=bx.row' 2 rfl;have sx2:=bx.soft' 2 rfl;(try simp only [Nat.add_zero] at rx2 sx2);have rx3:=bx.row' 3 rfl;have sx3:=bx.soft' 3 rfl;(try simp only [Nat.add_zero] at rx3 sx3);have BX:=zadv bx;clear bx
 generalize g2.val=V2 at *
 go_upto_region 6 with (fail)
 have bx:=BX.out.set (j:=1) rfl 7 (.int .i64 (wrap64 (n.at_ d1.g.w + 3 * t.mar)))
 rw [ztm] at bx
 generalize hd2:({d1 with g:={d1.g with u:=wrap64 (n.at_ d1.g.w + 3 * t.mar)}}:Dl)=d2 at bx
 clear BX rx0 sx0 rx1 sx1 rx2 sx2 rx3 sx3
 generalize V2.setCell _ _=W2 at bx ⊢
 have rx0:=bx.row' 0 rfl
 have sx0:=bx.soft' 0 rfl
 have hlt0:=bx.lt 0 rfl
 have rx1:=bx.row' 1 rfl
 have sx1:=bx.soft' 1 rfl
 have hlt1:=bx.lt 1 rfl
 have rx2:=bx.row' 2 rfl
 have sx2:=bx.soft' 2 rfl
 have hlt2:=bx.lt 2 rfl
 have rx3:=bx.row' 3 rfl
 have sx3:=bx.soft' 3 rfl
 have hlt3:=bx.lt 3 rfl
 simp only [Nat.add_zero] at rx0 sx0 hlt0
 have BX:=zadv bx
 clear bx
 have HD2:=zadv hd2
 clear hd2
 go_wp2
 have hc:rowOf (World.setRow W2 (w.heap.size + 1 + 1 + 1) d2.cells) (w.heap.size + 1 + 1 + 1)=d2.cells:=(zab _ _ _ _ sx3).trans (if_pos rfl)
 refine bodyPost_ret (za6 (t:=60) rfl Tryz.underlying60 rfl (by kernel_rfl) _ _ (w.heap.size + 1 + 1 + 1) rfl hc (zlm _)) rfl ?_
 refine ⟨?_,Below.setRow_ BX.out.below (by omega) _⟩
 rw [LV.out,← HD2.out,hg.out,← HD1.out]
set_option maxHeartbeats 4000000 in
theorem zxy {t:Tm} (h:TmT t) (d:Dl) (n:Cl) (hr:(d.r == 1)=false) (w:World):Calls Tryz.prog 105 #[.agg t.cells,.agg d.cells,.agg n.cells] w fun e w'=>e=.returned (.agg (zgf t d n).cells)∧Below w.heap.size w w':=by
 have H:=zadv h
 have LV:=zadv (show zgf t d n={ d with p:={ d.p with u:=wrap64 (n.at_ d.p.w + 3 * t.mar) },g:={ d.g with u:=wrap64 (n.at_ d.g.w + t.long) } } from if_neg (by simpa using hr))
 clear h
 go_enter Tryz.func105,Tryz.ntmps105
 go_upto_region 1 with (fail)
 have bx:=Bxs.new4 w (t.cells) 68 (d.cells) 60 (n.cells) 52 (Dl.zero.cells) 60;generalize ((((w.alloc (.cells (t.cells) 68)).alloc (.cells (d.cells) 60)).alloc (.cells (n.cells) 52)).alloc (.cells (Dl.zero.cells) 60))=W at bx ⊢;have rx0:=bx.row' 0 rfl;have sx0:=bx.soft' 0 rfl;(try simp only [Nat.add_zero] at rx0 sx0);have rx1:=bx.row' 1 rfl;have sx1:=bx.soft' 1 rfl;(try simp only [Nat.add_zero] at rx1 sx1);have rx2:=bx.row' 2 rfl;have sx2:=bx.soft' 2 rfl;(try simp only [Nat.add_zero] at rx2 sx2);have rx3:=bx.row' 3 rfl;have sx3:=bx.soft' 3 rfl;(try simp only [Nat.add_zero] at rx3 sx3);have BX:=zadv bx;clear bx
 have hlt0:=BX.out.lt 0 rfl
 have hlt1:=BX.out.lt 1 rfl
 have hlt2:=BX.out.lt 2 rfl
 have hlt3:=BX.out.lt 3 rfl
 simp only [Nat.add_zero] at hlt0
 go_upto_region 4 with (fail)
 (refine zap 12 (by kernel_rfl) (by kernel_rfl) ?_;simp only [List.take_succ_cons,List.take_zero,List.drop_succ_cons,List.drop_zero];(repeat (go_big_quiet_step ((first | (go_at_call 166;exact Calls.ext_of (zl0 _ _ _)) | (go_at_call 167;exact Calls.ext_of (zpk H.out _))))));refine wpQuiet_nil ?_;rintro _ ⟨g,rfl⟩)
 have bx:=BX.out.step g.below;clear BX rx0 sx0 rx1 sx1 rx2 sx2 rx3 sx3;have rx0:=bx.row' 0 rfl;have sx0:=bx.soft' 0 rfl;(try simp only [Nat.add_zero] at rx0 sx0);have rx1:=bx.row' 1 rfl;have sx1:=bx.soft' 1 rfl;(try simp only [Nat.add_zero] at rx1 sx1);have rx2:=bx.row' 2 rfl;have sx2:=bx.soft' 2 rfl;(try simp only [Nat.add_zero] at rx2 sx2);have rx3:=bx.row' 3 rfl;have sx3:=bx.soft' 3 rfl;(try simp only [Nat.add_zero] at rx3 sx3);have BX:=zadv bx;clear bx
 generalize g.val=V1 at *
 go_wp2_with fail
 have bx:=BX.out.set (j:=1) rfl 7 (.int .i64 (wrap64 (n.at_ d.g.w + t.long)))
 rw [ztm] at bx
 generalize hd1:({d with g:={d.g with u:=wrap64 (n.at_ d.g.w + t.long)}}:Dl)=d1 at bx
 clear BX rx0 sx0 rx1 sx1 rx2 sx2 rx3 sx3
 generalize V1.setCell _ _=W1 at bx ⊢
 have rx0:=bx.row' 0 rfl
 have sx0:=bx.soft' 0 rfl
 have hlt0:=bx.lt 0 rfl
 have rx1:=bx.row' 1 rfl
 have sx1:=bx.soft' 1 rfl
 have hlt1:=bx.lt 1 rfl
 have rx2:=bx.row' 2 rfl
 have sx2:=bx.soft' 2 rfl
 have hlt2:=bx.lt 2 rfl
 have rx3:=bx.row' 3 rfl
 have sx3:=bx.soft' 3 rfl
 have hlt3:=bx.lt 3 rfl
 simp only [Nat.add_zero] at rx0 sx0 hlt0
 have BX:=zadv bx
 clear bx
 have hg:=zadv (show d1.p=d.p by rw [← hd1])
 have HD1:=zadv hd1
 clear hd1
 (refine zap 12 (by kernel_rfl) (by kernel_rfl) ?_;simp only [List.take_succ_cons,List.take_zero,List.drop_succ_cons,List.drop_zero];(repeat (go_big_quiet_step ((first | (go_at_call 166;exact Calls.ext_of (zl0 _ _ _)) | (go_at_call 168;exact Calls.ext_of (zie H.out _))))));refine wpQuiet_nil ?_;rintro _ ⟨g2,rfl⟩)
 have bx:=BX.out.step g2.below;clear BX rx0 sx0 rx1 sx1 rx2 sx2 rx3 sx3;have rx0:=bx.row' 0 rfl;have sx0:=bx.soft' 0 rfl;(try simp only [Nat.add_zero] at rx0 sx0);have rx1:=bx.row' 1 rfl;have sx1:=bx.soft' 1 rfl;(try simp only [Nat.add_zero] at rx1 sx1);have rx2:=bx.row' 2 rfl;have sx2:=bx.soft' 2 rfl;(try simp only [Nat.add_zero] at rx2 sx2);have rx3:=bx.row' 3 rfl;have sx3:=bx.soft' 3 rfl;(try simp only [Nat.add_zero] at rx3 sx3);have BX:=zadv bx;clear bx
 generalize g2.val=V2 at *
 go_upto_region 6 with (fail)
 have bx:=BX.out.set (j:=1) rfl 4 (.int .i64 (wrap64 (n.at_ d1.p.w + 3 * t.mar)))
 rw [ztl] at bx
 generalize hd2:({d1 with p:={d1.p with u:=wrap64 (n.at_ d1.p.w + 3 * t.mar)}}:Dl)=d2 at bx
 clear BX rx0 sx0 rx1 sx1 rx2 sx2 rx3 sx3
 generalize V2.setCell _ _=W2 at bx ⊢
 have rx0:=bx.row' 0 rfl
 have sx0:=bx.soft' 0 rfl
 have hlt0:=bx.lt 0 rfl
 have rx1:=bx.row' 1 rfl
 have sx1:=bx.soft' 1 rfl
 have hlt1:=bx.lt 1 rfl
 have rx2:=bx.row' 2 rfl
 have sx2:=bx.soft' 2 rfl
 have hlt2:=bx.lt 2 rfl
 have rx3:=bx.row' 3 rfl
 have sx3:=bx.soft' 3 rfl
 have hlt3:=bx.lt 3 rfl
 simp only [Nat.add_zero] at rx0 sx0 hlt0
 have BX:=zadv bx
 clear bx
 have HD2:=zadv hd2
 clear hd2
 go_wp2
 have hc:rowOf (World.setRow W2 (w.heap.size + 1 + 1 + 1) d2.cells) (w.heap.size + 1 + 1 + 1)=d2.cells:=(zab _ _ _ _ sx3).trans (if_pos rfl)
 refine bodyPost_ret (za6 (t:=60) rfl Tryz.underlying60 rfl (by kernel_rfl) _ _ (w.heap.size + 1 + 1 + 1) rfl hc (zlm _)) rfl ?_
 refine ⟨?_,Below.setRow_ BX.out.below (by omega) _⟩
 rw [LV.out,← HD2.out,hg.out,← HD1.out]
theorem zxz {t:Tm} (h:TmT t) (d:Dl) (n:Cl) (w:World):Calls Tryz.prog 105 #[.agg t.cells,.agg d.cells,.agg n.cells] w fun e w'=>e=.returned (.agg (zgf t d n).cells)∧Below w.heap.size w w':=by
 by_cases hr:d.r=1
 ·exact zxx h d n hr w
 ·exact zxy h d n (by simpa using hr) w
end
section
attribute [local go_sem ↓] zad
attribute [local go_sem] zaf zai zaj zal zab zah zae Ext.row Ext.soft_
def zih (x:Int):Int:=bits BinOp.or IntKind.u32 (x * 65536 % 4294967296) (x / 65536)
theorem rot_16 (x:Int) (w:World):Calls Tryz.prog 386 #[.int .u32 x,.int .i64 (-16)] w fun e w'=>e=.returned (.int .u32 (zih x))∧w'=w:=by
 have hb:bits BinOp.and IntKind.u64 (IntKind.u64.wrap (-16)) 31=16:=by decide
 have hc:IntKind.u64.wrap (32 - 16)=16:=by decide
 go_enter Tryz.func386,Tryz.ntmps386
 go_wp2
 go_ret
 exact ⟨rfl,rfl⟩
theorem zab4 (x:Int) (w:World):Calls Tryz.prog 386 #[.int .u32 x,.int .i64 (-16)] w (Ret (.int .u32 (zih x)) w):=zb0 ((rot_16 x w).mono fun _ _ ⟨h,e⟩=>⟨h,by rw [e];exact Below.refl _ _⟩)
def zii (x:Int):Int:=bits BinOp.or IntKind.u32 (x * 1048576 % 4294967296) (x / 4096)
theorem rot_12 (x:Int) (w:World):Calls Tryz.prog 386 #[.int .u32 x,.int .i64 (-12)] w fun e w'=>e=.returned (.int .u32 (zii x))∧w'=w:=by
 have hb:bits BinOp.and IntKind.u64 (IntKind.u64.wrap (-12)) 31=20:=by decide
 have hc:IntKind.u64.wrap (32 - 20)=12:=by decide
 go_enter Tryz.func386,Tryz.ntmps386
 go_wp2
 go_ret
 exact ⟨rfl,rfl⟩
theorem zab5 (x:Int) (w:World):Calls Tryz.prog 386 #[.int .u32 x,.int .i64 (-12)] w (Ret (.int .u32 (zii x)) w):=zb0 ((rot_12 x w).mono fun _ _ ⟨h,e⟩=>⟨h,by rw [e];exact Below.refl _ _⟩)
def znw (x:Int):Int:=bits BinOp.or IntKind.u32 (x * 16777216 % 4294967296) (x / 256)
theorem rot_8 (x:Int) (w:World):Calls Tryz.prog 386 #[.int .u32 x,.int .i64 (-8)] w fun e w'=>e=.returned (.int .u32 (znw x))∧w'=w:=by
 have hb:bits BinOp.and IntKind.u64 (IntKind.u64.wrap (-8)) 31=24:=by decide
 have hc:IntKind.u64.wrap (32 - 24)=8:=by decide
 go_enter Tryz.func386,Tryz.ntmps386
 go_wp2
 go_ret
 exact ⟨rfl,rfl⟩
theorem rot_8r (x:Int) (w:World):Calls Tryz.prog 386 #[.int .u32 x,.int .i64 (-8)] w (Ret (.int .u32 (znw x)) w):=zb0 ((rot_8 x w).mono fun _ _ ⟨h,e⟩=>⟨h,by rw [e];exact Below.refl _ _⟩)
def znx (x:Int):Int:=bits BinOp.or IntKind.u32 (x * 33554432 % 4294967296) (x / 128)
theorem rot_7 (x:Int) (w:World):Calls Tryz.prog 386 #[.int .u32 x,.int .i64 (-7)] w fun e w'=>e=.returned (.int .u32 (znx x))∧w'=w:=by
 have hb:bits BinOp.and IntKind.u64 (IntKind.u64.wrap (-7)) 31=25:=by decide
 have hc:IntKind.u64.wrap (32 - 25)=7:=by decide
 go_enter Tryz.func386,Tryz.ntmps386
 go_wp2
 go_ret
 exact ⟨rfl,rfl⟩
theorem rot_7r (x:Int) (w:World):Calls Tryz.prog 386 #[.int .u32 x,.int .i64 (-7)] w (Ret (.int .u32 (znx x)) w):=zb0 ((rot_7 x w).mono fun _ _ ⟨h,e⟩=>⟨h,by rw [e];exact Below.refl _ _⟩)
def uts (l:List Int):Array Value:=(l.map (Value.int .u32)).toArray
def wd (l:List Int) (a:Nat):Int:=l.getD a 0
theorem zdy (l:List Int):(uts l).size=l.length:=by simp [uts]
theorem zny {l:List Int} {a:Nat} (h:a < l.length):(uts l)[a]?=some (.int .u32 (wd l a)):=by simp [wd,uts,zady h,List.getD]
theorem znz (l:List Int) (a:Nat) (v:Int):(uts l).setIfInBounds a (.int .u32 v)=uts (l.set a v):=by
 simp [uts,List.map_set]
structure Ws (w:World) (b:Nat) (l:List Int) (n:Nat) (t:TypeId):Prop where
 row:w.heap[b]?=some (.cells (uts l) t)
 len:l.length=n
theorem Ws.lt {w:World} {b:Nat} {l:List Int} {n:Nat} {t:TypeId} (h:Ws w b l n t):b < w.heap.size:=(zadu h.row).1
theorem Ws.row' {w:World} {b:Nat} {l:List Int} {n:Nat} {t:TypeId} (h:Ws w b l n t):rowOf w b=uts l:=zaa h.row
theorem Ws.sft {w:World} {b:Nat} {l:List Int} {n:Nat} {t:TypeId} (h:Ws w b l n t):soft w b=true:=zan h.row
theorem Ws.at {w:World} {b:Nat} {l:List Int} {n:Nat} {t:TypeId} (h:Ws w b l n t) {a:Nat} (ha:a < n):(rowOf w b)[a]?=some (.int .u32 (wd l a)):=by rw [h.row'];exact zny (by rw [h.len];exact ha)
theorem Ws.set {w:World} {b:Nat} {l:List Int} {n:Nat} {t:TypeId} (h:Ws w b l n t) (a:Nat) (v:Int):Ws (w.setCell ⟨b,a,none⟩ (.int .u32 v)) b (l.set a v) n t:=by
 refine ⟨?_,by rw [List.length_set];exact h.len⟩
 rw [zag,if_pos rfl,h.row]
 simp only [Option.map_some,← znz]
theorem Ws.far {w w':World} {b q:Nat} {l:List Int} {n:Nat} {t:TypeId} (h:Ws w b l n t) (hb:But q w w') (hne:b ≠ q):Ws w' b l n t:=⟨(hb.block _ h.lt hne).trans h.row,h.len⟩
structure St (w:World) (p:Nat) (l:List Int) (W:World):Prop where
 but:But p w W
 ws:Ws W p l 16 375
 turns:W.heap[w.heap.size + 1]?=some (.cells #[.int .i64 16,.int .i64 12,.int .i64 8,.int .i64 7] 432)
theorem St.set {w W:World} {p:Nat} {l:List Int} (h:St w p l W) (hp:p < w.heap.size) (a:Nat) (v:Int):St w p (l.set a v) (W.setCell ⟨p,a,none⟩ (.int .u32 v)):=by
 refine ⟨h.but.set _ _,h.ws.set a v,?_⟩
 rw [zag,if_neg (by show ¬ p=w.heap.size + 1;omega)]
 exact h.turns
theorem St.ext {w W:World} {p:Nat} {l:List Int} (h:St w p l W) (g:Ext W):St w p l g.val:=
 ⟨ButN.trans h.but (ButN.below (g.below.mono h.but.size)),⟨(g.below.block _ h.ws.lt).trans h.ws.row,h.ws.len⟩,(g.below.block _ (zadu h.turns).1).trans h.turns⟩
theorem St.drew {w W:World} {p:Nat} {l:List Int} (h:St w p l W):St w p l W.drew:=⟨⟨h.but.os,h.but.tape,h.but.output,h.but.size,h.but.block⟩,⟨h.ws.row,h.ws.len⟩,h.turns⟩
theorem St.cell {w W:World} {p:Nat} {l:List Int} (h:St w p l W) {a:Nat} (ha:a < 16):(rowOf W p)[a]?=some (.int .u32 (wd l a)):=h.ws.at ha
theorem St.t0 {w W:World} {p:Nat} {l:List Int} (h:St w p l W):(rowOf W (w.heap.size + 1))[0]?=some (.int .i64 16):=by rw [zaa h.turns];rfl
theorem St.t1 {w W:World} {p:Nat} {l:List Int} (h:St w p l W):(rowOf W (w.heap.size + 1))[1]?=some (.int .i64 12):=by rw [zaa h.turns];rfl
theorem St.t2 {w W:World} {p:Nat} {l:List Int} (h:St w p l W):(rowOf W (w.heap.size + 1))[2]?=some (.int .i64 8):=by rw [zaa h.turns];rfl
theorem St.t3 {w W:World} {p:Nat} {l:List Int} (h:St w p l W):(rowOf W (w.heap.size + 1))[3]?=some (.int .i64 7):=by rw [zaa h.turns];rfl
theorem zab6 (x y:Int) (w:World):(Instr.index 415 (Value.agg #[Value.int IntKind.u32 x,Value.int IntKind.u32 y]) (Value.int IntKind.i64 0)).run Tryz.prog w=.ok (.int .u32 x) w:=by kernel_rfl
theorem zab7 (x y:Int) (w:World):(Instr.index 415 (Value.agg #[Value.int IntKind.u32 x,Value.int IntKind.u32 y]) (Value.int IntKind.i64 1)).run Tryz.prog w=.ok (.int .u32 y) w:=by kernel_rfl
attribute [local go_sem] zab6 zab7
def half (r1 r2:Int→Int) (l:List Int) (a b c d:Nat) (x:Int):List Int:=
 let l1:=l.set a ((wd l a + (wd l b + x) % 4294967296) % 4294967296)
 let l2:=l1.set d (r1 (bits .xor .u32 (wd l1 d) (wd l1 a)))
 let l3:=l2.set c ((wd l2 c + wd l2 d) % 4294967296)
 l3.set b (r2 (bits .xor .u32 (wd l3 b) (wd l3 c)))
def zgy (l:List Int) (a b c d:Nat) (x y:Int):List Int:=half znw znx (half zih zii l a b c d x) a b c d y
set_option maxHeartbeats 4000000 in
theorem zda {w:World} {p:Nat} {l:List Int} (h:Ws w p l 16 375) {a b c d:Nat} (ha:a < 16) (hb:b < 16) (hc:c < 16) (hd:d < 16) (x y:Int):
  Calls Tryz.prog 364 #[.pointer (some ⟨p,0,none⟩),.int .i64 a,.int .i64 b,.int .i64 c,.int .i64 d,.agg #[.int .u32 x,.int .u32 y]] w fun e w'=>e=.returned (.tuple #[])∧But p w w'∧Ws w' p (zgy l a b c d x y) 16 375:=by
 have hlt:=h.lt
 have ia:(a:Int) < 16:=by omega
 have ib:(b:Int) < 16:=by omega
 have ic:(c:Int) < 16:=by omega
 have id:(d:Int) < 16:=by omega
 have S0:St w p l ((w.alloc (Obj.cells #[Value.int IntKind.u32 x,Value.int IntKind.u32 y] 415)).alloc (Obj.cells #[Value.int IntKind.i64 16,Value.int IntKind.i64 12,Value.int IntKind.i64 8,Value.int IntKind.i64 7] 432)):=by
  have hb:=(zat w (Obj.cells #[Value.int IntKind.u32 x,Value.int IntKind.u32 y] 415)).alloc (by simp) (Obj.cells #[Value.int IntKind.i64 16,Value.int IntKind.i64 12,Value.int IntKind.i64 8,Value.int IntKind.i64 7] 432)
  exact ⟨ButN.below hb,⟨(hb.block _ hlt).trans h.row,h.len⟩,by have:=heap_alloc_new (w.alloc (Obj.cells #[Value.int IntKind.u32 x,Value.int IntKind.u32 y] 415)) (Obj.cells #[Value.int IntKind.i64 16,Value.int IntKind.i64 12,Value.int IntKind.i64 8,Value.int IntKind.i64 7] 432);simpa using this⟩
 generalize hmid:half zih zii l a b c d x=m
 have HM:=zadv hmid
 clear hmid h
 go_enter Tryz.func364,Tryz.ntmps364
 go_upto_region 3 with (fail)
 generalize ((w.alloc (Obj.cells #[Value.int IntKind.u32 x,Value.int IntKind.u32 y] 415)).alloc (Obj.cells #[Value.int IntKind.i64 16,Value.int IntKind.i64 12,Value.int IntKind.i64 8,Value.int IntKind.i64 7] 432))=W0 at S0 ⊢
 go_loopw [19] (fun i wr=>(i=.int .i64 0∧St w p l wr) ∨ (i=.int .i64 1∧St w p m wr) ∨ (i=.int .i64 2∧St w p (half znw znx m a b c d y) wr)) (fun i _=>2 - (intOf i).toNat)
 case atStart=>exact .inl ⟨rfl,S0⟩
 case round=>
  clear S0
  obtain ⟨rfl,S⟩ | ⟨rfl,S⟩ | ⟨rfl,S⟩:=hrel
  ·skip
   have pa:=S.cell ha
   have pb:=S.cell hb
   have sp:=S.ws.sft
   go_upto_region 5 with (fail)
   (refine wp_region_still_tail 15 (by kernel_rfl) (by kernel_rfl) ?_;simp only [List.take_succ_cons,List.take_zero,List.drop_succ_cons,List.drop_zero];(iterate 15 still_step);refine wpStill_nil ?_)
   have S1:=S.drew
   refine (show wpList Tryz.prog _ _ _ _ wr.drew from ?_)
   generalize wr.drew=W1 at S1 ⊢
   clear pa pb sp S
   have pa:=S1.cell ha
   have sp:=S1.ws.sft
   go_wp2_with fail
   have S2:=S1.set hlt a ((wd l a + (wd l b + x) % 4294967296) % 4294967296)
   generalize hl1:l.set a ((wd l a + (wd l b + x) % 4294967296) % 4294967296)=l1 at S2
   generalize W1.setCell _ _=W2 at S2 ⊢
   clear pa sp S1
   have pa:=S2.cell ha
   have pd:=S2.cell hd
   have sp:=S2.ws.sft
   have hlt2:=S2.ws.lt
   have tl:=(zadu S2.turns).1
   have tt:=S2.t0
   (refine zap 21 (by kernel_rfl) (by kernel_rfl) ?_;simp only [List.take_succ_cons,List.take_zero,List.drop_succ_cons,List.drop_zero];(repeat (go_big_quiet_step (((go_at_call 386;exact Calls.ext_of (zab4 _ _))))));refine wpQuiet_nil ?_;rintro _ ⟨g,rfl⟩)
   have S3:=S2.ext g
   generalize g.val=W3 at S3 ⊢
   clear g S2 pa pd sp hlt2 tl tt
   have pd:=S3.cell hd
   have sp:=S3.ws.sft
   go_wp2_with fail
   have S4:=S3.set hlt d (zih (bits BinOp.xor IntKind.u32 (wd l1 d) (wd l1 a)))
   generalize hl2:l1.set d (zih (bits BinOp.xor IntKind.u32 (wd l1 d) (wd l1 a)))=l2 at S4
   generalize W3.setCell _ _=W4 at S4 ⊢
   clear pd sp S3
   have pc:=S4.cell hc
   have pd:=S4.cell hd
   have sp:=S4.ws.sft
   (refine wp_region_still_tail 13 (by kernel_rfl) (by kernel_rfl) ?_;simp only [List.take_succ_cons,List.take_zero,List.drop_succ_cons,List.drop_zero];(iterate 13 still_step);refine wpStill_nil ?_)
   have S5:=S4.drew
   refine (show wpList Tryz.prog _ _ _ _ W4.drew from ?_)
   generalize W4.drew=W5 at S5 ⊢
   clear pc pd sp S4
   have pc:=S5.cell hc
   have sp:=S5.ws.sft
   go_wp2_with fail
   have S6:=S5.set hlt c ((wd l2 c + wd l2 d) % 4294967296)
   generalize hl3:l2.set c ((wd l2 c + wd l2 d) % 4294967296)=l3 at S6
   generalize W5.setCell _ _=W6 at S6 ⊢
   clear pc sp S5
   have pb:=S6.cell hb
   have pc:=S6.cell hc
   have sp:=S6.ws.sft
   have hlt2:=S6.ws.lt
   have tl:=(zadu S6.turns).1
   have tt:=S6.t1
   (refine zap 21 (by kernel_rfl) (by kernel_rfl) ?_;simp only [List.take_succ_cons,List.take_zero,List.drop_succ_cons,List.drop_zero];(repeat (go_big_quiet_step (((go_at_call 386;exact Calls.ext_of (zab5 _ _))))));refine wpQuiet_nil ?_;rintro _ ⟨g,rfl⟩)
   have S7:=S6.ext g
   generalize g.val=W7 at S7 ⊢
   clear g S6 pb pc sp hlt2 tl tt
   have pb:=S7.cell hb
   have sp:=S7.ws.sft
   have S8:=S7.set hlt b (zii (bits BinOp.xor IntKind.u32 (wd l3 b) (wd l3 c)))
   have H8:=zadv (show l3.set b (zii (bits BinOp.xor IntKind.u32 (wd l3 b) (wd l3 c)))=half zih zii l a b c d x by rw [← hl3,← hl2,← hl1];rfl)
   clear hl1 hl2 hl3
   rw [H8.out] at S8
   have S9:=zadv S8
   clear S8 H8
   rw [HM.out] at S9
   go_wp2
   refine ⟨.inr (.inl ⟨rfl,S9.out⟩),?_⟩
   decide
  ·skip
   have pa:=S.cell ha
   have pb:=S.cell hb
   have sp:=S.ws.sft
   go_upto_region 5 with (fail)
   (refine wp_region_still_tail 15 (by kernel_rfl) (by kernel_rfl) ?_;simp only [List.take_succ_cons,List.take_zero,List.drop_succ_cons,List.drop_zero];(iterate 15 still_step);refine wpStill_nil ?_)
   have S1:=S.drew
   refine (show wpList Tryz.prog _ _ _ _ wr.drew from ?_)
   generalize wr.drew=W1 at S1 ⊢
   clear pa pb sp S
   have pa:=S1.cell ha
   have sp:=S1.ws.sft
   go_wp2_with fail
   have S2:=S1.set hlt a ((wd m a + (wd m b + y) % 4294967296) % 4294967296)
   generalize hl1:m.set a ((wd m a + (wd m b + y) % 4294967296) % 4294967296)=l1 at S2
   generalize W1.setCell _ _=W2 at S2 ⊢
   clear pa sp S1
   have pa:=S2.cell ha
   have pd:=S2.cell hd
   have sp:=S2.ws.sft
   have hlt2:=S2.ws.lt
   have tl:=(zadu S2.turns).1
   have tt:=S2.t2
   (refine zap 21 (by kernel_rfl) (by kernel_rfl) ?_;simp only [List.take_succ_cons,List.take_zero,List.drop_succ_cons,List.drop_zero];(repeat (go_big_quiet_step (((go_at_call 386;exact Calls.ext_of (rot_8r _ _))))));refine wpQuiet_nil ?_;rintro _ ⟨g,rfl⟩)
   have S3:=S2.ext g
   generalize g.val=W3 at S3 ⊢
   clear g S2 pa pd sp hlt2 tl tt
   have pd:=S3.cell hd
   have sp:=S3.ws.sft
   go_wp2_with fail
   have S4:=S3.set hlt d (znw (bits BinOp.xor IntKind.u32 (wd l1 d) (wd l1 a)))
   generalize hl2:l1.set d (znw (bits BinOp.xor IntKind.u32 (wd l1 d) (wd l1 a)))=l2 at S4
   generalize W3.setCell _ _=W4 at S4 ⊢
   clear pd sp S3
   have pc:=S4.cell hc
   have pd:=S4.cell hd
   have sp:=S4.ws.sft
   (refine wp_region_still_tail 13 (by kernel_rfl) (by kernel_rfl) ?_;simp only [List.take_succ_cons,List.take_zero,List.drop_succ_cons,List.drop_zero];(iterate 13 still_step);refine wpStill_nil ?_)
   have S5:=S4.drew
   refine (show wpList Tryz.prog _ _ _ _ W4.drew from ?_)
   generalize W4.drew=W5 at S5 ⊢
   clear pc pd sp S4
   have pc:=S5.cell hc
   have sp:=S5.ws.sft
   go_wp2_with fail
   have S6:=S5.set hlt c ((wd l2 c + wd l2 d) % 4294967296)
   generalize hl3:l2.set c ((wd l2 c + wd l2 d) % 4294967296)=l3 at S6
   generalize W5.setCell _ _=W6 at S6 ⊢
   clear pc sp S5
   have pb:=S6.cell hb
   have pc:=S6.cell hc
   have sp:=S6.ws.sft
   have hlt2:=S6.ws.lt
   have tl:=(zadu S6.turns).1
   have tt:=S6.t3
   (refine zap 21 (by kernel_rfl) (by kernel_rfl) ?_;simp only [List.take_succ_cons,List.take_zero,List.drop_succ_cons,List.drop_zero];(repeat (go_big_quiet_step (((go_at_call 386;exact Calls.ext_of (rot_7r _ _))))));refine wpQuiet_nil ?_;rintro _ ⟨g,rfl⟩)
   have S7:=S6.ext g
   generalize g.val=W7 at S7 ⊢
   clear g S6 pb pc sp hlt2 tl tt
   have pb:=S7.cell hb
   have sp:=S7.ws.sft
   have S8:=S7.set hlt b (znx (bits BinOp.xor IntKind.u32 (wd l3 b) (wd l3 c)))
   have H8:=zadv (show l3.set b (znx (bits BinOp.xor IntKind.u32 (wd l3 b) (wd l3 c)))=half znw znx m a b c d y by rw [← hl3,← hl2,← hl1];rfl)
   clear hl1 hl2 hl3
   rw [H8.out] at S8
   have S9:=zadv S8
   clear S8 H8
   go_wp2
   refine ⟨.inr (.inr ⟨rfl,S9.out⟩),?_⟩
   decide
  ·go_wp2
   go_end0
   refine ⟨rfl,S.but,?_⟩
   unfold zgy
   rw [HM.out]
   exact S.ws
end
end Go.Proofs.YthjgiamfaijoeaaGreatDoor
