/- What is proved: parts of the walk and of the plain law, 1 texts in one. No condition but those each law names. -/
import Derived.Test.YtjkfondgacjpnaaGreatDoorF27
import Derived.Test.YtjkfondgacjpnaaGreatDoorF28
namespace Go.Proofs.YtjkfondgacjpnaaGreatDoor
open Go.RowKit
set_option maxRecDepth 100000
attribute [local go_sem ↓] cutA_zero
def totV (l:List Int):Int × Int:=if aallA l=true∧l.sum ≤ 1125899906842624 then (l.sum,0) else (0,15)
theorem allA_mem {l:List Int} (h:aallA l=true) {x:Int} (hx:x ∈ l):aisA x:=by unfold aallA at h;rw [List.all_eq_true] at h;simpa using h x hx
theorem sum_nonneg:∀ {l:List Int},aallA l=true→0 ≤ l.sum
 | [],_=>by simp
 | x :: l,h=>by
  have h1:=allA_mem h (List.mem_cons_self ..)
  have h2:aallA l=true:=by unfold aallA at h ⊢;simp only [List.all_cons,Bool.and_eq_true] at h;exact h.2
  have h3:=sum_nonneg h2
  simp only [List.sum_cons]
  have:=h1.1
  omega
theorem sum_take {l:List Int} {j:Nat} {x:Int} (h:l[j]?=some x):(l.take (j + 1)).sum=(l.take j).sum + x:=by
 rw [List.take_add_one,h];simp
theorem sum_take_le {l:List Int} (h:aallA l=true) (j:Nat):(l.take j).sum ≤ l.sum:=by
 have h1:(l.take j).sum + (l.drop j).sum=l.sum:=by rw [← List.sum_append_int,List.take_append_drop]
 have h2:aallA (l.drop j)=true:=by
  unfold aallA at h ⊢
  rw [List.all_eq_true] at h ⊢
  exact fun x hx=>h x (List.mem_of_mem_drop hx)
 have:=sum_nonneg h2
 omega
theorem totV_bad {l:List Int} {j:Nat} {x:Int} (h:l[j]?=some x) (hx:¬ aisA x ∨ (l.take (j + 1)).sum > 1125899906842624):totV l=(0,15):=by
 unfold totV
 rw [if_neg]
 rintro ⟨h1,h2⟩
 rcases hx with hx | hx
 ·exact hx (allA_mem h1 (List.mem_of_getElem? h))
 ·have:=sum_take_le h1 (j + 1)
  omega
set_option maxHeartbeats 2000000 in
theorem Total_any {w:World} {ao:Option Addr} {n c:Nat} {l:List Int} (hl:Sl w ao n c (aits l)) (hn:n < 1099511627776):Calls Tryz.prog 202 #[.slice ao n c] w (Ret (apairV (totV l)) w):=by
 have hln:l.length=n:=by rw [← hl.len,its_length]
 have T0:=aTwo.mk2 w (.int .i64 0) (.int .i64 0) 3 32
 go_enter_defers Tryz.func202,Tryz.ntmps202
 go_wp2_with fail
 go_loopw [8] (fun i wr=>∃ j:Nat,j ≤ n∧i=.int .i64 j∧aallA (l.take j)=true∧(l.take j).sum ≤ 1125899906842624∧aTwo w wr (.int .i64 (l.take j).sum) (.int .i64 0)) (fun i _=>n - (intOf i).toNat)
 case atStart=>exact ⟨0,by omega,rfl,rfl,by simp,by simpa using T0⟩
 case round=>
  obtain ⟨j,hj,rfl,hall,hsum,TW⟩:=hrel
  have hb:=TW.below
  have hs0:=sum_nonneg hall
  by_cases hlt:j < n
  ·obtain ⟨b,o,rfl,hbw,hc⟩:=hl.at (by omega)
   obtain ⟨x,hjx⟩:∃ x,l[j]?=some x:=⟨_,List.getElem?_eq_getElem (by omega)⟩
   have hx:=hc j _ (by rw [its_get,hjx];rfl)
   rw [← hb.cell (by exact hbw)] at hx
   have ht:=allA_take hjx
   have hst:=sum_take hjx
   generalize hS:(l.take j).sum=S at hst hsum hs0 TW
   generalize hS':(l.take (j + 1)).sum=S' at hst
   by_cases hxa:aisA x
   ·have hone:aallA [x]=true:=by simp [aallA,hxa]
    have e1:IntKind.i64.wrap (S + x)=S + x:=by rw [IntKind.wrap_i64];have:=hxa.1;have:=hxa.2;omega
    go_wp2_with fail
    refine (amust_ok (abuilt_at _ [x] _ (by simp [maxLen]) rfl rfl rfl) (by simp) hone).mono ?_
    rintro _ _ ⟨rfl,g,rfl⟩
    have T1:=(TW.alloc (.cells (aits [x]).toArray 3)).ext g
    have c0:=T1.c0
    have f0:=T1.f0
    by_cases hgt:S + x > 1125899906842624
    ·have hnot:¬ aisA (S + x):=fun h=>by have:=h.2;omega
     have htwo:aallA [S + x]=false:=by simp [aallA,hnot]
     have c0':=(T1.set0 (.int .i64 (S + x))).c0
     go_wp2_with fail
     refine (amust_bad (abuilt_at _ [S + x] _ (by simp [maxLen]) rfl (by simp [World.setCell]) rfl) (by simp) htwo).mono ?_
     rintro _ _ ⟨rfl,g2,rfl⟩
     have T2:=((T1.set0 (.int .i64 (S + x))).alloc (.cells (aits [S + x]).toArray 3)).ext g2
     clear c0 f0 c0'
     simp only []
     refine leaves_cons (f:=240) (args:=#[.pointer (some ⟨w.heap.size,0,none⟩),.pointer (some ⟨w.heap.size + 1,0,none⟩)]) (by simp) (by simp [go_sem]) ?_
     refine (T2.caught _ _).mono ?_
     rintro e u' w'' ⟨rfl,rfl,TE⟩
     have c0:=TE.c0
     have c1:=TE.c1
     simp [Leaves,settle,results,Tryz.results202,go_sem,c0,c1]
     exact Ret.mk_of TE.below (by rw [totV_bad hjx (.inr (by rw [hS',hst];exact hgt))];rfl)
    ·have hyes:aisA (S + x):=⟨by have:=hxa.1;omega,by omega⟩
     have htwo:aallA [S + x]=true:=by simp [aallA,hyes]
     have c0':=(T1.set0 (.int .i64 (S + x))).c0
     go_wp2_with fail
     refine (amust_ok (abuilt_at _ [S + x] _ (by simp [maxLen]) rfl (by simp [World.setCell]) rfl) (by simp) htwo).mono ?_
     rintro _ _ ⟨rfl,g2,rfl⟩
     have T2:=((T1.set0 (.int .i64 (S + x))).alloc (.cells (aits [S + x]).toArray 3)).ext g2
     clear c0 f0 c0'
     go_wp2_with fail
     go_roundw
     case rel=>exact ⟨j + 1,by omega,rfl,by rw [ht,hall];simpa using hxa,by rw [hS'];omega,by rw [hS',hst];exact T2⟩
     case measure=>simp [intOf];omega
   ·have hone:aallA [x]=false:=by simp [aallA,hxa]
    go_wp2_with fail
    refine (amust_bad (abuilt_at _ [x] _ (by simp [maxLen]) rfl rfl rfl) (by simp) hone).mono ?_
    rintro _ _ ⟨rfl,g,rfl⟩
    have T1:=(TW.alloc (.cells (aits [x]).toArray 3)).ext g
    simp only []
    refine leaves_cons (f:=240) (args:=#[.pointer (some ⟨w.heap.size,0,none⟩),.pointer (some ⟨w.heap.size + 1,0,none⟩)]) (by simp) (by simp [go_sem]) ?_
    refine (T1.caught _ _).mono ?_
    rintro e u' w'' ⟨rfl,rfl,TE⟩
    have c0:=TE.c0
    have c1:=TE.c1
    simp [Leaves,settle,results,Tryz.results202,go_sem,c0,c1]
    exact Ret.mk_of TE.below (by rw [totV_bad hjx (.inl hxa)];rfl)
  ·obtain rfl:j=n:=by omega
   rw [← hln,List.take_length] at hall hsum TW
   have hv:totV l=(l.sum,0):=if_pos ⟨hall,hsum⟩
   have c0:=TW.c0
   have f0:=TW.f0
   have c1:=(TW.set0 (.int .i64 l.sum)).c1
   have f1:=TW.f1
   go_wp2_with fail
   have T3:=(TW.set0 (.int .i64 l.sum)).set1 (.int .i64 0)
   clear c0 c1
   refine leaves_cons (f:=240) (args:=#[.pointer (some ⟨w.heap.size,0,none⟩),.pointer (some ⟨w.heap.size + 1,0,none⟩)]) (by simp) (by simp [go_sem]) ?_
   refine (acaught_idle _ _ _).mono ?_
   rintro e u' w'' ⟨rfl,rfl,rfl⟩
   have c0:=T3.c0
   have c1:=T3.c1
   simp [Leaves,settle,results,Tryz.results202,go_sem,c0,c1]
   exact Ret.mk_of T3.below (by rw [hv];rfl)
end Go.Proofs.YtjkfondgacjpnaaGreatDoor
namespace Go.Proofs.YtjkfondgacjpnaaGreatDoor
open Go.RowKit
set_option maxRecDepth 100000
attribute [local go_sem ↓] rowOf_cell
attribute [local go_sem] rowOf_alloc soft_alloc
structure TmK (t:Tm):Prop where
 chk:chkT t=0
 tm:TmT t
 ppm:0 ≤ t.ppm∧t.ppm ≤ 1000000
 least:1 ≤ t.least
 most:t.most < 4294967296
def feeV (t:Tm) (a:Nat):Int × Int:=
 if (totV [t.base,(partV a t.ppm.toNat:Nat),t.reserve]).2 ≠ 0 then (0,(totV [t.base,(partV a t.ppm.toNat:Nat),t.reserve]).2)
 else if (asumV (totV [t.base,(partV a t.ppm.toNat:Nat),t.reserve]).1 a).2 ≠ 0 then (0,(asumV (totV [t.base,(partV a t.ppm.toNat:Nat),t.reserve]).1 a).2)
 else ((totV [t.base,(partV a t.ppm.toNat:Nat),t.reserve]).1,0)
theorem Fee_any {t:Tm} (h:TmK t) {a:Nat} (ha:a < 4294967296) (w:World):Calls Tryz.prog 147 #[.agg t.cells,.int .i64 a] w fun e w'=>e=.returned (apairV (feeV t a))∧Below w.heap.size w w':=by
 have hpp:=h.ppm
 obtain ⟨pp,hp⟩:∃ pp:Nat,t.ppm=pp:=⟨t.ppm.toNat,by omega⟩
 have QC:=Lib.hid (fun w=>QCheck_any t w)
 rw [h.chk] at QC
 have PS:=Lib.hid (fun w=>Part_small ha (show pp ≤ 1000000 by omega) w)
 obtain ⟨P,hP⟩:∃ P,P=partV a pp:=⟨_,rfl⟩
 have hfee:feeV t a=if (totV [t.base,(P:Nat),t.reserve]).2 ≠ 0 then (0,(totV [t.base,(P:Nat),t.reserve]).2) else if (asumV (totV [t.base,(P:Nat),t.reserve]).1 a).2 ≠ 0 then (0,(asumV (totV [t.base,(P:Nat),t.reserve]).1 a).2) else ((totV [t.base,(P:Nat),t.reserve]).1,0):=by
  unfold feeV
  rw [hp,Int.toNat_natCast,← hP]
 rw [← hP] at PS
 obtain ⟨⟨x,e⟩,hx⟩:∃ y,totV [t.base,(P:Nat),t.reserve]=y:=⟨_,rfl⟩
 rw [hx] at hfee
 have HX:=Lib.hid hx
 have HP:=Lib.hid hp
 obtain ⟨⟨y,d⟩,hy⟩:∃ z,asumV x a=z:=⟨_,rfl⟩
 rw [hy] at hfee
 have HY:=Lib.hid hy
 rw [hfee]
 clear hx hy hP hfee hpp h
 by_cases he:e=0
 ·subst he
  rw [if_neg (by simp)]
  by_cases hd:d=0
  ·subst hd
   rw [if_neg (by simp)]
   go_enter Tryz.func147,Tryz.ntmps147
   go_upto_region 1 with (fail)
   have bx:=Bx.new w (t.cells) 53;generalize w.alloc (.cells (t.cells) 53)=W at bx ⊢;have rx:=bx.rowOf;have sx:=bx.soft;have BX:=Lib.hid bx;clear bx
   go_wp2_with fail
   refine (QC.out W).mono ?_;rintro _ W2 ⟨rfl,hb⟩;have bx:=BX.out.step hb;clear BX rx sx hb;have rx:=bx.rowOf;have sx:=bx.soft;have BX:=Lib.hid bx;clear bx
   go_wp2_with fail
   have hp:=HP.out
   refine (PS.out W2).mono ?_;rintro _ W3 ⟨rfl,hb⟩;have bx:=BX.out.step hb;clear BX rx sx hb;have rx:=bx.rowOf;have sx:=bx.soft;have BX:=Lib.hid bx;clear bx
   clear hp
   have hb4:=below1 W3 (.cells #[.int .i64 t.base,.int .i64 P,.int .i64 t.reserve] 3)
   have TA:=Lib.hid (Total_any (w:=W3.alloc (.cells #[.int .i64 t.base,.int .i64 P,.int .i64 t.reserve] 3)) (l:=[t.base,(P:Nat),t.reserve]) (abuilt_at W3 [t.base,(P:Nat),t.reserve] 3 (by simp [maxLen]) rfl rfl (n:=3) rfl) (by decide))
   rw [HX.out] at TA
   have HB4:=Lib.hid hb4
   clear hb4
   go_wp2_with fail
   refine TA.out.mono ?_
   rintro _ W5 ⟨rfl,g5,rfl⟩
   have bx:=BX.out.step (HB4.out.trans (g5.below.mono HB4.out.size))
   clear BX rx sx TA HB4
   have rx:=bx.rowOf
   have sx:=bx.soft
   have BX:=Lib.hid bx
   clear bx
   unfold apairV
   go_wp2_with fail
   refine (Add_any x a g5.val).mono ?_
   rintro _ W6 ⟨rfl,g6,rfl⟩
   rw [HY.out]
   have B6:=Lib.hid (BX.out.step g6.below).below
   unfold apairV
   go_wp2
   refine bodyPost_ret (results_tmp2 rfl _ _ _) rfl ?_
   exact ⟨rfl,B6.out⟩
  ·rw [if_pos hd]
   have hd2:(d == 0)=false:=by rw [beq_eq_false_iff_ne];exact hd
   have hd3:(d != 0)=true:=by rw [bne_iff_ne];exact hd
   clear hd
   go_enter Tryz.func147,Tryz.ntmps147
   go_upto_region 1 with (fail)
   have bx:=Bx.new w (t.cells) 53;generalize w.alloc (.cells (t.cells) 53)=W at bx ⊢;have rx:=bx.rowOf;have sx:=bx.soft;have BX:=Lib.hid bx;clear bx
   go_wp2_with fail
   refine (QC.out W).mono ?_;rintro _ W2 ⟨rfl,hb⟩;have bx:=BX.out.step hb;clear BX rx sx hb;have rx:=bx.rowOf;have sx:=bx.soft;have BX:=Lib.hid bx;clear bx
   go_wp2_with fail
   have hp:=HP.out
   refine (PS.out W2).mono ?_;rintro _ W3 ⟨rfl,hb⟩;have bx:=BX.out.step hb;clear BX rx sx hb;have rx:=bx.rowOf;have sx:=bx.soft;have BX:=Lib.hid bx;clear bx
   clear hp
   have hb4:=below1 W3 (.cells #[.int .i64 t.base,.int .i64 P,.int .i64 t.reserve] 3)
   have TA:=Lib.hid (Total_any (w:=W3.alloc (.cells #[.int .i64 t.base,.int .i64 P,.int .i64 t.reserve] 3)) (l:=[t.base,(P:Nat),t.reserve]) (abuilt_at W3 [t.base,(P:Nat),t.reserve] 3 (by simp [maxLen]) rfl rfl (n:=3) rfl) (by decide))
   rw [HX.out] at TA
   have HB4:=Lib.hid hb4
   clear hb4
   go_wp2_with fail
   refine TA.out.mono ?_
   rintro _ W5 ⟨rfl,g5,rfl⟩
   have bx:=BX.out.step (HB4.out.trans (g5.below.mono HB4.out.size))
   clear BX rx sx TA HB4
   have rx:=bx.rowOf
   have sx:=bx.soft
   have BX:=Lib.hid bx
   clear bx
   unfold apairV
   go_wp2_with fail
   refine (Add_any x a g5.val).mono ?_
   rintro _ W6 ⟨rfl,g6,rfl⟩
   rw [HY.out]
   have B6:=Lib.hid (BX.out.step g6.below).below
   unfold apairV
   go_wp2
   refine bodyPost_ret (results_tmp2 rfl _ _ _) rfl ?_
   exact ⟨rfl,B6.out⟩
 ·rw [if_pos he]
  have he2:(e == 0)=false:=by rw [beq_eq_false_iff_ne];exact he
  have he3:(e != 0)=true:=by rw [bne_iff_ne];exact he
  clear he
  go_enter Tryz.func147,Tryz.ntmps147
  go_upto_region 1 with (fail)
  have bx:=Bx.new w (t.cells) 53;generalize w.alloc (.cells (t.cells) 53)=W at bx ⊢;have rx:=bx.rowOf;have sx:=bx.soft;have BX:=Lib.hid bx;clear bx
  go_wp2_with fail
  refine (QC.out W).mono ?_;rintro _ W2 ⟨rfl,hb⟩;have bx:=BX.out.step hb;clear BX rx sx hb;have rx:=bx.rowOf;have sx:=bx.soft;have BX:=Lib.hid bx;clear bx
  go_wp2_with fail
  have hp:=HP.out
  refine (PS.out W2).mono ?_;rintro _ W3 ⟨rfl,hb⟩;have bx:=BX.out.step hb;clear BX rx sx hb;have rx:=bx.rowOf;have sx:=bx.soft;have BX:=Lib.hid bx;clear bx
  clear hp
  have hb4:=below1 W3 (.cells #[.int .i64 t.base,.int .i64 P,.int .i64 t.reserve] 3)
  have TA:=Lib.hid (Total_any (w:=W3.alloc (.cells #[.int .i64 t.base,.int .i64 P,.int .i64 t.reserve] 3)) (l:=[t.base,(P:Nat),t.reserve]) (abuilt_at W3 [t.base,(P:Nat),t.reserve] 3 (by simp [maxLen]) rfl rfl (n:=3) rfl) (by decide))
  rw [HX.out] at TA
  have HB4:=Lib.hid hb4
  clear hb4
  go_wp2_with fail
  refine TA.out.mono ?_
  rintro _ W5 ⟨rfl,g5,rfl⟩
  have bx:=BX.out.step (HB4.out.trans (g5.below.mono HB4.out.size))
  clear BX rx sx TA HB4
  have rx:=bx.rowOf
  have sx:=bx.soft
  have BX:=Lib.hid bx
  clear bx
  unfold apairV
  go_wp2
  refine bodyPost_ret (results_tmp2 rfl _ _ _) rfl ?_
  exact ⟨rfl,BX.out.below⟩
def quoteV (t:Tm) (a free:Int):Int × Int:=if a < t.least ∨ a > t.most ∨ a > free then (0,22) else if (feeV t a.toNat).2 ≠ 0 then (0,(feeV t a.toNat).2) else (a + (feeV t a.toNat).1,0)
theorem Quote_any {t:Tm} (h:TmK t) (a free:Int) (w:World):Calls Tryz.prog 107 #[.agg t.cells,.int .i64 a,.int .i64 free] w fun e w'=>e=.returned (apairV (quoteV t a free))∧Below w.heap.size w w':=by
 have QC:=Lib.hid (fun w=>QCheck_any t w)
 rw [h.chk] at QC
 unfold quoteV
 by_cases h1:a < t.least
 ·rw [if_pos (Or.inl h1)]
  go_enter Tryz.func107,Tryz.ntmps107
  go_upto_region 1 with (fail)
  have bx:=Bx.new w (t.cells) 53;generalize w.alloc (.cells (t.cells) 53)=W at bx ⊢;have rx:=bx.rowOf;have sx:=bx.soft;have BX:=Lib.hid bx;clear bx
  go_wp2_with fail
  refine (QC.out W).mono ?_;rintro _ W2 ⟨rfl,hb⟩;have bx:=BX.out.step hb;clear BX rx sx hb;have rx:=bx.rowOf;have sx:=bx.soft;have BX:=Lib.hid bx;clear bx
  go_wp2
  refine bodyPost_ret (results_tmp2 rfl _ _ _) rfl ?_
  exact ⟨rfl,BX.out.below⟩
 by_cases h2:a > t.most
 ·rw [if_pos (Or.inr (Or.inl h2))]
  go_enter Tryz.func107,Tryz.ntmps107
  go_upto_region 1 with (fail)
  have bx:=Bx.new w (t.cells) 53;generalize w.alloc (.cells (t.cells) 53)=W at bx ⊢;have rx:=bx.rowOf;have sx:=bx.soft;have BX:=Lib.hid bx;clear bx
  go_wp2_with fail
  refine (QC.out W).mono ?_;rintro _ W2 ⟨rfl,hb⟩;have bx:=BX.out.step hb;clear BX rx sx hb;have rx:=bx.rowOf;have sx:=bx.soft;have BX:=Lib.hid bx;clear bx
  go_wp2
  refine bodyPost_ret (results_tmp2 rfl _ _ _) rfl ?_
  exact ⟨rfl,BX.out.below⟩
 by_cases h3:a > free
 ·rw [if_pos (Or.inr (Or.inr h3))]
  go_enter Tryz.func107,Tryz.ntmps107
  go_upto_region 1 with (fail)
  have bx:=Bx.new w (t.cells) 53;generalize w.alloc (.cells (t.cells) 53)=W at bx ⊢;have rx:=bx.rowOf;have sx:=bx.soft;have BX:=Lib.hid bx;clear bx
  go_wp2_with fail
  refine (QC.out W).mono ?_;rintro _ W2 ⟨rfl,hb⟩;have bx:=BX.out.step hb;clear BX rx sx hb;have rx:=bx.rowOf;have sx:=bx.soft;have BX:=Lib.hid bx;clear bx
  go_wp2
  refine bodyPost_ret (results_tmp2 rfl _ _ _) rfl ?_
  exact ⟨rfl,BX.out.below⟩
 rw [if_neg (by rintro (h | h | h) <;> omega)]
 have hl:=h.least
 have hm:=h.most
 obtain ⟨n,rfl⟩:∃ n:Nat,a=n:=⟨a.toNat,by omega⟩
 rw [Int.toNat_natCast]
 have FE:=Lib.hid (fun w=>Fee_any h (a:=n) (by omega) w)
 obtain ⟨⟨x,e⟩,hx⟩:∃ y,feeV t n=y:=⟨_,rfl⟩
 have hr:e=0→0 ≤ x∧x ≤ 1125899906842624:=by
  intro he
  subst he
  have hz:=hx
  unfold feeV at hz
  split at hz
  ·injection hz with u v;contradiction
  ·rename_i hz1
   split at hz
   ·injection hz with u v;contradiction
   ·injection hz with u v
    rw [← u]
    unfold totV at hz1 ⊢
    split
    ·rename_i hq
     exact ⟨sum_nonneg hq.1,hq.2⟩
    ·rename_i hq
     rw [if_neg hq] at hz1
     exact absurd (by decide) hz1
 rw [hx] at FE ⊢
 have HN:=Lib.hid (show n < 4294967296 by omega)
 clear hx hl hm h
 by_cases he:e=0
 ·subst he
  have hxr:=Lib.hid (hr rfl)
  have e0:((0:Int) == 0)=true:=rfl
  clear hr
  rw [if_neg (by simp)]
  go_enter Tryz.func107,Tryz.ntmps107
  go_upto_region 1 with (fail)
  have bx:=Bx.new w (t.cells) 53;generalize w.alloc (.cells (t.cells) 53)=W at bx ⊢;have rx:=bx.rowOf;have sx:=bx.soft;have BX:=Lib.hid bx;clear bx
  go_wp2_with fail
  refine (QC.out W).mono ?_;rintro _ W2 ⟨rfl,hb⟩;have bx:=BX.out.step hb;clear BX rx sx hb;have rx:=bx.rowOf;have sx:=bx.soft;have BX:=Lib.hid bx;clear bx
  go_wp2_with fail
  refine (FE.out W2).mono ?_;rintro _ W3 ⟨rfl,hb⟩;have bx:=BX.out.step hb;clear BX rx sx hb;have rx:=bx.rowOf;have sx:=bx.soft;have BX:=Lib.hid bx;clear bx
  unfold apairV
  go_wp2
  refine bodyPost_ret (results_tmp2 rfl _ _ _) rfl ?_
  refine ⟨?_,BX.out.below⟩
  show Ending.returned (.tuple #[.int .i64 (wrap64 ((n:Int) + x)),.int .i64 0])=_
  rw [IntWalk.wrap64_in _ (by have:=HN.out;have:=hxr.out;omega)]
  rfl
 ·have hd2:(e == 0)=false:=by rw [beq_eq_false_iff_ne];exact he
  have hd3:(e != 0)=true:=by rw [bne_iff_ne];exact he
  clear hr
  rw [if_pos he]
  clear he
  go_enter Tryz.func107,Tryz.ntmps107
  go_upto_region 1 with (fail)
  have bx:=Bx.new w (t.cells) 53;generalize w.alloc (.cells (t.cells) 53)=W at bx ⊢;have rx:=bx.rowOf;have sx:=bx.soft;have BX:=Lib.hid bx;clear bx
  go_wp2_with fail
  refine (QC.out W).mono ?_;rintro _ W2 ⟨rfl,hb⟩;have bx:=BX.out.step hb;clear BX rx sx hb;have rx:=bx.rowOf;have sx:=bx.soft;have BX:=Lib.hid bx;clear bx
  go_wp2_with fail
  refine (FE.out W2).mono ?_;rintro _ W3 ⟨rfl,hb⟩;have bx:=BX.out.step hb;clear BX rx sx hb;have rx:=bx.rowOf;have sx:=bx.soft;have BX:=Lib.hid bx;clear bx
  unfold apairV
  go_wp2
  refine bodyPost_ret (results_tmp2 rfl _ _ _) rfl ?_
  exact ⟨rfl,BX.out.below⟩
end Go.Proofs.YtjkfondgacjpnaaGreatDoor
namespace Go.Proofs.YtjkfondgacjpnaaGreatDoor
open Go.RowKit
set_option maxRecDepth 100000
attribute [local go_sem ↓] rowOf_cell
attribute [local go_sem] rowOf_alloc soft_alloc rowOf_drew soft_drew rowOf_setRow soft_setRow frozen_of_soft Ext.row Ext.soft_
theorem Bxs.set {w W:World} {L:List (Array Value × TypeId)} (h:Bxs w L W) {j:Nat} {C:Array Value} {t:TypeId} (hj:L[j]?=some (C,t)) (k:Nat) (v:Value):Bxs w (L.set j (C.setIfInBounds k v,t)) (W.setCell ⟨w.heap.size + j,k,none⟩ v):=by
 refine ⟨h.below.setCell (Nat.le_add_right ..) _,fun i D u hi=>?_⟩
 by_cases e:i=j
 ·subst e
  rw [List.getElem?_set_self (List.getElem?_eq_some_iff.1 hj).1] at hi
  injection hi with hi
  injection hi with h1 h2
  subst h1 h2
  rw [heap_setCell_at,if_pos rfl,h.rows i C t hj]
  rfl
 ·rw [List.getElem?_set_ne (fun x=>e x.symm)] at hi
  rw [heap_setCell_at,if_neg (by show ¬ w.heap.size + j=w.heap.size + i;omega)]
  exact h.rows i D u hi
def legsV (t:Tm) (d:Dl) (n:Cl):Dl:=
 if d.r=1 then { d with p:={ d.p with u:=wrap64 (n.at_ d.p.w + t.long) },g:={ d.g with u:=wrap64 (n.at_ d.g.w + 3 * t.mar) } }
 else { d with p:={ d.p with u:=wrap64 (n.at_ d.p.w + 3 * t.mar) },g:={ d.g with u:=wrap64 (n.at_ d.g.w + t.long) } }
set_option maxHeartbeats 4000000 in
theorem Legs_one {t:Tm} (h:TmT t) (d:Dl) (n:Cl) (hr:d.r=1) (w:World):Calls Tryz.prog 44 #[.agg t.cells,.agg d.cells,.agg n.cells] w fun e w'=>e=.returned (.agg (legsV t d n).cells)∧Below w.heap.size w w':=by
 have H:=Lib.hid h
 have LV:=Lib.hid (show legsV t d n={ d with p:={ d.p with u:=wrap64 (n.at_ d.p.w + t.long) },g:={ d.g with u:=wrap64 (n.at_ d.g.w + 3 * t.mar) } } from if_pos hr)
 clear h
 go_enter Tryz.func44,Tryz.ntmps44
 go_upto_region 1 with (fail)
 have bx:=Bxs.new4 w (t.cells) 53 (d.cells) 83 (n.cells) 37 (Dl.zero.cells) 83;generalize ((((w.alloc (.cells (t.cells) 53)).alloc (.cells (d.cells) 83)).alloc (.cells (n.cells) 37)).alloc (.cells (Dl.zero.cells) 83))=W at bx ⊢;have rx0:=bx.row' 0 rfl;have sx0:=bx.soft' 0 rfl;(try simp only [Nat.add_zero] at rx0 sx0);have rx1:=bx.row' 1 rfl;have sx1:=bx.soft' 1 rfl;(try simp only [Nat.add_zero] at rx1 sx1);have rx2:=bx.row' 2 rfl;have sx2:=bx.soft' 2 rfl;(try simp only [Nat.add_zero] at rx2 sx2);have rx3:=bx.row' 3 rfl;have sx3:=bx.soft' 3 rfl;(try simp only [Nat.add_zero] at rx3 sx3);have BX:=Lib.hid bx;clear bx
 have hlt0:=BX.out.lt 0 rfl
 have hlt1:=BX.out.lt 1 rfl
 have hlt2:=BX.out.lt 2 rfl
 have hlt3:=BX.out.lt 3 rfl
 simp only [Nat.add_zero] at hlt0
 go_upto_region 4 with (fail)
 (refine wp_region_grow_tail 12 (by kernel_rfl) (by kernel_rfl) ?_;simp only [List.take_succ_cons,List.take_zero,List.drop_succ_cons,List.drop_zero];(repeat (go_big_quiet_step ((first | (go_at_call 62;exact Calls.ext_of (at_ret _ _ _)) | (go_at_call 63;exact Calls.ext_of (Long_ret H.out _))))));refine wpQuiet_nil ?_;rintro _ ⟨g,rfl⟩)
 have bx:=BX.out.step g.below;clear BX rx0 sx0 rx1 sx1 rx2 sx2 rx3 sx3;have rx0:=bx.row' 0 rfl;have sx0:=bx.soft' 0 rfl;(try simp only [Nat.add_zero] at rx0 sx0);have rx1:=bx.row' 1 rfl;have sx1:=bx.soft' 1 rfl;(try simp only [Nat.add_zero] at rx1 sx1);have rx2:=bx.row' 2 rfl;have sx2:=bx.soft' 2 rfl;(try simp only [Nat.add_zero] at rx2 sx2);have rx3:=bx.row' 3 rfl;have sx3:=bx.soft' 3 rfl;(try simp only [Nat.add_zero] at rx3 sx3);have BX:=Lib.hid bx;clear bx
 generalize g.val=V1 at *
 go_wp2_with fail
 have bx:=BX.out.set (j:=1) rfl 4 (.int .i64 (wrap64 (n.at_ d.p.w + t.long)))
 rw [d_set4] at bx
 generalize hd1:({d with p:={d.p with u:=wrap64 (n.at_ d.p.w + t.long)}}:Dl)=d1 at bx
 clear BX rx0 sx0 rx1 sx1 rx2 sx2 rx3 sx3
 generalize V1.setCell _ _=W1 at bx ⊢
 have rx0:=bx.row' 0 rfl
 have sx0:=bx.soft' 0 rfl
 have hlt0:=bx.lt 0 rfl
 have rx1:=bx.row' 1 rfl
 have sx1:=bx.soft' 1 rfl
 have hlt1:=bx.lt 1 rfl
 have rx2:=bx.row' 2 rfl
 have sx2:=bx.soft' 2 rfl
 have hlt2:=bx.lt 2 rfl
 have rx3:=bx.row' 3 rfl
 have sx3:=bx.soft' 3 rfl
 have hlt3:=bx.lt 3 rfl
 simp only [Nat.add_zero] at rx0 sx0 hlt0
 have BX:=Lib.hid bx
 clear bx
 have hg:=Lib.hid (show d1.g=d.g by rw [← hd1])
 have HD1:=Lib.hid hd1
 clear hd1
 (refine wp_region_grow_tail 12 (by kernel_rfl) (by kernel_rfl) ?_;simp only [List.take_succ_cons,List.take_zero,List.drop_succ_cons,List.drop_zero];(repeat (go_big_quiet_step ((first | (go_at_call 62;exact Calls.ext_of (at_ret _ _ _)) | (go_at_call 64;exact Calls.ext_of (Short_ret H.out _))))));refine wpQuiet_nil ?_;rintro _ ⟨g2,rfl⟩)
 have bx:=BX.out.step g2.below;clear BX rx0 sx0 rx1 sx1 rx2 sx2 rx3 sx3;have rx0:=bx.row' 0 rfl;have sx0:=bx.soft' 0 rfl;(try simp only [Nat.add_zero] at rx0 sx0);have rx1:=bx.row' 1 rfl;have sx1:=bx.soft' 1 rfl;(try simp only [Nat.add_zero] at rx1 sx1);have rx2:=bx.row' 2 rfl;have sx2:=bx.soft' 2 rfl;(try simp only [Nat.add_zero] at rx2 sx2);have rx3:=bx.row' 3 rfl;have sx3:=bx.soft' 3 rfl;(try simp only [Nat.add_zero] at rx3 sx3);have BX:=Lib.hid bx;clear bx
 generalize g2.val=V2 at *
 go_upto_region 6 with (fail)
 have bx:=BX.out.set (j:=1) rfl 7 (.int .i64 (wrap64 (n.at_ d1.g.w + 3 * t.mar)))
 rw [d_set7] at bx
 generalize hd2:({d1 with g:={d1.g with u:=wrap64 (n.at_ d1.g.w + 3 * t.mar)}}:Dl)=d2 at bx
 clear BX rx0 sx0 rx1 sx1 rx2 sx2 rx3 sx3
 generalize V2.setCell _ _=W2 at bx ⊢
 have rx0:=bx.row' 0 rfl
 have sx0:=bx.soft' 0 rfl
 have hlt0:=bx.lt 0 rfl
 have rx1:=bx.row' 1 rfl
 have sx1:=bx.soft' 1 rfl
 have hlt1:=bx.lt 1 rfl
 have rx2:=bx.row' 2 rfl
 have sx2:=bx.soft' 2 rfl
 have hlt2:=bx.lt 2 rfl
 have rx3:=bx.row' 3 rfl
 have sx3:=bx.soft' 3 rfl
 have hlt3:=bx.lt 3 rfl
 simp only [Nat.add_zero] at rx0 sx0 hlt0
 have BX:=Lib.hid bx
 clear bx
 have HD2:=Lib.hid hd2
 clear hd2
 go_wp2
 have hc:rowOf (World.setRow W2 (w.heap.size + 1 + 1 + 1) d2.cells) (w.heap.size + 1 + 1 + 1)=d2.cells:=(rowOf_setRow _ _ _ _ sx3).trans (if_pos rfl)
 refine bodyPost_ret (results_row (t:=83) rfl Tryz.underlying83 rfl (by kernel_rfl) _ _ (w.heap.size + 1 + 1 + 1) rfl hc (d_size _)) rfl ?_
 refine ⟨?_,Below.setRow_ BX.out.below (by omega) _⟩
 rw [LV.out,← HD2.out,hg.out,← HD1.out]
set_option maxHeartbeats 4000000 in
theorem Legs_two {t:Tm} (h:TmT t) (d:Dl) (n:Cl) (hr:(d.r == 1)=false) (w:World):Calls Tryz.prog 44 #[.agg t.cells,.agg d.cells,.agg n.cells] w fun e w'=>e=.returned (.agg (legsV t d n).cells)∧Below w.heap.size w w':=by
 have H:=Lib.hid h
 have LV:=Lib.hid (show legsV t d n={ d with p:={ d.p with u:=wrap64 (n.at_ d.p.w + 3 * t.mar) },g:={ d.g with u:=wrap64 (n.at_ d.g.w + t.long) } } from if_neg (by simpa using hr))
 clear h
 go_enter Tryz.func44,Tryz.ntmps44
 go_upto_region 1 with (fail)
 have bx:=Bxs.new4 w (t.cells) 53 (d.cells) 83 (n.cells) 37 (Dl.zero.cells) 83;generalize ((((w.alloc (.cells (t.cells) 53)).alloc (.cells (d.cells) 83)).alloc (.cells (n.cells) 37)).alloc (.cells (Dl.zero.cells) 83))=W at bx ⊢;have rx0:=bx.row' 0 rfl;have sx0:=bx.soft' 0 rfl;(try simp only [Nat.add_zero] at rx0 sx0);have rx1:=bx.row' 1 rfl;have sx1:=bx.soft' 1 rfl;(try simp only [Nat.add_zero] at rx1 sx1);have rx2:=bx.row' 2 rfl;have sx2:=bx.soft' 2 rfl;(try simp only [Nat.add_zero] at rx2 sx2);have rx3:=bx.row' 3 rfl;have sx3:=bx.soft' 3 rfl;(try simp only [Nat.add_zero] at rx3 sx3);have BX:=Lib.hid bx;clear bx
 have hlt0:=BX.out.lt 0 rfl
 have hlt1:=BX.out.lt 1 rfl
 have hlt2:=BX.out.lt 2 rfl
 have hlt3:=BX.out.lt 3 rfl
 simp only [Nat.add_zero] at hlt0
 go_upto_region 4 with (fail)
 (refine wp_region_grow_tail 12 (by kernel_rfl) (by kernel_rfl) ?_;simp only [List.take_succ_cons,List.take_zero,List.drop_succ_cons,List.drop_zero];(repeat (go_big_quiet_step ((first | (go_at_call 62;exact Calls.ext_of (at_ret _ _ _)) | (go_at_call 63;exact Calls.ext_of (Long_ret H.out _))))));refine wpQuiet_nil ?_;rintro _ ⟨g,rfl⟩)
 have bx:=BX.out.step g.below;clear BX rx0 sx0 rx1 sx1 rx2 sx2 rx3 sx3;have rx0:=bx.row' 0 rfl;have sx0:=bx.soft' 0 rfl;(try simp only [Nat.add_zero] at rx0 sx0);have rx1:=bx.row' 1 rfl;have sx1:=bx.soft' 1 rfl;(try simp only [Nat.add_zero] at rx1 sx1);have rx2:=bx.row' 2 rfl;have sx2:=bx.soft' 2 rfl;(try simp only [Nat.add_zero] at rx2 sx2);have rx3:=bx.row' 3 rfl;have sx3:=bx.soft' 3 rfl;(try simp only [Nat.add_zero] at rx3 sx3);have BX:=Lib.hid bx;clear bx
 generalize g.val=V1 at *
 go_wp2_with fail
 have bx:=BX.out.set (j:=1) rfl 7 (.int .i64 (wrap64 (n.at_ d.g.w + t.long)))
 rw [d_set7] at bx
 generalize hd1:({d with g:={d.g with u:=wrap64 (n.at_ d.g.w + t.long)}}:Dl)=d1 at bx
 clear BX rx0 sx0 rx1 sx1 rx2 sx2 rx3 sx3
 generalize V1.setCell _ _=W1 at bx ⊢
 have rx0:=bx.row' 0 rfl
 have sx0:=bx.soft' 0 rfl
 have hlt0:=bx.lt 0 rfl
 have rx1:=bx.row' 1 rfl
 have sx1:=bx.soft' 1 rfl
 have hlt1:=bx.lt 1 rfl
 have rx2:=bx.row' 2 rfl
 have sx2:=bx.soft' 2 rfl
 have hlt2:=bx.lt 2 rfl
 have rx3:=bx.row' 3 rfl
 have sx3:=bx.soft' 3 rfl
 have hlt3:=bx.lt 3 rfl
 simp only [Nat.add_zero] at rx0 sx0 hlt0
 have BX:=Lib.hid bx
 clear bx
 have hg:=Lib.hid (show d1.p=d.p by rw [← hd1])
 have HD1:=Lib.hid hd1
 clear hd1
 (refine wp_region_grow_tail 12 (by kernel_rfl) (by kernel_rfl) ?_;simp only [List.take_succ_cons,List.take_zero,List.drop_succ_cons,List.drop_zero];(repeat (go_big_quiet_step ((first | (go_at_call 62;exact Calls.ext_of (at_ret _ _ _)) | (go_at_call 64;exact Calls.ext_of (Short_ret H.out _))))));refine wpQuiet_nil ?_;rintro _ ⟨g2,rfl⟩)
 have bx:=BX.out.step g2.below;clear BX rx0 sx0 rx1 sx1 rx2 sx2 rx3 sx3;have rx0:=bx.row' 0 rfl;have sx0:=bx.soft' 0 rfl;(try simp only [Nat.add_zero] at rx0 sx0);have rx1:=bx.row' 1 rfl;have sx1:=bx.soft' 1 rfl;(try simp only [Nat.add_zero] at rx1 sx1);have rx2:=bx.row' 2 rfl;have sx2:=bx.soft' 2 rfl;(try simp only [Nat.add_zero] at rx2 sx2);have rx3:=bx.row' 3 rfl;have sx3:=bx.soft' 3 rfl;(try simp only [Nat.add_zero] at rx3 sx3);have BX:=Lib.hid bx;clear bx
 generalize g2.val=V2 at *
 go_upto_region 6 with (fail)
 have bx:=BX.out.set (j:=1) rfl 4 (.int .i64 (wrap64 (n.at_ d1.p.w + 3 * t.mar)))
 rw [d_set4] at bx
 generalize hd2:({d1 with p:={d1.p with u:=wrap64 (n.at_ d1.p.w + 3 * t.mar)}}:Dl)=d2 at bx
 clear BX rx0 sx0 rx1 sx1 rx2 sx2 rx3 sx3
 generalize V2.setCell _ _=W2 at bx ⊢
 have rx0:=bx.row' 0 rfl
 have sx0:=bx.soft' 0 rfl
 have hlt0:=bx.lt 0 rfl
 have rx1:=bx.row' 1 rfl
 have sx1:=bx.soft' 1 rfl
 have hlt1:=bx.lt 1 rfl
 have rx2:=bx.row' 2 rfl
 have sx2:=bx.soft' 2 rfl
 have hlt2:=bx.lt 2 rfl
 have rx3:=bx.row' 3 rfl
 have sx3:=bx.soft' 3 rfl
 have hlt3:=bx.lt 3 rfl
 simp only [Nat.add_zero] at rx0 sx0 hlt0
 have BX:=Lib.hid bx
 clear bx
 have HD2:=Lib.hid hd2
 clear hd2
 go_wp2
 have hc:rowOf (World.setRow W2 (w.heap.size + 1 + 1 + 1) d2.cells) (w.heap.size + 1 + 1 + 1)=d2.cells:=(rowOf_setRow _ _ _ _ sx3).trans (if_pos rfl)
 refine bodyPost_ret (results_row (t:=83) rfl Tryz.underlying83 rfl (by kernel_rfl) _ _ (w.heap.size + 1 + 1 + 1) rfl hc (d_size _)) rfl ?_
 refine ⟨?_,Below.setRow_ BX.out.below (by omega) _⟩
 rw [LV.out,← HD2.out,hg.out,← HD1.out]
theorem Legs_any {t:Tm} (h:TmT t) (d:Dl) (n:Cl) (w:World):Calls Tryz.prog 44 #[.agg t.cells,.agg d.cells,.agg n.cells] w fun e w'=>e=.returned (.agg (legsV t d n).cells)∧Below w.heap.size w w':=by
 by_cases hr:d.r=1
 ·exact Legs_one h d n hr w
 ·exact Legs_two h d n (by simpa using hr) w
end Go.Proofs.YtjkfondgacjpnaaGreatDoor
