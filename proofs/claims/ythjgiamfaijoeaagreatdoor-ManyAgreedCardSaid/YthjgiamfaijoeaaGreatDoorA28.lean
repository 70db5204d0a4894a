/- What is proved: parts of the walk and of the plain law. No condition but those each law names. -/
import Derived.Test.YthjgiamfaijoeaaGreatDoorA27
import Derived.Test.YthjgiamfaijoeaaGreatDoorA00
set_option linter.unusedSimpArgs false
set_option linter.unusedVariables false
namespace Go.Proofs.YthjgiamfaijoeaaGreatDoor
open Go.RowKit
set_option maxRecDepth 100000
attribute [local go_sem ↓] zad
attribute [local go_sem] zaf zai zaj zal zab zah zae Ext.row Ext.soft_
def zic (x:Int):Int:=bits BinOp.or IntKind.u32 (x * 65536 % 4294967296) (x / 65536)
theorem rot_16 (x:Int) (w:World):Calls Tryz.prog 386 #[.int .u32 x,.int .i64 (-16)] w fun e w'=>e=.returned (.int .u32 (zic x))∧w'=w:=by
 have hb:bits BinOp.and IntKind.u64 (IntKind.u64.wrap (-16)) 31=16:=by decide
 have hc:IntKind.u64.wrap (32 - 16)=16:=by decide
 go_enter Tryz.func386,Tryz.ntmps386
 go_wp2
 go_ret
 exact ⟨rfl,rfl⟩
theorem zabj (x:Int) (w:World):Calls Tryz.prog 386 #[.int .u32 x,.int .i64 (-16)] w (Ret (.int .u32 (zic x)) w):=zbz ((rot_16 x w).mono fun _ _ ⟨h,e⟩=>⟨h,by rw [e];exact Below.refl _ _⟩)
def zid (x:Int):Int:=bits BinOp.or IntKind.u32 (x * 1048576 % 4294967296) (x / 4096)
theorem rot_12 (x:Int) (w:World):Calls Tryz.prog 386 #[.int .u32 x,.int .i64 (-12)] w fun e w'=>e=.returned (.int .u32 (zid x))∧w'=w:=by
 have hb:bits BinOp.and IntKind.u64 (IntKind.u64.wrap (-12)) 31=20:=by decide
 have hc:IntKind.u64.wrap (32 - 20)=12:=by decide
 go_enter Tryz.func386,Tryz.ntmps386
 go_wp2
 go_ret
 exact ⟨rfl,rfl⟩
theorem zabk (x:Int) (w:World):Calls Tryz.prog 386 #[.int .u32 x,.int .i64 (-12)] w (Ret (.int .u32 (zid x)) w):=zbz ((rot_12 x w).mono fun _ _ ⟨h,e⟩=>⟨h,by rw [e];exact Below.refl _ _⟩)
def znn (x:Int):Int:=bits BinOp.or IntKind.u32 (x * 16777216 % 4294967296) (x / 256)
theorem rot_8 (x:Int) (w:World):Calls Tryz.prog 386 #[.int .u32 x,.int .i64 (-8)] w fun e w'=>e=.returned (.int .u32 (znn x))∧w'=w:=by
 have hb:bits BinOp.and IntKind.u64 (IntKind.u64.wrap (-8)) 31=24:=by decide
 have hc:IntKind.u64.wrap (32 - 24)=8:=by decide
 go_enter Tryz.func386,Tryz.ntmps386
 go_wp2
 go_ret
 exact ⟨rfl,rfl⟩
theorem rot_8r (x:Int) (w:World):Calls Tryz.prog 386 #[.int .u32 x,.int .i64 (-8)] w (Ret (.int .u32 (znn x)) w):=zbz ((rot_8 x w).mono fun _ _ ⟨h,e⟩=>⟨h,by rw [e];exact Below.refl _ _⟩)
def zno (x:Int):Int:=bits BinOp.or IntKind.u32 (x * 33554432 % 4294967296) (x / 128)
theorem rot_7 (x:Int) (w:World):Calls Tryz.prog 386 #[.int .u32 x,.int .i64 (-7)] w fun e w'=>e=.returned (.int .u32 (zno x))∧w'=w:=by
 have hb:bits BinOp.and IntKind.u64 (IntKind.u64.wrap (-7)) 31=25:=by decide
 have hc:IntKind.u64.wrap (32 - 25)=7:=by decide
 go_enter Tryz.func386,Tryz.ntmps386
 go_wp2
 go_ret
 exact ⟨rfl,rfl⟩
theorem rot_7r (x:Int) (w:World):Calls Tryz.prog 386 #[.int .u32 x,.int .i64 (-7)] w (Ret (.int .u32 (zno x)) w):=zbz ((rot_7 x w).mono fun _ _ ⟨h,e⟩=>⟨h,by rw [e];exact Below.refl _ _⟩)
def uts (l:List Int):Array Value:=(l.map (Value.int .u32)).toArray
def wd (l:List Int) (a:Nat):Int:=l.getD a 0
theorem zdy (l:List Int):(uts l).size=l.length:=by simp [uts]
theorem znp {l:List Int} {a:Nat} (h:a < l.length):(uts l)[a]?=some (.int .u32 (wd l a)):=by simp [wd,uts,List.getElem?_eq_getElem h,List.getD]
theorem znq (l:List Int) (a:Nat) (v:Int):(uts l).setIfInBounds a (.int .u32 v)=uts (l.set a v):=by
 simp [uts,List.map_set]
structure Ws (w:World) (b:Nat) (l:List Int) (n:Nat) (t:TypeId):Prop where
 row:w.heap[b]?=some (.cells (uts l) t)
 len:l.length=n
theorem Ws.lt {w:World} {b:Nat} {l:List Int} {n:Nat} {t:TypeId} (h:Ws w b l n t):b < w.heap.size:=(zac7 h.row).1
theorem Ws.row' {w:World} {b:Nat} {l:List Int} {n:Nat} {t:TypeId} (h:Ws w b l n t):rowOf w b=uts l:=zaa h.row
theorem Ws.sft {w:World} {b:Nat} {l:List Int} {n:Nat} {t:TypeId} (h:Ws w b l n t):soft w b=true:=zan h.row
theorem Ws.at {w:World} {b:Nat} {l:List Int} {n:Nat} {t:TypeId} (h:Ws w b l n t) {a:Nat} (ha:a < n):(rowOf w b)[a]?=some (.int .u32 (wd l a)):=by rw [h.row'];exact znp (by rw [h.len];exact ha)
theorem Ws.set {w:World} {b:Nat} {l:List Int} {n:Nat} {t:TypeId} (h:Ws w b l n t) (a:Nat) (v:Int):Ws (w.setCell ⟨b,a,none⟩ (.int .u32 v)) b (l.set a v) n t:=by
 refine ⟨?_,by rw [List.length_set];exact h.len⟩
 rw [zag,if_pos rfl,h.row]
 simp only [Option.map_some,← znq]
theorem Ws.far {w w':World} {b q:Nat} {l:List Int} {n:Nat} {t:TypeId} (h:Ws w b l n t) (hb:But q w w') (hne:b ≠ q):Ws w' b l n t:=⟨(hb.block _ h.lt hne).trans h.row,h.len⟩
structure St (w:World) (p:Nat) (l:List Int) (W:World):Prop where
 but:But p w W
 ws:Ws W p l 16 375
 turns:W.heap[w.heap.size + 1]?=some (.cells #[.int .i64 16,.int .i64 12,.int .i64 8,.int .i64 7] 432)
theorem St.set {w W:World} {p:Nat} {l:List Int} (h:St w p l W) (hp:p < w.heap.size) (a:Nat) (v:Int):St w p (l.set a v) (W.setCell ⟨p,a,none⟩ (.int .u32 v)):=by
 refine ⟨h.but.set _ _,h.ws.set a v,?_⟩
 rw [zag,if_neg (by show ¬ p=w.heap.size + 1;omega)]
 exact h.turns
theorem St.ext {w W:World} {p:Nat} {l:List Int} (h:St w p l W) (g:Ext W):St w p l g.val:=
 ⟨ButN.trans h.but (ButN.below (g.below.mono h.but.size)),⟨(g.below.block _ h.ws.lt).trans h.ws.row,h.ws.len⟩,(g.below.block _ (zac7 h.turns).1).trans h.turns⟩
theorem St.drew {w W:World} {p:Nat} {l:List Int} (h:St w p l W):St w p l W.drew:=⟨⟨h.but.os,h.but.tape,h.but.output,h.but.size,h.but.block⟩,⟨h.ws.row,h.ws.len⟩,h.turns⟩
theorem St.cell {w W:World} {p:Nat} {l:List Int} (h:St w p l W) {a:Nat} (ha:a < 16):(rowOf W p)[a]?=some (.int .u32 (wd l a)):=h.ws.at ha
theorem St.t0 {w W:World} {p:Nat} {l:List Int} (h:St w p l W):(rowOf W (w.heap.size + 1))[0]?=some (.int .i64 16):=by rw [zaa h.turns];rfl
theorem St.t1 {w W:World} {p:Nat} {l:List Int} (h:St w p l W):(rowOf W (w.heap.size + 1))[1]?=some (.int .i64 12):=by rw [zaa h.turns];rfl
theorem St.t2 {w W:World} {p:Nat} {l:List Int} (h:St w p l W):(rowOf W (w.heap.size + 1))[2]?=some (.int .i64 8):=by rw [zaa h.turns];rfl
theorem St.t3 {w W:World} {p:Nat} {l:List Int} (h:St w p l W):(rowOf W (w.heap.size + 1))[3]?=some (.int .i64 7):=by rw [zaa h.turns];rfl
theorem zabl (x y:Int) (w:World):(Instr.index 415 (Value.agg #[Value.int IntKind.u32 x,Value.int IntKind.u32 y]) (Value.int IntKind.i64 0)).run Tryz.prog w=.ok (.int .u32 x) w:=by kernel_rfl
theorem zabm (x y:Int) (w:World):(Instr.index 415 (Value.agg #[Value.int IntKind.u32 x,Value.int IntKind.u32 y]) (Value.int IntKind.i64 1)).run Tryz.prog w=.ok (.int .u32 y) w:=by kernel_rfl
attribute [local go_sem] zabl zabm
def half (r1 r2:Int→Int) (l:List Int) (a b c d:Nat) (x:Int):List Int:=
 let l1:=l.set a ((wd l a + (wd l b + x) % 4294967296) % 4294967296)
 let l2:=l1.set d (r1 (bits .xor .u32 (wd l1 d) (wd l1 a)))
 let l3:=l2.set c ((wd l2 c + wd l2 d) % 4294967296)
 l3.set b (r2 (bits .xor .u32 (wd l3 b) (wd l3 c)))
def zgu (l:List Int) (a b c d:Nat) (x y:Int):List Int:=half znn zno (half zic zid l a b c d x) a b c d y
set_option maxHeartbeats 4000000 in
theorem zda {w:World} {p:Nat} {l:List Int} (h:Ws w p l 16 375) {a b c d:Nat} (ha:a < 16) (hb:b < 16) (hc:c < 16) (hd:d < 16) (x y:Int):
  Calls Tryz.prog 364 #[.pointer (some ⟨p,0,none⟩),.int .i64 a,.int .i64 b,.int .i64 c,.int .i64 d,.agg #[.int .u32 x,.int .u32 y]] w fun e w'=>e=.returned (.tuple #[])∧But p w w'∧Ws w' p (zgu l a b c d x y) 16 375:=by
 have hlt:=h.lt
 have ia:(a:Int) < 16:=by omega
 have ib:(b:Int) < 16:=by omega
 have ic:(c:Int) < 16:=by omega
 have id:(d:Int) < 16:=by omega
 have S0:St w p l ((w.alloc (Obj.cells #[Value.int IntKind.u32 x,Value.int IntKind.u32 y] 415)).alloc (Obj.cells #[Value.int IntKind.i64 16,Value.int IntKind.i64 12,Value.int IntKind.i64 8,Value.int IntKind.i64 7] 432)):=by
  have hb:=(zas w (Obj.cells #[Value.int IntKind.u32 x,Value.int IntKind.u32 y] 415)).alloc (by simp) (Obj.cells #[Value.int IntKind.i64 16,Value.int IntKind.i64 12,Value.int IntKind.i64 8,Value.int IntKind.i64 7] 432)
  exact ⟨ButN.below hb,⟨(hb.block _ hlt).trans h.row,h.len⟩,by have:=heap_alloc_new (w.alloc (Obj.cells #[Value.int IntKind.u32 x,Value.int IntKind.u32 y] 415)) (Obj.cells #[Value.int IntKind.i64 16,Value.int IntKind.i64 12,Value.int IntKind.i64 8,Value.int IntKind.i64 7] 432);simpa using this⟩
 generalize hmid:half zic zid l a b c d x=m
 have HM:=zac8 hmid
 clear hmid h
 go_enter Tryz.func364,Tryz.ntmps364
 go_upto_region 3 with (fail)
 generalize ((w.alloc (Obj.cells #[Value.int IntKind.u32 x,Value.int IntKind.u32 y] 415)).alloc (Obj.cells #[Value.int IntKind.i64 16,Value.int IntKind.i64 12,Value.int IntKind.i64 8,Value.int IntKind.i64 7] 432))=W0 at S0 ⊢
 go_loopw [19] (fun i wr=>(i=.int .i64 0∧St w p l wr) ∨ (i=.int .i64 1∧St w p m wr) ∨ (i=.int .i64 2∧St w p (half znn zno m a b c d y) wr)) (fun i _=>2 - (intOf i).toNat)
 case atStart=>exact .inl ⟨rfl,S0⟩
 case round=>
  clear S0
  obtain ⟨rfl,S⟩ | ⟨rfl,S⟩ | ⟨rfl,S⟩:=hrel
  ·skip
   have pa:=S.cell ha
   have pb:=S.cell hb
   have sp:=S.ws.sft
   go_upto_region 5 with (fail)
   (refine wp_region_still_tail 15 (by kernel_rfl) (by kernel_rfl) ?_;simp only [List.take_succ_cons,List.take_zero,List.drop_succ_cons,List.drop_zero];(iterate 15 still_step);refine wpStill_nil ?_)
   have S1:=S.drew
   refine (show wpList Tryz.prog _ _ _ _ wr.drew from ?_)
   generalize wr.drew=W1 at S1 ⊢
   clear pa pb sp S
   have pa:=S1.cell ha
   have sp:=S1.ws.sft
   go_wp2_with fail
   have S2:=S1.set hlt a ((wd l a + (wd l b + x) % 4294967296) % 4294967296)
   generalize hl1:l.set a ((wd l a + (wd l b + x) % 4294967296) % 4294967296)=l1 at S2
   generalize W1.setCell _ _=W2 at S2 ⊢
   clear pa sp S1
   have pa:=S2.cell ha
   have pd:=S2.cell hd
   have sp:=S2.ws.sft
   have hlt2:=S2.ws.lt
   have tl:=(zac7 S2.turns).1
   have tt:=S2.t0
   (refine zap 21 (by kernel_rfl) (by kernel_rfl) ?_;simp only [List.take_succ_cons,List.take_zero,List.drop_succ_cons,List.drop_zero];(repeat (go_big_quiet_step (((go_at_call 386;exact Calls.ext_of (zabj _ _))))));refine wpQuiet_nil ?_;rintro _ ⟨g,rfl⟩)
   have S3:=S2.ext g
   generalize g.val=W3 at S3 ⊢
   clear g S2 pa pd sp hlt2 tl tt
   have pd:=S3.cell hd
   have sp:=S3.ws.sft
   go_wp2_with fail
   have S4:=S3.set hlt d (zic (bits BinOp.xor IntKind.u32 (wd l1 d) (wd l1 a)))
   generalize hl2:l1.set d (zic (bits BinOp.xor IntKind.u32 (wd l1 d) (wd l1 a)))=l2 at S4
   generalize W3.setCell _ _=W4 at S4 ⊢
   clear pd sp S3
   have pc:=S4.cell hc
   have pd:=S4.cell hd
   have sp:=S4.ws.sft
   (refine wp_region_still_tail 13 (by kernel_rfl) (by kernel_rfl) ?_;simp only [List.take_succ_cons,List.take_zero,List.drop_succ_cons,List.drop_zero];(iterate 13 still_step);refine wpStill_nil ?_)
   have S5:=S4.drew
   refine (show wpList Tryz.prog _ _ _ _ W4.drew from ?_)
   generalize W4.drew=W5 at S5 ⊢
   clear pc pd sp S4
   have pc:=S5.cell hc
   have sp:=S5.ws.sft
   go_wp2_with fail
   have S6:=S5.set hlt c ((wd l2 c + wd l2 d) % 4294967296)
   generalize hl3:l2.set c ((wd l2 c + wd l2 d) % 4294967296)=l3 at S6
   generalize W5.setCell _ _=W6 at S6 ⊢
   clear pc sp S5
   have pb:=S6.cell hb
   have pc:=S6.cell hc
   have sp:=S6.ws.sft
   have hlt2:=S6.ws.lt
   have tl:=(zac7 S6.turns).1
   have tt:=S6.t1
   (refine zap 21 (by kernel_rfl) (by kernel_rfl) ?_;simp only [List.take_succ_cons,List.take_zero,List.drop_succ_cons,List.drop_zero];(repeat (go_big_quiet_step (((go_at_call 386;exact Calls.ext_of (zabk _ _))))));refine wpQuiet_nil ?_;rintro _ ⟨g,rfl⟩)
   have S7:=S6.ext g
   generalize g.val=W7 at S7 ⊢
   clear g S6 pb pc sp hlt2 tl tt
   have pb:=S7.cell hb
   have sp:=S7.ws.sft
   have S8:=S7.set hlt b (zid (bits BinOp.xor IntKind.u32 (wd l3 b) (wd l3 c)))
   have H8:=zac8 (show l3.set b (zid (bits BinOp.xor IntKind.u32 (wd l3 b) (wd l3 c)))=half zic zid l a b c d x by rw [← hl3,← hl2,← hl1];rfl)
   clear hl1 hl2 hl3
   rw [H8.out] at S8
   have S9:=zac8 S8
   clear S8 H8
   rw [HM.out] at S9
   go_wp2
   refine ⟨.inr (.inl ⟨rfl,S9.out⟩),?_⟩
   decide
  ·skip
   have pa:=S.cell ha
   have pb:=S.cell hb
   have sp:=S.ws.sft
   go_upto_region 5 with (fail)
   (refine wp_region_still_tail 15 (by kernel_rfl) (by kernel_rfl) ?_;simp only [List.take_succ_cons,List.take_zero,List.drop_succ_cons,List.drop_zero];(iterate 15 still_step);refine wpStill_nil ?_)
   have S1:=S.drew
   refine (show wpList Tryz.prog _ _ _ _ wr.drew from ?_)
   generalize wr.drew=W1 at S1 ⊢
   clear pa pb sp S
   have pa:=S1.cell ha
   have sp:=S1.ws.sft
   go_wp2_with fail
   have S2:=S1.set hlt a ((wd m a + (wd m b + y) % 4294967296) % 4294967296)
   generalize hl1:m.set a ((wd m a + (wd m b + y) % 4294967296) % 4294967296)=l1 at S2
   generalize W1.setCell _ _=W2 at S2 ⊢
   clear pa sp S1
   have pa:=S2.cell ha
   have pd:=S2.cell hd
   have sp:=S2.ws.sft
   have hlt2:=S2.ws.lt
   have tl:=(zac7 S2.turns).1
   have tt:=S2.t2
   (refine zap 21 (by kernel_rfl) (by kernel_rfl) ?_;simp only [List.take_succ_cons,List.take_zero,List.drop_succ_cons,List.drop_zero];(repeat (go_big_quiet_step (((go_at_call 386;exact Calls.ext_of (rot_8r _ _))))));refine wpQuiet_nil ?_;rintro _ ⟨g,rfl⟩)
   have S3:=S2.ext g
   generalize g.val=W3 at S3 ⊢
   clear g S2 pa pd sp hlt2 tl tt
   have pd:=S3.cell hd
   have sp:=S3.ws.sft
   go_wp2_with fail
   have S4:=S3.set hlt d (znn (bits BinOp.xor IntKind.u32 (wd l1 d) (wd l1 a)))
   generalize hl2:l1.set d (znn (bits BinOp.xor IntKind.u32 (wd l1 d) (wd l1 a)))=l2 at S4
   generalize W3.setCell _ _=W4 at S4 ⊢
   clear pd sp S3
   have pc:=S4.cell hc
   have pd:=S4.cell hd
   have sp:=S4.ws.sft
   (refine wp_region_still_tail 13 (by kernel_rfl) (by kernel_rfl) ?_;simp only [List.take_succ_cons,List.take_zero,List.drop_succ_cons,List.drop_zero];(iterate 13 still_step);refine wpStill_nil ?_)
   have S5:=S4.drew
   refine (show wpList Tryz.prog _ _ _ _ W4.drew from ?_)
   generalize W4.drew=W5 at S5 ⊢
   clear pc pd sp S4
   have pc:=S5.cell hc
   have sp:=S5.ws.sft
   go_wp2_with fail
   have S6:=S5.set hlt c ((wd l2 c + wd l2 d) % 4294967296)
   generalize hl3:l2.set c ((wd l2 c + wd l2 d) % 4294967296)=l3 at S6
   generalize W5.setCell _ _=W6 at S6 ⊢
   clear pc sp S5
   have pb:=S6.cell hb
   have pc:=S6.cell hc
   have sp:=S6.ws.sft
   have hlt2:=S6.ws.lt
   have tl:=(zac7 S6.turns).1
   have tt:=S6.t3
   (refine zap 21 (by kernel_rfl) (by kernel_rfl) ?_;simp only [List.take_succ_cons,List.take_zero,List.drop_succ_cons,List.drop_zero];(repeat (go_big_quiet_step (((go_at_call 386;exact Calls.ext_of (rot_7r _ _))))));refine wpQuiet_nil ?_;rintro _ ⟨g,rfl⟩)
   have S7:=S6.ext g
   generalize g.val=W7 at S7 ⊢
   clear g S6 pb pc sp hlt2 tl tt
   have pb:=S7.cell hb
   have sp:=S7.ws.sft
   have S8:=S7.set hlt b (zno (bits BinOp.xor IntKind.u32 (wd l3 b) (wd l3 c)))
   have H8:=zac8 (show l3.set b (zno (bits BinOp.xor IntKind.u32 (wd l3 b) (wd l3 c)))=half znn zno m a b c d y by rw [← hl3,← hl2,← hl1];rfl)
   clear hl1 hl2 hl3
   rw [H8.out] at S8
   have S9:=zac8 S8
   clear S8 H8
   go_wp2
   refine ⟨.inr (.inr ⟨rfl,S9.out⟩),?_⟩
   decide
  ·go_wp2
   go_end0
   refine ⟨rfl,S.but,?_⟩
   unfold zgu
   rw [HM.out]
   exact S.ws
end Go.Proofs.YthjgiamfaijoeaaGreatDoor
namespace Go.Proofs.YthjgiamfaijoeaaGreatDoor
open Go.RowKit
set_option maxRecDepth 100000
attribute [local go_sem ↓] zad
attribute [local go_sem] zaf zai zaj zal zac zak zab zah zae Ext.row Ext.soft_
def zie (x:Nat):Prop:=(48 ≤ x∧x ≤ 57) ∨ (97 ≤ x∧x ≤ 102)
instance (x:Nat):Decidable (zie x):=by unfold zie;infer_instance
def dg (x:Nat):Nat:=if 97 ≤ x then x - 87 else x - 48
theorem dg_lt {x:Nat} (h:zie x):dg x < 16:=by unfold dg zie at *;split <;> omega
theorem ztz {x:Nat} (h:zie x) (w:World):Calls Tryz.prog 363 #[.int .u8 x] w fun e w'=>e=.returned (.int .i64 (dg x))∧w'=w:=by
 by_cases h1:97 ≤ x
 ·obtain ⟨y,rfl⟩:∃ y,x=97 + y:=⟨x - 97,by omega⟩
  have hy:y < 6:=by unfold zie at h;omega
  have E:((dg (97 + y):Nat):Int)=y + 10:=by unfold dg;rw [if_pos h1];omega
  rw [E]
  clear E h h1
  go_enter Tryz.func363,Tryz.ntmps363
  go_wp2
  go_ret
  refine ⟨?_,rfl⟩
  show Ending.returned (.int .i64 (97 + (y:Int) - 97 + 10))=_
  congr 2
  omega
 ·obtain ⟨y,rfl⟩:∃ y,x=48 + y:=⟨x - 48,by unfold zie at h;omega⟩
  have hy:y < 10:=by unfold zie at h;omega
  have E:((dg (48 + y):Nat):Int)=y:=by unfold dg;rw [if_neg h1];omega
  rw [E]
  clear E h h1
  go_enter Tryz.func363,Tryz.ntmps363
  go_wp2
  go_ret
  refine ⟨?_,rfl⟩
  show Ending.returned (.int .i64 (48 + (y:Int) - 48))=_
  congr 2
  omega
theorem zb1 {x:Nat} (h:zie x) (w:World):Calls Tryz.prog 363 #[.int .u8 x] w (Ret (.int .i64 (dg x)) w):=zbz ((ztz h w).mono fun _ _ ⟨h,e⟩=>⟨h,by rw [e];exact Below.refl _ _⟩)
def sb (s:ByteArray) (i:Nat):Nat:=if h:i < s.size then (s[i]'h).toNat else 0
structure Hex (s:ByteArray):Prop where
 size:s.size=16
 hex:∀ i,i < 16→zie (sb s i)
theorem Hex.at {s:ByteArray} (h:Hex s) {i:Nat} (hi:i < 16) (z:Int) (hz:z=i):∃ x d,x=sb s i∧zie x∧d=dg x∧d < 16∧(∀ w,(Instr.index 9 (.string s) (.int .i64 z)).run Tryz.prog w=.ok (.int .u8 x) w):=by
 refine ⟨_,_,rfl,h.hex i hi,rfl,dg_lt (h.hex i hi),fun w=>?_⟩
 subst hz
 rw [run_index_string w 9 s .i64 i Tryz.underlying9]
 have hs:=h.size
 rw [dif_pos ⟨by omega,by omega⟩]
 congr 3
 unfold sb
 rw [dif_pos (by omega)]
 rfl
theorem Ws.low {w w':World} {b:Nat} {l:List Int} {n:Nat} {t:TypeId} (h:Ws w b l n t) (hb:Below w.heap.size w w'):Ws w' b l n t:=⟨(hb.block _ h.lt).trans h.row,h.len⟩
def zls (m:List Int) (s:ByteArray) (l:List Int) (k:Nat):List Int:=
 zgu l (k % 4) (4 + (k % 4 + k / 4) % 4) (8 + (k % 4 + 2 * (k / 4)) % 4) (12 + (k % 4 + 3 * (k / 4)) % 4) (wd m (dg (sb s (2 * k)))) (wd m (dg (sb s (2 * k + 1))))
def roundN (m:List Int) (s:ByteArray) (l:List Int):Nat→List Int
 | 0=>l
 | k + 1=>zls m s (roundN m s l k) k
set_option maxHeartbeats 4000000 in
theorem zlt {w:World} {p q:Nat} {l m:List Int} {s:ByteArray} (h:Ws w p l 16 375) (hm:Ws w q m 16 374) (hne:q ≠ p) (hs:Hex s):
  Calls Tryz.prog 306 #[.pointer (some ⟨p,0,none⟩),.pointer (some ⟨q,0,none⟩),.string s] w fun e w'=>e=.returned (.tuple #[])∧But p w w'∧Ws w' p (roundN m s l 8) 16 375:=by
 have hlt:=h.lt
 go_enter Tryz.func306,Tryz.ntmps306
 go_upto_region 1 with (fail)
 go_loopw [10] (fun i wr=>(i=.int .i64 0∧But p w wr∧Ws wr p (roundN m s l 0) 16 375) ∨ (i=.int .i64 1∧But p w wr∧Ws wr p (roundN m s l 1) 16 375) ∨ (i=.int .i64 2∧But p w wr∧Ws wr p (roundN m s l 2) 16 375) ∨ (i=.int .i64 3∧But p w wr∧Ws wr p (roundN m s l 3) 16 375) ∨ (i=.int .i64 4∧But p w wr∧Ws wr p (roundN m s l 4) 16 375) ∨ (i=.int .i64 5∧But p w wr∧Ws wr p (roundN m s l 5) 16 375) ∨ (i=.int .i64 6∧But p w wr∧Ws wr p (roundN m s l 6) 16 375) ∨ (i=.int .i64 7∧But p w wr∧Ws wr p (roundN m s l 7) 16 375) ∨ (i=.int .i64 8∧But p w wr∧Ws wr p (roundN m s l 8) 16 375)) (fun i _=>8 - (intOf i).toNat)
 case atStart=>exact .inl ⟨rfl,ButN.refl,h⟩
 case round=>
  obtain ⟨rfl,B,P⟩ | ⟨rfl,B,P⟩ | ⟨rfl,B,P⟩ | ⟨rfl,B,P⟩ | ⟨rfl,B,P⟩ | ⟨rfl,B,P⟩ | ⟨rfl,B,P⟩ | ⟨rfl,B,P⟩ | ⟨rfl,B,P⟩:=hrel
  ·obtain ⟨x,dx,hx,ix,hdx,lx,fx⟩:=hs.at (i:=0) (by decide) 0 rfl
   obtain ⟨y,dy,hy,iy,hdy,ly,fy⟩:=hs.at (i:=1) (by decide) 1 rfl
   have DX:=zac8 (zb1 ix)
   have DY:=zac8 (zb1 iy)
   rw [← hdx] at DX
   rw [← hdy] at DY
   have lx':(dx:Int) < 16:=by omega
   have ly':(dy:Int) < 16:=by omega
   have w1:IntKind.i64.wrap 0=0:=by decide
   have w2:IntKind.i64.wrap 1=1:=by decide
   have M:=hm.far B hne
   have mx:=M.at lx
   have my:=M.at ly
   have ml:=M.lt
   have HS:=zac8 (show roundN m s l 1=zgu (roundN m s l 0) 0 4 8 12 (wd m dx) (wd m dy) by rw [hdx,hdy,hx,hy];rfl)
   have HP:=zac8 P
   have HM:=zac8 M
   clear P M hx hy hdx hdy ix iy
   generalize roundN m s l 0=l0 at HP HS
   generalize wd m dx=vx at *
   generalize wd m dy=vy at *
   go_upto_region 3 with (fail)
   (refine zaw 21 20 (fun N=>.pointer (some ⟨N,0,none⟩)) (.cells #[.int .u32 0,.int .u32 0] 415) (by kernel_rfl) (by kernel_rfl) ?_;simp only [List.take_succ_cons,List.take_zero,List.drop_succ_cons,List.drop_zero];(repeat (first | (refine grow_lay rfl (fun _=>rfl) (fun _ _=>(by simp [go_sem])) ?_;simp only [Act.put,List.setIfInBounds_toArray,List.set_cons_succ,List.set_cons_zero]) | (refine grow_step rfl (fun K hK=>?_);go_simp;(first | (refine hK _ ?_;clear hK K) | (apply Exists.intro;refine ⟨fun _=>?_,hK _ ?_⟩;(first | (go_at_call 363;with_reducible exact DX.out _) | (go_at_call 363;with_reducible exact DY.out _));clear hK K)))));refine (fun N w' hN lN eN ⟨g,he⟩=>?_);subst he;have rN:=zaa eN;have sN:=zan eN;clear eN)
   have HW:=zac8 ((g.below.setCell (p:=⟨N,0,none⟩) hN (.int .u32 vx)).setCell (p:=⟨N,1,none⟩) hN (.int .u32 vy))
   go_wp2_with fail
   generalize World.setCell (World.setCell g.val _ _) _ _=W1 at HW ⊢
   have P1:=HP.out.low HW.out
   refine (zda P1 (a:=0) (b:=4) (c:=8) (d:=12) (by decide) (by decide) (by decide) (by decide) vx vy).mono ?_
   rintro _ W2 ⟨rfl,b2,P2⟩
   rw [← HS.out] at P2
   have B2:=zac8 (B.trans (ButN.trans (ButN.below HW.out) (b2.mono HW.out.size)))
   have P3:=zac8 P2
   clear P1 P2 HW b2 B HP HM HS mx my ml
   go_wp2
   refine ⟨.inr (.inl ⟨rfl,B2.out,P3.out⟩),?_⟩
   decide
  ·obtain ⟨x,dx,hx,ix,hdx,lx,fx⟩:=hs.at (i:=2) (by decide) 2 rfl
   obtain ⟨y,dy,hy,iy,hdy,ly,fy⟩:=hs.at (i:=3) (by decide) 3 rfl
   have DX:=zac8 (zb1 ix)
   have DY:=zac8 (zb1 iy)
   rw [← hdx] at DX
   rw [← hdy] at DY
   have lx':(dx:Int) < 16:=by omega
   have ly':(dy:Int) < 16:=by omega
   have w1:IntKind.i64.wrap 2=2:=by decide
   have w2:IntKind.i64.wrap 3=3:=by decide
   have M:=hm.far B hne
   have mx:=M.at lx
   have my:=M.at ly
   have ml:=M.lt
   have HS:=zac8 (show roundN m s l 2=zgu (roundN m s l 1) 1 5 9 13 (wd m dx) (wd m dy) by rw [hdx,hdy,hx,hy];rfl)
   have HP:=zac8 P
   have HM:=zac8 M
   clear P M hx hy hdx hdy ix iy
   generalize roundN m s l 1=l0 at HP HS
   generalize wd m dx=vx at *
   generalize wd m dy=vy at *
   go_upto_region 3 with (fail)
   (refine zaw 21 20 (fun N=>.pointer (some ⟨N,0,none⟩)) (.cells #[.int .u32 0,.int .u32 0] 415) (by kernel_rfl) (by kernel_rfl) ?_;simp only [List.take_succ_cons,List.take_zero,List.drop_succ_cons,List.drop_zero];(repeat (first | (refine grow_lay rfl (fun _=>rfl) (fun _ _=>(by simp [go_sem])) ?_;simp only [Act.put,List.setIfInBounds_toArray,List.set_cons_succ,List.set_cons_zero]) | (refine grow_step rfl (fun K hK=>?_);go_simp;(first | (refine hK _ ?_;clear hK K) | (apply Exists.intro;refine ⟨fun _=>?_,hK _ ?_⟩;(first | (go_at_call 363;with_reducible exact DX.out _) | (go_at_call 363;with_reducible exact DY.out _));clear hK K)))));refine (fun N w' hN lN eN ⟨g,he⟩=>?_);subst he;have rN:=zaa eN;have sN:=zan eN;clear eN)
   have HW:=zac8 ((g.below.setCell (p:=⟨N,0,none⟩) hN (.int .u32 vx)).setCell (p:=⟨N,1,none⟩) hN (.int .u32 vy))
   go_wp2_with fail
   generalize World.setCell (World.setCell g.val _ _) _ _=W1 at HW ⊢
   have P1:=HP.out.low HW.out
   refine (zda P1 (a:=1) (b:=5) (c:=9) (d:=13) (by decide) (by decide) (by decide) (by decide) vx vy).mono ?_
   rintro _ W2 ⟨rfl,b2,P2⟩
   rw [← HS.out] at P2
   have B2:=zac8 (B.trans (ButN.trans (ButN.below HW.out) (b2.mono HW.out.size)))
   have P3:=zac8 P2
   clear P1 P2 HW b2 B HP HM HS mx my ml
   go_wp2
   refine ⟨.inr (.inr (.inl ⟨rfl,B2.out,P3.out⟩)),?_⟩
   decide
  ·obtain ⟨x,dx,hx,ix,hdx,lx,fx⟩:=hs.at (i:=4) (by decide) 4 rfl
   obtain ⟨y,dy,hy,iy,hdy,ly,fy⟩:=hs.at (i:=5) (by decide) 5 rfl
   have DX:=zac8 (zb1 ix)
   have DY:=zac8 (zb1 iy)
   rw [← hdx] at DX
   rw [← hdy] at DY
   have lx':(dx:Int) < 16:=by omega
   have ly':(dy:Int) < 16:=by omega
   have w1:IntKind.i64.wrap 4=4:=by decide
   have w2:IntKind.i64.wrap 5=5:=by decide
   have M:=hm.far B hne
   have mx:=M.at lx
   have my:=M.at ly
   have ml:=M.lt
   have HS:=zac8 (show roundN m s l 3=zgu (roundN m s l 2) 2 6 10 14 (wd m dx) (wd m dy) by rw [hdx,hdy,hx,hy];rfl)
   have HP:=zac8 P
   have HM:=zac8 M
   clear P M hx hy hdx hdy ix iy
   generalize roundN m s l 2=l0 at HP HS
   generalize wd m dx=vx at *
   generalize wd m dy=vy at *
   go_upto_region 3 with (fail)
   (refine zaw 21 20 (fun N=>.pointer (some ⟨N,0,none⟩)) (.cells #[.int .u32 0,.int .u32 0] 415) (by kernel_rfl) (by kernel_rfl) ?_;simp only [List.take_succ_cons,List.take_zero,List.drop_succ_cons,List.drop_zero];(repeat (first | (refine grow_lay rfl (fun _=>rfl) (fun _ _=>(by simp [go_sem])) ?_;simp only [Act.put,List.setIfInBounds_toArray,List.set_cons_succ,List.set_cons_zero]) | (refine grow_step rfl (fun K hK=>?_);go_simp;(first | (refine hK _ ?_;clear hK K) | (apply Exists.intro;refine ⟨fun _=>?_,hK _ ?_⟩;(first | (go_at_call 363;with_reducible exact DX.out _) | (go_at_call 363;with_reducible exact DY.out _));clear hK K)))));refine (fun N w' hN lN eN ⟨g,he⟩=>?_);subst he;have rN:=zaa eN;have sN:=zan eN;clear eN)
   have HW:=zac8 ((g.below.setCell (p:=⟨N,0,none⟩) hN (.int .u32 vx)).setCell (p:=⟨N,1,none⟩) hN (.int .u32 vy))
   go_wp2_with fail
   generalize World.setCell (World.setCell g.val _ _) _ _=W1 at HW ⊢
   have P1:=HP.out.low HW.out
   refine (zda P1 (a:=2) (b:=6) (c:=10) (d:=14) (by decide) (by decide) (by decide) (by decide) vx vy).mono ?_
   rintro _ W2 ⟨rfl,b2,P2⟩
   rw [← HS.out] at P2
   have B2:=zac8 (B.trans (ButN.trans (ButN.below HW.out) (b2.mono HW.out.size)))
   have P3:=zac8 P2
   clear P1 P2 HW b2 B HP HM HS mx my ml
   go_wp2
   refine ⟨.inr (.inr (.inr (.inl ⟨rfl,B2.out,P3.out⟩))),?_⟩
   decide
  ·obtain ⟨x,dx,hx,ix,hdx,lx,fx⟩:=hs.at (i:=6) (by decide) 6 rfl
   obtain ⟨y,dy,hy,iy,hdy,ly,fy⟩:=hs.at (i:=7) (by decide) 7 rfl
   have DX:=zac8 (zb1 ix)
   have DY:=zac8 (zb1 iy)
   rw [← hdx] at DX
   rw [← hdy] at DY
   have lx':(dx:Int) < 16:=by omega
   have ly':(dy:Int) < 16:=by omega
   have w1:IntKind.i64.wrap 6=6:=by decide
   have w2:IntKind.i64.wrap 7=7:=by decide
   have M:=hm.far B hne
   have mx:=M.at lx
   have my:=M.at ly
   have ml:=M.lt
   have HS:=zac8 (show roundN m s l 4=zgu (roundN m s l 3) 3 7 11 15 (wd m dx) (wd m dy) by rw [hdx,hdy,hx,hy];rfl)
   have HP:=zac8 P
   have HM:=zac8 M
   clear P M hx hy hdx hdy ix iy
   generalize roundN m s l 3=l0 at HP HS
   generalize wd m dx=vx at *
   generalize wd m dy=vy at *
   go_upto_region 3 with (fail)
   (refine zaw 21 20 (fun N=>.pointer (some ⟨N,0,none⟩)) (.cells #[.int .u32 0,.int .u32 0] 415) (by kernel_rfl) (by kernel_rfl) ?_;simp only [List.take_succ_cons,List.take_zero,List.drop_succ_cons,List.drop_zero];(repeat (first | (refine grow_lay rfl (fun _=>rfl) (fun _ _=>(by simp [go_sem])) ?_;simp only [Act.put,List.setIfInBounds_toArray,List.set_cons_succ,List.set_cons_zero]) | (refine grow_step rfl (fun K hK=>?_);go_simp;(first | (refine hK _ ?_;clear hK K) | (apply Exists.intro;refine ⟨fun _=>?_,hK _ ?_⟩;(first | (go_at_call 363;with_reducible exact DX.out _) | (go_at_call 363;with_reducible exact DY.out _));clear hK K)))));refine (fun N w' hN lN eN ⟨g,he⟩=>?_);subst he;have rN:=zaa eN;have sN:=zan eN;clear eN)
   have HW:=zac8 ((g.below.setCell (p:=⟨N,0,none⟩) hN (.int .u32 vx)).setCell (p:=⟨N,1,none⟩) hN (.int .u32 vy))
   go_wp2_with fail
   generalize World.setCell (World.setCell g.val _ _) _ _=W1 at HW ⊢
   have P1:=HP.out.low HW.out
   refine (zda P1 (a:=3) (b:=7) (c:=11) (d:=15) (by decide) (by decide) (by decide) (by decide) vx vy).mono ?_
   rintro _ W2 ⟨rfl,b2,P2⟩
   rw [← HS.out] at P2
   have B2:=zac8 (B.trans (ButN.trans (ButN.below HW.out) (b2.mono HW.out.size)))
   have P3:=zac8 P2
   clear P1 P2 HW b2 B HP HM HS mx my ml
   go_wp2
   refine ⟨.inr (.inr (.inr (.inr (.inl ⟨rfl,B2.out,P3.out⟩)))),?_⟩
   decide
  ·obtain ⟨x,dx,hx,ix,hdx,lx,fx⟩:=hs.at (i:=8) (by decide) 8 rfl
   obtain ⟨y,dy,hy,iy,hdy,ly,fy⟩:=hs.at (i:=9) (by decide) 9 rfl
   have DX:=zac8 (zb1 ix)
   have DY:=zac8 (zb1 iy)
   rw [← hdx] at DX
   rw [← hdy] at DY
   have lx':(dx:Int) < 16:=by omega
   have ly':(dy:Int) < 16:=by omega
   have w1:IntKind.i64.wrap 8=8:=by decide
   have w2:IntKind.i64.wrap 9=9:=by decide
   have M:=hm.far B hne
   have mx:=M.at lx
   have my:=M.at ly
   have ml:=M.lt
   have HS:=zac8 (show roundN m s l 5=zgu (roundN m s l 4) 0 5 10 15 (wd m dx) (wd m dy) by rw [hdx,hdy,hx,hy];rfl)
   have HP:=zac8 P
   have HM:=zac8 M
   clear P M hx hy hdx hdy ix iy
   generalize roundN m s l 4=l0 at HP HS
   generalize wd m dx=vx at *
   generalize wd m dy=vy at *
   go_upto_region 3 with (fail)
   (refine zaw 21 20 (fun N=>.pointer (some ⟨N,0,none⟩)) (.cells #[.int .u32 0,.int .u32 0] 415) (by kernel_rfl) (by kernel_rfl) ?_;simp only [List.take_succ_cons,List.take_zero,List.drop_succ_cons,List.drop_zero];(repeat (first | (refine grow_lay rfl (fun _=>rfl) (fun _ _=>(by simp [go_sem])) ?_;simp only [Act.put,List.setIfInBounds_toArray,List.set_cons_succ,List.set_cons_zero]) | (refine grow_step rfl (fun K hK=>?_);go_simp;(first | (refine hK _ ?_;clear hK K) | (apply Exists.intro;refine ⟨fun _=>?_,hK _ ?_⟩;(first | (go_at_call 363;with_reducible exact DX.out _) | (go_at_call 363;with_reducible exact DY.out _));clear hK K)))));refine (fun N w' hN lN eN ⟨g,he⟩=>?_);subst he;have rN:=zaa eN;have sN:=zan eN;clear eN)
   have HW:=zac8 ((g.below.setCell (p:=⟨N,0,none⟩) hN (.int .u32 vx)).setCell (p:=⟨N,1,none⟩) hN (.int .u32 vy))
   go_wp2_with fail
   generalize World.setCell (World.setCell g.val _ _) _ _=W1 at HW ⊢
   have P1:=HP.out.low HW.out
   refine (zda P1 (a:=0) (b:=5) (c:=10) (d:=15) (by decide) (by decide) (by decide) (by decide) vx vy).mono ?_
   rintro _ W2 ⟨rfl,b2,P2⟩
   rw [← HS.out] at P2
   have B2:=zac8 (B.trans (ButN.trans (ButN.below HW.out) (b2.mono HW.out.size)))
   have P3:=zac8 P2
   clear P1 P2 HW b2 B HP HM HS mx my ml
   go_wp2
   refine ⟨.inr (.inr (.inr (.inr (.inr (.inl ⟨rfl,B2.out,P3.out⟩))))),?_⟩
   decide
  ·obtain ⟨x,dx,hx,ix,hdx,lx,fx⟩:=hs.at (i:=10) (by decide) 10 rfl
   obtain ⟨y,dy,hy,iy,hdy,ly,fy⟩:=hs.at (i:=11) (by decide) 11 rfl
   have DX:=zac8 (zb1 ix)
   have DY:=zac8 (zb1 iy)
   rw [← hdx] at DX
   rw [← hdy] at DY
   have lx':(dx:Int) < 16:=by omega
   have ly':(dy:Int) < 16:=by omega
   have w1:IntKind.i64.wrap 10=10:=by decide
   have w2:IntKind.i64.wrap 11=11:=by decide
   have M:=hm.far B hne
   have mx:=M.at lx
   have my:=M.at ly
   have ml:=M.lt
   have HS:=zac8 (show roundN m s l 6=zgu (roundN m s l 5) 1 6 11 12 (wd m dx) (wd m dy) by rw [hdx,hdy,hx,hy];rfl)
   have HP:=zac8 P
   have HM:=zac8 M
   clear P M hx hy hdx hdy ix iy
   generalize roundN m s l 5=l0 at HP HS
   generalize wd m dx=vx at *
   generalize wd m dy=vy at *
   go_upto_region 3 with (fail)
   (refine zaw 21 20 (fun N=>.pointer (some ⟨N,0,none⟩)) (.cells #[.int .u32 0,.int .u32 0] 415) (by kernel_rfl) (by kernel_rfl) ?_;simp only [List.take_succ_cons,List.take_zero,List.drop_succ_cons,List.drop_zero];(repeat (first | (refine grow_lay rfl (fun _=>rfl) (fun _ _=>(by simp [go_sem])) ?_;simp only [Act.put,List.setIfInBounds_toArray,List.set_cons_succ,List.set_cons_zero]) | (refine grow_step rfl (fun K hK=>?_);go_simp;(first | (refine hK _ ?_;clear hK K) | (apply Exists.intro;refine ⟨fun _=>?_,hK _ ?_⟩;(first | (go_at_call 363;with_reducible exact DX.out _) | (go_at_call 363;with_reducible exact DY.out _));clear hK K)))));refine (fun N w' hN lN eN ⟨g,he⟩=>?_);subst he;have rN:=zaa eN;have sN:=zan eN;clear eN)
   have HW:=zac8 ((g.below.setCell (p:=⟨N,0,none⟩) hN (.int .u32 vx)).setCell (p:=⟨N,1,none⟩) hN (.int .u32 vy))
   go_wp2_with fail
   generalize World.setCell (World.setCell g.val _ _) _ _=W1 at HW ⊢
   have P1:=HP.out.low HW.out
   refine (zda P1 (a:=1) (b:=6) (c:=11) (d:=12) (by decide) (by decide) (by decide) (by decide) vx vy).mono ?_
   rintro _ W2 ⟨rfl,b2,P2⟩
   rw [← HS.out] at P2
   have B2:=zac8 (B.trans (ButN.trans (ButN.below HW.out) (b2.mono HW.out.size)))
   have P3:=zac8 P2
   clear P1 P2 HW b2 B HP HM HS mx my ml
   go_wp2
   refine ⟨.inr (.inr (.inr (.inr (.inr (.inr (.inl ⟨rfl,B2.out,P3.out⟩)))))),?_⟩
   decide
  ·obtain ⟨x,dx,hx,ix,hdx,lx,fx⟩:=hs.at (i:=12) (by decide) 12 rfl
   obtain ⟨y,dy,hy,iy,hdy,ly,fy⟩:=hs.at (i:=13) (by decide) 13 rfl
   have DX:=zac8 (zb1 ix)
   have DY:=zac8 (zb1 iy)
   rw [← hdx] at DX
   rw [← hdy] at DY
   have lx':(dx:Int) < 16:=by omega
   have ly':(dy:Int) < 16:=by omega
   have w1:IntKind.i64.wrap 12=12:=by decide
   have w2:IntKind.i64.wrap 13=13:=by decide
   have M:=hm.far B hne
   have mx:=M.at lx
   have my:=M.at ly
   have ml:=M.lt
   have HS:=zac8 (show roundN m s l 7=zgu (roundN m s l 6) 2 7 8 13 (wd m dx) (wd m dy) by rw [hdx,hdy,hx,hy];rfl)
   have HP:=zac8 P
   have HM:=zac8 M
   clear P M hx hy hdx hdy ix iy
   generalize roundN m s l 6=l0 at HP HS
   generalize wd m dx=vx at *
   generalize wd m dy=vy at *
   go_upto_region 3 with (fail)
   (refine zaw 21 20 (fun N=>.pointer (some ⟨N,0,none⟩)) (.cells #[.int .u32 0,.int .u32 0] 415) (by kernel_rfl) (by kernel_rfl) ?_;simp only [List.take_succ_cons,List.take_zero,List.drop_succ_cons,List.drop_zero];(repeat (first | (refine grow_lay rfl (fun _=>rfl) (fun _ _=>(by simp [go_sem])) ?_;simp only [Act.put,List.setIfInBounds_toArray,List.set_cons_succ,List.set_cons_zero]) | (refine grow_step rfl (fun K hK=>?_);go_simp;(first | (refine hK _ ?_;clear hK K) | (apply Exists.intro;refine ⟨fun _=>?_,hK _ ?_⟩;(first | (go_at_call 363;with_reducible exact DX.out _) | (go_at_call 363;with_reducible exact DY.out _));clear hK K)))));refine (fun N w' hN lN eN ⟨g,he⟩=>?_);subst he;have rN:=zaa eN;have sN:=zan eN;clear eN)
   have HW:=zac8 ((g.below.setCell (p:=⟨N,0,none⟩) hN (.int .u32 vx)).setCell (p:=⟨N,1,none⟩) hN (.int .u32 vy))
   go_wp2_with fail
   generalize World.setCell (World.setCell g.val _ _) _ _=W1 at HW ⊢
   have P1:=HP.out.low HW.out
   refine (zda P1 (a:=2) (b:=7) (c:=8) (d:=13) (by decide) (by decide) (by decide) (by decide) vx vy).mono ?_
   rintro _ W2 ⟨rfl,b2,P2⟩
   rw [← HS.out] at P2
   have B2:=zac8 (B.trans (ButN.trans (ButN.below HW.out) (b2.mono HW.out.size)))
   have P3:=zac8 P2
   clear P1 P2 HW b2 B HP HM HS mx my ml
   go_wp2
   refine ⟨.inr (.inr (.inr (.inr (.inr (.inr (.inr (.inl ⟨rfl,B2.out,P3.out⟩))))))),?_⟩
   decide
  ·obtain ⟨x,dx,hx,ix,hdx,lx,fx⟩:=hs.at (i:=14) (by decide) 14 rfl
   obtain ⟨y,dy,hy,iy,hdy,ly,fy⟩:=hs.at (i:=15) (by decide) 15 rfl
   have DX:=zac8 (zb1 ix)
   have DY:=zac8 (zb1 iy)
   rw [← hdx] at DX
   rw [← hdy] at DY
   have lx':(dx:Int) < 16:=by omega
   have ly':(dy:Int) < 16:=by omega
   have w1:IntKind.i64.wrap 14=14:=by decide
   have w2:IntKind.i64.wrap 15=15:=by decide
   have M:=hm.far B hne
   have mx:=M.at lx
   have my:=M.at ly
   have ml:=M.lt
   have HS:=zac8 (show roundN m s l 8=zgu (roundN m s l 7) 3 4 9 14 (wd m dx) (wd m dy) by rw [hdx,hdy,hx,hy];rfl)
   have HP:=zac8 P
   have HM:=zac8 M
   clear P M hx hy hdx hdy ix iy
   generalize roundN m s l 7=l0 at HP HS
   generalize wd m dx=vx at *
   generalize wd m dy=vy at *
   go_upto_region 3 with (fail)
   (refine zaw 21 20 (fun N=>.pointer (some ⟨N,0,none⟩)) (.cells #[.int .u32 0,.int .u32 0] 415) (by kernel_rfl) (by kernel_rfl) ?_;simp only [List.take_succ_cons,List.take_zero,List.drop_succ_cons,List.drop_zero];(repeat (first | (refine grow_lay rfl (fun _=>rfl) (fun _ _=>(by simp [go_sem])) ?_;simp only [Act.put,List.setIfInBounds_toArray,List.set_cons_succ,List.set_cons_zero]) | (refine grow_step rfl (fun K hK=>?_);go_simp;(first | (refine hK _ ?_;clear hK K) | (apply Exists.intro;refine ⟨fun _=>?_,hK _ ?_⟩;(first | (go_at_call 363;with_reducible exact DX.out _) | (go_at_call 363;with_reducible exact DY.out _));clear hK K)))));refine (fun N w' hN lN eN ⟨g,he⟩=>?_);subst he;have rN:=zaa eN;have sN:=zan eN;clear eN)
   have HW:=zac8 ((g.below.setCell (p:=⟨N,0,none⟩) hN (.int .u32 vx)).setCell (p:=⟨N,1,none⟩) hN (.int .u32 vy))
   go_wp2_with fail
   generalize World.setCell (World.setCell g.val _ _) _ _=W1 at HW ⊢
   have P1:=HP.out.low HW.out
   refine (zda P1 (a:=3) (b:=4) (c:=9) (d:=14) (by decide) (by decide) (by decide) (by decide) vx vy).mono ?_
   rintro _ W2 ⟨rfl,b2,P2⟩
   rw [← HS.out] at P2
   have B2:=zac8 (B.trans (ButN.trans (ButN.below HW.out) (b2.mono HW.out.size)))
   have P3:=zac8 P2
   clear P1 P2 HW b2 B HP HM HS mx my ml
   go_wp2
   refine ⟨.inr (.inr (.inr (.inr (.inr (.inr (.inr (.inr (⟨rfl,B2.out,P3.out⟩)))))))),?_⟩
   decide
  ·go_wp2
   go_end0
   exact ⟨rfl,B,P⟩
end Go.Proofs.YthjgiamfaijoeaaGreatDoor
