/- What is proved: parts of the walk and of the plain law, 1 texts in one. No condition but those each law names. -/
import Derived.Test.YtjkfondgacjpnaaGreatDoorF29
namespace Go.Proofs.YtjkfondgacjpnaaGreatDoor
open Go.RowKit
set_option maxRecDepth 100000
attribute [local go_sem ↓] rowOf_cell
attribute [local go_sem] rowOf_alloc soft_alloc rowOf_drew soft_drew rowOf_setRow soft_setRow frozen_of_soft Ext.row Ext.soft_
def rot16V (x:Int):Int:=bits BinOp.or IntKind.u32 (x * 65536 % 4294967296) (x / 65536)
theorem rot_16 (x:Int) (w:World):Calls Tryz.prog 229 #[.int .u32 x,.int .i64 (-16)] w fun e w'=>e=.returned (.int .u32 (rot16V x))∧w'=w:=by
 have hb:bits BinOp.and IntKind.u64 (IntKind.u64.wrap (-16)) 31=16:=by decide
 have hc:IntKind.u64.wrap (32 - 16)=16:=by decide
 go_enter Tryz.func229,Tryz.ntmps229
 go_wp2
 go_ret
 exact ⟨rfl,rfl⟩
theorem rot_16r (x:Int) (w:World):Calls Tryz.prog 229 #[.int .u32 x,.int .i64 (-16)] w (Ret (.int .u32 (rot16V x)) w):=ret_of ((rot_16 x w).mono fun _ _ ⟨h,e⟩=>⟨h,by rw [e];exact Below.refl _ _⟩)
def rot12V (x:Int):Int:=bits BinOp.or IntKind.u32 (x * 1048576 % 4294967296) (x / 4096)
theorem rot_12 (x:Int) (w:World):Calls Tryz.prog 229 #[.int .u32 x,.int .i64 (-12)] w fun e w'=>e=.returned (.int .u32 (rot12V x))∧w'=w:=by
 have hb:bits BinOp.and IntKind.u64 (IntKind.u64.wrap (-12)) 31=20:=by decide
 have hc:IntKind.u64.wrap (32 - 20)=12:=by decide
 go_enter Tryz.func229,Tryz.ntmps229
 go_wp2
 go_ret
 exact ⟨rfl,rfl⟩
theorem rot_12r (x:Int) (w:World):Calls Tryz.prog 229 #[.int .u32 x,.int .i64 (-12)] w (Ret (.int .u32 (rot12V x)) w):=ret_of ((rot_12 x w).mono fun _ _ ⟨h,e⟩=>⟨h,by rw [e];exact Below.refl _ _⟩)
def rot8V (x:Int):Int:=bits BinOp.or IntKind.u32 (x * 16777216 % 4294967296) (x / 256)
theorem rot_8 (x:Int) (w:World):Calls Tryz.prog 229 #[.int .u32 x,.int .i64 (-8)] w fun e w'=>e=.returned (.int .u32 (rot8V x))∧w'=w:=by
 have hb:bits BinOp.and IntKind.u64 (IntKind.u64.wrap (-8)) 31=24:=by decide
 have hc:IntKind.u64.wrap (32 - 24)=8:=by decide
 go_enter Tryz.func229,Tryz.ntmps229
 go_wp2
 go_ret
 exact ⟨rfl,rfl⟩
theorem rot_8r (x:Int) (w:World):Calls Tryz.prog 229 #[.int .u32 x,.int .i64 (-8)] w (Ret (.int .u32 (rot8V x)) w):=ret_of ((rot_8 x w).mono fun _ _ ⟨h,e⟩=>⟨h,by rw [e];exact Below.refl _ _⟩)
def rot7V (x:Int):Int:=bits BinOp.or IntKind.u32 (x * 33554432 % 4294967296) (x / 128)
theorem rot_7 (x:Int) (w:World):Calls Tryz.prog 229 #[.int .u32 x,.int .i64 (-7)] w fun e w'=>e=.returned (.int .u32 (rot7V x))∧w'=w:=by
 have hb:bits BinOp.and IntKind.u64 (IntKind.u64.wrap (-7)) 31=25:=by decide
 have hc:IntKind.u64.wrap (32 - 25)=7:=by decide
 go_enter Tryz.func229,Tryz.ntmps229
 go_wp2
 go_ret
 exact ⟨rfl,rfl⟩
theorem rot_7r (x:Int) (w:World):Calls Tryz.prog 229 #[.int .u32 x,.int .i64 (-7)] w (Ret (.int .u32 (rot7V x)) w):=ret_of ((rot_7 x w).mono fun _ _ ⟨h,e⟩=>⟨h,by rw [e];exact Below.refl _ _⟩)
def uts (l:List Int):Array Value:=(l.map (Value.int .u32)).toArray
def wd (l:List Int) (a:Nat):Int:=l.getD a 0
theorem uts_size (l:List Int):(uts l).size=l.length:=by simp [uts]
theorem uts_get {l:List Int} {a:Nat} (h:a < l.length):(uts l)[a]?=some (.int .u32 (wd l a)):=by simp [wd,uts,List.getElem?_eq_getElem h,List.getD]
theorem uts_set (l:List Int) (a:Nat) (v:Int):(uts l).setIfInBounds a (.int .u32 v)=uts (l.set a v):=by
 simp [uts,List.map_set]
structure Ws (w:World) (b:Nat) (l:List Int) (n:Nat) (t:TypeId):Prop where
 row:w.heap[b]?=some (.cells (uts l) t)
 len:l.length=n
theorem Ws.lt {w:World} {b:Nat} {l:List Int} {n:Nat} {t:TypeId} (h:Ws w b l n t):b < w.heap.size:=(Array.getElem?_eq_some_iff.1 h.row).1
theorem Ws.row' {w:World} {b:Nat} {l:List Int} {n:Nat} {t:TypeId} (h:Ws w b l n t):rowOf w b=uts l:=rowOf_of h.row
theorem Ws.sft {w:World} {b:Nat} {l:List Int} {n:Nat} {t:TypeId} (h:Ws w b l n t):soft w b=true:=soft_of h.row
theorem Ws.at {w:World} {b:Nat} {l:List Int} {n:Nat} {t:TypeId} (h:Ws w b l n t) {a:Nat} (ha:a < n):(rowOf w b)[a]?=some (.int .u32 (wd l a)):=by rw [h.row'];exact uts_get (by rw [h.len];exact ha)
theorem Ws.set {w:World} {b:Nat} {l:List Int} {n:Nat} {t:TypeId} (h:Ws w b l n t) (a:Nat) (v:Int):Ws (w.setCell ⟨b,a,none⟩ (.int .u32 v)) b (l.set a v) n t:=by
 refine ⟨?_,by rw [List.length_set];exact h.len⟩
 rw [heap_setCell_at,if_pos rfl,h.row]
 simp only [Option.map_some,← uts_set]
theorem Ws.far {w w':World} {b q:Nat} {l:List Int} {n:Nat} {t:TypeId} (h:Ws w b l n t) (hb:But q w w') (hne:b ≠ q):Ws w' b l n t:=⟨(hb.block _ h.lt hne).trans h.row,h.len⟩
structure St (w:World) (p:Nat) (l:List Int) (W:World):Prop where
 but:But p w W
 ws:Ws W p l 16 226
 turns:W.heap[w.heap.size + 1]?=some (.cells #[.int .i64 16,.int .i64 12,.int .i64 8,.int .i64 7] 328)
theorem St.set {w W:World} {p:Nat} {l:List Int} (h:St w p l W) (hp:p < w.heap.size) (a:Nat) (v:Int):St w p (l.set a v) (W.setCell ⟨p,a,none⟩ (.int .u32 v)):=by
 refine ⟨h.but.set _ _,h.ws.set a v,?_⟩
 rw [heap_setCell_at,if_neg (by show ¬ p=w.heap.size + 1;omega)]
 exact h.turns
theorem St.ext {w W:World} {p:Nat} {l:List Int} (h:St w p l W) (g:Ext W):St w p l g.val:=
 ⟨ButN.trans h.but (ButN.below (g.below.mono h.but.size)),⟨(g.below.block _ h.ws.lt).trans h.ws.row,h.ws.len⟩,(g.below.block _ (Array.getElem?_eq_some_iff.1 h.turns).1).trans h.turns⟩
theorem St.drew {w W:World} {p:Nat} {l:List Int} (h:St w p l W):St w p l W.drew:=⟨⟨h.but.os,h.but.tape,h.but.output,h.but.size,h.but.block⟩,⟨h.ws.row,h.ws.len⟩,h.turns⟩
theorem St.cell {w W:World} {p:Nat} {l:List Int} (h:St w p l W) {a:Nat} (ha:a < 16):(rowOf W p)[a]?=some (.int .u32 (wd l a)):=h.ws.at ha
theorem St.t0 {w W:World} {p:Nat} {l:List Int} (h:St w p l W):(rowOf W (w.heap.size + 1))[0]?=some (.int .i64 16):=by rw [rowOf_of h.turns];rfl
theorem St.t1 {w W:World} {p:Nat} {l:List Int} (h:St w p l W):(rowOf W (w.heap.size + 1))[1]?=some (.int .i64 12):=by rw [rowOf_of h.turns];rfl
theorem St.t2 {w W:World} {p:Nat} {l:List Int} (h:St w p l W):(rowOf W (w.heap.size + 1))[2]?=some (.int .i64 8):=by rw [rowOf_of h.turns];rfl
theorem St.t3 {w W:World} {p:Nat} {l:List Int} (h:St w p l W):(rowOf W (w.heap.size + 1))[3]?=some (.int .i64 7):=by rw [rowOf_of h.turns];rfl
theorem ix307_0 (x y:Int) (w:World):(Instr.index 297 (Value.agg #[Value.int IntKind.u32 x,Value.int IntKind.u32 y]) (Value.int IntKind.i64 0)).run Tryz.prog w=.ok (.int .u32 x) w:=by kernel_rfl
theorem ix307_1 (x y:Int) (w:World):(Instr.index 297 (Value.agg #[Value.int IntKind.u32 x,Value.int IntKind.u32 y]) (Value.int IntKind.i64 1)).run Tryz.prog w=.ok (.int .u32 y) w:=by kernel_rfl
attribute [local go_sem] ix307_0 ix307_1
def half (r1 r2:Int→Int) (l:List Int) (a b c d:Nat) (x:Int):List Int:=
 let l1:=l.set a ((wd l a + (wd l b + x) % 4294967296) % 4294967296)
 let l2:=l1.set d (r1 (bits .xor .u32 (wd l1 d) (wd l1 a)))
 let l3:=l2.set c ((wd l2 c + wd l2 d) % 4294967296)
 l3.set b (r2 (bits .xor .u32 (wd l3 b) (wd l3 c)))
def stirV (l:List Int) (a b c d:Nat) (x y:Int):List Int:=half rot8V rot7V (half rot16V rot12V l a b c d x) a b c d y
set_option maxHeartbeats 4000000 in
theorem stir_any {w:World} {p:Nat} {l:List Int} (h:Ws w p l 16 226) {a b c d:Nat} (ha:a < 16) (hb:b < 16) (hc:c < 16) (hd:d < 16) (x y:Int):
  Calls Tryz.prog 190 #[.pointer (some ⟨p,0,none⟩),.int .i64 a,.int .i64 b,.int .i64 c,.int .i64 d,.agg #[.int .u32 x,.int .u32 y]] w fun e w'=>e=.returned (.tuple #[])∧But p w w'∧Ws w' p (stirV l a b c d x y) 16 226:=by
 have hlt:=h.lt
 have ia:(a:Int) < 16:=by omega
 have ib:(b:Int) < 16:=by omega
 have ic:(c:Int) < 16:=by omega
 have id:(d:Int) < 16:=by omega
 have S0:St w p l ((w.alloc (Obj.cells #[Value.int IntKind.u32 x,Value.int IntKind.u32 y] 297)).alloc (Obj.cells #[Value.int IntKind.i64 16,Value.int IntKind.i64 12,Value.int IntKind.i64 8,Value.int IntKind.i64 7] 328)):=by
  have hb:=(below1 w (Obj.cells #[Value.int IntKind.u32 x,Value.int IntKind.u32 y] 297)).alloc (by simp) (Obj.cells #[Value.int IntKind.i64 16,Value.int IntKind.i64 12,Value.int IntKind.i64 8,Value.int IntKind.i64 7] 328)
  exact ⟨ButN.below hb,⟨(hb.block _ hlt).trans h.row,h.len⟩,by have:=heap_alloc_new (w.alloc (Obj.cells #[Value.int IntKind.u32 x,Value.int IntKind.u32 y] 297)) (Obj.cells #[Value.int IntKind.i64 16,Value.int IntKind.i64 12,Value.int IntKind.i64 8,Value.int IntKind.i64 7] 328);simpa using this⟩
 generalize hmid:half rot16V rot12V l a b c d x=m
 have HM:=Lib.hid hmid
 clear hmid h
 go_enter Tryz.func190,Tryz.ntmps190
 go_upto_region 3 with (fail)
 generalize ((w.alloc (Obj.cells #[Value.int IntKind.u32 x,Value.int IntKind.u32 y] 297)).alloc (Obj.cells #[Value.int IntKind.i64 16,Value.int IntKind.i64 12,Value.int IntKind.i64 8,Value.int IntKind.i64 7] 328))=W0 at S0 ⊢
 go_loopw [19] (fun i wr=>(i=.int .i64 0∧St w p l wr) ∨ (i=.int .i64 1∧St w p m wr) ∨ (i=.int .i64 2∧St w p (half rot8V rot7V m a b c d y) wr)) (fun i _=>2 - (intOf i).toNat)
 case atStart=>exact .inl ⟨rfl,S0⟩
 case round=>
  clear S0
  obtain ⟨rfl,S⟩ | ⟨rfl,S⟩ | ⟨rfl,S⟩:=hrel
  ·skip
   have pa:=S.cell ha
   have pb:=S.cell hb
   have sp:=S.ws.sft
   go_upto_region 5 with (fail)
   (refine wp_region_still_tail 15 (by kernel_rfl) (by kernel_rfl) ?_;simp only [List.take_succ_cons,List.take_zero,List.drop_succ_cons,List.drop_zero];(iterate 15 still_step);refine wpStill_nil ?_)
   have S1:=S.drew
   refine (show wpList Tryz.prog _ _ _ _ wr.drew from ?_)
   generalize wr.drew=W1 at S1 ⊢
   clear pa pb sp S
   have pa:=S1.cell ha
   have sp:=S1.ws.sft
   go_wp2_with fail
   have S2:=S1.set hlt a ((wd l a + (wd l b + x) % 4294967296) % 4294967296)
   generalize hl1:l.set a ((wd l a + (wd l b + x) % 4294967296) % 4294967296)=l1 at S2
   generalize W1.setCell _ _=W2 at S2 ⊢
   clear pa sp S1
   have pa:=S2.cell ha
   have pd:=S2.cell hd
   have sp:=S2.ws.sft
   have hlt2:=S2.ws.lt
   have tl:=(Array.getElem?_eq_some_iff.1 S2.turns).1
   have tt:=S2.t0
   (refine wp_region_grow_tail 21 (by kernel_rfl) (by kernel_rfl) ?_;simp only [List.take_succ_cons,List.take_zero,List.drop_succ_cons,List.drop_zero];(repeat (go_big_quiet_step (((go_at_call 229;exact Calls.ext_of (rot_16r _ _))))));refine wpQuiet_nil ?_;rintro _ ⟨g,rfl⟩)
   have S3:=S2.ext g
   generalize g.val=W3 at S3 ⊢
   clear g S2 pa pd sp hlt2 tl tt
   have pd:=S3.cell hd
   have sp:=S3.ws.sft
   go_wp2_with fail
   have S4:=S3.set hlt d (rot16V (bits BinOp.xor IntKind.u32 (wd l1 d) (wd l1 a)))
   generalize hl2:l1.set d (rot16V (bits BinOp.xor IntKind.u32 (wd l1 d) (wd l1 a)))=l2 at S4
   generalize W3.setCell _ _=W4 at S4 ⊢
   clear pd sp S3
   have pc:=S4.cell hc
   have pd:=S4.cell hd
   have sp:=S4.ws.sft
   (refine wp_region_still_tail 13 (by kernel_rfl) (by kernel_rfl) ?_;simp only [List.take_succ_cons,List.take_zero,List.drop_succ_cons,List.drop_zero];(iterate 13 still_step);refine wpStill_nil ?_)
   have S5:=S4.drew
   refine (show wpList Tryz.prog _ _ _ _ W4.drew from ?_)
   generalize W4.drew=W5 at S5 ⊢
   clear pc pd sp S4
   have pc:=S5.cell hc
   have sp:=S5.ws.sft
   go_wp2_with fail
   have S6:=S5.set hlt c ((wd l2 c + wd l2 d) % 4294967296)
   generalize hl3:l2.set c ((wd l2 c + wd l2 d) % 4294967296)=l3 at S6
   generalize W5.setCell _ _=W6 at S6 ⊢
   clear pc sp S5
   have pb:=S6.cell hb
   have pc:=S6.cell hc
   have sp:=S6.ws.sft
   have hlt2:=S6.ws.lt
   have tl:=(Array.getElem?_eq_some_iff.1 S6.turns).1
   have tt:=S6.t1
   (refine wp_region_grow_tail 21 (by kernel_rfl) (by kernel_rfl) ?_;simp only [List.take_succ_cons,List.take_zero,List.drop_succ_cons,List.drop_zero];(repeat (go_big_quiet_step (((go_at_call 229;exact Calls.ext_of (rot_12r _ _))))));refine wpQuiet_nil ?_;rintro _ ⟨g,rfl⟩)
   have S7:=S6.ext g
   generalize g.val=W7 at S7 ⊢
   clear g S6 pb pc sp hlt2 tl tt
   have pb:=S7.cell hb
   have sp:=S7.ws.sft
   have S8:=S7.set hlt b (rot12V (bits BinOp.xor IntKind.u32 (wd l3 b) (wd l3 c)))
   have H8:=Lib.hid (show l3.set b (rot12V (bits BinOp.xor IntKind.u32 (wd l3 b) (wd l3 c)))=half rot16V rot12V l a b c d x by rw [← hl3,← hl2,← hl1];rfl)
   clear hl1 hl2 hl3
   rw [H8.out] at S8
   have S9:=Lib.hid S8
   clear S8 H8
   rw [HM.out] at S9
   go_wp2
   refine ⟨.inr (.inl ⟨rfl,S9.out⟩),?_⟩
   decide
  ·skip
   have pa:=S.cell ha
   have pb:=S.cell hb
   have sp:=S.ws.sft
   go_upto_region 5 with (fail)
   (refine wp_region_still_tail 15 (by kernel_rfl) (by kernel_rfl) ?_;simp only [List.take_succ_cons,List.take_zero,List.drop_succ_cons,List.drop_zero];(iterate 15 still_step);refine wpStill_nil ?_)
   have S1:=S.drew
   refine (show wpList Tryz.prog _ _ _ _ wr.drew from ?_)
   generalize wr.drew=W1 at S1 ⊢
   clear pa pb sp S
   have pa:=S1.cell ha
   have sp:=S1.ws.sft
   go_wp2_with fail
   have S2:=S1.set hlt a ((wd m a + (wd m b + y) % 4294967296) % 4294967296)
   generalize hl1:m.set a ((wd m a + (wd m b + y) % 4294967296) % 4294967296)=l1 at S2
   generalize W1.setCell _ _=W2 at S2 ⊢
   clear pa sp S1
   have pa:=S2.cell ha
   have pd:=S2.cell hd
   have sp:=S2.ws.sft
   have hlt2:=S2.ws.lt
   have tl:=(Array.getElem?_eq_some_iff.1 S2.turns).1
   have tt:=S2.t2
   (refine wp_region_grow_tail 21 (by kernel_rfl) (by kernel_rfl) ?_;simp only [List.take_succ_cons,List.take_zero,List.drop_succ_cons,List.drop_zero];(repeat (go_big_quiet_step (((go_at_call 229;exact Calls.ext_of (rot_8r _ _))))));refine wpQuiet_nil ?_;rintro _ ⟨g,rfl⟩)
   have S3:=S2.ext g
   generalize g.val=W3 at S3 ⊢
   clear g S2 pa pd sp hlt2 tl tt
   have pd:=S3.cell hd
   have sp:=S3.ws.sft
   go_wp2_with fail
   have S4:=S3.set hlt d (rot8V (bits BinOp.xor IntKind.u32 (wd l1 d) (wd l1 a)))
   generalize hl2:l1.set d (rot8V (bits BinOp.xor IntKind.u32 (wd l1 d) (wd l1 a)))=l2 at S4
   generalize W3.setCell _ _=W4 at S4 ⊢
   clear pd sp S3
   have pc:=S4.cell hc
   have pd:=S4.cell hd
   have sp:=S4.ws.sft
   (refine wp_region_still_tail 13 (by kernel_rfl) (by kernel_rfl) ?_;simp only [List.take_succ_cons,List.take_zero,List.drop_succ_cons,List.drop_zero];(iterate 13 still_step);refine wpStill_nil ?_)
   have S5:=S4.drew
   refine (show wpList Tryz.prog _ _ _ _ W4.drew from ?_)
   generalize W4.drew=W5 at S5 ⊢
   clear pc pd sp S4
   have pc:=S5.cell hc
   have sp:=S5.ws.sft
   go_wp2_with fail
   have S6:=S5.set hlt c ((wd l2 c + wd l2 d) % 4294967296)
   generalize hl3:l2.set c ((wd l2 c + wd l2 d) % 4294967296)=l3 at S6
   generalize W5.setCell _ _=W6 at S6 ⊢
   clear pc sp S5
   have pb:=S6.cell hb
   have pc:=S6.cell hc
   have sp:=S6.ws.sft
   have hlt2:=S6.ws.lt
   have tl:=(Array.getElem?_eq_some_iff.1 S6.turns).1
   have tt:=S6.t3
   (refine wp_region_grow_tail 21 (by kernel_rfl) (by kernel_rfl) ?_;simp only [List.take_succ_cons,List.take_zero,List.drop_succ_cons,List.drop_zero];(repeat (go_big_quiet_step (((go_at_call 229;exact Calls.ext_of (rot_7r _ _))))));refine wpQuiet_nil ?_;rintro _ ⟨g,rfl⟩)
   have S7:=S6.ext g
   generalize g.val=W7 at S7 ⊢
   clear g S6 pb pc sp hlt2 tl tt
   have pb:=S7.cell hb
   have sp:=S7.ws.sft
   have S8:=S7.set hlt b (rot7V (bits BinOp.xor IntKind.u32 (wd l3 b) (wd l3 c)))
   have H8:=Lib.hid (show l3.set b (rot7V (bits BinOp.xor IntKind.u32 (wd l3 b) (wd l3 c)))=half rot8V rot7V m a b c d y by rw [← hl3,← hl2,← hl1];rfl)
   clear hl1 hl2 hl3
   rw [H8.out] at S8
   have S9:=Lib.hid S8
   clear S8 H8
   go_wp2
   refine ⟨.inr (.inr ⟨rfl,S9.out⟩),?_⟩
   decide
  ·go_wp2
   go_end0
   refine ⟨rfl,S.but,?_⟩
   unfold stirV
   rw [HM.out]
   exact S.ws
end Go.Proofs.YtjkfondgacjpnaaGreatDoor
