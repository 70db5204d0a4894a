/- What is proved: parts of the walk and of the plain law. No condition but those each law names. -/
import Derived.Test.YthjgiamfaijoeaaGreatDoorD24
import Derived.Test.YthjgiamfaijoeaaGreatDoorD00
set_option linter.unusedSimpArgs false
set_option linter.unusedVariables false
set_option maxRecDepth 100000
namespace Go.Proofs.YthjgiamfaijoeaaGreatDoor
open Go.RowKit
attribute [local go_sem ↓] zad
attribute [local go_sem] zaf zai zaj zal zab zah zae Ext.row Ext.soft_
structure Bs (w:World) (b:Nat) (l:List Nat) (n:Nat) (t:TypeId):Prop where
 row:w.heap[b]?=some (.cells (bts l).toArray t)
 len:l.length=n
def bd (l:List Nat) (a:Nat):Nat:=l.getD a 0
theorem Bs.lt {w:World} {b:Nat} {l:List Nat} {n:Nat} {t:TypeId} (h:Bs w b l n t):b < w.heap.size:=(zadu h.row).1
theorem Bs.at {w:World} {b:Nat} {l:List Nat} {n:Nat} {t:TypeId} (h:Bs w b l n t) {a:Nat} (ha:a < n):(rowOf w b)[a]?=some (.int .u8 (bd l a:Nat)):=by
 rw [zaa h.row]
 have:a < l.length:=by rw [h.len];exact ha
 simp [bts,bd,zady this,List.getD]
theorem Bs.low {w w':World} {b:Nat} {l:List Nat} {n:Nat} {t:TypeId} (h:Bs w b l n t) (hb:Below w.heap.size w w'):Bs w' b l n t:=⟨(hb.block _ h.lt).trans h.row,h.len⟩
theorem Bxs.snoc' {w W:World} {L:List (Array Value × TypeId)} (h:Bxs w L W) (hz:W.heap.size=w.heap.size + L.length) (C:Array Value) (t:TypeId):Bxs w (L ++ [(C,t)]) (W.alloc (.cells C t)):=(h.snoc hz C t).1
theorem Bxs.word {w W:World} {L:List (Array Value × TypeId)} (h:Bxs w L W) (j:Nat) {l:List Int} {t:TypeId} (hj:L[j]?=some (uts l,t)) {a:Nat} (ha:a < l.length):(rowOf W (w.heap.size + j))[a]?=some (.int .u32 (wd l a)):=by rw [h.row' j hj];exact zny ha
theorem Bxs.wset {w W:World} {L:List (Array Value × TypeId)} (h:Bxs w L W) {j:Nat} {l:List Int} {t:TypeId} (hj:L[j]?=some (uts l,t)) (k:Nat) (v:Int):Bxs w (L.set j (uts (l.set k v),t)) (W.setCell ⟨w.heap.size + j,k,none⟩ (.int .u32 v)):=by
 have:=h.set hj k (.int .u32 v)
 rwa [znz] at this
theorem Bxs.drew {w W:World} {L:List (Array Value × TypeId)} (h:Bxs w L W):Bxs w L W.drew:=⟨h.below.drew,h.rows⟩
theorem copyW {W:World} {g s o:Nat} {cur src:List Int} {t t':TypeId} (hg:W.heap[g]?=some (.cells (uts cur) t)) (hs:W.heap[s]?=some (.cells (uts src) t')) (h8:src.length=8) (ho:o + 8 ≤ cur.length) (dl dc:Nat) (hdl:8 ≤ dl):
  (Builtin.copy_ #[344,344] 3 #[.slice (some ⟨g,o,none⟩) dl dc,.slice (some ⟨s,0,none⟩) 8 8]).run Tryz.prog W=.ok (.int .i64 8) (W.setRow g (uts (cur.take o ++ src ++ cur.drop (o + 8)))):=by
 have hcell:∀ j v,(src.map (Value.int .u32))[j]?=some v→W.cell? ((⟨s,0,none⟩:Addr).add j)=some v:=fun j v hj=>by
  rw [zas]
  show W.cell? ⟨s,0 + j,none⟩=some v
  rw [zad,zaa hs,Nat.zero_add]
  simpa [uts] using hj
 rw [run_copy_row Tryz.prog _ 344 344 3 309 g o dl dc ⟨s,0,none⟩ 8 8 (uts cur) t (src.map (Value.int .u32)) Tryz.underlying344 (by kernel_rfl) hg (by rw [List.length_map,h8];exact (Nat.min_eq_left hdl).symm) hcell (by simpa [zdy,h8] using ho) (by simp [Value.oneCell'])]
 simp only [List.length_map,h8]
 congr 2
 simp [uts]
theorem Bxs.put {w W:World} {L:List (Array Value × TypeId)} (h:Bxs w L W) {j:Nat} {C:Array Value} {t:TypeId} (hj:L[j]?=some (C,t)) (C':Array Value):Bxs w (L.set j (C',t)) (W.setRow (w.heap.size + j) C'):=by
 refine ⟨Below.setRow_ h.below (Nat.le_add_right ..) _,fun i D u hi=>?_⟩
 by_cases e:i=j
 ·subst e
  rw [List.getElem?_set_self (List.getElem?_eq_some_iff.1 hj).1] at hi
  injection hi with hi
  injection hi with h1 h2
  subst h1 h2
  exact setRow_heap W _ _ _ t _ (h.rows i C t hj)
 ·rw [List.getElem?_set_ne (fun x=>e x.symm)] at hi
  rw [setRow_other _ _ _ _ (by omega)]
  exact h.rows i D u hi
def z8:List Int:=[0,0,0,0,0,0,0,0]
def z16:List Int:=z8 ++ z8
def zab8 (b0 b1 b2 b3:Nat):Int:=bits .or .u32 (bits .or .u32 (bits .or .u32 ((b0:Int) % 4294967296) ((b1:Int) % 4294967296 * 256 % 4294967296)) ((b2:Int) % 4294967296 * 65536 % 4294967296)) ((b3:Int) % 4294967296 * 16777216 % 4294967296)
def mN (l:List Nat):Nat→List Int
 | 0=>z16
 | k + 1=>(mN l k).set k (zab8 (bd l (4 * k)) (bd l (4 * k + 1)) (bd l (4 * k + 2)) (bd l (4 * k + 3)))
theorem zl6 (l:List Nat):∀ k,(mN l k).length=16
 | 0=>rfl
 | k + 1=>by rw [mN,List.length_set];exact zl6 l k
def begV:List Int:=[1779033703,3144134277,1013904242,2773480762,1359893119,2600822924,528734635,1541459225]
def ordV:Nat→ByteArray
 | 0=>⟨#[48,49,50,51,52,53,54,55,56,57,97,98,99,100,101,102]⟩
 | 1=>⟨#[101,97,52,56,57,102,100,54,49,99,48,50,98,55,53,51]⟩
 | 2=>⟨#[98,56,99,48,53,50,102,100,97,101,51,54,55,49,57,52]⟩
 | 3=>⟨#[55,57,51,49,100,99,98,101,50,54,53,97,52,48,102,56]⟩
 | 4=>⟨#[57,48,53,55,50,52,97,102,101,49,98,99,54,56,51,100]⟩
 | 5=>⟨#[50,99,54,97,48,98,56,51,52,100,55,53,102,101,49,57]⟩
 | 6=>⟨#[99,53,49,102,101,100,52,97,48,55,54,51,57,50,56,98]⟩
 | 7=>⟨#[100,98,55,101,99,49,51,57,53,48,102,52,56,54,50,97]⟩
 | 8=>⟨#[54,102,101,57,98,51,48,56,99,50,100,55,49,52,97,53]⟩
 | _=>⟨#[97,50,56,52,55,54,49,53,102,98,57,101,51,99,100,48]⟩
def ordC:Array Value:=#[.string (ordV 0),.string (ordV 1),.string (ordV 2),.string (ordV 3),.string (ordV 4),.string (ordV 5),.string (ordV 6),.string (ordV 7),.string (ordV 8),.string (ordV 9)]
theorem zui (k:Nat):Hex (ordV k):=by
 unfold ordV
 split <;> exact ⟨by decide,by decide⟩
theorem ix279 {k:Nat} (hk:k < 10) (w:World):(Instr.index 376 (.agg ordC) (.int .i64 k)).run Tryz.prog w=.ok (.string (ordV k)) w:=by
 obtain rfl | rfl | rfl | rfl | rfl | rfl | rfl | rfl | rfl | rfl:k=0 ∨ k=1 ∨ k=2 ∨ k=3 ∨ k=4 ∨ k=5 ∨ k=6 ∨ k=7 ∨ k=8 ∨ k=9:=by omega
 all_goals kernel_rfl
theorem zab9 (w:World) (ρ:Operand→Value) (x:Operand) (dst:Option Tmp) (ty:TypeId) (pos:String) (af:Array Edge) (gd:Option (Nat × Bool)) (hp:pp (ρ x)=true) (h:po (ρ x) + 10 ≤ (rowOf w (pb (ρ x))).size):(execOp ρ ⟨dst,.load 376 x,ty,pos,af,gd⟩).run Tryz.prog w=.ok (.value (.agg (sub (rowOf w (pb (ρ x))) (po (ρ x)) 10))) w:=
 zav 376 10 Tryz.underlying376 rfl (by kernel_rfl) w ρ x dst ty pos af gd hp h
theorem zuj:sub ordC 0 10=ordC:=by kernel_rfl
theorem zx0 (w:World) (a:Act) (dst:Option Tmp) (ty:TypeId) (pos:String) (af:Array Edge) (gd:Option (Nat × Bool)) (h:rowOf w 3=ordC):(execOp a.eval ⟨dst,.load 376 (.global 3),ty,pos,af,gd⟩).run Tryz.prog w=.ok (.value (.agg ordC)) w:=by
 rw [zab9 w a.eval (.global 3) dst ty pos af gd rfl (by show 0 + 10 ≤ (rowOf w 3).size;rw [h];decide)]
 show Result.ok (Next.value (.agg (sub (rowOf w 3) 0 10))) w=_
 rw [h,zuj]
attribute [go_sem ↓] zx0
theorem Bxs.but {w W W':World} {L:List (Array Value × TypeId)} (h:Bxs w L W) (j:Nat) {l l':List Int} {t:TypeId} {n:Nat} (hj:L[j]?=some (uts l,t)) (hb:But (w.heap.size + j) W W') (hw:Ws W' (w.heap.size + j) l' n t):Bxs w (L.set j (uts l',t)) W':=by
 refine ⟨h.below.trans (hb.to h.below.size (Nat.le_add_right ..)),fun i D u hi=>?_⟩
 by_cases e:i=j
 ·subst e
  rw [List.getElem?_set_self (List.getElem?_eq_some_iff.1 hj).1] at hi
  injection hi with hi
  injection hi with h1 h2
  subst h1 h2
  exact hw.row
 ·rw [List.getElem?_set_ne (fun x=>e x.symm)] at hi
  exact (hb.block _ (h.lt i hi) (by omega)).trans (h.rows i D u hi)
def zgz (m P:List Int):Nat→List Int
 | 0=>P
 | k + 1=>roundN m (ordV k) (zgz m P k) 8
theorem zpo (r1 r2:Int→Int) (l:List Int) (a b c d:Nat) (x:Int):(half r1 r2 l a b c d x).length=l.length:=by unfold half;simp only [List.length_set]
theorem zjl (m:List Int) (s:ByteArray) (l:List Int):∀ k,(roundN m s l k).length=l.length
 | 0=>rfl
 | k + 1=>by rw [roundN,zl4,zgy,zpo,zpo];exact zjl m s l k
theorem zeg (m P:List Int):∀ k,(zgz m P k).length=P.length
 | 0=>rfl
 | k + 1=>by rw [zgz,zjl];exact zeg m P k
def finN (F h:List Int):Nat→List Int
 | 0=>h
 | k + 1=>(finN F h k).set k (bits .xor .u32 (wd (finN F h k) k) (bits .xor .u32 (wd F k) (wd F (k + 8))))
theorem zcz (F h:List Int):∀ k,(finN F h k).length=h.length
 | 0=>rfl
 | k + 1=>by rw [finN,List.length_set];exact zcz F h k
theorem zuk (w:World) (ρ:Operand→Value) (x:Operand) (dst:Option Tmp) (ty:TypeId) (pos:String) (af:Array Edge) (gd:Option (Nat × Bool)) (hp:pp (ρ x)=true) (h:po (ρ x) + 8 ≤ (rowOf w (pb (ρ x))).size):(execOp ρ ⟨dst,.load 311 x,ty,pos,af,gd⟩).run Tryz.prog w=.ok (.value (.agg (sub (rowOf w (pb (ρ x))) (po (ρ x)) 8))) w:=
 zav 311 8 Tryz.underlying311 rfl (by kernel_rfl) w ρ x dst ty pos af gd hp h
theorem zx1 (w:World) (ρ:Operand→Value) (x y:Operand) (dst:Option Tmp) (ty:TypeId) (pos:String) (af:Array Edge) (gd:Option (Nat × Bool)) (hp:pp (ρ x)=true) (h0:po (ρ x)=0) (hv:isAg (ρ y)=true) (hs:soft w (pb (ρ x))=true) (hr:(rowOf w (pb (ρ x))).size=8) (hn:(agc (ρ y)).size=8) (h1:ones (agc (ρ y))=true):
  (execOp ρ ⟨dst,.store 311 x y,ty,pos,af,gd⟩).run Tryz.prog w=.ok .skip (w.setRow (pb (ρ x)) (agc (ρ y))):=
 za3 311 8 (by kernel_rfl) w ρ x y dst ty pos af gd hp h0 hv hs hr hn h1
attribute [go_sem ↓] zuk zx1
theorem zkk {l:List Int} {n:Nat} (h:l.length=n):sub (uts l) 0 n=uts l:=by
 subst h
 apply Array.ext'
 simp [sub,uts]
 exact List.take_of_length_le (by simp)
theorem zev (l:List Int):ones (uts l)=true:=by simp [ones,uts,Value.oneCell']
def zul (h:List Int) (count:Nat) (last:Bool):List Int:=
 let P0:=h ++ begV
 let P1:=P0.set 12 (bits .xor .u32 (wd P0 12) ((count:Int) % 4294967296))
 let P2:=P1.set 13 (bits .xor .u32 (wd P1 13) ((count:Int) / 4294967296 % 4294967296))
 if last then P2.set 14 (bits BinOp.xor IntKind.u32 4294967295 (wd P2 14)) else P2
def zgg (h:List Int) (l:List Nat) (count:Nat) (last:Bool):List Int:=finN (zgz (mN l 16) (zul h count last) 10) h 8
set_option maxHeartbeats 8000000 in
theorem zpp {w:World} {t4 t5:TypeId} {q:Nat} {h:List Int} {l:List Nat} (hg:w.heap[1]?=some (.cells (uts begV) t4)) (ho:w.heap[3]?=some (.cells ordC t5)) (hq:Bs w q l 64 312) (hh:h.length=8) (count:Nat) (last:Bool):
  Calls Tryz.prog 232 #[.agg (uts h),.pointer (some ⟨q,0,none⟩),.int .u64 count,.bool last] w fun e w'=>e=.returned (.agg (uts (zgg h l count last)))∧Below w.heap.size w w':=by
 have BQ:=zadv hq
 have bx:=(((Bxs.nil w).snoc' rfl (uts h) 311).snoc' (by simp) (uts z8) 311).snoc' (by simp) (uts z16) 374
 have hz:(((w.alloc (.cells (uts h) 311)).alloc (.cells (uts z8) 311)).alloc (.cells (uts z16) 374)).heap.size=w.heap.size + 3:=by simp
 simp only [List.nil_append,List.cons_append] at bx
 clear hq
 go_enter Tryz.func232,Tryz.ntmps232
 go_upto_region 3 with (fail)
 rw [show (#[Value.int IntKind.u32 0,Value.int IntKind.u32 0,Value.int IntKind.u32 0,Value.int IntKind.u32 0,Value.int IntKind.u32 0,Value.int IntKind.u32 0,Value.int IntKind.u32 0,Value.int IntKind.u32 0]:Array Value)=uts z8 from rfl,show (#[Value.int IntKind.u32 0,Value.int IntKind.u32 0,Value.int IntKind.u32 0,Value.int IntKind.u32 0,Value.int IntKind.u32 0,Value.int IntKind.u32 0,Value.int IntKind.u32 0,Value.int IntKind.u32 0,Value.int IntKind.u32 0,Value.int IntKind.u32 0,Value.int IntKind.u32 0,Value.int IntKind.u32 0,Value.int IntKind.u32 0,Value.int IntKind.u32 0,Value.int IntKind.u32 0,Value.int IntKind.u32 0]:Array Value)=uts z16 from rfl]
 generalize (((w.alloc (.cells (uts h) 311)).alloc (.cells (uts z8) 311)).alloc (.cells (uts z16) 374))=W0 at bx hz ⊢
 go_loopw [15] (fun i wr=>∃ k:Nat,k ≤ 16∧i=.int .i64 k∧Bxs w [(uts h,311),(uts z8,311),(uts (mN l k),374)] wr∧wr.heap.size=w.heap.size + 3) (fun i _=>16 - (intOf i).toNat)
 case atStart=>exact ⟨0,by decide,rfl,bx,hz⟩
 case round=>
  clear bx hz
  obtain ⟨k,hk,rfl,BX,HZ⟩:=hrel
  by_cases hlt:k < 16
  ·obtain ⟨n0,e0⟩:∃ n:Nat,n=4 * k:=⟨_,rfl⟩
   obtain ⟨n1,e1⟩:∃ n:Nat,n=4 * k + 1:=⟨_,rfl⟩
   obtain ⟨n2,e2⟩:∃ n:Nat,n=4 * k + 2:=⟨_,rfl⟩
   obtain ⟨n3,e3⟩:∃ n:Nat,n=4 * k + 3:=⟨_,rfl⟩
   have w0:IntKind.i64.wrap (4 * (k:Int))=n0:=by rw [IntKind.wrap_i64];omega
   have w1:IntKind.i64.wrap ((n0:Int) + 1)=n1:=by rw [IntKind.wrap_i64];omega
   have w2:IntKind.i64.wrap ((n0:Int) + 2)=n2:=by rw [IntKind.wrap_i64];omega
   have w3:IntKind.i64.wrap ((n0:Int) + 3)=n3:=by rw [IntKind.wrap_i64];omega
   have l0:n0 < 64:=by omega
   have l1:n1 < 64:=by omega
   have l2:n2 < 64:=by omega
   have l3:n3 < 64:=by omega
   have i0:(n0:Int) < 64:=by omega
   have i1:(n1:Int) < 64:=by omega
   have i2:(n2:Int) < 64:=by omega
   have i3:(n3:Int) < 64:=by omega
   have i4:(k:Int) < 16:=by omega
   have q0:=(BQ.out.low BX.below).at l0
   have q1:=(BQ.out.low BX.below).at l1
   have q2:=(BQ.out.low BX.below).at l2
   have q3:=(BQ.out.low BX.below).at l3
   obtain ⟨b0,hb0⟩:∃ b,b=bd l n0:=⟨_,rfl⟩
   obtain ⟨b1,hb1⟩:∃ b,b=bd l n1:=⟨_,rfl⟩
   obtain ⟨b2,hb2⟩:∃ b,b=bd l n2:=⟨_,rfl⟩
   obtain ⟨b3,hb3⟩:∃ b,b=bd l n3:=⟨_,rfl⟩
   rw [← hb0] at q0
   rw [← hb1] at q1
   rw [← hb2] at q2
   rw [← hb3] at q3
   have E:=zadv (show mN l (k + 1)=(mN l k).set k (zab8 b0 b1 b2 b3) by rw [mN,hb0,hb1,hb2,hb3,e0,e1,e2,e3])
   clear e0 e1 e2 e3 hb0 hb1 hb2 hb3
   go_upto_region 5 with (fail)
   (refine wp_region_still_tail 39 (by kernel_rfl) (by kernel_rfl) ?_;simp only [List.take_succ_cons,List.take_zero,List.drop_succ_cons,List.drop_zero];(iterate 39 still_step);refine wpStill_nil ?_)
   have bx:=BX.drew
   have hz:wr.drew.heap.size=w.heap.size + 3:=HZ
   refine (show wpList Tryz.prog _ _ _ _ wr.drew from ?_)
   generalize wr.drew=W1 at bx hz ⊢
   clear q0 q1 q2 q3 BX HZ
   have sm:=bx.soft' 2 rfl
   have rm:=bx.row' 2 rfl
   have km:k < (uts (mN l k)).size:=by rw [zdy,zl6];exact hlt
   have cm:(rowOf W1 (w.heap.size + 2))[k]?=some (.int .u32 (wd (mN l k) k)):=by rw [rm];exact zny (by rw [zl6];exact hlt)
   have BX:=zadv (zadx bx hz)
   clear bx hz rm
   go_wp2_with fail
   refine ⟨⟨k + 1,by omega,rfl,?_,?_⟩,?_⟩
   ·have:=BX.out.1.set (j:=2) rfl k (.int .u32 (zab8 b0 b1 b2 b3))
    rw [znz,← E.out] at this
    exact this
   ·simp only [World.setCell,Array.size_modify]
    exact BX.out.2
   ·show 16 - ((k:Int) + 1).toNat < 16 - (k:Int).toNat
    omega
  ·obtain rfl:k=16:=by omega
   have bx:=BX.snoc' (by simpa using HZ) (uts z16) 375
   simp only [List.cons_append,List.nil_append] at bx
   go_upto_region 8 with (fail)
   rw [show (#[Value.int IntKind.u32 0,Value.int IntKind.u32 0,Value.int IntKind.u32 0,Value.int IntKind.u32 0,Value.int IntKind.u32 0,Value.int IntKind.u32 0,Value.int IntKind.u32 0,Value.int IntKind.u32 0,Value.int IntKind.u32 0,Value.int IntKind.u32 0,Value.int IntKind.u32 0,Value.int IntKind.u32 0,Value.int IntKind.u32 0,Value.int IntKind.u32 0,Value.int IntKind.u32 0,Value.int IntKind.u32 0]:Array Value)=uts z16 from rfl]
   generalize wr.alloc (.cells (uts z16) 375)=W1 at bx ⊢
   clear BX HZ
   generalize hmm:mN l 16=mm at bx
   have HM:=zadv hmm
   clear hmm
   have bx:=bx.drew
   have hcp:=copyW (bx.rows 3 _ _ rfl) (bx.rows 0 _ _ rfl) hh (o:=0) (by decide) 8 16 (by decide)
   (refine wp_region_still_tail 2 (by kernel_rfl) (by kernel_rfl) ?_;simp only [List.take_succ_cons,List.take_zero,List.drop_succ_cons,List.drop_zero];(iterate 2 still_step);refine wpStill_nil ?_)
   refine (show wpList Tryz.prog _ _ _ _ W1.drew from ?_)
   generalize W1.drew=W2 at bx hcp ⊢
   rw [show List.take 0 z16 ++ h ++ List.drop (0 + 8) z16=h ++ z8 from rfl] at hcp
   simp only [Nat.add_zero] at hcp
   have bx:=bx.put (j:=3) rfl (uts (h ++ z8))
   go_wp2_with fail
   generalize W2.setRow _ _=W3 at bx ⊢
   clear hcp
   have bx:=bx.drew
   have hg3:W3.drew.heap[1]?=some (.cells (uts begV) t4):=(bx.below.block _ (zadu hg).1).trans hg
   have hcp:=copyW (bx.rows 3 _ _ rfl) hg3 rfl (o:=8) (by simp [hh,z8]) 8 8 (by decide)
   (refine wp_region_still_tail 2 (by kernel_rfl) (by kernel_rfl) ?_;simp only [List.take_succ_cons,List.take_zero,List.drop_succ_cons,List.drop_zero];(iterate 2 still_step);refine wpStill_nil ?_)
   refine (show wpList Tryz.prog _ _ _ _ W3.drew from ?_)
   generalize W3.drew=W4 at bx hcp ⊢
   rw [show List.take 8 (h ++ z8) ++ begV ++ List.drop (8 + 8) (h ++ z8)=h ++ begV by rw [List.take_append_of_le_length (by omega),List.take_of_length_le (by omega),List.drop_of_length_le (by simp [hh,z8]),List.append_nil]] at hcp
   have bx:=bx.put (j:=3) rfl (uts (h ++ begV))
   clear hg3
   go_upto_region 10 with (fail)
   generalize W4.setRow _ _=W5 at bx ⊢
   clear hcp
   simp only [List.set_cons_succ,List.set_cons_zero] at bx
   have hp0:(h ++ begV).length=16:=by simp [hh,begV]
   generalize hP0:h ++ begV=P0 at bx hp0
   have HP0:=zadv hP0
   clear hP0
   have c12:=bx.word 3 rfl (a:=12) (by omega)
   have sp:=bx.soft' 3 rfl
   go_upto_region 11 with (fail)
   have bx:=bx.wset (j:=3) rfl 12 (bits .xor .u32 (wd P0 12) ((count:Int) % 4294967296))
   generalize hP1:P0.set 12 (bits .xor .u32 (wd P0 12) ((count:Int) % 4294967296))=P1 at bx
   have hp1:P1.length=16:=by rw [← hP1,List.length_set];exact hp0
   have HP1:=zadv hP1
   clear hP1 hp0 c12 sp
   generalize W5.setCell _ _=W6 at bx ⊢
   have c13:=bx.word 3 rfl (a:=13) (by omega)
   have sp:=bx.soft' 3 rfl
   go_upto_region 12 with (fail)
   have bx:=bx.wset (j:=3) rfl 13 (bits .xor .u32 (wd P1 13) ((count:Int) / 4294967296 % 4294967296))
   generalize hP2:P1.set 13 (bits .xor .u32 (wd P1 13) ((count:Int) / 4294967296 % 4294967296))=P2 at bx
   have hp2:P2.length=16:=by rw [← hP2,List.length_set];exact hp1
   have HP2:=zadv hP2
   clear hP2 hp1 c13 sp
   simp only [List.set_cons_succ,List.set_cons_zero] at bx
   generalize W6.setCell _ _=W7 at bx ⊢
   have c14:=bx.word 3 rfl (a:=14) (by omega)
   have sp:=bx.soft' 3 rfl
   cases last with
   | true=>
    have hsg:(if IntKind.u32.signed=true then (-1:Int) else IntKind.u32.max)=4294967295:=rfl
    go_upto_region 14 with (fail)
    clear hsg
    have bx:=bx.wset (j:=3) rfl 14 (bits BinOp.xor IntKind.u32 4294967295 (wd P2 14))
    generalize hP3:P2.set 14 (bits BinOp.xor IntKind.u32 4294967295 (wd P2 14))=P3 at bx
    have hp3:P3.length=16:=by rw [← hP3,List.length_set];exact hp2
    simp only [List.set_cons_succ,List.set_cons_zero] at bx
    have EP:=zadv (show P3=zul h count true by rw [← hP3,← HP2.out,← HP1.out,← HP0.out];rfl)
    clear hP3 hp2 c14 sp HP0 HP1 HP2
    generalize W7.setCell _ _=W8 at bx ⊢
    have ho8:rowOf W8 3=ordC:=by
     rw [zaa ((bx.below.block _ (zadu ho).1).trans ho)]
    go_upto_region 15 with (fail)
    go_loopw [83] (fun i wr=>∃ k:Nat,k ≤ 10∧i=.int .i64 k∧Bxs w [(uts h,311),(uts z8,311),(uts mm,374),(uts (zgz mm P3 k),375)] wr) (fun i _=>10 - (intOf i).toNat)
    case atStart=>exact ⟨0,by decide,rfl,bx⟩
    case round=>
     obtain ⟨k,hk,rfl,BX⟩:=hrel
     clear bx ho8
     by_cases hlt:k < 10
     ·have fx:=ix279 hlt
      have ik:(k:Int) < 10:=by omega
      go_wp2_with fail
      have P1:Ws _ (w.heap.size + 3) (zgz mm P3 k) 16 375:=⟨BX.rows 3 _ _ rfl,by rw [zeg];exact hp3⟩
      have M1:Ws _ (w.heap.size + 2) mm 16 374:=⟨BX.rows 2 _ _ rfl,by rw [← HM.out];exact zl6 _ _⟩
      refine (zl5 P1 M1 (by omega) (zui k)).mono ?_
      rintro _ V ⟨rfl,bv,PV⟩
      have BV:=zadv (BX.but 3 rfl bv PV)
      clear P1 M1 bv PV BX fx
      go_wp2
      refine ⟨⟨k + 1,by omega,rfl,BV.out⟩,?_⟩
      show 10 - ((k:Int) + 1).toNat < 10 - (k:Int).toNat
      omega
     ·obtain rfl:k=10:=by omega
      go_upto_region 20 with (fail)
      have hpl:(zgz mm P3 10).length=16:=by rw [zeg];exact hp3
      generalize hF:zgz mm P3 10=F at BX hpl
      have HF:=zadv hF
      clear hF hp3
      go_loopw [89] (fun i wr=>∃ k:Nat,k ≤ 8∧i=.int .i64 k∧Bxs w [(uts (finN F h k),311),(uts z8,311),(uts mm,374),(uts F,375)] wr) (fun i _=>8 - (intOf i).toNat)
      case atStart=>exact ⟨0,by decide,rfl,BX⟩
      case round=>
       clear BX
       obtain ⟨k,hk,rfl,BX⟩:=hrel
       by_cases hlt:k < 8
       ·obtain ⟨k8,e8⟩:∃ n:Nat,n=k + 8:=⟨_,rfl⟩
        have w8:IntKind.i64.wrap ((k:Int) + 8)=k8:=by rw [IntKind.wrap_i64];omega
        have i1:(k:Int) < 8:=by omega
        have i2:(k:Int) < 16:=by omega
        have i3:(k8:Int) < 16:=by omega
        have c0:=BX.word 0 rfl (a:=k) (by rw [zcz,hh];exact hlt)
        have c1:=BX.word 3 rfl (a:=k) (by omega)
        have c2:=BX.word 3 rfl (a:=k8) (by omega)
        simp only [Nat.add_zero] at c0
        have EN:=zadv (show finN F h (k + 1)=(finN F h k).set k (bits .xor .u32 (wd (finN F h k) k) (bits .xor .u32 (wd F k) (wd F k8))) by rw [finN,e8])
        clear e8
        go_upto_region 22 with (fail)
        (refine wp_region_still_tail 13 (by kernel_rfl) (by kernel_rfl) ?_;simp only [List.take_succ_cons,List.take_zero,List.drop_succ_cons,List.drop_zero];(iterate 13 still_step);refine wpStill_nil ?_)
        have bx:=BX.drew
        refine (show wpList Tryz.prog _ _ _ _ (World.drew _) from ?_)
        generalize World.drew _=V1 at bx ⊢
        clear c0 c1 c2 BX
        have c0:=bx.word 0 rfl (a:=k) (by rw [zcz,hh];exact hlt)
        have s0:=bx.soft' 0 rfl
        simp only [Nat.add_zero] at c0 s0
        have bx2:=zadv (bx.wset (j:=0) rfl k (bits .xor .u32 (wd (finN F h k) k) (bits .xor .u32 (wd F k) (wd F k8))))
        clear bx
        go_wp2_with fail
        refine ⟨⟨_,_,_,_,_,_,_,_,_,_,_,_,_,_,_,_,_,_,⟨k + 1,by omega,rfl,?_⟩,rfl⟩,?_⟩
        ·rw [EN.out]
         exact bx2.out
        ·show 8 - ((k:Int) + 1).toNat < 8 - (k:Int).toNat
         omega
       ·obtain rfl:k=8:=by omega
        have rb:=BX.row' 0 rfl
        have sb:=BX.soft' 1 rfl
        have rr:=BX.row' 1 rfl
        simp only [Nat.add_zero] at rb
        have hl8:(finN F h 8).length=8:=by rw [zcz,hh]
        generalize hR:finN F h 8=R at rb hl8
        have HR:=zadv hR
        clear hR
        have z1:=zkk hl8
        have z2:=zev R
        have z3:(uts R).size=8:=by rw [zdy,hl8]
        have z4:(uts z8).size=8:=rfl
        have BX:=zadv BX
        clear hl8
        go_wp2_with fail
        have hc:rowOf (World.setRow wr (w.heap.size + 1) (uts R)) (w.heap.size + 1)=uts R:=(zab _ _ _ _ sb).trans (if_pos rfl)
        refine bodyPost_ret (za6 (t:=311) rfl Tryz.underlying311 rfl (by kernel_rfl) _ _ (w.heap.size + 1) rfl hc z3) rfl ?_
        refine ⟨?_,Below.setRow_ BX.out.below (by omega) _⟩
        unfold zgg
        rw [← EP.out,HM.out,HF.out,HR.out]
   | false=>
    go_upto_region 14 with (fail)
    have hp3:P2.length=16:=hp2
    generalize hP3:P2=P3 at bx hp3
    have EP:=zadv (show P3=zul h count false by rw [← hP3,← HP2.out,← HP1.out,← HP0.out];rfl)
    clear hP3 hp2 c14 sp HP0 HP1 HP2
    generalize W7=W8 at bx ⊢
    have ho8:rowOf W8 3=ordC:=by
     rw [zaa ((bx.below.block _ (zadu ho).1).trans ho)]
    go_upto_region 15 with (fail)
    go_loopw [83] (fun i wr=>∃ k:Nat,k ≤ 10∧i=.int .i64 k∧Bxs w [(uts h,311),(uts z8,311),(uts mm,374),(uts (zgz mm P3 k),375)] wr) (fun i _=>10 - (intOf i).toNat)
    case atStart=>exact ⟨0,by decide,rfl,bx⟩
    case round=>
     obtain ⟨k,hk,rfl,BX⟩:=hrel
     clear bx ho8
     by_cases hlt:k < 10
     ·have fx:=ix279 hlt
      have ik:(k:Int) < 10:=by omega
      go_wp2_with fail
      have P1:Ws _ (w.heap.size + 3) (zgz mm P3 k) 16 375:=⟨BX.rows 3 _ _ rfl,by rw [zeg];exact hp3⟩
      have M1:Ws _ (w.heap.size + 2) mm 16 374:=⟨BX.rows 2 _ _ rfl,by rw [← HM.out];exact zl6 _ _⟩
      refine (zl5 P1 M1 (by omega) (zui k)).mono ?_
      rintro _ V ⟨rfl,bv,PV⟩
      have BV:=zadv (BX.but 3 rfl bv PV)
      clear P1 M1 bv PV BX fx
      go_wp2
      refine ⟨⟨k + 1,by omega,rfl,BV.out⟩,?_⟩
      show 10 - ((k:Int) + 1).toNat < 10 - (k:Int).toNat
      omega
     ·obtain rfl:k=10:=by omega
      go_upto_region 20 with (fail)
      have hpl:(zgz mm P3 10).length=16:=by rw [zeg];exact hp3
      generalize hF:zgz mm P3 10=F at BX hpl
      have HF:=zadv hF
      clear hF hp3
      go_loopw [89] (fun i wr=>∃ k:Nat,k ≤ 8∧i=.int .i64 k∧Bxs w [(uts (finN F h k),311),(uts z8,311),(uts mm,374),(uts F,375)] wr) (fun i _=>8 - (intOf i).toNat)
      case atStart=>exact ⟨0,by decide,rfl,BX⟩
      case round=>
       clear BX
       obtain ⟨k,hk,rfl,BX⟩:=hrel
       by_cases hlt:k < 8
       ·obtain ⟨k8,e8⟩:∃ n:Nat,n=k + 8:=⟨_,rfl⟩
        have w8:IntKind.i64.wrap ((k:Int) + 8)=k8:=by rw [IntKind.wrap_i64];omega
        have i1:(k:Int) < 8:=by omega
        have i2:(k:Int) < 16:=by omega
        have i3:(k8:Int) < 16:=by omega
        have c0:=BX.word 0 rfl (a:=k) (by rw [zcz,hh];exact hlt)
        have c1:=BX.word 3 rfl (a:=k) (by omega)
        have c2:=BX.word 3 rfl (a:=k8) (by omega)
        simp only [Nat.add_zero] at c0
        have EN:=zadv (show finN F h (k + 1)=(finN F h k).set k (bits .xor .u32 (wd (finN F h k) k) (bits .xor .u32 (wd F k) (wd F k8))) by rw [finN,e8])
        clear e8
        go_upto_region 22 with (fail)
        (refine wp_region_still_tail 13 (by kernel_rfl) (by kernel_rfl) ?_;simp only [List.take_succ_cons,List.take_zero,List.drop_succ_cons,List.drop_zero];(iterate 13 still_step);refine wpStill_nil ?_)
        have bx:=BX.drew
        refine (show wpList Tryz.prog _ _ _ _ (World.drew _) from ?_)
        generalize World.drew _=V1 at bx ⊢
        clear c0 c1 c2 BX
        have c0:=bx.word 0 rfl (a:=k) (by rw [zcz,hh];exact hlt)
        have s0:=bx.soft' 0 rfl
        simp only [Nat.add_zero] at c0 s0
        have bx2:=zadv (bx.wset (j:=0) rfl k (bits .xor .u32 (wd (finN F h k) k) (bits .xor .u32 (wd F k) (wd F k8))))
        clear bx
        go_wp2_with fail
        refine ⟨⟨_,_,_,_,_,_,_,_,_,_,_,_,_,_,_,_,_,_,⟨k + 1,by omega,rfl,?_⟩,rfl⟩,?_⟩
        ·rw [EN.out]
         exact bx2.out
        ·show 8 - ((k:Int) + 1).toNat < 8 - (k:Int).toNat
         omega
       ·obtain rfl:k=8:=by omega
        have rb:=BX.row' 0 rfl
        have sb:=BX.soft' 1 rfl
        have rr:=BX.row' 1 rfl
        simp only [Nat.add_zero] at rb
        have hl8:(finN F h 8).length=8:=by rw [zcz,hh]
        generalize hR:finN F h 8=R at rb hl8
        have HR:=zadv hR
        clear hR
        have z1:=zkk hl8
        have z2:=zev R
        have z3:(uts R).size=8:=by rw [zdy,hl8]
        have z4:(uts z8).size=8:=rfl
        have BX:=zadv BX
        clear hl8
        go_wp2_with fail
        have hc:rowOf (World.setRow wr (w.heap.size + 1) (uts R)) (w.heap.size + 1)=uts R:=(zab _ _ _ _ sb).trans (if_pos rfl)
        refine bodyPost_ret (za6 (t:=311) rfl Tryz.underlying311 rfl (by kernel_rfl) _ _ (w.heap.size + 1) rfl hc z3) rfl ?_
        refine ⟨?_,Below.setRow_ BX.out.below (by omega) _⟩
        unfold zgg
        rw [← EP.out,HM.out,HF.out,HR.out]
end Go.Proofs.YthjgiamfaijoeaaGreatDoor
