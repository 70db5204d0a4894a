/- What is proved: parts of the walk and of the plain law. No condition but those each law names. -/
import Derived.Test.YthjgiamfaijoeaaGreatDoorD30
import Derived.Test.YthjgiamfaijoeaaGreatDoorD29
import Derived.Test.YthjgiamfaijoeaaGreatDoorD00
set_option linter.unusedSimpArgs false
set_option linter.unusedVariables false
set_option maxRecDepth 100000
namespace Go.Proofs.YthjgiamfaijoeaaGreatDoor
open Go.RowKit
section
attribute [local go_sem ↓] zad
attribute [local go_sem] zaf zai zaj zal zab zah zac zak zae Ext.row Ext.soft_ zdb
theorem zvf {w:World} {X:Nt} (h:NetAt w X) {k g:Nat} (hk:k < X.L.length) (hra:X.ra=some ⟨g,0,none⟩) {C:Array Value} (ho:(w.drew.setRow g C).ownsRow X.B 120 3 (.slice (some ⟨g,0,none⟩) (X.L.length - 1) X.rc) (X.L.length - 1) (ltC (X.L.eraseIdx k))):
  ∃ X',NetTo w X ((w.drew.setRow g C).setCell ⟨X.nb,1,none⟩ (.slice (some ⟨g,0,none⟩) (X.L.length - 1) X.rc)) X'∧X'.says=X.says.eraseIdx k:=by
 have gr:X.rb g:=⟨0,hra⟩
 have nN:X.nb ≠ g:=fun e=>h.nr.1 (e ▸ gr)
 have nM:X.mc ≠ g:=fun e=>h.nr.2 (e ▸ gr)
 have mn:=h.mn
 have kp:∀ i,i ≠ g→i ≠ X.nb→((w.drew.setRow g C).setCell ⟨X.nb,1,none⟩ (.slice (some ⟨g,0,none⟩) (X.L.length - 1) X.rc)).heap[i]?=w.heap[i]?:=fun i h1 h2=>by
  rw [zag,if_neg (fun e=>h2 e.symm),setRow_other _ _ _ _ h1]
  rfl
 have zs:((w.drew.setRow g C).setCell ⟨X.nb,1,none⟩ (.slice (some ⟨g,0,none⟩) (X.L.length - 1) X.rc)).heap.size=w.heap.size:=by
  have e1:((w.drew.setRow g C).setCell ⟨X.nb,1,none⟩ (.slice (some ⟨g,0,none⟩) (X.L.length - 1) X.rc)).heap.size=(w.drew.setRow g C).heap.size:=by simp [World.setCell]
  have e2:(w.drew.setRow g C).heap.size=w.drew.heap.size:=by simp [World.setRow]
  rw [e1,e2]
  rfl
 have hle:(X.L.eraseIdx k).length=X.L.length - 1:=List.length_eraseIdx_of_lt hk
 have sub:∀ x ∈ X.L.eraseIdx k,x ∈ X.L:=fun x hx=>List.mem_of_mem_eraseIdx hx
 refine ⟨{ X with L:=X.L.eraseIdx k },⟨⟨?_,h.cuts.keep (kp _ nM mn),?_,fun x hx=>?_,fun x hx i o e=>⟨by rw [zs];exact (h.lt x (sub x hx) i o e).1,(h.lt x (sub x hx) i o e).2⟩,h.nr,by rw [zs];exact h.bB⟩,⟨rfl,rfl,rfl,by rw [zs];exact zadw _,fun i hi hn=>⟨kp i (fun e=>hn (.inr (.inr (.inl (e ▸ gr))))) (fun e=>hn (.inl e)),fun q=>hn ?_⟩⟩,rfl,rfl,rfl⟩,?_⟩
 ·rw [zag,if_pos rfl,setRow_other _ _ _ _ nN,show w.drew.heap[X.nb]?=some (.cells X.cells 108) from h.row]
  show some (Obj.cells (X.cells.setIfInBounds 1 _) 108)=some (Obj.cells (ntC _ X.ra (X.L.eraseIdx k).length _ _ _ _ _ _) 108)
  rw [hle,hra]
  rfl
 ·show World.ownsRow _ X.B 120 3 (.slice X.ra (X.L.eraseIdx k).length X.rc) (X.L.eraseIdx k).length (ltC (X.L.eraseIdx k))
  rw [hle,hra]
  refine zcd ho fun i hi=>?_
  obtain rfl:g=i:=by simpa [Value.ownBlock] using hi
  rw [zag,if_neg nN]
 ·have hs:=h.bod x (sub x hx)
  rcases hs.cells with e | ⟨i,o,e,hcc⟩
  ·exact ⟨hs.len,hs.le,hs.nil,.inl e⟩
  ·obtain ⟨q1,q2,q3⟩:=h.lt x (sub x hx) i o e
   exact ⟨hs.len,hs.le,hs.nil,.inr ⟨i,o,e,fun j y hj=>(Sx.cell_block (kp i (fun e=>q3 (e ▸ gr)) q2) _).1.trans (hcc j y hj)⟩⟩
 ·rcases q with q | q | q | ⟨x,hx,o,q⟩
  ·exact .inl q
  ·exact .inr (.inl q)
  ·exact .inr (.inr (.inl q))
  ·exact .inr (.inr (.inr ⟨x,sub x hx,o,q⟩))
 ·show (X.L.eraseIdx k).map Lt.told=(X.L.map Lt.told).eraseIdx k
  rw [List.eraseIdx_eq_take_drop_succ,List.eraseIdx_eq_take_drop_succ,List.map_append,List.map_take,List.map_drop]
end
section
attribute [local go_sem ↓] zad
attribute [local go_sem] zaf zai zaj zal zab zah zac zak zae Ext.row Ext.soft_ zdb
theorem zyh (a b:Value):sub #[a,b] 0 2=#[a,b]:=by simp [sub]
attribute [local go_sem] zyh
theorem Sl.at_ {w w':World} {a:Option Addr} {n c:Nat} {l:List Value} (hs:Sl w a n c l) (hk:∀ i o,a=some ⟨i,o,none⟩→w'.heap[i]?=w.heap[i]?):Sl w' a n c l:=by
 rcases hs.cells with e | ⟨b,o,e,hc⟩
 ·exact ⟨hs.len,hs.le,hs.nil,.inl e⟩
 ·exact ⟨hs.len,hs.le,hs.nil,.inr ⟨b,o,e,fun j y hj=>(Sx.cell_block (hk b o e) _).1.trans (hc j y hj)⟩⟩
theorem NetTo.setRow_ {w w7:World} {X X2:Nt} (h:NetTo w X w7 X2) {b:Nat} (hb:w.heap.size ≤ b) (hn:¬ X2.all b) (C:Array Value):NetTo w X (w7.setRow b C) X2:=by
 have zs:(w7.setRow b C).heap.size=w7.heap.size:=by simp [World.setRow]
 refine ⟨h.at'.keepB (Nat.le_of_eq zs.symm) fun i hi=>setRow_other _ _ _ _ fun e=>hn (e ▸ hi),⟨h.comp.os,h.comp.tape,h.comp.output,by rw [zs];exact h.comp.size,fun i hi hni=>⟨(setRow_other _ _ _ _ (by omega)).trans (h.comp.keep i hi hni).1,(h.comp.keep i hi hni).2⟩⟩,h.nb,h.nodes,h.cut⟩
set_option maxHeartbeats 4000000 in
theorem zjp {w:World} {X:Nt} (h:NetAt w X) {k:Nat} {x:Lt} (hk:X.L[k]?=some x) (hn:x.l.length < 1000000) (hlen:X.L.length ≤ 1000000) (a1:(x.f ≥ 1)=True) (a2:(x.f ≤ X.nodes)=True) (b1:(x.t ≥ 1)=True) (b2:(x.t ≤ X.nodes)=True) (hab:(x.f != x.t)=true) (hct:X.cut (min x.f x.t) (max x.f x.t)=false):
  Calls Tryz.prog 65 #[.pointer (some ⟨X.nb,0,none⟩),.int .i64 k] w fun e w'=>∃ a c X',e=.returned (.tuple #[.agg #[.int .i64 x.f,.int .i64 x.t,.slice a x.l.length c],.bool true])∧NetTo w X w' X'∧X'.says=X.says.eraseIdx k∧Sl w' a x.l.length c (bts x.l)∧∀ i o,a=some ⟨i,o,none⟩→w.heap.size ≤ i:=by
 have H:=zadv h
 have HK:=zadv hk
 have HN:=zadv hn
 have HL:=zadv hlen
 have i1:(k:Int) < 1000000:=by have:=(List.getElem?_eq_some_iff.1 hk).1;omega
 have HB:=zadv (zadx a1 (zadx a2 (zadx b1 (zadx b2 (zadx hab hct)))))
 clear h hk hn hlen a1 a2 b1 b2 hab
 go_enter Tryz.func65,Tryz.ntmps65
 go_upto_region 1 with (fail)
 have bx:=Bx.new w (#[.int .i64 0,.int .i64 0,.slice none 0 0]) 120;generalize w.alloc (.cells (#[.int .i64 0,.int .i64 0,.slice none 0 0]) 120)=W at bx ⊢;have rx:=bx.rowOf;have sx:=bx.soft;have BX:=zadv bx;clear bx
 have LK:=zadv (zkq (H.out.below BX.out.below) HK.out HN.out)
 have LW:=zadv (zadu BX.out.row).1
 go_wp2_with fail
 refine LK.out.mono ?_
 rintro _ V ⟨ao,c,rfl,hb,sl,fl⟩
 have bx:=BX.out.step hb
 have SL:=zadv sl
 have FL:=zadv fl
 have ZB:=zadv hb.size
 clear BX rx sx LK hb sl fl
 have BX:=zadv bx
 clear bx
 go_upto_region 2 with (fail)
 have L:=Bx.new V #[.int .i64 x.f,.int .i64 x.t,.slice ao x.l.length c] 120
 generalize V.alloc (.cells #[.int .i64 x.f,.int .i64 x.t,.slice ao x.l.length c] 120)=V2 at L ⊢
 have bx:=BX.out.step L.below
 have BT:=zadv (zey (H.out.below bx.below) HB.out.1 HB.out.2.1 HB.out.2.2.1 HB.out.2.2.2.1 HB.out.2.2.2.2.1)
 have rl:=L.rowOf
 have BL:=zadv (zadx bx L)
 clear BX L bx
 go_wp2_with fail
 refine BT.out.mono ?_
 rintro _ V3 ⟨p,q,rfl,hpq,hb⟩
 have PQ:=zadv hpq
 clear hpq
 have BM:=zadv (zadx (BL.out.1.step hb) (BL.out.2.step hb))
 clear BL BT rl hb
 go_upto_region 3 with (fail)
 have M:=Bx.new V3 #[.int .i64 p,.int .i64 q] 102
 generalize V3.alloc (.cells #[.int .i64 p,.int .i64 q] 102)=V4 at M ⊢
 have bx:=BM.out.1.step M.below
 have bl:=BM.out.2.step M.below
 have h4:=H.out.below bx.below
 have rn:=zaa h4.row
 have sn:=zan h4.row
 rw [zbj] at rn
 have rm:=M.rowOf
 have lk:=zp5 (w:=V4.drew) (h4.cuts.keep rfl) p q
 rw [show X.cut p q=false by rw [PQ.out.1,PQ.out.2];exact HB.out.2.2.2.2.2] at lk
 have O1:=zadv (zkp (w:=V4.drew) (k:=5) (x:=X.n3) rn sn rfl)
 have H4:=zadv h4
 have BB:=zadv (zadx bx bl)
 have NM:¬ X.nb=V3.heap.size:=Nat.ne_of_lt (Nat.lt_of_lt_of_le (H.out.all_lt (.inl rfl)) BM.out.1.below.size)
 clear h4 bx bl BM M
 go_region_held3 (fun w'=>(rowOf w' X.nb)[2]?=some (.map (some X.mc))∧rowOf w' V3.heap.size=#[.int .i64 p,.int .i64 q]) (first
  | exact ⟨by show (rowOf V4 X.nb)[2]?=_;rw [rn];rfl,rm⟩
  | exact ⟨by show (rowOf (V4.setCell ⟨X.nb,5,none⟩ _) X.nb)[2]?=_;rw [zac,if_pos rfl,rn];rfl,by show rowOf (V4.setCell ⟨X.nb,5,none⟩ _) V3.heap.size=_;rw [zac,if_neg (fun e=>NM e.symm)];exact rm⟩) (first
  | (go_at_call 69;refine O1.out.mono ?_;rintro _ V5 ⟨rfl,rfl⟩))
 have N5:=NetAt.cnt (w:=V4.drew) (H4.out.below (Below.refl V4.heap.size V4).drew) (k:=5) (v:=.int .i64 (wrap64 (X.n3 + 1))) (a:=X.n1) (b:=X.n2) (c:=wrap64 (X.n3 + 1)) (d:=X.n4) rfl
 have nA:∀ i,w.heap.size ≤ i→¬ X.all i:=fun i hi q=>by have:=H.out.all_lt q;omega
 have z0:w.heap.size < V4.heap.size:=(zadu BB.out.1.row).1
 have z1:V.heap.size < V4.heap.size:=(zadu BB.out.2.row).1
 have w0:=LW.out
 have w1:=ZB.out
 have q0:=(N5.other z0 (nA _ (zadw _))).trans BB.out.1.row
 have q1:=(N5.other z1 (nA _ (by omega))).trans BB.out.2.row
 have S5:=Sl.at_ (SL.out.keep (w':=V4.drew) (zadw _) BB.out.2.below.drew) fun i o e=>N5.other (by have:=(FL.out i o e).2;exact Nat.lt_trans this z1) (nA _ (by have:=(FL.out i o e).1;omega))
 have T5:=(NetTo.below H.out BB.out.1.below.drew).trans N5
 obtain ⟨g,cur,hra,_⟩:=H.out.at HK.out
 have kl:=(List.getElem?_eq_some_iff.1 HK.out).1
 generalize hX:({ X with n1:=X.n1,n2:=X.n2,n3:=wrap64 (X.n3 + 1),n4:=X.n4 }:Nt)=X1 at N5 T5
 have eX:X1.nb=X.nb∧X1.L=X.L∧X1.ra=X.ra∧X1.rc=X.rc∧X1.all=X.all∧X1.mc=X.mc∧X1.B=X.B:=by subst hX;exact ⟨rfl,rfl,rfl,rfl,rfl,rfl,rfl⟩
 have rn5:=zaa N5.at'.row
 have sn5:=zan N5.at'.row
 rw [zbj,eX.2.2.2.2.2.1] at rn5
 rw [eX.1] at rn5 sn5
 have T5:=zadv T5
 have EX:=zadv eX
 have NN5:=zadv N5.at'
 have F5:=zadv (zadx q0 (zadx q1 S5))
 have NB5:¬ X.nb=w.heap.size∧¬ X.nb=V.heap.size:=⟨fun e=>nA _ (zadw _) (.inl e.symm),fun e=>nA V.heap.size (by omega) (.inl e.symm)⟩
 have nG:¬ g=w.heap.size∧¬ g=V.heap.size:=⟨fun e=>nA _ (zadw _) (.inr (.inr (.inl ⟨0,e ▸ hra⟩))),fun e=>nA V.heap.size (by omega) (.inr (.inr (.inl ⟨0,e ▸ hra⟩)))⟩
 have FR:∀ i,w.heap.size ≤ i→¬ i=g∧¬ i=X.nb:=fun i hi=>⟨fun e=>nA i hi (.inr (.inr (.inl ⟨0,e ▸ hra⟩))),fun e=>nA i hi (.inl e)⟩
 have FRr:=zadv FR
 have KL:=zadv kl
 change Exit.then _ _ _ _ (V4.drew.setCell ⟨X.nb,5,none⟩ (.int .i64 (wrap64 (X.n3 + 1))))
 generalize V4.drew.setCell ⟨X.nb,5,none⟩ (.int .i64 (wrap64 (X.n3 + 1)))=V5 at *
 rw [eX.2.2.1,eX.2.1,hra] at rn5
 have D:=zadv (zvb (w:=V5) (B:=X1.B) (g:=g) (rc:=X1.rc) (L:=X1.L) (i:=k) (by have:=NN5.out.own;rw [eX.2.2.1,hra] at this;exact this) (by rw [eX.2.1];exact kl) (by rw [eX.2.1];exact HL.out))
 clear N5 S5 q0 q1 w0 w1 z0 z1 rn sn rm lk O1 H4 NM nA hX eX FR kl BB
 go_wp2_with fail
 have D1:=D.out
 rw [EX.out.2.1,show (((k + 1:Nat):Int))=(k:Int) + 1 by omega] at D1
 clear D
 refine D1.mono ?_
 rintro _ W6 ⟨rfl,O6,C,rfl⟩
 obtain ⟨X2,N6,S6⟩:=zvf (w:=V5) (X:=X1) (k:=k) (g:=g) (C:=C) NN5.out (by rw [EX.out.2.1];exact KL.out) (by rw [EX.out.2.2.1];exact hra) (by rw [EX.out.2.1];exact O6)
 rw [EX.out.1,EX.out.2.1] at N6
 have zs:((V5.drew.setRow g C).setCell ⟨X.nb,1,none⟩ (.slice (some ⟨g,0,none⟩) (X.L.length - 1) X1.rc)).heap.size=V5.heap.size:=by
  have e1:((V5.drew.setRow g C).setCell ⟨X.nb,1,none⟩ (.slice (some ⟨g,0,none⟩) (X.L.length - 1) X1.rc)).heap.size=(V5.drew.setRow g C).heap.size:=by simp [World.setCell]
  have e2:(V5.drew.setRow g C).heap.size=V5.drew.heap.size:=by simp [World.setRow]
  rw [e1,e2]
  rfl
 have kp:∀ i,w.heap.size ≤ i→((V5.drew.setRow g C).setCell ⟨X.nb,1,none⟩ (.slice (some ⟨g,0,none⟩) (X.L.length - 1) X1.rc)).heap[i]?=V5.heap[i]?:=fun i hi=>by
  rw [zag,if_neg (fun e=>(FRr.out i hi).2 e.symm),setRow_other _ _ _ _ (FRr.out i hi).1]
  rfl
 have nbg:¬ X.nb=g:=fun e=>H.out.nr.1 ⟨0,e ▸ hra⟩
 have sn6:soft (V5.drew.setRow g C) X.nb=true:=by
  have:=zan (w:=V5.drew.setRow g C) (b:=X.nb) ((setRow_other _ _ _ _ nbg).trans (show V5.drew.heap[X.nb]?=_ from EX.out.1 ▸ NN5.out.row))
  exact this
 have rn6:rowOf (V5.drew.setRow g C) X.nb=rowOf V5 X.nb:=by
  unfold rowOf
  rw [setRow_other _ _ _ _ nbg]
  rfl
 rw [rn5] at rn6
 have TT:=zadv (T5.out.trans N6)
 have q0:=(kp _ (zadw _)).trans F5.out.1
 have q1:=(kp V.heap.size (by have:=LW.out;have:=ZB.out;omega)).trans F5.out.2.1
 have S7:=zadv (Sl.at_ F5.out.2.2 fun i o e=>kp i (by have:=(FL.out i o e).1;have:=LW.out;omega))
 have SS:=zadv (S6.trans (congrArg (fun l:List Lt=>(l.map Lt.told).eraseIdx k) EX.out.2.1))
 have FF:=zadv (show ∀ i o,ao=some ⟨i,o,none⟩→w.heap.size ≤ i from fun i o e=>by have:=(FL.out i o e).1;have:=LW.out;omega)
 have r0:=zaa q0
 have s0:=zan q0
 have r1:=zaa q1
 have EN:=zadv TT.out.at'.row
 have nX2:=zadv (N6.comp.keep w.heap.size (by rw [← zs];exact (zadu q0).1) (by rw [EX.out.2.2.2.2.1];exact fun q=>by have:=H.out.all_lt q;omega)).2
 clear rn5 sn5 O6 N6 kp zs D1 S6 q0 q1 FRr
 go_upto_region 6 with (fail)
 generalize (V5.drew.setRow g C).setCell ⟨X.nb,1,none⟩ (.slice (some ⟨g,0,none⟩) (X.L.length - 1) X1.rc)=W7 at *
 have hc:rowOf (W7.setRow w.heap.size #[.int .i64 x.f,.int .i64 x.t,.slice ao x.l.length c]) w.heap.size=#[.int .i64 x.f,.int .i64 x.t,.slice ao x.l.length c]:=(zab _ _ _ _ s0).trans (if_pos rfl)
 have T8:=TT.out.setRow_ (zadw _) nX2.out #[.int .i64 x.f,.int .i64 x.t,.slice ao x.l.length c]
 have S8:=Sl.at_ (w':=W7.setRow w.heap.size #[.int .i64 x.f,.int .i64 x.t,.slice ao x.l.length c]) S7.out fun i o e=>setRow_other _ _ _ _ (by have:=(FL.out i o e).1;have:=LW.out;omega)
 have T8:=zadv T8
 have S8:=zadv S8
 clear TT S7
 go_wp2
 rw [zr0 r0 rfl]
 refine bodyPost_ret (zaq (t:=120) rfl Tryz.underlying120 rfl (by kernel_rfl) _ _ w.heap.size rfl hc rfl) rfl ?_
 exact ⟨ao,c,X2,rfl,T8.out,SS.out,S8.out,FF.out⟩
end
section
attribute [local go_sem ↓] zad
attribute [local go_sem] zaf zai zaj zal zab zah zac zak zae Ext.row Ext.soft_ zdb
theorem zit (a b:Value):sub #[a,b] 0 2=#[a,b]:=by simp [sub]
attribute [local go_sem] zit
theorem zacx {w:World} {p nb:Nat}:Calls Tryz.prog 98 #[.int .i64 0,.pointer (some ⟨p,0,none⟩)] w fun e w'=>e=.returned (.bool false)∧w'=w:=by
 go_enter Tryz.func98,Tryz.ntmps98
 go_wp2
 go_ret
 exact ⟨rfl,rfl⟩
theorem zr1 {w:World} {nb:Nat}:Calls Tryz.prog 59 #[.pointer (some ⟨nb,0,none⟩),.int .i64 0,.int .i64 0] w fun e w'=>e=.returned (.tuple #[.agg #[.int .i64 0,.int .i64 0],.bool false])∧Below w.heap.size w w':=by
 go_enter Tryz.func59,Tryz.ntmps59
 go_upto_region 1 with (fail)
 have bx:=Bxs.new2 w (#[.pointer (some ⟨nb,0,none⟩)]) 50 (#[.int .i64 0,.int .i64 0]) 102;generalize ((w.alloc (.cells (#[.pointer (some ⟨nb,0,none⟩)]) 50)).alloc (.cells (#[.int .i64 0,.int .i64 0]) 102))=W at bx ⊢;have rx0:=bx.row' 0 rfl;have sx0:=bx.soft' 0 rfl;(try simp only [Nat.add_zero] at rx0 sx0);have rx1:=bx.row' 1 rfl;have sx1:=bx.soft' 1 rfl;(try simp only [Nat.add_zero] at rx1 sx1);have BX:=zadv bx;clear bx
 go_wp2_with fail
 refine (zacx (nb:=nb)).mono ?_
 rintro _ W2 ⟨rfl,rfl⟩
 have B:=(BX.out.below.setCell (p:=⟨w.heap.size + 1,0,none⟩) (Nat.le_add_right w.heap.size 1) (.int .i64 0)).setCell (p:=⟨w.heap.size + 1,1,none⟩) (Nat.le_add_right w.heap.size 1) (.int .i64 0)
 have hc:rowOf ((W2.setCell ⟨w.heap.size + 1,0,none⟩ (.int .i64 0)).setCell ⟨w.heap.size + 1,1,none⟩ (.int .i64 0)) (w.heap.size + 1)=#[.int .i64 0,.int .i64 0]:=by
  rw [zac,if_pos rfl,zac,if_pos rfl,rx1]
  rfl
 go_wp2
 refine bodyPost_ret (zaq (t:=102) rfl Tryz.underlying102 rfl (by kernel_rfl) _ _ (w.heap.size + 1) rfl hc rfl) rfl ?_
 exact ⟨rfl,B⟩
end
section
open Sx (Ab DW Turns Did Foot MapIs)
def IMap (w:World) (r:Nat) (l:List (Int × Value)):Prop:=∃ es c,w.heap[r]?=some (.map es c)∧MapIs (prs es) (encA id l)∧MapKept.Stamped es c
theorem IMap.same {w w':World} {r:Nat} {l:List (Int × Value)} (h:IMap w r l) (e:w'.heap[r]?=w.heap[r]?):IMap w' r l:=by
 obtain ⟨es,c,h1,h2⟩:=h
 exact ⟨es,c,e.trans h1,h2⟩
theorem IMap.lt {w:World} {r:Nat} {l:List (Int × Value)} (h:IMap w r l):r < w.heap.size:=by
 obtain ⟨es,c,h1,_⟩:=h
 exact (zadu h1).1
theorem IMap.new (w:World):IMap (w.alloc (.map #[] 0)) w.heap.size []:=⟨#[],0,heap_alloc_new w _,⟨List.Perm.refl _,List.nodup_nil⟩,MapKept.stamped_empty 0⟩
theorem IMap.look {t et:TypeId} {z:Value} (hu:Tryz.prog.underlying t=some (.map 3 et)) {i:TypeInfo} (hi:Tryz.prog.info? et=some i) (hz:i.zero=some z) {w:World} {r:Nat} {l:List (Int × Value)} (h:IMap w r l) (k:Int):
  (Instr.lookup t (.map (some r)) (.int .i64 k) false).run Tryz.prog w=.ok ((getA l k).getD z) w:=by
 obtain ⟨es,c,h1,h2,_⟩:=h
 have hk:Sx.KeyT Tryz.prog 3 IntK:=Sx.keyInt Tryz.underlying3
 have hes:=zbm h2 (zcc id l)
 cases hg:getA l k with
 | none=>exact zlx hu hk hi hz h1 h2 ⟨k,rfl⟩ hes (by rw [zcb,hg];rfl)
 | some v=>exact zlw hu hk h1 h2 ⟨k,rfl⟩ hes (by rw [zcb,hg];rfl)
theorem IMap.upd {t et:TypeId} (hu:Tryz.prog.underlying t=some (.map 3 et)) {w:World} {r:Nat} {l:List (Int × Value)} (h:IMap w r l) (k:Int) (v:Value):
  ∃ es c,(Instr.mapUpdate t (.map (some r)) (.int .i64 k) v).run Tryz.prog w=.ok () (putMap w r es c)∧IMap (putMap w r es c) r (putA l k v):=by
 have hl:=h.lt
 obtain ⟨es,c,h1,h2,h3⟩:=h
 have hk:Sx.KeyT Tryz.prog 3 IntK:=Sx.keyInt Tryz.underlying3
 have hes:=zbm h2 (zcc id l)
 obtain ⟨es',c',q1,q2,q3⟩:=zb4 hu hk h1 h2 h3 (k:=.int .i64 k) (v:=v) ⟨k,rfl⟩ hes
 refine ⟨es',c',q1,es',c',zid hl _ _,?_,q3⟩
 have e:=zj0 id l k v
 rw [id_eq] at e
 rw [e] at q2
 exact q2
structure Same (Q:Nat→Prop) (w w':World):Prop where
 os:w'.os=w.os
 tape:w'.tape=w.tape
 output:w'.output=w.output
 size:w.heap.size ≤ w'.heap.size
 heap:∀ i,Q i→w'.heap[i]?=w.heap[i]?
structure Prt where
 P:Nat→Prop
 H:World→Prop
 lt:∀ {w},H w→∀ {i},P i→i < w.heap.size
 kp:∀ {w w'},H w→Same P w w'→H w'
def Prt.none:Prt:=⟨fun _=>False,fun _=>True,fun _ _ h=>h.elim,fun _ _=>trivial⟩
def ndC (xv:Value) (t:Tm) (s:Sv) (dv tv:Value):Array Value:=#[xv,.int .i64 t.base,.int .i64 t.ppm,.int .i64 t.reserve,.int .i64 t.least,.int .i64 t.most,.int .i64 t.depth,.int .i64 t.delay,.int .i64 t.lag,.int .i64 t.fast,.slice s.a s.n s.c,dv,tv]
structure Nd where
 b:Nat
 sb:Nat
 sc:Nat
 seed:List Nat
 t:Tm
 xv:Value
 dv:Value
 tv:Value
def Nd.sv (n:Nd):Sv:=⟨some ⟨n.sb,0,none⟩,n.seed.length,n.sc⟩
def Nd.cells (n:Nd):Array Value:=ndC n.xv n.t n.sv n.dv n.tv
structure Nd.At (n:Nd) (w:World):Prop where
 row:w.heap[n.b]?=some (.cells n.cells 82)
 sd:Sl w (some ⟨n.sb,0,none⟩) n.seed.length n.sc (bts n.seed)
 lt:n.sb < w.heap.size
 ne:n.sb ≠ n.b
inductive DS
 | none
 | live (D:Dm)
 | dead (D:Dm)
 | disk (F:Foot) (dv:Value) (A:Ab)
def DS.part:DS→Prt
 | .none=>Prt.none
 | .live D=>⟨D.all,fun w=>Dae w D,fun h _ hi=>h.all_lt hi,fun h s=>h.keepB s.heap s.size⟩
 | .dead D=>⟨D.all,fun w=>Dae0 true w D,fun h _ hi=>h.all_lt hi,fun h s=>h.keepB s.heap s.size⟩
 | .disk F dv A=>⟨fun i=>∃ x,F i x,fun w=>DW w F dv A,fun h _ ⟨_,hx⟩=>h.lt hx,fun h s=>h.keepB fun i hx=>s.heap i hx⟩
structure MS where
 u:World
 X:Nt
 wb:Nat
 mb:Nat
 nb:Nat
 now:Cl
 nodes:List (Int × Value)
 nd:Nat→Option Nd
 tm:Nat→Option (Nat × List (Int × Value))
 ds:Nat→DS
 cut:Int→Int→Bool
inductive Ix
 | base
 | net
 | wr
 | mp
 | nr (k:Nat)
 | tm (k:Nat)
 | da (k:Nat)
def wrC (nb mb:Nat) (n:Cl):Array Value:=#[.pointer (some ⟨nb,0,none⟩),.map (some mb),.int .i64 n.a,.int .i64 n.b,.int .i64 n.c]
def MS.part (S:MS):Ix→Prt
 | .base=>⟨fun i=>i < S.u.heap.size,fun w=>Below S.u.heap.size S.u w,fun h _ hi=>Nat.lt_of_lt_of_le hi h.size,fun h s=>⟨s.os.trans h.os,s.tape.trans h.tape,s.output.trans h.output,Nat.le_trans h.size s.size,fun i hi=>(s.heap i hi).trans (h.block i hi)⟩⟩
 | .net=>⟨S.X.all,fun w=>NetAt w S.X∧S.X.cut=S.cut,fun h _ hi=>h.1.all_lt hi,fun h s=>⟨h.1.keepB s.size s.heap,h.2⟩⟩
 | .wr=>⟨fun i=>i=S.wb,fun w=>w.heap[S.wb]?=some (.cells (wrC S.nb S.mb S.now) 54),fun h _ hi=>hi ▸ (zadu h).1,fun h s=>(s.heap _ rfl).trans h⟩
 | .mp=>⟨fun i=>i=S.mb,fun w=>IMap w S.mb S.nodes,fun h _ hi=>hi ▸ h.lt,fun h s=>h.same (s.heap _ rfl)⟩
 | .nr k=>match S.nd k with
  | none=>Prt.none
  | some n=>⟨fun i=>i=n.b ∨ i=n.sb,n.At,fun h i hi=>by
    rcases hi with rfl | rfl
    ·exact (zadu h.row).1
    ·exact h.lt,fun h s=>⟨(s.heap _ (.inl rfl)).trans h.row,h.sd.block (s.heap _ (.inr rfl)),Nat.lt_of_lt_of_le h.lt s.size,h.ne⟩⟩
 | .tm k=>match S.tm k with
  | none=>Prt.none
  | some p=>⟨fun i=>i=p.1,fun w=>IMap w p.1 p.2,fun h _ hi=>hi ▸ h.lt,fun h s=>h.same (s.heap _ rfl)⟩
 | .da k=>(S.ds k).part
def MS.all (S:MS) (i:Nat):Prop:=∃ j,(S.part j).P i
structure MW (w:World) (S:MS):Prop where
 at_:∀ j,(S.part j).H w
 dis:∀ j k,j ≠ k→∀ i,(S.part j).P i→¬ (S.part k).P i
structure Goes (w:World) (S:MS) (w':World) (S':MS):Prop where
 mw:MW w' S'
 comp:Comp w w' S.all S'.all
theorem Goes.trans {w w1 w2:World} {S S1 S2:MS} (h:Goes w S w1 S1) (k:Goes w1 S1 w2 S2):Goes w S w2 S2:=⟨k.mw,h.comp.trans k.comp⟩
theorem MW.all_lt {w:World} {S:MS} (h:MW w S) {i:Nat} (hi:S.all i):i < w.heap.size:=by
 obtain ⟨j,hj⟩:=hi
 exact (S.part j).lt (h.at_ j) hj
theorem MW.below {w w':World} {S:MS} (h:MW w S) (hb:Below w.heap.size w w'):Goes w S w' S:=
 ⟨⟨fun j=>(S.part j).kp (h.at_ j) ⟨hb.os,hb.tape,hb.output,hb.size,fun i hi=>hb.block i ((S.part j).lt (h.at_ j) hi)⟩,h.dis⟩,Comp.below hb⟩
theorem MW.apart {w w':World} {S:MS} (h:MW w S) {Q:Nat→Prop} (hs:Same (fun i=>¬ Q i) w w') (hn:∀ i,Q i→¬ S.all i):MW w' S:=
 ⟨fun j=>(S.part j).kp (h.at_ j) ⟨hs.os,hs.tape,hs.output,hs.size,fun i hi=>hs.heap i fun q=>hn i q ⟨j,hi⟩⟩,h.dis⟩
theorem MW.step {w w':World} {S S':MS} (h:MW w S) (i:Ix) (hc:Comp w w' (S.part i).P (S'.part i).P) (hH:(S'.part i).H w') (ho:∀ j,j ≠ i→S'.part j=S.part j):Goes w S w' S':=by
 have key:∀ k,k ≠ i→∀ x,(S'.part i).P x→¬ (S.part k).P x:=fun k hk x hx hkx=>
  (hc.keep x ((S.part k).lt (h.at_ k) hkx) (h.dis k i hk x hkx)).2 hx
 refine ⟨⟨fun j=>?_,fun j k hjk x hx=>?_⟩,⟨hc.os,hc.tape,hc.output,hc.size,fun x hx hn=>⟨(hc.keep x hx fun q=>hn ⟨i,q⟩).1,fun q=>?_⟩⟩⟩
 ·by_cases e:j=i
  ·subst e;exact hH
  ·rw [ho j e]
   exact (S.part j).kp (h.at_ j) ⟨hc.os,hc.tape,hc.output,hc.size,fun x hx=>(hc.keep x ((S.part j).lt (h.at_ j) hx) (h.dis j i e x hx)).1⟩
 ·by_cases e:j=i
  ·subst e
   rw [ho k (Ne.symm hjk)]
   exact key k (Ne.symm hjk) x hx
  ·rw [ho j e] at hx
   by_cases e2:k=i
   ·subst e2
    exact fun q=>key j e x q hx
   ·rw [ho k e2]
    exact h.dis j k hjk x hx
 ·obtain ⟨j,hj⟩:=q
  by_cases e:j=i
  ·subst e
   exact (hc.keep x hx fun q=>hn ⟨j,q⟩).2 hj
  ·rw [ho j e] at hj
   exact hn ⟨j,hj⟩
def upd {α:Type} (f:Nat→α) (k:Nat) (v:α):Nat→α:=fun j=>if j=k then v else f j
theorem upd_at {α:Type} (f:Nat→α) (k:Nat) (v:α):upd f k v k=v:=if_pos rfl
theorem upd_ne {α:Type} (f:Nat→α) {k j:Nat} (v:α) (h:j ≠ k):upd f k v j=f j:=if_neg h
section
variable {w w':World} {S:MS}
theorem MW.net (h:MW w S) {X':Nt} (t:NetTo w S.X w' X'):Goes w S w' { S with X:=X' }:=
 h.step .net t.comp ⟨t.at',t.cut.trans (show NetAt w S.X∧S.X.cut=S.cut from h.at_ .net).2⟩ fun j hj=>by cases j <;> first | rfl | exact absurd rfl hj
theorem MW.da (h:MW w S) (k:Nat) {d:DS} (hc:Comp w w' (S.ds k).part.P d.part.P) (hH:d.part.H w'):Goes w S w' { S with ds:=upd S.ds k d }:=
 h.step (.da k) (by show Comp w w' (S.ds k).part.P (upd S.ds k d k).part.P;rw [upd_at];exact hc) (by show (upd S.ds k d k).part.H w';rw [upd_at];exact hH) fun j hj=>by
  cases j with
  | da j=>
   show (upd S.ds k d j).part=(S.ds j).part
   rw [upd_ne _ _ fun e=>hj (congrArg Ix.da e)]
  | _=>rfl
theorem Trans.comp {D D':Dm} (t:Trans w D w' D'):Comp w w' D.all D'.all:=⟨t.os,t.tape,t.output,t.size,t.keep⟩
theorem MW.live (h:MW w S) {k:Nat} {D D':Dm} (hk:S.ds k=.live D) (t:Trans w D w' D') (hd:Dae w' D'):Goes w S w' { S with ds:=upd S.ds k (.live D') }:=
 h.da k (by rw [hk];exact t.comp) hd
theorem MW.low (h:MW w S):Below S.u.heap.size S.u w:=h.at_ .base
theorem MW.netCut (h:MW w S):NetAt w S.X∧S.X.cut=S.cut:=h.at_ .net
theorem MW.netAt (h:MW w S):NetAt w S.X:=h.netCut.1
theorem MW.wrAt (h:MW w S):w.heap[S.wb]?=some (.cells (wrC S.nb S.mb S.now) 54):=h.at_ .wr
theorem MW.mpAt (h:MW w S):IMap w S.mb S.nodes:=h.at_ .mp
theorem MW.ndAt (h:MW w S) {k:Nat} {n:Nd} (hk:S.nd k=some n):n.At w:=by
 have:=h.at_ (.nr k)
 simp only [MS.part,hk] at this
 exact this
theorem MW.tmAt (h:MW w S) {k:Nat} {p:Nat × List (Int × Value)} (hk:S.tm k=some p):IMap w p.1 p.2:=by
 have:=h.at_ (.tm k)
 simp only [MS.part,hk] at this
 exact this
theorem MW.daAt (h:MW w S) {k:Nat} {D:Dm} (hk:S.ds k=.live D):Dae w D:=by
 have:=h.at_ (.da k)
 simp only [MS.part,hk] at this
 exact this
theorem MW.mine (h:MW w S) {k:Nat} {D:Dm} (hk:S.ds k=.live D):Mine S.u w D:=
 ⟨h.low,fun i hi q=>h.dis .base (.da k) (fun e=>by cases e) i hi (by show (S.ds k).part.P i;rw [hk];exact q)⟩
theorem MW.nr (h:MW w S) {k:Nat} {n n':Nd} (hk:S.nd k=some n) (hc:Comp w w' (fun i=>i=n.b ∨ i=n.sb) (fun i=>i=n'.b ∨ i=n'.sb)) (hH:n'.At w'):Goes w S w' { S with nd:=upd S.nd k (some n') }:=
 h.step (.nr k) (by simp only [MS.part,hk,upd_at];exact hc) (by simp only [MS.part,upd_at];exact hH) fun j hj=>by
  cases j with
  | nr j=>
   have e:upd S.nd k (some n') j=S.nd j:=upd_ne _ _ fun e=>hj (congrArg Ix.nr e)
   simp only [MS.part,e]
  | _=>rfl
end
end
section
open Sx (Ab DW Turns Did Foot MapIs)
attribute [local go_sem ↓] zad
attribute [local go_sem] zaf zai zaj zal zab zah zac zak zae
def ptA (b:Nat):Value:=.pointer (some ⟨b,0,none⟩)
section
variable (xv:Value) (t:Tm) (s:Sv) (dv tv:Value)
theorem zacy:(ndC xv t s dv tv).size=13:=rfl
theorem nd_0:(ndC xv t s dv tv)[0]?=some xv:=rfl
theorem nd_0g (q:0 < (ndC xv t s dv tv).size):(ndC xv t s dv tv)[0]'q=xv:=rfl
theorem nd_10:(ndC xv t s dv tv)[10]?=some (.slice s.a s.n s.c):=rfl
theorem nd_10g (q:10 < (ndC xv t s dv tv).size):(ndC xv t s dv tv)[10]'q=.slice s.a s.n s.c:=rfl
theorem nd_11:(ndC xv t s dv tv)[11]?=some dv:=rfl
theorem nd_11g (q:11 < (ndC xv t s dv tv).size):(ndC xv t s dv tv)[11]'q=dv:=rfl
theorem nd_12:(ndC xv t s dv tv)[12]?=some tv:=rfl
theorem nd_12g (q:12 < (ndC xv t s dv tv).size):(ndC xv t s dv tv)[12]'q=tv:=rfl
theorem nd_t:sub (ndC xv t s dv tv) 1 9=t.cells:=by kernel_rfl
theorem zvg (v:Value):(ndC xv t s dv tv).setIfInBounds 0 v=ndC v t s dv tv:=rfl
end
attribute [go_sem ↓] nd_0 nd_10 nd_11 nd_12
attribute [go_sem] zacy nd_0g nd_10g nd_11g nd_12g nd_t
section
variable (nb mb:Nat) (n:Cl)
theorem zacz:(wrC nb mb n).size=5:=rfl
theorem wr_0:(wrC nb mb n)[0]?=some (.pointer (some ⟨nb,0,none⟩)):=rfl
theorem wr_0g (q:0 < (wrC nb mb n).size):(wrC nb mb n)[0]'q=.pointer (some ⟨nb,0,none⟩):=rfl
theorem wr_1:(wrC nb mb n)[1]?=some (.map (some mb)):=rfl
theorem wr_1g (q:1 < (wrC nb mb n).size):(wrC nb mb n)[1]'q=.map (some mb):=rfl
theorem wr_2:(wrC nb mb n)[2]?=some (.int .i64 n.a):=rfl
theorem wr_2g (q:2 < (wrC nb mb n).size):(wrC nb mb n)[2]'q=.int .i64 n.a:=rfl
theorem wr_3:(wrC nb mb n)[3]?=some (.int .i64 n.b):=rfl
theorem wr_3g (q:3 < (wrC nb mb n).size):(wrC nb mb n)[3]'q=.int .i64 n.b:=rfl
theorem wr_n:sub (wrC nb mb n) 2 3=n.cells:=by kernel_rfl
end
attribute [go_sem ↓] wr_0 wr_1 wr_2 wr_3
attribute [go_sem] zacz wr_0g wr_1g wr_2g wr_3g wr_n
theorem zero57:∃ i,Tryz.prog.info? 75=some i∧i.zero=some (.pointer none):=by
 obtain ⟨i,h1,h2,_,_⟩:=info_parts (show (Tryz.prog.info? 75).map (fun i=>(i.zero,i.size,i.bytes))=some (some (.pointer none),1,8) by kernel_rfl)
 exact ⟨i,h1,h2⟩
theorem zz5:∃ i,Tryz.prog.info? 125=some i∧i.zero=some (.agg #[.int .i64 0,.int .i64 0]):=by
 obtain ⟨i,h1,h2,_,_⟩:=info_parts (show (Tryz.prog.info? 125).map (fun i=>(i.zero,i.size,i.bytes))=some (some (.agg #[.int .i64 0,.int .i64 0]),2,16) by kernel_rfl)
 exact ⟨i,h1,h2⟩
def MS.at_ (S:MS) (k:Int):Value:=(getA S.nodes k).getD (.pointer none)
theorem MW.look {w:World} {S:MS} (h:MW w S) (k:Int):(Instr.lookup 51 (.map (some S.mb)) (.int .i64 k) false).run Tryz.prog w=.ok (S.at_ k) w:=by
 obtain ⟨i,h1,h2⟩:=zero57
 exact h.mpAt.look Tryz.underlying51 h1 h2 k
theorem zvh {w:World} {r:Nat} {l:List (Int × Value)} (h:IMap w r l) (k:Int):(Instr.lookup 80 (.map (some r)) (.int .i64 k) false).run Tryz.prog w=.ok ((getA l k).getD (.agg #[.int .i64 0,.int .i64 0])) w:=by
 obtain ⟨i,h1,h2⟩:=zz5
 exact h.look Tryz.underlying80 h1 h2 k
theorem zyi {w:World} {xb jb bk:Nat} {t:Tm} {s:Sv} {d:Bool} (h:rowOf w xb=dmC t s jb bk d):Calls Tryz.prog 94 #[.pointer (some ⟨xb,0,none⟩)] w fun e w'=>e=.returned (.bool d)∧w'=w:=by
 go_enter Tryz.func94,Tryz.ntmps94
 go_wp2
 go_ret
 exact ⟨rfl,rfl⟩
theorem zoc {w:World} {b xb jb bk:Nat} {t t2:Tm} {s s2:Sv} {dv tv:Value} {d:Bool} (h0:rowOf w b=ndC (.pointer (some ⟨xb,0,none⟩)) t2 s2 dv tv) (h:rowOf w xb=dmC t s jb bk d):Calls Tryz.prog 57 #[.pointer (some ⟨b,0,none⟩)] w fun e w'=>e=.returned (.bool d)∧w'=w:=by
 have K:=zadv (zyi h)
 clear h
 go_enter Tryz.func57,Tryz.ntmps57
 go_wp2_with fail
 refine K.out.mono ?_
 rintro _ w' ⟨rfl,rfl⟩
 go_wp2
 go_ret
 exact ⟨rfl,rfl⟩
theorem Off_at {w:World} {S:MS} (h:MW w S) {k:Int} {d:Bool} (ho:Calls Tryz.prog 57 #[S.at_ k] w fun e w'=>e=.returned (.bool d)∧w'=w):Calls Tryz.prog 18 #[.pointer (some ⟨S.wb,0,none⟩),.int .i64 k] w fun e w'=>e=.returned (.bool d)∧w'=w:=by
 have rw_:=zaa h.wrAt
 have lk:=h.look k
 have K:=zadv ho
 clear h ho
 go_enter Tryz.func18,Tryz.ntmps18
 go_wp2_with fail
 refine K.out.mono ?_
 rintro _ w' ⟨rfl,rfl⟩
 go_wp2
 go_ret
 exact ⟨rfl,rfl⟩
end
section
open Sx (Ab DW Turns Did Foot MapIs)
attribute [local go_sem ↓] zad
attribute [local go_sem] zaf zai zaj zal zab zah zac zak zae
theorem MW.wr {w:World} {S:MS} (h:MW w S) (n:Cl) (k:Nat) (v:Value) (hc:(wrC S.nb S.mb S.now).setIfInBounds k v=wrC S.nb S.mb n):Goes w S (w.setCell ⟨S.wb,k,none⟩ v) { S with now:=n }:=by
 refine h.step .wr ⟨rfl,rfl,rfl,by simp [World.setCell],fun i hi hn=>⟨?_,hn⟩⟩ ?_ fun j hj=>by cases j <;> first | rfl | exact absurd rfl hj
 ·rw [zag,if_neg (fun e=>hn e.symm)]
 ·show (w.setCell ⟨S.wb,k,none⟩ v).heap[S.wb]?=some (.cells (wrC S.nb S.mb n) 54)
  rw [zag,if_pos rfl,h.wrAt,← hc]
  rfl
theorem Goes.drew {w w':World} {S S':MS} (h:Goes w S w' S'):Goes w S w'.drew S':=h.trans (h.mw.below (Below.refl _ w').drew)
theorem zac0 {w:World} {S:MS} (k n:Int) (hk:((k < 0)=False∧(k ≥ 3)=True) ∨ ((k < 0)=False∧(k ≥ 3)=False∧(n < 0)=True)):Calls Tryz.prog 27 #[.pointer (some ⟨S.wb,0,none⟩),.int .i64 k,.int .i64 n] w fun e w'=>e=.returned (.bool false)∧w'=w:=by
 go_enter Tryz.func27,Tryz.ntmps27
 rcases hk with ⟨h1,h2⟩ | ⟨h1,h2,h3⟩
 all_goals
  go_wp2
  go_ret
  exact ⟨rfl,rfl⟩
theorem Turn_0 {w:World} {S:MS} (h:MW w S) {n:Int} (n0:(n < 0)=False) (n1:(n > wrap64 (1073741824 - S.now.a))=False) (n2:IntKind.i64.wrap (S.now.a + n)=S.now.a + n):Calls Tryz.prog 27 #[.pointer (some ⟨S.wb,0,none⟩),.int .i64 0,.int .i64 n] w fun e w'=>e=.returned (.bool true)∧Goes w S w' { S with now:=⟨S.now.a + n,S.now.b,S.now.c⟩ }:=by
 have r0:=zaa h.wrAt
 have s0:=zan h.wrAt
 have H:=zadv h
 clear h
 go_enter Tryz.func27,Tryz.ntmps27
 go_upto_region 3 with (fail)
 go_region
 go_wp2
 go_ret
 exact ⟨rfl,(H.out.wr ⟨S.now.a + n,S.now.b,S.now.c⟩ 2 (.int .i64 (S.now.a + n)) rfl).drew⟩
theorem Turn_1 {w:World} {S:MS} (h:MW w S) {n:Int} (n0:(n < 0)=False) (n1:(n > wrap64 (1073741824 - S.now.b))=False) (n2:IntKind.i64.wrap (S.now.b + n)=S.now.b + n):Calls Tryz.prog 27 #[.pointer (some ⟨S.wb,0,none⟩),.int .i64 1,.int .i64 n] w fun e w'=>e=.returned (.bool true)∧Goes w S w' { S with now:=⟨S.now.a,S.now.b + n,S.now.c⟩ }:=by
 have r0:=zaa h.wrAt
 have s0:=zan h.wrAt
 have H:=zadv h
 clear h
 go_enter Tryz.func27,Tryz.ntmps27
 go_upto_region 3 with (fail)
 go_region
 go_wp2
 go_ret
 exact ⟨rfl,(H.out.wr ⟨S.now.a,S.now.b + n,S.now.c⟩ 3 (.int .i64 (S.now.b + n)) rfl).drew⟩
theorem zvi {w:World} {S:MS} (h:MW w S) {k:Int} {b:Nat} (hb:S.at_ k=ptA b) {xv dv:Value} {t:Tm} {s:Sv} {tb:Nat} (hr:w.heap[b]?=some (.cells (ndC xv t s dv (.map (some tb))) 82)) {l:List (Int × Value)} (hm:IMap w tb l) {i x y:Int} (hg:(getA l i).getD (.agg #[.int .i64 0,.int .i64 0])=.agg #[.int .i64 x,.int .i64 y]):
  Calls Tryz.prog 25 #[.pointer (some ⟨S.wb,0,none⟩),.int .i64 k,.int .i64 i] w fun e w'=>e=.returned (.tuple #[.int .i64 x,.int .i64 y])∧Below w.heap.size w w':=by
 have r0:=zaa h.wrAt
 have r1:=zaa hr
 have lk:=h.look k
 rw [hb] at lk
 unfold ptA at lk
 have lt:=zvh hm i
 rw [hg] at lt
 clear h hm hg
 go_enter Tryz.func25,Tryz.ntmps25
 go_upto_region 5 with (fail)
 have B:=zat w (.cells #[.int .i64 x,.int .i64 y] 125)
 have bx:=Bx.new w #[.int .i64 x,.int .i64 y] 125
 have rx:=bx.rowOf
 go_region
 go_wp2
 refine bodyPost_ret (results_tmp2 rfl _ _ _) rfl ?_
 exact ⟨rfl,B.drew⟩
end
section
open Sx (Ab DW Turns Did Foot MapIs)
attribute [local go_sem ↓] zad
attribute [local go_sem] zaf zai zaj zal zab zah zac zak zae zaw Sx.run_mk
theorem MW.tmTo {w w':World} {S:MS} (h:MW w S) (k:Nat) {p:Nat × List (Int × Value)} (hc:Comp w w' (S.part (.tm k)).P (fun i=>i=p.1)) (hH:IMap w' p.1 p.2):Goes w S w' { S with tm:=upd S.tm k (some p) }:=
 h.step (.tm k) (by simp only [MS.part,upd_at];exact hc) (by simp only [MS.part,upd_at];exact hH) fun j hj=>by
  cases j with
  | tm j=>
   have e:upd S.tm k (some p) j=S.tm j:=upd_ne _ _ fun e=>hj (congrArg Ix.tm e)
   simp only [MS.part,e]
  | _=>rfl
theorem MW.tmNew {w:World} {S:MS} (h:MW w S) (k:Nat):Goes w S (w.alloc (.map #[] 0)) { S with tm:=upd S.tm k (some (w.heap.size,[])) }:=
 h.tmTo k ⟨rfl,rfl,rfl,by simp,fun i hi _=>⟨(MapKept.heap_alloc _ _).2 _ hi,by omega⟩⟩ (IMap.new w)
theorem nd_row {w:World} {n:Nd} (h:n.At w) (j:Nat) (v:Value) {n':Nd} (hc:n.cells.setIfInBounds j v=n'.cells) (e:n'.b=n.b) (e1:n'.sb=n.sb) (e2:n'.seed=n.seed) (e3:n'.sc=n.sc):n'.At (w.setCell ⟨n.b,j,none⟩ v):=by
 refine ⟨?_,?_,?_,by rw [e,e1];exact h.ne⟩
 ·rw [zag,e,if_pos rfl,h.row,← hc]
  rfl
 ·rw [e1,e2,e3]
  exact h.sd.block (by rw [zag,if_neg (Ne.symm h.ne)])
 ·rw [e1]
  have:(w.setCell ⟨n.b,j,none⟩ v).heap.size=w.heap.size:=by simp [World.setCell]
  rw [this]
  exact h.lt
theorem MW.nrSet {w:World} {S:MS} (h:MW w S) {k:Nat} {n n':Nd} (hk:S.nd k=some n) (j:Nat) (v:Value) (hc:n.cells.setIfInBounds j v=n'.cells) (e:n'.b=n.b) (e1:n'.sb=n.sb) (e2:n'.seed=n.seed) (e3:n'.sc=n.sc):Goes w S (w.setCell ⟨n.b,j,none⟩ v) { S with nd:=upd S.nd k (some n') }:=
 h.nr hk ⟨rfl,rfl,rfl,by simp [World.setCell],fun i hi hn=>⟨by rw [zag,if_neg (fun q=>hn (.inl q.symm))],by rw [e,e1];exact hn⟩⟩ (nd_row (h.ndAt hk) j v hc e e1 e2 e3)
theorem za2 {w:World} {es:Array MapEntry} {c b:Nat} (h:(b=w.heap.size)=False):soft (w.alloc (.map es c)) b=soft w b:=by
 have h:b ≠ w.heap.size:=of_eq_false h
 unfold soft
 by_cases hb:b < w.heap.size
 ·rw [(MapKept.heap_alloc _ _).2 _ hb]
 ·rw [Array.getElem?_eq_none (by simp;omega),Array.getElem?_eq_none (by omega)]
attribute [local go_sem] za2
theorem load53 (w:World) (ρ:Operand→Value) (x:Operand) (dst:Option Tmp) (ty:TypeId) (pos:String) (af:Array Edge) (gd:Option (Nat × Bool)) (hp:pp (ρ x)=true) (h:po (ρ x) + 9 ≤ (rowOf w (pb (ρ x))).size):(execOp ρ ⟨dst,.load 68 x,ty,pos,af,gd⟩).run Tryz.prog w=.ok (.value (.agg (sub (rowOf w (pb (ρ x))) (po (ρ x)) 9))) w:=
 zav 68 9 Tryz.underlying68 rfl (by kernel_rfl) w ρ x dst ty pos af gd hp h
attribute [go_sem ↓] load53
theorem Born.comp {F:Foot} {w w':World} {D:Dm} (h:Born F w D w'):Comp w w' (fun i=>∃ x,F i x) D.all:=⟨h.os,h.tape,h.output,h.size,fun i hi hn=>h.keep i hi fun x hx=>hn ⟨x,hx⟩⟩
theorem zfy {α:Type} (f:Nat→α) (k:Nat) (u v:α):upd (upd f k u) k v=upd f k v:=funext fun j=>by
 unfold upd
 split <;> rfl
def NdR (w:World) (n:Nd):Prop:=sub (rowOf w n.b) 1 9=n.t.cells∧10 ≤ (rowOf w n.b).size∧(rowOf w n.b)[10]?=some (.slice (some ⟨n.sb,0,none⟩) n.seed.length n.sc)∧(rowOf w n.b)[11]?=some n.dv
theorem NdR.of {w:World} {n:Nd} {xv tv:Value} (h:rowOf w n.b=ndC xv n.t n.sv n.dv tv):NdR w n:=by
 unfold NdR
 rw [h]
 exact ⟨nd_t _ _ _ _ _,(by decide:10 ≤ 13),rfl,rfl⟩
set_option maxHeartbeats 1000000 in
theorem zac1 {w:World} {S:MS} (h:MW w S) {k:Nat} {n:Nd} {F:Foot} {A A':Ab} {j:Jr} (hn:S.nd k=some n) (hd:S.ds k=.disk F n.dv A) (hA:Ab.Sm A) (ho:zce A=⟨0,A',j,[]⟩) (hh:Holds A' j []) (hc:Calm A') (hT:TmK n.t) (h0:0 < n.seed.length) (hl:n.seed.length ≤ 64):
   Calls Tryz.prog 36 #[.pointer (some ⟨n.b,0,none⟩)] w fun e w'=>e=.returned (.int .i64 0)∧∃ D tb,Goes w S w' { S with nd:=upd S.nd k (some { n with xv:=ptA D.xb,tv:=.map (some tb) }),tm:=upd S.tm k (some (tb,[])),ds:=upd S.ds k (.live D) }∧Lies w' D (·=[]) []∧D.t=n.t∧D.seed=n.seed∧D.dv=n.dv:=by
 have H:=zadv h
 have HN:=zadv hn
 have HD:=zadv hd
 have HP:=zadv (zadx hA (zadx ho (zadx hh (zadx hc (zadx hT (zadx h0 hl))))))
 have r0:=zaa (h.ndAt hn).row
 have s0:=zan (h.ndAt hn).row
 have nb0:(n.b=w.heap.size)=False:=eq_false (Nat.ne_of_lt (zadu (h.ndAt hn).row).1)
 unfold Nd.cells at r0
 clear h hn hd hA ho hh hc hT h0 hl
 go_enter Tryz.func36,Tryz.ntmps36
 go_upto_region 2 with (fail)
 have g1:=H.out.tmNew k
 have g2:=g1.mw.nrSet (n':={ n with tv:=.map (some w.heap.size) }) (show ({ S with tm:=upd S.tm k (some (w.heap.size,[])) }:MS).nd k=some n from HN.out) 12 (.map (some w.heap.size)) rfl rfl rfl rfl rfl
 have G:=(g1.trans g2).drew
 clear g1 g2
 have eW:∃ W,W=(w.alloc (.map #[] 0)).setCell ⟨n.b,12,none⟩ (.map (some w.heap.size)):=⟨_,rfl⟩
 obtain ⟨W,eW⟩:=eW
 rw [← eW] at G ⊢
 have na:=G.mw.ndAt (k:=k) (upd_at _ _ _)
 have r2:rowOf W n.b=ndC n.xv n.t n.sv n.dv (.map (some w.heap.size)):=zaa na.row
 have s2:soft W n.b=true:=zan na.row
 have hdw:DW W.drew F n.dv A:=by
   have:=G.mw.at_ (.da k)
   simp only [MS.part,HD.out] at this
   exact this
 have hF:∀ x,¬ F n.sb x:=fun x q=>by
   refine G.mw.dis (.nr k) (.da k) (fun e=>by cases e) n.sb ?_ ?_
   · show (MS.part _ (.nr k)).P n.sb
     simp only [MS.part,upd_at]
     exact Or.inr trivial
   · simp only [MS.part,HD.out]
     exact ⟨x,q⟩
 have OP:=zadv (zx9 hdw HP.out.1 HP.out.2.1 HP.out.2.2.1 HP.out.2.2.2.1 HP.out.2.2.2.2.1 na.sd HP.out.2.2.2.2.2.1 HP.out.2.2.2.2.2.2 na.lt hF)
 dsimp only at OP
 have R2:NdR W.drew n:=NdR.of r2
 have G:=zadv G
 unfold NdR at R2
 clear r0 s0 nb0 na hdw hF eW
 go_region_held3 (fun w'=>sub (rowOf w' n.b) 1 9=n.t.cells∧10 ≤ (rowOf w' n.b).size∧(rowOf w' n.b)[10]?=some (.slice (some ⟨n.sb,0,none⟩) n.seed.length n.sc)∧(rowOf w' n.b)[11]?=some n.dv) (first | exact R2 | exact R3 | exact R4) (first
   | (go_at_call 72;refine OP.out.mono ?_;rintro _ V ⟨D,rfl,q1,q2,q3,q4,q5⟩
      have g3:=G.out.trans (G.out.mw.da k (d:=.live D) (by show Comp _ _ (S.ds k).part.P _;rw [HD.out];exact q4.comp) q1.dae)
      have nv:=g3.mw.ndAt (k:=k) (upd_at _ _ _)
      have r3:rowOf V n.b=ndC n.xv n.t n.sv n.dv (.map (some w.heap.size)):=zaa nv.row
      have s3:soft V n.b=true:=zan nv.row
      have R3:NdR V n:=NdR.of r3
      have R4:NdR (V.setCell ⟨n.b,0,none⟩ (ptA D.xb)) n:=(NdR.of (by rw [zac,if_pos rfl,r3];exact zvg _ _ _ _ _ _))
      have G3:=zadv g3
      have Q:=zadv (zadx q1 (zadx q2 (zadx q3 q5)))
      unfold NdR at R3 R4
      clear g3 nv q1 q2 q3 q4 q5 r2 s2))
 have g4:=G3.out.trans (G3.out.mw.nrSet (k:=k) (n':={ n with xv:=ptA D.xb,tv:=.map (some w.heap.size) }) (upd_at _ _ _) 0 (ptA D.xb) rfl rfl rfl rfl rfl)
 dsimp only at g4
 rw [zfy] at g4
 have L4:Lies (V.setCell ⟨n.b,0,none⟩ (ptA D.xb)) D (·=[]) []:=⟨g4.mw.daAt (k:=k) (upd_at _ _ _),Q.out.1.book,Q.out.1.rows,Q.out.1.cal⟩
 have G4:=zadv g4
 have L4:=zadv L4
 clear g4 R2 R3 R4 r3 s3
 go_wp2
 go_ret
 exact ⟨rfl,D,w.heap.size,G4.out,L4.out,Q.out.2⟩
end
end Go.Proofs.YthjgiamfaijoeaaGreatDoor
