/- What is proved: parts of the walk and of the plain law. No condition but those each law names. -/
import Derived.Test.YthjgiamfaijoeaaGreatDoorD34
import Derived.Test.YthjgiamfaijoeaaGreatDoorD29
import Derived.Test.YthjgiamfaijoeaaGreatDoorD00
set_option linter.unusedSimpArgs false
set_option linter.unusedVariables false
set_option maxRecDepth 100000
namespace Go.Proofs.YthjgiamfaijoeaaGreatDoor
open Go.RowKit
section
open Sx (Ab DW Turns Did Foot)
theorem zr5 {w:World} {xb b0 b1:Nat} {C:Array Value} {t:TypeId} (h0:w.cell? ⟨b0,0,none⟩=some (.pointer (some ⟨xb,0,none⟩))) (h1:w.cell? ⟨b1,0,none⟩=some (.int .i64 9)) (hx:w.heap[xb]?=some (.cells C t)) (hc:C[12]?=some (.bool false)):
  CallsD Tryz.prog 172 #[.pointer (some ⟨b0,0,none⟩),.pointer (some ⟨b1,0,none⟩)] .returning w fun e u' w'=>u'=.returning∧(∃ v,e=.returned v)∧w'=(w.setCell ⟨xb,12,none⟩ (.bool true)).drew:=by
 have c12:w.cell? ⟨xb,12,none⟩=some (.bool false):=by simp [World.cell?,hx,hc]
 have f12:w.frozen? ⟨xb,12,none⟩=false:=by simp [World.frozen?,hx]
 refine callsD_of_wp Tryz.func172 rfl ?_
 simp only [Tryz.ntmps172,List.size_toArray,List.length_cons,List.length_nil,Nat.reduceAdd,Nat.reduceSub,Array.replicate_succ,Array.replicate_zero,List.push_toArray,List.append_toArray,List.nil_append,List.cons_append]
 clear hc
 go_region
 go_end0
 exact ⟨⟨_,rfl⟩,rfl⟩
attribute [local go_sem ↓] zad
attribute [local go_sem] zaf zai zaj zal zab zah zac zak zae
theorem Trans.kill {w:World} {D:Dm} (v:Value):Trans w D (w.setCell ⟨D.xb,12,none⟩ v) D:=
 ⟨rfl,rfl,rfl,by simp [World.setCell],fun i _ hn=>⟨by rw [zag,if_neg (fun e:D.xb=i=>hn (e ▸ .inl (.inl rfl)))],hn⟩,rfl,rfl,rfl,rfl,rfl⟩
set_option maxHeartbeats 4000000 in
theorem zyw {n:Nat} (hn:n ≤ 2) {rs:Nat→Rc} {S S':Nat→World→Dm→Prop} {Q:Nat→Dm→Prop} (hS:∀ k w D,S k w D→Dae w D) (hS':∀ k w D,S' k w D→Dae w D) (hl:∀ k w w' D,S k w D→Below w.heap.size w w'→S k w' D) (hl':∀ k w w' D,S' k w D→Below w.heap.size w w'→S' k w' D)
  (hlog:∀ k,k < n→∀ w D,S k w D→Base w D→Calls Tryz.prog 173 #[.pointer (some ⟨D.xb,0,none⟩),.agg (rs k).cells] w fun e w'=>(e=.returned (.int .i64 0)∧∃ D',S' k w' D'∧Trans w D w' D') ∨ (e=.returned (.int .i64 9)∧∃ D',Dae0 false w' D'∧Q k D'∧Trans w D w' D'))
  (happ:∀ k,k < n→∀ w D,S' k w D→Base w D→Calls Tryz.prog 114 #[.pointer (some ⟨D.bk,0,none⟩),.agg (rs k).cells] w fun e w'=>e=.returned (.int .i64 0)∧∃ D',S (k + 1) w' D'∧Trans w D w' D')
  {w:World} {D:Dm} (h:S 0 w D) (hB:Base w D) {lb:Nat} {C:Array Value} (hlb:w.heap[lb]?=some (.cells C 162)) (hCs:C.size=80 * n) (hCr:∀ k,k < n→sub C (k * 80) 80=(rs k).cells) (hna:¬ D.all lb):
  Calls Tryz.prog 109 #[.pointer (some ⟨D.xb,0,none⟩),.slice (some ⟨lb,0,none⟩) n n] w fun e w'=>(e=.returned (.int .i64 0)∧∃ D',S n w' D'∧Trans w D w' D') ∨ (e=.returned (.int .i64 9)∧∃ k D',k < n∧Dae0 true w' D'∧Q k D'∧Trans w D w' D'):=by
 obtain ⟨w1,hw1⟩:∃ w1,w1=(w.alloc (.cells #[.pointer (some ⟨D.xb,0,none⟩)] 79)).alloc (.cells #[.int .i64 0] 38):=⟨_,rfl⟩
 have bx:Bxs w [(#[.pointer (some ⟨D.xb,0,none⟩)],79),(#[.int .i64 0],38)] w1:=by rw [hw1];exact Bxs.new2 w _ _ _ _
 have hst:=hl 0 w w1 D h bx.below
 have hT0:Trans w D w1 D:=Trans.below bx.below
 have hBa:=hB.trans hT0
 have D0:=hS 0 w D h
 have na0:¬ D.all w.heap.size:=fun q=>absurd (D0.all_lt q) (Nat.lt_irrefl _)
 have na1:¬ D.all (w.heap.size + 1):=fun q=>by have:=D0.all_lt q;omega
 have lt0:=bx.lt 0 rfl
 have lt1:=bx.lt 1 rfl
 have x0:w1.heap[w.heap.size]?=some (.cells #[.pointer (some ⟨D.xb,0,none⟩)] 79):=bx.rows 0 _ _ rfl
 have x1:w1.heap[w.heap.size + 1]?=some (.cells #[.int .i64 0] 38):=bx.rows 1 _ _ rfl
 have xl:w1.heap[lb]?=some (.cells C 162):=(bx.below.block lb (zadu hlb).1).trans hlb
 simp only [Nat.add_zero] at lt0
 have K:=zadv (zadx x0 (zadx x1 (zadx xl (zadx na0 (zadx na1 hna)))))
 have KL:=zadv (zadx lt0 (zadx lt1 (zadu xl).1))
 have HT0:=zadv hT0
 have HST:=zadv hst
 have HBA:=zadv hBa
 have HW:=zadv hw1
 clear h hB hlb bx hst hT0 hBa D0 na0 na1 lt0 lt1 x0 x1 xl hna hw1
 go_enter_defers Tryz.func109,Tryz.ntmps109
 go_upto_region 3 with (fail)
 rw [← HW.out]
 go_loopw [10] (fun i wr=>∃ (k:Nat) (D':Dm),k ≤ n∧i=.int .i64 k∧S k wr D'∧Trans w1 D wr D') (fun i _=>n - (intOf i).toNat)
 case atStart=>exact ⟨0,D,Nat.zero_le _,rfl,HST.out,(Trans.below (Below.refl _ _))⟩
 case round=>
  obtain ⟨k,D',hk,rfl,hs,ht⟩:=hrel
  have HBA':=zadv (HBA.out.trans ht)
  have r0:=zaa ((ht.keep _ KL.out.1 K.out.2.2.2.1).1.trans K.out.1)
  have x1:=(ht.keep _ KL.out.2.1 K.out.2.2.2.2.1).1.trans K.out.2.1
  have r1:=zaa x1
  have s1:=zan x1
  have rl:=zaa ((ht.keep _ KL.out.2.2 K.out.2.2.2.2.2).1.trans K.out.2.2.1)
  have HS:=zadv hs
  have HT:=zadv ht
  have ed:D.xb=D'.xb:=ht.xb.symm
  have ED:=zadv ed
  clear x1 hs ht
  by_cases hlt:k < n
  ·have i1:(k:Int) < n:=by omega
   have i2:k * 80 + 80 ≤ C.size:=by rw [hCs];omega
   have i3:=hCr k hlt
   clear hCs
   go_upto_region 5 with (fail)
   have L:=Bx.made wr Rc.zero.cells (rs k).cells 162
   generalize (wr.alloc (.cells Rc.zero.cells 162)).setRow wr.heap.size (rs k).cells=V1 at L ⊢
   have nb0:=(HT.out.keep _ KL.out.1 K.out.2.2.2.1).2
   have nb1:=(HT.out.keep _ KL.out.2.1 K.out.2.2.2.2.1).2
   have dae:=hS k wr D' HS.out
   have nb2:¬ D'.all wr.heap.size:=fun q=>absurd (dae.all_lt q) (Nat.lt_irrefl _)
   have T1:Trans w1 D V1 D':=HT.out.trans (Trans.below L.below)
   have S1:=hl k wr V1 D' HS.out L.below
   have LG:=hlog k hlt V1 D' S1 (HBA'.out.trans (Trans.below L.below))
   rw [← ed] at LG
   have LG:=zadv LG
   clear ed
   have e0:=(T1.keep _ KL.out.1 K.out.2.2.2.1).1.trans K.out.1
   have e1:=(T1.keep _ KL.out.2.1 K.out.2.2.2.2.1).1.trans K.out.2.1
   have l0:w.heap.size < V1.heap.size:=Nat.lt_of_lt_of_le KL.out.1 T1.size
   have l1:w.heap.size + 1 < V1.heap.size:=Nat.lt_of_lt_of_le KL.out.2.1 T1.size
   have l2:wr.heap.size < V1.heap.size:=(zadu L.row).1
   clear r0 r1 s1 rl i2 i3
   have r0:=zaa e0
   have rb:=zaa L.row
   have HX:=zadv (zadx e0 (zadx e1 (zadx L.row (zadx nb0 (zadx nb1 (zadx nb2 (zadx l0 (zadx l1 l2))))))))
   have HT1:=zadv T1
   have HBV:=zadv (HBA'.out.trans (Trans.below L.below))
   clear e0 e1 nb0 nb1 nb2 l0 l1 l2 T1 S1 L dae
   go_wp2_with fail
   refine LG.out.mono ?_
   rintro _ V2 (⟨rfl,D2,s2,t2⟩ | ⟨rfl,D2,hh,hq,t2⟩)
   ·have e0:=(t2.keep _ HX.out.2.2.2.2.2.2.1 HX.out.2.2.2.1).1.trans HX.out.1
    have e1:=(t2.keep _ HX.out.2.2.2.2.2.2.2.1 HX.out.2.2.2.2.1).1.trans HX.out.2.1
    have e2:=(t2.keep _ HX.out.2.2.2.2.2.2.2.2 HX.out.2.2.2.2.2.1).1.trans HX.out.2.2.1
    have nb0:=(t2.keep _ HX.out.2.2.2.2.2.2.1 HX.out.2.2.2.1).2
    have nb1:=(t2.keep _ HX.out.2.2.2.2.2.2.2.1 HX.out.2.2.2.2.1).2
    have nb2:=(t2.keep _ HX.out.2.2.2.2.2.2.2.2 HX.out.2.2.2.2.2.1).2
    clear r0 rb LG
    have r1:=zaa e1
    have s1:=zan e1
    have hb3:=zex (k:=0) (v:=.int .i64 0) e1 rfl
    have S2:=zadv s2
    have T2:=zadv t2
    have B3:=zadv hb3
    have HY:=zadv (zadx e0 (zadx e1 (zadx e2 (zadx nb0 (zadx nb1 nb2)))))
    clear e0 e1 e2 nb0 nb1 nb2 s2 t2 hb3
    go_upto_region 7 with (fail)
    generalize V2.setCell ⟨w.heap.size + 1,0,none⟩ (.int .i64 0)=V3 at B3 ⊢
    have bd:Below V2.heap.size V2 V3.drew:=B3.out.drew
    have S3:=hl' k V2 V3.drew D2 S2.out bd
    have T3:=T2.out.trans (Trans.below bd)
    have AP:=zadv (happ k hlt V3.drew D2 S3 (HBV.out.trans T3))
    have e0:=(bd.block _ (zadu HY.out.1).1).trans HY.out.1
    have e1:=(bd.block _ (zadu HY.out.2.1).1).trans HY.out.2.1
    have e2:=(bd.block _ (zadu HY.out.2.2.1).1).trans HY.out.2.2.1
    have r0:rowOf V3 w.heap.size=_:=zaa e0
    have rb:rowOf V3 wr.heap.size=_:=zaa e2
    have rx:=zaa (hS' k V3.drew D2 S3).row
    unfold Dm.cells at rx
    have rx:rowOf V3 D2.xb=_:=rx
    rw [show D2.xb=D.xb from T2.out.xb.trans ED.out.symm] at rx
    have HZ:=zadv (zadx e1 (zadx (zadu e1).1 HY.out.2.2.2.2.1))
    have HT3:=zadv T3
    clear e0 e1 e2 S3 T3 r1 s1 bd
    (refine wp_region_still_tail 5 (by kernel_rfl) (by kernel_rfl) ?_;simp only [List.take_succ_cons,List.take_zero,List.drop_succ_cons,List.drop_zero];(iterate 5 still_step);refine wpStill_nil ?_)
    refine (show wpList Tryz.prog _ _ _ _ V3.drew from ?_)
    generalize V3.drew=V4 at *
    clear r0 rb rx S2 T2 HY B3
    go_wp2_with fail
    refine AP.out.mono ?_
    rintro _ V5 ⟨rfl,D3,s3,t3⟩
    have e1:=(t3.keep _ HZ.out.2.1 HZ.out.2.2).1.trans HZ.out.1
    have r1:=zaa e1
    have s1:=zan e1
    have hb3:=zex (k:=0) (v:=.int .i64 0) e1 rfl
    have S3:=zadv (hl (k + 1) _ _ _ s3 hb3)
    have T3:=zadv (((HT1.out.trans HT3.out).trans t3).trans (Trans.below hb3))
    clear AP e1 s3 t3 hb3 HBV
    go_wp2_with fail
    refine ⟨⟨k + 1,D3,hlt,rfl,S3.out,T3.out⟩,?_⟩
    show n - ((k:Int) + 1).toNat < n - (k:Int).toNat
    omega
   ·have e0:=(t2.keep _ HX.out.2.2.2.2.2.2.1 HX.out.2.2.2.1).1.trans HX.out.1
    have e1:=(t2.keep _ HX.out.2.2.2.2.2.2.2.1 HX.out.2.2.2.2.1).1.trans HX.out.2.1
    have nb0:=(t2.keep _ HX.out.2.2.2.2.2.2.1 HX.out.2.2.2.1).2
    have nb1:=(t2.keep _ HX.out.2.2.2.2.2.2.2.1 HX.out.2.2.2.2.1).2
    clear r0 rb LG
    have r1:=zaa e1
    have s1:=zan e1
    have Z:=zadv (zadx hh (zadx hq (zadx (HT0.out.trans (HT1.out.trans t2)) (zadx e0 (zadx e1 (zadx nb0 nb1))))))
    have EX:D2.xb=D.xb:=t2.xb.trans ED.out.symm
    have EX:=zadv EX
    clear hh hq t2 e0 e1 nb0 nb1
    go_wp2_with fail
    obtain ⟨hh,hq,tt,e0,e1,d0,d1⟩:=Z.out
    have ex:=EX.out
    have ne1:D.xb ≠ w.heap.size + 1:=fun e=>d1 (.inl (.inl (e.symm.trans ex.symm)))
    have hk:∀ i,i ≠ w.heap.size + 1→((V2.setCell ⟨w.heap.size + 1,0,none⟩ (.int .i64 9)).setCell ⟨w.heap.size + 1,0,none⟩ (.int .i64 9)).heap[i]?=V2.heap[i]?:=fun i hi=>by
     rw [zag,if_neg (Ne.symm hi),zag,if_neg (Ne.symm hi)]
    have f1:((V2.setCell ⟨w.heap.size + 1,0,none⟩ (.int .i64 9)).setCell ⟨w.heap.size + 1,0,none⟩ (.int .i64 9)).heap[w.heap.size + 1]?=some (.cells #[.int .i64 9] 38):=by
     rw [zag,if_pos rfl,zag,if_pos rfl,e1]
     rfl
    have zs:((V2.setCell ⟨w.heap.size + 1,0,none⟩ (.int .i64 9)).setCell ⟨w.heap.size + 1,0,none⟩ (.int .i64 9)).heap.size=V2.heap.size:=by simp [World.setCell]
    have os3:((V2.setCell ⟨w.heap.size + 1,0,none⟩ (.int .i64 9)).setCell ⟨w.heap.size + 1,0,none⟩ (.int .i64 9)).os=V2.os∧((V2.setCell ⟨w.heap.size + 1,0,none⟩ (.int .i64 9)).setCell ⟨w.heap.size + 1,0,none⟩ (.int .i64 9)).tape=V2.tape∧((V2.setCell ⟨w.heap.size + 1,0,none⟩ (.int .i64 9)).setCell ⟨w.heap.size + 1,0,none⟩ (.int .i64 9)).output=V2.output:=⟨rfl,rfl,rfl⟩
    generalize (V2.setCell ⟨w.heap.size + 1,0,none⟩ (.int .i64 9)).setCell ⟨w.heap.size + 1,0,none⟩ (.int .i64 9)=V at *
    have f0:=(hk w.heap.size (by omega)).trans e0
    have h3:Dae0 false V D2:=hh.keepB (fun i hi=>hk i fun e=>d1 (e ▸ hi)) (Nat.le_of_eq zs.symm)
    have t3:Trans w D V D2:=⟨os3.1.trans tt.os,os3.2.1.trans tt.tape,os3.2.2.trans tt.output,Nat.le_trans tt.size (Nat.le_of_eq zs.symm),fun i hi hn=>⟨(hk i (by omega)).trans (tt.keep i hi hn).1,(tt.keep i hi hn).2⟩,tt.xb,tt.bk,tt.t,tt.seed,tt.dv⟩
    have hx:=h3.row
    rw [ex] at hx
    refine leaves_cons (f:=172) (args:=#[.pointer (some ⟨w.heap.size,0,none⟩),.pointer (some ⟨w.heap.size + 1,0,none⟩)]) (by simp) (by simp [go_sem]) ?_
    refine (zr5 (xb:=D.xb) (C:=dmC D2.t D2.sv D2.jb D2.bk false) (by rw [zad,zaa f0];rfl) (by rw [zad,zaa f1];rfl) hx rfl).mono ?_
    rintro e u' w'' ⟨rfl,⟨v,rfl⟩,rfl⟩
    have g1:rowOf (V.setCell ⟨D.xb,12,none⟩ (.bool true)).drew (w.heap.size + 1)=#[.int .i64 9]:=zaa (by
     show (V.setCell ⟨D.xb,12,none⟩ (.bool true)).heap[w.heap.size + 1]?=_
     rw [zag,if_neg ne1]
     exact f1)
    have bd:=(Below.refl (V.setCell ⟨D.xb,12,none⟩ (.bool true)).heap.size (V.setCell ⟨D.xb,12,none⟩ (.bool true))).drew
    have dd:Dae0 true (V.setCell ⟨D.xb,12,none⟩ (.bool true)).drew D2:=by
     have:=h3.kill
     rw [ex] at this
     exact this.below bd
    have cc:Trans w D (V.setCell ⟨D.xb,12,none⟩ (.bool true)).drew D2:=by
     have:=Trans.kill (w:=V) (D:=D2) (.bool true)
     rw [ex] at this
     exact (t3.trans this).trans (Trans.below bd)
    simp [Leaves,settle,results,Tryz.results109,go_sem,g1]
    exact ⟨k,hlt,D2,dd,hq,cc⟩
  ·obtain rfl:k=n:=by omega
   go_wp2_with fail
   have e0:=(HT.out.keep _ KL.out.1 K.out.2.2.2.1).1.trans K.out.1
   have e1:=(HT.out.keep _ KL.out.2.1 K.out.2.2.2.2.1).1.trans K.out.2.1
   have hb:=zex (k:=0) (v:=.int .i64 0) e1 rfl
   have f0:=(hb.block _ (zadu e0).1).trans e0
   have f1:=(hb.block _ (zadu e1).1).trans e1
   have hs:=hl k _ _ _ HS.out hb
   have ht:=HT0.out.trans (HT.out.trans (Trans.below hb))
   generalize wr.setCell ⟨w.heap.size + 1,0,none⟩ (.int .i64 0)=V at *
   have hx:=(hS k V D' hs).row
   rw [← ed] at hx
   refine leaves_cons (f:=172) (args:=#[.pointer (some ⟨w.heap.size,0,none⟩),.pointer (some ⟨w.heap.size + 1,0,none⟩)]) (by simp) (by simp [go_sem]) ?_
   refine (zur (xb:=D.xb) (C:=D'.cells) (by rw [zad,zaa f0];rfl) (by rw [zad,zaa f1];rfl) hx rfl).mono ?_
   rintro e u' w'' ⟨rfl,⟨v,rfl⟩,hb2⟩
   have g1:=zaa ((hb2.block _ (zadu f1).1).trans f1)
   have g2:=hl k _ _ _ hs hb2
   have g3:=ht.trans (Trans.below hb2)
   simp [Leaves,settle,results,Tryz.results109,go_sem,g1]
   exact ⟨D',g2,g3⟩
def zqe (w:World) (D:Dm) (L:List It) (B':List (Int × Sw)) (w':World):Prop:=∃ D',On w' D' L B'∧(Calm D.A→Calm D'.A)∧Trans w D w' D'
def KeptNo (w:World) (D:Dm) (L its:List It) (w':World):Prop:=¬ Calm D.A∧∃ D' k a,its[k]?=some a∧Dae0 true w' D'∧Fell D' (L ++ its.take k) a∧Run [] (L ++ its.take k) (bkOf D'.M)∧(∃ B2,Adds (bkOf D'.M) a B2)∧Trans w D w' D'
theorem zqf {w:World} {D:Dm} {L its:List It} {B B':List (Int × Sw)} (hn:its.length ≤ 2) (h:On w D L B) (hr:Run B its B') (hB:Base w D) {lb:Nat} {C:Array Value} (hlb:w.heap[lb]?=some (.cells C 162)) (hCs:C.size=80 * its.length) (hCr:∀ k a,its[k]?=some a→sub C (k * 80) 80=a.rc.cells) (hna:¬ D.all lb):
  Calls Tryz.prog 109 #[.pointer (some ⟨D.xb,0,none⟩),.slice (some ⟨lb,0,none⟩) its.length its.length] w fun e w'=>
   (e=.returned (.int .i64 0)∧zqe w D (L ++ its) B' w') ∨ (e=.returned (.int .i64 9)∧KeptNo w D L its w'):=by
 have K:=zyw (n:=its.length) hn (rs:=fun k=>match its[k]? with | some a=>a.rc | none=>Rc.zero)
  (S:=fun k w D'=>∃ Bk,On w D' (L ++ its.take k) Bk∧Run B (its.take k) Bk∧Run Bk (its.drop k) B'∧(Calm D.A→Calm D'.A))
  (S':=fun k w D'=>∃ Bk,Dae w D'∧D'.A.off=false∧D'.R=zbc (L ++ its.take (k + 1))∧bkOf D'.M=Bk∧Run [] (L ++ its.take k) Bk∧Run B (its.take k) Bk∧Run Bk (its.drop k) B'∧(Calm D.A→Calm D'.A))
  (Q:=fun k D'=>¬ Calm D.A∧∃ a Bk,its[k]?=some a∧Fell D' (L ++ its.take k) a∧bkOf D'.M=Bk∧Run [] (L ++ its.take k) Bk∧∃ B2,Adds Bk a B2)
  (fun k w D' q=>let ⟨_,q,_⟩:=q;q.dae) (fun k w D' q=>let ⟨_,q,_⟩:=q;q) (fun k w w' D' q hb=>let ⟨Bk,q1,q⟩:=q;⟨Bk,q1.below hb,q⟩) (fun k w w' D' q hb=>let ⟨Bk,q1,q⟩:=q;⟨Bk,q1.below hb,q⟩)
  (fun k hk X D' q hB2=>by
   obtain ⟨Bk,q1,q2,q3,q4⟩:=q
   have hd:its.drop k=its[k] :: its.drop (k + 1):=List.drop_eq_getElem_cons hk
   have ha:its[k]?=some its[k]:=zady hk
   have q3':=q3
   rw [hd] at q3'
   obtain ⟨B2,a1,a2⟩:=q3'.head
   have hfit:=q1.run.room
   have e:L ++ its.take (k + 1)=(L ++ its.take k) ++ [its[k]]:=by rw [List.take_succ_eq_append_getElem hk,List.append_assoc]
   rw [ha]
   refine (log_it q1.dae q1.on hB2.forms q1.rows (by omega) a1).mono ?_
   rintro e' w' (⟨rfl,D2,p1,p2,p3,p4,p5,p6⟩ | ⟨rfl,p1,D2,p2,p3,p4,p5⟩)
   ·exact .inl ⟨rfl,D2,⟨Bk,p1,p2,by rw [p4,e],by rw [p5];exact q1.book,q1.run,q2,q3,fun c=>p3 (q4 c)⟩,p6⟩
   ·exact .inr ⟨rfl,D2,p2,⟨fun c=>p1 (q4 c),its[k],Bk,rfl,p3,by rw [p4];exact q1.book,q1.run,B2,a1⟩,p5⟩)
  (fun k hk X D' q hB2=>by
   obtain ⟨Bk,q1,q2,q3,q4,q5,q6,q7,q8⟩:=q
   have hd:its.drop k=its[k] :: its.drop (k + 1):=List.drop_eq_getElem_cons hk
   have ha:its[k]?=some its[k]:=zady hk
   rw [hd] at q7
   obtain ⟨B2,a1,a2⟩:=q7.head
   have e:L ++ its.take (k + 1)=(L ++ its.take k) ++ [its[k]]:=by rw [List.take_succ_eq_append_getElem hk,List.append_assoc]
   rw [ha]
   rw [← q4] at a1
   refine (zz8 q1 hB2 a1).mono ?_
   rintro e' w' ⟨rfl,M',p1,p2,p3⟩
   rw [q4] at a1
   exact ⟨rfl,_,⟨B2,⟨p1,q2,q3,p2,by rw [e];exact q5.snoc a1⟩,by rw [List.take_succ_eq_append_getElem hk];exact q6.snoc a1,a2,q8⟩,p3⟩)
  (w:=w) (D:=D) ⟨B,by rw [List.take_zero,List.append_nil];exact h,by rw [List.take_zero];exact .nil,by rw [List.drop_zero];exact hr,id⟩ hB hlb hCs (fun k hk=>by
   rw [zady hk]
   exact hCr k _ (zady hk)) hna
 refine K.mono ?_
 rintro e w' (⟨rfl,D',⟨Bk,q1,q2,q3,q4⟩,t⟩ | ⟨rfl,k,D',hk,q1,⟨q2,a,Bk,q3,q4,q5,q6,q7⟩,t⟩)
 ·rw [List.drop_length] at q3
  cases q3
  rw [List.take_length] at q1
  exact .inl ⟨rfl,D',q1,q4,t⟩
 ·subst q5
  exact .inr ⟨rfl,q2,D',k,a,q3,q1,q4,q6,q7,t⟩
end
section
open Sx (Ab DW Turns Did Foot)
theorem zyx {α:Type} (M:List (Int × α)) (i:Int) (a b:α):putA (putA M i a) i b=putA M i b:=by
 induction M with
 | nil=>simp [putA]
 | cons p M ih=>
  obtain ⟨k,x⟩:=p
  unfold putA
  by_cases h:i=k
  ·simp [h,putA]
  ·simp [h,putA,ih]
theorem zhh {B:List (Int × Sw)} {k:Int} (h:zch B k=0):getA B k=none∧B.length < 16:=by
 unfold zch at h
 split at h
 ·omega
 ·rename_i q
  split at h
  ·rename_i q2
   exact ⟨by cases hg:getA B k with | none=>rfl | some s=>rw [hg] at q;exact absurd rfl q,q2⟩
  ·omega
theorem zyy {B:List (Int × Sw)} {d:Dl} (h:za5 d=true) (hs:Small d.h.l) (hr:zch B d.i=0):Run B [.dl d] (putA B d.i (newS d)):=
 .cons (.dl h hs (zhh hr).1 (zhh hr).2) .nil
theorem zyz {B:List (Int × Sw)} {d:Dl} {s:Hs} (h:za5 d=true) (hs:Small d.h.l) (hr:zch B d.i=0) (hss:Small s.l) (hsum:sumH s.l=d.h):Run B [.dl d,.se d.i s] (putA B d.i (ze0 d s)):=by
 refine .cons (.dl h hs (zhh hr).1 (zhh hr).2) ?_
 have:=Run.cons (Adds.se (B:=putA B d.i (newS d)) (zlp h) hss (by rw [za7,if_pos rfl]) hsum) Run.nil
 rw [zyx] at this
 exact this
def zb9 (D:Dm) (B:List (Int × Sw)) (i peer:Int) (p g:Lg) (n:Cl):Int:=
 if errD (zbo D i peer p g n) ≠ 0 then errD (zbo D i peer p g n) else if p.a < D.t.least ∨ p.a > D.t.most then 22 else zch B i
attribute [local go_sem ↓] zad ebl1 ebl2 zuy zuz zx6 zu3
attribute [local go_sem] zaf zai zaj zal zab zah zae Ext.row Ext.soft_ zuw zux zl8 zl9
theorem Dae0.row_ {k:Bool} {w:World} {D:Dm} (h:Dae0 k w D) {b:Nat} (hb:¬ D.all b) (C:Array Value):Dae0 k (w.setRow b C) D:=
 h.keepB (fun i hi=>setRow_other _ _ _ _ fun e=>hb (e ▸ hi)) (by simp [World.setRow])
theorem On.row_ {w:World} {D:Dm} {L:List It} {B:List (Int × Sw)} (h:On w D L B) {b:Nat} (hb:¬ D.all b) (C:Array Value):On (w.setRow b C) D L B:=
 ⟨h.dae.keepB (fun i hi=>setRow_other _ _ _ _ fun e=>hb (e ▸ hi)) (by simp [World.setRow]),h.on,h.rows,h.book,h.run⟩
section
variable {w:World} {D:Dm} {n:Cl} {i peer:Int} {p g:Lg}
set_option maxHeartbeats 4000000 in
theorem zog {L:List It} {B:List (Int × Sw)} (hL:On w D L B) (hB:Base w D) (hT:TmK D.t) (hsl:D.seed.length ≤ 64) (hi:I64 i):
  Calls Tryz.prog 67 #[.pointer (some ⟨D.xb,0,none⟩),.int .i64 i,.int .i64 peer,.agg p.cells,.agg g.cells,.agg n.cells] w fun e w'=>
   (∃ k,k ≠ 0∧zb9 D B i peer p g n=k∧e=.returned (.tuple #[.agg Msg.zero.cells,.int .i64 k])∧Below w.heap.size w w') ∨
   (zb9 D B i peer p g n=0∧((e=.returned (.tuple #[.agg (zax (zbo D i peer p g n)).cells,.int .i64 0])∧zqe w D (L ++ [.dl (zbo D i peer p g n),.se i (secretH (D.seed ++ intI i))]) (putA B i (ze0 (zbo D i peer p g n) (secretH (D.seed ++ intI i)))) w') ∨
    (e=.returned (.tuple #[.agg Msg.zero.cells,.int .i64 9])∧KeptNo w D L [.dl (zbo D i peer p g n),.se i (secretH (D.seed ++ intI i))] w'))):=by
 unfold zb9 zbo
 have h:=hL.dae
 have H:=zadv h
 have HL:=zadv hL
 have HB:=zadv hB
 have HT:=zadv hT
 have HSL:=zadv hsl
 have HI:=zadv hi
 generalize hs:secretH (D.seed ++ intI i)=s at *
 generalize hd:zgf D.t ⟨i,1,p,g,sumH s.l,peer⟩ n=d at *
 generalize hc:errD d=ke at *
 generalize hpf:(if ke ≠ 0 then ke else if p.a < D.t.least ∨ p.a > D.t.most then 22 else zch B i)=pf
 have HPF:=zadv hpf
 have HS:=zadv hs
 have HD:=zadv hd
 have HC:=zadv hc
 clear h hL hB hT hsl hi hs hd hc hpf
 go_enter Tryz.func67,Tryz.ntmps67
 go_upto_region 1 with (fail)
 have bx:=Bxs.new4 w p.cells 30 g.cells 30 n.cells 52 Msg.zero.cells 118
 generalize (((w.alloc (.cells p.cells 30)).alloc (.cells g.cells 30)).alloc (.cells n.cells 52)).alloc (.cells Msg.zero.cells 118)=W at bx ⊢
 have SC:=zrw (H.out.below bx.below) (HB.out.trans (Trans.below bx.below)) HSL.out HI.out
 rw [HS.out] at SC
 have SC:=zadv SC
 have BX:=zadv bx
 clear bx
 go_wp2_with fail
 refine SC.out.mono ?_
 rintro _ W2 ⟨rfl,hb⟩
 have bx:=BX.out.step hb
 clear BX SC hb
 have BX:=zadv bx
 clear bx
 go_upto_region 2 with (fail)
 have LW:=zadv BX.out.below.size
 have L':=Bx.made W2 Hs.zero.cells s.cells 58
 generalize (W2.alloc (.cells Hs.zero.cells 58)).setRow W2.heap.size s.cells=W3 at L' ⊢
 have bx:=BX.out.step L'.below
 clear BX
 have rx0:=bx.row' 0 rfl
 have rx1:=bx.row' 1 rfl
 have rx2:=bx.row' 2 rfl
 have lt0:=bx.lt 0 rfl
 have lt1:=bx.lt 1 rfl
 have lt2:=bx.lt 2 rfl
 simp only [Nat.add_zero] at rx0 lt0
 have rs:=L'.rowOf
 have lts:=(zadu L'.row).1
 have D3:=H.out.below bx.below
 have B3:=HB.out.trans (Trans.below bx.below)
 have rD:=zaa D3.row
 unfold Dm.cells at rD
 have ltx:D.xb < W3.heap.size:=D3.lt (.inl rfl)
 have K1:∀ g:Ext W3,Calls Tryz.prog 106 #[.slice (some ⟨W2.heap.size,0,none⟩) 32 32] g.val (Ret (.agg (sumH s.l).cells) g.val):=fun g=>
  zb0 (zfv (B3.tabs.keep (zadw _) g.below) (Sl.keep (sl_in rs (zti s)) (zadw _) g.below) (by decide))
 have K1:=zadv K1
 have K2:∀ w:World,Calls Tryz.prog 105 #[.agg D.t.cells,.agg (Dl.cells ⟨i,1,p,g,sumH s.l,peer⟩),.agg n.cells] w (Ret (.agg d.cells) w):=fun w=>by
  have:=zb0 (zxz HT.out.tm ⟨i,1,p,g,sumH s.l,peer⟩ n w)
  rw [HD.out] at this
  exact this
 have K2:=zadv K2
 have BX:=zadv bx
 have LS:=zadv L'
 clear bx L' D3 B3
 (refine zay 14 13 (fun N=>.pointer (some ⟨N,0,none⟩)) (.cells Dl.zero.cells 60) (by kernel_rfl) (by kernel_rfl) ?_;simp only [List.take_succ_cons,List.take_zero,List.drop_succ_cons,List.drop_zero];(repeat (first | (refine grow_lay rfl (fun _=>rfl) (fun _ _=>(by simp [go_sem])) ?_;simp only [Act.put,List.setIfInBounds_toArray,List.set_cons_succ,List.set_cons_zero]) | (refine grow_step rfl (fun K hK=>?_);go_simp;(first | (refine hK _ ?_;clear hK K) | (apply Exists.intro;refine ⟨fun _=>?_,hK _ ?_⟩;((first | (go_at_call 106;exact K1.out _) | (go_at_call 105;exact K2.out _)));clear hK K)))));refine (fun N w' hN lN eN ⟨g3,he⟩=>?_);subst he;have rN:=zaa eN;have sN:=zan eN;clear eN)
 have bw:=Below.setRow_ g3.below hN d.cells
 have rd:rowOf (g3.val.setRow N d.cells) N=d.cells:=(zab _ _ _ _ sN).trans (if_pos rfl)
 have sd:soft (g3.val.setRow N d.cells) N=true:=(zah _ _ _ _).trans sN
 obtain ⟨td,htd⟩:=zfe sd
 rw [rd] at htd
 have ps:PSt w (g3.val.setRow N d.cells) p g n s d W2.heap.size N:=⟨BX.out.step bw,(bw.block _ (zadu LS.out.row).1).trans LS.out.row,⟨td,htd⟩,LW.out,Nat.le_trans LW.out (Nat.le_trans (Nat.le_of_lt (zadu LS.out.row).1) hN)⟩
 have PS:=zadv ps
 clear rx0 rx1 rx2 lt0 lt1 lt2 rs lts rD ltx K1 K2 BX LS bw sd htd ps
 go_frame
 go_upto_region 3 with (fail)
 generalize g3.val.setRow N d.cells=V at *
 clear hN rN sN
 have C:=zadv (zfb HC.out V)
 go_wp2_with fail
 refine C.out.mono ?_
 rintro _ V2 ⟨rfl,hb⟩
 have ps:=PS.out.step hb
 clear PS rd C hb
 have rp:=ps.bx.row' 0 rfl
 simp only [Nat.add_zero] at rp
 have rD:=zaa (H.out.below ps.bx.below).row
 unfold Dm.cells at rD
 have PS:=zadv ps
 clear ps
 by_cases hk0:ke=0
 case neg=>
  have k0:(ke == 0)=false:=beq_eq_false_iff_ne.2 hk0
  have rx3:=PS.out.bx.row' 3 rfl
  have sx3:=PS.out.bx.soft' 3 rfl
  have BB:=zadv PS.out.bx.below
  have hc:rowOf (World.setRow V2 (w.heap.size + 1 + 1 + 1) Msg.zero.cells) (w.heap.size + 1 + 1 + 1)=Msg.zero.cells:=(zab _ _ _ _ sx3).trans (if_pos rfl)
  have HC3:=zadv hc
  have HK0:=zadv hk0
  clear hc hk0
  go_wp2
  refine bodyPost_ret (zaq (t:=118) rfl Tryz.underlying118 rfl (by kernel_rfl) _ _ (w.heap.size + 1 + 1 + 1) rfl HC3.out (zc3 _)) rfl ?_
  exact .inl ⟨ke,HK0.out,by rw [← HPF.out,if_pos HK0.out],rfl,Below.setRow_ BB.out (Nat.le_add_right _ _) _⟩
 subst hk0
 go_upto_region 8 with (fail)
 rcases (show p.a < D.t.least ∨ (¬ p.a < D.t.least∧p.a > D.t.most) ∨ (¬ p.a < D.t.least∧¬ p.a > D.t.most) by omega) with q | ⟨q,q2⟩ | ⟨q,q2⟩
 case' inl=>have l1:(p.a < D.t.least)=True:=eq_true q;have HQ:=zadv (show p.a < D.t.least ∨ p.a > D.t.most from .inl q)
 case' inr.inl=>have l1:(p.a < D.t.least)=False:=eq_false q;have l2:(p.a > D.t.most)=True:=eq_true q2;have HQ:=zadv (show p.a < D.t.least ∨ p.a > D.t.most from .inr q2)
 case' inr.inr=>have l1:(p.a < D.t.least)=False:=eq_false q;have l2:(p.a > D.t.most)=False:=eq_false q2;have HQ:=zadv (show ¬ (p.a < D.t.least ∨ p.a > D.t.most) by omega)
 case inl=>
  clear q
  go_region
  have PS2:=zadv (PS.out.step (Below.refl _ V2).drew)
  clear rp rD PS l1
  generalize V2.drew=V3 at *
  have rx3:=PS2.out.bx.row' 3 rfl
  have sx3:=PS2.out.bx.soft' 3 rfl
  have BB:=zadv PS2.out.bx.below
  have hc:rowOf (World.setRow V3 (w.heap.size + 1 + 1 + 1) Msg.zero.cells) (w.heap.size + 1 + 1 + 1)=Msg.zero.cells:=(zab _ _ _ _ sx3).trans (if_pos rfl)
  have HC3:=zadv hc
  clear hc
  go_wp2
  refine bodyPost_ret (zaq (t:=118) rfl Tryz.underlying118 rfl (by kernel_rfl) _ _ (w.heap.size + 1 + 1 + 1) rfl HC3.out (zc3 _)) rfl ?_
  exact .inl ⟨22,by decide,by rw [← HPF.out,if_neg (by simp),if_pos HQ.out],rfl,Below.setRow_ BB.out (Nat.le_add_right _ _) _⟩
 case inr.inl=>
  clear q q2
  go_region
  have PS2:=zadv (PS.out.step (Below.refl _ V2).drew)
  clear rp rD PS l1 l2
  generalize V2.drew=V3 at *
  have rx3:=PS2.out.bx.row' 3 rfl
  have sx3:=PS2.out.bx.soft' 3 rfl
  have BB:=zadv PS2.out.bx.below
  have hc:rowOf (World.setRow V3 (w.heap.size + 1 + 1 + 1) Msg.zero.cells) (w.heap.size + 1 + 1 + 1)=Msg.zero.cells:=(zab _ _ _ _ sx3).trans (if_pos rfl)
  have HC3:=zadv hc
  clear hc
  go_wp2
  refine bodyPost_ret (zaq (t:=118) rfl Tryz.underlying118 rfl (by kernel_rfl) _ _ (w.heap.size + 1 + 1 + 1) rfl HC3.out (zc3 _)) rfl ?_
  exact .inl ⟨22,by decide,by rw [← HPF.out,if_neg (by simp),if_pos HQ.out],rfl,Below.setRow_ BB.out (Nat.le_add_right _ _) _⟩
 clear q q2
 go_region
 have PS2:=zadv (PS.out.step (Below.refl _ V2).drew)
 clear rp rD PS l1 l2
 generalize V2.drew=V3 at *
 have RM:=zqd (H.out.below PS2.out.bx.below) (by rw [HL.out.book];exact HL.out.fine) i
 rw [HL.out.book] at RM
 generalize hro:zch B i=ro at *
 have RM:=zadv RM
 have HRO:=zadv hro
 clear hro
 go_wp2_with fail
 refine RM.out.mono ?_
 rintro _ V4 ⟨rfl,hb⟩
 have PS:=zadv (PS2.out.step hb)
 clear RM hb PS2
 have rs:=zaa PS.out.rs
 have rd:=PS.out.d
 by_cases hr0:ro=0
 case neg=>
  have k0:(ro == 0)=false:=beq_eq_false_iff_ne.2 hr0
  have rx3:=PS.out.bx.row' 3 rfl
  have sx3:=PS.out.bx.soft' 3 rfl
  have BB:=zadv PS.out.bx.below
  have hc:rowOf (World.setRow V4 (w.heap.size + 1 + 1 + 1) Msg.zero.cells) (w.heap.size + 1 + 1 + 1)=Msg.zero.cells:=(zab _ _ _ _ sx3).trans (if_pos rfl)
  have HC3:=zadv hc
  have HK0:=zadv hr0
  clear hc hr0
  go_wp2
  refine bodyPost_ret (zaq (t:=118) rfl Tryz.underlying118 rfl (by kernel_rfl) _ _ (w.heap.size + 1 + 1 + 1) rfl HC3.out (zc3 _)) rfl ?_
  exact .inl ⟨ro,HK0.out,by rw [← HPF.out,if_neg (by simp),if_neg HQ.out],rfl,Below.setRow_ BB.out (Nat.le_add_right _ _) _⟩
 subst hr0
 have hdi:d.i=i:=by rw [← HD.out];exact (zip _ _ _).1
 have hdh:d.h=sumH s.l:=by rw [← HD.out];exact (zip _ _ _).2
 have hss:Small s.l:=by rw [← HS.out];exact zew _
 have hsd:Small d.h.l:=by rw [hdh];exact zew _
 have hrc:Rc.cells ⟨1,i,d,Hs.zero,0,0,Tv.zero⟩=(rcD d).cells:=by rw [← hdi];rfl
 have hpm:Msg.cells ⟨1,i,0,d.p,d.g,d.h⟩=(zax d).cells:=by rw [← hdi];rfl
 have HPM:=zadv hpm
 have HDI:=zadv hdi
 have hok:za5 d=true:=by
  have:=HC.out
  unfold errD at this
  cases hd:za5 d with
  | true=>rfl
  | false=>rw [hd] at this;simp at this
 have hb:=(Below.refl V4.heap.size V4).alloc (zadw _) (.cells ((rcD d).list ++ (rcS i s).list).toArray 162)
 have hbw:=PS.out.bx.below.trans (hb.mono PS.out.bx.below.size)
 have na:∀ j,w.heap.size ≤ j→¬ D.all j:=fun j hj q=>by have:=H.out.all_lt q;omega
 have KD:=zqf (w:=V4.alloc (.cells ((rcD d).list ++ (rcS i s).list).toArray 162)) (its:=[.dl d,.se i s]) (zadw 2) (HL.out.below hbw) (by rw [← hdi];exact zyz hok hsd (by rw [hdi];exact HRO.out) hss hdh.symm) (HB.out.trans (Trans.below hbw)) (C:=((rcD d).list ++ (rcS i s).list).toArray) (heap_alloc_new V4 _) (by simp [zrf]) (fun k a hk=>by
   match k,hk with
   | 0,hk=>cases hk;exact zbv [] (rcD d).list (rcS i s).list rfl (zrf _) rfl
   | 1,hk=>cases hk;exact zbv (rcD d).list (rcS i s).list [] (zrf _) (zrf _) (by simp)
   | k + 2,hk=>simp at hk) (na _ PS.out.bx.below.size)
 rw [hdi] at KD
 have KD:=zadv (show Calls Tryz.prog 109 #[.pointer (some ⟨D.xb,0,none⟩),.slice (some ⟨V4.heap.size,0,none⟩) 2 2] _ _ from KD)
 have HW:=zadv hbw
 have NA:=zadv na
 have PS5:=zadv (PS.out.step hb)
 clear hb hbw na hdi hdh hss hsd hok hpm PS
 go_upto_region 11 with (fail)
 go_wp2_with fail
 refine KD.out.mono ?_
 rintro _ Z (⟨rfl,D',q1,qc,q2⟩ | ⟨rfl,qc,D',k,a,q0,q1,q3,q4,q5,q2⟩)
 ·have bd:rowOf Z N=d.cells:=by
   obtain ⟨t,ht⟩:=PS5.out.rd
   exact zaa ((q2.keep _ (zadu ht).1 (NA.out _ PS5.out.lN)).1.trans ht)
  have h3:=PS5.out.bx.rows 3 _ _ rfl
  have b3:Z.heap[w.heap.size + 3]?=some (.cells Msg.zero.cells 118):=(q2.keep _ (zadu h3).1 (NA.out _ (Nat.le_add_right _ _))).1.trans h3
  have n3:=(q2.keep _ (zadu h3).1 (NA.out _ (Nat.le_add_right _ _))).2
  have rx3:=zaa b3
  have sx3:=zan b3
  have Q1:=zadv (zadx q1 qc)
  have Q2:=zadv ((Trans.below HW.out).trans q2)
  clear q1 q2 qc KD PS5 HW rs rd hrc h3 b3
  have hpm:=HPM.out
  have hc:rowOf (World.setRow Z (w.heap.size + 1 + 1 + 1) (zax d).cells) (w.heap.size + 1 + 1 + 1)=(zax d).cells:=(zab _ _ _ _ sx3).trans (if_pos rfl)
  have HC3:=zadv hc
  clear hc
  go_wp2_with fail
  refine bodyPost_ret (zaq (t:=118) rfl Tryz.underlying118 rfl (by kernel_rfl) _ _ (w.heap.size + 1 + 1 + 1) rfl HC3.out (zc3 _)) rfl ?_
  exact .inr ⟨by rw [← HPF.out,if_neg (by simp),if_neg HQ.out],.inl ⟨rfl,D',Q1.out.1.row_ n3 _,Q1.out.2,Q2.out.row (Nat.le_add_right _ _) _⟩⟩
 ·have h3:=PS5.out.bx.rows 3 _ _ rfl
  have b3:Z.heap[w.heap.size + 3]?=some (.cells Msg.zero.cells 118):=(q2.keep _ (zadu h3).1 (NA.out _ (Nat.le_add_right _ _))).1.trans h3
  have n3:=(q2.keep _ (zadu h3).1 (NA.out _ (Nat.le_add_right _ _))).2
  have rx3:=zaa b3
  have sx3:=zan b3
  have Q1:=zadv (zadx qc (zadx q0 (zadx q1 (zadx q3 (zadx q4 q5)))))
  have Q2:=zadv ((Trans.below HW.out).trans q2)
  clear q0 q1 q2 q3 q4 q5 qc KD PS5 HW rs rd hrc h3 b3
  have hc:rowOf (World.setRow Z (w.heap.size + 1 + 1 + 1) Msg.zero.cells) (w.heap.size + 1 + 1 + 1)=Msg.zero.cells:=(zab _ _ _ _ sx3).trans (if_pos rfl)
  have HC3:=zadv hc
  clear hc
  go_wp2_with fail
  refine bodyPost_ret (zaq (t:=118) rfl Tryz.underlying118 rfl (by kernel_rfl) _ _ (w.heap.size + 1 + 1 + 1) rfl HC3.out (zc3 _)) rfl ?_
  obtain ⟨qc,q0,q1,q3,q4,q5⟩:=Q1.out
  exact .inr ⟨by rw [← HPF.out,if_neg (by simp),if_neg HQ.out],.inr ⟨rfl,qc,D',k,a,q0,q1.row_ n3 _,q3,q4,q5,Q2.out.row (Nat.le_add_right _ _) _⟩⟩
end
end
end Go.Proofs.YthjgiamfaijoeaaGreatDoor
