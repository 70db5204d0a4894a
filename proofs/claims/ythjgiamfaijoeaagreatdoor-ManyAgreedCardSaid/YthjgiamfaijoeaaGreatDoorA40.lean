/- What is proved: parts of the walk and of the plain law. No condition but those each law names. -/
import Derived.Test.YthjgiamfaijoeaaGreatDoorA39
import Derived.Test.YthjgiamfaijoeaaGreatDoorA31
import Derived.Test.YthjgiamfaijoeaaGreatDoorA34
import Derived.Test.YthjgiamfaijoeaaGreatDoorA32
import Derived.Test.YthjgiamfaijoeaaGreatDoorA00
set_option linter.unusedSimpArgs false
set_option linter.unusedVariables false
namespace Go.Proofs.YthjgiamfaijoeaaGreatDoor
open Go.RowKit
open Sx (Ab DW Turns Did Foot)
set_option maxRecDepth 100000
attribute [local go_sem ↓] zad
attribute [local go_sem] zaf zai zaj zal zab zah zac zak zae dm_t zka
set_option maxHeartbeats 1000000 in
theorem zn6 {w:World} {D:Dm} (h:Dae w D) (hf:Forms w) {r:Rc} {L:List Nat} (hput:∀ w,Forms w→Calls Tryz.prog 233 #[.agg r.cells] w (zfo L w)) (hs:Small L) (hl:L.length < 1000000) {k:Int} (hE:appE D.A D.j 1 L=k) (k8:(k != 8)=true) {R':List (Int × List Nat)}:
  Calls Tryz.prog 173 #[.pointer (some ⟨D.xb,0,none⟩),.agg r.cells] w fun e w'=>e=.returned (.int .i64 k)∧∃ F',Dae0 false w' { D with F:=F',A:=appA D.A D.j 1 L,j:=appJ D.A D.j 1 L,R:=R',cal:=false }∧Trans w D w' { D with F:=F',A:=appA D.A D.j 1 L,j:=appJ D.A D.j 1 L,R:=R',cal:=false }:=by
 have H:=zac8 h
 have HF:=zac8 hf
 have HP:=zac8 hput
 have HO:=zac8 (And.intro hs (And.intro hl hE))
 clear h hf hput hs hl hE
 go_enter Tryz.func173,Tryz.ntmps173
 go_upto_region 1 with (fail)
 have bx:=Bx.new w (r.cells) 162;generalize w.alloc (.cells (r.cells) 162)=W at bx ⊢;have rx:=bx.rowOf;have sx:=bx.soft;have BX:=zac8 bx;clear bx
 have P:=zac8 (HP.out W (HF.out.keep (zac9 _) BX.out.below))
 go_wp2_with fail
 refine P.out.mono ?_
 rintro _ V ⟨ao,c,rfl,hb,ho⟩
 have hbw:Below w.heap.size w V:=BX.out.below.trans (hb.mono BX.out.below.size)
 have h2:=H.out.below hbw
 have r0:=zaa h2.row
 unfold Dm.cells at r0
 have ap:zz3 V D.F D.jb ao:=fun k o e=>by
  subst e
  have h1:=ho.lt k rfl
  refine ⟨h1.2,fun e=>?_,fun x hx=>?_⟩
  ·have:=H.out.jd.lt
   have:=BX.out.below.size
   omega
  ·have:=H.out.jd.dw.lt hx
   have:=BX.out.below.size
   omega
 have K:=zqj h2.jd h2.hold.half.okJ 1 (Sl.own ho) HO.out.1 (by have:=HO.out.2.1;omega) ap
 rw [HO.out.2.2] at K
 have K:=zac8 K
 have HB:=zac8 hbw
 have H2:=zac8 h2
 clear hb ho hbw h2 ap P rx sx BX
 go_wp2_with fail
 refine K.out.mono ?_
 rintro _ V2 ⟨rfl,F',q1,q2⟩
 have Q1:=zac8 (H2.out.d0.went (R':=R') (c:=false) q1 q2)
 have Q2:=zac8 ((Trans.below HB.out).trans (Trans.went' (A':=appA D.A D.j 1 L) (j':=appJ D.A D.j 1 L) (R':=R') (c:=false) q2))
 clear K q1 q2 r0
 go_wp2
 go_ret
 exact ⟨rfl,F',Q1.out,Q2.out⟩
theorem zu7 {B B':List (Int × Sw)} {a:It} (ha:Adds B a B') (w:World) (hf:Forms w):Calls Tryz.prog 233 #[.agg a.rc.cells] w (zfo a.row.2 w):=by
 cases ha with
 | dl h1=>exact Put_D hf h1
 | se h1=>exact Put_S hf h1
theorem zkg (a:It):a.row=(1,a.row.2):=by cases a <;> rfl
structure Fell (D:Dm) (L:List It) (a:It):Prop where
 back:∃ T,Back D.A T (zbc L) (zbc (L ++ [a]))
 sm:Ab.Sm D.A
theorem log_it {w:World} {D:Dm} (h:Dae w D) (hon:D.A.off=false) (hf:Forms w) {L:List It} (hR:D.R=zbc L) (hfit:(secL (zbc L)).length ≤ 200) {B B':List (Int × Sw)} {a:It} (ha:Adds B a B'):
  Calls Tryz.prog 173 #[.pointer (some ⟨D.xb,0,none⟩),.agg a.rc.cells] w fun e w'=>
   (e=.returned (.int .i64 0)∧∃ D',Dae w' D'∧D'.A.off=false∧(Calm D.A→Calm D'.A)∧D'.R=zbc (L ++ [a])∧D'.M=D.M∧Trans w D w' D') ∨
   (e=.returned (.int .i64 9)∧¬ Calm D.A∧∃ D',Dae0 false w' D'∧Fell D' L a∧D'.M=D.M∧Trans w D w' D'):=by
 obtain ⟨ok,_⟩:=It.ok ha
 have hlen:npc (rowF a.row) ≤ 4:=zy1 ok
 have hok:zd3 (1,a.row.2):=by rw [← zkg];exact ok
 have hfit2:(secL D.R).length + npc (rowF (1,a.row.2)) ≤ 255:=by rw [← zkg,hR];omega
 have eR:zbc (L ++ [a])=D.R ++ [(1,a.row.2)]:=by rw [znw,← hR,← zkg]
 have hl:a.row.2.length < 1000000:=by have:=ok.2.2.1;omega
 by_cases hc:Calm D.A
 ·obtain ⟨h1,h2,h3,h4⟩:=h.hold.append hc hok hfit2
  refine (zn6 h hf (zu7 ha) ok.2.2.2 hl h1 (by decide) (R':=D.R ++ [(1,a.row.2)])).mono ?_
  rintro e w' ⟨he,F',d,t⟩
  exact .inl ⟨he,_,d.dae h2 fun e=>(by cases e),h3.on,fun _=>h3,eR.symm,rfl,t⟩
 ·rcases h.hold.append_back hon hok hfit2 with ⟨h1,h2,h3,_⟩ | ⟨h1,h2,h3,h4,h5⟩
  ·refine (zn6 h hf (zu7 ha) ok.2.2.2 hl h1 (by decide) (R':=D.R ++ [(1,a.row.2)])).mono ?_
   rintro e w' ⟨he,F',d,t⟩
   exact .inl ⟨he,_,d.dae h2 fun e=>(by cases e),h3,fun q=>absurd q hc,eR.symm,rfl,t⟩
  ·refine (zn6 h hf (zu7 ha) ok.2.2.2 hl h1 (by decide) (R':=D.R)).mono ?_
   rintro e w' ⟨he,F',d,t⟩
   refine .inr ⟨he,hc,_,d,⟨⟨D.j.turn + 1,?_⟩,h5⟩,rfl,t⟩
   rw [eR,← hR]
   exact h4
theorem zzn {w:World} {D:Dm} (h:Dae w D) (hB:Base w D) {B':List (Int × Sw)} {a:It} (ha:Adds (bkOf D.M) a B'):
  Calls Tryz.prog 114 #[.pointer (some ⟨D.bk,0,none⟩),.agg a.rc.cells] w fun e w'=>e=.returned (.int .i64 0)∧∃ M',Dae w' { D with M:=M' }∧bkOf M'=B'∧Trans w D w' { D with M:=M' }:=by
 cases ha with
 | dl h1 h2 h3 h4=>
  rename_i d
  refine (zabq h.bok h1 (zl2 h3) (by rw [← zkb];exact h4)).mono ?_
  rintro e w' ⟨rfl,be,bm,q1,q2,q3,q4⟩
  have hM:∀ i,zc5 D.bk D.mb (putA D.M d.i ⟨be,bm,⟨d,1,false,Hs.zero⟩⟩) i 0→zc5 D.bk D.mb D.M i 0 ∨ w.heap.size ≤ i:=fun i hi=>by
   rcases zuc hi with h1 | rfl | rfl
   ·exact .inl h1
   ·exact .inr q3
   ·exact .inr q4
  exact ⟨rfl,_,h.booked q1 q2 (.inr (.inl rfl)) hM,zpf _ _ _,Trans.booked q2 (.inr (.inl rfl)) hM⟩
 | se h1 h2 h3 h4=>
  rename_i i s d
  obtain ⟨be,bm,hg⟩:=zeg h3
  refine (zabr hB.tabs h.bok h1 hg (s:=s) rfl h4).mono ?_
  rintro e w' ⟨rfl,q1,q2⟩
  have hin:zc5 D.bk D.mb D.M be 0:=.inr (.inr ⟨_,zca hg,.inl rfl⟩)
  have hin2:zc5 D.bk D.mb D.M bm 0:=.inr (.inr ⟨_,zca hg,.inr rfl⟩)
  have hMM:∀ j,zc5 D.bk D.mb (putA D.M i ⟨be,bm,⟨d,1,true,s⟩⟩) j 0→zc5 D.bk D.mb D.M j 0 ∨ w.heap.size ≤ j:=fun j hj=>by
   rcases zuc hj with h1 | rfl | rfl
   ·exact .inl h1
   ·exact .inl hin
   ·exact .inl hin2
  exact ⟨rfl,_,h.booked q1 q2 hin hMM,zpf _ _ _,Trans.booked q2 hin hMM⟩
structure On (w:World) (D:Dm) (L:List It) (B:List (Int × Sw)):Prop where
 dae:Dae w D
 on:D.A.off=false
 rows:D.R=zbc L
 book:bkOf D.M=B
 run:Run [] L B
theorem On.below {w w':World} {D:Dm} {L:List It} {B:List (Int × Sw)} (h:On w D L B) (hb:Below w.heap.size w w'):On w' D L B:=⟨h.dae.below hb,h.on,h.rows,h.book,h.run⟩
theorem On.fine {w:World} {D:Dm} {L:List It} {B:List (Int × Sw)} (h:On w D L B):Fine B:=Fine.nil.run h.run
def zch (B:List (Int × Sw)) (k:Int):Int:=if (getA B k).isSome then 13 else if B.length < 16 then 0 else 3
set_option maxHeartbeats 1000000 in
theorem zpz {w:World} {D:Dm} (h:Dae w D) (hF:Fine (bkOf D.M)) (k:Int):Calls Tryz.prog 108 #[.pointer (some ⟨D.xb,0,none⟩),.int .i64 k] w fun e w'=>e=.returned (.int .i64 (zch (bkOf D.M) k))∧Below w.heap.size w w':=by
 cases hg:getA (bkOf D.M) k with
 | some s=>
  obtain ⟨b,m,hq⟩:=zeg hg
  have e:zch (bkOf D.M) k=13:=by unfold zch;rw [hg];rfl
  rw [e]
  exact zq8 h hq
 | none=>
  obtain ⟨hl,hi⟩:=hF.book
  have e:zch (bkOf D.M) k=if D.M.length < 16 then 0 else 3:=by unfold zch;rw [hg,zkb];rfl
  rw [e]
  generalize hre:(if D.M.length < 16 then (0:Int) else 3)=re
  have HRE:=zac8 hre
  clear hre
  have hM:=zl2 hg
  have r0:=zaa h.row
  have S:=zg7 h.bok k
  have hb:=h.bok
  have hx:=(zac7 h.row).1
  rw [hM] at S
  have S:Calls Tryz.prog 62 #[.pointer (some ⟨D.bk,0,none⟩),.int .i64 k] w fun e w'=>e=.returned (.tuple #[.agg Sw.zero.cells,.bool false])∧Below w.heap.size w w':=S
  have S:=zac8 S
  have HK:=zac8 hb
  have HR:=zac8 h.row
  have HX:=zac8 hx
  have HL:=zac8 (And.intro hl hi)
  unfold Dm.cells at r0 HR
  clear hM hb h hx hF hg e hl hi
  go_enter Tryz.func108,Tryz.ntmps108
  go_wp2_with fail
  refine S.out.mono ?_
  rintro _ W ⟨rfl,hb⟩
  have HB:=zac8 hb
  clear r0 S hb
  go_upto_region 2 with (fail)
  have B2:=zac8 (HB.out.trans ((Bx.made W Sw.zero.cells Sw.zero.cells 62).below.mono HB.out.size))
  generalize (W.alloc (.cells Sw.zero.cells 62)).setRow W.heap.size Sw.zero.cells=V at B2 ⊢
  have r1:=zaa ((B2.out.block _ HX.out).trans HR.out)
  have K:=zac8 (zuk (HK.out.below B2.out) HL.out.1 HL.out.2)
  clear HB
  go_wp2_with fail
  refine K.out.mono ?_
  rintro _ X ⟨v,ss,rfl,hp,ho,_,hb⟩
  obtain ⟨va,vc,rfl⟩:=za7 ho
  have hn:ss.length=D.M.length:=by rw [hp.length_eq,List.length_map]
  have lm:(ss.mergeSort leI').length=ss.length:=List.length_mergeSort ss
  have B3:=zac8 (B2.out.trans (hb.mono B2.out.size))
  clear hb ho hp K r1
  rw [hn]
  clear lm hn
  by_cases hlt:D.M.length < 16
  ·have i1:((D.M.length:Int) ≥ 16)=False:=eq_false (by omega)
   obtain rfl:re=0:=by rw [← HRE.out,if_pos hlt]
   clear hlt
   go_wp2
   go_ret
   exact ⟨rfl,B3.out⟩
  ·have i1:((D.M.length:Int) ≥ 16)=True:=eq_true (by omega)
   obtain rfl:re=3:=by rw [← HRE.out,if_neg hlt]
   clear hlt
   go_wp2
   go_ret
   exact ⟨rfl,B3.out⟩
end Go.Proofs.YthjgiamfaijoeaaGreatDoor
namespace Go.Proofs.YthjgiamfaijoeaaGreatDoor
open Go.RowKit
open Sx (Ab DW Turns Did Foot)
set_option maxRecDepth 100000
theorem zrn {w:World} {xb b0 b1:Nat} {C:Array Value} {t:TypeId} (h0:w.cell? ⟨b0,0,none⟩=some (.pointer (some ⟨xb,0,none⟩))) (h1:w.cell? ⟨b1,0,none⟩=some (.int .i64 9)) (hx:w.heap[xb]?=some (.cells C t)) (hc:C[12]?=some (.bool false)):
  CallsD Tryz.prog 172 #[.pointer (some ⟨b0,0,none⟩),.pointer (some ⟨b1,0,none⟩)] .returning w fun e u' w'=>u'=.returning∧(∃ v,e=.returned v)∧w'=(w.setCell ⟨xb,12,none⟩ (.bool true)).drew:=by
 have c12:w.cell? ⟨xb,12,none⟩=some (.bool false):=by simp [World.cell?,hx,hc]
 have f12:w.frozen? ⟨xb,12,none⟩=false:=by simp [World.frozen?,hx]
 refine callsD_of_wp Tryz.func172 rfl ?_
 simp only [Tryz.ntmps172,List.size_toArray,List.length_cons,List.length_nil,Nat.reduceAdd,Nat.reduceSub,Array.replicate_succ,Array.replicate_zero,List.push_toArray,List.append_toArray,List.nil_append,List.cons_append]
 clear hc
 go_region
 go_end0
 exact ⟨⟨_,rfl⟩,rfl⟩
attribute [local go_sem ↓] zad
attribute [local go_sem] zaf zai zaj zal zab zah zac zak zae
theorem Trans.kill {w:World} {D:Dm} (v:Value):Trans w D (w.setCell ⟨D.xb,12,none⟩ v) D:=
 ⟨rfl,rfl,rfl,by simp [World.setCell],fun i _ hn=>⟨by rw [zag,if_neg (fun e:D.xb=i=>hn (e ▸ .inl (.inl rfl)))],hn⟩,rfl,rfl,rfl,rfl,rfl⟩
set_option maxHeartbeats 4000000 in
theorem zx7 {n:Nat} (hn:n ≤ 2) {rs:Nat→Rc} {S S':Nat→World→Dm→Prop} {Q:Nat→Dm→Prop} (hS:∀ k w D,S k w D→Dae w D) (hS':∀ k w D,S' k w D→Dae w D) (hl:∀ k w w' D,S k w D→Below w.heap.size w w'→S k w' D) (hl':∀ k w w' D,S' k w D→Below w.heap.size w w'→S' k w' D)
  (hlog:∀ k,k < n→∀ w D,S k w D→Base w D→Calls Tryz.prog 173 #[.pointer (some ⟨D.xb,0,none⟩),.agg (rs k).cells] w fun e w'=>(e=.returned (.int .i64 0)∧∃ D',S' k w' D'∧Trans w D w' D') ∨ (e=.returned (.int .i64 9)∧∃ D',Dae0 false w' D'∧Q k D'∧Trans w D w' D'))
  (happ:∀ k,k < n→∀ w D,S' k w D→Base w D→Calls Tryz.prog 114 #[.pointer (some ⟨D.bk,0,none⟩),.agg (rs k).cells] w fun e w'=>e=.returned (.int .i64 0)∧∃ D',S (k + 1) w' D'∧Trans w D w' D')
  {w:World} {D:Dm} (h:S 0 w D) (hB:Base w D) {lb:Nat} {C:Array Value} (hlb:w.heap[lb]?=some (.cells C 162)) (hCs:C.size=80 * n) (hCr:∀ k,k < n→sub C (k * 80) 80=(rs k).cells) (hna:¬ D.all lb):
  Calls Tryz.prog 109 #[.pointer (some ⟨D.xb,0,none⟩),.slice (some ⟨lb,0,none⟩) n n] w fun e w'=>(e=.returned (.int .i64 0)∧∃ D',S n w' D'∧Trans w D w' D') ∨ (e=.returned (.int .i64 9)∧∃ k D',k < n∧Dae0 true w' D'∧Q k D'∧Trans w D w' D'):=by
 obtain ⟨w1,hw1⟩:∃ w1,w1=(w.alloc (.cells #[.pointer (some ⟨D.xb,0,none⟩)] 79)).alloc (.cells #[.int .i64 0] 38):=⟨_,rfl⟩
 have bx:Bxs w [(#[.pointer (some ⟨D.xb,0,none⟩)],79),(#[.int .i64 0],38)] w1:=by rw [hw1];exact Bxs.new2 w _ _ _ _
 have hst:=hl 0 w w1 D h bx.below
 have hT0:Trans w D w1 D:=Trans.below bx.below
 have hBa:=hB.trans hT0
 have D0:=hS 0 w D h
 have na0:¬ D.all w.heap.size:=fun q=>absurd (D0.all_lt q) (Nat.lt_irrefl _)
 have na1:¬ D.all (w.heap.size + 1):=fun q=>by have:=D0.all_lt q;omega
 have lt0:=bx.lt 0 rfl
 have lt1:=bx.lt 1 rfl
 have x0:w1.heap[w.heap.size]?=some (.cells #[.pointer (some ⟨D.xb,0,none⟩)] 79):=bx.rows 0 _ _ rfl
 have x1:w1.heap[w.heap.size + 1]?=some (.cells #[.int .i64 0] 38):=bx.rows 1 _ _ rfl
 have xl:w1.heap[lb]?=some (.cells C 162):=(bx.below.block lb (zac7 hlb).1).trans hlb
 simp only [Nat.add_zero] at lt0
 have K:=zac8 (And.intro x0 (And.intro x1 (And.intro xl (And.intro na0 (And.intro na1 hna)))))
 have KL:=zac8 (And.intro lt0 (And.intro lt1 (zac7 xl).1))
 have HT0:=zac8 hT0
 have HST:=zac8 hst
 have HBA:=zac8 hBa
 have HW:=zac8 hw1
 clear h hB hlb bx hst hT0 hBa D0 na0 na1 lt0 lt1 x0 x1 xl hna hw1
 go_enter_defers Tryz.func109,Tryz.ntmps109
 go_upto_region 3 with (fail)
 rw [← HW.out]
 go_loopw [10] (fun i wr=>∃ (k:Nat) (D':Dm),k ≤ n∧i=.int .i64 k∧S k wr D'∧Trans w1 D wr D') (fun i _=>n - (intOf i).toNat)
 case atStart=>exact ⟨0,D,Nat.zero_le _,rfl,HST.out,(Trans.below (Below.refl _ _))⟩
 case round=>
  obtain ⟨k,D',hk,rfl,hs,ht⟩:=hrel
  have HBA':=zac8 (HBA.out.trans ht)
  have r0:=zaa ((ht.keep _ KL.out.1 K.out.2.2.2.1).1.trans K.out.1)
  have x1:=(ht.keep _ KL.out.2.1 K.out.2.2.2.2.1).1.trans K.out.2.1
  have r1:=zaa x1
  have s1:=zan x1
  have rl:=zaa ((ht.keep _ KL.out.2.2 K.out.2.2.2.2.2).1.trans K.out.2.2.1)
  have HS:=zac8 hs
  have HT:=zac8 ht
  have ed:D.xb=D'.xb:=ht.xb.symm
  have ED:=zac8 ed
  clear x1 hs ht
  by_cases hlt:k < n
  ·have i1:(k:Int) < n:=by omega
   have i2:k * 80 + 80 ≤ C.size:=by rw [hCs];omega
   have i3:=hCr k hlt
   clear hCs
   go_upto_region 5 with (fail)
   have L:=Bx.made wr Rc.zero.cells (rs k).cells 162
   generalize (wr.alloc (.cells Rc.zero.cells 162)).setRow wr.heap.size (rs k).cells=V1 at L ⊢
   have nb0:=(HT.out.keep _ KL.out.1 K.out.2.2.2.1).2
   have nb1:=(HT.out.keep _ KL.out.2.1 K.out.2.2.2.2.1).2
   have dae:=hS k wr D' HS.out
   have nb2:¬ D'.all wr.heap.size:=fun q=>absurd (dae.all_lt q) (Nat.lt_irrefl _)
   have T1:Trans w1 D V1 D':=HT.out.trans (Trans.below L.below)
   have S1:=hl k wr V1 D' HS.out L.below
   have LG:=hlog k hlt V1 D' S1 (HBA'.out.trans (Trans.below L.below))
   rw [← ed] at LG
   have LG:=zac8 LG
   clear ed
   have e0:=(T1.keep _ KL.out.1 K.out.2.2.2.1).1.trans K.out.1
   have e1:=(T1.keep _ KL.out.2.1 K.out.2.2.2.2.1).1.trans K.out.2.1
   have l0:w.heap.size < V1.heap.size:=Nat.lt_of_lt_of_le KL.out.1 T1.size
   have l1:w.heap.size + 1 < V1.heap.size:=Nat.lt_of_lt_of_le KL.out.2.1 T1.size
   have l2:wr.heap.size < V1.heap.size:=(zac7 L.row).1
   clear r0 r1 s1 rl i2 i3
   have r0:=zaa e0
   have rb:=zaa L.row
   have HX:=zac8 (And.intro e0 (And.intro e1 (And.intro L.row (And.intro nb0 (And.intro nb1 (And.intro nb2 (And.intro l0 (And.intro l1 l2))))))))
   have HT1:=zac8 T1
   have HBV:=zac8 (HBA'.out.trans (Trans.below L.below))
   clear e0 e1 nb0 nb1 nb2 l0 l1 l2 T1 S1 L dae
   go_wp2_with fail
   refine LG.out.mono ?_
   rintro _ V2 (⟨rfl,D2,s2,t2⟩ | ⟨rfl,D2,hh,hq,t2⟩)
   ·have e0:=(t2.keep _ HX.out.2.2.2.2.2.2.1 HX.out.2.2.2.1).1.trans HX.out.1
    have e1:=(t2.keep _ HX.out.2.2.2.2.2.2.2.1 HX.out.2.2.2.2.1).1.trans HX.out.2.1
    have e2:=(t2.keep _ HX.out.2.2.2.2.2.2.2.2 HX.out.2.2.2.2.2.1).1.trans HX.out.2.2.1
    have nb0:=(t2.keep _ HX.out.2.2.2.2.2.2.1 HX.out.2.2.2.1).2
    have nb1:=(t2.keep _ HX.out.2.2.2.2.2.2.2.1 HX.out.2.2.2.2.1).2
    have nb2:=(t2.keep _ HX.out.2.2.2.2.2.2.2.2 HX.out.2.2.2.2.2.1).2
    clear r0 rb LG
    have r1:=zaa e1
    have s1:=zan e1
    have hb3:=zew (k:=0) (v:=.int .i64 0) e1 rfl
    have S2:=zac8 s2
    have T2:=zac8 t2
    have B3:=zac8 hb3
    have HY:=zac8 (And.intro e0 (And.intro e1 (And.intro e2 (And.intro nb0 (And.intro nb1 nb2)))))
    clear e0 e1 e2 nb0 nb1 nb2 s2 t2 hb3
    go_upto_region 7 with (fail)
    generalize V2.setCell ⟨w.heap.size + 1,0,none⟩ (.int .i64 0)=V3 at B3 ⊢
    have bd:Below V2.heap.size V2 V3.drew:=B3.out.drew
    have S3:=hl' k V2 V3.drew D2 S2.out bd
    have T3:=T2.out.trans (Trans.below bd)
    have AP:=zac8 (happ k hlt V3.drew D2 S3 (HBV.out.trans T3))
    have e0:=(bd.block _ (zac7 HY.out.1).1).trans HY.out.1
    have e1:=(bd.block _ (zac7 HY.out.2.1).1).trans HY.out.2.1
    have e2:=(bd.block _ (zac7 HY.out.2.2.1).1).trans HY.out.2.2.1
    have r0:rowOf V3 w.heap.size=_:=zaa e0
    have rb:rowOf V3 wr.heap.size=_:=zaa e2
    have rx:=zaa (hS' k V3.drew D2 S3).row
    unfold Dm.cells at rx
    have rx:rowOf V3 D2.xb=_:=rx
    rw [show D2.xb=D.xb from T2.out.xb.trans ED.out.symm] at rx
    have HZ:=zac8 (And.intro e1 (And.intro (zac7 e1).1 HY.out.2.2.2.2.1))
    have HT3:=zac8 T3
    clear e0 e1 e2 S3 T3 r1 s1 bd
    (refine wp_region_still_tail 5 (by kernel_rfl) (by kernel_rfl) ?_;simp only [List.take_succ_cons,List.take_zero,List.drop_succ_cons,List.drop_zero];(iterate 5 still_step);refine wpStill_nil ?_)
    refine (show wpList Tryz.prog _ _ _ _ V3.drew from ?_)
    generalize V3.drew=V4 at *
    clear r0 rb rx S2 T2 HY B3
    go_wp2_with fail
    refine AP.out.mono ?_
    rintro _ V5 ⟨rfl,D3,s3,t3⟩
    have e1:=(t3.keep _ HZ.out.2.1 HZ.out.2.2).1.trans HZ.out.1
    have r1:=zaa e1
    have s1:=zan e1
    have hb3:=zew (k:=0) (v:=.int .i64 0) e1 rfl
    have S3:=zac8 (hl (k + 1) _ _ _ s3 hb3)
    have T3:=zac8 (((HT1.out.trans HT3.out).trans t3).trans (Trans.below hb3))
    clear AP e1 s3 t3 hb3 HBV
    go_wp2_with fail
    refine ⟨⟨k + 1,D3,hlt,rfl,S3.out,T3.out⟩,?_⟩
    show n - ((k:Int) + 1).toNat < n - (k:Int).toNat
    omega
   ·have e0:=(t2.keep _ HX.out.2.2.2.2.2.2.1 HX.out.2.2.2.1).1.trans HX.out.1
    have e1:=(t2.keep _ HX.out.2.2.2.2.2.2.2.1 HX.out.2.2.2.2.1).1.trans HX.out.2.1
    have nb0:=(t2.keep _ HX.out.2.2.2.2.2.2.1 HX.out.2.2.2.1).2
    have nb1:=(t2.keep _ HX.out.2.2.2.2.2.2.2.1 HX.out.2.2.2.2.1).2
    clear r0 rb LG
    have r1:=zaa e1
    have s1:=zan e1
    have Z:=zac8 (And.intro hh (And.intro hq (And.intro (HT0.out.trans (HT1.out.trans t2)) (And.intro e0 (And.intro e1 (And.intro nb0 nb1))))))
    have EX:D2.xb=D.xb:=t2.xb.trans ED.out.symm
    have EX:=zac8 EX
    clear hh hq t2 e0 e1 nb0 nb1
    go_wp2_with fail
    obtain ⟨hh,hq,tt,e0,e1,d0,d1⟩:=Z.out
    have ex:=EX.out
    have ne1:D.xb ≠ w.heap.size + 1:=fun e=>d1 (.inl (.inl (e.symm.trans ex.symm)))
    have hk:∀ i,i ≠ w.heap.size + 1→((V2.setCell ⟨w.heap.size + 1,0,none⟩ (.int .i64 9)).setCell ⟨w.heap.size + 1,0,none⟩ (.int .i64 9)).heap[i]?=V2.heap[i]?:=fun i hi=>by
     rw [zag,if_neg (Ne.symm hi),zag,if_neg (Ne.symm hi)]
    have f1:((V2.setCell ⟨w.heap.size + 1,0,none⟩ (.int .i64 9)).setCell ⟨w.heap.size + 1,0,none⟩ (.int .i64 9)).heap[w.heap.size + 1]?=some (.cells #[.int .i64 9] 38):=by
     rw [zag,if_pos rfl,zag,if_pos rfl,e1]
     rfl
    have zs:((V2.setCell ⟨w.heap.size + 1,0,none⟩ (.int .i64 9)).setCell ⟨w.heap.size + 1,0,none⟩ (.int .i64 9)).heap.size=V2.heap.size:=by simp [World.setCell]
    have os3:((V2.setCell ⟨w.heap.size + 1,0,none⟩ (.int .i64 9)).setCell ⟨w.heap.size + 1,0,none⟩ (.int .i64 9)).os=V2.os∧((V2.setCell ⟨w.heap.size + 1,0,none⟩ (.int .i64 9)).setCell ⟨w.heap.size + 1,0,none⟩ (.int .i64 9)).tape=V2.tape∧((V2.setCell ⟨w.heap.size + 1,0,none⟩ (.int .i64 9)).setCell ⟨w.heap.size + 1,0,none⟩ (.int .i64 9)).output=V2.output:=⟨rfl,rfl,rfl⟩
    generalize (V2.setCell ⟨w.heap.size + 1,0,none⟩ (.int .i64 9)).setCell ⟨w.heap.size + 1,0,none⟩ (.int .i64 9)=V at *
    have f0:=(hk w.heap.size (by omega)).trans e0
    have h3:Dae0 false V D2:=hh.keepB (fun i hi=>hk i fun e=>d1 (e ▸ hi)) (Nat.le_of_eq zs.symm)
    have t3:Trans w D V D2:=⟨os3.1.trans tt.os,os3.2.1.trans tt.tape,os3.2.2.trans tt.output,Nat.le_trans tt.size (Nat.le_of_eq zs.symm),fun i hi hn=>⟨(hk i (by omega)).trans (tt.keep i hi hn).1,(tt.keep i hi hn).2⟩,tt.xb,tt.bk,tt.t,tt.seed,tt.dv⟩
    have hx:=h3.row
    rw [ex] at hx
    refine leaves_cons (f:=172) (args:=#[.pointer (some ⟨w.heap.size,0,none⟩),.pointer (some ⟨w.heap.size + 1,0,none⟩)]) (by simp) (by simp [go_sem]) ?_
    refine (zrn (xb:=D.xb) (C:=dmC D2.t D2.sv D2.jb D2.bk false) (by rw [zad,zaa f0];rfl) (by rw [zad,zaa f1];rfl) hx rfl).mono ?_
    rintro e u' w'' ⟨rfl,⟨v,rfl⟩,rfl⟩
    have g1:rowOf (V.setCell ⟨D.xb,12,none⟩ (.bool true)).drew (w.heap.size + 1)=#[.int .i64 9]:=zaa (by
     show (V.setCell ⟨D.xb,12,none⟩ (.bool true)).heap[w.heap.size + 1]?=_
     rw [zag,if_neg ne1]
     exact f1)
    have bd:=(Below.refl (V.setCell ⟨D.xb,12,none⟩ (.bool true)).heap.size (V.setCell ⟨D.xb,12,none⟩ (.bool true))).drew
    have dd:Dae0 true (V.setCell ⟨D.xb,12,none⟩ (.bool true)).drew D2:=by
     have:=h3.kill
     rw [ex] at this
     exact this.below bd
    have cc:Trans w D (V.setCell ⟨D.xb,12,none⟩ (.bool true)).drew D2:=by
     have:=Trans.kill (w:=V) (D:=D2) (.bool true)
     rw [ex] at this
     exact (t3.trans this).trans (Trans.below bd)
    simp [Leaves,settle,results,Tryz.results109,go_sem,g1]
    exact ⟨k,hlt,D2,dd,hq,cc⟩
  ·obtain rfl:k=n:=by omega
   go_wp2_with fail
   have e0:=(HT.out.keep _ KL.out.1 K.out.2.2.2.1).1.trans K.out.1
   have e1:=(HT.out.keep _ KL.out.2.1 K.out.2.2.2.2.1).1.trans K.out.2.1
   have hb:=zew (k:=0) (v:=.int .i64 0) e1 rfl
   have f0:=(hb.block _ (zac7 e0).1).trans e0
   have f1:=(hb.block _ (zac7 e1).1).trans e1
   have hs:=hl k _ _ _ HS.out hb
   have ht:=HT0.out.trans (HT.out.trans (Trans.below hb))
   generalize wr.setCell ⟨w.heap.size + 1,0,none⟩ (.int .i64 0)=V at *
   have hx:=(hS k V D' hs).row
   rw [← ed] at hx
   refine leaves_cons (f:=172) (args:=#[.pointer (some ⟨w.heap.size,0,none⟩),.pointer (some ⟨w.heap.size + 1,0,none⟩)]) (by simp) (by simp [go_sem]) ?_
   refine (zt9 (xb:=D.xb) (C:=D'.cells) (by rw [zad,zaa f0];rfl) (by rw [zad,zaa f1];rfl) hx rfl).mono ?_
   rintro e u' w'' ⟨rfl,⟨v,rfl⟩,hb2⟩
   have g1:=zaa ((hb2.block _ (zac7 f1).1).trans f1)
   have g2:=hl k _ _ _ hs hb2
   have g3:=ht.trans (Trans.below hb2)
   simp [Leaves,settle,results,Tryz.results109,go_sem,g1]
   exact ⟨D',g2,g3⟩
def zp0 (w:World) (D:Dm) (L:List It) (B':List (Int × Sw)) (w':World):Prop:=∃ D',On w' D' L B'∧(Calm D.A→Calm D'.A)∧Trans w D w' D'
def KeptNo (w:World) (D:Dm) (L its:List It) (w':World):Prop:=¬ Calm D.A∧∃ D' k a,its[k]?=some a∧Dae0 true w' D'∧Fell D' (L ++ its.take k) a∧Run [] (L ++ its.take k) (bkOf D'.M)∧(∃ B2,Adds (bkOf D'.M) a B2)∧Trans w D w' D'
theorem zp1 {w:World} {D:Dm} {L its:List It} {B B':List (Int × Sw)} (hn:its.length ≤ 2) (h:On w D L B) (hr:Run B its B') (hB:Base w D) {lb:Nat} {C:Array Value} (hlb:w.heap[lb]?=some (.cells C 162)) (hCs:C.size=80 * its.length) (hCr:∀ k a,its[k]?=some a→sub C (k * 80) 80=a.rc.cells) (hna:¬ D.all lb):
  Calls Tryz.prog 109 #[.pointer (some ⟨D.xb,0,none⟩),.slice (some ⟨lb,0,none⟩) its.length its.length] w fun e w'=>
   (e=.returned (.int .i64 0)∧zp0 w D (L ++ its) B' w') ∨ (e=.returned (.int .i64 9)∧KeptNo w D L its w'):=by
 have K:=zx7 (n:=its.length) hn (rs:=fun k=>match its[k]? with | some a=>a.rc | none=>Rc.zero)
  (S:=fun k w D'=>∃ Bk,On w D' (L ++ its.take k) Bk∧Run B (its.take k) Bk∧Run Bk (its.drop k) B'∧(Calm D.A→Calm D'.A))
  (S':=fun k w D'=>∃ Bk,Dae w D'∧D'.A.off=false∧D'.R=zbc (L ++ its.take (k + 1))∧bkOf D'.M=Bk∧Run [] (L ++ its.take k) Bk∧Run B (its.take k) Bk∧Run Bk (its.drop k) B'∧(Calm D.A→Calm D'.A))
  (Q:=fun k D'=>¬ Calm D.A∧∃ a Bk,its[k]?=some a∧Fell D' (L ++ its.take k) a∧bkOf D'.M=Bk∧Run [] (L ++ its.take k) Bk∧∃ B2,Adds Bk a B2)
  (fun k w D' q=>let ⟨_,q,_⟩:=q;q.dae) (fun k w D' q=>let ⟨_,q,_⟩:=q;q) (fun k w w' D' q hb=>let ⟨Bk,q1,q⟩:=q;⟨Bk,q1.below hb,q⟩) (fun k w w' D' q hb=>let ⟨Bk,q1,q⟩:=q;⟨Bk,q1.below hb,q⟩)
  (fun k hk X D' q hB2=>by
   obtain ⟨Bk,q1,q2,q3,q4⟩:=q
   have hd:its.drop k=its[k] :: its.drop (k + 1):=List.drop_eq_getElem_cons hk
   have ha:its[k]?=some its[k]:=List.getElem?_eq_getElem hk
   have q3':=q3
   rw [hd] at q3'
   obtain ⟨B2,a1,a2⟩:=q3'.head
   have hfit:=q1.run.room
   have e:L ++ its.take (k + 1)=(L ++ its.take k) ++ [its[k]]:=by rw [List.take_succ_eq_append_getElem hk,List.append_assoc]
   rw [ha]
   refine (log_it q1.dae q1.on hB2.forms q1.rows (by omega) a1).mono ?_
   rintro e' w' (⟨rfl,D2,p1,p2,p3,p4,p5,p6⟩ | ⟨rfl,p1,D2,p2,p3,p4,p5⟩)
   ·exact .inl ⟨rfl,D2,⟨Bk,p1,p2,by rw [p4,e],by rw [p5];exact q1.book,q1.run,q2,q3,fun c=>p3 (q4 c)⟩,p6⟩
   ·exact .inr ⟨rfl,D2,p2,⟨fun c=>p1 (q4 c),its[k],Bk,rfl,p3,by rw [p4];exact q1.book,q1.run,B2,a1⟩,p5⟩)
  (fun k hk X D' q hB2=>by
   obtain ⟨Bk,q1,q2,q3,q4,q5,q6,q7,q8⟩:=q
   have hd:its.drop k=its[k] :: its.drop (k + 1):=List.drop_eq_getElem_cons hk
   have ha:its[k]?=some its[k]:=List.getElem?_eq_getElem hk
   rw [hd] at q7
   obtain ⟨B2,a1,a2⟩:=q7.head
   have e:L ++ its.take (k + 1)=(L ++ its.take k) ++ [its[k]]:=by rw [List.take_succ_eq_append_getElem hk,List.append_assoc]
   rw [ha]
   rw [← q4] at a1
   refine (zzn q1 hB2 a1).mono ?_
   rintro e' w' ⟨rfl,M',p1,p2,p3⟩
   rw [q4] at a1
   exact ⟨rfl,_,⟨B2,⟨p1,q2,q3,p2,by rw [e];exact q5.snoc a1⟩,by rw [List.take_succ_eq_append_getElem hk];exact q6.snoc a1,a2,q8⟩,p3⟩)
  (w:=w) (D:=D) ⟨B,by rw [List.take_zero,List.append_nil];exact h,by rw [List.take_zero];exact .nil,by rw [List.drop_zero];exact hr,id⟩ hB hlb hCs (fun k hk=>by
   rw [List.getElem?_eq_getElem hk]
   exact hCr k _ (List.getElem?_eq_getElem hk)) hna
 refine K.mono ?_
 rintro e w' (⟨rfl,D',⟨Bk,q1,q2,q3,q4⟩,t⟩ | ⟨rfl,k,D',hk,q1,⟨q2,a,Bk,q3,q4,q5,q6,q7⟩,t⟩)
 ·rw [List.drop_length] at q3
  cases q3
  rw [List.take_length] at q1
  exact .inl ⟨rfl,D',q1,q4,t⟩
 ·subst q5
  exact .inr ⟨rfl,q2,D',k,a,q3,q1,q4,q6,q7,t⟩
end Go.Proofs.YthjgiamfaijoeaaGreatDoor
