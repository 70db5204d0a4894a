/- What is proved: parts of the walk and of the plain law. No condition but those each law names. -/
import Derived.Test.YthjgiamfaijoeaaGreatDoorD20
import Derived.Test.YthjgiamfaijoeaaGreatDoorD19
import Derived.Test.YthjgiamfaijoeaaGreatDoorD26
import Derived.Test.YthjgiamfaijoeaaGreatDoorD09
import Derived.Test.YthjgiamfaijoeaaGreatDoorD23
import Derived.Test.YthjgiamfaijoeaaGreatDoorD00
set_option linter.unusedSimpArgs false
set_option linter.unusedVariables false
set_option maxRecDepth 100000
namespace Go.Proofs.YthjgiamfaijoeaaGreatDoor
open Go.RowKit
section
structure LgIn (l:Lg):Prop where
 w:0 ≤ l.w∧l.w ≤ 2
 a:1 ≤ l.a∧l.a ≤ 1125899906842624
 u:0 ≤ l.u∧l.u ≤ 1073741824
theorem zuq {l:Lg} (h:legE l=0):LgIn l:=by
 unfold legE at h
 split at h
 ·omega
 ·split at h
  ·omega
  ·split at h
   ·omega
   ·exact ⟨by omega,by omega,by omega⟩
theorem zx3 {m:Msg} (h:zcg m=0):LgIn m.p∧LgIn m.g∧m.p.w ≠ m.g.w∧m.c=0:=by
 unfold zcg at h
 by_cases h1:legE m.p ≠ 0
 ·rw [if_pos h1] at h;exact absurd h h1
 ·rw [if_neg h1] at h
  by_cases h2:legE m.g ≠ 0
  ·rw [if_pos h2] at h;exact absurd h h2
  ·rw [if_neg h2] at h
   split at h
   ·omega
   ·split at h
    ·omega
    ·exact ⟨zuq (by omega),zuq (by omega),by assumption,by omega⟩
theorem zpr {i k:Int} (h:idE i k=0):(1 ≤ i∧i ≤ 1073741824)∧k=0:=by
 unfold idE at h
 split at h
 ·omega
 ·exact ⟨by omega,h⟩
theorem zl7 {l:Lg} (h:LgIn l) (r:List Nat):zde (legI l ++ r,0)=(l,r,0):=by
 obtain ⟨h1,h2,h3⟩:=h
 have e1:=zdw (x:=l.w) (by omega) (by omega) (intI l.a ++ (intI l.u ++ r))
 have e2:=zdw (x:=l.a) (by omega) (by omega) (intI l.u ++ r)
 have e3:=zdw (x:=l.u) (by omega) (by omega) r
 have e:legI l ++ r=intI l.w ++ (intI l.a ++ (intI l.u ++ r)):=by unfold legI;simp [List.append_assoc]
 rw [e]
 unfold zde
 rw [e1,e2,e3]
 obtain ⟨w,a,u⟩:=l
 simp only at h1 h2 h3 ⊢
 rw [Int.toNat_of_nonneg h1.1,Int.toNat_of_nonneg (by omega),Int.toNat_of_nonneg h3.1]
theorem Hs.eq_of {a b:Hs} (h:a.l=b.l):a=b:=by
 obtain ⟨l,hl⟩:=a
 obtain ⟨k,hk⟩:=b
 simp only at h
 subst h
 rfl
theorem zps (h:Hs) (r:List Nat):rdHs (h.l ++ r,0)=(h,r,0):=by
 have hl:=h.hl
 unfold rdHs
 rw [if_neg (by simp),if_neg (by rw [List.length_append];omega)]
 have e1:(h.l ++ r).drop 32=r:=List.drop_left' hl
 have e2:hs32 (h.l ++ r)=h:=by
  have e:=zz1 (l:=h.l ++ r) (by rw [List.length_append];omega)
  rw [List.take_left' hl] at e
  exact Hs.eq_of e
 rw [e1,e2]
theorem zil {i c:Int} (he:idE i (refE c)=0):zee (putC i c)=(0,msgR i c):=by
 obtain ⟨hi,hc⟩:=zpr he
 have hc2:1 ≤ c∧c ≤ 24:=by unfold refE at hc;split at hc <;> omega
 have e1:=zdw (x:=3) (by decide) (by decide) (intI i ++ intI c)
 have e2:=zdw (x:=i) (by omega) (by omega) (intI c)
 have e3:=zdw (x:=c) (by omega) (by omega) []
 rw [List.append_nil] at e3
 unfold zee putC
 rw [List.append_assoc,e1,e2]
 unfold gM
 rw [if_neg (by simp),if_pos (by rfl),e3]
 unfold finM
 simp only [Int.toNat_of_nonneg (show 0 ≤ c by omega),Int.toNat_of_nonneg (show 0 ≤ i by omega)]
 rw [if_neg (by simp [endR]),if_neg (by rw [he];simp)]
theorem zim {m:Msg} (hk:m.k=1 ∨ m.k=2) (he:idE m.i (zcg m)=0):zee (zbi m)=(0,m):=by
 obtain ⟨hi,hc⟩:=zpr he
 obtain ⟨h1,h2,_,h4⟩:=zx3 hc
 have hk0:0 ≤ m.k:=by omega
 have e1:=zdw (x:=m.k) (by omega) (by omega) (intI m.i ++ (legI m.p ++ (legI m.g ++ (m.h.l ++ []))))
 have e2:=zdw (x:=m.i) (by omega) (by omega) (legI m.p ++ (legI m.g ++ (m.h.l ++ [])))
 have e3:=zl7 h1 (legI m.g ++ (m.h.l ++ []))
 have e4:=zl7 h2 (m.h.l ++ [])
 have e5:=zps m.h []
 have e:zbi m=intI m.k ++ (intI m.i ++ (legI m.p ++ (legI m.g ++ (m.h.l ++ [])))):=by unfold zbi zdx;simp [List.append_assoc]
 have e6:zd4 m.k.toNat m.i.toNat (legI m.p ++ (legI m.g ++ (m.h.l ++ [])),0)=m:=by
  unfold zd4 mAt
  simp only [e3,e4,e5]
  unfold m0
  obtain ⟨k,i,c,p,g,h⟩:=m
  simp only at hk0 hi h4 ⊢
  rw [Int.toNat_of_nonneg hk0,Int.toNat_of_nonneg (by omega),h4]
 have e7:zlv m.k.toNat m.i.toNat (legI m.p ++ (legI m.g ++ (m.h.l ++ [])),0)=([],0):=by
  unfold zlv mAt
  simp only [e3,e4,e5]
 unfold zee
 rw [e,e1,e2]
 unfold gM
 rw [if_neg (by simp),if_neg (by simp only;omega),if_pos (by simp only;omega),e6,e7]
 unfold finM
 rw [if_neg (by simp [endR]),if_neg (by simp only [Int.toNat_of_nonneg (show 0 ≤ m.i by omega),he];simp)]
def Told (e:Int):Prop:=0 ≤ e∧e ≤ 24
end
section
open Sx (Ab DW Turns Did Foot)
def dmC (t:Tm) (sv:Sv) (jb bk:Nat) (dead:Bool):Array Value:=#[.int .i64 t.base,.int .i64 t.ppm,.int .i64 t.reserve,.int .i64 t.least,.int .i64 t.most,.int .i64 t.depth,.int .i64 t.delay,.int .i64 t.lag,.int .i64 t.fast,.slice sv.a sv.n sv.c,.pointer (some ⟨jb,0,none⟩),.pointer (some ⟨bk,0,none⟩),.bool dead]
theorem dm_t (t:Tm) (sv:Sv) (jb bk:Nat) (dead:Bool):sub (dmC t sv jb bk dead) 0 9=t.cells:=by kernel_rfl
theorem zkm (t:Tm) (sv:Sv) (jb bk:Nat) (dead:Bool):(dmC t sv jb bk dead).size=13:=rfl
section
variable (t:Tm) (sv:Sv) (jb bk:Nat) (dead:Bool)
theorem dm_3:(dmC t sv jb bk dead)[3]?=some (.int .i64 t.least):=rfl
theorem dm_3g (q:3 < (dmC t sv jb bk dead).size):(dmC t sv jb bk dead)[3]'q=.int .i64 t.least:=rfl
theorem dm_4:(dmC t sv jb bk dead)[4]?=some (.int .i64 t.most):=rfl
theorem dm_4g (q:4 < (dmC t sv jb bk dead).size):(dmC t sv jb bk dead)[4]'q=.int .i64 t.most:=rfl
theorem dm_9:(dmC t sv jb bk dead)[9]?=some (.slice sv.a sv.n sv.c):=rfl
theorem dm_9g (q:9 < (dmC t sv jb bk dead).size):(dmC t sv jb bk dead)[9]'q=.slice sv.a sv.n sv.c:=rfl
theorem dm_10:(dmC t sv jb bk dead)[10]?=some (.pointer (some ⟨jb,0,none⟩)):=rfl
theorem dm_10g (q:10 < (dmC t sv jb bk dead).size):(dmC t sv jb bk dead)[10]'q=.pointer (some ⟨jb,0,none⟩):=rfl
theorem dm_11:(dmC t sv jb bk dead)[11]?=some (.pointer (some ⟨bk,0,none⟩)):=rfl
theorem dm_11g (q:11 < (dmC t sv jb bk dead).size):(dmC t sv jb bk dead)[11]'q=.pointer (some ⟨bk,0,none⟩):=rfl
theorem dm_12:(dmC t sv jb bk dead)[12]?=some (.bool dead):=rfl
theorem dm_12g (q:12 < (dmC t sv jb bk dead).size):(dmC t sv jb bk dead)[12]'q=.bool dead:=rfl
end
attribute [go_sem ↓] dm_3 dm_4 dm_9 dm_10 dm_11 dm_12
attribute [go_sem] dm_t zkm dm_3g dm_4g dm_9g dm_10g dm_11g dm_12g
structure Dm where
 F:Foot
 xb:Nat
 jb:Nat
 bk:Nat
 mb:Nat
 sb:Nat
 c:Nat
 t:Tm
 seed:List Nat
 dv:Value
 A:Ab
 j:Jr
 R:List (Int × List Nat)
 M:List (Int × En)
 cal:Bool
def Dm.sv (D:Dm):Sv:=⟨some ⟨D.sb,0,none⟩,D.seed.length,D.c⟩
def Dm.cells (D:Dm):Array Value:=dmC D.t D.sv D.jb D.bk false
def Dm.own (D:Dm) (i:Nat):Prop:=i=D.xb ∨ i=D.sb ∨ zc5 D.bk D.mb D.M i 0
structure Dae (w:World) (D:Dm):Prop where
 row:w.heap[D.xb]?=some (.cells D.cells 190)
 sd:Sl w (some ⟨D.sb,0,none⟩) D.seed.length D.c (bts D.seed)
 sl:D.sb < w.heap.size
 jd:JD w D.F D.dv D.A D.jb D.j
 hold:Holds D.A D.j D.R
 calm:D.cal=true→Calm D.A
 bok:BookAt w D.bk D.mb D.M
 f1:∀ i,D.own i→i ≠ D.jb∧∀ x,¬ D.F i x
 f2:¬ zc5 D.bk D.mb D.M D.xb 0∧¬ zc5 D.bk D.mb D.M D.sb 0∧D.xb ≠ D.sb
theorem Sl.block {w w':World} {b o n c:Nat} {vs:List Value} (h:Sl w (some ⟨b,o,none⟩) n c vs) (hb:w'.heap[b]?=w.heap[b]?):Sl w' (some ⟨b,o,none⟩) n c vs:=by
 refine ⟨h.len,h.le,h.nil,?_⟩
 rcases h.cells with e | ⟨b',o',e,hc⟩
 ·exact .inl e
 ·cases e
  exact .inr ⟨_,_,rfl,fun j x hj=>(Sx.cell_block hb _).1.trans (hc j x hj)⟩
theorem Dae.lt {w:World} {D:Dm} (h:Dae w D) {i:Nat} (hi:D.own i):i < w.heap.size:=by
 rcases hi with rfl | rfl | hi
 ·exact (zadu h.row).1
 ·exact h.sl
 ·exact h.bok.lt hi
theorem Dae.below {w w':World} {D:Dm} (h:Dae w D) (hw:Below w.heap.size w w'):Dae w' D:=
 ⟨(hw.block _ (h.lt (.inl rfl))).trans h.row,h.sd.block (hw.block _ h.sl),Nat.lt_of_lt_of_le h.sl hw.size,h.jd.below hw,h.hold,h.calm,h.bok.below hw,h.f1,h.f2⟩
theorem Dae.booked {w w':World} {D:Dm} (h:Dae w D) {k:Nat} {M':List (Int × En)} (hb:BookAt w' D.bk D.mb M') (ht:Turns (fun i _=>i=k) w w') (hk:zc5 D.bk D.mb D.M k 0) (hM:∀ i,zc5 D.bk D.mb M' i 0→zc5 D.bk D.mb D.M i 0 ∨ w.heap.size ≤ i):Dae w' { D with M:=M' }:=by
 have n1:D.xb ≠ k:=fun e=>h.f2.1 (e ▸ hk)
 have n2:D.sb ≠ k:=fun e=>h.f2.2.1 (e ▸ hk)
 have n3:D.jb ≠ k:=fun e=>(h.f1 k (.inr (.inr hk))).1 e.symm
 have hb':∀ i,i < w.heap.size→i ≠ k→w'.heap[i]?=w.heap[i]?:=fun i hi hn=>ht.block i hi fun _ e=>hn e
 have hjl:D.jb < w.heap.size:=h.jd.lt
 refine ⟨(hb' _ (h.lt (.inl rfl)) n1).trans h.row,h.sd.block (hb' _ h.sl n2),Nat.lt_of_lt_of_le h.sl ht.size,?_,h.hold,h.calm,hb,fun i hi=>?_,⟨fun e=>?_,fun e=>?_,h.f2.2.2⟩⟩
 ·refine ⟨h.jd.dw.keepB fun i ⟨x,hx⟩=>hb' i (h.jd.dw.lt hx) fun e=>(h.f1 k (.inr (.inr hk))).2 x (e ▸ hx),(hb' _ hjl n3).trans h.jd.jr,h.jd.ap⟩
 ·rcases hi with hi | hi | hi
  ·exact h.f1 i (.inl hi)
  ·exact h.f1 i (.inr (.inl hi))
  ·rcases hM i hi with h1 | h1
   ·exact h.f1 i (.inr (.inr h1))
   ·exact ⟨fun e=>by have e:i=D.jb:=e;omega,fun x hx=>by have:=h.jd.dw.lt hx;omega⟩
 ·rcases hM _ e with h1 | h1
  ·exact h.f2.1 h1
  ·have:=h.lt (.inl rfl);have h1:w.heap.size ≤ D.xb:=h1;omega
 ·rcases hM _ e with h1 | h1
  ·exact h.f2.2.1 h1
  ·have:=h.sl;have h1:w.heap.size ≤ D.sb:=h1;omega
theorem zex {w:World} {b k:Nat} {C:Array Value} {t:TypeId} {v:Value} (h:w.heap[b]?=some (.cells C t)) (hv:C[k]?=some v):Below w.heap.size w (w.setCell ⟨b,k,none⟩ v):=by
 refine ⟨rfl,rfl,rfl,by simp,fun i _=>?_⟩
 rw [zag]
 split
 ·rename_i e
  have e:b=i:=e
  subst e
  rw [h]
  show some (Obj.cells (C.setIfInBounds k v) t)=_
  congr 2
  apply Array.ext_getElem?
  intro j
  rw [Array.getElem?_setIfInBounds]
  split
  ·rename_i q
   subst q
   rw [if_pos (zadu hv).1,hv]
  ·rfl
 ·rfl
end
section
open Sx (Ab DW Turns Did Foot)
attribute [local go_sem ↓] zad
attribute [local go_sem] zaf zai zaj zal zab zah dm_t zkm
def Dm.all (D:Dm) (i:Nat):Prop:=D.own i ∨ i=D.jb ∨ ∃ x,D.F i x
structure Trans (w:World) (D:Dm) (w':World) (D':Dm):Prop where
 os:w'.os=w.os
 tape:w'.tape=w.tape
 output:w'.output=w.output
 size:w.heap.size ≤ w'.heap.size
 keep:∀ i,i < w.heap.size→¬ D.all i→w'.heap[i]?=w.heap[i]?∧¬ D'.all i
 xb:D'.xb=D.xb
 bk:D'.bk=D.bk
 t:D'.t=D.t
 seed:D'.seed=D.seed
 dv:D'.dv=D.dv
theorem Trans.below {w w':World} {D:Dm} (h:Below w.heap.size w w'):Trans w D w' D:=⟨h.os,h.tape,h.output,h.size,fun i hi hn=>⟨h.block i hi,hn⟩,rfl,rfl,rfl,rfl,rfl⟩
theorem Trans.trans {w w1 w2:World} {D D1 D2:Dm} (h:Trans w D w1 D1) (k:Trans w1 D1 w2 D2):Trans w D w2 D2:=
 ⟨k.os.trans h.os,k.tape.trans h.tape,k.output.trans h.output,Nat.le_trans h.size k.size,fun i hi hn=>by
  obtain ⟨h1,h2⟩:=h.keep i hi hn
  obtain ⟨k1,k2⟩:=k.keep i (Nat.lt_of_lt_of_le hi h.size) h2
  exact ⟨k1.trans h1,k2⟩,k.xb.trans h.xb,k.bk.trans h.bk,k.t.trans h.t,k.seed.trans h.seed,k.dv.trans h.dv⟩
theorem Trans.went {w w':World} {D:Dm} {F':Foot} {A':Ab} {j':Jr} {R':List (Int × List Nat)} (hw:Went D.F D.jb w F' w'):Trans w D w' { D with F:=F',A:=A',j:=j',R:=R' }:=
 ⟨hw.os,hw.tape,hw.output,hw.size,fun i hi hn=>⟨hw.block i hi (fun e=>hn (.inr (.inl e))) (fun x hx=>hn (.inr (.inr ⟨x,hx⟩))),fun q=>by
  rcases q with q | q | ⟨x,hx⟩
  ·exact hn (.inl q)
  ·exact hn (.inr (.inl q))
  ·rcases hw.fb i x hx with h1 | h1
   ·exact hn (.inr (.inr ⟨x,h1⟩))
   ·omega⟩,rfl,rfl,rfl,rfl,rfl⟩
theorem Trans.booked {w w':World} {D:Dm} {k:Nat} {M':List (Int × En)} (ht:Turns (fun i _=>i=k) w w') (hk:zc5 D.bk D.mb D.M k 0) (hM:∀ i,zc5 D.bk D.mb M' i 0→zc5 D.bk D.mb D.M i 0 ∨ w.heap.size ≤ i):Trans w D w' { D with M:=M' }:=
 ⟨ht.os,ht.tape,ht.output,ht.size,fun i hi hn=>⟨ht.block i hi fun _ e=>hn (.inl (.inr (.inr (e ▸ hk)))),fun q=>by
  rcases q with (q | q | q) | q | q
  ·exact hn (.inl (.inl q))
  ·exact hn (.inl (.inr (.inl q)))
  ·rcases hM i q with h1 | h1
   ·exact hn (.inl (.inr (.inr h1)))
   ·omega
  ·exact hn (.inr (.inl q))
  ·exact hn (.inr (.inr q))⟩,rfl,rfl,rfl,rfl,rfl⟩
theorem Dae.all_lt {w:World} {D:Dm} (h:Dae w D) {i:Nat} (hi:D.all i):i < w.heap.size:=by
 rcases hi with hi | rfl | ⟨x,hx⟩
 ·exact h.lt hi
 ·exact h.jd.lt
 ·exact h.jd.dw.lt hx
set_option maxHeartbeats 1000000 in
theorem zrq {w:World} {D:Dm} (h:Dae w D) {k:Int} {q:En} (hq:getA D.M k=some q):Calls Tryz.prog 108 #[.pointer (some ⟨D.xb,0,none⟩),.int .i64 k] w fun e w'=>e=.returned (.int .i64 13)∧Below w.heap.size w w':=by
 have r0:=zaa h.row
 have S:=zhb h.bok k
 rw [hq] at S
 have S:=zadv S
 unfold Dm.cells at r0
 clear hq
 go_enter Tryz.func108,Tryz.ntmps108
 go_wp2_with fail
 refine S.out.mono ?_
 rintro _ W ⟨rfl,hb⟩
 have HB:=zadv hb
 clear r0 S hb
 generalize swO (some q)=sw
 go_upto_region 2 with (fail)
 have B2:=zadv (HB.out.trans ((Bx.made W Sw.zero.cells sw.cells 62).below.mono HB.out.size))
 generalize (W.alloc (.cells Sw.zero.cells 62)).setRow W.heap.size sw.cells=V at B2 ⊢
 go_wp2
 go_ret
 exact ⟨rfl,B2.out⟩
end
section
open Sx (Ab DW Turns Did Foot)
theorem zur {w:World} {xb b0 b1:Nat} {C:Array Value} {t:TypeId} (h0:w.cell? ⟨b0,0,none⟩=some (.pointer (some ⟨xb,0,none⟩))) (h1:w.cell? ⟨b1,0,none⟩=some (.int .i64 0)) (hx:w.heap[xb]?=some (.cells C t)) (hc:C[12]?=some (.bool false)):
  CallsD Tryz.prog 172 #[.pointer (some ⟨b0,0,none⟩),.pointer (some ⟨b1,0,none⟩)] .returning w fun e u' w'=>u'=.returning∧(∃ v,e=.returned v)∧Below w.heap.size w w':=by
 have hb:=zex hx hc
 have c12:w.cell? ⟨xb,12,none⟩=some (.bool false):=by simp [World.cell?,hx,hc]
 have f12:w.frozen? ⟨xb,12,none⟩=false:=by simp [World.frozen?,hx]
 refine callsD_of_wp Tryz.func172 rfl ?_
 simp only [Tryz.ntmps172,List.size_toArray,List.length_cons,List.length_nil,Nat.reduceAdd,Nat.reduceSub,Array.replicate_succ,Array.replicate_zero,List.push_toArray,List.append_toArray,List.nil_append,List.cons_append]
 have B2:=zadv hb.drew
 clear hb hc
 go_region
 go_end0
 exact ⟨⟨_,rfl⟩,B2.out⟩
structure Base (w:World) (D:Dm):Prop where
 forms:Forms w
 tabs:Tabs w
 n2:¬ D.all 0
 n4:¬ D.all 1
 n5:¬ D.all 3
theorem Forms.lt {w:World} (h:Forms w):0 < w.heap.size:=World.block_lt_of_cell? w ⟨0,0,none⟩ (h 0 _ rfl)
theorem Base.trans {w w':World} {D D':Dm} (h:Base w D) (t:Trans w D w' D'):Base w' D':=by
 have l2:=h.forms.lt
 obtain ⟨t4,g4⟩:=h.tabs.g4
 obtain ⟨t5,g5⟩:=h.tabs.g5
 have l4:=(zadu g4).1
 have l5:=(zadu g5).1
 exact ⟨fun j v hj=>(Sx.cell_block (t.keep 0 l2 h.n2).1 _).1.trans (h.forms j v hj),⟨⟨t4,(t.keep 1 l4 h.n4).1.trans g4⟩,⟨t5,(t.keep 3 l5 h.n5).1.trans g5⟩⟩,(t.keep 0 l2 h.n2).2,(t.keep 1 l4 h.n4).2,(t.keep 3 l5 h.n5).2⟩
attribute [local go_sem ↓] zad
attribute [local go_sem] zaf zai zaj zal zab zah zac zak zae
end
section
open Sx (Ab DW Turns Did Foot)
theorem zrr (u:Nat) (hu:u < 18446744073709551616):Small (intL u):=by
 unfold intL
 split
 ·intro x hx
  have:=List.mem_singleton.1 hx
  omega
 ·split
  ·exact fun x hx=>(List.mem_cons.1 hx).elim (fun e=>by omega) (zc1 _ _ x)
  ·split
   ·exact fun x hx=>(List.mem_cons.1 hx).elim (fun e=>by omega) (zc1 _ _ x)
   ·exact fun x hx=>(List.mem_cons.1 hx).elim (fun e=>by omega) (zc1 _ _ x)
theorem zby (x:Int):Small (intI x):=zrr _ (by omega)
theorem zdz (xs:List Int):Small (zbh xs):=fun x hx=>by
 obtain ⟨y,_,hy⟩:=List.mem_flatMap.1 hx
 exact zby y x hy
theorem zus {d:Dl} (h:Small d.h.l):zd3 (1,putD d):=
 ⟨by show (1:Int) ≤ 1;decide,by show (1:Int) < 255;decide,by have:=zg7 d;show (putD d).length ≤ 400;omega,(((zdz _).append (zdz _)).append h).append (zdz _)⟩
theorem zut {i:Int} {h:Hs} (hs:Small h.l):zd3 (1,putS i h):=
 ⟨by show (1:Int) ≤ 1;decide,by show (1:Int) < 255;decide,by have:=zg8 i h;show (putS i h).length ≤ 400;omega,(zdz _).append hs⟩
theorem npc_D (d:Dl):npc (rowF (1,putD d)) ≤ 2:=by
 have:=zg7 d
 unfold npc
 rw [zeo]
 show ((putD d).length + 7 + 126) / 127 ≤ 2
 omega
theorem npc_S (i:Int) (h:Hs):npc (rowF (1,putS i h)) ≤ 1:=by
 have:=zg8 i h
 unfold npc
 rw [zeo]
 show ((putS i h).length + 7 + 126) / 127 ≤ 1
 omega
structure Lies (w:World) (D:Dm) (P:List (Int × En)→Prop) (R:List (Int × List Nat)):Prop where
 dae:Dae w D
 book:P D.M
 rows:D.R=R
 cal:D.cal=true
theorem zuu {bk mb:Nat} {M:List (Int × En)} {k:Int} {e:En} {i:Nat} (h:zc5 bk mb (putA M k e) i 0):zc5 bk mb M i 0 ∨ i=e.b ∨ i=e.m:=by
 rcases h with h | h | ⟨p,hp,h⟩
 ·exact .inl (.inl h)
 ·exact .inl (.inr (.inl h))
 ·rcases zdu hp with rfl | hp
  ·exact .inr h
  ·exact .inl (.inr (.inr ⟨p,hp,h⟩))
theorem zuv (r:Rc):sub r.cells (0 * 80) 80=r.cells:=by rw [Nat.zero_mul];exact zke r
end
section
open Sx (Ab DW Turns Did Foot)
theorem bsl1 (w:World) (r:Rc):(Instr.buildSlice 242 1 #[(0,.agg r.cells)]).run Tryz.prog w=.ok (.slice (some ⟨w.heap.size,0,none⟩) 1 1) (w.alloc (.cells r.cells 162)):=by
 obtain ⟨k,i,⟨di,dr,p,g,h,q⟩,s,mv,st,t⟩:=r
 obtain ⟨f,rfl⟩:=h.form
 obtain ⟨f2,rfl⟩:=s.form
 kernel_rfl
theorem bsl2 (w:World) (r r':Rc):(Instr.buildSlice 242 2 #[(0,.agg r.cells),(1,.agg r'.cells)]).run Tryz.prog w=.ok (.slice (some ⟨w.heap.size,0,none⟩) 2 2) (w.alloc (.cells (r.list ++ r'.list).toArray 162)):=by
 obtain ⟨k,i,⟨di,dr,p,g,h,q⟩,s,mv,st,t⟩:=r
 obtain ⟨f,rfl⟩:=h.form
 obtain ⟨f2,rfl⟩:=s.form
 obtain ⟨k',i',⟨di',dr',p',g',h',q'⟩,s',mv',st',t'⟩:=r'
 obtain ⟨f',rfl⟩:=h'.form
 obtain ⟨f2',rfl⟩:=s'.form
 kernel_rfl
def rOf (v:Value):Rc:=⟨iAt v 0,iAt v 1,dOf (.agg (sub (agc v) 2 41)),hOf (.agg (sub (agc v) 43 32)),iAt v 75,iAt v 76,Tv.zero⟩
theorem zz3 (k i:Int) (d:Dl) (s:Hs) (mv st:Int):rOf (.agg (Rc.cells ⟨k,i,d,s,mv,st,Tv.zero⟩))=⟨k,i,d,s,mv,st,Tv.zero⟩:=by
 have e1:sub (agc (.agg (Rc.cells ⟨k,i,d,s,mv,st,Tv.zero⟩))) 2 41=d.cells:=r_d _
 have e2:sub (agc (.agg (Rc.cells ⟨k,i,d,s,mv,st,Tv.zero⟩))) 43 32=s.cells:=r_s _
 have e3:iAt (.agg (Rc.cells ⟨k,i,d,s,mv,st,Tv.zero⟩)) 75=mv:=by show (match (Rc.cells ⟨k,i,d,s,mv,st,Tv.zero⟩)[75]? with | some (.int _ n)=>n | _=>0)=_;rw [r_75]
 have e4:iAt (.agg (Rc.cells ⟨k,i,d,s,mv,st,Tv.zero⟩)) 76=st:=by show (match (Rc.cells ⟨k,i,d,s,mv,st,Tv.zero⟩)[76]? with | some (.int _ n)=>n | _=>0)=_;rw [r_76]
 unfold rOf
 rw [e1,e2,e3,e4,zto,zph]
 rfl
theorem zuw (d:Dl):rOf (.agg (rcD d).cells)=rcD d:=zz3 _ _ _ _ _ _
theorem zux (i:Int) (h:Hs):rOf (.agg (rcS i h).cells)=rcS i h:=zz3 _ _ _ _ _ _
theorem zl8 (d:Dl):Rc.cells ⟨1,d.i,d,Hs.zero,0,0,Tv.zero⟩=(rcD d).cells:=rfl
theorem zl9 (i:Int) (h:Hs):Rc.cells ⟨2,i,Dl.zero,h,0,0,Tv.zero⟩=(rcS i h).cells:=rfl
section
variable (w:World) (ρ:Operand→Value) (dst:Option Tmp) (ty:TypeId) (pos:String) (af:Array Edge) (gd:Option (Nat × Bool))
theorem ebl1 (x:Operand) (hx:ρ x=.agg (rOf (ρ x)).cells):(execOp ρ ⟨dst,.buildSlice 242 1 #[(0,x)],ty,pos,af,gd⟩).run Tryz.prog w=.ok (.value (.slice (some ⟨w.heap.size,0,none⟩) 1 1)) (w.alloc (.cells (rOf (ρ x)).cells 162)):=by
 have h:=bsl1 w (rOf (ρ x))
 rw [← hx] at h
 unfold execOp
 simp only [Sem.run_bind,Sem.run_pure,List.map_toArray,List.map_cons,List.map_nil,h,Result.andThen_ok]
theorem ebl2 (x y:Operand) (hx:ρ x=.agg (rOf (ρ x)).cells) (hy:ρ y=.agg (rOf (ρ y)).cells):(execOp ρ ⟨dst,.buildSlice 242 2 #[(0,x),(1,y)],ty,pos,af,gd⟩).run Tryz.prog w=.ok (.value (.slice (some ⟨w.heap.size,0,none⟩) 2 2)) (w.alloc (.cells ((rOf (ρ x)).list ++ (rOf (ρ y)).list).toArray 162)):=by
 have h:=bsl2 w (rOf (ρ x)) (rOf (ρ y))
 rw [← hx,← hy] at h
 unfold execOp
 simp only [Sem.run_bind,Sem.run_pure,List.map_toArray,List.map_cons,List.map_nil,h,Result.andThen_ok]
theorem zuy (A:Act) (y z:Operand) (hy:A.eval y=.int .i64 (iv (A.eval y))) (hz:A.eval z=.agg (dOf (A.eval z)).cells):(execOp A.eval ⟨dst,.build 162 #[(0,.const (.int .i64 1)),(1,y),(2,z)],ty,pos,af,gd⟩).run Tryz.prog w=.ok (.value (.agg (Rc.cells ⟨1,iv (A.eval y),dOf (A.eval z),Hs.zero,0,0,Tv.zero⟩))) w:=
 ebr2 w A.eval dst ty pos af gd (.const (.int .i64 1)) y z rfl hy hz
theorem zuz (A:Act) (y z:Operand) (hy:A.eval y=.int .i64 (iv (A.eval y))) (hz:A.eval z=.agg (hOf (A.eval z)).cells):(execOp A.eval ⟨dst,.build 162 #[(0,.const (.int .i64 2)),(1,y),(3,z)],ty,pos,af,gd⟩).run Tryz.prog w=.ok (.value (.agg (Rc.cells ⟨2,iv (A.eval y),Dl.zero,hOf (A.eval z),0,0,Tv.zero⟩))) w:=
 ebr3 w A.eval dst ty pos af gd (.const (.int .i64 2)) y z rfl hy hz
theorem zacd (A:Act) (y z:Operand) (hy:A.eval y=.int .i64 (iv (A.eval y))) (hz:A.eval z=.int .i64 (iv (A.eval z))):(execOp A.eval ⟨dst,.build 118 #[(0,.const (.int .i64 3)),(1,y),(2,z)],ty,pos,af,gd⟩).run Tryz.prog w=.ok (.value (.agg (msgR (iv (A.eval y)) (iv (A.eval z))).cells)) w:=
 ebm3 w A.eval dst ty pos af gd (.const (.int .i64 3)) y z rfl hy hz
end
attribute [local go_sem ↓] zad ebl1 ebl2 zuy zuz zacd
attribute [local go_sem] zaf zai zaj zal zab zah zuw zux zl8 zl9
def RetB (L:List Nat) (w:World):Ending→World→Prop:=fun e w'=>∃ ao c,e=.returned (.slice ao L.length c)∧Below w.heap.size w w'∧Sl w' ao L.length c (bts L)
theorem zma {w:World} (hf:Forms w) {i c:Int} (he:idE i (refE c)=0):Calls Tryz.prog 163 #[.int .i64 i,.int .i64 c] w (RetB (putC i c) w):=by
 obtain ⟨hi,hc⟩:=zpr he
 have hc2:1 ≤ c∧c ≤ 24:=by unfold refE at hc;split at hc <;> omega
 have P:=zadv (zt0 hf he ⟨by omega,by omega⟩ ⟨by omega,by omega⟩)
 clear hf he hi hc hc2
 go_enter Tryz.func163,Tryz.ntmps163
 go_wp2_with fail
 refine P.out.mono ?_
 rintro _ W ⟨ao,c,rfl,hb,ho⟩
 have HB:=zadv hb
 have HO:=zadv (Sl.own ho)
 clear hb ho P
 go_wp2
 go_ret
 exact ⟨ao,c,rfl,HB.out,HO.out⟩
end
section
inductive It
 | dl (d:Dl)
 | se (i:Int) (s:Hs)
def It.row:It→Int × List Nat
 | .dl d=>(1,putD d)
 | .se i s=>(1,putS i s)
def It.rc:It→Rc
 | .dl d=>rcD d
 | .se i s=>rcS i s
def zbc (L:List It):List (Int × List Nat):=L.map It.row
def bkOf (M:List (Int × En)):List (Int × Sw):=M.map fun p=>(p.1,p.2.s)
theorem zhd (M:List (Int × En)) (k:Int):getA (bkOf M) k=(getA M k).map (·.s):=by
 induction M with
 | nil=>rfl
 | cons p M ih=>
  show (if k=p.1 then some p.2.s else getA (bkOf M) k)=(if k=p.1 then some p.2 else getA M k).map (·.s)
  rw [ih]
  split <;> rfl
theorem zpt (M:List (Int × En)) (k:Int) (e:En):bkOf (putA M k e)=putA (bkOf M) k e.s:=by
 induction M with
 | nil=>rfl
 | cons p M ih=>
  show bkOf (if k=p.1 then (k,e) :: M else p :: putA M k e)=if k=p.1 then (k,e.s) :: bkOf M else (p.1,p.2.s) :: putA (bkOf M) k e.s
  rw [← ih]
  split <;> rfl
theorem zkn (M:List (Int × En)):(bkOf M).length=M.length:=by unfold bkOf;rw [List.length_map]
theorem zmb (M:List (Int × En)):(bkOf M).map (·.1)=M.map (·.1):=by unfold bkOf;rw [List.map_map];rfl
theorem zmc {M:List (Int × En)} {k:Int} (h:getA (bkOf M) k=none):getA M k=none:=by
 rw [zhd] at h
 exact Option.map_eq_none_iff.1 h
theorem zeh {M:List (Int × En)} {k:Int} {s:Sw} (h:getA (bkOf M) k=some s):∃ b m,getA M k=some ⟨b,m,s⟩:=by
 rw [zhd] at h
 obtain ⟨e,h1,h2⟩:=Option.map_eq_some_iff.1 h
 exact ⟨e.b,e.m,by rw [h1,← h2]⟩
def swS:Option Sw→Sw
 | some s=>s
 | none=>Sw.zero
theorem swO_bk (M:List (Int × En)) (k:Int):swO (getA M k)=swS (getA (bkOf M) k):=by
 rw [zhd]
 cases getA M k <;> rfl
def newS (d:Dl):Sw:=⟨d,1,false,Hs.zero⟩
def ze0 (d:Dl) (s:Hs):Sw:=⟨d,1,true,s⟩
inductive Adds:List (Int × Sw)→It→List (Int × Sw)→Prop
 | dl {B:List (Int × Sw)} {d:Dl} (h1:za5 d=true) (h2:Small d.h.l) (h3:getA B d.i=none) (h4:B.length < 16):Adds B (.dl d) (putA B d.i (newS d))
 | se {B:List (Int × Sw)} {i:Int} {s:Hs} {d:Dl} (h1:wi i 1 1073741824=true) (h2:Small s.l) (h3:getA B i=some (newS d)) (h4:sumH s.l=d.h):Adds B (.se i s) (putA B i (ze0 d s))
inductive Run:List (Int × Sw)→List It→List (Int × Sw)→Prop
 | nil {B:List (Int × Sw)}:Run B [] B
 | cons {B B1 B2:List (Int × Sw)} {a:It} {L:List It} (h:Adds B a B1) (k:Run B1 L B2):Run B (a :: L) B2
theorem Run.snoc {B B1 B2:List (Int × Sw)} {L:List It} {a:It} (h:Run B L B1) (k:Adds B1 a B2):Run B (L ++ [a]) B2:=by
 induction h with
 | nil=>exact .cons k .nil
 | cons q _ ih=>exact .cons q (ih k)
theorem Run.head {B B2:List (Int × Sw)} {L:List It} {a:It} (h:Run B (a :: L) B2):∃ B1,Adds B a B1∧Run B1 L B2:=by
 cases h with
 | cons h k=>exact ⟨_,h,k⟩
def wtS (s:Sw):Nat:=if s.kn then 3 else 2
def wtB (B:List (Int × Sw)):Nat:=(B.map fun p=>wtS p.2).sum
theorem wtB_le (B:List (Int × Sw)):wtB B ≤ 3 * B.length:=by
 induction B with
 | nil=>exact zadw _
 | cons p B ih=>
  show wtS p.2 + wtB B ≤ 3 * (B.length + 1)
  have:wtS p.2 ≤ 3:=by unfold wtS;split <;> omega
  omega
theorem zace {B:List (Int × Sw)} {k:Int} {s:Sw} (h:getA B k=none):wtB (putA B k s)=wtB B + wtS s:=by
 induction B with
 | nil=>show wtS s + 0=0 + wtS s;omega
 | cons p B ih=>
  have h:(if k=p.1 then some p.2 else getA B k)=none:=h
  show wtB (if k=p.1 then (k,s) :: B else p :: putA B k s)=wtS p.2 + wtB B + wtS s
  by_cases e:k=p.1
  ·rw [if_pos e] at h;cases h
  ·rw [if_neg e] at h ⊢
   have:=ih h
   show wtS p.2 + wtB (putA B k s)=_
   omega
theorem zx4 {B:List (Int × Sw)} {k:Int} {s u:Sw} (h:getA B k=some u):wtB (putA B k s) + wtS u=wtB B + wtS s:=by
 induction B with
 | nil=>cases h
 | cons p B ih=>
  have h:(if k=p.1 then some p.2 else getA B k)=some u:=h
  show wtB (if k=p.1 then (k,s) :: B else p :: putA B k s) + wtS u=wtS p.2 + wtB B + wtS s
  by_cases e:k=p.1
  ·rw [if_pos e] at h ⊢
   cases h
   show wtS s + wtB B + wtS p.2=_
   omega
  ·rw [if_neg e] at h ⊢
   have:=ih h
   show wtS p.2 + wtB (putA B k s) + wtS u=_
   omega
theorem zmd {α:Type} {B:List (Int × α)} {k:Int} {s:α} (h:getA B k=none):(putA B k s).length=B.length + 1:=by
 induction B with
 | nil=>rfl
 | cons p B ih=>
  have h:(if k=p.1 then some p.2 else getA B k)=none:=h
  show (if k=p.1 then (k,s) :: B else p :: putA B k s).length=B.length + 1 + 1
  by_cases e:k=p.1
  ·rw [if_pos e] at h;cases h
  ·rw [if_neg e] at h ⊢
   show (putA B k s).length + 1=_
   rw [ih h]
theorem zko {α:Type} {B:List (Int × α)} {k:Int} {s u:α} (h:getA B k=some u):(putA B k s).length=B.length:=by
 induction B with
 | nil=>cases h
 | cons p B ih=>
  have h:(if k=p.1 then some p.2 else getA B k)=some u:=h
  show (if k=p.1 then (k,s) :: B else p :: putA B k s).length=B.length + 1
  by_cases e:k=p.1
  ·rw [if_pos e];rfl
  ·rw [if_neg e] at h ⊢
   show (putA B k s).length + 1=_
   rw [ih h]
structure Fine (B:List (Int × Sw)):Prop where
 nd:(B.map (·.1)).Nodup
 len:B.length ≤ 16
 ent:∀ p ∈ B,p.2.d.i=p.1∧za5 p.2.d=true∧Small p.2.d.h.l∧p.2.st=1
theorem Fine.nil:Fine []:=⟨List.nodup_nil,Nat.zero_le _,fun _ h=>by cases h⟩
theorem Fine.at {B:List (Int × Sw)} (h:Fine B) {k:Int} {s:Sw} (hk:getA B k=some s):s.d.i=k∧za5 s.d=true∧Small s.d.h.l∧s.st=1:=h.ent _ (zb7 hk)
theorem Fine.adds {B B':List (Int × Sw)} {a:It} (h:Fine B) (k:Adds B a B'):Fine B':=by
 cases k with
 | dl h1 h2 h3 h4=>
  refine ⟨zf7 h.nd,by rw [zmd h3];omega,fun p hp=>?_⟩
  rcases zdu hp with rfl | hp
  ·exact ⟨rfl,h1,h2,rfl⟩
  ·exact h.ent p hp
 | se h1 h2 h3 h4=>
  refine ⟨zf7 h.nd,by rw [zko h3];exact h.len,fun p hp=>?_⟩
  rcases zdu hp with rfl | hp
  ·obtain ⟨q1,q2,q3,_⟩:=h.at h3
   exact ⟨q1,q2,q3,rfl⟩
  ·exact h.ent p hp
theorem Fine.run {B B':List (Int × Sw)} {L:List It} (h:Fine B) (k:Run B L B'):Fine B':=by
 induction k with
 | nil=>exact h
 | cons q _ ih=>exact ih (h.adds q)
theorem Fine.i64 {B:List (Int × Sw)} (h:Fine B):∀ p ∈ B,I64 p.1:=fun p hp=>by
 obtain ⟨q1,q2,_⟩:=h.ent p hp
 rw [← q1]
 exact (zh8 q2).i.i64
theorem Fine.book {M:List (Int × En)} (h:Fine (bkOf M)):M.length ≤ 16∧∀ p ∈ M,I64 p.1:=
 ⟨by rw [← zkn];exact h.len,fun p hp=>h.i64 (p.1,p.2.s) (List.mem_map.2 ⟨p,hp,rfl⟩)⟩
theorem It.ok {B B':List (Int × Sw)} {a:It} (k:Adds B a B'):zd3 a.row∧npc (rowF a.row) + wtB B ≤ wtB B':=by
 cases k with
 | dl h1 h2 h3 h4=>
  rename_i d
  refine ⟨zus h2,?_⟩
  rw [zace h3]
  have:=npc_D d
  show npc (rowF (1,putD d)) + wtB B ≤ wtB B + 2
  omega
 | se h1 h2 h3 h4=>
  rename_i i s d
  refine ⟨zut h2,?_⟩
  have q:=zx4 (s:=ze0 d s) h3
  have:=npc_S i s
  have q:wtB (putA B i (ze0 d s)) + 2=wtB B + 3:=q
  show npc (rowF (1,putS i s)) + wtB B ≤ _
  omega
theorem Run.secs {B B':List (Int × Sw)} {L:List It} (k:Run B L B'):(secL (zbc L)).length + wtB B ≤ wtB B':=by
 induction k with
 | nil=>exact Nat.le_of_eq (Nat.zero_add _)
 | cons q _ ih=>
  have:=(It.ok q).2
  show (secL (_ :: zbc _)).length + _ ≤ _
  rw [zh0,List.length_append,zcm]
  omega
theorem Run.room {B:List (Int × Sw)} {L:List It} (k:Run [] L B):(secL (zbc L)).length ≤ 48:=by
 have h:=k.secs
 have h2:=wtB_le B
 have h3:=(Fine.nil.run k).len
 have h4:wtB []=0:=rfl
 omega
theorem zn5 (L:List It) (a:It):zbc (L ++ [a])=zbc L ++ [a.row]:=by unfold zbc;rw [List.map_append];rfl
end
section
attribute [local go_sem ↓] zad
attribute [local go_sem] zaf zai zaj zal zab zah zac zak zae
theorem Rs.tail {a r:List Nat} {k:Int} (h:Rs (a ++ r,k)):Rs (r,k):=
 ⟨fun x hx=>h.small x (List.mem_append_right _ hx),by have:=h.len;simp only [List.length_append] at this;show r.length < _;omega⟩
theorem But.setNew {w W:World} {p b:Nat} (h:But p w W) (hb:w.heap.size ≤ b) {i:Nat} {v:Value}:But p w (W.setCell ⟨b,i,none⟩ v):=
 ⟨h.os,h.tape,h.output,by have:=h.size;simpa [World.setCell] using this,fun k q r=>by rw [zag,if_neg (by omega)];exact h.block k q r⟩
section
variable {w:World} {B p:Nat}
theorem zd0 {x:Int} {r:List Nat} (hf:Forms w) (hp:p ≠ 0) (h0:0 ≤ x) (h1:x < 9223372036854775808) (hs:Rs (intI x ++ r,0)) (hr:RdB B w p (intI x ++ r,0)):
  Calls Tryz.prog 160 #[.pointer (some ⟨p,0,none⟩)] w fun e w'=>e=.returned (.int .i64 x)∧But p w w'∧RdB B w' p (r,0):=by
 have K:=zco hf hp hr hs.small hs.len
 rw [zdw h0 h1 r,show (((x.toNat,r,(0:Int)):Nat × RS).1:Int)=x from Int.toNat_of_nonneg h0] at K
 exact K
theorem zme {h:Hs} {r:List Nat} (hr:RdB B w p (h.l ++ r,0)) (hB:B ≤ w.heap.size):
  Calls Tryz.prog 256 #[.pointer (some ⟨p,0,none⟩)] w fun e w'=>e=.returned (.agg h.cells)∧But p w w'∧RdB B w' p (r,0):=by
 have K:=zlu hr hB
 rw [zps] at K
 exact K
end
structure RR (w0:World) (p b:Nat) (w:World) (s:RS) (r:Rc):Prop where
 rd:RdB b w p s
 row:w.heap[b]?=some (.cells r.cells 162)
 fm:Forms w
 but:But2 p b w0 w
 pos:0 < p∧0 < b∧p ≠ b
section
variable {w0 w w':World} {p b:Nat} {s s':RS} {r r':Rc}
theorem RR.read (h:RR w0 p b w s r) (hb:But p w w') (hr:RdB b w' p s'):RR w0 p b w' s' r:=
 ⟨hr,(hb.block b (zadu h.row).1 (Ne.symm h.pos.2.2)).trans h.row,hb.forms h.fm (zadw _) (Nat.pos_iff_ne_zero.1 h.pos.1),h.but.trans (But2.but hb),h.pos⟩
theorem RR.set (h:RR w0 p b w s r) {i:Nat} {v:Value} (e:r.cells.setIfInBounds i v=r'.cells):RR w0 p b (w.setCell ⟨b,i,none⟩ v) s r':=
 ⟨h.rd.other (ButN.refl.set i v) (zadw _) h.pos.2.2 (zadw _),by rw [zag,if_pos rfl,h.row];simp only [Option.map_some,e],((But2.refl p b w).set i v).forms h.fm h.pos.1 h.pos.2.1,h.but.set i v,h.pos⟩
theorem RR.over (h:RR w0 p b w s r) {C:Array Value} (e:C=r'.cells):RR w0 p b (w.setRow b C) s r':=by
 have hb2:ButN w.heap.size b w (w.setRow b C):=ButN.refl.row (.inl rfl)
 have b2:But2 p b w (w.setRow b C):=fun B h1 h2 h3=>hb2.to h3 h2
 refine ⟨h.rd.other hb2 (zadw _) h.pos.2.2 (zadw _),?_,b2.forms h.fm h.pos.1 h.pos.2.1,h.but.trans b2,h.pos⟩
 subst e
 show (w.heap.modify b fun o=>match o with | .cells _ t f=>.cells r'.cells t f | o=>o)[b]?=_
 simp only [Array.getElem?_modify,if_true,h.row,Option.map_some]
end
theorem zacf (r:Rc) (v:Int):r.cells.setIfInBounds 42 (.int .i64 v)=Rc.cells { r with d:={ r.d with q:=v } }:=by
 obtain ⟨k,i,⟨di,dr,p,g,h,q⟩,s,mv,st,t⟩:=r
 obtain ⟨f,rfl⟩:=h.form
 rfl
theorem zacg (r:Rc) (l:Lg):over r.cells 4 l.cells.toList=Rc.cells { r with d:={ r.d with p:=l } }:=rfl
theorem zach (r:Rc) (l:Lg):over r.cells 7 l.cells.toList=Rc.cells { r with d:={ r.d with g:=l } }:=rfl
theorem zaci (r:Rc) (x:Hs):over r.cells 10 x.cells.toList=Rc.cells { r with d:={ r.d with h:=x } }:=by
 obtain ⟨k,i,⟨di,dr,p,g,h,q⟩,s,mv,st,t⟩:=r
 obtain ⟨f,rfl⟩:=h.form
 obtain ⟨f',rfl⟩:=x.form
 kernel_rfl
theorem zacj (r:Rc) (x:Hs):over r.cells 43 x.cells.toList=Rc.cells { r with s:=x }:=by
 obtain ⟨k,i,⟨di,dr,p,g,h,q⟩,s,mv,st,t⟩:=r
 obtain ⟨f,rfl⟩:=h.form
 obtain ⟨f',rfl⟩:=s.form
 obtain ⟨f2,rfl⟩:=x.form
 kernel_rfl
set_option maxHeartbeats 1000000 in
theorem zpu {w:World} {B p:Nat} {l:Lg} {r:List Nat} (hf:Forms w) (hp:0 < p) (hl:LgIn l) (hs:Rs (legI l ++ r,0)) (hr:RdB B w p (legI l ++ r,0)) (hB:B ≤ w.heap.size):
  Calls Tryz.prog 255 #[.pointer (some ⟨p,0,none⟩)] w fun e w'=>e=.returned (.agg l.cells)∧But p w w'∧RdB B w' p (r,0):=by
 obtain ⟨h1,h2,h3⟩:=hl
 have e:legI l ++ r=intI l.w ++ (intI l.a ++ (intI l.u ++ r)):=by unfold legI;simp [List.append_assoc]
 rw [e] at hs hr
 have HS:=zadv hs
 have HR:=zadv hr
 have HF:=zadv hf
 have HL:=zadv (zadx h1 (zadx h2 h3))
 have hpl:=hr.rd.lt
 have PL:=zadv hpl
 clear e hs hr hf h1 h2 h3 hpl
 go_enter Tryz.func255,Tryz.ntmps255
 go_upto_region 1 with (fail)
 have b0:=zat w (.cells Lg.zero.cells 30)
 have x0:(w.alloc (.cells Lg.zero.cells 30)).heap[w.heap.size]?=some (.cells Lg.zero.cells 30):=heap_alloc_new w _
 generalize w.alloc (.cells Lg.zero.cells 30)=W at b0 x0 ⊢
 have pn:p ≠ w.heap.size:=Nat.ne_of_lt PL.out
 have K1:=zadv (zd0 (HF.out.keep (zadw _) b0) (by omega) HL.out.1.1 (by have:=HL.out.1;omega) HS.out (HR.out.keep (zadw _) b0))
 have X0:=zadv x0
 have B0:=zadv b0
 clear x0 b0
 go_wp2_with fail
 refine K1.out.mono ?_
 rintro _ W1 ⟨rfl,hb1,hr1⟩
 have lw:w.heap.size < W.heap.size:=(zadu X0.out).1
 have x1:=(hb1.block w.heap.size lw (Ne.symm pn)).trans X0.out
 have r1:=zaa x1
 have s1:=zan x1
 have hw1:But p w W1:=ButN.trans (ButN.below B0.out) (hb1.mono B0.out.size)
 have A1:=zadv (zadx hw1 (zadx hr1 x1))
 clear K1 hb1 hr1 hw1 x1 X0 B0 lw
 go_upto_region 2 with (fail)
 have h1w:But p w (W1.setCell ⟨w.heap.size,0,none⟩ (.int .i64 l.w)):=A1.out.1.setNew (zadw _)
 have hr1:RdB B (W1.setCell ⟨w.heap.size,0,none⟩ (.int .i64 l.w)) p (intI l.a ++ (intI l.u ++ r),0):=A1.out.2.1.other (ButN.refl.set 0 _) (zadw _) pn hB
 have x1:(W1.setCell ⟨w.heap.size,0,none⟩ (.int .i64 l.w)).heap[w.heap.size]?=some (.cells (Lg.cells ⟨l.w,0,0⟩) 30):=by rw [zag,if_pos rfl,A1.out.2.2];rfl
 generalize W1.setCell ⟨w.heap.size,0,none⟩ (.int .i64 l.w)=V1 at h1w hr1 x1 ⊢
 have K2:=zadv (zd0 (h1w.forms HF.out (zadw _) (by omega)) (by omega) (by have:=HL.out.2.1;omega) (by have:=HL.out.2.1;omega) HS.out.tail hr1)
 have A2:=zadv (zadx h1w x1)
 clear A1 h1w hr1 x1 r1 s1
 go_wp2_with fail
 refine K2.out.mono ?_
 rintro _ W2 ⟨rfl,hb1,hr1⟩
 have x1:=(hb1.block w.heap.size (zadu A2.out.2).1 (Ne.symm pn)).trans A2.out.2
 have r1:=zaa x1
 have s1:=zan x1
 have A1:=zadv (zadx (But.trans A2.out.1 hb1) (zadx hr1 x1))
 clear K2 hb1 hr1 x1 A2
 go_upto_region 3 with (fail)
 have h1w:But p w (W2.setCell ⟨w.heap.size,1,none⟩ (.int .i64 l.a)):=A1.out.1.setNew (zadw _)
 have hr1:RdB B (W2.setCell ⟨w.heap.size,1,none⟩ (.int .i64 l.a)) p (intI l.u ++ r,0):=A1.out.2.1.other (ButN.refl.set 1 _) (zadw _) pn hB
 have x1:(W2.setCell ⟨w.heap.size,1,none⟩ (.int .i64 l.a)).heap[w.heap.size]?=some (.cells (Lg.cells ⟨l.w,l.a,0⟩) 30):=by rw [zag,if_pos rfl,A1.out.2.2];rfl
 generalize W2.setCell ⟨w.heap.size,1,none⟩ (.int .i64 l.a)=V2 at h1w hr1 x1 ⊢
 have K3:=zadv (zd0 (h1w.forms HF.out (zadw _) (by omega)) (by omega) HL.out.2.2.1 (by have:=HL.out.2.2;omega) HS.out.tail.tail hr1)
 have A2:=zadv (zadx h1w x1)
 clear A1 h1w hr1 x1 r1 s1
 go_wp2_with fail
 refine K3.out.mono ?_
 rintro _ W3 ⟨rfl,hb1,hr1⟩
 have x1:=(hb1.block w.heap.size (zadu A2.out.2).1 (Ne.symm pn)).trans A2.out.2
 have r1:=zaa x1
 have s1:=zan x1
 have A1:=zadv (zadx (But.trans A2.out.1 hb1) (zadx hr1 x1))
 clear K3 hb1 hr1 x1 A2
 go_upto_region 4 with (fail)
 have h1w:But p w (W3.setCell ⟨w.heap.size,2,none⟩ (.int .i64 l.u)):=A1.out.1.setNew (zadw _)
 have hr1:RdB B (W3.setCell ⟨w.heap.size,2,none⟩ (.int .i64 l.u)) p (r,0):=A1.out.2.1.other (ButN.refl.set 2 _) (zadw _) pn hB
 have x1:(W3.setCell ⟨w.heap.size,2,none⟩ (.int .i64 l.u)).heap[w.heap.size]?=some (.cells l.cells 30):=by rw [zag,if_pos rfl,A1.out.2.2];rfl
 generalize W3.setCell ⟨w.heap.size,2,none⟩ (.int .i64 l.u)=V3 at h1w hr1 x1 ⊢
 have r2:=zaa x1
 have s2:=zan x1
 have l1:=ztk l
 have ov:=zzz l l
 have A2:=zadv (zadx h1w (zadx hr1 x1))
 clear A1 h1w hr1 x1 r1 s1
 go_wp2
 have hself:ButN V3.heap.size w.heap.size V3 (V3.setRow w.heap.size l.cells):=ButN.refl.row (.inl rfl)
 have hc:rowOf (V3.setRow w.heap.size l.cells) w.heap.size=l.cells:=by rw [zab _ _ _ _ (zan A2.out.2.2),if_pos rfl]
 refine bodyPost_ret (za6 (t:=30) rfl Tryz.underlying30 rfl (by kernel_rfl) _ _ w.heap.size rfl hc rfl) rfl ?_
 exact ⟨rfl,ButN.row A2.out.1 (.inr (zadw _)),A2.out.2.1.other hself (zadw _) pn hB⟩
end
end Go.Proofs.YthjgiamfaijoeaaGreatDoor
