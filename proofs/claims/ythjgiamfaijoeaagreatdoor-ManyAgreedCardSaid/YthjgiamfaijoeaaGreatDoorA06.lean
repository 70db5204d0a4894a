/- What is proved: parts of the walk and of the plain law. No condition but those each law names. -/
import Derived.Test.YthjgiamfaijoeaaGreatDoorA02
import Derived.Test.YthjgiamfaijoeaaGreatDoorA05
import Derived.Test.YthjgiamfaijoeaaGreatDoorA00
set_option linter.unusedSimpArgs false
set_option linter.unusedVariables false
namespace Go.Proofs.YthjgiamfaijoeaaGreatDoor
open Go.RowKit
open Sx (Ab DW Turns Did Foot)
set_option maxRecDepth 100000
structure Jr where
 first:Int
 at_:Int
 turn:Int
 dead:Bool
def Jr.cells (j:Jr) (dv:Value):Array Value:=#[dv,.int .i64 j.first,.int .i64 j.at_,.int .i64 j.turn,.bool j.dead]
structure JD (w:World) (F:Foot) (dv:Value) (A:Ab) (b:Nat) (j:Jr):Prop where
 dw:DW w F dv A
 jr:w.heap[b]?=some (.cells (j.cells dv) 266)
 ap:∀ x,¬ F b x
theorem JD.lt {w:World} {F:Foot} {dv:Value} {A:Ab} {b:Nat} {j:Jr} (h:JD w F dv A b j):b < w.heap.size:=(zac7 h.jr).1
theorem JD.cell {w:World} {F:Foot} {dv:Value} {A:Ab} {b:Nat} {j:Jr} (h:JD w F dv A b j) (k:Nat):w.cell? ⟨b,k,none⟩=(j.cells dv)[k]?:=by
 unfold World.cell?
 simp [h.jr]
theorem JD.unfrozen {w:World} {F:Foot} {dv:Value} {A:Ab} {b:Nat} {j:Jr} (h:JD w F dv A b j) (k:Nat):w.frozen? ⟨b,k,none⟩=false:=by
 simp [World.frozen?,h.jr]
theorem JD.did {w w':World} {F F':Foot} {dv:Value} {A A':Ab} {b:Nat} {j:Jr} (h:JD w F dv A b j) (hd:DW w' F' dv A') (ht:Turns F w w') (hb:∀ i x,F' i x→F i x ∨ w.heap.size ≤ i):JD w' F' dv A' b j:=
 ⟨hd,(ht.block b h.lt h.ap).trans h.jr,fun x hx=>(hb b x hx).elim (h.ap x) fun h2=>absurd h.lt (by omega)⟩
theorem JD.below {w w':World} {F:Foot} {dv:Value} {A:Ab} {b:Nat} {j:Jr} (h:JD w F dv A b j) (hw:Below w.heap.size w w'):JD w' F dv A b j:=
 ⟨h.dw.below hw,(hw.block b h.lt).trans h.jr,h.ap⟩
theorem JD.set {w:World} {F:Foot} {dv:Value} {A:Ab} {b:Nat} {j j':Jr} (h:JD w F dv A b j) {k:Nat} {v:Value} (e:(j.cells dv).set! k v=j'.cells dv):JD (w.setCell ⟨b,k,none⟩ v) F dv A b j':=by
 refine ⟨h.dw.keep (S:=fun i x=>i=b∧k ≤ x∧x < k + [v].length) (Sx.Fr.setCells w b k [v]) fun i x hf hs=>h.ap x (by rw [← hs.1];exact hf),?_,h.ap⟩
 have:=h.jr
 simp only [World.setCell,Array.getElem?_modify,h.jr,if_true,Option.map_some]
 rw [← e]
 rfl
structure Went (F:Foot) (b:Nat) (w:World) (F':Foot) (w':World):Prop where
 os:w'.os=w.os
 tape:w'.tape=w.tape
 output:w'.output=w.output
 size:w.heap.size ≤ w'.heap.size
 block:∀ k,k < w.heap.size→k ≠ b→(∀ x,¬ F k x)→w'.heap[k]?=w.heap[k]?
 fb:∀ i x,F' i x→F i x ∨ w.heap.size ≤ i
theorem Went.refl (F:Foot) (b:Nat) (w:World):Went F b w F w:=⟨rfl,rfl,rfl,zac9 _,fun _ _ _ _=>rfl,fun _ _ h=>.inl h⟩
theorem Went.trans {F F1 F2:Foot} {b:Nat} {w w1 w2:World} (h:Went F b w F1 w1) (h':Went F1 b w1 F2 w2):Went F b w F2 w2:=
 ⟨h'.os.trans h.os,h'.tape.trans h.tape,h'.output.trans h.output,Nat.le_trans h.size h'.size,
  fun k hk hne hf=>(h'.block k (Nat.lt_of_lt_of_le hk h.size) hne fun x hx=>(h.fb k x hx).elim (hf x) (by omega)).trans (h.block k hk hne hf),
  fun i x hx=>(h'.fb i x hx).elim (fun h1=>h.fb i x h1) fun h1=>.inr (Nat.le_trans h.size h1)⟩
theorem Went.of_did {F F':Foot} {b:Nat} {w w':World} (ht:Turns F w w') (hb:∀ i x,F' i x→F i x ∨ w.heap.size ≤ i):Went F b w F' w':=
 ⟨ht.os,ht.tape,ht.output,ht.size,fun k hk _ hf=>ht.block k hk hf,hb⟩
theorem Went.of_below {F:Foot} {b:Nat} {w w':World} (h:Below w.heap.size w w'):Went F b w F w':=⟨h.os,h.tape,h.output,h.size,fun k hk _ _=>h.block k hk,fun _ _ h=>.inl h⟩
theorem Went.of_set {F:Foot} {b k:Nat} {w:World} {v:Value}:Went F b w F (w.setCell ⟨b,k,none⟩ v):=
 ⟨rfl,rfl,rfl,by simp,fun i _ hne _=>Below.heap_setCell _ _ _ _ hne,fun _ _ h=>.inl h⟩
theorem JD.grown {w w':World} {F:Foot} {dv:Value} {A:Ab} {b:Nat} {j:Jr} {row:Option Nat} (h:JD w F dv A b j) (hgr:w.grownBy w' row) (hc:∀ k,row=some k→k ≠ b∧∀ x,¬ F k x):JD w' F dv A b j:=by
 refine ⟨h.dw.keepB fun i ⟨x,hx⟩=>hgr.block i (h.dw.lt hx) fun e=>(hc i e.symm).2 x hx,?_,h.ap⟩
 rw [hgr.block b h.lt fun e=>(hc b e.symm).1 rfl]
 exact h.jr
theorem Went.grown {F F1:Foot} {b:Nat} {w w1 w2:World} {row:Option Nat} (h:Went F b w F1 w1) (hgr:w1.grownBy w2 row) (hrow:∀ k,row=some k→w.heap.size ≤ k):Went F b w F1 w2:=
 ⟨hgr.os.trans h.os,hgr.tape.trans h.tape,hgr.output.trans h.output,Nat.le_trans h.size hgr.size,
  fun k hk hne hf=>(hgr.block k (Nat.lt_of_lt_of_le hk h.size) fun e=>absurd hk (by have:=hrow k e.symm;omega)).trans (h.block k hk hne hf),h.fb⟩
def JDid (F:Foot) (w:World) (dv:Value) (b:Nat) (A':Ab) (j':Jr) (v:Value):Ending→World→Prop:=fun e w'=>e=.returned v∧∃ F',JD w' F' dv A' b j'∧Went F b w F' w'
theorem zoq {F F':Foot} {b:Nat} {w w':World} {B e s n:Nat} {v:Value} {xs:List Value} (h:w.ownsRow B e s v n xs) (hw:Went F b w F' w') (hc:∀ k,v.ownBlock=some k→k ≠ b∧∀ x,¬ F k x):w'.ownsRow B e s v n xs:=by
 refine ⟨h.1,?_⟩
 have hl:=h.lt
 rcases h.2 with h1 | ⟨g,c,cur,hv,hb,hg,r⟩
 ·exact .inl h1
 ·have e1:v.ownBlock=some g:=by rw [hv];rfl
  obtain ⟨h2,h3⟩:=hc g e1
  exact .inr ⟨g,c,cur,hv,hb,(hw.block g (hl g e1).2 h2 h3).trans hg,r⟩
theorem zor {w:World} {F:Foot} {dv:Value} {A:Ab} {b:Nat} {j:Jr} (h:JD w F dv A b j):
  Calls Tryz.prog 311 #[.pointer (some ⟨b,0,none⟩)] w (JDid F w dv b A { j with dead:=j.dead || A.off } (.bool (j.dead || A.off))):=by
 have c0:w.cell? ⟨b,0,none⟩=some dv:=h.cell 0
 have c4:w.cell? ⟨b,4,none⟩=some (.bool j.dead):=h.cell 4
 have hf:=h.unfrozen 4
 have H:=zac8 h
 clear h
 cases hd:j.dead with
 | true=>
  rw [hd] at c4
  have HS:=zac8 (H.out.set (k:=4) (v:=.bool true) (j':={ j with dead:=true }) rfl)
  have HW:=zac8 (Went.of_set (F:=F) (b:=b) (k:=4) (w:=w) (v:=.bool true))
  go_enter Tryz.func311,Tryz.ntmps311
  go_wp2
  go_ret
  exact ⟨rfl,F,HS.out,HW.out⟩
 | false=>
  rw [hd] at c4
  go_enter Tryz.func311,Tryz.ntmps311
  go_wp2_with (go_at_call 175;refine (Sx.down_w H.out.dw).mono ?_;rintro _ w2 ⟨rfl,F',d1,d2,d3⟩;have H2:=zac8 (H.out.did d1 d2 d3);have W2:=zac8 (Went.of_did (b:=b) d2 d3);have f2:=H2.out.unfrozen 4;have e4:w2.cell? ⟨b,4,none⟩=some (.bool j.dead):=H2.out.cell 4;rw [hd] at e4;have HS:=zac8 (H2.out.set (k:=4) (v:=.bool A.off) (j':={ j with dead:=A.off }) rfl);clear d1 d2 d3)
  go_ret
  exact ⟨rfl,F',HS.out,W2.out.trans Went.of_set⟩
theorem zv8 {w:World} {F:Foot} {dv:Value} {A:Ab} {b:Nat} {j:Jr} (h:JD w F dv A b j) (h0:0 ≤ j.first∧j.first ≤ 256) (h1:0 ≤ j.at_∧j.at_ ≤ 512):Calls Tryz.prog 313 #[.pointer (some ⟨b,0,none⟩)] w (Ret (.int .i64 (j.first + 256 - j.at_)) w):=by
 have c1:w.cell? ⟨b,1,none⟩=some (.int .i64 j.first):=h.cell 1
 have c2:w.cell? ⟨b,2,none⟩=some (.int .i64 j.at_):=h.cell 2
 obtain ⟨a1,a2⟩:=h0
 obtain ⟨a3,a4⟩:=h1
 have e1:wrap64 (j.first + 256)=j.first + 256:=IntWalk.wrap64_in _ (by omega)
 have e2:wrap64 (j.first + 256 - j.at_)=j.first + 256 - j.at_:=IntWalk.wrap64_in _ (by omega)
 clear h
 have gc1:=zc6 c1
 have gc2:=zc6 c2
 go_enter Tryz.func313,Tryz.ntmps313
 go_wp2
 (refine zay (by kernel_rfl) (by kernel_rfl) ?_;(repeat (go_big_quiet_step ((fail))));refine wpQuiet_nil ?_;rintro _ ⟨g,rfl⟩)
 go_wp2
 go_ret
 exact Ret.mk_of g.below rfl
inductive Stp where
 | wr (i:Int) (l:List Nat)
 | sy
def Stp.A (s:Stp) (A:Ab):Ab:=match s with
 | .wr i l=>A.wr i l
 | .sy=>A.syc
def Stp.e (s:Stp) (A:Ab):Int:=match s with
 | .wr i l=>A.wrE i l
 | .sy=>A.sycE
def StpAt (w:World) (F:Foot) (b:Nat) (dv:Value) (N:Nat) (v:Value):Stp→Prop
 | .wr i l=>∃ b1 b2 b3 ao n c,v=.func (.func 250) #[] #[.pointer (some ⟨b1,0,none⟩),.pointer (some ⟨b2,0,none⟩),.pointer (some ⟨b3,0,none⟩)]∧
   w.heap[b1]?=some (.cells #[.pointer (some ⟨b,0,none⟩)] 188)∧w.heap[b2]?=some (.cells #[.int .i64 i] 3)∧w.heap[b3]?=some (.cells #[.slice ao n c] 37)∧
   (∀ k,k=b1 ∨ k=b2 ∨ k=b3→k ≠ b∧∀ x,¬ F k x)∧0 ≤ i∧i < 512∧n ≤ 128∧Sl w ao n c (bts l)∧∀ k o,ao=some ⟨k,o,none⟩→k < N∧k < w.heap.size∧k ≠ b∧∀ x,¬ F k x
 | .sy=>v=.func (.func 181) #[dv] #[]
theorem zhp {w:World} {k:Nat} {v:Value} {t:TypeId} (h:w.heap[k]?=some (.cells #[v] t)):w.cell? ⟨k,0,none⟩=some v:=by
 unfold World.cell?
 simp [h]
theorem StpAt.stay {w w':World} {F F':Foot} {b N:Nat} {dv v:Value} {s:Stp} (h:StpAt w F b dv N v s) (hsz:w.heap.size ≤ w'.heap.size) (hfb:∀ i x,F' i x→F i x ∨ w.heap.size ≤ i)
  (hw:∀ k,k < w.heap.size→k ≠ b→(∀ x,¬ F k x)→(k < N ∨ ∃ y t,w.heap[k]?=some (.cells #[y] t)∧(t=188 ∨ t=3 ∨ t=37))→w'.heap[k]?=w.heap[k]?):StpAt w' F' b dv N v s:=by
 cases s with
 | sy=>exact h
 | wr i l=>
  obtain ⟨b1,b2,b3,ao,n,c,h1,h2,h3,h4,h5,h6,h7,h8,h9,h10⟩:=h
  have hc:∀ (k:Nat) y t,w.heap[k]?=some (.cells #[y] t)→(t=188 ∨ t=3 ∨ t=37)→k ≠ b∧(∀ x,¬ F k x)→w'.heap[k]?=some (.cells #[y] t)∧∀ x,¬ F' k x:=fun k y t hx ht hk=>by
   have hlt:=(zac7 hx).1
   exact ⟨(hw k hlt hk.1 hk.2 (.inr ⟨y,t,hx,ht⟩)).trans hx,fun x hx=>(hfb k x hx).elim (hk.2 x) fun h=>absurd hlt (by omega)⟩
  have q1:=hc b1 _ _ h2 (.inl rfl) (h5 b1 (.inl rfl))
  have q2:=hc b2 _ _ h3 (.inr (.inl rfl)) (h5 b2 (.inr (.inl rfl)))
  have q3:=hc b3 _ _ h4 (.inr (.inr rfl)) (h5 b3 (.inr (.inr rfl)))
  refine ⟨b1,b2,b3,ao,n,c,h1,q1.1,q2.1,q3.1,?_,h6,h7,h8,⟨h9.len,h9.le,h9.nil,?_⟩,?_⟩
  ·rintro k (rfl | rfl | rfl)
   ·exact ⟨(h5 _ (.inl rfl)).1,q1.2⟩
   ·exact ⟨(h5 _ (.inr (.inl rfl))).1,q2.2⟩
   ·exact ⟨(h5 _ (.inr (.inr rfl))).1,q3.2⟩
  ·rcases h9.cells with e | ⟨k,o,e,hcs⟩
   ·exact .inl e
   ·obtain ⟨t0,t1,t2,t3⟩:=h10 k o e
    refine .inr ⟨k,o,e,fun y x hy=>?_⟩
    rw [← hcs y x hy]
    unfold World.cell?
    rw [hw k t1 t2 t3 (.inl t0)]
  ·intro k o e
   obtain ⟨t0,t1,t2,t3⟩:=h10 k o e
   exact ⟨t0,Nat.lt_of_lt_of_le t1 hsz,t2,fun x hx=>(hfb k x hx).elim (t3 x) fun h=>absurd t1 (by omega)⟩
theorem StpAt.went {w w':World} {F F':Foot} {b N:Nat} {dv v:Value} {s:Stp} (h:StpAt w F b dv N v s) (hw:Went F b w F' w'):StpAt w' F' b dv N v s:=
 h.stay hw.size hw.fb fun k h1 h2 h3 _=>hw.block k h1 h2 h3
theorem StpAt.apart {w w':World} {F:Foot} {b N B n:Nat} {dv v u:Value} {s:Stp} {ys:List Value} (h:StpAt w F b dv N u s) (hgr:w.grownBy w' v.ownBlock) (hv:w.ownsRow B 83 1 v n ys) (hN:N ≤ B):StpAt w' F b dv N u s:=by
 have hs:w.heap.size ≤ w'.heap.size:=((Below.refl 0 w).grown hgr (Nat.zero_le _) (fun k _=>Nat.zero_le k)).size
 refine h.stay hs (fun _ _ h=>.inl h) fun k h1 _ _ h4=>?_
 refine hgr.block k h1 fun e=>?_
 have e:=e.symm
 have hb:=zbb hv k e
 rcases h4 with h4 | ⟨y,t,h4,h5⟩
 ·omega
 ·rcases hv.2 with ⟨h,_⟩ | ⟨g,c,cur,h,_,h6,_⟩
  ·subst h;cases e
  ·subst h
   have:g=k:=by simpa [Value.ownBlock] using e
   subst this
   rw [h4] at h6
   cases h6
   rcases h5 with h5 | h5 | h5 <;> cases h5
def stpsE:List Stp→Ab→Int
 | [],_=>0
 | s :: r,A=>if s.e A=0 then stpsE r (s.A A) else s.e A
def stpsA:List Stp→Ab→Ab
 | [],A=>A
 | s :: r,A=>if s.e A=0 then stpsA r (s.A A) else s.A A
structure StpsAt (w:World) (F:Foot) (b:Nat) (dv v:Value) (L:List Stp):Prop where
 row:∃ B vs,w.ownsRow B 83 1 v L.length vs∧∀ (i:Nat) s,L[i]?=some s→∃ u,vs[i]?=some u∧∃ N,StpAt w F b dv N u s
 clear:∀ k,v.ownBlock=some k→k ≠ b∧∀ x,¬ F k x
theorem StpsAt.went {w w':World} {F F':Foot} {b:Nat} {dv v:Value} {L:List Stp} (h:StpsAt w F b dv v L) (hw:Went F b w F' w'):StpsAt w' F' b dv v L:=by
 obtain ⟨B,vs,h1,h2⟩:=h.row
 refine ⟨⟨B,vs,zoq h1 hw h.clear,fun i s hs=>?_⟩,fun k hk=>⟨(h.clear k hk).1,fun x hx=>?_⟩⟩
 ·obtain ⟨u,h3,N,h4⟩:=h2 i s hs
  exact ⟨u,h3,N,h4.went hw⟩
 ·have:=(h1.lt k hk).2
  exact (hw.fb k x hx).elim ((h.clear k hk).2 x) fun h=>absurd this (by omega)
theorem zv9:Elem Tryz.prog 271 83 1:=Elem.mk' Tryz.underlying271 (by kernel_rfl) (z:=.nilFunc) (bytes:=8) rfl (by decide) (by decide)
theorem zsa {w:World} {F:Foot} {dv:Value} {A:Ab} {b:Nat} {j:Jr} (h:JD w F dv A b j) {b1 b2 b3:Nat} {i:Int} {ao:Option Addr} {n c:Nat} {l:List Nat}
  (h1:w.cell? ⟨b1,0,none⟩=some (.pointer (some ⟨b,0,none⟩))) (h2:w.cell? ⟨b2,0,none⟩=some (.int .i64 i)) (h3:w.cell? ⟨b3,0,none⟩=some (.slice ao n c)) (hi:0 ≤ i∧i < 512) (hn:n ≤ 128) (hs:Sl w ao n c (bts l))
  (hap:∀ k o,ao=some ⟨k,o,none⟩→∀ x,¬ F k x):Calls Tryz.prog 250 #[.pointer (some ⟨b1,0,none⟩),.pointer (some ⟨b2,0,none⟩),.pointer (some ⟨b3,0,none⟩)] w (JDid F w dv b (A.wr i l) j (.int .i64 (A.wrE i l))):=by
 have c0:w.cell? ⟨b,0,none⟩=some dv:=h.cell 0
 have g0:=zc6 c0
 have g1:=zc6 h1
 have g2:=zc6 h2
 have g3:=zc6 h3
 have H:=zac8 h
 have HS:=zac8 hs
 have HA:=zac8 hap
 clear h hs hap
 go_enter Tryz.func250,Tryz.ntmps250
 go_wp2
 (refine zap 6 (by kernel_rfl) (by kernel_rfl) ?_;simp only [List.take_succ_cons,List.take_zero,List.drop_succ_cons,List.drop_zero];(repeat (go_big_quiet_step ((fail))));refine wpQuiet_nil ?_;rintro _ ⟨g,rfl⟩)
 go_wp2_with (go_at_call 251;refine (Sx.write_w (H.out.below g.below).dw hi (HS.out.ext g) hn (fun k o q e _=>HA.out k o e (o + q))).mono ?_;rintro _ w2 ⟨rfl,F',d1,d2,d3⟩;have H2:=zac8 ((H.out.below g.below).did d1 d2 d3);have W2:=zac8 ((Went.of_below (F:=F) (b:=b) g.below).trans (Went.of_did (b:=b) d2 d3));clear d1 d2 d3)
 go_ret
 exact ⟨rfl,F',H2.out,W2.out⟩
theorem zqi {w:World} {F:Foot} {dv:Value} {A:Ab} {b:Nat} {j:Jr} (h:JD w F dv A b j):Calls Tryz.prog 181 #[dv] w (JDid F w dv b A.syc j (.int .i64 A.sycE)):=by
 refine (Sx.sync_w h.dw).mono ?_
 rintro _ w2 ⟨rfl,F',d1,d2,d3⟩
 exact ⟨rfl,F',h.did d1 d2 d3,Went.of_did d2 d3⟩
set_option maxHeartbeats 2000000 in
theorem zgz {w:World} {F:Foot} {dv:Value} {A:Ab} {b:Nat} {j:Jr} (h:JD w F dv A b j) {v:Value} {L:List Stp} (hL:StpsAt w F b dv v L) (hn:L.length ≤ 100000):
  Calls Tryz.prog 178 #[.pointer (some ⟨b,0,none⟩),v] w (JDid F w dv b (stpsA L A) { j with dead:=j.dead || decide (stpsE L A ≠ 0) } (.int .i64 (stpsE L A))):=by
 obtain ⟨B,vs,hown,hst⟩:=hL.row
 obtain ⟨ao,cap,rfl⟩:=za7 hown
 have H:=zac8 h
 have HL:=zac8 hL
 clear h hL
 go_enter Tryz.func178,Tryz.ntmps178
 go_wp2
 go_loopw [6,7,10] (fun _ _ v10 wr=>∃ (i:Nat) (F1:Foot) (A1:Ab),i ≤ L.length∧v10=.int .i64 i∧JD wr F1 dv A1 b j∧Went F b w F1 wr∧stpsA L A=stpsA (L.drop i) A1∧stpsE L A=stpsE (L.drop i) A1) (fun _ _ v10 _=>L.length - (intOf v10).toNat)
 case atStart=>exact ⟨0,F,A,Nat.zero_le _,rfl,H.out,Went.refl F b w,rfl,rfl⟩
 case round=>
  obtain ⟨i,F1,A1,hi,rfl,h1,hw,ea,ee⟩:=hrel
  have HS:=HL.out.went hw
  obtain ⟨B1,vs1,hown1,hst1⟩:=HS.row
  have HC:=zac8 HS.clear
  by_cases hlt:i < L.length
  ·obtain ⟨s,hs⟩:∃ s,L[i]?=some s:=⟨_,List.getElem?_eq_getElem hlt⟩
   obtain ⟨u,hu,N,hsu⟩:=hst1 i s hs
   obtain ⟨b0,o0,rfl,_,hc⟩:=(Sl.own hown1).at (by omega)
   have hx:=hc i u hu
   have hdr:L.drop i=s :: L.drop (i + 1):=by
    rw [List.drop_eq_getElem_cons hlt]
    congr 1
    exact Option.some.inj ((List.getElem?_eq_getElem hlt).symm.trans hs)
   rw [hdr] at ea ee
   have EA:=zac8 ea
   have EE:=zac8 ee
   have H1:=zac8 h1
   have HW:=zac8 hw
   have hlt2:(i:Int) < L.length:=by omega
   clear hdr ea ee h1 hw HS hst1 hst hc hown1 hown
   cases s with
   | sy=>
    have hsu2:u=.func (.func 181) #[dv] #[]:=hsu
    subst hsu2
    clear hsu
    go_wp2_with (fail)
    refine (zqi H1.out).mono ?_
    rintro _ w2 ⟨rfl,F2,h2,W2⟩
    have H2:=zac8 h2
    have WW:=zac8 (HW.out.trans W2)
    have c4:w2.cell? ⟨b,4,none⟩=some (.bool j.dead):=h2.cell 4
    have f4:=h2.unfrozen 4
    have HD:=zac8 (h2.set (k:=4) (v:=.bool true) (j':={ j with dead:=true }) rfl)
    clear h2 W2
    by_cases he:A1.sycE=0
    ·have EA2:=zac8 (EA.out.trans (if_pos he))
     have EE2:=zac8 (EE.out.trans (if_pos he))
     rw [he]
     clear he
     go_wp2
     go_roundw
     case rel=>exact ⟨i + 1,F2,_,by omega,rfl,H2.out,WW.out,EA2.out,EE2.out⟩
     case measure=>simp [intOf];omega
    ·have EA2:=zac8 (EA.out.trans (if_neg he))
     have EE2:=zac8 (EE.out.trans (if_neg he))
     have HN:=zac8 he
     have hb:(A1.sycE == 0)=false:=by rw [beq_eq_false_iff_ne];exact he
     clear he EA EE
     have e1:Stp.e .sy A1=A1.sycE:=rfl
     generalize A1.sycE=er at *
     go_wp2
     go_ret
     refine ⟨by rw [EE2.out,e1];rfl,F2,?_,WW.out.trans Went.of_set⟩
     rw [EA2.out,EE2.out,e1,decide_eq_true HN.out,Bool.or_true]
     exact HD.out
   | wr k l=>
    obtain ⟨b1,b2,b3,ao,n,c,rfl,q1,q2,q3,q4,q5,q6,q7,q8,q9⟩:=hsu
    have Q:=zac8 (zsa (l:=l) H1.out (zhp q1) (zhp q2) (zhp q3) ⟨q5,q6⟩ q7 q8 (fun k o e=>(q9 k o e).2.2.2))
    clear q1 q2 q3 q4 q5 q6 q7 q8 q9
    go_wp2_with (fail)
    refine Q.out.mono ?_
    rintro _ w2 ⟨rfl,F2,h2,W2⟩
    have H2:=zac8 h2
    have WW:=zac8 (HW.out.trans W2)
    have c4:w2.cell? ⟨b,4,none⟩=some (.bool j.dead):=h2.cell 4
    have f4:=h2.unfrozen 4
    have HD:=zac8 (h2.set (k:=4) (v:=.bool true) (j':={ j with dead:=true }) rfl)
    clear h2 W2
    by_cases he:A1.wrE k l=0
    ·have EA2:=zac8 (EA.out.trans (if_pos he))
     have EE2:=zac8 (EE.out.trans (if_pos he))
     rw [he]
     clear he
     go_wp2
     go_roundw
     case rel=>exact ⟨i + 1,F2,_,by omega,rfl,H2.out,WW.out,EA2.out,EE2.out⟩
     case measure=>simp [intOf];omega
    ·have EA2:=zac8 (EA.out.trans (if_neg he))
     have EE2:=zac8 (EE.out.trans (if_neg he))
     have HN:=zac8 he
     have hb:(A1.wrE k l == 0)=false:=by rw [beq_eq_false_iff_ne];exact he
     clear he EA EE
     have e1:Stp.e (.wr k l) A1=A1.wrE k l:=rfl
     generalize A1.wrE k l=er at *
     go_wp2
     go_ret
     refine ⟨by rw [EE2.out,e1];rfl,F2,?_,WW.out.trans Went.of_set⟩
     rw [EA2.out,EE2.out,e1,decide_eq_true HN.out,Bool.or_true]
     exact HD.out
  ·obtain rfl:i=L.length:=by omega
   rw [List.drop_length] at ea ee
   have EA:=zac8 ea
   have EE:=zac8 ee
   have H1:=zac8 h1
   have HW:=zac8 hw
   clear ea ee h1 hw HS hst1 hst hown1 hown
   go_wp2
   go_ret
   refine ⟨by rw [EE.out];rfl,F1,?_,HW.out⟩
   rw [EA.out,EE.out]
   have e0:decide (stpsE [] A1 ≠ 0)=false:=rfl
   rw [e0,Bool.or_false]
   exact H1.out
theorem zwa (w:World) (b:Nat) (i:Int) (ao:Option Addr) (n c:Nat):Calls Tryz.prog 179 #[.pointer (some ⟨b,0,none⟩),.int .i64 i,.slice ao n c] w fun e w'=>
  e=.returned (.func (.func 250) #[] #[.pointer (some ⟨w.heap.size,0,none⟩),.pointer (some ⟨w.heap.size + 1,0,none⟩),.pointer (some ⟨w.heap.size + 1 + 1,0,none⟩)])∧
  w'=((w.alloc (.cells #[.pointer (some ⟨b,0,none⟩)] 188)).alloc (.cells #[.int .i64 i] 3)).alloc (.cells #[.slice ao n c] 37):=by
 go_enter Tryz.func179,Tryz.ntmps179
 go_wp2
 go_ret
 exact ⟨rfl,rfl⟩
theorem zjo (w:World) (v:Value) (t:TypeId) {k:Nat} (hk:w.heap.size=k):(w.alloc (.cells #[v] t)).heap[k]?=some (.cells #[v] t):=by
 subst hk
 exact heap_alloc_new w _
theorem zm2 {w:World} {k:Nat} {o1:Obj} (h:w.heap[k]?=some o1) (o:Obj):(w.alloc o).heap[k]?=some o1:=by
 rw [Below.heap_alloc w o k (zac7 h).1]
 exact h
theorem zhq {w:World} {F:Foot} {dv:Value} {A:Ab} {b:Nat} {j:Jr} (h:JD w F dv A b j) {i:Int} (hi:0 ≤ i∧i < 512) {ao:Option Addr} {n c:Nat} {l:List Nat} (hn:n ≤ 128) (hs:Sl w ao n c (bts l)) {N:Nat} (hap:∀ k o,ao=some ⟨k,o,none⟩→k < N∧k < w.heap.size∧k ≠ b∧∀ x,¬ F k x):
  Calls Tryz.prog 179 #[.pointer (some ⟨b,0,none⟩),.int .i64 i,.slice ao n c] w fun e w'=>∃ u,e=.returned u∧u.oneCell'=true∧Below w.heap.size w w'∧StpAt w' F b dv N u (.wr i l):=by
 refine (zwa w b i ao n c).mono ?_
 rintro _ _ ⟨rfl,rfl⟩
 have hb:Below w.heap.size w (((w.alloc (.cells #[.pointer (some ⟨b,0,none⟩)] 188)).alloc (.cells #[.int .i64 i] 3)).alloc (.cells #[.slice ao n c] 37)):=
  (((Below.refl _ w).alloc (zac9 _) _).alloc (by simp) _).alloc (by simp only [World.size_alloc];omega) _
 have hlt:=h.lt
 have hf:∀ k,w.heap.size ≤ k→∀ x,¬ F k x:=fun k hk x hx=>absurd (h.dw.lt hx) (by omega)
 refine ⟨_,rfl,rfl,hb,w.heap.size,w.heap.size + 1,w.heap.size + 1 + 1,ao,n,c,rfl,?_,?_,?_,?_,hi.1,hi.2,hn,hs.keep (zac9 _) hb,fun k o e=>?_⟩
 ·exact zm2 (zm2 (zjo w _ _ rfl) _) _
 ·exact zm2 (zjo _ _ _ (World.size_alloc _ _)) _
 ·exact zjo _ _ _ (by rw [World.size_alloc,World.size_alloc])
 ·rintro k (rfl | rfl | rfl)
  ·exact ⟨by omega,hf _ (zac9 _)⟩
  ·exact ⟨by omega,hf _ (by omega)⟩
  ·exact ⟨by omega,hf _ (by omega)⟩
 ·obtain ⟨a0,a1,a2,a3⟩:=hap k o e
  exact ⟨a0,Nat.lt_of_lt_of_le a1 hb.size,a2,a3⟩
end Go.Proofs.YthjgiamfaijoeaaGreatDoor
namespace Go.Proofs.YthjgiamfaijoeaaGreatDoor
open Go.RowKit
open Sx (Ab DW Turns Did Foot)
set_option maxRecDepth 100000
def wrs (at_:Int) (ps:List (List Nat)):List Stp:=ps.mapIdx fun i p=>.wr (at_ + i) p
theorem zi4 (at_:Int) (ps:List (List Nat)):(wrs at_ ps).length=ps.length:=by simp [wrs]
theorem zz2 (at_:Int) (ps:List (List Nat)) (i:Nat):(wrs at_ ps)[i]?=(ps[i]?).map fun p=>.wr (at_ + i) p:=by simp [wrs]
structure Jr.Ok (j:Jr):Prop where
 first:j.first=0 ∨ j.first=256
 lo:j.first + 1 ≤ j.at_
 hi:j.at_ ≤ j.first + 256
def zz3 (w:World) (F:Foot) (b:Nat) (ao:Option Addr):Prop:=∀ k o,ao=some ⟨k,o,none⟩→k < w.heap.size∧k ≠ b∧∀ x,¬ F k x
theorem zz4 {w w':World} {F F':Foot} {b:Nat} {ao:Option Addr} {n c:Nat} {vs:List Value} (h:Sl w ao n c vs) (hap:zz3 w F b ao) (hw:Went F b w F' w'):Sl w' ao n c vs:=by
 refine ⟨h.len,h.le,h.nil,?_⟩
 rcases h.cells with e | ⟨k,o,e,hc⟩
 ·exact .inl e
 ·obtain ⟨t1,t2,t3⟩:=hap k o e
  refine .inr ⟨k,o,e,fun y x hy=>?_⟩
  rw [← hc y x hy]
  unfold World.cell?
  rw [hw.block k t1 t2 t3]
theorem zel {w:World} {B e sz n c m k o:Nat} {xs:List Value} (h:w.ownsRow B e sz (.slice (some ⟨k,o,none⟩) n c) m xs):B ≤ k∧k < w.heap.size:=by
 rcases h.2 with ⟨hv,_⟩ | ⟨g,c',cur,hv,hb,hg,_⟩
 ·cases hv
 ·cases hv
  exact ⟨hb,(zac7 hg).1⟩
theorem zz5 {L p:List Nat} (h:p ∈ pcs L):p.length ≤ 128:=by
 obtain ⟨i,_,rfl⟩:=List.mem_map.1 h
 unfold pc
 rw [List.length_cons,List.length_take]
 omega
def appL (j:Jr) (kind:Int) (l:List Nat):List Stp:=wrs j.at_ (pcs (zdc kind l)) ++ [.sy]
def appE (A:Ab) (j:Jr) (kind:Int) (l:List Nat):Int:=
 if j.dead || A.off then 9 else if laidE kind l.length ≠ 0 then laidE kind l.length else if j.first + 256 - j.at_ < npc (zdc kind l) then 8 else stpsE (appL j kind l) A
def appA (A:Ab) (j:Jr) (kind:Int) (l:List Nat):Ab:=
 if j.dead || A.off then A else if laidE kind l.length ≠ 0 then A else if j.first + 256 - j.at_ < npc (zdc kind l) then A else stpsA (appL j kind l) A
def appJ (A:Ab) (j:Jr) (kind:Int) (l:List Nat):Jr:=
 if j.dead || A.off then { j with dead:=true } else if laidE kind l.length ≠ 0 then j else if j.first + 256 - j.at_ < npc (zdc kind l) then j
 else if stpsE (appL j kind l) A=0 then { j with at_:=j.at_ + npc (zdc kind l) } else { j with dead:=true }
set_option maxHeartbeats 4000000 in
theorem zqj {w:World} {F:Foot} {dv:Value} {A:Ab} {b:Nat} {j:Jr} (h:JD w F dv A b j) (hj:j.Ok) (kind:Int) {ao:Option Addr} {n c:Nat} {l:List Nat} (hl:Sl w ao n c (bts l)) (hs:Small l) (hn:n < 1099511627776) (hap:zz3 w F b ao):
  Calls Tryz.prog 234 #[.pointer (some ⟨b,0,none⟩),.int .i64 kind,.slice ao n c] w (JDid F w dv b (appA A j kind l) (appJ A j kind l) (.int .i64 (appE A j kind l))):=by
 obtain ⟨jf,jlo,jhi⟩:=hj
 have HL:=zac8 hl
 have HP:=zac8 hap
 have HSm:=zac8 hs
 have H:=zac8 h
 clear h hl hs hap
 by_cases hg:(j.dead || A.off)=true
 ·have e1:appE A j kind l=9:=if_pos hg
  have e2:appA A j kind l=A:=if_pos hg
  have e3:appJ A j kind l={ j with dead:=true }:=if_pos hg
  rw [e1,e2,e3]
  clear e1 e2 e3
  go_enter Tryz.func234,Tryz.ntmps234
  go_wp2_with (go_at_call 311;refine (zor H.out).mono ?_;rintro _ w1 ⟨rfl,F1,h1,hw1⟩;rw [hg] at h1 ⊢)
  go_ret
  exact ⟨rfl,F1,h1,hw1⟩
 ·have hg:(j.dead || A.off)=false:=by simpa using hg
  have hd:j.dead=false:=by cases hq:j.dead <;> simp_all
  have e1:appE A j kind l=if laidE kind l.length ≠ 0 then laidE kind l.length else if j.first + 256 - j.at_ < npc (zdc kind l) then 8 else stpsE (appL j kind l) A:=if_neg (by rw [hg];decide)
  have e2:appA A j kind l=if laidE kind l.length ≠ 0 then A else if j.first + 256 - j.at_ < npc (zdc kind l) then A else stpsA (appL j kind l) A:=if_neg (by rw [hg];decide)
  have e3:appJ A j kind l=if laidE kind l.length ≠ 0 then j else if j.first + 256 - j.at_ < npc (zdc kind l) then j else if stpsE (appL j kind l) A=0 then { j with at_:=j.at_ + npc (zdc kind l) } else { j with dead:=true }:=if_neg (by rw [hg];decide)
  have hjj:({ j with dead:=false }:Jr)=j:=by rw [← hd]
  have E1:=zac8 e1
  have E2:=zac8 e2
  have E3:=zac8 e3
  clear e1 e2 e3
  go_enter Tryz.func234,Tryz.ntmps234
  go_wp2_with (go_at_call 311;refine (zor H.out).mono ?_;rintro _ w1 ⟨rfl,F1,h1,hw1⟩;rw [hg] at h1 ⊢)
  rw [hjj] at h1
  have hl1:=zz4 HL.out HP.out hw1
  refine (zv2 kind hl1 HSm.out hn).mono ?_
  rintro _ w2 ⟨v,vs,rfl,hb2,hown2,hps2⟩
  have h2:=h1.below hb2
  have hw2:Went F b w F1 w2:=hw1.trans (Went.of_below hb2)
  by_cases he:laidE kind l.length=0
  ·have E1':=zac8 (E1.out.trans (if_neg (by rw [he];decide)))
   have E2':=zac8 (E2.out.trans (if_neg (by rw [he];decide)))
   have E3':=zac8 (E3.out.trans (if_neg (by rw [he];decide)))
   have hle2:=zks kind l
   have hnp:npc (zdc kind l) ≤ 4:=by unfold npc;omega
   have hpl:=zb9 (zdc kind l)
   have R:=zac8 (zv8 h2 (by omega) (by omega))
   obtain ⟨al,cl,rfl⟩:=za7 hown2
   rw [he]
   generalize hps:pcs (zdc kind l)=ps at *
   generalize npc (zdc kind l)=N at *
   have HPS:=zac8 hps
   have HH:=zac8 h2
   have HW:=zac8 hw2
   have HO:=zac8 hown2
   have HPc:=zac8 hps2
   have HD1:=zac8 (fun (i x:Nat) (hf:F1 i x)=>h1.dw.lt hf)
   have hblt:=h1.lt
   have hz12:=hb2.size
   clear E1 E2 E3 he h1 hw1 hl1 hps2 hown2 h2 hw2 hps hle2
   by_cases hr:j.first + 256 - j.at_ < N
   ·have q1:=zac8 (E1'.out.trans (if_pos hr))
    have q2:=zac8 (E2'.out.trans (if_pos hr))
    have q3:=zac8 (E3'.out.trans (if_pos hr))
    clear E1' E2' E3'
    go_wp2_with (go_at_call 313;refine R.out.mono ?_;rintro _ _ ⟨rfl,g3,rfl⟩)
    go_ret
    refine ⟨?_,F1,?_,HW.out.trans (Went.of_below g3.below)⟩
    ·rw [q1.out];rfl
    ·rw [q2.out,q3.out];exact HH.out.below g3.below
   ·have q1:=zac8 (E1'.out.trans (if_neg hr))
    have q2:=zac8 (E2'.out.trans (if_neg hr))
    have q3:=zac8 (E3'.out.trans (if_neg hr))
    clear E1' E2' E3'
    go_wp2_with (go_at_call 313;refine R.out.mono ?_;rintro _ _ ⟨rfl,g3,rfl⟩)
    have h3:=HH.out.below g3.below
    have hw3:=HW.out.trans (Went.of_below (F:=F1) (b:=b) g3.below)
    have hown3:=ze4 HO.out g3
    have hps3:=HPc.out.keep (zac9 _) g3.below
    have hz3:=g3.size
    generalize g3.val=w3 at *
    have H3:=zac8 h3
    have W3:=zac8 hw3
    have O3:=zac8 hown3
    have P3:=zac8 hps3
    clear h3 hw3 hown3 hps3 HH HW HO HPc R
    go_loopw [9,10,11,33] (fun v9 _ _ v33 wr=>∃ (i:Nat) (us:List Value),i ≤ N∧v33=.int .i64 i∧Below w3.heap.size w3 wr∧wr.ownsRow w3.heap.size 83 1 v9 i us∧
      ∀ (k:Nat) s,((wrs j.at_ ps).take i)[k]?=some s→∃ u,us[k]?=some u∧StpAt wr F1 b dv w3.heap.size u s) (fun _ _ _ v33 _=>N - (intOf v33).toNat)
    case atStart=>exact ⟨0,[],Nat.zero_le _,rfl,Below.refl _ _,World.ownsRow_nil _ _ _ _,fun k s h=>by simp at h⟩
    case round=>
     obtain ⟨i,us,hi,rfl,hb,hown,hst⟩:=hrel
     obtain ⟨ao9,cap9,rfl⟩:=za7 hown
     have hz:=hb.size
     have HST:=zac8 hst
     have hjr:=H3.out.below hb
     have c0:wr.cell? ⟨b,0,none⟩=some dv:=hjr.cell 0
     have c2:wr.cell? ⟨b,2,none⟩=some (.int .i64 j.at_):=hjr.cell 2
     by_cases hlt:i < N
     ·have hlt2:(i:Int) < N:=by omega
      have hvl:vs.length=N:=by have:=O3.out.1;omega
      obtain ⟨v0,hv0⟩:∃ v0,vs[i]?=some v0:=⟨_,List.getElem?_eq_getElem (by omega)⟩
      obtain ⟨p,hp⟩:∃ p,ps[i]?=some p:=⟨_,List.getElem?_eq_getElem (by omega)⟩
      have hop:=P3.out.2 i v0 p hv0 hp
      obtain ⟨a1,c1,rfl⟩:=za7 hop
      have hp128:p.length ≤ 128:=zz5 (by rw [HPS.out];exact List.mem_of_getElem? hp)
      obtain ⟨bl,ol,rfl,hbl,hcl⟩:=(Sl.own O3.out).at (by omega)
      have hx:=(hb.cell (p:=⟨bl,ol + i,none⟩) hbl).trans (hcl i _ hv0)
      have hadd:wrap64 (j.at_ + i)=j.at_ + i:=IntWalk.wrap64_in _ (by omega)
      have WS:=zac8 (zhq hjr (i:=j.at_ + i) (by omega) hp128 (Sl.own (zbe hop (zac9 _) hb)) (N:=w3.heap.size) (fun k o e=>by
       subst e
       obtain ⟨t1,t2⟩:=zel hop
       exact ⟨t2,Nat.lt_of_lt_of_le t2 hz,by omega,fun x hx=>absurd (HD1.out k x hx) (by omega)⟩))
      have HOP:=zac8 hp
      clear hcl hop hp hjr hst
      go_wp2_with (first
       | (go_at_call 179;refine WS.out.mono ?_;rintro _ w4 ⟨u,rfl,u1,hb4,hst4⟩;obtain ⟨b1,b2,b3,q1',q2',q3',hu,hrest⟩:=id hst4;subst hu;clear hrest;have HS4:=zac8 hst4;clear hst4;have hz4:=hb4.size;have hown4:=(zbe hown (zac9 _) hb4).alloc (.cells #[.func (.func 250) #[] #[.pointer (some ⟨b1,0,none⟩),.pointer (some ⟨b2,0,none⟩),.pointer (some ⟨b3,0,none⟩)]] 83))
       | (at_builtin;refine zcq zv9 rfl _ _ rfl (B:=w3.heap.size) (n:=i) (xs:=us) (news:=[.func (.func 250) #[] #[.pointer (some ⟨b1,0,none⟩),.pointer (some ⟨b2,0,none⟩),.pointer (some ⟨b3,0,none⟩)]]) rfl hown4 rfl rfl (fun y z hz=>by have:=zdh w4 #[.func (.func 250) #[] #[.pointer (some ⟨b1,0,none⟩),.pointer (some ⟨b2,0,none⟩),.pointer (some ⟨b3,0,none⟩)]] 83 y z hz;rw [zar];exact this) (fun y hy=>by rw [List.mem_singleton] at hy;rw [hy];rfl) (by decide) (by omega) (by simp;omega) ?_))
      intro g5 cap5 w5 hown5 hgr5 _ _
      have hb5:Below w3.heap.size w3 w5:=((hb.trans (hb4.mono hz)).alloc (Nat.le_trans hz hz4) _).trans ((Below.refl _ _).grown hgr5 (by simp;omega) (zbb hown4))
      have hst5:∀ (k:Nat) s,((wrs j.at_ ps).take (i + 1))[k]?=some s→∃ u,(us ++ [.func (.func 250) #[] #[.pointer (some ⟨b1,0,none⟩),.pointer (some ⟨b2,0,none⟩),.pointer (some ⟨b3,0,none⟩)]])[k]?=some u∧StpAt w5 F1 b dv w3.heap.size u s:=fun k s hs=>by
       have hul:us.length=i:=by have:=hown.1;omega
       have hwl:(wrs j.at_ ps).length=N:=by rw [zi4];exact hpl
       have ht:(wrs j.at_ ps).take (i + 1)=(wrs j.at_ ps).take i ++ [.wr (j.at_ + i) p]:=by rw [List.take_add_one,zz2,HOP.out];rfl
       rw [ht] at hs
       rcases Nat.lt_trichotomy k i with h | h | h
       ·rw [List.getElem?_append_left (by rw [List.length_take];omega)] at hs
        obtain ⟨u,t1,t2⟩:=HST.out k s hs
        refine ⟨u,by rw [List.getElem?_append_left (by omega)];exact t1,?_⟩
        exact ((t2.went (Went.of_below hb4)).went (Went.of_below ((Below.refl _ w4).alloc (zac9 _) _))).apart hgr5 hown4 (zac9 _)
       ·subst h
        rw [List.getElem?_append_right (by rw [List.length_take];omega),List.length_take,Nat.min_eq_left (by omega),Nat.sub_self] at hs
        cases hs
        refine ⟨_,by rw [List.getElem?_append_right (by omega),hul,Nat.sub_self];rfl,?_⟩
        exact (HS4.out.went (Went.of_below ((Below.refl _ w4).alloc (zac9 _) _))).apart hgr5 hown4 (zac9 _)
       ·rw [List.getElem?_eq_none (by simp;omega)] at hs
        cases hs
      have HS5:=zac8 hst5
      clear hst5 hgr5 hown4 hown hb4
      go_wp2
      go_roundw
      case rel=>exact ⟨i + 1,_,by omega,rfl,hb5,hown5,HS5.out⟩
      case measure=>simp [intOf];omega
     ·obtain rfl:i=N:=by omega
      have hnl:¬ (i:Int) < i:=by omega
      have hown4:=hown.alloc (.cells #[.func (.func 181) #[dv] #[]] 83)
      clear hst
      go_wp2_with (at_builtin;refine zcq zv9 rfl _ _ rfl (B:=w3.heap.size) (n:=i) (xs:=us) (news:=[.func (.func 181) #[dv] #[]]) rfl hown4 rfl rfl (fun y z hz=>by have:=zdh wr #[.func (.func 181) #[dv] #[]] 83 y z hz;rw [zar];exact this) (fun y hy=>by rw [List.mem_singleton] at hy;rw [hy];rfl) (by decide) (by omega) (by simp;omega) ?_)
      intro g5 cap5 w5 hown5 hgr5 _ _
      have hb5:Below w3.heap.size w3 w5:=(hb.alloc hz _).trans ((Below.refl _ _).grown hgr5 (by simp;omega) (zbb hown4))
      have hul:us.length=i:=by have:=hown.1;omega
      have hwl:(wrs j.at_ ps).length=i:=by rw [zi4];exact hpl
      have hal:appL j kind l=wrs j.at_ ps ++ [.sy]:=by unfold appL;rw [HPS.out]
      have hall:(appL j kind l).length=i + 1:=by rw [hal];simp [hwl]
      have hst5:StpsAt w5 F1 b dv (.slice (some ⟨g5,0,none⟩) (i + 1) cap5) (appL j kind l):=by
       refine ⟨⟨w3.heap.size,_,by rw [hall];exact hown5,fun k s hs=>?_⟩,fun k hk=>?_⟩
       ·rw [hal] at hs
        rcases Nat.lt_trichotomy k i with h | h | h
        ·rw [List.getElem?_append_left (by omega)] at hs
         obtain ⟨u,t1,t2⟩:=HST.out k s (by rw [List.getElem?_take_of_lt h];exact hs)
         exact ⟨u,by rw [List.getElem?_append_left (by omega)];exact t1,w3.heap.size,(t2.went (Went.of_below ((Below.refl _ wr).alloc (zac9 _) _))).apart hgr5 hown4 (zac9 _)⟩
        ·subst h
         rw [List.getElem?_append_right (by omega),hwl,Nat.sub_self] at hs
         cases hs
         exact ⟨_,by rw [List.getElem?_append_right (by omega),hul,Nat.sub_self];rfl,0,rfl⟩
        ·rw [List.getElem?_eq_none (by simp;omega)] at hs
         cases hs
       ·have hk2:=zbb hown5 k hk
        exact ⟨by omega,fun x hx=>absurd (HD1.out k x hx) (by omega)⟩
      have h5:=H3.out.below hb5
      have DA:=zac8 (zgz h5 hst5 (by rw [hall];omega))
      have W5:=zac8 (W3.out.trans (Went.of_below (F:=F1) (b:=b) hb5))
      clear hst5 hgr5 hown4 hown hown5 h5 hall hal hwl hul
      go_wp2_with fail
      refine DA.out.mono ?_
      rintro _ w6 ⟨rfl,F2,h6,hw6⟩
      have W6:=zac8 (W5.out.trans hw6)
      by_cases hE:stpsE (appL j kind l) A=0
      ·have q3':=zac8 (q3.out.trans (if_pos hE))
       rw [hE] at h6 ⊢
       have hd6:(j.dead || decide ((0:Int) ≠ 0))=false:=by rw [hd];rfl
       have h7:JD w6 F2 dv (stpsA (appL j kind l) A) b j:=by
        have:({ j with dead:=j.dead || decide ((0:Int) ≠ 0) }:Jr)=j:=by rw [hd6,← hd]
        rwa [this] at h6
       have e2:w6.cell? ⟨b,2,none⟩=some (.int .i64 j.at_):=h7.cell 2
       have f2:=h7.unfrozen 2
       have hadd:wrap64 (j.at_ + i)=j.at_ + i:=IntWalk.wrap64_in _ (by omega)
       have HD:=zac8 (h7.set (k:=2) (v:=.int .i64 (j.at_ + i)) (j':={ j with at_:=j.at_ + i }) rfl)
       have Q1:=zac8 (q1.out.trans hE)
       clear h6 h7 hw6 hE
       go_wp2
       go_ret
       refine ⟨?_,F2,?_,W6.out.trans Went.of_set⟩
       ·rw [Q1.out];rfl
       ·rw [q2.out,q3'.out];exact HD.out
      ·have q3':=zac8 (q3.out.trans (if_neg hE))
       have hb6:(stpsE (appL j kind l) A == 0)=false:=by rw [beq_eq_false_iff_ne];exact hE
       have h7:JD w6 F2 dv (stpsA (appL j kind l) A) b { j with dead:=true }:=by
        have:(j.dead || decide (stpsE (appL j kind l) A ≠ 0))=true:=by rw [hd,decide_eq_true hE];rfl
        rwa [this] at h6
       have HD:=zac8 h7
       clear h6 h7 hw6 hE
       generalize stpsE (appL j kind l) A=er at *
       go_wp2
       go_ret
       refine ⟨?_,F2,?_,W6.out⟩
       ·rw [q1.out];rfl
       ·rw [q2.out,q3'.out];exact HD.out
  ·have q1:=zac8 (E1.out.trans (if_pos he))
   have q2:=zac8 (E2.out.trans (if_pos he))
   have q3:=zac8 (E3.out.trans (if_pos he))
   have hne:(laidE kind l.length == 0)=false:=by rw [beq_eq_false_iff_ne];exact he
   have HH:=zac8 h2
   have HW:=zac8 hw2
   clear E1 E2 E3 he h1 hw1 hl1 hps2 hown2 h2 hw2
   generalize laidE kind l.length=er at *
   go_wp2
   go_ret
   refine ⟨?_,F1,?_,HW.out⟩
   ·rw [q1.out];rfl
   ·rw [q2.out,q3.out];exact HH.out
end Go.Proofs.YthjgiamfaijoeaaGreatDoor
