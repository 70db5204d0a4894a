/- What is proved: parts of the walk and of the plain law. No condition but those each law names. -/
import Derived.Test.YthjgiamfaijoeaaGreatDoorD05
import Derived.Test.YthjgiamfaijoeaaGreatDoorD00
set_option linter.unusedSimpArgs false
set_option linter.unusedVariables false
set_option maxRecDepth 100000
namespace Go.Proofs.YthjgiamfaijoeaaGreatDoor
open Go.RowKit
section
open Sx (Ab DW Turns Did Foot z128)
theorem zao {w:World} {b:Nat} {cs:Array Value} {t:TypeId} (h:w.heap[b]?=some (.cells cs t)) (j:Nat):w.cell? ⟨b,j,none⟩=cs[j]?∧w.frozen? ⟨b,j,none⟩=false:=by
 unfold World.cell? World.frozen?
 simp [h]
structure Rw where
 kind:Int
 bs:List Nat
 nx:Int
 ok:Bool
def Rw.no (at_:Int):Rw:=⟨0,[],at_,false⟩
def rowL (A:Ab) (at_:Int):Nat→Nat→List Nat→Rw
 | 0,_,_=>Rw.no at_
 | k + 1,i,b=>match A.see (at_ + i) with
  | none=>Rw.no at_
  | some l=>if ((l.getD 0 0:Nat):Int) ≠ 160 + i then Rw.no at_ else
   if getE (b ++ l.drop 1)=0 then ⟨getK (b ++ l.drop 1),getB (b ++ l.drop 1),at_ + i + 1,getK (b ++ l.drop 1) ≠ 255 && decide (127 * (i:Int) < getM (b ++ l.drop 1))⟩
   else if getE (b ++ l.drop 1) ≠ 4 then Rw.no at_ else rowL A at_ k (i + 1) (b ++ l.drop 1)
def rowA (A:Ab) (at_ end_:Int):Rw:=rowL A at_ (end_ - at_).toNat 0 []
def RetRw (F:Foot) (w:World) (dv:Value) (A:Ab) (r:Rw):Ending→World→Prop:=fun e w'=>∃ F' ao cap,e=.returned (.tuple #[.agg #[.int .i64 r.kind,.slice ao r.bs.length cap],.int .i64 r.nx,.bool r.ok])∧
 DW w' F' dv A∧TB F w F' w'∧w'.ownsRow w.heap.size 5 1 (.slice ao r.bs.length cap) r.bs.length (bts r.bs)∧∀ k,(Value.slice ao r.bs.length cap).ownBlock=some k→∀ x,¬ F' k x
theorem zlb {w w1 w2:World} {F F2:Foot} {dv:Value} {A:Ab} (hb:Below w.heap.size w w1) (hz:w.heap.size < w1.heap.size) (hF:∀ k x,F k x→k < w.heap.size) (hD:DW w2 F2 dv A) (T:TB F w1 F2 w2) (x y:Value):
  DW ((w2.setCell ⟨w.heap.size,0,none⟩ x).setCell ⟨w.heap.size,1,none⟩ y) F2 dv A∧TB F w F2 ((w2.setCell ⟨w.heap.size,0,none⟩ x).setCell ⟨w.heap.size,1,none⟩ y):=by
 have hF2:∀ x,¬ F2 w.heap.size x:=fun x hx=>(T.fb _ _ hx).elim (fun h=>absurd (hF _ _ h) (Nat.lt_irrefl _)) (by omega)
 have hs:∀ i,i ≠ w.heap.size→((w2.setCell ⟨w.heap.size,0,none⟩ x).setCell ⟨w.heap.size,1,none⟩ y).heap[i]?=w2.heap[i]?:=fun i hi=>
  (heap_setCell_other _ _ _ _ hi).trans (heap_setCell_other _ _ _ _ hi)
 refine ⟨hD.keepB fun i ⟨z,hz⟩=>hs i (fun e=>hF2 z (by rw [← e];exact hz)),⟨⟨T.t.os.trans hb.os,T.t.tape.trans hb.tape,T.t.output.trans hb.output,?_,fun k hk hf=>?_⟩,fun i z h=>(T.fb i z h).elim .inl fun h=>.inr (by omega)⟩⟩
 ·have:=T.t.size
  simp
  omega
 ·rw [hs k (by omega),T.t.block k (by omega) hf]
  exact hb.block k hk
theorem zq5 {l:List Nat} (h:Small l):l.getD 0 0 < 256:=by
 rw [List.getD_eq_getElem?_getD]
 cases hq:l[0]? with
 | none=>decide
 | some y=>exact h.at hq
theorem zcd {w w':World} {B e s n:Nat} {v:Value} {xs:List Value} (h:w.ownsRow B e s v n xs) (hk:∀ k,v.ownBlock=some k→w'.heap[k]?=w.heap[k]?):w'.ownsRow B e s v n xs:=by
 refine ⟨h.1,?_⟩
 rcases h.2 with h1 | ⟨g,c,cur,hv,hb,hg,r⟩
 ·exact .inl h1
 ·have e1:v.ownBlock=some g:=by rw [hv];rfl
  exact .inr ⟨g,c,cur,hv,hb,(hk g e1).trans hg,r⟩
theorem own_tb {F F':Foot} {w w':World} {B e s n:Nat} {v:Value} {xs:List Value} (h:w.ownsRow B e s v n xs) (ht:TB F w F' w') (hc:∀ k,v.ownBlock=some k→∀ x,¬ F k x):w'.ownsRow B e s v n xs:=
 zcd h fun k hk=>ht.t.block k (h.lt k hk).2 (hc k hk)
theorem zhx {F F':Foot} {w w':World} {B e s n:Nat} {v:Value} {xs:List Value} (h:w.ownsRow B e s v n xs) (ht:TB F w F' w') (hc:∀ k,v.ownBlock=some k→∀ x,¬ F k x):∀ k,v.ownBlock=some k→∀ x,¬ F' k x:=
 fun k hk x hx=>(ht.fb k x hx).elim (hc k hk x) fun h2=>absurd (h.lt k hk).2 (by omega)
theorem TB.grown {F F1:Foot} {w w1 w2:World} {row:Option Nat} (h:TB F w F1 w1) (hgr:w1.grownBy w2 row) (hrow:∀ k,row=some k→w.heap.size ≤ k):TB F w F1 w2:=
 ⟨⟨hgr.os.trans h.t.os,hgr.tape.trans h.t.tape,hgr.output.trans h.t.output,Nat.le_trans h.t.size hgr.size,
  fun k hk hf=>(hgr.block k (Nat.lt_of_lt_of_le hk h.t.size) fun e=>absurd hk (by have:=hrow k e.symm;omega)).trans (h.t.block k hk hf)⟩,h.fb⟩
theorem TB.below {F F1:Foot} {w w1 w2:World} (h:TB F w F1 w1) (hb:Below w1.heap.size w1 w2):TB F w F1 w2:=
 ⟨⟨hb.os.trans h.t.os,hb.tape.trans h.t.tape,hb.output.trans h.t.output,Nat.le_trans h.t.size hb.size,
  fun k hk hf=>(hb.block k (Nat.lt_of_lt_of_le hk h.t.size)).trans (h.t.block k hk hf)⟩,h.fb⟩
theorem zw1 {w w':World} {F:Foot} {dv:Value} {A:Ab} {row:Option Nat} (h:DW w F dv A) (hgr:w.grownBy w' row) (hc:∀ k,row=some k→∀ x,¬ F k x):DW w' F dv A:=
 h.keepB fun i ⟨x,hx⟩=>hgr.block i (h.lt hx) fun e=>hc i e.symm x hx
structure Grew (F F2:Foot) (w1 w2 w5:World) (dv:Value) (A:Ab) (v v':Value):Prop where
 dw:DW w5 F2 dv A
 tb:TB F w1 F2 w5
 clear:∀ k,v'.ownBlock=some k→∀ x,¬ F2 k x
 cell:∀ k,k < w1.heap.size→w5.heap[k]?=w2.heap[k]?
theorem grew {F F2:Foot} {w1 w2 w5:World} {dv:Value} {A:Ab} {n e s:Nat} {v v':Value} {xs:List Value} {g:Nat} (D:DW w2 F2 dv A) (T:TB F w1 F2 w2) (hown:w2.ownsRow w1.heap.size e s v n xs) (hc:∀ k,v.ownBlock=some k→∀ x,¬ F2 k x)
   (hgr:w2.grownBy w5 v.ownBlock) (hat:v.ownBlock=some g ∨ g=w2.heap.size) (hv:v'.ownBlock=some g):Grew F F2 w1 w2 w5 dv A v v':=
 ⟨zw1 D hgr hc,T.grown hgr (zbb hown),fun k hk x hx=>by
   rw [hv] at hk
   cases hk
   rcases hat with h | h
   · exact hc g h x hx
   · exact absurd (D.lt hx) (by omega),
  fun k hk=>hgr.block k (Nat.lt_of_lt_of_le hk T.t.size) fun e=>absurd (zbb hown k e.symm) (by omega)⟩
set_option maxHeartbeats 2000000 in
theorem zo7 {w:World} {F:Foot} {dv:Value} {A:Ab} (H:DW w F dv A) (hA:Ab.Sm A) {at_ end_:Int} (h0:0 ≤ at_) (h01:at_ ≤ 512) (h1:end_ ≤ 512):Calls Tryz.prog 254 #[dv,.int .i64 at_,.int .i64 end_] w (RetRw F w dv A (rowA A at_ end_)):=by
 go_enter Tryz.func254,Tryz.ntmps254
 go_wp2
 have hb1:=(Below.refl w.heap.size w).alloc (zadw _) (.cells #[.int .i64 0,.slice none 0 0] 166)
 have hH:=zadv (H.below hb1)
 have hFw:=zadv (fun (k x:Nat) (hf:F k x)=>H.lt hf)
 have hc:(w.alloc (.cells #[.int .i64 0,.slice none 0 0] 166)).heap[w.heap.size]?=some (.cells #[.int .i64 0,.slice none 0 0] 166):=heap_alloc_new w _
 have hz1:w.heap.size < (w.alloc (.cells #[.int .i64 0,.slice none 0 0] 166)).heap.size:=by simp
 have hHb:=zadv hb1
 clear H hb1
 generalize w.alloc (.cells #[.int .i64 0,.slice none 0 0] 166)=w1 at *
 obtain ⟨N,hN⟩:∃ N:Nat,(end_ - at_).toNat=N:=⟨_,rfl⟩
 go_loopw [9,10] (fun v9 v10 wr=>∃ (i:Nat) (F1:Foot) (b:List Nat),i ≤ N∧v10=.int .i64 i∧DW wr F1 dv A∧TB F w1 F1 wr∧wr.ownsRow w1.heap.size 5 1 v9 (127 * i) (bts b)∧Small b∧rowL A at_ (N - i) i b=rowA A at_ end_∧
   (∀ k,v9.ownBlock=some k→∀ x,¬ F1 k x)∧wr.heap[w.heap.size]?=some (.cells #[.int .i64 0,.slice none 0 0] 166)) (fun _ v10 _=>N - (intOf v10).toNat)
 case atStart=>exact ⟨0,F,[],Nat.zero_le _,rfl,hH.out,TB.refl F w1,World.ownsRow_nil _ _ _ _,(fun x hx=>by cases hx),(by unfold rowA;rw [hN];rfl),(fun k hk=>by cases hk),hc⟩
 case round=>
  obtain ⟨i,F1,b,hi,rfl,h2,ht,hown,hsb,hrow,hcl,hcr⟩:=hrel
  obtain ⟨ao9,cap9,rfl⟩:=za8 hown
  have hR:=zadv hrow
  have HT:=zadv ht
  have H2:=zadv h2
  by_cases hlt:i < N
  ·have hlt2:at_ + i < end_:=by omega
   have hadd:wrap64 (at_ + i)=at_ + i:=IntWalk.wrap64_in _ (by omega)
   cases hs:A.see (at_ + i) with
   | none=>
    have R:=zadv (zhw h2 (i:=at_ + i) (by omega) hs)
    have e:rowA A at_ end_=Rw.no at_:=by
     rw [← hrow]
     obtain ⟨m,hm⟩:∃ m,N - i=m + 1:=⟨N - i - 1,by omega⟩
     rw [hm,rowL,hs]
    clear hrow ht h2 hcl hs
    go_wp2_with (go_at_call 246;refine R.out.mono ?_;rintro _ w2 ⟨F2,rfl,q1,q2,q3⟩;have T2:=zadv (HT.out.trans ⟨q2,q3⟩);have Q1:=zadv q1;have c6:=q2.block w.heap.size (by have:=HT.out.t.size;omega) (fun x hx=>(HT.out.fb _ _ hx).elim (fun h=>absurd (hFw.out _ _ h) (Nat.lt_irrefl _)) (by omega));have c60:w2.cell? ⟨w.heap.size,0,none⟩=some (.int .i64 0):=(zao (c6.trans hcr) 0).1;have c61:w2.cell? ⟨w.heap.size,1,none⟩=some (.slice none 0 0):=(zao (c6.trans hcr) 1).1;have c62:=c6.trans hcr;have f60:=(zao (c6.trans hcr) 0).2;have f61:=(zao (c6.trans hcr) 1).2;clear q1 q2 q3)
    try simp only [Exit.inBlock,Exit.then]
    refine bodyPost_ret (zbk rfl _ _ w.heap.size rfl (cs:=#[.int .i64 0,.slice none 0 0]) (by rw [zac,if_pos rfl,zac,if_pos rfl,zaa c62];rfl) rfl) rfl ?_
    obtain ⟨r1,r2⟩:=zlb hHb.out hz1 hFw.out Q1.out T2.out (.int .i64 0) (.slice none 0 0)
    rw [e]
    exact ⟨F2,none,0,rfl,r1,r2,World.ownsRow_nil _ _ _ _,fun k hk=>by cases hk⟩
   | some l=>
    have R:=zadv (zhv h2 (i:=at_ + i) (by omega) hs)
    have hsl:=zst hA hs
    by_cases hd:((l.getD 0 0:Nat):Int)=160 + i
    ·have hb256:=zq5 hsl
     have hi2:wrap64 (160 + (i:Int))=160 + i:=IntWalk.wrap64_in _ (by omega)
     obtain ⟨m,hm⟩:∃ m,N - i=m + 1:=⟨N - i - 1,by omega⟩
     have hLs:Small (b ++ l.drop 1):=hsb.append (hsl.drop 1)
     have hrow2:rowA A at_ end_=if getE (b ++ l.drop 1)=0 then ⟨getK (b ++ l.drop 1),getB (b ++ l.drop 1),at_ + i + 1,getK (b ++ l.drop 1) ≠ 255 && decide (127 * (i:Int) < getM (b ++ l.drop 1))⟩
       else if getE (b ++ l.drop 1) ≠ 4 then Rw.no at_ else rowL A at_ m (i + 1) (b ++ l.drop 1):=by
      rw [← hrow,hm,rowL,hs]
      exact if_neg (not_not_intro hd)
     have E2:=zadv hrow2
     have HOWN:=zadv hown
     have HCL:=zadv hcl
     have hbl:b.length=127 * i:=by have:=hown.1;rw [zam] at this;omega
     clear hrow ht h2 hcl hs hrow2 hown
     go_wp2_with (first
      | (go_at_call 246;refine R.out.mono ?_;rintro _ w2 ⟨F2,b1,o1,c1,rfl,q1,q2,q3,q4,q5,q6⟩;have T2:=zadv (HT.out.trans ⟨q2,q3⟩);have Q1:=zadv q1;have c6:=q2.block w.heap.size (by have:=HT.out.t.size;omega) (fun x hx=>(HT.out.fb _ _ hx).elim (fun h=>absurd (hFw.out _ _ h) (Nat.lt_irrefl _)) (by omega));have C6:=zadv (c6.trans hcr);obtain ⟨y,hy⟩:∃ y,l[0]?=some y:=⟨_,zady (by omega)⟩;obtain ⟨b3,o3,hb3,-,hc3⟩:=q5.at (by decide);cases hb3;have hy0:w2.cell? ⟨b1,o1,none⟩=some (.int .u8 y):=hc3 0 _ (by rw [zd6,hy];rfl);have hy2:=hsl.at hy;have hy3:(y:Int)=160 + i:=(by rw [List.getD_eq_getElem?_getD,hy] at hd;exact hd);have hown2:=zadv (own_tb HOWN.out ⟨q2,q3⟩ HCL.out);have hcl2:=zadv (zhx HOWN.out ⟨q2,q3⟩ HCL.out);have hce:=q5.le;have hcut:cutA (some ⟨b1,o1,none⟩) 1 c1=some ⟨b1,o1 + 1,none⟩:=zky _ _ _ _ (by omega);have hcc:(128:Int) ≤ c1:=(by omega);have hnew:=zadv (fun (j:Nat) u (hj:(bts (l.drop 1))[j]?=some u)=>(show w2.cell? ((⟨b1,o1 + 1,none⟩:Addr).add j)=some u from by rw [zas,Nat.add_assoc];refine hc3 (1 + j) u ?_;rw [← hj];unfold bts;rw [List.map_drop,List.getElem?_drop]));have hdl:(bts (l.drop 1)).length=127:=(by rw [zam,List.length_drop,q4]);have hw12:=T2.out.t.size;clear q1 q2 q3 q5 q6 hc3 c6)
      | (at_builtin;refine zcq zgt rfl _ _ rfl (B:=w1.heap.size) (n:=127 * i) (xs:=bts b) (news:=bts (l.drop 1)) rfl hown2.out rfl (by rw [hdl]) hnew.out (zct _) (by decide) (by omega) hw12 ?_))
     intro g5 cap5 w5 hown5 hgr5 hat5 hlt5
     have hown6:w5.ownsRow w1.heap.size 5 1 (.slice (some ⟨g5,0,none⟩) (127 * i + 127) cap5) (127 * i + 127) (bts (b ++ l.drop 1)):=by rw [zbq,List.drop_one];exact hown5
     have G:=zadv (grew Q1.out T2.out hown2.out hcl2.out hgr5 hat5 (v':=.slice (some ⟨g5,0,none⟩) (127 * i + 127) cap5) rfl)
     have c56:=(G.out.cell w.heap.size hz1).trans C6.out
     have hz5:w1.heap.size ≤ w5.heap.size:=G.out.tb.t.size
     have hrow2:=E2.out
     clear E2 hown5 hgr5 hat5 HOWN HCL hown2 hcl2 hnew hcut hcc hdl hy0 hy3
     generalize b ++ l.drop 1=L at *
     have P:=zhl (Sl.own hown6) hLs (by omega)
     unfold RetG at P
     generalize getE L=er at *
     generalize getK L=kd at *
     generalize getM L=mm at *
     generalize getB L=bd at *
     have P2:=zadv P
     have E2:=zadv hrow2
     have HO6:=zadv hown6
     clear P hrow2 hown6
     have a1:wrap64 (at_ + i + 1)=at_ + i + 1:=IntWalk.wrap64_in _ (by omega)
     have a2:wrap64 (127 * (i:Int))=127 * i:=IntWalk.wrap64_in _ (by omega)
     by_cases he0:er=0
     ·subst he0
      have e:=zadv (E2.out.trans (if_pos rfl))
      have fin:∀ (w7:World) (a6:Option Addr) (c6:Nat),Below w5.heap.size w5 w7→w7.ownsRow w5.heap.size 5 1 (.slice a6 bd.length c6) bd.length (bts bd)→∀ ok:Bool,ok=(kd ≠ 255 && decide (127 * (i:Int) < mm))→
        RetRw F w dv A (rowA A at_ end_) (.returned (.tuple #[.agg #[.int .i64 kd,.slice a6 bd.length c6],.int .i64 (at_ + i + 1),.bool ok])) ((w7.setCell ⟨w.heap.size,0,none⟩ (.int .i64 kd)).setCell ⟨w.heap.size,1,none⟩ (.slice a6 bd.length c6)):=fun w7 a6 c6 hb7 O7 ok hok=>by
       obtain ⟨r1,r2⟩:=zlb hHb.out hz1 hFw.out (G.out.dw.below hb7) (G.out.tb.below hb7) (.int .i64 kd) (.slice a6 bd.length c6)
       rw [e.out,hok]
       refine ⟨F2,a6,c6,rfl,r1,r2,zcd (za0 O7 (by omega)) fun k hk=>?_,fun k hk x hx=>?_⟩
       ·have hne:k ≠ w.heap.size:=by have:=(O7.lt k hk).1;omega
        exact (heap_setCell_other _ _ _ _ hne).trans (heap_setCell_other _ _ _ _ hne)
       ·have h1:=(O7.lt k hk).1
        have h2:=G.out.dw.lt hx
        omega
      have FIN:=zadv fin
      clear fin e
      by_cases hk:kd=255
      ·subst hk
       go_wp2_with (go_at_call 247;refine P2.out.mono ?_;rintro _ w6 ⟨a6,c6,rfl,hb6,hown7⟩;have hb7:=zadv (hb6.alloc hb6.size (.cells #[.int .i64 255,.slice a6 bd.length c6] 166));have O7:=zadv (zbe hown7 (zadw _) ((Below.refl w6.heap.size w6).alloc (zadw _) (.cells #[.int .i64 255,.slice a6 bd.length c6] 166)));have c67:=(hb7.out.block w.heap.size (by omega)).trans c56;have c60:=(zao c67 0).1;have c61:=(zao c67 1).1;have f60:=(zao c67 0).2;have f61:=(zao c67 1).2;have hz6:=hb6.size;clear hown7)
       try simp only [Exit.inBlock,Exit.then]
       refine bodyPost_ret (zbk rfl _ _ w.heap.size rfl (cs:=#[.int .i64 255,.slice a6 bd.length c6]) (by rw [zac,if_pos rfl,zac,if_pos rfl,zaa c67];rfl) rfl) rfl ?_
       exact FIN.out _ a6 c6 hb7.out O7.out false rfl
      ·have hk2:(kd == 255)=false:=by rw [beq_eq_false_iff_ne];exact hk
       have hk3:(decide (kd ≠ 255))=true:=decide_eq_true hk
       have hk4:(kd != 255)=true:=by rw [bne_iff_ne];exact hk
       by_cases hm2:127 * (i:Int) < mm
       ·go_wp2_with (go_at_call 247;refine P2.out.mono ?_;rintro _ w6 ⟨a6,c6,rfl,hb6,hown7⟩;have hb7:=zadv (hb6.alloc hb6.size (.cells #[.int .i64 kd,.slice a6 bd.length c6] 166));have O7:=zadv (zbe hown7 (zadw _) ((Below.refl w6.heap.size w6).alloc (zadw _) (.cells #[.int .i64 kd,.slice a6 bd.length c6] 166)));have c67:=(hb7.out.block w.heap.size (by omega)).trans c56;have c60:=(zao c67 0).1;have c61:=(zao c67 1).1;have f60:=(zao c67 0).2;have f61:=(zao c67 1).2;have hz6:=hb6.size;clear hown7)
        try simp only [Exit.inBlock,Exit.then]
        refine bodyPost_ret (zbk rfl _ _ w.heap.size rfl (cs:=#[.int .i64 kd,.slice a6 bd.length c6]) (by rw [zac,if_pos rfl,zac,if_pos rfl,zaa c67];rfl) rfl) rfl ?_
        exact FIN.out _ a6 c6 hb7.out O7.out true (by rw [hk3,decide_eq_true (by omega)];rfl)
       ·go_wp2_with (go_at_call 247;refine P2.out.mono ?_;rintro _ w6 ⟨a6,c6,rfl,hb6,hown7⟩;have hb7:=zadv (hb6.alloc hb6.size (.cells #[.int .i64 kd,.slice a6 bd.length c6] 166));have O7:=zadv (zbe hown7 (zadw _) ((Below.refl w6.heap.size w6).alloc (zadw _) (.cells #[.int .i64 kd,.slice a6 bd.length c6] 166)));have c67:=(hb7.out.block w.heap.size (by omega)).trans c56;have c60:=(zao c67 0).1;have c61:=(zao c67 1).1;have f60:=(zao c67 0).2;have f61:=(zao c67 1).2;have hz6:=hb6.size;clear hown7)
        try simp only [Exit.inBlock,Exit.then]
        refine bodyPost_ret (zbk rfl _ _ w.heap.size rfl (cs:=#[.int .i64 kd,.slice a6 bd.length c6]) (by rw [zac,if_pos rfl,zac,if_pos rfl,zaa c67];rfl) rfl) rfl ?_
        exact FIN.out _ a6 c6 hb7.out O7.out (decide (127 * (i:Int) < mm)) (by rw [hk3];rfl)
     ·have e1:=E2.out.trans (if_neg he0)
      have hn0:(er == 0)=false:=by rw [beq_eq_false_iff_ne];exact he0
      by_cases he4:er=4
      ·subst he4
       have e:=zadv (e1.trans (if_neg (by decide)))
       clear e1
       go_wp2_with (go_at_call 247;refine P2.out.mono ?_;rintro _ w6 ⟨a6,c6,rfl,hb6,hown7⟩;have hb7:=zadv (hb6.alloc hb6.size (.cells #[.int .i64 kd,.slice a6 bd.length c6] 166));have O7:=zadv (zbe hown7 (zadw _) ((Below.refl w6.heap.size w6).alloc (zadw _) (.cells #[.int .i64 kd,.slice a6 bd.length c6] 166)));have c67:=(hb7.out.block w.heap.size (by omega)).trans c56;have c60:=(zao c67 0).1;have c61:=(zao c67 1).1;have f60:=(zao c67 0).2;have f61:=(zao c67 1).2;have hz6:=hb6.size;clear hown7)
       go_roundw
       case rel=>exact ⟨i + 1,F2,L,by omega,rfl,G.out.dw.below hb7.out,G.out.tb.below hb7.out,zbe HO6.out (zadw _) hb7.out,hLs,by rw [e.out];congr 1;omega,G.out.clear,c67⟩
       case measure=>simp [intOf];omega
      ·have e:=zadv (e1.trans (if_pos he4))
       have hn4:(er == 4)=false:=by rw [beq_eq_false_iff_ne];exact he4
       clear e1
       go_wp2_with (go_at_call 247;refine P2.out.mono ?_;rintro _ w6 ⟨a6,c6,rfl,hb6,hown7⟩;have hb7:=zadv (hb6.alloc hb6.size (.cells #[.int .i64 kd,.slice a6 bd.length c6] 166));have O7:=zadv (zbe hown7 (zadw _) ((Below.refl w6.heap.size w6).alloc (zadw _) (.cells #[.int .i64 kd,.slice a6 bd.length c6] 166)));have c67:=(hb7.out.block w.heap.size (by omega)).trans c56;have c60:=(zao c67 0).1;have c61:=(zao c67 1).1;have f60:=(zao c67 0).2;have f61:=(zao c67 1).2;have hz6:=hb6.size;clear hown7)
       try simp only [Exit.inBlock,Exit.then]
       refine bodyPost_ret (zbk rfl _ _ w.heap.size rfl (cs:=#[.int .i64 0,.slice none 0 0]) (by rw [zac,if_pos rfl,zac,if_pos rfl,zaa c67];rfl) rfl) rfl ?_
       obtain ⟨r1,r2⟩:=zlb hHb.out hz1 hFw.out (G.out.dw.below hb7.out) (G.out.tb.below hb7.out) (.int .i64 0) (.slice none 0 0)
       rw [e.out]
       exact ⟨F2,none,0,rfl,r1,r2,World.ownsRow_nil _ _ _ _,fun k hk=>by cases hk⟩
    ·have e:rowA A at_ end_=Rw.no at_:=by
      rw [← hrow]
      obtain ⟨m,hm⟩:∃ m,N - i=m + 1:=⟨N - i - 1,by omega⟩
      rw [hm,rowL,hs]
      exact if_pos hd
     have E:=zadv e
     have hi2:wrap64 (160 + (i:Int))=160 + i:=IntWalk.wrap64_in _ (by omega)
     clear hrow ht h2 hcl hs e
     go_wp2_with (go_at_call 246;refine R.out.mono ?_;rintro _ w2 ⟨F2,b1,o1,c1,rfl,q1,q2,q3,q4,q5,q6⟩;have T2:=zadv (HT.out.trans ⟨q2,q3⟩);have Q1:=zadv q1;have c6:=q2.block w.heap.size (by have:=HT.out.t.size;omega) (fun x hx=>(HT.out.fb _ _ hx).elim (fun h=>absurd (hFw.out _ _ h) (Nat.lt_irrefl _)) (by omega));have c60:w2.cell? ⟨w.heap.size,0,none⟩=some (.int .i64 0):=(zao (c6.trans hcr) 0).1;have c61:w2.cell? ⟨w.heap.size,1,none⟩=some (.slice none 0 0):=(zao (c6.trans hcr) 1).1;have c62:=c6.trans hcr;have f60:=(zao (c6.trans hcr) 0).2;have f61:=(zao (c6.trans hcr) 1).2;obtain ⟨y,hy⟩:∃ y,l[0]?=some y:=⟨_,zady (by omega)⟩;obtain ⟨b3,o3,hb3,-,hc3⟩:=q5.at (by decide);cases hb3;have hy0:w2.cell? ⟨b1,o1,none⟩=some (.int .u8 y):=hc3 0 _ (by rw [zd6,hy];rfl);have hy2:=hsl.at hy;have hy3:¬ ((y:Int)=160 + i):=(by rw [List.getD_eq_getElem?_getD,hy] at hd;exact hd);clear q1 q2 q3 q5 q6 hc3)
     try simp only [Exit.inBlock,Exit.then]
     refine bodyPost_ret (zbk rfl _ _ w.heap.size rfl (cs:=#[.int .i64 0,.slice none 0 0]) (by rw [zac,if_pos rfl,zac,if_pos rfl,zaa c62];rfl) rfl) rfl ?_
     obtain ⟨r1,r2⟩:=zlb hHb.out hz1 hFw.out Q1.out T2.out (.int .i64 0) (.slice none 0 0)
     rw [E.out]
     exact ⟨F2,none,0,rfl,r1,r2,World.ownsRow_nil _ _ _ _,fun k hk=>by cases hk⟩
  ·obtain rfl:i=N:=by omega
   have hlt2:¬ at_ + i < end_:=by omega
   have e:rowA A at_ end_=Rw.no at_:=by
    rw [← hrow,Nat.sub_self,rowL]
   have c60:wr.cell? ⟨w.heap.size,0,none⟩=some (.int .i64 0):=(zao hcr 0).1
   have c61:wr.cell? ⟨w.heap.size,1,none⟩=some (.slice none 0 0):=(zao hcr 1).1
   have f60:=(zao hcr 0).2
   have f61:=(zao hcr 1).2
   have hadd:wrap64 (at_ + i)=at_ + i:=IntWalk.wrap64_in _ (by omega)
   clear hrow ht h2 hcl
   go_wp2
   try simp only [Exit.inBlock,Exit.then]
   refine bodyPost_ret (zbk rfl _ _ w.heap.size rfl (cs:=#[.int .i64 0,.slice none 0 0]) (by rw [zac,if_pos rfl,zac,if_pos rfl,zaa hcr];rfl) rfl) rfl ?_
   obtain ⟨r1,r2⟩:=zlb hHb.out hz1 hFw.out H2.out HT.out (.int .i64 0) (.slice none 0 0)
   try rw [e]
   exact ⟨F1,none,0,rfl,r1,r2,World.ownsRow_nil _ _ _ _,fun k hk=>by cases hk⟩
end
section
open Sx (Ab DW Turns Did Foot z128)
theorem elemF:Elem Tryz.prog 150 166 2:=Elem.mk' Tryz.underlying150 (by kernel_rfl) (z:=.agg #[.int .i64 0,.slice none 0 0]) (bytes:=32) rfl (by decide) (by decide)
structure Fm where
 kind:Int
 body:List Nat
 ao:Option Addr
 cap:Nat
def Fm.val (f:Fm):Value:=.slice f.ao f.body.length f.cap
def Fm.cells (f:Fm):List Value:=[.int .i64 f.kind,f.val]
def zfj (L:List Fm):List Value:=L.flatMap Fm.cells
def told (L:List Fm):List (Int × List Nat):=L.map fun f=>(f.kind,f.body)
structure Frames (w:World) (B:Nat) (v:Value) (L:List Fm):Prop where
 row:w.ownsRow B 166 2 v L.length (zfj L)
 body:∀ f ∈ L,w.ownsRow B 5 1 f.val f.body.length (bts f.body)
 apart:∀ f ∈ L,∀ k,f.val.ownBlock=some k→v.ownBlock ≠ some k
theorem Frames.nil (w:World) (B:Nat):Frames w B (.slice none 0 0) []:=⟨World.ownsRow_nil _ _ _ _,fun f hf=>by simp at hf,fun f hf=>by simp at hf⟩
theorem Frames.keep {w w':World} {B B1:Nat} {v:Value} {L:List Fm} (h:Frames w B v L) (hB:w.heap.size ≤ B1) (hw:Below B1 w w'):Frames w' B v L:=
 ⟨zbe h.row hB hw,fun f hf=>zbe (h.body f hf) hB hw,h.apart⟩
theorem Frames.grown {w1 w':World} {B:Nat} {v:Value} {L:List Fm} {f:Fm} (h:Frames w1 B v L) (hf:w1.ownsRow B 5 1 f.val f.body.length (bts f.body)) (ha:∀ k,f.val.ownBlock=some k→v.ownBlock ≠ some k)
  {g cap:Nat} (hown:w'.ownsRow B 166 2 (.slice (some ⟨g,0,none⟩) (L.length + 1) cap) (L.length + 1) (zfj L ++ f.cells)) (hgr:w1.grownBy w' v.ownBlock) (hat:v.ownBlock=some g ∨ g=w1.heap.size):
  Frames w' B (.slice (some ⟨g,0,none⟩) (L.length + 1) cap) (L ++ [f]):=by
 have all:∀ f' ∈ L ++ [f],w1.ownsRow B 5 1 f'.val f'.body.length (bts f'.body)∧∀ k,f'.val.ownBlock=some k→v.ownBlock ≠ some k:=fun f' hf'=>by
  rcases List.mem_append.1 hf' with h1 | h1
  ·exact ⟨h.body f' h1,h.apart f' h1⟩
  ·rw [List.mem_singleton] at h1
   subst h1
   exact ⟨hf,ha⟩
 refine ⟨?_,fun f' hf'=>?_,fun f' hf' k hk=>?_⟩
 ·rw [List.length_append]
  have:zfj (L ++ [f])=zfj L ++ f.cells:=by simp [zfj]
  rw [this]
  exact hown
 ·obtain ⟨h1,h2⟩:=all f' hf'
  refine h1.kept hgr ?_
  cases e:f'.val.ownBlock with
  | none=>exact .inl rfl
  | some k=>exact .inr fun e2=>h2 k e (by rw [← e2])
 ·obtain ⟨h1,h2⟩:=all f' hf'
  intro e
  have e':g=k:=by simpa [Value.ownBlock] using e
  subst e'
  rcases hat with hat | hat
  ·exact h2 _ hk hat
  ·have:=(h1.lt _ hk).2
   omega
theorem zsv (L:List Fm):∀ (i:Nat) f,L[i]?=some f→(zfj L)[i * 2]?=some (.int .i64 f.kind)∧(zfj L)[i * 2 + 1]?=some f.val:=by
 induction L with
 | nil=>intro i f h;simp at h
 | cons g L ih=>
  intro i f h
  have e:zfj (g :: L)=.int .i64 g.kind :: g.val :: zfj L:=rfl
  rw [e]
  cases i with
  | zero=>
   obtain rfl:g=f:=by simpa using h
   exact ⟨rfl,rfl⟩
  | succ i=>
   have:=ih i f (by simpa using h)
   rw [show (i + 1) * 2=i * 2 + 1 + 1 by omega]
   simpa using this
set_option maxHeartbeats 2000000 in
structure FrW (w:World) (F:Foot) (B:Nat) (v:Value) (L:List Fm):Prop where
 fr:Frames w B v L
 clear:∀ k,v.ownBlock=some k→∀ x,¬ F k x
 bclear:∀ f ∈ L,∀ k,f.val.ownBlock=some k→∀ x,¬ F k x
theorem FrW.nil (w:World) (F:Foot) (B:Nat):FrW w F B (.slice none 0 0) []:=⟨Frames.nil w B,(fun k hk=>by cases hk),fun f hf=>by simp at hf⟩
theorem Frames.heap {w w':World} {B:Nat} {v:Value} {L:List Fm} (h:Frames w B v L) (hv:∀ k,v.ownBlock=some k→w'.heap[k]?=w.heap[k]?) (hf:∀ f ∈ L,∀ k,f.val.ownBlock=some k→w'.heap[k]?=w.heap[k]?):Frames w' B v L:=
 ⟨zcd h.row hv,fun f hm=>zcd (h.body f hm) (hf f hm),h.apart⟩
theorem FrW.tb {w w':World} {F F':Foot} {B:Nat} {v:Value} {L:List Fm} (h:FrW w F B v L) (ht:TB F w F' w'):FrW w' F' B v L:=
 ⟨h.fr.heap (fun k hk=>ht.t.block k (h.fr.row.lt k hk).2 (h.clear k hk)) (fun f hf k hk=>ht.t.block k ((h.fr.body f hf).lt k hk).2 (h.bclear f hf k hk)),
  zhx h.fr.row ht h.clear,fun f hf=>zhx (h.fr.body f hf) ht (h.bclear f hf)⟩
theorem FrW.base {w:World} {F:Foot} {B B':Nat} {v:Value} {L:List Fm} (h:FrW w F B v L) (hB:B' ≤ B):FrW w F B' v L:=
 ⟨⟨za0 h.fr.row hB,fun f hf=>za0 (h.fr.body f hf) hB,h.fr.apart⟩,h.clear,h.bclear⟩
theorem FrW.keep {w w':World} {F:Foot} {B B1:Nat} {v:Value} {L:List Fm} (h:FrW w F B v L) (hB:w.heap.size ≤ B1) (hw:Below B1 w w'):FrW w' F B v L:=⟨h.fr.keep hB hw,h.clear,h.bclear⟩
end
section
open Sx (Ab DW Turns Did Foot z128)
theorem zaat (A:Ab) (at_:Int):∀ (k i:Nat) (b:List Nat),(rowL A at_ k i b).ok=true→at_ + i < (rowL A at_ k i b).nx∧(rowL A at_ k i b).nx ≤ at_ + i + k:=by
 intro k
 induction k with
 | zero=>intro i b h;cases h
 | succ k ih=>
  intro i b h
  rw [rowL] at h ⊢
  cases hs:A.see (at_ + i) with
  | none=>rw [hs] at h;cases h
  | some l=>
   rw [hs] at h
   simp only at h ⊢
   split at h
   ·cases h
   ·rename_i h1
    rw [if_neg h1]
    split at h
    ·rename_i h2
     rw [if_pos h2]
     exact ⟨by simp only;omega,by simp only;omega⟩
    ·rename_i h2
     rw [if_neg h2]
     split at h
     ·cases h
     ·rename_i h3
      rw [if_neg h3]
      have:=ih (i + 1) _ h
      omega
theorem znd {A:Ab} {at_ end_:Int} (h:(rowA A at_ end_).ok=true):at_ < (rowA A at_ end_).nx∧(rowA A at_ end_).nx ≤ end_:=by
 unfold rowA at *
 have:=zaat A at_ _ _ _ h
 omega
def zci (A:Ab) (end_:Int):Nat→Int→List (Int × List Nat) × Int
 | 0,at_=>([],at_)
 | k + 1,at_=>if (rowA A at_ end_).ok then (((rowA A at_ end_).kind,(rowA A at_ end_).bs) :: (zci A end_ k (rowA A at_ end_).nx).1,(zci A end_ k (rowA A at_ end_).nx).2) else ([],at_)
def zbn (A:Ab) (first:Int):List (Int × List Nat) × Int:=zci A (first + 256) 255 (first + 1)
def zcv (A:Ab) (at_ end_:Int):Bool:=(List.range (end_ - at_ - 1).toNat).any fun k=>(rowA A (at_ + 1 + k) end_).ok
def zaau (F:Foot) (w:World) (dv:Value) (A:Ab) (first:Int):Ending→World→Prop:=fun e w'=>∃ F',DW w' F' dv A∧TB F w F' w'∧
 if zcv A (zbn A first).2 (first + 256)=true then e=.returned (.tuple #[.slice none 0 0,.int .i64 0,.bool false])
 else ∃ v L,e=.returned (.tuple #[v,.int .i64 (zbn A first).2,.bool true])∧FrW w' F' w.heap.size v L∧told L=(zbn A first).1
theorem zsw (L:List Fm) (f:Fm):told (L ++ [f])=told L ++ [(f.kind,f.body)]:=by simp [told]
set_option maxHeartbeats 2000000 in
theorem zo8 {w:World} {F:Foot} {dv:Value} {A:Ab} (H:DW w F dv A) (hA:Ab.Sm A) {first:Int} (hf:first=0 ∨ first=256):Calls Tryz.prog 182 #[dv,.int .i64 first] w (zaau F w dv A first):=by
 have e1:wrap64 (first + 1)=first + 1:=IntWalk.wrap64_in _ (by omega)
 have e2:wrap64 (first + 256)=first + 256:=IntWalk.wrap64_in _ (by omega)
 obtain ⟨end_,hend⟩:∃ end_:Int,first + 256=end_:=⟨_,rfl⟩
 have hE:zbn A first=zci A end_ 255 (first + 1):=by unfold zbn;rw [hend]
 have HE:=zadv hE
 have HEnd:=zadv hend
 clear hE
 go_enter Tryz.func182,Tryz.ntmps182
 go_wp2
 have hH:=zadv H
 clear H hend
 go_loopw [7,8] (fun v7 v8 wr=>∃ (m:Nat) (L:List Fm) (at_:Int) (F1:Foot),first + 1 ≤ at_∧at_ ≤ end_∧end_ - at_ ≤ m∧v8=.int .i64 at_∧DW wr F1 dv A∧TB F w F1 wr∧FrW wr F1 w.heap.size v7 L∧told L ++ (zci A end_ m at_).1=(zbn A first).1∧(zci A end_ m at_).2=(zbn A first).2∧
   L.length + first + 1 ≤ at_) (fun _ v8 _=>(end_ - intOf v8).toNat)
 case atStart=>exact ⟨255,[],first + 1,F,Int.le_refl _,by have:=HEnd.out;omega,by have:=HEnd.out;omega,rfl,hH.out,TB.refl F w,FrW.nil w F _,by rw [HE.out];rfl,by rw [HE.out],by simp⟩
 case round=>
  obtain ⟨m,L,at_,F1,h1,h2,h3,rfl,hd,ht,hfr,hr1,hr2,hll⟩:=hrel
  have hend:=HEnd.out
  have R:=zadv (zo7 hd hA (at_:=at_) (end_:=end_) (by omega) (by omega) (by omega))
  have HT:=zadv ht
  have HFr:=zadv hfr
  have hz:=ht.t.size
  have HR1:=zadv hr1
  have HR2:=zadv hr2
  obtain ⟨a7,c7,rfl⟩:=za8 hfr.fr.row
  clear hd ht hfr hr1 hr2
  cases hok:(rowA A at_ end_).ok with
  | true=>
   have hnx:=znd hok
   obtain ⟨m,rfl⟩:∃ q,m=q + 1:=⟨m - 1,by omega⟩
   have q1:told L ++ ((rowA A at_ end_).kind,(rowA A at_ end_).bs) :: (zci A end_ m (rowA A at_ end_).nx).1=(zbn A first).1:=by rw [← HR1.out,zci,if_pos hok]
   have q2:(zci A end_ m (rowA A at_ end_).nx).2=(zbn A first).2:=by rw [← HR2.out,zci,if_pos hok]
   generalize rowA A at_ end_=rw_ at *
   obtain ⟨kd,bs,nx,ok⟩:=rw_
   obtain rfl:ok=true:=hok
   have Q1:=zadv q1
   have Q2:=zadv q2
   simp only at hnx
   obtain ⟨n1,n2⟩:=hnx
   clear q1 q2 HR1 HR2
   go_wp2_with (first
    | (go_at_call 254;refine R.out.mono ?_;rintro _ w1 ⟨F2,a1,c1,rfl,d2,t2,own2,cl2⟩;have T2:=zadv (HT.out.trans t2);have F2':=zadv (HFr.out.tb t2);have hnb:((w1.alloc (.cells #[.int .i64 kd,.slice a1 bs.length c1] 166)).alloc (.cells #[.int .i64 kd,.slice a1 bs.length c1] 166)).heap[w1.heap.size + 1]?=some (.cells #[.int .i64 kd,.slice a1 bs.length c1] 166):=(by have:=heap_alloc_new (w1.alloc (.cells #[.int .i64 kd,.slice a1 bs.length c1] 166)) (.cells #[.int .i64 kd,.slice a1 bs.length c1] 166);simpa using this);have bb:=(zat w1 (.cells #[.int .i64 kd,.slice a1 bs.length c1] 166)).alloc (by simp) (.cells #[.int .i64 kd,.slice a1 bs.length c1] 166);have hFx:=F2'.out.keep (zadw _) bb;have hbx:=zadv (zbe own2 (zadw _) bb);have D2:=zadv (d2.below bb);have T2b:=zadv (T2.out.below bb);have CL2:=zadv cl2;have hz1:=t2.t.size;clear d2 t2 own2 cl2)
    | (at_builtin;refine zcq elemF rfl _ _ rfl (B:=w.heap.size) rfl hFx.fr.row rfl (news:=(Fm.mk kd bs a1 c1).cells) rfl (World.news_of_block hnb) (by intro u hu;simp only [Fm.cells,List.mem_cons,List.not_mem_nil,or_false] at hu;rcases hu with rfl | rfl <;> rfl) (by decide) (by omega) (by simp;omega) ?_))
   intro g2 cap2 w2 hown2 hgr hat hlt2
   have hap:∀ k,(Fm.mk kd bs a1 c1).val.ownBlock=some k→(Value.slice a7 L.length c7).ownBlock ≠ some k:=fun k hk e=>by
    have t1:=(hbx.out.lt k hk).1
    have t2:=(HFr.out.fr.row.lt k e).2
    omega
   have hg:=grew D2.out T2b.out hFx.fr.row hFx.clear hgr (hat.elim .inl fun h=>.inr (by simpa using h)) (v':=.slice (some ⟨g2,0,none⟩) (L.length + 1) cap2) rfl
   have hF3:FrW w2 F2 w.heap.size (.slice (some ⟨g2,0,none⟩) (L.length + 1) cap2) (L ++ [⟨kd,bs,a1,c1⟩]):=by
    refine ⟨hFx.fr.grown (za0 hbx.out (by omega)) hap hown2 hgr (hat.elim .inl fun h=>.inr (by simpa using h)),hg.clear,fun f hf k hk=>?_⟩
    rcases List.mem_append.1 hf with h | h
    ·exact hFx.bclear f h k hk
    ·rw [List.mem_singleton] at h
     subst h
     exact CL2.out k hk
   have ht3:told (L ++ [⟨kd,bs,a1,c1⟩]) ++ (zci A end_ m nx).1=(zbn A first).1:=by
    rw [zsw,List.append_assoc]
    exact Q1.out
   have F3:=zadv hF3
   have T3:=zadv ht3
   have hg':=zadv hg
   clear hgr hown2 hFx hbx bb hnb hat hap hF3 ht3 hg
   go_wp2
   go_roundw
   case rel=>exact ⟨m,L ++ [⟨kd,bs,a1,c1⟩],nx,F2,by omega,by omega,by omega,rfl,hg'.out.dw,hg'.out.tb,by simpa using F3.out,T3.out,Q2.out,by simp;omega⟩
   case measure=>simp [intOf];omega
  | false=>
   have q1:told L=(zbn A first).1:=by
    rw [← HR1.out]
    cases m with
    | zero=>rw [zci,List.append_nil]
    | succ m=>rw [zci,hok];simp
   have q2:at_=(zbn A first).2:=by
    rw [← HR2.out]
    cases m with
    | zero=>rw [zci]
    | succ m=>rw [zci,hok];simp
   have Q1:=zadv q1
   have Q2:=zadv q2
   clear q1 q2 HR1 HR2
   have ea:wrap64 (at_ + 1)=at_ + 1:=IntWalk.wrap64_in _ (by omega)
   generalize rowA A at_ end_=rw_ at *
   obtain ⟨kd,bs,nx,ok⟩:=rw_
   obtain rfl:ok=false:=hok
   go_wp2_with (go_at_call 254;refine R.out.mono ?_;rintro _ w1 ⟨F2,a1,c1,rfl,d2,t2,own2,cl2⟩;have bb:=zat w1 (.cells #[.int .i64 kd,.slice a1 bs.length c1] 166);have D2:=zadv (d2.below bb);have T2:=zadv ((HT.out.trans t2).below bb);have F2':=zadv ((HFr.out.tb t2).keep (zadw _) bb);clear d2 t2 own2 cl2 bb)
   generalize w1.alloc (.cells #[.int .i64 kd,.slice a1 bs.length c1] 166)=w2 at *
   have hc:zcv A (zbn A first).2 (first + 256)=zcv A at_ end_:=by rw [← Q2.out,hend]
   have HC:=zadv hc
   obtain ⟨K,hK⟩:∃ K:Nat,(end_ - at_ - 1).toNat=K:=⟨_,rfl⟩
   clear hc
   go_wp2
   go_loopw [13] (fun v13 wr=>∃ (k:Nat) (F1:Foot),k ≤ K∧v13=.int .i64 (at_ + 1 + k)∧DW wr F1 dv A∧TB F w F1 wr∧FrW wr F1 w.heap.size (.slice a7 L.length c7) L∧∀ j,j < k→(rowA A (at_ + 1 + (j:Nat)) end_).ok=false) (fun v13 _=>(end_ - intOf v13).toNat)
   case atStart=>exact ⟨0,F2,Nat.zero_le _,by simp,D2.out,T2.out,F2'.out,fun j h=>absurd h (Nat.not_lt_zero j)⟩
   case round=>
    obtain ⟨k,F1,hk,rfl,hd1,ht1,hf1,hn1⟩:=hrel
    have HT2:=zadv ht1
    have HF1:=zadv hf1
    have HN:=zadv hn1
    by_cases hlt:k < K
    ·have hlt2:at_ + 1 + k < end_:=by omega
     have R:=zadv (zo7 hd1 hA (at_:=at_ + 1 + k) (end_:=end_) (by omega) (by omega) (by omega))
     have es:wrap64 (at_ + 1 + k + 1)=at_ + 1 + k + 1:=IntWalk.wrap64_in _ (by omega)
     clear hd1 ht1 hf1 hn1
     cases hok2:(rowA A (at_ + 1 + k) end_).ok with
     | true=>
      have hsp:zcv A at_ end_=true:=by
       unfold zcv
       rw [List.any_eq_true]
       exact ⟨k,List.mem_range.2 (by omega),hok2⟩
      have HS:=zadv (HC.out.trans hsp)
      clear hsp
      generalize rowA A (at_ + 1 + k) end_=rw2 at *
      obtain ⟨kd2,bs2,nx2,ok2⟩:=rw2
      obtain rfl:ok2=true:=hok2
      go_wp2_with (go_at_call 254;refine R.out.mono ?_;rintro _ w3 ⟨F3,a3,c3,rfl,d3,t3,own3,cl3⟩;have bb:=zat w3 (.cells #[.int .i64 kd2,.slice a3 bs2.length c3] 166);have D3:=zadv (d3.below bb);have T3:=zadv ((HT2.out.trans t3).below bb);clear d3 t3 own3 cl3 bb)
      refine bodyPost_ret (results_tmp3 rfl _ _ _) rfl ?_
      exact ⟨F3,D3.out,T3.out,by rw [if_pos HS.out];rfl⟩
     | false=>
      have HK:=zadv hok2
      generalize rowA A (at_ + 1 + k) end_=rw2 at R hok2
      obtain ⟨kd2,bs2,nx2,ok2⟩:=rw2
      obtain rfl:ok2=false:=hok2
      go_wp2_with (go_at_call 254;refine R.out.mono ?_;rintro _ w3 ⟨F3,a3,c3,rfl,d3,t3,own3,cl3⟩;have bb:=zat w3 (.cells #[.int .i64 kd2,.slice a3 bs2.length c3] 166);have D3:=zadv (d3.below bb);have T3:=zadv ((HT2.out.trans t3).below bb);have F3':=zadv ((HF1.out.tb t3).keep (zadw _) bb);clear d3 t3 own3 cl3 bb)
      go_roundw
      case rel=>exact ⟨k + 1,F3,by omega,by go_num,D3.out,T3.out,F3'.out,fun j hj=>by
       rcases Nat.lt_or_ge j k with h | h
       ·exact HN.out j h
       ·obtain rfl:j=k:=by omega
        exact HK.out⟩
      case measure=>simp [intOf];omega
    ·obtain rfl:k=K:=by omega
     have hlt2:¬ at_ + 1 + k < end_:=by omega
     have hsp:zcv A at_ end_=false:=by
      unfold zcv
      rw [List.any_eq_false]
      intro q hq
      rw [HN.out q (by have:=List.mem_range.1 hq;omega)]
      decide
     have HS:=zadv (HC.out.trans hsp)
     have H1:=zadv hd1
     clear hsp hd1 ht1 hf1 hn1
     go_wp2
     refine bodyPost_ret (results_tmp3 rfl _ _ _) rfl ?_
     refine ⟨F1,H1.out,HT2.out,?_⟩
     rw [if_neg (by rw [HS.out];decide)]
     exact ⟨_,L,by rw [Q2.out];rfl,HF1.out,Q1.out⟩
end
end Go.Proofs.YthjgiamfaijoeaaGreatDoor
