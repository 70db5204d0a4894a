/- What is proved: parts of the walk and of the plain law, 1 texts in one. No condition but those each law names. -/
import Derived.Test.YtjkfondgacjpnaaGreatDoorF08
namespace Go.Proofs.YtjkfondgacjpnaaGreatDoor
open Go.RowKit
open Sx (Ab DW Turns Did Foot z128)
set_option maxRecDepth 100000
theorem cells_of {w:World} {b:Nat} {cs:Array Value} {t:TypeId} (h:w.heap[b]?=some (.cells cs t)) (j:Nat):w.cell? ⟨b,j,none⟩=cs[j]?∧w.frozen? ⟨b,j,none⟩=false:=by
 unfold World.cell? World.frozen?
 simp [h]
structure Rw where
 kind:Int
 bs:List Nat
 nx:Int
 ok:Bool
def Rw.no (at_:Int):Rw:=⟨0,[],at_,false⟩
def rowL (A:Ab) (at_:Int):Nat→Nat→List Nat→Rw
 | 0,_,_=>Rw.no at_
 | k + 1,i,b=>match A.see (at_ + i) with
  | none=>Rw.no at_
  | some l=>if ((l.getD 0 0:Nat):Int) ≠ 160 + i then Rw.no at_ else
   if getE (b ++ l.drop 1)=0 then ⟨getK (b ++ l.drop 1),getB (b ++ l.drop 1),at_ + i + 1,getK (b ++ l.drop 1) ≠ 255 && decide (127 * (i:Int) < getM (b ++ l.drop 1))⟩
   else if getE (b ++ l.drop 1) ≠ 4 then Rw.no at_ else rowL A at_ k (i + 1) (b ++ l.drop 1)
def rowA (A:Ab) (at_ end_:Int):Rw:=rowL A at_ (end_ - at_).toNat 0 []
def RetRw (F:Foot) (w:World) (dv:Value) (A:Ab) (r:Rw):Ending→World→Prop:=fun e w'=>∃ F' ao cap,e=.returned (.tuple #[.agg #[.int .i64 r.kind,.slice ao r.bs.length cap],.int .i64 r.nx,.bool r.ok])∧
 DW w' F' dv A∧TB F w F' w'∧w'.ownsRow w.heap.size 5 1 (.slice ao r.bs.length cap) r.bs.length (bts r.bs)∧∀ k,(Value.slice ao r.bs.length cap).ownBlock=some k→∀ x,¬ F' k x
theorem ret_no {w w1 w2:World} {F F2:Foot} {dv:Value} {A:Ab} (hb:Below w.heap.size w w1) (hz:w.heap.size < w1.heap.size) (hF:∀ k x,F k x→k < w.heap.size) (hD:DW w2 F2 dv A) (T:TB F w1 F2 w2) (x y:Value):
  DW ((w2.setCell ⟨w.heap.size,0,none⟩ x).setCell ⟨w.heap.size,1,none⟩ y) F2 dv A∧TB F w F2 ((w2.setCell ⟨w.heap.size,0,none⟩ x).setCell ⟨w.heap.size,1,none⟩ y):=by
 have hF2:∀ x,¬ F2 w.heap.size x:=fun x hx=>(T.fb _ _ hx).elim (fun h=>absurd (hF _ _ h) (Nat.lt_irrefl _)) (by omega)
 have hs:∀ i,i ≠ w.heap.size→((w2.setCell ⟨w.heap.size,0,none⟩ x).setCell ⟨w.heap.size,1,none⟩ y).heap[i]?=w2.heap[i]?:=fun i hi=>
  (heap_setCell_other _ _ _ _ hi).trans (heap_setCell_other _ _ _ _ hi)
 refine ⟨hD.keepB fun i ⟨z,hz⟩=>hs i (fun e=>hF2 z (by rw [← e];exact hz)),⟨⟨T.t.os.trans hb.os,T.t.tape.trans hb.tape,T.t.output.trans hb.output,?_,fun k hk hf=>?_⟩,fun i z h=>(T.fb i z h).elim .inl fun h=>.inr (by omega)⟩⟩
 ·have:=T.t.size
  simp
  omega
 ·rw [hs k (by omega),T.t.block k (by omega) hf]
  exact hb.block k hk
theorem small_getD {l:List Nat} (h:Small l):l.getD 0 0 < 256:=by
 rw [List.getD_eq_getElem?_getD]
 cases hq:l[0]? with
 | none=>decide
 | some y=>exact h.at hq
theorem own_heap {w w':World} {B e s n:Nat} {v:Value} {xs:List Value} (h:w.ownsRow B e s v n xs) (hk:∀ k,v.ownBlock=some k→w'.heap[k]?=w.heap[k]?):w'.ownsRow B e s v n xs:=by
 refine ⟨h.1,?_⟩
 rcases h.2 with h1 | ⟨g,c,cur,hv,hb,hg,r⟩
 ·exact .inl h1
 ·have e1:v.ownBlock=some g:=by rw [hv];rfl
  exact .inr ⟨g,c,cur,hv,hb,(hk g e1).trans hg,r⟩
theorem own_tb {F F':Foot} {w w':World} {B e s n:Nat} {v:Value} {xs:List Value} (h:w.ownsRow B e s v n xs) (ht:TB F w F' w') (hc:∀ k,v.ownBlock=some k→∀ x,¬ F k x):w'.ownsRow B e s v n xs:=
 own_heap h fun k hk=>ht.t.block k (h.lt k hk).2 (hc k hk)
theorem own_clear {F F':Foot} {w w':World} {B e s n:Nat} {v:Value} {xs:List Value} (h:w.ownsRow B e s v n xs) (ht:TB F w F' w') (hc:∀ k,v.ownBlock=some k→∀ x,¬ F k x):∀ k,v.ownBlock=some k→∀ x,¬ F' k x:=
 fun k hk x hx=>(ht.fb k x hx).elim (hc k hk x) fun h2=>absurd (h.lt k hk).2 (by omega)
theorem TB.grown {F F1:Foot} {w w1 w2:World} {row:Option Nat} (h:TB F w F1 w1) (hgr:w1.grownBy w2 row) (hrow:∀ k,row=some k→w.heap.size ≤ k):TB F w F1 w2:=
 ⟨⟨hgr.os.trans h.t.os,hgr.tape.trans h.t.tape,hgr.output.trans h.t.output,Nat.le_trans h.t.size hgr.size,
  fun k hk hf=>(hgr.block k (Nat.lt_of_lt_of_le hk h.t.size) fun e=>absurd hk (by have:=hrow k e.symm;omega)).trans (h.t.block k hk hf)⟩,h.fb⟩
theorem TB.below {F F1:Foot} {w w1 w2:World} (h:TB F w F1 w1) (hb:Below w1.heap.size w1 w2):TB F w F1 w2:=
 ⟨⟨hb.os.trans h.t.os,hb.tape.trans h.t.tape,hb.output.trans h.t.output,Nat.le_trans h.t.size hb.size,
  fun k hk hf=>(hb.block k (Nat.lt_of_lt_of_le hk h.t.size)).trans (h.t.block k hk hf)⟩,h.fb⟩
theorem dw_grown {w w':World} {F:Foot} {dv:Value} {A:Ab} {row:Option Nat} (h:DW w F dv A) (hgr:w.grownBy w' row) (hc:∀ k,row=some k→∀ x,¬ F k x):DW w' F dv A:=
 h.keepB fun i ⟨x,hx⟩=>hgr.block i (h.lt hx) fun e=>hc i e.symm x hx
structure Grew (F F2:Foot) (w1 w2 w5:World) (dv:Value) (A:Ab) (v v':Value):Prop where
 dw:DW w5 F2 dv A
 tb:TB F w1 F2 w5
 clear:∀ k,v'.ownBlock=some k→∀ x,¬ F2 k x
 cell:∀ k,k < w1.heap.size→w5.heap[k]?=w2.heap[k]?
theorem grew {F F2:Foot} {w1 w2 w5:World} {dv:Value} {A:Ab} {n e s:Nat} {v v':Value} {xs:List Value} {g:Nat} (D:DW w2 F2 dv A) (T:TB F w1 F2 w2) (hown:w2.ownsRow w1.heap.size e s v n xs) (hc:∀ k,v.ownBlock=some k→∀ x,¬ F2 k x)
   (hgr:w2.grownBy w5 v.ownBlock) (hat:v.ownBlock=some g ∨ g=w2.heap.size) (hv:v'.ownBlock=some g):Grew F F2 w1 w2 w5 dv A v v':=
 ⟨dw_grown D hgr hc,T.grown hgr (own_block hown),fun k hk x hx=>by
   rw [hv] at hk
   cases hk
   rcases hat with h | h
   · exact hc g h x hx
   · exact absurd (D.lt hx) (by omega),
  fun k hk=>hgr.block k (Nat.lt_of_lt_of_le hk T.t.size) fun e=>absurd (own_block hown k e.symm) (by omega)⟩
set_option maxHeartbeats 2000000 in
theorem Row_read {w:World} {F:Foot} {dv:Value} {A:Ab} (H:DW w F dv A) (hA:Ab.Sm A) {at_ end_:Int} (h0:0 ≤ at_) (h01:at_ ≤ 512) (h1:end_ ≤ 512):Calls Tryz.prog 178 #[dv,.int .i64 at_,.int .i64 end_] w (RetRw F w dv A (rowA A at_ end_)):=by
 go_enter Tryz.func178,Tryz.ntmps178
 go_wp2
 have hb1:=(Below.refl w.heap.size w).alloc (Nat.le_refl _) (.cells #[.int .i64 0,.slice none 0 0] 177)
 have hH:=Lib.hid (H.below hb1)
 have hFw:=Lib.hid (fun (k x:Nat) (hf:F k x)=>H.lt hf)
 have hc:(w.alloc (.cells #[.int .i64 0,.slice none 0 0] 177)).heap[w.heap.size]?=some (.cells #[.int .i64 0,.slice none 0 0] 177):=heap_alloc_new w _
 have hz1:w.heap.size < (w.alloc (.cells #[.int .i64 0,.slice none 0 0] 177)).heap.size:=by simp
 have hHb:=Lib.hid hb1
 clear H hb1
 generalize w.alloc (.cells #[.int .i64 0,.slice none 0 0] 177)=w1 at *
 obtain ⟨N,hN⟩:∃ N:Nat,(end_ - at_).toNat=N:=⟨_,rfl⟩
 go_loopw [9,10] (fun v9 v10 wr=>∃ (i:Nat) (F1:Foot) (b:List Nat),i ≤ N∧v10=.int .i64 i∧DW wr F1 dv A∧TB F w1 F1 wr∧wr.ownsRow w1.heap.size 5 1 v9 (127 * i) (bts b)∧Small b∧rowL A at_ (N - i) i b=rowA A at_ end_∧
   (∀ k,v9.ownBlock=some k→∀ x,¬ F1 k x)∧wr.heap[w.heap.size]?=some (.cells #[.int .i64 0,.slice none 0 0] 177)) (fun _ v10 _=>N - (intOf v10).toNat)
 case atStart=>exact ⟨0,F,[],Nat.zero_le _,rfl,hH.out,TB.refl F w1,World.ownsRow_nil _ _ _ _,(fun x hx=>by cases hx),(by unfold rowA;rw [hN];rfl),(fun k hk=>by cases hk),hc⟩
 case round=>
  obtain ⟨i,F1,b,hi,rfl,h2,ht,hown,hsb,hrow,hcl,hcr⟩:=hrel
  obtain ⟨ao9,cap9,rfl⟩:=own_form hown
  have hR:=Lib.hid hrow
  have HT:=Lib.hid ht
  have H2:=Lib.hid h2
  by_cases hlt:i < N
  ·have hlt2:at_ + i < end_:=by omega
   have hadd:wrap64 (at_ + i)=at_ + i:=IntWalk.wrap64_in _ (by omega)
   cases hs:A.see (at_ + i) with
   | none=>
    have R:=Lib.hid (read_none h2 (i:=at_ + i) (by omega) hs)
    have e:rowA A at_ end_=Rw.no at_:=by
     rw [← hrow]
     obtain ⟨m,hm⟩:∃ m,N - i=m + 1:=⟨N - i - 1,by omega⟩
     rw [hm,rowL,hs]
    clear hrow ht h2 hcl hs
    go_wp2_with (go_at_call 170;refine R.out.mono ?_;rintro _ w2 ⟨F2,rfl,q1,q2,q3⟩;have T2:=Lib.hid (HT.out.trans ⟨q2,q3⟩);have Q1:=Lib.hid q1;have c6:=q2.block w.heap.size (by have:=HT.out.t.size;omega) (fun x hx=>(HT.out.fb _ _ hx).elim (fun h=>absurd (hFw.out _ _ h) (Nat.lt_irrefl _)) (by omega));have c60:w2.cell? ⟨w.heap.size,0,none⟩=some (.int .i64 0):=(cells_of (c6.trans hcr) 0).1;have c61:w2.cell? ⟨w.heap.size,1,none⟩=some (.slice none 0 0):=(cells_of (c6.trans hcr) 1).1;have c62:=c6.trans hcr;have f60:=(cells_of (c6.trans hcr) 0).2;have f61:=(cells_of (c6.trans hcr) 1).2;clear q1 q2 q3)
    try simp only [Exit.inBlock,Exit.then]
    refine bodyPost_ret (results33 rfl _ _ w.heap.size rfl (cs:=#[.int .i64 0,.slice none 0 0]) (by rw [rowOf_setCell,if_pos rfl,rowOf_setCell,if_pos rfl,rowOf_of c62];rfl) rfl) rfl ?_
    obtain ⟨r1,r2⟩:=ret_no hHb.out hz1 hFw.out Q1.out T2.out (.int .i64 0) (.slice none 0 0)
    rw [e]
    exact ⟨F2,none,0,rfl,r1,r2,World.ownsRow_nil _ _ _ _,fun k hk=>by cases hk⟩
   | some l=>
    have R:=Lib.hid (read_some h2 (i:=at_ + i) (by omega) hs)
    have hsl:=sm_see hA hs
    by_cases hd:((l.getD 0 0:Nat):Int)=160 + i
    ·have hb256:=small_getD hsl
     have hi2:wrap64 (160 + (i:Int))=160 + i:=IntWalk.wrap64_in _ (by omega)
     obtain ⟨m,hm⟩:∃ m,N - i=m + 1:=⟨N - i - 1,by omega⟩
     have hLs:Small (b ++ l.drop 1):=hsb.append (hsl.drop 1)
     have hrow2:rowA A at_ end_=if getE (b ++ l.drop 1)=0 then ⟨getK (b ++ l.drop 1),getB (b ++ l.drop 1),at_ + i + 1,getK (b ++ l.drop 1) ≠ 255 && decide (127 * (i:Int) < getM (b ++ l.drop 1))⟩
       else if getE (b ++ l.drop 1) ≠ 4 then Rw.no at_ else rowL A at_ m (i + 1) (b ++ l.drop 1):=by
      rw [← hrow,hm,rowL,hs]
      exact if_neg (not_not_intro hd)
     have E2:=Lib.hid hrow2
     have HOWN:=Lib.hid hown
     have HCL:=Lib.hid hcl
     have hbl:b.length=127 * i:=by have:=hown.1;rw [bts_length] at this;omega
     clear hrow ht h2 hcl hs hrow2 hown
     go_wp2_with (first
      | (go_at_call 170;refine R.out.mono ?_;rintro _ w2 ⟨F2,b1,o1,c1,rfl,q1,q2,q3,q4,q5,q6⟩;have T2:=Lib.hid (HT.out.trans ⟨q2,q3⟩);have Q1:=Lib.hid q1;have c6:=q2.block w.heap.size (by have:=HT.out.t.size;omega) (fun x hx=>(HT.out.fb _ _ hx).elim (fun h=>absurd (hFw.out _ _ h) (Nat.lt_irrefl _)) (by omega));have C6:=Lib.hid (c6.trans hcr);obtain ⟨y,hy⟩:∃ y,l[0]?=some y:=⟨_,List.getElem?_eq_getElem (by omega)⟩;obtain ⟨b3,o3,hb3,-,hc3⟩:=q5.at (by decide);cases hb3;have hy0:w2.cell? ⟨b1,o1,none⟩=some (.int .u8 y):=hc3 0 _ (by rw [bts_get,hy];rfl);have hy2:=hsl.at hy;have hy3:(y:Int)=160 + i:=(by rw [List.getD_eq_getElem?_getD,hy] at hd;exact hd);have hown2:=Lib.hid (own_tb HOWN.out ⟨q2,q3⟩ HCL.out);have hcl2:=Lib.hid (own_clear HOWN.out ⟨q2,q3⟩ HCL.out);have hce:=q5.le;have hcut:cutA (some ⟨b1,o1,none⟩) 1 c1=some ⟨b1,o1 + 1,none⟩:=cutA_some _ _ _ _ (by omega);have hcc:(128:Int) ≤ c1:=(by omega);have hnew:=Lib.hid (fun (j:Nat) u (hj:(bts (l.drop 1))[j]?=some u)=>(show w2.cell? ((⟨b1,o1 + 1,none⟩:Addr).add j)=some u from by rw [add_plain_addr,Nat.add_assoc];refine hc3 (1 + j) u ?_;rw [← hj];unfold bts;rw [List.map_drop,List.getElem?_drop]));have hdl:(bts (l.drop 1)).length=127:=(by rw [bts_length,List.length_drop,q4]);have hw12:=T2.out.t.size;clear q1 q2 q3 q5 q6 hc3 c6)
      | (at_builtin;refine wp_app_at elemB rfl _ _ rfl (B:=w1.heap.size) (n:=127 * i) (xs:=bts b) (news:=bts (l.drop 1)) rfl hown2.out rfl (by rw [hdl]) hnew.out (bts_one _) (by decide) (by omega) hw12 ?_))
     intro g5 cap5 w5 hown5 hgr5 hat5 hlt5
     have hown6:w5.ownsRow w1.heap.size 5 1 (.slice (some ⟨g5,0,none⟩) (127 * i + 127) cap5) (127 * i + 127) (bts (b ++ l.drop 1)):=by rw [bts_append,List.drop_one];exact hown5
     have G:=Lib.hid (grew Q1.out T2.out hown2.out hcl2.out hgr5 hat5 (v':=.slice (some ⟨g5,0,none⟩) (127 * i + 127) cap5) rfl)
     have c56:=(G.out.cell w.heap.size hz1).trans C6.out
     have hz5:w1.heap.size ≤ w5.heap.size:=G.out.tb.t.size
     have hrow2:=E2.out
     clear E2 hown5 hgr5 hat5 HOWN HCL hown2 hcl2 hnew hcut hcc hdl hy0 hy3
     generalize b ++ l.drop 1=L at *
     have P:=Get_any (Sl.own hown6) hLs (by omega)
     unfold RetG at P
     generalize getE L=er at *
     generalize getK L=kd at *
     generalize getM L=mm at *
     generalize getB L=bd at *
     have P2:=Lib.hid P
     have E2:=Lib.hid hrow2
     have HO6:=Lib.hid hown6
     clear P hrow2 hown6
     have a1:wrap64 (at_ + i + 1)=at_ + i + 1:=IntWalk.wrap64_in _ (by omega)
     have a2:wrap64 (127 * (i:Int))=127 * i:=IntWalk.wrap64_in _ (by omega)
     by_cases he0:er=0
     ·subst he0
      have e:=Lib.hid (E2.out.trans (if_pos rfl))
      have fin:∀ (w7:World) (a6:Option Addr) (c6:Nat),Below w5.heap.size w5 w7→w7.ownsRow w5.heap.size 5 1 (.slice a6 bd.length c6) bd.length (bts bd)→∀ ok:Bool,ok=(kd ≠ 255 && decide (127 * (i:Int) < mm))→
        RetRw F w dv A (rowA A at_ end_) (.returned (.tuple #[.agg #[.int .i64 kd,.slice a6 bd.length c6],.int .i64 (at_ + i + 1),.bool ok])) ((w7.setCell ⟨w.heap.size,0,none⟩ (.int .i64 kd)).setCell ⟨w.heap.size,1,none⟩ (.slice a6 bd.length c6)):=fun w7 a6 c6 hb7 O7 ok hok=>by
       obtain ⟨r1,r2⟩:=ret_no hHb.out hz1 hFw.out (G.out.dw.below hb7) (G.out.tb.below hb7) (.int .i64 kd) (.slice a6 bd.length c6)
       rw [e.out,hok]
       refine ⟨F2,a6,c6,rfl,r1,r2,own_heap (own_base O7 (by omega)) fun k hk=>?_,fun k hk x hx=>?_⟩
       ·have hne:k ≠ w.heap.size:=by have:=(O7.lt k hk).1;omega
        exact (heap_setCell_other _ _ _ _ hne).trans (heap_setCell_other _ _ _ _ hne)
       ·have h1:=(O7.lt k hk).1
        have h2:=G.out.dw.lt hx
        omega
      have FIN:=Lib.hid fin
      clear fin e
      by_cases hk:kd=255
      ·subst hk
       go_wp2_with (go_at_call 171;refine P2.out.mono ?_;rintro _ w6 ⟨a6,c6,rfl,hb6,hown7⟩;have hb7:=Lib.hid (hb6.alloc hb6.size (.cells #[.int .i64 255,.slice a6 bd.length c6] 177));have O7:=Lib.hid (own_keep hown7 (Nat.le_refl _) ((Below.refl w6.heap.size w6).alloc (Nat.le_refl _) (.cells #[.int .i64 255,.slice a6 bd.length c6] 177)));have c67:=(hb7.out.block w.heap.size (by omega)).trans c56;have c60:=(cells_of c67 0).1;have c61:=(cells_of c67 1).1;have f60:=(cells_of c67 0).2;have f61:=(cells_of c67 1).2;have hz6:=hb6.size;clear hown7)
       try simp only [Exit.inBlock,Exit.then]
       refine bodyPost_ret (results33 rfl _ _ w.heap.size rfl (cs:=#[.int .i64 255,.slice a6 bd.length c6]) (by rw [rowOf_setCell,if_pos rfl,rowOf_setCell,if_pos rfl,rowOf_of c67];rfl) rfl) rfl ?_
       exact FIN.out _ a6 c6 hb7.out O7.out false rfl
      ·have hk2:(kd == 255)=false:=by rw [beq_eq_false_iff_ne];exact hk
       have hk3:(decide (kd ≠ 255))=true:=decide_eq_true hk
       have hk4:(kd != 255)=true:=by rw [bne_iff_ne];exact hk
       by_cases hm2:127 * (i:Int) < mm
       ·go_wp2_with (go_at_call 171;refine P2.out.mono ?_;rintro _ w6 ⟨a6,c6,rfl,hb6,hown7⟩;have hb7:=Lib.hid (hb6.alloc hb6.size (.cells #[.int .i64 kd,.slice a6 bd.length c6] 177));have O7:=Lib.hid (own_keep hown7 (Nat.le_refl _) ((Below.refl w6.heap.size w6).alloc (Nat.le_refl _) (.cells #[.int .i64 kd,.slice a6 bd.length c6] 177)));have c67:=(hb7.out.block w.heap.size (by omega)).trans c56;have c60:=(cells_of c67 0).1;have c61:=(cells_of c67 1).1;have f60:=(cells_of c67 0).2;have f61:=(cells_of c67 1).2;have hz6:=hb6.size;clear hown7)
        try simp only [Exit.inBlock,Exit.then]
        refine bodyPost_ret (results33 rfl _ _ w.heap.size rfl (cs:=#[.int .i64 kd,.slice a6 bd.length c6]) (by rw [rowOf_setCell,if_pos rfl,rowOf_setCell,if_pos rfl,rowOf_of c67];rfl) rfl) rfl ?_
        exact FIN.out _ a6 c6 hb7.out O7.out true (by rw [hk3,decide_eq_true (by omega)];rfl)
       ·go_wp2_with (go_at_call 171;refine P2.out.mono ?_;rintro _ w6 ⟨a6,c6,rfl,hb6,hown7⟩;have hb7:=Lib.hid (hb6.alloc hb6.size (.cells #[.int .i64 kd,.slice a6 bd.length c6] 177));have O7:=Lib.hid (own_keep hown7 (Nat.le_refl _) ((Below.refl w6.heap.size w6).alloc (Nat.le_refl _) (.cells #[.int .i64 kd,.slice a6 bd.length c6] 177)));have c67:=(hb7.out.block w.heap.size (by omega)).trans c56;have c60:=(cells_of c67 0).1;have c61:=(cells_of c67 1).1;have f60:=(cells_of c67 0).2;have f61:=(cells_of c67 1).2;have hz6:=hb6.size;clear hown7)
        try simp only [Exit.inBlock,Exit.then]
        refine bodyPost_ret (results33 rfl _ _ w.heap.size rfl (cs:=#[.int .i64 kd,.slice a6 bd.length c6]) (by rw [rowOf_setCell,if_pos rfl,rowOf_setCell,if_pos rfl,rowOf_of c67];rfl) rfl) rfl ?_
        exact FIN.out _ a6 c6 hb7.out O7.out (decide (127 * (i:Int) < mm)) (by rw [hk3];rfl)
     ·have e1:=E2.out.trans (if_neg he0)
      have hn0:(er == 0)=false:=by rw [beq_eq_false_iff_ne];exact he0
      by_cases he4:er=4
      ·subst he4
       have e:=Lib.hid (e1.trans (if_neg (by decide)))
       clear e1
       go_wp2_with (go_at_call 171;refine P2.out.mono ?_;rintro _ w6 ⟨a6,c6,rfl,hb6,hown7⟩;have hb7:=Lib.hid (hb6.alloc hb6.size (.cells #[.int .i64 kd,.slice a6 bd.length c6] 177));have O7:=Lib.hid (own_keep hown7 (Nat.le_refl _) ((Below.refl w6.heap.size w6).alloc (Nat.le_refl _) (.cells #[.int .i64 kd,.slice a6 bd.length c6] 177)));have c67:=(hb7.out.block w.heap.size (by omega)).trans c56;have c60:=(cells_of c67 0).1;have c61:=(cells_of c67 1).1;have f60:=(cells_of c67 0).2;have f61:=(cells_of c67 1).2;have hz6:=hb6.size;clear hown7)
       go_roundw
       case rel=>exact ⟨i + 1,F2,L,by omega,rfl,G.out.dw.below hb7.out,G.out.tb.below hb7.out,own_keep HO6.out (Nat.le_refl _) hb7.out,hLs,by rw [e.out];congr 1;omega,G.out.clear,c67⟩
       case measure=>simp [intOf];omega
      ·have e:=Lib.hid (e1.trans (if_pos he4))
       have hn4:(er == 4)=false:=by rw [beq_eq_false_iff_ne];exact he4
       clear e1
       go_wp2_with (go_at_call 171;refine P2.out.mono ?_;rintro _ w6 ⟨a6,c6,rfl,hb6,hown7⟩;have hb7:=Lib.hid (hb6.alloc hb6.size (.cells #[.int .i64 kd,.slice a6 bd.length c6] 177));have O7:=Lib.hid (own_keep hown7 (Nat.le_refl _) ((Below.refl w6.heap.size w6).alloc (Nat.le_refl _) (.cells #[.int .i64 kd,.slice a6 bd.length c6] 177)));have c67:=(hb7.out.block w.heap.size (by omega)).trans c56;have c60:=(cells_of c67 0).1;have c61:=(cells_of c67 1).1;have f60:=(cells_of c67 0).2;have f61:=(cells_of c67 1).2;have hz6:=hb6.size;clear hown7)
       try simp only [Exit.inBlock,Exit.then]
       refine bodyPost_ret (results33 rfl _ _ w.heap.size rfl (cs:=#[.int .i64 0,.slice none 0 0]) (by rw [rowOf_setCell,if_pos rfl,rowOf_setCell,if_pos rfl,rowOf_of c67];rfl) rfl) rfl ?_
       obtain ⟨r1,r2⟩:=ret_no hHb.out hz1 hFw.out (G.out.dw.below hb7.out) (G.out.tb.below hb7.out) (.int .i64 0) (.slice none 0 0)
       rw [e.out]
       exact ⟨F2,none,0,rfl,r1,r2,World.ownsRow_nil _ _ _ _,fun k hk=>by cases hk⟩
    ·have e:rowA A at_ end_=Rw.no at_:=by
      rw [← hrow]
      obtain ⟨m,hm⟩:∃ m,N - i=m + 1:=⟨N - i - 1,by omega⟩
      rw [hm,rowL,hs]
      exact if_pos hd
     have E:=Lib.hid e
     have hi2:wrap64 (160 + (i:Int))=160 + i:=IntWalk.wrap64_in _ (by omega)
     clear hrow ht h2 hcl hs e
     go_wp2_with (go_at_call 170;refine R.out.mono ?_;rintro _ w2 ⟨F2,b1,o1,c1,rfl,q1,q2,q3,q4,q5,q6⟩;have T2:=Lib.hid (HT.out.trans ⟨q2,q3⟩);have Q1:=Lib.hid q1;have c6:=q2.block w.heap.size (by have:=HT.out.t.size;omega) (fun x hx=>(HT.out.fb _ _ hx).elim (fun h=>absurd (hFw.out _ _ h) (Nat.lt_irrefl _)) (by omega));have c60:w2.cell? ⟨w.heap.size,0,none⟩=some (.int .i64 0):=(cells_of (c6.trans hcr) 0).1;have c61:w2.cell? ⟨w.heap.size,1,none⟩=some (.slice none 0 0):=(cells_of (c6.trans hcr) 1).1;have c62:=c6.trans hcr;have f60:=(cells_of (c6.trans hcr) 0).2;have f61:=(cells_of (c6.trans hcr) 1).2;obtain ⟨y,hy⟩:∃ y,l[0]?=some y:=⟨_,List.getElem?_eq_getElem (by omega)⟩;obtain ⟨b3,o3,hb3,-,hc3⟩:=q5.at (by decide);cases hb3;have hy0:w2.cell? ⟨b1,o1,none⟩=some (.int .u8 y):=hc3 0 _ (by rw [bts_get,hy];rfl);have hy2:=hsl.at hy;have hy3:¬ ((y:Int)=160 + i):=(by rw [List.getD_eq_getElem?_getD,hy] at hd;exact hd);clear q1 q2 q3 q5 q6 hc3)
     try simp only [Exit.inBlock,Exit.then]
     refine bodyPost_ret (results33 rfl _ _ w.heap.size rfl (cs:=#[.int .i64 0,.slice none 0 0]) (by rw [rowOf_setCell,if_pos rfl,rowOf_setCell,if_pos rfl,rowOf_of c62];rfl) rfl) rfl ?_
     obtain ⟨r1,r2⟩:=ret_no hHb.out hz1 hFw.out Q1.out T2.out (.int .i64 0) (.slice none 0 0)
     rw [E.out]
     exact ⟨F2,none,0,rfl,r1,r2,World.ownsRow_nil _ _ _ _,fun k hk=>by cases hk⟩
  ·obtain rfl:i=N:=by omega
   have hlt2:¬ at_ + i < end_:=by omega
   have e:rowA A at_ end_=Rw.no at_:=by
    rw [← hrow,Nat.sub_self,rowL]
   have c60:wr.cell? ⟨w.heap.size,0,none⟩=some (.int .i64 0):=(cells_of hcr 0).1
   have c61:wr.cell? ⟨w.heap.size,1,none⟩=some (.slice none 0 0):=(cells_of hcr 1).1
   have f60:=(cells_of hcr 0).2
   have f61:=(cells_of hcr 1).2
   have hadd:wrap64 (at_ + i)=at_ + i:=IntWalk.wrap64_in _ (by omega)
   clear hrow ht h2 hcl
   go_wp2
   try simp only [Exit.inBlock,Exit.then]
   refine bodyPost_ret (results33 rfl _ _ w.heap.size rfl (cs:=#[.int .i64 0,.slice none 0 0]) (by rw [rowOf_setCell,if_pos rfl,rowOf_setCell,if_pos rfl,rowOf_of hcr];rfl) rfl) rfl ?_
   obtain ⟨r1,r2⟩:=ret_no hHb.out hz1 hFw.out H2.out HT.out (.int .i64 0) (.slice none 0 0)
   try rw [e]
   exact ⟨F1,none,0,rfl,r1,r2,World.ownsRow_nil _ _ _ _,fun k hk=>by cases hk⟩
end Go.Proofs.YtjkfondgacjpnaaGreatDoor
