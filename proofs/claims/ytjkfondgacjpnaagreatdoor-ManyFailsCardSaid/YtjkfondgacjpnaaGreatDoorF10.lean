/- What is proved: parts of the walk and of the plain law, 2 texts in one. No condition but those each law names. -/
import Derived.Test.YtjkfondgacjpnaaGreatDoorF09
namespace Go.Proofs.YtjkfondgacjpnaaGreatDoor
open Go.RowKit
open Sx (Ab DW Turns Did Foot z128)
set_option maxRecDepth 100000
theorem elemF:Elem Tryz.prog 173 177 2:=Elem.mk' Tryz.underlying173 (by kernel_rfl) (z:=.agg #[.int .i64 0,.slice none 0 0]) (bytes:=32) rfl (by decide) (by decide)
structure Fm where
 kind:Int
 body:List Nat
 ao:Option Addr
 cap:Nat
def Fm.val (f:Fm):Value:=.slice f.ao f.body.length f.cap
def Fm.cells (f:Fm):List Value:=[.int .i64 f.kind,f.val]
def fcells (L:List Fm):List Value:=L.flatMap Fm.cells
def told (L:List Fm):List (Int × List Nat):=L.map fun f=>(f.kind,f.body)
structure Frames (w:World) (B:Nat) (v:Value) (L:List Fm):Prop where
 row:w.ownsRow B 177 2 v L.length (fcells L)
 body:∀ f ∈ L,w.ownsRow B 5 1 f.val f.body.length (bts f.body)
 apart:∀ f ∈ L,∀ k,f.val.ownBlock=some k→v.ownBlock ≠ some k
theorem Frames.nil (w:World) (B:Nat):Frames w B (.slice none 0 0) []:=⟨World.ownsRow_nil _ _ _ _,fun f hf=>by simp at hf,fun f hf=>by simp at hf⟩
theorem Frames.keep {w w':World} {B B1:Nat} {v:Value} {L:List Fm} (h:Frames w B v L) (hB:w.heap.size ≤ B1) (hw:Below B1 w w'):Frames w' B v L:=
 ⟨own_keep h.row hB hw,fun f hf=>own_keep (h.body f hf) hB hw,h.apart⟩
theorem Frames.grown {w1 w':World} {B:Nat} {v:Value} {L:List Fm} {f:Fm} (h:Frames w1 B v L) (hf:w1.ownsRow B 5 1 f.val f.body.length (bts f.body)) (ha:∀ k,f.val.ownBlock=some k→v.ownBlock ≠ some k)
  {g cap:Nat} (hown:w'.ownsRow B 177 2 (.slice (some ⟨g,0,none⟩) (L.length + 1) cap) (L.length + 1) (fcells L ++ f.cells)) (hgr:w1.grownBy w' v.ownBlock) (hat:v.ownBlock=some g ∨ g=w1.heap.size):
  Frames w' B (.slice (some ⟨g,0,none⟩) (L.length + 1) cap) (L ++ [f]):=by
 have all:∀ f' ∈ L ++ [f],w1.ownsRow B 5 1 f'.val f'.body.length (bts f'.body)∧∀ k,f'.val.ownBlock=some k→v.ownBlock ≠ some k:=fun f' hf'=>by
  rcases List.mem_append.1 hf' with h1 | h1
  ·exact ⟨h.body f' h1,h.apart f' h1⟩
  ·rw [List.mem_singleton] at h1
   subst h1
   exact ⟨hf,ha⟩
 refine ⟨?_,fun f' hf'=>?_,fun f' hf' k hk=>?_⟩
 ·rw [List.length_append]
  have:fcells (L ++ [f])=fcells L ++ f.cells:=by simp [fcells]
  rw [this]
  exact hown
 ·obtain ⟨h1,h2⟩:=all f' hf'
  refine h1.kept hgr ?_
  cases e:f'.val.ownBlock with
  | none=>exact .inl rfl
  | some k=>exact .inr fun e2=>h2 k e (by rw [← e2])
 ·obtain ⟨h1,h2⟩:=all f' hf'
  intro e
  have e':g=k:=by simpa [Value.ownBlock] using e
  subst e'
  rcases hat with hat | hat
  ·exact h2 _ hk hat
  ·have:=(h1.lt _ hk).2
   omega
structure FrR (w:World) (ao:Option Addr) (n cap:Nat) (L:List Fm):Prop where
 len:L.length=n
 le:n ≤ cap
 nil:ao=none→cap=0
 each:∀ (i:Nat) f,L[i]?=some f→∃ b o,ao=some ⟨b,o,none⟩∧w.cell? ⟨b,o + i * 2,none⟩=some (.int .i64 f.kind)∧w.cell? ⟨b,o + i * 2 + 1,none⟩=some f.val∧Sl w f.ao f.body.length f.cap (bts f.body)
theorem FrR.keep {w w':World} {B:Nat} {ao:Option Addr} {n cap:Nat} {L:List Fm} (h:FrR w ao n cap L) (hB:w.heap.size ≤ B) (hw:Below B w w'):FrR w' ao n cap L:=by
 refine ⟨h.len,h.le,h.nil,fun i f hf=>?_⟩
 obtain ⟨b,o,e,h1,h2,h3⟩:=h.each i f hf
 have hb:=World.block_lt_of_cell? w ⟨b,o + i * 2,none⟩ h1
 exact ⟨b,o,e,by rw [hw.cell (p:=⟨b,o + i * 2,none⟩) (Nat.lt_of_lt_of_le hb hB)];exact h1,by rw [hw.cell (p:=⟨b,o + i * 2 + 1,none⟩) (Nat.lt_of_lt_of_le hb hB)];exact h2,h3.keep hB hw⟩
theorem FrR.ext {w:World} {ao:Option Addr} {n cap:Nat} {L:List Fm} (h:FrR w ao n cap L) (g:Ext w):FrR g.val ao n cap L:=h.keep (Nat.le_refl _) g.below
theorem fcells_at (L:List Fm):∀ (i:Nat) f,L[i]?=some f→(fcells L)[i * 2]?=some (.int .i64 f.kind)∧(fcells L)[i * 2 + 1]?=some f.val:=by
 induction L with
 | nil=>intro i f h;simp at h
 | cons g L ih=>
  intro i f h
  have e:fcells (g :: L)=.int .i64 g.kind :: g.val :: fcells L:=rfl
  rw [e]
  cases i with
  | zero=>
   obtain rfl:g=f:=by simpa using h
   exact ⟨rfl,rfl⟩
  | succ i=>
   have:=ih i f (by simpa using h)
   rw [show (i + 1) * 2=i * 2 + 1 + 1 by omega]
   simpa using this
theorem Frames.reads {w:World} {B:Nat} {ao:Option Addr} {n cap:Nat} {L:List Fm} (h:Frames w B (.slice ao n cap) L) (hn:L.length=n):FrR w ao n cap L:=by
 subst hn
 have hr:=h.row
 rcases hr.2 with ⟨hv,h0⟩ | ⟨g,c,cur,hv,hb,hg,hn,hm,hs,ht⟩
 ·obtain ⟨rfl,e2,rfl⟩:=Value.slice.inj hv
  have:L=[]:=List.eq_nil_of_length_eq_zero e2
  subst this
  exact ⟨rfl,Nat.le_refl _,fun _=>rfl,fun i f hf=>by simp at hf⟩
 ·cases hv
  refine ⟨rfl,hn,fun h=>by (cases h),fun i f hf=>⟨g,0,rfl,?_,?_,Sl.own (h.body f (List.mem_of_getElem? hf))⟩⟩
  ·have:=hr.cells (g:=g) rfl (i * 2) _ (fcells_at L i f hf).1
   rw [add_plain_addr] at this
   exact this
  ·have:=hr.cells (g:=g) rfl (i * 2 + 1) _ (fcells_at L i f hf).2
   rw [add_plain_addr] at this
   rw [Nat.add_assoc]
   exact this
set_option maxHeartbeats 2000000 in
structure FrW (w:World) (F:Foot) (B:Nat) (v:Value) (L:List Fm):Prop where
 fr:Frames w B v L
 clear:∀ k,v.ownBlock=some k→∀ x,¬ F k x
 bclear:∀ f ∈ L,∀ k,f.val.ownBlock=some k→∀ x,¬ F k x
theorem FrW.nil (w:World) (F:Foot) (B:Nat):FrW w F B (.slice none 0 0) []:=⟨Frames.nil w B,(fun k hk=>by cases hk),fun f hf=>by simp at hf⟩
theorem Frames.heap {w w':World} {B:Nat} {v:Value} {L:List Fm} (h:Frames w B v L) (hv:∀ k,v.ownBlock=some k→w'.heap[k]?=w.heap[k]?) (hf:∀ f ∈ L,∀ k,f.val.ownBlock=some k→w'.heap[k]?=w.heap[k]?):Frames w' B v L:=
 ⟨own_heap h.row hv,fun f hm=>own_heap (h.body f hm) (hf f hm),h.apart⟩
theorem FrW.tb {w w':World} {F F':Foot} {B:Nat} {v:Value} {L:List Fm} (h:FrW w F B v L) (ht:TB F w F' w'):FrW w' F' B v L:=
 ⟨h.fr.heap (fun k hk=>ht.t.block k (h.fr.row.lt k hk).2 (h.clear k hk)) (fun f hf k hk=>ht.t.block k ((h.fr.body f hf).lt k hk).2 (h.bclear f hf k hk)),
  own_clear h.fr.row ht h.clear,fun f hf=>own_clear (h.fr.body f hf) ht (h.bclear f hf)⟩
theorem FrW.base {w:World} {F:Foot} {B B':Nat} {v:Value} {L:List Fm} (h:FrW w F B v L) (hB:B' ≤ B):FrW w F B' v L:=
 ⟨⟨own_base h.fr.row hB,fun f hf=>own_base (h.fr.body f hf) hB,h.fr.apart⟩,h.clear,h.bclear⟩
theorem FrW.keep {w w':World} {F:Foot} {B B1:Nat} {v:Value} {L:List Fm} (h:FrW w F B v L) (hB:w.heap.size ≤ B1) (hw:Below B1 w w'):FrW w' F B v L:=⟨h.fr.keep hB hw,h.clear,h.bclear⟩
end Go.Proofs.YtjkfondgacjpnaaGreatDoor
namespace Go.Proofs.YtjkfondgacjpnaaGreatDoor
open Go.RowKit
open Sx (Ab DW Turns Did Foot z128)
set_option maxRecDepth 100000
theorem rowL_ok (A:Ab) (at_:Int):∀ (k i:Nat) (b:List Nat),(rowL A at_ k i b).ok=true→at_ + i < (rowL A at_ k i b).nx∧(rowL A at_ k i b).nx ≤ at_ + i + k:=by
 intro k
 induction k with
 | zero=>intro i b h;cases h
 | succ k ih=>
  intro i b h
  rw [rowL] at h ⊢
  cases hs:A.see (at_ + i) with
  | none=>rw [hs] at h;cases h
  | some l=>
   rw [hs] at h
   simp only at h ⊢
   split at h
   ·cases h
   ·rename_i h1
    rw [if_neg h1]
    split at h
    ·rename_i h2
     rw [if_pos h2]
     exact ⟨by simp only;omega,by simp only;omega⟩
    ·rename_i h2
     rw [if_neg h2]
     split at h
     ·cases h
     ·rename_i h3
      rw [if_neg h3]
      have:=ih (i + 1) _ h
      omega
theorem rowA_ok {A:Ab} {at_ end_:Int} (h:(rowA A at_ end_).ok=true):at_ < (rowA A at_ end_).nx∧(rowA A at_ end_).nx ≤ end_:=by
 unfold rowA at *
 have:=rowL_ok A at_ _ _ _ h
 omega
def rowsL (A:Ab) (end_:Int):Nat→Int→List (Int × List Nat) × Int
 | 0,at_=>([],at_)
 | k + 1,at_=>if (rowA A at_ end_).ok then (((rowA A at_ end_).kind,(rowA A at_ end_).bs) :: (rowsL A end_ k (rowA A at_ end_).nx).1,(rowsL A end_ k (rowA A at_ end_).nx).2) else ([],at_)
def rowsE (A:Ab) (first:Int):List (Int × List Nat) × Int:=rowsL A (first + 256) 255 (first + 1)
def spoilt (A:Ab) (at_ end_:Int):Bool:=(List.range (end_ - at_ - 1).toNat).any fun k=>(rowA A (at_ + 1 + k) end_).ok
def RetRows (F:Foot) (w:World) (dv:Value) (A:Ab) (first:Int):Ending→World→Prop:=fun e w'=>∃ F',DW w' F' dv A∧TB F w F' w'∧
 if spoilt A (rowsE A first).2 (first + 256)=true then e=.returned (.tuple #[.slice none 0 0,.int .i64 0,.bool false])
 else ∃ v L,e=.returned (.tuple #[v,.int .i64 (rowsE A first).2,.bool true])∧FrW w' F' w.heap.size v L∧told L=(rowsE A first).1
theorem told_push (L:List Fm) (f:Fm):told (L ++ [f])=told L ++ [(f.kind,f.body)]:=by simp [told]
set_option maxHeartbeats 2000000 in
theorem Rows_any {w:World} {F:Foot} {dv:Value} {A:Ab} (H:DW w F dv A) (hA:Ab.Sm A) {first:Int} (hf:first=0 ∨ first=256):Calls Tryz.prog 120 #[dv,.int .i64 first] w (RetRows F w dv A first):=by
 have e1:wrap64 (first + 1)=first + 1:=IntWalk.wrap64_in _ (by omega)
 have e2:wrap64 (first + 256)=first + 256:=IntWalk.wrap64_in _ (by omega)
 obtain ⟨end_,hend⟩:∃ end_:Int,first + 256=end_:=⟨_,rfl⟩
 have hE:rowsE A first=rowsL A end_ 255 (first + 1):=by unfold rowsE;rw [hend]
 have HE:=Lib.hid hE
 have HEnd:=Lib.hid hend
 clear hE
 go_enter Tryz.func120,Tryz.ntmps120
 go_wp2
 have hH:=Lib.hid H
 clear H hend
 go_loopw [7,8] (fun v7 v8 wr=>∃ (m:Nat) (L:List Fm) (at_:Int) (F1:Foot),first + 1 ≤ at_∧at_ ≤ end_∧end_ - at_ ≤ m∧v8=.int .i64 at_∧DW wr F1 dv A∧TB F w F1 wr∧FrW wr F1 w.heap.size v7 L∧told L ++ (rowsL A end_ m at_).1=(rowsE A first).1∧(rowsL A end_ m at_).2=(rowsE A first).2∧
   L.length + first + 1 ≤ at_) (fun _ v8 _=>(end_ - intOf v8).toNat)
 case atStart=>exact ⟨255,[],first + 1,F,Int.le_refl _,by have:=HEnd.out;omega,by have:=HEnd.out;omega,rfl,hH.out,TB.refl F w,FrW.nil w F _,by rw [HE.out];rfl,by rw [HE.out],by simp⟩
 case round=>
  obtain ⟨m,L,at_,F1,h1,h2,h3,rfl,hd,ht,hfr,hr1,hr2,hll⟩:=hrel
  have hend:=HEnd.out
  have R:=Lib.hid (Row_read hd hA (at_:=at_) (end_:=end_) (by omega) (by omega) (by omega))
  have HT:=Lib.hid ht
  have HFr:=Lib.hid hfr
  have hz:=ht.t.size
  have HR1:=Lib.hid hr1
  have HR2:=Lib.hid hr2
  obtain ⟨a7,c7,rfl⟩:=own_form hfr.fr.row
  clear hd ht hfr hr1 hr2
  cases hok:(rowA A at_ end_).ok with
  | true=>
   have hnx:=rowA_ok hok
   obtain ⟨m,rfl⟩:∃ q,m=q + 1:=⟨m - 1,by omega⟩
   have q1:told L ++ ((rowA A at_ end_).kind,(rowA A at_ end_).bs) :: (rowsL A end_ m (rowA A at_ end_).nx).1=(rowsE A first).1:=by rw [← HR1.out,rowsL,if_pos hok]
   have q2:(rowsL A end_ m (rowA A at_ end_).nx).2=(rowsE A first).2:=by rw [← HR2.out,rowsL,if_pos hok]
   generalize rowA A at_ end_=rw_ at *
   obtain ⟨kd,bs,nx,ok⟩:=rw_
   obtain rfl:ok=true:=hok
   have Q1:=Lib.hid q1
   have Q2:=Lib.hid q2
   simp only at hnx
   obtain ⟨n1,n2⟩:=hnx
   clear q1 q2 HR1 HR2
   go_wp2_with (first
    | (go_at_call 178;refine R.out.mono ?_;rintro _ w1 ⟨F2,a1,c1,rfl,d2,t2,own2,cl2⟩;have T2:=Lib.hid (HT.out.trans t2);have F2':=Lib.hid (HFr.out.tb t2);have hnb:((w1.alloc (.cells #[.int .i64 kd,.slice a1 bs.length c1] 177)).alloc (.cells #[.int .i64 kd,.slice a1 bs.length c1] 177)).heap[w1.heap.size + 1]?=some (.cells #[.int .i64 kd,.slice a1 bs.length c1] 177):=(by have:=heap_alloc_new (w1.alloc (.cells #[.int .i64 kd,.slice a1 bs.length c1] 177)) (.cells #[.int .i64 kd,.slice a1 bs.length c1] 177);simpa using this);have bb:=(below1 w1 (.cells #[.int .i64 kd,.slice a1 bs.length c1] 177)).alloc (by simp) (.cells #[.int .i64 kd,.slice a1 bs.length c1] 177);have hFx:=F2'.out.keep (Nat.le_refl _) bb;have hbx:=Lib.hid (own_keep own2 (Nat.le_refl _) bb);have D2:=Lib.hid (d2.below bb);have T2b:=Lib.hid (T2.out.below bb);have CL2:=Lib.hid cl2;have hz1:=t2.t.size;clear d2 t2 own2 cl2)
    | (at_builtin;refine wp_app_at elemF rfl _ _ rfl (B:=w.heap.size) rfl hFx.fr.row rfl (news:=(Fm.mk kd bs a1 c1).cells) rfl (World.news_of_block hnb) (by intro u hu;simp only [Fm.cells,List.mem_cons,List.not_mem_nil,or_false] at hu;rcases hu with rfl | rfl <;> rfl) (by decide) (by omega) (by simp;omega) ?_))
   intro g2 cap2 w2 hown2 hgr hat hlt2
   have hap:∀ k,(Fm.mk kd bs a1 c1).val.ownBlock=some k→(Value.slice a7 L.length c7).ownBlock ≠ some k:=fun k hk e=>by
    have t1:=(hbx.out.lt k hk).1
    have t2:=(HFr.out.fr.row.lt k e).2
    omega
   have hg:=grew D2.out T2b.out hFx.fr.row hFx.clear hgr (hat.elim .inl fun h=>.inr (by simpa using h)) (v':=.slice (some ⟨g2,0,none⟩) (L.length + 1) cap2) rfl
   have hF3:FrW w2 F2 w.heap.size (.slice (some ⟨g2,0,none⟩) (L.length + 1) cap2) (L ++ [⟨kd,bs,a1,c1⟩]):=by
    refine ⟨hFx.fr.grown (own_base hbx.out (by omega)) hap hown2 hgr (hat.elim .inl fun h=>.inr (by simpa using h)),hg.clear,fun f hf k hk=>?_⟩
    rcases List.mem_append.1 hf with h | h
    ·exact hFx.bclear f h k hk
    ·rw [List.mem_singleton] at h
     subst h
     exact CL2.out k hk
   have ht3:told (L ++ [⟨kd,bs,a1,c1⟩]) ++ (rowsL A end_ m nx).1=(rowsE A first).1:=by
    rw [told_push,List.append_assoc]
    exact Q1.out
   have F3:=Lib.hid hF3
   have T3:=Lib.hid ht3
   have hg':=Lib.hid hg
   clear hgr hown2 hFx hbx bb hnb hat hap hF3 ht3 hg
   go_wp2
   go_roundw
   case rel=>exact ⟨m,L ++ [⟨kd,bs,a1,c1⟩],nx,F2,by omega,by omega,by omega,rfl,hg'.out.dw,hg'.out.tb,by simpa using F3.out,T3.out,Q2.out,by simp;omega⟩
   case measure=>simp [intOf];omega
  | false=>
   have q1:told L=(rowsE A first).1:=by
    rw [← HR1.out]
    cases m with
    | zero=>rw [rowsL,List.append_nil]
    | succ m=>rw [rowsL,hok];simp
   have q2:at_=(rowsE A first).2:=by
    rw [← HR2.out]
    cases m with
    | zero=>rw [rowsL]
    | succ m=>rw [rowsL,hok];simp
   have Q1:=Lib.hid q1
   have Q2:=Lib.hid q2
   clear q1 q2 HR1 HR2
   have ea:wrap64 (at_ + 1)=at_ + 1:=IntWalk.wrap64_in _ (by omega)
   generalize rowA A at_ end_=rw_ at *
   obtain ⟨kd,bs,nx,ok⟩:=rw_
   obtain rfl:ok=false:=hok
   go_wp2_with (go_at_call 178;refine R.out.mono ?_;rintro _ w1 ⟨F2,a1,c1,rfl,d2,t2,own2,cl2⟩;have bb:=below1 w1 (.cells #[.int .i64 kd,.slice a1 bs.length c1] 177);have D2:=Lib.hid (d2.below bb);have T2:=Lib.hid ((HT.out.trans t2).below bb);have F2':=Lib.hid ((HFr.out.tb t2).keep (Nat.le_refl _) bb);clear d2 t2 own2 cl2 bb)
   generalize w1.alloc (.cells #[.int .i64 kd,.slice a1 bs.length c1] 177)=w2 at *
   have hc:spoilt A (rowsE A first).2 (first + 256)=spoilt A at_ end_:=by rw [← Q2.out,hend]
   have HC:=Lib.hid hc
   obtain ⟨K,hK⟩:∃ K:Nat,(end_ - at_ - 1).toNat=K:=⟨_,rfl⟩
   clear hc
   go_wp2
   go_loopw [13] (fun v13 wr=>∃ (k:Nat) (F1:Foot),k ≤ K∧v13=.int .i64 (at_ + 1 + k)∧DW wr F1 dv A∧TB F w F1 wr∧FrW wr F1 w.heap.size (.slice a7 L.length c7) L∧∀ j,j < k→(rowA A (at_ + 1 + (j:Nat)) end_).ok=false) (fun v13 _=>(end_ - intOf v13).toNat)
   case atStart=>exact ⟨0,F2,Nat.zero_le _,by simp,D2.out,T2.out,F2'.out,fun j h=>absurd h (Nat.not_lt_zero j)⟩
   case round=>
    obtain ⟨k,F1,hk,rfl,hd1,ht1,hf1,hn1⟩:=hrel
    have HT2:=Lib.hid ht1
    have HF1:=Lib.hid hf1
    have HN:=Lib.hid hn1
    by_cases hlt:k < K
    ·have hlt2:at_ + 1 + k < end_:=by omega
     have R:=Lib.hid (Row_read hd1 hA (at_:=at_ + 1 + k) (end_:=end_) (by omega) (by omega) (by omega))
     have es:wrap64 (at_ + 1 + k + 1)=at_ + 1 + k + 1:=IntWalk.wrap64_in _ (by omega)
     clear hd1 ht1 hf1 hn1
     cases hok2:(rowA A (at_ + 1 + k) end_).ok with
     | true=>
      have hsp:spoilt A at_ end_=true:=by
       unfold spoilt
       rw [List.any_eq_true]
       exact ⟨k,List.mem_range.2 (by omega),hok2⟩
      have HS:=Lib.hid (HC.out.trans hsp)
      clear hsp
      generalize rowA A (at_ + 1 + k) end_=rw2 at *
      obtain ⟨kd2,bs2,nx2,ok2⟩:=rw2
      obtain rfl:ok2=true:=hok2
      go_wp2_with (go_at_call 178;refine R.out.mono ?_;rintro _ w3 ⟨F3,a3,c3,rfl,d3,t3,own3,cl3⟩;have bb:=below1 w3 (.cells #[.int .i64 kd2,.slice a3 bs2.length c3] 177);have D3:=Lib.hid (d3.below bb);have T3:=Lib.hid ((HT2.out.trans t3).below bb);clear d3 t3 own3 cl3 bb)
      refine bodyPost_ret (results_tmp3 rfl _ _ _) rfl ?_
      exact ⟨F3,D3.out,T3.out,by rw [if_pos HS.out];rfl⟩
     | false=>
      have HK:=Lib.hid hok2
      generalize rowA A (at_ + 1 + k) end_=rw2 at R hok2
      obtain ⟨kd2,bs2,nx2,ok2⟩:=rw2
      obtain rfl:ok2=false:=hok2
      go_wp2_with (go_at_call 178;refine R.out.mono ?_;rintro _ w3 ⟨F3,a3,c3,rfl,d3,t3,own3,cl3⟩;have bb:=below1 w3 (.cells #[.int .i64 kd2,.slice a3 bs2.length c3] 177);have D3:=Lib.hid (d3.below bb);have T3:=Lib.hid ((HT2.out.trans t3).below bb);have F3':=Lib.hid ((HF1.out.tb t3).keep (Nat.le_refl _) bb);clear d3 t3 own3 cl3 bb)
      go_roundw
      case rel=>exact ⟨k + 1,F3,by omega,by go_num,D3.out,T3.out,F3'.out,fun j hj=>by
       rcases Nat.lt_or_ge j k with h | h
       ·exact HN.out j h
       ·obtain rfl:j=k:=by omega
        exact HK.out⟩
      case measure=>simp [intOf];omega
    ·obtain rfl:k=K:=by omega
     have hlt2:¬ at_ + 1 + k < end_:=by omega
     have hsp:spoilt A at_ end_=false:=by
      unfold spoilt
      rw [List.any_eq_false]
      intro q hq
      rw [HN.out q (by have:=List.mem_range.1 hq;omega)]
      decide
     have HS:=Lib.hid (HC.out.trans hsp)
     have H1:=Lib.hid hd1
     clear hsp hd1 ht1 hf1 hn1
     go_wp2
     refine bodyPost_ret (results_tmp3 rfl _ _ _) rfl ?_
     refine ⟨F1,H1.out,HT2.out,?_⟩
     rw [if_neg (by rw [HS.out];decide)]
     exact ⟨_,L,by rw [Q2.out];rfl,HF1.out,Q1.out⟩
end Go.Proofs.YtjkfondgacjpnaaGreatDoor

namespace Go.Proofs.YtjkfondgacjpnaaGreatDoor
open Go.RowKit
open Sx (Ab z128 padN)
set_option maxRecDepth 100000
theorem fr_cons (k:Nat) (l more:List Nat):fr k l ++ more=k :: l.length % 256 :: l.length / 256 :: (l ++ (les (csum (hd k l)) 4 ++ more)):=by simp [fr,hd]
theorem gN_cons (k n:Nat) (q:List Nat):gN (k :: n % 256 :: n / 256 :: q)=n:=by
 show n % 256 + 256 * (n / 256 + 256 * 0)=n
 omega
theorem getE_fr {k:Nat} {l:List Nat} (hk:0 < k) (hn:l.length ≤ 400) (more:List Nat):getE (fr k l ++ more)=0:=by
 have hN:gN (fr k l ++ more)=l.length:=by rw [fr_cons,gN_cons]
 have hlen:(fr k l ++ more).length=l.length + 7 + more.length:=by rw [List.length_append,fr_length]
 have ht:(fr k l ++ more).take (3 + l.length)=hd k l:=by
  have:(fr k l ++ more)=hd k l ++ (les (csum (hd k l)) 4 ++ more):=by simp [fr]
  rw [this,show 3 + l.length=(hd k l).length by rw [hd_length];omega,List.take_left]
 have hd4:((fr k l ++ more).drop (3 + l.length)).take 4=les (csum (hd k l)) 4:=by
  have:(fr k l ++ more)=hd k l ++ (les (csum (hd k l)) 4 ++ more):=by simp [fr]
  rw [this,show 3 + l.length=(hd k l).length by rw [hd_length];omega,List.drop_left]
  exact List.take_left' (les_length _ 4)
 have hz:¬ (fr k l ++ more)[0]?=some 0:=by rw [fr_cons];simp;omega
 unfold getE
 rw [if_neg (by omega),if_neg hz,hN,if_neg (by omega),if_neg (by omega),if_neg]
 rw [ht,hd4,num_les]
 have:=csum_lt (hd k l)
 intro h
 apply h
 show csum (hd k l) % 256 ^ 4=csum (hd k l)
 omega
theorem getB_fr {k:Nat} {l:List Nat} (hk:0 < k) (hn:l.length ≤ 400) (more:List Nat):getB (fr k l ++ more)=l:=by
 unfold getB
 rw [if_pos (getE_fr hk hn more),fr_cons,gN_cons]
 simp
theorem getK_fr {k:Nat} {l:List Nat} (hk:0 < k) (hn:l.length ≤ 400) (more:List Nat):getK (fr k l ++ more)=k:=by
 unfold getK
 rw [if_pos (getE_fr hk hn more),fr_cons]
 rfl
theorem getM_fr {k:Nat} {l:List Nat} (hk:0 < k) (hn:l.length ≤ 400) (more:List Nat):getM (fr k l ++ more)=(l.length:Int) + 7:=by
 unfold getM
 rw [if_pos (getE_fr hk hn more),fr_cons,gN_cons]
 rfl
theorem getE_cut {k:Nat} {l:List Nat} (hk:0 < k) (hn:l.length ≤ 400) {i:Nat} (hi:i < l.length + 7):getE ((fr k l).take i)=4:=by
 have hlen:((fr k l).take i).length=i:=by rw [List.length_take,fr_length];omega
 unfold getE
 by_cases h3:i < 3
 ·rw [if_pos (by omega)]
 ·obtain ⟨j,rfl⟩:∃ j,i=j + 3:=⟨i - 3,by omega⟩
  have e:=fr_cons k l []
  rw [List.append_nil] at e
  have e2:(fr k l).take (j + 3)=k :: l.length % 256 :: l.length / 256 :: (l ++ (les (csum (hd k l)) 4 ++ [])).take j:=by rw [e];rfl
  rw [if_neg (by omega),if_neg (by rw [e2];simp;omega),e2,gN_cons,if_neg (by omega),if_pos]
  rw [← e2,hlen];omega
def rowF (r:Int × List Nat):List Nat:=fr r.1.toNat r.2
def secs (r:Int × List Nat):List (List Nat):=(pcs (rowF r)).map padN
def RowOk (r:Int × List Nat):Prop:=1 ≤ r.1∧r.1 < 255∧r.2.length ≤ 400∧Small r.2
theorem rowF_len (r:Int × List Nat):(rowF r).length=r.2.length + 7:=fr_length _ _
theorem rowF_small {r:Int × List Nat} (h:RowOk r):Small (rowF r):=by
 obtain ⟨h1,h2,h3,h4⟩:=h
 exact fr_small (by omega) h3 h4
theorem secs_len (r:Int × List Nat):(secs r).length=npc (rowF r):=by unfold secs;rw [List.length_map,pcs_length]
theorem secs_get (r:Int × List Nat) {i:Nat} (h:i < npc (rowF r)):(secs r)[i]?=some (padN (pc (rowF r) i)):=by unfold secs;rw [List.getElem?_map,pcs_get _ h];rfl
theorem npc_pos (r:Int × List Nat):0 < npc (rowF r):=by unfold npc;rw [rowF_len];omega
theorem npc_le {r:Int × List Nat} (h:RowOk r):npc (rowF r) ≤ 4:=by unfold npc;rw [rowF_len];have:=h.2.2.1;omega
theorem zeros_small (n:Nat):Small (List.replicate n 0):=fun x hx=>by rw [List.eq_of_mem_replicate hx];decide
theorem padN_small {l:List Nat} (h:Small l):Small (padN l):=h.append (zeros_small _)
theorem sec_head (L:List Nat) (i:Nat):(padN (pc L i)).getD 0 0=160 + i:=rfl
theorem sec_rest (L:List Nat) (i:Nat):∃ z,L.take (127 * i) ++ (padN (pc L i)).drop 1=L.take (127 * (i + 1)) ++ List.replicate z 0∧(127 * (i + 1) ≤ L.length→z=0):=by
 refine ⟨128 - (pc L i).length,?_,fun h=>?_⟩
 ·have e:(padN (pc L i)).drop 1=(L.drop (127 * i)).take 127 ++ List.replicate (128 - (pc L i).length) 0:=rfl
  rw [e,← List.append_assoc]
  congr 1
  rw [show 127 * (i + 1)=127 * i + 127 by omega,List.take_add]
 ·unfold pc
  rw [List.length_cons,List.length_take,List.length_drop]
  omega
def At (A:Ab) (p:Int) (S:List (List Nat)):Prop:=∀ (k:Nat) l,S[k]?=some l→A.see (p + k)=some l
theorem At.left {A:Ab} {p:Int} {S T:List (List Nat)} (h:At A p (S ++ T)):At A p S:=fun k l hk=>h k l (by rw [List.getElem?_append_left (List.getElem?_eq_some_iff.1 hk).1];exact hk)
theorem At.right {A:Ab} {p:Int} {S T:List (List Nat)} (h:At A p (S ++ T)):At A (p + S.length) T:=fun k l hk=>by
 have:=h (S.length + k) l (by rw [List.getElem?_append_right (by omega),Nat.add_sub_cancel_left];exact hk)
 rw [← this]
 congr 1
 omega
def Dud (o:Option (List Nat)):Prop:=∀ l,o=some l→l.getD 0 0 ≠ 160
theorem row_dud {A:Ab} {p end_:Int} (h:Dud (A.see p)):rowA A p end_=Rw.no p:=by
 unfold rowA
 cases hk:(end_ - p).toNat with
 | zero=>rfl
 | succ k=>
  rw [rowL]
  have e:p + ((0:Nat):Int)=p:=by omega
  rw [e]
  cases hs:A.see p with
  | none=>rfl
  | some l=>
   have:=h l hs
   exact if_pos (by omega)
theorem row_from {A:Ab} {p:Int} {r:Int × List Nat} (hr:RowOk r) (h:At A p (secs r)):∀ (n i k:Nat),i + n=npc (rowF r)→0 < n→n ≤ k→rowL A p k i ((rowF r).take (127 * i))=⟨r.1,r.2,p + npc (rowF r),true⟩:=by
 obtain ⟨r1,r2,r3,r4⟩:=id hr
 have hL:=rowF_len r
 intro n
 induction n with
 | zero=>intro i k _ h0;exact absurd h0 (Nat.lt_irrefl 0)
 | succ n ih=>
  intro i k hi _ hk
  obtain ⟨k,rfl⟩:∃ q,k=q + 1:=⟨k - 1,by omega⟩
  rw [rowL,h i _ (secs_get r (by omega))]
  obtain ⟨z,hz,hz0⟩:=sec_rest (rowF r) i
  show (if (((padN (pc (rowF r) i)).getD 0 0:Nat):Int) ≠ 160 + i then _ else _)=_
  rw [sec_head,if_neg (by omega)]
  simp only [hz]
  by_cases hn:n=0
  ·subst hn
   have ht:(rowF r).take (127 * (i + 1))=rowF r:=List.take_of_length_le (by unfold npc at hi;omega)
   rw [ht]
   have e1:getE (rowF r ++ List.replicate z 0)=0:=getE_fr (by omega) r3 _
   have e2:getK (rowF r ++ List.replicate z 0)=r.1:=by
    have:getK (rowF r ++ List.replicate z 0)=(r.1.toNat:Int):=getK_fr (by omega) r3 _
    rw [this];omega
   have e3:getB (rowF r ++ List.replicate z 0)=r.2:=getB_fr (by omega) r3 _
   have e4:getM (rowF r ++ List.replicate z 0)=(r.2.length:Int) + 7:=getM_fr (by omega) r3 _
   rw [if_pos e1,e2,e3,e4]
   have:(decide (r.1 ≠ 255) && decide (127 * (i:Int) < (r.2.length:Int) + 7))=true:=by
    rw [decide_eq_true (by omega),decide_eq_true (by unfold npc at hi;omega)]
    rfl
   rw [this]
   congr 1
   omega
  ·have hlt:127 * (i + 1) < r.2.length + 7:=by unfold npc at hi;omega
   have hz1:=hz0 (by omega)
   subst hz1
   rw [List.replicate_zero,List.append_nil]
   have e1:getE ((rowF r).take (127 * (i + 1)))=4:=getE_cut (by omega) r3 hlt
   rw [e1,if_neg (by decide),if_neg (by decide)]
   exact ih (i + 1) k (by omega) (by omega) (by omega)
theorem row_at {A:Ab} {p end_:Int} {r:Int × List Nat} (hr:RowOk r) (h:At A p (secs r)) (he:p + npc (rowF r) ≤ end_):rowA A p end_=⟨r.1,r.2,p + npc (rowF r),true⟩:=by
 have:=row_from hr h (npc (rowF r)) 0 (end_ - p).toNat (by omega) (npc_pos r) (by omega)
 simpa [rowA] using this
theorem part_from {A:Ab} {p:Int} {r:Int × List Nat} (hr:RowOk r) (h:∀ i,i < npc (rowF r)→A.see (p + (i:Nat))=some (padN (pc (rowF r) i)) ∨ A.see (p + (i:Nat))=none ∨ A.see (p + (i:Nat))=some z128):
  ∀ (n i k:Nat),i + n=npc (rowF r)→(∃ m,i ≤ m∧m < npc (rowF r)∧A.see (p + (m:Nat)) ≠ some (padN (pc (rowF r) m)))→rowL A p k i ((rowF r).take (127 * i))=Rw.no p:=by
 obtain ⟨r1,r2,r3,r4⟩:=id hr
 have hL:=rowF_len r
 intro n
 induction n with
 | zero=>rintro i k hi ⟨m,h1,h2,_⟩;omega
 | succ n ih=>
  rintro i k hi ⟨m,h1,h2,h3⟩
  cases k with
  | zero=>rfl
  | succ k=>
   rw [rowL]
   rcases h i (by omega) with e | e | e
   ·have hne:i ≠ m:=fun q=>h3 (by rw [← q];exact e)
    rw [e]
    obtain ⟨z,hz,hz0⟩:=sec_rest (rowF r) i
    show (if (((padN (pc (rowF r) i)).getD 0 0:Nat):Int) ≠ 160 + i then _ else _)=_
    rw [sec_head,if_neg (by omega)]
    simp only [hz]
    have hlt:127 * (i + 1) < r.2.length + 7:=by unfold npc at h2;omega
    have hz1:=hz0 (by omega)
    subst hz1
    rw [List.replicate_zero,List.append_nil]
    have e1:getE ((rowF r).take (127 * (i + 1)))=4:=getE_cut (by omega) r3 hlt
    rw [e1,if_neg (by decide),if_neg (by decide)]
    exact ih (i + 1) k (by omega) ⟨m,by omega,h2,h3⟩
   ·rw [e]
   ·rw [e]
    exact if_pos (by show ((0:Nat):Int) ≠ 160 + i;omega)
theorem row_part {A:Ab} {p end_:Int} {r:Int × List Nat} (hr:RowOk r) (h:∀ i,i < npc (rowF r)→A.see (p + (i:Nat))=some (padN (pc (rowF r) i)) ∨ A.see (p + (i:Nat))=none ∨ A.see (p + (i:Nat))=some z128)
  (hm:∃ m,m < npc (rowF r)∧A.see (p + (m:Nat)) ≠ some (padN (pc (rowF r) m))):rowA A p end_=Rw.no p:=by
 obtain ⟨m,h1,h2⟩:=hm
 have:=part_from hr h (npc (rowF r)) 0 (end_ - p).toNat (by omega) ⟨m,Nat.zero_le _,h1,h2⟩
 simpa [rowA] using this
def secL (R:List (Int × List Nat)):List (List Nat):=R.flatMap secs
theorem secL_cons (r:Int × List Nat) (R:List (Int × List Nat)):secL (r :: R)=secs r ++ secL R:=rfl
theorem secL_append (R S:List (Int × List Nat)):secL (R ++ S)=secL R ++ secL S:=by simp [secL]
theorem secL_one (r:Int × List Nat):secL [r]=secs r:=by simp [secL]
def RowsOk (R:List (Int × List Nat)):Prop:=∀ r ∈ R,RowOk r
theorem secL_ge (R:List (Int × List Nat)):R.length ≤ (secL R).length:=by
 induction R with
 | nil=>exact Nat.le_refl _
 | cons r R ih=>rw [secL_cons,List.length_append,List.length_cons,secs_len];have:=npc_pos r;omega
theorem rows_from {A:Ab} {end_:Int} {R:List (Int × List Nat)} (hR:RowsOk R):∀ (m:Nat) (p:Int),R.length < m→At A p (secL R)→p + (secL R).length ≤ end_→(rowA A (p + (secL R).length) end_).ok=false→rowsL A end_ m p=(R,p + (secL R).length):=by
 induction R with
 | nil=>
  intro m p hm _ _ h
  obtain ⟨m,rfl⟩:∃ q,m=q + 1:=⟨m - 1,by simp at hm;omega⟩
  have e:p + ((secL []).length:Int)=p:=by show p + ((0:Nat):Int)=p;omega
  rw [e] at h ⊢
  rw [rowsL,h]
  rfl
 | cons r R ih=>
  intro m p hm h1 h2 h3
  obtain ⟨m,rfl⟩:∃ q,m=q + 1:=⟨m - 1,by simp at hm;omega⟩
  have hl:((secL (r :: R)).length:Int)=(npc (rowF r):Nat) + (secL R).length:=by rw [secL_cons,List.length_append,secs_len];omega
  rw [hl] at h2 h3 ⊢
  rw [← Int.add_assoc] at h2 h3 ⊢
  have e:=row_at (hR r (by simp)) (h1.left (S:=secs r)) (end_:=end_) (by omega)
  have h4:=h1.right (S:=secs r)
  rw [secs_len] at h4
  rw [rowsL,e,if_pos rfl]
  simp only
  rw [ih (fun x hx=>hR x (by simp [hx])) m _ (by simp at hm;omega) h4 h2 h3]
theorem rows_holds {A:Ab} {first:Int} {R:List (Int × List Nat)} (hR:RowsOk R) (h1:At A (first + 1) (secL R)) (hl:(secL R).length ≤ 255) (h2:(rowA A (first + 1 + (secL R).length) (first + 256)).ok=false)
  (h3:∀ s:Int,first + 1 + (secL R).length < s→s < first + 256→Dud (A.see s)):rowsE A first=(R,first + 1 + (secL R).length)∧spoilt A (first + 1 + (secL R).length) (first + 256)=false:=by
 refine ⟨?_,?_⟩
 ·by_cases hq:R.length < 255
  ·exact rows_from hR 255 _ hq h1 (by omega) h2
  ·have hg:=secL_ge R
   have h255:R.length=255:=by omega
   have:=rows_from (end_:=first + 256) hR 256 _ (by omega) h1 (by omega) h2
   rw [← this]
   unfold rowsE
   have gen:∀ (m:Nat) (p:Int),(first + 256 - p).toNat ≤ m→rowsL A (first + 256) m p=rowsL A (first + 256) (m + 1) p:=by
    intro m
    induction m with
    | zero=>
     intro p hp
     rw [rowsL,rowsL]
     have:(rowA A p (first + 256)).ok=false:=by
      unfold rowA
      rw [show (first + 256 - p).toNat=0 by omega]
      rfl
     rw [this]
     rfl
    | succ m ih=>
     intro p hp
     rw [rowsL,rowsL]
     split
     ·rename_i hok
      have:=rowA_ok hok
      rw [ih _ (by omega)]
     ·rfl
   exact gen 255 _ (by omega)
 ·unfold spoilt
  rw [List.any_eq_false]
  intro k hk
  have:=List.mem_range.1 hk
  rw [row_dud (h3 _ (by omega) (by omega))]
  exact Bool.false_ne_true
end Go.Proofs.YtjkfondgacjpnaaGreatDoor
