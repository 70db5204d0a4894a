/- What is proved: parts of the walk and of the plain law. No condition but those each law names. -/
import Derived.Test.YthjgiamfaijoeaaGreatDoorA01
import Derived.Test.YthjgiamfaijoeaaGreatDoorA00
set_option linter.unusedSimpArgs false
set_option linter.unusedVariables false
namespace Go.Proofs.YthjgiamfaijoeaaGreatDoor
open Go.RowKit
set_option maxRecDepth 100000
theorem elemP:Elem Tryz.prog 326 37 1:=Elem.mk' Tryz.underlying326 (by kernel_rfl) (z:=.slice none 0 0) (bytes:=24) rfl (by decide) (by decide)
theorem zr5 {w:World} {B B' e e' s s' n m:Nat} {u v:Value} {xs ys:List Value} (hu:w.ownsRow B e s u n xs) (hv:w.ownsRow B' e' s' v m ys) (he:e ≠ e'):∀ k,u.ownBlock=some k→v.ownBlock ≠ some k:=fun k hk e2=>by
 rcases hu.2 with ⟨h,_⟩ | ⟨g,c,cur,h,_,h1,_⟩
 ·subst h;cases hk
 ·subst h
  rcases hv.2 with ⟨h',_⟩ | ⟨g',c',cur',h',_,h1',_⟩
  ·subst h';cases e2
  ·subst h'
   have a:g=k:=by simpa [Value.ownBlock] using hk
   have b:g'=k:=by simpa [Value.ownBlock] using e2
   subst a
   subst b
   rw [h1] at h1'
   cases h1'
   exact he rfl
theorem zi1 {w w':World} {B e e' s s' n m B':Nat} {u v:Value} {xs ys:List Value} (h:w.ownsRow B e s u n xs) (hgr:w.grownBy w' v.ownBlock) (hv:w.ownsRow B' e' s' v m ys) (he:e ≠ e'):w'.ownsRow B e s u n xs:=by
 refine h.kept hgr ?_
 cases e0:u.ownBlock with
 | none=>exact .inl rfl
 | some k=>exact .inr fun e2=>zr5 h hv he k e0 e2.symm
theorem zr6 {wr w2:World} {B e s n:Nat} {u:Value} {xs:List Value} (h:wr.ownsRow B e s u n xs) (o:Obj) (hgr:(wr.alloc o).grownBy w2 (some wr.heap.size)):w2.ownsRow B e s u n xs:=by
 refine (h.alloc o).kept hgr ?_
 cases e0:u.ownBlock with
 | none=>exact .inl rfl
 | some k=>
  have h1:=(h.lt k e0).2
  exact .inr fun e2=>by
   have e3:k=wr.heap.size:=Option.some.inj e2
   omega
def m127 (n:Nat):Nat:=min n 127
theorem zqd (ts:Array TypeId) (t:TypeId) (n:Nat) (w:World):(Builtin.min_ ts t #[.int .i64 127,.int .i64 (n:Int)]).run Tryz.prog w=.ok (.int .i64 (m127 n:Nat)) w:=by
 simp [Builtin.min_,Builtin.min2,m127]
 split <;> omega
def pc (L:List Nat) (i:Nat):List Nat:=(160 + i) :: (L.drop (127 * i)).take 127
def npc (L:List Nat):Nat:=(L.length + 126) / 127
def pcs (L:List Nat):List (List Nat):=(List.range (npc L)).map (pc L)
theorem zb9 (L:List Nat):(pcs L).length=npc L:=by simp [pcs]
theorem zhj (L:List Nat) {i:Nat} (h:i < npc L):(pcs L)[i]?=some (pc L i):=by simp [pcs,h]
def PcsAt (w:World) (B:Nat) (vs:List Value) (ps:List (List Nat)):Prop:=vs.length=ps.length∧∀ (i:Nat) v p,vs[i]?=some v→ps[i]?=some p→w.ownsRow B 5 1 v p.length (bts p)
theorem PcsAt.keep {w w':World} {B C:Nat} {vs:List Value} {ps:List (List Nat)} (h:PcsAt w B vs ps) (hB:w.heap.size ≤ C) (hw:Below C w w'):PcsAt w' B vs ps:=⟨h.1,fun i v p h1 h2=>zbe (h.2 i v p h1 h2) hB hw⟩
attribute [local go_sem ↓] zdg zqd
set_option maxHeartbeats 2000000 in
theorem zqe {w:World} {ao:Option Addr} {n c:Nat} {L:List Nat} (hl:Sl w ao n c (bts L)) (hn:n ≤ 10000):
  Calls Tryz.prog 367 #[.slice ao n c] w fun e w'=>∃ v vs,e=.returned v∧Below w.heap.size w w'∧w'.ownsRow w.heap.size 37 1 v (npc L) vs∧PcsAt w' w.heap.size vs (pcs L):=by
 have hln:L.length=n:=by rw [← hl.len,zam]
 go_enter Tryz.func367,Tryz.ntmps367
 go_wp2
 go_loopw [0,3,4,5] (fun v0 v3 v4 _ wr=>∃ (i:Nat) (a0:Option Addr) (c0:Nat) (vs:List Value),i ≤ npc L∧v0=.slice a0 (n - 127 * i) c0∧Sl w a0 (n - 127 * i) c0 (bts (L.drop (127 * i)))∧v4=.int .i64 i∧
   wr.ownsRow w.heap.size 37 1 v3 i vs∧PcsAt wr w.heap.size vs ((pcs L).take i)∧Below w.heap.size w wr) (fun v0 _ _ _ _=>match v0 with | .slice _ k _=>k | _=>0)
 case atStart=>exact ⟨0,ao,c,[],Nat.zero_le _,rfl,by simpa using hl,rfl,World.ownsRow_nil _ _ _ _,⟨rfl,fun i v p h=>by simp at h⟩,Below.refl _ _⟩
 case round=>
  obtain ⟨i,a0,c0,vs,hi,rfl,hs,rfl,hown,hps,hb⟩:=hrel
  obtain ⟨ao',cap,rfl⟩:=za7 hown
  have hz:=hb.size
  have hle:=hs.le
  by_cases hlt:i < npc L
  ·have hpos:127 * i < n:=by unfold npc at hlt;omega
   have hpos2:(0:Int) < ((n - 127 * i:Nat):Int):=by omega
   generalize hk:n - 127 * i=k at *
   have hm1:m127 k ≤ k:=by unfold m127;omega
   have hm2:m127 k ≤ 127:=by unfold m127;omega
   have hm0:0 < m127 k:=by unfold m127;omega
   have hmc:((m127 k:Nat):Int) ≤ c0:=by omega
   have hmk:((m127 k:Nat):Int) ≤ k:=by omega
   have hdl:(L.drop (127 * i)).length=k:=by rw [List.length_drop];omega
   have hfr:Sl w a0 (m127 k) c0 (bts ((L.drop (127 * i)).take 127)):=hs.frontB hm1 (by omega) (zac9 _) (by
    unfold m127
    rcases Nat.le_total k 127 with h | h
    ·rw [Nat.min_eq_left h,← hdl,List.take_length,List.take_of_length_le (by omega)]
    ·rw [Nat.min_eq_right h])
   have hbk:Sl w (cutA a0 (m127 k) c0) (k - m127 k) (c0 - m127 k) (bts (L.drop (127 * (i + 1)))):=hs.cutB (l:=m127 k) (r:=k) (m:=c0) hm1 (zac9 _) (zac9 _) hle rfl rfl (by
    rw [List.drop_drop,List.take_of_length_le (by rw [List.length_drop];omega)]
    unfold m127
    rcases Nat.le_total k 127 with h | h
    ·rw [Nat.min_eq_left h,List.drop_eq_nil_of_le (by omega),List.drop_eq_nil_of_le (by omega)]
    ·rw [Nat.min_eq_right h,show 127 * (i + 1)=127 * i + 127 by omega])
   have HF:=zac8 hfr
   have HBk:=zac8 hbk
   have HS:=zac8 hps
   clear hfr hbk hps
   obtain ⟨b,o,rfl,hbw,hc⟩:=hs.at (by omega)
   have hi3:i < 96:=by unfold npc at hlt;omega
   have hsz:w.heap.size ≤ (wr.alloc (.cells #[.int .u8 (160 + (i:Int))] 5)).heap.size:=by simp;omega
   have hcells:∀ (j:Nat) u,(bts ((L.drop (127 * i)).take 127))[j]?=some u→(wr.alloc (.cells #[.int .u8 (160 + (i:Int))] 5)).cell? ((⟨b,o,none⟩:Addr).add j)=some u:=fun j u hj=>by
    have:=HF.out.keep (zac9 _) (hb.alloc hz (.cells #[.int .u8 (160 + (i:Int))] 5))
    obtain ⟨b2,o2,e,_,h⟩:=this.at hm0
    cases e
    rw [zar]
    exact h j u hj
   have hfl:=HF.out.len
   have hpc:bts (pc L i)=[Value.int .u8 (160 + (i:Int))] ++ bts ((L.drop (127 * i)).take 127):=by unfold pc bts;simp
   have hpl:(pc L i).length=1 + m127 k:=by
    have:=congrArg List.length hpc
    rw [zam,List.length_append,hfl] at this
    simpa using this
   have HP:=zac8 hpc
   have HL:=zac8 hpl
   clear hc hs hpc hpl
   go_wp2_with (at_builtin;go_loud (refine zcq zgp rfl _ _ rfl (B:=w.heap.size) (n:=1) (xs:=[.int .u8 (160 + (i:Int))]) (news:=bts ((L.drop (127 * i)).take 127)) rfl (zjh wr w.heap.size 5 #[.int .u8 (160 + (i:Int))] hz (show 1 ≤ maxLen by decide)) rfl (by rw [hfl,Nat.mul_one]) hcells (zct _) hm0 (by omega) hsz ?_))
   intro g2 cap2 w2 hown2 hgr2 hat2 _
   have hown3:=zr6 hown _ hgr2
   have hps3:PcsAt w2 w.heap.size vs ((pcs L).take i):=⟨HS.out.1,fun j v p h1 h2=>zr6 (HS.out.2 j v p h1 h2) _ hgr2⟩
   have hpn:w2.ownsRow w.heap.size 5 1 (.slice (some ⟨g2,0,none⟩) (1 + m127 k) cap2) (pc L i).length (bts (pc L i)):=by rw [HL.out,HP.out];exact hown2
   have hb2:Below w.heap.size w w2:=(hb.alloc hz _).trans ((Below.refl _ _).grown hgr2 hsz (fun q hq=>by cases hq;exact hz))
   have hz2:=hb2.size
   have HS3:=zac8 hps3
   have HPN:=zac8 hpn
   clear hown2 hgr2 hat2 hcells hps3 hpn hown
   have hown4:=hown3.alloc (.cells #[.slice (some ⟨g2,0,none⟩) (1 + m127 k) cap2] 37)
   go_wp2_with (at_builtin;refine zcq elemP rfl _ _ rfl (B:=w.heap.size) (n:=i) (xs:=vs) (news:=[.slice (some ⟨g2,0,none⟩) (1 + m127 k) cap2]) rfl hown4 rfl rfl (fun j u hj=>by have:=zdh w2 #[.slice (some ⟨g2,0,none⟩) (1 + m127 k) cap2] 37 j u hj;rw [zar];exact this) (fun u hu=>by rw [List.mem_singleton] at hu;rw [hu];rfl) (by decide) (by omega) (by simp;omega) ?_)
   intro g4 cap4 w4 hown5 hgr4 _ _
   have hps4:PcsAt w4 w.heap.size (vs ++ [.slice (some ⟨g2,0,none⟩) (1 + m127 k) cap2]) ((pcs L).take (i + 1)):=by
    have ht:(pcs L).take (i + 1)=(pcs L).take i ++ [pc L i]:=by rw [List.take_add_one,zhj L hlt];rfl
    have hl1:vs.length=i:=by rw [HS3.out.1,List.length_take,zb9];omega
    have hl2:((pcs L).take i).length=i:=by rw [List.length_take,zb9];omega
    rw [ht]
    refine ⟨by simp [hl1,hl2],fun j v p h1 h2=>?_⟩
    rcases Nat.lt_trichotomy j i with h | h | h
    ·rw [List.getElem?_append_left (by omega)] at h1 h2
     exact zi1 ((HS3.out.2 j v p h1 h2).alloc _) hgr4 hown4 (by decide)
    ·subst h
     rw [List.getElem?_append_right (by omega),hl1,Nat.sub_self] at h1
     rw [List.getElem?_append_right (by omega),hl2,Nat.sub_self] at h2
     cases h1
     cases h2
     exact zi1 (HPN.out.alloc _) hgr4 hown4 (by decide)
    ·rw [List.getElem?_eq_none (by simp;omega)] at h1
     cases h1
   have hb4:Below w.heap.size w w4:=(hb2.alloc hz2 _).trans ((Below.refl _ _).grown hgr4 (by simp;omega) (zbb hown4))
   have HS4:=zac8 hps4
   have hkk:k - m127 k=n - 127 * (i + 1):=by unfold m127;omega
   clear hgr4 hown4 hps4 hown3
   go_wp2
   go_roundw
   case rel=>exact ⟨i + 1,_,_,_,by omega,rfl,by rw [← hkk];exact HBk.out,rfl,hown5,HS4.out,hb4⟩
   case measure=>simp;omega
  ·obtain rfl:i=npc L:=by omega
   have h0:n - 127 * npc L=0:=by unfold npc;omega
   have hps2:PcsAt wr w.heap.size vs (pcs L):=by rwa [← zb9,List.take_length] at hps
   have HS:=zac8 hps2
   clear hps hps2
   rw [h0] at hle ⊢
   go_wp2
   go_ret
   exact ⟨_,vs,rfl,hb,hown,HS.out⟩
def laidE (kind:Int) (n:Nat):Int:=if kind=255 then 2 else putE kind n
def zdc (kind:Int) (l:List Nat):List Nat:=if kind=255 then [] else putL kind l
theorem zks (kind:Int) (l:List Nat):(zdc kind l).length ≤ 407:=by
 unfold zdc
 split
 ·simp
 ·unfold putL
  split
  ·rename_i h
   rw [zd7]
   unfold putE at h
   split at h
   ·cases h
   split at h
   ·cases h
   ·omega
  ·simp
theorem zv2 {w:World} {ao:Option Addr} {n c:Nat} {l:List Nat} (kind:Int) (hl:Sl w ao n c (bts l)) (hs:Small l) (hn:n < 1099511627776):
  Calls Tryz.prog 312 #[.int .i64 kind,.slice ao n c] w fun e w'=>∃ v vs,e=.returned (.tuple #[v,.int .i64 (laidE kind l.length)])∧Below w.heap.size w w'∧w'.ownsRow w.heap.size 37 1 v (npc (zdc kind l)) vs∧PcsAt w' w.heap.size vs (pcs (zdc kind l)):=by
 by_cases hk:kind=255
 ·subst hk
  have e1:laidE 255 l.length=2:=if_pos rfl
  have e2:zdc 255 l=[]:=if_pos rfl
  rw [e1,e2]
  go_enter Tryz.func312,Tryz.ntmps312
  go_wp2
  refine bodyPost_ret (results_tmp2 rfl _ _ _) rfl ⟨_,[],rfl,Below.refl _ _,World.ownsRow_nil _ _ _ _,⟨rfl,fun i v p h=>by simp at h⟩⟩
 ·have e1:laidE kind l.length=putE kind l.length:=if_neg hk
  have e2:zdc kind l=putL kind l:=if_neg hk
  have hk2:(kind == 255)=false:=by rw [beq_eq_false_iff_ne];exact hk
  have hll:(putL kind l).length ≤ 407:=by rw [← e2];exact zks kind l
  rw [e1,e2]
  go_enter Tryz.func312,Tryz.ntmps312
  go_wp2_with (go_at_call 252;refine (zr4 kind hl hs hn).mono ?_;rintro _ w2 ⟨ao2,cap2,rfl,hb2,hown2⟩)
  refine (zqe (Sl.own hown2) (by omega)).mono ?_
  rintro _ w3 ⟨v,vs,rfl,hb3,hown3,hps⟩
  have HS:=zac8 hps
  clear hps
  obtain ⟨ao3,cap3,rfl⟩:=za7 hown3
  go_wp2
  exact bodyPost_ret (results_tmp2 rfl _ _ _) rfl ⟨_,vs,rfl,hb2.trans (hb3.mono hb2.size),za0 hown3 hb2.size,⟨HS.out.1,fun i v p h1 h2=>za0 (HS.out.2 i v p h1 h2) hb2.size⟩⟩
end Go.Proofs.YthjgiamfaijoeaaGreatDoor
