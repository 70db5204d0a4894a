/- What is proved: parts of the walk and of the plain law. No condition but those each law names. -/
import Derived.Test.YthjgiamfaijoeaaGreatDoorA34
import Derived.Test.YthjgiamfaijoeaaGreatDoorA38
import Derived.Test.YthjgiamfaijoeaaGreatDoorA00
set_option linter.unusedSimpArgs false
set_option linter.unusedVariables false
namespace Go.Proofs.YthjgiamfaijoeaaGreatDoor
open Go.RowKit
open Sx (Ab DW Turns Did Foot MapIs DiskAt FootD)
set_option maxRecDepth 100000
attribute [local go_sem ↓] zad
attribute [local go_sem] zaf zai zaj zal zab zah zac zak zae zav za4 Sx.run_mk Ext.row Ext.soft_
structure KeepAt (w:World) (ao:Option Addr) (K:List Int):Prop where
 cell:∀ (j:Nat) x,K[j]?=some x→∃ b o,ao=some ⟨b,o,none⟩∧w.cell? ⟨b,o + j,none⟩=some (.int .i64 x)
 rng:∀ x ∈ K,-9223372036854775808 ≤ x∧x < 9223372036854775808
 len:K.length < 4611686018427387904
theorem KeepAt.keep {w w':World} {ao:Option Addr} {K:List Int} (h:KeepAt w ao K) (hk:∀ b o x v,w.cell? ⟨b,o,none⟩=some (.int .i64 x)→v=w'.cell? ⟨b,o,none⟩→v=some (.int .i64 x)):KeepAt w' ao K:=
 ⟨fun j x hj=>by
  obtain ⟨b,o,e,hc⟩:=h.cell j x hj
  exact ⟨b,o,e,hk b _ x _ hc rfl⟩,h.rng,h.len⟩
def zgn (K:List Int) (i:Nat):Int:=match K[i]? with
 | none=>0
 | some x=>x % 3
def crk1 (K:List Int) (i:Nat) (k:Int) (A:Ab):Ab:=if zgn K i=1 then kept A k (A.loose k) else if zgn K i=2 then kept A k none else A
def crk (K:List Int):List Int→Nat→Ab→Ab
 | [],_,A=>A
 | k :: r,i,A=>crk K r (i + 1) (crk1 K i k A)
def zpw (K ks:List Int) (A:Ab):Ab:=crash0 (crk K ks 0 A)
structure Alike (A B:Ab):Prop where
 loose:B.loose=A.loose
 off:B.off=A.off
 left:B.left=A.left
 done:B.done=A.done
theorem Alike.one {A B:Ab} (h:Alike A B) (K:List Int) (i:Nat) (k:Int):Alike A (crk1 K i k B):=by
 unfold crk1 kept
 split
 ·exact ⟨h.loose,h.off,h.left,h.done⟩
 ·split
  ·exact ⟨h.loose,h.off,h.left,h.done⟩
  ·exact h
theorem rem3 (x:Int):(x.tmod 3 + 3).tmod 3=x % 3:=by
 rw [Int.tmod_eq_emod,Int.tmod_eq_emod]
 split <;> split <;> omega
set_option maxHeartbeats 4000000 in
theorem zu3 {w:World} {F:Foot} {dv:Value} {A:Ab} (H:DW w F dv A) {ao:Option Addr} {c:Nat} {K:List Int} (HK:KeepAt w ao K):Calls Tryz.prog 58 #[dv,.slice ao K.length c] w fun en w'=>∃ ks:List Int,ks.Nodup∧(∀ k,k ∈ ks ↔ (A.loose k).isSome=true)∧Did F w dv (zpw K ks A) (.tuple #[]) en w':=by
 obtain ⟨bd,r1,r2,bl,h,rfl,hF⟩:=H
 obtain ⟨es,cl,lo,e1,e2,e3,e4⟩:=h.m2
 have nd:=zxn e2.2
 have hlo:∀ k,k ∈ lo.map (·.1) ↔ (A.loose k).isSome=true:=fun k=>by
  constructor
  ·intro hk
   obtain ⟨p,hp,rfl⟩:=List.mem_map.1 hk
   have h1:=zhn nd hp
   rw [e4 p.1] at h1
   cases hl:A.loose p.1 with
   | none=>rw [hl] at h1;cases h1
   | some l=>rfl
  ·intro hk
   have h1:=e4 k
   cases hl:A.loose k with
   | none=>rw [hl] at hk;cases hk
   | some l=>
    rw [hl] at h1
    exact List.mem_map.2 ⟨_,zca h1,rfl⟩
 have hr:∀ p ∈ lo,0 ≤ p.1∧p.1 < 512:=fun p hp=>by
  have h1:=zhn nd hp
  rw [e4 p.1] at h1
  cases hl:A.loose p.1 with
  | none=>rw [hl] at h1;cases h1
  | some l=>exact (h.lo _ _ hl).2
 have hsz:es.size ≤ 512:=by
  have:=e2.1.length_eq
  simp [encA,prs] at this
  have h2:=zpl 512 (lo.map (·.1)) nd fun x hx=>by
   obtain ⟨p,hp,rfl⟩:=List.mem_map.1 hx
   exact hr p hp
  rw [List.length_map] at h2
  omega
 have hk:∀ e ∈ es.toList,∃ k:Int,e.key=.int .i64 k∧-9223372036854775808 ≤ k∧k ≤ 9223372036854775807:=fun e he=>by
  have hm:(e.key,e.val) ∈ encA loC lo:=e2.1.mem_iff.1 (List.mem_map.2 ⟨e,he,rfl⟩)
  obtain ⟨q,hq,ee⟩:=List.mem_map.1 hm
  have:=hr q hq
  exact ⟨q.1,(congrArg Prod.fst ee).symm,by omega,by omega⟩
 have hb0:=(zac7 e1).1
 have hb:Below w.heap.size w (w.alloc (.cells #[.map (some r2)] 133)):=(Below.refl _ w).alloc (zac9 _) _
 have KK:=zac8 (sorD (w:=w.alloc (.cells #[.map (some r2)] 133)) (b:=w.heap.size) (by rw [zad,zaa (heap_alloc_new w _)];rfl) ((hb.block r2 hb0).trans e1) e3 hk hsz)
 have rd:=zaa h.ob
 have HB:=zac8 hb
 have HH:=zac8 h
 have E1:=zac8 e1
 have HZ:=zac8 hsz
 have HL0:=zac8 hlo
 have ND:=zac8 nd
 have E2:=zac8 e2
 have HKK:=zac8 HK
 clear h e1 e2 e3 e4 nd hr hsz hk hb hlo HK
 unfold Sx.Ab.cells at rd
 go_enter Tryz.func58,Tryz.ntmps58
 go_upto_region 1 with (first
  | (go_at_call 96;refine (znx _ _).mono ?_;rintro _ _ ⟨rfl,rfl⟩)
  | (go_at_call 95;refine KK.out.mono ?_;rintro _ V ⟨v,ss,rfl,hp,ho,hn,hb2⟩;obtain ⟨va,vc,rfl⟩:=za7 ho;have HV:=zac8 (HB.out.trans (hb2.mono HB.out.size));clear hb2 KK HB))
 have lm:(ss.mergeSort leI').length=ss.length:=List.length_mergeSort ss
 have lz:(ss.mergeSort leI').length ≤ 512:=by
  have:=hp.length_eq
  rw [List.length_map] at this
  have h5:es.toList.length=es.size:=Array.length_toList
  have:=HZ.out
  omega
 have hks:(ss.mergeSort leI').Nodup∧∀ k,k ∈ ss.mergeSort leI' ↔ (A.loose k).isSome=true:=by
  have p1:(ss.mergeSort leI').Perm (lo.map (·.1)):=by
   refine (List.mergeSort_perm ss leI').trans (hp.trans ?_)
   have:=(E2.out.1.map fun q:Value × Value=>intOf q.1)
   unfold encA prs at this
   rw [List.map_map,List.map_map] at this
   exact this
  exact ⟨p1.nodup_iff.2 ND.out,fun k=>p1.mem_iff.trans (HL0.out k)⟩
 rw [← lm] at ho ⊢
 generalize ss.mergeSort leI'=ks at *
 have HO:=zac8 ho
 have HKS:=zac8 hks
 clear ho hp hn lm rd hks HL0 ND E2
 have HL:=zac8 lz
 clear lz HZ
 have hVd:=HV.out
 have hV:=HH.out.keepB (w':=V) fun b x hx=>hVd.block b (HH.out.size hx)
 have HVD:=zac8 hV
 clear hVd hV
 go_loopw [14] (fun i wr=>∃ (k:Nat) (B:Ab) (bl':Int→Option (Option Nat)),k ≤ ks.length∧i=.int .i64 k∧crk K (ks.drop k) k B=crk K ks 0 A∧Alike A B∧DiskAt wr B bd r1 r2 bl'∧(∀ j b,bl' j=some (some b)→bl j=some (some b) ∨ V.heap.size ≤ b)∧Turns (fun i _=>i=r1) V wr) (fun i _=>ks.length - (intOf i).toNat)
 case atStart=>exact ⟨0,A,bl,Nat.zero_le _,rfl,rfl,⟨rfl,rfl,rfl,rfl⟩,HVD.out,fun _ _ h=>.inl h,Turns.refl _ _⟩
 case round=>
  obtain ⟨k,B,bl',hk,rfl,hcr,hal,hd,hbl,ht⟩:=hrel
  by_cases hlt:k < ks.length
  ·have i1:(k:Int) < ks.length:=by omega
   obtain ⟨g,cur,rfl,hg0,hcz,hc⟩:=zzm (by omega) HO.out rfl
   have rm1:∀ b v,V.cell? ⟨b,v,none⟩ ≠ none→b ≠ r1:=fun b v hb e=>by
    obtain ⟨_,_,_,m,_⟩:=HVD.out.m1
    subst e
    exact hb (by unfold World.cell?;rw [m])
   have hg:wr.heap[g]?=some (.cells cur 3):=(ht.block g (zac7 hg0).1 fun _ e=>by
    obtain ⟨_,_,_,m,_⟩:=HVD.out.m1
    have e:g=r1:=e
    subst e
    rw [m] at hg0
    cases hg0).trans hg0
   have rg:=zaa hg
   have ck:=hc k hlt
   obtain ⟨kk,hkk⟩:∃ kk,kk=ks[k]:=⟨_,rfl⟩
   rw [← hkk] at ck
   have z1:k < cur.size:=by omega
   have ck2:cur[k]'z1=.int .i64 kk:=Option.some.inj ((Array.getElem?_eq_getElem z1).symm.trans ck)
   have wk:IntKind.i64.wrap ((k:Int) + 1)=(k:Int) + 1:=zau (by omega) (by have:=HL.out;omega)
   have k0:((k:Int) < 0)=False:=eq_false (by omega)
   have hdr:ks.drop k=kk :: ks.drop (k + 1):=by rw [hkk];exact List.drop_eq_getElem_cons hlt
   rw [hdr] at hcr
   have hlk:∃ l,B.loose kk=some l:=by
    have:=(HKS.out.2 kk).1 (hkk ▸ List.getElem_mem hlt)
    rw [hal.loose]
    exact Option.isSome_iff_exists.1 this
   have hst:∀ j b,bl' j=some (some b)→b ≠ r1:=fun j b hb=>(hd.nmap.2.2 j b hb).1
   have HAL:=zac8 (hal.one K k kk)
   have hcr2:crk K (ks.drop (k + 1)) (k + 1) (crk1 K k kk B)=crk K ks 0 A:=hcr
   have HCR:=zac8 hcr2
   clear hcr2
   have HD:=zac8 hd
   have HBL:=zac8 hbl
   have HT:=zac8 ht
   have rd:=zaa hd.ob
   unfold Sx.Ab.cells at rd
   have HLK:=zac8 hlk
   clear hg hg0 hc hkk hal hcr hd hbl ht hst hdr hlk
   by_cases hkl:k < K.length
   ·have i2:(k:Int) < K.length:=by omega
    obtain ⟨x,hx⟩:∃ x,K[k]?=some x:=⟨_,List.getElem?_eq_getElem hkl⟩
    obtain ⟨b,o,rfl,hcx⟩:=HKK.out.cell k x hx
    have hbw:b < w.heap.size:=World.block_lt_of_cell? w ⟨b,o + k,none⟩ hcx
    have hcV:V.cell? ⟨b,o + k,none⟩=some (.int .i64 x):=(Sx.cell_block (HV.out.block b hbw) _).1.trans hcx
    have hcw:wr.cell? ⟨b,o + k,none⟩=some (.int .i64 x):=(Sx.cell_block (HT.out.block b (Nat.lt_of_lt_of_le hbw HV.out.size) fun _ e=>rm1 b _ (by rw [hcV];exact fun q=>by cases q) e) _).1.trans hcV
    rw [zad] at hcw
    have hxr:=HKK.out.rng x (List.mem_of_getElem? hx)
    have hf:zgn K k=x % 3:=by unfold zgn;rw [hx]
    have w2:IntKind.i64.wrap (x.tmod 3 + 3)=x.tmod 3 + 3:=zau (by rw [Int.tmod_eq_emod];split <;> omega) (by rw [Int.tmod_eq_emod];split <;> omega)
    have w3:(x.tmod 3 + 3).tmod 3=x % 3:=rem3 x
    clear hcV hbw hx rm1 hxr
    rcases (show x % 3=0 ∨ x % 3=1 ∨ x % 3=2 by omega) with h3 | h3 | h3 <;> rw [h3] at w3 hf
    ·go_wp2
     go_roundw
     case rel=>
      have e:crk1 K k kk B=B:=by unfold crk1;rw [hf];rfl
      have q1:=HCR.out
      have q2:=HAL.out
      rw [e] at q1 q2
      exact ⟨k + 1,B,bl',by omega,rfl,q1,q2,HD.out,HBL.out,HT.out⟩
     case measure=>simp [intOf];omega
    ·obtain ⟨l,hl⟩:=HLK.out
     have S:=zac8 (zxo HD.out hl)
     have HL2:=zac8 hl
     clear hl
     go_wp2_with (go_at_call 97;refine S.out.mono ?_;rintro _ w2 ⟨rfl,bl2,d2,b2,t2⟩;have D2:=zac8 d2;have B2:=zac8 b2;have T2:=zac8 t2;clear d2 b2 t2 S)
     go_roundw
     case rel=>
      have e:crk1 K k kk B=kept B kk (some l):=by unfold crk1;rw [hf,HL2.out];rfl
      have q1:=HCR.out
      have q2:=HAL.out
      rw [e] at q1 q2
      refine ⟨k + 1,_,bl2,by omega,rfl,q1,q2,D2.out,fun j b hb=>?_,⟨T2.out.os.trans HT.out.os,T2.out.tape.trans HT.out.tape,T2.out.output.trans HT.out.output,Nat.le_trans HT.out.size T2.out.size,fun i hi hn=>(T2.out.block i (Nat.lt_of_lt_of_le hi HT.out.size) hn).trans (HT.out.block i hi hn)⟩⟩
      rcases B2.out j b hb with h | h
      ·exact HBL.out j b h
      ·exact .inr (Nat.le_trans HT.out.size h)
     case measure=>simp [intOf];omega
    ·obtain ⟨w2,hup,bl2,d2,b2,t2⟩:=torn_w HD.out kk
     have D2:=zac8 d2
     have B2:=zac8 b2
     have T2:=zac8 t2
     clear d2 b2 t2
     go_wp2
     go_roundw
     case rel=>
      have e:crk1 K k kk B=kept B kk none:=by unfold crk1;rw [hf];rfl
      have q1:=HCR.out
      have q2:=HAL.out
      rw [e] at q1 q2
      refine ⟨k + 1,_,bl2,by omega,rfl,q1,q2,D2.out,fun j b hb=>?_,⟨T2.out.os.trans HT.out.os,T2.out.tape.trans HT.out.tape,T2.out.output.trans HT.out.output,Nat.le_trans HT.out.size T2.out.size,fun i hi hn=>(T2.out.block i (Nat.lt_of_lt_of_le hi HT.out.size) hn).trans (HT.out.block i hi hn)⟩⟩
      rcases B2.out j b hb with h | h
      ·exact HBL.out j b h
      ·exact .inr (Nat.le_trans HT.out.size h)
     case measure=>simp [intOf];omega
   ·have i2:((k:Int) < K.length)=False:=eq_false (by omega)
    have hf:zgn K k=0:=by unfold zgn;rw [List.getElem?_eq_none (by omega)]
    clear rm1
    go_wp2
    go_roundw
    case rel=>
     have e:crk1 K k kk B=B:=by unfold crk1;rw [hf];rfl
     have q1:=HCR.out
     have q2:=HAL.out
     rw [e] at q1 q2
     exact ⟨k + 1,B,bl',by omega,rfl,q1,q2,HD.out,HBL.out,HT.out⟩
    case measure=>simp [intOf];omega
  ·obtain rfl:k=ks.length:=by omega
   rw [List.drop_length] at hcr
   have hcr2:B=crk K ks 0 A:=hcr
   obtain ⟨es',cl',lo',f1,f2,f3,f4⟩:=hd.m2
   have rd:=zaa hd.ob
   have sd:=zan hd.ob
   unfold Sx.Ab.cells at rd
   have mr:wr.heap[r2]?=some (.map es' cl'):=f1
   have hset:=MapKept.run_setObj_map (P:=Tryz.prog) (.map #[] cl') mr
   have hget:=MapKept.run_getObj_map (P:=Tryz.prog) mr
   have hclr:(Builtin.clear_ #[133] 0 #[.map (some r2)]).run Tryz.prog wr=.ok (.tuple #[]) { wr with heap:=wr.heap.setIfInBounds r2 (.map #[] cl') }:=by
    simp only [Builtin.clear_,List.getElem?_toArray,List.getElem?_cons_zero,Sem.run_bind,run_underlying Tryz.underlying133,Result.andThen_ok,hget,hset,Sem.run_pure]
   have HS:=zac8 hd
   have HAL:=zac8 hal
   have HCR:=zac8 hcr2
   have HBL:=zac8 hbl
   have HT:=zac8 ht
   clear hset hget hd f1 f2 f3 f4 hal hcr hcr2 hbl ht hlt hk
   go_upto_region 13 with (fail)
   obtain ⟨Y,hY⟩:∃ Y,Y=putMap wr r2 #[] cl':=⟨_,rfl⟩
   refine (show Code.wp Tryz.prog _ _ _ (putMap wr r2 #[] cl') from ?_)
   rw [← hY]
   have hy2:Y.heap[r2]?=some (.map #[] cl'):=by rw [hY];exact zh8 (zac7 mr).1 _ _
   have hyn:∀ i,i ≠ r2→Y.heap[i]?=wr.heap[i]?:=fun i hi=>by rw [hY];exact zbv _ _ _ _ hi
   have hyz:Y.heap.size=wr.heap.size∧Y.os=wr.os∧Y.tape=wr.tape∧Y.output=wr.output:=by rw [hY];exact ⟨by simp [putMap],rfl,rfl,rfl⟩
   obtain ⟨n1,n2,n3⟩:=HS.out.nmap
   have hbd:=(hyn bd n2).trans HS.out.ob
   have rd:=zaa hbd
   have sd:=zan hbd
   unfold Sx.Ab.cells at rd
   have Z:=zac8 (And.intro hy2 (And.intro hyn (And.intro hyz (And.intro n1 (And.intro n2 (And.intro n3 hbd))))))
   clear hy2 hyn hyz n1 n2 n3 hbd mr hclr hY
   go_wp2
   go_end0
   obtain ⟨hy2,hyn,hyz,n1,n2,n3,hbd⟩:=Z.out
   have hk:∀ i,i ≠ bd→((Y.setCell ⟨bd,2,none⟩ (.bool false)).setCell ⟨bd,3,none⟩ (.int .i64 (-1))).heap[i]?=Y.heap[i]?:=fun i hi=>by
    rw [zag,if_neg (Ne.symm hi),zag,if_neg (Ne.symm hi)]
   have d:=HS.out
   refine ⟨ks,HKS.out.1,HKS.out.2,rfl,FootD bd r1 r2 bl',⟨bd,r1,r2,bl',?_,rfl,fun _ _=>Iff.rfl⟩,?_,?_⟩
   ·unfold zpw
    rw [← HCR.out]
    refine ⟨?_,?_,?_,fun k b hb=>?_,d.torn,d.bare,fun k l hb=>(by cases hb),d.ne,d.inj,⟨Int.le_refl _,by show (-1:Int) < _;decide⟩⟩
    ·rw [zag,if_pos rfl,zag,if_pos rfl,hbd]
     rfl
    ·obtain ⟨es1,c1,l1,q1,q2⟩:=d.m1
     exact ⟨es1,c1,l1,((hk r1 (Ne.symm n1)).trans (hyn r1 d.ne)).trans q1,q2⟩
    ·exact ⟨#[],cl',[],(hk r2 (Ne.symm n2)).trans hy2,⟨List.Perm.refl _,List.nodup_nil⟩,MapKept.stamped_empty _,fun k=>rfl⟩
    ·obtain ⟨q1,l,q2,q3,q4⟩:=d.sec k b hb
     exact ⟨q1,l,q2,q3,Sx.secat_heap q4 ((hk b q1).trans (hyn b (n3 k b hb).2))⟩
   ·have hv:=HV.out
    have ht:=HT.out
    refine ⟨hyz.2.1.trans (ht.os.trans hv.os),hyz.2.2.1.trans (ht.tape.trans hv.tape),hyz.2.2.2.trans (ht.output.trans hv.output),?_,fun i hi hn=>?_⟩
    ·have:=hv.size
     have:=ht.size
     have:=hyz.1
     simp [World.setCell]
     omega
    ·rw [hk i (fun e=>hn 0 (e ▸ (hF bd 0).2 (.inl rfl))),hyn i (fun e=>hn 0 (e ▸ (hF r2 0).2 (.inr (.inr (.inl rfl)))))]
     exact (ht.block i (Nat.lt_of_lt_of_le hi hv.size) fun _ e=>hn 0 (e ▸ (hF r1 0).2 (.inr (.inl rfl)))).trans (hv.block i hi)
   ·intro b x hb
    rcases hb with rfl | rfl | rfl | ⟨j,hj⟩
    ·exact .inl ((hF _ _).2 (.inl rfl))
    ·exact .inl ((hF _ _).2 (.inr (.inl rfl)))
    ·exact .inl ((hF _ _).2 (.inr (.inr (.inl rfl))))
    ·rcases HBL.out j b hj with h | h
     ·exact .inl ((hF _ _).2 (.inr (.inr (.inr ⟨j,h⟩))))
     ·exact .inr (Nat.le_trans HV.out.size h)
end Go.Proofs.YthjgiamfaijoeaaGreatDoor
namespace Go.Proofs.YthjgiamfaijoeaaGreatDoor
open Go.RowKit
open Sx (Ab DW Turns Did Foot MapIs DiskAt FootD)
set_option maxRecDepth 100000
end Go.Proofs.YthjgiamfaijoeaaGreatDoor
namespace Go.Proofs.YthjgiamfaijoeaaGreatDoor
open Go.RowKit
open Sx (Ab z128 padN zbf)
set_option maxRecDepth 100000
theorem zkf (A:Ab) (k:Int):A.strA.see k=A.see k:=by
 unfold Sx.Ab.strA
 split <;> rfl
theorem zmf (A:Ab):A.strA.last=A.last:=by
 unfold Sx.Ab.strA
 split <;> rfl
theorem zje (A:Ab):A.strA.loose=A.loose:=by
 unfold Sx.Ab.strA
 split <;> rfl
theorem zpx (A:Ab) (h:A.off=false):A.strA.off=A.str:=by
 unfold Sx.Ab.strA Sx.Ab.str
 by_cases hl:A.left < 0
 ·rw [if_pos hl,decide_eq_true hl,h];rfl
 ·rw [if_neg hl,decide_eq_false hl];rfl
theorem zacj {A:Ab} (h:A.off=false) (i:Int) (l:List Nat):A.wr i l=(A.put i l).strA∧(A.wrE i l=0 ∨ A.wrE i l=9)∧(A.wr i l).off=decide (A.wrE i l ≠ 0):=by
 have hp:(A.put i l).off=false:=h
 have e1:A.wr i l=(A.put i l).strA:=by unfold Sx.Ab.wr;rw [h];rfl
 have e2:A.wrE i l=if (A.put i l).str=true then 9 else 0:=by unfold Sx.Ab.wrE;rw [h];rfl
 refine ⟨e1,?_,?_⟩
 ·rw [e2];split
  ·exact .inr rfl
  ·exact .inl rfl
 ·rw [e1,zpx _ hp,e2]
  cases (A.put i l).str <;> rfl
theorem zpy {A:Ab} (h:A.off=false):(A.sycE=0 ∨ A.sycE=9)∧A.syc.off=decide (A.sycE ≠ 0)∧(A.sycE=0→A.syc=A.strA.sy)∧(A.sycE ≠ 0→A.syc=A.strA):=by
 have e1:A.syc=if A.str=true then A.strA else A.strA.sy:=by unfold Sx.Ab.syc;rw [h];rfl
 have e2:A.sycE=if A.str=true then 9 else 0:=by unfold Sx.Ab.sycE;rw [h];rfl
 have e3:=zpx A h
 rw [e1,e2]
 cases hs:A.str with
 | true=>
  rw [hs] at e3
  exact ⟨.inr rfl,e3,(fun q=>by cases q),fun _=>rfl⟩
 | false=>
  rw [hs] at e3
  exact ⟨.inl rfl,e3,fun _=>rfl,fun q=>absurd rfl q⟩
theorem zmg (L:List Stp):∀ A,A.off=false→stpsE L A=0→(stpsA L A).off=false∧∀ k,(stpsA L A).see k=seeF L A.see k:=by
 induction L with
 | nil=>intro A h _;exact ⟨h,fun k=>rfl⟩
 | cons s L ih=>
  intro A h he
  have he':(if s.e A=0 then stpsE L (s.A A) else s.e A)=0:=he
  have h0:s.e A=0:=by
   by_cases hq:s.e A=0
   ·exact hq
   ·rw [if_neg hq] at he';exact he'
  rw [if_pos h0] at he'
  have eA:stpsA (s :: L) A=stpsA L (s.A A):=by
   show (if s.e A=0 then stpsA L (s.A A) else s.A A)=_
   rw [if_pos h0]
  rw [eA]
  cases s with
  | wr i l=>
   obtain ⟨q1,_,q3⟩:=zacj h i l
   have h0':A.wrE i l=0:=h0
   rw [h0'] at q3
   obtain ⟨t1,t2⟩:=ih (A.wr i l) q3 he'
   refine ⟨t1,fun k=>(t2 k).trans ?_⟩
   show seeF L _ k=seeF L _ k
   congr 1
   funext q
   rw [q1,zkf,zsn]
  | sy=>
   obtain ⟨_,q2,q3,_⟩:=zpy h
   have h0':A.sycE=0:=h0
   rw [h0'] at q2
   obtain ⟨t1,t2⟩:=ih A.syc q2 he'
   refine ⟨t1,fun k=>(t2 k).trans ?_⟩
   show seeF L _ k=seeF L _ k
   congr 1
   funext q
   rw [q3 h0',zy3,zkf]
theorem zx3 (L:List Stp):∀ A,A.off=false→stpsE L A ≠ 0→stpsE L A=9∧(stpsA L A).off=true:=by
 induction L with
 | nil=>intro A _ h;exact absurd rfl h
 | cons s L ih=>
  intro A h he
  have he':(if s.e A=0 then stpsE L (s.A A) else s.e A) ≠ 0:=he
  show (if s.e A=0 then stpsE L (s.A A) else s.e A)=9∧(if s.e A=0 then stpsA L (s.A A) else s.A A).off=true
  have hs:(s.e A=0 ∨ s.e A=9)∧(s.A A).off=decide (s.e A ≠ 0):=by
   cases s with
   | wr i l=>exact ⟨(zacj h i l).2.1,(zacj h i l).2.2⟩
   | sy=>exact ⟨(zpy h).1,(zpy h).2.1⟩
  by_cases hq:s.e A=0
  ·rw [if_pos hq] at he' ⊢
   rw [if_pos hq]
   exact ih _ (by rw [hs.2,hq];rfl) he'
  ·rw [if_neg hq,if_neg hq]
   exact ⟨hs.1.resolve_left hq,by rw [hs.2,decide_eq_true hq]⟩
def zack (P:Ab→Prop):Prop:=∀ A B:Ab,A.last=B.last→A.loose=B.loose→P A→P B
theorem zu4 {P:Ab→Prop} (hP:zack P) (L:List Stp) (hL:∀ s ∈ L,∃ i l,s=.wr i l∧∀ A,P A→P (A.put i l)):∀ A,P A→P (stpsA L A):=by
 induction L with
 | nil=>intro A h;exact h
 | cons s L ih=>
  intro A h
  obtain ⟨i,l,rfl,hp⟩:=hL _ (List.mem_cons_self ..)
  have h1:P (A.wr i l):=by
   unfold Sx.Ab.wr
   split
   ·exact h
   ·exact hP (A.put i l) _ (zmf _).symm (zje _).symm (hp A h)
  show P (if A.wrE i l=0 then stpsA L (A.wr i l) else A.wr i l)
  split
  ·exact ih (fun s hs=>hL s (List.mem_cons_of_mem _ hs)) _ h1
  ·exact h1
theorem zmh {P:Ab→Prop} (hP:zack P) (L M:List Stp) (hL:∀ s ∈ L,∃ i l,s=.wr i l∧∀ A,P A→P (A.put i l)) (A:Ab) (hon:A.off=false) (h:P A):
  (stpsE L A ≠ 0∧P (stpsA (L ++ .sy :: M) A)∧stpsE (L ++ .sy :: M) A=9∧(stpsA (L ++ .sy :: M) A).off=true) ∨
  (stpsE L A=0∧(stpsA L A).sycE ≠ 0∧P (stpsA (L ++ .sy :: M) A)∧stpsE (L ++ .sy :: M) A=9∧(stpsA (L ++ .sy :: M) A).off=true) ∨
  (stpsE L A=0∧(stpsA L A).sycE=0∧stpsE (L ++ .sy :: M) A=stpsE M (stpsA L A).strA.sy∧stpsA (L ++ .sy :: M) A=stpsA M (stpsA L A).strA.sy∧(stpsA L A).strA.sy.off=false):=by
 have hk:=zu4 hP L hL A h
 by_cases he:stpsE L A=0
 ·obtain ⟨e1,e2⟩:=zoz L (.sy :: M) A he
  obtain ⟨w1,_⟩:=zmg L A hon he
  obtain ⟨s1,s2,s3,s4⟩:=zpy w1
  by_cases hs:(stpsA L A).sycE=0
  ·refine .inr (.inr ⟨he,hs,?_,?_,?_⟩)
   ·rw [e1]
    show (if (stpsA L A).sycE=0 then stpsE M (stpsA L A).syc else (stpsA L A).sycE)=_
    rw [if_pos hs,s3 hs]
   ·rw [e2]
    show (if (stpsA L A).sycE=0 then stpsA M (stpsA L A).syc else (stpsA L A).syc)=_
    rw [if_pos hs,s3 hs]
   ·rw [← s3 hs,s2,hs];rfl
  ·refine .inr (.inl ⟨he,hs,?_,?_,?_⟩)
   ·rw [e2]
    show P (if (stpsA L A).sycE=0 then stpsA M (stpsA L A).syc else (stpsA L A).syc)
    rw [if_neg hs,s4 hs]
    exact hP _ _ (zmf _).symm (zje _).symm hk
   ·rw [e1]
    show (if (stpsA L A).sycE=0 then stpsE M (stpsA L A).syc else (stpsA L A).sycE)=9
    rw [if_neg hs]
    exact s1.resolve_left hs
   ·rw [e2]
    show (if (stpsA L A).sycE=0 then stpsA M (stpsA L A).syc else (stpsA L A).syc).off=true
    rw [if_neg hs,s2,decide_eq_true hs]
 ·have hA:∀ (L:List Stp) (A:Ab),stpsE L A ≠ 0→stpsA (L ++ .sy :: M) A=stpsA L A∧stpsE (L ++ .sy :: M) A=stpsE L A:=by
   intro L
   induction L with
   | nil=>intro A h;exact absurd rfl h
   | cons s L ih=>
    intro A h
    have h':(if s.e A=0 then stpsE L (s.A A) else s.e A) ≠ 0:=h
    show (if s.e A=0 then stpsA (L ++ .sy :: M) (s.A A) else s.A A)=(if s.e A=0 then stpsA L (s.A A) else s.A A)∧(if s.e A=0 then stpsE (L ++ .sy :: M) (s.A A) else s.e A)=(if s.e A=0 then stpsE L (s.A A) else s.e A)
    by_cases hq:s.e A=0
    ·rw [if_pos hq] at h'
     rw [if_pos hq,if_pos hq,if_pos hq,if_pos hq]
     exact ih _ h'
    ·rw [if_neg hq,if_neg hq,if_neg hq,if_neg hq]
     exact ⟨rfl,rfl⟩
  obtain ⟨t1,t2⟩:=hA L A he
  obtain ⟨u1,u2⟩:=zx3 L A hon he
  exact .inl ⟨he,by rw [t1];exact hk,by rw [t2];exact u1,by rw [t1];exact u2⟩
end Go.Proofs.YthjgiamfaijoeaaGreatDoor
namespace Go.Proofs.YthjgiamfaijoeaaGreatDoor
open Go.RowKit
open Sx (Ab z128 padN zbf)
set_option maxRecDepth 100000
structure zfy (A0 A:Ab) (at_:Int) (ps:List (List Nat)):Prop where
 last:A.last=A0.last
 loose:∀ k l,A.loose k=some l→∃ (i:Nat) (p:List Nat),ps[i]?=some p∧k=at_ + i∧l=padN p
theorem zmi (A0:Ab) (at_:Int) (ps:List (List Nat)):zack fun A=>zfy A0 A at_ ps:=fun A B h1 h2 h=>⟨h1 ▸ h.last,fun k l hk=>h.loose k l (by rw [h2];exact hk)⟩
theorem zrm {A0 A:Ab} {at_:Int} {ps:List (List Nat)} (h:zfy A0 A at_ ps) {i:Nat} {p:List Nat} (hp:ps[i]?=some p):zfy A0 (A.put (at_ + i) p) at_ ps:=by
 refine ⟨h.last,fun k l hk=>?_⟩
 have hk:(if k=at_ + i then some (padN p) else A.loose k)=some l:=hk
 split at hk
 ·cases hk
  rename_i e
  exact ⟨i,p,hp,e,rfl⟩
 ·exact h.loose k l hk
theorem zmj {A0 A A':Ab} {at_:Int} {ps:List (List Nat)} {keep:List Int} (h0:∀ k,A0.loose k=none) (h:zfy A0 A at_ ps) (hc:zbf A keep A') (k:Int):
  A'.see k=A0.see k ∨ ∃ (i:Nat) (p:List Nat),ps[i]?=some p∧k=at_ + i∧(A'.see k=some (padN p) ∨ A'.see k=none):=by
 have e1:A'.see k=A'.last k:=by unfold Sx.Ab.see;rw [hc.loose]
 have e0:A0.see k=A0.last k:=by unfold Sx.Ab.see;rw [h0]
 rw [e1,e0]
 rcases hc.last k with e | ⟨l,e,e2⟩
 ·exact .inl (by rw [e,h.last])
 ·obtain ⟨i,p,q1,q2,q3⟩:=h.loose k l e
  subst q3
  exact .inr ⟨i,p,q1,q2,e2⟩
theorem zhc {A A':Ab} {keep:List Int} (h:Ab.Sm A) (hc:zbf A keep A'):Ab.Sm A':=fun k l hl=>by
 rcases hl with hl | hl
 ·rcases hc.last k with e | ⟨q,e,e2⟩
  ·exact h k l (.inl (by rw [← e];exact hl))
  ·rcases e2 with e2 | e2
   ·rw [e2] at hl;cases hl;exact h k _ (.inr e)
   ·rw [e2] at hl;cases hl
 ·rw [hc.loose] at hl;cases hl
theorem zn5 {A0 A A':Ab} {j:Jr} {R:List (Int × List Nat)} {r:Int × List Nat} {keep:List Int} (h:Holds A0 j R) (hr:zd3 r) (hl:(secL R).length + npc (rowF r) ≤ 255) (hL:zfy A0 A j.at_ (pcs (rowF r))) (hsm:Ab.Sm A) (hc:zbf A keep A'):
  (Half A' j R ∨ Half A' { j with at_:=j.at_ + npc (rowF r) } (R ++ [r]))∧Calm A'∧∀ k,A'.loose k=none:=by
 have hsm':=zhc hsm hc
 have hat:=h.half.at_
 have hsee:=zmj h.still hL hc
 have hout:∀ k,(k < j.at_ ∨ j.at_ + (npc (rowF r):Nat) ≤ k)→A'.see k=A0.see k:=fun k hk=>by
  rcases hsee k with e | ⟨i,p,q1,q2,_⟩
  ·exact e
  ·have:=(List.getElem?_eq_some_iff.1 q1).1
   rw [zb9] at this
   omega
 have hin:∀ i,i < npc (rowF r)→A'.see (j.at_ + (i:Nat))=some (padN (pc (rowF r) i)) ∨ A'.see (j.at_ + (i:Nat))=none ∨ A'.see (j.at_ + (i:Nat))=some z128:=fun i hi=>by
  rcases hsee (j.at_ + i) with e | ⟨i',p,q1,q2,q3⟩
  ·exact .inr (.inr (e.trans (h.rest _ (by omega) (by omega))))
  ·obtain rfl:i=i':=by omega
   rw [zhj _ hi] at q1
   cases q1
   exact q3.imp id .inl
 have hoth:turnA A' (256 - j.first) < j.turn:=by
  rw [zc2 (hout (256 - j.first) (by rcases h.half.f with e | e <;> omega))]
  exact h.half.other
 refine ⟨?_,⟨hc.off,by rw [hc.left];decide⟩,hc.loose⟩
 by_cases hall:∀ i,i < npc (rowF r)→A'.see (j.at_ + (i:Nat))=some (padN (pc (rowF r) i))
 ·refine .inr ?_
  have hlen:(secL (R ++ [r])).length=(secL R).length + npc (rowF r):=by rw [zcj,List.length_append,zeo,zcm]
  refine ⟨hsm',h.half.f,h.half.t,h.half.live,fun x hx=>?_,by rw [hlen];exact hl,by rw [hlen];simp only;omega,?_,fun k l hk=>?_,?_,fun s q1 q2=>?_,hoth⟩
  ·rcases List.mem_append.1 hx with hx | hx
   ·exact h.half.ok x hx
   ·rw [List.mem_singleton] at hx;rw [hx];exact hr
  ·exact (hout _ (by simp only;omega)).trans h.half.head
  ·rw [zcj,zeo] at hk
   by_cases hlt:k < (secL R).length
   ·rw [List.getElem?_append_left hlt] at hk
    exact (hout _ (by simp only;omega)).trans (h.half.body k l hk)
   ·rw [List.getElem?_append_right (by omega)] at hk
    have hk2:=(List.getElem?_eq_some_iff.1 hk).1
    rw [zcm] at hk2
    rw [zg1 r hk2] at hk
    cases hk
    rw [← hall _ hk2]
    congr 1
    simp only
    omega
  ·simp only
   by_cases hlt:j.at_ + npc (rowF r) < j.first + 256
   ·rw [zjs (by rw [hout _ (.inr (Int.le_refl _)),h.rest _ (by omega) hlt];exact zk4)]
    rfl
   ·unfold rowA
    rw [show (j.first + 256 - (j.at_ + npc (rowF r))).toNat=0 by omega]
    rfl
  ·simp only at q1 q2
   rw [hout _ (by omega),h.rest _ (by omega) q2]
   exact zk4
 ·refine .inl ⟨hsm',h.half.f,h.half.t,h.half.live,h.half.ok,h.half.len,hat,(hout _ (by omega)).trans h.half.head,fun k l hk=>?_,?_,fun s q1 q2=>?_,hoth⟩
  ·have:=(List.getElem?_eq_some_iff.1 hk).1
   exact (hout _ (by omega)).trans (h.half.body k l hk)
  ·have hex:∃ m,m < npc (rowF r)∧A'.see (j.at_ + (m:Nat)) ≠ some (padN (pc (rowF r) m)):=by
    rcases Classical.not_forall.1 hall with ⟨m,hm⟩
    exact ⟨m,Classical.not_imp.1 hm⟩
   rw [zwe hr hin hex]
   rfl
  ·by_cases hlt:s < j.at_ + npc (rowF r)
   ·obtain ⟨i,hi⟩:∃ i:Nat,s=j.at_ + i:=⟨(s - j.at_).toNat,by omega⟩
    subst hi
    rcases hin i (by omega) with e | e | e
    ·rw [e]
     intro l hl2
     cases hl2
     rw [zjr]
     omega
    ·rw [e];intro l hl2;cases hl2
    ·rw [e];exact zk4
   ·rw [hout s (by omega),h.rest s (by omega) q2]
    exact zk4
theorem Holds.laid {A A':Ab} {j:Jr} {R:List (Int × List Nat)} (h:Holds A j R) {r:Int × List Nat} (hr:zd3 r) (hl:(secL R).length + npc (rowF r) ≤ 255) (hsm:Ab.Sm A') (s4:∀ k,A'.loose k=none) (s3:∀ k,A'.see k=seeF (wrs j.at_ (pcs (rowF r))) A.see k):
  Holds A' { j with at_:=j.at_ + npc (rowF r) } (R ++ [r]):=by
 have ha:=h.half.at_
 have hout:∀ k,(k < j.at_ ∨ j.at_ + (npc (rowF r):Nat) ≤ k)→A'.see k=A.see k:=fun k hk=>by rw [s3,ze7 _ _ _ _ (by rw [zb9];exact hk)]
 have hlen:(secL (R ++ [r])).length=(secL R).length + npc (rowF r):=by rw [zcj,List.length_append,zeo,zcm]
 have hb:∀ s,j.at_ ≤ s→s < j.first + 256→A.see s=some z128:=h.rest
 refine zjv hsm h.half.f h.half.t h.half.live ?_ (by rw [hlen];exact hl) (by rw [hlen];simp only;omega) ?_ ?_ ?_ s4 ?_
 ·intro x hx
  rcases List.mem_append.1 hx with hx | hx
  ·exact h.half.ok x hx
  ·rw [List.mem_singleton] at hx;rw [hx];exact hr
 ·rw [hout _ (by simp only;omega)];exact h.half.head
 ·intro k l hk
  rw [zcj,zeo] at hk
  by_cases hlt:k < (secL R).length
  ·rw [List.getElem?_append_left hlt] at hk
   rw [hout _ (by simp only;omega)]
   exact h.half.body k l hk
  ·rw [List.getElem?_append_right (by omega)] at hk
   have hk2:=(List.getElem?_eq_some_iff.1 hk).1
   rw [zcm] at hk2
   rw [zg1 r hk2] at hk
   cases hk
   have:=zso (pcs (rowF r)) j.at_ A.see (k - (secL R).length) _ (zhj (rowF r) hk2)
   rw [← s3] at this
   rw [← this]
   congr 1
   simp only
   omega
 ·rw [zc2 (show A'.see (256 - j.first)=A.see (256 - j.first) from hout _ (by rcases h.half.f with e | e <;> omega))]
  exact h.half.other
 ·intro s q1 q2
  simp only at q1 q2
  rw [hout _ (by omega)]
  exact hb s (by omega) q2
theorem Holds.append_armed {A:Ab} {j:Jr} {R:List (Int × List Nat)} (h:Holds A j R) (hon:A.off=false) {r:Int × List Nat} (hr:zd3 r) (hl:(secL R).length + npc (rowF r) ≤ 255):
  (appE A j r.1 r.2=0∧Holds (appA A j r.1 r.2) (appJ A j r.1 r.2) (R ++ [r])∧(appA A j r.1 r.2).off=false∧appJ A j r.1 r.2={ j with at_:=j.at_ + npc (rowF r) }) ∨
  (appE A j r.1 r.2=9∧(appA A j r.1 r.2).off=true∧(appJ A j r.1 r.2).dead=true∧zfy A (appA A j r.1 r.2) j.at_ (pcs (rowF r))∧Ab.Sm (appA A j r.1 r.2)):=by
 obtain ⟨e1,e2⟩:=zsr hr
 have ha:=h.half.at_
 have g:(j.dead || A.off)=false:=by rw [h.half.live,hon];rfl
 have hroom:¬ j.first + 256 - j.at_ < (npc (rowF r):Nat):=by omega
 have e3:appL j r.1 r.2=wrs j.at_ (pcs (rowF r)) ++ .sy :: []:=by unfold appL;rw [e2]
 have E:appE A j r.1 r.2=stpsE (wrs j.at_ (pcs (rowF r)) ++ .sy :: []) A:=by unfold appE;rw [g,e1,e2,e3];simp [hroom]
 have EA:appA A j r.1 r.2=stpsA (wrs j.at_ (pcs (rowF r)) ++ .sy :: []) A:=by unfold appA;rw [g,e1,e2,e3];simp [hroom]
 have EJ:appJ A j r.1 r.2=if stpsE (wrs j.at_ (pcs (rowF r)) ++ .sy :: []) A=0 then { j with at_:=j.at_ + npc (rowF r) } else { j with dead:=true }:=by unfold appJ;rw [g,e1,e2,e3];simp [hroom]
 have hsm:Ab.Sm (stpsA (wrs j.at_ (pcs (rowF r)) ++ .sy :: []) A):=zju _ _ h.half.sm fun i l hm=>by
  rcases List.mem_append.1 hm with hm | hm
  ·exact zk6 (fun p hp=>zk5 hr hp) i l hm
  ·simp at hm
 have hkeep:∀ s ∈ wrs j.at_ (pcs (rowF r)),∃ i l,s=.wr i l∧∀ B,zfy A B j.at_ (pcs (rowF r))→zfy A (B.put i l) j.at_ (pcs (rowF r)):=fun s hs=>by
  unfold wrs at hs
  obtain ⟨i,hi,e⟩:=List.mem_mapIdx.1 hs
  exact ⟨_,_,e.symm,fun B hB=>zrm hB (List.getElem?_eq_getElem hi)⟩
 have hP0:zfy A A j.at_ (pcs (rowF r)):=⟨rfl,fun k l hk=>by rw [h.still] at hk;cases hk⟩
 rw [E,EA,EJ]
 rcases zmh (zmi A j.at_ (pcs (rowF r))) (wrs j.at_ (pcs (rowF r))) [] hkeep A hon hP0 with ⟨_,q1,q2,q3⟩ | ⟨_,_,q1,q2,q3⟩ | ⟨w0,w1,q1,q2,q3⟩
 ·exact .inr ⟨q2,q3,by rw [q2];rfl,q1,hsm⟩
 ·exact .inr ⟨q2,q3,by rw [q2];rfl,q1,hsm⟩
 ·have z:stpsE (wrs j.at_ (pcs (rowF r)) ++ .sy :: []) A=0:=q1
  obtain ⟨_,ws⟩:=zmg _ A hon w0
  refine .inl ⟨z,?_,by rw [q2];exact q3,by rw [if_pos z]⟩
  rw [if_pos z]
  refine h.laid hr hl hsm (fun k=>by rw [q2];rfl) (fun k=>?_)
  rw [q2]
  show (stpsA (wrs j.at_ (pcs (rowF r))) A).strA.sy.see k=_
  rw [zy3,zkf,ws]
end Go.Proofs.YthjgiamfaijoeaaGreatDoor
namespace Go.Proofs.YthjgiamfaijoeaaGreatDoor
open Go.RowKit
open Sx (Ab z128 padN zbf)
set_option maxRecDepth 100000
def Back (A:Ab) (T:Int) (R R':List (Int × List Nat)):Prop:=∀ keep A',zbf A keep A'→∃ j',(Half A' j' R ∨ Half A' j' R')∧j'.turn ≤ T∧Calm A'∧∀ k,A'.loose k=none
theorem Holds.back {A:Ab} {j:Jr} {R:List (Int × List Nat)} (h:Holds A j R) (R':List (Int × List Nat)):Back A j.turn R R':=fun keep A' hc=>by
 obtain ⟨h1,h2⟩:=zm8 h hc
 exact ⟨j,.inl h1.half,Int.le_refl _,h2,hc.loose⟩
theorem zx4 {A:Ab} (h:A.off=false):Calm (A.arm (-1)):=⟨h,by show Sx.intMax (-1) (-1) < 0;decide⟩
theorem Holds.append_back {A:Ab} {j:Jr} {R:List (Int × List Nat)} (h:Holds A j R) (hon:A.off=false) {r:Int × List Nat} (hr:zd3 r) (hl:(secL R).length + npc (rowF r) ≤ 255):
  (appE A j r.1 r.2=0∧Holds (appA A j r.1 r.2) (appJ A j r.1 r.2) (R ++ [r])∧(appA A j r.1 r.2).off=false∧(appJ A j r.1 r.2).turn=j.turn) ∨
  (appE A j r.1 r.2=9∧(appA A j r.1 r.2).off=true∧(appJ A j r.1 r.2).dead=true∧Back (appA A j r.1 r.2) (j.turn + 1) R (R ++ [r])∧Ab.Sm (appA A j r.1 r.2)):=by
 rcases h.append_armed hon hr hl with ⟨h1,h2,h3,h4⟩ | ⟨h1,h2,h3,h4,h5⟩
 ·exact .inl ⟨h1,h2,h3,by rw [h4]⟩
 ·refine .inr ⟨h1,h2,h3,fun keep A' hc=>?_,h5⟩
  obtain ⟨q1,q2,q3⟩:=zn5 h hr hl h4 h5 hc
  rcases q1 with q1 | q1
  ·exact ⟨_,.inl q1,by omega,q2,q3⟩
  ·exact ⟨_,.inr q1,by show j.turn ≤ j.turn + 1;omega,q2,q3⟩
end Go.Proofs.YthjgiamfaijoeaaGreatDoor
namespace Go.Proofs.YthjgiamfaijoeaaGreatDoor
open Go.RowKit
open Sx (Ab DW Turns Did Foot zbf)
set_option maxRecDepth 100000
def LastTo (A:Ab) (B:Ab):Prop:=B.loose=A.loose∧B.done=A.done∧∀ k,B.last k=A.last k ∨ ∃ l,A.loose k=some l∧(B.last k=some l ∨ B.last k=none)
theorem LastTo.one {A B:Ab} (h:LastTo A B) (K:List Int) (i:Nat) {k:Int} (hk:(A.loose k).isSome=true):LastTo A (crk1 K i k B):=by
 obtain ⟨h1,h2,h3⟩:=h
 obtain ⟨l,hl⟩:=Option.isSome_iff_exists.1 hk
 unfold crk1
 split
 ·refine ⟨h1,h2,fun j=>?_⟩
  show (if j=k then B.loose k else B.last j)=_ ∨ ∃ l,A.loose j=some l∧((if j=k then B.loose k else B.last j)=some l ∨ (if j=k then B.loose k else B.last j)=none)
  by_cases e:j=k
  ·subst e
   rw [if_pos rfl,h1,hl]
   exact .inr ⟨l,rfl,.inl rfl⟩
  ·rw [if_neg e]
   exact h3 j
 ·split
  ·refine ⟨h1,h2,fun j=>?_⟩
   show (if j=k then none else B.last j)=_ ∨ ∃ l,A.loose j=some l∧((if j=k then none else B.last j)=some l ∨ (if j=k then none else B.last j)=none)
   by_cases e:j=k
   ·subst e
    rw [if_pos rfl,hl]
    exact .inr ⟨l,rfl,.inr rfl⟩
   ·rw [if_neg e]
    exact h3 j
  ·exact ⟨h1,h2,h3⟩
theorem LastTo.all {A:Ab} (K:List Int):∀ (ks:List Int) (i:Nat) {B:Ab},LastTo A B→(∀ k ∈ ks,(A.loose k).isSome=true)→LastTo A (crk K ks i B)
 | [],_,_,h,_=>h
 | k :: r,i,_,h,hk=>LastTo.all K r (i + 1) (h.one K i (hk k (List.mem_cons_self ..))) fun j hj=>hk j (List.mem_cons_of_mem _ hj)
theorem zx5 (i:Nat):zgn [] i=0:=by
 unfold zgn
 rw [List.getElem?_nil]
theorem zu5:∀ (ks:List Int) (i:Nat) (A:Ab),crk [] ks i A=A
 | [],_,_=>rfl
 | k :: r,i,A=>by
  have e:crk1 [] i k A=A:=by
   unfold crk1
   rw [zx5]
   rfl
  show crk [] r (i + 1) (crk1 [] i k A)=A
  rw [e]
  exact zu5 r (i + 1) A
theorem zx6 {K ks:List Int} {A:Ab} (hm:∀ k,k ∈ ks ↔ (A.loose k).isSome=true):zbf A K (zpw K ks A):=by
 have h:=LastTo.all (A:=A) K ks 0 ⟨rfl,rfl,fun _=>.inl rfl⟩ fun k hk=>(hm k).1 hk
 exact ⟨h.2.2,fun e=>by subst e;unfold zpw;rw [zu5];rfl,fun _=>rfl,rfl,rfl,h.2.1⟩
theorem zu6 {w:World} {F:Foot} {dv:Value} {A:Ab} (H:DW w F dv A) {ao:Option Addr} {c:Nat} {K:List Int} (HK:KeepAt w ao K):Calls Tryz.prog 58 #[dv,.slice ao K.length c] w fun en w'=>∃ A',zbf A K A'∧Did F w dv A' (.tuple #[]) en w':=
 (zu3 H HK).mono fun _ _ ⟨_,_,hm,hd⟩=>⟨_,zx6 hm,hd⟩
end Go.Proofs.YthjgiamfaijoeaaGreatDoor
namespace Go.Proofs.YthjgiamfaijoeaaGreatDoor
open Go.RowKit
open Sx (Ab zbf)
set_option maxRecDepth 100000
theorem Back.opens {A A':Ab} {T:Int} {R R':List (Int × List Nat)} (h:Back A T R R') {K:List Int} (hc:zbf A K A'):∃ A'' j',((zce A'=⟨0,A'',j',R⟩∧Holds A'' j' R) ∨ (zce A'=⟨0,A'',j',R'⟩∧Holds A'' j' R'))∧Calm A'':=by
 obtain ⟨j',q,_,hc',hl⟩:=h K A' hc
 rcases q with q | q
 ·obtain ⟨A'',o,hh,cc⟩:=q.open_calm hc' hl
  exact ⟨A'',j',.inl ⟨o,hh⟩,cc⟩
 ·obtain ⟨A'',o,hh,cc⟩:=q.open_calm hc' hl
  exact ⟨A'',j',.inr ⟨o,hh⟩,cc⟩
theorem Holds.back_opens {A A':Ab} {j:Jr} {R:List (Int × List Nat)} (h:Holds A j R) {K:List Int} (hc:zbf A K A'):∃ A'' j',zce A'=⟨0,A'',j',R⟩∧Holds A'' j' R∧Calm A'':=by
 obtain ⟨A'',j',q,cc⟩:=(h.back R).opens hc
 rcases q with q | q <;> exact ⟨A'',j',q.1,q.2,cc⟩
end Go.Proofs.YthjgiamfaijoeaaGreatDoor
