/- What is proved: parts of the walk and of the plain law. No condition but those each law names. -/
import Derived.Test.YthjgiamfaijoeaaGreatDoorD04
import Derived.Laws.MakeOwn
import Derived.Lib.AppendZerosOnto
import Derived.Laws.Closers25b
import Derived.Test.YthjgiamfaijoeaaGreatDoorD00
set_option linter.unusedSimpArgs false
set_option linter.unusedVariables false
set_option maxRecDepth 100000
namespace Go.Proofs.YthjgiamfaijoeaaGreatDoor
open Go.RowKit
section
open Sx (Ab DW Turns Did Foot)
def wrs (at_:Int) (ps:List (List Nat)):List Stp:=ps.mapIdx fun i p=>.wr (at_ + i) p
theorem zjh (at_:Int) (ps:List (List Nat)):(wrs at_ ps).length=ps.length:=by simp [wrs]
theorem zaan (at_:Int) (ps:List (List Nat)) (i:Nat):(wrs at_ ps)[i]?=(ps[i]?).map fun p=>.wr (at_ + i) p:=by simp [wrs]
structure Jr.Ok (j:Jr):Prop where
 first:j.first=0 ∨ j.first=256
 lo:j.first + 1 ≤ j.at_
 hi:j.at_ ≤ j.first + 256
def zaao (w:World) (F:Foot) (b:Nat) (ao:Option Addr):Prop:=∀ k o,ao=some ⟨k,o,none⟩→k < w.heap.size∧k ≠ b∧∀ x,¬ F k x
theorem zaap {w w':World} {F F':Foot} {b:Nat} {ao:Option Addr} {n c:Nat} {vs:List Value} (h:Sl w ao n c vs) (hap:zaao w F b ao) (hw:Went F b w F' w'):Sl w' ao n c vs:=by
 refine ⟨h.len,h.le,h.nil,?_⟩
 rcases h.cells with e | ⟨k,o,e,hc⟩
 ·exact .inl e
 ·obtain ⟨t1,t2,t3⟩:=hap k o e
  refine .inr ⟨k,o,e,fun y x hy=>?_⟩
  rw [← hc y x hy]
  unfold World.cell?
  rw [hw.block k t1 t2 t3]
theorem zem {w:World} {B e sz n c m k o:Nat} {xs:List Value} (h:w.ownsRow B e sz (.slice (some ⟨k,o,none⟩) n c) m xs):B ≤ k∧k < w.heap.size:=by
 rcases h.2 with ⟨hv,_⟩ | ⟨g,c',cur,hv,hb,hg,_⟩
 ·cases hv
 ·cases hv
  exact ⟨hb,(zadu hg).1⟩
theorem zaaq {L p:List Nat} (h:p ∈ pcs L):p.length ≤ 128:=by
 obtain ⟨i,_,rfl⟩:=List.mem_map.1 h
 unfold pc
 rw [List.length_cons,List.length_take]
 omega
def appL (j:Jr) (kind:Int) (l:List Nat):List Stp:=wrs j.at_ (pcs (zdc kind l)) ++ [.sy]
def appE (A:Ab) (j:Jr) (kind:Int) (l:List Nat):Int:=
 if j.dead || A.off then 9 else if laidE kind l.length ≠ 0 then laidE kind l.length else if j.first + 256 - j.at_ < npc (zdc kind l) then 8 else stpsE (appL j kind l) A
def appA (A:Ab) (j:Jr) (kind:Int) (l:List Nat):Ab:=
 if j.dead || A.off then A else if laidE kind l.length ≠ 0 then A else if j.first + 256 - j.at_ < npc (zdc kind l) then A else stpsA (appL j kind l) A
def appJ (A:Ab) (j:Jr) (kind:Int) (l:List Nat):Jr:=
 if j.dead || A.off then { j with dead:=true } else if laidE kind l.length ≠ 0 then j else if j.first + 256 - j.at_ < npc (zdc kind l) then j
 else if stpsE (appL j kind l) A=0 then { j with at_:=j.at_ + npc (zdc kind l) } else { j with dead:=true }
set_option maxHeartbeats 4000000 in
theorem zq1 {w:World} {F:Foot} {dv:Value} {A:Ab} {b:Nat} {j:Jr} (h:JD w F dv A b j) (hj:j.Ok) (kind:Int) {ao:Option Addr} {n c:Nat} {l:List Nat} (hl:Sl w ao n c (bts l)) (hs:Small l) (hn:n < 1099511627776) (hap:zaao w F b ao):
  Calls Tryz.prog 234 #[.pointer (some ⟨b,0,none⟩),.int .i64 kind,.slice ao n c] w (JDid F w dv b (appA A j kind l) (appJ A j kind l) (.int .i64 (appE A j kind l))):=by
 obtain ⟨jf,jlo,jhi⟩:=hj
 have HL:=zadv hl
 have HP:=zadv hap
 have HSm:=zadv hs
 have H:=zadv h
 clear h hl hs hap
 by_cases hg:(j.dead || A.off)=true
 ·have e1:appE A j kind l=9:=if_pos hg
  have e2:appA A j kind l=A:=if_pos hg
  have e3:appJ A j kind l={ j with dead:=true }:=if_pos hg
  rw [e1,e2,e3]
  clear e1 e2 e3
  go_enter Tryz.func234,Tryz.ntmps234
  go_wp2_with (go_at_call 311;refine (zo5 H.out).mono ?_;rintro _ w1 ⟨rfl,F1,h1,hw1⟩;rw [hg] at h1 ⊢)
  go_ret
  exact ⟨rfl,F1,h1,hw1⟩
 ·have hg:(j.dead || A.off)=false:=by simpa using hg
  have hd:j.dead=false:=by cases hq:j.dead <;> simp_all
  have e1:appE A j kind l=if laidE kind l.length ≠ 0 then laidE kind l.length else if j.first + 256 - j.at_ < npc (zdc kind l) then 8 else stpsE (appL j kind l) A:=if_neg (by rw [hg];decide)
  have e2:appA A j kind l=if laidE kind l.length ≠ 0 then A else if j.first + 256 - j.at_ < npc (zdc kind l) then A else stpsA (appL j kind l) A:=if_neg (by rw [hg];decide)
  have e3:appJ A j kind l=if laidE kind l.length ≠ 0 then j else if j.first + 256 - j.at_ < npc (zdc kind l) then j else if stpsE (appL j kind l) A=0 then { j with at_:=j.at_ + npc (zdc kind l) } else { j with dead:=true }:=if_neg (by rw [hg];decide)
  have hjj:({ j with dead:=false }:Jr)=j:=by rw [← hd]
  have E1:=zadv e1
  have E2:=zadv e2
  have E3:=zadv e3
  clear e1 e2 e3
  go_enter Tryz.func234,Tryz.ntmps234
  go_wp2_with (go_at_call 311;refine (zo5 H.out).mono ?_;rintro _ w1 ⟨rfl,F1,h1,hw1⟩;rw [hg] at h1 ⊢)
  rw [hjj] at h1
  have hl1:=zaap HL.out HP.out hw1
  refine (zwr kind hl1 HSm.out hn).mono ?_
  rintro _ w2 ⟨v,vs,rfl,hb2,hown2,hps2⟩
  have h2:=h1.below hb2
  have hw2:Went F b w F1 w2:=hw1.trans (Went.of_below hb2)
  by_cases he:laidE kind l.length=0
  ·have E1':=zadv (E1.out.trans (if_neg (by rw [he];decide)))
   have E2':=zadv (E2.out.trans (if_neg (by rw [he];decide)))
   have E3':=zadv (E3.out.trans (if_neg (by rw [he];decide)))
   have hle2:=zk4 kind l
   have hnp:npc (zdc kind l) ≤ 4:=by unfold npc;omega
   have hpl:=zca (zdc kind l)
   have R:=zadv (zwx h2 (by omega) (by omega))
   obtain ⟨al,cl,rfl⟩:=za8 hown2
   rw [he]
   generalize hps:pcs (zdc kind l)=ps at *
   generalize npc (zdc kind l)=N at *
   have HPS:=zadv hps
   have HH:=zadv h2
   have HW:=zadv hw2
   have HO:=zadv hown2
   have HPc:=zadv hps2
   have HD1:=zadv (fun (i x:Nat) (hf:F1 i x)=>h1.dw.lt hf)
   have hblt:=h1.lt
   have hz12:=hb2.size
   clear E1 E2 E3 he h1 hw1 hl1 hps2 hown2 h2 hw2 hps hle2
   by_cases hr:j.first + 256 - j.at_ < N
   ·have q1:=zadv (E1'.out.trans (if_pos hr))
    have q2:=zadv (E2'.out.trans (if_pos hr))
    have q3:=zadv (E3'.out.trans (if_pos hr))
    clear E1' E2' E3'
    go_wp2_with (go_at_call 313;refine R.out.mono ?_;rintro _ _ ⟨rfl,g3,rfl⟩)
    go_ret
    refine ⟨?_,F1,?_,HW.out.trans (Went.of_below g3.below)⟩
    ·rw [q1.out];rfl
    ·rw [q2.out,q3.out];exact HH.out.below g3.below
   ·have q1:=zadv (E1'.out.trans (if_neg hr))
    have q2:=zadv (E2'.out.trans (if_neg hr))
    have q3:=zadv (E3'.out.trans (if_neg hr))
    clear E1' E2' E3'
    go_wp2_with (go_at_call 313;refine R.out.mono ?_;rintro _ _ ⟨rfl,g3,rfl⟩)
    have h3:=HH.out.below g3.below
    have hw3:=HW.out.trans (Went.of_below (F:=F1) (b:=b) g3.below)
    have hown3:=ze5 HO.out g3
    have hps3:=HPc.out.keep (zadw _) g3.below
    have hz3:=g3.size
    generalize g3.val=w3 at *
    have H3:=zadv h3
    have W3:=zadv hw3
    have O3:=zadv hown3
    have P3:=zadv hps3
    clear h3 hw3 hown3 hps3 HH HW HO HPc R
    go_loopw [9,10,11,33] (fun v9 _ _ v33 wr=>∃ (i:Nat) (us:List Value),i ≤ N∧v33=.int .i64 i∧Below w3.heap.size w3 wr∧wr.ownsRow w3.heap.size 83 1 v9 i us∧
      ∀ (k:Nat) s,((wrs j.at_ ps).take i)[k]?=some s→∃ u,us[k]?=some u∧StpAt wr F1 b dv w3.heap.size u s) (fun _ _ _ v33 _=>N - (intOf v33).toNat)
    case atStart=>exact ⟨0,[],Nat.zero_le _,rfl,Below.refl _ _,World.ownsRow_nil _ _ _ _,fun k s h=>by simp at h⟩
    case round=>
     obtain ⟨i,us,hi,rfl,hb,hown,hst⟩:=hrel
     obtain ⟨ao9,cap9,rfl⟩:=za8 hown
     have hz:=hb.size
     have HST:=zadv hst
     have hjr:=H3.out.below hb
     have c0:wr.cell? ⟨b,0,none⟩=some dv:=hjr.cell 0
     have c2:wr.cell? ⟨b,2,none⟩=some (.int .i64 j.at_):=hjr.cell 2
     by_cases hlt:i < N
     ·have hlt2:(i:Int) < N:=by omega
      have hvl:vs.length=N:=by have:=O3.out.1;omega
      obtain ⟨v0,hv0⟩:∃ v0,vs[i]?=some v0:=⟨_,zady (by omega)⟩
      obtain ⟨p,hp⟩:∃ p,ps[i]?=some p:=⟨_,zady (by omega)⟩
      have hop:=P3.out.2 i v0 p hv0 hp
      obtain ⟨a1,c1,rfl⟩:=za8 hop
      have hp128:p.length ≤ 128:=zaaq (by rw [HPS.out];exact List.mem_of_getElem? hp)
      obtain ⟨bl,ol,rfl,hbl,hcl⟩:=(Sl.own O3.out).at (by omega)
      have hx:=(hb.cell (p:=⟨bl,ol + i,none⟩) hbl).trans (hcl i _ hv0)
      have hadd:wrap64 (j.at_ + i)=j.at_ + i:=IntWalk.wrap64_in _ (by omega)
      have WS:=zadv (zhu hjr (i:=j.at_ + i) (by omega) hp128 (Sl.own (zbe hop (zadw _) hb)) (N:=w3.heap.size) (fun k o e=>by
       subst e
       obtain ⟨t1,t2⟩:=zem hop
       exact ⟨t2,Nat.lt_of_lt_of_le t2 hz,by omega,fun x hx=>absurd (HD1.out k x hx) (by omega)⟩))
      have HOP:=zadv hp
      clear hcl hop hp hjr hst
      go_wp2_with (first
       | (go_at_call 179;refine WS.out.mono ?_;rintro _ w4 ⟨u,rfl,u1,hb4,hst4⟩;obtain ⟨b1,b2,b3,q1',q2',q3',hu,hrest⟩:=id hst4;subst hu;clear hrest;have HS4:=zadv hst4;clear hst4;have hz4:=hb4.size;have hown4:=(zbe hown (zadw _) hb4).alloc (.cells #[.func (.func 250) #[] #[.pointer (some ⟨b1,0,none⟩),.pointer (some ⟨b2,0,none⟩),.pointer (some ⟨b3,0,none⟩)]] 83))
       | (at_builtin;refine zcq zwy rfl _ _ rfl (B:=w3.heap.size) (n:=i) (xs:=us) (news:=[.func (.func 250) #[] #[.pointer (some ⟨b1,0,none⟩),.pointer (some ⟨b2,0,none⟩),.pointer (some ⟨b3,0,none⟩)]]) rfl hown4 rfl rfl (fun y z hz=>by have:=zdh w4 #[.func (.func 250) #[] #[.pointer (some ⟨b1,0,none⟩),.pointer (some ⟨b2,0,none⟩),.pointer (some ⟨b3,0,none⟩)]] 83 y z hz;rw [zas];exact this) (fun y hy=>by rw [List.mem_singleton] at hy;rw [hy];rfl) (by decide) (by omega) (by simp;omega) ?_))
      intro g5 cap5 w5 hown5 hgr5 _ _
      have hb5:Below w3.heap.size w3 w5:=((hb.trans (hb4.mono hz)).alloc (Nat.le_trans hz hz4) _).trans ((Below.refl _ _).grown hgr5 (by simp;omega) (zbb hown4))
      have hst5:∀ (k:Nat) s,((wrs j.at_ ps).take (i + 1))[k]?=some s→∃ u,(us ++ [.func (.func 250) #[] #[.pointer (some ⟨b1,0,none⟩),.pointer (some ⟨b2,0,none⟩),.pointer (some ⟨b3,0,none⟩)]])[k]?=some u∧StpAt w5 F1 b dv w3.heap.size u s:=fun k s hs=>by
       have hul:us.length=i:=by have:=hown.1;omega
       have hwl:(wrs j.at_ ps).length=N:=by rw [zjh];exact hpl
       have ht:(wrs j.at_ ps).take (i + 1)=(wrs j.at_ ps).take i ++ [.wr (j.at_ + i) p]:=by rw [List.take_add_one,zaan,HOP.out];rfl
       rw [ht] at hs
       rcases Nat.lt_trichotomy k i with h | h | h
       ·rw [List.getElem?_append_left (by rw [List.length_take];omega)] at hs
        obtain ⟨u,t1,t2⟩:=HST.out k s hs
        refine ⟨u,by rw [List.getElem?_append_left (by omega)];exact t1,?_⟩
        exact ((t2.went (Went.of_below hb4)).went (Went.of_below ((Below.refl _ w4).alloc (zadw _) _))).apart hgr5 hown4 (zadw _)
       ·subst h
        rw [List.getElem?_append_right (by rw [List.length_take];omega),List.length_take,Nat.min_eq_left (by omega),Nat.sub_self] at hs
        cases hs
        refine ⟨_,by rw [List.getElem?_append_right (by omega),hul,Nat.sub_self];rfl,?_⟩
        exact (HS4.out.went (Went.of_below ((Below.refl _ w4).alloc (zadw _) _))).apart hgr5 hown4 (zadw _)
       ·rw [List.getElem?_eq_none (by simp;omega)] at hs
        cases hs
      have HS5:=zadv hst5
      clear hst5 hgr5 hown4 hown hb4
      go_wp2
      go_roundw
      case rel=>exact ⟨i + 1,_,by omega,rfl,hb5,hown5,HS5.out⟩
      case measure=>simp [intOf];omega
     ·obtain rfl:i=N:=by omega
      have hnl:¬ (i:Int) < i:=by omega
      have hown4:=hown.alloc (.cells #[.func (.func 181) #[dv] #[]] 83)
      clear hst
      go_wp2_with (at_builtin;refine zcq zwy rfl _ _ rfl (B:=w3.heap.size) (n:=i) (xs:=us) (news:=[.func (.func 181) #[dv] #[]]) rfl hown4 rfl rfl (fun y z hz=>by have:=zdh wr #[.func (.func 181) #[dv] #[]] 83 y z hz;rw [zas];exact this) (fun y hy=>by rw [List.mem_singleton] at hy;rw [hy];rfl) (by decide) (by omega) (by simp;omega) ?_)
      intro g5 cap5 w5 hown5 hgr5 _ _
      have hb5:Below w3.heap.size w3 w5:=(hb.alloc hz _).trans ((Below.refl _ _).grown hgr5 (by simp;omega) (zbb hown4))
      have hul:us.length=i:=by have:=hown.1;omega
      have hwl:(wrs j.at_ ps).length=i:=by rw [zjh];exact hpl
      have hal:appL j kind l=wrs j.at_ ps ++ [.sy]:=by unfold appL;rw [HPS.out]
      have hall:(appL j kind l).length=i + 1:=by rw [hal];simp [hwl]
      have hst5:StpsAt w5 F1 b dv (.slice (some ⟨g5,0,none⟩) (i + 1) cap5) (appL j kind l):=by
       refine ⟨⟨w3.heap.size,_,by rw [hall];exact hown5,fun k s hs=>?_⟩,fun k hk=>?_⟩
       ·rw [hal] at hs
        rcases Nat.lt_trichotomy k i with h | h | h
        ·rw [List.getElem?_append_left (by omega)] at hs
         obtain ⟨u,t1,t2⟩:=HST.out k s (by rw [List.getElem?_take_of_lt h];exact hs)
         exact ⟨u,by rw [List.getElem?_append_left (by omega)];exact t1,w3.heap.size,(t2.went (Went.of_below ((Below.refl _ wr).alloc (zadw _) _))).apart hgr5 hown4 (zadw _)⟩
        ·subst h
         rw [List.getElem?_append_right (by omega),hwl,Nat.sub_self] at hs
         cases hs
         exact ⟨_,by rw [List.getElem?_append_right (by omega),hul,Nat.sub_self];rfl,0,rfl⟩
        ·rw [List.getElem?_eq_none (by simp;omega)] at hs
         cases hs
       ·have hk2:=zbb hown5 k hk
        exact ⟨by omega,fun x hx=>absurd (HD1.out k x hx) (by omega)⟩
      have h5:=H3.out.below hb5
      have DA:=zadv (zg3 h5 hst5 (by rw [hall];omega))
      have W5:=zadv (W3.out.trans (Went.of_below (F:=F1) (b:=b) hb5))
      clear hst5 hgr5 hown4 hown hown5 h5 hall hal hwl hul
      go_wp2_with fail
      refine DA.out.mono ?_
      rintro _ w6 ⟨rfl,F2,h6,hw6⟩
      have W6:=zadv (W5.out.trans hw6)
      by_cases hE:stpsE (appL j kind l) A=0
      ·have q3':=zadv (q3.out.trans (if_pos hE))
       rw [hE] at h6 ⊢
       have hd6:(j.dead || decide ((0:Int) ≠ 0))=false:=by rw [hd];rfl
       have h7:JD w6 F2 dv (stpsA (appL j kind l) A) b j:=by
        have:({ j with dead:=j.dead || decide ((0:Int) ≠ 0) }:Jr)=j:=by rw [hd6,← hd]
        rwa [this] at h6
       have e2:w6.cell? ⟨b,2,none⟩=some (.int .i64 j.at_):=h7.cell 2
       have f2:=h7.unfrozen 2
       have hadd:wrap64 (j.at_ + i)=j.at_ + i:=IntWalk.wrap64_in _ (by omega)
       have HD:=zadv (h7.set (k:=2) (v:=.int .i64 (j.at_ + i)) (j':={ j with at_:=j.at_ + i }) rfl)
       have Q1:=zadv (q1.out.trans hE)
       clear h6 h7 hw6 hE
       go_wp2
       go_ret
       refine ⟨?_,F2,?_,W6.out.trans Went.of_set⟩
       ·rw [Q1.out];rfl
       ·rw [q2.out,q3'.out];exact HD.out
      ·have q3':=zadv (q3.out.trans (if_neg hE))
       have hb6:(stpsE (appL j kind l) A == 0)=false:=by rw [beq_eq_false_iff_ne];exact hE
       have h7:JD w6 F2 dv (stpsA (appL j kind l) A) b { j with dead:=true }:=by
        have:(j.dead || decide (stpsE (appL j kind l) A ≠ 0))=true:=by rw [hd,decide_eq_true hE];rfl
        rwa [this] at h6
       have HD:=zadv h7
       clear h6 h7 hw6 hE
       generalize stpsE (appL j kind l) A=er at *
       go_wp2
       go_ret
       refine ⟨?_,F2,?_,W6.out⟩
       ·rw [q1.out];rfl
       ·rw [q2.out,q3'.out];exact HD.out
  ·have q1:=zadv (E1.out.trans (if_pos he))
   have q2:=zadv (E2.out.trans (if_pos he))
   have q3:=zadv (E3.out.trans (if_pos he))
   have hne:(laidE kind l.length == 0)=false:=by rw [beq_eq_false_iff_ne];exact he
   have HH:=zadv h2
   have HW:=zadv hw2
   clear E1 E2 E3 he h1 hw1 hl1 hps2 hown2 h2 hw2
   generalize laidE kind l.length=er at *
   go_wp2
   go_ret
   refine ⟨?_,F1,?_,HW.out⟩
   ·rw [q1.out];rfl
   ·rw [q2.out,q3.out];exact HH.out
end
section
open Sx (Ab DW Turns Did Foot z128)
theorem zaar (w:World):(Instr.makeSlice 37 (.int .i64 128) (.int .i64 128)).run Tryz.prog w=.ok (.slice (some ⟨w.heap.size,0,none⟩) 128 128) (w.alloc (.cells (bts z128).toArray 5)):=by
 obtain ⟨i,hi,h1,h2,h3⟩:=info_parts (show (Tryz.prog.info? 5).map (fun i=>(i.zero,i.size,i.bytes))=some (some (.int .u8 0),1,1) by kernel_rfl)
 have:=run_make (P:=Tryz.prog) w 37 5 i (.int .u8 0) Tryz.underlying37 hi h1 .i64 .i64 128 128 (by decide) (Int.le_refl _) (by rw [h3];decide) (by decide)
 rw [h2] at this
 have hz:madeCells (Value.int .u8 0).cells ((128:Int).toNat * 1)=(bts z128).toArray:=by kernel_rfl
 rw [hz] at this
 exact this
def Ab.Sm (A:Ab):Prop:=∀ k l,(A.last k=some l ∨ A.loose k=some l)→Small l
theorem zst {A:Ab} (h:Ab.Sm A) {i:Int} {l:List Nat} (hs:A.see i=some l):Small l:=by
 unfold Sx.Ab.see at hs
 cases hl:A.loose i with
 | some k=>rw [hl] at hs;cases hs;exact h i _ (.inr hl)
 | none=>rw [hl] at hs;exact h i _ (.inl hs)
theorem zaas:Small z128:=fun x hx=>by rw [List.eq_of_mem_replicate hx];decide
theorem zhv {w:World} {F:Foot} {dv:Value} {A:Ab} (H:DW w F dv A) {i:Int} (hi:0 ≤ i∧i < 512) {l:List Nat} (hs:A.see i=some l):Calls Tryz.prog 246 #[dv,.int .i64 i] w fun en w'=>∃ F' b o c,en=.returned (.tuple #[.slice (some ⟨b,o,none⟩) 128 c,.int .i64 0])∧
  DW w' F' dv A∧Turns F w w'∧(∀ b x,F' b x→F b x ∨ w.heap.size ≤ b)∧l.length=128∧Sl w' (some ⟨b,o,none⟩) 128 c (bts l)∧∀ j,j < 128→¬ F' b (o + j)∧w'.frozen? ⟨b,o + j,none⟩=false∧(F b (o + j) ∨ w.heap.size ≤ b):=by
 refine (Sx.read_w H hi).mono ?_
 rintro en w' ⟨F',h1,h2,h3,h4⟩
 rw [hs] at h4
 obtain ⟨b,o,c,rfl,h5,h6,h7⟩:=h4
 exact ⟨F',b,o,c,rfl,h1,h2,h3,h5,h6,h7⟩
theorem zhw {w:World} {F:Foot} {dv:Value} {A:Ab} (H:DW w F dv A) {i:Int} (hi:0 ≤ i∧i < 512) (hs:A.see i=none):Calls Tryz.prog 246 #[dv,.int .i64 i] w fun en w'=>∃ F',en=.returned (.tuple #[.slice none 0 0,.int .i64 24])∧
  DW w' F' dv A∧Turns F w w'∧(∀ b x,F' b x→F b x ∨ w.heap.size ≤ b):=by
 refine (Sx.read_w H hi).mono ?_
 rintro en w' ⟨F',h1,h2,h3,h4⟩
 rw [hs] at h4
 exact ⟨F',h4,h1,h2,h3⟩
attribute [local go_sem high] zaar
theorem zdj {F F':Foot} {dv:Value} {A:Ab} {w w1 w2:World} (h1:DW w1 F' dv A) (h2:Turns F w w1) (h3:∀ b x,F' b x→F b x ∨ w.heap.size ≤ b) (hb:Below w1.heap.size w1 w2):DW w2 F' dv A∧Turns F w w2∧∀ b x,F' b x→F b x ∨ w.heap.size ≤ b:=
 ⟨h1.below hb,⟨hb.os.trans h2.os,hb.tape.trans h2.tape,hb.output.trans h2.output,Nat.le_trans h2.size hb.size,fun k hk hf=>(hb.block k (Nat.lt_of_lt_of_le hk h2.size)).trans (h2.block k hk hf)⟩,h3⟩
theorem zla {w:World} {F:Foot} {dv:Value} {A:Ab} (H:DW w F dv A) (hA:Ab.Sm A) {i:Int} (hi:0 ≤ i∧i < 512):Calls Tryz.prog 249 #[dv,.int .i64 i] w (Did F w dv A (.bool (decide (A.see i=some z128)))):=by
 cases hs:A.see i with
 | none=>
  have R:=zadv (zhw H hi hs)
  have e:decide ((none:Option (List Nat))=some z128)=false:=rfl
  rw [e]
  go_enter Tryz.func249,Tryz.ntmps249
  go_wp2_with (go_at_call 246;refine R.out.mono ?_;rintro _ w1 ⟨F',rfl,h1,h2,h3⟩)
  go_ret
  exact ⟨rfl,F',h1,h2,h3⟩
 | some l=>
  have R:=zadv (zhv H hi hs)
  have hsm:=zst hA hs
  have e:decide (some l=some z128)=decide (l=z128):=by simp
  rw [e]
  clear H hs
  go_enter Tryz.func249,Tryz.ntmps249
  go_wp2_with (first
   | (go_at_call 246;refine R.out.mono ?_;rintro _ w1 ⟨F',b,o,c,rfl,h1,h2,h3,h4,h5,h6⟩;have HD:=zadv (zadx h1 (zadx h2 h3));have hb1:=(Below.refl w1.heap.size w1).alloc (zadw _) (.cells (bts z128).toArray 5);have hz:=zadv (zcp w1 (bts z128).toArray 5 128 w1.heap.size (0,0) rfl rfl);have h5':=zadv (h5.keep (zadw _) hb1);clear h1 h2 h3 h4 h5 h6)
   | (go_at_call 248;refine (zk2 h5'.out hz.out hsm zaas).mono ?_;rintro _ _ ⟨rfl,g,rfl⟩))
  go_ret
  obtain ⟨h1,h2,h3⟩:=HD.out
  obtain ⟨q1,q2,q3⟩:=zdj h1 h2 h3 (hb1.trans (g.below.mono hb1.size))
  exact ⟨rfl,F',q1,q2,q3⟩
structure TB (F:Foot) (w:World) (F':Foot) (w':World):Prop where
 t:Turns F w w'
 fb:∀ b x,F' b x→F b x ∨ w.heap.size ≤ b
theorem TB.refl (F:Foot) (w:World):TB F w F w:=⟨Turns.refl F w,fun _ _ h=>.inl h⟩
theorem TB.trans {F F1 F2:Foot} {w w1 w2:World} (h:TB F w F1 w1) (h':TB F1 w1 F2 w2):TB F w F2 w2:=
 ⟨⟨h'.t.os.trans h.t.os,h'.t.tape.trans h.t.tape,h'.t.output.trans h.t.output,Nat.le_trans h.t.size h'.t.size,
  fun k hk hf=>(h'.t.block k (Nat.lt_of_lt_of_le hk h.t.size) fun x hx=>(h.fb k x hx).elim (hf x) (by omega)).trans (h.t.block k hk hf)⟩,
  fun i x hx=>(h'.fb i x hx).elim (fun h1=>h.fb i x h1) fun h1=>.inr (Nat.le_trans h.t.size h1)⟩
def zq2 (A:Ab) (i:Nat):Bool:=i % 256 == 0 || decide (A.see i=some z128)
def zd8 (A:Ab):Bool:=(List.range 512).all (zq2 A)
theorem zsu {w:World} {F:Foot} {dv:Value} {A:Ab} (H:DW w F dv A) (hA:Ab.Sm A):Calls Tryz.prog 177 #[dv] w (Did F w dv A (.bool (zd8 A))):=by
 go_enter Tryz.func177,Tryz.ntmps177
 go_wp2
 go_loopw [3,4] (fun _ v4 wr=>∃ (i:Nat) (F1:Foot),i ≤ 512∧v4=.int .i64 i∧DW wr F1 dv A∧TB F w F1 wr∧∀ k,k < i→zq2 A k=true) (fun _ v4 _=>512 - (intOf v4).toNat)
 case atStart=>exact ⟨0,F,Nat.zero_le _,rfl,H,TB.refl F w,fun k h=>absurd h (Nat.not_lt_zero k)⟩
 case round=>
  obtain ⟨i,F1,hi,rfl,h1,ht,hg⟩:=hrel
  by_cases hlt:i < 512
  ·have hlt2:(i:Int) < 512:=by omega
   have HG:=zadv hg
   have HT:=zadv ht
   have H1:=zadv h1
   clear hg ht h1
   by_cases hm:i % 256=0
   ·have hm3:(i:Int) % 256=0:=by omega
    go_wp2
    go_roundw
    case rel=>exact ⟨i + 1,F1,by omega,rfl,H1.out,HT.out,fun k hk=>by
     rcases Nat.lt_or_ge k i with h | h
     ·exact HG.out k h
     ·have:k=i:=by omega
      subst this
      unfold zq2
      rw [hm];rfl⟩
    case measure=>simp [intOf];omega
   ·have hm3:((i:Int) % 256 == 0)=false:=by rw [beq_eq_false_iff_ne];omega
    have E:=zadv (zla H1.out hA (i:=i) (by omega))
    cases hs:decide (A.see i=some z128) with
    | true=>
     rw [hs] at E
     go_wp2_with (go_at_call 249;refine E.out.mono ?_;rintro _ w2 ⟨rfl,F2,q1,q2,q3⟩;have H2:=zadv q1;have T2:=zadv (HT.out.trans ⟨q2,q3⟩);clear q1 q2 q3)
     go_roundw
     case rel=>exact ⟨i + 1,F2,by omega,rfl,H2.out,T2.out,fun k hk=>by
      rcases Nat.lt_or_ge k i with h | h
      ·exact HG.out k h
      ·have:k=i:=by omega
       subst this
       unfold zq2
       rw [hs,Bool.or_true]⟩
     case measure=>simp [intOf];omega
    | false=>
     rw [hs] at E
     go_wp2_with (go_at_call 249;refine E.out.mono ?_;rintro _ w2 ⟨rfl,F2,q1,q2,q3⟩;have H2:=zadv q1;have T2:=zadv (HT.out.trans ⟨q2,q3⟩);clear q1 q2 q3)
     go_ret
     have e:zd8 A=false:=by
      unfold zd8
      rw [List.all_eq_false]
      refine ⟨i,List.mem_range.2 hlt,?_⟩
      unfold zq2
      rw [hs]
      simp [hm]
     exact ⟨by rw [e];rfl,F2,H2.out,T2.out.t,T2.out.fb⟩
  ·obtain rfl:i=512:=by omega
   have e:zd8 A=true:=by
    unfold zd8
    rw [List.all_eq_true]
    exact fun k hk=>hg k (List.mem_range.1 hk)
   have HT:=zadv ht
   have H1:=zadv h1
   clear hg ht h1
   go_wp2
   go_ret
   exact ⟨by rw [e];rfl,F1,H1.out,HT.out.t,HT.out.fb⟩
def tdy (A:Ab) (at_:Int):Nat→List Stp
 | 0=>[]
 | k + 1=>tdy A at_ k ++ (if A.see (at_ + k)=some z128 then [] else [.wr (at_ + k) []])
theorem znc (A:Ab) (at_:Int) (k:Nat):(tdy A at_ k).length ≤ k:=by
 induction k with
 | zero=>exact zadw _
 | succ k ih=>
  unfold tdy
  rw [List.length_append]
  split <;> simp <;> omega
def zb1 (A:Ab) (j:Jr):List Stp:=let l:=tdy A j.at_ (j.first + 256 - j.at_).toNat;if l=[] then [] else l ++ [.sy]
structure Mk (w:World) (F:Foot) (b:Nat) (dv v:Value) (B:Nat) (L:List Stp):Prop where
 row:∃ us,w.ownsRow B 83 1 v L.length us∧∀ (k:Nat) s,L[k]?=some s→∃ u,us[k]?=some u∧StpAt w F b dv 0 u s
 clear:∀ k,v.ownBlock=some k→k ≠ b∧∀ x,¬ F k x
theorem Mk.stps {w:World} {F:Foot} {b:Nat} {dv v:Value} {B:Nat} {L:List Stp} (h:Mk w F b dv v B L):StpsAt w F b dv v L:=by
 obtain ⟨us,h1,h2⟩:=h.row
 refine ⟨⟨B,us,h1,fun i s hs=>?_⟩,h.clear⟩
 obtain ⟨u,h3,h4⟩:=h2 i s hs
 exact ⟨u,h3,0,h4⟩
theorem Mk.went {w w':World} {F F':Foot} {b:Nat} {dv v:Value} {B:Nat} {L:List Stp} (h:Mk w F b dv v B L) (hw:Went F b w F' w'):Mk w' F' b dv v B L:=by
 obtain ⟨us,h1,h2⟩:=h.row
 refine ⟨⟨us,zo4 h1 hw h.clear,fun i s hs=>?_⟩,fun k hk=>⟨(h.clear k hk).1,fun x hx=>?_⟩⟩
 ·obtain ⟨u,h3,h4⟩:=h2 i s hs
  exact ⟨u,h3,h4.went hw⟩
 ·have:=(h1.lt k hk).2
  exact (hw.fb k x hx).elim ((h.clear k hk).2 x) fun h=>absurd this (by omega)
theorem Mk.push {w:World} {F:Foot} {b:Nat} {dv v u:Value} {B:Nat} {L:List Stp} {s:Stp} (h:Mk w F b dv v B L) (hs:StpAt w F b dv 0 u s) (hF:∀ i x,F i x→i < w.heap.size) (hb:b < w.heap.size) (hB:B ≤ w.heap.size):
  ∃ us,w.ownsRow B 83 1 v L.length us∧∀ w' v',w'.ownsRow B 83 1 v' (L.length + 1) (us ++ [u])→w.grownBy w' v.ownBlock→(v'.ownBlock=v.ownBlock ∨ v'.ownBlock=some w.heap.size)→Mk w' F b dv v' B (L ++ [s]):=by
 obtain ⟨us,h1,h2⟩:=h.row
 refine ⟨us,h1,fun w' v' h3 hgr hat=>⟨⟨us ++ [u],by rw [List.length_append];exact h3,fun k t ht=>?_⟩,fun k hk=>?_⟩⟩
 ·have hul:us.length=L.length:=by have:=h1.1;omega
  rcases Nat.lt_trichotomy k L.length with hk | hk | hk
  ·rw [List.getElem?_append_left hk] at ht
   obtain ⟨y,t1,t2⟩:=h2 k t ht
   exact ⟨y,by rw [List.getElem?_append_left (by omega)];exact t1,t2.apart hgr h1 (Nat.zero_le _)⟩
  ·subst hk
   rw [List.getElem?_append_right (zadw _),Nat.sub_self] at ht
   cases ht
   exact ⟨u,by rw [List.getElem?_append_right (by omega),hul,Nat.sub_self];rfl,hs.apart hgr h1 (Nat.zero_le _)⟩
  ·rw [List.getElem?_eq_none (by simp;omega)] at ht
   cases ht
 ·rcases hat with e | e
  ·exact h.clear k (e.symm.trans hk)
  ·rw [e] at hk
   cases hk
   exact ⟨by omega,fun x hx=>absurd (hF _ x hx) (Nat.lt_irrefl _)⟩
end
section
open Sx (Ab DW Turns Did Foot z128)
theorem zg4 (A:Ab) (at_:Int) (k:Nat):tdy A at_ (k + 1)=tdy A at_ k ++ (if A.see (at_ + k)=some z128 then [] else [.wr (at_ + k) []]):=rfl
set_option maxHeartbeats 2000000 in
theorem zo6 {w:World} {F:Foot} {dv:Value} {A:Ab} {b:Nat} {j:Jr} (h:JD w F dv A b j) (hj:j.Ok) (hA:Ab.Sm A):
  Calls Tryz.prog 183 #[.pointer (some ⟨b,0,none⟩)] w fun e w'=>∃ v F',e=.returned v∧JD w' F' dv A b j∧Went F b w F' w'∧StpsAt w' F' b dv v (zb1 A j):=by
 obtain ⟨jf,jlo,jhi⟩:=hj
 obtain ⟨M,hM⟩:∃ M:Nat,j.first + 256 - j.at_=M:=⟨(j.first + 256 - j.at_).toNat,by omega⟩
 have hML:zb1 A j=if tdy A j.at_ M=[] then [] else tdy A j.at_ M ++ [.sy]:=by unfold zb1;rw [hM];rfl
 have HML:=zadv hML
 have hblt:=h.lt
 have c2:w.cell? ⟨b,2,none⟩=some (.int .i64 j.at_):=h.cell 2
 have H:=zadv h
 have HM:=zadv hM
 clear h hML hM
 go_enter Tryz.func183,Tryz.ntmps183
 go_wp2
 go_loopw [3,4] (fun v3 v4 wr=>∃ (k:Nat) (F1:Foot),k ≤ M∧v4=.int .i64 (j.at_ + k)∧JD wr F1 dv A b j∧Went F b w F1 wr∧Mk wr F1 b dv v3 w.heap.size (tdy A j.at_ k)) (fun _ v4 _=>(j.first + 256 - intOf v4).toNat)
 case atStart=>exact ⟨0,F,Nat.zero_le _,by simp,H.out,Went.refl F b w,⟨⟨[],World.ownsRow_nil _ _ _ _,fun k s h=>by simp [tdy] at h⟩,fun k hk=>by cases hk⟩⟩
 case round=>
  obtain ⟨k,F1,hk,rfl,h1,hw,hm⟩:=hrel
  have hM:=HM.out
  have c0:wr.cell? ⟨b,0,none⟩=some dv:=h1.cell 0
  have c1:wr.cell? ⟨b,1,none⟩=some (.int .i64 j.first):=h1.cell 1
  have hadd:wrap64 (j.first + 256)=j.first + 256:=IntWalk.wrap64_in _ (by omega)
  have hadd2:wrap64 (j.at_ + k + 1)=j.at_ + k + 1:=IntWalk.wrap64_in _ (by omega)
  have hz:=hw.size
  by_cases hlt:k < M
  ·have hlt2:j.at_ + k < j.first + 256:=by omega
   have E:=zadv (zla h1.dw hA (i:=j.at_ + k) (by omega))
   have H1:=zadv h1
   have HW:=zadv hw
   have HK:=zadv hm
   clear h1 hw hm hM c2
   by_cases hs:A.see (j.at_ + k)=some z128
   ·have ht:tdy A j.at_ (k + 1)=tdy A j.at_ k:=by rw [zg4,if_pos hs,List.append_nil]
    have HT:=zadv ht
    rw [decide_eq_true hs] at E
    clear hs ht
    go_wp2_with (go_at_call 249;refine E.out.mono ?_;rintro _ w2 ⟨rfl,F2,q1,q2,q3⟩;have H2:=zadv (H1.out.did q1 q2 q3);have W2:=zadv (Went.of_did (b:=b) q2 q3);clear q1 q2 q3)
    go_roundw
    case rel=>exact ⟨k + 1,F2,by omega,by go_num,H2.out,HW.out.trans W2.out,by rw [HT.out];exact HK.out.went W2.out⟩
    case measure=>simp [intOf];omega
   ·have ht:tdy A j.at_ (k + 1)=tdy A j.at_ k ++ [.wr (j.at_ + k) []]:=by rw [zg4,if_neg hs]
    have HT:=zadv ht
    rw [decide_eq_false hs] at E
    clear hs ht
    go_wp2_with (first
     | (go_at_call 249;refine E.out.mono ?_;rintro _ w2 ⟨rfl,F2,q1,q2,q3⟩;have H2:=zadv (H1.out.did q1 q2 q3);have W2:=zadv (Went.of_did (b:=b) q2 q3);clear q1 q2 q3;have K2:=zadv (HK.out.went W2.out);have WS:=zadv (zhu H2.out (i:=j.at_ + k) (by omega) (ao:=none) (n:=0) (c:=0) (l:=[]) (Nat.zero_le _) (Sl.nothing w2) (N:=0) (fun k o e=>by cases e)))
     | (go_at_call 179;refine WS.out.mono ?_;rintro _ w4 ⟨u,rfl,u1,hb4,hst4⟩;obtain ⟨b1,b2,b3,q1',q2',q3',hu,hrest⟩:=id hst4;subst hu;clear hrest;have hb5:=(Below.refl w4.heap.size w4).alloc (zadw _) (.cells #[.func (.func 250) #[] #[.pointer (some ⟨b1,0,none⟩),.pointer (some ⟨b2,0,none⟩),.pointer (some ⟨b3,0,none⟩)]] 83);have H5:=zadv ((H2.out.below hb4).below hb5);have W5:=zadv ((W2.out.trans (Went.of_below (F:=F2) (b:=b) hb4)).trans (Went.of_below (F:=F2) (b:=b) hb5));have K5:=zadv ((K2.out.went (Went.of_below hb4)).went (Went.of_below hb5));have S5:=zadv (hst4.went (Went.of_below (F:=F2) hb5));clear hst4;have hz5:w.heap.size ≤ (w4.alloc (.cells #[.func (.func 250) #[] #[.pointer (some ⟨b1,0,none⟩),.pointer (some ⟨b2,0,none⟩),.pointer (some ⟨b3,0,none⟩)]] 83)).heap.size:=(HW.out.trans W5.out).size;obtain ⟨us,hown4,hpush⟩:=K5.out.push S5.out (fun i x hf=>H5.out.dw.lt hf) H5.out.lt hz5;have HP:=zadv hpush;have htl:=znc A j.at_ k;clear hpush)
     | (at_builtin;refine zcq zwy rfl _ _ rfl (B:=w.heap.size) (n:=(tdy A j.at_ k).length) (xs:=us) (news:=[.func (.func 250) #[] #[.pointer (some ⟨b1,0,none⟩),.pointer (some ⟨b2,0,none⟩),.pointer (some ⟨b3,0,none⟩)]]) (by (first | rfl | exact rfl)) hown4 rfl rfl (fun y z hz=>by have:=zdh w4 #[.func (.func 250) #[] #[.pointer (some ⟨b1,0,none⟩),.pointer (some ⟨b2,0,none⟩),.pointer (some ⟨b3,0,none⟩)]] 83 y z hz;rw [zas];exact this) (fun y hy=>by rw [List.mem_singleton] at hy;rw [hy];rfl) (by decide) (by omega) hz5 ?_))
    intro g5 cap5 w5 hown5 hgr5 hat5 _
    have hl6:(tdy A j.at_ (k + 1)).length=(tdy A j.at_ k).length + 1:=by rw [HT.out,List.length_append];rfl
    have K6:=zadv (HP.out w5 (.slice (some ⟨g5,0,none⟩) ((tdy A j.at_ k).length + 1) cap5) hown5 hgr5 (hat5.elim (fun e=>.inl e.symm) fun e=>.inr (congrArg some (e.trans (by simp)))))
    have H6:=zadv (H5.out.grown hgr5 K5.out.clear)
    have W6:=zadv ((HW.out.trans W5.out).grown hgr5 (zbb hown4))
    clear hown5 hgr5 hat5 hown4
    go_wp2
    go_roundw
    case rel=>exact ⟨k + 1,F2,by omega,by go_num,H6.out,W6.out,by rw [HT.out];exact K6.out⟩
    case measure=>simp [intOf];omega
  ·obtain rfl:k=M:=by omega
   have hnl:¬ j.at_ + (k:Int) < j.first + 256:=by omega
   have hkb:k ≤ 1000:=by omega
   have H1:=zadv h1
   have HW:=zadv hw
   have HK:=zadv hm
   obtain ⟨us0,hown0,_⟩:=id hm.row
   obtain ⟨ao3,cap3,rfl⟩:=za8 hown0
   have htl:=znc A j.at_ k
   have hd1:∀ i x,F1 i x→i < wr.heap.size:=fun i x hf=>h1.dw.lt hf
   have hbl:=h1.lt
   clear h1 hw hm hM c2 hown0
   by_cases ht:tdy A j.at_ k=[]
   ·have e:zb1 A j=[]:=HML.out.trans (if_pos ht)
    rw [ht] at HK ⊢
    have HE:=zadv e
    clear ht e htl
    go_wp2
    go_ret
    exact ⟨_,rfl,F1,H1.out,HW.out,by rw [HE.out];exact HK.out.stps⟩
   ·have e:zb1 A j=tdy A j.at_ k ++ [.sy]:=HML.out.trans (if_neg ht)
    have hl0:0 < (tdy A j.at_ k).length:=List.length_pos_iff.2 ht
    have hl1:(0:Int) < ((tdy A j.at_ k).length:Int):=by omega
    have HE:=zadv e
    have hb4:=(Below.refl wr.heap.size wr).alloc (zadw _) (.cells #[.func (.func 181) #[dv] #[]] 83)
    have H4:=zadv (H1.out.below hb4)
    have W4:=zadv (HW.out.trans (Went.of_below (F:=F1) (b:=b) hb4))
    have hz4:=W4.out.size
    obtain ⟨us,hown4,hpush⟩:=(HK.out.went (Went.of_below (F:=F1) (b:=b) hb4)).push (s:=.sy) (u:=.func (.func 181) #[dv] #[]) rfl (fun i x hf=>H4.out.dw.lt hf) H4.out.lt hz4
    have HP:=zadv hpush
    clear hpush ht e hb4
    go_wp2_with (at_builtin;refine zcq zwy rfl _ _ rfl (B:=w.heap.size) (n:=(tdy A j.at_ k).length) (xs:=us) (news:=[.func (.func 181) #[dv] #[]]) (by (first | rfl | exact rfl)) hown4 rfl rfl (fun y z hz=>by have:=zdh wr #[.func (.func 181) #[dv] #[]] 83 y z hz;rw [zas];exact this) (fun y hy=>by rw [List.mem_singleton] at hy;rw [hy];rfl) (by decide) (by omega) hz4 ?_)
    intro g5 cap5 w5 hown5 hgr5 hat5 _
    have K5:=zadv (HP.out w5 (.slice (some ⟨g5,0,none⟩) ((tdy A j.at_ k).length + 1) cap5) hown5 hgr5 (hat5.elim (fun e=>.inl e.symm) fun e=>.inr (congrArg some (e.trans (by simp)))))
    have H5:=zadv (H4.out.grown hgr5 (HK.out.went (Went.of_below (F:=F1) (b:=b) ((Below.refl wr.heap.size wr).alloc (zadw _) (.cells #[.func (.func 181) #[dv] #[]] 83)))).clear)
    have W5:=zadv (W4.out.grown hgr5 (zbb hown4))
    clear hown5 hgr5 hat5 hown4
    go_wp2
    go_ret
    first
     | exact ⟨_,F1,rfl,H5.out,W5.out,by rw [HE.out];exact K5.out.stps⟩
     | exact ⟨_,rfl,F1,H5.out,W5.out,by rw [HE.out];exact K5.out.stps⟩
end
section
theorem zw0:Builtin.zeroCells (Value.int .u8 0).cells 113=(List.replicate 113 (Value.int .u8 0)).toArray:=by kernel_rfl
theorem zj2 {w:World} {base n:Nat} {v:Value} {xs:List Value} (ty:TypeId) (hown:w.ownsRow base 5 1 v n xs) (hn:0 < n) (h63:n ≤ 1000) (hbase:base ≤ w.heap.size):
  ∃ v' w',(Builtin.append_ #[37,3] ty #[v,.int .i64 113]).run Tryz.prog w=.ok v' w'∧w'.ownsRow base 5 1 v' (n + 113) (xs ++ List.replicate 113 (.int .u8 0))∧w.grownBy w' v.ownBlock:=by
 obtain ⟨i,hi,hz,hsz,hby⟩:=info_parts (show (Tryz.prog.info? 5).map (fun i=>(i.zero,i.size,i.bytes))=some (some (.int .u8 0),1,1) by kernel_rfl)
 have hlen:(xs ++ List.replicate 113 (Value.int .u8 0)).length=(n + 113) * 1:=by rw [List.length_append,hown.1,List.length_replicate,Nat.add_mul]
 have h1:∀ u ∈ List.replicate 113 (Value.int .u8 0),u.oneCell'=true:=fun u hu=>by rw [List.eq_of_mem_replicate hu];rfl
 have hz113:=zw0
 have hzl:(List.replicate 113 (Value.int .u8 0)).length=113:=List.length_replicate
 generalize List.replicate 113 (Value.int .u8 0)=zs at *
 rcases hown.2 with ⟨rfl,rfl⟩ | ⟨g,cap,cur,rfl,hbg,hg,hnc,hcm,hcs,htake⟩
 ·exact absurd hn (Nat.lt_irrefl _)
 ·by_cases hroom:n + 113 ≤ cap
  ·have hst:=run_storeCells_at Tryz.prog g n 5 (zs) 0 cur w hg (by omega) h1
   simp only [Nat.add_zero,hzl] at hst
   refine ⟨.slice (some ⟨g,0,none⟩) (n + 113) cap,w.setRow g (cur.toList.take n ++ zs ++ cur.toList.drop (n + 113)).toArray,?_,⟨hlen,.inr ⟨g,cap,_,rfl,hbg,setRow_heap w g cur _ 5 _ hg,hroom,hcm,?_,?_⟩⟩,⟨rfl,rfl,rfl,by simp,fun k hk hne=>setRow_other w g k _ (fun e=>hne (by simp [Value.ownBlock,e]))⟩⟩
   ·simp [Builtin.append_,run_underlying Tryz.underlying37,run_underlying Tryz.underlying3,sizeOf,typeInfo,zeroValue,hi,hz,hsz,hby,asInt,asIntOf,IntKind.wrap_i64,hroom,hz113,Addr.add_lit,hst]
   ·simp only [List.size_toArray,List.length_append,List.length_take,List.length_drop,Array.length_toList,hzl]
    omega
   ·rw [Nat.mul_one] at htake
    show ((cur.toList.take n ++ zs ++ cur.toList.drop (n + 113)).take ((n + 113) * 1))=_
    rw [htake,← hlen]
    exact List.take_left
  ·have hold:=run_firstCells_some (P:=Tryz.prog) w.drew i.size n ⟨g,0,none⟩ n cap xs (by rw [hsz];exact hown.1) (fun j u hu=>by have:=hown.cells (g:=g) rfl j u hu;exact this)
   have hr:=Lib.run_append_grow_zeros (P:=Tryz.prog) w 37 3 ty 5 i (.int .u8 0) .i64 .i64 Tryz.underlying37 Tryz.underlying3 hi hz (some ⟨g,0,none⟩) n cap xs hold 113 (by decide) (by rw [hsz];decide) (by omega) (by omega) (by rw [hby];decide) (growslice_fits (by omega) (by rw [hby];omega))
   have hge:=grownCap_ge w (n + 113) cap 5
   have hcm2:grownCap w (n + 113) cap 5 ≤ maxLen:=grownCap_le_maxLen w (n + 113) cap 5 (by simp only [maxLen];omega)
   rw [hz113] at hr
   refine ⟨_,_,hr,⟨hlen,.inr ⟨w.heap.size,_,_,rfl,hbase,heap_alloc_new w.drew _,hge,hcm2,?_,?_⟩⟩,⟨rfl,rfl,rfl,by simp,fun k hk _=>heap_alloc_old w.drew _ hk⟩⟩
   ·have hx:=hown.1
    have hzc:(Value.int .u8 0).cells.size=1:=rfl
    simp only [Array.size_append,List.size_toArray,size_zeroCells,hzc,hzl,hx]
    omega
   ·simp only [Array.toList_append,List.append_assoc]
    rw [← List.append_assoc,← hlen]
    exact List.take_left
theorem zgk {w:World} {ops:Array Oper} {rest:List Oper} {o:Oper} {a:Act} {Q:Exit→Act→World→Prop} (hw:Region.wanted o (yielded ops a.tmps)=true) (s x:Operand)
  (ho:o.op=.call { callee:=.builtin .append,args:=#[s,x],argTypes:=#[37,3] }) (vs vx:Value) (hs:a.eval s=vs) (hx:a.eval x=vx)
  (v':Value) (w':World) (hr:(Builtin.append_ #[37,3] o.type #[vs,vx]).run Tryz.prog w=.ok v' w') (h:wpList Tryz.prog ops Q rest (a.put o.dst v') w'):wpList Tryz.prog ops Q (o :: rest) a w:=
 wpList_step fun K hK=>by
  rw [if_pos hw]
  exact Lib.wp_append_run w s x 37 3 ho vs vx hs hx v' w' hr (hK _ _ h)
end
section
open Sx (Ab DW Turns Did Foot z128)
def fl (m:Nat):List Nat:=ze6 m ++ List.replicate 113 0
theorem zq3 (m:Nat):Small (fl m):=
 Small.append (zjx (by decide) (by rw [zbr];decide) (zc1 _ _)) fun x hx=>by rw [List.eq_of_mem_replicate hx];decide
def tstep (v:Int) (j x:Nat):Int:=bits .or .i64 v (wrap64 ((x:Int) * 2 ^ (8 * j)))
def tnum (l:List Nat):Nat→Int
 | 0=>0
 | j + 1=>tstep (tnum l j) j (l.getD j 0)
def zd9 (l:List Nat):Int:=if getE l ≠ 0 then 0 else if getK l ≠ 255 then 0 else if (getB l).length ≠ 8 then 0 else
 if tnum (getB l) 8 < 1 then 0 else if l=fl (tnum (getB l) 8).toNat then tnum (getB l) 8 else 0
def turnA (A:Ab) (i:Int):Int:=match A.see i with
 | none=>0
 | some l=>zd9 l
theorem zq4 {l:List Nat} (h:Small l):Small (getB l):=by
 unfold getB
 split
 ·exact (h.drop 3).take _
 ·exact fun x hx=>by cases hx
set_option maxHeartbeats 2000000 in
theorem zen {w:World} {F:Foot} {dv:Value} {A:Ab} (H:DW w F dv A) (hA:Ab.Sm A) {i:Int} (hi:0 ≤ i∧i < 512):Calls Tryz.prog 176 #[dv,.int .i64 i] w (Did F w dv A (.int .i64 (turnA A i))):=by
 cases hs:A.see i with
 | none=>
  have R:=zadv (zhw H hi hs)
  have e:turnA A i=0:=by unfold turnA;rw [hs]
  rw [e]
  clear H hs e
  go_enter Tryz.func176,Tryz.ntmps176
  go_wp2_with (go_at_call 246;refine R.out.mono ?_;rintro _ w1 ⟨F',rfl,h1,h2,h3⟩)
  go_ret
  exact ⟨rfl,F',h1,h2,h3⟩
 | some l=>
  have R:=zadv (zhv H hi hs)
  have hsm:=zst hA hs
  have e:turnA A i=zd9 l:=by unfold turnA;rw [hs]
  rw [e]
  clear H hs e
  generalize hE:getE l=er
  generalize hK:getK l=kd
  generalize hM:getM l=mm
  generalize hB:getB l=bd
  have HE:=zadv hE
  have HK:=zadv hK
  have HM:=zadv hM
  have HB:=zadv hB
  by_cases he:er=0
  ·by_cases hk:kd=255
   ·by_cases hb8:bd.length=8
    ·subst he
     subst hk
     clear hE hK hM hB
     go_enter Tryz.func176,Tryz.ntmps176
     go_wp2_with (first
      | (go_at_call 246;refine R.out.mono ?_;rintro _ w1 ⟨F',b,o,c,rfl,h1,h2,h3,h4,h5,h6⟩;have HD:=zadv (zadx h1 (zadx h2 h3));have h5':=zadv h5;clear h1 h2 h3 h4 h5 h6)
      | (go_at_call 247;refine (zhl h5'.out hsm (by decide)).mono ?_;rintro _ w2 ⟨ao2,cap2,rfl,hb2,hown2⟩;rw [HE.out,HK.out,HM.out,HB.out,hb8];rw [HB.out,hb8] at hown2))
     have hb3:Below w1.heap.size w1 (w2.alloc (.cells #[.int .i64 255,.slice ao2 8 cap2] 166)):=hb2.alloc hb2.size _
     have hbd:=(Sl.own (zbe hown2 (zadw _) ((Below.refl w2.heap.size w2).alloc (zadw _) (.cells #[.int .i64 255,.slice ao2 8 cap2] 166))))
     have hsb:Small bd:=by rw [← HB.out];exact zq4 hsm
     generalize (w2.alloc (.cells #[.int .i64 255,.slice ao2 8 cap2] 166))=w3 at *
     go_loopw [9,42] (fun v9 v42 wr=>∃ j:Nat,j ≤ 8∧v42=.int .i64 j∧v9=.int .i64 (tnum bd j)∧wr=w3) (fun _ v42 _=>8 - (intOf v42).toNat)
     case atStart=>exact ⟨0,by omega,rfl,rfl,rfl⟩
     case round=>
      obtain ⟨j,hj,rfl,rfl,rfl⟩:=hrel
      by_cases hlt:j < 8
      ·have hj8:(j:Int) < 8:=by omega
       obtain ⟨bb,bo,rfl,hbw,hc⟩:=hbd.at (by omega)
       obtain ⟨x,hjx⟩:∃ x,bd[j]?=some x:=⟨_,zady (by omega)⟩
       have hx:=hc j _ (by rw [zd6,hjx];rfl)
       have hx2:=hsb.at hjx
       go_wp2
       go_roundw
       case rel=>exact ⟨j + 1,by omega,rfl,by rw [tnum,List.getD_eq_getElem?_getD,hjx];rfl,trivial⟩
       case measure=>simp [intOf];omega
      ·obtain rfl:j=8:=by omega
       have htl:tnum bd 8 ≤ 9223372036854775807:=by
        show bits .or .i64 (tnum bd 7) _ ≤ _
        exact bits_hi_i64 _ _ _
       have hL:zd9 l=if tnum bd 8 < 1 then 0 else if l=fl (tnum bd 8).toNat then tnum bd 8 else 0:=by
        unfold zd9
        rw [HE.out,HK.out,HB.out,hb8]
        simp
       generalize tnum bd 8=t at *
       have HL:=zadv hL
       clear hL hown2 hbd
       by_cases h1:t < 1
       ·have e:zd9 l=0:=HL.out.trans (if_pos h1)
        go_wp2
        go_ret
        obtain ⟨q1,q2,q3⟩:=HD.out
        obtain ⟨r1,r2,r3⟩:=zdj q1 q2 q3 hb3
        exact ⟨by rw [e];rfl,F',r1,r2,r3⟩
       ·have e:=zadv (HL.out.trans (if_neg h1))
        obtain ⟨m,rfl⟩:∃ m:Nat,t=m:=⟨t.toNat,by omega⟩
        rw [Int.toNat_natCast] at e
        cases hq:decide (l=fl m)
        all_goals go_wp2_with (first
         | (go_at_call 180;(refine (zo1 m (by omega) wr).mono ?_;rintro _ w4 ⟨ao4,cap4,rfl,hb4,hown4⟩;obtain ⟨v5,w5,hr5,hown5,hg5⟩:=zj2 37 hown4 (by decide) (by decide) hb4.size;obtain ⟨ao5,cap5,rfl⟩:=za8 hown5;have hb5:=hb4.grown hg5 (by have:=hb4.size;omega) (zbb hown4);have hsl5:=zadv (show Sl w5 ao5 128 cap5 (bts (fl m)) by unfold fl;rw [zbq];exact Sl.own hown5);have hbt:=hb3.trans (hb5.mono hb3.size);have h55:=zadv (h5'.out.keep (zadw _) hbt);have EQ:=zk2 h55.out hsl5.out hsm (zq3 m);rw [hq] at EQ))
         | (at_builtin;(refine zgk (by first | rfl | exact rfl | decide | simp [Region.wanted,yielded]) _ _ rfl _ _ rfl rfl _ _ hr5 ?_))
         | (go_at_call 248;refine EQ.mono ?_;rintro _ _ ⟨rfl,g,rfl⟩))
        all_goals go_ret
        all_goals obtain ⟨q1,q2,q3⟩:=HD.out
        all_goals obtain ⟨r1,r2,r3⟩:=zdj q1 q2 q3 (hbt.trans (g.below.mono hbt.size))
        ·exact ⟨by rw [e.out,if_neg (of_decide_eq_false hq)];rfl,F',r1,r2,r3⟩
        ·exact ⟨by rw [e.out,if_pos (of_decide_eq_true hq)];rfl,F',r1,r2,r3⟩
    ·subst he
     subst hk
     clear hE hK hM hB
     have e:zd9 l=0:=by
      unfold zd9
      rw [HE.out,HK.out,HB.out]
      simp [hb8]
     have hb8':¬ ((bd.length:Int)=8):=by omega
     go_enter Tryz.func176,Tryz.ntmps176
     go_wp2_with (first
      | (go_at_call 246;refine R.out.mono ?_;rintro _ w1 ⟨F',b,o,c,rfl,h1,h2,h3,h4,h5,h6⟩;have HD:=zadv (zadx h1 (zadx h2 h3));have h5':=zadv h5;clear h1 h2 h3 h4 h5 h6)
      | (go_at_call 247;refine (zhl h5'.out hsm (by decide)).mono ?_;rintro _ w2 ⟨ao2,cap2,rfl,hb2,hown2⟩;rw [HE.out,HK.out,HM.out,HB.out];have hb3:Below w1.heap.size w1 (w2.alloc (.cells #[.int .i64 255,.slice ao2 bd.length cap2] 166)):=hb2.alloc hb2.size _;clear hown2))
     go_ret
     obtain ⟨q1,q2,q3⟩:=HD.out
     obtain ⟨r1,r2,r3⟩:=zdj q1 q2 q3 hb3
     exact ⟨by rw [e];rfl,F',r1,r2,r3⟩
   ·subst he
    clear hE hK hM hB
    have e:zd9 l=0:=by
     unfold zd9
     rw [HE.out,HK.out]
     simp [hk]
    go_enter Tryz.func176,Tryz.ntmps176
    go_wp2_with (first
     | (go_at_call 246;refine R.out.mono ?_;rintro _ w1 ⟨F',b,o,c,rfl,h1,h2,h3,h4,h5,h6⟩;have HD:=zadv (zadx h1 (zadx h2 h3));have h5':=zadv h5;clear h1 h2 h3 h4 h5 h6)
     | (go_at_call 247;refine (zhl h5'.out hsm (by decide)).mono ?_;rintro _ w2 ⟨ao2,cap2,rfl,hb2,hown2⟩;rw [HE.out,HK.out,HM.out,HB.out];have hb3:Below w1.heap.size w1 (w2.alloc (.cells #[.int .i64 kd,.slice ao2 bd.length cap2] 166)):=hb2.alloc hb2.size _;clear hown2))
    go_ret
    obtain ⟨q1,q2,q3⟩:=HD.out
    obtain ⟨r1,r2,r3⟩:=zdj q1 q2 q3 hb3
    exact ⟨by rw [e];rfl,F',r1,r2,r3⟩
  ·clear hE hK hM hB
   have e:zd9 l=0:=by
    unfold zd9
    rw [HE.out]
    exact if_pos he
   go_enter Tryz.func176,Tryz.ntmps176
   go_wp2_with (first
    | (go_at_call 246;refine R.out.mono ?_;rintro _ w1 ⟨F',b,o,c,rfl,h1,h2,h3,h4,h5,h6⟩;have HD:=zadv (zadx h1 (zadx h2 h3));have h5':=zadv h5;clear h1 h2 h3 h4 h5 h6)
    | (go_at_call 247;refine (zhl h5'.out hsm (by decide)).mono ?_;rintro _ w2 ⟨ao2,cap2,rfl,hb2,hown2⟩;rw [HE.out,HK.out,HM.out,HB.out];have hb3:Below w1.heap.size w1 (w2.alloc (.cells #[.int .i64 kd,.slice ao2 bd.length cap2] 166)):=hb2.alloc hb2.size _;clear hown2))
   go_ret
   obtain ⟨q1,q2,q3⟩:=HD.out
   obtain ⟨r1,r2,r3⟩:=zdj q1 q2 q3 hb3
   exact ⟨by rw [e];rfl,F',r1,r2,r3⟩
end
end Go.Proofs.YthjgiamfaijoeaaGreatDoor
