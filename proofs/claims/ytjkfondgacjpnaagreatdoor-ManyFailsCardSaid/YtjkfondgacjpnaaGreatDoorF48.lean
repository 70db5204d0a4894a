/- What is proved: parts of the walk and of the plain law, 3 texts in one. No condition but those each law names. -/
import Derived.Test.YtjkfondgacjpnaaGreatDoorF47
namespace Go.Proofs.YtjkfondgacjpnaaGreatDoor
open Go.RowKit
open Sx (Ab DW Turns Did Foot MapIs)
set_option maxRecDepth 100000
attribute [local go_sem ↓] rowOf_cell ebm5k
attribute [local go_sem] rowOf_alloc soft_alloc rowOf_drew soft_drew rowOf_setRow soft_setRow rowOf_setCell soft_setCell frozen_of_soft rowOf_map soft_map Sx.run_mk Ext.row Ext.soft_
set_option maxHeartbeats 1000000 in
theorem Again_ok {w:World} {S:MS} (h:MW w S) (hnb:S.nb=S.X.nb) (hF:Forms S.u) {a:Nat} {n:Nd} {D:Dm} (is:Live S a n D) {i:Int} {q:En} (hg:getA D.M i=some q) (hr:q.s.d.r=1) (hi:q.s.d.i=i) (he:errD q.s.d=0) {b:Nat} (hq:q.s.d.q=b) (hab:a ≠ b) (ha:1 ≤ a∧(a:Int) ≤ S.X.nodes) (hb:1 ≤ b∧(b:Int) ≤ S.X.nodes) (hlen:S.X.L.length < 1000):
  Calls Tryz.prog 16 #[.pointer (some ⟨S.wb,0,none⟩),.int .i64 a,.int .i64 i] w fun e w'=>e=.returned (.int .i64 0)∧∃ X',Goes w S w' { S with X:=X' }∧X'.says=S.X.says ++ [((a:Int),(b:Int),putLM (proposeM q.s.d))]∧X'.nodes=S.X.nodes∧X'.nb=S.X.nb:=by
 have rw0:=rowOf_of h.wrAt
 have lk:=h.look a
 rw [MS.at_some is.at_] at lk
 unfold ptA at lk
 have OF:=Lib.hid (is.off h)
 have FI:=first_any h is i
 rw [hg] at FI
 have fb:firstB (some q)=true:=by show (q.s.d.r == 1)=true;rw [hr];rfl
 rw [fb] at FI
 replace FI:Calls Tryz.prog 35 #[.pointer (some ⟨n.b,0,none⟩),.int .i64 i] w fun e w'=>e=.returned (.tuple #[.agg q.s.d.cells,.bool true])∧Below w.heap.size w w':=FI
 have FI:=Lib.hid FI
 have H:=Lib.hid h
 have hid:=propose_idE he
 generalize hd:q.s.d=d at *
 have hpm:Msg.cells ⟨1,i,0,d.p,d.g,d.h⟩=(proposeM d).cells:=by rw [← hi];rfl
 have HM:=Lib.hid hpm
 have HC:=Lib.hid (And.intro hnb (And.intro hF (And.intro hid (And.intro hab (And.intro ha (And.intro hb hlen))))))
 have HQ:=Lib.hid hq
 clear h is hg hr hi he hab ha hb hlen hnb hF hid fb hd hpm hq
 go_enter Tryz.func16,Tryz.ntmps16
 go_upto_region 7 with (first
  | (go_at_call 25;refine OF.out.mono ?_;rintro _ V ⟨rfl,rfl⟩)
  | (go_at_call 35;refine FI.out.mono ?_;rintro _ U ⟨rfl,hb⟩;have G:=Lib.hid (H.out.below hb);clear hb OF FI rw0 lk))
 have B3:=Bx.made U Dl.zero.cells d.cells 83
 generalize (U.alloc (.cells Dl.zero.cells 83)).setRow U.heap.size d.cells=V3 at B3 ⊢
 have rd:=B3.rowOf
 have g3:=G.out.trans (G.out.mw.below B3.below)
 obtain ⟨c1,c2,c3,c4,c5,c6,c7⟩:=HC.out
 have SY:=Lib.hid (say_any (m:=proposeM d) (l:=putLM (proposeM d)) (a:=a) (b:=b) g3.mw c1 (fun W hW=>MPut_legs (c2.keep (Nat.le_refl _) hW) (.inl rfl) c3.1 c3.2.1 c3.2.2.1 c3.2.2.2) (Nat.le_trans (putLM_len _) (by decide)) c7 (eq_true (by omega)) (eq_true c5.2) (eq_true (by omega)) (eq_true c6.2) (by simp;omega))
 rw [← HQ.out] at SY
 have hpm:=HM.out
 have G3:=Lib.hid g3
 clear g3 B3 c1 c2 c3 c4 c5 c6 c7
 go_wp2_with (go_at_call 27;refine SY.out.mono ?_;rintro _ Z ⟨rfl,X',g5,s1,s2,s3⟩;have G5:=Lib.hid (G3.out.trans g5);have SS:=Lib.hid (And.intro s1 (And.intro s2 s3));clear g5 s1 s2 s3)
 go_ret
 have ss:=SS.out
 rw [HQ.out] at ss
 exact ⟨rfl,X',G5.out,ss⟩
theorem Has.off {S:MS} {j:Nat} {n:Nd} {D:Dm} {k:Bool} (h:Has S j n D k) {w:World} (m:MW w S):Calls Tryz.prog 25 #[ptA n.b] w fun e w'=>e=.returned (.bool k)∧w'=w:=off_any (h.row m) (rowOf_of (h.dae m).row)
set_option maxHeartbeats 2000000 in
theorem hear_prop2 {w:World} {S:MS} (h:MW w S) (hnb:S.nb=S.X.nb) (hF:Forms S.u) {f b:Nat} {n:Nd} {D:Dm} (is:Live S b n D) {ao:Option Addr} {nn c:Nat} {l:List Nat} (hs:Sl w ao nn c (bts l)) (hr:Rs (l,0)) {m:Msg} (hm:mgetM l=(0,m)) (k0:m.k=1) {free:Int} {R:List Nat→MS→Prop}
  (hH:∀ W,Below w.heap.size w W→Calls Tryz.prog 54 #[.pointer (some ⟨D.xb,0,none⟩),.int .i64 f,.slice ao nn c,.agg S.now.cells,.int .i64 free] W fun e w'=>∃ L S' D' kd ao' c',e=.returned (.slice ao' L.length c')∧Sl w' ao' L.length c' (bts L)∧L.length ≤ 400∧Has S' b n D' kd∧S'.wb=S.wb∧S'.nb=S.nb∧S'.X=S.X∧R L S'∧Goes w S w' S'∧Comp W w' S.all S'.all)
  (hn:S.X.L.length < 1000) (hfb:f ≠ b) (hf:1 ≤ f∧(f:Int) ≤ S.X.nodes) (hb:1 ≤ b∧(b:Int) ≤ S.X.nodes):
  Calls Tryz.prog 29 #[.pointer (some ⟨S.wb,0,none⟩),.pointer (some ⟨n.b,0,none⟩),.agg (ltV f b ao nn c),.int .i64 free] w fun e w'=>e=.returned (.tuple #[])∧∃ L S' D' kd,R L S'∧Has S' b n D' kd∧(kd=true→Goes w S w' S')∧(kd=false→∃ X',Goes w S w' { S' with X:=X' }∧X'.says=S.X.says ++ [((b:Int),(f:Int),L)]∧X'.nodes=S.X.nodes∧X'.nb=S.X.nb):=by
 have H:=Lib.hid h
 have IS:=Lib.hid is
 have HS:=Lib.hid hs
 have HH:=Lib.hid hH
 have HF:=Lib.hid hF
 have HR:=Lib.hid (And.intro hr (And.intro hm (And.intro k0 (And.intro hnb (And.intro hn (And.intro hfb (And.intro hf hb)))))))
 clear h is hs hH hr hm hn hfb hf hb hF k0 hnb
 unfold ltV
 go_enter Tryz.func29,Tryz.ntmps29
 go_upto_region 1 with (fail)
 have bx:=Bx.new w (#[.int .i64 f,.int .i64 b,.slice ao nn c]) 76;generalize w.alloc (.cells (#[.int .i64 f,.int .i64 b,.slice ao nn c]) 76)=W at bx ⊢;have rx:=bx.rowOf;have sx:=bx.soft;have BX:=Lib.hid bx;clear bx
 have G:=H.out.below BX.out.below
 have MG:=Lib.hid (MGet_any (HF.out.keep (Nat.le_refl _) G.mw.low) (HS.out.keep (Nat.le_refl _) BX.out.below) HR.out.1)
 rw [HR.out.2.1] at MG
 unfold RetMG at MG
 clear G
 dsimp only at MG
 go_wp2_with (go_at_call 53;refine MG.out.mono ?_;rintro _ V ⟨rfl,hb⟩;have bx:=BX.out.step hb;clear BX rx sx MG hb;have rx:=bx.rowOf;have BX:=Lib.hid bx;clear bx;have km:=HR.out.2.2.1)
 have B2:=Bx.made V Msg.zero.cells m.cells 67
 have bx:=BX.out.step B2.below
 generalize (V.alloc (.cells Msg.zero.cells 67)).setRow V.heap.size m.cells=V2 at B2 bx ⊢
 generalize V.heap.size=mb at *
 have G:=H.out.below bx.below
 have rn:=IS.out.row G.mw
 have rw0:=rowOf_of G.mw.wrAt
 clear rx BX B2
 have rx:=bx.rowOf
 have C5:=Lib.hid (HH.out V2.drew bx.below.drew)
 have BX:=Lib.hid bx
 clear bx G HH
 (refine wp_region_still_tail 13 (by kernel_rfl) (by kernel_rfl) ?_;simp only [List.take_succ_cons,List.take_zero,List.drop_succ_cons,List.drop_zero];(iterate 13 still_step);refine wpStill_nil ?_)
 go_wp2_with (go_at_call 54;refine C5.out.mono ?_;rintro _ Z ⟨L,S',D',kd,ao',c',rfl,hs',hl,e1,w1,w2,w3,rd,g,cp⟩)
 have lt0:w.heap.size < V2.drew.heap.size:=(Array.getElem?_eq_some_iff.1 BX.out.row).1
 have hx:Z.heap[w.heap.size]?=some (.cells #[.int .i64 f,.int .i64 b,.slice ao nn c] 76):=(cp.keep _ lt0 fun q=>Nat.lt_irrefl _ (H.out.all_lt q)).1.trans BX.out.row
 have OF:=Lib.hid (e1.off g.mw)
 have rw1:=rowOf_of g.mw.wrAt
 rw [w1,w2,HR.out.2.2.2.1] at rw1
 have G3:=Lib.hid g
 have KD:=Lib.hid (And.intro e1 (And.intro rd (And.intro w3 (And.intro hl hs'))))
 clear rn rw0 rx BX lt0 C5 g cp e1 rd hs' hl w1 w2 w3
 have rx:=rowOf_of hx
 clear hx
 cases kd with
 | true=>
  go_wp2_with (go_at_call 25;refine OF.out.mono ?_;rintro _ Z2 ⟨rfl,rfl⟩)
  refine bodyPost_ret (results_none rfl _ _ _) rfl ?_
  exact ⟨rfl,L,S',D',true,KD.out.2.1,KD.out.1,fun _=>G3.out,fun e=>(by cases e)⟩
 | false=>
  obtain ⟨h1,h2,h3,h4,h5,h6,h7,h8⟩:=HR.out
  have ex:=KD.out.2.2.1
  have SD:=Lib.hid (Send_any (w:=Z.drew) (X:=S.X) (by rw [← ex];exact (G3.out.mw.below (Below.refl _ Z).drew).mw.netAt) (eq_false (by omega)) (a:=b) (b:=f) (eq_true (by omega)) (eq_true h8.2) (eq_true (by omega)) (eq_true h7.2) (by simp;omega) (KD.out.2.2.2.2.keep (Nat.le_refl _) (Below.refl _ Z).drew) (eq_true (by have:=KD.out.2.2.2.1;omega)))
  clear h1 h2 h3 h4 h5 h6 h7 h8
  have EX:=Lib.hid ex
  clear ex
  go_wp2_with (go_at_call 25;refine OF.out.mono ?_;rintro _ Z2 ⟨rfl,rfl⟩)
  (refine wp_region_still_tail 9 (by kernel_rfl) (by kernel_rfl) ?_;simp only [List.take_succ_cons,List.take_zero,List.drop_succ_cons,List.drop_zero];(iterate 9 still_step);refine wpStill_nil ?_)
  go_wp2_with (go_at_call 50;refine SD.out.mono ?_;rintro _ U ⟨rfl,X',t,e⟩;have g5:=G3.out.trans ((G3.out.mw.below (Below.refl _ _).drew).trans ((G3.out.mw.below (Below.refl _ _).drew).mw.net (by rw [EX.out];exact t)));have G5:=Lib.hid g5;have T:=Lib.hid t;clear g5 t)
  refine bodyPost_ret (results_none rfl _ _ _) rfl ?_
  exact ⟨rfl,L,S',D',false,KD.out.2.1,KD.out.1,fun e=>(by cases e),fun _=>⟨X',G5.out,e,T.out.nodes,T.out.nb⟩⟩
end Go.Proofs.YtjkfondgacjpnaaGreatDoor

namespace Go.Proofs.YtjkfondgacjpnaaGreatDoor
open Go.RowKit
open Sx (Ab DW Turns Did Foot MapIs)
set_option maxRecDepth 100000
section
attribute [local go_sem ↓] rowOf_cell
attribute [local go_sem] rowOf_alloc soft_alloc rowOf_drew soft_drew rowOf_setRow soft_setRow rowOf_setCell soft_setCell frozen_of_soft rowOf_map soft_map Sx.run_mk Ext.row Ext.soft_
attribute [local go_sem ↓] eeql39 eeql26
attribute [local go_sem] is_h is_l
attribute [local go_sem] msgR_k msgR_i msgR_c
set_option maxHeartbeats 2000000 in
theorem hear_known {w:World} {S:MS} (h:MW w S) (hF:Forms S.u) {f b:Nat} {n:Nd} {D:Dm} (is:Live S b n D) {tb:Nat} {tl:List (Int × Value)} (ht:S.tm b=some (tb,tl)) (hv:n.tv=.map (some tb)) {ao:Option Addr} {nn c:Nat} {l:List Nat} (hs:Sl w ao nn c (bts l)) (hr:Rs (l,0)) {i:Int} {x y:Int} {cd:Int} (hw:(getA tl i).getD (wordV 0 0)=wordV x y) (hkn:(getA tl i).isSome=true) {q:En} (hq:getA D.M i=some q) (h1:(q.s.d.r == 1)=true) (hp:q.s.d.q=f) (hm:mgetM l=(0,msgR i cd)) {free:Int}:
  Calls Tryz.prog 29 #[.pointer (some ⟨S.wb,0,none⟩),.pointer (some ⟨n.b,0,none⟩),.agg (ltV f b ao nn c),.int .i64 free] w fun e w'=>e=.returned (.tuple #[])∧Goes w S w' S:=by
 have H:=Lib.hid h
 have IS:=Lib.hid is
 have HS:=Lib.hid hs
 have HF:=Lib.hid hF
 have HT:=Lib.hid (And.intro ht hv)
 have HR:=Lib.hid (And.intro hr hm)
 have HQ:=Lib.hid (And.intro hq (And.intro h1 hp))
 clear h is hs hr hm hF ht hv hq h1 hp
 unfold ltV
 go_enter Tryz.func29,Tryz.ntmps29
 go_upto_region 1 with (fail)
 have bx:=Bx.new w (#[.int .i64 f,.int .i64 b,.slice ao nn c]) 76;generalize w.alloc (.cells (#[.int .i64 f,.int .i64 b,.slice ao nn c]) 76)=W at bx ⊢;have rx:=bx.rowOf;have sx:=bx.soft;have BX:=Lib.hid bx;clear bx
 have G:=H.out.below BX.out.below
 have MG:=Lib.hid (MGet_any (HF.out.keep (Nat.le_refl _) G.mw.low) (HS.out.keep (Nat.le_refl _) BX.out.below) HR.out.1)
 rw [HR.out.2] at MG
 unfold RetMG at MG
 clear G
 dsimp only at MG
 go_upto_region 6 with (go_at_call 53;refine MG.out.mono ?_;rintro _ V ⟨rfl,hb⟩;have bx:=BX.out.step hb;clear BX rx sx MG hb;have rx:=bx.rowOf;have BX:=Lib.hid bx;clear bx)
 generalize hM:msgR i cd=m at *
 have B2:=Bx.made V Msg.zero.cells m.cells 67
 have bx:=BX.out.step B2.below
 generalize (V.alloc (.cells Msg.zero.cells 67)).setRow V.heap.size m.cells=V2 at B2 bx ⊢
 have rm:=B2.rowOf
 have by_:=B2.row
 generalize V.heap.size=mb at rm by_ ⊢
 have G:=H.out.below bx.below
 have FI:=Lib.hid (first_any G.mw IS.out i)
 rw [HQ.out.1] at FI
 have fb:firstB (some q)=true:=HQ.out.2.1
 rw [fb] at FI
 replace FI:Hid (Calls Tryz.prog 35 #[.pointer (some ⟨n.b,0,none⟩),.int .i64 i] V2 fun e w'=>e=.returned (.tuple #[.agg q.s.d.cells,.bool true])∧Below V2.heap.size V2 w'):=FI
 have mi:m.i=i:=by rw [← hM];rfl
 have BY:=Lib.hid by_
 clear fb G rx BX B2 by_
 have rx:=bx.rowOf
 have BX:=Lib.hid bx
 clear bx
 have pq:(q.s.d.q != (f:Int))=false:=by rw [HQ.out.2.2];simp
 have HM:=Lib.hid hM
 clear hM
 go_upto_region 7 with (go_at_call 35;refine FI.out.mono ?_;rintro _ U ⟨rfl,hb⟩;have bx:=BX.out.step hb;have by_:=(hb.block _ (Array.getElem?_eq_some_iff.1 BY.out).1).trans BY.out;clear BX BY rx rm FI hb;have BX:=Lib.hid bx;have BY:=Lib.hid by_;clear bx by_)
 have B3:=Bx.made U Dl.zero.cells q.s.d.cells 83
 have bx:=BX.out.step B3.below
 have by_:=(B3.below.block _ (Array.getElem?_eq_some_iff.1 BY.out).1).trans BY.out
 generalize (U.alloc (.cells Dl.zero.cells 83)).setRow U.heap.size q.s.d.cells=V3 at B3 bx by_ ⊢
 have rd:=B3.rowOf
 have bd:=B3.row
 have l3:=(Array.getElem?_eq_some_iff.1 bd).1
 generalize U.heap.size=db at rd bd l3 ⊢
 clear B3 BX BY
 have rx:=bx.rowOf
 have rm:=rowOf_of by_
 have G:=H.out.below bx.below
 have rn:=IS.out.row G.mw
 rw [HT.out.2] at rn
 have lk:=told_look2 (G.mw.tmAt HT.out.1) i
 dsimp only at lk
 have l1:=(Array.getElem?_eq_some_iff.1 bx.row).1
 have l2:=(Array.getElem?_eq_some_iff.1 by_).1
 have l4:=(Array.getElem?_eq_some_iff.1 (G.mw.ndAt IS.out.nd).row).1
 have BX:=Lib.hid bx
 have GG:=Lib.hid G
 have LL:=Lib.hid (And.intro l1 (And.intro l2 (And.intro l3 l4)))
 clear bx G by_ bd l1 l2 l3 l4
 generalize q.s.d=d at *
 rw [hw] at lk
 unfold wordV at lk
 go_upto_region 8 with (fail)
 clear rx
 have lkA:=told_look2 (((GG.out.mw.tmAt HT.out.1).same ((MapKept.heap_alloc V3 (.cells #[.int .i64 0,.int .i64 0] 94)).2 _ (GG.out.mw.tmAt HT.out.1).lt)):IMap (V3.alloc (.cells #[.int .i64 0,.int .i64 0] 94)).drew tb tl) i
 have lkB:=told_look2 (((GG.out.mw.tmAt HT.out.1).same rfl):IMap V3.drew tb tl) i
 dsimp only at lkA lkB
 rw [hw] at lkA lkB
 unfold wordV at lkA lkB
 have n1:(mb=V3.heap.size)=False:=eq_false (Nat.ne_of_lt LL.out.2.1)
 have n2:(n.b=V3.heap.size)=False:=eq_false (Nat.ne_of_lt LL.out.2.2.2)
 have n3:(db=V3.heap.size)=False:=eq_false (Nat.ne_of_lt LL.out.2.2.1)
 rw [hkn] at lk lkA lkB
 clear lk
 go_region
 all_goals
  have b4:=(below1 V3 (.cells #[.int .i64 x,.int .i64 y] 94)).drew
  have rm4:=(rowOf_same (b4.block _ LL.out.2.1)).trans rm
  have rd4:=(rowOf_same (b4.block _ LL.out.2.2.1)).trans rd
  have rn4:=(rowOf_same (b4.block _ LL.out.2.2.2)).trans rn
  have G4:=GG.out.trans (GG.out.mw.below b4)
  clear b4 rm rd rn lkA lkB n1 n2 n3 GG LL
  generalize (V3.alloc (.cells #[.int .i64 x,.int .i64 y] 94)).drew=V4 at rm4 rd4 rn4 G4 ⊢
  have G5:=Lib.hid G4
  clear G4 BX
  have hm2:=HM.out
  clear HM
  subst hm2
  go_wp2
  go_end0
  exact ⟨rfl,G5.out⟩
end
section
variable {c:Wd} {w w':World} {S S':MS} {xs:Nat→Nod} {ls ls':List (Int × Int × List Nat)} {now now':Cl}
theorem W_again (h:WX c w xs ls now) {a:Nat} (ha:1 ≤ a∧a ≤ c.N) (hf:(xs a).fell=none) {i:Int} {s:Sw} (hs:getA (xs a).B i=some s) (hr:s.d.r=1) {b:Nat} (hq:s.d.q=b) (hb:1 ≤ b∧b ≤ c.N) (hab:a ≠ b) (hlen:ls.length < 1000):
  Calls Tryz.prog 16 #[.pointer (some ⟨c.wb,0,none⟩),.int .i64 a,.int .i64 i] w fun e w'=>e=.returned (.int .i64 0)∧WX c w' xs (ls ++ [((a:Int),(b:Int),putLM (proposeM s.d))]) now:=by
 obtain ⟨S,h⟩:=h
 obtain ⟨n,D,tb,q,at1⟩:=h.at_ ha
 have fi:=(Fine.nil.run q.run).at hs
 rw [← q.book] at hs
 obtain ⟨eb,em,hg⟩:=bkOf_some hs
 rw [← h.wb]
 refine (Again_ok h.mw h.nbx h.f (q.live hf).1 hg hr fi.1 (errD_ok fi.2.1) hq hab (by rw [h.nn];omega) (by rw [h.nn];omega) (by rw [h.len];exact hlen)).mono ?_
 rintro e w' ⟨rfl,X',g,s1,s2,s3⟩
 exact ⟨rfl,_,h.to0 g s3 s2 (by rw [s1,h.says])⟩
def heardW (dd:Dl) (a:Nat):Dl:=heardD (proposeM dd) a
theorem heardW_i (dd:Dl) (a:Nat):(heardW dd a).i=dd.i∧(heardW dd a).h=dd.h:=⟨rfl,rfl⟩
theorem roomE_in (B:List (Int × Sw)) (k:Int):roomE B k=13 ∨ roomE B k=0 ∨ roomE B k=3:=by
 unfold roomE
 split
 ·exact .inl rfl
 ·split
  ·exact .inr (.inl rfl)
  ·exact .inr (.inr rfl)
theorem takesF_in (B:List (Int × Sw)) (d:Dl) (n:Cl) (free:Int):0 ≤ takesF T26 B d n free∧takesF T26 B d n free ≤ 24:=by
 unfold takesF
 split
 ·exact takes_told d n free
 ·rcases roomE_in B d.i with e | e | e <;> rw [e] <;> decide
theorem takesF_ok {B:List (Int × Sw)} {d:Dl} {n:Cl} {free:Int} (h:takesF T26 B d n free=0):dealOk d=true∧roomE B d.i=0:=by
 unfold takesF at h
 split at h
 ·rename_i q;exact absurd h q
 ·rename_i q
  exact ⟨(takesE_ok (Decidable.not_not.1 q)).1,h⟩
theorem prop_get {dd:Dl} (h:errD dd=0):mgetM (putLM (proposeM dd))=(0,proposeM dd):=mget_legs (.inl rfl) (propose_idE h).1
theorem Adds.det {B B1 B2:List (Int × Sw)} {a:It} (h:Adds B a B1) (k:Adds B a B2):B1=B2:=by
 cases h with
 | dl=>cases k;rfl
 | se h1 h2 h3 h4=>
  cases k with
  | se k1 k2 k3 k4=>
   have e:=h3.symm.trans k3
   injection e with e
   unfold newS at e
   injection e with e
   rw [e]
theorem Run.det {B B1 B2:List (Int × Sw)} {L:List It} (h:Run B L B1) (k:Run B L B2):B1=B2:=by
 induction h with
 | nil=>cases k;rfl
 | cons a _ ih=>
  cases k with
  | cons b r=>
   obtain rfl:=a.det b
   exact ih r
set_option maxHeartbeats 1000000 in
theorem W_prop (h:WX c w xs ls now) {a b:Nat} (ha:1 ≤ a∧a ≤ c.N) (hb:1 ≤ b∧b ≤ c.N) (hab:a ≠ b) (hf:(xs b).fell=none) {k:Nat} {dd:Dl} (hk:ls[k]?=some ((a:Int),(b:Int),putLM (proposeM dd))) (hc:errD dd=0) (hsm:Small dd.h.l) (hlen:ls.length ≤ 1000) {free:Int}:
   Calls Tryz.prog 12 #[.pointer (some ⟨c.wb,0,none⟩),.int .i64 k,.int .i64 free] w fun e w'=>e=.returned (.bool true)∧
     ((takesF T26 (xs b).B (heardW dd a) now free ≠ 0∧WX c w' xs (ls.eraseIdx k ++ [((b:Int),(a:Int),putC dd.i (takesF T26 (xs b).B (heardW dd a) now free))]) now) ∨
      (takesF T26 (xs b).B (heardW dd a) now free=0∧WX c w' (upd xs b { xs b with L:=(xs b).L ++ [.dl (heardW dd a)],B:=putA (xs b).B dd.i (newS (heardW dd a)) }) (ls.eraseIdx k ++ [((b:Int),(a:Int),putLM (acceptM (heardW dd a)))]) now) ∨
      (takesF T26 (xs b).B (heardW dd a) now free=0∧(xs b).calm=false∧WX c w' (upd xs b { xs b with fell:=some (.dl (heardW dd a)) }) (ls.eraseIdx k) now)):=by
 obtain ⟨S,h⟩:=h
 obtain rfl:=h.now
 obtain ⟨n,D,tb,q,at1⟩:=h.at_ hb
 obtain ⟨lv,od⟩:=q.live hf
 obtain ⟨y,h1,h2,h3,h4⟩:=says_at (X:=S.X) (k:=k) (f:=a) (t:=b) (l:=putLM (proposeM dd)) (by rw [h.says];exact hk)
 have hkl:k < ls.length:=(List.getElem?_eq_some_iff.1 hk).1
 have lm:=putLM_len (proposeM dd)
 have hrs:Rs (putLM (proposeM dd),0):=⟨small_putLM hsm,by show (putLM (proposeM dd)).length < 1000000;omega⟩
 have hp:=propose_idE hc
 have hi:=idE_in hp.1
 obtain ⟨cd,hcd⟩:∃ cd,takesF T26 (xs b).B (heardW dd a) S.now free=cd:=⟨_,rfl⟩
 rw [hcd]
 have cdin:=takesF_in (xs b).B (heardW dd a) S.now free
 rw [hcd] at cdin
 rw [← h.wb]
 refine (Deliver_gen (free:=free) (R:=fun S2=>∃ (S3:MS) (D':Dm) (e:Int),S3.X.nb=S.X.nb∧S3.X.nodes=S.X.nodes∧
     ((e ≠ 0∧cd=e∧S3={ S with X:=S3.X }∧S2=S3∧S3.X.says=ls.eraseIdx k ++ [((b:Int),(a:Int),putC dd.i e)]) ∨
      (cd=0∧S3={ S with X:=S3.X,ds:=upd S.ds b (.live D') }∧S2=S3∧S3.X.says=ls.eraseIdx k ++ [((b:Int),(a:Int),putLM (acceptM (heardW dd a)))]∧OnD D' ((xs b).L ++ [.dl (heardW dd a)]) (putA (xs b).B dd.i (newS (heardW dd a)))∧(Calm D.A→Calm D'.A)∧Stay D D') ∨
      (cd=0∧S3={ S with X:=S3.X,ds:=upd S.ds b (.dead D') }∧S2=S3∧S3.X.says=ls.eraseIdx k∧¬ Calm D.A∧DnD D' (xs b).L (xs b).B (.dl (heardW dd a))∧Stay D D'))) h.mw h.nbx h1 (by rw [h4];omega) (by rw [h.len];omega) (f:=a) (t:=b) ⟨h2,by omega,by rw [h.nn];omega⟩ ⟨h3,by omega,by rw [h.nn];omega⟩ hab lv (fun W1 X1 ao cc g1 s1 s2 s3 hsl=>?_)).mono ?_
 · rw [h4] at hsl ⊢
   have lv1:Live ({ S with X:=X1 }:MS) b n D:=⟨lv.nd,lv.ds,lv.at_,lv.xv⟩
   have e1:X1.says=ls.eraseIdx k:=by rw [s1,h.says]
   have ln:X1.L.length < 1000:=by
     have:=says_len X1
     rw [e1,List.length_eraseIdx,if_pos hkl] at this
     omega
   refine (hear_prop2 (S:=({ S with X:=X1 }:MS)) (free:=free) (R:=fun L S2=>∃ (D':Dm) (e:Int),L=heardL (proposeM dd) a e∧S2.X=X1∧
     ((e ≠ 0∧cd=e∧S2={ S with X:=X1 }) ∨
      (e=0∧cd=0∧S2={ S with X:=X1,ds:=upd S.ds b (.live D') }∧OnD D' ((xs b).L ++ [.dl (heardW dd a)]) (putA (xs b).B dd.i (newS (heardW dd a)))∧(Calm D.A→Calm D'.A)∧Stay D D') ∨
      (e=9∧cd=0∧S2={ S with X:=X1,ds:=upd S.ds b (.dead D') }∧¬ Calm D.A∧DnD D' (xs b).L (xs b).B (.dl (heardW dd a))∧Stay D D'))) g1.mw (by show S.nb=X1.nb;rw [s3,h.nbx]) h.f lv1 hsl hrs (prop_get hc) rfl (fun W hW=>?_) ln hab (by show 1 ≤ a∧(a:Int) ≤ X1.nodes;rw [s2,h.nn];omega) (by show 1 ≤ b∧(b:Int) ≤ X1.nodes;rw [s2,h.nn];omega)).mono ?_
   · have g2:=g1.mw.below hW
     have da:=lv1.dae g2.mw
     have hB:Base W D:=(g2.mw.mine (k:=b) lv1.ds).base h.f h.t
     have on0:On W D (xs b).L (xs b).B:=od.on' da
     refine (hear_all (m:=proposeM dd) (Q:=fun e W2 W3=>Took W2 D (xs b).L (xs b).B (heardW dd a) cd e W3∧Base W2 D∧Dae W2 D) da hB (hsl.keep (Nat.le_refl _) hW) hrs (prop_get hc) rfl hi.1 ?_ ?_ ?_ ?_ ?_).mono ?_
     · rintro W2 W3 ⟨tk,_⟩
       rcases tk with ⟨q1,_⟩ | ⟨q1,_⟩
       · exact absurd rfl q1
       · obtain ⟨r1,r2,r3,r4⟩:=accept_ok (takesF_ok (hcd.trans q1)).1
         exact ⟨r1,r2,r3,r4⟩
     · rintro e W2 W3 ⟨tk,_⟩
       rcases tk with ⟨_,q1,_⟩ | ⟨_,⟨q1,_⟩ | ⟨q1,_⟩⟩
       · omega
       · omega
       · omega
     · rintro e W2 W3 ⟨tk,_,d2⟩ hb2
       have na:∀ i,W.heap.size ≤ i→¬ D.all i:=fun i hi q=>by have:=da.all_lt q;omega
       rcases tk with ⟨_,_,q1⟩ | ⟨_,⟨_,D',_,_,q1⟩ | ⟨_,_,D',_,_,_,_,_,_,_,q1⟩⟩
       · exact ⟨q1.os.symm,fun i hi _=>q1.block i hi⟩
       · exact ⟨q1.os.symm,fun i hi h2=>(q1.keep i hi (na i h2)).1⟩
       · exact ⟨q1.os.symm,fun i hi h2=>(q1.keep i hi (na i h2)).1⟩
     · rintro e W2 W3 ⟨tk,b2,d2⟩ hb2
       rcases tk with ⟨_,_,q1⟩ | ⟨_,⟨_,D',_,_,q1⟩ | ⟨_,_,D',_,_,_,_,_,_,_,q1⟩⟩
       · exact b2.forms.keep (Nat.le_refl _) q1
       · exact (b2.trans q1).forms
       · exact (b2.trans q1).forms
     · intro W2 d2 b2
       have K:=takes_all (n:=S.now) (free:=free) (d:=heardW dd a) (od.on' d2) b2 (by rw [q.t];exact T26_ok) hsm
       rw [q.t,hcd] at K
       refine K.mono ?_
       rintro x W3 ⟨e,hx,tk⟩
       exact ⟨e,hx,tk,b2,d2⟩
     · rintro x w2 ⟨e,ao',c',W2,W3,rfl,hs',hbW,⟨tk,b2,d2⟩,hb3⟩
       have gW:=g2.mw.below hbW
       have hl:(heardL (proposeM dd) a e).length ≤ 400:=by
         unfold heardL
         split
         · exact Nat.le_trans (putLM_len _) (by decide)
         · exact Nat.le_trans (putC_len _ _) (by decide)
       rcases tk with ⟨q0,q1,q2⟩ | ⟨q0,⟨rfl,D',o,cm,t⟩ | ⟨rfl,q1⟩⟩
       · have g3:=gW.mw.below (q2.trans (hb3.mono q2.size))
         exact ⟨_,({ S with X:=X1 }:MS),D,false,ao',c',rfl,hs',hl,lv1.has,rfl,rfl,rfl,⟨D,e,rfl,rfl,.inl ⟨q0,q1,rfl⟩⟩,g2.trans (gW.trans g3),gW.comp.trans g3.comp⟩
       · have g3:=gW.mw.live (k:=b) lv1.ds t o.dae
         have g4:=g3.trans (g3.mw.below hb3)
         exact ⟨_,({ S with X:=X1,ds:=upd S.ds b (.live D') }:MS),D',false,ao',c',rfl,hs',hl,⟨lv.nd,upd_at _ _ _,lv.at_,by rw [lv.xv,t.xb]⟩,rfl,rfl,rfl,⟨D',0,rfl,rfl,.inr (.inl ⟨rfl,q0,rfl,o.d,cm,t.stay⟩)⟩,g2.trans (gW.trans g4),gW.comp.trans g4.comp⟩
       · obtain ⟨cm,D',j,f,p1,p2,p3,t⟩:=q1.dn
         have ej:j=0∧f=.dl (heardW dd a):=by
           match j,p1 with
           | 0,p1=>cases p1;exact ⟨rfl,rfl⟩
           | j + 1,p1=>simp at p1
         obtain ⟨rfl,rfl⟩:=ej
         have eB:bkOf D'.M=(xs b).B:=by
           obtain ⟨_,D2,j2,f2,z1,z2,z3,z4,z5,z6⟩:=q1
           have:=p2.run
           have r1:=on0.run
           simp only [List.take_zero,List.append_nil] at this
           exact this.det r1
         rw [eB,List.take_zero,List.append_nil] at p2
         have g3:=gW.mw.fall (k:=b) lv1.ds t p3
         have g4:=g3.trans (g3.mw.below hb3)
         exact ⟨_,({ S with X:=X1,ds:=upd S.ds b (.dead D') }:MS),D',true,ao',c',rfl,hs',hl,⟨lv.nd,upd_at _ _ _,lv.at_,by rw [lv.xv,t.xb]⟩,rfl,rfl,rfl,⟨D',9,rfl,rfl,.inr (.inr ⟨rfl,q0,rfl,cm,p2,t.stay⟩)⟩,g2.trans (gW.trans g4),gW.comp.trans g4.comp⟩
   · rintro e w2 ⟨rfl,L,S2,D2,kd,⟨D',er,rfl,ex,rr⟩,hs2,k1,k2⟩
     refine ⟨rfl,?_⟩
     rcases rr with ⟨q0,q1,rfl⟩ | ⟨rfl,q1,rfl,o,cm,st⟩ | ⟨rfl,q1,rfl,cm,o,st⟩
     · cases kd with
       | true=>exact absurd (hs2.ds.symm.trans lv.ds) (fun e=>by cases e)
       | false=>
         obtain ⟨X',g,t1,t2,t3⟩:=k2 rfl
         refine ⟨_,g1.trans g,_,D',er,t3.trans s3,t2.trans s2,.inl ⟨q0,q1,rfl,rfl,?_⟩⟩
         show X'.says=_
         rw [t1]
         show X1.says ++ _=_
         rw [e1,show heardL (proposeM dd) a er=putC dd.i er from if_neg q0]
     · cases kd with
       | true=>exact absurd (hs2.ds.symm.trans (upd_at _ _ _)) (fun e=>by cases e)
       | false=>
         obtain ⟨X',g,t1,t2,t3⟩:=k2 rfl
         refine ⟨_,g1.trans g,_,D',0,t3.trans s3,t2.trans s2,.inr (.inl ⟨q1,rfl,rfl,?_,o,cm,st⟩)⟩
         show X'.says=_
         rw [t1]
         show X1.says ++ _=_
         rw [e1]
         rfl
     · cases kd with
       | false=>exact absurd (hs2.ds.symm.trans (upd_at _ _ _)) (fun e=>by cases e)
       | true=>
         have g:=k1 rfl
         exact ⟨_,g1.trans g,_,D',9,s3,s2,.inr (.inr ⟨q1,rfl,rfl,e1,cm,o,st⟩)⟩
 · rintro e w' ⟨rfl,S2,g,S3,D',er,x1,x2,rr⟩
   refine ⟨rfl,?_⟩
   rcases rr with ⟨q0,q1,e3,rfl,sy⟩ | ⟨q1,e3,rfl,sy,o,cm,st⟩ | ⟨q1,e3,rfl,sy,cm,o,st⟩
   · subst q1
     refine .inl ⟨q0,?_⟩
     rw [e3] at g
     exact ⟨_,h.to0 g x1 x2 sy⟩
   · refine .inr (.inl ⟨q1,?_⟩)
     rw [e3] at g
     exact ⟨_,h.to (a:=b) g rfl rfl rfl rfl rfl x1 x2 sy (fun j hj=>⟨rfl,rfl,upd_ne _ _ hj⟩) ⟨n,D',tb,q.nd,q.at_,by rw [q.xv,st.xb],q.tv,by rw [q.dv,st.dv],q.nt,q.ns,by rw [st.t];exact q.t,by rw [st.seed];exact q.seed,q.s0,q.sl,q.tm,o.book,o.run,fun _=>⟨upd_at _ _ _,o.on,o.rows,fun e=>cm ((q.on hf).2.2.2 e)⟩,fun f e=>(by rw [hf] at e;cases e)⟩⟩
   · refine .inr (.inr ⟨q1,?_,?_⟩)
     · cases hcm:(xs b).calm with
       | false=>rfl
       | true=>exact absurd ((q.on hf).2.2.2 hcm) cm
     · rw [e3] at g
       exact ⟨_,h.to (a:=b) g rfl rfl rfl rfl rfl x1 x2 sy (fun j hj=>⟨rfl,rfl,upd_ne _ _ hj⟩) ⟨n,D',tb,q.nd,q.at_,by rw [q.xv,st.xb],q.tv,by rw [q.dv,st.dv],q.nt,q.ns,by rw [st.t];exact q.t,by rw [st.seed];exact q.seed,q.s0,q.sl,q.tm,o.book,o.run,fun e=>(by cases e),fun f e=>(by cases e;exact ⟨upd_at _ _ _,o.fell,o.add⟩)⟩⟩
end
end Go.Proofs.YtjkfondgacjpnaaGreatDoor

namespace Go.Proofs.YtjkfondgacjpnaaGreatDoor
open Go.RowKit
open Sx (Ab DW Turns Did Foot MapIs)
set_option maxRecDepth 100000
section
variable {c:Wd} {w w':World} {S S':MS} {xs:Nat→Nod} {ls ls':List (Int × Int × List Nat)} {now now':Cl}
theorem W_ans (h:WX c w xs ls now) {a b:Nat} (ha:1 ≤ a∧a ≤ c.N) (hb:1 ≤ b∧b ≤ c.N) (hab:a ≠ b) (hf:(xs a).fell=none) {k:Nat} {l:List Nat} (hk:ls[k]?=some ((b:Int),(a:Int),l)) (hl:l.length < 1000000) (hlen:ls.length ≤ 1000) {free:Int} {tl':List (Int × Value)}
  (hH:∀ S W1 n D tb ao cc,MW W1 S→Forms S.u→Live S a n D→bkOf D.M=(xs a).B→S.tm a=some (tb,(xs a).told)→n.tv=.map (some tb)→Sl W1 ao l.length cc (bts l)→Calls Tryz.prog 29 #[.pointer (some ⟨S.wb,0,none⟩),.pointer (some ⟨n.b,0,none⟩),.agg (ltV b a ao l.length cc),.int .i64 free] W1 fun e w'=>e=.returned (.tuple #[])∧Goes W1 S w' { S with tm:=upd S.tm a (some (tb,tl')) }):
  Calls Tryz.prog 12 #[.pointer (some ⟨c.wb,0,none⟩),.int .i64 k,.int .i64 free] w fun e w'=>e=.returned (.bool true)∧WX c w' (upd xs a { xs a with told:=tl' }) (ls.eraseIdx k) now:=by
 obtain ⟨S,h⟩:=h
 obtain ⟨n,D,tb,q,at1⟩:=h.at_ ha
 obtain ⟨lv,od⟩:=q.live hf
 obtain ⟨y,h1,h2,h3,h4⟩:=says_at (X:=S.X) (k:=k) (f:=b) (t:=a) (l:=l) (by rw [h.says];exact hk)
 rw [← h.wb]
 refine (Deliver_gen (free:=free) (R:=fun S2=>∃ X',S2={ S with X:=X',tm:=upd S.tm a (some (tb,tl')) }∧X'.says=ls.eraseIdx k∧X'.nb=S.X.nb∧X'.nodes=S.X.nodes) h.mw h.nbx h1 (by rw [h4];exact hl) (by rw [h.len];omega) (f:=b) (t:=a) ⟨h2,by omega,by rw [h.nn];omega⟩ ⟨h3,by omega,by rw [h.nn];omega⟩ (Ne.symm hab) lv (fun W1 X1 ao cc g1 s1 s2 s3 hsl=>?_)).mono ?_
 ·rw [h4] at hsl ⊢
  refine (hH ({ S with X:=X1 }:MS) W1 n D tb ao cc g1.mw h.f ⟨lv.nd,lv.ds,lv.at_,lv.xv⟩ od.book q.tm q.tv hsl).mono ?_
  rintro e w' ⟨he,g⟩
  exact ⟨he,_,g1.trans g,X1,rfl,by rw [s1,h.says],s3,s2⟩
 ·rintro e w' ⟨rfl,S2,g,X',rfl,q1,q2,q3⟩
  exact ⟨rfl,_,h.to (a:=a) g rfl rfl rfl rfl h.now q2 q3 q1 (fun j hj=>⟨rfl,upd_ne _ _ hj,rfl⟩) ⟨n,D,tb,q.nd,q.at_,q.xv,q.tv,q.dv,q.nt,q.ns,q.t,q.seed,q.s0,q.sl,upd_at _ _ _,q.book,q.run,fun e=>q.on e,fun f e=>q.off f e⟩⟩
theorem wordV_get (v:Option Value) (h:∀ x,v=some x→∃ k c,x=wordV k c):∃ x y,v.getD (wordV 0 0)=wordV x y:=by
 cases v with
 | none=>exact ⟨0,0,rfl⟩
 | some x=>obtain ⟨k,c,rfl⟩:=h x rfl;exact ⟨k,c,rfl⟩
def Words (l:List (Int × Value)):Prop:=∀ i x,getA l i=some x→∃ k c,x=wordV k c
theorem Words.nil:Words []:=fun _ _ h=>by cases h
theorem Words.put {l:List (Int × Value)} (h:Words l) (i k c:Int):Words (putA l i (wordV k c)):=fun j x hx=>by
 rw [getA_put] at hx
 split at hx
 ·cases hx;exact ⟨k,c,rfl⟩
 ·exact h j x hx
theorem W_acc (h:WX c w xs ls now) {a b:Nat} (ha:1 ≤ a∧a ≤ c.N) (hb:1 ≤ b∧b ≤ c.N) (hab:a ≠ b) (hf:(xs a).fell=none) (hw:Words (xs a).told) {k:Nat} {s:Sw} {dd:Dl} (hg:getA (xs a).B dd.i=some s) (hd:s.d=dd) (hr:dd.r=1) (hp:dd.q=b) (hk:ls[k]?=some ((b:Int),(a:Int),putLM (acceptM (heardW dd a)))) (hc:dealOk (heardW dd a)=true) (hsm:Small dd.h.l) (hlen:ls.length ≤ 1000) {free:Int}:
  Calls Tryz.prog 12 #[.pointer (some ⟨c.wb,0,none⟩),.int .i64 k,.int .i64 free] w fun e w'=>e=.returned (.bool true)∧WX c w' (upd xs a { xs a with told:=putA (xs a).told dd.i (wordV 2 0) }) (ls.eraseIdx k) now:=by
 have lm:=putLM_len (acceptM (heardW dd a))
 subst hd
 refine W_ans h ha hb hab hf hk (by omega) hlen fun S W1 n D tb ao cc mw hF lv bk tm tv hs=>?_
 rw [← bk] at hg
 obtain ⟨eb,em,hq⟩:=bkOf_some hg
 obtain ⟨x,y,hxy⟩:=wordV_get (getA (xs a).told s.d.i) (fun x hx=>hw _ _ hx)
 exact hear_acc (f:=b) (b:=a) (i:=s.d.i) (q:=⟨eb,em,s⟩) mw hF lv tm tv hs ⟨small_putLM hsm,by show (putLM (acceptM (heardW s.d a))).length < 1000000;omega⟩ hxy hq (by show (s.d.r == 1)=true;rw [hr];rfl) hp (mget_legs (.inr rfl) (accept_ok hc).1)
def toldR (l:List (Int × Value)) (i cd:Int):List (Int × Value):=if (getA l i).isSome then l else putA l i (wordV 3 cd)
theorem W_ref (h:WX c w xs ls now) {a b:Nat} (ha:1 ≤ a∧a ≤ c.N) (hb:1 ≤ b∧b ≤ c.N) (hab:a ≠ b) (hf:(xs a).fell=none) (hw:Words (xs a).told) {k:Nat} {s:Sw} {i cd:Int} (hg:getA (xs a).B i=some s) (hr:s.d.r=1) (hp:s.d.q=b) (hi:1 ≤ i∧i ≤ 1073741824) (hcd:1 ≤ cd∧cd ≤ 24) (hk:ls[k]?=some ((b:Int),(a:Int),putC i cd)) (hlen:ls.length ≤ 1000) {free:Int}:
  Calls Tryz.prog 12 #[.pointer (some ⟨c.wb,0,none⟩),.int .i64 k,.int .i64 free] w fun e w'=>e=.returned (.bool true)∧WX c w' (upd xs a { xs a with told:=toldR (xs a).told i cd }) (ls.eraseIdx k) now:=by
 have lm:=putC_len i cd
 have he:idE i (refE cd)=0:=by
  unfold idE refE
  rw [if_neg (by omega),if_neg (by omega)]
 refine W_ans h ha hb hab hf hk (by omega) hlen fun S W1 n D tb ao cc mw hF lv bk tm tv hs=>?_
 rw [← bk] at hg
 obtain ⟨eb,em,hq⟩:=bkOf_some hg
 have hrs:Rs (putC i cd,0):=⟨small_putC _ _,by show (putC i cd).length < 1000000;omega⟩
 obtain ⟨x,y,hxy⟩:=wordV_get (getA (xs a).told i) (fun x hx=>hw _ _ hx)
 unfold toldR
 cases hkn:(getA (xs a).told i).isSome with
 | false=>exact hear_ref (f:=b) (b:=a) (i:=i) (q:=⟨eb,em,s⟩) mw hF lv tm tv hs hrs hxy hkn hq (by show (s.d.r == 1)=true;rw [hr];rfl) hp (mget_code he)
 | true=>
  have e:({ S with tm:=upd S.tm a (some (tb,(xs a).told)) }:MS)=S:=by rw [upd_self _ tm]
  refine (hear_known (f:=b) (b:=a) (i:=i) (q:=⟨eb,em,s⟩) mw hF lv tm tv hs hrs hxy hkn hq (by show (s.d.r == 1)=true;rw [hr];rfl) hp (mget_code he)).mono ?_
  rintro e2 w' ⟨q1,q2⟩
  refine ⟨q1,?_⟩
  rw [if_pos rfl,e]
  exact q2
end
end Go.Proofs.YtjkfondgacjpnaaGreatDoor
