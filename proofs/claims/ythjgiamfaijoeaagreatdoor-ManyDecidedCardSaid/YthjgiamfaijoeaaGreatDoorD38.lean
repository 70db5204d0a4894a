/- What is proved: parts of the walk and of the plain law. No condition but those each law names. -/
import Derived.Test.YthjgiamfaijoeaaGreatDoorD37
import Derived.Test.YthjgiamfaijoeaaGreatDoorD00
set_option linter.unusedSimpArgs false
set_option linter.unusedVariables false
set_option maxRecDepth 100000
namespace Go.Proofs.YthjgiamfaijoeaaGreatDoor
open Go.RowKit
section
open Sx (Ab DW Turns Did Foot MapIs)
section
attribute [local go_sem ↓] zad
attribute [local go_sem] zaf zai zaj zal zab zah zac zak zae zaw za2 Sx.run_mk Ext.row Ext.soft_
attribute [local go_sem ↓] zmj zp8
attribute [local go_sem] is_h is_l
attribute [local go_sem] ztw ztx zty
set_option maxHeartbeats 2000000 in
theorem zr7 {w:World} {S:MS} (h:MW w S) (hF:Forms S.u) {f b:Nat} {n:Nd} {D:Dm} (is:Live S b n D) {tb:Nat} {tl:List (Int × Value)} (ht:S.tm b=some (tb,tl)) (hv:n.tv=.map (some tb)) {ao:Option Addr} {nn c:Nat} {l:List Nat} (hs:Sl w ao nn c (bts l)) (hr:Rs (l,0)) {i:Int} {x y:Int} {cd:Int} (hw:(getA tl i).getD (zbd 0 0)=zbd x y) (hkn:(getA tl i).isSome=true) {q:En} (hq:getA D.M i=some q) (h1:(q.s.d.r == 1)=true) (hp:q.s.d.q=f) (hm:zee l=(0,msgR i cd)) {free:Int}:
  Calls Tryz.prog 66 #[.pointer (some ⟨S.wb,0,none⟩),.pointer (some ⟨n.b,0,none⟩),.agg (ltV f b ao nn c),.int .i64 free] w fun e w'=>e=.returned (.tuple #[])∧Goes w S w' S:=by
 have H:=zadv h
 have IS:=zadv is
 have HS:=zadv hs
 have HF:=zadv hF
 have HT:=zadv (zadx ht hv)
 have HR:=zadv (zadx hr hm)
 have HQ:=zadv (zadx hq (zadx h1 hp))
 clear h is hs hr hm hF ht hv hq h1 hp
 unfold ltV
 go_enter Tryz.func66,Tryz.ntmps66
 go_upto_region 1 with (fail)
 have bx:=Bx.new w (#[.int .i64 f,.int .i64 b,.slice ao nn c]) 120;generalize w.alloc (.cells (#[.int .i64 f,.int .i64 b,.slice ao nn c]) 120)=W at bx ⊢;have rx:=bx.rowOf;have sx:=bx.soft;have BX:=zadv bx;clear bx
 have G:=H.out.below BX.out.below
 have MG:=zadv (zfr (HF.out.keep (zadw _) G.mw.low) (HS.out.keep (zadw _) BX.out.below) HR.out.1)
 rw [HR.out.2] at MG
 unfold zt5 at MG
 clear G
 dsimp only at MG
 go_upto_region 6 with (go_at_call 102;refine MG.out.mono ?_;rintro _ V ⟨rfl,hb⟩;have bx:=BX.out.step hb;clear BX rx sx MG hb;have rx:=bx.rowOf;have BX:=zadv bx;clear bx)
 generalize hM:msgR i cd=m at *
 have B2:=Bx.made V Msg.zero.cells m.cells 118
 have bx:=BX.out.step B2.below
 generalize (V.alloc (.cells Msg.zero.cells 118)).setRow V.heap.size m.cells=V2 at B2 bx ⊢
 have rm:=B2.rowOf
 have by_:=B2.row
 generalize V.heap.size=mb at rm by_ ⊢
 have G:=H.out.below bx.below
 have FI:=zadv (zej G.mw IS.out i)
 rw [HQ.out.1] at FI
 have fb:zfz (some q)=true:=HQ.out.2.1
 rw [fb] at FI
 replace FI:Hid (Calls Tryz.prog 63 #[.pointer (some ⟨n.b,0,none⟩),.int .i64 i] V2 fun e w'=>e=.returned (.tuple #[.agg q.s.d.cells,.bool true])∧Below V2.heap.size V2 w'):=FI
 have mi:m.i=i:=by rw [← hM];rfl
 have BY:=zadv by_
 clear fb G rx BX B2 by_
 have rx:=bx.rowOf
 have BX:=zadv bx
 clear bx
 have pq:(q.s.d.q != (f:Int))=false:=by rw [HQ.out.2.2];simp
 have HM:=zadv hM
 clear hM
 go_upto_region 7 with (go_at_call 63;refine FI.out.mono ?_;rintro _ U ⟨rfl,hb⟩;have bx:=BX.out.step hb;have by_:=(hb.block _ (zadu BY.out).1).trans BY.out;clear BX BY rx rm FI hb;have BX:=zadv bx;have BY:=zadv by_;clear bx by_)
 have B3:=Bx.made U Dl.zero.cells q.s.d.cells 60
 have bx:=BX.out.step B3.below
 have by_:=(B3.below.block _ (zadu BY.out).1).trans BY.out
 generalize (U.alloc (.cells Dl.zero.cells 60)).setRow U.heap.size q.s.d.cells=V3 at B3 bx by_ ⊢
 have rd:=B3.rowOf
 have bd:=B3.row
 have l3:=(zadu bd).1
 generalize U.heap.size=db at rd bd l3 ⊢
 clear B3 BX BY
 have rx:=bx.rowOf
 have rm:=zaa by_
 have G:=H.out.below bx.below
 have rn:=IS.out.row G.mw
 rw [HT.out.2] at rn
 have lk:=zbz (G.mw.tmAt HT.out.1) i
 dsimp only at lk
 have l1:=(zadu bx.row).1
 have l2:=(zadu by_).1
 have l4:=(zadu (G.mw.ndAt IS.out.nd).row).1
 have BX:=zadv bx
 have GG:=zadv G
 have LL:=zadv (zadx l1 (zadx l2 (zadx l3 l4)))
 clear bx G by_ bd l1 l2 l3 l4
 generalize q.s.d=d at *
 rw [hw] at lk
 unfold zbd at lk
 go_upto_region 8 with (fail)
 clear rx
 have lkA:=zbz (((GG.out.mw.tmAt HT.out.1).same ((MapKept.heap_alloc V3 (.cells #[.int .i64 0,.int .i64 0] 125)).2 _ (GG.out.mw.tmAt HT.out.1).lt)):IMap (V3.alloc (.cells #[.int .i64 0,.int .i64 0] 125)).drew tb tl) i
 have lkB:=zbz (((GG.out.mw.tmAt HT.out.1).same rfl):IMap V3.drew tb tl) i
 dsimp only at lkA lkB
 rw [hw] at lkA lkB
 unfold zbd at lkA lkB
 have n1:(mb=V3.heap.size)=False:=eq_false (Nat.ne_of_lt LL.out.2.1)
 have n2:(n.b=V3.heap.size)=False:=eq_false (Nat.ne_of_lt LL.out.2.2.2)
 have n3:(db=V3.heap.size)=False:=eq_false (Nat.ne_of_lt LL.out.2.2.1)
 rw [hkn] at lk lkA lkB
 clear lk
 go_region
 all_goals
  have b4:=(zat V3 (.cells #[.int .i64 x,.int .i64 y] 125)).drew
  have rm4:=(za9 (b4.block _ LL.out.2.1)).trans rm
  have rd4:=(za9 (b4.block _ LL.out.2.2.1)).trans rd
  have rn4:=(za9 (b4.block _ LL.out.2.2.2)).trans rn
  have G4:=GG.out.trans (GG.out.mw.below b4)
  clear b4 rm rd rn lkA lkB n1 n2 n3 GG LL
  generalize (V3.alloc (.cells #[.int .i64 x,.int .i64 y] 125)).drew=V4 at rm4 rd4 rn4 G4 ⊢
  have G5:=zadv G4
  clear G4 BX
  have hm2:=HM.out
  clear HM
  subst hm2
  go_wp2
  go_end0
  exact ⟨rfl,G5.out⟩
end
section
variable {c:Wd} {w w':World} {S S':MS} {xs:Nat→Nod} {ls ls':List (Int × Int × List Nat)} {now now':Cl}
theorem zvs (h:WX c w xs ls now) {a:Nat} (ha:1 ≤ a∧a ≤ c.N) (hf:(xs a).fell=none) {i:Int} {s:Sw} (hs:getA (xs a).B i=some s) (hr:s.d.r=1) {b:Nat} (hq:s.d.q=b) (hb:1 ≤ b∧b ≤ c.N) (hab:a ≠ b) (hlen:ls.length < 1000):
  Calls Tryz.prog 22 #[.pointer (some ⟨c.wb,0,none⟩),.int .i64 a,.int .i64 i] w fun e w'=>e=.returned (.int .i64 0)∧WX c w' xs (ls ++ [((a:Int),(b:Int),zbi (zax s.d))]) now:=by
 obtain ⟨S,h⟩:=h
 obtain ⟨n,D,tb,q,at1⟩:=h.at_ ha
 have fi:=(Fine.nil.run q.run).at hs
 rw [← q.book] at hs
 obtain ⟨eb,em,hg⟩:=zeh hs
 rw [← h.wb]
 refine (zy5 h.mw h.nbx h.f (q.live hf).1 hg hr fi.1 (zh7 fi.2.1) hq hab (by rw [h.nn];omega) (by rw [h.nn];omega) (by rw [h.len];exact hlen)).mono ?_
 rintro e w' ⟨rfl,X',g,s1,s2,s3⟩
 exact ⟨rfl,_,h.to0 g s3 s2 (by rw [s1,h.says])⟩
def zau (dd:Dl) (a:Nat):Dl:=zcw (zax dd) a
theorem zy6 (dd:Dl) (a:Nat):(zau dd a).i=dd.i∧(zau dd a).h=dd.h:=⟨rfl,rfl⟩
theorem zy7 (B:List (Int × Sw)) (k:Int):zch B k=13 ∨ zch B k=0 ∨ zch B k=3:=by
 unfold zch
 split
 ·exact .inl rfl
 ·split
  ·exact .inr (.inl rfl)
  ·exact .inr (.inr rfl)
theorem ziw (B:List (Int × Sw)) (d:Dl) (n:Cl) (free:Int):0 ≤ zb6 T26 B d n free∧zb6 T26 B d n free ≤ 24:=by
 unfold zb6
 split
 ·exact zry d n free
 ·rcases zy7 B d.i with e | e | e <;> rw [e] <;> decide
theorem zix {B:List (Int × Sw)} {d:Dl} {n:Cl} {free:Int} (h:zb6 T26 B d n free=0):za5 d=true∧zch B d.i=0:=by
 unfold zb6 at h
 split at h
 ·rename_i q;exact absurd h q
 ·rename_i q
  exact ⟨(zio (Decidable.not_not.1 q)).1,h⟩
theorem zf2 {dd:Dl} (h:errD dd=0):zee (zbi (zax dd))=(0,zax dd):=zim (.inl rfl) (zd1 h).1
theorem Adds.det {B B1 B2:List (Int × Sw)} {a:It} (h:Adds B a B1) (k:Adds B a B2):B1=B2:=by
 cases h with
 | dl=>cases k;rfl
 | se h1 h2 h3 h4=>
  cases k with
  | se k1 k2 k3 k4=>
   have e:=h3.symm.trans k3
   injection e with e
   unfold newS at e
   injection e with e
   rw [e]
theorem Run.det {B B1 B2:List (Int × Sw)} {L:List It} (h:Run B L B1) (k:Run B L B2):B1=B2:=by
 induction h with
 | nil=>cases k;rfl
 | cons a _ ih=>
  cases k with
  | cons b r=>
   obtain rfl:=a.det b
   exact ih r
set_option maxHeartbeats 1000000 in
theorem zqj (h:WX c w xs ls now) {a b:Nat} (ha:1 ≤ a∧a ≤ c.N) (hb:1 ≤ b∧b ≤ c.N) (hab:a ≠ b) (hct:c.cut (min (a:Int) b) (max (a:Int) b)=false) (hf:(xs b).fell=none) {k:Nat} {dd:Dl} (hk:ls[k]?=some ((a:Int),(b:Int),zbi (zax dd))) (hc:errD dd=0) (hsm:Small dd.h.l) (hlen:ls.length ≤ 1000) {free:Int}:
   Calls Tryz.prog 24 #[.pointer (some ⟨c.wb,0,none⟩),.int .i64 k,.int .i64 free] w fun e w'=>e=.returned (.bool true)∧
     ((zb6 T26 (xs b).B (zau dd a) now free ≠ 0∧WX c w' xs (ls.eraseIdx k ++ [((b:Int),(a:Int),putC dd.i (zb6 T26 (xs b).B (zau dd a) now free))]) now) ∨
      (zb6 T26 (xs b).B (zau dd a) now free=0∧WX c w' (upd xs b { xs b with L:=(xs b).L ++ [.dl (zau dd a)],B:=putA (xs b).B dd.i (newS (zau dd a)) }) (ls.eraseIdx k ++ [((b:Int),(a:Int),zbi (zbg (zau dd a)))]) now) ∨
      (zb6 T26 (xs b).B (zau dd a) now free=0∧(xs b).calm=false∧WX c w' (upd xs b { xs b with fell:=some (.dl (zau dd a)) }) (ls.eraseIdx k) now)):=by
 obtain ⟨S,h⟩:=h
 obtain rfl:=h.now
 obtain ⟨n,D,tb,q,at1⟩:=h.at_ hb
 obtain ⟨lv,od⟩:=q.live hf
 obtain ⟨y,h1,h2,h3,h4⟩:=zgi (X:=S.X) (k:=k) (f:=a) (t:=b) (l:=zbi (zax dd)) (by rw [h.says];exact hk)
 have hkl:k < ls.length:=(List.getElem?_eq_some_iff.1 hk).1
 have lm:=zb5 (zax dd)
 have hrs:Rs (zbi (zax dd),0):=⟨ziq hsm,by show (zbi (zax dd)).length < 1000000;omega⟩
 have hp:=zd1 hc
 have hi:=zpr hp.1
 obtain ⟨cd,hcd⟩:∃ cd,zb6 T26 (xs b).B (zau dd a) S.now free=cd:=⟨_,rfl⟩
 rw [hcd]
 have cdin:=ziw (xs b).B (zau dd a) S.now free
 rw [hcd] at cdin
 rw [← h.wb]
 refine (ziv (free:=free) (R:=fun S2=>∃ (S3:MS) (D':Dm) (e:Int),S3.X.nb=S.X.nb∧S3.X.nodes=S.X.nodes∧
     ((e ≠ 0∧cd=e∧S3={ S with X:=S3.X }∧S2=S3∧S3.X.says=ls.eraseIdx k ++ [((b:Int),(a:Int),putC dd.i e)]) ∨
      (cd=0∧S3={ S with X:=S3.X,ds:=upd S.ds b (.live D') }∧S2=S3∧S3.X.says=ls.eraseIdx k ++ [((b:Int),(a:Int),zbi (zbg (zau dd a)))]∧OnD D' ((xs b).L ++ [.dl (zau dd a)]) (putA (xs b).B dd.i (newS (zau dd a)))∧(Calm D.A→Calm D'.A)∧Stay D D') ∨
      (cd=0∧S3={ S with X:=S3.X,ds:=upd S.ds b (.dead D') }∧S2=S3∧S3.X.says=ls.eraseIdx k∧¬ Calm D.A∧DnD D' (xs b).L (xs b).B (.dl (zau dd a))∧Stay D D'))) h.mw h.nbx h1 (by rw [h4];omega) (by rw [h.len];omega) (f:=a) (t:=b) ⟨h2,by omega,by rw [h.nn];omega⟩ ⟨h3,by omega,by rw [h.nn];omega⟩ hab (by rw [h.cut];exact hct) lv (fun W1 X1 ao cc g1 s1 s2 s3 hsl=>?_)).mono ?_
 · rw [h4] at hsl ⊢
   have lv1:Live ({ S with X:=X1 }:MS) b n D:=⟨lv.nd,lv.ds,lv.at_,lv.xv⟩
   have e1:X1.says=ls.eraseIdx k:=by rw [s1,h.says]
   have ln:X1.L.length < 1000:=by
     have:=zqg X1
     rw [e1,List.length_eraseIdx,if_pos hkl] at this
     omega
   refine (zr6 (S:=({ S with X:=X1 }:MS)) (free:=free) (R:=fun L S2=>∃ (D':Dm) (e:Int),L=zf1 (zax dd) a e∧S2.X=X1∧
     ((e ≠ 0∧cd=e∧S2={ S with X:=X1 }) ∨
      (e=0∧cd=0∧S2={ S with X:=X1,ds:=upd S.ds b (.live D') }∧OnD D' ((xs b).L ++ [.dl (zau dd a)]) (putA (xs b).B dd.i (newS (zau dd a)))∧(Calm D.A→Calm D'.A)∧Stay D D') ∨
      (e=9∧cd=0∧S2={ S with X:=X1,ds:=upd S.ds b (.dead D') }∧¬ Calm D.A∧DnD D' (xs b).L (xs b).B (.dl (zau dd a))∧Stay D D'))) g1.mw (by show S.nb=X1.nb;rw [s3,h.nbx]) h.f lv1 hsl hrs (zf2 hc) rfl (fun W hW=>?_) ln hab (by show 1 ≤ a∧(a:Int) ≤ X1.nodes;rw [s2,h.nn];omega) (by show 1 ≤ b∧(b:Int) ≤ X1.nodes;rw [s2,h.nn];omega)).mono ?_
   · have g2:=g1.mw.below hW
     have da:=lv1.dae g2.mw
     have hB:Base W D:=(g2.mw.mine (k:=b) lv1.ds).base h.f h.t
     have on0:On W D (xs b).L (xs b).B:=od.on' da
     refine (zy1 (m:=zax dd) (Q:=fun e W2 W3=>Took W2 D (xs b).L (xs b).B (zau dd a) cd e W3∧Base W2 D∧Dae W2 D) da hB (hsl.keep (zadw _) hW) hrs (zf2 hc) rfl hi.1 ?_ ?_ ?_ ?_ ?_).mono ?_
     · rintro W2 W3 ⟨tk,_⟩
       rcases tk with ⟨q1,_⟩ | ⟨q1,_⟩
       · exact absurd rfl q1
       · obtain ⟨r1,r2,r3,r4⟩:=zfx (zix (hcd.trans q1)).1
         exact ⟨r1,r2,r3,r4⟩
     · rintro e W2 W3 ⟨tk,_⟩
       rcases tk with ⟨_,q1,_⟩ | ⟨_,⟨q1,_⟩ | ⟨q1,_⟩⟩
       · omega
       · omega
       · omega
     · rintro e W2 W3 ⟨tk,_,d2⟩ hb2
       have na:∀ i,W.heap.size ≤ i→¬ D.all i:=fun i hi q=>by have:=da.all_lt q;omega
       rcases tk with ⟨_,_,q1⟩ | ⟨_,⟨_,D',_,_,q1⟩ | ⟨_,_,D',_,_,_,_,_,_,_,q1⟩⟩
       · exact ⟨q1.os.symm,fun i hi _=>q1.block i hi⟩
       · exact ⟨q1.os.symm,fun i hi h2=>(q1.keep i hi (na i h2)).1⟩
       · exact ⟨q1.os.symm,fun i hi h2=>(q1.keep i hi (na i h2)).1⟩
     · rintro e W2 W3 ⟨tk,b2,d2⟩ hb2
       rcases tk with ⟨_,_,q1⟩ | ⟨_,⟨_,D',_,_,q1⟩ | ⟨_,_,D',_,_,_,_,_,_,_,q1⟩⟩
       · exact b2.forms.keep (zadw _) q1
       · exact (b2.trans q1).forms
       · exact (b2.trans q1).forms
     · intro W2 d2 b2
       have K:=zvr (n:=S.now) (free:=free) (d:=zau dd a) (od.on' d2) b2 (by rw [q.t];exact zpx) hsm
       rw [q.t,hcd] at K
       refine K.mono ?_
       rintro x W3 ⟨e,hx,tk⟩
       exact ⟨e,hx,tk,b2,d2⟩
     · rintro x w2 ⟨e,ao',c',W2,W3,rfl,hs',hbW,⟨tk,b2,d2⟩,hb3⟩
       have gW:=g2.mw.below hbW
       have hl:(zf1 (zax dd) a e).length ≤ 400:=by
         unfold zf1
         split
         · exact Nat.le_trans (zb5 _) (by decide)
         · exact Nat.le_trans (zhe _ _) (by decide)
       rcases tk with ⟨q0,q1,q2⟩ | ⟨q0,⟨rfl,D',o,cm,t⟩ | ⟨rfl,q1⟩⟩
       · have g3:=gW.mw.below (q2.trans (hb3.mono q2.size))
         exact ⟨_,({ S with X:=X1 }:MS),D,false,ao',c',rfl,hs',hl,lv1.has,rfl,rfl,rfl,⟨D,e,rfl,rfl,.inl ⟨q0,q1,rfl⟩⟩,g2.trans (gW.trans g3),gW.comp.trans g3.comp⟩
       · have g3:=gW.mw.live (k:=b) lv1.ds t o.dae
         have g4:=g3.trans (g3.mw.below hb3)
         exact ⟨_,({ S with X:=X1,ds:=upd S.ds b (.live D') }:MS),D',false,ao',c',rfl,hs',hl,⟨lv.nd,upd_at _ _ _,lv.at_,by rw [lv.xv,t.xb]⟩,rfl,rfl,rfl,⟨D',0,rfl,rfl,.inr (.inl ⟨rfl,q0,rfl,o.d,cm,t.stay⟩)⟩,g2.trans (gW.trans g4),gW.comp.trans g4.comp⟩
       · obtain ⟨cm,D',j,f,p1,p2,p3,t⟩:=q1.dn
         have ej:j=0∧f=.dl (zau dd a):=by
           match j,p1 with
           | 0,p1=>cases p1;exact ⟨rfl,rfl⟩
           | j + 1,p1=>simp at p1
         obtain ⟨rfl,rfl⟩:=ej
         have eB:bkOf D'.M=(xs b).B:=by
           obtain ⟨_,D2,j2,f2,z1,z2,z3,z4,z5,z6⟩:=q1
           have:=p2.run
           have r1:=on0.run
           simp only [List.take_zero,List.append_nil] at this
           exact this.det r1
         rw [eB,List.take_zero,List.append_nil] at p2
         have g3:=gW.mw.fall (k:=b) lv1.ds t p3
         have g4:=g3.trans (g3.mw.below hb3)
         exact ⟨_,({ S with X:=X1,ds:=upd S.ds b (.dead D') }:MS),D',true,ao',c',rfl,hs',hl,⟨lv.nd,upd_at _ _ _,lv.at_,by rw [lv.xv,t.xb]⟩,rfl,rfl,rfl,⟨D',9,rfl,rfl,.inr (.inr ⟨rfl,q0,rfl,cm,p2,t.stay⟩)⟩,g2.trans (gW.trans g4),gW.comp.trans g4.comp⟩
   · rintro e w2 ⟨rfl,L,S2,D2,kd,⟨D',er,rfl,ex,rr⟩,hs2,k1,k2⟩
     refine ⟨rfl,?_⟩
     rcases rr with ⟨q0,q1,rfl⟩ | ⟨rfl,q1,rfl,o,cm,st⟩ | ⟨rfl,q1,rfl,cm,o,st⟩
     · cases kd with
       | true=>exact absurd (hs2.ds.symm.trans lv.ds) (fun e=>by cases e)
       | false=>
         obtain ⟨X',g,t1,t2,t3⟩:=k2 rfl
         refine ⟨_,g1.trans g,_,D',er,t3.trans s3,t2.trans s2,.inl ⟨q0,q1,rfl,rfl,?_⟩⟩
         show X'.says=_
         rw [t1]
         show X1.says ++ _=_
         rw [e1,show zf1 (zax dd) a er=putC dd.i er from if_neg q0]
     · cases kd with
       | true=>exact absurd (hs2.ds.symm.trans (upd_at _ _ _)) (fun e=>by cases e)
       | false=>
         obtain ⟨X',g,t1,t2,t3⟩:=k2 rfl
         refine ⟨_,g1.trans g,_,D',0,t3.trans s3,t2.trans s2,.inr (.inl ⟨q1,rfl,rfl,?_,o,cm,st⟩)⟩
         show X'.says=_
         rw [t1]
         show X1.says ++ _=_
         rw [e1]
         rfl
     · cases kd with
       | false=>exact absurd (hs2.ds.symm.trans (upd_at _ _ _)) (fun e=>by cases e)
       | true=>
         have g:=k1 rfl
         exact ⟨_,g1.trans g,_,D',9,s3,s2,.inr (.inr ⟨q1,rfl,rfl,e1,cm,o,st⟩)⟩
 · rintro e w' ⟨rfl,S2,g,S3,D',er,x1,x2,rr⟩
   refine ⟨rfl,?_⟩
   rcases rr with ⟨q0,q1,e3,rfl,sy⟩ | ⟨q1,e3,rfl,sy,o,cm,st⟩ | ⟨q1,e3,rfl,sy,cm,o,st⟩
   · subst q1
     refine .inl ⟨q0,?_⟩
     rw [e3] at g
     exact ⟨_,h.to0 g x1 x2 sy⟩
   · refine .inr (.inl ⟨q1,?_⟩)
     rw [e3] at g
     exact ⟨_,h.to (a:=b) g rfl rfl rfl rfl rfl x1 x2 sy (fun j hj=>⟨rfl,rfl,upd_ne _ _ hj⟩) ⟨n,D',tb,q.nd,q.at_,by rw [q.xv,st.xb],q.tv,by rw [q.dv,st.dv],q.nt,q.ns,by rw [st.t];exact q.t,by rw [st.seed];exact q.seed,q.s0,q.sl,q.tm,o.book,o.run,fun _=>⟨upd_at _ _ _,o.on,o.rows,fun e=>cm ((q.on hf).2.2.2 e)⟩,fun f e=>(by rw [hf] at e;cases e)⟩⟩
   · refine .inr (.inr ⟨q1,?_,?_⟩)
     · cases hcm:(xs b).calm with
       | false=>rfl
       | true=>exact absurd ((q.on hf).2.2.2 hcm) cm
     · rw [e3] at g
       exact ⟨_,h.to (a:=b) g rfl rfl rfl rfl rfl x1 x2 sy (fun j hj=>⟨rfl,rfl,upd_ne _ _ hj⟩) ⟨n,D',tb,q.nd,q.at_,by rw [q.xv,st.xb],q.tv,by rw [q.dv,st.dv],q.nt,q.ns,by rw [st.t];exact q.t,by rw [st.seed];exact q.seed,q.s0,q.sl,q.tm,o.book,o.run,fun e=>(by cases e),fun f e=>(by cases e;exact ⟨upd_at _ _ _,o.fell,o.add⟩)⟩⟩
end
end
section
open Sx (Ab DW Turns Did Foot MapIs)
section
variable {c:Wd} {w w':World} {S S':MS} {xs:Nat→Nod} {ls ls':List (Int × Int × List Nat)} {now now':Cl}
theorem zvt (h:WX c w xs ls now) {a b:Nat} (ha:1 ≤ a∧a ≤ c.N) (hb:1 ≤ b∧b ≤ c.N) (hab:a ≠ b) (hct:c.cut (min (a:Int) b) (max (a:Int) b)=false) (hf:(xs b).fell.isSome=true) {k:Nat} {l:List Nat} (hk:ls[k]?=some ((a:Int),(b:Int),l)) (hl:l.length < 1000000) (hlen:ls.length ≤ 1000) {free:Int}:
  Calls Tryz.prog 24 #[.pointer (some ⟨c.wb,0,none⟩),.int .i64 k,.int .i64 free] w fun e w'=>e=.returned (.bool true)∧WX c w' xs (ls.eraseIdx k) now:=by
 obtain ⟨S,h⟩:=h
 obtain ⟨n,D,tb,q,at1⟩:=h.at_ hb
 obtain ⟨y,h1,h2,h3,h4⟩:=zgi (X:=S.X) (k:=k) (f:=a) (t:=b) (l:=l) (by rw [h.says];exact hk)
 have hh:=q.has
 rw [hf] at hh
 rw [← h.wb]
 refine (zmw (free:=free) h.mw h.nbx h1 (by rw [h4];exact hl) (by rw [h.len];omega) (f:=a) (t:=b) ⟨h2,by omega,by rw [h.nn];omega⟩ ⟨h3,by omega,by rw [h.nn];omega⟩ hab (by rw [h.cut];exact hct) hh).mono ?_
 rintro e w' ⟨rfl,X',g,s1,s2,s3⟩
 exact ⟨rfl,_,h.to0 g s3 s2 (by rw [s1,h.says])⟩
theorem W_ans (h:WX c w xs ls now) {a b:Nat} (ha:1 ≤ a∧a ≤ c.N) (hb:1 ≤ b∧b ≤ c.N) (hab:a ≠ b) (hct:c.cut (min (b:Int) a) (max (b:Int) a)=false) (hf:(xs a).fell=none) {k:Nat} {l:List Nat} (hk:ls[k]?=some ((b:Int),(a:Int),l)) (hl:l.length < 1000000) (hlen:ls.length ≤ 1000) {free:Int} {tl':List (Int × Value)}
  (hH:∀ S W1 n D tb ao cc,MW W1 S→Forms S.u→Live S a n D→bkOf D.M=(xs a).B→S.tm a=some (tb,(xs a).told)→n.tv=.map (some tb)→Sl W1 ao l.length cc (bts l)→Calls Tryz.prog 66 #[.pointer (some ⟨S.wb,0,none⟩),.pointer (some ⟨n.b,0,none⟩),.agg (ltV b a ao l.length cc),.int .i64 free] W1 fun e w'=>e=.returned (.tuple #[])∧Goes W1 S w' { S with tm:=upd S.tm a (some (tb,tl')) }):
  Calls Tryz.prog 24 #[.pointer (some ⟨c.wb,0,none⟩),.int .i64 k,.int .i64 free] w fun e w'=>e=.returned (.bool true)∧WX c w' (upd xs a { xs a with told:=tl' }) (ls.eraseIdx k) now:=by
 obtain ⟨S,h⟩:=h
 obtain ⟨n,D,tb,q,at1⟩:=h.at_ ha
 obtain ⟨lv,od⟩:=q.live hf
 obtain ⟨y,h1,h2,h3,h4⟩:=zgi (X:=S.X) (k:=k) (f:=b) (t:=a) (l:=l) (by rw [h.says];exact hk)
 rw [← h.wb]
 refine (ziv (free:=free) (R:=fun S2=>∃ X',S2={ S with X:=X',tm:=upd S.tm a (some (tb,tl')) }∧X'.says=ls.eraseIdx k∧X'.nb=S.X.nb∧X'.nodes=S.X.nodes) h.mw h.nbx h1 (by rw [h4];exact hl) (by rw [h.len];omega) (f:=b) (t:=a) ⟨h2,by omega,by rw [h.nn];omega⟩ ⟨h3,by omega,by rw [h.nn];omega⟩ (Ne.symm hab) (by rw [h.cut];exact hct) lv (fun W1 X1 ao cc g1 s1 s2 s3 hsl=>?_)).mono ?_
 ·rw [h4] at hsl ⊢
  refine (hH ({ S with X:=X1 }:MS) W1 n D tb ao cc g1.mw h.f ⟨lv.nd,lv.ds,lv.at_,lv.xv⟩ od.book q.tm q.tv hsl).mono ?_
  rintro e w' ⟨he,g⟩
  exact ⟨he,_,g1.trans g,X1,rfl,by rw [s1,h.says],s3,s2⟩
 ·rintro e w' ⟨rfl,S2,g,X',rfl,q1,q2,q3⟩
  exact ⟨rfl,_,h.to (a:=a) g rfl rfl rfl rfl h.now q2 q3 q1 (fun j hj=>⟨rfl,upd_ne _ _ hj,rfl⟩) ⟨n,D,tb,q.nd,q.at_,q.xv,q.tv,q.dv,q.nt,q.ns,q.t,q.seed,q.s0,q.sl,upd_at _ _ _,q.book,q.run,fun e=>q.on e,fun f e=>q.off f e⟩⟩
theorem zf3 (v:Option Value) (h:∀ x,v=some x→∃ k c,x=zbd k c∧k ≠ 0):∃ x y,v.getD (zbd 0 0)=zbd x y:=by
 cases v with
 | none=>exact ⟨0,0,rfl⟩
 | some x=>obtain ⟨k,c,rfl,_⟩:=h x rfl;exact ⟨k,c,rfl⟩
def Words (l:List (Int × Value)):Prop:=∀ i x,getA l i=some x→∃ k c,x=zbd k c∧k ≠ 0
theorem Words.nil:Words []:=fun _ _ h=>by cases h
theorem Words.put {l:List (Int × Value)} (h:Words l) (i k c:Int) (hk:k ≠ 0:=by decide):Words (putA l i (zbd k c)):=fun j x hx=>by
 rw [za7] at hx
 split at hx
 ·cases hx;exact ⟨k,c,rfl,hk⟩
 ·exact h j x hx
theorem zada (h:WX c w xs ls now) {a b:Nat} (ha:1 ≤ a∧a ≤ c.N) (hb:1 ≤ b∧b ≤ c.N) (hab:a ≠ b) (hct:c.cut (min (b:Int) a) (max (b:Int) a)=false) (hf:(xs a).fell=none) (hw:Words (xs a).told) {k:Nat} {s:Sw} {dd:Dl} (hg:getA (xs a).B dd.i=some s) (hd:s.d=dd) (hr:dd.r=1) (hp:dd.q=b) (hk:ls[k]?=some ((b:Int),(a:Int),zbi (zbg (zau dd a)))) (hc:za5 (zau dd a)=true) (hsm:Small dd.h.l) (hlen:ls.length ≤ 1000) {free:Int}:
  Calls Tryz.prog 24 #[.pointer (some ⟨c.wb,0,none⟩),.int .i64 k,.int .i64 free] w fun e w'=>e=.returned (.bool true)∧WX c w' (upd xs a { xs a with told:=putA (xs a).told dd.i (zbd 2 0) }) (ls.eraseIdx k) now:=by
 have lm:=zb5 (zbg (zau dd a))
 subst hd
 refine W_ans h ha hb hab hct hf hk (by omega) hlen fun S W1 n D tb ao cc mw hF lv bk tm tv hs=>?_
 rw [← bk] at hg
 obtain ⟨eb,em,hq⟩:=zeh hg
 obtain ⟨x,y,hxy⟩:=zf3 (getA (xs a).told s.d.i) (fun x hx=>hw _ _ hx)
 exact zyp (f:=b) (b:=a) (i:=s.d.i) (q:=⟨eb,em,s⟩) mw hF lv tm tv hs ⟨ziq hsm,by show (zbi (zbg (zau s.d a))).length < 1000000;omega⟩ hxy hq (by show (s.d.r == 1)=true;rw [hr];rfl) hp (zim (.inr rfl) (zfx hc).1)
def zi8 (l:List (Int × Value)) (i cd:Int):List (Int × Value):=if (getA l i).isSome then l else putA l i (zbd 3 cd)
theorem zadb (h:WX c w xs ls now) {a b:Nat} (ha:1 ≤ a∧a ≤ c.N) (hb:1 ≤ b∧b ≤ c.N) (hab:a ≠ b) (hct:c.cut (min (b:Int) a) (max (b:Int) a)=false) (hf:(xs a).fell=none) (hw:Words (xs a).told) {k:Nat} {s:Sw} {i cd:Int} (hg:getA (xs a).B i=some s) (hr:s.d.r=1) (hp:s.d.q=b) (hi:1 ≤ i∧i ≤ 1073741824) (hcd:1 ≤ cd∧cd ≤ 24) (hk:ls[k]?=some ((b:Int),(a:Int),putC i cd)) (hlen:ls.length ≤ 1000) {free:Int}:
  Calls Tryz.prog 24 #[.pointer (some ⟨c.wb,0,none⟩),.int .i64 k,.int .i64 free] w fun e w'=>e=.returned (.bool true)∧WX c w' (upd xs a { xs a with told:=zi8 (xs a).told i cd }) (ls.eraseIdx k) now:=by
 have lm:=zhe i cd
 have he:idE i (refE cd)=0:=by
  unfold idE refE
  rw [if_neg (by omega),if_neg (by omega)]
 refine W_ans h ha hb hab hct hf hk (by omega) hlen fun S W1 n D tb ao cc mw hF lv bk tm tv hs=>?_
 rw [← bk] at hg
 obtain ⟨eb,em,hq⟩:=zeh hg
 have hrs:Rs (putC i cd,0):=⟨zrz _ _,by show (putC i cd).length < 1000000;omega⟩
 obtain ⟨x,y,hxy⟩:=zf3 (getA (xs a).told i) (fun x hx=>hw _ _ hx)
 unfold zi8
 cases hkn:(getA (xs a).told i).isSome with
 | false=>exact zyq (f:=b) (b:=a) (i:=i) (q:=⟨eb,em,s⟩) mw hF lv tm tv hs hrs hxy hkn hq (by show (s.d.r == 1)=true;rw [hr];rfl) hp (zil he)
 | true=>
  have e:({ S with tm:=upd S.tm a (some (tb,(xs a).told)) }:MS)=S:=by rw [zyo _ tm]
  refine (zr7 (f:=b) (b:=a) (i:=i) (q:=⟨eb,em,s⟩) mw hF lv tm tv hs hrs hxy hkn hq (by show (s.d.r == 1)=true;rw [hr];rfl) hp (zil he)).mono ?_
  rintro e2 w' ⟨q1,q2⟩
  refine ⟨q1,?_⟩
  rw [if_pos rfl,e]
  exact q2
end
end
section
open Sx (Ab DW Turns Did Foot MapIs)
attribute [local go_sem ↓] zad zmj zp8
attribute [local go_sem] zaf zai zaj zal zab zah zac zak zae zaw za2 Sx.run_mk Ext.row Ext.soft_ is_h is_l
theorem zqk {cur C:Array Value} {a n:Nat} (hn:n ≤ C.size) (h:∀ o,o < n→cur[a + o]?=C[o]?):sub cur a n=sub C 0 n:=by
 unfold sub
 apply Array.ext_getElem?
 intro j
 rw [Array.getElem?_extract,Array.getElem?_extract]
 by_cases hj:j < n
 ·have l:a + j < cur.size:=by
   have e:=h j hj
   rw [Array.getElem?_eq_getElem (by omega:j < C.size)] at e
   exact (zadu e).1
  have l2:a + n ≤ cur.size:=by
   rcases Nat.eq_zero_or_pos n with e | e
   ·omega
   ·have e:=h (n - 1) (by omega)
    rw [Array.getElem?_eq_getElem (by omega:n - 1 < C.size)] at e
    have:=(zadu e).1
    omega
  rw [if_pos (by omega),if_pos (by omega),h j hj,Nat.zero_add]
 ·rw [if_neg (by omega),if_neg (by omega)]
def swB (B:List (Int × Sw)) (ks:List Int):List Value:=ks.flatMap fun k=>(swS (getA B k)).list
theorem swB_eq (M:List (Int × En)) (ks:List Int):swL M ks=swB (bkOf M) ks:=by
 unfold swL swB
 congr 1
 funext k
 rw [swO_bk]
theorem zvu (B:List (Int × Sw)):∀ (ks:List Int) (j:Nat) (hj:j < ks.length) (o:Nat),o < 75→(swB B ks)[j * 75 + o]?=(swS (getA B ks[j])).list[o]?
 | [],j,hj,_,_=>absurd hj (Nat.not_lt_zero _)
 | k :: ks,0,_,o,ho=>by
  show ((swS (getA B k)).list ++ swB B ks)[0 * 75 + o]?=_
  rw [List.getElem?_append_left (by rw [zgx];omega),Nat.zero_mul,Nat.zero_add]
  rfl
 | k :: ks,j + 1,hj,o,ho=>by
  show ((swS (getA B k)).list ++ swB B ks)[(j + 1) * 75 + o]?=_
  rw [List.getElem?_append_right (by rw [zgx];omega),zgx,show (j + 1) * 75 + o - 75=j * 75 + o by omega,zvu B ks j (by simpa using hj) o ho]
  rfl
theorem zvv {w:World} {A n cap:Nat} {ao:Option Addr} {B:List (Int × Sw)} {ks:List Int} (h:w.ownsRow A 62 75 (.slice ao n cap) n (swB B ks)) (hl:ks.length=n) {j:Nat} (hj:j < n) {k:Int} (hk:ks[j]?=some k):∃ g cur,ao=some ⟨g,0,none⟩∧w.heap[g]?=some (.cells cur 62)∧j * 75 + 41 ≤ cur.size∧n ≤ cap∧sub cur (j * 75) 41=(swS (getA B k)).d.cells:=by
 subst hl
 rcases h.2 with ⟨hv,h0⟩ | ⟨g,cp,cur,hv,_,hh,hc,_,hs,ht⟩
 ·omega
 ·cases hv
  have hz:cur.size=cap * 75:=hs
  have hz2:ks.length * 75 ≤ cap * 75:=Nat.mul_le_mul_right 75 hc
  have hj2:(j + 1) * 75 ≤ ks.length * 75:=Nat.mul_le_mul_right 75 hj
  have ek:ks[j]=k:=Option.some.inj ((zady hj).symm.trans hk)
  refine ⟨g,cur,rfl,hh,by omega,hc,?_⟩
  rw [zqk (C:=(swS (getA B k)).cells) (by rw [zln];decide) fun o ho=>?_]
  ·exact s_d _
  ·have e:=zvu B ks j hj o (by omega)
   rw [← ht,List.getElem?_take_of_lt (by omega),ek] at e
   simpa [Sw.cells] using e
section
variable {c:Wd} {w w':World} {S S':MS} {xs:Nat→Nod} {ls ls':List (Int × Int × List Nat)} {now now':Cl}
theorem ziy (h:WX c w xs ls now) {a:Nat} (ha:1 ≤ a∧a ≤ c.N):Calls Tryz.prog 21 #[.pointer (some ⟨c.wb,0,none⟩),.int .i64 a] w fun e w'=>∃ ao cap ks,e=.returned (.slice ao ks.length cap)∧ks.Perm ((xs a).B.map (·.1))∧w'.ownsRow w.heap.size 62 75 (.slice ao ks.length cap) ks.length (swB (xs a).B ks)∧Below w.heap.size w w':=by
 obtain ⟨S,h⟩:=h
 obtain ⟨n,D,tb,q,at1⟩:=h.at_ ha
 have hfb:Fine (bkOf D.M):=by rw [q.book];exact Fine.nil.run q.run
 rw [← h.wb]
 refine (zmo h.mw q.has hfb.book.1 hfb.book.2).mono ?_
 rintro e w' ⟨ao,cap,ks,he,hp,ho,hb⟩
 refine ⟨ao,cap,ks,he,?_,?_,hb⟩
 ·rw [← q.book,zmb];exact hp
 ·rw [← q.book,← swB_eq];exact ho
def Mirr (N:Nat) (xs:Nat→Nod):Prop:=∀ n,1 ≤ n→n ≤ N→∀ k s,getA (xs n).B k=some s→s.d.r=2→∃ m:Nat,1 ≤ m∧m ≤ N∧s.d.q=m∧∃ s',getA (xs m).B k=some s'∧s'.d=⟨k,1,s.d.g,s.d.p,s.d.h,n⟩
theorem WX.fine (h:WX c w xs ls now) {a:Nat} (ha:1 ≤ a∧a ≤ c.N):Fine (xs a).B:=by
 obtain ⟨S,h⟩:=h
 obtain ⟨n,D,tb,q,_⟩:=h.at_ ha
 exact Fine.nil.run q.run
theorem zf4 {B:List (Int × Sw)} {k:Int} (h:k ∈ B.map (·.1)):∃ s,getA B k=some s:=by
 cases e:getA B k with
 | none=>exact absurd h (zhq.1 e)
 | some s=>exact ⟨s,rfl⟩
set_option maxHeartbeats 4000000 in
theorem zr8 (h:WX c w xs ls now) (hN:c.N ≤ 100) (hm:Mirr c.N xs):Calls Tryz.prog 11 #[.pointer (some ⟨c.wb,0,none⟩),.int .i64 c.N] w fun e w'=>e=.returned (.bool true)∧Below w.heap.size w w':=by
 have H:=zadv h
 have HM:=zadv hm
 have HN:=zadv hN
 clear h hm hN
 go_enter Tryz.func11,Tryz.ntmps11
 go_upto_region 2 with (fail)
 go_loopw [5] (fun i wr=>∃ k:Nat,1 ≤ k∧k ≤ c.N + 1∧i=.int .i64 k∧Below w.heap.size w wr) (fun i _=>c.N + 1 - (intOf i).toNat)
 case atStart=>exact ⟨1,by omega,by omega,rfl,Below.refl _ w⟩
 case round=>
  obtain ⟨k,hk1,hk2,rfl,hb⟩:=hrel
  have HB:=zadv hb
  clear hb
  have wk:IntKind.i64.wrap ((k:Int) + 1)=(k:Int) + 1:=zar (by omega) (by have:=HN.out;omega)
  by_cases hlt:k ≤ c.N
  ·have i1:(k:Int) ≤ c.N:=by omega
   have SW:=zadv (ziy (H.out.below HB.out) (a:=k) ⟨hk1,hlt⟩)
   go_upto_region 6 with (go_at_call 21;refine SW.out.mono ?_;rintro _ V ⟨ao,cap,ks,rfl,hp,ho,hb⟩)
   have HO:=zadv (zadx hp ho)
   have HV:=zadv (HB.out.trans (hb.mono HB.out.size))
   have hl16:ks.length ≤ 16:=by rw [hp.length_eq,List.length_map];exact (H.out.fine ⟨hk1,hlt⟩).len
   have HL:=zadv hl16
   clear hp ho hb SW hl16
   go_loopw [7] (fun i wr=>∃ j:Nat,j ≤ ks.length∧i=.int .i64 j∧Below V.heap.size V wr) (fun i _=>ks.length - (intOf i).toNat)
   case atStart=>exact ⟨0,Nat.zero_le _,rfl,Below.refl _ V⟩
   case round=>
    obtain ⟨j,hj,rfl,hbv⟩:=hrel
    have wj:IntKind.i64.wrap ((j:Int) + 1)=(j:Int) + 1:=zar (by omega) (by have:=HL.out;omega)
    by_cases hjl:j < ks.length
    ·have j1:(j:Int) < ks.length:=by omega
     obtain ⟨kk,hkk⟩:∃ kk,ks[j]?=some kk:=⟨_,zady hjl⟩
     obtain ⟨g,cur,rfl,hg,hcz,hcap,hsub⟩:=zvv HO.out.2 rfl hjl hkk
     obtain ⟨s,hs⟩:=zf4 (HO.out.1.mem_iff.1 (List.mem_of_getElem? hkk))
     have fi:=(H.out.fine ⟨hk1,hlt⟩).at hs
     rw [hs] at hsub
     replace hsub:sub cur (j * 75) 41=s.d.cells:=hsub
     have rg:=zaa ((hbv.block g (zadu hg).1).trans hg)
     have HS:=zadv (zadx hs fi)
     have HBV:=zadv hbv
     clear hg hs fi hkk hbv
     go_upto_region 9 with (fail)
     have B3:=Bx.made wr Dl.zero.cells s.d.cells 60
     generalize (wr.alloc (.cells Dl.zero.cells 60)).setRow wr.heap.size s.d.cells=V3 at B3 ⊢
     have rd:=B3.rowOf
     have b3:=HBV.out.trans (B3.below.mono HBV.out.size)
     have HB3:=zadv b3
     have br:=B3.row
     generalize wr.heap.size=db at *
     generalize hdd:s.d=d at *
     have HDD:=zadv hdd
     have BD:=zadv br
     clear rg hsub b3 B3 hdd br
     cases hr:(d.r != 2) with
     | true=>
      go_wp2
      go_roundw
      case rel=>exact ⟨j + 1,by omega,rfl,HB3.out⟩
      case measure=>simp [intOf];omega
     | false=>
      have hr2:d.r=2:=by simpa using hr
      obtain ⟨m,m1,m2,hq,s',hs',hd'⟩:=HM.out k hk1 hlt kk s HS.out.1 (by rw [HDD.out];exact hr2)
      rw [HDD.out] at hq hd'
      have ekk:d.i=kk:=HS.out.2.1
      have SW2:=ziy (H.out.below (HV.out.trans (HB3.out.mono HV.out.size))) (a:=m) ⟨m1,m2⟩
      rw [← hq] at SW2
      have SW2:=zadv SW2
      have HX:=zadv (zadx m1 (zadx m2 (zadx hs' (zadx hd' (zadx ekk hq)))))
      clear m1 m2 hs' hd' ekk hq hr2
      go_upto_region 13 with (go_at_call 21;refine SW2.out.mono ?_;rintro _ V4 ⟨ao2,cap2,ks2,rfl,hp2,ho2,hb2⟩)
      have HO2:=zadv (zadx hp2 ho2)
      have HB4:=zadv (HB3.out.trans (hb2.mono HB3.out.size))
      have x8:=zadv ((hb2.block _ (zadu BD.out).1).trans BD.out)
      have l16:ks2.length ≤ 16:=by rw [hp2.length_eq,List.length_map];exact (H.out.fine ⟨HX.out.1,HX.out.2.1⟩).len
      have HL2:=zadv l16
      clear hp2 ho2 hb2 SW2 l16 rd
      go_loopw [10,11] (fun f i wr=>∃ z:Nat,z ≤ ks2.length∧i=.int .i64 z∧f=.bool ((ks2.take z).any (· == kk))∧Below V4.heap.size V4 wr) (fun _ i _=>ks2.length - (intOf i).toNat)
      case atStart=>exact ⟨0,Nat.zero_le _,rfl,rfl,Below.refl _ V4⟩
      case round=>
       obtain ⟨z,hz,rfl,rfl,hbz⟩:=hrel
       have wz:IntKind.i64.wrap ((z:Int) + 1)=(z:Int) + 1:=zar (by omega) (by have:=HL2.out;omega)
       by_cases hzl:z < ks2.length
       ·have z1:(z:Int) < ks2.length:=by omega
        obtain ⟨k3,hk3⟩:∃ k3,ks2[z]?=some k3:=⟨_,zady hzl⟩
        obtain ⟨g2,cur2,rfl,hg2,hcz2,hcap2,hsub2⟩:=zvv HO2.out.2 rfl hzl hk3
        obtain ⟨s3,hs3⟩:=zf4 (HO2.out.1.mem_iff.1 (List.mem_of_getElem? hk3))
        have fi3:=(H.out.fine ⟨HX.out.1,HX.out.2.1⟩).at hs3
        rw [hs3] at hsub2
        replace hsub2:sub cur2 (z * 75) 41=s3.d.cells:=hsub2
        have rg2:=zaa ((hbz.block g2 (zadu hg2).1).trans hg2)
        have r8:=zaa ((hbz.block _ (zadu x8.out).1).trans x8.out)
        have hnx:(ks2.take (z + 1)).any (· == kk)=((ks2.take z).any (· == kk) || k3 == kk):=by
         have e3:ks2[z]=k3:=Option.some.inj ((zady hzl).symm.trans hk3)
         rw [List.take_succ_eq_append_getElem hzl,List.any_append,e3]
         simp
        have HNX:=zadv hnx
        have HBZ:=zadv hbz
        have l8:db < wr.heap.size:=Nat.lt_of_lt_of_le (zadu x8.out).1 hbz.size
        clear hg2 hk3 hnx hbz
        have dq:k3=kk∧s3.d=⟨d.i,1,d.g,d.p,d.h,k⟩ ∨ (k3 == kk)=false∧(s3.d.i == d.i)=false:=by
         by_cases e:k3=kk
         ·refine .inl ⟨e,?_⟩
          subst e
          have e2:=Option.some.inj (hs3.symm.trans HX.out.2.2.1)
          rw [e2,HX.out.2.2.2.1,HX.out.2.2.2.2.1]
         ·refine .inr ⟨by simpa using e,?_⟩
          rw [fi3.1,HX.out.2.2.2.2.1]
          simpa using e
        have DQ:=zadv dq
        clear dq fi3 hs3
        go_upto_region 16 with (fail)
        have B5:=Bx.made wr Dl.zero.cells s3.d.cells 60
        have r8':=(za9 (B5.below.block _ l8)).trans r8
        generalize (wr.alloc (.cells Dl.zero.cells 60)).setRow wr.heap.size s3.d.cells=V5 at B5 r8' ⊢
        have rd5:=B5.rowOf
        have HB5:=zadv (HBZ.out.trans (B5.below.mono HBZ.out.size))
        generalize s3.d=d3 at *
        clear rg2 hsub2 B5 r8 l8
        generalize hfn:(ks2.take z).any (· == kk)=fn at *
        have NX:∀ b,(fn || k3 == kk)=b→(ks2.take (z + 1)).any (· == kk)=b:=fun b e=>HNX.out.trans e
        have NX:=zadv NX
        clear hfn
        cases fn with
        | true=>
         go_wp2
         go_roundw
         case rel=>exact ⟨z + 1,by omega,rfl,congrArg Value.bool (NX.out true rfl).symm,HB5.out⟩
         case measure=>simp [intOf];omega
        | false=>
         rcases DQ.out with ⟨e,rfl⟩ | ⟨e,e2⟩
         ·have ne:=NX.out true (by rw [e];simp)
          have NE:=zadv ne
          have t1:(d.i == d.i)=true:=by simp
          have t2:((k:Int) == (k:Int))=true:=by simp
          clear e ne
          go_wp2
          go_roundw
          case rel=>exact ⟨z + 1,by omega,rfl,congrArg Value.bool NE.out.symm,HB5.out⟩
          case measure=>simp [intOf];omega
         ·have ne:=NX.out false (by rw [e];rfl)
          have NE:=zadv ne
          clear e ne
          cases e3:(d3.r == 1) with
          | true=>
           go_wp2
           go_roundw
           case rel=>exact ⟨z + 1,by omega,rfl,congrArg Value.bool NE.out.symm,HB5.out⟩
           case measure=>simp [intOf];omega
          | false=>
           go_wp2
           go_roundw
           case rel=>exact ⟨z + 1,by omega,rfl,congrArg Value.bool NE.out.symm,HB5.out⟩
           case measure=>simp [intOf];omega
       ·obtain rfl:z=ks2.length:=by omega
        have ef:(ks2.take ks2.length).any (· == kk)=true:=by
         rw [List.take_length,List.any_eq_true]
         exact ⟨kk,HO2.out.1.mem_iff.2 (List.mem_map.2 ⟨_,zb7 HX.out.2.2.1,rfl⟩),by simp⟩
        rw [ef]
        have z1:¬ (ks2.length:Int) < ks2.length:=by omega
        have HBZ:=zadv (HB4.out.trans (hbz.mono HB4.out.size))
        clear ef hbz
        go_wp2
        go_roundw
        case rel=>exact ⟨j + 1,by omega,rfl,HBZ.out⟩
        case measure=>simp [intOf];omega
    ·obtain rfl:j=ks.length:=by omega
     have j1:¬ (ks.length:Int) < ks.length:=by omega
     have HBV:=zadv (HV.out.trans (hbv.mono HV.out.size))
     clear hbv
     go_wp2
     go_roundw
     case rel=>exact ⟨k + 1,by omega,by omega,rfl,HBV.out⟩
     case measure=>simp [intOf];omega
  ·obtain rfl:k=c.N + 1:=by omega
   have i1:¬ ((c.N + 1:Nat):Int) ≤ c.N:=by omega
   go_wp2
   go_ret
   exact ⟨rfl,HB.out⟩
end
end
end Go.Proofs.YthjgiamfaijoeaaGreatDoor
