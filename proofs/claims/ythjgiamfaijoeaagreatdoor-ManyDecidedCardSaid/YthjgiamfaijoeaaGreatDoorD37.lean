/- What is proved: parts of the walk and of the plain law. No condition but those each law names. -/
import Derived.Test.YthjgiamfaijoeaaGreatDoorD36
import Derived.Test.YthjgiamfaijoeaaGreatDoorD00
set_option linter.unusedSimpArgs false
set_option linter.unusedVariables false
set_option maxRecDepth 100000
namespace Go.Proofs.YthjgiamfaijoeaaGreatDoor
open Go.RowKit
section
open Sx (Ab DW Turns Did Foot MapIs)
attribute [local go_sem ↓] zad
attribute [local go_sem] zaf zai zaj zal zab zah zac zak zae zaw za2 Sx.run_mk Ext.row Ext.soft_
theorem say_at {w:World} {S:MS} {wb:Nat} (hw:S.wb=wb) (h:MW w S) (hnb:S.nb=S.X.nb) {m:Msg} {l:List Nat} (hput:∀ w,Below S.u.heap.size S.u w→Calls Tryz.prog 100 #[.agg m.cells] w (zfp l w)) (hll:l.length ≤ 400) (hn:S.X.L.length < 1000) {a b:Int} (a1:(a ≥ 1)=True) (a2:(a ≤ S.X.nodes)=True) (b1:(b ≥ 1)=True) (b2:(b ≤ S.X.nodes)=True) (hab:(a != b)=true):
  Calls Tryz.prog 64 #[.pointer (some ⟨wb,0,none⟩),.int .i64 a,.int .i64 b,.agg m.cells] w fun e w'=>e=.returned (.tuple #[])∧∃ X',Goes w S w' { S with X:=X' }∧X'.says=S.X.says ++ [(a,b,l)]∧X'.nodes=S.X.nodes∧X'.nb=S.X.nb:=hw ▸ zvk h hnb hput hll hn a1 a2 b1 b2 hab
set_option maxHeartbeats 2000000 in
theorem zoi {w:World} {S:MS} (h:MW w S) (hnb:S.nb=S.X.nb) {a b:Nat} {n:Nd} {D:Dm} (is:Live S a n D) {nb2:Nat} (is2:S.at_ b=ptA nb2) (hab:a ≠ b) (ha:1 ≤ a∧(a:Int) ≤ S.X.nodes) (hb:1 ≤ b∧(b:Int) ≤ S.X.nodes) (hlen:S.X.L.length < 1000)
   {i:Int} {p g:Lg} {R:Msg→Int→MS→Prop} (hS:∀ m S',R m 0 S'→S'.X=S.X∧(zbi m).length ≤ 400∧∀ w,Below S'.u.heap.size S'.u w→Calls Tryz.prog 100 #[.agg m.cells] w (zfp (zbi m) w))
   (hP:∀ W,Below w.heap.size w W→Calls Tryz.prog 67 #[.pointer (some ⟨D.xb,0,none⟩),.int .i64 i,.int .i64 b,.agg p.cells,.agg g.cells,.agg S.now.cells] W fun e w'=>∃ m k S',e=.returned (.tuple #[.agg m.cells,.int .i64 k])∧Kp S S' a n∧R m k S'∧Goes w S w' S'∧Comp W w' S.all S'.all):
   Calls Tryz.prog 29 #[.pointer (some ⟨S.wb,0,none⟩),.int .i64 a,.int .i64 b,.int .i64 i,.agg p.cells,.agg g.cells] w fun e w'=>∃ m k S',e=.returned (.int .i64 k)∧Kp S S' a n∧R m k S'∧(k ≠ 0→Goes w S w' S')∧(k=0→∃ X',Goes w S w' { S' with X:=X' }∧X'.says=S.X.says ++ [((a:Int),(b:Int),zbi m)]∧X'.nodes=S.X.nodes∧X'.nb=S.X.nb):=by
 have ab:((a:Int) == b)=false:=by simp;omega
 have H:=zadv h
 have IS:=zadv is
 have PR:=zadv hP
 have I2:=zadv is2
 have HS:=zadv hS
 have HC:=zadv (zadx hnb (zadx hab (zadx ha (zadx hb hlen))))
 clear h is hP is2 hS hnb hab ha hb hlen
 go_enter Tryz.func29,Tryz.ntmps29
 go_upto_region 1 with (fail)
 have bx:=Bxs.new2 w (p.cells) 30 (g.cells) 30;generalize ((w.alloc (.cells (p.cells) 30)).alloc (.cells (g.cells) 30))=W at bx ⊢;have rx0:=bx.row' 0 rfl;have sx0:=bx.soft' 0 rfl;(try simp only [Nat.add_zero] at rx0 sx0);have rx1:=bx.row' 1 rfl;have sx1:=bx.soft' 1 rfl;(try simp only [Nat.add_zero] at rx1 sx1);have BX:=zadv bx;clear bx
 have G:=zadv (H.out.below BX.out.below)
 have lk:=G.out.mw.look a
 rw [MS.at_some IS.out.at_] at lk
 have lk2:=G.out.mw.look b
 rw [I2.out] at lk2
 unfold ptA at lk lk2
 have rw0:=zaa G.out.mw.wrAt
 have OF:=zadv (IS.out.off G.out.mw)
 have RN:=zadv (IS.out.row G.out.mw)
 go_wp2_with (go_at_call 57;refine OF.out.mono ?_;rintro _ V ⟨rfl,rfl⟩;clear lk lk2 ab OF;have rn:=RN.out;clear RN)
 have B2:Below w.heap.size w V.drew:=BX.out.below.drew
 have zV:w.heap.size + 1 < V.heap.size:=BX.out.lt 1 rfl
 have zn:n.b < w.heap.size:=(zadu (H.out.ndAt IS.out.nd).row).1
 have zw:S.wb < w.heap.size:=(zadu H.out.wrAt).1
 have hz:n.b < V.heap.size∧S.wb < V.heap.size∧w.heap.size < V.heap.size∧w.heap.size + 1 < V.heap.size:=by omega
 have R1:PH n.b S.wb w.heap.size (w.heap.size + 1) _ _ _ _ V:=⟨rn,rw0,rx0,rx1⟩
 have RZ:∀ (W Z:World) (S':MS),PH n.b S.wb w.heap.size (w.heap.size + 1) (ndC (.pointer (some ⟨D.xb,0,none⟩)) n.t n.sv n.dv n.tv) (wrC S.nb S.mb S.now) p.cells g.cells W→V.heap.size ≤ W.heap.size→Kp S S' a n→Comp W Z S.all S'.all→Goes w S Z S'→PH n.b S.wb w.heap.size (w.heap.size + 1) (ndC (.pointer (some ⟨D.xb,0,none⟩)) n.t n.sv n.dv n.tv) (wrC S.nb S.mb S.now) p.cells g.cells Z:=fun W Z S' r hW kp hc g=>by
   have hn:∀ k,w.heap.size ≤ k→¬ S.all k:=fun k hk q=>by have:=H.out.all_lt q;omega
   have rw1:=zaa g.mw.wrAt
   rw [kp.wb,kp.nb,kp.mb,kp.now] at rw1
   refine ⟨?_,rw1,(za9 (hc.keep _ (by omega) (hn _ (zadw _))).1).trans r.2.2.1,(za9 (hc.keep _ (by omega) (hn _ (Nat.le_succ _))).1).trans r.2.2.2⟩
   have:=zaa (g.mw.ndAt (k:=a) kp.nd).row
   unfold Nd.cells at this
   rw [IS.out.xv] at this
   exact this
 have R1:=zadv R1
 have RZ:=zadv RZ
 have hz:=zadv hz
 have zV:=zadv zV
 clear zn zw rn rw0 rx0 rx1 sx0 sx1
 have B3:Below w.heap.size w (V.drew.alloc (.cells Msg.zero.cells 118)):=B2.alloc (by have:=zV.out;simp;omega) _
 have HB:=zadv (zadx B2 B3)
 clear B2 B3
 go_region_held3 (fun w'=>rowOf w' n.b=ndC (.pointer (some ⟨D.xb,0,none⟩)) n.t n.sv n.dv n.tv∧rowOf w' S.wb=wrC S.nb S.mb S.now∧rowOf w' w.heap.size=p.cells∧rowOf w' (w.heap.size + 1)=g.cells)
   (first
     | exact R1.out
     | exact PH.alloc (w:=V.drew) _ R1.out hz.out (zadw _)
     | exact RA.out
     | exact RA.out.alloc _ hz.out HSZ.out.1
     | exact RA.out.set _ hz.out (zadw _)
     | exact (RA.out.alloc _ hz.out HSZ.out.1).set _ hz.out HSZ.out.1)
   ((go_at_call 67;first
     | (refine (PR.out _ HB.out.1).mono ?_;rintro _ Z ⟨m,k,S',rfl,kp,rs,g3,c3⟩;have RA:=zadv (RZ.out V.drew _ _ R1.out (zadw _) kp c3 g3);have G3:=zadv g3;have Q1:=zadv (zadx kp rs);have HSZ:=zadv (zadx c3.size True.intro);clear g3 c3 kp rs)
     | (refine (PR.out _ HB.out.2).mono ?_;rintro _ Z ⟨m,k,S',rfl,kp,rs,g3,c3⟩
        have RA:=zadv (RZ.out (V.drew.alloc (.cells Msg.zero.cells 118)) _ _ (PH.alloc (w:=V.drew) _ R1.out hz.out (zadw _)) (by simp) kp c3 g3)
        have KP:=c3.keep V.heap.size (by simp) (fun q=>by have:=H.out.all_lt q;have:=zV.out;omega)
        have hm:Z.heap[V.heap.size]?=some (.cells Msg.zero.cells 118):=KP.1.trans (heap_alloc_new V.drew _)
        have rm:=zaa hm
        have sm:=zan hm
        have G3:=zadv g3;have Q1:=zadv (zadx kp rs)
        have HSZ:=zadv (zadx (show V.heap.size ≤ Z.heap.size from by have:=c3.size;simp at this;omega) KP.2)
        clear g3 c3 kp rs hm KP)))
 all_goals
   clear PR RZ R1
   obtain ⟨mb,Y,e1,e2,g4,rm4,sm4⟩:=(by first | exact end_b G3.out (Nat.le_of_lt (Nat.lt_of_succ_lt zV.out)) HSZ.out.2 m.cells sm | exact end_a G3.out Msg.zero.cells m.cells 118)
   rw [← e2,← e1]
   clear e1 e2
   by_cases k0':k=0
   · subst k0'
     obtain ⟨t1,t2,t3⟩:=HS.out m S' Q1.out.2
     obtain ⟨c1,c2,c3,c4,c5⟩:=HC.out
     have SY:=zadv (say_at (m:=m) (l:=zbi m) (a:=a) (b:=b) Q1.out.1.wb g4.mw (by rw [Q1.out.1.nb,t1];exact c1) t3 t2 (by rw [t1];exact c5) (eq_true (by omega)) (eq_true (by rw [t1];exact c3.2)) (eq_true (by omega)) (eq_true (by rw [t1];exact c4.2)) (by simp;omega))
     have G4:=zadv g4
     have T1:=zadv t1
     clear g4 t1 t2 t3 c1 c2 c3 c4 c5
     go_wp2_with (go_at_call 64;refine SY.out.mono ?_;rintro _ U ⟨rfl,X',g5,s1,s2,s3⟩;have G5:=zadv (G4.out.trans g5);have SS:=zadv (zadx s1 (zadx s2 s3));clear g5 s1 s2 s3)
     go_ret
     have ss:=SS.out
     rw [T1.out] at ss
     exact ⟨m,0,S',rfl,Q1.out.1,Q1.out.2,fun q=>absurd rfl q,fun _=>⟨X',G5.out,ss⟩⟩
   · have k0:(k == 0)=false:=beq_eq_false_iff_ne.2 k0'
     have G4:=zadv g4
     have K0:=zadv k0'
     clear g4 k0'
     go_wp2
     go_ret
     exact ⟨m,k,S',rfl,Q1.out.1,Q1.out.2,fun _=>G4.out,fun q=>absurd q K0.out⟩
structure OnD (D:Dm) (L:List It) (B:List (Int × Sw)):Prop where
 on:D.A.off=false
 rows:D.R=zbc L
 book:bkOf D.M=B
 run:Run [] L B
structure DnD (D:Dm) (L:List It) (B:List (Int × Sw)) (a:It):Prop where
 fell:Fell D L a
 book:bkOf D.M=B
 run:Run [] L B
 add:∃ B2,Adds B a B2
theorem On.d {w:World} {D:Dm} {L:List It} {B:List (Int × Sw)} (h:On w D L B):OnD D L B:=⟨h.on,h.rows,h.book,h.run⟩
theorem OnD.on' {w:World} {D:Dm} {L:List It} {B:List (Int × Sw)} (h:OnD D L B) (d:Dae w D):On w D L B:=⟨d,h.on,h.rows,h.book,h.run⟩
structure Stay (D D':Dm):Prop where
 xb:D'.xb=D.xb
 t:D'.t=D.t
 seed:D'.seed=D.seed
 dv:D'.dv=D.dv
theorem Trans.stay {w w':World} {D D':Dm} (t:Trans w D w' D'):Stay D D':=⟨t.xb,t.t,t.seed,t.dv⟩
theorem MW.fall {w w':World} {S:MS} (h:MW w S) {k:Nat} {D D':Dm} (hk:S.ds k=.live D) (t:Trans w D w' D') (hd:Dae0 true w' D'):Goes w S w' { S with ds:=upd S.ds k (.dead D') }:=
 h.da k (by rw [hk];exact t.comp) hd
theorem KeptNo.dn {w w':World} {D:Dm} {L its:List It} (h:KeptNo w D L its w'):¬ Calm D.A∧∃ D' k a,its[k]?=some a∧DnD D' (L ++ its.take k) (bkOf D'.M) a∧Dae0 true w' D'∧Trans w D w' D':=by
 obtain ⟨q1,D',k,a,q2,q3,q4,q5,q6,q7⟩:=h
 exact ⟨q1,D',k,a,q2,⟨q4,rfl,q5,q6⟩,q3,q7⟩
theorem zoj {w:World} {S:MS} (h:MW w S) (hnb:S.nb=S.X.nb) (hF:Forms S.u) (hT:Tabs S.u) {a b:Nat} {n:Nd} {D:Dm} (is:Live S a n D) {nb2:Nat} (is2:S.at_ b=ptA nb2) (hk:TmK D.t) (hsl:D.seed.length ≤ 64) (hab:a ≠ b) (ha:1 ≤ a∧(a:Int) ≤ S.X.nodes) (hb:1 ≤ b∧(b:Int) ≤ S.X.nodes) (hlen:S.X.L.length < 1000)
   {L:List It} {B:List (Int × Sw)} (ho:OnD D L B) {i:Int} {p g:Lg} (hi:I64 i):
   Calls Tryz.prog 29 #[.pointer (some ⟨S.wb,0,none⟩),.int .i64 a,.int .i64 b,.int .i64 i,.agg p.cells,.agg g.cells] w fun e w'=>∃ k,e=.returned (.int .i64 k)∧
     ((k ≠ 0∧zb9 D B i b p g S.now=k∧Goes w S w' S) ∨
      (k=0∧zb9 D B i b p g S.now=0∧∃ X' D',Goes w S w' { S with X:=X',ds:=upd S.ds a (.live D') }∧OnD D' (L ++ [.dl (zbo D i b p g S.now),.se i (secretH (D.seed ++ intI i))]) (putA B i (ze0 (zbo D i b p g S.now) (secretH (D.seed ++ intI i))))∧(Calm D.A→Calm D'.A)∧Stay D D'∧X'.says=S.X.says ++ [((a:Int),(b:Int),zbi (zax (zbo D i b p g S.now)))]∧X'.nodes=S.X.nodes∧X'.nb=S.X.nb) ∨
      (k=9∧zb9 D B i b p g S.now=0∧¬ Calm D.A∧∃ D' j c,[It.dl (zbo D i b p g S.now),.se i (secretH (D.seed ++ intI i))][j]?=some c∧Goes w S w' { S with ds:=upd S.ds a (.dead D') }∧DnD D' (L ++ [It.dl (zbo D i b p g S.now),.se i (secretH (D.seed ++ intI i))].take j) (bkOf D'.M) c∧Stay D D')):=by
 generalize hd:zbo D i b p g S.now=d
 refine (zoi (i:=i) (p:=p) (g:=g) (R:=fun m k S'=>(k ≠ 0∧zb9 D B i b p g S.now=k∧S'=S) ∨
     (k=0∧zb9 D B i b p g S.now=0∧m=zax d∧∃ D',S'={ S with ds:=upd S.ds a (.live D') }∧OnD D' (L ++ [.dl d,.se i (secretH (D.seed ++ intI i))]) (putA B i (ze0 d (secretH (D.seed ++ intI i))))∧(Calm D.A→Calm D'.A)∧Stay D D') ∨
     (k=9∧zb9 D B i b p g S.now=0∧¬ Calm D.A∧∃ D' j c,[It.dl d,.se i (secretH (D.seed ++ intI i))][j]?=some c∧S'={ S with ds:=upd S.ds a (.dead D') }∧DnD D' (L ++ [It.dl d,.se i (secretH (D.seed ++ intI i))].take j) (bkOf D'.M) c∧Stay D D')) h hnb is is2 hab ha hb hlen (fun m S' q=>?_) (fun W hW=>?_)).mono ?_
 · rcases q with ⟨q,_⟩ | ⟨_,q1,rfl,D',rfl,q2⟩ | ⟨q,_⟩
   · exact absurd rfl q
   · refine ⟨rfl,Nat.le_trans (zb5 _) (by decide),fun W hW=>?_⟩
     have he:errD d=0:=by
       rw [← hd]
       unfold zb9 at q1
       split at q1
       · rename_i q;exact absurd q1 q
       · rename_i q;exact Decidable.not_not.1 q
     have hid:=zd1 he
     exact zic (hF.keep (zadw _) hW) (.inl rfl) hid.1 hid.2.1 hid.2.2.1 hid.2.2.2
   · cases q
 · have G2:=h.below hW
   refine (zog (peer:=(b:Int)) (n:=S.now) (ho.on' (is.dae G2.mw)) ((G2.mw.mine is.ds).base hF hT) hk hsl hi).mono ?_
   rw [hd]
   rintro e Z (⟨k,k0,q1,rfl,hb⟩ | ⟨q1,⟨rfl,D',o,c,t⟩ | ⟨rfl,q2⟩⟩)
   · have g3:=G2.mw.below hb
     exact ⟨_,k,S,rfl,⟨is.nd,rfl,rfl,rfl,rfl⟩,.inl ⟨k0,q1,rfl⟩,G2.trans g3,g3.comp⟩
   · have g3:=G2.mw.live (k:=a) is.ds t o.dae
     exact ⟨_,0,({ S with ds:=upd S.ds a (.live D') }:MS),rfl,⟨is.nd,rfl,rfl,rfl,rfl⟩,.inr (.inl ⟨rfl,q1,rfl,D',rfl,o.d,c,t.stay⟩),G2.trans g3,g3.comp⟩
   · obtain ⟨q3,D',j,c,q4,q5,q6,t⟩:=q2.dn
     have g3:=G2.mw.fall (k:=a) is.ds t q6
     exact ⟨_,9,({ S with ds:=upd S.ds a (.dead D') }:MS),rfl,⟨is.nd,rfl,rfl,rfl,rfl⟩,.inr (.inr ⟨rfl,q1,q3,D',j,c,q4,rfl,q5,t.stay⟩),G2.trans g3,g3.comp⟩
 · rintro e w' ⟨m,k,S',rfl,_,q,k1,k2⟩
   rcases q with ⟨q1,q2,rfl⟩ | ⟨rfl,q1,rfl,D',rfl,q2,q3,q4⟩ | ⟨rfl,q1,q2,D',j,c,q3,rfl,q4,q5⟩
   · exact ⟨k,rfl,.inl ⟨q1,q2,k1 q1⟩⟩
   · obtain ⟨X',g,s⟩:=k2 rfl
     exact ⟨0,rfl,.inr (.inl ⟨rfl,q1,X',D',g,q2,q3,q4,s⟩)⟩
   · exact ⟨9,rfl,.inr (.inr ⟨rfl,q1,q2,D',j,c,q3,k1 (by decide),q4,q5⟩)⟩
end
section
open Sx (Ab DW Turns Did Foot MapIs zbf)
theorem zgi {X:Nt} {k:Nat} {f t:Int} {l:List Nat} (h:X.says[k]?=some (f,t,l)):∃ x,X.L[k]?=some x∧x.f=f∧x.t=t∧x.l=l:=by
 unfold Nt.says at h
 rw [List.getElem?_map] at h
 cases e:X.L[k]? with
 | none=>rw [e] at h;cases h
 | some x=>
  rw [e] at h
  have h:=Option.some.inj h
  exact ⟨x,rfl,congrArg (·.1) h,congrArg (·.2.1) h,congrArg (·.2.2) h⟩
theorem zqg (X:Nt):X.says.length=X.L.length:=by simp [Nt.says]
structure Gone (S:MS) (j:Nat) (n:Nd) (D:Dm):Prop where
 nd:S.nd j=some n
 ds:S.ds j=.dead D
 at_:getA S.nodes j=some (ptA n.b)
 xv:n.xv=ptA D.xb
theorem Gone.dead {S:MS} {j:Nat} {n:Nd} {D:Dm} (h:Gone S j n D) {w:World} (m:MW w S):Dae0 true w D:=by
 have:=m.at_ (.da j)
 simp only [MS.part,h.ds] at this
 exact this
theorem Gone.row {S:MS} {j:Nat} {n:Nd} {D:Dm} (h:Gone S j n D) {w:World} (m:MW w S):rowOf w n.b=ndC (.pointer (some ⟨D.xb,0,none⟩)) n.t n.sv n.dv n.tv:=by
 have:=zaa (m.ndAt h.nd).row
 unfold Nd.cells at this
 rw [h.xv] at this
 exact this
theorem Gone.off {S:MS} {j:Nat} {n:Nd} {D:Dm} (h:Gone S j n D) {w:World} (m:MW w S):Calls Tryz.prog 57 #[ptA n.b] w fun e w'=>e=.returned (.bool true)∧w'=w:=zoc (h.row m) (zaa (h.dead m).row)
structure Nod where
 sd:List Nat
 L:List It
 B:List (Int × Sw)
 fell:Option It
 calm:Bool
 told:List (Int × Value)
structure NJ (S:MS) (j:Nat) (x:Nod) (n:Nd) (D:Dm) (tb:Nat):Prop where
 nd:S.nd j=some n
 at_:getA S.nodes j=some (ptA n.b)
 xv:n.xv=ptA D.xb
 tv:n.tv=.map (some tb)
 dv:n.dv=D.dv
 nt:n.t=T26
 ns:n.seed=x.sd
 t:D.t=T26
 seed:D.seed=x.sd
 s0:0 < x.sd.length
 sl:x.sd.length ≤ 64
 tm:S.tm j=some (tb,x.told)
 book:bkOf D.M=x.B
 run:Run [] x.L x.B
 on:x.fell=none→S.ds j=.live D∧D.A.off=false∧D.R=zbc x.L∧(x.calm=true→Calm D.A)
 off:∀ a,x.fell=some a→S.ds j=.dead D∧Fell D x.L a∧∃ B2,Adds x.B a B2
def NI (S:MS) (j:Nat) (x:Nod):Prop:=∃ n D tb,NJ S j x n D tb
structure Wd where
 u:World
 wb:Nat
 nb:Nat
 N:Nat
 ex:List (Nat × Obj)
 cut:Int→Int→Bool
structure WI (c:Wd) (w:World) (S:MS) (xs:Nat→Nod) (ls:List (Int × Int × List Nat)) (now:Cl):Prop where
 mw:MW w S
 u:S.u=c.u
 wb:S.wb=c.wb
 nb:S.nb=c.nb
 xnb:S.X.nb=c.nb
 nn:S.X.nodes=c.N
 says:S.X.says=ls
 now:S.now=now
 hF:Forms c.u
 hT:Tabs c.u
 no:∀ k:Int,(k < 1 ∨ c.N < k)→getA S.nodes k=none
 ni:∀ j,1 ≤ j→j ≤ c.N→NI S j (xs j)
 ex:∀ p ∈ c.ex,w.heap[p.1]?=some p.2∧¬ S.all p.1
 cut:S.cut=c.cut
def WX (c:Wd) (w:World) (xs:Nat→Nod) (ls:List (Int × Int × List Nat)) (now:Cl):Prop:=∃ S,WI c w S xs ls now
section
variable {c:Wd} {w w':World} {S S':MS} {xs:Nat→Nod} {ls ls':List (Int × Int × List Nat)} {now now':Cl}
theorem NJ.live {j:Nat} {x:Nod} {n:Nd} {D:Dm} {tb:Nat} (h:NJ S j x n D tb) (hf:x.fell=none):Live S j n D∧OnD D x.L x.B:=
 ⟨⟨h.nd,(h.on hf).1,h.at_,h.xv⟩,⟨(h.on hf).2.1,(h.on hf).2.2.1,h.book,h.run⟩⟩
theorem NJ.gone {j:Nat} {x:Nod} {n:Nd} {D:Dm} {tb:Nat} (h:NJ S j x n D tb) {a:It} (hf:x.fell=some a):Gone S j n D:=⟨h.nd,(h.off a hf).1,h.at_,h.xv⟩
theorem NI.same {j:Nat} {x:Nod} (h:NI S j x) (h1:S'.nd j=S.nd j) (h2:S'.nodes=S.nodes) (h3:S'.tm j=S.tm j) (h4:S'.ds j=S.ds j):NI S' j x:=by
 obtain ⟨n,D,tb,q⟩:=h
 exact ⟨n,D,tb,h1.trans q.nd,by rw [h2];exact q.at_,q.xv,q.tv,q.dv,q.nt,q.ns,q.t,q.seed,q.s0,q.sl,h3.trans q.tm,q.book,q.run,fun e=>by rw [h4];exact q.on e,fun a e=>by rw [h4];exact q.off a e⟩
theorem WI.low (h:WI c w S xs ls now):Below c.u.heap.size c.u w:=h.u ▸ h.mw.low
theorem WI.nbx (h:WI c w S xs ls now):S.nb=S.X.nb:=h.nb.trans h.xnb.symm
theorem WI.len (h:WI c w S xs ls now):S.X.L.length=ls.length:=by rw [← zqg,h.says]
theorem WI.f (h:WI c w S xs ls now):Forms S.u:=h.u ▸ h.hF
theorem WI.t (h:WI c w S xs ls now):Tabs S.u:=h.u ▸ h.hT
theorem WI.exg (h:WI c w S xs ls now) (g:Goes w S w' S'):∀ p ∈ c.ex,w'.heap[p.1]?=some p.2∧¬ S'.all p.1:=fun p hp=>by
 obtain ⟨q1,q2⟩:=h.ex p hp
 obtain ⟨k1,k2⟩:=g.comp.keep p.1 (zadu q1).1 q2
 exact ⟨k1.trans q1,k2⟩
theorem WI.goes (h:WI c w S xs ls now) (g:Goes w S w' S):WI c w' S xs ls now:={ h with mw:=g.mw,ex:=h.exg g }
theorem WI.below (h:WI c w S xs ls now) (hb:Below w.heap.size w w'):WI c w' S xs ls now:=h.goes (h.mw.below hb)
theorem WX.add (h:WX c w xs ls now) (hb:Below w.heap.size w w') {b:Nat} {o:Obj} (hz:w.heap.size ≤ b) (ho:w'.heap[b]?=some o):WX { c with ex:=(b,o) :: c.ex } w' xs ls now:=by
 obtain ⟨S,h⟩:=h
 have k:=h.below hb
 refine ⟨S,⟨k.mw,k.u,k.wb,k.nb,k.xnb,k.nn,k.says,k.now,k.hF,k.hT,k.no,k.ni,fun p hp=>?_,k.cut⟩⟩
 rcases List.mem_cons.1 hp with rfl | hp
 ·exact ⟨ho,fun q=>absurd (h.mw.all_lt q) (Nat.not_lt.2 hz)⟩
 ·exact k.ex p hp
theorem WX.has (h:WX c w xs ls now) {p:Nat × Obj} (hp:p ∈ c.ex):w.heap[p.1]?=some p.2:=by
 obtain ⟨S,h⟩:=h
 exact (h.ex p hp).1
theorem WI.to (h:WI c w S xs ls now) {a:Nat} (g:Goes w S w' S') (e1:S'.u=S.u) (e2:S'.wb=S.wb) (e3:S'.nb=S.nb) (e4:S'.nodes=S.nodes) (e5:S'.now=now') (e6:S'.X.nb=S.X.nb) (e7:S'.X.nodes=S.X.nodes) (e8:S'.X.says=ls') (ho:∀ j,j ≠ a→S'.nd j=S.nd j∧S'.tm j=S.tm j∧S'.ds j=S.ds j) {x:Nod} (hx:NI S' a x) (e9:S'.cut=S.cut:=by rfl):WI c w' S' (upd xs a x) ls' now':=
 ⟨g.mw,e1.trans h.u,e2.trans h.wb,e3.trans h.nb,e6.trans h.xnb,e7.trans h.nn,e8,e5,h.hF,h.hT,by rw [e4];exact h.no,fun j j1 j2=>(by
  by_cases e:j=a
  ·subst e;rw [upd_at];exact hx
  ·rw [upd_ne _ _ e]
   obtain ⟨q1,q2,q3⟩:=ho j e
   exact (h.ni j j1 j2).same q1 e4 q2 q3),h.exg g,e9.trans h.cut⟩
theorem WI.to0 (h:WI c w S xs ls now) {X':Nt} (g:Goes w S w' { S with X:=X' }) (e6:X'.nb=S.X.nb) (e7:X'.nodes=S.X.nodes) (e8:X'.says=ls'):WI c w' { S with X:=X' } xs ls' now:=
 ⟨g.mw,h.u,h.wb,h.nb,e6.trans h.xnb,e7.trans h.nn,e8,h.now,h.hF,h.hT,h.no,fun j j1 j2=>(h.ni j j1 j2).same rfl rfl rfl rfl,h.exg g,h.cut⟩
theorem WI.at_ (h:WI c w S xs ls now) {a:Nat} (ha:1 ≤ a∧a ≤ c.N):∃ n D tb,NJ S a (xs a) n D tb∧S.at_ a=ptA n.b:=by
 obtain ⟨n,D,tb,q⟩:=h.ni a ha.1 ha.2
 exact ⟨n,D,tb,q,MS.at_some q.at_⟩
def dealW (sd:List Nat) (i b:Int) (p g:Lg) (n:Cl):Dl:=zgf T26 ⟨i,1,p,g,sumH (secretH (sd ++ intI i)).l,b⟩ n
def zg0 (sd:List Nat) (B:List (Int × Sw)) (i b:Int) (p g:Lg) (n:Cl):Int:=if errD (dealW sd i b p g n) ≠ 0 then errD (dealW sd i b p g n) else if p.a < 100 ∨ p.a > 1000 then 22 else zch B i
theorem zqh {D:Dm} (h:D.t=T26) (i b:Int) (p g:Lg) (n:Cl):zbo D i b p g n=dealW D.seed i b p g n:=by
 unfold zbo dealW
 rw [h]
theorem zy3 {D:Dm} (h:D.t=T26) (B:List (Int × Sw)) (i b:Int) (p g:Lg) (n:Cl):zb9 D B i b p g n=zg0 D.seed B i b p g n:=by
 unfold zb9 zg0
 rw [zqh h,h]
 rfl
def zkt (sd:List Nat) (i b:Int) (p g:Lg) (n:Cl):List It:=[.dl (dealW sd i b p g n),.se i (secretH (sd ++ intI i))]
theorem zmu (h:WX c w xs ls now) {a b:Nat} (ha:1 ≤ a∧a ≤ c.N) (hb:1 ≤ b∧b ≤ c.N) (hab:a ≠ b) (hlen:ls.length < 1000) {i:Int} {p g:Lg} (hi:I64 i):
   Calls Tryz.prog 29 #[.pointer (some ⟨c.wb,0,none⟩),.int .i64 a,.int .i64 b,.int .i64 i,.agg p.cells,.agg g.cells] w fun e w'=>∃ k,e=.returned (.int .i64 k)∧
     ((k ≠ 0∧((xs a).fell=none→zg0 (xs a).sd (xs a).B i b p g now=k)∧WX c w' xs ls now) ∨
      (k=0∧(xs a).fell=none∧zg0 (xs a).sd (xs a).B i b p g now=0∧WX c w' (upd xs a { xs a with L:=(xs a).L ++ zkt (xs a).sd i b p g now,B:=putA (xs a).B i (ze0 (dealW (xs a).sd i b p g now) (secretH ((xs a).sd ++ intI i))) }) (ls ++ [((a:Int),(b:Int),zbi (zax (dealW (xs a).sd i b p g now)))]) now) ∨
      (k=9∧(xs a).fell=none∧(xs a).calm=false∧zg0 (xs a).sd (xs a).B i b p g now=0∧∃ j f B',(zkt (xs a).sd i b p g now)[j]?=some f∧WX c w' (upd xs a { xs a with L:=(xs a).L ++ (zkt (xs a).sd i b p g now).take j,B:=B',fell:=some f }) ls now)):=by
 obtain ⟨S,h⟩:=h
 obtain rfl:=h.now
 obtain ⟨n,D,tb,q,at1⟩:=h.at_ ha
 obtain ⟨n2,D2,tb2,q2,at2⟩:=h.at_ hb
 rw [← h.wb]
 cases hf:(xs a).fell with
 | none=>
   obtain ⟨lv,od⟩:=q.live hf
   refine (zoj h.mw h.nbx h.f h.t lv at2 (by rw [q.t];exact zpx) (by rw [q.seed];exact q.sl) hab (by rw [h.nn];omega) (by rw [h.nn];omega) (by rw [h.len];exact hlen) od (p:=p) (g:=g) hi).mono ?_
   rw [zy3 q.t,zqh q.t,q.seed]
   rintro e w' ⟨k,rfl,⟨k0,k1,gg⟩ | ⟨rfl,k1,X',D',gg,o,cm,st,s1,s2,s3⟩ | ⟨rfl,k1,cm,D',j,f,k2,gg,o,st⟩⟩
   · exact ⟨k,rfl,.inl ⟨k0,fun _=>k1,S,h.goes gg⟩⟩
   · refine ⟨0,rfl,.inr (.inl ⟨rfl,rfl,k1,_,h.to (a:=a) gg rfl rfl rfl rfl h.now s3 s2 (by rw [s1,h.says]) (fun j hj=>⟨rfl,rfl,upd_ne _ _ hj⟩) ⟨n,D',tb,q.nd,q.at_,by rw [q.xv,st.xb],q.tv,by rw [q.dv,st.dv],q.nt,q.ns,by rw [st.t];exact q.t,by rw [st.seed];exact q.seed,q.s0,q.sl,q.tm,o.book,o.run,fun _=>⟨upd_at _ _ _,o.on,o.rows,fun e=>cm ((q.on hf).2.2.2 e)⟩,fun a e=>?_⟩⟩)⟩
     rw [hf] at e;cases e
   · refine ⟨9,rfl,.inr (.inr ⟨rfl,rfl,?_,k1,j,f,bkOf D'.M,k2,_,h.to (a:=a) gg rfl rfl rfl rfl h.now rfl rfl h.says (fun j hj=>⟨rfl,rfl,upd_ne _ _ hj⟩) ⟨n,D',tb,q.nd,q.at_,by rw [q.xv,st.xb],q.tv,by rw [q.dv,st.dv],q.nt,q.ns,by rw [st.t];exact q.t,by rw [st.seed];exact q.seed,q.s0,q.sl,q.tm,rfl,o.run,fun e=>(by cases e),fun a e=>?_⟩⟩)⟩
     · cases hc:(xs a).calm with
       | false=>rfl
       | true=>exact absurd ((q.on hf).2.2.2 hc) cm
     · cases e
       exact ⟨upd_at _ _ _,o.fell,o.add⟩
 | some f=>
   have go:=q.gone hf
   refine (zmm h.mw at1 at2 (by simp;omega) (fun W m=>go.off m)).mono ?_
   rintro e w' ⟨rfl,gg⟩
   exact ⟨9,rfl,.inl ⟨by decide,fun e=>(by cases e),S,h.goes gg⟩⟩
end
end
section
open Sx (Ab DW Turns Did Foot MapIs zbf DiskAt FootD)
theorem Holds.arm {A:Ab} {j:Jr} {R:List (Int × List Nat)} (h:Holds A j R) (n:Int):Holds (A.arm n) j R:=
 ⟨h.half.congr (fun k l hk=>h.half.sm k l hk) rfl (fun _ _ _=>rfl) h.rest (by rw [zc2 (A:=A) (A':=A.arm n) rfl];exact h.half.other),h.still,h.rest⟩
theorem Fell.arm {D:Dm} {L:List It} {a:It} (h:Fell D L a) {F':Foot} {n:Int} {c:Bool}:Fell { D with F:=F',A:=D.A.arm n,cal:=c } L a:=by
 obtain ⟨⟨T,hb⟩,hs⟩:=h
 exact ⟨⟨T,fun K A' hc=>hb K A' ⟨hc.last,hc.old,hc.loose,hc.off,hc.left,hc.done⟩⟩,hs⟩
theorem arm_w {w:World} {F:Foot} {dv:Value} {A:Ab} (H:DW w F dv A) {n:Int} (h0:-1 ≤ n∧n < 9223372036854775808):Calls Tryz.prog 56 #[dv,.int .i64 n] w (Did F w dv (A.arm n) (.tuple #[])):=by
 obtain ⟨bd,r1,r2,bl,h,rfl,hF⟩:=H
 have HH:=zadv h
 have c3:w.cell? ⟨bd,3,none⟩=some (.int .i64 A.left):=(Sx.disk_cell h 3).1
 have f3:w.frozen? ⟨bd,3,none⟩=false:=(Sx.disk_cell h 3).2
 have e:(if n < -1 then -1 else n)=n:=if_neg (by omega)
 clear h
 go_enter Tryz.func56,Tryz.ntmps56
 go_wp2
 go_end0
 have em:max n (-1)=n:=Int.max_eq_left h0.1
 have ea:(A.arm n).left=n:=by
  show (if n < -1 then -1 else n)=n
  exact if_neg (by omega)
 rw [em]
 have d:=HH.out
 refine ⟨rfl,F,⟨bd,r1,r2,bl,d.turn rfl rfl (by rw [ea];exact h0) ?_ Sx.set_ne,rfl,hF⟩,Sx.turns_set ⟨0,(hF bd 0).2 (.inl rfl)⟩,fun _ _ h=>.inl h⟩
 rw [Sx.set_ob d.ob]
 show some (Obj.cells #[.map (some r1),.map (some r2),.bool A.off,.int .i64 n,.int .i64 A.done] 135)=some (Obj.cells #[.map (some r1),.map (some r2),.bool A.off,.int .i64 (A.arm n).left,.int .i64 A.done] 135)
 rw [ea]
attribute [local go_sem ↓] zad
attribute [local go_sem] zaf zai zaj zal zab zah zac zak zae zaw za2 Sx.run_mk Ext.row Ext.soft_
theorem Dae0.did {k:Bool} {w w':World} {D:Dm} (h:Dae0 k w D) {F':Foot} {A':Ab} (hd:DW w' F' D.dv A') (ht:Turns D.F w w') (hf:∀ b x,F' b x→D.F b x ∨ w.heap.size ≤ b):Dae0 k w' { D with F:=F',A:=A',cal:=false }∧Trans w D w' { D with F:=F',A:=A',cal:=false }:=
 ⟨h.went (j':=D.j) (R':=D.R) (h.jd.did hd ht hf) (Went.of_did ht hf),Trans.went' (j':=D.j) (R':=D.R) (Went.of_did ht hf)⟩
theorem zac9 {w:World} {S:MS} (h:MW w S) {a:Nat} {n:Nd} {D:Dm} {k:Bool} (is:Has S a n D k) (hv:n.dv=D.dv) {i:Int} (h0:-1 ≤ i∧i < 9223372036854775808):Calls Tryz.prog 17 #[.pointer (some ⟨S.wb,0,none⟩),.int .i64 a,.int .i64 i] w fun e w'=>e=.returned (.bool true)∧∃ F',Dae0 k w' { D with F:=F',A:=D.A.arm i,cal:=false }∧Trans w D w' { D with F:=F',A:=D.A.arm i,cal:=false }:=by
 have rw0:=zaa h.wrAt
 have lk:=h.look a
 rw [MS.at_some is.at_] at lk
 unfold ptA at lk
 have rn:=is.row h
 rw [hv] at rn
 have da:=is.dae h
 have AW:=zadv (arm_w da.jd.dw h0)
 have DA:=zadv da
 clear h is da hv
 go_enter Tryz.func17,Tryz.ntmps17
 go_wp2_with (go_at_call 56;refine AW.out.mono ?_;rintro _ V ⟨rfl,F',hd,ht,hf⟩;have G:=zadv (DA.out.did hd ht hf);clear hd ht hf rw0 lk rn AW)
 go_ret
 exact ⟨rfl,F',G.out⟩
section
variable {c:Wd} {w w':World} {S S':MS} {xs:Nat→Nod} {ls ls':List (Int × Int × List Nat)} {now now':Cl}
theorem NJ.has {j:Nat} {x:Nod} {n:Nd} {D:Dm} {tb:Nat} (h:NJ S j x n D tb):Has S j n D x.fell.isSome:=by
 refine ⟨h.nd,?_,h.at_,h.xv⟩
 cases hf:x.fell with
 | none=>exact (h.on hf).1
 | some a=>exact (h.off a hf).1
theorem W_arm (h:WX c w xs ls now) {a:Nat} (ha:1 ≤ a∧a ≤ c.N) {i:Int} (h0:-1 ≤ i∧i < 9223372036854775808):
  Calls Tryz.prog 17 #[.pointer (some ⟨c.wb,0,none⟩),.int .i64 a,.int .i64 i] w fun e w'=>e=.returned (.bool true)∧WX c w' (upd xs a { xs a with calm:=decide (i=-1) }) ls now:=by
 obtain ⟨S,h⟩:=h
 obtain ⟨n,D,tb,q,at1⟩:=h.at_ ha
 rw [← h.wb]
 refine (zac9 h.mw q.has q.dv h0).mono ?_
 rintro e w' ⟨rfl,F',d0,t⟩
 refine ⟨rfl,?_⟩
 cases hf:(xs a).fell with
 | none=>
  rw [hf] at d0
  obtain ⟨h1,h2,h3,h4⟩:=q.on hf
  have dae:=((q.live hf).1.dae h.mw)
  have g:=h.mw.live (k:=a) h1 t (d0.dae (dae.hold.arm i) fun e=>(by cases e))
  exact ⟨_,h.to (a:=a) g rfl rfl rfl rfl h.now rfl rfl h.says (fun j hj=>⟨rfl,rfl,upd_ne _ _ hj⟩) ⟨n,{ D with F:=F',A:=D.A.arm i,cal:=false },tb,q.nd,q.at_,q.xv,q.tv,q.dv,q.nt,q.ns,q.t,q.seed,q.s0,q.sl,q.tm,q.book,q.run,fun _=>⟨upd_at _ _ _,h2,h3,fun e=>by
   have e:=of_decide_eq_true e
   subst e
   exact zyt h2⟩,fun b e=>(by rw [hf] at e;cases e)⟩⟩
 | some f=>
  rw [hf] at d0
  obtain ⟨h1,h2,h3⟩:=q.off f hf
  have g:=h.mw.da a (d:=.dead { D with F:=F',A:=D.A.arm i,cal:=false }) (by rw [h1];exact t.comp) d0
  exact ⟨_,h.to (a:=a) g rfl rfl rfl rfl h.now rfl rfl h.says (fun j hj=>⟨rfl,rfl,upd_ne _ _ hj⟩) ⟨n,{ D with F:=F',A:=D.A.arm i,cal:=false },tb,q.nd,q.at_,q.xv,q.tv,q.dv,q.nt,q.ns,q.t,q.seed,q.s0,q.sl,q.tm,q.book,q.run,fun e=>(by rw [hf] at e;cases e),fun b e=>by
   rw [hf] at e
   cases e
   exact ⟨upd_at _ _ _,h2.arm,h3⟩⟩⟩
def Came (x:Nod) (L:List It) (B:List (Int × Sw)):Prop:=(L=x.L∧B=x.B) ∨ ∃ f,x.fell=some f∧L=x.L ++ [f]∧Adds x.B f B
theorem zmv (h:WX c w xs ls now) {a:Nat} (ha:1 ≤ a∧a ≤ c.N) {ao:Option Addr} {cc:Nat} {K:List Int} (HK:KeepAt w ao K):
  Calls Tryz.prog 19 #[.pointer (some ⟨c.wb,0,none⟩),.int .i64 a,.slice ao K.length cc] w fun e w'=>e=.returned (.int .i64 0)∧∃ L B,Came (xs a) L B∧Run [] L B∧WX c w' (upd xs a ⟨(xs a).sd,L,B,none,true,[]⟩) ls now:=by
 obtain ⟨S,h⟩:=h
 obtain ⟨n,D,tb,q,at1⟩:=h.at_ ha
 rw [← h.wb]
 have da:=q.has.dae h.mw
 refine (zoh (c:=cc) (F:=D.F) (A:=D.A) h.mw h.f h.t HK q.nd q.at_ (by rw [q.dv];exact da.jd.dw) (fun i x hx=>?_) (O:=Came (xs a)) (fun A' hc=>?_) (by rw [q.nt];exact zpx) (by rw [q.ns];exact q.s0) (by rw [q.ns];exact q.sl)).mono ?_
 ·have e:=q.has.ds
  rw [e]
  split
  ·exact .inr (.inr ⟨x,hx⟩)
  ·exact .inr (.inr ⟨x,hx⟩)
 ·cases hf:(xs a).fell with
  | none=>
   obtain ⟨h1,h2,h3,h4⟩:=q.on hf
   have hh:=((q.live hf).1.dae h.mw).hold
   rw [h3] at hh
   obtain ⟨A'',j',o1,o2,o3,o4⟩:=hh.back_it hc
   exact ⟨A'',j',_,_,.inl ⟨rfl,rfl⟩,o1,o2,o3,o4,q.run⟩
  | some f=>
   obtain ⟨h1,h2,B2,h3⟩:=q.off f hf
   obtain ⟨A'',j',L',e,o1,o2,o3,o4⟩:=h2.back_it hc
   rcases e with rfl | rfl
   ·exact ⟨A'',j',_,_,.inl ⟨rfl,rfl⟩,o1,o2,o3,o4,q.run⟩
   ·exact ⟨A'',j',_,B2,.inr ⟨f,hf,rfl,h3⟩,o1,o2,o3,o4,q.run.snoc h3⟩
 ·rintro e w' ⟨rfl,D',tb',L,B,o,g,l,cm,e1,e2,e3⟩
  exact ⟨rfl,L,B,o,l.run,_,h.to (a:=a) g rfl rfl rfl rfl h.now rfl rfl h.says (fun j hj=>⟨upd_ne _ _ hj,upd_ne _ _ hj,upd_ne _ _ hj⟩) ⟨{ n with xv:=ptA D'.xb,tv:=.map (some tb') },D',tb',upd_at _ _ _,q.at_,rfl,rfl,e3.symm,q.nt,q.ns,by rw [e1];exact q.nt,by rw [e2];exact q.ns,q.s0,q.sl,upd_at _ _ _,l.book,l.run,fun _=>⟨upd_at _ _ _,l.on,l.rows,fun _=>cm⟩,fun b e=>(by cases e)⟩⟩
theorem W_told (h:WX c w xs ls now) {a:Nat} (ha:1 ≤ a∧a ≤ c.N) {i x y:Int} (hg:(getA (xs a).told i).getD (zbd 0 0)=zbd x y):
  Calls Tryz.prog 25 #[.pointer (some ⟨c.wb,0,none⟩),.int .i64 a,.int .i64 i] w fun e w'=>e=.returned (.tuple #[.int .i64 x,.int .i64 y])∧WX c w' xs ls now:=by
 obtain ⟨S,h⟩:=h
 obtain ⟨n,D,tb,q,at1⟩:=h.at_ ha
 rw [← h.wb]
 have r:=(h.mw.ndAt q.nd).row
 unfold Nd.cells at r
 rw [q.tv] at r
 refine (zvi h.mw at1 r (h.mw.tmAt q.tm) hg).mono ?_
 rintro e w' ⟨he,hb⟩
 exact ⟨he,S,h.below hb⟩
theorem zok (h:WX c w xs ls now):Calls Tryz.prog 23 #[.pointer (some ⟨c.nb,0,none⟩)] w fun e w'=>e=.returned (.int .i64 ls.length)∧w'=w:=by
 obtain ⟨S,h⟩:=h
 have K:=zu9 h.mw.netAt
 rw [h.len,h.xnb] at K
 exact K
theorem zol (h:WX c w xs ls now):∃ mb,rowOf w c.wb=wrC c.nb mb now:=by
 obtain ⟨S,h⟩:=h
 have r:=zaa h.mw.wrAt
 rw [h.wb,h.nb,h.now] at r
 exact ⟨S.mb,r⟩
theorem WX.below (h:WX c w xs ls now) (hb:Below w.heap.size w w'):WX c w' xs ls now:=by
 obtain ⟨S,h⟩:=h
 exact ⟨S,h.below hb⟩
theorem WX.low (h:WX c w xs ls now):Below c.u.heap.size c.u w:=by
 obtain ⟨S,h⟩:=h
 exact h.low
def hasB (B:List (Int × Sw)) (id role peer:Int):Bool:=B.any fun p=>p.2.d.i == id && (p.2.d.r == role && p.2.d.q == peer)
theorem zqi {α:Type} {f g:α→Bool}:∀ {l:List α},(∀ p ∈ l,f p=g p)→l.any f=l.any g
 | [],_=>rfl
 | p :: l,h=>by rw [List.any_cons,List.any_cons,h p (List.mem_cons_self ..),zqi fun q hq=>h q (List.mem_cons_of_mem _ hq)]
theorem zaaa {D:Dm} {B:List (Int × Sw)} (hb:bkOf D.M=B) (hf:Fine B) {ks:List Int} (hp:ks.Perm (D.M.map (·.1))) (id role peer:Int):ks.any (hasD D.M id role peer)=hasB B id role peer:=by
 subst hb
 rw [hp.any_eq,List.any_map]
 unfold hasB bkOf
 rw [List.any_map]
 refine zqi fun p hp=>?_
 have hn:(D.M.map (·.1)).Nodup:=by rw [← zmb];exact hf.nd
 show hasD D.M id role peer p.1=_
 unfold hasD
 rw [zhr hn hp]
 rfl
theorem zy4 (h:WX c w xs ls now) {a:Nat} (ha:1 ≤ a∧a ≤ c.N) (id role peer:Int):
  Calls Tryz.prog 31 #[.pointer (some ⟨c.wb,0,none⟩),.int .i64 a,.int .i64 id,.int .i64 role,.int .i64 peer] w fun e w'=>e=.returned (.bool (hasB (xs a).B id role peer))∧WX c w' xs ls now:=by
 obtain ⟨S,h⟩:=h
 obtain ⟨n,D,tb,q,at1⟩:=h.at_ ha
 have hf:Fine (xs a).B:=Fine.nil.run q.run
 have hfb:=hf
 rw [← q.book] at hfb
 rw [← h.wb]
 refine (zjs h.mw q.has hfb.book.1 hfb.book.2 id role peer).mono ?_
 rintro e w' ⟨ks,hp,he,hb⟩
 rw [zaaa q.book hf hp] at he
 exact ⟨he,S,h.below hb⟩
end
end
section
open Sx (Ab DW Turns Did Foot MapIs)
attribute [local go_sem ↓] zad zu3
attribute [local go_sem] zaf zai zaj zal zab zah zac zak zae zaw za2 Sx.run_mk Ext.row Ext.soft_
set_option maxHeartbeats 1000000 in
theorem zy5 {w:World} {S:MS} (h:MW w S) (hnb:S.nb=S.X.nb) (hF:Forms S.u) {a:Nat} {n:Nd} {D:Dm} (is:Live S a n D) {i:Int} {q:En} (hg:getA D.M i=some q) (hr:q.s.d.r=1) (hi:q.s.d.i=i) (he:errD q.s.d=0) {b:Nat} (hq:q.s.d.q=b) (hab:a ≠ b) (ha:1 ≤ a∧(a:Int) ≤ S.X.nodes) (hb:1 ≤ b∧(b:Int) ≤ S.X.nodes) (hlen:S.X.L.length < 1000):
  Calls Tryz.prog 22 #[.pointer (some ⟨S.wb,0,none⟩),.int .i64 a,.int .i64 i] w fun e w'=>e=.returned (.int .i64 0)∧∃ X',Goes w S w' { S with X:=X' }∧X'.says=S.X.says ++ [((a:Int),(b:Int),zbi (zax q.s.d))]∧X'.nodes=S.X.nodes∧X'.nb=S.X.nb:=by
 have rw0:=zaa h.wrAt
 have lk:=h.look a
 rw [MS.at_some is.at_] at lk
 unfold ptA at lk
 have OF:=zadv (is.off h)
 have FI:=zej h is i
 rw [hg] at FI
 have fb:zfz (some q)=true:=by show (q.s.d.r == 1)=true;rw [hr];rfl
 rw [fb] at FI
 replace FI:Calls Tryz.prog 63 #[.pointer (some ⟨n.b,0,none⟩),.int .i64 i] w fun e w'=>e=.returned (.tuple #[.agg q.s.d.cells,.bool true])∧Below w.heap.size w w':=FI
 have FI:=zadv FI
 have H:=zadv h
 have hid:=zd1 he
 generalize hd:q.s.d=d at *
 have hpm:Msg.cells ⟨1,i,0,d.p,d.g,d.h⟩=(zax d).cells:=by rw [← hi];rfl
 have HM:=zadv hpm
 have HC:=zadv (zadx hnb (zadx hF (zadx hid (zadx hab (zadx ha (zadx hb hlen))))))
 have HQ:=zadv hq
 clear h is hg hr hi he hab ha hb hlen hnb hF hid fb hd hpm hq
 go_enter Tryz.func22,Tryz.ntmps22
 go_upto_region 7 with (first
  | (go_at_call 57;refine OF.out.mono ?_;rintro _ V ⟨rfl,rfl⟩)
  | (go_at_call 63;refine FI.out.mono ?_;rintro _ U ⟨rfl,hb⟩;have G:=zadv (H.out.below hb);clear hb OF FI rw0 lk))
 have B3:=Bx.made U Dl.zero.cells d.cells 60
 generalize (U.alloc (.cells Dl.zero.cells 60)).setRow U.heap.size d.cells=V3 at B3 ⊢
 have rd:=B3.rowOf
 have g3:=G.out.trans (G.out.mw.below B3.below)
 obtain ⟨c1,c2,c3,c4,c5,c6,c7⟩:=HC.out
 have SY:=zadv (zvk (m:=zax d) (l:=zbi (zax d)) (a:=a) (b:=b) g3.mw c1 (fun W hW=>zic (c2.keep (zadw _) hW) (.inl rfl) c3.1 c3.2.1 c3.2.2.1 c3.2.2.2) (Nat.le_trans (zb5 _) (by decide)) c7 (eq_true (by omega)) (eq_true c5.2) (eq_true (by omega)) (eq_true c6.2) (by simp;omega))
 rw [← HQ.out] at SY
 have hpm:=HM.out
 have G3:=zadv g3
 clear g3 B3 c1 c2 c3 c4 c5 c6 c7
 go_wp2_with (go_at_call 64;refine SY.out.mono ?_;rintro _ Z ⟨rfl,X',g5,s1,s2,s3⟩;have G5:=zadv (G3.out.trans g5);have SS:=zadv (zadx s1 (zadx s2 s3));clear g5 s1 s2 s3)
 go_ret
 have ss:=SS.out
 rw [HQ.out] at ss
 exact ⟨rfl,X',G5.out,ss⟩
theorem Has.off {S:MS} {j:Nat} {n:Nd} {D:Dm} {k:Bool} (h:Has S j n D k) {w:World} (m:MW w S):Calls Tryz.prog 57 #[ptA n.b] w fun e w'=>e=.returned (.bool k)∧w'=w:=zoc (h.row m) (zaa (h.dae m).row)
set_option maxHeartbeats 2000000 in
theorem zr6 {w:World} {S:MS} (h:MW w S) (hnb:S.nb=S.X.nb) (hF:Forms S.u) {f b:Nat} {n:Nd} {D:Dm} (is:Live S b n D) {ao:Option Addr} {nn c:Nat} {l:List Nat} (hs:Sl w ao nn c (bts l)) (hr:Rs (l,0)) {m:Msg} (hm:zee l=(0,m)) (k0:m.k=1) {free:Int} {R:List Nat→MS→Prop}
  (hH:∀ W,Below w.heap.size w W→Calls Tryz.prog 103 #[.pointer (some ⟨D.xb,0,none⟩),.int .i64 f,.slice ao nn c,.agg S.now.cells,.int .i64 free] W fun e w'=>∃ L S' D' kd ao' c',e=.returned (.slice ao' L.length c')∧Sl w' ao' L.length c' (bts L)∧L.length ≤ 400∧Has S' b n D' kd∧S'.wb=S.wb∧S'.nb=S.nb∧S'.X=S.X∧R L S'∧Goes w S w' S'∧Comp W w' S.all S'.all)
  (hn:S.X.L.length < 1000) (hfb:f ≠ b) (hf:1 ≤ f∧(f:Int) ≤ S.X.nodes) (hb:1 ≤ b∧(b:Int) ≤ S.X.nodes):
  Calls Tryz.prog 66 #[.pointer (some ⟨S.wb,0,none⟩),.pointer (some ⟨n.b,0,none⟩),.agg (ltV f b ao nn c),.int .i64 free] w fun e w'=>e=.returned (.tuple #[])∧∃ L S' D' kd,R L S'∧Has S' b n D' kd∧(kd=true→Goes w S w' S')∧(kd=false→∃ X',Goes w S w' { S' with X:=X' }∧X'.says=S.X.says ++ [((b:Int),(f:Int),L)]∧X'.nodes=S.X.nodes∧X'.nb=S.X.nb):=by
 have H:=zadv h
 have IS:=zadv is
 have HS:=zadv hs
 have HH:=zadv hH
 have HF:=zadv hF
 have HR:=zadv (zadx hr (zadx hm (zadx k0 (zadx hnb (zadx hn (zadx hfb (zadx hf hb)))))))
 clear h is hs hH hr hm hn hfb hf hb hF k0 hnb
 unfold ltV
 go_enter Tryz.func66,Tryz.ntmps66
 go_upto_region 1 with (fail)
 have bx:=Bx.new w (#[.int .i64 f,.int .i64 b,.slice ao nn c]) 120;generalize w.alloc (.cells (#[.int .i64 f,.int .i64 b,.slice ao nn c]) 120)=W at bx ⊢;have rx:=bx.rowOf;have sx:=bx.soft;have BX:=zadv bx;clear bx
 have G:=H.out.below BX.out.below
 have MG:=zadv (zfr (HF.out.keep (zadw _) G.mw.low) (HS.out.keep (zadw _) BX.out.below) HR.out.1)
 rw [HR.out.2.1] at MG
 unfold zt5 at MG
 clear G
 dsimp only at MG
 go_wp2_with (go_at_call 102;refine MG.out.mono ?_;rintro _ V ⟨rfl,hb⟩;have bx:=BX.out.step hb;clear BX rx sx MG hb;have rx:=bx.rowOf;have BX:=zadv bx;clear bx;have km:=HR.out.2.2.1)
 have B2:=Bx.made V Msg.zero.cells m.cells 118
 have bx:=BX.out.step B2.below
 generalize (V.alloc (.cells Msg.zero.cells 118)).setRow V.heap.size m.cells=V2 at B2 bx ⊢
 generalize V.heap.size=mb at *
 have G:=H.out.below bx.below
 have rn:=IS.out.row G.mw
 have rw0:=zaa G.mw.wrAt
 clear rx BX B2
 have rx:=bx.rowOf
 have C5:=zadv (HH.out V2.drew bx.below.drew)
 have BX:=zadv bx
 clear bx G HH
 (refine wp_region_still_tail 13 (by kernel_rfl) (by kernel_rfl) ?_;simp only [List.take_succ_cons,List.take_zero,List.drop_succ_cons,List.drop_zero];(iterate 13 still_step);refine wpStill_nil ?_)
 go_wp2_with (go_at_call 103;refine C5.out.mono ?_;rintro _ Z ⟨L,S',D',kd,ao',c',rfl,hs',hl,e1,w1,w2,w3,rd,g,cp⟩)
 have lt0:w.heap.size < V2.drew.heap.size:=(zadu BX.out.row).1
 have hx:Z.heap[w.heap.size]?=some (.cells #[.int .i64 f,.int .i64 b,.slice ao nn c] 120):=(cp.keep _ lt0 fun q=>Nat.lt_irrefl _ (H.out.all_lt q)).1.trans BX.out.row
 have OF:=zadv (e1.off g.mw)
 have rw1:=zaa g.mw.wrAt
 rw [w1,w2,HR.out.2.2.2.1] at rw1
 have G3:=zadv g
 have KD:=zadv (zadx e1 (zadx rd (zadx w3 (zadx hl hs'))))
 clear rn rw0 rx BX lt0 C5 g cp e1 rd hs' hl w1 w2 w3
 have rx:=zaa hx
 clear hx
 cases kd with
 | true=>
  go_wp2_with (go_at_call 57;refine OF.out.mono ?_;rintro _ Z2 ⟨rfl,rfl⟩)
  refine bodyPost_ret (results_none rfl _ _ _) rfl ?_
  exact ⟨rfl,L,S',D',true,KD.out.2.1,KD.out.1,fun _=>G3.out,fun e=>(by cases e)⟩
 | false=>
  obtain ⟨h1,h2,h3,h4,h5,h6,h7,h8⟩:=HR.out
  have ex:=KD.out.2.2.1
  have SD:=zadv (zp7 (w:=Z.drew) (X:=S.X) (by rw [← ex];exact (G3.out.mw.below (Below.refl _ Z).drew).mw.netAt) (eq_false (by omega)) (a:=b) (b:=f) (eq_true (by omega)) (eq_true h8.2) (eq_true (by omega)) (eq_true h7.2) (by simp;omega) (KD.out.2.2.2.2.keep (zadw _) (Below.refl _ Z).drew) (eq_true (by have:=KD.out.2.2.2.1;omega)))
  clear h1 h2 h3 h4 h5 h6 h7 h8
  have EX:=zadv ex
  clear ex
  go_wp2_with (go_at_call 57;refine OF.out.mono ?_;rintro _ Z2 ⟨rfl,rfl⟩)
  (refine wp_region_still_tail 9 (by kernel_rfl) (by kernel_rfl) ?_;simp only [List.take_succ_cons,List.take_zero,List.drop_succ_cons,List.drop_zero];(iterate 9 still_step);refine wpStill_nil ?_)
  go_wp2_with (go_at_call 101;refine SD.out.mono ?_;rintro _ U ⟨rfl,X',t,e⟩;have g5:=G3.out.trans ((G3.out.mw.below (Below.refl _ _).drew).trans ((G3.out.mw.below (Below.refl _ _).drew).mw.net (by rw [EX.out];exact t)));have G5:=zadv g5;have T:=zadv t;clear g5 t)
  refine bodyPost_ret (results_none rfl _ _ _) rfl ?_
  exact ⟨rfl,L,S',D',false,KD.out.2.1,KD.out.1,fun e=>(by cases e),fun _=>⟨X',G5.out,e,T.out.nodes,T.out.nb⟩⟩
set_option maxHeartbeats 1000000 in
theorem zmw {w:World} {S:MS} (h:MW w S) (hnb:S.nb=S.X.nb) {k:Nat} {x:Lt} (hk:S.X.L[k]?=some x) (hx:x.l.length < 1000000) (hlen:S.X.L.length ≤ 1000000) {f t:Nat} (hf:x.f=f∧1 ≤ f∧(f:Int) ≤ S.X.nodes) (ht:x.t=t∧1 ≤ t∧(t:Int) ≤ S.X.nodes) (hft:f ≠ t) (hct:S.cut (min (f:Int) t) (max (f:Int) t)=false) {n:Nd} {D:Dm} (is:Has S t n D true) {free:Int}:
  Calls Tryz.prog 24 #[.pointer (some ⟨S.wb,0,none⟩),.int .i64 k,.int .i64 free] w fun e w'=>e=.returned (.bool true)∧∃ X',Goes w S w' { S with X:=X' }∧X'.says=S.X.says.eraseIdx k∧X'.nodes=S.X.nodes∧X'.nb=S.X.nb:=by
 have rw0:=zaa h.wrAt
 rw [hnb] at rw0
 have DL:=zadv (zjp h.netAt hk hx hlen (eq_true (by have:=hf;omega)) (eq_true (by have:=hf;omega)) (eq_true (by have:=ht;omega)) (eq_true (by have:=ht;omega)) (by have:=hf.1;have:=ht.1;simp;omega) (by rw [h.netCut.2,hf.1,ht.1];exact hct))
 have H:=zadv h
 have IS:=zadv is
 have HF:=zadv (zadx hf.1 ht.1)
 clear h hk hx hlen hf ht is
 go_enter Tryz.func24,Tryz.ntmps24
 go_upto_region 2 with (go_at_call 65;refine DL.out.mono ?_;rintro _ W ⟨a,c,X1,rfl,t1,s1,hs,lo⟩)
 rw [HF.out.1,HF.out.2]
 have bx:=Bx.new W #[.int .i64 f,.int .i64 t,.slice a x.l.length c] 120
 generalize W.alloc (.cells #[.int .i64 f,.int .i64 t,.slice a x.l.length c] 120)=V at bx ⊢
 have g1:=H.out.net t1
 have G:=g1.trans (g1.mw.below bx.below)
 have GG:=zadv G
 have r0:=zaa G.mw.wrAt
 have rx:=bx.rowOf
 dsimp only at r0
 have lk:=(G.mw.below (Below.refl _ V).drew).mw.look t
 have is1:Has ({ S with X:=X1 }:MS) t n D true:=⟨IS.out.nd,IS.out.ds,IS.out.at_,IS.out.xv⟩
 rw [MS.at_some is1.at_] at lk
 dsimp only at lk
 unfold ptA at lk
 have LK:=zadv lk
 have OF:=zadv (is1.off (G.mw.below (Below.refl _ V).drew).mw)
 have SS:=zadv (zadx s1 (zadx t1.nodes t1.nb))
 have GD:=zadv (G.trans (G.mw.below (Below.refl _ V).drew))
 clear G g1 is1 t1 s1 hs lo bx
 (refine wp_region_still_tail 7 (by kernel_rfl) (by kernel_rfl) ?_;simp only [List.take_succ_cons,List.take_zero,List.drop_succ_cons,List.drop_zero];(iterate 7 still_step);refine wpStill_nil ?_)
 go_wp2_with (go_at_call 57;refine OF.out.mono ?_;rintro _ V2 ⟨rfl,rfl⟩)
 go_ret
 exact ⟨rfl,X1,GD.out,SS.out⟩
end
end Go.Proofs.YthjgiamfaijoeaaGreatDoor
