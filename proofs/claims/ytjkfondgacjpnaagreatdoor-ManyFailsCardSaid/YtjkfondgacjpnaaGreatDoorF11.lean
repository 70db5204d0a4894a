/- What is proved: parts of the walk and of the plain law, 1 texts in one. No condition but those each law names. -/
import Derived.Test.YtjkfondgacjpnaaGreatDoorF10
namespace Go.Proofs.YtjkfondgacjpnaaGreatDoor
open Go.RowKit
open Sx (Ab DW Turns Did Foot z128)
set_option maxRecDepth 100000
def Fb (F:Foot) (b:Nat):Foot:=fun k x=>F k x ∨ k=b
theorem Went.tb {F F':Foot} {b:Nat} {w w':World} (h:Went F b w F' w'):TB (Fb F b) w (Fb F' b) w':=
 ⟨⟨h.os,h.tape,h.output,h.size,fun k hk hf=>h.block k hk (fun e=>hf 0 (.inr e)) fun x hx=>hf x (.inl hx)⟩,fun i x hx=>hx.elim (fun h1=>(h.fb i x h1).imp .inl id) fun h1=>.inl (.inr h1)⟩
theorem TB.went {F F':Foot} {b:Nat} {w w':World} (h:TB F w F' w'):Went F b w F' w':=⟨h.t.os,h.t.tape,h.t.output,h.t.size,fun k hk _ hf=>h.t.block k hk hf,h.fb⟩
theorem TB.new {F F1 F2:Foot} {b:Nat} {w w1 w2:World} (h:TB F w F1 w1) (h':Went F1 b w1 F2 w2) (hb:w.heap.size ≤ b):TB F w F2 w2:=
 ⟨⟨h'.os.trans h.t.os,h'.tape.trans h.t.tape,h'.output.trans h.t.output,Nat.le_trans h.t.size h'.size,
  fun k hk hf=>(h'.block k (Nat.lt_of_lt_of_le hk h.t.size) (by omega) fun x hx=>(h.fb k x hx).elim (hf x) (by omega)).trans (h.t.block k hk hf)⟩,
  fun i x hx=>(h'.fb i x hx).elim (fun h1=>h.fb i x h1) fun h1=>.inr (Nat.le_trans h.t.size h1)⟩
theorem did_tb {F:Foot} {w:World} {dv:Value} {A':Ab} {v:Value} {e:Ending} {w':World} (h:Did F w dv A' v e w'):e=.returned v∧∃ F',DW w' F' dv A'∧TB F w F' w':=by
 obtain ⟨h1,F',h2,h3,h4⟩:=h
 exact ⟨h1,F',h2,h3,h4⟩
theorem rowsL_at (A:Ab) (end_:Int):∀ (k:Nat) (at_:Int),at_ ≤ end_→at_ ≤ (rowsL A end_ k at_).2∧(rowsL A end_ k at_).2 ≤ end_:=by
 intro k
 induction k with
 | zero=>intro at_ h;exact ⟨Int.le_refl _,h⟩
 | succ k ih=>
  intro at_ h
  rw [rowsL]
  split
  ·rename_i hok
   have h1:=rowA_ok hok
   have h2:=ih _ h1.2
   simp only
   omega
  ·exact ⟨Int.le_refl _,h⟩
theorem rowsE_at (A:Ab) (first:Int):first + 1 ≤ (rowsE A first).2∧(rowsE A first).2 ≤ first + 256:=rowsL_at A _ 255 _ (by omega)
theorem dw_form {w:World} {F:Foot} {dv:Value} {A:Ab} (H:DW w F dv A):∃ b o,dv=.pointer (some ⟨b,o,none⟩):=by
 obtain ⟨bd,r1,r2,bl,_,e,_⟩:=H
 exact ⟨bd,0,e⟩
def pickF (A:Ab):Int:=if turnA A 0 < turnA A 256 then 256 else 0
def pickT (A:Ab):Int:=if turnA A 0 < turnA A 256 then turnA A 256 else turnA A 0
def newL:List Stp:=[.wr 0 (headL 1),.sy]
def newJ:Jr:=⟨0,1,1,false⟩
def oldJ (A:Ab):Jr:=⟨pickF A,(rowsE A (pickF A)).2,pickT A,false⟩
structure Op where
 e:Int
 A:Ab
 j:Jr
 rows:List (Int × List Nat)
def openP (A:Ab):Op:=if A.off=true then ⟨9,A,newJ,[]⟩ else
 if pickT A=0 then (if cleanB A=false then ⟨6,A,newJ,[]⟩ else ⟨stpsE newL A,stpsA newL A,newJ,[]⟩)
 else if spoilt A (rowsE A (pickF A)).2 (pickF A + 256)=true then ⟨6,A,newJ,[]⟩
 else ⟨stpsE (tidyL A (oldJ A)) A,stpsA (tidyL A (oldJ A)) A,oldJ A,(rowsE A (pickF A)).1⟩
def RetOpen (F:Foot) (w:World) (dv:Value) (o:Op):Ending→World→Prop:=fun e w'=>∃ F',TB F w F' w'∧
 if o.e ≠ 0 then DW w' F' dv o.A∧e=.returned (.tuple #[.pointer none,.slice none 0 0,.int .i64 o.e])
 else ∃ b v L,e=.returned (.tuple #[.pointer (some ⟨b,0,none⟩),v,.int .i64 0])∧JD w' F' dv o.A b o.j∧w.heap.size ≤ b∧FrW w' (Fb F' b) w.heap.size v L∧told L=o.rows
theorem turnL_nonneg (l:List Nat):0 ≤ turnL l:=by
 unfold turnL
 split
 ·exact Int.le_refl _
 split
 ·exact Int.le_refl _
 split
 ·exact Int.le_refl _
 split
 ·exact Int.le_refl _
 ·rename_i h
  split
  ·omega
  ·exact Int.le_refl _
theorem turnA_nonneg (A:Ab) (i:Int):0 ≤ turnA A i:=by
 unfold turnA
 split
 ·exact Int.le_refl _
 ·exact turnL_nonneg _
theorem RetOpen.bad {F F':Foot} {w w':World} {dv:Value} {A:Ab} {o:Op} {k:Int} (ht:TB F w F' w') (hd:DW w' F' dv A) (h0:k ≠ 0) (he:o.e=k) (hA:o.A=A):RetOpen F w dv o (.returned (.tuple #[.pointer none,.slice none 0 0,.int .i64 k])) w':=
 ⟨F',ht,by rw [if_pos (by rw [he];exact h0),hA,he];exact ⟨hd,rfl⟩⟩
theorem RetOpen.good {F F':Foot} {w w':World} {dv:Value} {A:Ab} {o:Op} {b:Nat} {v:Value} {L:List Fm} {j:Jr} (ht:TB F w F' w') (hd:JD w' F' dv A b j) (he:o.e=0) (hA:o.A=A) (hj:o.j=j) (hb:w.heap.size ≤ b) (hf:FrW w' (Fb F' b) w.heap.size v L) (hr:told L=o.rows):
  RetOpen F w dv o (.returned (.tuple #[.pointer (some ⟨b,0,none⟩),v,.int .i64 0])) w':=
 ⟨F',ht,by rw [if_neg (by rw [he];simp),hA,hj];exact ⟨b,v,L,rfl,hd,hb,hf,hr⟩⟩
theorem tidyL_len (A:Ab) {j:Jr} (h:j.first + 256 - j.at_ ≤ 1000):(tidyL A j).length ≤ 100000:=by
 unfold tidyL
 have:=tdy_len A j.at_ (j.first + 256 - j.at_).toNat
 simp only
 split
 ·exact Nat.zero_le _
 ·rw [List.length_append]
  simp
  omega
theorem FrW.went {w w':World} {F F':Foot} {b B:Nat} {v:Value} {L:List Fm} (h:FrW w (Fb F b) B v L) (ht:Went F b w F' w'):FrW w' (Fb F' b) B v L:=h.tb ht.tb
theorem jd_new {w:World} {F:Foot} {dv:Value} {A:Ab} (h:DW w F dv A) (j:Jr):JD (w.alloc (.cells (j.cells dv) 211)) F dv A w.heap.size j:=
 ⟨h.below (below1 w _),heap_alloc_new w _,fun _ hx=>absurd (h.lt hx) (Nat.lt_irrefl _)⟩
set_option maxHeartbeats 4000000 in
theorem Open_any {w:World} {F:Foot} {dv:Value} {A:Ab} (H:DW w F dv A) (hA:Ab.Sm A):Calls Tryz.prog 84 #[dv] w (RetOpen F w dv (openP A)):=by
 obtain ⟨db,dof,rfl⟩:=dw_form H
 have R0:=Lib.hid (Sx.down_w H)
 cases hoff:A.off with
 | true=>
  have e:openP A=⟨9,A,newJ,[]⟩:=if_pos hoff
  rw [e]
  rw [hoff] at R0
  clear H
  go_enter Tryz.func84,Tryz.ntmps84
  go_wp2_with (go_at_call 113;refine R0.out.mono ?_;rintro _ w1 h;obtain ⟨rfl,F1,d1,t1⟩:=did_tb h)
  go_ret3
  exact RetOpen.bad t1 d1 (by decide) rfl rfl
 | false=>
  rw [hoff] at R0
  have e0:openP A=if pickT A=0 then (if cleanB A=false then ⟨6,A,newJ,[]⟩ else ⟨stpsE newL A,stpsA newL A,newJ,[]⟩)
    else if spoilt A (rowsE A (pickF A)).2 (pickF A + 256)=true then ⟨6,A,newJ,[]⟩
    else ⟨stpsE (tidyL A (oldJ A)) A,stpsA (tidyL A (oldJ A)) A,oldJ A,(rowsE A (pickF A)).1⟩:=if_neg (by rw [hoff];decide)
  have E0:=Lib.hid e0
  clear H e0
  by_cases hgt:turnA A 0 < turnA A 256
  ·have eF:pickF A=256:=if_pos hgt
   have eT:pickT A=turnA A 256:=if_pos hgt
   have h00:=turnA_nonneg A 0
   have ET:=Lib.hid eT
   have EF:=Lib.hid eF
   have T0:=fun (w':World) (F':Foot) (h:DW w' F' (.pointer (some ⟨db,dof,none⟩)) A)=>TurnOf_any h hA (i:=0) (by decide)
   have T1:=fun (w':World) (F':Foot) (h:DW w' F' (.pointer (some ⟨db,dof,none⟩)) A)=>TurnOf_any h hA (i:=256) (by decide)
   generalize turnA A 0=t0 at *
   generalize turnA A 256=t1 at *
   have T0h:=Lib.hid T0
   have T1h:=Lib.hid T1
   clear T0 T1 eT eF
   go_enter Tryz.func84,Tryz.ntmps84
   go_wp2_with (go_at_call 113;refine R0.out.mono ?_;rintro _ w1 h;obtain ⟨rfl,F1,d1,tb1⟩:=did_tb h;have D1:=Lib.hid d1;have TB1:=Lib.hid tb1;clear d1 tb1)
   refine (T0h.out _ _ D1.out).mono ?_
   rintro _ w2 h
   obtain ⟨rfl,F2,d2,tb2⟩:=did_tb h
   have TB2:=Lib.hid (TB1.out.trans tb2)
   have hbw:=TB2.out.t.size
   have j3:=Lib.hid (jd_new d2 ⟨0,0,t0,false⟩)
   have D2:=Lib.hid (d2.below (below1 w2 (.cells #[.pointer (some ⟨db,dof,none⟩),.int .i64 0,.int .i64 0,.int .i64 t0,.bool false] 211)))
   have TB3:=Lib.hid (TB2.out.below (below1 w2 (.cells #[.pointer (some ⟨db,dof,none⟩),.int .i64 0,.int .i64 0,.int .i64 t0,.bool false] 211)))
   clear d2 tb2 h
   go_wp2_with fail
   refine (T1h.out _ _ D2.out).mono ?_
   rintro _ w4 h
   obtain ⟨rfl,F4,d4,tb4⟩:=did_tb h
   have j4:JD w4 F4 _ A w2.heap.size ⟨0,0,t0,false⟩:=j3.out.did d4 tb4.t tb4.fb
   have T4:=Lib.hid (TB3.out.trans tb4)
   have J4:=Lib.hid j4
   have c41:w4.cell? ⟨w2.heap.size,1,none⟩=some (.int .i64 0):=j4.cell 1
   have c43:w4.cell? ⟨w2.heap.size,3,none⟩=some (.int .i64 t0):=j4.cell 3
   have f41:=j4.unfrozen 1
   have f43:=j4.unfrozen 3
   clear j3 d4 tb4 h j4
   have HJ:=Lib.hid ((J4.out.set (k:=1) (v:=.int .i64 256) (j':=⟨256,0,t0,false⟩) rfl).set (k:=3) (v:=.int .i64 t1) (j':=⟨256,0,t1,false⟩) rfl)
   have HW:=Lib.hid (T4.out.new ((Went.of_set (F:=F4) (b:=w2.heap.size) (k:=1) (w:=w4) (v:=.int .i64 256)).trans (Went.of_set (k:=3) (v:=.int .i64 t1))) hbw)
   have hT:(t1 == 0)=false:=by rw [beq_eq_false_iff_ne];omega
   have hT0:¬ t1=0:=by omega
   go_wp2_with fail
   generalize hw5:((w4.setCell ⟨w2.heap.size,1,none⟩ (.int .i64 256)).setCell ⟨w2.heap.size,3,none⟩ (.int .i64 t1))=w5 at *
   generalize t1=turn at *
   have hJ:=HJ.out
   have c51:w5.cell? ⟨w2.heap.size,1,none⟩=some (.int .i64 (256:Int)):=hJ.cell 1
   have RW:=Lib.hid (Rows_any hJ.dw hA (.inr rfl))
   have hE:openP A=if spoilt A (rowsE A (256:Int)).2 ((256:Int) + 256)=true then ⟨6,A,newJ,[]⟩
     else ⟨stpsE (tidyL A ⟨(256:Int),(rowsE A (256:Int)).2,turn,false⟩) A,stpsA (tidyL A ⟨(256:Int),(rowsE A (256:Int)).2,turn,false⟩) A,⟨(256:Int),(rowsE A (256:Int)).2,turn,false⟩,(rowsE A (256:Int)).1⟩:=by
    rw [E0.out,ET.out,if_neg hT0]
    unfold oldJ
    rw [ET.out,EF.out]
   have HE:=Lib.hid hE
   clear hE hJ
   refine RW.out.mono ?_
   rintro _ w6 ⟨F6,d6,tb6,hr⟩
   have J6:=Lib.hid (HJ.out.did d6 tb6.t tb6.fb)
   have T6:=Lib.hid (HW.out.trans tb6)
   clear d6 RW
   by_cases hsp:spoilt A (rowsE A (256:Int)).2 ((256:Int) + 256)=true
   ·rw [if_pos hsp] at hr
    subst hr
    have q:=Lib.hid (HE.out.trans (if_pos hsp))
    clear HE tb6 hsp
    go_wp2
    go_ret3
    exact RetOpen.bad T6.out J6.out.dw (by decide) (by rw [q.out]) (by rw [q.out])
   ·rw [if_neg hsp] at hr
    obtain ⟨v6,L6,rfl,fr6,tl6⟩:=hr
    have q:=Lib.hid (HE.out.trans (if_neg hsp))
    have hat:=rowsE_at A (256:Int)
    obtain ⟨a6,c6',rfl⟩:=own_form fr6.fr.row
    have TL:=Lib.hid tl6
    generalize (rowsE A (256:Int)).1=rs at *
    generalize (rowsE A (256:Int)).2=at_ at *
    have hz6:=HW.out.t.size
    have hbl:=J6.out.lt
    have hb5:=HJ.out.lt
    have FR:=Lib.hid (show FrW w6 (Fb F6 w2.heap.size) w.heap.size (.slice a6 L6.length c6') L6 from ⟨⟨own_base fr6.fr.row hz6,fun f hf=>own_base (fr6.fr.body f hf) hz6,fr6.fr.apart⟩,fun k hk x hx=>hx.elim (fr6.clear k hk x) fun e=>absurd (fr6.fr.row.lt k hk).1 (by omega),fun f hf k hk x hx=>hx.elim (fr6.bclear f hf k hk x) fun e=>absurd ((fr6.fr.body f hf).lt k hk).1 (by omega)⟩)
    have c62:w6.cell? ⟨w2.heap.size,2,none⟩=some (.int .i64 0):=J6.out.cell 2
    have f62:=J6.out.unfrozen 2
    have HJ7:=Lib.hid (J6.out.set (k:=2) (v:=.int .i64 at_) (j':=⟨(256:Int),at_,turn,false⟩) rfl)
    have HW7:=Lib.hid (Went.of_set (F:=F6) (b:=w2.heap.size) (k:=2) (w:=w6) (v:=.int .i64 at_))
    clear HE hsp tb6 fr6 tl6
    go_wp2_with fail
    refine (Tidy_any HJ7.out ⟨(.inr rfl),by simp only;omega,by simp only;omega⟩ hA).mono ?_
    rintro _ w8 ⟨v8,F8,rfl,j8,wt8,st8⟩
    have J8:=Lib.hid j8
    have W8:=Lib.hid (HW7.out.trans wt8)
    have DA:=Lib.hid (Does_any j8 st8 (tidyL_len A (by simp only;omega)))
    clear j8 wt8 st8
    go_wp2_with fail
    refine DA.out.mono ?_
    rintro _ w9 ⟨rfl,F9,j9,wt9⟩
    have W9:=Lib.hid (W8.out.trans wt9)
    by_cases he:stpsE (tidyL A ⟨(256:Int),at_,turn,false⟩) A=0
    ·rw [he] at j9 ⊢
     have J9:=Lib.hid (show JD w9 F9 (.pointer (some ⟨db,dof,none⟩)) (stpsA (tidyL A ⟨(256:Int),at_,turn,false⟩) A) w2.heap.size ⟨(256:Int),at_,turn,false⟩ from j9)
     have HQ:=Lib.hid he
     clear j9 wt9 he
     go_wp2
     go_ret3
     exact RetOpen.good (T6.out.new W9.out hbw) J9.out (by rw [q.out];exact HQ.out) (by rw [q.out]) (by rw [q.out]) hbw (FR.out.went W9.out) (by rw [q.out];exact TL.out)
    ·have J9:=Lib.hid j9
     have HQ:=Lib.hid he
     have hb:(stpsE (tidyL A ⟨(256:Int),at_,turn,false⟩) A == 0)=false:=by rw [beq_eq_false_iff_ne];exact he
     have q1:(openP A).e=stpsE (tidyL A ⟨(256:Int),at_,turn,false⟩) A:=by rw [q.out]
     have q2:(openP A).A=stpsA (tidyL A ⟨(256:Int),at_,turn,false⟩) A:=by rw [q.out]
     have Q1:=Lib.hid q1
     have Q2:=Lib.hid q2
     clear j9 wt9 he q1 q2 q
     generalize stpsE (tidyL A ⟨(256:Int),at_,turn,false⟩) A=er at *
     go_wp2
     go_ret3
     exact RetOpen.bad (T6.out.new W9.out hbw) J9.out.dw HQ.out Q1.out Q2.out
  ·have eF:pickF A=0:=if_neg hgt
   have eT:pickT A=turnA A 0:=if_neg hgt
   have h00:=turnA_nonneg A 0
   have ET:=Lib.hid eT
   have EF:=Lib.hid eF
   have T0:=fun (w':World) (F':Foot) (h:DW w' F' (.pointer (some ⟨db,dof,none⟩)) A)=>TurnOf_any h hA (i:=0) (by decide)
   have T1:=fun (w':World) (F':Foot) (h:DW w' F' (.pointer (some ⟨db,dof,none⟩)) A)=>TurnOf_any h hA (i:=256) (by decide)
   generalize turnA A 0=t0 at *
   generalize turnA A 256=t1 at *
   have T0h:=Lib.hid T0
   have T1h:=Lib.hid T1
   clear T0 T1 eT eF
   go_enter Tryz.func84,Tryz.ntmps84
   go_wp2_with (go_at_call 113;refine R0.out.mono ?_;rintro _ w1 h;obtain ⟨rfl,F1,d1,tb1⟩:=did_tb h;have D1:=Lib.hid d1;have TB1:=Lib.hid tb1;clear d1 tb1)
   refine (T0h.out _ _ D1.out).mono ?_
   rintro _ w2 h
   obtain ⟨rfl,F2,d2,tb2⟩:=did_tb h
   have TB2:=Lib.hid (TB1.out.trans tb2)
   have hbw:=TB2.out.t.size
   have j3:=Lib.hid (jd_new d2 ⟨0,0,t0,false⟩)
   have D2:=Lib.hid (d2.below (below1 w2 (.cells #[.pointer (some ⟨db,dof,none⟩),.int .i64 0,.int .i64 0,.int .i64 t0,.bool false] 211)))
   have TB3:=Lib.hid (TB2.out.below (below1 w2 (.cells #[.pointer (some ⟨db,dof,none⟩),.int .i64 0,.int .i64 0,.int .i64 t0,.bool false] 211)))
   clear d2 tb2 h
   go_wp2_with fail
   refine (T1h.out _ _ D2.out).mono ?_
   rintro _ w4 h
   obtain ⟨rfl,F4,d4,tb4⟩:=did_tb h
   have j4:JD w4 F4 _ A w2.heap.size ⟨0,0,t0,false⟩:=j3.out.did d4 tb4.t tb4.fb
   have T4:=Lib.hid (TB3.out.trans tb4)
   have J4:=Lib.hid j4
   have c41:w4.cell? ⟨w2.heap.size,1,none⟩=some (.int .i64 0):=j4.cell 1
   have c43:w4.cell? ⟨w2.heap.size,3,none⟩=some (.int .i64 t0):=j4.cell 3
   have f41:=j4.unfrozen 1
   have f43:=j4.unfrozen 3
   clear j3 d4 tb4 h j4
   have HJ:=Lib.hid J4.out
   have HW:=Lib.hid T4.out
   by_cases hT0:t0=0
   ·subst hT0
    have c53:w4.cell? ⟨w2.heap.size,2,none⟩=some (.int .i64 0):=J4.out.cell 2
    have f53:=J4.out.unfrozen 2
    have HJ5:=Lib.hid ((J4.out.set (k:=3) (v:=.int .i64 1) (j':=⟨0,0,1,false⟩) rfl).set (k:=2) (v:=.int .i64 1) (j':=newJ) rfl)
    have HW5:=Lib.hid (T4.out.new ((Went.of_set (F:=F4) (b:=w2.heap.size) (k:=3) (w:=w4) (v:=.int .i64 1)).trans (Went.of_set (k:=2) (v:=.int .i64 1))) hbw)
    have hE:openP A=if cleanB A=false then ⟨6,A,newJ,[]⟩ else ⟨stpsE newL A,stpsA newL A,newJ,[]⟩:=by
     rw [E0.out,ET.out,if_pos rfl]
    have HE:=Lib.hid hE
    clear hE
    have CL:=Lib.hid (Clean_any HJ5.out.dw hA)
    go_wp2_with fail
    cases hcl:cleanB A with
    | false=>
     rw [hcl] at CL
     refine CL.out.mono ?_
     rintro _ w6 h
     obtain ⟨rfl,F6,d6,tb6⟩:=did_tb h
     have q:=Lib.hid (HE.out.trans (if_pos hcl))
     have D6:=Lib.hid d6
     have T6:=Lib.hid (HW5.out.trans tb6)
     clear h d6 tb6 HE
     go_wp2
     go_ret3
     exact RetOpen.bad T6.out D6.out (by decide) (by rw [q.out]) (by rw [q.out])
    | true=>
     rw [hcl] at CL
     refine CL.out.mono ?_
     rintro _ w6 h
     obtain ⟨rfl,F6,d6,tb6⟩:=did_tb h
     have q:=Lib.hid (HE.out.trans (if_neg (by rw [hcl];decide)))
     have J6:=Lib.hid (HJ5.out.did d6 tb6.t tb6.fb)
     have T6:=Lib.hid (HW5.out.trans tb6)
     clear h d6 tb6 HE
     go_wp2_with fail
     refine (Head_any 1 (by decide) w6).mono ?_
     rintro _ w7 ⟨ao7,cap7,rfl,hb7,hown7⟩
     have J7:=Lib.hid (J6.out.below hb7)
     have hlt7:=J6.out.lt
     have hF7:=Lib.hid (fun (k x:Nat) (hf:F6 k x)=>J6.out.dw.lt hf)
     have W7:=Lib.hid (Went.of_below (F:=F6) (b:=w2.heap.size) hb7)
     have WS:=Lib.hid (Write_stp J7.out (i:=0) (by decide) (ao:=ao7) (n:=15) (c:=cap7) (l:=headL 1) (by decide) (Sl.own hown7) (N:=w7.heap.size) (fun k o e=>by
      subst e
      obtain ⟨t1,t2⟩:=own_addr hown7
      exact ⟨t2,t2,by omega,fun x hx=>absurd (hF7.out k x hx) (by omega)⟩))
     clear hb7 hown7
     go_wp2_with fail
     refine WS.out.mono ?_
     rintro _ w8 ⟨u,rfl,u1,hb8,hst8⟩
     obtain ⟨b1,b2,b3,q1',q2',q3',hu,hrest⟩:=id hst8
     subst hu
     clear hrest u1
     have hb9:=below1 w8 (.cells #[.func (.func 174) #[] #[.pointer (some ⟨b1,0,none⟩),.pointer (some ⟨b2,0,none⟩),.pointer (some ⟨b3,0,none⟩)],.func (.func 119) #[.pointer (some ⟨db,dof,none⟩)] #[]] 81)
     have hz8:=hb8.size
     have hz7:=W7.out.size
     have J9:=(J7.out.below hb8).below hb9
     have hst9:StpsAt (w8.alloc (.cells #[.func (.func 174) #[] #[.pointer (some ⟨b1,0,none⟩),.pointer (some ⟨b2,0,none⟩),.pointer (some ⟨b3,0,none⟩)],.func (.func 119) #[.pointer (some ⟨db,dof,none⟩)] #[]] 81)) F6 w2.heap.size (.pointer (some ⟨db,dof,none⟩)) (.slice (some ⟨w8.heap.size,0,none⟩) 2 2) newL:=by
      refine ⟨⟨w8.heap.size,_,own_new w8 w8.heap.size 81 #[.func (.func 174) #[] #[.pointer (some ⟨b1,0,none⟩),.pointer (some ⟨b2,0,none⟩),.pointer (some ⟨b3,0,none⟩)],.func (.func 119) #[.pointer (some ⟨db,dof,none⟩)] #[]] (Nat.le_refl _) (show 2 ≤ maxLen by decide),fun i s hs=>?_⟩,fun k hk=>?_⟩
      ·match i,hs with
       | 0,hs=>cases hs;exact ⟨_,rfl,w7.heap.size,hst8.went (Went.of_below hb9)⟩
       | 1,hs=>cases hs;exact ⟨_,rfl,0,rfl⟩
      ·obtain rfl:w8.heap.size=k:=by simpa [Value.ownBlock] using hk
       exact ⟨by omega,fun x hx=>absurd (hF7.out _ x hx) (by omega)⟩
     have DA:=Lib.hid (Does_any J9 hst9 (by decide))
     have W9:=Lib.hid ((W7.out.trans (Went.of_below (F:=F6) (b:=w2.heap.size) hb8)).trans (Went.of_below (F:=F6) (b:=w2.heap.size) hb9))
     clear hst8 hst9 J9 hb8 hb9
     go_wp2_with fail
     refine DA.out.mono ?_
     rintro _ w9 ⟨rfl,F9,j9,wt9⟩
     have WA:=Lib.hid (W9.out.trans wt9)
     by_cases he:stpsE newL A=0
     ·rw [he] at j9 ⊢
      have J9:=Lib.hid (show JD w9 F9 (.pointer (some ⟨db,dof,none⟩)) (stpsA newL A) w2.heap.size newJ from j9)
      have HQ:=Lib.hid he
      clear j9 wt9 he
      go_wp2
      go_ret3
      exact RetOpen.good (T6.out.new WA.out hbw) J9.out (by rw [q.out];exact HQ.out) (by rw [q.out]) (by rw [q.out]) hbw (FrW.nil _ _ _) (by rw [q.out];rfl)
     ·have J9:=Lib.hid j9
      have HQ:=Lib.hid he
      have hb:(stpsE newL A == 0)=false:=by rw [beq_eq_false_iff_ne];exact he
      have q1:(openP A).e=stpsE newL A:=by rw [q.out]
      have q2:(openP A).A=stpsA newL A:=by rw [q.out]
      have Q1:=Lib.hid q1
      have Q2:=Lib.hid q2
      clear j9 wt9 he q1 q2 q
      generalize stpsE newL A=er at *
      go_wp2
      go_ret3
      exact RetOpen.bad (T6.out.new WA.out hbw) J9.out.dw HQ.out Q1.out Q2.out
   ·have hT:(t0 == 0)=false:=by rw [beq_eq_false_iff_ne];exact hT0
    go_wp2_with fail
    generalize w4=w5 at *
    generalize t0=turn at *
    have hJ:=HJ.out
    have c51:w5.cell? ⟨w2.heap.size,1,none⟩=some (.int .i64 (0:Int)):=hJ.cell 1
    have RW:=Lib.hid (Rows_any hJ.dw hA (.inl rfl))
    have hE:openP A=if spoilt A (rowsE A (0:Int)).2 ((0:Int) + 256)=true then ⟨6,A,newJ,[]⟩
      else ⟨stpsE (tidyL A ⟨(0:Int),(rowsE A (0:Int)).2,turn,false⟩) A,stpsA (tidyL A ⟨(0:Int),(rowsE A (0:Int)).2,turn,false⟩) A,⟨(0:Int),(rowsE A (0:Int)).2,turn,false⟩,(rowsE A (0:Int)).1⟩:=by
     rw [E0.out,ET.out,if_neg hT0]
     unfold oldJ
     rw [ET.out,EF.out]
    have HE:=Lib.hid hE
    clear hE hJ
    refine RW.out.mono ?_
    rintro _ w6 ⟨F6,d6,tb6,hr⟩
    have J6:=Lib.hid (HJ.out.did d6 tb6.t tb6.fb)
    have T6:=Lib.hid (HW.out.trans tb6)
    clear d6 RW
    by_cases hsp:spoilt A (rowsE A (0:Int)).2 ((0:Int) + 256)=true
    ·rw [if_pos hsp] at hr
     subst hr
     have q:=Lib.hid (HE.out.trans (if_pos hsp))
     clear HE tb6 hsp
     go_wp2
     go_ret3
     exact RetOpen.bad T6.out J6.out.dw (by decide) (by rw [q.out]) (by rw [q.out])
    ·rw [if_neg hsp] at hr
     obtain ⟨v6,L6,rfl,fr6,tl6⟩:=hr
     have q:=Lib.hid (HE.out.trans (if_neg hsp))
     have hat:=rowsE_at A (0:Int)
     obtain ⟨a6,c6',rfl⟩:=own_form fr6.fr.row
     have TL:=Lib.hid tl6
     generalize (rowsE A (0:Int)).1=rs at *
     generalize (rowsE A (0:Int)).2=at_ at *
     have hz6:=HW.out.t.size
     have hbl:=J6.out.lt
     have hb5:=HJ.out.lt
     have FR:=Lib.hid (show FrW w6 (Fb F6 w2.heap.size) w.heap.size (.slice a6 L6.length c6') L6 from ⟨⟨own_base fr6.fr.row hz6,fun f hf=>own_base (fr6.fr.body f hf) hz6,fr6.fr.apart⟩,fun k hk x hx=>hx.elim (fr6.clear k hk x) fun e=>absurd (fr6.fr.row.lt k hk).1 (by omega),fun f hf k hk x hx=>hx.elim (fr6.bclear f hf k hk x) fun e=>absurd ((fr6.fr.body f hf).lt k hk).1 (by omega)⟩)
     have c62:w6.cell? ⟨w2.heap.size,2,none⟩=some (.int .i64 0):=J6.out.cell 2
     have f62:=J6.out.unfrozen 2
     have HJ7:=Lib.hid (J6.out.set (k:=2) (v:=.int .i64 at_) (j':=⟨(0:Int),at_,turn,false⟩) rfl)
     have HW7:=Lib.hid (Went.of_set (F:=F6) (b:=w2.heap.size) (k:=2) (w:=w6) (v:=.int .i64 at_))
     clear HE hsp tb6 fr6 tl6
     go_wp2_with fail
     refine (Tidy_any HJ7.out ⟨(.inl rfl),by simp only;omega,by simp only;omega⟩ hA).mono ?_
     rintro _ w8 ⟨v8,F8,rfl,j8,wt8,st8⟩
     have J8:=Lib.hid j8
     have W8:=Lib.hid (HW7.out.trans wt8)
     have DA:=Lib.hid (Does_any j8 st8 (tidyL_len A (by simp only;omega)))
     clear j8 wt8 st8
     go_wp2_with fail
     refine DA.out.mono ?_
     rintro _ w9 ⟨rfl,F9,j9,wt9⟩
     have W9:=Lib.hid (W8.out.trans wt9)
     by_cases he:stpsE (tidyL A ⟨(0:Int),at_,turn,false⟩) A=0
     ·rw [he] at j9 ⊢
      have J9:=Lib.hid (show JD w9 F9 (.pointer (some ⟨db,dof,none⟩)) (stpsA (tidyL A ⟨(0:Int),at_,turn,false⟩) A) w2.heap.size ⟨(0:Int),at_,turn,false⟩ from j9)
      have HQ:=Lib.hid he
      clear j9 wt9 he
      go_wp2
      go_ret3
      exact RetOpen.good (T6.out.new W9.out hbw) J9.out (by rw [q.out];exact HQ.out) (by rw [q.out]) (by rw [q.out]) hbw (FR.out.went W9.out) (by rw [q.out];exact TL.out)
     ·have J9:=Lib.hid j9
      have HQ:=Lib.hid he
      have hb:(stpsE (tidyL A ⟨(0:Int),at_,turn,false⟩) A == 0)=false:=by rw [beq_eq_false_iff_ne];exact he
      have q1:(openP A).e=stpsE (tidyL A ⟨(0:Int),at_,turn,false⟩) A:=by rw [q.out]
      have q2:(openP A).A=stpsA (tidyL A ⟨(0:Int),at_,turn,false⟩) A:=by rw [q.out]
      have Q1:=Lib.hid q1
      have Q2:=Lib.hid q2
      clear j9 wt9 he q1 q2 q
      generalize stpsE (tidyL A ⟨(0:Int),at_,turn,false⟩) A=er at *
      go_wp2
      go_ret3
      exact RetOpen.bad (T6.out.new W9.out hbw) J9.out.dw HQ.out Q1.out Q2.out
end Go.Proofs.YtjkfondgacjpnaaGreatDoor
