/- What is proved: parts of the walk and of the plain law. No condition but those each law names. -/
import Derived.Test.YthjgiamfaijoeaaGreatDoorD03
import Derived.Test.YthjgiamfaijoeaaGreatDoorD01
import Derived.Test.YthjgiamfaijoeaaGreatDoorD00
set_option linter.unusedSimpArgs false
set_option linter.unusedVariables false
set_option maxRecDepth 100000
namespace Go.Proofs.YthjgiamfaijoeaaGreatDoor
open Go.RowKit
section
namespace Sx
theorem run_mk (w:World) (t:TypeId):(Instr.makeMap t none).run Tryz.prog w=.ok (.map (some w.heap.size)) (w.alloc (.map #[] 0)):=by
 simp only [Instr.makeMap,newObj,Sem.run_bind,Sem.run,Sem.run_pure,Result.andThen_ok]
 rfl
attribute [local go_sem high] run_mk
theorem zm9 {w:World} {b:Nat} {cs:Array Value} {t:TypeId} (h1:w.shape? b=some (t,cs.size)) (h2:∀ j,w.cell? ⟨b,j,none⟩=cs[j]?) (h3:zbu w b=some (0,0)):w.heap[b]?=some (.cells cs t):=by
 unfold World.shape? at h1
 unfold zbu at h3
 cases hq:w.heap[b]? with
 | none=>simp [hq] at h1
 | some o=>
  simp only [World.cell?,hq] at h2
  rw [hq] at h1 h3
  cases o with
  | cells c e f=>
   simp only [Option.some.injEq,Prod.mk.injEq] at h1 h3
   obtain ⟨rfl,h1⟩:=h1
   subst h3
   have:c=cs:=by
    apply Array.ext_getElem?
    intro j
    have:=h2 j
    simpa using this
   rw [this]
  | _=>simp at h1
theorem sync_w {w : World} {F : Foot} {dv : Value} {A : Ab} (H : DW w F dv A) : Calls Tryz.prog 181 #[dv] w (Did F w dv A.syc (.int .i64 A.sycE)) := by
 obtain ⟨bd, r1, r2, bl, h, rfl, hF⟩ := H
 have c2 : w.cell? ⟨bd, 2, none⟩ = some (.bool A.off) := (disk_cell h 2).1
 cases hoff : A.off with
 | true =>
   have e1 : A.syc = A := by unfold Ab.syc; rw [hoff]; rfl
   have e2 : A.sycE = 9 := by unfold Ab.sycE; rw [hoff]; rfl
   rw [e1, e2]
   rw [hoff] at c2
   refine (zwt c2).mono ?_
   rintro en w' ⟨rfl, rfl⟩
   exact ⟨rfl, F, ⟨bd, r1, r2, bl, h, rfl, hF⟩, Turns.refl F _, fun _ _ h => .inl h⟩
 | false =>
   have e1 : A.syc = if A.str then A.strA else A.strA.sy := by unfold Ab.syc; rw [hoff]; rfl
   have e2 : A.sycE = if A.str then 9 else 0 := by unfold Ab.sycE; rw [hoff]; rfl
   rw [e1, e2]
   rw [hoff] at c2
   have ST := zo3 h hoff
   have bF : ∀ x, F bd x := fun x => (hF bd x).2 (.inl rfl)
   cases hs : A.str with
   | true =>
     rw [hs] at ST
     refine (zm8 c2 (R := fun w' => DiskAt w' A.strA bd r1 r2 bl ∧ w'.os = w.os ∧ w'.tape = w.tape ∧ w'.output = w.output ∧ w'.heap.size = w.heap.size ∧ ∀ i, i ≠ bd → w'.heap[i]? = w.heap[i]?) ST).mono ?_
     rintro en w' ⟨rfl, d, o1, o2, o3, o4, o5⟩
     exact ⟨rfl, F, ⟨bd, r1, r2, bl, d, rfl, hF⟩, ⟨o1, o2, o3, Nat.le_of_eq o4.symm, fun k _ hk => o5 k fun e => hk 0 (e ▸ bF 0)⟩, fun _ _ h => .inl h⟩
   | false =>
     rw [hs] at ST
     have hfin : A.strA.last = A.last ∧ A.strA.loose = A.loose := by unfold Ab.strA; split <;> exact ⟨rfl, rfl⟩
     obtain ⟨n1, n2, n3⟩ := h.nmap
     obtain ⟨es1, cl1, l1, a1, a2, a3, a4, a5⟩ := h.m1
     obtain ⟨es2, cl2, lo, b1, b2, b3, b4⟩ := h.m2
     have hlen : ∀ p ∈ lo, p.2.length = 128 := fun p hp => by
       have hn : (lo.map (·.1)).Nodup := by
         have := b2.2
         unfold encA at this
         rw [List.map_map] at this
         have e : lo.map ((fun q : Value × Value => q.1) ∘ fun p => (Value.int .i64 p.1, loC p.2)) = (lo.map (·.1)).map (Value.int .i64) := by rw [List.map_map]; rfl
         rw [e] at this
         exact List.Pairwise.of_map (S := fun x y : Value => x ≠ y) (Value.int .i64) (fun a b hab e => hab (by rw [e])) this
       have h1 := zhr hn hp
       rw [b4 p.1] at h1
       cases hl : A.loose p.1 with
       | none => rw [hl] at h1; cases h1
       | some q =>
         rw [hl] at h1
         rw [← Option.some.inj h1, zfh]
         exact (h.lo _ _ hl).1
     refine (zwu (od := 0) (r1 := r1) (r2 := r2) (n := A.strA.done) (l1 := l1) (lo := lo) c2 (R := fun w' => DiskAt w' A.strA bd r1 r2 bl ∧ w'.os = w.os ∧ w'.tape = w.tape ∧ w'.output = w.output ∧ w'.heap.size = w.heap.size ∧ ∀ i, i ≠ bd → w'.heap[i]? = w.heap[i]?) ST ?_).mono ?_
     · rintro w' ⟨d, _, _, _, _, o5⟩
       exact ⟨(disk_cell d 0).1, (disk_cell d 1).1, (disk_cell d 4).1, (disk_cell d 4).2, ⟨es1, cl1, (o5 r1 (Ne.symm n1)).trans a1, a2, a3⟩, a4, ⟨es2, cl2, (o5 r2 (Ne.symm n2)).trans b1, b2, b3⟩, hlen, h.ne⟩
     · rintro en w2 ⟨rfl, w', nb, ⟨d, o1, o2, o3, o4, o5⟩, S⟩
       obtain ⟨es', c', l', m1, m2, m3, m4, m5⟩ := S.m1
       obtain ⟨c'', m6⟩ := S.m2
       have hnb : ∀ k, (∃ b, nb k = some b) ↔ ∃ l, A.loose k = some l := fun k => by
         constructor
         · rintro ⟨b, hb⟩
           obtain ⟨_, _, bs, hbs, _⟩ := S.at_ k b hb
           rw [b4 k] at hbs
           cases hl : A.loose k with
           | none => rw [hl] at hbs; cases hbs
           | some l => exact ⟨l, rfl⟩
         · rintro ⟨l, hl⟩
           have := S.all k (by rw [b4 k, hl]; rfl)
           cases hb : nb k with
           | none => rw [hb] at this; cases this
           | some b => exact ⟨b, rfl⟩
       have hbs : ∀ k b, nb k = some b → w'.heap.size ≤ b ∧ ∃ l, A.loose k = some l ∧ SecAt w2 b (ints l) := fun k b hb => by
         obtain ⟨s1, _, bs, hbs, s2⟩ := S.at_ k b hb
         rw [b4 k] at hbs
         cases hl : A.loose k with
         | none => rw [hl] at hbs; cases hbs
         | some l => rw [hl] at hbs; exact ⟨s1, l, rfl, by rw [Option.some.inj hbs]; exact s2⟩
       have hsyS : ∀ k l, A.loose k = some l → A.strA.sy.last k = some l := fun k l hl => by
         show A.strA.syLast k = _
         unfold Ab.syLast
         rw [hfin.2, hl]
       have hsyN : ∀ k, nb k = none → A.strA.sy.last k = A.strA.last k := fun k hk => by
         show A.strA.syLast k = _
         unfold Ab.syLast
         rw [hfin.2]
         cases hl : A.loose k with
         | none => rfl
         | some l =>
           obtain ⟨b, hb⟩ := (hnb k).2 ⟨l, hl⟩
           rw [hk] at hb
           cases hb
       have hbd : bd < w'.heap.size := (zadu d.ob).1
       have hob : w2.heap[bd]? = some (.cells (A.strA.sy.cells r1 r2) 135) := by
         refine zm9 ?_ (fun j => ?_) ?_
         · rw [S.fr.shape bd hbd]
           unfold World.shape?
           rw [d.ob]
           rfl
         · by_cases hj : j = 4
           · subst hj
             exact S.c4
           · rw [S.fr.cell bd j hbd (by rintro (e | e | ⟨_, e⟩); · exact n1 e
                                        · exact n2 e
                                        · exact hj (by omega)), (disk_cell d j).1]
             match j, hj with
             | 0, _ => rfl
             | 1, _ => rfl
             | 2, _ => rfl
             | 3, _ => rfl
             | n + 5, _ => rfl
         · rw [S.fr.frl bd hbd (fun o ho hS => by
             rcases hS with e | e | ⟨_, e⟩
             · exact n1 e
             · exact n2 e
             · rw [e, (disk_cell d (0 + 4)).1] at ho; cases ho)]
           unfold zbu
           rw [d.ob]
       have hkeep : ∀ k, k < w'.heap.size → k ≠ bd → k ≠ r1 → k ≠ r2 → w2.heap[k]? = w'.heap[k]? := fun k hk g1 g2 g3 => S.fr.block k hk fun o ho => by
         rcases ho with e | e | ⟨e, _⟩
         · exact g2 e
         · exact g3 e
         · exact g1 e
       refine ⟨rfl, FootD bd r1 r2 (fun k => match nb k with | some b => some (some b) | none => bl k), ⟨bd, r1, r2, _, ?_, rfl, fun _ _ => Iff.rfl⟩, ⟨S.fr.os.trans o1, S.fr.tape.trans o2, S.fr.output.trans o3, by rw [← o4]; exact S.fr.size, fun k hk hFk => ?_⟩, fun b x hb => ?_⟩
       · refine ⟨hob, ⟨es', c', l', m1, m2, m3, m4, fun k => ?_⟩, ⟨#[], c'', [], m6, ⟨List.Perm.refl _, List.nodup_nil⟩, MapKept.stamped_empty _, fun k => rfl⟩, fun k b hb => ?_, fun k hb => ?_, fun k hb => ?_, (fun k l hl => by cases hl), h.ne, fun k k' b hb hb' => ?_, d.rng⟩
         · rw [m5 k]
           cases nb k with
           | some b => rfl
           | none => exact a5 k
         · cases hn : nb k with
           | some b0 =>
             simp only [hn] at hb
             cases hb
             obtain ⟨s1, l, s2, s3⟩ := hbs k b hn
             exact ⟨by omega, l, hsyS k l s2, (h.lo k l s2).1, s3⟩
           | none =>
             simp only [hn] at hb
             obtain ⟨q1, l, q2, q3, q4⟩ := d.sec k b hb
             exact ⟨q1, l, (hsyN k hn).trans q2, q3, secat_heap q4 (hkeep b (secat_lt q4 q3) q1 (n3 k b hb).1 (n3 k b hb).2)⟩
         · cases hn : nb k with
           | some b0 => simp only [hn] at hb; cases hb
           | none => simp only [hn] at hb; exact (hsyN k hn).trans (d.torn k hb)
         · cases hn : nb k with
           | some b0 => simp only [hn] at hb; cases hb
           | none => simp only [hn] at hb; exact (hsyN k hn).trans (d.bare k hb)
         · cases hn : nb k with
           | some b0 =>
             cases hn' : nb k' with
             | some b1 =>
               simp only [hn, hn'] at hb hb'
               cases hb
               cases hb'
               exact S.inj k k' b hn hn'
             | none =>
               simp only [hn, hn'] at hb hb'
               cases hb
               obtain ⟨q1, l, q2, q3, q4⟩ := d.sec k' b hb'
               have h1 := (hbs k b hn).1
               have h2 := secat_lt q4 q3
               omega
           | none =>
             cases hn' : nb k' with
             | some b1 =>
               simp only [hn, hn'] at hb hb'
               cases hb'
               obtain ⟨q1, l, q2, q3, q4⟩ := d.sec k b hb
               have h1 := (hbs k' b hn').1
               have h2 := secat_lt q4 q3
               omega
             | none =>
               simp only [hn, hn'] at hb hb'
               exact h.inj k k' b hb hb'
       · have g1 : k ≠ bd := fun e => hFk 0 ((hF k 0).2 (.inl e))
         have g2 : k ≠ r1 := fun e => hFk 0 ((hF k 0).2 (.inr (.inl e)))
         have g3 : k ≠ r2 := fun e => hFk 0 ((hF k 0).2 (.inr (.inr (.inl e))))
         exact (hkeep k (by rw [o4]; exact hk) g1 g2 g3).trans (o5 k g1)
       · rcases hb with e | e | e | ⟨k, hk⟩
         · exact .inl ((hF b x).2 (.inl e))
         · exact .inl ((hF b x).2 (.inr (.inl e)))
         · exact .inl ((hF b x).2 (.inr (.inr (.inl e))))
         · cases hn : nb k with
           | some b' =>
             simp only [hn] at hk
             cases hk
             have := (hbs k b hn).1
             exact .inr (by omega)
           | none =>
             simp only [hn] at hk
             exact .inl ((hF b x).2 (.inr (.inr (.inr ⟨k, hk⟩))))
end Sx
end
section
namespace Sx
section
variable {P:Program}
theorem run_lookup_ok {t kt et:TypeId} {ok:Value→Prop} (hu:P.underlying t=some (.map kt et)) (hk:KeyT P kt ok) {w:World} {r:Nat} {es:Array MapEntry} {clock:Nat} (h2:w.heap[r]?=some (.map es clock)) {k u:Value} {l:List (Value × Value)} (hM:MapIs (prs es) l) (hok:ok k) (hes:∀ e ∈ es.toList,ok e.key) (hf:getL l k=some u):
  (Instr.lookup t (.map (some r)) k true).run P w=.ok (.tuple #[u,.bool true]) w:=by
 have hget:=MapKept.run_getObj_map (P:=P) h2
 have hfi:=hk.find k es.toList w hok hes
 have hM':MapIs (es.toList.map fun e=>(e.key,e.val)) (l.map fun p=>(p.1,id p.2)):=by rw [show l.map (fun p=>(p.1,id p.2))=l from List.map_id _];exact hM
 have hfind:=mapIs_find hM' k
 rw [hf] at hfind
 cases hq:findIx k es.toList 0 with
 | none=>rw [hq] at hfind;cases hfind
 | some p=>
  obtain ⟨j,u'⟩:=p
  rw [hq] at hfind hfi
  have:u'=u:=by simpa using hfind
  subst this
  simp only [Instr.lookup,Sem.run_bind,run_underlying hu,Result.andThen_ok,hget,Sem.run_pure,hk.chk es.isEmpty k w hok,hfi]
  rfl
theorem run_lookup_no {t kt et:TypeId} {ok:Value→Prop} (hu:P.underlying t=some (.map kt et)) (hk:KeyT P kt ok) {i:TypeInfo} {z:Value} (hi:P.info? et=some i) (hz:i.zero=some z) {w:World} {r:Nat} {es:Array MapEntry} {clock:Nat} (h2:w.heap[r]?=some (.map es clock)) {k:Value} {l:List (Value × Value)} (hM:MapIs (prs es) l) (hok:ok k) (hes:∀ e ∈ es.toList,ok e.key) (hf:getL l k=none):
  (Instr.lookup t (.map (some r)) k true).run P w=.ok (.tuple #[z,.bool false]) w:=by
 have hget:=MapKept.run_getObj_map (P:=P) h2
 have hfi:=hk.find k es.toList w hok hes
 have hM':MapIs (es.toList.map fun e=>(e.key,e.val)) (l.map fun p=>(p.1,id p.2)):=by rw [show l.map (fun p=>(p.1,id p.2))=l from List.map_id _];exact hM
 have hfind:=mapIs_find hM' k
 rw [hf] at hfind
 have hzr:∀ w,(zeroValue et).run P w=.ok z w:=fun w=>by simp [zeroValue,typeInfo,hi,hz]
 cases hq:findIx k es.toList 0 with
 | some p=>rw [hq] at hfind;cases hfind
 | none=>
  rw [hq] at hfi
  simp only [Instr.lookup,Sem.run_bind,run_underlying hu,Result.andThen_ok,hget,Sem.run_pure,hk.chk es.isEmpty k w hok,hfi,hzr]
  rfl
end
theorem zqz {w:World} {ao:Option Addr} {n c:Nat} {l:List Nat} (hl:Go.Proofs.YthjgiamfaijoeaaGreatDoor.Sl w ao n c (bts l)) (hn:n < 1099511627776):Calls Tryz.prog 317 #[.slice ao n c] w (RetO 5 w.heap.size n (bts l) w):=by
 have hln:l.length=n:=by rw [← hl.len,zam]
 have hnil:=fun (w:World) (a:Option Addr) (n c:Nat)=>Go.Lib.run_eql_slice_nil (P:=Tryz.prog) w 37 5 a n c 0 0 Tryz.underlying37
 cases ao with
 | none=>
  obtain rfl:c=0:=hl.nil rfl
  obtain rfl:n=0:=by have:=hl.le;omega
  obtain rfl:l=[]:=List.eq_nil_of_length_eq_zero hln
  go_enter Tryz.func317,Tryz.ntmps317
  go_wp2
  go_ret
  exact ⟨none,0,rfl,Below.refl _ _,World.ownsRow_nil _ _ _ _⟩
 | some ad=>
  have hal:Go.Proofs.YthjgiamfaijoeaaGreatDoor.Sl (w.alloc (.cells #[] 5)) (some ad) n c (bts l):=hl.keep (zadw _) ((Below.refl _ w).alloc (zadw _) _)
  go_enter Tryz.func317,Tryz.ntmps317
  go_wp2_with (at_builtin;refine zjb zgt rfl _ _ rfl (B:=w.heap.size) rfl (World.ownsRow_made w #[] 0 (zadw _) (by decide) rfl) rfl (by rw [Nat.mul_one];exact hal.len) (fun h=>by cases h) hal.cells (zct l) (by omega) (by simp) ?_)
  intro ao' cap w' hown hb
  go_wp2
  go_ret
  exact ⟨ao',cap,rfl,((Below.refl _ w).alloc (zadw _) _).trans hb,hown⟩
def zaam (F:Foot) (w:World) (dv:Value) (A:Ab) (i:Int):Ending→World→Prop:=fun en w'=>∃ F',DW w' F' dv A∧Turns F w w'∧(∀ b x,F' b x→F b x ∨ w.heap.size ≤ b)∧match A.see i with
 | some l=>∃ b o c,en=.returned (.tuple #[.slice (some ⟨b,o,none⟩) 128 c,.int .i64 0])∧l.length=128∧Go.Proofs.YthjgiamfaijoeaaGreatDoor.Sl w' (some ⟨b,o,none⟩) 128 c (bts l)∧∀ j,j < 128→¬ F' b (o + j)∧w'.frozen? ⟨b,o + j,none⟩=false∧(F b (o + j) ∨ w.heap.size ≤ b)
 | none=>en=.returned (.tuple #[.slice none 0 0,.int .i64 24])
theorem zww (w:World):(Instr.makeSlice 37 (.int .i64 128) (.int .i64 128)).run Tryz.prog w=.ok (.slice (some ⟨w.heap.size,0,none⟩) 128 128) (w.alloc (.cells (bts z128).toArray 5)):=by
 obtain ⟨i,hi,h1,h2,h3⟩:=info_parts (show (Tryz.prog.info? 5).map (fun i=>(i.zero,i.size,i.bytes))=some (some (.int .u8 0),1,1) by kernel_rfl)
 have:=run_make (P:=Tryz.prog) w 37 5 i (.int .u8 0) Tryz.underlying37 hi h1 .i64 .i64 128 128 (by decide) (Int.le_refl _) (by rw [h3];decide) (by decide)
 rw [h2] at this
 have hz:madeCells (Value.int .u8 0).cells ((128:Int).toNat * 1)=(bts z128).toArray:=by kernel_rfl
 rw [hz] at this
 exact this
attribute [local go_sem high] zww
theorem zna (w:World) (o:Obj):Below w.heap.size w (w.alloc o):=(Below.refl _ w).alloc (zadw _) o
theorem zdv {F:Foot} {w w':World} (h:Below w.heap.size w w'):Turns F w w':=⟨h.os,h.tape,h.output,h.size,fun k hk _=>h.block k hk⟩
set_option maxHeartbeats 2000000 in
theorem read_w {w:World} {F:Foot} {dv:Value} {A:Ab} (H:DW w F dv A) {i:Int} (hi:0 ≤ i∧i < 512):Calls Tryz.prog 246 #[dv,.int .i64 i] w (zaam F w dv A i):=by
 obtain ⟨bd,r1,r2,bl,h,rfl,hF⟩:=H
 have TH:=zadv (zsr w hi)
 have HH:=zadv h
 clear h
 go_enter Tryz.func246,Tryz.ntmps246
 go_wp2_with fail
 refine TH.out.mono ?_
 rintro _ _ ⟨rfl,g,rfl⟩
 have D1:=zadv (HH.out.keepB (w':=g.val) fun b x hb=>g.below.block b (HH.out.size hb))
 have B1:=zadv g.below
 generalize g.val=w1 at *
 clear TH HH
 have c1:w1.cell? ⟨bd,1,none⟩=some (.map (some r2)):=(disk_cell D1.out 1).1
 have c0:w1.cell? ⟨bd,0,none⟩=some (.map (some r1)):=(disk_cell D1.out 0).1
 obtain ⟨es2,cl2,lo,b1,b2,b3,b4⟩:=D1.out.m2
 have hg2:=zcb loC lo i
 rw [b4 i] at hg2
 have hk2:=zbm b2 (zcc loC lo)
 cases hlo:A.loose i with
 | some l=>
  rw [hlo] at hg2
  have hloc:loC (ints l)=.agg (bts l).toArray:=by unfold loC;rw [zo2]
  have hl:=(D1.out.lo i l hlo).1
  have hlk:=run_lookup_ok (P:=Tryz.prog) (t:=133) Tryz.underlying133 (keyInt Tryz.underlying3) b1 b2 ⟨i,rfl⟩ hk2 (hg2.trans (congrArg some hloc))
  have hst:(storeCells ⟨w1.heap.size,0,none⟩ (bts l)).run Tryz.prog (w1.alloc (.cells Tryz.zeroCells185 185))=.ok () (w1.alloc (.cells (bts l).toArray 185)):=by
   refine run_storeCells_new w1 185 Tryz.zeroCells185 (bts l).toArray ?_ ?_ ?_
   ·rw [List.size_toArray,zam,hl];kernel_rfl
   ·exact (show Tryz.zeroCells185.size=128 by kernel_rfl).trans (by rw [List.size_toArray,zam,hl])
   ·simp only [List.all_toArray,List.all_eq_true]
    exact fun c hc=>zct l c hc
  have HL:=zadv hlo
  have hbl:(bts l).length=128:=by rw [zam,hl]
  clear b1 b2 b3 b4 hg2 hk2 hloc hlo c0
  go_wp2
  refine bodyPost_ret (results_tmp2 rfl _ _ _) rfl ?_
  have b2:=zna w1 (.cells (bts l).toArray 185)
  refine ⟨F,⟨bd,r1,r2,bl,D1.out.keepB fun b x hb=>b2.block b (D1.out.size hb),rfl,hF⟩,zdv (B1.out.trans (b2.mono B1.out.size)),fun _ _ h=>.inl h,?_⟩
  unfold Ab.see
  rw [HL.out]
  refine ⟨w1.heap.size,0,128,rfl,hl,?_,fun j hj=>⟨fun hFj=>?_,?_,.inr B1.out.size⟩⟩
  ·have:=zcp w1 (bts l).toArray 185 128 w1.heap.size (0,0) rfl (by rw [List.size_toArray,zam,hl])
   exact this
  ·have:=D1.out.size ((hF _ _).1 hFj)
   omega
  ·exact (World.frozen?_alloc_new ..)
 | none=>
  rw [hlo] at hg2
  obtain ⟨iz,hi1,hi2,_,_⟩:=info_parts (show (Tryz.prog.info? 185).map (fun i=>(i.zero,i.size,i.bytes))=some (some (.agg (bts (List.replicate 128 0)).toArray),128,128) by kernel_rfl)
  have hlk:=run_lookup_no (P:=Tryz.prog) (t:=133) Tryz.underlying133 (keyInt Tryz.underlying3) hi1 hi2 b1 b2 ⟨i,rfl⟩ hk2 hg2
  have hl:(List.replicate 128 0).length=128:=List.length_replicate
  have hst:(storeCells ⟨w1.heap.size,0,none⟩ (bts (List.replicate 128 0))).run Tryz.prog (w1.alloc (.cells Tryz.zeroCells185 185))=.ok () (w1.alloc (.cells (bts (List.replicate 128 0)).toArray 185)):=by
   refine run_storeCells_new w1 185 Tryz.zeroCells185 (bts (List.replicate 128 0)).toArray ?_ ?_ ?_
   ·rw [List.size_toArray,zam,hl];kernel_rfl
   ·exact (show Tryz.zeroCells185.size=128 by kernel_rfl).trans (by rw [List.size_toArray,zam,hl])
   ·simp only [List.all_toArray,List.all_eq_true]
    exact fun c hc=>zct _ c hc
  obtain ⟨zz,hzz⟩:∃ zz:List Nat,zz=List.replicate 128 0:=⟨_,rfl⟩
  rw [← hzz] at hlk hl hst
  have HZ:=zadv hzz
  have HL:=zadv hlo
  have bb:=zna w1 (.cells (bts zz).toArray 185)
  have D2:=zadv (D1.out.keepB (w':=w1.alloc (.cells (bts zz).toArray 185)) fun b x hb=>bb.block b (D1.out.size hb))
  have B2:=zadv (B1.out.trans (bb.mono B1.out.size))
  obtain ⟨es1,cl1,l1,a1,a2,a3,a4,a5⟩:=D2.out.m1
  have hk1:=zbm a2 a4
  have h0:(w1.alloc (.cells (bts zz).toArray 185)).cell? ⟨bd,0,none⟩=some (.map (some r1)):=(disk_cell D2.out 0).1
  have hbz:(bts zz).length=128:=by rw [zam,hl]
  clear b1 b2 b3 b4 hg2 hk2 hlo c0 hzz hi1 hi2 bb
  have hsee:A.see i=A.last i:=by unfold Ab.see;rw [HL.out]
  have HSee:=zadv hsee
  clear hsee
  cases hbl:bl i with
  | none=>
   obtain ⟨iz,hi1,hi2,_,_⟩:=info_parts (show (Tryz.prog.info? 187).map (fun i=>(i.zero,i.size,i.bytes))=some (some (.pointer none),1,8) by kernel_rfl)
   have hlk2:=run_lookup_no (P:=Tryz.prog) (t:=132) Tryz.underlying132 (keyInt Tryz.underlying3) hi1 hi2 a1 a2 ⟨i,rfl⟩ hk1 ((a5 i).trans (by rw [hbl];rfl))
   have hla:=zadv (D2.out.bare i hbl)
   clear a1 a2 a3 a4 a5 hk1 hi1 hi2 hbl
   go_wp2
   refine bodyPost_ret (results_tmp2 rfl _ _ _) rfl ?_
   have b3:=zna (w1.alloc (.cells (bts zz).toArray 185)) (.cells (bts z128).toArray 5)
   have hs:(w1.alloc (.cells (bts zz).toArray 185)).heap.size=w1.heap.size + 1:=by simp
   refine ⟨F,⟨bd,r1,r2,bl,D2.out.keepB fun b x hb=>b3.block b (D2.out.size hb),rfl,hF⟩,zdv (B2.out.trans (b3.mono B2.out.size)),fun _ _ h=>.inl h,?_⟩
   rw [HSee.out,hla.out]
   refine ⟨w1.heap.size + 1,0,128,rfl,List.length_replicate,?_,fun j hj=>⟨fun hFj=>?_,?_,.inr (by have:=B1.out.size;omega)⟩⟩
   ·exact zcp (w1.alloc (.cells (bts zz).toArray 185)) (bts z128).toArray 5 128 (w1.heap.size + 1) (0,0) hs (by kernel_rfl)
   ·have:=D2.out.size ((hF _ _).1 hFj)
    omega
   ·rw [← hs];exact (World.frozen?_alloc_new ..)
  | some q=>
   have hlk2:=run_lookup_ok (P:=Tryz.prog) (t:=132) Tryz.underlying132 (keyInt Tryz.underlying3) a1 a2 ⟨i,rfl⟩ hk1 (u:=ptV q) ((a5 i).trans (by rw [hbl];rfl))
   clear a1 a2 a3 a4 a5 hk1
   cases q with
   | none=>
    have hla:=zadv (D2.out.torn i hbl)
    clear hbl
    unfold ptV at hlk2
    go_wp2
    refine bodyPost_ret (results_tmp2 rfl _ _ _) rfl ?_
    refine ⟨F,⟨bd,r1,r2,bl,D2.out,rfl,hF⟩,zdv B2.out,fun _ _ h=>.inl h,?_⟩
    rw [HSee.out,hla.out]
    rfl
   | some b=>
    obtain ⟨q1,l,q2,q3,q4⟩:=D2.out.sec i b hbl
    have hla:=zadv q2
    have hll:=zadv q3
    have hSl:Go.Proofs.YthjgiamfaijoeaaGreatDoor.Sl (w1.alloc (.cells (bts zz).toArray 185)) (some ⟨b,0,none⟩) 128 128 (bts l):=by
     refine ⟨by rw [zam,q3],zadw _,(fun e=>by cases e),.inr ⟨b,0,rfl,fun j x hj=>?_⟩⟩
     rw [Nat.zero_add]
     rw [zd6] at hj
     cases hx:l[j]? with
     | none=>rw [hx] at hj;cases hj
     | some n=>
      rw [hx] at hj
      cases hj
      exact (q4 j n (by unfold ints;rw [List.getElem?_map,hx];rfl)).1
    have CL:=zadv (zqz hSl (by decide))
    clear hbl q1 q2 q3 q4 hSl
    unfold ptV at hlk2
    go_wp2_with fail
    refine CL.out.mono ?_
    rintro _ w3 ⟨ao,c,rfl,hb3,own3⟩
    obtain ⟨g,cur,rfl,hg1,hg2⟩:∃ g cur,ao=some ⟨g,0,none⟩∧(w1.alloc (.cells (bts zz).toArray 185)).heap.size ≤ g∧w3.heap[g]?=some (.cells cur 5):=by
     rcases own3.2 with ⟨hv,_⟩ | ⟨g,c',cur,hv,hb,hg,_⟩
     ·cases hv
     ·exact ⟨g,cur,(Value.slice.inj hv).1,hb,hg⟩
    have HS3:=zadv (Sl.own own3)
    have HB3:=zadv hb3
    have HG2:=zadv hg2
    clear own3 hb3 hg2 CL
    go_wp2
    refine bodyPost_ret (results_tmp2 rfl _ _ _) rfl ?_
    refine ⟨F,⟨bd,r1,r2,bl,D2.out.keepB fun b x hb=>HB3.out.block b (D2.out.size hb),rfl,hF⟩,zdv (B2.out.trans (HB3.out.mono B2.out.size)),fun _ _ h=>.inl h,?_⟩
    rw [HSee.out,hla.out]
    refine ⟨g,0,c,rfl,hll.out,HS3.out,fun j hj=>⟨fun hFj=>?_,?_,.inr (by have:=B2.out.size;omega)⟩⟩
    ·have:=D2.out.size ((hF _ _).1 hFj)
     omega
    ·unfold World.frozen?
     rw [HG2.out]
     simp
end Sx
end
section
open Sx (Ab DW Turns Did Foot)
structure Jr where
 first:Int
 at_:Int
 turn:Int
 dead:Bool
def Jr.cells (j:Jr) (dv:Value):Array Value:=#[dv,.int .i64 j.first,.int .i64 j.at_,.int .i64 j.turn,.bool j.dead]
structure JD (w:World) (F:Foot) (dv:Value) (A:Ab) (b:Nat) (j:Jr):Prop where
 dw:DW w F dv A
 jr:w.heap[b]?=some (.cells (j.cells dv) 266)
 ap:∀ x,¬ F b x
theorem JD.lt {w:World} {F:Foot} {dv:Value} {A:Ab} {b:Nat} {j:Jr} (h:JD w F dv A b j):b < w.heap.size:=(zadu h.jr).1
theorem JD.cell {w:World} {F:Foot} {dv:Value} {A:Ab} {b:Nat} {j:Jr} (h:JD w F dv A b j) (k:Nat):w.cell? ⟨b,k,none⟩=(j.cells dv)[k]?:=by
 unfold World.cell?
 simp [h.jr]
theorem JD.unfrozen {w:World} {F:Foot} {dv:Value} {A:Ab} {b:Nat} {j:Jr} (h:JD w F dv A b j) (k:Nat):w.frozen? ⟨b,k,none⟩=false:=by
 simp [World.frozen?,h.jr]
theorem JD.did {w w':World} {F F':Foot} {dv:Value} {A A':Ab} {b:Nat} {j:Jr} (h:JD w F dv A b j) (hd:DW w' F' dv A') (ht:Turns F w w') (hb:∀ i x,F' i x→F i x ∨ w.heap.size ≤ i):JD w' F' dv A' b j:=
 ⟨hd,(ht.block b h.lt h.ap).trans h.jr,fun x hx=>(hb b x hx).elim (h.ap x) fun h2=>absurd h.lt (by omega)⟩
theorem JD.below {w w':World} {F:Foot} {dv:Value} {A:Ab} {b:Nat} {j:Jr} (h:JD w F dv A b j) (hw:Below w.heap.size w w'):JD w' F dv A b j:=
 ⟨h.dw.below hw,(hw.block b h.lt).trans h.jr,h.ap⟩
theorem JD.set {w:World} {F:Foot} {dv:Value} {A:Ab} {b:Nat} {j j':Jr} (h:JD w F dv A b j) {k:Nat} {v:Value} (e:(j.cells dv).set! k v=j'.cells dv):JD (w.setCell ⟨b,k,none⟩ v) F dv A b j':=by
 refine ⟨h.dw.keep (S:=fun i x=>i=b∧k ≤ x∧x < k + [v].length) (Sx.Fr.setCells w b k [v]) fun i x hf hs=>h.ap x (by rw [← hs.1];exact hf),?_,h.ap⟩
 have:=h.jr
 simp only [World.setCell,Array.getElem?_modify,h.jr,if_true,Option.map_some]
 rw [← e]
 rfl
structure Went (F:Foot) (b:Nat) (w:World) (F':Foot) (w':World):Prop where
 os:w'.os=w.os
 tape:w'.tape=w.tape
 output:w'.output=w.output
 size:w.heap.size ≤ w'.heap.size
 block:∀ k,k < w.heap.size→k ≠ b→(∀ x,¬ F k x)→w'.heap[k]?=w.heap[k]?
 fb:∀ i x,F' i x→F i x ∨ w.heap.size ≤ i
theorem Went.refl (F:Foot) (b:Nat) (w:World):Went F b w F w:=⟨rfl,rfl,rfl,zadw _,fun _ _ _ _=>rfl,fun _ _ h=>.inl h⟩
theorem Went.trans {F F1 F2:Foot} {b:Nat} {w w1 w2:World} (h:Went F b w F1 w1) (h':Went F1 b w1 F2 w2):Went F b w F2 w2:=
 ⟨h'.os.trans h.os,h'.tape.trans h.tape,h'.output.trans h.output,Nat.le_trans h.size h'.size,
  fun k hk hne hf=>(h'.block k (Nat.lt_of_lt_of_le hk h.size) hne fun x hx=>(h.fb k x hx).elim (hf x) (by omega)).trans (h.block k hk hne hf),
  fun i x hx=>(h'.fb i x hx).elim (fun h1=>h.fb i x h1) fun h1=>.inr (Nat.le_trans h.size h1)⟩
theorem Went.of_did {F F':Foot} {b:Nat} {w w':World} (ht:Turns F w w') (hb:∀ i x,F' i x→F i x ∨ w.heap.size ≤ i):Went F b w F' w':=
 ⟨ht.os,ht.tape,ht.output,ht.size,fun k hk _ hf=>ht.block k hk hf,hb⟩
theorem Went.of_below {F:Foot} {b:Nat} {w w':World} (h:Below w.heap.size w w'):Went F b w F w':=⟨h.os,h.tape,h.output,h.size,fun k hk _ _=>h.block k hk,fun _ _ h=>.inl h⟩
theorem Went.of_set {F:Foot} {b k:Nat} {w:World} {v:Value}:Went F b w F (w.setCell ⟨b,k,none⟩ v):=
 ⟨rfl,rfl,rfl,by simp,fun i _ hne _=>Below.heap_setCell _ _ _ _ hne,fun _ _ h=>.inl h⟩
theorem JD.grown {w w':World} {F:Foot} {dv:Value} {A:Ab} {b:Nat} {j:Jr} {row:Option Nat} (h:JD w F dv A b j) (hgr:w.grownBy w' row) (hc:∀ k,row=some k→k ≠ b∧∀ x,¬ F k x):JD w' F dv A b j:=by
 refine ⟨h.dw.keepB fun i ⟨x,hx⟩=>hgr.block i (h.dw.lt hx) fun e=>(hc i e.symm).2 x hx,?_,h.ap⟩
 rw [hgr.block b h.lt fun e=>(hc b e.symm).1 rfl]
 exact h.jr
theorem Went.grown {F F1:Foot} {b:Nat} {w w1 w2:World} {row:Option Nat} (h:Went F b w F1 w1) (hgr:w1.grownBy w2 row) (hrow:∀ k,row=some k→w.heap.size ≤ k):Went F b w F1 w2:=
 ⟨hgr.os.trans h.os,hgr.tape.trans h.tape,hgr.output.trans h.output,Nat.le_trans h.size hgr.size,
  fun k hk hne hf=>(hgr.block k (Nat.lt_of_lt_of_le hk h.size) fun e=>absurd hk (by have:=hrow k e.symm;omega)).trans (h.block k hk hne hf),h.fb⟩
def JDid (F:Foot) (w:World) (dv:Value) (b:Nat) (A':Ab) (j':Jr) (v:Value):Ending→World→Prop:=fun e w'=>e=.returned v∧∃ F',JD w' F' dv A' b j'∧Went F b w F' w'
theorem zo4 {F F':Foot} {b:Nat} {w w':World} {B e s n:Nat} {v:Value} {xs:List Value} (h:w.ownsRow B e s v n xs) (hw:Went F b w F' w') (hc:∀ k,v.ownBlock=some k→k ≠ b∧∀ x,¬ F k x):w'.ownsRow B e s v n xs:=by
 refine ⟨h.1,?_⟩
 have hl:=h.lt
 rcases h.2 with h1 | ⟨g,c,cur,hv,hb,hg,r⟩
 ·exact .inl h1
 ·have e1:v.ownBlock=some g:=by rw [hv];rfl
  obtain ⟨h2,h3⟩:=hc g e1
  exact .inr ⟨g,c,cur,hv,hb,(hw.block g (hl g e1).2 h2 h3).trans hg,r⟩
theorem zo5 {w:World} {F:Foot} {dv:Value} {A:Ab} {b:Nat} {j:Jr} (h:JD w F dv A b j):
  Calls Tryz.prog 311 #[.pointer (some ⟨b,0,none⟩)] w (JDid F w dv b A { j with dead:=j.dead || A.off } (.bool (j.dead || A.off))):=by
 have c0:w.cell? ⟨b,0,none⟩=some dv:=h.cell 0
 have c4:w.cell? ⟨b,4,none⟩=some (.bool j.dead):=h.cell 4
 have hf:=h.unfrozen 4
 have H:=zadv h
 clear h
 cases hd:j.dead with
 | true=>
  rw [hd] at c4
  have HS:=zadv (H.out.set (k:=4) (v:=.bool true) (j':={ j with dead:=true }) rfl)
  have HW:=zadv (Went.of_set (F:=F) (b:=b) (k:=4) (w:=w) (v:=.bool true))
  go_enter Tryz.func311,Tryz.ntmps311
  go_wp2
  go_ret
  exact ⟨rfl,F,HS.out,HW.out⟩
 | false=>
  rw [hd] at c4
  go_enter Tryz.func311,Tryz.ntmps311
  go_wp2_with (go_at_call 175;refine (Sx.down_w H.out.dw).mono ?_;rintro _ w2 ⟨rfl,F',d1,d2,d3⟩;have H2:=zadv (H.out.did d1 d2 d3);have W2:=zadv (Went.of_did (b:=b) d2 d3);have f2:=H2.out.unfrozen 4;have e4:w2.cell? ⟨b,4,none⟩=some (.bool j.dead):=H2.out.cell 4;rw [hd] at e4;have HS:=zadv (H2.out.set (k:=4) (v:=.bool A.off) (j':={ j with dead:=A.off }) rfl);clear d1 d2 d3)
  go_ret
  exact ⟨rfl,F',HS.out,W2.out.trans Went.of_set⟩
theorem zwx {w:World} {F:Foot} {dv:Value} {A:Ab} {b:Nat} {j:Jr} (h:JD w F dv A b j) (h0:0 ≤ j.first∧j.first ≤ 256) (h1:0 ≤ j.at_∧j.at_ ≤ 512):Calls Tryz.prog 313 #[.pointer (some ⟨b,0,none⟩)] w (Ret (.int .i64 (j.first + 256 - j.at_)) w):=by
 have c1:w.cell? ⟨b,1,none⟩=some (.int .i64 j.first):=h.cell 1
 have c2:w.cell? ⟨b,2,none⟩=some (.int .i64 j.at_):=h.cell 2
 obtain ⟨a1,a2⟩:=h0
 obtain ⟨a3,a4⟩:=h1
 have e1:wrap64 (j.first + 256)=j.first + 256:=IntWalk.wrap64_in _ (by omega)
 have e2:wrap64 (j.first + 256 - j.at_)=j.first + 256 - j.at_:=IntWalk.wrap64_in _ (by omega)
 clear h
 have gc1:=zc6 c1
 have gc2:=zc6 c2
 go_enter Tryz.func313,Tryz.ntmps313
 go_wp2
 (refine zaz (by kernel_rfl) (by kernel_rfl) ?_;(repeat (go_big_quiet_step ((fail))));refine wpQuiet_nil ?_;rintro _ ⟨g,rfl⟩)
 go_wp2
 go_ret
 exact Ret.mk_of g.below rfl
inductive Stp where
 | wr (i:Int) (l:List Nat)
 | sy
def Stp.A (s:Stp) (A:Ab):Ab:=match s with
 | .wr i l=>A.wr i l
 | .sy=>A.syc
def Stp.e (s:Stp) (A:Ab):Int:=match s with
 | .wr i l=>A.wrE i l
 | .sy=>A.sycE
def StpAt (w:World) (F:Foot) (b:Nat) (dv:Value) (N:Nat) (v:Value):Stp→Prop
 | .wr i l=>∃ b1 b2 b3 ao n c,v=.func (.func 250) #[] #[.pointer (some ⟨b1,0,none⟩),.pointer (some ⟨b2,0,none⟩),.pointer (some ⟨b3,0,none⟩)]∧
   w.heap[b1]?=some (.cells #[.pointer (some ⟨b,0,none⟩)] 188)∧w.heap[b2]?=some (.cells #[.int .i64 i] 3)∧w.heap[b3]?=some (.cells #[.slice ao n c] 37)∧
   (∀ k,k=b1 ∨ k=b2 ∨ k=b3→k ≠ b∧∀ x,¬ F k x)∧0 ≤ i∧i < 512∧n ≤ 128∧Sl w ao n c (bts l)∧∀ k o,ao=some ⟨k,o,none⟩→k < N∧k < w.heap.size∧k ≠ b∧∀ x,¬ F k x
 | .sy=>v=.func (.func 181) #[dv] #[]
theorem zht {w:World} {k:Nat} {v:Value} {t:TypeId} (h:w.heap[k]?=some (.cells #[v] t)):w.cell? ⟨k,0,none⟩=some v:=by
 unfold World.cell?
 simp [h]
theorem StpAt.stay {w w':World} {F F':Foot} {b N:Nat} {dv v:Value} {s:Stp} (h:StpAt w F b dv N v s) (hsz:w.heap.size ≤ w'.heap.size) (hfb:∀ i x,F' i x→F i x ∨ w.heap.size ≤ i)
  (hw:∀ k,k < w.heap.size→k ≠ b→(∀ x,¬ F k x)→(k < N ∨ ∃ y t,w.heap[k]?=some (.cells #[y] t)∧(t=188 ∨ t=3 ∨ t=37))→w'.heap[k]?=w.heap[k]?):StpAt w' F' b dv N v s:=by
 cases s with
 | sy=>exact h
 | wr i l=>
  obtain ⟨b1,b2,b3,ao,n,c,h1,h2,h3,h4,h5,h6,h7,h8,h9,h10⟩:=h
  have hc:∀ (k:Nat) y t,w.heap[k]?=some (.cells #[y] t)→(t=188 ∨ t=3 ∨ t=37)→k ≠ b∧(∀ x,¬ F k x)→w'.heap[k]?=some (.cells #[y] t)∧∀ x,¬ F' k x:=fun k y t hx ht hk=>by
   have hlt:=(zadu hx).1
   exact ⟨(hw k hlt hk.1 hk.2 (.inr ⟨y,t,hx,ht⟩)).trans hx,fun x hx=>(hfb k x hx).elim (hk.2 x) fun h=>absurd hlt (by omega)⟩
  have q1:=hc b1 _ _ h2 (.inl rfl) (h5 b1 (.inl rfl))
  have q2:=hc b2 _ _ h3 (.inr (.inl rfl)) (h5 b2 (.inr (.inl rfl)))
  have q3:=hc b3 _ _ h4 (.inr (.inr rfl)) (h5 b3 (.inr (.inr rfl)))
  refine ⟨b1,b2,b3,ao,n,c,h1,q1.1,q2.1,q3.1,?_,h6,h7,h8,⟨h9.len,h9.le,h9.nil,?_⟩,?_⟩
  ·rintro k (rfl | rfl | rfl)
   ·exact ⟨(h5 _ (.inl rfl)).1,q1.2⟩
   ·exact ⟨(h5 _ (.inr (.inl rfl))).1,q2.2⟩
   ·exact ⟨(h5 _ (.inr (.inr rfl))).1,q3.2⟩
  ·rcases h9.cells with e | ⟨k,o,e,hcs⟩
   ·exact .inl e
   ·obtain ⟨t0,t1,t2,t3⟩:=h10 k o e
    refine .inr ⟨k,o,e,fun y x hy=>?_⟩
    rw [← hcs y x hy]
    unfold World.cell?
    rw [hw k t1 t2 t3 (.inl t0)]
  ·intro k o e
   obtain ⟨t0,t1,t2,t3⟩:=h10 k o e
   exact ⟨t0,Nat.lt_of_lt_of_le t1 hsz,t2,fun x hx=>(hfb k x hx).elim (t3 x) fun h=>absurd t1 (by omega)⟩
theorem StpAt.went {w w':World} {F F':Foot} {b N:Nat} {dv v:Value} {s:Stp} (h:StpAt w F b dv N v s) (hw:Went F b w F' w'):StpAt w' F' b dv N v s:=
 h.stay hw.size hw.fb fun k h1 h2 h3 _=>hw.block k h1 h2 h3
theorem StpAt.apart {w w':World} {F:Foot} {b N B n:Nat} {dv v u:Value} {s:Stp} {ys:List Value} (h:StpAt w F b dv N u s) (hgr:w.grownBy w' v.ownBlock) (hv:w.ownsRow B 83 1 v n ys) (hN:N ≤ B):StpAt w' F b dv N u s:=by
 have hs:w.heap.size ≤ w'.heap.size:=((Below.refl 0 w).grown hgr (Nat.zero_le _) (fun k _=>Nat.zero_le k)).size
 refine h.stay hs (fun _ _ h=>.inl h) fun k h1 _ _ h4=>?_
 refine hgr.block k h1 fun e=>?_
 have e:=e.symm
 have hb:=zbb hv k e
 rcases h4 with h4 | ⟨y,t,h4,h5⟩
 ·omega
 ·rcases hv.2 with ⟨h,_⟩ | ⟨g,c,cur,h,_,h6,_⟩
  ·subst h;cases e
  ·subst h
   have:g=k:=by simpa [Value.ownBlock] using e
   subst this
   rw [h4] at h6
   cases h6
   rcases h5 with h5 | h5 | h5 <;> cases h5
def stpsE:List Stp→Ab→Int
 | [],_=>0
 | s :: r,A=>if s.e A=0 then stpsE r (s.A A) else s.e A
def stpsA:List Stp→Ab→Ab
 | [],A=>A
 | s :: r,A=>if s.e A=0 then stpsA r (s.A A) else s.A A
structure StpsAt (w:World) (F:Foot) (b:Nat) (dv v:Value) (L:List Stp):Prop where
 row:∃ B vs,w.ownsRow B 83 1 v L.length vs∧∀ (i:Nat) s,L[i]?=some s→∃ u,vs[i]?=some u∧∃ N,StpAt w F b dv N u s
 clear:∀ k,v.ownBlock=some k→k ≠ b∧∀ x,¬ F k x
theorem StpsAt.went {w w':World} {F F':Foot} {b:Nat} {dv v:Value} {L:List Stp} (h:StpsAt w F b dv v L) (hw:Went F b w F' w'):StpsAt w' F' b dv v L:=by
 obtain ⟨B,vs,h1,h2⟩:=h.row
 refine ⟨⟨B,vs,zo4 h1 hw h.clear,fun i s hs=>?_⟩,fun k hk=>⟨(h.clear k hk).1,fun x hx=>?_⟩⟩
 ·obtain ⟨u,h3,N,h4⟩:=h2 i s hs
  exact ⟨u,h3,N,h4.went hw⟩
 ·have:=(h1.lt k hk).2
  exact (hw.fb k x hx).elim ((h.clear k hk).2 x) fun h=>absurd this (by omega)
theorem zwy:Elem Tryz.prog 271 83 1:=Elem.mk' Tryz.underlying271 (by kernel_rfl) (z:=.nilFunc) (bytes:=8) rfl (by decide) (by decide)
theorem zss {w:World} {F:Foot} {dv:Value} {A:Ab} {b:Nat} {j:Jr} (h:JD w F dv A b j) {b1 b2 b3:Nat} {i:Int} {ao:Option Addr} {n c:Nat} {l:List Nat}
  (h1:w.cell? ⟨b1,0,none⟩=some (.pointer (some ⟨b,0,none⟩))) (h2:w.cell? ⟨b2,0,none⟩=some (.int .i64 i)) (h3:w.cell? ⟨b3,0,none⟩=some (.slice ao n c)) (hi:0 ≤ i∧i < 512) (hn:n ≤ 128) (hs:Sl w ao n c (bts l))
  (hap:∀ k o,ao=some ⟨k,o,none⟩→∀ x,¬ F k x):Calls Tryz.prog 250 #[.pointer (some ⟨b1,0,none⟩),.pointer (some ⟨b2,0,none⟩),.pointer (some ⟨b3,0,none⟩)] w (JDid F w dv b (A.wr i l) j (.int .i64 (A.wrE i l))):=by
 have c0:w.cell? ⟨b,0,none⟩=some dv:=h.cell 0
 have g0:=zc6 c0
 have g1:=zc6 h1
 have g2:=zc6 h2
 have g3:=zc6 h3
 have H:=zadv h
 have HS:=zadv hs
 have HA:=zadv hap
 clear h hs hap
 go_enter Tryz.func250,Tryz.ntmps250
 go_wp2
 (refine zap 6 (by kernel_rfl) (by kernel_rfl) ?_;simp only [List.take_succ_cons,List.take_zero,List.drop_succ_cons,List.drop_zero];(repeat (go_big_quiet_step ((fail))));refine wpQuiet_nil ?_;rintro _ ⟨g,rfl⟩)
 go_wp2_with (go_at_call 251;refine (Sx.write_w (H.out.below g.below).dw hi (HS.out.ext g) hn (fun k o q e _=>HA.out k o e (o + q))).mono ?_;rintro _ w2 ⟨rfl,F',d1,d2,d3⟩;have H2:=zadv ((H.out.below g.below).did d1 d2 d3);have W2:=zadv ((Went.of_below (F:=F) (b:=b) g.below).trans (Went.of_did (b:=b) d2 d3));clear d1 d2 d3)
 go_ret
 exact ⟨rfl,F',H2.out,W2.out⟩
theorem zq0 {w:World} {F:Foot} {dv:Value} {A:Ab} {b:Nat} {j:Jr} (h:JD w F dv A b j):Calls Tryz.prog 181 #[dv] w (JDid F w dv b A.syc j (.int .i64 A.sycE)):=by
 refine (Sx.sync_w h.dw).mono ?_
 rintro _ w2 ⟨rfl,F',d1,d2,d3⟩
 exact ⟨rfl,F',h.did d1 d2 d3,Went.of_did d2 d3⟩
set_option maxHeartbeats 2000000 in
theorem zg3 {w:World} {F:Foot} {dv:Value} {A:Ab} {b:Nat} {j:Jr} (h:JD w F dv A b j) {v:Value} {L:List Stp} (hL:StpsAt w F b dv v L) (hn:L.length ≤ 100000):
  Calls Tryz.prog 178 #[.pointer (some ⟨b,0,none⟩),v] w (JDid F w dv b (stpsA L A) { j with dead:=j.dead || decide (stpsE L A ≠ 0) } (.int .i64 (stpsE L A))):=by
 obtain ⟨B,vs,hown,hst⟩:=hL.row
 obtain ⟨ao,cap,rfl⟩:=za8 hown
 have H:=zadv h
 have HL:=zadv hL
 clear h hL
 go_enter Tryz.func178,Tryz.ntmps178
 go_wp2
 go_loopw [6,7,10] (fun _ _ v10 wr=>∃ (i:Nat) (F1:Foot) (A1:Ab),i ≤ L.length∧v10=.int .i64 i∧JD wr F1 dv A1 b j∧Went F b w F1 wr∧stpsA L A=stpsA (L.drop i) A1∧stpsE L A=stpsE (L.drop i) A1) (fun _ _ v10 _=>L.length - (intOf v10).toNat)
 case atStart=>exact ⟨0,F,A,Nat.zero_le _,rfl,H.out,Went.refl F b w,rfl,rfl⟩
 case round=>
  obtain ⟨i,F1,A1,hi,rfl,h1,hw,ea,ee⟩:=hrel
  have HS:=HL.out.went hw
  obtain ⟨B1,vs1,hown1,hst1⟩:=HS.row
  have HC:=zadv HS.clear
  by_cases hlt:i < L.length
  ·obtain ⟨s,hs⟩:∃ s,L[i]?=some s:=⟨_,zady hlt⟩
   obtain ⟨u,hu,N,hsu⟩:=hst1 i s hs
   obtain ⟨b0,o0,rfl,_,hc⟩:=(Sl.own hown1).at (by omega)
   have hx:=hc i u hu
   have hdr:L.drop i=s :: L.drop (i + 1):=by
    rw [List.drop_eq_getElem_cons hlt]
    congr 1
    exact Option.some.inj ((zady hlt).symm.trans hs)
   rw [hdr] at ea ee
   have EA:=zadv ea
   have EE:=zadv ee
   have H1:=zadv h1
   have HW:=zadv hw
   have hlt2:(i:Int) < L.length:=by omega
   clear hdr ea ee h1 hw HS hst1 hst hc hown1 hown
   cases s with
   | sy=>
    have hsu2:u=.func (.func 181) #[dv] #[]:=hsu
    subst hsu2
    clear hsu
    go_wp2_with (fail)
    refine (zq0 H1.out).mono ?_
    rintro _ w2 ⟨rfl,F2,h2,W2⟩
    have H2:=zadv h2
    have WW:=zadv (HW.out.trans W2)
    have c4:w2.cell? ⟨b,4,none⟩=some (.bool j.dead):=h2.cell 4
    have f4:=h2.unfrozen 4
    have HD:=zadv (h2.set (k:=4) (v:=.bool true) (j':={ j with dead:=true }) rfl)
    clear h2 W2
    by_cases he:A1.sycE=0
    ·have EA2:=zadv (EA.out.trans (if_pos he))
     have EE2:=zadv (EE.out.trans (if_pos he))
     rw [he]
     clear he
     go_wp2
     go_roundw
     case rel=>exact ⟨i + 1,F2,_,by omega,rfl,H2.out,WW.out,EA2.out,EE2.out⟩
     case measure=>simp [intOf];omega
    ·have EA2:=zadv (EA.out.trans (if_neg he))
     have EE2:=zadv (EE.out.trans (if_neg he))
     have HN:=zadv he
     have hb:(A1.sycE == 0)=false:=by rw [beq_eq_false_iff_ne];exact he
     clear he EA EE
     have e1:Stp.e .sy A1=A1.sycE:=rfl
     generalize A1.sycE=er at *
     go_wp2
     go_ret
     refine ⟨by rw [EE2.out,e1];rfl,F2,?_,WW.out.trans Went.of_set⟩
     rw [EA2.out,EE2.out,e1,decide_eq_true HN.out,Bool.or_true]
     exact HD.out
   | wr k l=>
    obtain ⟨b1,b2,b3,ao,n,c,rfl,q1,q2,q3,q4,q5,q6,q7,q8,q9⟩:=hsu
    have Q:=zadv (zss (l:=l) H1.out (zht q1) (zht q2) (zht q3) ⟨q5,q6⟩ q7 q8 (fun k o e=>(q9 k o e).2.2.2))
    clear q1 q2 q3 q4 q5 q6 q7 q8 q9
    go_wp2_with (fail)
    refine Q.out.mono ?_
    rintro _ w2 ⟨rfl,F2,h2,W2⟩
    have H2:=zadv h2
    have WW:=zadv (HW.out.trans W2)
    have c4:w2.cell? ⟨b,4,none⟩=some (.bool j.dead):=h2.cell 4
    have f4:=h2.unfrozen 4
    have HD:=zadv (h2.set (k:=4) (v:=.bool true) (j':={ j with dead:=true }) rfl)
    clear h2 W2
    by_cases he:A1.wrE k l=0
    ·have EA2:=zadv (EA.out.trans (if_pos he))
     have EE2:=zadv (EE.out.trans (if_pos he))
     rw [he]
     clear he
     go_wp2
     go_roundw
     case rel=>exact ⟨i + 1,F2,_,by omega,rfl,H2.out,WW.out,EA2.out,EE2.out⟩
     case measure=>simp [intOf];omega
    ·have EA2:=zadv (EA.out.trans (if_neg he))
     have EE2:=zadv (EE.out.trans (if_neg he))
     have HN:=zadv he
     have hb:(A1.wrE k l == 0)=false:=by rw [beq_eq_false_iff_ne];exact he
     clear he EA EE
     have e1:Stp.e (.wr k l) A1=A1.wrE k l:=rfl
     generalize A1.wrE k l=er at *
     go_wp2
     go_ret
     refine ⟨by rw [EE2.out,e1];rfl,F2,?_,WW.out.trans Went.of_set⟩
     rw [EA2.out,EE2.out,e1,decide_eq_true HN.out,Bool.or_true]
     exact HD.out
  ·obtain rfl:i=L.length:=by omega
   rw [List.drop_length] at ea ee
   have EA:=zadv ea
   have EE:=zadv ee
   have H1:=zadv h1
   have HW:=zadv hw
   clear ea ee h1 hw HS hst1 hst hown1 hown
   go_wp2
   go_ret
   refine ⟨by rw [EE.out];rfl,F1,?_,HW.out⟩
   rw [EA.out,EE.out]
   have e0:decide (stpsE [] A1 ≠ 0)=false:=rfl
   rw [e0,Bool.or_false]
   exact H1.out
theorem zwz (w:World) (b:Nat) (i:Int) (ao:Option Addr) (n c:Nat):Calls Tryz.prog 179 #[.pointer (some ⟨b,0,none⟩),.int .i64 i,.slice ao n c] w fun e w'=>
  e=.returned (.func (.func 250) #[] #[.pointer (some ⟨w.heap.size,0,none⟩),.pointer (some ⟨w.heap.size + 1,0,none⟩),.pointer (some ⟨w.heap.size + 1 + 1,0,none⟩)])∧
  w'=((w.alloc (.cells #[.pointer (some ⟨b,0,none⟩)] 188)).alloc (.cells #[.int .i64 i] 3)).alloc (.cells #[.slice ao n c] 37):=by
 go_enter Tryz.func179,Tryz.ntmps179
 go_wp2
 go_ret
 exact ⟨rfl,rfl⟩
theorem zj1 (w:World) (v:Value) (t:TypeId) {k:Nat} (hk:w.heap.size=k):(w.alloc (.cells #[v] t)).heap[k]?=some (.cells #[v] t):=by
 subst hk
 exact heap_alloc_new w _
theorem znb {w:World} {k:Nat} {o1:Obj} (h:w.heap[k]?=some o1) (o:Obj):(w.alloc o).heap[k]?=some o1:=by
 rw [Below.heap_alloc w o k (zadu h).1]
 exact h
theorem zhu {w:World} {F:Foot} {dv:Value} {A:Ab} {b:Nat} {j:Jr} (h:JD w F dv A b j) {i:Int} (hi:0 ≤ i∧i < 512) {ao:Option Addr} {n c:Nat} {l:List Nat} (hn:n ≤ 128) (hs:Sl w ao n c (bts l)) {N:Nat} (hap:∀ k o,ao=some ⟨k,o,none⟩→k < N∧k < w.heap.size∧k ≠ b∧∀ x,¬ F k x):
  Calls Tryz.prog 179 #[.pointer (some ⟨b,0,none⟩),.int .i64 i,.slice ao n c] w fun e w'=>∃ u,e=.returned u∧u.oneCell'=true∧Below w.heap.size w w'∧StpAt w' F b dv N u (.wr i l):=by
 refine (zwz w b i ao n c).mono ?_
 rintro _ _ ⟨rfl,rfl⟩
 have hb:Below w.heap.size w (((w.alloc (.cells #[.pointer (some ⟨b,0,none⟩)] 188)).alloc (.cells #[.int .i64 i] 3)).alloc (.cells #[.slice ao n c] 37)):=
  (((Below.refl _ w).alloc (zadw _) _).alloc (by simp) _).alloc (by simp only [World.size_alloc];omega) _
 have hlt:=h.lt
 have hf:∀ k,w.heap.size ≤ k→∀ x,¬ F k x:=fun k hk x hx=>absurd (h.dw.lt hx) (by omega)
 refine ⟨_,rfl,rfl,hb,w.heap.size,w.heap.size + 1,w.heap.size + 1 + 1,ao,n,c,rfl,?_,?_,?_,?_,hi.1,hi.2,hn,hs.keep (zadw _) hb,fun k o e=>?_⟩
 ·exact znb (znb (zj1 w _ _ rfl) _) _
 ·exact znb (zj1 _ _ _ (World.size_alloc _ _)) _
 ·exact zj1 _ _ _ (by rw [World.size_alloc,World.size_alloc])
 ·rintro k (rfl | rfl | rfl)
  ·exact ⟨by omega,hf _ (zadw _)⟩
  ·exact ⟨by omega,hf _ (by omega)⟩
  ·exact ⟨by omega,hf _ (by omega)⟩
 ·obtain ⟨a0,a1,a2,a3⟩:=hap k o e
  exact ⟨a0,Nat.lt_of_lt_of_le a1 hb.size,a2,a3⟩
end
end Go.Proofs.YthjgiamfaijoeaaGreatDoor
