/- What is proved: parts of the walk and of the plain law. No condition but those each law names. -/
import Derived.Test.YthjgiamfaijoeaaGreatDoorA04
import Derived.Test.YthjgiamfaijoeaaGreatDoorA00
set_option linter.unusedSimpArgs false
set_option linter.unusedVariables false
namespace Go.Proofs.YthjgiamfaijoeaaGreatDoor
open Go.RowKit
namespace Sx
set_option maxRecDepth 100000
theorem run_mk (w:World) (t:TypeId):(Instr.makeMap t none).run Tryz.prog w=.ok (.map (some w.heap.size)) (w.alloc (.map #[] 0)):=by
 simp only [Instr.makeMap,newObj,Sem.run_bind,Sem.run,Sem.run_pure,Result.andThen_ok]
 rfl
attribute [local go_sem high] run_mk
theorem zm0 {w:World} {b:Nat} {cs:Array Value} {t:TypeId} (h1:w.shape? b=some (t,cs.size)) (h2:∀ j,w.cell? ⟨b,j,none⟩=cs[j]?) (h3:zbs w b=some (0,0)):w.heap[b]?=some (.cells cs t):=by
 unfold World.shape? at h1
 unfold zbs at h3
 cases hq:w.heap[b]? with
 | none=>simp [hq] at h1
 | some o=>
  simp only [World.cell?,hq] at h2
  rw [hq] at h1 h3
  cases o with
  | cells c e f=>
   simp only [Option.some.injEq,Prod.mk.injEq] at h1 h3
   obtain ⟨rfl,h1⟩:=h1
   subst h3
   have:c=cs:=by
    apply Array.ext_getElem?
    intro j
    have:=h2 j
    simpa using this
   rw [this]
  | _=>simp at h1
theorem sync_w {w : World} {F : Foot} {dv : Value} {A : Ab} (H : DW w F dv A) : Calls Tryz.prog 181 #[dv] w (Did F w dv A.syc (.int .i64 A.sycE)) := by
 obtain ⟨bd, r1, r2, bl, h, rfl, hF⟩ := H
 have c2 : w.cell? ⟨bd, 2, none⟩ = some (.bool A.off) := (disk_cell h 2).1
 cases hoff : A.off with
 | true =>
   have e1 : A.syc = A := by unfold Ab.syc; rw [hoff]; rfl
   have e2 : A.sycE = 9 := by unfold Ab.sycE; rw [hoff]; rfl
   rw [e1, e2]
   rw [hoff] at c2
   refine (zv4 c2).mono ?_
   rintro en w' ⟨rfl, rfl⟩
   exact ⟨rfl, F, ⟨bd, r1, r2, bl, h, rfl, hF⟩, Turns.refl F _, fun _ _ h => .inl h⟩
 | false =>
   have e1 : A.syc = if A.str then A.strA else A.strA.sy := by unfold Ab.syc; rw [hoff]; rfl
   have e2 : A.sycE = if A.str then 9 else 0 := by unfold Ab.sycE; rw [hoff]; rfl
   rw [e1, e2]
   rw [hoff] at c2
   have ST := zop h hoff
   have bF : ∀ x, F bd x := fun x => (hF bd x).2 (.inl rfl)
   cases hs : A.str with
   | true =>
     rw [hs] at ST
     refine (zmz c2 (R := fun w' => DiskAt w' A.strA bd r1 r2 bl ∧ w'.os = w.os ∧ w'.tape = w.tape ∧ w'.output = w.output ∧ w'.heap.size = w.heap.size ∧ ∀ i, i ≠ bd → w'.heap[i]? = w.heap[i]?) ST).mono ?_
     rintro en w' ⟨rfl, d, o1, o2, o3, o4, o5⟩
     exact ⟨rfl, F, ⟨bd, r1, r2, bl, d, rfl, hF⟩, ⟨o1, o2, o3, Nat.le_of_eq o4.symm, fun k _ hk => o5 k fun e => hk 0 (e ▸ bF 0)⟩, fun _ _ h => .inl h⟩
   | false =>
     rw [hs] at ST
     have hfin : A.strA.last = A.last ∧ A.strA.loose = A.loose := by unfold Ab.strA; split <;> exact ⟨rfl, rfl⟩
     obtain ⟨n1, n2, n3⟩ := h.nmap
     obtain ⟨es1, cl1, l1, a1, a2, a3, a4, a5⟩ := h.m1
     obtain ⟨es2, cl2, lo, b1, b2, b3, b4⟩ := h.m2
     have hlen : ∀ p ∈ lo, p.2.length = 128 := fun p hp => by
       have hn : (lo.map (·.1)).Nodup := by
         have := b2.2
         unfold encA at this
         rw [List.map_map] at this
         have e : lo.map ((fun q : Value × Value => q.1) ∘ fun p => (Value.int .i64 p.1, loC p.2)) = (lo.map (·.1)).map (Value.int .i64) := by rw [List.map_map]; rfl
         rw [e] at this
         exact List.Pairwise.of_map (S := fun x y : Value => x ≠ y) (Value.int .i64) (fun a b hab e => hab (by rw [e])) this
       have h1 := zhn hn hp
       rw [b4 p.1] at h1
       cases hl : A.loose p.1 with
       | none => rw [hl] at h1; cases h1
       | some q =>
         rw [hl] at h1
         rw [← Option.some.inj h1, zfg]
         exact (h.lo _ _ hl).1
     refine (zv5 (od := 0) (r1 := r1) (r2 := r2) (n := A.strA.done) (l1 := l1) (lo := lo) c2 (R := fun w' => DiskAt w' A.strA bd r1 r2 bl ∧ w'.os = w.os ∧ w'.tape = w.tape ∧ w'.output = w.output ∧ w'.heap.size = w.heap.size ∧ ∀ i, i ≠ bd → w'.heap[i]? = w.heap[i]?) ST ?_).mono ?_
     · rintro w' ⟨d, _, _, _, _, o5⟩
       exact ⟨(disk_cell d 0).1, (disk_cell d 1).1, (disk_cell d 4).1, (disk_cell d 4).2, ⟨es1, cl1, (o5 r1 (Ne.symm n1)).trans a1, a2, a3⟩, a4, ⟨es2, cl2, (o5 r2 (Ne.symm n2)).trans b1, b2, b3⟩, hlen, h.ne⟩
     · rintro en w2 ⟨rfl, w', nb, ⟨d, o1, o2, o3, o4, o5⟩, S⟩
       obtain ⟨es', c', l', m1, m2, m3, m4, m5⟩ := S.m1
       obtain ⟨c'', m6⟩ := S.m2
       have hnb : ∀ k, (∃ b, nb k = some b) ↔ ∃ l, A.loose k = some l := fun k => by
         constructor
         · rintro ⟨b, hb⟩
           obtain ⟨_, _, bs, hbs, _⟩ := S.at_ k b hb
           rw [b4 k] at hbs
           cases hl : A.loose k with
           | none => rw [hl] at hbs; cases hbs
           | some l => exact ⟨l, rfl⟩
         · rintro ⟨l, hl⟩
           have := S.all k (by rw [b4 k, hl]; rfl)
           cases hb : nb k with
           | none => rw [hb] at this; cases this
           | some b => exact ⟨b, rfl⟩
       have hbs : ∀ k b, nb k = some b → w'.heap.size ≤ b ∧ ∃ l, A.loose k = some l ∧ SecAt w2 b (ints l) := fun k b hb => by
         obtain ⟨s1, _, bs, hbs, s2⟩ := S.at_ k b hb
         rw [b4 k] at hbs
         cases hl : A.loose k with
         | none => rw [hl] at hbs; cases hbs
         | some l => rw [hl] at hbs; exact ⟨s1, l, rfl, by rw [Option.some.inj hbs]; exact s2⟩
       have hsyS : ∀ k l, A.loose k = some l → A.strA.sy.last k = some l := fun k l hl => by
         show A.strA.syLast k = _
         unfold Ab.syLast
         rw [hfin.2, hl]
       have hsyN : ∀ k, nb k = none → A.strA.sy.last k = A.strA.last k := fun k hk => by
         show A.strA.syLast k = _
         unfold Ab.syLast
         rw [hfin.2]
         cases hl : A.loose k with
         | none => rfl
         | some l =>
           obtain ⟨b, hb⟩ := (hnb k).2 ⟨l, hl⟩
           rw [hk] at hb
           cases hb
       have hbd : bd < w'.heap.size := (zac7 d.ob).1
       have hob : w2.heap[bd]? = some (.cells (A.strA.sy.cells r1 r2) 135) := by
         refine zm0 ?_ (fun j => ?_) ?_
         · rw [S.fr.shape bd hbd]
           unfold World.shape?
           rw [d.ob]
           rfl
         · by_cases hj : j = 4
           · subst hj
             exact S.c4
           · rw [S.fr.cell bd j hbd (by rintro (e | e | ⟨_, e⟩); · exact n1 e
                                        · exact n2 e
                                        · exact hj (by omega)), (disk_cell d j).1]
             match j, hj with
             | 0, _ => rfl
             | 1, _ => rfl
             | 2, _ => rfl
             | 3, _ => rfl
             | n + 5, _ => rfl
         · rw [S.fr.frl bd hbd (fun o ho hS => by
             rcases hS with e | e | ⟨_, e⟩
             · exact n1 e
             · exact n2 e
             · rw [e, (disk_cell d (0 + 4)).1] at ho; cases ho)]
           unfold zbs
           rw [d.ob]
       have hkeep : ∀ k, k < w'.heap.size → k ≠ bd → k ≠ r1 → k ≠ r2 → w2.heap[k]? = w'.heap[k]? := fun k hk g1 g2 g3 => S.fr.block k hk fun o ho => by
         rcases ho with e | e | ⟨e, _⟩
         · exact g2 e
         · exact g3 e
         · exact g1 e
       refine ⟨rfl, FootD bd r1 r2 (fun k => match nb k with | some b => some (some b) | none => bl k), ⟨bd, r1, r2, _, ?_, rfl, fun _ _ => Iff.rfl⟩, ⟨S.fr.os.trans o1, S.fr.tape.trans o2, S.fr.output.trans o3, by rw [← o4]; exact S.fr.size, fun k hk hFk => ?_⟩, fun b x hb => ?_⟩
       · refine ⟨hob, ⟨es', c', l', m1, m2, m3, m4, fun k => ?_⟩, ⟨#[], c'', [], m6, ⟨List.Perm.refl _, List.nodup_nil⟩, MapKept.stamped_empty _, fun k => rfl⟩, fun k b hb => ?_, fun k hb => ?_, fun k hb => ?_, (fun k l hl => by cases hl), h.ne, fun k k' b hb hb' => ?_, d.rng⟩
         · rw [m5 k]
           cases nb k with
           | some b => rfl
           | none => exact a5 k
         · cases hn : nb k with
           | some b0 =>
             simp only [hn] at hb
             cases hb
             obtain ⟨s1, l, s2, s3⟩ := hbs k b hn
             exact ⟨by omega, l, hsyS k l s2, (h.lo k l s2).1, s3⟩
           | none =>
             simp only [hn] at hb
             obtain ⟨q1, l, q2, q3, q4⟩ := d.sec k b hb
             exact ⟨q1, l, (hsyN k hn).trans q2, q3, secat_heap q4 (hkeep b (secat_lt q4 q3) q1 (n3 k b hb).1 (n3 k b hb).2)⟩
         · cases hn : nb k with
           | some b0 => simp only [hn] at hb; cases hb
           | none => simp only [hn] at hb; exact (hsyN k hn).trans (d.torn k hb)
         · cases hn : nb k with
           | some b0 => simp only [hn] at hb; cases hb
           | none => simp only [hn] at hb; exact (hsyN k hn).trans (d.bare k hb)
         · cases hn : nb k with
           | some b0 =>
             cases hn' : nb k' with
             | some b1 =>
               simp only [hn, hn'] at hb hb'
               cases hb
               cases hb'
               exact S.inj k k' b hn hn'
             | none =>
               simp only [hn, hn'] at hb hb'
               cases hb
               obtain ⟨q1, l, q2, q3, q4⟩ := d.sec k' b hb'
               have h1 := (hbs k b hn).1
               have h2 := secat_lt q4 q3
               omega
           | none =>
             cases hn' : nb k' with
             | some b1 =>
               simp only [hn, hn'] at hb hb'
               cases hb'
               obtain ⟨q1, l, q2, q3, q4⟩ := d.sec k b hb
               have h1 := (hbs k' b hn').1
               have h2 := secat_lt q4 q3
               omega
             | none =>
               simp only [hn, hn'] at hb hb'
               exact h.inj k k' b hb hb'
       · have g1 : k ≠ bd := fun e => hFk 0 ((hF k 0).2 (.inl e))
         have g2 : k ≠ r1 := fun e => hFk 0 ((hF k 0).2 (.inr (.inl e)))
         have g3 : k ≠ r2 := fun e => hFk 0 ((hF k 0).2 (.inr (.inr (.inl e))))
         exact (hkeep k (by rw [o4]; exact hk) g1 g2 g3).trans (o5 k g1)
       · rcases hb with e | e | e | ⟨k, hk⟩
         · exact .inl ((hF b x).2 (.inl e))
         · exact .inl ((hF b x).2 (.inr (.inl e)))
         · exact .inl ((hF b x).2 (.inr (.inr (.inl e))))
         · cases hn : nb k with
           | some b' =>
             simp only [hn] at hk
             cases hk
             have := (hbs k b hn).1
             exact .inr (by omega)
           | none =>
             simp only [hn] at hk
             exact .inl ((hF b x).2 (.inr (.inr (.inr ⟨k, hk⟩))))
end Sx
end Go.Proofs.YthjgiamfaijoeaaGreatDoor
namespace Go.Proofs.YthjgiamfaijoeaaGreatDoor
open Go.RowKit
namespace Sx
set_option maxRecDepth 100000
section
variable {P:Program}
theorem run_lookup_ok {t kt et:TypeId} {ok:Value→Prop} (hu:P.underlying t=some (.map kt et)) (hk:KeyT P kt ok) {w:World} {r:Nat} {es:Array MapEntry} {clock:Nat} (h2:w.heap[r]?=some (.map es clock)) {k u:Value} {l:List (Value × Value)} (hM:MapIs (prs es) l) (hok:ok k) (hes:∀ e ∈ es.toList,ok e.key) (hf:getL l k=some u):
  (Instr.lookup t (.map (some r)) k true).run P w=.ok (.tuple #[u,.bool true]) w:=by
 have hget:=MapKept.run_getObj_map (P:=P) h2
 have hfi:=hk.find k es.toList w hok hes
 have hM':MapIs (es.toList.map fun e=>(e.key,e.val)) (l.map fun p=>(p.1,id p.2)):=by rw [show l.map (fun p=>(p.1,id p.2))=l from List.map_id _];exact hM
 have hfind:=mapIs_find hM' k
 rw [hf] at hfind
 cases hq:findIx k es.toList 0 with
 | none=>rw [hq] at hfind;cases hfind
 | some p=>
  obtain ⟨j,u'⟩:=p
  rw [hq] at hfind hfi
  have:u'=u:=by simpa using hfind
  subst this
  simp only [Instr.lookup,Sem.run_bind,run_underlying hu,Result.andThen_ok,hget,Sem.run_pure,hk.chk es.isEmpty k w hok,hfi]
  rfl
theorem run_lookup_no {t kt et:TypeId} {ok:Value→Prop} (hu:P.underlying t=some (.map kt et)) (hk:KeyT P kt ok) {i:TypeInfo} {z:Value} (hi:P.info? et=some i) (hz:i.zero=some z) {w:World} {r:Nat} {es:Array MapEntry} {clock:Nat} (h2:w.heap[r]?=some (.map es clock)) {k:Value} {l:List (Value × Value)} (hM:MapIs (prs es) l) (hok:ok k) (hes:∀ e ∈ es.toList,ok e.key) (hf:getL l k=none):
  (Instr.lookup t (.map (some r)) k true).run P w=.ok (.tuple #[z,.bool false]) w:=by
 have hget:=MapKept.run_getObj_map (P:=P) h2
 have hfi:=hk.find k es.toList w hok hes
 have hM':MapIs (es.toList.map fun e=>(e.key,e.val)) (l.map fun p=>(p.1,id p.2)):=by rw [show l.map (fun p=>(p.1,id p.2))=l from List.map_id _];exact hM
 have hfind:=mapIs_find hM' k
 rw [hf] at hfind
 have hzr:∀ w,(zeroValue et).run P w=.ok z w:=fun w=>by simp [zeroValue,typeInfo,hi,hz]
 cases hq:findIx k es.toList 0 with
 | some p=>rw [hq] at hfind;cases hfind
 | none=>
  rw [hq] at hfi
  simp only [Instr.lookup,Sem.run_bind,run_underlying hu,Result.andThen_ok,hget,Sem.run_pure,hk.chk es.isEmpty k w hok,hfi,hzr]
  rfl
end
theorem zqh {w:World} {ao:Option Addr} {n c:Nat} {l:List Nat} (hl:Go.Proofs.YthjgiamfaijoeaaGreatDoor.Sl w ao n c (bts l)) (hn:n < 1099511627776):Calls Tryz.prog 317 #[.slice ao n c] w (RetO 5 w.heap.size n (bts l) w):=by
 have hln:l.length=n:=by rw [← hl.len,zam]
 have hnil:=fun (w:World) (a:Option Addr) (n c:Nat)=>Go.Lib.run_eql_slice_nil (P:=Tryz.prog) w 37 5 a n c 0 0 Tryz.underlying37
 cases ao with
 | none=>
  obtain rfl:c=0:=hl.nil rfl
  obtain rfl:n=0:=by have:=hl.le;omega
  obtain rfl:l=[]:=List.eq_nil_of_length_eq_zero hln
  go_enter Tryz.func317,Tryz.ntmps317
  go_wp2
  go_ret
  exact ⟨none,0,rfl,Below.refl _ _,World.ownsRow_nil _ _ _ _⟩
 | some ad=>
  have hal:Go.Proofs.YthjgiamfaijoeaaGreatDoor.Sl (w.alloc (.cells #[] 5)) (some ad) n c (bts l):=hl.keep (zac9 _) ((Below.refl _ w).alloc (zac9 _) _)
  go_enter Tryz.func317,Tryz.ntmps317
  go_wp2_with (at_builtin;refine ziy zgp rfl _ _ rfl (B:=w.heap.size) rfl (World.ownsRow_made w #[] 0 (zac9 _) (by decide) rfl) rfl (by rw [Nat.mul_one];exact hal.len) (fun h=>by cases h) hal.cells (zct l) (by omega) (by simp) ?_)
  intro ao' cap w' hown hb
  go_wp2
  go_ret
  exact ⟨ao',cap,rfl,((Below.refl _ w).alloc (zac9 _) _).trans hb,hown⟩
def zz1 (F:Foot) (w:World) (dv:Value) (A:Ab) (i:Int):Ending→World→Prop:=fun en w'=>∃ F',DW w' F' dv A∧Turns F w w'∧(∀ b x,F' b x→F b x ∨ w.heap.size ≤ b)∧match A.see i with
 | some l=>∃ b o c,en=.returned (.tuple #[.slice (some ⟨b,o,none⟩) 128 c,.int .i64 0])∧l.length=128∧Go.Proofs.YthjgiamfaijoeaaGreatDoor.Sl w' (some ⟨b,o,none⟩) 128 c (bts l)∧∀ j,j < 128→¬ F' b (o + j)∧w'.frozen? ⟨b,o + j,none⟩=false∧(F b (o + j) ∨ w.heap.size ≤ b)
 | none=>en=.returned (.tuple #[.slice none 0 0,.int .i64 24])
theorem zv7 (w:World):(Instr.makeSlice 37 (.int .i64 128) (.int .i64 128)).run Tryz.prog w=.ok (.slice (some ⟨w.heap.size,0,none⟩) 128 128) (w.alloc (.cells (bts z128).toArray 5)):=by
 obtain ⟨i,hi,h1,h2,h3⟩:=info_parts (show (Tryz.prog.info? 5).map (fun i=>(i.zero,i.size,i.bytes))=some (some (.int .u8 0),1,1) by kernel_rfl)
 have:=run_make (P:=Tryz.prog) w 37 5 i (.int .u8 0) Tryz.underlying37 hi h1 .i64 .i64 128 128 (by decide) (Int.le_refl _) (by rw [h3];decide) (by decide)
 rw [h2] at this
 have hz:madeCells (Value.int .u8 0).cells ((128:Int).toNat * 1)=(bts z128).toArray:=by kernel_rfl
 rw [hz] at this
 exact this
attribute [local go_sem high] zv7
theorem zm1 (w:World) (o:Obj):Below w.heap.size w (w.alloc o):=(Below.refl _ w).alloc (zac9 _) o
theorem zdv {F:Foot} {w w':World} (h:Below w.heap.size w w'):Turns F w w':=⟨h.os,h.tape,h.output,h.size,fun k hk _=>h.block k hk⟩
set_option maxHeartbeats 2000000 in
theorem read_w {w:World} {F:Foot} {dv:Value} {A:Ab} (H:DW w F dv A) {i:Int} (hi:0 ≤ i∧i < 512):Calls Tryz.prog 246 #[dv,.int .i64 i] w (zz1 F w dv A i):=by
 obtain ⟨bd,r1,r2,bl,h,rfl,hF⟩:=H
 have TH:=zac8 (zr9 w hi)
 have HH:=zac8 h
 clear h
 go_enter Tryz.func246,Tryz.ntmps246
 go_wp2_with fail
 refine TH.out.mono ?_
 rintro _ _ ⟨rfl,g,rfl⟩
 have D1:=zac8 (HH.out.keepB (w':=g.val) fun b x hb=>g.below.block b (HH.out.size hb))
 have B1:=zac8 g.below
 generalize g.val=w1 at *
 clear TH HH
 have c1:w1.cell? ⟨bd,1,none⟩=some (.map (some r2)):=(disk_cell D1.out 1).1
 have c0:w1.cell? ⟨bd,0,none⟩=some (.map (some r1)):=(disk_cell D1.out 0).1
 obtain ⟨es2,cl2,lo,b1,b2,b3,b4⟩:=D1.out.m2
 have hg2:=zcb loC lo i
 rw [b4 i] at hg2
 have hk2:=zbk b2 (zcc loC lo)
 cases hlo:A.loose i with
 | some l=>
  rw [hlo] at hg2
  have hloc:loC (ints l)=.agg (bts l).toArray:=by unfold loC;rw [zoo]
  have hl:=(D1.out.lo i l hlo).1
  have hlk:=run_lookup_ok (P:=Tryz.prog) (t:=133) Tryz.underlying133 (keyInt Tryz.underlying3) b1 b2 ⟨i,rfl⟩ hk2 (hg2.trans (congrArg some hloc))
  have hst:(storeCells ⟨w1.heap.size,0,none⟩ (bts l)).run Tryz.prog (w1.alloc (.cells Tryz.zeroCells185 185))=.ok () (w1.alloc (.cells (bts l).toArray 185)):=by
   refine run_storeCells_new w1 185 Tryz.zeroCells185 (bts l).toArray ?_ ?_ ?_
   ·rw [List.size_toArray,zam,hl];kernel_rfl
   ·exact (show Tryz.zeroCells185.size=128 by kernel_rfl).trans (by rw [List.size_toArray,zam,hl])
   ·simp only [List.all_toArray,List.all_eq_true]
    exact fun c hc=>zct l c hc
  have HL:=zac8 hlo
  have hbl:(bts l).length=128:=by rw [zam,hl]
  clear b1 b2 b3 b4 hg2 hk2 hloc hlo c0
  go_wp2
  refine bodyPost_ret (results_tmp2 rfl _ _ _) rfl ?_
  have b2:=zm1 w1 (.cells (bts l).toArray 185)
  refine ⟨F,⟨bd,r1,r2,bl,D1.out.keepB fun b x hb=>b2.block b (D1.out.size hb),rfl,hF⟩,zdv (B1.out.trans (b2.mono B1.out.size)),fun _ _ h=>.inl h,?_⟩
  unfold Ab.see
  rw [HL.out]
  refine ⟨w1.heap.size,0,128,rfl,hl,?_,fun j hj=>⟨fun hFj=>?_,?_,.inr B1.out.size⟩⟩
  ·have:=zcp w1 (bts l).toArray 185 128 w1.heap.size (0,0) rfl (by rw [List.size_toArray,zam,hl])
   exact this
  ·have:=D1.out.size ((hF _ _).1 hFj)
   omega
  ·exact (World.frozen?_alloc_new ..)
 | none=>
  rw [hlo] at hg2
  obtain ⟨iz,hi1,hi2,_,_⟩:=info_parts (show (Tryz.prog.info? 185).map (fun i=>(i.zero,i.size,i.bytes))=some (some (.agg (bts (List.replicate 128 0)).toArray),128,128) by kernel_rfl)
  have hlk:=run_lookup_no (P:=Tryz.prog) (t:=133) Tryz.underlying133 (keyInt Tryz.underlying3) hi1 hi2 b1 b2 ⟨i,rfl⟩ hk2 hg2
  have hl:(List.replicate 128 0).length=128:=List.length_replicate
  have hst:(storeCells ⟨w1.heap.size,0,none⟩ (bts (List.replicate 128 0))).run Tryz.prog (w1.alloc (.cells Tryz.zeroCells185 185))=.ok () (w1.alloc (.cells (bts (List.replicate 128 0)).toArray 185)):=by
   refine run_storeCells_new w1 185 Tryz.zeroCells185 (bts (List.replicate 128 0)).toArray ?_ ?_ ?_
   ·rw [List.size_toArray,zam,hl];kernel_rfl
   ·exact (show Tryz.zeroCells185.size=128 by kernel_rfl).trans (by rw [List.size_toArray,zam,hl])
   ·simp only [List.all_toArray,List.all_eq_true]
    exact fun c hc=>zct _ c hc
  obtain ⟨zz,hzz⟩:∃ zz:List Nat,zz=List.replicate 128 0:=⟨_,rfl⟩
  rw [← hzz] at hlk hl hst
  have HZ:=zac8 hzz
  have HL:=zac8 hlo
  have bb:=zm1 w1 (.cells (bts zz).toArray 185)
  have D2:=zac8 (D1.out.keepB (w':=w1.alloc (.cells (bts zz).toArray 185)) fun b x hb=>bb.block b (D1.out.size hb))
  have B2:=zac8 (B1.out.trans (bb.mono B1.out.size))
  obtain ⟨es1,cl1,l1,a1,a2,a3,a4,a5⟩:=D2.out.m1
  have hk1:=zbk a2 a4
  have h0:(w1.alloc (.cells (bts zz).toArray 185)).cell? ⟨bd,0,none⟩=some (.map (some r1)):=(disk_cell D2.out 0).1
  have hbz:(bts zz).length=128:=by rw [zam,hl]
  clear b1 b2 b3 b4 hg2 hk2 hlo c0 hzz hi1 hi2 bb
  have hsee:A.see i=A.last i:=by unfold Ab.see;rw [HL.out]
  have HSee:=zac8 hsee
  clear hsee
  cases hbl:bl i with
  | none=>
   obtain ⟨iz,hi1,hi2,_,_⟩:=info_parts (show (Tryz.prog.info? 187).map (fun i=>(i.zero,i.size,i.bytes))=some (some (.pointer none),1,8) by kernel_rfl)
   have hlk2:=run_lookup_no (P:=Tryz.prog) (t:=132) Tryz.underlying132 (keyInt Tryz.underlying3) hi1 hi2 a1 a2 ⟨i,rfl⟩ hk1 ((a5 i).trans (by rw [hbl];rfl))
   have hla:=zac8 (D2.out.bare i hbl)
   clear a1 a2 a3 a4 a5 hk1 hi1 hi2 hbl
   go_wp2
   refine bodyPost_ret (results_tmp2 rfl _ _ _) rfl ?_
   have b3:=zm1 (w1.alloc (.cells (bts zz).toArray 185)) (.cells (bts z128).toArray 5)
   have hs:(w1.alloc (.cells (bts zz).toArray 185)).heap.size=w1.heap.size + 1:=by simp
   refine ⟨F,⟨bd,r1,r2,bl,D2.out.keepB fun b x hb=>b3.block b (D2.out.size hb),rfl,hF⟩,zdv (B2.out.trans (b3.mono B2.out.size)),fun _ _ h=>.inl h,?_⟩
   rw [HSee.out,hla.out]
   refine ⟨w1.heap.size + 1,0,128,rfl,List.length_replicate,?_,fun j hj=>⟨fun hFj=>?_,?_,.inr (by have:=B1.out.size;omega)⟩⟩
   ·exact zcp (w1.alloc (.cells (bts zz).toArray 185)) (bts z128).toArray 5 128 (w1.heap.size + 1) (0,0) hs (by kernel_rfl)
   ·have:=D2.out.size ((hF _ _).1 hFj)
    omega
   ·rw [← hs];exact (World.frozen?_alloc_new ..)
  | some q=>
   have hlk2:=run_lookup_ok (P:=Tryz.prog) (t:=132) Tryz.underlying132 (keyInt Tryz.underlying3) a1 a2 ⟨i,rfl⟩ hk1 (u:=ptV q) ((a5 i).trans (by rw [hbl];rfl))
   clear a1 a2 a3 a4 a5 hk1
   cases q with
   | none=>
    have hla:=zac8 (D2.out.torn i hbl)
    clear hbl
    unfold ptV at hlk2
    go_wp2
    refine bodyPost_ret (results_tmp2 rfl _ _ _) rfl ?_
    refine ⟨F,⟨bd,r1,r2,bl,D2.out,rfl,hF⟩,zdv B2.out,fun _ _ h=>.inl h,?_⟩
    rw [HSee.out,hla.out]
    rfl
   | some b=>
    obtain ⟨q1,l,q2,q3,q4⟩:=D2.out.sec i b hbl
    have hla:=zac8 q2
    have hll:=zac8 q3
    have hSl:Go.Proofs.YthjgiamfaijoeaaGreatDoor.Sl (w1.alloc (.cells (bts zz).toArray 185)) (some ⟨b,0,none⟩) 128 128 (bts l):=by
     refine ⟨by rw [zam,q3],zac9 _,(fun e=>by cases e),.inr ⟨b,0,rfl,fun j x hj=>?_⟩⟩
     rw [Nat.zero_add]
     rw [zd6] at hj
     cases hx:l[j]? with
     | none=>rw [hx] at hj;cases hj
     | some n=>
      rw [hx] at hj
      cases hj
      exact (q4 j n (by unfold ints;rw [List.getElem?_map,hx];rfl)).1
    have CL:=zac8 (zqh hSl (by decide))
    clear hbl q1 q2 q3 q4 hSl
    unfold ptV at hlk2
    go_wp2_with fail
    refine CL.out.mono ?_
    rintro _ w3 ⟨ao,c,rfl,hb3,own3⟩
    obtain ⟨g,cur,rfl,hg1,hg2⟩:∃ g cur,ao=some ⟨g,0,none⟩∧(w1.alloc (.cells (bts zz).toArray 185)).heap.size ≤ g∧w3.heap[g]?=some (.cells cur 5):=by
     rcases own3.2 with ⟨hv,_⟩ | ⟨g,c',cur,hv,hb,hg,_⟩
     ·cases hv
     ·exact ⟨g,cur,(Value.slice.inj hv).1,hb,hg⟩
    have HS3:=zac8 (Sl.own own3)
    have HB3:=zac8 hb3
    have HG2:=zac8 hg2
    clear own3 hb3 hg2 CL
    go_wp2
    refine bodyPost_ret (results_tmp2 rfl _ _ _) rfl ?_
    refine ⟨F,⟨bd,r1,r2,bl,D2.out.keepB fun b x hb=>HB3.out.block b (D2.out.size hb),rfl,hF⟩,zdv (B2.out.trans (HB3.out.mono B2.out.size)),fun _ _ h=>.inl h,?_⟩
    rw [HSee.out,hla.out]
    refine ⟨g,0,c,rfl,hll.out,HS3.out,fun j hj=>⟨fun hFj=>?_,?_,.inr (by have:=B2.out.size;omega)⟩⟩
    ·have:=D2.out.size ((hF _ _).1 hFj)
     omega
    ·unfold World.frozen?
     rw [HG2.out]
     simp
end Sx
end Go.Proofs.YthjgiamfaijoeaaGreatDoor
