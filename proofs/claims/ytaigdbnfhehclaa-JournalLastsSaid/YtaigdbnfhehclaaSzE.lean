/- What is proved: contracts of the operations on objects, where the types are asked by one computation each; no program in sight; a function's contract on the store of objects, out of what it does in a world; no program in sight; what a function does, out of a symbolic run whose end is said by a property; no program in sight; a law that answers true and leaves what it read as it was, out of a symbolic run; no program in sight. No condition but those each law names. -/
import Derived.Test.YtaigdbnfhehclaaSyZ
namespace Go.Proofs.Ytaigdbnfhehclaa
namespace Sx
open Go.RowKit

section
variable {P : Program}
/-- A type's cells, bytes, and nought. -/
def tyOf (P : Program) (t : TypeId) : Option (Nat × Nat × Value) := (P.info? t).bind fun i => i.zero.map fun z => (i.size, i.bytes, z)
theorem tyOf_spec {t : TypeId} {s b : Nat} {z : Value} (h : tyOf P t = some (s, b, z)) : ∃ i, P.info? t = some i ∧ i.size = s ∧ i.bytes = b ∧ i.zero = some z := by
  unfold tyOf at h
  cases hi : P.info? t with
  | none => simp [hi] at h
  | some i =>
    simp only [hi, Option.bind_some] at h
    cases hz : i.zero with
    | none => simp [hz] at h
    | some z' =>
      simp only [hz, Option.map_some, Option.some.injEq, Prod.mk.injEq] at h
      exact ⟨i, rfl, h.1, h.2.1, by rw [hz, h.2.2]⟩
theorem app_ok {t el : TypeId} {s b : Nat} {z : Value} (hu : P.underlying t = some (.slice el)) (h : tyOf P el = some (s, b, z)) (hc : (decide (0 < s) && z.cells.size == s && z.cells.toList.all Value.oneCell') = true) : (appC t).holds P (conR (appR s b)) := by
  obtain ⟨i, h1, h2, h3, h4⟩ := tyOf_spec h
  simp only [Bool.and_eq_true, decide_eq_true_eq, beq_iff_eq, List.all_eq_true] at hc
  subst h3
  exact app_holds hu h1 h2 hc.1.1 h4 hc.1.2 hc.2
theorem bs_ok {t el : TypeId} {n s b : Nat} {z : Value} (hu : P.underlying t = some (.slice el)) (h : tyOf P el = some (s, b, z)) (hc : (decide (n < 10000) && decide (n * s ≤ 16777216)) = true) : (bsC t n).holds P (conR (bsR s n)) := by
  obtain ⟨i, h1, h2, h3, h4⟩ := tyOf_spec h
  simp only [Bool.and_eq_true, decide_eq_true_eq] at hc
  exact bs_holds hu h1 h2 h4 hc.1 hc.2
theorem ms_ok {t el : TypeId} {b : Nat} {z : Value} (hu : P.underlying t = some (.slice el)) (h : tyOf P el = some (1, b, z)) (hc : (z.oneCell' && plainV z) = true) : (msC t).holds P (conR (msR z b)) := by
  obtain ⟨i, h1, h2, h3, h4⟩ := tyOf_spec h
  simp only [Bool.and_eq_true] at hc
  subst h3
  exact ms_holds hu h1 h2 h4 hc.1 hc.2
theorem alloc_ok {t : TypeId} {s b : Nat} {v : Value} {z : List Value} (h : tyOf P t = some (s, b, v)) (hv : v.cells.toList = z) (hc : (z.all (fun c => c.oneCell' && plainV c) && decide (0 < z.length)) = true) : (allocC t).holds P (conR (allocR z)) := by
  obtain ⟨i, h1, h2, h3, h4⟩ := tyOf_spec h
  simp only [Bool.and_eq_true, decide_eq_true_eq] at hc
  exact alloc_holds h1 h4 hv hc.1 hc.2
theorem lu_ok {t kt et : TypeId} {s b : Nat} {z : Value} {ok : Value → Prop} {r : E} (hu : P.underlying t = some (.map kt et)) (hk : KeyT P kt ok) (h : tyOf P et = some (s, b, z)) (hzc : ∀ h, concE h z = z) (hr : (r.noPtr && r.lt stride) = true) :
    (luC t r).holds P (conR (luR ok z r)) := by
  obtain ⟨i, h1, h2, h3, h4⟩ := tyOf_spec h
  exact lu_holds hu hk h1 h4 hzc hr
theorem ints_ok {t e : TypeId} {n s b : Nat} {z : Value} {k : IntKind} (hu : P.underlying t = some (.array n e)) (h : tyOf P e = some (s, b, z)) (he : P.underlying e = some (.int k)) (hc : P.cellsOf e = 1) (hg : P.eqGuardType P.depth t = false) :
    (eqC t).holds P (conR (CmpR (IntsEq n k) false)) ∧ (neC t).holds P (conR (CmpR (IntsEq n k) true)) := by
  obtain ⟨i, h1, _⟩ := tyOf_spec h
  exact ints_holds hu h1 he hc hg
theorem keyInts_ok {kt e : TypeId} {n s b : Nat} {z : Value} {k : IntKind} (hu : P.underlying kt = some (.array n e)) (h : tyOf P e = some (s, b, z)) (he : P.underlying e = some (.int k)) (hc : P.cellsOf e = 1) : KeyT P kt (IntsKey n k) := by
  obtain ⟨i, h1, _⟩ := tyOf_spec h
  exact keyInts hu h1 he hc
/-- A step through a contract on the store. -/
theorem sem_step {S : List ConS} {LQ : LoopS} {K : Env → Ex → St → Prop} {ρ : Env} {ci base : Nat} {vs : List E} {t : Tree} {R : List Ob → List Value → Env → Prop} (G : List Ob) (l : List Value) (e : Env)
    (h1 : S[ci]? = some (conR R)) (h2 : E.nams ρ lay0 vs = l ++ [encG G]) (h3 : R G l e) (h4 : treeSem S LQ K (ρ.from_ base e) t) : treeSem S LQ K ρ (.call ci base vs t) :=
  sem_call _ e h1 (by rw [h2]; exact ⟨G, l, rfl, h3⟩) h4
end
end Sx
end Go.Proofs.Ytaigdbnfhehclaa

namespace Go.Proofs.Ytaigdbnfhehclaa
namespace Sx
open Go.RowKit

/-- A function's contract out of what it does in a world. -/
theorem turn_calls {P : Program} {fn : FuncId} {res : E} {R : List Ob → List Value → Env → Prop} (hr : (res.noPtr && res.lt stride && decide (fn < primBase)) = true)
    (hrun : ∀ (w : World) (h : Nat → OneV) (F : Foot) (G : List Ob) (f : Nat → Foot) (l : List Value) (e : Env), (∀ v ∈ l, Inv h G.length v) → Objs w h F G f → R G l e →
      Calls P fn (l.map (concE h)).toArray w fun en w' => ∃ h' F' f' G' v, en = .returned (concE h' v) ∧ res.nam e lay0 = v ∧ Inv h' G'.length v ∧ e.g gv = encG G' ∧
        Fr F w w' ∧ Objs w' h' F' G' f' ∧ (∀ i x, F' i x → F i x ∨ w.heap.size ≤ i) ∧ G.length ≤ G'.length ∧ ∀ n, n < G.length → h' n = h n) :
    (mkCon fn [] res 2).holds P (conR R) := by
  simp only [Bool.and_eq_true, decide_eq_true_eq] at hr
  obtain ⟨⟨hr1, hr2⟩, hfp⟩ := hr
  refine ⟨⟨fun _ => ?_, fun hp => absurd hp (Nat.not_le.2 hfp)⟩, fun h => absurd rfl h, fun h => absurd rfl h⟩
  rintro w args vs qs e0 h F g hpts _ hgh ⟨G, l, hvs, hR⟩
  have hvs' : vs ++ [g] = l ++ [encG G] := hvs
  obtain ⟨rfl, rfl⟩ := store_last l hvs'
  obtain ⟨hk, _⟩ := hgh (by show 2 ≠ 0; decide)
  obtain ⟨f, H⟩ := objs_of hk
  have hp0 : args = vs.map (concE h) := (hpts h (.inl rfl)).1
  have hinv : ∀ v ∈ vs, Inv h G.length v := inv_args (raw := args) fun h' hh => (hpts h' (.inr ⟨by show 2 ≠ 0; decide, fun n hn => hh n (by rwa [cnt_enc] at hn)⟩)).1
  rw [hp0]
  refine (hrun w h F G f vs e0 hinv H hR).mono ?_
  rintro en w' ⟨h', F', f', G', v, rfl, h2, h3, h4, h5, h6, h7, h8, h9⟩
  refine ⟨h', F', ?_, fun ρ base hat => ⟨fun ι hA => ?_, fun p q g hz => by cases hz⟩⟩
  · rw [h4]
    exact ⟨h5.mono fun _ _ _ hx => .inr hx, ⟨G', f', rfl, h6⟩, h7, by rw [cnt_enc, cnt_enc]; exact h8, fun n hn => h9 n (by rwa [cnt_enc] at hn)⟩
  · have e1 := E.shift_val hat (ι := ι) (ι' := ι) rfl res hr2 (E.ptr_adr hr1)
    show Ending.returned _ = Ending.returned ((res.shift base).val ρ ι)
    rw [e1, E.val_conc e0 ι lay0 hr1, h2]
    rw [h3 ι.h fun n hn => hA n (by rw [h4]; show n < Kinds.cnt (encG G'); rwa [cnt_enc])]
end Sx
end Go.Proofs.Ytaigdbnfhehclaa

namespace Go.Proofs.Ytaigdbnfhehclaa
namespace Sx
open Go.RowKit

section
variable {P : Program} {cs : List Con} {S : List ConS}
/-- WHAT A RUN DOES. -/
theorem end_of_run [Kinds] (hC : Cons P cs S) (hm : P.follows .mixedOrders = true) {LT : List (Nat × LS)} {depth fuel nv : Nat} {f : FuncId} {ptrs : List (Nat × Nat × Option (List E))} {res : E} {gh : Nat} {av : List E} {T : Tree} {Q : Env → Prop}
    (hchk : (chkCon ptrs res gh && Sole ptrs && okG gh ptrs av && decide (f < primBase)) = true) (hT : runF P cs LT depth fuel f gh nv (barePtrs ptrs) av = T)
    {w : World} {args vs : List Value} {qs : List (Nat × Nat)} {h : Nat → OneV} {F : Foot} {g : Value} (hpts0 : ∀ h' : Nat → OneV, (h' = h ∨ ((mkCon f ptrs res gh).gh ≠ 0 ∧ ∀ n, n < Kinds.cnt g → h' n = h n)) → Points w h' args (mkCon f ptrs res gh).ptrs vs qs) (hap : ApartQ (mkCon f ptrs res gh).ptrs qs)
    (hgh : (mkCon f ptrs res gh).gh ≠ 0 → Kinds.holds w h F g ∧ FootQ F (mkCon f ptrs res gh).ptrs qs)
    (hdec : ∃ LQ ρ, vs = E.nams ρ lay0 av ∧ ρ.g (nv - 1) = (if gh = 0 then Kinds.none else g) ∧ treeSem S LQ (fun ρ x m => ∃ e0, Q e0 ∧ KF ptrs res e0 gh ρ x m) ρ T) :
    Calls P f args.toArray w fun e w' => ∃ e0, Q e0 ∧ ∃ h' F', GPost ((mkCon f ptrs res gh).gh == 2) (OutS (mkCon f ptrs res gh).ptrs qs) w w' h h' F F' g (e0.g gv) ∧
      ∀ (ρ : Env) (base : Nat), ρ.At base e0 → (∀ ι : Lay, AgH (mkCon f ptrs res gh).gh g (e0.g gv) h' ι → e = .returned (((mkCon f ptrs res gh).res base).val ρ ι)) ∧ Outs w' (AgH (mkCon f ptrs res gh).gh g (e0.g gv) h') ρ base (mkCon f ptrs res gh).ptrs qs := by
  simp only [Bool.and_eq_true, decide_eq_true_eq] at hchk
  obtain ⟨⟨⟨hchk, hsole⟩, hokg⟩, hfp⟩ := hchk
  have hpts := hpts0 h (.inl rfl)
  unfold chkCon at hchk
  simp only [Bool.and_eq_true] at hchk
  obtain ⟨⟨⟨hgk, hlt⟩, hnop⟩, houts⟩ := hchk
  obtain ⟨LQ, ρ, hvs, hρg, ht⟩ := hdec
  subst hT
  unfold runF at ht
  split at ht
  · exact ht.elim
  · rename_i fn hf
    split at ht
    · rename_i c bs hb hbs
      split at ht
      · rename_i hc
        obtain ⟨c1, c2, c3, c4, c5, c6, c7⟩ := hc
        -- the places
        have hbare : ∀ h' vs qs, Points w h' args (mkCon f ptrs res gh).ptrs vs qs → Points w h' args (barePtrs ptrs) vs qs := by
          intro h'
          have key : ∀ (l : List (Nat × Nat × Option (List E))) (vs : List Value) (qs : List (Nat × Nat)), Points w h' args (l.map (fun p => (p.1, p.2.1, p.2.2.map (fun l b => E.shifts b l)))) vs qs → Points w h' args (barePtrs l) vs qs := by
            intro l
            induction l with
            | nil => exact fun _ _ h => h
            | cons p l ih =>
              intro vs qs h
              cases qs with
              | nil => exact h.elim
              | cons q qs =>
                obtain ⟨sl, cs, vs', h1, h2⟩ := h
                exact ⟨sl, cs, vs', ih vs' qs h1, h2⟩
          exact fun vs qs => key ptrs vs qs
        have hpts' := hbare h vs qs hpts
        have hplen : (barePtrs ptrs).length = ptrs.length := by simp [barePtrs]
        have hq0 : ∀ j q, qs[j]? = some q → qs.getD j (0, 0) = q := fun j q hj => by simp [hj]
        obtain ⟨h1, h2, h3⟩ := points_args (ρ := ρ) (barePtrs ptrs) qs vs av bs ⟨fun k => qs.getD k (0, 0), h⟩ hpts' hvs c6 hbs c5 hq0
        rw [hplen] at h2
        obtain ⟨b1, b2⟩ := mkBlks_length hbs
        rw [hplen] at b1
        have hpt : ∀ (j : Nat) p, ptrs[j]? = some p → (barePtrs ptrs)[j]? = some (p.1, p.2.1, none) := fun j p hj => by simp [barePtrs, hj]
        have hbl : ∀ (j : Nat) l, bs[j]? = some l → ∃ p q, ptrs[j]? = some p ∧ qs[j]? = some q ∧ l.length = p.2.1 := fun j l hj => by
          have hj' : j < ptrs.length := by rw [← b1]; exact (List.getElem?_eq_some_iff.1 hj).1
          have hp := List.getElem?_eq_getElem hj'
          have hq : qs[j]? = some (qs[j]'(by omega)) := List.getElem?_eq_getElem (by omega)
          exact ⟨_, _, hp, hq, (b2 j l _ hj (hpt j _ hp)).1⟩
        have hget : ∀ b, (initHeap 0 bs .nil).get b = bs[b]? := fun b => by
          rw [get_initHeap _ _ _ _ (by omega)]
          split
          · simp
          · rw [Tr.get_nil, List.getElem?_eq_none (by omega)]
        have hblk_no : ∀ l ∈ bs, E.fixs nv (initHeap 0 bs .nil) l = true := fun l hl => by
          obtain ⟨j, hj⟩ := List.getElem?_of_mem hl
          obtain ⟨p, q, hp, _, _⟩ := hbl j l hj
          have hbj := (b2 j l _ hj (hpt j p hp)).2
          have hltl : ∀ (l : List E) (i : Nat) (e : E), E.lts nv l = true → l[i]? = some e → e.lt nv = true := by
            intro l
            induction l with
            | nil => intro i e _ h; simp at h
            | cons x l ih =>
              intro i e h1 he
              simp only [E.lts, Bool.and_eq_true] at h1
              cases i with
              | zero => simp at he; subst he; exact h1.1
              | succ i => exact ih i e h1.2 (by simpa using he)
          exact fixs_of_adr l (hltl av _ _ c4 hbj) (E.cells_adr (noPtrs_get c5 hbj))
        -- the store
        obtain ⟨F0, hF0, hFq, hF2⟩ : ∃ F0 : Foot, Kinds.holds w h F0 (ρ.g (nv - 1)) ∧ FootQ F0 (mkCon f ptrs res gh).ptrs qs ∧ (gh = 0 ∧ F0 = (fun _ _ => False) ∨ gh ≠ 0 ∧ F0 = F ∧ ρ.g (nv - 1) = g) := by
          by_cases e : gh = 0
          · rw [if_pos e] at hρg
            rw [hρg]
            exact ⟨_, Kinds.none_holds w h, fun _ _ _ _ _ h => h, .inl ⟨e, rfl⟩⟩
          · rw [if_neg e] at hρg
            obtain ⟨q1, q2⟩ := hgh e
            rw [hρg]
            exact ⟨F, q1, q2, .inr ⟨e, rfl, rfl⟩⟩
        have hzip : ∀ (j : Nat) p q, ptrs[j]? = some p → qs[j]? = some q → ((p.1, p.2.1, p.2.2.map (fun (l : List E) (b : Nat) => E.shifts b l)), q) ∈ (mkCon f ptrs res gh).ptrs.zip qs := fun j p q hp hq => by
          have : ((mkCon f ptrs res gh).ptrs.zip qs)[j]? = some ((p.1, p.2.1, p.2.2.map (fun l b => E.shifts b l)), q) := by
            rw [List.getElem?_zip_eq_some]
            exact ⟨by simp [mkCon, hp], hq⟩
          exact List.mem_of_getElem? this
        have hinv : ∀ h', (∀ n, n < Kinds.cnt (ρ.g (nv - 1)) → h' n = h n) → E.vals ρ ⟨fun k => qs.getD k (0, 0), h'⟩ (mkArgs 0 (barePtrs ptrs) av) = E.vals ρ ⟨fun k => qs.getD k (0, 0), h⟩ (mkArgs 0 (barePtrs ptrs) av) ∧
            ∀ l ∈ bs, E.vals ρ ⟨fun k => qs.getD k (0, 0), h'⟩ l = E.vals ρ ⟨fun k => qs.getD k (0, 0), h⟩ l := by
          intro h' hh
          rcases hF2 with ⟨e, _⟩ | ⟨e, _, hg'⟩
          · unfold okG at hokg
            rw [Bool.or_eq_true, Bool.and_eq_true] at hokg
            rcases hokg with hk | ⟨k1, k2⟩
            · simp [e] at hk
            · refine ⟨?_, fun l hl => ?_⟩
              · have key : ∀ l : List E, (l.all fun e => e.noH || e.pl.isSome) = true → E.vals ρ ⟨fun k => qs.getD k (0, 0), h'⟩ l = E.vals ρ ⟨fun k => qs.getD k (0, 0), h⟩ l := by
                  intro l
                  induction l with
                  | nil => exact fun _ => rfl
                  | cons x l ih =>
                    intro hl
                    simp only [List.all_cons, Bool.and_eq_true, Bool.or_eq_true] at hl
                    simp only [E.vals, ih hl.2]
                    congr 1
                    rcases hl.1 with hx | hx
                    · exact E.val_noH _ _ _ _ hx
                    · cases x <;> simp only [E.pl, Option.isSome_none, Bool.false_eq_true] at hx <;> rfl
                exact key _ k1
              · obtain ⟨j, hj⟩ := List.getElem?_of_mem hl
                obtain ⟨p, q, hp, _, _⟩ := hbl j l hj
                have := List.all_eq_true.1 k2 _ (List.mem_of_getElem? (b2 j l _ hj (hpt j p hp)).2)
                exact E.vals_noH _ _ _ _ this
          · have hp2 := hbare h' vs qs (hpts0 h' (.inr ⟨e, fun n hn => hh n (by rw [hg']; exact hn)⟩))
            obtain ⟨h1', h2', h3'⟩ := points_args (ρ := ρ) (barePtrs ptrs) qs vs av bs ⟨fun k => qs.getD k (0, 0), h'⟩ hp2 hvs c6 hbs c5 hq0
            refine ⟨h1'.symm.trans h1, fun l hl => ?_⟩
            obtain ⟨j, hj⟩ := List.getElem?_of_mem hl
            obtain ⟨p, q, hp, hq, _⟩ := hbl j l hj
            apply List.ext_getElem?
            intro i
            rw [E.vals_get, E.vals_get]
            cases hx : l[i]? with
            | none => rfl
            | some c =>
              have q1 := (h3 j l q hj hq i c hx).1
              rw [(h3' j l q hj hq i c hx).1] at q1
              simpa using q1
        have hsim := init_sim (ρ := ρ) (ι := ⟨fun k => qs.getD k (0, 0), h⟩) (F := F0) (w := w) (ntmps := fn.ntmps) (nv := nv) (args := mkArgs 0 (barePtrs ptrs) av) (blks := bs) c7 c1 c2 c3
          (mkArgs_fix _ _ _ (fixs_of_lts c4 c5) (fun j _ hj => by rw [hget, List.getElem?_eq_getElem (by omega)]; rfl)) hblk_no
          (fun k l hk j cc hj => by
            obtain ⟨p, q, hp, hq, _⟩ := hbl k l hk
            have := h3 k l q hk hq j cc hj
            simpa [hq] using this)
          (fun k k' l l' hk hk' hne he j j' hj hj' => by
            obtain ⟨p, q, hp, hq, hl⟩ := hbl k l hk
            obtain ⟨p', q', hp', hq', hl'⟩ := hbl k' l' hk'
            simp only [List.getD_eq_getElem?_getD, hq, hq', Option.getD_some] at he ⊢
            have hlen : k < ptrs.length ∧ k' < ptrs.length := ⟨(List.getElem?_eq_some_iff.1 hp).1, (List.getElem?_eq_some_iff.1 hp').1⟩
            unfold Sole at hsole
            rw [Bool.or_eq_true, decide_eq_true_eq] at hsole
            rcases hsole with hsole | hsole
            · omega
            · have g1 := List.all_eq_true.1 hsole p (List.mem_of_getElem? hp)
              have m1 : (mkCon f ptrs res gh).ptrs[k]? = some (p.1, p.2.1, p.2.2.map (fun l b => E.shifts b l)) := by simp [mkCon, hp]
              have m2 : (mkCon f ptrs res gh).ptrs[k']? = some (p'.1, p'.2.1, p'.2.2.map (fun l b => E.shifts b l)) := by simp [mkCon, hp']
              have g1' : (p.2.2.map (fun (l : List E) (b : Nat) => E.shifts b l)).isSome := by simpa using g1
              have g2' : (p'.2.2.map (fun (l : List E) (b : Nat) => E.shifts b l)).isSome := by simpa using List.all_eq_true.1 hsole p' (List.mem_of_getElem? hp')
              rcases Nat.lt_or_gt_of_ne hne with hlt | hlt
              · exact apartQ_get hap k k' _ _ q q' m1 hq m2 hq' hlt (.inl g1') he j j' (by simp only; omega) (by simp only; omega)
              · exact Ne.symm (apartQ_get hap k' k _ _ q' q m2 hq' m1 hq hlt (.inl g2') he.symm j' j (by simp only; omega) (by simp only; omega)))
          hF0 (fun k l hk j hj => by
            obtain ⟨p, q, hp, hq, hl⟩ := hbl k l hk
            have := hFq _ _ (hzip k p q hp hq) j (by simp only; omega)
            simpa [hq] using this) hinv
        have hargs : args.toArray = (E.vals ρ ⟨fun k => qs.getD k (0, 0), h⟩ (mkArgs 0 (barePtrs ptrs) av)).toArray := by rw [← h1]
        show Calls P f args.toArray w _
        refine calls_of_wp hf hb ?_
        rw [hargs]
        have hsz : (E.vals ρ ⟨fun k => qs.getD k (0, 0), h⟩ (mkArgs 0 (barePtrs ptrs) av)).toArray.size = (mkArgs 0 (barePtrs ptrs) av).length := by simp [E.vals_length]
        rw [hsz]
        refine run_ok hC hm (inlD_ok hC hm depth) c _ _ ?_ _ ρ _ w (treeSem_bind _ _ ht) hsim
        intro ρ' x σ a' w' hk hs'
        -- how it ends
        have hend : (x = .normal ∨ x = .ret) ∧ ∃ e, resE P fn σ = some e ∧ σ.np = bs.length ∧ ∃ e0, Q e0 ∧ KF ptrs res e0 gh ρ' .ret (mini gh bs.length σ e) := by
          unfold finT at hk
          split at hk
          · split at hk
            · rename_i e he
              split at hk
              · rename_i hnp; exact ⟨.inl rfl, e, he, hnp, hk⟩
              · exact hk.elim
            · exact hk.elim
          · split at hk
            · rename_i e he
              split at hk
              · rename_i hnp; exact ⟨.inr rfl, e, he, hnp, hk⟩
              · exact hk.elim
            · exact hk.elim
          · exact hk.elim
        obtain ⟨hx, e, he, hnp, e0, hQ, hkf⟩ := hend
        obtain ⟨k1, k2, k3, k4⟩ : e.noPtr = true ∧ e.nam ρ' lay0 = res.nam e0 lay0 ∧ KOuts e0 ρ' (outsT σ bs.length) 0 ptrs ∧ (gh = 0 ∨ ρ'.g (if gh = 0 then 0 else σ.gh) = e0.g gv) := hkf
        obtain ⟨ι', F', hats⟩ := hs'
        have hat := hats ρ' (Env.ag_refl _ _) ι' (σ.agL_refl ρ' ι')
        have hres := resE_run hat.held he
        have hout := outsT_get σ bs.length c3
        -- at whatever layout that knows the objects
        have hagh : ∀ ι2 : Lay, AgH gh g (e0.g gv) (if gh = 0 then h else ι'.h) ι2 → ∃ ι3 : Lay, SimAt ρ' ι3 F' ⟨w, ⟨fun k => qs.getD k (0, 0), h⟩, fun b => b < bs.length, Kinds.cnt (ρ.g (nv - 1)), F0⟩ σ a' w' ∧ (gh = 0 ∨ ι3.h = ι2.h) := by
          intro ι2 hA
          by_cases e0' : gh = 0
          · exact ⟨ι', hat, .inl e0'⟩
          · refine ⟨⟨ι'.p, ι2.h⟩, hats ρ' (Env.ag_refl _ _) _ ⟨fun _ _ => rfl, fun n hn => ?_⟩, .inr rfl⟩
            have h2g : gh = 2 := by
              rw [Bool.or_eq_true, Bool.and_eq_true] at hgk
              rcases hgk with hk | hk
              · simpa using hk
              · exact absurd (by simpa using hk.1) e0'
            rcases k4 with k4 | k4
            · exact absurd k4 e0'
            · rw [if_neg e0'] at k4
              have := hA n (by rw [if_neg e0', if_pos h2g, ← k4]; exact hn)
              rw [if_neg e0'] at this
              exact this
        have hval : ∀ (e1 e2 : E) (ι3 ι2 : Lay), e1.noPtr = true → e2.noPtr = true → (gh = 0 → e2.noH = true) → (gh = 0 ∨ ι3.h = ι2.h) → e1.nam ρ' lay0 = e2.nam e0 lay0 → e1.val ρ' ι3 = e2.val e0 ι2 := fun e1 e2 ι3 ι2 n1 n2 n3 hh hv => by
          rw [E.val_conc ρ' ι3 (fun _ => (0, 0)) n1]
          have hv' : e1.nam ρ' (fun _ => (0, 0)) = e2.nam e0 (fun _ => (0, 0)) := hv
          rw [hv']
          rcases hh with hh | hh
          · have := E.val_conc e0 ι3 (fun _ => (0, 0)) n2
            rw [← this]
            exact E.val_noH _ _ _ _ (n3 hh)
          · rw [hh, ← E.val_conc e0 ι2 (fun _ => (0, 0)) n2]
        have hpost : a'.defers = [] ∧ ∃ v, (results fn a'.tmps).run P w' = .ok v w' ∧ ∃ e0, Q e0 ∧ ∃ h' F2, GPost ((mkCon f ptrs res gh).gh == 2) (OutS (mkCon f ptrs res gh).ptrs qs) w w' h h' F F2 g (e0.g gv) ∧
            ∀ (ρ2 : Env) (base : Nat), ρ2.At base e0 → (∀ ι : Lay, AgH (mkCon f ptrs res gh).gh g (e0.g gv) h' ι → Ending.returned v = .returned (((mkCon f ptrs res gh).res base).val ρ2 ι)) ∧ Outs w' (AgH (mkCon f ptrs res gh).gh g (e0.g gv) h') ρ2 base (mkCon f ptrs res gh).ptrs qs := by
          have hpar : ∀ (ι3 : Lay), SimAt ρ' ι3 F' ⟨w, ⟨fun k => qs.getD k (0, 0), h⟩, fun b => b < bs.length, Kinds.cnt (ρ.g (nv - 1)), F0⟩ σ a' w' → ∀ b, b < bs.length → ι3 b = qs.getD b (0, 0) := fun ι3 h3 b h2 => (h3.par b h2).2
          have hfr : ∀ i x, i < w.heap.size → (σ.wrote ι' i x ∨ F0 i x) → OutS (mkCon f ptrs res gh).ptrs qs i x ∨ F0 i x := by
            intro i x _ hx
            rcases hx with hx | hx
            rotate_left
            · exact .inr hx
            refine .inl ?_
            obtain ⟨b, l, w1, w2, w3, w4, w5, w6⟩ := hx
            rw [hnp] at w2
            have hb2 : b < ptrs.length := by omega
            have hk := KOuts_get k3 b _ (List.getElem?_eq_getElem hb2)
            rw [Nat.zero_add, hout, if_pos ⟨w2, w1⟩, w3] at hk
            have hι := hpar ι' hat b w2
            have hqb : qs[b]? = some (qs[b]'(by omega)) := List.getElem?_eq_getElem (by omega)
            cases hpo : (ptrs[b]).2.2 with
            | none => simp only [hpo] at hk
            | some lo =>
              simp only [hpo] at hk
              refine ⟨((ptrs[b]).1, (ptrs[b]).2.1, (ptrs[b]).2.2.map (fun l b => E.shifts b l)), qs[b]'(by omega), hzip b _ _ (List.getElem?_eq_getElem hb2) hqb, by simp [hpo], ?_, ?_, ?_⟩
              · rw [w4, hι]; simp [hqb]
              · rw [hι] at w5; simpa [hqb] using w5
              · rw [hι] at w6
                simp only [List.getD_eq_getElem?_getD, hqb, Option.getD_some, hk.1] at w6
                exact w6
          refine ⟨hat.defers, _, hres, e0, hQ, (if gh = 0 then h else ι'.h), F', ?_, fun ρ2 base hat2 => ⟨fun ι2 hA => ?_, fun p q gg hz hg ι2 hA j cc hj => ?_⟩⟩
          · unfold GPost
            by_cases h2g : gh = 2
            · have hne : gh ≠ 0 := by omega
              rcases hF2 with ⟨e1, _⟩ | ⟨_, rfl, hg'⟩
              · exact absurd e1 hne
              · rcases k4 with k4 | k4
                · exact absurd k4 hne
                · rw [if_neg hne] at k4
                  rw [if_pos (by simp [mkCon, h2g]), if_neg hne, ← k4]
                  refine ⟨hat.fr.mono hfr, hat.gho, fun i x hx => ?_, ?_, fun n hn => ?_⟩
                  · exact (hat.gow i x hx).symm
                  · have := hat.gcnt
                    rw [hg'] at this
                    exact this
                  · exact hat.gpar n (by rw [hg']; exact hn)
            · have h0g : gh = 0 := by
                rw [Bool.or_eq_true, Bool.and_eq_true] at hgk
                rcases hgk with hk | hk
                · exact absurd (by simpa using hk) h2g
                · simpa using hk.1
              rcases hF2 with ⟨_, rfl⟩ | ⟨e1, _⟩
              · rw [if_neg (by simp [mkCon, h2g]), if_pos h0g]
                exact ⟨hat.fr.mono fun i x hi hx => (hfr i x hi hx).resolve_right id, rfl⟩
              · exact absurd h0g e1
          · obtain ⟨ι3, h3', hh3⟩ := hagh ι2 hA
            have hres3 := resE_run h3'.held he
            rw [hres] at hres3
            injection hres3 with hres3 _
            have hs1 := E.shift_val hat2 (ι := ι2) (ι' := ι2) rfl res hlt (E.ptr_adr hnop)
            show Ending.returned _ = Ending.returned ((res.shift base).val ρ2 ι2)
            rw [hs1, hres3, hval e res ι3 ι2 k1 hnop (fun h0 => by
              rw [Bool.or_eq_true, Bool.and_eq_true] at hgk
              rcases hgk with hk | hk
              · rw [h0] at hk; cases hk
              · exact hk.2) hh3 k2]
          · obtain ⟨ι3, h3', hh3⟩ := hagh ι2 hA
            obtain ⟨k, hk⟩ := List.getElem?_of_mem hz
            rw [List.getElem?_zip_eq_some] at hk
            obtain ⟨hkp, hkq⟩ := hk
            simp only [mkCon, List.getElem?_map, Option.map_eq_some_iff] at hkp
            obtain ⟨p0, hp0, rfl⟩ := hkp
            simp only [Option.map_eq_some_iff] at hg
            obtain ⟨lo, hlo, rfl⟩ := hg
            have hk := KOuts_get k3 k p0 hp0
            have hkl : k < bs.length := by rw [b1]; exact (List.getElem?_eq_some_iff.1 hp0).1
            rw [Nat.zero_add, hout, hlo] at hk
            by_cases hw : k < bs.length ∧ (σ.wr.get k).isSome
            · rw [if_pos hw] at hk
              cases heq2 : σ.heap.get k with
              | none => simp only [heq2] at hk
              | some l2 =>
                simp only [heq2] at hk
                obtain ⟨g1, g2, g3, g4⟩ := hk
                have hι := hpar ι3 h3' k hkl
                have hch := List.all_eq_true.1 houts p0 (List.mem_of_getElem? hp0)
                rw [hlo] at hch
                simp only [Bool.and_eq_true] at hch
                obtain ⟨⟨hch1, hch2⟩, hch3⟩ := hch
                have hs1 := E.shifts_val hat2 (ι := ι2) (ι' := ι2) rfl lo hch1 (E.cells_adr hch2)
                have hj1 : j < lo.length := by
                  have := (List.getElem?_eq_some_iff.1 hj).1
                  rwa [E.shifts_length] at this
                have hj0 : j < l2.length := by omega
                have hcell := (h3'.cell k l2 heq2 j _ (List.getElem?_eq_getElem hj0)).1
                rw [hι] at hcell
                simp only [List.getD_eq_getElem?_getD, hkq, Option.getD_some] at hcell
                rw [hcell]
                have e1 := congrArg (fun x => x[j]?) hs1
                simp only [E.vals_get, hj, List.getElem?_eq_getElem hj1, Option.map_some, Option.some.injEq] at e1
                rw [e1]
                have e2 := congrArg (fun x => x[j]?) g4
                simp only [E.nams_get, List.getElem?_eq_getElem hj0, List.getElem?_eq_getElem hj1, Option.map_some, Option.some.injEq] at e2
                have n1 : (l2[j]).cellOk = true := List.all_eq_true.1 g3 _ (List.getElem_mem _)
                have n2 : (lo[j]).cellOk = true := List.all_eq_true.1 hch2 _ (List.getElem_mem _)
                congr 1
                rw [E.cell_conc ρ' ι3 (fun _ => (0, 0)) n1]
                have e2' : (l2[j]).nam ρ' (fun _ => (0, 0)) = (lo[j]).nam e0 (fun _ => (0, 0)) := e2
                rw [e2']
                rcases hh3 with hh | hh
                · rw [← E.cell_conc e0 ι3 (fun _ => (0, 0)) n2]
                  have hno : E.noHs lo = true := by
                    rw [Bool.or_eq_true] at hch3
                    rcases hch3 with hk | hk
                    · rw [hh] at hk; cases hk
                    · exact hk
                  have e3 := congrArg (fun x => x[j]?) (E.vals_noH e0 ι3 ι2 lo hno)
                  simpa only [E.vals_get, List.getElem?_eq_getElem hj1, Option.map_some, Option.some.injEq] using e3
                · rw [hh, ← E.cell_conc e0 ι2 (fun _ => (0, 0)) n2]
            · rw [if_neg hw] at hk
              exact hk.elim
        rcases hx with rfl | rfl
        · exact hpost
        · exact hpost
      · exact ht.elim
    · exact ht.elim
end
end Sx
end Go.Proofs.Ytaigdbnfhehclaa

namespace Go.Proofs.Ytaigdbnfhehclaa
namespace Sx
open Go.RowKit

/-- How a law's run ends: true, and the objects that came in are as they were. -/
def KL (G : List Ob) (ρ : Env) (x : Ex) (m : St) : Prop := ∃ e0 : Env, (∃ G', e0.g gv = encG G' ∧ ∀ (n : Nat) o, G[n]? = some o → G'[n]? = some o) ∧ KF [] (.bool (.lit true)) e0 2 ρ x m
theorem sem_retL {S : List ConS} {LQ : LoopS} {ρ : Env} {e : E} {h : Tr (List E)} {g : Nat} {G G' : List Ob} (h1 : e.noPtr = true) (h2 : e.nam ρ lay0 = .bool true) (h3 : ρ.g g = encG G') (h4 : ∀ (n : Nat) o, G[n]? = some o → G'[n]? = some o) :
    treeSem S LQ (KL G) ρ (leafG e h g) := ⟨(Env.ofL []).ans (encG G'), ⟨G', rfl, h4⟩, h1, h2, trivial, .inr h3⟩
theorem cell_of_block {w : World} {i : Nat} {c : Array Value} {e : TypeId} {f : Nat × Nat} (h : w.heap[i]? = some (.cells c e f)) (o : Nat) : w.cell? ⟨i, o, none⟩ = c[o]? := by
  unfold World.cell?
  simp [h]
/-- Blocks whose cells, and what is frozen of them, are as they were. -/
theorem block_same {S : Foot} {w w' : World} (hS : Fr S w w') {i : Nat} (hi : i < w.heap.size) (hc : ∀ o, w'.cell? ⟨i, o, none⟩ = w.cell? ⟨i, o, none⟩) (hn : ∀ o, w.cell? ⟨i, o, none⟩ = none → ¬ S i o) {o : Nat} (hso : S i o) : w'.heap[i]? = w.heap[i]? := by
  have hf := hS.frl i hi hn
  have hs := hS.shape i hi
  cases hw : w.heap[i]? with
  | none => exact absurd hso (hn o (by unfold World.cell?; simp [hw]))
  | some b =>
    cases b with
    | cells c e f =>
      unfold World.shape? at hs
      unfold frozenL at hf
      rw [hw] at hs hf
      cases hw' : w'.heap[i]? with
      | none => rw [hw'] at hf; cases hf
      | some b' =>
        cases b' with
        | cells c' e' f' =>
          rw [hw'] at hs hf
          simp only [Option.some.injEq, Prod.mk.injEq] at hs hf
          obtain ⟨he, hsz⟩ := hs
          have : c' = c := by
            apply Array.ext_getElem?
            intro j
            have := hc j
            rwa [cell_of_block hw', cell_of_block hw] at this
          rw [this, he, hf]
        | _ => rw [hw'] at hf; simp at hf
    | _ => exact absurd hso (hn o (by unfold World.cell?; simp [hw]))
variable {P : Program} {cs : List Con} {S : List ConS}
/-- A LAW OUT OF A RUN. -/
theorem law_of_run (hC : Cons P cs S) (hm : P.follows .mixedOrders = true) {LT : List (Nat × LS)} {depth fuel nv : Nat} {f : FuncId} {av : List E} {T : Tree}
    (hchk : (chkCon [] (.bool (.lit true)) 2 && Sole [] && okG 2 [] av && decide (f < primBase)) = true) (hT : runF P cs LT depth fuel f 2 nv (barePtrs []) av = T)
    {w : World} {h : Nat → OneV} {F : Foot} {G : List Ob} {fo : Nat → Foot} {vs : List Value} (H : Objs w h F G fo) (hro : ∀ (n : Nat) o, G[n]? = some o → ∃ s len cells, o = .ro s len cells) (hin : ∀ v ∈ vs, Inv h G.length v)
    (hdec : ∃ LQ ρ, vs = E.nams ρ lay0 av ∧ ρ.g (nv - 1) = encG G ∧ treeSem S LQ (KL G) ρ T) : Calls P f (vs.map (concE h)).toArray w (Ret (.bool true) w) := by
  have hmap : ∀ h' : Nat → OneV, (∀ n, n < G.length → h' n = h n) → vs.map (concE h) = vs.map (concE h') := fun h' hh => List.map_congr_left fun v hv => (hin v hv h' hh).symm
  refine (end_of_run (ptrs := []) (res := .bool (.lit true)) (gh := 2) (qs := []) (h := h) (F := F) (g := encG G) (vs := vs) (args := vs.map (concE h)) (w := w) (Q := fun e0 => ∃ G', e0.g gv = encG G' ∧ ∀ (n : Nat) o, G[n]? = some o → G'[n]? = some o) hC hm hchk hT
    (fun h' hh => ⟨?_, rfl⟩) trivial (fun _ => ⟨⟨G, fo, rfl, H⟩, fun p q hz => by cases hz⟩) hdec).mono ?_
  · rcases hh with rfl | ⟨_, hh⟩
    · rfl
    · exact hmap h' fun n hn => hh n (by rw [cnt_enc]; exact hn)
  · rintro e w' ⟨e0, ⟨G', hG', hkeep⟩, h', F', hg, hp⟩
    have hat : e0.At 0 e0 := fun j _ => by simp
    have h1 := (hp e0 0 hat).1 ⟨lay0, h'⟩ fun n hn => rfl
    subst h1
    have hg : Fr (fun i x => OutS [] [] i x ∨ F i x) w w' ∧ Kinds.holds w' h' F' (e0.g gv) ∧ (∀ i x, F' i x → F i x ∨ w.heap.size ≤ i) ∧ Kinds.cnt (encG G) ≤ Kinds.cnt (e0.g gv) ∧ ∀ n, n < Kinds.cnt (encG G) → h' n = h n := hg
    obtain ⟨hfr, hk, _, _, hh⟩ := hg
    rw [hG'] at hk
    obtain ⟨f', H'⟩ := objs_of hk
    have hh : ∀ n, n < G.length → h' n = h n := fun n hn => hh n (by rw [cnt_enc]; exact hn)
    -- the cells of what came in
    have hF : ∀ i x, F i x → ∃ v, w.cell? ⟨i, x, none⟩ = some v ∧ w'.cell? ⟨i, x, none⟩ = some v := fun i x hx => by
      obtain ⟨n, hn, hf⟩ := (H.foot i x).1 hx
      have ho := List.getElem?_eq_getElem hn
      obtain ⟨s, len, cells, e1⟩ := hro n _ ho
      have hb := H.ob n _ ho
      have hb' := H'.ob n _ (hkeep n _ ho)
      rw [e1] at hb hb'
      obtain ⟨b, o, sp, cap, h1, h2, h3, h4, h5, h6⟩ := hb
      obtain ⟨b', o', sp', cap', h1', h2', h3', h4', h5', h6'⟩ := hb'
      rw [hh n hn, h1] at h1'
      simp only [Value.slice.injEq, Option.some.injEq, Addr.mk.injEq] at h1'
      obtain ⟨⟨rfl, rfl, _⟩, _, _⟩ := h1'
      obtain ⟨rfl, q1, q2⟩ := (h6 _ _).1 hf
      have hj : cells[x - o]? = some (cells[x - o]'(by omega)) := List.getElem?_eq_getElem (by omega)
      have c1 := (h5 _ _ hj)
      have c2 := (h5' _ _ hj).cell
      rw [show o + (x - o) = x by omega] at c1 c2
      exact ⟨_, c1.cell, by rw [c2, c1.inv h' hh]⟩
    refine Ret.mk ⟨hfr.os, hfr.tape, hfr.output, hfr.size, fun i hi => ?_⟩
    by_cases hex : ∃ o, F i o
    · obtain ⟨o, ho⟩ := hex
      refine block_same hfr hi (fun x => ?_) (fun x hx hs => ?_) (.inr ho)
      · by_cases hx : F i x
        · obtain ⟨v, g1, g2⟩ := hF i x hx
          rw [g1, g2]
        · exact hfr.cell i x hi fun hs => hs.elim (fun ⟨p, q, hz, _⟩ => by cases hz) hx
      · rcases hs with ⟨p, q, hz, _⟩ | hs
        · cases hz
        · obtain ⟨v, g1, _⟩ := hF i x hs
          rw [hx] at g1
          cases g1
    · exact hfr.block i hi fun o hs => hs.elim (fun ⟨p, q, hz, _⟩ => by cases hz) fun h => hex ⟨o, h⟩
end Sx
end Go.Proofs.Ytaigdbnfhehclaa
