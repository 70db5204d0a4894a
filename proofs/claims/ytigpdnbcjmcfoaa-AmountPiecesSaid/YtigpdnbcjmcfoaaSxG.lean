/-
  What is proved: one step of a symbolic run tells what the model's step does; no program in sight. Condition: the contracts hold.
-/
import Derived.Test.YtigpdnbcjmcfoaaSxF
namespace Go.Proofs.Ytigpdnbcjmcfoaa
namespace Sx
open Go.RowKit

section
variable {P : Program} {cs : List Con} {S : List ConS} {ops : Array Oper} {nk nv : Nat} {ρ : Env} {ι : Lay} {w0 : Base} {σ σ' : St} {a : Act} {w w' : World} {dst : Option Tmp} {f : Eff}

theorem guard_ok (H : Held σ ρ ι a w) {o : Oper} {c : C} (h : guardE ops σ o = some c) : Region.wanted o (yielded ops a.tmps) = c.den ρ := by
  unfold guardE at h
  unfold Region.wanted
  cases hg : o.guard with
  | none => simp only [hg] at h; cases h; rfl
  | some jw =>
    obtain ⟨j, want⟩ := jw
    simp only [hg] at h ⊢
    unfold yielded
    split at h
    · rename_i hd; cases h; simp only [hd, Option.bind_none, C.den]; cases want <;> rfl
    · rename_i d hd
      simp only [hd, Option.bind_some]
      split at h
      · rename_i c' hc
        have h1 := H.tmps d _ hc
        have h2 : a.tmps[d]? = some (.bool (c'.den ρ)) := by
          simp only [E.val, Array.getD_eq_getD_getElem?] at h1
          cases hq : a.tmps[d]? with
          | none => simp [hq, undef] at h1
          | some v => simp [hq] at h1; rw [h1]
        cases h
        rw [h2]
        cases want <;> simp [C.den_not'] <;> cases c'.den ρ <;> rfl
      · rename_i vs hc
        have h1 := H.tmps d _ hc
        cases h
        simp only [E.val, Array.getD_eq_getD_getElem?] at h1
        cases hq : a.tmps[d]? with
        | none => simp [C.den]
        | some v => simp [hq] at h1; subst h1; simp [C.den]
      · cases h

theorem over_get (l cs : List E) (o : Nat) (h : o + cs.length ≤ l.length) (j : Nat) : (overE l o cs)[j]? = if o ≤ j ∧ j < o + cs.length then cs[j - o]? else l[j]? := by
  unfold overE
  simp only [List.getElem?_append, List.length_append, List.length_take, List.getElem?_take, List.getElem?_drop]
  rw [show min o l.length = o by omega]
  by_cases h1 : j < o
  · simp [h1, show j < o + cs.length by omega, show ¬ o ≤ j by omega]
  · by_cases h2 : j < o + cs.length
    · simp [h1, h2, show o ≤ j by omega]
    · rw [if_neg h2, if_neg (by omega)]
      congr 1
      omega
theorem over_length (l cs : List E) (o : Nat) (h : o + cs.length ≤ l.length) : (overE l o cs).length = l.length := by
  unfold overE
  simp
  omega

theorem cell_lt {b l} (h : SimAt ρ ι w0 σ a w) (hb : σ.heap.get b = some l) {j : Nat} (hj : j < l.length) : (ι b).1 < w.heap.size := by
  have := (h.cell b l hb j _ (List.getElem?_eq_getElem hj)).1
  unfold World.cell? at this
  simp only at this
  cases hq : w.heap[(ι b).1]? with
  | none => simp [hq] at this
  | some o => exact (Array.getElem?_eq_some_iff.1 hq).1

/-- Where places lie. -/
def qE (ι : Lay) (args : List E) (p : Ptr) : Nat × Nat := match (args[p.1]?).bind E.pl with
  | some (b, o) => ((ι b).1, (ι b).2 + o)
  | _ => (0, 0)
def qsE (ι : Lay) (args : List E) (ptrs : List Ptr) : List (Nat × Nat) := ptrs.map (qE ι args)
/-- What the places of a call's parameters tell. -/
structure PtrsOk (σ : St) (ι : Lay) (args : List E) (base : Nat) (ptrs : List Ptr) (hs : List (Nat × List E)) : Prop where
  all : ∀ p ∈ ptrs, ∃ b o l, (args[p.1]?).bind E.pl = some (b, o) ∧ σ.heap.get b = some l ∧ o + p.2.1 ≤ l.length
  key : ∀ p ∈ hs, p.1 < 1099511627776
  nodup : (hs.map (·.1)).Nodup
  out : ∀ k l, (k, l) ∈ hs → ∃ p o l0 f, p ∈ ptrs ∧ (args[p.1]?).bind E.pl = some (k, o) ∧ σ.heap.get k = some l0 ∧ p.2.2 = some f ∧ (f base).length = p.2.1 ∧ o + p.2.1 ≤ l0.length ∧ l = overE l0 o (f base) ∧ (p, ((ι k).1, (ι k).2 + o)) ∈ ptrs.zip (qsE ι args ptrs)
  uniq : ∀ p p', p ∈ ptrs → p' ∈ ptrs → p.2.2.isSome → p'.2.2.isSome → ∀ k o o', (args[p.1]?).bind E.pl = some (k, o) → (args[p'.1]?).bind E.pl = some (k, o') → o = o' ∧ p.2.1 = p'.2.1
  back : ∀ p q, (p, q) ∈ ptrs.zip (qsE ι args ptrs) → p.2.2.isSome → ∃ k l o, (k, l) ∈ hs ∧ (args[p.1]?).bind E.pl = some (k, o) ∧ q = ((ι k).1, (ι k).2 + o)
theorem zip_qs {ι : Lay} {args : List E} : ∀ {ptrs : List Ptr} {p : Ptr} {q : Nat × Nat}, (p, q) ∈ ptrs.zip (qsE ι args ptrs) → p ∈ ptrs ∧ q = qE ι args p
  | [], _, _, h => by simp [qsE] at h
  | p' :: r, p, q, h => by
    simp only [qsE, List.map_cons, List.zip_cons_cons] at h
    cases h with
    | head => exact ⟨List.mem_cons_self .., rfl⟩
    | tail _ h => have := zip_qs h; exact ⟨List.mem_cons_of_mem _ this.1, this.2⟩
theorem ptrs_ok (h : SimAt ρ ι w0 σ a w) {args : List E} {base : Nat} : ∀ {ptrs : List Ptr} {vs : List E} {hs : List (Nat × List E)}, ptrsE σ args base ptrs = some (vs, hs) →
    Points w (E.vals ρ ι args) ptrs (E.vals ρ ι vs) (qsE ι args ptrs) ∧ ApartQ ptrs (qsE ι args ptrs) ∧ PtrsOk σ ι args base ptrs hs
  | [], vs, hs, hp => by
    cases hp
    exact ⟨⟨rfl, rfl⟩, trivial, ⟨fun _ h => (by cases h), fun _ h => (by cases h), List.nodup_nil, fun _ _ h => (by cases h), fun _ _ h => (by cases h), fun _ _ h => (by simp at h)⟩⟩
  | (pos, n, out) :: r, vs, hs, hp => by
    unfold ptrsE at hp
    split at hp
    · rename_i b o vs' hs' h1 h2
      obtain ⟨i1, i2, i3⟩ := ptrs_ok h h2
      have h1p : (args[pos]?).bind E.pl = some (b, o) := by rw [h1]; rfl
      split at hp
      · rename_i l hl
        split at hp
        · rename_i hle
          have hq : qsE ι args ((pos, n, out) :: r) = ((ι b).1, (ι b).2 + o) :: qsE ι args r := by simp [qsE, qE, h1p]
          have hvs : E.vals ρ ι (vs'.set pos (.agg ((l.drop o).take n))) = (E.vals ρ ι vs').set pos (.agg (E.vals ρ ι ((l.drop o).take n)).toArray) := by
            simp [E.vals_map, List.map_set, E.val]
          have hpts : Points w (E.vals ρ ι args) ((pos, n, out) :: r) (E.vals ρ ι (vs'.set pos (.agg ((l.drop o).take n)))) (((ι b).1, (ι b).2 + o) :: qsE ι args r) := by
            refine ⟨none, E.vals ρ ι ((l.drop o).take n), E.vals ρ ι vs', i1, hvs, ⟨?_, fun c hc => by cases hc⟩, ?_, ?_⟩
            · rw [E.vals_length]; simp; omega
            · rw [E.vals_get, h1]; rfl
            · intro j c hj
              rw [E.vals_get] at hj
              simp only [List.getElem?_take, List.getElem?_drop] at hj
              split at hj
              · cases hq : l[o + j]? with
                | none => simp [hq] at hj
                | some c' =>
                  simp [hq] at hj
                  subst hj
                  have := h.cell b l hl (o + j) c' hq
                  rwa [← Nat.add_assoc] at this
              · simp at hj
          have hall : ∀ p ∈ (pos, n, out) :: r, ∃ b o l, (args[p.1]?).bind E.pl = some (b, o) ∧ σ.heap.get b = some l ∧ o + p.2.1 ≤ l.length := by
            intro p hp'
            cases hp' with
            | head => exact ⟨b, o, l, h1p, hl, hle⟩
            | tail _ hp' => exact i3.all p hp'
          split at hp
          · -- read only
            split at hp
            · rename_i hne
              cases hp
              rw [hq]
              refine ⟨hpts, ⟨fun p' q' hpq ho he j j' hj hj' => ?_, i2⟩, ⟨hall, i3.key, i3.nodup, fun k l' hk => ?_, fun p p' hp1 hp2 => ?_, fun p q hpq ho => ?_⟩⟩
              · obtain ⟨k, l', o', hk1, hk2, hk3⟩ := i3.back p' q' hpq (by simpa using ho)
                obtain ⟨b2, o2, l2, hb1, hb2, hb3⟩ := i3.all p' (zip_qs hpq).1
                rw [hk2] at hb1
                cases hb1
                have hkb : b ≠ k := fun e => by
                  have := List.all_eq_true.1 hne _ hk1
                  simp [e] at this
                subst hk3
                have := h.apart b k l l2 hl hb2 hkb he (o + j) (o' + j') (by simp only at hj; omega) (by omega)
                simp only
                omega
              · obtain ⟨p, o', l0, f, e1, e2, e3, e4, e5, e6, e7, e8⟩ := i3.out k l' hk
                exact ⟨p, o', l0, f, List.mem_cons_of_mem _ e1, e2, e3, e4, e5, e6, e7, by rw [hq]; exact List.mem_cons_of_mem _ e8⟩
              · cases hp1 with
                | head => intro ho; cases ho
                | tail _ hp1 => cases hp2 with
                  | head => intro _ ho; cases ho
                  | tail _ hp2 => exact i3.uniq p p' hp1 hp2
              · rw [hq] at hpq
                simp only [List.zip_cons_cons] at hpq
                cases hpq with
                | head => cases ho
                | tail _ hpq => exact i3.back p q hpq ho
            · cases hp
          · rename_i f
            split at hp
            · rename_i hc
              obtain ⟨c1, c2, c3, c4⟩ := hc
              cases hp
              rw [hq]
              refine ⟨hpts, ⟨fun p' q' hpq _ he j j' hj hj' => ?_, i2⟩, ⟨hall, fun p hp' => ?_, ?_, fun k l' hk => ?_, fun p p' hp1 hp2 _ _ k o1 o2 ha1 ha2 => ?_, fun p q hpq ho => ?_⟩⟩
              · obtain ⟨b2, o2, l2, hb1, hb2, hb3⟩ := i3.all p' (zip_qs hpq).1
                have hkb : b ≠ b2 := fun e => by
                  have := List.all_eq_true.1 c3 p' (zip_qs hpq).1
                  simp [hb1, e] at this
                have hq' := (zip_qs hpq).2
                simp only [qE, hb1] at hq'
                subst hq'
                have := h.apart b b2 l l2 hl hb2 hkb he (o + j) (o2 + j') (by simp only at hj; omega) (by omega)
                simp only
                omega
              · cases hp' with
                | head => exact c4
                | tail _ hp' => exact i3.key p hp'
              · rw [List.map_cons, List.nodup_cons]
                refine ⟨fun hm => ?_, i3.nodup⟩
                obtain ⟨p, hp', e⟩ := List.mem_map.1 hm
                have := List.all_eq_true.1 c2 p hp'
                simp [e] at this
              · cases hk with
                | head => exact ⟨_, o, l, f, List.mem_cons_self .., h1p, hl, rfl, c1, hle, rfl, by rw [hq]; exact List.mem_cons_self ..⟩
                | tail _ hk =>
                  obtain ⟨p, o', l0, f, e1, e2, e3, e4, e5, e6, e7, e8⟩ := i3.out k l' hk
                  exact ⟨p, o', l0, f, List.mem_cons_of_mem _ e1, e2, e3, e4, e5, e6, e7, by rw [hq]; exact List.mem_cons_of_mem _ e8⟩
              · have hno : ∀ p'' ∈ r, ∀ o'', (args[p''.1]?).bind E.pl = some (b, o'') → False := fun p'' hp'' o'' ha'' => by
                  have := List.all_eq_true.1 c3 p'' hp''
                  simp [ha''] at this
                cases hp1 with
                | head =>
                  cases hp2 with
                  | head => rw [ha1] at ha2; cases ha2; exact ⟨rfl, rfl⟩
                  | tail _ hp2 => simp only [h1p] at ha1; cases ha1; exact (hno _ hp2 _ ha2).elim
                | tail _ hp1 =>
                  cases hp2 with
                  | head => simp only [h1p] at ha2; cases ha2; exact (hno _ hp1 _ ha1).elim
                  | tail _ hp2 => exact i3.uniq p p' hp1 hp2 (by assumption) (by assumption) k o1 o2 ha1 ha2
              · rw [hq] at hpq
                simp only [List.zip_cons_cons] at hpq
                cases hpq with
                | head => exact ⟨b, _, o, List.mem_cons_self .., h1p, rfl⟩
                | tail _ hpq =>
                  obtain ⟨k, l', o', e1, e2, e3⟩ := i3.back p q hpq ho
                  exact ⟨k, l', o', List.mem_cons_of_mem _ e1, e2, e3⟩
            · cases hp
        · cases hp
      · cases hp
    · rename_i b o m c vs' hs' h1 h2
      obtain ⟨i1, i2, i3⟩ := ptrs_ok h h2
      have h1p : (args[pos]?).bind E.pl = some (b, o) := by rw [h1]; rfl
      split at hp
      · rename_i l hl
        split at hp
        · rename_i hc
          obtain ⟨hle, rfl, hmc, hout, hne⟩ := hc
          cases hp
          obtain rfl : out = none := by simpa using hout
          have hq : qsE ι args ((pos, m, none) :: r) = ((ι b).1, (ι b).2 + o) :: qsE ι args r := by simp [qsE, qE, h1p]
          have hvs : E.vals ρ ι (vs'.set pos (.tup ((l.drop o).take m))) = (E.vals ρ ι vs').set pos (.tuple (E.vals ρ ι ((l.drop o).take m)).toArray) := by
            simp [E.vals_map, List.map_set, E.val]
          have hpts : Points w (E.vals ρ ι args) ((pos, m, none) :: r) (E.vals ρ ι (vs'.set pos (.tup ((l.drop o).take m)))) (((ι b).1, (ι b).2 + o) :: qsE ι args r) := by
            refine ⟨some c, E.vals ρ ι ((l.drop o).take m), E.vals ρ ι vs', i1, hvs, ⟨?_, fun c' hc' => by cases hc'; exact hmc⟩, ?_, ?_⟩
            · rw [E.vals_length]; simp; omega
            · rw [E.vals_get, h1]; rfl
            · intro j c hj
              rw [E.vals_get] at hj
              simp only [List.getElem?_take, List.getElem?_drop] at hj
              split at hj
              · cases hq : l[o + j]? with
                | none => simp [hq] at hj
                | some c' =>
                  simp [hq] at hj
                  subst hj
                  have := h.cell b l hl (o + j) c' hq
                  rwa [← Nat.add_assoc] at this
              · simp at hj
          have hall : ∀ p ∈ (pos, m, (none : Option (Nat → List E))) :: r, ∃ b o l, (args[p.1]?).bind E.pl = some (b, o) ∧ σ.heap.get b = some l ∧ o + p.2.1 ≤ l.length := by
            intro p hp'
            cases hp' with
            | head => exact ⟨b, o, l, h1p, hl, hle⟩
            | tail _ hp' => exact i3.all p hp'
          rw [hq]
          refine ⟨hpts, ⟨fun p' q' hpq ho he j j' hj hj' => ?_, i2⟩, ⟨hall, i3.key, i3.nodup, fun k l' hk => ?_, fun p p' hp1 hp2 => ?_, fun p q hpq ho => ?_⟩⟩
          · obtain ⟨k, l', o', hk1, hk2, hk3⟩ := i3.back p' q' hpq (by simpa using ho)
            obtain ⟨b2, o2, l2, hb1, hb2, hb3⟩ := i3.all p' (zip_qs hpq).1
            rw [hk2] at hb1
            cases hb1
            have hkb : b ≠ k := fun e => by
              have := List.all_eq_true.1 hne _ hk1
              simp [e] at this
            subst hk3
            have := h.apart b k l l2 hl hb2 hkb he (o + j) (o' + j') (by simp only at hj; omega) (by omega)
            simp only
            omega
          · obtain ⟨p, o', l0, f, e1, e2, e3, e4, e5, e6, e7, e8⟩ := i3.out k l' hk
            exact ⟨p, o', l0, f, List.mem_cons_of_mem _ e1, e2, e3, e4, e5, e6, e7, by rw [hq]; exact List.mem_cons_of_mem _ e8⟩
          · cases hp1 with
            | head => intro ho; cases ho
            | tail _ hp1 => cases hp2 with
              | head => intro _ ho; cases ho
              | tail _ hp2 => exact i3.uniq p p' hp1 hp2
          · rw [hq] at hpq
            simp only [List.zip_cons_cons] at hpq
            cases hpq with
            | head => cases ho
            | tail _ hpq => exact i3.back p q hpq ho
        · cases hp
      · cases hp
    · cases hp

theorem ns_ag {ρ' : Env} {n m : Nat} {ns : List C} (h : ρ.ag m ρ') (hm : n ≤ m) (hlt : ns.all (C.lt n) = true) (hn : ∀ c ∈ ns, c.den ρ = true) : ∀ c ∈ ns, c.den ρ' = true := fun c hc => by
  rw [C.den_ag (Env.ag_mono h hm) c (List.all_eq_true.1 hlt c hc)]; exact hn c hc

theorem eff_ok (hC : Cons P cs S) {i : Nat} {o : Oper} (hf : effE P cs nk nv σ i o = some f) (ha : σ.app o.dst f = some σ') (hn : ∀ c ∈ f.ns, c.den ρ = true) (hc : callOk S ρ f.call) (hs : Sim ρ w0 σ a w)
    {Q : Exit → Act → World → Prop} : o.wp P a w (Sim ρ w0 σ') Q := by
  obtain ⟨e1, e2, e3, e4, e5, e6⟩ := app_heap ha
  obtain ⟨ι, hι⟩ := hs
  have h0 := hι ρ (Env.ag_refl _ _) ι fun _ _ => rfl
  unfold effE at hf
  split at hf
  · cases hf
  · rename_i d ns hop
    split at hf
    · rename_i hlt
      rw [Bool.and_eq_true, decide_eq_true_eq] at hlt
      obtain ⟨hlt, hnv⟩ := hlt
      unfold Oper.wp
      split at hf
      · -- a value
        rename_i e
        cases hf
        have h1 := opX_ok h0.held hop hn
        simp only [Do.does] at h1
        rw [h1, Oper.upon_value]
        refine ⟨ι, fun ρ' hr ι' hi => ?_⟩
        have h2 := hι ρ' (by rw [← e5]; exact hr) ι' (fun b hb => hi b (by rw [e1]; exact hb))
        have h3 := opX_ok h2.held hop (ns_ag hr (by omega) hlt hn)
        simp only [Do.does] at h3
        rw [h1] at h3
        have h4 : e.val ρ ι = e.val ρ' ι' := by injection h3 with h3 _; injection h3
        exact h2.app ha (Fr.refl (fun _ _ => False) w) h4 (fun _ h => by cases h) List.nodup_nil rfl (fun _ _ h => by cases h) (fun _ _ h => by cases h) (fun _ _ _ h => h.elim)
      · -- a new block
        rename_i l t sl
        split at hf
        · rename_i hkey
          simp only [Bool.and_eq_true, decide_eq_true_eq, okKey, Option.isNone_iff_eq_none] at hkey
          obtain ⟨⟨hfree, hk⟩, hnp⟩ := hkey
          cases hf
          have h1 := opX_ok h0.held hop hn
          simp only [Do.does] at h1
          rw [h1, Oper.upon_value]
          have hget : ∀ b, σ'.heap.get b = if b = nk + i then some l else σ.heap.get b := fun b => by
            rw [e1]; unfold setAll setAll; exact Tr.get_set _ _ _ _ hk
          refine ⟨fun b => if b = nk + i then (w.heap.size, 0) else ι b, fun ρ' hr ι' hi => ?_⟩
          have hik : ι' (nk + i) = (w.heap.size, 0) := by rw [hi (nk + i) (by rw [hget, if_pos rfl]; rfl)]; simp
          have h2 := hι ρ' (by rw [← e5]; exact hr) ι' (fun b hb => by
            have hne : b ≠ nk + i := fun e => by rw [e, hfree] at hb; cases hb
            rw [hi b (by rw [hget, if_neg hne]; exact hb)]
            simp [hne])
          have h3 := opX_ok h2.held hop (ns_ag hr (by omega) hlt hn)
          simp only [Do.does] at h3
          rw [h1] at h3
          have h4 : w.alloc (.cells (E.vals ρ ι l).toArray t) = w.alloc (.cells (E.vals ρ' ι' l).toArray t) := by injection h3
          rw [h4]
          exact h2.lay ha rfl rfl rfl hk hfree hnp hik
        · cases hf
      · -- a store
        rename_i b o' c
        split at hf
        · rename_i l hl
          split at hf
          · rename_i hk
            simp only [okKey, decide_eq_true_eq] at hk
            cases hf
            have h1 := opX_ok h0.held hop hn
            simp only [Do.does] at h1
            obtain ⟨h1, l', hl', hle⟩ := h1
            rw [hl] at hl'
            cases hl'
            rw [h1, Oper.upon_skip]
            refine ⟨ι, fun ρ' hr ι' hi => ?_⟩
            have h2 := hι ρ' (by rw [← e5]; exact hr) ι' (fun k hb => hi k (by
              rw [e1]
              unfold setAll setAll
              rw [Tr.get_set _ _ _ _ hk]
              split
              · rfl
              · exact hb))
            have h3 := opX_ok h2.held hop (ns_ag hr (by omega) hlt hn)
            simp only [Do.does] at h3
            have h3 := h3.1
            rw [h1] at h3
            have h4 : w.setCells (ι b).1 ((ι b).2 + o') (E.vals ρ ι c) = w.setCells (ι' b).1 ((ι' b).2 + o') (E.vals ρ' ι' c) := by injection h3
            rw [h4]
            refine h2.app ha (Fr.setCells w _ _ _) rfl (fun p hp => ?_) (by simp) rfl (fun k l' hm => ?_) (fun k l' hm j x hj => ?_) (fun y x _ hx => ?_)
            · simp only [List.mem_singleton] at hp; subst hp; exact hk
            · simp only [List.mem_singleton] at hm; cases hm; exact ⟨l, hl, (over_length _ _ _ hle).symm⟩
            · simp only [List.mem_singleton] at hm
              cases hm
              rw [over_get _ _ _ hle] at hj
              split at hj
              · rename_i hw
                have hlen : j - o' < (E.vals ρ' ι' c).length := by rw [E.vals_length]; omega
                have := World.cell?_setCells_in (ι' b).1 (E.vals ρ' ι' c) ((ι' b).2 + o') w (fun q hq => by
                  rw [E.vals_length] at hq
                  have hb : o' + q < l.length := by omega
                  have := (h2.cell b l hl (o' + q) _ (List.getElem?_eq_getElem hb)).1
                  rw [← Nat.add_assoc] at this
                  rw [this]
                  rfl) (j - o') hlen
                rw [show (ι' b).2 + o' + (j - o') = (ι' b).2 + j by omega] at this
                rw [this]
                have h5 : (E.vals ρ' ι' c)[j - o']? = some (x.val ρ' ι') := by rw [E.vals_get, hj]; rfl
                rw [List.getElem?_eq_getElem hlen] at h5
                exact h5
              · rename_i hw
                rw [World.cell?_setCells_out]
                · exact (h2.cell b l hl j x hj).1
                · intro _ _
                  rw [E.vals_length]
                  simp only
                  omega
            · obtain ⟨hx1, hx2, hx3⟩ := hx
              rw [E.vals_length] at hx3
              exact ⟨b, _, l, List.mem_singleton.2 rfl, hl, hx1, by omega, by omega⟩
          · cases hf
        · cases hf
      · -- a call
        rename_i fid args
        split at hf
        · rename_i ci con hfind
          obtain ⟨_, hcon, hfn⟩ := findCon_spec hfind
          split at hf
          · rename_i vs hs' hptr
            split at hf
            · rename_i hvs
              rw [Bool.and_eq_true] at hvs
              cases hf
              obtain ⟨s, e0, hs1, hs2, hs3⟩ := hc
              have hT := Cons.at_ hC hcon hs1
              have h1 := opX_ok h0.held hop hn
              simp only [Do.does] at h1
              rw [h1, Oper.upon_enter]
              obtain ⟨p1, p2, p3⟩ := ptrs_ok h0 hptr
              have hvals : E.vals ρ lay0 vs = E.vals ρ ι vs := E.vals_noPtr _ _ _ _ hvs.2
              rw [hvals] at hs2
              have hcall := hT w _ _ _ e0 p1 p2 hs2
              rw [hfn] at hcall
              refine hcall.mono fun e w' hpost => ?_
              obtain ⟨hfr, hpost⟩ := hpost
              have hret := (hpost ρ _ hs3).1 ι
              subst hret
              simp only
              have hgets : ∀ b, (σ.heap.get b).isSome → (σ'.heap.get b).isSome := fun b hb => by
                rw [e1]
                by_cases hin : ∃ l', (b, l') ∈ hs'
                · obtain ⟨l', hl'⟩ := hin
                  rw [get_setAll_in _ _ _ _ p3.key p3.nodup hl']
                  rfl
                · rw [get_setAll_out _ _ _ p3.key (fun p hp e => hin ⟨p.2, by rw [← e]; exact hp⟩)]
                  exact hb
              refine ⟨ι, fun ρ' hr ι' hi => ?_⟩
              have hi0 : σ.agL ι ι' := fun b hb => hi b (hgets b hb)
              have h2 := hι ρ' (by rw [← e5]; exact hr) ι' hi0
              have hpost' := hpost ρ' _ (hs3.ag hr (by omega))
              have hv : (con.res (nv + i * stride)).val ρ ι = (con.res (nv + i * stride)).val ρ' ι' := by
                have := hpost'.1 ι'
                injection this
              refine h2.app ha hfr hv p3.key p3.nodup rfl (fun k l hm => ?_) (fun k l hm j x hj => ?_) (fun y x hy hx => ?_)
              · obtain ⟨p, o', l0, g, _, _, g3, _, g5, g6, g7, _⟩ := p3.out k l hm
                exact ⟨l0, g3, by rw [g7, over_length _ _ _ (by omega)]⟩
              · obtain ⟨p, o', l0, g, g1, g2, g3, g4, g5, g6, g7, g8⟩ := p3.out k l hm
                have hk : ι' k = ι k := hi0 k (by rw [g3]; rfl)
                subst g7
                rw [over_get _ _ _ (by omega)] at hj
                rw [hk]
                split at hj
                · rename_i hw
                  have := hpost'.2 p _ g g8 g4 ι' (j - o') x hj
                  simp only at this
                  rw [show (ι k).2 + o' + (j - o') = (ι k).2 + j by omega] at this
                  exact this
                · rename_i hw
                  have hj0 : j < l0.length := (List.getElem?_eq_some_iff.1 hj).1
                  have hcell := (h0.cell k l0 g3 j x hj).1
                  have hcell' := (h2.cell k l0 g3 j x hj).1
                  rw [hk] at hcell'
                  have hno : ¬ OutS con.ptrs (qsE ι args con.ptrs) (ι k).1 ((ι k).2 + j) := by
                    rintro ⟨p', q', hz, ho, hy1, hy2, hy3⟩
                    obtain ⟨k', l', o2, b1, b2, b3⟩ := p3.back p' q' hz ho
                    obtain ⟨b4, o4, l4, b5, b6, b7⟩ := p3.all p' (zip_qs hz).1
                    rw [b2] at b5
                    cases b5
                    subst b3
                    simp only at hy1 hy2 hy3
                    by_cases e : k = k'
                    · subst e
                      have hu := p3.uniq p p' g1 (zip_qs hz).1 (by rw [g4]; rfl) ho k o' _ g2 b2
                      rename_i hw
                      apply hw
                      rw [g5]
                      omega
                    · exact h0.apart k k' l0 l4 g3 b6 e hy1 j ((ι k).2 + j - (ι k').2) hj0 (by omega) (by omega)
                  rw [hfr.cell _ _ (cell_lt h0 g3 hj0) hno]
                  exact hcell'
              · obtain ⟨p, q, hz, ho, hx1, hx2, hx3⟩ := hx
                obtain ⟨k, l, o', b1, b2, b3⟩ := p3.back p q hz ho
                obtain ⟨b, o4, l4, b5, b6, b7⟩ := p3.all p (zip_qs hz).1
                rw [b2] at b5
                cases b5
                have hk : ι' k = ι k := hi0 k (by rw [b6]; rfl)
                subst b3
                exact ⟨k, l, l4, b1, b6, by rw [hk]; exact hx1, by rw [hk]; simp only at hx2; omega, by rw [hk]; simp only at hx3; omega⟩
            · cases hf
          · cases hf
        · cases hf
    · cases hf
end
end Sx
end Go.Proofs.Ytigpdnbcjmcfoaa
