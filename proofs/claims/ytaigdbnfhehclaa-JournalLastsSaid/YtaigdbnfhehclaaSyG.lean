/- What is proved: one step of a symbolic run tells what the model's step does; no program in sight; a region's operations come to the same symbolic state in whatever order; no program in sight. No condition but those each law names. -/
import Derived.Test.YtaigdbnfhehclaaSyE
namespace Go.Proofs.Ytaigdbnfhehclaa
namespace Sx
open Go.RowKit

section
variable {P : Program} {cs : List Con} {S : List ConS} {ops : Array Oper} {nk nv : Nat} {ρ : Env} {ι : Lay} {F F' : Foot} {w0 : Base} {σ σ' : St} {a : Act} {w w' : World} {dst : Option Tmp} {f : Eff}

theorem guard_ok (H : Held σ ρ ι a w) {o : Oper} {c : C} (h : guardE ops σ o = some c) : Region.wanted o (yielded ops a.tmps) = c.den ρ := by
  unfold guardE at h
  unfold Region.wanted
  cases hg : o.guard with
  | none => simp only [hg] at h; cases h; rfl
  | some jw =>
    obtain ⟨j, want⟩ := jw
    simp only [hg] at h ⊢
    unfold yielded
    split at h
    · rename_i hd; cases h; simp only [hd, Option.bind_none, C.den]; cases want <;> rfl
    · rename_i d hd
      simp only [hd, Option.bind_some]
      split at h
      · rename_i c' hc
        have h1 := H.tmps d _ hc
        have h2 : a.tmps[d]? = some (.bool (c'.den ρ)) := by
          simp only [E.val, Array.getD_eq_getD_getElem?] at h1
          cases hq : a.tmps[d]? with
          | none => simp [hq, undef] at h1
          | some v => simp [hq] at h1; rw [h1]
        cases h
        rw [h2]
        cases want <;> simp [C.den_not'] <;> cases c'.den ρ <;> rfl
      · rename_i vs hc
        have h1 := H.tmps d _ hc
        cases h
        simp only [E.val, Array.getD_eq_getD_getElem?] at h1
        cases hq : a.tmps[d]? with
        | none => simp [C.den]
        | some v => simp [hq] at h1; subst h1; simp [C.den]
      · cases h

theorem over_get (l cs : List E) (o : Nat) (h : o + cs.length ≤ l.length) (j : Nat) : (overE l o cs)[j]? = if o ≤ j ∧ j < o + cs.length then cs[j - o]? else l[j]? := by
  unfold overE
  simp only [List.getElem?_append, List.length_append, List.length_take, List.getElem?_take, List.getElem?_drop]
  rw [show min o l.length = o by omega]
  by_cases h1 : j < o
  · simp [h1, show j < o + cs.length by omega, show ¬ o ≤ j by omega]
  · by_cases h2 : j < o + cs.length
    · simp [h1, h2, show o ≤ j by omega]
    · rw [if_neg h2, if_neg (by omega)]
      congr 1
      omega
theorem over_length (l cs : List E) (o : Nat) (h : o + cs.length ≤ l.length) : (overE l o cs).length = l.length := by
  unfold overE
  simp
  omega

theorem cell_lt [Kinds] {b l} (h : SimAt ρ ι F w0 σ a w) (hb : σ.heap.get b = some l) {j : Nat} (hj : j < l.length) : (ι b).1 < w.heap.size := by
  have := (h.cell b l hb j _ (List.getElem?_eq_getElem hj)).1
  unfold World.cell? at this
  simp only at this
  cases hq : w.heap[(ι b).1]? with
  | none => simp [hq] at this
  | some o => exact (Array.getElem?_eq_some_iff.1 hq).1

/-- Where places lie. -/
def qE (ι : Lay) (args : List E) (p : Ptr) : Nat × Nat := match (args[p.1]?).bind E.pl with
  | some (b, o) => ((ι b).1, (ι b).2 + o)
  | _ => (0, 0)
def qsE (ι : Lay) (args : List E) (ptrs : List Ptr) : List (Nat × Nat) := ptrs.map (qE ι args)
/-- What the places of a call's parameters tell. -/
structure PtrsOk (σ : St) (ι : Lay) (args : List E) (base : Nat) (ptrs : List Ptr) (hs : List (Nat × List E)) : Prop where
  all : ∀ p ∈ ptrs, ∃ b o l, (args[p.1]?).bind E.pl = some (b, o) ∧ σ.heap.get b = some l ∧ o + p.2.1 ≤ l.length
  key : ∀ p ∈ hs, p.1 < 1099511627776
  nodup : (hs.map (·.1)).Nodup
  out : ∀ k l, (k, l) ∈ hs → ∃ p o l0 f, p ∈ ptrs ∧ (args[p.1]?).bind E.pl = some (k, o) ∧ σ.heap.get k = some l0 ∧ p.2.2 = some f ∧ (f base).length = p.2.1 ∧ o + p.2.1 ≤ l0.length ∧ l = overE l0 o (f base) ∧ (p, ((ι k).1, (ι k).2 + o)) ∈ ptrs.zip (qsE ι args ptrs)
  uniq : ∀ p p', p ∈ ptrs → p' ∈ ptrs → p.2.2.isSome → p'.2.2.isSome → ∀ k o o', (args[p.1]?).bind E.pl = some (k, o) → (args[p'.1]?).bind E.pl = some (k, o') → o = o' ∧ p.2.1 = p'.2.1
  back : ∀ p q, (p, q) ∈ ptrs.zip (qsE ι args ptrs) → p.2.2.isSome → ∃ k l o, (k, l) ∈ hs ∧ (args[p.1]?).bind E.pl = some (k, o) ∧ q = ((ι k).1, (ι k).2 + o)
theorem zip_qs {ι : Lay} {args : List E} : ∀ {ptrs : List Ptr} {p : Ptr} {q : Nat × Nat}, (p, q) ∈ ptrs.zip (qsE ι args ptrs) → p ∈ ptrs ∧ q = qE ι args p
  | [], _, _, h => by simp [qsE] at h
  | p' :: r, p, q, h => by
    simp only [qsE, List.map_cons, List.zip_cons_cons] at h
    cases h with
    | head => exact ⟨List.mem_cons_self .., rfl⟩
    | tail _ h => have := zip_qs h; exact ⟨List.mem_cons_of_mem _ this.1, this.2⟩
theorem okArgs_conc (ρ : Env) (ι : Lay) : ∀ {l : List E}, (l.all fun e => e.noPtr || e.pl.isSome) = true → E.vals ρ ι l = (E.nams ρ ι.p l).map (concE ι.h)
  | [], _ => rfl
  | e :: l, h => by
    simp only [List.all_cons, Bool.and_eq_true, Bool.or_eq_true] at h
    simp only [E.vals, E.nams, List.map_cons]
    rw [okArgs_conc ρ ι h.2]
    congr 1
    rcases h.1 with h1 | h1
    · exact E.val_conc ρ ι ι.p h1
    · cases e <;> simp only [E.pl, Option.isSome_none, Bool.false_eq_true] at h1 <;> exact (concE_plain (h := ι.h) (v := E.val ρ ι _) rfl).symm
theorem ptrs_ok [Kinds] (h : SimAt ρ ι F w0 σ a w) {args : List E} {base : Nat} : ∀ {ptrs : List Ptr} {vs : List E} {hs : List (Nat × List E)}, ptrsE σ args base ptrs = some (vs, hs) →
    Points w ι.h (E.vals ρ ι args) ptrs (E.nams ρ ι.p vs) (qsE ι args ptrs) ∧ ApartQ ptrs (qsE ι args ptrs) ∧ PtrsOk σ ι args base ptrs hs
  | [], vs, hs, hp => by
    unfold ptrsE at hp
    split at hp
    rotate_left
    · cases hp
    rename_i hargs
    cases hp
    exact ⟨⟨okArgs_conc ρ ι hargs, rfl⟩, trivial, ⟨fun _ h => (by cases h), fun _ h => (by cases h), List.nodup_nil, fun _ _ h => (by cases h), fun _ _ h => (by cases h), fun _ _ h => (by simp at h)⟩⟩
  | (pos, n, out) :: r, vs, hs, hp => by
    unfold ptrsE at hp
    split at hp
    · rename_i b o vs' hs' h1 h2
      obtain ⟨i1, i2, i3⟩ := ptrs_ok h h2
      have h1p : (args[pos]?).bind E.pl = some (b, o) := by rw [h1]; rfl
      split at hp
      · rename_i l hl
        split at hp
        · rename_i hle
          obtain ⟨hle, hcells⟩ := hle
          have hq : qsE ι args ((pos, n, out) :: r) = ((ι b).1, (ι b).2 + o) :: qsE ι args r := by simp [qsE, qE, h1p]
          have hvs : E.nams ρ ι.p (vs'.set pos (.agg ((l.drop o).take n))) = (E.nams ρ ι.p vs').set pos (.agg (E.nams ρ ι.p ((l.drop o).take n)).toArray) := by
            simp [E.nams_map, List.map_set, E.nam]
          have hpts : Points w ι.h (E.vals ρ ι args) ((pos, n, out) :: r) (E.nams ρ ι.p (vs'.set pos (.agg ((l.drop o).take n)))) (((ι b).1, (ι b).2 + o) :: qsE ι args r) := by
            refine ⟨none, E.nams ρ ι.p ((l.drop o).take n), E.nams ρ ι.p vs', i1, hvs, ⟨?_, fun c hc => by cases hc⟩, ?_, ?_⟩
            · rw [E.nams_length]; simp; omega
            · rw [E.vals_get, h1]; rfl
            · intro j c hj
              rw [E.nams_get] at hj
              cases hx : ((l.drop o).take n)[j]? with
              | none => simp [hx] at hj
              | some c' =>
                rw [hx] at hj
                simp only [Option.map_some, Option.some.injEq] at hj
                subst hj
                have hok : c'.cellOk = true := List.all_eq_true.1 hcells _ (List.mem_of_getElem? hx)
                simp only [List.getElem?_take, List.getElem?_drop] at hx
                split at hx
                · have := h.cell b l hl (o + j) c' hx
                  rw [← Nat.add_assoc, E.cell_conc ρ ι ι.p hok] at this
                  exact this
                · cases hx
          have hall : ∀ p ∈ (pos, n, out) :: r, ∃ b o l, (args[p.1]?).bind E.pl = some (b, o) ∧ σ.heap.get b = some l ∧ o + p.2.1 ≤ l.length := by
            intro p hp'
            cases hp' with
            | head => exact ⟨b, o, l, h1p, hl, hle⟩
            | tail _ hp' => exact i3.all p hp'
          split at hp
          · -- read only
            split at hp
            · rename_i hne
              cases hp
              rw [hq]
              refine ⟨hpts, ⟨fun p' q' hpq ho he j j' hj hj' => ?_, i2⟩, ⟨hall, i3.key, i3.nodup, fun k l' hk => ?_, fun p p' hp1 hp2 => ?_, fun p q hpq ho => ?_⟩⟩
              · obtain ⟨k, l', o', hk1, hk2, hk3⟩ := i3.back p' q' hpq (by simpa using ho)
                obtain ⟨b2, o2, l2, hb1, hb2, hb3⟩ := i3.all p' (zip_qs hpq).1
                rw [hk2] at hb1
                cases hb1
                have hkb : b ≠ k := fun e => by
                  have := List.all_eq_true.1 hne _ hk1
                  simp [e] at this
                subst hk3
                have := h.apart b k l l2 hl hb2 hkb he (o + j) (o' + j') (by simp only at hj; omega) (by omega)
                simp only
                omega
              · obtain ⟨p, o', l0, f, e1, e2, e3, e4, e5, e6, e7, e8⟩ := i3.out k l' hk
                exact ⟨p, o', l0, f, List.mem_cons_of_mem _ e1, e2, e3, e4, e5, e6, e7, by rw [hq]; exact List.mem_cons_of_mem _ e8⟩
              · cases hp1 with
                | head => intro ho; cases ho
                | tail _ hp1 => cases hp2 with
                  | head => intro _ ho; cases ho
                  | tail _ hp2 => exact i3.uniq p p' hp1 hp2
              · rw [hq] at hpq
                simp only [List.zip_cons_cons] at hpq
                cases hpq with
                | head => cases ho
                | tail _ hpq => exact i3.back p q hpq ho
            · cases hp
          · rename_i f
            split at hp
            · rename_i hc
              obtain ⟨c1, c2, c3, c4⟩ := hc
              cases hp
              rw [hq]
              refine ⟨hpts, ⟨fun p' q' hpq _ he j j' hj hj' => ?_, i2⟩, ⟨hall, fun p hp' => ?_, ?_, fun k l' hk => ?_, fun p p' hp1 hp2 _ _ k o1 o2 ha1 ha2 => ?_, fun p q hpq ho => ?_⟩⟩
              · obtain ⟨b2, o2, l2, hb1, hb2, hb3⟩ := i3.all p' (zip_qs hpq).1
                have hkb : b ≠ b2 := fun e => by
                  have := List.all_eq_true.1 c3 p' (zip_qs hpq).1
                  simp [hb1, e] at this
                have hq' := (zip_qs hpq).2
                simp only [qE, hb1] at hq'
                subst hq'
                have := h.apart b b2 l l2 hl hb2 hkb he (o + j) (o2 + j') (by simp only at hj; omega) (by omega)
                simp only
                omega
              · cases hp' with
                | head => exact c4
                | tail _ hp' => exact i3.key p hp'
              · rw [List.map_cons, List.nodup_cons]
                refine ⟨fun hm => ?_, i3.nodup⟩
                obtain ⟨p, hp', e⟩ := List.mem_map.1 hm
                have := List.all_eq_true.1 c2 p hp'
                simp [e] at this
              · cases hk with
                | head => exact ⟨_, o, l, f, List.mem_cons_self .., h1p, hl, rfl, c1, hle, rfl, by rw [hq]; exact List.mem_cons_self ..⟩
                | tail _ hk =>
                  obtain ⟨p, o', l0, f, e1, e2, e3, e4, e5, e6, e7, e8⟩ := i3.out k l' hk
                  exact ⟨p, o', l0, f, List.mem_cons_of_mem _ e1, e2, e3, e4, e5, e6, e7, by rw [hq]; exact List.mem_cons_of_mem _ e8⟩
              · have hno : ∀ p'' ∈ r, ∀ o'', (args[p''.1]?).bind E.pl = some (b, o'') → False := fun p'' hp'' o'' ha'' => by
                  have := List.all_eq_true.1 c3 p'' hp''
                  simp [ha''] at this
                cases hp1 with
                | head =>
                  cases hp2 with
                  | head => rw [ha1] at ha2; cases ha2; exact ⟨rfl, rfl⟩
                  | tail _ hp2 => simp only [h1p] at ha1; cases ha1; exact (hno _ hp2 _ ha2).elim
                | tail _ hp1 =>
                  cases hp2 with
                  | head => simp only [h1p] at ha2; cases ha2; exact (hno _ hp1 _ ha1).elim
                  | tail _ hp2 => exact i3.uniq p p' hp1 hp2 (by assumption) (by assumption) k o1 o2 ha1 ha2
              · rw [hq] at hpq
                simp only [List.zip_cons_cons] at hpq
                cases hpq with
                | head => exact ⟨b, _, o, List.mem_cons_self .., h1p, rfl⟩
                | tail _ hpq =>
                  obtain ⟨k, l', o', e1, e2, e3⟩ := i3.back p q hpq ho
                  exact ⟨k, l', o', List.mem_cons_of_mem _ e1, e2, e3⟩
            · cases hp
        · cases hp
      · cases hp
    · rename_i b o m c vs' hs' h1 h2
      obtain ⟨i1, i2, i3⟩ := ptrs_ok h h2
      have h1p : (args[pos]?).bind E.pl = some (b, o) := by rw [h1]; rfl
      split at hp
      · rename_i l hl
        split at hp
        · rename_i hc
          obtain ⟨hle, hcells, rfl, hmc, hout, hne⟩ := hc
          cases hp
          obtain rfl : out = none := by simpa using hout
          have hq : qsE ι args ((pos, m, none) :: r) = ((ι b).1, (ι b).2 + o) :: qsE ι args r := by simp [qsE, qE, h1p]
          have hvs : E.nams ρ ι.p (vs'.set pos (.tup ((l.drop o).take m))) = (E.nams ρ ι.p vs').set pos (.tuple (E.nams ρ ι.p ((l.drop o).take m)).toArray) := by
            simp [E.nams_map, List.map_set, E.nam]
          have hpts : Points w ι.h (E.vals ρ ι args) ((pos, m, none) :: r) (E.nams ρ ι.p (vs'.set pos (.tup ((l.drop o).take m)))) (((ι b).1, (ι b).2 + o) :: qsE ι args r) := by
            refine ⟨some c, E.nams ρ ι.p ((l.drop o).take m), E.nams ρ ι.p vs', i1, hvs, ⟨?_, fun c' hc' => by cases hc'; exact hmc⟩, ?_, ?_⟩
            · rw [E.nams_length]; simp; omega
            · rw [E.vals_get, h1]; rfl
            · intro j c hj
              rw [E.nams_get] at hj
              cases hx : ((l.drop o).take m)[j]? with
              | none => simp [hx] at hj
              | some c' =>
                rw [hx] at hj
                simp only [Option.map_some, Option.some.injEq] at hj
                subst hj
                have hok : c'.cellOk = true := List.all_eq_true.1 hcells _ (List.mem_of_getElem? hx)
                simp only [List.getElem?_take, List.getElem?_drop] at hx
                split at hx
                · have := h.cell b l hl (o + j) c' hx
                  rw [← Nat.add_assoc, E.cell_conc ρ ι ι.p hok] at this
                  exact this
                · cases hx
          have hall : ∀ p ∈ (pos, m, (none : Option (Nat → List E))) :: r, ∃ b o l, (args[p.1]?).bind E.pl = some (b, o) ∧ σ.heap.get b = some l ∧ o + p.2.1 ≤ l.length := by
            intro p hp'
            cases hp' with
            | head => exact ⟨b, o, l, h1p, hl, hle⟩
            | tail _ hp' => exact i3.all p hp'
          rw [hq]
          refine ⟨hpts, ⟨fun p' q' hpq ho he j j' hj hj' => ?_, i2⟩, ⟨hall, i3.key, i3.nodup, fun k l' hk => ?_, fun p p' hp1 hp2 => ?_, fun p q hpq ho => ?_⟩⟩
          · obtain ⟨k, l', o', hk1, hk2, hk3⟩ := i3.back p' q' hpq (by simpa using ho)
            obtain ⟨b2, o2, l2, hb1, hb2, hb3⟩ := i3.all p' (zip_qs hpq).1
            rw [hk2] at hb1
            cases hb1
            have hkb : b ≠ k := fun e => by
              have := List.all_eq_true.1 hne _ hk1
              simp [e] at this
            subst hk3
            have := h.apart b k l l2 hl hb2 hkb he (o + j) (o' + j') (by simp only at hj; omega) (by omega)
            simp only
            omega
          · obtain ⟨p, o', l0, f, e1, e2, e3, e4, e5, e6, e7, e8⟩ := i3.out k l' hk
            exact ⟨p, o', l0, f, List.mem_cons_of_mem _ e1, e2, e3, e4, e5, e6, e7, by rw [hq]; exact List.mem_cons_of_mem _ e8⟩
          · cases hp1 with
            | head => intro ho; cases ho
            | tail _ hp1 => cases hp2 with
              | head => intro _ ho; cases ho
              | tail _ hp2 => exact i3.uniq p p' hp1 hp2
          · rw [hq] at hpq
            simp only [List.zip_cons_cons] at hpq
            cases hpq with
            | head => cases ho
            | tail _ hpq => exact i3.back p q hpq ho
        · cases hp
      · cases hp
    · cases hp

theorem ns_ag {ρ' : Env} {n m : Nat} {ns : List C} (h : ρ.ag m ρ') (hm : n ≤ m) (hlt : ns.all (C.lt n) = true) (hn : ∀ c ∈ ns, c.den ρ = true) : ∀ c ∈ ns, c.den ρ' = true := fun c hc => by
  rw [C.den_ag (Env.ag_mono h hm) c (List.all_eq_true.1 hlt c hc)]; exact hn c hc

theorem effX_ok [Kinds] (hC : Cons P cs S) {i : Nat} {o : Oper} (hf : effX P cs nk nv σ i o = some f) (ha : σ.app o.dst f = some σ') (hn : ∀ c ∈ f.ns, c.den ρ = true) (hc : callOk S ρ f.call) (hs : Sim ρ w0 σ a w)
    {Q : Exit → Act → World → Prop} : o.wp P a w (Sim ρ w0 σ') Q := by
  obtain ⟨e1, e2, e3, e4, e5, e6, e7⟩ := app_heap ha
  obtain ⟨ι, F, hι⟩ := hs
  have h0 := hι ρ (Env.ag_refl _ _) ι (σ.agL_refl ρ ι)
  unfold effX at hf
  split at hf
  · cases hf
  · rename_i d ns hop
    split at hf
    · rename_i hlt
      rw [Bool.and_eq_true, decide_eq_true_eq] at hlt
      obtain ⟨hlt, hnv⟩ := hlt
      unfold Oper.wp
      split at hf
      · -- a value
        rename_i e
        cases hf
        have h1 := opX_ok h0.held hop hn
        simp only [Do.does] at h1
        rw [h1, Oper.upon_value]
        simp only [Option.getD_none] at e7
        refine ⟨ι, F, fun ρ' hr ι' hi => ?_⟩
        have h2 := hι ρ' (by rw [← e5]; exact hr) ι' ⟨fun b hb => hi.1 b (by rw [e1]; exact hb), fun n hn => hi.2 n (by rw [e7]; exact hn)⟩
        have h3 := opX_ok h2.held hop (ns_ag hr (by omega) hlt hn)
        simp only [Do.does] at h3
        rw [h1] at h3
        have h4 : e.val ρ ι = e.val ρ' ι' := by injection h3 with h3 _; injection h3
        exact h2.app ha (Fr.refl (fun _ _ => False) w) h4 (fun _ h => by cases h) List.nodup_nil rfl (fun _ _ h => by cases h) (fun _ _ h => by cases h) (fun _ _ _ h => h.elim) (by rw [e7]; exact h2.gho) (fun _ _ h => .inl h) (by rw [e7]; exact Nat.le_refl _) (by rw [e7, e5]; exact h2.glt)
      · -- a new block
        rename_i l t sl
        split at hf
        · rename_i hkey
          simp only [Bool.and_eq_true, decide_eq_true_eq, okKey, Option.isNone_iff_eq_none] at hkey
          obtain ⟨⟨hfree, hk⟩, hnp⟩ := hkey
          cases hf
          have h1 := opX_ok h0.held hop hn
          simp only [Do.does] at h1
          rw [h1, Oper.upon_value]
          have hget : ∀ b, σ'.heap.get b = if b = nk + i then some l else σ.heap.get b := fun b => by
            rw [e1]; unfold setAll setAll; exact Tr.get_set _ _ _ _ hk
          simp only [Option.getD_none] at e7
          refine ⟨⟨fun b => if b = nk + i then (w.heap.size, 0) else ι b, ι.h⟩, F, fun ρ' hr ι' hi => ?_⟩
          have hik : ι' (nk + i) = (w.heap.size, 0) := by rw [hi.1 (nk + i) (by rw [hget, if_pos rfl]; rfl)]; simp
          have h2 := hι ρ' (by rw [← e5]; exact hr) ι' ⟨fun b hb => by
            have hne : b ≠ nk + i := fun e => by rw [e, hfree] at hb; cases hb
            rw [hi.1 b (by rw [hget, if_neg hne]; exact hb)]
            simp [hne], fun n hn => hi.2 n (by rw [e7]; exact hn)⟩
          have h3 := opX_ok h2.held hop (ns_ag hr (by omega) hlt hn)
          simp only [Do.does] at h3
          rw [h1] at h3
          have h4 : w.alloc (.cells (E.vals ρ ι l).toArray t) = w.alloc (.cells (E.vals ρ' ι' l).toArray t) := by injection h3
          rw [h4]
          exact h2.lay ha rfl rfl rfl rfl hk hfree hnp hik
        · cases hf
      · -- a store
        rename_i b o' c
        split at hf
        · rename_i l hl
          split at hf
          · rename_i hk
            simp only [okKey, decide_eq_true_eq] at hk
            cases hf
            have h1 := opX_ok h0.held hop hn
            simp only [Do.does] at h1
            obtain ⟨h1, l', hl', hle⟩ := h1
            rw [hl] at hl'
            cases hl'
            rw [h1, Oper.upon_skip]
            simp only [Option.getD_none] at e7
            refine ⟨ι, F, fun ρ' hr ι' hi => ?_⟩
            have h2 := hι ρ' (by rw [← e5]; exact hr) ι' ⟨fun k hb => hi.1 k (by
              rw [e1]
              unfold setAll setAll
              rw [Tr.get_set _ _ _ _ hk]
              split
              · rfl
              · exact hb), fun n hn => hi.2 n (by rw [e7]; exact hn)⟩
            have h3 := opX_ok h2.held hop (ns_ag hr (by omega) hlt hn)
            simp only [Do.does] at h3
            have h3 := h3.1
            rw [h1] at h3
            have h4 : w.setCells (ι b).1 ((ι b).2 + o') (E.vals ρ ι c) = w.setCells (ι' b).1 ((ι' b).2 + o') (E.vals ρ' ι' c) := by injection h3
            rw [h4]
            refine h2.app ha (Fr.setCells w _ _ _) rfl (fun p hp => ?_) (by simp) rfl (fun k l' hm => ?_) (fun k l' hm j x hj => ?_) (fun y x _ hx => .inl ?_)
              (by rw [e7]; exact h2.keepG (Fr.setCells w _ _ _) fun y x _ hx => by obtain ⟨hx1, hx2, hx3⟩ := hx; rw [E.vals_length] at hx3; exact ⟨b, l, hl, hx1, by omega, by omega⟩) (fun _ _ h => .inl h) (by rw [e7]; exact Nat.le_refl _) (by rw [e7, e5]; exact h2.glt)
            · simp only [List.mem_singleton] at hp; subst hp; exact hk
            · simp only [List.mem_singleton] at hm; cases hm; exact ⟨l, hl, (over_length _ _ _ hle).symm⟩
            · simp only [List.mem_singleton] at hm
              cases hm
              rw [over_get _ _ _ hle] at hj
              split at hj
              · rename_i hw
                have hlen : j - o' < (E.vals ρ' ι' c).length := by rw [E.vals_length]; omega
                have := World.cell?_setCells_in (ι' b).1 (E.vals ρ' ι' c) ((ι' b).2 + o') w (fun q hq => by
                  rw [E.vals_length] at hq
                  have hb : o' + q < l.length := by omega
                  have := (h2.cell b l hl (o' + q) _ (List.getElem?_eq_getElem hb)).1
                  rw [← Nat.add_assoc] at this
                  rw [this]
                  rfl) (j - o') hlen
                rw [show (ι' b).2 + o' + (j - o') = (ι' b).2 + j by omega] at this
                rw [this]
                have h5 : (E.vals ρ' ι' c)[j - o']? = some (x.val ρ' ι') := by rw [E.vals_get, hj]; rfl
                rw [List.getElem?_eq_getElem hlen] at h5
                exact h5
              · rename_i hw
                rw [World.cell?_setCells_out]
                · exact (h2.cell b l hl j x hj).1
                · intro _ _
                  rw [E.vals_length]
                  simp only
                  omega
            · obtain ⟨hx1, hx2, hx3⟩ := hx
              rw [E.vals_length] at hx3
              exact ⟨b, _, l, List.mem_singleton.2 rfl, hl, hx1, by omega, by omega⟩
          · cases hf
        · cases hf
      · -- a call
        rename_i fid args
        split at hf
        · rename_i ci con hfind
          obtain ⟨_, hcon, hfn⟩ := findCon_spec hfind
          split at hf
          · rename_i vs hs' hptr
            split at hf
            · rename_i hvs
              simp only [Bool.and_eq_true, decide_eq_true_eq] at hvs
              obtain ⟨⟨hvs1, hvs2⟩, hfb⟩ := hvs
              cases hf
              obtain ⟨s, e0, hs1, hs2, hs3⟩ := hc
              have hT := (Cons.at_ hC hcon hs1).1.1 (by rw [hfn]; exact hfb)
              have h1 := opX_ok h0.held hop hn
              simp only [Do.does] at h1
              rw [h1, Oper.upon_enter]
              obtain ⟨p1, p2, p3⟩ := ptrs_ok h0 hptr
              have hs2' : s (withV con (E.nams ρ ι.p vs) (ρ.g σ.gh)) e0 := by
                show s (withV con (E.nams ρ ι.p vs) (ρ.g σ.gh)) e0
                rw [E.vals_nam ρ ι.p (fun _ => (0, 0)) hvs2]
                unfold withE at hs2
                unfold withV
                split at hs2
                · rename_i e; rw [if_pos e]; exact hs2
                · rename_i e
                  rw [if_neg e]
                  have : E.nams ρ lay0 (vs ++ [.var σ.gh]) = E.nams ρ lay0 vs ++ [ρ.g σ.gh] := by
                    simp only [E.nams_map, List.map_append, List.map_cons, List.map_nil, E.nam]
                    rfl
                  rw [this] at hs2
                  exact hs2
              have hfoot : FootQ F con.ptrs (qsE ι args con.ptrs) := by
                intro p q hz j hj hF
                obtain ⟨b, o', l, a1, a2, a3⟩ := p3.all p (zip_qs hz).1
                have hq := (zip_qs hz).2
                simp only [qE, a1] at hq
                subst hq
                refine h0.gap b l a2 (o' + j) (by omega) ?_
                rw [← Nat.add_assoc]
                exact hF
              have hpts : ∀ h' : Nat → OneV, (h' = ι.h ∨ (con.gh ≠ 0 ∧ ∀ n, n < Kinds.cnt (ρ.g σ.gh) → h' n = ι.h n)) → Points w h' (E.vals ρ ι args) con.ptrs (E.nams ρ ι.p vs) (qsE ι args con.ptrs) := by
                rintro h' (rfl | ⟨_, hh⟩)
                · exact p1
                · have h2 := hι ρ (Env.ag_refl _ _) ⟨ι.p, h'⟩ ⟨fun _ _ => rfl, hh⟩
                  have h3 := opX_ok h2.held hop hn
                  simp only [Do.does] at h3
                  rw [h1] at h3
                  have h4 : E.vals ρ ι args = E.vals ρ ⟨ι.p, h'⟩ args := by
                    injection h3 with h3 _
                    injection h3 with _ h3
                    exact congrArg Array.toList h3
                  rw [h4]
                  exact (ptrs_ok h2 hptr).1
              have hcall := hT w _ _ _ e0 ι.h F _ hpts p2 (fun _ => ⟨h0.gho, hfoot⟩) hs2'
              rw [hfn] at hcall
              refine hcall.mono fun e w' hpost => ?_
              obtain ⟨h', F', hG, hpost⟩ := hpost
              have hret := (hpost ρ _ hs3).1 ⟨ι.p, h'⟩ fun _ _ => rfl
              subst hret
              simp only
              have hgets : ∀ b, (σ.heap.get b).isSome → (σ'.heap.get b).isSome := fun b hb => by
                rw [e1]
                by_cases hin : ∃ l', (b, l') ∈ hs'
                · obtain ⟨l', hl'⟩ := hin
                  rw [get_setAll_in _ _ _ _ p3.key p3.nodup hl']
                  rfl
                · rw [get_setAll_out _ _ _ p3.key (fun p hp e => hin ⟨p.2, by rw [← e]; exact hp⟩)]
                  exact hb
              have hout : ∀ y x, OutS con.ptrs (qsE ι args con.ptrs) y x → ∃ k l l4, (k, l) ∈ hs' ∧ σ.heap.get k = some l4 ∧ y = (ι k).1 ∧ (ι k).2 ≤ x ∧ x < (ι k).2 + l4.length := by
                rintro y x ⟨p, q, hz, ho, hx1, hx2, hx3⟩
                obtain ⟨k, l, o', b1, b2, b3⟩ := p3.back p q hz ho
                obtain ⟨b, o4, l4, b5, b6, b7⟩ := p3.all p (zip_qs hz).1
                rw [b2] at b5
                cases b5
                subst b3
                simp only at hx1 hx2 hx3
                exact ⟨k, l, l4, b1, b6, hx1, by omega, by omega⟩
              have hge0 : ∀ ρ', ρ.ag σ.nv ρ' → ρ'.g (nv + i * stride + gv) = e0.g gv := fun ρ' hr => by
                unfold Env.g
                rw [((hs3.ag hr (by omega)) gv (by decide)).2.2]
              -- what is said of the store
              obtain ⟨F2, hfr, hG1, hG2, hG3, hG4, hG5, hG6⟩ : ∃ F2 : Foot, Fr (fun y x => OutS con.ptrs (qsE ι args con.ptrs) y x ∨ F y x) w w' ∧ (∀ n, n < Kinds.cnt (ρ.g σ.gh) → h' n = ι.h n) ∧
                  (∀ ρ', ρ.ag σ.nv ρ' → ∀ ι' : Lay, (∀ n, n < Kinds.cnt (ρ.g σ'.gh) → ι'.h n = h' n) → Kinds.holds w' ι'.h F2 (ρ'.g σ'.gh)) ∧ (∀ y x, F2 y x → F y x ∨ w.heap.size ≤ y) ∧ Kinds.cnt (ρ.g σ.gh) ≤ Kinds.cnt (ρ.g σ'.gh) ∧ σ'.gh < σ'.nv ∧ (∀ y x, y < w.heap.size → F y x → OutS con.ptrs (qsE ι args con.ptrs) y x → False) := by
                have hno : ∀ y x, y < w.heap.size → F y x → OutS con.ptrs (qsE ι args con.ptrs) y x → False := fun y x _ hF hx => by
                  obtain ⟨k, l, l4, _, b6, b7, b8, b9⟩ := hout y x hx
                  refine h0.gap k l4 b6 (x - (ι k).2) (by omega) ?_
                  rw [← b7, show (ι k).2 + (x - (ι k).2) = x by omega]
                  exact hF
                unfold GPost at hG
                simp only [ghOf] at e7
                by_cases h2g : con.gh = 2
                · rw [if_pos (by simpa using h2g)] at hG
                  rw [if_pos h2g, Option.getD_some] at e7
                  obtain ⟨g1, g2, g3, g4, g5⟩ := hG
                  have hself := hge0 ρ (Env.ag_refl _ _)
                  refine ⟨F', g1, g5, fun ρ' hr ι' hh => ?_, g3, by rw [e7, hself]; exact g4, by rw [e7, e5]; unfold gv stride at *; omega, hno⟩
                  rw [e7, hge0 ρ' hr]
                  rw [e7, hself] at hh
                  exact Kinds.same g2 hh
                · rw [if_neg (by simpa using h2g)] at hG
                  rw [if_neg h2g, Option.getD_none] at e7
                  obtain ⟨g1, g2⟩ := hG
                  subst g2
                  refine ⟨F, g1.mono fun _ _ _ h => .inl h, fun _ _ => rfl, fun ρ' hr ι' hh => ?_, fun _ _ h => .inl h, by rw [e7]; exact Nat.le_refl _, by rw [e7, e5]; exact h0.glt, hno⟩
                  rw [e7, Env.ag_g hr h0.glt]
                  rw [e7] at hh
                  exact Kinds.same (h0.keepG g1 fun y x hy hx => by obtain ⟨k, l, l4, _, b6, b7⟩ := hout y x hx; exact ⟨k, l4, b6, b7⟩) hh
              refine ⟨⟨ι.p, h'⟩, F2, fun ρ' hr ι' hi => ?_⟩
              have hi0 : σ.agL ρ ι ι' := ⟨fun b hb => hi.1 b (hgets b hb), fun n hn => (hi.2 n (Nat.lt_of_lt_of_le hn hG4)).trans (hG1 n hn)⟩
              have h2 := hι ρ' (by rw [← e5]; exact hr) ι' hi0
              have hpost' := hpost ρ' _ (hs3.ag hr (by omega))
              have hA : AgH con.gh (ρ.g σ.gh) (e0.g gv) h' ι' := by
                intro n hn
                split at hn
                · omega
                · split at hn
                  · rename_i h2g
                    have e7' : σ'.gh = nv + i * stride + gv := by simpa only [ghOf, if_pos h2g, Option.getD_some] using e7
                    exact hi.2 n (by rw [e7', hge0 ρ (Env.ag_refl _ _)]; exact hn)
                  · exact hi.2 n (Nat.lt_of_lt_of_le hn hG4)
              have hv : (con.res (nv + i * stride)).val ρ ⟨ι.p, h'⟩ = (con.res (nv + i * stride)).val ρ' ι' := by
                have := hpost'.1 ι' hA
                injection this
              refine h2.app ha hfr hv p3.key p3.nodup rfl (fun k l hm => ?_) (fun k l hm j x hj => ?_) (fun y x hy hx => ?_) (hG2 ρ' (by rw [← e5]; exact hr) ι' hi.2) hG3 ?_ hG5
              · obtain ⟨p, o', l0, g, _, _, g3, _, g5, g6, g7, _⟩ := p3.out k l hm
                exact ⟨l0, g3, by rw [g7, over_length _ _ _ (by omega)]⟩
              · obtain ⟨p, o', l0, g, g1, g2, g3, g4, g5, g6, g7, g8⟩ := p3.out k l hm
                have hk : ι' k = ι k := hi0.1 k (by rw [g3]; rfl)
                subst g7
                rw [over_get _ _ _ (by omega)] at hj
                rw [hk]
                split at hj
                · rename_i hw
                  have := hpost'.2 p _ g g8 g4 ι' hA (j - o') x hj
                  simp only at this
                  rw [show (ι k).2 + o' + (j - o') = (ι k).2 + j by omega] at this
                  exact this
                · rename_i hw
                  have hj0 : j < l0.length := (List.getElem?_eq_some_iff.1 hj).1
                  have hcell' := (h2.cell k l0 g3 j x hj).1
                  rw [hk] at hcell'
                  have hno : ¬ (OutS con.ptrs (qsE ι args con.ptrs) (ι k).1 ((ι k).2 + j) ∨ F (ι k).1 ((ι k).2 + j)) := by
                    rintro (⟨p', q', hz, ho, hy1, hy2, hy3⟩ | hF)
                    · obtain ⟨k', l', o2, b1, b2, b3⟩ := p3.back p' q' hz ho
                      obtain ⟨b4, o4, l4, b5, b6, b7⟩ := p3.all p' (zip_qs hz).1
                      rw [b2] at b5
                      cases b5
                      subst b3
                      simp only at hy1 hy2 hy3
                      by_cases e : k = k'
                      · subst e
                        have hu := p3.uniq p p' g1 (zip_qs hz).1 (by rw [g4]; rfl) ho k o' _ g2 b2
                        rename_i hw
                        apply hw
                        rw [g5]
                        omega
                      · exact h0.apart k k' l0 l4 g3 b6 e hy1 j ((ι k).2 + j - (ι k').2) hj0 (by omega) (by omega)
                    · exact h0.gap k l0 g3 j hj0 hF
                  rw [hfr.cell _ _ (cell_lt h0 g3 hj0) hno]
                  exact hcell'
              · rcases hx with hx | hx
                · obtain ⟨k, l, l4, b1, b2, b3, b4, b5⟩ := hout y x hx
                  have hk : ι' k = ι k := hi0.1 k (by rw [b2]; rfl)
                  exact .inl ⟨k, l, l4, b1, b2, by rw [hk]; exact b3, by rw [hk]; exact b4, by rw [hk]; exact b5⟩
                · exact .inr hx
              · rw [Env.ag_g hr (by rw [e5]; exact h0.glt), Env.ag_g hr hG5]
                exact hG4
            · cases hf
          · cases hf
        · cases hf
    · cases hf
theorem vals_store (ρ : Env) (σ : St) (vs : List E) : E.nams ρ lay0 (vs ++ [.var σ.gh]) = E.nams ρ lay0 vs ++ [ρ.g σ.gh] := by
  simp only [E.nams_map, List.map_append, List.map_cons, List.map_nil, E.nam]
  rfl
theorem primE_ok [Kinds] (hC : Cons P cs S) {i : Nat} {o : Oper} (hf : primE cs nv σ i o = some f) (ha : σ.app o.dst f = some σ') (hc : callOk S ρ f.call) (hs : Sim ρ w0 σ a w)
    {Q : Exit → Act → World → Prop} : o.wp P a w (Sim ρ w0 σ') Q := by
  obtain ⟨e1, e2, e3, e4, e5, e6, e7⟩ := app_heap ha
  obtain ⟨ι, F, hι⟩ := hs
  have h0 := hι ρ (Env.ag_refl _ _) ι (σ.agL_refl ρ ι)
  unfold primE at hf
  split at hf
  · cases hf
  · rename_i key hkey
    split at hf
    · rename_i ci con vs hfind hops
      obtain ⟨_, hcon, hfn⟩ := findCon_spec hfind
      split at hf
      · rename_i hcond
        simp only [Bool.and_eq_true, decide_eq_true_eq] at hcond
        obtain ⟨⟨⟨⟨⟨c1, c2⟩, c3⟩, c4⟩, c5⟩, c6⟩ := hcond
        cases hf
        obtain ⟨s, e0, hs1, hs2, hs3⟩ := hc
        have hkp : primBase ≤ con.fn := by
          rw [hfn]
          unfold primKey at hkey
          repeat' first
            | (cases hkey; done)
            | (split at hkey)
            | (simp only [Option.some.injEq] at hkey; subst hkey; exact Nat.le_add_right _ _)
        have hT := (Cons.at_ hC hcon hs1).1.2 hkp
        rw [vals_store] at hs2
        have hargs : ∀ h' : Nat → OneV, (∀ n, n < Kinds.cnt (ρ.g σ.gh) → h' n = ι.h n) → o.op.operands.toList.map a.eval = (E.nams ρ lay0 vs).map (concE h') := fun h' hh => by
          rw [(hι ρ (Env.ag_refl _ _) ⟨ι.p, h'⟩ ⟨fun _ _ => rfl, hh⟩).held.opnds hops]; exact E.vals_conc ρ ⟨ι.p, h'⟩ _ c2
        obtain ⟨x, w', hrun, h', F', hG, hpost⟩ := hT o (by rw [hfn]; exact hkey) a w _ e0 ι.h F _ hargs h0.gho hs2
        have hge0 : ∀ ρ', ρ.ag σ.nv ρ' → ρ'.g (nv + i * stride + gv) = e0.g gv := fun ρ' hr => by
          unfold Env.g
          rw [((hs3.ag hr (by omega)) gv (by decide)).2.2]
        obtain ⟨F2, hfr, hG1, hG2, hG3, hG4, hG5⟩ : ∃ F2 : Foot, Fr (fun y x => F y x) w w' ∧ (∀ n, n < Kinds.cnt (ρ.g σ.gh) → h' n = ι.h n) ∧
            (∀ ρ', ρ.ag σ.nv ρ' → ∀ ι' : Lay, (∀ n, n < Kinds.cnt (ρ.g σ'.gh) → ι'.h n = h' n) → Kinds.holds w' ι'.h F2 (ρ'.g σ'.gh)) ∧ (∀ y x, F2 y x → F y x ∨ w.heap.size ≤ y) ∧ Kinds.cnt (ρ.g σ.gh) ≤ Kinds.cnt (ρ.g σ'.gh) ∧ σ'.gh < σ'.nv := by
          unfold GPost at hG
          simp only [ghOf] at e7
          by_cases h2g : con.gh = 2
          · rw [if_pos (by simpa using h2g)] at hG
            rw [if_pos h2g, Option.getD_some] at e7
            obtain ⟨g1, g2, g3, g4, g5⟩ := hG
            have hself := hge0 ρ (Env.ag_refl _ _)
            refine ⟨F', g1.mono fun _ _ _ h => h.resolve_left id, g5, fun ρ' hr ι' hh => ?_, g3, by rw [e7, hself]; exact g4, by rw [e7, e5]; unfold gv stride at *; omega⟩
            rw [e7, hge0 ρ' hr]
            rw [e7, hself] at hh
            exact Kinds.same g2 hh
          · rw [if_neg (by simpa using h2g)] at hG
            rw [if_neg h2g, Option.getD_none] at e7
            obtain ⟨g1, g2⟩ := hG
            subst g2
            refine ⟨F, g1.mono fun _ _ _ h => h.elim, fun _ _ => rfl, fun ρ' hr ι' hh => ?_, fun _ _ h => .inl h, by rw [e7]; exact Nat.le_refl _, by rw [e7, e5]; exact h0.glt⟩
            rw [e7, Env.ag_g hr h0.glt]
            rw [e7] at hh
            exact Kinds.same (h0.keepG g1 fun y x hy hx => hx.elim) hh
        have hval := hpost ρ _ hs3 ⟨ι.p, h'⟩ fun _ _ => rfl
        have hmain : ∀ v, (∀ ρ', ρ.ag σ'.nv ρ' → ∀ ι', σ'.agL ρ ⟨ι.p, h'⟩ ι' → v = (con.res (nv + i * stride)).val ρ' ι') → Sim ρ w0 σ' (a.put o.dst v) w' := fun v hv => by
          refine ⟨⟨ι.p, h'⟩, F2, fun ρ' hr ι' hi => ?_⟩
          have hi0 : σ.agL ρ ι ι' := ⟨fun b hb => hi.1 b (by rw [e1]; exact hb), fun n hn => (hi.2 n (Nat.lt_of_lt_of_le hn hG4)).trans (hG1 n hn)⟩
          have h2 := hι ρ' (by rw [← e5]; exact hr) ι' hi0
          exact h2.app ha hfr (hv ρ' hr ι' hi) (fun _ h => by cases h) List.nodup_nil rfl (fun _ _ h => by cases h) (fun _ _ h => by cases h) (fun y x _ hx => .inr hx)
            (hG2 ρ' (by rw [← e5]; exact hr) ι' hi.2) hG3 (by rw [Env.ag_g hr (by rw [e5]; exact h0.glt), Env.ag_g hr hG5]; exact hG4) hG5
        have hA : ∀ ι', σ'.agL ρ ⟨ι.p, h'⟩ ι' → AgH con.gh (ρ.g σ.gh) (e0.g gv) h' ι' := fun ι' hi n hn => by
          split at hn
          · omega
          · split at hn
            · rename_i h2g
              have e7' : σ'.gh = nv + i * stride + gv := by simpa only [ghOf, if_pos h2g, Option.getD_some] using e7
              exact hi.2 n (by rw [e7', hge0 ρ (Env.ag_refl _ _)]; exact hn)
            · exact hi.2 n (Nat.lt_of_lt_of_le hn hG4)
        unfold Oper.wp
        rw [hrun]
        rcases hval with hval | ⟨hval, hres⟩
        · subst hval
          rw [Oper.upon_value]
          refine hmain _ fun ρ' hr ι' hi => ?_
          rcases hpost ρ' _ (hs3.ag hr (by rw [e5]; exact c5)) ι' (hA ι' hi) with h | ⟨h, _⟩
          · injection h
          · cases h
        · subst hval
          rw [Oper.upon_skip]
          refine hmain _ fun ρ' hr ι' hi => ?_
          rw [hres]
          rfl
      · cases hf
    · cases hf
theorem eff_ok [Kinds] (hC : Cons P cs S) {i : Nat} {o : Oper} (hf : effE P cs nk nv σ i o = some f) (ha : σ.app o.dst f = some σ') (hn : ∀ c ∈ f.ns, c.den ρ = true) (hc : callOk S ρ f.call) (hs : Sim ρ w0 σ a w)
    {Q : Exit → Act → World → Prop} : o.wp P a w (Sim ρ w0 σ') Q := by
  unfold effE at hf
  split at hf
  · rename_i f' h1
    cases hf
    exact primE_ok hC h1 ha hc hs
  · exact effX_ok hC hf ha hn hc hs
end
end Sx
end Go.Proofs.Ytaigdbnfhehclaa

namespace Go.Proofs.Ytaigdbnfhehclaa
namespace Sx
open Go.RowKit

section
variable {P : Program} {cs : List Con} {S : List ConS} {ops : Array Oper} {nk nv : Nat} {ρ : Env} {ι : Lay} {w0 : Base} {σ σ' : St} {a : Act} {w w' : World} {dst : Option Tmp} {f : Eff}

/-- What the operation i is about to do. -/
def pickE (P : Program) (cs : List Con) (ops : Array Oper) (nk nv : Nat) (i : Nat) (σ : St) : Option (Option Tmp × Eff) := match ops[i]? with
  | none => some (none, skipEff)
  | some o => match guardE ops σ o with
    | none => none
    | some c => match c.simp σ.pc with
      | .lit true => match effE P cs nk nv σ i o with
        | some f => some (o.dst, f)
        | none => none
      | .lit false => some (o.dst, skipEff)
      | _ => none
theorem app_skip (σ : St) : σ.app none skipEff = some σ := rfl
theorem stepE_ok {i : Nat} {ns : List C} {ca : Option (Nat × Nat × List E)} : stepE P cs ops nk nv i σ = .ok ns ca σ' ↔ ∃ d f, pickE P cs ops nk nv i σ = some (d, f) ∧ σ.app d f = some σ' ∧ f.ns = ns ∧ f.call = ca := by
  unfold stepE pickE
  constructor
  · intro h
    split at h
    · rename_i ho; cases h; exact ⟨none, skipEff, by simp [ho], app_skip σ, rfl, rfl⟩
    · rename_i o ho
      simp only [ho]
      split at h
      · cases h
      · rename_i c hg
        simp only [hg]
        split at h
        · rename_i hc
          simp only [hc]
          split at h
          · rename_i f hf
            simp only [hf]
            split at h
            · rename_i σ'' ha; cases h; exact ⟨_, _, rfl, ha, rfl, rfl⟩
            · cases h
          · split at h
            · split at h <;> cases h
            · split at h <;> cases h
            · cases h
        · rename_i hc
          simp only [hc]
          split at h
          · rename_i σ'' ha; cases h; exact ⟨_, _, rfl, ha, rfl, rfl⟩
          · cases h
        · cases h
  · rintro ⟨d, f, hp, ha, rfl, rfl⟩
    split at hp
    · rename_i ho; cases hp; simp only [ho]; rw [app_skip] at ha; cases ha; rfl
    · rename_i o ho
      simp only [ho]
      split at hp
      · cases hp
      · rename_i c hg
        simp only [hg]
        split at hp
        · rename_i hc
          simp only [hc]
          split at hp
          · rename_i f hf
            cases hp
            simp only [hf, ha]
          · cases hp
        · rename_i hc
          cases hp
          simp only [hc, ha]
          rfl
        · cases hp

theorem step_ok [Kinds] (hC : Cons P cs S) {i : Nat} (h : A P cs S ops nk nv ρ i σ σ') (hs : Sim ρ w0 σ a w) {Q : Exit → Act → World → Prop} : wpOp P ops Q i (Sim ρ w0 σ') a w := by
  obtain ⟨ns, ca, hst, hns, hca⟩ := h
  unfold stepE at hst
  unfold wpOp
  split at hst
  · rename_i ho; cases hst; simp only [ho]; exact hs
  · rename_i o ho
    simp only [ho]
    obtain ⟨ι, F, hι⟩ := hs
    have h0 := hι ρ (Env.ag_refl _ _) ι (σ.agL_refl ρ ι)
    split at hst
    · cases hst
    · rename_i c hg
      have hw := guard_ok h0.held hg
      have hd := C.den_simp h0.pc c
      split at hst
      · rename_i hc
        rw [hc] at hd
        simp only [C.den] at hd
        rw [← hd] at hw
        rw [if_pos hw]
        split at hst
        · rename_i f hf
          split at hst
          · rename_i σ'' ha
            cases hst
            exact .inl (eff_ok hC hf ha hns hca ⟨ι, F, hι⟩)
          · cases hst
        · split at hst
          · split at hst <;> cases hst
          · split at hst <;> cases hst
          · cases hst
      · rename_i hc
        rw [hc] at hd
        simp only [C.den] at hd
        rw [← hd] at hw
        rw [if_neg (by rw [hw]; decide)]
        split at hst
        · rename_i σ'' ha
          cases hst
          obtain ⟨e1, e2, e3, e4, e5, e6, e7⟩ := app_heap ha
          simp only [skipEff, Option.getD_none] at e7
          refine ⟨ι, F, fun ρ' hr ι' hi => ?_⟩
          have h2 := hι ρ' (by rw [← e5]; exact hr) ι' ⟨fun b hb => hi.1 b (by rw [e1]; exact hb), fun n hn => hi.2 n (by rw [e7]; exact hn)⟩
          exact h2.app ha (Fr.refl (fun _ _ => False) w) rfl (fun _ h => by cases h) List.nodup_nil rfl (fun _ _ h => by cases h) (fun _ _ h => by cases h) (fun _ _ _ h => h.elim) (by rw [e7]; exact h2.gho) (fun _ _ h => .inl h) (by rw [e7]; exact Nat.le_refl _) (by rw [e7, e5]; exact h2.glt)
        · cases hst
      · cases hst

/-- What can be told of a step is what some run comes to. -/
theorem wpOp_some {i : Nat} {K : Act → World → Prop} (h : wpOp P ops (fun _ _ _ => False) i K a w) : ∃ a' w', K a' w' := by
  unfold wpOp at h
  split at h
  · exact ⟨_, _, h⟩
  · split at h
    · rcases h with h | ⟨_, _, _, h⟩
      · unfold Oper.wp at h
        generalize (execOp a.eval ‹_›).run P w = r at h
        cases r with
        | ok n w' =>
          cases n <;> simp only [Oper.upon] at h <;> first
            | exact ⟨_, _, h⟩
            | (obtain ⟨e, w'', fr, hR, _⟩ := h []
               cases e with
               | returned v => exact ⟨_, _, hR⟩
               | panicked c => exact hR.elim
               | outgrown => obtain ⟨_, _, h⟩ := hR; exact h.elim)
            | (obtain ⟨v, w'', hR, _⟩ := h default []; exact ⟨_, _, hR⟩)
            | exact h.elim
        | halt x w' => cases x <;> simp only [Oper.upon] at h
      · exact h.elim
    · exact ⟨_, _, h⟩
/-- Some run comes to it. -/
def Real [Kinds] (ρ : Env) (σ : St) : Prop := ∃ w0 a w, Sim ρ w0 σ a w
theorem Real.step [Kinds] (hC : Cons P cs S) {i : Nat} (h : A P cs S ops nk nv ρ i σ σ') (hs : Real ρ σ) : Real ρ σ' := by
  obtain ⟨w0, a, w, hs⟩ := hs
  obtain ⟨a', w', h'⟩ := wpOp_some (step_ok hC h hs)
  exact ⟨w0, a', w', h'⟩
theorem Real.no_dangling [Kinds] (h : Real ρ σ) {x : Operand} {e : E} (hx : σ.opnd x = some e) {b : Nat} (hb : b ∈ e.pts) : (σ.heap.get b).isSome := by
  obtain ⟨_, _, _, h⟩ := h
  exact h.no_dangling hx hb

/-- How an operation touches blocks: 0: not at all; 1: it reads; 2: it writes; 3: it lays one. -/
def clsE (cs : List Con) : Op → Nat
  | .load _ _ => 1
  | .store _ _ _ => 2
  | .alloc _ => 3
  | .box _ _ => 3
  | .buildSlice _ _ _ => 3
  | .makeSlice _ _ _ => 3
  | .call c => match c.callee with
    | .builtin _ => 0
    | .value (.func f) => match findCon cs 0 f with
      | some (_, c) => if c.ptrs.isEmpty then 0 else if c.ptrs.all (fun p => p.2.2.isNone) then 1 else 2
      | none => 2
    | _ => 2
  | _ => 0

/-- The contract that an operation comes to. -/
def conOf (cs : List Con) (op : Op) : Option Con := match primKey op with
  | some k => (findCon cs 0 k).map (·.2)
  | none => match op with
    | .call c => match c.callee with
      | .value (.func f) => (findCon cs 0 f).map (·.2)
      | _ => none
    | _ => none
def farOp : Op → Bool
  | .call c => match c.callee with
    | .value (.func _) => false
    | .value _ => true
    | _ => false
  | _ => false
/-- Does it ask the store? Does it turn it? -/
def gR (cs : List Con) (op : Op) : Bool := farOp op || (match conOf cs op with | some c => c.gh != 0 | none => false)
def gW (cs : List Con) (op : Op) : Bool := farOp op || (match conOf cs op with | some c => c.gh == 2 | none => false)
/-- How far what it asks stays; how it lets the store grow. -/
def rdOf (cs : List Con) (op : Op) : Nat := match primKey op with
  | some k => match findCon cs 0 k with | some (_, c) => c.rd | none => 0
  | none => 0
def wrOf (cs : List Con) (op : Op) : Nat := if farOp op then 0 else match conOf cs op with | some c => c.wr | none => 0
def stOk (cs : List Con) (om ox : Op) : Bool := !gW cs om || (!gW cs ox && (!gR cs ox || (decide (wrOf cs om ≠ 0) && decide (wrOf cs om ≤ rdOf cs ox))))
theorem opnds_congr {τ : St} : ∀ {l : List Operand}, (∀ x ∈ l, τ.opnd x = σ.opnd x) → τ.opnds l = σ.opnds l
  | [], _ => rfl
  | x :: l, h => by unfold St.opnds; rw [h x (List.mem_cons_self ..), opnds_congr fun y hy => h y (List.mem_cons_of_mem _ hy)]
theorem parts_congr {τ : St} : ∀ {l : List (Nat × Operand)}, (∀ p ∈ l, τ.opnd p.2 = σ.opnd p.2) → τ.parts l = σ.parts l
  | [], _ => rfl
  | (i, x) :: l, h => by unfold St.parts; rw [h (i, x) (List.mem_cons_self ..), parts_congr fun y hy => h y (List.mem_cons_of_mem _ hy)]
theorem lits_congr {τ : St} : ∀ {l : List Operand}, (∀ x ∈ l, τ.opnd x = σ.opnd x) → litsOf τ l = litsOf σ l
  | [], _ => rfl
  | x :: l, h => by unfold litsOf litOf; rw [h x (List.mem_cons_self ..), lits_congr fun y hy => h y (List.mem_cons_of_mem _ hy)]
/-- The blocks that an operation may ask are the same. -/
def Touch (cs : List Con) (o : Oper) (σ τ : St) : Prop := ((clsE cs o.op = 1 ∨ clsE cs o.op = 2) → ∀ x e b, σ.opnd x = some e → x ∈ o.op.operands → b ∈ e.pts → τ.heap.get b = σ.heap.get b)

theorem opE_congr {τ : St} {o : Oper} (hx : ∀ x ∈ o.op.operands, τ.opnd x = σ.opnd x) (hp : τ.pc = σ.pc) (ht : Touch cs o σ τ) : opE P τ o = opE P σ o := by
  obtain ⟨dst, op, ty, pos, after, guard⟩ := o
  cases op <;> simp only [Op.operands] at hx <;> simp only [opE]
  case move x => rw [hx x (by simp)]
  case assign x => rw [hx x (by simp)]
  case pick c x y => rw [hx c (by simp), hx x (by simp), hx y (by simp), hp]
  case box t x => rw [hx x (by simp)]
  case build t ps =>
    have h1 : τ.parts ps.toList = σ.parts ps.toList := parts_congr fun p hp => hx p.2 (by
      simp only [List.mem_toArray, List.mem_map]
      exact ⟨p, hp, rfl⟩)
    rw [h1]
  case load t x =>
    rw [hx x (by simp)]
    cases hq : σ.opnd x with
    | none => rfl
    | some e => cases e <;> first | rfl | (simp only; rw [ht (.inl rfl) x _ _ hq (by simp [Op.operands]) (by simp [E.pts])])
  case store t x y =>
    rw [hx x (by simp), hx y (by simp)]
    cases hq : σ.opnd x with
    | none => rfl
    | some e => cases σ.opnd y <;> cases e <;> first | rfl | (simp only; rw [ht (.inr rfl) x _ _ hq (by simp [Op.operands]) (by simp [E.pts])])
  case nilCheck x => rw [hx x (by simp)]
  case binOp b t x y t2 =>
    rw [hx x (by simp), hx y (by simp)]
  case unOp b t x => rw [hx x (by simp)]
  case convert s d x => rw [hx x (by simp)]
  case makeInterface t x => rw [hx x (by simp)]
  case makeFunc fn fi ca =>
    have h1 : τ.opnds ca.toList = σ.opnds ca.toList := opnds_congr fun x h => hx x (Array.mem_append_right _ (by simpa using h))
    rw [h1]
  case fieldAddr s x f => rw [hx x (by simp)]
  case field t x f => rw [hx x (by simp)]
  case indexAddr t x i => rw [hx x (by simp), hx i (by simp)]
  case index t x i => rw [hx x (by simp), hx i (by simp)]
  case extract x i => rw [hx x (by simp)]
  case call c =>
    rw [opnds_congr fun x h => hx x (by simp only [Call.operands]; exact Array.mem_append_right _ (by simpa using h))]
    cases hc : c.callee with
    | value f =>
      have hf := hx f (by simp [Call.operands, hc])
      cases σ.opnds c.args.toList with
      | none => rfl
      | some as => simp only [hf]
    | invoke r m => cases σ.opnds c.args.toList <;> rfl
    | builtin b => cases σ.opnds c.args.toList <;> cases b <;> rfl
theorem opLit_congr {τ : St} {o : Oper} (hx : ∀ x ∈ o.op.operands, τ.opnd x = σ.opnd x) : opLit P τ o = opLit P σ o := by
  unfold opLit
  split
  · rfl
  · rw [lits_congr fun x h => hx x (by simpa using h)]
theorem boundE_congr {τ : St} {d : Nat} {x : Option Operand} (h : ∀ y, x = some y → τ.opnd y = σ.opnd y) : boundE τ d x = boundE σ d x := by
  cases x with
  | none => rfl
  | some y => simp only [boundE]; rw [h y rfl]
theorem opS_congr {τ : St} {o : Oper} (hx : ∀ x ∈ o.op.operands, τ.opnd x = σ.opnd x) (ht : Touch cs o σ τ) : opS P τ o = opS P σ o := by
  obtain ⟨dst, op, ty, pos, after, guard⟩ := o
  cases op <;> simp only [Op.operands] at hx <;> simp only [opS]
  case buildSlice t len ps =>
    have h1 : τ.parts ps.toList = σ.parts ps.toList := parts_congr fun p hp => hx p.2 (by
      simp only [List.mem_toArray, List.mem_map]
      exact ⟨p, hp, rfl⟩)
    rw [h1]
  case load t x =>
    rw [hx x (by simp)]
    cases hq : σ.opnd x with
    | none => rfl
    | some e => cases e <;> first | rfl | (simp only; rw [ht (.inl rfl) x _ _ hq (by simp [Op.operands]) (by simp [E.pts])])
  case makeSlice t x i => rw [hx x (by simp), hx i (by simp)]
  case indexAddr t x i => rw [hx x (by simp), hx i (by simp)]
  case binOp b t x y t2 => rw [hx x (by simp), hx y (by simp)]
  case slice t x lo hi mx =>
    cases mx with
    | some m => rfl
    | none =>
      have e1 : ∀ d, boundE τ d lo = boundE σ d lo := fun d => boundE_congr fun y hy => hx y (by subst hy; simp)
      have e2 : ∀ d, boundE τ d hi = boundE σ d hi := fun d => boundE_congr fun y hy => hx y (by subst hy; simp)
      simp only [hx x (by simp), e1, e2]
  case call c =>
    rw [opnds_congr fun x h => hx x (by simp only [Call.operands]; exact Array.mem_append_right _ (by simpa using h))]
    cases hc : c.callee with
    | value f => simp only [hx f (by simp [Call.operands, hc])]
    | invoke r m => rfl
    | builtin b => cases b <;> rfl
theorem opX_congr {τ : St} {o : Oper} (hx : ∀ x ∈ o.op.operands, τ.opnd x = σ.opnd x) (hp : τ.pc = σ.pc) (ht : Touch cs o σ τ) : opX P τ o = opX P σ o := by
  unfold opX
  rw [opE_congr hx hp ht, opS_congr hx ht, opLit_congr hx]
theorem opX_call {o : Oper} {fid : FuncId} {args : List E} {ns : List C} (h : opX P σ o = some (.call fid args, ns)) : ∃ c as l f, o.op = .call c ∧ c.callee = .value f ∧ σ.opnds c.args.toList = some as ∧ σ.opnd f = some (.func (.func fid) l) ∧ args = as ++ l := by
  unfold opX at h
  split at h
  · rename_i r hr
    cases h
    unfold opE at hr
    split at hr
    all_goals try (cases hr; done)
    all_goals first
      | (rename_i c hc
         split at hr
         · rename_i f as h1 h2
           split at hr
           · rename_i fid' l h3
             split at hr
             · cases hr; exact ⟨c, as, l, f, hc, h1, h2, h3, rfl⟩
             · cases hr
           · cases hr
         · split at hr <;> cases hr
         · split at hr <;> cases hr
         · cases hr)
      | (exfalso; repeat' (first | (cases hr; done) | split at hr))
  · split at h
    · rename_i r hr
      cases h
      unfold opS at hr
      exfalso
      repeat' (first | (cases hr; done) | split at hr)
    · split at h <;> cases h
theorem opX_store {o : Oper} {b k : Nat} {c : List E} {ns : List C} (h : opX P σ o = some (.store b k c, ns)) : ∃ t x y, o.op = .store t x y ∧ σ.opnd x = some (.ptr b k) := by
  unfold opX at h
  split at h
  · rename_i r hr
    cases h
    unfold opE at hr
    split at hr
    all_goals try (cases hr; done)
    all_goals first
      | (rename_i t x y hc
         split at hr
         · rename_i b' o' e h1 h2
           split at hr
           · split at hr
             · cases hr; exact ⟨t, x, y, hc, h1⟩
             · cases hr
           · cases hr
         · cases hr)
      | (exfalso; repeat' (first | (cases hr; done) | split at hr))
  · split at h
    · rename_i r hr
      cases h
      unfold opS at hr
      exfalso
      repeat' (first | (cases hr; done) | split at hr)
    · split at h <;> cases h
theorem opX_new {o : Oper} {l : List E} {t : TypeId} {sl : Option Nat} {ns : List C} (h : opX P σ o = some (.new l t sl, ns)) : clsE cs o.op = 3 := by
  unfold opX at h
  split at h
  · rename_i r hr
    cases h
    unfold opE at hr
    split at hr
    all_goals try (cases hr; done)
    all_goals first
      | (rename_i hc; rw [hc]; rfl)
      | (exfalso; repeat' (first | (cases hr; done) | split at hr))
  · split at h
    · rename_i r hr
      cases h
      unfold opS at hr
      split at hr
      all_goals try (cases hr; done)
      all_goals first
        | (rename_i hc; rw [hc]; rfl)
        | (exfalso; repeat' (first | (cases hr; done) | split at hr))
    · split at h <;> cases h
end
end Sx
end Go.Proofs.Ytaigdbnfhehclaa
