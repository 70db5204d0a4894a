/-
  What is proved: what the symbolic operation tells is what the model's operation does; no program in sight. No condition.
-/
import Derived.Test.YtcedgoaanlbldaaSyB
namespace Go.Proofs.Ytcedgoaanlbldaa
namespace Sx
open Go.RowKit

section
variable {P : Program} {σ : St} {ρ : Env} {ι : Lay} {a : Act} {w : World}

/-- The frame and the blocks are as the symbolic ones tell. -/
structure Held (σ : St) (ρ : Env) (ι : Lay) (a : Act) (w : World) : Prop where
  tmps : ∀ t e, σ.tmps.get t = some e → a.tmps.getD t undef = e.val ρ ι
  cell : ∀ b l, σ.heap.get b = some l → ∀ (j : Nat) (c : E), l[j]? = some c → w.cell? ⟨(ι b).1, (ι b).2 + j, none⟩ = some (c.val ρ ι) ∧ w.frozen? ⟨(ι b).1, (ι b).2 + j, none⟩ = false
  pc : σ.pc.ok ρ

theorem E.val_known {l : Known} (hl : l.ok ρ) (e : E) : (e.known l).val ρ ι = e.val ρ ι := by
  unfold E.known
  split
  · simp only [E.val, T.den_known hl]
  · rfl
theorem Held.opnd (H : Held σ ρ ι a w) {x : Operand} {e : E} (h : σ.opnd x = some e) : a.eval x = e.val ρ ι := by
  cases x with
  | tmp t =>
    simp only [St.opnd] at h
    split at h
    · rename_i e' he
      cases h
      rw [E.val_known H.pc]
      exact H.tmps t e' he
    · cases h
  | const v => simp only [St.opnd, Option.some.injEq] at h; subst h; exact (val_constE _ _ _).symm
  | global g => cases h; rfl
  | func f => cases h; rfl
theorem Held.opnds (H : Held σ ρ ι a w) : ∀ {l : List Operand} {es : List E}, σ.opnds l = some es → l.map a.eval = E.vals ρ ι es
  | [], _, h => by cases h; rfl
  | x :: l, _, h => by
    unfold St.opnds at h
    split at h
    · rename_i h1 h2; cases h; simp only [List.map_cons, H.opnd h1, H.opnds h2, E.vals]
    · cases h
theorem Held.opnds_arr (H : Held σ ρ ι a w) {l : Array Operand} {es : List E} (h : σ.opnds l.toList = some es) : l.map a.eval = (E.vals ρ ι es).toArray := by
  rw [← H.opnds h, ← List.map_toArray, Array.toArray_toList]
theorem Held.parts (H : Held σ ρ ι a w) : ∀ {l : List (Nat × Operand)} {es : List (Nat × E)}, σ.parts l = some es → l.map (fun p => (p.1, a.eval p.2)) = es.map fun p => (p.1, p.2.val ρ ι)
  | [], _, h => by cases h; rfl
  | (i, x) :: l, _, h => by
    unfold St.parts at h
    split at h
    · rename_i h1 h2; cases h; simp only [List.map_cons, H.opnd h1, H.parts h2]
    · cases h

/-- What the operation does in the model. -/
def Do.does (P : Program) (σ : St) (ρ : Env) (ι : Lay) (a : Act) (w : World) (o : Oper) : Do → Prop
  | .val e => (execOp a.eval o).run P w = .ok (.value (e.val ρ ι)) w
  | .new l t sl => (execOp a.eval o).run P w = .ok (.value (newV sl w.heap.size)) (w.alloc (.cells (E.vals ρ ι l).toArray t))
  | .store b o' cs => (execOp a.eval o).run P w = .ok .skip (w.setCells (ι b).1 ((ι b).2 + o') (E.vals ρ ι cs)) ∧ ∃ l, σ.heap.get b = some l ∧ o' + cs.length ≤ l.length
  | .call f args => (execOp a.eval o).run P w = .ok (.enter f (E.vals ρ ι args).toArray) w

theorem zeroE_run {t : TypeId} {z : List E} (h : zeroE P t = some z) (ρ : Env) (ι : Lay) (w : World) : ∃ v, (zeroValue t).run P w = .ok v w ∧ v.cells = (E.vals ρ ι z).toArray := by
  unfold zeroE at h
  split at h
  · rename_i i hi
    split at h
    · rename_i v hz
      cases h
      refine ⟨v, ?_, ?_⟩
      · simp [zeroValue, typeInfo, hi, hz]
      · rw [vals_constC]
    · cases h
  · cases h
theorem sizeE_run {t : TypeId} {n : Nat} (h : sizeE P t = some n) (w : World) : (sizeOf t).run P w = .ok n w := by
  unfold sizeE at h
  cases hi : P.info? t with
  | none => simp [hi] at h
  | some i => simp [hi] at h; subst h; simp [sizeOf, typeInfo, hi]
theorem isRowE_run {t : TypeId} {b : Bool} (h : isRowE P t = some b) (w : World) : (isAgg t).run P w = .ok b w := by
  unfold isRowE at h
  unfold isAgg
  split at h
  · rename_i hu; cases h; simp [run_underlying hu]
  · rename_i hu; cases h; simp [run_underlying hu]
  · rename_i d h1 h2 hu
    cases h
    rw [Sem.run_bind, run_underlying hu]
    cases d <;> simp_all
  · cases h
theorem vals_drop_take (l : List E) (o n : Nat) : (E.vals ρ ι l).extract o (o + n) = E.vals ρ ι ((l.drop o).take n) := by
  simp [E.vals_map, List.extract_eq_take_drop, List.map_take, List.map_drop]
theorem partE_run {t : TypeId} {l : List E} {off : Nat} {e : E} (h : partE P t l off = some e) (w : World) : (part t (E.vals ρ ι l).toArray off).run P w = .ok (e.val ρ ι) w := by
  unfold partE at h
  unfold part
  split at h
  · rename_i h1
    split at h
    · rename_i n h2
      split at h
      · cases h
        simp only [Sem.run_bind, isRowE_run h1, Result.andThen_ok, if_true, sizeE_run h2, Sem.run_pure]
        congr 2
        simp [← vals_drop_take (ρ := ρ) (ι := ι) l off n]
      · cases h
    · cases h
  · rename_i h1
    have h3 : (E.vals ρ ι l).toArray[off]? = some (e.val ρ ι) := by simp [E.vals_get, h]
    simp only [Sem.run_bind, isRowE_run h1, Result.andThen_ok, Bool.false_eq_true, if_false, h3, Sem.run_pure]
  · cases h
theorem foldl_over (off : Nat) : ∀ (cs : List Value) (base : Nat) (l : List Value), off + base + cs.length ≤ l.length →
    (cs.zipIdx base).foldl (fun (acc : Array Value) (p : Value × Nat) => acc.setIfInBounds (off + p.2) p.1) l.toArray = (l.take (off + base) ++ cs ++ l.drop (off + base + cs.length)).toArray
  | [], base, l, _ => by simp
  | c :: cs, base, l, h => by
    simp only [List.length_cons] at h
    rw [List.zipIdx_cons, List.foldl_cons]
    simp only [List.setIfInBounds_toArray]
    rw [foldl_over off cs (base + 1) _ (by simp; omega)]
    congr 1
    apply List.ext_getElem?
    intro i
    have e1 : off + (base + 1) = off + base + 1 := by omega
    rw [e1]
    simp only [List.getElem?_append, List.length_take, List.length_set, List.length_append, List.getElem?_take, List.getElem?_drop, List.getElem?_set, List.length_cons]
    rw [show min (off + base + 1) l.length = off + base + 1 by omega, show min (off + base) l.length = off + base by omega]
    by_cases h1 : i < off + base
    · simp [h1, show i < off + base + 1 by omega, show i < off + base + 1 + cs.length by omega, show i < off + base + (cs.length + 1) by omega, show ¬ off + base = i by omega]
    · by_cases h2 : i = off + base
      · subst h2
        simp [show off + base < off + base + 1 + cs.length by omega, show off + base < l.length by omega]
      · by_cases h3 : i < off + base + 1 + cs.length
        · simp only [show ¬ i < off + base by omega, show ¬ i < off + base + 1 by omega, h3, show i < off + base + (cs.length + 1) by omega, if_true, if_false]
          rw [show i - (off + base) = (i - (off + base + 1)) + 1 by omega, List.getElem?_cons_succ]
        · simp only [h3, show ¬ i < off + base + (cs.length + 1) by omega, if_false]
          rw [if_neg (by omega)]
          congr 1
          omega
theorem vals_over (l cs : List E) (off : Nat) : E.vals ρ ι (overE l off cs) = (E.vals ρ ι l).take off ++ E.vals ρ ι cs ++ (E.vals ρ ι l).drop (off + (E.vals ρ ι cs).length) := by
  simp [overE, E.vals_map]
theorem fillE_run (place : Nat → Option (Nat × Nat)) : ∀ (ps : List (Nat × E)) (cells r : List E), fillE place cells ps = some r →
    Instr.fill place (E.vals ρ ι cells).toArray (ps.map fun p => (p.1, p.2.val ρ ι)) = some (E.vals ρ ι r).toArray
  | [], cells, r, h => by cases h; rfl
  | (i, e) :: ps, cells, r, h => by
    unfold fillE at h
    split at h
    · rename_i off size cs h1 h2
      split at h
      · rename_i h3
        obtain ⟨h4, h5⟩ := h3
        have ih := fillE_run place ps _ r h
        simp only [List.map_cons, Instr.fill, h1]
        rw [E.cells_val h2]
        have e1 : ((E.vals ρ ι cs).toArray.size ≠ size || decide (off + (E.vals ρ ι cs).toArray.size > (E.vals ρ ι cells).toArray.size)) = false := by
          simp [E.vals_length]; omega
        have e2 := foldl_over off (E.vals ρ ι cs) 0 (E.vals ρ ι cells) (by simp [E.vals_length]; omega)
        simp only [Nat.add_zero] at e2
        rw [← vals_over] at e2
        rw [← ih, ← e2]
        simp [E.vals_length, h4, Nat.not_lt.2 (show off + size ≤ cells.length by omega)]
      · cases h
    · cases h
theorem listM_run {α β : Type} {f : α → Sem β} {w : World} : ∀ {as : List α} {l : List β}, l.length = as.length → (∀ (j : Nat) (x : α) (y : β), as[j]? = some x → l[j]? = some y → (f x).run P w = .ok y w) →
    (as.mapM f).run P w = .ok l w
  | [], [], _, _ => rfl
  | a :: as, b :: l, hl, h => by
    have ih := listM_run (f := f) (w := w) (as := as) (l := l) (by simpa using hl) (fun j x y hx hy => h (j + 1) x y (by simpa using hx) (by simpa using hy))
    simp only [List.mapM_cons, Sem.run_bind, h 0 a b rfl rfl, Result.andThen_ok, ih, Sem.run_pure]
theorem mapM_run {α β : Type} {f : α → Sem β} {w : World} {as : Array α} {l : List β} (hl : l.length = as.size) (h : ∀ (j : Nat) (x : α) (y : β), as[j]? = some x → l[j]? = some y → (f x).run P w = .ok y w) :
    (as.mapM f).run P w = .ok l.toArray w := by
  have h1 := listM_run (f := f) (w := w) (as := as.toList) (l := l) (by simpa using hl) (fun j x y hx hy => h j x y (by simpa using hx) hy)
  rw [← Array.toArray_toList (xs := as), List.mapM_toArray, map_eq_pure_bind]
  simp only [Sem.run_bind, h1, Result.andThen_ok, Sem.run_pure]
theorem placesE_get (w : World) : ∀ {fs : List Field} {pl : List (Nat × Nat)}, placesE P fs = some pl → pl.length = fs.length ∧ ∀ (j : Nat) (f : Field) (y : Nat × Nat), fs[j]? = some f → pl[j]? = some y →
    ((do pure (f.offset, ← sizeOf f.type)) : Sem (Nat × Nat)).run P w = .ok y w
  | [], _, h => by cases h; exact ⟨rfl, fun j f y h => by simp at h⟩
  | f :: fs, _, h => by
    unfold placesE at h
    split at h
    · rename_i h1 h2
      cases h
      obtain ⟨h3, h4⟩ := placesE_get w h2
      refine ⟨by simp [h3], fun j g y hg hy => ?_⟩
      cases j with
      | zero => simp at hg hy; subst hg hy; simp only [Sem.run_bind, sizeE_run h1, Result.andThen_ok, Sem.run_pure]
      | succ j => exact h4 j g y (by simpa using hg) (by simpa using hy)
    · cases h
theorem buildE_run {t : TypeId} {ps : List (Nat × E)} {r : List E} (h : buildE P t ps = some r) (w : World) :
    (Instr.build t (ps.map fun p => (p.1, p.2.val ρ ι)).toArray).run P w = .ok (.agg (E.vals ρ ι r).toArray) w := by
  unfold buildE at h
  unfold Instr.build
  split at h
  · rename_i z fs hz hu
    obtain ⟨v, h1, h2⟩ := zeroE_run hz ρ ι w
    split at h
    · rename_i pl hp
      have h3 := fillE_run (ρ := ρ) (ι := ι) _ _ _ _ h
      obtain ⟨h6, h4⟩ := placesE_get w hp
      have h5 : (fs.mapM (m := Sem) fun f => do pure (f.offset, ← sizeOf f.type)).run P w = .ok pl.toArray w :=
        mapM_run (by simpa using h6) fun j x y hx hy => h4 j x y (by simpa using hx) hy
      simp only [Sem.run_bind, h1, Result.andThen_ok, run_underlying hu, h5, h2]
      rw [show (fun i => pl.toArray[i]?) = (fun i => pl[i]?) from by funext i; simp, h3]
      rfl
    · cases h
  · rename_i z n el hz hu
    obtain ⟨v, h1, h2⟩ := zeroE_run hz ρ ι w
    split at h
    · rename_i s hs
      have h3 := fillE_run (ρ := ρ) (ι := ι) _ _ _ _ h
      simp only [Sem.run_bind, h1, Result.andThen_ok, run_underlying hu, sizeE_run hs, h2, h3]
      rfl
    · cases h
  · cases h
end
end Sx
end Go.Proofs.Ytcedgoaanlbldaa
