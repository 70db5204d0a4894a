/-
  What is proved: contracts of the operations that turn the store of objects: a store, a new struct, a new slice, append; no program in sight. Condition: the types are as said.
-/
import Derived.Test.YteklnfajpignoaaSyV
namespace Go.Proofs.Yteklnfajpignoaa
namespace Sx
open Go.RowKit

section
variable {P : Program}
theorem key_store {op : Op} {t : TypeId} (h : primKey op = some (primBase + (32 * t + 1))) : ∃ x y, op = .store t x y := by
  unfold primKey at h
  repeat' split at h
  all_goals (try (exact absurd h.symm (Option.some_ne_none _)))
  all_goals (rw [Option.some.injEq] at h)
  all_goals (try (exfalso; omega))
  rename_i t' x y
  have : @Eq Nat t' t := by omega
  subst this
  exact ⟨_, _, rfl⟩
theorem key_alloc {op : Op} {t : TypeId} (h : primKey op = some (primBase + (32 * t + 10))) : op = .alloc t := by
  unfold primKey at h
  repeat' split at h
  all_goals (try (exact absurd h.symm (Option.some_ne_none _)))
  all_goals (rw [Option.some.injEq] at h)
  all_goals (try (exfalso; omega))
  rename_i t'
  have : @Eq Nat t' t := by omega
  subst this
  rfl
theorem key_box {op : Op} {t : TypeId} (h : primKey op = some (primBase + (32 * t + 11))) : ∃ x, op = .box t x := by
  unfold primKey at h
  repeat' split at h
  all_goals (try (exact absurd h.symm (Option.some_ne_none _)))
  all_goals (rw [Option.some.injEq] at h)
  all_goals (try (exfalso; omega))
  rename_i t' x
  have : @Eq Nat t' t := by omega
  subst this
  exact ⟨_, rfl⟩
/-- An object's cells are others. -/
def Ob.with_ (cs : List Value) : Ob → Ob
  | .row s len _ => .row s len cs
  | .ptr _ => .ptr cs
  | o => o
def Ob.open_ : Ob → Bool
  | .row _ _ _ => true
  | .ptr _ => true
  | _ => false
def overV (l : List Value) (off : Nat) (cs : List Value) : List Value := l.take off ++ cs ++ l.drop (off + cs.length)
theorem overV_get (l cs : List Value) (o : Nat) (h : o + cs.length ≤ l.length) (j : Nat) : (overV l o cs)[j]? = if o ≤ j ∧ j < o + cs.length then cs[j - o]? else l[j]? := by
  unfold overV
  simp only [List.getElem?_append, List.length_append, List.length_take, List.getElem?_take, List.getElem?_drop]
  rw [show min o l.length = o by omega]
  by_cases h1 : j < o
  · simp [h1, show j < o + cs.length by omega, show ¬ o ≤ j by omega]
  · by_cases h2 : j < o + cs.length
    · simp [h1, h2, show o ≤ j by omega]
    · rw [if_neg h2, if_neg (by omega)]
      congr 1
      omega
theorem overV_length (l cs : List Value) (o : Nat) (h : o + cs.length ≤ l.length) : (overV l o cs).length = l.length := by
  unfold overV
  simp
  omega
/-- Something is stored at a place. -/
def storeC (t : TypeId) : Con := ⟨primBase + (32 * t + 1), [], fun b => (E.lit undef).shift b, 2, 0, 2⟩
def storeR (s : Nat) (G : List Ob) (l : List Value) (e : Env) : Prop := ∃ n k v o cells, l = [tokAt n k, v] ∧ G[n]? = some o ∧ o.open_ = true ∧ o.cells? = some cells ∧ v.cells.size = s ∧ (∀ c ∈ v.cells.toList, c.oneCell' = true) ∧ (∀ cs, v ≠ .tuple cs) ∧ k + s ≤ cells.length ∧
  e.g gv = encG (G.set n (o.with_ (overV cells k v.cells.toList)))
theorem part_inv {h : Nat → OneV} {n : Nat} {v : Value} (hv : Inv h n v) : ∀ c ∈ v.cells.toList, c.oneCell' = true → Inv h n c := by
  intro c hc h1
  cases v with
  | agg cs =>
    obtain ⟨l⟩ := cs
    exact Inv.part hv c hc h1
  | tuple cs => simp [Value.cells] at hc; subst hc; cases h1
  | _ => rw [cells_one rfl] at hc; simp at hc; subst hc; exact hv
theorem store_holds {t : TypeId} {s : Nat} (hs : sizeE P t = some s) : (storeC t).holds P (conR (storeR s)) := by
  refine turn_holds rfl (Nat.le_add_right _ _) (fun G l e _ hR => ?_) ?_
  · obtain ⟨n, k, v, o, cells, rfl, h1, h2, _, _, _, _, _, h3⟩ := hR
    refine ⟨_, h3, ?_⟩
    unfold extG
    rw [if_neg (by decide), if_pos rfl]
    refine ⟨by simp, fun m o' ho hf => ?_⟩
    rw [List.getElem?_set_ne]
    · exact ho
    · intro e
      subst e
      rw [h1] at ho
      cases ho
      cases o <;> simp [Ob.open_, Ob.fixed] at h2 hf
  · rintro o hkey a w h F G f l e hargs H ⟨n, k, v, ob, cells, rfl, hn, hop, hcl, hsz, hone, hnt, hle, hG⟩
    obtain ⟨x, y, hopq⟩ := key_store hkey
    have hinv := inv_args hargs v (by simp)
    have hc : cellsAt G n = some cells := by unfold cellsAt; rw [hn]; exact hcl
    obtain ⟨b, o', q1, q2⟩ := cellsAt_spec hc H
    have ha := hargs h fun _ _ => rfl
    rw [hopq] at ha
    simp only [Op.operands, List.map_cons, List.map_nil, concE_at, q1, List.cons.injEq, and_true] at ha
    obtain ⟨a1, a2⟩ := ha
    have hcv := cells_conc (h := h) hone hnt
    have hsz2 : (concE h v).cells.size = s := by rw [← Array.length_toList, hcv]; simpa using hsz
    -- the cells may be written, and are the object's
    have hob := H.ob n _ hn
    have hwr : ∀ j, j < cells.length → (w.cell? ⟨b, o' + j, none⟩).isSome = true ∧ w.frozen? ⟨b, o' + j, none⟩ = false ∧ f n b (o' + j) := by
      intro j hj
      cases ob with
      | row s' len cs =>
        cases hcl
        obtain ⟨b', o2, cap, h1, h2, h4, h5, h6, h7, h8, h9⟩ := hob
        have e := q1 0
        rw [h1] at e
        simp only [hatV, Value.pointer.injEq, Option.some.injEq, Addr.mk.injEq, Nat.add_zero, and_true] at e
        obtain ⟨rfl, rfl⟩ := e
        have hle' : len * s' ≤ cap * s' := Nat.mul_le_mul_right _ h2
        have := h6 j (by omega)
        exact ⟨by obtain ⟨⟨u, hu, _⟩, _⟩ := this; rw [hu]; rfl, this.2, (h8 _ _).2 ⟨rfl, by omega, by omega⟩⟩
      | ptr cs =>
        cases hcl
        obtain ⟨b', o2, h1, h2, h3, h4⟩ := hob
        have e := q1 0
        rw [h1] at e
        simp only [hatV, Value.pointer.injEq, Option.some.injEq, Addr.mk.injEq, Nat.add_zero, and_true] at e
        obtain ⟨rfl, rfl⟩ := e
        have := h3 j _ (List.getElem?_eq_getElem hj)
        exact ⟨by rw [this.1.cell]; rfl, this.2, (h4 _ _).2 ⟨rfl, by omega, by omega⟩⟩
      | _ => cases hop
    have hrun := store_run (P := P) (w := w) (b := b) (o := o' + k) (v := concE h v) hs hsz2 (by
      rw [hcv]
      intro u hu
      obtain ⟨c, hcm, rfl⟩ := List.mem_map.1 hu
      exact concE_one (hone c hcm)) (fun j hj => by
      have := hwr (k + j) (by omega)
      rw [← Nat.add_assoc] at this
      exact ⟨this.1, this.2.1⟩)
    rw [hcv] at hrun
    have hlen : (v.cells.toList.map (concE h)).length = s := by simpa using hsz
    have hcell : ∀ j, j < cells.length → (w.setCells b (o' + k) (v.cells.toList.map (concE h))).cell? ⟨b, o' + j, none⟩ = ((overV cells k v.cells.toList)[j]?).map (concE h) := by
      intro j hj
      rw [overV_get _ _ _ (by simp [hsz]; omega)]
      have hlv : v.cells.toList.length = s := by simpa using hsz
      by_cases hin : k ≤ j ∧ j < k + v.cells.toList.length
      · rw [if_pos hin]
        have := World.cell?_setCells_in b (v.cells.toList.map (concE h)) (o' + k) w (fun i hi => by
          have := (hwr (k + i) (by omega)).1
          rwa [← Nat.add_assoc] at this) (j - k) (by omega)
        rw [show o' + k + (j - k) = o' + j by omega] at this
        rw [this, List.getElem_map, List.getElem?_eq_getElem (by omega)]
        rfl
      · rw [if_neg hin, World.cell?_setCells_out _ _ _ _ _ (fun _ _ => by show o' + j < o' + k ∨ o' + k + _ ≤ o' + j; omega), (q2 j _ (List.getElem?_eq_getElem hj)).cell, List.getElem?_eq_getElem hj]
        rfl
    have hfz : ∀ j, (w.setCells b (o' + k) (v.cells.toList.map (concE h))).frozen? ⟨b, o' + j, none⟩ = w.frozen? ⟨b, o' + j, none⟩ := fun j => World.frozen?_setCells b _ _ w _
    have hovl := overV_length cells v.cells.toList k (by simp [hsz]; omega)
    have hnew : ∀ (j : Nat) c, (overV cells k v.cells.toList)[j]? = some c → CellN (w.setCells b (o' + k) (v.cells.toList.map (concE h))) h G.length b (o' + j) c := by
      intro j c hj
      have hjl : j < cells.length := by have := (List.getElem?_eq_some_iff.1 hj).1; omega
      have h1 := hcell j hjl
      rw [hj] at h1
      rw [overV_get _ _ _ (by simp [hsz]; omega)] at hj
      split at hj
      · have hm := List.mem_of_getElem? hj
        exact ⟨h1, hone c hm, part_inv hinv c hm (hone c hm)⟩
      · exact ⟨h1, (q2 j c hj).one, (q2 j c hj).inv⟩
    have hsh : ob.shared = false := by cases ob <;> first | rfl | cases hop
    have hset := H.set (Fr.setCells w b (o' + k) (v.cells.toList.map (concE h))) (i := n) (o' := ob.with_ (overV cells k v.cells.toList)) (f' := f n) hn hsh (fun b1 x1 _ hx => by
      obtain ⟨rfl, hx1, hx2⟩ := hx
      have := (hwr (x1 - o') (by omega)).2.2
      rwa [show o' + (x1 - o') = x1 by omega] at this) (fun _ _ hx => .inl hx) (by
      cases ob with
      | row s' len cs =>
        cases hcl
        obtain ⟨b', o2, cap, h1, h2, h4, h5, h6, h7, h8, h9⟩ := hob
        have e := q1 0
        rw [h1] at e
        simp only [hatV, Value.pointer.injEq, Option.some.injEq, Addr.mk.injEq, Nat.add_zero, and_true] at e
        obtain ⟨rfl, rfl⟩ := e
        refine ⟨b', o2, cap, h1, h2, h4, by rw [hovl]; exact h5, fun j hj => ?_, hnew, h8, h9.keep (Fr.setCells w b' (o2 + k) (v.cells.toList.map (concE h)))⟩
        rw [hfz]
        refine ⟨?_, (h6 j hj).2⟩
        by_cases hjl : j < cells.length
        · obtain ⟨c, hcj⟩ : ∃ c, (overV cells k v.cells.toList)[j]? = some c := ⟨_, List.getElem?_eq_getElem (by omega)⟩
          exact ⟨_, (hnew j c hcj).cell, concE_one (hnew j c hcj).one⟩
        · rw [World.cell?_setCells_out _ _ _ _ _ (fun _ _ => by show o2 + j < o2 + k ∨ o2 + k + _ ≤ o2 + j; omega)]
          exact (h6 j hj).1
      | ptr cs =>
        cases hcl
        obtain ⟨b', o2, h1, h2, h3, h4⟩ := hob
        have e := q1 0
        rw [h1] at e
        simp only [hatV, Value.pointer.injEq, Option.some.injEq, Addr.mk.injEq, Nat.add_zero, and_true] at e
        obtain ⟨rfl, rfl⟩ := e
        refine ⟨b', o2, h1, by rw [hovl]; exact h2, fun j c hj => ⟨hnew j c hj, ?_⟩, by rw [hovl]; exact h4⟩
        rw [hfz]
        have hjl : j < cells.length := by have := (List.getElem?_eq_some_iff.1 hj).1; omega
        exact (h3 j _ (List.getElem?_eq_getElem hjl)).2
      | _ => cases hop)
    refine ⟨.skip, _, h, _, _, _, ?_, hG, .inr ⟨rfl, rfl⟩, (Fr.setCells w b (o' + k) _).mono (fun b1 x1 _ hx => ?_), hset.1, hset.2, by simp, fun _ _ => rfl⟩
    · simp only [hopq, execOp, Sem.run_bind, a1, a2, hrun, Result.andThen_ok, Sem.run_pure]
    · obtain ⟨rfl, hx1, hx2⟩ := hx
      have := (hwr (x1 - o') (by omega)).2.2
      rw [show o' + (x1 - o') = x1 by omega] at this
      exact (H.foot _ _).2 ⟨n, (List.getElem?_eq_some_iff.1 hn).1, this⟩
end
end Sx
end Go.Proofs.Yteklnfajpignoaa
