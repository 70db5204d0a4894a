/-
  What is proved: plain laws on what a run may have written, and on when a symbolic state tells the truth; no program in sight. No condition.
-/
import Derived.Test.YtcedgoaanlbldaaSyD
namespace Go.Proofs.Ytcedgoaanlbldaa
namespace Sx
open Go.RowKit

theorem Tr.setF_comm {α : Type} (x y : α) : ∀ (f : Nat) (t : Tr α) (n m : Nat), n < 2 ^ f → m < 2 ^ f → n ≠ m → Tr.setF f (Tr.setF f t n x) m y = Tr.setF f (Tr.setF f t m y) n x
  | 0, t, n, m, hn, hm, h => by simp at hn hm; omega
  | f + 1, t, n, m, hn, hm, h => by
    rw [Nat.pow_succ] at hn hm
    have ih := fun t (h : (n - 1) / 2 ≠ (m - 1) / 2) => Tr.setF_comm x y f t ((n - 1) / 2) ((m - 1) / 2) (by omega) (by omega) h
    cases n with
    | zero => cases m with
      | zero => exact absurd rfl h
      | succ m => by_cases e : m % 2 = 0 <;> cases t <;> simp only [Tr.setF, e, if_true, if_false]
    | succ n => cases m with
      | zero => by_cases e : n % 2 = 0 <;> cases t <;> simp only [Tr.setF, e, if_true, if_false]
      | succ m =>
        simp only [Nat.add_sub_cancel] at ih
        by_cases e1 : n % 2 = 0 <;> by_cases e2 : m % 2 = 0
        · cases t <;> simp only [Tr.setF, e1, e2, if_true] <;> rw [ih _ (by omega)]
        · cases t <;> simp only [Tr.setF, e1, e2, if_true, if_false]
        · cases t <;> simp only [Tr.setF, e1, e2, if_true, if_false]
        · cases t <;> simp only [Tr.setF, e1, e2, if_false] <;> rw [ih _ (by omega)]
theorem Tr.set_comm {α : Type} (t : Tr α) (n m : Nat) (x y : α) (hn : n < 1099511627776) (hm : m < 1099511627776) (h : n ≠ m) : (t.set n x).set m y = (t.set m y).set n x := Tr.setF_comm x y 40 t n m hn hm h
def E.ptrKey : E → Option Nat
  | .ptr b _ => some b
  | .slice b _ _ _ => some b
  | .at b _ _ _ _ => some b
  | _ => none
/-- The blocks that a value leads to. -/
def E.pts : E → List Nat
  | .ptr b _ => [b]
  | .slice b _ _ _ => [b]
  | .at b _ _ _ _ => [b]
  | .func _ l => l.filterMap E.ptrKey
  | _ => []
theorem cell_lt_of {w : World} {i o : Nat} (h : (w.cell? ⟨i, o, none⟩).isSome = true) : i < w.heap.size := by
  unfold World.cell? at h
  cases hq : w.heap[i]? with
  | none => simp [hq] at h
  | some o => exact (Array.getElem?_eq_some_iff.1 hq).1
theorem cell_there {w : World} {i o : Nat} : (w.cell? ⟨i, o, none⟩).isSome = true ↔ ∃ e n, w.shape? i = some (e, n) ∧ o < n := by
  unfold World.cell? World.shape?
  cases hq : w.heap[i]? with
  | none => simp
  | some ob =>
    cases ob with
    | cells c e f =>
      simp only [Option.isSome_none, Bool.false_eq_true, if_false, Option.some.injEq, Prod.mk.injEq, isSome_getElem?]
      exact ⟨fun h => ⟨_, _, ⟨rfl, rfl⟩, h⟩, fun ⟨_, _, ⟨_, e⟩, h⟩ => by rw [e]; exact h⟩
    | _ => simp
/-- What is frozen of a block runs from a cell on to another, if anything is. -/
def Sane (w : World) (i : Nat) : Prop := ∀ c e lo hi, w.heap[i]? = some (.cells c e (lo, hi)) → lo ≤ hi
/-- What is frozen of a block. -/
def frozenL (w : World) (i : Nat) : Option (Nat × Nat) := match w.heap[i]? with
  | some (.cells _ _ f) => some f
  | _ => none
theorem frozenL_of_block {w w' : World} {i : Nat} (h : w'.heap[i]? = w.heap[i]?) : frozenL w' i = frozenL w i := by unfold frozenL; rw [h]
/-- From w0 to w nothing has turned but cells of S, and what is new. -/
structure Fr (S : Nat → Nat → Prop) (w0 w : World) : Prop where
  os : w.os = w0.os
  tape : w.tape = w0.tape
  output : w.output = w0.output
  size : w0.heap.size ≤ w.heap.size
  block : ∀ i, i < w0.heap.size → (∀ o, ¬ S i o) → w.heap[i]? = w0.heap[i]?
  cell : ∀ i o, i < w0.heap.size → ¬ S i o → w.cell? ⟨i, o, none⟩ = w0.cell? ⟨i, o, none⟩
  frozen : ∀ i o, (w0.cell? ⟨i, o, none⟩).isSome = true → w.frozen? ⟨i, o, none⟩ = w0.frozen? ⟨i, o, none⟩
  shape : ∀ i, i < w0.heap.size → w.shape? i = w0.shape? i
  sane : ∀ i, i < w0.heap.size → Sane w0 i → Sane w i
  frl : ∀ i, i < w0.heap.size → (∀ o, w0.cell? ⟨i, o, none⟩ = none → ¬ S i o) → frozenL w i = frozenL w0 i
theorem Fr.refl (S : Nat → Nat → Prop) (w : World) : Fr S w w := ⟨rfl, rfl, rfl, Nat.le_refl _, fun _ _ _ => rfl, fun _ _ _ _ => rfl, fun _ _ _ => rfl, fun _ _ => rfl, fun _ _ h => h, fun _ _ _ => rfl⟩
theorem Fr.trans {S S' T : Nat → Nat → Prop} {w0 w1 w2 : World} (h : Fr S w0 w1) (h' : Fr S' w1 w2) (hS : ∀ i o, i < w0.heap.size → S i o → T i o) (hS' : ∀ i o, i < w0.heap.size → S' i o → T i o) : Fr T w0 w2 where
  os := h'.os.trans h.os
  tape := h'.tape.trans h.tape
  output := h'.output.trans h.output
  size := Nat.le_trans h.size h'.size
  block i hi hn := (h'.block i (Nat.lt_of_lt_of_le hi h.size) fun o ho => hn o (hS' i o hi ho)).trans (h.block i hi fun o ho => hn o (hS i o hi ho))
  cell i o hi hn := (h'.cell i o (Nat.lt_of_lt_of_le hi h.size) fun ho => hn (hS' i o hi ho)).trans (h.cell i o hi fun ho => hn (hS i o hi ho))
  frozen i o hi := (h'.frozen i o (by obtain ⟨e, n, h1, h2⟩ := cell_there.1 hi; exact cell_there.2 ⟨e, n, (h.shape i (cell_lt_of hi)).trans h1, h2⟩)).trans (h.frozen i o hi)
  shape i hi := (h'.shape i (Nat.lt_of_lt_of_le hi h.size)).trans (h.shape i hi)
  sane i hi hs := h'.sane i (Nat.lt_of_lt_of_le hi h.size) (h.sane i hi hs)
  frl i hi hn := by
    refine (h'.frl i (Nat.lt_of_lt_of_le hi h.size) fun o ho hs => ?_).trans (h.frl i hi fun o ho hs => hn o ho (hS i o hi hs))
    cases hc : w0.cell? ⟨i, o, none⟩ with
    | none => exact hn o hc (hS' i o hi hs)
    | some v =>
      obtain ⟨e, n, h1, h2⟩ := cell_there.1 (show (w0.cell? ⟨i, o, none⟩).isSome = true by rw [hc]; rfl)
      have := cell_there.2 ⟨e, n, (h.shape i hi).trans h1, h2⟩
      rw [ho] at this
      cases this
theorem Fr.mono {S T : Nat → Nat → Prop} {w0 w : World} (h : Fr S w0 w) (hS : ∀ i o, i < w0.heap.size → S i o → T i o) : Fr T w0 w := h.trans (Fr.refl T w) hS fun _ _ _ h => h
theorem shape_of_block {w w' : World} {i : Nat} (h : w'.heap[i]? = w.heap[i]?) : w'.shape? i = w.shape? i := by unfold World.shape?; rw [h]
theorem Fr.of_below {S : Nat → Nat → Prop} {w w' : World} (h : Below w.heap.size w w') : Fr S w w' where
  os := h.os
  tape := h.tape
  output := h.output
  size := h.size
  block i hi _ := h.block i hi
  cell i o hi _ := h.cell (p := ⟨i, o, none⟩) hi
  frozen i o hi := h.frozen (p := ⟨i, o, none⟩) (cell_lt_of hi)
  shape i hi := shape_of_block (h.block i hi)
  sane i hi hs := by unfold Sane; rw [h.block i hi]; exact hs
  frl i hi _ := frozenL_of_block (h.block i hi)
theorem Fr.below {S : Nat → Nat → Prop} {w w' : World} (h : Fr S w w') (hS : ∀ i o, i < w.heap.size → ¬ S i o) : Below w.heap.size w w' := ⟨h.os, h.tape, h.output, h.size, fun i hi => h.block i hi fun o => hS i o hi⟩
theorem shape_setCell (w : World) (p : Addr) (v : Value) (i : Nat) : (w.setCell p v).shape? i = w.shape? i := by
  have h : (w.setCell p v).heap[i]? = if p.block = i then (w.heap[i]?).map (fun | .cells c elem frozen => .cells (if p.spot.isSome then c else c.setIfInBounds p.off v) elem frozen | o => o) else w.heap[i]? := by
    unfold World.setCell
    exact Array.getElem?_modify
  unfold World.shape?
  rw [h]
  by_cases e : p.block = i
  · rw [if_pos e]
    cases h2 : w.heap[i]? with
    | none => rfl
    | some o => cases o <;> first | rfl | (simp only [Option.map_some]; split <;> simp)
  · rw [if_neg e]
theorem shape_setCells (b i : Nat) : ∀ (vs : List Value) (o : Nat) (w : World), (w.setCells b o vs).shape? i = w.shape? i
  | [], _, _ => rfl
  | v :: r, o, w => by rw [World.setCells, shape_setCells b i r, shape_setCell]
theorem sane_setCell {w : World} {p : Addr} {v : Value} {i : Nat} (hs : Sane w i) : Sane (w.setCell p v) i := by
  have h : (w.setCell p v).heap[i]? = if p.block = i then (w.heap[i]?).map (fun | .cells c elem frozen => .cells (if p.spot.isSome then c else c.setIfInBounds p.off v) elem frozen | o => o) else w.heap[i]? := by
    unfold World.setCell
    exact Array.getElem?_modify
  intro c e lo hi hc
  rw [h] at hc
  split at hc
  · cases h2 : w.heap[i]? with
    | none => simp [h2] at hc
    | some o =>
      cases o with
      | cells c' e' f' =>
        obtain ⟨l', u'⟩ := f'
        simp only [h2, Option.map_some, Option.some.injEq, Obj.cells.injEq, Prod.mk.injEq] at hc
        obtain ⟨_, _, rfl, rfl⟩ := hc
        exact hs _ _ _ _ h2
      | _ => simp [h2] at hc
  · exact hs _ _ _ _ hc
theorem sane_setCells (b i : Nat) : ∀ (vs : List Value) (o : Nat) (w : World), Sane w i → Sane (w.setCells b o vs) i
  | [], _, _, h => h
  | v :: r, o, w, h => by rw [World.setCells]; exact sane_setCells b i r (o + 1) _ (sane_setCell h)
theorem setCells_size (b : Nat) : ∀ (vs : List Value) (o : Nat) (w : World), (w.setCells b o vs).heap.size = w.heap.size
  | [], _, _ => rfl
  | v :: r, o, w => by rw [World.setCells, setCells_size b r]; simp [World.setCell]
theorem setCells_rest (b : Nat) : ∀ (vs : List Value) (o : Nat) (w : World), (w.setCells b o vs).os = w.os ∧ (w.setCells b o vs).tape = w.tape ∧ (w.setCells b o vs).output = w.output
  | [], _, _ => ⟨rfl, rfl, rfl⟩
  | v :: r, o, w => by rw [World.setCells]; exact setCells_rest b r (o + 1) _
theorem setCells_block (b : Nat) : ∀ (vs : List Value) (o : Nat) (w : World) (i : Nat), i ≠ b → (w.setCells b o vs).heap[i]? = w.heap[i]?
  | [], _, _, _, _ => rfl
  | v :: r, o, w, i, h => by rw [World.setCells, setCells_block b r (o + 1) _ i h, Below.heap_setCell _ _ _ _ h]
theorem frozenL_setCell (w : World) (p : Addr) (v : Value) (i : Nat) : frozenL (w.setCell p v) i = frozenL w i := by
  have h : (w.setCell p v).heap[i]? = if p.block = i then (w.heap[i]?).map (fun | .cells c elem frozen => .cells (if p.spot.isSome then c else c.setIfInBounds p.off v) elem frozen | o => o) else w.heap[i]? := by
    unfold World.setCell
    exact Array.getElem?_modify
  unfold frozenL
  rw [h]
  by_cases e : p.block = i
  · rw [if_pos e]
    cases h2 : w.heap[i]? with
    | none => rfl
    | some o => cases o <;> rfl
  · rw [if_neg e]
theorem frozenL_setCells (b i : Nat) : ∀ (vs : List Value) (o : Nat) (w : World), frozenL (w.setCells b o vs) i = frozenL w i
  | [], _, _ => rfl
  | v :: r, o, w => by rw [World.setCells, frozenL_setCells b i r, frozenL_setCell]
theorem Fr.setCells (w : World) (b o : Nat) (vs : List Value) : Fr (fun i x => i = b ∧ o ≤ x ∧ x < o + vs.length) w (w.setCells b o vs) where
  os := (setCells_rest b vs o w).1
  tape := (setCells_rest b vs o w).2.1
  output := (setCells_rest b vs o w).2.2
  size := by rw [setCells_size]; exact Nat.le_refl _
  block i hi hn := by
    by_cases e : i = b
    · subst e
      cases vs with
      | nil => rfl
      | cons v vs => exact absurd ⟨rfl, Nat.le_refl _, by simp⟩ (hn o)
    · exact setCells_block b vs o w i e
  cell i x hi hn := World.cell?_setCells_out b vs o w _ fun h1 _ => by
    by_cases h2 : x < o
    · exact .inl h2
    · by_cases h3 : x < o + vs.length
      · exact absurd ⟨h1, by omega, h3⟩ hn
      · exact .inr (by show o + vs.length ≤ x; omega)
  frozen i x _ := World.frozen?_setCells b vs o w _
  shape i _ := shape_setCells b i vs o w
  sane i _ hs := sane_setCells b i vs o w hs
  frl i _ _ := frozenL_setCells b i vs o w
theorem Fr.alloc (S : Nat → Nat → Prop) (w : World) (o : Obj) : Fr S w (w.alloc o) := Fr.of_below ((Below.refl _ w).alloc (Nat.le_refl _) o)

/-- Cells, as (block, number). -/
abbrev Foot := Nat → Nat → Prop
/-- Stores of objects: what lies where the handles lead, with its cells; how many objects there are. -/
class Kinds where
  holds : World → (Nat → OneV) → Foot → Value → Prop
  cnt : Value → Nat
  keep : ∀ {w w' : World} {h : Nat → OneV} {F S : Foot} {g : Value}, holds w h F g → Fr S w w' → (∀ i x, F i x → ¬ S i x) → holds w' h F g
  below : ∀ {w : World} {h : Nat → OneV} {F : Foot} {g : Value} {i x : Nat}, holds w h F g → F i x → i < w.heap.size
  same : ∀ {w : World} {h h' : Nat → OneV} {F : Foot} {g : Value}, holds w h F g → (∀ n, n < cnt g → h' n = h n) → holds w h' F g
  ext : Nat → Value → Value → Prop
  ext_mono : ∀ {k m : Nat} {g g' : Value}, k ≠ 0 → k ≤ m → ext k g g' → ext m g g'
  none : Value
  none_cnt : cnt none = 0
  none_holds : ∀ (w : World) (h : Nat → OneV), holds w h (fun _ _ => False) none
/-- What a symbolic run may have written. -/
def St.wrote (σ : St) (ι : Lay) (i x : Nat) : Prop := ∃ b l, (σ.wr.get b).isSome ∧ b < σ.np ∧ σ.heap.get b = some l ∧ i = (ι b).1 ∧ (ι b).2 ≤ x ∧ x < (ι b).2 + l.length

/-- The world at a call's begin, where its parameters lie, and the objects that were there, with the cells that may be written. -/
structure Base where
  w : World
  ι : Lay
  pin : Nat → Prop
  cnt : Nat := 0
  F : Foot := fun _ _ => False
/-- The store that a variable stands for. -/
def Env.g (ρ : Env) (i : Nat) : Value := noTup (ρ.v i)
theorem Env.ag_g {n i : Nat} {ρ ρ' : Env} (h : ρ.ag n ρ') (hi : i < n) : ρ'.g i = ρ.g i := by unfold Env.g; rw [(h i hi).2.2]
variable [Kinds]
/-- The symbolic state tells the truth. -/
structure SimAt (ρ : Env) (ι : Lay) (F : Foot) (w0 : Base) (σ : St) (a : Act) (w : World) : Prop where
  n : a.tmps.size = σ.n
  defers : a.defers = []
  tmps : ∀ t e, σ.tmps.get t = some e → a.tmps.getD t undef = e.val ρ ι
  cell : ∀ b l, σ.heap.get b = some l → ∀ (j : Nat) (c : E), l[j]? = some c → w.cell? ⟨(ι b).1, (ι b).2 + j, none⟩ = some (c.val ρ ι) ∧ w.frozen? ⟨(ι b).1, (ι b).2 + j, none⟩ = false
  apart : ∀ b b' l l', σ.heap.get b = some l → σ.heap.get b' = some l' → b ≠ b' → (ι b).1 = (ι b').1 → ∀ j j', j < l.length → j' < l'.length → (ι b).2 + j ≠ (ι b').2 + j'
  own : ∀ b l, σ.heap.get b = some l → σ.np ≤ b → w0.w.heap.size ≤ (ι b).1
  par : ∀ b, w0.pin b → (σ.heap.get b).isSome ∧ ι b = w0.ι b
  fr : Fr (fun i x => σ.wrote ι i x ∨ w0.F i x) w0.w w
  pc : σ.pc.ok ρ
  glt : σ.gh < σ.nv
  gho : Kinds.holds w ι.h F (ρ.g σ.gh)
  gap : ∀ b l, σ.heap.get b = some l → ∀ j, j < l.length → ¬ F (ι b).1 ((ι b).2 + j)
  gow : ∀ i x, F i x → w0.w.heap.size ≤ i ∨ w0.F i x
  gpar : ∀ n, n < w0.cnt → ι.h n = w0.ι.h n
  gcnt : w0.cnt ≤ Kinds.cnt (ρ.g σ.gh)
/-- Two layouts agree on what is there. -/
def St.agL (σ : St) (ρ : Env) (ι ι' : Lay) : Prop := (∀ b, (σ.heap.get b).isSome → ι' b = ι b) ∧ ∀ n, n < Kinds.cnt (ρ.g σ.gh) → ι'.h n = ι.h n
theorem St.agL_refl (σ : St) (ρ : Env) (ι : Lay) : σ.agL ρ ι ι := ⟨fun _ _ => rfl, fun _ _ => rfl⟩
def Sim (ρ : Env) (w0 : Base) (σ : St) (a : Act) (w : World) : Prop := ∃ ι F, ∀ ρ', ρ.ag σ.nv ρ' → ∀ ι', σ.agL ρ ι ι' → SimAt ρ' ι' F w0 σ a w

section
variable {ρ ρ' : Env} {ι : Lay} {F : Foot} {w0 : Base} {σ : St} {a : Act} {w : World}
theorem SimAt.held (h : SimAt ρ ι F w0 σ a w) : Held σ ρ ι a w := ⟨h.tmps, h.cell, h.pc⟩
theorem Sim.at_ (h : Sim ρ w0 σ a w) : ∃ ι F, SimAt ρ ι F w0 σ a w := by
  obtain ⟨ι, F, h⟩ := h
  exact ⟨ι, F, h ρ (Env.ag_refl _ _) ι (σ.agL_refl ρ ι)⟩
theorem Sim.glt (h : Sim ρ w0 σ a w) : σ.gh < σ.nv := by
  obtain ⟨ι, F, h⟩ := h.at_
  exact h.glt
theorem agL_ag (hr : ρ.ag σ.nv ρ') (hg : σ.gh < σ.nv) {ι ι' : Lay} (hi : σ.agL ρ' ι ι') : σ.agL ρ ι ι' := ⟨hi.1, fun n hn => hi.2 n (by rw [Env.ag_g hr hg]; exact hn)⟩
theorem Sim.env (h : Sim ρ w0 σ a w) (hr : ρ.ag σ.nv ρ') {m : Nat} (hm : σ.nv ≤ m) (k : Nat) : Sim ρ' w0 { σ with nv := m, nk := k } a w := by
  have hg := h.glt
  obtain ⟨ι, F, h⟩ := h
  refine ⟨ι, F, fun ρ'' hr' ι' hi => ?_⟩
  have h1 := h ρ'' (Env.ag_trans hr hr' hm) ι' (agL_ag hr hg hi)
  exact ⟨h1.n, h1.defers, h1.tmps, h1.cell, h1.apart, h1.own, h1.par, h1.fr, h1.pc, Nat.lt_of_lt_of_le hg hm, h1.gho, h1.gap, h1.gow, h1.gpar, h1.gcnt⟩
theorem Sim.no_dangling (h : Sim ρ w0 σ a w) {x : Operand} {e : E} (hx : σ.opnd x = some e) {b : Nat} (hb : b ∈ e.pts) : (σ.heap.get b).isSome := by
  obtain ⟨ι, F, h⟩ := h
  cases hg : σ.heap.get b with
  | some l => rfl
  | none =>
    exfalso
    have h1 := (h ρ (Env.ag_refl _ _) ι (σ.agL_refl ρ ι)).held.opnd hx
    have h2 := (h ρ (Env.ag_refl _ _) ⟨fun k => if k = b then ((ι b).1 + 1, 0) else ι k, ι.h⟩ ⟨fun k hk => by
      by_cases e : k = b
      · subst e; rw [hg] at hk; cases hk
      · simp [e], fun _ _ => rfl⟩).held.opnd hx
    rw [h1] at h2
    unfold E.pts at hb
    split at hb
    iterate 3
      · simp only [List.mem_singleton] at hb
        subst hb
        simp only [E.val, if_true, Value.pointer.injEq, Value.slice.injEq, Option.some.injEq, Addr.mk.injEq] at h2
        omega
    · rename_i fn l
      simp only [E.val, Value.func.injEq, E.vals_map, true_and] at h2
      have h2 := congrArg Array.toList h2
      obtain ⟨c, hc, hk⟩ := List.mem_filterMap.1 hb
      have h3 := List.map_inj_left.1 h2 c hc
      unfold E.ptrKey at hk
      split at hk
      iterate 3
        · cases hk
          simp only [E.val, if_true, Value.pointer.injEq, Value.slice.injEq, Option.some.injEq, Addr.mk.injEq] at h3
          omega
      · cases hk
    · cases hb
end
end Sx
end Go.Proofs.Ytcedgoaanlbldaa
