/- What is proved: plain laws on what a run may have written, and on when a symbolic state tells the truth; no program in sight; plain laws on contracts of calls, and on one step of a symbolic run; no program in sight. No condition but those each law names. -/
import Derived.Test.YtaigdbnfhehclaaSyD
namespace Go.Proofs.Ytaigdbnfhehclaa
namespace Sx
open Go.RowKit

theorem Tr.setF_comm {α : Type} (x y : α) : ∀ (f : Nat) (t : Tr α) (n m : Nat), n < 2 ^ f → m < 2 ^ f → n ≠ m → Tr.setF f (Tr.setF f t n x) m y = Tr.setF f (Tr.setF f t m y) n x
  | 0, t, n, m, hn, hm, h => by simp at hn hm; omega
  | f + 1, t, n, m, hn, hm, h => by
    rw [Nat.pow_succ] at hn hm
    have ih := fun t (h : (n - 1) / 2 ≠ (m - 1) / 2) => Tr.setF_comm x y f t ((n - 1) / 2) ((m - 1) / 2) (by omega) (by omega) h
    cases n with
    | zero => cases m with
      | zero => exact absurd rfl h
      | succ m => by_cases e : m % 2 = 0 <;> cases t <;> simp only [Tr.setF, e, if_true, if_false]
    | succ n => cases m with
      | zero => by_cases e : n % 2 = 0 <;> cases t <;> simp only [Tr.setF, e, if_true, if_false]
      | succ m =>
        simp only [Nat.add_sub_cancel] at ih
        by_cases e1 : n % 2 = 0 <;> by_cases e2 : m % 2 = 0
        · cases t <;> simp only [Tr.setF, e1, e2, if_true] <;> rw [ih _ (by omega)]
        · cases t <;> simp only [Tr.setF, e1, e2, if_true, if_false]
        · cases t <;> simp only [Tr.setF, e1, e2, if_true, if_false]
        · cases t <;> simp only [Tr.setF, e1, e2, if_false] <;> rw [ih _ (by omega)]
theorem Tr.set_comm {α : Type} (t : Tr α) (n m : Nat) (x y : α) (hn : n < 1099511627776) (hm : m < 1099511627776) (h : n ≠ m) : (t.set n x).set m y = (t.set m y).set n x := Tr.setF_comm x y 40 t n m hn hm h
def E.ptrKey : E → Option Nat
  | .ptr b _ => some b
  | .slice b _ _ _ => some b
  | .at b _ _ _ _ => some b
  | _ => none
/-- The blocks that a value leads to. -/
def E.pts : E → List Nat
  | .ptr b _ => [b]
  | .slice b _ _ _ => [b]
  | .at b _ _ _ _ => [b]
  | .func _ l => l.filterMap E.ptrKey
  | _ => []
theorem cell_lt_of {w : World} {i o : Nat} (h : (w.cell? ⟨i, o, none⟩).isSome = true) : i < w.heap.size := by
  unfold World.cell? at h
  cases hq : w.heap[i]? with
  | none => simp [hq] at h
  | some o => exact (Array.getElem?_eq_some_iff.1 hq).1
theorem cell_there {w : World} {i o : Nat} : (w.cell? ⟨i, o, none⟩).isSome = true ↔ ∃ e n, w.shape? i = some (e, n) ∧ o < n := by
  unfold World.cell? World.shape?
  cases hq : w.heap[i]? with
  | none => simp
  | some ob =>
    cases ob with
    | cells c e f =>
      simp only [Option.isSome_none, Bool.false_eq_true, if_false, Option.some.injEq, Prod.mk.injEq, isSome_getElem?]
      exact ⟨fun h => ⟨_, _, ⟨rfl, rfl⟩, h⟩, fun ⟨_, _, ⟨_, e⟩, h⟩ => by rw [e]; exact h⟩
    | _ => simp
/-- What is frozen of a block runs from a cell on to another, if anything is. -/
def Sane (w : World) (i : Nat) : Prop := ∀ c e lo hi, w.heap[i]? = some (.cells c e (lo, hi)) → lo ≤ hi
/-- What is frozen of a block. -/
def frozenL (w : World) (i : Nat) : Option (Nat × Nat) := match w.heap[i]? with
  | some (.cells _ _ f) => some f
  | _ => none
theorem frozenL_of_block {w w' : World} {i : Nat} (h : w'.heap[i]? = w.heap[i]?) : frozenL w' i = frozenL w i := by unfold frozenL; rw [h]
/-- From w0 to w nothing has turned but cells of S, and what is new. -/
structure Fr (S : Nat → Nat → Prop) (w0 w : World) : Prop where
  os : w.os = w0.os
  tape : w.tape = w0.tape
  output : w.output = w0.output
  size : w0.heap.size ≤ w.heap.size
  block : ∀ i, i < w0.heap.size → (∀ o, ¬ S i o) → w.heap[i]? = w0.heap[i]?
  cell : ∀ i o, i < w0.heap.size → ¬ S i o → w.cell? ⟨i, o, none⟩ = w0.cell? ⟨i, o, none⟩
  frozen : ∀ i o, (w0.cell? ⟨i, o, none⟩).isSome = true → w.frozen? ⟨i, o, none⟩ = w0.frozen? ⟨i, o, none⟩
  shape : ∀ i, i < w0.heap.size → w.shape? i = w0.shape? i
  sane : ∀ i, i < w0.heap.size → Sane w0 i → Sane w i
  frl : ∀ i, i < w0.heap.size → (∀ o, w0.cell? ⟨i, o, none⟩ = none → ¬ S i o) → frozenL w i = frozenL w0 i
theorem Fr.refl (S : Nat → Nat → Prop) (w : World) : Fr S w w := ⟨rfl, rfl, rfl, Nat.le_refl _, fun _ _ _ => rfl, fun _ _ _ _ => rfl, fun _ _ _ => rfl, fun _ _ => rfl, fun _ _ h => h, fun _ _ _ => rfl⟩
theorem Fr.trans {S S' T : Nat → Nat → Prop} {w0 w1 w2 : World} (h : Fr S w0 w1) (h' : Fr S' w1 w2) (hS : ∀ i o, i < w0.heap.size → S i o → T i o) (hS' : ∀ i o, i < w0.heap.size → S' i o → T i o) : Fr T w0 w2 where
  os := h'.os.trans h.os
  tape := h'.tape.trans h.tape
  output := h'.output.trans h.output
  size := Nat.le_trans h.size h'.size
  block i hi hn := (h'.block i (Nat.lt_of_lt_of_le hi h.size) fun o ho => hn o (hS' i o hi ho)).trans (h.block i hi fun o ho => hn o (hS i o hi ho))
  cell i o hi hn := (h'.cell i o (Nat.lt_of_lt_of_le hi h.size) fun ho => hn (hS' i o hi ho)).trans (h.cell i o hi fun ho => hn (hS i o hi ho))
  frozen i o hi := (h'.frozen i o (by obtain ⟨e, n, h1, h2⟩ := cell_there.1 hi; exact cell_there.2 ⟨e, n, (h.shape i (cell_lt_of hi)).trans h1, h2⟩)).trans (h.frozen i o hi)
  shape i hi := (h'.shape i (Nat.lt_of_lt_of_le hi h.size)).trans (h.shape i hi)
  sane i hi hs := h'.sane i (Nat.lt_of_lt_of_le hi h.size) (h.sane i hi hs)
  frl i hi hn := by
    refine (h'.frl i (Nat.lt_of_lt_of_le hi h.size) fun o ho hs => ?_).trans (h.frl i hi fun o ho hs => hn o ho (hS i o hi hs))
    cases hc : w0.cell? ⟨i, o, none⟩ with
    | none => exact hn o hc (hS' i o hi hs)
    | some v =>
      obtain ⟨e, n, h1, h2⟩ := cell_there.1 (show (w0.cell? ⟨i, o, none⟩).isSome = true by rw [hc]; rfl)
      have := cell_there.2 ⟨e, n, (h.shape i hi).trans h1, h2⟩
      rw [ho] at this
      cases this
theorem Fr.mono {S T : Nat → Nat → Prop} {w0 w : World} (h : Fr S w0 w) (hS : ∀ i o, i < w0.heap.size → S i o → T i o) : Fr T w0 w := h.trans (Fr.refl T w) hS fun _ _ _ h => h
theorem shape_of_block {w w' : World} {i : Nat} (h : w'.heap[i]? = w.heap[i]?) : w'.shape? i = w.shape? i := by unfold World.shape?; rw [h]
theorem Fr.of_below {S : Nat → Nat → Prop} {w w' : World} (h : Below w.heap.size w w') : Fr S w w' where
  os := h.os
  tape := h.tape
  output := h.output
  size := h.size
  block i hi _ := h.block i hi
  cell i o hi _ := h.cell (p := ⟨i, o, none⟩) hi
  frozen i o hi := h.frozen (p := ⟨i, o, none⟩) (cell_lt_of hi)
  shape i hi := shape_of_block (h.block i hi)
  sane i hi hs := by unfold Sane; rw [h.block i hi]; exact hs
  frl i hi _ := frozenL_of_block (h.block i hi)
theorem Fr.below {S : Nat → Nat → Prop} {w w' : World} (h : Fr S w w') (hS : ∀ i o, i < w.heap.size → ¬ S i o) : Below w.heap.size w w' := ⟨h.os, h.tape, h.output, h.size, fun i hi => h.block i hi fun o => hS i o hi⟩
theorem shape_setCell (w : World) (p : Addr) (v : Value) (i : Nat) : (w.setCell p v).shape? i = w.shape? i := by
  have h : (w.setCell p v).heap[i]? = if p.block = i then (w.heap[i]?).map (fun | .cells c elem frozen => .cells (if p.spot.isSome then c else c.setIfInBounds p.off v) elem frozen | o => o) else w.heap[i]? := by
    unfold World.setCell
    exact Array.getElem?_modify
  unfold World.shape?
  rw [h]
  by_cases e : p.block = i
  · rw [if_pos e]
    cases h2 : w.heap[i]? with
    | none => rfl
    | some o => cases o <;> first | rfl | (simp only [Option.map_some]; split <;> simp)
  · rw [if_neg e]
theorem shape_setCells (b i : Nat) : ∀ (vs : List Value) (o : Nat) (w : World), (w.setCells b o vs).shape? i = w.shape? i
  | [], _, _ => rfl
  | v :: r, o, w => by rw [World.setCells, shape_setCells b i r, shape_setCell]
theorem sane_setCell {w : World} {p : Addr} {v : Value} {i : Nat} (hs : Sane w i) : Sane (w.setCell p v) i := by
  have h : (w.setCell p v).heap[i]? = if p.block = i then (w.heap[i]?).map (fun | .cells c elem frozen => .cells (if p.spot.isSome then c else c.setIfInBounds p.off v) elem frozen | o => o) else w.heap[i]? := by
    unfold World.setCell
    exact Array.getElem?_modify
  intro c e lo hi hc
  rw [h] at hc
  split at hc
  · cases h2 : w.heap[i]? with
    | none => simp [h2] at hc
    | some o =>
      cases o with
      | cells c' e' f' =>
        obtain ⟨l', u'⟩ := f'
        simp only [h2, Option.map_some, Option.some.injEq, Obj.cells.injEq, Prod.mk.injEq] at hc
        obtain ⟨_, _, rfl, rfl⟩ := hc
        exact hs _ _ _ _ h2
      | _ => simp [h2] at hc
  · exact hs _ _ _ _ hc
theorem sane_setCells (b i : Nat) : ∀ (vs : List Value) (o : Nat) (w : World), Sane w i → Sane (w.setCells b o vs) i
  | [], _, _, h => h
  | v :: r, o, w, h => by rw [World.setCells]; exact sane_setCells b i r (o + 1) _ (sane_setCell h)
theorem setCells_size (b : Nat) : ∀ (vs : List Value) (o : Nat) (w : World), (w.setCells b o vs).heap.size = w.heap.size
  | [], _, _ => rfl
  | v :: r, o, w => by rw [World.setCells, setCells_size b r]; simp [World.setCell]
theorem setCells_rest (b : Nat) : ∀ (vs : List Value) (o : Nat) (w : World), (w.setCells b o vs).os = w.os ∧ (w.setCells b o vs).tape = w.tape ∧ (w.setCells b o vs).output = w.output
  | [], _, _ => ⟨rfl, rfl, rfl⟩
  | v :: r, o, w => by rw [World.setCells]; exact setCells_rest b r (o + 1) _
theorem setCells_block (b : Nat) : ∀ (vs : List Value) (o : Nat) (w : World) (i : Nat), i ≠ b → (w.setCells b o vs).heap[i]? = w.heap[i]?
  | [], _, _, _, _ => rfl
  | v :: r, o, w, i, h => by rw [World.setCells, setCells_block b r (o + 1) _ i h, Below.heap_setCell _ _ _ _ h]
theorem frozenL_setCell (w : World) (p : Addr) (v : Value) (i : Nat) : frozenL (w.setCell p v) i = frozenL w i := by
  have h : (w.setCell p v).heap[i]? = if p.block = i then (w.heap[i]?).map (fun | .cells c elem frozen => .cells (if p.spot.isSome then c else c.setIfInBounds p.off v) elem frozen | o => o) else w.heap[i]? := by
    unfold World.setCell
    exact Array.getElem?_modify
  unfold frozenL
  rw [h]
  by_cases e : p.block = i
  · rw [if_pos e]
    cases h2 : w.heap[i]? with
    | none => rfl
    | some o => cases o <;> rfl
  · rw [if_neg e]
theorem frozenL_setCells (b i : Nat) : ∀ (vs : List Value) (o : Nat) (w : World), frozenL (w.setCells b o vs) i = frozenL w i
  | [], _, _ => rfl
  | v :: r, o, w => by rw [World.setCells, frozenL_setCells b i r, frozenL_setCell]
theorem Fr.setCells (w : World) (b o : Nat) (vs : List Value) : Fr (fun i x => i = b ∧ o ≤ x ∧ x < o + vs.length) w (w.setCells b o vs) where
  os := (setCells_rest b vs o w).1
  tape := (setCells_rest b vs o w).2.1
  output := (setCells_rest b vs o w).2.2
  size := by rw [setCells_size]; exact Nat.le_refl _
  block i hi hn := by
    by_cases e : i = b
    · subst e
      cases vs with
      | nil => rfl
      | cons v vs => exact absurd ⟨rfl, Nat.le_refl _, by simp⟩ (hn o)
    · exact setCells_block b vs o w i e
  cell i x hi hn := World.cell?_setCells_out b vs o w _ fun h1 _ => by
    by_cases h2 : x < o
    · exact .inl h2
    · by_cases h3 : x < o + vs.length
      · exact absurd ⟨h1, by omega, h3⟩ hn
      · exact .inr (by show o + vs.length ≤ x; omega)
  frozen i x _ := World.frozen?_setCells b vs o w _
  shape i _ := shape_setCells b i vs o w
  sane i _ hs := sane_setCells b i vs o w hs
  frl i _ _ := frozenL_setCells b i vs o w
theorem Fr.alloc (S : Nat → Nat → Prop) (w : World) (o : Obj) : Fr S w (w.alloc o) := Fr.of_below ((Below.refl _ w).alloc (Nat.le_refl _) o)

/-- Cells, as (block, number). -/
abbrev Foot := Nat → Nat → Prop
/-- Stores of objects: what lies where the handles lead, with its cells; how many objects there are. -/
class Kinds where
  holds : World → (Nat → OneV) → Foot → Value → Prop
  cnt : Value → Nat
  keep : ∀ {w w' : World} {h : Nat → OneV} {F S : Foot} {g : Value}, holds w h F g → Fr S w w' → (∀ i x, F i x → ¬ S i x) → holds w' h F g
  below : ∀ {w : World} {h : Nat → OneV} {F : Foot} {g : Value} {i x : Nat}, holds w h F g → F i x → i < w.heap.size
  same : ∀ {w : World} {h h' : Nat → OneV} {F : Foot} {g : Value}, holds w h F g → (∀ n, n < cnt g → h' n = h n) → holds w h' F g
  ext : Nat → Value → Value → Prop
  ext_mono : ∀ {k m : Nat} {g g' : Value}, k ≠ 0 → k ≤ m → ext k g g' → ext m g g'
  none : Value
  none_cnt : cnt none = 0
  none_holds : ∀ (w : World) (h : Nat → OneV), holds w h (fun _ _ => False) none
/-- What a symbolic run may have written. -/
def St.wrote (σ : St) (ι : Lay) (i x : Nat) : Prop := ∃ b l, (σ.wr.get b).isSome ∧ b < σ.np ∧ σ.heap.get b = some l ∧ i = (ι b).1 ∧ (ι b).2 ≤ x ∧ x < (ι b).2 + l.length

/-- The world at a call's begin, where its parameters lie, and the objects that were there, with the cells that may be written. -/
structure Base where
  w : World
  ι : Lay
  pin : Nat → Prop
  cnt : Nat := 0
  F : Foot := fun _ _ => False
/-- The store that a variable stands for. -/
def Env.g (ρ : Env) (i : Nat) : Value := noTup (ρ.v i)
theorem Env.ag_g {n i : Nat} {ρ ρ' : Env} (h : ρ.ag n ρ') (hi : i < n) : ρ'.g i = ρ.g i := by unfold Env.g; rw [(h i hi).2.2]
variable [Kinds]
/-- The symbolic state tells the truth. -/
structure SimAt (ρ : Env) (ι : Lay) (F : Foot) (w0 : Base) (σ : St) (a : Act) (w : World) : Prop where
  n : a.tmps.size = σ.n
  defers : a.defers = []
  tmps : ∀ t e, σ.tmps.get t = some e → a.tmps.getD t undef = e.val ρ ι
  cell : ∀ b l, σ.heap.get b = some l → ∀ (j : Nat) (c : E), l[j]? = some c → w.cell? ⟨(ι b).1, (ι b).2 + j, none⟩ = some (c.val ρ ι) ∧ w.frozen? ⟨(ι b).1, (ι b).2 + j, none⟩ = false
  apart : ∀ b b' l l', σ.heap.get b = some l → σ.heap.get b' = some l' → b ≠ b' → (ι b).1 = (ι b').1 → ∀ j j', j < l.length → j' < l'.length → (ι b).2 + j ≠ (ι b').2 + j'
  own : ∀ b l, σ.heap.get b = some l → σ.np ≤ b → w0.w.heap.size ≤ (ι b).1
  par : ∀ b, w0.pin b → (σ.heap.get b).isSome ∧ ι b = w0.ι b
  fr : Fr (fun i x => σ.wrote ι i x ∨ w0.F i x) w0.w w
  pc : σ.pc.ok ρ
  glt : σ.gh < σ.nv
  gho : Kinds.holds w ι.h F (ρ.g σ.gh)
  gap : ∀ b l, σ.heap.get b = some l → ∀ j, j < l.length → ¬ F (ι b).1 ((ι b).2 + j)
  gow : ∀ i x, F i x → w0.w.heap.size ≤ i ∨ w0.F i x
  gpar : ∀ n, n < w0.cnt → ι.h n = w0.ι.h n
  gcnt : w0.cnt ≤ Kinds.cnt (ρ.g σ.gh)
/-- Two layouts agree on what is there. -/
def St.agL (σ : St) (ρ : Env) (ι ι' : Lay) : Prop := (∀ b, (σ.heap.get b).isSome → ι' b = ι b) ∧ ∀ n, n < Kinds.cnt (ρ.g σ.gh) → ι'.h n = ι.h n
theorem St.agL_refl (σ : St) (ρ : Env) (ι : Lay) : σ.agL ρ ι ι := ⟨fun _ _ => rfl, fun _ _ => rfl⟩
def Sim (ρ : Env) (w0 : Base) (σ : St) (a : Act) (w : World) : Prop := ∃ ι F, ∀ ρ', ρ.ag σ.nv ρ' → ∀ ι', σ.agL ρ ι ι' → SimAt ρ' ι' F w0 σ a w

section
variable {ρ ρ' : Env} {ι : Lay} {F : Foot} {w0 : Base} {σ : St} {a : Act} {w : World}
theorem SimAt.held (h : SimAt ρ ι F w0 σ a w) : Held σ ρ ι a w := ⟨h.tmps, h.cell, h.pc⟩
theorem Sim.at_ (h : Sim ρ w0 σ a w) : ∃ ι F, SimAt ρ ι F w0 σ a w := by
  obtain ⟨ι, F, h⟩ := h
  exact ⟨ι, F, h ρ (Env.ag_refl _ _) ι (σ.agL_refl ρ ι)⟩
theorem Sim.glt (h : Sim ρ w0 σ a w) : σ.gh < σ.nv := by
  obtain ⟨ι, F, h⟩ := h.at_
  exact h.glt
theorem agL_ag (hr : ρ.ag σ.nv ρ') (hg : σ.gh < σ.nv) {ι ι' : Lay} (hi : σ.agL ρ' ι ι') : σ.agL ρ ι ι' := ⟨hi.1, fun n hn => hi.2 n (by rw [Env.ag_g hr hg]; exact hn)⟩
theorem Sim.env (h : Sim ρ w0 σ a w) (hr : ρ.ag σ.nv ρ') {m : Nat} (hm : σ.nv ≤ m) (k : Nat) : Sim ρ' w0 { σ with nv := m, nk := k } a w := by
  have hg := h.glt
  obtain ⟨ι, F, h⟩ := h
  refine ⟨ι, F, fun ρ'' hr' ι' hi => ?_⟩
  have h1 := h ρ'' (Env.ag_trans hr hr' hm) ι' (agL_ag hr hg hi)
  exact ⟨h1.n, h1.defers, h1.tmps, h1.cell, h1.apart, h1.own, h1.par, h1.fr, h1.pc, Nat.lt_of_lt_of_le hg hm, h1.gho, h1.gap, h1.gow, h1.gpar, h1.gcnt⟩
theorem Sim.no_dangling (h : Sim ρ w0 σ a w) {x : Operand} {e : E} (hx : σ.opnd x = some e) {b : Nat} (hb : b ∈ e.pts) : (σ.heap.get b).isSome := by
  obtain ⟨ι, F, h⟩ := h
  cases hg : σ.heap.get b with
  | some l => rfl
  | none =>
    exfalso
    have h1 := (h ρ (Env.ag_refl _ _) ι (σ.agL_refl ρ ι)).held.opnd hx
    have h2 := (h ρ (Env.ag_refl _ _) ⟨fun k => if k = b then ((ι b).1 + 1, 0) else ι k, ι.h⟩ ⟨fun k hk => by
      by_cases e : k = b
      · subst e; rw [hg] at hk; cases hk
      · simp [e], fun _ _ => rfl⟩).held.opnd hx
    rw [h1] at h2
    unfold E.pts at hb
    split at hb
    iterate 3
      · simp only [List.mem_singleton] at hb
        subst hb
        simp only [E.val, if_true, Value.pointer.injEq, Value.slice.injEq, Option.some.injEq, Addr.mk.injEq] at h2
        omega
    · rename_i fn l
      simp only [E.val, Value.func.injEq, E.vals_map, true_and] at h2
      have h2 := congrArg Array.toList h2
      obtain ⟨c, hc, hk⟩ := List.mem_filterMap.1 hb
      have h3 := List.map_inj_left.1 h2 c hc
      unfold E.ptrKey at hk
      split at hk
      iterate 3
        · cases hk
          simp only [E.val, if_true, Value.pointer.injEq, Value.slice.injEq, Option.some.injEq, Addr.mk.injEq] at h3
          omega
      · cases hk
    · cases hb
end
end Sx
end Go.Proofs.Ytaigdbnfhehclaa

namespace Go.Proofs.Ytaigdbnfhehclaa
namespace Sx
open Go.RowKit

/-- No name of an object, nor a row of values. -/
def plainV : Value → Bool
  | .pointer (some ⟨_, _, some _⟩) => false
  | .agg _ => false
  | .tuple l => l.size == 0
  | _ => true
theorem concC_plain {h : Nat → OneV} {v : Value} (hv : plainV v = true) : concC h v = v := by
  unfold concC
  split <;> first | rfl | (simp [plainV] at hv)
theorem concA_plain {h : Nat → OneV} {v : Value} (hv : plainV v = true) : concA h v = v := by
  unfold concA
  split
  · simp [plainV] at hv
  · exact concC_plain hv
theorem concE_plain {h : Nat → OneV} {v : Value} (hv : plainV v = true) : concE h v = v := by
  unfold concE
  split
  · simp [plainV] at hv; subst hv; simp
  · exact concA_plain hv
mutual
/-- It hangs on no place, and on no object. -/
def E.noH : E → Bool
  | .int _ _ => true
  | .bool _ => true
  | .lit _ => true
  | .agg l => E.noHs l
  | .tup l => E.noHs l
  | .func _ l => E.noHs l
  | .iface _ e => e.noH
  | _ => false
def E.noHs : List E → Bool
  | [] => true
  | e :: l => e.noH && E.noHs l
end
mutual
theorem E.nam_noH (ρ : Env) (ι : Lay) (q : Lay0) : ∀ e : E, e.noH = true → e.val ρ ι = e.nam ρ q
  | .int _ _, _ => rfl
  | .bool _, _ => rfl
  | .lit _, _ => rfl
  | .var _, h => by simp [E.noH] at h
  | .hnd _, h => by simp [E.noH] at h
  | .pla _ _ _, h => by simp [E.noH] at h
  | .ptr _ _, h => by simp [E.noH] at h
  | .slice _ _ _ _, h => by simp [E.noH] at h
  | .at _ _ _ _ _, h => by simp [E.noH] at h
  | .agg l, h => by simp only [E.noH] at h; simp only [E.val, E.nam, E.nams_noH ρ ι q l h]
  | .tup l, h => by simp only [E.noH] at h; simp only [E.val, E.nam, E.nams_noH ρ ι q l h]
  | .func _ l, h => by simp only [E.noH] at h; simp only [E.val, E.nam, E.nams_noH ρ ι q l h]
  | .iface _ e, h => by simp only [E.noH] at h; simp only [E.val, E.nam, E.nam_noH ρ ι q e h]
theorem E.nams_noH (ρ : Env) (ι : Lay) (q : Lay0) : ∀ l : List E, E.noHs l = true → E.vals ρ ι l = E.nams ρ q l
  | [], _ => rfl
  | e :: l, h => by simp only [E.noHs, Bool.and_eq_true] at h; simp only [E.vals, E.nams, E.nam_noH ρ ι q e h.1, E.nams_noH ρ ι q l h.2]
end
theorem E.val_noH (ρ : Env) (ι ι' : Lay) (e : E) (h : e.noH = true) : e.val ρ ι = e.val ρ ι' := (E.nam_noH ρ ι (fun _ => (0, 0)) e h).trans (E.nam_noH ρ ι' _ e h).symm
theorem E.vals_noH (ρ : Env) (ι ι' : Lay) (l : List E) (h : E.noHs l = true) : E.vals ρ ι l = E.vals ρ ι' l := (E.nams_noH ρ ι (fun _ => (0, 0)) l h).trans (E.nams_noH ρ ι' _ l h).symm
/-- One cell, in names of objects. -/
def E.cellOk : E → Bool
  | .int _ _ => true
  | .bool _ => true
  | .lit v => plainV v
  | .hnd _ => true
  | .pla _ _ _ => true
  | .func _ l => E.noHs l
  | .iface _ e => e.noH
  | _ => false
def E.argOk : E → Bool
  | .agg l => l.all E.cellOk
  | .var _ => true
  | e => e.cellOk
/-- Without a place, but for names of objects. -/
def E.noPtr : E → Bool
  | .tup l => l.all E.argOk
  | e => e.argOk
def E.noPtrs : List E → Bool
  | [] => true
  | e :: l => e.noPtr && E.noPtrs l
/-- No layout. -/
def lay0 : Lay0 := fun _ => (0, 0)
theorem E.cell_conc (ρ : Env) (ι : Lay) (q : Lay0) {e : E} (h : e.cellOk = true) : e.val ρ ι = concC ι.h (e.nam ρ q) := by
  cases e <;> simp only [E.cellOk] at h <;> first | (cases h; done) | skip
  · rfl
  · rfl
  · exact (concC_plain h).symm
  · rfl
  · exact (concC_at _ _ _).symm
  · simp only [E.val, E.nam]
    rw [E.nams_noH ρ ι q _ h]
    rfl
  · simp only [E.val, E.nam]
    rw [E.nam_noH ρ ι q _ h]
    rfl
theorem E.cell_concA (ρ : Env) (ι : Lay) (q : Lay0) {e : E} (h : e.cellOk = true) : e.val ρ ι = concA ι.h (e.nam ρ q) := by
  rw [E.cell_conc ρ ι q h]
  unfold concA
  split
  · rename_i cs heq
    exfalso
    cases e <;> simp only [E.cellOk] at h <;> first | (cases h; done) | (simp only [E.nam] at heq; first | (cases heq; done) | skip)
    · subst heq; simp [plainV] at h
    · have := oneOf_one (ρ.v ‹_›); rw [heq] at this; cases this
  · rfl
theorem E.cells_conc (ρ : Env) (ι : Lay) (q : Lay0) : ∀ {l : List E}, l.all E.cellOk = true → E.vals ρ ι l = (E.nams ρ q l).map (concC ι.h)
  | [], _ => rfl
  | e :: l, h => by
    simp only [List.all_cons, Bool.and_eq_true] at h
    simp only [E.vals, E.nams, List.map_cons]
    rw [E.cell_conc ρ ι q h.1, E.cells_conc ρ ι q h.2]
theorem E.arg_conc (ρ : Env) (ι : Lay) (q : Lay0) {e : E} (h : e.argOk = true) : e.val ρ ι = concA ι.h (e.nam ρ q) := by
  unfold E.argOk at h
  split at h
  · simp only [E.val, E.nam, concA, E.cells_conc ρ ι q h, List.map_toArray]
  · rfl
  · exact E.cell_concA ρ ι q h
theorem E.args_conc (ρ : Env) (ι : Lay) (q : Lay0) : ∀ {l : List E}, l.all E.argOk = true → E.vals ρ ι l = (E.nams ρ q l).map (concA ι.h)
  | [], _ => rfl
  | e :: l, h => by
    simp only [List.all_cons, Bool.and_eq_true] at h
    simp only [E.vals, E.nams, List.map_cons]
    rw [E.arg_conc ρ ι q h.1, E.args_conc ρ ι q h.2]
theorem E.cell_tuple {ρ : Env} {q : Lay0} {e : E} (h : e.cellOk = true) {cs : Array Value} (heq : e.nam ρ q = .tuple cs) : cs = #[] := by
  cases e <;> simp only [E.cellOk] at h <;> first | (cases h; done) | (simp only [E.nam] at heq; first | (cases heq; done) | skip)
  · subst heq; simpa [plainV] using h
  · have := oneOf_one (ρ.v ‹_›); rw [heq] at this; cases this
/-- What a value is, out of what it is in names. -/
theorem E.val_conc (ρ : Env) (ι : Lay) (q : Lay0) {e : E} (h : e.noPtr = true) : e.val ρ ι = concE ι.h (e.nam ρ q) := by
  unfold E.noPtr at h
  split at h
  · simp only [E.val, E.nam, concE, E.args_conc ρ ι q h, List.map_toArray]
  · rw [E.arg_conc ρ ι q h]
    unfold concE
    split
    · rename_i hne cs heq
      obtain rfl : cs = #[] := by
        unfold E.argOk at h
        split at h
        · simp only [E.nam] at heq; cases heq
        · simp only [E.nam] at heq
          unfold noTup at heq
          split at heq
          · cases heq
          · rename_i hn; exact absurd heq (hn _)
        · exact E.cell_tuple h heq
      rw [heq]
      simp [concA, concC]
    · rfl
theorem E.vals_conc (ρ : Env) (ι : Lay) (q : Lay0) : ∀ {l : List E}, E.noPtrs l = true → E.vals ρ ι l = (E.nams ρ q l).map (concE ι.h)
  | [], _ => rfl
  | e :: l, h => by
    simp only [E.noPtrs, Bool.and_eq_true] at h
    simp only [E.vals, E.nams, List.map_cons]
    rw [E.val_conc ρ ι q h.1, E.vals_conc ρ ι q h.2]
/-- In names, the places do not matter. -/
theorem E.cell_nam (ρ : Env) (q q' : Lay0) {e : E} (h : e.cellOk = true) : e.nam ρ q = e.nam ρ q' := by
  cases e <;> simp only [E.cellOk] at h <;> first | (cases h; done) | rfl | skip
  · simp only [E.nam]; rw [← E.nams_noH ρ ⟨fun _ => (0, 0), fun _ => OneV.undef⟩ q _ h, ← E.nams_noH ρ ⟨fun _ => (0, 0), fun _ => OneV.undef⟩ q' _ h]
  · simp only [E.nam]; rw [← E.nam_noH ρ ⟨fun _ => (0, 0), fun _ => OneV.undef⟩ q _ h, ← E.nam_noH ρ ⟨fun _ => (0, 0), fun _ => OneV.undef⟩ q' _ h]
theorem E.cells_nam (ρ : Env) (q q' : Lay0) : ∀ {l : List E}, l.all E.cellOk = true → E.nams ρ q l = E.nams ρ q' l
  | [], _ => rfl
  | e :: l, h => by
    simp only [List.all_cons, Bool.and_eq_true] at h
    simp only [E.nams]
    rw [E.cell_nam ρ q q' h.1, E.cells_nam ρ q q' h.2]
theorem E.arg_nam (ρ : Env) (q q' : Lay0) {e : E} (h : e.argOk = true) : e.nam ρ q = e.nam ρ q' := by
  unfold E.argOk at h
  split at h
  · simp only [E.nam, E.cells_nam ρ q q' h]
  · rfl
  · exact E.cell_nam ρ q q' h
theorem E.args_nam (ρ : Env) (q q' : Lay0) : ∀ {l : List E}, l.all E.argOk = true → E.nams ρ q l = E.nams ρ q' l
  | [], _ => rfl
  | e :: l, h => by
    simp only [List.all_cons, Bool.and_eq_true] at h
    simp only [E.nams]
    rw [E.arg_nam ρ q q' h.1, E.args_nam ρ q q' h.2]
theorem E.val_nam (ρ : Env) (q q' : Lay0) {e : E} (h : e.noPtr = true) : e.nam ρ q = e.nam ρ q' := by
  unfold E.noPtr at h
  split at h
  · simp only [E.nam, E.args_nam ρ q q' h]
  · exact E.arg_nam ρ q q' h
theorem E.vals_nam (ρ : Env) (q q' : Lay0) : ∀ {l : List E}, E.noPtrs l = true → E.nams ρ q l = E.nams ρ q' l
  | [], _ => rfl
  | e :: l, h => by
    simp only [E.noPtrs, Bool.and_eq_true] at h
    simp only [E.nams]
    rw [E.val_nam ρ q q' h.1, E.vals_nam ρ q q' h.2]
/-- The same objects, the same value. -/
theorem E.val_noPtr (ρ : Env) {ι ι' : Lay} (hh : ι'.h = ι.h) {e : E} (h : e.noPtr = true) : e.val ρ ι' = e.val ρ ι := by
  rw [E.val_conc ρ ι ι.p h, E.val_conc ρ ι' ι.p h, hh]
/-- A parameter that is a place: its number, how many cells lie there, and what is written there, if anything is. -/
abbrev Ptr := Nat × Nat × Option (Nat → List E)
/-- A function's contract, as the symbolic run sees it. -/
structure Con where
  fn : FuncId
  ptrs : List Ptr
  res : Nat → E
  gh : Nat := 0
  rd : Nat := 0
  wr : Nat := 0
/-- What it says: of these values the variables, from 0 on, may be those. -/
abbrev ConS := List Value → Env → Prop
def stride : Nat := 1000
/-- The store's variable among an answer's. -/
def gv : Nat := 999
/-- Numbers from here on are those of operations on objects. -/
def primBase : Nat := 1000000
/-- From base on the variables are those of s. -/
def Env.At (ρ : Env) (base : Nat) (s : Env) : Prop := ∀ j, j < stride → ρ.i (base + j) = s.i j ∧ ρ.b (base + j) = s.b j ∧ ρ.v (base + j) = s.v j
def Env.from_ (ρ : Env) (base : Nat) (s : Env) : Env := ⟨fun i => if i < base then ρ.i i else s.i (i - base), fun i => if i < base then ρ.b i else s.b (i - base), fun i => if i < base then ρ.v i else s.v (i - base)⟩
theorem Env.from_ag (ρ : Env) (base : Nat) (s : Env) : ρ.ag base (ρ.from_ base s) := fun i hi => by simp [Env.from_, hi]
theorem Env.from_at (ρ : Env) (base : Nat) (s : Env) : (ρ.from_ base s).At base s := fun j _ => by
  have h : ¬ base + j < base := by omega
  simp only [Env.from_, h, if_false, Nat.add_sub_cancel_left, and_self]
theorem Env.At.ag {ρ ρ' : Env} {base n : Nat} {s : Env} (h : ρ.At base s) (ha : ρ.ag n ρ') (hn : base + stride ≤ n) : ρ'.At base s := fun j hj =>
  have a := ha (base + j) (by omega); have b := h j hj; ⟨a.1.trans b.1, a.2.1.trans b.2.1, a.2.2.trans b.2.2⟩

/-- Where an argument leads: a pointer's place, or a slice's. -/
def E.pl : E → Option (Nat × Nat)
  | .ptr b o => some (b, o)
  | .slice b o _ _ => some (b, o)
  | _ => none
/-- How a place comes as an argument: a pointer, or a slice of some room. -/
def placeA (sl : Option Nat) (q : Nat × Nat) (n : Nat) : Value := match sl with | none => .pointer (some ⟨q.1, q.2, none⟩) | some c => .slice (some ⟨q.1, q.2, none⟩) n c
/-- What is said of what lies there: of a pointer's struct, or array, as one; of a slice as a tuple. -/
def placeV (sl : Option Nat) (cs : List Value) : Value := match sl with | none => .agg cs.toArray | some _ => .tuple cs.toArray
/-- Where parameters that are places lie; vs, in names: what they hold stands in their stead. -/
def Points (w : World) (h : Nat → OneV) (args : List Value) : List Ptr → List Value → List (Nat × Nat) → Prop
  | [], vs, qs => args = vs.map (concE h) ∧ qs = []
  | _ :: _, _, [] => False
  | (pos, n, _) :: r, vs, q :: qs => ∃ (sl : Option Nat) (cs vs' : List Value), Points w h args r vs' qs ∧ vs = vs'.set pos (placeV sl cs) ∧ (cs.length = n ∧ ∀ c, sl = some c → n ≤ c) ∧ args[pos]? = some (placeA sl q n) ∧
      ∀ (j : Nat) (c : Value), cs[j]? = some c → w.cell? ⟨q.1, q.2 + j, none⟩ = some (concC h c) ∧ w.frozen? ⟨q.1, q.2 + j, none⟩ = false
/-- Those that are written lie apart from the others. -/
def ApartQ : List Ptr → List (Nat × Nat) → Prop
  | [], _ => True
  | _ :: _, [] => True
  | p :: r, q :: qs => (∀ p' q', (p', q') ∈ r.zip qs → (p.2.2.isSome ∨ p'.2.2.isSome) → q.1 = q'.1 → ∀ j j', j < p.2.1 → j' < p'.2.1 → q.2 + j ≠ q'.2 + j') ∧ ApartQ r qs
/-- What may be written. -/
def OutS (ptrs : List Ptr) (qs : List (Nat × Nat)) (i x : Nat) : Prop := ∃ p q, (p, q) ∈ ptrs.zip qs ∧ p.2.2.isSome ∧ i = q.1 ∧ q.2 ≤ x ∧ x < q.2 + p.2.1
/-- What lies there behind the call. -/
def Outs (w : World) (A : Lay → Prop) (ρ : Env) (base : Nat) (ptrs : List Ptr) (qs : List (Nat × Nat)) : Prop := ∀ p q f, (p, q) ∈ ptrs.zip qs → p.2.2 = some f → ∀ (ι : Lay), A ι → ∀ (j : Nat) (c : E), (f base)[j]? = some c → w.cell? ⟨q.1, q.2 + j, none⟩ = some (c.val ρ ι)
/-- The objects lie apart from the places. -/
def FootQ (F : Foot) (ptrs : List Ptr) (qs : List (Nat × Nat)) : Prop := ∀ p q, (p, q) ∈ ptrs.zip qs → ∀ j, j < p.2.1 → ¬ F q.1 (q.2 + j)
/-- What becomes of the store. -/
def GPost [Kinds] (two : Bool) (S : Foot) (w w' : World) (h h' : Nat → OneV) (F F' : Foot) (g g' : Value) : Prop :=
  if two then Fr (fun i x => S i x ∨ F i x) w w' ∧ Kinds.holds w' h' F' g' ∧ (∀ i x, F' i x → F i x ∨ w.heap.size ≤ i) ∧ Kinds.cnt g ≤ Kinds.cnt g' ∧ ∀ n, n < Kinds.cnt g → h' n = h n
  else Fr S w w' ∧ h' = h
/-- The layout knows the objects that are there behind the call. -/
def AgH [Kinds] (gh : Nat) (g g' : Value) (h : Nat → OneV) (ι : Lay) : Prop := ∀ n, n < (if gh = 0 then 0 else if gh = 2 then Kinds.cnt g' else Kinds.cnt g) → ι.h n = h n
/-- What the contract is asked with: the store behind the values. -/
def withV (c : Con) (vs : List Value) (g : Value) : List Value := if c.gh = 0 then vs else vs ++ [g]
def binNo : BinOp → Option Nat
  | .eql => some 0
  | .neq => some 1
  | .add => some 2
  | .sub => some 3
  | .mul => some 4
  | .quo => some 5
  | .lss => some 6
  | .leq => some 7
  | .gtr => some 8
  | .geq => some 9
  | _ => none
/-- An operation's number. -/
def primKey : Op → Option Nat
  | .load t _ => some (primBase + 32 * t)
  | .store t _ _ => some (primBase + (32 * t + 1))
  | .indexAddr t _ _ => some (primBase + (32 * t + 3))
  | .slice t _ lo hi none => some (primBase + (32 * (4 * t + (if lo.isSome then 1 else 0) + (if hi.isSome then 2 else 0)) + 4))
  | .makeSlice t _ _ => some (primBase + (32 * t + 5))
  | .lookup t _ _ c => some (primBase + (32 * (2 * t + (if c then 1 else 0)) + 6))
  | .mapUpdate t _ _ _ => some (primBase + (32 * t + 7))
  | .makeMap t none => some (primBase + (32 * t + 8))
  | .nilCheck _ => some (primBase + 9)
  | .alloc t => some (primBase + (32 * t + 10))
  | .box t _ => some (primBase + (32 * t + 11))
  | .binOp o t _ _ _ => match binNo o with | some k => some (primBase + (32 * (32 * t + k) + 12)) | none => none
  | .convert s d _ => if d < 10000 then some (primBase + (32 * (s * 10000 + d) + 14)) else none
  | .buildSlice t n parts => if n < 10000 && parts.toList.map (·.1) == List.range n then some (primBase + (32 * (t * 10000 + n) + 15)) else none
  | .call c => match c.callee, c.argTypes[0]? with
    | .builtin .len, some t => some (primBase + (32 * t + 16))
    | .builtin .cap, some t => some (primBase + (32 * t + 17))
    | .builtin .append, some t => if c.argTypes = #[t, t] then some (primBase + (32 * t + 18)) else match c.argTypes[1]? with | some t2 => if c.argTypes = #[t, t2] ∧ t2 < 10000 then some (primBase + (32 * (t * 10000 + t2) + 22)) else none | none => none
    | .builtin .copy, some t => if c.argTypes = #[t, t] then some (primBase + (32 * t + 19)) else none
    | .builtin .delete, some t => some (primBase + (32 * t + 20))
    | .builtin .clear, some t => some (primBase + (32 * t + 21))
    | _, _ => none
  | _ => none
/-- A function's contract holds. -/
def Con.holdsC [Kinds] (P : Program) (c : Con) (s : ConS) : Prop := ∀ (w : World) (args vs : List Value) (qs : List (Nat × Nat)) (e0 : Env) (h : Nat → OneV) (F : Foot) (g : Value), (∀ h' : Nat → OneV, (h' = h ∨ (c.gh ≠ 0 ∧ ∀ n, n < Kinds.cnt g → h' n = h n)) → Points w h' args c.ptrs vs qs) → ApartQ c.ptrs qs →
  (c.gh ≠ 0 → Kinds.holds w h F g ∧ FootQ F c.ptrs qs) → s (withV c vs g) e0 →
  Calls P c.fn args.toArray w fun e w' => ∃ h' F', GPost (c.gh == 2) (OutS c.ptrs qs) w w' h h' F F' g (e0.g gv) ∧ ∀ (ρ : Env) (base : Nat), ρ.At base e0 → (∀ ι : Lay, AgH c.gh g (e0.g gv) h' ι → e = .returned ((c.res base).val ρ ι)) ∧ Outs w' (AgH c.gh g (e0.g gv) h') ρ base c.ptrs qs
/-- An operation's contract holds. -/
def Con.holdsP [Kinds] (P : Program) (c : Con) (s : ConS) : Prop := ∀ (o : Oper), primKey o.op = some c.fn → ∀ (a : Act) (w : World) (vs : List Value) (e0 : Env) (h : Nat → OneV) (F : Foot) (g : Value), (∀ h' : Nat → OneV, (∀ n, n < Kinds.cnt g → h' n = h n) → o.op.operands.toList.map a.eval = vs.map (concE h')) →
  Kinds.holds w h F g → s (vs ++ [g]) e0 → ∃ x w', (execOp a.eval o).run P w = .ok x w' ∧ ∃ h' F', GPost (c.gh == 2) (fun _ _ => False) w w' h h' F F' g (e0.g gv) ∧
    ∀ (ρ : Env) (base : Nat), ρ.At base e0 → ∀ ι : Lay, AgH c.gh g (e0.g gv) h' ι → x = .value ((c.res base).val ρ ι) ∨ (x = .skip ∧ c.res base = .lit undef)
/-- The contract holds. -/
def Con.runs [Kinds] (P : Program) (c : Con) (s : ConS) : Prop := (c.fn < primBase → c.holdsC P s) ∧ (primBase ≤ c.fn → c.holdsP P s)
/-- Values that lead to no object but the store's. -/
def NoDang [Kinds] (g : Value) (vs : List Value) : Prop := ∃ h : Nat → OneV, ∀ h' : Nat → OneV, (∀ n, n < Kinds.cnt g → h' n = h n) → vs.map (concE h') = vs.map (concE h)
/-- What it asks stays, as the store grows so; how it lets the store grow. -/
def Con.flags [Kinds] (c : Con) (s : ConS) : Prop :=
  (c.rd ≠ 0 → c.gh = 1 ∧ ∀ vs g g' e, Kinds.ext c.rd g g' → NoDang g vs → (s (vs ++ [g]) e ↔ s (vs ++ [g']) e)) ∧
  (c.wr ≠ 0 → ∀ vs g e, s (vs ++ [g]) e → Kinds.ext c.wr g (e.g gv))
def Con.holds [Kinds] (P : Program) (c : Con) (s : ConS) : Prop := c.runs P s ∧ c.flags s

def ptrsE (σ : St) (args : List E) (base : Nat) : List Ptr → Option (List E × List (Nat × List E))
  | [] => if args.all (fun e => e.noPtr || e.pl.isSome) then some (args, []) else none
  | (pos, n, out) :: r => match args[pos]?, ptrsE σ args base r with
    | some (.ptr b o), some (vs, hs) => match σ.heap.get b with
      | some l => if o + n ≤ l.length ∧ ((l.drop o).take n).all E.cellOk then match out with
          | none => if hs.all (fun p => p.1 != b) then some (vs.set pos (.agg ((l.drop o).take n)), hs) else none
          | some f => if (f base).length = n ∧ (hs.all fun p => p.1 != b) ∧ (r.all fun p => match (args[p.1]?).bind E.pl with | some (b', _) => b' != b | _ => false) ∧ b < 1099511627776 then some (vs.set pos (.agg ((l.drop o).take n)), (b, overE l o (f base)) :: hs) else none
        else none
      | none => none
    | some (.slice b o m c), some (vs, hs) => match σ.heap.get b with
      | some l => if o + n ≤ l.length ∧ ((l.drop o).take n).all E.cellOk ∧ m = n ∧ n ≤ c ∧ out.isNone ∧ (hs.all fun p => p.1 != b) then some (vs.set pos (.tup ((l.drop o).take n)), hs) else none
      | none => none
    | _, _ => none

def findCon : List Con → Nat → FuncId → Option (Nat × Con)
  | [], _, _ => none
  | c :: r, i, f => if c.fn = f then some (i, c) else findCon r (i + 1) f
theorem findCon_spec : ∀ {cs : List Con} {i : Nat} {f : FuncId} {ci : Nat} {c : Con}, findCon cs i f = some (ci, c) → i ≤ ci ∧ cs[ci - i]? = some c ∧ c.fn = f
  | [], _, _, _, _, h => by cases h
  | d :: r, i, f, ci, c, h => by
    unfold findCon at h
    split at h
    · cases h; exact ⟨Nat.le_refl _, by simp, by assumption⟩
    · obtain ⟨h1, h2, h3⟩ := findCon_spec h
      refine ⟨by omega, ?_, h3⟩
      rw [show ci - i = (ci - (i + 1)) + 1 by omega, List.getElem?_cons_succ]
      exact h2

structure Eff where
  ns : List C
  call : Option (Nat × Nat × List E)
  res : E
  heap : List (Nat × List E)
  wr : List Nat
  gh : Option Nat := none

def setAll : Tr (List E) → List (Nat × List E) → Tr (List E)
  | h, [] => h
  | h, (k, l) :: r => setAll (h.set k l) r
def setWr : Tr Unit → List Nat → Tr Unit
  | t, [] => t
  | t, k :: r => setWr (t.set k ()) r
def okKey (k : Nat) : Bool := decide (k < 1099511627776)
def ghOf (c : Con) (base : Nat) : Option Nat := if c.gh = 2 then some (base + gv) else none
def withE (c : Con) (σ : St) (vs : List E) : List E := if c.gh = 0 then vs else vs ++ [.var σ.gh]
/-- A place: those are told without a contract. -/
def natP (σ : St) (op : Op) : Bool := match op with
  | .nilCheck x => match σ.opnd x with | some (.pla _ _ _) => true | _ => false
  | .binOp _ _ x y _ => match σ.opnd x, σ.opnd y with | some (.pla _ _ _), some (.lit (.pointer none)) => true | _, _ => false
  | _ => false
/-- An operation on objects. -/
def primE (cs : List Con) (nv : Nat) (σ : St) (i : Nat) (o : Oper) : Option Eff := match primKey o.op with
  | none => none
  | some key => match findCon cs 0 key, σ.opnds o.op.operands.toList with
    | some (ci, c), some vs => if c.ptrs.isEmpty && E.noPtrs vs && E.lts (nv + i * stride) vs && !natP σ o.op && decide (nv + i * stride + stride ≤ σ.nv) && decide (c.gh ≠ 0) then
        some ⟨[], some (ci, nv + i * stride, vs ++ [.var σ.gh]), c.res (nv + i * stride), [], [], ghOf c (nv + i * stride)⟩ else none
    | _, _ => none
def effX (P : Program) (cs : List Con) (nk nv : Nat) (σ : St) (i : Nat) (o : Oper) : Option Eff := match opX P σ o with
  | none => none
  | some (d, ns) => if (ns.all (C.lt (nv + i * stride))) && decide (nv + i * stride + stride ≤ σ.nv) then match d with
    | .val e => some ⟨ns, none, e, [], [], none⟩
    | .new l _ sl => if (σ.heap.get (nk + i)).isNone && okKey (nk + i) && decide (σ.np ≤ nk + i) then some ⟨ns, none, newE sl (nk + i), [(nk + i, l)], [], none⟩ else none
    | .store b o' c => match σ.heap.get b with
      | some l => if okKey b then some ⟨ns, none, .lit undef, [(b, overE l o' c)], [b], none⟩ else none
      | none => none
    | .call f args => match findCon cs 0 f with
      | some (ci, c) => match ptrsE σ args (nv + i * stride) c.ptrs with
        | some (vs, hs) => if E.lts (nv + i * stride) vs && E.noPtrs vs && decide (f < primBase) then some ⟨ns, some (ci, nv + i * stride, withE c σ vs), c.res (nv + i * stride), hs, hs.map (·.1), ghOf c (nv + i * stride)⟩ else none
        | none => none
      | none => none
    else none
def effE (P : Program) (cs : List Con) (nk nv : Nat) (σ : St) (i : Nat) (o : Oper) : Option Eff := match primE cs nv σ i o with
  | some f => some f
  | none => effX P cs nk nv σ i o
def St.app (σ : St) (dst : Option Tmp) (f : Eff) : Option St := match dst with
  | some d => if d < σ.n ∧ σ.n ≤ 1099511627776 then some { σ with tmps := σ.tmps.set d f.res, heap := setAll σ.heap f.heap, wr := setWr σ.wr f.wr, gh := f.gh.getD σ.gh } else none
  | none => some { σ with heap := setAll σ.heap f.heap, wr := setWr σ.wr f.wr, gh := f.gh.getD σ.gh }
def guardE (ops : Array Oper) (σ : St) (o : Oper) : Option C := match o.guard with
  | none => some (.lit true)
  | some (j, want) => match (ops[j]?).bind (·.dst) with
    | none => some (.lit false)
    | some d => match σ.tmps.get d with
      | some (.bool c) => some (if want then c else c.not')
      | some (.lit (.tuple _)) => some (.lit false)
      | _ => none
def skipEff : Eff := ⟨[], none, .lit undef, [], [], none⟩
inductive Step where
  | fail
  | split (c : C)
  | ok (ns : List C) (call : Option (Nat × Nat × List E)) (σ : St)
  | enter (ns : List C) (f : FuncId) (args : List E) (dst : Option Tmp)
/-- An index that is not known yet: is it that one? -/
def askIx (pc : Known) (t : T) : Nat → Nat → Option C
  | 0, _ => none
  | f + 1, j => if Known.other t j pc then askIx pc t f (j + 1) else some (.cmp .eql t (.lit j))
def askE (P : Program) (σ : St) (o : Oper) : Option C := match o.op with
  | .indexAddr t _ i => match σ.opnd i, P.underlying t with
    | some (.int _ (.lit _)), _ => none
    | some (.int _ x), some (.array len _) => if len ≤ 16 then askIx σ.pc x len 0 else none
    | _, _ => none
  | .index t _ i => match σ.opnd i, P.underlying t with
    | some (.int _ (.lit _)), _ => none
    | some (.int _ x), some (.array len _) => if len ≤ 16 then askIx σ.pc x len 0 else none
    | _, _ => none
  | _ => none
def stepE (P : Program) (cs : List Con) (ops : Array Oper) (nk nv : Nat) (i : Nat) (σ : St) : Step := match ops[i]? with
  | none => .ok [] none σ
  | some o => match guardE ops σ o with
    | none => .fail
    | some c => match c.simp σ.pc with
      | .lit true => match effE P cs nk nv σ i o with
        | some f => match σ.app o.dst f with | some σ' => .ok f.ns f.call σ' | none => .fail
        | none => match opX P σ o with
          | some (.call f args, ns) => if (findCon cs 0 f).isNone && ns.all (C.lt (nv + i * stride)) && decide (nv + i * stride + stride ≤ σ.nv) then .enter ns f args o.dst else .fail
          | none => match askE P σ o with | some c => .split c | none => .fail
          | _ => .fail
      | .lit false => match σ.app o.dst skipEff with | some σ' => .ok [] none σ' | none => .fail
      | c' => .split c'

/-- What a call says of the variables. -/
def callOk (S : List ConS) (ρ : Env) : Option (Nat × Nat × List E) → Prop
  | none => True
  | some (ci, base, vs) => ∃ s e, S[ci]? = some s ∧ s (E.nams ρ lay0 vs) e ∧ ρ.At base e
/-- The contracts all hold. -/
def Cons [Kinds] (P : Program) : List Con → List ConS → Prop
  | [], _ => True
  | _ :: _, [] => False
  | c :: cs, s :: S => c.holds P s ∧ Cons P cs S
theorem Cons.at_ [Kinds] {P : Program} : ∀ {cs : List Con} {S : List ConS} {i : Nat} {c : Con} {s : ConS}, Cons P cs S → cs[i]? = some c → S[i]? = some s → c.holds P s
  | [], _, i, c, s, _, h, _ => by simp at h
  | d :: cs, [], i, c, s, h, _, _ => h.elim
  | d :: cs, t :: S, 0, c, s, h, h1, h2 => by simp at h1 h2; subst h1 h2; exact h.1
  | d :: cs, t :: S, i + 1, c, s, h, h1, h2 => Cons.at_ h.2 (by simpa using h1) (by simpa using h2)

/-- One step, with what the variables stand for. -/
def A (P : Program) (cs : List Con) (S : List ConS) (ops : Array Oper) (nk nv : Nat) (ρ : Env) (i : Nat) (σ σ' : St) : Prop :=
  ∃ ns ca, stepE P cs ops nk nv i σ = .ok ns ca σ' ∧ (∀ c ∈ ns, c.den ρ = true) ∧ callOk S ρ ca

theorem get_setAll_out : ∀ (L : List (Nat × List E)) (h : Tr (List E)) (b : Nat), (∀ p ∈ L, p.1 < 1099511627776) → (∀ p ∈ L, p.1 ≠ b) → (setAll h L).get b = h.get b
  | [], _, _, _, _ => rfl
  | (k, l) :: r, h, b, hk, hb => by
    unfold setAll
    rw [get_setAll_out r _ b (fun p hp => hk p (List.mem_cons_of_mem _ hp)) (fun p hp => hb p (List.mem_cons_of_mem _ hp)), Tr.get_set _ _ _ _ (hk _ (List.mem_cons_self ..)), if_neg (fun e => hb _ (List.mem_cons_self ..) e.symm)]
theorem get_setAll_in : ∀ (L : List (Nat × List E)) (h : Tr (List E)) (b : Nat) (l : List E), (∀ p ∈ L, p.1 < 1099511627776) → (L.map (·.1)).Nodup → (b, l) ∈ L → (setAll h L).get b = some l
  | (k, l') :: r, h, b, l, hk, hn, hb => by
    rw [List.map_cons, List.nodup_cons] at hn
    unfold setAll
    cases hb with
    | head =>
      rw [get_setAll_out r _ _ (fun p hp => hk p (List.mem_cons_of_mem _ hp)) (fun p hp e => hn.1 (List.mem_map.2 ⟨p, hp, e⟩)), Tr.get_set _ _ _ _ (hk _ (List.mem_cons_self ..)), if_pos rfl]
    | tail _ hb => exact get_setAll_in r _ b l (fun p hp => hk p (List.mem_cons_of_mem _ hp)) hn.2 hb
theorem get_setWr : ∀ (L : List Nat) (t : Tr Unit) (b : Nat), (∀ k ∈ L, k < 1099511627776) → (((setWr t L).get b).isSome ↔ b ∈ L ∨ (t.get b).isSome)
  | [], t, b, _ => by simp [setWr]
  | k :: r, t, b, hk => by
    unfold setWr
    rw [get_setWr r _ b (fun p hp => hk p (List.mem_cons_of_mem _ hp)), Tr.get_set _ _ _ _ (hk _ (List.mem_cons_self ..))]
    by_cases e : b = k
    · subst e; simp
    · simp [e]

section
variable {ρ : Env} {ι : Lay} {F F' : Foot} {w0 : Base} {σ σ' : St} {a : Act} {w w' : World} {dst : Option Tmp} {f : Eff}
theorem app_heap (h : σ.app dst f = some σ') : σ'.heap = setAll σ.heap f.heap ∧ σ'.wr = setWr σ.wr f.wr ∧ σ'.np = σ.np ∧ σ'.n = σ.n ∧ σ'.nv = σ.nv ∧ σ'.pc = σ.pc ∧ σ'.gh = f.gh.getD σ.gh := by
  unfold St.app at h
  split at h
  · split at h
    · cases h; exact ⟨rfl, rfl, rfl, rfl, rfl, rfl, rfl⟩
    · cases h
  · cases h; exact ⟨rfl, rfl, rfl, rfl, rfl, rfl, rfl⟩
theorem app_tmps (h : σ.app dst f = some σ') {v : Value} (hn : a.tmps.size = σ.n) (ht : ∀ t e, σ.tmps.get t = some e → a.tmps.getD t undef = e.val ρ ι) (hv : v = f.res.val ρ ι) :
    ∀ t e, σ'.tmps.get t = some e → (a.put dst v).tmps.getD t undef = e.val ρ ι := by
  intro t e he
  unfold St.app at h
  split at h
  · rename_i d
    split at h
    · rename_i hd
      cases h
      simp only [] at he
      rw [Tr.get_set _ _ _ _ (Nat.lt_of_lt_of_le hd.1 hd.2)] at he
      split at he
      · rename_i e1
        cases he
        subst e1
        simp [Act.put, hn, hd.1, hv]
      · rename_i e1
        have := ht t e he
        simp only [Act.put, Array.getD_eq_getD_getElem?] at this ⊢
        rw [Array.getElem?_setIfInBounds_ne (fun x => e1 x.symm)]
        exact this
    · cases h
  · cases h
    exact ht t e he
theorem put_size (a : Act) (dst : Option Tmp) (v : Value) : (a.put dst v).tmps.size = a.tmps.size ∧ (a.put dst v).defers = a.defers := by
  cases dst <;> simp [Act.put]

variable [Kinds]
/-- A step that writes blocks that are there. -/
theorem SimAt.app (h : SimAt ρ ι F w0 σ a w) (ha : σ.app dst f = some σ') {S : Nat → Nat → Prop} (hS : Fr S w w') {v : Value} (hv : v = f.res.val ρ ι)
    (hk : ∀ p ∈ f.heap, p.1 < 1099511627776) (hnd : (f.heap.map (·.1)).Nodup) (hwr : f.wr = f.heap.map (·.1))
    (hold : ∀ k l, (k, l) ∈ f.heap → ∃ l0, σ.heap.get k = some l0 ∧ l0.length = l.length)
    (hnew : ∀ k l, (k, l) ∈ f.heap → ∀ (j : Nat) (c : E), l[j]? = some c → w'.cell? ⟨(ι k).1, (ι k).2 + j, none⟩ = some (c.val ρ ι))
    (hS' : ∀ i x, i < w.heap.size → S i x → (∃ k l l0, (k, l) ∈ f.heap ∧ σ.heap.get k = some l0 ∧ i = (ι k).1 ∧ (ι k).2 ≤ x ∧ x < (ι k).2 + l0.length) ∨ F i x)
    (g1 : Kinds.holds w' ι.h F' (ρ.g σ'.gh)) (g2 : ∀ i x, F' i x → F i x ∨ w.heap.size ≤ i) (g3 : Kinds.cnt (ρ.g σ.gh) ≤ Kinds.cnt (ρ.g σ'.gh)) (g4 : σ'.gh < σ'.nv) :
    SimAt ρ ι F' w0 σ' (a.put dst v) w' := by
  obtain ⟨e1, e2, e3, e4, e5, e6, e7⟩ := app_heap ha
  have hlt : ∀ b l, σ.heap.get b = some l → ∀ j, j < l.length → (ι b).1 < w.heap.size := fun b l hb j hj => by
    have := (h.cell b l hb j _ (List.getElem?_eq_getElem hj)).1
    unfold World.cell? at this
    simp only at this
    cases hq : w.heap[(ι b).1]? with
    | none => simp [hq] at this
    | some o => exact (Array.getElem?_eq_some_iff.1 hq).1
  have hlen : ∀ b l, σ'.heap.get b = some l → ∃ l0, σ.heap.get b = some l0 ∧ l0.length = l.length := fun b l hb => by
    rw [e1] at hb
    by_cases hin : ∃ l', (b, l') ∈ f.heap
    · obtain ⟨l', hl'⟩ := hin
      rw [get_setAll_in _ _ _ _ hk hnd hl'] at hb
      cases hb
      exact hold _ _ hl'
    · rw [get_setAll_out _ _ _ hk (fun p hp e => hin ⟨p.2, by rw [← e]; exact hp⟩)] at hb
      exact ⟨l, hb, rfl⟩
  refine ⟨?_, ?_, app_tmps ha h.n h.tmps hv, ?_, ?_, ?_, ?_, ?_, by rw [e6]; exact h.pc, g4, g1, ?_, ?_, h.gpar, Nat.le_trans h.gcnt g3⟩
  · rw [(put_size _ _ _).1, h.n, e4]
  · rw [(put_size _ _ _).2, h.defers]
  · intro b l hb j c hj
    rw [e1] at hb
    by_cases hin : ∃ l', (b, l') ∈ f.heap
    · obtain ⟨l', hl'⟩ := hin
      rw [get_setAll_in _ _ _ _ hk hnd hl'] at hb
      cases hb
      refine ⟨hnew _ _ hl' j c hj, ?_⟩
      obtain ⟨l0, hl0, hlen0⟩ := hold _ _ hl'
      have hj0 : j < l0.length := by rw [hlen0]; exact (List.getElem?_eq_some_iff.1 hj).1
      rw [hS.frozen _ _ (by rw [(h.cell b l0 hl0 j _ (List.getElem?_eq_getElem hj0)).1]; rfl)]
      exact (h.cell b l0 hl0 j _ (List.getElem?_eq_getElem hj0)).2
    · rw [get_setAll_out _ _ _ hk (fun p hp e => hin ⟨p.2, by rw [← e]; exact hp⟩)] at hb
      have hj0 : j < l.length := (List.getElem?_eq_some_iff.1 hj).1
      have hb0 := hlt b l hb j hj0
      have hno : ¬ S (ι b).1 ((ι b).2 + j) := fun hs => by
        rcases hS' _ _ hb0 hs with hs | hs
        rotate_left
        · exact h.gap b l hb j hj0 hs
        obtain ⟨k, l', l0, hk', hl0, hi, hx1, hx2⟩ := hs
        have hne : b ≠ k := fun e => hin ⟨l', by rw [e]; exact hk'⟩
        exact h.apart b k l l0 hb hl0 hne hi j ((ι b).2 + j - (ι k).2) hj0 (by omega) (by omega)
      rw [hS.cell _ _ hb0 hno, hS.frozen _ _ (by rw [(h.cell b l hb j c hj).1]; rfl)]
      exact h.cell b l hb j c hj
  · intro b b' l l' hb hb' hne hi j j' hj hj'
    obtain ⟨l0, h1, h2⟩ := hlen b l hb
    obtain ⟨l0', h1', h2'⟩ := hlen b' l' hb'
    exact h.apart b b' l0 l0' h1 h1' hne hi j j' (by omega) (by omega)
  · intro b l hb hnp
    obtain ⟨l0, h1, _⟩ := hlen b l hb
    exact h.own b l0 h1 (by rw [← e3]; exact hnp)
  · intro b hb
    obtain ⟨h1, h2⟩ := h.par b hb
    refine ⟨?_, h2⟩
    rw [e1]
    by_cases hin : ∃ l', (b, l') ∈ f.heap
    · obtain ⟨l', hl'⟩ := hin
      rw [get_setAll_in _ _ _ _ hk hnd hl']
      rfl
    · rw [get_setAll_out _ _ _ hk (fun p hp e => hin ⟨p.2, by rw [← e]; exact hp⟩)]
      exact h1
  · refine h.fr.trans hS (fun i x _ hx => ?_) (fun i x hi hx => ?_)
    · rcases hx with hx | hx
      rotate_left
      · exact .inr hx
      refine .inl ?_
      obtain ⟨b, l, h1, h2, h3, h4, h5, h6⟩ := hx
      have : ∃ l', σ'.heap.get b = some l' ∧ l'.length = l.length := by
        rw [e1]
        by_cases hin : ∃ l', (b, l') ∈ f.heap
        · obtain ⟨l', hl'⟩ := hin
          obtain ⟨l0, hl0, hlen0⟩ := hold _ _ hl'
          refine ⟨l', get_setAll_in _ _ _ _ hk hnd hl', ?_⟩
          rw [h3] at hl0
          cases hl0
          exact hlen0.symm
        · rw [get_setAll_out _ _ _ hk (fun p hp e => hin ⟨p.2, by rw [← e]; exact hp⟩)]
          exact ⟨l, h3, rfl⟩
      obtain ⟨l', h7, h8⟩ := this
      refine ⟨b, l', ?_, by rw [e3]; exact h2, h7, h4, h5, by omega⟩
      rw [e2, get_setWr _ _ _ (fun k hk' => by rw [hwr] at hk'; obtain ⟨p, hp, e⟩ := List.mem_map.1 hk'; rw [← e]; exact hk p hp)]
      exact .inr h1
    · rcases hS' i x (Nat.lt_of_lt_of_le hi h.fr.size) hx with hx | hx
      rotate_left
      · rcases h.gow i x hx with h1 | h1
        · omega
        · exact .inr h1
      refine .inl ?_
      obtain ⟨k, l, l0, hk', hl0, h1, h2, h3⟩ := hx
      obtain ⟨l1, hl1, hlen1⟩ := hold _ _ hk'
      rw [hl0] at hl1
      cases hl1
      have hnp : k < σ.np := by
        apply Classical.byContradiction
        intro hc
        have := h.own k l0 hl0 (by omega)
        omega
      refine ⟨k, l, ?_, by rw [e3]; exact hnp, by rw [e1]; exact get_setAll_in _ _ _ _ hk hnd hk', h1, h2, by omega⟩
      rw [e2, get_setWr _ _ _ (fun k hk' => by rw [hwr] at hk'; obtain ⟨p, hp, e⟩ := List.mem_map.1 hk'; rw [← e]; exact hk p hp)]
      exact .inl (by rw [hwr]; exact List.mem_map.2 ⟨_, hk', rfl⟩)
  · intro b l hb j hj hF
    obtain ⟨l0, h1, h2⟩ := hlen b l hb
    rcases g2 _ _ hF with hF | hF
    · exact h.gap b l0 h1 j (by omega) hF
    · have := hlt b l0 h1 j (by omega)
      omega
  · intro i x hF
    rcases g2 _ _ hF with hF | hF
    · exact h.gow i x hF
    · exact .inl (Nat.le_trans h.fr.size hF)
/-- The store is kept where blocks alone are written. -/
theorem SimAt.keepG (h : SimAt ρ ι F w0 σ a w) {S : Foot} (hS : Fr S w w')
    (hS' : ∀ i x, i < w.heap.size → S i x → ∃ k l0, σ.heap.get k = some l0 ∧ i = (ι k).1 ∧ (ι k).2 ≤ x ∧ x < (ι k).2 + l0.length) : Kinds.holds w' ι.h F (ρ.g σ.gh) := by
  refine Kinds.keep h.gho hS fun i x hF hs => ?_
  obtain ⟨k, l0, h1, h2, h3, h4⟩ := hS' i x (Kinds.below h.gho hF) hs
  refine h.gap k l0 h1 (x - (ι k).2) (by omega) ?_
  rw [← h2, show (ι k).2 + (x - (ι k).2) = x by omega]
  exact hF

/-- A step that lays a block. -/
theorem SimAt.lay (h : SimAt ρ ι F w0 σ a w) (ha : σ.app dst f = some σ') {key : Nat} {l : List E} {t : TypeId} (hf : f.heap = [(key, l)]) (hw : f.wr = []) (hgh : f.gh = none) {sl : Option Nat} (hr : f.res = newE sl key)
    (hkey : key < 1099511627776) (hfree : σ.heap.get key = none) (hnp : σ.np ≤ key) (hι : ι key = (w.heap.size, 0)) :
    SimAt ρ ι F w0 σ' (a.put dst (newV sl w.heap.size)) (w.alloc (.cells (E.vals ρ ι l).toArray t)) := by
  obtain ⟨e1, e2, e3, e4, e5, e6, e7⟩ := app_heap ha
  rw [hgh] at e7
  simp only [Option.getD_none] at e7
  rw [hf] at e1
  rw [hw] at e2
  have hlt : ∀ b l, σ.heap.get b = some l → ∀ j, j < l.length → (ι b).1 < w.heap.size := fun b l hb j hj => by
    have := (h.cell b l hb j _ (List.getElem?_eq_getElem hj)).1
    unfold World.cell? at this
    simp only at this
    cases hq : w.heap[(ι b).1]? with
    | none => simp [hq] at this
    | some o => exact (Array.getElem?_eq_some_iff.1 hq).1
  have hget : ∀ b, σ'.heap.get b = if b = key then some l else σ.heap.get b := fun b => by
    rw [e1]; unfold setAll setAll; exact Tr.get_set _ _ _ _ hkey
  have hB := (Below.refl w.heap.size w).alloc (Nat.le_refl _) (.cells (E.vals ρ ι l).toArray t)
  refine ⟨?_, ?_, app_tmps ha h.n h.tmps (by rw [hr]; cases sl <;> simp [newE, newV, E.val, hι]), ?_, ?_, ?_, ?_, ?_, by rw [e6]; exact h.pc, by rw [e7, e5]; exact h.glt, by rw [e7]; exact Kinds.keep h.gho (Fr.alloc (fun _ _ => False) w _) (fun _ _ _ hx => hx.elim), ?_, h.gow, h.gpar, by rw [e7]; exact h.gcnt⟩
  · rw [(put_size _ _ _).1, h.n, e4]
  · rw [(put_size _ _ _).2, h.defers]
  · intro b l' hb j c hj
    rw [hget] at hb
    split at hb
    · rename_i e
      cases hb
      subst e
      rw [hι]
      have h1 := heap_alloc_new w (.cells (E.vals ρ ι l).toArray t)
      have h2 : (E.vals ρ ι l).toArray[0 + j]? = some (c.val ρ ι) := by simp [E.vals_get, hj]
      constructor
      · unfold World.cell?
        simp only [h1]
        exact h2
      · unfold World.frozen?
        simp only [h1]
        simp
    · have hj0 : j < l'.length := (List.getElem?_eq_some_iff.1 hj).1
      have hb0 := hlt b l' hb j hj0
      rw [hB.cell (p := ⟨_, _, none⟩) hb0, hB.frozen (p := ⟨_, _, none⟩) hb0]
      exact h.cell b l' hb j c hj
  · intro b b' l1 l2 hb hb' hne hi j j' hj hj'
    rw [hget] at hb hb'
    split at hb
    · rename_i e
      cases hb
      subst e
      rw [if_neg (Ne.symm hne)] at hb'
      have := hlt b' l2 hb' j' hj'
      rw [hι] at hi
      simp only at hi
      omega
    · rename_i e
      split at hb'
      · rename_i e'
        cases hb'
        subst e'
        have := hlt b l1 hb j hj
        rw [hι] at hi
        simp only at hi
        omega
      · exact h.apart b b' l1 l2 hb hb' hne hi j j' hj hj'
  · intro b l' hb hb2
    rw [hget] at hb
    split at hb
    · rename_i e; subst e; rw [hι]; exact h.fr.size
    · exact h.own b l' hb (by rw [← e3]; exact hb2)
  · intro b hb
    obtain ⟨h1, h2⟩ := h.par b hb
    refine ⟨?_, h2⟩
    rw [hget]
    split
    · rfl
    · exact h1
  · refine h.fr.trans (Fr.alloc (fun _ _ => False) w _) (fun i x _ hx => ?_) (fun _ _ _ hx => hx.elim)
    rcases hx with hx | hx
    rotate_left
    · exact .inr hx
    obtain ⟨b, l', h1, h2, h3, h4⟩ := hx
    refine .inl ?_
    exact ⟨b, l', by rw [e2]; exact h1, by rw [e3]; exact h2, by rw [hget, if_neg (by omega)]; exact h3, h4⟩
  · intro b l' hb j hj hF
    rw [hget] at hb
    split at hb
    · rename_i e
      subst e
      have := Kinds.below h.gho hF
      rw [hι] at this
      exact absurd this (Nat.lt_irrefl _)
    · exact h.gap b l' hb j hj hF
end
end Sx
end Go.Proofs.Ytaigdbnfhehclaa
