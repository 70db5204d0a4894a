/-
  What is proved: a block's cells as one array: laws on reading and writing a struct as a whole; no program in sight. No condition.
-/
import Derived.Test.YtaigdbnfhehclaaGrow
import Derived.Deep.MidRow
import Derived.Laws.CopyRow
import Derived.Laws.CopyOwn
namespace Go.Proofs.Ytaigdbnfhehclaa
open Go.RowKit

/-- The cells of block b. -/
def rowOf (w : World) (b : Nat) : Array Value := match w.heap[b]? with | some (.cells cs _ _) => cs | _ => #[]
/-- Each is one cell. -/
def ones (cs : Array Value) : Bool := cs.all (·.oneCell')
/-- n cells from o on. -/
def sub (cs : Array Value) (o n : Nat) : Array Value := cs.extract o (o + n)
/-- Block b is cells, of which none is frozen. -/
def soft (w : World) (b : Nat) : Bool := match w.heap[b]? with | some (.cells _ _ (lo, hi)) => lo == 0 && hi == 0 | _ => false

theorem soft_spec {w : World} {b : Nat} (h : soft w b = true) : ∃ t, w.heap[b]? = some (.cells (rowOf w b) t (0, 0)) := by
  unfold soft at h
  unfold rowOf
  split at h
  · rename_i cs t lo hi he
    simp only [Bool.and_eq_true, beq_iff_eq] at h
    obtain ⟨rfl, rfl⟩ := h
    exact ⟨t, by rw [he]⟩
  · cases h

theorem rowOf_of {w : World} {b : Nat} {cs : Array Value} {t : TypeId} {fr : Nat × Nat} (h : w.heap[b]? = some (.cells cs t fr)) : rowOf w b = cs := by
  unfold rowOf; rw [h]
theorem soft_of {w : World} {b : Nat} {cs : Array Value} {t : TypeId} (h : w.heap[b]? = some (.cells cs t (0, 0))) : soft w b = true := by
  unfold soft; rw [h]; rfl

section
variable (w : World) (b b' i : Nat) (v : Value) (cs : Array Value) (t : TypeId)

theorem rowOf_cell : w.cell? ⟨b, i, none⟩ = (rowOf w b)[i]? := by
  unfold World.cell? rowOf
  simp only
  split <;> simp_all

theorem rowOf_alloc : rowOf (w.alloc (.cells cs t)) b = if b = w.heap.size then cs else rowOf w b := by
  split
  · rename_i h; subst h; exact rowOf_of (heap_alloc_new w _)
  · rename_i h
    unfold rowOf
    have : (w.alloc (.cells cs t)).heap[b]? = w.heap[b]? := by
      show (w.heap.push _)[b]? = _
      rw [Array.getElem?_push, if_neg h]
    rw [this]
theorem soft_alloc : soft (w.alloc (.cells cs t)) b = if b = w.heap.size then true else soft w b := by
  split
  · rename_i h; subst h; exact soft_of (heap_alloc_new w _)
  · rename_i h
    unfold soft
    have : (w.alloc (.cells cs t)).heap[b]? = w.heap[b]? := by
      show (w.heap.push _)[b]? = _
      rw [Array.getElem?_push, if_neg h]
    rw [this]

theorem heap_setCell_at : (w.setCell ⟨b, i, none⟩ v).heap[b']? = if b = b' then (w.heap[b']?).map (fun | .cells c e fr => .cells (c.setIfInBounds i v) e fr | o => o) else w.heap[b']? := by
  simp only [World.setCell, Array.getElem?_modify]
  split <;> rfl

theorem rowOf_setCell : rowOf (w.setCell ⟨b, i, none⟩ v) b' = if b' = b then (rowOf w b).setIfInBounds i v else rowOf w b' := by
  unfold rowOf
  rw [heap_setCell_at]
  by_cases h : b = b'
  · subst h
    simp only [if_true]
    cases hh : w.heap[b]? with
    | none => simp
    | some o => cases o <;> simp
  · rw [if_neg h, if_neg (fun e => h e.symm)]
theorem soft_setCell : soft (w.setCell ⟨b, i, none⟩ v) b' = soft w b' := by
  unfold soft
  rw [heap_setCell_at]
  by_cases h : b = b'
  · rw [if_pos h]
    cases hh : w.heap[b']? with
    | none => simp
    | some o => cases o <;> simp
  · rw [if_neg h]

theorem rowOf_setRow (h : soft w b = true) : rowOf (w.setRow b cs) b' = if b' = b then cs else rowOf w b' := by
  obtain ⟨t, ht⟩ := soft_spec h
  split
  · rename_i e; subst e; exact rowOf_of (setRow_heap w _ _ cs t _ ht)
  · rename_i e; unfold rowOf; rw [setRow_other w b b' cs e]
theorem soft_setRow : soft (w.setRow b cs) b' = soft w b' := by
  unfold soft World.setRow
  simp only [Array.getElem?_modify]
  by_cases h : b = b'
  · rw [if_pos h]
    cases hh : w.heap[b']? with
    | none => simp
    | some o => cases o <;> simp
  · rw [if_neg h]
theorem cell_setRow (h : soft w b = true) : (w.setRow b cs).cell? ⟨b', i, none⟩ = if b' = b then cs[i]? else w.cell? ⟨b', i, none⟩ := by
  rw [rowOf_cell, rowOf_setRow w b b' cs h, rowOf_cell]
  split <;> rfl
theorem frozen_of_soft (h : soft w b = true) : w.frozen? ⟨b, i, none⟩ = false := by
  obtain ⟨t, ht⟩ := soft_spec h
  exact frozen_of_row w b i _ t ht
theorem frozen_setRow (h : soft w b = true) : (w.setRow b cs).frozen? ⟨b', i, none⟩ = w.frozen? ⟨b', i, none⟩ := by
  by_cases e : b' = b
  · subst e
    rw [frozen_of_soft w _ i h]
    exact frozen_of_soft _ _ i (by rw [soft_setRow]; exact h)
  · unfold World.frozen?
    simp only
    rw [setRow_other w b b' cs e]

variable {w}
theorem Ext.row (g : Ext w) (h : b < w.heap.size) : rowOf g.val b = rowOf w b := by unfold rowOf; rw [g.below.block b h]
theorem Ext.soft_ (g : Ext w) (h : b < w.heap.size) : soft g.val b = soft w b := by unfold soft; rw [g.below.block b h]
end

theorem rowOf_drew (w : World) (b : Nat) : rowOf w.drew b = rowOf w b := rfl
theorem soft_drew (w : World) (b : Nat) : soft w.drew b = soft w b := rfl

theorem Below.setRow_ {w0 w : World} (h : Below w0.heap.size w0 w) {b : Nat} (hb : w0.heap.size ≤ b) (cs : Array Value) : Below w0.heap.size w0 (w.setRow b cs) := below_setRow h hb cs

/-- A pointer's block, its offset; whether it is one without a spot. -/
def pb : Value → Nat | .pointer (some a) => a.block | _ => 0
def po : Value → Nat | .pointer (some a) => a.off | _ => 0
def pp : Value → Bool | .pointer (some a) => a.spot.isNone | _ => false
def isAg : Value → Bool | .agg _ => true | _ => false
def agc : Value → Array Value | .agg cs => cs | _ => #[]
section
variable (b o : Nat) (cs : Array Value)
@[go_sem] theorem pb_mk : pb (.pointer (some ⟨b, o, none⟩)) = b := rfl
@[go_sem] theorem po_mk : po (.pointer (some ⟨b, o, none⟩)) = o := rfl
@[go_sem] theorem pp_mk : pp (.pointer (some ⟨b, o, none⟩)) = true := rfl
@[go_sem] theorem isAg_mk : isAg (.agg cs) = true := rfl
@[go_sem] theorem agc_mk : agc (.agg cs) = cs := rfl
end
theorem pp_spec {p : Value} (h : pp p = true) : p = .pointer (some ⟨pb p, po p, none⟩) := by
  unfold pp at h
  split at h
  · rename_i a
    obtain ⟨b, o, s⟩ := a
    simp only [Option.isNone_iff_eq_none] at h
    subst h
    rfl
  · cases h
theorem isAg_spec {v : Value} (h : isAg v = true) : v = .agg (agc v) := by
  unfold isAg at h
  split at h
  · rfl
  · cases h

section
variable {P : Program}
theorem load_row {d : TypeDesc} (t : TypeId) (n : Nat) (hu : P.underlying t = some d) (hd : d.isRow = true) (hi : (P.info? t).map (·.size) = some n) (w : World) (p : Value) (hp : pp p = true) (h : po p + n ≤ (rowOf w (pb p)).size) :
    (Instr.loadAt t p).run P w = .ok (.agg (sub (rowOf w (pb p)) (po p) n)) w := by
  rw [pp_spec hp]
  simp only [pb_mk, po_mk]
  generalize pb p = b at *
  generalize po p = o at *
  have hc : w.rangeAt b o ((rowOf w b).extract o (o + n)).toList := fun j v hv => by
    rw [rowOf_cell]
    simp only [Array.getElem?_toList, Array.getElem?_extract] at hv
    split at hv
    · exact hv
    · cases hv
  rw [run_loadAt_mid w b o t _ d hc hu hd (by rw [hi]; simp; omega)]
  rfl

theorem store_row (t : TypeId) (n : Nat) (hi : (P.info? t).map (·.size) = some n) (w : World) (p v : Value) (hp : pp p = true) (h0 : po p = 0) (hv : isAg v = true)
    (hs : soft w (pb p) = true) (hr : (rowOf w (pb p)).size = n) (hn : (agc v).size = n) (h1 : ones (agc v) = true) :
    (Instr.storeAt t p v).run P w = .ok () (w.setRow (pb p) (agc v)) := by
  rw [pp_spec hp, isAg_spec hv, h0]
  simp only [pb_mk, agc_mk]
  obtain ⟨T, hT⟩ := soft_spec hs
  simp only [Instr.storeAt, Instr.sureAddr, Sem.run_bind, Sem.run_pure, Result.andThen_ok]
  exact run_storeVar_row w _ T t _ _ hT (by rw [hi, hn]) (by omega) h1

/-- The operation 'load', of a struct as a whole. -/
theorem exec_load_row {d : TypeDesc} (t : TypeId) (n : Nat) (hu : P.underlying t = some d) (hd : d.isRow = true) (hi : (P.info? t).map (·.size) = some n) (w : World) (ρ : Operand → Value) (x : Operand)
    (dst : Option Tmp) (ty : TypeId) (pos : String) (af : Array Edge) (gd : Option (Nat × Bool))
    (hp : pp (ρ x) = true) (h : po (ρ x) + n ≤ (rowOf w (pb (ρ x))).size) :
    (execOp ρ ⟨dst, .load t x, ty, pos, af, gd⟩).run P w = .ok (.value (.agg (sub (rowOf w (pb (ρ x))) (po (ρ x)) n))) w := by
  have h1 := load_row t n hu hd hi w (ρ x) hp h
  unfold execOp
  simp only [Sem.run_bind, h1, Result.andThen_ok, Sem.run_pure]

theorem exec_store_row (t : TypeId) (n : Nat) (hi : (P.info? t).map (·.size) = some n) (w : World) (ρ : Operand → Value) (x y : Operand)
    (dst : Option Tmp) (ty : TypeId) (pos : String) (af : Array Edge) (gd : Option (Nat × Bool))
    (hp : pp (ρ x) = true) (h0 : po (ρ x) = 0) (hv : isAg (ρ y) = true)
    (hs : soft w (pb (ρ x)) = true) (hr : (rowOf w (pb (ρ x))).size = n) (hn : (agc (ρ y)).size = n) (h1 : ones (agc (ρ y)) = true) :
    (execOp ρ ⟨dst, .store t x y, ty, pos, af, gd⟩).run P w = .ok .skip (w.setRow (pb (ρ x)) (agc (ρ y))) := by
  have h2 := store_row t n hi w (ρ x) (ρ y) hp h0 hv hs hr hn h1
  unfold execOp
  simp only [Sem.run_bind, h2, Result.andThen_ok, Sem.run_pure]

/-- A struct that is read as a function's result. -/
theorem var_row {d : TypeDesc} (t : TypeId) (n : Nat) (hu : P.underlying t = some d) (hd : d.isRow = true) (hi : (P.info? t).map (·.size) = some n) (w : World) (b o : Nat) (h : o + n ≤ (rowOf w b).size) :
    (loadVar t ⟨b, o, none⟩).run P w = .ok (.agg (sub (rowOf w b) o n)) w := by
  have h1 := load_row t n hu hd hi w (.pointer (some ⟨b, o, none⟩)) rfl h
  simp only [Instr.loadAt, Instr.sureAddr, Sem.run_bind, Sem.run_pure, Result.andThen_ok] at h1
  exact h1

theorem results_row {fn : Func} {p : Tmp} {d : TypeDesc} {t : TypeId} {n : Nat} (hr : fn.results = #[.cell p t]) (hu : P.underlying t = some d) (hd : d.isRow = true) (hi : (P.info? t).map (·.size) = some n)
    (tmps : Array Value) (w : World) (b : Nat) (hp : tmps.getD p undef = .pointer (some ⟨b, 0, none⟩)) {cs : Array Value} (hc : rowOf w b = cs) (hn : cs.size = n) :
    (results fn tmps).run P w = .ok (.agg cs) w := by
  have h1 := var_row t n hu hd hi w b 0 (by rw [hc]; omega)
  have hp' : tmps[p]?.getD undef = .pointer (some ⟨b, 0, none⟩) := by simpa using hp
  have e : sub (rowOf w b) 0 n = cs := by rw [hc, ← hn]; simp [sub]
  rw [e] at h1
  simp [results, hr, hp', asAddr, h1]
/-- The same, with two results more behind it, which lie in slots. -/
theorem results_row2 {fn : Func} {p u v : Tmp} {d : TypeDesc} {t : TypeId} {n : Nat} (hr : fn.results = #[.cell p t, .tmp u, .tmp v]) (hu : P.underlying t = some d) (hd : d.isRow = true) (hi : (P.info? t).map (·.size) = some n)
    (tmps : Array Value) (w : World) (b : Nat) (hp : tmps.getD p undef = .pointer (some ⟨b, 0, none⟩)) {cs : Array Value} (hc : rowOf w b = cs) (hn : cs.size = n) :
    (results fn tmps).run P w = .ok (.tuple #[.agg cs, tmps.getD u undef, tmps.getD v undef]) w := by
  have h1 := var_row t n hu hd hi w b 0 (by rw [hc]; omega)
  have hp' : tmps[p]?.getD undef = .pointer (some ⟨b, 0, none⟩) := by simpa using hp
  have e : sub (rowOf w b) 0 n = cs := by rw [hc, ← hn]; simp [sub]
  rw [e] at h1
  simp [results, hr, hp', asAddr, h1]
end
/-- The least and the greatest of four, as the builtins reckon them. -/
def min4 (x y z u : Int) : Int := if u < (if z < (if y < x then y else x) then z else (if y < x then y else x)) then u else (if z < (if y < x then y else x) then z else (if y < x then y else x))
def max4 (x y z u : Int) : Int := if (if (if x < y then y else x) < z then z else (if x < y then y else x)) < u then u else (if (if x < y then y else x) < z then z else (if x < y then y else x))
theorem min4_le (x y z u : Int) : min4 x y z u ≤ x ∧ min4 x y z u ≤ y ∧ min4 x y z u ≤ z ∧ min4 x y z u ≤ u := by unfold min4; (repeat' split) <;> omega
theorem le_max4 (x y z u : Int) : x ≤ max4 x y z u ∧ y ≤ max4 x y z u ∧ z ≤ max4 x y z u ∧ u ≤ max4 x y z u := by unfold max4; (repeat' split) <;> omega
theorem run_min4 {P : Program} (ts : Array TypeId) (t : TypeId) (x y z u : Int) (w : World) : (Builtin.min_ ts t #[.int .i64 x, .int .i64 y, .int .i64 z, .int .i64 u]).run P w = .ok (.int .i64 (min4 x y z u)) w := by
  simp [Builtin.min_, Builtin.min2, min4]
theorem run_max4 {P : Program} (ts : Array TypeId) (t : TypeId) (x y z u : Int) (w : World) : (Builtin.max_ ts t #[.int .i64 x, .int .i64 y, .int .i64 z, .int .i64 u]).run P w = .ok (.int .i64 (max4 x y z u)) w := by
  simp [Builtin.max_, Builtin.max2, max4]
attribute [go_sem] run_min4 run_max4
end Go.Proofs.Ytaigdbnfhehclaa
