/- What is proved: the walk of swap.Next (layer 23). Condition: terms from 0 to 1024. -/
import Derived.Test.YtmhbkiabndookaaV3
import Derived.Deep.RegionHeld3
import Derived.RegionTactic
import Derived.Deep.DeepCutAuto
namespace Go.Proofs.Ytmhbkiabndookaa
open Go.RowKit

theorem setRow_after (w : World) (b o : Nat) (v : Value) (cs : Array Value) : (w.setCell ⟨b, o, none⟩ v).setRow b cs = w.setRow b cs := by
  unfold World.setRow World.setCell
  simp only
  congr 1
  apply Array.ext_getElem?
  intro j
  simp only [Array.getElem?_modify]
  by_cases h : b = j
  · simp only [h, if_true]
    cases hh : w.heap[j]? with
    | none => simp
    | some o => cases o <;> simp
  · simp only [h, if_false]
theorem setRow_self (w : World) (b : Nat) : w.setRow b (rowOf w b) = w := by
  have e : ∀ h, h = w.heap → ({ w with heap := h } : World) = w := by rintro _ rfl; rfl
  unfold World.setRow
  refine e _ ?_
  apply Array.ext_getElem?
  intro j
  simp only [Array.getElem?_modify]
  by_cases h : b = j
  · subst h
    unfold rowOf
    simp only [if_true]
    cases hh : w.heap[b]? with
    | none => simp
    | some o => cases o <;> simp
  · simp only [h, if_false]
theorem setCells_row (b : Nat) : ∀ (vs : List Value) (o : Nat) (w : World), w.setCells b o vs = w.setRow b (over (rowOf w b) o vs)
  | [], o, w => (setRow_self w b).symm
  | v :: r, o, w => by
    show (w.setCell ⟨b, o, none⟩ v).setCells b (o + 1) r = _
    rw [setCells_row b r (o + 1) _, setRow_after, rowOf_setCell, if_pos rfl]
    rfl
theorem store_mid {P : Program} (t : TypeId) (n : Nat) (hi : (P.info? t).map (·.size) = some n) (w : World) (ρ : Operand → Value) (x y : Operand)
    (dst : Option Tmp) (ty : TypeId) (pos : String) (af : Array Edge) (gd : Option (Nat × Bool))
    (hp : pp (ρ x) = true) (hv : isAg (ρ y) = true) (hs : soft w (pb (ρ x)) = true) (hr : po (ρ x) + n ≤ (rowOf w (pb (ρ x))).size) (hn : (agc (ρ y)).size = n) (h1 : ones (agc (ρ y)) = true) :
    (execOp ρ ⟨dst, .store t x y, ty, pos, af, gd⟩).run P w = .ok .skip (w.setRow (pb (ρ x)) (over (rowOf w (pb (ρ x))) (po (ρ x)) (agc (ρ y)).toList)) := by
  have h2 : (Instr.storeAt t (ρ x) (ρ y)).run P w = .ok () (w.setRow (pb (ρ x)) (over (rowOf w (pb (ρ x))) (po (ρ x)) (agc (ρ y)).toList)) := by
    have ht : w.there (pb (ρ x)) (po (ρ x)) (agc (ρ y)).size := fun j hj => by
      refine ⟨?_, frozen_of_soft _ _ _ hs⟩
      rw [rowOf_cell, Array.getElem?_eq_getElem (by omega)]
      rfl
    have := run_storeAt_mid (P := P) w (pb (ρ x)) (po (ρ x)) t (agc (ρ y)) ht (by rw [hi, hn]) h1
    rw [← pp_spec hp, ← isAg_spec hv, setCells_row] at this
    exact this
  unfold execOp
  simp only [Sem.run_bind, h2, Result.andThen_ok, Sem.run_pure]
theorem store27 (w : World) (ρ : Operand → Value) (x y : Operand) (dst : Option Tmp) (ty : TypeId) (pos : String) (af : Array Edge) (gd : Option (Nat × Bool))
    (hp : pp (ρ x) = true) (hv : isAg (ρ y) = true) (hs : soft w (pb (ρ x)) = true) (hr : po (ρ x) + 32 ≤ (rowOf w (pb (ρ x))).size) (hn : (agc (ρ y)).size = 32) (h1 : ones (agc (ρ y)) = true) :
    (execOp ρ ⟨dst, .store 27 x y, ty, pos, af, gd⟩).run Try.prog w = .ok .skip (w.setRow (pb (ρ x)) (over (rowOf w (pb (ρ x))) (po (ρ x)) (agc (ρ y)).toList)) :=
  store_mid 27 32 (by kernel_rfl) w ρ x y dst ty pos af gd hp hv hs hr hn h1
def iAt (v : Value) (i : Nat) : Int := match (agc v)[i]? with | some (.int _ n) => n | _ => 0
def bAt (v : Value) (i : Nat) : Bool := match (agc v)[i]? with | some (.bool b) => b | _ => false
def tOf (v : Value) : T := ⟨iAt v 0, iAt v 1, iAt v 2, iAt v 3, iAt v 4, iAt v 5, iAt v 6, iAt v 7, iAt v 8⟩
def sOf (v : Value) : S := ⟨⟨iAt v 0, iAt v 1, iAt v 2, iAt v 3, iAt v 4, iAt v 5, iAt v 6, iAt v 7, fun i => iAt v (8 + i), iAt v 40⟩, iAt v 41, bAt v 42, fun i => iAt v (43 + i)⟩
def fOf (v : Value) : F := ⟨iAt v 0, iAt v 1, iAt v 2, iAt v 3, iAt v 4, iAt v 5, iAt v 6, iAt v 7, bAt v 8, fun i => iAt v (9 + i)⟩
theorem tOf_mk (t : T) : (tOf (.agg t.cells)).cells = t.cells := by kernel_rfl
theorem sOf_mk (s : S) : (sOf (.agg s.cells)).cells = s.cells := by kernel_rfl
theorem fOf_mk (f : F) : (fOf (.agg f.cells)).cells = f.cells := by kernel_rfl
theorem vOf_mk (t : T) (s : S) (f : F) : vcells (tOf (.agg t.cells)) (sOf (.agg s.cells)) (fOf (.agg f.cells)) = vcells t s f := by kernel_rfl
theorem run_build64 (w : World) (t : T) (s : S) (f : F) : (Instr.build 64 #[(0, .agg t.cells), (1, .agg s.cells), (2, .agg f.cells)]).run Try.prog w = .ok (.agg (vcells t s f)) w := by kernel_rfl
theorem build64 (w : World) (ρ : Operand → Value) (x y z : Operand) (dst : Option Tmp) (ty : TypeId) (pos : String) (af : Array Edge) (gd : Option (Nat × Bool)) (hx : ρ x = .agg (tOf (ρ x)).cells) (hy : ρ y = .agg (sOf (ρ y)).cells) (hz : ρ z = .agg (fOf (ρ z)).cells) :
    (execOp ρ ⟨dst, .build 64 #[(0, x), (1, y), (2, z)], ty, pos, af, gd⟩).run Try.prog w = .ok (.value (.agg (vcells (tOf (ρ x)) (sOf (ρ y)) (fOf (ρ z))))) w := by
  have h := run_build64 w (tOf (ρ x)) (sOf (ρ y)) (fOf (ρ z))
  rw [← hx, ← hy, ← hz] at h
  unfold execOp
  simp only [Sem.run_bind, Sem.run_pure, List.map_toArray, List.map_cons, List.map_nil, h, Result.andThen_ok]
theorem store69 (w : World) (ρ : Operand → Value) (x y : Operand) (dst : Option Tmp) (ty : TypeId) (pos : String) (af : Array Edge) (gd : Option (Nat × Bool))
    (hp : pp (ρ x) = true) (h0 : po (ρ x) = 0) (hv : isAg (ρ y) = true) (hs : soft w (pb (ρ x)) = true) (hr : (rowOf w (pb (ρ x))).size = 3) (hn : (agc (ρ y)).size = 3) (h1 : ones (agc (ρ y)) = true) :
    (execOp ρ ⟨dst, .store 69 x y, ty, pos, af, gd⟩).run Try.prog w = .ok .skip (w.setRow (pb (ρ x)) (agc (ρ y))) :=
  exec_store_row 69 3 (by kernel_rfl) w ρ x y dst ty pos af gd hp h0 hv hs hr hn h1
theorem ones_rule (f : Nat) (a b : Int) : ones #[.func (Fn.func f) #[] #[], .int .i64 a, .int .i64 b] = true := by simp [ones, Value.oneCell']
attribute [go_sem] ones_rule
attribute [go_sem ↓] store27 build64 store69
attribute [local go_sem ↓] rowOf_cell
attribute [go_sem] s_over tOf_mk sOf_mk fOf_mk vOf_mk

/-- The swap, with the secret that is seen. -/
def S.seen (s : S) (f : F) : S := if s.kn = false ∧ f.seen = true then { s with kn := true, se := f.se } else s

theorem range_of_row {w : World} {b : Nat} {cs : Array Value} (h : rowOf w b = cs) (o n : Nat) : w.rangeAt b o (sub cs o n).toList := fun j v hv => by
  rw [rowOf_cell, h]
  unfold sub at hv
  simp only [Array.getElem?_toList, Array.getElem?_extract] at hv
  split at hv
  · exact hv
  · cases hv
theorem range_set {w : World} {b o b' i : Nat} {v : Value} {cs : List Value} (h : w.rangeAt b o cs) (hne : b ≠ b') : (w.setCell ⟨b', i, none⟩ v).rangeAt b o cs := fun j x hx => by
  rw [rowOf_cell, rowOf_setCell, if_neg hne, ← rowOf_cell]
  exact h j x hx
theorem range_setRow {w : World} {b o b' : Nat} {c : Array Value} {cs : List Value} (h : w.rangeAt b o cs) (hne : b ≠ b') (hs : soft w b' = true) : (w.setRow b' c).rangeAt b o cs := fun j x hx => by
  rw [rowOf_cell, rowOf_setRow _ _ _ _ hs, if_neg hne, ← rowOf_cell]
  exact h j x hx

theorem there_of_row {w : World} {b o n : Nat} (hs : soft w b = true) (h : o + n ≤ (rowOf w b).size) : w.there b o n := fun j hj => by
  refine ⟨?_, frozen_of_soft _ _ _ hs⟩
  rw [rowOf_cell, Array.getElem?_eq_getElem (by omega)]
  rfl
theorem there_set {w : World} {b o n b' i : Nat} {v : Value} (h : w.there b o n) : (w.setCell ⟨b', i, none⟩ v).there b o n := fun j hj => by
  refine ⟨?_, ?_⟩
  · have := (h j hj).1
    rw [rowOf_cell] at this ⊢
    rw [rowOf_setCell]
    split
    · rename_i e
      subst e
      rw [Array.getElem?_setIfInBounds]
      split
      · rename_i e2
        split
        · rfl
        · rename_i e3
          rw [← e2, Array.getElem?_eq_none (by omega)] at this
          cases this
      · exact this
    · exact this
  · have := (h j hj).2
    rw [← this]
    exact World.frozen?_setCells b' [v] i w _

/-- What the call holds: terms, swap, facts, the result's room. -/
structure NW (t : T) (s : S) (f : F) (w wr : World) : Prop where
  r0 : rowOf wr w.heap.size = t.cells
  r1 : rowOf wr (w.heap.size + 1) = s.cells
  s1 : soft wr (w.heap.size + 1) = true
  r2 : rowOf wr (w.heap.size + 1 + 1) = f.cells
  r3 : rowOf wr (w.heap.size + 1 + 1 + 1) = S.zero.cells
  s3 : soft wr (w.heap.size + 1 + 1 + 1) = true
  size : wr.heap.size = w.heap.size + 1 + 1 + 1 + 1
  below : Below w.heap.size w wr

theorem nw_first (t : T) (s : S) (f : F) (w : World) : NW t s f w ((((w.alloc (.cells t.cells 23)).alloc (.cells s.cells 31)).alloc (.cells f.cells 34)).alloc (.cells S.zero.cells 31)) :=
  ⟨by simp [rowOf_alloc]; rw [if_neg (by omega), if_neg (by omega)], by simp [rowOf_alloc], by simp [soft_alloc], by simp [rowOf_alloc], by simp [rowOf_alloc], by simp [soft_alloc], by simp,
    ((((Below.refl _ w).alloc (Nat.le_refl _) _).alloc (by simp) _).alloc (by simp; omega) _).alloc (by simp; omega) _⟩
theorem NW.known {t : T} {s s' : S} {f : F} {w W : World} (h : NW t s f w W) (v : Value) : NW t s' f w ((W.setCell ⟨w.heap.size + 1, 42, none⟩ v).drew.setRow (w.heap.size + 1) s'.cells) := by
  have hs : soft (W.setCell ⟨w.heap.size + 1, 42, none⟩ v).drew (w.heap.size + 1) = true := by rw [soft_drew, soft_setCell]; exact h.s1
  have e : ∀ b, b ≠ w.heap.size + 1 → rowOf ((W.setCell ⟨w.heap.size + 1, 42, none⟩ v).drew.setRow (w.heap.size + 1) s'.cells) b = rowOf W b := fun b hb => by
    rw [rowOf_setRow _ _ _ _ hs, if_neg hb, rowOf_drew, rowOf_setCell, if_neg hb]
  have z : ((W.setCell ⟨w.heap.size + 1, 42, none⟩ v).drew.setRow (w.heap.size + 1) s'.cells).heap.size = W.heap.size := by simp [World.setRow, World.setCell, World.drew]
  refine ⟨by rw [e _ (by omega)]; exact h.r0, by rw [rowOf_setRow _ _ _ _ hs, if_pos rfl], by rw [soft_setRow]; exact hs, by rw [e _ (by omega)]; exact h.r2, by rw [e _ (by omega)]; exact h.r3, ?_, by rw [z]; exact h.size, Below.setRow_ ((h.below.setCell (by simp) _).drew) (by omega) _⟩
  rw [soft_setRow, soft_drew, soft_setCell]
  exact h.s3
/-- The same, with the view. -/
structure NV (t : T) (s : S) (f : F) (w wr : World) : Prop where
  r1 : rowOf wr (w.heap.size + 1) = s.cells
  s1 : soft wr (w.heap.size + 1) = true
  s3 : soft wr (w.heap.size + 1 + 1 + 1) = true
  r3 : rowOf wr (w.heap.size + 1 + 1 + 1) = S.zero.cells
  r4 : rowOf wr (w.heap.size + 1 + 1 + 1 + 1) = vcells t s f
  size : w.heap.size + 1 + 1 + 1 + 1 < wr.heap.size
  below : Below w.heap.size w wr
theorem NW.view {t : T} {s : S} {f : F} {w W : World} (h : NW t s f w W) : NV t s f w (W.alloc (.cells (vcells t s f) 64)) := by
  have hz := h.size
  refine ⟨?_, ?_, ?_, ?_, ?_, by simp; omega, h.below.alloc (by omega) _⟩
  · rw [rowOf_alloc, if_neg (by omega)]; exact h.r1
  · rw [soft_alloc, if_neg (by omega)]; exact h.s1
  · rw [soft_alloc, if_neg (by omega)]; exact h.s3
  · rw [rowOf_alloc, if_neg (by omega)]; exact h.r3
  · rw [rowOf_alloc, if_pos hz.symm]
theorem NW.view' {t : T} {s : S} {f : F} {w W : World} (h : NW t s f w W) (k : Nat) (hk : k = W.heap.size) (zs : Array Value) : NV t s f w ((W.alloc (.cells zs 64)).setRow k (vcells t s f)) := by
  subst hk
  have hz := h.size
  have hs : soft (W.alloc (.cells zs 64)) W.heap.size = true := by rw [soft_alloc, if_pos rfl]
  have e : ∀ b, b ≠ W.heap.size → rowOf ((W.alloc (.cells zs 64)).setRow W.heap.size (vcells t s f)) b = rowOf W b := fun b hb => by
    rw [rowOf_setRow _ _ _ _ hs, if_neg hb, rowOf_alloc, if_neg hb]
  have e2 : ∀ b, b ≠ W.heap.size → soft ((W.alloc (.cells zs 64)).setRow W.heap.size (vcells t s f)) b = soft W b := fun b hb => by
    rw [soft_setRow, soft_alloc, if_neg hb]
  refine ⟨?_, ?_, ?_, ?_, ?_, by simp [World.setRow]; omega, Below.setRow_ (h.below.alloc (by omega) _) (by omega) _⟩
  · rw [e _ (by omega)]; exact h.r1
  · rw [e2 _ (by omega)]; exact h.s1
  · rw [e2 _ (by omega)]; exact h.s3
  · rw [e _ (by omega)]; exact h.r3
  · rw [← hz, rowOf_setRow _ _ _ _ hs, if_pos rfl]
theorem at_world {P : Program} {c : Code} {Q : Exit → Act → World → Prop} {a : Act} {W : World} (C : World → Prop) (hC : C W) (h : ∀ wr, C wr → c.wp P Q a wr) : c.wp P Q a W := h W hC
theorem seen_yes {s : S} {f : F} (h1 : s.kn = false) (h2 : f.seen = true) : s.seen f = { s with kn := true, se := f.se } := if_pos ⟨h1, h2⟩
theorem seen_no1 {s : S} (f : F) (h1 : s.kn = true) : s.seen f = s := if_neg (fun h => by rw [h1] at h; exact absurd h.1 (by decide))
theorem seen_no2 (s : S) {f : F} (h2 : f.seen = false) : s.seen f = s := if_neg (fun h => by rw [h2] at h; exact absurd h.2 (by decide))

theorem NV.ext {t : T} {s : S} {f : F} {w W : World} (h : NV t s f w W) (g : Ext W) : NV t s f w g.val := by
  have hz := h.size
  have gz := g.size
  exact ⟨by rw [g.row _ (by omega)]; exact h.r1, by rw [g.soft_ _ (by omega)]; exact h.s1, by rw [g.soft_ _ (by omega)]; exact h.s3, by rw [g.row _ (by omega)]; exact h.r3, by rw [g.row _ (by omega)]; exact h.r4, by omega, g.up h.below⟩

/-- What is left to be held when a rule has spoken. -/
structure NX (t : T) (s : S) (r : Ru) (w : World) (n : Nat) (wr : World) : Prop where
  r1 : rowOf wr (w.heap.size + 1) = s.cells
  s1 : soft wr (w.heap.size + 1) = true
  s3 : soft wr (w.heap.size + 1 + 1 + 1) = true
  r3 : rowOf wr (w.heap.size + 1 + 1 + 1) = S.zero.cells
  r : rowOf wr n = #[.func (Fn.func r.fn) #[] #[], .int .i64 r.mv, .int .i64 r.st]
  lt : w.heap.size + 1 + 1 + 1 < n
  below : Below w.heap.size w wr
theorem NV.says {t : T} {s : S} {f : F} {w W : World} (h : NV t s f w W) (r : Ru) (zs : Array Value) (g : Ext ((W.alloc (.cells zs 69)).setRow W.heap.size #[.func (Fn.func r.fn) #[] #[], .int .i64 r.mv, .int .i64 r.st])) : NX t s r w W.heap.size g.val := by
  have hz := h.size
  have hs : soft (W.alloc (.cells zs 69)) W.heap.size = true := by rw [soft_alloc, if_pos rfl]
  have hh : ((W.alloc (.cells zs 69)).setRow W.heap.size #[.func (Fn.func r.fn) #[] #[], .int .i64 r.mv, .int .i64 r.st]).heap.size = W.heap.size + 1 := by simp [World.setRow]
  have e : ∀ b, b < W.heap.size → rowOf g.val b = rowOf W b ∧ soft g.val b = soft W b := fun b hb => by
    rw [g.row _ (by omega), g.soft_ _ (by omega), rowOf_setRow _ _ _ _ hs, if_neg (by omega), soft_setRow, rowOf_alloc, if_neg (by omega), soft_alloc, if_neg (by omega)]
    exact ⟨rfl, rfl⟩
  refine ⟨by rw [(e _ (by omega)).1]; exact h.r1, by rw [(e _ (by omega)).2]; exact h.s1, by rw [(e _ (by omega)).2]; exact h.s3, by rw [(e _ (by omega)).1]; exact h.r3, ?_, by omega, g.up (Below.setRow_ (h.below.alloc (by omega) _) (by omega) _)⟩
  rw [g.row _ (by omega), rowOf_setRow _ _ _ _ hs, if_pos rfl]
theorem back_below {W : World} (cs : Array Value) (zs : Array Value) (g : Ext ((W.alloc (.cells zs 69)).setRow W.heap.size cs)) : Below W.heap.size W g.val :=
  g.up (Below.setRow_ ((Below.refl _ W).alloc (Nat.le_refl _) _) (Nat.le_refl _) _)

theorem NX.state {t : T} {s : S} {r : Ru} {w W : World} {n : Nat} (h : NX t s r w n W) (v : Int) : NX t { s with st := v } r w n (W.setCell ⟨w.heap.size + 1, 41, none⟩ (.int .i64 v)) := by
  have hz := h.lt
  refine ⟨by rw [rowOf_setCell, if_pos rfl, h.r1, s_set41], by rw [soft_setCell]; exact h.s1, by rw [soft_setCell]; exact h.s3, by rw [rowOf_setCell, if_neg (by omega)]; exact h.r3, by rw [rowOf_setCell, if_neg (by omega)]; exact h.r, hz, h.below.setCell (by simp) _⟩

/-- What a rule's function says. -/
def saysB (t : T) (s : S) (f : F) (k : Nat) : Bool :=
  if k = 34 then is1 f else if k = 35 then is2 t s f else if k = 37 then is3 t s f else if k = 39 then is4 t f else if k = 40 then is5 t s f else if k = 41 then is6 s f else if k = 44 then is7 t s f else if k = 45 then is8 t f else if k = 46 then is9 f else true
def allRules (s : S) : List Ru := rulesOf s.st ++ [⟨24, 0, s.st⟩]
theorem rules_fn {s : S} {r : Ru} (hr : r ∈ allRules s) : r.fn = 34 ∨ r.fn = 35 ∨ r.fn = 37 ∨ r.fn = 39 ∨ r.fn = 40 ∨ r.fn = 41 ∨ r.fn = 44 ∨ r.fn = 45 ∨ r.fn = 46 ∨ r.fn = 24 := by
  unfold allRules rulesOf at hr
  rw [List.mem_append] at hr
  rcases hr with hr | hr
  · (repeat' split at hr) <;> simp only [List.mem_cons, List.not_mem_nil, or_false] at hr
    · rcases hr with rfl | rfl | rfl <;> simp
    · rcases hr with rfl | rfl | rfl | rfl <;> simp
    · rcases hr with rfl | rfl <;> simp
  · simp only [List.mem_singleton] at hr
    subst hr
    simp
theorem says_enter {s : S} {r : Ru} (hr : r ∈ allRules s) (v : Array Value) (w : World) : (callFunc r.fn v).run Try.prog w = .ok (.enter r.fn v) w := by
  rcases rules_fn hr with h | h | h | h | h | h | h | h | h | h <;> rw [h] <;> kernel_rfl
theorem says_any {t : T} (ht : t.Ok) {s : S} (f : F) {r : Ru} (hr : r ∈ allRules s) (w : World) : Calls Try.prog r.fn #[.agg (vcells t s f)] w (Ret (.bool (saysB t s f r.fn)) w) := by
  rcases rules_fn hr with h | h | h | h | h | h | h | h | h | h <;> rw [h]
  · exact rule1 t s f w
  · exact rule2 t s f w ht
  · exact rule3 t s f w
  · exact rule4 t s f w
  · exact rule5 t s f w ht
  · exact rule6 t s f w
  · exact rule7 t s f w ht
  · exact rule8 t s f w
  · exact rule9 t s f w
  · exact always_view t s f w
/-- The move that a swap asks for, and what becomes of it. -/
def S.next (s : S) (t : T) (f : F) : Int × S := match (allRules (s.seen f)).find? (fun r => saysB t (s.seen f) f r.fn) with
  | some r => (r.mv, { s.seen f with st := r.st })
  | none => (0, s.seen f)
theorem next_at {t : T} {s s' : S} {f : F} (e : s.seen f = s') {k : Nat} {r : Ru} (hk : (allRules s')[k]? = some r) (hr : saysB t s' f r.fn = true) (hj : ∀ j q, j < k → (allRules s')[j]? = some q → saysB t s' f q.fn = false) :
    s.next t f = (r.mv, { s' with st := r.st }) := by
  unfold S.next
  rw [e]
  have : (allRules s').find? (fun r => saysB t s' f r.fn) = some r := by
    rw [List.find?_eq_some_iff_getElem]
    obtain ⟨hlt, he⟩ := List.getElem?_eq_some_iff.1 hk
    refine ⟨hr, k, hlt, he, fun j hjk => ?_⟩
    have := hj j ((allRules s')[j]) hjk (List.getElem?_eq_getElem (by omega))
    simp [this]
  rw [this]

theorem results_tmp_row {P : Program} {fn : Func} {p u : Tmp} {d : TypeDesc} {t : TypeId} {n : Nat} (hr : fn.results = #[.tmp u, .cell p t]) (hu : P.underlying t = some d) (hd : d.isRow = true) (hi : (P.info? t).map (·.size) = some n)
    (tmps : Array Value) (w : World) (b : Nat) (hp : tmps.getD p undef = .pointer (some ⟨b, 0, none⟩)) {cs : Array Value} (hc : rowOf w b = cs) (hn : cs.size = n) :
    (results fn tmps).run P w = .ok (.tuple #[tmps.getD u undef, .agg cs]) w := by
  have h1 := var_row t n hu hd hi w b 0 (by rw [hc]; omega)
  have hp' : tmps[p]?.getD undef = .pointer (some ⟨b, 0, none⟩) := by simpa using hp
  have e : sub (rowOf w b) 0 n = cs := by rw [hc, ← hn]; simp [sub]
  rw [e] at h1
  simp [results, hr, hp', asAddr, h1]

/-- What the loop over the rules holds. -/
def RN (t : T) (s : S) (f : F) (w : World) (B N : Nat) (v : Value) (i : Value) (wr : World) : Prop := ∃ k : Nat, k ≤ N ∧ i = .int .i64 (k : Int) ∧ NV t s f w wr ∧ wr.ownsRow B 69 3 v N (rcells (allRules s)) ∧
  ∀ j q, j < k → (allRules s)[j]? = some q → saysB t s f q.fn = false

/-- The letters of the region that makes the rules. -/
def K4 (i : Nat) : Bool := i == 2 || i == 6 || i == 7
def mk4 (n : Nat) (i : Nat) (x : Option Addr × Nat) : Value := match i with
  | 2 => .slice x.1 n n
  | 6 => .slice x.1 1 1
  | _ => .slice x.1 (n + 1) x.2
def ob4 (B : Nat) (L : List Ru) (r : Ru) (i : Nat) (x : Option Addr × Nat) (w : World) : Prop := match i with
  | 2 => w.ownsRow B 69 3 (.slice x.1 L.length L.length) L.length (rcells L)
  | 6 => w.ownsRow B 69 3 (.slice x.1 1 1) 1 r.cells
  | _ => w.ownsRow B 69 3 (.slice x.1 (L.length + 1) x.2) (L.length + 1) (rcells L ++ r.cells)
theorem mk4_2 (n : Nat) (x : Option Addr × Nat) : mk4 n 2 x = .slice x.1 n n := rfl
theorem mk4_6 (n : Nat) (x : Option Addr × Nat) : mk4 n 6 x = .slice x.1 1 1 := rfl
theorem mk4_7 (n : Nat) (x : Option Addr × Nat) : mk4 n 7 x = .slice x.1 (n + 1) x.2 := rfl
theorem hp4 (B : Nat) (L : List Ru) (r : Ru) : ∀ i x (w1 : World) (g : Ext w1), ob4 B L r i x w1 → ob4 B L r i x g.val := fun i x w1 g h => by
  unfold ob4 at *
  split at h <;> exact own_ext h g

set_option maxRecDepth 100000 in
set_option maxHeartbeats 4000000 in
theorem Next_any (t : T) (ht : t.Ok) (s : S) (f : F) (w : World) : Calls Try.prog 9 #[.agg t.cells, .agg s.cells, .agg f.cells] w (Ret (.tuple #[.int .i64 (s.next t f).1, .agg (s.next t f).2.cells]) w) := by
  have n0 := nw_first t s f w
  rcases (show (s.kn = true) ∨ (s.kn = false ∧ f.seen = false) ∨ (s.kn = false ∧ f.seen = true) by cases s.kn <;> cases f.seen <;> simp) with h1 | ⟨h1, h2⟩ | ⟨h1, h2⟩
  focus
    have HE : Hid (s.seen f = s) := seen_no1 f h1
    go_enter Try.func9, Try.ntmps9
    go_wp2_with fail
    refine at_world (NV t (s.seen f) f w) (by rw [HE.out]; exact n0.view' _ (by simp) _) (fun W' n4 => ?_)
    clear n0
  rotate_left
  focus
    have HE : Hid (s.seen f = s) := seen_no2 s h2
    go_enter Try.func9, Try.ntmps9
    go_wp2_with fail
    refine at_world (NV t (s.seen f) f w) (by rw [HE.out]; exact n0.view' _ (by simp) _) (fun W' n4 => ?_)
    clear n0
  rotate_left
  focus
    have HE : Hid (s.seen f = { s with kn := true, se := f.se }) := seen_yes h1 h2
    have W0 := n0.r1
    have W1 := n0.r2
    have W2 := n0.s1
    go_enter Try.func9, Try.ntmps9
    go_wp2_with fail
    generalize hW : ((((w.alloc (.cells t.cells 23)).alloc (.cells s.cells 31)).alloc (.cells f.cells 34)).alloc (.cells S.zero.cells 31)) = W at *
    clear hW
    go_region
    have n3 := n0.known (.bool true) (s' := { s with kn := true, se := f.se })
    have W3 := n3.r0
    have W4 := n3.r1
    have W5 := n3.r2
    have Z := n3.size
    clear W0 W1 W2 n0
    generalize hW : ((W.setCell ⟨w.heap.size + 1, 42, none⟩ (.bool true)).drew.setRow (w.heap.size + 1) (S.cells { s with kn := true, se := f.se })) = W' at *
    clear hW
    go_wp2_with fail
    refine at_world (NV t (s.seen f) f w) (by rw [HE.out]; exact n3.view' _ (by first | rfl | (simp; done) | (rw [n3.size]; done)) _) (fun W' n4 => ?_)
    clear n3 W3 W4 W5 Z
  rotate_left
  all_goals
    clear HE h1
    generalize hse : s.seen f = s' at *
    have HSE : Hid (s.seen f = s') := hse
    clear hse
    have q1 := n4.r1
    have q2 : w.heap.size + 1 < W'.heap.size := by have := n4.size; omega
    refine Ls.wp_region_lays (β := Option Addr × Nat) (K := K4) (mk := mk4 (rulesOf s'.st).length) (ob := ob4 W'.heap.size (rulesOf s'.st) ⟨24, 0, s'.st⟩) (hp4 _ _ _) 10 (by kernel_rfl) (by kernel_rfl) ?_
    simp only [List.take_succ_cons, List.drop_succ_cons, List.take_nil, List.drop_nil]
    (refine Ls.grow_step rfl (fun k hk => ?_); go_simp; (refine hk _ ?_; clear hk k))
    (refine Ls.grow_step rfl (fun k hk => ?_); go_simp; (refine hk _ ?_; clear hk k))
    (refine Ls.grow_lay rfl (fun _ => rfl) (fun E g hk => ?_) ?_)
    · go_simp
      refine ⟨rfl, (rules_any _ _).mono ?_⟩
      rintro e w2 ⟨ao, rfl, hg, hown⟩
      exact ⟨(ao, 0), rfl, hg, own_base hown g.size⟩
    simp only [Act.put, List.setIfInBounds_toArray, List.set_cons_succ, List.set_cons_zero, Nat.zero_add, Nat.reduceAdd, mk4_2]
    (refine Ls.grow_step rfl (fun k hk => ?_); go_simp; (refine hk _ ?_; clear hk k))
    (refine Ls.grow_step rfl (fun k hk => ?_); go_simp; (refine hk _ ?_; clear hk k))
    (refine Ls.grow_step rfl (fun k hk => ?_); go_simp; (refine hk _ ?_; clear hk k))
    (refine Ls.grow_lay rfl (fun _ => rfl) (fun E g hk => ?_) ?_)
    · go_simp
      exact ⟨(some ⟨_, 0, none⟩, 0), rfl, ⟨⟨_, below1 _ _⟩, rfl⟩, own_rows g.val _ 69 3 1 _ #[_, _, _] rfl g.size (by decide) rfl⟩
    simp only [Act.put, List.setIfInBounds_toArray, List.set_cons_succ, List.set_cons_zero, Nat.reduceAdd, mk4_6]
    (refine Ls.grow_lay rfl (fun _ => rfl) (fun E g hk => ?_) ?_)
    · have h2 : g.val.ownsRow W'.heap.size 69 3 (.slice (E 2).1 (rulesOf s'.st).length (rulesOf s'.st).length) (rulesOf s'.st).length (rcells (rulesOf s'.st)) := hk ⟨2, .data⟩ (by simp) rfl rfl
      have h6 : g.val.ownsRow W'.heap.size 69 3 (.slice (E 6).1 1 1) 1 (Ru.cells ⟨24, 0, s'.st⟩) := hk ⟨6, .data⟩ (by simp) rfl rfl
      obtain ⟨g6, cap, hv, _, _⟩ := h6.form (by decide)
      obtain ⟨e6, _, _⟩ := Value.slice.inj hv
      refine makes_app elemR (s := .tmp 28) (x := .tmp 32) (B := W'.heap.size) (ao := (E 2).1) (m := 1) (c := 1) (ad := ⟨g6, 0, none⟩) (news := Ru.cells ⟨24, 0, s'.st⟩) rfl h2 ?_ rfl ?_ ?_ (by decide) ?_ g.size
      · show Value.slice (E 6).1 1 1 = _
        rw [e6]
      · intro j u hj
        rw [e6] at h6
        exact h6.cells (g := g6) rfl j u hj
      · intro u hu
        simp only [Ru.cells, List.mem_cons, List.not_mem_nil, or_false] at hu
        rcases hu with rfl | rfl | rfl <;> rfl
      · have : (rulesOf s'.st).length ≤ 4 := by unfold rulesOf; (repeat' split) <;> simp
        omega
    simp only [Act.put, List.setIfInBounds_toArray, List.set_cons_succ, List.set_cons_zero, Nat.reduceAdd, mk4_7]
    (refine Ls.grow_step rfl (fun k hk => ?_); go_simp; (refine hk _ ?_; clear hk k))
    (refine Ls.grow_step rfl (fun k hk => ?_); go_simp; (refine hk _ ?_; clear hk k))
    refine (fun E w' hob ⟨g, hg⟩ => ?_)
    subst hg
    have own7 : g.val.ownsRow W'.heap.size 69 3 (.slice (E 7).1 ((rulesOf s'.st).length + 1) (E 7).2) ((rulesOf s'.st).length + 1) (rcells (rulesOf s'.st) ++ Ru.cells ⟨24, 0, s'.st⟩) := hob 7 (by decide) rfl
    clear hob
    have n5 := n4.ext g
    dsimp only
    rw [← rcells_snoc] at own7
    have own8 : g.val.ownsRow W'.heap.size 69 3 (.slice (E 7).1 ((rulesOf s'.st).length + 1) (E 7).2) ((rulesOf s'.st).length + 1) (rcells (allRules s')) := own7
    have HL : Hid ((rulesOf s'.st).length + 1 = (allRules s').length) := (show (rulesOf s'.st).length + 1 = (allRules s').length by simp [allRules])
    have hB : w.heap.size + 1 + 1 + 1 + 1 < W'.heap.size := n4.size
    have hn4 : (rulesOf s'.st).length ≤ 4 := by unfold rulesOf; (repeat' split) <;> simp
    clear own7
    generalize (rulesOf s'.st).length = n0 at *
    generalize (E 7).1 = A7 at *
    generalize (E 7).2 = C7 at *
    generalize (E 2).1 = A2 at *
    generalize (E 6).1 = A6 at *
    generalize g.val = W5 at *
    clear E g n4 q1 q2
    go_wp2_with fail
    go_loopw [35] (fun i wr => RN t s' f w W'.heap.size (n0 + 1) (.slice A7 (n0 + 1) C7) i wr) (fun i _ => n0 + 1 - (intOf i).toNat)
    case atStart => exact ⟨0, by omega, rfl, n5, own8, fun j q hj => absurd hj (by omega)⟩
    case round =>
      clear n5 own8
      obtain ⟨k, hk, rfl, n6, hown, hno⟩ := hrel
      have hz6 := n6.size
      have z6 := n6.below.size
      by_cases hlt : k < n0 + 1
      · have hlt' : (k : Int) < (n0 : Int) + 1 := by omega
        obtain ⟨r, hr⟩ : ∃ r, (allRules s')[k]? = some r := ⟨_, List.getElem?_eq_getElem (by rw [← HL.out]; exact hlt)⟩
        obtain ⟨gb, cc, hv, hB7, hgl⟩ := hown.form (by omega)
        cases hv
        obtain ⟨d0, d1, d2⟩ := rcells_at (allRules s') k r hr
        have c0 := hown.cells (g := gb) rfl _ _ d0
        have c1 := hown.cells (g := gb) rfl _ _ d1
        have c2 := hown.cells (g := gb) rfl _ _ d2
        rw [add_plain_addr, Nat.zero_add] at c0 c1 c2
        rw [rowOf_cell] at c0 c1 c2
        have hc := fun w => says_any ht f (List.mem_of_getElem? hr) w
        have hent := says_enter (List.mem_of_getElem? hr)
        have HR : Hid ((allRules s')[k]? = some r) := hr
        have HN : Hid (∀ j q, j < k → (allRules s')[j]? = some q → saysB t s' f q.fn = false) := hno
        have q4 := n6.r4
        have ne4 : ¬ w.heap.size + 1 + 1 + 1 + 1 = wr.heap.size := by omega
        clear d0 d1 d2 hr hno
        cases hb : saysB t s' f r.fn
        · rw [hb] at hc
          have HBb : Hid (saysB t s' f r.fn = false) := hb
          clear hb
          go_wp2_with fail
          refine (hc _).mono ?_
          rintro _ _ ⟨rfl, g1, rfl⟩
          have bb := back_below _ _ g1
          have n8 := n6.ext (Ext.of bb)
          have o8 := own_keep hown (Nat.le_refl _) bb
          go_wp2_with fail
          go_roundw
          case rel =>
            refine ⟨k + 1, by omega, rfl, n8, o8, fun j q hj hq => ?_⟩
            by_cases e : j = k
            · subst e
              rw [HR.out] at hq
              cases hq
              exact HBb.out
            · exact HN.out j q (by omega) hq
          case measure => simp [intOf]; omega
        · rw [hb] at hc
          have HBb : Hid (saysB t s' f r.fn = true) := hb
          clear hb
          go_wp2_with fail
          refine (hc _).mono ?_
          rintro _ _ ⟨rfl, g1, rfl⟩
          have nx := n6.says r _ g1
          have W0 := nx.r1
          have W1 := nx.s1
          have W2 := nx.r
          have nz := nx.state r.st
          have hfin : s.next t f = (r.mv, { s' with st := r.st }) := next_at HSE.out HR.out HBb.out HN.out
          have HF : Hid (s.next t f = (r.mv, { s' with st := r.st })) := hfin
          have hle3 : w.heap.size ≤ w.heap.size + 1 + 1 + 1 := by omega
          clear hfin hc hent c0 c1 c2 hown n6 q4 ne4 HN HR HBb
          generalize g1.val = X at *
          clear g1
          go_wp2_with fail
          have W3 := nz.r1
          have W4 := nz.s3
          have W5 := nz.r3
          have W6 := nz.r
          have bz := nz.below
          clear W0 W1 W2 nx nz
          generalize X.setCell ⟨w.heap.size + 1, 41, none⟩ (.int .i64 r.st) = Y at *
          clear X
          go_region
          go_wp2_with fail
          refine bodyPost_ret (results_tmp_row rfl Try.underlying31 rfl (by kernel_rfl) _ _ (w.heap.size + 1 + 1 + 1) rfl (cs := S.cells { s' with st := r.st }) (by rw [rowOf_setRow _ _ _ _ (by first | exact W4 | (rw [soft_drew]; exact W4)), if_pos rfl]) (s_size _)) rfl ?_
          rw [HF.out]
          exact Ret.mk (Below.setRow_ (by first | exact bz.drew | exact bz) hle3 _)
      · have hlt' : ¬ (k : Int) < (n0 : Int) + 1 := by omega
        have hk0 : k = n0 + 1 := by omega
        have : (allRules s')[n0]? = some ⟨24, 0, s'.st⟩ := by
          have h1 := HL.out
          have : n0 = (rulesOf s'.st).length := by simp [allRules] at h1; omega
          rw [this]
          simp [allRules]
        have h3 := hno n0 _ (by omega) this
        exact absurd (h3.symm.trans (show saysB t s' f 24 = true from rfl)) (by decide)
end Go.Proofs.Ytmhbkiabndookaa
