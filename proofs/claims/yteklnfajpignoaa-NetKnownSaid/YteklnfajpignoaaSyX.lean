/-
  What is proved: contracts of the operations that lay new objects: a new struct, a new slice, append; no program in sight. Condition: the types are as said.
-/
import Derived.Test.YteklnfajpignoaaSyW
namespace Go.Proofs.Yteklnfajpignoaa
namespace Sx
open Go.RowKit

section
variable {P : Program}
theorem key_append {op : Op} {t : TypeId} (h : primKey op = some (primBase + (32 * t + 18))) : ∃ c, op = .call c ∧ c.callee = .builtin .append ∧ c.argTypes = #[t, t] := by
  unfold primKey at h
  repeat' split at h
  all_goals (try (exact absurd h.symm (Option.some_ne_none _)))
  all_goals (rw [Option.some.injEq] at h)
  all_goals (try (exfalso; omega))
  rename_i t' h1 h2 h3
  have : @Eq Nat t' t := by omega
  subst this
  exact ⟨_, rfl, h1, h3⟩
set_option maxRecDepth 100000 in
theorem key_buildSlice {op : Op} {t : TypeId} {n : Nat} (hn : n < 10000) (h : primKey op = some (primBase + (32 * (t * 10000 + n) + 15))) : ∃ parts, op = .buildSlice t n parts ∧ parts.toList.map (·.1) = List.range n := by
  unfold primKey at h
  repeat' split at h
  all_goals (try (exact absurd h.symm (Option.some_ne_none _)))
  all_goals (rw [Option.some.injEq] at h)
  all_goals (try (exfalso; omega))
  rename_i t' n' parts hc
  simp only [Bool.and_eq_true, decide_eq_true_eq, beq_iff_eq] at hc
  have h1 : @Eq Nat t' t := by omega
  have h2 : n' = n := by omega
  subst h1 h2
  exact ⟨_, rfl, hc.2⟩
theorem key_makeSlice {op : Op} {t : TypeId} (h : primKey op = some (primBase + (32 * t + 5))) : ∃ x y, op = .makeSlice t x y := by
  unfold primKey at h
  repeat' split at h
  all_goals (try (exact absurd h.symm (Option.some_ne_none _)))
  all_goals (rw [Option.some.injEq] at h)
  all_goals (try (exfalso; omega))
  rename_i t' x y
  have : @Eq Nat t' t := by omega
  subst this
  exact ⟨_, _, rfl⟩
/-- Handles, and one more. -/
def hPush (h : Nat → OneV) (n : Nat) (v : OneV) : Nat → OneV := fun k => if k = n then v else h k
theorem hPush_new (h : Nat → OneV) (n : Nat) (v : OneV) : hPush h n v n = v := if_pos rfl
theorem hPush_old {h : Nat → OneV} {n : Nat} {v : OneV} {k : Nat} (hk : k < n) : hPush h n v k = h k := if_neg (Nat.ne_of_lt hk)
def slV (b o len cap : Nat) : OneV := ⟨.slice (some ⟨b, o, none⟩) len cap, rfl⟩
def ptrV (b o : Nat) : OneV := ⟨.pointer (some ⟨b, o, none⟩), rfl⟩
/-- A slice's elements, for writing or for reading alone. -/
def mkRow (fz : Bool) (s len : Nat) (cells : List Value) : Ob := if fz then .ro s len cells else .row s len cells
/-- A row in a new block. -/
theorem holds_row_new {w : World} {h : Nat → OneV} {n s len cap : Nat} {cells : List Value} {raw : Array Value} {t : TypeId} (fz : Bool) (hl : cells.length = len * s) (hr : raw.size = cap * s) (hle : len ≤ cap) (hm : cap ≤ maxLen)
    (hc : ∀ (j : Nat) c, cells[j]? = some c → raw[j]? = some (concE h c) ∧ c.oneCell' = true ∧ Inv h n c) (h1 : ∀ u ∈ raw, u.oneCell' = true) :
    HoldsOb (w.alloc (.cells raw t)) (hPush h n (slV w.heap.size 0 len cap)) (n + 1) (slV w.heap.size 0 len cap).val (fun i x => i = w.heap.size ∧ x < (if fz then len * s else cap * s)) (mkRow fz s len cells) := by
  have hcn : ∀ (j : Nat) c, cells[j]? = some c → CellN (w.alloc (.cells raw t)) (hPush h n (slV w.heap.size 0 len cap)) (n + 1) w.heap.size (0 + j) c := fun j c hj => by
    obtain ⟨g1, g2, g3⟩ := hc j c hj
    refine CellN.push g3 g2 ?_
    rw [Nat.zero_add, World.cell?_alloc_new]
    exact g1
  have hle' : len * s ≤ cap * s := Nat.mul_le_mul_right _ hle
  cases fz with
  | true =>
    refine ⟨_, _, _, _, rfl, hle, hl, fun _ => rfl, hcn, fun i x => ?_⟩
    simp only [if_true]
    constructor
    · rintro ⟨rfl, hx⟩; exact ⟨rfl, Nat.zero_le _, by omega⟩
    · rintro ⟨rfl, _, hx⟩; exact ⟨rfl, by omega⟩
  | false =>
    refine ⟨_, _, _, rfl, hle, hm, hl, fun j hj => ?_, hcn, fun i x => ?_, ⟨⟨t, ?_⟩, fun c e lo hi hc => ?_⟩, fun x _ => World.frozen?_alloc_new w _ _ _⟩
    · rw [Nat.zero_add, World.cell?_alloc_new, World.frozen?_alloc_new]
      refine ⟨⟨raw[j]'(by omega), Array.getElem?_eq_getElem (by omega), h1 _ (Array.getElem_mem _)⟩, rfl⟩
    · simp only [Bool.false_eq_true, if_false]
      constructor
      · rintro ⟨rfl, hx⟩; exact ⟨rfl, Nat.zero_le _, by omega⟩
      · rintro ⟨rfl, _, hx⟩; exact ⟨rfl, by omega⟩
    · rw [Nat.zero_add, ← hr]
      unfold World.shape?
      rw [heap_alloc_new]
    · rw [heap_alloc_new] at hc
      cases hc
      exact Nat.le_refl _
/-- What a new object in a new block gives. -/
theorem turn_new {w : World} {h : Nat → OneV} {F : Foot} {G : List Ob} {f : Nat → Foot} (H : Objs w h F G f) (ob : Obj) (v : OneV) {o' : Ob} {f' : Foot} (hf' : ∀ b x, f' b x → b = w.heap.size)
    (ho : HoldsOb (w.alloc ob) (hPush h G.length v) (G.length + 1) v.val f' o') :
    ∃ F' f'', Fr F w (w.alloc ob) ∧ Objs (w.alloc ob) (hPush h G.length v) F' (G ++ [o']) f'' ∧ (∀ i x, F' i x → F i x ∨ w.heap.size ≤ i) ∧ G.length ≤ (G ++ [o']).length ∧ ∀ n, n < G.length → hPush h G.length v n = h n := by
  refine ⟨_, _, Fr.alloc F w ob, H.lay ob v hf' ho, fun i x hx => hx.imp id fun hx => by rw [hf' i x hx]; exact Nat.le_refl _, by simp, fun n hn => hPush_old hn⟩
/-- A new struct. -/
def boxC (t : TypeId) : Con := ⟨primBase + (32 * t + 11), [], fun b => (E.pla (.var 0) (.lit 0) 0).shift b, 2, 0, 1⟩
def boxR (G : List Ob) (l : List Value) (e : Env) : Prop := ∃ v, l = [v] ∧ (∀ c ∈ v.cells.toList, c.oneCell' = true) ∧ (∀ cs, v ≠ .tuple cs) ∧ 0 < v.cells.size ∧ e.i 0 = G.length ∧ e.g gv = encG (G ++ [.ptr v.cells.toList])
theorem ext1 {G : List Ob} (X : List Ob) : extG 1 G (G ++ X) := ⟨X, rfl⟩
theorem holds_ptr_new {w : World} {h : Nat → OneV} {n : Nat} {cells : List Value} {raw : Array Value} {t : TypeId} (hp : 0 < cells.length) (hc : ∀ (j : Nat) c, cells[j]? = some c → raw[j]? = some (concE h c) ∧ c.oneCell' = true ∧ Inv h n c) :
    HoldsOb (w.alloc (.cells raw t)) (hPush h n (ptrV w.heap.size 0)) (n + 1) (ptrV w.heap.size 0).val (fun i x => i = w.heap.size ∧ x < cells.length) (.ptr cells) := by
  refine ⟨_, _, rfl, hp, fun j c hj => ?_, fun i x => ?_⟩
  · obtain ⟨g1, g2, g3⟩ := hc j c hj
    refine ⟨CellN.push g3 g2 ?_, ?_⟩
    · rw [Nat.zero_add, World.cell?_alloc_new]; exact g1
    · exact World.frozen?_alloc_new w _ _ _
  · constructor
    · rintro ⟨rfl, hx⟩; exact ⟨rfl, Nat.zero_le _, by omega⟩
    · rintro ⟨rfl, _, hx⟩; exact ⟨rfl, by omega⟩
theorem box_holds {t : TypeId} : (boxC t).holds P (conR boxR) := by
  refine turn_holds rfl (Nat.le_add_right _ _) (fun G l e _ ⟨v, _, _, _, _, _, hG⟩ => ⟨_, hG, ext1 _⟩) ?_
  rintro o hkey a w h F G f l e hargs H ⟨v, rfl, hone, hnt, hpos, hi, hG⟩
  obtain ⟨x, hop⟩ := key_box hkey
  have hinv := inv_args hargs v (by simp)
  have ha := hargs h fun _ _ => rfl
  rw [hop] at ha
  simp only [Op.operands, List.map_cons, List.map_nil, List.cons.injEq, and_true] at ha
  have hcv := cells_conc (h := h) hone hnt
  have hh := holds_ptr_new (w := w) (h := h) (n := G.length) (cells := v.cells.toList) (raw := (concE h v).cells) (t := t) (by simpa using hpos) (fun j c hj => by
    have hm := List.mem_of_getElem? hj
    refine ⟨?_, hone c hm, part_inv hinv c hm (hone c hm)⟩
    rw [← Array.getElem?_toList, hcv, List.getElem?_map, hj]
    rfl)
  obtain ⟨F', f'', g1, g2, g3, g4, g5⟩ := turn_new H _ _ (fun b x hx => hx.1) hh
  refine ⟨_, _, _, F', f'', _, ?_, hG, .inl ⟨tokAt G.length 0, rfl, ?_, Inv.at_ (by simp)⟩, g1, g2, g3, g4, g5⟩
  · simp only [hop, execOp, Instr.box, ha, Sem.run_bind, Result.andThen_ok, newVar, newRow, newObj, Sem.run, Sem.run_pure, concE_at, hPush_new]
    rfl
  · simp only [E.nam, T.den, hi, Int.toNat_natCast]
    rfl
/-- A new struct of noughts. -/
def allocC (t : TypeId) : Con := ⟨primBase + (32 * t + 10), [], fun b => (E.pla (.var 0) (.lit 0) 0).shift b, 2, 0, 1⟩
def allocR (z : List Value) (G : List Ob) (l : List Value) (e : Env) : Prop := l = [] ∧ e.i 0 = G.length ∧ e.g gv = encG (G ++ [.ptr z])
theorem alloc_holds {t : TypeId} {i : TypeInfo} {v : Value} {z : List Value} (hi : P.info? t = some i) (hz : i.zero = some v) (hv : v.cells.toList = z) (hp : z.all (fun c => c.oneCell' && plainV c) = true) (h0 : 0 < z.length) : (allocC t).holds P (conR (allocR z)) := by
  refine turn_holds rfl (Nat.le_add_right _ _) (fun G l e _ ⟨_, _, hG⟩ => ⟨_, hG, ext1 _⟩) ?_
  rintro o hkey a w h F G f l e hargs H ⟨rfl, hi0, hG⟩
  have hop := key_alloc hkey
  have hpl : ∀ c ∈ z, c.oneCell' = true ∧ plainV c = true := fun c hc => by simpa using List.all_eq_true.1 hp c hc
  have hcc : ∀ h' : Nat → OneV, ∀ c ∈ z, concE h' c = c := fun h' c hc => concE_plain (hpl c hc).2
  have hh := holds_ptr_new (w := w) (h := h) (n := G.length) (cells := z) (raw := v.cells) (t := t) h0 (fun j c hj => by
    have hm := List.mem_of_getElem? hj
    refine ⟨?_, (hpl c hm).1, Inv.of_const fun h' => hcc h' c hm⟩
    rw [← Array.getElem?_toList, hv, hj, hcc h c hm])
  obtain ⟨F', f'', g1, g2, g3, g4, g5⟩ := turn_new H _ _ (fun b x hx => hx.1) hh
  refine ⟨_, _, _, F', f'', _, ?_, hG, .inl ⟨tokAt G.length 0, rfl, ?_, Inv.at_ (by simp)⟩, g1, g2, g3, g4, g5⟩
  · simp only [hop, execOp, Instr.alloc, Sem.run_bind, zeroValue, typeInfo, run_program, hi, hz, Sem.run_pure, Result.andThen_ok, newVar, newRow, newObj, Sem.run, concE_at, hPush_new]
    rfl
  · simp only [E.nam, T.den, hi0, Int.toNat_natCast]
    rfl
end
end Sx
end Go.Proofs.Yteklnfajpignoaa
