/-
  What is proved: contracts of the operations that lay new slices: a literal, make, append; no program in sight. Condition: the types are as said.
-/
import Derived.Test.YteklnfajpignoaaSyX
namespace Go.Proofs.Yteklnfajpignoaa
namespace Sx
open Go.RowKit

section
variable {P : Program}
theorem fill_all (s : Nat) : ∀ (vs : List Value) (i0 : Nat) (cells : List Value), (∀ v ∈ vs, v.cells.size = s) → (i0 + vs.length) * s ≤ cells.length →
    Instr.fill (fun i => some (i * s, s)) cells.toArray ((List.range' i0 vs.length).zip vs) = some (cells.take (i0 * s) ++ (vs.map fun v => v.cells.toList).flatten ++ cells.drop ((i0 + vs.length) * s)).toArray
  | [], i0, cells, _, _ => by simp [Instr.fill]
  | v :: vs, i0, cells, h, hl => by
    simp only [List.length_cons] at hl ⊢
    have hv := h v (List.mem_cons_self ..)
    have hvl : v.cells.toList.length = s := by simpa using hv
    have h1 : (i0 + (vs.length + 1)) * s = (i0 + 1 + vs.length) * s := by congr 1; omega
    have h2 : (i0 + 1) * s = i0 * s + s := by rw [Nat.add_mul, Nat.one_mul]
    have h3 : (i0 + 1) * s ≤ (i0 + 1 + vs.length) * s := Nat.mul_le_mul_right _ (by omega)
    rw [List.range'_succ, List.zip_cons_cons, Instr.fill]
    have e2 := foldl_over (i0 * s) v.cells.toList 0 cells (by omega)
    have e3 : v.cells.zipIdx.foldl (fun (acc : Array Value) (p : Value × Nat) => acc.setIfInBounds (i0 * s + p.2) p.1) cells.toArray = (cells.take (i0 * s) ++ v.cells.toList ++ cells.drop (i0 * s + s)).toArray := by
      rw [← hvl, ← Nat.add_zero (i0 * v.cells.toList.length), hvl]
      simp only [Nat.add_zero] at e2 ⊢
      rw [hvl] at e2
      rw [← e2, ← Array.foldl_toList]
      rw [← Array.toList_zipIdx]
    have e1 : (v.cells.size ≠ s || decide (i0 * s + v.cells.size > cells.toArray.size)) = false := by
      simp [hv]; omega
    simp only [e1, Bool.false_eq_true, if_false]
    have e4 : (v.cells.zipIdx.foldl (fun cs (x : Value × Nat) => match x with | (c, j) => cs.setIfInBounds (i0 * s + j) c) cells.toArray) = (cells.take (i0 * s) ++ v.cells.toList ++ cells.drop (i0 * s + s)).toArray := e3
    rw [e4, fill_all s vs (i0 + 1) _ (fun u hu => h u (List.mem_cons_of_mem _ hu)) (by simp; omega)]
    congr 2
    rw [List.map_cons, List.flatten_cons, h1]
    have t1 : (cells.take (i0 * s) ++ v.cells.toList ++ cells.drop (i0 * s + s)).take ((i0 + 1) * s) = cells.take (i0 * s) ++ v.cells.toList := by
      rw [List.take_append_of_le_length (by simp; omega), List.take_of_length_le (by simp; omega)]
    have t2 : (cells.take (i0 * s) ++ v.cells.toList ++ cells.drop (i0 * s + s)).drop ((i0 + 1 + vs.length) * s) = cells.drop ((i0 + 1 + vs.length) * s) := by
      rw [List.drop_append, List.drop_eq_nil_of_le (by simp; omega), List.nil_append, List.drop_drop]
      congr 1
      simp
      omega
    rw [t1, t2]
    simp [List.append_assoc]
/-- A slice's literal. -/
def bsC (t : TypeId) (n : Nat) : Con := ⟨primBase + (32 * (t * 10000 + n) + 15), [], fun b => (E.hnd 0).shift b, 2, 0, 1⟩
def bsR (s n : Nat) (G : List Ob) (l : List Value) (e : Env) : Prop := ∃ (fz : Bool) (cells : List Value), l.length = n ∧ (l.map fun v => v.cells.toList).flatten = cells ∧ (∀ v ∈ l, v.cells.size = s ∧ (∀ c ∈ v.cells.toList, c.oneCell' = true) ∧ ∀ cs, v ≠ .tuple cs) ∧
  e.v 0 = tok G.length ∧ e.g gv = encG (G ++ [mkRow fz s n cells])
theorem flat_len (s : Nat) : ∀ l : List Value, (∀ v ∈ l, v.cells.size = s) → (l.map fun v => v.cells.toList).flatten.length = l.length * s
  | [], _ => by simp
  | v :: l, h => by
    have h1 : v.cells.toList.length = s := by simpa using h v (List.mem_cons_self ..)
    rw [List.map_cons, List.flatten_cons, List.length_append, h1, flat_len s l (fun u hu => h u (List.mem_cons_of_mem _ hu)), List.length_cons, Nat.add_mul, Nat.one_mul, Nat.add_comm]
theorem flat_mem {s : Nat} {l : List Value} {c : Value} (_h : ∀ v ∈ l, v.cells.size = s) (hc : c ∈ (l.map fun v => v.cells.toList).flatten) : ∃ v ∈ l, c ∈ v.cells.toList := by
  rw [List.mem_flatten] at hc
  obtain ⟨cs, h1, h2⟩ := hc
  obtain ⟨v, h3, rfl⟩ := List.mem_map.1 h1
  exact ⟨v, h3, h2⟩
theorem times_toArray {s n : Nat} {z : List Value} (hz : z.length = s) : ((Array.range (n * s)).map (fun i => z.toArray[i % z.toArray.size]!)).size = n * s := by simp [hz]
theorem bs_holds {t el : TypeId} {n s : Nat} {i : TypeInfo} {v : Value} (hu : P.underlying t = some (.slice el)) (hi : P.info? el = some i) (hs : i.size = s) (hz : i.zero = some v) (hn : n < 10000) (hlim : n * s ≤ 16777216) :
    (bsC t n).holds P (conR (bsR s n)) := by
  refine turn_holds rfl (Nat.le_add_right _ _) (fun G l e _ ⟨_, _, _, _, _, _, hG⟩ => ⟨_, hG, ext1 _⟩) ?_
  rintro o hkey a w h F G f l e hargs H ⟨fz, cells, hln, hcells, hl, he, hG⟩
  obtain ⟨parts, hop, hpr⟩ := key_buildSlice hn hkey
  have hinv := inv_args hargs
  have ha := hargs h fun _ _ => rfl
  rw [hop] at ha
  have hparts : (parts.map fun p => (p.1, a.eval p.2)).toList = (List.range' 0 (l.map (concE h)).length).zip (l.map (concE h)) := by
    have e1 : parts.toList.map (fun p => a.eval p.2) = l.map (concE h) := by
      rw [← ha]; simp [Op.operands]
    rw [← e1, List.length_map, Array.length_toList, Array.toList_map]
    have e2 : parts.size = n := by have := congrArg List.length hpr; simpa using this
    rw [e2, ← List.range_eq_range', ← hpr]
    rw [List.zip_map']
  have hsz : ∀ v ∈ l.map (concE h), v.cells.size = s := fun v hv => by
    obtain ⟨u, hu, rfl⟩ := List.mem_map.1 hv
    rw [← Array.length_toList, cells_conc (hl u hu).2.1 (hl u hu).2.2, List.length_map, Array.length_toList]
    exact (hl u hu).1
  have hflat : ((l.map (concE h)).map fun v => v.cells.toList).flatten = cells.map (concE h) := by
    rw [← hcells, List.map_flatten, List.map_map, List.map_map]
    congr 1
    refine List.map_congr_left fun u hu => ?_
    exact cells_conc (hl u hu).2.1 (hl u hu).2.2
  have hcl : cells.length = n * s := by rw [← hcells, flat_len s l fun v hv => (hl v hv).1, hln]
  have hfill : ∀ z : List Value, z.length = n * s → Instr.fill (fun i => some (i * s, s)) z.toArray (parts.map fun p => (p.1, a.eval p.2)).toList = some (cells.map (concE h)).toArray := fun z hz => by
    have := fill_all s (l.map (concE h)) 0 z hsz (by simp [hln, hz])
    rw [hparts, this, hflat]
    have e3 : (0 + (l.map (concE h)).length) * s = z.length := by simp [hln, hz]
    rw [e3, List.drop_length, Nat.zero_mul, List.take_zero, List.nil_append, List.append_nil]
  have hh := holds_row_new (w := w) (h := h) (n := G.length) (s := s) (len := n) (cap := n) (cells := cells) (raw := (cells.map (concE h)).toArray) (t := el) fz hcl (by simp [hcl]) (Nat.le_refl _) (by unfold maxLen; omega) (fun j c hj => by
    obtain ⟨u, hu, hcu⟩ := flat_mem (fun v hv => (hl v hv).1) (hcells ▸ List.mem_of_getElem? hj)
    exact ⟨by simp [hj], (hl u hu).2.1 c hcu, part_inv (hinv u hu) c hcu ((hl u hu).2.1 c hcu)⟩) (fun u hu => by
    simp only [List.mem_toArray] at hu
    obtain ⟨c, hc, rfl⟩ := List.mem_map.1 hu
    obtain ⟨u, hu, hcu⟩ := flat_mem (fun v hv => (hl v hv).1) (hcells ▸ hc)
    exact concE_one ((hl u hu).2.1 c hcu))
  obtain ⟨F', f'', g1, g2, g3, g4, g5⟩ := turn_new H _ _ (fun b x hx => hx.1) hh
  refine ⟨_, _, _, F', f'', _, ?_, hG, .inl ⟨tok G.length, rfl, by simp only [E.nam, he]; exact oneOf_eq rfl, Inv.name (by simp)⟩, g1, g2, g3, g4, g5⟩
  have hlim' : ¬ n * s > 2 ^ 24 := by omega
  have hsz2 : (sizeOf el).run P w = .ok s w := sizeE_run (by unfold sizeE; rw [hi]; simp [hs]) w
  have hzero : ∀ w, (zeroValue el).run P w = .ok v w := fun w => by simp [zeroValue, typeInfo, hi, hz]
  have hex : execOp a.eval o = (do let v ← Instr.buildSlice t n (parts.map fun p => (p.1, a.eval p.2)); pure (.value v)) := by unfold execOp; simp only [hop]
  rw [hex]
  by_cases h0 : n * s = 0
  · have := hfill ((Array.range (n * s)).map (fun j => (#[] : Array Value)[j % (#[] : Array Value).size]!)).toList (by simp)
    simp only [Array.toArray_toList] at this
    simp only [Instr.buildSlice, Sem.run_bind, run_underlying hu, Result.andThen_ok, hsz2, if_neg hlim', if_pos h0, Sem.run_pure, this, newRow, newObj, Sem.run, concE_name, hPush_new]
    rfl
  · have := hfill ((Array.range (n * s)).map (fun j => v.cells[j % v.cells.size]!)).toList (by simp)
    simp only [Array.toArray_toList] at this
    simp only [Instr.buildSlice, Sem.run_bind, run_underlying hu, Result.andThen_ok, hsz2, if_neg hlim', if_neg h0, Sem.run_pure, hzero, this, newRow, newObj, Sem.run, concE_name, hPush_new]
    rfl
/-- make, of a slice of noughts. -/
def msC (t : TypeId) : Con := ⟨primBase + (32 * t + 5), [], fun b => (E.hnd 0).shift b, 2, 0, 1⟩
def msR (z : Value) (by_ : Nat) (G : List Ob) (l : List Value) (e : Env) : Prop := ∃ (fz : Bool) (n : Nat) (k k' : IntKind), l = [.int k n, .int k' n] ∧ by_ * n ≤ 140737488355328 ∧ n ≤ 9223372036854775807 ∧ e.v 0 = tok G.length ∧ e.g gv = encG (G ++ [mkRow fz 1 n (List.replicate n z)])
theorem ms_holds {t el : TypeId} {i : TypeInfo} {v : Value} (hu : P.underlying t = some (.slice el)) (hi : P.info? el = some i) (hs : i.size = 1) (hz : i.zero = some v) (hv : v.oneCell' = true) (hpl : plainV v = true) : (msC t).holds P (conR (msR v i.bytes)) := by
  refine turn_holds rfl (Nat.le_add_right _ _) (fun G l e _ ⟨_, _, _, _, _, _, _, _, hG⟩ => ⟨_, hG, ext1 _⟩) ?_
  rintro o hkey a w h F G f l e hargs H ⟨fz, n, k, k', rfl, hby, hn, he, hG⟩
  obtain ⟨x, y, hop⟩ := key_makeSlice hkey
  have ha := hargs h fun _ _ => rfl
  rw [hop] at ha
  simp only [Op.operands, List.map_cons, List.map_nil, concE_int, List.cons.injEq, and_true] at ha
  obtain ⟨a1, a2⟩ := ha
  have hr := run_make (P := P) w t el i v hu hi hz k k' (n : Int) (n : Int) (by omega) (Int.le_refl _) (by
    have h : ((i.bytes * n : Nat) : Int) ≤ 281474976710656 := by omega
    rwa [Int.natCast_mul] at h) (by omega)
  simp only [Int.toNat_natCast, hs, Nat.mul_one] at hr
  have hmade : madeCells v.cells n = (List.replicate n v).toArray := by
    unfold madeCells
    rw [cells_one hv]
    apply Array.ext
    · simp
    · intro j h1 h2
      simp at h1 ⊢
      rw [Nat.mod_one]
      rfl
  rw [hmade] at hr
  have hh := holds_row_new (w := w) (h := h) (n := G.length) (s := 1) (len := n) (cap := n) (cells := List.replicate n v) (raw := (List.replicate n v).toArray) (t := el) fz (by simp) (by simp) (Nat.le_refl _) (by unfold maxLen; omega) (fun j c hj => by
    have := List.eq_of_mem_replicate (List.mem_of_getElem? hj)
    subst this
    exact ⟨by rw [concE_plain hpl, List.getElem?_toArray]; exact hj, hv, Inv.of_const fun _ => concE_plain hpl⟩) (fun u hu => by
    simp only [List.mem_toArray] at hu
    rw [List.eq_of_mem_replicate hu]
    exact hv)
  obtain ⟨F', f'', g1, g2, g3, g4, g5⟩ := turn_new H _ _ (fun b x hx => hx.1) hh
  refine ⟨_, _, _, F', f'', _, ?_, hG, .inl ⟨tok G.length, rfl, by simp only [E.nam, he]; exact oneOf_eq rfl, Inv.name (by simp)⟩, g1, g2, g3, g4, g5⟩
  simp only [hop, execOp, a1, a2, Sem.run_bind, hr, Result.andThen_ok, Sem.run_pure, concE_name, hPush_new]
  rfl
end
end Sx
end Go.Proofs.Yteklnfajpignoaa
