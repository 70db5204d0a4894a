/-
  What is proved: contracts of the operations on maps, in names of objects; no program in sight. Condition: the types are as said.
-/
import Derived.Test.YteklnfajpignoaaSzA
import Derived.MapKept
import Derived.WideKeyRuns
namespace Go.Proofs.Yteklnfajpignoaa
namespace Sx
open Go.RowKit

/-- The first entry of a key. -/
noncomputable def findIx (v : Value) : List MapEntry → Nat → Option (Nat × Value)
  | [], _ => none
  | e :: es, i => open Classical in if v = e.key then some (i, e.val) else findIx v es (i + 1)
noncomputable def getL (l : List (Value × Value)) (k : Value) : Option Value := match l with
  | [] => none
  | p :: r => open Classical in if k = p.1 then some p.2 else getL r k
noncomputable def putL (l : List (Value × Value)) (k v : Value) : List (Value × Value) := match l with
  | [] => [(k, v)]
  | p :: r => open Classical in if k = p.1 then (k, v) :: r else p :: putL r k v
/-- Keys that are told apart by what they are. -/
structure KeyT (P : Program) (kt : TypeId) (ok : Value → Prop) : Prop where
  chk : ∀ em v w, ok v → (Instr.checkKey em 10000 kt v).run P w = .ok () w
  find : ∀ v (es : List MapEntry) w, ok v → (∀ e ∈ es, ok e.key) → (Instr.findKey kt v es).run P w = .ok (findIx v es 0) w
  bits : ∀ v, ok v → Instr.sameBits 10000 v v = true
  conc : ∀ v h, ok v → concE h v = v
section
variable {P : Program}
theorem findAsking_spec {kt : TypeId} {v : Value} {w : World} : ∀ (es : List MapEntry) (i : Nat), (∀ e ∈ es, ∃ b : Bool, (Op.equal kt v e.key).run P w = .ok b w ∧ (b = true ↔ v = e.key)) → (Instr.findAsking kt v es i).run P w = .ok (findIx v es i) w
  | [], _, _ => rfl
  | e :: es, i, h => by
    obtain ⟨b, h1, h2⟩ := h e (List.mem_cons_self ..)
    have ih := findAsking_spec es (i + 1) fun x hx => h x (List.mem_cons_of_mem _ hx)
    unfold Instr.findAsking findIx
    simp only [Sem.run_bind, h1, Result.andThen_ok]
    cases b with
    | true => rw [if_pos rfl, if_pos (h2.1 rfl)]; rfl
    | false => rw [if_neg (by simp), if_neg (fun e => by have := h2.2 e; cases this)]; exact ih
theorem findNow_int {k : IntKind} {n : Int} : ∀ (es : List MapEntry) (i : Nat), (∀ e ∈ es, ∃ m, e.key = .int k m) → Instr.findNow (.int k) (.int k n) es i = some (findIx (.int k n) es i)
  | [], _, _ => rfl
  | e :: es, i, h => by
    obtain ⟨m, hm⟩ := h e (List.mem_cons_self ..)
    have ih := findNow_int (n := n) es (i + 1) fun x hx => h x (List.mem_cons_of_mem _ hx)
    have hs : Instr.sameNow (.int k) (.int k n) e.key = some (n == m) := by rw [hm]; simp [Instr.sameNow]
    unfold Instr.findNow findIx
    rw [hs]
    by_cases e1 : n = m
    · subst e1
      rw [if_pos hm.symm, beq_self_eq_true]
    · rw [if_neg (by rw [hm]; simpa using e1)]
      have : (n == m) = false := by simpa using e1
      rw [this]
      exact ih
theorem keyInt {kt : TypeId} {k : IntKind} (hu : P.underlying kt = some (.int k)) : KeyT P kt (fun v => ∃ n, v = .int k n) where
  chk := by rintro em v w ⟨n, rfl⟩; show (Instr.checkKey em (9999 + 1) kt _).run P w = _; rw [Instr.checkKey, Sem.run_bind, run_underlying hu]; rfl
  find := by
    rintro v es w ⟨n, rfl⟩ h
    unfold Instr.findKey
    rw [Sem.run_bind, run_underlying hu, Result.andThen_ok, findNow_int es 0 h]
    rfl
  bits := by rintro v ⟨n, rfl⟩; show Instr.sameBits (9999 + 1) _ _ = true; simp [Instr.sameBits]
  conc := by rintro v h ⟨n, rfl⟩; rfl
theorem check_ints {e : TypeId} {k : IntKind} (he : P.underlying e = some (.int k)) (em : Bool) (m : Nat) (xs : List Int) (w : World) : ∀ is : List Nat, (∀ i ∈ is, i < xs.length) →
    (forIn is PUnit.unit (fun i (_ : PUnit) => do Instr.checkKey em (m + 1) e (← part e (xs.map (Value.int k)).toArray (i * (← sizeOf e))); pure (ForInStep.yield PUnit.unit) : Nat → PUnit → Sem (ForInStep PUnit))).run P w = .ok PUnit.unit w ∨ P.cellsOf e ≠ 1
  | [], _ => .inl rfl
  | i :: is, h => by
    by_cases hc : P.cellsOf e = 1
    · rcases check_ints he em m xs w is (fun j hj => h j (List.mem_cons_of_mem _ hj)) with ih | ih
      · left
        obtain ⟨inf, hi⟩ := info_of_underlying he
        have hp' : P.plainKey e = true := by simp [Program.plainKey, he]
        have hil := h i (List.mem_cons_self ..)
        have p1 : (part e (xs.map (Value.int k)).toArray i).run P w = .ok (.int k xs[i]) w := run_part_plain w hp' (by simp [hil])
        have p2 : (Instr.checkKey em (m + 1) e (.int k xs[i])).run P w = .ok () w := by rw [Instr.checkKey, Sem.run_bind, run_underlying he]; rfl
        rw [List.forIn_cons]
        simp only [Sem.run_bind, run_sizeOf w hi, hc, Result.andThen_ok, Nat.mul_one, p1, p2, Sem.run_pure]
        exact ih
      · exact absurd hc ih
    · exact .inr hc
def IntsKey (n : Nat) (k : IntKind) (v : Value) : Prop := ∃ xs : List Int, v = .agg (xs.map (Value.int k)).toArray ∧ xs.length = n
theorem ints_inj {k : IntKind} {xs ys : List Int} (h : Value.agg (xs.map (Value.int k)).toArray = .agg (ys.map (Value.int k)).toArray) : xs = ys := by
  have h2 := congrArg Array.toList (Value.agg.inj h)
  exact List.map_inj_right (fun a b hab => by injection hab) |>.1 h2
theorem keyInts {kt e : TypeId} {n : Nat} {i : TypeInfo} {k : IntKind} (hu : P.underlying kt = some (.array n e)) (hi : P.info? e = some i) (he : P.underlying e = some (.int k)) (hc : P.cellsOf e = 1) : KeyT P kt (IntsKey n k) where
  chk := by
    rintro em v w ⟨xs, rfl, hx⟩
    show (Instr.checkKey em (9998 + 1 + 1) kt _).run P w = _
    have h1 := (check_ints (P := P) he em 9998 xs w (List.range' 0 n) (fun j hj => by rw [List.mem_range'_1] at hj; omega)).resolve_right (fun hne => hne hc)
    rw [Instr.checkKey, Sem.run_bind, run_underlying hu]
    simp only [Result.andThen_ok, Std.Legacy.Range.forIn_eq_forIn_range', Std.Legacy.Range.size, Nat.sub_zero, Nat.add_one_sub_one, Nat.div_one]
    rw [Sem.run_bind, h1]
    rfl
  find := by
    rintro v es w ⟨xs, rfl, hx⟩ h
    have h1 : (Instr.findAsking kt (.agg (xs.map (Value.int k)).toArray) es 0).run P w = .ok (findIx (.agg (xs.map (Value.int k)).toArray) es 0) w := findAsking_spec es 0 fun en hen => by
      obtain ⟨ys, hy, hyl⟩ := h en hen
      refine ⟨decide (xs = ys), ?_, ?_⟩
      · rw [hy]
        show (Op.equalIn (9999 + 1) kt _ _).run P w = _
        rw [run_equalIn_array w 9999 _ _ hu hi, hc, List.range_eq_range']
        have := eqItems_ints (P := P) he 9998 w xs ys n 0 (by omega) (by omega)
        simpa using this
      · rw [hy, decide_eq_true_eq]
        exact ⟨fun e => by rw [e], ints_inj⟩
    unfold Instr.findKey
    rw [Sem.run_bind, run_underlying hu, Result.andThen_ok]
    cases es with
    | nil => rfl
    | cons en es =>
      obtain ⟨ys, hy, hyl⟩ := h en (List.mem_cons_self ..)
      have : Instr.findNow (.array n e) (.agg (xs.map (Value.int k)).toArray) (en :: es) 0 = none := by
        unfold Instr.findNow
        rw [hy]
        rfl
      rw [this]
      exact h1
  bits := by
    rintro v ⟨xs, rfl, hx⟩
    show Instr.sameBits (9999 + 1) _ _ = true
    unfold Instr.sameBits
    simp only [beq_self_eq_true, Bool.true_and]
    rw [List.all_eq_true]
    intro p hp
    obtain ⟨j, hj⟩ := List.getElem?_of_mem hp
    rw [List.getElem?_zip_eq_some] at hj
    obtain ⟨h1, h2⟩ := hj
    have h3 : p.1 = p.2 := by rw [h1] at h2; exact Option.some.inj h2
    simp only [List.getElem?_map] at h1
    cases hq : xs[j]? with
    | none => simp [hq] at h1
    | some y =>
      simp [hq] at h1
      obtain ⟨p1, p2⟩ := p
      simp only at h1 h3 ⊢
      subst h3 h1
      simp [Instr.sameBits]
  conc := by
    rintro v h ⟨xs, rfl, _⟩
    rw [concE_agg, List.map_toArray, List.map_map]
    rfl
/-- The map of an object is that of the world. -/
theorem findIx_get {h : Nat → OneV} {k : Value} : ∀ (es : List MapEntry) (l : List (Value × Value)) (i : Nat), es.map (fun e => (e.key, e.val)) = l.map (fun p => (p.1, concE h p.2)) → (findIx k es i).map (·.2) = (getL l k).map (concE h)
  | [], l, i, he => by
    cases l with
    | nil => rfl
    | cons p r => cases he
  | e :: es, l, i, he => by
    cases l with
    | nil => cases he
    | cons p r =>
      simp only [List.map_cons, List.cons.injEq, Prod.mk.injEq] at he
      obtain ⟨⟨e1, e2⟩, e3⟩ := he
      unfold findIx getL
      rw [e1]
      split
      · rw [Option.map_some, Option.map_some, e2]
      · exact findIx_get es r (i + 1) e3
theorem findIx_put {h : Nat → OneV} {k v : Value} : ∀ (es : List MapEntry) (l : List (Value × Value)) (i : Nat), es.map (fun e => (e.key, e.val)) = l.map (fun p => (p.1, concE h p.2)) →
    (findIx k es i = none → (es.map (fun e => (e.key, e.val)) ++ [(k, concE h v)]) = (putL l k v).map (fun p => (p.1, concE h p.2))) ∧
    (∀ j u, findIx k es i = some (j, u) → i ≤ j ∧ (es[j - i]?).map (·.key) = some k ∧ (es.modify (j - i) (fun e => { e with key := k, val := concE h v })).map (fun e => (e.key, e.val)) = (putL l k v).map (fun p => (p.1, concE h p.2)))
  | [], l, i, he => by
    cases l with
    | nil => exact ⟨fun _ => rfl, fun j u h => by cases h⟩
    | cons p r => cases he
  | e :: es, l, i, he => by
    cases l with
    | nil => cases he
    | cons p r =>
      simp only [List.map_cons, List.cons.injEq, Prod.mk.injEq] at he
      obtain ⟨⟨e1, e2⟩, e3⟩ := he
      obtain ⟨ih1, ih2⟩ := findIx_put (k := k) (v := v) es r (i + 1) e3
      unfold findIx putL
      rw [e1]
      by_cases hk : k = p.1
      · rw [if_pos hk, if_pos hk]
        refine ⟨fun h => (by cases h), fun j u hj => ?_⟩
        cases hj
        refine ⟨Nat.le_refl _, ?_, ?_⟩
        · simp [e1, hk]
        · simp [e3]
      · rw [if_neg hk, if_neg hk]
        refine ⟨fun hn => ?_, fun j u hj => ?_⟩
        · rw [List.map_cons, List.cons_append, ih1 hn, List.map_cons, e1, e2]
        · obtain ⟨g1, g2, g3⟩ := ih2 j u hj
          refine ⟨by omega, ?_, ?_⟩
          · rw [show j - i = (j - (i + 1)) + 1 by omega, List.getElem?_cons_succ]; exact g2
          · rw [show j - i = (j - (i + 1)) + 1 by omega, List.modify_succ_cons, List.map_cons, g3, List.map_cons, e1, e2]
theorem key_makeMap {op : Op} {t : TypeId} (h : primKey op = some (primBase + (32 * t + 8))) : op = .makeMap t none := by
  unfold primKey at h
  repeat' split at h
  all_goals (try (exact absurd h.symm (Option.some_ne_none _)))
  all_goals (rw [Option.some.injEq] at h)
  all_goals (try (exfalso; omega))
  rename_i t'
  have : @Eq Nat t' t := by omega
  subst this
  rfl
theorem key_lookup {op : Op} {t : TypeId} {c : Bool} (h : primKey op = some (primBase + (32 * (2 * t + (if c then 1 else 0)) + 6))) : ∃ x y, op = .lookup t x y c := by
  unfold primKey at h
  repeat' split at h
  all_goals (try (exact absurd h.symm (Option.some_ne_none _)))
  all_goals (rw [Option.some.injEq] at h)
  all_goals (try (exfalso; split at h <;> omega))
  all_goals (try (exfalso; omega))
  · rename_i t' x y c' hc' hx
    cases c with
    | true =>
      have : @Eq Nat t' t := by simp at h; omega
      subst this
      exact ⟨_, _, by rw [hc']⟩
    | false => cases hx
  · rename_i t' x y c' hc' hx
    cases c with
    | false =>
      have : @Eq Nat t' t := by simp at h; omega
      subst this
      exact ⟨_, _, by simp at hc'; rw [hc']⟩
    | true => exact absurd rfl hx
theorem key_update {op : Op} {t : TypeId} (h : primKey op = some (primBase + (32 * t + 7))) : ∃ m k v, op = .mapUpdate t m k v := by
  unfold primKey at h
  repeat' split at h
  all_goals (try (exact absurd h.symm (Option.some_ne_none _)))
  all_goals (rw [Option.some.injEq] at h)
  all_goals (try (exfalso; omega))
  rename_i t' x y z
  have : @Eq Nat t' t := by omega
  subst this
  exact ⟨_, _, _, rfl⟩
end
end Sx
end Go.Proofs.Yteklnfajpignoaa
