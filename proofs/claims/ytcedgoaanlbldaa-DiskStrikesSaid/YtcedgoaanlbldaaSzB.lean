/-
  What is proved: contracts of the operations on maps, in names of objects; no program in sight. Condition: the types are as said.
-/
import Derived.Test.YtcedgoaanlbldaaSzA
import Derived.MapKept
import Derived.WideKeyRuns
namespace Go.Proofs.Ytcedgoaanlbldaa
namespace Sx
open Go.RowKit

/-- The first entry of a key. -/
noncomputable def findIx (v : Value) : List MapEntry → Nat → Option (Nat × Value)
  | [], _ => none
  | e :: es, i => open Classical in if v = e.key then some (i, e.val) else findIx v es (i + 1)
noncomputable def getL (l : List (Value × Value)) (k : Value) : Option Value := match l with
  | [] => none
  | p :: r => open Classical in if k = p.1 then some p.2 else getL r k
noncomputable def putL (l : List (Value × Value)) (k v : Value) : List (Value × Value) := match l with
  | [] => [(k, v)]
  | p :: r => open Classical in if k = p.1 then (k, v) :: r else p :: putL r k v
/-- Keys that are told apart by what they are. -/
structure KeyT (P : Program) (kt : TypeId) (ok : Value → Prop) : Prop where
  chk : ∀ em v w, ok v → (Instr.checkKey em 10000 kt v).run P w = .ok () w
  find : ∀ v (es : List MapEntry) w, ok v → (∀ e ∈ es, ok e.key) → (Instr.findKey kt v es).run P w = .ok (findIx v es 0) w
  bits : ∀ v, ok v → Instr.sameBits 10000 v v = true
  conc : ∀ v h, ok v → concE h v = v
section
variable {P : Program}
theorem findAsking_spec {kt : TypeId} {v : Value} {w : World} : ∀ (es : List MapEntry) (i : Nat), (∀ e ∈ es, ∃ b : Bool, (Op.equal kt v e.key).run P w = .ok b w ∧ (b = true ↔ v = e.key)) → (Instr.findAsking kt v es i).run P w = .ok (findIx v es i) w
  | [], _, _ => rfl
  | e :: es, i, h => by
    obtain ⟨b, h1, h2⟩ := h e (List.mem_cons_self ..)
    have ih := findAsking_spec es (i + 1) fun x hx => h x (List.mem_cons_of_mem _ hx)
    unfold Instr.findAsking findIx
    simp only [Sem.run_bind, h1, Result.andThen_ok]
    cases b with
    | true => rw [if_pos rfl, if_pos (h2.1 rfl)]; rfl
    | false => rw [if_neg (by simp), if_neg (fun e => by have := h2.2 e; cases this)]; exact ih
theorem findNow_int {k : IntKind} {n : Int} : ∀ (es : List MapEntry) (i : Nat), (∀ e ∈ es, ∃ m, e.key = .int k m) → Instr.findNow (.int k) (.int k n) es i = some (findIx (.int k n) es i)
  | [], _, _ => rfl
  | e :: es, i, h => by
    obtain ⟨m, hm⟩ := h e (List.mem_cons_self ..)
    have ih := findNow_int (n := n) es (i + 1) fun x hx => h x (List.mem_cons_of_mem _ hx)
    have hs : Instr.sameNow (.int k) (.int k n) e.key = some (n == m) := by rw [hm]; simp [Instr.sameNow]
    unfold Instr.findNow findIx
    rw [hs]
    by_cases e1 : n = m
    · subst e1
      rw [if_pos hm.symm, beq_self_eq_true]
    · rw [if_neg (by rw [hm]; simpa using e1)]
      have : (n == m) = false := by simpa using e1
      rw [this]
      exact ih
theorem keyInt {kt : TypeId} {k : IntKind} (hu : P.underlying kt = some (.int k)) : KeyT P kt (fun v => ∃ n, v = .int k n) where
  chk := by rintro em v w ⟨n, rfl⟩; show (Instr.checkKey em (9999 + 1) kt _).run P w = _; rw [Instr.checkKey, Sem.run_bind, run_underlying hu]; rfl
  find := by
    rintro v es w ⟨n, rfl⟩ h
    unfold Instr.findKey
    rw [Sem.run_bind, run_underlying hu, Result.andThen_ok, findNow_int es 0 h]
    rfl
  bits := by rintro v ⟨n, rfl⟩; show Instr.sameBits (9999 + 1) _ _ = true; simp [Instr.sameBits]
  conc := by rintro v h ⟨n, rfl⟩; rfl
theorem check_ints {e : TypeId} {k : IntKind} (he : P.underlying e = some (.int k)) (em : Bool) (m : Nat) (xs : List Int) (w : World) : ∀ is : List Nat, (∀ i ∈ is, i < xs.length) →
    (forIn is PUnit.unit (fun i (_ : PUnit) => do Instr.checkKey em (m + 1) e (← part e (xs.map (Value.int k)).toArray (i * (← sizeOf e))); pure (ForInStep.yield PUnit.unit) : Nat → PUnit → Sem (ForInStep PUnit))).run P w = .ok PUnit.unit w ∨ P.cellsOf e ≠ 1
  | [], _ => .inl rfl
  | i :: is, h => by
    by_cases hc : P.cellsOf e = 1
    · rcases check_ints he em m xs w is (fun j hj => h j (List.mem_cons_of_mem _ hj)) with ih | ih
      · left
        obtain ⟨inf, hi⟩ := info_of_underlying he
        have hp' : P.plainKey e = true := by simp [Program.plainKey, he]
        have hil := h i (List.mem_cons_self ..)
        have p1 : (part e (xs.map (Value.int k)).toArray i).run P w = .ok (.int k xs[i]) w := run_part_plain w hp' (by simp [hil])
        have p2 : (Instr.checkKey em (m + 1) e (.int k xs[i])).run P w = .ok () w := by rw [Instr.checkKey, Sem.run_bind, run_underlying he]; rfl
        rw [List.forIn_cons]
        simp only [Sem.run_bind, run_sizeOf w hi, hc, Result.andThen_ok, Nat.mul_one, p1, p2, Sem.run_pure]
        exact ih
      · exact absurd hc ih
    · exact .inr hc
def IntsKey (n : Nat) (k : IntKind) (v : Value) : Prop := ∃ xs : List Int, v = .agg (xs.map (Value.int k)).toArray ∧ xs.length = n
theorem ints_inj {k : IntKind} {xs ys : List Int} (h : Value.agg (xs.map (Value.int k)).toArray = .agg (ys.map (Value.int k)).toArray) : xs = ys := by
  have h2 := congrArg Array.toList (Value.agg.inj h)
  exact List.map_inj_right (fun a b hab => by injection hab) |>.1 h2
theorem keyInts {kt e : TypeId} {n : Nat} {i : TypeInfo} {k : IntKind} (hu : P.underlying kt = some (.array n e)) (hi : P.info? e = some i) (he : P.underlying e = some (.int k)) (hc : P.cellsOf e = 1) : KeyT P kt (IntsKey n k) where
  chk := by
    rintro em v w ⟨xs, rfl, hx⟩
    show (Instr.checkKey em (9998 + 1 + 1) kt _).run P w = _
    have h1 := (check_ints (P := P) he em 9998 xs w (List.range' 0 n) (fun j hj => by rw [List.mem_range'_1] at hj; omega)).resolve_right (fun hne => hne hc)
    rw [Instr.checkKey, Sem.run_bind, run_underlying hu]
    simp only [Result.andThen_ok, Std.Legacy.Range.forIn_eq_forIn_range', Std.Legacy.Range.size, Nat.sub_zero, Nat.add_one_sub_one, Nat.div_one]
    rw [Sem.run_bind, h1]
    rfl
  find := by
    rintro v es w ⟨xs, rfl, hx⟩ h
    have h1 : (Instr.findAsking kt (.agg (xs.map (Value.int k)).toArray) es 0).run P w = .ok (findIx (.agg (xs.map (Value.int k)).toArray) es 0) w := findAsking_spec es 0 fun en hen => by
      obtain ⟨ys, hy, hyl⟩ := h en hen
      refine ⟨decide (xs = ys), ?_, ?_⟩
      · rw [hy]
        show (Op.equalIn (9999 + 1) kt _ _).run P w = _
        rw [run_equalIn_array w 9999 _ _ hu hi, hc, List.range_eq_range']
        have := eqItems_ints (P := P) he 9998 w xs ys n 0 (by omega) (by omega)
        simpa using this
      · rw [hy, decide_eq_true_eq]
        exact ⟨fun e => by rw [e], ints_inj⟩
    unfold Instr.findKey
    rw [Sem.run_bind, run_underlying hu, Result.andThen_ok]
    cases es with
    | nil => rfl
    | cons en es =>
      obtain ⟨ys, hy, hyl⟩ := h en (List.mem_cons_self ..)
      have : Instr.findNow (.array n e) (.agg (xs.map (Value.int k)).toArray) (en :: es) 0 = none := by
        unfold Instr.findNow
        rw [hy]
        rfl
      rw [this]
      exact h1
  bits := by
    rintro v ⟨xs, rfl, hx⟩
    show Instr.sameBits (9999 + 1) _ _ = true
    unfold Instr.sameBits
    simp only [beq_self_eq_true, Bool.true_and]
    rw [List.all_eq_true]
    intro p hp
    obtain ⟨j, hj⟩ := List.getElem?_of_mem hp
    rw [List.getElem?_zip_eq_some] at hj
    obtain ⟨h1, h2⟩ := hj
    have h3 : p.1 = p.2 := by rw [h1] at h2; exact Option.some.inj h2
    simp only [List.getElem?_map] at h1
    cases hq : xs[j]? with
    | none => simp [hq] at h1
    | some y =>
      simp [hq] at h1
      obtain ⟨p1, p2⟩ := p
      simp only at h1 h3 ⊢
      subst h3 h1
      simp [Instr.sameBits]
  conc := by
    rintro v h ⟨xs, rfl, _⟩
    rw [concE_agg, List.map_toArray, List.map_map]
    rfl
/-- The map of an object is that of the world. -/
theorem findIx_get {c : Value → Value} {k : Value} : ∀ (es : List MapEntry) (l : List (Value × Value)) (i : Nat), es.map (fun e => (e.key, e.val)) = l.map (fun p => (p.1, c p.2)) → (findIx k es i).map (·.2) = (getL l k).map c
  | [], l, i, he => by
    cases l with
    | nil => rfl
    | cons p r => cases he
  | e :: es, l, i, he => by
    cases l with
    | nil => cases he
    | cons p r =>
      simp only [List.map_cons, List.cons.injEq, Prod.mk.injEq] at he
      obtain ⟨⟨e1, e2⟩, e3⟩ := he
      unfold findIx getL
      rw [e1]
      split
      · rw [Option.map_some, Option.map_some, e2]
      · exact findIx_get es r (i + 1) e3
theorem findIx_put {c : Value → Value} {k v : Value} : ∀ (es : List MapEntry) (l : List (Value × Value)) (i : Nat), es.map (fun e => (e.key, e.val)) = l.map (fun p => (p.1, c p.2)) →
    (findIx k es i = none → (es.map (fun e => (e.key, e.val)) ++ [(k, c v)]) = (putL l k v).map (fun p => (p.1, c p.2))) ∧
    (∀ j u, findIx k es i = some (j, u) → i ≤ j ∧ (es[j - i]?).map (·.key) = some k ∧ (es.modify (j - i) (fun e => { e with key := k, val := c v })).map (fun e => (e.key, e.val)) = (putL l k v).map (fun p => (p.1, c p.2)))
  | [], l, i, he => by
    cases l with
    | nil => exact ⟨fun _ => rfl, fun j u h => by cases h⟩
    | cons p r => cases he
  | e :: es, l, i, he => by
    cases l with
    | nil => cases he
    | cons p r =>
      simp only [List.map_cons, List.cons.injEq, Prod.mk.injEq] at he
      obtain ⟨⟨e1, e2⟩, e3⟩ := he
      obtain ⟨ih1, ih2⟩ := findIx_put (k := k) (v := v) es r (i + 1) e3
      unfold findIx putL
      rw [e1]
      by_cases hk : k = p.1
      · rw [if_pos hk, if_pos hk]
        refine ⟨fun h => (by cases h), fun j u hj => ?_⟩
        cases hj
        refine ⟨Nat.le_refl _, ?_, ?_⟩
        · simp [e1, hk]
        · simp [e3]
      · rw [if_neg hk, if_neg hk]
        refine ⟨fun hn => ?_, fun j u hj => ?_⟩
        · rw [List.map_cons, List.cons_append, ih1 hn, List.map_cons, e1, e2]
        · obtain ⟨g1, g2, g3⟩ := ih2 j u hj
          refine ⟨by omega, ?_, ?_⟩
          · rw [show j - i = (j - (i + 1)) + 1 by omega, List.getElem?_cons_succ]; exact g2
          · rw [show j - i = (j - (i + 1)) + 1 by omega, List.modify_succ_cons, List.map_cons, g3, List.map_cons, e1, e2]
/-- The order of a map's entries does not matter. -/
theorem getL_none {l : List (Value × Value)} {k : Value} : getL l k = none ↔ k ∉ l.map (·.1) := by
  induction l with
  | nil => simp [getL]
  | cons p r ih =>
    unfold getL
    by_cases h : k = p.1
    · rw [if_pos h]; simp [h]
    · rw [if_neg h, ih]; simp [h]
theorem getL_some {l : List (Value × Value)} {k v : Value} (hn : (l.map (·.1)).Nodup) : getL l k = some v ↔ (k, v) ∈ l := by
  induction l with
  | nil => simp [getL]
  | cons p r ih =>
    rw [List.map_cons, List.nodup_cons] at hn
    unfold getL
    by_cases h : k = p.1
    · rw [if_pos h, Option.some.injEq]
      constructor
      · rintro rfl
        rw [h]
        exact List.mem_cons_self ..
      · intro hm
        rcases List.mem_cons.1 hm with hm | hm
        · rw [← hm]
        · exact absurd (List.mem_map.2 ⟨_, hm, h⟩) hn.1
    · rw [if_neg h, ih hn.2]
      constructor
      · exact fun hm => List.mem_cons_of_mem _ hm
      · intro hm
        rcases List.mem_cons.1 hm with hm | hm
        · exact absurd (by rw [← hm]) h
        · exact hm
theorem getL_perm {l l' : List (Value × Value)} (h : l.Perm l') (hn : (l'.map (·.1)).Nodup) (k : Value) : getL l k = getL l' k := by
  have hn' : (l.map (·.1)).Nodup := (h.map _).nodup_iff.2 hn
  cases hg : getL l' k with
  | none =>
    rw [getL_none] at hg ⊢
    exact fun hm => hg ((h.map _).mem_iff.1 hm)
  | some v =>
    rw [getL_some hn] at hg
    rw [getL_some hn']
    exact h.mem_iff.2 hg
theorem putL_keys {l : List (Value × Value)} {k v : Value} : (putL l k v).map (·.1) = open Classical in if k ∈ l.map (·.1) then l.map (·.1) else l.map (·.1) ++ [k] := by
  induction l with
  | nil => simp [putL]
  | cons p r ih =>
    unfold putL
    by_cases h : k = p.1
    · rw [if_pos h]; simp [h]
    · rw [if_neg h, List.map_cons, ih]
      by_cases hm : k ∈ r.map (·.1)
      · rw [if_pos hm, if_pos (show k ∈ (p :: r).map (·.1) from List.mem_cons_of_mem _ hm)]
        rfl
      · rw [if_neg hm, if_neg (show ¬ k ∈ (p :: r).map (·.1) by rw [List.map_cons, List.mem_cons]; exact fun h' => h'.elim h hm)]
        rfl
theorem putL_nodup {l : List (Value × Value)} {k v : Value} (h : (l.map (·.1)).Nodup) : ((putL l k v).map (·.1)).Nodup := by
  rw [putL_keys]
  split
  · exact h
  · rename_i hm
    rw [List.nodup_append]
    exact ⟨h, by simp, fun a ha b hb e => by rw [List.mem_singleton] at hb; subst hb; subst e; exact hm ha⟩
theorem getL_put {l : List (Value × Value)} {k v k' : Value} : getL (putL l k v) k' = open Classical in if k' = k then some v else getL l k' := by
  induction l with
  | nil =>
    unfold putL
    simp only [getL]
  | cons p r ih =>
    unfold putL
    by_cases h : k = p.1
    · rw [if_pos h]
      by_cases h' : k' = k
      · subst h'; simp [getL]
      · rw [if_neg h']
        have : ¬ k' = p.1 := fun e => h' (e.trans h.symm)
        simp [getL, h', this]
    · rw [if_neg h]
      by_cases h' : k' = k
      · subst h'
        rw [if_pos rfl]
        rw [if_pos rfl] at ih
        simp [getL, h, ih]
      · rw [if_neg h']
        rw [if_neg h'] at ih
        simp [getL, ih]
/-- Two maps that answer the same hold the same. -/
theorem perm_of_get {l l' : List (Value × Value)} (hn : (l.map (·.1)).Nodup) (hn' : (l'.map (·.1)).Nodup) (h : ∀ k, getL l k = getL l' k) : l.Perm l' := by
  have nd : ∀ {m : List (Value × Value)}, (m.map (·.1)).Nodup → m.Nodup := fun {m} hm => by
    induction m with
    | nil => exact List.nodup_nil
    | cons a r ih =>
      rw [List.map_cons, List.nodup_cons] at hm
      exact List.nodup_cons.2 ⟨fun ha => hm.1 (List.mem_map.2 ⟨a, ha, rfl⟩), ih hm.2⟩
  refine (List.perm_ext_iff_of_nodup (nd hn) (nd hn')).2 fun p => ?_
  obtain ⟨k, v⟩ := p
  rw [← getL_some hn, ← getL_some hn', h]
theorem putL_perm {l l' : List (Value × Value)} (h : l.Perm l') (hn : (l'.map (·.1)).Nodup) (k v : Value) : (putL l k v).Perm (putL l' k v) :=
  perm_of_get (putL_nodup ((h.map _).nodup_iff.2 hn)) (putL_nodup hn) fun k' => by rw [getL_put, getL_put, getL_perm h hn]
theorem getL_map {c : Value → Value} {l : List (Value × Value)} {k : Value} : getL (l.map fun p => (p.1, c p.2)) k = (getL l k).map c := by
  induction l with
  | nil => rfl
  | cons p r ih =>
    rw [List.map_cons]
    unfold getL
    by_cases h : k = p.1
    · rw [if_pos h, if_pos h]; rfl
    · rw [if_neg h, if_neg h]; exact ih
theorem putL_map {c : Value → Value} {l : List (Value × Value)} {k v : Value} : putL (l.map fun p => (p.1, c p.2)) k (c v) = (putL l k v).map fun p => (p.1, c p.2) := by
  induction l with
  | nil => rfl
  | cons p r ih =>
    rw [List.map_cons]
    unfold putL
    by_cases h : k = p.1
    · rw [if_pos h, if_pos h]; rfl
    · rw [if_neg h, if_neg h, List.map_cons, ih]
def pairsOf (es : List MapEntry) : List (Value × Value) := es.map fun e => (e.key, e.val)
theorem pairs_id (es : List MapEntry) : es.map (fun e => (e.key, e.val)) = (pairsOf es).map (fun p => (p.1, id p.2)) := by
  unfold pairsOf
  simp
theorem mapIs_find {es : List MapEntry} {l : List (Value × Value)} {c : Value → Value} (h : MapIs (es.map fun e => (e.key, e.val)) (l.map fun p => (p.1, c p.2))) (k : Value) : (findIx k es 0).map (·.2) = (getL l k).map c := by
  have h1 := findIx_get (k := k) es (pairsOf es) 0 (pairs_id es)
  have h2 := getL_perm h.1 h.2 k
  rw [h1, Option.map_id, id_eq, ← getL_map]
  exact h2
theorem mapIs_push {es : List MapEntry} {l : List (Value × Value)} {c : Value → Value} {k v : Value} (h : MapIs (es.map fun e => (e.key, e.val)) (l.map fun p => (p.1, c p.2))) (hf : findIx k es 0 = none) : MapIs (es.map (fun e => (e.key, e.val)) ++ [(k, c v)]) ((putL l k v).map fun p => (p.1, c p.2)) := by
  have h1 := (findIx_put (c := id) (k := k) (v := c v) es (pairsOf es) 0 (pairs_id es)).1 hf
  have h2 := putL_perm h.1 h.2 k (c v)
  rw [putL_map] at h2
  refine ⟨?_, ?_⟩
  · rw [show es.map (fun e => (e.key, e.val)) ++ [(k, c v)] = (putL (es.map fun e => (e.key, e.val)) k (c v)) by
      have h3 : (putL (pairsOf es) k (c v)).map (fun p => (p.1, id p.2)) = putL (pairsOf es) k (c v) := by simp
      rw [h3] at h1
      exact h1]
    exact h2
  · rw [← putL_map]
    exact putL_nodup h.2
theorem mapIs_modify {es : List MapEntry} {l : List (Value × Value)} {c : Value → Value} {k v u : Value} {j : Nat} (h : MapIs (es.map fun e => (e.key, e.val)) (l.map fun p => (p.1, c p.2))) (hf : findIx k es 0 = some (j, u)) :
    (es[j]?).map (·.key) = some k ∧ MapIs ((es.modify j (fun e => { e with key := k, val := c v })).map fun e => (e.key, e.val)) ((putL l k v).map fun p => (p.1, c p.2)) := by
  obtain ⟨_, g2, g3⟩ := (findIx_put (c := id) (k := k) (v := c v) es (pairsOf es) 0 (pairs_id es)).2 j u hf
  rw [Nat.sub_zero] at g2 g3
  have h2 := putL_perm h.1 h.2 k (c v)
  rw [putL_map] at h2
  refine ⟨g2, ?_, ?_⟩
  · have h3 : (putL (pairsOf es) k (c v)).map (fun p => (p.1, id p.2)) = putL (pairsOf es) k (c v) := by simp
    rw [h3] at g3
    exact (List.Perm.of_eq g3).trans h2
  · rw [← putL_map]
    exact putL_nodup h.2
theorem findIx_none {k : Value} : ∀ (es : List MapEntry) (i : Nat), findIx k es i = none → ∀ x ∈ es, x.key ≠ k
  | [], _, _, x, hx => by cases hx
  | e :: es, i, h, x, hx => by
    unfold findIx at h
    split at h
    · cases h
    · rename_i hne
      rcases List.mem_cons.1 hx with rfl | hx
      · exact fun he => hne he.symm
      · exact findIx_none es (i + 1) h x hx
theorem key_makeMap {op : Op} {t : TypeId} (h : primKey op = some (primBase + (32 * t + 8))) : op = .makeMap t none := by
  unfold primKey at h
  repeat' split at h
  all_goals (try (exact absurd h.symm (Option.some_ne_none _)))
  all_goals (rw [Option.some.injEq] at h)
  all_goals (try (exfalso; omega))
  rename_i t'
  have : @Eq Nat t' t := by omega
  subst this
  rfl
theorem key_lookup {op : Op} {t : TypeId} {c : Bool} (h : primKey op = some (primBase + (32 * (2 * t + (if c then 1 else 0)) + 6))) : ∃ x y, op = .lookup t x y c := by
  unfold primKey at h
  repeat' split at h
  all_goals (try (exact absurd h.symm (Option.some_ne_none _)))
  all_goals (rw [Option.some.injEq] at h)
  all_goals (try (exfalso; split at h <;> omega))
  all_goals (try (exfalso; omega))
  · rename_i t' x y c' hc' hx
    cases c with
    | true =>
      have : @Eq Nat t' t := by simp at h; omega
      subst this
      exact ⟨_, _, by rw [hc']⟩
    | false => cases hx
  · rename_i t' x y c' hc' hx
    cases c with
    | false =>
      have : @Eq Nat t' t := by simp at h; omega
      subst this
      exact ⟨_, _, by simp at hc'; rw [hc']⟩
    | true => exact absurd rfl hx
theorem key_update {op : Op} {t : TypeId} (h : primKey op = some (primBase + (32 * t + 7))) : ∃ m k v, op = .mapUpdate t m k v := by
  unfold primKey at h
  repeat' split at h
  all_goals (try (exact absurd h.symm (Option.some_ne_none _)))
  all_goals (rw [Option.some.injEq] at h)
  all_goals (try (exfalso; omega))
  rename_i t' x y z
  have : @Eq Nat t' t := by omega
  subst this
  exact ⟨_, _, _, rfl⟩
end
end Sx
end Go.Proofs.Ytcedgoaanlbldaa
