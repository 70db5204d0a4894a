/-
  What is proved: contracts of a map's making, asking and writing, in names of objects; no program in sight. Condition: the types are as said.
-/
import Derived.Test.YtcedgoaanlbldaaSzB
namespace Go.Proofs.Ytcedgoaanlbldaa
namespace Sx
open Go.RowKit

section
variable {P : Program}
def mapV (r : Nat) : OneV := ⟨.map (some r), rfl⟩
def mmC (t : TypeId) : Con := ⟨primBase + (32 * t + 8), [], fun b => (E.hnd 0).shift b, 2, 0, 1⟩
def mmR (G : List Ob) (l : List Value) (e : Env) : Prop := l = [] ∧ e.v 0 = tok G.length ∧ e.g gv = encG (G ++ [.map []])
theorem mm_holds {t : TypeId} : (mmC t).holds P (conR mmR) := by
  refine turn_holds rfl (Nat.le_add_right _ _) (fun G l e _ ⟨_, _, hG⟩ => ⟨_, hG, ext1 _⟩) ?_
  rintro o hkey a w h F G f l e hargs H ⟨rfl, he, hG⟩
  have hop := key_makeMap hkey
  have hh : HoldsOb (w.alloc (.map #[] 0)) (hPush h G.length (mapV w.heap.size)) (G.length + 1) (mapV w.heap.size).val (fun i _ => i = w.heap.size) (.map []) :=
    ⟨w.heap.size, #[], 0, rfl, (MapKept.heap_alloc w _).1, ⟨⟨List.Perm.refl _, List.nodup_nil⟩, MapKept.stamped_empty _⟩, fun p hp => (by cases hp), fun i x => Iff.rfl⟩
  obtain ⟨F', f'', g1, g2, g3, g4, g5⟩ := turn_new H _ _ (fun b x hx => hx) hh
  refine ⟨_, _, _, F', f'', _, ?_, hG, .inl ⟨tok G.length, rfl, by simp only [E.nam, he]; exact oneOf_eq rfl, Inv.name (by simp)⟩, g1, g2, g3, g4, g5⟩
  simp only [hop, execOp, Option.map_none, Instr.makeMap, newObj, Sem.run_bind, Sem.run, Sem.run_pure, Result.andThen_ok, concE_name, hPush_new]
  rfl
/-- What a key leads to; a nought if there is none. -/
def luC (t : TypeId) (r : E) : Con := ⟨primBase + (32 * (2 * t + (if false then 1 else 0)) + 6), [], fun b => r.shift b, 1, 1, 0⟩
def luR (ok : Value → Prop) (z : Value) (r : E) (G : List Ob) (l : List Value) (e : Env) : Prop := ∃ n L k, l = [tok n, k] ∧ G[n]? = some (.map L) ∧ ok k ∧ (∀ p ∈ L, ok p.1) ∧ r.nam e lay0 = (getL L k).getD z
theorem getL_mem {k v : Value} : ∀ {L : List (Value × Value)}, getL L k = some v → ∃ p ∈ L, p.2 = v
  | [], h => by cases h
  | p :: r, h => by
    unfold getL at h
    split at h
    · cases h; exact ⟨p, List.mem_cons_self .., rfl⟩
    · obtain ⟨q, h1, h2⟩ := getL_mem h; exact ⟨q, List.mem_cons_of_mem _ h1, h2⟩
theorem map_loc {G X : List Ob} {n : Nat} {L : List (Value × Value)} (h : n < G.length) : G[n]? = some (.map L) ↔ (G ++ X)[n]? = some (.map L) := by rw [List.getElem?_append_left h]
theorem keys_ok {h : Nat → OneV} {ok : Value → Prop} {es : List MapEntry} {L : List (Value × Value)} (he : MapIs (es.map fun e => (e.key, e.val)) (L.map fun p => (p.1, concE h p.2))) (hL : ∀ p ∈ L, ok p.1) : ∀ e ∈ es, ok e.key := fun e hm => by
  have h1 : (e.key, e.val) ∈ es.map (fun e => (e.key, e.val)) := List.mem_map.2 ⟨e, hm, rfl⟩
  rw [he.1.mem_iff] at h1
  obtain ⟨p, hp, hpe⟩ := List.mem_map.1 h1
  have := hL p hp
  rw [show p.1 = e.key from congrArg Prod.fst hpe] at this
  exact this
theorem lu_holds {t kt et : TypeId} {i : TypeInfo} {z : Value} {ok : Value → Prop} {r : E} (hu : P.underlying t = some (.map kt et)) (hk : KeyT P kt ok) (hi : P.info? et = some i) (hz : i.zero = some z) (hzc : ∀ h, concE h z = z) (hr : (r.noPtr && r.lt stride) = true) :
    (luC t r).holds P (conR (luR ok z r)) := by
  refine read_holds hr (Nat.le_add_right _ _) (fun G G' l e _ hx hd => ?_) ?_
  · obtain ⟨X, rfl, h1, h2⟩ := loc1 hx hd
    constructor
    · rintro ⟨n, L, k, rfl, g1, g2⟩
      exact ⟨n, L, k, rfl, (map_loc (h1 n (List.mem_cons_self ..))).1 g1, g2⟩
    · rintro ⟨n, L, k, rfl, g1, g2⟩
      exact ⟨n, L, k, rfl, (map_loc (h1 n (List.mem_cons_self ..))).2 g1, g2⟩
  · rintro o hkey a w h F G f l e hargs H ⟨n, L, k, rfl, hn, hok, hL, hv⟩
    obtain ⟨x, y, hop⟩ := key_lookup hkey
    obtain ⟨rr, es, clock, h1, h2, h3, h4, h5⟩ := H.ob n _ hn
    have ha := hargs h fun _ _ => rfl
    rw [hop] at ha
    simp only [Op.operands, List.map_cons, List.map_nil, concE_name, h1, hk.conc k h hok, List.cons.injEq, and_true] at ha
    have hfind := mapIs_find h3.1 k
    have hf := hk.find k es.toList w hok (keys_ok h3.1 hL)
    have hzr : ∀ w, (zeroValue et).run P w = .ok z w := fun w => by simp [zeroValue, typeInfo, hi, hz]
    refine ⟨(getL L k).getD z, ?_, ?_, hv⟩
    · have hget := MapKept.run_getObj_map (P := P) h2
      simp only [hop, execOp, ha.1, ha.2, Instr.lookup, Sem.run_bind, run_underlying hu, Result.andThen_ok, hget, Sem.run_pure, hk.chk es.isEmpty k w hok, hf]
      cases hq : findIx k es.toList 0 with
      | none =>
        rw [hq] at hfind
        have : getL L k = none := by cases hg : getL L k with | none => rfl | some u => rw [hg] at hfind; cases hfind
        rw [this]
        simp only [Sem.run_bind, hzr, Result.andThen_ok, Sem.run_pure, Option.getD_none, hzc]
        rfl
      | some p =>
        obtain ⟨j, u⟩ := p
        rw [hq] at hfind
        cases hg : getL L k with
        | none => rw [hg] at hfind; cases hfind
        | some u' =>
          rw [hg] at hfind
          simp only [Option.map_some, Option.some.injEq] at hfind
          simp only [Option.getD_some, hfind]
          rfl
    · cases hg : getL L k with
      | none => exact Inv.of_const hzc
      | some u =>
        obtain ⟨p, hp, rfl⟩ := getL_mem hg
        exact h4 p hp
/-- A key leads to something. -/
def upC (t : TypeId) : Con := ⟨primBase + (32 * t + 7), [], fun b => (E.lit undef).shift b, 2, 0, 2⟩
def upR (ok : Value → Prop) (G : List Ob) (l : List Value) (e : Env) : Prop := ∃ n L k v, l = [tok n, k, v] ∧ G[n]? = some (.map L) ∧ ok k ∧ (∀ p ∈ L, ok p.1) ∧ e.g gv = encG (G.set n (.map (putL L k v)))
theorem putL_mem {k v : Value} : ∀ {L : List (Value × Value)}, ∀ p ∈ putL L k v, p = (k, v) ∨ p ∈ L
  | [], p, h => by simp [putL] at h; exact .inl h
  | q :: r, p, h => by
    unfold putL at h
    split at h
    · rcases List.mem_cons.1 h with h | h
      · exact .inl h
      · exact .inr (List.mem_cons_of_mem _ h)
    · rcases List.mem_cons.1 h with h | h
      · subst h; exact .inr (List.mem_cons_self ..)
      · exact (putL_mem p h).imp id (List.mem_cons_of_mem _)
theorem fr_setObj {w : World} {r : Nat} {es : Array MapEntry} {clock : Nat} (hb : w.heap[r]? = some (.map es clock)) (es' : Array MapEntry) (clock' : Nat) : Fr (fun i _ => i = r) w { w with heap := w.heap.setIfInBounds r (.map es' clock') } where
  os := rfl
  tape := rfl
  output := rfl
  size := by simp
  block i _ hn := (MapKept.heap_set hb).2 i fun e => hn 0 e
  cell i o _ hn := by unfold World.cell?; simp only; rw [(MapKept.heap_set hb).2 i hn]
  frozen i o hi := by
    have : i ≠ r := fun e => by subst e; unfold World.cell? at hi; simp [hb] at hi
    unfold World.frozen?; simp only; rw [(MapKept.heap_set hb).2 i this]
  shape i _ := by
    by_cases e : i = r
    · subst e
      unfold World.shape?
      simp only
      rw [(MapKept.heap_set hb).1, hb]
    · unfold World.shape?; simp only; rw [(MapKept.heap_set hb).2 i e]
  sane i _ hs := by
    intro c e lo hi hc
    by_cases e : i = r
    · subst e
      simp only [(MapKept.heap_set hb).1] at hc
      cases hc
    · simp only [(MapKept.heap_set hb).2 i e] at hc
      exact hs _ _ _ _ hc
  frl i _ _ := by
    by_cases e : i = r
    · subst e
      unfold frozenL
      simp only [(MapKept.heap_set hb).1, hb]
    · unfold frozenL
      simp only [(MapKept.heap_set hb).2 i e]
theorem up_holds {t kt et : TypeId} {ok : Value → Prop} (hu : P.underlying t = some (.map kt et)) (hk : KeyT P kt ok) : (upC t).holds P (conR (upR ok)) := by
  refine turn_holds rfl (Nat.le_add_right _ _) (fun G l e _ hR => ?_) ?_
  · obtain ⟨n, L, k, v, rfl, h1, _, _, hG⟩ := hR
    refine ⟨_, hG, ?_⟩
    unfold extG
    rw [if_neg (by decide), if_pos rfl]
    refine ⟨by simp, fun m o' ho hf => ?_⟩
    rw [List.getElem?_set_ne]
    · exact ho
    · intro e
      subst e
      rw [h1] at ho
      cases ho
      cases hf
  · rintro o hkey a w h F G f l e hargs H ⟨n, L, k, v, rfl, hn, hok, hL, hG⟩
    obtain ⟨x, y, z, hop⟩ := key_update hkey
    obtain ⟨rr, es, clock, h1, h2, h3, h4, h5⟩ := H.ob n _ hn
    have hinv := inv_args hargs v (by simp)
    have ha := hargs h fun _ _ => rfl
    rw [hop] at ha
    simp only [Op.operands, List.map_cons, List.map_nil, concE_name, h1, hk.conc k h hok, List.cons.injEq, and_true] at ha
    have hf := hk.find k es.toList w hok (keys_ok h3.1 hL)
    have hget := MapKept.run_getObj_map (P := P) h2
    have hend : ∀ es' clock', MapIs (es'.toList.map fun e => (e.key, e.val)) ((putL L k v).map fun p => (p.1, concE h p.2)) → MapKept.Stamped es' clock' → (execOp a.eval o).run P w = .ok .skip { w with heap := w.heap.setIfInBounds rr (.map es' clock') } →
        ∃ x w' h' F' f' G', (execOp a.eval o).run P w = .ok x w' ∧ e.g gv = encG G' ∧ ((∃ v, x = .value (concE h' v) ∧ (E.lit undef).nam e lay0 = v ∧ Inv h' G'.length v) ∨ (x = .skip ∧ E.lit undef = .lit undef)) ∧
          Fr F w w' ∧ Objs w' h' F' G' f' ∧ (∀ i x, F' i x → F i x ∨ w.heap.size ≤ i) ∧ G.length ≤ G'.length ∧ ∀ n, n < G.length → h' n = h n := fun es' clock' hes hst hrun => by
      have hset := H.set (fr_setObj h2 es' clock') (i := n) (o' := .map (putL L k v)) (f' := f n) hn rfl (fun b1 x1 _ hx => (h5 _ _).2 hx) (fun _ _ hx => .inl hx)
        ⟨rr, es', clock', h1, (MapKept.heap_set h2).1, ⟨hes, hst⟩, fun p hp => by
          rcases putL_mem p hp with hp | hp
          · subst hp; exact hinv
          · exact h4 p hp, h5⟩
      exact ⟨.skip, _, h, _, _, _, hrun, hG, .inr ⟨rfl, rfl⟩, (fr_setObj h2 es' clock').mono (fun b1 x1 _ hx => (H.foot _ _).2 ⟨n, (List.getElem?_eq_some_iff.1 hn).1, (h5 _ _).2 hx⟩), hset.1, hset.2, by simp, fun _ _ => rfl⟩
    cases hq : findIx k es.toList 0 with
    | none =>
      rw [hq] at hf
      refine hend (es.push { key := k, val := concE h v, born := clock }) (clock + 1) ?_ (MapKept.stamped_push h3.2 (findIx_none _ _ hq)) ?_
      · rw [Array.toList_push, List.map_append]
        exact mapIs_push h3.1 hq
      · have hset := MapKept.run_setObj_map (P := P) (.map (es.push { key := k, val := concE h v, born := clock }) (clock + 1)) h2
        simp only [hop, execOp, ha.1, ha.2.1, ha.2.2, Instr.mapUpdate, Sem.run_bind, run_underlying hu, Result.andThen_ok, hget, hk.chk false k w hok, hf, hset, Sem.run_pure]
    | some p =>
      obtain ⟨j, u⟩ := p
      rw [hq] at hf
      obtain ⟨g2, g3⟩ := mapIs_modify (v := v) h3.1 hq
      refine hend (es.modify j fun e => { e with key := k, val := concE h v }) clock ?_ (MapKept.stamped_modify h3.2 j _ (fun _ _ => rfl) fun en _ hen => ?_) ?_
      · rw [Array.toList_modify]; exact g3
      · rw [Array.getElem?_toList, hen] at g2
        exact (Option.some.inj g2).symm
      · have hset := MapKept.run_setObj_map (P := P) (.map (es.modify j fun e => { e with key := k, val := concE h v }) clock) h2
        have hkey : ((es[j]?).map (·.key)).getD k = k := by
          rw [Array.getElem?_toList] at g2
          rw [g2]
          rfl
        have hstay : (Instr.keyThatStays k k).run P w = .ok k w := by
          unfold Instr.keyThatStays
          rw [hk.bits k hok]
          rfl
        simp only [hop, execOp, ha.1, ha.2.1, ha.2.2, Instr.mapUpdate, Sem.run_bind, run_underlying hu, Result.andThen_ok, hget, hk.chk false k w hok, hf, hkey, hstay, hset, Sem.run_pure]
end
end Sx
end Go.Proofs.Ytcedgoaanlbldaa
