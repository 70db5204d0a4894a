/- What is proved: what the disk's settle does, in a world, block by block. No condition but those each law names. -/
import Derived.Test.YtcedgoaanlbldaaA3
import Derived.ProofKit
import Derived.Maps.RangeRun
import Derived.Deep.WholeRow
import Derived.Great.Walk
namespace Go.Proofs.Ytcedgoaanlbldaa
open Go.RowKit Sx
set_option maxRecDepth 100000

section
variable {P : Program}
/-- What a key leads to, in a world. -/
theorem run_lookup_raw {t kt et : TypeId} {ok : Value → Prop} (hu : P.underlying t = some (.map kt et)) (hk : KeyT P kt ok) {w : World} {r : Nat} {es : Array MapEntry} {clock : Nat} (h2 : w.heap[r]? = some (.map es clock)) {k u : Value} {j : Nat} (hok : ok k) (hes : ∀ e ∈ es.toList, ok e.key) (hf : findIx k es.toList 0 = some (j, u)) :
    (Instr.lookup t (.map (some r)) k false).run P w = .ok u w := by
  have hget := MapKept.run_getObj_map (P := P) h2
  have hfi := hk.find k es.toList w hok hes
  rw [hf] at hfi
  simp only [Instr.lookup, Sem.run_bind, run_underlying hu, Result.andThen_ok, hget, Sem.run_pure, hk.chk es.isEmpty k w hok, hfi]
  rfl
/-- A key leads to something, in a world. -/
theorem run_update_raw {t kt et : TypeId} {ok : Value → Prop} (hu : P.underlying t = some (.map kt et)) (hk : KeyT P kt ok) {w : World} {r : Nat} {es : Array MapEntry} {clock : Nat} (h2 : w.heap[r]? = some (.map es clock)) {l : List (Value × Value)} (hM : MapIs (es.toList.map fun e => (e.key, e.val)) l) (hst : MapKept.Stamped es clock) {k v : Value} (hok : ok k) (hes : ∀ e ∈ es.toList, ok e.key) :
    ∃ es' clock', (Instr.mapUpdate t (.map (some r)) k v).run P w = .ok () { w with heap := w.heap.setIfInBounds r (.map es' clock') } ∧ MapIs (es'.toList.map fun e => (e.key, e.val)) (putL l k v) ∧ MapKept.Stamped es' clock' := by
  have hget := MapKept.run_getObj_map (P := P) h2
  have hfi := hk.find k es.toList w hok hes
  have hM' : MapIs (es.toList.map fun e => (e.key, e.val)) (l.map fun p => (p.1, id p.2)) := by rw [show l.map (fun p => (p.1, id p.2)) = l from List.map_id _]; exact hM
  have hid : (putL l k v).map (fun p => (p.1, id p.2)) = putL l k v := List.map_id _
  cases hq : findIx k es.toList 0 with
  | none =>
    rw [hq] at hfi
    refine ⟨es.push { key := k, val := v, born := clock }, clock + 1, ?_, ?_, MapKept.stamped_push hst (findIx_none _ _ hq)⟩
    · have hset := MapKept.run_setObj_map (P := P) (.map (es.push { key := k, val := v, born := clock }) (clock + 1)) h2
      simp only [Instr.mapUpdate, Sem.run_bind, run_underlying hu, Result.andThen_ok, hget, hk.chk false k w hok, hfi, hset]
    · rw [Array.toList_push, List.map_append, ← hid]
      exact mapIs_push (v := v) hM' hq
  | some p =>
    obtain ⟨j, u⟩ := p
    rw [hq] at hfi
    obtain ⟨g2, g3⟩ := mapIs_modify (v := v) hM' hq
    rw [hid] at g3
    refine ⟨es.modify j fun e => { e with key := k, val := v }, clock, ?_, ?_, MapKept.stamped_modify hst j _ (fun _ _ => rfl) fun en _ hen => ?_⟩
    · have hset := MapKept.run_setObj_map (P := P) (.map (es.modify j fun e => { e with key := k, val := v }) clock) h2
      have hkey : ((es[j]?).map (·.key)).getD k = k := by
        rw [Array.getElem?_toList] at g2
        rw [g2]
        rfl
      have hstay : (Instr.keyThatStays k k).run P w = .ok k w := by
        unfold Instr.keyThatStays
        rw [hk.bits k hok]
        rfl
      simp only [Instr.mapUpdate, Sem.run_bind, run_underlying hu, Result.andThen_ok, hget, hk.chk false k w hok, hfi, hkey, hstay, hset]
    · rw [Array.toList_modify]; exact g3
    · rw [Array.getElem?_toList, hen] at g2
      exact (Option.some.inj g2).symm
end
/-- What a settle does: a new block holds the sector's bytes; a key leads to it. -/
def Settled (w : World) (r1 : Nat) (l1 : List (Value × Value)) (k : Int) (bs : List Int) (w' : World) : Prop :=
  ∃ b es' c', w.heap.size ≤ b ∧ b < w'.heap.size ∧ w'.heap[r1]? = some (.map es' c') ∧ MapIs (es'.toList.map fun e => (e.key, e.val)) (putL l1 (.int .i64 k) (.pointer (some ⟨b, 0, none⟩))) ∧ MapKept.Stamped es' c' ∧
    (∀ (j : Nat) x, bs[j]? = some x → w'.cell? ⟨b, j, none⟩ = some (.int .u8 x) ∧ w'.frozen? ⟨b, j, none⟩ = false) ∧ Fr (fun i _ => i = r1) w w'
theorem settle_calls {w : World} {bd od r1 r2 : Nat} {es1 es2 : Array MapEntry} {c1 c2 : Nat} {k : Int} {l1 : List (Value × Value)} {bs : List Int} {j : Nat}
    (hc0 : w.cell? ⟨bd, od, none⟩ = some (.map (some r1))) (hc1 : w.cell? ⟨bd, od + 1, none⟩ = some (.map (some r2))) (h1 : w.heap[r1]? = some (.map es1 c1)) (h2 : w.heap[r2]? = some (.map es2 c2))
    (hM1 : MapIs (es1.toList.map fun e => (e.key, e.val)) l1) (hk1 : ∀ e ∈ es1.toList, IntK e.key) (hst1 : MapKept.Stamped es1 c1) (hk2 : ∀ e ∈ es2.toList, IntK e.key) (hf : findIx (.int .i64 k) es2.toList 0 = some (j, loC bs)) (hl : bs.length = 128) :
    Calls Try.prog 29 #[.pointer (some ⟨bd, od, none⟩), .int .i64 k] w fun en w' => en = .returned (.tuple #[]) ∧ Settled w r1 l1 k bs w' := by
  have e1 : (w.alloc (.cells (u8s bs).toArray 62)).heap.size = w.heap.size + 1 := by simp
  have hlt1 : r1 < w.heap.size := (Array.getElem?_eq_some_iff.1 h1).1
  have h1' : (w.alloc (.cells (u8s bs).toArray 62)).heap[r1]? = some (.map es1 c1) := by rw [(MapKept.heap_alloc w _).2 r1 hlt1]; exact h1
  have hlk := run_lookup_raw (P := Try.prog) (t := 57) Try.underlying57 (keyInt Try.underlying3) h2 (u := .agg (u8s bs).toArray) ⟨k, rfl⟩ hk2 hf
  obtain ⟨es', c', hup, hM, hst⟩ := run_update_raw (P := Try.prog) (t := 56) Try.underlying56 (keyInt Try.underlying3) h1' hM1 hst1 (v := .pointer (some ⟨w.heap.size, 0, none⟩)) ⟨k, rfl⟩ hk1
  have hst62 : (storeCells ⟨w.heap.size, 0, none⟩ (u8s bs)).run Try.prog (w.alloc (.cells Try.zeroCells62 62)) = .ok () (w.alloc (.cells (u8s bs).toArray 62)) := by
    refine run_storeCells_new w 62 Try.zeroCells62 (u8s bs).toArray ?_ ?_ ?_
    · rw [List.size_toArray, List.length_map, hl]; kernel_rfl
    · exact (show Try.zeroCells62.size = 128 by kernel_rfl).trans (by rw [List.size_toArray, List.length_map, hl])
    · simp only [List.all_toArray, List.all_eq_true]
      exact fun c hc => u8s_one hc
  have hA : Fr (fun i _ => i = r1) w (w.alloc (.cells (u8s bs).toArray 62)) := Fr.alloc _ w _
  have hc0' : (w.alloc (.cells (u8s bs).toArray 62)).cell? ⟨bd, od, none⟩ = some (.map (some r1)) := ((Fr.alloc (fun _ _ => False) w _).cell _ _ (cell_some_lt hc0) fun h => h).trans hc0
  have hB := fr_setObj h1' es' c'
  have hfin : Settled w r1 l1 k bs { (w.alloc (.cells (u8s bs).toArray 62)) with heap := (w.alloc (.cells (u8s bs).toArray 62)).heap.setIfInBounds r1 (.map es' c') } := by
    refine ⟨w.heap.size, es', c', Nat.le_refl _, ?_, (MapKept.heap_set h1').1, hM, hst, fun j x hj => ?_, hA.trans hB (fun _ _ _ h => h) (fun _ _ _ h => h)⟩
    · show w.heap.size < (Array.setIfInBounds _ _ _).size
      rw [Array.size_setIfInBounds, e1]
      exact Nat.lt_succ_self _
    · have hc : (w.alloc (.cells (u8s bs).toArray 62)).cell? ⟨w.heap.size, j, none⟩ = some (.int .u8 x) := by
        rw [World.cell?_alloc_new]
        simp [u8s, hj]
      rw [hB.cell _ _ (cell_some_lt hc) (fun e => by show False; exact absurd (show w.heap.size = r1 from e) (by omega)), hB.frozen _ _ (by rw [hc]; rfl), World.frozen?_alloc_new]
      exact ⟨hc, rfl⟩
  go_enter Try.func29, Try.ntmps29
  go_wp2
  exact Go.Great.bodyPost_end0 rfl rfl ⟨rfl, hfin⟩
end Go.Proofs.Ytcedgoaanlbldaa
