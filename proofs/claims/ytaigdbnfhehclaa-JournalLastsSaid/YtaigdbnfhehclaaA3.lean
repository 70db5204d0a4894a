/- What is proved: what the disk's Sync does, in a world, whatever the order of the keys; its contract; what the disk's settle does, in a world, block by block; what the disk's Sync does, in a world, block by block. No condition but those each law names. -/
import Derived.Test.YtaigdbnfhehclaaA2
import Derived.ProofKit
import Derived.Maps.Ext
import Derived.Maps.RangeRun
import Derived.Deep.WholeRow
import Derived.Great.Walk
import Derived.Maps.RangeWalk
namespace Go.Proofs.Ytaigdbnfhehclaa
open Go.RowKit Sx
set_option maxRecDepth 100000

/-- What a function does in a world, out of its contract. -/
theorem calls_con {P : Program} {fn : FuncId} {res : E} {R : List Ob → List Value → Env → Prop} (hc : (mkCon fn [] res 2).holds P (conR R)) (hr : (res.noPtr && res.lt stride && decide (fn < primBase)) = true)
    {w : World} {h : Nat → OneV} {F : Foot} {G : List Ob} {f : Nat → Foot} (H : Objs w h F G f) {l : List Value} {e : Env} (hl : ∀ v ∈ l, Inv h G.length v) (hR : R G l e) :
    Calls P fn (l.map (concE h)).toArray w fun en w' => ∃ h' F' f' G', en = .returned (concE h' (res.nam e lay0)) ∧ e.g gv = encG G' ∧ Fr F w w' ∧ Objs w' h' F' G' f' ∧ (∀ i x, F' i x → F i x ∨ w.heap.size ≤ i) ∧ G.length ≤ G'.length ∧ ∀ n, n < G.length → h' n = h n := by
  simp only [Bool.and_eq_true, decide_eq_true_eq] at hr
  obtain ⟨⟨hr1, hr2⟩, hfp⟩ := hr
  have hC := hc.1.1 hfp
  have h1 := hC w (l.map (concE h)) l [] e h F (encG G) (fun h' hh => ⟨List.map_congr_left fun v hv => ?_, rfl⟩) trivial (fun _ => ⟨⟨G, f, rfl, H⟩, fun p q hz => by cases hz⟩) ⟨G, l, rfl, hR⟩
  · refine h1.mono ?_
    rintro en w' ⟨h', F', hpost, hat⟩
    obtain ⟨g1, ⟨G', f', g2, g3⟩, g4, g5, g6⟩ := hpost
    have ha := hat ((Env.ofL []).from_ 0 e) 0 (Env.from_at _ _ _)
    refine ⟨h', F', f', G', ?_, g2, g1.mono fun _ _ _ hx => hx.elim (fun ⟨p, q, hz, _⟩ => by cases hz) id, g3, g4, ?_, fun n hn => g6 n (by show n < cntG (encG G); rwa [cntG_enc])⟩
    · have hr3 := ha.1 ⟨fun _ => (0, 0), h'⟩ (fun n hn => rfl)
      rw [hr3]
      have e1 := E.shift_val (Env.from_at (Env.ofL []) 0 e) (ι := ⟨fun _ => (0, 0), h'⟩) (ι' := ⟨fun _ => (0, 0), h'⟩) rfl res hr2 (E.ptr_adr hr1)
      show Ending.returned ((res.shift 0).val _ _) = _
      rw [e1, E.val_conc e _ lay0 hr1]
    · have : cntG (encG G) ≤ cntG (e.g gv) := g5
      rwa [g2, cntG_enc, cntG_enc] at this
  · rcases hh with rfl | ⟨_, hh⟩
    · rfl
    · exact (hl v hv h' fun n hn => hh n (by show n < cntG (encG G); rwa [cntG_enc])).symm
end Go.Proofs.Ytaigdbnfhehclaa

namespace Go.Proofs.Ytaigdbnfhehclaa
open Go.RowKit Sx
set_option maxRecDepth 100000

section
variable {P : Program}
/-- What a key leads to, in a world. -/
theorem run_lookup_raw {t kt et : TypeId} {ok : Value → Prop} (hu : P.underlying t = some (.map kt et)) (hk : KeyT P kt ok) {w : World} {r : Nat} {es : Array MapEntry} {clock : Nat} (h2 : w.heap[r]? = some (.map es clock)) {k u : Value} {j : Nat} (hok : ok k) (hes : ∀ e ∈ es.toList, ok e.key) (hf : findIx k es.toList 0 = some (j, u)) :
    (Instr.lookup t (.map (some r)) k false).run P w = .ok u w := by
  have hget := MapKept.run_getObj_map (P := P) h2
  have hfi := hk.find k es.toList w hok hes
  rw [hf] at hfi
  simp only [Instr.lookup, Sem.run_bind, run_underlying hu, Result.andThen_ok, hget, Sem.run_pure, hk.chk es.isEmpty k w hok, hfi]
  rfl
/-- A key leads to something, in a world. -/
theorem run_update_raw {t kt et : TypeId} {ok : Value → Prop} (hu : P.underlying t = some (.map kt et)) (hk : KeyT P kt ok) {w : World} {r : Nat} {es : Array MapEntry} {clock : Nat} (h2 : w.heap[r]? = some (.map es clock)) {l : List (Value × Value)} (hM : MapIs (es.toList.map fun e => (e.key, e.val)) l) (hst : MapKept.Stamped es clock) {k v : Value} (hok : ok k) (hes : ∀ e ∈ es.toList, ok e.key) :
    ∃ es' clock', (Instr.mapUpdate t (.map (some r)) k v).run P w = .ok () { w with heap := w.heap.setIfInBounds r (.map es' clock') } ∧ MapIs (es'.toList.map fun e => (e.key, e.val)) (putL l k v) ∧ MapKept.Stamped es' clock' := by
  have hget := MapKept.run_getObj_map (P := P) h2
  have hfi := hk.find k es.toList w hok hes
  have hM' : MapIs (es.toList.map fun e => (e.key, e.val)) (l.map fun p => (p.1, id p.2)) := by rw [show l.map (fun p => (p.1, id p.2)) = l from List.map_id _]; exact hM
  have hid : (putL l k v).map (fun p => (p.1, id p.2)) = putL l k v := List.map_id _
  cases hq : findIx k es.toList 0 with
  | none =>
    rw [hq] at hfi
    refine ⟨es.push { key := k, val := v, born := clock }, clock + 1, ?_, ?_, MapKept.stamped_push hst (findIx_none _ _ hq)⟩
    · have hset := MapKept.run_setObj_map (P := P) (.map (es.push { key := k, val := v, born := clock }) (clock + 1)) h2
      simp only [Instr.mapUpdate, Sem.run_bind, run_underlying hu, Result.andThen_ok, hget, hk.chk false k w hok, hfi, hset]
    · rw [Array.toList_push, List.map_append, ← hid]
      exact mapIs_push (v := v) hM' hq
  | some p =>
    obtain ⟨j, u⟩ := p
    rw [hq] at hfi
    obtain ⟨g2, g3⟩ := mapIs_modify (v := v) hM' hq
    rw [hid] at g3
    refine ⟨es.modify j fun e => { e with key := k, val := v }, clock, ?_, ?_, MapKept.stamped_modify hst j _ (fun _ _ => rfl) fun en _ hen => ?_⟩
    · have hset := MapKept.run_setObj_map (P := P) (.map (es.modify j fun e => { e with key := k, val := v }) clock) h2
      have hkey : ((es[j]?).map (·.key)).getD k = k := by
        rw [Array.getElem?_toList] at g2
        rw [g2]
        rfl
      have hstay : (Instr.keyThatStays k k).run P w = .ok k w := by
        unfold Instr.keyThatStays
        rw [hk.bits k hok]
        rfl
      simp only [Instr.mapUpdate, Sem.run_bind, run_underlying hu, Result.andThen_ok, hget, hk.chk false k w hok, hfi, hkey, hstay, hset]
    · rw [Array.toList_modify]; exact g3
    · rw [Array.getElem?_toList, hen] at g2
      exact (Option.some.inj g2).symm
end
/-- What a settle does: a new block holds the sector's bytes; a key leads to it. -/
def Settled (w : World) (r1 : Nat) (l1 : List (Value × Value)) (k : Int) (bs : List Int) (w' : World) : Prop :=
  ∃ b es' c', w.heap.size ≤ b ∧ b < w'.heap.size ∧ w'.heap[r1]? = some (.map es' c') ∧ MapIs (es'.toList.map fun e => (e.key, e.val)) (putL l1 (.int .i64 k) (.pointer (some ⟨b, 0, none⟩))) ∧ MapKept.Stamped es' c' ∧
    (∀ (j : Nat) x, bs[j]? = some x → w'.cell? ⟨b, j, none⟩ = some (.int .u8 x) ∧ w'.frozen? ⟨b, j, none⟩ = false) ∧ Fr (fun i _ => i = r1) w w'
theorem settle_calls {w : World} {bd od r1 r2 : Nat} {es1 es2 : Array MapEntry} {c1 c2 : Nat} {k : Int} {l1 : List (Value × Value)} {bs : List Int} {j : Nat}
    (hc0 : w.cell? ⟨bd, od, none⟩ = some (.map (some r1))) (hc1 : w.cell? ⟨bd, od + 1, none⟩ = some (.map (some r2))) (h1 : w.heap[r1]? = some (.map es1 c1)) (h2 : w.heap[r2]? = some (.map es2 c2))
    (hM1 : MapIs (es1.toList.map fun e => (e.key, e.val)) l1) (hk1 : ∀ e ∈ es1.toList, IntK e.key) (hst1 : MapKept.Stamped es1 c1) (hk2 : ∀ e ∈ es2.toList, IntK e.key) (hf : findIx (.int .i64 k) es2.toList 0 = some (j, loC bs)) (hl : bs.length = 128) :
    Calls Try.prog 37 #[.pointer (some ⟨bd, od, none⟩), .int .i64 k] w fun en w' => en = .returned (.tuple #[]) ∧ Settled w r1 l1 k bs w' := by
  have e1 : (w.alloc (.cells (u8s bs).toArray 74)).heap.size = w.heap.size + 1 := by simp
  have hlt1 : r1 < w.heap.size := (Array.getElem?_eq_some_iff.1 h1).1
  have h1' : (w.alloc (.cells (u8s bs).toArray 74)).heap[r1]? = some (.map es1 c1) := by rw [(MapKept.heap_alloc w _).2 r1 hlt1]; exact h1
  have hlk := run_lookup_raw (P := Try.prog) (t := 55) Try.underlying55 (keyInt Try.underlying3) h2 (u := .agg (u8s bs).toArray) ⟨k, rfl⟩ hk2 hf
  obtain ⟨es', c', hup, hM, hst⟩ := run_update_raw (P := Try.prog) (t := 54) Try.underlying54 (keyInt Try.underlying3) h1' hM1 hst1 (v := .pointer (some ⟨w.heap.size, 0, none⟩)) ⟨k, rfl⟩ hk1
  have hst62 : (storeCells ⟨w.heap.size, 0, none⟩ (u8s bs)).run Try.prog (w.alloc (.cells Try.zeroCells74 74)) = .ok () (w.alloc (.cells (u8s bs).toArray 74)) := by
    refine run_storeCells_new w 74 Try.zeroCells74 (u8s bs).toArray ?_ ?_ ?_
    · rw [List.size_toArray, List.length_map, hl]; kernel_rfl
    · exact (show Try.zeroCells74.size = 128 by kernel_rfl).trans (by rw [List.size_toArray, List.length_map, hl])
    · simp only [List.all_toArray, List.all_eq_true]
      exact fun c hc => u8s_one hc
  have hA : Fr (fun i _ => i = r1) w (w.alloc (.cells (u8s bs).toArray 74)) := Fr.alloc _ w _
  have hc0' : (w.alloc (.cells (u8s bs).toArray 74)).cell? ⟨bd, od, none⟩ = some (.map (some r1)) := ((Fr.alloc (fun _ _ => False) w _).cell _ _ (cell_some_lt hc0) fun h => h).trans hc0
  have hB := fr_setObj h1' es' c'
  have hfin : Settled w r1 l1 k bs { (w.alloc (.cells (u8s bs).toArray 74)) with heap := (w.alloc (.cells (u8s bs).toArray 74)).heap.setIfInBounds r1 (.map es' c') } := by
    refine ⟨w.heap.size, es', c', Nat.le_refl _, ?_, (MapKept.heap_set h1').1, hM, hst, fun j x hj => ?_, hA.trans hB (fun _ _ _ h => h) (fun _ _ _ h => h)⟩
    · show w.heap.size < (Array.setIfInBounds _ _ _).size
      rw [Array.size_setIfInBounds, e1]
      exact Nat.lt_succ_self _
    · have hc : (w.alloc (.cells (u8s bs).toArray 74)).cell? ⟨w.heap.size, j, none⟩ = some (.int .u8 x) := by
        rw [World.cell?_alloc_new]
        simp [u8s, hj]
      rw [hB.cell _ _ (cell_some_lt hc) (fun e => by show False; exact absurd (show w.heap.size = r1 from e) (by omega)), hB.frozen _ _ (by rw [hc]; rfl), World.frozen?_alloc_new]
      exact ⟨hc, rfl⟩
  go_enter Try.func37, Try.ntmps37
  go_wp2
  exact Go.Great.bodyPost_end0 rfl rfl ⟨rfl, hfin⟩
end Go.Proofs.Ytaigdbnfhehclaa

namespace Go.Proofs.Ytaigdbnfhehclaa
open Go.RowKit Sx
set_option maxRecDepth 100000

theorem fr_setIter {w : World} {r : Nat} {m : Option Nat} {s0 c0 : Nat} {seen : Array Nat} (hb : w.heap[r]? = some (.mapIter m s0 seen c0)) (m' : Option Nat) (s' c' : Nat) (seen' : Array Nat) : Fr (fun i _ => i = r) w { w with heap := w.heap.setIfInBounds r (.mapIter m' s' seen' c') } where
  os := rfl
  tape := rfl
  output := rfl
  size := by simp
  block i _ hn := (MapKept.heap_set hb).2 i fun e => hn 0 e
  cell i o _ hn := by unfold World.cell?; simp only; rw [(MapKept.heap_set hb).2 i hn]
  frozen i o hi := by
    have : i ≠ r := fun e => by subst e; unfold World.cell? at hi; simp [hb] at hi
    unfold World.frozen?; simp only; rw [(MapKept.heap_set hb).2 i this]
  shape i _ := by
    by_cases e : i = r
    · subst e
      unfold World.shape?
      simp only
      rw [(MapKept.heap_set hb).1, hb]
    · unfold World.shape?; simp only; rw [(MapKept.heap_set hb).2 i e]
  sane i _ hs := by
    intro c e lo hi hc
    by_cases e : i = r
    · subst e
      simp only [(MapKept.heap_set hb).1] at hc
      cases hc
    · simp only [(MapKept.heap_set hb).2 i e] at hc
      exact hs _ _ _ _ hc
  frl i _ _ := by
    by_cases e : i = r
    · subst e
      unfold frozenL
      simp only [(MapKept.heap_set hb).1, hb]
    · unfold frozenL
      simp only [(MapKept.heap_set hb).2 i e]
section
variable {P : Program} (w : World) {ops : Array Oper} {rest : List Oper} {o : Oper} {a : Act} {Q : Exit → Act → World → Prop}
theorem wpList_range_raw (hg : o.guard = none) (m : Operand) (t : TypeId) (hop : o.op = Op.range t m) (k e : TypeId) (ht : P.underlying t = some (.map k e)) (b : Nat) (es : Array MapEntry) (clock : Nat)
    (hm : a.eval m = .map (some b)) (hb : w.heap[b]? = some (.map es clock))
    (hK : wpList P ops Q rest (a.put o.dst (.pointer (some ⟨w.heap.size, 0, none⟩))) (w.alloc (.mapIter (some b) clock #[] clock))) :
    wpList P ops Q (o :: rest) a w := by
  refine wpList_plain hg fun K' hK' => ?_
  have hrun := run_range_map (P := P) w t k e b es clock ht hb
  unfold Oper.wp
  simp [execOp, hop, hm, hrun, Result.andThen]
  exact hK' _ _ hK
/-- A loop over a map is under way. -/
structure Ranging (w : World) (r b since : Nat) (es : Array MapEntry) (clock : Nat) (seen : Array Nat) : Prop where
  it : ∃ c0, w.heap[r]? = some (.mapIter (some b) since seen c0) ∧ since ≤ c0
  mp : w.heap[b]? = some (.map es clock)
  old : ∀ x ∈ es.toList, x.born < since
theorem Ranging.left {w : World} {r b since : Nat} {es : Array MapEntry} {clock : Nat} {seen : Array Nat} (h : Ranging w r b since es clock seen) : w.rangeLeft b r = (leftOf es seen).size := by
  obtain ⟨c0, h1, _⟩ := h.it
  unfold World.rangeLeft
  rw [h.mp, h1]
theorem Ranging.kept {w w' : World} {r b since : Nat} {es : Array MapEntry} {clock : Nat} {seen : Array Nat} (h : Ranging w r b since es clock seen) (h1 : w'.heap[r]? = w.heap[r]?) (h2 : w'.heap[b]? = w.heap[b]?) : Ranging w' r b since es clock seen :=
  ⟨by obtain ⟨c0, g1, g2⟩ := h.it; exact ⟨c0, h1.trans g1, g2⟩, h2.trans h.mp, h.old⟩
theorem wpList_next_raw (hg : o.guard = none) (it : Operand) (hop : o.op = Op.next it false) (r b since : Nat) (es : Array MapEntry) (clock : Nat) (seen : Array Nat)
    (hit : a.eval it = .pointer (some ⟨r, 0, none⟩)) (h : Ranging w r b since es clock seen) (hne : r ≠ b) (hsc : since ≤ clock) (hn : (es.toList.map (·.born)).Nodup)
    (hDone : (leftOf es seen).size = 0 → wpList P ops Q rest (a.put o.dst (.tuple #[.bool false])) w)
    (hMore : ∀ (e : MapEntry) (w' : World), e ∈ (leftOf es seen).toList → Ranging w' r b since es clock (seen.push e.born) → Fr (fun i _ => i = r) w w' → (Instr.entry (.pointer (some ⟨r, 0, none⟩))).run P w' = .ok (.tuple #[e.key, e.val]) w' → wpList P ops Q rest (a.put o.dst (.tuple #[.bool true, e.key, e.val])) w') :
    wpList P ops Q (o :: rest) a w := by
  refine wpList_plain hg fun K' hK' => ?_
  unfold Oper.wp
  obtain ⟨c0, hr, hc0⟩ := h.it
  rcases run_next_at (P := P) w o.type r b since c0 seen es clock hr h.mp h.old hc0 with ⟨h0, hrun⟩ | ⟨e, he, w1, hw1, hrun⟩
  · simp [execOp, hop, hit, hrun, Result.andThen]
    exact hK' _ _ (hDone h0)
  · have hr1 : w1.heap[r]? = some (.mapIter (some b) since seen c0) := by rcases hw1 with rfl | rfl <;> exact hr
    have hb1 : w1.heap[b]? = some (.map es clock) := by rcases hw1 with rfl | rfl <;> exact h.mp
    have hset := MapKept.heap_set (o' := .mapIter (some b) since (seen.push e.born) clock) hr1
    have hes : e ∈ es.toList := by
      unfold leftOf at he
      simp at he
      simpa using he.1
    have hR : Ranging (ChangeMaps.setBlock w1 r (.mapIter (some b) since (seen.push e.born) clock)) r b since es clock (seen.push e.born) := ⟨⟨clock, hset.1, hsc⟩, (hset.2 b (Ne.symm hne)).trans hb1, h.old⟩
    simp [execOp, hop, hit, hrun, Result.andThen]
    refine hK' _ _ (hMore e _ he hR ?_ (run_entry_at _ r b since seen es clock e hset.1 hR.mp hes hn))
    have f1 : Fr (fun i _ => i = r) w w1 := by
      rcases hw1 with rfl | rfl
      · exact Fr.refl _ _
      · exact Fr.drew _
    exact f1.trans (fr_setIter hr1 _ _ _ _) (fun _ _ _ h => h) (fun _ _ _ h => h)
end
theorem sync_off {w : World} {bd od : Nat} (hc : w.cell? ⟨bd, od + 2, none⟩ = some (.bool true)) :
    Calls Try.prog 14 #[.pointer (some ⟨bd, od, none⟩)] w fun en w' => en = .returned (.int .i64 9) ∧ w' = w := by
  go_enter Try.func14, Try.ntmps14
  go_wp2
  go_ret
  exact ⟨rfl, rfl⟩
theorem sync_struck {w : World} {bd od : Nat} (hc : w.cell? ⟨bd, od + 2, none⟩ = some (.bool false)) {R : World → Prop} (hs : Calls Try.prog 36 #[.pointer (some ⟨bd, od, none⟩)] w fun en w' => en = .returned (.bool true) ∧ R w') :
    Calls Try.prog 14 #[.pointer (some ⟨bd, od, none⟩)] w fun en w' => en = .returned (.int .i64 9) ∧ R w' := by
  go_enter Try.func14, Try.ntmps14
  go_wp2_with (go_at_call 36; refine hs.mono ?_; rintro en w' ⟨rfl, hR⟩)
  go_ret
  exact ⟨rfl, hR⟩

abbrev prs (es : Array MapEntry) : List (Value × Value) := es.toList.map fun e => (e.key, e.val)
theorem int_keys {es : Array MapEntry} {l : List (Value × Value)} (h : MapIs (prs es) l) (hl : ∀ p ∈ l, IntK p.1) : ∀ e ∈ es.toList, IntK e.key := fun e he =>
  hl (e.key, e.val) (h.1.mem_iff.1 (List.mem_map.2 ⟨e, he, rfl⟩))
/-- What Sync needs of a world. -/
structure SyncAt (w : World) (bd od r1 r2 : Nat) (n : Int) (l1 : List (Value × Value)) (lo : List (Int × List Int)) : Prop where
  c0 : w.cell? ⟨bd, od, none⟩ = some (.map (some r1))
  c1 : w.cell? ⟨bd, od + 1, none⟩ = some (.map (some r2))
  c4 : w.cell? ⟨bd, od + 4, none⟩ = some (.int .i64 n)
  f4 : w.frozen? ⟨bd, od + 4, none⟩ = false
  m1 : ∃ es c, w.heap[r1]? = some (.map es c) ∧ MapIs (prs es) l1 ∧ MapKept.Stamped es c
  k1 : ∀ p ∈ l1, IntK p.1
  m2 : ∃ es c, w.heap[r2]? = some (.map es c) ∧ MapIs (prs es) (encA loC lo) ∧ MapKept.Stamped es c
  len : ∀ p ∈ lo, p.2.length = 128
  ne : r1 ≠ r2
/-- A block that holds a sector. -/
def SecAt (w : World) (b : Nat) (bs : List Int) : Prop := ∀ (j : Nat) x, bs[j]? = some x → w.cell? ⟨b, j, none⟩ = some (.int .u8 x) ∧ w.frozen? ⟨b, j, none⟩ = false
theorem SecAt.keep {w w' : World} {b : Nat} {bs : List Int} {S : Foot} (h : SecAt w b bs) (hS : Fr S w w') (hb : b < w.heap.size) (hn : ∀ x, ¬ S b x) : SecAt w' b bs := fun j x hj => by
  obtain ⟨h1, h2⟩ := h j x hj
  exact ⟨(hS.cell _ _ hb (hn _)).trans h1, (hS.frozen _ _ (by rw [h1]; rfl)).trans h2⟩
/-- Some of what was loose lasts: which key's bytes lie in which block. -/
structure Part (wb w : World) (r1 : Nat) (l1 : List (Value × Value)) (lo : List (Int × List Int)) (bl : Int → Option Nat) : Prop where
  m1 : ∃ es c l', w.heap[r1]? = some (.map es c) ∧ MapIs (prs es) l' ∧ MapKept.Stamped es c ∧ (∀ p ∈ l', IntK p.1) ∧ ∀ k, getL l' (.int .i64 k) = match bl k with | some b => some (.pointer (some ⟨b, 0, none⟩)) | none => getL l1 (.int .i64 k)
  at_ : ∀ k b, bl k = some b → wb.heap.size < b ∧ b < w.heap.size ∧ ∃ bs, getA lo k = some bs ∧ SecAt w b bs
  inj : ∀ k k' b, bl k = some b → bl k' = some b → k = k'
  fr : Fr (fun i _ => i = r1) wb w
/-- A round. -/
theorem Part.next {wb w w1 w2 : World} {r1 : Nat} {l1 l' : List (Value × Value)} {lo : List (Int × List Int)} {bl : Int → Option Nat} (h : Part wb w r1 l1 lo bl) (hw : Fr (fun i _ => i = wb.heap.size) w w1) (hlt : wb.heap.size < w.heap.size) (hr1 : r1 < wb.heap.size)
    (hk1 : ∀ p ∈ l', IntK p.1) (hg : ∀ k, getL l' (.int .i64 k) = match bl k with | some b => some (.pointer (some ⟨b, 0, none⟩)) | none => getL l1 (.int .i64 k)) {k : Int} {bs : List Int} (hlo : getA lo k = some bs) (hS : Settled w1 r1 l' k bs w2) :
    ∃ b, Part wb w2 r1 l1 lo (fun z => if z = k then some b else bl z) := by
  obtain ⟨b, es', c', s1, s2, s3, s4, s5, s6, s7⟩ := hS
  have hsz : w.heap.size ≤ w1.heap.size := hw.size
  have hsz' : w1.heap.size ≤ w2.heap.size := s7.size
  refine ⟨b, ⟨⟨es', c', _, s3, s4, s5, fun p hp => ?_, fun z => ?_⟩, fun z b' hz => ?_, fun z z' b' hz hz' => ?_, ?_⟩⟩
  · rcases putL_mem p hp with rfl | hp
    · exact ⟨k, rfl⟩
    · exact hk1 p hp
  · rw [getL_put]
    by_cases e : z = k
    · subst e
      rw [if_pos rfl, if_pos rfl]
    · rw [if_neg (by simpa using e), if_neg e]
      exact hg z
  · by_cases e : z = k
    · subst e
      simp only [if_pos] at hz
      cases hz
      exact ⟨by omega, s2, bs, hlo, s6⟩
    · simp only [if_neg e] at hz
      obtain ⟨a1, a2, bs', a3, a4⟩ := h.at_ z b' hz
      exact ⟨a1, by omega, bs', a3, (a4.keep hw a2 fun _ => by omega).keep s7 (by omega) fun _ => by omega⟩
  · by_cases e : z = k
    · subst e
      by_cases e' : z' = z
      · exact e'.symm
      · simp only [if_pos, if_neg e'] at hz hz'
        cases hz
        have := (h.at_ z' b hz').2.1
        omega
    · by_cases e' : z' = k
      · subst e'
        simp only [if_pos, if_neg e] at hz hz'
        cases hz'
        have := (h.at_ z b hz).2.1
        omega
      · simp only [if_neg e, if_neg e'] at hz hz'
        exact h.inj z z' b' hz hz'
  · have f1 : Fr (fun i _ => i = r1) wb w1 := h.fr.trans (T := fun i _ => i = r1) hw (fun _ _ _ h => h) fun i _ hi e => by omega
    exact f1.trans s7 (fun _ _ _ h => h) (fun _ _ _ h => h)

theorem cell_not_map {w : World} {b o : Nat} {v : Value} {es : Array MapEntry} {c : Nat} (h : w.cell? ⟨b, o, none⟩ = some v) (hm : w.heap[b]? = some (.map es c)) : False := by
  unfold World.cell? at h
  simp [hm] at h
/-- What Sync leaves. -/
structure Synced (w w' : World) (bd od r1 r2 : Nat) (n : Int) (l1 : List (Value × Value)) (lo : List (Int × List Int)) (bl : Int → Option Nat) : Prop where
  m1 : ∃ es c l', w'.heap[r1]? = some (.map es c) ∧ MapIs (prs es) l' ∧ MapKept.Stamped es c ∧ (∀ p ∈ l', IntK p.1) ∧ ∀ k, getL l' (.int .i64 k) = match bl k with | some b => some (.pointer (some ⟨b, 0, none⟩)) | none => getL l1 (.int .i64 k)
  m2 : ∃ c, w'.heap[r2]? = some (.map #[] c)
  c4 : w'.cell? ⟨bd, od + 4, none⟩ = some (.int .i64 (inc n))
  at_ : ∀ k b, bl k = some b → w.heap.size ≤ b ∧ b < w'.heap.size ∧ ∃ bs, getA lo k = some bs ∧ SecAt w' b bs
  all : ∀ k, (getA lo k).isSome = true → (bl k).isSome = true
  inj : ∀ k k' b, bl k = some b → bl k' = some b → k = k'
  fr : Fr (fun i x => i = r1 ∨ i = r2 ∨ i = bd ∧ x = od + 4) w w'
theorem sync_run {w : World} {bd od r1 r2 : Nat} {n : Int} {l1 : List (Value × Value)} {lo : List (Int × List Int)} (hc : w.cell? ⟨bd, od + 2, none⟩ = some (.bool false)) {R : World → Prop} (hs : Calls Try.prog 36 #[.pointer (some ⟨bd, od, none⟩)] w fun en w' => en = .returned (.bool false) ∧ R w')
    (hR : ∀ w', R w' → SyncAt w' bd od r1 r2 n l1 lo) :
    Calls Try.prog 14 #[.pointer (some ⟨bd, od, none⟩)] w fun en w2 => en = .returned (.int .i64 0) ∧ ∃ w' bl, R w' ∧ Synced w' w2 bd od r1 r2 n l1 lo bl := by
  go_enter Try.func14, Try.ntmps14
  go_wp2_with (first
    | (go_at_call 36; refine hs.mono ?_; rintro en w' ⟨rfl, hR0⟩; obtain ⟨h0, h1, h4, f4, ⟨es1, cl1, hm1, hM1, hS1⟩, k1, ⟨es2, cl2, hm2, hM2, hS2⟩, hlen, hne⟩ := hR w' hR0)
    | (at_range; refine wpList_range_raw _ rfl _ 55 rfl 3 74 Try.underlying55 r2 es2 cl2 rfl ?_ ?_))
  · exact ((Fr.setCells w' bd (od + 4) [_]).block r2 (Array.getElem?_eq_some_iff.1 hm2).1 fun o ho => cell_not_map h4 (ho.1 ▸ hm2)).trans hm2
  obtain ⟨W0, hW0⟩ : ∃ W0, W0 = w'.setCell { block := bd, off := od + 4 } (Value.int IntKind.i64 (wrap64 (n + 1))) := ⟨_, rfl⟩
  rw [← hW0]
  have hF0 : Fr (fun i x => i = bd ∧ x = od + 4) w' W0 := by
    rw [hW0]
    exact (Fr.setCells w' bd (od + 4) [_]).mono fun i x _ hx => ⟨hx.1, by have h1 := hx.2.1; have h2 : x < od + 4 + 1 := hx.2.2; omega⟩
  have g4 : W0.cell? ⟨bd, od + 4, none⟩ = some (.int .i64 (inc n)) := by
    rw [hW0, World.cell?_setCell_same' _ _ _ (by rw [h4]; rfl)]
    unfold inc
    rw [IntWalk.i64_left]
  clear hW0
  have nb1 : bd ≠ r1 := fun e => cell_not_map h4 (e ▸ hm1)
  have nb2 : bd ≠ r2 := fun e => cell_not_map h4 (e ▸ hm2)
  have bl0 : bd < w'.heap.size := cell_some_lt h4
  have rl1 := (Array.getElem?_eq_some_iff.1 hm1).1
  have rl2 := (Array.getElem?_eq_some_iff.1 hm2).1
  have hs0 := hF0.size
  have g0 := (hF0.cell bd od bl0 (by omega)).trans h0
  have g1 := (hF0.cell bd (od + 1) bl0 (by omega)).trans h1
  have n1 := (hF0.block r1 rl1 fun o e => nb1 e.1.symm).trans hm1
  have n2 := (hF0.block r2 rl2 fun o e => nb2 e.1.symm).trans hm2
  go_frame
  go_loopw [3] (fun _ wr => ∃ seen bl, Ranging wr W0.heap.size r2 cl2 es2 cl2 seen ∧ (∀ e ∈ es2.toList, seen.contains e.born = true → ∃ k, e.key = .int .i64 k ∧ (bl k).isSome = true) ∧ Part W0 wr r1 l1 lo bl) (fun _ wr => wr.rangeLeft r2 W0.heap.size)
  case atStart =>
    exact ⟨#[], fun _ => none, ⟨⟨cl2, (MapKept.heap_alloc W0 _).1, Nat.le_refl _⟩, ((MapKept.heap_alloc W0 _).2 r2 (by omega)).trans n2, hS2.1⟩, fun e _ h => by simp at h,
      ⟨⟨es1, cl1, l1, ((MapKept.heap_alloc W0 _).2 r1 (by omega)).trans n1, hM1, hS1, k1, fun k => rfl⟩, fun _ _ h => (by cases h), fun _ _ _ h => (by cases h), Fr.alloc _ W0 _⟩⟩
  case round =>
    obtain ⟨seen, bl, hrg, hseen, hp⟩ := hrel
    have hwr : W0.heap.size < wr.heap.size := by
      obtain ⟨c0, h, _⟩ := hrg.it
      exact (Array.getElem?_eq_some_iff.1 h).1
    have q0 := (hp.fr.cell bd od (by omega) nb1).trans g0
    have q1 := (hp.fr.cell bd (od + 1) (by omega) nb1).trans g1
    go_wp2_with (first
      | (at_next; refine wpList_next_raw _ rfl _ rfl W0.heap.size r2 cl2 es2 cl2 seen rfl hrg (by omega) (Nat.le_refl _) hS2.2.1 ?_ ?_))
    · intro hl0
      have hset := MapKept.run_setObj_map (P := Try.prog) (.map #[] cl2) hrg.mp
      have hget := MapKept.run_getObj_map (P := Try.prog) hrg.mp
      have hclr : (Builtin.clear_ #[55] 0 #[.map (some r2)]).run Try.prog wr = .ok (.tuple #[]) { wr with heap := wr.heap.setIfInBounds r2 (.map #[] cl2) } := by
        simp only [Builtin.clear_, List.getElem?_toArray, List.getElem?_cons_zero, Sem.run_bind, run_underlying Try.underlying55, Result.andThen_ok, hget, hset, Sem.run_pure]
      clear hset hget
      have hfin : ∃ w' bl, R w' ∧ Synced w' { wr with heap := wr.heap.setIfInBounds r2 (.map #[] cl2) } bd od r1 r2 n l1 lo bl := by
        have hz := fr_setObj hrg.mp #[] cl2
        obtain ⟨es', c', l', z1, z2⟩ := hp.m1
        have fz : Fr (fun i _ => i = r1 ∨ i = r2) W0 { wr with heap := wr.heap.setIfInBounds r2 (.map #[] cl2) } := hp.fr.trans hz (fun _ _ _ h => .inl h) (fun _ _ _ h => .inr h)
        refine ⟨w', bl, hR0, ⟨es', c', l', (hz.block r1 (by omega) fun _ e => hne e).trans z1, z2⟩, ⟨cl2, (MapKept.heap_set hrg.mp).1⟩, (fz.cell bd (od + 4) (by omega) (by omega)).trans g4, fun k b hk => ?_, fun k hk => ?_, hp.inj, hF0.trans fz (fun _ _ _ h => .inr (.inr h)) (fun _ _ _ h => h.imp id .inl)⟩
        · obtain ⟨a1, a2, bs, a3, a4⟩ := hp.at_ k b hk
          exact ⟨by omega, Nat.lt_of_lt_of_le a2 hz.size, bs, a3, a4.keep hz a2 fun _ => by omega⟩
        · cases hg : getA lo k with
          | none => rw [hg] at hk; cases hk
          | some bs =>
            have h1 : getL (encA loC lo) (.int .i64 k) = some (loC bs) := by rw [getL_enc, hg]; rfl
            have h2 := hM2.1.mem_iff.2 ((getL_some hM2.2).1 h1)
            obtain ⟨e, he, hee⟩ := List.mem_map.1 h2
            have h3 : seen.contains e.born = true := by
              cases hq : seen.contains e.born with
              | true => rfl
              | false =>
                have : e ∈ leftOf es2 seen := by
                  unfold leftOf
                  rw [Array.mem_filter]
                  exact ⟨Array.mem_toList_iff.1 he, by rw [hq]; rfl⟩
                rw [show leftOf es2 seen = #[] by simpa using hl0] at this
                exact absurd this (by simp)
            obtain ⟨k', h4, h5⟩ := hseen e he h3
            have h6 : e.key = .int .i64 k := congrArg Prod.fst hee
            rw [h6] at h4
            cases h4
            exact h5
      go_wp2
      go_ret
      exact ⟨rfl, hfin⟩
    · intro e w1 he hrg1 hf1 hen
      have hes : e ∈ es2.toList := by
        unfold leftOf at he
        simp at he
        simpa using he.1
      obtain ⟨k, hk⟩ := int_keys hM2 (encA_int loC lo) e hes
      obtain ⟨bs, hlo, hval⟩ : ∃ bs, getA lo k = some bs ∧ e.val = loC bs := by
        have h1 : (e.key, e.val) ∈ encA loC lo := hM2.1.mem_iff.1 (List.mem_map.2 ⟨e, hes, rfl⟩)
        have h2 := (getL_some hM2.2).2 h1
        rw [hk, getL_enc] at h2
        cases hg : getA lo k with
        | none => rw [hg] at h2; cases h2
        | some bs => rw [hg] at h2; exact ⟨bs, rfl, (Option.some.inj h2).symm⟩
      obtain ⟨j, hf⟩ : ∃ j, findIx (.int .i64 k) es2.toList 0 = some (j, loC bs) := by
        have h1 := mapIs_find (c := id) (es := es2.toList) (l := encA loC lo) (by rw [show (encA loC lo).map (fun p => (p.1, id p.2)) = encA loC lo from List.map_id _]; exact hM2) (.int .i64 k)
        rw [getL_enc, hlo] at h1
        cases hq : findIx (.int .i64 k) es2.toList 0 with
        | none => rw [hq] at h1; cases h1
        | some p => rw [hq] at h1; obtain ⟨j, u⟩ := p; exact ⟨j, by rw [show u = loC bs from Option.some.inj h1]⟩
      obtain ⟨es', c', l', z1, z2, z3, z4, z5⟩ := hp.m1
      have v0 := (hf1.cell bd od (by omega) (by omega)).trans q0
      have v1 := (hf1.cell bd (od + 1) (by omega) (by omega)).trans q1
      have v2 := (hf1.block r1 (by omega) (fun _ => by omega)).trans z1
      have hset := settle_calls v0 v1 v2 hrg1.mp z2 (int_keys z2 z4) z3 (int_keys hM2 (encA_int loC lo)) hf (hlen _ (getA_mem hlo))
      rw [hk] at hen ⊢
      go_wp2_with (go_at_call 37; refine hset.mono ?_; rintro en w2 ⟨rfl, hw2⟩)
      have hx := hw2
      obtain ⟨b0, _, _, _, _, _, _, _, _, hf2⟩ := hx
      obtain ⟨b, hp2⟩ := hp.next hf1 hwr (by omega) z4 z5 hlo hw2
      have hrg2 : Ranging w2 W0.heap.size r2 cl2 es2 cl2 (seen.push e.born) := hrg1.kept (hf2.block _ (by have := hf1.size; omega) fun _ => by omega) (hf2.block _ (by have := hf1.size; omega) fun _ => by omega)
      go_roundw
      case rel =>
        refine ⟨_, _, hrg2, fun e' he' hsn => ?_, hp2⟩
        obtain ⟨k', hk'⟩ := int_keys hM2 (encA_int loC lo) e' he'
        refine ⟨k', hk', ?_⟩
        by_cases hkk : k' = k
        · rw [if_pos hkk]; rfl
        · rw [if_neg hkk]
          have : seen.contains e'.born = true := by
            rcases Array.mem_push.1 (Array.contains_iff_mem.1 hsn) with h | h
            · exact Array.contains_iff_mem.2 h
            · have : e' = e := born_inj hS2.2.1 he' hes h
              subst this
              rw [hk] at hk'
              cases hk'
              exact absurd rfl hkk
          obtain ⟨k'', h1, h2⟩ := hseen e' he' this
          rw [hk'] at h1
          cases h1
          exact h2
      case measure => rw [hrg2.left, hrg.left]; exact left_shrinks es2 seen e (by simpa using he)
end Go.Proofs.Ytaigdbnfhehclaa
