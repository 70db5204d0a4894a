/-
  What is proved: contracts of the slice of an array, of copy, of a map's asking with ok and its clearing, in names of objects; no program in sight. Condition: the types are as said.
-/
import Derived.Test.YtcedgoaanlbldaaSzI
namespace Go.Proofs.Ytcedgoaanlbldaa
namespace Sx
open Go.RowKit

section
variable {P : Program}
/-- Cells of an object are written over. -/
theorem Objs.over {w : World} {h : Nat → OneV} {F : Foot} {G : List Ob} {f : Nat → Foot} (H : Objs w h F G f) {n k : Nat} {ob : Ob} {cells us : List Value} (hn : G[n]? = some ob) (hop : ob.open_ = true) (hcl : ob.cells? = some cells)
    (hone : ∀ c ∈ us, c.oneCell' = true) (hinv : ∀ c ∈ us, Inv h G.length c) (hle : k + us.length ≤ cells.length) :
    ∃ b o', (∀ i, hatV (h n).val i = .pointer (some ⟨b, o' + i, none⟩)) ∧ (∀ j, j < cells.length → (w.cell? ⟨b, o' + j, none⟩).isSome = true ∧ w.frozen? ⟨b, o' + j, none⟩ = false) ∧
      ∃ F' f', Fr F w (w.setCells b (o' + k) (us.map (concE h))) ∧ Objs (w.setCells b (o' + k) (us.map (concE h))) h F' (G.set n (ob.with_ (overV cells k us))) f' ∧ ∀ i x, F' i x → F i x ∨ w.heap.size ≤ i := by
  have hc : cellsAt G n = some cells := by unfold cellsAt; rw [hn]; exact hcl
  obtain ⟨b, o', q1, q2⟩ := cellsAt_spec hc H
  have hlm : (us.map (concE h)).length = us.length := List.length_map _
  -- the cells may be written, and are the object's
  have hob := H.ob n _ hn
  have hwr : ∀ j, j < cells.length → (w.cell? ⟨b, o' + j, none⟩).isSome = true ∧ w.frozen? ⟨b, o' + j, none⟩ = false ∧ f n b (o' + j) := by
    intro j hj
    cases ob with
    | row s' len cs =>
      cases hcl
      obtain ⟨b', o2, cap, h1, h2, h4, h5, h6, h7, h8, h9⟩ := hob
      have e := q1 0
      rw [h1] at e
      simp only [hatV, Value.pointer.injEq, Option.some.injEq, Addr.mk.injEq, Nat.add_zero, and_true] at e
      obtain ⟨rfl, rfl⟩ := e
      have hle' : len * s' ≤ cap * s' := Nat.mul_le_mul_right _ h2
      have := h6 j (by omega)
      exact ⟨by obtain ⟨⟨u, hu, _⟩, _⟩ := this; rw [hu]; rfl, this.2, (h8 _ _).2 ⟨rfl, by omega⟩⟩
    | ptr cs =>
      cases hcl
      obtain ⟨b', o2, h1, h2, h3, h4⟩ := hob
      have e := q1 0
      rw [h1] at e
      simp only [hatV, Value.pointer.injEq, Option.some.injEq, Addr.mk.injEq, Nat.add_zero, and_true] at e
      obtain ⟨rfl, rfl⟩ := e
      have := h3 j _ (List.getElem?_eq_getElem hj)
      exact ⟨by rw [this.1.cell]; rfl, this.2, (h4 _ _).2 ⟨rfl, by omega, by omega⟩⟩
    | _ => cases hop
  have hcell : ∀ j, j < cells.length → (w.setCells b (o' + k) (us.map (concE h))).cell? ⟨b, o' + j, none⟩ = ((overV cells k us)[j]?).map (concE h) := by
    intro j hj
    rw [overV_get _ _ _ hle]
    by_cases hin : k ≤ j ∧ j < k + us.length
    · rw [if_pos hin]
      have := World.cell?_setCells_in b (us.map (concE h)) (o' + k) w (fun i hi => by
        have := (hwr (k + i) (by omega)).1
        rwa [← Nat.add_assoc] at this) (j - k) (by omega)
      rw [show o' + k + (j - k) = o' + j by omega] at this
      rw [this, List.getElem_map, List.getElem?_eq_getElem (by omega)]
      rfl
    · rw [if_neg hin, World.cell?_setCells_out _ _ _ _ _ (fun _ _ => by show o' + j < o' + k ∨ o' + k + _ ≤ o' + j; omega), (q2 j _ (List.getElem?_eq_getElem hj)).cell, List.getElem?_eq_getElem hj]
      rfl
  have hfz : ∀ j, (w.setCells b (o' + k) (us.map (concE h))).frozen? ⟨b, o' + j, none⟩ = w.frozen? ⟨b, o' + j, none⟩ := fun j => World.frozen?_setCells b _ _ w _
  have hovl := overV_length cells us k hle
  have hnew : ∀ (j : Nat) c, (overV cells k us)[j]? = some c → CellN (w.setCells b (o' + k) (us.map (concE h))) h G.length b (o' + j) c := by
    intro j c hj
    have hjl : j < cells.length := by have := (List.getElem?_eq_some_iff.1 hj).1; omega
    have h1 := hcell j hjl
    rw [hj] at h1
    rw [overV_get _ _ _ hle] at hj
    split at hj
    · have hm := List.mem_of_getElem? hj
      exact ⟨h1, hone c hm, hinv c hm⟩
    · exact ⟨h1, (q2 j c hj).one, (q2 j c hj).inv⟩
  have hsh : ob.shared = false := by cases ob <;> first | rfl | cases hop
  have hset := H.set (Fr.setCells w b (o' + k) (us.map (concE h))) (i := n) (o' := ob.with_ (overV cells k us)) (f' := f n) hn hsh (fun b1 x1 _ hx => by
    obtain ⟨rfl, hx1, hx2⟩ := hx
    have := (hwr (x1 - o') (by omega)).2.2
    rwa [show o' + (x1 - o') = x1 by omega] at this) (fun _ _ hx => .inl hx) (by
    cases ob with
    | row s' len cs =>
      cases hcl
      obtain ⟨b', o2, cap, h1, h2, h4, h5, h6, h7, h8, h9⟩ := hob
      have e := q1 0
      rw [h1] at e
      simp only [hatV, Value.pointer.injEq, Option.some.injEq, Addr.mk.injEq, Nat.add_zero, and_true] at e
      obtain ⟨rfl, rfl⟩ := e
      refine ⟨b', o2, cap, h1, h2, h4, by rw [hovl]; exact h5, fun j hj => ?_, hnew, h8, h9.keep (Fr.setCells w b' (o2 + k) (us.map (concE h)))⟩
      rw [hfz]
      refine ⟨?_, (h6 j hj).2⟩
      by_cases hjl : j < cells.length
      · obtain ⟨c, hcj⟩ : ∃ c, (overV cells k us)[j]? = some c := ⟨_, List.getElem?_eq_getElem (by omega)⟩
        exact ⟨_, (hnew j c hcj).cell, concE_one (hnew j c hcj).one⟩
      · rw [World.cell?_setCells_out _ _ _ _ _ (fun _ _ => by show o2 + j < o2 + k ∨ o2 + k + _ ≤ o2 + j; omega)]
        exact (h6 j hj).1
    | ptr cs =>
      cases hcl
      obtain ⟨b', o2, h1, h2, h3, h4⟩ := hob
      have e := q1 0
      rw [h1] at e
      simp only [hatV, Value.pointer.injEq, Option.some.injEq, Addr.mk.injEq, Nat.add_zero, and_true] at e
      obtain ⟨rfl, rfl⟩ := e
      refine ⟨b', o2, h1, by rw [hovl]; exact h2, fun j c hj => ⟨hnew j c hj, ?_⟩, by rw [hovl]; exact h4⟩
      rw [hfz]
      have hjl : j < cells.length := by have := (List.getElem?_eq_some_iff.1 hj).1; omega
      exact (h3 j _ (List.getElem?_eq_getElem hjl)).2
    | _ => cases hop)
  refine ⟨b, o', q1, fun j hj => ⟨(hwr j hj).1, (hwr j hj).2.1⟩, _, _, (Fr.setCells w b (o' + k) _).mono (fun b1 x1 _ hx => ?_), hset.1, hset.2⟩
  obtain ⟨rfl, hx1, hx2⟩ := hx
  have := (hwr (x1 - o') (by omega)).2.2
  rw [show o' + (x1 - o') = x1 by omega] at this
  exact (H.foot _ _).2 ⟨n, (List.getElem?_eq_some_iff.1 hn).1, this⟩
/-- The slice of a whole array. -/
def aviC (t : TypeId) : Con := ⟨primBase + (32 * (4 * t) + 4), [], fun b => (E.hnd 0).shift b, 2, 0, 1⟩
def aviR (n : Nat) (G : List Ob) (l : List Value) (e : Env) : Prop := ∃ (d : Nat) (cells : List Value), l = [tokAt d 0] ∧ G[d]? = some (.ptr cells) ∧ cells.length = n ∧ e.v 0 = tok G.length ∧ e.g gv = encG (G ++ [.view d 1 0 n])
theorem avi_holds {t el : TypeId} {n : Nat} (hu : P.underlying t = some (.array n el)) (hs : sizeE P el = some 1) : (aviC t).holds P (conR (aviR n)) := by
  refine turn_holds rfl (Nat.le_add_right _ _) (fun G l e _ ⟨_, _, _, _, _, _, hG⟩ => ⟨_, hG, ext1 _⟩) ?_
  rintro o hkey a w h F G f l e hargs H ⟨d, cells, rfl, hd, hcl, he, hG⟩
  obtain ⟨x, lo, hi, hop, hlo, hhi⟩ := key_slice (lo := false) (hi := false) hkey
  obtain rfl : lo = none := by cases lo with | none => rfl | some _ => cases hlo
  obtain rfl : hi = none := by cases hi with | none => rfl | some _ => cases hhi
  obtain ⟨b, o', q1, q2, q3, q4⟩ := H.ob d _ hd
  have hdl := (List.getElem?_eq_some_iff.1 hd).1
  have ha := hargs h fun _ _ => rfl
  rw [hop] at ha
  have ha : [a.eval x] = [concE h (tokAt d 0)] := ha
  simp only [List.cons.injEq, and_true] at ha
  have hc0 : concE h (tokAt d 0) = .pointer (some ⟨b, o', none⟩) := by rw [concE_at, q1]; rfl
  rw [hc0] at ha
  have hb : (Instr.sliceBounds false n n none none none).run P w = .ok (0, n, n) w := by
    unfold Instr.sliceBounds
    simp only [Sem.run_bind, Sem.run_pure, Result.andThen_ok]
  have hne : ¬ n = 0 := by omega
  have hrun : (execOp a.eval o).run P w = .ok (.value (.slice (some ⟨b, o', none⟩) n n)) w := by
    simp only [hop, execOp, ha, Instr.sliceAt, Instr.sureAddr, Option.map_none, Sem.run_bind, run_underlying hu, Result.andThen_ok, hb, sizeE_run hs, if_neg hne, Sem.run_pure, Nat.zero_mul, Nat.sub_zero]
    rfl
  have hat : 0 < n * 1 → Value.pointer (some ⟨b, o', none⟩) = hatV ((fun k => if k = G.length then slV b o' n n else h k) d).val 0 := fun _ => by
    have hnd : ¬ d = G.length := by omega
    simp only [if_neg hnd, q1, hatV, Nat.add_zero]
  have hpush := H.push (slV b o' n n) (o' := .view d 1 0 n) (f' := fun _ _ => False) (fun _ _ hf => hf.elim)
    ⟨⟨b, o', none⟩, _, rfl, Nat.le_refl _, by omega, hat, fun _ _ hf => hf⟩
  refine ⟨_, w, _, _, _, _, hrun, hG, .inl ⟨tok G.length, ?_, by simp only [E.nam, he]; exact oneOf_eq rfl, Inv.name (by simp)⟩, Fr.refl _ _, hpush, fun _ _ hx => .inl (hx.resolve_right id), by simp, fun n hn => if_neg (by omega)⟩
  rw [concE_name, if_pos rfl]
  rfl
theorem key_copy {op : Op} {t : TypeId} (h : primKey op = some (primBase + (32 * t + 19))) : ∃ c, op = .call c ∧ c.callee = .builtin .copy ∧ c.argTypes = #[t, t] := by
  unfold primKey at h
  repeat' split at h
  all_goals (try (exact absurd h.symm (Option.some_ne_none _)))
  all_goals (rw [Option.some.injEq] at h)
  all_goals (try (exfalso; omega))
  rename_i t' h1 h2 h3
  have : @Eq Nat t' t := by omega
  subst this
  exact ⟨_, rfl, h1, h3⟩
theorem key_clear {op : Op} {t : TypeId} (h : primKey op = some (primBase + (32 * t + 21))) : ∃ c, op = .call c ∧ c.callee = .builtin .clear ∧ c.argTypes[0]? = some t := by
  unfold primKey at h
  repeat' split at h
  all_goals (try (exact absurd h.symm (Option.some_ne_none _)))
  all_goals (rw [Option.some.injEq] at h)
  all_goals (try (exfalso; omega))
  rename_i t' h1 h2
  have : @Eq Nat t' t := by omega
  subst this
  exact ⟨_, rfl, h1, h2⟩
/-- copy into a part of a struct's array. -/
def copyB (t : TypeId) : Con := ⟨primBase + (32 * t + 19), [], fun b => (E.int .i64 (.var 0)).shift b, 2, 0, 2⟩
def copyBR (G : List Ob) (l : List Value) (e : Env) : Prop := ∃ (v d k n : Nat) (sv : Value) (m : Nat) (ys cells : List Value), l = [tok v, sv] ∧ G[v]? = some (.view d 1 k n) ∧ G[d]? = some (.ptr cells) ∧ k + n ≤ cells.length ∧ 0 < n ∧ Sl G sv 1 m ys ∧
  e.i 0 = (min m n : Nat) ∧ e.g gv = encG (G.set d (.ptr (overV cells k (ys.take (min m n)))))
theorem copyB_holds {t el : TypeId} (hu : P.underlying t = some (.slice el)) (hs : sizeE P el = some 1) : (copyB t).holds P (conR copyBR) := by
  refine turn_holds rfl (Nat.le_add_right _ _) (fun G l e _ hR => ?_) ?_
  · obtain ⟨v, d, k, n, sv, m, ys, cells, rfl, _, h2, _, _, _, _, hG⟩ := hR
    refine ⟨_, hG, ?_⟩
    unfold extG
    rw [if_neg (by decide), if_pos rfl]
    refine ⟨by simp, fun m o' ho hf => ?_⟩
    rw [List.getElem?_set_ne]
    · exact ho
    · intro e
      subst e
      rw [h2] at ho
      cases ho
      cases hf
  · rintro o hkey a w h F G f l e hargs H ⟨v, d, k, n, sv, m, ys, cells, rfl, hv, hd, hkn, hn0, hsl, he, hG⟩
    obtain ⟨c, hc, hcal, hty⟩ := key_copy hkey
    have ha := hargs h fun _ _ => rfl
    rw [hc] at ha
    simp only [Op.operands, Call.operands, hcal, Array.empty_append, List.map_cons, List.map_nil] at ha
    have hargsA : c.args.map a.eval = #[concE h (tok v), concE h sv] := by
      rw [← Array.toList_inj]; simpa using ha
    obtain ⟨sa, scap, hsv, hsle, hscells, hsinv⟩ := hsl.at_ H
    have hyl := hsl.length
    rw [Nat.mul_one] at hyl
    obtain ⟨va, vcap, g1, g2, g3, g4, g5⟩ := H.ob v _ hv
    have hus : ∀ c ∈ ys.take (min m n), c.oneCell' = true ∧ Inv h G.length c := fun c hc => by
      have hc := List.mem_of_mem_take hc
      obtain ⟨j, hj⟩ := List.getElem?_of_mem hc
      have hyp : 0 < ys.length := by have := (List.getElem?_eq_some_iff.1 hj).1; omega
      obtain ⟨b2, o2, _, hcc⟩ := hscells hyp
      exact ⟨(hcc j c hj).one, (hcc j c hj).inv⟩
    have htl : (ys.take (min m n)).length = min m n := by rw [List.length_take]; omega
    obtain ⟨b, o', q1, q2, F', f', q3, q4, q5⟩ := H.over (k := k) (us := ys.take (min m n)) hd rfl rfl (fun c hc => (hus c hc).1) (fun c hc => (hus c hc).2) (by rw [htl]; omega)
    have hva : va = ⟨b, o' + k, none⟩ := by
      have := g4 (by omega)
      rw [q1] at this
      simpa using this
    have hfirst : (Builtin.firstCells 1 (min m n) (concE h sv)).run P w = .ok ((ys.take (min m n)).map (concE h)).toArray w := by
      rw [hsv]
      by_cases h0 : 0 < ys.length
      · obtain ⟨b2, o2, rfl, hcc⟩ := hscells h0
        refine run_firstCells_some w 1 _ _ _ _ _ (by rw [List.length_map, htl, Nat.mul_one]) fun j u hj => ?_
        rw [List.getElem?_map, List.getElem?_take] at hj
        by_cases hjm : j < min m n
        · rw [if_pos hjm] at hj
          cases hq : ys[j]? with
          | none => simp [hq] at hj
          | some cy =>
            simp only [hq, Option.map_some, Option.some.injEq] at hj
            subst hj
            rw [addr_add]
            exact (hcc j cy hq).cell
        · rw [if_neg hjm] at hj
          cases hj
      · have hy0 : ys = [] := List.length_eq_zero_iff.1 (by omega)
        subst hy0
        have hm0 : min m n = 0 := by simp at hyl; omega
        rw [hm0]
        cases sa with
        | none => exact run_firstCells_none w 1 0 m scap
        | some p => exact run_firstCells_some w 1 0 p m scap [] (by simp) fun j u hj => by simp at hj
    have hst := run_storeCells_cells (P := P) b (o' + k) ((ys.take (min m n)).map (concE h)) 0 w (fun j hj => by
        rw [List.length_map, htl] at hj
        have := (q2 (k + j) (by omega)).1
        rw [← Nat.add_assoc] at this
        simpa using this) (fun j hj => by
        rw [List.length_map, htl] at hj
        have := (q2 (k + j) (by omega)).2
        rw [← Nat.add_assoc] at this
        simpa using this) (fun u hu' => by
        obtain ⟨c, hc, rfl⟩ := List.mem_map.1 hu'
        exact concE_one (hus c hc).1)
    simp only [Nat.add_zero] at hst
    have hlen : (Builtin.lenOf (concE h sv)).run P w = .ok m w := by rw [hsv]; rfl
    have hrun : (Builtin.copy_ #[t, t] o.type #[concE h (tok v), concE h sv]).run P w = .ok (.int .i64 (min m n : Nat)) (w.setCells b (o' + k) ((ys.take (min m n)).map (concE h))) := by
      rw [concE_name, g1]
      simp only [Builtin.copy_, List.getElem?_toArray, List.getElem?_cons_zero, List.getElem?_cons_succ, Sem.run_bind, run_underlying hu, Result.andThen_ok, hlen, sizeE_run hs, show Nat.min m n = min m n from rfl, hfirst, hva, hst, Sem.run_pure]
      rfl
    refine ⟨.value (.int .i64 (min m n : Nat)), _, h, F', f', _, ?_, hG, .inl ⟨.int .i64 (min m n : Nat), rfl, by simp only [E.nam, T.den, he], Inv.of_const fun _ => rfl⟩, q3, q4, q5, by simp, fun _ _ => rfl⟩
    simp only [hc, execOp, resolve, hcal, hargsA, Sem.run_bind, Sem.run_pure, Result.andThen_ok, invoke, builtin, hty, hrun]
/-- What a key leads to, and whether it leads to something. -/
def lukC (t : TypeId) (r : E) : Con := ⟨primBase + (32 * (2 * t + (if true then 1 else 0)) + 6), [], fun b => r.shift b, 1, 1, 0⟩
def lukR (ok : Value → Prop) (z : Value) (r : E) (G : List Ob) (l : List Value) (e : Env) : Prop := ∃ n L k, l = [tok n, k] ∧ G[n]? = some (.map L) ∧ ok k ∧ (∀ p ∈ L, ok p.1) ∧ (∀ cs, (getL L k).getD z ≠ .tuple cs) ∧ r.nam e lay0 = .tuple #[(getL L k).getD z, .bool (getL L k).isSome]
theorem concE_flat {h : Nat → OneV} {v : Value} (hv : ∀ cs, v ≠ .tuple cs) : concE h v = concA h v := by
  cases v with
  | tuple cs => exact absurd rfl (hv cs)
  | _ => rfl
theorem concE_pair {h : Nat → OneV} {v : Value} {b : Bool} (hv : ∀ cs, v ≠ .tuple cs) : concE h (.tuple #[v, .bool b]) = .tuple #[concE h v, .bool b] := by
  rw [concE_flat hv]
  show Value.tuple (#[v, .bool b].map (concA h)) = _
  rw [List.map_toArray]
  rfl
theorem concE_unit (h : Nat → OneV) : concE h (.tuple #[]) = .tuple #[] := by
  show Value.tuple (#[].map (concA h)) = _
  rw [List.map_toArray]
  rfl
theorem Inv.tup {h : Nat → OneV} {n : Nat} {v : Value} {b : Bool} (hv : Inv h n v) (hf : ∀ cs, v ≠ .tuple cs) : Inv h n (.tuple #[v, .bool b]) := fun h' hh => by
  rw [concE_pair hf, concE_pair hf, hv h' hh]
theorem luk_holds {t kt et : TypeId} {i : TypeInfo} {z : Value} {ok : Value → Prop} {r : E} (hu : P.underlying t = some (.map kt et)) (hk : KeyT P kt ok) (hi : P.info? et = some i) (hz : i.zero = some z) (hzc : ∀ h, concE h z = z) (hr : (r.noPtr && r.lt stride) = true) :
    (lukC t r).holds P (conR (lukR ok z r)) := by
  refine read_holds hr (Nat.le_add_right _ _) (fun G G' l e _ hx hd => ?_) ?_
  · obtain ⟨X, rfl, h1, h2⟩ := loc1 hx hd
    constructor
    · rintro ⟨n, L, k, rfl, g1, g2⟩
      exact ⟨n, L, k, rfl, (map_loc (h1 n (List.mem_cons_self ..))).1 g1, g2⟩
    · rintro ⟨n, L, k, rfl, g1, g2⟩
      exact ⟨n, L, k, rfl, (map_loc (h1 n (List.mem_cons_self ..))).2 g1, g2⟩
  · rintro o hkey a w h F G f l e hargs H ⟨n, L, k, rfl, hn, hok, hL, hft, hv⟩
    obtain ⟨x, y, hop⟩ := key_lookup hkey
    obtain ⟨rr, es, clock, h1, h2, h3, h4, h5⟩ := H.ob n _ hn
    have ha := hargs h fun _ _ => rfl
    rw [hop] at ha
    simp only [Op.operands, List.map_cons, List.map_nil, concE_name, h1, hk.conc k h hok, List.cons.injEq, and_true] at ha
    have hfind := mapIs_find h3.1 k
    have hf := hk.find k es.toList w hok (keys_ok h3.1 hL)
    have hzr : ∀ w, (zeroValue et).run P w = .ok z w := fun w => by simp [zeroValue, typeInfo, hi, hz]
    refine ⟨.tuple #[(getL L k).getD z, .bool (getL L k).isSome], ?_, Inv.tup ?_ hft, hv⟩
    · have hget := MapKept.run_getObj_map (P := P) h2
      rw [concE_pair hft]
      simp only [hop, execOp, ha.1, ha.2, Instr.lookup, Sem.run_bind, run_underlying hu, Result.andThen_ok, hget, Sem.run_pure, hk.chk es.isEmpty k w hok, hf]
      cases hq : findIx k es.toList 0 with
      | none =>
        rw [hq] at hfind
        have : getL L k = none := by cases hg : getL L k with | none => rfl | some u => rw [hg] at hfind; cases hfind
        rw [this]
        simp only [Sem.run_bind, hzr, Result.andThen_ok, Sem.run_pure, Option.getD_none, hzc]
        rfl
      | some p =>
        obtain ⟨j, u⟩ := p
        rw [hq] at hfind
        cases hg : getL L k with
        | none => rw [hg] at hfind; cases hfind
        | some u' =>
          rw [hg] at hfind
          simp only [Option.map_some, Option.some.injEq] at hfind
          simp only [Option.getD_some, hfind]
          rfl
    · cases hg : getL L k with
      | none => exact Inv.of_const hzc
      | some u =>
        obtain ⟨p, hp, rfl⟩ := getL_mem hg
        exact h4 p hp
/-- A map is emptied. -/
def clrC (t : TypeId) : Con := ⟨primBase + (32 * t + 21), [], fun b => (E.tup []).shift b, 2, 0, 2⟩
def clrR (G : List Ob) (l : List Value) (e : Env) : Prop := ∃ n L, l = [tok n] ∧ G[n]? = some (.map L) ∧ e.g gv = encG (G.set n (.map []))
theorem clr_holds {t kt et : TypeId} (hu : P.underlying t = some (.map kt et)) : (clrC t).holds P (conR clrR) := by
  refine turn_holds rfl (Nat.le_add_right _ _) (fun G l e _ hR => ?_) ?_
  · obtain ⟨n, L, rfl, h1, hG⟩ := hR
    refine ⟨_, hG, ?_⟩
    unfold extG
    rw [if_neg (by decide), if_pos rfl]
    refine ⟨by simp, fun m o' ho hf => ?_⟩
    rw [List.getElem?_set_ne]
    · exact ho
    · intro e
      subst e
      rw [h1] at ho
      cases ho
      cases hf
  · rintro o hkey a w h F G f l e hargs H ⟨n, L, rfl, hn, hG⟩
    obtain ⟨c, hc, hcal, hty⟩ := key_clear hkey
    obtain ⟨rr, es, clock, h1, h2, h3, h4, h5⟩ := H.ob n _ hn
    have ha := hargs h fun _ _ => rfl
    rw [hc] at ha
    simp only [Op.operands, Call.operands, hcal, Array.empty_append, List.map_cons, List.map_nil] at ha
    have hargsA : c.args.map a.eval = #[.map (some rr)] := by
      rw [← Array.toList_inj]; simpa [concE_name, h1] using ha
    have hget := MapKept.run_getObj_map (P := P) h2
    have hset := MapKept.run_setObj_map (P := P) (.map #[] clock) h2
    have hrun : (Builtin.clear_ c.argTypes o.type #[.map (some rr)]).run P w = .ok (.tuple #[]) { w with heap := w.heap.setIfInBounds rr (.map #[] clock) } := by
      simp only [Builtin.clear_, hty, List.getElem?_toArray, List.getElem?_cons_zero, Sem.run_bind, run_underlying hu, Result.andThen_ok, hget, hset, Sem.run_pure]
    have hO := H.set (fr_setObj h2 #[] clock) (i := n) (o' := .map []) (f' := f n) hn rfl (fun b1 x1 _ hx => (h5 _ _).2 hx) (fun _ _ hx => .inl hx)
      ⟨rr, #[], clock, h1, (MapKept.heap_set h2).1, ⟨⟨List.Perm.refl _, List.nodup_nil⟩, MapKept.stamped_empty _⟩, fun p hp => (by cases hp), h5⟩
    refine ⟨.value (.tuple #[]), _, h, _, _, _, ?_, hG, .inl ⟨.tuple #[], by rw [concE_unit], rfl, Inv.of_const concE_unit⟩, (fr_setObj h2 #[] clock).mono (fun b1 x1 _ hx => (H.foot _ _).2 ⟨n, (List.getElem?_eq_some_iff.1 hn).1, (h5 _ _).2 hx⟩), hO.1, hO.2, by simp, fun _ _ => rfl⟩
    simp only [hc, execOp, resolve, hcal, hargsA, Sem.run_bind, Sem.run_pure, Result.andThen_ok, invoke, builtin, hrun]
end
end Sx
end Go.Proofs.Ytcedgoaanlbldaa
