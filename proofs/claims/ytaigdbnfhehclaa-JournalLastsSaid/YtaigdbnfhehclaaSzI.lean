/- What is proved: the contract of a slice expression on a row of objects; no program in sight; contracts of the slice of an array, of copy, of a map's asking with ok and its clearing, in names of objects; no program in sight; the contract of append of so many noughts, in names of objects; no program in sight; the contract of a slice expression that keeps the first elements, on rows that are only read; no program in sight; the contract of an element's place in an array behind a pointer; no program in sight. No condition but those each law names. -/
import Derived.Test.YtaigdbnfhehclaaSzE
namespace Go.Proofs.Ytaigdbnfhehclaa
namespace Sx
open Go.RowKit

section
variable {P : Program}
def viC (t : TypeId) : Con := ⟨primBase + (32 * (4 * t + 3) + 4), [], fun b => (E.hnd 0).shift b, 2, 0, 1⟩
def viR (s : Nat) (G : List Ob) (l : List Value) (e : Env) : Prop := ∃ (d : Nat) (i j : Int) (len : Nat) (cells : List Value), l = [tok d, .int .i64 i, .int .i64 j] ∧ G[d]? = some (.row s len cells) ∧ 0 ≤ i ∧ i < j ∧ j ≤ (len : Nat) ∧
  e.v 0 = tok G.length ∧ e.g gv = encG (G ++ [.view d s (i.toNat * s) (j.toNat - i.toNat)])
theorem rawBounds_run {i j : Int} {n c : Nat} {w : World} (h0 : 0 ≤ i) (h1 : i ≤ j) (h2 : j ≤ (c : Nat)) :
    (Instr.sliceBounds true n c (some (.int .i64 i)) (some (.int .i64 j)) none).run P w = .ok (i.toNat, j.toNat, c) w := by
  have hj : 0 ≤ j ∧ j ≤ (c : Int) := ⟨by omega, h2⟩
  have hi : 0 ≤ i ∧ i ≤ (j.toNat : Int) := ⟨h0, by omega⟩
  unfold Instr.sliceBounds
  simp only [Sem.run_bind, Sem.run_pure, Result.andThen_ok, Option.isSome_none, Bool.false_eq_true, if_false, if_true, Instr.sliceBound, asIntOf, hj, hi, and_self]
theorem view_holds {t el : TypeId} {s : Nat} (hu : P.underlying t = some (.slice el)) (hs : sizeE P el = some s) : (viC t).holds P (conR (viR s)) := by
  refine turn_holds rfl (Nat.le_add_right _ _) (fun G l e _ ⟨_, _, _, _, _, _, _, _, _, _, _, hG⟩ => ⟨_, hG, ext1 _⟩) ?_
  rintro o hkey a w h F G f l e hargs H ⟨d, i, j, len, cells, rfl, hd, h0, hij, hjl, he, hG⟩
  obtain ⟨x, lo, hi, hop, hlo, hhi⟩ := key_slice (lo := true) (hi := true) hkey
  obtain ⟨l1, rfl⟩ := Option.isSome_iff_exists.1 hlo
  obtain ⟨u1, rfl⟩ := Option.isSome_iff_exists.1 hhi
  obtain ⟨b, o', cap, q1, q2, q4, q5, q6, q7, q8, q9⟩ := H.ob d _ hd
  have hdl := (List.getElem?_eq_some_iff.1 hd).1
  have ha := hargs h fun _ _ => rfl
  rw [hop] at ha
  have ha : [a.eval x, a.eval l1, a.eval u1] = [concE h (tok d), .int .i64 i, .int .i64 j] := ha
  simp only [List.cons.injEq, and_true] at ha
  obtain ⟨a1, a2, a3⟩ := ha
  rw [concE_name, q1] at a1
  have hb := rawBounds_run (P := P) (n := len) (c := cap) (w := w) h0 (by omega : i ≤ j) (by omega)
  have hne : ¬ cap = i.toNat := by omega
  have hrun : (execOp a.eval o).run P w = .ok (.value (.slice (some ⟨b, o' + i.toNat * s, none⟩) (j.toNat - i.toNat) (cap - i.toNat))) w := by
    simp only [hop, execOp, a1, a2, a3, Instr.sliceAt, Instr.slice, Option.map_some, Option.map_none, Sem.run_bind, run_underlying hu, Result.andThen_ok, hb, sizeE_run hs, if_neg hne, addr_add, Sem.run_pure]
  have hat : 0 < (j.toNat - i.toNat) * s → Value.pointer (some ⟨b, o' + i.toNat * s, none⟩) = hatV ((fun k => if k = G.length then slV b (o' + i.toNat * s) (j.toNat - i.toNat) (cap - i.toNat) else h k) d).val (i.toNat * s) := fun _ => by
    have hnd : ¬ d = G.length := by omega
    simp only [if_neg hnd, q1, hatV]
  have hpush := H.push (slV b (o' + i.toNat * s) (j.toNat - i.toNat) (cap - i.toNat)) (o' := .view d s (i.toNat * s) (j.toNat - i.toNat)) (f' := fun _ _ => False) (fun _ _ hf => hf.elim)
    ⟨⟨b, o' + i.toNat * s, none⟩, _, rfl, by omega, by omega, hat, fun _ _ hf => hf⟩
  refine ⟨_, w, _, _, _, _, hrun, hG, .inl ⟨tok G.length, ?_, by simp only [E.nam, he]; exact oneOf_eq rfl, Inv.name (by simp)⟩, Fr.refl _ _, hpush, fun _ _ hx => .inl (hx.resolve_right id), by simp, fun n hn => if_neg (by omega)⟩
  rw [concE_name, if_pos rfl]
  rfl
end
end Sx
end Go.Proofs.Ytaigdbnfhehclaa

namespace Go.Proofs.Ytaigdbnfhehclaa
namespace Sx
open Go.RowKit

section
variable {P : Program}
/-- Cells of an object are written over. -/
theorem Objs.over {w : World} {h : Nat → OneV} {F : Foot} {G : List Ob} {f : Nat → Foot} (H : Objs w h F G f) {n k : Nat} {ob : Ob} {cells us : List Value} (hn : G[n]? = some ob) (hop : ob.open_ = true) (hcl : ob.cells? = some cells)
    (hone : ∀ c ∈ us, c.oneCell' = true) (hinv : ∀ c ∈ us, Inv h G.length c) (hle : k + us.length ≤ cells.length) :
    ∃ b o', (∀ i, hatV (h n).val i = .pointer (some ⟨b, o' + i, none⟩)) ∧ (∀ j, j < cells.length → (w.cell? ⟨b, o' + j, none⟩).isSome = true ∧ w.frozen? ⟨b, o' + j, none⟩ = false) ∧
      ∃ F' f', Fr F w (w.setCells b (o' + k) (us.map (concE h))) ∧ Objs (w.setCells b (o' + k) (us.map (concE h))) h F' (G.set n (ob.with_ (overV cells k us))) f' ∧ ∀ i x, F' i x → F i x ∨ w.heap.size ≤ i := by
  have hc : cellsAt G n = some cells := by unfold cellsAt; rw [hn]; exact hcl
  obtain ⟨b, o', q1, q2⟩ := cellsAt_spec hc H
  have hlm : (us.map (concE h)).length = us.length := List.length_map _
  -- the cells may be written, and are the object's
  have hob := H.ob n _ hn
  have hwr : ∀ j, j < cells.length → (w.cell? ⟨b, o' + j, none⟩).isSome = true ∧ w.frozen? ⟨b, o' + j, none⟩ = false ∧ f n b (o' + j) := by
    intro j hj
    cases ob with
    | row s' len cs =>
      cases hcl
      obtain ⟨b', o2, cap, h1, h2, h4, h5, h6, h7, h8, h9⟩ := hob
      have e := q1 0
      rw [h1] at e
      simp only [hatV, Value.pointer.injEq, Option.some.injEq, Addr.mk.injEq, Nat.add_zero, and_true] at e
      obtain ⟨rfl, rfl⟩ := e
      have hle' : len * s' ≤ cap * s' := Nat.mul_le_mul_right _ h2
      have := h6 j (by omega)
      exact ⟨by obtain ⟨⟨u, hu, _⟩, _⟩ := this; rw [hu]; rfl, this.2, (h8 _ _).2 ⟨rfl, by omega⟩⟩
    | ptr cs =>
      cases hcl
      obtain ⟨b', o2, h1, h2, h3, h4⟩ := hob
      have e := q1 0
      rw [h1] at e
      simp only [hatV, Value.pointer.injEq, Option.some.injEq, Addr.mk.injEq, Nat.add_zero, and_true] at e
      obtain ⟨rfl, rfl⟩ := e
      have := h3 j _ (List.getElem?_eq_getElem hj)
      exact ⟨by rw [this.1.cell]; rfl, this.2, (h4 _ _).2 ⟨rfl, by omega, by omega⟩⟩
    | _ => cases hop
  have hcell : ∀ j, j < cells.length → (w.setCells b (o' + k) (us.map (concE h))).cell? ⟨b, o' + j, none⟩ = ((overV cells k us)[j]?).map (concE h) := by
    intro j hj
    rw [overV_get _ _ _ hle]
    by_cases hin : k ≤ j ∧ j < k + us.length
    · rw [if_pos hin]
      have := World.cell?_setCells_in b (us.map (concE h)) (o' + k) w (fun i hi => by
        have := (hwr (k + i) (by omega)).1
        rwa [← Nat.add_assoc] at this) (j - k) (by omega)
      rw [show o' + k + (j - k) = o' + j by omega] at this
      rw [this, List.getElem_map, List.getElem?_eq_getElem (by omega)]
      rfl
    · rw [if_neg hin, World.cell?_setCells_out _ _ _ _ _ (fun _ _ => by show o' + j < o' + k ∨ o' + k + _ ≤ o' + j; omega), (q2 j _ (List.getElem?_eq_getElem hj)).cell, List.getElem?_eq_getElem hj]
      rfl
  have hfz : ∀ j, (w.setCells b (o' + k) (us.map (concE h))).frozen? ⟨b, o' + j, none⟩ = w.frozen? ⟨b, o' + j, none⟩ := fun j => World.frozen?_setCells b _ _ w _
  have hovl := overV_length cells us k hle
  have hnew : ∀ (j : Nat) c, (overV cells k us)[j]? = some c → CellN (w.setCells b (o' + k) (us.map (concE h))) h G.length b (o' + j) c := by
    intro j c hj
    have hjl : j < cells.length := by have := (List.getElem?_eq_some_iff.1 hj).1; omega
    have h1 := hcell j hjl
    rw [hj] at h1
    rw [overV_get _ _ _ hle] at hj
    split at hj
    · have hm := List.mem_of_getElem? hj
      exact ⟨h1, hone c hm, hinv c hm⟩
    · exact ⟨h1, (q2 j c hj).one, (q2 j c hj).inv⟩
  have hsh : ob.shared = false := by cases ob <;> first | rfl | cases hop
  have hset := H.set (Fr.setCells w b (o' + k) (us.map (concE h))) (i := n) (o' := ob.with_ (overV cells k us)) (f' := f n) hn hsh (fun b1 x1 _ hx => by
    obtain ⟨rfl, hx1, hx2⟩ := hx
    have := (hwr (x1 - o') (by omega)).2.2
    rwa [show o' + (x1 - o') = x1 by omega] at this) (fun _ _ hx => .inl hx) (by
    cases ob with
    | row s' len cs =>
      cases hcl
      obtain ⟨b', o2, cap, h1, h2, h4, h5, h6, h7, h8, h9⟩ := hob
      have e := q1 0
      rw [h1] at e
      simp only [hatV, Value.pointer.injEq, Option.some.injEq, Addr.mk.injEq, Nat.add_zero, and_true] at e
      obtain ⟨rfl, rfl⟩ := e
      refine ⟨b', o2, cap, h1, h2, h4, by rw [hovl]; exact h5, fun j hj => ?_, hnew, h8, h9.keep (Fr.setCells w b' (o2 + k) (us.map (concE h)))⟩
      rw [hfz]
      refine ⟨?_, (h6 j hj).2⟩
      by_cases hjl : j < cells.length
      · obtain ⟨c, hcj⟩ : ∃ c, (overV cells k us)[j]? = some c := ⟨_, List.getElem?_eq_getElem (by omega)⟩
        exact ⟨_, (hnew j c hcj).cell, concE_one (hnew j c hcj).one⟩
      · rw [World.cell?_setCells_out _ _ _ _ _ (fun _ _ => by show o2 + j < o2 + k ∨ o2 + k + _ ≤ o2 + j; omega)]
        exact (h6 j hj).1
    | ptr cs =>
      cases hcl
      obtain ⟨b', o2, h1, h2, h3, h4⟩ := hob
      have e := q1 0
      rw [h1] at e
      simp only [hatV, Value.pointer.injEq, Option.some.injEq, Addr.mk.injEq, Nat.add_zero, and_true] at e
      obtain ⟨rfl, rfl⟩ := e
      refine ⟨b', o2, h1, by rw [hovl]; exact h2, fun j c hj => ⟨hnew j c hj, ?_⟩, by rw [hovl]; exact h4⟩
      rw [hfz]
      have hjl : j < cells.length := by have := (List.getElem?_eq_some_iff.1 hj).1; omega
      exact (h3 j _ (List.getElem?_eq_getElem hjl)).2
    | _ => cases hop)
  refine ⟨b, o', q1, fun j hj => ⟨(hwr j hj).1, (hwr j hj).2.1⟩, _, _, (Fr.setCells w b (o' + k) _).mono (fun b1 x1 _ hx => ?_), hset.1, hset.2⟩
  obtain ⟨rfl, hx1, hx2⟩ := hx
  have := (hwr (x1 - o') (by omega)).2.2
  rw [show o' + (x1 - o') = x1 by omega] at this
  exact (H.foot _ _).2 ⟨n, (List.getElem?_eq_some_iff.1 hn).1, this⟩
/-- The slice of a whole array. -/
def aviC (t : TypeId) : Con := ⟨primBase + (32 * (4 * t) + 4), [], fun b => (E.hnd 0).shift b, 2, 0, 1⟩
def aviR (n : Nat) (G : List Ob) (l : List Value) (e : Env) : Prop := ∃ (d : Nat) (cells : List Value), l = [tokAt d 0] ∧ G[d]? = some (.ptr cells) ∧ cells.length = n ∧ e.v 0 = tok G.length ∧ e.g gv = encG (G ++ [.view d 1 0 n])
theorem avi_holds {t el : TypeId} {n : Nat} (hu : P.underlying t = some (.array n el)) (hs : sizeE P el = some 1) : (aviC t).holds P (conR (aviR n)) := by
  refine turn_holds rfl (Nat.le_add_right _ _) (fun G l e _ ⟨_, _, _, _, _, _, hG⟩ => ⟨_, hG, ext1 _⟩) ?_
  rintro o hkey a w h F G f l e hargs H ⟨d, cells, rfl, hd, hcl, he, hG⟩
  obtain ⟨x, lo, hi, hop, hlo, hhi⟩ := key_slice (lo := false) (hi := false) hkey
  obtain rfl : lo = none := by cases lo with | none => rfl | some _ => cases hlo
  obtain rfl : hi = none := by cases hi with | none => rfl | some _ => cases hhi
  obtain ⟨b, o', q1, q2, q3, q4⟩ := H.ob d _ hd
  have hdl := (List.getElem?_eq_some_iff.1 hd).1
  have ha := hargs h fun _ _ => rfl
  rw [hop] at ha
  have ha : [a.eval x] = [concE h (tokAt d 0)] := ha
  simp only [List.cons.injEq, and_true] at ha
  have hc0 : concE h (tokAt d 0) = .pointer (some ⟨b, o', none⟩) := by rw [concE_at, q1]; rfl
  rw [hc0] at ha
  have hb : (Instr.sliceBounds false n n none none none).run P w = .ok (0, n, n) w := by
    unfold Instr.sliceBounds
    simp only [Sem.run_bind, Sem.run_pure, Result.andThen_ok]
  have hne : ¬ n = 0 := by omega
  have hrun : (execOp a.eval o).run P w = .ok (.value (.slice (some ⟨b, o', none⟩) n n)) w := by
    simp only [hop, execOp, ha, Instr.sliceAt, Instr.sureAddr, Option.map_none, Sem.run_bind, run_underlying hu, Result.andThen_ok, hb, sizeE_run hs, if_neg hne, Sem.run_pure, Nat.zero_mul, Nat.sub_zero]
    rfl
  have hat : 0 < n * 1 → Value.pointer (some ⟨b, o', none⟩) = hatV ((fun k => if k = G.length then slV b o' n n else h k) d).val 0 := fun _ => by
    have hnd : ¬ d = G.length := by omega
    simp only [if_neg hnd, q1, hatV, Nat.add_zero]
  have hpush := H.push (slV b o' n n) (o' := .view d 1 0 n) (f' := fun _ _ => False) (fun _ _ hf => hf.elim)
    ⟨⟨b, o', none⟩, _, rfl, Nat.le_refl _, by omega, hat, fun _ _ hf => hf⟩
  refine ⟨_, w, _, _, _, _, hrun, hG, .inl ⟨tok G.length, ?_, by simp only [E.nam, he]; exact oneOf_eq rfl, Inv.name (by simp)⟩, Fr.refl _ _, hpush, fun _ _ hx => .inl (hx.resolve_right id), by simp, fun n hn => if_neg (by omega)⟩
  rw [concE_name, if_pos rfl]
  rfl
theorem key_copy {op : Op} {t : TypeId} (h : primKey op = some (primBase + (32 * t + 19))) : ∃ c, op = .call c ∧ c.callee = .builtin .copy ∧ c.argTypes = #[t, t] := by
  unfold primKey at h
  repeat' split at h
  all_goals (try (exact absurd h.symm (Option.some_ne_none _)))
  all_goals (rw [Option.some.injEq] at h)
  all_goals (try (exfalso; omega))
  rename_i t' h1 h2 h3
  have : @Eq Nat t' t := by omega
  subst this
  exact ⟨_, rfl, h1, h3⟩
theorem key_clear {op : Op} {t : TypeId} (h : primKey op = some (primBase + (32 * t + 21))) : ∃ c, op = .call c ∧ c.callee = .builtin .clear ∧ c.argTypes[0]? = some t := by
  unfold primKey at h
  repeat' split at h
  all_goals (try (exact absurd h.symm (Option.some_ne_none _)))
  all_goals (rw [Option.some.injEq] at h)
  all_goals (try (exfalso; omega))
  rename_i t' h1 h2
  have : @Eq Nat t' t := by omega
  subst this
  exact ⟨_, rfl, h1, h2⟩
/-- copy into a part of a struct's array. -/
def copyB (t : TypeId) : Con := ⟨primBase + (32 * t + 19), [], fun b => (E.int .i64 (.var 0)).shift b, 2, 0, 2⟩
def copyBR (G : List Ob) (l : List Value) (e : Env) : Prop := ∃ (v d k n : Nat) (sv : Value) (m : Nat) (ys cells : List Value), l = [tok v, sv] ∧ G[v]? = some (.view d 1 k n) ∧ G[d]? = some (.ptr cells) ∧ k + n ≤ cells.length ∧ 0 < n ∧ Sl G sv 1 m ys ∧
  e.i 0 = (min m n : Nat) ∧ e.g gv = encG (G.set d (.ptr (overV cells k (ys.take (min m n)))))
theorem copyB_holds {t el : TypeId} (hu : P.underlying t = some (.slice el)) (hs : sizeE P el = some 1) : (copyB t).holds P (conR copyBR) := by
  refine turn_holds rfl (Nat.le_add_right _ _) (fun G l e _ hR => ?_) ?_
  · obtain ⟨v, d, k, n, sv, m, ys, cells, rfl, _, h2, _, _, _, _, hG⟩ := hR
    refine ⟨_, hG, ?_⟩
    unfold extG
    rw [if_neg (by decide), if_pos rfl]
    refine ⟨by simp, fun m o' ho hf => ?_⟩
    rw [List.getElem?_set_ne]
    · exact ho
    · intro e
      subst e
      rw [h2] at ho
      cases ho
      cases hf
  · rintro o hkey a w h F G f l e hargs H ⟨v, d, k, n, sv, m, ys, cells, rfl, hv, hd, hkn, hn0, hsl, he, hG⟩
    obtain ⟨c, hc, hcal, hty⟩ := key_copy hkey
    have ha := hargs h fun _ _ => rfl
    rw [hc] at ha
    simp only [Op.operands, Call.operands, hcal, Array.empty_append, List.map_cons, List.map_nil] at ha
    have hargsA : c.args.map a.eval = #[concE h (tok v), concE h sv] := by
      rw [← Array.toList_inj]; simpa using ha
    obtain ⟨sa, scap, hsv, hsle, hscells, hsinv⟩ := hsl.at_ H
    have hyl := hsl.length
    rw [Nat.mul_one] at hyl
    obtain ⟨va, vcap, g1, g2, g3, g4, g5⟩ := H.ob v _ hv
    have hus : ∀ c ∈ ys.take (min m n), c.oneCell' = true ∧ Inv h G.length c := fun c hc => by
      have hc := List.mem_of_mem_take hc
      obtain ⟨j, hj⟩ := List.getElem?_of_mem hc
      have hyp : 0 < ys.length := by have := (List.getElem?_eq_some_iff.1 hj).1; omega
      obtain ⟨b2, o2, _, hcc⟩ := hscells hyp
      exact ⟨(hcc j c hj).one, (hcc j c hj).inv⟩
    have htl : (ys.take (min m n)).length = min m n := by rw [List.length_take]; omega
    obtain ⟨b, o', q1, q2, F', f', q3, q4, q5⟩ := H.over (k := k) (us := ys.take (min m n)) hd rfl rfl (fun c hc => (hus c hc).1) (fun c hc => (hus c hc).2) (by rw [htl]; omega)
    have hva : va = ⟨b, o' + k, none⟩ := by
      have := g4 (by omega)
      rw [q1] at this
      simpa using this
    have hfirst : (Builtin.firstCells 1 (min m n) (concE h sv)).run P w = .ok ((ys.take (min m n)).map (concE h)).toArray w := by
      rw [hsv]
      by_cases h0 : 0 < ys.length
      · obtain ⟨b2, o2, rfl, hcc⟩ := hscells h0
        refine run_firstCells_some w 1 _ _ _ _ _ (by rw [List.length_map, htl, Nat.mul_one]) fun j u hj => ?_
        rw [List.getElem?_map, List.getElem?_take] at hj
        by_cases hjm : j < min m n
        · rw [if_pos hjm] at hj
          cases hq : ys[j]? with
          | none => simp [hq] at hj
          | some cy =>
            simp only [hq, Option.map_some, Option.some.injEq] at hj
            subst hj
            rw [addr_add]
            exact (hcc j cy hq).cell
        · rw [if_neg hjm] at hj
          cases hj
      · have hy0 : ys = [] := List.length_eq_zero_iff.1 (by omega)
        subst hy0
        have hm0 : min m n = 0 := by simp at hyl; omega
        rw [hm0]
        cases sa with
        | none => exact run_firstCells_none w 1 0 m scap
        | some p => exact run_firstCells_some w 1 0 p m scap [] (by simp) fun j u hj => by simp at hj
    have hst := run_storeCells_cells (P := P) b (o' + k) ((ys.take (min m n)).map (concE h)) 0 w (fun j hj => by
        rw [List.length_map, htl] at hj
        have := (q2 (k + j) (by omega)).1
        rw [← Nat.add_assoc] at this
        simpa using this) (fun j hj => by
        rw [List.length_map, htl] at hj
        have := (q2 (k + j) (by omega)).2
        rw [← Nat.add_assoc] at this
        simpa using this) (fun u hu' => by
        obtain ⟨c, hc, rfl⟩ := List.mem_map.1 hu'
        exact concE_one (hus c hc).1)
    simp only [Nat.add_zero] at hst
    have hlen : (Builtin.lenOf (concE h sv)).run P w = .ok m w := by rw [hsv]; rfl
    have hrun : (Builtin.copy_ #[t, t] o.type #[concE h (tok v), concE h sv]).run P w = .ok (.int .i64 (min m n : Nat)) (w.setCells b (o' + k) ((ys.take (min m n)).map (concE h))) := by
      rw [concE_name, g1]
      simp only [Builtin.copy_, List.getElem?_toArray, List.getElem?_cons_zero, List.getElem?_cons_succ, Sem.run_bind, run_underlying hu, Result.andThen_ok, hlen, sizeE_run hs, show Nat.min m n = min m n from rfl, hfirst, hva, hst, Sem.run_pure]
      rfl
    refine ⟨.value (.int .i64 (min m n : Nat)), _, h, F', f', _, ?_, hG, .inl ⟨.int .i64 (min m n : Nat), rfl, by simp only [E.nam, T.den, he], Inv.of_const fun _ => rfl⟩, q3, q4, q5, by simp, fun _ _ => rfl⟩
    simp only [hc, execOp, resolve, hcal, hargsA, Sem.run_bind, Sem.run_pure, Result.andThen_ok, invoke, builtin, hty, hrun]
/-- What a key leads to, and whether it leads to something. -/
def lukC (t : TypeId) (r : E) : Con := ⟨primBase + (32 * (2 * t + (if true then 1 else 0)) + 6), [], fun b => r.shift b, 1, 1, 0⟩
def lukR (ok : Value → Prop) (z : Value) (r : E) (G : List Ob) (l : List Value) (e : Env) : Prop := ∃ n L k, l = [tok n, k] ∧ G[n]? = some (.map L) ∧ ok k ∧ (∀ p ∈ L, ok p.1) ∧ (∀ cs, (getL L k).getD z ≠ .tuple cs) ∧ r.nam e lay0 = .tuple #[(getL L k).getD z, .bool (getL L k).isSome]
theorem concE_flat {h : Nat → OneV} {v : Value} (hv : ∀ cs, v ≠ .tuple cs) : concE h v = concA h v := by
  cases v with
  | tuple cs => exact absurd rfl (hv cs)
  | _ => rfl
theorem concE_pair {h : Nat → OneV} {v : Value} {b : Bool} (hv : ∀ cs, v ≠ .tuple cs) : concE h (.tuple #[v, .bool b]) = .tuple #[concE h v, .bool b] := by
  rw [concE_flat hv]
  show Value.tuple (#[v, .bool b].map (concA h)) = _
  rw [List.map_toArray]
  rfl
theorem concE_unit (h : Nat → OneV) : concE h (.tuple #[]) = .tuple #[] := by
  show Value.tuple (#[].map (concA h)) = _
  rw [List.map_toArray]
  rfl
theorem Inv.tup {h : Nat → OneV} {n : Nat} {v : Value} {b : Bool} (hv : Inv h n v) (hf : ∀ cs, v ≠ .tuple cs) : Inv h n (.tuple #[v, .bool b]) := fun h' hh => by
  rw [concE_pair hf, concE_pair hf, hv h' hh]
theorem luk_holds {t kt et : TypeId} {i : TypeInfo} {z : Value} {ok : Value → Prop} {r : E} (hu : P.underlying t = some (.map kt et)) (hk : KeyT P kt ok) (hi : P.info? et = some i) (hz : i.zero = some z) (hzc : ∀ h, concE h z = z) (hr : (r.noPtr && r.lt stride) = true) :
    (lukC t r).holds P (conR (lukR ok z r)) := by
  refine read_holds hr (Nat.le_add_right _ _) (fun G G' l e _ hx hd => ?_) ?_
  · obtain ⟨X, rfl, h1, h2⟩ := loc1 hx hd
    constructor
    · rintro ⟨n, L, k, rfl, g1, g2⟩
      exact ⟨n, L, k, rfl, (map_loc (h1 n (List.mem_cons_self ..))).1 g1, g2⟩
    · rintro ⟨n, L, k, rfl, g1, g2⟩
      exact ⟨n, L, k, rfl, (map_loc (h1 n (List.mem_cons_self ..))).2 g1, g2⟩
  · rintro o hkey a w h F G f l e hargs H ⟨n, L, k, rfl, hn, hok, hL, hft, hv⟩
    obtain ⟨x, y, hop⟩ := key_lookup hkey
    obtain ⟨rr, es, clock, h1, h2, h3, h4, h5⟩ := H.ob n _ hn
    have ha := hargs h fun _ _ => rfl
    rw [hop] at ha
    simp only [Op.operands, List.map_cons, List.map_nil, concE_name, h1, hk.conc k h hok, List.cons.injEq, and_true] at ha
    have hfind := mapIs_find h3.1 k
    have hf := hk.find k es.toList w hok (keys_ok h3.1 hL)
    have hzr : ∀ w, (zeroValue et).run P w = .ok z w := fun w => by simp [zeroValue, typeInfo, hi, hz]
    refine ⟨.tuple #[(getL L k).getD z, .bool (getL L k).isSome], ?_, Inv.tup ?_ hft, hv⟩
    · have hget := MapKept.run_getObj_map (P := P) h2
      rw [concE_pair hft]
      simp only [hop, execOp, ha.1, ha.2, Instr.lookup, Sem.run_bind, run_underlying hu, Result.andThen_ok, hget, Sem.run_pure, hk.chk es.isEmpty k w hok, hf]
      cases hq : findIx k es.toList 0 with
      | none =>
        rw [hq] at hfind
        have : getL L k = none := by cases hg : getL L k with | none => rfl | some u => rw [hg] at hfind; cases hfind
        rw [this]
        simp only [Sem.run_bind, hzr, Result.andThen_ok, Sem.run_pure, Option.getD_none, hzc]
        rfl
      | some p =>
        obtain ⟨j, u⟩ := p
        rw [hq] at hfind
        cases hg : getL L k with
        | none => rw [hg] at hfind; cases hfind
        | some u' =>
          rw [hg] at hfind
          simp only [Option.map_some, Option.some.injEq] at hfind
          simp only [Option.getD_some, hfind]
          rfl
    · cases hg : getL L k with
      | none => exact Inv.of_const hzc
      | some u =>
        obtain ⟨p, hp, rfl⟩ := getL_mem hg
        exact h4 p hp
/-- A map is emptied. -/
def clrC (t : TypeId) : Con := ⟨primBase + (32 * t + 21), [], fun b => (E.tup []).shift b, 2, 0, 2⟩
def clrR (G : List Ob) (l : List Value) (e : Env) : Prop := ∃ n L, l = [tok n] ∧ G[n]? = some (.map L) ∧ e.g gv = encG (G.set n (.map []))
theorem clr_holds {t kt et : TypeId} (hu : P.underlying t = some (.map kt et)) : (clrC t).holds P (conR clrR) := by
  refine turn_holds rfl (Nat.le_add_right _ _) (fun G l e _ hR => ?_) ?_
  · obtain ⟨n, L, rfl, h1, hG⟩ := hR
    refine ⟨_, hG, ?_⟩
    unfold extG
    rw [if_neg (by decide), if_pos rfl]
    refine ⟨by simp, fun m o' ho hf => ?_⟩
    rw [List.getElem?_set_ne]
    · exact ho
    · intro e
      subst e
      rw [h1] at ho
      cases ho
      cases hf
  · rintro o hkey a w h F G f l e hargs H ⟨n, L, rfl, hn, hG⟩
    obtain ⟨c, hc, hcal, hty⟩ := key_clear hkey
    obtain ⟨rr, es, clock, h1, h2, h3, h4, h5⟩ := H.ob n _ hn
    have ha := hargs h fun _ _ => rfl
    rw [hc] at ha
    simp only [Op.operands, Call.operands, hcal, Array.empty_append, List.map_cons, List.map_nil] at ha
    have hargsA : c.args.map a.eval = #[.map (some rr)] := by
      rw [← Array.toList_inj]; simpa [concE_name, h1] using ha
    have hget := MapKept.run_getObj_map (P := P) h2
    have hset := MapKept.run_setObj_map (P := P) (.map #[] clock) h2
    have hrun : (Builtin.clear_ c.argTypes o.type #[.map (some rr)]).run P w = .ok (.tuple #[]) { w with heap := w.heap.setIfInBounds rr (.map #[] clock) } := by
      simp only [Builtin.clear_, hty, List.getElem?_toArray, List.getElem?_cons_zero, Sem.run_bind, run_underlying hu, Result.andThen_ok, hget, hset, Sem.run_pure]
    have hO := H.set (fr_setObj h2 #[] clock) (i := n) (o' := .map []) (f' := f n) hn rfl (fun b1 x1 _ hx => (h5 _ _).2 hx) (fun _ _ hx => .inl hx)
      ⟨rr, #[], clock, h1, (MapKept.heap_set h2).1, ⟨⟨List.Perm.refl _, List.nodup_nil⟩, MapKept.stamped_empty _⟩, fun p hp => (by cases hp), h5⟩
    refine ⟨.value (.tuple #[]), _, h, _, _, _, ?_, hG, .inl ⟨.tuple #[], by rw [concE_unit], rfl, Inv.of_const concE_unit⟩, (fr_setObj h2 #[] clock).mono (fun b1 x1 _ hx => (H.foot _ _).2 ⟨n, (List.getElem?_eq_some_iff.1 hn).1, (h5 _ _).2 hx⟩), hO.1, hO.2, by simp, fun _ _ => rfl⟩
    simp only [hc, execOp, resolve, hcal, hargsA, Sem.run_bind, Sem.run_pure, Result.andThen_ok, invoke, builtin, hrun]
end
end Sx
end Go.Proofs.Ytaigdbnfhehclaa

namespace Go.Proofs.Ytaigdbnfhehclaa
namespace Sx
open Go.RowKit

section
variable {P : Program}
theorem key_appz {op : Op} {t t2 : TypeId} (ht : @LT.lt Nat _ t2 10000) (h : primKey op = some (primBase + (32 * (t * 10000 + t2) + 22))) : ∃ c, op = .call c ∧ c.callee = .builtin .append ∧ c.argTypes = #[t, t2] := by
  unfold primKey at h
  repeat' split at h
  all_goals (try (exact absurd h.symm (Option.some_ne_none _)))
  all_goals (rw [Option.some.injEq] at h)
  all_goals (try (exfalso; omega))
  rename_i t' h1 h2 h3 _ t2' h4 h5
  have hlt : @LT.lt Nat _ t2' 10000 := h5.2
  have e1 : @Eq Nat t' t := by omega
  have e2 : @Eq Nat t2' t2 := by omega
  subst e1 e2
  exact ⟨_, rfl, h1, h5.1⟩
theorem zeroCells_one (zc : Value) (n : Nat) : (Builtin.zeroCells #[zc] n).toList = List.replicate n zc := by
  unfold Builtin.zeroCells
  simp only [List.size_toArray, List.length_cons, List.length_nil, Nat.zero_add, Nat.mul_one, Nat.mod_one, Array.toList_map, Array.toList_range]
  apply List.ext_getElem
  · simp
  · intro j h1 h2
    simp
section
variable {t tx ty el : TypeId} {i : TypeInfo} {z zc : Value} {k : IntKind} {w : World} {n : Nat}
theorem zeros_room (ht : P.underlying t = some (.slice el)) (hk : P.underlying tx = some (.int k)) (hi : P.info? el = some i) (hz : i.zero = some z) (hs : i.size = 1) (hzc : z.cells = #[zc]) (h1 : zc.oneCell' = true) {b off sLen sCap : Nat}
    (hn : n ≤ 9223372036854775807) (hby : n * i.bytes ≤ 281474976710656) (hroom : sLen + n ≤ sCap) (hc : ∀ j, j < n → (w.cell? ⟨b, off + sLen + j, none⟩).isSome = true) (hf : ∀ j, j < n → w.frozen? ⟨b, off + sLen + j, none⟩ = false) :
    (Builtin.append_ #[t, tx] ty #[.slice (some ⟨b, off, none⟩) sLen sCap, .int .i64 n]).run P w = .ok (.slice (some ⟨b, off, none⟩) (sLen + n) sCap) (w.setCells b (off + sLen) (List.replicate n zc)) := by
  have hw : IntKind.i64.wrap (n : Int) = n := by rw [IntKind.wrap_i64]; omega
  have hneg : ¬ ((n : Int) < 0) := by omega
  have h48 : ¬ (281474976710656 < (n : Int) * (i.bytes : Int)) := by rw [← Int.natCast_mul]; omega
  have hst := run_storeCells_cells (P := P) b (off + sLen) (List.replicate n zc) 0 w (by simpa using hc) (by simpa using hf) (fun u hu => by rw [List.eq_of_mem_replicate hu]; exact h1)
  simp only [Nat.add_zero] at hst
  by_cases h0 : n = 0
  · subst h0
    have hw0 : IntKind.i64.wrap 0 = 0 := by decide
    simp only [List.replicate_zero] at hst ⊢
    simp [Builtin.append_, run_underlying ht, run_underlying hk, sizeOf, typeInfo, hi, asInt, asIntOf, hw0, show sLen ≤ sCap by omega, Addr.add_lit, hs, hst]
  · simp [Builtin.append_, run_underlying ht, run_underlying hk, sizeOf, typeInfo, zeroValue, hi, hz, asInt, asIntOf, hw, hneg, h48, hroom, Addr.add_lit, hs, hzc, zeroCells_one, hst, h0]
theorem zeros_none (ht : P.underlying t = some (.slice el)) (hk : P.underlying tx = some (.int k)) (hi : P.info? el = some i) {ba : Option Addr} {sLen sCap : Nat} (h : sLen ≤ sCap) :
    (Builtin.append_ #[t, tx] ty #[.slice ba sLen sCap, .int .i64 (0 : Nat)]).run P w = .ok (.slice ba sLen sCap) w := by
  have hw0 : IntKind.i64.wrap 0 = 0 := by decide
  have hst : ∀ a : Addr, (storeCells a []).run P w = .ok () w := fun a => rfl
  cases ba <;> simp [Builtin.append_, run_underlying ht, run_underlying hk, sizeOf, typeInfo, hi, asInt, asIntOf, hw0, h, hst]
theorem zeros_grow (ht : P.underlying t = some (.slice el)) (hk : P.underlying tx = some (.int k)) (hi : P.info? el = some i) (hz : i.zero = some z) (hs : i.size = 1) (hzc : z.cells = #[zc]) {ba : Option Addr} {sLen sCap : Nat} {olds : List Value}
    (hold : (Builtin.firstCells i.size sLen (.slice ba sLen sCap)).run P w.drew = .ok olds.toArray w.drew) (hn : n ≤ 9223372036854775807) (hby : n * i.bytes ≤ 281474976710656)
    (hg : sCap < sLen + n) (h63 : ((sLen + n : Nat) : Int) ≤ 9223372036854775807) (hfit : Builtin.nextslicecap (sLen + n) sCap * i.bytes ≤ 281474976710656) (h0 : n ≠ 0) :
    (Builtin.append_ #[t, tx] ty #[.slice ba sLen sCap, .int .i64 n]).run P w =
      .ok (.slice (some ⟨w.heap.size, 0, none⟩) (sLen + n) (grownCap w (sLen + n) sCap el))
        (w.drew.alloc (.cells ((olds ++ List.replicate n zc).toArray ++ Builtin.zeroCells z.cells (grownCap w (sLen + n) sCap el - (sLen + n))) el)) := by
  have hw : IntKind.i64.wrap (n : Int) = n := by rw [IntKind.wrap_i64]; omega
  have hneg : ¬ ((n : Int) < 0) := by omega
  have h48 : ¬ (281474976710656 < (n : Int) * (i.bytes : Int)) := by rw [← Int.natCast_mul]; omega
  have hn' : ¬ (sLen + n ≤ sCap) := by omega
  have h63' : ¬ (9223372036854775807 < ((sLen : Int) + (n : Int))) := by omega
  have h48' : ¬ (281474976710656 < Builtin.nextslicecap (sLen + n) sCap * i.bytes) := by omega
  have hzz : Builtin.zeroCells #[zc] n = (List.replicate n zc).toArray := by rw [← Array.toList_inj, zeroCells_one]
  rw [hs] at hold
  simp [Builtin.append_, run_underlying ht, run_underlying hk, sizeOf, typeInfo, zeroValue, hi, hz, asInt, asIntOf, hw, hneg, h48, hn', h63', h48', Question.forced, hs, hold, h0, hzc, newRow, grownCap, hzz]
  congr 2
  apply Array.ext'
  simp
end
def appzC (t t2 : TypeId) : Con := ⟨primBase + (32 * (t * 10000 + t2) + 22), [], fun b => (E.hnd 0).shift b, 2, 0, 2⟩
def appzR (zc : Value) (by_ : Nat) (G : List Ob) (l : List Value) (e : Env) : Prop := ∃ dv len n xs, l = [dv, .int .i64 (n : Nat)] ∧ len + n ≤ 9223372036854775807 ∧ (len + n) * by_ ≤ 140737488355328 ∧
  ((n = 0 ∧ Sl G dv 1 len xs ∧ e.v 0 = dv ∧ e.g gv = encG G) ∨ (0 < n ∧ Dst G dv 1 len xs ∧ e.v 0 = tok G.length ∧ ∃ fz, e.g gv = encG (killV G dv ++ [mkRow fz 1 (len + n) (xs ++ List.replicate n zc)])))
theorem appz_holds {t t2 el : TypeId} {i : TypeInfo} {z zc : Value} {k : IntKind} (hu : P.underlying t = some (.slice el)) (hk : P.underlying t2 = some (.int k)) (ht2 : @LT.lt Nat _ t2 10000) (hi : P.info? el = some i) (hs : i.size = 1) (hz : i.zero = some z) (hzc : z.cells = #[zc])
    (h1 : zc.oneCell' = true) (hcc : ∀ h, concE h zc = zc) : (appzC t t2).holds P (conR (appzR zc i.bytes)) := by
  refine turn_holds rfl (Nat.le_add_right _ _) (fun G l e _ hR => ?_) ?_
  · obtain ⟨dv, len, n, xs, rfl, _, _, h⟩ := hR
    rcases h with ⟨_, _, _, h⟩ | ⟨_, hd, _, fz, h⟩
    · exact ⟨G, h, by unfold extG; rw [if_neg (by decide), if_pos rfl]; exact ⟨Nat.le_refl _, fun _ _ h _ => h⟩⟩
    · refine ⟨_, h, ?_⟩
      unfold extG
      rw [if_neg (by decide), if_pos rfl]
      refine ⟨by rw [List.length_append, killV_length]; omega, fun m o ho hf => ?_⟩
      have hml := (List.getElem?_eq_some_iff.1 ho).1
      rw [List.getElem?_append_left (by rw [killV_length]; exact hml)]
      rcases hd with ⟨rfl, _, _⟩ | ⟨d, rfl, hd⟩
      · exact ho
      · rw [killV_tok, List.getElem?_set_ne]
        · exact ho
        · rintro rfl
          rw [hd] at ho
          cases ho
          cases hf
  · rintro o hkey a w h F G f l e hargs H ⟨dv, len, n, xs, rfl, h63, hby, hres⟩
    obtain ⟨c, hc, hcal, hty⟩ := key_appz ht2 hkey
    have ha := hargs h fun _ _ => rfl
    have hinv := inv_args hargs
    rw [hc] at ha
    simp only [Op.operands, Call.operands, hcal, Array.empty_append, List.map_cons, List.map_nil] at ha
    have hargsA : c.args.map a.eval = #[concE h dv, .int .i64 (n : Nat)] := by
      have ha : List.map a.eval c.args.toList = [concE h dv, .int .i64 (n : Nat)] := ha
      rw [← Array.toList_inj]; simpa using ha
    have hexec : ∀ r w', (Builtin.append_ #[t, t2] o.type #[concE h dv, .int .i64 (n : Nat)]).run P w = .ok r w' → (execOp a.eval o).run P w = .ok (.value r) w' := fun r w' hr => by
      simp only [hc, execOp, resolve, hcal, hargsA, Sem.run_bind, Sem.run_pure, Result.andThen_ok, invoke, builtin, hty, hr]
    have hrep : (List.replicate n zc).map (concE h) = List.replicate n zc := by rw [List.map_replicate, hcc]
    have hb1 : n * i.bytes ≤ (len + n) * i.bytes := Nat.mul_le_mul_right _ (by omega)
    refine app_core (i := i) (z := z) (xs := xs) (ys := List.replicate n zc) (by omega) (by rw [hzc, hs]; rfl) (fun c hc => by rw [hzc] at hc; simp at hc; subst hc; exact h1) H h63 (by rw [List.length_replicate, hs, Nat.mul_one])
      (fun j cy hj => by
        have := List.mem_of_getElem? hj
        rw [List.eq_of_mem_replicate this]
        exact ⟨h1, Inv.of_const hcc⟩) (hinv dv (by simp)) hexec
      (fun ba dc h0 e2 => by subst h0; exact zeros_none hu hk hi e2)
      (fun b o' dc hroom hc hf => by
        rw [hrep] at hc hf ⊢
        rw [hs, Nat.mul_one] at hc hf ⊢
        rw [List.length_replicate] at hc hf
        exact zeros_room hu hk hi hz hs hzc h1 (by omega) (by omega) hroom hc hf)
      (fun ba dc h0 hold hlt => by
        rw [hrep]
        exact zeros_grow hu hk hi hz hs hzc hold (by omega) (by omega) hlt (by omega) (growslice_fits (by omega) hby) h0) (by rw [hs]; exact hres)
end
end Sx
end Go.Proofs.Ytaigdbnfhehclaa

namespace Go.Proofs.Ytaigdbnfhehclaa
namespace Sx
open Go.RowKit

section
variable {P : Program}
def slA (a : Addr) (n c : Nat) : OneV := ⟨.slice (some a) n c, rfl⟩
def cutC (t : TypeId) : Con := ⟨primBase + (32 * (4 * t + 2) + 4), [], fun b => (E.hnd 0).shift b, 2, 0, 1⟩
def cutR (s : Nat) (G : List Ob) (l : List Value) (e : Env) : Prop := ∃ (v : Value) (j : Int), l = [v, .int .i64 j] ∧
  ((v = .slice none 0 0 ∧ j = 0 ∧ e.v 0 = .slice none 0 0 ∧ e.g gv = encG G) ∨
   ∃ (n len : Nat) (cells : List Value), v = tok n ∧ G[n]? = some (.ro s len cells) ∧ 0 ≤ j ∧ j ≤ (len : Nat) ∧ e.v 0 = tok G.length ∧ e.g gv = encG (G ++ [.view n s 0 j.toNat]))
theorem rawBounds_cut {j : Int} {n c : Nat} {w : World} (h1 : 0 ≤ j) (h2 : j ≤ (c : Nat)) :
    (Instr.sliceBounds true n c none (some (.int .i64 j)) none).run P w = .ok (0, j.toNat, c) w := by
  have hj : 0 ≤ j ∧ j ≤ (c : Int) := ⟨h1, h2⟩
  unfold Instr.sliceBounds
  simp only [Sem.run_bind, Sem.run_pure, Result.andThen_ok, if_true, Instr.sliceBound, asIntOf, hj, and_self]
theorem cut_holds {t el : TypeId} {s : Nat} (hu : P.underlying t = some (.slice el)) (hs : sizeE P el = some s) : (cutC t).holds P (conR (cutR s)) := by
  refine turn_holds rfl (Nat.le_add_right _ _) (fun G l e _ ⟨_, _, _, h⟩ => ?_) ?_
  · rcases h with ⟨_, _, _, hG⟩ | ⟨_, _, _, _, _, _, _, _, hG⟩
    · exact ⟨_, hG, by unfold extG; rw [if_pos rfl]; exact ⟨[], by simp⟩⟩
    · exact ⟨_, hG, ext1 _⟩
  rintro o hkey a w h F G f l e hargs H ⟨v, j, rfl, hc⟩
  obtain ⟨x, lo, hi, hop, hlo, hhi⟩ := key_slice (lo := false) (hi := true) hkey
  obtain rfl : lo = none := by cases lo with | none => rfl | some _ => cases hlo
  obtain ⟨u1, rfl⟩ := Option.isSome_iff_exists.1 hhi
  have ha := hargs h fun _ _ => rfl
  rw [hop] at ha
  have ha : [a.eval x, a.eval u1] = [concE h v, .int .i64 j] := ha
  simp only [List.cons.injEq, and_true] at ha
  obtain ⟨a1, a2⟩ := ha
  rcases hc with ⟨rfl, rfl, he, hG⟩ | ⟨n, len, cells, rfl, hn, h0, hjl, he, hG⟩
  · have a1 : a.eval x = .slice none 0 0 := a1
    have hb := rawBounds_cut (P := P) (n := 0) (c := 0) (w := w) (Int.le_refl 0) (Int.le_refl 0)
    have hrun : (execOp a.eval o).run P w = .ok (.value (.slice none 0 0)) w := by
      simp only [hop, execOp, a1, a2, Instr.sliceAt, Instr.slice, Option.map_some, Option.map_none, Sem.run_bind, run_underlying hu, Result.andThen_ok, hb, sizeE_run hs, Sem.run_pure]
      rfl
    exact ⟨_, w, h, F, f, G, hrun, hG, .inl ⟨.slice none 0 0, rfl, by simp only [E.nam, he]; exact oneOf_eq rfl, Inv.of_const fun _ => rfl⟩, Fr.refl _ _, H, fun _ _ => .inl, Nat.le_refl _, fun _ _ => rfl⟩
  · obtain ⟨b, o', sp, cap, q1, q2, q3, q4, q5, q6⟩ := H.ob n _ hn
    have hnl := (List.getElem?_eq_some_iff.1 hn).1
    rw [concE_name, q1] at a1
    have hb := rawBounds_cut (P := P) (n := len) (c := cap) (w := w) h0 (by omega)
    have hadd : (⟨b, o', sp⟩ : Addr).add (0 * s) = ⟨b, o', sp⟩ := by
      rw [Nat.zero_mul]
      unfold Addr.add
      cases sp <;> simp
    have hrun : (execOp a.eval o).run P w = .ok (.value (.slice (some ⟨b, o', sp⟩) j.toNat cap)) w := by
      simp only [hop, execOp, a1, a2, Instr.sliceAt, Instr.slice, Option.map_some, Option.map_none, Sem.run_bind, run_underlying hu, Result.andThen_ok, hb, sizeE_run hs, Sem.run_pure, Nat.sub_zero, hadd]
      simp
    have hat : 0 < j.toNat * s → Value.pointer (some ⟨b, o', sp⟩) = hatV ((fun k => if k = G.length then slA ⟨b, o', sp⟩ j.toNat cap else h k) n).val 0 := fun hp => by
      have hnd : ¬ n = G.length := by omega
      have hs0 : 0 < s := Nat.pos_of_mul_pos_left hp
      have hj0 : 0 < j.toNat := Nat.pos_of_mul_pos_right hp
      have hc : 0 < cells.length := by
        rw [q3]
        exact Nat.mul_pos (by omega) hs0
      have := q4 hc
      subst this
      simp only [if_neg hnd, q1, hatV, Nat.add_zero]
    have hpush := H.push (slA ⟨b, o', sp⟩ j.toNat cap) (o' := .view n s 0 j.toNat) (f' := fun _ _ => False) (fun _ _ hf => hf.elim)
      ⟨⟨b, o', sp⟩, _, rfl, by omega, by omega, hat, fun _ _ hf => hf⟩
    refine ⟨_, w, _, _, _, _, hrun, hG, .inl ⟨tok G.length, ?_, by simp only [E.nam, he]; exact oneOf_eq rfl, Inv.name (by simp)⟩, Fr.refl _ _, hpush, fun _ _ hx => .inl (hx.resolve_right id), by simp, fun n hn => if_neg (by omega)⟩
    rw [concE_name, if_pos rfl]
    rfl
end
end Sx
end Go.Proofs.Ytaigdbnfhehclaa

namespace Go.Proofs.Ytaigdbnfhehclaa
namespace Sx
open Go.RowKit

section
variable {P : Program}
/-- An element's place in an array behind a pointer. -/
def aidxR (s N : Nat) (G : List Ob) (l : List Value) (e : Env) : Prop := ∃ (n k : Nat) (kd : IntKind) (i : Int) (all : List Value), l = [tokAt n k, .int kd i] ∧ cellsAt G n = some all ∧ 0 ≤ i ∧ i < (N : Nat) ∧ e.i 0 = n ∧ e.i 1 = ((k + i.toNat * s : Nat) : Int)
theorem aidx_holds {t el : TypeId} {s0 N : Nat} (hu : P.underlying t = some (.array N el)) (hs : sizeE P el = some s0) : (idxC t).holds P (conR (aidxR s0 N)) := by
  refine read_holds rfl (Nat.le_add_right _ _) (fun G G' l e _ hx hd => ?_) ?_
  · obtain ⟨X, rfl, h1, h2⟩ := loc1 hx hd
    constructor
    · rintro ⟨n, k, kd, i, all, rfl, g2, g3⟩
      exact ⟨n, k, kd, i, all, rfl, by rw [cellsAt_append (cellsAt_lt g2)]; exact g2, g3⟩
    · rintro ⟨n, k, kd, i, all, rfl, g2, g3⟩
      have hm : n < G.length := h2 n k (List.mem_cons_self ..)
      exact ⟨n, k, kd, i, all, rfl, by rw [cellsAt_append hm] at g2; exact g2, g3⟩
  · rintro o hkey a w h F G f l e hargs H ⟨n, k, kd, i, all, rfl, hc, hi1, hi2, he1, he2⟩
    obtain ⟨x, ix, hop⟩ := key_idx hkey
    obtain ⟨b, o', q1, _⟩ := cellsAt_spec hc H
    have ha := hargs h fun _ _ => rfl
    rw [hop] at ha
    simp only [Op.operands, List.map_cons, List.map_nil, concE_int, concE_at, q1, List.cons.injEq, and_true] at ha
    obtain ⟨a1, a2⟩ := ha
    refine ⟨tokAt n (k + i.toNat * s0), ?_, Inv.at_ (cellsAt_lt hc), ?_⟩
    · have hj : 0 ≤ i ∧ i < (N : Int) := ⟨hi1, hi2⟩
      simp only [hop, execOp, a1, a2, Instr.indexAt, Instr.sureAddr, asIntOf, Sem.run_bind, run_underlying hu, Result.andThen_ok, Sem.run_pure, hj, and_self, if_true, sizeE_run hs, addr_add, concE_at, q1, Nat.add_assoc]
    · simp only [E.nam, T.den, he1, he2, Int.toNat_natCast, Nat.add_zero]
end
end Sx
end Go.Proofs.Ytaigdbnfhehclaa
