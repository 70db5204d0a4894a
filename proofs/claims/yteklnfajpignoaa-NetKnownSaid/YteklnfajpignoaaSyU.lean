/-
  What is proved: contracts of the operations on objects that ask alone: the length of a slice, the place of an element, what lies at a place; no program in sight. Condition: the types are as said.
-/
import Derived.Test.YteklnfajpignoaaSyT
namespace Go.Proofs.Yteklnfajpignoaa
namespace Sx
open Go.RowKit

section
variable {P : Program}
theorem key_len {op : Op} {t : TypeId} (h : primKey op = some (primBase + (32 * t + 16))) : ∃ c, op = .call c ∧ c.callee = .builtin .len ∧ c.argTypes[0]? = some t := by
  unfold primKey at h
  repeat' split at h
  all_goals (try (exact absurd h.symm (Option.some_ne_none _)))
  all_goals (rw [Option.some.injEq] at h)
  all_goals (try (exfalso; omega))
  rename_i t' h1 h2
  have : @Eq Nat t' t := by omega
  subst this
  exact ⟨_, rfl, h1, h2⟩
theorem key_idx {op : Op} {t : TypeId} (h : primKey op = some (primBase + (32 * t + 3))) : ∃ x i, op = .indexAddr t x i := by
  unfold primKey at h
  repeat' split at h
  all_goals (try (exact absurd h.symm (Option.some_ne_none _)))
  all_goals (rw [Option.some.injEq] at h)
  all_goals (try (exfalso; omega))
  rename_i t' x i
  have : @Eq Nat t' t := by omega
  subst this
  exact ⟨_, _, rfl⟩
theorem key_load {op : Op} {t : TypeId} (h : primKey op = some (primBase + 32 * t)) : ∃ x, op = .load t x := by
  unfold primKey at h
  repeat' split at h
  all_goals (try (exact absurd h.symm (Option.some_ne_none _)))
  all_goals (rw [Option.some.injEq] at h)
  all_goals (try (exfalso; omega))
  rename_i t' x
  have : @Eq Nat t' t := by omega
  subst this
  exact ⟨_, rfl⟩
theorem key_nil {op : Op} (h : primKey op = some (primBase + 9)) : ∃ x, op = .nilCheck x := by
  unfold primKey at h
  repeat' split at h
  all_goals (try (exact absurd h.symm (Option.some_ne_none _)))
  all_goals (rw [Option.some.injEq] at h)
  all_goals (try (exfalso; omega))
  exact ⟨_, rfl⟩
/-- A pointer that is not nil. -/
def nilR (G : List Ob) (l : List Value) (e : Env) : Prop := ∃ n k : Nat, l = [tokAt n k] ∧ n < G.length ∧ e.i 0 = n ∧ e.i 1 = k
def nilC : Con := ⟨primBase + 9, [], fun b => (E.pla (.var 0) (.var 1) 0).shift b, 1, 3, 0⟩
theorem nil_holds : nilC.holds P (conR nilR) := by
  refine read_holds rfl (Nat.le_add_right _ _) (fun G G' l e _ hx hd => ?_) ?_
  · refine ⟨fun ⟨n, k, h1, h2, h3⟩ => ⟨n, k, h1, Nat.lt_of_lt_of_le h2 hx, h3⟩, fun ⟨n, k, h1, h2, h3⟩ => ⟨n, k, h1, hd.lt_at (by rw [h1]; exact List.mem_singleton.2 rfl), h3⟩⟩
  · rintro o hkey a w h F G f l e hargs H ⟨n, k, rfl, hn, h1, h2⟩
    obtain ⟨x, hop⟩ := key_nil hkey
    have ha := hargs h fun _ _ => rfl
    rw [hop] at ha
    obtain ⟨b, o', e1⟩ := hatV_form (h n).val
    simp only [Op.operands, List.map_cons, List.map_nil, concE_at, e1, List.cons.injEq, and_true] at ha
    refine ⟨tokAt n k, ?_, Inv.at_ hn, ?_⟩
    · simp only [hop, execOp, ha, concE_at, e1, Sem.run_pure]
    · simp only [E.nam, T.den, h1, h2, Int.toNat_natCast, Nat.add_zero]
def lenC (t : TypeId) : Con := ⟨primBase + (32 * t + 16), [], fun b => (E.int .i64 (.var 0)).shift b, 1, 1, 0⟩
def lenR (G : List Ob) (l : List Value) (e : Env) : Prop := ∃ v s len cells, l = [v] ∧ Sl G v s len cells ∧ e.i 0 = (len : Nat)
theorem loc1 {G G' : List Ob} {l : List Value} (hx : extG 1 G G') (hd : NoDang (encG G) l) : ∃ X, G' = G ++ X ∧ (∀ n, tok n ∈ l → n < G.length) ∧ ∀ n k, tokAt n k ∈ l → n < G.length := by
  obtain ⟨X, rfl⟩ := hx
  exact ⟨X, rfl, fun n hn => hd.lt hn, fun n k hn => hd.lt_at hn⟩
theorem len_holds {t el : TypeId} (hu : P.underlying t = some (.slice el)) : (lenC t).holds P (conR lenR) := by
  refine read_holds rfl (Nat.le_add_right _ _) (fun G G' l e _ hx hd => ?_) ?_
  · obtain ⟨X, rfl, h1, h2⟩ := loc1 hx hd
    constructor
    · rintro ⟨v, s, len, cells, rfl, g1, g2⟩
      exact ⟨v, s, len, cells, rfl, g1.append, g2⟩
    · rintro ⟨v, s, len, cells, rfl, g1, g2⟩
      exact ⟨v, s, len, cells, rfl, (Sl.loc fun n hn => h1 n (by rw [hn]; exact List.mem_singleton.2 rfl)).2 g1, g2⟩
  · rintro o hkey a w h F G f l e hargs H ⟨v, s, len, cells, rfl, hsl, hi⟩
    obtain ⟨c, hc, h1, h2⟩ := key_len hkey
    obtain ⟨ad, cap, hv, _⟩ := hsl.at_ H
    have ha := hargs h fun _ _ => rfl
    rw [hc] at ha
    simp only [Op.operands, Call.operands, h1, Array.empty_append, List.map_cons, List.map_nil, hv] at ha
    have h5 : c.args.map a.eval = #[.slice ad len cap] := by
      rw [← Array.toList_inj]; simpa using ha
    refine ⟨.int .i64 len, ?_, Inv.of_const fun _ => rfl, by simp only [E.nam, T.den, hi]⟩
    simp only [hc, execOp, resolve, h1, h5, Sem.run_bind, Sem.run_pure, Result.andThen_ok, invoke, builtin, Builtin.len_, h2, concE_int]
    simp [run_underlying hu, goInt]
/-- The place of a slice's element. -/
def idxC (t : TypeId) : Con := ⟨primBase + (32 * t + 3), [], fun b => (E.pla (.var 0) (.var 1) 0).shift b, 1, 1, 0⟩
def idxR (s : Nat) (G : List Ob) (l : List Value) (e : Env) : Prop := ∃ v kd i m k len all, l = [v, .int kd i] ∧ SlIn G v m k s len ∧ cellsAt G m = some all ∧ k + len * s ≤ all.length ∧ 0 ≤ i ∧ i < (len : Nat) ∧ 0 < s ∧ e.i 0 = m ∧ e.i 1 = ((k + i.toNat * s : Nat) : Int)
theorem idx_holds {t el : TypeId} {s0 : Nat} (hu : P.underlying t = some (.slice el)) (hs : sizeE P el = some s0) : (idxC t).holds P (conR (idxR s0)) := by
  refine read_holds rfl (Nat.le_add_right _ _) (fun G G' l e _ hx hd => ?_) ?_
  · obtain ⟨X, rfl, h1, h2⟩ := loc1 hx hd
    constructor
    · rintro ⟨v, kd, i, m, k, len, all, rfl, g1, g2, g3⟩
      exact ⟨v, kd, i, m, k, len, all, rfl, g1.append, by rw [cellsAt_append (cellsAt_lt g2)]; exact g2, g3⟩
    · rintro ⟨v, kd, i, m, k, len, all, rfl, g1, g2, g3⟩
      have g1' := (SlIn.loc fun n hn => h1 n (by rw [hn]; exact List.mem_cons_self ..)).2 g1
      have hm : m < G.length := by
        obtain ⟨n, rfl, hn⟩ := g1'
        have := h1 n (List.mem_cons_self ..)
        rcases hn with ⟨cs, _, rfl, _⟩ | ⟨_, hn⟩
        · exact this
        · omega
      exact ⟨v, kd, i, m, k, len, all, rfl, g1', by rw [cellsAt_append hm] at g2; exact g2, g3⟩
  · rintro o hkey a w h F G f l e hargs H ⟨v, kd, i, m, k, len, all, rfl, hsl, hc, hle, hi1, hi2, hs0, he1, he2⟩
    obtain ⟨x, ix, hop⟩ := key_idx hkey
    obtain ⟨ad, cap, hv, _, hat, _⟩ := hsl.val H
    obtain ⟨b, o', q1, _⟩ := cellsAt_spec hc H
    have hlen : 0 < len * s0 := Nat.mul_pos (by omega) hs0
    have hat := hat hlen
    rw [q1] at hat
    cases hat
    have ha := hargs h fun _ _ => rfl
    rw [hop] at ha
    simp only [Op.operands, List.map_cons, List.map_nil, concE_int, hv, List.cons.injEq, and_true] at ha
    obtain ⟨a1, a2⟩ := ha
    refine ⟨tokAt m (k + i.toNat * s0), ?_, Inv.at_ (cellsAt_lt hc), ?_⟩
    · have hj : 0 ≤ i ∧ i < (len : Int) := ⟨hi1, hi2⟩
      simp only [hop, execOp, a1, a2, Instr.indexAt, asIntOf, Sem.run_bind, run_underlying hu, Result.andThen_ok, Sem.run_pure, hj, and_self, if_true, sizeE_run hs, addr_add, concE_at, q1, Nat.add_assoc]
    · simp only [E.nam, T.den, he1, he2, Int.toNat_natCast, Nat.add_zero]
/-- What lies at a place: one cell, as r tells it. -/
def loadC (t : TypeId) (r : E) : Con := ⟨primBase + 32 * t, [], fun b => r.shift b, 1, 1, 0⟩
def loadR (r : E) (G : List Ob) (l : List Value) (e : Env) : Prop := ∃ n k cells c, l = [tokAt n k] ∧ cellsAt G n = some cells ∧ cells[k]? = some c ∧ r.nam e lay0 = c
theorem load_holds {t : TypeId} {r : E} (ht : isRowE P t = some false) (hr : (r.noPtr && r.lt stride) = true) : (loadC t r).holds P (conR (loadR r)) := by
  refine read_holds hr (Nat.le_add_right _ _) (fun G G' l e _ hx hd => ?_) ?_
  · obtain ⟨X, rfl, h1, h2⟩ := loc1 hx hd
    constructor
    · rintro ⟨n, k, cells, c, rfl, g1, g2⟩
      exact ⟨n, k, cells, c, rfl, by rw [cellsAt_append (cellsAt_lt g1)]; exact g1, g2⟩
    · rintro ⟨n, k, cells, c, rfl, g1, g2⟩
      exact ⟨n, k, cells, c, rfl, by rw [cellsAt_append (h2 n k (List.mem_singleton.2 rfl))] at g1; exact g1, g2⟩
  · rintro o hkey a w h F G f l e hargs H ⟨n, k, cells, c, rfl, hc, hk, hv⟩
    obtain ⟨x, hop⟩ := key_load hkey
    obtain ⟨b, o', q1, q2⟩ := cellsAt_spec hc H
    have hcell := q2 k c hk
    have ha := hargs h fun _ _ => rfl
    rw [hop] at ha
    simp only [Op.operands, List.map_cons, List.map_nil, concE_at, q1, List.cons.injEq, and_true] at ha
    refine ⟨c, ?_, hcell.inv, hv⟩
    simp only [hop, execOp, ha, Instr.loadAt, Instr.sureAddr, Sem.run_bind, Sem.run_pure, Result.andThen_ok, loadVar, isRowE_run ht, Bool.false_eq_true, if_false, load, Sem.run, hcell.cell]
/-- What lies at a place: a struct, or an array. -/
def loadRowR (s : Nat) (r : E) (G : List Ob) (l : List Value) (e : Env) : Prop := ∃ n k cells, l = [tokAt n k] ∧ cellsAt G n = some cells ∧ k + s ≤ cells.length ∧ r.nam e lay0 = .agg ((cells.drop k).take s).toArray
theorem loadRow_holds {t : TypeId} {s : Nat} {r : E} (ht : isRowE P t = some true) (hs : sizeE P t = some s) (hr : (r.noPtr && r.lt stride) = true) : (loadC t r).holds P (conR (loadRowR s r)) := by
  refine read_holds hr (Nat.le_add_right _ _) (fun G G' l e _ hx hd => ?_) ?_
  · obtain ⟨X, rfl, h1, h2⟩ := loc1 hx hd
    constructor
    · rintro ⟨n, k, cells, rfl, g1, g2⟩
      exact ⟨n, k, cells, rfl, by rw [cellsAt_append (cellsAt_lt g1)]; exact g1, g2⟩
    · rintro ⟨n, k, cells, rfl, g1, g2⟩
      exact ⟨n, k, cells, rfl, by rw [cellsAt_append (h2 n k (List.mem_singleton.2 rfl))] at g1; exact g1, g2⟩
  · rintro o hkey a w h F G f l e hargs H ⟨n, k, cells, rfl, hc, hk, hv⟩
    obtain ⟨x, hop⟩ := key_load hkey
    obtain ⟨b, o', q1, q2⟩ := cellsAt_spec hc H
    have ha := hargs h fun _ _ => rfl
    rw [hop] at ha
    simp only [Op.operands, List.map_cons, List.map_nil, concE_at, q1, List.cons.injEq, and_true] at ha
    have hget : ∀ (j : Nat) c, ((cells.drop k).take s)[j]? = some c → CellN w h G.length b (o' + k + j) c := fun j c hj => by
      simp only [List.getElem?_take, List.getElem?_drop] at hj
      split at hj
      · rw [Nat.add_assoc]; exact q2 _ _ hj
      · cases hj
    have hrange : w.rangeAt b (o' + k) (((cells.drop k).take s).map (concC h)) := fun j v hv => by
      rw [List.getElem?_map] at hv
      cases hq : ((cells.drop k).take s)[j]? with
      | none => simp [hq] at hv
      | some c =>
        simp only [hq, Option.map_some, Option.some.injEq] at hv
        subst hv
        have := hget j c hq
        rw [← concE_of_one this.one]
        exact this.cell
    have hrow : ∃ d, P.underlying t = some d ∧ d.isRow = true := by
      unfold isRowE at ht
      split at ht <;> first | exact ⟨_, by assumption, rfl⟩ | cases ht
    obtain ⟨d, hu, hd⟩ := hrow
    have hsz : (P.info? t).map (·.size) = some (((cells.drop k).take s).map (concC h)).length := by
      unfold sizeE at hs
      rw [hs]
      simp; omega
    refine ⟨.agg ((cells.drop k).take s).toArray, ?_, Inv.agg fun c hm => ?_, hv⟩
    · simp only [hop, execOp, ha, Sem.run_bind, run_loadAt_mid w _ _ t _ d hrange hu hd hsz, Result.andThen_ok, Sem.run_pure, concE_agg, List.map_toArray]
    · obtain ⟨j, hj⟩ := List.getElem?_of_mem hm
      exact ⟨(hget j c hj).inv, (hget j c hj).one⟩
end
end Sx
end Go.Proofs.Yteklnfajpignoaa
