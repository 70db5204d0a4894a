/-
  What is proved: the contract of a slice expression on a row of objects; no program in sight. Condition: the types are as said.
-/
import Derived.Test.YtcedgoaanlbldaaSzE
namespace Go.Proofs.Ytcedgoaanlbldaa
namespace Sx
open Go.RowKit

section
variable {P : Program}
def viC (t : TypeId) : Con := ⟨primBase + (32 * (4 * t + 3) + 4), [], fun b => (E.hnd 0).shift b, 2, 0, 1⟩
def viR (s : Nat) (G : List Ob) (l : List Value) (e : Env) : Prop := ∃ (d : Nat) (i j : Int) (len : Nat) (cells : List Value), l = [tok d, .int .i64 i, .int .i64 j] ∧ G[d]? = some (.row s len cells) ∧ 0 ≤ i ∧ i < j ∧ j ≤ (len : Nat) ∧
  e.v 0 = tok G.length ∧ e.g gv = encG (G ++ [.view d s (i.toNat * s) (j.toNat - i.toNat)])
theorem rawBounds_run {i j : Int} {n c : Nat} {w : World} (h0 : 0 ≤ i) (h1 : i ≤ j) (h2 : j ≤ (c : Nat)) :
    (Instr.sliceBounds true n c (some (.int .i64 i)) (some (.int .i64 j)) none).run P w = .ok (i.toNat, j.toNat, c) w := by
  have hj : 0 ≤ j ∧ j ≤ (c : Int) := ⟨by omega, h2⟩
  have hi : 0 ≤ i ∧ i ≤ (j.toNat : Int) := ⟨h0, by omega⟩
  unfold Instr.sliceBounds
  simp only [Sem.run_bind, Sem.run_pure, Result.andThen_ok, Option.isSome_none, Bool.false_eq_true, if_false, if_true, Instr.sliceBound, asIntOf, hj, hi, and_self]
theorem view_holds {t el : TypeId} {s : Nat} (hu : P.underlying t = some (.slice el)) (hs : sizeE P el = some s) : (viC t).holds P (conR (viR s)) := by
  refine turn_holds rfl (Nat.le_add_right _ _) (fun G l e _ ⟨_, _, _, _, _, _, _, _, _, _, _, hG⟩ => ⟨_, hG, ext1 _⟩) ?_
  rintro o hkey a w h F G f l e hargs H ⟨d, i, j, len, cells, rfl, hd, h0, hij, hjl, he, hG⟩
  obtain ⟨x, lo, hi, hop, hlo, hhi⟩ := key_slice (lo := true) (hi := true) hkey
  obtain ⟨l1, rfl⟩ := Option.isSome_iff_exists.1 hlo
  obtain ⟨u1, rfl⟩ := Option.isSome_iff_exists.1 hhi
  obtain ⟨b, o', cap, q1, q2, q4, q5, q6, q7, q8, q9⟩ := H.ob d _ hd
  have hdl := (List.getElem?_eq_some_iff.1 hd).1
  have ha := hargs h fun _ _ => rfl
  rw [hop] at ha
  have ha : [a.eval x, a.eval l1, a.eval u1] = [concE h (tok d), .int .i64 i, .int .i64 j] := ha
  simp only [List.cons.injEq, and_true] at ha
  obtain ⟨a1, a2, a3⟩ := ha
  rw [concE_name, q1] at a1
  have hb := rawBounds_run (P := P) (n := len) (c := cap) (w := w) h0 (by omega : i ≤ j) (by omega)
  have hne : ¬ cap = i.toNat := by omega
  have hrun : (execOp a.eval o).run P w = .ok (.value (.slice (some ⟨b, o' + i.toNat * s, none⟩) (j.toNat - i.toNat) (cap - i.toNat))) w := by
    simp only [hop, execOp, a1, a2, a3, Instr.sliceAt, Instr.slice, Option.map_some, Option.map_none, Sem.run_bind, run_underlying hu, Result.andThen_ok, hb, sizeE_run hs, if_neg hne, addr_add, Sem.run_pure]
  have hat : 0 < (j.toNat - i.toNat) * s → Value.pointer (some ⟨b, o' + i.toNat * s, none⟩) = hatV ((fun k => if k = G.length then slV b (o' + i.toNat * s) (j.toNat - i.toNat) (cap - i.toNat) else h k) d).val (i.toNat * s) := fun _ => by
    have hnd : ¬ d = G.length := by omega
    simp only [if_neg hnd, q1, hatV]
  have hpush := H.push (slV b (o' + i.toNat * s) (j.toNat - i.toNat) (cap - i.toNat)) (o' := .view d s (i.toNat * s) (j.toNat - i.toNat)) (f' := fun _ _ => False) (fun _ _ hf => hf.elim)
    ⟨⟨b, o' + i.toNat * s, none⟩, _, rfl, by omega, by omega, hat, fun _ _ hf => hf⟩
  refine ⟨_, w, _, _, _, _, hrun, hG, .inl ⟨tok G.length, ?_, by simp only [E.nam, he]; exact oneOf_eq rfl, Inv.name (by simp)⟩, Fr.refl _ _, hpush, fun _ _ hx => .inl (hx.resolve_right id), by simp, fun n hn => if_neg (by omega)⟩
  rw [concE_name, if_pos rfl]
  rfl
end
end Sx
end Go.Proofs.Ytcedgoaanlbldaa
