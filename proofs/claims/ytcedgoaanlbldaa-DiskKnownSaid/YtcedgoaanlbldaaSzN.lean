/- What is proved: contracts of the slice expressions v[:j] and v[i:] on rows of objects; no program in sight. Condition: the types are as said. -/
import Derived.Test.YtcedgoaanlbldaaSzI
namespace Go.Proofs.Ytcedgoaanlbldaa
namespace Sx
open Go.RowKit

section
variable {P : Program}
theorem rowSl {w : World} {h : Nat → OneV} {F : Foot} {G : List Ob} {f : Nat → Foot} (H : Objs w h F G f) {n s len : Nat} {cells : List Value} (hn : G[n]? = some (.row s len cells) ∨ G[n]? = some (.ro s len cells)) :
    ∃ b o' sp cap, (h n).val = .slice (some ⟨b, o', sp⟩) len cap ∧ len ≤ cap ∧ cells.length = len * s ∧ (0 < cells.length → sp = none) ∧ n < G.length := by
  rcases hn with hn | hn
  · obtain ⟨b, o', cap, q1, q2, q4, q5, _⟩ := H.ob n _ hn
    exact ⟨b, o', none, cap, q1, q2, q5, fun _ => rfl, (List.getElem?_eq_some_iff.1 hn).1⟩
  · obtain ⟨b, o', sp, cap, q1, q2, q3, q4, _⟩ := H.ob n _ hn
    exact ⟨b, o', sp, cap, q1, q2, q3, q4, (List.getElem?_eq_some_iff.1 hn).1⟩
/-- v[:j]. -/
def cut2R (s : Nat) (G : List Ob) (l : List Value) (e : Env) : Prop := ∃ (v : Value) (j : Int), l = [v, .int .i64 j] ∧
  ((v = .slice none 0 0 ∧ j = 0 ∧ e.v 0 = .slice none 0 0 ∧ e.g gv = encG G) ∨
   ∃ (n len : Nat) (cells : List Value), v = tok n ∧ (G[n]? = some (.row s len cells) ∨ G[n]? = some (.ro s len cells)) ∧ 0 ≤ j ∧ j ≤ (len : Nat) ∧ e.v 0 = tok G.length ∧ e.g gv = encG (G ++ [.view n s 0 j.toNat]))
theorem cut2_holds {t el : TypeId} {s : Nat} (hu : P.underlying t = some (.slice el)) (hs : sizeE P el = some s) : (cutC t).holds P (conR (cut2R s)) := by
  refine turn_holds rfl (Nat.le_add_right _ _) (fun G l e _ ⟨_, _, _, h⟩ => ?_) ?_
  · rcases h with ⟨_, _, _, hG⟩ | ⟨_, _, _, _, _, _, _, _, hG⟩
    · exact ⟨_, hG, by unfold extG; rw [if_pos rfl]; exact ⟨[], by simp⟩⟩
    · exact ⟨_, hG, ext1 _⟩
  rintro o hkey a w h F G f l e hargs H ⟨v, j, rfl, hc⟩
  obtain ⟨x, lo, hi, hop, hlo, hhi⟩ := key_slice (lo := false) (hi := true) hkey
  obtain rfl : lo = none := by cases lo with | none => rfl | some _ => cases hlo
  obtain ⟨u1, rfl⟩ := Option.isSome_iff_exists.1 hhi
  have ha := hargs h fun _ _ => rfl
  rw [hop] at ha
  have ha : [a.eval x, a.eval u1] = [concE h v, .int .i64 j] := ha
  simp only [List.cons.injEq, and_true] at ha
  obtain ⟨a1, a2⟩ := ha
  rcases hc with ⟨rfl, rfl, he, hG⟩ | ⟨n, len, cells, rfl, hn, h0, hjl, he, hG⟩
  · have a1 : a.eval x = .slice none 0 0 := a1
    have hb := rawBounds_cut (P := P) (n := 0) (c := 0) (w := w) (Int.le_refl 0) (Int.le_refl 0)
    have hrun : (execOp a.eval o).run P w = .ok (.value (.slice none 0 0)) w := by
      simp only [hop, execOp, a1, a2, Instr.sliceAt, Instr.slice, Option.map_some, Option.map_none, Sem.run_bind, run_underlying hu, Result.andThen_ok, hb, sizeE_run hs, Sem.run_pure]
      rfl
    exact ⟨_, w, h, F, f, G, hrun, hG, .inl ⟨.slice none 0 0, rfl, by simp only [E.nam, he]; exact oneOf_eq rfl, Inv.of_const fun _ => rfl⟩, Fr.refl _ _, H, fun _ _ => .inl, Nat.le_refl _, fun _ _ => rfl⟩
  · obtain ⟨b, o', sp, cap, q1, q2, q3, q4, hnl⟩ := rowSl H hn
    rw [concE_name, q1] at a1
    have hb := rawBounds_cut (P := P) (n := len) (c := cap) (w := w) h0 (by omega)
    have hadd : (⟨b, o', sp⟩ : Addr).add (0 * s) = ⟨b, o', sp⟩ := by
      rw [Nat.zero_mul]
      unfold Addr.add
      cases sp <;> simp
    have hrun : (execOp a.eval o).run P w = .ok (.value (.slice (some ⟨b, o', sp⟩) j.toNat cap)) w := by
      simp only [hop, execOp, a1, a2, Instr.sliceAt, Instr.slice, Option.map_some, Option.map_none, Sem.run_bind, run_underlying hu, Result.andThen_ok, hb, sizeE_run hs, Sem.run_pure, Nat.sub_zero, hadd]
      simp
    have hat : 0 < j.toNat * s → Value.pointer (some ⟨b, o', sp⟩) = hatV ((fun k => if k = G.length then slA ⟨b, o', sp⟩ j.toNat cap else h k) n).val 0 := fun hp => by
      have hnd : ¬ n = G.length := by omega
      have hs0 : 0 < s := Nat.pos_of_mul_pos_left hp
      have hj0 : 0 < j.toNat := Nat.pos_of_mul_pos_right hp
      have hc : 0 < cells.length := by
        rw [q3]
        exact Nat.mul_pos (by omega) hs0
      have := q4 hc
      subst this
      simp only [if_neg hnd, q1, hatV, Nat.add_zero]
    have hpush := H.push (slA ⟨b, o', sp⟩ j.toNat cap) (o' := .view n s 0 j.toNat) (f' := fun _ _ => False) (fun _ _ hf => hf.elim)
      ⟨⟨b, o', sp⟩, _, rfl, by omega, by omega, hat, fun _ _ hf => hf⟩
    refine ⟨_, w, _, _, _, _, hrun, hG, .inl ⟨tok G.length, ?_, by simp only [E.nam, he]; exact oneOf_eq rfl, Inv.name (by simp)⟩, Fr.refl _ _, hpush, fun _ _ hx => .inl (hx.resolve_right id), by simp, fun n hn => if_neg (by omega)⟩
    rw [concE_name, if_pos rfl]
    rfl
/-- v[i:]. -/
def dropC (t : TypeId) : Con := ⟨primBase + (32 * (4 * t + 1) + 4), [], fun b => (E.hnd 0).shift b, 2, 0, 1⟩
def dropR (s : Nat) (G : List Ob) (l : List Value) (e : Env) : Prop := ∃ (n len : Nat) (cells : List Value) (i : Int), l = [tok n, .int .i64 i] ∧ (G[n]? = some (.row s len cells) ∨ G[n]? = some (.ro s len cells)) ∧ 0 ≤ i ∧ i < (len : Nat) ∧ 0 < s ∧
  e.v 0 = tok G.length ∧ e.g gv = encG (G ++ [.view n s (i.toNat * s) (len - i.toNat)])
theorem rawBounds_drop {i : Int} {n c : Nat} {w : World} (h1 : 0 ≤ i) (h2 : i ≤ (n : Nat)) :
    (Instr.sliceBounds true n c (some (.int .i64 i)) none none).run P w = .ok (i.toNat, n, c) w := by
  have hj : 0 ≤ i ∧ i ≤ (n : Int) := ⟨h1, h2⟩
  unfold Instr.sliceBounds
  simp only [Sem.run_bind, Sem.run_pure, Result.andThen_ok, if_true, Instr.sliceBound, asIntOf, hj, and_self]
theorem drop_holds {t el : TypeId} {s : Nat} (hu : P.underlying t = some (.slice el)) (hs : sizeE P el = some s) : (dropC t).holds P (conR (dropR s)) := by
  refine turn_holds rfl (Nat.le_add_right _ _) (fun G l e _ ⟨_, _, _, _, _, _, _, _, _, _, hG⟩ => ⟨_, hG, ext1 _⟩) ?_
  rintro o hkey a w h F G f l e hargs H ⟨n, len, cells, i, rfl, hn, h0, hil, hs0, he, hG⟩
  obtain ⟨x, lo, hi, hop, hlo, hhi⟩ := key_slice (lo := true) (hi := false) hkey
  obtain rfl : hi = none := by cases hi with | none => rfl | some _ => cases hhi
  obtain ⟨u1, rfl⟩ := Option.isSome_iff_exists.1 hlo
  have ha := hargs h fun _ _ => rfl
  rw [hop] at ha
  have ha : [a.eval x, a.eval u1] = [concE h (tok n), .int .i64 i] := ha
  simp only [List.cons.injEq, and_true] at ha
  obtain ⟨a1, a2⟩ := ha
  obtain ⟨b, o', sp, cap, q1, q2, q3, q4, hnl⟩ := rowSl H hn
  obtain rfl : sp = none := q4 (by rw [q3]; exact Nat.mul_pos (by omega) hs0)
  rw [concE_name, q1] at a1
  have hb := rawBounds_drop (P := P) (n := len) (c := cap) (w := w) h0 (by omega)
  have hne : ¬ cap = i.toNat := by omega
  have hrun : (execOp a.eval o).run P w = .ok (.value (.slice (some ⟨b, o' + i.toNat * s, none⟩) (len - i.toNat) (cap - i.toNat))) w := by
    simp only [hop, execOp, a1, a2, Instr.sliceAt, Instr.slice, Option.map_some, Option.map_none, Sem.run_bind, run_underlying hu, Result.andThen_ok, hb, sizeE_run hs, if_neg hne, addr_add, Sem.run_pure]
  have hat : 0 < (len - i.toNat) * s → Value.pointer (some ⟨b, o' + i.toNat * s, none⟩) = hatV ((fun k => if k = G.length then slV b (o' + i.toNat * s) (len - i.toNat) (cap - i.toNat) else h k) n).val (i.toNat * s) := fun _ => by
    have hnd : ¬ n = G.length := by omega
    simp only [if_neg hnd, q1, hatV]
  have hpush := H.push (slV b (o' + i.toNat * s) (len - i.toNat) (cap - i.toNat)) (o' := .view n s (i.toNat * s) (len - i.toNat)) (f' := fun _ _ => False) (fun _ _ hf => hf.elim)
    ⟨⟨b, o' + i.toNat * s, none⟩, _, rfl, by omega, by omega, hat, fun _ _ hf => hf⟩
  refine ⟨_, w, _, _, _, _, hrun, hG, .inl ⟨tok G.length, ?_, by simp only [E.nam, he]; exact oneOf_eq rfl, Inv.name (by simp)⟩, Fr.refl _ _, hpush, fun _ _ hx => .inl (hx.resolve_right id), by simp, fun n hn => if_neg (by omega)⟩
  rw [concE_name, if_pos rfl]
  rfl
end
end Sx
end Go.Proofs.Ytcedgoaanlbldaa
