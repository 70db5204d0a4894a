/-
  What is proved: the contract of a slice expression that keeps the first elements, on rows that are only read; no program in sight. Condition: the types are as said.
-/
import Derived.Test.YtcedgoaanlbldaaSzK
namespace Go.Proofs.Ytcedgoaanlbldaa
namespace Sx
open Go.RowKit

section
variable {P : Program}
def slA (a : Addr) (n c : Nat) : OneV := ⟨.slice (some a) n c, rfl⟩
def cutC (t : TypeId) : Con := ⟨primBase + (32 * (4 * t + 2) + 4), [], fun b => (E.hnd 0).shift b, 2, 0, 1⟩
def cutR (s : Nat) (G : List Ob) (l : List Value) (e : Env) : Prop := ∃ (v : Value) (j : Int), l = [v, .int .i64 j] ∧
  ((v = .slice none 0 0 ∧ j = 0 ∧ e.v 0 = .slice none 0 0 ∧ e.g gv = encG G) ∨
   ∃ (n len : Nat) (cells : List Value), v = tok n ∧ G[n]? = some (.ro s len cells) ∧ 0 ≤ j ∧ j ≤ (len : Nat) ∧ e.v 0 = tok G.length ∧ e.g gv = encG (G ++ [.view n s 0 j.toNat]))
theorem rawBounds_cut {j : Int} {n c : Nat} {w : World} (h1 : 0 ≤ j) (h2 : j ≤ (c : Nat)) :
    (Instr.sliceBounds true n c none (some (.int .i64 j)) none).run P w = .ok (0, j.toNat, c) w := by
  have hj : 0 ≤ j ∧ j ≤ (c : Int) := ⟨h1, h2⟩
  unfold Instr.sliceBounds
  simp only [Sem.run_bind, Sem.run_pure, Result.andThen_ok, if_true, Instr.sliceBound, asIntOf, hj, and_self]
theorem cut_holds {t el : TypeId} {s : Nat} (hu : P.underlying t = some (.slice el)) (hs : sizeE P el = some s) : (cutC t).holds P (conR (cutR s)) := by
  refine turn_holds rfl (Nat.le_add_right _ _) (fun G l e _ ⟨_, _, _, h⟩ => ?_) ?_
  · rcases h with ⟨_, _, _, hG⟩ | ⟨_, _, _, _, _, _, _, _, hG⟩
    · exact ⟨_, hG, by unfold extG; rw [if_pos rfl]; exact ⟨[], by simp⟩⟩
    · exact ⟨_, hG, ext1 _⟩
  rintro o hkey a w h F G f l e hargs H ⟨v, j, rfl, hc⟩
  obtain ⟨x, lo, hi, hop, hlo, hhi⟩ := key_slice (lo := false) (hi := true) hkey
  obtain rfl : lo = none := by cases lo with | none => rfl | some _ => cases hlo
  obtain ⟨u1, rfl⟩ := Option.isSome_iff_exists.1 hhi
  have ha := hargs h fun _ _ => rfl
  rw [hop] at ha
  have ha : [a.eval x, a.eval u1] = [concE h v, .int .i64 j] := ha
  simp only [List.cons.injEq, and_true] at ha
  obtain ⟨a1, a2⟩ := ha
  rcases hc with ⟨rfl, rfl, he, hG⟩ | ⟨n, len, cells, rfl, hn, h0, hjl, he, hG⟩
  · have a1 : a.eval x = .slice none 0 0 := a1
    have hb := rawBounds_cut (P := P) (n := 0) (c := 0) (w := w) (Int.le_refl 0) (Int.le_refl 0)
    have hrun : (execOp a.eval o).run P w = .ok (.value (.slice none 0 0)) w := by
      simp only [hop, execOp, a1, a2, Instr.sliceAt, Instr.slice, Option.map_some, Option.map_none, Sem.run_bind, run_underlying hu, Result.andThen_ok, hb, sizeE_run hs, Sem.run_pure]
      rfl
    exact ⟨_, w, h, F, f, G, hrun, hG, .inl ⟨.slice none 0 0, rfl, by simp only [E.nam, he]; exact oneOf_eq rfl, Inv.of_const fun _ => rfl⟩, Fr.refl _ _, H, fun _ _ => .inl, Nat.le_refl _, fun _ _ => rfl⟩
  · obtain ⟨b, o', sp, cap, q1, q2, q3, q4, q5, q6⟩ := H.ob n _ hn
    have hnl := (List.getElem?_eq_some_iff.1 hn).1
    rw [concE_name, q1] at a1
    have hb := rawBounds_cut (P := P) (n := len) (c := cap) (w := w) h0 (by omega)
    have hadd : (⟨b, o', sp⟩ : Addr).add (0 * s) = ⟨b, o', sp⟩ := by
      rw [Nat.zero_mul]
      unfold Addr.add
      cases sp <;> simp
    have hrun : (execOp a.eval o).run P w = .ok (.value (.slice (some ⟨b, o', sp⟩) j.toNat cap)) w := by
      simp only [hop, execOp, a1, a2, Instr.sliceAt, Instr.slice, Option.map_some, Option.map_none, Sem.run_bind, run_underlying hu, Result.andThen_ok, hb, sizeE_run hs, Sem.run_pure, Nat.sub_zero, hadd]
      simp
    have hat : 0 < j.toNat * s → Value.pointer (some ⟨b, o', sp⟩) = hatV ((fun k => if k = G.length then slA ⟨b, o', sp⟩ j.toNat cap else h k) n).val 0 := fun hp => by
      have hnd : ¬ n = G.length := by omega
      have hs0 : 0 < s := Nat.pos_of_mul_pos_left hp
      have hj0 : 0 < j.toNat := Nat.pos_of_mul_pos_right hp
      have hc : 0 < cells.length := by
        rw [q3]
        exact Nat.mul_pos (by omega) hs0
      have := q4 hc
      subst this
      simp only [if_neg hnd, q1, hatV, Nat.add_zero]
    have hpush := H.push (slA ⟨b, o', sp⟩ j.toNat cap) (o' := .view n s 0 j.toNat) (f' := fun _ _ => False) (fun _ _ hf => hf.elim)
      ⟨⟨b, o', sp⟩, _, rfl, by omega, by omega, hat, fun _ _ hf => hf⟩
    refine ⟨_, w, _, _, _, _, hrun, hG, .inl ⟨tok G.length, ?_, by simp only [E.nam, he]; exact oneOf_eq rfl, Inv.name (by simp)⟩, Fr.refl _ _, hpush, fun _ _ hx => .inl (hx.resolve_right id), by simp, fun n hn => if_neg (by omega)⟩
    rw [concE_name, if_pos rfl]
    rfl
end
end Sx
end Go.Proofs.Ytcedgoaanlbldaa
