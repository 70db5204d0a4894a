/- What is proved: the blocks of a play of two swaps, behind a claim and behind a refund (plain). No program in sight. -/
import Derived.Test.YtmhbkiabndookaaQ3
namespace Go.Proofs.Ytmhbkiabndookaa
open Go.RowKit

section
variable (c : Tm) (i : Int)
theorem ph_refA : (c.py c.t.long 2 1 false c.lA lg0 false).block true false = c.py (c.t.long + 1) 2 1 false c.lAr lg0 false := by
  have b := c.bounds; have := c.d0; have := c.d1; have := c.y1; have := c.g1; have := c.y0; have := c.g0; have := c.n0
  have e0 : (c.py c.t.long 2 1 false c.lA lg0 false).r0 true = (3, c.sA 2) :=
    A_refund c c.t.long _ (at0 c _ _ _ _ _ _ _) (by omega) (by omega) (by omega) (by show 0 < deep (c.n + c.t.long) (c.n + 1); rw [deep_at c _ _ (by omega) (by omega) (by omega) (by omega)]; omega) rfl rfl
      (by show deep (c.n + c.t.long) 0 < _; rw [deep_0]; omega)
  exact block_of c _ 2 1 false c.lA lg0 false true false (by omega) (by omega) e0 rfl (mv_refund _ _ _ _ _ _ (by show 0 < c.n + 1; omega) rfl (by omega)) (mv_none _ _ _ _ _ _ _ (.inl rfl))
theorem ph_refA_wait (h0 : c.t.long + 1 ≤ i) (h1 : i < c.t.long + c.t.depth) : (c.py i 2 1 false c.lAr lg0 false).block true false = c.py (i + 1) 2 1 false c.lAr lg0 false := by
  have b := c.bounds; have := c.d0; have := c.d1; have := c.y1; have := c.g1; have := c.y0; have := c.g0; have := c.n0
  have e : (c.py i 2 1 false c.lAr lg0 false).f0.back = i - c.t.long := by
    show deep (c.n + i) (c.n + (c.t.long + 1)) = _
    rw [deep_at c _ _ (by omega) (by omega) (by omega) (by omega)]; omega
  have e0 : (c.py i 2 1 false c.lAr lg0 false).r0 true = (0, c.sA 2) :=
    A_wait c i _ (at0 c _ _ _ _ _ _ _) (by omega) (by omega) (by show 0 < deep (c.n + i) (c.n + 1); rw [deep_at c _ _ (by omega) (by omega) (by omega) (by omega)]; omega) (by rw [e]; omega)
      (by show deep (c.n + i) 0 < _; rw [deep_0]; omega) (.inr (by rw [e]; omega))
  exact block_of c _ 2 1 false c.lAr lg0 false true false (by omega) (by omega) e0 rfl (mv_none _ _ _ _ _ _ _ (.inl rfl)) (mv_none _ _ _ _ _ _ _ (.inl rfl))
theorem ph_refA_end : (c.py (c.t.long + c.t.depth) 2 1 false c.lAr lg0 false).block true false = c.py (c.t.long + c.t.depth + 1) 5 1 false c.lAr lg0 false := by
  have b := c.bounds; have := c.d0; have := c.d1; have := c.y1; have := c.g1; have := c.y0; have := c.g0; have := c.n0
  have e0 : (c.py (c.t.long + c.t.depth) 2 1 false c.lAr lg0 false).r0 true = (4, c.sA 5) :=
    A_back c _ (by show _ ≤ deep (c.n + (c.t.long + c.t.depth)) (c.n + (c.t.long + 1)); rw [deep_at c _ _ (by omega) (by omega) (by omega) (by omega)]; omega)
  exact block_of c _ 2 1 false c.lAr lg0 false true false (by omega) (by omega) e0 rfl (mv_none _ _ _ _ _ _ _ (.inr rfl)) (mv_none _ _ _ _ _ _ _ (.inl rfl))
theorem ph_refA_over (h0 : 0 ≤ i) (h1 : i ≤ 1000) : (c.py i 5 1 false c.lAr lg0 false).block true false = c.py (i + 1) 5 1 false c.lAr lg0 false :=
  block_of c _ 5 1 false c.lAr lg0 false true false h0 h1 (A_over c (c.py i 5 1 false c.lAr lg0 false).f0 5 (by decide)) rfl (mv_none _ _ _ _ _ _ _ (.inl rfl)) (mv_none _ _ _ _ _ _ _ (.inl rfl))

theorem ph_refB : (c.py (3 * c.t.mar) 2 2 false c.lA c.lB false).block false true = c.py (3 * c.t.mar + 1) 2 2 false c.lA c.lBr false := by
  have b := c.bounds; have := c.d0; have := c.d1; have := c.y1; have := c.g1; have := c.y0; have := c.g0; have := c.n0
  have e1 : (c.py (3 * c.t.mar) 2 2 false c.lA c.lB false).r1 true = (3, c.sB 2 false) :=
    B_refund c (3 * c.t.mar) _ (at1 c _ _ _ _ _ _ _) (by omega) (by omega) (by omega) rfl (by show 0 < deep (c.n + 3 * c.t.mar) (c.n + (c.t.depth + 1)); rw [deep_at c _ _ (by omega) (by omega) (by omega) (by omega)]; omega) rfl rfl
  exact block_of c _ 2 2 false c.lA c.lB false false true (by omega) (by omega) rfl e1 (mv_none _ _ _ _ _ _ _ (.inl rfl)) (mv_refund _ _ _ _ _ _ (by show 0 < c.n + (c.t.depth + 1); omega) rfl (by omega))
theorem ph_refB_wait (h0 : 3 * c.t.mar + 1 ≤ i) (h1 : i < 3 * c.t.mar + c.t.depth) : (c.py i 2 2 false c.lA c.lBr false).block false true = c.py (i + 1) 2 2 false c.lA c.lBr false := by
  have b := c.bounds; have := c.d0; have := c.d1; have := c.y1; have := c.g1; have := c.y0; have := c.g0; have := c.n0
  have e : (c.py i 2 2 false c.lA c.lBr false).f1.back = i - 3 * c.t.mar := by
    show deep (c.n + i) (c.n + (3 * c.t.mar + 1)) = _
    rw [deep_at c _ _ (by omega) (by omega) (by omega) (by omega)]; omega
  have e1 : (c.py i 2 2 false c.lA c.lBr false).r1 true = (0, c.sB 2 false) :=
    B_wait c i _ (at1 c _ _ _ _ _ _ _) (by omega) (by omega) rfl (by show 0 < deep (c.n + i) (c.n + (c.t.depth + 1)); rw [deep_at c _ _ (by omega) (by omega) (by omega) (by omega)]; omega) (by rw [e]; omega) (.inr (by rw [e]; omega))
  exact block_of c _ 2 2 false c.lA c.lBr false false true (by omega) (by omega) rfl e1 (mv_none _ _ _ _ _ _ _ (.inl rfl)) (mv_none _ _ _ _ _ _ _ (.inl rfl))
theorem ph_refB_end : (c.py (3 * c.t.mar + c.t.depth) 2 2 false c.lA c.lBr false).block false true = c.py (3 * c.t.mar + c.t.depth + 1) 2 5 false c.lA c.lBr false := by
  have b := c.bounds; have := c.d0; have := c.d1; have := c.y1; have := c.g1; have := c.y0; have := c.g0; have := c.n0
  have e1 : (c.py (3 * c.t.mar + c.t.depth) 2 2 false c.lA c.lBr false).r1 true = (4, c.sB 5 false) :=
    B_back c _ rfl (by show _ ≤ deep (c.n + (3 * c.t.mar + c.t.depth)) (c.n + (3 * c.t.mar + 1)); rw [deep_at c _ _ (by omega) (by omega) (by omega) (by omega)]; omega)
  exact block_of c _ 2 2 false c.lA c.lBr false false true (by omega) (by omega) rfl e1 (mv_none _ _ _ _ _ _ _ (.inl rfl)) (mv_none _ _ _ _ _ _ _ (.inr rfl))
theorem ph_refB_over (h0 : 0 ≤ i) (h1 : i ≤ 1000) : (c.py i 2 5 false c.lA c.lBr false).block false true = c.py (i + 1) 2 5 false c.lA c.lBr false :=
  block_of c _ 2 5 false c.lA c.lBr false false true h0 h1 rfl (B_over c (c.py i 2 5 false c.lA c.lBr false).f1 5 (by decide) rfl) (mv_none _ _ _ _ _ _ _ (.inl rfl)) (mv_none _ _ _ _ _ _ _ (.inl rfl))
end

/-- The First has claimed. -/
def J1 (c : Tm) (i : Int) (p : Py) : Prop := ∃ s1 l0 sh, p = ⟨c.t, c.n + i, c.sA (if i ≤ 3 * c.t.depth then 3 else 4), s1, l0, c.lB1, sh⟩
/-- The First has claimed, and then the Second. -/
def J0 (c : Tm) (i : Int) (p : Py) : Prop := ∃ st, (st = 3 ∨ st = 4) ∧ p = c.py i st (if i ≤ 3 * c.t.depth + 1 then 3 else 4) true c.lA2 c.lB1 true
theorem A_goes (c : Tm) (i : Int) (f : F) (h0 : 2 * c.t.depth + 1 ≤ i) (hg : f.gout = i - 2 * c.t.depth) : ∃ m, (m = 0 ∨ m = 4) ∧ (c.sA (if i ≤ 3 * c.t.depth then 3 else 4)).next c.t f = (m, c.sA (if i + 1 ≤ 3 * c.t.depth then 3 else 4)) := by
  by_cases h : i ≤ 3 * c.t.depth
  · rw [if_pos h]
    by_cases h' : i + 1 ≤ 3 * c.t.depth
    · rw [if_pos h']
      exact ⟨0, .inl rfl, A_claiming c f (by omega) (by omega)⟩
    · rw [if_neg h']
      exact ⟨4, .inr rfl, A_claimed c f (by omega)⟩
  · rw [if_neg h, if_neg (by omega)]
    exact ⟨0, .inl rfl, A_over c f 4 (by decide)⟩
theorem J1.step {c : Tm} {i : Int} {p : Py} (h : J1 c i p) (h0 : 2 * c.t.depth + 1 ≤ i) (h1 : i ≤ 999) (a1 : Bool) : J1 c (i + 1) (p.block true a1) := by
  obtain ⟨s1, l0, sh, rfl⟩ := h
  have := c.d0; have := c.d1; have := c.n0; have := c.n1
  obtain ⟨m, hm, e⟩ := A_goes c i (Py.f0 ⟨c.t, c.n + i, c.sA (if i ≤ 3 * c.t.depth then 3 else 4), s1, l0, c.lB1, sh⟩) h0
    (by show deep (c.n + i) (c.n + (2 * c.t.depth + 1)) = _; rw [deep_at c _ _ (by omega) (by omega) (by omega) (by omega)]; omega)
  generalize hp : (⟨c.t, c.n + i, c.sA (if i ≤ 3 * c.t.depth then 3 else 4), s1, l0, c.lB1, sh⟩ : Py) = p at *
  have e0 : p.r0 true = (m, c.sA (if i + 1 ≤ 3 * c.t.depth then 3 else 4)) := by rw [← hp] at e ⊢; exact e
  have ex : p.x true = (l0, c.lB1, sh) := by
    unfold Py.x
    rw [e0, ← hp]; exact mv_none _ _ _ _ _ _ _ hm
  have ey : (p.y true a1).1 = c.lB1 := by
    unfold Py.y
    rw [ex]
    exact mv_keep _ _ _ _ _ _ _ (by show c.n + (c.t.depth + 1) ≠ 0; omega) (by show (1 : Int) ≠ 0; decide)
  refine ⟨(p.r1 a1).2, (p.y true a1).2.1, (p.y true a1).2.2, ?_⟩
  unfold Py.block
  rw [ey, e0]
  have e1 : p.t = c.t := by rw [← hp]
  have e2 : wrap64 (p.now + 1) = c.n + (i + 1) := by
    rw [← hp]
    show wrap64 (c.n + i + 1) = _
    rw [IntWalk.wrap64_in _ (by omega)]; omega
  rw [e1, e2]
theorem J1.start (c : Tm) : J1 c (2 * c.t.depth + 1) (c.py (2 * c.t.depth + 1) 3 2 false c.lA c.lB1 true) := by
  have := c.d0
  refine ⟨c.sB 2 false, c.lA, true, ?_⟩
  rw [if_pos (by omega)]; rfl
end Go.Proofs.Ytmhbkiabndookaa
