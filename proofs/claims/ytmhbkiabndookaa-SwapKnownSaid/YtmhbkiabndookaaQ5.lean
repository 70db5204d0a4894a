/- What is proved: how a play of two swaps ends (plain). No program in sight. -/
import Derived.Test.YtmhbkiabndookaaQ4
namespace Go.Proofs.Ytmhbkiabndookaa
open Go.RowKit

theorem A_claims (c : Tm) (i st : Int) (f : F) (hst : st = 3 ∨ st = 4) (h0 : 2 * c.t.depth + 1 ≤ i) (hg : f.gout = i - 2 * c.t.depth) : ∃ m st', (m = 0 ∨ m = 4) ∧ (st' = 3 ∨ st' = 4) ∧ (c.sA st).next c.t f = (m, c.sA st') := by
  rcases hst with rfl | rfl
  · by_cases h : f.gout < c.t.depth
    · exact ⟨0, 3, .inl rfl, .inl rfl, A_claiming c f h (by omega)⟩
    · exact ⟨4, 4, .inr rfl, .inr rfl, A_claimed c f (by omega)⟩
  · exact ⟨0, 4, .inl rfl, .inr rfl, A_over c f 4 (by decide)⟩
theorem r0_claims (c : Tm) (i st stB : Int) (kn : Bool) (l0 : Lg) (a0 : Bool) (hst : st = 3 ∨ st = 4) (h0 : 2 * c.t.depth + 1 ≤ i) (h1 : i ≤ 1000) :
    ∃ m st', (m = 0 ∨ m = 4) ∧ (st' = 3 ∨ st' = 4) ∧ (c.py i st stB kn l0 c.lB1 true).r0 a0 = (m, c.sA st') := by
  cases a0
  · exact ⟨0, st, .inl rfl, hst, rfl⟩
  · have := c.d0; have := c.d1
    exact A_claims c i st _ hst h0 (by show deep (c.n + i) (c.n + (2 * c.t.depth + 1)) = _; rw [deep_at c _ _ (by omega) (by omega) (by omega) (by omega)]; omega)
theorem J0.start (c : Tm) (a0 : Bool) : J0 c (2 * c.t.depth + 2) ((c.py (2 * c.t.depth + 1) 3 2 false c.lA c.lB1 true).block a0 true) := by
  have := c.d0; have := c.d1; have := c.n0
  obtain ⟨m, st', hm, hst', e0⟩ := r0_claims c (2 * c.t.depth + 1) 3 2 false c.lA a0 (.inl rfl) (by omega) (by omega)
  have e1 : (c.py (2 * c.t.depth + 1) 3 2 false c.lA c.lB1 true).r1 true = (2, c.sB 3 true) := B_claim c _ rfl rfl (by show (0 : Int) < _; omega)
  refine ⟨st', hst', ?_⟩
  rw [if_pos (by omega), block_of c _ 3 2 false c.lA c.lB1 true a0 true (by omega) (by omega) e0 e1 (mv_none _ _ _ _ _ _ _ hm) (mv_claim _ _ _ _ _ _ (by show 0 < c.n + 1; omega) rfl)]
  unfold Tm.py Tm.lA2
  rw [show 2 * c.t.depth + 1 + 1 = 2 * c.t.depth + 2 by omega]; rfl
theorem J0.step {c : Tm} {i : Int} {p : Py} (h : J0 c i p) (h0 : 2 * c.t.depth + 2 ≤ i) (h1 : i ≤ 999) (a0 : Bool) : J0 c (i + 1) (p.block a0 true) := by
  obtain ⟨st, hst, rfl⟩ := h
  have := c.d0; have := c.d1; have := c.n0
  obtain ⟨m, st', hm, hst', e0⟩ := r0_claims c i st (if i ≤ 3 * c.t.depth + 1 then 3 else 4) true c.lA2 a0 hst (by omega) (by omega)
  refine ⟨st', hst', ?_⟩
  have eg : (c.py i st (if i ≤ 3 * c.t.depth + 1 then 3 else 4) true c.lA2 c.lB1 true).f1.gout = i - 2 * c.t.depth - 1 := by
    show deep (c.n + i) (c.n + (2 * c.t.depth + 2)) = _
    rw [deep_at c _ _ (by omega) (by omega) (by omega) (by omega)]; omega
  have e1 : ∃ m1, (m1 = 0 ∨ m1 = 4) ∧ (c.py i st (if i ≤ 3 * c.t.depth + 1 then 3 else 4) true c.lA2 c.lB1 true).r1 true = (m1, c.sB (if i + 1 ≤ 3 * c.t.depth + 1 then 3 else 4) true) := by
    by_cases h : i ≤ 3 * c.t.depth + 1
    · rw [if_pos h] at eg ⊢
      by_cases h' : i + 1 ≤ 3 * c.t.depth + 1
      · rw [if_pos h']
        exact ⟨0, .inl rfl, B_claiming c _ (by rw [eg]; omega) (by rw [eg]; omega)⟩
      · rw [if_neg h']
        exact ⟨4, .inr rfl, B_claimed c _ (by rw [eg]; omega)⟩
    · rw [if_neg h, if_neg (by omega)]
      exact ⟨0, .inl rfl, B_over' c (c.py i st 4 true c.lA2 c.lB1 true).f1 4 (by decide)⟩
  obtain ⟨m1, hm1, e1⟩ := e1
  exact block_of c i st _ true c.lA2 c.lB1 true a0 true (by omega) (by omega) e0 e1 (mv_none _ _ _ _ _ _ _ hm) (mv_none _ _ _ _ _ _ _ hm1)

/-! ### Runs -/
theorem run_from {p : Py} {a0 a1 : Nat → Bool} (X : Nat → Py → Prop) (a b : Nat) (ha : X a (p.run a0 a1 a)) (h : ∀ k q, a ≤ k → k < b → X k q → X (k + 1) (q.block (a0 k) (a1 k))) : ∀ k, a ≤ k → k ≤ b → X k (p.run a0 a1 k) := by
  intro k hk hb
  induction k with
  | zero =>
    have e : a = 0 := by omega
    subst e; exact ha
  | succ k ih =>
    by_cases e : a = k + 1
    · subst e; exact ha
    · exact h k _ (by omega) (by omega) (ih (by omega) (by omega))
/-- A stretch of blocks in which all but the height stays. -/
theorem run_stay {p : Py} {a0 a1 : Nat → Bool} (c : Tm) (stA stB : Int) (kn : Bool) (l0 l1 : Lg) (sh : Bool) (a b : Nat) (hab : a ≤ b) (ha : p.run a0 a1 a = c.py a stA stB kn l0 l1 sh)
    (h : ∀ k : Nat, a ≤ k → k < b → (c.py k stA stB kn l0 l1 sh).block (a0 k) (a1 k) = c.py ((k : Int) + 1) stA stB kn l0 l1 sh) : p.run a0 a1 b = c.py b stA stB kn l0 l1 sh :=
  run_from (fun k q => q = c.py k stA stB kn l0 l1 sh) a b ha (fun k q h1 h2 h3 => by subst h3; rw [h k h1 h2]; rfl) b hab (Nat.le_refl _)
theorem run_one {p q r : Py} {a0 a1 : Nat → Bool} (a : Nat) (ha : p.run a0 a1 a = q) (h : q.block (a0 a) (a1 a) = r) : p.run a0 a1 (a + 1) = r := by
  show (p.run a0 a1 a).block (a0 a) (a1 a) = r
  rw [ha, h]
end Go.Proofs.Ytmhbkiabndookaa
