/- What is proved: a play of two swaps passes all that layer 23's SwapEnds looks at (plain). No program in sight. -/
import Derived.Test.YtmhbkiabndookaaQ6
namespace Go.Proofs.Ytmhbkiabndookaa
open Go.RowKit

theorem run_congr (p : Py) {a0 a1 b0 b1 : Nat → Bool} : ∀ n : Nat, (∀ k, k < n → a0 k = b0 k ∧ a1 k = b1 k) → p.run a0 a1 n = p.run b0 b1 n
  | 0, _ => rfl
  | n + 1, h => by
    show (p.run a0 a1 n).block _ _ = (p.run b0 b1 n).block _ _
    rw [run_congr p n (fun k hk => h k (by omega)), (h n (by omega)).1, (h n (by omega)).2]
/-- What SwapEnds asks of the one who goes on. -/
structure Fin (s : S) (paid got : Lg) (who awake : Int) : Prop where
  over : stB s.st = true
  got_ : paid.by_ = who + 1 → got.by_ = awake + 1
  claimed : s.st = 4 → got.by_ = awake + 1
  refunded : s.st = 5 → paid.by_ = awake + 1
  aborted : s.st = 6 → ¬ 0 < paid.made

section
variable (c : Tm) (sleeps : Int) (lng : Nat) (hl : (lng : Int) = c.t.long + 4 * c.t.depth + 10)
include hl
theorem both_claim : (c.begin.run (fun _ => true) (fun _ => true) lng).s0.st = 4 ∧ (c.begin.run (fun _ => true) (fun _ => true) lng).s1.st = 4 := by
  have b := c.bounds; have := c.d0; have := c.d1; have := c.y1; have := c.g1; have := c.y0; have := c.g0
  obtain ⟨dn, hd⟩ := Int.eq_ofNat_of_zero_le (show 0 ≤ c.t.depth by omega)
  obtain ⟨s1, l0, sh, e⟩ := to_J1 c (fun _ => true) (fun _ => true) dn hd.symm rfl rfl rfl (fun _ _ => rfl) lng (by omega) (by omega)
  obtain ⟨st, _, e'⟩ := to_J0 c (fun _ => true) (fun _ => true) dn hd.symm rfl rfl rfl (fun _ _ => rfl) lng (by omega) (by omega)
  refine ⟨?_, ?_⟩
  · rw [e, if_neg (by omega)]; rfl
  · rw [e', if_neg (by omega)]; rfl
/-- The Second sleeps (from some block on). -/
theorem ends_1 (p : Py) (hp : p = c.begin.run (fun _ => true) (fun k => !decide (sleeps ≤ (k : Int))) lng) : Fin p.s0 p.l0 p.l1 1 0 ∧ ((lng : Int) ≤ sleeps → p.s0.st = 4 ∧ p.s1.st = 4) := by
  have b := c.bounds; have := c.d0; have := c.d1; have := c.y1; have := c.g1; have := c.y0; have := c.g0
  obtain ⟨dn, hd⟩ := Int.eq_ofNat_of_zero_le (show 0 ≤ c.t.depth by omega)
  by_cases hs : sleeps ≤ c.t.depth
  · have e := to_refA c (fun _ => true) (fun k => !decide (sleeps ≤ (k : Int))) dn hd.symm (fun _ => rfl) (fun k hk => by simp; omega) lng (by omega) (by omega)
    rw [← hp] at e
    subst e
    exact ⟨⟨rfl, fun h => absurd h (by show ¬ (1 : Int) = 1 + 1; decide), fun h => absurd h (by show ¬ (5 : Int) = 4; decide), fun _ => rfl, fun h => absurd h (by show ¬ (5 : Int) = 6; decide)⟩, fun h => by omega⟩
  · have e : J1 c lng p := by
      rw [hp]
      exact to_J1 c (fun _ => true) (fun k => !decide (sleeps ≤ (k : Int))) dn hd.symm rfl (by simp; omega) rfl (fun _ _ => rfl) lng (by omega) (by omega)
    constructor
    · obtain ⟨s1, l0, sh, e⟩ := e
      rw [if_neg (by omega)] at e
      subst e
      exact ⟨rfl, fun _ => rfl, fun _ => rfl, fun h => absurd h (by show ¬ (4 : Int) = 5; decide), fun h => absurd h (by show ¬ (4 : Int) = 6; decide)⟩
    · intro h
      have e2 := run_congr c.begin (a0 := fun _ => true) (b0 := fun _ => true) (a1 := fun k => !decide (sleeps ≤ (k : Int))) (b1 := fun _ => true) lng (fun k hk => ⟨rfl, by simp; omega⟩)
      rw [hp, e2]
      exact both_claim c lng hl
/-- The First sleeps (from some block on). -/
theorem ends_0 (p : Py) (hp : p = c.begin.run (fun k => !decide (sleeps ≤ (k : Int))) (fun _ => true) lng) : Fin p.s1 p.l1 p.l0 0 1 ∧ ((lng : Int) ≤ sleeps → p.s0.st = 4 ∧ p.s1.st = 4) := by
  have b := c.bounds; have := c.d0; have := c.d1; have := c.y1; have := c.g1; have := c.y0; have := c.g0
  obtain ⟨dn, hd⟩ := Int.eq_ofNat_of_zero_le (show 0 ≤ c.t.depth by omega)
  by_cases hs : sleeps ≤ 0
  · have e := to_abort c (fun k => !decide (sleeps ≤ (k : Int))) (fun _ => true) (fun _ => rfl) (fun k => by simp; omega) lng (by omega) (by omega)
    rw [← hp] at e
    subst e
    exact ⟨⟨rfl, fun h => absurd h (by show ¬ (0 : Int) = 0 + 1; decide), fun h => absurd h (by show ¬ (6 : Int) = 4; decide), fun h => absurd h (by show ¬ (6 : Int) = 5; decide), fun _ => by show ¬ (0 : Int) < 0; decide⟩, fun h => by omega⟩
  by_cases hs' : sleeps ≤ 2 * c.t.depth
  · have e := to_refB c (fun k => !decide (sleeps ≤ (k : Int))) (fun _ => true) dn hd.symm (by simp; omega) (fun _ => rfl) (fun k hk => by simp; omega) lng (by omega) (by omega)
    rw [← hp] at e
    subst e
    exact ⟨⟨rfl, fun h => absurd h (by show ¬ (2 : Int) = 0 + 1; decide), fun h => absurd h (by show ¬ (5 : Int) = 4; decide), fun _ => rfl, fun h => absurd h (by show ¬ (5 : Int) = 6; decide)⟩, fun h => by omega⟩
  · have e : J0 c lng p := by
      rw [hp]
      exact to_J0 c (fun k => !decide (sleeps ≤ (k : Int))) (fun _ => true) dn hd.symm (by simp; omega) rfl (by simp; omega) (fun _ _ => rfl) lng (by omega) (by omega)
    constructor
    · obtain ⟨st, _, e⟩ := e
      rw [if_neg (by omega)] at e
      subst e
      exact ⟨rfl, fun _ => rfl, fun _ => rfl, fun h => absurd h (by show ¬ (4 : Int) = 5; decide), fun h => absurd h (by show ¬ (4 : Int) = 6; decide)⟩
    · intro h
      have e2 := run_congr c.begin (a1 := fun _ => true) (b1 := fun _ => true) (a0 := fun k => !decide (sleeps ≤ (k : Int))) (b0 := fun _ => true) lng (fun k hk => ⟨by simp; omega, rfl⟩)
      rw [hp, e2]
      exact both_claim c lng hl
end
end Go.Proofs.Ytmhbkiabndookaa
