/- What is proved: the plain law under AmountPieces (chapter 2): totals of pieces, of a list turned about, of one thing many times. No condition. -/
import Derived.Test.YtigpdnbcjmcfoaaB4
namespace Go.Proofs.Ytigpdnbcjmcfoaa
open Go.RowKit Sx

theorem allA_append (l k : List Int) : allA (l ++ k) = (allA l && allA k) := by unfold allA; exact List.all_append ..
theorem totV_cases (l : List Int) : (allA l = true ∧ 0 ≤ l.sum ∧ l.sum ≤ 1125899906842624 ∧ totV l = (l.sum, 0)) ∨ (¬ (allA l = true ∧ l.sum ≤ 1125899906842624) ∧ totV l = (0, 15)) := by
  unfold totV
  by_cases h : allA l = true ∧ l.sum ≤ 1125899906842624
  · rw [if_pos h]; exact .inl ⟨h.1, sum_nonneg h.1, h.2, rfl⟩
  · rw [if_neg h]; exact .inr ⟨h, rfl⟩
/-- What the statement says of two pieces. -/
def Piece (a0 e0 e1 e2 a3 e3 : Int) : Prop := (e0 = 0 ∧ e1 = 0 ∧ e2 = 0 ∧ e3 = 0 ∧ a3 = a0) ∨ (e0 = 15 ∧ e1 = 15) ∨ (e0 = 15 ∧ e1 = 0 ∧ e2 = 15) ∨ (e0 = 15 ∧ e1 = 0 ∧ e2 = 0 ∧ e3 = 15)
theorem pieces (l : List Int) (c : Nat) : Piece (totV l).1 (totV l).2 (totV (l.take c)).2 (totV (l.drop c)).2 (sumV (totV (l.take c)).1 (totV (l.drop c)).1).1 (sumV (totV (l.take c)).1 (totV (l.drop c)).1).2 := by
  have hs : (l.take c).sum + (l.drop c).sum = l.sum := by rw [← List.sum_append_int, List.take_append_drop]
  have ha : allA l = (allA (l.take c) && allA (l.drop c)) := by rw [← allA_append, List.take_append_drop]
  rcases totV_cases (l.take c) with ⟨h1, h2, h3, h4⟩ | ⟨h1, h4⟩
  · rcases totV_cases (l.drop c) with ⟨k1, k2, k3, k4⟩ | ⟨k1, k4⟩
    · rw [h1, k1] at ha
      rw [h4, k4]
      rcases totV_cases l with ⟨m1, m2, m3, m4⟩ | ⟨m1, m4⟩
      · rw [m4]
        left
        have : sumV (l.take c).sum (l.drop c).sum = ((l.take c).sum + (l.drop c).sum, 0) := if_pos ⟨⟨h2, h3⟩, ⟨k2, k3⟩, by omega, by omega⟩
        simp only [this, hs, and_self]
      · rw [m4]
        have hno : ¬ l.sum ≤ 1125899906842624 := fun h => m1 ⟨ha, h⟩
        have : sumV (l.take c).sum (l.drop c).sum = (0, 15) := if_neg (fun h => hno (by have := h.2.2.2; omega))
        right; right; right
        simp only [this, and_self]
    · rw [h4, k4]
      rcases totV_cases l with ⟨m1, m2, m3, m4⟩ | ⟨m1, m4⟩
      · exfalso
        rw [ha, Bool.and_eq_true] at m1
        have := sum_nonneg m1.1
        have := sum_nonneg m1.2
        exact k1 ⟨m1.2, by omega⟩
      · rw [m4]; right; right; left; exact ⟨rfl, rfl, rfl⟩
  · rw [h4]
    rcases totV_cases l with ⟨m1, m2, m3, m4⟩ | ⟨m1, m4⟩
    · exfalso
      rw [ha, Bool.and_eq_true] at m1
      have := sum_nonneg m1.1
      have := sum_nonneg m1.2
      exact h1 ⟨m1.1, by omega⟩
    · rw [m4]; right; left; exact ⟨rfl, rfl⟩
theorem totV_reverse (l : List Int) : totV l.reverse = totV l := by
  have h1 : allA l.reverse = allA l := by unfold allA; exact List.all_reverse
  have h2 : l.reverse.sum = l.sum := List.sum_reverse_int l
  unfold totV; rw [h1, h2]
theorem sum_rep (n : Nat) (x : Int) : (List.replicate n x).sum = x * n := by
  induction n with
  | zero => simp
  | succ n ih => rw [List.replicate_succ, List.sum_cons, ih, Int.natCast_add, Int.mul_add]; simp; omega
theorem many (n : Nat) (x : Int) (hx : isA x) : timesV x n = totV (List.replicate n x) := by
  unfold timesV totV
  have h1 : allA (List.replicate n x) = true := by
    unfold allA
    rw [List.all_eq_true]
    intro y hy
    rw [List.eq_of_mem_replicate hy]
    simpa using hx
  rw [h1, sum_rep]
  by_cases h : x * (n : Int) ≤ 1125899906842624
  · rw [if_pos ⟨hx, by omega, h⟩, if_pos ⟨rfl, h⟩]
  · rw [if_neg (fun q => h q.2.2), if_neg (fun q => h q.2)]
end Go.Proofs.Ytigpdnbcjmcfoaa
