/- What is proved: which moves layer 23's Next asks for, and when (plain); neq of deals and secrets. No condition. -/
import Derived.Test.YtmhbkiabndookaaV9
import Derived.Test.YtmhbkiabndookaaG1
namespace Go.Proofs.Ytmhbkiabndookaa
open Go.RowKit

/-- A move, and the state behind it, with what must be so for it (kn: is the secret known behind it?). -/
inductive Out (t : T) (s : S) (f : F) (tm kn : Bool) : Int → Int → Prop
  | wait (q : Int) (h : stB q = false) : Out t s f tm kn 0 q
  | rest (h : stB s.st = true) : Out t s f tm kn 0 s.st
  | fin (q : Int) (h : stB q = true) (h' : stB s.st = false) : Out t s f tm kn 4 q
  | lock1 (h1 : tm = true) (h2 : f.pin < 1) (h3 : s.st = 2) : Out t s f tm kn 1 2
  | lock2 (h1 : tm = true) (h2 : f.pin < 1) (h3 : (s.st == 2) = false) (h4 : s.d.role = 1) : Out t s f tm kn 1 2
  | lock3 (h1 : tm = true) (h2 : f.pin < 1) (h3 : (s.st == 2) = false) (h4 : (s.d.role == 1) = false) (h5 : t.depth ≤ f.gin) : Out t s f tm kn 1 2
  | claim1 (h1 : s.st = 3) : Out t s f tm kn 2 3
  | claim2 (h1 : (s.st == 3) = false) (h2 : kn = true) (h3 : (s.d.role != 1) = true) : Out t s f tm kn 2 3
  | claim3 (h1 : (s.st == 3) = false) (h2 : kn = true) (h3 : (s.d.role != 1) = false) (h4 : tm = true) (h5 : t.depth ≤ f.gin) : Out t s f tm kn 2 3
  | refund (h1 : s.d.leftP f.a f.b f.c = 0) (h2 : 0 < f.pin) (h3 : f.lost < 1) (h4 : f.back < 1) (h5 : s.st = 2) : Out t s f tm kn 3 2

theorem stB_not {q : Int} (h4 : q ≠ 4) (h5 : q ≠ 5) (h6 : q ≠ 6) : stB q = false := by unfold stB; simp [h4, h5, h6]
theorem step_goes (t : T) (s : S) (f : F) (tm : Bool) (w : World) : Calls Try.prog 15 #[.int .i64 s.st, .int .i64 (stepM' t s f tm).2] w (Ret (.bool true) w) := by
  unfold stepM'
  by_cases h1 : s.st = 1
  · rw [if_pos h1, h1]
    unfold agreedM
    (repeat' split)
    · exact goes_1_2 w
    · exact goes_1_6 w
    · exact goes_1_2 w
    · exact goes_1_1 w
  rw [if_neg h1]
  by_cases h2 : s.st = 2
  · rw [if_pos h2, h2]
    unfold lockedM
    (repeat' split)
    · exact goes_2_5 w
    · exact goes_2_3 w
    · exact goes_2_2 w
    · exact goes_2_2 w
    · exact goes_2_2 w
  rw [if_neg h2]
  by_cases h3 : s.st = 3
  · rw [if_pos h3, h3]
    unfold claimingM
    (repeat' split)
    · exact goes_3_4 w
    · exact goes_3_3 w
    · exact goes_3_3 w
  rw [if_neg h3]
  by_cases h4 : s.st = 4
  · rw [h4]; exact goes_4_4 w
  by_cases h5 : s.st = 5
  · rw [h5]; exact goes_5_5 w
  by_cases h6 : s.st = 6
  · rw [h6]; exact goes_6_6 w
  exact goes_out s.st (by omega) w

theorem step_out (t : T) (s : S) (f : F) (tm : Bool) : Out t s f tm s.kn (stepM' t s f tm).1 (stepM' t s f tm).2 := by
  unfold stepM'
  by_cases h1 : s.st = 1
  · have e2 : (s.st == 2) = false := by simp [h1]
    have e0 : stB s.st = false := by rw [h1]; rfl
    rw [if_pos h1]
    unfold agreedM
    by_cases a : 0 < f.pin
    · rw [if_pos a]; exact .wait 2 rfl
    rw [if_neg a]
    cases htm : tm
    · rw [if_pos rfl]; exact .fin 6 rfl e0
    rw [if_neg (by decide)]
    by_cases r : s.d.role = 1
    · rw [if_pos (.inl r)]; exact .lock2 rfl (by omega) e2 r
    by_cases g : t.depth ≤ f.gin
    · rw [if_pos (.inr g)]; exact .lock3 rfl (by omega) e2 (by simpa using r) g
    · rw [if_neg (fun h => h.elim r g)]; exact .wait 1 rfl
  rw [if_neg h1]
  by_cases h2 : s.st = 2
  · have e3 : (s.st == 3) = false := by simp [h2]
    have e0 : stB s.st = false := by rw [h2]; rfl
    rw [if_pos h2]
    unfold lockedM
    by_cases a : t.depth ≤ f.back
    · rw [if_pos a]; exact .fin 5 rfl e0
    rw [if_neg a]
    by_cases b : s.kn = true ∧ (s.d.role ≠ 1 ∨ t.depth ≤ f.gin ∧ tm = true)
    · rw [if_pos b]
      obtain ⟨hk, hb⟩ := b
      by_cases r : s.d.role = 1
      · obtain ⟨g, htm⟩ := hb.resolve_left (fun h => h r)
        exact .claim3 e3 hk (by simpa using r) htm g
      · exact .claim2 e3 hk (by simpa using r)
    rw [if_neg b]
    by_cases c : (f.back < 1 ∧ f.lost < 1) ∧ 0 < f.pin ∧ s.d.leftP f.a f.b f.c = 0
    · rw [if_pos c]; exact .refund c.2.2 c.2.1 c.1.2 c.1.1 h2
    rw [if_neg c]
    by_cases d : (f.back < 1 ∧ f.lost < 1) ∧ f.pin < 1 ∧ tm = true
    · rw [if_pos d]; exact .lock1 d.2.2 d.2.1 h2
    · rw [if_neg d]; exact .wait 2 rfl
  rw [if_neg h2]
  by_cases h3 : s.st = 3
  · rw [if_pos h3]
    unfold claimingM
    by_cases a : t.depth ≤ f.gout
    · rw [if_pos a]; exact .fin 4 rfl (by rw [h3]; rfl)
    rw [if_neg a]
    by_cases b : f.gout < 1
    · rw [if_pos b]; exact .claim1 h3
    · rw [if_neg b]; exact .wait 3 rfl
  rw [if_neg h3]
  cases h : stB s.st
  · exact .wait _ h
  · exact .rest h

theorem neq_deal (d : D) (w : World) : (binOp .neq 29 (.agg d.cells) (.agg d.cells)).run Try.prog w = .ok (.bool false) w := by
  have e := eq_hash d.h
  simp [D.cells, go_sem, e]
theorem neq_secret (h : Nat → Int) (w : World) : (binOp .neq 27 (.agg (hcells h)) (.agg (hcells h))).run Try.prog w = .ok (.bool false) w := by
  have e := eq_hash10 h
  simp only [hcells, binOp, Op.equal, Op.maxDepth]
  rw [Sem.run_bind, e]
  rfl
theorem neg29 (x y : Operand) (xs ys : Array Value) (w : World) : (eqGuard .neq 29 x y (.agg xs) (.agg ys)).run Try.prog w = .ok () w := by kernel_rfl
theorem neg27 (x y : Operand) (xs ys : Array Value) (w : World) : (eqGuard .neq 27 x y (.agg xs) (.agg ys)).run Try.prog w = .ok () w := by kernel_rfl
theorem neq29 (w : World) (ρ : Operand → Value) (x y : Operand) (dst : Option Tmp) (r ty : TypeId) (pos : String) (af : Array Edge) (gd : Option (Nat × Bool)) (h1 : IsD (ρ x)) (h2 : ρ y = ρ x) :
    (execOp ρ ⟨dst, .binOp .neq 29 x y r, ty, pos, af, gd⟩).run Try.prog w = .ok (.value (.bool false)) w := by
  obtain ⟨d, hd⟩ := h1
  unfold execOp
  simp only [Sem.run_bind, h2, hd, neg29, Result.andThen_ok, neq_deal, Sem.run_pure]
theorem neq27 (w : World) (ρ : Operand → Value) (x y : Operand) (dst : Option Tmp) (r ty : TypeId) (pos : String) (af : Array Edge) (gd : Option (Nat × Bool)) (h1 : IsH (ρ x)) (h2 : ρ y = ρ x) :
    (execOp ρ ⟨dst, .binOp .neq 27 x y r, ty, pos, af, gd⟩).run Try.prog w = .ok (.value (.bool false)) w := by
  obtain ⟨d, hd⟩ := h1
  unfold execOp
  simp only [Sem.run_bind, h2, hd, neg27, Result.andThen_ok, neq_secret, Sem.run_pure]
attribute [go_sem ↓] neq29 neq27
end Go.Proofs.Ytmhbkiabndookaa
