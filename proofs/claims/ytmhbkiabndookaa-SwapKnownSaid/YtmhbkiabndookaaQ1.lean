/- What is proved: the play of two swaps of layer 23's statements, in plain words: its blocks, and what each of the two asks for. No program in sight. -/
import Derived.Test.YtmhbkiabndookaaG2
namespace Go.Proofs.Ytmhbkiabndookaa
open Go.RowKit

def h9 : Nat → Int := fun i => if i = 0 then 9 else 0
/-- A leg of a play. -/
structure Lg where
  made : Int
  spent : Int
  by_ : Int
/-- A play of two swaps. -/
structure Py where
  t : T
  now : Int
  s0 : S
  s1 : S
  l0 : Lg
  l1 : Lg
  shown : Bool
def deep (now x : Int) : Int := if x = 0 then 0 else wrap64 (wrap64 (now - x) + 1)
def factsOf (now who : Int) (mine other : Lg) (shown : Bool) : F :=
  ⟨now, now, now, deep now mine.made, deep now other.made, (if other.by_ = who + 1 then deep now other.spent else 0),
    (if mine.by_ = who + 1 then 0 else if 0 < mine.by_ then deep now mine.spent else 0), (if mine.by_ = who + 1 then deep now mine.spent else 0), shown, h9⟩
def movesOf (who mv nx till : Int) (mine other : Lg) (shown : Bool) : Lg × Lg × Bool :=
  if mv = 1 ∧ mine.made = 0 then ({ mine with made := nx }, other, shown)
  else if mv = 2 ∧ 0 < other.made ∧ other.by_ = 0 then (mine, { other with spent := nx, by_ := who + 1 }, true)
  else if mv = 3 ∧ 0 < mine.made ∧ mine.by_ = 0 ∧ till ≤ nx then ({ mine with spent := nx, by_ := who + 1 }, other, shown)
  else (mine, other, shown)
def Py.f0 (p : Py) : F := factsOf p.now 0 p.l0 p.l1 p.shown
def Py.f1 (p : Py) : F := factsOf p.now 1 p.l1 p.l0 p.shown
def Py.r0 (p : Py) (a : Bool) : Int × S := if a then p.s0.next p.t p.f0 else (0, p.s0)
def Py.r1 (p : Py) (a : Bool) : Int × S := if a then p.s1.next p.t p.f1 else (0, p.s1)
def Py.x (p : Py) (a0 : Bool) : Lg × Lg × Bool := movesOf 0 (p.r0 a0).1 (wrap64 (p.now + 1)) (p.r0 a0).2.d.pz p.l0 p.l1 p.shown
def Py.y (p : Py) (a0 a1 : Bool) : Lg × Lg × Bool := movesOf 1 (p.r1 a1).1 (wrap64 (p.now + 1)) (p.r1 a1).2.d.pz (p.x a0).2.1 (p.x a0).1 (p.x a0).2.2
/-- The play behind a block (a0, a1: who is awake). -/
def Py.block (p : Py) (a0 a1 : Bool) : Py := ⟨p.t, wrap64 (p.now + 1), (p.r0 a0).2, (p.r1 a1).2, (p.y a0 a1).2.1, (p.y a0 a1).1, (p.y a0 a1).2.2⟩
def Py.run (p : Py) (a0 a1 : Nat → Bool) : Nat → Py
  | 0 => p
  | i + 1 => (Py.run p a0 a1 i).block (a0 i) (a1 i)

theorem next_of {t : T} {s s' : S} {f : F} {m q : Int} (e : s.seen f = s') (h : stepM' t s' f (safeB t s' f) = (m, q)) : s.next t f = (m, { s' with st := q }) := by
  rw [next_pair, e, h]

/-- The times of a play. -/
structure Tm where
  t : T
  n : Int
  P : Int
  d0 : 1 ≤ t.depth
  d1 : t.depth ≤ 6
  y0 : 0 ≤ t.delay
  y1 : t.delay ≤ 6
  g0 : 0 ≤ t.lag
  g1 : t.lag ≤ 6
  v0 : 1 ≤ t.fast
  v1 : t.fast ≤ 4
  n0 : 1 ≤ n
  n1 : n ≤ 1000
  hP : P = t.fast * (3 * t.mar)
theorem Tm.bounds (c : Tm) : c.t.mar = c.t.depth + c.t.delay + c.t.lag + 1 ∧ 3 * c.t.mar ≤ c.P ∧ c.P ≤ 12 * c.t.mar ∧ c.t.long = c.P + c.t.mar := by
  have := c.d0; have := c.y0; have := c.g0; have := c.v0; have := c.v1
  have hm : 0 ≤ 3 * c.t.mar := by unfold T.mar; omega
  have h1 : 1 * (3 * c.t.mar) ≤ c.t.fast * (3 * c.t.mar) := Int.mul_le_mul_of_nonneg_right (by omega) hm
  have h2 : c.t.fast * (3 * c.t.mar) ≤ 4 * (3 * c.t.mar) := Int.mul_le_mul_of_nonneg_right (by omega) hm
  rw [c.hP]
  refine ⟨rfl, by omega, by omega, rfl⟩
def Tm.dA (c : Tm) : D := ⟨1, 1, 0, 0, c.n + c.t.long, 1, 0, c.n + 3 * c.t.mar, fun _ => 0, 0⟩
def Tm.dB (c : Tm) : D := ⟨1, 2, 1, 0, c.n + 3 * c.t.mar, 0, 0, c.n + c.t.long, fun _ => 0, 0⟩
def Tm.sA (c : Tm) (st : Int) : S := ⟨c.dA, st, true, h9⟩
def Tm.sB (c : Tm) (st : Int) (kn : Bool) : S := ⟨c.dB, st, kn, if kn then h9 else fun _ => 0⟩

theorem clk_all (a i : Int) (h : i = 0 ∨ i = 1) : clk a a a i = a := by
  unfold clk
  rcases h with rfl | rfl <;> simp
theorem mx0_pos {v : Int} (h : 0 ≤ v) : mx0 v = v := by unfold mx0; split <;> omega
theorem mx0_neg {v : Int} (h : v ≤ 0) : mx0 v = 0 := by unfold mx0; split <;> omega
theorem leftA (c : Tm) (i : Int) (h0 : 0 ≤ i) (h1 : i ≤ 1000) : c.dA.leftP (c.n + i) (c.n + i) (c.n + i) = mx0 (c.t.long - i) := by
  have := c.bounds; have := c.d1; have := c.y1; have := c.g1; have := c.n0; have := c.n1; have := c.d0; have := c.y0; have := c.g0
  unfold D.leftP Tm.dA
  simp only
  rw [clk_all _ _ (.inl rfl), IntWalk.wrap64_in _ (by omega)]
  congr 1; omega
theorem leftB (c : Tm) (i : Int) (h0 : 0 ≤ i) (h1 : i ≤ 1000) : c.dB.leftP (c.n + i) (c.n + i) (c.n + i) = mx0 (3 * c.t.mar - i) := by
  have := c.bounds; have := c.d1; have := c.y1; have := c.g1; have := c.n0; have := c.n1; have := c.d0; have := c.y0; have := c.g0
  unfold D.leftP Tm.dB
  simp only
  rw [clk_all _ _ (.inr rfl), IntWalk.wrap64_in _ (by omega)]
  congr 1; omega
theorem safeA (c : Tm) (i : Int) (h0 : 0 ≤ i) (h1 : i ≤ 2 * c.t.mar) : c.dA.safe c.t (c.n + i) (c.n + i) (c.n + i) = 0 := by
  have := c.bounds; have := c.d1; have := c.y1; have := c.g1; have := c.n0; have := c.n1; have := c.d0; have := c.y0; have := c.g0
  refine safe_first_no _ _ _ _ _ rfl ?_
  unfold D.leftG Tm.dA
  simp only
  rw [clk_all _ _ (.inr rfl), IntWalk.wrap64_in _ (by omega), mx0_pos (by omega)]
  omega
theorem gB (c : Tm) (i : Int) (h0 : 0 ≤ i) (h1 : i ≤ 1000) : c.dB.leftG (c.n + i) (c.n + i) (c.n + i) = mx0 (c.t.long - i) := by
  have := c.bounds; have := c.d1; have := c.y1; have := c.g1; have := c.n0; have := c.n1; have := c.d0; have := c.y0; have := c.g0
  unfold D.leftG Tm.dB
  simp only
  rw [clk_all _ _ (.inl rfl), IntWalk.wrap64_in _ (by omega)]
  congr 1; omega
theorem safeB_yes (c : Tm) (i : Int) (h0 : 0 ≤ i) (h1 : i ≤ c.P) : c.dB.safe c.t (c.n + i) (c.n + i) (c.n + i) = 0 := by
  have := c.bounds; have := c.d1; have := c.y1; have := c.g1; have := c.n0; have := c.n1; have := c.d0; have := c.y0; have := c.g0
  refine safe_second_no _ _ _ _ _ (show ¬ (2 : Int) = 1 by decide) ?_
  rw [gB c i h0 (by omega), leftB c i h0 (by omega), mx0_pos (by omega)]
  by_cases h : i ≤ 3 * c.t.mar
  · rw [mx0_pos (by omega)]
    have e : (3 * c.t.mar - i) * c.t.fast = c.P - i * c.t.fast := by rw [Int.sub_mul, c.hP, Int.mul_comm (3 * c.t.mar)]
    have hi : i * 1 ≤ i * c.t.fast := Int.mul_le_mul_of_nonneg_left c.v0 h0
    have hi' : i * c.t.fast ≤ i * 4 := Int.mul_le_mul_of_nonneg_left c.v1 h0
    rw [e, IntWalk.wrap64_in (c.P - i * c.t.fast) (by omega), IntWalk.wrap64_in _ (by omega)]
    omega
  · rw [mx0_neg (by omega), Int.zero_mul, IntWalk.wrap64_in 0 (by omega), IntWalk.wrap64_in _ (by omega)]
    omega
theorem safeB_no (c : Tm) (i : Int) (h0 : c.P < i) (h1 : i ≤ 1000) : c.dB.safe c.t (c.n + i) (c.n + i) (c.n + i) = 23 := by
  have := c.bounds; have := c.d1; have := c.y1; have := c.g1; have := c.n0; have := c.n1; have := c.d0; have := c.y0; have := c.g0
  refine safe_second_yes _ _ _ _ _ (show ¬ (2 : Int) = 1 by decide) ?_
  rw [gB c i (by omega) h1, leftB c i (by omega) h1, mx0_neg (v := 3 * c.t.mar - i) (by omega), Int.zero_mul, IntWalk.wrap64_in 0 (by omega), IntWalk.wrap64_in _ (by omega)]
  unfold mx0; split <;> omega
end Go.Proofs.Ytmhbkiabndookaa
