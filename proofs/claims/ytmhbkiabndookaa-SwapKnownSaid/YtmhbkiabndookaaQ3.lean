/- What is proved: the blocks of a play of two swaps, phase by phase (plain). No program in sight. -/
import Derived.Test.YtmhbkiabndookaaQ2
namespace Go.Proofs.Ytmhbkiabndookaa
open Go.RowKit

def Tm.py (c : Tm) (i stA stB : Int) (kn : Bool) (l0 l1 : Lg) (sh : Bool) : Py := ⟨c.t, c.n + i, c.sA stA, c.sB stB kn, l0, l1, sh⟩
def lg0 : Lg := ⟨0, 0, 0⟩
def Tm.lA (c : Tm) : Lg := ⟨c.n + 1, 0, 0⟩
def Tm.lA2 (c : Tm) : Lg := ⟨c.n + 1, c.n + (2 * c.t.depth + 2), 2⟩
def Tm.lAr (c : Tm) : Lg := ⟨c.n + 1, c.n + (c.t.long + 1), 1⟩
def Tm.lB (c : Tm) : Lg := ⟨c.n + (c.t.depth + 1), 0, 0⟩
def Tm.lB1 (c : Tm) : Lg := ⟨c.n + (c.t.depth + 1), c.n + (2 * c.t.depth + 1), 1⟩
def Tm.lBr (c : Tm) : Lg := ⟨c.n + (c.t.depth + 1), c.n + (3 * c.t.mar + 1), 2⟩
theorem deep_0 (x : Int) : deep x 0 = 0 := if_pos rfl
theorem deep_at (c : Tm) (i k : Int) (h0 : 0 ≤ i) (h1 : i ≤ 1000) (h2 : 0 ≤ k) (h3 : k ≤ 1000) : deep (c.n + i) (c.n + k) = i - k + 1 := by
  have := c.n0; have := c.n1
  unfold deep
  rw [if_neg (by omega), IntWalk.wrap64_in (c.n + i - (c.n + k)) (by omega), IntWalk.wrap64_in _ (by omega)]
  omega
theorem mv_none (who mv nx till : Int) (l m : Lg) (sh : Bool) (h : mv = 0 ∨ mv = 4) : movesOf who mv nx till l m sh = (l, m, sh) := by
  unfold movesOf
  rw [if_neg (by omega), if_neg (by omega), if_neg (by omega)]
theorem mv_lock (who nx till : Int) (l m : Lg) (sh : Bool) (h : l.made = 0) : movesOf who 1 nx till l m sh = ({ l with made := nx }, m, sh) := if_pos ⟨rfl, h⟩
theorem mv_claim (who nx till : Int) (l m : Lg) (sh : Bool) (h : 0 < m.made) (h' : m.by_ = 0) : movesOf who 2 nx till l m sh = (l, { m with spent := nx, by_ := who + 1 }, true) := by
  unfold movesOf
  rw [if_neg (by omega), if_pos ⟨rfl, h, h'⟩]
theorem mv_refund (who nx till : Int) (l m : Lg) (sh : Bool) (h : 0 < l.made) (h' : l.by_ = 0) (h2 : till ≤ nx) : movesOf who 3 nx till l m sh = ({ l with spent := nx, by_ := who + 1 }, m, sh) := by
  unfold movesOf
  rw [if_neg (by omega), if_neg (by omega), if_pos ⟨rfl, h, h', h2⟩]
theorem mv_keep (who mv nx till : Int) (l m : Lg) (sh : Bool) (h : l.made ≠ 0) (h' : l.by_ ≠ 0) : (movesOf who mv nx till l m sh).1 = l := by
  unfold movesOf
  split
  · rename_i h1; exact absurd h1.2 h
  split
  · rfl
  split
  · rename_i h1; exact absurd h1.2.2.1 h'
  · rfl
theorem block_of (c : Tm) (i stA stB : Int) (kn : Bool) (l0 l1 : Lg) (sh a0 a1 : Bool) {m0 q0 m1 q1 : Int} {kn' : Bool} {l0' l1' l0'' l1'' : Lg} {sh' sh'' : Bool} (hi : 0 ≤ i) (hi' : i ≤ 1000)
    (h0 : (c.py i stA stB kn l0 l1 sh).r0 a0 = (m0, c.sA q0)) (h1 : (c.py i stA stB kn l0 l1 sh).r1 a1 = (m1, c.sB q1 kn'))
    (hx : movesOf 0 m0 (c.n + (i + 1)) (c.n + c.t.long) l0 l1 sh = (l0', l1', sh')) (hy : movesOf 1 m1 (c.n + (i + 1)) (c.n + 3 * c.t.mar) l1' l0' sh' = (l1'', l0'', sh'')) :
    (c.py i stA stB kn l0 l1 sh).block a0 a1 = c.py (i + 1) q0 q1 kn' l0'' l1'' sh'' := by
  have hn := c.n0; have hn' := c.n1
  have ew : wrap64 ((c.py i stA stB kn l0 l1 sh).now + 1) = c.n + (i + 1) := by
    show wrap64 (c.n + i + 1) = _
    rw [IntWalk.wrap64_in _ (by omega)]; omega
  have ex : (c.py i stA stB kn l0 l1 sh).x a0 = (l0', l1', sh') := by
    unfold Py.x
    rw [ew, h0]; exact hx
  have ey : (c.py i stA stB kn l0 l1 sh).y a0 a1 = (l1'', l0'', sh'') := by
    unfold Py.y
    rw [ew, h1, ex]; exact hy
  unfold Py.block
  rw [ey, ew, h0, h1]; rfl

section
variable (c : Tm) (i : Int)
theorem at0 (stA stB : Int) (kn : Bool) (l0 l1 : Lg) (sh : Bool) : At (c.py i stA stB kn l0 l1 sh).f0 (c.n + i) := ⟨rfl, rfl, rfl⟩
theorem at1 (stA stB : Int) (kn : Bool) (l0 l1 : Lg) (sh : Bool) : At (c.py i stA stB kn l0 l1 sh).f1 (c.n + i) := ⟨rfl, rfl, rfl⟩

theorem ph_start (a1 : Bool) : (c.py 0 1 1 false lg0 lg0 false).block true a1 = c.py 1 2 1 false c.lA lg0 false := by
  have b := c.bounds; have := c.d0; have := c.y0; have := c.g0
  have h0 : (c.py 0 1 1 false lg0 lg0 false).r0 true = (1, c.sA 2) := A_lock c 0 _ (at0 c 0 _ _ _ _ _ _) (by omega) (by omega) (deep_0 (c.n + 0))
  have h1 : (c.py 0 1 1 false lg0 lg0 false).r1 a1 = (0, c.sB 1 false) := by
    cases a1
    · rfl
    · exact B_agreed c 0 _ (at1 c 0 _ _ _ _ _ _) (by omega) (by omega) rfl (deep_0 (c.n + 0)) (by show deep (c.n + 0) 0 < _; rw [deep_0]; omega)
  exact block_of c 0 1 1 false lg0 lg0 false true a1 (by omega) (by omega) h0 h1 (mv_lock _ _ _ _ _ _ rfl) (mv_none _ _ _ _ _ _ _ (.inl rfl))
theorem ph_idle (h0 : 0 ≤ i) (h1 : i ≤ c.P) : (c.py i 1 1 false lg0 lg0 false).block false true = c.py (i + 1) 1 1 false lg0 lg0 false := by
  have b := c.bounds; have := c.d0; have := c.d1; have := c.y1; have := c.g1
  have h1 : (c.py i 1 1 false lg0 lg0 false).r1 true = (0, c.sB 1 false) :=
    B_agreed c i _ (at1 c i _ _ _ _ _ _) h0 h1 rfl (deep_0 (c.n + i)) (by show deep (c.n + i) 0 < _; rw [deep_0]; omega)
  exact block_of c i 1 1 false lg0 lg0 false false true h0 (by omega) rfl h1 (mv_none _ _ _ _ _ _ _ (.inl rfl)) (mv_none _ _ _ _ _ _ _ (.inl rfl))
theorem ph_abort (h0 : c.P < i) (h1 : i ≤ 1000) : (c.py i 1 1 false lg0 lg0 false).block false true = c.py (i + 1) 1 6 false lg0 lg0 false := by
  have b := c.bounds; have := c.d0; have := c.y0; have := c.g0
  have h1' : (c.py i 1 1 false lg0 lg0 false).r1 true = (4, c.sB 6 false) :=
    B_abort c i _ (at1 c i _ _ _ _ _ _) h0 h1 rfl (deep_0 (c.n + i))
  exact block_of c i 1 1 false lg0 lg0 false false true (by omega) h1 rfl h1' (mv_none _ _ _ _ _ _ _ (.inl rfl)) (mv_none _ _ _ _ _ _ _ (.inr rfl))
theorem ph_aborted (h0 : 0 ≤ i) (h1 : i ≤ 1000) : (c.py i 1 6 false lg0 lg0 false).block false true = c.py (i + 1) 1 6 false lg0 lg0 false := by
  exact block_of c i 1 6 false lg0 lg0 false false true h0 h1 rfl (B_over c (c.py i 1 6 false lg0 lg0 false).f1 6 (by decide) rfl) (mv_none _ _ _ _ _ _ _ (.inl rfl)) (mv_none _ _ _ _ _ _ _ (.inl rfl))
theorem ph_paid (a0 a1 : Bool) (h0 : 1 ≤ i) (h1 : i < c.t.long) (ha : a1 = true → i < c.t.depth) : (c.py i 2 1 false c.lA lg0 false).block a0 a1 = c.py (i + 1) 2 1 false c.lA lg0 false := by
  have b := c.bounds; have := c.d0; have := c.d1; have := c.y1; have := c.g1; have := c.y0; have := c.g0
  have e0 : (c.py i 2 1 false c.lA lg0 false).r0 a0 = (0, c.sA 2) := by
    cases a0
    · rfl
    · exact A_wait c i _ (at0 c i _ _ _ _ _ _) (by omega) (by omega) (by show 0 < deep (c.n + i) (c.n + 1); rw [deep_at c i _ (by omega) (by omega) (by omega) (by omega)]; omega) (by show (0 : Int) < _; omega)
        (by show deep (c.n + i) 0 < _; rw [deep_0]; omega) (.inl h1)
  have e1 : (c.py i 2 1 false c.lA lg0 false).r1 a1 = (0, c.sB 1 false) := by
    cases a1
    · rfl
    · have := ha rfl
      exact B_agreed c i _ (at1 c i _ _ _ _ _ _) (by omega) (by omega) rfl (deep_0 (c.n + i)) (by show deep (c.n + i) (c.n + 1) < _; rw [deep_at c i _ (by omega) (by omega) (by omega) (by omega)]; omega)
  exact block_of c i 2 1 false c.lA lg0 false a0 a1 (by omega) (by omega) e0 e1 (mv_none _ _ _ _ _ _ _ (.inl rfl)) (mv_none _ _ _ _ _ _ _ (.inl rfl))
theorem ph_lock (a0 : Bool) : (c.py c.t.depth 2 1 false c.lA lg0 false).block a0 true = c.py (c.t.depth + 1) 2 2 false c.lA c.lB false := by
  have b := c.bounds; have := c.d0; have := c.d1; have := c.y1; have := c.g1; have := c.y0; have := c.g0
  have e0 : (c.py c.t.depth 2 1 false c.lA lg0 false).r0 a0 = (0, c.sA 2) := by
    cases a0
    · rfl
    · exact A_wait c c.t.depth _ (at0 c _ _ _ _ _ _ _) (by omega) (by omega) (by show 0 < deep (c.n + c.t.depth) (c.n + 1); rw [deep_at c c.t.depth _ (by omega) (by omega) (by omega) (by omega)]; omega) (by show (0 : Int) < _; omega)
        (by show deep (c.n + c.t.depth) 0 < _; rw [deep_0]; omega) (.inl (by omega))
  have e1 : (c.py c.t.depth 2 1 false c.lA lg0 false).r1 true = (1, c.sB 2 false) :=
    B_lock c c.t.depth _ (at1 c _ _ _ _ _ _ _) (by omega) (by omega) rfl (deep_0 (c.n + c.t.depth)) (by show _ ≤ deep (c.n + c.t.depth) (c.n + 1); rw [deep_at c c.t.depth _ (by omega) (by omega) (by omega) (by omega)]; omega)
  exact block_of c _ 2 1 false c.lA lg0 false a0 true (by omega) (by omega) e0 e1 (mv_none _ _ _ _ _ _ _ (.inl rfl)) (mv_lock _ _ _ _ _ _ rfl)
theorem ph_both (a0 a1 : Bool) (h0 : c.t.depth + 1 ≤ i) (h1 : i < 3 * c.t.mar) (ha : a0 = true → i < 2 * c.t.depth) : (c.py i 2 2 false c.lA c.lB false).block a0 a1 = c.py (i + 1) 2 2 false c.lA c.lB false := by
  have b := c.bounds; have := c.d0; have := c.d1; have := c.y1; have := c.g1; have := c.y0; have := c.g0
  have e0 : (c.py i 2 2 false c.lA c.lB false).r0 a0 = (0, c.sA 2) := by
    cases a0
    · rfl
    · have := ha rfl
      exact A_wait c i _ (at0 c i _ _ _ _ _ _) (by omega) (by omega) (by show 0 < deep (c.n + i) (c.n + 1); rw [deep_at c i _ (by omega) (by omega) (by omega) (by omega)]; omega) (by show (0 : Int) < _; omega)
        (by show deep (c.n + i) (c.n + (c.t.depth + 1)) < _; rw [deep_at c i _ (by omega) (by omega) (by omega) (by omega)]; omega) (.inl (by omega))
  have e1 : (c.py i 2 2 false c.lA c.lB false).r1 a1 = (0, c.sB 2 false) := by
    cases a1
    · rfl
    · exact B_wait c i _ (at1 c i _ _ _ _ _ _) (by omega) (by omega) rfl (by show 0 < deep (c.n + i) (c.n + (c.t.depth + 1)); rw [deep_at c i _ (by omega) (by omega) (by omega) (by omega)]; omega) (by show (0 : Int) < _; omega) (.inl h1)
  exact block_of c i 2 2 false c.lA c.lB false a0 a1 (by omega) (by omega) e0 e1 (mv_none _ _ _ _ _ _ _ (.inl rfl)) (mv_none _ _ _ _ _ _ _ (.inl rfl))
theorem ph_claim (a1 : Bool) : (c.py (2 * c.t.depth) 2 2 false c.lA c.lB false).block true a1 = c.py (2 * c.t.depth + 1) 3 2 false c.lA c.lB1 true := by
  have b := c.bounds; have := c.d0; have := c.d1; have := c.y1; have := c.g1; have := c.y0; have := c.g0; have := c.n0
  have e0 : (c.py (2 * c.t.depth) 2 2 false c.lA c.lB false).r0 true = (2, c.sA 3) :=
    A_claim c (2 * c.t.depth) _ (at0 c _ _ _ _ _ _ _) (by omega) (by omega) (by show (0 : Int) < _; omega)
      (by show _ ≤ deep (c.n + (2 * c.t.depth)) (c.n + (c.t.depth + 1)); rw [deep_at c (2 * c.t.depth) _ (by omega) (by omega) (by omega) (by omega)]; omega)
  have e1 : (c.py (2 * c.t.depth) 2 2 false c.lA c.lB false).r1 a1 = (0, c.sB 2 false) := by
    cases a1
    · rfl
    · exact B_wait c _ _ (at1 c _ _ _ _ _ _ _) (by omega) (by omega) rfl (by show 0 < deep (c.n + (2 * c.t.depth)) (c.n + (c.t.depth + 1)); rw [deep_at c (2 * c.t.depth) _ (by omega) (by omega) (by omega) (by omega)]; omega) (by show (0 : Int) < _; omega) (.inl (by omega))
  exact block_of c _ 2 2 false c.lA c.lB false true a1 (by omega) (by omega) e0 e1 (mv_claim _ _ _ _ _ _ (by show 0 < c.n + (c.t.depth + 1); omega) rfl) (mv_none _ _ _ _ _ _ _ (.inl rfl))
end
end Go.Proofs.Ytmhbkiabndookaa
