/- What is proved: both Nexts of layer 23 say the same (plain). No condition. -/
import Derived.Test.YtmhbkiabndookaaV5
namespace Go.Proofs.Ytmhbkiabndookaa
open Go.RowKit

def stepM' (t : T) (s : S) (f : F) (tm : Bool) : Int × Int := if s.st = 1 then agreedM t s f tm else if s.st = 2 then lockedM t s f tm else if s.st = 3 then claimingM t f else (0, s.st)
def pairB (r : Option Ru) (s : S) : Int × Int := match r with
  | some r => (r.mv, r.st)
  | none => (0, s.st)
theorem pair_same (t : T) (s : S) (f : F) : pairB ((allRules s).find? (fun r => saysB t s f r.fn)) s = stepM' t s f (safeB t s f) := by
  have e34 : saysB t s f 34 = is1 f := rfl
  have e35 : saysB t s f 35 = is2 t s f := rfl
  have e37 : saysB t s f 37 = is3 t s f := rfl
  have e39 : saysB t s f 39 = is4 t f := rfl
  have e40 : saysB t s f 40 = is5 t s f := rfl
  have e41 : saysB t s f 41 = is6 s f := rfl
  have e44 : saysB t s f 44 = is7 t s f := rfl
  have e45 : saysB t s f 45 = is8 t f := rfl
  have e46 : saysB t s f 46 = is9 f := rfl
  have e24 : saysB t s f 24 = true := rfl
  have br : (s.d.role == 1) = decide (s.d.role = 1) := rfl
  have bl : (s.d.leftP f.a f.b f.c == 0) = decide (s.d.leftP f.a f.b f.c = 0) := rfl
  unfold stepM'
  by_cases h1 : s.st = 1
  · have e : allRules s = [⟨34, 0, 2⟩, ⟨35, 4, 6⟩, ⟨37, 1, 2⟩, ⟨24, 0, 1⟩] := by unfold allRules rulesOf; rw [if_pos h1, h1]; rfl
    rw [e, if_pos h1]
    simp only [List.find?_cons, e34, e35, e37, e24]
    unfold agreedM is1 is2 is3 firstB buriedB
    by_cases a : 0 < f.pin
    · simp [a, pairB]
    · cases b : safeB t s f
      · simp [a, pairB]
      · by_cases c : s.d.role = 1
        · simp [a, c, pairB]
        · by_cases d : t.depth ≤ f.gin
          · simp [a, c, d, br, pairB]
          · simp [a, c, d, br, pairB]
  rw [if_neg h1]
  by_cases h2 : s.st = 2
  · have e : allRules s = [⟨39, 4, 5⟩, ⟨40, 2, 3⟩, ⟨41, 3, 2⟩, ⟨44, 1, 2⟩, ⟨24, 0, 2⟩] := by unfold allRules rulesOf; rw [if_neg h1, if_pos h2, h2]; rfl
    rw [e, if_pos h2]
    simp only [List.find?_cons, e39, e40, e41, e44, e24]
    unfold lockedM is4 is5 is6 is7 firstB buriedB openB lateB
    by_cases a : t.depth ≤ f.back
    · simp [a, pairB]
    · cases k : s.kn <;> cases b : safeB t s f <;> by_cases r : s.d.role = 1 <;> by_cases d : t.depth ≤ f.gin <;> by_cases x : f.back < 1 <;> by_cases y : f.lost < 1 <;> by_cases p : 0 < f.pin <;> by_cases l : s.d.leftP f.a f.b f.c = 0 <;>
        (have p' : (f.pin < 1) = ¬ (0 < f.pin) := propext ⟨fun h => by omega, fun h => by omega⟩; simp [a, r, d, x, y, p, l, p', br, bl, pairB])
  rw [if_neg h2]
  by_cases h3 : s.st = 3
  · have e : allRules s = [⟨45, 4, 4⟩, ⟨46, 2, 3⟩, ⟨24, 0, 3⟩] := by unfold allRules rulesOf; rw [if_neg h1, if_neg h2, if_pos h3, h3]; rfl
    rw [e, if_pos h3]
    simp only [List.find?_cons, e45, e46, e24]
    unfold claimingM is8 is9 buriedB
    by_cases a : t.depth ≤ f.gout
    · simp [a, pairB]
    · by_cases b : f.gout < 1
      · simp [a, b, pairB]
      · simp [a, b, pairB]
  · have e : allRules s = [⟨24, 0, s.st⟩] := by unfold allRules rulesOf; rw [if_neg h1, if_neg h2, if_neg h3]; rfl
    rw [e, if_neg h3]
    simp only [List.find?_cons, e24]
    rfl
theorem next_pair (t : T) (s : S) (f : F) : s.next t f = ((stepM' t (s.seen f) f (safeB t (s.seen f) f)).1, { s.seen f with st := (stepM' t (s.seen f) f (safeB t (s.seen f) f)).2 }) := by
  rw [← pair_same]
  unfold S.next
  cases (allRules (s.seen f)).find? (fun r => saysB t (s.seen f) f r.fn) <;> rfl
end Go.Proofs.Ytmhbkiabndookaa
