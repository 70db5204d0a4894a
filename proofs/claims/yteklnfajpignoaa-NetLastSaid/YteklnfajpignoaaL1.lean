/- What is proved: plain laws of NetLast: letters that only go in. No condition. -/
import Derived.Test.YteklnfajpignoaaN3
namespace Go.Proofs.Yteklnfajpignoaa
open Sx hiding Sl

theorem pick_range {a b : Int} (h1 : 1 ≤ b) (h2 : b ≤ 1000000) : 0 ≤ pickI a b ∧ pickI a b < b := by
  unfold pickI
  rw [if_neg (by omega)]
  have g1 := Int.tmod_lt_of_pos a (show 0 < b by omega)
  have g2 := Int.lt_tmod_of_pos a (show 0 < b by omega)
  by_cases h : a.tmod b < 0
  · rw [if_pos h, wrap_of (by omega) (by omega)]
    omega
  · rw [if_neg h]
    omega
/-- A net of m nodes that holds these letters, no way of which is cut. -/
structure Flat (D : ND) (m : Int) (I : List LD) : Prop where
  nodes : D.nodes = m
  row : D.row = I
  cuts : ∀ p, D.cuts p = false
theorem Flat.new (m : Int) : Flat (ND.new m) m [] := ⟨rfl, rfl, fun _ => rfl⟩
theorem Flat.sendOk {D : ND} {m : Int} {I : List LD} (h : Flat D m I) (hI : I.length < 1000) {l : LD} (hf : 1 ≤ l.f ∧ l.f ≤ m) (ht : 1 ≤ l.t ∧ l.t ≤ m) : D.sendOk l = (!decide (l.f = l.t) && decide (l.bs.length ≤ 400)) := by
  unfold ND.sendOk ND.room wayB
  rw [h.nodes, h.row, decide_eq_true hf, decide_eq_true ht, decide_eq_true hI]
  simp
theorem Flat.send {D : ND} {m : Int} {I : List LD} (h : Flat D m I) (l : LD) : Flat (D.send l) m (if D.sendOk l then I ++ [l] else I) := by
  unfold ND.send
  split
  · exact ⟨h.nodes, by show D.row ++ [l] = _; rw [h.row], h.cuts⟩
  · exact h
/-- The same, but that one way is cut. -/
structure CutAt (D : ND) (m : Int) (I : List LD) (a b : Int) : Prop where
  nodes : D.nodes = m
  row : D.row = I
  cuts : ∀ p, D.cuts p = decide (p = way a b)
theorem Flat.cut {D : ND} {m : Int} {I : List LD} (h : Flat D m I) {a b : Int} (hw : wayB m a b = true) : CutAt (D.cut a b true) m I a b := by
  unfold ND.cut
  rw [h.nodes, if_pos hw]
  refine ⟨rfl, h.row, fun p => ?_⟩
  show (if p = way a b then true else D.cuts p) = _
  rw [h.cuts]
  by_cases e : p = way a b
  · rw [if_pos e, decide_eq_true e]
  · rw [if_neg e, decide_eq_false e]
theorem CutAt.heal {D : ND} {m : Int} {I : List LD} {a b a' b' : Int} (h : CutAt D m I a b) (hw : wayB m a' b' = true) (hs : way a' b' = way a b) : Flat (D.cut a' b' false) m I := by
  unfold ND.cut
  rw [h.nodes, if_pos hw]
  refine ⟨rfl, h.row, fun p => ?_⟩
  show (if p = way a' b' then false else D.cuts p) = _
  rw [h.cuts, hs]
  by_cases e : p = way a b
  · rw [if_pos e]
  · rw [if_neg e, decide_eq_false e]
theorem way_swap (a b : Int) : way a b = way b a := by
  unfold way intMin intMax
  by_cases h : a < b
  · simp only [h, if_true, show ¬ b < a by omega, if_false]
  · by_cases h' : b < a
    · simp only [h, h', if_true, if_false]
    · have : a = b := by omega
      subst this
      rfl
/-- A letter on the cut way does not come out. -/
theorem CutAt.stuck {D : ND} {m : Int} {I : List LD} {a b k : Int} (h : CutAt D m I a b) (hw : way (D.look k).f (D.look k).t = way a b) : D.dlvOk k = false := by
  unfold ND.dlvOk
  rw [h.cuts, hw, decide_eq_true rfl, Bool.not_true, Bool.and_false]
/-- The first letter comes out. -/
theorem Flat.first {D : ND} {m : Int} {a : LD} {I : List LD} (h : Flat D m (a :: I)) : D.dlvOk 0 = true ∧ D.look 0 = a ∧ Flat (D.dlv 0) m I := by
  have ht : D.there 0 = true := by unfold ND.there; rw [h.row]; exact decide_eq_true ⟨Int.le_refl 0, by simp only [List.length_cons]; omega⟩
  have hl : D.look 0 = a := by unfold ND.look; rw [if_pos ht, h.row]; rfl
  have ho : D.dlvOk 0 = true := by unfold ND.dlvOk; rw [ht, h.cuts]; rfl
  refine ⟨ho, hl, ?_⟩
  unfold ND.dlv
  rw [if_pos ho]
  exact ⟨h.nodes, by show D.row.eraseIdx _ = _; rw [h.row]; rfl, h.cuts⟩
theorem Flat.none {D : ND} {m : Int} (h : Flat D m []) : D.dlvOk 0 = false := by
  have ht : D.there 0 = false := by unfold ND.there; rw [h.row]; rfl
  unfold ND.dlvOk
  rw [ht]
  rfl
end Go.Proofs.Yteklnfajpignoaa
