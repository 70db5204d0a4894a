/- What is proved: a slice of frames that a call made: what it holds, and how it grows. No condition. -/
import Derived.Test.YtjmhnflogbihdaaH1
namespace Go.Proofs.Ytjmhnflogbihdaa
open Go.RowKit

/-- A frame in memory: its kind, its bytes, where they lie and their room. -/
structure Fm where
  kind : Int
  body : List Nat
  ao : Option Addr
  cap : Nat
def Fm.val (f : Fm) : Value := .slice f.ao f.body.length f.cap
def Fm.cells (f : Fm) : List Value := [.int .i64 f.kind, f.val]
def fcells (L : List Fm) : List Value := L.flatMap Fm.cells
def told (L : List Fm) : List (Int × List Nat) := L.map fun f => (f.kind, f.body)

theorem fcells_length (L : List Fm) : (fcells L).length = L.length * 2 := by
  induction L with
  | nil => rfl
  | cons f L ih => simp only [fcells, List.flatMap_cons, List.length_append, List.length_cons] at *; rw [ih]; simp [Fm.cells]; omega

/-- The slice v owns these frames, in a row from block B on; their bytes lie in rows of their own, other than the frames'. -/
structure Frames (w : World) (B : Nat) (v : Value) (L : List Fm) : Prop where
  row : w.ownsRow B 33 2 v L.length (fcells L)
  body : ∀ f ∈ L, w.ownsRow B 5 1 f.val f.body.length (bts f.body)
  apart : ∀ f ∈ L, ∀ k, f.val.ownBlock = some k → v.ownBlock ≠ some k

theorem Frames.nil (w : World) (B : Nat) : Frames w B (.slice none 0 0) [] := ⟨World.ownsRow_nil _ _ _ _, fun f hf => by simp at hf, fun f hf => by simp at hf⟩

theorem Frames.keep {w w' : World} {B B1 : Nat} {v : Value} {L : List Fm} (h : Frames w B v L) (hB : w.heap.size ≤ B1) (hw : Below B1 w w') : Frames w' B v L :=
  ⟨own_keep h.row hB hw, fun f hf => own_keep (h.body f hf) hB hw, h.apart⟩

/-- One frame more. -/
theorem Frames.grown {w1 w' : World} {B : Nat} {v : Value} {L : List Fm} {f : Fm} (h : Frames w1 B v L) (hf : w1.ownsRow B 5 1 f.val f.body.length (bts f.body)) (ha : ∀ k, f.val.ownBlock = some k → v.ownBlock ≠ some k)
    {g cap : Nat} (hown : w'.ownsRow B 33 2 (.slice (some ⟨g, 0, none⟩) (L.length + 1) cap) (L.length + 1) (fcells L ++ f.cells)) (hgr : w1.grownBy w' v.ownBlock) (hat : v.ownBlock = some g ∨ g = w1.heap.size) :
    Frames w' B (.slice (some ⟨g, 0, none⟩) (L.length + 1) cap) (L ++ [f]) := by
  have all : ∀ f' ∈ L ++ [f], w1.ownsRow B 5 1 f'.val f'.body.length (bts f'.body) ∧ ∀ k, f'.val.ownBlock = some k → v.ownBlock ≠ some k := fun f' hf' => by
    rcases List.mem_append.1 hf' with h1 | h1
    · exact ⟨h.body f' h1, h.apart f' h1⟩
    · rw [List.mem_singleton] at h1
      subst h1
      exact ⟨hf, ha⟩
  refine ⟨?_, fun f' hf' => ?_, fun f' hf' k hk => ?_⟩
  · rw [List.length_append]
    have : fcells (L ++ [f]) = fcells L ++ f.cells := by simp [fcells]
    rw [this]
    exact hown
  · obtain ⟨h1, h2⟩ := all f' hf'
    refine h1.kept hgr ?_
    cases e : f'.val.ownBlock with
    | none => exact .inl rfl
    | some k => exact .inr fun e2 => h2 k e (by rw [← e2])
  · obtain ⟨h1, h2⟩ := all f' hf'
    intro e
    have e' : g = k := by simpa [Value.ownBlock] using e
    subst e'
    rcases hat with hat | hat
    · exact h2 _ hk hat
    · have := (h1.lt _ hk).2
      omega
end Go.Proofs.Ytjmhnflogbihdaa
