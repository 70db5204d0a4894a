/- What is proved: what Scan tells (plain). No condition. -/
import Derived.Test.YtjmhnflogbihdaaB9
namespace Go.Proofs.Ytjmhnflogbihdaa
open Go.RowKit

theorem elemF : Elem Try.prog 42 33 2 := Elem.mk' Try.underlying42 (by kernel_rfl) (z := .agg #[.int .i64 0, .slice none 0 0]) (bytes := 32) rfl (by decide) (by decide)

/-- Where the frame of that number begins, and the frames ahead of it. -/
def stP (l : List Nat) : Nat → Nat
  | 0 => 0
  | i + 1 => stP l i + (gN (l.drop (stP l i)) + 7)
def stF (l : List Nat) : Nat → List (Int × List Nat)
  | 0 => []
  | i + 1 => stF l i ++ [(getK (l.drop (stP l i)), getB (l.drop (stP l i)))]
/-- So many frames are there. -/
def goes (l : List Nat) (i : Nat) : Prop := ∀ j, j < i → getE (l.drop (stP l j)) = 0

theorem stF_length (l : List Nat) (i : Nat) : (stF l i).length = i := by
  induction i with
  | zero => rfl
  | succ i ih => simp [stF, ih]

theorem getE_zero_len {l : List Nat} (h : getE l = 0) : gN l + 7 ≤ l.length := by
  unfold getE at h
  split at h
  · cases h
  · split at h
    · cases h
    · split at h
      · cases h
      · split at h
        · cases h
        · omega

theorem goes_le {l : List Nat} {i : Nat} (h : goes l i) : stP l i ≤ l.length := by
  induction i with
  | zero => exact Nat.zero_le _
  | succ i ih =>
    have h1 := ih fun j hj => h j (by omega)
    have h2 := getE_zero_len (h i (by omega))
    rw [List.length_drop] at h2
    show stP l i + (gN (l.drop (stP l i)) + 7) ≤ l.length
    omega
theorem goes_ge {l : List Nat} (i : Nat) : 7 * i ≤ stP l i := by
  induction i with
  | zero => exact Nat.zero_le _
  | succ i ih => show 7 * (i + 1) ≤ stP l i + (gN (l.drop (stP l i)) + 7); omega
theorem goes_succ {l : List Nat} {i : Nat} (h : goes l i) (e : getE (l.drop (stP l i)) = 0) : goes l (i + 1) := fun j hj => by
  by_cases hji : j = i
  · rw [hji]; exact e
  · exact h j (by omega)
/-- Where it ends is one place. -/
theorem goes_end {l : List Nat} {i j : Nat} (hi : goes l i) (hj : goes l j) (ei : getE (l.drop (stP l i)) ≠ 0) (ej : getE (l.drop (stP l j)) ≠ 0) : i = j := by
  rcases Nat.lt_trichotomy i j with h | h | h
  · exact absurd (hj i h) ei
  · exact h
  · exact absurd (hi j h) ej
end Go.Proofs.Ytjmhnflogbihdaa
