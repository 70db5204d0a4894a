/-
  What is proved: an array of integers is equal to itself; no program in sight. No condition.
-/
import Derived.Test.YtaigdbnfhehclaaRow
import Derived.DeepKeys
namespace Go.Proofs.Ytaigdbnfhehclaa
open Go.RowKit

/-- An array of integers is equal to itself. -/
theorem eqItems_refl {P : Program} {e : TypeId} {k : IntKind} (hu : P.underlying e = some (.int k)) (dd : Nat) (xs : Array Value) (w : World) : ∀ (is : List Nat), (∀ i ∈ is, ∃ n, xs[i]? = some (.int k n)) →
    (Op.eqItems (dd + 1) e 1 xs xs is).run P w = .ok true w
  | [], _ => by simp [Op.eqItems]
  | i :: is, h => by
    obtain ⟨n, hn⟩ := h i (by simp)
    have hp : (part e xs i).run P w = .ok (.int k n) w := by
      have hp' : P.plainKey e = true := by simp [Program.plainKey, hu]
      exact run_part_plain w hp' hn
    have he : (Op.equalIn (dd + 1) e (.int k n) (.int k n)).run P w = .ok true w := by
      rw [run_equalIn_int w dd e k k n n hu]; simp
    have ih := eqItems_refl hu dd xs w is (fun j hj => h j (by simp [hj]))
    simp [Op.eqItems, hp, he, ih]

theorem eq_array_refl {P : Program} {t e : TypeId} {n : Nat} {i : TypeInfo} {k : IntKind} (hu : P.underlying t = some (.array n e)) (hi : P.info? e = some i) (he : P.underlying e = some (.int k)) (hc : P.cellsOf e = 1) (dd : Nat)
    (xs : Array Value) (hx : ∀ j, j < n → ∃ m, xs[j]? = some (.int k m)) (w : World) : (Op.equalIn (dd + 1 + 1) t (.agg xs) (.agg xs)).run P w = .ok true w := by
  rw [run_equalIn_array w (dd + 1) xs xs hu hi, hc]
  exact eqItems_refl he dd xs w _ (fun j hj => hx j (List.mem_range.1 hj))
end Go.Proofs.Ytaigdbnfhehclaa
