/-
  What is proved: the shape of an argument that is a struct of cells; no program in sight. No condition.
-/
import Derived.Test.YtaigdbnfhehclaaShapeB
namespace Go.Proofs.Ytaigdbnfhehclaa
open Go.ChangeShapes Go.WideShapes Go.ChangeAt Go.RowKit

/-- The cells of a struct or an array. -/
theorem agg_of {P : Program} {w : World} {r : Reach} {base : Nat} {t : TypeId} {v : Value} {d : TypeDesc} {ts : List TypeId} (hu : P.underlying t = some d) (hd : (match d with | .struct _ | .array _ _ => true | _ => false) = true)
    (hts : P.cellTypes P.depth t = some ts) (hC : P.cellsOf t = ts.length) (h : Value.okWide P w r base t v) :
    ∃ cs, v = .agg cs ∧ cs.size = ts.length ∧ ∀ (i : Nat) u, ts[i]? = some u → ∃ x, cs[i]? = some x ∧ Cell.okWide P w r base u x := by
  have h2 : ∃ cs, v = .agg cs ∧ cs.size = P.cellsOf t ∧ Row.okWide P w r base t cs := by
    unfold Value.okWide at h
    rw [hu] at h
    cases d <;> simp_all
  obtain ⟨cs, rfl, hs, ts', hts', _, hc⟩ := h2
  obtain rfl : ts' = ts := by rw [hts] at hts'; exact (Option.some.inj hts').symm
  refine ⟨cs, rfl, by omega, fun i u hi => ?_⟩
  have hi2 : i < ts'.length := (List.getElem?_eq_some_iff.1 hi).1
  have hi' : i < cs.size := by omega
  obtain ⟨u', hu', hok⟩ := hc i cs[i] (Array.getElem?_eq_getElem hi')
  rw [Nat.mod_eq_of_lt (by omega), hi] at hu'
  cases hu'
  exact ⟨_, Array.getElem?_eq_getElem hi', hok⟩

theorem cell_slice {P : Program} {w : World} {r : Reach} {base : Nat} {u e : TypeId} {v : Value} (hu : P.underlying u = some (.slice e)) (h : Cell.okWide P w r base u v) : ∃ a n c, v = .slice a n c := by
  unfold Cell.okWide at h
  rw [hu] at h
  cases v <;> simp only [Cell.ok, hu] at h
  case slice a n c => exact ⟨a, n, c, rfl⟩
theorem cell_bool {P : Program} {w : World} {r : Reach} {base : Nat} {u : TypeId} {v : Value} (hu : P.underlying u = some .bool) (h : Cell.okWide P w r base u v) : ∃ b, v = .bool b := by
  unfold Cell.okWide at h
  rw [hu] at h
  cases v <;> simp only [Cell.ok, hu] at h
  case bool b => exact ⟨b, rfl⟩
end Go.Proofs.Ytaigdbnfhehclaa
