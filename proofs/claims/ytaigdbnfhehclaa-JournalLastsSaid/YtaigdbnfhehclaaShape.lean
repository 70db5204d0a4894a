/-
  What is proved: the shape of an argument whose cells are integers; no program in sight. No condition.
-/
import Derived.Test.YtaigdbnfhehclaaGrow
import Derived.ProofKit
import Derived.OpenShut
import Derived.ShutString
import Derived.ChangeOld
namespace Go.Proofs.Ytaigdbnfhehclaa
open Go.ChangeShapes Go.WideShapes Go.ChangeAt Go.RowKit

theorem cell_int {P : Program} {w : World} {r : Reach} {base : Nat} {u : TypeId} {v : Value} {k : IntKind} (hu : P.underlying u = some (.int k)) (h : Cell.okWide P w r base u v) : ∃ n, v = .int k n ∧ k.has n := by
  unfold Cell.okWide at h
  rw [hu] at h
  cases v <;> simp only [Cell.ok, hu] at h
  case int k' n => obtain ⟨rfl, h2⟩ := h; exact ⟨n, rfl, h2⟩

/-- A struct or an array whose cells are integers of the kinds ks. -/
theorem ints_of {P : Program} {w : World} {r : Reach} {base : Nat} {t : TypeId} {v : Value} {d : TypeDesc} {ts : List TypeId} {ks : List IntKind} (hu : P.underlying t = some d) (hd : (match d with | .struct _ | .array _ _ => true | _ => false) = true)
    (hts : P.cellTypes P.depth t = some ts) (hC : P.cellsOf t = ks.length) (hk : ts.map P.underlying = ks.map (fun k => some (.int k))) (h : Value.okWide P w r base t v) :
    ∃ f : Nat → Int, v = .agg ((List.range ks.length).map fun i => Value.int (ks.getD i .i64) (f i)).toArray ∧ ∀ i, i < ks.length → (ks.getD i .i64).has (f i) := by
  have hl : ts.length = ks.length := by simpa using congrArg List.length hk
  have h2 : ∃ cs, v = .agg cs ∧ cs.size = P.cellsOf t ∧ Row.okWide P w r base t cs := by
    unfold Value.okWide at h
    rw [hu] at h
    cases d <;> simp_all
  obtain ⟨cs, rfl, hs, ts', hts', _, hc⟩ := h2
  obtain rfl : ts' = ts := by rw [hts] at hts'; exact (Option.some.inj hts').symm
  have hcell : ∀ i, i < ks.length → ∃ n, cs[i]? = some (.int (ks.getD i .i64) n) ∧ (ks.getD i .i64).has n := by
    intro i hi
    have hi' : i < cs.size := by omega
    obtain ⟨u, hu', hok⟩ := hc i cs[i] (Array.getElem?_eq_getElem hi')
    rw [Nat.mod_eq_of_lt (by omega)] at hu'
    have hk' := congrArg (fun l => l[i]?) hk
    simp only [List.getElem?_map, hu', Option.map_some, List.getElem?_eq_getElem hi, Option.some.injEq] at hk'
    obtain ⟨n, hn, hh⟩ := cell_int hk' hok
    have e : ks.getD i .i64 = ks[i] := by simp [List.getD, hi]
    exact ⟨n, by rw [Array.getElem?_eq_getElem hi', hn, e], by rw [e]; exact hh⟩
  refine ⟨fun i => match cs[i]? with | some (.int _ n) => n | _ => 0, ?_, ?_⟩
  · congr 1
    apply Array.ext_getElem?
    intro i
    by_cases hi : i < ks.length
    · obtain ⟨n, hn, _⟩ := hcell i hi
      simp [hi, hn]
    · rw [Array.getElem?_eq_none (by omega)]
      simp [hi]
  · intro i hi
    obtain ⟨n, hn, hh⟩ := hcell i hi
    simp only [hn]
    exact hh
end Go.Proofs.Ytaigdbnfhehclaa
