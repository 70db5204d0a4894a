/-
  What is proved: the shape of an argument whose cells are integers and bools; no program in sight. No condition.
-/
import Derived.Test.YtaigdbnfhehclaaShape
namespace Go.Proofs.Ytaigdbnfhehclaa
open Go.ChangeShapes Go.WideShapes Go.ChangeAt Go.RowKit

theorem cell_bit {P : Program} {w : World} {r : Reach} {base : Nat} {u : TypeId} {v : Value} (hu : P.underlying u = some .bool) (h : Cell.okWide P w r base u v) : ∃ b, v = .bool b := by
  unfold Cell.okWide at h
  rw [hu] at h
  cases v <;> simp only [Cell.ok, hu] at h
  case bool b => exact ⟨b, rfl⟩

/-- A cell of that kind (none: a bool). -/
def mixed (k : Option IntKind) (n : Int) (b : Bool) : Value := match k with
  | some k => .int k n
  | none => .bool b
def kindOf (k : Option IntKind) : Option TypeDesc := match k with
  | some k => some (.int k)
  | none => some .bool

/-- A struct or an array whose cells are integers of the kinds ks, or bools. -/
theorem mixed_of {P : Program} {w : World} {r : Reach} {base : Nat} {t : TypeId} {v : Value} {d : TypeDesc} {ts : List TypeId} {ks : List (Option IntKind)} (hu : P.underlying t = some d) (hd : (match d with | .struct _ | .array _ _ => true | _ => false) = true)
    (hts : P.cellTypes P.depth t = some ts) (hC : P.cellsOf t = ks.length) (hk : ts.map P.underlying = ks.map kindOf) (h : Value.okWide P w r base t v) :
    ∃ (f : Nat → Int) (g : Nat → Bool), v = .agg ((List.range ks.length).map fun i => mixed (ks.getD i none) (f i) (g i)).toArray := by
  have hl : ts.length = ks.length := by simpa using congrArg List.length hk
  have h2 : ∃ cs, v = .agg cs ∧ cs.size = P.cellsOf t ∧ Row.okWide P w r base t cs := by
    unfold Value.okWide at h
    rw [hu] at h
    cases d <;> simp_all
  obtain ⟨cs, rfl, hs, ts', hts', _, hc⟩ := h2
  obtain rfl : ts' = ts := by rw [hts] at hts'; exact (Option.some.inj hts').symm
  have hcell : ∀ i, i < ks.length → ∃ n b, cs[i]? = some (mixed (ks.getD i none) n b) := by
    intro i hi
    have hi' : i < cs.size := by omega
    obtain ⟨u, hu', hok⟩ := hc i cs[i] (Array.getElem?_eq_getElem hi')
    rw [Nat.mod_eq_of_lt (by omega)] at hu'
    have hk' := congrArg (fun l => l[i]?) hk
    simp only [List.getElem?_map, hu', Option.map_some, List.getElem?_eq_getElem hi, Option.some.injEq] at hk'
    have e : ks.getD i none = ks[i] := by simp [List.getD, hi]
    rw [e]
    cases hki : ks[i] with
    | some k =>
      rw [hki] at hk'
      obtain ⟨n, hn, _⟩ := cell_int hk' hok
      exact ⟨n, false, by rw [Array.getElem?_eq_getElem hi', hn]; rfl⟩
    | none =>
      rw [hki] at hk'
      obtain ⟨b, hb⟩ := cell_bit hk' hok
      exact ⟨0, b, by rw [Array.getElem?_eq_getElem hi', hb]; rfl⟩
  refine ⟨fun i => match cs[i]? with | some (.int _ n) => n | _ => 0, fun i => match cs[i]? with | some (.bool b) => b | _ => false, ?_⟩
  congr 1
  apply Array.ext_getElem?
  intro i
  by_cases hi : i < ks.length
  · obtain ⟨n, b, hn⟩ := hcell i hi
    have e : ks.getD i none = ks[i] := by simp [List.getD, hi]
    rw [e] at hn
    cases hki : ks[i] with
    | some k => rw [hki] at hn; simp [hi, hn, hki, mixed]
    | none => rw [hki] at hn; simp [hi, hn, hki, mixed]
  · rw [Array.getElem?_eq_none (by omega)]
    simp [hi]
end Go.Proofs.Ytaigdbnfhehclaa
