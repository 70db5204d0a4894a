/- What is proved: what the frames of layer 16 have in common; lists of ints that come in have the shapes of the walks. No condition but those each law names. -/
import Derived.Test.YtaigdbnfhehclaaRows
import Derived.Test.YtaigdbnfhehclaaShapeM
import Derived.Test.YtaigdbnfhehclaaShapeS
import Derived.DataReads
namespace Go.Proofs.Ytaigdbnfhehclaa
open Go.ChangeShapes Go.WideShapes Go.ChangeAt Go.RowKit

theorem own : ownKnob Try.prog.godebug = none := by kernel_rfl
theorem laidOut : laidOutB Try.prog = true := by kernel_rfl
end Go.Proofs.Ytaigdbnfhehclaa

namespace Go.Proofs.Ytaigdbnfhehclaa
open Go.ChangeShapes Go.WideShapes Go.ChangeAt Go.RowKit

theorem its_of {H : Type} {enc : TypeId × Value → H} {P : Program} {w : World} {t e : TypeId} {v : Value} {d : DataW H} {p : List MemPlace} (ht : P.underlying t = some (.slice e)) (he : P.underlying e = some (.int .i64)) (hc : P.cellsOf e = 1)
    (hv : ∃ a n c, v = .slice a n c) (h : DataW.Trod enc P w 0 (fun _ => true) true t v d p) : ∃ (ao : Option Addr) (n c : Nat) (l : List Int), v = .slice ao n c ∧ Sl w ao n c (l.map (Value.int .i64)) ∧ n ≤ 9223372036854775807 := by
  obtain ⟨a, n, c, rfl⟩ := hv
  obtain ⟨m, hm⟩ := h
  rcases open_ints ht he hc hm with ⟨h1, _⟩ | ⟨a', len, cap, zs, h1, _, hle, hmx, hzl, _, hcell, hwf⟩
  · have : Value.slice a n c = .slice none 0 0 := by simpa [Value.cells] using h1
    cases this
    exact ⟨none, 0, 0, [], rfl, Sl.nothing w, by omega⟩
  · have : Value.slice a n c = .slice (some a') len cap := by simpa [Value.cells] using h1
    cases this
    have hzl' : zs.length = c := by simpa using hzl
    refine ⟨some a', n, c, zs.take n, rfl, ⟨?_, hle, fun h => by (cases h), ?_⟩, by simp only [maxLen] at hmx; omega⟩
    · rw [List.length_map, List.length_take]; omega
    · by_cases h0 : n = 0
      · left; subst h0; rfl
      · right
        have hp := plain_of_cell (hcell 0 (by omega))
        have ha : a' = ⟨a'.block, a'.off, none⟩ := by rwa [show a'.add 0 = a' from add_zero_addr a'] at hp
        refine ⟨a'.block, a'.off, congrArg some ha, fun j x hj => ?_⟩
        rw [List.getElem?_map, List.getElem?_take] at hj
        split at hj
        · rename_i hjn
          have hc1 := hcell j (by omega)
          rw [ha, add_plain_addr] at hc1
          have hz : zs[j]? = some (zs.getD j 0) := by rw [List.getD_eq_getElem?_getD, List.getElem?_eq_getElem (show j < zs.length by omega)]; rfl
          rw [hz] at hj
          simp only [Option.map_some, Option.some.injEq] at hj
          subst hj
          exact hc1
        · cases hj
end Go.Proofs.Ytaigdbnfhehclaa
