/-
  What is proved: the shape of an argument that is a slice of bytes; no program in sight. No condition.
-/
import Derived.Test.YtaigdbnfhehclaaBytes
import Derived.Test.YtaigdbnfhehclaaShape
import Derived.ChangeSlices
import Derived.DataShut
namespace Go.Proofs.Ytaigdbnfhehclaa
open Go.ChangeShapes Go.WideShapes Go.ChangeAt Go.RowKit

def SmallB (l : List Nat) : Prop := ∀ x ∈ l, x < 256

theorem plain_of_cell {w : World} {a : Addr} {v : Value} (h : w.cell? a = some v) : a = ⟨a.block, a.off, none⟩ := by
  obtain ⟨b, o, s⟩ := a
  unfold World.cell? at h
  split at h
  · simp only at h
    split at h
    · cases h
    · rename_i hs
      cases s with
      | none => rfl
      | some _ => simp at hs
  · cases h

theorem bytes_of {H : Type} {enc : TypeId × Value → H} {P : Program} {w : World} {t e : TypeId} {v : Value} {d : DataW H} {p : List MemPlace} (ht : P.underlying t = some (.slice e)) (he : P.underlying e = some (.int .u8)) (hc : P.cellsOf e = 1)
    (hv : ∃ a n c, v = .slice a n c) (h : DataW.Trod enc P w 0 (fun _ => true) true t v d p) : ∃ ao n c l, v = .slice ao n c ∧ Sl w ao n c (bts l) ∧ SmallB l ∧ n ≤ 9223372036854775807 := by
  obtain ⟨a, n, c, rfl⟩ := hv
  obtain ⟨m, hm⟩ := h
  rcases open_ints ht he hc hm with ⟨h1, _⟩ | ⟨a', len, cap, zs, h1, _, hle, hmx, hzl, _, hcell, hwf⟩
  · have : Value.slice a n c = .slice none 0 0 := by simpa [Value.cells] using h1
    cases this
    exact ⟨none, 0, 0, [], rfl, Sl.nothing w, fun x hx => by simp at hx, by omega⟩
  · have : Value.slice a n c = .slice (some a') len cap := by simpa [Value.cells] using h1
    cases this
    have hzl' : zs.length = c := by simpa using hzl
    refine ⟨some a', n, c, (zs.take n).map Int.toNat, rfl, ⟨?_, hle, fun h => by (cases h), ?_⟩, ?_, by simp only [maxLen] at hmx; omega⟩
    · rw [bts_length, List.length_map, List.length_take]; omega
    · by_cases h0 : n = 0
      · left; subst h0; rfl
      · right
        have hp := plain_of_cell (hcell 0 (by omega))
        have ha : a' = ⟨a'.block, a'.off, none⟩ := by rwa [show a'.add 0 = a' from add_zero_addr a'] at hp
        refine ⟨a'.block, a'.off, congrArg some ha, fun j x hj => ?_⟩
        rw [bts_get, List.getElem?_map, List.getElem?_take] at hj
        split at hj
        · rename_i hjn
          have hc1 := hcell j (by omega)
          rw [ha, add_plain_addr] at hc1
          have hz : zs[j]? = some (zs.getD j 0) := by rw [List.getD_eq_getElem?_getD, List.getElem?_eq_getElem (show j < zs.length by omega)]; rfl
          rw [hz] at hj
          simp only [Option.map_some, Option.some.injEq] at hj
          have hw := hwf (zs.getD j 0) (List.mem_of_getElem? hz)
          rw [Lit.wf_int_iff, IntKind.min_u8] at hw
          rw [hc1, ← hj, Int.toNat_of_nonneg hw.1]
        · cases hj
    · intro x hx
      simp only [List.mem_map] at hx
      obtain ⟨z, hz, rfl⟩ := hx
      have hw := hwf z (List.mem_of_mem_take hz)
      rw [Lit.wf_int_iff, IntKind.max_u8] at hw
      omega
end Go.Proofs.Ytaigdbnfhehclaa
