/- What is proved: what the frames of layer 14 have in common: floats that come in. No condition. -/
import Derived.Laws.Cover2
import Derived.Test.YtiancafoipllbaaRows
import Derived.Test.YtiancafoipllbaaShape
namespace Go.Proofs.Ytiancafoipllbaa
open Go.ChangeShapes Go.WideShapes Go.ChangeAt Go.RowKit

theorem own : ownKnob Try.prog.godebug = none := by kernel_rfl
theorem laidOut : laidOutB Try.prog = true := by kernel_rfl
/-- The cells of a struct or an array. -/
theorem agg_of {P : Program} {w : World} {r : Reach} {base : Nat} {t : TypeId} {v : Value} {d : TypeDesc} {ts : List TypeId} (hu : P.underlying t = some d) (hd : (match d with | .struct _ | .array _ _ => true | _ => false) = true)
    (hts : P.cellTypes P.depth t = some ts) (hC : P.cellsOf t = ts.length) (h : Value.okWide P w r base t v) :
    ∃ cs, v = .agg cs ∧ cs.size = ts.length ∧ ∀ (i : Nat) u, ts[i]? = some u → ∃ x, cs[i]? = some x ∧ Cell.okWide P w r base u x := by
  have h2 : ∃ cs, v = .agg cs ∧ cs.size = P.cellsOf t ∧ Row.okWide P w r base t cs := by
    unfold Value.okWide at h
    rw [hu] at h
    cases d <;> simp_all
  obtain ⟨cs, rfl, hs, ts', hts', _, hc⟩ := h2
  obtain rfl : ts' = ts := by rw [hts] at hts'; exact (Option.some.inj hts').symm
  refine ⟨cs, rfl, by omega, fun i u hi => ?_⟩
  have hi2 : i < ts'.length := (List.getElem?_eq_some_iff.1 hi).1
  have hi' : i < cs.size := by omega
  obtain ⟨u', hu', hok⟩ := hc i cs[i] (Array.getElem?_eq_getElem hi')
  rw [Nat.mod_eq_of_lt (by omega), hi] at hu'
  cases hu'
  exact ⟨_, Array.getElem?_eq_getElem hi', hok⟩

theorem cell_float {P : Program} {w : World} {r : Reach} {base : Nat} {u : TypeId} {v : Value} (hu : P.underlying u = some (.float .f64)) (h : Cell.okWide P w r base u v) : ∃ b, v = .float .f64 b ∧ b < 18446744073709551616 := by
  unfold Cell.okWide at h
  rw [hu] at h
  cases v <;> simp only [Cell.ok, hu] at h
  case float k b =>
    simp [FloatKind.has] at h
    obtain ⟨rfl, h⟩ := h
    exact ⟨b, rfl, h⟩
theorem float_of {w : World} {r : Reach} {base : Nat} {v : Value} (h : Value.okWide Try.prog w r base 24 v) : ∃ b, v = .float .f64 b ∧ b < 18446744073709551616 := by
  obtain ⟨b, rfl⟩ := okWide_float Try.underlying24 h
  refine ⟨b, rfl, ?_⟩
  simpa [Value.okWide, Try.underlying24, Cell.okWide, Cell.ok, FloatKind.has] using h
/-- Two floats and two ints. -/
theorem four_of {w : World} {r : Reach} {base : Nat} {v : Value} (h : ∃ cs, v = .agg cs ∧ cs.size = [24, 24, 3, 3].length ∧ ∀ (i : Nat) u, [24, 24, 3, 3][i]? = some u → ∃ x, cs[i]? = some x ∧ Cell.okWide Try.prog w r base u x) :
    ∃ (x y : Nat) (f n : Int), v = .agg #[.float .f64 x, .float .f64 y, .int .i64 f, .int .i64 n] ∧ x < 18446744073709551616 ∧ y < 18446744073709551616 ∧ (-9223372036854775808 ≤ f ∧ f ≤ 9223372036854775807) ∧ -9223372036854775808 ≤ n ∧ n ≤ 9223372036854775807 := by
  obtain ⟨cs, rfl, hs, hc⟩ := h
  obtain ⟨v0, h0, k0⟩ := hc 0 24 rfl
  obtain ⟨v1, h1, k1⟩ := hc 1 24 rfl
  obtain ⟨v2, h2, k2⟩ := hc 2 3 rfl
  obtain ⟨v3, h3, k3⟩ := hc 3 3 rfl
  obtain ⟨x, rfl, hx⟩ := cell_float Try.underlying24 k0
  obtain ⟨y, rfl, hy⟩ := cell_float Try.underlying24 k1
  obtain ⟨f, rfl, hf⟩ := cell_int Try.underlying3 k2
  obtain ⟨n, rfl, hn⟩ := cell_int Try.underlying3 k3
  refine ⟨x, y, f, n, ?_, hx, hy, ?_, ?_⟩
  · congr 1
    apply Array.ext_getElem?
    intro i
    rcases i with _ | _ | _ | _ | i
    · exact h0
    · exact h1
    · exact h2
    · exact h3
    · rw [Array.getElem?_eq_none (by have : cs.size = 4 := hs; omega)]
      simp
  · exact hf
  · exact hn
end Go.Proofs.Ytiancafoipllbaa
