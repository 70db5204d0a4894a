/- What is proved: lists of floats that come in have the shapes of the walks. No condition. -/
import Derived.Test.YtiancafoipllbaaRT
import Derived.Deep.Slices
import Derived.Test.YtiancafoipllbaaShapeB
namespace Go.Proofs.Ytiancafoipllbaa
open Go.ChangeShapes Go.WideShapes Go.ChangeAt Go.RowKit

theorem trod_flt {H : Type} {enc : TypeId × Value → H} {P : Program} {w : World} {base fuel : Nat} {spare : Nat → Bool} {held : Bool} {t : TypeId} {k : FloatKind} {cs : List Value} {x : DataW H × List MemPlace}
    (ht : P.underlying t = some (.float k)) (h : DataW.trod enc P w base spare held fuel t cs = some x) : ∃ b, cs = [.float k b] ∧ (Lit.float k b).wf = true := by
  cases fuel with
  | zero => simp [DataW.trod] at h
  | succ n =>
    unfold DataW.trod at h
    rw [ht] at h
    split at h <;> simp_all
def wordOf : Value → Nat
  | .float _ b => b
  | _ => 0
theorem flts_of {H : Type} {enc : TypeId × Value → H} {w : World} {v : Value} {d : DataW H} {p : List MemPlace} (hv : ∃ a n c, v = .slice a n c) (h : DataW.Trod enc Try.prog w 0 (fun _ => true) true 22 v d p) :
    ∃ ao n c zs, v = .slice ao n c ∧ Sl w ao n c (fls zs) ∧ n ≤ 9223372036854775807 ∧ ∀ z ∈ zs, z < 2 * Fl.NEG := by
  obtain ⟨a, n, c, rfl⟩ := hv
  obtain ⟨m, hm⟩ := h
  rcases Go.Deep.open_slice1 Try.underlying22 (by kernel_rfl) hm with ⟨h1, _⟩ | ⟨a', len, cap, m', n', V, D, Pl, h1, _, hle, hmx, hm', _, hx⟩
  · have : Value.slice a n c = .slice none 0 0 := by simpa [Value.cells] using h1
    cases this
    exact ⟨none, 0, 0, [], rfl, Sl.nothing w, by omega, fun z hz => by simp at hz⟩
  · have : Value.slice a n c = .slice (some a') len cap := by simpa [Value.cells] using h1
    cases this
    have hmc : m' = c := by simpa using hm'
    subst hmc
    have hw : ∀ i, i < n → V i = .float .f64 (wordOf (V i)) ∧ wordOf (V i) < 2 * Fl.NEG := fun i hi => by
      obtain ⟨b, e, hb⟩ := trod_flt Try.underlying24 (hx i (by omega)).2
      have e2 : V i = .float .f64 b := by simpa using e
      rw [e2]
      refine ⟨rfl, ?_⟩
      simp only [Lit.wf, decide_eq_true_eq] at hb
      exact hb
    refine ⟨some a', n, m', (List.range n).map fun i => wordOf (V i), rfl, ⟨?_, hle, fun h => by (cases h), ?_⟩, by simp only [maxLen] at hmx; omega, ?_⟩
    · rw [fls_length, List.length_map, List.length_range]
    · by_cases h0 : n = 0
      · left; subst h0; rfl
      · right
        have hp := plain_of_cell (hx 0 (by omega)).1
        have ha : a' = ⟨a'.block, a'.off, none⟩ := by rwa [show a'.add 0 = a' from add_zero_addr a'] at hp
        refine ⟨a'.block, a'.off, congrArg some ha, fun j x hj => ?_⟩
        rw [fls_get, List.getElem?_map] at hj
        by_cases hjn : j < n
        · rw [List.getElem?_range hjn] at hj
          have hj2 : flV (wordOf (V j)) = x := by simpa using hj
          have hc1 := (hx j (by omega)).1
          rw [ha, add_plain_addr] at hc1
          rw [hc1, (hw j hjn).1, ← hj2]
          rfl
        · rw [List.getElem?_eq_none (by simp; omega)] at hj
          simp at hj
    · intro z hz
      obtain ⟨i, hi, rfl⟩ := List.mem_map.1 hz
      exact (hw i (List.mem_range.1 hi)).2
end Go.Proofs.Ytiancafoipllbaa
