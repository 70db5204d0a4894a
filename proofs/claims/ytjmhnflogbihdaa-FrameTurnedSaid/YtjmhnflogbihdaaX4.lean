/- What is proved: FrameTurned of layer 4 returns true for every input, and its arguments read as before. No condition. -/
import Derived.Test.YtjmhnflogbihdaaX3
import Derived.Test.YtjmhnflogbihdaaP
import Derived.Test.YtjmhnflogbihdaaShapeS
namespace Go.Proofs.Ytjmhnflogbihdaa
open Go.ChangeShapes Go.WideShapes Go.ChangeAt Go.RowKit
set_option linter.unusedVariables false

theorem turned_of {H : Type} {enc : TypeId × Value → H} {w : World} {r : Reach} {base : Nat} {v : Value} {d : DataW H} {p : List MemPlace} (hv : Value.okWide Try.prog w r base 38 v) (h : DataW.Trod enc Try.prog w 0 (fun _ => true) true 38 v d p) :
    ∃ (K A : Int) (ao : Option Addr) (n c : Nat) (l : List Nat) (b : Nat), v = .agg (turnedCells K A (.slice ao n c) b) ∧ b < 4294967296 ∧ Sl w ao n c (bts l) ∧ SmallB l ∧ n ≤ 9223372036854775807 := by
  obtain ⟨cs, rfl, hsz, hc⟩ := agg_of (ts := [3, 3, 22, 29]) Try.underlying38 rfl (by kernel_rfl) (by kernel_rfl) hv
  obtain ⟨x0, h0, o0⟩ := hc 0 3 rfl
  obtain ⟨x1, h1, o1⟩ := hc 1 3 rfl
  obtain ⟨x2, h2, o2⟩ := hc 2 22 rfl
  obtain ⟨x3, h3, o3⟩ := hc 3 29 rfl
  obtain ⟨K, rfl, _⟩ := cell_int Try.underlying3 o0
  obtain ⟨A, rfl, _⟩ := cell_int Try.underlying3 o1
  obtain ⟨b, rfl, hb⟩ := cell_int Try.underlying29 o3
  have hb2 := cell_slice Try.underlying22 o2
  obtain rfl : cs = #[.int .i64 K, .int .i64 A, x2, .int .u32 b] := by
    apply Array.ext_getElem?
    intro i
    match i with
    | 0 => rw [h0]; rfl
    | 1 => rw [h1]; rfl
    | 2 => rw [h2]; rfl
    | 3 => rw [h3]; rfl
    | i + 4 => rw [Array.getElem?_eq_none (by rw [hsz]; simp), Array.getElem?_eq_none (by simp)]
  obtain ⟨fuel, hf⟩ := h
  obtain ⟨xs, n, _, _, _, hxl, hfs⟩ := DataW.trod_struct Try.underlying38 hf
  have h22 := hfs 2 _ rfl
  obtain ⟨y, hy⟩ : ∃ y, xs[2]? = some y := ⟨_, List.getElem?_eq_getElem (by rw [hxl]; decide)⟩
  rw [hy] at h22
  obtain ⟨ax, nx, cx, rfl⟩ := hb2
  have h22' : DataW.trod enc Try.prog w 0 (fun _ => true) true n 22 (List.take (Try.prog.cellsOf 22) [.slice ax nx cx, .int .u32 b]) = some y := h22
  have c22 : Try.prog.cellsOf 22 = 1 := by kernel_rfl
  rw [c22] at h22'
  clear h22
  obtain ⟨ao, m, c, l, e, s1, s2, s3⟩ := bytes_of (v := .slice ax nx cx) (d := y.1) (p := y.2) Try.underlying22 Try.underlying5 (by kernel_rfl) ⟨_, _, _, rfl⟩ ⟨n, h22'⟩
  cases e
  have hb3 : 0 ≤ b ∧ b < 4294967296 := by
    have h1 := hb.1
    have h2 := hb.2
    rw [IntKind.min_u32] at h1
    rw [IntKind.max_u32] at h2
    omega
  refine ⟨K, A, ax, nx, cx, l, b.toNat, ?_, by omega, s1, s2, s3⟩
  unfold turnedCells
  rw [Int.toNat_of_nonneg hb3.1]

namespace lawFrameTurned
set_option maxRecDepth 100000 in
theorem lifted (os : Os) (started : os.Started) (H : Type) (enc : TypeId × Value → H) :
    ReturnsInHanded {} Try.checked os 5 .any (Rows.frameTurnedSpec.pre6 enc Try.prog Try.f5 Rows.frameTurnedRow.domain false) (Rows.frameTurnedSpec.post enc Try.prog Try.f5 false true false false) := by
  refine returnsInHanded_of_change (C := Try.checked) own started (by kernel_rfl) Try.func5
    (ChangeSpec.witness6 (enc := enc) (C := Try.checked) false ⟨#[], #[.agg (turnedCells 0 0 (.slice none 0 0) 0)], []⟩ 8 (by kernel_rfl) (by kernel_rfl) (by kernel_rfl) (by kernel_rfl)) ?_
  intro W base args ds gs before hval0 hW hcnd _
  have hval : ∀ (j : Nat) t v, Try.f5.params[j]? = some t → args[j]? = some v → Value.okWide Try.prog W .any base t v := hval0
  have hW' := hW
  obtain ⟨p, q, hA0, hV, rfl, hfz, hnd⟩ := hW
  have hA : DataW.TrodAll enc Try.prog W 0 (fun _ => true) true Try.f5.params.toList args.toList ds p := hA0
  rw [Try.params5] at hA hval
  obtain ⟨v0, vs0, d0, ds0, p0, q0, hargs, rfl, rfl, h0, r0⟩ := trodAll_cons hA
  obtain ⟨rfl, rfl, rfl⟩ := trodAll_nil r0
  obtain rfl : args = #[v0] := by cases args; simp_all
  obtain ⟨rfl, rfl⟩ := trodVars_none hV
  have lt0 : ∀ x ∈ p0, x.block < W.heap.size := by obtain ⟨m, hm⟩ := h0; exact DataW.trod_lt m _ _ _ hm
  obtain ⟨K, A, ao1, n1, c1, l1, b, rfl, hb, sl1, sm1, mx1⟩ := turned_of (hval 0 38 v0 rfl rfl) h0
  clear hA0 hval0
  refine ((fun (_ : World) => FrameTurned_walk K A b hb sl1 sm1 mx1) W).mono fun e W' he => ?_
  obtain ⟨rfl, g, rfl⟩ := he
  exact ⟨_, rfl, _, _, _, [], _, [], hW', trodAll_mk1 (shut_bool Try.underlying4 _), (trodAll_cons_mk (Below.trod laidOut (by kernel_rfl) (of_decide_eq_true (by kernel_rfl)) h0 g.below lt0) trodAll_mk0), rfl, g.below.frame _, fun h => by cases h⟩

theorem over : Rows.frameTurnedRow.holds Try.pinned (OpenSpec.ofChange Rows.frameTurnedSpec) :=
  OpenClaim.holds_of_wide 5 Try.f5 rfl rfl rfl rfl rfl rfl rfl ⟨rfl, rfl, rfl, rfl, rfl⟩ rfl rfl rfl rfl rfl (by kernel_rfl) Try.func5 (by kernel_rfl)
    (of_decide_eq_true (by kernel_rfl)) (by unfold Func.isWrapper; first | (rw [if_pos (by decide +kernel)]; kernel_rfl) | (rw [if_neg (by decide +kernel)]; exact ⟨rfl, rfl⟩))
    (fun os started H enc _ => lifted os started H enc)

theorem proved : Rows.FrameTurnedSaid := over
end lawFrameTurned
#print axioms lawFrameTurned.proved
end Go.Proofs.Ytjmhnflogbihdaa
