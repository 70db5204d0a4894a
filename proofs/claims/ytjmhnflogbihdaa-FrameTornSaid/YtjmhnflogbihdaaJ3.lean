/- What is proved: FrameTorn of layer 4 returns true for every input, and its arguments read as before. No condition. -/
import Derived.Test.YtjmhnflogbihdaaJ2
import Derived.Test.YtjmhnflogbihdaaP
import Derived.Test.YtjmhnflogbihdaaShapeS
import Derived.DataReads
namespace Go.Proofs.Ytjmhnflogbihdaa
open Go.ChangeShapes Go.WideShapes Go.ChangeAt Go.RowKit
set_option linter.unusedVariables false

theorem frame_of {H : Type} {enc : TypeId × Value → H} {w : World} {a : Addr} {n : Nat} {y : DataW H × List MemPlace} (h : (w.cells? 0 a 2).bind (DataW.trod enc Try.prog w 0 (fun _ => true) true n 33) = some y) :
    ∃ f : Fm, w.cell? a = some (.int .i64 f.kind) ∧ w.cell? (a.add 1) = some f.val ∧ Sl w f.ao f.body.length f.cap (bts f.body) ∧ SmallB f.body ∧ f.body.length ≤ 9223372036854775807 := by
  rw [Option.bind_eq_some_iff] at h
  obtain ⟨cs, hcs, hf⟩ := h
  obtain ⟨_, hl, hc⟩ := World.cells?_some hcs
  match cs, hl with
  | [x0, x1], _ =>
    have h0 := hc 0 (by decide)
    have h1 := hc 1 (by decide)
    obtain ⟨xs, n', _, _, _, hxl, hfs⟩ := DataW.trod_struct Try.underlying33 hf
    have f0 := hfs 0 _ rfl
    have f1 := hfs 1 _ rfl
    obtain ⟨y0, hy0⟩ : ∃ y, xs[0]? = some y := ⟨_, List.getElem?_eq_getElem (by rw [hxl]; decide)⟩
    obtain ⟨y1, hy1⟩ : ∃ y, xs[1]? = some y := ⟨_, List.getElem?_eq_getElem (by rw [hxl]; decide)⟩
    rw [hy0] at f0
    rw [hy1] at f1
    have f0' : DataW.trod enc Try.prog w 0 (fun _ => true) true n' 3 (List.take (Try.prog.cellsOf 3) [x0, x1]) = some y0 := f0
    have f1' : DataW.trod enc Try.prog w 0 (fun _ => true) true n' 22 (List.take (Try.prog.cellsOf 22) [x1]) = some y1 := f1
    have c3 : Try.prog.cellsOf 3 = 1 := by kernel_rfl
    have c22 : Try.prog.cellsOf 22 = 1 := by kernel_rfl
    rw [c3] at f0'
    rw [c22] at f1'
    obtain ⟨k, hk, _⟩ := DataW.trod_int Try.underlying3 f0'
    obtain rfl : x0 = .int .i64 k := by simpa using hk
    have hsl : ∃ ax nx cx, x1 = .slice ax nx cx := by
      rcases DataW.trod_slice Try.underlying22 f1' with ⟨h, _⟩ | ⟨a, len, cap, _, _, _, _, h, _⟩
      · exact ⟨_, _, _, by simpa using h⟩
      · exact ⟨_, _, _, by simpa using h⟩
    obtain ⟨ax, nx, cx, rfl⟩ := hsl
    obtain ⟨ao, m, c, l, e, s1, s2, s3⟩ := bytes_of (v := .slice ax nx cx) (d := y1.1) (p := y1.2) Try.underlying22 Try.underlying5 (by kernel_rfl) ⟨_, _, _, rfl⟩ ⟨n', f1'⟩
    cases e
    have hln : l.length = nx := by rw [← s1.len, bts_length]
    subst hln
    refine ⟨⟨k, l, ax, cx⟩, ?_, ?_, s1, s2, s3⟩
    · have := h0; rw [add_zero_addr] at this; exact this
    · exact h1

theorem frames_of {H : Type} {enc : TypeId × Value → H} {w : World} {v : Value} {d : DataW H} {p : List MemPlace} (hv : ∃ a n c, v = .slice a n c) (h : DataW.Trod enc Try.prog w 0 (fun _ => true) true 42 v d p) :
    ∃ ao n c L, v = .slice ao n c ∧ FrR w ao n c L ∧ (∀ f ∈ L, Small f.body) ∧ (∀ f ∈ L, f.body.length ≤ 9223372036854775807) ∧ n ≤ 9223372036854775807 := by
  obtain ⟨a, n, c, rfl⟩ := hv
  obtain ⟨m, hm⟩ := h
  rcases DataW.trod_slice Try.underlying42 hm with ⟨h1, _⟩ | ⟨a', len, cap, elems, rest, n', _, h1, _, _, hle, hmx, hlen, hel, _⟩
  · have : Value.slice a n c = .slice none 0 0 := by simpa [Value.cells] using h1
    cases this
    exact ⟨none, 0, 0, [], rfl, ⟨rfl, Nat.le_refl _, fun _ => rfl, fun i f hf => by simp at hf⟩, (fun f hf => by simp at hf), (fun f hf => by simp at hf), by omega⟩
  · have : Value.slice a n c = .slice (some a') len cap := by simpa [Value.cells] using h1
    cases this
    have c33 : Try.prog.cellsOf 33 = 2 := by kernel_rfl
    rw [c33] at hel
    have H : ∀ i : Nat, ∃ f : Fm, i < n → w.cell? (a'.add (i * 2)) = some (.int .i64 f.kind) ∧ w.cell? ((a'.add (i * 2)).add 1) = some f.val ∧ Sl w f.ao f.body.length f.cap (bts f.body) ∧ SmallB f.body ∧ f.body.length ≤ 9223372036854775807 := fun i => by
      by_cases hi : i < n
      · have he := hel i hi
        rw [List.getElem?_eq_getElem (show i < elems.length by omega)] at he
        obtain ⟨f, hf⟩ := frame_of he
        exact ⟨f, fun _ => hf⟩
      · exact ⟨⟨0, [], none, 0⟩, fun h => absurd h hi⟩
    obtain ⟨F, hF⟩ := Classical.axiomOfChoice H
    have hat : ∀ (i : Nat) f, ((List.range n).map F)[i]? = some f → i < n ∧ f = F i := fun i f hf => by
      rw [List.getElem?_map, Option.map_eq_some_iff] at hf
      obtain ⟨j, hj, rfl⟩ := hf
      have hi : i < n := by simpa using (List.getElem?_eq_some_iff.1 hj).1
      rw [List.getElem?_range hi] at hj
      cases hj
      exact ⟨hi, rfl⟩
    have hmem : ∀ f ∈ (List.range n).map F, ∃ i, i < n ∧ f = F i := fun f hf => by
      obtain ⟨i, hi⟩ := List.getElem?_of_mem hf
      exact ⟨i, hat i f hi⟩
    refine ⟨some a', n, c, (List.range n).map F, rfl, ⟨by simp, hle, fun h => by (cases h), fun i f hf => ?_⟩, fun f hf => ?_, fun f hf => ?_, by simp only [maxLen] at hmx; omega⟩
    · obtain ⟨hi, rfl⟩ := hat i f hf
      obtain ⟨q1, q2, q3, _⟩ := hF i hi
      have hp := plain_of_cell (hF 0 (by omega)).1
      have ha : a' = ⟨a'.block, a'.off, none⟩ := by rwa [Nat.zero_mul, add_zero_addr] at hp
      rw [ha, add_plain_addr] at q1
      rw [ha, add_plain_addr, add_plain_addr] at q2
      exact ⟨a'.block, a'.off, congrArg some ha, q1, q2, q3⟩
    · obtain ⟨i, hi, rfl⟩ := hmem f hf
      exact (hF i hi).2.2.2.1
    · obtain ⟨i, hi, rfl⟩ := hmem f hf
      exact (hF i hi).2.2.2.2

namespace lawFrameTorn
set_option maxRecDepth 100000 in
theorem lifted (os : Os) (started : os.Started) (H : Type) (enc : TypeId × Value → H) :
    ReturnsInHanded {} Try.checked os 7 .any (Rows.frameTornSpec.pre6 enc Try.prog Try.f7 Rows.frameTornRow.domain false) (Rows.frameTornSpec.post enc Try.prog Try.f7 false true false false) := by
  refine returnsInHanded_of_change (C := Try.checked) own started (by kernel_rfl) Try.func7
    (ChangeSpec.witness6 (enc := enc) (C := Try.checked) false ⟨#[], #[.slice none 0 0, .int .i64 0], []⟩ 8 (by kernel_rfl) (by kernel_rfl) (by kernel_rfl) (by kernel_rfl)) ?_
  intro W base args ds gs before hval0 hW hcnd _
  have hval : ∀ (j : Nat) t v, Try.f7.params[j]? = some t → args[j]? = some v → Value.okWide Try.prog W .any base t v := hval0
  have hW' := hW
  obtain ⟨p, q, hA0, hV, rfl, hfz, hnd⟩ := hW
  have hA : DataW.TrodAll enc Try.prog W 0 (fun _ => true) true Try.f7.params.toList args.toList ds p := hA0
  rw [Try.params7] at hA hval
  obtain ⟨v0, vs0, d0, ds0, p0, q0, hargs, rfl, rfl, h0, r0⟩ := trodAll_cons hA
  obtain ⟨v1, vs1, d1, ds1, p1, q1, rfl, rfl, rfl, h1, r1⟩ := trodAll_cons r0
  obtain ⟨rfl, rfl, rfl⟩ := trodAll_nil r1
  obtain rfl : args = #[v0, v1] := by cases args; simp_all
  obtain ⟨rfl, rfl⟩ := trodVars_none hV
  have lt0 : ∀ x ∈ p0, x.block < W.heap.size := by obtain ⟨m, hm⟩ := h0; exact DataW.trod_lt m _ _ _ hm
  obtain ⟨ao1, n1, c1, l1, rfl, sl1, sm1, sx1, mx1⟩ := frames_of (okWide_slice Try.underlying42 (hval 0 42 v0 rfl rfl)) h0
  have lt1 : ∀ x ∈ p1, x.block < W.heap.size := by obtain ⟨m, hm⟩ := h1; exact DataW.trod_lt m _ _ _ hm
  obtain ⟨a1, rfl⟩ := okWide_int Try.underlying3 (hval 1 3 v1 rfl rfl)
  clear hA0 hval0
  refine ((fun (_ : World) => FrameTorn_walk sl1 sm1 sx1 mx1 a1) W).mono fun e W' he => ?_
  obtain ⟨rfl, g, rfl⟩ := he
  exact ⟨_, rfl, _, _, _, [], _, [], hW', trodAll_mk1 (shut_bool Try.underlying4 _), (trodAll_cons_mk (Below.trod laidOut (by kernel_rfl) (of_decide_eq_true (by kernel_rfl)) h0 g.below lt0) (trodAll_cons_mk (Below.trod laidOut (by kernel_rfl) (of_decide_eq_true (by kernel_rfl)) h1 g.below lt1) trodAll_mk0)), rfl, g.below.frame _, fun h => by cases h⟩

theorem over : Rows.frameTornRow.holds Try.pinned (OpenSpec.ofChange Rows.frameTornSpec) :=
  OpenClaim.holds_of_wide 7 Try.f7 rfl rfl rfl rfl rfl rfl rfl ⟨rfl, rfl, rfl, rfl, rfl⟩ rfl rfl rfl rfl rfl (by kernel_rfl) Try.func7 (by kernel_rfl)
    (of_decide_eq_true (by kernel_rfl)) (by unfold Func.isWrapper; first | (rw [if_pos (by decide +kernel)]; kernel_rfl) | (rw [if_neg (by decide +kernel)]; exact ⟨rfl, rfl⟩))
    (fun os started H enc _ => lifted os started H enc)

theorem proved : Rows.FrameTornSaid := over
end lawFrameTorn
#print axioms lawFrameTorn.proved
end Go.Proofs.Ytjmhnflogbihdaa
