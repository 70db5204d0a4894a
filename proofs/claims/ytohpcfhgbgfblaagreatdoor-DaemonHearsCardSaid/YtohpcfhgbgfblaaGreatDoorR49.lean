/- What is proved: parts of the walk and of the plain law, 1 texts in one. No condition but those each law names. -/
import Derived.Test.YtohpcfhgbgfblaaGreatDoorR48
import Derived.Test.YtohpcfhgbgfblaaGreatDoorCards
import Derived.Test.YtohpcfhgbgfblaaGreatDoorTie
import Derived.ProofKit
import Derived.Lay
import Derived.DataReads
namespace Go.Proofs.YtohpcfhgbgfblaaGreatDoor
open Go.ChangeShapes Go.WideShapes Go.ChangeAt Go.RowKit
set_option linter.unusedVariables false
set_option maxRecDepth 100000
theorem own26 : ownKnob Tryz.prog.godebug = none := by kernel_rfl
theorem laidOut : laidOutB Tryz.prog = true := by kernel_rfl
theorem heard_of {H : Type} {enc : TypeId × Value → H} {w : World} {r : Reach} {base : Nat} {v : Value} {d : DataW H} {p : List MemPlace} (hv : Value.okWide Tryz.prog w r base 25 v) (h : DataW.Trod enc Tryz.prog w 0 (fun _ => true) true 25 v d p) :
    ∃ (q : Hd) (l : List Nat), v = .agg q.cells ∧ Sl w q.ao q.k q.c (bts l) ∧ Small l ∧ l.length = q.k := by
  obtain ⟨cs, rfl, hsz, hc⟩ := agg_of (ts := [3, 3, 22, 3, 3, 3]) Tryz.underlying25 rfl (by kernel_rfl) (by kernel_rfl) hv
  obtain ⟨x0, h0, o0⟩ := hc 0 3 rfl
  obtain ⟨x1, h1, o1⟩ := hc 1 3 rfl
  obtain ⟨x2, h2, o2⟩ := hc 2 22 rfl
  obtain ⟨x3, h3, o3⟩ := hc 3 3 rfl
  obtain ⟨x4, h4, o4⟩ := hc 4 3 rfl
  obtain ⟨x5, h5, o5⟩ := hc 5 3 rfl
  obtain ⟨a0, rfl, _⟩ := cell_int Tryz.underlying3 o0
  obtain ⟨a1, rfl, _⟩ := cell_int Tryz.underlying3 o1
  obtain ⟨a3, rfl, _⟩ := cell_int Tryz.underlying3 o3
  obtain ⟨a4, rfl, _⟩ := cell_int Tryz.underlying3 o4
  obtain ⟨a5, rfl, _⟩ := cell_int Tryz.underlying3 o5
  obtain ⟨ax, nx, cx, rfl⟩ := cell_slice Tryz.underlying22 o2
  obtain rfl : cs = #[.int .i64 a0, .int .i64 a1, .slice ax nx cx, .int .i64 a3, .int .i64 a4, .int .i64 a5] := by
    apply Array.ext_getElem?
    intro i
    match i with
    | 0 => rw [h0]; rfl
    | 1 => rw [h1]; rfl
    | 2 => rw [h2]; rfl
    | 3 => rw [h3]; rfl
    | 4 => rw [h4]; rfl
    | 5 => rw [h5]; rfl
    | i + 6 => rw [Array.getElem?_eq_none (by rw [hsz]; simp), Array.getElem?_eq_none (by simp)]
  obtain ⟨fuel, hf⟩ := h
  obtain ⟨xs, n, _, _, _, hxl, hfs⟩ := DataW.trod_struct Tryz.underlying25 hf
  have h22 := hfs 2 _ rfl
  obtain ⟨y, hy⟩ : ∃ y, xs[2]? = some y := ⟨_, List.getElem?_eq_getElem (by rw [hxl]; decide)⟩
  rw [hy] at h22
  have h22' : DataW.trod enc Tryz.prog w 0 (fun _ => true) true n 22 (List.take (Tryz.prog.cellsOf 22) [.slice ax nx cx, .int .i64 a3, .int .i64 a4, .int .i64 a5]) = some y := h22
  have c22 : Tryz.prog.cellsOf 22 = 1 := by kernel_rfl
  rw [c22] at h22'
  clear h22
  obtain ⟨ao, m, c, l, e, s1, s2, s3⟩ := bytes_of (v := .slice ax nx cx) (d := y.1) (p := y.2) Tryz.underlying22 Tryz.underlying5 (by kernel_rfl) ⟨_, _, _, rfl⟩ ⟨n, h22'⟩
  cases e
  exact ⟨⟨a0, a1, ax, nx, cx, ⟨a3, a4, a5⟩⟩, l, rfl, s1, s2, by have := s1.len; simpa [bts] using this⟩

theorem door_met (os : Os) (args : Array Value) : laidMetH Tryz.prog laid3 ((World.laidAll Tryz.prog os laid3).forCall (fun _ _ => 0) ⟨#[], args, []⟩).memory := by
  rw [MakeChecks.laidMetH_plain _ _ _ (by kernel_rfl)]
  exact laidMet_laidAll args (by kernel_rfl) (by kernel_rfl)

namespace lawDaemonHears
theorem lifted (os : Os) (started : os.Started) (H : Type) (enc : TypeId × Value → H) :
    ReturnsInHanded {} Tryz.checked os 3 .any (fun w args => (Rows.daemonHearsSpec.pre enc Tryz.prog Tryz.f3 [] false w args ∧ laidMetH Tryz.prog laid3 w) ∧ sizedMet enc Tryz.prog Tryz.f3 (OpenSpec.ofChange Rows.daemonHearsSpec) false w args)
      (Rows.daemonHearsSpec.post enc Tryz.prog Tryz.f3 false true false false) := by
  refine returnsInHanded_of_change_and (C := Tryz.checked) (X := fun w _ => laidMetH Tryz.prog laid3 w) (fun _ _ _ hh h => h.of_heap hh) own26 started (by kernel_rfl) Tryz.func3
    (ChangeSpec.witness_shaped (enc := enc) (C := Tryz.checked) (os := os) (X := fun w _ => laidMetH Tryz.prog laid3 w) false (World.laidAll Tryz.prog os laid3) #[.agg #[.int .i64 0, .int .i64 0, .slice none 0 0, .int .i64 0, .int .i64 0, .int .i64 0]] 8 rfl (World.shaped_of_ZipB (by kernel_rfl) (by kernel_rfl)) (by kernel_rfl) (by kernel_rfl) (by kernel_rfl) (door_met os _)) ?_
  intro W base args ds gs before hval0 hW _ _ hL _
  have hval : ∀ (j : Nat) t v, Tryz.f3.params[j]? = some t → args[j]? = some v → Value.okWide Tryz.prog W .any base t v := hval0
  have hW' := hW
  obtain ⟨p, q, hA0, hV, rfl, hfz, hnd⟩ := hW
  have hA : DataW.TrodAll enc Tryz.prog W 0 (fun _ => true) true Tryz.f3.params.toList args.toList ds p := hA0
  rw [Tryz.params3] at hA hval
  obtain ⟨v0, vs0, d0, ds0, p0, q0, hargs, rfl, rfl, h0, r0⟩ := trodAll_cons hA
  obtain ⟨rfl, rfl, rfl⟩ := trodAll_nil r0
  obtain rfl : args = #[v0] := by cases args; simp_all
  obtain ⟨rfl, rfl⟩ := trodVars_none hV
  have lt0 : ∀ x ∈ p0, x.block < W.heap.size := by obtain ⟨m, hm⟩ := h0; exact DataW.trod_lt m _ _ _ hm
  obtain ⟨hd, l, rfl, s1, s2, s3⟩ := heard_of (hval 0 25 v0 rfl rfl) h0
  obtain ⟨hf, ht⟩ := of_laid hL
  clear hA0 hval0
  refine (hears_any hf ht s1 s2 s3).mono fun e W' he => ?_
  obtain ⟨rfl, hb⟩ := he
  exact ⟨_, rfl, _, _, _, [], _, [], hW', trodAll_mk1 (shut_bool Tryz.underlying4 _), (trodAll_cons_mk (Below.trod laidOut (by kernel_rfl) (of_decide_eq_true (by kernel_rfl)) h0 hb lt0) trodAll_mk0), rfl, hb.frame _, fun h => by cases h⟩
theorem over : Rows.DaemonHearsSaid :=
  OpenClaim.holds_of_wide 3 Tryz.f3 rfl rfl rfl rfl rfl rfl rfl ⟨rfl, rfl, rfl, rfl, rfl⟩ rfl rfl rfl rfl rfl (by kernel_rfl) Tryz.func3 (by kernel_rfl)
    (of_decide_eq_true (by kernel_rfl)) (by unfold Func.isWrapper; first | (rw [if_pos (by decide +kernel)]; kernel_rfl) | (rw [if_neg (by decide +kernel)]; exact ⟨rfl, rfl⟩))
    (fun os started H enc _ => lifted os started H enc)
theorem proved : Rows.DaemonHearsCardSaid :=
  Claim7.holds_tied_plain_at .later [] [.widerDeep, .data, .widerDeep] true (true, "362e38caae5c24c215a9d7af055aa1da19a0c72111d0921e993c34e770a9d39c") true
    over (fun _ h => by cases h) (by kernel_rfl) (fun _ h => by cases h) daemonHears_row_tie rfl ⟨rfl, rfl⟩ (by kernel_rfl) rfl
    (fun f fn hf hfn => by
      obtain rfl : f = 3 := Option.some.inj ((show Tryz.prog.funcNamed "mangrove/mangrovelaw26.DaemonHears" = some 3 by kernel_rfl).symm.trans hf) |>.symm
      obtain rfl : fn = Tryz.f3 := (Option.some.inj (Tryz.func3.symm.trans hfn)).symm
      exact ⟨by kernel_rfl, fun j t ht => by
        rw [Tryz.params3] at ht
        have h3 : t = 25 := by
          rcases j with _ | j
          · simpa using ht.symm
          · simp at ht
        subst h3
        exact (show Tryz.prog.wantsStandIn 25 = false by kernel_rfl)⟩)
    (by kernel_rfl)
end lawDaemonHears
#print axioms lawDaemonHears.proved
end Go.Proofs.YtohpcfhgbgfblaaGreatDoor
