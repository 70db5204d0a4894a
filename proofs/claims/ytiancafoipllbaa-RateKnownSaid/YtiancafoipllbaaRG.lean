/- What is proved: RateKnown answers true. No condition. -/
import Derived.Test.YtiancafoipllbaaRF
namespace Go.Proofs.Ytiancafoipllbaa
open Go.RowKit Fl Ieee
attribute [-go_sem] binOp_float_cmp_eql binOp_float_cmp_neq binOp_float_cmp_lss binOp_float_cmp_leq binOp_float_cmp_gtr binOp_float_cmp_geq
attribute [local go_sem] Fl.cmp_eql Fl.cmp_neq Fl.cmp_lss Fl.cmp_leq Fl.cmp_gtr Fl.cmp_geq
set_option maxRecDepth 100000

theorem copysign_ext (w : World) : Calls Try.prog 24 #[.float .f64 0, .float .f64 13830554455654793216] w fun e w' => e = .returned (.float .f64 9223372036854775808) ∧ w' = w := by
  have h0 : ∀ w, (callFunc 31 #[.float .f64 0]).run Try.prog w = .ok (.value (.int .u64 0)) w := ext_bits 0
  have h1 : ∀ w, (callFunc 31 #[.float .f64 13830554455654793216]).run Try.prog w = .ok (.value (.int .u64 13830554455654793216)) w := ext_bits 13830554455654793216
  have h2 := ext_from 9223372036854775808
  have b1 : bits .andNot .u64 0 9223372036854775808 = 0 := by decide +kernel
  have b2 : bits .and .u64 13830554455654793216 9223372036854775808 = 9223372036854775808 := by decide +kernel
  have b3 : bits .or .u64 0 9223372036854775808 = 9223372036854775808 := by decide +kernel
  go_enter Try.func24, Try.ntmps24
  go_wp2
  go_ret
  exact ⟨rfl, rfl⟩
theorem isnan_any (a : Nat) (w : World) : Calls Try.prog 38 #[.float .f64 a] w fun e w' => e = .returned (.bool (!eqB a a)) ∧ w' = w := by
  go_enter Try.func38, Try.ntmps38
  go_wp2
  go_ret
  exact ⟨rfl, rfl⟩
theorem next_ext (w : World) : Calls Try.prog 27 #[.float .f64 4696837146684686336, .float .f64 4701340746312056832] w fun e w' => e = .returned (.float .f64 4696837146684686337) ∧ w' = w := by
  have h1 : ∀ w, (callFunc 31 #[.float .f64 4696837146684686336]).run Try.prog w = .ok (.value (.int .u64 4696837146684686336)) w := ext_bits 4696837146684686336
  have h2 := ext_from 4696837146684686337
  have c1 : eqB 4696837146684686336 4696837146684686336 = true := by decide +kernel
  have c2 : eqB 4701340746312056832 4701340746312056832 = true := by decide +kernel
  have c3 : eqB 4696837146684686336 4701340746312056832 = false := by decide +kernel
  have c4 : eqB 4696837146684686336 0 = false := by decide +kernel
  have c5 : gtB 4701340746312056832 4696837146684686336 = true := by decide +kernel
  have c6 : gtB 4696837146684686336 0 = true := by decide +kernel
  go_enter Try.func27, Try.ntmps27
  go_wp2_with (go_at_call 38; refine (isnan_any _ _).mono ?_; rintro _ _ ⟨rfl, rfl⟩)
  go_ret
  exact ⟨rfl, rfl⟩
theorem inf_neg (w : World) : Calls Try.prog 26 #[.int .i64 (-1)] w fun e w' => e = .returned (.float .f64 18442240474082181120) ∧ w' = w := by
  have hx := ext_from 18442240474082181120
  go_enter Try.func26, Try.ntmps26
  go_wp2
  go_ret
  exact ⟨rfl, rfl⟩
/-- What is no rate. -/
def bads : List Nat := [9221120237041090561, 9218868437227405312, 18442240474082181120, 13830554455654793216, 9223372036854775809, 4696837155274620928, 9218868437227405311, 4696837146684686337]
theorem bads_no : ∀ z ∈ bads, okB z = false := by decide +kernel
theorem sorts_none : SortsAt [] [] := by
  have h := sorts_small [] (Nat.zero_le _)
  rw [show sortL [] = [] from List.mergeSort_nil] at h
  exact h
theorem med_none {z : Nat} (h : okB z = false) (v : Value) (w : World) (hL : Floats w.heap.size w v [z]) : Calls Try.prog 11 #[v] w fun e W' => e = .returned (.tuple #[.float .f64 0, .int .i64 12]) ∧ Below w.heap.size w W' := by
  have hr : rights [z] = [] := by unfold rights; rw [List.filter_cons_of_neg (by rw [h]; decide)]; rfl
  exact median_any [z] [] (by rw [hr]; exact sorts_none) (show 1 ≤ maxLen by decide) (show 1 * 8 ≤ 140737488351232 by decide) v w hL
theorem sorts_41 : SortsAt (rights [4616189618054758400, 4607182418800017408]) [4607182418800017408, 4616189618054758400] := by
  have hr : rights [4616189618054758400, 4607182418800017408] = [4616189618054758400, 4607182418800017408] := by decide +kernel
  obtain ⟨x1, h1⟩ : ∃ x : Fn, x.1 = 4607182418800017408 := ⟨⟨4607182418800017408, by decide⟩, rfl⟩
  obtain ⟨x2, h2⟩ : ∃ x : Fn, x.1 = 4616189618054758400 := ⟨⟨4616189618054758400, by decide⟩, rfl⟩
  have h := sorts_small [x2, x1] (show 2 ≤ 12 by decide)
  have hs : sortL [x2, x1] = [x1, x2] := sortL_eq (List.Perm.swap x2 x1 []) (by simp [List.pairwise_cons, ltF, h1, h2])
  rw [hs] at h
  rw [hr]
  simpa [h1, h2] using h
theorem sorts_0 : SortsAt (rights [9223372036854775808]) [0] := by
  have hr : rights [9223372036854775808] = [0] := by decide +kernel
  obtain ⟨x1, h1⟩ : ∃ x : Fn, x.1 = 0 := ⟨⟨0, by decide⟩, rfl⟩
  have h := sorts_small [x1] (show 1 ≤ 12 by decide)
  have hs : sortL [x1] = [x1] := sortL_eq (List.Perm.refl _) (List.pairwise_singleton _ _)
  rw [hs] at h
  rw [hr]
  simpa [h1] using h
/-- A slice just made. -/
theorem floats_new (w : World) (zs : List Nat) (n : Nat) (h : n = zs.length) : Floats (w.alloc (.cells (zs.map (Value.float .f64)).toArray 24)).heap.size (w.alloc (.cells (zs.map (Value.float .f64)).toArray 24)) (.slice (some ⟨w.heap.size, 0, none⟩) n n) zs := by
  subst h
  refine .inr ⟨w.heap.size, 0, zs.length, rfl, by simp, fun j hj => ?_⟩
  rw [cell_row, Nat.zero_add]
  simp [hj]
theorem kf1 (w : World) : Calls Try.prog 15 #[.float .f64 9223372036854775808, .int .i64 9] w fun e w' => e = .returned (.tuple #[.int .i64 0, .int .i64 0]) ∧ w' = w :=
  fee_ok _ 9223372036854775808 9223372036854775808 9 0 w (by decide +kernel) (by decide) (by decide) (by decide +kernel) (by decide +kernel) (by decide +kernel) (by decide +kernel)
theorem kf2 (w : World) : Calls Try.prog 15 #[.float .f64 4696837146684686336, .int .i64 1048576] w fun e w' => e = .returned (.tuple #[.int .i64 1048576000000, .int .i64 0]) ∧ w' = w :=
  fee_ok _ 4786909139232096256 4786909139232096256 1048576 1048576000000 w (by decide +kernel) (by decide) (by decide) (by decide +kernel) (by decide +kernel) (by decide +kernel) (by decide +kernel)
theorem kf3 (w : World) : Calls Try.prog 15 #[.float .f64 1, .int .i64 1] w fun e w' => e = .returned (.tuple #[.int .i64 1, .int .i64 0]) ∧ w' = w :=
  fee_ok _ 1 4607182418800017408 1 1 w (by decide +kernel) (by decide) (by decide) (by decide +kernel) (by decide +kernel) (by decide +kernel) (by decide +kernel)
theorem ko1 (w : World) : Calls Try.prog 20 #[.int .i64 1, .int .i64 2] w fun e w' => e = .returned (.tuple #[.float .f64 4602678819172646912, .int .i64 0]) ∧ w' = w :=
  of_ok 1 2 4602678819172646912 4602678819172646912 w (by decide) (by decide) (by decide) (by decide) (by decide +kernel) (by decide +kernel)
theorem ko2 (w : World) : Calls Try.prog 20 #[.int .i64 1125899906842624, .int .i64 1] w fun e w' => e = .returned (.tuple #[.float .f64 4696837146684686336, .int .i64 0]) ∧ w' = w :=
  of_ok 1125899906842624 1 4832362400168542208 4696837146684686336 w (by decide) (by decide) (by decide) (by decide) (by decide +kernel) (by decide +kernel)
theorem kb1 (w : World) : Calls Try.prog 17 #[.float .f64 4616189618054758400, .float .f64 4617315517961601024] w fun e w' => e = .returned (.tuple #[.float .f64 4617315517961601024, .int .i64 0]) ∧ w' = w := by
  have h := bump_ok 4616189618054758400 4617315517961601024 4617315517961601024 4617316643861507867 4617315517961601024 w (by decide +kernel) (by decide +kernel) (by decide +kernel) (by decide +kernel) (by decide +kernel)
  rwa [show plainW 4617315517961601024 = 4617315517961601024 by decide +kernel] at h
theorem kb2 (w : World) : Calls Try.prog 17 #[.float .f64 9223372036854775808, .float .f64 9223372036854775808] w fun e w' => e = .returned (.tuple #[.float .f64 0, .int .i64 0]) ∧ w' = w := by
  have h := bump_ok 9223372036854775808 9223372036854775808 9223372036854775808 4562254508917369340 9223372036854775808 w (by decide +kernel) (by decide +kernel) (by decide +kernel) (by decide +kernel) (by decide +kernel)
  rwa [show plainW 9223372036854775808 = 0 by decide +kernel] at h
theorem km1 (w : World) : Calls Try.prog 11 #[.slice (some ⟨w.heap.size, 0, none⟩) 2 2] (w.alloc (.cells #[.float .f64 4616189618054758400, .float .f64 4607182418800017408] 24)) fun e w' => e = .returned (.tuple #[.float .f64 4607182418800017408, .int .i64 0]) ∧ Below w.heap.size w w' := by
  refine (median_any [4616189618054758400, 4607182418800017408] _ sorts_41 (show 2 ≤ maxLen by decide) (show 2 * 8 ≤ 140737488351232 by decide) _ _ (floats_new w [4616189618054758400, 4607182418800017408] 2 rfl)).mono ?_
  rintro _ W ⟨rfl, hB⟩
  exact ⟨rfl, ((Below.refl _ w).alloc (Nat.le_refl _) _).trans (hB.mono (by simp))⟩
theorem km2 (w : World) : Calls Try.prog 11 #[.slice (some ⟨w.heap.size, 0, none⟩) 1 1] (w.alloc (.cells #[.float .f64 9223372036854775808] 24)) fun e w' => e = .returned (.tuple #[.float .f64 0, .int .i64 0]) ∧ Below w.heap.size w w' := by
  refine (median_any [9223372036854775808] _ sorts_0 (show 1 ≤ maxLen by decide) (show 1 * 8 ≤ 140737488351232 by decide) _ _ (floats_new w [9223372036854775808] 1 rfl)).mono ?_
  rintro _ W ⟨rfl, hB⟩
  exact ⟨rfl, ((Below.refl _ w).alloc (Nat.le_refl _) _).trans (hB.mono (by simp))⟩
theorem fa1 (w : World) : Calls Try.prog 15 #[.float .f64 4607182418800017408, .int .i64 1048577] w fun e w' => e = .returned (.tuple #[.int .i64 0, .int .i64 1]) ∧ w' = w := fee_arg _ _ w (by decide +kernel) (by decide)
theorem fa2 (w : World) : Calls Try.prog 15 #[.float .f64 4607182418800017408, .int .i64 (-1)] w fun e w' => e = .returned (.tuple #[.int .i64 0, .int .i64 1]) ∧ w' = w := fee_arg _ _ w (by decide +kernel) (by decide)
set_option maxHeartbeats 4000000 in
theorem Known9_any (w : World) : Calls Try.prog 9 #[] w (Ret (.bool true) w) := by
  go_enter Try.func9, Try.ntmps9
  go_wp2_with (first
    | (go_at_call 24; refine (copysign_ext _).mono ?_; rintro _ w1 ⟨rfl, e⟩; obtain rfl := e.symm)
    | (go_at_call 25; refine (nan_ext _).mono ?_; rintro _ w1 ⟨rfl, e⟩; obtain rfl := e.symm)
    | (go_at_call 26; refine (inf_ext _).mono ?_; rintro _ w1 ⟨rfl, e⟩; obtain rfl := e.symm)
    | (go_at_call 26; refine (inf_neg _).mono ?_; rintro _ w1 ⟨rfl, e⟩; obtain rfl := e.symm)
    | (go_at_call 27; refine (next_ext _).mono ?_; rintro _ w1 ⟨rfl, e⟩; obtain rfl := e.symm))
  have hB0 := (Below.refl w.heap.size w).alloc (Nat.le_refl _) (.cells (bads.map (Value.float .f64)).toArray 24)
  have hc0 : ∀ j (h : j < 8), (w.alloc (.cells (bads.map (Value.float .f64)).toArray 24)).cell? ⟨w.heap.size, j, none⟩ = some (.float .f64 (bads[j]'h)) := fun j h => by
    have h' : j < bads.length := h
    rw [cell_row, List.getElem?_toArray, List.getElem?_map, List.getElem?_eq_getElem h']
    rfl
  have hs0 : w.heap.size < (w.alloc (.cells (bads.map (Value.float .f64)).toArray 24)).heap.size := by simp
  have HB0 := Lib.hid hB0
  have HC0 := Lib.hid hc0
  have HS0 := Lib.hid hs0
  clear hB0 hc0 hs0
  change Code.wp _ _ _ _ (w.alloc (.cells (bads.map (Value.float .f64)).toArray 24))
  generalize w.alloc (.cells (bads.map (Value.float .f64)).toArray 24) = W0 at *
  go_loopw [3] (fun i wr => ∃ k : Nat, k ≤ 8 ∧ i = .int .i64 k ∧ Hid (Below W0.heap.size W0 wr)) (fun i _ => 8 - (intOf i).toNat)
  case atStart => exact ⟨0, Nat.zero_le _, rfl, Lib.hid (Below.refl _ _)⟩
  case round =>
    obtain ⟨k, hk, rfl, HB⟩ := hrel
    by_cases hlt : k < 8
    · obtain ⟨z, hz⟩ : ∃ z, z = bads[k]'hlt := ⟨_, rfl⟩
      have hno : okB z = false := by rw [hz]; exact bads_no _ (List.getElem_mem _)
      have hcell : wr.cell? ⟨w.heap.size, k, none⟩ = some (.float .f64 z) := by rw [hz]; exact (HB.out.cell (p := ⟨w.heap.size, k, none⟩) HS0.out).trans (HC0.out k hlt)
      have HN := Lib.hid hno
      clear hz hno
      go_wp2_with fail
      refine (fee_bad z _ _ HN.out).mono ?_
      rintro _ w1 ⟨rfl, e⟩
      obtain rfl := e.symm
      go_wp2_with fail
      refine (bump_bad z _ _ (.inl HN.out)).mono ?_
      rintro _ w1 ⟨rfl, e⟩
      obtain rfl := e.symm
      go_wp2_with fail
      refine (bump_bad _ z _ (.inr HN.out)).mono ?_
      rintro _ w1 ⟨rfl, e⟩
      obtain rfl := e.symm
      go_wp2_with fail
      have FL : Floats wr.heap.size wr (.slice (some ⟨w.heap.size, k, none⟩) 1 (8 - k)) [z] := .inr ⟨w.heap.size, k, 8 - k, rfl, Nat.lt_of_lt_of_le HS0.out HB.out.size, fun j hj => by
        obtain rfl : j = 0 := by simp at hj; omega
        exact hcell⟩
      refine (med_none HN.out _ _ FL).mono ?_
      rintro _ W2 ⟨rfl, hB2⟩
      have hcell2 : W2.cell? ⟨w.heap.size, k, none⟩ = some (.float .f64 z) := (hB2.cell (p := ⟨w.heap.size, k, none⟩) (Nat.lt_of_lt_of_le HS0.out HB.out.size)).trans hcell
      have HB2 := Lib.hid (HB.out.trans (hB2.mono HB.out.size))
      clear hB2 hcell FL
      go_wp2_with (go_at_call 16; refine (check_no z HN.out _).mono ?_; rintro _ w1 ⟨rfl, e⟩; obtain rfl := e.symm)
      go_roundw
      case rel => exact ⟨k + 1, by omega, by go_num, HB2⟩
      case measure => simp [intOf]; omega
    · obtain rfl : k = 8 := by omega
      have k1 : eqB 4602678819172646912 4602678819172646912 = true := by decide +kernel
      have k2 : eqB 4696837146684686336 4696837146684686336 = true := by decide +kernel
      have k3 : eqB 4607182418800017408 4607182418800017408 = true := by decide +kernel
      have k4 : eqB 0 0 = true := by decide +kernel
      have k5 : eqB 4617315517961601024 4617315517961601024 = true := by decide +kernel
      have hN : 0 < INF := by decide
      go_wp2_with (first
        | (go_at_call 15; with_reducible refine (kf1 _).mono ?_; rintro _ w1 ⟨rfl, e⟩; obtain rfl := e.symm)
        | (go_at_call 15; with_reducible refine (kf2 _).mono ?_; rintro _ w1 ⟨rfl, e⟩; obtain rfl := e.symm)
        | (go_at_call 20; with_reducible refine (ko1 _).mono ?_; rintro _ w1 ⟨rfl, e⟩; obtain rfl := e.symm)
        | (go_at_call 20; with_reducible refine (ko2 _).mono ?_; rintro _ w1 ⟨rfl, e⟩; obtain rfl := e.symm)
        | fail)
      refine (km1 _).mono ?_
      rintro _ W3 ⟨rfl, hB3⟩
      have HB3 := Lib.hid (HB.out.trans (hB3.mono HB.out.size))
      clear hB3
      go_wp2_with fail
      refine (km2 _).mono ?_
      rintro _ W4 ⟨rfl, hB4⟩
      have HB4 := Lib.hid (HB3.out.trans (hB4.mono HB3.out.size))
      clear hB4
      go_wp2_with fail
      refine (kb1 _).mono ?_
      rintro _ w1 ⟨rfl, e⟩
      obtain rfl := e.symm
      go_wp2_with fail
      refine (kb2 _).mono ?_
      rintro _ w1 ⟨rfl, e⟩
      obtain rfl := e.symm
      go_wp2_with fail
      refine (fa1 _).mono ?_
      rintro _ w1 ⟨rfl, e⟩
      obtain rfl := e.symm
      go_wp2_with fail
      refine (fa2 _).mono ?_
      rintro _ w1 ⟨rfl, e⟩
      obtain rfl := e.symm
      go_wp2_with fail
      refine (of_arg 1 0 _ (by decide) (by decide) (by decide)).mono ?_
      rintro _ w1 ⟨rfl, e⟩
      obtain rfl := e.symm
      go_wp2_with fail
      refine (of_bad (-1) 0 _ (by decide)).mono ?_
      rintro _ w1 ⟨rfl, e⟩
      obtain rfl := e.symm
      go_wp2_with fail
      refine (kf3 _).mono ?_
      rintro _ w1 ⟨rfl, e⟩
      obtain rfl := e.symm
      go_wp2_with (first
        | (go_at_call 18; refine (minus_any 0 hN _).mono ?_; rintro _ w1 ⟨rfl, e⟩; obtain rfl := e.symm)
        | (go_at_call 10; refine (known_any _).mono ?_; rintro _ W ⟨rfl, hB⟩))
      go_ret
      exact Ret.mk_of (HB0.out.trans ((HB4.out.trans (hB.mono HB4.out.size)).mono HB0.out.size)) rfl
end Go.Proofs.Ytiancafoipllbaa
