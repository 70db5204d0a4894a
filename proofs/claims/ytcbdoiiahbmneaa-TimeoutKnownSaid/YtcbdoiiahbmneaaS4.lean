/- What is proved: TimeoutSafe of layer 19 returns true for every input, and its arguments read as before. No condition. -/
import Derived.Test.YtcbdoiiahbmneaaS2
import Derived.Test.YtcbdoiiahbmneaaS3a
import Derived.Test.YtcbdoiiahbmneaaS3b
import Derived.Test.YtcbdoiiahbmneaaS3c
import Derived.Test.YtcbdoiiahbmneaaP
namespace Go.Proofs.Ytcbdoiiahbmneaa
open Go.ChangeShapes Go.WideShapes Go.ChangeAt Go.RowKit
set_option linter.unusedVariables false

theorem TimeoutSafe_walk (t : T) (first : Bool) (p q a b c x y : Int) (w : World) :
    Calls Try.prog 4 #[(.agg t.cells), .bool first, .int .i64 p, .int .i64 q, (.agg #[.int .i64 a, .int .i64 b, .int .i64 c]), .int .i64 x, .int .i64 y] w (Ret (.bool true) w) := by
  by_cases h1 : t.lo < 0
  · go_enter Try.func4, Try.ntmps4
    go_wp2_with (first | (go_at_call 7; refine (Right_no1 t h1 _).mono ?_; rintro _ _ ⟨rfl, g, rfl⟩; have sg0 : w.heap.size < g.val.heap.size := (Nat.lt_of_lt_of_le (by go_size) g.size); have sg1 : w.heap.size + 1 < g.val.heap.size := (Nat.lt_of_lt_of_le (by go_size) g.size)) | (go_at_call 8; refine (works_any _).mono ?_; rintro _ _ ⟨rfl, g2, rfl⟩))
    go_ret
    (refine Ret.mk ?_; (repeat' (first | (with_reducible exact Below.refl _ _) | (with_reducible assumption) | (with_reducible refine Ext.up _ ?_) | (with_reducible refine Below.alloc ?_ ?_ _) | (with_reducible refine Below.drew ?_) | (with_reducible refine Below.setCell ?_ ?_ _) | (with_reducible refine Below.setRow_ ?_ ?_ _) | go_size)))
  by_cases h2 : 1024 < t.hi
  · go_enter Try.func4, Try.ntmps4
    go_wp2_with (first | (go_at_call 7; refine (Right_no2 t (by omega) h2 _).mono ?_; rintro _ _ ⟨rfl, g, rfl⟩; have sg0 : w.heap.size < g.val.heap.size := (Nat.lt_of_lt_of_le (by go_size) g.size); have sg1 : w.heap.size + 1 < g.val.heap.size := (Nat.lt_of_lt_of_le (by go_size) g.size)) | (go_at_call 8; refine (works_any _).mono ?_; rintro _ _ ⟨rfl, g2, rfl⟩))
    go_ret
    (refine Ret.mk ?_; (repeat' (first | (with_reducible exact Below.refl _ _) | (with_reducible assumption) | (with_reducible refine Ext.up _ ?_) | (with_reducible refine Below.alloc ?_ ?_ _) | (with_reducible refine Below.drew ?_) | (with_reducible refine Below.setCell ?_ ?_ _) | (with_reducible refine Below.setRow_ ?_ ?_ _) | go_size)))
  have ht := T.ok_of (t := t) (by omega) (by omega)
  by_cases hf : t.fast < 1
  · go_enter Try.func4, Try.ntmps4
    go_wp2_with (first | (go_at_call 7; refine (Right_yes t (by omega) (by omega) _).mono ?_; rintro _ _ ⟨rfl, g, rfl⟩; have sg0 : w.heap.size < g.val.heap.size := (Nat.lt_of_lt_of_le (by go_size) g.size); have sg1 : w.heap.size + 1 < g.val.heap.size := (Nat.lt_of_lt_of_le (by go_size) g.size)) | (go_at_call 8; refine (works_any _).mono ?_; rintro _ _ ⟨rfl, g2, rfl⟩))
    go_ret
    (refine Ret.mk ?_; (repeat' (first | (with_reducible exact Below.refl _ _) | (with_reducible assumption) | (with_reducible refine Ext.up _ ?_) | (with_reducible refine Below.alloc ?_ ?_ _) | (with_reducible refine Below.drew ?_) | (with_reducible refine Below.setCell ?_ ?_ _) | (with_reducible refine Below.setRow_ ?_ ?_ _) | go_size)))
  cases first
  · have b1 := pick_bd p 3 (by omega)
    have b2 := pick_bd q 2 (by omega)
    rcases (by omega : pick p 3 = 0 ∨ pick p 3 = 1 ∨ pick p 3 = 2) with e1 | e1 | e1 <;> rcases (by omega : pick q 2 = 0 ∨ pick q 2 = 1) with e2 | e2
    · exact Safe_second01 t ht (by omega) (by omega) (by omega) p q a b c x y e1 (by rw [e1, e2]; rfl) w
    · exact Safe_second02 t ht (by omega) (by omega) (by omega) p q a b c x y e1 (by rw [e1, e2]; rfl) w
    · exact Safe_second12 t ht (by omega) (by omega) (by omega) p q a b c x y e1 (by rw [e1, e2]; rfl) w
    · exact Safe_second10 t ht (by omega) (by omega) (by omega) p q a b c x y e1 (by rw [e1, e2]; rfl) w
    · exact Safe_second20 t ht (by omega) (by omega) (by omega) p q a b c x y e1 (by rw [e1, e2]; rfl) w
    · exact Safe_second21 t ht (by omega) (by omega) (by omega) p q a b c x y e1 (by rw [e1, e2]; rfl) w
  · exact Safe_first t ht (by omega) (by omega) (by omega) p q a b c x y _ _ rfl rfl w

namespace lawTimeoutSafe
set_option maxRecDepth 100000 in
theorem lifted (os : Os) (started : os.Started) (H : Type) (enc : TypeId × Value → H) :
    ReturnsInHanded {} Try.checked os 4 .any (Rows.timeoutSafeSpec.pre6 enc Try.prog Try.f4 Rows.timeoutSafeRow.domain false) (Rows.timeoutSafeSpec.post enc Try.prog Try.f4 false true false false) := by
  refine returnsInHanded_of_change (C := Try.checked) own started (by kernel_rfl) Try.func4
    (ChangeSpec.witness6 (enc := enc) (C := Try.checked) false ⟨#[], #[.agg (⟨0, 0, 0, 0, 0, 0, 0, 0, 0⟩ : T).cells, .bool false, .int .i64 0, .int .i64 0, .agg #[.int .i64 0, .int .i64 0, .int .i64 0], .int .i64 0, .int .i64 0], []⟩ 8 (by kernel_rfl) (by kernel_rfl) (by kernel_rfl) (by kernel_rfl)) ?_
  intro W base args ds gs before hval0 hW hcnd _
  have hval : ∀ (j : Nat) t v, Try.f4.params[j]? = some t → args[j]? = some v → Value.okWide Try.prog W .any base t v := hval0
  have hW' := hW
  obtain ⟨p, q, hA0, hV, rfl, hfz, hnd⟩ := hW
  have hA : DataW.TrodAll enc Try.prog W 0 (fun _ => true) true Try.f4.params.toList args.toList ds p := hA0
  rw [Try.params4] at hA hval
  obtain ⟨v0, vs0, d0, ds0, p0, q0, hargs, rfl, rfl, h0, r0⟩ := trodAll_cons hA
  obtain ⟨v1, vs1, d1, ds1, p1, q1, rfl, rfl, rfl, h1, r1⟩ := trodAll_cons r0
  obtain ⟨v2, vs2, d2, ds2, p2, q2, rfl, rfl, rfl, h2, r2⟩ := trodAll_cons r1
  obtain ⟨v3, vs3, d3, ds3, p3, q3, rfl, rfl, rfl, h3, r3⟩ := trodAll_cons r2
  obtain ⟨v4, vs4, d4, ds4, p4, q4, rfl, rfl, rfl, h4, r4⟩ := trodAll_cons r3
  obtain ⟨v5, vs5, d5, ds5, p5, q5, rfl, rfl, rfl, h5, r5⟩ := trodAll_cons r4
  obtain ⟨v6, vs6, d6, ds6, p6, q6, rfl, rfl, rfl, h6, r6⟩ := trodAll_cons r5
  obtain ⟨rfl, rfl, rfl⟩ := trodAll_nil r6
  obtain rfl : args = #[v0, v1, v2, v3, v4, v5, v6] := by cases args; simp_all
  obtain ⟨rfl, rfl⟩ := trodVars_none hV
  have lt0 : ∀ x ∈ p0, x.block < W.heap.size := by obtain ⟨m, hm⟩ := h0; exact DataW.trod_lt m _ _ _ hm
  obtain ⟨t, rfl⟩ := T_of (hval 0 23 v0 rfl rfl)
  have lt1 : ∀ x ∈ p1, x.block < W.heap.size := by obtain ⟨m, hm⟩ := h1; exact DataW.trod_lt m _ _ _ hm
  obtain ⟨a1, rfl⟩ := okWide_bool Try.underlying4 (hval 1 4 v1 rfl rfl)
  have lt2 : ∀ x ∈ p2, x.block < W.heap.size := by obtain ⟨m, hm⟩ := h2; exact DataW.trod_lt m _ _ _ hm
  obtain ⟨a2, rfl⟩ := okWide_int Try.underlying3 (hval 2 3 v2 rfl rfl)
  have lt3 : ∀ x ∈ p3, x.block < W.heap.size := by obtain ⟨m, hm⟩ := h3; exact DataW.trod_lt m _ _ _ hm
  obtain ⟨a3, rfl⟩ := okWide_int Try.underlying3 (hval 3 3 v3 rfl rfl)
  have lt4 : ∀ x ∈ p4, x.block < W.heap.size := by obtain ⟨m, hm⟩ := h4; exact DataW.trod_lt m _ _ _ hm
  obtain ⟨a, b, c, rfl⟩ := N_of (hval 4 30 v4 rfl rfl)
  have lt5 : ∀ x ∈ p5, x.block < W.heap.size := by obtain ⟨m, hm⟩ := h5; exact DataW.trod_lt m _ _ _ hm
  obtain ⟨a5, rfl⟩ := okWide_int Try.underlying3 (hval 5 3 v5 rfl rfl)
  have lt6 : ∀ x ∈ p6, x.block < W.heap.size := by obtain ⟨m, hm⟩ := h6; exact DataW.trod_lt m _ _ _ hm
  obtain ⟨a6, rfl⟩ := okWide_int Try.underlying3 (hval 6 3 v6 rfl rfl)
  clear hA0 hval0
  refine (TimeoutSafe_walk t a1 a2 a3 a b c a5 a6 W).mono fun e W' he => ?_
  obtain ⟨rfl, g, rfl⟩ := he
  exact ⟨_, rfl, _, _, _, [], _, [], hW', trodAll_mk1 (shut_bool Try.underlying4 _), (trodAll_cons_mk (Below.trod laidOut (by kernel_rfl) (of_decide_eq_true (by kernel_rfl)) h0 g.below lt0) (trodAll_cons_mk (Below.trod laidOut (by kernel_rfl) (of_decide_eq_true (by kernel_rfl)) h1 g.below lt1) (trodAll_cons_mk (Below.trod laidOut (by kernel_rfl) (of_decide_eq_true (by kernel_rfl)) h2 g.below lt2) (trodAll_cons_mk (Below.trod laidOut (by kernel_rfl) (of_decide_eq_true (by kernel_rfl)) h3 g.below lt3) (trodAll_cons_mk (Below.trod laidOut (by kernel_rfl) (of_decide_eq_true (by kernel_rfl)) h4 g.below lt4) (trodAll_cons_mk (Below.trod laidOut (by kernel_rfl) (of_decide_eq_true (by kernel_rfl)) h5 g.below lt5) (trodAll_cons_mk (Below.trod laidOut (by kernel_rfl) (of_decide_eq_true (by kernel_rfl)) h6 g.below lt6) trodAll_mk0))))))), rfl, g.below.frame _, fun h => by cases h⟩

theorem over : Rows.timeoutSafeRow.holds Try.pinned (OpenSpec.ofChange Rows.timeoutSafeSpec) :=
  OpenClaim.holds_of_wide 4 Try.f4 rfl rfl rfl rfl rfl rfl rfl ⟨rfl, rfl, rfl, rfl, rfl⟩ rfl rfl rfl rfl rfl (by kernel_rfl) Try.func4 (by kernel_rfl)
    (of_decide_eq_true (by kernel_rfl)) (by unfold Func.isWrapper; first | (rw [if_pos (by decide +kernel)]; kernel_rfl) | (rw [if_neg (by decide +kernel)]; exact ⟨rfl, rfl⟩))
    (fun os started H enc _ => lifted os started H enc)

theorem proved : Rows.TimeoutSafeSaid := over
end lawTimeoutSafe
#print axioms lawTimeoutSafe.proved
end Go.Proofs.Ytcbdoiiahbmneaa
