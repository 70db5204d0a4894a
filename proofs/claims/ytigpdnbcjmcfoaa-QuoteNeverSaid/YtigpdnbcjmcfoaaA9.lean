/- What is proved: the contract of the statement QuoteSays, by a symbolic run. No condition. -/
import Derived.Test.YtigpdnbcjmcfoaaA8
namespace Go.Proofs.Ytigpdnbcjmcfoaa
open Go.RowKit Sx
set_option maxRecDepth 100000
set_option linter.unusedSimpArgs false
set_option linter.unusedVariables false

def quoteR (t : Tm) (a f x y : Int) : Prop := x = (quoteV t a f).1 ∧ y = (quoteV t a f).2
theorem quoteR_ok (t : Tm) (a f : Int) : quoteR t a f (quoteV t a f).1 (quoteV t a f).2 := ⟨rfl, rfl⟩
def term2B : ConS := fun vs e => ∃ (t : Tm) (a f : Int), vs = [.agg t.cells, .int .i64 a, .int .i64 f] ∧ e = Env.ofL [.bool true]
def qsaysS : List ConS := [term1S feeV, term1S feeV, term2S quoteV, term2S quoteV, termS, termS, nilS (.bool true)]
theorem eql_den {ρ : Env} {a b : T} (h : a.den ρ = b.den ρ) : C.den ρ (.cmp .eql a b) = true := by rw [den_eql_t]; exact h
def tree9 : Tree :=
 (.call 0 4200 [(.agg (ivs .i64 0 9)), (.int .i64 (.var 9))]
 (.call 1 12200 [(.agg (ivs .i64 0 9)), (.int .i64 (.var 9))]
 (.call 2 21200 [(.agg (ivs .i64 0 9)), (.int .i64 (.var 9)), (.int .i64 (.var 10))]
 (.call 3 30200 [(.agg (ivs .i64 0 9)), (.int .i64 (.var 9)), (.int .i64 (.var 10))]
 (.or
 (.split (.cmp .eql (.var 4200) (.var 12200))
 (.split (.cmp .eql (.var 4201) (.var 12201))
 (.split (.cmp .eql (.var 21200) (.var 30200))
 (.split (.cmp .eql (.var 21201) (.var 30201))
 (.call 4 37200 [(.agg (ivs .i64 0 9))]
 (.call 5 39200 [(.agg (ivs .i64 0 9))]
 (.call 6 62200 []
 (.need (.cmp .eql (.var 37200) (.var 39200)) (leafT (.bool (.var 62200)) .nil)))))
 (.call 4 37200 [(.agg (ivs .i64 0 9))]
 (.call 5 39200 [(.agg (ivs .i64 0 9))]
 (.need (.cmp .eql (.var 37200) (.var 39200)) (leafT (.bool (.lit false)) .nil)))))
 (.call 4 37200 [(.agg (ivs .i64 0 9))]
 (.call 5 39200 [(.agg (ivs .i64 0 9))]
 (.need (.cmp .eql (.var 37200) (.var 39200)) (leafT (.bool (.lit false)) .nil)))))
 (.call 4 37200 [(.agg (ivs .i64 0 9))]
 (.call 5 39200 [(.agg (ivs .i64 0 9))]
 (.need (.cmp .eql (.var 37200) (.var 39200)) (leafT (.bool (.lit false)) .nil)))))
 (.call 4 37200 [(.agg (ivs .i64 0 9))]
 (.call 5 39200 [(.agg (ivs .i64 0 9))]
 (.need (.cmp .eql (.var 37200) (.var 39200)) (leafT (.bool (.lit false)) .nil)))))
 (.call 4 37200 [(.agg (ivs .i64 0 9))]
 (.call 5 39200 [(.agg (ivs .i64 0 9))]
 (.need (.not (.cmp .eql (.var 37200) (.var 39200))) (leafT (.bool (.lit false)) .nil)))))))))
set_option maxHeartbeats 4000000 in
theorem qsays_holds : (b0C 9).holds Try.prog term2B := by
  refine con_of_run (cs := [i2C 27, i2C 28, i2C 29, i2C 30, i1C 31, i1C 32, b0C 33]) (S := qsaysS) (LT := []) (depth := 0) (fuel := 10) (nv := 200) (av := [.agg (ivs .i64 0 9), .int .i64 (.var 9), .int .i64 (.var 10)]) (T := tree9) ⟨fee_holds, refFee_holds, quote_holds, refQuote_holds, check_holds, refCheck_holds, known20_holds, trivial⟩ (by kernel_rfl) (by kernel_rfl) (by kernel_rfl) ?_
  rintro _ _ ⟨t, a, f, rfl, rfl⟩
  refine ⟨noLoops, env9 t [.int .i64 a, .int .i64 f], rfl, ?_⟩
  have T0 := tm_env t [.int .i64 a, .int .i64 f]
  unfold tree9
  (repeat' (first | rfl | (with_reducible exact leafBt) | (with_reducible refine leafBf ?_) | (with_reducible exact T0 <;> (try simp only [den_lss_t, den_lss_f, den_leq_t, den_leq_f, den_gtr_t, den_gtr_f, den_geq_t, den_geq_f, den_eql_t, den_eql_f, den_iff_t, den_iff_f, T.den, intBin, intMin, intMax, from_i, from_b, Nat.reduceLT, Nat.reduceSub, if_true, if_false, ofL_i0, ofL_iS, IntKind.wrap_i64, IntKind.wrap_u64, ne_eq, Bool.false_eq_true, reduceIte, feeR, quoteR] at hx)) | (with_reducible refine TmAt.up ?_ T0 <;> (try simp only [den_lss_t, den_lss_f, den_leq_t, den_leq_f, den_gtr_t, den_gtr_f, den_geq_t, den_geq_f, den_eql_t, den_eql_f, den_iff_t, den_iff_f, T.den, intBin, intMin, intMax, from_i, from_b, Nat.reduceLT, Nat.reduceSub, if_true, if_false, ofL_i0, ofL_iS, IntKind.wrap_i64, IntKind.wrap_u64, ne_eq, Bool.false_eq_true, reduceIte, feeR, quoteR] at hx)) | (with_reducible refine TmAt.up ?_ (TmAt.up ?_ T0) <;> (try simp only [den_lss_t, den_lss_f, den_leq_t, den_leq_f, den_gtr_t, den_gtr_f, den_geq_t, den_geq_f, den_eql_t, den_eql_f, den_iff_t, den_iff_f, T.den, intBin, intMin, intMax, from_i, from_b, Nat.reduceLT, Nat.reduceSub, if_true, if_false, ofL_i0, ofL_iS, IntKind.wrap_i64, IntKind.wrap_u64, ne_eq, Bool.false_eq_true, reduceIte, feeR, quoteR] at hx)) | (with_reducible refine TmAt.up ?_ (TmAt.up ?_ (TmAt.up ?_ T0)) <;> (try simp only [den_lss_t, den_lss_f, den_leq_t, den_leq_f, den_gtr_t, den_gtr_f, den_geq_t, den_geq_f, den_eql_t, den_eql_f, den_iff_t, den_iff_f, T.den, intBin, intMin, intMax, from_i, from_b, Nat.reduceLT, Nat.reduceSub, if_true, if_false, ofL_i0, ofL_iS, IntKind.wrap_i64, IntKind.wrap_u64, ne_eq, Bool.false_eq_true, reduceIte, feeR, quoteR] at hx)) | (with_reducible refine TmAt.up ?_ (TmAt.up ?_ (TmAt.up ?_ (TmAt.up ?_ T0))) <;> (try simp only [den_lss_t, den_lss_f, den_leq_t, den_leq_f, den_gtr_t, den_gtr_f, den_geq_t, den_geq_f, den_eql_t, den_eql_f, den_iff_t, den_iff_f, T.den, intBin, intMin, intMax, from_i, from_b, Nat.reduceLT, Nat.reduceSub, if_true, if_false, ofL_i0, ofL_iS, IntKind.wrap_i64, IntKind.wrap_u64, ne_eq, Bool.false_eq_true, reduceIte, feeR, quoteR] at hx)) | (with_reducible refine TmAt.up ?_ (TmAt.up ?_ (TmAt.up ?_ (TmAt.up ?_ (TmAt.up ?_ T0)))) <;> (try simp only [den_lss_t, den_lss_f, den_leq_t, den_leq_f, den_gtr_t, den_gtr_f, den_geq_t, den_geq_f, den_eql_t, den_eql_f, den_iff_t, den_iff_f, T.den, intBin, intMin, intMax, from_i, from_b, Nat.reduceLT, Nat.reduceSub, if_true, if_false, ofL_i0, ofL_iS, IntKind.wrap_i64, IntKind.wrap_u64, ne_eq, Bool.false_eq_true, reduceIte, feeR, quoteR] at hx)) | (with_reducible refine call_term1 (t0 := t) (ci := 0) feeR_ok ?_ ?_ (fun x y hx => ?_) <;> (try simp only [den_lss_t, den_lss_f, den_leq_t, den_leq_f, den_gtr_t, den_gtr_f, den_geq_t, den_geq_f, den_eql_t, den_eql_f, den_iff_t, den_iff_f, T.den, intBin, intMin, intMax, from_i, from_b, Nat.reduceLT, Nat.reduceSub, if_true, if_false, ofL_i0, ofL_iS, IntKind.wrap_i64, IntKind.wrap_u64, ne_eq, Bool.false_eq_true, reduceIte, feeR, quoteR] at hx)) | (with_reducible refine call_term1 (t0 := t) (ci := 1) feeR_ok ?_ ?_ (fun x y hx => ?_) <;> (try simp only [den_lss_t, den_lss_f, den_leq_t, den_leq_f, den_gtr_t, den_gtr_f, den_geq_t, den_geq_f, den_eql_t, den_eql_f, den_iff_t, den_iff_f, T.den, intBin, intMin, intMax, from_i, from_b, Nat.reduceLT, Nat.reduceSub, if_true, if_false, ofL_i0, ofL_iS, IntKind.wrap_i64, IntKind.wrap_u64, ne_eq, Bool.false_eq_true, reduceIte, feeR, quoteR] at hx)) | (with_reducible refine call_term2 (t0 := t) (ci := 2) quoteR_ok ?_ ?_ (fun x y hx => ?_) <;> (try simp only [den_lss_t, den_lss_f, den_leq_t, den_leq_f, den_gtr_t, den_gtr_f, den_geq_t, den_geq_f, den_eql_t, den_eql_f, den_iff_t, den_iff_f, T.den, intBin, intMin, intMax, from_i, from_b, Nat.reduceLT, Nat.reduceSub, if_true, if_false, ofL_i0, ofL_iS, IntKind.wrap_i64, IntKind.wrap_u64, ne_eq, Bool.false_eq_true, reduceIte, feeR, quoteR] at hx)) | (with_reducible refine call_term2 (t0 := t) (ci := 3) quoteR_ok ?_ ?_ (fun x y hx => ?_) <;> (try simp only [den_lss_t, den_lss_f, den_leq_t, den_leq_f, den_gtr_t, den_gtr_f, den_geq_t, den_geq_f, den_eql_t, den_eql_f, den_iff_t, den_iff_f, T.den, intBin, intMin, intMax, from_i, from_b, Nat.reduceLT, Nat.reduceSub, if_true, if_false, ofL_i0, ofL_iS, IntKind.wrap_i64, IntKind.wrap_u64, ne_eq, Bool.false_eq_true, reduceIte, feeR, quoteR] at hx)) | (with_reducible refine call_term (t0 := t) (ci := 4) ?_ ?_ (fun x hx => ?_) <;> (try simp only [den_lss_t, den_lss_f, den_leq_t, den_leq_f, den_gtr_t, den_gtr_f, den_geq_t, den_geq_f, den_eql_t, den_eql_f, den_iff_t, den_iff_f, T.den, intBin, intMin, intMax, from_i, from_b, Nat.reduceLT, Nat.reduceSub, if_true, if_false, ofL_i0, ofL_iS, IntKind.wrap_i64, IntKind.wrap_u64, ne_eq, Bool.false_eq_true, reduceIte, feeR, quoteR] at hx)) | (with_reducible refine call_term (t0 := t) (ci := 5) ?_ ?_ (fun x hx => ?_) <;> (try simp only [den_lss_t, den_lss_f, den_leq_t, den_leq_f, den_gtr_t, den_gtr_f, den_geq_t, den_geq_f, den_eql_t, den_eql_f, den_iff_t, den_iff_f, T.den, intBin, intMin, intMax, from_i, from_b, Nat.reduceLT, Nat.reduceSub, if_true, if_false, ofL_i0, ofL_iS, IntKind.wrap_i64, IntKind.wrap_u64, ne_eq, Bool.false_eq_true, reduceIte, feeR, quoteR] at hx)) | (with_reducible refine call_nil (ci := 6) (v := .bool true) ?_ ?_ <;> (try simp only [den_lss_t, den_lss_f, den_leq_t, den_leq_f, den_gtr_t, den_gtr_f, den_geq_t, den_geq_f, den_eql_t, den_eql_f, den_iff_t, den_iff_f, T.den, intBin, intMin, intMax, from_i, from_b, Nat.reduceLT, Nat.reduceSub, if_true, if_false, ofL_i0, ofL_iS, IntKind.wrap_i64, IntKind.wrap_u64, ne_eq, Bool.false_eq_true, reduceIte, feeR, quoteR] at hx)) | (with_reducible refine sem_or1 ?_ <;> (try simp only [den_lss_t, den_lss_f, den_leq_t, den_leq_f, den_gtr_t, den_gtr_f, den_geq_t, den_geq_f, den_eql_t, den_eql_f, den_iff_t, den_iff_f, T.den, intBin, intMin, intMax, from_i, from_b, Nat.reduceLT, Nat.reduceSub, if_true, if_false, ofL_i0, ofL_iS, IntKind.wrap_i64, IntKind.wrap_u64, ne_eq, Bool.false_eq_true, reduceIte, feeR, quoteR] at hx)) | (with_reducible refine sem_need (eql_den ?_) ?_ <;> (try simp only [den_lss_t, den_lss_f, den_leq_t, den_leq_f, den_gtr_t, den_gtr_f, den_geq_t, den_geq_f, den_eql_t, den_eql_f, den_iff_t, den_iff_f, T.den, intBin, intMin, intMax, from_i, from_b, Nat.reduceLT, Nat.reduceSub, if_true, if_false, ofL_i0, ofL_iS, IntKind.wrap_i64, IntKind.wrap_u64, ne_eq, Bool.false_eq_true, reduceIte, feeR, quoteR] at hx)) | (with_reducible refine sem_split (fun h => ?_) (fun h => ?_) <;> (try simp only [den_lss_t, den_lss_f, den_leq_t, den_leq_f, den_gtr_t, den_gtr_f, den_geq_t, den_geq_f, den_eql_t, den_eql_f, den_iff_t, den_iff_f, T.den, intBin, intMin, intMax, from_i, from_b, Nat.reduceLT, Nat.reduceSub, if_true, if_false, ofL_i0, ofL_iS, IntKind.wrap_i64, IntKind.wrap_u64, ne_eq, Bool.false_eq_true, reduceIte, feeR, quoteR] at h))))
  all_goals first
    | omega
    | (simp only [T.den, from_i, Nat.reduceLT, Nat.reduceSub, if_true, if_false, ofL_i0, ofL_iS, reduceIte]; omega)
    | trace_state
end Go.Proofs.Ytigpdnbcjmcfoaa
