/- What is proved: the contract of the statement QuoteKnown, by a symbolic run, and of QuoteSays, by its walk. No condition. -/
import Derived.Test.YtigpdnbcjmcfoaaA7
namespace Go.Proofs.Ytigpdnbcjmcfoaa
open Go.RowKit Sx
set_option maxRecDepth 100000
set_option linter.unusedVariables false

def tree11 : Tree :=
 (.call 0 6200 [(.agg ([(.int .i64 (.lit 10)), (.int .i64 (.lit 1000)), (.int .i64 (.lit 5)), (.int .i64 (.lit 100)), (.int .i64 (.lit 1000)), (.int .i64 (.lit 3)), (.int .i64 (.lit 4)), (.int .i64 (.lit 2)), (.int .i64 (.lit 2))])), (.int .i64 (.lit 1000))]
 (.call 0 17200 [(.agg ([(.int .i64 (.lit 10)), (.int .i64 (.lit 1000)), (.int .i64 (.lit 5)), (.int .i64 (.lit 100)), (.int .i64 (.lit 1000)), (.int .i64 (.lit 3)), (.int .i64 (.lit 4)), (.int .i64 (.lit 2)), (.int .i64 (.lit 2))])), (.int .i64 (.lit 1))]
 (.call 0 28200 [(.agg ([(.int .i64 (.lit 10)), (.int .i64 (.lit 1000)), (.int .i64 (.lit 5)), (.int .i64 (.lit 100)), (.int .i64 (.lit 1000)), (.int .i64 (.lit 3)), (.int .i64 (.lit 4)), (.int .i64 (.lit 2)), (.int .i64 (.lit 2))])), (.int .i64 (.lit 0))]
 (.call 1 39200 [(.agg ([(.int .i64 (.lit 10)), (.int .i64 (.lit 1000)), (.int .i64 (.lit 5)), (.int .i64 (.lit 100)), (.int .i64 (.lit 1000)), (.int .i64 (.lit 3)), (.int .i64 (.lit 4)), (.int .i64 (.lit 2)), (.int .i64 (.lit 2))])), (.int .i64 (.lit 99)), (.int .i64 (.lit 1000))]
 (.call 0 50200 [(.agg ([(.int .i64 (.lit 10)), (.int .i64 (.lit 1000)), (.int .i64 (.lit 5)), (.int .i64 (.lit 100)), (.int .i64 (.lit 1000)), (.int .i64 (.lit 3)), (.int .i64 (.lit 4)), (.int .i64 (.lit 2)), (.int .i64 (.lit 2))])), (.int .i64 (.lit (-1)))]
 (.call 2 310200 [(.agg ([(.int .i64 (.lit (-1))), (.int .i64 (.lit 1000)), (.int .i64 (.lit 5)), (.int .i64 (.lit 100)), (.int .i64 (.lit 1000)), (.int .i64 (.lit 3)), (.int .i64 (.lit 4)), (.int .i64 (.lit 2)), (.int .i64 (.lit 2))]))]
 (.split (.cmp .eql (.var 310200) (.lit 15))
 (.call 2 325200 [(.agg ([(.int .i64 (.lit 10)), (.int .i64 (.lit 1000)), (.int .i64 (.lit 1125899906842625)), (.int .i64 (.lit 100)), (.int .i64 (.lit 1000)), (.int .i64 (.lit 3)), (.int .i64 (.lit 4)), (.int .i64 (.lit 2)), (.int .i64 (.lit 2))]))]
 (.split (.cmp .eql (.var 325200) (.lit 15))
 (.call 2 340200 [(.agg ([(.int .i64 (.lit 10)), (.int .i64 (.lit 1000)), (.int .i64 (.lit 5)), (.int .i64 (.lit 0)), (.int .i64 (.lit 1000)), (.int .i64 (.lit 3)), (.int .i64 (.lit 4)), (.int .i64 (.lit 2)), (.int .i64 (.lit 2))]))]
 (.split (.cmp .eql (.var 340200) (.lit 15))
 (.call 2 355200 [(.agg ([(.int .i64 (.lit 10)), (.int .i64 (.lit 1000)), (.int .i64 (.lit 5)), (.int .i64 (.lit 100)), (.int .i64 (.lit 99)), (.int .i64 (.lit 3)), (.int .i64 (.lit 4)), (.int .i64 (.lit 2)), (.int .i64 (.lit 2))]))]
 (.split (.cmp .eql (.var 355200) (.lit 15))
 (.call 2 370200 [(.agg ([(.int .i64 (.lit 10)), (.int .i64 (.lit 1000001)), (.int .i64 (.lit 5)), (.int .i64 (.lit 100)), (.int .i64 (.lit 1000)), (.int .i64 (.lit 3)), (.int .i64 (.lit 4)), (.int .i64 (.lit 2)), (.int .i64 (.lit 2))]))]
 (.split (.cmp .eql (.var 370200) (.lit 1))
 (.call 2 385200 [(.agg ([(.int .i64 (.lit 10)), (.int .i64 (.lit 1000)), (.int .i64 (.lit 5)), (.int .i64 (.lit 100)), (.int .i64 (.lit 1000)), (.int .i64 (.lit 0)), (.int .i64 (.lit 4)), (.int .i64 (.lit 2)), (.int .i64 (.lit 2))]))]
 (.split (.cmp .eql (.var 385200) (.lit 1))
 (.call 2 400200 [(.agg ([(.int .i64 (.lit 10)), (.int .i64 (.lit 1000)), (.int .i64 (.lit 5)), (.int .i64 (.lit 100)), (.int .i64 (.lit 1000)), (.int .i64 (.lit 3)), (.int .i64 (.lit 51)), (.int .i64 (.lit 2)), (.int .i64 (.lit 2))]))]
 (.split (.cmp .eql (.var 400200) (.lit 1))
 (.call 2 415200 [(.agg ([(.int .i64 (.lit 10)), (.int .i64 (.lit 1000)), (.int .i64 (.lit 5)), (.int .i64 (.lit 100)), (.int .i64 (.lit 1000)), (.int .i64 (.lit 3)), (.int .i64 (.lit 4)), (.int .i64 (.lit (-1))), (.int .i64 (.lit 2))]))]
 (.split (.cmp .eql (.var 415200) (.lit 1))
 (.call 2 430200 [(.agg ([(.int .i64 (.lit 10)), (.int .i64 (.lit 1000)), (.int .i64 (.lit 5)), (.int .i64 (.lit 100)), (.int .i64 (.lit 1000)), (.int .i64 (.lit 3)), (.int .i64 (.lit 4)), (.int .i64 (.lit 2)), (.int .i64 (.lit 11))]))]
 (.split (.cmp .eql (.var 430200) (.lit 1))
 (.call 2 445200 [(.agg ([(.int .i64 (.lit 10)), (.int .i64 (.lit 1000)), (.int .i64 (.lit 5)), (.int .i64 (.lit 100)), (.int .i64 (.lit 1125899906842625)), (.int .i64 (.lit 3)), (.int .i64 (.lit 4)), (.int .i64 (.lit 2)), (.int .i64 (.lit 2))]))]
 (.split (.cmp .eql (.var 445200) (.lit 15))
 (.call 2 460200 [(.agg ([(.int .i64 (.lit 10)), (.int .i64 (.lit 1000)), (.int .i64 (.lit 5)), (.int .i64 (.lit (-9223372036854775808))), (.int .i64 (.lit 1000)), (.int .i64 (.lit 3)), (.int .i64 (.lit 4)), (.int .i64 (.lit 2)), (.int .i64 (.lit 2))]))]
 (.split (.cmp .eql (.var 460200) (.lit 15))
 (.call 2 475200 [(.agg ([(.int .i64 (.lit 1125899906842624)), (.int .i64 (.lit 1000)), (.int .i64 (.lit 5)), (.int .i64 (.lit 100)), (.int .i64 (.lit 1000)), (.int .i64 (.lit 3)), (.int .i64 (.lit 4)), (.int .i64 (.lit 2)), (.int .i64 (.lit 2))]))]
 (.split (.cmp .eql (.var 475200) (.lit 0))
 (.call 1 489200 [(.agg ([(.int .i64 (.lit 1125899906842624)), (.int .i64 (.lit 1000)), (.int .i64 (.lit 5)), (.int .i64 (.lit 100)), (.int .i64 (.lit 1000)), (.int .i64 (.lit 3)), (.int .i64 (.lit 4)), (.int .i64 (.lit 2)), (.int .i64 (.lit 2))])), (.int .i64 (.lit 100)), (.int .i64 (.lit 100))]
 (.call 1 498200 [(.agg ([(.int .i64 (.lit (-1))), (.int .i64 (.lit 1000)), (.int .i64 (.lit 5)), (.int .i64 (.lit 100)), (.int .i64 (.lit 1000)), (.int .i64 (.lit 3)), (.int .i64 (.lit 4)), (.int .i64 (.lit 2)), (.int .i64 (.lit 2))])), (.int .i64 (.lit 0)), (.int .i64 (.lit 0))]
 (.split (.cmp .eql (.var 6200) (.lit 16))
 (.split (.cmp .eql (.var 6201) (.lit 0))
 (.split (.cmp .eql (.var 17200) (.lit 16))
 (.split (.cmp .eql (.var 17201) (.lit 0))
 (.split (.cmp .eql (.var 28200) (.lit 15))
 (.split (.cmp .eql (.var 28201) (.lit 0))
 (.split (.cmp .eql (.var 39201) (.lit 22))
 (.split (.cmp .eql (.var 50201) (.lit 15))
 (.split (.cmp .eql (.var 489201) (.lit 15))
 (.split (.cmp .eql (.var 498201) (.lit 15))
 (.call 3 543200 []
 (leafT (.bool (.var 543200)) .nil))
 (leafT (.bool (.lit false)) .nil))
 (leafT (.bool (.lit false)) .nil))
 (leafT (.bool (.lit false)) .nil))
 (leafT (.bool (.lit false)) .nil))
 (leafT (.bool (.lit false)) .nil))
 (leafT (.bool (.lit false)) .nil))
 (leafT (.bool (.lit false)) .nil))
 (leafT (.bool (.lit false)) .nil))
 (leafT (.bool (.lit false)) .nil))
 (leafT (.bool (.lit false)) .nil))))
 (leafT (.bool (.lit false)) .nil)))
 (leafT (.bool (.lit false)) .nil)))
 (leafT (.bool (.lit false)) .nil)))
 (leafT (.bool (.lit false)) .nil)))
 (leafT (.bool (.lit false)) .nil)))
 (leafT (.bool (.lit false)) .nil)))
 (leafT (.bool (.lit false)) .nil)))
 (leafT (.bool (.lit false)) .nil)))
 (leafT (.bool (.lit false)) .nil)))
 (leafT (.bool (.lit false)) .nil)))
 (leafT (.bool (.lit false)) .nil)))
 (leafT (.bool (.lit false)) .nil))))))))
set_option maxHeartbeats 1000000 in
theorem qknown_holds : (b0C 11).holds Try.prog (nilS (.bool true)) := by
  refine con_of_run (cs := [i2C 27, i2C 29, i1C 31, b0C 33]) (S := [term1S feeV, term2S quoteV, termS, nilS (.bool true)]) (LT := []) (depth := 2) (fuel := 60) (nv := 200) (av := []) (T := tree11) ⟨fee_holds, quote_holds, check_holds, known20_holds, trivial⟩ (by kernel_rfl) (by kernel_rfl) (by kernel_rfl) ?_
  rintro _ _ ⟨rfl, rfl⟩
  refine ⟨noLoops, Env.ofL [], rfl, ?_⟩
  unfold tree11
  refine sem_call (term1S feeV) (Env.ofL [.int .i64 16, .int .i64 0]) rfl ⟨⟨10, 1000, 5, 100, 1000, 3, 4, 2, 2⟩, 1000, rfl, by kernel_rfl⟩ ?_
  refine sem_call (term1S feeV) (Env.ofL [.int .i64 16, .int .i64 0]) rfl ⟨⟨10, 1000, 5, 100, 1000, 3, 4, 2, 2⟩, 1, rfl, by kernel_rfl⟩ ?_
  refine sem_call (term1S feeV) (Env.ofL [.int .i64 15, .int .i64 0]) rfl ⟨⟨10, 1000, 5, 100, 1000, 3, 4, 2, 2⟩, 0, rfl, by kernel_rfl⟩ ?_
  refine sem_call (term2S quoteV) (Env.ofL [.int .i64 0, .int .i64 22]) rfl ⟨⟨10, 1000, 5, 100, 1000, 3, 4, 2, 2⟩, 99, 1000, rfl, by kernel_rfl⟩ ?_
  refine sem_call (term1S feeV) (Env.ofL [.int .i64 0, .int .i64 15]) rfl ⟨⟨10, 1000, 5, 100, 1000, 3, 4, 2, 2⟩, -1, rfl, by kernel_rfl⟩ ?_
  refine sem_call termS (Env.ofL [.int .i64 15]) rfl ⟨⟨-1, 1000, 5, 100, 1000, 3, 4, 2, 2⟩, rfl, by kernel_rfl⟩ ?_
  refine sem_split (fun _ => ?_) (fun c => Bool.noConfusion c)
  refine sem_call termS (Env.ofL [.int .i64 15]) rfl ⟨⟨10, 1000, 1125899906842625, 100, 1000, 3, 4, 2, 2⟩, rfl, by kernel_rfl⟩ ?_
  refine sem_split (fun _ => ?_) (fun c => Bool.noConfusion c)
  refine sem_call termS (Env.ofL [.int .i64 15]) rfl ⟨⟨10, 1000, 5, 0, 1000, 3, 4, 2, 2⟩, rfl, by kernel_rfl⟩ ?_
  refine sem_split (fun _ => ?_) (fun c => Bool.noConfusion c)
  refine sem_call termS (Env.ofL [.int .i64 15]) rfl ⟨⟨10, 1000, 5, 100, 99, 3, 4, 2, 2⟩, rfl, by kernel_rfl⟩ ?_
  refine sem_split (fun _ => ?_) (fun c => Bool.noConfusion c)
  refine sem_call termS (Env.ofL [.int .i64 1]) rfl ⟨⟨10, 1000001, 5, 100, 1000, 3, 4, 2, 2⟩, rfl, by kernel_rfl⟩ ?_
  refine sem_split (fun _ => ?_) (fun c => Bool.noConfusion c)
  refine sem_call termS (Env.ofL [.int .i64 1]) rfl ⟨⟨10, 1000, 5, 100, 1000, 0, 4, 2, 2⟩, rfl, by kernel_rfl⟩ ?_
  refine sem_split (fun _ => ?_) (fun c => Bool.noConfusion c)
  refine sem_call termS (Env.ofL [.int .i64 1]) rfl ⟨⟨10, 1000, 5, 100, 1000, 3, 51, 2, 2⟩, rfl, by kernel_rfl⟩ ?_
  refine sem_split (fun _ => ?_) (fun c => Bool.noConfusion c)
  refine sem_call termS (Env.ofL [.int .i64 1]) rfl ⟨⟨10, 1000, 5, 100, 1000, 3, 4, -1, 2⟩, rfl, by kernel_rfl⟩ ?_
  refine sem_split (fun _ => ?_) (fun c => Bool.noConfusion c)
  refine sem_call termS (Env.ofL [.int .i64 1]) rfl ⟨⟨10, 1000, 5, 100, 1000, 3, 4, 2, 11⟩, rfl, by kernel_rfl⟩ ?_
  refine sem_split (fun _ => ?_) (fun c => Bool.noConfusion c)
  refine sem_call termS (Env.ofL [.int .i64 15]) rfl ⟨⟨10, 1000, 5, 100, 1125899906842625, 3, 4, 2, 2⟩, rfl, by kernel_rfl⟩ ?_
  refine sem_split (fun _ => ?_) (fun c => Bool.noConfusion c)
  refine sem_call termS (Env.ofL [.int .i64 15]) rfl ⟨⟨10, 1000, 5, -9223372036854775808, 1000, 3, 4, 2, 2⟩, rfl, by kernel_rfl⟩ ?_
  refine sem_split (fun _ => ?_) (fun c => Bool.noConfusion c)
  refine sem_call termS (Env.ofL [.int .i64 0]) rfl ⟨⟨1125899906842624, 1000, 5, 100, 1000, 3, 4, 2, 2⟩, rfl, by kernel_rfl⟩ ?_
  refine sem_split (fun _ => ?_) (fun c => Bool.noConfusion c)
  refine sem_call (term2S quoteV) (Env.ofL [.int .i64 0, .int .i64 15]) rfl ⟨⟨1125899906842624, 1000, 5, 100, 1000, 3, 4, 2, 2⟩, 100, 100, rfl, by kernel_rfl⟩ ?_
  refine sem_call (term2S quoteV) (Env.ofL [.int .i64 0, .int .i64 15]) rfl ⟨⟨-1, 1000, 5, 100, 1000, 3, 4, 2, 2⟩, 0, 0, rfl, by kernel_rfl⟩ ?_
  refine sem_split (fun _ => ?_) (fun c => Bool.noConfusion c)
  refine sem_split (fun _ => ?_) (fun c => Bool.noConfusion c)
  refine sem_split (fun _ => ?_) (fun c => Bool.noConfusion c)
  refine sem_split (fun _ => ?_) (fun c => Bool.noConfusion c)
  refine sem_split (fun _ => ?_) (fun c => Bool.noConfusion c)
  refine sem_split (fun _ => ?_) (fun c => Bool.noConfusion c)
  refine sem_split (fun _ => ?_) (fun c => Bool.noConfusion c)
  refine sem_split (fun _ => ?_) (fun c => Bool.noConfusion c)
  refine sem_split (fun _ => ?_) (fun c => Bool.noConfusion c)
  refine sem_split (fun _ => ?_) (fun c => Bool.noConfusion c)
  refine call_nil (v := .bool true) rfl ?_
  exact leafBt

theorem Chk_any (t : Tm) (w : World) : Calls Try.prog 31 #[.agg t.cells] w (Ret (.int .i64 (chkT t)) w) := ret_of_con check_holds rfl ⟨t, rfl, rfl⟩ w
theorem refChk_any (t : Tm) (w : World) : Calls Try.prog 32 #[.agg t.cells] w (Ret (.int .i64 (chkT t)) w) := ret_of_con refCheck_holds rfl ⟨t, rfl, rfl⟩ w
theorem Fee_any (t : Tm) (a : Int) (w : World) : Calls Try.prog 27 #[.agg t.cells, .int .i64 a] w (Ret (pairV (feeV t a)) w) := ret_of_con fee_holds rfl ⟨t, a, rfl, rfl⟩ w
theorem refFee_any (t : Tm) (a : Int) (w : World) : Calls Try.prog 28 #[.agg t.cells, .int .i64 a] w (Ret (pairV (feeV t a)) w) := ret_of_con refFee_holds rfl ⟨t, a, rfl, rfl⟩ w
theorem Quote_any (t : Tm) (a b : Int) (w : World) : Calls Try.prog 29 #[.agg t.cells, .int .i64 a, .int .i64 b] w (Ret (pairV (quoteV t a b)) w) := ret_of_con quote_holds rfl ⟨t, a, b, rfl, rfl⟩ w
theorem refQuote_any (t : Tm) (a b : Int) (w : World) : Calls Try.prog 30 #[.agg t.cells, .int .i64 a, .int .i64 b] w (Ret (pairV (quoteV t a b)) w) := ret_of_con refQuote_holds rfl ⟨t, a, b, rfl, rfl⟩ w
theorem Known20_any (w : World) : Calls Try.prog 33 #[] w (Ret (.bool true) w) := ret_of_con known20_holds rfl ⟨rfl, rfl⟩ w
end Go.Proofs.Ytigpdnbcjmcfoaa
