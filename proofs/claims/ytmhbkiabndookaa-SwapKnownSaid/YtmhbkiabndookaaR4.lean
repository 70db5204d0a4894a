/- What is proved: contracts of facts, step and moves (layer 23's statements), by symbolic runs. Condition: terms from 0 to 1024 where a step is taken. -/
import Derived.Test.YtmhbkiabndookaaSxN
import Derived.Test.YtmhbkiabndookaaR2
namespace Go.Proofs.Ytmhbkiabndookaa
open Go.RowKit Sx
set_option maxRecDepth 100000

def swapE (n : Nat) : List E := ivs .i64 n 8 ++ ivs .u8 (n + 8) 32 ++ ivs .i64 (n + 40) 2 ++ bvs (n + 42) 1 ++ ivs .u8 (n + 43) 32
def dealE (n : Nat) : List E := ivs .i64 n 8 ++ ivs .u8 (n + 8) 32 ++ ivs .i64 (n + 40) 1
def factE (n : Nat) : List E := ivs .i64 n 8 ++ bvs (n + 8) 1 ++ ivs .u8 (n + 9) 32
def playE (n : Nat) : List E := ivs .i64 n 10 ++ swapE (n + 10) ++ swapE (n + 85) ++ ivs .i64 (n + 160) 6 ++ bvs (n + 166) 1
theorem from_i (ρ s : Env) (b n : Nat) : (ρ.from_ b s).i n = if n < b then ρ.i n else s.i (n - b) := rfl
theorem from_b (ρ s : Env) (b n : Nat) : (ρ.from_ b s).b n = if n < b then ρ.b n else s.b (n - b) := rfl

def deepC : Con := mkCon 50 [] (.int .i64 (.var 0))
def deepS : ConS := fun vs e => ∃ a b : Int, vs = [.int .i64 a, .int .i64 b] ∧ e = Env.ofL [.int .i64 (deep a b)]
theorem deep_holds : deepC.holds Try.prog deepS := con_of_ret (by rintro _ _ ⟨a, b, rfl, rfl⟩ w; exact deep_any a b w) rfl
theorem fact_back (f : F) : E.val (Env.ofL f.cells.toList) lay0 (.agg (factE 0)) = .agg f.cells := by kernel_rfl
def penv (p : Py) : Env := Env.ofL p.cells.toList
section
variable (p : Py)
theorem pe9 : (penv p).i 9 = p.now := by kernel_rfl
theorem pe160 : (penv p).i 160 = p.l0.made := by kernel_rfl
theorem pe162 : (penv p).i 162 = p.l0.by_ := by kernel_rfl
theorem pe163 : (penv p).i 163 = p.l1.made := by kernel_rfl
theorem pe165 : (penv p).i 165 = p.l1.by_ := by kernel_rfl
end
def factsC : Con := mkCon 33 [(0, 167, none)] (.agg (factE 0))
def facts0S : ConS := fun vs e => ∃ p : Py, vs = [.agg p.cells, .int .i64 0] ∧ e = Env.ofL p.f0.cells.toList
def facts1S : ConS := fun vs e => ∃ p : Py, vs = [.agg p.cells, .int .i64 1] ∧ e = Env.ofL p.f1.cells.toList
def tree33a : Tree :=
 (.call 0 45200 [(.int .i64 (.var 9)), (.int .i64 (.var 160))]
 (.call 0 54200 [(.int .i64 (.var 9)), (.int .i64 (.var 163))]
 (.split (.cmp .eql (.var 162) (.lit 1))
 (.call 0 68200 [(.int .i64 (.var 9)), (.int .i64 (.var 161))]
 (.split (.cmp .eql (.var 165) (.lit 1))
 (.call 0 82200 [(.int .i64 (.var 9)), (.int .i64 (.var 164))]
 (leafT (.agg (cats [[(.int .i64 (.var 9)), (.int .i64 (.var 9)), (.int .i64 (.var 9)), (.int .i64 (.var 45200)), (.int .i64 (.var 54200)), (.int .i64 (.var 82200)), (.int .i64 (.lit 0)), (.int .i64 (.var 68200)), (.bool (.var 166)), (.int .u8 (.lit 9))], rep 31 (.int .u8 (.lit 0))])) .nil))
 (leafT (.agg (cats [[(.int .i64 (.var 9)), (.int .i64 (.var 9)), (.int .i64 (.var 9)), (.int .i64 (.var 45200)), (.int .i64 (.var 54200)), (.int .i64 (.lit 0)), (.int .i64 (.lit 0)), (.int .i64 (.var 68200)), (.bool (.var 166)), (.int .u8 (.lit 9))], rep 31 (.int .u8 (.lit 0))])) .nil)))
 (.split (.cmp .gtr (.var 162) (.lit 0))
 (.call 0 71200 [(.int .i64 (.var 9)), (.int .i64 (.var 161))]
 (.split (.cmp .eql (.var 165) (.lit 1))
 (.call 0 85200 [(.int .i64 (.var 9)), (.int .i64 (.var 164))]
 (leafT (.agg (cats [[(.int .i64 (.var 9)), (.int .i64 (.var 9)), (.int .i64 (.var 9)), (.int .i64 (.var 45200)), (.int .i64 (.var 54200)), (.int .i64 (.var 85200)), (.int .i64 (.var 71200)), (.int .i64 (.lit 0)), (.bool (.var 166)), (.int .u8 (.lit 9))], rep 31 (.int .u8 (.lit 0))])) .nil))
 (leafT (.agg (cats [[(.int .i64 (.var 9)), (.int .i64 (.var 9)), (.int .i64 (.var 9)), (.int .i64 (.var 45200)), (.int .i64 (.var 54200)), (.int .i64 (.lit 0)), (.int .i64 (.var 71200)), (.int .i64 (.lit 0)), (.bool (.var 166)), (.int .u8 (.lit 9))], rep 31 (.int .u8 (.lit 0))])) .nil)))
 (.split (.cmp .eql (.var 165) (.lit 1))
 (.call 0 76200 [(.int .i64 (.var 9)), (.int .i64 (.var 164))]
 (leafT (.agg (cats [[(.int .i64 (.var 9)), (.int .i64 (.var 9)), (.int .i64 (.var 9)), (.int .i64 (.var 45200)), (.int .i64 (.var 54200)), (.int .i64 (.var 76200)), (.int .i64 (.lit 0)), (.int .i64 (.lit 0)), (.bool (.var 166)), (.int .u8 (.lit 9))], rep 31 (.int .u8 (.lit 0))])) .nil))
 (leafT (.agg (cats [[(.int .i64 (.var 9)), (.int .i64 (.var 9)), (.int .i64 (.var 9)), (.int .i64 (.var 45200)), (.int .i64 (.var 54200)), (.int .i64 (.lit 0)), (.int .i64 (.lit 0)), (.int .i64 (.lit 0)), (.bool (.var 166)), (.int .u8 (.lit 9))], rep 31 (.int .u8 (.lit 0))])) .nil))))))
theorem facts0 : factsC.holds Try.prog facts0S := by
  refine con_of_run (cs := [deepC]) (S := [deepS]) (LT := []) (depth := 0) (fuel := 10) (nv := 200) (av := [.agg (playE 0), .int .i64 (.lit 0)]) (T := tree33a) ⟨deep_holds, trivial⟩ (by kernel_rfl) (by kernel_rfl) (by kernel_rfl) ?_
  rintro _ _ ⟨p, rfl, rfl⟩
  refine ⟨noLoops, penv p, by kernel_rfl, ?_⟩
  repeat' first
    | (refine sem_split (fun h => ?_) (fun h => ?_) <;> simp only [C.den, T.den, intCmp, from_i, Nat.reduceLT, if_true, pe162, pe165, beq_iff_eq, beq_eq_false_iff_ne, ne_eq, decide_eq_true_eq, decide_eq_false_iff_not] at h)
    | refine sem_call deepS _ rfl ⟨_, _, rfl, rfl⟩ ?_
  all_goals
    refine sem_ret rfl ?_ ⟨trivial, trivial⟩
    rw [fact_back]
    simp only [Py.f0, factsOf, Int.zero_add, gt_iff_lt, if_true, if_false, *] at *
    kernel_rfl
def tree33b : Tree :=
 (.call 0 45200 [(.int .i64 (.var 9)), (.int .i64 (.var 163))]
 (.call 0 54200 [(.int .i64 (.var 9)), (.int .i64 (.var 160))]
 (.split (.cmp .eql (.var 165) (.lit 2))
 (.call 0 68200 [(.int .i64 (.var 9)), (.int .i64 (.var 164))]
 (.split (.cmp .eql (.var 162) (.lit 2))
 (.call 0 82200 [(.int .i64 (.var 9)), (.int .i64 (.var 161))]
 (leafT (.agg (cats [[(.int .i64 (.var 9)), (.int .i64 (.var 9)), (.int .i64 (.var 9)), (.int .i64 (.var 45200)), (.int .i64 (.var 54200)), (.int .i64 (.var 82200)), (.int .i64 (.lit 0)), (.int .i64 (.var 68200)), (.bool (.var 166)), (.int .u8 (.lit 9))], rep 31 (.int .u8 (.lit 0))])) .nil))
 (leafT (.agg (cats [[(.int .i64 (.var 9)), (.int .i64 (.var 9)), (.int .i64 (.var 9)), (.int .i64 (.var 45200)), (.int .i64 (.var 54200)), (.int .i64 (.lit 0)), (.int .i64 (.lit 0)), (.int .i64 (.var 68200)), (.bool (.var 166)), (.int .u8 (.lit 9))], rep 31 (.int .u8 (.lit 0))])) .nil)))
 (.split (.cmp .gtr (.var 165) (.lit 0))
 (.call 0 71200 [(.int .i64 (.var 9)), (.int .i64 (.var 164))]
 (.split (.cmp .eql (.var 162) (.lit 2))
 (.call 0 85200 [(.int .i64 (.var 9)), (.int .i64 (.var 161))]
 (leafT (.agg (cats [[(.int .i64 (.var 9)), (.int .i64 (.var 9)), (.int .i64 (.var 9)), (.int .i64 (.var 45200)), (.int .i64 (.var 54200)), (.int .i64 (.var 85200)), (.int .i64 (.var 71200)), (.int .i64 (.lit 0)), (.bool (.var 166)), (.int .u8 (.lit 9))], rep 31 (.int .u8 (.lit 0))])) .nil))
 (leafT (.agg (cats [[(.int .i64 (.var 9)), (.int .i64 (.var 9)), (.int .i64 (.var 9)), (.int .i64 (.var 45200)), (.int .i64 (.var 54200)), (.int .i64 (.lit 0)), (.int .i64 (.var 71200)), (.int .i64 (.lit 0)), (.bool (.var 166)), (.int .u8 (.lit 9))], rep 31 (.int .u8 (.lit 0))])) .nil)))
 (.split (.cmp .eql (.var 162) (.lit 2))
 (.call 0 76200 [(.int .i64 (.var 9)), (.int .i64 (.var 161))]
 (leafT (.agg (cats [[(.int .i64 (.var 9)), (.int .i64 (.var 9)), (.int .i64 (.var 9)), (.int .i64 (.var 45200)), (.int .i64 (.var 54200)), (.int .i64 (.var 76200)), (.int .i64 (.lit 0)), (.int .i64 (.lit 0)), (.bool (.var 166)), (.int .u8 (.lit 9))], rep 31 (.int .u8 (.lit 0))])) .nil))
 (leafT (.agg (cats [[(.int .i64 (.var 9)), (.int .i64 (.var 9)), (.int .i64 (.var 9)), (.int .i64 (.var 45200)), (.int .i64 (.var 54200)), (.int .i64 (.lit 0)), (.int .i64 (.lit 0)), (.int .i64 (.lit 0)), (.bool (.var 166)), (.int .u8 (.lit 9))], rep 31 (.int .u8 (.lit 0))])) .nil))))))
theorem facts1 : factsC.holds Try.prog facts1S := by
  refine con_of_run (cs := [deepC]) (S := [deepS]) (LT := []) (depth := 0) (fuel := 10) (nv := 200) (av := [.agg (playE 0), .int .i64 (.lit 1)]) (T := tree33b) ⟨deep_holds, trivial⟩ (by kernel_rfl) (by kernel_rfl) (by kernel_rfl) ?_
  rintro _ _ ⟨p, rfl, rfl⟩
  refine ⟨noLoops, penv p, by kernel_rfl, ?_⟩
  repeat' first
    | (refine sem_split (fun h => ?_) (fun h => ?_) <;> simp only [C.den, T.den, intCmp, from_i, Nat.reduceLT, if_true, pe162, pe165, beq_iff_eq, beq_eq_false_iff_ne, ne_eq, decide_eq_true_eq, decide_eq_false_iff_not] at h)
    | refine sem_call deepS _ rfl ⟨_, _, rfl, rfl⟩ ?_
  all_goals
    refine sem_ret rfl ?_ ⟨trivial, trivial⟩
    rw [fact_back]
    simp only [Py.f1, factsOf, Int.reduceAdd, gt_iff_lt, if_true, if_false, *] at *
    kernel_rfl
def factsS : ConS := fun vs e => facts0S vs e ∨ facts1S vs e
theorem facts_holds : factsC.holds Try.prog factsS := holds_or facts0 facts1

def nextC : Con := mkCon 9 [] (.tup [.int .i64 (.var 0), .agg (swapE 1)])
def nextL (r : Int × S) : List Value := .int .i64 r.1 :: r.2.cells.toList
theorem next_back (r : Int × S) : E.val (Env.ofL (nextL r)) lay0 (.tup [.int .i64 (.var 0), .agg (swapE 1)]) = .tuple #[.int .i64 r.1, .agg r.2.cells] := by kernel_rfl
def nextS : ConS := fun vs e => ∃ (t : T) (s : S) (f : F), t.Ok ∧ vs = [.agg t.cells, .agg s.cells, .agg f.cells] ∧ e = Env.ofL (nextL (s.next t f))
theorem next_holds : nextC.holds Try.prog nextS := con_of_ret (by
  rintro _ _ ⟨t, s, f, ht, rfl, rfl⟩ w
  rw [next_back]
  exact Next_any t ht s f w) rfl
def stepC : Con := mkCon 19 [(1, 167, none)] (.tup [.int .i64 (.var 0), .agg (swapE 1)])
def step0S : ConS := fun vs e => ∃ (t : T) (p : Py), t.Ok ∧ vs = [.agg t.cells, .agg p.cells, .int .i64 0] ∧ e = Env.ofL (nextL (p.s0.next t p.f0))
def step1S : ConS := fun vs e => ∃ (t : T) (p : Py), t.Ok ∧ vs = [.agg t.cells, .agg p.cells, .int .i64 1] ∧ e = Env.ofL (nextL (p.s1.next t p.f1))
def tree19a : Tree :=
 (.call 0 12200 [(.agg (cats [ivs .i64 0 18, ivs .u8 18 32, [(.int .i64 (.var 50)), (.int .i64 (.var 51)), (.bool (.var 52))], ivs .u8 53 32, ivs .i64 85 8, ivs .u8 93 32, [(.int .i64 (.var 125)), (.int .i64 (.var 126)), (.bool (.var 127))], ivs .u8 128 32, ivs .i64 160 6, [(.bool (.var 166))]])), (.int .i64 (.lit 0))]
 (.call 1 13200 [(.agg (ivs .i64 167 9)), (.agg (cats [ivs .i64 10 8, ivs .u8 18 32, [(.int .i64 (.var 50)), (.int .i64 (.var 51)), (.bool (.var 52))], ivs .u8 53 32])), (.agg (cats [ivs .i64 12200 8, [(.bool (.var 12208))], ivs .u8 12209 32]))]
 (leafT (.tup ([(.int .i64 (.var 13200)), (.agg (cats [ivs .i64 13201 8, ivs .u8 13209 32, [(.int .i64 (.var 13241)), (.int .i64 (.var 13242)), (.bool (.var 13243))], ivs .u8 13244 32]))])) .nil)))
theorem step0 : stepC.holds Try.prog step0S := by
  refine con_of_run (cs := [factsC, nextC]) (S := [factsS, nextS]) (LT := []) (depth := 0) (fuel := 10) (nv := 200) (av := [.agg (ivs .i64 167 9), .agg (playE 0), .int .i64 (.lit 0)]) (T := tree19a) ⟨facts_holds, next_holds, trivial⟩ (by kernel_rfl) (by kernel_rfl) (by kernel_rfl) ?_
  rintro _ _ ⟨t, p, ht, rfl, rfl⟩
  refine ⟨noLoops, Env.ofL (p.cells.toList ++ t.cells.toList), by kernel_rfl, ?_⟩
  refine sem_call factsS _ rfl (.inl ⟨p, by kernel_rfl, rfl⟩) ?_
  refine sem_call nextS _ rfl ⟨t, p.s0, p.f0, ht, by kernel_rfl, rfl⟩ ?_
  exact sem_ret rfl (by kernel_rfl) ⟨trivial, trivial⟩
def tree19b : Tree :=
 (.call 0 12200 [(.agg (cats [ivs .i64 0 18, ivs .u8 18 32, [(.int .i64 (.var 50)), (.int .i64 (.var 51)), (.bool (.var 52))], ivs .u8 53 32, ivs .i64 85 8, ivs .u8 93 32, [(.int .i64 (.var 125)), (.int .i64 (.var 126)), (.bool (.var 127))], ivs .u8 128 32, ivs .i64 160 6, [(.bool (.var 166))]])), (.int .i64 (.lit 1))]
 (.call 1 13200 [(.agg (ivs .i64 167 9)), (.agg (cats [ivs .i64 85 8, ivs .u8 93 32, [(.int .i64 (.var 125)), (.int .i64 (.var 126)), (.bool (.var 127))], ivs .u8 128 32])), (.agg (cats [ivs .i64 12200 8, [(.bool (.var 12208))], ivs .u8 12209 32]))]
 (leafT (.tup ([(.int .i64 (.var 13200)), (.agg (cats [ivs .i64 13201 8, ivs .u8 13209 32, [(.int .i64 (.var 13241)), (.int .i64 (.var 13242)), (.bool (.var 13243))], ivs .u8 13244 32]))])) .nil)))
theorem step1 : stepC.holds Try.prog step1S := by
  refine con_of_run (cs := [factsC, nextC]) (S := [factsS, nextS]) (LT := []) (depth := 0) (fuel := 10) (nv := 200) (av := [.agg (ivs .i64 167 9), .agg (playE 0), .int .i64 (.lit 1)]) (T := tree19b) ⟨facts_holds, next_holds, trivial⟩ (by kernel_rfl) (by kernel_rfl) (by kernel_rfl) ?_
  rintro _ _ ⟨t, p, ht, rfl, rfl⟩
  refine ⟨noLoops, Env.ofL (p.cells.toList ++ t.cells.toList), by kernel_rfl, ?_⟩
  refine sem_call factsS _ rfl (.inr ⟨p, by kernel_rfl, rfl⟩) ?_
  refine sem_call nextS _ rfl ⟨t, p.s1, p.f1, ht, by kernel_rfl, rfl⟩ ?_
  exact sem_ret rfl (by kernel_rfl) ⟨trivial, trivial⟩
def stepS : ConS := fun vs e => step0S vs e ∨ step1S vs e
theorem step_holds : stepC.holds Try.prog stepS := holds_or step0 step1

end Go.Proofs.Ytmhbkiabndookaa
