/- What is proved: contracts of the document's answers of chapter 2, and of Check, by symbolic runs. No condition. -/
import Derived.Test.YtigpdnbcjmcfoaaSxN
import Derived.Test.YtigpdnbcjmcfoaaProg
import Derived.Test.YtigpdnbcjmcfoaaB1
namespace Go.Proofs.Ytigpdnbcjmcfoaa
open Go.RowKit Sx
set_option maxRecDepth 100000
set_option linter.unusedSimpArgs false

section
variable {S : List ConS} {LQ : LoopS} {K : Env → Ex → St → Prop} {ρ : Env}
theorem sem_dec {c : C} {t f : Tree} {p : Prop} {d : Decidable p} (hp : c.den ρ = @decide p d) (h1 : p → treeSem S LQ K ρ t) (h2 : ¬ p → treeSem S LQ K ρ f) : treeSem S LQ K ρ (.split c t f) :=
  ⟨fun h => h1 (@of_decide_eq_true p d (hp.symm.trans h)), fun h => h2 (@of_decide_eq_false p d (hp.symm.trans h))⟩
theorem leaf1 {f : Int} {t : T} {h : Tr (List E)} (he : f = t.den ρ) : treeSem S LQ (KF [] (.int .i64 (.var 0)) (Env.ofL [.int .i64 f])) ρ (leafT (.int .i64 t) h) := by
  subst he; exact sem_ret rfl rfl trivial
theorem leaf2 {f : Int × Int} {t1 t2 : T} {h : Tr (List E)} (he : f = (t1.den ρ, t2.den ρ)) : treeSem S LQ (KF [] (.tup [.int .i64 (.var 0), .int .i64 (.var 1)]) (Env.ofL [.int .i64 f.1, .int .i64 f.2])) ρ (leafT (.tup [.int .i64 t1, .int .i64 t2]) h) := by
  subst he; exact sem_ret rfl rfl trivial
end
theorem den_lss_t (ρ : Env) (a b : T) : (C.den ρ (.cmp .lss a b) = true) = (a.den ρ < b.den ρ) := by simp [C.den, intCmp]
theorem den_lss_f (ρ : Env) (a b : T) : (C.den ρ (.cmp .lss a b) = false) = (b.den ρ ≤ a.den ρ) := by simp [C.den, intCmp]
theorem den_leq_t (ρ : Env) (a b : T) : (C.den ρ (.cmp .leq a b) = true) = (a.den ρ ≤ b.den ρ) := by simp [C.den, intCmp]
theorem den_leq_f (ρ : Env) (a b : T) : (C.den ρ (.cmp .leq a b) = false) = (b.den ρ < a.den ρ) := by simp [C.den, intCmp]
theorem den_gtr_t (ρ : Env) (a b : T) : (C.den ρ (.cmp .gtr a b) = true) = (b.den ρ < a.den ρ) := by simp [C.den, intCmp]
theorem den_gtr_f (ρ : Env) (a b : T) : (C.den ρ (.cmp .gtr a b) = false) = (a.den ρ ≤ b.den ρ) := by simp [C.den, intCmp]
theorem den_geq_t (ρ : Env) (a b : T) : (C.den ρ (.cmp .geq a b) = true) = (b.den ρ ≤ a.den ρ) := by simp [C.den, intCmp]
theorem den_geq_f (ρ : Env) (a b : T) : (C.den ρ (.cmp .geq a b) = false) = (a.den ρ < b.den ρ) := by simp [C.den, intCmp]
theorem den_eql_t (ρ : Env) (a b : T) : (C.den ρ (.cmp .eql a b) = true) = (a.den ρ = b.den ρ) := by simp [C.den, intCmp]
theorem den_eql_f (ρ : Env) (a b : T) : (C.den ρ (.cmp .eql a b) = false) = (¬ a.den ρ = b.den ρ) := by simp [C.den, intCmp]
theorem from_i (ρ s : Env) (b n : Nat) : (ρ.from_ b s).i n = if n < b then ρ.i n else s.i (n - b) := rfl
theorem from_b (ρ s : Env) (b n : Nat) : (ρ.from_ b s).b n = if n < b then ρ.b n else s.b (n - b) := rfl
theorem ofL_i0 (k : IntKind) (x : Int) (l : List Value) : (Env.ofL (.int k x :: l)).i 0 = x := rfl
theorem ofL_iS (v : Value) (l : List Value) (n : Nat) : (Env.ofL (v :: l)).i (n + 1) = (Env.ofL l).i n := rfl
theorem ofL_b0 (x : Bool) (l : List Value) : (Env.ofL (.bool x :: l)).b 0 = x := rfl
def in1S (f : Int → Int) : ConS := fun vs e => ∃ a : Int, vs = [.int .i64 a] ∧ e = Env.ofL [.int .i64 (f a)]
def in2S (f : Int → Int → Int × Int) : ConS := fun vs e => ∃ a b : Int, vs = [.int .i64 a, .int .i64 b] ∧ e = Env.ofL [.int .i64 (f a b).1, .int .i64 (f a b).2]
def i1C (f : FuncId) : Con := mkCon f [] (.int .i64 (.var 0))
def i2C (f : FuncId) : Con := mkCon f [] (.tup [.int .i64 (.var 0), .int .i64 (.var 1)])

def chk (a : Int) : Int := if isA a then 0 else 15
def toldV (b : Bool) (a : Int) : Int × Int := if b = true ∧ isA a then (a, 0) else (0, 15)
def timesV (a n : Int) : Int × Int := if isA a ∧ 0 ≤ n ∧ a * n ≤ 1125899906842624 then (a * n, 0) else (0, 15)
def partV (a p : Int) : Int × Int := if ¬ isA a then (0, 15) else if p < 0 ∨ 1000000 < p then (0, 1) else ((a * p + 999999) / 1000000, 0)

def tree20 : Tree :=
 (.split (.cmp .lss (.var 0) (.lit 0))
 (leafT (.int .i64 (.lit 15)) .nil)
 (.split (.cmp .gtr (.var 0) (.lit 1125899906842624))
 (leafT (.int .i64 (.lit 15)) .nil)
 (leafT (.int .i64 (.lit 0)) .nil)))
theorem chk_holds : (i1C 20).holds Try.prog (in1S chk) := by
  refine con_of_run (cs := []) (S := []) (LT := []) (depth := 1) (fuel := 10) (nv := 200) (av := [.int .i64 (.var 0)]) (T := tree20) trivial (by kernel_rfl) (by kernel_rfl) (by kernel_rfl) ?_
  rintro _ _ ⟨a, rfl, rfl⟩
  refine ⟨noLoops, Env.ofL [.int .i64 a], rfl, ?_⟩
  (repeat' (first | (refine leaf2 ?_) | (refine leaf1 ?_) | (refine sem_split (fun h => ?_) (fun h => ?_) <;> (try simp only [den_lss_t, den_lss_f, den_leq_t, den_leq_f, den_gtr_t, den_gtr_f, den_geq_t, den_geq_f, den_eql_t, den_eql_f, T.den, intBin, intMin, intMax, from_i, Nat.reduceLT, Nat.reduceSub, if_true, if_false, ofL_i0, ofL_iS, IntKind.wrap_i64, IntKind.wrap_u64, ne_eq, Bool.false_eq_true, reduceIte] at h)))); all_goals ((try simp only [den_lss_t, den_lss_f, den_leq_t, den_leq_f, den_gtr_t, den_gtr_f, den_geq_t, den_geq_f, den_eql_t, den_eql_f, T.den, intBin, intMin, intMax, from_i, Nat.reduceLT, Nat.reduceSub, if_true, if_false, ofL_i0, ofL_iS, IntKind.wrap_i64, IntKind.wrap_u64, ne_eq, Bool.false_eq_true, reduceIte]); unfold chk isA; (repeat' split) <;> (first | rfl | (exfalso; omega) | (congr 1; omega) | omega | (exfalso; simp_all; done) | (exfalso; simp_all; omega)))
def tree23 : Tree :=
 (.split (.cmp .geq (.var 0) (.lit 0))
 (.split (.cmp .leq (.var 0) (.lit 1125899906842624))
 (leafT (.int .i64 (.lit 0)) .nil)
 (leafT (.int .i64 (.lit 15)) .nil))
 (leafT (.int .i64 (.lit 15)) .nil))
theorem refChk_holds : (i1C 23).holds Try.prog (in1S chk) := by
  refine con_of_run (cs := []) (S := []) (LT := []) (depth := 1) (fuel := 10) (nv := 200) (av := [.int .i64 (.var 0)]) (T := tree23) trivial (by kernel_rfl) (by kernel_rfl) (by kernel_rfl) ?_
  rintro _ _ ⟨a, rfl, rfl⟩
  refine ⟨noLoops, Env.ofL [.int .i64 a], rfl, ?_⟩
  (repeat' (first | (refine leaf2 ?_) | (refine leaf1 ?_) | (refine sem_split (fun h => ?_) (fun h => ?_) <;> (try simp only [den_lss_t, den_lss_f, den_leq_t, den_leq_f, den_gtr_t, den_gtr_f, den_geq_t, den_geq_f, den_eql_t, den_eql_f, T.den, intBin, intMin, intMax, from_i, Nat.reduceLT, Nat.reduceSub, if_true, if_false, ofL_i0, ofL_iS, IntKind.wrap_i64, IntKind.wrap_u64, ne_eq, Bool.false_eq_true, reduceIte] at h)))); all_goals ((try simp only [den_lss_t, den_lss_f, den_leq_t, den_leq_f, den_gtr_t, den_gtr_f, den_geq_t, den_geq_f, den_eql_t, den_eql_f, T.den, intBin, intMin, intMax, from_i, Nat.reduceLT, Nat.reduceSub, if_true, if_false, ofL_i0, ofL_iS, IntKind.wrap_i64, IntKind.wrap_u64, ne_eq, Bool.false_eq_true, reduceIte]); unfold chk isA; (repeat' split) <;> (first | rfl | (exfalso; omega) | (congr 1; omega) | omega | (exfalso; simp_all; done) | (exfalso; simp_all; omega)))
def tree22 : Tree :=
 (.split (.cmp .geq (.var 0) (.lit 0))
 (.split (.cmp .leq (.var 0) (.lit 1125899906842624))
 (.split (.cmp .geq (.var 1) (.lit 0))
 (.split (.cmp .leq (.var 1) (.lit 1125899906842624))
 (.split (.cmp .geq (.bin .add .i64 (.var 0) (.var 1)) (.lit 0))
 (.split (.cmp .leq (.bin .add .i64 (.var 0) (.var 1)) (.lit 1125899906842624))
 (leafT (.tup ([(.int .i64 (.bin .add .i64 (.var 0) (.var 1))), (.int .i64 (.lit 0))])) .nil)
 (leafT (.tup ([(.int .i64 (.lit 0)), (.int .i64 (.lit 15))])) .nil))
 (leafT (.tup ([(.int .i64 (.lit 0)), (.int .i64 (.lit 15))])) .nil))
 (leafT (.tup ([(.int .i64 (.lit 0)), (.int .i64 (.lit 15))])) .nil))
 (leafT (.tup ([(.int .i64 (.lit 0)), (.int .i64 (.lit 15))])) .nil))
 (leafT (.tup ([(.int .i64 (.lit 0)), (.int .i64 (.lit 15))])) .nil))
 (leafT (.tup ([(.int .i64 (.lit 0)), (.int .i64 (.lit 15))])) .nil))
theorem refAdd_holds : (i2C 22).holds Try.prog (in2S sumV) := by
  refine con_of_run (cs := []) (S := []) (LT := []) (depth := 3) (fuel := 10) (nv := 200) (av := [.int .i64 (.var 0), .int .i64 (.var 1)]) (T := tree22) trivial (by kernel_rfl) (by kernel_rfl) (by kernel_rfl) ?_
  rintro _ _ ⟨a, b, rfl, rfl⟩
  refine ⟨noLoops, Env.ofL [.int .i64 a, .int .i64 b], rfl, ?_⟩
  (repeat' (first | (refine leaf2 ?_) | (refine leaf1 ?_) | (refine sem_split (fun h => ?_) (fun h => ?_) <;> (try simp only [den_lss_t, den_lss_f, den_leq_t, den_leq_f, den_gtr_t, den_gtr_f, den_geq_t, den_geq_f, den_eql_t, den_eql_f, T.den, intBin, intMin, intMax, from_i, Nat.reduceLT, Nat.reduceSub, if_true, if_false, ofL_i0, ofL_iS, IntKind.wrap_i64, IntKind.wrap_u64, ne_eq, Bool.false_eq_true, reduceIte] at h)))); all_goals ((try simp only [den_lss_t, den_lss_f, den_leq_t, den_leq_f, den_gtr_t, den_gtr_f, den_geq_t, den_geq_f, den_eql_t, den_eql_f, T.den, intBin, intMin, intMax, from_i, Nat.reduceLT, Nat.reduceSub, if_true, if_false, ofL_i0, ofL_iS, IntKind.wrap_i64, IntKind.wrap_u64, ne_eq, Bool.false_eq_true, reduceIte]); unfold sumV isA; (repeat' split) <;> (first | rfl | (exfalso; omega) | (congr 1; omega) | omega | (exfalso; simp_all; done) | (exfalso; simp_all; omega)))
def tree24 : Tree :=
 (.split (.cmp .geq (.var 0) (.lit 0))
 (.split (.cmp .leq (.var 0) (.lit 1125899906842624))
 (.split (.cmp .geq (.var 1) (.lit 0))
 (.split (.cmp .leq (.var 1) (.lit 1125899906842624))
 (.split (.cmp .geq (.bin .sub .i64 (.var 0) (.var 1)) (.lit 0))
 (.split (.cmp .leq (.bin .sub .i64 (.var 0) (.var 1)) (.lit 1125899906842624))
 (leafT (.tup ([(.int .i64 (.bin .sub .i64 (.var 0) (.var 1))), (.int .i64 (.lit 0))])) .nil)
 (leafT (.tup ([(.int .i64 (.lit 0)), (.int .i64 (.lit 15))])) .nil))
 (leafT (.tup ([(.int .i64 (.lit 0)), (.int .i64 (.lit 15))])) .nil))
 (leafT (.tup ([(.int .i64 (.lit 0)), (.int .i64 (.lit 15))])) .nil))
 (leafT (.tup ([(.int .i64 (.lit 0)), (.int .i64 (.lit 15))])) .nil))
 (leafT (.tup ([(.int .i64 (.lit 0)), (.int .i64 (.lit 15))])) .nil))
 (leafT (.tup ([(.int .i64 (.lit 0)), (.int .i64 (.lit 15))])) .nil))
theorem refSub_holds : (i2C 24).holds Try.prog (in2S subV) := by
  refine con_of_run (cs := []) (S := []) (LT := []) (depth := 3) (fuel := 10) (nv := 200) (av := [.int .i64 (.var 0), .int .i64 (.var 1)]) (T := tree24) trivial (by kernel_rfl) (by kernel_rfl) (by kernel_rfl) ?_
  rintro _ _ ⟨a, b, rfl, rfl⟩
  refine ⟨noLoops, Env.ofL [.int .i64 a, .int .i64 b], rfl, ?_⟩
  (repeat' (first | (refine leaf2 ?_) | (refine leaf1 ?_) | (refine sem_split (fun h => ?_) (fun h => ?_) <;> (try simp only [den_lss_t, den_lss_f, den_leq_t, den_leq_f, den_gtr_t, den_gtr_f, den_geq_t, den_geq_f, den_eql_t, den_eql_f, T.den, intBin, intMin, intMax, from_i, Nat.reduceLT, Nat.reduceSub, if_true, if_false, ofL_i0, ofL_iS, IntKind.wrap_i64, IntKind.wrap_u64, ne_eq, Bool.false_eq_true, reduceIte] at h)))); all_goals ((try simp only [den_lss_t, den_lss_f, den_leq_t, den_leq_f, den_gtr_t, den_gtr_f, den_geq_t, den_geq_f, den_eql_t, den_eql_f, T.den, intBin, intMin, intMax, from_i, Nat.reduceLT, Nat.reduceSub, if_true, if_false, ofL_i0, ofL_iS, IntKind.wrap_i64, IntKind.wrap_u64, ne_eq, Bool.false_eq_true, reduceIte]); unfold subV isA; (repeat' split) <;> (first | rfl | (exfalso; omega) | (congr 1; omega) | omega | (exfalso; simp_all; done) | (exfalso; simp_all; omega)))
def toldS : ConS := fun vs e => ∃ (b : Bool) (a : Int), vs = [.bool b, .int .i64 a] ∧ e = Env.ofL [.int .i64 (toldV b a).1, .int .i64 (toldV b a).2]
def tree44 : Tree :=
 (.split (.var 0)
 (.split (.cmp .geq (.var 1) (.lit 0))
 (.split (.cmp .leq (.var 1) (.lit 1125899906842624))
 (leafT (.tup ([(.int .i64 (.var 1)), (.int .i64 (.lit 0))])) .nil)
 (leafT (.tup ([(.int .i64 (.lit 0)), (.int .i64 (.lit 15))])) .nil))
 (leafT (.tup ([(.int .i64 (.lit 0)), (.int .i64 (.lit 15))])) .nil))
 (leafT (.tup ([(.int .i64 (.lit 0)), (.int .i64 (.lit 15))])) .nil))
theorem told_holds : (i2C 44).holds Try.prog toldS := by
  refine con_of_run (cs := []) (S := []) (LT := []) (depth := 1) (fuel := 10) (nv := 200) (av := [.bool (.var 0), .int .i64 (.var 1)]) (T := tree44) trivial (by kernel_rfl) (by kernel_rfl) (by kernel_rfl) ?_
  rintro _ _ ⟨b, a, rfl, rfl⟩
  refine ⟨noLoops, Env.ofL [.bool b, .int .i64 a], rfl, ?_⟩
  cases b
  · refine sem_split (fun h => Bool.noConfusion h) (fun _ => leaf2 ?_)
    simp [toldV, T.den]
  · refine sem_split (fun _ => ?_) (fun h => Bool.noConfusion h)
    (repeat' (first | (refine leaf2 ?_) | (refine leaf1 ?_) | (refine sem_split (fun h => ?_) (fun h => ?_) <;> (try simp only [den_lss_t, den_lss_f, den_leq_t, den_leq_f, den_gtr_t, den_gtr_f, den_geq_t, den_geq_f, den_eql_t, den_eql_f, T.den, intBin, intMin, intMax, from_i, Nat.reduceLT, Nat.reduceSub, if_true, if_false, ofL_i0, ofL_iS, IntKind.wrap_i64, IntKind.wrap_u64, ne_eq, Bool.false_eq_true, reduceIte] at h)))); all_goals ((try simp only [den_lss_t, den_lss_f, den_leq_t, den_leq_f, den_gtr_t, den_gtr_f, den_geq_t, den_geq_f, den_eql_t, den_eql_f, T.den, intBin, intMin, intMax, from_i, Nat.reduceLT, Nat.reduceSub, if_true, if_false, ofL_i0, ofL_iS, IntKind.wrap_i64, IntKind.wrap_u64, ne_eq, Bool.false_eq_true, reduceIte]); unfold toldV isA; (repeat' split) <;> (first | rfl | (exfalso; omega) | (congr 1; omega) | omega | (exfalso; simp_all; done) | (exfalso; simp_all; omega)))
end Go.Proofs.Ytigpdnbcjmcfoaa
