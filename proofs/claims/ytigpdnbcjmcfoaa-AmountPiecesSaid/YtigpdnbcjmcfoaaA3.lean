/- What is proved: contracts of Times and Part, and of the document's, by symbolic runs. No condition. -/
import Derived.Test.YtigpdnbcjmcfoaaA2
import Derived.Test.YtigpdnbcjmcfoaaB2
namespace Go.Proofs.Ytigpdnbcjmcfoaa
open Go.RowKit Sx
set_option maxRecDepth 100000
set_option linter.unusedSimpArgs false

theorem pairRes (p : Int × Int) : (E.tup [.int .i64 (.var 0), .int .i64 (.var 1)]).val (Env.ofL [.int .i64 p.1, .int .i64 p.2]) lay0 = pairV p := rfl
theorem add_holds : (i2C 18).holds Try.prog (in2S sumV) := con_of_ret (by rintro _ _ ⟨a, b, rfl, rfl⟩ w; exact Add_any a b w) rfl
theorem sub_holds : (i2C 19).holds Try.prog (in2S subV) := con_of_ret (by rintro _ _ ⟨a, b, rfl, rfl⟩ w; exact Sub_any a b w) rfl

theorem from_first2 {ρ : Env} {b : Nat} {x : Int} {k : IntKind} {v : Value} {r : List Value} : (ρ.from_ b (Env.ofL (v :: .int k x :: r))).i (b + 1) = x := by
  simp [Env.from_, Env.ofL]
  intro h
  omega
theorem from_low {ρ e : Env} {b i : Nat} (h : i < b) : (ρ.from_ b e).i i = ρ.i i := by simp [Env.from_, h]

def timesS : ConS := fun vs e => ∃ a b : Int, b ≤ 9223372036854775807 ∧ vs = [.int .i64 a, .int .i64 b] ∧ e = Env.ofL [.int .i64 (timesV a b).1, .int .i64 (timesV a b).2]
def tree21 : Tree :=
 (.split (.cmp .lss (.var 0) (.lit 0))
 (leafT (.tup ([(.int .i64 (.lit 0)), (.int .i64 (.lit 15))])) .nil)
 (.split (.cmp .gtr (.var 0) (.lit 1125899906842624))
 (leafT (.tup ([(.int .i64 (.lit 0)), (.int .i64 (.lit 15))])) .nil)
 (.split (.cmp .lss (.var 1) (.lit 0))
 (leafT (.tup ([(.int .i64 (.lit 0)), (.int .i64 (.lit 15))])) .nil)
 (.call 0 23200 [(.int .u64 (.wrap .u64 (.var 0))), (.int .u64 (.wrap .u64 (.var 1)))]
 (.split (.cmp .gtr (.var 23200) (.lit 0))
 (leafT (.tup ([(.int .i64 (.lit 0)), (.int .i64 (.lit 15))])) .nil)
 (.split (.cmp .gtr (.var 23201) (.lit 1125899906842624))
 (leafT (.tup ([(.int .i64 (.lit 0)), (.int .i64 (.lit 15))])) .nil)
 (leafT (.tup ([(.int .i64 (.wrap .i64 (.var 23201))), (.int .i64 (.lit 0))])) .nil)))))))
theorem times_holds : (i2C 21).holds Try.prog timesS := by
  refine con_of_run (cs := [u2C 41]) (S := [mulS]) (LT := []) (depth := 3) (fuel := 10) (nv := 200) (av := [.int .i64 (.var 0), .int .i64 (.var 1)]) (T := tree21) ⟨mul_holds, trivial⟩ (by kernel_rfl) (by kernel_rfl) (by kernel_rfl) ?_
  rintro _ _ ⟨a, n, hn, rfl, rfl⟩
  refine ⟨noLoops, Env.ofL [.int .i64 a, .int .i64 n], rfl, ?_⟩
  have g0 : (Env.ofL [.int .i64 a, .int .i64 n]).i 0 = a := rfl
  have g1 : (Env.ofL [.int .i64 a, .int .i64 n]).i 1 = n := rfl
  generalize Env.ofL [.int .i64 a, .int .i64 n] = ρ at g0 g1
  refine sem_split (fun c => leaf2 ?_) (fun c1 => ?_)
  · simp only [den_lss_t, T.den, g0] at c
    unfold timesV isA; rw [if_neg (by omega)]; rfl
  refine sem_split (fun c => leaf2 ?_) (fun c2 => ?_)
  · simp only [den_gtr_t, T.den, g0] at c
    unfold timesV isA; rw [if_neg (by omega)]; rfl
  refine sem_split (fun c => leaf2 ?_) (fun c3 => ?_)
  · simp only [den_lss_t, T.den, g1] at c
    unfold timesV isA; rw [if_neg (by omega)]; rfl
  simp only [den_lss_f, den_gtr_f, T.den, g0, g1] at c1 c2 c3
  obtain ⟨A, rfl⟩ : ∃ A : Nat, a = A := ⟨a.toNat, by omega⟩
  obtain ⟨N, rfl⟩ : ∃ N : Nat, n = N := ⟨n.toNat, by omega⟩
  refine sem_call mulS _ rfl ⟨A, N, by omega, by omega, ?_, rfl⟩ ?_
  · show [Value.int .u64 (IntKind.u64.wrap (ρ.i 0)), Value.int .u64 (IntKind.u64.wrap (ρ.i 1))] = _
    rw [g0, g1, wrapU, wrapU, Nat.mod_eq_of_lt (by omega), Nat.mod_eq_of_lt (by omega)]
  have hv : timesV (A : Int) (N : Int) = if A * N ≤ 1125899906842624 then (((A * N : Nat) : Int), 0) else (0, 15) := by
    unfold timesV isA
    rw [show (A : Int) * N = ((A * N : Nat) : Int) from (Int.natCast_mul _ _).symm]
    by_cases h : A * N ≤ 1125899906842624
    · rw [if_pos h, if_pos ⟨⟨by omega, by omega⟩, by omega, by omega⟩]
    · rw [if_neg h, if_neg (by omega)]
  rw [hv]
  generalize A * N = x
  have v0 := from_first (ρ := ρ) (b := 23200) (x := ((x / 18446744073709551616 : Nat) : Int)) (k := .u64) (r := [.int .u64 ((x % 18446744073709551616 : Nat) : Int)])
  have v1 := from_first2 (ρ := ρ) (b := 23200) (v := .int .u64 ((x / 18446744073709551616 : Nat) : Int)) (x := ((x % 18446744073709551616 : Nat) : Int)) (k := .u64) (r := [])
  refine sem_split (fun c => leaf2 ?_) (fun c4 => ?_)
  · simp only [den_gtr_t, T.den, v0] at c
    rw [if_neg (by omega)]; rfl
  refine sem_split (fun c => leaf2 ?_) (fun c5 => leaf2 ?_)
  · simp only [den_gtr_t, T.den, v1] at c
    rw [if_neg (by omega)]; rfl
  · simp only [den_gtr_f, T.den, v0] at c4
    simp only [den_gtr_f, T.den, v1] at c5
    simp only [T.den, v1, IntKind.wrap_i64]
    rw [if_pos (by omega)]
    refine Prod.ext ?_ rfl
    show ((x : Nat) : Int) = _
    omega

def tree17 : Tree :=
 (.split (.cmp .lss (.var 0) (.lit 0))
 (leafT (.tup ([(.int .i64 (.lit 0)), (.int .i64 (.lit 15))])) .nil)
 (.split (.cmp .gtr (.var 0) (.lit 1125899906842624))
 (leafT (.tup ([(.int .i64 (.lit 0)), (.int .i64 (.lit 15))])) .nil)
 (.split (.cmp .lss (.var 1) (.lit 0))
 (leafT (.tup ([(.int .i64 (.lit 0)), (.int .i64 (.lit 1))])) .nil)
 (.split (.cmp .gtr (.var 1) (.lit 1000000))
 (leafT (.tup ([(.int .i64 (.lit 0)), (.int .i64 (.lit 1))])) .nil)
 (.call 0 27200 [(.int .u64 (.wrap .u64 (.var 0))), (.int .u64 (.wrap .u64 (.var 1)))]
 (.call 1 44200 [(.int .u64 (.bin .add .u64 (.var 27200) (.add2 true (.var 27201) (.lit 999999)))), (.int .u64 (.add2 false (.var 27201) (.lit 999999))), (.int .u64 (.lit 1000000))]
 (leafT (.tup ([(.int .i64 (.wrap .i64 (.var 44200))), (.int .i64 (.lit 0))])) .nil)))))))
theorem part_holds : (i2C 17).holds Try.prog (in2S partV) := by
  refine con_of_run (cs := [u2C 41, u2C 43]) (S := [mulS, divS]) (LT := []) (depth := 3) (fuel := 10) (nv := 200) (av := [.int .i64 (.var 0), .int .i64 (.var 1)]) (T := tree17) ⟨mul_holds, div_holds, trivial⟩ (by kernel_rfl) (by kernel_rfl) (by kernel_rfl) ?_
  rintro _ _ ⟨a, n, rfl, rfl⟩
  refine ⟨noLoops, Env.ofL [.int .i64 a, .int .i64 n], rfl, ?_⟩
  have g0 : (Env.ofL [.int .i64 a, .int .i64 n]).i 0 = a := rfl
  have g1 : (Env.ofL [.int .i64 a, .int .i64 n]).i 1 = n := rfl
  generalize Env.ofL [.int .i64 a, .int .i64 n] = ρ at g0 g1
  refine sem_split (fun c => leaf2 ?_) (fun c1 => ?_)
  · simp only [den_lss_t, T.den, g0] at c
    unfold partV isA; rw [if_pos (by omega)]; rfl
  refine sem_split (fun c => leaf2 ?_) (fun c2 => ?_)
  · simp only [den_gtr_t, T.den, g0] at c
    unfold partV isA; rw [if_pos (by omega)]; rfl
  simp only [den_lss_f, den_gtr_f, T.den, g0] at c1 c2
  refine sem_split (fun c => leaf2 ?_) (fun c3 => ?_)
  · simp only [den_lss_t, T.den, g1] at c
    unfold partV isA; rw [if_neg (by omega), if_pos (by omega)]; rfl
  refine sem_split (fun c => leaf2 ?_) (fun c4 => ?_)
  · simp only [den_gtr_t, T.den, g1] at c
    unfold partV isA; rw [if_neg (by omega), if_pos (by omega)]; rfl
  simp only [den_lss_f, den_gtr_f, T.den, g1] at c3 c4
  obtain ⟨A, rfl⟩ : ∃ A : Nat, a = A := ⟨a.toNat, by omega⟩
  obtain ⟨N, rfl⟩ : ∃ N : Nat, n = N := ⟨n.toNat, by omega⟩
  refine sem_call mulS _ rfl ⟨A, N, by omega, by omega, ?_, rfl⟩ ?_
  · show [Value.int .u64 (IntKind.u64.wrap (ρ.i 0)), Value.int .u64 (IntKind.u64.wrap (ρ.i 1))] = _
    rw [g0, g1, wrapU, wrapU, Nat.mod_eq_of_lt (by omega), Nat.mod_eq_of_lt (by omega)]
  have hx : A * N ≤ 1125899906842624 * 1000000 := Nat.mul_le_mul (by omega) (by omega)
  have hv : partV (A : Int) (N : Int) = ((((A * N + 999999) / 1000000 : Nat) : Int), 0) := by
    unfold partV isA
    rw [if_neg (by omega), if_neg (by omega), show (A : Int) * N = ((A * N : Nat) : Int) from (Int.natCast_mul _ _).symm]
    refine Prod.ext ?_ rfl
    show (((A * N : Nat) : Int) + 999999) / 1000000 = _
    omega
  rw [hv]
  generalize A * N = x at hx
  have v0 := from_first (ρ := ρ) (b := 27200) (x := ((x / 18446744073709551616 : Nat) : Int)) (k := .u64) (r := [.int .u64 ((x % 18446744073709551616 : Nat) : Int)])
  have v1 := from_first2 (ρ := ρ) (b := 27200) (v := .int .u64 ((x / 18446744073709551616 : Nat) : Int)) (x := ((x % 18446744073709551616 : Nat) : Int)) (k := .u64) (r := [])
  generalize ρ.from_ 27200 _ = ρ1 at v0 v1
  refine sem_call divS _ rfl ⟨(x + 999999) / 18446744073709551616, (x + 999999) % 18446744073709551616, by omega, by omega, ?_, rfl⟩ ?_
  · show [Value.int .u64 (intBin .add .u64 (ρ1.i 27200) (T.den ρ1 (.add2 true (.var 27201) (.lit 999999)))), Value.int .u64 (T.den ρ1 (.add2 false (.var 27201) (.lit 999999))), Value.int .u64 1000000] = _
    have e1 : T.den ρ1 (.add2 true (.var 27201) (.lit 999999)) = (((x % 18446744073709551616 + 999999) / 18446744073709551616 : Nat) : Int) := by simp only [T.den, v1, if_true]; rfl
    have e2 : T.den ρ1 (.add2 false (.var 27201) (.lit 999999)) = (((x % 18446744073709551616 + 999999) % 18446744073709551616 : Nat) : Int) := by simp only [T.den, v1]; rfl
    have e3 : x / 18446744073709551616 + (x % 18446744073709551616 + 999999) / 18446744073709551616 = (x + 999999) / 18446744073709551616 := by omega
    have e4 : (x % 18446744073709551616 + 999999) % 18446744073709551616 = (x + 999999) % 18446744073709551616 := by omega
    rw [v0, e1, e2, addU _ _ (by omega), e3, e4]
  have w0 := from_first (ρ := ρ1) (b := 44200) (x := ((((x + 999999) / 18446744073709551616 * 18446744073709551616 + (x + 999999) % 18446744073709551616) / 1000000 : Nat) : Int)) (k := .u64) (r := [.int .u64 ((((x + 999999) / 18446744073709551616 * 18446744073709551616 + (x + 999999) % 18446744073709551616) % 1000000 : Nat) : Int)])
  refine leaf2 ?_
  simp only [T.den, w0, IntKind.wrap_i64]
  refine Prod.ext ?_ rfl
  show (((x + 999999) / 1000000 : Nat) : Int) = _
  omega

def tree26 : Tree :=
 (.split (.cmp .geq (.var 0) (.lit 0))
 (.split (.cmp .leq (.var 0) (.lit 1125899906842624))
 (.split (.cmp .lss (.var 1) (.lit 0))
 (leafT (.tup ([(.int .i64 (.lit 0)), (.int .i64 (.lit 1))])) .nil)
 (.split (.cmp .gtr (.var 1) (.lit 1000000))
 (leafT (.tup ([(.int .i64 (.lit 0)), (.int .i64 (.lit 1))])) .nil)
 (leafT (.tup ([(.int .i64 (.bin .add .i64 (.bin .mul .i64 (.bin .quo .i64 (.var 0) (.lit 1000000)) (.var 1)) (.bin .quo .i64 (.bin .add .i64 (.bin .mul .i64 (.bin .rem .i64 (.var 0) (.lit 1000000)) (.var 1)) (.lit 999999)) (.lit 1000000)))), (.int .i64 (.lit 0))])) .nil)))
 (leafT (.tup ([(.int .i64 (.lit 0)), (.int .i64 (.lit 15))])) .nil))
 (leafT (.tup ([(.int .i64 (.lit 0)), (.int .i64 (.lit 15))])) .nil))
theorem refPart_holds : (i2C 26).holds Try.prog (in2S partV) := by
  refine con_of_run (cs := []) (S := []) (LT := []) (depth := 3) (fuel := 10) (nv := 200) (av := [.int .i64 (.var 0), .int .i64 (.var 1)]) (T := tree26) trivial (by kernel_rfl) (by kernel_rfl) (by kernel_rfl) ?_
  rintro _ _ ⟨a, n, rfl, rfl⟩
  refine ⟨noLoops, Env.ofL [.int .i64 a, .int .i64 n], rfl, ?_⟩
  have g0 : (Env.ofL [.int .i64 a, .int .i64 n]).i 0 = a := rfl
  have g1 : (Env.ofL [.int .i64 a, .int .i64 n]).i 1 = n := rfl
  generalize Env.ofL [.int .i64 a, .int .i64 n] = ρ at g0 g1
  refine sem_split (fun c1 => ?_) (fun c => leaf2 ?_)
  · refine sem_split (fun c2 => ?_) (fun c => leaf2 ?_)
    · simp only [den_geq_t, den_leq_t, T.den, g0] at c1 c2
      refine sem_split (fun c => leaf2 ?_) (fun c3 => ?_)
      · simp only [den_lss_t, T.den, g1] at c
        unfold partV isA; rw [if_neg (by omega), if_pos (by omega)]; rfl
      refine sem_split (fun c => leaf2 ?_) (fun c4 => leaf2 ?_)
      · simp only [den_gtr_t, T.den, g1] at c
        unfold partV isA; rw [if_neg (by omega), if_pos (by omega)]; rfl
      simp only [den_lss_f, den_gtr_f, T.den, g1] at c3 c4
      obtain ⟨A, rfl⟩ : ∃ A : Nat, a = A := ⟨a.toNat, by omega⟩
      obtain ⟨N, rfl⟩ : ∃ N : Nat, n = N := ⟨n.toNat, by omega⟩
      have hm : A * N = 1000000 * (A / 1000000 * N) + A % 1000000 * N := by
        rw [← Nat.mul_assoc, ← Nat.add_mul, Nat.div_add_mod]
      have hx : A / 1000000 * N ≤ 1125899906 * 1000000 := Nat.mul_le_mul (by omega) (by omega)
      have hy : A % 1000000 * N ≤ 999999 * 1000000 := Nat.mul_le_mul (by omega) (by omega)
      unfold partV isA
      rw [if_neg (by omega), if_neg (by omega), show (A : Int) * N = ((A * N : Nat) : Int) from (Int.natCast_mul _ _).symm, hm]
      simp only [T.den, g0, g1, intBin, IntKind.wrap_i64]
      rw [show ((A : Int).tdiv 1000000) = ((A / 1000000 : Nat) : Int) from (Int.ofNat_tdiv A 1000000).symm, show ((A : Int).tmod 1000000) = ((A % 1000000 : Nat) : Int) from rfl]
      rw [show (((A / 1000000 : Nat) : Int) + 9223372036854775808) % 18446744073709551616 - 9223372036854775808 = ((A / 1000000 : Nat) : Int) by omega]
      rw [show ((A / 1000000 : Nat) : Int) * (N : Int) = ((A / 1000000 * N : Nat) : Int) from (Int.natCast_mul _ _).symm, show ((A % 1000000 : Nat) : Int) * (N : Int) = ((A % 1000000 * N : Nat) : Int) from (Int.natCast_mul _ _).symm]
      generalize A / 1000000 * N = x at hx
      generalize A % 1000000 * N = y at hy
      have e1 : ((y : Int) + 9223372036854775808) % 18446744073709551616 - 9223372036854775808 = (y : Int) := by omega
      have e2 : ((y : Int) + 999999 + 9223372036854775808) % 18446744073709551616 - 9223372036854775808 = ((y + 999999 : Nat) : Int) := by omega
      have e3 : (((y + 999999 : Nat) : Int)).tdiv 1000000 = (((y + 999999) / 1000000 : Nat) : Int) := (Int.ofNat_tdiv _ 1000000).symm
      have e5 : (x : Int) + 9223372036854775808 < 18446744073709551616 := by omega
      have e6 : ((x : Int) + 9223372036854775808) % 18446744073709551616 - 9223372036854775808 = (x : Int) := by omega
      rw [e1, e2, e3, e6]
      have e4 : (((1000000 * x + y : Nat) : Int) + 999999) / 1000000 = ((x + (y + 999999) / 1000000 : Nat) : Int) := by omega
      have hq : (y + 999999) / 1000000 ≤ 1000000 := by omega
      refine Prod.ext ?_ rfl
      show (((1000000 * x + y : Nat) : Int) + 999999) / 1000000 = _
      rw [e4]
      generalize (y + 999999) / 1000000 = q at hq
      clear e1 e2 e3 e4 e5 e6 hm
      dsimp only
      omega
    · simp only [den_leq_f, T.den, g0] at c
      unfold partV isA; rw [if_pos (by omega)]; rfl
  · simp only [den_geq_f, T.den, g0] at c
    unfold partV isA; rw [if_pos (by omega)]; rfl

def tree25 : Tree :=
 (.split (.cmp .geq (.var 0) (.lit 0))
 (.split (.cmp .leq (.var 0) (.lit 1125899906842624))
 (.split (.cmp .lss (.var 1) (.lit 0))
 (leafT (.tup ([(.int .i64 (.lit 0)), (.int .i64 (.lit 15))])) .nil)
 (.split (.cmp .eql (.var 0) (.lit 0))
 (leafT (.tup ([(.int .i64 (.lit 0)), (.int .i64 (.lit 0))])) .nil)
 (.call 0 31200 [(.bool (.cmp .leq (.var 1) (.bin .quo .i64 (.lit 1125899906842624) (.var 0)))), (.int .i64 (.bin .mul .i64 (.var 0) (.mn (.var 1) (.bin .quo .i64 (.lit 1125899906842624) (.var 0)))))]
 (leafT (.tup ([(.int .i64 (.var 31200)), (.int .i64 (.var 31201))])) .nil))))
 (leafT (.tup ([(.int .i64 (.lit 0)), (.int .i64 (.lit 15))])) .nil))
 (leafT (.tup ([(.int .i64 (.lit 0)), (.int .i64 (.lit 15))])) .nil))
theorem refTimes_holds : (i2C 25).holds Try.prog (in2S timesV) := by
  refine con_of_run (cs := [i2C 44]) (S := [toldS]) (LT := []) (depth := 3) (fuel := 10) (nv := 200) (av := [.int .i64 (.var 0), .int .i64 (.var 1)]) (T := tree25) ⟨told_holds, trivial⟩ (by kernel_rfl) (by kernel_rfl) (by kernel_rfl) ?_
  rintro _ _ ⟨a, n, rfl, rfl⟩
  refine ⟨noLoops, Env.ofL [.int .i64 a, .int .i64 n], rfl, ?_⟩
  have g0 : (Env.ofL [.int .i64 a, .int .i64 n]).i 0 = a := rfl
  have g1 : (Env.ofL [.int .i64 a, .int .i64 n]).i 1 = n := rfl
  generalize Env.ofL [.int .i64 a, .int .i64 n] = ρ at g0 g1
  refine sem_split (fun c1 => ?_) (fun c => leaf2 ?_)
  · refine sem_split (fun c2 => ?_) (fun c => leaf2 ?_)
    · simp only [den_geq_t, den_leq_t, T.den, g0] at c1 c2
      refine sem_split (fun c => leaf2 ?_) (fun c3 => ?_)
      · simp only [den_lss_t, T.den, g1] at c
        unfold timesV isA; rw [if_neg (by omega)]; rfl
      simp only [den_lss_f, T.den, g1] at c3
      obtain ⟨A, rfl⟩ : ∃ A : Nat, a = A := ⟨a.toNat, by omega⟩
      obtain ⟨N, rfl⟩ : ∃ N : Nat, n = N := ⟨n.toNat, by omega⟩
      refine sem_split (fun c => leaf2 ?_) (fun c4 => ?_)
      · simp only [den_eql_t, T.den, g0] at c
        obtain rfl : A = 0 := by omega
        unfold timesV isA
        rw [if_pos ⟨⟨by omega, by omega⟩, by omega, by simp⟩]
        simp [T.den]
      · simp only [den_eql_f, T.den, g0] at c4
        have hq : T.den ρ (.bin .quo .i64 (.lit 1125899906842624) (.var 0)) = ((1125899906842624 / A : Nat) : Int) := by
          show IntKind.i64.wrap ((1125899906842624 : Int).tdiv (ρ.i 0)) = _
          rw [g0, show ((1125899906842624 : Int)) = ((1125899906842624 : Nat) : Int) from rfl, ← Int.ofNat_tdiv, IntKind.wrap_i64]
          have hz : 1125899906842624 / A ≤ 1125899906842624 := Nat.div_le_self _ _
          generalize 1125899906842624 / A = z at hz
          omega
        have hA : 0 < A := by omega
        have hle : N ≤ 1125899906842624 / A ↔ A * N ≤ 1125899906842624 := by rw [Nat.le_div_iff_mul_le hA, Nat.mul_comm]
        have hv : timesV (A : Int) (N : Int) = toldV (decide (N ≤ 1125899906842624 / A)) ((A * min N (1125899906842624 / A) : Nat) : Int) := by
          unfold timesV toldV isA
          rw [show (A : Int) * N = ((A * N : Nat) : Int) from (Int.natCast_mul _ _).symm]
          by_cases h : N ≤ 1125899906842624 / A
          · have h' := hle.1 h
            rw [if_pos ⟨⟨by omega, by omega⟩, by omega, by omega⟩, Nat.min_eq_left h, if_pos ⟨by simpa using h, by omega, by omega⟩]
          · have h' : ¬ A * N ≤ 1125899906842624 := fun x => h (hle.2 x)
            rw [if_neg (by omega), if_neg (fun x => h (by simpa using x.1))]
        rw [hv]
        refine sem_call toldS _ rfl ⟨_, _, ?_, rfl⟩ (sem_ret rfl rfl trivial)
        have hmul : A * min N (1125899906842624 / A) ≤ 1125899906842624 := by
          have := Nat.mul_le_mul_left A (Nat.min_le_right N (1125899906842624 / A))
          have := Nat.mul_div_le 1125899906842624 A
          omega
        show [Value.bool (decide (ρ.i 1 ≤ T.den ρ (.bin .quo .i64 (.lit 1125899906842624) (.var 0)))), Value.int .i64 (IntKind.i64.wrap (ρ.i 0 * intMin (ρ.i 1) (T.den ρ (.bin .quo .i64 (.lit 1125899906842624) (.var 0)))))] = _
        rw [hq, g0, g1]
        have hm : intMin (N : Int) ((1125899906842624 / A : Nat) : Int) = ((min N (1125899906842624 / A) : Nat) : Int) := by
          unfold intMin
          split <;> omega
        rw [hm, ← Int.natCast_mul, IntKind.wrap_i64]
        generalize A * min N (1125899906842624 / A) = z at hmul
        have e : ((z : Int) + 9223372036854775808) % 18446744073709551616 - 9223372036854775808 = (z : Int) := by omega
        rw [e]
        have e2 : decide ((N : Int) ≤ ((1125899906842624 / A : Nat) : Int)) = decide (N ≤ 1125899906842624 / A) := decide_eq_decide.2 Int.ofNat_le
        rw [e2]
    · simp only [den_leq_f, T.den, g0] at c
      unfold timesV isA; rw [if_neg (by omega)]; rfl
  · simp only [den_geq_f, T.den, g0] at c
    unfold timesV isA; rw [if_neg (by omega)]; rfl
end Go.Proofs.Ytigpdnbcjmcfoaa
