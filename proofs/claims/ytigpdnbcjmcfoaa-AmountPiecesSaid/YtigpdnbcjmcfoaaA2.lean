/- What is proved: contracts of the library's Mul64 (any two words), and of Div64 by a million (high words below 64), by symbolic runs. No condition. -/
import Derived.Test.YtigpdnbcjmcfoaaA1
import Derived.Lib.Mul64
namespace Go.Proofs.Ytigpdnbcjmcfoaa
open Go.RowKit Sx
set_option maxRecDepth 100000
set_option linter.unusedSimpArgs false
set_option linter.unusedSectionVars false
set_option linter.unusedVariables false

theorem ofInt_nat (a : Nat) : BitVec.ofInt 64 (a : Int) = BitVec.ofNat 64 a := by
  apply BitVec.eq_of_toInt_eq; simp
theorem wrapU (a : Nat) : IntKind.u64.wrap (a : Int) = ((a % 18446744073709551616 : Nat) : Int) := by rw [IntKind.wrap_u64]; omega
theorem andU (a : Nat) (ha : a < 18446744073709551616) : intBin .and .u64 (a : Int) 4294967295 = ((a % 4294967296 : Nat) : Int) := by
  have h : (4294967295 : Int) = ((4294967295 : Nat) : Int) := rfl
  show IntKind.u64.wrap ((BitVec.ofInt 64 (a : Int) &&& BitVec.ofInt 64 4294967295).toNat : Int) = _
  rw [h, ofInt_nat, ofInt_nat, BitVec.toNat_and, BitVec.toNat_ofNat, BitVec.toNat_ofNat, Nat.mod_eq_of_lt ha, Nat.mod_eq_of_lt (by decide), wrapU]
  have e : a &&& 4294967295 = a % 4294967296 := Nat.and_two_pow_sub_one_eq_mod a 32
  rw [e]
  omega
theorem orU (h l : Nat) (hl : l < 17592186044416) (hh : h < 64) : intBin .or .u64 ((h * 17592186044416 : Nat) : Int) (l : Int) = ((h * 17592186044416 + l : Nat) : Int) := by
  show IntKind.u64.wrap ((BitVec.ofInt 64 ((h * 17592186044416 : Nat) : Int) ||| BitVec.ofInt 64 (l : Int)).toNat : Int) = _
  rw [ofInt_nat, ofInt_nat, BitVec.toNat_or, BitVec.toNat_ofNat, BitVec.toNat_ofNat, Nat.mod_eq_of_lt (by omega), Nat.mod_eq_of_lt (by omega), wrapU]
  have e : 2 ^ 44 * h + l = 2 ^ 44 * h ||| l := Nat.two_pow_add_eq_or_of_lt (by simpa using hl) h
  rw [show h * 17592186044416 ||| l = h * 17592186044416 + l by rw [Nat.mul_comm, show (17592186044416 : Nat) = 2 ^ 44 by decide, ← e]]
  omega
theorem shr32U (a : Nat) : intBin .shr .u64 (a : Int) 32 = ((a / 4294967296 : Nat) : Int) := by
  show (a : Int).fdiv (2 ^ 32) = _
  rw [Int.fdiv_eq_ediv_of_nonneg _ (by decide)]
  omega
theorem shr20U (a : Nat) : intBin .shr .u64 (a : Int) 20 = ((a / 1048576 : Nat) : Int) := by
  show (a : Int).fdiv (2 ^ 20) = _
  rw [Int.fdiv_eq_ediv_of_nonneg _ (by decide)]
  omega
theorem shr44U (a : Nat) : intBin .shr .u64 (a : Int) 44 = ((a / 17592186044416 : Nat) : Int) := by
  show (a : Int).fdiv (2 ^ 44) = _
  rw [Int.fdiv_eq_ediv_of_nonneg _ (by decide)]
  omega
theorem shl44U (a : Nat) : intBin .shl .u64 (a : Int) 44 = ((a * 17592186044416 % 18446744073709551616 : Nat) : Int) := by
  show IntKind.u64.wrap ((a : Int) * 2 ^ 44) = _
  rw [IntKind.wrap_u64]
  omega
theorem addU (a b : Nat) (h : a + b < 18446744073709551616) : intBin .add .u64 (a : Int) (b : Int) = ((a + b : Nat) : Int) := by
  show IntKind.u64.wrap ((a : Int) + b) = _
  rw [IntKind.wrap_u64]; omega
theorem mulU (a b : Nat) : intBin .mul .u64 (a : Int) (b : Int) = ((a * b % 18446744073709551616 : Nat) : Int) := by
  show IntKind.u64.wrap ((a : Int) * b) = _
  rw [← Int.natCast_mul, wrapU]
theorem mulU' (a b : Nat) (h : a * b < 18446744073709551616) : intBin .mul .u64 (a : Int) (b : Int) = ((a * b : Nat) : Int) := by
  rw [mulU, Nat.mod_eq_of_lt h]
def u2C (f : FuncId) : Con := mkCon f [] (.tup [.int .u64 (.var 0), .int .u64 (.var 1)])
section
variable {S : List ConS} {LQ : LoopS} {ρ : Env}
theorem leafU {x y : Int} {t1 t2 : T} {h : Tr (List E)} (h1 : t1.den ρ = x) (h2 : t2.den ρ = y) : treeSem S LQ (KF [] (.tup [.int .u64 (.var 0), .int .u64 (.var 1)]) (Env.ofL [.int .u64 x, .int .u64 y])) ρ (leafT (.tup [.int .u64 t1, .int .u64 t2]) h) := by
  subst h1 h2; exact sem_ret rfl rfl trivial
end
def mulS : ConS := fun vs e => ∃ x y : Nat, x < 18446744073709551616 ∧ y < 18446744073709551616 ∧ vs = [.int .u64 x, .int .u64 y] ∧ e = Env.ofL [.int .u64 ((x * y / 18446744073709551616 : Nat) : Int), .int .u64 ((x * y % 18446744073709551616 : Nat) : Int)]
def tree41 : Tree :=
 (leafT (.tup ([(.int .u64 (.bin .add .u64 (.bin .add .u64 (.bin .mul .u64 (.bin .shr .u64 (.var 0) (.lit 32)) (.bin .shr .u64 (.var 1) (.lit 32))) (.bin .shr .u64 (.bin .add .u64 (.bin .mul .u64 (.bin .shr .u64 (.var 0) (.lit 32)) (.bin .and .u64 (.var 1) (.lit 4294967295))) (.bin .shr .u64 (.bin .mul .u64 (.bin .and .u64 (.var 0) (.lit 4294967295)) (.bin .and .u64 (.var 1) (.lit 4294967295))) (.lit 32))) (.lit 32))) (.bin .shr .u64 (.bin .add .u64 (.bin .and .u64 (.bin .add .u64 (.bin .mul .u64 (.bin .shr .u64 (.var 0) (.lit 32)) (.bin .and .u64 (.var 1) (.lit 4294967295))) (.bin .shr .u64 (.bin .mul .u64 (.bin .and .u64 (.var 0) (.lit 4294967295)) (.bin .and .u64 (.var 1) (.lit 4294967295))) (.lit 32))) (.lit 4294967295)) (.bin .mul .u64 (.bin .and .u64 (.var 0) (.lit 4294967295)) (.bin .shr .u64 (.var 1) (.lit 32)))) (.lit 32)))), (.int .u64 (.bin .mul .u64 (.var 0) (.var 1)))])) .nil)
theorem mul_holds : (u2C 41).holds Try.prog mulS := by
  refine con_of_run (cs := []) (S := []) (LT := []) (depth := 3) (fuel := 10) (nv := 200) (av := [.int .u64 (.var 0), .int .u64 (.var 1)]) (T := tree41) trivial (by kernel_rfl) (by kernel_rfl) (by kernel_rfl) ?_
  rintro _ _ ⟨x, y, hx, hy, rfl, rfl⟩
  refine ⟨noLoops, Env.ofL [.int .u64 x, .int .u64 y], rfl, ?_⟩
  obtain ⟨bd, bt, bw, hhi⟩ := Lib.mul64_hi x y hx hy
  have ba := Lib.half_mul_le (a := x / 4294967296) (b := y / 4294967296) (by omega) (by omega)
  have bb := Lib.half_mul_le (a := x / 4294967296) (b := y % 4294967296) (by omega) (by omega)
  have bc := Lib.half_mul_le (a := x % 4294967296) (b := y / 4294967296) (by omega) (by omega)
  have ba' : x / 4294967296 * (y / 4294967296) < 18446744073709551616 := by omega
  have bb' : x / 4294967296 * (y % 4294967296) < 18446744073709551616 := by omega
  have bc' : x % 4294967296 * (y / 4294967296) < 18446744073709551616 := by omega
  have bh1 : x / 4294967296 * (y / 4294967296) + (x / 4294967296 * (y % 4294967296) + x % 4294967296 * (y % 4294967296) / 4294967296) / 4294967296 < 18446744073709551616 := by omega
  have bh : x / 4294967296 * (y / 4294967296) + (x / 4294967296 * (y % 4294967296) + x % 4294967296 * (y % 4294967296) / 4294967296) / 4294967296 + ((x / 4294967296 * (y % 4294967296) + x % 4294967296 * (y % 4294967296) / 4294967296) % 4294967296 + x % 4294967296 * (y / 4294967296)) / 4294967296 < 18446744073709551616 := by omega
  refine leafU ?_ ?_
  · simp only [T.den, ofL_i0, ofL_iS, shr32U, andU x hx, andU y hy, mulU' _ _ bd, mulU' _ _ ba', mulU' _ _ bb', mulU' _ _ bc', addU _ _ bt, andU _ bt, addU _ _ bw, addU _ _ bh1, addU _ _ bh, hhi]
  · simp only [T.den, ofL_i0, ofL_iS, mulU]

def divS : ConS := fun vs e => ∃ h l : Nat, h < 64 ∧ l < 18446744073709551616 ∧ vs = [.int .u64 h, .int .u64 l, .int .u64 1000000] ∧ e = Env.ofL [.int .u64 (((h * 18446744073709551616 + l) / 1000000 : Nat) : Int), .int .u64 (((h * 18446744073709551616 + l) % 1000000 : Nat) : Int)]
theorem quoU (a b : Nat) (ha : a < 18446744073709551616) : intBin .quo .u64 (a : Int) (b : Int) = ((a / b : Nat) : Int) := by
  show IntKind.u64.wrap ((a : Int).tdiv b) = _
  rw [← Int.ofNat_tdiv, wrapU, Nat.mod_eq_of_lt (Nat.lt_of_le_of_lt (Nat.div_le_self _ _) ha)]
theorem remU (a b : Nat) : intBin .rem .u64 (a : Int) (b : Int) = ((a % b : Nat) : Int) := rfl
theorem addW (a b : Nat) : intBin .add .u64 (a : Int) (b : Int) = (((a + b) % 18446744073709551616 : Nat) : Int) := by
  show IntKind.u64.wrap ((a : Int) + b) = _
  rw [← Int.natCast_add, wrapU]
theorem subW (a b : Nat) (ha : a < 18446744073709551616) (hb : b < 18446744073709551616) : intBin .sub .u64 (a : Int) (b : Int) = (((a + 18446744073709551616 - b) % 18446744073709551616 : Nat) : Int) := by
  show IntKind.u64.wrap ((a : Int) - b) = _
  rw [IntKind.wrap_u64]
  omega
theorem litN (n : Nat) (ρ : Env) : T.den ρ (.lit ((n : Nat) : Int)) = ((n : Nat) : Int) := rfl

def un32 (h l : Nat) : Nat := h * 17592186044416 + l / 1048576
def qhi (h l : Nat) : Nat := un32 h l / 4096000000
def un21 (h l : Nat) : Nat := (un32 h l % 4096000000) * 4294967296 + l % 1048576 * 4096
def qlo (h l : Nat) : Nat := un21 h l / 4096000000
section
variable {ρ : Env} {h l : Nat} (hh : h < 64) (hl : l < 18446744073709551616) (h0 : ρ.i 0 = h) (h1 : ρ.i 1 = l)
abbrev tU32 : T := .bin .or .u64 (.bin .shl .u64 (.var 0) (.lit 44)) (.bin .shr .u64 (.var 1) (.lit 20))
abbrev tQ1 : T := .bin .quo .u64 tU32 (.lit 4096000000)
abbrev tU10 : T := .bin .shl .u64 (.var 1) (.lit 44)
abbrev tU21 (q : T) : T := .bin .sub .u64 (.bin .add .u64 (.bin .mul .u64 tU32 (.lit 4294967296)) (.bin .shr .u64 tU10 (.lit 32))) (.bin .mul .u64 q (.lit 17592186044416000000))
include hh hl h0 h1
theorem den_U32 : T.den ρ tU32 = ((un32 h l : Nat) : Int) := by
  simp only [T.den, h0, h1, shl44U, shr20U]
  rw [Nat.mod_eq_of_lt (by omega), orU _ _ (by omega) hh]
  rfl
theorem un32_lt : un32 h l < 18446744073709551616 := by unfold un32; omega
theorem den_Q1 : T.den ρ tQ1 = ((qhi h l : Nat) : Int) := by
  show intBin .quo .u64 (T.den ρ tU32) ((4096000000 : Nat) : Int) = _
  rw [den_U32 hh hl h0 h1, quoU _ _ (un32_lt hh hl h0 h1)]
  rfl
theorem den_U10 : T.den ρ tU10 = ((l * 17592186044416 % 18446744073709551616 : Nat) : Int) := by
  simp only [T.den, h1, shl44U]
theorem den_U21 {q : T} (hq : T.den ρ q = ((qhi h l : Nat) : Int)) : T.den ρ (tU21 q) = ((un21 h l : Nat) : Int) := by
  show intBin .sub .u64 (intBin .add .u64 (intBin .mul .u64 (T.den ρ tU32) ((4294967296 : Nat) : Int)) (intBin .shr .u64 (T.den ρ tU10) 32)) (intBin .mul .u64 (T.den ρ q) ((17592186044416000000 : Nat) : Int)) = _
  rw [den_U32 hh hl h0 h1, den_U10 hh hl h0 h1, hq, shr32U, mulU, mulU, addW, subW _ _ (Nat.mod_lt _ (by decide)) (Nat.mod_lt _ (by decide))]
  unfold un21 qhi un32
  omega
end
theorem q_all (h l : Nat) (hh : h < 64) (hl : l < 18446744073709551616) : (qhi h l * 4294967296 + qlo h l) = (h * 18446744073709551616 + l) / 1000000 := by
  unfold qlo un21 qhi un32
  omega
def divLT : List (Nat × LS) := [(17, ⟨[(15, fun b => .int .u64 (.var b)), (16, fun b => .int .u64 (.var (b + 1)))], [], []⟩), (24, ⟨[(18, fun b => .int .u64 (.var b)), (16, fun b => .int .u64 (.var (b + 1)))], [], []⟩)]
def tree43 : Tree :=
 (.split (.cmp .leq (.lit 1000000) (.var 0))
 (.fail 1000)
 (.split (.cmp .eql (.var 0) (.lit 0))
 (leafT (.tup ([(.int .u64 (.bin .quo .u64 (.var 1) (.lit 1000000))), (.int .u64 (.bin .rem .u64 (.var 1) (.lit 1000000)))])) .nil)
 (.loop 17 81200 [(81200, (.int .u64 (.bin .quo .u64 (.bin .or .u64 (.bin .shl .u64 (.var 0) (.lit 44)) (.bin .shr .u64 (.var 1) (.lit 20))) (.lit 4096000000)))), (81201, (.int .u64 (.bin .sub .u64 (.bin .or .u64 (.bin .shl .u64 (.var 0) (.lit 44)) (.bin .shr .u64 (.var 1) (.lit 20))) (.bin .mul .u64 (.bin .quo .u64 (.bin .or .u64 (.bin .shl .u64 (.var 0) (.lit 44)) (.bin .shr .u64 (.var 1) (.lit 20))) (.lit 4096000000)) (.lit 4096000000)))))]
 (.split (.cmp .geq (.var 81200) (.lit 4294967296))
 (.split (.cmp .geq (.bin .add .u64 (.var 81201) (.lit 4096000000)) (.lit 4294967296))
 (.loop 24 122200 [(122201, (.int .u64 (.bin .sub .u64 (.bin .sub .u64 (.bin .add .u64 (.bin .mul .u64 (.bin .or .u64 (.bin .shl .u64 (.var 0) (.lit 44)) (.bin .shr .u64 (.var 1) (.lit 20))) (.lit 4294967296)) (.bin .shr .u64 (.bin .shl .u64 (.var 1) (.lit 44)) (.lit 32))) (.bin .mul .u64 (.bin .sub .u64 (.var 81200) (.lit 1)) (.lit 17592186044416000000))) (.bin .mul .u64 (.bin .quo .u64 (.bin .sub .u64 (.bin .add .u64 (.bin .mul .u64 (.bin .or .u64 (.bin .shl .u64 (.var 0) (.lit 44)) (.bin .shr .u64 (.var 1) (.lit 20))) (.lit 4294967296)) (.bin .shr .u64 (.bin .shl .u64 (.var 1) (.lit 44)) (.lit 32))) (.bin .mul .u64 (.bin .sub .u64 (.var 81200) (.lit 1)) (.lit 17592186044416000000))) (.lit 4096000000)) (.lit 4096000000))))), (122200, (.int .u64 (.bin .quo .u64 (.bin .sub .u64 (.bin .add .u64 (.bin .mul .u64 (.bin .or .u64 (.bin .shl .u64 (.var 0) (.lit 44)) (.bin .shr .u64 (.var 1) (.lit 20))) (.lit 4294967296)) (.bin .shr .u64 (.bin .shl .u64 (.var 1) (.lit 44)) (.lit 32))) (.bin .mul .u64 (.bin .sub .u64 (.var 81200) (.lit 1)) (.lit 17592186044416000000))) (.lit 4096000000))))]
 (.split (.cmp .geq (.var 122200) (.lit 4294967296))
 (.split (.cmp .geq (.bin .add .u64 (.var 122201) (.lit 4096000000)) (.lit 4294967296))
 (leafT (.tup ([(.int .u64 (.bin .add .u64 (.bin .mul .u64 (.bin .sub .u64 (.var 81200) (.lit 1)) (.lit 4294967296)) (.bin .sub .u64 (.var 122200) (.lit 1)))), (.int .u64 (.bin .shr .u64 (.bin .sub .u64 (.bin .add .u64 (.bin .mul .u64 (.bin .sub .u64 (.bin .add .u64 (.bin .mul .u64 (.bin .or .u64 (.bin .shl .u64 (.var 0) (.lit 44)) (.bin .shr .u64 (.var 1) (.lit 20))) (.lit 4294967296)) (.bin .shr .u64 (.bin .shl .u64 (.var 1) (.lit 44)) (.lit 32))) (.bin .mul .u64 (.bin .sub .u64 (.var 81200) (.lit 1)) (.lit 17592186044416000000))) (.lit 4294967296)) (.bin .and .u64 (.bin .shl .u64 (.var 1) (.lit 44)) (.lit 4294967295))) (.bin .mul .u64 (.bin .sub .u64 (.var 122200) (.lit 1)) (.lit 17592186044416000000))) (.lit 44)))])) .nil)
 (.again 24 122200 [(122201, (.int .u64 (.bin .add .u64 (.var 122201) (.lit 4096000000)))), (122200, (.int .u64 (.bin .sub .u64 (.var 122200) (.lit 1))))]))
 (.split (.cmp .gtr (.bin .mul .u64 (.var 122200) (.lit 0)) (.bin .add .u64 (.bin .mul .u64 (.lit 4294967296) (.var 122201)) (.bin .and .u64 (.bin .shl .u64 (.var 1) (.lit 44)) (.lit 4294967295))))
 (.split (.cmp .geq (.bin .add .u64 (.var 122201) (.lit 4096000000)) (.lit 4294967296))
 (leafT (.tup ([(.int .u64 (.bin .add .u64 (.bin .mul .u64 (.bin .sub .u64 (.var 81200) (.lit 1)) (.lit 4294967296)) (.bin .sub .u64 (.var 122200) (.lit 1)))), (.int .u64 (.bin .shr .u64 (.bin .sub .u64 (.bin .add .u64 (.bin .mul .u64 (.bin .sub .u64 (.bin .add .u64 (.bin .mul .u64 (.bin .or .u64 (.bin .shl .u64 (.var 0) (.lit 44)) (.bin .shr .u64 (.var 1) (.lit 20))) (.lit 4294967296)) (.bin .shr .u64 (.bin .shl .u64 (.var 1) (.lit 44)) (.lit 32))) (.bin .mul .u64 (.bin .sub .u64 (.var 81200) (.lit 1)) (.lit 17592186044416000000))) (.lit 4294967296)) (.bin .and .u64 (.bin .shl .u64 (.var 1) (.lit 44)) (.lit 4294967295))) (.bin .mul .u64 (.bin .sub .u64 (.var 122200) (.lit 1)) (.lit 17592186044416000000))) (.lit 44)))])) .nil)
 (.again 24 122200 [(122201, (.int .u64 (.bin .add .u64 (.var 122201) (.lit 4096000000)))), (122200, (.int .u64 (.bin .sub .u64 (.var 122200) (.lit 1))))]))
 (leafT (.tup ([(.int .u64 (.bin .add .u64 (.bin .mul .u64 (.bin .sub .u64 (.var 81200) (.lit 1)) (.lit 4294967296)) (.var 122200))), (.int .u64 (.bin .shr .u64 (.bin .sub .u64 (.bin .add .u64 (.bin .mul .u64 (.bin .sub .u64 (.bin .add .u64 (.bin .mul .u64 (.bin .or .u64 (.bin .shl .u64 (.var 0) (.lit 44)) (.bin .shr .u64 (.var 1) (.lit 20))) (.lit 4294967296)) (.bin .shr .u64 (.bin .shl .u64 (.var 1) (.lit 44)) (.lit 32))) (.bin .mul .u64 (.bin .sub .u64 (.var 81200) (.lit 1)) (.lit 17592186044416000000))) (.lit 4294967296)) (.bin .and .u64 (.bin .shl .u64 (.var 1) (.lit 44)) (.lit 4294967295))) (.bin .mul .u64 (.var 122200) (.lit 17592186044416000000))) (.lit 44)))])) .nil))))
 (.again 17 81200 [(81200, (.int .u64 (.bin .sub .u64 (.var 81200) (.lit 1)))), (81201, (.int .u64 (.bin .add .u64 (.var 81201) (.lit 4096000000))))]))
 (.split (.cmp .gtr (.bin .mul .u64 (.var 81200) (.lit 0)) (.bin .add .u64 (.bin .mul .u64 (.lit 4294967296) (.var 81201)) (.bin .shr .u64 (.bin .shl .u64 (.var 1) (.lit 44)) (.lit 32))))
 (.split (.cmp .geq (.bin .add .u64 (.var 81201) (.lit 4096000000)) (.lit 4294967296))
 (.loop 24 122200 [(122201, (.int .u64 (.bin .sub .u64 (.bin .sub .u64 (.bin .add .u64 (.bin .mul .u64 (.bin .or .u64 (.bin .shl .u64 (.var 0) (.lit 44)) (.bin .shr .u64 (.var 1) (.lit 20))) (.lit 4294967296)) (.bin .shr .u64 (.bin .shl .u64 (.var 1) (.lit 44)) (.lit 32))) (.bin .mul .u64 (.bin .sub .u64 (.var 81200) (.lit 1)) (.lit 17592186044416000000))) (.bin .mul .u64 (.bin .quo .u64 (.bin .sub .u64 (.bin .add .u64 (.bin .mul .u64 (.bin .or .u64 (.bin .shl .u64 (.var 0) (.lit 44)) (.bin .shr .u64 (.var 1) (.lit 20))) (.lit 4294967296)) (.bin .shr .u64 (.bin .shl .u64 (.var 1) (.lit 44)) (.lit 32))) (.bin .mul .u64 (.bin .sub .u64 (.var 81200) (.lit 1)) (.lit 17592186044416000000))) (.lit 4096000000)) (.lit 4096000000))))), (122200, (.int .u64 (.bin .quo .u64 (.bin .sub .u64 (.bin .add .u64 (.bin .mul .u64 (.bin .or .u64 (.bin .shl .u64 (.var 0) (.lit 44)) (.bin .shr .u64 (.var 1) (.lit 20))) (.lit 4294967296)) (.bin .shr .u64 (.bin .shl .u64 (.var 1) (.lit 44)) (.lit 32))) (.bin .mul .u64 (.bin .sub .u64 (.var 81200) (.lit 1)) (.lit 17592186044416000000))) (.lit 4096000000))))]
 (.split (.cmp .geq (.var 122200) (.lit 4294967296))
 (.split (.cmp .geq (.bin .add .u64 (.var 122201) (.lit 4096000000)) (.lit 4294967296))
 (leafT (.tup ([(.int .u64 (.bin .add .u64 (.bin .mul .u64 (.bin .sub .u64 (.var 81200) (.lit 1)) (.lit 4294967296)) (.bin .sub .u64 (.var 122200) (.lit 1)))), (.int .u64 (.bin .shr .u64 (.bin .sub .u64 (.bin .add .u64 (.bin .mul .u64 (.bin .sub .u64 (.bin .add .u64 (.bin .mul .u64 (.bin .or .u64 (.bin .shl .u64 (.var 0) (.lit 44)) (.bin .shr .u64 (.var 1) (.lit 20))) (.lit 4294967296)) (.bin .shr .u64 (.bin .shl .u64 (.var 1) (.lit 44)) (.lit 32))) (.bin .mul .u64 (.bin .sub .u64 (.var 81200) (.lit 1)) (.lit 17592186044416000000))) (.lit 4294967296)) (.bin .and .u64 (.bin .shl .u64 (.var 1) (.lit 44)) (.lit 4294967295))) (.bin .mul .u64 (.bin .sub .u64 (.var 122200) (.lit 1)) (.lit 17592186044416000000))) (.lit 44)))])) .nil)
 (.again 24 122200 [(122201, (.int .u64 (.bin .add .u64 (.var 122201) (.lit 4096000000)))), (122200, (.int .u64 (.bin .sub .u64 (.var 122200) (.lit 1))))]))
 (.split (.cmp .gtr (.bin .mul .u64 (.var 122200) (.lit 0)) (.bin .add .u64 (.bin .mul .u64 (.lit 4294967296) (.var 122201)) (.bin .and .u64 (.bin .shl .u64 (.var 1) (.lit 44)) (.lit 4294967295))))
 (.split (.cmp .geq (.bin .add .u64 (.var 122201) (.lit 4096000000)) (.lit 4294967296))
 (leafT (.tup ([(.int .u64 (.bin .add .u64 (.bin .mul .u64 (.bin .sub .u64 (.var 81200) (.lit 1)) (.lit 4294967296)) (.bin .sub .u64 (.var 122200) (.lit 1)))), (.int .u64 (.bin .shr .u64 (.bin .sub .u64 (.bin .add .u64 (.bin .mul .u64 (.bin .sub .u64 (.bin .add .u64 (.bin .mul .u64 (.bin .or .u64 (.bin .shl .u64 (.var 0) (.lit 44)) (.bin .shr .u64 (.var 1) (.lit 20))) (.lit 4294967296)) (.bin .shr .u64 (.bin .shl .u64 (.var 1) (.lit 44)) (.lit 32))) (.bin .mul .u64 (.bin .sub .u64 (.var 81200) (.lit 1)) (.lit 17592186044416000000))) (.lit 4294967296)) (.bin .and .u64 (.bin .shl .u64 (.var 1) (.lit 44)) (.lit 4294967295))) (.bin .mul .u64 (.bin .sub .u64 (.var 122200) (.lit 1)) (.lit 17592186044416000000))) (.lit 44)))])) .nil)
 (.again 24 122200 [(122201, (.int .u64 (.bin .add .u64 (.var 122201) (.lit 4096000000)))), (122200, (.int .u64 (.bin .sub .u64 (.var 122200) (.lit 1))))]))
 (leafT (.tup ([(.int .u64 (.bin .add .u64 (.bin .mul .u64 (.bin .sub .u64 (.var 81200) (.lit 1)) (.lit 4294967296)) (.var 122200))), (.int .u64 (.bin .shr .u64 (.bin .sub .u64 (.bin .add .u64 (.bin .mul .u64 (.bin .sub .u64 (.bin .add .u64 (.bin .mul .u64 (.bin .or .u64 (.bin .shl .u64 (.var 0) (.lit 44)) (.bin .shr .u64 (.var 1) (.lit 20))) (.lit 4294967296)) (.bin .shr .u64 (.bin .shl .u64 (.var 1) (.lit 44)) (.lit 32))) (.bin .mul .u64 (.bin .sub .u64 (.var 81200) (.lit 1)) (.lit 17592186044416000000))) (.lit 4294967296)) (.bin .and .u64 (.bin .shl .u64 (.var 1) (.lit 44)) (.lit 4294967295))) (.bin .mul .u64 (.var 122200) (.lit 17592186044416000000))) (.lit 44)))])) .nil))))
 (.again 17 81200 [(81200, (.int .u64 (.bin .sub .u64 (.var 81200) (.lit 1)))), (81201, (.int .u64 (.bin .add .u64 (.var 81201) (.lit 4096000000))))]))
 (.loop 24 113200 [(113201, (.int .u64 (.bin .sub .u64 (.bin .sub .u64 (.bin .add .u64 (.bin .mul .u64 (.bin .or .u64 (.bin .shl .u64 (.var 0) (.lit 44)) (.bin .shr .u64 (.var 1) (.lit 20))) (.lit 4294967296)) (.bin .shr .u64 (.bin .shl .u64 (.var 1) (.lit 44)) (.lit 32))) (.bin .mul .u64 (.var 81200) (.lit 17592186044416000000))) (.bin .mul .u64 (.bin .quo .u64 (.bin .sub .u64 (.bin .add .u64 (.bin .mul .u64 (.bin .or .u64 (.bin .shl .u64 (.var 0) (.lit 44)) (.bin .shr .u64 (.var 1) (.lit 20))) (.lit 4294967296)) (.bin .shr .u64 (.bin .shl .u64 (.var 1) (.lit 44)) (.lit 32))) (.bin .mul .u64 (.var 81200) (.lit 17592186044416000000))) (.lit 4096000000)) (.lit 4096000000))))), (113200, (.int .u64 (.bin .quo .u64 (.bin .sub .u64 (.bin .add .u64 (.bin .mul .u64 (.bin .or .u64 (.bin .shl .u64 (.var 0) (.lit 44)) (.bin .shr .u64 (.var 1) (.lit 20))) (.lit 4294967296)) (.bin .shr .u64 (.bin .shl .u64 (.var 1) (.lit 44)) (.lit 32))) (.bin .mul .u64 (.var 81200) (.lit 17592186044416000000))) (.lit 4096000000))))]
 (.split (.cmp .geq (.var 113200) (.lit 4294967296))
 (.split (.cmp .geq (.bin .add .u64 (.var 113201) (.lit 4096000000)) (.lit 4294967296))
 (leafT (.tup ([(.int .u64 (.bin .add .u64 (.bin .mul .u64 (.var 81200) (.lit 4294967296)) (.bin .sub .u64 (.var 113200) (.lit 1)))), (.int .u64 (.bin .shr .u64 (.bin .sub .u64 (.bin .add .u64 (.bin .mul .u64 (.bin .sub .u64 (.bin .add .u64 (.bin .mul .u64 (.bin .or .u64 (.bin .shl .u64 (.var 0) (.lit 44)) (.bin .shr .u64 (.var 1) (.lit 20))) (.lit 4294967296)) (.bin .shr .u64 (.bin .shl .u64 (.var 1) (.lit 44)) (.lit 32))) (.bin .mul .u64 (.var 81200) (.lit 17592186044416000000))) (.lit 4294967296)) (.bin .and .u64 (.bin .shl .u64 (.var 1) (.lit 44)) (.lit 4294967295))) (.bin .mul .u64 (.bin .sub .u64 (.var 113200) (.lit 1)) (.lit 17592186044416000000))) (.lit 44)))])) .nil)
 (.again 24 113200 [(113201, (.int .u64 (.bin .add .u64 (.var 113201) (.lit 4096000000)))), (113200, (.int .u64 (.bin .sub .u64 (.var 113200) (.lit 1))))]))
 (.split (.cmp .gtr (.bin .mul .u64 (.var 113200) (.lit 0)) (.bin .add .u64 (.bin .mul .u64 (.lit 4294967296) (.var 113201)) (.bin .and .u64 (.bin .shl .u64 (.var 1) (.lit 44)) (.lit 4294967295))))
 (.split (.cmp .geq (.bin .add .u64 (.var 113201) (.lit 4096000000)) (.lit 4294967296))
 (leafT (.tup ([(.int .u64 (.bin .add .u64 (.bin .mul .u64 (.var 81200) (.lit 4294967296)) (.bin .sub .u64 (.var 113200) (.lit 1)))), (.int .u64 (.bin .shr .u64 (.bin .sub .u64 (.bin .add .u64 (.bin .mul .u64 (.bin .sub .u64 (.bin .add .u64 (.bin .mul .u64 (.bin .or .u64 (.bin .shl .u64 (.var 0) (.lit 44)) (.bin .shr .u64 (.var 1) (.lit 20))) (.lit 4294967296)) (.bin .shr .u64 (.bin .shl .u64 (.var 1) (.lit 44)) (.lit 32))) (.bin .mul .u64 (.var 81200) (.lit 17592186044416000000))) (.lit 4294967296)) (.bin .and .u64 (.bin .shl .u64 (.var 1) (.lit 44)) (.lit 4294967295))) (.bin .mul .u64 (.bin .sub .u64 (.var 113200) (.lit 1)) (.lit 17592186044416000000))) (.lit 44)))])) .nil)
 (.again 24 113200 [(113201, (.int .u64 (.bin .add .u64 (.var 113201) (.lit 4096000000)))), (113200, (.int .u64 (.bin .sub .u64 (.var 113200) (.lit 1))))]))
 (leafT (.tup ([(.int .u64 (.bin .add .u64 (.bin .mul .u64 (.var 81200) (.lit 4294967296)) (.var 113200))), (.int .u64 (.bin .shr .u64 (.bin .sub .u64 (.bin .add .u64 (.bin .mul .u64 (.bin .sub .u64 (.bin .add .u64 (.bin .mul .u64 (.bin .or .u64 (.bin .shl .u64 (.var 0) (.lit 44)) (.bin .shr .u64 (.var 1) (.lit 20))) (.lit 4294967296)) (.bin .shr .u64 (.bin .shl .u64 (.var 1) (.lit 44)) (.lit 32))) (.bin .mul .u64 (.var 81200) (.lit 17592186044416000000))) (.lit 4294967296)) (.bin .and .u64 (.bin .shl .u64 (.var 1) (.lit 44)) (.lit 4294967295))) (.bin .mul .u64 (.var 113200) (.lit 17592186044416000000))) (.lit 44)))])) .nil)))))))))
def divLQ (h l : Nat) : LoopS := ⟨fun j nv ρ => (j = 17 → ρ.i nv = ((qhi h l : Nat) : Int)) ∧ (j = 24 → ρ.i nv = ((qlo h l : Nat) : Int)), fun _ _ _ => 0⟩
theorem div_r {h l : Nat} {ρ2 : Env} (hh : h < 64) (hl : l < 18446744073709551616) (d21 : T.den ρ2 (tU21 (.var 81200)) = ((un21 h l : Nat) : Int)) (i2 : ρ2.i 113200 = ((qlo h l : Nat) : Int)) (g1 : ρ2.i 1 = (l : Int)) :
    intBin .shr .u64 (intBin .sub .u64 (intBin .add .u64 (intBin .mul .u64 (T.den ρ2 (tU21 (.var 81200))) ((4294967296 : Nat) : Int)) (intBin .and .u64 (intBin .shl .u64 (ρ2.i 1) 44) 4294967295)) (intBin .mul .u64 (ρ2.i 113200) ((17592186044416000000 : Nat) : Int))) 44 = (((h * 18446744073709551616 + l) % 1000000 : Nat) : Int) := by
  rw [d21, i2, g1, shl44U, andU _ (Nat.mod_lt _ (by decide)), mulU, mulU, addW, subW _ _ (Nat.mod_lt _ (by decide)) (Nat.mod_lt _ (by decide)), shr44U]
  refine congrArg Nat.cast ?_
  unfold qlo un21 un32
  omega
theorem div_q {h l : Nat} {ρ2 : Env} (hh : h < 64) (hl : l < 18446744073709551616) (i1 : ρ2.i 81200 = ((qhi h l : Nat) : Int)) (i2 : ρ2.i 113200 = ((qlo h l : Nat) : Int)) :
    intBin .add .u64 (intBin .mul .u64 (ρ2.i 81200) ((4294967296 : Nat) : Int)) (ρ2.i 113200) = (((h * 18446744073709551616 + l) / 1000000 : Nat) : Int) := by
  have a4 := q_all h l hh hl
  have a2 : qlo h l < 4294967296 := by unfold qlo un21; omega
  have : qhi h l < 1048576 := by unfold qhi un32; omega
  rw [i1, i2, mulU, addW, ← a4]
  refine congrArg Nat.cast ?_
  omega
theorem bound_ab {k1 k2 : IntKind} {ρ : Env} {b c : Nat} {t1 t2 : T} (hc : c = b + 1) : Bound ρ (ρ.from_ b (Env.ofL [.int k1 (t1.den ρ), .int k2 (t2.den ρ)])) [(b, .int k1 t1), (c, .int k2 t2)] := by
  subst hc
  simp [Bound, bval, Env.from_, Env.ofL, E.val]
  intro h
  omega
theorem bound_ba {k1 k2 : IntKind} {ρ : Env} {b c : Nat} {t1 t2 : T} (hc : c = b + 1) : Bound ρ (ρ.from_ b (Env.ofL [.int k1 (t1.den ρ), .int k2 (t2.den ρ)])) [(c, .int k2 t2), (b, .int k1 t1)] := by
  subst hc
  simp [Bound, bval, Env.from_, Env.ofL, E.val]
  intro h
  omega
theorem from_first {ρ : Env} {b : Nat} {x : Int} {k : IntKind} {r : List Value} : (ρ.from_ b (Env.ofL (.int k x :: r))).i b = x := by simp [Env.from_, Env.ofL]
theorem no_gtr {ρ : Env} {i n : Nat} {x y : T} (h : ρ.i i = (n : Int)) (c : C.den ρ (.cmp .gtr (.bin .mul .u64 (.var i) (.lit 0)) (.bin .add .u64 x y)) = true) : False := by
  simp only [den_gtr_t] at c
  have e1 : T.den ρ (.bin .mul .u64 (.var i) (.lit 0)) = 0 := by
    show intBin .mul .u64 (ρ.i i) ((0 : Nat) : Int) = _
    rw [h, mulU]
    simp
  have e2 : 0 ≤ T.den ρ (.bin .add .u64 x y) := by
    show 0 ≤ IntKind.u64.wrap _
    rw [IntKind.wrap_u64]
    omega
  rw [e1] at c
  omega
theorem div_holds : (u2C 43).holds Try.prog divS := by
  refine con_of_run (cs := []) (S := []) (LT := divLT) (depth := 6) (fuel := 10) (nv := 200) (av := [.int .u64 (.var 0), .int .u64 (.var 1), .int .u64 (.lit 1000000)]) (T := tree43) trivial (by kernel_rfl) (by kernel_rfl) (by kernel_rfl) ?_
  rintro _ _ ⟨h, l, hh, hl, rfl, rfl⟩
  refine ⟨divLQ h l, Env.ofL [.int .u64 h, .int .u64 l], rfl, ?_⟩
  have g0 : (Env.ofL [.int .u64 h, .int .u64 l]).i 0 = (h : Int) := rfl
  have g1 : (Env.ofL [.int .u64 h, .int .u64 l]).i 1 = (l : Int) := rfl
  generalize Env.ofL [.int .u64 h, .int .u64 l] = ρ at g0 g1
  have a1 : qhi h l < 4294967296 := by unfold qhi un32; omega
  have a2 : qlo h l < 4294967296 := by unfold qlo un21; omega
  have a3 : un21 h l < 18446744073709551616 := by unfold un21; omega
  have a4 := q_all h l hh hl
  refine sem_split (fun c => ?_) (fun _ => ?_)
  · simp only [den_leq_t, T.den, g0] at c
    omega
  refine sem_split (fun c => ?_) (fun _ => ?_)
  · simp only [den_eql_t, T.den, g0] at c
    obtain rfl : h = 0 := by omega
    refine leafU ?_ ?_
    · show intBin .quo .u64 (ρ.i 1) ((1000000 : Nat) : Int) = _
      rw [g1, quoU _ _ hl]
      refine congrArg Nat.cast ?_
      omega
    · show intBin .rem .u64 (ρ.i 1) ((1000000 : Nat) : Int) = _
      rw [g1, remU]
      refine congrArg Nat.cast ?_
      omega
  refine sem_loop (ρ.from_ 81200 (Env.ofL [.int .u64 (T.den ρ tQ1), .int .u64 (T.den ρ (.bin .sub .u64 tU32 (.bin .mul .u64 tQ1 (.lit 4096000000))))])) (Env.from_ag _ _ _) (bound_ab rfl) ⟨fun _ => from_first.trans (den_Q1 hh hl g0 g1), (fun c => by cases c)⟩ (by kernel_rfl) (fun _ _ _ => rfl) ?_
  intro ρ1 ag1 ⟨i1, _⟩
  have i1 := i1 rfl
  have g0 : ρ1.i 0 = (h : Int) := (ag1 0 (by decide)).1.trans g0
  have g1 : ρ1.i 1 = (l : Int) := (ag1 1 (by decide)).1.trans g1
  refine sem_split (fun c => ?_) (fun _ => ?_)
  · simp only [den_geq_t, T.den, i1] at c
    omega
  refine sem_split (fun c => (no_gtr i1 c).elim) (fun _ => ?_)
  have d21 := den_U21 (q := .var 81200) hh hl g0 g1 i1
  have dq : T.den ρ1 (.bin .quo .u64 (tU21 (.var 81200)) (.lit 4096000000)) = ((qlo h l : Nat) : Int) := by
    show intBin .quo .u64 (T.den ρ1 (tU21 (.var 81200))) ((4096000000 : Nat) : Int) = _
    rw [d21, quoU _ _ a3]
    rfl
  refine sem_loop (ρ1.from_ 113200 (Env.ofL [.int .u64 (T.den ρ1 (.bin .quo .u64 (tU21 (.var 81200)) (.lit 4096000000))), .int .u64 (T.den ρ1 (.bin .sub .u64 (tU21 (.var 81200)) (.bin .mul .u64 (.bin .quo .u64 (tU21 (.var 81200)) (.lit 4096000000)) (.lit 4096000000))))])) (Env.from_ag _ _ _) (bound_ba rfl) ⟨(fun c => by cases c), fun _ => from_first.trans dq⟩ (by kernel_rfl) (fun _ _ _ => rfl) ?_
  intro ρ2 ag2 ⟨_, i2⟩
  have i2 := i2 rfl
  have i1 : ρ2.i 81200 = ((qhi h l : Nat) : Int) := (ag2 81200 (by decide)).1.trans i1
  have g0 : ρ2.i 0 = (h : Int) := (ag2 0 (by decide)).1.trans g0
  have g1 : ρ2.i 1 = (l : Int) := (ag2 1 (by decide)).1.trans g1
  have d21 := den_U21 (q := .var 81200) hh hl g0 g1 i1
  refine sem_split (fun c => ?_) (fun _ => ?_)
  · simp only [den_geq_t, T.den, i2] at c
    omega
  refine sem_split (fun c => (no_gtr i2 c).elim) (fun _ => ?_)
  exact leafU (div_q hh hl i1 i2) (div_r hh hl d21 i2 g1)
end Go.Proofs.Ytigpdnbcjmcfoaa
