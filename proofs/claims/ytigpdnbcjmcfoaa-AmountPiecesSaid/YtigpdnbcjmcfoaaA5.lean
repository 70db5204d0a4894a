/- What is proved: contracts of the statements AmountBack, AmountParts, AmountSays (chapter 2), by symbolic runs. No condition. -/
import Derived.Test.YtigpdnbcjmcfoaaA4
namespace Go.Proofs.Ytigpdnbcjmcfoaa
open Go.RowKit Sx
set_option maxRecDepth 100000
set_option linter.unusedSimpArgs false

theorem den_iff_t (ρ : Env) (a b : C) : (C.den ρ (.iff a b) = true) = ((a.den ρ = true) ↔ (b.den ρ = true)) := by
  simp only [C.den, beq_iff_eq, eq_iff_iff]; cases a.den ρ <;> cases b.den ρ <;> simp
theorem den_iff_f (ρ : Env) (a b : C) : (C.den ρ (.iff a b) = false) = ¬ ((a.den ρ = true) ↔ (b.den ρ = true)) := by
  simp only [C.den, beq_eq_false_iff_ne, ne_eq, eq_iff_iff]; cases a.den ρ <;> cases b.den ρ <;> simp
section
variable {S : List ConS} {LQ : LoopS} {ρ : Env} {K : Env → Ex → St → Prop}
theorem leafBt {b : Nat} {h : Tr (List E)} : treeSem S LQ (KF [] (.bool (.var 0)) (Env.ofL [.bool true])) (ρ.from_ b (Env.ofL [.bool true])) (leafT (.bool (.var b)) h) := sem_ret rfl (by simp [E.val, C.den, Env.from_]) trivial
theorem leafBf {h : Tr (List E)} (hf : False) : treeSem S LQ (KF [] (.bool (.var 0)) (Env.ofL [.bool true])) ρ (leafT (.bool (.lit false)) h) := hf.elim
theorem call_in2 {ci base : Nat} {f : Int → Int → Int × Int} {R : Int → Int → Int → Int → Prop} (hR : ∀ a b, R a b (f a b).1 (f a b).2) (h : S[ci]? = some (in2S f)) {t1 t2 : T} {t : Tree}
    (k : ∀ x y, R (t1.den ρ) (t2.den ρ) x y → treeSem S LQ K (ρ.from_ base (Env.ofL [.int .i64 x, .int .i64 y])) t) : treeSem S LQ K ρ (.call ci base [.int .i64 t1, .int .i64 t2] t) :=
  sem_call _ _ h ⟨_, _, rfl, rfl⟩ (k _ _ (hR _ _))
theorem call_in1 {ci base : Nat} {f : Int → Int} {R : Int → Int → Prop} (hR : ∀ a, R a (f a)) (h : S[ci]? = some (in1S f)) {t1 : T} {t : Tree}
    (k : ∀ x, R (t1.den ρ) x → treeSem S LQ K (ρ.from_ base (Env.ofL [.int .i64 x])) t) : treeSem S LQ K ρ (.call ci base [.int .i64 t1] t) :=
  sem_call _ _ h ⟨_, rfl, rfl⟩ (k _ (hR _))
theorem call_nil {ci base : Nat} {v : Value} (h : S[ci]? = some (nilS v)) {t : Tree} (k : treeSem S LQ K (ρ.from_ base (Env.ofL [v])) t) : treeSem S LQ K ρ (.call ci base [] t) :=
  sem_call _ _ h ⟨rfl, rfl⟩ k
end

def sumR (a b s e : Int) : Prop := (e = 0 ∧ s = a + b ∧ 0 ≤ a ∧ a ≤ 1125899906842624 ∧ 0 ≤ b ∧ b ≤ 1125899906842624 ∧ 0 ≤ a + b ∧ a + b ≤ 1125899906842624) ∨ (e = 15 ∧ s = 0 ∧ ¬ (0 ≤ a ∧ a ≤ 1125899906842624 ∧ 0 ≤ b ∧ b ≤ 1125899906842624 ∧ 0 ≤ a + b ∧ a + b ≤ 1125899906842624))
def subR (a b s e : Int) : Prop := (e = 0 ∧ s = a - b ∧ 0 ≤ a ∧ a ≤ 1125899906842624 ∧ 0 ≤ b ∧ b ≤ 1125899906842624 ∧ 0 ≤ a - b) ∨ (e = 15 ∧ s = 0 ∧ ¬ (0 ≤ a ∧ a ≤ 1125899906842624 ∧ 0 ≤ b ∧ b ≤ 1125899906842624 ∧ 0 ≤ a - b))
def chkR (a e : Int) : Prop := (e = 0 ∧ 0 ≤ a ∧ a ≤ 1125899906842624) ∨ (e = 15 ∧ ¬ (0 ≤ a ∧ a ≤ 1125899906842624))
def partR (a p x e : Int) : Prop := (e = 0 ∧ 0 ≤ a ∧ a ≤ 1125899906842624 ∧ 0 ≤ p ∧ p ≤ 1000000 ∧ x = (a * p + 999999) / 1000000) ∨ (x = 0 ∧ ((e = 15 ∧ ¬ (0 ≤ a ∧ a ≤ 1125899906842624)) ∨ (e = 1 ∧ 0 ≤ a ∧ a ≤ 1125899906842624 ∧ ¬ (0 ≤ p ∧ p ≤ 1000000))))
theorem sumR_ok (a b : Int) : sumR a b (sumV a b).1 (sumV a b).2 := by
  unfold sumR sumV isA; split
  · left; refine ⟨rfl, rfl, ?_⟩; omega
  · right; refine ⟨rfl, rfl, ?_⟩; omega
theorem subR_ok (a b : Int) : subR a b (subV a b).1 (subV a b).2 := by
  unfold subR subV isA; split
  · left; refine ⟨rfl, rfl, ?_⟩; omega
  · right; refine ⟨rfl, rfl, ?_⟩; omega
theorem chkR_ok (a : Int) : chkR a (chk a) := by
  unfold chkR chk
  by_cases h : isA a
  · rw [if_pos h]; left; exact ⟨rfl, h.1, h.2⟩
  · rw [if_neg h]; right; exact ⟨rfl, h⟩
theorem partR_ok (a p : Int) : partR a p (partV a p).1 (partV a p).2 := by
  unfold partR partV isA; split
  · right; exact ⟨rfl, .inl ⟨rfl, by omega⟩⟩
  · split
    · right; exact ⟨rfl, .inr ⟨rfl, by omega⟩⟩
    · left; exact ⟨rfl, by omega, by omega, by omega, by omega, rfl⟩

def law2S : ConS := fun vs e => ∃ a b : Int, vs = [.int .i64 a, .int .i64 b] ∧ e = Env.ofL [.bool true]
def tree5 : Tree :=
 (.call 0 3200 [(.int .i64 (.var 0)), (.int .i64 (.var 1))]
 (.call 1 11200 [(.int .i64 (.var 0)), (.int .i64 (.var 1))]
 (.split (.cmp .eql (.var 3201) (.lit 0))
 (.split (.cmp .eql (.var 11201) (.lit 0))
 (.call 2 32200 [(.int .i64 (.var 0))]
 (.split (.cmp .eql (.var 32200) (.lit 0))
 (.call 2 36200 [(.int .i64 (.var 1))]
 (.split (.cmp .eql (.var 36200) (.lit 0))
 (.call 1 43200 [(.int .i64 (.var 3200)), (.int .i64 (.var 0))]
 (.call 1 51200 [(.int .i64 (.var 3200)), (.int .i64 (.var 1))]
 (.split (.cmp .eql (.var 43201) (.lit 0))
 (.split (.cmp .eql (.var 51201) (.lit 0))
 (.split (.cmp .eql (.var 43200) (.var 1))
 (.split (.cmp .eql (.var 51200) (.var 0))
 (.split (.cmp .lss (.var 3200) (.var 0))
 (leafT (.bool (.lit false)) .nil)
 (.split (.cmp .lss (.var 3200) (.var 1))
 (leafT (.bool (.lit false)) .nil)
 (.call 0 87200 [(.int .i64 (.var 11200)), (.int .i64 (.var 1))]
 (.split (.cmp .eql (.var 87201) (.lit 0))
 (.split (.cmp .eql (.var 87200) (.var 0))
 (.split (.cmp .geq (.var 0) (.var 1))
 (.call 3 107200 []
 (leafT (.bool (.var 107200)) .nil))
 (leafT (.bool (.lit false)) .nil))
 (leafT (.bool (.lit false)) .nil))
 (leafT (.bool (.lit false)) .nil)))))
 (leafT (.bool (.lit false)) .nil))
 (leafT (.bool (.lit false)) .nil))
 (leafT (.bool (.lit false)) .nil))
 (leafT (.bool (.lit false)) .nil))))
 (leafT (.bool (.lit false)) .nil)))
 (leafT (.bool (.lit false)) .nil)))
 (.split (.cmp .eql (.var 11200) (.lit 0))
 (.call 2 32200 [(.int .i64 (.var 0))]
 (.split (.cmp .eql (.var 32200) (.lit 0))
 (.call 2 36200 [(.int .i64 (.var 1))]
 (.split (.cmp .eql (.var 36200) (.lit 0))
 (.call 1 43200 [(.int .i64 (.var 3200)), (.int .i64 (.var 0))]
 (.call 1 51200 [(.int .i64 (.var 3200)), (.int .i64 (.var 1))]
 (.split (.cmp .eql (.var 43201) (.lit 0))
 (.split (.cmp .eql (.var 51201) (.lit 0))
 (.split (.cmp .eql (.var 43200) (.var 1))
 (.split (.cmp .eql (.var 51200) (.var 0))
 (.split (.cmp .lss (.var 3200) (.var 0))
 (leafT (.bool (.lit false)) .nil)
 (.split (.cmp .lss (.var 3200) (.var 1))
 (leafT (.bool (.lit false)) .nil)
 (.split (.iff (.cmp .eql (.var 11201) (.lit 0)) (.cmp .geq (.var 0) (.var 1)))
 (.call 3 92200 []
 (leafT (.bool (.var 92200)) .nil))
 (leafT (.bool (.lit false)) .nil))))
 (leafT (.bool (.lit false)) .nil))
 (leafT (.bool (.lit false)) .nil))
 (leafT (.bool (.lit false)) .nil))
 (leafT (.bool (.lit false)) .nil))))
 (leafT (.bool (.lit false)) .nil)))
 (leafT (.bool (.lit false)) .nil)))
 (leafT (.bool (.lit false)) .nil)))
 (.split (.cmp .eql (.var 3200) (.lit 0))
 (.split (.cmp .eql (.var 11201) (.lit 0))
 (.call 2 32200 [(.int .i64 (.var 0))]
 (.split (.cmp .eql (.var 32200) (.lit 0))
 (.call 2 36200 [(.int .i64 (.var 1))]
 (.split (.cmp .eql (.var 36200) (.lit 0))
 (.call 0 45200 [(.int .i64 (.var 11200)), (.int .i64 (.var 1))]
 (.split (.cmp .eql (.var 45201) (.lit 0))
 (.split (.cmp .eql (.var 45200) (.var 0))
 (.split (.cmp .geq (.var 0) (.var 1))
 (.call 3 65200 []
 (leafT (.bool (.var 65200)) .nil))
 (leafT (.bool (.lit false)) .nil))
 (leafT (.bool (.lit false)) .nil))
 (leafT (.bool (.lit false)) .nil)))
 (.split (.cmp .eql (.var 3201) (.lit 15))
 (leafT (.bool (.lit false)) .nil)
 (leafT (.bool (.lit false)) .nil))))
 (.split (.cmp .eql (.var 3201) (.lit 15))
 (leafT (.bool (.lit false)) .nil)
 (leafT (.bool (.lit false)) .nil))))
 (.split (.cmp .eql (.var 11200) (.lit 0))
 (.call 2 32200 [(.int .i64 (.var 0))]
 (.split (.cmp .eql (.var 32200) (.lit 0))
 (.call 2 36200 [(.int .i64 (.var 1))]
 (.split (.cmp .eql (.var 36200) (.lit 0))
 (.split (.iff (.cmp .eql (.var 11201) (.lit 0)) (.cmp .geq (.var 0) (.var 1)))
 (.call 3 50200 []
 (leafT (.bool (.var 50200)) .nil))
 (leafT (.bool (.lit false)) .nil))
 (.split (.cmp .eql (.var 3201) (.lit 15))
 (.split (.cmp .eql (.var 11201) (.lit 15))
 (.call 3 46200 []
 (leafT (.bool (.var 46200)) .nil))
 (leafT (.bool (.lit false)) .nil))
 (leafT (.bool (.lit false)) .nil))))
 (.split (.cmp .eql (.var 3201) (.lit 15))
 (.split (.cmp .eql (.var 11201) (.lit 15))
 (.call 3 46200 []
 (leafT (.bool (.var 46200)) .nil))
 (leafT (.bool (.lit false)) .nil))
 (leafT (.bool (.lit false)) .nil))))
 (leafT (.bool (.lit false)) .nil)))
 (leafT (.bool (.lit false)) .nil)))))
set_option maxHeartbeats 2000000 in
theorem back_holds : (b0C 5).holds Try.prog law2S := by
  refine con_of_run (cs := [i2C 18, i2C 19, i1C 20, b0C 12]) (S := [in2S sumV, in2S subV, in1S chk, nilS (.bool true)]) (LT := []) (depth := 0) (fuel := 10) (nv := 200) (av := [.int .i64 (.var 0), .int .i64 (.var 1)]) (T := tree5) ⟨add_holds, sub_holds, chk_holds, known_holds, trivial⟩ (by kernel_rfl) (by kernel_rfl) (by kernel_rfl) ?_
  rintro _ _ ⟨a, b, rfl, rfl⟩
  refine ⟨noLoops, Env.ofL [.int .i64 a, .int .i64 b], rfl, ?_⟩
  unfold tree5
  (repeat' (first | rfl | (with_reducible exact leafBt) | (with_reducible refine leafBf ?_) | (with_reducible refine call_in2 (ci := 0) sumR_ok ?_ (fun x y hx => ?_) <;> (try simp only [den_lss_t, den_lss_f, den_leq_t, den_leq_f, den_gtr_t, den_gtr_f, den_geq_t, den_geq_f, den_eql_t, den_eql_f, den_iff_t, den_iff_f, T.den, intBin, intMin, intMax, from_i, from_b, Nat.reduceLT, Nat.reduceSub, if_true, if_false, ofL_i0, ofL_iS, IntKind.wrap_i64, IntKind.wrap_u64, ne_eq, Bool.false_eq_true, reduceIte, sumR, subR, chkR] at hx)) | (with_reducible refine call_in2 (ci := 1) subR_ok ?_ (fun x y hx => ?_) <;> (try simp only [den_lss_t, den_lss_f, den_leq_t, den_leq_f, den_gtr_t, den_gtr_f, den_geq_t, den_geq_f, den_eql_t, den_eql_f, den_iff_t, den_iff_f, T.den, intBin, intMin, intMax, from_i, from_b, Nat.reduceLT, Nat.reduceSub, if_true, if_false, ofL_i0, ofL_iS, IntKind.wrap_i64, IntKind.wrap_u64, ne_eq, Bool.false_eq_true, reduceIte, sumR, subR, chkR] at hx)) | (with_reducible refine call_in1 (ci := 2) chkR_ok ?_ (fun x hx => ?_) <;> (try simp only [den_lss_t, den_lss_f, den_leq_t, den_leq_f, den_gtr_t, den_gtr_f, den_geq_t, den_geq_f, den_eql_t, den_eql_f, den_iff_t, den_iff_f, T.den, intBin, intMin, intMax, from_i, from_b, Nat.reduceLT, Nat.reduceSub, if_true, if_false, ofL_i0, ofL_iS, IntKind.wrap_i64, IntKind.wrap_u64, ne_eq, Bool.false_eq_true, reduceIte, sumR, subR, chkR] at hx)) | (with_reducible refine call_nil (ci := 3) (v := .bool true) ?_ ?_ <;> (try simp only [den_lss_t, den_lss_f, den_leq_t, den_leq_f, den_gtr_t, den_gtr_f, den_geq_t, den_geq_f, den_eql_t, den_eql_f, den_iff_t, den_iff_f, T.den, intBin, intMin, intMax, from_i, from_b, Nat.reduceLT, Nat.reduceSub, if_true, if_false, ofL_i0, ofL_iS, IntKind.wrap_i64, IntKind.wrap_u64, ne_eq, Bool.false_eq_true, reduceIte, sumR, subR, chkR] at hx)) | (with_reducible refine sem_split (fun h => ?_) (fun h => ?_) <;> (try simp only [den_lss_t, den_lss_f, den_leq_t, den_leq_f, den_gtr_t, den_gtr_f, den_geq_t, den_geq_f, den_eql_t, den_eql_f, den_iff_t, den_iff_f, T.den, intBin, intMin, intMax, from_i, from_b, Nat.reduceLT, Nat.reduceSub, if_true, if_false, ofL_i0, ofL_iS, IntKind.wrap_i64, IntKind.wrap_u64, ne_eq, Bool.false_eq_true, reduceIte, sumR, subR, chkR] at h))))
  all_goals omega

/-- What Part tells, as far as sums of parts ask. -/
theorem parts_arith {x y z P Q : Int} (hx : x = (P + 999999) / 1000000) (hy : y = (Q + 999999) / 1000000) (hz : z = (P + Q + 999999) / 1000000) : z ≤ x + y ∧ x + y ≤ z + 1 := by omega
theorem mul_le_of {a p : Int} (ha : 0 ≤ a) (h0 : 0 ≤ p) (h1 : p ≤ 1000000) : 0 ≤ a * p ∧ a * p ≤ 1000000 * a ∧ (a * p = 0 ↔ a = 0 ∨ p = 0) ∧ (a ≤ 1125899906842624 → a * p ≤ 1125899906842624000000) := by
  refine ⟨Int.mul_nonneg ha h0, ?_, Int.mul_eq_zero, fun h => ?_⟩
  · rw [Int.mul_comm 1000000 a]; exact Int.mul_le_mul_of_nonneg_left h1 ha
  · have := Int.mul_le_mul h h1 h0 (by omega)
    omega
def partQ (a p x e : Int) : Prop := (e = 0 ∧ 0 ≤ a ∧ a ≤ 1125899906842624 ∧ 0 ≤ p ∧ p ≤ 1000000 ∧ x = (a * p + 999999) / 1000000 ∧ 0 ≤ a * p ∧ a * p ≤ 1000000 * a ∧ a * p ≤ 1125899906842624000000 ∧ (a * p = 0 ↔ a = 0 ∨ p = 0)) ∨ (x = 0 ∧ ((e = 15 ∧ ¬ (0 ≤ a ∧ a ≤ 1125899906842624)) ∨ (e = 1 ∧ 0 ≤ a ∧ a ≤ 1125899906842624 ∧ ¬ (0 ≤ p ∧ p ≤ 1000000))))
theorem partQ_ok (a p : Int) : partQ a p (partV a p).1 (partV a p).2 := by
  rcases partR_ok a p with ⟨h1, h2, h3, h4, h5, h6⟩ | h
  · obtain ⟨m1, m2, m3, m4⟩ := mul_le_of h2 h4 h5
    exact .inl ⟨h1, h2, h3, h4, h5, h6, m1, m2, m4 h3, m3⟩
  · exact .inr h
theorem parts_main {a b p x1 y1 x2 y2 s e x y : Int} (h1 : partQ a p x1 y1) (h2 : partQ b p x2 y2) (h3 : sumR a b s e) (g : e = 0) (g1 : y1 = 0) (g2 : y2 = 0) (h4 : partQ s p x y) :
    y = 0 ∧ x ≤ x1 + x2 ∧ x1 + x2 ≤ x + 1 ∧ 0 ≤ x1 ∧ x1 ≤ a ∧ (x1 = 0 ↔ (a = 0 ∨ p = 0)) ∧ 0 ≤ x2 ∧ x2 ≤ 1125899906842624 ∧ a ≤ 1125899906842624 ∧ 0 ≤ a := by
  subst g g1 g2
  unfold partQ at h1 h2
  unfold sumR at h3
  obtain ⟨_, a1, a2, p1, p2, a3, a4, a5, a6, a7⟩ : 0 = (0 : Int) ∧ _ := by rcases h1 with h | ⟨_, h⟩; exact h; exfalso; omega
  obtain ⟨_, b1, b2, _, _, b3, b4, b5, b6, b7⟩ : 0 = (0 : Int) ∧ _ := by rcases h2 with h | ⟨_, h⟩; exact h; exfalso; omega
  obtain ⟨_, rfl, _, _, _, _, s1, s2⟩ : 0 = (0 : Int) ∧ _ := by rcases h3 with h | ⟨h, _⟩; exact h; exfalso; omega
  unfold partQ at h4
  have hs : (a + b) * p = a * p + b * p := Int.add_mul a b p
  rw [hs] at h4
  generalize a * p = A at *
  generalize b * p = B at *
  obtain ⟨c1, _, _, _, _, c3, _⟩ : y = 0 ∧ _ := by rcases h4 with h | ⟨_, h⟩; exact h; exfalso; omega
  refine ⟨c1, by omega, by omega, by omega, by omega, ?_, by omega, by omega, a2, a1⟩
  rw [← a7]
  omega
theorem parts_mill {a p w e : Int} (ha : 0 ≤ a) (h : a ≤ 1048576) (hp : 0 ≤ p) (hp1 : p ≤ 1000000) (h1 : partQ (1000000 * a) p w e) : e = 0 ∧ w = a * p ∧ 0 ≤ a * p ∧ a * p ≤ 1048576000000 := by
  unfold partQ at h1
  have hs : 1000000 * a * p = 1000000 * (a * p) := Int.mul_assoc 1000000 a p
  rw [hs] at h1
  have m := mul_le_of ha hp hp1
  generalize a * p = A at *
  obtain ⟨c1, _, _, _, _, c3, _⟩ : e = 0 ∧ _ := by rcases h1 with h | ⟨_, h⟩; exact h; exfalso; omega
  refine ⟨c1, ?_, m.1, ?_⟩ <;> omega
theorem parts_ppm {a p x : Int} {y : Int} (h : partQ a p x y) (g : y = 0) : 0 ≤ p ∧ p ≤ 1000000 := by
  unfold partQ at h; omega
theorem parts_err {a p x : Int} {y : Int} (h : partQ a p x y) (g : ¬ y = 0) : x = 0 := by
  unfold partQ at h
  rcases h with h | h
  · exact absurd h.1 g
  · exact h.1
def law3S : ConS := fun vs e => ∃ a b p : Int, vs = [.int .i64 a, .int .i64 b, .int .i64 p] ∧ e = Env.ofL [.bool true]
def tree4 : Tree :=
 (.call 0 3200 [(.int .i64 (.var 0)), (.int .i64 (.var 2))]
 (.call 0 11200 [(.int .i64 (.var 1)), (.int .i64 (.var 2))]
 (.call 1 19200 [(.int .i64 (.var 0)), (.int .i64 (.var 1))]
 (.split (.cmp .eql (.var 19201) (.lit 0))
 (.split (.cmp .eql (.var 3201) (.lit 0))
 (.split (.cmp .eql (.var 11201) (.lit 0))
 (.call 0 37200 [(.int .i64 (.var 19200)), (.int .i64 (.var 2))]
 (.split (.cmp .eql (.var 37201) (.lit 0))
 (.split (.cmp .lss (.bin .add .i64 (.var 3200) (.var 11200)) (.var 37200))
 (leafT (.bool (.lit false)) .nil)
 (.split (.cmp .gtr (.bin .add .i64 (.var 3200) (.var 11200)) (.bin .add .i64 (.var 37200) (.lit 1)))
 (leafT (.bool (.lit false)) .nil)
 (.split (.cmp .lss (.var 3200) (.lit 0))
 (leafT (.bool (.lit false)) .nil)
 (.split (.cmp .gtr (.var 3200) (.var 0))
 (leafT (.bool (.lit false)) .nil)
 (.split (.cmp .eql (.var 0) (.lit 0))
 (.split (.cmp .eql (.var 3200) (.lit 0))
 (.call 0 85200 [(.int .i64 (.lit 0)), (.int .i64 (.var 2))]
 (.split (.cmp .eql (.var 85201) (.lit 0))
 (.split (.cmp .eql (.var 85200) (.bin .mul .i64 (.lit 0) (.var 2)))
 (.call 2 100200 []
 (leafT (.bool (.var 100200)) .nil))
 (leafT (.bool (.lit false)) .nil))
 (leafT (.bool (.lit false)) .nil)))
 (leafT (.bool (.lit false)) .nil))
 (.split (.iff (.cmp .eql (.var 3200) (.lit 0)) (.cmp .eql (.var 2) (.lit 0)))
 (.split (.cmp .leq (.var 0) (.lit 1048576))
 (.call 0 85200 [(.int .i64 (.bin .mul .i64 (.lit 1000000) (.var 0))), (.int .i64 (.var 2))]
 (.split (.cmp .eql (.var 85201) (.lit 0))
 (.split (.cmp .eql (.var 85200) (.bin .mul .i64 (.var 0) (.var 2)))
 (.call 2 100200 []
 (leafT (.bool (.var 100200)) .nil))
 (leafT (.bool (.lit false)) .nil))
 (leafT (.bool (.lit false)) .nil)))
 (.call 2 82200 []
 (leafT (.bool (.var 82200)) .nil)))
 (leafT (.bool (.lit false)) .nil)))))))
 (leafT (.bool (.lit false)) .nil)))
 (.split (.cmp .eql (.var 11200) (.lit 0))
 (.call 2 50200 []
 (leafT (.bool (.var 50200)) .nil))
 (leafT (.bool (.lit false)) .nil)))
 (.split (.cmp .eql (.var 3200) (.lit 0))
 (.split (.cmp .eql (.var 11201) (.lit 0))
 (.call 2 50200 []
 (leafT (.bool (.var 50200)) .nil))
 (.split (.cmp .eql (.var 11200) (.lit 0))
 (.call 2 50200 []
 (leafT (.bool (.var 50200)) .nil))
 (leafT (.bool (.lit false)) .nil)))
 (leafT (.bool (.lit false)) .nil)))
 (.split (.cmp .eql (.var 3201) (.lit 0))
 (.split (.cmp .eql (.var 11201) (.lit 0))
 (.call 2 50200 []
 (leafT (.bool (.var 50200)) .nil))
 (.split (.cmp .eql (.var 11200) (.lit 0))
 (.call 2 50200 []
 (leafT (.bool (.var 50200)) .nil))
 (leafT (.bool (.lit false)) .nil)))
 (.split (.cmp .eql (.var 3200) (.lit 0))
 (.split (.cmp .eql (.var 11201) (.lit 0))
 (.call 2 50200 []
 (leafT (.bool (.var 50200)) .nil))
 (.split (.cmp .eql (.var 11200) (.lit 0))
 (.call 2 50200 []
 (leafT (.bool (.var 50200)) .nil))
 (leafT (.bool (.lit false)) .nil)))
 (leafT (.bool (.lit false)) .nil)))))))
set_option maxHeartbeats 2000000 in
theorem parts_holds : (b0C 4).holds Try.prog law3S := by
  refine con_of_run (cs := [i2C 17, i2C 18, b0C 12]) (S := [in2S partV, in2S sumV, nilS (.bool true)]) (LT := []) (depth := 0) (fuel := 10) (nv := 200) (av := [.int .i64 (.var 0), .int .i64 (.var 1), .int .i64 (.var 2)]) (T := tree4) ⟨part_holds, add_holds, known_holds, trivial⟩ (by kernel_rfl) (by kernel_rfl) (by kernel_rfl) ?_
  rintro _ _ ⟨a, b, p, rfl, rfl⟩
  refine ⟨noLoops, Env.ofL [.int .i64 a, .int .i64 b, .int .i64 p], rfl, ?_⟩
  unfold tree4
  (repeat' (first | rfl | (with_reducible exact leafBt) | (with_reducible refine leafBf ?_) | (with_reducible refine call_in2 (ci := 0) partQ_ok ?_ (fun x y hx => ?_) <;> (try simp only [den_lss_t, den_lss_f, den_leq_t, den_leq_f, den_gtr_t, den_gtr_f, den_geq_t, den_geq_f, den_eql_t, den_eql_f, den_iff_t, den_iff_f, T.den, intBin, intMin, intMax, from_i, from_b, Nat.reduceLT, Nat.reduceSub, if_true, if_false, ofL_i0, ofL_iS, IntKind.wrap_i64, IntKind.wrap_u64, ne_eq, Bool.false_eq_true, reduceIte] at hx)) | (with_reducible refine call_in2 (ci := 1) sumR_ok ?_ (fun x y hx => ?_) <;> (try simp only [den_lss_t, den_lss_f, den_leq_t, den_leq_f, den_gtr_t, den_gtr_f, den_geq_t, den_geq_f, den_eql_t, den_eql_f, den_iff_t, den_iff_f, T.den, intBin, intMin, intMax, from_i, from_b, Nat.reduceLT, Nat.reduceSub, if_true, if_false, ofL_i0, ofL_iS, IntKind.wrap_i64, IntKind.wrap_u64, ne_eq, Bool.false_eq_true, reduceIte] at hx)) | (with_reducible refine call_nil (ci := 2) (v := .bool true) ?_ ?_ <;> (try simp only [den_lss_t, den_lss_f, den_leq_t, den_leq_f, den_gtr_t, den_gtr_f, den_geq_t, den_geq_f, den_eql_t, den_eql_f, den_iff_t, den_iff_f, T.den, intBin, intMin, intMax, from_i, from_b, Nat.reduceLT, Nat.reduceSub, if_true, if_false, ofL_i0, ofL_iS, IntKind.wrap_i64, IntKind.wrap_u64, ne_eq, Bool.false_eq_true, reduceIte] at hx)) | (with_reducible refine sem_split (fun h => ?_) (fun h => ?_) <;> (try simp only [den_lss_t, den_lss_f, den_leq_t, den_leq_f, den_gtr_t, den_gtr_f, den_geq_t, den_geq_f, den_eql_t, den_eql_f, den_iff_t, den_iff_f, T.den, intBin, intMin, intMax, from_i, from_b, Nat.reduceLT, Nat.reduceSub, if_true, if_false, ofL_i0, ofL_iS, IntKind.wrap_i64, IntKind.wrap_u64, ne_eq, Bool.false_eq_true, reduceIte] at h))))
  all_goals first
    | (have E := parts_err (a := a) (p := p) (by assumption) (by assumption); exact absurd E (by assumption))
    | (have E := parts_err (a := b) (p := p) (by assumption) (by assumption); exact absurd E (by assumption))
    | (have M := parts_main ‹partQ a p _ _› ‹partQ b p _ _› ‹sumR a b _ _› (by assumption) (by assumption) (by assumption) ‹partQ _ p _ _›; omega)
    | (have P := parts_ppm ‹partQ a p _ _› (by assumption)
       have e : (1000000 * a + 9223372036854775808) % 18446744073709551616 - 9223372036854775808 = 1000000 * a := by omega
       rw [e] at hx
       have Q := parts_mill (by omega) (by omega) P.1 P.2 hx
       generalize a * p = A at *
       omega)
    | (have P := parts_ppm ‹partQ a p _ _› (by assumption)
       have Q := parts_mill (a := 0) (by omega) (by omega) P.1 P.2 (by simpa using hx)
       have z : (0 : Int) * p = 0 := Int.zero_mul p
       rw [z] at *
       omega)

def eqR (f : Int → Int → Int × Int) (a b x y : Int) : Prop := x = (f a b).1 ∧ y = (f a b).2
def eq1 (f : Int → Int) (a x : Int) : Prop := x = f a
theorem eqR_ok (f : Int → Int → Int × Int) (a b : Int) : eqR f a b (f a b).1 (f a b).2 := ⟨rfl, rfl⟩
theorem eq1_ok (f : Int → Int) (a : Int) : eq1 f a (f a) := rfl
def law2B : ConS := fun vs e => ∃ a b : Int, b ≤ 9223372036854775807 ∧ vs = [.int .i64 a, .int .i64 b] ∧ e = Env.ofL [.bool true]
section
variable {S : List ConS} {LQ : LoopS} {ρ : Env} {K : Env → Ex → St → Prop}
theorem call_times {ci base : Nat} (h : S[ci]? = some timesS) {t1 t2 : T} {t : Tree} (hb : t2.den ρ ≤ 9223372036854775807)
    (k : ∀ x y, eqR timesV (t1.den ρ) (t2.den ρ) x y → treeSem S LQ K (ρ.from_ base (Env.ofL [.int .i64 x, .int .i64 y])) t) : treeSem S LQ K ρ (.call ci base [.int .i64 t1, .int .i64 t2] t) :=
  sem_call _ _ h ⟨_, _, hb, rfl, rfl⟩ (k _ _ ⟨rfl, rfl⟩)
end
def saysS : List ConS := [in2S sumV, in2S sumV, in1S chk, in1S chk, in2S subV, in2S subV, timesS, in2S timesV, in2S partV, in2S partV, nilS (.bool true)]
def tree7 : Tree :=
 (.call 0 3200 [(.int .i64 (.var 0)), (.int .i64 (.var 1))]
 (.call 1 11200 [(.int .i64 (.var 0)), (.int .i64 (.var 1))]
 (.split (.cmp .eql (.var 3200) (.var 11200))
 (.split (.cmp .eql (.var 3201) (.var 11201))
 (.call 2 27200 [(.int .i64 (.var 0))]
 (.call 3 29200 [(.int .i64 (.var 0))]
 (.split (.cmp .eql (.var 27200) (.var 29200))
 (.call 4 34200 [(.int .i64 (.var 0)), (.int .i64 (.var 1))]
 (.call 5 42200 [(.int .i64 (.var 0)), (.int .i64 (.var 1))]
 (.split (.cmp .eql (.var 34200) (.var 42200))
 (.split (.cmp .eql (.var 34201) (.var 42201))
 (.call 6 58200 [(.int .i64 (.var 0)), (.int .i64 (.var 1))]
 (.call 7 66200 [(.int .i64 (.var 0)), (.int .i64 (.var 1))]
 (.split (.cmp .eql (.var 58200) (.var 66200))
 (.split (.cmp .eql (.var 58201) (.var 66201))
 (.call 8 82200 [(.int .i64 (.var 0)), (.int .i64 (.var 1))]
 (.call 9 90200 [(.int .i64 (.var 0)), (.int .i64 (.var 1))]
 (.split (.cmp .eql (.var 82200) (.var 90200))
 (.split (.cmp .eql (.var 82201) (.var 90201))
 (.call 10 105200 []
 (leafT (.bool (.var 105200)) .nil))
 (leafT (.bool (.lit false)) .nil))
 (leafT (.bool (.lit false)) .nil))))
 (leafT (.bool (.lit false)) .nil))
 (leafT (.bool (.lit false)) .nil))))
 (leafT (.bool (.lit false)) .nil))
 (leafT (.bool (.lit false)) .nil))))
 (leafT (.bool (.lit false)) .nil))))
 (leafT (.bool (.lit false)) .nil))
 (leafT (.bool (.lit false)) .nil))))
set_option maxHeartbeats 2000000 in
theorem says_holds : (b0C 7).holds Try.prog law2B := by
  refine con_of_run (cs := [i2C 18, i2C 22, i1C 20, i1C 23, i2C 19, i2C 24, i2C 21, i2C 25, i2C 17, i2C 26, b0C 12]) (S := saysS) (LT := []) (depth := 0) (fuel := 10) (nv := 200) (av := [.int .i64 (.var 0), .int .i64 (.var 1)]) (T := tree7)
    ⟨add_holds, refAdd_holds, chk_holds, refChk_holds, sub_holds, refSub_holds, times_holds, refTimes_holds, part_holds, refPart_holds, known_holds, trivial⟩ (by kernel_rfl) (by kernel_rfl) (by kernel_rfl) ?_
  rintro _ _ ⟨a, b, hb, rfl, rfl⟩
  refine ⟨noLoops, Env.ofL [.int .i64 a, .int .i64 b], rfl, ?_⟩
  unfold tree7
  (repeat' (first | rfl | (with_reducible exact leafBt) | (with_reducible refine leafBf ?_) | (with_reducible refine call_in2 (ci := 0) (eqR_ok sumV) ?_ (fun x y hx => ?_) <;> (try simp only [den_lss_t, den_lss_f, den_leq_t, den_leq_f, den_gtr_t, den_gtr_f, den_geq_t, den_geq_f, den_eql_t, den_eql_f, den_iff_t, den_iff_f, T.den, intBin, intMin, intMax, from_i, from_b, Nat.reduceLT, Nat.reduceSub, if_true, if_false, ofL_i0, ofL_iS, IntKind.wrap_i64, IntKind.wrap_u64, ne_eq, Bool.false_eq_true, reduceIte, eqR, eq1] at hx)) | (with_reducible refine call_in2 (ci := 1) (eqR_ok sumV) ?_ (fun x y hx => ?_) <;> (try simp only [den_lss_t, den_lss_f, den_leq_t, den_leq_f, den_gtr_t, den_gtr_f, den_geq_t, den_geq_f, den_eql_t, den_eql_f, den_iff_t, den_iff_f, T.den, intBin, intMin, intMax, from_i, from_b, Nat.reduceLT, Nat.reduceSub, if_true, if_false, ofL_i0, ofL_iS, IntKind.wrap_i64, IntKind.wrap_u64, ne_eq, Bool.false_eq_true, reduceIte, eqR, eq1] at hx)) | (with_reducible refine call_in1 (ci := 2) (eq1_ok chk) ?_ (fun x hx => ?_) <;> (try simp only [den_lss_t, den_lss_f, den_leq_t, den_leq_f, den_gtr_t, den_gtr_f, den_geq_t, den_geq_f, den_eql_t, den_eql_f, den_iff_t, den_iff_f, T.den, intBin, intMin, intMax, from_i, from_b, Nat.reduceLT, Nat.reduceSub, if_true, if_false, ofL_i0, ofL_iS, IntKind.wrap_i64, IntKind.wrap_u64, ne_eq, Bool.false_eq_true, reduceIte, eqR, eq1] at hx)) | (with_reducible refine call_in1 (ci := 3) (eq1_ok chk) ?_ (fun x hx => ?_) <;> (try simp only [den_lss_t, den_lss_f, den_leq_t, den_leq_f, den_gtr_t, den_gtr_f, den_geq_t, den_geq_f, den_eql_t, den_eql_f, den_iff_t, den_iff_f, T.den, intBin, intMin, intMax, from_i, from_b, Nat.reduceLT, Nat.reduceSub, if_true, if_false, ofL_i0, ofL_iS, IntKind.wrap_i64, IntKind.wrap_u64, ne_eq, Bool.false_eq_true, reduceIte, eqR, eq1] at hx)) | (with_reducible refine call_in2 (ci := 4) (eqR_ok subV) ?_ (fun x y hx => ?_) <;> (try simp only [den_lss_t, den_lss_f, den_leq_t, den_leq_f, den_gtr_t, den_gtr_f, den_geq_t, den_geq_f, den_eql_t, den_eql_f, den_iff_t, den_iff_f, T.den, intBin, intMin, intMax, from_i, from_b, Nat.reduceLT, Nat.reduceSub, if_true, if_false, ofL_i0, ofL_iS, IntKind.wrap_i64, IntKind.wrap_u64, ne_eq, Bool.false_eq_true, reduceIte, eqR, eq1] at hx)) | (with_reducible refine call_in2 (ci := 5) (eqR_ok subV) ?_ (fun x y hx => ?_) <;> (try simp only [den_lss_t, den_lss_f, den_leq_t, den_leq_f, den_gtr_t, den_gtr_f, den_geq_t, den_geq_f, den_eql_t, den_eql_f, den_iff_t, den_iff_f, T.den, intBin, intMin, intMax, from_i, from_b, Nat.reduceLT, Nat.reduceSub, if_true, if_false, ofL_i0, ofL_iS, IntKind.wrap_i64, IntKind.wrap_u64, ne_eq, Bool.false_eq_true, reduceIte, eqR, eq1] at hx)) | (with_reducible refine call_times (ci := 6) ?_ ?_ (fun x y hx => ?_) <;> (try simp only [den_lss_t, den_lss_f, den_leq_t, den_leq_f, den_gtr_t, den_gtr_f, den_geq_t, den_geq_f, den_eql_t, den_eql_f, den_iff_t, den_iff_f, T.den, intBin, intMin, intMax, from_i, from_b, Nat.reduceLT, Nat.reduceSub, if_true, if_false, ofL_i0, ofL_iS, IntKind.wrap_i64, IntKind.wrap_u64, ne_eq, Bool.false_eq_true, reduceIte, eqR, eq1] at hx)) | (with_reducible refine call_in2 (ci := 7) (eqR_ok timesV) ?_ (fun x y hx => ?_) <;> (try simp only [den_lss_t, den_lss_f, den_leq_t, den_leq_f, den_gtr_t, den_gtr_f, den_geq_t, den_geq_f, den_eql_t, den_eql_f, den_iff_t, den_iff_f, T.den, intBin, intMin, intMax, from_i, from_b, Nat.reduceLT, Nat.reduceSub, if_true, if_false, ofL_i0, ofL_iS, IntKind.wrap_i64, IntKind.wrap_u64, ne_eq, Bool.false_eq_true, reduceIte, eqR, eq1] at hx)) | (with_reducible refine call_in2 (ci := 8) (eqR_ok partV) ?_ (fun x y hx => ?_) <;> (try simp only [den_lss_t, den_lss_f, den_leq_t, den_leq_f, den_gtr_t, den_gtr_f, den_geq_t, den_geq_f, den_eql_t, den_eql_f, den_iff_t, den_iff_f, T.den, intBin, intMin, intMax, from_i, from_b, Nat.reduceLT, Nat.reduceSub, if_true, if_false, ofL_i0, ofL_iS, IntKind.wrap_i64, IntKind.wrap_u64, ne_eq, Bool.false_eq_true, reduceIte, eqR, eq1] at hx)) | (with_reducible refine call_in2 (ci := 9) (eqR_ok partV) ?_ (fun x y hx => ?_) <;> (try simp only [den_lss_t, den_lss_f, den_leq_t, den_leq_f, den_gtr_t, den_gtr_f, den_geq_t, den_geq_f, den_eql_t, den_eql_f, den_iff_t, den_iff_f, T.den, intBin, intMin, intMax, from_i, from_b, Nat.reduceLT, Nat.reduceSub, if_true, if_false, ofL_i0, ofL_iS, IntKind.wrap_i64, IntKind.wrap_u64, ne_eq, Bool.false_eq_true, reduceIte, eqR, eq1] at hx)) | (with_reducible refine call_nil (ci := 10) (v := .bool true) ?_ ?_ <;> (try simp only [den_lss_t, den_lss_f, den_leq_t, den_leq_f, den_gtr_t, den_gtr_f, den_geq_t, den_geq_f, den_eql_t, den_eql_f, den_iff_t, den_iff_f, T.den, intBin, intMin, intMax, from_i, from_b, Nat.reduceLT, Nat.reduceSub, if_true, if_false, ofL_i0, ofL_iS, IntKind.wrap_i64, IntKind.wrap_u64, ne_eq, Bool.false_eq_true, reduceIte, eqR, eq1] at hx)) | (with_reducible refine sem_split (fun h => ?_) (fun h => ?_) <;> (try simp only [den_lss_t, den_lss_f, den_leq_t, den_leq_f, den_gtr_t, den_gtr_f, den_geq_t, den_geq_f, den_eql_t, den_eql_f, den_iff_t, den_iff_f, T.den, intBin, intMin, intMax, from_i, from_b, Nat.reduceLT, Nat.reduceSub, if_true, if_false, ofL_i0, ofL_iS, IntKind.wrap_i64, IntKind.wrap_u64, ne_eq, Bool.false_eq_true, reduceIte, eqR, eq1] at h))))
  all_goals first | omega | exact hb
end Go.Proofs.Ytigpdnbcjmcfoaa
