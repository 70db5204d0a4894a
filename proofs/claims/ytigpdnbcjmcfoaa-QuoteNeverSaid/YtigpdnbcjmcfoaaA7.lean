/- What is proved: contracts of the quotes of both, of chapter 20's 'known', of the statements QuoteNever and QuoteKnown, by symbolic runs. No condition. -/
import Derived.Test.YtigpdnbcjmcfoaaA6
namespace Go.Proofs.Ytigpdnbcjmcfoaa
open Go.RowKit Sx
set_option maxRecDepth 100000
set_option linter.unusedSimpArgs false
set_option linter.unusedVariables false

def tree29 : Tree :=
 (.call 0 4200 [(.agg (ivs .i64 0 9))]
 (.split (.cmp .eql (.var 4200) (.lit 0))
 (.split (.cmp .lss (.var 9) (.var 3))
 (leafT (.tup ([(.int .i64 (.lit 0)), (.int .i64 (.lit 22))])) .nil)
 (.split (.cmp .gtr (.var 9) (.var 4))
 (leafT (.tup ([(.int .i64 (.lit 0)), (.int .i64 (.lit 22))])) .nil)
 (.split (.cmp .gtr (.var 9) (.var 10))
 (leafT (.tup ([(.int .i64 (.lit 0)), (.int .i64 (.lit 22))])) .nil)
 (.call 1 25200 [(.agg (ivs .i64 0 9)), (.int .i64 (.var 9))]
 (.split (.cmp .eql (.var 25201) (.lit 0))
 (leafT (.tup ([(.int .i64 (.bin .add .i64 (.var 9) (.var 25200))), (.int .i64 (.lit 0))])) .nil)
 (leafT (.tup ([(.int .i64 (.lit 0)), (.int .i64 (.var 25201))])) .nil))))))
 (leafT (.tup ([(.int .i64 (.lit 0)), (.int .i64 (.var 4200))])) .nil)))
theorem quote_holds : (i2C 29).holds Try.prog (term2S quoteV) := by
  refine con_of_run (cs := [i1C 31, i2C 27]) (S := [termS, term1S feeV]) (LT := []) (depth := 0) (fuel := 10) (nv := 200) (av := [.agg (ivs .i64 0 9), .int .i64 (.var 9), .int .i64 (.var 10)]) (T := tree29) ⟨check_holds, fee_holds, trivial⟩ (by kernel_rfl) (by kernel_rfl) (by kernel_rfl) ?_
  rintro _ _ ⟨t, a, f, rfl, rfl⟩
  refine ⟨noLoops, env9 t [.int .i64 a, .int .i64 f], rfl, ?_⟩
  have T0 := tm_env t [.int .i64 a, .int .i64 f]
  have g9 : (env9 t [.int .i64 a, .int .i64 f]).i 9 = a := rfl
  have g10 : (env9 t [.int .i64 a, .int .i64 f]).i 10 = f := rfl
  generalize env9 t [.int .i64 a, .int .i64 f] = ρ at T0 g9 g10
  obtain ⟨i0, i1, i2, i3, i4⟩ := tm_i T0
  unfold tree29
  refine call_term (ci := 0) rfl T0 (fun x hx => ?_)
  refine sem_split (fun c => ?_) (fun c => leaf2 ?_) <;> simp only [den_eql_t, den_eql_f, T.den, from_first] at c
  · subst hx
    refine sem_split (fun c1 => leaf2 ?_) (fun c1 => ?_) <;> simp only [den_lss_t, den_lss_f, T.den, from_low (show 9 < 4200 by decide), from_low (show 3 < 4200 by decide), g9, i3] at c1
    · rw [quoteV_lim t a f c (.inl c1)]; rfl
    refine sem_split (fun c2 => leaf2 ?_) (fun c2 => ?_) <;> simp only [den_gtr_t, den_gtr_f, T.den, from_low (show 9 < 4200 by decide), from_low (show 4 < 4200 by decide), g9, i4] at c2
    · rw [quoteV_lim t a f c (.inr (.inl c2))]; rfl
    refine sem_split (fun c3 => leaf2 ?_) (fun c3 => ?_) <;> simp only [den_gtr_t, den_gtr_f, T.den, from_low (show 9 < 4200 by decide), from_low (show 10 < 4200 by decide), g9, g10] at c3
    · rw [quoteV_lim t a f c (.inr (.inr c3))]; rfl
    have hl : ¬ (a < t.least ∨ t.most < a ∨ f < a) := by omega
    refine call_term1 (ci := 1) feeR_ok rfl (T0.up (by decide)) (fun y e hy => ?_)
    simp only [T.den, from_low (show 9 < 4200 by decide), g9] at hy
    obtain ⟨hy, he⟩ := hy
    refine sem_split (fun c4 => leaf2 ?_) (fun c4 => leaf2 ?_) <;> simp only [den_eql_t, den_eql_f, T.den, from_first2] at c4
    · have he0 : (feeV t a).2 = 0 := by omega
      have hb := fee_bound he0
      rw [quoteV_ok t a f c hl he0]
      simp only [T.den, intBin, from_first, from_low (show 9 < 25200 by decide), from_low (show 9 < 4200 by decide), g9, IntKind.wrap_i64]
      refine Prod.ext ?_ rfl
      show a + (feeV t a).1 = _
      omega
    · rw [quoteV_fee t a f c hl (by omega)]
      simp only [T.den, from_first2]
      rw [he]
  · subst hx
    rw [quoteV_bad t a f c]
    simp only [T.den, from_first]

def tree30 : Tree :=
 (.call 0 4200 [(.agg (ivs .i64 0 9))]
 (.split (.cmp .eql (.var 4200) (.lit 0))
 (.split (.cmp .geq (.var 9) (.var 3))
 (.split (.cmp .leq (.var 9) (.var 4))
 (.split (.cmp .gtr (.var 9) (.var 10))
 (leafT (.tup ([(.int .i64 (.lit 0)), (.int .i64 (.lit 22))])) .nil)
 (.call 1 38200 [(.agg (ivs .i64 0 9)), (.int .i64 (.var 9))]
 (.split (.cmp .eql (.var 38201) (.lit 0))
 (leafT (.tup ([(.int .i64 (.bin .add .i64 (.var 9) (.var 38200))), (.int .i64 (.lit 0))])) .nil)
 (leafT (.tup ([(.int .i64 (.lit 0)), (.int .i64 (.var 38201))])) .nil))))
 (leafT (.tup ([(.int .i64 (.lit 0)), (.int .i64 (.lit 22))])) .nil))
 (leafT (.tup ([(.int .i64 (.lit 0)), (.int .i64 (.lit 22))])) .nil))
 (leafT (.tup ([(.int .i64 (.lit 0)), (.int .i64 (.var 4200))])) .nil)))
theorem refQuote_holds : (i2C 30).holds Try.prog (term2S quoteV) := by
  refine con_of_run (cs := [i1C 32, i2C 28]) (S := [termS, term1S feeV]) (LT := []) (depth := 2) (fuel := 10) (nv := 200) (av := [.agg (ivs .i64 0 9), .int .i64 (.var 9), .int .i64 (.var 10)]) (T := tree30) ⟨refCheck_holds, refFee_holds, trivial⟩ (by kernel_rfl) (by kernel_rfl) (by kernel_rfl) ?_
  rintro _ _ ⟨t, a, f, rfl, rfl⟩
  refine ⟨noLoops, env9 t [.int .i64 a, .int .i64 f], rfl, ?_⟩
  have T0 := tm_env t [.int .i64 a, .int .i64 f]
  have g9 : (env9 t [.int .i64 a, .int .i64 f]).i 9 = a := rfl
  have g10 : (env9 t [.int .i64 a, .int .i64 f]).i 10 = f := rfl
  generalize env9 t [.int .i64 a, .int .i64 f] = ρ at T0 g9 g10
  obtain ⟨i0, i1, i2, i3, i4⟩ := tm_i T0
  unfold tree30
  refine call_term (ci := 0) rfl T0 (fun x hx => ?_)
  refine sem_split (fun c => ?_) (fun c => leaf2 ?_) <;> simp only [den_eql_t, den_eql_f, T.den, from_first] at c
  · subst hx
    refine sem_split (fun c1 => ?_) (fun c1 => leaf2 ?_) <;> simp only [den_geq_t, den_geq_f, T.den, from_low (show 9 < 4200 by decide), from_low (show 3 < 4200 by decide), g9, i3] at c1
    rotate_left
    · rw [quoteV_lim t a f c (.inl c1)]; rfl
    refine sem_split (fun c2 => ?_) (fun c2 => leaf2 ?_) <;> simp only [den_leq_t, den_leq_f, T.den, from_low (show 9 < 4200 by decide), from_low (show 4 < 4200 by decide), g9, i4] at c2
    rotate_left
    · rw [quoteV_lim t a f c (.inr (.inl c2))]; rfl
    refine sem_split (fun c3 => leaf2 ?_) (fun c3 => ?_) <;> simp only [den_gtr_t, den_gtr_f, T.den, from_low (show 9 < 4200 by decide), from_low (show 10 < 4200 by decide), g9, g10] at c3
    · rw [quoteV_lim t a f c (.inr (.inr c3))]; rfl
    have hl : ¬ (a < t.least ∨ t.most < a ∨ f < a) := by omega
    refine call_term1 (ci := 1) feeR_ok rfl (T0.up (by decide)) (fun y e hy => ?_)
    simp only [T.den, from_low (show 9 < 4200 by decide), g9] at hy
    obtain ⟨hy, he⟩ := hy
    refine sem_split (fun c4 => leaf2 ?_) (fun c4 => leaf2 ?_) <;> simp only [den_eql_t, den_eql_f, T.den, from_first2] at c4
    · have he0 : (feeV t a).2 = 0 := by omega
      have hb := fee_bound he0
      rw [quoteV_ok t a f c hl he0]
      simp only [T.den, intBin, from_first, from_low (show 9 < 38200 by decide), from_low (show 9 < 4200 by decide), g9, IntKind.wrap_i64]
      refine Prod.ext ?_ rfl
      show a + (feeV t a).1 = _
      omega
    · rw [quoteV_fee t a f c hl (by omega)]
      simp only [T.den, from_first2]
      rw [he]
  · subst hx
    rw [quoteV_bad t a f c]
    simp only [T.den, from_first]

def terms0 : Tm := ⟨10, 1000, 5, 100, 1000, 3, 4, 2, 2⟩
def tree33 : Tree :=
 (.call 0 6200 [(.agg ([(.int .i64 (.lit 10)), (.int .i64 (.lit 1000)), (.int .i64 (.lit 5)), (.int .i64 (.lit 100)), (.int .i64 (.lit 1000)), (.int .i64 (.lit 3)), (.int .i64 (.lit 4)), (.int .i64 (.lit 2)), (.int .i64 (.lit 2))])), (.int .i64 (.lit 1000)), (.int .i64 (.lit 1000))]
 (.call 0 17200 [(.agg ([(.int .i64 (.lit 10)), (.int .i64 (.lit 1000)), (.int .i64 (.lit 5)), (.int .i64 (.lit 100)), (.int .i64 (.lit 1000)), (.int .i64 (.lit 3)), (.int .i64 (.lit 4)), (.int .i64 (.lit 2)), (.int .i64 (.lit 2))])), (.int .i64 (.lit 1000)), (.int .i64 (.lit 999))]
 (.split (.cmp .eql (.var 6200) (.lit 1016))
 (.split (.cmp .eql (.var 6201) (.lit 0))
 (leafT (.bool (.cmp .eql (.var 17201) (.lit 22))) .nil)
 (leafT (.bool (.lit false)) .nil))
 (leafT (.bool (.lit false)) .nil))))
theorem known20_holds : (b0C 33).holds Try.prog (nilS (.bool true)) := by
  refine con_of_run (cs := [i2C 29]) (S := [term2S quoteV]) (LT := []) (depth := 2) (fuel := 10) (nv := 200) (av := []) (T := tree33) ⟨quote_holds, trivial⟩ (by kernel_rfl) (by kernel_rfl) (by kernel_rfl) ?_
  rintro _ _ ⟨rfl, rfl⟩
  refine ⟨noLoops, Env.ofL [], rfl, ?_⟩
  refine sem_call (term2S quoteV) _ rfl ⟨terms0, 1000, 1000, rfl, rfl⟩ ?_
  refine sem_call (term2S quoteV) _ rfl ⟨terms0, 1000, 999, rfl, rfl⟩ ?_
  have q1 : quoteV terms0 1000 1000 = (1016, 0) := by kernel_rfl
  have q2 : quoteV terms0 1000 999 = (0, 22) := by kernel_rfl
  rw [q1, q2]
  refine sem_split (fun _ => ?_) (fun c => Bool.noConfusion c)
  refine sem_split (fun _ => ?_) (fun c => Bool.noConfusion c)
  exact sem_ret rfl rfl trivial

/-- What a quote tells, all of it. -/
def quoteQ (t : Tm) (a f x y : Int) : Prop :=
  (y = 0 ∧ chkT t = 0 ∧ 0 ≤ t.base ∧ 0 ≤ t.reserve ∧ t.base ≤ 1125899906842624 ∧ t.reserve ≤ 1125899906842624 ∧ t.least ≤ a ∧ a ≤ t.most ∧ a ≤ f ∧ 0 ≤ a ∧ a ≤ 1125899906842624 ∧ (partV a t.ppm).2 = 0 ∧ 0 ≤ (partV a t.ppm).1 ∧ (partV a t.ppm).1 ≤ a ∧ x = a + t.base + (partV a t.ppm).1 + t.reserve ∧ x ≤ 1125899906842624) ∨
  (x = 0 ∧ ((y = chkT t ∧ (y = 15 ∨ y = 1)) ∨ (chkT t = 0 ∧ y = 22 ∧ (a < t.least ∨ t.most < a ∨ f < a)) ∨ (chkT t = 0 ∧ y = 15 ∧ t.least ≤ a ∧ a ≤ t.most ∧ a ≤ f ∧ (feeV t a).1 = 0 ∧ (feeV t a).2 = 15)))
theorem quoteQ_ok (t : Tm) (a f : Int) : quoteQ t a f (quoteV t a f).1 (quoteV t a f).2 := by
  unfold quoteQ
  rcases chkT_cases t with ⟨c, k1, k2⟩ | ⟨c, _⟩ | ⟨c, _⟩
  rotate_left
  · rw [quoteV_bad t a f (by omega)]; right; exact ⟨rfl, .inl ⟨rfl, .inl c⟩⟩
  · rw [quoteV_bad t a f (by omega)]; right; exact ⟨rfl, .inl ⟨rfl, .inr c⟩⟩
  by_cases hl : a < t.least ∨ t.most < a ∨ f < a
  · rw [quoteV_lim t a f c hl]; right; exact ⟨rfl, .inr (.inl ⟨c, rfl, hl⟩)⟩
  have hk1 := k1
  unfold Tm.ok1 at hk1
  have hp := (partB_ok a t.ppm).1 k2.1 k2.2.1
  by_cases ha : isA a
  · by_cases hb : t.base + (partV a t.ppm).1 + t.reserve + a ≤ 1125899906842624
    · have he := feeV_ok t a c ha hb
      rw [quoteV_ok t a f c hl (by rw [he]), he]
      left
      have ha1 := ha.1
      have ha2 := ha.2
      refine ⟨rfl, c, hk1.1, hk1.2.2.1, hk1.2.1, hk1.2.2.2.1, by omega, by omega, by omega, ha1, ha2, ?_, ?_, ?_, ?_, ?_⟩
      · rcases hp with h | h <;> omega
      · rcases hp with h | h <;> omega
      · rcases hp with h | h <;> omega
      · show a + (t.base + _ + t.reserve) = _; omega
      · show a + (t.base + _ + t.reserve) ≤ _; omega
    · have he := feeV_big t a c ha hb
      rw [quoteV_fee t a f c hl (by rw [he]; decide), he]
      right; exact ⟨rfl, .inr (.inr ⟨c, rfl, by omega, by omega, by omega, rfl, rfl⟩)⟩
  · have he := feeV_range t a c ha
    rw [quoteV_fee t a f c hl (by rw [he]; decide), he]
    right; exact ⟨rfl, .inr (.inr ⟨c, rfl, by omega, by omega, by omega, rfl, rfl⟩)⟩
theorem part_mono {a b p : Int} (h : a ≤ b) (ha : (partV a p).2 = 0) (hb : (partV b p).2 = 0) : (partV a p).1 ≤ (partV b p).1 := by
  rcases partR_ok a p with ⟨_, _, _, h4, _, h6⟩ | ⟨_, ⟨h, _⟩ | ⟨h, _⟩⟩
  · rcases partR_ok b p with ⟨_, _, _, _, _, g6⟩ | ⟨_, ⟨h, _⟩ | ⟨h, _⟩⟩
    · rw [h6, g6]
      have := Int.mul_le_mul_of_nonneg_right h h4
      omega
    · omega
    · omega
  · omega
  · omega
theorem quote0 {t : Tm} {a f x y : Int} (h : quoteQ t a f x y) (g : y = 0) : chkT t = 0 ∧ 0 ≤ t.base ∧ 0 ≤ t.reserve ∧ t.base ≤ 1125899906842624 ∧ t.reserve ≤ 1125899906842624 ∧ t.least ≤ a ∧ a ≤ t.most ∧ a ≤ f ∧ 0 ≤ a ∧ a ≤ 1125899906842624 ∧ (partV a t.ppm).2 = 0 ∧ 0 ≤ (partV a t.ppm).1 ∧ (partV a t.ppm).1 ≤ a ∧ x = a + t.base + (partV a t.ppm).1 + t.reserve ∧ x ≤ 1125899906842624 := by
  rcases h with ⟨_, h⟩ | ⟨_, h⟩
  · exact h
  · exfalso; rcases h with h | h | h <;> omega
theorem quoteE {t : Tm} {a f x y : Int} (h : quoteQ t a f x y) (g : ¬ y = 0) : x = 0 ∧ ((y = chkT t ∧ (y = 15 ∨ y = 1)) ∨ (chkT t = 0 ∧ y = 22 ∧ (a < t.least ∨ t.most < a ∨ f < a)) ∨ (chkT t = 0 ∧ y = 15 ∧ t.least ≤ a ∧ a ≤ t.most ∧ a ≤ f ∧ (feeV t a).1 = 0 ∧ (feeV t a).2 = 15)) := by
  rcases h with ⟨h, _⟩ | h
  · exact absurd h g
  · exact h
def askS : ConS := fun vs e => ∃ (t : Tm) (a b f : Int), vs = [.agg t.cells, .agg #[.int .i64 a, .int .i64 b, .int .i64 f]] ∧ e = Env.ofL [.bool true]
def tree10 : Tree :=
 (.call 0 15200 [(.agg (ivs .i64 0 9)), (.int .i64 (.var 9)), (.int .i64 (.var 11))]
 (.split (.cmp .eql (.var 15201) (.lit 0))
 (.call 3 26200 [(.int .i64 (.var 9)), (.int .i64 (.var 1))]
 (.call 2 33200 [(.agg (ivs .i64 0 9))]
 (.split (.cmp .eql (.var 33200) (.lit 0))
 (.split (.cmp .eql (.var 26201) (.lit 0))
 (.split (.cmp .lss (.var 9) (.var 3))
 (leafT (.bool (.lit false)) .nil)
 (.split (.cmp .gtr (.var 9) (.var 4))
 (leafT (.bool (.lit false)) .nil)
 (.split (.cmp .gtr (.var 9) (.var 11))
 (leafT (.bool (.lit false)) .nil)
 (.split (.cmp .eql (.var 15200) (.bin .add .i64 (.bin .add .i64 (.bin .add .i64 (.var 9) (.var 0)) (.var 26200)) (.var 2)))
 (.split (.cmp .gtr (.var 15200) (.lit 1125899906842624))
 (leafT (.bool (.lit false)) .nil)
 (.split (.cmp .lss (.var 15200) (.var 9))
 (leafT (.bool (.lit false)) .nil)
 (.call 0 81200 [(.agg (ivs .i64 0 9)), (.int .i64 (.var 10)), (.int .i64 (.var 11))]
 (.split (.cmp .eql (.var 81201) (.lit 0))
 (.split (.cmp .lss (.var 10) (.var 9))
 (.split (.cmp .gtr (.var 10) (.var 9))
 (.call 4 114200 []
 (leafT (.bool (.var 114200)) .nil))
 (.split (.cmp .leq (.var 81200) (.var 15200))
 (.call 4 114200 []
 (leafT (.bool (.var 114200)) .nil))
 (leafT (.bool (.lit false)) .nil)))
 (.split (.cmp .geq (.var 81200) (.var 15200))
 (.split (.cmp .gtr (.var 10) (.var 9))
 (.call 4 114200 []
 (leafT (.bool (.var 114200)) .nil))
 (.split (.cmp .leq (.var 81200) (.var 15200))
 (.call 4 114200 []
 (leafT (.bool (.var 114200)) .nil))
 (leafT (.bool (.lit false)) .nil)))
 (leafT (.bool (.lit false)) .nil)))
 (.call 4 114200 []
 (leafT (.bool (.var 114200)) .nil))))))
 (leafT (.bool (.lit false)) .nil)))))
 (leafT (.bool (.lit false)) .nil))
 (leafT (.bool (.lit false)) .nil))))
 (.call 1 25200 [(.agg (ivs .i64 0 9)), (.int .i64 (.var 9))]
 (.split (.cmp .lss (.var 9) (.var 3))
 (.split (.cmp .eql (.var 15200) (.lit 0))
 (.call 2 52200 [(.agg (ivs .i64 0 9))]
 (.split (.cmp .eql (.var 15201) (.var 52200))
 (.call 4 84200 []
 (leafT (.bool (.var 84200)) .nil))
 (.call 2 56200 [(.agg (ivs .i64 0 9))]
 (.split (.cmp .eql (.var 56200) (.lit 0))
 (.split (.cmp .eql (.var 15201) (.lit 22))
 (.call 4 84200 []
 (leafT (.bool (.var 84200)) .nil))
 (.split (.cmp .eql (.var 15201) (.lit 15))
 (.split (.cmp .eql (.var 25201) (.lit 15))
 (.split (.cmp .eql (.var 25200) (.lit 0))
 (leafT (.bool (.lit false)) .nil)
 (leafT (.bool (.lit false)) .nil))
 (leafT (.bool (.lit false)) .nil))
 (leafT (.bool (.lit false)) .nil)))
 (leafT (.bool (.lit false)) .nil)))))
 (leafT (.bool (.lit false)) .nil))
 (.split (.cmp .gtr (.var 9) (.var 4))
 (.split (.cmp .eql (.var 15200) (.lit 0))
 (.call 2 52200 [(.agg (ivs .i64 0 9))]
 (.split (.cmp .eql (.var 15201) (.var 52200))
 (.call 4 84200 []
 (leafT (.bool (.var 84200)) .nil))
 (.call 2 56200 [(.agg (ivs .i64 0 9))]
 (.split (.cmp .eql (.var 56200) (.lit 0))
 (.split (.cmp .eql (.var 15201) (.lit 22))
 (.call 4 84200 []
 (leafT (.bool (.var 84200)) .nil))
 (.split (.cmp .eql (.var 15201) (.lit 15))
 (.split (.cmp .eql (.var 25201) (.lit 15))
 (.split (.cmp .eql (.var 25200) (.lit 0))
 (leafT (.bool (.lit false)) .nil)
 (leafT (.bool (.lit false)) .nil))
 (leafT (.bool (.lit false)) .nil))
 (leafT (.bool (.lit false)) .nil)))
 (leafT (.bool (.lit false)) .nil)))))
 (leafT (.bool (.lit false)) .nil))
 (.split (.cmp .eql (.var 15200) (.lit 0))
 (.call 2 52200 [(.agg (ivs .i64 0 9))]
 (.split (.cmp .eql (.var 15201) (.var 52200))
 (.call 4 84200 []
 (leafT (.bool (.var 84200)) .nil))
 (.call 2 56200 [(.agg (ivs .i64 0 9))]
 (.split (.cmp .eql (.var 56200) (.lit 0))
 (.split (.cmp .eql (.var 15201) (.lit 22))
 (.split (.cmp .gtr (.var 9) (.var 11))
 (.call 4 84200 []
 (leafT (.bool (.var 84200)) .nil))
 (leafT (.bool (.lit false)) .nil))
 (.split (.cmp .eql (.var 15201) (.lit 15))
 (.split (.cmp .eql (.var 25201) (.lit 15))
 (.split (.cmp .eql (.var 25200) (.lit 0))
 (.split (.cmp .gtr (.var 9) (.var 11))
 (leafT (.bool (.lit false)) .nil)
 (.call 4 84200 []
 (leafT (.bool (.var 84200)) .nil)))
 (leafT (.bool (.lit false)) .nil))
 (leafT (.bool (.lit false)) .nil))
 (leafT (.bool (.lit false)) .nil)))
 (leafT (.bool (.lit false)) .nil)))))
 (leafT (.bool (.lit false)) .nil)))))))
set_option maxHeartbeats 4000000 in
theorem never_holds : (b0C 10).holds Try.prog askS := by
  refine con_of_run (cs := [i2C 29, i2C 27, i1C 31, i2C 17, b0C 33]) (S := [term2S quoteV, term1S feeV, termS, in2S partV, nilS (.bool true)]) (LT := []) (depth := 0) (fuel := 10) (nv := 200) (av := [.agg (ivs .i64 0 9), .agg (ivs .i64 9 3)]) (T := tree10) ⟨quote_holds, fee_holds, check_holds, part_holds, known20_holds, trivial⟩ (by kernel_rfl) (by kernel_rfl) (by kernel_rfl) ?_
  rintro _ _ ⟨t, a, b, f, rfl, rfl⟩
  refine ⟨noLoops, env9 t [.int .i64 a, .int .i64 b, .int .i64 f], rfl, ?_⟩
  have T0 := tm_env t [.int .i64 a, .int .i64 b, .int .i64 f]
  unfold tree10
  (repeat' (first | rfl | (with_reducible exact leafBt) | (with_reducible refine leafBf ?_) | (with_reducible exact T0 <;> (try simp only [den_lss_t, den_lss_f, den_leq_t, den_leq_f, den_gtr_t, den_gtr_f, den_geq_t, den_geq_f, den_eql_t, den_eql_f, den_iff_t, den_iff_f, T.den, intBin, intMin, intMax, from_i, from_b, Nat.reduceLT, Nat.reduceSub, if_true, if_false, ofL_i0, ofL_iS, IntKind.wrap_i64, IntKind.wrap_u64, ne_eq, Bool.false_eq_true, reduceIte, feeR, eqR] at hx)) | (with_reducible refine TmAt.up ?_ T0 <;> (try simp only [den_lss_t, den_lss_f, den_leq_t, den_leq_f, den_gtr_t, den_gtr_f, den_geq_t, den_geq_f, den_eql_t, den_eql_f, den_iff_t, den_iff_f, T.den, intBin, intMin, intMax, from_i, from_b, Nat.reduceLT, Nat.reduceSub, if_true, if_false, ofL_i0, ofL_iS, IntKind.wrap_i64, IntKind.wrap_u64, ne_eq, Bool.false_eq_true, reduceIte, feeR, eqR] at hx)) | (with_reducible refine TmAt.up ?_ (TmAt.up ?_ T0) <;> (try simp only [den_lss_t, den_lss_f, den_leq_t, den_leq_f, den_gtr_t, den_gtr_f, den_geq_t, den_geq_f, den_eql_t, den_eql_f, den_iff_t, den_iff_f, T.den, intBin, intMin, intMax, from_i, from_b, Nat.reduceLT, Nat.reduceSub, if_true, if_false, ofL_i0, ofL_iS, IntKind.wrap_i64, IntKind.wrap_u64, ne_eq, Bool.false_eq_true, reduceIte, feeR, eqR] at hx)) | (with_reducible refine TmAt.up ?_ (TmAt.up ?_ (TmAt.up ?_ T0)) <;> (try simp only [den_lss_t, den_lss_f, den_leq_t, den_leq_f, den_gtr_t, den_gtr_f, den_geq_t, den_geq_f, den_eql_t, den_eql_f, den_iff_t, den_iff_f, T.den, intBin, intMin, intMax, from_i, from_b, Nat.reduceLT, Nat.reduceSub, if_true, if_false, ofL_i0, ofL_iS, IntKind.wrap_i64, IntKind.wrap_u64, ne_eq, Bool.false_eq_true, reduceIte, feeR, eqR] at hx)) | (with_reducible refine TmAt.up ?_ (TmAt.up ?_ (TmAt.up ?_ (TmAt.up ?_ T0))) <;> (try simp only [den_lss_t, den_lss_f, den_leq_t, den_leq_f, den_gtr_t, den_gtr_f, den_geq_t, den_geq_f, den_eql_t, den_eql_f, den_iff_t, den_iff_f, T.den, intBin, intMin, intMax, from_i, from_b, Nat.reduceLT, Nat.reduceSub, if_true, if_false, ofL_i0, ofL_iS, IntKind.wrap_i64, IntKind.wrap_u64, ne_eq, Bool.false_eq_true, reduceIte, feeR, eqR] at hx)) | (with_reducible refine call_term2 (t0 := t) (ci := 0) quoteQ_ok ?_ ?_ (fun x y hx => ?_) <;> (try simp only [den_lss_t, den_lss_f, den_leq_t, den_leq_f, den_gtr_t, den_gtr_f, den_geq_t, den_geq_f, den_eql_t, den_eql_f, den_iff_t, den_iff_f, T.den, intBin, intMin, intMax, from_i, from_b, Nat.reduceLT, Nat.reduceSub, if_true, if_false, ofL_i0, ofL_iS, IntKind.wrap_i64, IntKind.wrap_u64, ne_eq, Bool.false_eq_true, reduceIte, feeR, eqR] at hx)) | (with_reducible refine call_term1 (t0 := t) (ci := 1) feeR_ok ?_ ?_ (fun x y hx => ?_) <;> (try simp only [den_lss_t, den_lss_f, den_leq_t, den_leq_f, den_gtr_t, den_gtr_f, den_geq_t, den_geq_f, den_eql_t, den_eql_f, den_iff_t, den_iff_f, T.den, intBin, intMin, intMax, from_i, from_b, Nat.reduceLT, Nat.reduceSub, if_true, if_false, ofL_i0, ofL_iS, IntKind.wrap_i64, IntKind.wrap_u64, ne_eq, Bool.false_eq_true, reduceIte, feeR, eqR] at hx)) | (with_reducible refine call_term (t0 := t) (ci := 2) ?_ ?_ (fun x hx => ?_) <;> (try simp only [den_lss_t, den_lss_f, den_leq_t, den_leq_f, den_gtr_t, den_gtr_f, den_geq_t, den_geq_f, den_eql_t, den_eql_f, den_iff_t, den_iff_f, T.den, intBin, intMin, intMax, from_i, from_b, Nat.reduceLT, Nat.reduceSub, if_true, if_false, ofL_i0, ofL_iS, IntKind.wrap_i64, IntKind.wrap_u64, ne_eq, Bool.false_eq_true, reduceIte, feeR, eqR] at hx)) | (with_reducible refine call_in2 (ci := 3) (eqR_ok partV) ?_ (fun x y hx => ?_) <;> (try simp only [den_lss_t, den_lss_f, den_leq_t, den_leq_f, den_gtr_t, den_gtr_f, den_geq_t, den_geq_f, den_eql_t, den_eql_f, den_iff_t, den_iff_f, T.den, intBin, intMin, intMax, from_i, from_b, Nat.reduceLT, Nat.reduceSub, if_true, if_false, ofL_i0, ofL_iS, IntKind.wrap_i64, IntKind.wrap_u64, ne_eq, Bool.false_eq_true, reduceIte, feeR, eqR] at hx)) | (with_reducible refine call_nil (ci := 4) (v := .bool true) ?_ ?_ <;> (try simp only [den_lss_t, den_lss_f, den_leq_t, den_leq_f, den_gtr_t, den_gtr_f, den_geq_t, den_geq_f, den_eql_t, den_eql_f, den_iff_t, den_iff_f, T.den, intBin, intMin, intMax, from_i, from_b, Nat.reduceLT, Nat.reduceSub, if_true, if_false, ofL_i0, ofL_iS, IntKind.wrap_i64, IntKind.wrap_u64, ne_eq, Bool.false_eq_true, reduceIte, feeR, eqR] at hx)) | (with_reducible refine sem_split (fun h => ?_) (fun h => ?_) <;> (try simp only [den_lss_t, den_lss_f, den_leq_t, den_leq_f, den_gtr_t, den_gtr_f, den_geq_t, den_geq_f, den_eql_t, den_eql_f, den_iff_t, den_iff_f, T.den, intBin, intMin, intMax, from_i, from_b, Nat.reduceLT, Nat.reduceSub, if_true, if_false, ofL_i0, ofL_iS, IntKind.wrap_i64, IntKind.wrap_u64, ne_eq, Bool.false_eq_true, reduceIte, feeR, eqR] at h))))
  all_goals first
    | (have M := quoteE ‹quoteQ t a f _ _› (by assumption); omega)
    | (have M := quote0 ‹quoteQ t a f _ _› (by assumption)
       have N := quote0 ‹quoteQ t b f _ _› (by assumption)
       have P1 : a ≤ b → (partV a t.ppm).1 ≤ (partV b t.ppm).1 := fun h => part_mono h M.2.2.2.2.2.2.2.2.2.2.1 N.2.2.2.2.2.2.2.2.2.2.1
       have P2 : b ≤ a → (partV b t.ppm).1 ≤ (partV a t.ppm).1 := fun h => part_mono h N.2.2.2.2.2.2.2.2.2.2.1 M.2.2.2.2.2.2.2.2.2.2.1
       omega)
    | (have M := quote0 ‹quoteQ t a f _ _› (by assumption); omega)
    | trace_state
end Go.Proofs.Ytigpdnbcjmcfoaa
