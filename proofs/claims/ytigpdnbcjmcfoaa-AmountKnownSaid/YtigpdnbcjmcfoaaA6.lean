/- What is proved: contracts of quote.Check and the document's, of the fees and quotes of both (chapter 20), by symbolic runs; of quote.Fee by its walk. No condition. -/
import Derived.Test.YtigpdnbcjmcfoaaA5
namespace Go.Proofs.Ytigpdnbcjmcfoaa
open Go.RowKit Sx
set_option maxRecDepth 100000
set_option linter.unusedSimpArgs false
set_option linter.unusedVariables false

structure Tm where
  base : Int
  ppm : Int
  reserve : Int
  least : Int
  most : Int
  depth : Int
  delay : Int
  lag : Int
  fast : Int
def Tm.cells (t : Tm) : Array Value := #[.int .i64 t.base, .int .i64 t.ppm, .int .i64 t.reserve, .int .i64 t.least, .int .i64 t.most, .int .i64 t.depth, .int .i64 t.delay, .int .i64 t.lag, .int .i64 t.fast]
def Tm.ok1 (t : Tm) : Prop := 0 ≤ t.base ∧ t.base ≤ 1125899906842624 ∧ 0 ≤ t.reserve ∧ t.reserve ≤ 1125899906842624 ∧ 1 ≤ t.least ∧ t.least ≤ 1125899906842624 ∧ t.least ≤ t.most ∧ t.most ≤ 1125899906842624
def Tm.ok2 (t : Tm) : Prop := 0 ≤ t.ppm ∧ t.ppm ≤ 1000000 ∧ 1 ≤ t.depth ∧ t.depth ≤ 20 ∧ 1 ≤ t.delay ∧ t.delay ≤ 50 ∧ 0 ≤ t.lag ∧ t.lag ≤ 50 ∧ 1 ≤ t.fast ∧ t.fast ≤ 10
instance (t : Tm) : Decidable t.ok1 := inferInstanceAs (Decidable (_ ∧ _))
instance (t : Tm) : Decidable t.ok2 := inferInstanceAs (Decidable (_ ∧ _))
def chkT (t : Tm) : Int := if t.ok1 then (if t.ok2 then 0 else 1) else 15
def feeV (t : Tm) (a : Int) : Int × Int := if ¬ chkT t = 0 then (0, chkT t) else if ¬ isA a then (0, 15) else if t.base + (partV a t.ppm).1 + t.reserve + a ≤ 1125899906842624 then (t.base + (partV a t.ppm).1 + t.reserve, 0) else (0, 15)
def quoteV (t : Tm) (a free : Int) : Int × Int := if ¬ chkT t = 0 then (0, chkT t) else if a < t.least ∨ t.most < a ∨ free < a then (0, 22) else if ¬ (feeV t a).2 = 0 then (0, (feeV t a).2) else (a + (feeV t a).1, 0)
def termS : ConS := fun vs e => ∃ t : Tm, vs = [.agg t.cells] ∧ e = Env.ofL [.int .i64 (chkT t)]
def term1S (f : Tm → Int → Int × Int) : ConS := fun vs e => ∃ (t : Tm) (a : Int), vs = [.agg t.cells, .int .i64 a] ∧ e = Env.ofL [.int .i64 (f t a).1, .int .i64 (f t a).2]
def term2S (f : Tm → Int → Int → Int × Int) : ConS := fun vs e => ∃ (t : Tm) (a b : Int), vs = [.agg t.cells, .int .i64 a, .int .i64 b] ∧ e = Env.ofL [.int .i64 (f t a b).1, .int .i64 (f t a b).2]
def tmE : E := .agg (ivs .i64 0 9)
def tree32 : Tree :=
 (.split (.cmp .geq (.var 0) (.lit 0))
 (.split (.cmp .leq (.var 0) (.lit 1125899906842624))
 (.split (.cmp .geq (.var 2) (.lit 0))
 (.split (.cmp .leq (.var 2) (.lit 1125899906842624))
 (.split (.cmp .geq (.var 3) (.lit 1))
 (.split (.cmp .leq (.var 3) (.lit 1125899906842624))
 (.split (.cmp .geq (.var 4) (.var 3))
 (.split (.cmp .leq (.var 4) (.lit 1125899906842624))
 (.split (.cmp .geq (.var 1) (.lit 0))
 (.split (.cmp .leq (.var 1) (.lit 1000000))
 (.split (.cmp .geq (.var 5) (.lit 1))
 (.split (.cmp .leq (.var 5) (.lit 20))
 (.split (.cmp .geq (.var 6) (.lit 1))
 (.split (.cmp .leq (.var 6) (.lit 50))
 (.split (.cmp .geq (.var 7) (.lit 0))
 (.split (.cmp .leq (.var 7) (.lit 50))
 (.split (.cmp .geq (.var 8) (.lit 1))
 (.split (.cmp .leq (.var 8) (.lit 10))
 (leafT (.int .i64 (.lit 0)) .nil)
 (leafT (.int .i64 (.lit 1)) .nil))
 (leafT (.int .i64 (.lit 1)) .nil))
 (leafT (.int .i64 (.lit 1)) .nil))
 (leafT (.int .i64 (.lit 1)) .nil))
 (leafT (.int .i64 (.lit 1)) .nil))
 (leafT (.int .i64 (.lit 1)) .nil))
 (leafT (.int .i64 (.lit 1)) .nil))
 (leafT (.int .i64 (.lit 1)) .nil))
 (leafT (.int .i64 (.lit 1)) .nil))
 (leafT (.int .i64 (.lit 1)) .nil))
 (leafT (.int .i64 (.lit 15)) .nil))
 (leafT (.int .i64 (.lit 15)) .nil))
 (leafT (.int .i64 (.lit 15)) .nil))
 (leafT (.int .i64 (.lit 15)) .nil))
 (leafT (.int .i64 (.lit 15)) .nil))
 (leafT (.int .i64 (.lit 15)) .nil))
 (leafT (.int .i64 (.lit 15)) .nil))
 (leafT (.int .i64 (.lit 15)) .nil))
set_option maxHeartbeats 1000000 in
theorem refCheck_holds : (i1C 32).holds Try.prog termS := by
  refine con_of_run (cs := []) (S := []) (LT := []) (depth := 3) (fuel := 10) (nv := 200) (av := [tmE]) (T := tree32) trivial (by kernel_rfl) (by kernel_rfl) (by kernel_rfl) ?_
  rintro _ _ ⟨t, rfl, rfl⟩
  refine ⟨noLoops, Env.ofL t.cells.toList, rfl, ?_⟩
  unfold tree32 Tm.cells
  (repeat' (first | (refine leaf2 ?_) | (refine leaf1 ?_) | (refine sem_split (fun h => ?_) (fun h => ?_) <;> (try simp only [den_lss_t, den_lss_f, den_leq_t, den_leq_f, den_gtr_t, den_gtr_f, den_geq_t, den_geq_f, den_eql_t, den_eql_f, T.den, intBin, intMin, intMax, from_i, Nat.reduceLT, Nat.reduceSub, if_true, if_false, ofL_i0, ofL_iS, IntKind.wrap_i64, IntKind.wrap_u64, ne_eq, Bool.false_eq_true, reduceIte] at h)))); all_goals ((try simp only [den_lss_t, den_lss_f, den_leq_t, den_leq_f, den_gtr_t, den_gtr_f, den_geq_t, den_geq_f, den_eql_t, den_eql_f, T.den, intBin, intMin, intMax, from_i, Nat.reduceLT, Nat.reduceSub, if_true, if_false, ofL_i0, ofL_iS, IntKind.wrap_i64, IntKind.wrap_u64, ne_eq, Bool.false_eq_true, reduceIte]); unfold chkT Tm.ok1 Tm.ok2; (repeat' split) <;> (first | rfl | (exfalso; omega) | (congr 1; omega) | omega | (exfalso; simp_all; done) | (exfalso; simp_all; omega)))
def tree31 : Tree :=
 (.split (.cmp .lss (.var 0) (.lit 0))
 (leafT (.int .i64 (.lit 15)) .nil)
 (.split (.cmp .gtr (.var 0) (.lit 1125899906842624))
 (leafT (.int .i64 (.lit 15)) .nil)
 (.split (.cmp .lss (.var 2) (.lit 0))
 (leafT (.int .i64 (.lit 15)) .nil)
 (.split (.cmp .gtr (.var 2) (.lit 1125899906842624))
 (leafT (.int .i64 (.lit 15)) .nil)
 (.split (.cmp .lss (.var 3) (.lit 1))
 (leafT (.int .i64 (.lit 15)) .nil)
 (.split (.cmp .gtr (.var 3) (.lit 1125899906842624))
 (leafT (.int .i64 (.lit 15)) .nil)
 (.split (.cmp .lss (.var 4) (.lit 1))
 (leafT (.int .i64 (.lit 15)) .nil)
 (.split (.cmp .gtr (.var 4) (.lit 1125899906842624))
 (leafT (.int .i64 (.lit 15)) .nil)
 (.split (.cmp .lss (.bin .sub .i64 (.mn (.var 4) (.lit 1125899906842624)) (.mx (.var 3) (.lit 1))) (.lit 0))
 (leafT (.int .i64 (.lit 15)) .nil)
 (.split (.cmp .gtr (.bin .sub .i64 (.mn (.var 4) (.lit 1125899906842624)) (.mx (.var 3) (.lit 1))) (.lit 1125899906842624))
 (leafT (.int .i64 (.lit 15)) .nil)
 (.split (.cmp .lss (.var 1) (.lit 0))
 (leafT (.int .i64 (.lit 1)) .nil)
 (.split (.cmp .gtr (.var 1) (.lit 1000000))
 (leafT (.int .i64 (.lit 1)) .nil)
 (.split (.cmp .lss (.var 5) (.lit 1))
 (leafT (.int .i64 (.lit 1)) .nil)
 (.split (.cmp .gtr (.var 5) (.lit 20))
 (leafT (.int .i64 (.lit 1)) .nil)
 (.split (.cmp .lss (.var 6) (.lit 1))
 (leafT (.int .i64 (.lit 1)) .nil)
 (.split (.cmp .gtr (.var 6) (.lit 50))
 (leafT (.int .i64 (.lit 1)) .nil)
 (.split (.cmp .lss (.var 7) (.lit 0))
 (leafT (.int .i64 (.lit 1)) .nil)
 (.split (.cmp .gtr (.var 7) (.lit 50))
 (leafT (.int .i64 (.lit 1)) .nil)
 (.split (.cmp .lss (.var 8) (.lit 1))
 (leafT (.int .i64 (.lit 1)) .nil)
 (.split (.cmp .gtr (.var 8) (.lit 10))
 (leafT (.int .i64 (.lit 1)) .nil)
 (leafT (.int .i64 (.lit 0)) .nil)))))))))))))))))))))
set_option maxHeartbeats 1000000 in
theorem check_holds : (i1C 31).holds Try.prog termS := by
  refine con_of_run (cs := []) (S := []) (LT := []) (depth := 3) (fuel := 20) (nv := 200) (av := [tmE]) (T := tree31) trivial (by kernel_rfl) (by kernel_rfl) (by kernel_rfl) ?_
  rintro _ _ ⟨t, rfl, rfl⟩
  refine ⟨noLoops, Env.ofL t.cells.toList, rfl, ?_⟩
  unfold tree31 Tm.cells
  (repeat' (first | (refine leaf2 ?_) | (refine leaf1 ?_) | (refine sem_split (fun h => ?_) (fun h => ?_) <;> (try simp only [den_lss_t, den_lss_f, den_leq_t, den_leq_f, den_gtr_t, den_gtr_f, den_geq_t, den_geq_f, den_eql_t, den_eql_f, T.den, intBin, intMin, intMax, from_i, Nat.reduceLT, Nat.reduceSub, if_true, if_false, ofL_i0, ofL_iS, IntKind.wrap_i64, IntKind.wrap_u64, ne_eq, Bool.false_eq_true, reduceIte] at h)))); all_goals ((try simp only [den_lss_t, den_lss_f, den_leq_t, den_leq_f, den_gtr_t, den_gtr_f, den_geq_t, den_geq_f, den_eql_t, den_eql_f, T.den, intBin, intMin, intMax, from_i, Nat.reduceLT, Nat.reduceSub, if_true, if_false, ofL_i0, ofL_iS, IntKind.wrap_i64, IntKind.wrap_u64, ne_eq, Bool.false_eq_true, reduceIte]); unfold chkT Tm.ok1 Tm.ok2; (repeat' split) <;> (first | rfl | (exfalso; omega) | (congr 1; omega) | omega | (exfalso; simp_all; done) | (exfalso; simp_all; omega)))

/-- The terms lie in the first nine variables. -/
def TmAt (ρ : Env) (t : Tm) : Prop := E.vals ρ lay0 [.agg (ivs .i64 0 9)] = [.agg t.cells]
theorem TmAt.up {ρ e : Env} {t : Tm} {b : Nat} (hb : 9 ≤ b) (h : TmAt ρ t) : TmAt (ρ.from_ b e) t := by
  unfold TmAt
  rw [← h]
  exact E.vals_ag (Env.ag_mono (Env.from_ag ρ b e) hb) _ _ rfl
section
variable {S : List ConS} {LQ : LoopS} {ρ : Env} {K : Env → Ex → St → Prop} {t0 : Tm}
theorem call_term {ci base : Nat} (h : S[ci]? = some termS) {t : Tree} (ht : TmAt ρ t0)
    (k : ∀ x, x = chkT t0 → treeSem S LQ K (ρ.from_ base (Env.ofL [.int .i64 x])) t) : treeSem S LQ K ρ (.call ci base [.agg (ivs .i64 0 9)] t) :=
  sem_call _ _ h ⟨t0, ht, rfl⟩ (k _ rfl)
theorem vals_cons (ρ : Env) (e : E) (l : List E) : E.vals ρ lay0 (e :: l) = e.val ρ lay0 :: E.vals ρ lay0 l := rfl
theorem call_term1 {ci base : Nat} {f : Tm → Int → Int × Int} {R : Tm → Int → Int → Int → Prop} (hR : ∀ t a, R t a (f t a).1 (f t a).2) (h : S[ci]? = some (term1S f)) {t1 : T} {t : Tree} (ht : TmAt ρ t0)
    (k : ∀ x y, R t0 (t1.den ρ) x y → treeSem S LQ K (ρ.from_ base (Env.ofL [.int .i64 x, .int .i64 y])) t) : treeSem S LQ K ρ (.call ci base [.agg (ivs .i64 0 9), .int .i64 t1] t) :=
  sem_call _ _ h ⟨t0, t1.den ρ, by rw [vals_cons, List.head_eq_of_cons_eq ht]; rfl, rfl⟩ (k _ _ (hR _ _))
theorem call_term2 {ci base : Nat} {f : Tm → Int → Int → Int × Int} {R : Tm → Int → Int → Int → Int → Prop} (hR : ∀ t a b, R t a b (f t a b).1 (f t a b).2) (h : S[ci]? = some (term2S f)) {t1 t2 : T} {t : Tree} (ht : TmAt ρ t0)
    (k : ∀ x y, R t0 (t1.den ρ) (t2.den ρ) x y → treeSem S LQ K (ρ.from_ base (Env.ofL [.int .i64 x, .int .i64 y])) t) : treeSem S LQ K ρ (.call ci base [.agg (ivs .i64 0 9), .int .i64 t1, .int .i64 t2] t) :=
  sem_call _ _ h ⟨t0, t1.den ρ, t2.den ρ, by rw [vals_cons, List.head_eq_of_cons_eq ht]; rfl, rfl⟩ (k _ _ (hR _ _ _))
end

theorem chkT_cases (t : Tm) : (chkT t = 0 ∧ t.ok1 ∧ t.ok2) ∨ (chkT t = 15 ∧ ¬ t.ok1) ∨ (chkT t = 1 ∧ t.ok1 ∧ ¬ t.ok2) := by
  unfold chkT
  by_cases h1 : t.ok1
  · by_cases h2 : t.ok2
    · rw [if_pos h1, if_pos h2]; exact .inl ⟨rfl, h1, h2⟩
    · rw [if_pos h1, if_neg h2]; exact .inr (.inr ⟨rfl, h1, h2⟩)
  · rw [if_neg h1]; exact .inr (.inl ⟨rfl, h1⟩)
/-- What a part is of an amount, where the millionths are right. -/
def partB (a p x e : Int) : Prop := (0 ≤ p → p ≤ 1000000 → (e = 0 ∧ 0 ≤ a ∧ a ≤ 1125899906842624 ∧ 0 ≤ x ∧ x ≤ a) ∨ (e = 15 ∧ x = 0 ∧ ¬ (0 ≤ a ∧ a ≤ 1125899906842624))) ∧ x = (partV a p).1 ∧ e = (partV a p).2
theorem partB_ok (a p : Int) : partB a p (partV a p).1 (partV a p).2 := by
  refine ⟨fun h0 h1 => ?_, rfl, rfl⟩
  rcases partQ_ok a p with ⟨e, a0, a1, _, _, hx, m0, m1, _, _⟩ | ⟨hx, ⟨e, ha⟩ | ⟨e, _, _, hp⟩⟩
  · left
    rw [hx, e]
    generalize a * p = P at *
    omega
  · right; exact ⟨e, hx, ha⟩
  · exact absurd ⟨h0, h1⟩ hp
theorem feeV_bad (t : Tm) (a : Int) (h : ¬ chkT t = 0) : feeV t a = (0, chkT t) := if_pos h
theorem feeV_range (t : Tm) (a : Int) (h : chkT t = 0) (ha : ¬ isA a) : feeV t a = (0, 15) := by unfold feeV; rw [if_neg (by simpa using h), if_pos ha]
theorem feeV_big (t : Tm) (a : Int) (h : chkT t = 0) (ha : isA a) (hb : ¬ t.base + (partV a t.ppm).1 + t.reserve + a ≤ 1125899906842624) : feeV t a = (0, 15) := by unfold feeV; rw [if_neg (by simpa using h), if_neg (by simpa using ha), if_neg hb]
theorem feeV_ok (t : Tm) (a : Int) (h : chkT t = 0) (ha : isA a) (hb : t.base + (partV a t.ppm).1 + t.reserve + a ≤ 1125899906842624) : feeV t a = (t.base + (partV a t.ppm).1 + t.reserve, 0) := by unfold feeV; rw [if_neg (by simpa using h), if_neg (by simpa using ha), if_pos hb]

/-- The first variables. -/
theorem tm_i {ρ : Env} {t : Tm} (h : TmAt ρ t) : ρ.i 0 = t.base ∧ ρ.i 1 = t.ppm ∧ ρ.i 2 = t.reserve ∧ ρ.i 3 = t.least ∧ ρ.i 4 = t.most := by
  unfold TmAt at h
  have h2 : E.val ρ lay0 (.agg (ivs .i64 0 9)) = .agg t.cells := List.head_eq_of_cons_eq h
  have h3 : (#[.int .i64 (ρ.i 0), .int .i64 (ρ.i 1), .int .i64 (ρ.i 2), .int .i64 (ρ.i 3), .int .i64 (ρ.i 4), .int .i64 (ρ.i 5), .int .i64 (ρ.i 6), .int .i64 (ρ.i 7), .int .i64 (ρ.i 8)] : Array Value) = t.cells := by injection h2
  unfold Tm.cells at h3
  simp only [Array.mk.injEq, List.cons.injEq, Value.int.injEq, true_and, and_true] at h3
  obtain ⟨a, b, c, d, e, _⟩ := h3
  exact ⟨a, b, c, d, e⟩
abbrev env9 (t : Tm) (l : List Value) : Env := Env.ofL (.int .i64 t.base :: .int .i64 t.ppm :: .int .i64 t.reserve :: .int .i64 t.least :: .int .i64 t.most :: .int .i64 t.depth :: .int .i64 t.delay :: .int .i64 t.lag :: .int .i64 t.fast :: l)
theorem tm_env (t : Tm) (l : List Value) : TmAt (env9 t l) t := rfl

def tree28 : Tree :=
 (.call 0 4200 [(.agg (ivs .i64 0 9))]
 (.split (.cmp .eql (.var 4200) (.lit 0))
 (.call 1 11200 [(.int .i64 (.var 9)), (.int .i64 (.var 1))]
 (.split (.cmp .eql (.var 11201) (.lit 0))
 (.split (.cmp .gtr (.bin .add .i64 (.bin .add .i64 (.bin .add .i64 (.var 0) (.var 11200)) (.var 2)) (.var 9)) (.lit 1125899906842624))
 (leafT (.tup ([(.int .i64 (.lit 0)), (.int .i64 (.lit 15))])) .nil)
 (leafT (.tup ([(.int .i64 (.bin .add .i64 (.bin .add .i64 (.var 0) (.var 11200)) (.var 2))), (.int .i64 (.lit 0))])) .nil))
 (leafT (.tup ([(.int .i64 (.lit 0)), (.int .i64 (.lit 15))])) .nil)))
 (leafT (.tup ([(.int .i64 (.lit 0)), (.int .i64 (.var 4200))])) .nil)))
theorem refFee_holds : (i2C 28).holds Try.prog (term1S feeV) := by
  refine con_of_run (cs := [i1C 32, i2C 26]) (S := [termS, in2S partV]) (LT := []) (depth := 0) (fuel := 10) (nv := 200) (av := [.agg (ivs .i64 0 9), .int .i64 (.var 9)]) (T := tree28) ⟨refCheck_holds, refPart_holds, trivial⟩ (by kernel_rfl) (by kernel_rfl) (by kernel_rfl) ?_
  rintro _ _ ⟨t, a, rfl, rfl⟩
  refine ⟨noLoops, env9 t [.int .i64 a], rfl, ?_⟩
  have T0 := tm_env t [.int .i64 a]
  have g9 : (env9 t [.int .i64 a]).i 9 = a := rfl
  generalize env9 t [.int .i64 a] = ρ at T0 g9
  obtain ⟨i0, i1, i2, i3, i4⟩ := tm_i T0
  unfold tree28
  refine call_term (ci := 0) rfl T0 (fun x hx => ?_)
  refine sem_split (fun c => ?_) (fun c => leaf2 ?_) <;> simp only [den_eql_t, den_eql_f, T.den, from_first] at c
  · subst hx
    refine call_in2 (ci := 1) partB_ok rfl (fun y e hp => ?_)
    simp only [T.den, from_low (show 9 < 4200 by decide), from_low (show 1 < 4200 by decide), g9, i1] at hp
    obtain ⟨hp, hy, he⟩ := hp
    rcases chkT_cases t with ⟨_, k1, k2⟩ | ⟨h, _⟩ | ⟨h, _⟩
    rotate_left
    · rw [h] at c; cases c
    · rw [h] at c; cases c
    have hp := hp k2.1 k2.2.1
    refine sem_split (fun c2 => ?_) (fun c2 => leaf2 ?_) <;> simp only [den_eql_t, den_eql_f, T.den, from_first2] at c2
    · have ha : isA a := by rcases hp with h | h <;> exact ⟨by omega, by omega⟩
      have hb : 0 ≤ y ∧ y ≤ a := by rcases hp with h | h <;> omega
      have hk1 := k1
      unfold Tm.ok1 at hk1
      have ha1 := ha.1
      have ha2 := ha.2
      have e0 : T.den ((ρ.from_ 4200 (Env.ofL [.int .i64 (chkT t)])).from_ 11200 (Env.ofL [.int .i64 y, .int .i64 e])) (.bin .add .i64 (.bin .add .i64 (.var 0) (.var 11200)) (.var 2)) = t.base + y + t.reserve := by
        simp only [T.den, intBin, from_first, from_low (show 0 < 11200 by decide), from_low (show 2 < 11200 by decide), from_low (show 0 < 4200 by decide), from_low (show 2 < 4200 by decide), i0, i2, IntKind.wrap_i64]
        omega
      have e1 : T.den ((ρ.from_ 4200 (Env.ofL [.int .i64 (chkT t)])).from_ 11200 (Env.ofL [.int .i64 y, .int .i64 e])) (.var 9) = a := by
        simp only [T.den, from_low (show 9 < 11200 by decide), from_low (show 9 < 4200 by decide), g9]
      refine sem_split (fun c3 => leaf2 ?_) (fun c3 => leaf2 ?_) <;> simp only [den_gtr_t, den_gtr_f] at c3
      · rw [show T.den _ (.bin .add .i64 (.bin .add .i64 (.bin .add .i64 (.var 0) (.var 11200)) (.var 2)) (.var 9)) = IntKind.i64.wrap (T.den _ (.bin .add .i64 (.bin .add .i64 (.var 0) (.var 11200)) (.var 2)) + T.den _ (.var 9)) from rfl, e0, e1, IntKind.wrap_i64] at c3
        rw [feeV_big t a c ha (by rw [← hy]; simp only [T.den] at c3; omega)]
        rfl
      · rw [show T.den _ (.bin .add .i64 (.bin .add .i64 (.bin .add .i64 (.var 0) (.var 11200)) (.var 2)) (.var 9)) = IntKind.i64.wrap (T.den _ (.bin .add .i64 (.bin .add .i64 (.var 0) (.var 11200)) (.var 2)) + T.den _ (.var 9)) from rfl, e0, e1, IntKind.wrap_i64] at c3
        rw [feeV_ok t a c ha (by rw [← hy]; simp only [T.den] at c3; omega), e0, ← hy]
        rfl
    · have ha : ¬ isA a := by unfold isA; rcases hp with h | h <;> omega
      rw [feeV_range t a c ha]
      rfl
  · subst hx
    rw [feeV_bad t a c]
    simp only [T.den, from_first]

/-- A function of one slice of ints, of n that lie in a block: as a contract. -/
def sliceC (f : FuncId) (n : Nat) (res : E) : Con := mkCon f [(0, n, none)] res
def sliceS (n : Nat) (g : List Int → List Value) : ConS := fun vs e => ∃ l : List Int, l.length = n ∧ vs = [.tuple (its l).toArray] ∧ e = Env.ofL (g l)
theorem slice_holds {f : FuncId} {n : Nat} {res : E} {g : List Int → List Value} (hchk : chkCon [] res = true) (h : ∀ (l : List Int) (w : World) (ao : Option Addr) (c : Nat), l.length = n → Sl w ao n c (its l) → Calls Try.prog f #[.slice ao n c] w (Ret (res.val (Env.ofL (g l)) lay0) w)) :
    (sliceC f n res).holds Try.prog (sliceS n g) := by
  intro w args vs qs e0 hp _ hs
  obtain ⟨l, hl, rfl, rfl⟩ := hs
  match qs, hp with
  | q :: qs', hp =>
    obtain ⟨sl, cs, vs', ⟨hv', hq'⟩, h2, ⟨h3, h4⟩, h5, h6⟩ := hp
    subst hv'
    unfold chkCon at hchk
    rw [Bool.and_eq_true, Bool.and_eq_true] at hchk
    have hlen : vs'.length = 1 := by have := congrArg List.length h2; simpa using this.symm
    match vs', hlen with
    | [v], _ =>
      simp only [List.set_cons_zero, List.cons.injEq, and_true] at h2
      cases sl with
      | none => simp [placeV] at h2
      | some c =>
        simp only [placeV, Value.tuple.injEq] at h2
        have hcs : cs = its l := (congrArg Array.toList h2).symm
        subst hcs
        simp only [List.getElem?_cons_zero, Option.some.injEq] at h5
        subst h5
        have hS : Sl w (some ⟨q.1, q.2, none⟩) n c (its l) := ⟨by rw [its_length]; exact hl, h4 c rfl, (fun e => by cases e), .inr ⟨q.1, q.2, rfl, fun j x hj => (h6 j x hj).1⟩⟩
        refine (h l w _ c hl hS).mono ?_
        rintro e w' ⟨rfl, g', rfl⟩
        refine ⟨Fr.of_below g'.below, fun ρ base hat => ⟨fun ι => ?_, fun p q g hz he => ?_⟩⟩
        · show Ending.returned _ = Ending.returned ((res.shift base).val ρ ι)
          rw [E.shift_val hat ι lay0 res hchk.1.1 hchk.1.2]
        · have := List.of_mem_zip hz
          simp only [sliceC, mkCon, List.map_cons, List.map_nil, List.mem_singleton] at this
          rw [this.1] at he
          cases he
  | [], hp => exact hp.elim
def pairG (f : List Int → Int × Int) (l : List Int) : List Value := [.int .i64 (f l).1, .int .i64 (f l).2]
def pairE : E := .tup [.int .i64 (.var 0), .int .i64 (.var 1)]
theorem total_holds (n : Nat) (hn : n < 1099511627776) : (sliceC 14 n pairE).holds Try.prog (sliceS n (pairG totV)) :=
  slice_holds rfl fun l w ao c hl hS => Total_any hS hn

theorem tot3 (a b c : Int) (ha : isA a) (hb : isA b) (hc : isA c) : totV [a, b, c] = if a + b + c ≤ 1125899906842624 then (a + b + c, 0) else (0, 15) := by
  unfold totV
  have h1 : allA [a, b, c] = true := by simp [allA, ha, hb, hc]
  have h2 : [a, b, c].sum = a + b + c := by simp; omega
  rw [h1, h2]
  by_cases h : a + b + c ≤ 1125899906842624
  · rw [if_pos h, if_pos ⟨rfl, h⟩]
  · rw [if_neg h, if_neg (fun x => h x.2)]
section
variable {S : List ConS} {LQ : LoopS} {ρ : Env} {K : Env → Ex → St → Prop}
theorem call_tot3 {ci base : Nat} (h : S[ci]? = some (sliceS 3 (pairG totV))) {t1 t2 t3 : T} {t : Tree}
    (k : ∀ x y, x = (totV [t1.den ρ, t2.den ρ, t3.den ρ]).1 → y = (totV [t1.den ρ, t2.den ρ, t3.den ρ]).2 → treeSem S LQ K (ρ.from_ base (Env.ofL [.int .i64 x, .int .i64 y])) t) :
    treeSem S LQ K ρ (.call ci base [.tup [.int .i64 t1, .int .i64 t2, .int .i64 t3]] t) :=
  sem_call _ _ h ⟨[t1.den ρ, t2.den ρ, t3.den ρ], rfl, rfl, rfl⟩ (k _ _ rfl rfl)
end

def tree27 : Tree :=
 (.call 0 4200 [(.agg (ivs .i64 0 9))]
 (.split (.cmp .eql (.var 4200) (.lit 0))
 (.call 1 11200 [(.int .i64 (.var 9)), (.int .i64 (.var 1))]
 (.split (.cmp .eql (.var 11201) (.lit 0))
 (.call 2 25200 [(.tup ([(.int .i64 (.var 0)), (.int .i64 (.var 11200)), (.int .i64 (.var 2))]))]
 (.split (.cmp .eql (.var 25201) (.lit 0))
 (.call 3 35200 [(.int .i64 (.var 25200)), (.int .i64 (.var 9))]
 (.split (.cmp .eql (.var 35201) (.lit 0))
 (leafT (.tup ([(.int .i64 (.var 25200)), (.int .i64 (.lit 0))])) .nil)
 (leafT (.tup ([(.int .i64 (.lit 0)), (.int .i64 (.var 35201))])) .nil)))
 (leafT (.tup ([(.int .i64 (.lit 0)), (.int .i64 (.var 25201))])) .nil)))
 (leafT (.tup ([(.int .i64 (.lit 0)), (.int .i64 (.var 11201))])) .nil)))
 (leafT (.tup ([(.int .i64 (.lit 0)), (.int .i64 (.var 4200))])) .nil)))
theorem fee_holds : (i2C 27).holds Try.prog (term1S feeV) := by
  refine con_of_run (cs := [i1C 31, i2C 17, sliceC 14 3 pairE, i2C 18]) (S := [termS, in2S partV, sliceS 3 (pairG totV), in2S sumV]) (LT := []) (depth := 0) (fuel := 10) (nv := 200) (av := [.agg (ivs .i64 0 9), .int .i64 (.var 9)]) (T := tree27) ⟨check_holds, part_holds, total_holds 3 (by decide), add_holds, trivial⟩ (by kernel_rfl) (by kernel_rfl) (by kernel_rfl) ?_
  rintro _ _ ⟨t, a, rfl, rfl⟩
  refine ⟨noLoops, env9 t [.int .i64 a], rfl, ?_⟩
  have T0 := tm_env t [.int .i64 a]
  have g9 : (env9 t [.int .i64 a]).i 9 = a := rfl
  generalize env9 t [.int .i64 a] = ρ at T0 g9
  obtain ⟨i0, i1, i2, i3, i4⟩ := tm_i T0
  unfold tree27
  refine call_term (ci := 0) rfl T0 (fun x hx => ?_)
  refine sem_split (fun c => ?_) (fun c => leaf2 ?_) <;> simp only [den_eql_t, den_eql_f, T.den, from_first] at c
  · subst hx
    refine call_in2 (ci := 1) partB_ok rfl (fun y e hp => ?_)
    simp only [T.den, from_low (show 9 < 4200 by decide), from_low (show 1 < 4200 by decide), g9, i1] at hp
    obtain ⟨hp, hy, he⟩ := hp
    rcases chkT_cases t with ⟨_, k1, k2⟩ | ⟨h, _⟩ | ⟨h, _⟩
    rotate_left
    · rw [h] at c; cases c
    · rw [h] at c; cases c
    have hp := hp k2.1 k2.2.1
    refine sem_split (fun c2 => ?_) (fun c2 => leaf2 ?_) <;> simp only [den_eql_t, den_eql_f, T.den, from_first2] at c2
    · have ha : isA a := by rcases hp with h | h <;> exact ⟨by omega, by omega⟩
      have hb : 0 ≤ y ∧ y ≤ a := by rcases hp with h | h <;> omega
      have hk1 := k1
      unfold Tm.ok1 at hk1
      have ha1 := ha.1
      have ha2 := ha.2
      refine call_tot3 (ci := 2) rfl (fun z z2 hz hz2 => ?_)
      simp only [T.den, from_first, from_low (show 0 < 11200 by decide), from_low (show 2 < 11200 by decide), from_low (show 0 < 4200 by decide), from_low (show 2 < 4200 by decide), i0, i2] at hz hz2
      rw [tot3 _ _ _ ⟨hk1.1, hk1.2.1⟩ ⟨by omega, by omega⟩ ⟨hk1.2.2.1, hk1.2.2.2.1⟩] at hz hz2
      refine sem_split (fun c3 => ?_) (fun c3 => leaf2 ?_) <;> simp only [den_eql_t, den_eql_f, T.den, from_first2] at c3
      · have hle : t.base + y + t.reserve ≤ 1125899906842624 := by
          apply Classical.byContradiction
          intro h
          rw [if_neg h] at hz2
          omega
        rw [if_pos hle] at hz
        refine call_in2 (ci := 3) sumR_ok rfl (fun u v hs => ?_)
        simp only [T.den, from_first, from_low (show 9 < 25200 by decide), from_low (show 9 < 11200 by decide), from_low (show 9 < 4200 by decide), g9] at hs
        unfold sumR at hs
        refine sem_split (fun c4 => leaf2 ?_) (fun c4 => leaf2 ?_) <;> simp only [den_eql_t, den_eql_f, T.den, from_first2] at c4
        · rw [feeV_ok t a c ha (by rw [← hy]; omega)]
          simp only [T.den, from_low (show 25200 < 35200 by decide), from_first]
          rw [hz, ← hy]
        · rw [feeV_big t a c ha (by rw [← hy]; omega)]
          simp only [T.den, from_first2]
          refine Prod.ext rfl ?_
          show (15 : Int) = v
          omega
      · have hgt : ¬ t.base + y + t.reserve ≤ 1125899906842624 := fun h => by
          rw [if_pos h] at hz2
          exact c3 hz2
        rw [if_neg hgt] at hz2
        rw [feeV_big t a c ha (by rw [← hy]; omega)]
        simp only [T.den, from_first2]
        rw [hz2]
    · have ha : ¬ isA a := by unfold isA; rcases hp with h | h <;> omega
      rw [feeV_range t a c ha]
      simp only [T.den, from_first2]
      refine Prod.ext rfl ?_
      show (15 : Int) = e
      omega
  · subst hx
    rw [feeV_bad t a c]
    simp only [T.den, from_first]

def feeR (t : Tm) (a x y : Int) : Prop := x = (feeV t a).1 ∧ y = (feeV t a).2
theorem feeR_ok (t : Tm) (a : Int) : feeR t a (feeV t a).1 (feeV t a).2 := ⟨rfl, rfl⟩
theorem quoteV_bad (t : Tm) (a f : Int) (h : ¬ chkT t = 0) : quoteV t a f = (0, chkT t) := if_pos h
theorem quoteV_lim (t : Tm) (a f : Int) (h : chkT t = 0) (hl : a < t.least ∨ t.most < a ∨ f < a) : quoteV t a f = (0, 22) := by unfold quoteV; rw [if_neg (by simpa using h), if_pos hl]
theorem quoteV_fee (t : Tm) (a f : Int) (h : chkT t = 0) (hl : ¬ (a < t.least ∨ t.most < a ∨ f < a)) (he : ¬ (feeV t a).2 = 0) : quoteV t a f = (0, (feeV t a).2) := by unfold quoteV; rw [if_neg (by simpa using h), if_neg hl, if_pos he]
theorem quoteV_ok (t : Tm) (a f : Int) (h : chkT t = 0) (hl : ¬ (a < t.least ∨ t.most < a ∨ f < a)) (he : (feeV t a).2 = 0) : quoteV t a f = (a + (feeV t a).1, 0) := by unfold quoteV; rw [if_neg (by simpa using h), if_neg hl, if_neg (by simpa using he)]
theorem fee_bound {t : Tm} {a : Int} (h : (feeV t a).2 = 0) : 0 ≤ a ∧ 0 ≤ (feeV t a).1 ∧ a + (feeV t a).1 ≤ 1125899906842624 := by
  rcases chkT_cases t with ⟨c, k1, k2⟩ | ⟨c, _⟩ | ⟨c, _⟩
  rotate_left
  · rw [feeV_bad t a (by omega)] at h; simp only at h; omega
  · rw [feeV_bad t a (by omega)] at h; simp only at h; omega
  by_cases ha : isA a
  · by_cases hb : t.base + (partV a t.ppm).1 + t.reserve + a ≤ 1125899906842624
    · rw [feeV_ok t a c ha hb]
      have hp := (partB_ok a t.ppm).1 k2.1 k2.2.1
      unfold Tm.ok1 at k1
      have := ha.1
      refine ⟨ha.1, ?_, ?_⟩ <;> show _ ≤ _ <;> rcases hp with hp | hp <;> omega
    · rw [feeV_big t a c ha hb] at h; cases h
  · rw [feeV_range t a c ha] at h; cases h
end Go.Proofs.Ytigpdnbcjmcfoaa
