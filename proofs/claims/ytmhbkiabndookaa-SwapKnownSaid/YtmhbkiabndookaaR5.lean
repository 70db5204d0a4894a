/- What is proved: the contract of moves (layer 23's statements), by symbolic runs. No condition. -/
import Derived.Test.YtmhbkiabndookaaR4
namespace Go.Proofs.Ytmhbkiabndookaa
open Go.RowKit Sx
set_option maxRecDepth 100000
/-- The play behind a move. -/
def Py.mv0 (p : Py) (mv : Int) : Py := { p with l0 := (movesOf 0 mv (wrap64 (p.now + 1)) p.s0.d.pz p.l0 p.l1 p.shown).1, l1 := (movesOf 0 mv (wrap64 (p.now + 1)) p.s0.d.pz p.l0 p.l1 p.shown).2.1, shown := (movesOf 0 mv (wrap64 (p.now + 1)) p.s0.d.pz p.l0 p.l1 p.shown).2.2 }
def Py.mv1 (p : Py) (mv : Int) : Py := { p with l1 := (movesOf 1 mv (wrap64 (p.now + 1)) p.s1.d.pz p.l1 p.l0 p.shown).1, l0 := (movesOf 1 mv (wrap64 (p.now + 1)) p.s1.d.pz p.l1 p.l0 p.shown).2.1, shown := (movesOf 1 mv (wrap64 (p.now + 1)) p.s1.d.pz p.l1 p.l0 p.shown).2.2 }
def movesC : Con := mkCon 20 [(0, 167, some (playE 0))] (.tup [])
def moves0S : ConS := fun vs e => ∃ (p : Py) (mv : Int), vs = [.agg p.cells, .int .i64 0, .int .i64 mv] ∧ e = Env.ofL (p.mv0 mv).cells.toList
def moves1S : ConS := fun vs e => ∃ (p : Py) (mv : Int), vs = [.agg p.cells, .int .i64 1, .int .i64 mv] ∧ e = Env.ofL (p.mv1 mv).cells.toList
theorem play_back (p : Py) : E.vals (Env.ofL p.cells.toList) lay0 (playE 0) = p.cells.toList := by kernel_rfl
theorem play_len : (playE 0).length = 167 := by kernel_rfl
def menv (p : Py) (mv : Int) : Env := Env.ofL (p.cells.toList ++ [.int .i64 mv])
section
variable (p : Py) (mv : Int)
theorem me167 : (menv p mv).i 167 = mv := by kernel_rfl
theorem me9 : (menv p mv).i 9 = p.now := by kernel_rfl
theorem me14 : (menv p mv).i 14 = p.s0.d.pz := by kernel_rfl
theorem me89 : (menv p mv).i 89 = p.s1.d.pz := by kernel_rfl
theorem me160 : (menv p mv).i 160 = p.l0.made := by kernel_rfl
theorem me162 : (menv p mv).i 162 = p.l0.by_ := by kernel_rfl
theorem me163 : (menv p mv).i 163 = p.l1.made := by kernel_rfl
theorem me165 : (menv p mv).i 165 = p.l1.by_ := by kernel_rfl
end
section
variable (p : Py) (mv : Int)
theorem mv0_lock (h : mv = 1) (h' : p.l0.made = 0) : p.mv0 mv = { p with l0 := { p.l0 with made := IntKind.i64.wrap (p.now + 1) } } := by
  unfold Py.mv0 movesOf; rw [if_pos ⟨h, h'⟩, IntWalk.i64_left]
theorem mv0_claim (h : mv = 2) (h' : p.l1.made > 0) (h2 : p.l1.by_ = 0) : p.mv0 mv = { p with l1 := { p.l1 with spent := IntKind.i64.wrap (p.now + 1), by_ := 1 }, shown := true } := by
  unfold Py.mv0 movesOf; rw [if_neg (by omega), if_pos ⟨h, h', h2⟩, IntWalk.i64_left]; rfl
theorem mv0_refund (h : mv = 3) (h' : p.l0.made > 0) (h2 : p.l0.by_ = 0) (h3 : wrap64 (p.now + 1) ≥ p.s0.d.pz) : p.mv0 mv = { p with l0 := { p.l0 with spent := IntKind.i64.wrap (p.now + 1), by_ := 1 } } := by
  unfold Py.mv0 movesOf; rw [if_neg (by omega), if_neg (by omega), if_pos ⟨h, h', h2, h3⟩, IntWalk.i64_left]; rfl
theorem mv0_none (h1 : ¬ (mv = 1 ∧ p.l0.made = 0)) (h2 : ¬ (mv = 2 ∧ p.l1.made > 0 ∧ p.l1.by_ = 0)) (h3 : ¬ (mv = 3 ∧ p.l0.made > 0 ∧ p.l0.by_ = 0 ∧ wrap64 (p.now + 1) ≥ p.s0.d.pz)) : p.mv0 mv = p := by
  unfold Py.mv0 movesOf; rw [if_neg h1, if_neg h2, if_neg h3]
end
def tree20a : Tree :=
 (.split (.cmp .eql (.var 167) (.lit 1))
 (.split (.cmp .eql (.var 160) (.lit 0))
 (leafT (.tup ([])) (.node .nil (some (cats [ivs .i64 0 18, ivs .u8 18 32, [(.int .i64 (.var 50)), (.int .i64 (.var 51)), (.bool (.var 52))], ivs .u8 53 32, ivs .i64 85 8, ivs .u8 93 32, [(.int .i64 (.var 125)), (.int .i64 (.var 126)), (.bool (.var 127))], ivs .u8 128 32, [(.int .i64 (.bin .add .i64 (.var 9) (.lit 1)))], ivs .i64 161 5, [(.bool (.var 166))]])) .nil))
 (leafT (.tup ([])) (.node .nil (some (cats [ivs .i64 0 18, ivs .u8 18 32, [(.int .i64 (.var 50)), (.int .i64 (.var 51)), (.bool (.var 52))], ivs .u8 53 32, ivs .i64 85 8, ivs .u8 93 32, [(.int .i64 (.var 125)), (.int .i64 (.var 126)), (.bool (.var 127))], ivs .u8 128 32, ivs .i64 160 6, [(.bool (.var 166))]])) .nil)))
 (.split (.cmp .eql (.var 167) (.lit 2))
 (.split (.cmp .gtr (.var 163) (.lit 0))
 (.split (.cmp .eql (.var 165) (.lit 0))
 (leafT (.tup ([])) (.node .nil (some (cats [ivs .i64 0 18, ivs .u8 18 32, [(.int .i64 (.var 50)), (.int .i64 (.var 51)), (.bool (.var 52))], ivs .u8 53 32, ivs .i64 85 8, ivs .u8 93 32, [(.int .i64 (.var 125)), (.int .i64 (.var 126)), (.bool (.var 127))], ivs .u8 128 32, ivs .i64 160 4, [(.int .i64 (.bin .add .i64 (.var 9) (.lit 1))), (.int .i64 (.lit 1)), (.bool (.lit true))]])) .nil))
 (leafT (.tup ([])) (.node .nil (some (cats [ivs .i64 0 18, ivs .u8 18 32, [(.int .i64 (.var 50)), (.int .i64 (.var 51)), (.bool (.var 52))], ivs .u8 53 32, ivs .i64 85 8, ivs .u8 93 32, [(.int .i64 (.var 125)), (.int .i64 (.var 126)), (.bool (.var 127))], ivs .u8 128 32, ivs .i64 160 6, [(.bool (.var 166))]])) .nil)))
 (leafT (.tup ([])) (.node .nil (some (cats [ivs .i64 0 18, ivs .u8 18 32, [(.int .i64 (.var 50)), (.int .i64 (.var 51)), (.bool (.var 52))], ivs .u8 53 32, ivs .i64 85 8, ivs .u8 93 32, [(.int .i64 (.var 125)), (.int .i64 (.var 126)), (.bool (.var 127))], ivs .u8 128 32, ivs .i64 160 6, [(.bool (.var 166))]])) .nil)))
 (.split (.cmp .eql (.var 167) (.lit 3))
 (.split (.cmp .gtr (.var 160) (.lit 0))
 (.split (.cmp .eql (.var 162) (.lit 0))
 (.split (.cmp .geq (.bin .add .i64 (.var 9) (.lit 1)) (.var 14))
 (leafT (.tup ([])) (.node .nil (some (cats [ivs .i64 0 18, ivs .u8 18 32, [(.int .i64 (.var 50)), (.int .i64 (.var 51)), (.bool (.var 52))], ivs .u8 53 32, ivs .i64 85 8, ivs .u8 93 32, [(.int .i64 (.var 125)), (.int .i64 (.var 126)), (.bool (.var 127))], ivs .u8 128 32, [(.int .i64 (.var 160)), (.int .i64 (.bin .add .i64 (.var 9) (.lit 1))), (.int .i64 (.lit 1)), (.int .i64 (.var 163)), (.int .i64 (.var 164)), (.int .i64 (.var 165)), (.bool (.var 166))]])) .nil))
 (leafT (.tup ([])) (.node .nil (some (cats [ivs .i64 0 18, ivs .u8 18 32, [(.int .i64 (.var 50)), (.int .i64 (.var 51)), (.bool (.var 52))], ivs .u8 53 32, ivs .i64 85 8, ivs .u8 93 32, [(.int .i64 (.var 125)), (.int .i64 (.var 126)), (.bool (.var 127))], ivs .u8 128 32, ivs .i64 160 6, [(.bool (.var 166))]])) .nil)))
 (leafT (.tup ([])) (.node .nil (some (cats [ivs .i64 0 18, ivs .u8 18 32, [(.int .i64 (.var 50)), (.int .i64 (.var 51)), (.bool (.var 52))], ivs .u8 53 32, ivs .i64 85 8, ivs .u8 93 32, [(.int .i64 (.var 125)), (.int .i64 (.var 126)), (.bool (.var 127))], ivs .u8 128 32, ivs .i64 160 6, [(.bool (.var 166))]])) .nil)))
 (leafT (.tup ([])) (.node .nil (some (cats [ivs .i64 0 18, ivs .u8 18 32, [(.int .i64 (.var 50)), (.int .i64 (.var 51)), (.bool (.var 52))], ivs .u8 53 32, ivs .i64 85 8, ivs .u8 93 32, [(.int .i64 (.var 125)), (.int .i64 (.var 126)), (.bool (.var 127))], ivs .u8 128 32, ivs .i64 160 6, [(.bool (.var 166))]])) .nil)))
 (leafT (.tup ([])) (.node .nil (some (cats [ivs .i64 0 18, ivs .u8 18 32, [(.int .i64 (.var 50)), (.int .i64 (.var 51)), (.bool (.var 52))], ivs .u8 53 32, ivs .i64 85 8, ivs .u8 93 32, [(.int .i64 (.var 125)), (.int .i64 (.var 126)), (.bool (.var 127))], ivs .u8 128 32, ivs .i64 160 6, [(.bool (.var 166))]])) .nil)))))
theorem moves0 : movesC.holds Try.prog moves0S := by
  refine con_of_run (cs := []) (S := []) (LT := []) (depth := 0) (fuel := 10) (nv := 200) (av := [.agg (playE 0), .int .i64 (.lit 0), .int .i64 (.var 167)]) (T := tree20a) trivial (by kernel_rfl) (by kernel_rfl) (by kernel_rfl) ?_
  rintro _ _ ⟨p, mv, rfl, rfl⟩
  refine ⟨noLoops, menv p mv, by kernel_rfl, ?_⟩
  repeat' first
    | (refine sem_split (fun h => ?_) (fun h => ?_) <;> simp only [C.den, T.den, intCmp, intBin, IntWalk.i64_left, me167, me9, me14, me160, me162, me163, me165, beq_iff_eq, beq_eq_false_iff_ne, ne_eq, decide_eq_true_eq, decide_eq_false_iff_not] at h)
  all_goals
    refine sem_ret rfl rfl ⟨⟨by kernel_rfl, play_len, by kernel_rfl, ?_⟩, trivial⟩
    rw [play_back]
    first
      | rw [mv0_lock p mv (by assumption) (by assumption)]
      | rw [mv0_claim p mv (by assumption) (by assumption) (by assumption)]
      | rw [mv0_refund p mv (by assumption) (by assumption) (by assumption) (by assumption)]
      | rw [mv0_none p mv (by omega) (by omega) (by omega)]
    kernel_rfl
section
variable (p : Py) (mv : Int)
theorem mv1_lock (h : mv = 1) (h' : p.l1.made = 0) : p.mv1 mv = { p with l1 := { p.l1 with made := IntKind.i64.wrap (p.now + 1) } } := by
  unfold Py.mv1 movesOf; rw [if_pos ⟨h, h'⟩, IntWalk.i64_left]
theorem mv1_claim (h : mv = 2) (h' : p.l0.made > 0) (h2 : p.l0.by_ = 0) : p.mv1 mv = { p with l0 := { p.l0 with spent := IntKind.i64.wrap (p.now + 1), by_ := 2 }, shown := true } := by
  unfold Py.mv1 movesOf; rw [if_neg (by omega), if_pos ⟨h, h', h2⟩, IntWalk.i64_left]; rfl
theorem mv1_refund (h : mv = 3) (h' : p.l1.made > 0) (h2 : p.l1.by_ = 0) (h3 : wrap64 (p.now + 1) ≥ p.s1.d.pz) : p.mv1 mv = { p with l1 := { p.l1 with spent := IntKind.i64.wrap (p.now + 1), by_ := 2 } } := by
  unfold Py.mv1 movesOf; rw [if_neg (by omega), if_neg (by omega), if_pos ⟨h, h', h2, h3⟩, IntWalk.i64_left]; rfl
theorem mv1_none (h1 : ¬ (mv = 1 ∧ p.l1.made = 0)) (h2 : ¬ (mv = 2 ∧ p.l0.made > 0 ∧ p.l0.by_ = 0)) (h3 : ¬ (mv = 3 ∧ p.l1.made > 0 ∧ p.l1.by_ = 0 ∧ wrap64 (p.now + 1) ≥ p.s1.d.pz)) : p.mv1 mv = p := by
  unfold Py.mv1 movesOf; rw [if_neg h1, if_neg h2, if_neg h3]
end
def tree20b : Tree :=
 (.split (.cmp .eql (.var 167) (.lit 1))
 (.split (.cmp .eql (.var 163) (.lit 0))
 (leafT (.tup ([])) (.node .nil (some (cats [ivs .i64 0 18, ivs .u8 18 32, [(.int .i64 (.var 50)), (.int .i64 (.var 51)), (.bool (.var 52))], ivs .u8 53 32, ivs .i64 85 8, ivs .u8 93 32, [(.int .i64 (.var 125)), (.int .i64 (.var 126)), (.bool (.var 127))], ivs .u8 128 32, [(.int .i64 (.var 160)), (.int .i64 (.var 161)), (.int .i64 (.var 162)), (.int .i64 (.bin .add .i64 (.var 9) (.lit 1))), (.int .i64 (.var 164)), (.int .i64 (.var 165)), (.bool (.var 166))]])) .nil))
 (leafT (.tup ([])) (.node .nil (some (cats [ivs .i64 0 18, ivs .u8 18 32, [(.int .i64 (.var 50)), (.int .i64 (.var 51)), (.bool (.var 52))], ivs .u8 53 32, ivs .i64 85 8, ivs .u8 93 32, [(.int .i64 (.var 125)), (.int .i64 (.var 126)), (.bool (.var 127))], ivs .u8 128 32, ivs .i64 160 6, [(.bool (.var 166))]])) .nil)))
 (.split (.cmp .eql (.var 167) (.lit 2))
 (.split (.cmp .gtr (.var 160) (.lit 0))
 (.split (.cmp .eql (.var 162) (.lit 0))
 (leafT (.tup ([])) (.node .nil (some (cats [ivs .i64 0 18, ivs .u8 18 32, [(.int .i64 (.var 50)), (.int .i64 (.var 51)), (.bool (.var 52))], ivs .u8 53 32, ivs .i64 85 8, ivs .u8 93 32, [(.int .i64 (.var 125)), (.int .i64 (.var 126)), (.bool (.var 127))], ivs .u8 128 32, [(.int .i64 (.var 160)), (.int .i64 (.bin .add .i64 (.var 9) (.lit 1))), (.int .i64 (.lit 2)), (.int .i64 (.var 163)), (.int .i64 (.var 164)), (.int .i64 (.var 165)), (.bool (.lit true))]])) .nil))
 (leafT (.tup ([])) (.node .nil (some (cats [ivs .i64 0 18, ivs .u8 18 32, [(.int .i64 (.var 50)), (.int .i64 (.var 51)), (.bool (.var 52))], ivs .u8 53 32, ivs .i64 85 8, ivs .u8 93 32, [(.int .i64 (.var 125)), (.int .i64 (.var 126)), (.bool (.var 127))], ivs .u8 128 32, ivs .i64 160 6, [(.bool (.var 166))]])) .nil)))
 (leafT (.tup ([])) (.node .nil (some (cats [ivs .i64 0 18, ivs .u8 18 32, [(.int .i64 (.var 50)), (.int .i64 (.var 51)), (.bool (.var 52))], ivs .u8 53 32, ivs .i64 85 8, ivs .u8 93 32, [(.int .i64 (.var 125)), (.int .i64 (.var 126)), (.bool (.var 127))], ivs .u8 128 32, ivs .i64 160 6, [(.bool (.var 166))]])) .nil)))
 (.split (.cmp .eql (.var 167) (.lit 3))
 (.split (.cmp .gtr (.var 163) (.lit 0))
 (.split (.cmp .eql (.var 165) (.lit 0))
 (.split (.cmp .geq (.bin .add .i64 (.var 9) (.lit 1)) (.var 89))
 (leafT (.tup ([])) (.node .nil (some (cats [ivs .i64 0 18, ivs .u8 18 32, [(.int .i64 (.var 50)), (.int .i64 (.var 51)), (.bool (.var 52))], ivs .u8 53 32, ivs .i64 85 8, ivs .u8 93 32, [(.int .i64 (.var 125)), (.int .i64 (.var 126)), (.bool (.var 127))], ivs .u8 128 32, ivs .i64 160 4, [(.int .i64 (.bin .add .i64 (.var 9) (.lit 1))), (.int .i64 (.lit 2)), (.bool (.var 166))]])) .nil))
 (leafT (.tup ([])) (.node .nil (some (cats [ivs .i64 0 18, ivs .u8 18 32, [(.int .i64 (.var 50)), (.int .i64 (.var 51)), (.bool (.var 52))], ivs .u8 53 32, ivs .i64 85 8, ivs .u8 93 32, [(.int .i64 (.var 125)), (.int .i64 (.var 126)), (.bool (.var 127))], ivs .u8 128 32, ivs .i64 160 6, [(.bool (.var 166))]])) .nil)))
 (leafT (.tup ([])) (.node .nil (some (cats [ivs .i64 0 18, ivs .u8 18 32, [(.int .i64 (.var 50)), (.int .i64 (.var 51)), (.bool (.var 52))], ivs .u8 53 32, ivs .i64 85 8, ivs .u8 93 32, [(.int .i64 (.var 125)), (.int .i64 (.var 126)), (.bool (.var 127))], ivs .u8 128 32, ivs .i64 160 6, [(.bool (.var 166))]])) .nil)))
 (leafT (.tup ([])) (.node .nil (some (cats [ivs .i64 0 18, ivs .u8 18 32, [(.int .i64 (.var 50)), (.int .i64 (.var 51)), (.bool (.var 52))], ivs .u8 53 32, ivs .i64 85 8, ivs .u8 93 32, [(.int .i64 (.var 125)), (.int .i64 (.var 126)), (.bool (.var 127))], ivs .u8 128 32, ivs .i64 160 6, [(.bool (.var 166))]])) .nil)))
 (leafT (.tup ([])) (.node .nil (some (cats [ivs .i64 0 18, ivs .u8 18 32, [(.int .i64 (.var 50)), (.int .i64 (.var 51)), (.bool (.var 52))], ivs .u8 53 32, ivs .i64 85 8, ivs .u8 93 32, [(.int .i64 (.var 125)), (.int .i64 (.var 126)), (.bool (.var 127))], ivs .u8 128 32, ivs .i64 160 6, [(.bool (.var 166))]])) .nil)))))
theorem moves1 : movesC.holds Try.prog moves1S := by
  refine con_of_run (cs := []) (S := []) (LT := []) (depth := 0) (fuel := 10) (nv := 200) (av := [.agg (playE 0), .int .i64 (.lit 1), .int .i64 (.var 167)]) (T := tree20b) trivial (by kernel_rfl) (by kernel_rfl) (by kernel_rfl) ?_
  rintro _ _ ⟨p, mv, rfl, rfl⟩
  refine ⟨noLoops, menv p mv, by kernel_rfl, ?_⟩
  repeat' first
    | (refine sem_split (fun h => ?_) (fun h => ?_) <;> simp only [C.den, T.den, intCmp, intBin, IntWalk.i64_left, me167, me9, me89, me160, me162, me163, me165, beq_iff_eq, beq_eq_false_iff_ne, ne_eq, decide_eq_true_eq, decide_eq_false_iff_not] at h)
  all_goals
    refine sem_ret rfl rfl ⟨⟨by kernel_rfl, play_len, by kernel_rfl, ?_⟩, trivial⟩
    rw [play_back]
    first
      | rw [mv1_lock p mv (by assumption) (by assumption)]
      | rw [mv1_claim p mv (by assumption) (by assumption) (by assumption)]
      | rw [mv1_refund p mv (by assumption) (by assumption) (by assumption) (by assumption)]
      | rw [mv1_none p mv (by omega) (by omega) (by omega)]
    kernel_rfl
def movesS : ConS := fun vs e => moves0S vs e ∨ moves1S vs e
theorem moves_holds : movesC.holds Try.prog movesS := holds_or moves0 moves1
end Go.Proofs.Ytmhbkiabndookaa
