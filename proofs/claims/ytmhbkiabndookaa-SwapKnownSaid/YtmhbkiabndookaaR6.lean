/- What is proved: the contract of SwapEnds (layer 23's statements): true, for every input. No condition. -/
import Derived.Test.YtmhbkiabndookaaR5
import Derived.Test.YtmhbkiabndookaaV8
import Derived.Test.YtmhbkiabndookaaR1
namespace Go.Proofs.Ytmhbkiabndookaa
open Go.RowKit Sx
set_option maxRecDepth 100000

def pickC : Con := mkCon 16 [] (.int .i64 (.var 0))
def pickS : ConS := fun vs e => ∃ v n : Int, 1 ≤ n ∧ n ≤ 4611686018427387904 ∧ vs = [.int .i64 v, .int .i64 n] ∧ e = Env.ofL [.int .i64 (v % n)]
theorem pick_holds : pickC.holds Try.prog pickS := con_of_ret (by rintro _ _ ⟨v, n, h1, h2, rfl, rfl⟩ w; exact Pick_any v n h1 h2 w) rfl
def longC : Con := mkCon 17 [] (.int .i64 (.var 0))
def longS : ConS := fun vs e => ∃ t : T, t.Ok ∧ vs = [.agg t.cells] ∧ e = Env.ofL [.int .i64 t.long]
theorem long_holds : longC.holds Try.prog longS := con_of_ret (by rintro _ _ ⟨t, ht, rfl, rfl⟩ w; exact Long_any t ht w) rfl
def legsC : Con := mkCon 32 [] (.agg (dealE 0))
def legsS : ConS := fun vs e => ∃ (t : T) (d : D) (a b c : Int), t.Ok ∧ vs = [.agg t.cells, .agg d.cells, .agg #[.int .i64 a, .int .i64 b, .int .i64 c]] ∧ e = Env.ofL (d.legs t a b c).cells.toList
theorem deal_back (d : D) : E.val (Env.ofL d.cells.toList) lay0 (.agg (dealE 0)) = .agg d.cells := by kernel_rfl
theorem legs_holds : legsC.holds Try.prog legsS := con_of_ret (by rintro _ _ ⟨t, d, a, b, c, ht, rfl, rfl⟩ w; rw [deal_back]; exact Legs_any d t ht a b c w) rfl
def overC : Con := mkCon 11 [] (.bool (.var 0))
def overS : ConS := fun vs e => ∃ s : S, vs = [.agg s.cells] ∧ e = Env.ofL [.bool (stB s.st)]
theorem over_holds : overC.holds Try.prog overS := con_of_ret (by rintro _ _ ⟨s, rfl, rfl⟩ w; exact Over_any s w) rfl
def worksC : Con := mkCon 8 [] (.bool (.lit true))
def worksS : ConS := fun vs _ => vs = []
theorem works_holds : worksC.holds Try.prog worksS := con_of_ret (by rintro _ _ rfl w; exact works_any w) rfl
def endsLT : List (Nat × LS) := [(8, ⟨[(11, fun b => .int .i64 (.var b))], [(70, fun b => playE (b + 1))], [(true, .cmp .eql (.var 36200) (.lit 0)), (false, .cmp .eql (.var 36200) (.lit 1))]⟩)]

section
variable (t : T) (st sl wh : Int)
def tmOf : Tm where
  t := ⟨0, 0, 0, 0, 0, 1 + t.depth % 6, t.delay % 7, t.lag % 7, 1 + t.fast % 4⟩
  n := 1 + st % 1000
  P := (1 + t.fast % 4) * (3 * (T.mk 0 0 0 0 0 (1 + t.depth % 6) (t.delay % 7) (t.lag % 7) (1 + t.fast % 4)).mar)
  d0 := by show 1 ≤ 1 + t.depth % 6; omega
  d1 := by show 1 + t.depth % 6 ≤ 6; omega
  y0 := by show 0 ≤ t.delay % 7; omega
  y1 := by show t.delay % 7 ≤ 6; omega
  g0 := by show 0 ≤ t.lag % 7; omega
  g1 := by show t.lag % 7 ≤ 6; omega
  v0 := by show 1 ≤ 1 + t.fast % 4; omega
  v1 := by show 1 + t.fast % 4 ≤ 4; omega
  n0 := by omega
  n1 := by omega
  hP := rfl
def rawT : T := ⟨0, 0, 0, 0, 0, IntKind.i64.wrap (1 + t.depth % 6), t.delay % 7, t.lag % 7, IntKind.i64.wrap (1 + t.fast % 4)⟩
theorem rawT_eq : rawT t = (tmOf t st).t := by
  have h1 : IntKind.i64.wrap (1 + t.depth % 6) = 1 + t.depth % 6 := by rw [IntWalk.i64_left, IntWalk.wrap64_in _ (by omega)]
  have h2 : IntKind.i64.wrap (1 + t.fast % 4) = 1 + t.fast % 4 := by rw [IntWalk.i64_left, IntWalk.wrap64_in _ (by omega)]
  unfold rawT
  rw [h1, h2]
  rfl
def lngI : Int := (tmOf t st).t.long + 4 * (tmOf t st).t.depth + 10
def rawL : Int := IntKind.i64.wrap (IntKind.i64.wrap ((tmOf t st).t.long + IntKind.i64.wrap (4 * IntKind.i64.wrap (1 + t.depth % 6))) + 10)
theorem lng_bd : 1 ≤ lngI t st ∧ lngI t st ≤ 1000 := by
  have b := (tmOf t st).bounds; have := (tmOf t st).d0; have := (tmOf t st).d1; have := (tmOf t st).y1; have := (tmOf t st).g1; have := (tmOf t st).y0; have := (tmOf t st).g0
  unfold lngI; omega
theorem rawL_eq : rawL t st = lngI t st := by
  have h := lng_bd t st
  have h1 : IntKind.i64.wrap (1 + t.depth % 6) = (tmOf t st).t.depth := by rw [IntWalk.i64_left, IntWalk.wrap64_in _ (by omega)]; rfl
  have := (tmOf t st).d0; have := (tmOf t st).d1
  unfold rawL
  rw [h1]
  unfold lngI at h ⊢
  simp only [IntWalk.i64_left]
  rw [IntWalk.wrap64_in (4 * _) (by omega), IntWalk.wrap64_in (_ + 4 * _) (by omega), IntWalk.wrap64_in _ (by omega)]
def begD : D := (D.mk 1 1 0 0 0 1 0 0 (fun _ => 0) 0).legs (rawT t) (IntKind.i64.wrap (1 + st % 1000)) (IntKind.i64.wrap (1 + st % 1000)) (IntKind.i64.wrap (1 + st % 1000))
theorem wn : IntKind.i64.wrap (1 + st % 1000) = 1 + st % 1000 := by rw [IntWalk.i64_left, IntWalk.wrap64_in _ (by omega)]
theorem begD_eq : begD t st = (tmOf t st).dA := by
  have b := (tmOf t st).bounds; have := (tmOf t st).d0; have := (tmOf t st).d1; have := (tmOf t st).y1; have := (tmOf t st).g1; have := (tmOf t st).y0; have := (tmOf t st).g0; have := (tmOf t st).n0; have := (tmOf t st).n1
  unfold begD
  rw [rawT_eq t st, wn]
  unfold D.legs
  rw [if_pos rfl]
  simp only
  rw [clk_all _ _ (.inl rfl), clk_all _ _ (.inr rfl)]
  have e1 : wrap64 ((tmOf t st).n + (tmOf t st).t.long) = (tmOf t st).n + (tmOf t st).t.long := IntWalk.wrap64_in _ (by omega)
  have e2 : wrap64 ((tmOf t st).n + 3 * (tmOf t st).t.mar) = (tmOf t st).n + 3 * (tmOf t st).t.mar := IntWalk.wrap64_in _ (by omega)
  have e1' : wrap64 (1 + st % 1000 + (tmOf t st).t.long) = _ := e1
  have e2' : wrap64 (1 + st % 1000 + 3 * (tmOf t st).t.mar) = _ := e2
  rw [e1', e2']
  rfl
def begP (d : D) : Py := ⟨rawT t, IntKind.i64.wrap (1 + st % 1000), ⟨d, 1, true, h9⟩, ⟨⟨1, 2, d.gx, d.gy, d.gz, d.px, d.py, d.pz, fun _ => 0, 0⟩, 1, false, fun _ => 0⟩, ⟨0, 0, 0⟩, ⟨0, 0, 0⟩, false⟩
theorem begP_eq : begP t st (begD t st) = (tmOf t st).begin := by
  rw [begD_eq]
  unfold begP
  rw [rawT_eq t st, wn]
  show _ = (⟨(tmOf t st).t, (tmOf t st).n + 0, _, _, _, _, _⟩ : Py)
  rw [Int.add_zero]
  rfl
theorem run_t (p : Py) (a0 a1 : Nat → Bool) : ∀ k, (p.run a0 a1 k).t = p.t
  | 0 => rfl
  | k + 1 => run_t p a0 a1 k
def inL : List Value := t.cells.toList ++ [.int .i64 st, .int .i64 sl, .int .i64 wh]
/-- What is known ahead of the loop. -/
def endE (lg : Int) (d : D) : Env :=
  (((((((((Env.ofL (inL t st sl wh)).from_ 4200 (Env.ofL [.int .i64 (t.depth % 6)])).from_ 8200 (Env.ofL [.int .i64 (t.delay % 7)])).from_ 11200 (Env.ofL [.int .i64 (t.lag % 7)])).from_ 14200 (Env.ofL [.int .i64 (t.fast % 4)])).from_ 19200 (Env.ofL [.int .i64 (st % 1000)])).from_ 23200 (Env.ofL [.int .i64 lg])).from_ 33200 (Env.ofL [.int .i64 (sl % (2 * lngI t st))])).from_ 36200 (Env.ofL [.int .i64 (wh % 2)])).from_ 50200 (Env.ofL d.cells.toList)
end
end Go.Proofs.Ytmhbkiabndookaa
