/- What is proved: parts of the walk and of the plain law, 3 texts in one. No condition but those each law names. -/
import Derived.Test.YtohpcfhgbgfblaaGreatDoorS44
import Derived.Test.YtohpcfhgbgfblaaGreatDoorS47
namespace Go.Proofs.YtohpcfhgbgfblaaGreatDoor
open Go.RowKit
open Sx (Ab DW Turns Did Foot)
set_option maxRecDepth 100000
theorem Open_long {t : Tm} (hk : TmK t) {ao : Option Addr} {n c : Nat} (hn : ((n : Int) > 64) = True) (dv : Value) (w : World) : Calls Tryz.prog 5 #[.agg t.cells, .slice ao n c, dv] w fun e w' => e = .returned (.tuple #[.pointer none, .int .i64 5]) ∧ Below w.heap.size w w' := by
  have HK := Lib.hid hk
  clear hk
  go_enter Tryz.func5, Tryz.ntmps5
  go_upto_region 1 with (fail)
  have bx := Bx.new w (t.cells) 31; generalize w.alloc (.cells (t.cells) 31) = W at bx ⊢; have rx := bx.rowOf; have sx := bx.soft; have BX := Lib.hid bx; clear bx
  have Q := QCheck_any t W
  rw [HK.out.chk] at Q
  have Q := Lib.hid Q
  go_wp2_with fail
  refine (Q.out).mono ?_; rintro _ W2 ⟨rfl, hb⟩; have bx := BX.out.step hb; clear BX rx sx hb; have rx := bx.rowOf; have sx := bx.soft; have BX := Lib.hid bx; clear bx
  go_wp2
  refine bodyPost_ret (results_tmp2 rfl _ _ _) rfl ?_
  exact ⟨rfl, BX.out.below⟩
theorem Open_terms {t : Tm} {k : Int} (hk : chkT t = k) (k0 : (k == 0) = false) (sv dv : Value) (w : World) : Calls Tryz.prog 5 #[.agg t.cells, sv, dv] w fun e w' => e = .returned (.tuple #[.pointer none, .int .i64 k]) ∧ Below w.heap.size w w' := by
  have HK := Lib.hid hk
  clear hk
  go_enter Tryz.func5, Tryz.ntmps5
  go_upto_region 1 with (fail)
  have bx := Bx.new w (t.cells) 31; generalize w.alloc (.cells (t.cells) 31) = W at bx ⊢; have rx := bx.rowOf; have sx := bx.soft; have BX := Lib.hid bx; clear bx
  have Q := QCheck_any t W
  rw [HK.out] at Q
  have Q := Lib.hid Q
  go_wp2_with fail
  refine (Q.out).mono ?_; rintro _ W2 ⟨rfl, hb⟩; have bx := BX.out.step hb; clear BX rx sx hb; have rx := bx.rowOf; have sx := bx.soft; have BX := Lib.hid bx; clear bx
  go_wp2
  refine bodyPost_ret (results_tmp2 rfl _ _ _) rfl ?_
  exact ⟨rfl, BX.out.below⟩
def sevenH : Hs := ⟨7 :: List.replicate 31 0, rfl⟩
def says26 : Msg := ⟨1, 5, 0, ⟨1, 216, 270⟩, ⟨0, 200, 130⟩, sevenH⟩
def poor26 : Msg := ⟨1, 5, 0, ⟨1, 215, 270⟩, ⟨0, 200, 130⟩, sevenH⟩
def late26 : Msg := ⟨1, 5, 0, ⟨1, 216, 269⟩, ⟨0, 200, 130⟩, sevenH⟩
def acc26 : Msg := ⟨2, 5, 0, ⟨1, 216, 270⟩, ⟨0, 200, 130⟩, Hs.zero⟩
def now26 : Cl := ⟨100, 200, 0⟩
/-- The letters, in their order. -/
def let26 : Nat → Msg
  | 0 => poor26
  | 1 => late26
  | 2 => acc26
  | _ => says26
/-- What the answers tell. -/
def want26 : Nat → Int
  | 0 => 22
  | 1 => 23
  | 2 => 2
  | 3 => 0
  | _ => 13
theorem small_zeros (n : Nat) : Small (List.replicate n 0) := fun x hx => by rw [List.eq_of_mem_replicate hx]; decide
theorem small_seven : Small sevenH.l := fun x hx => by
  rcases List.mem_cons.1 hx with rfl | h
  · decide
  · exact small_zeros 31 x h
theorem small_let (j : Nat) : Small (let26 j).h.l := by
  match j with
  | 0 => exact small_seven
  | 1 => exact small_seven
  | 2 => exact small_zeros 32
  | j + 3 => exact small_seven
theorem says_ok : (says26.k = 1 ∨ says26.k = 2) ∧ idE says26.i (propE says26) = 0 ∧ I64 says26.i ∧ LgI says26.p ∧ LgI says26.g := ⟨.inl rfl, by decide, ⟨by decide, by decide⟩, ⟨⟨by decide, by decide⟩, ⟨by decide, by decide⟩, ⟨by decide, by decide⟩⟩, ⟨⟨by decide, by decide⟩, ⟨by decide, by decide⟩, ⟨by decide, by decide⟩⟩⟩
theorem let_ok (j : Nat) : ((let26 j).k = 1 ∨ (let26 j).k = 2) ∧ idE (let26 j).i (propE (let26 j)) = 0 ∧ I64 (let26 j).i ∧ LgI (let26 j).p ∧ LgI (let26 j).g := by
  match j with
  | 0 => exact ⟨.inl rfl, by decide, ⟨by decide, by decide⟩, ⟨⟨by decide, by decide⟩, ⟨by decide, by decide⟩, ⟨by decide, by decide⟩⟩, ⟨⟨by decide, by decide⟩, ⟨by decide, by decide⟩, ⟨by decide, by decide⟩⟩⟩
  | 1 => exact ⟨.inl rfl, by decide, ⟨by decide, by decide⟩, ⟨⟨by decide, by decide⟩, ⟨by decide, by decide⟩, ⟨by decide, by decide⟩⟩, ⟨⟨by decide, by decide⟩, ⟨by decide, by decide⟩, ⟨by decide, by decide⟩⟩⟩
  | 2 => exact ⟨.inr rfl, by decide, ⟨by decide, by decide⟩, ⟨⟨by decide, by decide⟩, ⟨by decide, by decide⟩, ⟨by decide, by decide⟩⟩, ⟨⟨by decide, by decide⟩, ⟨by decide, by decide⟩, ⟨by decide, by decide⟩⟩⟩
  | j + 3 => exact says_ok
theorem let_rs (j : Nat) : Rs (putLM (let26 j), 0) := ⟨small_putLM (small_let j), by have := putLM_len (let26 j); show (putLM (let26 j)).length < 1000000; omega⟩
theorem let_get (j : Nat) : mgetM (putLM (let26 j)) = (0, let26 j) := mget_legs (let_ok j).1 (let_ok j).2.1
theorem code_rs (i c : Int) : Rs (putC i c, 0) := ⟨small_putC i c, by have := putC_len i c; show (putC i c).length < 1000000; omega⟩
/-- The deal that is taken, and its swap. -/
def d26 : Dl := heardD says26 2
def sw26 : Sw := ⟨d26, 1, false, Hs.zero⟩
theorem d26_ok : dealOk d26 = true := by decide
theorem takes_poor : takesE T26 (heardD poor26 2) now26 200 = 22 := by kernel_rfl
theorem takes_late26 : takesE T26 (heardD late26 2) now26 200 = 23 := by kernel_rfl
theorem takes_less26 : takesE T26 (heardD says26 2) now26 199 = 22 := by kernel_rfl
theorem quote_26 : quoteV T26 d26.p.a 200 = (216, 0) := by kernel_rfl
theorem safe_26 : safeE T26 d26 now26 = 0 := by kernel_rfl
theorem get_one : (mgetM [1]).1 = 4 := by kernel_rfl
theorem chk_bad : chkT { T26 with fast := 0 } = 1 := by kernel_rfl
/-- The daemon of DaemonKnown, when so many letters were heard. -/
structure St26 (j : Nat) (w : World) (D : Dm) : Prop where
  t : D.t = T26
  s : D.seed = seedL
  l : (j ≤ 3 ∧ Lies w D (· = []) []) ∨ (4 ≤ j ∧ Lies w D (With [] 5 sw26) [(1, putD d26)])
theorem St26.dae {j : Nat} {w : World} {D : Dm} (h : St26 j w D) : Dae w D := by
  rcases h.l with ⟨_, h⟩ | ⟨_, h⟩ <;> exact h.dae
theorem St26.low {j : Nat} {w w' : World} {D : Dm} (h : St26 j w D) (hb : Below w.heap.size w w') : St26 j w' D := by
  refine ⟨h.t, h.s, ?_⟩
  rcases h.l with ⟨q, h⟩ | ⟨q, h⟩
  · exact .inl ⟨q, h.low hb⟩
  · exact .inr ⟨q, h.low hb⟩
theorem St26.tmk {j : Nat} {w : World} {D : Dm} (h : St26 j w D) : TmK D.t := by rw [h.t]; exact T26_ok
theorem St26.at5 {j : Nat} {w : World} {D : Dm} (h : St26 j w D) (hj : 4 ≤ j) : ∃ q : En, getA D.M 5 = some q ∧ q.s = sw26 ∧ getA D.M 6 = none := by
  rcases h.l with ⟨q, _⟩ | ⟨_, h⟩
  · omega
  · obtain ⟨b, m, hM⟩ := h.book
    exact ⟨⟨b, m, sw26⟩, by rw [hM]; rfl, rfl, by rw [hM]; rfl⟩
/-- What a letter's answer is. -/
def Ans26 (j : Nat) (w : World) (D : Dm) : Ending → World → Prop := fun e w' => ∃ a c' L m', e = .returned (.slice a L.length c') ∧ Sl w' a L.length c' (bts L) ∧ Rs (L, 0) ∧ mgetM L = (0, m') ∧ m'.c = want26 j ∧ m'.i = 5 ∧ ∃ D', St26 (j + 1) w' D' ∧ Trans w D w' D'
section
variable {w : World} {D : Dm} {ao : Option Addr} {k c : Nat}
theorem ans_code {j : Nat} {x : Int} (hS : ∀ w', Below w.heap.size w w' → St26 (j + 1) w' D) (hx : want26 j = x) (h24 : 1 ≤ x ∧ x ≤ 24) {e : Ending} {w' : World} (h : RetB (putC 5 x) w e w') : Ans26 j w D e w' := by
  obtain ⟨a, c', rfl, hb, hs⟩ := h
  have hn : idE 5 (refE x) = 0 := by
    unfold idE refE
    rw [if_neg (by omega), if_neg (by omega)]
  exact ⟨a, c', _, _, rfl, hs, code_rs 5 x, mget_code hn, hx.symm, rfl, D, hS w' hb, Trans.below hb⟩
theorem hears5 {j : Nat} (hj : j < 5) (hS : St26 j w D) (hB : Base w D) (hs : Sl w ao k c (bts (putLM (let26 j)))) :
    Calls Tryz.prog 10 #[.pointer (some ⟨D.xb, 0, none⟩), .int .i64 2, .slice ao k c, .agg now26.cells, .int .i64 200] w (Ans26 j w D) := by
  have early : ∀ i, j = i → i < 3 → ∀ w', Below w.heap.size w w' → St26 (i + 1) w' D := fun i e hi w' hb => by
    have h := hS.low hb
    rcases h.l with ⟨_, hl⟩ | ⟨q, _⟩
    · exact ⟨h.t, h.s, .inl ⟨by omega, hl⟩⟩
    · omega
  match j, hj with
  | 0, _ => exact (hear_no hS.dae hB.forms hs (let_rs 0) (let_get 0) rfl ⟨by decide, by decide⟩ (e := 22) ⟨by decide, by decide⟩ fun W hW => takes_no hW hS.tmk (by rw [hS.t]; exact takes_poor) (by decide)).mono fun e w' h => ans_code (early 0 rfl (by decide)) rfl ⟨by decide, by decide⟩ h
  | 1, _ => exact (hear_no hS.dae hB.forms hs (let_rs 1) (let_get 1) rfl ⟨by decide, by decide⟩ (e := 23) ⟨by decide, by decide⟩ fun W hW => takes_no hW hS.tmk (by rw [hS.t]; exact takes_late26) (by decide)).mono fun e w' h => ans_code (early 1 rfl (by decide)) rfl ⟨by decide, by decide⟩ h
  | 2, _ => exact (hear_kind hS.dae hB.forms hs (let_rs 2) (let_get 2) rfl ⟨by decide, by decide⟩).mono fun e w' h => ans_code (early 2 rfl (by decide)) rfl ⟨by decide, by decide⟩ h
  | 3, _ =>
    rcases hS.l with ⟨_, hl⟩ | ⟨q, _⟩
    · refine (hear_ok (P' := With [] 5 sw26) (R' := [(1, putD d26)]) hl hB hs (let_rs 3) (let_get 3) rfl (accept_ok d26_ok).1 ⟨(let_ok 3).2.2.1, (let_ok 3).2.2.2.2, (let_ok 3).2.2.2.1⟩ fun W hW hBW => ?_).mono ?_
      · exact takes_ok (v := 216) (Lib.hid hW) (Lib.hid hBW) (Lib.hid hS.tmk) (Lib.hid (by decide)) (Lib.hid small_seven) (Lib.hid d26_ok) (Lib.hid (by rw [hS.t]; exact quote_26)) (eq_false (by decide)) (Lib.hid (by rw [hS.t]; exact safe_26))
      · rintro e w' ⟨a, c', rfl, hsl, D', h1, h2⟩
        have hg := mget_legs (m := acceptM d26) (.inr rfl) (accept_ok d26_ok).1
        exact ⟨a, c', _, _, rfl, hsl, ⟨small_putLM small_seven, by have := putLM_len (acceptM (heardD (let26 3) 2)); show (putLM (acceptM (heardD (let26 3) 2))).length < 1000000; omega⟩, hg, rfl, rfl, D', ⟨h2.t.trans hS.t, h2.seed.trans hS.s, .inr ⟨by decide, h1⟩⟩, h2⟩
    · omega
  | 4, _ =>
    obtain ⟨q, hq, hqs, _⟩ := hS.at5 (by decide)
    refine (hear_no hS.dae hB.forms hs (let_rs 4) (let_get 4) rfl ⟨by decide, by decide⟩ (e := 13) ⟨by decide, by decide⟩ fun W hW => ?_).mono fun e w' h => ans_code (fun w' hb => ?_) rfl ⟨by decide, by decide⟩ h
    · exact takes_twice (v := 216) hW (Lib.hid hS.tmk) (errD_ok d26_ok) (Lib.hid (by rw [hS.t]; exact quote_26)) (eq_false (by decide)) (Lib.hid (by rw [hS.t]; exact safe_26)) (Lib.hid hq)
    · have h := hS.low hb
      rcases h.l with ⟨q, _⟩ | ⟨_, hl⟩
      · omega
      · exact ⟨h.t, h.s, .inr ⟨by decide, hl⟩⟩
end
end Go.Proofs.YtohpcfhgbgfblaaGreatDoor

namespace Go.Proofs.YtohpcfhgbgfblaaGreatDoor
open Go.RowKit
open Sx (Ab DW Turns Did Foot)
set_option maxRecDepth 100000
def clO (v : Value) : Cl := ⟨iAt v 0, iAt v 1, iAt v 2⟩
theorem clO_mk (n : Cl) : clO (.agg n.cells) = n := rfl
theorem tvK_lk (k : Int) : (tvK k).lk = k := rfl
def mO (v : Value) : Msg := ⟨iAt v 0, iAt v 1, iAt v 2, ⟨iAt v 3, iAt v 4, iAt v 5⟩, ⟨iAt v 6, iAt v 7, iAt v 8⟩, hOf (.agg (sub (agc v) 9 32))⟩
theorem mO_mk (m : Msg) : mO (.agg m.cells) = m := by
  have e2 : sub (agc (.agg m.cells)) 9 32 = m.h.cells := m_h m
  unfold mO
  rw [e2, hOf_mk]
  rfl
def mL (m : Msg) : List Value := m.head ++ bts m.h.l
/-- Five letters in a row. -/
def m5 (a b c d e : Msg) : Array Value := (mL a ++ (mL b ++ (mL c ++ (mL d ++ mL e)))).toArray
theorem mL_len (m : Msg) : (mL m).length = 41 := by simp [mL, Msg.head, m.h.len]
section
variable (w : World) (a b c d e : Msg) (n : Cl) (k : Int) (h : Hs) (p g : Lg)
theorem m5_size : (m5 a b c d e).size = 205 := by simp [m5, mL_len]
theorem bh7 : (Instr.build 39 #[(0, .int .u8 7)]).run Tryz.prog w = .ok (.agg sevenH.cells) w := by kernel_rfl
theorem bh9 : (Instr.build 39 #[(0, .int .u8 9)]).run Tryz.prog w = .ok (.agg nineH.cells) w := by kernel_rfl
theorem bm4 (i j : Int) : (Instr.build 41 #[(0, .int .i64 i), (1, .int .i64 j), (3, .agg p.cells), (4, .agg g.cells)]).run Tryz.prog w = .ok (.agg (Msg.cells ⟨i, j, 0, p, g, Hs.zero⟩)) w := by kernel_rfl
theorem bfc0 : (Instr.build 71 #[]).run Tryz.prog w = .ok (.agg (Fc.cells ⟨⟨0, 0, 0⟩, 0, 0, 0, 0, 0, false, Hs.zero⟩)) w := by kernel_rfl
theorem bfc2 : (Instr.build 71 #[(0, .agg n.cells), (2, .int .i64 k)]).run Tryz.prog w = .ok (.agg (Fc.cells ⟨n, 0, k, 0, 0, 0, false, Hs.zero⟩)) w := by kernel_rfl
theorem bfc4 : (Instr.build 71 #[(0, .agg n.cells), (2, .int .i64 k), (6, .bool true), (7, .agg h.cells)]).run Tryz.prog w = .ok (.agg (Fc.cells ⟨n, 0, k, 0, 0, 0, true, h⟩)) w := by obtain ⟨f, rfl⟩ := h.form; kernel_rfl
theorem brd0 : (Instr.build 72 #[]).run Tryz.prog w = .ok (.agg (rdC 0)) w := by kernel_rfl
theorem brd1 : (Instr.build 72 #[(1, .agg (tvK k).cells)]).run Tryz.prog w = .ok (.agg (rdC k)) w := by kernel_rfl
theorem bm5s : (Instr.buildSlice 61 5 #[(0, .agg a.cells), (1, .agg b.cells), (2, .agg c.cells), (3, .agg d.cells), (4, .agg e.cells)]).run Tryz.prog w = .ok (.slice (some ⟨w.heap.size, 0, none⟩) 5 5) (w.alloc (.cells (m5 a b c d e) 41)) := by
  obtain ⟨ak, ai, ac, ap, ag, ah⟩ := a
  obtain ⟨bk, bi, bc, bp, bg, bh⟩ := b
  obtain ⟨ck, ci, cc, cp, cg, ch⟩ := c
  obtain ⟨dk, di, dc, dp, dg, dh⟩ := d
  obtain ⟨ek, ei, ec, ep, eg, eh⟩ := e
  obtain ⟨f1, rfl⟩ := ah.form
  obtain ⟨f2, rfl⟩ := bh.form
  obtain ⟨f3, rfl⟩ := ch.form
  obtain ⟨f4, rfl⟩ := dh.form
  obtain ⟨f5, rfl⟩ := eh.form
  kernel_rfl
end
section
variable (w : World) (A : Act) (dst : Option Tmp) (ty : TypeId) (pos : String) (af : Array Edge) (gd : Option (Nat × Bool))
theorem xbh7 : (execOp A.eval ⟨dst, .build 39 #[(0, .const (.int .u8 7))], ty, pos, af, gd⟩).run Tryz.prog w = .ok (.value (.agg sevenH.cells)) w := by
  have h : (Instr.build 39 #[(0, A.eval (.const (.int .u8 7)))]).run Tryz.prog w = _ := bh7 w
  unfold execOp
  simp only [Sem.run_bind, Sem.run_pure, List.map_toArray, List.map_cons, List.map_nil, h, Result.andThen_ok]
theorem xbh9 : (execOp A.eval ⟨dst, .build 39 #[(0, .const (.int .u8 9))], ty, pos, af, gd⟩).run Tryz.prog w = .ok (.value (.agg nineH.cells)) w := by
  have h : (Instr.build 39 #[(0, A.eval (.const (.int .u8 9)))]).run Tryz.prog w = _ := bh9 w
  unfold execOp
  simp only [Sem.run_bind, Sem.run_pure, List.map_toArray, List.map_cons, List.map_nil, h, Result.andThen_ok]
theorem xbm4 (i j : Int) (x y : Operand) (hx : A.eval x = .agg (lOf (A.eval x)).cells) (hy : A.eval y = .agg (lOf (A.eval y)).cells) :
    (execOp A.eval ⟨dst, .build 41 #[(0, .const (.int .i64 i)), (1, .const (.int .i64 j)), (3, x), (4, y)], ty, pos, af, gd⟩).run Tryz.prog w = .ok (.value (.agg (Msg.cells ⟨i, j, 0, lOf (A.eval x), lOf (A.eval y), Hs.zero⟩))) w := by
  have h : (Instr.build 41 #[(0, A.eval (.const (.int .i64 i))), (1, A.eval (.const (.int .i64 j))), (3, .agg (lOf (A.eval x)).cells), (4, .agg (lOf (A.eval y)).cells)]).run Tryz.prog w = _ := bm4 w _ _ i j
  rw [← hx, ← hy] at h
  unfold execOp
  simp only [Sem.run_bind, Sem.run_pure, List.map_toArray, List.map_cons, List.map_nil, h, Result.andThen_ok]
theorem xfc0 : (execOp A.eval ⟨dst, .build 71 #[], ty, pos, af, gd⟩).run Tryz.prog w = .ok (.value (.agg (Fc.cells ⟨⟨0, 0, 0⟩, 0, 0, 0, 0, 0, false, Hs.zero⟩))) w := by
  have h := bfc0 w
  unfold execOp
  simp only [Sem.run_bind, Sem.run_pure, List.map_toArray, List.map_cons, List.map_nil, h, Result.andThen_ok]
theorem xfc2 (k : Int) (x : Operand) (hx : A.eval x = .agg (clO (A.eval x)).cells) : (execOp A.eval ⟨dst, .build 71 #[(0, x), (2, .const (.int .i64 k))], ty, pos, af, gd⟩).run Tryz.prog w = .ok (.value (.agg (Fc.cells ⟨clO (A.eval x), 0, k, 0, 0, 0, false, Hs.zero⟩))) w := by
  have h : (Instr.build 71 #[(0, .agg (clO (A.eval x)).cells), (2, A.eval (.const (.int .i64 k)))]).run Tryz.prog w = _ := bfc2 w _ k
  rw [← hx] at h
  unfold execOp
  simp only [Sem.run_bind, Sem.run_pure, List.map_toArray, List.map_cons, List.map_nil, h, Result.andThen_ok]
theorem xfc4 (k : Int) (x y : Operand) (hx : A.eval x = .agg (clO (A.eval x)).cells) (hy : A.eval y = .agg (hOf (A.eval y)).cells) : (execOp A.eval ⟨dst, .build 71 #[(0, x), (2, .const (.int .i64 k)), (6, .const (.bool true)), (7, y)], ty, pos, af, gd⟩).run Tryz.prog w = .ok (.value (.agg (Fc.cells ⟨clO (A.eval x), 0, k, 0, 0, 0, true, hOf (A.eval y)⟩))) w := by
  have h : (Instr.build 71 #[(0, .agg (clO (A.eval x)).cells), (2, A.eval (.const (.int .i64 k))), (6, A.eval (.const (.bool true))), (7, .agg (hOf (A.eval y)).cells)]).run Tryz.prog w = _ := bfc4 w _ k _
  rw [← hx, ← hy] at h
  unfold execOp
  simp only [Sem.run_bind, Sem.run_pure, List.map_toArray, List.map_cons, List.map_nil, h, Result.andThen_ok]
theorem xrd0 : (execOp A.eval ⟨dst, .build 72 #[], ty, pos, af, gd⟩).run Tryz.prog w = .ok (.value (.agg (rdC 0))) w := by
  have h := brd0 w
  unfold execOp
  simp only [Sem.run_bind, Sem.run_pure, List.map_toArray, List.map_cons, List.map_nil, h, Result.andThen_ok]
theorem xrd1 (x : Operand) (hx : A.eval x = .agg (tvK (tvO (A.eval x)).lk).cells) : (execOp A.eval ⟨dst, .build 72 #[(1, x)], ty, pos, af, gd⟩).run Tryz.prog w = .ok (.value (.agg (rdC (tvO (A.eval x)).lk))) w := by
  have h := brd1 w (tvO (A.eval x)).lk
  rw [← hx] at h
  unfold execOp
  simp only [Sem.run_bind, Sem.run_pure, List.map_toArray, List.map_cons, List.map_nil, h, Result.andThen_ok]
theorem xm5 (x y z u v : Operand) (hx : A.eval x = .agg (mO (A.eval x)).cells) (hy : A.eval y = .agg (mO (A.eval y)).cells) (hz : A.eval z = .agg (mO (A.eval z)).cells) (hu : A.eval u = .agg (mO (A.eval u)).cells) (hv : A.eval v = .agg (mO (A.eval v)).cells) :
    (execOp A.eval ⟨dst, .buildSlice 61 5 #[(0, x), (1, y), (2, z), (3, u), (4, v)], ty, pos, af, gd⟩).run Tryz.prog w = .ok (.value (.slice (some ⟨w.heap.size, 0, none⟩) 5 5)) (w.alloc (.cells (m5 (mO (A.eval x)) (mO (A.eval y)) (mO (A.eval z)) (mO (A.eval u)) (mO (A.eval v))) 41)) := by
  have h := bm5s w (mO (A.eval x)) (mO (A.eval y)) (mO (A.eval z)) (mO (A.eval u)) (mO (A.eval v))
  rw [← hx, ← hy, ← hz, ← hu, ← hv] at h
  unfold execOp
  simp only [Sem.run_bind, Sem.run_pure, List.map_toArray, List.map_cons, List.map_nil, h, Result.andThen_ok]
end
/-- The letter at a place. -/
def five (a b c d e : Msg) : Nat → Msg
  | 0 => a
  | 1 => b
  | 2 => c
  | 3 => d
  | _ => e
theorem m5_at (a b c d e : Msg) (j : Nat) (hj : j < 5) : sub (m5 a b c d e) (j * 41) 41 = (five a b c d e j).cells := by
  match j, hj with
  | 0, _ => exact sub_at [] (mL a) (mL b ++ (mL c ++ (mL d ++ mL e))) rfl (mL_len a) (by simp [m5])
  | 1, _ => exact sub_at (mL a) (mL b) (mL c ++ (mL d ++ mL e)) (by simp [mL_len]) (mL_len b) (by simp [m5])
  | 2, _ => exact sub_at (mL a ++ mL b) (mL c) (mL d ++ mL e) (by simp [mL_len]) (mL_len c) (by simp [m5])
  | 3, _ => exact sub_at (mL a ++ (mL b ++ mL c)) (mL d) (mL e) (by simp [mL_len]) (mL_len d) (by simp [m5])
  | 4, _ => exact sub_at (mL a ++ (mL b ++ (mL c ++ mL d))) (mL e) [] (by simp [mL_len]) (mL_len e) (by simp [m5])
theorem five26 (j : Nat) (hj : j < 5) : five poor26 late26 acc26 says26 says26 j = let26 j := by
  match j, hj with
  | 0, _ => rfl
  | 1, _ => rfl
  | 2, _ => rfl
  | 3, _ => rfl
  | 4, _ => rfl
/-- Blocks that last. -/
structure Kept (w : World) (D : Dm) (L : List (Nat × Array Value × TypeId)) : Prop where
  row : ∀ x ∈ L, w.heap[x.1]? = some (.cells x.2.1 x.2.2)
  out : ∀ x ∈ L, ¬ D.all x.1
theorem Kept.trans {w w' : World} {D D' : Dm} {L : List (Nat × Array Value × TypeId)} (h : Kept w D L) (t : Trans w D w' D') : Kept w' D' L :=
  ⟨fun x hx => (t.keep _ (Array.getElem?_eq_some_iff.1 (h.row x hx)).1 (h.out x hx)).1.trans (h.row x hx), fun x hx => (t.keep _ (Array.getElem?_eq_some_iff.1 (h.row x hx)).1 (h.out x hx)).2⟩
/-- What DaemonKnown holds. -/
structure KS (w0 V : World) (D : Dm) (j : Nat) (L : List (Nat × Array Value × TypeId)) : Prop where
  mine : Mine w0 V D
  st : St26 j V D
  kp : Kept V D L
section
variable {w0 V V' : World} {D D' : Dm} {j j' : Nat} {L : List (Nat × Array Value × TypeId)}
theorem KS.trans (h : KS w0 V D j L) (t : Trans V D V' D') (s : St26 j' V' D') : KS w0 V' D' j' L := ⟨h.mine.trans t, s, h.kp.trans t⟩
theorem KS.low (h : KS w0 V D j L) (hb : Below V.heap.size V V') : KS w0 V' D j L := h.trans (Trans.below hb) (h.st.low hb)
theorem KS.box (h : KS w0 V D j L) {C : Array Value} {t : TypeId} (b : Bx V C t V') : KS w0 V' D j ((V.heap.size, C, t) :: L) := by
  have h' := h.low b.below
  refine ⟨h'.mine, h'.st, ⟨fun x hx => ?_, fun x hx => ?_⟩⟩
  · rcases List.mem_cons.1 hx with rfl | hx
    · exact b.row
    · exact h'.kp.row x hx
  · rcases List.mem_cons.1 hx with rfl | hx
    · exact fun q => absurd (h.st.dae.all_lt q) (Nat.lt_irrefl _)
    · exact h'.kp.out x hx
theorem KS.row (h : KS w0 V D j L) (i : Nat) {x : Nat × Array Value × TypeId} (hi : L[i]? = some x) : rowOf V x.1 = x.2.1 := rowOf_of (h.kp.row x (List.mem_of_getElem? hi))
theorem KS.lt (h : KS w0 V D j L) (i : Nat) {x : Nat × Array Value × TypeId} (hi : L[i]? = some x) : x.1 < V.heap.size := (Array.getElem?_eq_some_iff.1 (h.kp.row x (List.mem_of_getElem? hi))).1
theorem KS.base (h : KS w0 V D j L) (hf : Forms w0) (ht : Tabs w0) : Base V D := h.mine.base hf ht
theorem KS.seed (h : KS w0 V D j L) : D.seed.length ≤ 64 := by rw [h.st.s]; decide
end
theorem kA (h : Hs) : errD (legsV T26 ⟨1, 1, ⟨0, 99, 0⟩, ⟨1, 100, 0⟩, h, 2⟩ now26) = 0 := by kernel_rfl
theorem kB (h : Hs) : errD (legsV T26 ⟨1, 1, ⟨0, 99, 0⟩, ⟨1, 100, 0⟩, h, 33⟩ now26) = 1 := by kernel_rfl
theorem kC (h : Hs) : errD (legsV T26 ⟨1, 1, ⟨0, 200, 0⟩, ⟨0, 100, 0⟩, h, 2⟩ now26) = 1 := by kernel_rfl
section
variable {w0 V : World} {D : Dm} {j : Nat} {L : List (Nat × Array Value × TypeId)}
theorem propA (h : KS w0 V D j L) (hf : Forms w0) (ht : Tabs w0) : Calls Tryz.prog 17 #[.pointer (some ⟨D.xb, 0, none⟩), .int .i64 1, .int .i64 2, .agg (Lg.cells ⟨0, 99, 0⟩), .agg (Lg.cells ⟨1, 100, 0⟩), .agg now26.cells] V fun e w' => e = .returned (.tuple #[.agg Msg.zero.cells, .int .i64 22]) ∧ Below V.heap.size V w' :=
  propose_low h.st.dae (h.base hf ht) h.st.tmk h.seed ⟨by decide, by decide⟩ (by unfold proposeD; rw [h.st.t]; exact kA _) (by rw [h.st.t]; exact eq_true (by decide))
theorem propB (h : KS w0 V D j L) (hf : Forms w0) (ht : Tabs w0) : Calls Tryz.prog 17 #[.pointer (some ⟨D.xb, 0, none⟩), .int .i64 1, .int .i64 33, .agg (Lg.cells ⟨0, 99, 0⟩), .agg (Lg.cells ⟨1, 100, 0⟩), .agg now26.cells] V fun e w' => e = .returned (.tuple #[.agg Msg.zero.cells, .int .i64 1]) ∧ Below V.heap.size V w' :=
  propose_bad h.st.dae (h.base hf ht) h.st.tmk h.seed ⟨by decide, by decide⟩ (by unfold proposeD; rw [h.st.t]; exact kB _) rfl
theorem propC (h : KS w0 V D j L) (hf : Forms w0) (ht : Tabs w0) : Calls Tryz.prog 17 #[.pointer (some ⟨D.xb, 0, none⟩), .int .i64 1, .int .i64 2, .agg (Lg.cells ⟨0, 200, 0⟩), .agg (Lg.cells ⟨0, 100, 0⟩), .agg now26.cells] V fun e w' => e = .returned (.tuple #[.agg Msg.zero.cells, .int .i64 1]) ∧ Below V.heap.size V w' :=
  propose_bad h.st.dae (h.base hf ht) h.st.tmk h.seed ⟨by decide, by decide⟩ (by unfold proposeD; rw [h.st.t]; exact kC _) rfl
end
end Go.Proofs.YtohpcfhgbgfblaaGreatDoor

namespace Go.Proofs.YtohpcfhgbgfblaaGreatDoor
open Go.RowKit
open Sx (Ab DW Turns Did Foot)
set_option maxRecDepth 100000
section
variable {w0 V : World} {D : Dm} {L : List (Nat × Array Value × TypeId)} {ao : Option Addr} {k c : Nat}
theorem one_new (V : World) : Sl (V.alloc (.cells #[.int .u8 1] 5)) (some ⟨V.heap.size, 0, none⟩) 1 1 (bts [1]) := Sl.own (own_rows V V.heap.size 5 1 1 V.heap.size #[.int .u8 1] rfl (Nat.le_refl _) (by decide) rfl)
theorem hearBad (h : KS w0 V D 5 L) (hf : Forms w0) (ht : Tabs w0) (hs : Sl V ao k c (bts [1])) : Calls Tryz.prog 10 #[.pointer (some ⟨D.xb, 0, none⟩), .int .i64 2, .slice ao k c, .agg now26.cells, .int .i64 200] V (RetB (putC 1 4) V) :=
  hear_bad h.st.dae (h.base hf ht).forms hs ⟨fun x hx => by rw [List.mem_singleton.1 hx]; decide, by decide⟩ (m := (mgetM [1]).2) (Prod.ext get_one rfl) rfl ⟨by decide, by decide⟩
theorem hearLess (h : KS w0 V D 5 L) (hf : Forms w0) (ht : Tabs w0) (hs : Sl V ao k c (bts (putLM says26))) : Calls Tryz.prog 10 #[.pointer (some ⟨D.xb, 0, none⟩), .int .i64 2, .slice ao k c, .agg now26.cells, .int .i64 199] V (RetB (putC 5 22) V) :=
  hear_no h.st.dae (h.base hf ht).forms hs (let_rs 3) (let_get 3) rfl ⟨by decide, by decide⟩ (e := 22) ⟨by decide, by decide⟩ fun W hW => takes_no hW h.st.tmk (by rw [h.st.t]; exact takes_less26) (by decide)
theorem getCode (hf : Forms V) {i x : Int} (hi : 1 ≤ i ∧ i ≤ 1073741824) (hx : 1 ≤ x ∧ x ≤ 24) (hs : Sl V ao k c (bts (putC i x))) : Calls Tryz.prog 9 #[.slice ao k c] V fun e w' => e = .returned (.tuple #[.agg (msgR i x).cells, .int .i64 0]) ∧ Below V.heap.size V w' := by
  have G := MGet_any hf hs (code_rs i x)
  rw [mget_code (by unfold idE refE; rw [if_neg (by omega), if_neg (by omega)])] at G
  exact G
def fcA : Fc := ⟨now26, 0, 1, 0, 0, 0, false, Hs.zero⟩
def fcB : Fc := ⟨⟨0, 0, 0⟩, 0, 0, 0, 0, 0, false, Hs.zero⟩
def fcC : Fc := ⟨now26, 0, 2, 0, 0, 0, true, nineH⟩
theorem stepW (h : KS w0 V D 5 L) : Calls Tryz.prog 19 #[.pointer (some ⟨D.xb, 0, none⟩), .int .i64 5, .agg fcA.cells, .agg (rdC 0)] V fun e w' => e = .returned (.tuple #[.int .i64 0, .agg Tv.zero.cells, .int .i64 0]) ∧ Below V.heap.size V w' := by
  obtain ⟨q, hq, hs, _⟩ := h.st.at5 (by decide)
  exact step_wait h.st.dae h.st.tmk hq (by rw [hs]; rfl) (by rw [hs]; rfl) (by rw [hs]; rfl) (by rw [hs, h.st.t]; exact safe_26) rfl (eq_false (by decide)) (by rw [h.st.t]; decide)
theorem stepN (h : KS w0 V D 5 L) : Calls Tryz.prog 19 #[.pointer (some ⟨D.xb, 0, none⟩), .int .i64 6, .agg fcB.cells, .agg (rdC 0)] V fun e w' => e = .returned (.tuple #[.int .i64 0, .agg Tv.zero.cells, .int .i64 12]) ∧ Below V.heap.size V w' := by
  obtain ⟨q, _, _, hn⟩ := h.st.at5 (by decide)
  exact step_none h.st.dae hn
theorem stepL (h : KS w0 V D 5 L) (hf : Forms w0) (ht : Tabs w0) : Calls Tryz.prog 19 #[.pointer (some ⟨D.xb, 0, none⟩), .int .i64 5, .agg fcC.cells, .agg (rdC 3)] V fun e w' => e = .returned (.tuple #[.int .i64 0, .agg Tv.zero.cells, .int .i64 3]) ∧ Below V.heap.size V w' := by
  obtain ⟨q, hq, hs, _⟩ := h.st.at5 (by decide)
  exact step_many h.st.dae (h.base hf ht).tabs h.st.tmk hq (by rw [hs]; rfl) (by rw [hs]; rfl) (by rw [hs]; rfl) (by rw [hs, h.st.t]; exact safe_26) rfl (eq_false (by decide)) (by rw [h.st.t]; decide) (by rw [hs]; exact sum_nine) (by decide) rfl
theorem swapS (h : KS w0 V D 5 L) : Calls Tryz.prog 13 #[.pointer (some ⟨D.bk, 0, none⟩), .int .i64 5] V fun e w' => e = .returned (.tuple #[.agg sw26.cells, .bool true]) ∧ Below V.heap.size V w' := by
  obtain ⟨q, hq, hs, _⟩ := h.st.at5 (by decide)
  have S := Swap_any h.st.dae.bok 5
  rw [hq, ← hs] at *
  exact S
end
end Go.Proofs.YtohpcfhgbgfblaaGreatDoor
