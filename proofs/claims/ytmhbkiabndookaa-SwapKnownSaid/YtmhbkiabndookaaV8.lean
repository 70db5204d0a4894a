/- What is proved: the small functions of layer 23's statements: terms, second, Right, works. No condition. -/
import Derived.Test.YtmhbkiabndookaaE1
namespace Go.Proofs.Ytmhbkiabndookaa
open Go.RowKit

/-- Rows that stand in a world that has grown from w0. -/
structure Kp (w0 : World) (rows : List (Nat × Array Value)) (W : World) : Prop where
  below : Below w0.heap.size w0 W
  row : ∀ p ∈ rows, rowOf W p.1 = p.2 ∧ soft W p.1 = true ∧ w0.heap.size ≤ p.1 ∧ p.1 < W.heap.size
theorem Kp.first (w : World) : Kp w [] w := ⟨Below.refl _ _, fun p hp => by simp at hp⟩
theorem Kp.ext {w0 W : World} {rows : List (Nat × Array Value)} (h : Kp w0 rows W) (g : Ext W) : Kp w0 rows g.val :=
  ⟨g.up h.below, fun p hp => by
    obtain ⟨h1, h2, h3, h4⟩ := h.row p hp
    exact ⟨by rw [g.row _ h4]; exact h1, by rw [g.soft_ _ h4]; exact h2, h3, Nat.lt_of_lt_of_le h4 g.size⟩⟩
theorem Kp.alloc {w0 W : World} {rows : List (Nat × Array Value)} (h : Kp w0 rows W) (cs : Array Value) (t : TypeId) : Kp w0 ((W.heap.size, cs) :: rows) (W.alloc (.cells cs t)) := by
  have hz := h.below.size
  refine ⟨h.below.alloc hz _, fun p hp => ?_⟩
  rcases List.mem_cons.1 hp with rfl | hp
  · exact ⟨by rw [rowOf_alloc, if_pos rfl], by rw [soft_alloc, if_pos rfl], hz, by simp⟩
  · obtain ⟨h1, h2, h3, h4⟩ := h.row p hp
    exact ⟨by rw [rowOf_alloc, if_neg (by omega)]; exact h1, by rw [soft_alloc, if_neg (by omega)]; exact h2, h3, by simp; omega⟩
theorem Kp.store {w0 W : World} {rows : List (Nat × Array Value)} (h : Kp w0 rows W) (zs cs : Array Value) (t : TypeId) : Kp w0 ((W.heap.size, cs) :: rows) ((W.alloc (.cells zs t)).setRow W.heap.size cs) := by
  have hz := h.below.size
  have hs : soft (W.alloc (.cells zs t)) W.heap.size = true := by rw [soft_alloc, if_pos rfl]
  refine ⟨Below.setRow_ (h.below.alloc hz _) hz _, fun p hp => ?_⟩
  rcases List.mem_cons.1 hp with rfl | hp
  · exact ⟨by rw [rowOf_setRow _ _ _ _ hs, if_pos rfl], by rw [soft_setRow]; exact hs, hz, by simp [World.setRow]⟩
  · obtain ⟨h1, h2, h3, h4⟩ := h.row p hp
    exact ⟨by rw [rowOf_setRow _ _ _ _ hs, if_neg (by omega), rowOf_alloc, if_neg (by omega)]; exact h1, by rw [soft_setRow, soft_alloc, if_neg (by omega)]; exact h2, h3, by simp [World.setRow]; omega⟩

def T.terms : T := ⟨0, 0, 0, 0, 0, 2, 3, 4, 2⟩
theorem T.terms_ok : T.terms.Ok := by constructor <;> decide
theorem terms_any (w : World) : Calls Try.prog 22 #[] w (Ret (.agg T.terms.cells) w) := by
  go_enter Try.func22, Try.ntmps22
  go_wp2
  (refine bodyPost_ret (results23 _ _ Try.results22 _ rfl ?_ ?_) rfl (Ret.mk ?_); (focus (first | rfl | (simp [go_sem, *]; done) | (simp [go_sem, *]; rfl))); (focus (first | rfl | (simp [go_sem]; done))); (repeat' (first | (with_reducible exact Below.refl _ _) | (with_reducible assumption) | (with_reducible refine Ext.up _ ?_) | (with_reducible refine Below.alloc ?_ ?_ _) | (with_reducible refine Below.drew ?_) | (with_reducible refine Below.setCell ?_ ?_ _) | (with_reducible refine Below.setRow_ ?_ ?_ _) | go_size)))
def dOf (v : Value) : D := ⟨iAt v 0, iAt v 1, iAt v 2, iAt v 3, iAt v 4, iAt v 5, iAt v 6, iAt v 7, fun i => iAt v (8 + i), iAt v 40⟩
def iv (v : Value) : Int := match v with | .int _ n => n | _ => 0
theorem dOf_mk (d : D) : (dOf (.agg d.cells)).cells = d.cells := by kernel_rfl
theorem iv_mk (k : IntKind) (n : Int) : iv (.int k n) = n := rfl
theorem sd_mk (d : D) (st : Int) : S.cells ⟨dOf (.agg d.cells), st, false, fun _ => 0⟩ = S.cells ⟨d, st, false, fun _ => 0⟩ := by kernel_rfl
theorem run_build31 (w : World) (d : D) (st : Int) : (Instr.build 31 #[(0, .agg d.cells), (1, .int .i64 st)]).run Try.prog w = .ok (.agg (S.cells ⟨d, st, false, fun _ => 0⟩)) w := by kernel_rfl
theorem build31 (w : World) (ρ : Operand → Value) (x y : Operand) (dst : Option Tmp) (ty : TypeId) (pos : String) (af : Array Edge) (gd : Option (Nat × Bool)) (hx : ρ x = .agg (dOf (ρ x)).cells) (hy : ρ y = .int .i64 (iv (ρ y))) :
    (execOp ρ ⟨dst, .build 31 #[(0, x), (1, y)], ty, pos, af, gd⟩).run Try.prog w = .ok (.value (.agg (S.cells ⟨dOf (ρ x), iv (ρ y), false, fun _ => 0⟩))) w := by
  have h := run_build31 w (dOf (ρ x)) (iv (ρ y))
  rw [← hx, ← hy] at h
  unfold execOp
  simp only [Sem.run_bind, Sem.run_pure, List.map_toArray, List.map_cons, List.map_nil, h, Result.andThen_ok]
attribute [local go_sem ↓] build31
attribute [local go_sem] dOf_mk iv_mk sd_mk
def S.second (st : Int) : S := ⟨⟨0, 2, 0, 0, 130, 1, 0, 270, fun _ => 0, 0⟩, st, false, fun _ => 0⟩
theorem results31 (w : World) (b : Nat) {fn : Func} {p : Tmp} (hr : fn.results = #[.cell p 31]) (tmps : Array Value) (hp : tmps.getD p undef = .pointer (some ⟨b, 0, none⟩)) {cs : Array Value} (hc : rowOf w b = cs) (hn : cs.size = 75) :
    (results fn tmps).run Try.prog w = .ok (.agg cs) w := results_row hr Try.underlying31 rfl (by kernel_rfl) tmps w b hp hc hn
set_option maxRecDepth 100000 in
theorem second_any (st : Int) (w : World) : Calls Try.prog 21 #[.int .i64 st] w (Ret (.agg (S.second st).cells) w) := by
  go_enter Try.func21, Try.ntmps21
  go_wp2
  (refine bodyPost_ret (results31 _ _ Try.results21 _ rfl ?_ ?_) rfl (Ret.mk ?_); (focus (first | rfl | (simp [go_sem, *]; done) | (simp [go_sem, *]; rfl))); (focus (first | rfl | (simp [go_sem]; done))); (repeat' (first | (with_reducible exact Below.refl _ _) | (with_reducible assumption) | (with_reducible refine Ext.up _ ?_) | (with_reducible refine Below.alloc ?_ ?_ _) | (with_reducible refine Below.drew ?_) | (with_reducible refine Below.setCell ?_ ?_ _) | (with_reducible refine Below.setRow_ ?_ ?_ _) | go_size)))

/-- The facts of the chapter's moves. -/
def F1 : F := ⟨100, 200, 0, 0, 2, 0, 0, 0, false, fun _ => 0⟩
def F2 : F := ⟨100, 201, 0, 0, 2, 0, 0, 0, false, fun _ => 0⟩
def F3 : F := ⟨130, 200, 0, 9, 0, 0, 0, 0, false, fun _ => 0⟩
def F4 : F := ⟨100, 200, 0, 3, 0, 0, 0, 0, true, fun i => if i = 0 then 5 else 0⟩
def S4 : S := ⟨(S.second 2).d, 3, true, fun i => if i = 0 then 5 else 0⟩
theorem next1 : (S.second 1).next T.terms F1 = (1, S.second 2) := by kernel_rfl
theorem next2 : (S.second 1).next T.terms F2 = (4, S.second 6) := by kernel_rfl
theorem next3 : (S.second 2).next T.terms F3 = (3, S.second 2) := by kernel_rfl
theorem next4 : (S.second 2).next T.terms F4 = (2, S4) := by kernel_rfl
theorem Next_w1 (w : World) : Calls Try.prog 9 #[.agg T.terms.cells, .agg (S.second 1).cells, .agg F1.cells] w (Ret (.tuple #[.int .i64 1, .agg (S.second 2).cells]) w) := by
  have := Next_any T.terms T.terms_ok (S.second 1) F1 w
  rwa [next1] at this
theorem Next_w2 (w : World) : Calls Try.prog 9 #[.agg T.terms.cells, .agg (S.second 1).cells, .agg F2.cells] w (Ret (.tuple #[.int .i64 4, .agg (S.second 6).cells]) w) := by
  have := Next_any T.terms T.terms_ok (S.second 1) F2 w
  rwa [next2] at this
theorem Next_w3 (w : World) : Calls Try.prog 9 #[.agg T.terms.cells, .agg (S.second 2).cells, .agg F3.cells] w (Ret (.tuple #[.int .i64 3, .agg (S.second 2).cells]) w) := by
  have := Next_any T.terms T.terms_ok (S.second 2) F3 w
  rwa [next3] at this
theorem Next_w4 (w : World) : Calls Try.prog 9 #[.agg T.terms.cells, .agg (S.second 2).cells, .agg F4.cells] w (Ret (.tuple #[.int .i64 2, .agg S4.cells]) w) := by
  have := Next_any T.terms T.terms_ok (S.second 2) F4 w
  rwa [next4] at this
theorem Over_w (w : World) : Calls Try.prog 11 #[.agg (S.second 6).cells] w (Ret (.bool true) w) := Over_any (S.second 6) w
theorem at_calls {P : Program} {f : FuncId} {args : Array Value} {Q : Ending → World → Prop} {W : World} (C : World → Prop) (hC : C W) (h : ∀ wr, C wr → Calls P f args wr Q) : Calls P f args W Q := h W hC

def h5 : Nat → Int := fun i => if i = 0 then 5 else 0
theorem run_build27 (w : World) : (Instr.build 27 #[(0, .int .u8 5)]).run Try.prog w = .ok (.agg (hcells h5)) w := by kernel_rfl
theorem build27 (w : World) (ρ : Operand → Value) (x : Operand) (dst : Option Tmp) (ty : TypeId) (pos : String) (af : Array Edge) (gd : Option (Nat × Bool)) (hx : ρ x = .int .u8 5) :
    (execOp ρ ⟨dst, .build 27 #[(0, x)], ty, pos, af, gd⟩).run Try.prog w = .ok (.value (.agg (hcells h5))) w := by
  unfold execOp
  simp only [Sem.run_bind, Sem.run_pure, List.map_toArray, List.map_cons, List.map_nil, hx, run_build27, Result.andThen_ok]
theorem s4_se : S4.se = h5 := rfl
theorem s4_st : S4.st = 3 := rfl
theorem s4_kn : S4.kn = true := rfl
theorem second_st (v : Int) : (S.second v).st = v := rfl
attribute [local go_sem ↓] build27
attribute [local go_sem] s4_se s4_st s4_kn second_st

attribute [local go_sem ↓] rowOf_cell
set_option maxRecDepth 100000 in
set_option maxHeartbeats 4000000 in
theorem works_any (w : World) : Calls Try.prog 8 #[] w (Ret (.bool true) w) := by
  go_enter Try.func8, Try.ntmps8
  go_wp2_with fail
  refine (terms_any _).mono ?_
  rintro _ _ ⟨rfl, g1, rfl⟩
  go_wp2_with fail
  refine (second_any _ _).mono ?_
  rintro _ _ ⟨rfl, g2, rfl⟩
  go_wp2_with fail
  refine (Next_w1 _).mono ?_
  rintro _ _ ⟨rfl, g3, rfl⟩
  have k3 := ((((Kp.first w).ext g1).ext g2).ext g3).store S.zero.cells (S.second 2).cells 31
  go_wp2_with fail
  refine at_calls (Kp w _) k3 (fun W3 k3' => ?_)
  clear k3
  refine (terms_any _).mono ?_
  rintro _ _ ⟨rfl, g4, rfl⟩
  go_wp2_with fail
  refine (second_any _ _).mono ?_
  rintro _ _ ⟨rfl, g5, rfl⟩
  go_wp2_with fail
  refine (Next_w2 _).mono ?_
  rintro _ _ ⟨rfl, g6, rfl⟩
  have k6 := (((k3'.ext g4).ext g5).ext g6).store S.zero.cells (S.second 6).cells 31
  go_wp2_with fail
  refine at_calls (Kp w _) k6 (fun W6 k6' => ?_)
  clear k6
  refine (terms_any _).mono ?_
  rintro _ _ ⟨rfl, g7, rfl⟩
  go_wp2_with fail
  refine (second_any _ _).mono ?_
  rintro _ _ ⟨rfl, g8, rfl⟩
  go_wp2_with fail
  refine (Next_w3 _).mono ?_
  rintro _ _ ⟨rfl, g9, rfl⟩
  have k9 := (((k6'.ext g7).ext g8).ext g9).store S.zero.cells (S.second 2).cells 31
  go_wp2_with fail
  refine at_calls (Kp w _) k9 (fun W9 k9' => ?_)
  clear k9
  refine (terms_any _).mono ?_
  rintro _ _ ⟨rfl, g10, rfl⟩
  go_wp2_with fail
  refine (second_any _ _).mono ?_
  rintro _ _ ⟨rfl, g11, rfl⟩
  go_wp2_with fail
  refine (Next_w4 _).mono ?_
  rintro _ _ ⟨rfl, g12, rfl⟩
  have k12 := (((k9'.ext g10).ext g11).ext g12).store S.zero.cells S4.cells 31
  have r12 : rowOf _ g12.val.heap.size = S4.cells := (k12.row (g12.val.heap.size, S4.cells) (by simp)).1
  have r9 : rowOf _ g9.val.heap.size = (S.second 2).cells := (k12.row (g9.val.heap.size, (S.second 2).cells) (by simp)).1
  have r6 : rowOf _ g6.val.heap.size = (S.second 6).cells := (k12.row (g6.val.heap.size, (S.second 6).cells) (by simp)).1
  have r3 : rowOf _ g3.val.heap.size = (S.second 2).cells := (k12.row (g3.val.heap.size, (S.second 2).cells) (by simp)).1
  go_wp2_with fail
  refine (Over_w _).mono ?_
  rintro _ _ ⟨rfl, g13, rfl⟩
  have k13 := k12.ext g13
  clear r12 r9 r6 r3 k12
  have r12 : rowOf g13.val g12.val.heap.size = S4.cells := (k13.row (g12.val.heap.size, S4.cells) (by simp)).1
  have r9 : rowOf g13.val g9.val.heap.size = (S.second 2).cells := (k13.row (g9.val.heap.size, (S.second 2).cells) (by simp)).1
  have hlit : (#[.int .u8 5, .int .u8 0, .int .u8 0, .int .u8 0, .int .u8 0, .int .u8 0, .int .u8 0, .int .u8 0, .int .u8 0, .int .u8 0, .int .u8 0, .int .u8 0, .int .u8 0, .int .u8 0, .int .u8 0, .int .u8 0, .int .u8 0, .int .u8 0, .int .u8 0, .int .u8 0, .int .u8 0, .int .u8 0, .int .u8 0, .int .u8 0, .int .u8 0, .int .u8 0, .int .u8 0, .int .u8 0, .int .u8 0, .int .u8 0, .int .u8 0, .int .u8 0] : Array Value) = hcells h5 := by kernel_rfl
  have kb := k13.below
  clear k13
  generalize g13.val = X at *
  clear g13
  go_wp2_with fail
  go_ret
  exact Ret.mk kb
end Go.Proofs.Ytmhbkiabndookaa
