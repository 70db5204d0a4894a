/- What is proved: swaps, facts and views as rows of cells. No condition. -/
import Derived.Test.YtmhbkiabndookaaU3
namespace Go.Proofs.Ytmhbkiabndookaa
open Go.RowKit

/-- A swap. -/
structure S where
  d : D
  st : Int
  kn : Bool
  se : Nat → Int
/-- What is seen. -/
structure F where
  a : Int
  b : Int
  c : Int
  pin : Int
  gin : Int
  gout : Int
  lost : Int
  back : Int
  seen : Bool
  se : Nat → Int

def S.cells (s : S) : Array Value := #[.int .i64 s.d.id, .int .i64 s.d.role, .int .i64 s.d.px, .int .i64 s.d.py, .int .i64 s.d.pz, .int .i64 s.d.gx, .int .i64 s.d.gy, .int .i64 s.d.gz, .int .u8 (s.d.h 0), .int .u8 (s.d.h 1), .int .u8 (s.d.h 2), .int .u8 (s.d.h 3), .int .u8 (s.d.h 4), .int .u8 (s.d.h 5), .int .u8 (s.d.h 6), .int .u8 (s.d.h 7), .int .u8 (s.d.h 8), .int .u8 (s.d.h 9), .int .u8 (s.d.h 10), .int .u8 (s.d.h 11), .int .u8 (s.d.h 12), .int .u8 (s.d.h 13), .int .u8 (s.d.h 14), .int .u8 (s.d.h 15), .int .u8 (s.d.h 16), .int .u8 (s.d.h 17), .int .u8 (s.d.h 18), .int .u8 (s.d.h 19), .int .u8 (s.d.h 20), .int .u8 (s.d.h 21), .int .u8 (s.d.h 22), .int .u8 (s.d.h 23), .int .u8 (s.d.h 24), .int .u8 (s.d.h 25), .int .u8 (s.d.h 26), .int .u8 (s.d.h 27), .int .u8 (s.d.h 28), .int .u8 (s.d.h 29), .int .u8 (s.d.h 30), .int .u8 (s.d.h 31), .int .i64 s.d.peer, .int .i64 s.st, .bool s.kn, .int .u8 (s.se 0), .int .u8 (s.se 1), .int .u8 (s.se 2), .int .u8 (s.se 3), .int .u8 (s.se 4), .int .u8 (s.se 5), .int .u8 (s.se 6), .int .u8 (s.se 7), .int .u8 (s.se 8), .int .u8 (s.se 9), .int .u8 (s.se 10), .int .u8 (s.se 11), .int .u8 (s.se 12), .int .u8 (s.se 13), .int .u8 (s.se 14), .int .u8 (s.se 15), .int .u8 (s.se 16), .int .u8 (s.se 17), .int .u8 (s.se 18), .int .u8 (s.se 19), .int .u8 (s.se 20), .int .u8 (s.se 21), .int .u8 (s.se 22), .int .u8 (s.se 23), .int .u8 (s.se 24), .int .u8 (s.se 25), .int .u8 (s.se 26), .int .u8 (s.se 27), .int .u8 (s.se 28), .int .u8 (s.se 29), .int .u8 (s.se 30), .int .u8 (s.se 31)]
def F.cells (f : F) : Array Value := #[.int .i64 f.a, .int .i64 f.b, .int .i64 f.c, .int .i64 f.pin, .int .i64 f.gin, .int .i64 f.gout, .int .i64 f.lost, .int .i64 f.back, .bool f.seen, .int .u8 (f.se 0), .int .u8 (f.se 1), .int .u8 (f.se 2), .int .u8 (f.se 3), .int .u8 (f.se 4), .int .u8 (f.se 5), .int .u8 (f.se 6), .int .u8 (f.se 7), .int .u8 (f.se 8), .int .u8 (f.se 9), .int .u8 (f.se 10), .int .u8 (f.se 11), .int .u8 (f.se 12), .int .u8 (f.se 13), .int .u8 (f.se 14), .int .u8 (f.se 15), .int .u8 (f.se 16), .int .u8 (f.se 17), .int .u8 (f.se 18), .int .u8 (f.se 19), .int .u8 (f.se 20), .int .u8 (f.se 21), .int .u8 (f.se 22), .int .u8 (f.se 23), .int .u8 (f.se 24), .int .u8 (f.se 25), .int .u8 (f.se 26), .int .u8 (f.se 27), .int .u8 (f.se 28), .int .u8 (f.se 29), .int .u8 (f.se 30), .int .u8 (f.se 31)]
def vcells (t : T) (s : S) (f : F) : Array Value := #[.int .i64 t.base, .int .i64 t.ppm, .int .i64 t.reserve, .int .i64 t.least, .int .i64 t.most, .int .i64 t.depth, .int .i64 t.delay, .int .i64 t.lag, .int .i64 t.fast, .int .i64 s.d.id, .int .i64 s.d.role, .int .i64 s.d.px, .int .i64 s.d.py, .int .i64 s.d.pz, .int .i64 s.d.gx, .int .i64 s.d.gy, .int .i64 s.d.gz, .int .u8 (s.d.h 0), .int .u8 (s.d.h 1), .int .u8 (s.d.h 2), .int .u8 (s.d.h 3), .int .u8 (s.d.h 4), .int .u8 (s.d.h 5), .int .u8 (s.d.h 6), .int .u8 (s.d.h 7), .int .u8 (s.d.h 8), .int .u8 (s.d.h 9), .int .u8 (s.d.h 10), .int .u8 (s.d.h 11), .int .u8 (s.d.h 12), .int .u8 (s.d.h 13), .int .u8 (s.d.h 14), .int .u8 (s.d.h 15), .int .u8 (s.d.h 16), .int .u8 (s.d.h 17), .int .u8 (s.d.h 18), .int .u8 (s.d.h 19), .int .u8 (s.d.h 20), .int .u8 (s.d.h 21), .int .u8 (s.d.h 22), .int .u8 (s.d.h 23), .int .u8 (s.d.h 24), .int .u8 (s.d.h 25), .int .u8 (s.d.h 26), .int .u8 (s.d.h 27), .int .u8 (s.d.h 28), .int .u8 (s.d.h 29), .int .u8 (s.d.h 30), .int .u8 (s.d.h 31), .int .i64 s.d.peer, .int .i64 s.st, .bool s.kn, .int .u8 (s.se 0), .int .u8 (s.se 1), .int .u8 (s.se 2), .int .u8 (s.se 3), .int .u8 (s.se 4), .int .u8 (s.se 5), .int .u8 (s.se 6), .int .u8 (s.se 7), .int .u8 (s.se 8), .int .u8 (s.se 9), .int .u8 (s.se 10), .int .u8 (s.se 11), .int .u8 (s.se 12), .int .u8 (s.se 13), .int .u8 (s.se 14), .int .u8 (s.se 15), .int .u8 (s.se 16), .int .u8 (s.se 17), .int .u8 (s.se 18), .int .u8 (s.se 19), .int .u8 (s.se 20), .int .u8 (s.se 21), .int .u8 (s.se 22), .int .u8 (s.se 23), .int .u8 (s.se 24), .int .u8 (s.se 25), .int .u8 (s.se 26), .int .u8 (s.se 27), .int .u8 (s.se 28), .int .u8 (s.se 29), .int .u8 (s.se 30), .int .u8 (s.se 31), .int .i64 f.a, .int .i64 f.b, .int .i64 f.c, .int .i64 f.pin, .int .i64 f.gin, .int .i64 f.gout, .int .i64 f.lost, .int .i64 f.back, .bool f.seen, .int .u8 (f.se 0), .int .u8 (f.se 1), .int .u8 (f.se 2), .int .u8 (f.se 3), .int .u8 (f.se 4), .int .u8 (f.se 5), .int .u8 (f.se 6), .int .u8 (f.se 7), .int .u8 (f.se 8), .int .u8 (f.se 9), .int .u8 (f.se 10), .int .u8 (f.se 11), .int .u8 (f.se 12), .int .u8 (f.se 13), .int .u8 (f.se 14), .int .u8 (f.se 15), .int .u8 (f.se 16), .int .u8 (f.se 17), .int .u8 (f.se 18), .int .u8 (f.se 19), .int .u8 (f.se 20), .int .u8 (f.se 21), .int .u8 (f.se 22), .int .u8 (f.se 23), .int .u8 (f.se 24), .int .u8 (f.se 25), .int .u8 (f.se 26), .int .u8 (f.se 27), .int .u8 (f.se 28), .int .u8 (f.se 29), .int .u8 (f.se 30), .int .u8 (f.se 31)]
def hcells (h : Nat → Int) : Array Value := #[.int .u8 (h 0), .int .u8 (h 1), .int .u8 (h 2), .int .u8 (h 3), .int .u8 (h 4), .int .u8 (h 5), .int .u8 (h 6), .int .u8 (h 7), .int .u8 (h 8), .int .u8 (h 9), .int .u8 (h 10), .int .u8 (h 11), .int .u8 (h 12), .int .u8 (h 13), .int .u8 (h 14), .int .u8 (h 15), .int .u8 (h 16), .int .u8 (h 17), .int .u8 (h 18), .int .u8 (h 19), .int .u8 (h 20), .int .u8 (h 21), .int .u8 (h 22), .int .u8 (h 23), .int .u8 (h 24), .int .u8 (h 25), .int .u8 (h 26), .int .u8 (h 27), .int .u8 (h 28), .int .u8 (h 29), .int .u8 (h 30), .int .u8 (h 31)]
def S.zero : S := ⟨D.zero, 0, false, fun _ => 0⟩

/-- What is written over, from a place on. -/
def over (cs : Array Value) : Nat → List Value → Array Value
  | _, [] => cs
  | o, v :: l => over (cs.setIfInBounds o v) (o + 1) l

section
variable (t : T) (s : S) (f : F) (h : Nat → Int) (v : Int) (b : Bool)
theorem s_size : s.cells.size = 75 := by kernel_rfl
theorem s_one : ones s.cells = true := by kernel_rfl
theorem s_whole : sub s.cells 0 75 = s.cells := by kernel_rfl
theorem s_deal : sub s.cells 0 41 = s.d.cells := by kernel_rfl
theorem s_hash : sub s.cells 43 32 = hcells s.se := by kernel_rfl
theorem s_1 : s.cells[1]? = some (.int .i64 s.d.role) := rfl
theorem s_41 : s.cells[41]? = some (.int .i64 s.st) := by kernel_rfl
theorem s_42 : s.cells[42]? = some (.bool s.kn) := by kernel_rfl
theorem s_set41 : s.cells.setIfInBounds 41 (.int .i64 v) = S.cells { s with st := v } := by kernel_rfl
theorem s_set42 : s.cells.setIfInBounds 42 (.bool b) = S.cells { s with kn := b } := by kernel_rfl
theorem s_over : over s.cells 43 (hcells h).toList = S.cells { s with se := h } := by kernel_rfl
theorem h_size : (hcells h).size = 32 := by kernel_rfl
theorem h_one : ones (hcells h) = true := by kernel_rfl
theorem f_size : f.cells.size = 41 := by kernel_rfl
theorem f_one : ones f.cells = true := by kernel_rfl
theorem f_whole : sub f.cells 0 41 = f.cells := by kernel_rfl
theorem f_now : sub f.cells 0 3 = #[.int .i64 f.a, .int .i64 f.b, .int .i64 f.c] := by kernel_rfl
theorem f_hash : sub f.cells 9 32 = hcells f.se := by kernel_rfl
theorem f_3 : f.cells[3]? = some (.int .i64 f.pin) := rfl
theorem f_4 : f.cells[4]? = some (.int .i64 f.gin) := rfl
theorem f_5 : f.cells[5]? = some (.int .i64 f.gout) := rfl
theorem f_6 : f.cells[6]? = some (.int .i64 f.lost) := rfl
theorem f_7 : f.cells[7]? = some (.int .i64 f.back) := rfl
theorem f_8 : f.cells[8]? = some (.bool f.seen) := rfl
theorem v_size : (vcells t s f).size = 125 := by kernel_rfl
theorem v_one : ones (vcells t s f) = true := by kernel_rfl
theorem v_whole : sub (vcells t s f) 0 125 = vcells t s f := by kernel_rfl
theorem v_terms : sub (vcells t s f) 0 9 = t.cells := by kernel_rfl
theorem v_deal : sub (vcells t s f) 9 41 = s.d.cells := by kernel_rfl
theorem v_now : sub (vcells t s f) 84 3 = #[.int .i64 f.a, .int .i64 f.b, .int .i64 f.c] := by kernel_rfl
theorem v_5 : (vcells t s f)[5]? = some (.int .i64 t.depth) := rfl
theorem v_10 : (vcells t s f)[10]? = some (.int .i64 s.d.role) := by kernel_rfl
theorem v_51 : (vcells t s f)[51]? = some (.bool s.kn) := by kernel_rfl
theorem v_87 : (vcells t s f)[87]? = some (.int .i64 f.pin) := by kernel_rfl
theorem v_88 : (vcells t s f)[88]? = some (.int .i64 f.gin) := by kernel_rfl
theorem v_89 : (vcells t s f)[89]? = some (.int .i64 f.gout) := by kernel_rfl
theorem v_90 : (vcells t s f)[90]? = some (.int .i64 f.lost) := by kernel_rfl
theorem v_91 : (vcells t s f)[91]? = some (.int .i64 f.back) := by kernel_rfl
end
def T.zero : T := ⟨0, 0, 0, 0, 0, 0, 0, 0, 0⟩
def F.zero : F := ⟨0, 0, 0, 0, 0, 0, 0, 0, false, fun _ => 0⟩
theorem zero64 (w : World) : (zeroValue 64).run Try.prog w = .ok (.agg (vcells T.zero S.zero F.zero)) w := by kernel_rfl
theorem zero31 (w : World) : (zeroValue 31).run Try.prog w = .ok (.agg S.zero.cells) w := by kernel_rfl
section
variable (w : World) (ρ : Operand → Value) (x y z : Operand) (dst : Option Tmp) (ty : TypeId) (pos : String) (af : Array Edge) (gd : Option (Nat × Bool)) (b o : Nat)
theorem load31 (hp : pp (ρ x) = true) (h : po (ρ x) + 75 ≤ (rowOf w (pb (ρ x))).size) : (execOp ρ ⟨dst, .load 31 x, ty, pos, af, gd⟩).run Try.prog w = .ok (.value (.agg (sub (rowOf w (pb (ρ x))) (po (ρ x)) 75))) w :=
  exec_load_row 31 75 Try.underlying31 rfl (by kernel_rfl) w ρ x dst ty pos af gd hp h
theorem load34 (hp : pp (ρ x) = true) (h : po (ρ x) + 41 ≤ (rowOf w (pb (ρ x))).size) : (execOp ρ ⟨dst, .load 34 x, ty, pos, af, gd⟩).run Try.prog w = .ok (.value (.agg (sub (rowOf w (pb (ρ x))) (po (ρ x)) 41))) w :=
  exec_load_row 34 41 Try.underlying34 rfl (by kernel_rfl) w ρ x dst ty pos af gd hp h
theorem load64 (hp : pp (ρ x) = true) (h : po (ρ x) + 125 ≤ (rowOf w (pb (ρ x))).size) : (execOp ρ ⟨dst, .load 64 x, ty, pos, af, gd⟩).run Try.prog w = .ok (.value (.agg (sub (rowOf w (pb (ρ x))) (po (ρ x)) 125))) w :=
  exec_load_row 64 125 Try.underlying64 rfl (by kernel_rfl) w ρ x dst ty pos af gd hp h
theorem load27 (hp : pp (ρ x) = true) (h : po (ρ x) + 32 ≤ (rowOf w (pb (ρ x))).size) : (execOp ρ ⟨dst, .load 27 x, ty, pos, af, gd⟩).run Try.prog w = .ok (.value (.agg (sub (rowOf w (pb (ρ x))) (po (ρ x)) 32))) w :=
  exec_load_row 27 32 Try.underlying27 rfl (by kernel_rfl) w ρ x dst ty pos af gd hp h
theorem load32 (hp : pp (ρ x) = true) (h : po (ρ x) + 3 ≤ (rowOf w (pb (ρ x))).size) : (execOp ρ ⟨dst, .load 32 x, ty, pos, af, gd⟩).run Try.prog w = .ok (.value (.agg (sub (rowOf w (pb (ρ x))) (po (ρ x)) 3))) w :=
  exec_load_row 32 3 Try.underlying32 rfl (by kernel_rfl) w ρ x dst ty pos af gd hp h
theorem store31 (hp : pp (ρ x) = true) (h0 : po (ρ x) = 0) (hv : isAg (ρ y) = true) (hs : soft w (pb (ρ x)) = true) (hr : (rowOf w (pb (ρ x))).size = 75) (hn : (agc (ρ y)).size = 75) (h1 : ones (agc (ρ y)) = true) :
    (execOp ρ ⟨dst, .store 31 x y, ty, pos, af, gd⟩).run Try.prog w = .ok .skip (w.setRow (pb (ρ x)) (agc (ρ y))) :=
  exec_store_row 31 75 (by kernel_rfl) w ρ x y dst ty pos af gd hp h0 hv hs hr hn h1
theorem store64 (hp : pp (ρ x) = true) (h0 : po (ρ x) = 0) (hv : isAg (ρ y) = true) (hs : soft w (pb (ρ x)) = true) (hr : (rowOf w (pb (ρ x))).size = 125) (hn : (agc (ρ y)).size = 125) (h1 : ones (agc (ρ y)) = true) :
    (execOp ρ ⟨dst, .store 64 x y, ty, pos, af, gd⟩).run Try.prog w = .ok .skip (w.setRow (pb (ρ x)) (agc (ρ y))) :=
  exec_store_row 64 125 (by kernel_rfl) w ρ x y dst ty pos af gd hp h0 hv hs hr hn h1
end
attribute [go_sem ↓] zero31 zero64 load31 load34 load64 load27 load32 store31 store64 s_1 s_41 s_42 f_3 f_4 f_5 f_6 f_7 f_8 v_5 v_10 v_51 v_87 v_88 v_89 v_90 v_91
attribute [go_sem] s_size s_one s_whole s_deal s_hash s_set41 s_set42 h_size h_one f_size f_one f_whole f_now f_hash v_size v_one v_whole v_terms v_deal v_now
section
variable (t : T) (s : S) (f : F)
theorem s_1g (h : 1 < Array.size (s.cells)) : (s.cells)[1]'h = .int .i64 s.d.role := Option.some.inj ((Array.getElem?_eq_getElem h).symm.trans (s_1 s))
theorem s_41g (h : 41 < Array.size (s.cells)) : (s.cells)[41]'h = .int .i64 s.st := Option.some.inj ((Array.getElem?_eq_getElem h).symm.trans (s_41 s))
theorem s_42g (h : 42 < Array.size (s.cells)) : (s.cells)[42]'h = .bool s.kn := Option.some.inj ((Array.getElem?_eq_getElem h).symm.trans (s_42 s))
theorem f_3g (h : 3 < Array.size (f.cells)) : (f.cells)[3]'h = .int .i64 f.pin := Option.some.inj ((Array.getElem?_eq_getElem h).symm.trans (f_3 f))
theorem f_4g (h : 4 < Array.size (f.cells)) : (f.cells)[4]'h = .int .i64 f.gin := Option.some.inj ((Array.getElem?_eq_getElem h).symm.trans (f_4 f))
theorem f_5g (h : 5 < Array.size (f.cells)) : (f.cells)[5]'h = .int .i64 f.gout := Option.some.inj ((Array.getElem?_eq_getElem h).symm.trans (f_5 f))
theorem f_6g (h : 6 < Array.size (f.cells)) : (f.cells)[6]'h = .int .i64 f.lost := Option.some.inj ((Array.getElem?_eq_getElem h).symm.trans (f_6 f))
theorem f_7g (h : 7 < Array.size (f.cells)) : (f.cells)[7]'h = .int .i64 f.back := Option.some.inj ((Array.getElem?_eq_getElem h).symm.trans (f_7 f))
theorem f_8g (h : 8 < Array.size (f.cells)) : (f.cells)[8]'h = .bool f.seen := Option.some.inj ((Array.getElem?_eq_getElem h).symm.trans (f_8 f))
theorem v_5g (h : 5 < Array.size ((vcells t s f))) : ((vcells t s f))[5]'h = .int .i64 t.depth := Option.some.inj ((Array.getElem?_eq_getElem h).symm.trans (v_5 t s f))
theorem v_10g (h : 10 < Array.size ((vcells t s f))) : ((vcells t s f))[10]'h = .int .i64 s.d.role := Option.some.inj ((Array.getElem?_eq_getElem h).symm.trans (v_10 t s f))
theorem v_51g (h : 51 < Array.size ((vcells t s f))) : ((vcells t s f))[51]'h = .bool s.kn := Option.some.inj ((Array.getElem?_eq_getElem h).symm.trans (v_51 t s f))
theorem v_87g (h : 87 < Array.size ((vcells t s f))) : ((vcells t s f))[87]'h = .int .i64 f.pin := Option.some.inj ((Array.getElem?_eq_getElem h).symm.trans (v_87 t s f))
theorem v_88g (h : 88 < Array.size ((vcells t s f))) : ((vcells t s f))[88]'h = .int .i64 f.gin := Option.some.inj ((Array.getElem?_eq_getElem h).symm.trans (v_88 t s f))
theorem v_89g (h : 89 < Array.size ((vcells t s f))) : ((vcells t s f))[89]'h = .int .i64 f.gout := Option.some.inj ((Array.getElem?_eq_getElem h).symm.trans (v_89 t s f))
theorem v_90g (h : 90 < Array.size ((vcells t s f))) : ((vcells t s f))[90]'h = .int .i64 f.lost := Option.some.inj ((Array.getElem?_eq_getElem h).symm.trans (v_90 t s f))
theorem v_91g (h : 91 < Array.size ((vcells t s f))) : ((vcells t s f))[91]'h = .int .i64 f.back := Option.some.inj ((Array.getElem?_eq_getElem h).symm.trans (v_91 t s f))
end
attribute [go_sem] s_1g s_41g s_42g f_3g f_4g f_5g f_6g f_7g f_8g v_5g v_10g v_51g v_87g v_88g v_89g v_90g v_91g
end Go.Proofs.Ytmhbkiabndookaa
