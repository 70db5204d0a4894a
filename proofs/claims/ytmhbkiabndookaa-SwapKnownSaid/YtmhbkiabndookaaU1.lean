/- What is proved: what the functions of layer 19 (timeout), and the document's answers, return. Conditions: terms from 0 to 1024 where a theorem says so. -/
import Derived.Test.YtmhbkiabndookaaRow
import Derived.Test.YtmhbkiabndookaaChecked
import Derived.WalkSpells
import Derived.WalkLawsBesides
import Derived.Handy
namespace Go.Proofs.Ytmhbkiabndookaa
open Go.RowKit

/-- Terms. -/
structure T where
  base : Int
  ppm : Int
  reserve : Int
  least : Int
  most : Int
  depth : Int
  delay : Int
  lag : Int
  fast : Int

/-- A deal. -/
structure D where
  id : Int
  role : Int
  px : Int
  py : Int
  pz : Int
  gx : Int
  gy : Int
  gz : Int
  h : Nat → Int
  peer : Int

def T.cells (t : T) : Array Value := #[.int .i64 t.base, .int .i64 t.ppm, .int .i64 t.reserve, .int .i64 t.least, .int .i64 t.most, .int .i64 t.depth, .int .i64 t.delay, .int .i64 t.lag, .int .i64 t.fast]
def D.cells (d : D) : Array Value := #[.int .i64 d.id, .int .i64 d.role, .int .i64 d.px, .int .i64 d.py, .int .i64 d.pz, .int .i64 d.gx, .int .i64 d.gy, .int .i64 d.gz, .int .u8 (d.h 0), .int .u8 (d.h 1), .int .u8 (d.h 2), .int .u8 (d.h 3), .int .u8 (d.h 4), .int .u8 (d.h 5), .int .u8 (d.h 6), .int .u8 (d.h 7), .int .u8 (d.h 8), .int .u8 (d.h 9), .int .u8 (d.h 10), .int .u8 (d.h 11), .int .u8 (d.h 12), .int .u8 (d.h 13), .int .u8 (d.h 14), .int .u8 (d.h 15), .int .u8 (d.h 16), .int .u8 (d.h 17), .int .u8 (d.h 18), .int .u8 (d.h 19), .int .u8 (d.h 20), .int .u8 (d.h 21), .int .u8 (d.h 22), .int .u8 (d.h 23), .int .u8 (d.h 24), .int .u8 (d.h 25), .int .u8 (d.h 26), .int .u8 (d.h 27), .int .u8 (d.h 28), .int .u8 (d.h 29), .int .u8 (d.h 30), .int .u8 (d.h 31), .int .i64 d.peer]
def D.zero : D := ⟨0, 0, 0, 0, 0, 0, 0, 0, fun _ => 0, 0⟩

section
variable (t : T) (d : D) (v : Int)
theorem t_size : t.cells.size = 9 := rfl
theorem t_one : ones t.cells = true := by kernel_rfl
theorem t_whole : sub t.cells 0 9 = t.cells := rfl
theorem t_0 : t.cells[0]? = some (.int .i64 t.base) := rfl
theorem t_1 : t.cells[1]? = some (.int .i64 t.ppm) := rfl
theorem t_2 : t.cells[2]? = some (.int .i64 t.reserve) := rfl
theorem t_3 : t.cells[3]? = some (.int .i64 t.least) := rfl
theorem t_4 : t.cells[4]? = some (.int .i64 t.most) := rfl
theorem t_5 : t.cells[5]? = some (.int .i64 t.depth) := rfl
theorem t_6 : t.cells[6]? = some (.int .i64 t.delay) := rfl
theorem t_7 : t.cells[7]? = some (.int .i64 t.lag) := rfl
theorem t_8 : t.cells[8]? = some (.int .i64 t.fast) := rfl
theorem d_size : d.cells.size = 41 := rfl
theorem d_one : ones d.cells = true := by kernel_rfl
theorem d_whole : sub d.cells 0 41 = d.cells := by kernel_rfl
theorem d_0 : d.cells[0]? = some (.int .i64 d.id) := rfl
theorem d_1 : d.cells[1]? = some (.int .i64 d.role) := rfl
theorem d_2 : d.cells[2]? = some (.int .i64 d.px) := rfl
theorem d_3 : d.cells[3]? = some (.int .i64 d.py) := rfl
theorem d_4 : d.cells[4]? = some (.int .i64 d.pz) := rfl
theorem d_5 : d.cells[5]? = some (.int .i64 d.gx) := rfl
theorem d_6 : d.cells[6]? = some (.int .i64 d.gy) := rfl
theorem d_7 : d.cells[7]? = some (.int .i64 d.gz) := rfl
theorem d_40 : d.cells[40]? = some (.int .i64 d.peer) := rfl
theorem d_set0 : d.cells.setIfInBounds 0 (.int .i64 v) = D.cells { d with id := v } := rfl
theorem d_set1 : d.cells.setIfInBounds 1 (.int .i64 v) = D.cells { d with role := v } := rfl
theorem d_set2 : d.cells.setIfInBounds 2 (.int .i64 v) = D.cells { d with px := v } := rfl
theorem d_set3 : d.cells.setIfInBounds 3 (.int .i64 v) = D.cells { d with py := v } := rfl
theorem d_set4 : d.cells.setIfInBounds 4 (.int .i64 v) = D.cells { d with pz := v } := rfl
theorem d_set5 : d.cells.setIfInBounds 5 (.int .i64 v) = D.cells { d with gx := v } := rfl
theorem d_set6 : d.cells.setIfInBounds 6 (.int .i64 v) = D.cells { d with gy := v } := rfl
theorem d_set7 : d.cells.setIfInBounds 7 (.int .i64 v) = D.cells { d with gz := v } := rfl
theorem d_set40 : d.cells.setIfInBounds 40 (.int .i64 v) = D.cells { d with peer := v } := rfl
theorem t_set0 : t.cells.setIfInBounds 0 (.int .i64 v) = T.cells { t with base := v } := rfl
theorem t_set1 : t.cells.setIfInBounds 1 (.int .i64 v) = T.cells { t with ppm := v } := rfl
theorem t_set2 : t.cells.setIfInBounds 2 (.int .i64 v) = T.cells { t with reserve := v } := rfl
theorem t_set3 : t.cells.setIfInBounds 3 (.int .i64 v) = T.cells { t with least := v } := rfl
theorem t_set4 : t.cells.setIfInBounds 4 (.int .i64 v) = T.cells { t with most := v } := rfl
theorem t_set5 : t.cells.setIfInBounds 5 (.int .i64 v) = T.cells { t with depth := v } := rfl
theorem t_set6 : t.cells.setIfInBounds 6 (.int .i64 v) = T.cells { t with delay := v } := rfl
theorem t_set7 : t.cells.setIfInBounds 7 (.int .i64 v) = T.cells { t with lag := v } := rfl
theorem t_set8 : t.cells.setIfInBounds 8 (.int .i64 v) = T.cells { t with fast := v } := rfl
end
theorem zero29 (w : World) : (zeroValue 29).run Try.prog w = .ok (.agg D.zero.cells) w := by kernel_rfl
section
variable (w : World) (ρ : Operand → Value) (x y : Operand) (dst : Option Tmp) (ty : TypeId) (pos : String) (af : Array Edge) (gd : Option (Nat × Bool)) (b o : Nat)
theorem load23 (hp : pp (ρ x) = true) (h : po (ρ x) + 9 ≤ (rowOf w (pb (ρ x))).size) : (execOp ρ ⟨dst, .load 23 x, ty, pos, af, gd⟩).run Try.prog w = .ok (.value (.agg (sub (rowOf w (pb (ρ x))) (po (ρ x)) 9))) w :=
  exec_load_row 23 9 Try.underlying23 rfl (by kernel_rfl) w ρ x dst ty pos af gd hp h
theorem load29 (hp : pp (ρ x) = true) (h : po (ρ x) + 41 ≤ (rowOf w (pb (ρ x))).size) : (execOp ρ ⟨dst, .load 29 x, ty, pos, af, gd⟩).run Try.prog w = .ok (.value (.agg (sub (rowOf w (pb (ρ x))) (po (ρ x)) 41))) w :=
  exec_load_row 29 41 Try.underlying29 rfl (by kernel_rfl) w ρ x dst ty pos af gd hp h
theorem store29 (hp : pp (ρ x) = true) (h0 : po (ρ x) = 0) (hv : isAg (ρ y) = true) (hs : soft w (pb (ρ x)) = true) (hr : (rowOf w (pb (ρ x))).size = 41) (hn : (agc (ρ y)).size = 41) (h1 : ones (agc (ρ y)) = true) :
    (execOp ρ ⟨dst, .store 29 x y, ty, pos, af, gd⟩).run Try.prog w = .ok .skip (w.setRow (pb (ρ x)) (agc (ρ y))) :=
  exec_store_row 29 41 (by kernel_rfl) w ρ x y dst ty pos af gd hp h0 hv hs hr hn h1
theorem var23 (h : o + 9 ≤ (rowOf w b).size) : (loadVar 23 ⟨b, o, none⟩).run Try.prog w = .ok (.agg (sub (rowOf w b) o 9)) w := var_row 23 9 Try.underlying23 rfl (by kernel_rfl) w b o h
theorem var29 (h : o + 41 ≤ (rowOf w b).size) : (loadVar 29 ⟨b, o, none⟩).run Try.prog w = .ok (.agg (sub (rowOf w b) o 41)) w := var_row 29 41 Try.underlying29 rfl (by kernel_rfl) w b o h
theorem results23 {fn : Func} {p : Tmp} (hr : fn.results = #[.cell p 23]) (tmps : Array Value) (hp : tmps.getD p undef = .pointer (some ⟨b, 0, none⟩)) {cs : Array Value} (hc : rowOf w b = cs) (hn : cs.size = 9) :
    (results fn tmps).run Try.prog w = .ok (.agg cs) w := results_row hr Try.underlying23 rfl (by kernel_rfl) tmps w b hp hc hn
theorem results29 {fn : Func} {p : Tmp} (hr : fn.results = #[.cell p 29]) (tmps : Array Value) (hp : tmps.getD p undef = .pointer (some ⟨b, 0, none⟩)) {cs : Array Value} (hc : rowOf w b = cs) (hn : cs.size = 41) :
    (results fn tmps).run Try.prog w = .ok (.agg cs) w := results_row hr Try.underlying29 rfl (by kernel_rfl) tmps w b hp hc hn
end
attribute [go_sem ↓] zero29 load23 load29 store29 var23 var29
attribute [go_sem] t_size t_one t_whole t_0 t_1 t_2 t_3 t_4 t_5 t_6 t_7 t_8 d_size d_one d_whole d_0 d_1 d_2 d_3 d_4 d_5 d_6 d_7 d_40 d_set0 d_set1 d_set2 d_set3 d_set4 d_set5 d_set6 d_set7 d_set40 t_set0 t_set1 t_set2 t_set3 t_set4 t_set5 t_set6 t_set7 t_set8
attribute [go_sem] Ext.cell Ext.frozen Ext.row Ext.soft_ rowOf_alloc soft_alloc rowOf_setCell soft_setCell rowOf_setRow soft_setRow cell_setRow frozen_setRow frozen_of_soft rowOf_drew soft_drew

/-- max with 0, as the walk spells it. -/
def mx0 (v : Int) : Int := if 0 < v then v else 0
theorem mx0_fold (v : Int) : (if 0 < v then v else 0) = mx0 v := rfl
theorem mx0_fold' (v : Int) : (if v < 0 then 0 else v) = mx0 v := by unfold mx0; split <;> split <;> omega

def clk (a b c i : Int) : Int := if i = 0 then a else if i = 1 then b else if i = 2 then c else 0

/-- Terms that are right. -/
structure T.Ok (t : T) : Prop where
  d0 : 0 ≤ t.depth
  d1 : t.depth ≤ 1024
  y0 : 0 ≤ t.delay
  y1 : t.delay ≤ 1024
  g0 : 0 ≤ t.lag
  g1 : t.lag ≤ 1024
  f0 : 0 ≤ t.fast
  f1 : t.fast ≤ 1024

def T.mar (t : T) : Int := t.depth + t.delay + t.lag + 1
theorem T.Ok.mar {t : T} (h : t.Ok) : 1 ≤ t.mar ∧ t.mar ≤ 3073 := by
  obtain ⟨a, b, c, d, e, f, _, _⟩ := h
  unfold T.mar; omega
def T.long (t : T) : Int := t.fast * (3 * t.mar) + t.mar
theorem T.Ok.prod {t : T} (h : t.Ok) : 0 ≤ t.fast * (3 * t.mar) ∧ t.fast * (3 * t.mar) ≤ 9440256 := by
  have hm := h.mar
  have h1 : 0 ≤ t.fast * (3 * t.mar) := Int.mul_nonneg h.f0 (by omega)
  have h2 : t.fast * (3 * t.mar) ≤ 1024 * (3 * t.mar) := Int.mul_le_mul_of_nonneg_right h.f1 (by omega)
  omega
theorem T.Ok.long {t : T} (h : t.Ok) : 1 ≤ t.long ∧ t.long ≤ 9443329 := by
  have := h.prod; have := h.mar; unfold T.long; omega

/-- The deal with its times. -/
def D.legs (d : D) (t : T) (a b c : Int) : D :=
  if d.role = 1 then { d with pz := wrap64 (clk a b c d.px + t.long), gz := wrap64 (clk a b c d.gx + 3 * t.mar) }
  else { d with pz := wrap64 (clk a b c d.px + 3 * t.mar), gz := wrap64 (clk a b c d.gx + t.long) }
def D.leftP (d : D) (a b c : Int) : Int := mx0 (wrap64 (d.pz - clk a b c d.px))
def D.leftG (d : D) (a b c : Int) : Int := mx0 (wrap64 (d.gz - clk a b c d.gx))
/-- Whether it is safe: 0, or the error. -/
def D.safe (d : D) (t : T) (a b c : Int) : Int :=
  if d.leftG a b c < (if d.role = 1 then t.mar else wrap64 (t.mar + wrap64 (d.leftP a b c * t.fast))) then 23 else 0

/-! ### The places -/
theorem at_any (a b c i : Int) (w : World) : Calls Try.prog 49 #[(.agg #[.int .i64 a, .int .i64 b, .int .i64 c]), .int .i64 i] w (Ret (.int .i64 (clk a b c i)) w) := by
  rcases (by omega : i < 0 ∨ i = 0 ∨ i = 1 ∨ i = 2 ∨ 3 ≤ i) with h | rfl | rfl | rfl | h
  · go_enter Try.func49, Try.ntmps49
    go_wp2
    go_ret
    have : clk a b c i = 0 := by unfold clk; (repeat rw [if_neg (by omega)])
    rw [this]
    (refine Ret.mk ?_; (repeat' (first | (with_reducible exact Below.refl _ _) | (with_reducible assumption) | (with_reducible refine Ext.up _ ?_) | (with_reducible refine Below.alloc ?_ ?_ _) | (with_reducible refine Below.drew ?_) | (with_reducible refine Below.setCell ?_ ?_ _) | (with_reducible refine Below.setRow_ ?_ ?_ _) | go_size)))
  · go_enter Try.func49, Try.ntmps49
    go_wp2
    go_ret
    (refine Ret.mk ?_; (repeat' (first | (with_reducible exact Below.refl _ _) | (with_reducible assumption) | (with_reducible refine Ext.up _ ?_) | (with_reducible refine Below.alloc ?_ ?_ _) | (with_reducible refine Below.drew ?_) | (with_reducible refine Below.setCell ?_ ?_ _) | (with_reducible refine Below.setRow_ ?_ ?_ _) | go_size)))
  · go_enter Try.func49, Try.ntmps49
    go_wp2
    go_ret
    (refine Ret.mk ?_; (repeat' (first | (with_reducible exact Below.refl _ _) | (with_reducible assumption) | (with_reducible refine Ext.up _ ?_) | (with_reducible refine Below.alloc ?_ ?_ _) | (with_reducible refine Below.drew ?_) | (with_reducible refine Below.setCell ?_ ?_ _) | (with_reducible refine Below.setRow_ ?_ ?_ _) | go_size)))
  · go_enter Try.func49, Try.ntmps49
    go_wp2
    go_ret
    (refine Ret.mk ?_; (repeat' (first | (with_reducible exact Below.refl _ _) | (with_reducible assumption) | (with_reducible refine Ext.up _ ?_) | (with_reducible refine Below.alloc ?_ ?_ _) | (with_reducible refine Below.drew ?_) | (with_reducible refine Below.setCell ?_ ?_ _) | (with_reducible refine Below.setRow_ ?_ ?_ _) | go_size)))
  · go_enter Try.func49, Try.ntmps49
    go_wp2
    go_ret
    have : clk a b c i = 0 := by unfold clk; (repeat rw [if_neg (by omega)])
    rw [this]
    (refine Ret.mk ?_; (repeat' (first | (with_reducible exact Below.refl _ _) | (with_reducible assumption) | (with_reducible refine Ext.up _ ?_) | (with_reducible refine Below.alloc ?_ ?_ _) | (with_reducible refine Below.drew ?_) | (with_reducible refine Below.setCell ?_ ?_ _) | (with_reducible refine Below.setRow_ ?_ ?_ _) | go_size)))

theorem refAt_any (x y z a b c : Int) (w : World) : Calls Try.prog 51 #[.agg #[.int .i64 x, .int .i64 y, .int .i64 z], (.agg #[.int .i64 a, .int .i64 b, .int .i64 c])] w (Ret (.int .i64 (clk a b c x)) w) := by
  rcases (by omega : x < 0 ∨ x = 0 ∨ x = 1 ∨ x = 2 ∨ 3 ≤ x) with h | rfl | rfl | rfl | h
  · go_enter Try.func51, Try.ntmps51
    go_wp2
    go_ret
    have : clk a b c x = 0 := by unfold clk; (repeat rw [if_neg (by omega)])
    rw [this]
    (refine Ret.mk ?_; (repeat' (first | (with_reducible exact Below.refl _ _) | (with_reducible assumption) | (with_reducible refine Ext.up _ ?_) | (with_reducible refine Below.alloc ?_ ?_ _) | (with_reducible refine Below.drew ?_) | (with_reducible refine Below.setCell ?_ ?_ _) | (with_reducible refine Below.setRow_ ?_ ?_ _) | go_size)))
  · go_enter Try.func51, Try.ntmps51
    go_wp2
    go_ret
    (refine Ret.mk ?_; (repeat' (first | (with_reducible exact Below.refl _ _) | (with_reducible assumption) | (with_reducible refine Ext.up _ ?_) | (with_reducible refine Below.alloc ?_ ?_ _) | (with_reducible refine Below.drew ?_) | (with_reducible refine Below.setCell ?_ ?_ _) | (with_reducible refine Below.setRow_ ?_ ?_ _) | go_size)))
  · go_enter Try.func51, Try.ntmps51
    go_wp2
    go_ret
    (refine Ret.mk ?_; (repeat' (first | (with_reducible exact Below.refl _ _) | (with_reducible assumption) | (with_reducible refine Ext.up _ ?_) | (with_reducible refine Below.alloc ?_ ?_ _) | (with_reducible refine Below.drew ?_) | (with_reducible refine Below.setCell ?_ ?_ _) | (with_reducible refine Below.setRow_ ?_ ?_ _) | go_size)))
  · go_enter Try.func51, Try.ntmps51
    go_wp2
    go_ret
    (refine Ret.mk ?_; (repeat' (first | (with_reducible exact Below.refl _ _) | (with_reducible assumption) | (with_reducible refine Ext.up _ ?_) | (with_reducible refine Below.alloc ?_ ?_ _) | (with_reducible refine Below.drew ?_) | (with_reducible refine Below.setCell ?_ ?_ _) | (with_reducible refine Below.setRow_ ?_ ?_ _) | go_size)))
  · go_enter Try.func51, Try.ntmps51
    go_wp2
    go_ret
    have : clk a b c x = 0 := by unfold clk; (repeat rw [if_neg (by omega)])
    rw [this]
    (refine Ret.mk ?_; (repeat' (first | (with_reducible exact Below.refl _ _) | (with_reducible assumption) | (with_reducible refine Ext.up _ ?_) | (with_reducible refine Below.alloc ?_ ?_ _) | (with_reducible refine Below.drew ?_) | (with_reducible refine Below.setCell ?_ ?_ _) | (with_reducible refine Below.setRow_ ?_ ?_ _) | go_size)))

attribute [local go_sem] mx0_fold mx0_fold'
theorem left_any (a b c x y z : Int) (w : World) : Calls Try.prog 30 #[(.agg #[.int .i64 a, .int .i64 b, .int .i64 c]), .agg #[.int .i64 x, .int .i64 y, .int .i64 z]] w (Ret (.int .i64 (mx0 (wrap64 (z - clk a b c x)))) w) := by
  go_enter Try.func30, Try.ntmps30
  go_wp2
  (refine wp_region_grow (by kernel_rfl) (by kernel_rfl) ?_; (repeat (go_big_quiet_step ((exact Calls.ext_of (at_any _ _ _ _ _))))); refine wpQuiet_nil ?_; rintro _ ⟨g, rfl⟩)
  go_wp2
  go_ret
  (refine Ret.mk ?_; (repeat' (first | (with_reducible exact Below.refl _ _) | (with_reducible assumption) | (with_reducible refine Ext.up _ ?_) | (with_reducible refine Below.alloc ?_ ?_ _) | (with_reducible refine Below.drew ?_) | (with_reducible refine Below.setCell ?_ ?_ _) | (with_reducible refine Below.setRow_ ?_ ?_ _) | go_size)))

theorem Left_any (d : D) (a b c : Int) (w : World) :
    Calls Try.prog 14 #[(.agg d.cells), (.agg #[.int .i64 a, .int .i64 b, .int .i64 c])] w (Ret (.tuple #[.int .i64 (d.leftP a b c), .int .i64 (d.leftG a b c)]) w) := by
  have hmf : ∀ (fn : Fn) (first cap : Array Value) (w : World), (Instr.makeFunc fn first cap).run Try.prog w = .ok (.func fn first cap) w := fun _ _ _ _ => rfl
  go_enter Try.func14, Try.ntmps14
  go_wp2
  (refine wp_region_grow (by kernel_rfl) (by kernel_rfl) ?_; (repeat (go_big_quiet_step ((exact Calls.ext_of (left_any _ _ _ _ _ _ _))))); refine wpQuiet_nil ?_; rintro _ ⟨g, rfl⟩)
  go_wp2
  go_ret2
  (refine Ret.mk ?_; (repeat' (first | (with_reducible exact Below.refl _ _) | (with_reducible assumption) | (with_reducible refine Ext.up _ ?_) | (with_reducible refine Below.alloc ?_ ?_ _) | (with_reducible refine Below.drew ?_) | (with_reducible refine Below.setCell ?_ ?_ _) | (with_reducible refine Below.setRow_ ?_ ?_ _) | go_size)))

theorem refLeft_any (d : D) (a b c : Int) (w : World) :
    Calls Try.prog 47 #[(.agg d.cells), (.agg #[.int .i64 a, .int .i64 b, .int .i64 c])] w (Ret (.tuple #[.int .i64 (d.leftP a b c), .int .i64 (d.leftG a b c)]) w) := by
  go_enter Try.func47, Try.ntmps47
  go_wp2
  (refine wp_region_grow (by kernel_rfl) (by kernel_rfl) ?_; (repeat (go_big_quiet_step ((exact Calls.ext_of (refAt_any _ _ _ _ _ _ _))))); refine wpQuiet_nil ?_; rintro _ ⟨g, rfl⟩)
  have sg0 : w.heap.size < g.val.heap.size := (Nat.lt_of_lt_of_le (by go_size) g.size); have sg1 : w.heap.size + 1 < g.val.heap.size := (Nat.lt_of_lt_of_le (by go_size) g.size)
  go_wp2
  (refine wp_region_grow (by kernel_rfl) (by kernel_rfl) ?_; (repeat (go_big_quiet_step ((exact Calls.ext_of (refAt_any _ _ _ _ _ _ _))))); refine wpQuiet_nil ?_; rintro _ ⟨g2, rfl⟩)
  go_wp2
  go_ret2
  (refine Ret.mk ?_; (repeat' (first | (with_reducible exact Below.refl _ _) | (with_reducible assumption) | (with_reducible refine Ext.up _ ?_) | (with_reducible refine Below.alloc ?_ ?_ _) | (with_reducible refine Below.drew ?_) | (with_reducible refine Below.setCell ?_ ?_ _) | (with_reducible refine Below.setRow_ ?_ ?_ _) | go_size)))

/-! ### The margins -/
theorem Margin_any (t : T) (ht : t.Ok) (w : World) : Calls Try.prog 29 #[(.agg t.cells)] w (Ret (.int .i64 t.mar) w) := by
  obtain ⟨h1, h2, h3, h4, h5, h6, h7, h8⟩ := ht
  go_enter Try.func29, Try.ntmps29
  go_wp2
  go_ret
  (refine Ret.mk ?_; (repeat' (first | (with_reducible exact Below.refl _ _) | (with_reducible assumption) | (with_reducible refine Ext.up _ ?_) | (with_reducible refine Below.alloc ?_ ?_ _) | (with_reducible refine Below.drew ?_) | (with_reducible refine Below.setCell ?_ ?_ _) | (with_reducible refine Below.setRow_ ?_ ?_ _) | go_size)))
theorem refMargin_any (t : T) (ht : t.Ok) (w : World) : Calls Try.prog 48 #[(.agg t.cells)] w (Ret (.int .i64 t.mar) w) := by
  obtain ⟨h1, h2, h3, h4, h5, h6, h7, h8⟩ := ht
  go_enter Try.func48, Try.ntmps48
  go_wp2
  go_ret
  (refine Ret.mk ?_; (repeat' (first | (with_reducible exact Below.refl _ _) | (with_reducible assumption) | (with_reducible refine Ext.up _ ?_) | (with_reducible refine Below.alloc ?_ ?_ _) | (with_reducible refine Below.drew ?_) | (with_reducible refine Below.setCell ?_ ?_ _) | (with_reducible refine Below.setRow_ ?_ ?_ _) | go_size)))
theorem Short_any (t : T) (ht : t.Ok) (w : World) : Calls Try.prog 31 #[(.agg t.cells)] w (Ret (.int .i64 (3 * t.mar)) w) := by
  have hm := ht.mar
  go_enter Try.func31, Try.ntmps31
  go_wp2_with (go_at_call 29; refine (Margin_any t ht _).mono ?_; rintro _ _ ⟨rfl, g, rfl⟩)
  go_ret
  (refine Ret.mk ?_; (repeat' (first | (with_reducible exact Below.refl _ _) | (with_reducible assumption) | (with_reducible refine Ext.up _ ?_) | (with_reducible refine Below.alloc ?_ ?_ _) | (with_reducible refine Below.drew ?_) | (with_reducible refine Below.setCell ?_ ?_ _) | (with_reducible refine Below.setRow_ ?_ ?_ _) | go_size)))
theorem Long_any (t : T) (ht : t.Ok) (w : World) : Calls Try.prog 17 #[(.agg t.cells)] w (Ret (.int .i64 t.long) w) := by
  have hm := ht.mar
  have hp := ht.prod
  go_enter Try.func17, Try.ntmps17
  go_wp2
  (refine wp_region_grow (by kernel_rfl) (by kernel_rfl) ?_; (repeat (go_big_quiet_step ((first | (go_at_call 31; exact Calls.ext_of (Short_any t ht _)) | (go_at_call 29; exact Calls.ext_of (Margin_any t ht _)))))); refine wpQuiet_nil ?_; rintro _ ⟨g, rfl⟩)
  go_wp2
  go_ret
  (refine Ret.mk ?_; (repeat' (first | (with_reducible exact Below.refl _ _) | (with_reducible assumption) | (with_reducible refine Ext.up _ ?_) | (with_reducible refine Below.alloc ?_ ?_ _) | (with_reducible refine Below.drew ?_) | (with_reducible refine Below.setCell ?_ ?_ _) | (with_reducible refine Below.setRow_ ?_ ?_ _) | go_size)))
end Go.Proofs.Ytmhbkiabndookaa
