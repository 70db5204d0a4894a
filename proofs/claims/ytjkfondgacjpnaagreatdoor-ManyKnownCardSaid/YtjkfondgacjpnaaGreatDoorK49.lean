/- What is proved: parts of the walk and of the plain law, 1 texts in one. No condition but those each law names. -/
import Derived.Test.YtjkfondgacjpnaaGreatDoorK48
namespace Go.Proofs.YtjkfondgacjpnaaGreatDoor
open Go.RowKit
open Sx (Ab DW Turns Did Foot MapIs DiskAt FootD z128)
set_option maxRecDepth 100000
def tm0 : Tm := ⟨0, 0, 0, 0, 0, 0, 0, 0, 0⟩
theorem chk0 : chkT tm0 = 15 := by kernel_rfl
theorem chk26 : chkT T26 = 0 := by kernel_rfl
theorem bsT1 (w : World) (a : Tm) : (Instr.buildSlice 55 1 #[(0, .agg a.cells)]).run Tryz.prog w = .ok (.slice (some ⟨w.heap.size, 0, none⟩) 1 1) (w.alloc (.cells a.cells 53)) := by kernel_rfl
theorem bsT2 (w : World) (a b : Tm) : (Instr.buildSlice 55 2 #[(0, .agg a.cells), (1, .agg b.cells)]).run Tryz.prog w = .ok (.slice (some ⟨w.heap.size, 0, none⟩) 2 2) (w.alloc (.cells (a.cells ++ b.cells) 53)) := by kernel_rfl
section
variable (w : World) (ρ : Operand → Value) (dst : Option Tmp) (ty : TypeId) (pos : String) (af : Array Edge) (gd : Option (Nat × Bool))
theorem ebT1 (x : Operand) (hx : ρ x = .agg (tmOf (ρ x)).cells) : (execOp ρ ⟨dst, .buildSlice 55 1 #[(0, x)], ty, pos, af, gd⟩).run Tryz.prog w = .ok (.value (.slice (some ⟨w.heap.size, 0, none⟩) 1 1)) (w.alloc (.cells (tmOf (ρ x)).cells 53)) := by
  have h := bsT1 w (tmOf (ρ x))
  rw [← hx] at h
  unfold execOp
  simp only [Sem.run_bind, Sem.run_pure, List.map_toArray, List.map_cons, List.map_nil, h, Result.andThen_ok]
theorem ebT2 (x y : Operand) (hx : ρ x = .agg (tmOf (ρ x)).cells) (hy : ρ y = .agg (tmOf (ρ y)).cells) : (execOp ρ ⟨dst, .buildSlice 55 2 #[(0, x), (1, y)], ty, pos, af, gd⟩).run Tryz.prog w = .ok (.value (.slice (some ⟨w.heap.size, 0, none⟩) 2 2)) (w.alloc (.cells ((tmOf (ρ x)).cells ++ (tmOf (ρ y)).cells) 53)) := by
  have h := bsT2 w (tmOf (ρ x)) (tmOf (ρ y))
  rw [← hx, ← hy] at h
  unfold execOp
  simp only [Sem.run_bind, Sem.run_pure, List.map_toArray, List.map_cons, List.map_nil, h, Result.andThen_ok]
end
theorem tm0_lit : (#[Value.int .i64 0, Value.int .i64 0, Value.int .i64 0, Value.int .i64 0, Value.int .i64 0, Value.int .i64 0, Value.int .i64 0, Value.int .i64 0, Value.int .i64 0] : Array Value) = tm0.cells := rfl
theorem New_bad {w : World} {b : Nat} (hb : w.heap[b]? = some (.cells (tm0.cells ++ T26.cells) 53)) : Calls Tryz.prog 21 #[.slice (some ⟨b, 0, none⟩) 2 2, .slice none 0 0] w fun x w' => x = .returned (.tuple #[.pointer none, .int .i64 15]) ∧ Below w.heap.size w w' :=
  New_err (sn := 0) (sd := []) (tt := tm0) hb (by kernel_rfl) (by decide) ⟨rfl, Nat.le_refl _, fun _ => rfl, .inl rfl⟩ (by decide) rfl fun W ao cc dv _ => Open_chk chk0 rfl
def z64 : Array Value := (bts (List.replicate 64 0)).toArray
theorem New_long {w : World} {b m : Nat} (hb : w.heap[b]? = some (.cells (T26.cells ++ T26.cells) 53)) (hm : w.heap[m]? = some (.cells z64 5)) : Calls Tryz.prog 21 #[.slice (some ⟨b, 0, none⟩) 2 2, .slice (some ⟨m, 0, none⟩) 64 64] w fun x w' => x = .returned (.tuple #[.pointer none, .int .i64 5]) ∧ Below w.heap.size w w' :=
  New_err (sn := 64) (sd := List.replicate 64 0) (tt := T26) hb (by kernel_rfl) (by decide) (by have := sl_block hm (n := 64) rfl; exact this) (by decide) rfl fun W ao cc dv _ => Open_long chk26 (by decide)
theorem make64 (w : World) : (Instr.makeSlice 56 (.int .i64 64) (.int .i64 64)).run Tryz.prog w = .ok (.slice (some ⟨w.heap.size, 0, none⟩) 64 64) (w.alloc (.cells z64 5)) := by
  obtain ⟨i, hi, h1, h2, h3⟩ := info_parts (show (Tryz.prog.info? 5).map (fun i => (i.zero, i.size, i.bytes)) = some (some (.int .u8 0), 1, 1) by kernel_rfl)
  have := run_make (P := Tryz.prog) w 56 5 i (.int .u8 0) Tryz.underlying56 hi h1 .i64 .i64 64 64 (by decide) (Int.le_refl _) (by rw [h3]; decide) (by decide)
  rw [h2] at this
  have hz : madeCells (Value.int .u8 0).cells ((64 : Int).toNat * 1) = z64 := by kernel_rfl
  rw [hz] at this
  exact this
structure LSt (W X : World) (b m : Option Nat) : Prop where
  low : Below W.heap.size W X
  hb : ∀ x, b = some x → X.heap[x]? = some (.cells (T26.cells ++ T26.cells) 53)
  hm : ∀ x, m = some x → X.heap[x]? = some (.cells z64 5)
section
variable {W X X' : World} {b m : Option Nat}
theorem LSt.step (h : LSt W X b m) (hx : Below X.heap.size X X') : LSt W X' b m :=
  ⟨h.low.trans (hx.mono h.low.size), fun x e => (hx.block _ (Array.getElem?_eq_some_iff.1 (h.hb x e)).1).trans (h.hb x e), fun x e => (hx.block _ (Array.getElem?_eq_some_iff.1 (h.hm x e)).1).trans (h.hm x e)⟩
theorem LSt.mk64 (h : LSt W X b none) : LSt W (X.alloc (.cells z64 5)) b (some X.heap.size) := by
  have s := h.step (below1 X (.cells z64 5))
  exact ⟨s.low, s.hb, fun x e => by cases e; exact heap_alloc_new X _⟩
theorem LSt.lit (h : LSt W X none m) : LSt W (X.alloc (.cells (T26.cells ++ T26.cells) 53)) (some X.heap.size) m := by
  have s := h.step (below1 X (.cells (T26.cells ++ T26.cells) 53))
  exact ⟨s.low, fun x e => by cases e; exact heap_alloc_new X _, s.hm⟩
end
theorem Swaps_zero {w : World} {S : MS} (h : MW w S) {a : Nat} {n : Nd} {D : Dm} (is : Live S a n D) (hM : D.M = []) : Calls Tryz.prog 15 #[.pointer (some ⟨S.wb, 0, none⟩), .int .i64 a] w fun e w' => ∃ ao cap, e = .returned (.slice ao 0 cap) ∧ Goes w S w' S := by
  refine (Swaps_any h is (by rw [hM]; decide) (fun p hp => by rw [hM] at hp; cases hp)).mono ?_
  rintro e w' ⟨ao, cap, ks, he, hp, _, hb⟩
  rw [hM] at hp
  have : ks = [] := List.perm_nil.1 hp
  subst this
  exact ⟨ao, cap, he, h.below hb⟩
end Go.Proofs.YtjkfondgacjpnaaGreatDoor
