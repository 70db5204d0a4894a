/- What is proved: what the walks of the sort's functions have in common (a row, as it lies behind swaps); reverseRange, order2, median, choosePivot: contracts that tell what the sort leans on. No condition but those each law names. -/
import Derived.Test.YtiancafoipllbaaR7
import Derived.Sort.LotD3
import Derived.Sort.LotC
import Derived.Sort.LotB
import Derived.Sort.LotD1
import Derived.Lib.Hide
namespace Go.Proofs.Ytiancafoipllbaa
open Go.RowKit Go.Sort Fl
attribute [-go_sem] binOp_float_cmp_eql binOp_float_cmp_neq binOp_float_cmp_lss binOp_float_cmp_leq binOp_float_cmp_gtr binOp_float_cmp_geq
attribute [local go_sem] store_float Fl.cmp_eql Fl.cmp_neq Fl.cmp_lss Fl.cmp_leq Fl.cmp_gtr Fl.cmp_geq
set_option maxRecDepth 100000

/-- A quiet call behind draws. -/
theorem quiet_again {P : Program} {f : FuncId} {args : Array Value} {w : World} {a n : Nat} {v : Value} (h : Calls P f args (w.drewN (a + n)) fun e w' => e = .returned v ∧ w' = w.drewN (a + n)) :
    Calls P f args (w.drewN (a + n)) fun e w'' => e = .returned v ∧ ∃ m, w'' = w.drewN (a + m) := h.mono fun _ _ ⟨he, hm⟩ => ⟨he, n, hm⟩
/-- The world in which that row holds d; new blocks may have come; all else is as it was. -/
def AtRow (w : World) (blk off : Nat) (d : Array Fn) (W : World) : Prop := ∃ n os, W = grow (putRow flF (Sort.ahead w n) blk off d) os
theorem AtRow.refl {w : World} {blk off : Nat} {d : Array Fn} (h : Holds flF w blk off d) : AtRow w blk off d w :=
  ⟨0, #[], by rw [grow_empty, ahead_zero, putRow_self _ _ _ _ _ h]⟩
theorem AtRow.lt {w W : World} {blk off : Nat} {d : Array Fn} (h : AtRow w blk off d W) (hb : blk < w.heap.size) : blk < W.heap.size := by
  obtain ⟨n, os, rfl⟩ := h
  show blk < ((putRow flF (Sort.ahead w n) blk off d).heap ++ os).size
  rw [Array.size_append, size_putRow]
  exact Nat.lt_of_lt_of_le hb (Nat.le_add_right _ _)
theorem AtRow.holds {w W : World} {blk off : Nat} {d d' : Array Fn} (h : AtRow w blk off d' W) (hH : Holds flF w blk off d) (hb : blk < w.heap.size) (hs : d'.size = d.size) : Holds flF W blk off d' := by
  obtain ⟨n, os, rfl⟩ := h
  exact holds_grow _ _ _ _ _ _ (by rw [size_putRow]; exact hb) (holds_putRow flF _ blk off d d' (holds_ahead _ _ n _ _ _ hH) hs)
theorem AtRow.trans {w W W2 : World} {blk off : Nat} {d d' : Array Fn} (h : AtRow w blk off d W) (h2 : AtRow W blk off d' W2) (hb : blk < w.heap.size) (hs : d'.size = d.size) : AtRow w blk off d' W2 := by
  obtain ⟨n, os, rfl⟩ := h
  obtain ⟨m, os', rfl⟩ := h2
  exact ⟨n + m, os ++ os', grow_step_grow _ _ _ _ _ _ _ _ _ _ hb hs⟩
theorem AtRow.draws {w W : World} {blk off : Nat} {d : Array Fn} (h : AtRow w blk off d W) (q : Nat) : AtRow w blk off d (W.drewN q) := by
  obtain ⟨n, os, rfl⟩ := h
  refine ⟨n + q, os, ?_⟩
  show Sort.ahead (grow (putRow flF (Sort.ahead w n) blk off d) os) q = _
  rw [ahead_grow, ← putRow_ahead, ahead_ahead]
/-- Two cells change places. -/
theorem AtRow.swap {w W : World} {blk off : Nat} {d d' : Array Fn} (h : AtRow w blk off d W) (hH : Holds flF w blk off d') (hs : d.size = d'.size) (hb : blk < w.heap.size) (q : Nat) {i j : Nat} (hi : i < d.size) (hj : j < d.size) :
    AtRow w blk off (swp d i j) (((W.drewN q).setCell ⟨blk, off + i, none⟩ (flF d[j]!)).setCell ⟨blk, off + j, none⟩ (flF d[i]!)) := by
  have hW := h.holds hH hb hs
  have e : AtRow W blk off (swp d i j) (((W.drewN q).setCell ⟨blk, off + i, none⟩ (flF d[j]!)).setCell ⟨blk, off + j, none⟩ (flF d[i]!)) := by
    refine ⟨q, #[], ?_⟩
    rw [grow_empty]
    have := row_swap W 0 q blk off d hi hj
    rw [ahead_zero, putRow_self _ _ _ _ _ hW, Nat.zero_add] at this
    exact this
  exact h.trans e hb (size_swp d i j)
/-- The words of a row's floats. -/
theorem row_words (d : Array Fn) : ∃ G : Nat → Nat, ∀ t, G t = (d[t]!).1 := ⟨fun t => (d[t]!).1, fun _ => rfl⟩
theorem AtRow.cells {w W : World} {blk off : Nat} {d d' : Array Fn} {G : Nat → Nat} (h : AtRow w blk off d W) (hH : Holds flF w blk off d') (hs : d.size = d'.size) (hb : blk < w.heap.size) (hG : ∀ t, G t = (d[t]!).1) :
    (∀ t, t < d'.size → W.cell? ⟨blk, off + t, none⟩ = some (.float .f64 (G t))) ∧ ∀ t, t < d'.size → W.frozen? ⟨blk, off + t, none⟩ = false := by
  have hW := h.holds hH hb hs
  exact ⟨fun t ht => by rw [hG]; exact (hW t (by omega)).1, fun t ht => (hW t (by omega)).2⟩
theorem AtRow.swap1 {w W : World} {blk off : Nat} {d d' : Array Fn} {G : Nat → Nat} (h : AtRow w blk off d W) (hH : Holds flF w blk off d') (hs : d.size = d'.size) (hb : blk < w.heap.size) (hG : ∀ t, G t = (d[t]!).1) {i j : Nat} (hi : i < d.size) (hj : j < d.size) :
    AtRow w blk off (swp d i j) ((W.setCell ⟨blk, off + i, none⟩ (.float .f64 (G j))).setCell ⟨blk, off + j, none⟩ (.float .f64 (G i))).drew := by
  rw [hG, hG]
  exact h.swap hH hs hb 1 hi hj
/-- A cell behind a store that may have been its own. -/
theorem cell_behind {W : World} {blk x y u v : Nat} (hx : ∃ z, W.cell? ⟨blk, x, none⟩ = some (.float .f64 z)) (hy : W.cell? ⟨blk, y, none⟩ = some (.float .f64 u)) : ∃ z, (W.setCell ⟨blk, x, none⟩ (.float .f64 v)).cell? ⟨blk, y, none⟩ = some (.float .f64 z) := by
  by_cases h : x = y
  · subst h
    obtain ⟨z, hz⟩ := hx
    obtain ⟨c, e, fr, hc, hk⟩ := cells_of_cell? hz
    refine ⟨v, ?_⟩
    rw [setCell_eq, cell?_mapBlock _ _ _ _ hc]
    have := (Array.getElem?_eq_some_iff.1 hk).1
    simp [this]
  · obtain ⟨c, e, fr, hc, hk⟩ := cells_of_cell? hy
    refine ⟨u, ?_⟩
    rw [setCell_eq, cell?_mapBlock _ _ _ _ hc, Array.getElem?_setIfInBounds_ne h]
    exact hk
set_option maxHeartbeats 2000000 in
/-- reverseRange: it permutes within the range. -/
theorem rev_any (blk off cap a b : Nat) (d : Array Fn) (w : World) (hH : Holds flF w blk off d) (hblk : blk < w.heap.size) (hab : a ≤ b) (hb : b ≤ d.size) (hsz : d.size < 4611686018427387904) :
    Calls Try.prog 50 #[.slice (some ⟨blk, off, none⟩) d.size cap, .int .i64 a, .int .i64 b] w fun e w' =>
      e = .returned (.tuple #[]) ∧ ∃ d', PermIn a b d d' ∧ AtRow w blk off d' w' := by
  have HH := Lib.hid hH
  clear hH
  go_enter Try.func50, Try.ntmps50
  go_wp2
  go_loopw [6, 7] (fun vi vj wr => ∃ (i : Nat) (j : Int) (dk : Array Fn), vi = .int .i64 i ∧ vj = .int .i64 j ∧ a ≤ i ∧ -1 ≤ j ∧ j < b ∧ i ≤ b ∧ Hid (PermIn a b d dk ∧ AtRow w blk off dk wr)) (fun vi _ _ => b - (numOf vi).toNat)
  case atStart => exact ⟨a, (b : Int) - 1, d, rfl, rfl, Nat.le_refl _, by omega, by omega, hab, Lib.hid ⟨permIn_refl d a b, AtRow.refl HH.out⟩⟩
  case round =>
    obtain ⟨i, j, dk, rfl, rfl, hai, hj0, hjb, hib, HR⟩ := hrel
    by_cases hlt : (i : Int) < j
    · obtain ⟨k, rfl⟩ : ∃ k : Nat, j = k := ⟨j.toNat, by omega⟩
      obtain ⟨G, hG⟩ := row_words dk
      have hs : dk.size = d.size := HR.out.1.1
      obtain ⟨hcw, hfw⟩ := HR.out.2.cells HH.out hs hblk hG
      have HG := Lib.hid hG
      have HS := Lib.hid hs
      clear hG hs
      go_wp2
      go_region
      all_goals go_wp2
      go_roundw
      case rel =>
        have hs := HS.out
        refine ⟨i + 1, (k : Int) - 1, swp dk i k, by go_num, rfl, by omega, by omega, by omega, by omega, Lib.hid ⟨permIn_trans _ _ _ a b HR.out.1 (swp_permIn dk a b i k (by omega) (by omega) (by omega) (by omega) (by omega)), ?_⟩⟩
        rw [HG.out, HG.out]
        exact HR.out.2.swap HH.out hs hblk _ (by omega) (by omega)
      case measure => simp [numOf]; omega
    · go_wp2
      go_end0
      exact ⟨rfl, dk, HR.out.1, HR.out.2⟩
end Go.Proofs.Ytiancafoipllbaa
