/- What is proved: order2, median, medianAdjacent, choosePivot of the sort at floats: an index in the range comes of it, and the row stays. No condition but those each law names. -/
import Derived.Test.YtiancafoipllbaaRI
namespace Go.Proofs.Ytiancafoipllbaa
open Go.RowKit Go.Sort Fl
attribute [-go_sem] binOp_float_cmp_eql binOp_float_cmp_neq binOp_float_cmp_lss binOp_float_cmp_leq binOp_float_cmp_gtr binOp_float_cmp_geq
attribute [local go_sem] store_float Fl.cmp_eql Fl.cmp_neq Fl.cmp_lss Fl.cmp_leq Fl.cmp_gtr Fl.cmp_geq
set_option maxRecDepth 100000

/-- The world with a count k in a new block, n draws further. -/
def Cnt (w : World) (n : Nat) (k : Int) : World := grow (Sort.ahead w n) #[.cells #[.int .i64 k] 3]
theorem Cnt.old (w : World) (n : Nat) (k : Int) {a : Addr} (h : a.block < w.heap.size) : (Cnt w n k).cell? a = w.cell? a := cell?_grow _ _ _ h
theorem Cnt.here (w : World) (n : Nat) (k : Int) : (Cnt w n k).cell? ⟨w.heap.size, 0, none⟩ = some (.int .i64 k) := by
  unfold Cnt grow World.cell?
  simp
theorem Cnt.free (w : World) (n : Nat) (k : Int) : (Cnt w n k).frozen? ⟨w.heap.size, 0, none⟩ = false := by
  unfold Cnt grow World.frozen?
  simp
theorem Cnt.draws (w : World) (n q : Nat) (k : Int) : (Cnt w n k).drewN q = Cnt w (n + q) k := by
  unfold Cnt
  show Sort.ahead (grow (Sort.ahead w n) _) q = _
  rw [ahead_grow, ahead_ahead]
theorem Cnt.set (w : World) (n : Nat) (k k' : Int) : (Cnt w n k).setCell ⟨w.heap.size, 0, none⟩ (.int .i64 k') = Cnt w n k' := by
  unfold Cnt
  rw [setCell_eq, mapBlock_grow_new _ _ _ _ (by simp)]
  congr 1
  simp [onCells]
/-- What order2 leaves. -/
def Ord2 (w : World) (a b : Nat) (k : Int) : Ending → World → Prop := fun e w' => ∃ (x y : Nat) (n : Nat) (k' : Int), e = .returned (.tuple #[.int .i64 x, .int .i64 y]) ∧ ((x = a ∧ y = b) ∨ (x = b ∧ y = a)) ∧ k ≤ k' ∧ k' ≤ k + 1 ∧ w' = Cnt w n k'
set_option maxHeartbeats 1000000 in
theorem ord2_any (blk off cap a b n : Nat) (k : Int) (d : Array Fn) (w : World) (hH : Holds flF w blk off d) (hblk : blk < w.heap.size) (ha : a < d.size) (hb : b < d.size) (hk0 : 0 ≤ k) (hk1 : k ≤ 1000) (_ : d.size < 4611686018427387904) :
    Calls Try.prog 67 #[.slice (some ⟨blk, off, none⟩) d.size cap, .int .i64 a, .int .i64 b, .pointer (some ⟨w.heap.size, 0, none⟩)] (Cnt w n k) (Ord2 w a b k) := by
  have hca : (Cnt w n k).cell? ⟨blk, off + a, none⟩ = some (.float .f64 (d[a]!).1) := (Cnt.old w n k (a := ⟨blk, off + a, none⟩) hblk).trans (hH a ha).1
  have hcb : (Cnt w n k).cell? ⟨blk, off + b, none⟩ = some (.float .f64 (d[b]!).1) := (Cnt.old w n k (a := ⟨blk, off + b, none⟩) hblk).trans (hH b hb).1
  have hc := Cnt.here w n k
  have hf := Cnt.free w n k
  have hd := Lib.hid (Cnt.draws w n)
  have hset := Lib.hid (Cnt.set w)
  have hone := Lib.hid (rfl : Cnt w n k = Cnt w n k)
  clear hH
  generalize (d[a]!).1 = x at *
  generalize (d[b]!).1 = y at *
  obtain ⟨W, hW⟩ : ∃ W, Cnt w n k = W := ⟨_, rfl⟩
  rw [hW] at hca hcb hc hf ⊢
  have HW := Lib.hid hW
  clear hW hone
  go_enter Try.func67, Try.ntmps67
  go_wp2
  go_quiet (first | (go_at_call 52; refine Calls.quiet_of_same (less_any _ _ _)))
  go_wp2
  · go_ret2
    exact ⟨b, a, n + nq, k + 1, rfl, .inr ⟨rfl, rfl⟩, by omega, by omega, by rw [← HW.out, hd.out, hset.out]⟩
  · go_ret2
    exact ⟨a, b, n + nq, k, rfl, .inl ⟨rfl, rfl⟩, by omega, by omega, by rw [← HW.out, hd.out]⟩
/-- What median leaves. -/
def Med (w : World) (p : Nat → Prop) (k : Int) : Ending → World → Prop := fun e w' => ∃ (x : Nat) (n : Nat) (k' : Int), e = .returned (.int .i64 x) ∧ p x ∧ k ≤ k' ∧ k' ≤ k + 3 ∧ w' = Cnt w n k'
set_option maxHeartbeats 1000000 in
theorem med_any (blk off cap a b c n : Nat) (k : Int) (d : Array Fn) (w : World) (hH : Holds flF w blk off d) (hblk : blk < w.heap.size) (ha : a < d.size) (hb : b < d.size) (hc : c < d.size) (hk0 : 0 ≤ k) (hk1 : k ≤ 900) (hsz : d.size < 4611686018427387904) :
    Calls Try.prog 63 #[.slice (some ⟨blk, off, none⟩) d.size cap, .int .i64 a, .int .i64 b, .int .i64 c, .pointer (some ⟨w.heap.size, 0, none⟩)] (Cnt w n k) (Med w (fun x => x = a ∨ x = b ∨ x = c) k) := by
  have O := Lib.hid (fun (i j m : Nat) (q : Int) (hi : i < d.size) (hj : j < d.size) (h0 : 0 ≤ q) (h1 : q ≤ 1000) => ord2_any blk off cap i j m q d w hH hblk hi hj h0 h1 hsz)
  clear hH
  go_enter Try.func63, Try.ntmps63
  go_wp2_with fail
  refine (O.out a b n k ha hb hk0 (by omega)).mono ?_
  rintro _ _ ⟨x1, y1, n1, k1, rfl, h1, l1, u1, rfl⟩
  go_wp2_with fail
  refine (O.out y1 c n1 k1 (by omega) hc (by omega) (by omega)).mono ?_
  rintro _ _ ⟨x2, y2, n2, k2, rfl, h2, l2, u2, rfl⟩
  go_wp2_with fail
  refine (O.out x1 x2 n2 k2 (by omega) (by omega) (by omega) (by omega)).mono ?_
  rintro _ _ ⟨x3, y3, n3, k3, rfl, h3, l3, u3, rfl⟩
  go_wp2
  go_ret
  exact ⟨y3, n3, k3, rfl, by omega, by omega, by omega, rfl⟩
theorem adj_any (blk off cap a n : Nat) (k : Int) (d : Array Fn) (w : World) (hH : Holds flF w blk off d) (hblk : blk < w.heap.size) (ha0 : 1 ≤ a) (ha : a + 1 < d.size) (hk0 : 0 ≤ k) (hk1 : k ≤ 900) (hsz : d.size < 4611686018427387904) :
    Calls Try.prog 62 #[.slice (some ⟨blk, off, none⟩) d.size cap, .int .i64 a, .pointer (some ⟨w.heap.size, 0, none⟩)] (Cnt w n k) (Med w (fun x => x = a - 1 ∨ x = a ∨ x = a + 1) k) := by
  have M := Lib.hid (med_any blk off cap (a - 1) a (a + 1) n k d w hH hblk (by omega) (by omega) (by omega) hk0 hk1 hsz)
  clear hH
  have e1 : ((a - 1 : Nat) : Int) = (a : Int) - 1 := by omega
  have e2 : ((a + 1 : Nat) : Int) = (a : Int) + 1 := by omega
  rw [e1, e2] at M
  clear e1 e2
  go_enter Try.func62, Try.ntmps62
  go_wp2_with fail
  refine M.out.mono ?_
  rintro _ _ ⟨x, n1, k1, rfl, h1, l1, u1, rfl⟩
  go_wp2
  go_ret
  exact ⟨x, n1, k1, rfl, h1, l1, u1, rfl⟩
/-- What choosePivot leaves. -/
def Piv (w : World) (a b : Nat) : Ending → World → Prop := fun e w' => ∃ (x : Nat) (h : Int) (n : Nat) (os : Array Obj), e = .returned (.tuple #[.int .i64 x, .int .i64 h]) ∧ a ≤ x ∧ x < b ∧ (h = 0 ∨ h = 1 ∨ h = 2) ∧ w' = grow (Sort.ahead w n) os
set_option maxHeartbeats 2000000 in
theorem piv_any (blk off cap a b : Nat) (d : Array Fn) (w : World) (hH : Holds flF w blk off d) (hblk : blk < w.heap.size) (hab : a + 13 ≤ b) (hb : b ≤ d.size) (hsz : d.size < 4611686018427387904) :
    Calls Try.prog 49 #[.slice (some ⟨blk, off, none⟩) d.size cap, .int .i64 a, .int .i64 b] w (Piv w a b) := by
  have A := Lib.hid (fun (i m : Nat) (q : Int) (hi0 : 1 ≤ i) (hi : i + 1 < d.size) (h0 : 0 ≤ q) (h1 : q ≤ 900) => adj_any blk off cap i m q d w hH hblk hi0 hi h0 h1 hsz)
  have M := Lib.hid (fun (i j l m : Nat) (q : Int) (hi : i < d.size) (hj : j < d.size) (hl : l < d.size) (h0 : 0 ≤ q) (h1 : q ≤ 900) => med_any blk off cap i j l m q d w hH hblk hi hj hl h0 h1 hsz)
  clear hH
  have hW : w.alloc (.cells #[.int .i64 0] 3) = Cnt w 0 0 := by unfold Cnt; rw [alloc_eq_grow, ahead_zero]
  have HW := Lib.hid hW
  clear hW
  obtain ⟨i, hi, i1, i2⟩ : ∃ i : Nat, (a : Int) + ((b : Int) - a) / 4 = i ∧ a < i ∧ i + 1 < b := ⟨a + (b - a) / 4, by omega, by omega, by omega⟩
  obtain ⟨j, hj, j1, j2⟩ : ∃ j : Nat, (a : Int) + ((b : Int) - a) / 4 * 2 = j ∧ a < j ∧ j + 1 < b := ⟨a + (b - a) / 4 * 2, by omega, by omega, by omega⟩
  obtain ⟨l, hl, l1, l2⟩ : ∃ l : Nat, (a : Int) + ((b : Int) - a) / 4 * 3 = l ∧ a < l ∧ l + 1 < b := ⟨a + (b - a) / 4 * 3, by omega, by omega, by omega⟩
  have HI := Lib.hid hi
  have HJ := Lib.hid hj
  have HL := Lib.hid hl
  clear hi hj hl
  by_cases h50 : 50 ≤ (b : Int) - a
  · go_enter Try.func49, Try.ntmps49
    go_wp2_with fail
    rw [HI.out, HJ.out, HL.out, HW.out]
    refine (A.out i 0 0 (by omega) (by omega) (by omega) (by omega)).mono ?_
    rintro _ _ ⟨x1, n1, k1, rfl, h1, l1, u1, rfl⟩
    go_wp2_with fail
    refine (A.out j n1 k1 (by omega) (by omega) (by omega) (by omega)).mono ?_
    rintro _ _ ⟨x2, n2, k2, rfl, h2, l2, u2, rfl⟩
    go_wp2_with fail
    refine (A.out l n2 k2 (by omega) (by omega) (by omega) (by omega)).mono ?_
    rintro _ _ ⟨x3, n3, k3, rfl, h3, l3, u3, rfl⟩
    go_wp2_with fail
    refine (M.out x1 x2 x3 n3 k3 (by omega) (by omega) (by omega) (by omega) (by omega)).mono ?_
    rintro _ _ ⟨x, n4, k4, rfl, h4, l4, u4, rfl⟩
    have hc := Cnt.here w n4 k4
    go_wp2
    · go_ret2
      exact ⟨x, 1, n4, _, rfl, by omega, by omega, .inr (.inl rfl), rfl⟩
    · go_ret2
      exact ⟨x, 2, n4, _, rfl, by omega, by omega, .inr (.inr rfl), rfl⟩
    · go_ret2
      exact ⟨x, 0, n4, _, rfl, by omega, by omega, .inl rfl, rfl⟩
  · go_enter Try.func49, Try.ntmps49
    go_wp2_with fail
    rw [HI.out, HJ.out, HL.out, HW.out]
    refine (M.out i j l 0 0 (by omega) (by omega) (by omega) (by omega) (by omega)).mono ?_
    rintro _ _ ⟨x, n4, k4, rfl, h4, l4, u4, rfl⟩
    have hc := Cnt.here w n4 k4
    go_wp2
    · go_ret2
      exact ⟨x, 1, n4, _, rfl, by omega, by omega, .inr (.inl rfl), rfl⟩
    · go_ret2
      exact ⟨x, 0, n4, _, rfl, by omega, by omega, .inl rfl, rfl⟩
end Go.Proofs.Ytiancafoipllbaa
