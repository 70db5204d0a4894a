/- What is proved: breakPatterns of the sort at floats permutes within the range. No condition but those each law names. -/
import Derived.Test.YtiancafoipllbaaRM
import Derived.Laws.BitsAllLaws
namespace Go.Proofs.Ytiancafoipllbaa
open Go.RowKit Go.Sort Fl
attribute [-go_sem] binOp_float_cmp_eql binOp_float_cmp_neq binOp_float_cmp_lss binOp_float_cmp_leq binOp_float_cmp_gtr binOp_float_cmp_geq
attribute [local go_sem] store_float Fl.cmp_eql Fl.cmp_neq Fl.cmp_lss Fl.cmp_leq Fl.cmp_gtr Fl.cmp_geq
set_option maxRecDepth 100000

theorem and_le (x : Int) {m : Nat} (h : m < 18446744073709551616) : ∃ o : Nat, bits .and .u64 x (m : Int) = (o : Nat) ∧ o ≤ m := by
  have hm : (BitVec.ofInt 64 (m : Int)).toNat = m := by
    rw [BitVec.toNat_ofInt]
    omega
  have hle : (BitVec.ofInt 64 x &&& BitVec.ofInt 64 (m : Int)).toNat ≤ m := by
    rw [BitVec.toNat_and, hm]
    exact Nat.and_le_right
  refine ⟨_, ?_, hle⟩
  show IntKind.u64.wrap ((BitVec.ofInt 64 x &&& BitVec.ofInt 64 (m : Int)).toNat : Int) = _
  generalize (BitVec.ofInt 64 x &&& BitVec.ofInt 64 (m : Int)).toNat = z at hle
  exact IntWalk.u64_in _ (by omega)
theorem pow_len : ∀ (k n : Nat), 0 < n → n < 2 ^ k → k ≤ 62 → n < 2 ^ Lib.bitLen n ∧ 2 ^ Lib.bitLen n ≤ 2 * n := by
  intro k
  induction k with
  | zero => intro n h0 h _; omega
  | succ k ih =>
    intro n h0 h hk
    have hn : n < 2 ^ 64 := Nat.lt_of_lt_of_le h (Nat.pow_le_pow_right (by decide) (by omega))
    rw [Lib.bitLen_half n (by omega) hn]
    by_cases h1 : n / 2 = 0
    · have : n = 1 := by omega
      subst this
      decide
    · have hp : n < 2 ^ k * 2 := by rw [← Nat.pow_succ]; exact h
      obtain ⟨a, b⟩ := ih (n / 2) (by omega) (by omega) (by omega)
      rw [Nat.add_comm, Nat.pow_succ]
      omega
/-- nextPowerOfTwo. -/
theorem pow2_any (n : Nat) (h0 : 0 < n) (hn : n < 4611686018427387904) (w : World) : Calls Try.prog 60 #[.int .i64 n] w fun e w' => (∃ m : Nat, e = .returned (.int .u64 m) ∧ n < m ∧ m ≤ 2 * n) ∧ w' = w := by
  obtain ⟨p1, p2⟩ := pow_len 62 n h0 hn (by decide)
  have hl : Lib.bitLen n ≤ 64 := by
    apply Nat.le_of_not_lt
    intro h
    have : 2 ^ 64 ≤ 2 ^ Lib.bitLen n := Nat.pow_le_pow_right (by decide) (by omega)
    omega
  obtain ⟨m, hm⟩ : ∃ m, 2 ^ Lib.bitLen n = m := ⟨_, rfl⟩
  rw [hm] at p1 p2
  have e1 : IntKind.u64.wrap (1 * 2 ^ Lib.bitLen n) = (m : Int) := by
    have : (2 : Int) ^ Lib.bitLen n = (m : Nat) := by rw [← hm]; norm_cast
    rw [this, Int.one_mul]
    exact IntWalk.u64_in _ (by omega)
  have e2 : IntKind.u64.wrap (2 ^ Lib.bitLen n) = (m : Int) := by rw [← e1, Int.one_mul]
  have L := Lib.hid (fun w => len_lay (n : Int) w (by omega) (by omega))
  rw [Int.toNat_natCast] at L
  clear hm
  go_enter Try.func60, Try.ntmps60
  go_wp2_with (go_at_call 41; refine (L.out _).mono ?_; rintro _ w1 ⟨rfl, e⟩; obtain rfl := e.symm)
  go_ret
  exact ⟨⟨m, rfl, p1, p2⟩, rfl⟩
/-- What Next leaves. -/
def NextP (g : Nat) (W : World) : Ending → World → Prop := fun e w' => ∃ (n : Nat) (y : Int), e = .returned (.int .u64 y) ∧ w' = (W.drewN n).setCell ⟨g, 0, none⟩ (.int .u64 y)
theorem set_here {W : World} {g : Nat} {u v : Value} (h : W.cell? ⟨g, 0, none⟩ = some u) (hf : W.frozen? ⟨g, 0, none⟩ = false) : (W.setCell ⟨g, 0, none⟩ v).drew.cell? ⟨g, 0, none⟩ = some v ∧ (W.setCell ⟨g, 0, none⟩ v).drew.frozen? ⟨g, 0, none⟩ = false := by
  obtain ⟨c, e, fr, hc, hk⟩ := cells_of_cell? h
  have hlt := (Array.getElem?_eq_some_iff.1 hk).1
  constructor
  · show (W.setCell ⟨g, 0, none⟩ v).cell? _ = _
    rw [setCell_eq, cell?_mapBlock _ _ _ _ hc]
    simp [hlt]
  · show (W.setCell ⟨g, 0, none⟩ v).frozen? _ = _
    rw [setCell_eq, frozen?_mapBlock]
    exact hf
theorem set_set (W : World) (g n : Nat) (u v : Value) : ((W.drewN n).setCell ⟨g, 0, none⟩ u).setCell ⟨g, 0, none⟩ v = (W.drewN n).setCell ⟨g, 0, none⟩ v := by
  rw [setCell_eq, setCell_eq, setCell_eq, mapBlock_mapBlock]
  congr 1
  funext c
  simp
set_option maxHeartbeats 1000000 in
theorem next_any (g : Nat) (x : Int) (W : World) (hc : W.cell? ⟨g, 0, none⟩ = some (.int .u64 x)) (hf : W.frozen? ⟨g, 0, none⟩ = false) : Calls Try.prog 61 #[.pointer (some ⟨g, 0, none⟩)] W (NextP g W) := by
  go_enter Try.func61, Try.ntmps61
  go_wp2
  go_region
  generalize bits .xor .u64 x (IntKind.u64.wrap (x * 8192)) = y1
  obtain ⟨c1, f1⟩ := set_here (v := .int .u64 y1) hc hf
  have e1 : (W.setCell ⟨g, 0, none⟩ (.int .u64 y1)).drew = (W.drewN 1).setCell ⟨g, 0, none⟩ (.int .u64 y1) := rfl
  have E1 := Lib.hid e1
  clear e1 hc hf
  generalize (W.setCell ⟨g, 0, none⟩ (.int .u64 y1)).drew = W1 at *
  go_wp2
  go_region
  generalize bits .xor .u64 y1 _ = y2
  obtain ⟨c2, f2⟩ := set_here (v := .int .u64 y2) c1 f1
  have e2 : (W1.setCell ⟨g, 0, none⟩ (.int .u64 y2)).drew = (W.drewN 2).setCell ⟨g, 0, none⟩ (.int .u64 y2) := by
    rw [E1.out, set_set]
    rfl
  have E2 := Lib.hid e2
  clear e2 c1 f1
  generalize (W1.setCell ⟨g, 0, none⟩ (.int .u64 y2)).drew = W2 at *
  go_wp2
  go_region
  generalize bits .xor .u64 y2 _ = y3
  obtain ⟨c3, f3⟩ := set_here (v := .int .u64 y3) c2 f2
  have e3 : (W2.setCell ⟨g, 0, none⟩ (.int .u64 y3)).drew = (W.drewN 3).setCell ⟨g, 0, none⟩ (.int .u64 y3) := by
    rw [E2.out, set_set]
    rfl
  have E3 := Lib.hid e3
  clear e3 c2 f2
  generalize (W2.setCell ⟨g, 0, none⟩ (.int .u64 y3)).drew = W3 at *
  go_wp2
  go_ret
  exact ⟨3, y3, rfl, E3.out⟩
theorem cell_row' (w : World) (C : Array Value) (t : TypeId) (k : Nat) : (w.alloc (.cells C t)).cell? ⟨w.heap.size, k, none⟩ = C[k]? := by
  unfold World.cell?
  simp only [World.alloc, Array.getElem?_push_size]
  rfl
theorem AtRow.aside {w W : World} {blk off : Nat} {d : Array Fn} (h : AtRow w blk off d W) {g : Nat} (hg : w.heap.size ≤ g) (v : Value) : AtRow w blk off d (W.setCell ⟨g, 0, none⟩ v) := by
  obtain ⟨n, os, rfl⟩ := h
  rw [setCell_eq, mapBlock_grow_new _ _ _ _ (by rw [size_putRow]; exact hg)]
  exact ⟨n, _, rfl⟩
theorem far_cell {W : World} {blk g x y : Nat} {u v : Value} {n : Int} (h : ¬ blk = g) (hc : W.cell? ⟨g, 0, none⟩ = some (.int .u64 n)) (hf : W.frozen? ⟨g, 0, none⟩ = false) :
    ((W.setCell ⟨blk, x, none⟩ u).setCell ⟨blk, y, none⟩ v).drew.cell? ⟨g, 0, none⟩ = some (.int .u64 n) ∧ ((W.setCell ⟨blk, x, none⟩ u).setCell ⟨blk, y, none⟩ v).drew.frozen? ⟨g, 0, none⟩ = false := by
  have e : ∀ (W : World) (x : Nat) (v : Value), (W.setCell ⟨blk, x, none⟩ v).cell? ⟨g, 0, none⟩ = W.cell? ⟨g, 0, none⟩ ∧ (W.setCell ⟨blk, x, none⟩ v).frozen? ⟨g, 0, none⟩ = W.frozen? ⟨g, 0, none⟩ := fun W x v => by
    rw [setCell_eq, frozen?_mapBlock]
    refine ⟨?_, rfl⟩
    unfold mapBlock World.cell?
    simp only [Array.getElem?_modify, if_neg h]
  constructor
  · show ((W.setCell ⟨blk, x, none⟩ u).setCell ⟨blk, y, none⟩ v).cell? _ = _
    rw [(e _ _ _).1, (e _ _ _).1]
    exact hc
  · show ((W.setCell ⟨blk, x, none⟩ u).setCell ⟨blk, y, none⟩ v).frozen? _ = _
    rw [(e _ _ _).2, (e _ _ _).2]
    exact hf
set_option maxHeartbeats 4000000 in
theorem brk_any (blk off cap a b : Nat) (d : Array Fn) (w : World) (hH : Holds flF w blk off d) (hblk : blk < w.heap.size) (hab : a + 13 ≤ b) (hb : b ≤ d.size) (hsz : d.size < 4611686018427387904) :
    Calls Try.prog 48 #[.slice (some ⟨blk, off, none⟩) d.size cap, .int .i64 a, .int .i64 b] w fun e w' => e = .returned (.tuple #[]) ∧ ∃ d', PermIn a b d d' ∧ AtRow w blk off d' w' := by
  obtain ⟨n, hn, hnb⟩ : ∃ n : Nat, (b : Int) - a = n ∧ a + n = b := ⟨b - a, by omega, by omega⟩
  have HN := Lib.hid hn
  have hn13 : 13 ≤ n := by omega
  obtain ⟨q, hq, hq1, hq2⟩ : ∃ q : Nat, (a : Int) + (n : Int) / 4 * 2 = q ∧ a + 1 ≤ q ∧ q + 1 < b := ⟨a + n / 4 * 2, by omega, by omega, by omega⟩
  have HQ := Lib.hid hq
  have HH := Lib.hid hH
  have hR0 : AtRow w blk off d (w.alloc (.cells #[.int .u64 n] 74)) := ⟨0, #[.cells #[.int .u64 n] 74], by rw [ahead_zero, putRow_self _ _ _ _ _ hH, alloc_eq_grow]⟩
  have hc0 : (w.alloc (.cells #[.int .u64 n] 74)).cell? ⟨w.heap.size, 0, none⟩ = some (.int .u64 n) := by rw [cell_row']; rfl
  have hf0 : (w.alloc (.cells #[.int .u64 n] 74)).frozen? ⟨w.heap.size, 0, none⟩ = false := by
    unfold World.frozen?
    simp only [World.alloc, Array.getElem?_push_size]
    rfl
  have R0 := Lib.hid hR0
  have C0 := Lib.hid hc0
  have F0 := Lib.hid hf0
  have P2 := Lib.hid (fun w => pow2_any n (by omega) (by omega) w)
  clear hn hq hH hR0 hc0 hf0
  go_enter Try.func48, Try.ntmps48
  go_wp2_with fail
  rw [HN.out]
  refine (P2.out _).mono ?_
  rintro _ w1 ⟨⟨m, rfl, hm1, hm2⟩, e⟩
  obtain rfl := e.symm
  generalize w.alloc (.cells #[.int .u64 n] 74) = W0 at *
  obtain ⟨m1, hm3, hm4⟩ : ∃ m1 : Nat, (m : Int) - 1 = m1 ∧ m1 + 1 = m := ⟨m - 1, by omega, by omega⟩
  have HM := Lib.hid hm3
  clear hm3
  go_wp2
  rw [HQ.out]
  go_loopw [9] (fun vi wr => ∃ (i : Nat) (x : Int) (dk : Array Fn), vi = .int .i64 i ∧ q ≤ i + 1 ∧ i ≤ q + 2 ∧ Hid (PermIn a b d dk ∧ AtRow w blk off dk wr ∧ wr.cell? ⟨w.heap.size, 0, none⟩ = some (.int .u64 x) ∧ wr.frozen? ⟨w.heap.size, 0, none⟩ = false)) (fun vi _ => q + 2 - (numOf vi).toNat)
  case atStart => exact ⟨q - 1, n, d, int_pred (by omega), by omega, by omega, Lib.hid ⟨permIn_refl d a b, R0.out, C0.out, F0.out⟩⟩
  case round =>
    obtain ⟨i, x, dk, rfl, hi1, hi2, HE⟩ := hrel
    obtain ⟨wo, rfl⟩ : ∃ wo : World, wo = wr := ⟨_, rfl⟩
    by_cases hlt : i ≤ q + 1
    · have hdec : (i : Int) ≤ (a : Int) + (n : Int) / 4 * 2 + 1 := by have := HQ.out; omega
      have hq3 : q < d.size := by omega
      have NX := Lib.hid (next_any w.heap.size x wo HE.out.2.2.1 HE.out.2.2.2)
      go_wp2_with fail
      rw [HQ.out]
      refine NX.out.mono ?_
      rintro _ w2 ⟨n2, y, rfl, hw2⟩
      have HW2 := Lib.hid hw2
      clear hw2
      obtain ⟨o, ho, ho2⟩ := and_le y (m := m1) (by omega)
      have hob : bits .and .u64 y ((m : Int) - 1) = (o : Nat) := by rw [HM.out]; exact ho
      clear ho
      have hR : AtRow w blk off dk w2 := by rw [HW2.out]; exact (HE.out.2.1.draws n2).aside (Nat.le_refl _) _
      have hC : w2.cell? ⟨w.heap.size, 0, none⟩ = some (.int .u64 y) ∧ w2.frozen? ⟨w.heap.size, 0, none⟩ = false := by rw [HW2.out]; exact set_here (W := wo.drewN n2) HE.out.2.2.1 HE.out.2.2.2
      have hs : dk.size = d.size := HE.out.1.1
      obtain ⟨G, hG⟩ := row_words dk
      obtain ⟨hcw, hfw⟩ := hR.cells HH.out hs hblk hG
      have HG := Lib.hid hG
      have HR := Lib.hid hR
      have HC := Lib.hid hC
      have HS := Lib.hid hs
      clear hG hR hC hs HW2
      have hm1' : 1 ≤ (m : Int) := by omega
      by_cases hon : o < n
      · go_wp2
        have k1 : i < d.size := by omega
        have k2 : a + o < d.size := by omega
        have k3 : a + o < b := by omega
        have v1 : IntKind.i64.wrap ((a : Int) + o) = (a : Int) + o := IntWalk.i64_in _ (by omega)
        have k4 : (a : Int) + o < d.size := by omega
        obtain ⟨z, hz⟩ := cell_behind (v := G (a + o)) ⟨_, hcw i k1⟩ (hcw (a + o) k2)
        have hi3 : a ≤ i := by omega
        have hi4 : i < b := by omega
        have SWP := Lib.hid (HR.out.swap1 HH.out HS.out hblk HG.out (i := i) (j := a + o) (by rw [HS.out]; exact k1) (by rw [HS.out]; exact k2))
        have hc := HC.out.1
        have hf := HC.out.2
        have hne : ¬ blk = w.heap.size := Nat.ne_of_lt hblk
        have hne' : ¬ w.heap.size = blk := Nat.ne_of_gt hblk
        have HPR := Lib.hid (permIn_trans _ _ _ a b HE.out.1 (swp_permIn dk a b i (a + o) hi3 hi4 (Nat.le_add_right _ _) k3 (by rw [HS.out]; exact hb)))
        have CF := Lib.hid (far_cell (W := w2) (blk := blk) (g := w.heap.size) (x := off + i) (y := off + (a + o)) (u := .float .f64 (G (a + o))) (v := .float .f64 (G i)) hne hc hf)
        go_region
        all_goals go_wp2
        go_roundw
        case rel => exact ⟨i + 1, y, swp dk i (a + o), by go_num, by omega, by omega, Lib.hid ⟨HPR.out, SWP.out, CF.out.1, CF.out.2⟩⟩
        case measure => simp [numOf]; omega
      · obtain ⟨p, hp, hpn⟩ : ∃ p : Nat, (o : Int) - n = p ∧ p < n := ⟨o - n, by omega, by omega⟩
        have HP := Lib.hid hp
        clear hp
        go_wp2
        rw [HP.out]
        have k1 : i < d.size := by omega
        have k2 : a + p < d.size := by omega
        have k3 : a + p < b := by omega
        have v1 : IntKind.i64.wrap ((a : Int) + p) = (a : Int) + p := IntWalk.i64_in _ (by omega)
        have k4 : (a : Int) + p < d.size := by omega
        obtain ⟨z, hz⟩ := cell_behind (v := G (a + p)) ⟨_, hcw i k1⟩ (hcw (a + p) k2)
        have hi3 : a ≤ i := by omega
        have hi4 : i < b := by omega
        have SWP := Lib.hid (HR.out.swap1 HH.out HS.out hblk HG.out (i := i) (j := a + p) (by rw [HS.out]; exact k1) (by rw [HS.out]; exact k2))
        have hc := HC.out.1
        have hf := HC.out.2
        have hne : ¬ blk = w.heap.size := Nat.ne_of_lt hblk
        have hne' : ¬ w.heap.size = blk := Nat.ne_of_gt hblk
        have HPR := Lib.hid (permIn_trans _ _ _ a b HE.out.1 (swp_permIn dk a b i (a + p) hi3 hi4 (Nat.le_add_right _ _) k3 (by rw [HS.out]; exact hb)))
        have CF := Lib.hid (far_cell (W := w2) (blk := blk) (g := w.heap.size) (x := off + i) (y := off + (a + p)) (u := .float .f64 (G (a + p))) (v := .float .f64 (G i)) hne hc hf)
        go_region
        all_goals go_wp2
        go_roundw
        case rel => exact ⟨i + 1, y, swp dk i (a + p), by go_num, by omega, by omega, Lib.hid ⟨HPR.out, SWP.out, CF.out.1, CF.out.2⟩⟩
        case measure => simp [numOf]; omega
    · have hdec : ¬ (i : Int) ≤ (a : Int) + (n : Int) / 4 * 2 + 1 := by have := HQ.out; omega
      go_wp2
      go_end0
      exact ⟨rfl, dk, HE.out.1, HE.out.2.1⟩
end Go.Proofs.Ytiancafoipllbaa
