/- What is proved: Pick; mangrovekit's Row; the law's row; the law's lives. No condition but those each law names. -/
import Derived.Test.YtaigdbnfhehclaaKH
import Derived.Test.YtaigdbnfhehclaaQG
import Derived.Test.YtaigdbnfhehclaaT7
namespace Go.Proofs.Ytaigdbnfhehclaa
open Go.RowKit
open Sx (Ab DW Turns Did Foot z128 padN CrashTo)
set_option maxRecDepth 100000

theorem tmod_pos {v n : Int} (h : 1 ≤ n) : -n < v.tmod n ∧ v.tmod n < n ∧ (v.tmod n < 0 → v.tmod n + n = v % n) ∧ (¬ v.tmod n < 0 → v.tmod n = v % n) := by
  have h0 : v.tmod n = v % n - if 0 ≤ v ∨ n ∣ v then 0 else n.natAbs := Int.tmod_eq_emod
  have h1 := Int.emod_nonneg v (show n ≠ 0 by omega)
  have h2 := Int.emod_lt_of_pos v (show 0 < n by omega)
  have h3 : (n.natAbs : Int) = n := by omega
  rw [h0]
  split
  · omega
  · rename_i hh
    rw [h3]
    have : v % n ≠ 0 := fun e => hh (.inr (Int.dvd_of_emod_eq_zero e))
    omega

theorem Pick_any (v n : Int) (h1 : 1 ≤ n) (h2 : n ≤ 4611686018427387904) (w : World) : Calls Try.prog 10 #[.int .i64 v, .int .i64 n] w (Ret (.int .i64 (v % n)) w) := by
  obtain ⟨a, b, c, d⟩ := tmod_pos (v := v) h1
  have hw : IntKind.i64.wrap (v.tmod n) = v.tmod n := by rw [IntKind.wrap_i64]; omega
  have hn : ¬ n < 1 := by omega
  have hz : (n == 0) = false := by simp; omega
  obtain ⟨r, hr⟩ : ∃ r, r = v.tmod n := ⟨_, rfl⟩
  rw [← hr] at a b c d hw
  have hr' : v.tmod n = r := hr.symm
  clear hr
  by_cases hneg : r < 0
  · have hc := c hneg
    have hs : IntKind.i64.wrap (r + n) = r + n := by rw [IntKind.wrap_i64]; omega
    have HC : Hid (r + n = v % n) := hc
    clear hc c d
    go_enter Try.func10, Try.ntmps10
    go_wp2
    go_ret
    refine Ret.mk_of (by (repeat' (first | (with_reducible exact Below.refl _ _) | (with_reducible assumption) | (with_reducible refine Ext.up _ ?_) | (with_reducible refine Below.alloc ?_ ?_ _) | (with_reducible refine Below.drew ?_) | (with_reducible refine Below.setCell ?_ ?_ _) | (with_reducible refine Below.setRow_ ?_ ?_ _) | go_size))) ?_
    exact congrArg (Value.int .i64) HC.out
  · have hd := d hneg
    have HD : Hid (r = v % n) := hd
    clear hd c d
    go_enter Try.func10, Try.ntmps10
    go_wp2
    go_ret
    refine Ret.mk_of (by (repeat' (first | (with_reducible exact Below.refl _ _) | (with_reducible assumption) | (with_reducible refine Ext.up _ ?_) | (with_reducible refine Below.alloc ?_ ?_ _) | (with_reducible refine Below.drew ?_) | (with_reducible refine Below.setCell ?_ ?_ _) | (with_reducible refine Below.setRow_ ?_ ?_ _) | go_size))) ?_
    exact congrArg (Value.int .i64) HD.out

theorem cell_set {w : World} {b i j : Nat} {v x : Value} (hi : w.cell? ⟨b, i, none⟩ = some x) : (w.setCell ⟨b, i, none⟩ v).cell? ⟨b, j, none⟩ = if j = i then some v else w.cell? ⟨b, j, none⟩ := by
  unfold World.cell? at *
  simp only [heap_setCell_at, if_true]
  cases hh : w.heap[b]? with
  | none => simp [hh] at hi
  | some ob =>
    cases ob with
    | cells c e fr =>
      simp only [hh, Option.map_some] at hi ⊢
      have hi2 : i < c.size := by
        rcases Nat.lt_or_ge i c.size with h | h
        · exact h
        · rw [Array.getElem?_eq_none h] at hi; cases hi
      simp only [Array.getElem?_setIfInBounds]
      by_cases e1 : j = i
      · subst e1; simp [hi2]
      · have e2 : ¬ i = j := fun h => e1 h.symm
        simp [e1, e2]
    | _ => simp [hh] at hi
set_option maxHeartbeats 2000000 in
theorem Row_any (n : Nat) (hn : n < 1099511627776) (w : World) : Calls Try.prog 53 #[.int .i64 (n : Int)] w fun e w' => ∃ ao cap l, e = .returned (.slice ao l.length cap) ∧ l.length = n ∧ Below w.heap.size w w' ∧ w'.ownsRow w.heap.size 5 1 (.slice ao l.length cap) l.length (bts l) ∧ Small l := by
  go_enter Try.func53, Try.ntmps53
  go_wp2
  go_loopw [3, 4] (fun v i wr => ∃ (j : Nat) (l : List Nat), j ≤ n ∧ i = .int .i64 j ∧ wr.ownsRow w.heap.size 5 1 v j (bts l) ∧ Below w.heap.size w wr ∧ Small l ∧ l.length = j) (fun _ i _ => n - (intOf i).toNat)
  case atStart => exact ⟨0, [], by omega, rfl, World.ownsRow_nil _ _ _ _, Below.refl _ _, (fun x hx => by cases hx), rfl⟩
  case round =>
    obtain ⟨j, l, hj, rfl, hown, hb, hsm, hll⟩ := hrel
    obtain ⟨ao', cap, rfl⟩ := own_form hown
    have hz := hb.size
    have HS := Lib.hid hsm
    have HL := Lib.hid hll
    clear hsm hll
    by_cases hlt : j < n
    · obtain ⟨m, hm, hm2⟩ : ∃ m : Nat, (7 + (j : Int)) % 251 = m ∧ m < 251 := ⟨((7 + (j : Int)) % 251).toNat, by omega, by omega⟩
      go_wp2_with (at_builtin; refine wp_app1 elemB rfl _ _ rfl (B := w.heap.size) rfl hown rfl rfl (by omega) hz ?_)
      intro ao2 cap2 w2 hown2 hb2
      go_wp2
      go_roundw
      case rel => exact ⟨j + 1, l ++ [m], by omega, rfl, (by rw [bts_append]; first | exact hown2 | (rw [hm] at hown2; exact hown2)), hb.trans hb2, (fun x hx => by
        rcases List.mem_append.1 hx with h | h
        · exact HS.out x h
        · rw [List.mem_singleton] at h; omega), by rw [List.length_append, HL.out]; rfl⟩
      case measure => simp [intOf]; omega
    · go_wp2
      go_ret
      obtain rfl : j = n := by omega
      refine ⟨ao', cap, l, by rw [HL.out]; rfl, HL.out, hb, ?_, HS.out⟩
      rw [HL.out]
      exact hown
set_option maxHeartbeats 4000000 in
theorem DoRow_any (k s i : Int) (a : Bool) (w : World) : Calls Try.prog 40 #[.agg #[.int .i64 k, .int .i64 s, .bool a], .int .i64 i] w fun e w' => ∃ f : Fm, e = .returned (.agg #[.int .i64 f.kind, .slice f.ao f.body.length f.cap]) ∧ Below w.heap.size w w' ∧ w'.ownsRow w.heap.size 5 1 f.val f.body.length (bts f.body) ∧ RowOk (f.kind, f.body) := by
  obtain ⟨n, hn, hn2⟩ : ∃ n : Nat, s % 401 = n ∧ n ≤ 400 := by
    have h1 := Int.emod_nonneg s (show (401 : Int) ≠ 0 by decide)
    have h2 := Int.emod_lt_of_pos s (show (0 : Int) < 401 by decide)
    exact ⟨(s % 401).toNat, by omega, by omega⟩
  obtain ⟨m, hm, hm2⟩ : ∃ m : Nat, k % 254 = m ∧ m < 254 := by
    have h1 := Int.emod_nonneg k (show (254 : Int) ≠ 0 by decide)
    have h2 := Int.emod_lt_of_pos k (show (0 : Int) < 254 by decide)
    exact ⟨(k % 254).toNat, by omega, by omega⟩
  have PK := Lib.hid (fun W => Pick_any s 401 (by decide) (by decide) W)
  rw [hn] at PK
  have PM := Lib.hid (fun W => Pick_any k 254 (by decide) (by decide) W)
  rw [hm] at PM
  clear hn hm
  go_enter Try.func40, Try.ntmps40
  go_wp2_with fail
  refine (PK.out _).mono ?_
  rintro _ _ ⟨rfl, g, rfl⟩
  have hb0 : Below w.heap.size w ((w.alloc (.cells #[.int .i64 k, .int .i64 s, .bool a] 85)).alloc (.cells #[.int .i64 0, .slice none 0 0] 51)) := (below1 w _).alloc (by simp) _
  have hx0 : ((w.alloc (.cells #[.int .i64 k, .int .i64 s, .bool a] 85)).alloc (.cells #[.int .i64 0, .slice none 0 0] 51)).heap[w.heap.size]? = some (.cells #[.int .i64 k, .int .i64 s, .bool a] 85) := by
    rw [(below1 (w.alloc (.cells #[.int .i64 k, .int .i64 s, .bool a] 85)) _).block _ (by simp)]
    exact heap_alloc_new w _
  have hy0 : ((w.alloc (.cells #[.int .i64 k, .int .i64 s, .bool a] 85)).alloc (.cells #[.int .i64 0, .slice none 0 0] 51)).heap[w.heap.size + 1]? = some (.cells #[.int .i64 0, .slice none 0 0] 51) := by
    have := heap_alloc_new (w.alloc (.cells #[.int .i64 k, .int .i64 s, .bool a] 85)) (.cells #[.int .i64 0, .slice none 0 0] 51)
    rwa [show (w.alloc (.cells #[.int .i64 k, .int .i64 s, .bool a] 85)).heap.size = w.heap.size + 1 by simp] at this
  have hz0 : w.heap.size + 1 < ((w.alloc (.cells #[.int .i64 k, .int .i64 s, .bool a] 85)).alloc (.cells #[.int .i64 0, .slice none 0 0] 51)).heap.size := by simp
  generalize (w.alloc (.cells #[.int .i64 k, .int .i64 s, .bool a] 85)).alloc (.cells #[.int .i64 0, .slice none 0 0] 51) = w0 at *
  have B1 := Lib.hid (hb0.trans (g.below.mono (by omega)))
  have X1 := Lib.hid ((g.below.block w.heap.size (by omega)).trans hx0)
  have Y1 := Lib.hid ((g.below.block (w.heap.size + 1) (by omega)).trans hy0)
  have hz1 := Nat.lt_of_lt_of_le hz0 g.size
  generalize g.val = w1 at *
  clear PK hb0 hx0 hy0
  go_wp2_with fail
  refine (Row_any n (by omega) w1).mono ?_
  rintro _ w2 ⟨ao, cap, l, rfl, hl, hb2, own2, hsm⟩
  have B2 := Lib.hid (B1.out.trans (hb2.mono (by omega)))
  have X2 := Lib.hid ((hb2.block w.heap.size (by omega)).trans X1.out)
  have Y2 := Lib.hid ((hb2.block (w.heap.size + 1) (by omega)).trans Y1.out)
  have hz2 := Nat.lt_of_lt_of_le hz1 hb2.size
  have O2 := Lib.hid own2
  have S2 := Lib.hid hsm
  have L2 := Lib.hid hl
  clear hb2 own2 hsm B1 X1 Y1
  have x0 : w2.cell? ⟨w.heap.size, 0, none⟩ = some (.int .i64 k) := (cells_of X2.out 0).1
  by_cases h0 : l.length = 0
  · rw [h0] at O2 ⊢
    go_wp2_with fail
    refine (PM.out _).mono ?_
    rintro _ _ ⟨rfl, g3, rfl⟩
    have e1 : wrap64 (1 + (m : Int)) = 1 + m := IntWalk.wrap64_in _ (by omega)
    have B3 := Lib.hid (B2.out.trans (g3.below.mono (by omega)))
    have Y3 := (g3.below.block (w.heap.size + 1) (by omega)).trans Y2.out
    have O3 := Lib.hid (own_ext O2.out g3)
    generalize g3.val = w3 at *
    obtain ⟨y0, f0⟩ := cells_of Y3 0
    obtain ⟨y1, f1⟩ := cells_of Y3 1
    have y0 : w3.cell? ⟨w.heap.size + 1, 0, none⟩ = some (.int .i64 0) := y0
    have y1 : w3.cell? ⟨w.heap.size + 1, 1, none⟩ = some (.slice none 0 0) := y1
    have RW := Lib.hid (show rowOf w3 (w.heap.size + 1) = #[.int .i64 0, .slice none 0 0] by unfold rowOf; rw [Y3])
    clear X2 Y2 O2 B2 Y3 x0
    go_wp2_with fail
    have r0 : rowOf ((w3.setCell ⟨w.heap.size + 1, 0, none⟩ (.int .i64 (1 + (m : Int)))).setCell ⟨w.heap.size + 1, 1, none⟩ (.slice ao 0 cap)) (w.heap.size + 1) = #[.int .i64 (1 + (m : Int)), .slice ao 0 cap] := by
      rw [rowOf_setCell, if_pos rfl, rowOf_setCell, if_pos rfl, RW.out]
      rfl
    have B4 := (B3.out.setCell (p := ⟨w.heap.size + 1, 0, none⟩) (Nat.le_add_right _ _) (.int .i64 (1 + (m : Int)))).setCell (p := ⟨w.heap.size + 1, 1, none⟩) (Nat.le_add_right _ _) (.slice ao 0 cap)
    have O4 := ownsRow_setCell_below (ownsRow_setCell_below O3.out (a := ⟨w.heap.size + 1, 0, none⟩) hz1 (.int .i64 (1 + (m : Int)))) (a := ⟨w.heap.size + 1, 1, none⟩) hz1 (.slice ao 0 cap)
    generalize (w3.setCell ⟨w.heap.size + 1, 0, none⟩ (.int .i64 (1 + (m : Int)))).setCell ⟨w.heap.size + 1, 1, none⟩ (.slice ao 0 cap) = w4 at *
    refine bodyPost_ret (results_row Try.results40 Try.underlying51 rfl (by kernel_rfl) _ w4 (w.heap.size + 1) rfl r0 rfl) rfl ⟨⟨1 + (m : Int), l, ao, cap⟩, ?_, B4, ?_, ?_⟩
    · simp only
      rw [h0]
    · unfold Fm.val
      rw [h0]
      exact own_base O4 (by omega)
    · exact ⟨by simp only; omega, by simp only; omega, by simp only; omega, S2.out⟩
  · obtain ⟨q, hq⟩ : ∃ q, l.length = q + 1 := ⟨l.length - 1, by omega⟩
    obtain ⟨g, rfl⟩ : ∃ g, ao = some ⟨g, 0, none⟩ := by
      rcases O2.out.2 with ⟨hv, _⟩ | ⟨g, c', cur, hv, _⟩
      · exact absurd (Value.slice.inj hv).2.1 h0
      · exact ⟨g, (Value.slice.inj hv).1⟩
    rw [hq] at O2 ⊢
    obtain ⟨z, hz, hz8⟩ : ∃ z : Nat, IntKind.u8.wrap i = z ∧ z < 256 := by
      have : IntKind.u8.wrap i = i % 256 := IntKind.wrap_u8 i
      exact ⟨(i % 256).toNat, by omega, by omega⟩
    obtain ⟨cur, hgb, hcur⟩ : ∃ cur, w1.heap.size ≤ g ∧ w2.heap[g]? = some (.cells cur 5) := by
      rcases O2.out.2 with ⟨hv, _⟩ | ⟨g, c', cur, hv, hb, hg, _⟩
      · cases hv
      · cases hv; exact ⟨cur, hb, hg⟩
    obtain ⟨l0, hl0⟩ : ∃ l0, l[0]? = some l0 := ⟨_, List.getElem?_eq_getElem (by omega)⟩
    have c0 : w2.cell? ⟨g, 0, none⟩ = some (.int .u8 l0) := by
      have := O2.out.cells (g := g) rfl 0 (.int .u8 (l0 : Int)) (by rw [bts_get, hl0]; rfl)
      rw [add_plain_addr] at this
      exact this
    have f0 := (cells_of hcur 0).2
    have q1 : (0 : Int) < (q : Int) + 1 := by omega
    have hlen : (0 : Int) < ((q + 1 : Nat) : Int) := by omega
    have SZ := Lib.hid (show Small (l.set 0 z) from fun x hx => (List.mem_or_eq_of_mem_set hx).elim (S2.out x) fun e => by omega)
    have B5 := Lib.hid (B2.out.setCell (p := ⟨g, 0, none⟩) (by show w.heap.size ≤ g; omega) (.int .u8 (z : Int)))
    have O5 : Hid ((w2.setCell ⟨g, 0, none⟩ (.int .u8 (z : Int))).ownsRow w1.heap.size 5 1 (.slice (some ⟨g, 0, none⟩) (q + 1) cap) (q + 1) (bts (l.set 0 z))) := by
      have := own_set (j := 0) (u := .int .u8 (z : Int)) O2.out
      have e : bts (l.set 0 z) = (bts l).set 0 (.int .u8 (z : Int)) := by unfold bts; rw [List.map_set]
      rw [e]
      exact this
    have hne : ∀ k, k < w1.heap.size → (w2.setCell ⟨g, 0, none⟩ (.int .u8 (z : Int))).heap[k]? = w2.heap[k]? := fun k hk => Below.heap_setCell _ _ _ _ (by show k ≠ g; omega)
    have Y5 := Lib.hid ((hne (w.heap.size + 1) hz1).trans Y2.out)
    have x5 : (w2.setCell ⟨g, 0, none⟩ (.int .u8 (z : Int))).cell? ⟨w.heap.size, 0, none⟩ = some (.int .i64 k) := (cells_of ((hne w.heap.size (by omega)).trans X2.out) 0).1
    have hz5 : w.heap.size + 1 < (w2.setCell ⟨g, 0, none⟩ (.int .u8 (z : Int))).heap.size := by simpa [World.setCell] using hz2
    clear hne B2 O2 X2 Y2 hcur x0
    go_wp2_with fail
    clear hz q1 hlen c0 f0
    generalize w2.setCell ⟨g, 0, none⟩ (.int .u8 (z : Int)) = w5 at *
    refine (PM.out _).mono ?_
    rintro _ _ ⟨rfl, g3, rfl⟩
    have e1 : wrap64 (1 + (m : Int)) = 1 + m := IntWalk.wrap64_in _ (by omega)
    have B3 := Lib.hid (B5.out.trans (g3.below.mono (by omega)))
    have Y3 := (g3.below.block (w.heap.size + 1) (by omega)).trans Y5.out
    have O3 := Lib.hid (own_ext O5.out g3)
    generalize g3.val = w3 at *
    obtain ⟨y0, f0⟩ := cells_of Y3 0
    obtain ⟨y1, f1⟩ := cells_of Y3 1
    have y0 : w3.cell? ⟨w.heap.size + 1, 0, none⟩ = some (.int .i64 0) := y0
    have y1 : w3.cell? ⟨w.heap.size + 1, 1, none⟩ = some (.slice none 0 0) := y1
    have RW := Lib.hid (show rowOf w3 (w.heap.size + 1) = #[.int .i64 0, .slice none 0 0] by unfold rowOf; rw [Y3])
    have HQ := Lib.hid hq
    clear hq hl0 h0 hl
    clear Y5 O5 B5 Y3 x5
    go_wp2_with fail
    have r0 : rowOf ((w3.setCell ⟨w.heap.size + 1, 0, none⟩ (.int .i64 (1 + (m : Int)))).setCell ⟨w.heap.size + 1, 1, none⟩ (.slice (some ⟨g, 0, none⟩) (q + 1) cap)) (w.heap.size + 1) = #[.int .i64 (1 + (m : Int)), .slice (some ⟨g, 0, none⟩) (q + 1) cap] := by
      rw [rowOf_setCell, if_pos rfl, rowOf_setCell, if_pos rfl, RW.out]
      rfl
    have B4 := (B3.out.setCell (p := ⟨w.heap.size + 1, 0, none⟩) (Nat.le_add_right _ _) (.int .i64 (1 + (m : Int)))).setCell (p := ⟨w.heap.size + 1, 1, none⟩) (Nat.le_add_right _ _) (.slice (some ⟨g, 0, none⟩) (q + 1) cap)
    have O4 := ownsRow_setCell_below (ownsRow_setCell_below O3.out (a := ⟨w.heap.size + 1, 0, none⟩) hz1 (.int .i64 (1 + (m : Int)))) (a := ⟨w.heap.size + 1, 1, none⟩) hz1 (.slice (some ⟨g, 0, none⟩) (q + 1) cap)
    generalize (w3.setCell ⟨w.heap.size + 1, 0, none⟩ (.int .i64 (1 + (m : Int)))).setCell ⟨w.heap.size + 1, 1, none⟩ (.slice (some ⟨g, 0, none⟩) (q + 1) cap) = w4 at *
    refine bodyPost_ret (results_row Try.results40 Try.underlying51 rfl (by kernel_rfl) _ w4 (w.heap.size + 1) rfl r0 rfl) rfl ⟨⟨1 + (m : Int), l.set 0 z, some ⟨g, 0, none⟩, cap⟩, ?_, B4, ?_, ?_⟩
    · simp only
      rw [List.length_set, HQ.out]
    · unfold Fm.val
      rw [List.length_set, HQ.out]
      exact own_base O4 (by omega)
    · exact ⟨by simp only; omega, by simp only; omega, by simp only; rw [List.length_set, L2.out]; omega, SZ.out⟩
end Go.Proofs.Ytaigdbnfhehclaa

namespace Go.Proofs.Ytaigdbnfhehclaa
open Go.RowKit
open Sx (Ab DW Turns Did Foot z128 padN CrashTo)
set_option maxRecDepth 100000

/-- A block of the call's own that stays. -/
structure Boxed (w : World) (F : Foot) (b bx : Nat) (o : Obj) : Prop where
  at_ : w.heap[bx]? = some o
  ne : bx ≠ b
  clear : ∀ x, ¬ F bx x
theorem Boxed.lt {w : World} {F : Foot} {b bx : Nat} {o : Obj} (h : Boxed w F b bx o) : bx < w.heap.size := (Array.getElem?_eq_some_iff.1 h.at_).1
theorem Boxed.went {w w' : World} {F F' : Foot} {b bx : Nat} {o : Obj} (h : Boxed w F b bx o) (hw : Went F b w F' w') : Boxed w' F' b bx o :=
  ⟨(hw.block bx h.lt h.ne h.clear).trans h.at_, h.ne, fun x hx => (hw.fb bx x hx).elim (h.clear x) fun h2 => absurd h.lt (by omega)⟩
theorem Boxed.below {w w' : World} {F : Foot} {b bx : Nat} {o : Obj} (h : Boxed w F b bx o) (hw : Below w.heap.size w w') : Boxed w' F b bx o := ⟨(hw.block bx h.lt).trans h.at_, h.ne, h.clear⟩
theorem Boxed.new {w : World} {F : Foot} {dv : Value} {A : Ab} {b : Nat} {j : Jr} (h : JD w F dv A b j) (o : Obj) : Boxed (w.alloc o) F b w.heap.size o :=
  ⟨heap_alloc_new w o, by have := h.lt; omega, fun x hx => absurd (h.dw.lt hx) (Nat.lt_irrefl _)⟩
theorem Boxed.grown {w w' : World} {F : Foot} {b bx : Nat} {o : Obj} {row : Option Nat} (h : Boxed w F b bx o) (hgr : w.grownBy w' row) (hc : row ≠ some bx) : Boxed w' F b bx o :=
  ⟨(hgr.block bx h.lt fun e => hc e.symm).trans h.at_, h.ne, h.clear⟩
theorem Frames.fresh {w w' : World} {F : Foot} {dv : Value} {A : Ab} {b : Nat} {j : Jr} {B : Nat} {v : Value} {L : List Fm} (h : Frames w' B v L) (hj : JD w F dv A b j) (hB : w.heap.size ≤ B) : FrW w' (Fb F b) B v L := by
  have hF : ∀ k, w.heap.size ≤ k → ∀ x, ¬ Fb F b k x := fun k hk x hx => hx.elim (fun h2 => absurd (hj.dw.lt h2) (by omega)) fun h2 => absurd hj.lt (by omega)
  exact ⟨h, fun k hk => hF k (Nat.le_trans hB (h.row.lt k hk).1), fun f hf k hk => hF k (Nat.le_trans hB ((h.body f hf).lt k hk).1)⟩
theorem rows_len {R : List (Int × List Nat)} : R.length ≤ (secL R).length := by
  induction R with
  | nil => exact Nat.zero_le _
  | cons r R ih =>
    rw [secL_cons, List.length_append, secs_len, List.length_cons]
    have := npc_pos r
    omega
theorem rows_small {R : List (Int × List Nat)} (h : RowsOk R) {L : List Fm} (ht : told L = R) : ∀ f ∈ L, f.body.length < 1099511627776 := fun f hm => by
  have : (f.kind, f.body) ∈ R := by rw [← ht]; exact List.mem_map_of_mem (f := fun f : Fm => (f.kind, f.body)) hm
  have := (h _ this).2.2.1
  simp only at this
  omega
/-- What a round of lives reads. -/
def Held (bx bD o : Nat) (v : Value) (x : DoW) (w : World) : Prop :=
  w.cell? ⟨bx, 0, none⟩ = some v ∧ w.cell? ⟨bD, o, none⟩ = some (.int .i64 x.kind) ∧ w.cell? ⟨bD, o + 1, none⟩ = some (.int .i64 x.size) ∧ w.cell? ⟨bD, o + 2, none⟩ = some (.bool x.anew)
theorem Held.keep {w w' : World} {bx bD o : Nat} {v : Value} {x : DoW} (h : Held bx bD o v x w) (hb : Below w.heap.size w w') : Held bx bD o v x w' :=
  ⟨cell_keep (Nat.le_refl _) hb h.1, cell_keep (Nat.le_refl _) hb h.2.1, cell_keep (Nat.le_refl _) hb h.2.2.1, cell_keep (Nat.le_refl _) hb h.2.2.2⟩
/-- A copy of the rows, and a row, are there. -/
structure Ready (w0 w : World) (v : Value) (L : List Fm) (f : Fm) : Prop where
  hb : Below w0.heap.size w0 w
  fx : Frames w w0.heap.size v L
  of : w.ownsRow w0.heap.size 5 1 f.val f.body.length (bts f.body)
  ap : ∀ k, f.val.ownBlock = some k → v.ownBlock ≠ some k
theorem Ready.box {w0 w : World} {v : Value} {L : List Fm} {f : Fm} (h : Ready w0 w v L f) (o : Obj) : Ready w0 (w.alloc o) v L f :=
  ⟨h.hb.trans ((below1 w o).mono h.hb.size), h.fx.keep (Nat.le_refl _) (below1 w o), own_keep h.of (Nat.le_refl _) (below1 w o), h.ap⟩
theorem Frames.low {w : World} {B B' : Nat} {v : Value} {L : List Fm} (h : Frames w B v L) (hB : B' ≤ B) : Frames w B' v L := ⟨own_base h.row hB, fun f hf => own_base (h.body f hf) hB, h.apart⟩
theorem ready_1 {w0 w1 w2 : World} {v : Value} {L : List Fm} {f : Fm} (h1 : Below w0.heap.size w0 w1) (hf : Frames w1 w0.heap.size v L) (h2 : Below w1.heap.size w1 w2) (ho : w2.ownsRow w1.heap.size 5 1 f.val f.body.length (bts f.body)) : Ready w0 w2 v L f :=
  ⟨h1.trans (h2.mono h1.size), hf.keep (Nat.le_refl _) h2, own_base ho h1.size, fun k hk e => by
    have t1 := (ho.lt k hk).1
    have t2 := (hf.row.lt k e).2
    omega⟩
theorem ready_2 {w0 w1 w2 : World} {v : Value} {L : List Fm} {f : Fm} (h1 : Below w0.heap.size w0 w1) (ho : w1.ownsRow w0.heap.size 5 1 f.val f.body.length (bts f.body)) (h2 : Below w1.heap.size w1 w2) (hf : Frames w2 w1.heap.size v L) : Ready w0 w2 v L f :=
  ⟨h1.trans (h2.mono h1.size), hf.low h1.size, own_keep ho (Nat.le_refl _) h2, fun k hk e => by
    have t1 := (ho.lt k hk).2
    have t2 := (hf.row.lt k e).1
    omega⟩
theorem Ready.app {w0 w w' : World} {v : Value} {L : List Fm} {f : Fm} (h : Ready w0 w v L f) {g cap : Nat} (hown : w'.ownsRow w0.heap.size 51 2 (.slice (some ⟨g, 0, none⟩) (L.length + 1) cap) (L.length + 1) (fcells L ++ f.cells)) (hgr : w.grownBy w' v.ownBlock) (hat : v.ownBlock = some g ∨ g = w.heap.size) :
    Below w0.heap.size w0 w' ∧ Frames w' w0.heap.size (.slice (some ⟨g, 0, none⟩) (L.length + 1) cap) (L ++ [f]) :=
  ⟨h.hb.trans ((Below.refl w0.heap.size w).grown hgr h.hb.size (own_block h.fx.row)), h.fx.grown h.of h.ap hown hgr hat⟩
/-- The address behind a cut of frames. -/
def cut2 (ao : Option Addr) (l m : Nat) : Option Addr := if m = l then ao else ao.map (·.add (l * 2))
theorem slice26_l (w : World) (a : Option Addr) (len cap : Nat) (kl : IntKind) (l : Int) (h0 : 0 ≤ l) (h1 : l ≤ len) :
    (Instr.slice 26 (.slice a len cap) (some (.int kl l)) none none).run Try.prog w = .ok (.slice (cut2 a l.toNat cap) (len - l.toNat) (cap - l.toNat)) w := by
  rw [run_slice_l w 26 a len cap Try.underlying26 kl l h0 h1]
  rfl
attribute [go_sem high] slice26_l
theorem FrR.drop {w : World} {ao : Option Addr} {n c : Nat} {L : List Fm} (h : FrR w ao n c L) {k : Nat} (hk : k ≤ n) : FrR w (cut2 ao k c) (n - k) (c - k) (L.drop k) := by
  have hle := h.le
  refine ⟨by rw [List.length_drop, h.len], by omega, fun e => ?_, fun i f hf => ?_⟩
  · unfold cut2 at e
    split at e
    · omega
    · cases ao with
      | none => have := h.nil rfl; omega
      | some a => cases e
  · rw [List.getElem?_drop] at hf
    have hlt := (List.getElem?_eq_some_iff.1 hf).1
    have hln := h.len
    obtain ⟨b, o, e, h1, h2, h3⟩ := h.each (k + i) f hf
    subst e
    refine ⟨b, o + k * 2, ?_, ?_, ?_, h3⟩
    · unfold cut2
      rw [if_neg (by omega), Option.map_some, add_plain_addr]
    · rw [show o + k * 2 + i * 2 = o + (k + i) * 2 by omega]; exact h1
    · rw [show o + k * 2 + i * 2 + 1 = o + (k + i) * 2 + 1 by omega]; exact h2
theorem appJ_dead {A : Ab} {j : Jr} {kind : Int} {l : List Nat} (h : appE A j kind l = 9) (h0 : laidE kind l.length = 0) : appJ A j kind l = { j with dead := true } := by
  unfold appE at h
  unfold appJ
  by_cases hg : (j.dead || A.off) = true
  · rw [if_pos hg]
  · rw [if_neg hg] at h ⊢
    rw [if_neg (by rw [h0]; simp)] at h ⊢
    split at h
    · cases h
    · rw [if_neg (by assumption), if_neg (by rw [h]; decide)]
theorem compJ_dead {A : Ab} {j : Jr} {R : List (Int × List Nat)} (h : compE A j R = 9) (h0 : compE0 R = 0) : compJ A j R = { j with dead := true } := by
  unfold compE at h
  unfold compJ
  by_cases hg : (j.dead || A.off) = true
  · rw [if_pos hg]
  · rw [if_neg hg] at h ⊢
    rw [if_neg (by rw [h0]; simp)] at h ⊢
    split at h
    · cases h
    · rw [if_neg (by assumption), if_neg (by rw [h]; decide)]
theorem secL_drop (R : List (Int × List Nat)) (k : Nat) : (secL (R.drop k)).length ≤ (secL R).length := by
  induction R generalizing k with
  | nil => simp
  | cons r R ih =>
    cases k with
    | zero => exact Nat.le_refl _
    | succ k =>
      rw [List.drop_succ_cons, secL_cons, List.length_append]
      exact Nat.le_trans (ih k) (Nat.le_add_left _ _)
theorem told_drop (L : List Fm) (k : Nat) : told (L.drop k) = (told L).drop k := by unfold told; rw [List.map_drop]
theorem Append_dead {w : World} {F : Foot} {dv : Value} {A : Ab} {b : Nat} {j : Jr} (h : JD w F dv A b j) (hj : j.Ok) (hd : j.dead = true) : Calls Try.prog 9 #[.pointer (some ⟨b, 0, none⟩), .int .i64 1, .slice none 0 0] w fun e w' => e = .returned (.int .i64 9) ∧ ∃ F', JD w' F' dv A b j ∧ Went F b w F' w' := by
  have g : (j.dead || A.off) = true := by rw [hd]; rfl
  have e1 : appE A j 1 [] = 9 := by unfold appE; rw [if_pos g]
  have e2 : appA A j 1 [] = A := by unfold appA; rw [if_pos g]
  have e3 : appJ A j 1 [] = j := by unfold appJ; rw [if_pos g]; cases j; simp_all
  refine (Append_any h hj 1 (l := []) (Sl.nothing w) (fun x hx => by cases hx) (by decide) (fun k o e => by cases e)).mono ?_
  rintro e w' ⟨rfl, F', q1, q2⟩
  rw [e2, e3] at q1
  rw [e1]
  exact ⟨rfl, F', q1, q2⟩
theorem Compact_dead {w : World} {F : Foot} {dv : Value} {A : Ab} {b : Nat} {j : Jr} (h : JD w F dv A b j) (hj : j.Ok) (h0 : 0 ≤ j.turn) (h1 : j.turn < 4611686018427387904) (hd : j.dead = true) : Calls Try.prog 21 #[.pointer (some ⟨b, 0, none⟩), .slice none 0 0] w fun e w' => e = .returned (.int .i64 9) ∧ ∃ F', JD w' F' dv A b j ∧ Went F b w F' w' := by
  have g : (j.dead || A.off) = true := by rw [hd]; rfl
  have e1 : compE A j [] = 9 := by unfold compE; rw [if_pos g]
  have e2 : compA A j [] = A := by unfold compA; rw [if_pos g]
  have e3 : compJ A j [] = j := by unfold compJ; rw [if_pos g]; cases j; simp_all
  refine (Compact_any h hj h0 h1 (L := []) ⟨⟨rfl, Nat.le_refl _, fun _ => rfl, fun i f hf => by simp at hf⟩, fun k o e => (by cases e), fun f hf => by cases hf⟩ (fun k o e => by cases e) (fun f hf => by cases hf) (fun f hf => by cases hf) (by decide)).mono ?_
  rintro e w' ⟨rfl, F', q1, q2⟩
  have t : told ([] : List Fm) = [] := rfl
  rw [t, e2, e3] at q1
  rw [t, e1]
  exact ⟨rfl, F', q1, q2⟩
theorem Holds.append_full {A : Ab} {j : Jr} {R : List (Int × List Nat)} (h : Holds A j R) (hon : A.off = false) {r : Int × List Nat} (hr : RowOk r) (hl : 255 < (secL R).length + npc (rowF r)) :
    appE A j r.1 r.2 = 8 ∧ appA A j r.1 r.2 = A ∧ appJ A j r.1 r.2 = j := by
  obtain ⟨e1, e2⟩ := laid_ok hr
  have ha := h.half.at_
  have g : (j.dead || A.off) = false := by rw [h.half.live, hon]; rfl
  have hroom : j.first + 256 - j.at_ < (npc (rowF r) : Nat) := by omega
  exact ⟨by unfold appE; rw [g, e1, e2]; simp [hroom], by unfold appA; rw [g, e1, e2]; simp [hroom], by unfold appJ; rw [g, e1, e2]; simp [hroom]⟩
/-- What lives tells. -/
def LivesRet (F : Foot) (w : World) (dv : Value) (b : Nat) (T : Int) (e : Ending) (w' : World) : Prop :=
  ∃ F' A' j' a1 n1 c1 a2 n2 c2 L1 L2, e = .returned (.tuple #[.slice a1 n1 c1, .slice a2 n2 c2, .bool true]) ∧ JD w' F' dv A' b j' ∧ Went F b w F' w' ∧
    FrW w' (Fb F' b) w.heap.size (.slice a1 n1 c1) L1 ∧ FrW w' (Fb F' b) w.heap.size (.slice a2 n2 c2) L2 ∧ L1.length = n1 ∧ L2.length = n2 ∧ RowsOk (told L1) ∧ RowsOk (told L2) ∧ n1 ≤ 256 ∧ n2 ≤ 256 ∧
    Back A' T (told L1) (told L2) ∧ Ab.Sm A'
set_option maxHeartbeats 8000000 in
theorem Lives_any {w : World} {F : Foot} {dv : Value} {A : Ab} {b : Nat} {j : Jr} (h : JD w F dv A b j) {R : List (Int × List Nat)} (hH : Holds A j R) (hC : Calm A) (hT : j.turn + 20 < 4611686018427387904) {B0 n c : Nat} {ao : Option Addr} {L : List Fm}
    (hfr : FrW w (Fb F b) B0 (.slice ao n c) L) (htd : told L = R) (hn : L.length = n) {da : Option Addr} {dn dc : Nat} {ds : List DoW} (hD : ∀ F' w', Went F b w F' w' → ItemsR (DoW.at w') 3 da dn dc ds) (cut : Int) (hcut : cut < 9223372036854775808) {ka : Option Addr} {kn kc : Nat} :
    Calls Try.prog 17 #[dv, .pointer (some ⟨b, 0, none⟩), .slice ao n c, .agg #[.slice da dn dc, .int .i64 cut, .slice ka kn kc]] w (LivesRet F w dv b (j.turn + 13)) := by
  obtain ⟨db, dof, rfl⟩ := dw_form h.dw
  have hnn : n ≤ 255 := by
    have h1 := rows_len (R := R)
    have h2 := hH.half.len
    have h3 : (told L).length = L.length := by simp [told]
    rw [htd] at h3
    omega
  have rd := (hfr.reads hn).1.rd
  have HJ := Lib.hid h
  have HHo := Lib.hid hH
  have HCC := Lib.hid hC
  have HD := Lib.hid hD
  have HTD := Lib.hid htd
  have HTn := Lib.hid hT
  have CF := Lib.hid (CopyFrames_any (rd.keep (Nat.le_refl _) (below1 w (.cells #[.slice da dn dc, .int .i64 cut, .slice ka kn kc] 44))) (rows_small hH.half.ok htd) (by omega))
  clear h hH hC hfr hn hD htd rd hT
  go_enter Try.func17, Try.ntmps17
  go_wp2_with fail
  refine CF.out.mono ?_
  rintro _ w1 ⟨v1, L1, rfl, hb1, hf1, ht1⟩
  have hz1 : w.heap.size ≤ (w.alloc (.cells #[.slice da dn dc, .int .i64 cut, .slice ka kn kc] 44)).heap.size := by simp
  have j1 := (HJ.out.below (below1 w (.cells #[.slice da dn dc, .int .i64 cut, .slice ka kn kc] 44))).below hb1
  have W1 := Lib.hid (Went.of_below (F := F) (b := b) ((below1 w (.cells #[.slice da dn dc, .int .i64 cut, .slice ka kn kc] 44)).trans (hb1.mono hz1)))
  have X1 := Lib.hid ((Boxed.new HJ.out (.cells #[.slice da dn dc, .int .i64 cut, .slice ka kn kc] 44)).below hb1)
  have FR1 := Lib.hid ((hf1.fresh HJ.out hz1).base hz1)
  have TD1 := Lib.hid (ht1.trans HTD.out)
  have c1 : w1.cell? ⟨w.heap.size, 1, none⟩ = some (.int .i64 cut) := (cells_of X1.out.at_ 1).1
  have AR := Lib.hid (Sx.arm_w j1.dw cut hcut)
  have J1 := Lib.hid j1
  clear CF hb1 hf1 ht1 j1
  go_wp2_with fail
  refine AR.out.mono ?_
  rintro _ w2 h2
  obtain ⟨rfl, F2, d2, tb2⟩ := did_tb h2
  have J2 := Lib.hid (J1.out.did d2 tb2.t tb2.fb)
  have W2 := Lib.hid (W1.out.trans (tb2.went (b := b)))
  have X2 := Lib.hid (X1.out.went (tb2.went (b := b)))
  have FR2 := Lib.hid (FR1.out.went (tb2.went (b := b)))
  have H2 := Lib.hid (HHo.out.arm cut)
  have hon : (A.arm cut).off = false := HCC.out.on
  clear AR h2 d2 tb2 J1 W1 X1 FR1 c1
  go_wp2_with fail
  go_loopw [11, 12] (fun v11 v12 wr => ∃ (i : Nat) (F1 : Foot) (A1 : Ab) (j1 : Jr) (L1 : List Fm), i ≤ 12 ∧ v12 = .int .i64 i ∧ JD wr F1 (.pointer (some ⟨db, dof, none⟩)) A1 b j1 ∧ Holds A1 j1 (told L1) ∧ A1.off = false ∧ Went F b w F1 wr ∧
    Boxed wr F1 b w.heap.size (.cells #[.slice da dn dc, .int .i64 cut, .slice ka kn kc] 44) ∧ FrW wr (Fb F1 b) w.heap.size v11 L1 ∧ j1.turn ≤ j.turn + i) (fun _ v12 _ => 12 - (intOf v12).toNat)
  case atStart => exact ⟨0, F2, _, j, L1, by omega, rfl, J2.out, by rw [TD1.out]; exact H2.out, hon, W2.out, X2.out, FR2.out, by omega⟩
  case round =>
    obtain ⟨i, F1, A1, j1, L1, hi, rfl, hj, hh, hon1, hwt, hbx, hfr, hjt⟩ := hrel
    obtain ⟨af, cf, rfl⟩ := own_form hfr.fr.row
    have HJ1 := Lib.hid hj
    have HH1 := Lib.hid hh
    have HO1 := Lib.hid hon1
    have HW1 := Lib.hid hwt
    have HX1 := Lib.hid hbx
    have HF1 := Lib.hid hfr
    have HT1 := Lib.hid hjt
    have x0 : wr.cell? ⟨w.heap.size, 0, none⟩ = some (.slice da dn dc) := (cells_of hbx.at_ 0).1
    have hzw := hwt.size
    clear hj hh hon1 hwt hbx hfr hjt H2 hon J2 W2 X2 FR2 TD1
    by_cases hl1 : i < dn
    · by_cases hl2 : i < 12
      · have hk1 : (i : Int) < dn := by omega
        have hk2 : (i : Int) < 12 := by omega
        obtain ⟨D, hDi⟩ : ∃ D, ds[i]? = some D := ⟨_, List.getElem?_eq_getElem (by rw [(HD.out F1 wr HW1.out).len]; exact hl1)⟩
        obtain ⟨bD, oD, hda, q0, q1, q2⟩ := (HD.out F1 wr HW1.out).each i D hDi
        subst hda
        have hs0 : Held w.heap.size bD (oD + i * 3) (.slice (some ⟨bD, oD, none⟩) dn dc) D wr := ⟨x0, q0, q1, q2⟩
        have HS0 := Lib.hid hs0
        have hll : L1.length ≤ 255 := by
          have h1 := rows_len (R := told L1)
          have h2 := HH1.out.half.len
          have h3 : (told L1).length = L1.length := by simp [told]
          omega
        have HSM := Lib.hid (rows_small HH1.out.half.ok (L := L1) rfl)
        have HRD := Lib.hid (HF1.out.reads rfl).1.rd
        have hbd := Lib.hid ((Below.refl wr.heap.size wr).drew)
        clear q0 q1 q2 hDi
        go_wp2_with fail
        go_cut [13] (fun y wx => ∃ L2 f g cap, y = .slice (some ⟨g, 0, none⟩) (L1.length + 1) cap ∧ Below wr.heap.size wr wx ∧ Frames wx wr.heap.size (.slice (some ⟨g, 0, none⟩) (L1.length + 1) cap) (L2 ++ [f]) ∧ told L2 = told L1 ∧ L2.length = L1.length ∧ RowOk (f.kind, f.body))
        case first =>
          go_region_held3 (fun w' => w'.cell? ⟨w.heap.size, 0, none⟩ = some (.slice (some ⟨bD, oD, none⟩) dn dc) ∧ w'.cell? ⟨bD, oD + i * 3, none⟩ = some (.int .i64 D.kind) ∧ w'.cell? ⟨bD, oD + i * 3 + 1, none⟩ = some (.int .i64 D.size) ∧ w'.cell? ⟨bD, oD + i * 3 + 2, none⟩ = some (.bool D.anew))
            (first | exact hs0 | exact hs1 | exact hs2 | exact hs3 | exact hs4 | exact hs5)
            (first
              | (go_at_call 22; first
                | (refine (CopyFrames_any (HRD.out.keep (Nat.le_refl _) hbd.out) HSM.out (by omega)).mono ?_; rintro _ w22 ⟨v22, L22, rfl, hb22, hf22, ht22⟩; obtain ⟨a22, c22, hv22⟩ := own_form hf22.row; subst hv22; have T22 := Lib.hid ht22; have HL22 := Lib.hid (show L22.length = L1.length from (by have := congrArg List.length ht22; simpa [told] using this)); have B22 := Lib.hid (hbd.out.trans hb22); have F22 := Lib.hid (show Frames w22 wr.heap.size (.slice a22 L22.length c22) L22 from hf22); have hs1 := HS0.out.keep B22.out; clear hb22 hf22 ht22)
                | (refine (CopyFrames_any (HRD.out.keep (Nat.le_refl _) B40.out) HSM.out (by omega)).mono ?_; rintro _ w22 ⟨v22, L22, rfl, hb22, hf22, ht22⟩; obtain ⟨a22, c22, hv22⟩ := own_form hf22.row; subst hv22; have T22 := Lib.hid ht22; have HL22 := Lib.hid (show L22.length = L1.length from (by have := congrArg List.length ht22; simpa [told] using this)); have RY := Lib.hid (ready_2 B40.out O40.out hb22 hf22); have RB := Lib.hid (RY.out.box (.cells #[.int .i64 f.kind, .slice f.ao f.body.length f.cap] 51)); have NB := Lib.hid (heap_alloc_new w22 (.cells #[.int .i64 f.kind, .slice f.ao f.body.length f.cap] 51)); have hs3 := HS0.out.keep RY.out.hb; have hs4 := HS0.out.keep RB.out.hb; clear hb22 hf22 ht22)
                | (refine (CopyFrames_any (HRD.out.keep (Nat.le_refl _) BB40.out) HSM.out (by omega)).mono ?_; rintro _ w22 ⟨v22, L22, rfl, hb22, hf22, ht22⟩; obtain ⟨a22, c22, hv22⟩ := own_form hf22.row; subst hv22; have T22 := Lib.hid ht22; have HL22 := Lib.hid (show L22.length = L1.length from (by have := congrArg List.length ht22; simpa [told] using this)); have RB := Lib.hid (ready_2 BB40.out OB40.out hb22 hf22); have NB := Lib.hid ((hb22.block w40.heap.size (by simp)).trans (heap_alloc_new w40 (.cells #[.int .i64 f.kind, .slice f.ao f.body.length f.cap] 51))); have hs3 := HS0.out.keep RB.out.hb; clear hb22 hf22 ht22))
              | (go_at_call 40; first
                | (refine (DoRow_any D.kind D.size i D.anew wr.drew).mono ?_; rintro _ w40 ⟨f, rfl, hb40, ho40, hr40⟩; have HR40 := Lib.hid hr40; have B40 := Lib.hid (hbd.out.trans hb40); have O40 := Lib.hid (show w40.ownsRow wr.heap.size 5 1 f.val f.body.length (bts f.body) from ho40); have BB40 := Lib.hid (B40.out.trans ((below1 w40 (.cells #[.int .i64 f.kind, .slice f.ao f.body.length f.cap] 51)).mono B40.out.size)); have OB40 := Lib.hid (own_keep O40.out (Nat.le_refl _) (below1 w40 (.cells #[.int .i64 f.kind, .slice f.ao f.body.length f.cap] 51))); have hs1 := HS0.out.keep B40.out; have hs2 := HS0.out.keep BB40.out; clear hb40 ho40 hr40)
                | (refine (DoRow_any D.kind D.size i D.anew w22).mono ?_; rintro _ w40 ⟨f, rfl, hb40, ho40, hr40⟩; have HR40 := Lib.hid hr40; have RY := Lib.hid (ready_1 B22.out F22.out hb40 ho40); have RB := Lib.hid (RY.out.box (.cells #[.int .i64 f.kind, .slice f.ao f.body.length f.cap] 51)); have NB := Lib.hid (heap_alloc_new w40 (.cells #[.int .i64 f.kind, .slice f.ao f.body.length f.cap] 51)); have hs2 := HS0.out.keep RY.out.hb; have hs3 := HS0.out.keep RB.out.hb; clear hb40 ho40 hr40))
              | (refine step_app_at elemF rfl _ _ rfl (B := wr.heap.size) (n := L22.length) (xs := fcells L22) rfl RB.out.fx.row rfl (news := f.cells) rfl (fun y z hz => (by have := World.news_of_block NB.out y z hz; exact this)) (fun u hu => (by simp only [Fm.cells, List.mem_cons, List.not_mem_nil, or_false] at hu; rcases hu with rfl | rfl <;> rfl)) (by decide) (by have := HL22.out; omega) RB.out.hb.size ?_; intro g7 cap7 w7 hown7 hgr7 hat7 _; have AP := Lib.hid (RB.out.app hown7 hgr7 hat7); have hs5 := HS0.out.keep AP.out.1; clear hown7 hgr7 hat7))
          all_goals go_wp2_with fail
          all_goals go_meet
          all_goals (rw [HL22.out] at AP ⊢; exact ⟨L22, f, g7, cap7, rfl, AP.out.1, AP.out.2, T22.out, HL22.out, HR40.out⟩)
        case rest =>
          obtain ⟨L2, f, g, cap, rfl, hb3, fr3, td3, hl3, hr3⟩ := hcut
          obtain ⟨x3, p0, p1, p2⟩ := HS0.out.keep hb3
          have J3 := Lib.hid (HJ1.out.below hb3)
          have W3 := Lib.hid (HW1.out.trans (Went.of_below hb3))
          have X3 := Lib.hid (HX1.out.below hb3)
          have FR3 := Lib.hid (fr3.fresh HJ1.out (Nat.le_refl _))
          have FO3 := Lib.hid (HF1.out.keep (Nat.le_refl _) hb3)
          have HR3 := Lib.hid hr3
          have TD3 := Lib.hid td3
          have HL3 := Lib.hid hl3
          have hz3 := hb3.size
          clear hb3 fr3 td3 hl3 hr3 hs0 HS0 HRD hbd HJ1 HW1 HX1 HF1 x0
          cases han : D.anew with
          | true =>
            rw [han] at p2
            go_wp2_with fail
            obtain ⟨p, hp, hp2⟩ : ∃ p : Nat, D.size % ((L1.length : Int) + 1) = p ∧ p ≤ L1.length := by
              have h1 := Int.emod_nonneg D.size (show (L1.length : Int) + 1 ≠ 0 by omega)
              have h2 := Int.emod_lt_of_pos D.size (show (0 : Int) < (L1.length : Int) + 1 by omega)
              exact ⟨(D.size % ((L1.length : Int) + 1)).toNat, by omega, by omega⟩
            have PK := Lib.hid (Pick_any D.size ((L1.length : Int) + 1) (by omega) (by omega) wc)
            rw [hp] at PK
            clear hp
            refine PK.out.mono ?_
            rintro _ _ ⟨rfl, g4, rfl⟩
            obtain ⟨k, hk⟩ : ∃ k : Nat, L1.length - p = k := ⟨_, rfl⟩
            have k0 : (0 : Int) ≤ k := by omega
            have k1 : (k : Int) ≤ L1.length := by omega
            have k2 : k ≤ L1.length := by omega
            have e2 : wrap64 ((L1.length : Int) - p) = k := by rw [IntWalk.wrap64_in _ (by omega)]; omega
            have J4 := Lib.hid (J3.out.below g4.below)
            have W4 := Lib.hid (W3.out.trans (Went.of_below g4.below))
            have X4 := Lib.hid (X3.out.below g4.below)
            have FO4 := Lib.hid (FO3.out.keep (Nat.le_refl _) g4.below)
            have hz4 := g4.size
            generalize g4.val = w4 at *
            have CF := Lib.hid (CopyFrames_any ((FO4.out.reads rfl).1.rd.drop k2) (fun f hf => HSM.out f (List.mem_of_mem_drop hf)) (by omega))
            clear PK J3 W3 X3 FO3 FR3 HR3 hk hp2
            go_wp2_with fail
            refine CF.out.mono ?_
            rintro _ w5 ⟨v5, L5, rfl, hb5, hf5, ht5⟩
            clear e2
            obtain ⟨a5, c5, hv5⟩ := own_form hf5.row
            subst hv5
            have J5 := Lib.hid (J4.out.below hb5)
            have W5 := Lib.hid (W4.out.trans (Went.of_below hb5))
            have X5 := Lib.hid (X4.out.below hb5)
            have FO5 := Lib.hid (FO4.out.keep (Nat.le_refl _) hb5)
            have FN5 := Lib.hid (((hf5.fresh J4.out (Nat.le_refl _)).base (show w.heap.size ≤ w4.heap.size by omega)))
            rw [told_drop] at ht5
            have hl5 : L5.length ≤ L1.length := by
              have := congrArg List.length ht5
              simp [told] at this
              omega
            have HRN := Lib.hid (show RowsOk (told L5) from fun r hr => HH1.out.half.ok r (by rw [ht5] at hr; exact List.mem_of_mem_drop hr))
            have hlS : (secL (told L5)).length ≤ 255 := by
              rw [ht5]
              exact Nat.le_trans (secL_drop _ _) HH1.out.half.len
            have tt := HH1.out.half.t
            have rd5 := FN5.out.reads rfl
            have CP := Lib.hid (Compact_any J5.out HH1.out.half.okJ (by omega) (by omega) rd5.1 rd5.2.1 rd5.2.2 (fun f hf => by
              have := HRN.out (f.kind, f.body) (List.mem_map_of_mem (f := fun f : Fm => (f.kind, f.body)) hf)
              exact ⟨this.2.2.2, by have := this.2.2.1; simp only at this; omega⟩) (by omega))
            have ccs := HH1.out.compact_armed HO1.out HRN.out hlS (by have h1 := HT1.out; have h2 := HTn.out; omega)
            have ce0 := (allP_ok HRN.out).2
            clear CF hb5 hf5 J4 W4 X4 FO4 J5 rd5 hlS
            rcases ccs with ⟨c1, c2, c3, c4⟩ | ⟨c1, c2, c3, c4, c5⟩
            · rw [c1] at CP
              have HC2 := Lib.hid c2
              have HC3 := Lib.hid c3
              have HC4 := Lib.hid c4
              clear c1 c2 c3 c4 tt ht5 ce0
              go_wp2_with fail
              refine CP.out.mono ?_
              rintro _ w6 ⟨rfl, F6, j6, wt6⟩
              have J6 := Lib.hid j6
              have W6 := Lib.hid (W5.out.trans wt6)
              have X6 := Lib.hid (X5.out.went wt6)
              have FN6 := Lib.hid (FN5.out.went wt6)
              clear CP j6 wt6 W5 X5 FO5 FN5
              go_wp2_with fail
              go_roundw
              case rel => exact ⟨i + 1, F6, _, _, L5, by omega, by go_num, J6.out, HC2.out, HC3.out, W6.out, X6.out, FN6.out, by rw [HC4.out]; have := HT1.out; omega⟩
              case measure => simp [intOf]; omega
            · rw [c1, compJ_dead c1 ce0] at CP
              have HBK := Lib.hid c4
              have HSm := Lib.hid c5
              clear c1 c2 c3 c4 c5 tt ht5 ce0
              go_wp2_with fail
              refine CP.out.mono ?_
              rintro _ w6 ⟨rfl, F6, j6, wt6⟩
              have J6 := Lib.hid j6
              have W6 := Lib.hid (W5.out.trans wt6)
              have FO6 := Lib.hid (FO5.out.went wt6)
              have FN6 := Lib.hid (FN5.out.went wt6)
              clear CP j6 wt6 W5 X5 FO5 FN5
              have okd : ({ j1 with dead := true } : Jr).Ok := ⟨HH1.out.half.okJ.1, HH1.out.half.okJ.2, HH1.out.half.okJ.3⟩
              have tt1 := HH1.out.half.t.1
              have AD := Lib.hid (Append_dead J6.out okd rfl)
              go_wp2_with fail
              refine AD.out.mono ?_
              rintro _ w7 ⟨rfl, F7, j7, wt7⟩
              have CD := Lib.hid (Compact_dead j7 okd (by show 0 ≤ j1.turn; omega) (by show j1.turn < _; have h1 := HT1.out; have h2 := HTn.out; omega) rfl)
              have W7 := Lib.hid (W6.out.trans wt7)
              have FO7 := Lib.hid (FO6.out.went wt7)
              have FN7 := Lib.hid (FN6.out.went wt7)
              clear AD j7 wt7 W6 FO6 FN6 J6
              go_wp2_with fail
              refine CD.out.mono ?_
              rintro _ w8 ⟨rfl, F8, j8, wt8⟩
              have W8 := Lib.hid (W7.out.trans wt8)
              have FO8 := Lib.hid (FO7.out.went wt8)
              have FN8 := Lib.hid (FN7.out.went wt8)
              have J8 := Lib.hid j8
              clear CD j8 wt8 W7 FO7 FN7
              go_wp2
              refine bodyPost_ret (results_tmp3 rfl _ _ _) rfl ?_
              exact ⟨F8, _, _, _, _, _, _, _, _, L1, L5, rfl, J8.out, W8.out, FO8.out, FN8.out, rfl, rfl, HH1.out.half.ok, HRN.out, by omega, by omega, HBK.out.mono (by have := HT1.out; omega), HSm.out⟩
          | false =>
            rw [han] at p2
            have hln3 : (L2 ++ [f]).length = L1.length + 1 := by rw [List.length_append, HL3.out]; rfl
            have rd3 := FR3.out.reads hln3
            obtain ⟨bg, og, eg, y0, y1, sy⟩ := rd3.1.rd.each L1.length f (by rw [List.getElem?_append_right (by rw [HL3.out]; exact Nat.le_refl _), HL3.out, Nat.sub_self]; rfl)
            cases eg
            unfold Fm.val at y1
            rw [Nat.zero_add] at y0 y1
            have hb4 := below1 wc (.cells #[.int .i64 f.kind, .slice f.ao f.body.length f.cap] 51)
            have AY : Apart wc F1 b f.ao := fun k o e => ⟨rd3.2.2 f (by simp) k o e, fun e2 => rd3.1.bclear f (by simp) k o e 0 (.inr e2), fun x hx => rd3.1.bclear f (by simp) k o e x (.inl hx)⟩
            have AY4 : Apart (wc.alloc (.cells #[.int .i64 f.kind, .slice f.ao f.body.length f.cap] 51)) F1 b f.ao := fun k o e => ⟨Nat.lt_of_lt_of_le (AY k o e).1 hb4.size, (AY k o e).2⟩
            have J4 := J3.out.below hb4
            have W4 := Lib.hid (W3.out.trans (Went.of_below hb4))
            have X4 := Lib.hid (X3.out.below hb4)
            have FO4 := Lib.hid (FO3.out.keep (Nat.le_refl _) hb4)
            have FN4 := Lib.hid ((FR3.out.keep (Nat.le_refl _) hb4).base hzw)
            have HLN := Lib.hid hln3
            have htn : told (L2 ++ [f]) = told L1 ++ [(f.kind, f.body)] := by rw [told_push, TD3.out]
            have HRN := Lib.hid (show RowsOk (told (L2 ++ [f])) from fun r hr => by
              rw [htn] at hr
              rcases List.mem_append.1 hr with h1 | h1
              · exact HH1.out.half.ok r h1
              · rw [List.mem_singleton] at h1; rw [h1]; exact HR3.out)
            have AP := Lib.hid (Append_any J4 HH1.out.half.okJ f.kind (sy.keep (Nat.le_refl _) hb4) HR3.out.2.2.2 (by have := HR3.out.2.2.1; simp only at this; omega) AY4)
            have HTN := Lib.hid htn
            have le0 := (laid_ok HR3.out).1
            have tt := HH1.out.half.t
            clear J3 W3 X3 FO3 FR3 rd3 sy AY AY4 hb4 J4 htn hln3
            by_cases hfit : (secL (told L1)).length + npc (rowF (f.kind, f.body)) ≤ 255
            · rcases HH1.out.append_back HO1.out HR3.out hfit with ⟨c1, c2, c3, c4⟩ | ⟨c1, c2, c3, c4, c5⟩
              · simp only at c1 c2 c3 c4
                rw [c1] at AP
                rw [← HTN.out] at c2
                have HC2 := Lib.hid c2
                have HC3 := Lib.hid c3
                have HC4 := Lib.hid c4
                clear c1 c2 c3 c4 tt le0 hfit
                go_wp2_with fail
                refine AP.out.mono ?_
                rintro _ w6 ⟨rfl, F6, j6, wt6⟩
                have J6 := Lib.hid j6
                have W6 := Lib.hid (W4.out.trans wt6)
                have X6 := Lib.hid (X4.out.went wt6)
                have FN6 := Lib.hid (FN4.out.went wt6)
                clear AP j6 wt6 W4 X4 FO4 FN4 y0 y1
                go_wp2_with fail
                go_roundw
                case rel => exact ⟨i + 1, F6, _, _, L2 ++ [f], by omega, by go_num, J6.out, HC2.out, HC3.out, W6.out, X6.out, FN6.out, by rw [HC4.out]; have := HT1.out; omega⟩
                case measure => simp [intOf]; omega
              · simp only at c1 c2 c3 c4 c5
                rw [c1, appJ_dead c1 le0] at AP
                rw [← HTN.out] at c4
                have HBK := Lib.hid c4
                have HSm := Lib.hid c5
                clear c1 c2 c3 c4 c5 tt le0 hfit
                go_wp2_with fail
                refine AP.out.mono ?_
                rintro _ w6 ⟨rfl, F6, j6, wt6⟩
                have J6 := Lib.hid j6
                have W6 := Lib.hid (W4.out.trans wt6)
                have FO6 := Lib.hid (FO4.out.went wt6)
                have FN6 := Lib.hid (FN4.out.went wt6)
                clear AP j6 wt6 W4 X4 FO4 FN4 y0 y1
                have okd : ({ j1 with dead := true } : Jr).Ok := ⟨HH1.out.half.okJ.1, HH1.out.half.okJ.2, HH1.out.half.okJ.3⟩
                have tt1 := HH1.out.half.t.1
                have AD := Lib.hid (Append_dead J6.out okd rfl)
                go_wp2_with fail
                refine AD.out.mono ?_
                rintro _ w7 ⟨rfl, F7, j7, wt7⟩
                have CD := Lib.hid (Compact_dead j7 okd (by show 0 ≤ j1.turn; omega) (by show j1.turn < _; have h1 := HT1.out; have h2 := HTn.out; omega) rfl)
                have W7 := Lib.hid (W6.out.trans wt7)
                have FO7 := Lib.hid (FO6.out.went wt7)
                have FN7 := Lib.hid (FN6.out.went wt7)
                clear AD j7 wt7 W6 FO6 FN6 J6
                go_wp2_with fail
                refine CD.out.mono ?_
                rintro _ w8 ⟨rfl, F8, j8, wt8⟩
                have W8 := Lib.hid (W7.out.trans wt8)
                have FO8 := Lib.hid (FO7.out.went wt8)
                have FN8 := Lib.hid (FN7.out.went wt8)
                have J8 := Lib.hid j8
                clear CD j8 wt8 W7 FO7 FN7
                go_wp2
                refine bodyPost_ret (results_tmp3 rfl _ _ _) rfl ?_
                exact ⟨F8, _, _, _, _, _, _, _, _, L1, (L2 ++ [f]), rfl, J8.out, W8.out, FO8.out, FN8.out, rfl, HLN.out, HH1.out.half.ok, HRN.out, by omega, by have := HLN.out; omega, HBK.out.mono (by have := HT1.out; omega), HSm.out⟩
            · obtain ⟨c1, c2, c3⟩ := HH1.out.append_full HO1.out HR3.out (by omega)
              simp only at c1 c2 c3
              rw [c1, c2, c3] at AP
              clear c1 c2 c3 tt le0 hfit
              go_wp2_with fail
              refine AP.out.mono ?_
              rintro _ w6 ⟨rfl, F6, j6, wt6⟩
              have J6 := Lib.hid j6
              have W6 := Lib.hid (W4.out.trans wt6)
              have X6 := Lib.hid (X4.out.went wt6)
              have FO6 := Lib.hid (FO4.out.went wt6)
              clear AP j6 wt6 W4 X4 FO4 FN4 y0 y1
              go_wp2_with fail
              go_roundw
              case rel => exact ⟨i + 1, F6, _, _, L1, by omega, by go_num, J6.out, HH1.out, HO1.out, W6.out, X6.out, FO6.out, by have := HT1.out; omega⟩
              case measure => simp [intOf]; omega
      · obtain rfl : i = 12 := by omega
        have HBK := Lib.hid (HH1.out.back (told L1))
        have hll : L1.length ≤ 255 := by
          have h1 := rows_len (R := told L1)
          have h2 := HH1.out.half.len
          have h3 : (told L1).length = L1.length := by simp [told]
          omega
        have hk1 : ((12 : Nat) : Int) < dn := by omega
        go_wp2
        refine bodyPost_ret (results_tmp3 rfl _ _ _) rfl ?_
        exact ⟨F1, _, _, _, _, _, _, _, _, L1, L1, rfl, HJ1.out, HW1.out, HF1.out, HF1.out, rfl, rfl, HH1.out.half.ok, HH1.out.half.ok, by omega, by omega, HBK.out.mono (by have := HT1.out; omega), HH1.out.half.sm⟩
    · have HBK := Lib.hid (HH1.out.back (told L1))
      have hll : L1.length ≤ 255 := by
        have h1 := rows_len (R := told L1)
        have h2 := HH1.out.half.len
        have h3 : (told L1).length = L1.length := by simp [told]
        omega
      have hk1 : ¬ (i : Int) < dn := by omega
      go_wp2
      refine bodyPost_ret (results_tmp3 rfl _ _ _) rfl ?_
      exact ⟨F1, _, _, _, _, _, _, _, _, L1, L1, rfl, HJ1.out, HW1.out, HF1.out, HF1.out, rfl, rfl, HH1.out.half.ok, HH1.out.half.ok, by omega, by omega, HBK.out.mono (by have := HT1.out; omega), HH1.out.half.sm⟩
end Go.Proofs.Ytaigdbnfhehclaa
