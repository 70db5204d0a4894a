/- What is proved: the walks of mangrovekit's small functions over ints: SameInts, CopyInts, markInts, LentInts, KeptInts. No condition. -/
import Derived.Test.YtigpdnbcjmcfoaaB2
namespace Go.Proofs.Ytigpdnbcjmcfoaa
open Go.RowKit
attribute [local go_sem ↓] cutA_zero

theorem its_nil : its [] = [] := rfl
section
variable (w : World) (a : Option Addr) (len cap : Nat)
theorem islice_lh (kl kh : IntKind) (l h : Int) (h0 : 0 ≤ l) (h1 : l ≤ h) (h2 : h ≤ cap) :
    (Instr.slice 22 (.slice a len cap) (some (.int kl l)) (some (.int kh h)) none).run Try.prog w = .ok (.slice (cutA a l.toNat cap) (h.toNat - l.toNat) (cap - l.toNat)) w := by
  rw [run_slice_lh w 22 a len cap Try.underlying22 kl kh l h h0 h1 h2]
  rfl
theorem islice_h (kh : IntKind) (h : Int) (h0 : 0 ≤ h) (h2 : h ≤ cap) :
    (Instr.slice 22 (.slice a len cap) none (some (.int kh h)) none).run Try.prog w = .ok (.slice a h.toNat cap) w := by
  rw [run_slice_h w 22 a len cap Try.underlying22 kh h h0 h2]
  show Result.ok (Value.slice (cutA a 0 cap) _ _) w = _
  rw [cutA_zero]
  rfl
theorem islice_l (kl : IntKind) (l : Int) (h0 : 0 ≤ l) (h1 : l ≤ len) :
    (Instr.slice 22 (.slice a len cap) (some (.int kl l)) none none).run Try.prog w = .ok (.slice (cutA a l.toNat cap) (len - l.toNat) (cap - l.toNat)) w := by
  rw [run_slice_l w 22 a len cap Try.underlying22 kl l h0 h1]
  rfl
end
attribute [go_sem high] islice_lh islice_h islice_l
theorem Sl.cutI {w : World} {ao : Option Addr} {n cap : Nat} {k : List Int} (h : Sl w ao n cap (its k)) {l r m n' cap' : Nat} {q : List Int} (hlr : l ≤ r) (hr : r ≤ n) (hm : m ≤ cap) (hrm : r ≤ m) (hn : n' = r - l) (hc : cap' = m - l) (hq : q = (k.drop l).take (r - l)) :
    Sl w (cutA ao l m) n' cap' (its q) := by
  have := h.cut hlr hr hm hrm hn hc
  rw [hq]
  unfold its at *
  rw [List.map_take, List.map_drop]
  exact this
theorem Sl.frontI {w : World} {ao : Option Addr} {n cap : Nat} {k : List Int} (h : Sl w ao n cap (its k)) {n' cap' : Nat} {q : List Int} (hr : n' ≤ n) (hrm : n' ≤ cap') (hc : cap' ≤ cap) (hq : q = k.take n') : Sl w ao n' cap' (its q) := by
  have := h.cutI (l := 0) (r := n') (m := cap') (q := q) (Nat.zero_le _) hr hc hrm rfl rfl (by simpa using hq)
  rwa [cutA_zero] at this

theorem SameInts_any {w : World} {ao bo : Option Addr} {n m c d : Nat} {l k : List Int} (hl : Sl w ao n c (its l)) (hk : Sl w bo m d (its k)) (hn : n < 1099511627776) (hm : m < 1099511627776) : Calls Try.prog 40 #[.slice ao n c, .slice bo m d] w (Ret (.bool (decide (l = k))) w) := by
  have hln : l.length = n := by rw [← hl.len, its_length]
  have hkn : k.length = m := by rw [← hk.len, its_length]
  by_cases hnm : n = m
  · subst hnm
    go_enter Try.func40, Try.ntmps40
    go_wp2
    go_loopw [5] (fun i wr => ∃ j : Nat, j ≤ n ∧ i = .int .i64 j ∧ l.take j = k.take j ∧ Below w.heap.size w wr) (fun i _ => n - (intOf i).toNat)
    case atStart => exact ⟨0, by omega, rfl, rfl, by (repeat' (first | (with_reducible exact Below.refl _ _) | (with_reducible assumption) | (with_reducible refine Ext.up _ ?_) | (with_reducible refine Below.alloc ?_ ?_ _) | (with_reducible refine Below.drew ?_) | (with_reducible refine Below.setCell ?_ ?_ _) | (with_reducible refine Below.setRow_ ?_ ?_ _) | go_size))⟩
    case round =>
      obtain ⟨j, hj, rfl, hsame, hb⟩ := hrel
      by_cases hlt : j < n
      · obtain ⟨b, o, rfl, hbw, hc⟩ := hl.at (by omega)
        obtain ⟨b', o', rfl, hbw', hc'⟩ := hk.at (by omega)
        obtain ⟨x, hjx⟩ : ∃ x, l[j]? = some x := ⟨_, List.getElem?_eq_getElem (by omega)⟩
        obtain ⟨y, hjy⟩ : ∃ y, k[j]? = some y := ⟨_, List.getElem?_eq_getElem (by omega)⟩
        have hx := hc j _ (by rw [its_get, hjx]; rfl)
        have hx' := hc' j _ (by rw [its_get, hjy]; rfl)
        rw [← hb.cell (by exact hbw)] at hx
        rw [← hb.cell (by exact hbw')] at hx'
        have gx := ext_cell hx
        have gx' := ext_cell hx'
        by_cases hxy : x = y
        · subst hxy
          go_wp2
          (refine wp_region_grow (by kernel_rfl) (by kernel_rfl) ?_; (repeat (go_big_quiet_step ((fail)))); refine wpQuiet_nil ?_; rintro _ ⟨g, rfl⟩)
          go_wp2
          go_roundw
          case rel => exact ⟨j + 1, by omega, rfl, by rw [List.take_add_one, List.take_add_one, hsame, hjx, hjy], by (repeat' (first | (with_reducible exact Below.refl _ _) | (with_reducible assumption) | (with_reducible refine Ext.up _ ?_) | (with_reducible refine Below.alloc ?_ ?_ _) | (with_reducible refine Below.drew ?_) | (with_reducible refine Below.setCell ?_ ?_ _) | (with_reducible refine Below.setRow_ ?_ ?_ _) | go_size))⟩
          case measure => simp [intOf]; omega
        · have hxy' : (x == y) = false := by simp; omega
          go_wp2
          (refine wp_region_grow (by kernel_rfl) (by kernel_rfl) ?_; (repeat (go_big_quiet_step ((fail)))); refine wpQuiet_nil ?_; rintro _ ⟨g, rfl⟩)
          go_wp2
          go_ret
          have hne : ¬ l = k := fun e => hxy (by rw [e, hjy] at hjx; exact (Option.some.inj hjx).symm)
          rw [decide_eq_false hne]
          (refine Ret.mk ?_; (repeat' (first | (with_reducible exact Below.refl _ _) | (with_reducible assumption) | (with_reducible refine Ext.up _ ?_) | (with_reducible refine Below.alloc ?_ ?_ _) | (with_reducible refine Below.drew ?_) | (with_reducible refine Below.setCell ?_ ?_ _) | (with_reducible refine Below.setRow_ ?_ ?_ _) | go_size)))
      · go_wp2
        go_ret
        obtain rfl : j = n := by omega
        rw [← hln, List.take_length, hln, ← hkn, List.take_length] at hsame
        rw [decide_eq_true hsame]
        refine Ret.mk ?_
        (repeat' (first | (with_reducible exact Below.refl _ _) | (with_reducible assumption) | (with_reducible refine Ext.up _ ?_) | (with_reducible refine Below.alloc ?_ ?_ _) | (with_reducible refine Below.drew ?_) | (with_reducible refine Below.setCell ?_ ?_ _) | (with_reducible refine Below.setRow_ ?_ ?_ _) | go_size))
  · have hnm' : ¬ (n : Int) = m := by omega
    go_enter Try.func40, Try.ntmps40
    go_wp2
    go_ret
    have hne : ¬ l = k := fun e => hnm (by rw [← hln, ← hkn, e])
    rw [decide_eq_false hne]
    (refine Ret.mk ?_; (repeat' (first | (with_reducible exact Below.refl _ _) | (with_reducible assumption) | (with_reducible refine Ext.up _ ?_) | (with_reducible refine Below.alloc ?_ ?_ _) | (with_reducible refine Below.drew ?_) | (with_reducible refine Below.setCell ?_ ?_ _) | (with_reducible refine Below.setRow_ ?_ ?_ _) | go_size)))

theorem CopyInts_any {w : World} {ao : Option Addr} {n c : Nat} {l : List Int} (hl : Sl w ao n c (its l)) (hn : n < 1099511627776) : Calls Try.prog 35 #[.slice ao n c] w (RetO 3 w.heap.size n (its l) w) := by
  have hln : l.length = n := by rw [← hl.len, its_length]
  go_enter Try.func35, Try.ntmps35
  go_wp2
  go_loopw [3, 4] (fun v i wr => ∃ j : Nat, j ≤ n ∧ i = .int .i64 j ∧ wr.ownsRow w.heap.size 3 1 v j (its (l.take j)) ∧ Below w.heap.size w wr) (fun _ i _ => n - (intOf i).toNat)
  case atStart => exact ⟨0, by omega, rfl, World.ownsRow_nil _ _ _ _, by (repeat' (first | (with_reducible exact Below.refl _ _) | (with_reducible assumption) | (with_reducible refine Ext.up _ ?_) | (with_reducible refine Below.alloc ?_ ?_ _) | (with_reducible refine Below.drew ?_) | (with_reducible refine Below.setCell ?_ ?_ _) | (with_reducible refine Below.setRow_ ?_ ?_ _) | go_size))⟩
  case round =>
    obtain ⟨j, hj, rfl, hown, hb⟩ := hrel
    obtain ⟨ao', cap, rfl⟩ := own_form hown
    have hz := hb.size
    by_cases hlt : j < n
    · obtain ⟨b, o, rfl, hbw, hc⟩ := hl.at (by omega)
      obtain ⟨x, hjx⟩ : ∃ x, l[j]? = some x := ⟨_, List.getElem?_eq_getElem (by omega)⟩
      have hx := hc j _ (by rw [its_get, hjx]; rfl)
      rw [← hb.cell (by exact hbw)] at hx
      go_wp2_with (at_builtin; refine wp_app1 elemI rfl _ _ rfl (B := w.heap.size) rfl hown rfl rfl (by omega) hz ?_)
      intro ao2 cap2 w2 hown2 hb2
      go_wp2
      go_roundw
      case rel => exact ⟨j + 1, by omega, rfl, by rw [List.take_add_one, its_append, hjx]; exact hown2, hb.trans hb2⟩
      case measure => simp [intOf]; omega
    · go_wp2
      go_ret
      obtain rfl : j = n := by omega
      rw [← hln, List.take_length, hln] at hown
      exact ⟨ao', cap, rfl, hb, hown⟩

def marks : List Int := [7001, 7014, 7027, 7040, 7053]
theorem marks_at (j : Nat) (h : j < 5) : marks[j]? = some (7001 + 13 * (j : Int)) := by
  match j, h with
  | 0, _ | 1, _ | 2, _ | 3, _ | 4, _ => rfl

theorem mark_any (k : Nat) (hk : k < 1099511627776) (w : World) : Calls Try.prog 36 #[.int .i64 k] w (Ret (.int .i64 (7001 + 13 * (k : Int))) w) := by
  go_enter Try.func36, Try.ntmps36
  go_wp2
  go_ret
  refine Ret.mk_of (by (repeat' (first | (with_reducible exact Below.refl _ _) | (with_reducible assumption) | (with_reducible refine Ext.up _ ?_) | (with_reducible refine Below.alloc ?_ ?_ _) | (with_reducible refine Below.drew ?_) | (with_reducible refine Below.setCell ?_ ?_ _) | (with_reducible refine Below.setRow_ ?_ ?_ _) | go_size))) ?_
  simp

theorem LentInts_any {w : World} {ao : Option Addr} {n c : Nat} {l : List Int} (hl : Sl w ao n c (its l)) (hn : n < 549755813888) : Calls Try.prog 13 #[.slice ao n c] w (RetO 3 w.heap.size (n + 5) (its (l ++ marks)) w) := by
  have hln : l.length = n := by rw [← hl.len, its_length]
  go_enter Try.func13, Try.ntmps13
  go_wp2_with (go_at_call 35; refine (CopyInts_any hl (by omega)).mono ?_; rintro _ w1 ⟨ao1, cap1, rfl, hb1, hown1⟩)
  go_loopw [3, 4] (fun v i wr => ∃ j : Nat, j ≤ 5 ∧ i = .int .i64 j ∧ wr.ownsRow w.heap.size 3 1 v (n + j) (its (l ++ marks.take j)) ∧ Below w.heap.size w wr) (fun _ i _ => 5 - (intOf i).toNat)
  case atStart => exact ⟨0, by omega, rfl, by simpa using hown1, hb1⟩
  case round =>
    obtain ⟨j, hj, rfl, hown, hb⟩ := hrel
    obtain ⟨ao', cap, rfl⟩ := own_form hown
    have hz := hb.size
    by_cases hlt : j < 5
    · have hz' : (j : Int) < 5 := by omega
      go_wp2_with (first | (go_at_call 36; refine (mark_any j (by omega) _).mono ?_; rintro _ _ ⟨rfl, g, rfl⟩) | (at_builtin; refine wp_app1 elemI rfl _ _ rfl (B := w.heap.size) rfl (own_ext hown g) rfl rfl (by omega) (Nat.le_trans hz g.size) ?_))
      intro ao2 cap2 w2 hown2 hb2
      go_wp2
      go_roundw
      case rel => exact ⟨j + 1, by omega, rfl, by rw [List.take_add_one, ← List.append_assoc, its_append, marks_at j hlt]; exact hown2, (g.up hb).trans hb2⟩
      case measure => simp [intOf]; omega
    · go_wp2
      go_ret
      obtain rfl : j = 5 := by omega
      exact ⟨ao', cap, rfl, hb, hown⟩

theorem KeptInts_true {w : World} {ao bo : Option Addr} {m c d : Nat} {l : List Int} (ha : Sl w ao (m + 5) c (its (l ++ marks))) (hl : Sl w bo m d (its l)) (hm : m < 549755813888) : Calls Try.prog 16 #[.slice ao (m + 5) c, .slice bo m d] w (Ret (.bool true) w) := by
  have hln : l.length = m := by rw [← hl.len, its_length]
  have hle := ha.le
  have hs1 : Sl w ao m c (its l) := ha.frontI (by omega) (by omega) (by omega) (by rw [← hln]; simp)
  have hs2 : Sl w (cutA ao m c) 5 (c - m) (its marks) := ha.cutI (l := m) (r := m + 5) (m := c) (by omega) (by omega) (by omega) (by omega) (by omega) rfl (by rw [← hln]; simp; rfl)
  have hc0 : (m : Int) ≤ c := by omega
  have hc1 : (m : Int) ≤ (m : Int) + 5 := by omega
  go_enter Try.func16, Try.ntmps16
  go_wp2_with (go_at_call 40; refine (SameInts_any hs1 hl (by omega) (by omega)).mono ?_; rintro _ _ ⟨rfl, g, rfl⟩)
  go_loopw [5, 6] (fun v i wr => ∃ j : Nat, j ≤ 5 ∧ i = .int .i64 j ∧ wr.ownsRow w.heap.size 3 1 v j (its (marks.take j)) ∧ Below w.heap.size w wr) (fun _ i _ => 5 - (intOf i).toNat)
  case atStart => exact ⟨0, by omega, rfl, World.ownsRow_nil _ _ _ _, g.below⟩
  case round =>
    obtain ⟨j, hj, rfl, hown, hb⟩ := hrel
    obtain ⟨ao', cap, rfl⟩ := own_form hown
    have hz := hb.size
    by_cases hlt : j < 5
    · have hz' : (j : Int) < 5 := by omega
      go_wp2_with (first | (go_at_call 36; refine (mark_any j (by omega) _).mono ?_; rintro _ _ ⟨rfl, g1, rfl⟩) | (at_builtin; refine wp_app1 elemI rfl _ _ rfl (B := w.heap.size) rfl (own_ext hown g1) rfl rfl (by omega) (Nat.le_trans hz g1.size) ?_))
      intro ao2 cap2 w2 hown2 hb2
      go_wp2
      go_roundw
      case rel => exact ⟨j + 1, by omega, rfl, by rw [List.take_add_one, its_append, marks_at j hlt]; exact hown2, (g1.up hb).trans hb2⟩
      case measure => simp [intOf]; omega
    · obtain rfl : j = 5 := by omega
      have hs2' := hs2.keep (Nat.le_refl _) hb
      have hs3 : Sl wr ao' 5 cap (its marks) := Sl.own hown
      have e5 : m + 5 - m = 5 := by omega
      go_wp2_with (go_at_call 40; refine (SameInts_any hs2' hs3 (by omega) (by omega)).mono ?_; rintro _ _ ⟨rfl, g2, rfl⟩)
      go_ret
      refine Ret.mk_of (g2.up hb) ?_
      simp
end Go.Proofs.Ytigpdnbcjmcfoaa
