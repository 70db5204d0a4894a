/- What is proved: the walks of mangrovekit's small functions over bytes (layer 4): SameBytes, CopyBytes, markBytes. No condition. -/
import Derived.Test.YtjmhnflogbihdaaBytes
import Derived.Test.YtjmhnflogbihdaaRow
import Derived.Test.YtjmhnflogbihdaaChecked
import Derived.WalkSpells
import Derived.WalkLawsBesides
import Derived.Handy
import Derived.Maps.AppendAt
namespace Go.Proofs.Ytjmhnflogbihdaa
open Go.RowKit
attribute [local go_sem ↓] cutA_zero

theorem elemB : Elem Try.prog 22 5 1 := Elem.mk' Try.underlying22 (by kernel_rfl) (z := .int .u8 0) (bytes := 1) rfl (by decide) (by decide)

section
variable (w : World) (a : Option Addr) (len cap : Nat)
theorem size5 (w : World) : (sizeOf 5).run Try.prog w = .ok 1 w := by kernel_rfl
theorem slice22_lh (kl kh : IntKind) (l h : Int) (h0 : 0 ≤ l) (h1 : l ≤ h) (h2 : h ≤ cap) :
    (Instr.slice 22 (.slice a len cap) (some (.int kl l)) (some (.int kh h)) none).run Try.prog w = .ok (.slice (cutA a l.toNat cap) (h.toNat - l.toNat) (cap - l.toNat)) w := by
  rw [run_slice_lh w 22 a len cap Try.underlying22 kl kh l h h0 h1 h2]
  rfl
theorem slice22_h (kh : IntKind) (h : Int) (h0 : 0 ≤ h) (h2 : h ≤ cap) :
    (Instr.slice 22 (.slice a len cap) none (some (.int kh h)) none).run Try.prog w = .ok (.slice a h.toNat cap) w := by
  rw [run_slice_h w 22 a len cap Try.underlying22 kh h h0 h2]
  show Result.ok (Value.slice (cutA a 0 cap) _ _) w = _
  rw [cutA_zero]
  rfl
theorem slice22_l (kl : IntKind) (l : Int) (h0 : 0 ≤ l) (h1 : l ≤ len) :
    (Instr.slice 22 (.slice a len cap) (some (.int kl l)) none none).run Try.prog w = .ok (.slice (cutA a l.toNat cap) (len - l.toNat) (cap - l.toNat)) w := by
  rw [run_slice_l w 22 a len cap Try.underlying22 kl l h0 h1]
  rfl
theorem slice22_lhm (kl kh km : IntKind) (l h m : Int) (h0 : 0 ≤ l) (h1 : l ≤ h) (h2 : h ≤ m) (h3 : m ≤ cap) :
    (Instr.slice 22 (.slice a len cap) (some (.int kl l)) (some (.int kh h)) (some (.int km m))).run Try.prog w = .ok (.slice (cutA a l.toNat m.toNat) (h.toNat - l.toNat) (m.toNat - l.toNat)) w := by
  rw [run_slice_lhm w 22 a len cap Try.underlying22 kl kh km l h m h0 h1 h2 h3]
  rfl
end
attribute [go_sem high] slice22_lh slice22_h slice22_l slice22_lhm

theorem SameBytes_any {w : World} {ao bo : Option Addr} {n m c d : Nat} {l k : List Nat} (hl : Sl w ao n c (bts l)) (hk : Sl w bo m d (bts k)) (hn : n < 1099511627776) (hm : m < 1099511627776) : Calls Try.prog 13 #[.slice ao n c, .slice bo m d] w (Ret (.bool (decide (l = k))) w) := by
  have hln : l.length = n := by rw [← hl.len, bts_length]
  have hkn : k.length = m := by rw [← hk.len, bts_length]
  by_cases hnm : n = m
  · subst hnm
    go_enter Try.func13, Try.ntmps13
    go_wp2
    go_loopw [5] (fun i wr => ∃ j : Nat, j ≤ n ∧ i = .int .i64 j ∧ l.take j = k.take j ∧ Below w.heap.size w wr) (fun i _ => n - (intOf i).toNat)
    case atStart => exact ⟨0, by omega, rfl, rfl, by (repeat' (first | (with_reducible exact Below.refl _ _) | (with_reducible assumption) | (with_reducible refine Ext.up _ ?_) | (with_reducible refine Below.alloc ?_ ?_ _) | (with_reducible refine Below.drew ?_) | (with_reducible refine Below.setCell ?_ ?_ _) | (with_reducible refine Below.setRow_ ?_ ?_ _) | go_size))⟩
    case round =>
      obtain ⟨j, hj, rfl, hsame, hb⟩ := hrel
      by_cases hlt : j < n
      · obtain ⟨b, o, rfl, hbw, hc⟩ := hl.at (by omega)
        obtain ⟨b', o', rfl, hbw', hc'⟩ := hk.at (by omega)
        obtain ⟨x, hjx⟩ : ∃ x, l[j]? = some x := ⟨_, List.getElem?_eq_getElem (by omega)⟩
        obtain ⟨y, hjy⟩ : ∃ y, k[j]? = some y := ⟨_, List.getElem?_eq_getElem (by omega)⟩
        have hx := hc j _ (by rw [bts_get, hjx]; rfl)
        have hx' := hc' j _ (by rw [bts_get, hjy]; rfl)
        rw [← hb.cell (by exact hbw)] at hx
        rw [← hb.cell (by exact hbw')] at hx'
        have gx := ext_cell hx
        have gx' := ext_cell hx'
        by_cases hxy : x = y
        · subst hxy
          go_wp2
          (refine wp_region_grow (by kernel_rfl) (by kernel_rfl) ?_; (repeat (go_big_quiet_step ((fail)))); refine wpQuiet_nil ?_; rintro _ ⟨g, rfl⟩)
          go_wp2
          go_roundw
          case rel => exact ⟨j + 1, by omega, rfl, by rw [List.take_add_one, List.take_add_one, hsame, hjx, hjy], by (repeat' (first | (with_reducible exact Below.refl _ _) | (with_reducible assumption) | (with_reducible refine Ext.up _ ?_) | (with_reducible refine Below.alloc ?_ ?_ _) | (with_reducible refine Below.drew ?_) | (with_reducible refine Below.setCell ?_ ?_ _) | (with_reducible refine Below.setRow_ ?_ ?_ _) | go_size))⟩
          case measure => simp [intOf]; omega
        · have hxy' : ((x : Int) == (y : Int)) = false := by simp; omega
          go_wp2
          (refine wp_region_grow (by kernel_rfl) (by kernel_rfl) ?_; (repeat (go_big_quiet_step ((fail)))); refine wpQuiet_nil ?_; rintro _ ⟨g, rfl⟩)
          go_wp2
          go_ret
          have hne : ¬ l = k := fun e => hxy (by rw [e, hjy] at hjx; exact (Option.some.inj hjx).symm)
          rw [decide_eq_false hne]
          (refine Ret.mk ?_; (repeat' (first | (with_reducible exact Below.refl _ _) | (with_reducible assumption) | (with_reducible refine Ext.up _ ?_) | (with_reducible refine Below.alloc ?_ ?_ _) | (with_reducible refine Below.drew ?_) | (with_reducible refine Below.setCell ?_ ?_ _) | (with_reducible refine Below.setRow_ ?_ ?_ _) | go_size)))
      · go_wp2
        go_ret
        obtain rfl : j = n := by omega
        rw [← hln, List.take_length, hln, ← hkn, List.take_length] at hsame
        rw [decide_eq_true hsame]
        refine Ret.mk ?_
        (repeat' (first | (with_reducible exact Below.refl _ _) | (with_reducible assumption) | (with_reducible refine Ext.up _ ?_) | (with_reducible refine Below.alloc ?_ ?_ _) | (with_reducible refine Below.drew ?_) | (with_reducible refine Below.setCell ?_ ?_ _) | (with_reducible refine Below.setRow_ ?_ ?_ _) | go_size))
  · have hnm' : ¬ (n : Int) = m := by omega
    go_enter Try.func13, Try.ntmps13
    go_wp2
    go_ret
    have hne : ¬ l = k := fun e => hnm (by rw [← hln, ← hkn, e])
    rw [decide_eq_false hne]
    (refine Ret.mk ?_; (repeat' (first | (with_reducible exact Below.refl _ _) | (with_reducible assumption) | (with_reducible refine Ext.up _ ?_) | (with_reducible refine Below.alloc ?_ ?_ _) | (with_reducible refine Below.drew ?_) | (with_reducible refine Below.setCell ?_ ?_ _) | (with_reducible refine Below.setRow_ ?_ ?_ _) | go_size)))

theorem CopyBytes_any {w : World} {ao : Option Addr} {n c : Nat} {l : List Nat} (hl : Sl w ao n c (bts l)) (hn : n < 1099511627776) : Calls Try.prog 18 #[.slice ao n c] w (RetO 5 w.heap.size n (bts l) w) := by
  have hln : l.length = n := by rw [← hl.len, bts_length]
  go_enter Try.func18, Try.ntmps18
  go_wp2
  go_loopw [3, 4] (fun v i wr => ∃ j : Nat, j ≤ n ∧ i = .int .i64 j ∧ wr.ownsRow w.heap.size 5 1 v j (bts (l.take j)) ∧ Below w.heap.size w wr) (fun _ i _ => n - (intOf i).toNat)
  case atStart => exact ⟨0, by omega, rfl, World.ownsRow_nil _ _ _ _, by (repeat' (first | (with_reducible exact Below.refl _ _) | (with_reducible assumption) | (with_reducible refine Ext.up _ ?_) | (with_reducible refine Below.alloc ?_ ?_ _) | (with_reducible refine Below.drew ?_) | (with_reducible refine Below.setCell ?_ ?_ _) | (with_reducible refine Below.setRow_ ?_ ?_ _) | go_size))⟩
  case round =>
    obtain ⟨j, hj, rfl, hown, hb⟩ := hrel
    obtain ⟨ao', cap, rfl⟩ := own_form hown
    have hz := hb.size
    by_cases hlt : j < n
    · obtain ⟨b, o, rfl, hbw, hc⟩ := hl.at (by omega)
      obtain ⟨x, hjx⟩ : ∃ x, l[j]? = some x := ⟨_, List.getElem?_eq_getElem (by omega)⟩
      have hx := hc j _ (by rw [bts_get, hjx]; rfl)
      rw [← hb.cell (by exact hbw)] at hx
      go_wp2_with (at_builtin; refine wp_app1 elemB rfl _ _ rfl (B := w.heap.size) rfl hown rfl rfl (by omega) hz ?_)
      intro ao2 cap2 w2 hown2 hb2
      go_wp2
      go_roundw
      case rel => exact ⟨j + 1, by omega, rfl, by rw [List.take_add_one, bts_append, hjx]; exact hown2, hb.trans hb2⟩
      case measure => simp [intOf]; omega
    · go_wp2
      go_ret
      obtain rfl : j = n := by omega
      rw [← hln, List.take_length, hln] at hown
      exact ⟨ao', cap, rfl, hb, hown⟩

def marks : List Nat := [201, 208, 215, 222, 229]
theorem marks_at (j : Nat) (h : j < 5) : marks[j]? = some (201 + 7 * j) := by
  match j, h with
  | 0, _ | 1, _ | 2, _ | 3, _ | 4, _ => rfl

theorem mark_any (k : Nat) (hk : k < 1099511627776) (w : World) : Calls Try.prog 26 #[.int .i64 k] w (Ret (.int .u8 (((201 + 7 * k) % 256 : Nat) : Int)) w) := by
  go_enter Try.func26, Try.ntmps26
  go_wp2
  go_ret
  refine Ret.mk_of (by (repeat' (first | (with_reducible exact Below.refl _ _) | (with_reducible assumption) | (with_reducible refine Ext.up _ ?_) | (with_reducible refine Below.alloc ?_ ?_ _) | (with_reducible refine Below.drew ?_) | (with_reducible refine Below.setCell ?_ ?_ _) | (with_reducible refine Below.setRow_ ?_ ?_ _) | go_size))) ?_
  simp

theorem LentBytes_any {w : World} {ao : Option Addr} {n c : Nat} {l : List Nat} (hl : Sl w ao n c (bts l)) (hn : n < 549755813888) : Calls Try.prog 10 #[.slice ao n c] w (RetO 5 w.heap.size (n + 5) (bts (l ++ marks)) w) := by
  have hln : l.length = n := by rw [← hl.len, bts_length]
  go_enter Try.func10, Try.ntmps10
  go_wp2_with (go_at_call 18; refine (CopyBytes_any hl (by omega)).mono ?_; rintro _ w1 ⟨ao1, cap1, rfl, hb1, hown1⟩)
  go_loopw [3, 4] (fun v i wr => ∃ j : Nat, j ≤ 5 ∧ i = .int .i64 j ∧ wr.ownsRow w.heap.size 5 1 v (n + j) (bts (l ++ marks.take j)) ∧ Below w.heap.size w wr) (fun _ i _ => 5 - (intOf i).toNat)
  case atStart => exact ⟨0, by omega, rfl, by simpa using hown1, hb1⟩
  case round =>
    obtain ⟨j, hj, rfl, hown, hb⟩ := hrel
    obtain ⟨ao', cap, rfl⟩ := own_form hown
    have hz := hb.size
    by_cases hlt : j < 5
    · have hz' : (j : Int) < 5 := by omega
      have he : (201 + 7 * j) % 256 = 201 + 7 * j := by omega
      go_wp2_with (first | (go_at_call 26; refine (mark_any j (by omega) _).mono ?_; rintro _ _ ⟨rfl, g, rfl⟩) | (at_builtin; refine wp_app1 elemB rfl _ _ rfl (B := w.heap.size) rfl (own_ext hown g) rfl rfl (by omega) (Nat.le_trans hz g.size) ?_))
      intro ao2 cap2 w2 hown2 hb2
      go_wp2
      go_roundw
      case rel => exact ⟨j + 1, by omega, rfl, by rw [List.take_add_one, ← List.append_assoc, bts_append, marks_at j hlt]; exact hown2, (g.up hb).trans hb2⟩
      case measure => simp [intOf]; omega
    · go_wp2
      go_ret
      obtain rfl : j = 5 := by omega
      exact ⟨ao', cap, rfl, hb, hown⟩

theorem KeptBytes_true {w : World} {ao bo : Option Addr} {m c d : Nat} {l : List Nat} (ha : Sl w ao (m + 5) c (bts (l ++ marks))) (hl : Sl w bo m d (bts l)) (hm : m < 549755813888) : Calls Try.prog 16 #[.slice ao (m + 5) c, .slice bo m d] w (Ret (.bool true) w) := by
  have hln : l.length = m := by rw [← hl.len, bts_length]
  have hle := ha.le
  have hs1 : Sl w ao m c (bts l) := ha.frontB (by omega) (by omega) (by omega) (by rw [← hln]; simp)
  have hs2 : Sl w (cutA ao m c) 5 (c - m) (bts marks) := ha.cutB (l := m) (r := m + 5) (m := c) (by omega) (by omega) (by omega) (by omega) (by omega) rfl (by rw [← hln]; simp; rfl)
  have hc0 : (m : Int) ≤ c := by omega
  have hc1 : (m : Int) ≤ (m : Int) + 5 := by omega
  go_enter Try.func16, Try.ntmps16
  go_wp2_with (go_at_call 13; refine (SameBytes_any hs1 hl (by omega) (by omega)).mono ?_; rintro _ _ ⟨rfl, g, rfl⟩)
  go_loopw [5, 6] (fun v i wr => ∃ j : Nat, j ≤ 5 ∧ i = .int .i64 j ∧ wr.ownsRow w.heap.size 5 1 v j (bts (marks.take j)) ∧ Below w.heap.size w wr) (fun _ i _ => 5 - (intOf i).toNat)
  case atStart => exact ⟨0, by omega, rfl, World.ownsRow_nil _ _ _ _, g.below⟩
  case round =>
    obtain ⟨j, hj, rfl, hown, hb⟩ := hrel
    obtain ⟨ao', cap, rfl⟩ := own_form hown
    have hz := hb.size
    by_cases hlt : j < 5
    · have hz' : (j : Int) < 5 := by omega
      have he : (201 + 7 * j) % 256 = 201 + 7 * j := by omega
      go_wp2_with (first | (go_at_call 26; refine (mark_any j (by omega) _).mono ?_; rintro _ _ ⟨rfl, g1, rfl⟩) | (at_builtin; refine wp_app1 elemB rfl _ _ rfl (B := w.heap.size) rfl (own_ext hown g1) rfl rfl (by omega) (Nat.le_trans hz g1.size) ?_))
      intro ao2 cap2 w2 hown2 hb2
      go_wp2
      go_roundw
      case rel => exact ⟨j + 1, by omega, rfl, by rw [List.take_add_one, bts_append, marks_at j hlt]; exact hown2, (g1.up hb).trans hb2⟩
      case measure => simp [intOf]; omega
    · obtain rfl : j = 5 := by omega
      have hs2' := hs2.keep (Nat.le_refl _) hb
      have hs3 : Sl wr ao' 5 cap (bts marks) := Sl.own hown
      have e5 : m + 5 - m = 5 := by omega
      go_wp2_with (go_at_call 13; refine (SameBytes_any hs2' hs3 (by omega) (by omega)).mono ?_; rintro _ _ ⟨rfl, g2, rfl⟩)
      go_ret
      refine Ret.mk_of (g2.up hb) ?_
      simp

/-- It writes a slice of the call's own over; whatever else is owned stays owned, and no other block turns. -/
theorem SpoilBytes_own {w : World} {B : Nat} {ao : Option Addr} {n c : Nat} (h : ∃ xs, w.ownsRow B 5 1 (.slice ao n c) n xs) (hn : n < 549755813888) : Calls Try.prog 24 #[.slice ao n c] w (fun e w' => e = .returned (.tuple #[]) ∧ w.grownBy w' (Value.slice ao n c).ownBlock ∧ ∀ B' e' sz m v, (∃ ys, w.ownsRow B' e' sz v m ys) → ∃ ys, w'.ownsRow B' e' sz v m ys) := by
  go_enter Try.func24, Try.ntmps24
  go_wp2
  go_loopw [2] (fun i wr => ∃ j : Nat, j ≤ n ∧ i = .int .i64 j ∧ w.grownBy wr (Value.slice ao n c).ownBlock ∧ (∀ B' e' sz m v, (∃ ys, w.ownsRow B' e' sz v m ys) → ∃ ys, wr.ownsRow B' e' sz v m ys)) (fun i _ => n - (intOf i).toNat)
  case atStart => exact ⟨0, by omega, rfl, World.grownBy.refl _ _, fun _ _ _ _ _ h => h⟩
  case round =>
    obtain ⟨j, hj, rfl, hb, hall⟩ := hrel
    obtain ⟨ys, hown⟩ := hall _ _ _ _ _ h
    by_cases hlt : j < n
    · obtain ⟨gb, cc, hv, hB, hgl⟩ := hown.form (by omega)
      cases hv
      have hfr := fun j => own_unfrozen (j := j) hown
      have hsl := Sl.own hown
      obtain ⟨b', o', e1, _, hc⟩ := hsl.at (by omega)
      cases e1
      obtain ⟨x, hx⟩ : ∃ x, ys[j]? = some x := ⟨_, List.getElem?_eq_getElem (by have := hsl.len; omega)⟩
      have hcx := hc j x hx
      rw [Nat.zero_add] at hcx
      have gfr := fun (g : Ext wr) => (g.frozen gb j hgl).trans (hfr _)
      have gcx := ext_cell hcx
      have HA : Hid (∀ B' e' sz m v, (∃ ys, w.ownsRow B' e' sz v m ys) → ∃ ys, wr.ownsRow B' e' sz v m ys) := hall
      clear hall
      go_wp2_with ((go_at_call 26; refine (mark_any (j + 7) (by omega) _).mono ?_; rintro _ _ ⟨rfl, g1, rfl⟩))
      go_roundw
      case rel =>
        refine ⟨j + 1, by omega, rfl, ?_, fun B' e' sz m v hh => ?_⟩
        · refine hb.trans ⟨g1.below.os, g1.below.tape, g1.below.output, by simpa [World.setCell] using g1.size, fun k hk hne => ?_⟩
          have hk' : k ≠ gb := fun e => hne (by rw [e]; rfl)
          rw [Below.heap_setCell _ _ _ _ (by simpa using hk')]
          exact g1.below.block k hk
        · obtain ⟨ys', h'⟩ := HA.out _ _ _ _ _ hh
          exact own_some_set ⟨ys', own_ext h' g1⟩
      case measure => simp [intOf]; omega
    · go_wp2
      refine bodyPost_end (results_none rfl _ _ _) rfl ?_
      exact ⟨rfl, hb, hall⟩
end Go.Proofs.Ytjmhnflogbihdaa
