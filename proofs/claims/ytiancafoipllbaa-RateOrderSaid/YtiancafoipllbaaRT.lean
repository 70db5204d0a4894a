/- What is proved: RateMedians answers true at any floats. No condition but those each law names. -/
import Derived.Test.YtiancafoipllbaaRS
namespace Go.Proofs.Ytiancafoipllbaa
open Go.RowKit Fl Ieee
attribute [-go_sem] binOp_float_cmp_eql binOp_float_cmp_neq binOp_float_cmp_lss binOp_float_cmp_leq binOp_float_cmp_gtr binOp_float_cmp_geq
attribute [local go_sem] Fl.cmp_eql Fl.cmp_neq Fl.cmp_lss Fl.cmp_leq Fl.cmp_gtr Fl.cmp_geq
set_option maxRecDepth 100000

theorem floats_sl {w : World} {ao : Option Addr} {n c B : Nat} {zs : List Nat} (h : Sl w ao n c (fls zs)) (hB : w.heap.size ≤ B) : Floats B w (.slice ao n c) zs := by
  have hn : zs.length = n := by rw [← h.len, fls_length]
  by_cases h0 : n = 0
  · refine .inl ⟨ao, c, by rw [h0], List.eq_nil_of_length_eq_zero (by omega)⟩
  · obtain ⟨b, o, rfl, hb, hc⟩ := h.at (by omega)
    refine .inr ⟨b, o, c, by rw [hn], by omega, fun j hj => hc j _ ?_⟩
    rw [fls_get, List.getElem?_eq_getElem hj]
    rfl
/-- Median's contract at a slice in memory. -/
theorem median_sl {w : World} {ao : Option Addr} {n c : Nat} {zs ys : List Nat} (h : Sl w ao n c (fls zs)) (hn : n ≤ 1000) (hS : SortsAt (rights zs) ys) :
    Calls Try.prog 11 #[.slice ao n c] w (Ret (.tuple #[.float .f64 (medW ys), .int .i64 (medE ys)]) w) := by
  have hl : zs.length = n := by rw [← h.len, fls_length]
  refine (median_any zs ys hS (by simp only [maxLen]; omega) (by omega) _ w (floats_sl h (Nat.le_refl _))).mono ?_
  rintro _ W ⟨rfl, hB⟩
  exact Ret.mk hB
theorem known_ret (w : World) : Calls Try.prog 10 #[] w (Ret (.bool true) w) := (known_any w).mono fun _ _ ⟨h1, h2⟩ => ⟨h1, ⟨_, h2⟩, rfl⟩
theorem same_ret (a : Nat) (w : World) : Calls Try.prog 13 #[.float .f64 a, .float .f64 a] w (Ret (.bool true) w) := (same_self a w).mono (by rintro _ _ ⟨rfl, rfl⟩; exact Ret.mk (Below.refl _ _))
/-- Both tell the same. -/
theorem med_ref {zs ys : List Nat} (hz : ∀ z ∈ zs, z < 2 * NEG) (hp : ys.Perm (rights zs)) (hs : ys.Pairwise (· ≤ ·)) : refW zs = medW ys ∧ refE zs = medE ys := by
  have hl := hp.length_eq
  have hro : rights zs = (oks zs).map vz := rights_oks hz
  have hrl : (rights zs).length = (oks zs).length := by rw [hro, List.length_map]
  by_cases h0 : oks zs = []
  · have : ys.length = 0 := by rw [hl, hrl, h0]; rfl
    exact ⟨by unfold refW medW; rw [if_pos h0, if_pos this], by unfold refE medE; rw [if_pos h0, if_pos this]⟩
  · have hne : rights zs ≠ [] := fun e => h0 (List.eq_nil_of_length_eq_zero (by rw [← hrl, e]; rfl))
    have : ys.length ≠ 0 := by rw [hl]; exact fun e => hne (List.eq_nil_of_length_eq_zero e)
    exact ⟨by unfold refW; rw [if_neg h0]; exact best_med hp hs (rights_le hz) hne, by unfold refE medE; rw [if_neg h0, if_neg this]⟩
theorem sl_nil {w : World} {ao : Option Addr} {n c : Nat} {vs : List Value} (h : Sl w ao n c vs) : ao = none → n = 0 ∧ c = 0 := fun e => by
  have := h.nil e
  have := h.le
  omega

set_option maxHeartbeats 4000000 in
theorem Medians_any {w : World} {ao : Option Addr} {n c : Nat} {zs : List Nat} (hl : Sl w ao n c (fls zs)) (hmx : n ≤ 9223372036854775807) (hz : ∀ z ∈ zs, z < 2 * NEG) :
    Calls Try.prog 3 #[.slice ao n c] w (Ret (.bool true) w) := by
  have hln : zs.length = n := by rw [← hl.len, fls_length]
  by_cases hbig : 500 < n
  · have hb2 : (500 : Int) < n := by omega
    go_enter Try.func3, Try.ntmps3
    go_wp2_with (go_at_call 10; refine (known_ret _).mono ?_; rintro _ _ ⟨rfl, g, rfl⟩)
    go_ret
    exact Ret.mk_of g.below rfl
  · have hb2 : ¬ (500 : Int) < n := by omega
    obtain ⟨ys, hS, hp, hs⟩ := sorts_rights hz (by omega)
    obtain ⟨e1, e2⟩ := med_ref hz hp hs
    have HZ := Lib.hid hz
    have HS := Lib.hid hS
    have E1 := Lib.hid e1
    have E2 := Lib.hid e2
    clear hz hS hp hs e1 e2
    have hnil := Lib.hid (sl_nil hl)
    have hl0 := hl.keep (Nat.le_refl _) ((Below.refl w.heap.size w).alloc (Nat.le_refl _) (.cells #[] 24))
    have hown0 := own_new w w.heap.size 24 #[] (Nat.le_refl _) (by decide)
    go_enter Try.func3, Try.ntmps3
    go_wp2_with (at_builtin; refine wp_app elemF rfl _ _ rfl (B := w.heap.size) (n := 0) (xs := []) (news := fls zs) rfl hown0 rfl (by rw [hl.len]; simp) hnil.out hl0.cells (fls_one zs) (by omega) (by simp) ?_)
    intro ao1 cap1 w1 hown1 hb1
    have hsl1 : Sl w1 ao1 n cap1 (fls zs) := Sl.own hown1
    have M := Lib.hid (median_sl hsl1 (by omega) HS.out)
    have hbz := hb1.size
    have hbw1 : Below w.heap.size w w1 := ((Below.refl w.heap.size w).alloc (Nat.le_refl _) (.cells #[] 24)).trans hb1
    have R0 := Lib.hid (fun w2 (hw : Below w.heap.size w w2) => refmed_any (hl.keep (Nat.le_refl _) hw) (by omega) HZ.out)
    go_wp2_with fail
    refine M.out.mono ?_
    rintro _ _ ⟨rfl, g2, rfl⟩
    have hbw2 : Below w.heap.size w g2.val := hbw1.trans (g2.below.mono (by have := hbw1.size; omega))
    go_wp2_with fail
    refine (R0.out _ hbw2).mono ?_
    rintro _ _ ⟨rfl, g3, rfl⟩
    have hbw3 : Below w.heap.size w g3.val := hbw2.trans (g3.below.mono (by have := hbw2.size; omega))
    have hown3 := own_ext (own_ext hown1 g2) g3
    obtain ⟨w3, hw3⟩ : ∃ x : World, x = g3.val := ⟨_, rfl⟩
    rw [← hw3] at hbw3 hown3 ⊢
    rw [E1.out, E2.out]
    clear hw3
    go_wp2
    go_loopw [8] (fun v wr => ∃ j : Nat, j ≤ n ∧ v = .int .i64 j ∧ Below w3.heap.size w3 wr) (fun v _ => n - (intOf v).toNat)
    case atStart => exact ⟨0, Nat.zero_le _, rfl, Below.refl _ _⟩
    case round =>
      obtain ⟨j, hj, rfl, hb⟩ := hrel
      have hbw := hbw3.trans (hb.mono hbw3.size)
      by_cases hlt : j < n
      · obtain ⟨b, o, rfl, hbl, hc⟩ := hl.at (by omega)
        obtain ⟨b2, o2, rfl, hbl2, hc2⟩ := (Sl.own hown3).at (by omega)
        obtain ⟨x, hjx⟩ : ∃ x, zs[j]? = some x := ⟨_, List.getElem?_eq_getElem (by omega)⟩
        have hx := hc j _ (by rw [fls_get, hjx]; rfl)
        have hx2 := hc2 j _ (by rw [fls_get, hjx]; rfl)
        rw [← hbw.cell (by exact hbl)] at hx
        rw [← hb.cell (by exact hbl2)] at hx2
        unfold flV at hx hx2
        have gx := ext_cell hx
        have gx2 := ext_cell hx2
        go_wp2
        (refine wp_region_grow (by kernel_rfl) (by kernel_rfl) ?_; (repeat (go_big_quiet_step (((go_at_call 13; exact Calls.ext_of (same_ret _ _)))))); refine wpQuiet_nil ?_; rintro _ ⟨g, rfl⟩)
        go_wp2
        go_roundw
        case rel => exact ⟨j + 1, by omega, rfl, by (repeat' (first | (with_reducible exact Below.refl _ _) | (with_reducible assumption) | (with_reducible refine Ext.up _ ?_) | (with_reducible refine Below.alloc ?_ ?_ _) | (with_reducible refine Below.drew ?_) | (with_reducible refine Below.setCell ?_ ?_ _) | (with_reducible refine Below.setRow_ ?_ ?_ _) | go_size))⟩
        case measure => simp [intOf]; omega
      · go_wp2_with (first | (go_at_call 13; refine (same_ret _ _).mono ?_; rintro _ _ ⟨rfl, g4, rfl⟩) | (go_at_call 10; refine (known_ret _).mono ?_; rintro _ _ ⟨rfl, g5, rfl⟩))
        go_ret
        exact Ret.mk_of (hbw.trans ((g4.below.trans (g5.below.mono g4.size)).mono hbw.size)) rfl
end Go.Proofs.Ytiancafoipllbaa
