/- What is proved: totals of lists of ints, and the document's. No condition. -/
import Derived.Test.YtigpdnbcjmcfoaaB1
namespace Go.Proofs.Ytigpdnbcjmcfoaa
open Go.RowKit
attribute [local go_sem ↓] cutA_zero

def totV (l : List Int) : Int × Int := if allA l = true ∧ l.sum ≤ 1125899906842624 then (l.sum, 0) else (0, 15)
theorem allA_mem {l : List Int} (h : allA l = true) {x : Int} (hx : x ∈ l) : isA x := by unfold allA at h; rw [List.all_eq_true] at h; simpa using h x hx
theorem sum_nonneg : ∀ {l : List Int}, allA l = true → 0 ≤ l.sum
  | [], _ => by simp
  | x :: l, h => by
    have h1 := allA_mem h (List.mem_cons_self ..)
    have h2 : allA l = true := by unfold allA at h ⊢; simp only [List.all_cons, Bool.and_eq_true] at h; exact h.2
    have h3 := sum_nonneg h2
    simp only [List.sum_cons]
    have := h1.1
    omega
theorem sum_take {l : List Int} {j : Nat} {x : Int} (h : l[j]? = some x) : (l.take (j + 1)).sum = (l.take j).sum + x := by
  rw [List.take_add_one, h]; simp
theorem sum_take_le {l : List Int} (h : allA l = true) (j : Nat) : (l.take j).sum ≤ l.sum := by
  have h1 : (l.take j).sum + (l.drop j).sum = l.sum := by rw [← List.sum_append_int, List.take_append_drop]
  have h2 : allA (l.drop j) = true := by
    unfold allA at h ⊢
    rw [List.all_eq_true] at h ⊢
    exact fun x hx => h x (List.mem_of_mem_drop hx)
  have := sum_nonneg h2
  omega
theorem totV_bad {l : List Int} {j : Nat} {x : Int} (h : l[j]? = some x) (hx : ¬ isA x ∨ (l.take (j + 1)).sum > 1125899906842624) : totV l = (0, 15) := by
  unfold totV
  rw [if_neg]
  rintro ⟨h1, h2⟩
  rcases hx with hx | hx
  · exact hx (allA_mem h1 (List.mem_of_getElem? h))
  · have := sum_take_le h1 (j + 1)
    omega

set_option maxHeartbeats 2000000 in
theorem Total_any {w : World} {ao : Option Addr} {n c : Nat} {l : List Int} (hl : Sl w ao n c (its l)) (hn : n < 1099511627776) : Calls Try.prog 14 #[.slice ao n c] w (Ret (pairV (totV l)) w) := by
  have hln : l.length = n := by rw [← hl.len, its_length]
  have T0 := Two.mk2 w (.int .i64 0) (.int .i64 0) 3 25
  go_enter_defers Try.func14, Try.ntmps14
  go_wp2_with fail
  go_loopw [8] (fun i wr => ∃ j : Nat, j ≤ n ∧ i = .int .i64 j ∧ allA (l.take j) = true ∧ (l.take j).sum ≤ 1125899906842624 ∧ Two w wr (.int .i64 (l.take j).sum) (.int .i64 0)) (fun i _ => n - (intOf i).toNat)
  case atStart => exact ⟨0, by omega, rfl, rfl, by simp, by simpa using T0⟩
  case round =>
    obtain ⟨j, hj, rfl, hall, hsum, TW⟩ := hrel
    have hb := TW.below
    have hs0 := sum_nonneg hall
    by_cases hlt : j < n
    · obtain ⟨b, o, rfl, hbw, hc⟩ := hl.at (by omega)
      obtain ⟨x, hjx⟩ : ∃ x, l[j]? = some x := ⟨_, List.getElem?_eq_getElem (by omega)⟩
      have hx := hc j _ (by rw [its_get, hjx]; rfl)
      rw [← hb.cell (by exact hbw)] at hx
      have ht := allA_take hjx
      have hst := sum_take hjx
      generalize hS : (l.take j).sum = S at hst hsum hs0 TW
      generalize hS' : (l.take (j + 1)).sum = S' at hst
      by_cases hxa : isA x
      · have hone : allA [x] = true := by simp [allA, hxa]
        have e1 : IntKind.i64.wrap (S + x) = S + x := by rw [IntKind.wrap_i64]; have := hxa.1; have := hxa.2; omega
        go_wp2_with fail
        refine (must_ok (built_at _ [x] _ (by simp [maxLen]) rfl rfl rfl) (by simp) hone).mono ?_
        rintro _ _ ⟨rfl, g, rfl⟩
        have T1 := (TW.alloc (.cells (its [x]).toArray 3)).ext g
        have c0 := T1.c0
        have f0 := T1.f0
        by_cases hgt : S + x > 1125899906842624
        · have hnot : ¬ isA (S + x) := fun h => by have := h.2; omega
          have htwo : allA [S + x] = false := by simp [allA, hnot]
          have c0' := (T1.set0 (.int .i64 (S + x))).c0
          go_wp2_with fail
          refine (must_bad (built_at _ [S + x] _ (by simp [maxLen]) rfl (by simp [World.setCell]) rfl) (by simp) htwo).mono ?_
          rintro _ _ ⟨rfl, g2, rfl⟩
          have T2 := ((T1.set0 (.int .i64 (S + x))).alloc (.cells (its [S + x]).toArray 3)).ext g2
          clear c0 f0 c0'
          simp only []
          refine leaves_cons (f := 37) (args := #[.pointer (some ⟨w.heap.size, 0, none⟩), .pointer (some ⟨w.heap.size + 1, 0, none⟩)]) (by simp) (by simp [go_sem]) ?_
          refine (T2.caught _ _).mono ?_
          rintro e u' w'' ⟨rfl, rfl, TE⟩
          have c0 := TE.c0
          have c1 := TE.c1
          simp [Leaves, settle, results, Try.results14, go_sem, c0, c1]
          exact Ret.mk_of TE.below (by rw [totV_bad hjx (.inr (by rw [hS', hst]; exact hgt))]; rfl)
        · have hyes : isA (S + x) := ⟨by have := hxa.1; omega, by omega⟩
          have htwo : allA [S + x] = true := by simp [allA, hyes]
          have c0' := (T1.set0 (.int .i64 (S + x))).c0
          go_wp2_with fail
          refine (must_ok (built_at _ [S + x] _ (by simp [maxLen]) rfl (by simp [World.setCell]) rfl) (by simp) htwo).mono ?_
          rintro _ _ ⟨rfl, g2, rfl⟩
          have T2 := ((T1.set0 (.int .i64 (S + x))).alloc (.cells (its [S + x]).toArray 3)).ext g2
          clear c0 f0 c0'
          go_wp2_with fail
          go_roundw
          case rel => exact ⟨j + 1, by omega, rfl, by rw [ht, hall]; simpa using hxa, by rw [hS']; omega, by rw [hS', hst]; exact T2⟩
          case measure => simp [intOf]; omega
      · have hone : allA [x] = false := by simp [allA, hxa]
        go_wp2_with fail
        refine (must_bad (built_at _ [x] _ (by simp [maxLen]) rfl rfl rfl) (by simp) hone).mono ?_
        rintro _ _ ⟨rfl, g, rfl⟩
        have T1 := (TW.alloc (.cells (its [x]).toArray 3)).ext g
        simp only []
        refine leaves_cons (f := 37) (args := #[.pointer (some ⟨w.heap.size, 0, none⟩), .pointer (some ⟨w.heap.size + 1, 0, none⟩)]) (by simp) (by simp [go_sem]) ?_
        refine (T1.caught _ _).mono ?_
        rintro e u' w'' ⟨rfl, rfl, TE⟩
        have c0 := TE.c0
        have c1 := TE.c1
        simp [Leaves, settle, results, Try.results14, go_sem, c0, c1]
        exact Ret.mk_of TE.below (by rw [totV_bad hjx (.inl hxa)]; rfl)
    · obtain rfl : j = n := by omega
      rw [← hln, List.take_length] at hall hsum TW
      have hv : totV l = (l.sum, 0) := if_pos ⟨hall, hsum⟩
      have c0 := TW.c0
      have f0 := TW.f0
      have c1 := (TW.set0 (.int .i64 l.sum)).c1
      have f1 := TW.f1
      go_wp2_with fail
      have T3 := (TW.set0 (.int .i64 l.sum)).set1 (.int .i64 0)
      clear c0 c1
      refine leaves_cons (f := 37) (args := #[.pointer (some ⟨w.heap.size, 0, none⟩), .pointer (some ⟨w.heap.size + 1, 0, none⟩)]) (by simp) (by simp [go_sem]) ?_
      refine (caught_idle _ _ _).mono ?_
      rintro e u' w'' ⟨rfl, rfl, rfl⟩
      have c0 := T3.c0
      have c1 := T3.c1
      simp [Leaves, settle, results, Try.results14, go_sem, c0, c1]
      exact Ret.mk_of T3.below (by rw [hv]; rfl)

theorem Is_any (a : Int) (w : World) : Calls Try.prog 39 #[.int .i64 a] w (Ret (.bool (decide (isA a))) w) := by
  by_cases h0 : a ≥ 0
  · by_cases h1 : a ≤ 1125899906842624
    · have hv : decide (isA a) = true := decide_eq_true ⟨h0, h1⟩
      rw [hv]
      go_enter Try.func39, Try.ntmps39
      go_wp2
      go_ret
      (refine Ret.mk ?_; (repeat' (first | (with_reducible exact Below.refl _ _) | (with_reducible assumption) | (with_reducible refine Ext.up _ ?_) | (with_reducible refine Below.alloc ?_ ?_ _) | (with_reducible refine Below.drew ?_) | (with_reducible refine Below.setCell ?_ ?_ _) | (with_reducible refine Below.setRow_ ?_ ?_ _) | go_size)))
    · have hv : decide (isA a) = false := decide_eq_false (fun h => h1 h.2)
      rw [hv]
      go_enter Try.func39, Try.ntmps39
      go_wp2
      go_ret
      (refine Ret.mk ?_; (repeat' (first | (with_reducible exact Below.refl _ _) | (with_reducible assumption) | (with_reducible refine Ext.up _ ?_) | (with_reducible refine Below.alloc ?_ ?_ _) | (with_reducible refine Below.drew ?_) | (with_reducible refine Below.setCell ?_ ?_ _) | (with_reducible refine Below.setRow_ ?_ ?_ _) | go_size)))
  · have hv : decide (isA a) = false := decide_eq_false (fun h => h0 h.1)
    rw [hv]
    go_enter Try.func39, Try.ntmps39
    go_wp2
    go_ret
    (refine Ret.mk ?_; (repeat' (first | (with_reducible exact Below.refl _ _) | (with_reducible assumption) | (with_reducible refine Ext.up _ ?_) | (with_reducible refine Below.alloc ?_ ?_ _) | (with_reducible refine Below.drew ?_) | (with_reducible refine Below.setCell ?_ ?_ _) | (with_reducible refine Below.setRow_ ?_ ?_ _) | go_size)))

theorem Is_yes {a : Int} (h : isA a) (w : World) : Calls Try.prog 39 #[.int .i64 a] w (Ret (.bool true) w) := by have := Is_any a w; rwa [decide_eq_true h] at this
theorem Is_no {a : Int} (h : ¬ isA a) (w : World) : Calls Try.prog 39 #[.int .i64 a] w (Ret (.bool false) w) := by have := Is_any a w; rwa [decide_eq_false h] at this

set_option maxHeartbeats 1000000 in
theorem refTotal_any {w : World} {ao : Option Addr} {n c : Nat} {l : List Int} (hl : Sl w ao n c (its l)) (hn : n < 1099511627776) : Calls Try.prog 15 #[.slice ao n c] w (Ret (pairV (totV l)) w) := by
  have hln : l.length = n := by rw [← hl.len, its_length]
  go_enter Try.func15, Try.ntmps15
  go_wp2
  go_loopw [4, 5] (fun s i wr => ∃ j : Nat, j ≤ n ∧ i = .int .i64 j ∧ s = .int .i64 (l.take j).sum ∧ allA (l.take j) = true ∧ (l.take j).sum ≤ 1125899906842624 ∧ Below w.heap.size w wr) (fun _ i _ => n - (intOf i).toNat)
  case atStart => exact ⟨0, by omega, rfl, rfl, rfl, by simp, by (repeat' (first | (with_reducible exact Below.refl _ _) | (with_reducible assumption) | (with_reducible refine Ext.up _ ?_) | (with_reducible refine Below.alloc ?_ ?_ _) | (with_reducible refine Below.drew ?_) | (with_reducible refine Below.setCell ?_ ?_ _) | (with_reducible refine Below.setRow_ ?_ ?_ _) | go_size))⟩
  case round =>
    obtain ⟨j, hj, rfl, rfl, hall, hsum, hb⟩ := hrel
    have hs0 := sum_nonneg hall
    by_cases hlt : j < n
    · obtain ⟨b, o, rfl, hbw, hc⟩ := hl.at (by omega)
      obtain ⟨x, hjx⟩ : ∃ x, l[j]? = some x := ⟨_, List.getElem?_eq_getElem (by omega)⟩
      have hx := hc j _ (by rw [its_get, hjx]; rfl)
      rw [← hb.cell (by exact hbw)] at hx
      have gx := ext_cell hx
      have ht := allA_take hjx
      have hst := sum_take hjx
      generalize hS : (l.take j).sum = S at hst hsum hs0
      generalize hS' : (l.take (j + 1)).sum = S' at hst
      by_cases hxa : isA x
      · have hx0 := hxa.1
        have hx1 := hxa.2
        by_cases hgt : S + x > 1125899906842624
        · go_wp2_with (go_at_call 39; refine (Is_yes hxa _).mono ?_; rintro _ _ ⟨rfl, g, rfl⟩)
          go_ret2
          refine Ret.mk_of ?_ (by rw [totV_bad hjx (.inr (by rw [hS', hst]; exact hgt))]; rfl)
          (repeat' (first | (with_reducible exact Below.refl _ _) | (with_reducible assumption) | (with_reducible refine Ext.up _ ?_) | (with_reducible refine Below.alloc ?_ ?_ _) | (with_reducible refine Below.drew ?_) | (with_reducible refine Below.setCell ?_ ?_ _) | (with_reducible refine Below.setRow_ ?_ ?_ _) | go_size))
        · go_wp2_with (go_at_call 39; refine (Is_yes hxa _).mono ?_; rintro _ _ ⟨rfl, g, rfl⟩)
          go_roundw
          case rel => exact ⟨j + 1, by omega, rfl, by rw [hS', hst], by rw [ht, hall]; simpa using hxa, by rw [hS']; omega, by (repeat' (first | (with_reducible exact Below.refl _ _) | (with_reducible assumption) | (with_reducible refine Ext.up _ ?_) | (with_reducible refine Below.alloc ?_ ?_ _) | (with_reducible refine Below.drew ?_) | (with_reducible refine Below.setCell ?_ ?_ _) | (with_reducible refine Below.setRow_ ?_ ?_ _) | go_size))⟩
          case measure => simp [intOf]; omega
      · go_wp2_with (go_at_call 39; refine (Is_no hxa _).mono ?_; rintro _ _ ⟨rfl, g, rfl⟩)
        go_ret2
        refine Ret.mk_of ?_ (by rw [totV_bad hjx (.inl hxa)]; rfl)
        (repeat' (first | (with_reducible exact Below.refl _ _) | (with_reducible assumption) | (with_reducible refine Ext.up _ ?_) | (with_reducible refine Below.alloc ?_ ?_ _) | (with_reducible refine Below.drew ?_) | (with_reducible refine Below.setCell ?_ ?_ _) | (with_reducible refine Below.setRow_ ?_ ?_ _) | go_size))
    · obtain rfl : j = n := by omega
      rw [← hln, List.take_length] at hall hsum
      have hv : totV l = (l.sum, 0) := if_pos ⟨hall, hsum⟩
      go_wp2
      go_ret2
      exact Ret.mk_of hb (by rw [hv, ← hln, List.take_length]; rfl)
end Go.Proofs.Ytigpdnbcjmcfoaa
