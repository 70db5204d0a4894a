/- What is proved: the walk of the statement AmountPieces (chapter 2). No condition. -/
import Derived.Test.YtigpdnbcjmcfoaaB6
import Derived.Deep.OwnRows
import Derived.Lib.Hide
namespace Go.Proofs.Ytigpdnbcjmcfoaa
open Go.RowKit Sx
attribute [local go_sem ↓] cutA_zero
set_option linter.unusedVariables false

theorem Total_is {w : World} {ao : Option Addr} {n c : Nat} {l : List Int} {a e : Int} (hl : Sl w ao n c (its l)) (hn : n < 1099511627776) (ha : (totV l).1 = a) (he : (totV l).2 = e) : Calls Try.prog 14 #[.slice ao n c] w (Ret (.tuple #[.int .i64 a, .int .i64 e]) w) := by
  subst ha he; exact Total_any hl hn
theorem Add_is {x y a e : Int} (ha : (sumV x y).1 = a) (he : (sumV x y).2 = e) (w : World) : Calls Try.prog 18 #[.int .i64 x, .int .i64 y] w (Ret (.tuple #[.int .i64 a, .int .i64 e]) w) := by
  subst ha he; exact Add_any x y w
theorem Times_is {x y a e : Int} (hy : y ≤ 9223372036854775807) (ha : (timesV x y).1 = a) (he : (timesV x y).2 = e) (w : World) : Calls Try.prog 21 #[.int .i64 x, .int .i64 y] w (Ret (.tuple #[.int .i64 a, .int .i64 e]) w) := by
  subst ha he; exact ret_of_con times_holds rfl ⟨x, y, hy, rfl, rfl⟩ w

set_option maxRecDepth 100000 in
set_option maxHeartbeats 4000000 in
theorem Pieces_walk {w : World} {ao : Option Addr} {n c C N : Nat} {l : List Int} (cut k m q : Int) (hl : Sl w ao n c (its l)) (hn : n ≤ 1024) (hm : (if (n : Int) < cut then (n : Int) else cut) = m) (hC : (if 0 < m then m else 0) = (C : Int)) (hq : (if 200 < k then 200 else k) = q) (hN : (if 0 < q then q else 0) = (N : Int))
    (hCn : C ≤ n) (hN2 : N ≤ 200) {a0 e0 a1 e1 a2 e2 a3 e3 : Int} (t0 : totV l = (a0, e0)) (t1 : totV (l.take C) = (a1, e1)) (t2 : totV (l.drop C) = (a2, e2)) (t3 : sumV a1 a2 = (a3, e3)) (hp : Piece a0 e0 e1 e2 a3 e3) : Calls Try.prog 6 #[.slice ao n c, .int .i64 cut, .int .i64 k] w (Ret (.bool true) w) := by
  have hln : l.length = n := by rw [← hl.len, its_length]
  have hle := hl.le
  have h0 : ¬ ((1024 : Int) < n) := by omega
  have hCc : (C : Int) ≤ c := by omega
  have hCn' : (C : Int) ≤ n := by omega
  have s1 : Sl w ao C c (its (l.take C)) := hl.frontI hCn (by omega) (Nat.le_refl _) rfl
  have s2 : Sl w (cutA ao C c) (n - C) (c - C) (its (l.drop C)) := hl.cutI (l := C) (r := n) (m := c) hCn (Nat.le_refl _) (Nat.le_refl _) hle rfl rfl (by rw [List.take_of_length_le (by simp; omega)])
  have T0 := Go.Lib.hid (show ∀ W, Below w.heap.size w W → Calls Try.prog 14 #[.slice ao n c] W (Ret (.tuple #[.int .i64 a0, .int .i64 e0]) W) from fun W h => Total_is (hl.keep (Nat.le_refl _) h) (by omega) (congrArg Prod.fst t0) (congrArg Prod.snd t0))
  have T1 := Go.Lib.hid (show ∀ W, Below w.heap.size w W → Calls Try.prog 14 #[.slice ao C c] W (Ret (.tuple #[.int .i64 a1, .int .i64 e1]) W) from fun W h => Total_is (s1.keep (Nat.le_refl _) h) (by omega) (congrArg Prod.fst t1) (congrArg Prod.snd t1))
  have T2 := Go.Lib.hid (show ∀ W, Below w.heap.size w W → Calls Try.prog 14 #[.slice (cutA ao C c) (n - C) (c - C)] W (Ret (.tuple #[.int .i64 a2, .int .i64 e2]) W) from fun W h => Total_is (s2.keep (Nat.le_refl _) h) (by omega) (congrArg Prod.fst t2) (congrArg Prod.snd t2))
  have T3 := Go.Lib.hid (show ∀ W, Calls Try.prog 18 #[.int .i64 a1, .int .i64 a2] W (Ret (.tuple #[.int .i64 a3, .int .i64 e3]) W) from fun W => Add_is (congrArg Prod.fst t3) (congrArg Prod.snd t3) W)
  have H0 := Go.Lib.hid t0
  have Hl := Go.Lib.hid hln
  clear t0 t1 t2 t3 hln s1 s2
  rcases hp with ⟨rfl, rfl, rfl, rfl, rfl⟩ | ⟨rfl, rfl⟩ | ⟨rfl, rfl, rfl⟩ | ⟨rfl, rfl, rfl, rfl⟩
  all_goals
    go_enter Try.func6, Try.ntmps6
    go_wp2_with fail
    refine (T0.out w (Below.refl _ _)).mono ?_
    rintro _ _ ⟨rfl, g0, rfl⟩
    clear hm hC hq hN
    go_wp2_with fail
    refine (T1.out g0.val g0.below).mono ?_
    rintro _ _ ⟨rfl, g1, rfl⟩
    go_wp2_with fail
    refine (T2.out g1.val (g1.up g0.below)).mono ?_
    rintro _ _ ⟨rfl, g2, rfl⟩
    go_wp2_with fail
    refine (T3.out _).mono ?_
    rintro _ _ ⟨rfl, g3, rfl⟩
    have b3 := g3.up (g2.up (g1.up g0.below))
    clear T0 T1 T2 T3
    generalize g3.val = w3 at *
    go_wp2_with fail
    go_loopw [15, 16] (fun v i wr => ∃ (r : Int) (p : Nat), -1 ≤ r ∧ (p : Int) + r + 1 = n ∧ i = .int .i64 r ∧ wr.ownsRow w.heap.size 3 1 v p (its (l.reverse.take p)) ∧ Below w.heap.size w wr) (fun _ i _ => (intOf i + 1).toNat)
    case atStart => exact ⟨(n : Int) - 1, 0, by omega, by omega, rfl, World.ownsRow_nil _ _ _ _, b3⟩
    case round =>
      obtain ⟨r, p, hr0, hr1, rfl, hown, hb⟩ := hrel
      have Hr1 := Go.Lib.hid hr1
      obtain ⟨ao', cap, rfl⟩ := own_form hown
      have hz := hb.size
      by_cases hlt : 0 ≤ r
      · obtain ⟨j, rfl⟩ : ∃ j : Nat, r = j := ⟨r.toNat, by omega⟩
        obtain ⟨b, o, rfl, hbw, hc⟩ := hl.at (by omega)
        have Hl2 := Hl.out
        obtain ⟨x, hjx⟩ : ∃ x, l[j]? = some x := ⟨_, List.getElem?_eq_getElem (by omega)⟩
        have hx := hc j _ (by rw [its_get, hjx]; rfl)
        rw [← hb.cell (by exact hbw)] at hx
        have hrev : l.reverse[p]? = some x := by
          rw [List.getElem?_reverse (by omega), Hl2, show n - 1 - p = j by omega, hjx]
        have Hrev := Go.Lib.hid hrev
        have hjn : j < n := by omega
        clear hrev hjx Hl2 hc hr1
        go_wp2_with (at_builtin; refine wp_app1 elemI rfl _ _ rfl (B := w.heap.size) rfl hown rfl rfl (by have := Hr1.out; omega) hz ?_)
        intro ao2 cap2 w2 hown2 hb2
        go_wp2
        go_roundw
        case rel => exact ⟨(j : Int) - 1, p + 1, by omega, by have := Hr1.out; omega, rfl, by
          rw [List.take_add_one, its_append, Hrev.out]; exact hown2, hb.trans hb2⟩
        case measure => simp [intOf]
      · obtain rfl : r = -1 := by omega
        obtain rfl : p = n := by omega
        have hown' : wr.ownsRow w.heap.size 3 1 (.slice ao' p cap) p (its l.reverse) := by
          have Hl2 := Hl.out
          have := List.take_of_length_le (l := l.reverse) (i := p) (by simp; omega)
          rwa [this] at hown
        clear hown hr1 Hr1
        go_wp2_with fail
        refine (Total_is (Sl.own hown') (by omega) (congrArg Prod.fst ((totV_reverse l).trans H0.out)) (congrArg Prod.snd ((totV_reverse l).trans H0.out))).mono ?_
        rintro _ _ ⟨rfl, g4, rfl⟩
        have b4 := g4.up hb
        generalize g4.val = w4 at *
        clear hown' hb
        have hmk : ∀ W : World, (Instr.makeSlice 22 (.int .i64 N) (.int .i64 N)).run Try.prog W = .ok (.slice (some ⟨W.heap.size, 0, none⟩) N N) (W.alloc (.cells (madeCells #[.int .i64 0] N) 3)) := fun W =>
          run_make_row' 22 3 (.int .i64 0) 8 Try.underlying22 (by kernel_rfl) rfl .i64 .i64 N (by omega) (by omega) W
        have hone : ∃ one : Int, (0 < p → ∃ b o, ao = some ⟨b, o, none⟩ ∧ w4.cell? ⟨b, o, none⟩ = some (.int .i64 one)) ∧ (p = 0 → one = 0) := by
          by_cases h : 0 < p
          · obtain ⟨b, o, rfl, hbw, hc⟩ := hl.at h
            have Hl2 := Hl.out
            obtain ⟨x, hjx⟩ : ∃ x, l[0]? = some x := ⟨_, List.getElem?_eq_getElem (by omega)⟩
            have hx := hc 0 _ (by rw [its_get, hjx]; rfl)
            rw [← b4.cell (by exact hbw)] at hx
            exact ⟨x, fun _ => ⟨b, o, rfl, hx⟩, fun h0 => by omega⟩
          · exact ⟨0, fun h0 => absurd h0 h, fun _ => rfl⟩
        obtain ⟨one, hone1, hone2⟩ := hone
        have hone' : (0 < p ∧ ∃ b o, ao = some ⟨b, o, none⟩ ∧ w4.cell? ⟨b, o, none⟩ = some (.int .i64 one)) ∨ (p = 0 ∧ one = 0) := by
          by_cases h : 0 < p
          · exact .inl ⟨h, hone1 h⟩
          · exact .inr ⟨by omega, hone2 (by omega)⟩
        clear hone1 hone2
        have R0 := World.rowIs_made w4 (.int .i64 0) N 3
        rcases hone' with ⟨hp0, b, o, rfl, hx⟩ | ⟨rfl, rfl⟩
        · go_wp2_with fail
          clear hmk
          have hz4 := b4.size
          go_loopw [21] (fun i wr => ∃ j : Nat, j ≤ N ∧ i = .int .i64 j ∧ wr.rowIs w4.heap.size 3 N (fun r => if r < j then .int .i64 one else .int .i64 0) ∧ Below w.heap.size w wr) (fun i _ => N - (intOf i).toNat)
          case atStart => exact ⟨0, by omega, rfl, R0.congr (fun i _ => by simp), b4.alloc hz4 _⟩
          case round =>
            obtain ⟨j, hj, rfl, hrow, hb⟩ := hrel
            by_cases hlt : j < N
            · have hcell := hrow.cell hlt
              have hfr := hrow.frozen j
              have hnew := (hrow.set j (.int .i64 one)).congr (g := fun r => if r < j + 1 then .int .i64 one else .int .i64 0) (fun i _ => by
                by_cases e : i = j
                · simp [e]
                · by_cases e2 : i < j
                  · simp [e, e2, show i < j + 1 by omega]
                  · simp [e, e2, show ¬ i < j + 1 by omega])
              have hb' := hb.setCell (p := ⟨w4.heap.size, j, none⟩) hz4 (.int .i64 one)
              have Hn := Go.Lib.hid hnew
              clear hnew hrow
              go_wp2
              go_roundw
              case rel => exact ⟨j + 1, by omega, rfl, Hn.out, hb'⟩
              case measure => simp [intOf]; omega
            · obtain rfl : j = N := by omega
              have sm : Sl wr (some ⟨w4.heap.size, 0, none⟩) j j (its (List.replicate j one)) := by
                refine ⟨by simp [its_length], Nat.le_refl _, (fun e => by cases e), .inr ⟨_, _, rfl, fun i x hi => ?_⟩⟩
                rw [its_get, List.getElem?_replicate] at hi
                split at hi
                · rename_i hlt2
                  have := hrow.cell hlt2
                  rw [if_pos hlt2] at this
                  simp only [Option.map_some, Option.some.injEq] at hi
                  rw [Nat.zero_add, this, hi]
                · cases hi
              clear hrow R0
              by_cases hA : isA one
              · have hM := many j one hA
                go_wp2_with fail
                refine (Times_is (x := one) (y := (j : Int)) (by omega) (congrArg Prod.fst hM) (congrArg Prod.snd hM) _).mono ?_
                rintro _ _ ⟨rfl, g5, rfl⟩
                have Hsm := sm.ext g5
                clear hM
                go_wp2_with fail
                refine (Total_is Hsm (by omega) rfl rfl).mono ?_
                rintro _ _ ⟨rfl, g6, rfl⟩
                generalize (totV (List.replicate j one)).1 = u
                generalize (totV (List.replicate j one)).2 = v
                go_wp2_with fail
                refine (Check_yes hA _).mono ?_
                rintro _ _ ⟨rfl, g7, rfl⟩
                go_wp2_with fail
                refine (known_any _).mono ?_
                rintro _ _ ⟨rfl, g8, rfl⟩
                go_wp2_with fail
                go_ret
                exact Ret.mk (g8.up (g7.up (g6.up (g5.up hb))))
              · go_wp2_with fail
                refine (Times_is (x := one) (y := (j : Int)) (by omega) rfl rfl _).mono ?_
                rintro _ _ ⟨rfl, g5, rfl⟩
                have Hsm := sm.ext g5
                generalize (timesV one (j : Int)).1 = u'
                generalize (timesV one (j : Int)).2 = v'
                go_wp2_with fail
                refine (Total_is Hsm (by omega) rfl rfl).mono ?_
                rintro _ _ ⟨rfl, g6, rfl⟩
                generalize (totV (List.replicate j one)).1 = u
                generalize (totV (List.replicate j one)).2 = v
                go_wp2_with fail
                refine (Check_no hA _).mono ?_
                rintro _ _ ⟨rfl, g7, rfl⟩
                go_wp2_with fail
                refine (known_any _).mono ?_
                rintro _ _ ⟨rfl, g8, rfl⟩
                go_wp2_with fail
                go_ret
                exact Ret.mk (g8.up (g7.up (g6.up (g5.up hb))))
        · go_wp2_with fail
          clear hmk
          have hz4 := b4.size
          go_loopw [21] (fun i wr => ∃ j : Nat, j ≤ N ∧ i = .int .i64 j ∧ wr.rowIs w4.heap.size 3 N (fun r => if r < j then (.int .i64 0) else .int .i64 0) ∧ Below w.heap.size w wr) (fun i _ => N - (intOf i).toNat)
          case atStart => exact ⟨0, by omega, rfl, R0.congr (fun i _ => by simp), b4.alloc hz4 _⟩
          case round =>
            obtain ⟨j, hj, rfl, hrow, hb⟩ := hrel
            by_cases hlt : j < N
            · have hcell := hrow.cell hlt
              have hfr := hrow.frozen j
              have hnew := (hrow.set j (.int .i64 0)).congr (g := fun r => if r < j + 1 then (.int .i64 0) else .int .i64 0) (fun i _ => by
                by_cases e : i = j
                · simp [e]
                · by_cases e2 : i < j
                  · simp [e, e2, show i < j + 1 by omega]
                  · simp [e, e2, show ¬ i < j + 1 by omega])
              have hb' := hb.setCell (p := ⟨w4.heap.size, j, none⟩) hz4 (.int .i64 0)
              have Hn := Go.Lib.hid hnew
              clear hnew hrow
              go_wp2
              go_roundw
              case rel => exact ⟨j + 1, by omega, rfl, Hn.out, hb'⟩
              case measure => simp [intOf]; omega
            · obtain rfl : j = N := by omega
              have sm : Sl wr (some ⟨w4.heap.size, 0, none⟩) j j (its (List.replicate j 0)) := by
                refine ⟨by simp [its_length], Nat.le_refl _, (fun e => by cases e), .inr ⟨_, _, rfl, fun i x hi => ?_⟩⟩
                rw [its_get, List.getElem?_replicate] at hi
                split at hi
                · rename_i hlt2
                  have := hrow.cell hlt2
                  rw [if_pos hlt2] at this
                  simp only [Option.map_some, Option.some.injEq] at hi
                  rw [Nat.zero_add, this, hi]
                · cases hi
              clear hrow R0
              by_cases hA : isA 0
              · have hM := many j 0 hA
                go_wp2_with fail
                refine (Times_is (x := 0) (y := (j : Int)) (by omega) (congrArg Prod.fst hM) (congrArg Prod.snd hM) _).mono ?_
                rintro _ _ ⟨rfl, g5, rfl⟩
                have Hsm := sm.ext g5
                clear hM
                go_wp2_with fail
                refine (Total_is Hsm (by omega) rfl rfl).mono ?_
                rintro _ _ ⟨rfl, g6, rfl⟩
                generalize (totV (List.replicate j 0)).1 = u
                generalize (totV (List.replicate j 0)).2 = v
                go_wp2_with fail
                refine (Check_yes hA _).mono ?_
                rintro _ _ ⟨rfl, g7, rfl⟩
                go_wp2_with fail
                refine (known_any _).mono ?_
                rintro _ _ ⟨rfl, g8, rfl⟩
                go_wp2_with fail
                go_ret
                exact Ret.mk (g8.up (g7.up (g6.up (g5.up hb))))
              · go_wp2_with fail
                refine (Times_is (x := 0) (y := (j : Int)) (by omega) rfl rfl _).mono ?_
                rintro _ _ ⟨rfl, g5, rfl⟩
                have Hsm := sm.ext g5
                generalize (timesV 0 (j : Int)).1 = u'
                generalize (timesV 0 (j : Int)).2 = v'
                go_wp2_with fail
                refine (Total_is Hsm (by omega) rfl rfl).mono ?_
                rintro _ _ ⟨rfl, g6, rfl⟩
                generalize (totV (List.replicate j 0)).1 = u
                generalize (totV (List.replicate j 0)).2 = v
                go_wp2_with fail
                refine (Check_no hA _).mono ?_
                rintro _ _ ⟨rfl, g7, rfl⟩
                go_wp2_with fail
                refine (known_any _).mono ?_
                rintro _ _ ⟨rfl, g8, rfl⟩
                go_wp2_with fail
                go_ret
                exact Ret.mk (g8.up (g7.up (g6.up (g5.up hb))))
end Go.Proofs.Ytigpdnbcjmcfoaa
