/- What is proved: the walk of frame.Scan (layer 4). No condition. -/
import Derived.Test.YtjmhnflogbihdaaH2
namespace Go.Proofs.Ytjmhnflogbihdaa
open Go.RowKit

/-- The end of a Scan: frames, and how many bytes they have. -/
def RetS (l : List Nat) (w : World) : Ending → World → Prop := fun e w' => ∃ i L v, goes l i ∧ getE (l.drop (stP l i)) ≠ 0 ∧ told L = stF l i ∧ e = .returned (.tuple #[v, .int .i64 (stP l i : Nat)]) ∧ Below w.heap.size w w' ∧ Frames w' w.heap.size v L

theorem Get_ok {w : World} {ao : Option Addr} {n c : Nat} {l : List Nat} (hl : Sl w ao n c (bts l)) (hs : Small l) (hn : n < 1099511627776) (he : getE l = 0) :
    Calls Try.prog 17 #[.slice ao n c] w (fun e w' => ∃ ao cap, e = .returned (.tuple #[.agg #[.int .i64 (getK l), .slice ao (getB l).length cap], .int .i64 ((gN l + 7 : Nat) : Int), .int .i64 0]) ∧ Below w.heap.size w w' ∧ w'.ownsRow w.heap.size 5 1 (.slice ao (getB l).length cap) (getB l).length (bts (getB l))) := by
  refine (Get_any hl hs hn).mono fun e w' ⟨a, cap, h1, h2, h3⟩ => ⟨a, cap, ?_, h2, h3⟩
  have e3 : getM l = ((gN l + 7 : Nat) : Int) := by unfold getM; rw [if_pos he]
  rw [h1, e3, he]

set_option maxHeartbeats 2000000 in
theorem Scan_any {w : World} {ao : Option Addr} {n c : Nat} {l : List Nat} (hl : Sl w ao n c (bts l)) (hs : Small l) (hn : n < 1099511627776) : Calls Try.prog 21 #[.slice ao n c] w (RetS l w) := by
  have hln : l.length = n := by rw [← hl.len, bts_length]
  go_enter Try.func21, Try.ntmps21
  go_wp2
  go_loopw [2, 3] (fun v p wr => ∃ i L, goes l i ∧ p = .int .i64 (stP l i : Nat) ∧ told L = stF l i ∧ Frames wr w.heap.size v L ∧ Below w.heap.size w wr) (fun _ p _ => n - (intOf p).toNat)
  case atStart => exact ⟨0, [], fun j hj => absurd hj (by omega), rfl, rfl, Frames.nil _ _, Below.refl _ _⟩
  case round =>
    obtain ⟨i, L, hgo, rfl, htold, hF, hb⟩ := hrel
    have hple := goes_le hgo
    have hsl := hl.keep (Nat.le_refl _) hb
    obtain ⟨af, cf, rfl⟩ := own_form hF.row
    have hz := hb.size
    have hpn : ((stP l i : Nat) : Int) ≤ n := by omega
    have cut := hsl.cutB (l := stP l i) (r := n) (m := c) (n' := n - stP l i) (cap' := c - stP l i) (q := l.drop (stP l i)) (by omega) (Nat.le_refl _) (Nat.le_refl _) hsl.le rfl rfl (by rw [← hln, ← List.length_drop, List.take_length])
    by_cases hE : getE (l.drop (stP l i)) = 0
    · have hlen := getE_zero_len hE
      rw [List.length_drop] at hlen
      obtain ⟨q, hq⟩ : ∃ q, q = l.drop (stP l i) := ⟨_, rfl⟩
      rw [← hq] at cut hE hlen
      have hqs : Small q := by rw [hq]; exact hs.drop _
      have HQ : Hid (q = l.drop (stP l i)) := hq
      clear hq
      go_wp2_with (first
        | (go_at_call 17; refine (Get_ok cut hqs (by omega) hE).mono ?_; rintro _ w1 ⟨a1, c1, rfl, hb1, hown1⟩; have hnb : ((w1.alloc (.cells #[.int .i64 (getK q), .slice a1 (getB q).length c1] 33)).alloc (.cells #[.int .i64 (getK q), .slice a1 (getB q).length c1] 33)).heap[w1.heap.size + 1]? = some (.cells #[.int .i64 (getK q), .slice a1 (getB q).length c1] 33) := (by have := heap_alloc_new (w1.alloc (.cells #[.int .i64 (getK q), .slice a1 (getB q).length c1] 33)) (.cells #[.int .i64 (getK q), .slice a1 (getB q).length c1] 33); simpa using this); have bb := (below1 w1 (.cells #[.int .i64 (getK q), .slice a1 (getB q).length c1] 33)).alloc (by simp) (.cells #[.int .i64 (getK q), .slice a1 (getB q).length c1] 33); have hFx := (hF.keep (Nat.le_refl _) hb1).keep (Nat.le_refl _) bb; have hbx := own_keep hown1 (Nat.le_refl _) bb)
        | (at_builtin; refine wp_app_at elemF rfl _ _ rfl (B := w.heap.size) rfl hFx.row rfl (news := (Fm.mk (getK q) (getB q) a1 c1).cells) rfl (World.news_of_block hnb) (by intro u hu; simp only [Fm.cells, List.mem_cons, List.not_mem_nil, or_false] at hu; rcases hu with rfl | rfl <;> rfl) (by decide) (by have := goes_ge (l := l) i; have := congrArg List.length htold; simp only [told, List.length_map, stF_length] at this; omega) (by have := hb1.size; simp; omega) ?_))
      intro g2 cap2 w2 hown2 hgr hat hlt2
      have z1 := Nat.le_trans hz hb1.size
      have hF2 : Frames w2 w.heap.size (.slice (some ⟨g2, 0, none⟩) (L.length + 1) cap2) (L ++ [⟨getK q, getB q, a1, c1⟩]) := hFx.grown (own_base hbx hz) (fun k hk e => by have h1 := (hbx.lt k hk).1; have h2 := (hF.row.lt k e).2; omega) hown2 hgr (hat.elim .inl (fun h => .inr (by simpa using h)))
      have b2 : Below w.heap.size w w2 := ((hb.trans (hb1.mono hz)).trans (bb.mono z1)).grown hgr (by simp; omega) (fun k hk => (hF.row.lt k hk).1)
      have hq := HQ.out
      have he2 := hE
      rw [hq] at he2
      have htold2 : told (L ++ [⟨getK q, getB q, a1, c1⟩]) = stF l (i + 1) := by
        show told (L ++ [_]) = stF l i ++ [_]
        rw [← hq, ← htold]
        simp [told]
      have hst : stP l (i + 1) = stP l i + (gN q + 7) := by rw [hq]; rfl
      have HS : Hid (stP l (i + 1) = stP l i + (gN q + 7)) := hst
      have hgo2 := goes_succ hgo he2
      have hln2 : stP l i + (gN q + 7) ≤ n := by omega
      clear hst hq hgr hown2 hFx hbx bb hnb hown1 he2 hat
      go_wp2
      go_roundw
      case rel => exact ⟨i + 1, _, hgo2, by rw [HS.out]; simp, htold2, by simpa using hF2, b2⟩
      case measure => simp [intOf]; omega
    · have hE' : (getE (l.drop (stP l i)) == 0) = false := by simpa using hE
      go_wp2_with (go_at_call 17; refine (Get_bad cut (hs.drop _) (by omega) rfl hE).mono ?_; rintro _ w1 ⟨a1, c1, rfl, hb1⟩)
      go_ret2
      exact ⟨i, L, _, hgo, hE, htold, rfl, (hb.trans (hb1.mono hz)).alloc (Nat.le_trans hz hb1.size) _, (hF.keep (Nat.le_refl _) hb1).keep (Nat.le_refl _) (below1 _ _)⟩
end Go.Proofs.Ytjmhnflogbihdaa
