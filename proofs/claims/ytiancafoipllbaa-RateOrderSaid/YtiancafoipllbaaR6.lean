/- What is proved: Median: the middle one of what the sort makes of the rates that are right (turned from the kit's worked proof on filter and collect). No condition but those each law names. -/
import Derived.Test.YtiancafoipllbaaR5
namespace Go.Proofs.Ytiancafoipllbaa
open Go.RowKit Go.Shelf Go.Sort Fl

attribute [local go_sem] Oper.semAt_some
attribute [-go_sem] binOp_float_cmp_eql binOp_float_cmp_neq binOp_float_cmp_lss binOp_float_cmp_leq binOp_float_cmp_gtr binOp_float_cmp_geq
attribute [local go_sem] Fl.cmp_eql Fl.cmp_neq Fl.cmp_lss Fl.cmp_leq Fl.cmp_gtr Fl.cmp_geq

theorem info24 : (Try.prog.info? 24).map (fun i => (i.zero, i.size, i.bytes)) = some (some (.float .f64 0), 1, 8) := by kernel_rfl
def medW (ys : List Nat) : Nat := if ys.length = 0 then 0 else ys[(ys.length - 1) / 2]?.getD 0
def medE (ys : List Nat) : Int := if ys.length = 0 then 12 else 0
theorem own_cell {W : World} {n g len cap : Nat} {ys : List Nat} (h : W.ownsRow n 24 1 (.slice (some ⟨g, 0, none⟩) len cap) len (ys.map flV)) {j : Nat} (hj : j < len) : W.cell? ⟨g, j, none⟩ = some (.float .f64 (ys[j]?.getD 0)) := by
  obtain ⟨hl, h⟩ := h
  rcases h with ⟨e, _⟩ | ⟨g', cap', cur, e, h1, h2, h3, h4, h5, h6⟩
  · cases e
  · cases e
    have hl' : ys.length = len := by rw [List.length_map] at hl; omega
    have hc : cur.toList[j]? = some (flV (ys[j]?.getD 0)) := by
      have := congrArg (fun l => l[j]?) h6
      simp only [Nat.mul_one] at this
      rw [List.getElem?_take_of_lt hj, List.getElem?_map, List.getElem?_eq_getElem (show j < ys.length by omega)] at this
      rw [this, List.getElem?_eq_getElem (show j < ys.length by omega)]
      rfl
    unfold World.cell?
    simp only [h2]
    rw [Array.getElem?_toList] at hc
    simpa [flV] using hc
theorem mid_at {k : Nat} (h : 0 < k) (hk : k ≤ maxLen) : wrap64 ((wrap64 ((k : Int) - 1)).tdiv 2) = (((k - 1) / 2 : Nat) : Int) := by
  simp only [maxLen] at hk
  have e1 : wrap64 ((k : Int) - 1) = (k : Int) - 1 := IntWalk.wrap64_in _ (by omega)
  have e2 : ((k : Int) - 1).tdiv 2 = ((k : Int) - 1) / 2 := Int.tdiv_eq_ediv_of_nonneg (by omega)
  rw [e1, e2, IntWalk.wrap64_in _ (by omega)]
  omega
set_option maxRecDepth 100000 in
set_option maxHeartbeats 2000000 in
theorem median_in (n : Nat) (hn : 3 ≤ n) (zs ys : List Nat) (hS : SortsAt (rights zs) ys) (hlen : zs.length ≤ maxLen) (hbytes : zs.length * 8 ≤ 140737488351232) (a : Option Addr) (len cap : Nat) (w : World) (hL : Floats w.heap.size w (.slice a len cap) zs) :
    CallsIn Fence.wide n Try.prog 11 #[.slice a len cap] w fun e W' => e = .returned (.tuple #[.float .f64 (medW ys), .int .i64 (medE ys)]) ∧ Below w.heap.size w W' := by
  have h1 : 1 ≤ n := by omega
  have hf28 : Fence.wide.fn 28 := trivial
  have hf29 : Fence.wide.fn 29 := trivial
  have hf39 : Fence.wide.fn 39 := trivial
  obtain ⟨i0, hi, hz0, hz1, hz2⟩ := info_parts info24
  refine callsIn_of_wp_marks Try.func11 rfl trivial ?_ rfl
  simp only [Try.ntmps11, List.size_toArray, List.length_cons, List.length_nil, Nat.reduceAdd, Nat.reduceSub, Array.replicate_succ, Array.replicate_zero, List.push_toArray, List.append_toArray, List.nil_append, List.cons_append]
  gi_wp2_with (gi_at_call 28; refine (right_in (n - 1) _ _ _ _).mono ?_; rintro e w' ⟨rfl, rfl⟩)
  have bO := Boxed.new w 22 (.slice none 0 0)
  have bN := Boxed.new (w.alloc (.cells #[.slice none 0 0] 22)) 22 (.slice a len cap)
  rw [World.size_alloc] at bN
  have hB0 : Below w.heap.size w ((w.alloc (.cells #[.slice none 0 0] 22)).alloc (.cells #[.slice a len cap] 22)) := ((Below.refl _ w).alloc (Nat.le_refl _) _).alloc (by simp) _
  refine wpIn_rangeFunc_ownG rfl h1 (gf := 39) (lb := #[.pointer (some ⟨w.heap.size + 1, 0, none⟩)]) rfl hf39 (enters_of Try.func39 (by kernel_rfl) rfl)
    (right_stops (n - 1) (by omega) (w.heap.size + 1) w.heap.size (.slice a len cap) zs hbytes _ (by simp) (by simp; omega) bN.cell (hL.below hB0)) belowK_t (belowK_b (by simp; omega)) (Below.refl _ _) (fun _ => rfl)
    (fun pre W => (∃ v, Boxed W w.heap.size 22 v ∧ W.ownsRow w.heap.size 24 1 v pre.length (pre.map flV) ∧ (v = .slice none 0 0 ↔ pre = [])) ∧ Below w.heap.size w W)
    (fun _ _ _ => False)
    (OwnFrom.and (Own.from (holdsRow_own w.heap.size w.heap.size 22 24 1 (fun pre : List Nat => pre.length) (fun pre => pre.map flV) (fun pre v => v = .slice none 0 0 ↔ pre = [])) _) (ownFrom_below (Nat.le_refl _) (by simp; omega)))
    (fun _ _ _ _ _ hs _ _ => hs)
    ⟨⟨_, bO.alloc _, World.ownsRow_nil _ _ _ _, by simp⟩, hB0⟩
    (fun x => { tmps := #[.slice a len cap, undef, .float .f64 0, .int .i64 0, .pointer (some ⟨w.heap.size, 0, none⟩), .float .f64 x, .slice a len cap, .func (.func 39) #[] #[.pointer (some ⟨w.heap.size + 1, 0, none⟩)], .float .f64 x, undef, undef, undef, undef, undef, undef, undef, undef, undef, undef, undef, undef, undef, undef, undef, undef], defers := [] }) ?assign ?body ?done ?stop
  case assign =>
    intro l x W K hK
    gi_wp2
    exact hK
  case body =>
    rintro l pre x W ⟨⟨v, hv, hrow, hnil⟩, hB⟩ hlt
    have hc := hv.cell
    gi_wp2_with (gi_at_builtin; refine wpListIn_append_own _ rfl _ _ 22 rfl w.heap.size 24 i0 (.float .f64 0) 1 8 Try.underlying22 hi hz0 hz1 hz2 rfl (by decide) _ _ _ rfl (hrow.alloc _) ⟨W.heap.size, 0, none⟩ 1 1 [.float .f64 x] rfl rfl (cell_one_new _ _ _) (by simp [Value.oneCell']) (by omega) (by omega) (by have := hB.size; simp; omega) ?_; intro v' w1 hown' hgrow _; obtain ⟨g', cap', rfl⟩ := ownsRow_succ hown'; obtain ⟨hv1, hv2, hr2, hk2, hb2⟩ := hv.appended (by decide) hrow hB.size (Nat.le_refl _) hown' hgrow; have hc1 := hv1.cell; have hf1 := hv1.frozen)
    exact ⟨hk2.from _, hb2, ⟨_, hv2, by simpa [flV] using hr2, by simp⟩, hB.trans hb2⟩
  case done =>
    rintro D ys' W hD rfl ⟨⟨v, hv, hrow, hnil⟩, hB⟩ hK
    have hc := hv.cell
    obtain ⟨hyl, hsort⟩ := hS
    obtain ⟨hrl, hrow'⟩ := id hrow
    rcases hrow' with ⟨rfl, h0⟩ | ⟨g, cp, cur, rfl, hg1, hg2, hg3, hg4, hg5, hg6⟩
    · have hy0 : ys.length = 0 := by omega
      clear hnil
      gi_wp2_with (gi_at_call 29; refine (callsIn_wide.2 (hsort W w.heap.size (.slice none 0 0) hrow)).mono ?_; rintro _ W2 ⟨rfl, hW2⟩; obtain ⟨_, rfl⟩ : (Value.slice none 0 0 = .slice none 0 0) ∧ W2 = W := hW2.resolve_right (by rintro ⟨g, cp, e, _⟩; cases e))
      refine ⟨by simp, .inl ⟨_, _, rfl, run_takeDeferred hK, ?_⟩⟩
      refine ⟨_, results_tmp2 rfl _ _ _, ?_, hB.trans (belowK_b (w := w) (Nat.le_refl _) _ D _ _ (by simp at hD; omega) hK rfl rfl)⟩
      unfold medW medE
      rw [if_pos hy0, if_pos hy0]
      rfl
    · have hk0 : 0 < (rights zs).length := Nat.pos_of_ne_zero fun e => by
        have := hnil.2 (List.eq_nil_of_length_eq_zero e)
        cases this
      have hmx : (rights zs).length ≤ maxLen := Nat.le_trans (rights_length zs) hlen
      have hq := mid_at hk0 hmx
      have hmid : ((rights zs).length - 1) / 2 < (rights zs).length := by omega
      have hne : (((rights zs).length : Int) == 0) = false := by rw [beq_eq_false_iff_ne]; omega
      have hmw : some (Value.float .f64 (ys[((rights zs).length - 1) / 2]?.getD 0)) = some (.float .f64 (medW ys)) := by unfold medW; rw [if_neg (by omega), hyl]
      have hme : medE ys = 0 := by unfold medE; rw [if_neg (by omega)]
      have hgl : g < W.heap.size := (Array.getElem?_eq_some_iff.1 hg2).1
      gi_wp2_with (gi_at_call 29; refine (callsIn_wide.2 (hsort W w.heap.size _ hrow)).mono ?_; rintro _ W2 ⟨rfl, hW2⟩; obtain ⟨g', cp', e', hs⟩ := hW2.resolve_left (by rintro ⟨e, _⟩; cases e); cases e'; have hK2 := (hs.keeps ⟨_, _, _, hg2⟩).same D _ hK rfl; have hv2 := hs.boxed hv (by decide) hrow; have hc2 := hv2.cell; have hb2 := hs.below hg1 hgl; have hcm := (own_cell (hs.own hrow hyl) hmid).trans hmw)
      refine ⟨by simp, .inl ⟨_, _, rfl, run_takeDeferred hK2, ?_⟩⟩
      refine ⟨_, results_tmp2 rfl _ _ _, ?_, (hB.trans hb2).trans (belowK_b (w := w) (Nat.le_refl _) _ D _ _ (by simp at hD; omega) hK2 rfl rfl)⟩
      rw [hme]
      rfl
  case stop =>
    rintro D c pre W _ _ h _
    exact h.elim
end Go.Proofs.Ytiancafoipllbaa
