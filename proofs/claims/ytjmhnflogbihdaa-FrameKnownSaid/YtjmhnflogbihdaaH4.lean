/- What is proved: the walk of the document's Scan (layer 4). No condition. -/
import Derived.Test.YtjmhnflogbihdaaH3
namespace Go.Proofs.Ytjmhnflogbihdaa
open Go.RowKit

theorem own_setRow_ne {w : World} {B e s b : Nat} {v : Value} {n : Nat} {xs : List Value} (h : w.ownsRow B e s v n xs) (hb : v.ownBlock ≠ some b) (cs : Array Value) : (w.setRow b cs).ownsRow B e s v n xs := by
  refine ⟨h.1, ?_⟩
  rcases h.2 with h1 | ⟨g, c, cur, hv, hg, hh, r⟩
  · exact .inl h1
  · refine .inr ⟨g, c, cur, hv, hg, ?_, r⟩
    rw [setRow_other w b g cs (fun e => hb (by rw [hv, e]; rfl))]
    exact hh
theorem Frames.setRow {w : World} {B b : Nat} {v : Value} {L : List Fm} (h : Frames w B v L) (hv : v.ownBlock ≠ some b) (hL : ∀ f ∈ L, f.val.ownBlock ≠ some b) (cs : Array Value) : Frames (w.setRow b cs) B v L :=
  ⟨own_setRow_ne h.row hv cs, fun f hf => own_setRow_ne (h.body f hf) (hL f hf) cs, h.apart⟩
theorem grown_row {w w' : World} {r : Option Nat} {b : Nat} (h : w.grownBy w' r) (hb : b < w.heap.size) (hr : r ≠ some b) : rowOf w' b = rowOf w b ∧ soft w' b = soft w b := by
  have := h.block b hb (fun e => hr e.symm)
  unfold rowOf soft
  rw [this]
  exact ⟨rfl, rfl⟩
theorem below_row {w w' : World} {B b : Nat} (h : Below B w w') (hb : b < B) : rowOf w' b = rowOf w b ∧ soft w' b = soft w b := by
  have := h.block b hb
  unfold rowOf soft
  rw [this]
  exact ⟨rfl, rfl⟩

theorem load33 (w : World) (ρ : Operand → Value) (x : Operand) (dst : Option Tmp) (ty : TypeId) (pos : String) (af : Array Edge) (gd : Option (Nat × Bool)) (hp : pp (ρ x) = true) (h : po (ρ x) + 2 ≤ (rowOf w (pb (ρ x))).size) :
    (execOp ρ ⟨dst, .load 33 x, ty, pos, af, gd⟩).run Try.prog w = .ok (.value (.agg (sub (rowOf w (pb (ρ x))) (po (ρ x)) 2))) w :=
  exec_load_row 33 2 Try.underlying33 rfl (by kernel_rfl) w ρ x dst ty pos af gd hp h
theorem sub_two (a b : Value) : sub #[a, b] 0 2 = #[a, b] := rfl

/-- What the document's Scan holds at its loop's head. -/
def RS (l : List Nat) (w : World) (fb : Nat) (v p m e : Value) (wr : World) : Prop := ∃ (i : Nat) (L : List Fm) (q : List Nat) (a : Option Addr) (c : Nat),
  q = l.drop (stP l i) ∧ goes l i ∧ p = .int .i64 (stP l i : Nat) ∧ m = .int .i64 (getM q) ∧ e = .int .i64 (getE q) ∧ told L = stF l i ∧ Frames wr w.heap.size v L ∧ rowOf wr fb = #[.int .i64 (getK q), .slice a (getB q).length c] ∧ soft wr fb = true ∧
  wr.ownsRow w.heap.size 5 1 (.slice a (getB q).length c) (getB q).length (bts (getB q)) ∧ (Value.slice a (getB q).length c).ownBlock ≠ some fb ∧ v.ownBlock ≠ some fb ∧ (∀ f ∈ L, f.val.ownBlock ≠ some fb) ∧ fb < wr.heap.size ∧ Below w.heap.size w wr ∧ (∀ k, (Value.slice a (getB q).length c).ownBlock = some k → v.ownBlock ≠ some k)

attribute [local go_sem ↓] store33 load33
attribute [local go_sem] ones_frame sub_two
set_option maxHeartbeats 4000000 in
theorem RefScan_any {w : World} {ao : Option Addr} {n c : Nat} {l : List Nat} (hl : Sl w ao n c (bts l)) (hs : Small l) (hn : n < 1099511627776) : Calls Try.prog 22 #[.slice ao n c] w (RetS l w) := by
  have hln : l.length = n := by rw [← hl.len, bts_length]
  go_enter Try.func22, Try.ntmps22
  go_wp2_with fail
  refine (RefGet_any hl hs hn).mono ?_
  rintro _ w1 ⟨a1, c1, rfl, hb1, hown1⟩
  have z1 := hb1.size
  have k1 : Below w.heap.size w (w1.alloc (.cells #[.int .i64 (getK l), .slice a1 (getB l).length c1] 33)) := hb1.alloc z1 _
  go_wp2_with fail
  go_loopw [4, 5, 7, 8] (fun v p m e wr => RS l w w1.heap.size v p m e wr) (fun _ p _ _ _ => n - (intOf p).toNat)
  case atStart =>
    have hfr : ∀ k, (Value.slice a1 (getB l).length c1).ownBlock = some k → k < w1.heap.size := fun k hk => (hown1.lt k hk).2
    refine ⟨0, [], l, a1, c1, rfl, fun j hj => absurd hj (by omega), rfl, rfl, rfl, rfl, Frames.nil _ _, by rw [rowOf_alloc, if_pos rfl], by rw [soft_alloc, if_pos rfl], own_keep hown1 (Nat.le_refl _) (below1 w1 _), (fun e => by have := hfr _ e; omega), (fun e => by cases e), (fun f hf => by simp at hf), by simp, k1, (fun k _ e => by cases e)⟩
  case round =>
    obtain ⟨i, L, q, a, cq, hq, hgo, rfl, rfl, rfl, htold, hF, hrow, hsoft, hbody, n1, n2, n3, hfb, hb, hap⟩ := hrel
    have hple := goes_le hgo
    have hsl := hl.keep (Nat.le_refl _) hb
    obtain ⟨af, cf, rfl⟩ := own_form hF.row
    have hz := hb.size
    by_cases hE : getE q = 0
    · have hlen := getE_zero_len hE
      have hE' : (getE q == 0) = true := by simpa using hE
      obtain ⟨m, hm⟩ : ∃ m, m = gN q + 7 := ⟨_, rfl⟩
      have hM : getM q = (m : Int) := by unfold getM; rw [if_pos hE, hm]
      rw [← hm] at hlen
      have hlen2 : m ≤ n - stP l i := by rw [hq, List.length_drop] at hlen; omega
      have hst : stP l (i + 1) = stP l i + m := by rw [hm, hq]; rfl
      have hgo2 := goes_succ hgo (by rw [← hq]; exact hE)
      have hq2 : l.drop (stP l (i + 1)) = q.drop m := by rw [hst, hq, List.drop_drop]
      have htold2 : told (L ++ [⟨getK q, getB q, a, cq⟩]) = stF l (i + 1) := by
        show told (L ++ [_]) = stF l i ++ [_]
        rw [← hq, ← htold]
        simp [told]
      have hLi : L.length = i := by have := congrArg List.length htold; simpa [told, stF_length] using this
      have hge := goes_ge (l := l) i
      have hP2n : stP l i + m ≤ n := by omega
      have hP2n' : ((stP l i : Nat) : Int) + (m : Int) ≤ n := by omega
      have hP2g : 7 ≤ m := by omega
      have hP0 : (0 : Int) ≤ ((stP l i : Nat) : Int) + (m : Int) := by omega
      have htn : (((stP l i : Nat) : Int) + (m : Int)).toNat = stP l i + m := by omega
      have HM : Hid (getM q = (m : Int)) := hM
      have HQ2 : Hid (l.drop (stP l (i + 1)) = q.drop m) := hq2
      have HST : Hid (stP l (i + 1) = stP l i + m) := hst
      have HT : Hid (told (L ++ [⟨getK q, getB q, a, cq⟩]) = stF l (i + 1)) := htold2
      have HL : Hid (L.length = i) := hLi
      have hi : i < 1099511627776 := by omega
      have hnb : (wr.alloc (.cells #[.int .i64 (getK q), .slice a (getB q).length cq] 33)).heap[wr.heap.size]? = some (.cells #[.int .i64 (getK q), .slice a (getB q).length cq] 33) := heap_alloc_new _ _
      have hFx := hF.keep (Nat.le_refl _) (below1 wr (.cells #[.int .i64 (getK q), .slice a (getB q).length cq] 33))
      have hbx := own_keep hbody (Nat.le_refl _) (below1 wr (.cells #[.int .i64 (getK q), .slice a (getB q).length cq] 33))
      have hvk : ∀ k, (Value.slice af L.length cf).ownBlock = some k → w.heap.size ≤ k ∧ k < wr.heap.size := fun k e => hF.row.lt k e
      have hfbB : w.heap.size ≤ w1.heap.size := z1
      clear hM hq2 hst htold2 hLi hq hlen hm hsl hown1 k1 hbody hF
      rw [HM.out]
      go_wp2_with (at_builtin; refine wp_app_at elemF rfl _ _ rfl (B := w.heap.size) rfl hFx.row rfl (news := (Fm.mk (getK q) (getB q) a cq).cells) rfl (World.news_of_block hnb) (by intro u hu; simp only [Fm.cells, List.mem_cons, List.not_mem_nil, or_false] at hu; rcases hu with rfl | rfl <;> rfl) (by decide) (by rw [HL.out]; omega) (by simp; omega) ?_)
      intro g2 cap2 w2 hown2 hgr hat hlt2
      have hgf : g2 ≠ w1.heap.size := by rcases hat with h | h; exact fun e => n2 (by rw [h, e]); omega
      have hF2 : Frames w2 w.heap.size (.slice (some ⟨g2, 0, none⟩) (L.length + 1) cap2) (L ++ [⟨getK q, getB q, a, cq⟩]) := hFx.grown (f := ⟨getK q, getB q, a, cq⟩) hbx hap hown2 hgr (hat.elim .inl (fun h => .inr (by simpa using h)))
      have b2 : Below w.heap.size w w2 := (hb.alloc hz _).grown hgr (by simp; omega) (fun k hk => (hvk k hk).1)
      have hr2 := grown_row hgr (b := w1.heap.size) (by simp; omega) n2
      have hr3 : rowOf w2 w1.heap.size = #[.int .i64 (getK q), .slice a (getB q).length cq] := by rw [hr2.1, rowOf_alloc, if_neg (by omega), hrow]
      have hs3 : soft w2 w1.heap.size = true := by rw [hr2.2, soft_alloc, if_neg (by omega), hsoft]
      have z2 := b2.size
      have hf2 : w1.heap.size < w2.heap.size := by have := hgr.size; simp at this; omega
      have n3' : ∀ f ∈ L ++ [Fm.mk (getK q) (getB q) a cq], f.val.ownBlock ≠ some w1.heap.size := fun f hf => by
        rcases List.mem_append.1 hf with h | h
        · exact n3 f h
        · rw [List.mem_singleton] at h; rw [h]; exact n1
      have cut := (hl.keep (Nat.le_refl _) b2).cutB (l := stP l i + m) (r := n) (m := c) (n' := n - (stP l i + m)) (cap' := c - (stP l i + m)) (q := l.drop (stP l i + m)) (by omega) (Nat.le_refl _) (Nat.le_refl _) hl.le rfl rfl (by rw [← hln, ← List.length_drop, List.take_length])
      clear hr2 hgr hown2 hFx hbx hnb hrow hsoft hat hap n3 n1
      go_wp2_with fail
      refine (RefGet_any cut (hs.drop _) (by omega)).mono ?_
      rintro _ w3 ⟨a3, c3, rfl, hb3, hown3⟩
      have hr4 := below_row hb3 hf2
      rw [hr3, hs3] at hr4
      obtain ⟨hr4, hs4⟩ := hr4
      have hF3 := hF2.keep (Nat.le_refl _) hb3
      have b3 := b2.trans (hb3.mono z2)
      have z3 := hb3.size
      clear hr3 hs3 hF2 b2
      go_wp2_with fail
      go_roundw
      case rel =>
        have n4 : ∀ k, (Value.slice a3 (getB (l.drop (stP l i + m))).length c3).ownBlock = some k → w2.heap.size ≤ k := fun k hk => (hown3.lt k hk).1
        have n5 : (Value.slice a3 (getB (l.drop (stP l i + m))).length c3).ownBlock ≠ some w1.heap.size := fun e => by have := n4 _ e; omega
        have n6 : (Value.slice (some ⟨g2, 0, none⟩) (L.length + 1) cap2).ownBlock ≠ some w1.heap.size := fun e => hgf (Option.some.inj e)
        refine ⟨i + 1, L ++ [⟨getK q, getB q, a, cq⟩], l.drop (stP l i + m), a3, c3, by rw [HST.out], hgo2, by rw [HST.out]; simp, rfl, rfl, HT.out, hF3.setRow n6 n3' _, by rw [rowOf_setRow _ _ _ _ hs4, if_pos rfl], by rw [soft_setRow]; exact hs4, own_setRow_ne (own_base hown3 z2) n5 _, n5, n6, n3', by simp [World.setRow]; omega, Below.setRow_ b3 hfbB _, fun k hk e => ?_⟩
        have h1 := n4 k hk
        have h2 : g2 = k := Option.some.inj e
        omega
      case measure => simp [intOf]; omega
    · have hE' : (getE q == 0) = false := by simpa using hE
      have HQ : Hid (q = l.drop (stP l i)) := hq
      clear hq
      go_wp2_with fail
      go_ret2
      exact ⟨i, L, _, hgo, by rw [← HQ.out]; exact hE, htold, rfl, hb, hF⟩
end Go.Proofs.Ytjmhnflogbihdaa
