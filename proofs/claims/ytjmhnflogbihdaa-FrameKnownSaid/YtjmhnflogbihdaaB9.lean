/- What is proved: the walk of the document's Get (layer 4). No condition. -/
import Derived.Test.YtjmhnflogbihdaaB8
import Derived.Test.YtjmhnflogbihdaaMake
import Derived.Deep.RegionHeld3
namespace Go.Proofs.Ytjmhnflogbihdaa
open Go.RowKit

attribute [local go_sem ↓] store33
attribute [local go_sem] ones_frame
set_option maxHeartbeats 2000000 in
theorem RefGet_any {w : World} {ao : Option Addr} {n c : Nat} {l : List Nat} (hl : Sl w ao n c (bts l)) (hs : Small l) (hn : n < 1099511627776) : Calls Try.prog 20 #[.slice ao n c] w (RetG l w) := by
  have hln : l.length = n := by rw [← hl.len, bts_length]
  by_cases h3 : n < 3
  · have e : getE l = 4 := if_pos (by omega)
    have h3' : (n : Int) < 3 := by omega
    go_enter Try.func20, Try.ntmps20
    go_wp2
    refine bodyPost_ret (results33 rfl _ _ w.heap.size rfl (cs := #[.int .i64 0, .slice none 0 0]) (by simp [rowOf_alloc]) rfl) rfl ?_
    exact RetG.bad e (by decide) (below1 _ _)
  · obtain ⟨b, o, rfl, hbw, hc⟩ := hl.at (by omega)
    have hle := hl.le
    obtain ⟨x0, hx0⟩ : ∃ x, l[0]? = some x := ⟨_, List.getElem?_eq_getElem (by omega)⟩
    obtain ⟨x1, hx1⟩ : ∃ x, l[1]? = some x := ⟨_, List.getElem?_eq_getElem (by omega)⟩
    obtain ⟨x2, hx2⟩ : ∃ x, l[2]? = some x := ⟨_, List.getElem?_eq_getElem (by omega)⟩
    have W1 := below1 w (.cells #[.int .i64 0, .slice none 0 0] 33)
    have hl1 := hl.keep (Nat.le_refl _) W1
    obtain ⟨b', o', e1, hbw', hc'⟩ := hl1.at (by omega)
    cases e1
    have hxs0 := hs.at hx0
    have hxs1 := hs.at hx1
    have hxs2 := hs.at hx2
    have c0 := hc' 0 _ (by rw [bts_get, hx0]; rfl)
    have c1 := hc' 1 _ (by rw [bts_get, hx1]; rfl)
    have c2 := hc' 2 _ (by rw [bts_get, hx2]; rfl)
    rw [Nat.add_zero] at c0
    have gx0 := ext_cell c0
    have gx1 := ext_cell c1
    have gx2 := ext_cell c2
    clear c0 c1 c2 hc hc'
    have h3' : ¬ (n : Int) < 3 := by omega
    have n0 : (0 : Int) < n := by omega
    have n1 : (1 : Int) < n := by omega
    have n2 : (2 : Int) < n := by omega
    obtain ⟨N, hN⟩ : ∃ N, N = x1 + 256 * x2 := ⟨_, rfl⟩
    have hcast : (x1 : Int) + 256 * (x2 : Int) = (N : Int) := by omega
    have hN2 : N < 65536 := by omega
    have HN : Hid (gN l = N) := by rw [gN_of hx1 hx2, hN]; exact rfl
    clear hN
    have gr : ∀ g : Ext (w.alloc (.cells #[.int .i64 0, .slice none 0 0] 33)), rowOf g.val w.heap.size = #[.int .i64 0, .slice none 0 0] := fun g => by rw [g.row _ (by simp)]; simp [rowOf_alloc]
    have gs : ∀ g : Ext (w.alloc (.cells #[.int .i64 0, .slice none 0 0] 33)), soft g.val w.heap.size = true := fun g => by rw [g.soft_ _ (by simp)]; simp [soft_alloc]
    have fin : ∀ (g : Ext (w.alloc (.cells #[.int .i64 0, .slice none 0 0] 33))) (er : Int), getE l = er → er ≠ 0 → RetG l w (.returned (.tuple #[.agg #[.int .i64 0, .slice none 0 0], .int .i64 0, .int .i64 er])) (g.val.setRow w.heap.size #[.int .i64 0, .slice none 0 0]) := fun g er h h0 => RetG.bad h h0 (Below.setRow_ (g.up W1) (Nat.le_refl _) _)
    have row : ∀ (g : Ext (w.alloc (.cells #[.int .i64 0, .slice none 0 0] 33))) cs, rowOf (g.val.setRow w.heap.size cs) w.heap.size = cs := fun g cs => by rw [rowOf_setRow _ _ _ _ (gs g), if_pos rfl]
    by_cases hz : x0 = 0
    · have e : getE l = 2 := by unfold getE; rw [if_neg (by omega), hx0, if_pos (by rw [hz])]
      subst hz
      go_enter Try.func20, Try.ntmps20
      go_wp2_with ((refine wp_region_grow (by kernel_rfl) (by kernel_rfl) ?_; (repeat (go_big_quiet_step ((fail)))); refine wpQuiet_nil ?_; rintro _ ⟨g, rfl⟩))
      refine bodyPost_ret (results33 rfl _ _ w.heap.size rfl (row g _) rfl) rfl ?_
      exact fin g 2 e (by decide)
    have hz' : ((x0 : Int) == 0) = false := by simp; omega
    by_cases h4 : 400 < N
    · have e : getE l = 5 := by unfold getE; rw [if_neg (by omega), hx0, if_neg (by simpa using hz), if_pos (by rw [HN.out]; exact h4)]
      have h4' : (400 : Int) < N := by omega
      go_enter Try.func20, Try.ntmps20
      go_wp2_with ((refine wp_region_grow (by kernel_rfl) (by kernel_rfl) ?_; (repeat (go_big_quiet_step ((fail)))); refine wpQuiet_nil ?_; rintro _ ⟨g, rfl⟩))
      refine bodyPost_ret (results33 rfl _ _ w.heap.size rfl (row g _) rfl) rfl ?_
      exact fin g 5 e (by decide)
    have h4' : ¬ (400 : Int) < N := by omega
    by_cases h5 : n < N + 7
    · have e : getE l = 4 := by unfold getE; rw [if_neg (by omega), hx0, if_neg (by simpa using hz), if_neg (by rw [HN.out]; exact h4), if_pos (by rw [HN.out]; omega)]
      have h5' : (n : Int) < N + 7 := by omega
      go_enter Try.func20, Try.ntmps20
      go_wp2_with ((refine wp_region_grow (by kernel_rfl) (by kernel_rfl) ?_; (repeat (go_big_quiet_step ((fail)))); refine wpQuiet_nil ?_; rintro _ ⟨g, rfl⟩))
      refine bodyPost_ret (results33 rfl _ _ w.heap.size rfl (row g _) rfl) rfl ?_
      exact fin g 4 e (by decide)
    have h5' : ¬ (n : Int) < N + 7 := by omega
    have h6 : (3 : Int) + N ≤ c := by omega
    have h7 : (N : Int) + 7 ≤ c := by omega
    have h11 : (3 : Int) ≤ 3 + N := by omega
    have t1 : ((3 : Int) + N).toNat = 3 + N := by omega
    have t2 : ((N : Int) + 7).toNat = N + 7 := by omega
    have cut4 : Sl (w.alloc (.cells #[.int .i64 0, .slice none 0 0] 33)) (cutA (some ⟨b, o, none⟩) 3 c) N (c - 3) (bts ((l.drop 3).take N)) := hl1.cutB (l := 3) (r := 3 + N) (m := c) (by omega) (by omega) (by omega) (by omega) (by omega) (by omega) (by congr 1; omega)
    have cut5 : Sl (w.alloc (.cells #[.int .i64 0, .slice none 0 0] 33)) (some ⟨b, o, none⟩) (N + 7) c (bts (l.take (N + 7))) := hl1.frontB (by omega) (by omega) (by omega) rfl
    have hk0 : 0 < x0 := by omega
    have h13 : 0 < n := by omega
    have hw1 : IntKind.i64.wrap (x0 : Int) = x0 := wrap_small (by omega) (by omega)
    have hw2 : IntKind.i64.wrap (3 + (N : Int)) = 3 + N := wrap_small (by omega) (by omega)
    have hN400 : N ≤ 400 := by omega
    have hbs : Small ((l.drop 3).take N) := (hs.drop 3).take N
    have hW0 : w.heap.size ≤ (w.alloc (.cells #[.int .i64 0, .slice none 0 0] 33)).heap.size := by simp
    go_enter Try.func20, Try.ntmps20
    go_wp2_with ((refine wp_region_grow (by kernel_rfl) (by kernel_rfl) ?_; (repeat (go_big_quiet_step ((fail)))); refine wpQuiet_nil ?_; rintro _ ⟨g, rfl⟩))
    have gx := ext_cell (gx0 g)
    have hg0 : w.heap.size ≤ g.val.heap.size := Nat.le_trans hW0 g.size
    (refine Mk.wp_region_make_tail (none, 0) (fun (x : Option Addr × Nat) (w1 : World) (g : Ext w1) (h : w1.ownsRow w.heap.size 5 1 (.slice x.1 (N + 7) x.2) (N + 7) (bts (fr x0 ((l.drop 3).take N)))) => own_ext h g) 13 8 (fun x : Option Addr × Nat => .tuple #[.slice x.1 (N + 7) x.2, .int .i64 0]) (by kernel_rfl) (by kernel_rfl) ?_; simp only [List.take_succ_cons, List.take_zero, List.drop_succ_cons, List.drop_zero]; (repeat (first | (refine Mk.grow_lay rfl (fun _ => rfl) (fun _ _ => (by go_simp; (first | (refine ⟨rfl, ?_⟩) | skip); (go_at_call 12; exact (RefPut_good ((cut4.ext g).ext _) hbs hN400 hk0 hxs0).mono fun _ _ ⟨ao', cap, e, hb, hown⟩ => ⟨(ao', cap), e, ⟨⟨_, hb⟩, rfl⟩, own_base hown (Nat.le_trans hg0 (Ext.size _))⟩))) ?_; simp only [Act.put, List.setIfInBounds_toArray, List.set_cons_succ, List.set_cons_zero]) | (refine Mk.grow_step rfl (fun K hK => ?_); go_simp; (first | (refine hK _ ?_; clear hK K) | (apply Exists.intro; refine ⟨fun _ => ?_, hK _ ?_⟩; (fail); clear hK K))) | (refine Mk.grow_read rfl _ (fun _ => rfl) (fun _ _ => (by go_simp; (first | done | rfl | exact ⟨rfl, rfl⟩))) ?_; simp only [Act.put, List.setIfInBounds_toArray, List.set_cons_succ, List.set_cons_zero]))); refine (fun x w' hx ⟨g2, he⟩ => ?_); subst he)
    have q1 : ∀ g3 : Ext g2.val, rowOf g3.val w.heap.size = #[.int .i64 0, .slice none 0 0] := fun g3 => gr ((g.trans g2).trans g3)
    have q2 : ∀ g3 : Ext g2.val, soft g3.val w.heap.size = true := fun g3 => gs ((g.trans g2).trans g3)
    have q3 : ∀ g3 : Ext g2.val, g3.val.cell? ⟨b, o, none⟩ = some (.int .u8 (x0 : Int)) := fun g3 => gx0 ((g.trans g2).trans g3)
    have p2 := (cut5.ext g).ext g2
    have p1 := Sl.own hx
    have elast := getE_last (by omega) hx0 hz (by rw [HN.out]; omega) (by rw [HN.out]; omega)
    have hsame := same_iff hs hx0 (by rw [HN.out]; omega)
    rw [HN.out] at elast hsame
    by_cases hE : num ((l.drop (3 + N)).take 4) = csum (l.take (3 + N))
    · rw [if_pos hE] at elast
      have hd := hsame.2 hE
      clear hsame
      have HE : Hid (getE l = 0) := elast
      clear elast hE
      go_wp2_with (go_at_call 13; refine (SameBytes_any p1 p2 (by omega) (by omega)).mono ?_; rw [decide_eq_true hd]; rintro _ _ ⟨rfl, g3, rfl⟩)
      have q4 : ∀ g4 : Ext g3.val, g4.val.cell? ⟨b, o, none⟩ = some (.int .u8 (x0 : Int)) := fun g4 => q3 (g3.trans g4)
      have q5 : ∀ g4 : Ext g3.val, rowOf g4.val w.heap.size = #[.int .i64 0, .slice none 0 0] := fun g4 => q1 (g3.trans g4)
      have q6 : ∀ g4 : Ext g3.val, soft g4.val w.heap.size = true := fun g4 => q2 (g3.trans g4)
      have cut6 := fun g4 : Ext g3.val => (((cut4.ext g).ext g2).ext g3).ext g4
      have hbH : ¬ b = w.heap.size := by omega
      have hNn : N < 1099511627776 := by omega
      go_region_held3 (fun w' => w'.cell? ⟨b, o, none⟩ = some (.int .u8 (x0 : Int))) (first | exact q4 ⟨_, (Below.refl _ _).drew⟩ | exact q4 g4 | (rw [cell_setRow _ _ _ _ _ (q6 g4), if_neg hbH]; exact q4 g4) | go_keep)
        (first | (go_at_call 18; refine (CopyBytes_any (cut6 ⟨_, (Below.refl _ _).drew⟩) hNn).mono ?_; rintro _ w4 ⟨ao', cap, rfl, hb, hown⟩; obtain ⟨g4, rfl⟩ : ∃ g4 : Ext g3.val, w4 = g4.val := ⟨⟨_, ((Below.refl _ _).drew).trans hb⟩, rfl⟩))
      have hw3 : IntKind.i64.wrap ((N : Int) + 7) = ((N + 7 : Nat) : Int) := by rw [wrap_small (by omega) (by omega)]; omega
      have e := HE.out
      have eb : getB l = (l.drop 3).take N := by unfold getB; rw [if_pos e, HN.out]
      have el : ((l.drop 3).take N).length = N := by rw [List.length_take, List.length_drop]; omega
      rw [hw3]
      go_wp2
      refine bodyPost_ret (results33 rfl _ _ w.heap.size rfl (cs := #[.int .i64 x0, .slice ao' N cap]) (by rw [rowOf_setRow _ _ _ _ (q6 g4), if_pos rfl]) rfl) rfl ?_
      refine ⟨ao', cap, ?_, ?_, ?_⟩
      · have ek : getK l = x0 := by unfold getK; rw [if_pos e]; simp [List.getD, hx0]
        have em : getM l = ((N + 7 : Nat) : Int) := by unfold getM; rw [if_pos e, HN.out]
        rw [ek, em, e, eb, el]
        rfl
      · exact Below.setRow_ (g4.up (g3.up (g2.up (g.up W1)))) (Nat.le_refl _) _
      · rw [eb, el]
        have hlt : w.heap.size < g3.val.drew.heap.size := Nat.lt_of_lt_of_le (Nat.lt_of_lt_of_le (Nat.lt_of_lt_of_le (show w.heap.size < (w.alloc (.cells #[.int .i64 0, .slice none 0 0] 33)).heap.size by simp) g.size) g2.size) g3.size
        exact own_base (own_setRow hown hlt _) (Nat.le_of_lt hlt)
    · rw [if_neg hE] at elast
      have hd : ¬ _ := fun h => hE (hsame.1 h)
      clear hsame
      go_wp2_with (go_at_call 13; refine (SameBytes_any p1 p2 (by omega) (by omega)).mono ?_; rw [decide_eq_false hd]; rintro _ _ ⟨rfl, g3, rfl⟩; have r1 := q1 g3; have r2 := q2 g3)
      refine bodyPost_ret (results33 rfl _ _ w.heap.size rfl (row ((g.trans g2).trans g3) _) rfl) rfl ?_
      exact fin ((g.trans g2).trans g3) 6 elast (by decide)
end Go.Proofs.Ytjmhnflogbihdaa
