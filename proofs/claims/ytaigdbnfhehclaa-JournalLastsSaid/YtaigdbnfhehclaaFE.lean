/- What is proved: the walk of frame.Get (layer 4). No condition. -/
import Derived.Test.YtaigdbnfhehclaaFC
import Derived.Deep.RegionHeld3
namespace Go.Proofs.Ytaigdbnfhehclaa
open Go.RowKit
set_option maxRecDepth 100000

/-- The length that a frame's head tells. -/
def gN (l : List Nat) : Nat := num ((l.drop 1).take 2)
def getE (l : List Nat) : Int :=
  if l.length < 3 then 4 else if l[0]? = some 0 then 2 else if 400 < gN l then 5 else if l.length < gN l + 7 then 4
  else if num ((l.drop (3 + gN l)).take 4) ≠ csum (l.take (3 + gN l)) then 6 else 0
def getB (l : List Nat) : List Nat := if getE l = 0 then (l.drop 3).take (gN l) else []
def getK (l : List Nat) : Int := if getE l = 0 then ((l.getD 0 0 : Nat) : Int) else 0
def getM (l : List Nat) : Int := if getE l = 0 then ((gN l + 7 : Nat) : Int) else 0

def RetG (l : List Nat) (w : World) : Ending → World → Prop := fun e w' => ∃ ao cap, e = .returned (.tuple #[.agg #[.int .i64 (getK l), .slice ao (getB l).length cap], .int .i64 (getM l), .int .i64 (getE l)]) ∧ Below w.heap.size w w' ∧ w'.ownsRow w.heap.size 5 1 (.slice ao (getB l).length cap) (getB l).length (bts (getB l))

theorem RetG.bad {l : List Nat} {w : World} {er : Int} (h : getE l = er) (h0 : er ≠ 0) {w' : World} (hb : Below w.heap.size w w') : RetG l w (.returned (.tuple #[.agg #[.int .i64 0, .slice none 0 0], .int .i64 0, .int .i64 er])) w' := by
  subst h
  have e1 : getB l = [] := if_neg h0
  have e2 : getK l = 0 := if_neg h0
  have e3 : getM l = 0 := if_neg h0
  refine ⟨none, 0, ?_, hb, ?_⟩
  · rw [e1, e2, e3]; rfl
  · rw [e1]; exact World.ownsRow_nil _ _ _ _

theorem results33 {fn : Func} {p u v : Tmp} (hr : fn.results = #[.cell p 51, .tmp u, .tmp v]) (tmps : Array Value) (w : World) (b : Nat) (hp : tmps.getD p undef = .pointer (some ⟨b, 0, none⟩)) {cs : Array Value} (hc : rowOf w b = cs) (hn : cs.size = 2) :
    (results fn tmps).run Try.prog w = .ok (.tuple #[.agg cs, tmps.getD u undef, tmps.getD v undef]) w := results_row2 hr Try.underlying51 rfl (by kernel_rfl) tmps w b hp hc hn

theorem store33 (w : World) (ρ : Operand → Value) (x y : Operand) (dst : Option Tmp) (ty : TypeId) (pos : String) (af : Array Edge) (gd : Option (Nat × Bool)) (hp : pp (ρ x) = true) (h0 : po (ρ x) = 0) (hv : isAg (ρ y) = true) (hs : soft w (pb (ρ x)) = true) (hr : (rowOf w (pb (ρ x))).size = 2) (hn : (agc (ρ y)).size = 2) (h1 : ones (agc (ρ y)) = true) :
    (execOp ρ ⟨dst, .store 51 x y, ty, pos, af, gd⟩).run Try.prog w = .ok .skip (w.setRow (pb (ρ x)) (agc (ρ y))) :=
  exec_store_row 51 2 (by kernel_rfl) w ρ x y dst ty pos af gd hp h0 hv hs hr hn h1
theorem ones_frame (a : Int) (ao : Option Addr) (n c : Nat) : ones #[.int .i64 a, .slice ao n c] = true := by simp [ones, Value.oneCell']

theorem wrap_small {x : Int} (h0 : 0 ≤ x) (h1 : x < 9223372036854775808) : IntKind.i64.wrap x = x := by
  rw [IntKind.wrap_i64]; omega

theorem below1 (w : World) (o : Obj) : Below w.heap.size w (w.alloc o) := (Below.refl _ w).alloc (Nat.le_refl _) o

attribute [local go_sem ↓] store33
attribute [local go_sem] ones_frame
set_option maxHeartbeats 2000000 in
theorem Get_any {w : World} {ao : Option Addr} {n c : Nat} {l : List Nat} (hl : Sl w ao n c (bts l)) (hs : Small l) (hn : n < 1099511627776) : Calls Try.prog 43 #[.slice ao n c] w (RetG l w) := by
  have hln : l.length = n := by rw [← hl.len, bts_length]
  by_cases h3 : n < 3
  · have e : getE l = 4 := if_pos (by omega)
    have h3' : (n : Int) < 3 := by omega
    go_enter Try.func43, Try.ntmps43
    go_wp2
    refine bodyPost_ret (results33 rfl _ _ w.heap.size rfl (cs := #[.int .i64 0, .slice none 0 0]) (by simp [rowOf_alloc]) rfl) rfl ?_
    exact RetG.bad e (by decide) (below1 _ _)
  · obtain ⟨b, o, rfl, hbw, hc⟩ := hl.at (by omega)
    have hle := hl.le
    obtain ⟨x0, hx0⟩ : ∃ x, l[0]? = some x := ⟨_, List.getElem?_eq_getElem (by omega)⟩
    have hx := hc 0 _ (by rw [bts_get, hx0]; rfl)
    rw [Nat.add_zero] at hx
    have hxs := hs.at hx0
    have h3' : ¬ (n : Int) < 3 := by omega
    have hc3 : (3 : Int) ≤ c := by omega
    have W1 := below1 w (.cells #[.int .i64 0, .slice none 0 0] 51)
    have hl1 := hl.keep (Nat.le_refl _) W1
    have cut1 : Sl (w.alloc (.cells #[.int .i64 0, .slice none 0 0] 51)) (cutA (some ⟨b, o, none⟩) 1 c) 2 (c - 1) (bts ((l.drop 1).take 2)) := hl1.cutB (l := 1) (r := 3) (m := c) (by omega) (by omega) (by omega) (by omega) (by omega) (by omega) rfl
    obtain ⟨N, hN⟩ : ∃ N, N = gN l := ⟨_, rfl⟩
    have hnum := Number_any cut1 ((hs.drop 1).take 2) (by decide)
    have hN2 : N < 65536 := by
      have := num_lt _ ((hs.drop 1).take 2)
      have hle2 : ((l.drop 1).take 2).length = 2 := by simp; omega
      rw [hle2] at this
      rw [hN]; exact this
    rw [show num ((l.drop 1).take 2) = N from hN.symm] at hnum
    have HN : Hid (N = gN l) := hN
    clear hN
    have hx1 : (w.alloc (.cells #[.int .i64 0, .slice none 0 0] 51)).cell? ⟨b, o, none⟩ = some (.int .u8 (x0 : Int)) := by rw [W1.cell (p := ⟨b, o, none⟩) hbw]; exact hx
    have gx := ext_cell hx1
    have gr : ∀ g : Ext (w.alloc (.cells #[.int .i64 0, .slice none 0 0] 51)), rowOf g.val w.heap.size = #[.int .i64 0, .slice none 0 0] := fun g => by rw [g.row _ (by simp)]; simp [rowOf_alloc]
    have gs : ∀ g : Ext (w.alloc (.cells #[.int .i64 0, .slice none 0 0] 51)), soft g.val w.heap.size = true := fun g => by rw [g.soft_ _ (by simp)]; simp [soft_alloc]
    have fin : ∀ (g : Ext (w.alloc (.cells #[.int .i64 0, .slice none 0 0] 51))) (er : Int), getE l = er → er ≠ 0 → RetG l w (.returned (.tuple #[.agg #[.int .i64 0, .slice none 0 0], .int .i64 0, .int .i64 er])) (g.val.setRow w.heap.size #[.int .i64 0, .slice none 0 0]) := fun g er h h0 => RetG.bad h h0 (Below.setRow_ (g.up W1) (Nat.le_refl _) _)
    have row : ∀ (g : Ext (w.alloc (.cells #[.int .i64 0, .slice none 0 0] 51))) cs, rowOf (g.val.setRow w.heap.size cs) w.heap.size = cs := fun g cs => by rw [rowOf_setRow _ _ _ _ (gs g), if_pos rfl]
    clear W1 hx1
    by_cases hz : x0 = 0
    · have e : getE l = 2 := by unfold getE; rw [if_neg (by omega), hx0, if_pos (by rw [hz])]
      subst hz
      go_enter Try.func43, Try.ntmps43
      go_wp2_with (go_at_call 54; refine hnum.mono ?_; rintro _ _ ⟨rfl, g, rfl⟩)
      refine bodyPost_ret (results33 rfl _ _ w.heap.size rfl (row g _) rfl) rfl ?_
      exact fin g 2 e (by decide)
    by_cases h4 : 400 < N
    · have e : getE l = 5 := by unfold getE; rw [if_neg (by omega), hx0, if_neg (by simpa using hz), if_pos (by rw [← HN.out]; exact h4)]
      have hz' : ((x0 : Int) == 0) = false := by simp; omega
      have h4' : (403 : Int) < 3 + N := by omega
      go_enter Try.func43, Try.ntmps43
      go_wp2_with (go_at_call 54; refine hnum.mono ?_; rintro _ _ ⟨rfl, g, rfl⟩)
      refine bodyPost_ret (results33 rfl _ _ w.heap.size rfl (row g _) rfl) rfl ?_
      exact fin g 5 e (by decide)
    by_cases h5 : n < N + 7
    · have e : getE l = 4 := by unfold getE; rw [if_neg (by omega), hx0, if_neg (by simpa using hz), if_neg (by rw [← HN.out]; exact h4), if_pos (by rw [← HN.out]; omega)]
      have hz' : ((x0 : Int) == 0) = false := by simp; omega
      have h4' : ¬ (403 : Int) < 3 + N := by omega
      have h5' : (n : Int) < 3 + N + 4 := by omega
      go_enter Try.func43, Try.ntmps43
      go_wp2_with (go_at_call 54; refine hnum.mono ?_; rintro _ _ ⟨rfl, g, rfl⟩)
      refine bodyPost_ret (results33 rfl _ _ w.heap.size rfl (row g _) rfl) rfl ?_
      exact fin g 4 e (by decide)
    have hz' : ((x0 : Int) == 0) = false := by simp; omega
    have h4' : ¬ (403 : Int) < 3 + N := by omega
    have h5' : ¬ (n : Int) < 3 + N + 4 := by omega
    have h6 : (3 : Int) + N + 4 ≤ c := by omega
    have h7 : (3 : Int) + N ≤ c := by omega
    have h9 : (3 : Int) + N ≤ 3 + N + 4 := by omega
    have h10 : (0 : Int) ≤ 3 + N := by omega
    have t1 : ((3 : Int) + N).toNat = 3 + N := by omega
    have t2 : ((3 : Int) + N + 4).toNat = 3 + N + 4 := by omega
    have cut2 : Sl (w.alloc (.cells #[.int .i64 0, .slice none 0 0] 51)) (cutA (some ⟨b, o, none⟩) (3 + N) c) (3 + N + 4 - (3 + N)) (c - (3 + N)) (bts ((l.drop (3 + N)).take 4)) := hl1.cutB (l := 3 + N) (r := 3 + N + 4) (m := c) (by omega) (by omega) (by omega) (by omega) (by omega) (by omega) (by congr 1; omega)
    have cut3 : Sl (w.alloc (.cells #[.int .i64 0, .slice none 0 0] 51)) (some ⟨b, o, none⟩) (3 + N) c (bts (l.take (3 + N))) := hl1.frontB (by omega) (by omega) (by omega) rfl
    have t3 : 3 + N + 4 - (3 + N) = 4 := by omega
    have h11 : (3 : Int) ≤ 3 + N := by omega
    have h12 : (0 : Int) < n := by omega
    have h13 : 0 < n := by omega
    have cut4 : Sl (w.alloc (.cells #[.int .i64 0, .slice none 0 0] 51)) (cutA (some ⟨b, o, none⟩) 3 (3 + N)) N N (bts ((l.drop 3).take N)) := hl1.cutB (l := 3) (r := 3 + N) (m := 3 + N) (by omega) (by omega) (by omega) (by omega) (by omega) (by omega) (by congr 1; omega)
    rw [t3] at cut2
    obtain ⟨M, hM⟩ : ∃ M, M = num ((l.drop (3 + N)).take 4) := ⟨_, rfl⟩
    have hnum2 := fun (g : Ext (w.alloc (.cells #[.int .i64 0, .slice none 0 0] 51))) (g' : Ext g.val) => Number_any ((cut2.ext g).ext g') ((hs.drop (3 + N)).take 4) (by decide)
    rw [← hM] at hnum2
    have hsum := fun (g : Ext (w.alloc (.cells #[.int .i64 0, .slice none 0 0] 51))) (g' : Ext g.val) => Sum_any ((cut3.ext g).ext g') (hs.take (3 + N)) (by omega)
    obtain ⟨C, hC⟩ : ∃ C, C = csum (l.take (3 + N)) := ⟨_, rfl⟩
    rw [← hC] at hsum
    have HM : Hid (M = num ((l.drop (3 + N)).take 4)) := hM
    have HC : Hid (C = csum (l.take (3 + N))) := hC
    clear hM hC cut2 cut3 cut1
    have gx2 := fun (g : Ext (w.alloc (.cells #[.int .i64 0, .slice none 0 0] 51))) (g2 : Ext g.val) => ext_cell (gx (g.trans g2))
    have gr2 := fun (g : Ext (w.alloc (.cells #[.int .i64 0, .slice none 0 0] 51))) (g2 : Ext g.val) => gr (g.trans g2)
    have gs2 := fun (g : Ext (w.alloc (.cells #[.int .i64 0, .slice none 0 0] 51))) (g2 : Ext g.val) => gs (g.trans g2)
    by_cases h8 : M = C
    · have e : getE l = 0 := by unfold getE; rw [if_neg (by omega), hx0, if_neg (by simpa using hz), if_neg (by rw [← HN.out]; exact h4), if_neg (by rw [← HN.out]; omega), if_neg (by rw [← HN.out, ← HM.out, ← HC.out]; simpa using h8)]
      have h8' : ((M : Int) == (C : Int)) = true := by simp; omega
      go_enter Try.func43, Try.ntmps43
      go_wp2_with (first
        | (go_at_call 54; refine hnum.mono ?_; rintro _ _ ⟨rfl, g, rfl⟩)
        | ((refine wp_region_grow (by kernel_rfl) (by kernel_rfl) ?_; (repeat (go_big_quiet_step ((first | (go_at_call 54; exact Calls.ext_of (hnum2 g _)) | (go_at_call 55; exact Calls.ext_of (hsum g _)))))); refine wpQuiet_nil ?_; rintro _ ⟨g2, rfl⟩); have q0 : ∀ g3 : Ext g2.val, g3.val.cell? ⟨b, o, none⟩ = some (.int .u8 (x0 : Int)) := gx2 g g2; have q1 : rowOf g2.val w.heap.size = #[.int .i64 0, .slice none 0 0] := gr2 g g2; have q2 : soft g2.val w.heap.size = true := gs2 g g2))
      have hz2 : w.heap.size ≤ g2.val.heap.size := Nat.le_trans (Nat.le_trans (by simp) g.size) g2.size
      have q3 : ∀ g3 : Ext g2.val, rowOf g3.val w.heap.size = #[.int .i64 0, .slice none 0 0] := fun g3 => gr2 (g.trans g2) g3
      have q4 : ∀ g3 : Ext g2.val, soft g3.val w.heap.size = true := fun g3 => gs2 (g.trans g2) g3
      have cut5 := fun g3 : Ext g2.val => ((cut4.ext g).ext g2).ext g3
      have hbH : ¬ b = w.heap.size := by omega
      have hNn : N < 1099511627776 := by omega
      go_region_held3 (fun w' => w'.cell? ⟨b, o, none⟩ = some (.int .u8 (x0 : Int))) (first | exact q0 ⟨_, (Below.refl _ _).drew⟩ | exact q0 g3 | (rw [cell_setRow _ _ _ _ _ (q4 g3), if_neg hbH]; exact q0 g3) | go_keep)
        (first | (go_at_call 56; refine (Clone_any (cut5 ⟨_, (Below.refl _ _).drew⟩) hNn).mono ?_; rintro _ w3 ⟨ao', cap, rfl, hb, hown⟩; obtain ⟨g3, rfl⟩ : ∃ g3 : Ext g2.val, w3 = g3.val := ⟨⟨_, ((Below.refl _ _).drew).trans hb⟩, rfl⟩))
      have hw1 : IntKind.i64.wrap (x0 : Int) = x0 := wrap_small (by omega) (by omega)
      have hw2 : IntKind.i64.wrap (3 + (N : Int) + 4) = ((N + 7 : Nat) : Int) := by rw [wrap_small (by omega) (by omega)]; omega
      rw [hw1, hw2]
      have eb : getB l = (l.drop 3).take N := by unfold getB; rw [if_pos e, ← HN.out]
      have el : ((l.drop 3).take N).length = N := by rw [List.length_take, List.length_drop]; omega
      go_wp2
      refine bodyPost_ret (results33 rfl _ _ w.heap.size rfl (cs := #[.int .i64 x0, .slice ao' N cap]) (by rw [rowOf_setRow _ _ _ _ (q4 g3), if_pos rfl]) rfl) rfl ?_
      refine ⟨ao', cap, ?_, ?_, ?_⟩
      · have ek : getK l = x0 := by unfold getK; rw [if_pos e]; simp [List.getD, hx0]
        have em : getM l = ((N + 7 : Nat) : Int) := by unfold getM; rw [if_pos e, ← HN.out]
        rw [ek, em, e, eb, el]
        rfl
      · have W1 := below1 w (.cells #[.int .i64 0, .slice none 0 0] 51)
        exact Below.setRow_ (g3.up (g2.up (g.up W1))) (Nat.le_refl _) _
      · rw [eb, el]
        have hlt : w.heap.size < g2.val.drew.heap.size := Nat.lt_of_lt_of_le (Nat.lt_of_lt_of_le (show w.heap.size < (w.alloc (.cells #[.int .i64 0, .slice none 0 0] 51)).heap.size by simp) g.size) g2.size
        exact own_base (own_setRow hown hlt _) (Nat.le_of_lt hlt)
    · have e : getE l = 6 := by unfold getE; rw [if_neg (by omega), hx0, if_neg (by simpa using hz), if_neg (by rw [← HN.out]; exact h4), if_neg (by rw [← HN.out]; omega), if_pos (by rw [← HN.out, ← HM.out, ← HC.out]; exact h8)]
      have h8' : ((M : Int) == (C : Int)) = false := by simp; omega
      go_enter Try.func43, Try.ntmps43
      go_wp2_with (first
        | (go_at_call 54; refine hnum.mono ?_; rintro _ _ ⟨rfl, g, rfl⟩)
        | ((refine wp_region_grow (by kernel_rfl) (by kernel_rfl) ?_; (repeat (go_big_quiet_step ((first | (go_at_call 54; exact Calls.ext_of (hnum2 g _)) | (go_at_call 55; exact Calls.ext_of (hsum g _)))))); refine wpQuiet_nil ?_; rintro _ ⟨g2, rfl⟩); have q1 : rowOf g2.val w.heap.size = #[.int .i64 0, .slice none 0 0] := gr2 g g2; have q2 : soft g2.val w.heap.size = true := gs2 g g2))
      refine bodyPost_ret (results33 rfl _ _ w.heap.size rfl (row (g.trans g2) _) rfl) rfl ?_
      exact fin (g.trans g2) 6 e (by decide)
end Go.Proofs.Ytaigdbnfhehclaa
