/- What is proved: parts of the walk and of the plain law, 1 texts in one. No condition but those each law names. -/
import Derived.Test.YtjkfondgacjpnaaGreatDoorK34
namespace Go.Proofs.YtjkfondgacjpnaaGreatDoor
open Go.RowKit
open Sx (Ab DW Turns Did Foot)
set_option maxRecDepth 100000

theorem keep1_any {w : World} {xb b0 b1 : Nat} {C : Array Value} {t : TypeId} (h0 : w.cell? ⟨b0, 0, none⟩ = some (.pointer (some ⟨xb, 0, none⟩))) (h1 : w.cell? ⟨b1, 0, none⟩ = some (.int .i64 0)) (hx : w.heap[xb]? = some (.cells C t)) (hc : C[12]? = some (.bool false)) :
    CallsD Tryz.prog 68 #[.pointer (some ⟨b0, 0, none⟩), .pointer (some ⟨b1, 0, none⟩)] .returning w fun e u' w' => u' = .returning ∧ (∃ v, e = .returned v) ∧ Below w.heap.size w w' := by
  have hb := below_same hx hc
  have c12 : w.cell? ⟨xb, 12, none⟩ = some (.bool false) := by simp [World.cell?, hx, hc]
  have f12 : w.frozen? ⟨xb, 12, none⟩ = false := by simp [World.frozen?, hx]
  refine callsD_of_wp Tryz.func68 rfl ?_
  simp only [Tryz.ntmps68, List.size_toArray, List.length_cons, List.length_nil, Nat.reduceAdd, Nat.reduceSub, Array.replicate_succ, Array.replicate_zero, List.push_toArray, List.append_toArray, List.nil_append, List.cons_append]
  have B2 := Lib.hid hb.drew
  clear hb hc
  go_region
  go_end0
  exact ⟨⟨_, rfl⟩, B2.out⟩
structure Base (w : World) (D : Dm) : Prop where
  forms : Forms w
  tabs : Tabs w
  n2 : ¬ D.all 0
  n4 : ¬ D.all 1
  n5 : ¬ D.all 2
theorem Forms.lt {w : World} (h : Forms w) : 0 < w.heap.size := World.block_lt_of_cell? w ⟨0, 0, none⟩ (h 0 _ rfl)
theorem Base.trans {w w' : World} {D D' : Dm} (h : Base w D) (t : Trans w D w' D') : Base w' D' := by
  have l2 := h.forms.lt
  obtain ⟨t4, g4⟩ := h.tabs.g4
  obtain ⟨t5, g5⟩ := h.tabs.g5
  have l4 := (Array.getElem?_eq_some_iff.1 g4).1
  have l5 := (Array.getElem?_eq_some_iff.1 g5).1
  exact ⟨fun j v hj => (Sx.cell_block (t.keep 0 l2 h.n2).1 _).1.trans (h.forms j v hj), ⟨⟨t4, (t.keep 1 l4 h.n4).1.trans g4⟩, ⟨t5, (t.keep 2 l5 h.n5).1.trans g5⟩⟩, (t.keep 0 l2 h.n2).2, (t.keep 1 l4 h.n4).2, (t.keep 2 l5 h.n5).2⟩
attribute [local go_sem ↓] rowOf_cell
attribute [local go_sem] rowOf_alloc soft_alloc rowOf_drew soft_drew rowOf_setRow soft_setRow rowOf_setCell soft_setCell frozen_of_soft
set_option maxHeartbeats 2000000 in
theorem keep_any {n : Nat} (hn : n ≤ 2) {rs : Nat → Rc} {S S' : Nat → World → Dm → Prop} (hS : ∀ k w D, S k w D → Dae w D) (hS' : ∀ k w D, S' k w D → Dae w D) (hl : ∀ k w w' D, S k w D → Below w.heap.size w w' → S k w' D) (hl' : ∀ k w w' D, S' k w D → Below w.heap.size w w' → S' k w' D)
    (hlog : ∀ k, k < n → ∀ w D, S k w D → Base w D → Calls Tryz.prog 69 #[.pointer (some ⟨D.xb, 0, none⟩), .agg (rs k).cells] w fun e w' => e = .returned (.int .i64 0) ∧ ∃ D', S' k w' D' ∧ Trans w D w' D')
    (happ : ∀ k, k < n → ∀ w D, S' k w D → Base w D → Calls Tryz.prog 70 #[.pointer (some ⟨D.bk, 0, none⟩), .agg (rs k).cells] w fun e w' => e = .returned (.int .i64 0) ∧ ∃ D', S (k + 1) w' D' ∧ Trans w D w' D')
    {w : World} {D : Dm} (h : S 0 w D) (hB : Base w D) {lb : Nat} {C : Array Value} (hlb : w.heap[lb]? = some (.cells C 119)) (hCs : C.size = 80 * n) (hCr : ∀ k, k < n → sub C (k * 80) 80 = (rs k).cells) (hna : ¬ D.all lb) :
    Calls Tryz.prog 48 #[.pointer (some ⟨D.xb, 0, none⟩), .slice (some ⟨lb, 0, none⟩) n n] w fun e w' => e = .returned (.int .i64 0) ∧ ∃ D', S n w' D' ∧ Trans w D w' D' := by
  obtain ⟨w1, hw1⟩ : ∃ w1, w1 = (w.alloc (.cells #[.pointer (some ⟨D.xb, 0, none⟩)] 58)).alloc (.cells #[.int .i64 0] 32) := ⟨_, rfl⟩
  have bx : Bxs w [(#[.pointer (some ⟨D.xb, 0, none⟩)], 58), (#[.int .i64 0], 32)] w1 := by rw [hw1]; exact Bxs.new2 w _ _ _ _
  have hst := hl 0 w w1 D h bx.below
  have hT0 : Trans w D w1 D := Trans.below bx.below
  have hBa := hB.trans hT0
  have D0 := hS 0 w D h
  have na0 : ¬ D.all w.heap.size := fun q => absurd (D0.all_lt q) (Nat.lt_irrefl _)
  have na1 : ¬ D.all (w.heap.size + 1) := fun q => by have := D0.all_lt q; omega
  have lt0 := bx.lt 0 rfl
  have lt1 := bx.lt 1 rfl
  have x0 : w1.heap[w.heap.size]? = some (.cells #[.pointer (some ⟨D.xb, 0, none⟩)] 58) := bx.rows 0 _ _ rfl
  have x1 : w1.heap[w.heap.size + 1]? = some (.cells #[.int .i64 0] 32) := bx.rows 1 _ _ rfl
  have xl : w1.heap[lb]? = some (.cells C 119) := (bx.below.block lb (Array.getElem?_eq_some_iff.1 hlb).1).trans hlb
  simp only [Nat.add_zero] at lt0
  have K := Lib.hid (And.intro x0 (And.intro x1 (And.intro xl (And.intro na0 (And.intro na1 hna)))))
  have KL := Lib.hid (And.intro lt0 (And.intro lt1 (Array.getElem?_eq_some_iff.1 xl).1))
  have HT0 := Lib.hid hT0
  have HST := Lib.hid hst
  have HBA := Lib.hid hBa
  have HW := Lib.hid hw1
  clear h hB hlb bx hst hT0 hBa D0 na0 na1 lt0 lt1 x0 x1 xl hna hw1
  go_enter_defers Tryz.func48, Tryz.ntmps48
  go_upto_region 3 with (fail)
  rw [← HW.out]
  go_loopw [10] (fun i wr => ∃ (k : Nat) (D' : Dm), k ≤ n ∧ i = .int .i64 k ∧ S k wr D' ∧ Trans w1 D wr D') (fun i _ => n - (intOf i).toNat)
  case atStart => exact ⟨0, D, Nat.zero_le _, rfl, HST.out, (Trans.below (Below.refl _ _))⟩
  case round =>
    obtain ⟨k, D', hk, rfl, hs, ht⟩ := hrel
    have HBA' := Lib.hid (HBA.out.trans ht)
    have r0 := rowOf_of ((ht.keep _ KL.out.1 K.out.2.2.2.1).1.trans K.out.1)
    have x1 := (ht.keep _ KL.out.2.1 K.out.2.2.2.2.1).1.trans K.out.2.1
    have r1 := rowOf_of x1
    have s1 := soft_of x1
    have rl := rowOf_of ((ht.keep _ KL.out.2.2 K.out.2.2.2.2.2).1.trans K.out.2.2.1)
    have HS := Lib.hid hs
    have HT := Lib.hid ht
    have ed : D.xb = D'.xb := ht.xb.symm
    have ED := Lib.hid ed
    clear x1 hs ht
    by_cases hlt : k < n
    · have i1 : (k : Int) < n := by omega
      have i2 : k * 80 + 80 ≤ C.size := by rw [hCs]; omega
      have i3 := hCr k hlt
      clear hCs
      go_upto_region 5 with (fail)
      have L := Bx.made wr Rc.zero.cells (rs k).cells 119
      generalize (wr.alloc (.cells Rc.zero.cells 119)).setRow wr.heap.size (rs k).cells = V1 at L ⊢
      have nb0 := (HT.out.keep _ KL.out.1 K.out.2.2.2.1).2
      have nb1 := (HT.out.keep _ KL.out.2.1 K.out.2.2.2.2.1).2
      have dae := hS k wr D' HS.out
      have nb2 : ¬ D'.all wr.heap.size := fun q => absurd (dae.all_lt q) (Nat.lt_irrefl _)
      have T1 : Trans w1 D V1 D' := HT.out.trans (Trans.below L.below)
      have S1 := hl k wr V1 D' HS.out L.below
      have LG := hlog k hlt V1 D' S1 (HBA'.out.trans (Trans.below L.below))
      rw [← ed] at LG
      have LG := Lib.hid LG
      clear ed
      have e0 := (T1.keep _ KL.out.1 K.out.2.2.2.1).1.trans K.out.1
      have e1 := (T1.keep _ KL.out.2.1 K.out.2.2.2.2.1).1.trans K.out.2.1
      have l0 : w.heap.size < V1.heap.size := Nat.lt_of_lt_of_le KL.out.1 T1.size
      have l1 : w.heap.size + 1 < V1.heap.size := Nat.lt_of_lt_of_le KL.out.2.1 T1.size
      have l2 : wr.heap.size < V1.heap.size := (Array.getElem?_eq_some_iff.1 L.row).1
      clear r0 r1 s1 rl i2 i3
      have r0 := rowOf_of e0
      have rb := rowOf_of L.row
      have HX := Lib.hid (And.intro e0 (And.intro e1 (And.intro L.row (And.intro nb0 (And.intro nb1 (And.intro nb2 (And.intro l0 (And.intro l1 l2))))))))
      have HT1 := Lib.hid T1
      have HBV := Lib.hid (HBA'.out.trans (Trans.below L.below))
      clear e0 e1 nb0 nb1 nb2 l0 l1 l2 T1 S1 L dae
      go_wp2_with fail
      refine LG.out.mono ?_
      rintro _ V2 ⟨rfl, D2, s2, t2⟩
      have e0 := (t2.keep _ HX.out.2.2.2.2.2.2.1 HX.out.2.2.2.1).1.trans HX.out.1
      have e1 := (t2.keep _ HX.out.2.2.2.2.2.2.2.1 HX.out.2.2.2.2.1).1.trans HX.out.2.1
      have e2 := (t2.keep _ HX.out.2.2.2.2.2.2.2.2 HX.out.2.2.2.2.2.1).1.trans HX.out.2.2.1
      have nb0 := (t2.keep _ HX.out.2.2.2.2.2.2.1 HX.out.2.2.2.1).2
      have nb1 := (t2.keep _ HX.out.2.2.2.2.2.2.2.1 HX.out.2.2.2.2.1).2
      have nb2 := (t2.keep _ HX.out.2.2.2.2.2.2.2.2 HX.out.2.2.2.2.2.1).2
      clear r0 rb LG
      have r1 := rowOf_of e1
      have s1 := soft_of e1
      have hb3 := below_same (k := 0) (v := .int .i64 0) e1 rfl
      have S2 := Lib.hid s2
      have T2 := Lib.hid t2
      have B3 := Lib.hid hb3
      have HY := Lib.hid (And.intro e0 (And.intro e1 (And.intro e2 (And.intro nb0 (And.intro nb1 nb2)))))
      clear e0 e1 e2 nb0 nb1 nb2 s2 t2 hb3
      go_upto_region 7 with (fail)
      generalize V2.setCell ⟨w.heap.size + 1, 0, none⟩ (.int .i64 0) = V3 at B3 ⊢
      have bd : Below V2.heap.size V2 V3.drew := B3.out.drew
      have S3 := hl' k V2 V3.drew D2 S2.out bd
      have T3 := T2.out.trans (Trans.below bd)
      have AP := Lib.hid (happ k hlt V3.drew D2 S3 (HBV.out.trans T3))
      have e0 := (bd.block _ (Array.getElem?_eq_some_iff.1 HY.out.1).1).trans HY.out.1
      have e1 := (bd.block _ (Array.getElem?_eq_some_iff.1 HY.out.2.1).1).trans HY.out.2.1
      have e2 := (bd.block _ (Array.getElem?_eq_some_iff.1 HY.out.2.2.1).1).trans HY.out.2.2.1
      have r0 : rowOf V3 w.heap.size = _ := rowOf_of e0
      have rb : rowOf V3 wr.heap.size = _ := rowOf_of e2
      have rx := rowOf_of (hS' k V3.drew D2 S3).row
      unfold Dm.cells at rx
      have rx : rowOf V3 D2.xb = _ := rx
      rw [show D2.xb = D.xb from T2.out.xb.trans ED.out.symm] at rx
      have HZ := Lib.hid (And.intro e1 (And.intro (Array.getElem?_eq_some_iff.1 e1).1 HY.out.2.2.2.2.1))
      have HT3 := Lib.hid T3
      clear e0 e1 e2 S3 T3 r1 s1 bd
      (refine wp_region_still_tail 5 (by kernel_rfl) (by kernel_rfl) ?_; simp only [List.take_succ_cons, List.take_zero, List.drop_succ_cons, List.drop_zero]; (iterate 5 still_step); refine wpStill_nil ?_)
      refine (show wpList Tryz.prog _ _ _ _ V3.drew from ?_)
      generalize V3.drew = V4 at *
      clear r0 rb rx S2 T2 HY B3
      go_wp2_with fail
      refine AP.out.mono ?_
      rintro _ V5 ⟨rfl, D3, s3, t3⟩
      have e1 := (t3.keep _ HZ.out.2.1 HZ.out.2.2).1.trans HZ.out.1
      have r1 := rowOf_of e1
      have s1 := soft_of e1
      have hb3 := below_same (k := 0) (v := .int .i64 0) e1 rfl
      have S3 := Lib.hid (hl (k + 1) _ _ _ s3 hb3)
      have T3 := Lib.hid (((HT1.out.trans HT3.out).trans t3).trans (Trans.below hb3))
      clear AP e1 s3 t3 hb3 HBV
      go_wp2_with fail
      refine ⟨⟨k + 1, D3, hlt, rfl, S3.out, T3.out⟩, ?_⟩
      show n - ((k : Int) + 1).toNat < n - (k : Int).toNat
      omega
    · obtain rfl : k = n := by omega
      go_wp2_with fail
      have e0 := (HT.out.keep _ KL.out.1 K.out.2.2.2.1).1.trans K.out.1
      have e1 := (HT.out.keep _ KL.out.2.1 K.out.2.2.2.2.1).1.trans K.out.2.1
      have hb := below_same (k := 0) (v := .int .i64 0) e1 rfl
      have f0 := (hb.block _ (Array.getElem?_eq_some_iff.1 e0).1).trans e0
      have f1 := (hb.block _ (Array.getElem?_eq_some_iff.1 e1).1).trans e1
      have hs := hl k _ _ _ HS.out hb
      have ht := HT0.out.trans (HT.out.trans (Trans.below hb))
      generalize wr.setCell ⟨w.heap.size + 1, 0, none⟩ (.int .i64 0) = V at *
      have hx := (hS k V D' hs).row
      rw [← ed] at hx
      refine leaves_cons (f := 68) (args := #[.pointer (some ⟨w.heap.size, 0, none⟩), .pointer (some ⟨w.heap.size + 1, 0, none⟩)]) (by simp) (by simp [go_sem]) ?_
      refine (keep1_any (xb := D.xb) (C := D'.cells) (by rw [rowOf_cell, rowOf_of f0]; rfl) (by rw [rowOf_cell, rowOf_of f1]; rfl) hx rfl).mono ?_
      rintro e u' w'' ⟨rfl, ⟨v, rfl⟩, hb2⟩
      have g1 := rowOf_of ((hb2.block _ (Array.getElem?_eq_some_iff.1 f1).1).trans f1)
      have g2 := hl k _ _ _ hs hb2
      have g3 := ht.trans (Trans.below hb2)
      simp [Leaves, settle, results, Tryz.results48, go_sem, g1]
      exact ⟨D', g2, g3⟩
end Go.Proofs.YtjkfondgacjpnaaGreatDoor

namespace Go.Proofs.YtjkfondgacjpnaaGreatDoor
open Go.RowKit
open Sx (Ab DW Turns Did Foot)
set_option maxRecDepth 100000

theorem intL_small (u : Nat) (hu : u < 18446744073709551616) : Small (intL u) := by
  unfold intL
  split
  · intro x hx
    have := List.mem_singleton.1 hx
    omega
  · split
    · exact fun x hx => (List.mem_cons.1 hx).elim (fun e => by omega) (les_small _ _ x)
    · split
      · exact fun x hx => (List.mem_cons.1 hx).elim (fun e => by omega) (les_small _ _ x)
      · exact fun x hx => (List.mem_cons.1 hx).elim (fun e => by omega) (les_small _ _ x)
theorem intI_small (x : Int) : Small (intI x) := intL_small _ (by omega)
theorem intsL_small (xs : List Int) : Small (intsL xs) := fun x hx => by
  obtain ⟨y, _, hy⟩ := List.mem_flatMap.1 hx
  exact intI_small y x hy
theorem putD_ok {d : Dl} (h : Small d.h.l) : RowOk (1, putD d) :=
  ⟨by show (1 : Int) ≤ 1; decide, by show (1 : Int) < 255; decide, by have := putD_len d; show (putD d).length ≤ 400; omega, (((intsL_small _).append (intsL_small _)).append h).append (intsL_small _)⟩
theorem putS_ok {i : Int} {h : Hs} (hs : Small h.l) : RowOk (1, putS i h) :=
  ⟨by show (1 : Int) ≤ 1; decide, by show (1 : Int) < 255; decide, by have := putS_len i h; show (putS i h).length ≤ 400; omega, (intsL_small _).append hs⟩
theorem npc_D (d : Dl) : npc (rowF (1, putD d)) ≤ 2 := by
  have := putD_len d
  unfold npc
  rw [rowF_len]
  show ((putD d).length + 7 + 126) / 127 ≤ 2
  omega
theorem npc_S (i : Int) (h : Hs) : npc (rowF (1, putS i h)) ≤ 1 := by
  have := putS_len i h
  unfold npc
  rw [rowF_len]
  show ((putS i h).length + 7 + 126) / 127 ≤ 1
  omega
structure Lies (w : World) (D : Dm) (P : List (Int × En) → Prop) (R : List (Int × List Nat)) : Prop where
  dae : Dae w D
  book : P D.M
  rows : D.R = R
  cal : D.cal = true
theorem Lies.low {w w' : World} {D : Dm} {P : List (Int × En) → Prop} {R : List (Int × List Nat)} (h : Lies w D P R) (hb : Below w.heap.size w w') : Lies w' D P R := ⟨h.dae.below hb, h.book, h.rows, h.cal⟩
theorem putFoot {bk mb : Nat} {M : List (Int × En)} {k : Int} {e : En} {i : Nat} (h : FootB bk mb (putA M k e) i 0) : FootB bk mb M i 0 ∨ i = e.b ∨ i = e.m := by
  rcases h with h | h | ⟨p, hp, h⟩
  · exact .inl (.inl h)
  · exact .inl (.inr (.inl h))
  · rcases putA_mem hp with rfl | hp
    · exact .inr h
    · exact .inl (.inr (.inr ⟨p, hp, h⟩))
theorem log_D {w : World} {D : Dm} {d : Dl} (hd : dealOk d = true) (hs : Small d.h.l) {P : List (Int × En) → Prop} {R : List (Int × List Nat)} (h : Lies w D P R) (hB : Base w D) (hR : (secL R).length ≤ 250) :
    Calls Tryz.prog 69 #[.pointer (some ⟨D.xb, 0, none⟩), .agg (rcD d).cells] w fun e w' => e = .returned (.int .i64 0) ∧ ∃ D', Lies w' D' P (R ++ [(1, putD d)]) ∧ Trans w D w' D' := by
  have := npc_D d
  refine (log_any h.dae h.cal hB.forms (fun w hf => Put_D hf hd) (putD_ok hs) (by rw [h.rows]; omega)).mono ?_
  rintro e w' ⟨rfl, F', A', j', q1, q2⟩
  exact ⟨rfl, _, ⟨q1, h.book, by rw [← h.rows], h.cal⟩, q2⟩
theorem log_S {w : World} {D : Dm} {i : Int} {s : Hs} (hi : wi i 1 1073741824 = true) (hs : Small s.l) {P : List (Int × En) → Prop} {R : List (Int × List Nat)} (h : Lies w D P R) (hB : Base w D) (hR : (secL R).length ≤ 250) :
    Calls Tryz.prog 69 #[.pointer (some ⟨D.xb, 0, none⟩), .agg (rcS i s).cells] w fun e w' => e = .returned (.int .i64 0) ∧ ∃ D', Lies w' D' P (R ++ [(1, putS i s)]) ∧ Trans w D w' D' := by
  have := npc_S i s
  refine (log_any h.dae h.cal hB.forms (fun w hf => Put_S hf hi) (putS_ok hs) (by rw [h.rows]; omega)).mono ?_
  rintro e w' ⟨rfl, F', A', j', q1, q2⟩
  exact ⟨rfl, _, ⟨q1, h.book, by rw [← h.rows], h.cal⟩, q2⟩
theorem putA_twice (M : List (Int × En)) (i : Int) (a b : En) : putA (putA M i a) i b = putA M i b := by
  induction M with
  | nil => simp [putA]
  | cons p M ih =>
    obtain ⟨k, x⟩ := p
    unfold putA
    by_cases h : i = k
    · simp [h, putA]
    · simp [h, putA, ih]
def With (M : List (Int × En)) (i : Int) (s : Sw) (M' : List (Int × En)) : Prop := ∃ b m, M' = putA M i ⟨b, m, s⟩
theorem app_D {w : World} {D : Dm} {d : Dl} (hd : dealOk d = true) {M : List (Int × En)} (hf : getA M d.i = none) (hl : M.length < 16) {R : List (Int × List Nat)} (h : Lies w D (· = M) R) :
    Calls Tryz.prog 70 #[.pointer (some ⟨D.bk, 0, none⟩), .agg (rcD d).cells] w fun e w' => e = .returned (.int .i64 0) ∧ ∃ D', Lies w' D' (With M d.i ⟨d, 1, false, Hs.zero⟩) R ∧ Trans w D w' D' := by
  obtain ⟨hda, rfl, rfl, hc⟩ := h
  refine (Apply_D hda.bok hd hf hl).mono ?_
  rintro e w' ⟨rfl, be, bm, q1, q2, q3, q4⟩
  have hM : ∀ i, FootB D.bk D.mb (putA D.M d.i ⟨be, bm, ⟨d, 1, false, Hs.zero⟩⟩) i 0 → FootB D.bk D.mb D.M i 0 ∨ w.heap.size ≤ i := fun i hi => by
    rcases putFoot hi with h1 | rfl | rfl
    · exact .inl h1
    · exact .inr q3
    · exact .inr q4
  exact ⟨rfl, _, ⟨hda.booked q1 q2 (.inr (.inl rfl)) hM, ⟨be, bm, rfl⟩, rfl, hc⟩, Trans.booked q2 (.inr (.inl rfl)) hM⟩
theorem app_S {w : World} {D : Dm} {i : Int} {d : Dl} {s : Hs} (hi : wi i 1 1073741824 = true) {M : List (Int × En)} (hs : sumH s.l = d.h) (hB : Base w D) {R : List (Int × List Nat)} (h : Lies w D (With M i ⟨d, 1, false, Hs.zero⟩) R) :
    Calls Tryz.prog 70 #[.pointer (some ⟨D.bk, 0, none⟩), .agg (rcS i s).cells] w fun e w' => e = .returned (.int .i64 0) ∧ ∃ D', Lies w' D' (With M i ⟨d, 1, true, s⟩) R ∧ Trans w D w' D' := by
  obtain ⟨hda, ⟨be, bm, hM⟩, rfl, hc⟩ := h
  have hg : getA D.M i = some ⟨be, bm, ⟨d, 1, false, Hs.zero⟩⟩ := by rw [hM, getA_put, if_pos rfl]
  refine (Apply_S hB.tabs hda.bok hi hg (s := s) rfl hs).mono ?_
  rintro e w' ⟨rfl, q1, q2⟩
  have hin : FootB D.bk D.mb D.M be 0 := .inr (.inr ⟨_, getA_mem hg, .inl rfl⟩)
  have hin2 : FootB D.bk D.mb D.M bm 0 := .inr (.inr ⟨_, getA_mem hg, .inr rfl⟩)
  have hMM : ∀ j, FootB D.bk D.mb (putA D.M i ⟨be, bm, ⟨d, 1, true, s⟩⟩) j 0 → FootB D.bk D.mb D.M j 0 ∨ w.heap.size ≤ j := fun j hj => by
    rcases putFoot hj with h1 | rfl | rfl
    · exact .inl h1
    · exact .inl hin
    · exact .inl hin2
  refine ⟨rfl, _, ⟨hda.booked q1 q2 hin hMM, ⟨be, bm, ?_⟩, rfl, hc⟩, Trans.booked q2 hin hMM⟩
  show putA D.M i _ = putA M i _
  rw [hM]
  exact putA_twice M i _ _
theorem sub_whole (r : Rc) : sub r.cells (0 * 80) 80 = r.cells := by rw [Nat.zero_mul]; exact r_whole r
theorem keep_deal {w : World} {D : Dm} {d : Dl} (hd : dealOk d = true) (hs : Small d.h.l) {M : List (Int × En)} (hf : getA M d.i = none) (hl : M.length < 16) {R : List (Int × List Nat)} (hR : (secL R).length ≤ 250) (h : Lies w D (· = M) R) (hB : Base w D) {lb : Nat} (hlb : w.heap[lb]? = some (.cells (rcD d).cells 119)) (hna : ¬ D.all lb) :
    Calls Tryz.prog 48 #[.pointer (some ⟨D.xb, 0, none⟩), .slice (some ⟨lb, 0, none⟩) 1 1] w fun e w' => e = .returned (.int .i64 0) ∧ ∃ D', Lies w' D' (With M d.i ⟨d, 1, false, Hs.zero⟩) (R ++ [(1, putD d)]) ∧ Trans w D w' D' :=
  keep_any (n := 1) (by decide) (rs := fun _ => rcD d) (S := fun k w D => if k = 0 then Lies w D (· = M) R else Lies w D (With M d.i ⟨d, 1, false, Hs.zero⟩) (R ++ [(1, putD d)])) (S' := fun _ w D => Lies w D (· = M) (R ++ [(1, putD d)]))
    (fun k w D h => by split at h <;> exact h.dae) (fun k w D h => h.dae) (fun k w w' D h hb => by split at h <;> rename_i q <;> (first | (rw [if_pos q]; exact h.low hb) | (rw [if_neg q]; exact h.low hb))) (fun k w w' D h hb => h.low hb)
    (fun k hk w D h hB => by
      obtain rfl : k = 0 := by omega
      exact log_D hd hs h hB hR)
    (fun k hk w D h hB => by
      obtain rfl : k = 0 := by omega
      exact app_D hd hf hl h)
    h hB hlb (r_size _) (fun k hk => by
      obtain rfl : k = 0 := by omega
      exact sub_whole _) hna
theorem keep_both {w : World} {D : Dm} {d : Dl} {s : Hs} (hd : dealOk d = true) (hs : Small d.h.l) (hss : Small s.l) (hsum : sumH s.l = d.h) {M : List (Int × En)} (hf : getA M d.i = none) (hl : M.length < 16) {R : List (Int × List Nat)} (hR : (secL R).length ≤ 240) (h : Lies w D (· = M) R) (hB : Base w D) {lb : Nat} {C : Array Value} (hC : C = ((rcD d).list ++ (rcS d.i s).list).toArray) (hlb : w.heap[lb]? = some (.cells C 119)) (hna : ¬ D.all lb) :
    Calls Tryz.prog 48 #[.pointer (some ⟨D.xb, 0, none⟩), .slice (some ⟨lb, 0, none⟩) 2 2] w fun e w' => e = .returned (.int .i64 0) ∧ ∃ D', Lies w' D' (With M d.i ⟨d, 1, true, s⟩) (R ++ [(1, putD d)] ++ [(1, putS d.i s)]) ∧ Trans w D w' D' :=
  keep_any (n := 2) (by decide) (rs := fun k => if k = 0 then rcD d else rcS d.i s)
    (S := fun k w D => if k = 0 then Lies w D (· = M) R else if k = 1 then Lies w D (With M d.i ⟨d, 1, false, Hs.zero⟩) (R ++ [(1, putD d)]) else Lies w D (With M d.i ⟨d, 1, true, s⟩) (R ++ [(1, putD d)] ++ [(1, putS d.i s)]))
    (S' := fun k w D => if k = 0 then Lies w D (· = M) (R ++ [(1, putD d)]) else Lies w D (With M d.i ⟨d, 1, false, Hs.zero⟩) (R ++ [(1, putD d)] ++ [(1, putS d.i s)]))
    (fun k w D h => by split at h <;> (try split at h) <;> exact h.dae) (fun k w D h => by split at h <;> exact h.dae)
    (fun k w w' D h hb => by split at h <;> rename_i q <;> (first | (rw [if_pos q]; exact h.low hb) | (rw [if_neg q]; split at h <;> rename_i q2 <;> (first | (rw [if_pos q2]; exact h.low hb) | (rw [if_neg q2]; exact h.low hb))))) (fun k w w' D h hb => by split at h <;> rename_i q <;> (first | (rw [if_pos q]; exact h.low hb) | (rw [if_neg q]; exact h.low hb)))
    (fun k hk w D h hB => by
      have hk2 : k = 0 ∨ k = 1 := by omega
      rcases hk2 with rfl | rfl
      · exact log_D hd hs h hB (by omega)
      · refine log_S (dealOk_id hd) hss h hB ?_
        rw [secL_append, secL_one, List.length_append, secs_len]
        have := npc_D d
        omega)
    (fun k hk w D h hB => by
      have hk2 : k = 0 ∨ k = 1 := by omega
      rcases hk2 with rfl | rfl
      · exact app_D hd hf hl h
      · exact app_S (dealOk_id hd) hsum hB h)
    h hB hlb (by rw [hC]; simp [r_len]) (fun k hk => by
      have hk2 : k = 0 ∨ k = 1 := by omega
      rcases hk2 with rfl | rfl
      · exact sub_at [] (rcD d).list (rcS d.i s).list rfl (r_len _) (by rw [hC]; simp)
      · exact sub_at (rcD d).list (rcS d.i s).list [] (r_len _) (r_len _) (by rw [hC]; simp)) hna
end Go.Proofs.YtjkfondgacjpnaaGreatDoor

namespace Go.Proofs.YtjkfondgacjpnaaGreatDoor
open Go.RowKit
open Sx (Ab DW Turns Did Foot)
set_option maxRecDepth 100000
theorem bsl1 (w : World) (r : Rc) : (Instr.buildSlice 158 1 #[(0, .agg r.cells)]).run Tryz.prog w = .ok (.slice (some ⟨w.heap.size, 0, none⟩) 1 1) (w.alloc (.cells r.cells 119)) := by
  obtain ⟨k, i, ⟨di, dr, p, g, h, q⟩, s, mv, st, t⟩ := r
  obtain ⟨f, rfl⟩ := h.form
  obtain ⟨f2, rfl⟩ := s.form
  kernel_rfl
theorem bsl2 (w : World) (r r' : Rc) : (Instr.buildSlice 158 2 #[(0, .agg r.cells), (1, .agg r'.cells)]).run Tryz.prog w = .ok (.slice (some ⟨w.heap.size, 0, none⟩) 2 2) (w.alloc (.cells (r.list ++ r'.list).toArray 119)) := by
  obtain ⟨k, i, ⟨di, dr, p, g, h, q⟩, s, mv, st, t⟩ := r
  obtain ⟨f, rfl⟩ := h.form
  obtain ⟨f2, rfl⟩ := s.form
  obtain ⟨k', i', ⟨di', dr', p', g', h', q'⟩, s', mv', st', t'⟩ := r'
  obtain ⟨f', rfl⟩ := h'.form
  obtain ⟨f2', rfl⟩ := s'.form
  kernel_rfl
def rOf (v : Value) : Rc := ⟨iAt v 0, iAt v 1, dOf (.agg (sub (agc v) 2 41)), hOf (.agg (sub (agc v) 43 32)), iAt v 75, iAt v 76, Tv.zero⟩
theorem rOf_mk (k i : Int) (d : Dl) (s : Hs) (mv st : Int) : rOf (.agg (Rc.cells ⟨k, i, d, s, mv, st, Tv.zero⟩)) = ⟨k, i, d, s, mv, st, Tv.zero⟩ := by
  have e1 : sub (agc (.agg (Rc.cells ⟨k, i, d, s, mv, st, Tv.zero⟩))) 2 41 = d.cells := r_d _
  have e2 : sub (agc (.agg (Rc.cells ⟨k, i, d, s, mv, st, Tv.zero⟩))) 43 32 = s.cells := r_s _
  have e3 : iAt (.agg (Rc.cells ⟨k, i, d, s, mv, st, Tv.zero⟩)) 75 = mv := by show (match (Rc.cells ⟨k, i, d, s, mv, st, Tv.zero⟩)[75]? with | some (.int _ n) => n | _ => 0) = _; rw [r_75]
  have e4 : iAt (.agg (Rc.cells ⟨k, i, d, s, mv, st, Tv.zero⟩)) 76 = st := by show (match (Rc.cells ⟨k, i, d, s, mv, st, Tv.zero⟩)[76]? with | some (.int _ n) => n | _ => 0) = _; rw [r_76]
  unfold rOf
  rw [e1, e2, e3, e4, dOf_mk, hOf_mk]
  rfl
theorem rOf_D (d : Dl) : rOf (.agg (rcD d).cells) = rcD d := rOf_mk _ _ _ _ _ _
theorem rOf_S (i : Int) (h : Hs) : rOf (.agg (rcS i h).cells) = rcS i h := rOf_mk _ _ _ _ _ _
theorem rcD_eq (d : Dl) : Rc.cells ⟨1, d.i, d, Hs.zero, 0, 0, Tv.zero⟩ = (rcD d).cells := rfl
theorem rcS_eq (i : Int) (h : Hs) : Rc.cells ⟨2, i, Dl.zero, h, 0, 0, Tv.zero⟩ = (rcS i h).cells := rfl
section
variable (w : World) (ρ : Operand → Value) (dst : Option Tmp) (ty : TypeId) (pos : String) (af : Array Edge) (gd : Option (Nat × Bool))
theorem ebl1 (x : Operand) (hx : ρ x = .agg (rOf (ρ x)).cells) : (execOp ρ ⟨dst, .buildSlice 158 1 #[(0, x)], ty, pos, af, gd⟩).run Tryz.prog w = .ok (.value (.slice (some ⟨w.heap.size, 0, none⟩) 1 1)) (w.alloc (.cells (rOf (ρ x)).cells 119)) := by
  have h := bsl1 w (rOf (ρ x))
  rw [← hx] at h
  unfold execOp
  simp only [Sem.run_bind, Sem.run_pure, List.map_toArray, List.map_cons, List.map_nil, h, Result.andThen_ok]
theorem ebl2 (x y : Operand) (hx : ρ x = .agg (rOf (ρ x)).cells) (hy : ρ y = .agg (rOf (ρ y)).cells) : (execOp ρ ⟨dst, .buildSlice 158 2 #[(0, x), (1, y)], ty, pos, af, gd⟩).run Tryz.prog w = .ok (.value (.slice (some ⟨w.heap.size, 0, none⟩) 2 2)) (w.alloc (.cells ((rOf (ρ x)).list ++ (rOf (ρ y)).list).toArray 119)) := by
  have h := bsl2 w (rOf (ρ x)) (rOf (ρ y))
  rw [← hx, ← hy] at h
  unfold execOp
  simp only [Sem.run_bind, Sem.run_pure, List.map_toArray, List.map_cons, List.map_nil, h, Result.andThen_ok]
theorem ebrDk (A : Act) (y z : Operand) (hy : A.eval y = .int .i64 (iv (A.eval y))) (hz : A.eval z = .agg (dOf (A.eval z)).cells) : (execOp A.eval ⟨dst, .build 119 #[(0, .const (.int .i64 1)), (1, y), (2, z)], ty, pos, af, gd⟩).run Tryz.prog w = .ok (.value (.agg (Rc.cells ⟨1, iv (A.eval y), dOf (A.eval z), Hs.zero, 0, 0, Tv.zero⟩))) w :=
  ebr2 w A.eval dst ty pos af gd (.const (.int .i64 1)) y z rfl hy hz
theorem ebrSk (A : Act) (y z : Operand) (hy : A.eval y = .int .i64 (iv (A.eval y))) (hz : A.eval z = .agg (hOf (A.eval z)).cells) : (execOp A.eval ⟨dst, .build 119 #[(0, .const (.int .i64 2)), (1, y), (3, z)], ty, pos, af, gd⟩).run Tryz.prog w = .ok (.value (.agg (Rc.cells ⟨2, iv (A.eval y), Dl.zero, hOf (A.eval z), 0, 0, Tv.zero⟩))) w :=
  ebr3 w A.eval dst ty pos af gd (.const (.int .i64 2)) y z rfl hy hz
theorem ebmRk (A : Act) (y z : Operand) (hy : A.eval y = .int .i64 (iv (A.eval y))) (hz : A.eval z = .int .i64 (iv (A.eval z))) : (execOp A.eval ⟨dst, .build 67 #[(0, .const (.int .i64 3)), (1, y), (2, z)], ty, pos, af, gd⟩).run Tryz.prog w = .ok (.value (.agg (msgR (iv (A.eval y)) (iv (A.eval z))).cells)) w :=
  ebm3 w A.eval dst ty pos af gd (.const (.int .i64 3)) y z rfl hy hz
end
attribute [local go_sem ↓] rowOf_cell ebl1 ebl2 ebrDk ebrSk ebmRk
attribute [local go_sem] rowOf_alloc soft_alloc rowOf_drew soft_drew rowOf_setRow soft_setRow rOf_D rOf_S rcD_eq rcS_eq
def RetB (L : List Nat) (w : World) : Ending → World → Prop := fun e w' => ∃ ao c, e = .returned (.slice ao L.length c) ∧ Below w.heap.size w w' ∧ Sl w' ao L.length c (bts L)
theorem refusal_call {w : World} (hf : Forms w) {i c : Int} (he : idE i (refE c) = 0) : Calls Tryz.prog 78 #[.int .i64 i, .int .i64 c] w (RetB (putC i c) w) := by
  obtain ⟨hi, hc⟩ := idE_in he
  have hc2 : 1 ≤ c ∧ c ≤ 24 := by unfold refE at hc; split at hc <;> omega
  have P := Lib.hid (MPut_code hf he ⟨by omega, by omega⟩ ⟨by omega, by omega⟩)
  clear hf he hi hc hc2
  go_enter Tryz.func78, Tryz.ntmps78
  go_wp2_with fail
  refine P.out.mono ?_
  rintro _ W ⟨ao, c, rfl, hb, ho⟩
  have HB := Lib.hid hb
  have HO := Lib.hid (Sl.own ho)
  clear hb ho P
  go_wp2
  go_ret
  exact ⟨ao, c, rfl, HB.out, HO.out⟩
end Go.Proofs.YtjkfondgacjpnaaGreatDoor
