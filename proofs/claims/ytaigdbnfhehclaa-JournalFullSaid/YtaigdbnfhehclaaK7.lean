/- What is proved: the walk of JournalKnown. No condition but those each law names. -/
import Derived.Test.YtaigdbnfhehclaaQE
import Derived.Test.YtaigdbnfhehclaaK4
namespace Go.Proofs.Ytaigdbnfhehclaa
open Go.RowKit
open Sx (Ab DW Turns Did Foot z128 padN CrashTo)
set_option maxRecDepth 100000

theorem Compact_ok {w : World} {F : Foot} {dv : Value} {A : Ab} {b : Nat} {j : Jr} {R : List (Int × List Nat)} (h : JD w F dv A b j) (hH : Holds A j R) (hc : Calm A) {ao : Option Addr} {n c : Nat} {L : List Fm} (hR : RowsOk (told L)) (hfit : (secL (told L)).length ≤ 255)
    (ht : j.turn + 1 < 4611686018427387904) (hf : FrA w (Fb F b) ao n c L) (hfl : ∀ k o, ao = some ⟨k, o, none⟩ → k < w.heap.size) (hbl : ∀ f ∈ L, ∀ k o, f.ao = some ⟨k, o, none⟩ → k < w.heap.size) (hn : n ≤ 100000) :
    Calls Try.prog 21 #[.pointer (some ⟨b, 0, none⟩), .slice ao n c] w fun e w' => e = .returned (.int .i64 0) ∧ ∃ F' A' j', JD w' F' dv A' b j' ∧ Went F b w F' w' ∧ Holds A' j' (told L) ∧ Calm A' ∧ j' = ⟨256 - j.first, 256 - j.first + 1 + (secL (told L)).length, j.turn + 1, false⟩ ∧
      ∀ s, j.first ≤ s → s < j.first + 256 → A'.see s = A.see s := by
  obtain ⟨h1, h2, h3, h4, h5⟩ := hH.compact hc hR hfit ht
  have t1 := hH.half.t.1
  have hs : ∀ f ∈ L, Small f.body ∧ f.body.length < 1099511627776 := fun f hm => by
    have := hR (f.kind, f.body) (by unfold told; exact List.mem_map_of_mem (f := fun f : Fm => (f.kind, f.body)) hm)
    exact ⟨this.2.2.2, by have := this.2.2.1; simp only at this; omega⟩
  refine (Compact_any h hH.half.okJ (by omega) (by omega) hf hfl hbl hs hn).mono ?_
  rintro e w' ⟨rfl, F', q1, q2⟩
  rw [h1]
  exact ⟨rfl, F', _, _, q1, q2, h2, h3, h4, h5⟩
theorem Append_no {w : World} {F : Foot} {dv : Value} {A : Ab} {b : Nat} {j : Jr} (h : JD w F dv A b j) (hj : j.Ok) (hd : j.dead = false) (hc : Calm A) {kind er : Int} {ao : Option Addr} {n c : Nat} {l : List Nat} (hl : Sl w ao n c (bts l)) (hs : Small l) (hn : n < 1099511627776) (hap : Apart w F b ao)
    (he : laidE kind l.length = er) (h0 : er ≠ 0) : Calls Try.prog 9 #[.pointer (some ⟨b, 0, none⟩), .int .i64 kind, .slice ao n c] w fun e w' => e = .returned (.int .i64 er) ∧ ∃ F', JD w' F' dv A b j ∧ Went F b w F' w' := by
  have g : (j.dead || A.off) = false := by rw [hd, hc.on]; rfl
  have e1 : appE A j kind l = er := by unfold appE; rw [g, he]; simp [h0]
  have e2 : appA A j kind l = A := by unfold appA; rw [g, he]; simp [h0]
  have e3 : appJ A j kind l = j := by unfold appJ; rw [g, he]; simp [h0]
  refine (Append_any h hj kind hl hs hn hap).mono ?_
  rintro e w' ⟨rfl, F', q1, q2⟩
  rw [e2, e3] at q1
  rw [e1]
  exact ⟨rfl, F', q1, q2⟩
theorem apart_none (w : World) (F : Foot) (b : Nat) : Apart w F b none := fun k o e => by cases e
theorem make401 (w : World) : (Instr.makeSlice 32 (.int .i64 401) (.int .i64 401)).run Try.prog w = .ok (.slice (some ⟨w.heap.size, 0, none⟩) 401 401) (w.alloc (.cells (bts (List.replicate 401 0)).toArray 5)) := by
  obtain ⟨i, hi, h1, h2, h3⟩ := info_parts (show (Try.prog.info? 5).map (fun i => (i.zero, i.size, i.bytes)) = some (some (.int .u8 0), 1, 1) by kernel_rfl)
  have := run_make (P := Try.prog) w 32 5 i (.int .u8 0) Try.underlying32 hi h1 .i64 .i64 401 401 (by decide) (Int.le_refl _) (by rw [h3]; decide) (by decide)
  rw [h2] at this
  have hz : madeCells (Value.int .u8 0).cells ((401 : Int).toNat * 1) = (bts (List.replicate 401 0)).toArray := by kernel_rfl
  rw [hz] at this
  exact this
theorem turnL_one : turnL (padN [1]) = 0 := by
  unfold turnL
  exact if_pos (by decide +kernel)
/-- The half that was laid first is read again. -/
theorem old_again {A3 A4 : Ab} {R : List (Int × List Nat)} {j : Jr} (h3 : Holds A3 j R) (hf : j.first = 0) (hsm : Ab.Sm A4) (hc : Calm A4) (hsee : ∀ s, 0 ≤ s → s < 0 + 256 → A4.see s = A3.see s) :
    Holds (A4.put 256 [1]).sy j R ∧ Calm (A4.put 256 [1]).sy ∧ turnA (A4.put 256 [1]).sy 256 = 0 := by
  have hs : ∀ k, (A4.put 256 [1]).sy.see k = if k = 256 then some (padN [1]) else A4.see k := fun k => by rw [sy_see, put_see]
  have hsm2 : Ab.Sm (A4.put 256 [1]).sy := sm_sy (sm_put hsm _ (fun x hx => by simp at hx; omega))
  have hat := h3.half.at_
  have hr : ∀ s, j.at_ ≤ s → s < j.first + 256 → (A4.put 256 [1]).sy.see s = some z128 := fun s q1 q2 => by
    rw [hs, if_neg (by omega), hsee s (by omega) (by omega)]
    exact h3.rest s q1 q2
  have hT : turnA (A4.put 256 [1]).sy 256 = 0 := by
    unfold turnA
    rw [hs, if_pos rfl]
    exact turnL_one
  refine ⟨⟨h3.half.congr hsm2 (by rw [hs, hf, if_neg (by decide), hsee 0 (by decide) (by decide)]) (fun s q1 q2 => by
      have := h3.half.len
      rw [hs, if_neg (by omega), hsee s (by omega) (by omega)]) hr ?_, fun k => rfl, hr⟩, (hc.put 256 [1]).sy, hT⟩
  have t1 := h3.half.t.1
  rw [hf, show (256 : Int) - 0 = 256 from rfl, hT]
  omega
theorem spoilt_head {A5 : Ab} {j : Jr} {r : Int × List Nat} {R : List (Int × List Nat)} (h5 : Holds A5 j (r :: R)) (hf : j.first = 0) (hc : Calm A5) (h1 : turnA A5 256 = 0) : (openP (A5.put 0 []).sy) = ⟨6, (A5.put 0 []).sy, newJ, []⟩ := by
  have hs : ∀ k, (A5.put 0 []).sy.see k = if k = 0 then some (padN []) else A5.see k := fun k => by rw [sy_see, put_see]
  have e0 : turnA (A5.put 0 []).sy 0 = 0 := turnA_z (by rw [hs, if_pos rfl]; rfl)
  have e1 : turnA (A5.put 0 []).sy 256 = 0 := by rw [turnA_see (show (A5.put 0 []).sy.see 256 = A5.see 256 by rw [hs, if_neg (by decide)]), h1]
  have hp : pickT (A5.put 0 []).sy = 0 := by unfold pickT; rw [e0, e1]; rfl
  have hb := h5.half.body 0 (padN (pc (rowF r) 0)) (by rw [secL_cons, List.getElem?_append_left (by rw [secs_len]; exact npc_pos r)]; exact secs_get r (npc_pos r))
  have hcl : cleanB (A5.put 0 []).sy = false := by
    unfold cleanB
    rw [List.all_eq_false]
    refine ⟨1, List.mem_range.2 (by decide), ?_⟩
    unfold goodS
    have e : (A5.put 0 []).sy.see ((1 : Nat) : Int) = some (padN (pc (rowF r) 0)) := by
      rw [hs, if_neg (by decide), ← hb, hf]
      rfl
    rw [e]
    have hne : padN (pc (rowF r) 0) ≠ z128 := fun q => by
      have t : (padN (pc (rowF r) 0)).getD 0 0 = z128.getD 0 0 := by rw [q]
      rw [sec_head] at t
      exact absurd t (by decide)
    simp [hne]
  unfold openP
  rw [if_neg (by show ¬ A5.off = true; rw [hc.on]; decide), if_pos hp, if_pos hcl]
/-- A disk armed so that its next write fails. -/
theorem arm_fails {A : Ab} {j : Jr} {R : List (Int × List Nat)} (h : Holds A j R) (hc : Calm A) (hfit : (secL R).length + 1 ≤ 255) : appE (A.arm 0) j 1 [] = 9 ∧ (appA (A.arm 0) j 1 []).off = true ∧ Ab.Sm (appA (A.arm 0) j 1 []) := by
  have hr : RowOk (1, []) := ⟨by decide, by decide, by decide, fun x hx => by cases hx⟩
  obtain ⟨e1, e2⟩ := laid_ok hr
  have hn : npc (rowF (1, [])) = 1 := by unfold npc; rw [rowF_len]; rfl
  have g : (j.dead || (A.arm 0).off) = false := by
    show (j.dead || A.off) = false
    rw [h.half.live, hc.on]; rfl
  have ha := h.half.at_
  have hroom : ¬ j.first + 256 - j.at_ < (npc (rowF (1, [])) : Nat) := by rw [hn]; omega
  have hL : appL j 1 [] = [.wr j.at_ (pc (rowF (1, [])) 0), .sy] := by
    unfold appL
    rw [e2]
    have : pcs (rowF (1, [])) = [pc (rowF (1, [])) 0] := by unfold pcs; rw [hn]; rfl
    rw [this, wrs_cons]
    rfl
  have hw : (A.arm 0).wrE j.at_ (pc (rowF (1, [])) 0) = 9 := by
    unfold Sx.Ab.wrE
    rw [if_neg (by show ¬ A.off = true; rw [hc.on]; decide)]
    exact if_pos (by rfl)
  have hwA : (A.arm 0).wr j.at_ (pc (rowF (1, [])) 0) = ((A.arm 0).put j.at_ (pc (rowF (1, [])) 0)).strA := by
    unfold Sx.Ab.wr
    rw [if_neg (by show ¬ A.off = true; rw [hc.on]; decide)]
  have hE : stpsE (appL j 1 []) (A.arm 0) = 9 := by
    rw [hL]
    show (if (A.arm 0).wrE j.at_ _ = 0 then _ else (A.arm 0).wrE j.at_ _) = 9
    rw [hw]; rfl
  have hA : stpsA (appL j 1 []) (A.arm 0) = ((A.arm 0).put j.at_ (pc (rowF (1, [])) 0)).strA := by
    rw [hL]
    show (if (A.arm 0).wrE j.at_ _ = 0 then _ else (A.arm 0).wr j.at_ _) = _
    rw [hw, hwA]; rfl
  refine ⟨?_, ?_, ?_⟩
  · unfold appE; rw [g, e1, e2]; simp [hroom, hE]
  · unfold appA; rw [g, e1, e2]; simp [hroom, hA]; rfl
  · have : appA (A.arm 0) j 1 [] = ((A.arm 0).put j.at_ (pc (rowF (1, [])) 0)).strA := by unfold appA; rw [g, e1, e2]; simp [hroom, hA]
    rw [this]
    have hsm : Ab.Sm (A.arm 0) := fun k l hl => h.half.sm k l hl
    exact sm_strA (sm_put hsm _ (pcs_small hr (by unfold pcs; rw [hn]; simp)))
theorem fr_one {w : World} {F : Foot} {dv : Value} {A : Ab} {b : Nat} {j : Jr} (h : JD w F dv A b j) (kind : Int) (l : List Nat) (n : Nat) (hl : l.length = n) :
    FrA ((w.alloc (.cells (bts l).toArray 5)).alloc (.cells #[.int .i64 kind, .slice (some ⟨w.heap.size, 0, none⟩) n n] 51)) (Fb F b) (some ⟨w.heap.size + 1, 0, none⟩) 1 1 [⟨kind, l, some ⟨w.heap.size, 0, none⟩, n⟩] ∧
      (∀ k o, some (⟨w.heap.size + 1, 0, none⟩ : Addr) = some ⟨k, o, none⟩ → k < ((w.alloc (.cells (bts l).toArray 5)).alloc (.cells #[.int .i64 kind, .slice (some ⟨w.heap.size, 0, none⟩) n n] 51)).heap.size) ∧
      ∀ f ∈ [(⟨kind, l, some ⟨w.heap.size, 0, none⟩, n⟩ : Fm)], ∀ k o, f.ao = some ⟨k, o, none⟩ → k < ((w.alloc (.cells (bts l).toArray 5)).alloc (.cells #[.int .i64 kind, .slice (some ⟨w.heap.size, 0, none⟩) n n] 51)).heap.size := by
  have hsz : (w.alloc (.cells (bts l).toArray 5)).heap.size = w.heap.size + 1 := by simp
  have hlt := h.lt
  have hF : ∀ k, w.heap.size ≤ k → ∀ x, ¬ Fb F b k x := fun k hk x hx => hx.elim (fun h2 => absurd (h.dw.lt h2) (by omega)) fun h2 => by omega
  refine ⟨⟨⟨rfl, Nat.le_refl _, (fun e => by cases e), fun i f hf => ?_⟩, fun k o e => ?_, fun f hf k o e => ?_⟩, fun k o e => ?_, fun f hf k o e => ?_⟩
  · match i, hf with
    | 0, hf =>
      cases hf
      refine ⟨w.heap.size + 1, 0, rfl, ?_, ?_, ?_⟩
      · have := new_cells (w.alloc (.cells (bts l).toArray 5)) #[.int .i64 kind, .slice (some ⟨w.heap.size, 0, none⟩) n n] 51 0 _ rfl
        rw [hsz] at this
        exact this
      · have := new_cells (w.alloc (.cells (bts l).toArray 5)) #[.int .i64 kind, .slice (some ⟨w.heap.size, 0, none⟩) n n] 51 1 _ rfl
        rw [hsz] at this
        unfold Fm.val
        simp only
        rw [hl]
        exact this
      · have h1 : Sl (w.alloc (.cells (bts l).toArray 5)) (some ⟨w.heap.size, 0, none⟩) n n (bts l) := sl_marked w (bts l).toArray 5 n w.heap.size (0, 0) rfl (by simp [bts_length, hl])
        simp only
        rw [hl]
        exact h1.keep (Nat.le_refl _) (below1 _ _)
  · cases e; exact hF _ (by omega)
  · rw [List.mem_singleton] at hf
    subst hf
    cases e; exact hF _ (Nat.le_refl _)
  · cases e; simp
  · rw [List.mem_singleton] at hf
    subst hf
    cases e
    simp only [World.size_alloc]
    omega
theorem secL_len3 : (secL [kr2]).length = 2 := by rw [secL_one, secs_len, npc2]
attribute [local go_sem high] make121
attribute [local go_sem high] make401
attribute [local go_sem] conv32
set_option maxHeartbeats 8000000 in
theorem JKnown_any (w : World) : Calls Try.prog 6 #[] w (Ret (.bool true) w) := by
  go_enter Try.func6, Try.ntmps6
  go_wp2_with fail
  refine (Sx.new_w w).mono ?_
  rintro _ w1 ⟨db, dof, F1, rfl, d1, hb1, hF1⟩
  obtain ⟨A1, ho1, hh1, hc1, _⟩ := open_new (A := Sx.ab0) calm_ab0 sm_ab0 (turnA_z rfl) (turnA_z rfl) (fun k _ _ => rfl)
  have O1 := Lib.hid (Open_ok d1 sm_ab0 ho1)
  have HB1 := Lib.hid hb1
  have HF1 := Lib.hid hF1
  have HH1 := Lib.hid hh1
  have HC1 := Lib.hid hc1
  clear d1 hb1 hF1 hh1 hc1 ho1
  go_wp2_with fail
  refine O1.out.mono ?_
  rintro _ w2 ⟨F2, b, ao, c, L, rfl, j2, tb2, hb2, fr2, tl2⟩
  have T2 := Lib.hid tb2
  have TU := Lib.hid (Turn_any j2)
  have J2 := Lib.hid j2
  clear O1 j2 tb2 fr2 tl2
  go_wp2_with fail
  refine TU.out.mono ?_
  rintro _ _ ⟨rfl, g2, rfl⟩
  have j2 := J2.out.below g2.below
  have T2b := Lib.hid (T2.out.below g2.below)
  have RM := Lib.hid (show Calls Try.prog 19 #[.pointer (some ⟨b, 0, none⟩)] g2.val (Ret (.int .i64 255) g2.val) from Room_any j2 (by decide) (by decide))
  have J2b := Lib.hid j2
  generalize g2.val = w2b at *
  clear TU j2 T2 J2
  go_wp2_with fail
  refine RM.out.mono ?_
  rintro _ _ ⟨rfl, g3, rfl⟩
  have j2 := J2b.out.below g3.below
  have T2c := Lib.hid (T2b.out.below g3.below)
  generalize g3.val = w2c at *
  have ja := j2.below (below1 w2c (.cells #[.int .u8 97, .int .u8 98] 5 (2, 3)))
  have P1 := Lib.hid (Append_ok ja HH1.out HC1.out kr1_ok (by show 0 + npc (rowF kr1) ≤ 255; rw [npc1]; decide) (kind := 1) rfl (sl_marked w2c #[.int .u8 97, .int .u8 98] 5 2 w2c.heap.size (2, 3) rfl rfl) (apart_new j2 _))
  have W2 := Lib.hid (T2c.out.below (below1 w2c (.cells #[.int .u8 97, .int .u8 98] 5 (2, 3))))
  clear RM J2b T2b T2c j2 ja
  go_wp2_with fail
  refine P1.out.mono ?_
  rintro _ w3 ⟨rfl, F3, A3, j3, d3, wt3, hh3, hc3, e3⟩
  have W3 := Lib.hid (W2.out.new wt3 hb2)
  have e3b : j3 = ⟨0, 2, 1, false⟩ := by rw [e3, npc1]; rfl
  subst e3b
  have jb := d3.below (below1 w3 (.cells (bts (List.replicate 121 0)).toArray 5))
  have P2 := Lib.hid (Append_ok jb hh3 hc3 kr2_ok (by show (secL [kr1]).length + npc (rowF kr2) ≤ 255; rw [npc2, secL_len1]; decide) (kind := 2) rfl (sl_marked w3 (bts (List.replicate 121 0)).toArray 5 121 w3.heap.size (0, 0) rfl rfl) (apart_new d3 _))
  have W4 := Lib.hid (W3.out.below (below1 w3 (.cells (bts (List.replicate 121 0)).toArray 5)))
  clear P1 d3 wt3 jb e3 hh3 hc3 W2 W3
  go_wp2_with fail
  refine P2.out.mono ?_
  rintro _ w4 ⟨rfl, F4, A4, j4, d4, wt4, hh4, hc4, e4⟩
  have e4b : j4 = ⟨0, 4, 1, false⟩ := by rw [e4, npc2]; rfl
  subst e4b
  have W5 := Lib.hid (W4.out.new wt4 hb2)
  have HH4 := Lib.hid (show Holds A4 ⟨0, 4, 1, false⟩ [kr1, kr2] from hh4)
  have HC4 := Lib.hid hc4
  have R := Lib.hid (show Calls Try.prog 19 #[.pointer (some ⟨b, 0, none⟩)] w4 (Ret (.int .i64 252) w4) from Room_any d4 (by decide) (by decide))
  have D4 := Lib.hid d4
  clear P2 d4 wt4 e4 hh4 hc4 W4
  go_wp2_with fail
  refine R.out.mono ?_
  rintro _ _ ⟨rfl, g, rfl⟩
  have d5 := D4.out.below g.below
  have W6 := Lib.hid (W5.out.below g.below)
  generalize g.val = w5 at *
  have N1 := Lib.hid (Append_no d5 HH4.out.half.okJ rfl HC4.out (kind := 255) (er := 2) (ao := none) (n := 0) (c := 0) (l := []) (Sl.nothing w5) (fun x hx => by cases hx) (by decide) (apart_none _ _ _) rfl (by decide))
  clear R D4 W5 d5
  go_wp2_with fail
  refine N1.out.mono ?_
  rintro _ w6 ⟨rfl, F6, d6, wt6⟩
  have W7 := Lib.hid (W6.out.new wt6 hb2)
  have N2 := Lib.hid (Append_no d6 HH4.out.half.okJ rfl HC4.out (kind := 0) (er := 2) (ao := none) (n := 0) (c := 0) (l := []) (Sl.nothing w6) (fun x hx => by cases hx) (by decide) (apart_none _ _ _) rfl (by decide))
  clear N1 W6 d6 wt6
  go_wp2_with fail
  refine N2.out.mono ?_
  rintro _ w7 ⟨rfl, F7, d7, wt7⟩
  have W8 := Lib.hid (W7.out.new wt7 hb2)
  have jc := d7.below (below1 w7 (.cells (bts (List.replicate 401 0)).toArray 5))
  have N3 := Lib.hid (Append_no jc HH4.out.half.okJ rfl HC4.out (kind := 1) (er := 5) (l := List.replicate 401 0) (sl_marked w7 (bts (List.replicate 401 0)).toArray 5 401 w7.heap.size (0, 0) rfl rfl) (zeros_small _) (by decide) (apart_new d7 _) (by rw [List.length_replicate]; rfl) (by decide))
  have W9 := Lib.hid (W8.out.below (below1 w7 (.cells (bts (List.replicate 401 0)).toArray 5)))
  clear N2 W7 W8 d7 wt7 jc
  go_wp2_with fail
  refine N3.out.mono ?_
  rintro _ w8 ⟨rfl, F8, d8, wt8⟩
  have W10 := Lib.hid (W9.out.new wt8 hb2)
  have D8 := Lib.hid d8
  clear N3 W9 d8 wt8
  obtain ⟨fo1, fo2, fo3⟩ := fr_one D8.out 2 (List.replicate 121 0) 121 (List.length_replicate)
  have jd8 := (D8.out.below (below1 w8 (.cells (bts (List.replicate 121 0)).toArray 5))).below (below1 _ (.cells #[.int .i64 2, .slice (some ⟨w8.heap.size, 0, none⟩) 121 121] 51))
  have CP := Lib.hid (Compact_ok jd8 HH4.out HC4.out (L := [⟨2, List.replicate 121 0, some ⟨w8.heap.size, 0, none⟩, 121⟩]) (fun r hr => by rw [show told [(⟨2, List.replicate 121 0, some ⟨w8.heap.size, 0, none⟩, 121⟩ : Fm)] = [kr2] from rfl, List.mem_singleton] at hr; rw [hr]; exact kr2_ok)
    (by rw [show told [(⟨2, List.replicate 121 0, some ⟨w8.heap.size, 0, none⟩, 121⟩ : Fm)] = [kr2] from rfl, secL_len3]; decide) (by decide) fo1 fo2 fo3 (by decide))
  rw [show told [(⟨2, List.replicate 121 0, some ⟨w8.heap.size, 0, none⟩, 121⟩ : Fm)] = [kr2] from rfl, secL_len3] at CP
  have W11 := Lib.hid ((W10.out.below (below1 w8 (.cells (bts (List.replicate 121 0)).toArray 5))).below (below1 _ (.cells #[.int .i64 2, .slice (some ⟨w8.heap.size, 0, none⟩) 121 121] 51)))
  clear fo1 fo2 fo3 jd8 D8 W10
  go_wp2_with fail
  refine CP.out.mono ?_
  rintro _ w9 ⟨rfl, F9, A5, j5, d9, wt9, hh5, hc5, e5, hs5⟩
  have e5b : j5 = ⟨256, 259, 2, false⟩ := by rw [e5]; rfl
  subst e5b
  have W12 := Lib.hid (W11.out.new wt9 hb2)
  have HH5 := Lib.hid hh5
  have HC5 := Lib.hid hc5
  have HS5 := Lib.hid hs5
  have R9 := Lib.hid (show Calls Try.prog 19 #[.pointer (some ⟨b, 0, none⟩)] w9 (Ret (.int .i64 253) w9) from Room_any d9 (by decide) (by decide))
  have D9 := Lib.hid d9
  clear CP W11 d9 wt9 hh5 hc5 e5 hs5
  go_wp2_with fail
  refine R9.out.mono ?_
  rintro _ _ ⟨rfl, g9, rfl⟩
  have d10 := D9.out.dw.below g9.below
  have W13 := Lib.hid (W12.out.below g9.below)
  generalize g9.val = w10 at *
  have O10 := Lib.hid (Open_ok d10 HH5.out.half.sm (HH5.out.opens HC5.out.on))
  clear R9 D9 W12 d10
  go_wp2_with fail
  refine O10.out.mono ?_
  rintro _ w11 ⟨F11, b11, ao11, c11, L11, rfl, j11, tb11, hb11, fr11, tl11⟩
  have W14 := Lib.hid (W13.out.trans tb11)
  obtain ⟨f0, rfl, hl0⟩ : ∃ f0, L11 = [f0] ∧ f0.body.length = 121 := by
    match L11, tl11 with
    | [f0], h =>
      simp only [told, List.map_cons, List.map_nil, List.cons.injEq, and_true] at h
      exact ⟨f0, rfl, by have := congrArg (fun q => q.2.length) h; simpa [kr2] using this⟩
  obtain ⟨bb, oo, rfl, _, cB, _⟩ := (fr11.fr.reads rfl).each 0 f0 rfl
  unfold Fm.val at cB
  rw [hl0, Nat.zero_mul, Nat.add_zero] at cB
  have TU11 := Lib.hid (Turn_any j11)
  have J11 := Lib.hid j11
  clear O10 fr11 tl11 tb11 j11 W13
  go_wp2_with fail
  refine TU11.out.mono ?_
  rintro _ _ ⟨rfl, g11, rfl⟩
  have cB2 := ext_cell cB g11
  have D12 := Lib.hid (J11.out.dw.below g11.below)
  have W15 := Lib.hid (W14.out.below g11.below)
  generalize g11.val = w12 at *
  clear TU11 J11 W14 cB
  have hwd : Calls Try.prog 13 #[.pointer (some ⟨db, dof, none⟩), .int .i64 256, .slice (some ⟨w12.heap.size, 0, none⟩) 1 1] (w12.alloc (.cells #[.int .u8 1] 5)) (Did F11 (w12.alloc (.cells #[.int .u8 1] 5)) (.pointer (some ⟨db, dof, none⟩)) (A5.wr 256 [1]) (.int .i64 (A5.wrE 256 [1]))) :=
    Sx.write_w (D12.out.below (below1 _ _)) (by decide) (sl_marked w12 #[.int .u8 1] 5 1 w12.heap.size (0, 0) rfl rfl) (by decide) (fun k o j e hj hf => by cases e; exact absurd (D12.out.lt hf) (Nat.lt_irrefl _))
  rw [(HC5.out.wr _ _).1, (HC5.out.wr _ _).2] at hwd
  have WD := Lib.hid hwd
  have W16 := Lib.hid (W15.out.below (below1 w12 (.cells #[.int .u8 1] 5)))
  clear hwd D12 W15
  go_wp2_with fail
  refine WD.out.mono ?_
  rintro _ w13 h13
  obtain ⟨rfl, F13, d13, tb13⟩ := did_tb h13
  have W17 := Lib.hid (W16.out.trans tb13)
  have SY := Lib.hid (Sx.sync_w d13)
  rw [(HC5.out.put 256 [1]).syc.1, (HC5.out.put 256 [1]).syc.2] at SY
  clear WD W16 h13 d13 tb13
  go_wp2_with fail
  refine SY.out.mono ?_
  rintro _ w14 h14
  obtain ⟨rfl, F14, d14, tb14⟩ := did_tb h14
  have W18 := Lib.hid (W17.out.trans tb14)
  obtain ⟨k7, k8, k9⟩ := old_again HH4.out rfl HH5.out.half.sm HC5.out HS5.out
  have HH7 := Lib.hid k7
  have HC7 := Lib.hid k8
  have HT7 := Lib.hid k9
  have O14 := Lib.hid (Open_ok d14 HH7.out.half.sm (HH7.out.opens HC7.out.on))
  generalize (A5.put 256 [1]).sy = A7 at *
  clear SY W17 h14 d14 tb14 k7 k8 k9 HS5 HH5 HC5
  go_wp2_with fail
  refine O14.out.mono ?_
  rintro _ w15 ⟨F15, b15, ao15, c15, L15, rfl, j15, tb15, hb15, fr15, tl15⟩
  have W19 := Lib.hid (W18.out.trans tb15)
  have hwd : Calls Try.prog 13 #[.pointer (some ⟨db, dof, none⟩), .int .i64 0, .slice none 0 0] w15 (Did F15 w15 (.pointer (some ⟨db, dof, none⟩)) (A7.wr 0 []) (.int .i64 (A7.wrE 0 []))) :=
    Sx.write_w j15.dw (by decide) (Sl.nothing w15) (by decide) Sx.off_nil
  rw [(HC7.out.wr _ _).1, (HC7.out.wr _ _).2] at hwd
  have WD := Lib.hid hwd
  clear O14 W18 j15 tb15 fr15 tl15 hwd
  go_wp2_with fail
  refine WD.out.mono ?_
  rintro _ w16 h16
  obtain ⟨rfl, F16, d16, tb16⟩ := did_tb h16
  have W20 := Lib.hid (W19.out.trans tb16)
  have SY := Lib.hid (Sx.sync_w d16)
  rw [(HC7.out.put 0 []).syc.1, (HC7.out.put 0 []).syc.2] at SY
  clear WD W19 h16 d16 tb16
  go_wp2_with fail
  refine SY.out.mono ?_
  rintro _ w17 h17
  obtain ⟨rfl, F17, d17, tb17⟩ := did_tb h17
  have W21 := Lib.hid (W20.out.trans tb17)
  have q17 := spoilt_head HH7.out rfl HC7.out HT7.out
  have hsm17 : Ab.Sm (A7.put 0 []).sy := sm_sy (sm_put HH7.out.half.sm _ (fun x hx => by cases hx))
  have O17 := Lib.hid (Open_bad (k := 6) (A' := (A7.put 0 []).sy) d17 hsm17 (by decide) (by rw [q17]) (by rw [q17]))
  clear SY W20 h17 d17 tb17 q17 hsm17
  go_wp2_with fail
  refine O17.out.mono ?_
  rintro _ w18 ⟨rfl, F18, d18, tb18⟩
  have hB := Lib.hid (tb_below HB1.out (W21.out.trans tb18) HF1.out)
  clear O17 W21 d18 tb18 HH7 HC7 HT7 HH4 HC4 HF1 HB1 HH1 HC1 cB2
  go_wp2_with fail
  refine (Sx.new_w w18).mono ?_
  rintro _ w19 ⟨eb, eof, F19, rfl, d19, hb19, hF19⟩
  have hzB := hB.out.size
  have HB19 := Lib.hid (hB.out.trans (hb19.mono hzB))
  have HF19 := Lib.hid (fun i x (h : F19 i x) => Nat.le_trans hzB (hF19 i x h))
  obtain ⟨B1, ho1, hh1, hc1, _⟩ := open_new (A := Sx.ab0) calm_ab0 sm_ab0 (turnA_z rfl) (turnA_z rfl) (fun k _ _ => rfl)
  have O1 := Lib.hid (Open_ok d19 sm_ab0 ho1)
  have HH1 := Lib.hid hh1
  have HC1 := Lib.hid hc1
  clear d19 hb19 hF19 hB hzB hh1 hc1 ho1
  go_wp2_with fail
  refine O1.out.mono ?_
  rintro _ w20 ⟨F20, b20, ao20, c20, L20, rfl, j20, tb20, hb20, fr20, tl20⟩
  have T20 := Lib.hid tb20
  have AR := Lib.hid (Sx.arm_w j20.dw 0 (by decide))
  have J20 := Lib.hid j20
  clear O1 tb20 fr20 tl20 j20
  go_wp2_with fail
  refine AR.out.mono ?_
  rintro _ w21 h21
  obtain ⟨rfl, F21, d21, tb21⟩ := did_tb h21
  have j21 := J20.out.did d21 tb21.t tb21.fb
  have T21 := Lib.hid (T20.out.trans tb21)
  obtain ⟨a1, a2, a3⟩ := arm_fails HH1.out HC1.out (by show 0 + 1 ≤ 255; decide)
  have hap := Append_any j21 HH1.out.half.okJ 1 (ao := none) (n := 0) (c := 0) (l := []) (Sl.nothing w21) (fun x hx => by cases hx) (by decide) (apart_none _ _ _)
  rw [a1] at hap
  have AP := Lib.hid hap
  have HA2 := Lib.hid a2
  have HA3 := Lib.hid a3
  clear AR J20 h21 d21 tb21 j21 T20 hap a1 a2 a3
  go_wp2_with fail
  refine AP.out.mono ?_
  rintro _ w22 ⟨rfl, F22, j22, wt22⟩
  have T22 := Lib.hid (T21.out.new wt22 hb20)
  have q22 : openP (appA (B1.arm 0) newJ 1 []) = ⟨9, appA (B1.arm 0) newJ 1 [], newJ, []⟩ := by unfold openP; rw [if_pos HA2.out]
  have O22 := Lib.hid (Open_bad (k := 9) (A' := appA (B1.arm 0) newJ 1 []) j22.dw HA3.out (by decide) (by rw [q22]) (by rw [q22]))
  clear AP T21 j22 wt22 q22
  go_wp2_with fail
  refine O22.out.mono ?_
  rintro _ w23 ⟨rfl, F23, d23, tb23⟩
  have T23 := Lib.hid (T22.out.trans tb23)
  clear O22 T22 d23 tb23
  go_wp2_with fail
  refine (Known_any w23).mono ?_
  rintro _ _ ⟨rfl, g23, rfl⟩
  have hB2 := Lib.hid (tb_below HB19.out (T23.out.below g23.below) HF19.out)
  go_wp2_with fail
  go_ret
  exact Ret.mk_of hB2.out rfl
end Go.Proofs.Ytaigdbnfhehclaa
