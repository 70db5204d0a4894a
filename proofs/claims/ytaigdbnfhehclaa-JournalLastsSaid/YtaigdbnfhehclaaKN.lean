/- What is proved: the walk of JournalLasts. No condition but those each law names. -/
import Derived.Test.YtaigdbnfhehclaaKL
namespace Go.Proofs.Ytaigdbnfhehclaa
open Go.RowKit
open Sx (Ab DW Turns Did Foot z128 padN CrashTo)
set_option maxRecDepth 100000

/-- The first Open, on a disk that may be armed. -/
def FirstOpen (F : Foot) (w : World) (dv : Value) (e : Ending) (w' : World) : Prop := ∃ v6 v7 k F' A', e = .returned (.tuple #[v6, v7, .int .i64 k]) ∧ TB F w F' w' ∧
  ((k = 9 ∧ DW w' F' dv A' ∧ ∀ keep A2, CrashTo A' keep A2 → Ab.Sm A2 ∧ ∃ A3, openP A2 = ⟨0, A3, newJ, []⟩ ∧ Holds A3 newJ [] ∧ Calm A3) ∨
    (k = 0 ∧ ∃ b ao c, v6 = .pointer (some ⟨b, 0, none⟩) ∧ v7 = .slice ao 0 c ∧ JD w' F' dv A' b newJ ∧ Holds A' newJ [] ∧ A'.off = false ∧ w.heap.size ≤ b ∧ FrW w' (Fb F' b) w.heap.size v7 []))
theorem First_open {w : World} {F : Foot} {dv : Value} {n : Int} (H : DW w F dv (Sx.ab0.arm n)) : Calls Try.prog 8 #[dv] w (FirstOpen F w dv) := by
  have hsm : Ab.Sm (Sx.ab0.arm n) := fun k l h => sm_ab0 k l h
  rcases first_open n with ⟨A', h1, h2, h3⟩ | ⟨h1, h2⟩
  · refine (Open_ok H hsm h1).mono ?_
    rintro e w' ⟨F', b, ao, c, L, rfl, q1, q2, q3, q4, q5⟩
    have hL : L = [] := List.eq_nil_of_length_eq_zero (by have := congrArg List.length q5; simpa [told] using this)
    subst hL
    exact ⟨_, _, 0, F', A', rfl, q2, .inr ⟨rfl, b, ao, c, rfl, rfl, q1, h2, h3, q3, q4⟩⟩
  · refine (Open_bad H hsm (k := 9) (by decide) h1 rfl).mono ?_
    rintro e w' ⟨rfl, F', q1, q2⟩
    exact ⟨_, _, 9, F', _, rfl, q2, .inl ⟨rfl, q1, h2⟩⟩
theorem set3 {w : World} {b : Nat} {x y z u v t : Value} {ty : TypeId} (h : w.heap[b]? = some (.cells #[x, y, z] ty)) : (((w.setCell ⟨b, 0, none⟩ u).setCell ⟨b, 1, none⟩ v).setCell ⟨b, 2, none⟩ t).heap[b]? = some (.cells #[u, v, t] ty) := by
  rw [heap_setCell_at, if_pos rfl, heap_setCell_at, if_pos rfl, heap_setCell_at, if_pos rfl, h]
  rfl
set_option maxHeartbeats 8000000 in
theorem Lasts_any {w : World} {ao : Option Addr} {n c : Nat} {L : List LifeW} (first : Int) (hL : ItemsR (LifeW.at w) 3 ao n c L) : Calls Try.prog 4 #[.int .i64 first, .slice ao n c] w (Ret (.bool true) w) := by
  obtain ⟨p, hp, hp2⟩ : ∃ p : Nat, first % 4 = p ∧ p < 4 := by
    have h1 := Int.emod_nonneg first (show (4 : Int) ≠ 0 by decide)
    have h2 := Int.emod_lt_of_pos first (show (0 : Int) < 4 by decide)
    exact ⟨(first % 4).toNat, by omega, by omega⟩
  have PK := Lib.hid (fun W => Pick_any first 4 (by decide) (by decide) W)
  rw [hp] at PK
  have HL := Lib.hid hL
  clear hp hL
  go_enter Try.func4, Try.ntmps4
  go_wp2_with fail
  refine (Sx.new_w w).mono ?_
  rintro _ w1 ⟨db, dof, F1, rfl, d1, hb1, hF1⟩
  have HB1 := Lib.hid hb1
  have HF1 := Lib.hid hF1
  have D1 := Lib.hid d1
  clear d1 hb1 hF1
  go_wp2_with fail
  refine (PK.out _).mono ?_
  rintro _ _ ⟨rfl, g2, rfl⟩
  have D2 := Lib.hid (D1.out.below g2.below)
  have T2 := Lib.hid ((TB.refl F1 w1).below g2.below)
  generalize g2.val = w2 at *
  have e1 : wrap64 ((p : Int) - 1) = (p : Int) - 1 := IntWalk.wrap64_in _ (by omega)
  clear PK D1
  go_wp2_with fail
  refine (Sx.arm_w D2.out ((p : Int) - 1) (by omega)).mono ?_
  rintro _ w3 h3
  obtain ⟨rfl, F3, d3, tb3⟩ := did_tb h3
  have T3 := Lib.hid (T2.out.trans tb3)
  have OP := Lib.hid (First_open d3)
  clear h3 d3 tb3 D2 T2 e1
  go_wp2_with fail
  refine OP.out.mono ?_
  rintro _ w4 ⟨v6, v7, k, F4, A4, rfl, tb4, hor⟩
  have T4 := Lib.hid (T3.out.trans tb4)
  have HOR := Lib.hid hor
  have hz3 := T3.out.t.size
  clear OP tb4 hor T3
  go_upto_if 35 with (fail)
  go_cut [6, 7, 8] (fun y6 y7 y8 wx => ∃ b ao c F A, y6 = .pointer (some ⟨b, 0, none⟩) ∧ y7 = .slice ao 0 c ∧ y8 = .int .i64 0 ∧ JD wx F (.pointer (some ⟨db, dof, none⟩)) A b newJ ∧ Holds A newJ [] ∧ A.off = false ∧ TB F1 w1 F wx ∧ w1.heap.size ≤ b ∧ FrW wx (Fb F b) w1.heap.size y7 [])
  case first =>
    rcases HOR.out with ⟨rfl, hd, hcr⟩ | ⟨rfl, b, ao, c, rfl, rfl, hj, hh, ho, hb, hfr⟩
    · have D4 := Lib.hid hd
      have HCR := Lib.hid hcr
      have hlt := fun (x y : Nat) (h : F4 x y) => hd.lt h
      have CR := Lib.hid (Sx.crash_w (hd.below (below1 w4 (.cells #[.int .i64 first] 3))) (keep := [first]) (ao := some ⟨w4.heap.size, 0, none⟩) (n := 1) (c := 1) (sl_marked w4 #[.int .i64 first] 3 1 w4.heap.size (0, 0) rfl rfl) (fun b o j e hj hF => by
        cases e
        exact absurd (hlt _ _ hF) (Nat.lt_irrefl _)))
      have T5 := Lib.hid (T4.out.below (below1 w4 (.cells #[.int .i64 first] 3)))
      clear hd hcr hlt D4 HOR T4
      go_wp2_with fail
      refine CR.out.mono ?_
      rintro _ w5 ⟨A5, hc5, h5⟩
      obtain ⟨rfl, F5, d5, tb5⟩ := did_tb h5
      obtain ⟨hs5, A6, ho6, hh6, hc6⟩ := HCR.out _ _ hc5
      have T6 := Lib.hid (T5.out.trans tb5)
      have O6 := Lib.hid (Open_ok d5 hs5 ho6)
      have HH6 := Lib.hid hh6
      have HC6 := Lib.hid hc6
      have hz5 := T6.out.t.size
      clear CR T5 h5 d5 tb5 hs5 ho6 hh6 hc6 HCR hc5
      go_wp2_with fail
      refine O6.out.mono ?_
      rintro _ w6 ⟨F6, b, ao, c, L6, rfl, j6, tb6, hb6, fr6, tl6⟩
      have hL6 : L6 = [] := List.eq_nil_of_length_eq_zero (by have := congrArg List.length tl6; simpa [told] using this)
      subst hL6
      have J6 := Lib.hid j6
      have T7 := Lib.hid (T6.out.trans tb6)
      have FR6 := Lib.hid (fr6.base hz5)
      have hb7 : w1.heap.size ≤ b := by omega
      clear O6 T6 j6 tb6 fr6 tl6
      go_wp2_with fail
      go_meet
      exact ⟨b, ao, c, F6, A6, rfl, rfl, rfl, J6.out, HH6.out, HC6.out.on, T7.out, hb7, FR6.out⟩
    · have hb7 : w1.heap.size ≤ b := by omega
      have FR6 := Lib.hid (hfr.base hz3)
      have J6 := Lib.hid hj
      have HH6 := Lib.hid hh
      have HO6 := Lib.hid ho
      clear hj hh ho hfr HOR
      go_wp2_with fail
      go_meet
      exact ⟨b, ao, c, F4, A4, rfl, rfl, rfl, J6.out, HH6.out, HO6.out, T4.out, hb7, FR6.out⟩
  case rest =>
    obtain ⟨b, ao0, c0, F5, A5, rfl, rfl, rfl, j5, h5, o5, t5, hb5, fr5⟩ := hcut
    have AR := Lib.hid (Sx.arm_w j5.dw (-1) (by decide))
    have J5 := Lib.hid j5
    have H5 := Lib.hid (h5.arm (-1))
    have C5 := Lib.hid (calm_arm o5)
    have T5 := Lib.hid t5
    have FR5 := Lib.hid fr5
    clear j5 h5 o5 t5 fr5 HOR T4
    go_wp2_with fail
    refine AR.out.mono ?_
    rintro _ w6 h6
    obtain ⟨rfl, F6, d6, tb6⟩ := did_tb h6
    have J6 := Lib.hid (J5.out.did d6 tb6.t tb6.fb)
    have T6 := Lib.hid (T5.out.trans tb6)
    have FR6 := Lib.hid (FR5.out.went (tb6.went (b := b)))
    clear AR h6 d6 tb6 J5 T5 FR5
    go_wp2_with fail
    go_loopw [6, 7, 9] (fun y6 y7 y9 wr => ∃ (i : Nat) (F : Foot) (A : Ab) (b : Nat) (j : Jr) (ar : Option Addr) (nr cr : Nat) (R : List Fm), i ≤ 4 ∧ y9 = .int .i64 i ∧ y6 = .pointer (some ⟨b, 0, none⟩) ∧ y7 = .slice ar nr cr ∧ R.length = nr ∧ JD wr F (.pointer (some ⟨db, dof, none⟩)) A b j ∧ Holds A j (told R) ∧ Calm A ∧
      TB F1 w1 F wr ∧ w1.heap.size ≤ b ∧ FrW wr (Fb F b) w1.heap.size (.slice ar nr cr) R ∧ j.turn ≤ 1 + 13 * i) (fun _ _ y9 _ => 4 - (intOf y9).toNat)
    case atStart => exact ⟨0, F6, _, b, newJ, ao0, 0, c0, [], by omega, rfl, rfl, rfl, rfl, J6.out, H5.out, C5.out, T6.out, hb5, FR6.out, by decide⟩
    case round =>
      obtain ⟨i, F, A, b, j, ar, nr, cr, R, hi, rfl, rfl, rfl, hRn, hj, hh, hc, ht, hb, hfr, hjt⟩ := hrel
      have HJ := Lib.hid hj
      have HHo := Lib.hid hh
      have HCa := Lib.hid hc
      have HT := Lib.hid ht
      have HFr := Lib.hid hfr
      have HRn := Lib.hid hRn
      have HTn := Lib.hid hjt
      have hz := ht.t.size
      have HBw := Lib.hid (tb_below HB1.out ht HF1.out)
      clear hj hh hc ht hfr hRn hjt J6 H5 C5 T6 FR6
      have HK := Lib.hid (Known_any wr)
      by_cases hl1 : i < n
      · by_cases hl2 : i < 4
        · have hk1 : (i : Int) < n := by omega
          have hk2 : (i : Int) < 4 := by omega
          obtain ⟨X, hXi⟩ : ∃ X, L[i]? = some X := ⟨_, List.getElem?_eq_getElem (by rw [HL.out.len]; exact hl1)⟩
          obtain ⟨bL, oL, hao, hX⟩ := HL.out.each i X hXi
          subst hao
          have HX := Lib.hid hX
          have hXr := LifeW.keepW (Nat.le_refl _) HBw.out X bL (oL + i * 3) hX
          have x0 := hXr.c0
          have x1 := hXr.c1
          have x2 := hXr.c2
          clear hX hXr hXi
          by_cases hm : 600 < X.m
          · have hm2 : (600 : Int) < X.m := by omega
            go_wp2_with fail
            refine HK.out.mono ?_
            rintro _ _ ⟨rfl, g, rfl⟩
            have B := Lib.hid (HBw.out.trans (g.below.mono HBw.out.size))
            go_wp2
            go_ret
            exact Ret.mk_of B.out rfl
          · have hm2 : ¬ (600 : Int) < X.m := by omega
            obtain ⟨q, hq, hq2⟩ : ∃ q : Nat, X.cut % 402 = q ∧ q < 402 := by
              have h1 := Int.emod_nonneg X.cut (show (402 : Int) ≠ 0 by decide)
              have h2 := Int.emod_lt_of_pos X.cut (show (0 : Int) < 402 by decide)
              exact ⟨(X.cut % 402).toNat, by omega, by omega⟩
            have PC := Lib.hid (fun W => Pick_any X.cut 402 (by decide) (by decide) W)
            rw [hq] at PC
            clear hq
            go_wp2_with fail
            have e2 : IntKind.i64.wrap ((q : Int) - 1) = (q : Int) - 1 := IntWalk.i64_in _ (by omega)
            have hbd := Lib.hid ((Below.refl wr.heap.size wr).drew)
            have hbe := Lib.hid (((Below.refl wr.heap.size wr).drew).alloc (Nat.le_refl _) (.cells #[.slice none 0 0, .int .i64 0, .slice none 0 0] 44))
            have C0 := Lib.hid x0
            have C1 := Lib.hid x1
            have a0 : (wr.drew.alloc (.cells #[.slice none 0 0, .int .i64 0, .slice none 0 0] 44)).cell? ⟨bL, oL + i * 3, none⟩ = some (.slice X.ao X.n X.cap) := cell_keep (Nat.le_refl _) hbe.out x0
            have a1 : (wr.drew.alloc (.cells #[.slice none 0 0, .int .i64 0, .slice none 0 0] 44)).cell? ⟨bL, oL + i * 3 + 1, none⟩ = some (.int .i64 X.cut) := cell_keep (Nat.le_refl _) hbe.out x1
            go_cut [10] (fun y wx => ∃ bx, y = .pointer (some ⟨bx, 0, none⟩) ∧ wr.heap.size ≤ bx ∧ Below wr.heap.size wr wx ∧ wx.heap[bx]? = some (.cells #[.slice X.ao X.n X.cap, .int .i64 ((q : Int) - 1), .slice none 0 0] 44))
            case first =>
              go_region_held3 (fun w' => w'.cell? ⟨bL, oL + i * 3, none⟩ = some (.slice X.ao X.n X.cap) ∧ w'.cell? ⟨bL, oL + i * 3 + 1, none⟩ = some (.int .i64 X.cut))
                (first | exact ⟨x0, x1⟩ | exact ⟨a0, a1⟩ | exact ⟨b0, b1⟩ | exact ⟨d0, d1⟩ | exact ⟨z0, z1⟩)
                (first
                  | (go_at_call 10; first
                    | (refine (PC.out wr.drew).mono ?_; rintro _ _ ⟨rfl, g, rfl⟩; have B5 := Lib.hid (hbd.out.trans g.below); have BE := Lib.hid (B5.out.trans ((below1 g.val (.cells #[.slice none 0 0, .int .i64 0, .slice none 0 0] 44)).mono B5.out.size)); generalize g.val = w5 at *; have b0 : w5.cell? ⟨bL, oL + i * 3, none⟩ = some (.slice X.ao X.n X.cap) := cell_keep (Nat.le_refl _) B5.out C0.out; have b1 : w5.cell? ⟨bL, oL + i * 3 + 1, none⟩ = some (.int .i64 X.cut) := cell_keep (Nat.le_refl _) B5.out C1.out; have d0 : (w5.alloc (.cells #[.slice none 0 0, .int .i64 0, .slice none 0 0] 44)).cell? ⟨bL, oL + i * 3, none⟩ = some (.slice X.ao X.n X.cap) := cell_keep (Nat.le_refl _) BE.out C0.out; have d1 : (w5.alloc (.cells #[.slice none 0 0, .int .i64 0, .slice none 0 0] 44)).cell? ⟨bL, oL + i * 3 + 1, none⟩ = some (.int .i64 X.cut) := cell_keep (Nat.le_refl _) BE.out C1.out; have BF := Lib.hid (B5.out.trans ((below1 w5 (.cells #[.slice X.ao X.n X.cap, .int .i64 ((q : Int) - 1), .slice none 0 0] 44)).mono B5.out.size)); have z0 : (w5.alloc (.cells #[.slice X.ao X.n X.cap, .int .i64 ((q : Int) - 1), .slice none 0 0] 44)).cell? ⟨bL, oL + i * 3, none⟩ = some (.slice X.ao X.n X.cap) := cell_keep (Nat.le_refl _) BF.out C0.out; have z1 : (w5.alloc (.cells #[.slice X.ao X.n X.cap, .int .i64 ((q : Int) - 1), .slice none 0 0] 44)).cell? ⟨bL, oL + i * 3 + 1, none⟩ = some (.int .i64 X.cut) := cell_keep (Nat.le_refl _) BF.out C1.out; have NX := Lib.hid (heap_alloc_new w5 (.cells #[.slice X.ao X.n X.cap, .int .i64 ((q : Int) - 1), .slice none 0 0] 44)); have hz5 := B5.out.size)
                    | (refine (PC.out (wr.drew.alloc (.cells #[.slice none 0 0, .int .i64 0, .slice none 0 0] 44))).mono ?_; rintro _ _ ⟨rfl, g, rfl⟩; have B5 := Lib.hid (hbe.out.trans (g.below.mono hbe.out.size)); have YB := Lib.hid ((g.below.block wr.drew.heap.size (by simp)).trans (heap_alloc_new wr.drew (.cells #[.slice none 0 0, .int .i64 0, .slice none 0 0] 44))); generalize g.val = w5 at *; have b0 : w5.cell? ⟨bL, oL + i * 3, none⟩ = some (.slice X.ao X.n X.cap) := cell_keep (Nat.le_refl _) B5.out C0.out; have b1 : w5.cell? ⟨bL, oL + i * 3 + 1, none⟩ = some (.int .i64 X.cut) := cell_keep (Nat.le_refl _) B5.out C1.out; have y0 : w5.cell? ⟨wr.heap.size, 0, none⟩ = some (.slice none 0 0) := (cells_of YB.out 0).1; have y1 : w5.cell? ⟨wr.heap.size, 1, none⟩ = some (.int .i64 0) := (cells_of YB.out 1).1; have y2 : w5.cell? ⟨wr.heap.size, 2, none⟩ = some (.slice none 0 0) := (cells_of YB.out 2).1; have f0 : w5.frozen? ⟨wr.heap.size, 0, none⟩ = false := (cells_of YB.out 0).2; have f1 : w5.frozen? ⟨wr.heap.size, 1, none⟩ = false := (cells_of YB.out 1).2; have f2 : w5.frozen? ⟨wr.heap.size, 2, none⟩ = false := (cells_of YB.out 2).2; have BF := Lib.hid (((B5.out.setCell (p := ⟨wr.heap.size, 0, none⟩) (Nat.le_refl _) (.slice X.ao X.n X.cap)).setCell (p := ⟨wr.heap.size, 1, none⟩) (Nat.le_refl _) (.int .i64 ((q : Int) - 1))).setCell (p := ⟨wr.heap.size, 2, none⟩) (Nat.le_refl _) (.slice none 0 0)); have z0 : (((w5.setCell ⟨wr.heap.size, 0, none⟩ (.slice X.ao X.n X.cap)).setCell ⟨wr.heap.size, 1, none⟩ (.int .i64 ((q : Int) - 1))).setCell ⟨wr.heap.size, 2, none⟩ (.slice none 0 0)).cell? ⟨bL, oL + i * 3, none⟩ = some (.slice X.ao X.n X.cap) := cell_keep (Nat.le_refl _) BF.out C0.out; have z1 : (((w5.setCell ⟨wr.heap.size, 0, none⟩ (.slice X.ao X.n X.cap)).setCell ⟨wr.heap.size, 1, none⟩ (.int .i64 ((q : Int) - 1))).setCell ⟨wr.heap.size, 2, none⟩ (.slice none 0 0)).cell? ⟨bL, oL + i * 3 + 1, none⟩ = some (.int .i64 X.cut) := cell_keep (Nat.le_refl _) BF.out C1.out; have NX := Lib.hid (set3 (u := .slice X.ao X.n X.cap) (v := .int .i64 ((q : Int) - 1)) (t := .slice none 0 0) YB.out); have hz5 : wr.heap.size ≤ wr.heap.size := Nat.le_refl _)))
              all_goals go_wp2_with fail
              all_goals go_meet
              all_goals exact ⟨_, rfl, hz5, BF.out, NX.out⟩
            case rest =>
              obtain ⟨bx, rfl, hbx, hbw, hxb⟩ := hcut
              have y0 : wc.cell? ⟨bx, 0, none⟩ = some (.slice X.ao X.n X.cap) := (cells_of hxb 0).1
              have y1 : wc.cell? ⟨bx, 1, none⟩ = some (.int .i64 ((q : Int) - 1)) := (cells_of hxb 1).1
              have y2 : wc.cell? ⟨bx, 2, none⟩ = some (.slice none 0 0) := (cells_of hxb 2).1
              have T4 := Lib.hid (HT.out.below hbw)
              have hDo := fun (F' : Foot) (w' : World) (wt : Went F b wc F' w') => HX.out.does.keep (DoW.keep (Nat.le_refl _) (tb_below HB1.out (T4.out.new wt hb) HF1.out))
              have LV := Lib.hid (Lives_any (HJ.out.below hbw) HHo.out HCa.out (by have := HTn.out; omega) (HFr.out.keep (Nat.le_refl _) hbw) rfl HRn.out hDo ((q : Int) - 1) (by omega) (ka := none) (kn := 0) (kc := 0))
              clear hbw hxb hDo x0 x1 x2 C0 C1 a0 a1 hbd hbe e2 HFr HJ
              go_wp2_with fail
              refine LV.out.mono ?_
              rintro _ w5 ⟨F5, A5, j5, p1, n1, c1, p2, n2, c2, L1, L2, rfl, jd5, wt5, fa5, fb5, hn1, hn2, ok1, ok2, hm1, hm2', bk5, sm5⟩
              have T5 := Lib.hid (T4.out.new wt5 hb)
              have hB5 := tb_below HB1.out T5.out HF1.out
              have hX5 := LifeW.keepW (Nat.le_refl _) hB5 X bL (oL + i * 3) HX.out
              have x2 := hX5.c2
              have hF5 : ∀ k x, F5 k x → w.heap.size ≤ k := fun k x hx => (T5.out.fb k x hx).elim (HF1.out k x) fun h => Nat.le_trans HB1.out.size h
              have CR := Lib.hid (Sx.crash_w jd5.dw (keep := X.keep) hX5.keep (fun b' o' jj e hlt hF => by
                obtain ⟨b2, o2, e2, hb2, _⟩ := HX.out.keep.at (by omega)
                rw [e] at e2
                cases e2
                have := hF5 _ _ hF
                omega))
              have FA5 := Lib.hid fa5
              have FB5 := Lib.hid fb5
              have HN1 := Lib.hid hn1
              have HN2 := Lib.hid hn2
              have OK1 := Lib.hid ok1
              have OK2 := Lib.hid ok2
              have BK5 := Lib.hid bk5
              clear LV T4 jd5 wt5 fa5 fb5 hn1 hn2 ok1 ok2 bk5 sm5 hX5 hF5 hB5 y0 y1 y2
              go_wp2_with fail
              refine CR.out.mono ?_
              rintro _ w6 ⟨A6, hcr, h6⟩
              obtain ⟨rfl, F6, d6, tb6⟩ := did_tb h6
              obtain ⟨j', hor, hjt', hcalm, hst⟩ := BK5.out _ _ hcr
              obtain ⟨RR, hRR, hhalf⟩ : ∃ RR, (RR = told L1 ∨ RR = told L2) ∧ Half A6 j' RR := hor.elim (fun h => ⟨_, .inl rfl, h⟩) fun h => ⟨_, .inr rfl, h⟩
              obtain ⟨A7, ho7, hh7, hc7⟩ := hhalf.open_calm hcalm hst
              have O7 := Lib.hid (Open_ok d6 hhalf.sm ho7)
              have T6 := Lib.hid (T5.out.trans tb6)
              have FA6 := Lib.hid (FA5.out.went (tb6.went (b := b)))
              have FB6 := Lib.hid (FB5.out.went (tb6.went (b := b)))
              have HH7 := Lib.hid hh7
              have HC7 := Lib.hid hc7
              have HRR := Lib.hid hRR
              have hz6 := T6.out.t.size
              clear CR hcr h6 hor hcalm hst hhalf ho7 hh7 hc7 d6 tb6 T5 FA5 FB5 BK5 x2 hRR
              go_wp2_with fail
              refine O7.out.mono ?_
              rintro _ w7 ⟨F7, b7, ao7, c7, L7, rfl, jd7, tb7, hb7', fr7, tl7⟩
              have hb7 : w1.heap.size ≤ b7 := by omega
              have TL7 := Lib.hid tl7
              have HL7 := Lib.hid (show L7.length = RR.length by have := congrArg List.length tl7; simpa [told] using this)
              have J7 := Lib.hid jd7
              have W7 := Lib.hid (T6.out.trans tb7)
              have FA7 := Lib.hid (FA6.out.went (tb7.went (b := b)))
              have FB7 := Lib.hid (FB6.out.went (tb7.went (b := b)))
              have FN7 := Lib.hid (fr7.base hz6)
              have hRl : RR.length ≤ 255 := by have h1 := rows_len (R := RR); have h2 := HH7.out.half.len; omega
              have S1 := Lib.hid (SameFrames_any (FN7.out.reads HL7.out).1.rd (FA7.out.reads HN1.out).1.rd (rows_small HH7.out.half.ok TL7.out) (rows_small OK1.out rfl) (by omega))
              clear O7 tl7 jd7 tb7 fr7 T6 FA6 FB6
              cases hd : decide (told L7 = told L1) with
              | true =>
                rw [hd] at S1
                clear hd
                go_wp2_with fail
                refine S1.out.mono ?_
                rintro _ _ ⟨rfl, g9, rfl⟩
                have W8 := W7
                have J8 := J7
                have FN8 := FN7
                clear S1 W7 J7 FN7 FA7 FB7
                have W9 := Lib.hid (W8.out.below g9.below)
                have J9 := Lib.hid (J8.out.below g9.below)
                have FN9 := Lib.hid (FN8.out.keep (Nat.le_refl _) g9.below)
                generalize g9.val = w9 at *
                have O9 := Lib.hid (Open_ok J9.out.dw HH7.out.half.sm (HH7.out.opens HC7.out.on))
                clear W8 J8 FN8
                go_wp2_with fail
                refine O9.out.mono ?_
                rintro _ w10 ⟨F10, b10, ao10, c10, L10, rfl, j10, tb10, hb10, fr10, tl10⟩
                have J10 := Lib.hid (J9.out.did j10.dw tb10.t tb10.fb)
                have W10 := Lib.hid (W9.out.trans tb10)
                have FN10 := Lib.hid (FN9.out.went (tb10.went (b := b7)))
                have hl10 : L10.length = RR.length := by have := congrArg List.length tl10; simpa [told] using this
                have SA := Lib.hid (SameFrames_any (fr10.reads hl10).1.rd (FN10.out.reads HL7.out).1.rd (rows_small HH7.out.half.ok tl10) (rows_small HH7.out.half.ok TL7.out) (by have h1 := rows_len (R := RR); have h2 := HH7.out.half.len; omega))
                have e10 : decide (told L10 = told L7) = true := by rw [tl10, TL7.out]; exact decide_eq_true rfl
                rw [e10] at SA
                clear O9 j10 tb10 fr10 tl10 hl10 e10 J9 W9 FN9
                go_wp2_with fail
                refine SA.out.mono ?_
                rintro _ _ ⟨rfl, g11, rfl⟩
                have W11 := Lib.hid (W10.out.below g11.below)
                have J11 := Lib.hid (J10.out.below g11.below)
                have FN11 := Lib.hid (FN10.out.keep (Nat.le_refl _) g11.below)
                generalize g11.val = w11 at *
                clear SA W10 J10 FN10
                go_wp2_with fail
                go_roundw
                case rel => exact ⟨i + 1, F10, A7, b7, j', ao7, RR.length, c7, L7, by omega, by go_num, rfl, rfl, HL7.out, J11.out, by rw [TL7.out]; exact HH7.out, HC7.out, W11.out, hb7, FN11.out, by have h1 := HTn.out; have h2 := hjt'; omega⟩
                case measure => simp [intOf]; omega
              | false =>
                rw [hd] at S1
                have hne := of_decide_eq_false hd
                have he2 : told L7 = told L2 := HRR.out.elim (fun h => absurd (TL7.out.trans h) hne) fun h => TL7.out.trans h
                have HE2 := Lib.hid (decide_eq_true he2)
                clear hd hne he2
                go_wp2_with fail
                refine S1.out.mono ?_
                rintro _ _ ⟨rfl, g8, rfl⟩
                have W8 := Lib.hid (W7.out.below g8.below)
                have J8 := Lib.hid (J7.out.below g8.below)
                have FN8 := Lib.hid (FN7.out.keep (Nat.le_refl _) g8.below)
                have FB8 := Lib.hid (FB7.out.keep (Nat.le_refl _) g8.below)
                generalize g8.val = w8 at *
                have S2 := Lib.hid (SameFrames_any (FN8.out.reads HL7.out).1.rd (FB8.out.reads HN2.out).1.rd (rows_small HH7.out.half.ok TL7.out) (rows_small OK2.out rfl) (by omega))
                rw [HE2.out] at S2
                clear S1 W7 J7 FN7 FA7 FB7
                go_wp2_with fail
                refine S2.out.mono ?_
                rintro _ _ ⟨rfl, g9, rfl⟩
                clear S2 FB8
                have W9 := Lib.hid (W8.out.below g9.below)
                have J9 := Lib.hid (J8.out.below g9.below)
                have FN9 := Lib.hid (FN8.out.keep (Nat.le_refl _) g9.below)
                generalize g9.val = w9 at *
                have O9 := Lib.hid (Open_ok J9.out.dw HH7.out.half.sm (HH7.out.opens HC7.out.on))
                clear W8 J8 FN8
                go_wp2_with fail
                refine O9.out.mono ?_
                rintro _ w10 ⟨F10, b10, ao10, c10, L10, rfl, j10, tb10, hb10, fr10, tl10⟩
                have J10 := Lib.hid (J9.out.did j10.dw tb10.t tb10.fb)
                have W10 := Lib.hid (W9.out.trans tb10)
                have FN10 := Lib.hid (FN9.out.went (tb10.went (b := b7)))
                have hl10 : L10.length = RR.length := by have := congrArg List.length tl10; simpa [told] using this
                have SA := Lib.hid (SameFrames_any (fr10.reads hl10).1.rd (FN10.out.reads HL7.out).1.rd (rows_small HH7.out.half.ok tl10) (rows_small HH7.out.half.ok TL7.out) (by have h1 := rows_len (R := RR); have h2 := HH7.out.half.len; omega))
                have e10 : decide (told L10 = told L7) = true := by rw [tl10, TL7.out]; exact decide_eq_true rfl
                rw [e10] at SA
                clear O9 j10 tb10 fr10 tl10 hl10 e10 J9 W9 FN9
                go_wp2_with fail
                refine SA.out.mono ?_
                rintro _ _ ⟨rfl, g11, rfl⟩
                have W11 := Lib.hid (W10.out.below g11.below)
                have J11 := Lib.hid (J10.out.below g11.below)
                have FN11 := Lib.hid (FN10.out.keep (Nat.le_refl _) g11.below)
                generalize g11.val = w11 at *
                clear SA W10 J10 FN10
                go_wp2_with fail
                go_roundw
                case rel => exact ⟨i + 1, F10, A7, b7, j', ao7, RR.length, c7, L7, by omega, by go_num, rfl, rfl, HL7.out, J11.out, by rw [TL7.out]; exact HH7.out, HC7.out, W11.out, hb7, FN11.out, by have h1 := HTn.out; have h2 := hjt'; omega⟩
                case measure => simp [intOf]; omega
        · have hk1 : (i : Int) < n := by omega
          have hk2 : ¬ (i : Int) < 4 := by omega
          go_wp2_with fail
          refine HK.out.mono ?_
          rintro _ _ ⟨rfl, g, rfl⟩
          have B := Lib.hid (HBw.out.trans (g.below.mono HBw.out.size))
          go_wp2
          go_ret
          exact Ret.mk_of B.out rfl
      · have hk1 : ¬ (i : Int) < n := by omega
        go_wp2_with fail
        refine HK.out.mono ?_
        rintro _ _ ⟨rfl, g, rfl⟩
        have B := Lib.hid (HBw.out.trans (g.below.mono HBw.out.size))
        go_wp2
        go_ret
        exact Ret.mk_of B.out rfl
end Go.Proofs.Ytaigdbnfhehclaa
