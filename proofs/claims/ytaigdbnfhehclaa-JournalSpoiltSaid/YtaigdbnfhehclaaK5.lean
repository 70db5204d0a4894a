/- What is proved: Pick; the walk of JournalSpoilt. No condition but those each law names. -/
import Derived.Test.YtaigdbnfhehclaaQD
namespace Go.Proofs.Ytaigdbnfhehclaa
open Go.RowKit
open Sx (Ab DW Turns Did Foot z128 padN CrashTo)
set_option maxRecDepth 100000

theorem tmod_pos {v n : Int} (h : 1 ≤ n) : -n < v.tmod n ∧ v.tmod n < n ∧ (v.tmod n < 0 → v.tmod n + n = v % n) ∧ (¬ v.tmod n < 0 → v.tmod n = v % n) := by
  have h0 : v.tmod n = v % n - if 0 ≤ v ∨ n ∣ v then 0 else n.natAbs := Int.tmod_eq_emod
  have h1 := Int.emod_nonneg v (show n ≠ 0 by omega)
  have h2 := Int.emod_lt_of_pos v (show 0 < n by omega)
  have h3 : (n.natAbs : Int) = n := by omega
  rw [h0]
  split
  · omega
  · rename_i hh
    rw [h3]
    have : v % n ≠ 0 := fun e => hh (.inr (Int.dvd_of_emod_eq_zero e))
    omega

theorem Pick_any (v n : Int) (h1 : 1 ≤ n) (h2 : n ≤ 4611686018427387904) (w : World) : Calls Try.prog 10 #[.int .i64 v, .int .i64 n] w (Ret (.int .i64 (v % n)) w) := by
  obtain ⟨a, b, c, d⟩ := tmod_pos (v := v) h1
  have hw : IntKind.i64.wrap (v.tmod n) = v.tmod n := by rw [IntKind.wrap_i64]; omega
  have hn : ¬ n < 1 := by omega
  have hz : (n == 0) = false := by simp; omega
  obtain ⟨r, hr⟩ : ∃ r, r = v.tmod n := ⟨_, rfl⟩
  rw [← hr] at a b c d hw
  have hr' : v.tmod n = r := hr.symm
  clear hr
  by_cases hneg : r < 0
  · have hc := c hneg
    have hs : IntKind.i64.wrap (r + n) = r + n := by rw [IntKind.wrap_i64]; omega
    have HC : Hid (r + n = v % n) := hc
    clear hc c d
    go_enter Try.func10, Try.ntmps10
    go_wp2
    go_ret
    refine Ret.mk_of (by (repeat' (first | (with_reducible exact Below.refl _ _) | (with_reducible assumption) | (with_reducible refine Ext.up _ ?_) | (with_reducible refine Below.alloc ?_ ?_ _) | (with_reducible refine Below.drew ?_) | (with_reducible refine Below.setCell ?_ ?_ _) | (with_reducible refine Below.setRow_ ?_ ?_ _) | go_size))) ?_
    exact congrArg (Value.int .i64) HC.out
  · have hd := d hneg
    have HD : Hid (r = v % n) := hd
    clear hd c d
    go_enter Try.func10, Try.ntmps10
    go_wp2
    go_ret
    refine Ret.mk_of (by (repeat' (first | (with_reducible exact Below.refl _ _) | (with_reducible assumption) | (with_reducible refine Ext.up _ ?_) | (with_reducible refine Below.alloc ?_ ?_ _) | (with_reducible refine Below.drew ?_) | (with_reducible refine Below.setCell ?_ ?_ _) | (with_reducible refine Below.setRow_ ?_ ?_ _) | go_size))) ?_
    exact congrArg (Value.int .i64) HD.out

theorem bit_facts {bit : Nat} (h : bit < 16) : ∃ q m : Nat, q < 2 ∧ m < 8 ∧ (bit : Int) / 8 = q ∧ (bit : Int).tdiv 8 = q ∧ (bit : Int) % 8 = m ∧ (bit : Int).tmod 8 = m ∧ 4 + q < 128 ∧ (4 : Int) + q < 128 ∧ ((4 : Int) + q).toNat = 4 + q ∧ wrap64 (4 + (q : Int)) = 4 + q := by
  refine ⟨bit / 8, bit % 8, by omega, by omega, by omega, ?_, by omega, ?_, by omega, by omega, by omega, IntWalk.wrap64_in _ (by omega)⟩
  · rw [Int.tdiv_eq_ediv_of_nonneg (by omega)]; omega
  · rw [Int.tmod_eq_emod_of_nonneg (by omega)]; omega
theorem cell_set {w : World} {b i j : Nat} {v x : Value} (hi : w.cell? ⟨b, i, none⟩ = some x) : (w.setCell ⟨b, i, none⟩ v).cell? ⟨b, j, none⟩ = if j = i then some v else w.cell? ⟨b, j, none⟩ := by
  unfold World.cell? at *
  simp only [heap_setCell_at, if_true]
  cases hh : w.heap[b]? with
  | none => simp [hh] at hi
  | some ob =>
    cases ob with
    | cells c e fr =>
      simp only [hh, Option.map_some] at hi ⊢
      have hi2 : i < c.size := by
        rcases Nat.lt_or_ge i c.size with h | h
        · exact h
        · rw [Array.getElem?_eq_none h] at hi; cases hi
      simp only [Array.getElem?_setIfInBounds]
      by_cases e1 : j = i
      · subst e1; simp [hi2]
      · have e2 : ¬ i = j := fun h => e1 h.symm
        simp [e1, e2]
    | _ => simp [hh] at hi
theorem sl_set {w : World} {b o n c k z : Nat} {l : List Nat} (h : Sl w (some ⟨b, o, none⟩) n c (bts l)) (hk : k < n) : Sl (w.setCell ⟨b, o + k, none⟩ (.int .u8 (z : Int))) (some ⟨b, o, none⟩) n c (bts (l.set k z)) := by
  obtain ⟨b2, o2, e, hlt, hc⟩ := h.at (by omega)
  cases e
  have hl : l.length = n := by have := h.len; rw [bts_length] at this; exact this
  refine ⟨by rw [bts_length, List.length_set]; exact hl, h.le, (fun e => by cases e), .inr ⟨b, o, rfl, fun j x hj => ?_⟩⟩
  have hx := hc k _ (by rw [bts_get, List.getElem?_eq_getElem (by omega)]; rfl)
  rw [cell_set hx]
  rw [bts_get, List.getElem?_set] at hj
  by_cases e1 : k = j
  · subst e1
    rw [if_pos rfl, if_pos (by omega)] at hj
    cases hj
    rw [if_pos rfl]
  · rw [if_neg e1] at hj
    rw [if_neg (by omega)]
    exact hc j x (by rw [bts_get]; exact hj)
theorem tb_set {F F1 : Foot} {w w1 : World} {b k : Nat} {v : Value} (h : TB F w F1 w1) (hb : (∃ x, F b x) ∨ w.heap.size ≤ b) : TB F w F1 (w1.setCell ⟨b, k, none⟩ v) :=
  ⟨⟨h.t.os, h.t.tape, h.t.output, by have := h.t.size; simpa using this, fun i hi hf => by
    have hne : i ≠ b := fun e => by
      subst e
      rcases hb with ⟨x, hx⟩ | hb
      · exact hf x hx
      · omega
    exact (heap_setCell_other _ _ _ _ hne).trans (h.t.block i hi hf)⟩, h.fb⟩
theorem padN_full {l : List Nat} (h : l.length = 128) : padN l = l := by
  unfold Sx.padN
  rw [h]
  simp
def m40 (n : Nat) : Nat := min n 40
theorem run_min40 (ts : Array TypeId) (t : TypeId) (n : Nat) (w : World) : (Builtin.min_ ts t #[.int .i64 (n : Int), .int .i64 40]).run Try.prog w = .ok (.int .i64 (m40 n : Nat)) w := by
  simp [Builtin.min_, Builtin.min2, m40]
  split <;> omega
attribute [local go_sem ↓] run_min40
set_option maxHeartbeats 4000000 in
theorem Spoilt_any {ao : Option Addr} {n c : Nat} {l : List Int} (x y : Int) (w : World) (sl : Sl w ao n c (l.map (Value.int .i64))) : Calls Try.prog 3 #[.slice ao n c, .int .i64 x, .int .i64 y] w (Ret (.bool true) w) := by
  have hln : l.length = n := by have := sl.len; simpa using this
  have SL := Lib.hid sl
  go_enter Try.func3, Try.ntmps3
  go_wp2_with fail
  refine (Sx.new_w w).mono ?_
  rintro _ w1 ⟨db, dof, F1, rfl, d1, hb1, hF1⟩
  obtain ⟨A1, ho1, hh1, hc1, _⟩ := open_new (A := Sx.ab0) calm_ab0 sm_ab0 (turnA_z rfl) (turnA_z rfl) (fun k _ _ => rfl)
  have O1 := Lib.hid (Open_ok d1 sm_ab0 ho1)
  have HB1 := Lib.hid hb1
  have HF1 := Lib.hid hF1
  clear d1 hb1 hF1 sl
  go_wp2_with fail
  refine O1.out.mono ?_
  rintro _ w2 ⟨F2, b, ao2, c2, L2, rfl, j2, tb2, hb2, fr2, tl2⟩
  have T2 := Lib.hid tb2
  have J2 := Lib.hid j2
  have HH := Lib.hid hh1
  have HC := Lib.hid hc1
  clear O1 j2 tb2 fr2 tl2 hh1 hc1 ho1
  have hm1 : m40 n ≤ n := by unfold m40; omega
  have hm2 : m40 n ≤ 40 := by unfold m40; omega
  generalize hN : m40 n = N at *
  go_wp2_with fail
  go_loopw [12] (fun v12 wr => ∃ (i : Nat) (F : Foot) (A : Ab) (j : Jr), i ≤ N ∧ v12 = .int .i64 i ∧ JD wr F (.pointer (some ⟨db, dof, none⟩)) A b j ∧ Holds A j (rks l i) ∧ Calm A ∧ TB F1 w1 F wr ∧ j.first = 0) (fun v12 _ => N - (intOf v12).toNat)
  case atStart => exact ⟨0, F2, A1, newJ, Nat.zero_le _, rfl, J2.out, HH.out, HC.out, T2.out, rfl⟩
  case round =>
    obtain ⟨i, F, A, j, hi, rfl, hj, hh, hc, ht, hf⟩ := hrel
    have hB := tb_below HB1.out ht HF1.out
    have hs := SL.out.keep (Nat.le_refl _) hB
    by_cases hlt : i < N
    · have hlt2 : (i : Int) < N := by omega
      obtain ⟨bk, ok, rfl, hbk, hck⟩ := hs.at (by omega)
      obtain ⟨v, hv⟩ : ∃ v, l[i]? = some v := ⟨_, List.getElem?_eq_getElem (by omega)⟩
      have hx := hck i _ (by rw [List.getElem?_map, hv]; rfl)
      have hin : (i : Int) < n := by omega
      have PK := Lib.hid (Pick_any v 254 (by decide) (by decide) wr)
      have hgd : l.getD i 0 = v := by rw [List.getD_eq_getElem?_getD, hv]; rfl
      have HJ := Lib.hid hj
      have HHo := Lib.hid hh
      have HCa := Lib.hid hc
      have HT := Lib.hid ht
      have HBl := Lib.hid hB
      clear hj hh hc ht hB hs hck
      have e1 : wrap64 (1 + v % 254) = 1 + v % 254 := IntWalk.wrap64_in _ (by omega)
      have e2 : IntKind.u8.wrap (i : Int) = i := by rw [IntKind.wrap_u8]; omega
      go_wp2_with fail
      refine PK.out.mono ?_
      rintro _ _ ⟨rfl, g, rfl⟩
      have hj2 := HJ.out.below g.below
      have HT2 := Lib.hid (HT.out.below g.below)
      generalize g.val = w3 at *
      have hj3 := hj2.below (below1 w3 (.cells #[.int .u8 (i : Int), .int .u8 9] 5))
      have HT3 := Lib.hid (HT2.out.below (below1 w3 (.cells #[.int .u8 (i : Int), .int .u8 9] 5)))
      have P := Lib.hid (Append_ok hj3 HHo.out HCa.out (rk_ok l (i := i) (by omega)) (by rw [secL_rks_len, rk_npc]; omega) (kind := 1 + v % 254) (by unfold rk; rw [hgd]) (sl_marked w3 #[.int .u8 (i : Int), .int .u8 9] 5 2 w3.heap.size (0, 0) rfl rfl) (apart_new hj2 _))
      clear PK HJ hj2 hj3 HT HHo HCa
      go_wp2_with fail
      refine P.out.mono ?_
      rintro _ w4 ⟨rfl, F4, A4, j4, d4, wt4, hh4, hc4, e4⟩
      have HT4 := Lib.hid (HT3.out.new wt4 hb2)
      have f4 : j4.first = 0 := by rw [e4]; exact hf
      rw [← rks_succ] at hh4
      have D4 := Lib.hid d4
      have H4 := Lib.hid hh4
      have C4 := Lib.hid hc4
      clear P d4 hh4 hc4 wt4 e4
      go_wp2_with fail
      go_roundw
      case rel => exact ⟨i + 1, F4, A4, j4, by omega, by go_num, D4.out, H4.out, C4.out, HT4.out, f4⟩
      case measure => simp [intOf]; omega
    · obtain rfl : i = N := by omega
      have HJ := Lib.hid hj
      have HHo := Lib.hid hh
      have HCa := Lib.hid hc
      have HT := Lib.hid ht
      have HBl := Lib.hid hB
      clear hj hh hc ht hB hs
      by_cases h0 : i = 0
      · have h0' : (i : Int) = 0 := by omega
        go_wp2_with fail
        refine (Known_any wr).mono ?_
        rintro _ _ ⟨rfl, g, rfl⟩
        have hB2 := Lib.hid (HBl.out.trans (g.below.mono HBl.out.size))
        go_wp2_with fail
        go_ret
        exact Ret.mk_of hB2.out rfl
      · have h0' : ((i : Int) == 0) = false := by rw [beq_eq_false_iff_ne]; omega
        have PK := Lib.hid (Pick_any x i (by omega) (by omega) wr)
        go_wp2_with fail
        refine PK.out.mono ?_
        rintro _ _ ⟨rfl, g, rfl⟩
        obtain ⟨at_, hat, hat2⟩ : ∃ at_ : Nat, x % (i : Int) = at_ ∧ at_ < i := by
          have h1 := Int.emod_nonneg x (show (i : Int) ≠ 0 by omega)
          have h2 := Int.emod_lt_of_pos x (show (0 : Int) < i by omega)
          exact ⟨(x % (i : Int)).toNat, by omega, by omega⟩
        rw [hat]
        have hj2 := HJ.out.below g.below
        have HT2 := Lib.hid (HT.out.below g.below)
        generalize g.val = w3 at *
        have e1 : wrap64 (1 + (at_ : Int)) = 1 + at_ := IntWalk.wrap64_in _ (by omega)
        have hsee : A.see (1 + (at_ : Int)) = some (sp l at_) := by
          have := HHo.out.half.body at_ (sp l at_) (by rw [secL_rks, List.getElem?_map, List.getElem?_range hat2]; simp [sp_eq])
          rw [← this, hf]
          rfl
        obtain ⟨S, hS⟩ : ∃ S, S = sp l at_ := ⟨_, rfl⟩
        rw [← hS] at hsee
        have hSl : S.length = 128 := by rw [hS]; exact sp_len l at_
        have hSs : Small S := by rw [hS]; exact sp_small l (by omega)
        have HS := Lib.hid hS
        clear hS
        have R := Lib.hid (read_some hj2.dw (i := 1 + at_) (by omega) hsee)
        clear PK HJ hj2 HT
        go_wp2_with fail
        refine R.out.mono ?_
        rintro _ w4 ⟨F4, bb, oo, cc, rfl, d4, t4, fb4, -, sl4, ap4⟩
        have HT4 := Lib.hid (HT2.out.trans ⟨t4, fb4⟩)
        have PK2 := Lib.hid (Pick_any y 16 (by decide) (by decide) w4)
        have D4 := Lib.hid d4
        have S4 := Lib.hid sl4
        have AP4 := Lib.hid ap4
        clear R d4 t4 fb4 sl4 ap4
        go_wp2_with fail
        refine PK2.out.mono ?_
        rintro _ _ ⟨rfl, g5, rfl⟩
        obtain ⟨bit, hbit, hbit2⟩ : ∃ bit : Nat, y % 16 = bit ∧ bit < 16 := by
          have h1 := Int.emod_nonneg y (show (16 : Int) ≠ 0 by decide)
          have h2 := Int.emod_lt_of_pos y (show (0 : Int) < 16 by decide)
          exact ⟨(y % 16).toNat, by omega, by omega⟩
        rw [hbit]
        have D5 := Lib.hid (D4.out.below g5.below)
        have S5 := S4.out.ext g5
        have T5 := Lib.hid (HT4.out.below g5.below)
        have fz5 : ∀ k, k < 128 → g5.val.frozen? ⟨bb, oo + k, none⟩ = false := fun k hk => by
          obtain ⟨bx, ox, ex, hlt, _⟩ := S4.out.at (by decide)
          cases ex
          have e := g5.below.block bb hlt
          have := (AP4.out k hk).2.1
          unfold World.frozen? at *
          rw [e]
          exact this
        have ap5 : ∀ k, k < 128 → ¬ F4 bb (oo + k) := fun k hk => (AP4.out k hk).1
        generalize g5.val = w5 at *
        obtain ⟨q, m, hq2, hm2, q1, q2, m1, m2', hq6, hqi, hqt, w45⟩ := bit_facts hbit2
        obtain ⟨z, hz⟩ : ∃ z, S[4 + q]? = some z := ⟨_, List.getElem?_eq_getElem (by rw [hSl]; exact hq6)⟩
        obtain ⟨bx, ox, ex, hlt5, hc5⟩ := S5.at (by decide)
        cases ex
        have hz2 := hSs.at hz
        have c5 : w5.cell? ⟨bb, oo + (4 + q), none⟩ = some (.int .u8 z) := hc5 (4 + q) _ (by rw [bts_get, hz]; rfl)
        have f5 := fz5 (4 + q) hq6
        have HSee := Lib.hid hsee
        have HSl := Lib.hid hSl
        have HZ2 := Lib.hid hz2
        have FB := Lib.hid (fun k (hk : k < 128) => (AP4.out k hk).2.2)
        have hw3 := Lib.hid HT2.out.t.size
        have hw4 := Lib.hid HT4.out.t.size
        clear PK2 hc5 fz5 D4 S4 AP4 HT4 w45 hqt hqi q1 m1 hz2 hsee hSl
        go_wp2_with fail
        have hv : bits .xor .u8 (z : Int) (2 ^ m % 256) = ((z ^^^ 2 ^ m : Nat) : Int) := by
          have hp := two_pow_small hm2
          have e8 : ((2 : Int) ^ m % 256) = ((2 ^ m : Nat) : Int) := by
            rw [show ((2 : Int) ^ m) = ((2 ^ m : Nat) : Int) by simp]
            generalize 2 ^ m = p at *
            omega
          rw [e8]
          exact u8_xor_nat z (2 ^ m) HZ2.out hp
        rw [hv]
        have hsq : S.set (4 + q) (z ^^^ 2 ^ m) = sq l at_ q m := by
          unfold sq
          rw [← HS.out, List.getD_eq_getElem?_getD, hz]
          rfl
        have D6 := Lib.hid (show DW (w5.setCell ⟨bb, oo + (4 + q), none⟩ (.int .u8 ((z ^^^ 2 ^ m : Nat) : Int))) F4 (.pointer (some ⟨db, dof, none⟩)) A from D5.out.keep (S := fun i x => i = bb ∧ oo + (4 + q) ≤ x ∧ x < oo + (4 + q) + [Value.int .u8 ((z ^^^ 2 ^ m : Nat) : Int)].length) (Sx.Fr.setCells w5 bb (oo + (4 + q)) [.int .u8 ((z ^^^ 2 ^ m : Nat) : Int)]) (fun i x hf hs => ap5 (4 + q) hq6 (by
          obtain ⟨rfl, h1, h2⟩ := hs
          have : x = oo + (4 + q) := by simp only [List.length_singleton] at h2; omega
          rw [← this]; exact hf)))
        have S6 : Sl (w5.setCell ⟨bb, oo + (4 + q), none⟩ (.int .u8 ((z ^^^ 2 ^ m : Nat) : Int))) (some ⟨bb, oo, none⟩) 128 cc (bts (sq l at_ q m)) := by
          rw [← hsq]
          exact sl_set S5 hq6
        have T6 := Lib.hid (tb_set (k := oo + (4 + q)) (v := .int .u8 ((z ^^^ 2 ^ m : Nat) : Int)) T5.out (b := bb) (by
          rcases FB.out (4 + q) hq6 with h | h
          · exact (HT2.out.fb _ _ h).imp (fun h => ⟨_, h⟩) id
          · exact .inr (Nat.le_trans hw3.out h)))
        have WR := Lib.hid (Sx.write_w D6.out (i := 1 + at_) (by omega) S6 (Nat.le_refl 128) (fun k o j e hj => by cases e; exact ap5 j hj))
        generalize hw6 : w5.setCell ⟨bb, oo + (4 + q), none⟩ (.int .u8 ((z ^^^ 2 ^ m : Nat) : Int)) = w6 at *
        rw [(HCa.out.wr _ _).1, (HCa.out.wr _ _).2] at WR
        clear D6 S5 S6 T5 FB hw3 hw4 hv hsq c5 f5
        refine WR.out.mono ?_
        rintro _ w7 h7
        obtain ⟨rfl, F7, d7, tb7⟩ := did_tb h7
        have hc7 := HCa.out.put (1 + at_) (sq l at_ q m)
        have SY := Lib.hid (Sx.sync_w d7)
        rw [hc7.syc.1, hc7.syc.2] at SY
        have T7 := Lib.hid (T6.out.trans tb7)
        clear WR h7 d7 tb7
        go_wp2_with fail
        refine SY.out.mono ?_
        rintro _ w8 h8
        obtain ⟨rfl, F8, d8, tb8⟩ := did_tb h8
        have T8 := Lib.hid (T7.out.trans tb8)
        have hsm8 : Ab.Sm (A.put (1 + at_) (sq l at_ q m)).sy := sm_sy (sm_put HHo.out.half.sm _ (sq_small l (by omega) hm2))
        obtain ⟨o1, o2⟩ := spoilt_sees (A' := (A.put (1 + at_) (sq l at_ q m)).sy) HHo.out hf (by omega) hat2 hq2 hm2 hsm8 (fun k => by rw [sy_see, put_see, padN_full (sq_len l at_ q m)]) hc7.sy (fun k => rfl)
        have D8 := Lib.hid d8
        have O1 := Lib.hid o1
        have O2 := Lib.hid o2
        have SM8 := Lib.hid hsm8
        generalize (A.put (1 + at_) (sq l at_ q m)).sy = A8 at *
        clear SY h8 d8 tb8 o1 o2 hsm8
        have ei : wrap64 ((i : Int) - 1) = i - 1 := IntWalk.wrap64_in _ (by omega)
        by_cases hlt3 : at_ < i - 1
        · have hlt4 : (at_ : Int) < i - 1 := by omega
          have q9 := O1.out hlt3
          have OP := Lib.hid (Open_bad (k := 6) (A' := A8) D8.out SM8.out (by decide) (by rw [q9]) (by rw [q9]))
          clear q9 O1 O2
          go_wp2_with fail
          refine OP.out.mono ?_
          rintro _ w9 ⟨rfl, F9, d9, tb9⟩
          have T9 := Lib.hid (T8.out.trans tb9)
          clear OP d9 tb9
          go_wp2_with fail
          refine (Known_any w9).mono ?_
          rintro _ _ ⟨rfl, g, rfl⟩
          have hB2 := Lib.hid (tb_below HB1.out (T9.out.below g.below) HF1.out)
          go_wp2_with fail
          go_ret
          exact Ret.mk_of hB2.out rfl
        · have hlt4 : ¬ (at_ : Int) < i - 1 := by omega
          obtain ⟨A9, j9, q9, hsm9⟩ := O2.out (by omega)
          have hlen : (rks l (i - 1)).length = i - 1 := rks_len l (i - 1)
          have OP := Lib.hid (Open_ok D8.out SM8.out q9)
          rw [hlen] at OP
          clear q9 O1 O2
          go_wp2_with fail
          refine OP.out.mono ?_
          rintro _ w9 ⟨F9, b9, ao9, c9, L9, rfl, j9', tb9, hb9, fr9, tl9⟩
          have T9 := Lib.hid (T8.out.trans tb9)
          have ei2 : ((i - 1 : Nat) : Int) = i - 1 := by omega
          clear OP j9' tb9 fr9 tl9
          go_wp2_with fail
          refine (Known_any w9).mono ?_
          rintro _ _ ⟨rfl, g, rfl⟩
          have hB2 := Lib.hid (tb_below HB1.out (T9.out.below g.below) HF1.out)
          go_wp2_with fail
          go_ret
          exact Ret.mk_of hB2.out rfl
end Go.Proofs.Ytaigdbnfhehclaa
