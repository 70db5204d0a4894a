/- What is proved: the walk of FrameTurned of layer 4. No condition. -/
import Derived.Test.YtjmhnflogbihdaaX2
import Derived.Deep.DeepCutAuto
namespace Go.Proofs.Ytjmhnflogbihdaa
open Go.RowKit

/-- The cells of an argument: its kind, its place, its body, its bits. -/
def turnedCells (K A : Int) (body : Value) (b : Nat) : Array Value := #[.int .i64 K, .int .i64 A, body, .int .u32 (b : Int)]

theorem Put_good_int {w : World} {ao : Option Addr} {n c : Nat} {l : List Nat} {k : Nat} (hl : Sl w ao n c (bts l)) (hs : Small l) (hn : n ≤ 400) (hk2 : k < 255) :
    Calls Try.prog 11 #[.int .i64 (1 + (k : Int)), .slice ao n c] w (fun e w' => ∃ ao cap, e = .returned (.tuple #[.slice ao (n + 7) cap, .int .i64 0]) ∧ Below w.heap.size w w' ∧ w'.ownsRow w.heap.size 5 1 (.slice ao (n + 7) cap) (n + 7) (bts (fr (1 + k) l))) := by
  have := Put_good (k := 1 + k) hl hs hn (by omega) (by omega)
  rwa [show ((1 + k : Nat) : Int) = 1 + (k : Int) by omega] at this

theorem Put_long {w : World} {ao : Option Addr} {n c : Nat} {k : Nat} (hn : 400 < n) (hk2 : k < 255) :
    Calls Try.prog 11 #[.int .i64 (1 + (k : Int)), .slice ao n c] w (fun e w' => ∃ ao cap, e = .returned (.tuple #[.slice ao 0 cap, .int .i64 5]) ∧ Below w.heap.size w w') := by
  have h2 : ¬ (1 : Int) + k < 1 := by omega
  have h3 : ¬ (255 : Int) < 1 + k := by omega
  have h4' : (400 : Int) < n := by omega
  go_enter Try.func11, Try.ntmps11
  go_wp2
  go_ret2
  exact ⟨⟨none, 0, rfl⟩, Below.refl _ _⟩

theorem Pick_in (v n : Int) (h1 : 1 ≤ n) (h2 : n ≤ 4611686018427387904) (w : World) : Calls Try.prog 19 #[.int .i64 v, .int .i64 n] w (fun e w' => ∃ t : Nat, (t : Int) < n ∧ e = .returned (.int .i64 (t : Int)) ∧ ∃ g : Ext w, w' = g.val) := by
  obtain ⟨m, rfl⟩ := Int.eq_ofNat_of_zero_le (show 0 ≤ n by omega)
  refine (Pick_nat v m (by omega) (by omega) w).mono fun e w' ⟨t, h, r⟩ => ⟨t, by omega, r⟩

theorem bit_test (X j : Nat) : ((X : Int) / 2 ^ j).tmod 2 = ((X / 2 ^ j % 2 : Nat) : Int) := by
  have : ((X : Int) / 2 ^ j) = ((X / 2 ^ j : Nat) : Int) := by simp
  rw [this, Int.tmod_eq_emod_of_nonneg (Int.natCast_nonneg _), Int.natCast_emod]
  rfl
theorem bit_more (X j a : Nat) (h : X / 2 ^ j % 2 = 1) : X % 2 ^ (j + 1) * 2 ^ a = (X % 2 ^ j * 2 ^ a) ^^^ 2 ^ (a + j) := by
  have e : X % 2 ^ (j + 1) = X % 2 ^ j ^^^ (2 ^ j * 1) := by
    rw [Nat.mod_pow_succ, h]
    exact add_xor j _ 1 (Nat.mod_lt _ (Nat.two_pow_pos j))
  rw [e]
  have := @Nat.shiftLeft_xor_distrib a (X % 2 ^ j) (2 ^ j * 1)
  rw [Nat.shiftLeft_eq, Nat.shiftLeft_eq, Nat.shiftLeft_eq] at this
  rw [this, Nat.pow_add, Nat.mul_one, Nat.mul_comm (2 ^ a)]
theorem bit_same (X j : Nat) (h : ¬ X / 2 ^ j % 2 = 1) : X % 2 ^ (j + 1) = X % 2 ^ j := by
  rw [Nat.mod_pow_succ, show X / 2 ^ j % 2 = 0 by omega, Nat.mul_zero, Nat.add_zero]
theorem bts_set (l : List Nat) (j x : Nat) : bts (l.set j x) = (bts l).set j (.int .u8 (x : Int)) := by unfold bts; rw [List.map_set]
theorem Small.set {l : List Nat} (h : Small l) (j : Nat) {x : Nat} (hx : x < 256) : Small (l.set j x) := fun y hy => by
  rcases List.mem_or_eq_of_mem_set hy with h1 | h1
  · exact h y h1
  · rw [h1]; exact hx
theorem pow_small (s : Nat) (h : s < 8) : 2 ^ s < 256 := by
  have : 2 ^ s ≤ 2 ^ 7 := Nat.pow_le_pow_right (by decide) (by omega)
  omega

/-- Where bits are turned. -/
def Span (n a E : Nat) : Prop := (a < E ∧ E = 8) ∨ (24 ≤ a ∧ a < E ∧ E = 24 + 8 * n) ∨ (24 + 8 * n ≤ a ∧ a < E ∧ E = 8 * (n + 7))
def Way1 (n : Nat) (w : World) (x y : Value) (wr : World) : Prop := ∃ a E : Nat, a < 8 * (n + 7) ∧ x = .int .i64 a ∧ y = .int .i64 E ∧ wr = w ∧ ((a < E ∧ E = 8) ∨ (24 ≤ a ∧ E = 24 + 8 * n))
def Way2 (n a : Nat) (w : World) (y : Value) (wr : World) : Prop := ∃ E : Nat, y = .int .i64 E ∧ wr = w ∧ Span n a E

set_option maxRecDepth 100000 in
set_option maxHeartbeats 2000000 in
theorem FrameTurned_walk {w : World} {ao : Option Addr} {n c : Nat} {l : List Nat} (K A : Int) (b : Nat) (hb : b < 4294967296) (hl : Sl w ao n c (bts l)) (hs : Small l) (hmax : n ≤ 9223372036854775807) :
    Calls Try.prog 5 #[.agg (turnedCells K A (.slice ao n c) b)] w (Ret (.bool true) w) := by
  have hln : l.length = n := by rw [← hl.len, bts_length]
  unfold turnedCells
  have k0 := below1 w (.cells #[.int .i64 K, .int .i64 A, .slice ao n c, .int .u32 (b : Int)] 38)
  have l0 := hl.keep (Nat.le_refl _) k0
  by_cases hbig : 400 < n
  · have hbig' : (400 : Int) < n := by omega
    have r0 : (w.alloc (.cells #[.int .i64 K, .int .i64 A, .slice ao n c, .int .u32 (b : Int)] 38)).cell? ⟨w.heap.size, 0, none⟩ = some (.int .i64 K) := by go_simp
    have r1 : (w.alloc (.cells #[.int .i64 K, .int .i64 A, .slice ao n c, .int .u32 (b : Int)] 38)).cell? ⟨w.heap.size, 1, none⟩ = some (.int .i64 A) := by go_simp
    have r2 : (w.alloc (.cells #[.int .i64 K, .int .i64 A, .slice ao n c, .int .u32 (b : Int)] 38)).cell? ⟨w.heap.size, 2, none⟩ = some (.slice ao n c) := by go_simp
    have r3 : (w.alloc (.cells #[.int .i64 K, .int .i64 A, .slice ao n c, .int .u32 (b : Int)] 38)).cell? ⟨w.heap.size, 3, none⟩ = some (.int .u32 (b : Int)) := by go_simp
    have e0 := ext_cell r0
    have e1 := ext_cell r1
    have e2 := ext_cell r2
    have e3 := ext_cell r3
    clear r0 r1 r2 r3
    go_enter Try.func5, Try.ntmps5
    go_wp2
    (refine wp_region_grow (by kernel_rfl) (by kernel_rfl) ?_; (repeat (go_big_quiet_step ((fail)))); refine wpQuiet_nil ?_; rintro _ ⟨g, rfl⟩)
    have l1 := l0.ext g
    have k1 := g.up k0
    have z1 := k1.size
    go_wp2_with fail
    refine (Pick_nat K 255 (by decide) (by decide) _).mono ?_
    rintro _ _ ⟨q, hq, rfl, g2, rfl⟩
    have l2 := l1.ext g2
    have k2 := g2.up k1
    have z2 := k2.size
    go_wp2_with fail
    refine (Put_long hbig hq).mono ?_
    rintro _ w3 ⟨a3, c3, rfl, hb3⟩
    have k3 := k2.trans (hb3.mono z2)
    go_wp2_with ((go_at_call 9; refine (known_any _).mono ?_; rintro _ _ ⟨rfl, g8, rfl⟩))
    go_ret
    exact Ret.mk_of (g8.up k3) (by simp)
  · have hbig' : ¬ (400 : Int) < n := by omega
    obtain ⟨X, hX⟩ : ∃ X, X = b ||| 1 := ⟨_, rfl⟩
    have hor : bits .or .u32 (b : Int) 1 = (X : Int) := by rw [hX]; exact u32_or_nat b 1 hb (by decide)
    have hXl : X < 4294967296 := by rw [hX]; exact Nat.or_lt_two_pow (n := 32) hb (by decide)
    have hXo : X % 2 = 1 := by rw [hX]; simp
    have r0 : (w.alloc (.cells #[.int .i64 K, .int .i64 A, .slice ao n c, .int .u32 (b : Int)] 38)).cell? ⟨w.heap.size, 0, none⟩ = some (.int .i64 K) := by go_simp
    have r1 : (w.alloc (.cells #[.int .i64 K, .int .i64 A, .slice ao n c, .int .u32 (b : Int)] 38)).cell? ⟨w.heap.size, 1, none⟩ = some (.int .i64 A) := by go_simp
    have r2 : (w.alloc (.cells #[.int .i64 K, .int .i64 A, .slice ao n c, .int .u32 (b : Int)] 38)).cell? ⟨w.heap.size, 2, none⟩ = some (.slice ao n c) := by go_simp
    have r3 : (w.alloc (.cells #[.int .i64 K, .int .i64 A, .slice ao n c, .int .u32 (b : Int)] 38)).cell? ⟨w.heap.size, 3, none⟩ = some (.int .u32 (b : Int)) := by go_simp
    have e0 := ext_cell r0
    have e1 := ext_cell r1
    have e2 := ext_cell r2
    have e3 := ext_cell r3
    clear r0 r1 r2 r3
    go_enter Try.func5, Try.ntmps5
    go_wp2
    (refine wp_region_grow (by kernel_rfl) (by kernel_rfl) ?_; (repeat (go_big_quiet_step ((fail)))); refine wpQuiet_nil ?_; rintro _ ⟨g, rfl⟩)
    have l1 := l0.ext g
    have k1 := g.up k0
    have z1 := k1.size
    go_wp2_with fail
    refine (Pick_nat K 255 (by decide) (by decide) _).mono ?_
    rintro _ _ ⟨q, hq, rfl, g2, rfl⟩
    have l2 := l1.ext g2
    have k2 := g2.up k1
    have z2 := k2.size
    go_wp2_with fail
    refine (Put_good_int l2 hs (by omega) hq).mono ?_
    rintro _ w3 ⟨a3, c3, rfl, hb3, hown3⟩
    have p3 := Sl.own hown3
    have k3 := k2.trans (hb3.mono z2)
    have z3 := k3.size
    go_wp2_with fail
    refine (Pick_in A (8 * ((n : Int) + 7)) (by omega) (by omega) _).mono ?_
    rintro _ _ ⟨t, ht, rfl, g4, rfl⟩
    have p4 := p3.ext g4
    have k4 := g4.up k3
    have z4 := k4.size
    have ht' : t < 8 * (n + 7) := by omega
    clear e0 e1 e2 e3 g2 l0 k0 l1 k1 z1 l2 k2 z2 k3 z3 p3 hown3 hb3 hX
    go_upto_if 56 with fail
    go_cut [4, 8] (fun x y wr => Way1 n g4.val x y wr)
    case first =>
      by_cases h8 : t < 8
      · have h8' : ¬ (8 : Int) ≤ t := by omega
        go_wp2_with fail
        all_goals go_meet
        all_goals exact ⟨t, 8, ht', rfl, rfl, rfl, .inl ⟨h8, rfl⟩⟩
      · have h8' : (8 : Int) ≤ t := by omega
        by_cases h24 : t < 24
        · have h24' : (t : Int) < 24 := by omega
          go_wp2_with fail
          all_goals go_meet
          all_goals exact ⟨24, 24 + 8 * n, by omega, rfl, rfl, rfl, .inr ⟨by omega, rfl⟩⟩
        · have h24' : ¬ (t : Int) < 24 := by omega
          go_wp2_with fail
          all_goals go_meet
          all_goals exact ⟨t, 24 + 8 * n, ht', rfl, rfl, rfl, .inr ⟨by omega, rfl⟩⟩
    case rest =>
      obtain ⟨a, E, ha, rfl, rfl, rfl, hspan⟩ := hcut
      go_upto_if 65 with fail
      go_cut [8] (fun y wr => Way2 n a g4.val y wr)
      case first =>
        by_cases haE : a < E
        · have haE' : ¬ (E : Int) ≤ a := by omega
          go_wp2_with fail
          all_goals go_meet
          all_goals exact ⟨E, rfl, rfl, hspan.elim .inl fun h => .inr (.inl ⟨h.1, haE, h.2⟩)⟩
        · have haE' : (E : Int) ≤ a := by omega
          go_wp2_with fail
          all_goals go_meet
          all_goals exact ⟨8 * (n + 7), by go_num, rfl, .inr (.inr (by omega))⟩
      case rest =>
        clear hspan E
        obtain ⟨E, rfl, rfl, hspan⟩ := hcut
        go_wp2_with fail
        refine (CopyBytes_any p4 (by omega)).mono ?_
        rintro _ w5 ⟨a5, c5, rfl, hb5, hown5⟩
        obtain ⟨gb, cc, hv, hgb, hgl5⟩ := hown5.form (by omega)
        cases hv
        have k5 := k4.trans (hb5.mono z4)
        have z5 := k5.size
        have haE : a < E := by rcases hspan with h | h | h <;> omega
        have hEn : E ≤ 8 * (n + 7) := by rcases hspan with h | h | h <;> omega
        go_wp2_with fail
        go_loopw [10] (fun i wr => ∃ (j : Nat) (q' : List Nat), j ≤ 32 ∧ a + j ≤ E ∧ i = .int .i64 j ∧ wr.ownsRow g4.val.heap.size 5 1 (.slice (some ⟨gb, 0, none⟩) (n + 7) c5) (n + 7) (bts q') ∧ Small q' ∧ num q' = num (fr (1 + q) l) ^^^ (X % 2 ^ j * 2 ^ a) ∧ Below w.heap.size w wr) (fun i _ => 32 - (intOf i).toNat)
        case atStart => exact ⟨0, _, by omega, by omega, rfl, hown5, fr_small (by omega) (by omega) hs, by simp [Nat.mod_one], k5⟩
        case round =>
          obtain ⟨j, q', hj, hjE, rfl, hown, hsq, hnum, hb6⟩ := hrel
          have z6 := hb6.size
          have hql : q'.length = n + 7 := by have := (Sl.own hown).len; rw [bts_length] at this; exact this
          have HN : Hid (num q' = num (fr (1 + q) l) ^^^ (X % 2 ^ j * 2 ^ a)) := hnum
          clear hnum
          by_cases hlt : j < 32 ∧ a + j < E
          · obtain ⟨h1, h2⟩ := hlt
            have h1' : (j : Int) < 32 := by omega
            have h2' : (a : Int) + j < E := by omega
            have hfr := fun j => own_unfrozen (j := j) hown
            obtain ⟨t1, ht1⟩ : ∃ t1, t1 = (a + j) / 8 := ⟨_, rfl⟩
            obtain ⟨s1, hs1⟩ : ∃ s1, s1 = (a + j) % 8 := ⟨_, rfl⟩
            have hs1l : s1 < 8 := by omega
            have ht1l : t1 < n + 7 := by omega
            obtain ⟨x, hx⟩ : ∃ x, q'[t1]? = some x := ⟨_, List.getElem?_eq_getElem (by omega)⟩
            have hx2 := hsq.at hx
            have hcx : wr.cell? ⟨gb, t1, none⟩ = some (.int .u8 (x : Int)) := by
              obtain ⟨b', o', e1, _, hc⟩ := (Sl.own hown).at (by omega)
              cases e1
              have := hc t1 _ (by rw [bts_get, hx]; rfl)
              rwa [Nat.zero_add] at this
            have et1 : ((a : Int) + j) / 8 = t1 := by omega
            have es1 : ((a : Int) + j) % 8 = s1 := by omega
            have HT : Hid (t1 = (a + j) / 8) := ht1
            have HS : Hid (s1 = (a + j) % 8) := hs1
            have HX : Hid (q'[t1]? = some x) := hx
            clear ht1 hs1 hx
            have ht1l' : (t1 : Int) < n + 7 := by omega
            by_cases hbit : X / 2 ^ j % 2 = 1
            · have hbit' : (((X : Int) / 2 ^ j).tmod 2 == 1) = true := by rw [bit_test, hbit]; rfl
              have HB : Hid (X / 2 ^ j % 2 = 1) := hbit
              clear hbit
              go_wp2_with fail
              go_roundw
              case rel =>
                have hp := pow_small s1 hs1l
                have hv : bits .xor .u8 (x : Int) (2 ^ s1 % 256) = ((x ^^^ 2 ^ s1 : Nat) : Int) := by
                  have e8 : ((2 : Int) ^ s1 % 256) = ((2 ^ s1 : Nat) : Int) := by
                    rw [show ((2 : Int) ^ s1) = ((2 ^ s1 : Nat) : Int) by simp]
                    generalize 2 ^ s1 = p at *
                    omega
                  rw [e8]
                  exact u8_xor_nat x (2 ^ s1) hx2 hp
                have hgb1 : w.heap.size ≤ gb := by omega
                have hpos : s1 + 8 * t1 = a + j := by have := HT.out; have := HS.out; omega
                rw [hv]
                refine ⟨j + 1, q'.set t1 (x ^^^ 2 ^ s1), by omega, by omega, by go_num, ?_, hsq.set _ (Nat.xor_lt_two_pow (n := 8) hx2 hp), ?_, hb6.setCell hgb1 _⟩
                · rw [bts_set]; exact own_set hown
                · rw [num_set q' hsq t1 x _ HX.out hp, HN.out, bit_more X j a HB.out, ← Nat.pow_add, hpos, Nat.xor_assoc]
              case measure => simp [intOf]; omega
            · have hbit' : (((X : Int) / 2 ^ j).tmod 2 == 1) = false := by rw [bit_test]; exact beq_eq_false_iff_ne.2 (fun e => hbit (Int.ofNat.inj e))
              have HB : Hid (¬ X / 2 ^ j % 2 = 1) := hbit
              clear hbit
              go_wp2_with fail
              go_roundw
              case rel => 
                refine ⟨j + 1, q', by omega, by omega, by go_num, hown, hsq, ?_, hb6⟩
                rw [HN.out, bit_same X j HB.out]
              case measure => simp [intOf]; omega
          · have hj1 : 1 ≤ j := by omega
            have hX1 : X % 2 ^ j % 2 = 1 := by rw [show (2 : Nat) ^ j = 2 * 2 ^ (j - 1) by rw [← Nat.pow_succ', show (j - 1).succ = j by omega], Nat.mod_mul_right_mod]; exact hXo
            have hne := getE_turned (k := 1 + q) (l := l) (c := q') (x := X % 2 ^ j) (a := a) (m := j) (by omega) (by omega) hs hsq (by omega) (Nat.lt_of_le_of_lt (Nat.mod_le _ _) hXl) (by omega) (Nat.mod_lt _ (Nat.two_pow_pos j)) (by rcases hspan with h | h | h <;> omega) HN.out
            obtain ⟨er, her⟩ : ∃ er, er = getE q' := ⟨_, rfl⟩
            have hne' : (er != 0) = true := by rw [her]; simpa using hne
            have HE : Hid (getE q' = er) := her.symm
            clear her hne
            by_cases hj32 : j < 32
            · have hj32' : (j : Int) < 32 := by omega
              have haj : ¬ (a : Int) + j < E := by omega
              go_wp2_with fail
              refine (Get_bad (Sl.own hown) hsq (by omega) HE.out (by simpa using hne')).mono ?_
              rintro _ w7 ⟨a7, c7, rfl, hb7⟩
              have k7 := hb6.trans (hb7.mono z6)
              have z7 := k7.size
              go_wp2_with ((go_at_call 9; refine (known_any _).mono ?_; rintro _ _ ⟨rfl, g8, rfl⟩))
              go_ret
              exact Ret.mk (g8.up (k7.alloc z7 _))
            · have hj32' : ¬ (j : Int) < 32 := by omega
              go_wp2_with fail
              refine (Get_bad (Sl.own hown) hsq (by omega) HE.out (by simpa using hne')).mono ?_
              rintro _ w7 ⟨a7, c7, rfl, hb7⟩
              have k7 := hb6.trans (hb7.mono z6)
              have z7 := k7.size
              go_wp2_with ((go_at_call 9; refine (known_any _).mono ?_; rintro _ _ ⟨rfl, g8, rfl⟩))
              go_ret
              exact Ret.mk (g8.up (k7.alloc z7 _))
end Go.Proofs.Ytjmhnflogbihdaa
