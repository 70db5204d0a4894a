/- What is proved: the walk of FrameKnown of layer 4. No condition. -/
import Derived.Test.YtjmhnflogbihdaaJ4
namespace Go.Proofs.Ytjmhnflogbihdaa
open Go.RowKit

def onesL (j : Nat) : List Nat := List.replicate j 255 ++ List.replicate (32 - j) 0
theorem ones_set (j : Nat) (h : j < 32) : (bts (onesL j)).set j (.int .u8 255) = bts (onesL (j + 1)) := by
  have : (Value.int .u8 255) = .int .u8 ((255 : Nat) : Int) := rfl
  rw [this, ← bts_set]
  congr 1
  unfold onesL
  rw [show 32 - j = (32 - (j + 1)) + 1 by omega, List.replicate_succ, List.replicate_succ', List.set_append_right _ _ (by simp)]
  simp
theorem Scan_nil (w : World) : Calls Try.prog 21 #[.slice none 0 0] w (fun e w' => ∃ a c, e = .returned (.tuple #[.slice a 0 c, .int .i64 0]) ∧ Below w.heap.size w w') := by
  refine (Scan_any (l := []) (Sl.nothing w) (fun x hx => by simp at hx) (by decide)).mono ?_
  rintro e w' ⟨i, L, v, hgo, hend, htold, rfl, hb, hF⟩
  have hi : i = 0 := by
    rcases Nat.eq_zero_or_pos i with h | h
    · exact h
    · have := hgo 0 h
      exact absurd this (by decide)
  subst hi
  have : L = [] := by
    have h := congrArg List.length htold
    rw [stF_length] at h
    exact List.eq_nil_of_length_eq_zero (by simpa only [told, List.length_map] using h)
  subst this
  obtain ⟨a, c, rfl⟩ := own_form hF.row
  exact ⟨a, c, rfl, hb⟩

theorem Sum_nat {w : World} {ao : Option Addr} {n c : Nat} {l : List Nat} {z : Int} (hl : Sl w ao n c (bts l)) (hs : Small l) (hn : n < 1099511627776) (hz : ((csum l : Nat) : Int) = z) : Calls Try.prog 14 #[.slice ao n c] w (Ret (.int .u32 z) w) := by
  rw [← hz]; exact Sum_any hl hs hn

theorem Put_D {w : World} {ao : Option Addr} {c : Nat} (hl : Sl w ao 400 c (bts (List.replicate 400 0))) :
    Calls Try.prog 11 #[.int .i64 255, .slice ao 400 c] w (fun e w' => ∃ ao cap, e = .returned (.tuple #[.slice ao 407 cap, .int .i64 0]) ∧ Below w.heap.size w w' ∧ w'.ownsRow w.heap.size 5 1 (.slice ao 407 cap) 407 (bts D400)) :=
  Put_good (k := 255) hl (zeros_small 400) (by decide) (by decide) (by decide)
theorem three (w : World) (k x y z : Nat) (hk : w.heap.size = k) : Sl (w.alloc (.cells #[.int .u8 (x : Int), .int .u8 (y : Int), .int .u8 (z : Int)] 5)) (some ⟨k, 0, none⟩) 3 3 (bts [x, y, z]) := by
  subst hk
  exact Sl.own (own_new w 0 5 #[.int .u8 (x : Int), .int .u8 (y : Int), .int .u8 (z : Int)] (Nat.zero_le _) (show 3 ≤ maxLen by decide))

attribute [local go_sem ↓] make32 make401 make400
set_option maxRecDepth 100000 in
set_option maxHeartbeats 1500000 in
theorem FrameKnown_walk (w : World) : Calls Try.prog 8 #[] w (Ret (.bool true) w) := by
  have o0 := zeros_own w w.heap.size 32 (Nat.le_refl _) (by decide)
  have k0 := below1 w (.cells (zeros 32) 5)
  go_enter Try.func8, Try.ntmps8
  go_wp2_with fail
  go_loopw [2] (fun i wr => ∃ j : Nat, j ≤ 32 ∧ i = .int .i64 j ∧ wr.ownsRow w.heap.size 5 1 (.slice (some ⟨w.heap.size, 0, none⟩) 32 32) 32 (bts (onesL j)) ∧ Below w.heap.size w wr) (fun i _ => 32 - (intOf i).toNat)
  case atStart => exact ⟨0, by omega, rfl, o0, k0⟩
  case round =>
    clear o0 k0
    obtain ⟨j, hj, rfl, hown, hb⟩ := hrel
    have hz := hb.size
    by_cases hlt : j < 32
    · have hlt' : (j : Int) < 32 := by omega
      have hfr := fun j => own_unfrozen (j := j) hown
      obtain ⟨x, hx⟩ : ∃ x, (bts (onesL j))[j]? = some x := ⟨_, List.getElem?_eq_getElem (by rw [bts_length]; simp [onesL]; omega)⟩
      have hcx : wr.cell? ⟨w.heap.size, j, none⟩ = some x := by
        have := hown.cells (g := w.heap.size) rfl _ _ hx
        rwa [add_plain_addr, Nat.zero_add] at this
      have HX : Hid ((bts (onesL j))[j]? = some x) := hx
      clear hx
      go_wp2_with fail
      go_roundw
      case rel => exact ⟨j + 1, by omega, rfl, by rw [← ones_set j hlt]; exact own_set hown, hb.setCell (Nat.le_refl _) _⟩
      case measure => simp [intOf]; omega
    · obtain rfl : j = 32 := by omega
      have s1 := (Sl.own (zeros_own wr 0 401 (Nat.zero_le _) (by decide)))
      have k1 := below1 wr (.cells (zeros 401) 5)
      go_wp2_with fail
      refine (Put_bad s1 (zeros_small 401) (by decide) (er := 2) (by decide) (by decide)).mono ?_
      rintro _ w2 ⟨a2, c2, rfl, hb2⟩
      have k2 := k1.trans (hb2.mono k1.size)
      go_wp2_with fail
      refine (Put_bad (l := []) (Sl.nothing _) (fun x hx => by simp at hx) (by decide) (er := 2) (by decide) (by decide)).mono ?_
      rintro _ w3 ⟨a3, c3, rfl, hb3⟩
      have k3 := k2.trans (hb3.mono k2.size)
      have s4 := (Sl.own (zeros_own w3 0 401 (Nat.zero_le _) (by decide)))
      have k4 := k3.alloc k3.size (.cells (zeros 401) 5)
      clear s1 k1 hb2 k2 hb3 k3
      go_wp2_with fail
      refine (Put_bad s4 (zeros_small 401) (by decide) (er := 5) (by decide) (by decide)).mono ?_
      rintro _ w5 ⟨a5, c5, rfl, hb5⟩
      have k5 := k4.trans (hb5.mono k4.size)
      have s6 := (Sl.own (zeros_own w5 0 400 (Nat.zero_le _) (by decide)))
      have k6 := k5.alloc k5.size (.cells (zeros 400) 5)
      clear s4 k4 hb5
      go_wp2_with fail
      refine (Put_D s6).mono ?_
      rintro _ w7 ⟨a7, c7, rfl, hb7, hown7⟩
      obtain ⟨gd, cc, hv, hgd, hgl7⟩ := hown7.form (by decide)
      cases hv
      have hgd2 : wr.heap.size ≤ gd := Nat.le_trans k6.size hgd
      have k7 := k6.trans (hb7.mono k6.size)
      clear s6 k6 hb7 k5
      have s8 := three w7 _ 0 255 255 rfl
      have n8 := below1 w7 (.cells #[.int .u8 0, .int .u8 255, .int .u8 255] 5)
      go_wp2_with fail
      refine (Get_bad s8 (small_of rfl) (by decide) known1 (by decide)).mono ?_
      rintro _ w9 ⟨a9, c9, rfl, hb9⟩
      have n9 := (n8.trans (hb9.mono n8.size)).alloc (n8.trans (hb9.mono n8.size)).size (.cells #[.int .i64 0, .slice a9 0 c9] 33)
      clear s8 n8 hb9
      have s10 := three (w9.alloc (.cells #[.int .i64 0, .slice a9 0 c9] 33)) (w9.heap.size + 1) 1 145 1 (by simp)
      have n10 := n9.alloc n9.size (.cells #[.int .u8 1, .int .u8 145, .int .u8 1] 5)
      go_wp2_with fail
      refine (Get_bad s10 (small_of rfl) (by decide) known2 (by decide)).mono ?_
      rintro _ w11 ⟨a11, c11, rfl, hb11⟩
      have n11 := (n10.trans (hb11.mono n10.size)).alloc (n10.trans (hb11.mono n10.size)).size (.cells #[.int .i64 0, .slice a11 0 c11] 33)
      clear s10 n10 hb11 n9
      have s12 := three (w11.alloc (.cells #[.int .i64 0, .slice a11 0 c11] 33)) (w11.heap.size + 1) 1 144 1 (by simp)
      have n12 := n11.alloc n11.size (.cells #[.int .u8 1, .int .u8 144, .int .u8 1] 5)
      go_wp2_with fail
      refine (Get_bad s12 (small_of rfl) (by decide) known3 (by decide)).mono ?_
      rintro _ w13 ⟨a13, c13, rfl, hb13⟩
      have n13 := (n12.trans (hb13.mono n12.size)).alloc (n12.trans (hb13.mono n12.size)).size (.cells #[.int .i64 0, .slice a13 0 c13] 33)
      clear s12 n12 hb13 n11
      go_wp2_with fail
      refine (Scan_nil _).mono ?_
      rintro _ w14 ⟨a14, c14, rfl, hb14⟩
      have n14 := n13.trans (hb14.mono n13.size)
      have d14 := own_keep hown7 (Nat.le_refl _) n14
      have k14 := k7.trans (n14.mono k7.size)
      have hfr := fun j => own_unfrozen (j := j) d14
      obtain ⟨x, hx⟩ : ∃ x, (bts D400)[400]? = some x := ⟨_, List.getElem?_eq_getElem (by rw [bts_length, d_len]; decide)⟩
      have hcx : w14.cell? ⟨gd, 400, none⟩ = some x := by
        have := d14.cells (g := gd) rfl _ _ hx
        rwa [add_plain_addr, Nat.zero_add] at this
      clear hx n13 hb14 hown7
      have d15 : (w14.setCell ⟨gd, 400, none⟩ (.int .u8 1)).ownsRow 0 5 1 (.slice (some ⟨gd, 0, none⟩) 407 c7) 407 (bts (D400.set 400 1)) := by rw [bts_set]; exact own_base (own_set d14) (Nat.zero_le _)
      have k15 := k14.setCell (p := ⟨gd, 400, none⟩) hgd2 (.int .u8 1)
      go_wp2_with fail
      refine (Get_bad (Sl.own d15) (Small.set (fr_small (by decide) (by decide) (zeros_small 400)) 400 (by decide)) (by decide) d_bad (by decide)).mono ?_
      rintro _ w16 ⟨a16, c16, rfl, hb16⟩
      have k16 := (k15.trans (hb16.mono k15.size)).alloc (k15.trans (hb16.mono k15.size)).size (.cells #[.int .i64 0, .slice a16 0 c16] 33)
      clear d15 k15 k14 d14 hfr hcx hb16
      have s17 : Sl ((w16.alloc (.cells #[.int .i64 0, .slice a16 0 c16] 33)).alloc (.cells (zeros 32) 5)) (some ⟨w16.heap.size + 1, 0, none⟩) 32 32 (bts (List.replicate 32 0)) := (by have := (Sl.own (zeros_own (w16.alloc (.cells #[.int .i64 0, .slice a16 0 c16] 33)) 0 32 (Nat.zero_le _) (by decide))); rwa [show (w16.alloc (.cells #[.int .i64 0, .slice a16 0 c16] 33)).heap.size = w16.heap.size + 1 by simp] at this)
      have k17 := k16.alloc k16.size (.cells (zeros 32) 5)
      have on17 := own_keep hown (Nat.le_refl _) k17
      go_wp2_with fail
      refine (Sum_nat s17 (zeros_small 32) (by decide) known5).mono ?_
      rintro _ _ ⟨rfl, g18, rfl⟩
      go_wp2_with fail
      refine (Sum_nat ((Sl.own on17).ext g18) (small_of (by decide)) (by decide) known6).mono ?_
      rintro _ _ ⟨rfl, g19, rfl⟩
      go_wp2_with fail
      refine (Sum_nat (l := []) (Sl.nothing _) (fun x hx => by simp at hx) (by decide) known7).mono ?_
      rintro _ _ ⟨rfl, g20, rfl⟩
      go_wp2_with ((go_at_call 9; refine (known_any _).mono ?_; rintro _ _ ⟨rfl, g21, rfl⟩))
      go_ret
      exact Ret.mk_of (g21.up (g20.up (g19.up (g18.up (hb.trans (k17.mono hz)))))) (by simp)
end Go.Proofs.Ytjmhnflogbihdaa
