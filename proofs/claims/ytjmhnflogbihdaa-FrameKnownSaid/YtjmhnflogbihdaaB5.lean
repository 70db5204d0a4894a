/- What is proved: the walk of the document's Put (layer 4). No condition. -/
import Derived.Test.YtjmhnflogbihdaaB4
namespace Go.Proofs.Ytjmhnflogbihdaa
open Go.RowKit

set_option maxHeartbeats 1000000 in
theorem RefPut_any {w : World} {ao : Option Addr} {n c : Nat} {l : List Nat} (kind : Int) (hl : Sl w ao n c (bts l)) (hs : Small l) (hn : n < 1099511627776) : Calls Try.prog 12 #[.int .i64 kind, .slice ao n c] w (RetP kind l w) := by
  have hln : l.length = n := by rw [← hl.len, bts_length]
  by_cases h1 : kind < 1 ∨ 255 < kind
  · have e1 : putE kind l.length = 2 := if_pos h1
    have e2 : putL kind l = [] := by unfold putL; rw [e1]; rfl
    unfold RetP
    rw [e1, e2]
    rcases h1 with h1 | h1
    · go_enter Try.func12, Try.ntmps12
      go_wp2
      go_ret2
      exact ⟨none, 0, rfl, Below.refl _ _, World.ownsRow_nil _ _ _ _⟩
    · have h0 : ¬ kind < 1 := by omega
      go_enter Try.func12, Try.ntmps12
      go_wp2
      go_ret2
      exact ⟨none, 0, rfl, Below.refl _ _, World.ownsRow_nil _ _ _ _⟩
  · have h2 : ¬ kind < 1 := by omega
    have h3 : ¬ 255 < kind := by omega
    by_cases h4 : 400 < n
    · have e1 : putE kind l.length = 5 := by unfold putE; rw [if_neg h1, if_pos (by omega)]
      have e2 : putL kind l = [] := by unfold putL; rw [e1]; rfl
      unfold RetP
      rw [e1, e2]
      have h4' : (400 : Int) < n := by omega
      go_enter Try.func12, Try.ntmps12
      go_wp2
      go_ret2
      exact ⟨none, 0, rfl, Below.refl _ _, World.ownsRow_nil _ _ _ _⟩
    · have e1 : putE kind l.length = 0 := by unfold putE; rw [if_neg h1, if_neg (by omega)]
      have e2 : putL kind l = fr kind.toNat l := by unfold putL; rw [e1]; rfl
      unfold RetP
      rw [e1, e2]
      have h4' : ¬ (400 : Int) < n := by omega
      obtain ⟨k, rfl⟩ : ∃ k : Nat, kind = k := ⟨kind.toNat, by omega⟩
      have hk : (k : Int) % 256 = k := by omega
      have hd0 : (n : Int) / 256 % 256 = (n : Int) / 256 := by omega
      have hsm := hd_small (k := k) (l := l) (by omega) (by omega) hs
      go_enter Try.func12, Try.ntmps12
      go_wp2
      go_loopw [6, 7] (fun v i wr => ∃ j : Nat, j ≤ n ∧ i = .int .i64 j ∧ wr.ownsRow w.heap.size 5 1 v (3 + j) (bts ([k, n % 256, n / 256] ++ l.take j)) ∧ Below w.heap.size w wr) (fun _ i _ => n - (intOf i).toNat)
      case atStart =>
        refine ⟨0, by omega, rfl, ?_, by (repeat' (first | (with_reducible exact Below.refl _ _) | (with_reducible assumption) | (with_reducible refine Ext.up _ ?_) | (with_reducible refine Below.alloc ?_ ?_ _) | (with_reducible refine Below.drew ?_) | (with_reducible refine Below.setCell ?_ ?_ _) | (with_reducible refine Below.setRow_ ?_ ?_ _) | go_size))⟩
        have := own_new w w.heap.size 5 #[.int .u8 k, .int .u8 ((n : Int) % 256), .int .u8 ((n : Int) / 256)] (Nat.le_refl _) (show 3 ≤ maxLen by decide)
        simpa [bts] using this
      case round =>
        obtain ⟨j, hj, rfl, hown, hb⟩ := hrel
        obtain ⟨ao', cap, rfl⟩ := own_form hown
        have hz := hb.size
        by_cases hlt : j < n
        · obtain ⟨b, o, rfl, hbw, hc⟩ := hl.at (by omega)
          obtain ⟨x, hjx⟩ : ∃ x, l[j]? = some x := ⟨_, List.getElem?_eq_getElem (by omega)⟩
          have hx := hc j _ (by rw [bts_get, hjx]; rfl)
          rw [← hb.cell (by exact hbw)] at hx
          go_wp2_with (at_builtin; refine wp_app1 elemB rfl _ _ rfl (B := w.heap.size) rfl hown rfl rfl (by omega) hz ?_)
          intro ao2 cap2 w2 hown2 hb2
          go_wp2
          go_roundw
          case rel => exact ⟨j + 1, by omega, rfl, by rw [List.take_add_one, ← List.append_assoc, bts_append, hjx]; exact hown2, hb.trans hb2⟩
          case measure => simp [intOf]; omega
        · obtain rfl : j = n := by omega
          have hh : [k, j % 256, j / 256] ++ l.take j = hd k l := by rw [← hln, List.take_length]; rfl
          rw [hh] at hown
          go_wp2_with (go_at_call 15; refine (RefSum_any (Sl.own hown) hsm (by omega)).mono ?_; rintro _ _ ⟨rfl, g, rfl⟩)
          go_loopw [6, 8, 9] (fun v y i wr => ∃ q D : Nat, q ≤ 4 ∧ D = csum (hd k l) / 256 ^ q ∧ i = .int .i64 q ∧ y = .int .u32 (D : Int) ∧ wr.ownsRow w.heap.size 5 1 v (3 + j + q) (bts (hd k l ++ les (csum (hd k l)) q)) ∧ Below w.heap.size w wr) (fun _ _ i _ => 4 - (intOf i).toNat)
          case atStart => exact ⟨0, csum (hd k l), by omega, by simp, rfl, rfl, by simpa [les] using own_ext hown g, g.up hb⟩
          case round =>
            obtain ⟨q, D, hq, hD, rfl, rfl, hown', hb'⟩ := hrel
            have hDl : D < 4294967296 := by rw [hD]; exact Nat.lt_of_le_of_lt (Nat.div_le_self _ _) (csum_lt _)
            have HD : Hid (D = csum (hd k l) / 256 ^ q) := hD
            clear hD
            obtain ⟨ao3, cap3, rfl⟩ := own_form hown'
            have hz' := hb'.size
            by_cases hlq : q < 4
            · have hlq' : (q : Int) < 4 := by omega
              go_wp2_with (at_builtin; refine wp_app1 elemB rfl _ _ rfl (B := w.heap.size) rfl hown' rfl rfl (by omega) hz' ?_)
              intro ao4 cap4 w4 hown4 hb4
              go_wp2
              go_roundw
              case rel =>
                refine ⟨q + 1, D / 256, by omega, ?_, rfl, by simp, ?_, hb'.trans hb4⟩
                · have := HD.out; rw [Nat.pow_succ, ← Nat.div_div_eq_div_mul, ← this]
                · have := HD.out
                  rw [les_snoc, ← List.append_assoc, bts_append, ← this]
                  have e : bts [D % 256] = [Value.int .u8 ((D : Int) % 256)] := by simp [bts]
                  rw [e]; exact hown4
              case measure => simp [intOf]; omega
            · go_wp2
              go_ret2
              obtain rfl : q = 4 := by omega
              have e3 : (fr (k : Int).toNat l).length = 3 + j + 4 := by rw [fr_length]; omega
              rw [e3]
              exact ⟨ao3, cap3, rfl, hb', hown'⟩
end Go.Proofs.Ytjmhnflogbihdaa
