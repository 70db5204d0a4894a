/- What is proved: the walks of the sums of layer 4 (frame.Sum, and the document's), and what they compute. No condition. -/
import Derived.Test.YtaigdbnfhehclaaFA
namespace Go.Proofs.Ytaigdbnfhehclaa
open Go.RowKit
set_option maxRecDepth 100000

def turn : Nat := 0x82F63B78
def cstep (w : Nat) : Nat := (w / 2) ^^^ (if w % 2 = 1 then turn else 0)
def cbyte (w b : Nat) : Nat := Nat.repeat cstep 8 (w ^^^ b)
def creg (l : List Nat) : Nat := l.foldl cbyte 4294967295
def csum (l : List Nat) : Nat := 4294967295 - creg l

theorem cstep_lt (w : Nat) (h : w < 4294967296) : cstep w < 4294967296 := by
  unfold cstep
  exact Nat.xor_lt_two_pow (n := 32) (by omega) (by unfold turn; split <;> omega)
theorem crep_lt (q w : Nat) (h : w < 4294967296) : Nat.repeat cstep q w < 4294967296 := by
  induction q with
  | zero => exact h
  | succ q ih => exact cstep_lt _ ih
theorem cbyte_lt (w b : Nat) (h : w < 4294967296) (hb : b < 256) : cbyte w b < 4294967296 := crep_lt _ _ (Nat.xor_lt_two_pow (n := 32) (by omega) (by omega))
theorem cfold_lt (l : List Nat) (hl : ∀ x ∈ l, x < 256) (w : Nat) (h : w < 4294967296) : l.foldl cbyte w < 4294967296 := by
  induction l generalizing w with
  | nil => exact h
  | cons x l ih => exact ih (fun y hy => hl y (by simp [hy])) _ (cbyte_lt _ _ h (hl x (by simp)))
theorem creg_lt (l : List Nat) (hl : ∀ x ∈ l, x < 256) : creg l < 4294967296 := cfold_lt l hl _ (by decide)
theorem csum_lt (l : List Nat) : csum l < 4294967296 := by unfold csum; omega
theorem creg_take (l : List Nat) (j x : Nat) (h : l[j]? = some x) : creg (l.take (j + 1)) = cbyte (creg (l.take j)) x := by
  rw [List.take_add_one, h]; unfold creg; simp

def Small (l : List Nat) : Prop := ∀ x ∈ l, x < 256
theorem small_of {l : List Nat} (h : l.all (fun x => decide (x < 256)) = true) : Small l := fun x hx => of_decide_eq_true (List.all_eq_true.1 h x hx)
theorem Small.at {l : List Nat} (h : Small l) {j x : Nat} (hj : l[j]? = some x) : x < 256 := h x (List.mem_of_getElem? hj)
theorem Small.take {l : List Nat} (h : Small l) (j : Nat) : Small (l.take j) := fun x hx => h x (List.mem_of_mem_take hx)
theorem Small.drop {l : List Nat} (h : Small l) (j : Nat) : Small (l.drop j) := fun x hx => h x (List.mem_of_mem_drop hx)
theorem Small.append {l k : List Nat} (h : Small l) (h' : Small k) : Small (l ++ k) := fun x hx => by
  rcases List.mem_append.1 hx with h1 | h1
  · exact h x h1
  · exact h' x h1

theorem step_eq (v : Nat) (h : v < 4294967296) : bits .xor .u32 ((v : Int) / 2) (bits .and .u32 (-bits .and .u32 (v : Int) 1 % 4294967296) 2197175160) = ((cstep v : Nat) : Int) := by
  have h1 := u32_and_nat v 1 h (by decide)
  rw [Nat.and_one_is_mod] at h1
  have h1' : bits .and .u32 (v : Int) 1 = ((v % 2 : Nat) : Int) := h1
  rw [h1']
  have h2 : ((v : Int) / 2) = ((v / 2 : Nat) : Int) := by omega
  rw [h2]
  unfold cstep turn
  rcases Nat.mod_two_eq_zero_or_one v with h0 | h0
  · rw [h0]
    have h3 : bits .and .u32 0 2197175160 = 0 := by kernel_rfl
    have := u32_xor_nat (v / 2) 0 (by omega) (by decide)
    simpa [h3] using this
  · rw [h0]
    have h3 : bits .and .u32 4294967295 2197175160 = 2197175160 := by kernel_rfl
    have := u32_xor_nat (v / 2) 2197175160 (by omega) (by decide)
    simpa [h3] using this
theorem xor_ones (b : Nat) (h : b < 4294967296) : 4294967295 ^^^ b = 4294967295 - b := by
  have h1 : (~~~(BitVec.ofNat 32 b)).toNat = 2 ^ 32 - 1 - b := by rw [BitVec.toNat_not, BitVec.toNat_ofNat, Nat.mod_eq_of_lt h]
  rw [BitVec.not_def, BitVec.toNat_xor, BitVec.toNat_allOnes, BitVec.toNat_ofNat, Nat.mod_eq_of_lt h] at h1
  exact h1

set_option maxHeartbeats 1000000 in
theorem Sum_any {w : World} {ao : Option Addr} {n c : Nat} {l : List Nat} (hl : Sl w ao n c (bts l)) (hs : Small l) (hn : n < 1099511627776) : Calls Try.prog 55 #[.slice ao n c] w (Ret (.int .u32 (csum l : Nat)) w) := by
  have hln : l.length = n := by rw [← hl.len, bts_length]
  go_enter Try.func55, Try.ntmps55
  go_wp2
  go_loopw [3, 8] (fun v i wr => ∃ j : Nat, j ≤ n ∧ i = .int .i64 j ∧ v = .int .u32 (creg (l.take j) : Nat) ∧ Below w.heap.size w wr) (fun _ i _ => n - (intOf i).toNat)
  case atStart => exact ⟨0, by omega, rfl, rfl, by (repeat' (first | (with_reducible exact Below.refl _ _) | (with_reducible assumption) | (with_reducible refine Ext.up _ ?_) | (with_reducible refine Below.alloc ?_ ?_ _) | (with_reducible refine Below.drew ?_) | (with_reducible refine Below.setCell ?_ ?_ _) | (with_reducible refine Below.setRow_ ?_ ?_ _) | go_size))⟩
  case round =>
    obtain ⟨j, hj, rfl, rfl, hb⟩ := hrel
    by_cases hlt : j < n
    · obtain ⟨b, o, rfl, hbw, hc⟩ := hl.at (by omega)
      obtain ⟨x, hjx⟩ : ∃ x, l[j]? = some x := ⟨_, List.getElem?_eq_getElem (by omega)⟩
      have hx := hc j _ (by rw [bts_get, hjx]; rfl)
      rw [← hb.cell (by exact hbw)] at hx
      have hx2 := hs.at hjx
      have hr := creg_lt _ (hs.take j)
      have hxr := u32_xor_nat _ x hr (by omega)
      have hz := Nat.xor_lt_two_pow (n := 32) hr (show x < 2 ^ 32 by omega)
      go_wp2
      go_loopw [3, 16] (fun v i wq => ∃ q : Nat, q ≤ 8 ∧ i = .int .i64 q ∧ v = .int .u32 (Nat.repeat cstep q (creg (l.take j) ^^^ x) : Nat) ∧ Below w.heap.size w wq) (fun _ i _ => 8 - (intOf i).toNat)
      case atStart => exact ⟨0, by omega, rfl, rfl, by (repeat' (first | (with_reducible exact Below.refl _ _) | (with_reducible assumption) | (with_reducible refine Ext.up _ ?_) | (with_reducible refine Below.alloc ?_ ?_ _) | (with_reducible refine Below.drew ?_) | (with_reducible refine Below.setCell ?_ ?_ _) | (with_reducible refine Below.setRow_ ?_ ?_ _) | go_size))⟩
      case round =>
        obtain ⟨q, hq, rfl, rfl, hbq⟩ := hrel
        have hrq := crep_lt q _ hz
        by_cases hlq : q < 8
        · have hlq' : (q : Int) < 8 := by omega
          go_wp2
          go_roundw
          case rel => exact ⟨q + 1, by omega, rfl, by rw [step_eq _ hrq]; rfl, hbq⟩
          case measure => simp [intOf]; omega
        · go_wp2
          go_roundw
          case rel =>
            obtain rfl : q = 8 := by omega
            exact ⟨j + 1, by omega, rfl, by rw [creg_take l j x hjx]; rfl, hbq⟩
          case measure => simp [intOf]; omega
    · have hrj := creg_lt _ (hs.take j)
      have hnot := u32_xor_nat 4294967295 _ (by decide) hrj
      rw [xor_ones _ hrj] at hnot
      have hsg : IntKind.u32.signed = false := rfl
      have hmx : IntKind.u32.max = (4294967295 : Nat) := rfl
      go_wp2
      go_ret
      obtain rfl : j = n := by omega
      refine Ret.mk_of hb ?_
      rw [← hln, List.take_length] at hnot
      rw [← hln, List.take_length]
      exact congrArg (Value.int .u32) hnot

theorem cstep_odd (v : Nat) (h : v < 4294967296) (h1 : v % 2 = 1) : bits .xor .u32 ((v : Int) / 2) 2197175160 = ((cstep v : Nat) : Int) := by
  have := u32_xor_nat (v / 2) 2197175160 (by omega) (by decide)
  unfold cstep turn
  rw [if_pos h1]
  simpa using this
theorem cstep_even (v : Nat) (h1 : ¬ v % 2 = 1) : ((v : Int) / 2) = ((cstep v : Nat) : Int) := by
  unfold cstep
  rw [if_neg h1]
  simp

/-- The number whose bytes these are, the lowest first. -/
def num : List Nat → Nat
  | [] => 0
  | x :: l => x + 256 * num l
/-- So many bytes of a number, the lowest first. -/
def les (x : Nat) : Nat → List Nat
  | 0 => []
  | k + 1 => x % 256 :: les (x / 256) k
end Go.Proofs.Ytaigdbnfhehclaa
