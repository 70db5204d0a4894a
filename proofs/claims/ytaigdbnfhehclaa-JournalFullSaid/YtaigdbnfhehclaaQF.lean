/- What is proved: rows that fill a half; what is refused leaves all as it was (plain). No condition but those each law names. -/
import Derived.Test.YtaigdbnfhehclaaQE
import Derived.Test.YtaigdbnfhehclaaK4
namespace Go.Proofs.Ytaigdbnfhehclaa
open Go.RowKit
open Sx (Ab DW Foot z128 padN)
set_option maxRecDepth 100000

/-- The law's rows. -/
def fk (i : Nat) : Int × List Nat := (1 + ((i % 254 : Nat) : Int), [i])
def fks (n : Nat) : List (Int × List Nat) := (List.range n).map fk
theorem fks_len (n : Nat) : (fks n).length = n := by simp [fks]
theorem fks_succ (n : Nat) : fks (n + 1) = fks n ++ [fk n] := by simp [fks, List.range_succ]
theorem fk_ok {i : Nat} (h : i < 255) : RowOk (fk i) := by
  refine ⟨by show 1 ≤ 1 + _; omega, by show 1 + _ < 255; omega, by show [i].length ≤ 400; simp, fun x hx => ?_⟩
  simp only [fk, List.mem_cons, List.not_mem_nil, or_false] at hx
  omega
theorem fk_npc (i : Nat) : npc (rowF (fk i)) = 1 := by unfold npc; rw [rowF_len]; show ([i].length + 7 + 126) / 127 = 1; simp
theorem fks_ok {n : Nat} (h : n ≤ 255) : RowsOk (fks n) := fun r hr => by
  unfold fks at hr
  obtain ⟨i, hi, rfl⟩ := List.mem_map.1 hr
  have := List.mem_range.1 hi
  exact fk_ok (by omega)
theorem secL_ones {R : List (Int × List Nat)} (h : ∀ r ∈ R, npc (rowF r) = 1) : (secL R).length = R.length := by
  induction R with
  | nil => rfl
  | cons r R ih => rw [secL_cons, List.length_append, secs_len, h r (by simp), ih fun x hx => h x (by simp [hx]), List.length_cons]; omega
theorem fks_npc {n : Nat} {r : Int × List Nat} (h : r ∈ fks n) : npc (rowF r) = 1 := by
  unfold fks at h
  obtain ⟨i, _, rfl⟩ := List.mem_map.1 h
  exact fk_npc i
theorem secL_fks (n : Nat) : (secL (fks n)).length = n := by rw [secL_ones fun r hr => fks_npc hr, fks_len]
/-- A half that is full. -/
theorem Holds.full {A : Ab} {j : Jr} {R : List (Int × List Nat)} (h : Holds A j R) (hc : Calm A) {r : Int × List Nat} (hr : RowOk r) (hl : 255 < (secL R).length + npc (rowF r)) : appE A j r.1 r.2 = 8 ∧ appA A j r.1 r.2 = A ∧ appJ A j r.1 r.2 = j := by
  obtain ⟨e1, e2⟩ := laid_ok hr
  have ha := h.half.at_
  have g : (j.dead || A.off) = false := by rw [h.half.live, hc.on]; rfl
  have hroom : j.first + 256 - j.at_ < (npc (rowF r) : Nat) := by omega
  refine ⟨?_, ?_, ?_⟩
  · unfold appE; rw [g, e1, e2]; simp [hroom]
  · unfold appA; rw [g, e1, e2]; simp [hroom]
  · unfold appJ; rw [g, e1, e2]; simp [hroom]
/-- Rows that are too many, or none. -/
theorem Holds.many {A : Ab} {j : Jr} {R R' : List (Int × List Nat)} (h : Holds A j R) (hc : Calm A) (hR : compE0 R' = 0) (hl : 255 < (allP R').length) : compE A j R' = 8 ∧ compA A j R' = A ∧ compJ A j R' = j := by
  have g : ¬ (j.dead || A.off) = true := by rw [h.half.live, hc.on]; decide
  refine ⟨?_, ?_, ?_⟩
  · unfold compE; rw [if_neg g, if_neg (by rw [hR]; simp), if_pos hl]
  · unfold compA; rw [if_neg g, if_neg (by rw [hR]; simp), if_pos hl]
  · unfold compJ; rw [if_neg g, if_neg (by rw [hR]; simp), if_pos hl]
theorem Holds.none {A : Ab} {j : Jr} {R R' : List (Int × List Nat)} (h : Holds A j R) (hc : Calm A) {k : Int} (hR : compE0 R' = k) (hk : k ≠ 0) : compE A j R' = k ∧ compA A j R' = A ∧ compJ A j R' = j := by
  have g : ¬ (j.dead || A.off) = true := by rw [h.half.live, hc.on]; decide
  refine ⟨?_, ?_, ?_⟩
  · unfold compE; rw [if_neg g, if_pos (by rw [hR]; exact hk), hR]
  · unfold compA; rw [if_neg g, if_pos (by rw [hR]; exact hk)]
  · unfold compJ; rw [if_neg g, if_pos (by rw [hR]; exact hk)]
end Go.Proofs.Ytaigdbnfhehclaa
