/- What is proved: plain laws on a disk that is armed; what the law's works leaves. No condition but those each law names. -/
import Derived.Test.YtcedgoaanlbldaaB4
namespace Go.Proofs.Ytcedgoaanlbldaa
open Sx
set_option maxRecDepth 100000

theorem wst (G : List Ob) : DStep (wD G) (Ma G.length [] [] 0) (newG G) (wM5 G) (w16 G) := by
  have ln : ∀ (A : List Ob) (c : Int), A.length ≤ (litG A c).length := fun A c => by simp [litG]
  have s2 : DStep (wD G) (Ma G.length [] [] 0) (newG G) (Ma G.length [] [] 0) (w2 G) := DStep.of_keeps (wi1 G) (Keeps.append _ _) (ln _ _)
  have s3 : DStep (wD G) (Ma G.length [] [] 0) (newG G) (wM1 G) (w3 G) := s2.trans (wr_step (wi2 G) 3 [7])
  have s4 : DStep (wD G) (Ma G.length [] [] 0) (newG G) (wM2 G) (w4 G) := s3.trans (syc_step (wi3 G))
  have s5 : DStep (wD G) (Ma G.length [] [] 0) (newG G) (wM2 G) (w5 G) := s4.trans (DStep.of_keeps (wi4 G) (Keeps.append _ _) (ln _ _))
  have s6 : DStep (wD G) (Ma G.length [] [] 0) (newG G) (wM3 G) (w6 G) := s5.trans (wr_step (wi5 G) 3 [8])
  have s7 : DStep (wD G) (Ma G.length [] [] 0) (newG G) (wM3 G) (w7 G) := s6.trans (DStep.of_keeps (wi6 G) (Keeps.append _ _) (ln _ _))
  have s8 : DStep (wD G) (Ma G.length [] [] 0) (newG G) (wM4 G) (w8 G) := s7.trans (wr_step (wi7 G) 4 [9])
  have s9 : DStep (wD G) (Ma G.length [] [] 0) (newG G) (wM4 G) (w9 G) := s8.trans (DStep.of_keeps (wi8 G) (Keeps.append _ _) (ln _ _))
  have s10 : DStep (wD G) (Ma G.length [] [] 0) (newG G) (wM4 G) (w10 G) := s9.trans (DStep.of_keeps (wi9 G) (rds_keeps (wi9 G) 3 [8]).1 (rds_keeps (wi9 G) 3 [8]).2)
  have s11 : DStep (wD G) (Ma G.length [] [] 0) (newG G) (wM4 G) (w11 G) := s10.trans (DStep.of_keeps (wi10 G) (Keeps.append _ _) (by simp [w11]))
  have c := cra_step (wi11 G) [0, 2]
  rw [wk_crash] at c
  have s12 : DStep (wD G) (Ma G.length [] [] 0) (newG G) (wM5 G) (w12 G) := s11.trans c
  have s13 : DStep (wD G) (Ma G.length [] [] 0) (newG G) (wM5 G) (w13 G) := s12.trans (DStep.of_keeps (wi12 G) (rd_keeps (wi12 G) 4) (rd_len (wi12 G) 4))
  have s14 : DStep (wD G) (Ma G.length [] [] 0) (newG G) (wM5 G) (w14 G) := s13.trans (DStep.of_keeps (wi13 G) (Keeps.append _ _) (ln _ _))
  have s15 : DStep (wD G) (Ma G.length [] [] 0) (newG G) (wM5 G) (w15 G) := s14.trans (DStep.of_keeps (wi14 G) (rds_keeps (wi14 G) 3 [7]).1 (rds_keeps (wi14 G) 3 [7]).2)
  exact s15.trans (wr_step (wi15 G) 512 [])
/-- What is there ahead of a new disk stays. -/
theorem new_fr {G G' : List Ob} (h : FrD (G.length + 2) (newM G.length) (newG G) G') : Keeps G G' := fun n o ho => by
  have hl := (List.getElem?_eq_some_iff.1 ho).1
  exact h.2 n o (new_keeps G n o ho) (by omega) (by show n ≠ G.length; omega) (by show n ≠ G.length + 1; omega)
theorem wor_keeps (G : List Ob) : Keeps G (w16 G) := new_fr (wst G).fr
/-- A disk that is armed with n, i operations on. -/
def SS (n i : Nat) (M : DiskM) : Prop := if i ≤ n then M.off = false ∧ M.left = (n : Int) - i ∧ M.done = i else M.off = true ∧ M.left = -1 ∧ M.done = (if n % 3 = 2 then (n : Int) else n + 1)
theorem inc_at {k : Nat} (h : k < 1000) : inc (k : Int) = (k + 1 : Nat) := by
  unfold inc
  rw [wrap_in (by omega) (by omega)]
  simp
theorem str_ss {n i : Nat} {M : DiskM} (h2 : M.left = (n : Int) - i) (hi : i ≤ n) : strB M = decide (i = n) ∧ strM M = { M with left := (n : Int) - i - 1, off := decide (i = n) } := by
  have h0 : ¬ M.left < 0 := by omega
  have h1 : decide (M.left - 1 < 0) = decide (i = n) := decide_eq_decide.2 (by omega)
  unfold strB strM
  rw [if_neg h0, decide_eq_false h0, h1, h2]
  exact ⟨rfl, rfl⟩
theorem syc_ss {n i : Nat} {M : DiskM} (h : SS n i M) (hi : i < 500) (hm : i % 3 = 2) (k : Nat) :
    sycE M = (if i < n then 0 else 9) ∧ (sycM M k).off = decide (n ≤ i) ∧ SS n (i + 1) (sycM M k) := by
  unfold SS at h
  unfold sycE sycM
  by_cases hin : i ≤ n
  · rw [if_pos hin] at h
    obtain ⟨h1, h2, h3⟩ := h
    obtain ⟨s1, s2⟩ := str_ss h2 hin
    simp only [h1, Bool.false_eq_true, if_false, s1, s2, decide_eq_true_eq]
    by_cases e : i = n
    · subst e
      simp only [if_true, Nat.lt_irrefl, if_false]
      refine ⟨trivial, by simp, ?_⟩
      unfold SS
      rw [if_neg (by omega), if_pos hm]
      exact ⟨by simp, by show (i : Int) - i - 1 = -1; omega, h3⟩
    · have hl : i < n := by omega
      simp only [e, if_false, hl, if_true]
      refine ⟨trivial, ?_, ?_⟩
      · have : ¬ n ≤ i := by omega
        simp [syM, this]
      unfold SS
      rw [if_pos (by omega)]
      exact ⟨by simp [syM], by show (n : Int) - i - 1 = n - (i + 1 : Nat); omega, by show inc M.done = _; rw [h3, inc_at (by omega)]⟩
  · rw [if_neg hin] at h
    obtain ⟨h1, h2, h3⟩ := h
    rw [if_pos h1, if_pos h1, if_neg (by omega)]
    refine ⟨rfl, by rw [h1, decide_eq_true (by omega)], ?_⟩
    unfold SS
    rw [if_neg (by omega)]
    exact ⟨h1, h2, h3⟩
theorem wr_ss {n i : Nat} {M : DiskM} (h : SS n i M) (hi : i < 500) (hm : i % 3 ≠ 2) {a : Int} (ha : 0 ≤ a ∧ a < 20) {bs : List Int} (hb : bs.length ≤ 128) :
    wrE M a bs = (if i < n then 0 else 9) ∧ (wrM M a bs).off = decide (n ≤ i) ∧ SS n (i + 1) (wrM M a bs) ∧ (i ≤ n → rdsB (wrM M a bs) a bs = true) := by
  have hbad : wrBad a bs.length = false := by
    unfold wrBad
    rw [decide_eq_false (by omega), decide_eq_false (by omega), decide_eq_false (by omega)]
    rfl
  unfold SS at h
  unfold wrE wrM
  rw [hbad]
  by_cases hin : i ≤ n
  · rw [if_pos hin] at h
    obtain ⟨h1, h2, h3⟩ := h
    obtain ⟨s1, s2⟩ := str_ss (M := wrM1 M a bs) h2 hin
    simp only [h1, Bool.false_eq_true, if_false, s1, s2, decide_eq_true_eq]
    have hrd : rdsB { wrM1 M a bs with left := (n : Int) - i - 1, off := decide (i = n) } a bs = true := by
      have hg : getA (putA M.lo a (pad bs)) a = some (pad bs) := by rw [getA_put, if_pos rfl]
      have hbd : rdBad a = false := by
        unfold rdBad
        rw [decide_eq_false (by omega), decide_eq_false (by omega)]
        rfl
      unfold rdsB rdE rdBs
      rw [hbd]
      simp [wrM1, hg]
    refine ⟨?_, ?_, ?_, fun _ => hrd⟩
    · by_cases e : i = n
      · subst e
        simp
      · rw [if_neg e, if_pos (by omega)]
    · show decide (i = n) = decide (n ≤ i)
      exact decide_eq_decide.2 (by omega)
    · unfold SS
      by_cases e : i = n
      · subst e
        rw [if_neg (by omega), if_neg hm]
        exact ⟨by simp, by show (i : Int) - i - 1 = -1; omega, by show inc M.done = _; rw [h3, inc_at (by omega)]; simp⟩
      · rw [if_pos (by omega)]
        exact ⟨by simpa using e, by show (n : Int) - i - 1 = n - (i + 1 : Nat); omega, by show inc M.done = _; rw [h3, inc_at (by omega)]⟩
  · rw [if_neg hin] at h
    obtain ⟨h1, h2, h3⟩ := h
    rw [if_pos h1, if_pos h1, if_neg (by omega)]
    refine ⟨rfl, by rw [h1, decide_eq_true (by omega)], ?_, fun h => absurd h hin⟩
    unfold SS
    rw [if_neg (by omega)]
    exact ⟨h1, h2, h3⟩
end Go.Proofs.Ytcedgoaanlbldaa
