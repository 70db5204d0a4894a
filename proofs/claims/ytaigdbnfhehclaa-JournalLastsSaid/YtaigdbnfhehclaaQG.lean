/- What is proved: steps on a disk that may be armed; what a crash leaves of a row that was being laid (plain); what a crash leaves while a row is laid (plain); what Compact, Append and the first Open leave on a disk that may be armed, and what a crash makes of it (plain). No condition but those each law names. -/
import Derived.Test.YtaigdbnfhehclaaQE
import Derived.Test.YtaigdbnfhehclaaK4
namespace Go.Proofs.Ytaigdbnfhehclaa
open Go.RowKit
open Sx (Ab z128 padN CrashTo)
set_option maxRecDepth 100000

theorem strA_see (A : Ab) (k : Int) : A.strA.see k = A.see k := by
  unfold Sx.Ab.strA
  split <;> rfl
theorem strA_last (A : Ab) : A.strA.last = A.last := by
  unfold Sx.Ab.strA
  split <;> rfl
theorem strA_loose (A : Ab) : A.strA.loose = A.loose := by
  unfold Sx.Ab.strA
  split <;> rfl
/-- A strike that does not strike leaves the disk on; one that strikes turns it off. -/
theorem strA_off (A : Ab) (h : A.off = false) : A.strA.off = A.str := by
  unfold Sx.Ab.strA Sx.Ab.str
  by_cases hl : A.left < 0
  · rw [if_pos hl, decide_eq_true hl, h]; rfl
  · rw [if_neg hl, decide_eq_false hl]; rfl
theorem wr_on {A : Ab} (h : A.off = false) (i : Int) (l : List Nat) : A.wr i l = (A.put i l).strA ∧ (A.wrE i l = 0 ∨ A.wrE i l = 9) ∧ (A.wr i l).off = decide (A.wrE i l ≠ 0) := by
  have hp : (A.put i l).off = false := h
  have e1 : A.wr i l = (A.put i l).strA := by unfold Sx.Ab.wr; rw [h]; rfl
  have e2 : A.wrE i l = if (A.put i l).str = true then 9 else 0 := by unfold Sx.Ab.wrE; rw [h]; rfl
  refine ⟨e1, ?_, ?_⟩
  · rw [e2]; split
    · exact .inr rfl
    · exact .inl rfl
  · rw [e1, strA_off _ hp, e2]
    cases (A.put i l).str <;> rfl
theorem syc_on {A : Ab} (h : A.off = false) : (A.sycE = 0 ∨ A.sycE = 9) ∧ A.syc.off = decide (A.sycE ≠ 0) ∧ (A.sycE = 0 → A.syc = A.strA.sy) ∧ (A.sycE ≠ 0 → A.syc = A.strA) := by
  have e1 : A.syc = if A.str = true then A.strA else A.strA.sy := by unfold Sx.Ab.syc; rw [h]; rfl
  have e2 : A.sycE = if A.str = true then 9 else 0 := by unfold Sx.Ab.sycE; rw [h]; rfl
  have e3 := strA_off A h
  rw [e1, e2]
  cases hs : A.str with
  | true =>
    rw [hs] at e3
    exact ⟨.inr rfl, e3, (fun q => by cases q), fun _ => rfl⟩
  | false =>
    rw [hs] at e3
    exact ⟨.inl rfl, e3, fun _ => rfl, fun q => absurd rfl q⟩
/-- Steps that all go well: what is seen; and the disk is still on. -/
theorem stps_well (L : List Stp) : ∀ A, A.off = false → stpsE L A = 0 → (stpsA L A).off = false ∧ ∀ k, (stpsA L A).see k = seeF L A.see k := by
  induction L with
  | nil => intro A h _; exact ⟨h, fun k => rfl⟩
  | cons s L ih =>
    intro A h he
    have he' : (if s.e A = 0 then stpsE L (s.A A) else s.e A) = 0 := he
    have h0 : s.e A = 0 := by
      by_cases hq : s.e A = 0
      · exact hq
      · rw [if_neg hq] at he'; exact he'
    rw [if_pos h0] at he'
    have eA : stpsA (s :: L) A = stpsA L (s.A A) := by
      show (if s.e A = 0 then stpsA L (s.A A) else s.A A) = _
      rw [if_pos h0]
    rw [eA]
    cases s with
    | wr i l =>
      obtain ⟨q1, _, q3⟩ := wr_on h i l
      have h0' : A.wrE i l = 0 := h0
      rw [h0'] at q3
      obtain ⟨t1, t2⟩ := ih (A.wr i l) q3 he'
      refine ⟨t1, fun k => (t2 k).trans ?_⟩
      show seeF L _ k = seeF L _ k
      congr 1
      funext q
      rw [q1, strA_see, put_see]
    | sy =>
      obtain ⟨_, q2, q3, _⟩ := syc_on h
      have h0' : A.sycE = 0 := h0
      rw [h0'] at q2
      obtain ⟨t1, t2⟩ := ih A.syc q2 he'
      refine ⟨t1, fun k => (t2 k).trans ?_⟩
      show seeF L _ k = seeF L _ k
      congr 1
      funext q
      rw [q3 h0', sy_see, strA_see]
/-- Steps of which one fails leave the disk off; they answer 9. -/
theorem stps_ill (L : List Stp) : ∀ A, A.off = false → stpsE L A ≠ 0 → stpsE L A = 9 ∧ (stpsA L A).off = true := by
  induction L with
  | nil => intro A _ h; exact absurd rfl h
  | cons s L ih =>
    intro A h he
    have he' : (if s.e A = 0 then stpsE L (s.A A) else s.e A) ≠ 0 := he
    show (if s.e A = 0 then stpsE L (s.A A) else s.e A) = 9 ∧ (if s.e A = 0 then stpsA L (s.A A) else s.A A).off = true
    have hs : (s.e A = 0 ∨ s.e A = 9) ∧ (s.A A).off = decide (s.e A ≠ 0) := by
      cases s with
      | wr i l => exact ⟨(wr_on h i l).2.1, (wr_on h i l).2.2⟩
      | sy => exact ⟨(syc_on h).1, (syc_on h).2.1⟩
    by_cases hq : s.e A = 0
    · rw [if_pos hq] at he' ⊢
      rw [if_pos hq]
      exact ih _ (by rw [hs.2, hq]; rfl) he'
    · rw [if_neg hq, if_neg hq]
      exact ⟨hs.1.resolve_left hq, by rw [hs.2, decide_eq_true hq]⟩
/-- What holds of the bytes, whatever the power does. -/
def Blind (P : Ab → Prop) : Prop := ∀ A B : Ab, A.last = B.last → A.loose = B.loose → P A → P B
/-- Writes keep what every put of theirs keeps. -/
theorem stps_keep {P : Ab → Prop} (hP : Blind P) (L : List Stp) (hL : ∀ s ∈ L, ∃ i l, s = .wr i l ∧ ∀ A, P A → P (A.put i l)) : ∀ A, P A → P (stpsA L A) := by
  induction L with
  | nil => intro A h; exact h
  | cons s L ih =>
    intro A h
    obtain ⟨i, l, rfl, hp⟩ := hL _ (List.mem_cons_self ..)
    have h1 : P (A.wr i l) := by
      unfold Sx.Ab.wr
      split
      · exact h
      · exact hP (A.put i l) _ (strA_last _).symm (strA_loose _).symm (hp A h)
    show P (if A.wrE i l = 0 then stpsA L (A.wr i l) else A.wr i l)
    split
    · exact ih (fun s hs => hL s (List.mem_cons_of_mem _ hs)) _ h1
    · exact h1
/-- .. and so does a Sync behind them that fails. -/
theorem stps_keep_sy {P : Ab → Prop} (hP : Blind P) (L M : List Stp) (hL : ∀ s ∈ L, ∃ i l, s = .wr i l ∧ ∀ A, P A → P (A.put i l)) (A : Ab) (hon : A.off = false) (h : P A) :
    (stpsE L A ≠ 0 ∧ P (stpsA (L ++ .sy :: M) A) ∧ stpsE (L ++ .sy :: M) A = 9 ∧ (stpsA (L ++ .sy :: M) A).off = true) ∨
    (stpsE L A = 0 ∧ (stpsA L A).sycE ≠ 0 ∧ P (stpsA (L ++ .sy :: M) A) ∧ stpsE (L ++ .sy :: M) A = 9 ∧ (stpsA (L ++ .sy :: M) A).off = true) ∨
    (stpsE L A = 0 ∧ (stpsA L A).sycE = 0 ∧ stpsE (L ++ .sy :: M) A = stpsE M (stpsA L A).strA.sy ∧ stpsA (L ++ .sy :: M) A = stpsA M (stpsA L A).strA.sy ∧ (stpsA L A).strA.sy.off = false) := by
  have hk := stps_keep hP L hL A h
  by_cases he : stpsE L A = 0
  · obtain ⟨e1, e2⟩ := stps_app L (.sy :: M) A he
    obtain ⟨w1, _⟩ := stps_well L A hon he
    obtain ⟨s1, s2, s3, s4⟩ := syc_on w1
    by_cases hs : (stpsA L A).sycE = 0
    · refine .inr (.inr ⟨he, hs, ?_, ?_, ?_⟩)
      · rw [e1]
        show (if (stpsA L A).sycE = 0 then stpsE M (stpsA L A).syc else (stpsA L A).sycE) = _
        rw [if_pos hs, s3 hs]
      · rw [e2]
        show (if (stpsA L A).sycE = 0 then stpsA M (stpsA L A).syc else (stpsA L A).syc) = _
        rw [if_pos hs, s3 hs]
      · rw [← s3 hs, s2, hs]; rfl
    · refine .inr (.inl ⟨he, hs, ?_, ?_, ?_⟩)
      · rw [e2]
        show P (if (stpsA L A).sycE = 0 then stpsA M (stpsA L A).syc else (stpsA L A).syc)
        rw [if_neg hs, s4 hs]
        exact hP _ _ (strA_last _).symm (strA_loose _).symm hk
      · rw [e1]
        show (if (stpsA L A).sycE = 0 then stpsE M (stpsA L A).syc else (stpsA L A).sycE) = 9
        rw [if_neg hs]
        exact s1.resolve_left hs
      · rw [e2]
        show (if (stpsA L A).sycE = 0 then stpsA M (stpsA L A).syc else (stpsA L A).syc).off = true
        rw [if_neg hs, s2, decide_eq_true hs]
  · have hA : ∀ (L : List Stp) (A : Ab), stpsE L A ≠ 0 → stpsA (L ++ .sy :: M) A = stpsA L A ∧ stpsE (L ++ .sy :: M) A = stpsE L A := by
      intro L
      induction L with
      | nil => intro A h; exact absurd rfl h
      | cons s L ih =>
        intro A h
        have h' : (if s.e A = 0 then stpsE L (s.A A) else s.e A) ≠ 0 := h
        show (if s.e A = 0 then stpsA (L ++ .sy :: M) (s.A A) else s.A A) = (if s.e A = 0 then stpsA L (s.A A) else s.A A) ∧ (if s.e A = 0 then stpsE (L ++ .sy :: M) (s.A A) else s.e A) = (if s.e A = 0 then stpsE L (s.A A) else s.e A)
        by_cases hq : s.e A = 0
        · rw [if_pos hq] at h'
          rw [if_pos hq, if_pos hq, if_pos hq, if_pos hq]
          exact ih _ h'
        · rw [if_neg hq, if_neg hq, if_neg hq, if_neg hq]
          exact ⟨rfl, rfl⟩
    obtain ⟨t1, t2⟩ := hA L A he
    obtain ⟨u1, u2⟩ := stps_ill L A hon he
    exact .inl ⟨he, by rw [t1]; exact hk, by rw [t2]; exact u1, by rw [t1]; exact u2⟩
end Go.Proofs.Ytaigdbnfhehclaa

namespace Go.Proofs.Ytaigdbnfhehclaa
open Go.RowKit
open Sx (Ab z128 padN CrashTo)
set_option maxRecDepth 100000

/-- While a row is laid: what lasts is as it was; what is loose are pieces of the row, in their places. -/
structure Laying (A0 A : Ab) (at_ : Int) (ps : List (List Nat)) : Prop where
  last : A.last = A0.last
  loose : ∀ k l, A.loose k = some l → ∃ (i : Nat) (p : List Nat), ps[i]? = some p ∧ k = at_ + i ∧ l = padN p
theorem laying_blind (A0 : Ab) (at_ : Int) (ps : List (List Nat)) : Blind fun A => Laying A0 A at_ ps := fun A B h1 h2 h => ⟨h1 ▸ h.last, fun k l hk => h.loose k l (by rw [h2]; exact hk)⟩
theorem laying_put {A0 A : Ab} {at_ : Int} {ps : List (List Nat)} (h : Laying A0 A at_ ps) {i : Nat} {p : List Nat} (hp : ps[i]? = some p) : Laying A0 (A.put (at_ + i) p) at_ ps := by
  refine ⟨h.last, fun k l hk => ?_⟩
  have hk : (if k = at_ + i then some (padN p) else A.loose k) = some l := hk
  split at hk
  · cases hk
    rename_i e
    exact ⟨i, p, hp, e, rfl⟩
  · exact h.loose k l hk
/-- What is seen behind a crash: what lasted; or a piece, or nothing, in the row's places. -/
theorem laying_crash {A0 A A' : Ab} {at_ : Int} {ps : List (List Nat)} {keep : List Int} (h0 : ∀ k, A0.loose k = none) (h : Laying A0 A at_ ps) (hc : CrashTo A keep A') (k : Int) :
    A'.see k = A0.see k ∨ ∃ (i : Nat) (p : List Nat), ps[i]? = some p ∧ k = at_ + i ∧ (A'.see k = some (padN p) ∨ A'.see k = none) := by
  have e1 : A'.see k = A'.last k := by unfold Sx.Ab.see; rw [hc.loose]
  have e0 : A0.see k = A0.last k := by unfold Sx.Ab.see; rw [h0]
  rw [e1, e0]
  rcases hc.last k with e | ⟨l, e, e2⟩
  · exact .inl (by rw [e, h.last])
  · obtain ⟨i, p, q1, q2, q3⟩ := h.loose k l e
    subst q3
    exact .inr ⟨i, p, q1, q2, e2⟩
theorem crash_sm {A A' : Ab} {keep : List Int} (h : Ab.Sm A) (hc : CrashTo A keep A') : Ab.Sm A' := fun k l hl => by
  rcases hl with hl | hl
  · rcases hc.last k with e | ⟨q, e, e2⟩
    · exact h k l (.inl (by rw [← e]; exact hl))
    · rcases e2 with e2 | e2
      · rw [e2] at hl; cases hl; exact h k _ (.inr e)
      · rw [e2] at hl; cases hl
  · rw [hc.loose] at hl; cases hl
theorem laying_half {A0 A A' : Ab} {j : Jr} {R : List (Int × List Nat)} {r : Int × List Nat} {keep : List Int} (h : Holds A0 j R) (hr : RowOk r) (hl : (secL R).length + npc (rowF r) ≤ 255) (hL : Laying A0 A j.at_ (pcs (rowF r))) (hsm : Ab.Sm A) (hc : CrashTo A keep A') :
    (Half A' j R ∨ Half A' { j with at_ := j.at_ + npc (rowF r) } (R ++ [r])) ∧ Calm A' ∧ ∀ k, A'.loose k = none := by
  have hsm' := crash_sm hsm hc
  have hat := h.half.at_
  have hsee := laying_crash h.still hL hc
  have hout : ∀ k, (k < j.at_ ∨ j.at_ + (npc (rowF r) : Nat) ≤ k) → A'.see k = A0.see k := fun k hk => by
    rcases hsee k with e | ⟨i, p, q1, q2, _⟩
    · exact e
    · have := (List.getElem?_eq_some_iff.1 q1).1
      rw [pcs_length] at this
      omega
  have hin : ∀ i, i < npc (rowF r) → A'.see (j.at_ + (i : Nat)) = some (padN (pc (rowF r) i)) ∨ A'.see (j.at_ + (i : Nat)) = none ∨ A'.see (j.at_ + (i : Nat)) = some z128 := fun i hi => by
    rcases hsee (j.at_ + i) with e | ⟨i', p, q1, q2, q3⟩
    · exact .inr (.inr (e.trans (h.rest _ (by omega) (by omega))))
    · obtain rfl : i = i' := by omega
      rw [pcs_get _ hi] at q1
      cases q1
      exact q3.imp id .inl
  have hoth : turnA A' (256 - j.first) < j.turn := by
    rw [turnA_see (hout (256 - j.first) (by rcases h.half.f with e | e <;> omega))]
    exact h.half.other
  refine ⟨?_, ⟨hc.off, by rw [hc.left]; decide⟩, hc.loose⟩
  by_cases hall : ∀ i, i < npc (rowF r) → A'.see (j.at_ + (i : Nat)) = some (padN (pc (rowF r) i))
  · refine .inr ?_
    have hlen : (secL (R ++ [r])).length = (secL R).length + npc (rowF r) := by rw [secL_append, List.length_append, secL_one, secs_len]
    refine ⟨hsm', h.half.f, h.half.t, h.half.live, fun x hx => ?_, by rw [hlen]; exact hl, by rw [hlen]; simp only; omega, ?_, fun k l hk => ?_, ?_, fun s q1 q2 => ?_, hoth⟩
    · rcases List.mem_append.1 hx with hx | hx
      · exact h.half.ok x hx
      · rw [List.mem_singleton] at hx; rw [hx]; exact hr
    · exact (hout _ (by simp only; omega)).trans h.half.head
    · rw [secL_append, secL_one] at hk
      by_cases hlt : k < (secL R).length
      · rw [List.getElem?_append_left hlt] at hk
        exact (hout _ (by simp only; omega)).trans (h.half.body k l hk)
      · rw [List.getElem?_append_right (by omega)] at hk
        have hk2 := (List.getElem?_eq_some_iff.1 hk).1
        rw [secs_len] at hk2
        rw [secs_get r hk2] at hk
        cases hk
        rw [← hall _ hk2]
        congr 1
        simp only
        omega
    · simp only
      by_cases hlt : j.at_ + npc (rowF r) < j.first + 256
      · rw [row_dud (by rw [hout _ (.inr (Int.le_refl _)), h.rest _ (by omega) hlt]; exact dud_z)]
        rfl
      · unfold rowA
        rw [show (j.first + 256 - (j.at_ + npc (rowF r))).toNat = 0 by omega]
        rfl
    · simp only at q1 q2
      rw [hout _ (by omega), h.rest _ (by omega) q2]
      exact dud_z
  · refine .inl ⟨hsm', h.half.f, h.half.t, h.half.live, h.half.ok, h.half.len, hat, (hout _ (by omega)).trans h.half.head, fun k l hk => ?_, ?_, fun s q1 q2 => ?_, hoth⟩
    · have := (List.getElem?_eq_some_iff.1 hk).1
      exact (hout _ (by omega)).trans (h.half.body k l hk)
    · have hex : ∃ m, m < npc (rowF r) ∧ A'.see (j.at_ + (m : Nat)) ≠ some (padN (pc (rowF r) m)) := by
        rcases Classical.not_forall.1 hall with ⟨m, hm⟩
        exact ⟨m, Classical.not_imp.1 hm⟩
      rw [row_part hr hin hex]
      rfl
    · by_cases hlt : s < j.at_ + npc (rowF r)
      · obtain ⟨i, hi⟩ : ∃ i : Nat, s = j.at_ + i := ⟨(s - j.at_).toNat, by omega⟩
        subst hi
        rcases hin i (by omega) with e | e | e
        · rw [e]
          intro l hl2
          cases hl2
          rw [sec_head]
          omega
        · rw [e]; intro l hl2; cases hl2
        · rw [e]; exact dud_z
      · rw [hout s (by omega), h.rest s (by omega) q2]
        exact dud_z
/-- A row that was laid and synced. -/
theorem Holds.laid {A A' : Ab} {j : Jr} {R : List (Int × List Nat)} (h : Holds A j R) {r : Int × List Nat} (hr : RowOk r) (hl : (secL R).length + npc (rowF r) ≤ 255) (hsm : Ab.Sm A') (s4 : ∀ k, A'.loose k = none) (s3 : ∀ k, A'.see k = seeF (wrs j.at_ (pcs (rowF r))) A.see k) :
    Holds A' { j with at_ := j.at_ + npc (rowF r) } (R ++ [r]) := by
  have ha := h.half.at_
  have hout : ∀ k, (k < j.at_ ∨ j.at_ + (npc (rowF r) : Nat) ≤ k) → A'.see k = A.see k := fun k hk => by rw [s3, see_wrs_out _ _ _ _ (by rw [pcs_length]; exact hk)]
  have hlen : (secL (R ++ [r])).length = (secL R).length + npc (rowF r) := by rw [secL_append, List.length_append, secL_one, secs_len]
  have hb : ∀ s, j.at_ ≤ s → s < j.first + 256 → A.see s = some z128 := h.rest
  refine holds_mk hsm h.half.f h.half.t h.half.live ?_ (by rw [hlen]; exact hl) (by rw [hlen]; simp only; omega) ?_ ?_ ?_ s4 ?_
  · intro x hx
    rcases List.mem_append.1 hx with hx | hx
    · exact h.half.ok x hx
    · rw [List.mem_singleton] at hx; rw [hx]; exact hr
  · rw [hout _ (by simp only; omega)]; exact h.half.head
  · intro k l hk
    rw [secL_append, secL_one] at hk
    by_cases hlt : k < (secL R).length
    · rw [List.getElem?_append_left hlt] at hk
      rw [hout _ (by simp only; omega)]
      exact h.half.body k l hk
    · rw [List.getElem?_append_right (by omega)] at hk
      have hk2 := (List.getElem?_eq_some_iff.1 hk).1
      rw [secs_len] at hk2
      rw [secs_get r hk2] at hk
      cases hk
      have := see_wrs (pcs (rowF r)) j.at_ A.see (k - (secL R).length) _ (pcs_get (rowF r) hk2)
      rw [← s3] at this
      rw [← this]
      congr 1
      simp only
      omega
  · rw [turnA_see (show A'.see (256 - j.first) = A.see (256 - j.first) from hout _ (by rcases h.half.f with e | e <;> omega))]
    exact h.half.other
  · intro s q1 q2
    simp only at q1 q2
    rw [hout _ (by omega)]
    exact hb s (by omega) q2
/-- Append, on a disk that may be armed. -/
theorem Holds.append_armed {A : Ab} {j : Jr} {R : List (Int × List Nat)} (h : Holds A j R) (hon : A.off = false) {r : Int × List Nat} (hr : RowOk r) (hl : (secL R).length + npc (rowF r) ≤ 255) :
    (appE A j r.1 r.2 = 0 ∧ Holds (appA A j r.1 r.2) (appJ A j r.1 r.2) (R ++ [r]) ∧ (appA A j r.1 r.2).off = false ∧ appJ A j r.1 r.2 = { j with at_ := j.at_ + npc (rowF r) }) ∨
    (appE A j r.1 r.2 = 9 ∧ (appA A j r.1 r.2).off = true ∧ (appJ A j r.1 r.2).dead = true ∧ Laying A (appA A j r.1 r.2) j.at_ (pcs (rowF r)) ∧ Ab.Sm (appA A j r.1 r.2)) := by
  obtain ⟨e1, e2⟩ := laid_ok hr
  have ha := h.half.at_
  have g : (j.dead || A.off) = false := by rw [h.half.live, hon]; rfl
  have hroom : ¬ j.first + 256 - j.at_ < (npc (rowF r) : Nat) := by omega
  have e3 : appL j r.1 r.2 = wrs j.at_ (pcs (rowF r)) ++ .sy :: [] := by unfold appL; rw [e2]
  have E : appE A j r.1 r.2 = stpsE (wrs j.at_ (pcs (rowF r)) ++ .sy :: []) A := by unfold appE; rw [g, e1, e2, e3]; simp [hroom]
  have EA : appA A j r.1 r.2 = stpsA (wrs j.at_ (pcs (rowF r)) ++ .sy :: []) A := by unfold appA; rw [g, e1, e2, e3]; simp [hroom]
  have EJ : appJ A j r.1 r.2 = if stpsE (wrs j.at_ (pcs (rowF r)) ++ .sy :: []) A = 0 then { j with at_ := j.at_ + npc (rowF r) } else { j with dead := true } := by unfold appJ; rw [g, e1, e2, e3]; simp [hroom]
  have hsm : Ab.Sm (stpsA (wrs j.at_ (pcs (rowF r)) ++ .sy :: []) A) := sm_stps _ _ h.half.sm fun i l hm => by
    rcases List.mem_append.1 hm with hm | hm
    · exact wrs_small (fun p hp => pcs_small hr hp) i l hm
    · simp at hm
  have hkeep : ∀ s ∈ wrs j.at_ (pcs (rowF r)), ∃ i l, s = .wr i l ∧ ∀ B, Laying A B j.at_ (pcs (rowF r)) → Laying A (B.put i l) j.at_ (pcs (rowF r)) := fun s hs => by
    unfold wrs at hs
    obtain ⟨i, hi, e⟩ := List.mem_mapIdx.1 hs
    exact ⟨_, _, e.symm, fun B hB => laying_put hB (List.getElem?_eq_getElem hi)⟩
  have hP0 : Laying A A j.at_ (pcs (rowF r)) := ⟨rfl, fun k l hk => by rw [h.still] at hk; cases hk⟩
  rw [E, EA, EJ]
  rcases stps_keep_sy (laying_blind A j.at_ (pcs (rowF r))) (wrs j.at_ (pcs (rowF r))) [] hkeep A hon hP0 with ⟨_, q1, q2, q3⟩ | ⟨_, _, q1, q2, q3⟩ | ⟨w0, w1, q1, q2, q3⟩
  · exact .inr ⟨q2, q3, by rw [q2]; rfl, q1, hsm⟩
  · exact .inr ⟨q2, q3, by rw [q2]; rfl, q1, hsm⟩
  · have z : stpsE (wrs j.at_ (pcs (rowF r)) ++ .sy :: []) A = 0 := q1
    obtain ⟨_, ws⟩ := stps_well _ A hon w0
    refine .inl ⟨z, ?_, by rw [q2]; exact q3, by rw [if_pos z]⟩
    rw [if_pos z]
    refine h.laid hr hl hsm (fun k => by rw [q2]; rfl) (fun k => ?_)
    rw [q2]
    show (stpsA (wrs j.at_ (pcs (rowF r))) A).strA.sy.see k = _
    rw [sy_see, strA_see, ws]
/-- While the other half's places are laid. -/
structure Away (A0 A : Ab) (ot : Int) : Prop where
  last : A.last = A0.last
  loose : ∀ k l, A.loose k = some l → ot < k ∧ k < ot + 256
theorem away_blind (A0 : Ab) (ot : Int) : Blind fun A => Away A0 A ot := fun A B h1 h2 h => ⟨h1 ▸ h.last, fun k l hk => h.loose k l (by rw [h2]; exact hk)⟩
theorem away_put {A0 A : Ab} {ot i : Int} (h : Away A0 A ot) (hi : ot < i ∧ i < ot + 256) (p : List Nat) : Away A0 (A.put i p) ot := by
  refine ⟨h.last, fun k l hk => ?_⟩
  have hk : (if k = i then some (padN p) else A.loose k) = some l := hk
  split at hk
  · rename_i e
    rw [e]; exact hi
  · exact h.loose k l hk
theorem away_half {A0 A A' : Ab} {j : Jr} {R : List (Int × List Nat)} {keep : List Int} (h : Holds A0 j R) (hL : Away A0 A (256 - j.first)) (hsm : Ab.Sm A) (hc : CrashTo A keep A') : Half A' j R ∧ Calm A' ∧ ∀ k, A'.loose k = none := by
  have hout : ∀ k, ¬ (256 - j.first < k ∧ k < 256 - j.first + 256) → A'.see k = A0.see k := fun k hk => by
    have e1 : A'.see k = A'.last k := by unfold Sx.Ab.see; rw [hc.loose]
    have e0 : A0.see k = A0.last k := by unfold Sx.Ab.see; rw [h.still]
    rw [e1, e0]
    rcases hc.last k with e | ⟨l, e, _⟩
    · rw [e, hL.last]
    · exact absurd (hL.loose k l e) hk
  have hf := h.half.f
  have hat := h.half.at_
  have hlen := h.half.len
  refine ⟨h.half.congr (crash_sm hsm hc) (hout _ (by omega)) (fun s q1 q2 => hout s (by omega)) (fun s q1 q2 => (hout s (by omega)).trans (h.rest s q1 q2)) ?_, ⟨hc.off, by rw [hc.left]; decide⟩, hc.loose⟩
  rw [turnA_see (hout (256 - j.first) (by omega))]
  exact h.half.other
end Go.Proofs.Ytaigdbnfhehclaa

namespace Go.Proofs.Ytaigdbnfhehclaa
open Go.RowKit
open Sx (Ab z128 padN CrashTo)
set_option maxRecDepth 100000

/-- Whatever a crash leaves, it is one of two. -/
def Back (A : Ab) (T : Int) (R R' : List (Int × List Nat)) : Prop := ∀ keep A', CrashTo A keep A' → ∃ j', (Half A' j' R ∨ Half A' j' R') ∧ j'.turn ≤ T ∧ Calm A' ∧ ∀ k, A'.loose k = none
theorem Holds.back {A : Ab} {j : Jr} {R : List (Int × List Nat)} (h : Holds A j R) (R' : List (Int × List Nat)) : Back A j.turn R R' := fun keep A' hc => by
  obtain ⟨h1, h2⟩ := holds_crash h hc
  exact ⟨j, .inl h1.half, Int.le_refl _, h2, hc.loose⟩
theorem Back.mono {A : Ab} {T T' : Int} {R R' : List (Int × List Nat)} (h : Back A T R R') (ht : T ≤ T') : Back A T' R R' := fun keep A' hc => by
  obtain ⟨j', h1, h2, h3⟩ := h keep A' hc
  exact ⟨j', h1, Int.le_trans h2 ht, h3⟩
theorem arm_see (A : Ab) (n k : Int) : (A.arm n).see k = A.see k := rfl
theorem Holds.arm {A : Ab} {j : Jr} {R : List (Int × List Nat)} (h : Holds A j R) (n : Int) : Holds (A.arm n) j R := by
  refine ⟨h.half.congr (fun k l hl => h.half.sm k l hl) rfl (fun s _ _ => rfl) (fun s q1 q2 => h.rest s q1 q2) ?_, h.still, h.rest⟩
  rw [turnA_see (arm_see A n _)]
  exact h.half.other
theorem calm_arm {A : Ab} (h : A.off = false) : Calm (A.arm (-1)) := ⟨h, by show Sx.intMax (-1) (-1) < 0; decide⟩
/-- The other half with its rows and its head. -/
theorem Holds.laid2 {A A' : Ab} {j : Jr} {R R' : List (Int × List Nat)} (h : Holds A j R) (hR : RowsOk R') (hl : (secL R').length ≤ 255) (ht : j.turn + 1 < 4611686018427387904) (hsm : Ab.Sm A') (s4 : ∀ k, A'.loose k = none)
    (hsee : ∀ k, A'.see k = if k = 256 - j.first then some (fl (j.turn + 1).toNat) else seeF (wrs (256 - j.first + 1) (fillP (allP R'))) A.see k) :
    Holds A' ⟨256 - j.first, 256 - j.first + 1 + (secL R').length, j.turn + 1, false⟩ R' := by
  obtain ⟨e1, e2⟩ := allP_ok hR
  have hlen : (allP R').length = (secL R').length := by rw [e1, List.length_map]
  obtain ⟨t1, t2⟩ := h.half.t
  have hf := h.half.f
  have hq := fillP_len (show (allP R').length ≤ 255 by omega)
  have hout : ∀ k, (k < 256 - j.first ∨ 256 - j.first + 256 ≤ k) → A'.see k = A.see k := fun k hk => by
    rw [hsee, if_neg (by omega), see_wrs_out _ _ _ _ (by rw [hq]; omega)]
  have hin : ∀ (i : Nat) p, (fillP (allP R'))[i]? = some p → A'.see (256 - j.first + 1 + i) = some (padN p) := fun i p hp => by
    rw [hsee, if_neg (by omega)]
    exact see_wrs _ _ _ i p hp
  refine holds_mk hsm (by rcases hf with e | e <;> rw [e] <;> simp) ⟨by show 1 ≤ j.turn + 1; omega, ht⟩ rfl hR hl rfl ?_ (fun k l hk => ?_) ?_ s4 (fun s q1 q2 => ?_)
  · show A'.see (256 - j.first) = some (fl (j.turn + 1).toNat)
    rw [hsee, if_pos rfl]
  · show A'.see (256 - j.first + 1 + k) = some l
    rw [e1, List.getElem?_map] at hk
    cases hp : (allP R')[k]? with
    | none => rw [hp] at hk; cases hk
    | some p =>
      rw [hp] at hk
      cases hk
      refine hin k p ?_
      unfold fillP
      rw [List.getElem?_append_left (List.getElem?_eq_some_iff.1 hp).1]
      exact hp
  · show turnA A' (256 - (256 - j.first)) < j.turn + 1
    rw [show 256 - (256 - j.first) = j.first by omega, turnA_see (hout j.first (by rcases hf with e | e <;> omega)), h.half.own]
    omega
  · have a1 : 256 - j.first + 1 + ((secL R').length : Int) ≤ s := q1
    have a2 : s < 256 - j.first + 256 := q2
    obtain ⟨i, hi⟩ : ∃ i : Nat, s = 256 - j.first + 1 + i := ⟨(s - (256 - j.first + 1)).toNat, by omega⟩
    rw [hi]
    have := hin i [] (by
      unfold fillP
      rw [List.getElem?_append_right (by omega), List.getElem?_replicate, if_pos (by omega)])
    rw [this, padN_nil]
/-- While the head is laid. -/
structure Heading (B A : Ab) (ot : Int) (l : List Nat) : Prop where
  last : A.last = B.last
  loose : ∀ k q, A.loose k = some q → k = ot ∧ q = padN l
theorem heading_blind (B : Ab) (ot : Int) (l : List Nat) : Blind fun A => Heading B A ot l := fun A C h1 h2 h => ⟨h1 ▸ h.last, fun k q hk => h.loose k q (by rw [h2]; exact hk)⟩
theorem heading_put {B A : Ab} {ot : Int} {l : List Nat} (h : Heading B A ot l) : Heading B (A.put ot l) ot l := by
  refine ⟨h.last, fun k q hk => ?_⟩
  have hk : (if k = ot then some (padN l) else A.loose k) = some q := hk
  split at hk
  · rename_i e
    cases hk
    exact ⟨e, rfl⟩
  · exact h.loose k q hk
theorem heading_crash {B A A' : Ab} {ot : Int} {l : List Nat} {keep : List Int} (h0 : ∀ k, B.loose k = none) (h : Heading B A ot l) (hc : CrashTo A keep A') :
    (∀ k, k ≠ ot → A'.see k = B.see k) ∧ (A'.see ot = B.see ot ∨ A'.see ot = some (padN l) ∨ A'.see ot = none) := by
  have e1 : ∀ k, A'.see k = A'.last k := fun k => by unfold Sx.Ab.see; rw [hc.loose]
  have e0 : ∀ k, B.see k = B.last k := fun k => by unfold Sx.Ab.see; rw [h0]
  refine ⟨fun k hk => ?_, ?_⟩
  · rw [e1, e0]
    rcases hc.last k with e | ⟨q, e, _⟩
    · rw [e, h.last]
    · exact absurd (h.loose k q e).1 hk
  · rw [e1, e0]
    rcases hc.last ot with e | ⟨q, e, e2⟩
    · exact .inl (by rw [e, h.last])
    · rw [← (h.loose ot q e).2]
      exact .inr e2
theorem sy_loose (A : Ab) (k : Int) : A.sy.loose k = none := rfl
/-- Compact, on a disk that may be armed. -/
theorem Holds.compact_armed {A : Ab} {j : Jr} {R R' : List (Int × List Nat)} (h : Holds A j R) (hon : A.off = false) (hR : RowsOk R') (hl : (secL R').length ≤ 255) (ht : j.turn + 1 < 4611686018427387904) :
    (compE A j R' = 0 ∧ Holds (compA A j R') (compJ A j R') R' ∧ (compA A j R').off = false ∧ (compJ A j R').turn = j.turn + 1) ∨
    (compE A j R' = 9 ∧ (compA A j R').off = true ∧ (compJ A j R').dead = true ∧ Back (compA A j R') (j.turn + 1) R R' ∧ Ab.Sm (compA A j R')) := by
  obtain ⟨e1, e2⟩ := allP_ok hR
  have hlen : (allP R').length = (secL R').length := by rw [e1, List.length_map]
  have g : ¬ (j.dead || A.off) = true := by rw [h.half.live, hon]; decide
  obtain ⟨t1, t2⟩ := h.half.t
  have hf := h.half.f
  have h255 : ¬ 255 < (allP R').length := by omega
  obtain ⟨T, hT⟩ : ∃ T : Nat, (j.turn + 1).toNat = T := ⟨_, rfl⟩
  obtain ⟨ot, hot⟩ : ∃ ot : Int, 256 - j.first = ot := ⟨_, rfl⟩
  have eL : compL j R' = wrs (ot + 1) (fillP (allP R')) ++ .sy :: ([.wr ot (headL T)] ++ .sy :: []) := by
    unfold compL
    rw [hT, hot]
    rfl
  have hsmL : WrSm (compL j R') := fun i l hm => by
    rw [eL] at hm
    rcases List.mem_append.1 hm with hm | hm
    · refine wrs_small (fun p hp => ?_) i l hm
      rcases List.mem_append.1 hp with hp | hp
      · exact allP_small hR hp
      · rw [List.eq_of_mem_replicate hp]; exact fun x hx => by cases hx
    · simp only [List.cons_append, List.nil_append, List.mem_cons, List.not_mem_nil, or_false, reduceCtorEq, false_or] at hm
      cases hm
      exact headL_small T
  have hsm : Ab.Sm (stpsA (compL j R') A) := sm_stps _ _ h.half.sm hsmL
  have E : compE A j R' = stpsE (compL j R') A := by unfold compE; rw [if_neg g, if_neg (by rw [e2]; simp), if_neg h255]
  have EA : compA A j R' = stpsA (compL j R') A := by unfold compA; rw [if_neg g, if_neg (by rw [e2]; simp), if_neg h255]
  have EJ : compJ A j R' = if stpsE (compL j R') A = 0 then ⟨256 - j.first, 256 - j.first + 1 + (secL R').length, j.turn + 1, false⟩ else { j with dead := true } := by
    unfold compJ; rw [if_neg g, if_neg (by rw [e2]; simp), if_neg h255, hlen]
  have hq := fillP_len (show (allP R').length ≤ 255 by omega)
  rw [E, EA, EJ]
  rw [eL] at hsm ⊢
  have hA0 : Away A A ot := ⟨rfl, fun k l hk => by rw [h.still] at hk; cases hk⟩
  have hkeep : ∀ s ∈ wrs (ot + 1) (fillP (allP R')), ∃ i l, s = .wr i l ∧ ∀ B, Away A B ot → Away A (B.put i l) ot := fun s hs => by
    unfold wrs at hs
    obtain ⟨i, hi, e⟩ := List.mem_mapIdx.1 hs
    exact ⟨_, _, e.symm, fun B hB => away_put hB (by omega) _⟩
  have bad : ∀ B, Away A B ot → Ab.Sm B → Back B (j.turn + 1) R R' := fun B hB hs keep A' hc => by
    subst hot
    obtain ⟨q1, q2, q3⟩ := away_half h hB hs hc
    exact ⟨j, .inl q1, by omega, q2, q3⟩
  rcases stps_keep_sy (away_blind A ot) (wrs (ot + 1) (fillP (allP R'))) ([.wr ot (headL T)] ++ .sy :: []) hkeep A hon hA0 with ⟨_, q1, q2, q3⟩ | ⟨_, _, q1, q2, q3⟩ | ⟨w0, w1, q1, q2, q3⟩
  · exact .inr ⟨q2, q3, by rw [q2]; rfl, bad _ q1 hsm, hsm⟩
  · exact .inr ⟨q2, q3, by rw [q2]; rfl, bad _ q1 hsm, hsm⟩
  · obtain ⟨_, ws⟩ := stps_well _ A hon w0
    rw [q1, q2]
    rw [q2] at hsm
    have hBs : ∀ k, (stpsA (wrs (ot + 1) (fillP (allP R'))) A).strA.sy.see k = seeF (wrs (ot + 1) (fillP (allP R'))) A.see k := fun k => by rw [sy_see, strA_see, ws]
    have hBl := sy_loose (stpsA (wrs (ot + 1) (fillP (allP R'))) A).strA
    generalize (stpsA (wrs (ot + 1) (fillP (allP R'))) A).strA.sy = B at *
    have hBo : ∀ k, ¬ (ot < k ∧ k < ot + 256) → B.see k = A.see k := fun k hk => by rw [hBs, see_wrs_out _ _ _ _ (by rw [hq]; omega)]
    have hH0 : Heading B B ot (headL T) := ⟨rfl, fun k l hk => by rw [hBl] at hk; cases hk⟩
    have hk2 : ∀ s ∈ [Stp.wr ot (headL T)], ∃ i l, s = .wr i l ∧ ∀ C, Heading B C ot (headL T) → Heading B (C.put i l) ot (headL T) := fun s hs => by
      rw [List.mem_singleton] at hs
      exact ⟨_, _, hs, fun C hC => heading_put hC⟩
    have bad2 : ∀ C, Heading B C ot (headL T) → Ab.Sm C → Back C (j.turn + 1) R R' := fun C hC hs keep A' hc => by
      obtain ⟨c1, c2⟩ := heading_crash hBl hC hc
      have hsm' := crash_sm hs hc
      have hcalm : Calm A' := ⟨hc.off, by rw [hc.left]; decide⟩
      have old : turnA A' ot < j.turn → Half A' j R := fun hlt => by
        have hat := h.half.at_
        have hlen2 := h.half.len
        have hs2 : ∀ k, ¬ (ot ≤ k ∧ k < ot + 256) → A'.see k = A.see k := fun k hk => (c1 k (by omega)).trans (hBo k (by omega))
        refine h.half.congr hsm' (hs2 _ (by omega)) (fun s p1 p2 => hs2 s (by omega)) (fun s p1 p2 => (hs2 s (by omega)).trans (h.rest s p1 p2)) ?_
        rw [hot]
        exact hlt
      rcases c2 with c2 | c2 | c2
      · refine ⟨j, .inl (old ?_), by omega, hcalm, hc.loose⟩
        rw [turnA_see (c2.trans (hBo ot (by omega))), ← hot]
        exact h.half.other
      · refine ⟨_, .inr (h.laid2 hR hl ht hsm' hc.loose fun k => ?_).half, Int.le_refl _, hcalm, hc.loose⟩
        rw [hot, hT]
        by_cases hk : k = ot
        · rw [if_pos hk, hk, c2, padN_head]
        · rw [if_neg hk, c1 k hk, hBs]
      · refine ⟨j, .inl (old ?_), by omega, hcalm, hc.loose⟩
        rw [turnA_none c2]
        omega
    rcases stps_keep_sy (heading_blind B ot (headL T)) [.wr ot (headL T)] [] hk2 B q3 hH0 with ⟨_, r1, r2, r3⟩ | ⟨_, _, r1, r2, r3⟩ | ⟨v0, v1, r1, r2, r3⟩
    · exact .inr ⟨r2, r3, by rw [r2]; rfl, bad2 _ r1 hsm, hsm⟩
    · exact .inr ⟨r2, r3, by rw [r2]; rfl, bad2 _ r1 hsm, hsm⟩
    · obtain ⟨_, vs⟩ := stps_well _ B q3 v0
      have z : stpsE ([Stp.wr ot (headL T)] ++ .sy :: []) B = 0 := r1
      refine .inl ⟨z, ?_, by rw [r2]; exact r3, by rw [if_pos z]⟩
      rw [if_pos z]
      refine h.laid2 hR hl ht hsm (fun k => by rw [r2]; rfl) fun k => ?_
      rw [r2]
      show (stpsA [Stp.wr ot (headL T)] B).strA.sy.see k = _
      rw [sy_see, strA_see, vs, hot, hT]
      show (if k = ot then some (padN (headL T)) else B.see k) = _
      rw [padN_head, hBs]
/-- Append: what a crash leaves. -/
theorem Holds.append_back {A : Ab} {j : Jr} {R : List (Int × List Nat)} (h : Holds A j R) (hon : A.off = false) {r : Int × List Nat} (hr : RowOk r) (hl : (secL R).length + npc (rowF r) ≤ 255) :
    (appE A j r.1 r.2 = 0 ∧ Holds (appA A j r.1 r.2) (appJ A j r.1 r.2) (R ++ [r]) ∧ (appA A j r.1 r.2).off = false ∧ (appJ A j r.1 r.2).turn = j.turn) ∨
    (appE A j r.1 r.2 = 9 ∧ (appA A j r.1 r.2).off = true ∧ (appJ A j r.1 r.2).dead = true ∧ Back (appA A j r.1 r.2) (j.turn + 1) R (R ++ [r]) ∧ Ab.Sm (appA A j r.1 r.2)) := by
  rcases h.append_armed hon hr hl with ⟨h1, h2, h3, h4⟩ | ⟨h1, h2, h3, h4, h5⟩
  · exact .inl ⟨h1, h2, h3, by rw [h4]⟩
  · refine .inr ⟨h1, h2, h3, fun keep A' hc => ?_, h5⟩
    obtain ⟨q1, q2, q3⟩ := laying_half h hr hl h4 h5 hc
    rcases q1 with q1 | q1
    · exact ⟨_, .inl q1, by omega, q2, q3⟩
    · exact ⟨_, .inr q1, by show j.turn ≤ j.turn + 1; omega, q2, q3⟩
/-- The first Open, on a new disk that may be armed. -/
theorem first_open (n : Int) : (∃ A', openP (Sx.ab0.arm n) = ⟨0, A', newJ, []⟩ ∧ Holds A' newJ [] ∧ A'.off = false) ∨
    ((openP (Sx.ab0.arm n)).e = 9 ∧ ∀ keep A', CrashTo (openP (Sx.ab0.arm n)).A keep A' → Ab.Sm A' ∧ ∃ A'', openP A' = ⟨0, A'', newJ, []⟩ ∧ Holds A'' newJ [] ∧ Calm A'') := by
  obtain ⟨A, hA⟩ : ∃ A, Sx.ab0.arm n = A := ⟨_, rfl⟩
  have hz : ∀ k, A.see k = some z128 := fun k => by rw [← hA]; rfl
  have hl : ∀ k, A.loose k = none := fun k => by rw [← hA]; rfl
  have hsm : Ab.Sm A := by rw [← hA]; exact fun k l h => sm_ab0 k l h
  have hon : A.off = false := by rw [← hA]; rfl
  rw [hA]
  clear hA
  have e1 : pickT A = 0 := by unfold pickT; rw [turnA_z (hz 0), turnA_z (hz 256)]; rfl
  have e2 : cleanB A = true := by
    unfold cleanB
    rw [List.all_eq_true]
    intro k _
    unfold goodS
    rw [hz]
    simp
  have e3 : openP A = ⟨stpsE newL A, stpsA newL A, newJ, []⟩ := by
    unfold openP
    rw [if_neg (by rw [hon]; decide), if_pos e1, if_neg (by rw [e2]; decide)]
  have e4 : newL = [.wr 0 (headL 1)] ++ .sy :: [] := rfl
  have hsmL : WrSm newL := fun i l hm => by
    rw [e4] at hm
    simp only [List.cons_append, List.nil_append, List.mem_cons, List.not_mem_nil, or_false, reduceCtorEq] at hm
    cases hm
    exact headL_small 1
  have hsm2 : Ab.Sm (stpsA newL A) := sm_stps _ _ hsm hsmL
  have good : ∀ A', Ab.Sm A' → (∀ k, A'.loose k = none) → (∀ k, A'.see k = if k = 0 then some (fl 1) else some z128) → Holds A' newJ [] := fun A' hs hst hsee => by
    refine holds_mk hs (.inl rfl) (by decide) rfl (fun r h => by simp at h) (Nat.zero_le _) rfl ?_ (fun k l h => by simp [secL] at h) ?_ hst ?_
    · show A'.see 0 = _
      rw [hsee 0, if_pos rfl]; rfl
    · show turnA A' 256 < 1
      rw [turnA_z (by rw [hsee, if_neg (by decide)])]
      decide
    · intro s q1 q2
      have a1 : (1 : Int) ≤ s := q1
      rw [hsee, if_neg (by omega)]
  have hH0 : Heading A A 0 (headL 1) := ⟨rfl, fun k l hk => by rw [hl] at hk; cases hk⟩
  have hk2 : ∀ s ∈ [Stp.wr 0 (headL 1)], ∃ i l, s = .wr i l ∧ ∀ C, Heading A C 0 (headL 1) → Heading A (C.put i l) 0 (headL 1) := fun s hs => by
    rw [List.mem_singleton] at hs
    exact ⟨_, _, hs, fun C hC => heading_put hC⟩
  have bad : ∀ C, Heading A C 0 (headL 1) → Ab.Sm C → ∀ keep A', CrashTo C keep A' → Ab.Sm A' ∧ ∃ A'', openP A' = ⟨0, A'', newJ, []⟩ ∧ Holds A'' newJ [] ∧ Calm A'' := fun C hC hs keep A' hc => by
    obtain ⟨c1, c2⟩ := heading_crash hl hC hc
    have hsm' := crash_sm hs hc
    have hcalm : Calm A' := ⟨hc.off, by rw [hc.left]; decide⟩
    refine ⟨hsm', ?_⟩
    have hn : ∀ h0 : turnA A' 0 = 0, ∃ A'', openP A' = ⟨0, A'', newJ, []⟩ ∧ Holds A'' newJ [] ∧ Calm A'' := fun h0 => by
      obtain ⟨A'', p1, p2, p3, _⟩ := open_new hcalm hsm' h0 (turnA_z ((c1 256 (by decide)).trans (hz _))) (fun k _ hk => (c1 k (by omega)).trans (hz _))
      exact ⟨A'', p1, p2, p3⟩
    rcases c2 with c2 | c2 | c2
    · exact hn (turnA_z (c2.trans (hz _)))
    · have hH := good A' hsm' hc.loose fun k => by
        by_cases hk : k = 0
        · rw [if_pos hk, hk, c2, padN_head]
        · rw [if_neg hk, c1 k hk, hz]
      exact ⟨A', hH.opens hcalm.on, hH, hcalm⟩
    · exact hn (turnA_none c2)
  rw [e3]
  rw [e4] at hsm2 ⊢
  rcases stps_keep_sy (heading_blind A 0 (headL 1)) [.wr 0 (headL 1)] [] hk2 A hon hH0 with ⟨_, r1, r2, r3⟩ | ⟨_, _, r1, r2, r3⟩ | ⟨v0, v1, r1, r2, r3⟩
  · exact .inr ⟨r2, fun keep A' hc => bad _ r1 hsm2 keep A' hc⟩
  · exact .inr ⟨r2, fun keep A' hc => bad _ r1 hsm2 keep A' hc⟩
  · obtain ⟨_, vs⟩ := stps_well _ A hon v0
    have z : stpsE ([Stp.wr 0 (headL 1)] ++ .sy :: []) A = 0 := r1
    refine .inl ⟨_, by rw [z], good _ hsm2 (fun k => by rw [r2]; rfl) fun k => ?_, by rw [r2]; exact r3⟩
    rw [r2]
    show (stpsA [Stp.wr 0 (headL 1)] A).strA.sy.see k = _
    rw [sy_see, strA_see, vs]
    show (if k = 0 then some (padN (headL 1)) else A.see k) = _
    rw [padN_head, hz]
end Go.Proofs.Ytaigdbnfhehclaa
