/- What is proved: what Compact leaves (plain). No condition but those each law names. -/
import Derived.Test.YtaigdbnfhehclaaK6
namespace Go.Proofs.Ytaigdbnfhehclaa
open Go.RowKit
open Sx (Ab z128 padN)
set_option maxRecDepth 100000

theorem allP_ok {R : List (Int × List Nat)} (h : RowsOk R) : secL R = (allP R).map padN ∧ compE0 R = 0 := by
  induction R with
  | nil => exact ⟨rfl, rfl⟩
  | cons r R ih =>
    obtain ⟨h1, h2⟩ := ih fun x hx => h x (by simp [hx])
    obtain ⟨e1, e2⟩ := laid_ok (h r (by simp))
    refine ⟨?_, ?_⟩
    · rw [secL_cons, h1]
      show _ = (pcs (laidL r.1 r.2) ++ allP R).map padN
      rw [List.map_append, e2]
      rfl
    · show (if laidE r.1 r.2.length = 0 then compE0 R else _) = 0
      rw [if_pos e1, h2]
theorem allP_small {R : List (Int × List Nat)} (h : RowsOk R) {p : List Nat} (hp : p ∈ allP R) : Small p := by
  unfold allP at hp
  obtain ⟨r, hr, hp⟩ := List.mem_flatMap.1 hp
  rw [(laid_ok (h r hr)).2] at hp
  exact pcs_small (h r hr) hp
theorem Holds.compact {A : Ab} {j : Jr} {R R' : List (Int × List Nat)} (h : Holds A j R) (hc : Calm A) (hR : RowsOk R') (hl : (secL R').length ≤ 255) (ht : j.turn + 1 < 4611686018427387904) :
    compE A j R' = 0 ∧ Holds (compA A j R') (compJ A j R') R' ∧ Calm (compA A j R') ∧ compJ A j R' = ⟨256 - j.first, 256 - j.first + 1 + (secL R').length, j.turn + 1, false⟩ ∧
      ∀ s, j.first ≤ s → s < j.first + 256 → (compA A j R').see s = A.see s := by
  obtain ⟨e1, e2⟩ := allP_ok hR
  have hlen : (allP R').length = (secL R').length := by rw [e1, List.length_map]
  have g : ¬ (j.dead || A.off) = true := by rw [h.half.live, hc.on]; decide
  obtain ⟨t1, t2⟩ := h.half.t
  have hf := h.half.f
  have h255 : ¬ 255 < (allP R').length := by omega
  obtain ⟨T, hT⟩ : ∃ T : Nat, j.turn + 1 = T := ⟨(j.turn + 1).toNat, by omega⟩
  have hTn : (j.turn + 1).toNat = T := by omega
  have eL : compL j R' = (wrs (256 - j.first + 1) (fillP (allP R')) ++ [.sy, .wr (256 - j.first) (headL T)]) ++ [.sy] := by
    unfold compL
    rw [hTn, List.append_assoc]
    rfl
  obtain ⟨s1, s2, s3, s4⟩ := calm_synced (wrs (256 - j.first + 1) (fillP (allP R')) ++ [.sy, .wr (256 - j.first) (headL T)]) hc
  have E : compE A j R' = 0 := by unfold compE; rw [if_neg g, if_neg (by rw [e2]; simp), if_neg h255, eL, s1]
  have EA : compA A j R' = stpsA ((wrs (256 - j.first + 1) (fillP (allP R')) ++ [.sy, .wr (256 - j.first) (headL T)]) ++ [.sy]) A := by unfold compA; rw [if_neg g, if_neg (by rw [e2]; simp), if_neg h255, eL]
  have EJ : compJ A j R' = ⟨256 - j.first, 256 - j.first + 1 + (secL R').length, j.turn + 1, false⟩ := by unfold compJ; rw [if_neg g, if_neg (by rw [e2]; simp), if_neg h255, eL, s1, if_pos rfl, hlen]
  have hsm : Ab.Sm (stpsA ((wrs (256 - j.first + 1) (fillP (allP R')) ++ [.sy, .wr (256 - j.first) (headL T)]) ++ [.sy]) A) := sm_stps _ _ h.half.sm fun i l hm => by
    rcases List.mem_append.1 hm with hm | hm
    · rcases List.mem_append.1 hm with hm | hm
      · refine wrs_small (fun p hp => ?_) i l hm
        rcases List.mem_append.1 hp with hp | hp
        · exact allP_small hR hp
        · rw [List.eq_of_mem_replicate hp]; exact fun x hx => by cases hx
      · simp only [List.mem_cons, List.not_mem_nil, or_false, reduceCtorEq, false_or] at hm
        cases hm
        exact headL_small T
    · simp at hm
  rw [E, EA, EJ]
  have hq := fillP_len (show (allP R').length ≤ 255 by omega)
  have hsee : ∀ k, (stpsA ((wrs (256 - j.first + 1) (fillP (allP R')) ++ [.sy, .wr (256 - j.first) (headL T)]) ++ [.sy]) A).see k = if k = 256 - j.first then some (fl T) else seeF (wrs (256 - j.first + 1) (fillP (allP R'))) A.see k := fun k => by
    rw [s3, seeF_append]
    show (if k = 256 - j.first then some (padN (headL T)) else _) = _
    rw [padN_head]
  generalize stpsA ((wrs (256 - j.first + 1) (fillP (allP R')) ++ [.sy, .wr (256 - j.first) (headL T)]) ++ [.sy]) A = A' at *
  have hout : ∀ k, (k < 256 - j.first ∨ 256 - j.first + 256 ≤ k) → A'.see k = A.see k := fun k hk => by
    rw [hsee, if_neg (by omega), see_wrs_out _ _ _ _ (by rw [hq]; omega)]
  have hin : ∀ (i : Nat) p, (fillP (allP R'))[i]? = some p → A'.see (256 - j.first + 1 + i) = some (padN p) := fun i p hp => by
    rw [hsee, if_neg (by omega)]
    exact see_wrs _ _ _ i p hp
  refine ⟨rfl, holds_mk hsm (by rcases hf with e | e <;> rw [e] <;> simp) ⟨by show 1 ≤ j.turn + 1; omega, ht⟩ rfl hR hl rfl ?_ (fun k l hk => ?_) ?_ s4 (fun s q1 q2 => ?_), s2, rfl, fun s q1 q2 => hout s (by rcases hf with e | e <;> omega)⟩
  · show A'.see (256 - j.first) = some (fl (j.turn + 1).toNat)
    rw [hsee, if_pos rfl, hTn]
  · show A'.see (256 - j.first + 1 + k) = some l
    rw [e1, List.getElem?_map] at hk
    cases hp : (allP R')[k]? with
    | none => rw [hp] at hk; cases hk
    | some p =>
      rw [hp] at hk
      cases hk
      refine hin k p ?_
      unfold fillP
      rw [List.getElem?_append_left (List.getElem?_eq_some_iff.1 hp).1]
      exact hp
  · show turnA A' (256 - (256 - j.first)) < j.turn + 1
    rw [show 256 - (256 - j.first) = j.first by omega, turnA_see (hout j.first (by rcases hf with e | e <;> omega)), h.half.own]
    omega
  · have a1 : 256 - j.first + 1 + ((secL R').length : Int) ≤ s := q1
    have a2 : s < 256 - j.first + 256 := q2
    obtain ⟨i, hi⟩ : ∃ i : Nat, s = 256 - j.first + 1 + i := ⟨(s - (256 - j.first + 1)).toNat, by omega⟩
    rw [hi]
    have := hin i [] (by
      unfold fillP
      rw [List.getElem?_append_right (by omega), List.getElem?_replicate, if_pos (by omega)])
    rw [this, padN_nil]
end Go.Proofs.Ytaigdbnfhehclaa
