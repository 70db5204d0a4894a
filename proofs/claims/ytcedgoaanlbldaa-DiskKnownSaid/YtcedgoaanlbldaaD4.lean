/- What is proved: plain laws: the program's disk and the document's go alike. No condition but those each law names. -/
import Derived.Test.YtcedgoaanlbldaaD3
namespace Go.Proofs.Ytcedgoaanlbldaa
open Sx hiding Sl
set_option maxRecDepth 100000

/-- The two disks are alike. -/
structure Same (M : DiskM) (R : RefM) : Prop where
  off : R.off = M.off
  armed : R.armed = decide (0 ≤ M.left)
  more : 0 ≤ M.left → R.more = M.left
  done : R.done = M.done
  is : ∀ i : Nat, i < 512 → (R.sec i).is = (getA M.lo (i : Int)).isSome
  ob : ∀ i : Nat, i < 512 → ∀ bs, getA M.lo (i : Int) = some bs → (R.sec i).ob = bs
  tn : ∀ i : Nat, i < 512 → ((R.sec i).tn = true ↔ getA M.la (i : Int) = some none)
  l0 : ∀ i : Nat, i < 512 → getA M.la (i : Int) = none → (R.sec i).lb = []
  l1 : ∀ i : Nat, i < 512 → ∀ q, getA M.la (i : Int) = some (some q) → (R.sec i).lb = q.2
theorem same_new (n : Nat) : Same (newM n) ref0 := by
  refine ⟨rfl, rfl, fun h => ?_, rfl, fun i _ => rfl, fun i _ bs h => (by cases h), fun i _ => ⟨fun h => (by cases h), fun h => (by cases h)⟩, fun i _ _ => rfl, fun i _ q h => (by cases h)⟩
  have h : (0 : Int) ≤ -1 := h
  omega
theorem same_arm {M : DiskM} {R : RefM} (h : Same M R) (n : Int) : Same (armM M n) (rarM R n) := by
  have e : (armM M n).left = intMax n (-1) := rfl
  refine ⟨h.off, ?_, fun h0 => ?_, h.done, h.is, h.ob, h.tn, h.l0, h.l1⟩
  · show decide (n ≥ 0) = decide (0 ≤ intMax n (-1))
    unfold intMax
    refine decide_eq_decide.2 ?_
    split <;> omega
  · rw [e] at h0 ⊢
    show n = _
    unfold intMax at h0 ⊢
    split at h0
    · omega
    · rw [if_neg (by omega)]
theorem same_str {M : DiskM} {R : RefM} (h : Same M R) (ho : M.off = false) (hr : -1 ≤ M.left ∧ M.left < 9223372036854775808) : rstB R = strB M ∧ Same (strM M) (rstM R) := by
  by_cases hl : M.left < 0
  · have ha : R.armed = false := by rw [h.armed, decide_eq_false (by omega)]
    unfold rstB strB rstM strM
    rw [ha, decide_eq_true hl, if_pos hl, if_neg (by simp)]
    exact ⟨rfl, h⟩
  · have ha : R.armed = true := by rw [h.armed, decide_eq_true (by omega)]
    have hm := h.more (by omega)
    have hw : IntKind.i64.wrap (R.more - 1) = M.left - 1 := by rw [hm, wrap_in (by omega) (by omega)]
    unfold rstB strB rstM strM
    rw [ha, hw, decide_eq_false hl, if_neg hl, if_pos rfl]
    refine ⟨rfl, ?_⟩
    by_cases h0 : M.left - 1 < 0
    · rw [if_neg (by omega), decide_eq_true h0]
      exact ⟨rfl, (decide_eq_false (by show ¬ 0 ≤ M.left - 1; omega)).symm, fun h' => (by have h' : 0 ≤ M.left - 1 := h'; omega), h.done, h.is, h.ob, h.tn, h.l0, h.l1⟩
    · rw [if_pos (by omega), decide_eq_false h0]
      exact ⟨h.off.trans ho, (decide_eq_true (by show 0 ≤ M.left - 1; omega)).symm, fun _ => rfl, h.done, h.is, h.ob, h.tn, h.l0, h.l1⟩
theorem same_wr {M : DiskM} {R : RefM} (h : Same M R) (hr : -1 ≤ M.left ∧ M.left < 9223372036854775808) (G : List Ob) (y : Nat) (i : Int) (bs : List Int) : rwE R i bs.length = wrE M i bs ∧ Same (wrM M i bs) (rwM G y R i bs) := by
  unfold rwE wrE rwM wrM
  have hbb : wrBad i bs.length = rwBad i bs.length := rfl
  rw [h.off, hbb]
  cases ho : M.off with
  | true => exact ⟨rfl, h⟩
  | false =>
    cases hb : rwBad i bs.length with
    | true => exact ⟨rfl, h⟩
    | false =>
      have hi : 0 ≤ i ∧ i < 512 := by
        unfold rwBad at hb
        simp only [Bool.or_eq_false_iff, decide_eq_false_iff_not] at hb
        omega
      -- what is loose is the same
      have h1 : Same (wrM1 M i bs) { R with sec := upS R.sec i.toNat (rwH G y R i bs), done := inc R.done } := by
        refine ⟨h.off, h.armed, h.more, by show inc R.done = inc M.done; rw [h.done], fun j hj => ?_, fun j hj b hb => ?_, fun j hj => ?_, fun j hj => ?_, fun j hj => ?_⟩
        · show (upS _ _ _ j).is = (getA (putA M.lo i (pad bs)) (j : Int)).isSome
          rw [getA_put]
          unfold upS
          by_cases e : j = i.toNat
          · rw [if_pos e, if_pos (by omega)]
            rfl
          · rw [if_neg e, if_neg (by omega)]
            exact h.is j hj
        · show (upS _ _ _ j).ob = b
          have hb : getA (putA M.lo i (pad bs)) (j : Int) = some b := hb
          rw [getA_put] at hb
          unfold upS
          by_cases e : j = i.toNat
          · rw [if_pos (by omega)] at hb
            cases hb
            rw [if_pos e]
            rfl
          · rw [if_neg (by omega)] at hb
            rw [if_neg e]
            exact h.ob j hj b hb
        · show (upS _ _ _ j).tn = true ↔ _
          unfold upS
          by_cases e : j = i.toNat
          · subst e; rw [if_pos rfl]; exact h.tn _ hj
          · rw [if_neg e]; exact h.tn _ hj
        · show _ → (upS _ _ _ j).lb = []
          unfold upS
          by_cases e : j = i.toNat
          · subst e; rw [if_pos rfl]; exact h.l0 _ hj
          · rw [if_neg e]; exact h.l0 _ hj
        · show ∀ q : Nat × List Int, _ → (upS _ _ _ j).lb = q.2
          unfold upS
          by_cases e : j = i.toNat
          · subst e; rw [if_pos rfl]; exact h.l1 _ hj
          · rw [if_neg e]; exact h.l1 _ hj
      obtain ⟨s1, s2⟩ := same_str h1 ho hr
      have e1 : rstB { R with sec := upS R.sec i.toNat (rwH G y R i bs), done := inc R.done } = rstB R := rfl
      have e2 : rstM { R with sec := upS R.sec i.toNat (rwH G y R i bs), done := inc R.done } = rwM1 G y R i bs := by
        unfold rwM1 rstM
        show (if R.armed = true then (if 0 ≤ IntKind.i64.wrap (R.more - 1) then _ else _) else _) = _
        split
        · split <;> rfl
        · rfl
      rw [e1] at s1
      rw [e2] at s2
      simp only [Bool.false_eq_true, if_false]
      exact ⟨by rw [s1], s2⟩
theorem same_syc {M : DiskM} {R : RefM} (h : Same M R) (hr : -1 ≤ M.left ∧ M.left < 9223372036854775808) (hn : (M.lo.map (·.1)).Nodup) (n : Nat) : rsyE R = sycE M ∧ Same (sycM M n) (rsyM R) := by
  unfold rsyE sycE rsyM sycM
  rw [h.off]
  cases ho : M.off with
  | true => exact ⟨rfl, h⟩
  | false =>
    obtain ⟨s1, s2⟩ := same_str h ho hr
    rw [s1]
    cases hb : strB M with
    | true => exact ⟨rfl, s2⟩
    | false =>
      refine ⟨rfl, ?_⟩
      simp only [Bool.false_eq_true, if_false]
      obtain ⟨f1, f2, f3, _, _⟩ := strM_flds M
      have key : ∀ j : Nat, j < 512 → (getA M.lo (j : Int) = none ∧ (R.sec j).is = false ∧ getA (syM (strM M) n).la (j : Int) = getA M.la (j : Int)) ∨ (∃ bs k, getA M.lo (j : Int) = some bs ∧ (R.sec j).is = true ∧ (R.sec j).ob = bs ∧ getA (syM (strM M) n).la (j : Int) = some (some (k, bs))) := fun j hj => by
        show (_ ∧ _ ∧ getA (syLa (strM M).la (strM M).lo n) (j : Int) = _) ∨ (∃ bs k, _ ∧ _ ∧ _ ∧ getA (syLa (strM M).la (strM M).lo n) (j : Int) = _)
        rw [f1, f2]
        cases hg : getA M.lo (j : Int) with
        | none => exact .inl ⟨rfl, by rw [h.is j hj, hg]; rfl, syLa_out hg _ _⟩
        | some bs =>
          obtain ⟨p, hp⟩ := List.getElem?_of_mem (getA_mem hg)
          exact .inr ⟨bs, _, rfl, by rw [h.is j hj, hg]; rfl, h.ob j hj bs hg, syLa_in hn hp M.la n⟩
      have hsec : ∀ j, j < 512 → rsyF 512 R.sec j = if (R.sec j).is = true then rsyS (R.sec j) else R.sec j := fun j hj => by
        unfold rsyF
        by_cases e : (R.sec j).is = true
        · rw [if_pos ⟨hj, e⟩, if_pos e]
        · rw [if_neg fun h => e h.2, if_neg e]
      have hsec' : ∀ j, j < 512 → RefM.sec { rstM R with done := inc R.done, sec := rsyF 512 R.sec } j = if (R.sec j).is = true then rsyS (R.sec j) else R.sec j := hsec
      refine ⟨s2.off, s2.armed, s2.more, ?_, fun j hj => ?_, fun j hj b hb' => (by cases hb'), fun j hj => ?_, fun j hj => ?_, fun j hj => ?_⟩
      · show inc R.done = inc (strM M).done
        rw [f3, h.done]
      · rw [hsec' j hj]
        show _ = false
        by_cases e : (R.sec j).is = true
        · rw [if_pos e]; rfl
        · rw [if_neg e]; simpa using e
      · rw [hsec' j hj]
        rcases key j hj with ⟨_, k2, k3⟩ | ⟨bs, k, _, k2, k3, k4⟩
        · rw [if_neg (by rw [k2]; simp), k3]; exact h.tn j hj
        · rw [if_pos k2, k4]
          exact ⟨fun h => (by cases h), fun h => (by cases h)⟩
      · rw [hsec' j hj]
        rcases key j hj with ⟨_, k2, k3⟩ | ⟨bs, k, _, k2, k3, k4⟩
        · rw [if_neg (by rw [k2]; simp), k3]; exact h.l0 j hj
        · rw [k4]
          exact fun h => (by cases h)
      · rw [hsec' j hj]
        rcases key j hj with ⟨_, k2, k3⟩ | ⟨bs, k, _, k2, k3, k4⟩
        · rw [if_neg (by rw [k2]; simp), k3]; exact h.l1 j hj
        · rw [if_pos k2, k4]
          intro q hq
          cases hq
          exact k3
theorem crS_done (keep : List Int) : ∀ (ks : List Int) (n : Nat) (s : List Ob × DiskM), (crS keep ks n s).2.done = s.2.done
  | [], _, _ => rfl
  | k :: r, n, s => (crS_done keep r (n + 1) _).trans (by
    unfold crOne
    split
    · rfl
    split <;> rfl)
theorem same_cra {G : List Ob} {d : Nat} {M : DiskM} {R : RefM} (h : Same M R) (hd : IsDisk G d M) (keep : List Int) : Same (crash G d M keep).2 (rcrM R keep) := by
  have his : ∀ j : Nat, j < 512 → (isF R.sec j = true ↔ (getA M.lo (j : Int)).isSome = true) := fun j hj => by
    show (R.sec j).is = true ↔ _
    rw [h.is j hj]
  have hget := fun (j : Nat) (hj : j < 512) => crash_get (G := G) (d := d) hd.nd (N := 512) (fun p hp => ⟨(hd.lo p hp).2.1, (hd.lo p hp).2.2⟩) his keep hj
  have hsec : ∀ j, j < 512 → (rcrM R keep).sec j = if (R.sec j).is = true then rcrS (R.sec j) (fateAt keep (isF R.sec) j) else R.sec j := fun j hj => by
    show rcrF keep 512 R.sec j = _
    unfold rcrF
    by_cases e : (R.sec j).is = true
    · rw [if_pos ⟨hj, e⟩, if_pos e]
    · rw [if_neg fun h => e h.2, if_neg e]
  have hno : ∀ j, ¬ (R.sec j).is = true → fateAt keep (isF R.sec) j = 0 := fun j hj => by
    unfold fateAt
    exact if_neg hj
  -- what lasts of a sector
  have key : ∀ j : Nat, j < 512 → (((rcrM R keep).sec j).tn = true ↔ getA (crash G d M keep).2.la (j : Int) = some none) ∧ (getA (crash G d M keep).2.la (j : Int) = none → ((rcrM R keep).sec j).lb = []) ∧ (∀ q, getA (crash G d M keep).2.la (j : Int) = some (some q) → ((rcrM R keep).sec j).lb = q.2) ∧ ((rcrM R keep).sec j).is = false := fun j hj => by
    obtain ⟨g1, g2, g3⟩ := hget j hj
    rw [hsec j hj]
    by_cases e : (R.sec j).is = true
    · rw [if_pos e]
      unfold rcrS
      by_cases f1 : fateAt keep (isF R.sec) j = 1
      · obtain ⟨m, hm⟩ := g2 f1
        rw [if_pos f1, hm]
        refine ⟨⟨fun h => (by cases h), fun h => (by cases h)⟩, fun h => (by cases h), fun q hq => ?_, rfl⟩
        cases hq
        show (R.sec j).ob = bytesOf M j
        have hs := (his j hj).1 e
        obtain ⟨b, hb⟩ := Option.isSome_iff_exists.1 hs
        unfold bytesOf
        rw [hb]
        exact h.ob j hj b hb
      · by_cases f2 : fateAt keep (isF R.sec) j = 2
        · rw [if_neg f1, if_pos f2, g1 f2]
          exact ⟨⟨fun _ => rfl, fun _ => rfl⟩, fun h => (by cases h), fun q hq => (by cases hq), rfl⟩
        · rw [if_neg f1, if_neg f2, g3 f1 f2]
          exact ⟨h.tn j hj, h.l0 j hj, h.l1 j hj, rfl⟩
    · have f0 := hno j e
      rw [if_neg e, g3 (by omega) (by omega)]
      exact ⟨h.tn j hj, h.l0 j hj, h.l1 j hj, by simpa using e⟩
  exact ⟨rfl, rfl, fun h0 => (by have h0 : (0 : Int) ≤ -1 := h0; omega), h.done.trans (crS_done keep (keyL M.lo) 0 (crG0 G M, M)).symm, fun i hi => (key i hi).2.2.2, fun i _ b hb => (by cases hb), fun i hi => (key i hi).1, fun i hi => (key i hi).2.1, fun i hi => (key i hi).2.2.1⟩
theorem pad_zs : pad [] = zs := by unfold pad zs; rfl
theorem same_rd {G : List Ob} {d : Nat} {M : DiskM} {R : RefM} (h : Same M R) (hd : IsDisk G d M) (i : Int) : rrE R i = rdE M i ∧ rrBs R i = rdBs M i := by
  unfold rrE rdE rrBs rdBs
  have hbb : rrBad i = rdBad i := rfl
  rw [hbb]
  cases hb : rdBad i with
  | true => exact ⟨rfl, rfl⟩
  | false =>
    simp only [Bool.false_eq_true, if_false]
    have hi : 0 ≤ i ∧ i < 512 := by
      unfold rdBad at hb
      simp only [Bool.or_eq_false_iff, decide_eq_false_iff_not] at hb
      omega
    have hn : i.toNat < 512 := by omega
    have hc : (i.toNat : Int) = i := by omega
    have k1 := h.is _ hn
    have k2 := h.ob _ hn
    have k3 := h.tn _ hn
    have k4 := h.l0 _ hn
    have k5 := h.l1 _ hn
    rw [hc] at k1 k2 k3 k4 k5
    cases hg : getA M.lo i with
    | some bs =>
      rw [hg] at k1
      have k1 : (R.sec i.toNat).is = true := k1
      rw [k1]
      exact ⟨rfl, k2 bs hg⟩
    | none =>
      rw [hg] at k1
      have k1 : (R.sec i.toNat).is = false := k1
      rw [k1]
      simp only [Bool.false_eq_true, if_false]
      cases hl : getA M.la i with
      | none =>
        have t : (R.sec i.toNat).tn = false := by
          cases ht : (R.sec i.toNat).tn with
          | false => rfl
          | true => have := k3.1 ht; rw [hl] at this; cases this
        rw [t, k4 hl, pad_zs]
        exact ⟨rfl, rfl⟩
      | some o =>
        cases o with
        | none =>
          have t : (R.sec i.toNat).tn = true := k3.2 hl
          rw [t]
          exact ⟨rfl, rfl⟩
        | some q =>
          have t : (R.sec i.toNat).tn = false := by
            cases ht : (R.sec i.toNat).tn with
            | false => rfl
            | true => have := k3.1 ht; rw [hl] at this; cases this
          have hq := (hd.la i q (getA_mem hl)).2
          rw [t, k5 q hl, pad_long (by omega)]
          exact ⟨rfl, rfl⟩
end Go.Proofs.Ytcedgoaanlbldaa
