/- What is proved: plain laws on what a Crash leaves, sector by sector; plain laws on what is read behind a Crash; plain laws on the disk that DiskFates uses; the contracts that DiskFates' walk uses; plain laws on the store that DiskFates' walk goes through: a disk beside three arrays. No condition but those each law names. -/
import Derived.Test.YtcedgoaanlbldaaB6
import Derived.Test.YtcedgoaanlbldaaSzI
namespace Go.Proofs.Ytcedgoaanlbldaa
open Sx hiding Sl
set_option maxRecDepth 100000

/-- What a Crash makes of the sectors, key by key. -/
theorem one_get (s : List Ob × DiskM) (k f : Int) (z : Int) : getA (crOne s k f).2.la z = if z = k then (if f = 1 then some (some (s.1.length, bytesOf s.2 k)) else if f = 2 then some none else getA s.2.la z) else getA s.2.la z := by
  unfold crOne
  by_cases h1 : f = 1
  · rw [if_pos h1]
    show getA (putA _ _ _) z = _
    rw [getA_put, if_pos h1]
  · rw [if_neg h1]
    by_cases h2 : f = 2
    · rw [if_pos h2]
      show getA (putA _ _ _) z = _
      rw [getA_put, if_neg h1, if_pos h2]
    · rw [if_neg h2, if_neg h1, if_neg h2]
      split <;> rfl
theorem crS_lo (keep : List Int) : ∀ (ks : List Int) (n : Nat) (s : List Ob × DiskM), (crS keep ks n s).2.lo = s.2.lo
  | [], _, _ => rfl
  | k :: r, n, s => (crS_lo keep r (n + 1) _).trans (one_lo s k _)
theorem crS_out (keep : List Int) : ∀ (ks : List Int) (n : Nat) (s : List Ob × DiskM) (z : Int), z ∉ ks → getA (crS keep ks n s).2.la z = getA s.2.la z
  | [], _, _, _, _ => rfl
  | k :: r, n, s, z, h => by
    rw [List.mem_cons, not_or] at h
    show getA (crS keep r (n + 1) _).2.la z = _
    rw [crS_out keep r (n + 1) _ z h.2, one_get, if_neg h.1]
/-- The sector at place p of the sorted keys. -/
theorem crS_in (keep : List Int) : ∀ (ks : List Int) (n : Nat) (s : List Ob × DiskM) (p : Nat) (z : Int), ks.Nodup → ks[p]? = some z →
    getA (crS keep ks n s).2.la z = if fateK keep (n + p) = 1 then (getA (crS keep ks n s).2.la z) else if fateK keep (n + p) = 2 then some none else getA s.2.la z
  | [], _, _, _, _, _, h => by cases h
  | k :: r, n, s, p, z, hn, h => by
    rw [List.nodup_cons] at hn
    cases p with
    | zero =>
      cases h
      show getA (crS keep r (n + 1) _).2.la k = if _ then getA (crS keep r (n + 1) _).2.la k else _
      rw [crS_out keep r (n + 1) _ _ hn.1, one_get, if_pos rfl, Nat.add_zero]
      split <;> rfl
    | succ p =>
      have hne : z ≠ k := fun e => by
        subst e
        exact hn.1 (List.mem_of_getElem? h)
      have := crS_in keep r (n + 1) (crOne s k (fateK keep n)) p z hn.2 h
      rw [one_get, if_neg hne, show n + 1 + p = n + (p + 1) by omega] at this
      exact this
/-- .. whose bytes last. -/
theorem crS_new (keep : List Int) : ∀ (ks : List Int) (n : Nat) (s : List Ob × DiskM) (p : Nat) (z : Int), ks.Nodup → ks[p]? = some z → fateK keep (n + p) = 1 → ∃ m, getA (crS keep ks n s).2.la z = some (some (m, bytesOf s.2 z))
  | [], _, _, _, _, _, h, _ => by cases h
  | k :: r, n, s, p, z, hn, h, hf => by
    rw [List.nodup_cons] at hn
    cases p with
    | zero =>
      cases h
      show ∃ m, getA (crS keep r (n + 1) _).2.la k = _
      rw [crS_out keep r (n + 1) _ _ hn.1, one_get, if_pos rfl, if_pos (by simpa using hf)]
      exact ⟨_, rfl⟩
    | succ p =>
      have := crS_new keep r (n + 1) (crOne s k (fateK keep n)) p z hn.2 h (by rw [show n + 1 + p = n + (p + 1) by omega]; exact hf)
      have e : bytesOf (crOne s k (fateK keep n)).2 z = bytesOf s.2 z := by unfold bytesOf; rw [one_lo]
      rw [e] at this
      exact this
/-- The sorted keys are the sectors written, from the first on. -/
theorem keyL_range {lo : List (Int × List Int)} (hn : (lo.map (·.1)).Nodup) {N : Nat} (hb : ∀ p ∈ lo, 0 ≤ p.1 ∧ p.1 < (N : Int)) {is : Nat → Bool} (his : ∀ j, j < N → (is j = true ↔ (getA lo (j : Int)).isSome = true)) :
    keyL lo = ((List.range N).filter is).map fun j : Nat => (j : Int) := by
  have hnd : (((List.range N).filter is).map fun j : Nat => (j : Int)).Nodup := (nodup_inj (fun a b h => by omega)).2 (List.nodup_range.filter _)
  have hperm : (lo.map (·.1)).Perm (((List.range N).filter is).map fun j : Nat => (j : Int)) := by
    refine (List.perm_ext_iff_of_nodup hn hnd).2 fun z => ?_
    constructor
    · intro hz
      obtain ⟨p, hp, rfl⟩ := List.mem_map.1 hz
      obtain ⟨h0, h1⟩ := hb p hp
      refine List.mem_map.2 ⟨p.1.toNat, List.mem_filter.2 ⟨List.mem_range.2 (by omega), ?_⟩, by omega⟩
      rw [his _ (by omega), Int.toNat_of_nonneg h0, getA_at hn hp]
      rfl
    · intro hz
      obtain ⟨j, hj, rfl⟩ := List.mem_map.1 hz
      obtain ⟨h0, h1⟩ := List.mem_filter.1 hj
      have h2 := (his j (List.mem_range.1 h0)).1 h1
      apply Classical.byContradiction
      intro h
      rw [getA_none.2 h] at h2
      cases h2
  have hsort : (((List.range N).filter is).map fun j : Nat => (j : Int)).Pairwise fun a b => leI' a b = true := by
    rw [List.pairwise_map]
    refine (List.pairwise_lt_range.filter is).imp fun h => ?_
    simp [leI']
    omega
  have h1 := mergeSort_of_perm_i hperm
  show (lo.map (·.1)).mergeSort leI' = _
  refine h1.trans ?_
  exact List.mergeSort_of_pairwise hsort
end Go.Proofs.Ytcedgoaanlbldaa

namespace Go.Proofs.Ytcedgoaanlbldaa
open Sx hiding Sl
set_option maxRecDepth 100000

theorem filt_at (is : Nat → Bool) {j : Nat} (h : is j = true) : ∀ N, j < N → ((List.range N).filter is)[((List.range j).filter is).length]? = some j
  | 0, hj => by omega
  | N + 1, hj => by
    rw [List.range_succ, List.filter_append]
    by_cases e : j = N
    · subst e
      rw [List.getElem?_append_right (Nat.le_refl _), Nat.sub_self]
      simp [h]
    · have ih := filt_at is h N (by omega)
      rw [List.getElem?_append_left (List.getElem?_eq_some_iff.1 ih).1]
      exact ih
/-- A sector of a disk behind a Crash. -/
def fateAt (keep : List Int) (is : Nat → Bool) (j : Nat) : Int := if is j = true then fateK keep ((List.range j).filter is).length else 0
theorem crash_get {G : List Ob} {d : Nat} {M : DiskM} (hn : (M.lo.map (·.1)).Nodup) {N : Nat} (hb : ∀ p ∈ M.lo, 0 ≤ p.1 ∧ p.1 < (N : Int)) {is : Nat → Bool} (his : ∀ j, j < N → (is j = true ↔ (getA M.lo (j : Int)).isSome = true)) (keep : List Int) {j : Nat} (hj : j < N) :
    (fateAt keep is j = 2 → getA (crash G d M keep).2.la (j : Int) = some none) ∧ (fateAt keep is j = 1 → ∃ m, getA (crash G d M keep).2.la (j : Int) = some (some (m, bytesOf M j))) ∧
      (fateAt keep is j ≠ 1 → fateAt keep is j ≠ 2 → getA (crash G d M keep).2.la (j : Int) = getA M.la (j : Int)) := by
  have hk := keyL_range hn hb his
  have hnd : (keyL M.lo).Nodup := by
    rw [hk]
    exact (nodup_inj (fun a b h => by omega)).2 (List.nodup_range.filter _)
  have hla : (crash G d M keep).2.la = (crS keep (keyL M.lo) 0 (crG0 G M, M)).2.la := rfl
  rw [hla]
  unfold fateAt
  by_cases h : is j = true
  · rw [if_pos h]
    have hat : (keyL M.lo)[((List.range j).filter is).length]? = some (j : Int) := by
      rw [hk, List.getElem?_map, filt_at is h N hj]
      rfl
    have h1 := crS_in keep (keyL M.lo) 0 (crG0 G M, M) _ _ hnd hat
    have h2 := crS_new keep (keyL M.lo) 0 (crG0 G M, M) _ _ hnd hat
    rw [Nat.zero_add] at h1 h2
    refine ⟨fun e => ?_, h2, fun e1 e2 => ?_⟩
    · rw [if_neg (by omega), if_pos e] at h1
      exact h1
    · rw [if_neg e1, if_neg e2] at h1
      exact h1
  · rw [if_neg h]
    refine ⟨fun e => by omega, fun e => by omega, fun _ _ => ?_⟩
    refine crS_out keep _ 0 _ _ fun hm => ?_
    rw [hk] at hm
    obtain ⟨i, hi, e⟩ := List.mem_map.1 hm
    have : i = j := by omega
    subst this
    exact h (List.mem_filter.1 hi).2
theorem crash_lo (G : List Ob) (d : Nat) (M : DiskM) (keep : List Int) : (crash G d M keep).2.lo = [] ∧ (crash G d M keep).2.off = false ∧ (crash G d M keep).2.left = -1 := ⟨rfl, rfl, rfl⟩
/-- What is read of a sector that is not loose. -/
theorem rd_la {M : DiskM} (hlo : M.lo = []) {j : Nat} (hj : j < 512) : rdE M j = (match getA M.la (j : Int) with | some none => 24 | _ => 0) := by
  have hbd : rdBad (j : Int) = false := by
    unfold rdBad
    rw [decide_eq_false (by omega), decide_eq_false (by omega)]
    rfl
  unfold rdE
  rw [hbd, hlo]
  simp only [getA]
  cases getA M.la (j : Int) with
  | none => rfl
  | some o => cases o <;> rfl
end Go.Proofs.Ytcedgoaanlbldaa

namespace Go.Proofs.Ytcedgoaanlbldaa
open Sx hiding Sl
set_option maxRecDepth 100000

theorem pick_fate (k : Int) : pickI k 3 = fate3 k := by
  have h1 := Int.lt_tmod_of_pos k (b := 3) (by omega)
  have h2 := Int.tmod_lt_of_pos k (b := 3) (by omega)
  have key : ∀ t : Int, -3 < t → t < 3 → (if t < 0 then t + 3 else t) = (t + 3).tmod 3 := fun t a b => by
    have : t = -2 ∨ t = -1 ∨ t = 0 ∨ t = 1 ∨ t = 2 := by omega
    rcases this with rfl | rfl | rfl | rfl | rfl <;> rfl
  unfold pickI fate3
  rw [if_neg (by omega), ← key _ h1 h2]
  by_cases h : k.tmod 3 < 0
  · rw [if_pos h, if_pos h, wrap_in (by omega) (by omega)]
  · rw [if_neg h, if_neg h]
def Free (M : DiskM) : Prop := M.off = false ∧ M.left = -1
def In20 (lo : List (Int × List Int)) : Prop := ∀ p ∈ lo, 0 ≤ p.1 ∧ p.1 < ((20 : Nat) : Int)
/-- What lasts: sector by sector. -/
def LaIs (la : List (Int × Option (Nat × List Int))) (bA : Nat → List Int) : Prop :=
  (∀ j : Nat, j < 20 → (∃ m, getA la (j : Int) = some (some (m, pad (bA j)))) ∨ (getA la (j : Int) = none ∧ bA j = [])) ∧ ∀ z : Int, ¬ (0 ≤ z ∧ z < 20) → getA la z = none
/-- What is loose: sector by sector. -/
def LoIs (lo : List (Int × List Int)) (is : Nat → Bool) (bB : Nat → List Int) : Prop :=
  In20 lo ∧ ∀ j : Nat, j < 20 → (if is j = true then getA lo (j : Int) = some (pad (bB j)) else getA lo (j : Int) = none)
def upN {α : Type} (f : Nat → α) (k : Nat) (v : α) : Nat → α := fun j => if j = k then v else f j
theorem free_str {M : DiskM} (h : Free M) : strB M = false ∧ strM M = M := by
  unfold strB strM
  rw [h.2]
  exact ⟨rfl, rfl⟩
theorem wr_free {M : DiskM} (h : Free M) {k : Nat} (hk : k < 20) {bs : List Int} (hb : bs.length ≤ 128) : wrE M k bs = 0 ∧ wrM M k bs = wrM1 M k bs ∧ Free (wrM M k bs) ∧ rdsB (wrM M k bs) k bs = true := by
  have hbad : wrBad (k : Int) bs.length = false := by
    unfold wrBad
    rw [decide_eq_false (by omega), decide_eq_false (by omega), decide_eq_false (by omega)]
    rfl
  have h1 : Free (wrM1 M k bs) := h
  obtain ⟨s1, s2⟩ := free_str h1
  have e : wrM M k bs = wrM1 M k bs := by
    unfold wrM
    simp only [h.1, hbad, Bool.false_eq_true, if_false, s2]
  refine ⟨?_, e, by rw [e]; exact h1, ?_⟩
  · unfold wrE
    simp only [h.1, hbad, Bool.false_eq_true, if_false, s1]
  · rw [e]
    have hg : getA (putA M.lo (k : Int) (pad bs)) (k : Int) = some (pad bs) := by rw [getA_put, if_pos rfl]
    have hbd : rdBad (k : Int) = false := by
      unfold rdBad
      rw [decide_eq_false (by omega), decide_eq_false (by omega)]
      rfl
    unfold rdsB rdE rdBs
    rw [hbd]
    simp [wrM1, hg]
theorem lo_put {lo : List (Int × List Int)} {is : Nat → Bool} {bB : Nat → List Int} (h : LoIs lo is bB) {k : Nat} (hk : k < 20) (bs : List Int) : LoIs (putA lo (k : Int) (pad bs)) (upN is k true) (upN bB k bs) := by
  refine ⟨fun p hp => ?_, fun j hj => ?_⟩
  · rcases putA_mem hp with rfl | hp
    · exact ⟨by show (0 : Int) ≤ k; omega, by show (k : Int) < _; omega⟩
    · exact h.1 p hp
  · by_cases e : j = k
    · subst e
      simp only [upN, getA_put, if_true]
    · have e' : ¬ (j : Int) = (k : Int) := by omega
      simp only [upN, getA_put, e, e', if_false]
      exact h.2 j hj
/-- A Sync. -/
theorem syc_free {M : DiskM} (h : Free M) (hn : (M.lo.map (·.1)).Nodup) (hla : M.la = []) {is : Nat → Bool} {bA : Nat → List Int} (hlo : LoIs M.lo is bA) (h0 : ∀ j, j < 20 → is j = false → bA j = []) (n : Nat) :
    sycE M = 0 ∧ Free (sycM M n) ∧ LaIs (sycM M n).la bA ∧ (sycM M n).lo = [] := by
  obtain ⟨s1, s2⟩ := free_str h
  have e : sycM M n = syM M n := by
    unfold sycM
    simp only [h.1, s1, Bool.false_eq_true, if_false, s2]
  refine ⟨?_, by rw [e]; exact h, ?_, by rw [e]; rfl⟩
  · unfold sycE
    simp only [h.1, s1, Bool.false_eq_true, if_false]
  · rw [e]
    refine ⟨fun j hj => ?_, fun z hz => ?_⟩
    · have := hlo.2 j hj
      cases hi : is j with
      | true =>
        rw [hi, if_pos rfl] at this
        obtain ⟨p, hp⟩ := List.getElem?_of_mem (getA_mem this)
        exact .inl ⟨_, syLa_in hn hp M.la n⟩
      | false =>
        rw [hi, if_neg (by simp)] at this
        refine .inr ⟨?_, h0 j hj hi⟩
        show getA (syLa M.la M.lo n) (j : Int) = none
        rw [syLa_out this, hla]
        rfl
    · have hz' : getA M.lo z = none := getA_none.2 fun hm => by
        obtain ⟨p, hp, rfl⟩ := List.mem_map.1 hm
        exact hz (hlo.1 p hp)
      show getA (syLa M.la M.lo n) z = none
      rw [syLa_out hz', hla]
      rfl
/-- What a Crash leaves: sector by sector. -/
def FateIs (la : List (Int × Option (Nat × List Int))) (f : Nat → Int) (bA bB : Nat → List Int) : Prop :=
  (∀ j : Nat, j < 20 → (f j = 2 → getA la (j : Int) = some none) ∧ (f j = 1 → ∃ m, getA la (j : Int) = some (some (m, pad (bB j)))) ∧
    (f j ≠ 1 → f j ≠ 2 → (∃ m, getA la (j : Int) = some (some (m, pad (bA j)))) ∨ (getA la (j : Int) = none ∧ bA j = []))) ∧ ∀ z : Int, ¬ (0 ≤ z ∧ z < 20) → getA la z = none
theorem cra_free {G : List Ob} {d : Nat} {M : DiskM} (hn : (M.lo.map (·.1)).Nodup) {is : Nat → Bool} {bA bB : Nat → List Int} (hla : LaIs M.la bA) (hlo : LoIs M.lo is bB) (keep : List Int) : FateIs (crash G d M keep).2.la (fateAt keep is) bA bB := by
  have his : ∀ j, j < 20 → (is j = true ↔ (getA M.lo (j : Int)).isSome = true) := fun j hj => by
    have := hlo.2 j hj
    cases hi : is j with
    | true => rw [hi, if_pos rfl] at this; rw [this]; simp
    | false => rw [hi, if_neg (by simp)] at this; rw [this]; simp
  refine ⟨fun j hj => ?_, fun z hz => ?_⟩
  · obtain ⟨g1, g2, g3⟩ := crash_get (G := G) (d := d) hn hlo.1 his keep hj
    refine ⟨g1, fun e => ?_, fun e1 e2 => ?_⟩
    · obtain ⟨m, hm⟩ := g2 e
      have hi : is j = true := by
        cases hi : is j with
        | true => rfl
        | false => unfold fateAt at e; rw [hi] at e; cases e
      have := hlo.2 j hj
      rw [if_pos hi] at this
      refine ⟨m, ?_⟩
      rw [hm]
      unfold bytesOf
      rw [this]
      rfl
    · rw [g3 e1 e2]
      exact hla.1 j hj
  · show getA (crS keep (keyL M.lo) 0 (crG0 G M, M)).2.la z = none
    rw [crS_out keep _ 0 _ z fun hm => ?_]
    · exact hla.2 z hz
    · have := ((List.mergeSort_perm (M.lo.map (·.1)) leI').mem_iff).1 hm
      obtain ⟨p, hp, rfl⟩ := List.mem_map.1 this
      exact hz (hlo.1 p hp)
theorem cra_again {G : List Ob} {d : Nat} {M : DiskM} (h : M.lo = []) (keep : List Int) : (crash G d M keep).2.la = M.la := by
  show (crS keep (keyL M.lo) 0 (crG0 G M, M)).2.la = _
  rw [h, show keyL [] = [] from by simp [keyL]]
  rfl
/-- What is read. -/
theorem rds_some {M : DiskM} (hlo : M.lo = []) {j : Nat} (hj : j < 512) {m : Nat} {bs : List Int} (h : getA M.la (j : Int) = some (some (m, pad bs))) : rdsB M j bs = true := by
  have hbd : rdBad (j : Int) = false := by
    unfold rdBad
    rw [decide_eq_false (by omega), decide_eq_false (by omega)]
    rfl
  unfold rdsB rdE rdBs
  rw [hbd, hlo, h]
  simp [getA]
theorem rds_none {M : DiskM} (hlo : M.lo = []) {j : Nat} (hj : j < 512) (h : getA M.la (j : Int) = none) : rdsB M j [] = true := by
  have hbd : rdBad (j : Int) = false := by
    unfold rdBad
    rw [decide_eq_false (by omega), decide_eq_false (by omega)]
    rfl
  unfold rdsB rdE rdBs
  rw [hbd, hlo, h]
  simp [getA, pad, zs]
end Go.Proofs.Ytcedgoaanlbldaa

namespace Go.Proofs.Ytcedgoaanlbldaa
open Sx hiding Sl
set_option maxRecDepth 100000

def nils20 : List Value := List.replicate 20 (.slice none 0 0)
def nos20 : List Value := List.replicate 20 (.bool false)
def ftp : List Con := [newC, wrC, sycC, rdsC, craC, rdC, downC, pickC, plaC, worC, lenC 22, idxC 22, loadC 33 (.agg (putE 0)), lenC 23, idxC 23, lenC 27, loadC 3 (.int .i64 (.var 0)), loadC 4 (.bool (.var 0)), loadC 27 (.hnd 0), storeC 27, storeC 4, allocC 28, allocC 29, bsC 23 4, idxC 28, idxC 29]
def ftpS : List ConS := [conR newR, conR wrR, conR sycR, conR rdsR, conR craR, conR rdR, conR downR, pickS, conR plaR, conR worR, conR lenR, conR (idxR 2), conR (loadRowR 2 (.agg (putE 0))), conR lenR, conR (idxR 1), conR lenR, conR (loadR (.int .i64 (.var 0))), conR (loadR (.bool (.var 0))), conR (loadR (.hnd 0)), conR (storeR 1), conR (storeR 1), conR (allocR nils20), conR (allocR nos20), conR (bsR 1 4), conR (aidxR 1 20), conR (aidxR 1 20)]
theorem ftp_holds : Cons Try.prog ftp ftpS :=
  ⟨new_holds, wr_holds, sync_holds, rds_holds, cra_holds, rd_holds, down_holds, pick_holds, pla_holds, wor_holds, len_holds Try.underlying22, idx_holds Try.underlying22 (by kernel_rfl), loadRow_holds (by kernel_rfl) (by kernel_rfl) rfl, len_holds Try.underlying23, idx_holds Try.underlying23 (by kernel_rfl), len_holds Try.underlying27,
    load_holds (by kernel_rfl) rfl, load_holds (by kernel_rfl) rfl, load_holds (by kernel_rfl) rfl, store_holds (by kernel_rfl), store_holds (by kernel_rfl), alloc_ok (s := 20) (b := 480) (v := .agg nils20.toArray) (by kernel_rfl) (by kernel_rfl) (by kernel_rfl), alloc_ok (s := 20) (b := 20) (v := .agg nos20.toArray) (by kernel_rfl) (by kernel_rfl) (by kernel_rfl),
    bs_ok (b := 8) (z := .int .i64 0) Try.underlying23 (by kernel_rfl) rfl, aidx_holds Try.underlying28 (by kernel_rfl), aidx_holds Try.underlying29 (by kernel_rfl), trivial⟩
end Go.Proofs.Ytcedgoaanlbldaa

namespace Go.Proofs.Ytcedgoaanlbldaa
open Sx hiding Sl
set_option maxRecDepth 100000

/-- A part of what is only read, or nil. -/
def Cut (G : List Ob) (v : Value) (bs : List Int) : Prop := (v = .slice none 0 0 ∧ bs = []) ∨ ∃ n k all, v = tok n ∧ k < n ∧ G[n]? = some (.view k 1 0 bs.length) ∧ G[k]? = some (.ro 1 all.length (u8s all)) ∧ bs.length ≤ all.length ∧ all.take bs.length = bs
theorem Cut.sl {G : List Ob} {v : Value} {bs : List Int} (h : Cut G v bs) : Sx.Sl G v 1 bs.length (u8s bs) := by
  rcases h with ⟨rfl, rfl⟩ | ⟨n, k, all, rfl, h0, h1, h2, h3, h4⟩
  · exact .inl ⟨rfl, rfl, rfl⟩
  · refine .inr ⟨k, 0, u8s all, ⟨n, rfl, .inr ⟨h1, h0⟩⟩, by unfold cellsAt; rw [h2]; rfl, by rw [List.length_map]; omega, ?_⟩
    rw [List.drop_zero, Nat.mul_one, ← List.map_take, h4]
theorem Cut.one {G : List Ob} {v : Value} {bs : List Int} (h : Cut G v bs) : v.oneCell' = true := h.sl.one
/-- What is no struct and no map stays. -/
def KeepRV (G G' : List Ob) : Prop := ∀ (n : Nat) o, G[n]? = some o → (∀ c, o ≠ .ptr c) → (∀ c, o ≠ .map c) → G'[n]? = some o
theorem Cut.keep {G G' : List Ob} {v : Value} {bs : List Int} (h : Cut G v bs) (hk : KeepRV G G') : Cut G' v bs :=
  h.imp id fun ⟨n, k, all, h1, h0, h2, h3, h4⟩ => ⟨n, k, all, h1, h0, hk _ _ h2 (fun c e => by cases e) (fun c e => by cases e), hk _ _ h3 (fun c e => by cases e) (fun c e => by cases e), h4⟩
theorem frd_rv {G G' : List Ob} {d : Nat} {M : DiskM} (hd : IsDisk G d M) (hf : FrD d M G G') : KeepRV G G' := fun n o ho h1 h2 =>
  hf.2 n o ho (fun e => by subst e; rw [hd.ob] at ho; cases ho; exact h1 _ rfl) (fun e => by subst e; rw [hd.ma] at ho; cases ho; exact h2 _ rfl) (fun e => by subst e; rw [hd.mo] at ho; cases ho; exact h2 _ rfl)
theorem set_rv {G : List Ob} {a : Nat} {c c' : List Value} (h : G[a]? = some (.ptr c)) : KeepRV G (G.set a (.ptr c')) := fun n o ho h1 _ => by
  rw [List.getElem?_set_ne fun e => ?_]
  · exact ho
  · subst e; rw [h] at ho; cases ho; exact h1 _ rfl
theorem pl_cut {G : List Ob} {i : Int} {v : Value} {bs : List Int} (hb : Body G v bs) : Cut (plG G i v bs.length) (plV G v) (cut128 bs) := by
  rcases hb with ⟨rfl, rfl⟩ | ⟨k, rfl, h⟩
  · exact .inl ⟨rfl, rfl⟩
  · have h1 : (plG G i (tok k) bs.length)[k]? = some (.ro 1 bs.length (bs.map (Value.int .u8))) := (pl_keeps G i (tok k) bs.length).1 _ _ h
    have h2 : (plG G i (tok k) bs.length)[G.length + 1]? = some (.view k 1 0 (min bs.length 128)) := by
      rw [show plG G i (tok k) bs.length = G ++ [.ptr [.int .i64 i, tok k]] ++ [.view k 1 0 (min bs.length 128)] from rfl, List.getElem?_append_right (by simp)]
      simp
    have hkl := (List.getElem?_eq_some_iff.1 h).1
    refine .inr ⟨G.length + 1, k, bs, rfl, by omega, by rw [cut128_len]; exact h2, h1, by rw [cut128_len]; omega, ?_⟩
    rw [cut128_len]
    rfl
/-- An array beside a disk turns. -/
theorem IsDisk.setArr {G : List Ob} {d a : Nat} {M : DiskM} {cells cells' : List Value} (h : IsDisk G d M) (ha : G[a]? = some (.ptr cells)) (hl : cells.length = 20) : IsDisk (G.set a (.ptr cells')) d M := by
  have nx : ∀ (n : Nat) o, G[n]? = some o → (∀ c, o = .ptr c → c.length ≠ 20) → (G.set a (.ptr cells'))[n]? = some o := fun n o ho hno => by
    rw [List.getElem?_set_ne fun e => ?_]
    · exact ho
    · subst e; rw [ha] at ho; cases ho; exact hno _ rfl hl
  refine ⟨nx _ _ h.ob fun c e => ?_, nx _ _ h.ma (fun c e => by cases e), nx _ _ h.mo (fun c e => by cases e), fun k q hq => ⟨nx _ _ (h.la k q hq).1 fun c e => ?_, (h.la k q hq).2⟩, h.lo, h.ne, h.rng, h.nd⟩
  · cases e; show (5 : Nat) ≠ 20; decide
  · cases e
    rw [List.length_map, (h.la k q hq).2]
    decide
/-- The cells of an array of slices. -/
def ArrIs (G : List Ob) (A : List Value) (b : Nat → List Int) : Prop := A.length = 20 ∧ ∀ j : Nat, j < 20 → ∃ v, A[j]? = some v ∧ Cut G v (b j) ∧ (b j).length ≤ 128
theorem ArrIs.keep {G G' : List Ob} {A : List Value} {b : Nat → List Int} (h : ArrIs G A b) (hk : KeepRV G G') : ArrIs G' A b := ⟨h.1, fun j hj => by
  obtain ⟨v, h1, h2, h3⟩ := h.2 j hj
  exact ⟨v, h1, h2.keep hk, h3⟩⟩
theorem ArrIs.put {G : List Ob} {A : List Value} {b : Nat → List Int} (h : ArrIs G A b) {k : Nat} (hk : k < 20) {v : Value} {bs : List Int} (hv : Cut G v bs) (hl : bs.length ≤ 128) : ArrIs G (A.set k v) (upN b k bs) := by
  refine ⟨by rw [List.length_set]; exact h.1, fun j hj => ?_⟩
  unfold upN
  by_cases e : j = k
  · subst e
    exact ⟨v, by rw [List.getElem?_set_self (by rw [h.1]; exact hj)], by rw [if_pos rfl]; exact ⟨hv, hl⟩⟩
  · rw [List.getElem?_set_ne (Ne.symm e), if_neg e]
    exact h.2 j hj
def boolsN (is : Nat → Bool) : List Value := (List.range 20).map fun j => .bool (is j)
theorem boolsN_at (is : Nat → Bool) {j : Nat} (h : j < 20) : (boolsN is)[j]? = some (.bool (is j)) := by
  unfold boolsN
  rw [List.getElem?_map, List.getElem?_range h]
  rfl
theorem boolsN_put (is : Nat → Bool) (k : Nat) : (boolsN is).set k (.bool true) = boolsN (upN is k true) := by
  apply List.ext_getElem?
  intro j
  by_cases hj : j < 20
  · rw [boolsN_at _ hj]
    unfold upN
    by_cases e : j = k
    · subst e
      rw [List.getElem?_set_self (by simpa [boolsN] using hj), if_pos rfl]
    · rw [List.getElem?_set_ne (Ne.symm e), if_neg e, boolsN_at _ hj]
  · rw [List.getElem?_eq_none (by rw [List.length_set]; simpa [boolsN] using hj), List.getElem?_eq_none (by simpa [boolsN] using hj)]
/-- The store of the walk: a disk, and three arrays behind it. -/
structure FS (G0 : List Ob) (M : DiskM) (A B : List Value) (is : Nat → Bool) (bA bB : Nat → List Int) (Gi : List Ob) : Prop where
  is_ : IsDisk Gi (G0.length + 2) M
  m1 : M.m1 = G0.length
  m2 : M.m2 = G0.length + 1
  kp : Keeps G0 Gi
  a1 : Gi[G0.length + 3]? = some (.ptr A)
  a2 : Gi[G0.length + 4]? = some (.ptr B)
  a3 : Gi[G0.length + 5]? = some (.ptr (boolsN is))
  cA : ArrIs Gi A bA
  cB : ArrIs Gi B bB
section
variable {G0 Gi Gj : List Ob} {M M' : DiskM} {A B : List Value} {is : Nat → Bool} {bA bB : Nat → List Int}
theorem FS.disk (h : FS G0 M A B is bA bB Gi) (hs : DStep (G0.length + 2) M Gi M' Gj) : FS G0 M' A B is bA bB Gj := by
  have hr := frd_rv h.is_ hs.fr
  have nx : ∀ (n : Nat) o, Gi[n]? = some o → n < G0.length ∨ G0.length + 2 < n → Gj[n]? = some o := fun n o ho hn => hs.fr.2 n o ho (by omega) (by rw [h.m1]; omega) (by rw [h.m2]; omega)
  exact ⟨hs.is_, hs.m1.trans h.m1, hs.m2.trans h.m2, fun n o ho => nx n o (h.kp n o ho) (.inl (List.getElem?_eq_some_iff.1 ho).1), nx _ _ h.a1 (.inr (by omega)), nx _ _ h.a2 (.inr (by omega)), nx _ _ h.a3 (.inr (by omega)), h.cA.keep hr, h.cB.keep hr⟩
theorem FS.keeps (h : FS G0 M A B is bA bB Gi) (hk : Keeps Gi Gj) (hl : Gi.length ≤ Gj.length) : FS G0 M A B is bA bB Gj := h.disk (DStep.of_keeps h.is_ hk hl)
theorem FS.putA (h : FS G0 M A B is bA bB Gi) {k : Nat} (hk : k < 20) {v : Value} {bs : List Int} (hv : Cut Gi v bs) (hl : bs.length ≤ 128) : FS G0 M (A.set k v) B is (upN bA k bs) bB (Gi.set (G0.length + 3) (.ptr (A.set k v))) := by
  have hr : KeepRV Gi (Gi.set (G0.length + 3) (.ptr (A.set k v))) := set_rv h.a1
  have nx : ∀ (n : Nat) o, Gi[n]? = some o → n ≠ G0.length + 3 → (Gi.set (G0.length + 3) (.ptr (A.set k v)))[n]? = some o := fun n o ho hn => by rw [List.getElem?_set_ne (Ne.symm hn)]; exact ho
  exact ⟨h.is_.setArr h.a1 h.cA.1, h.m1, h.m2, fun n o ho => nx n o (h.kp n o ho) (by have := (List.getElem?_eq_some_iff.1 ho).1; omega), by rw [List.getElem?_set_self (List.getElem?_eq_some_iff.1 h.a1).1], nx _ _ h.a2 (by omega), nx _ _ h.a3 (by omega), (h.cA.put hk hv hl).keep hr, h.cB.keep hr⟩
theorem FS.putB (h : FS G0 M A B is bA bB Gi) {k : Nat} (hk : k < 20) {v : Value} {bs : List Int} (hv : Cut Gi v bs) (hl : bs.length ≤ 128) : FS G0 M A (B.set k v) is bA (upN bB k bs) (Gi.set (G0.length + 4) (.ptr (B.set k v))) := by
  have hr : KeepRV Gi (Gi.set (G0.length + 4) (.ptr (B.set k v))) := set_rv h.a2
  have nx : ∀ (n : Nat) o, Gi[n]? = some o → n ≠ G0.length + 4 → (Gi.set (G0.length + 4) (.ptr (B.set k v)))[n]? = some o := fun n o ho hn => by rw [List.getElem?_set_ne (Ne.symm hn)]; exact ho
  exact ⟨h.is_.setArr h.a2 h.cB.1, h.m1, h.m2, fun n o ho => nx n o (h.kp n o ho) (by have := (List.getElem?_eq_some_iff.1 ho).1; omega), nx _ _ h.a1 (by omega), by rw [List.getElem?_set_self (List.getElem?_eq_some_iff.1 h.a2).1], nx _ _ h.a3 (by omega), h.cA.keep hr, (h.cB.put hk hv hl).keep hr⟩
theorem FS.putC (h : FS G0 M A B is bA bB Gi) {k : Nat} : FS G0 M A B (upN is k true) bA bB (Gi.set (G0.length + 5) (.ptr ((boolsN is).set k (.bool true)))) := by
  have hr : KeepRV Gi (Gi.set (G0.length + 5) (.ptr ((boolsN is).set k (.bool true)))) := set_rv h.a3
  have nx : ∀ (n : Nat) o, Gi[n]? = some o → n ≠ G0.length + 5 → (Gi.set (G0.length + 5) (.ptr ((boolsN is).set k (.bool true))))[n]? = some o := fun n o ho hn => by rw [List.getElem?_set_ne (Ne.symm hn)]; exact ho
  exact ⟨h.is_.setArr h.a3 (by simp [boolsN]), h.m1, h.m2, fun n o ho => nx n o (h.kp n o ho) (by have := (List.getElem?_eq_some_iff.1 ho).1; omega), nx _ _ h.a1 (by omega), nx _ _ h.a2 (by omega), by rw [List.getElem?_set_self (List.getElem?_eq_some_iff.1 h.a3).1, boolsN_put], h.cA.keep hr, h.cB.keep hr⟩
end
/-- The store ahead of the first round. -/
def ft0 (G : List Ob) : List Ob := newG G ++ [.ptr nils20] ++ [.ptr nils20] ++ [.ptr nos20]
theorem newG_length (G : List Ob) : (newG G).length = G.length + 3 := by simp [newG]
theorem nils_arr (G : List Ob) : ArrIs G nils20 fun _ => [] := ⟨rfl, fun j hj => ⟨.slice none 0 0, by unfold nils20; rw [List.getElem?_replicate, if_pos hj], .inl ⟨rfl, rfl⟩, Nat.zero_le _⟩⟩
theorem ft0_fs (G : List Ob) : FS G (newM G.length) nils20 nils20 (fun _ => false) (fun _ => []) (fun _ => []) (ft0 G) := by
  have hk : Keeps (newG G) (ft0 G) := by unfold ft0; rw [List.append_assoc, List.append_assoc]; exact Keeps.append _ _
  refine ⟨(new_is G).keeps hk, rfl, rfl, fun n o ho => hk n o (new_keeps G n o ho), ?_, ?_, ?_, nils_arr _, nils_arr _⟩
  · unfold ft0
    rw [List.append_assoc, List.append_assoc, List.getElem?_append_right (by rw [newG_length]; omega), newG_length, Nat.sub_self]
    rfl
  · unfold ft0
    rw [List.append_assoc, List.append_assoc, List.getElem?_append_right (by rw [newG_length]; omega), newG_length, show G.length + 4 - (G.length + 3) = 1 by omega]
    rfl
  · unfold ft0
    rw [List.append_assoc, List.append_assoc, List.getElem?_append_right (by rw [newG_length]; omega), newG_length, show G.length + 5 - (G.length + 3) = 2 by omega]
    rfl
/-- The rounds of the first puts, of the second ones, and of the looks. -/
def P1 (G0 Gi : List Ob) : Prop := ∃ M A B bA bB is, FS G0 M A B (fun _ => false) bA bB Gi ∧ Free M ∧ M.la = [] ∧ LoIs M.lo is bA ∧ ∀ j, j < 20 → is j = false → bA j = []
def P2 (G0 Gi : List Ob) : Prop := ∃ M A B bA bB is, FS G0 M A B is bA bB Gi ∧ Free M ∧ LaIs M.la bA ∧ LoIs M.lo is bB
def atN (is : Nat → Bool) (i : Nat) : Nat := ((List.range i).filter is).length
def P3 (keep : List Int) (G0 Gi : List Ob) (i at_ : Nat) : Prop := ∃ M A B bA bB is, FS G0 M A B is bA bB Gi ∧ Free M ∧ M.lo = [] ∧ FateIs M.la (fateAt keep is) bA bB ∧ at_ = atN is i
theorem atN_succ (is : Nat → Bool) (i : Nat) : atN is (i + 1) = atN is i + if is i = true then 1 else 0 := by
  unfold atN
  rw [List.range_succ, List.filter_append, List.length_append]
  congr 1
  cases h : is i <;> simp [h]
theorem atN_le (is : Nat → Bool) (i : Nat) : atN is i ≤ i := by
  have := List.length_filter_le is (List.range i)
  rw [List.length_range] at this
  exact this
theorem P1.start (G : List Ob) : P1 G (ft0 G) := ⟨_, _, _, _, _, fun _ => false, ft0_fs G, ⟨rfl, rfl⟩, rfl, ⟨fun p hp => (by cases hp), fun j _ => rfl⟩, fun _ _ _ => rfl⟩
/-- Ahead of the second puts. -/
theorem P1.sync {G0 Gi : List Ob} (h : P1 G0 Gi) : ∃ M, IsDisk Gi (G0.length + 2) M ∧ sycE M = 0 ∧ P2 G0 (sycG Gi (G0.length + 2) M) := by
  obtain ⟨M, A, B, bA, bB, is, h1, h2, h3, h4, h5⟩ := h
  obtain ⟨c1, c2, c3, c4⟩ := syc_free h2 h1.is_.nd h3 h4 h5 Gi.length
  refine ⟨M, h1.is_, c1, sycM M Gi.length, A, B, bA, bB, fun _ => false, h1.disk (syc_step h1.is_), c2, c3, ?_⟩
  rw [c4]
  exact ⟨fun p hp => (by cases hp), fun j _ => rfl⟩
/-- Ahead of the looks. -/
theorem P2.crash {G0 Gi : List Ob} (h : P2 G0 Gi) (keep : List Int) : ∃ M, IsDisk Gi (G0.length + 2) M ∧ P3 keep G0 (crash Gi (G0.length + 2) M keep).1 0 0 := by
  obtain ⟨M, A, B, bA, bB, is, h1, h2, h3, h4⟩ := h
  exact ⟨M, h1.is_, _, A, B, bA, bB, is, h1.disk (cra_step h1.is_ keep), ⟨rfl, rfl⟩, rfl, cra_free h1.is_.nd h3 h4 keep, rfl⟩
/-- Behind the looks. -/
theorem P3.crash {G0 Gi : List Ob} {keep : List Int} {i a : Nat} (h : P3 keep G0 Gi i a) (keep' : List Int) {Gj : List Ob} (hk : Keeps Gi Gj) (hl : Gi.length ≤ Gj.length) : ∃ M, IsDisk Gj (G0.length + 2) M ∧ P3 keep G0 (crash Gj (G0.length + 2) M keep').1 0 0 := by
  obtain ⟨M, A, B, bA, bB, is, h1, h2, h3, h4, _⟩ := h
  have h1' := h1.keeps hk hl
  exact ⟨M, h1'.is_, _, A, B, bA, bB, is, h1'.disk (cra_step h1'.is_ keep'), ⟨rfl, rfl⟩, rfl, by rw [cra_again h3]; exact h4, rfl⟩
theorem P3.zero {G0 Gi : List Ob} {keep : List Int} {i a : Nat} (h : P3 keep G0 Gi i a) : P3 keep G0 Gi 0 0 := by
  obtain ⟨M, A, B, bA, bB, is, h1, h2, h3, h4, _⟩ := h
  exact ⟨M, A, B, bA, bB, is, h1, h2, h3, h4, rfl⟩
end Go.Proofs.Ytcedgoaanlbldaa
