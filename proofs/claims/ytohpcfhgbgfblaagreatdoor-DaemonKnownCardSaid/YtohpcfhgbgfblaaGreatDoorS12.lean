/- What is proved: parts of the walk and of the plain law, 1 texts in one. No condition but those each law names. -/
import Derived.Test.YtohpcfhgbgfblaaGreatDoorS11
namespace Go.Proofs.YtohpcfhgbgfblaaGreatDoor
open Go.RowKit
open Sx (Ab z128 padN)
set_option maxRecDepth 100000

theorem fr_cons (k : Nat) (l more : List Nat) : fr k l ++ more = k :: l.length % 256 :: l.length / 256 :: (l ++ (les (csum (hd k l)) 4 ++ more)) := by simp [fr, hd]

theorem gN_cons (k n : Nat) (q : List Nat) : gN (k :: n % 256 :: n / 256 :: q) = n := by
  show n % 256 + 256 * (n / 256 + 256 * 0) = n
  omega

theorem getE_fr {k : Nat} {l : List Nat} (hk : 0 < k) (hn : l.length ≤ 400) (more : List Nat) : getE (fr k l ++ more) = 0 := by
  have hN : gN (fr k l ++ more) = l.length := by rw [fr_cons, gN_cons]
  have hlen : (fr k l ++ more).length = l.length + 7 + more.length := by rw [List.length_append, fr_length]
  have ht : (fr k l ++ more).take (3 + l.length) = hd k l := by
    have : (fr k l ++ more) = hd k l ++ (les (csum (hd k l)) 4 ++ more) := by simp [fr]
    rw [this, show 3 + l.length = (hd k l).length by rw [hd_length]; omega, List.take_left]
  have hd4 : ((fr k l ++ more).drop (3 + l.length)).take 4 = les (csum (hd k l)) 4 := by
    have : (fr k l ++ more) = hd k l ++ (les (csum (hd k l)) 4 ++ more) := by simp [fr]
    rw [this, show 3 + l.length = (hd k l).length by rw [hd_length]; omega, List.drop_left]
    exact List.take_left' (les_length _ 4)
  have hz : ¬ (fr k l ++ more)[0]? = some 0 := by rw [fr_cons]; simp; omega
  unfold getE
  rw [if_neg (by omega), if_neg hz, hN, if_neg (by omega), if_neg (by omega), if_neg]
  rw [ht, hd4, num_les]
  have := csum_lt (hd k l)
  intro h
  apply h
  show csum (hd k l) % 256 ^ 4 = csum (hd k l)
  omega
theorem getB_fr {k : Nat} {l : List Nat} (hk : 0 < k) (hn : l.length ≤ 400) (more : List Nat) : getB (fr k l ++ more) = l := by
  unfold getB
  rw [if_pos (getE_fr hk hn more), fr_cons, gN_cons]
  simp
theorem getK_fr {k : Nat} {l : List Nat} (hk : 0 < k) (hn : l.length ≤ 400) (more : List Nat) : getK (fr k l ++ more) = k := by
  unfold getK
  rw [if_pos (getE_fr hk hn more), fr_cons]
  rfl
theorem getM_fr {k : Nat} {l : List Nat} (hk : 0 < k) (hn : l.length ≤ 400) (more : List Nat) : getM (fr k l ++ more) = (l.length : Int) + 7 := by
  unfold getM
  rw [if_pos (getE_fr hk hn more), fr_cons, gN_cons]
  rfl
theorem getE_cut {k : Nat} {l : List Nat} (hk : 0 < k) (hn : l.length ≤ 400) {i : Nat} (hi : i < l.length + 7) : getE ((fr k l).take i) = 4 := by
  have hlen : ((fr k l).take i).length = i := by rw [List.length_take, fr_length]; omega
  unfold getE
  by_cases h3 : i < 3
  · rw [if_pos (by omega)]
  · obtain ⟨j, rfl⟩ : ∃ j, i = j + 3 := ⟨i - 3, by omega⟩
    have e := fr_cons k l []
    rw [List.append_nil] at e
    have e2 : (fr k l).take (j + 3) = k :: l.length % 256 :: l.length / 256 :: (l ++ (les (csum (hd k l)) 4 ++ [])).take j := by rw [e]; rfl
    rw [if_neg (by omega), if_neg (by rw [e2]; simp; omega), e2, gN_cons, if_neg (by omega), if_pos]
    rw [← e2, hlen]; omega

/-- A row's bytes; what its sectors hold. -/
def rowF (r : Int × List Nat) : List Nat := fr r.1.toNat r.2
def secs (r : Int × List Nat) : List (List Nat) := (pcs (rowF r)).map padN
def RowOk (r : Int × List Nat) : Prop := 1 ≤ r.1 ∧ r.1 < 255 ∧ r.2.length ≤ 400 ∧ Small r.2
theorem rowF_len (r : Int × List Nat) : (rowF r).length = r.2.length + 7 := fr_length _ _
theorem rowF_small {r : Int × List Nat} (h : RowOk r) : Small (rowF r) := by
  obtain ⟨h1, h2, h3, h4⟩ := h
  exact fr_small (by omega) h3 h4
theorem secs_len (r : Int × List Nat) : (secs r).length = npc (rowF r) := by unfold secs; rw [List.length_map, pcs_length]
theorem secs_get (r : Int × List Nat) {i : Nat} (h : i < npc (rowF r)) : (secs r)[i]? = some (padN (pc (rowF r) i)) := by unfold secs; rw [List.getElem?_map, pcs_get _ h]; rfl
theorem npc_pos (r : Int × List Nat) : 0 < npc (rowF r) := by unfold npc; rw [rowF_len]; omega
theorem npc_le {r : Int × List Nat} (h : RowOk r) : npc (rowF r) ≤ 4 := by unfold npc; rw [rowF_len]; have := h.2.2.1; omega
theorem pc_length (L : List Nat) (i : Nat) : (pc L i).length ≤ 128 := by unfold pc; rw [List.length_cons, List.length_take]; omega
theorem padN_length {l : List Nat} (h : l.length ≤ 128) : (padN l).length = 128 := by unfold padN; rw [List.length_append, List.length_replicate]; omega
theorem secs_128 {r : Int × List Nat} {l : List Nat} (h : l ∈ secs r) : l.length = 128 := by
  unfold secs pcs at h
  rw [List.map_map] at h
  obtain ⟨i, _, rfl⟩ := List.mem_map.1 h
  exact padN_length (pc_length _ _)
theorem zeros_small (n : Nat) : Small (List.replicate n 0) := fun x hx => by rw [List.eq_of_mem_replicate hx]; decide
theorem padN_small {l : List Nat} (h : Small l) : Small (padN l) := h.append (zeros_small _)
theorem secs_small {r : Int × List Nat} (hr : RowOk r) {l : List Nat} (h : l ∈ secs r) : Small l := by
  unfold secs at h
  obtain ⟨p, hp, rfl⟩ := List.mem_map.1 h
  unfold pcs at hp
  obtain ⟨i, hi, rfl⟩ := List.mem_map.1 hp
  refine padN_small fun x hx => ?_
  unfold pc at hx
  rcases List.mem_cons.1 hx with rfl | hx
  · have := npc_le hr
    have := List.mem_range.1 hi
    omega
  · exact rowF_small hr x (List.mem_of_mem_drop (List.mem_of_mem_take hx))
/-- A sector's first byte, and the rest of it behind what was read. -/
theorem sec_head (L : List Nat) (i : Nat) : (padN (pc L i)).getD 0 0 = 160 + i := rfl
theorem sec_rest (L : List Nat) (i : Nat) : ∃ z, L.take (127 * i) ++ (padN (pc L i)).drop 1 = L.take (127 * (i + 1)) ++ List.replicate z 0 ∧ (127 * (i + 1) ≤ L.length → z = 0) := by
  refine ⟨128 - (pc L i).length, ?_, fun h => ?_⟩
  · have e : (padN (pc L i)).drop 1 = (L.drop (127 * i)).take 127 ++ List.replicate (128 - (pc L i).length) 0 := rfl
    rw [e, ← List.append_assoc]
    congr 1
    rw [show 127 * (i + 1) = 127 * i + 127 by omega, List.take_add]
  · unfold pc
    rw [List.length_cons, List.length_take, List.length_drop]
    omega
/-- The sectors from p on show these. -/
def At (A : Ab) (p : Int) (S : List (List Nat)) : Prop := ∀ (k : Nat) l, S[k]? = some l → A.see (p + k) = some l
theorem At.left {A : Ab} {p : Int} {S T : List (List Nat)} (h : At A p (S ++ T)) : At A p S := fun k l hk => h k l (by rw [List.getElem?_append_left (List.getElem?_eq_some_iff.1 hk).1]; exact hk)
theorem At.right {A : Ab} {p : Int} {S T : List (List Nat)} (h : At A p (S ++ T)) : At A (p + S.length) T := fun k l hk => by
  have := h (S.length + k) l (by rw [List.getElem?_append_right (by omega), Nat.add_sub_cancel_left]; exact hk)
  rw [← this]
  congr 1
  omega
/-- A sector that begins no row. -/
def Dud (o : Option (List Nat)) : Prop := ∀ l, o = some l → l.getD 0 0 ≠ 160
theorem row_dud {A : Ab} {p end_ : Int} (h : Dud (A.see p)) : rowA A p end_ = Rw.no p := by
  unfold rowA
  cases hk : (end_ - p).toNat with
  | zero => rfl
  | succ k =>
    rw [rowL]
    have e : p + ((0 : Nat) : Int) = p := by omega
    rw [e]
    cases hs : A.see p with
    | none => rfl
    | some l =>
      have := h l hs
      exact if_pos (by omega)
theorem row_from {A : Ab} {p : Int} {r : Int × List Nat} (hr : RowOk r) (h : At A p (secs r)) : ∀ (n i k : Nat), i + n = npc (rowF r) → 0 < n → n ≤ k → rowL A p k i ((rowF r).take (127 * i)) = ⟨r.1, r.2, p + npc (rowF r), true⟩ := by
  obtain ⟨r1, r2, r3, r4⟩ := id hr
  have hL := rowF_len r
  intro n
  induction n with
  | zero => intro i k _ h0; exact absurd h0 (Nat.lt_irrefl 0)
  | succ n ih =>
    intro i k hi _ hk
    obtain ⟨k, rfl⟩ : ∃ q, k = q + 1 := ⟨k - 1, by omega⟩
    rw [rowL, h i _ (secs_get r (by omega))]
    obtain ⟨z, hz, hz0⟩ := sec_rest (rowF r) i
    show (if (((padN (pc (rowF r) i)).getD 0 0 : Nat) : Int) ≠ 160 + i then _ else _) = _
    rw [sec_head, if_neg (by omega)]
    simp only [hz]
    by_cases hn : n = 0
    · subst hn
      have ht : (rowF r).take (127 * (i + 1)) = rowF r := List.take_of_length_le (by unfold npc at hi; omega)
      rw [ht]
      have e1 : getE (rowF r ++ List.replicate z 0) = 0 := getE_fr (by omega) r3 _
      have e2 : getK (rowF r ++ List.replicate z 0) = r.1 := by
        have : getK (rowF r ++ List.replicate z 0) = (r.1.toNat : Int) := getK_fr (by omega) r3 _
        rw [this]; omega
      have e3 : getB (rowF r ++ List.replicate z 0) = r.2 := getB_fr (by omega) r3 _
      have e4 : getM (rowF r ++ List.replicate z 0) = (r.2.length : Int) + 7 := getM_fr (by omega) r3 _
      rw [if_pos e1, e2, e3, e4]
      have : (decide (r.1 ≠ 255) && decide (127 * (i : Int) < (r.2.length : Int) + 7)) = true := by
        rw [decide_eq_true (by omega), decide_eq_true (by unfold npc at hi; omega)]
        rfl
      rw [this]
      congr 1
      omega
    · have hlt : 127 * (i + 1) < r.2.length + 7 := by unfold npc at hi; omega
      have hz1 := hz0 (by omega)
      subst hz1
      rw [List.replicate_zero, List.append_nil]
      have e1 : getE ((rowF r).take (127 * (i + 1))) = 4 := getE_cut (by omega) r3 hlt
      rw [e1, if_neg (by decide), if_neg (by decide)]
      exact ih (i + 1) k (by omega) (by omega) (by omega)
theorem row_at {A : Ab} {p end_ : Int} {r : Int × List Nat} (hr : RowOk r) (h : At A p (secs r)) (he : p + npc (rowF r) ≤ end_) : rowA A p end_ = ⟨r.1, r.2, p + npc (rowF r), true⟩ := by
  have := row_from hr h (npc (rowF r)) 0 (end_ - p).toNat (by omega) (npc_pos r) (by omega)
  simpa [rowA] using this
/-- A row that is not whole: each of its sectors is as it should be, or reads as noughts, or can't be read. -/
theorem part_from {A : Ab} {p : Int} {r : Int × List Nat} (hr : RowOk r) (h : ∀ i, i < npc (rowF r) → A.see (p + (i : Nat)) = some (padN (pc (rowF r) i)) ∨ A.see (p + (i : Nat)) = none ∨ A.see (p + (i : Nat)) = some z128) :
    ∀ (n i k : Nat), i + n = npc (rowF r) → (∃ m, i ≤ m ∧ m < npc (rowF r) ∧ A.see (p + (m : Nat)) ≠ some (padN (pc (rowF r) m))) → rowL A p k i ((rowF r).take (127 * i)) = Rw.no p := by
  obtain ⟨r1, r2, r3, r4⟩ := id hr
  have hL := rowF_len r
  intro n
  induction n with
  | zero => rintro i k hi ⟨m, h1, h2, _⟩; omega
  | succ n ih =>
    rintro i k hi ⟨m, h1, h2, h3⟩
    cases k with
    | zero => rfl
    | succ k =>
      rw [rowL]
      rcases h i (by omega) with e | e | e
      · have hne : i ≠ m := fun q => h3 (by rw [← q]; exact e)
        rw [e]
        obtain ⟨z, hz, hz0⟩ := sec_rest (rowF r) i
        show (if (((padN (pc (rowF r) i)).getD 0 0 : Nat) : Int) ≠ 160 + i then _ else _) = _
        rw [sec_head, if_neg (by omega)]
        simp only [hz]
        have hlt : 127 * (i + 1) < r.2.length + 7 := by unfold npc at h2; omega
        have hz1 := hz0 (by omega)
        subst hz1
        rw [List.replicate_zero, List.append_nil]
        have e1 : getE ((rowF r).take (127 * (i + 1))) = 4 := getE_cut (by omega) r3 hlt
        rw [e1, if_neg (by decide), if_neg (by decide)]
        exact ih (i + 1) k (by omega) ⟨m, by omega, h2, h3⟩
      · rw [e]
      · rw [e]
        exact if_pos (by show ((0 : Nat) : Int) ≠ 160 + i; omega)
theorem row_part {A : Ab} {p end_ : Int} {r : Int × List Nat} (hr : RowOk r) (h : ∀ i, i < npc (rowF r) → A.see (p + (i : Nat)) = some (padN (pc (rowF r) i)) ∨ A.see (p + (i : Nat)) = none ∨ A.see (p + (i : Nat)) = some z128)
    (hm : ∃ m, m < npc (rowF r) ∧ A.see (p + (m : Nat)) ≠ some (padN (pc (rowF r) m))) : rowA A p end_ = Rw.no p := by
  obtain ⟨m, h1, h2⟩ := hm
  have := part_from hr h (npc (rowF r)) 0 (end_ - p).toNat (by omega) ⟨m, Nat.zero_le _, h1, h2⟩
  simpa [rowA] using this
/-- The sectors of rows, one behind the other. -/
def secL (R : List (Int × List Nat)) : List (List Nat) := R.flatMap secs
theorem secL_cons (r : Int × List Nat) (R : List (Int × List Nat)) : secL (r :: R) = secs r ++ secL R := rfl
theorem secL_append (R S : List (Int × List Nat)) : secL (R ++ S) = secL R ++ secL S := by simp [secL]
theorem secL_one (r : Int × List Nat) : secL [r] = secs r := by simp [secL]
def RowsOk (R : List (Int × List Nat)) : Prop := ∀ r ∈ R, RowOk r
theorem secL_ge (R : List (Int × List Nat)) : R.length ≤ (secL R).length := by
  induction R with
  | nil => exact Nat.le_refl _
  | cons r R ih => rw [secL_cons, List.length_append, List.length_cons, secs_len]; have := npc_pos r; omega
theorem rows_from {A : Ab} {end_ : Int} {R : List (Int × List Nat)} (hR : RowsOk R) : ∀ (m : Nat) (p : Int), R.length < m → At A p (secL R) → p + (secL R).length ≤ end_ → (rowA A (p + (secL R).length) end_).ok = false → rowsL A end_ m p = (R, p + (secL R).length) := by
  induction R with
  | nil =>
    intro m p hm _ _ h
    obtain ⟨m, rfl⟩ : ∃ q, m = q + 1 := ⟨m - 1, by simp at hm; omega⟩
    have e : p + ((secL []).length : Int) = p := by show p + ((0 : Nat) : Int) = p; omega
    rw [e] at h ⊢
    rw [rowsL, h]
    rfl
  | cons r R ih =>
    intro m p hm h1 h2 h3
    obtain ⟨m, rfl⟩ : ∃ q, m = q + 1 := ⟨m - 1, by simp at hm; omega⟩
    have hl : ((secL (r :: R)).length : Int) = (npc (rowF r) : Nat) + (secL R).length := by rw [secL_cons, List.length_append, secs_len]; omega
    rw [hl] at h2 h3 ⊢
    rw [← Int.add_assoc] at h2 h3 ⊢
    have e := row_at (hR r (by simp)) (h1.left (S := secs r)) (end_ := end_) (by omega)
    have h4 := h1.right (S := secs r)
    rw [secs_len] at h4
    rw [rowsL, e, if_pos rfl]
    simp only
    rw [ih (fun x hx => hR x (by simp [hx])) m _ (by simp at hm; omega) h4 h2 h3]
/-- What a half holds is read back. -/
theorem rows_holds {A : Ab} {first : Int} {R : List (Int × List Nat)} (hR : RowsOk R) (h1 : At A (first + 1) (secL R)) (hl : (secL R).length ≤ 255) (h2 : (rowA A (first + 1 + (secL R).length) (first + 256)).ok = false)
    (h3 : ∀ s : Int, first + 1 + (secL R).length < s → s < first + 256 → Dud (A.see s)) : rowsE A first = (R, first + 1 + (secL R).length) ∧ spoilt A (first + 1 + (secL R).length) (first + 256) = false := by
  refine ⟨?_, ?_⟩
  · by_cases hq : R.length < 255
    · exact rows_from hR 255 _ hq h1 (by omega) h2
    · have hg := secL_ge R
      have h255 : R.length = 255 := by omega
      have := rows_from (end_ := first + 256) hR 256 _ (by omega) h1 (by omega) h2
      rw [← this]
      unfold rowsE
      have gen : ∀ (m : Nat) (p : Int), (first + 256 - p).toNat ≤ m → rowsL A (first + 256) m p = rowsL A (first + 256) (m + 1) p := by
        intro m
        induction m with
        | zero =>
          intro p hp
          rw [rowsL, rowsL]
          have : (rowA A p (first + 256)).ok = false := by
            unfold rowA
            rw [show (first + 256 - p).toNat = 0 by omega]
            rfl
          rw [this]
          rfl
        | succ m ih =>
          intro p hp
          rw [rowsL, rowsL]
          split
          · rename_i hok
            have := rowA_ok hok
            rw [ih _ (by omega)]
          · rfl
      exact gen 255 _ (by omega)
  · unfold spoilt
    rw [List.any_eq_false]
    intro k hk
    have := List.mem_range.1 hk
    rw [row_dud (h3 _ (by omega) (by omega))]
    exact Bool.false_ne_true
end Go.Proofs.YtohpcfhgbgfblaaGreatDoor
