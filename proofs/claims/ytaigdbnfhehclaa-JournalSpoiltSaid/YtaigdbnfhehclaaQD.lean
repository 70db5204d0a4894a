/- What is proved: rows of one place each, of which one is spoilt (plain). No condition but those each law names. -/
import Derived.Test.YtaigdbnfhehclaaQB
import Derived.Test.YtaigdbnfhehclaaK4
namespace Go.Proofs.Ytaigdbnfhehclaa
open Go.RowKit
open Sx (Ab z128 padN)
set_option maxRecDepth 100000

/-- The law's rows. -/
def rk (l : List Int) (i : Nat) : Int × List Nat := (1 + l.getD i 0 % 254, [i, 9])
def rks (l : List Int) (n : Nat) : List (Int × List Nat) := (List.range n).map (rk l)
theorem rks_len (l : List Int) (n : Nat) : (rks l n).length = n := by simp [rks]
theorem rks_succ (l : List Int) (n : Nat) : rks l (n + 1) = rks l n ++ [rk l n] := by simp [rks, List.range_succ]
theorem rks_take (l : List Int) {n i : Nat} (h : i ≤ n) : (rks l n).take i = rks l i := by
  unfold rks
  rw [← List.map_take, List.take_range, Nat.min_eq_left h]
theorem hd2 (k x y : Nat) : hd k [x, y] = [k, 2, 0, x, y] := by simp [hd]
theorem rk_ok (l : List Int) {i : Nat} (h : i < 40) : RowOk (rk l i) := by
  have h1 := Int.emod_nonneg (l.getD i 0) (show (254 : Int) ≠ 0 by decide)
  have h2 := Int.emod_lt_of_pos (l.getD i 0) (show (0 : Int) < 254 by decide)
  refine ⟨by show 1 ≤ 1 + _; omega, by show 1 + _ < 255; omega, by show [i, 9].length ≤ 400; simp, fun x hx => ?_⟩
  simp only [rk, List.mem_cons, List.not_mem_nil, or_false] at hx
  omega
theorem rks_ok (l : List Int) {n : Nat} (h : n ≤ 40) : RowsOk (rks l n) := fun r hr => by
  unfold rks at hr
  obtain ⟨i, hi, rfl⟩ := List.mem_map.1 hr
  have := List.mem_range.1 hi
  exact rk_ok l (by omega)
theorem rk_npc (l : List Int) (i : Nat) : npc (rowF (rk l i)) = 1 := by unfold npc; rw [rowF_len]; show ([i, 9].length + 7 + 126) / 127 = 1; simp
theorem secs_rk (l : List Int) (i : Nat) : secs (rk l i) = [padN (pc (rowF (rk l i)) 0)] := by
  unfold secs pcs
  rw [rk_npc]
  rfl
theorem secL_rks (l : List Int) (n : Nat) : secL (rks l n) = (List.range n).map fun i => padN (pc (rowF (rk l i)) 0) := by
  induction n with
  | zero => rfl
  | succ n ih => rw [rks_succ, secL_append, ih, secL_one, secs_rk, List.range_succ, List.map_append]; rfl
theorem secL_rks_len (l : List Int) (n : Nat) : (secL (rks l n)).length = n := by rw [secL_rks]; simp
/-- The sector of a row. -/
def rkK (l : List Int) (i : Nat) : Nat := (1 + l.getD i 0 % 254).toNat
def rkC (l : List Int) (i : Nat) : Nat := csum (hd (rkK l i) [i, 9])
def sp (l : List Int) (i : Nat) : List Nat := 160 :: rkK l i :: 2 :: 0 :: i :: 9 :: (les (rkC l i) 4 ++ List.replicate 118 0)
theorem sp_eq (l : List Int) (i : Nat) : padN (pc (rowF (rk l i)) 0) = sp l i := by
  unfold sp rkC rkK rowF rk
  simp only
  generalize (1 + l.getD i 0 % 254).toNat = k
  unfold fr
  generalize csum (hd k [i, 9]) = C
  rw [hd2]
  rfl
theorem rkK_b (l : List Int) (i : Nat) : 0 < rkK l i ∧ rkK l i < 255 := by
  have h1 := Int.emod_nonneg (l.getD i 0) (show (254 : Int) ≠ 0 by decide)
  have h2 := Int.emod_lt_of_pos (l.getD i 0) (show (0 : Int) < 254 by decide)
  unfold rkK
  omega
theorem sp_small (l : List Int) {i : Nat} (h : i < 40) : Small (sp l i) := by
  rw [← sp_eq]
  exact secs_small (rk_ok l h) (by rw [secs_rk]; simp)
theorem sp_len (l : List Int) (i : Nat) : (sp l i).length = 128 := by
  unfold sp
  generalize rkC l i = C
  rfl
/-- The sector with a bit of the row's two bytes turned. -/
def sq (l : List Int) (i q m : Nat) : List Nat := (sp l i).set (4 + q) ((sp l i).getD (4 + q) 0 ^^^ 2 ^ m)
theorem sq_len (l : List Int) (i q m : Nat) : (sq l i q m).length = 128 := by unfold sq; rw [List.length_set, sp_len]
theorem getD_small {l : List Nat} (h : Small l) (k : Nat) : l.getD k 0 < 256 := by
  rw [List.getD_eq_getElem?_getD]
  cases hq : l[k]? with
  | none => decide
  | some y => exact h.at hq
theorem two_pow_small {m : Nat} (h : m < 8) : 2 ^ m < 256 := Nat.pow_lt_pow_right (by decide) h
theorem sq_small (l : List Int) {i : Nat} (h : i < 40) {q m : Nat} (hm : m < 8) : Small (sq l i q m) := fun x hx => by
  unfold sq at hx
  rcases List.mem_or_eq_of_mem_set hx with h1 | h1
  · exact sp_small l h x h1
  · rw [h1]
    exact Nat.xor_lt_two_pow (n := 8) (getD_small (sp_small l h) _) (two_pow_small hm)
theorem sum_bad {k x y x' y' C : Nat} (hk0 : 0 < k) (hc : csum (hd k [x', y']) ≠ C) (hC : C < 4294967296) (z : List Nat) : getE (k :: 2 :: 0 :: x' :: y' :: (les C 4 ++ z)) = 6 := by
  have hN : gN (k :: 2 :: 0 :: x' :: y' :: (les C 4 ++ z)) = 2 := rfl
  have hl : (k :: 2 :: 0 :: x' :: y' :: (les C 4 ++ z)).length = 9 + z.length := by simp [les_length]; omega
  unfold getE
  rw [if_neg (by omega), if_neg (by simp; omega), hN, if_neg (by decide), if_neg (by omega), if_pos]
  have e1 : ((k :: 2 :: 0 :: x' :: y' :: (les C 4 ++ z)).drop (3 + 2)).take 4 = les C 4 := by
    show (les C 4 ++ z).take 4 = _
    exact List.take_left' (les_length _ 4)
  have e2 : (k :: 2 :: 0 :: x' :: y' :: (les C 4 ++ z)).take (3 + 2) = hd k [x', y'] := by rw [hd2]; rfl
  rw [e1, e2, num_les, Nat.mod_eq_of_lt hC]
  exact fun e => hc e.symm
theorem rkC_lt (l : List Int) (i : Nat) : rkC l i < 4294967296 := csum_lt _
theorem sq_get (l : List Int) {i q m : Nat} (h : i < 40) (hq : q < 2) (hm : m < 8) : getE ((sq l i q m).drop 1) = 6 := by
  have hk := rkK_b l i
  have hs : Small (hd (rkK l i) [i, 9]) := hd_small (by omega) (by simp) (fun x hx => by simp at hx; omega)
  have key : ∀ (x' y' : Nat), [rkK l i, 2, 0, x', y'] = (hd (rkK l i) [i, 9]).set (3 + q) ((hd (rkK l i) [i, 9]).getD (3 + q) 0 ^^^ 2 ^ m) → csum (hd (rkK l i) [x', y']) ≠ rkC l i := fun x' y' e => by
    have e2 : hd (rkK l i) [x', y'] = (hd (rkK l i) [i, 9]).set (3 + q) ((hd (rkK l i) [i, 9]).getD (3 + q) 0 ^^^ 2 ^ m) := by rw [hd2]; exact e
    have hlen : (hd (rkK l i) [i, 9]).length = 5 := by rw [hd2]; rfl
    have hg : (hd (rkK l i) [i, 9])[3 + q]? = some ((hd (rkK l i) [i, 9]).getD (3 + q) 0) := by
      rw [List.getD_eq_getElem?_getD, List.getElem?_eq_getElem (by rw [hlen]; omega)]
      rfl
    have hn := num_set _ hs (3 + q) _ (2 ^ m) hg (two_pow_small hm)
    rw [e2]
    refine csum_burst hs (fun x hx => ?_) (by rw [List.length_set]) (x := 2 ^ m) (a := 8 * (3 + q)) (Nat.lt_trans (two_pow_small hm) (by decide)) (Nat.two_pow_pos m) (by rw [hlen]; omega) hn
    rcases List.mem_or_eq_of_mem_set hx with h1 | h1
    · exact hs x h1
    · rw [h1]
      exact Nat.xor_lt_two_pow (n := 8) (getD_small hs _) (two_pow_small hm)
  have hC := rkC_lt l i
  have key2 := key
  unfold sq sp
  generalize rkC l i = C at *
  generalize rkK l i = k at *
  have hq2 : q = 0 ∨ q = 1 := by omega
  rcases hq2 with rfl | rfl
  · exact sum_bad hk.1 (x := i) (y := 9) (key2 (i ^^^ 2 ^ m) 9 (by rw [hd2]; rfl)) hC _
  · exact sum_bad hk.1 (x := i) (y := 9) (key2 i (9 ^^^ 2 ^ m) (by rw [hd2]; rfl)) hC _
theorem sq_head (l : List Int) (i q m : Nat) : (sq l i q m).getD 0 0 = 160 := by
  unfold sq sp
  rw [show 4 + q = (3 + q) + 1 by omega, List.set_cons_succ]
  rfl
theorem sq_row {A : Ab} {p end_ : Int} {l : List Int} {i q m : Nat} (h : i < 40) (hq : q < 2) (hm : m < 8) (hs : A.see p = some (sq l i q m)) : rowA A p end_ = Rw.no p := by
  unfold rowA
  cases hk : (end_ - p).toNat with
  | zero => rfl
  | succ k =>
    rw [rowL]
    have e : p + ((0 : Nat) : Int) = p := by omega
    rw [e, hs]
    simp only
    rw [sq_head, if_neg (by decide), List.nil_append, sq_get l h hq hm, if_neg (by decide), if_pos (by decide)]
/-- One sector is spoilt. -/
theorem spoilt_sees {A A' : Ab} {j : Jr} {l : List Int} {n at_ q m : Nat} (h : Holds A j (rks l n)) (hf : j.first = 0) (hn : n ≤ 40) (hat : at_ < n) (hq : q < 2) (hm : m < 8) (hsm : Ab.Sm A')
    (hsee : ∀ k, A'.see k = if k = 1 + (at_ : Int) then some (sq l at_ q m) else A.see k) (hc : Calm A') (hl : ∀ k, A'.loose k = none) :
    (at_ < n - 1 → openP A' = ⟨6, A', newJ, []⟩) ∧ (at_ = n - 1 → ∃ A2 j2, openP A' = ⟨0, A2, j2, rks l (n - 1)⟩ ∧ Ab.Sm A2) := by
  have hlen := secL_rks_len l n
  have hja : j.at_ = 1 + n := by rw [h.half.at_, hf, hlen]; omega
  have hbody : ∀ i : Nat, i < n → A.see (1 + (i : Int)) = some (sp l i) := fun i hi => by
    have := h.half.body i (sp l i) (by rw [secL_rks, List.getElem?_map, List.getElem?_range hi]; simp [sp_eq])
    rw [← this, hf]
    rfl
  have hrest : ∀ s : Int, 1 + n ≤ s → s < 256 → A.see s = some z128 := fun s h1 h2 => h.rest s (by omega) (by omega)
  have hhead : A'.see 0 = some (fl j.turn.toNat) := by
    rw [hsee, if_neg (by omega)]
    have := h.half.head
    rwa [hf] at this
  have hoth : turnA A' 256 < j.turn := by
    have := h.half.other
    rw [hf] at this
    rw [turnA_see (show A'.see 256 = A.see 256 by rw [hsee, if_neg (by omega)])]
    exact this
  have hAt : At A' (0 + 1) (secL (rks l at_)) := fun k s hk => by
    have hk2 := (List.getElem?_eq_some_iff.1 hk).1
    rw [secL_rks_len] at hk2
    rw [secL_rks, List.getElem?_map, List.getElem?_range hk2] at hk
    simp only [Option.map_some, Option.some.injEq] at hk
    rw [← hk, hsee, if_neg (by omega), sp_eq]
    exact hbody k (by omega)
  have hno : ∀ end_, rowA A' (1 + (at_ : Int)) end_ = Rw.no (1 + at_) := fun end_ => sq_row (l := l) (i := at_) (by omega) hq hm (by rw [hsee, if_pos rfl])
  have hlat := secL_rks_len l at_
  refine ⟨fun hlt => ?_, fun he => ?_⟩
  · have hown : turnA A' 0 = j.turn := by
      have h1 := h.half.t
      have := turnA_fl hhead (by omega) (by omega)
      omega
    have ht := h.half.t
    have p1 : pickF A' = 0 := by unfold pickF; rw [if_neg (by omega)]
    have p2 : pickT A' = j.turn := by unfold pickT; rw [if_neg (by omega)]; exact hown
    have hr : rowsE A' 0 = (rks l at_, 0 + 1 + ((secL (rks l at_)).length : Int)) := by
      unfold rowsE
      refine rows_from (rks_ok l (by omega)) 255 _ (by rw [rks_len]; omega) hAt (by rw [hlat]; omega) ?_
      rw [hlat, show (0 : Int) + 1 + at_ = 1 + at_ by omega, hno]
      rfl
    have hs : spoilt A' (0 + 1 + ((secL (rks l at_)).length : Int)) (0 + 256) = true := by
      unfold spoilt
      rw [hlat, List.any_eq_true]
      refine ⟨0, List.mem_range.2 (by omega), ?_⟩
      have := row_at (A := A') (p := 1 + ((at_ + 1 : Nat) : Int)) (end_ := 0 + 256) (rk_ok l (i := at_ + 1) (by omega)) (fun k s hk => by
        rw [secs_rk] at hk
        match k, hk with
        | 0, hk =>
          cases hk
          rw [hsee, if_neg (by omega), sp_eq, ← hbody (at_ + 1) (by omega)]
          congr 1) (by rw [rk_npc]; omega)
      rw [show (0 : Int) + 1 + at_ + 1 + ((0 : Nat) : Int) = 1 + ((at_ + 1 : Nat) : Int) by omega, this]
    unfold openP
    rw [if_neg (by rw [hc.on]; decide), p1, p2, if_neg (by omega), hr, if_pos hs]
  · have hH : Half A' ⟨0, 1 + at_, j.turn, false⟩ (rks l at_) := by
      refine ⟨hsm, .inl rfl, h.half.t, rfl, rks_ok l (by omega), by rw [hlat]; omega, by show (1 : Int) + at_ = 0 + 1 + _; rw [hlat]; omega, hhead, hAt, ?_, fun s h1 h2 => ?_, hoth⟩
      · show (rowA A' (1 + (at_ : Int)) _).ok = false
        rw [hno]
        rfl
      · have a1 : 1 + (at_ : Int) < s := h1
        have a2 : s < 0 + 256 := h2
        rw [hsee, if_neg (by omega), hrest s (by omega) (by omega)]
        exact dud_z
    obtain ⟨A2, h1, h2, h3⟩ := hH.open_calm hc hl
    exact ⟨A2, _, by rw [h1, he], h2.half.sm⟩
end Go.Proofs.Ytaigdbnfhehclaa
