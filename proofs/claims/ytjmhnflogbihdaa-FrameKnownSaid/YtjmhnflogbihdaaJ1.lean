/- What is proved: of frames, one behind the other, cut anywhere, just those are told that are whole (plain). No condition. -/
import Derived.Test.YtjmhnflogbihdaaH6
namespace Go.Proofs.Ytjmhnflogbihdaa
open Go.RowKit

def cat (S : List (Nat × List Nat)) : List Nat := S.flatMap fun p => fr p.1 p.2
def tells (S : List (Nat × List Nat)) : List (Int × List Nat) := S.map fun p => ((p.1 : Int), p.2)
def Good (S : List (Nat × List Nat)) : Prop := ∀ p ∈ S, 0 < p.1 ∧ p.1 < 256 ∧ p.2.length ≤ 400 ∧ Small p.2
/-- Where the frame of that number begins. -/
def pos (S : List (Nat × List Nat)) (m : Nat) : Nat := (cat (S.take m)).length

theorem cat_append (S T : List (Nat × List Nat)) : cat (S ++ T) = cat S ++ cat T := by simp [cat]
theorem cat_split (S : List (Nat × List Nat)) (m : Nat) : cat S = cat (S.take m) ++ cat (S.drop m) := by rw [← cat_append, List.take_append_drop]
theorem cat_cons (p : Nat × List Nat) (S : List (Nat × List Nat)) : cat (p :: S) = fr p.1 p.2 ++ cat S := by simp [cat]
theorem Good.small {S : List (Nat × List Nat)} (h : Good S) : Small (cat S) := by
  intro x hx
  simp only [cat, List.mem_flatMap] at hx
  obtain ⟨p, hp, hx⟩ := hx
  obtain ⟨_, h2, h3, h4⟩ := h p hp
  exact fr_small h2 h3 h4 x hx
theorem pos_succ {S : List (Nat × List Nat)} {m : Nat} {p : Nat × List Nat} (h : S[m]? = some p) : pos S (m + 1) = pos S m + (p.2.length + 7) := by
  unfold pos
  rw [List.take_add_one, h, cat_append, List.length_append]
  show _ + (cat [p]).length = _
  rw [cat_cons, List.length_append, fr_length]
  rfl
theorem pos_le (S : List (Nat × List Nat)) (m : Nat) : pos S m ≤ (cat S).length := by
  rw [cat_split S m, List.length_append]; exact Nat.le_add_right _ _
theorem pos_all (S : List (Nat × List Nat)) : pos S S.length = (cat S).length := by unfold pos; rw [List.take_length]
theorem drop_pos (S : List (Nat × List Nat)) (m cut : Nat) : ((cat S).take cut).drop (pos S m) = (cat (S.drop m)).take (cut - pos S m) := by
  rw [List.drop_take, cat_split S m]
  congr 1
  exact List.drop_left

/-- The frames that are whole are told, one behind the other. -/
theorem torn_goes {S : List (Nat × List Nat)} (hS : Good S) {cut : Nat} : ∀ m, m ≤ S.length → pos S m ≤ cut → goes ((cat S).take cut) m ∧ stP ((cat S).take cut) m = pos S m ∧ stF ((cat S).take cut) m = tells (S.take m)
  | 0, _, _ => ⟨fun j hj => absurd hj (by omega), rfl, rfl⟩
  | m + 1, hm, hc => by
    obtain ⟨p, hp⟩ : ∃ p, S[m]? = some p := ⟨_, List.getElem?_eq_getElem (by omega)⟩
    have hpos := pos_succ hp
    obtain ⟨h1, h2, h3⟩ := torn_goes hS (cut := cut) m (by omega) (by omega)
    obtain ⟨k1, k2, k3, k4⟩ := hS p (List.mem_of_getElem? hp)
    have hd : ((cat S).take cut).drop (pos S m) = fr p.1 p.2 ++ (cat (S.drop (m + 1))).take (cut - pos S (m + 1)) := by
      rw [drop_pos S m cut]
      have e : S.drop m = p :: S.drop (m + 1) := by rw [List.drop_eq_getElem_cons (show m < S.length by omega)]; congr 1; exact (List.getElem?_eq_some_iff.1 hp).2
      rw [e, cat_cons, List.take_append, fr_length, List.take_of_length_le (by rw [fr_length]; omega)]
      congr 2
      omega
    have hE : getE (((cat S).take cut).drop (stP ((cat S).take cut) m)) = 0 := by rw [h2, hd]; exact getE_fr k1 k3 _
    refine ⟨goes_succ h1 hE, ?_, ?_⟩
    · show stP _ m + (gN (((cat S).take cut).drop (stP ((cat S).take cut) m)) + 7) = _
      rw [h2, hd, fr_cons, gN_cons, hpos]
    · show stF _ m ++ [(getK (((cat S).take cut).drop (stP ((cat S).take cut) m)), getB (((cat S).take cut).drop (stP ((cat S).take cut) m)))] = _
      rw [h2, h3, hd, getK_fr k1 k3, getB_fr k1 k3, List.take_add_one, hp]
      simp [tells]
theorem torn_end {S : List (Nat × List Nat)} (hS : Good S) {cut m : Nat} (hm : m ≤ S.length) (hc : pos S m ≤ cut) (hend : m = S.length ∨ cut < pos S (m + 1)) : getE (((cat S).take cut).drop (stP ((cat S).take cut) m)) ≠ 0 := by
  obtain ⟨_, h2, _⟩ := torn_goes hS m hm hc
  rw [h2, drop_pos S m cut]
  by_cases h : m = S.length
  · subst h
    rw [List.drop_length]
    show getE (([] : List Nat).take _) ≠ 0
    rw [List.take_nil]
    decide
  · have hcut : cut < pos S (m + 1) := hend.resolve_left h
    obtain ⟨p, hp⟩ : ∃ p, S[m]? = some p := ⟨_, List.getElem?_eq_getElem (by omega)⟩
    have hpos := pos_succ hp
    obtain ⟨k1, k2, k3, k4⟩ := hS p (List.mem_of_getElem? hp)
    have e : S.drop m = p :: S.drop (m + 1) := by rw [List.drop_eq_getElem_cons (show m < S.length by omega)]; congr 1; exact (List.getElem?_eq_some_iff.1 hp).2
    rw [e, cat_cons, List.take_append_of_le_length (by rw [fr_length]; omega), getE_cut k1 k3 (by omega)]
    decide
/-- What is told: so many frames, so many bytes. -/
theorem torn_told {S : List (Nat × List Nat)} (hS : Good S) {cut m i : Nat} (hm : m ≤ S.length) (hc : pos S m ≤ cut) (hend : m = S.length ∨ cut < pos S (m + 1)) (hgo : goes ((cat S).take cut) i) (hE : getE (((cat S).take cut).drop (stP ((cat S).take cut) i)) ≠ 0) :
    i = m ∧ stP ((cat S).take cut) i = pos S m ∧ stF ((cat S).take cut) i = tells (S.take m) := by
  obtain ⟨h1, h2, h3⟩ := torn_goes hS m hm hc
  obtain rfl := goes_end hgo h1 hE (torn_end hS hm hc hend)
  exact ⟨rfl, h2, h3⟩
end Go.Proofs.Ytjmhnflogbihdaa
