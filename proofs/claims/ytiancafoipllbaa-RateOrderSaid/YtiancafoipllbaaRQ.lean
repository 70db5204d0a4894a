/- What is proved: the plain law of medians: the middle one of those in order is the least one that so many are not above; words of right rates in their order. No condition but those each law names. -/
import Derived.Test.YtiancafoipllbaaRO
import Derived.Test.YtiancafoipllbaaRC
import Derived.Test.YtiancafoipllbaaRB
namespace Go.Proofs.Ytiancafoipllbaa
open Go.RowKit Fl Ieee Go.Sort

theorem order_NEGl (b : Nat) : double.order NEG b = double.order 0 b := by
  unfold Format.order
  rw [read_NEG, read_zero]
  cases double.read b with
  | number n m p => show some (compare (signed true 0 _) _) = some (compare (signed false 0 _) _); unfold signed; simp
  | infinity n => rfl
  | nan n t => rfl
theorem order_NEGr (b : Nat) : double.order b NEG = double.order b 0 := by
  unfold Format.order
  rw [read_NEG, read_zero]
  cases double.read b with
  | number n m p => show some (compare _ (signed true 0 _)) = some (compare _ (signed false 0 _)); unfold signed; simp
  | infinity n => rfl
  | nan n t => rfl
theorem vz_lt {a : Nat} (h : okW a) : vz a < INF := Nat.lt_of_le_of_lt (vz_le h) W6_lt
theorem order_vz {a b : Nat} (ha : okW a) (hb : okW b) : double.order a b = some (compare (vz a) (vz b)) := by
  have ea : double.order a b = double.order (vz a) b := by
    by_cases h : a = NEG
    · subst h; exact order_NEGl b
    · unfold vz; rw [if_neg h]
  have eb : double.order (vz a) b = double.order (vz a) (vz b) := by
    by_cases h : b = NEG
    · subst h; exact order_NEGr _
    · rw [show vz b = b from if_neg h]
  rw [ea, eb, order_fin (vz_lt ha) (vz_lt hb)]
theorem leB_vz {a b : Nat} (ha : okW a) (hb : okW b) : leB a b = decide (vz a ≤ vz b) := by
  unfold leB
  rw [order_vz ha hb]
  rcases Nat.lt_trichotomy (vz a) (vz b) with h | h | h
  · rw [Nat.compare_eq_lt.2 h, decide_eq_true (by omega)]; rfl
  · rw [Nat.compare_eq_eq.2 h, decide_eq_true (by omega)]; rfl
  · rw [Nat.compare_eq_gt.2 h, decide_eq_false (by omega)]; rfl
theorem geB_vz {a b : Nat} (ha : okW a) (hb : okW b) : geB a b = decide (vz b ≤ vz a) := by
  unfold geB
  rw [order_vz ha hb]
  rcases Nat.lt_trichotomy (vz a) (vz b) with h | h | h
  · rw [Nat.compare_eq_lt.2 h, decide_eq_false (by omega)]; rfl
  · rw [Nat.compare_eq_eq.2 h, decide_eq_true (by omega)]; rfl
  · rw [Nat.compare_eq_gt.2 h, decide_eq_true (by omega)]; rfl
theorem ltB_vz {a b : Nat} (ha : okW a) (hb : okW b) : ltB a b = decide (vz a < vz b) := by
  unfold ltB
  rw [order_vz ha hb]
  rcases Nat.lt_trichotomy (vz a) (vz b) with h | h | h
  · rw [Nat.compare_eq_lt.2 h, decide_eq_true (by omega)]; rfl
  · rw [Nat.compare_eq_eq.2 h, decide_eq_false (by omega)]; rfl
  · rw [Nat.compare_eq_gt.2 h, decide_eq_false (by omega)]; rfl
theorem eqB_vz {a b : Nat} (ha : okW a) (hb : okW b) : eqB a b = decide (vz a = vz b) := by
  unfold eqB
  rw [order_vz ha hb]
  rcases Nat.lt_trichotomy (vz a) (vz b) with h | h | h
  · rw [Nat.compare_eq_lt.2 h, decide_eq_false (by omega)]; rfl
  · rw [Nat.compare_eq_eq.2 h, decide_eq_true (by omega)]; rfl
  · rw [Nat.compare_eq_gt.2 h, decide_eq_false (by omega)]; rfl
theorem okW_zero : okW 0 := .inl (Nat.zero_le _)
theorem okW_W6 : okW W6 := .inl (Nat.le_refl _)
theorem vz_W6 : vz W6 = W6 := vz_fin (Nat.le_refl _)
theorem plainW_vz {r : Nat} (h : okW r) : plainW r = vz r := by
  unfold plainW
  rw [eqB_vz h okW_zero]
  have e0 : vz 0 = 0 := by decide
  rw [e0]
  by_cases h0 : r = NEG
  · subst h0
    have : vz NEG = 0 := if_pos rfl
    rw [this, if_pos (by decide)]
  · rw [show vz r = r from if_neg h0]
    split
    · rename_i h; exact (of_decide_eq_true h).symm
    · rfl
/-- The words of those that are right. -/
def oks (zs : List Nat) : List Nat := zs.filter okB
theorem oks_ok {zs : List Nat} (h : ∀ z ∈ zs, z < 2 * NEG) : ∀ z ∈ oks zs, okW z := fun z hz => by
  obtain ⟨h1, h2⟩ := List.mem_filter.1 hz
  exact okB_ok (h z h1) h2
theorem rights_oks {zs : List Nat} (h : ∀ z ∈ zs, z < 2 * NEG) : rights zs = (oks zs).map vz :=
  List.map_congr_left fun z hz => plainW_vz (oks_ok h z hz)

/-- How many are not above x. -/
def cnt (V : List Nat) (x : Nat) : Nat := V.countP (· ≤ x)
def bestF (n : Nat) (V : List Nat) (b : Nat) (x : Nat) : Nat := if n ≤ 2 * cnt V x ∧ x < b then x else b
theorem best_le (n : Nat) (V : List Nat) : ∀ (L : List Nat) (b : Nat), L.foldl (bestF n V) b ≤ b ∧ (∀ x ∈ L, n ≤ 2 * cnt V x → L.foldl (bestF n V) b ≤ x) ∧ (L.foldl (bestF n V) b = b ∨ (L.foldl (bestF n V) b ∈ L ∧ n ≤ 2 * cnt V (L.foldl (bestF n V) b)))
  | [], b => ⟨Nat.le_refl _, fun x hx => (by simp at hx), .inl rfl⟩
  | x :: L, b => by
    obtain ⟨h1, h2, h3⟩ := best_le n V L (bestF n V b x)
    rw [List.foldl_cons]
    have hb : bestF n V b x ≤ b ∧ (n ≤ 2 * cnt V x → bestF n V b x ≤ x) ∧ (bestF n V b x = b ∨ (bestF n V b x = x ∧ n ≤ 2 * cnt V x)) := by
      unfold bestF
      split
      · rename_i h; exact ⟨by omega, fun _ => Nat.le_refl _, .inr ⟨rfl, h.1⟩⟩
      · rename_i h; exact ⟨Nat.le_refl _, fun h4 => by omega, .inl rfl⟩
    refine ⟨by omega, fun y hy hn => ?_, ?_⟩
    · rcases List.mem_cons.1 hy with rfl | hy
      · exact Nat.le_trans h1 (hb.2.1 hn)
      · exact h2 y hy hn
    · rcases h3 with h3 | ⟨h3, h4⟩
      · rw [h3]
        rcases hb.2.2 with h5 | ⟨h5, h6⟩
        · exact .inl h5
        · refine .inr ⟨by rw [h5]; exact List.mem_cons_self .., by rw [h5]; exact h6⟩
      · exact .inr ⟨List.mem_cons_of_mem _ h3, h4⟩
theorem cnt_lo {ys : List Nat} (hs : ys.Pairwise (· ≤ ·)) {m : Nat} (hm : m < ys.length) {x : Nat} (hx : x < ys[m]) : cnt ys x ≤ m := by
  unfold cnt
  rw [← List.take_append_drop m ys, List.countP_append]
  have h2 : (ys.drop m).countP (· ≤ x) = 0 := by
    rw [List.countP_eq_zero]
    intro y hy
    obtain ⟨i, hi, rfl⟩ := List.getElem_of_mem hy
    rw [List.getElem_drop] at *
    have hlen : m + i < ys.length := by rw [List.length_drop] at hi; omega
    have : ys[m] ≤ ys[m + i] := by
      rcases Nat.eq_zero_or_pos i with rfl | h0
      · exact Nat.le_refl _
      · exact List.pairwise_iff_getElem.1 hs m (m + i) hm hlen (by omega)
    simp only [decide_eq_true_eq]
    omega
  rw [h2]
  have := List.countP_le_length (p := fun y => decide (y ≤ x)) (l := ys.take m)
  rw [List.length_take] at this
  omega
theorem cnt_hi {ys : List Nat} (hs : ys.Pairwise (· ≤ ·)) {m : Nat} (hm : m < ys.length) : m + 1 ≤ cnt ys ys[m] := by
  unfold cnt
  have e : (ys.take (m + 1)).countP (· ≤ ys[m]) = m + 1 := by
    rw [List.countP_eq_length.2, List.length_take, Nat.min_eq_left (by omega)]
    intro y hy
    obtain ⟨i, hi, rfl⟩ := List.getElem_of_mem hy
    rw [List.length_take] at hi
    rw [List.getElem_take]
    simp only [decide_eq_true_eq]
    rcases Nat.lt_or_ge i m with h | h
    · exact List.pairwise_iff_getElem.1 hs i m (by omega) hm h
    · have : i = m := by omega
      subst this
      exact Nat.le_refl _
  calc m + 1 = (ys.take (m + 1)).countP (· ≤ ys[m]) := e.symm
    _ ≤ ys.countP (· ≤ ys[m]) := List.Sublist.countP_le (List.take_sublist _ _)
theorem best_med {V ys : List Nat} (hp : ys.Perm V) (hs : ys.Pairwise (· ≤ ·)) (hV : ∀ x ∈ V, x ≤ W6) (h0 : V ≠ []) : V.foldl (bestF V.length V) W6 = medW ys := by
  have hl : ys.length = V.length := hp.length_eq
  have hn : V.length ≠ 0 := fun e => h0 (List.eq_nil_of_length_eq_zero e)
  have hm : (ys.length - 1) / 2 < ys.length := by omega
  have e : medW ys = ys[(ys.length - 1) / 2] := by
    unfold medW
    rw [if_neg (by omega), List.getElem?_eq_getElem hm]
    rfl
  have hc : ∀ x, cnt V x = cnt ys x := fun x => (hp.countP_eq _).symm
  obtain ⟨h1, h2, h3⟩ := best_le V.length V V W6
  have hmem : ys[(ys.length - 1) / 2] ∈ V := hp.mem_iff.1 (List.getElem_mem hm)
  have hq := cnt_hi hs hm
  have hle := h2 _ hmem (by rw [hc]; omega)
  have hge : ys[(ys.length - 1) / 2] ≤ V.foldl (bestF V.length V) W6 := by
    rcases h3 with h3 | ⟨_, h4⟩
    · rw [h3]; exact hV _ hmem
    · apply Nat.le_of_not_lt
      intro hlt
      have := cnt_lo hs hm hlt
      rw [hc] at h4
      omega
  rw [e]
  omega
/-- What the sort makes of the words that are right. -/
theorem sorts_rights {zs : List Nat} (h : ∀ z ∈ zs, z < 2 * NEG) (hl : zs.length < 4611686018427387904) : ∃ ys, SortsAt (rights zs) ys ∧ ys.Perm (rights zs) ∧ ys.Pairwise (· ≤ ·) := by
  obtain ⟨fs, hf⟩ := rights_fn h
  have hlen : fs.length < 4611686018427387904 := by
    have := rights_length zs
    rw [← hf, List.length_map] at this
    omega
  refine ⟨(sortL fs).map (·.1), ?_, ?_, ?_⟩
  · rw [← hf]; exact sorts_any fs hlen
  · rw [← hf]; exact (List.mergeSort_perm _ _).map _
  · rw [List.pairwise_map]
    refine (List.pairwise_mergeSort (le := fun x y => !ltF y x) ?_ ?_ fs).imp ?_
    · intro a b c h1 h2
      simp only [Bool.not_eq_true'] at h1 h2 ⊢
      exact swoF.ntrans c b a h2 h1
    · intro a b
      cases h : ltF b a with
      | false => simp
      | true =>
        have : ltF a b = false := decide_eq_false (by have := of_decide_eq_true h; omega)
        simp [this]
    · intro a b h
      simp only [Bool.not_eq_true'] at h
      have := of_decide_eq_false h
      omega
theorem sorted_same {xs ys : List Nat} (hp : xs.Perm ys) (hx : xs.Pairwise (· ≤ ·)) (hy : ys.Pairwise (· ≤ ·)) : xs = ys :=
  List.Perm.eq_of_pairwise (le := (· ≤ ·)) (fun _ _ _ _ h1 h2 => Nat.le_antisymm h1 h2) hx hy hp
end Go.Proofs.Ytiancafoipllbaa
