/- What is proved: the law's 'known' answers true and leaves what lay there; Median's contract at floats that lie in memory. No condition but those each law names. -/
import Derived.Test.YtiancafoipllbaaRA
import Derived.Test.YtiancafoipllbaaR6
namespace Go.Proofs.Ytiancafoipllbaa
open Go.RowKit Fl Ieee
attribute [-go_sem] binOp_float_cmp_eql binOp_float_cmp_neq binOp_float_cmp_lss binOp_float_cmp_leq binOp_float_cmp_gtr binOp_float_cmp_geq
attribute [local go_sem] Fl.cmp_eql Fl.cmp_neq Fl.cmp_lss Fl.cmp_leq Fl.cmp_gtr Fl.cmp_geq
set_option maxRecDepth 100000

/-- Median's contract. -/
theorem median_any (zs ys : List Nat) (hS : SortsAt (rights zs) ys) (hlen : zs.length ≤ maxLen) (hbytes : zs.length * 8 ≤ 140737488351232) (v : Value) (w : World) (hL : Floats w.heap.size w v zs) :
    Calls Try.prog 11 #[v] w fun e W' => e = .returned (.tuple #[.float .f64 (medW ys), .int .i64 (medE ys)]) ∧ Below w.heap.size w W' := by
  have h : ∀ a len cap, v = .slice a len cap → Calls Try.prog 11 #[v] w fun e W' => e = .returned (.tuple #[.float .f64 (medW ys), .int .i64 (medE ys)]) ∧ Below w.heap.size w W' := fun a len cap hv => by
    subst hv
    have := median_in 3 (Nat.le_refl _) zs ys hS hlen hbytes a len cap w hL
    exact callsIn_wide.1 this
  rcases hL with ⟨_, _, rfl, _⟩ | ⟨b, off, cap, rfl, _⟩
  · exact h _ _ _ rfl
  · exact h _ _ _ rfl
/-- Words of finite floats, as such. -/
theorem fns (l : List Nat) (h : ∀ x ∈ l, x < INF) : ∃ fs : List Fn, fs.map (·.1) = l := by
  induction l with
  | nil => exact ⟨[], rfl⟩
  | cons x l ih =>
    obtain ⟨fs, hf⟩ := ih fun y hy => h y (List.mem_cons_of_mem _ hy)
    exact ⟨(⟨x, h x (List.mem_cons_self ..)⟩ : Fn) :: fs, congrArg (x :: ·) hf⟩
theorem plain_le {z : Nat} (h : okB z = true) (hz : z < 2 * NEG) : plainW z ≤ W6 := by
  rw [okB_eq hz] at h
  rcases of_decide_eq_true h with h | h
  · unfold plainW
    split
    · exact Nat.zero_le _
    · exact h
  · subst h
    decide +kernel
theorem rights_le {zs : List Nat} (h : ∀ z ∈ zs, z < 2 * NEG) : ∀ x ∈ rights zs, x ≤ W6 := fun x hx => by
  unfold rights at hx
  obtain ⟨z, hz, rfl⟩ := List.mem_map.1 hx
  obtain ⟨h1, h2⟩ := List.mem_filter.1 hz
  exact plain_le h2 (h z h1)
theorem rights_fn {zs : List Nat} (h : ∀ z ∈ zs, z < 2 * NEG) : ∃ fs : List Fn, fs.map (·.1) = rights zs :=
  fns _ fun x hx => Nat.lt_of_le_of_lt (rights_le h x hx) W6_lt
/-- What is in order already is what the sort makes. -/
theorem sortL_eq {fs gs : List Fn} (hp : gs.Perm fs) (hs : gs.Pairwise fun x y => (!ltF y x) = true) : sortL fs = gs := by
  refine List.Perm.eq_of_pairwise (le := fun x y => (!ltF y x) = true) ?_ ?_ hs ((List.mergeSort_perm _ _).trans hp.symm)
  · intro a b _ _ h1 h2
    simp only [Bool.not_eq_true'] at h1 h2
    exact Subtype.ext (by have := of_decide_eq_false h1; have := of_decide_eq_false h2; omega)
  · refine List.pairwise_mergeSort ?_ ?_ _
    · intro a b c h1 h2
      simp only [Bool.not_eq_true'] at h1 h2 ⊢
      exact swoF.ntrans c b a h2 h1
    · intro a b
      cases h : ltF b a with
      | false => simp
      | true =>
        have : ltF a b = false := decide_eq_false (by have := of_decide_eq_true h; omega)
        simp [this]
theorem known_sorts : SortsAt (rights [4613937818241073152, 9221120237041090561, 4607182418800017408, 13830554455654793216, 4611686018427387904, 9218868437227405312]) [4607182418800017408, 4611686018427387904, 4613937818241073152] := by
  have hr : rights [4613937818241073152, 9221120237041090561, 4607182418800017408, 13830554455654793216, 4611686018427387904, 9218868437227405312] = [4613937818241073152, 4607182418800017408, 4611686018427387904] := by decide +kernel
  obtain ⟨x1, h1⟩ : ∃ x : Fn, x.1 = 4607182418800017408 := ⟨⟨4607182418800017408, by decide⟩, rfl⟩
  obtain ⟨x2, h2⟩ : ∃ x : Fn, x.1 = 4611686018427387904 := ⟨⟨4611686018427387904, by decide⟩, rfl⟩
  obtain ⟨x3, h3⟩ : ∃ x : Fn, x.1 = 4613937818241073152 := ⟨⟨4613937818241073152, by decide⟩, rfl⟩
  have h := sorts_small [x3, x1, x2] (show 3 ≤ 12 by decide)
  have hs : sortL [x3, x1, x2] = [x1, x2, x3] := sortL_eq (by
    have a : [x1, x2, x3].Perm [x1, x3, x2] := (List.Perm.swap x3 x2 []).cons x1
    exact a.trans (List.Perm.swap x3 x1 [x2])) (by
    simp [List.pairwise_cons, ltF, h1, h2, h3])
  rw [hs] at h
  rw [hr]
  simpa [h1, h2, h3] using h
theorem known_fee (w : World) : Calls Try.prog 15 #[.float .f64 4602678819172646912, .int .i64 3] w fun e w' => e = .returned (.tuple #[.int .i64 2, .int .i64 0]) ∧ w' = w :=
  fee_ok _ 4609434218613702656 4611686018427387904 3 2 w (by decide +kernel) (by decide) (by decide) (by decide +kernel) (by decide +kernel) (by decide +kernel) (by decide +kernel)
theorem known_bump (w : World) : Calls Try.prog 17 #[.float .f64 0, .float .f64 4607182418800017408] w fun e w' => e = .returned (.tuple #[.float .f64 4562254508917369340, .int .i64 0]) ∧ w' = w := by
  have h := bump_ok 0 4607182418800017408 0 4562254508917369340 4562254508917369340 w (by decide +kernel) (by decide +kernel) (by decide +kernel) (by decide +kernel) (by decide +kernel)
  have e : plainW 4562254508917369340 = 4562254508917369340 := by decide +kernel
  rw [e] at h
  exact h
theorem known_check (w : World) : Calls Try.prog 16 #[.float .f64 9221120237041090561] w fun e w' => e = .returned (.int .i64 15) ∧ w' = w := by
  have h := check_any 9221120237041090561 w
  have e : chk 9221120237041090561 = 15 := by decide +kernel
  rw [e] at h
  exact h
theorem cell_row (w : World) (C : Array Value) (t : TypeId) (k : Nat) : (w.alloc (.cells C t)).cell? ⟨w.heap.size, k, none⟩ = C[k]? := by
  unfold World.cell?
  simp only [World.alloc, Array.getElem?_push_size]
  rfl
theorem known_med (w : World) : Calls Try.prog 11 #[.slice (some ⟨w.heap.size, 0, none⟩) 6 6] (w.alloc (.cells #[.float .f64 4613937818241073152, .float .f64 9221120237041090561, .float .f64 4607182418800017408, .float .f64 13830554455654793216, .float .f64 4611686018427387904, .float .f64 9218868437227405312] 24)) fun e w' =>
    e = .returned (.tuple #[.float .f64 4611686018427387904, .int .i64 0]) ∧ Below w.heap.size w w' := by
  have h := median_any _ _ known_sorts (by decide) (by decide) (.slice (some ⟨w.heap.size, 0, none⟩) 6 6) (w.alloc (.cells #[.float .f64 4613937818241073152, .float .f64 9221120237041090561, .float .f64 4607182418800017408, .float .f64 13830554455654793216, .float .f64 4611686018427387904, .float .f64 9218868437227405312] 24))
    (.inr ⟨w.heap.size, 0, 6, rfl, by simp, fun j hj => by
      have hj : j < 6 := hj
      rw [cell_row, Nat.zero_add]
      rcases j with _ | _ | _ | _ | _ | _ | j <;> first | rfl | omega⟩)
  refine h.mono ?_
  rintro _ W ⟨rfl, hB⟩
  exact ⟨rfl, ((Below.refl _ w).alloc (Nat.le_refl _) _).trans (hB.mono (by simp))⟩
set_option maxHeartbeats 1000000 in
theorem known_any (w : World) : Calls Try.prog 10 #[] w fun e w' => e = .returned (.bool true) ∧ Below w.heap.size w w' := by
  have k1 : eqB 4611686018427387904 4611686018427387904 = true := by decide +kernel
  have k2 : eqB 4562254508917369340 4562254508917369340 = true := by decide +kernel
  go_enter Try.func10, Try.ntmps10
  go_wp2_with (first
    | (go_at_call 15; refine (known_fee _).mono ?_; rintro _ _ ⟨rfl, rfl⟩)
    | (go_at_call 11; refine (known_med _).mono ?_; rintro _ W ⟨rfl, hB⟩)
    | (go_at_call 25; refine (nan_ext _).mono ?_; rintro _ _ ⟨rfl, rfl⟩)
    | (go_at_call 26; refine (inf_ext _).mono ?_; rintro _ _ ⟨rfl, rfl⟩)
    | (go_at_call 17; refine (known_bump _).mono ?_; rintro _ _ ⟨rfl, rfl⟩)
    | (go_at_call 16; refine (known_check _).mono ?_; rintro _ _ ⟨rfl, rfl⟩))
  go_ret
  exact ⟨rfl, hB⟩
end Go.Proofs.Ytiancafoipllbaa
