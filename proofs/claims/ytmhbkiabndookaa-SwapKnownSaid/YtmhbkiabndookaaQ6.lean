/- What is proved: every play of two swaps ends as layer 23's SwapEnds asks (plain). No program in sight. -/
import Derived.Test.YtmhbkiabndookaaQ5
namespace Go.Proofs.Ytmhbkiabndookaa
open Go.RowKit

theorem run_go {p : Py} {a0 a1 : Nat → Bool} (c : Tm) {stA stB : Int} {kn : Bool} {l0 l1 : Lg} {sh : Bool} (a b : Nat) (A B : Int) (ea : (a : Int) = A) (eb : (b : Int) = B) (hab : A ≤ B) (ha : p.run a0 a1 a = c.py A stA stB kn l0 l1 sh)
    (h : ∀ k : Nat, A ≤ k → k < B → (c.py k stA stB kn l0 l1 sh).block (a0 k) (a1 k) = c.py ((k : Int) + 1) stA stB kn l0 l1 sh) : p.run a0 a1 b = c.py B stA stB kn l0 l1 sh := by
  subst ea; subst eb
  exact run_stay c _ _ _ _ _ _ a b (by omega) ha (fun k h1 h2 => h k (by omega) (by omega))
theorem run_step {p q r : Py} {a0 a1 : Nat → Bool} (a b : Nat) (hb : b = a + 1) (ha : p.run a0 a1 a = q) (h : q.block (a0 a) (a1 a) = r) : p.run a0 a1 b = r := by
  subst hb; exact run_one a ha h
def Tm.begin (c : Tm) : Py := c.py 0 1 1 false lg0 lg0 false

section
variable (c : Tm) (a0 a1 : Nat → Bool) (dn : Nat) (hd : (dn : Int) = c.t.depth)
include hd
theorem to_D (h0 : a0 0 = true) : c.begin.run a0 a1 dn = c.py c.t.depth 2 1 false c.lA lg0 false := by
  have b := c.bounds; have := c.d0; have := c.d1; have := c.y1; have := c.g1; have := c.y0; have := c.g0
  have r1 : c.begin.run a0 a1 1 = c.py 1 2 1 false c.lA lg0 false := run_step 0 1 rfl rfl (by rw [h0]; exact ph_start c _)
  exact run_go c 1 dn 1 c.t.depth rfl hd (by omega) r1 (fun k h1 h2 => ph_paid c k _ _ h1 (by omega) (fun _ => h2))
theorem to_lock (h0 : a0 0 = true) (h1 : a1 dn = true) : c.begin.run a0 a1 (2 * dn) = c.py (2 * c.t.depth) 2 2 false c.lA c.lB false := by
  have b := c.bounds; have := c.d0; have := c.d1; have := c.y1; have := c.g1; have := c.y0; have := c.g0
  have r1 := run_step (r := c.py (c.t.depth + 1) 2 2 false c.lA c.lB false) dn (dn + 1) rfl (to_D c a0 a1 dn hd h0) (by rw [h1]; exact ph_lock c _)
  exact run_go c (dn + 1) (2 * dn) (c.t.depth + 1) (2 * c.t.depth) (by omega) (by omega) (by omega) r1 (fun k h1 h2 => ph_both c k _ _ h1 (by omega) (fun _ => h2))
theorem to_claim (h0 : a0 0 = true) (h1 : a1 dn = true) (h2 : a0 (2 * dn) = true) : c.begin.run a0 a1 (2 * dn + 1) = c.py (2 * c.t.depth + 1) 3 2 false c.lA c.lB1 true :=
  run_step (2 * dn) (2 * dn + 1) rfl (to_lock c a0 a1 dn hd h0 h1) (by rw [h2]; exact ph_claim c _)
theorem to_J1 (h0 : a0 0 = true) (h1 : a1 dn = true) (h2 : a0 (2 * dn) = true) (ha : ∀ k, 2 * dn + 1 ≤ k → a0 k = true) (k : Nat) (hk : 2 * dn + 1 ≤ k) (hk' : k ≤ 1000) : J1 c k (c.begin.run a0 a1 k) := by
  refine run_from (fun k q => J1 c k q) (2 * dn + 1) 1000 ?_ (fun k q h3 h4 h5 => ?_) k hk hk'
  · rw [to_claim c a0 a1 dn hd h0 h1 h2]
    have := J1.start c
    rwa [show 2 * c.t.depth + 1 = ((2 * dn + 1 : Nat) : Int) by omega] at this ⊢
  · have := J1.step h5 (by omega) (by omega) (a1 k)
    rw [ha k h3]; exact this
theorem to_J0 (h0 : a0 0 = true) (h1 : a1 dn = true) (h2 : a0 (2 * dn) = true) (ha : ∀ k, 2 * dn + 1 ≤ k → a1 k = true) (k : Nat) (hk : 2 * dn + 2 ≤ k) (hk' : k ≤ 1000) : J0 c k (c.begin.run a0 a1 k) := by
  refine run_from (fun k q => J0 c k q) (2 * dn + 2) 1000 ?_ (fun k q h3 h4 h5 => ?_) k hk hk'
  · show J0 c ((2 * dn + 2 : Nat) : Int) ((c.begin.run a0 a1 (2 * dn + 1)).block _ (a1 (2 * dn + 1)))
    rw [to_claim c a0 a1 dn hd h0 h1 h2, ha _ (Nat.le_refl _), show ((2 * dn + 2 : Nat) : Int) = 2 * c.t.depth + 2 by omega]
    exact J0.start c _
  · have := J0.step h5 (by omega) (by omega) (a0 k)
    rw [ha k (by omega)]; exact this
/-- The Second sleeps before it locks: the First gets its money back. -/
theorem to_refA (h0 : ∀ k, a0 k = true) (h1 : ∀ k, dn ≤ k → a1 k = false) (k : Nat) (hk : c.t.long + c.t.depth + 1 ≤ k) (hk' : k ≤ 1000) : c.begin.run a0 a1 k = c.py k 5 1 false c.lAr lg0 false := by
  have b := c.bounds; have := c.d0; have := c.d1; have := c.y1; have := c.g1; have := c.y0; have := c.g0
  obtain ⟨ln, hl⟩ := Int.eq_ofNat_of_zero_le (show 0 ≤ c.t.long by omega)
  have r1 := run_go c dn ln c.t.depth c.t.long hd hl.symm (by omega) (to_D c a0 a1 dn hd (h0 0)) (fun k h3 h4 => ph_paid c k _ _ (by omega) h4 (fun h => by rw [h1 k (by omega)] at h; exact Bool.noConfusion h))
  have r2 := run_step (r := c.py (c.t.long + 1) 2 1 false c.lAr lg0 false) ln (ln + 1) rfl r1 (by rw [h0, h1 ln (by omega)]; exact ph_refA c)
  have r3 := run_go c (ln + 1) (ln + dn) (c.t.long + 1) (c.t.long + c.t.depth) (by omega) (by omega) (by omega) r2 (fun k h3 h4 => by rw [h0, h1 k (by omega)]; exact ph_refA_wait c k h3 h4)
  have r4 := run_step (r := c.py (c.t.long + c.t.depth + 1) 5 1 false c.lAr lg0 false) (ln + dn) (ln + dn + 1) rfl r3 (by rw [h0, h1 _ (by omega)]; exact ph_refA_end c)
  exact run_go c (ln + dn + 1) k (c.t.long + c.t.depth + 1) k (by omega) rfl hk r4 (fun k h3 h4 => by rw [h0, h1 k (by omega)]; exact ph_refA_over c k (by omega) (by omega))
/-- The First sleeps before it claims: the Second gets its money back. -/
theorem to_refB (h0 : a0 0 = true) (h1 : ∀ k, a1 k = true) (h2 : ∀ k, 2 * dn ≤ k → a0 k = false) (k : Nat) (hk : 3 * c.t.mar + c.t.depth + 1 ≤ k) (hk' : k ≤ 1000) : c.begin.run a0 a1 k = c.py k 2 5 false c.lA c.lBr false := by
  have b := c.bounds; have := c.d0; have := c.d1; have := c.y1; have := c.g1; have := c.y0; have := c.g0
  obtain ⟨mn, hm⟩ := Int.eq_ofNat_of_zero_le (show 0 ≤ 3 * c.t.mar by omega)
  have r1 := run_go c (2 * dn) mn (2 * c.t.depth) (3 * c.t.mar) (by omega) hm.symm (by omega) (to_lock c a0 a1 dn hd h0 (h1 _)) (fun k h3 h4 => ph_both c k _ _ (by omega) h4 (fun h => by rw [h2 k (by omega)] at h; exact Bool.noConfusion h))
  have r2 := run_step (r := c.py (3 * c.t.mar + 1) 2 2 false c.lA c.lBr false) mn (mn + 1) rfl r1 (by rw [h1, h2 mn (by omega)]; exact ph_refB c)
  have r3 := run_go c (mn + 1) (mn + dn) (3 * c.t.mar + 1) (3 * c.t.mar + c.t.depth) (by omega) (by omega) (by omega) r2 (fun k h3 h4 => by rw [h1, h2 k (by omega)]; exact ph_refB_wait c k h3 h4)
  have r4 := run_step (r := c.py (3 * c.t.mar + c.t.depth + 1) 2 5 false c.lA c.lBr false) (mn + dn) (mn + dn + 1) rfl r3 (by rw [h1, h2 _ (by omega)]; exact ph_refB_end c)
  exact run_go c (mn + dn + 1) k (3 * c.t.mar + c.t.depth + 1) k (by omega) rfl hk r4 (fun k h3 h4 => by rw [h1, h2 k (by omega)]; exact ph_refB_over c k (by omega) (by omega))
omit hd in
/-- The First sleeps from the beginning: the Second aborts. -/
theorem to_abort (h1 : ∀ k, a1 k = true) (h2 : ∀ k, a0 k = false) (k : Nat) (hk : c.P + 2 ≤ k) (hk' : k ≤ 1000) : c.begin.run a0 a1 k = c.py k 1 6 false lg0 lg0 false := by
  have b := c.bounds; have := c.d0; have := c.d1; have := c.y1; have := c.g1; have := c.y0; have := c.g0
  obtain ⟨pn, hp⟩ := Int.eq_ofNat_of_zero_le (show 0 ≤ c.P by omega)
  have r1 := run_go (p := c.begin) (a0 := a0) (a1 := a1) c 0 (pn + 1) 0 (c.P + 1) rfl (by omega) (by omega) rfl (fun k h3 h4 => by rw [h1, h2]; exact ph_idle c k h3 (by omega))
  have r2 := run_step (r := c.py (c.P + 1 + 1) 1 6 false lg0 lg0 false) (pn + 1) (pn + 2) rfl r1 (by rw [h1, h2]; exact ph_abort c _ (by omega) (by omega))
  exact run_go c (pn + 2) k (c.P + 1 + 1) k (by omega) rfl (by omega) r2 (fun k h3 h4 => by rw [h1, h2]; exact ph_aborted c k (by omega) (by omega))
end
end Go.Proofs.Ytmhbkiabndookaa
