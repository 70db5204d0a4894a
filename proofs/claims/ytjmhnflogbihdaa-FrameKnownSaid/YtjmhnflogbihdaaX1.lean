/- What is proved: bits side by side that were turned change the sum (plain). No condition. -/
import Derived.Test.YtjmhnflogbihdaaG1
namespace Go.Proofs.Ytjmhnflogbihdaa
open Go.RowKit

theorem xor_zero_eq {a b : Nat} (h : a ^^^ b = 0) : a = b := by
  have h2 : a ^^^ b ^^^ b = 0 ^^^ b := by rw [h]
  rwa [Nat.xor_assoc, Nat.xor_self, Nat.xor_zero, Nat.zero_xor] at h2
theorem rep_in (n w : Nat) : Nat.repeat cstep (n + 1) w = Nat.repeat cstep n (cstep w) := by
  induction n with
  | zero => rfl
  | succ n ih => exact congrArg cstep ih
theorem rep_add (m n w : Nat) : Nat.repeat cstep (m + n) w = Nat.repeat cstep m (Nat.repeat cstep n w) := by
  induction n generalizing w with
  | zero => rfl
  | succ n ih => rw [← Nat.add_assoc, rep_in, ih, rep_in]
theorem cstep_xor (a b : Nat) : cstep (a ^^^ b) = cstep a ^^^ cstep b := by
  unfold cstep
  rw [Nat.xor_div_two]
  have h : (a ^^^ b) % 2 = (a + b) % 2 := by
    have := @Nat.xor_mod_two_eq_one a b
    omega
  rcases Nat.mod_two_eq_zero_or_one a with ha | ha <;> rcases Nat.mod_two_eq_zero_or_one b with hb | hb
  · rw [if_neg (by omega), if_neg (by omega), if_neg (by omega)]; simp
  · rw [if_pos (by omega), if_neg (by omega), if_pos (by omega)]; simp [Nat.xor_assoc]
  · rw [if_pos (by omega), if_pos (by omega), if_neg (by omega)]; simp only [Nat.xor_zero]; ac_rfl
  · rw [if_neg (by omega), if_pos (by omega), if_pos (by omega)]
    have : a / 2 ^^^ turn ^^^ (b / 2 ^^^ turn) = a / 2 ^^^ b / 2 ^^^ (turn ^^^ turn) := by ac_rfl
    rw [this, Nat.xor_self]
theorem rep_xor (n a b : Nat) : Nat.repeat cstep n (a ^^^ b) = Nat.repeat cstep n a ^^^ Nat.repeat cstep n b := by
  induction n with
  | zero => rfl
  | succ n ih => show cstep _ = cstep _ ^^^ cstep _; rw [ih, cstep_xor]
theorem cstep_double (x : Nat) : cstep (2 * x) = x := by
  unfold cstep
  rw [if_neg (by omega), Nat.xor_zero]; omega
theorem rep_double (n x : Nat) : Nat.repeat cstep n (x * 2 ^ n) = x := by
  induction n with
  | zero => show x * 2 ^ 0 = x; omega
  | succ n ih => rw [rep_in, show x * 2 ^ (n + 1) = 2 * (x * 2 ^ n) by rw [Nat.pow_succ]; ac_rfl, cstep_double, ih]
theorem cstep_pos (w : Nat) (h : w < 4294967296) (h0 : 0 < w) : 0 < cstep w := by
  refine Nat.pos_of_ne_zero fun e => ?_
  unfold cstep at e
  split at e
  · have e2 := xor_zero_eq e
    unfold turn at e2; omega
  · rw [Nat.xor_zero] at e; omega
theorem rep_pos (n w : Nat) (h : w < 4294967296) (h0 : 0 < w) : 0 < Nat.repeat cstep n w := by
  induction n with
  | zero => exact h0
  | succ n ih => exact cstep_pos _ (crep_lt _ _ h) ih

theorem add_xor (i x y : Nat) (h : x < 2 ^ i) : x + 2 ^ i * y = x ^^^ (2 ^ i * y) := by
  refine Nat.eq_of_testBit_eq fun j => ?_
  rw [Nat.add_comm, Nat.testBit_two_pow_mul_add _ h, Nat.testBit_xor, Nat.testBit_two_pow_mul]
  by_cases hj : j < i
  · rw [if_pos hj]; simp [show ¬ i ≤ j by omega]
  · rw [if_neg hj, Nat.testBit_lt_two_pow (Nat.lt_of_lt_of_le h (Nat.pow_le_pow_right (by decide) (by omega)))]
    simp [show i ≤ j by omega]
theorem cfold_num (l : List Nat) (hl : Small l) (w : Nat) : l.foldl cbyte w = Nat.repeat cstep (8 * l.length) (w ^^^ num l) := by
  induction l generalizing w with
  | nil => show w = w ^^^ 0; rw [Nat.xor_zero]
  | cons x l ih =>
    have hx := hl x (by simp)
    rw [List.foldl_cons, ih fun y hy => hl y (by simp [hy])]
    have h8 : 8 * (x :: l).length = 8 * l.length + 8 := by rw [List.length_cons]; omega
    have e : num (x :: l) = x ^^^ (2 ^ 8 * num l) := (show num (x :: l) = x + 2 ^ 8 * num l from rfl).trans (add_xor 8 x _ hx)
    have e2 : cbyte w x = Nat.repeat cstep 8 (w ^^^ x) := rfl
    rw [h8, rep_add, e, e2, ← Nat.xor_assoc, rep_xor 8 (w ^^^ x), Nat.mul_comm (2 ^ 8), rep_double]
theorem creg_num (l : List Nat) (hl : Small l) : creg l = Nat.repeat cstep (8 * l.length) (4294967295 ^^^ num l) := cfold_num l hl _

/-- A burst of 32 bits at most changes the sum. -/
theorem csum_burst {l k : List Nat} (hl : Small l) (hk : Small k) (hlen : l.length = k.length) {x a : Nat} (hx : x < 4294967296) (h0 : 0 < x) (ha : a ≤ 8 * l.length) (h : num k = num l ^^^ (x * 2 ^ a)) : csum k ≠ csum l := by
  intro e
  have e2 : creg k = creg l := by
    have h1 := creg_lt k hk
    have h2 := creg_lt l hl
    unfold csum at e; omega
  rw [creg_num k hk, creg_num l hl, ← hlen, h, ← Nat.xor_assoc, rep_xor _ _ (x * 2 ^ a)] at e2
  have e3 : Nat.repeat cstep (8 * l.length) (x * 2 ^ a) = 0 := by
    have := congrArg (fun q => Nat.repeat cstep (8 * l.length) (4294967295 ^^^ num l) ^^^ q) e2
    simpa [← Nat.xor_assoc] using this
  obtain ⟨c, hc⟩ : ∃ c, 8 * l.length = c + a := ⟨8 * l.length - a, by omega⟩
  rw [hc, rep_add, rep_double] at e3
  have := rep_pos c x hx h0
  omega

theorem pow256 (j : Nat) : 256 ^ j = 2 ^ (8 * j) := by rw [Nat.pow_mul]
theorem num_take (l : List Nat) (hl : Small l) (j : Nat) : num (l.take j) = num l % 2 ^ (8 * j) := by
  induction j generalizing l with
  | zero => simp [num]; omega
  | succ j ih =>
    cases l with
    | nil => simp [num]
    | cons x l =>
      have hx := hl x (by simp)
      rw [List.take_succ_cons, num, num, ih l fun y hy => hl y (by simp [hy]), Nat.mul_add, Nat.mul_one, Nat.pow_add, Nat.mul_comm (2 ^ (8 * j)), Nat.mod_mul]
      have e1 : (x + 256 * num l) % 2 ^ 8 = x := by omega
      have e2 : (x + 256 * num l) / 2 ^ 8 = num l := by omega
      rw [e1, e2]
theorem num_drop (l : List Nat) (hl : Small l) (j : Nat) : num (l.drop j) = num l / 2 ^ (8 * j) := by
  induction j generalizing l with
  | zero => simp
  | succ j ih =>
    cases l with
    | nil => simp [num]
    | cons x l =>
      have hx := hl x (by simp)
      rw [List.drop_succ_cons, num, ih l fun y hy => hl y (by simp [hy]), Nat.mul_add, Nat.mul_one, Nat.pow_add, Nat.mul_comm (2 ^ (8 * j)), ← Nat.div_div_eq_div_mul]
      congr 1; omega
theorem num_inj {l k : List Nat} (hl : Small l) (hk : Small k) (hlen : l.length = k.length) (h : num l = num k) : l = k := by
  rw [← les_num l hl, ← les_num k hk, h, hlen]
theorem num_set (l : List Nat) (hl : Small l) (j x y : Nat) (hx : l[j]? = some x) (hy : y < 256) : num (l.set j (x ^^^ y)) = num l ^^^ (y * 2 ^ (8 * j)) := by
  induction l generalizing j with
  | nil => simp at hx
  | cons z l ih =>
    have hz := hl z (by simp)
    have e : num (z :: l) = z ^^^ (2 ^ 8 * num l) := (show num (z :: l) = z + 2 ^ 8 * num l from rfl).trans (add_xor 8 z _ hz)
    cases j with
    | zero =>
      obtain rfl : z = x := by simpa using hx
      have hzy : z ^^^ y < 2 ^ 8 := Nat.xor_lt_two_pow hz hy
      rw [List.set_cons_zero]
      have e2 : num ((z ^^^ y) :: l) = (z ^^^ y) ^^^ (2 ^ 8 * num l) := (show num ((z ^^^ y) :: l) = (z ^^^ y) + 2 ^ 8 * num l from rfl).trans (add_xor 8 _ _ hzy)
      rw [e, e2, show y * 2 ^ (8 * 0) = y by omega]
      ac_rfl
    | succ j =>
      rw [List.set_cons_succ]
      have e2 : num (z :: l.set j (x ^^^ y)) = z ^^^ (2 ^ 8 * num (l.set j (x ^^^ y))) := (show num (z :: l.set j (x ^^^ y)) = z + 2 ^ 8 * num (l.set j (x ^^^ y)) from rfl).trans (add_xor 8 _ _ hz)
      rw [e, e2, ih (fun q hq => hl q (by simp [hq])) j (by simpa using hx), Nat.xor_assoc]
      congr 1
      have h3 : 2 ^ 8 * (num l ^^^ y * 2 ^ (8 * j)) = 2 ^ 8 * num l ^^^ 2 ^ 8 * (y * 2 ^ (8 * j)) := by
        have := @Nat.shiftLeft_xor_distrib 8 (num l) (y * 2 ^ (8 * j))
        simpa [Nat.shiftLeft_eq, Nat.mul_comm] using this
      rw [h3]
      congr 1
      rw [Nat.mul_add, Nat.pow_add]
      simp only [Nat.mul_one]
      ac_rfl

/-- A frame of which bits were turned, all of them in its kind, or in its body, or in its sum, is not told. -/
theorem getE_turned {k : Nat} {l c : List Nat} (hk2 : k < 256) (hn : l.length ≤ 400) (hs : Small l) (hc : Small c) (hlen : c.length = l.length + 7) {x a m : Nat} (hx : x < 4294967296) (h0 : 0 < x) (hxm : x < 2 ^ m)
    (hin : a + m ≤ 8 ∨ (24 ≤ a ∧ a + m ≤ 24 + 8 * l.length) ∨ (24 + 8 * l.length ≤ a ∧ a + m ≤ 8 * (l.length + 7))) (h : num c = num (fr k l) ^^^ (x * 2 ^ a)) : getE c ≠ 0 := by
  intro he
  have hfs := fr_small hk2 hn hs
  have hhs := hd_small hk2 hn hs
  have hxa : x * 2 ^ a < 2 ^ (a + m) := by rw [Nat.pow_add, Nat.mul_comm]; exact Nat.mul_lt_mul_of_pos_left hxm (Nat.two_pow_pos a)
  have hbN : gN (fr k l) = l.length := by have := fr_cons k l []; rw [List.append_nil] at this; rw [this, gN_cons]
  have hxz : ∀ t, t ≤ a → (x * 2 ^ a) % 2 ^ t = 0 := fun t ht => by
    rw [show a = (a - t) + t by omega, Nat.pow_add, ← Nat.mul_assoc]; exact Nat.mul_mod_left _ _
  have hxd : ∀ t, a + m ≤ t → (x * 2 ^ a) / 2 ^ t = 0 := fun t ht => Nat.div_eq_of_lt (Nat.lt_of_lt_of_le hxa (Nat.pow_le_pow_right (by decide) ht))
  have hxt : ∀ t, a + m ≤ t → (x * 2 ^ a) % 2 ^ t = x * 2 ^ a := fun t ht => Nat.mod_eq_of_lt (Nat.lt_of_lt_of_le hxa (Nat.pow_le_pow_right (by decide) ht))
  have hxs : ∀ t, t ≤ a → (x * 2 ^ a) / 2 ^ t = x * 2 ^ (a - t) := fun t ht => by
    rw [show x * 2 ^ a = x * 2 ^ (a - t) * 2 ^ t by rw [Nat.mul_assoc, ← Nat.pow_add, show a - t + t = a by omega]]
    exact Nat.mul_div_cancel _ (Nat.two_pow_pos t)
  have hN : gN c = l.length := by
    rw [← hbN]
    unfold gN
    rw [num_take _ (hc.drop 1), num_take _ (hfs.drop 1), num_drop c hc, num_drop _ hfs, h, Nat.xor_div_two_pow, Nat.xor_mod_two_pow]
    have : (x * 2 ^ a) / 2 ^ (8 * 1) % 2 ^ (8 * 2) = 0 := by
      rcases hin with hin | hin | hin
      · rw [hxd _ (by omega)]
      · rw [hxs _ (by omega), show a - 8 * 1 = (a - 24) + 8 * 2 by omega, Nat.pow_add, ← Nat.mul_assoc]; exact Nat.mul_mod_left _ _
      · rw [hxs _ (by omega), show a - 8 * 1 = (a - 24) + 8 * 2 by omega, Nat.pow_add, ← Nat.mul_assoc]; exact Nat.mul_mod_left _ _
    rw [this, Nat.xor_zero]
  have hsum : num ((c.drop (3 + l.length)).take 4) = csum (c.take (3 + l.length)) := by
    unfold getE at he
    rw [hN] at he
    (repeat' split at he) <;> first | (cases he; done) | (rename_i hh; exact Classical.not_not.1 hh)
  have hM : (c.take (3 + l.length)).length = (hd k l).length := by rw [List.length_take, hd_length]; omega
  have htake : num (c.take (3 + l.length)) = num (hd k l) ^^^ (x * 2 ^ a) % 2 ^ (8 * (3 + l.length)) := by
    rw [num_take c hc, h, Nat.xor_mod_two_pow, ← num_take _ hfs]
    congr 2
    unfold fr
    rw [show 3 + l.length = (hd k l).length by rw [hd_length]; omega, List.take_left]
  have hdrop : num ((c.drop (3 + l.length)).take 4) = csum (hd k l) ^^^ (x * 2 ^ a) / 2 ^ (8 * (3 + l.length)) := by
    have h4 : ((c.drop (3 + l.length)).take 4) = c.drop (3 + l.length) := List.take_of_length_le (by rw [List.length_drop]; omega)
    rw [h4, num_drop c hc, h, Nat.xor_div_two_pow, ← num_drop _ hfs]
    congr 1
    have : (fr k l).drop (3 + l.length) = les (csum (hd k l)) 4 := by unfold fr; rw [show 3 + l.length = (hd k l).length by rw [hd_length]; omega, List.drop_left]
    rw [this, num_les]
    exact Nat.mod_eq_of_lt (csum_lt _)
  by_cases hin2 : a + m ≤ 8 * (3 + l.length)
  · rw [hdrop, hxd _ hin2, Nat.xor_zero] at hsum
    rw [hxt _ hin2] at htake
    exact csum_burst hhs (hc.take _) hM.symm hx h0 (by rw [hd_length]; omega) htake hsum.symm
  · have ha : 8 * (3 + l.length) ≤ a := by omega
    rw [hxz _ ha, Nat.xor_zero] at htake
    have hhd := num_inj (hc.take _) hhs hM htake
    rw [hhd, hdrop, hxs _ ha] at hsum
    have : x * 2 ^ (a - 8 * (3 + l.length)) = 0 := by
      have := congrArg (fun q => csum (hd k l) ^^^ q) hsum
      simpa [← Nat.xor_assoc] using this
    have hp := Nat.two_pow_pos (a - 8 * (3 + l.length))
    rcases Nat.mul_eq_zero.1 this with h1 | h1 <;> omega
end Go.Proofs.Ytjmhnflogbihdaa
