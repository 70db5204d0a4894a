/- What is proved: what frame.Get says of what frame.Put made (plain), and contracts for both at such bytes. No condition. -/
import Derived.Test.YtjmhnflogbihdaaB7
namespace Go.Proofs.Ytjmhnflogbihdaa
open Go.RowKit

theorem fr_cons (k : Nat) (l more : List Nat) : fr k l ++ more = k :: l.length % 256 :: l.length / 256 :: (l ++ (les (csum (hd k l)) 4 ++ more)) := by simp [fr, hd]

theorem gN_cons (k n : Nat) (q : List Nat) : gN (k :: n % 256 :: n / 256 :: q) = n := by
  show n % 256 + 256 * (n / 256 + 256 * 0) = n
  omega

theorem getE_fr {k : Nat} {l : List Nat} (hk : 0 < k) (hn : l.length ≤ 400) (more : List Nat) : getE (fr k l ++ more) = 0 := by
  have hN : gN (fr k l ++ more) = l.length := by rw [fr_cons, gN_cons]
  have hlen : (fr k l ++ more).length = l.length + 7 + more.length := by rw [List.length_append, fr_length]
  have ht : (fr k l ++ more).take (3 + l.length) = hd k l := by
    have : (fr k l ++ more) = hd k l ++ (les (csum (hd k l)) 4 ++ more) := by simp [fr]
    rw [this, show 3 + l.length = (hd k l).length by rw [hd_length]; omega, List.take_left]
  have hd4 : ((fr k l ++ more).drop (3 + l.length)).take 4 = les (csum (hd k l)) 4 := by
    have : (fr k l ++ more) = hd k l ++ (les (csum (hd k l)) 4 ++ more) := by simp [fr]
    rw [this, show 3 + l.length = (hd k l).length by rw [hd_length]; omega, List.drop_left]
    exact List.take_left' (les_length _ 4)
  have hz : ¬ (fr k l ++ more)[0]? = some 0 := by rw [fr_cons]; simp; omega
  unfold getE
  rw [if_neg (by omega), if_neg hz, hN, if_neg (by omega), if_neg (by omega), if_neg]
  rw [ht, hd4, num_les]
  have := csum_lt (hd k l)
  intro h
  apply h
  show csum (hd k l) % 256 ^ 4 = csum (hd k l)
  omega
theorem getB_fr {k : Nat} {l : List Nat} (hk : 0 < k) (hn : l.length ≤ 400) (more : List Nat) : getB (fr k l ++ more) = l := by
  unfold getB
  rw [if_pos (getE_fr hk hn more), fr_cons, gN_cons]
  simp
theorem getK_fr {k : Nat} {l : List Nat} (hk : 0 < k) (hn : l.length ≤ 400) (more : List Nat) : getK (fr k l ++ more) = k := by
  unfold getK
  rw [if_pos (getE_fr hk hn more), fr_cons]
  rfl
theorem getM_fr {k : Nat} {l : List Nat} (hk : 0 < k) (hn : l.length ≤ 400) (more : List Nat) : getM (fr k l ++ more) = (l.length : Int) + 7 := by
  unfold getM
  rw [if_pos (getE_fr hk hn more), fr_cons, gN_cons]
  rfl
theorem getE_cut {k : Nat} {l : List Nat} (hk : 0 < k) (hn : l.length ≤ 400) {i : Nat} (hi : i < l.length + 7) : getE ((fr k l).take i) = 4 := by
  have hlen : ((fr k l).take i).length = i := by rw [List.length_take, fr_length]; omega
  unfold getE
  by_cases h3 : i < 3
  · rw [if_pos (by omega)]
  · obtain ⟨j, rfl⟩ : ∃ j, i = j + 3 := ⟨i - 3, by omega⟩
    have e := fr_cons k l []
    rw [List.append_nil] at e
    have e2 : (fr k l).take (j + 3) = k :: l.length % 256 :: l.length / 256 :: (l ++ (les (csum (hd k l)) 4 ++ [])).take j := by rw [e]; rfl
    rw [if_neg (by omega), if_neg (by rw [e2]; simp; omega), e2, gN_cons, if_neg (by omega), if_pos]
    rw [← e2, hlen]; omega

/-- What Put says of a kind and a length that it refuses. -/
theorem Put_bad {w : World} {ao : Option Addr} {n c : Nat} {l : List Nat} {kind er : Int} (hl : Sl w ao n c (bts l)) (hs : Small l) (hn : n < 1099511627776) (he : putE kind l.length = er) (h0 : er ≠ 0) :
    Calls Try.prog 11 #[.int .i64 kind, .slice ao n c] w (fun e w' => ∃ ao cap, e = .returned (.tuple #[.slice ao 0 cap, .int .i64 er]) ∧ Below w.heap.size w w') := by
  refine (Put_any kind hl hs hn).mono fun e w' ⟨a, cap, h1, h2, h3⟩ => ⟨a, cap, ?_, h2⟩
  have : putL kind l = [] := by unfold putL; rw [if_neg (by rw [he]; exact h0)]
  rw [h1, this, he]
  rfl
theorem Put_good {w : World} {ao : Option Addr} {n c : Nat} {l : List Nat} {k : Nat} (hl : Sl w ao n c (bts l)) (hs : Small l) (hn : n ≤ 400) (hk : 0 < k) (hk2 : k < 256) :
    Calls Try.prog 11 #[.int .i64 (k : Int), .slice ao n c] w (fun e w' => ∃ ao cap, e = .returned (.tuple #[.slice ao (n + 7) cap, .int .i64 0]) ∧ Below w.heap.size w w' ∧ w'.ownsRow w.heap.size 5 1 (.slice ao (n + 7) cap) (n + 7) (bts (fr k l))) := by
  have hln : l.length = n := by rw [← hl.len, bts_length]
  refine (Put_any k hl hs (by omega)).mono fun e w' ⟨a, cap, h1, h2, h3⟩ => ?_
  have he : putE (k : Int) l.length = 0 := by unfold putE; rw [if_neg (by omega), if_neg (by omega)]
  have hL : putL (k : Int) l = fr k l := by unfold putL; rw [if_pos he]; rfl
  rw [hL, fr_length, hln] at h3
  rw [he, hL, fr_length, hln] at h1
  exact ⟨a, cap, h1, h2, h3⟩
/-- Get, of what Put made with something behind it. -/
theorem Get_good {w : World} {ao : Option Addr} {n m c : Nat} {l more : List Nat} {k : Nat} (hl : Sl w ao m c (bts (fr k l ++ more))) (hs : Small l) (hs' : Small more) (hm : m < 1099511627776) (hln : l.length = n) (hn : n ≤ 400) (hk : 0 < k) (hk2 : k < 256) :
    Calls Try.prog 17 #[.slice ao m c] w (fun e w' => ∃ ao cap, e = .returned (.tuple #[.agg #[.int .i64 (k : Int), .slice ao n cap], .int .i64 ((n : Int) + 7), .int .i64 0]) ∧ Below w.heap.size w w' ∧ w'.ownsRow w.heap.size 5 1 (.slice ao n cap) n (bts l)) := by
  refine (Get_any hl ((fr_small hk2 (by omega) hs).append hs') hm).mono fun e w' ⟨a, cap, h1, h2, h3⟩ => ?_
  rw [getB_fr hk (by omega), hln] at h3
  rw [getB_fr hk (by omega), getK_fr hk (by omega), getM_fr hk (by omega), getE_fr hk (by omega), hln] at h1
  exact ⟨a, cap, h1, h2, h3⟩
/-- Get, of bytes that are no frame. -/
theorem Get_bad {w : World} {ao : Option Addr} {n c : Nat} {l : List Nat} {er : Int} (hl : Sl w ao n c (bts l)) (hs : Small l) (hn : n < 1099511627776) (he : getE l = er) (h0 : er ≠ 0) :
    Calls Try.prog 17 #[.slice ao n c] w (fun e w' => ∃ ao cap, e = .returned (.tuple #[.agg #[.int .i64 0, .slice ao 0 cap], .int .i64 0, .int .i64 er]) ∧ Below w.heap.size w w') := by
  refine (Get_any hl hs hn).mono fun e w' ⟨a, cap, h1, h2, h3⟩ => ⟨a, cap, ?_, h2⟩
  have e1 : getB l = [] := by unfold getB; rw [if_neg (by rw [he]; exact h0)]
  have e2 : getK l = 0 := by unfold getK; rw [if_neg (by rw [he]; exact h0)]
  have e3 : getM l = 0 := by unfold getM; rw [if_neg (by rw [he]; exact h0)]
  rw [h1, e1, e2, e3, he]
  rfl
end Go.Proofs.Ytjmhnflogbihdaa
