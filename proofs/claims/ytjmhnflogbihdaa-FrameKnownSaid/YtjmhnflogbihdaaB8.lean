/- What is proved: the walk of the document's Get (layer 4). No condition. -/
import Derived.Test.YtjmhnflogbihdaaG1
namespace Go.Proofs.Ytjmhnflogbihdaa
open Go.RowKit

theorem RefPut_good {w : World} {ao : Option Addr} {n c : Nat} {l : List Nat} {k : Nat} (hl : Sl w ao n c (bts l)) (hs : Small l) (hn : n ≤ 400) (hk : 0 < k) (hk2 : k < 256) :
    Calls Try.prog 12 #[.int .i64 (k : Int), .slice ao n c] w (fun e w' => ∃ ao cap, e = .returned (.tuple #[.slice ao (n + 7) cap, .int .i64 0]) ∧ Below w.heap.size w w' ∧ w'.ownsRow w.heap.size 5 1 (.slice ao (n + 7) cap) (n + 7) (bts (fr k l))) := by
  have hln : l.length = n := by rw [← hl.len, bts_length]
  refine (RefPut_any k hl hs (by omega)).mono fun e w' ⟨a, cap, h1, h2, h3⟩ => ?_
  have he : putE (k : Int) l.length = 0 := by unfold putE; rw [if_neg (by omega), if_neg (by omega)]
  have hL : putL (k : Int) l = fr k l := by unfold putL; rw [if_pos he]; rfl
  rw [hL, fr_length, hln] at h3
  rw [he, hL, fr_length, hln] at h1
  exact ⟨a, cap, h1, h2, h3⟩

/-- The bytes are those that Put would make, just if the sum is right. -/
theorem same_iff {l : List Nat} (hs : Small l) {x0 : Nat} (h0 : l[0]? = some x0) (hn : gN l + 7 ≤ l.length) : (fr x0 ((l.drop 3).take (gN l)) = l.take (gN l + 7)) ↔ num ((l.drop (3 + gN l)).take 4) = csum (l.take (3 + gN l)) := by
  match l, hs, h0, hn with
  | [], _, h0, _ => simp at h0
  | [_], _, _, hn => simp at hn
  | [_, _], _, _, hn => simp at hn
  | y0 :: x1 :: x2 :: q, hs, h0, hn =>
    obtain rfl : y0 = x0 := by simpa using h0
    have h1 : x1 < 256 := hs x1 (by simp)
    have h2 : x2 < 256 := hs x2 (by simp)
    have hq : Small q := fun y hy => hs y (by simp [hy])
    have hN : gN (y0 :: x1 :: x2 :: q) = x1 + 256 * x2 := by show x1 + 256 * (x2 + 256 * 0) = _; omega
    generalize hNN : gN (y0 :: x1 :: x2 :: q) = N at *
    have hlen : N + 4 ≤ q.length := by simp only [List.length_cons] at hn; omega
    have e0 : ((y0 :: x1 :: x2 :: q).drop 3).take N = q.take N := rfl
    have e1 : (y0 :: x1 :: x2 :: q).drop (3 + N) = q.drop N := by rw [Nat.add_comm]; rfl
    have e2 : (y0 :: x1 :: x2 :: q).take (3 + N) = hd y0 (q.take N) := by
      rw [Nat.add_comm]
      show y0 :: x1 :: x2 :: q.take N = _
      unfold hd
      rw [List.length_take, Nat.min_eq_left (by omega)]
      congr 2 <;> (try congr 1) <;> omega
    have e3 : (y0 :: x1 :: x2 :: q).take (N + 7) = hd y0 (q.take N) ++ (q.drop N).take 4 := by
      have : (y0 :: x1 :: x2 :: q).take (N + 7) = (y0 :: x1 :: x2 :: q).take (3 + N) ++ ((y0 :: x1 :: x2 :: q).drop (3 + N)).take 4 := by
        rw [← List.take_add, show 3 + N + 4 = N + 7 by omega]
      rw [this, e1, e2]
    rw [e0, e1, e2, e3]
    unfold fr
    have ht : Small ((q.drop N).take 4) := (hq.drop N).take 4
    have htl : ((q.drop N).take 4).length = 4 := by rw [List.length_take, List.length_drop]; omega
    have hc := csum_lt (hd y0 (q.take N))
    constructor
    · intro h
      have h4 := List.append_cancel_left h
      rw [← h4, num_les]
      show _ % 256 ^ 4 = _
      omega
    · intro h
      have h5 := les_num _ ht
      rw [htl, h] at h5
      rw [h5]

theorem getE_last {l : List Nat} {x0 : Nat} (h3 : 3 ≤ l.length) (h0 : l[0]? = some x0) (hz : ¬ x0 = 0) (h4 : gN l ≤ 400) (h5 : gN l + 7 ≤ l.length) : getE l = if num ((l.drop (3 + gN l)).take 4) = csum (l.take (3 + gN l)) then 0 else 6 := by
  unfold getE
  rw [if_neg (by omega), h0, if_neg (by simpa using hz), if_neg (by omega), if_neg (by omega)]
  by_cases h : num ((l.drop (3 + gN l)).take 4) = csum (l.take (3 + gN l))
  · rw [if_neg (by simpa using h), if_pos h]
  · rw [if_pos h, if_neg h]

theorem gN_of {l : List Nat} {x1 x2 : Nat} (h1 : l[1]? = some x1) (h2 : l[2]? = some x2) : gN l = x1 + 256 * x2 := by
  match l, h1, h2 with
  | [], h1, _ => simp at h1
  | [_], h1, _ => simp at h1
  | [_, _], _, h2 => simp at h2
  | _ :: y1 :: y2 :: _, h1, h2 =>
    obtain rfl : y1 = x1 := by simpa using h1
    obtain rfl : y2 = x2 := by simpa using h2
    show y1 + 256 * (y2 + 256 * 0) = _
    omega
end Go.Proofs.Ytjmhnflogbihdaa
