/- What is proved: the walks of frame.Put and of the document's Put (layer 4). No condition. -/
import Derived.Test.YtjmhnflogbihdaaB3
namespace Go.Proofs.Ytjmhnflogbihdaa
open Go.RowKit

/-- A frame's kind, length and body. -/
def hd (k : Nat) (l : List Nat) : List Nat := k :: l.length % 256 :: l.length / 256 :: l
/-- A frame's bytes. -/
def fr (k : Nat) (l : List Nat) : List Nat := hd k l ++ les (csum (hd k l)) 4
def putE (kind : Int) (n : Nat) : Int := if kind < 1 ∨ 255 < kind then 2 else if 400 < n then 5 else 0
def putL (kind : Int) (l : List Nat) : List Nat := if putE kind l.length = 0 then fr kind.toNat l else []

theorem hd_small {k : Nat} {l : List Nat} (hk : k < 256) (hn : l.length ≤ 400) (hs : Small l) : Small (hd k l) := by
  intro x hx
  simp only [hd, List.mem_cons] at hx
  rcases hx with rfl | rfl | rfl | hx
  · exact hk
  · omega
  · omega
  · exact hs x hx
theorem hd_length (k : Nat) (l : List Nat) : (hd k l).length = l.length + 3 := rfl
theorem fr_length (k : Nat) (l : List Nat) : (fr k l).length = l.length + 7 := by simp [fr, hd_length, les_length]
theorem fr_small {k : Nat} {l : List Nat} (hk : k < 256) (hn : l.length ≤ 400) (hs : Small l) : Small (fr k l) := (hd_small hk hn hs).append (les_small _ _)

theorem putL_length (kind : Int) (l : List Nat) : (putL kind l).length ≤ l.length + 7 := by
  unfold putL
  split
  · rw [fr_length]
    exact Nat.le_refl _
  · simp

def RetP (kind : Int) (l : List Nat) (w : World) : Ending → World → Prop := fun e w' => ∃ ao cap, e = .returned (.tuple #[.slice ao (putL kind l).length cap, .int .i64 (putE kind l.length)]) ∧ Below w.heap.size w w' ∧ w'.ownsRow w.heap.size 5 1 (.slice ao (putL kind l).length cap) (putL kind l).length (bts (putL kind l))

theorem Put_any {w : World} {ao : Option Addr} {n c : Nat} {l : List Nat} (kind : Int) (hl : Sl w ao n c (bts l)) (hs : Small l) (hn : n < 1099511627776) : Calls Try.prog 11 #[.int .i64 kind, .slice ao n c] w (RetP kind l w) := by
  have hln : l.length = n := by rw [← hl.len, bts_length]
  by_cases h1 : kind < 1 ∨ 255 < kind
  · have e1 : putE kind l.length = 2 := if_pos h1
    have e2 : putL kind l = [] := by unfold putL; rw [e1]; rfl
    unfold RetP
    rw [e1, e2]
    rcases h1 with h1 | h1
    · go_enter Try.func11, Try.ntmps11
      go_wp2
      go_ret2
      exact ⟨none, 0, rfl, Below.refl _ _, World.ownsRow_nil _ _ _ _⟩
    · have h0 : ¬ kind < 1 := by omega
      go_enter Try.func11, Try.ntmps11
      go_wp2
      go_ret2
      exact ⟨none, 0, rfl, Below.refl _ _, World.ownsRow_nil _ _ _ _⟩
  · have h2 : ¬ kind < 1 := by omega
    have h3 : ¬ 255 < kind := by omega
    by_cases h4 : 400 < n
    · have e1 : putE kind l.length = 5 := by unfold putE; rw [if_neg h1, if_pos (by omega)]
      have e2 : putL kind l = [] := by unfold putL; rw [e1]; rfl
      unfold RetP
      rw [e1, e2]
      have h4' : (400 : Int) < n := by omega
      go_enter Try.func11, Try.ntmps11
      go_wp2
      go_ret2
      exact ⟨none, 0, rfl, Below.refl _ _, World.ownsRow_nil _ _ _ _⟩
    · have e1 : putE kind l.length = 0 := by unfold putE; rw [if_neg h1, if_neg (by omega)]
      have e2 : putL kind l = fr kind.toNat l := by unfold putL; rw [e1]; rfl
      unfold RetP
      rw [e1, e2]
      have h4' : ¬ (400 : Int) < n := by omega
      obtain ⟨k, rfl⟩ : ∃ k : Nat, kind = k := ⟨kind.toNat, by omega⟩
      have hk : (k : Int) % 256 = k := by omega
      have hm : (n : Int) % 4294967296 = n := by omega
      have hnew : (w.alloc (.cells #[.int .u8 (k : Int)] 5)).ownsRow w.heap.size 5 1 (.slice (some ⟨w.heap.size, 0, none⟩) 1 1) 1 (bts [k]) := own_new w w.heap.size 5 #[.int .u8 k] (Nat.le_refl _) (show 1 ≤ maxLen by decide)
      have B1 : Below w.heap.size w (w.alloc (.cells #[.int .u8 (k : Int)] 5)) := (Below.refl _ w).alloc (Nat.le_refl _) _
      go_enter Try.func11, Try.ntmps11
      have hh : bts ([k] ++ les n 2) ++ bts l = bts (hd k l) := by
        rw [← bts_append]
        refine congrArg bts ?_
        unfold hd
        rw [hln]
        simp [les]
        omega
      have hsm := hd_small (k := k) (l := l) (by omega) (by omega) hs
      go_wp2_with (first
        | (go_at_call 27; refine (Low_any (own_ext hown2 g) (Nat.le_trans hz2 g.size) (csum (hd k l)) 4 (by omega) (by decide)).mono ?_; rintro _ w4 ⟨ao4, cap4, rfl, hb4, hown4⟩)
        | (go_at_call 27; refine (Low_any hnew (by simp) n 2 (by decide) (by decide)).mono ?_; rintro _ w1 ⟨ao1, cap1, rfl, hb1, hown1⟩; have hbw1 := B1.trans hb1; have hl1 := hl.keep (Nat.le_refl _) hbw1; have hz1 := hbw1.size)
        | (at_builtin; refine wp_app elemB rfl _ _ rfl (B := w.heap.size) rfl (hown1 : w1.ownsRow _ 5 1 (.slice ao1 3 cap1) 3 _) rfl (by rw [Nat.mul_one]; exact hl1.len) (fun h => ⟨by have := hl1.nil h; have := hl1.le; omega, hl1.nil h⟩) hl1.cells (bts_one l) (by omega) hz1 ?_; intro ao2 cap2 w2 hown2 hb2; rw [hh] at hown2; have hbw2 := hbw1.trans hb2; have hz2 := hbw2.size)
        | (go_at_call 14; refine (Sum_any (Sl.own hown2) hsm (by omega)).mono ?_; rintro _ _ ⟨rfl, g, rfl⟩))
      go_ret2
      have e3 : (fr (k : Int).toNat l).length = 3 + n + 4 := by rw [fr_length]; omega
      rw [e3]
      exact ⟨ao4, cap4, rfl, (g.up hbw2).trans hb4, hown4⟩
end Go.Proofs.Ytjmhnflogbihdaa
