/- What is proved: the walks of frame.number, frame.low and bytes.Clone (layer 4); the walks of frame.Put and of the document's Put (layer 4). No condition but those each law names. -/
import Derived.Test.YtaigdbnfhehclaaFB
import Derived.Lib.SliceRun
namespace Go.Proofs.Ytaigdbnfhehclaa
open Go.RowKit
set_option maxRecDepth 100000

theorem num_lt (l : List Nat) (hs : Small l) : num l < 256 ^ l.length := by
  induction l with
  | nil => decide
  | cons x l ih =>
    have h1 := ih fun y hy => hs y (by simp [hy])
    have h2 := hs x (by simp)
    simp only [num, List.length_cons, Nat.pow_succ]
    omega
theorem num_snoc (l : List Nat) (x : Nat) : num (l ++ [x]) = num l + x * 256 ^ l.length := by
  induction l with
  | nil => simp [num]
  | cons y l ih => simp only [num, List.cons_append, ih, List.length_cons, Nat.pow_succ, Nat.mul_add, Nat.add_assoc]; rw [Nat.mul_left_comm 256 x, Nat.mul_comm 256 (num l), Nat.mul_comm (256 ^ _) 256]

theorem num_step (l : List Nat) (hs : Small l) (j x : Nat) (hj : j < 4) (hx : l[j]? = some x) : bits .or .u32 ((num (l.take j) : Nat) : Int) ((x : Int) * 2 ^ (8 * j) % 4294967296) = ((num (l.take (j + 1)) : Nat) : Int) := by
  have hx2 := hs.at hx
  have hlj : (l.take j).length = j := by
    have := (List.getElem?_eq_some_iff.1 hx).1
    rw [List.length_take]; omega
  have hr := num_lt _ (hs.take j)
  rw [hlj] at hr
  have e1 : (256 : Nat) ^ j = 2 ^ (8 * j) := by rw [Nat.pow_mul]
  rw [e1] at hr
  have h4 : (2 : Nat) ^ (8 * j) ≤ 2 ^ 24 := Nat.pow_le_pow_right (by decide) (by omega)
  have h5 : x * 2 ^ (8 * j) < 4294967296 := by
    calc x * 2 ^ (8 * j) ≤ 255 * 2 ^ 24 := Nat.mul_le_mul (by omega) h4
      _ < 4294967296 := by decide
  have h6 : ((x : Int) * 2 ^ (8 * j) % 4294967296) = ((x * 2 ^ (8 * j) : Nat) : Int) := by
    have : ((x : Int) * 2 ^ (8 * j)) = ((x * 2 ^ (8 * j) : Nat) : Int) := by simp
    rw [this]; omega
  rw [h6, u32_or_nat _ _ (by omega) h5, List.take_add_one, hx]
  show ((_ : Nat) : Int) = ((num (l.take j ++ [x]) : Nat) : Int)
  rw [num_snoc, hlj, e1, Nat.or_comm, Nat.mul_comm, ← Nat.two_pow_add_eq_or_of_lt hr, Nat.add_comm]

theorem les_length (x k : Nat) : (les x k).length = k := by
  induction k generalizing x with
  | zero => rfl
  | succ k ih => simp [les, ih]
theorem les_snoc (x k : Nat) : les x (k + 1) = les x k ++ [x / 256 ^ k % 256] := by
  induction k generalizing x with
  | zero => simp [les]
  | succ k ih => rw [les, ih, les, List.cons_append, Nat.div_div_eq_div_mul, Nat.pow_succ, Nat.mul_comm 256]
theorem les_small (x k : Nat) : Small (les x k) := by
  induction k generalizing x with
  | zero => intro y hy; simp [les] at hy
  | succ k ih =>
    intro y hy
    simp only [les, List.mem_cons] at hy
    rcases hy with rfl | hy
    · omega
    · exact ih _ y hy
theorem num_les (x k : Nat) : num (les x k) = x % 256 ^ k := by
  induction k generalizing x with
  | zero => simp [les, num]; omega
  | succ k ih => rw [les, num, ih, Nat.pow_succ, Nat.mul_comm (256 ^ k), Nat.mod_mul]
theorem les_num (l : List Nat) (hs : Small l) : les (num l) l.length = l := by
  induction l with
  | nil => rfl
  | cons x l ih =>
    have h2 := hs x (by simp)
    simp only [num, List.length_cons, les]
    rw [show (x + 256 * num l) % 256 = x by omega, show (x + 256 * num l) / 256 = num l by omega, ih fun y hy => hs y (by simp [hy])]

set_option maxHeartbeats 1000000 in
theorem Number_any {w : World} {ao : Option Addr} {n c : Nat} {l : List Nat} (hl : Sl w ao n c (bts l)) (hs : Small l) (hn : n ≤ 4) : Calls Try.prog 54 #[.slice ao n c] w (Ret (.int .u32 (num l : Nat)) w) := by
  have hln : l.length = n := by rw [← hl.len, bts_length]
  go_enter Try.func54, Try.ntmps54
  go_wp2
  go_loopw [3, 8] (fun v i wr => ∃ j : Nat, j ≤ n ∧ i = .int .i64 j ∧ v = .int .u32 (num (l.take j) : Nat) ∧ Below w.heap.size w wr) (fun _ i _ => n - (intOf i).toNat)
  case atStart => exact ⟨0, by omega, rfl, rfl, by (repeat' (first | (with_reducible exact Below.refl _ _) | (with_reducible assumption) | (with_reducible refine Ext.up _ ?_) | (with_reducible refine Below.alloc ?_ ?_ _) | (with_reducible refine Below.drew ?_) | (with_reducible refine Below.setCell ?_ ?_ _) | (with_reducible refine Below.setRow_ ?_ ?_ _) | go_size))⟩
  case round =>
    obtain ⟨j, hj, rfl, rfl, hb⟩ := hrel
    by_cases hlt : j < n
    · obtain ⟨b, o, rfl, hbw, hc⟩ := hl.at (by omega)
      obtain ⟨x, hjx⟩ : ∃ x, l[j]? = some x := ⟨_, List.getElem?_eq_getElem (by omega)⟩
      have hx := hc j _ (by rw [bts_get, hjx]; rfl)
      rw [← hb.cell (by exact hbw)] at hx
      have hx2 := hs.at hjx
      have hj4 : (j : Int) < 4 := by omega
      go_wp2
      go_roundw
      case rel => exact ⟨j + 1, by omega, rfl, congrArg (Value.int .u32) (num_step l hs j x (by omega) hjx), by (repeat' (first | (with_reducible exact Below.refl _ _) | (with_reducible assumption) | (with_reducible refine Ext.up _ ?_) | (with_reducible refine Below.alloc ?_ ?_ _) | (with_reducible refine Below.drew ?_) | (with_reducible refine Below.setCell ?_ ?_ _) | (with_reducible refine Below.setRow_ ?_ ?_ _) | go_size))⟩
      case measure => simp [intOf]; omega
    · go_wp2
      go_ret
      obtain rfl : j = n := by omega
      refine Ret.mk_of hb ?_
      rw [← hln, List.take_length]
      rfl

/-- It lays so many bytes of a number behind a slice of the call's own. -/
theorem Low_any {w : World} {B : Nat} {ao : Option Addr} {n c : Nat} {xs : List Nat} (hown : w.ownsRow B 5 1 (.slice ao n c) n (bts xs)) (hB : B ≤ w.heap.size) (x k : Nat) (hn : n < 549755813888) (hk : k ≤ 4) :
    Calls Try.prog 57 #[.slice ao n c, .int .u32 x, .int .i64 k] w (RetO 5 B (n + k) (bts (xs ++ les x k)) w) := by
  go_enter Try.func57, Try.ntmps57
  go_wp2
  go_loopw [0, 1, 8] (fun v y i wr => ∃ j : Nat, j ≤ k ∧ i = .int .i64 j ∧ y = .int .u32 ((x / 256 ^ j : Nat) : Int) ∧ wr.ownsRow B 5 1 v (n + j) (bts (xs ++ les x j)) ∧ Below B w wr) (fun _ _ i _ => k - (intOf i).toNat)
  case atStart => exact ⟨0, by omega, rfl, by simp, by simpa [les] using hown, Below.refl _ _⟩
  case round =>
    obtain ⟨j, hj, rfl, rfl, hown', hb⟩ := hrel
    obtain ⟨ao', cap, rfl⟩ := own_form hown'
    have hz := Nat.le_trans hB hb.size
    have hxj : x / 256 ^ j ≤ x := Nat.div_le_self _ _
    by_cases hlt : j < k
    · have hj4 : (j : Int) < k := by omega
      go_wp2_with (at_builtin; refine wp_app1 elemB rfl _ _ rfl (B := B) rfl hown' rfl rfl (by omega) hz ?_)
      intro ao2 cap2 w2 hown2 hb2
      go_wp2
      go_roundw
      case rel =>
        refine ⟨j + 1, by omega, rfl, ?_, ?_, hb.trans hb2⟩
        · rw [Nat.pow_succ, ← Nat.div_div_eq_div_mul]; simp
        · rw [les_snoc, ← List.append_assoc, bts_append]
          have e : bts [x / 256 ^ j % 256] = [Value.int .u8 ((x : Int) / 256 ^ j % 256)] := by simp [bts]
          rw [e]; exact hown2
      case measure => simp [intOf]; omega
    · go_wp2
      go_ret
      obtain rfl : j = k := by omega
      exact ⟨ao', cap, rfl, hb, hown'⟩

theorem Clone_any {w : World} {ao : Option Addr} {n c : Nat} {l : List Nat} (hl : Sl w ao n c (bts l)) (hn : n < 1099511627776) : Calls Try.prog 56 #[.slice ao n c] w (RetO 5 w.heap.size n (bts l) w) := by
  have hln : l.length = n := by rw [← hl.len, bts_length]
  have hnil := fun (w : World) (a : Option Addr) (n c : Nat) => Go.Lib.run_eql_slice_nil (P := Try.prog) w 32 5 a n c 0 0 Try.underlying32
  cases ao with
  | none =>
    obtain rfl : c = 0 := hl.nil rfl
    obtain rfl : n = 0 := by have := hl.le; omega
    obtain rfl : l = [] := List.eq_nil_of_length_eq_zero hln
    go_enter Try.func56, Try.ntmps56
    go_wp2
    go_ret
    exact ⟨none, 0, rfl, Below.refl _ _, World.ownsRow_nil _ _ _ _⟩
  | some ad =>
    have hal : Sl (w.alloc (.cells #[] 5)) (some ad) n c (bts l) := hl.keep (Nat.le_refl _) ((Below.refl _ w).alloc (Nat.le_refl _) _)
    go_enter Try.func56, Try.ntmps56
    go_wp2_with (at_builtin; refine wp_app elemB rfl _ _ rfl (B := w.heap.size) rfl (World.ownsRow_made w #[] 0 (Nat.le_refl _) (by decide) rfl) rfl (by rw [Nat.mul_one]; exact hal.len) (fun h => by cases h) hal.cells (bts_one l) (by omega) (by simp) ?_)
    intro ao' cap w' hown hb
    go_wp2
    go_ret
    exact ⟨ao', cap, rfl, ((Below.refl _ w).alloc (Nat.le_refl _) _).trans hb, hown⟩
end Go.Proofs.Ytaigdbnfhehclaa

namespace Go.Proofs.Ytaigdbnfhehclaa
open Go.RowKit
set_option maxRecDepth 100000

/-- A frame's kind, length and body. -/
def hd (k : Nat) (l : List Nat) : List Nat := k :: l.length % 256 :: l.length / 256 :: l
/-- A frame's bytes. -/
def fr (k : Nat) (l : List Nat) : List Nat := hd k l ++ les (csum (hd k l)) 4
def putE (kind : Int) (n : Nat) : Int := if kind < 1 ∨ 255 < kind then 2 else if 400 < n then 5 else 0
def putL (kind : Int) (l : List Nat) : List Nat := if putE kind l.length = 0 then fr kind.toNat l else []

theorem hd_small {k : Nat} {l : List Nat} (hk : k < 256) (hn : l.length ≤ 400) (hs : Small l) : Small (hd k l) := by
  intro x hx
  simp only [hd, List.mem_cons] at hx
  rcases hx with rfl | rfl | rfl | hx
  · exact hk
  · omega
  · omega
  · exact hs x hx
theorem hd_length (k : Nat) (l : List Nat) : (hd k l).length = l.length + 3 := rfl
theorem fr_length (k : Nat) (l : List Nat) : (fr k l).length = l.length + 7 := by simp [fr, hd_length, les_length]
theorem fr_small {k : Nat} {l : List Nat} (hk : k < 256) (hn : l.length ≤ 400) (hs : Small l) : Small (fr k l) := (hd_small hk hn hs).append (les_small _ _)

theorem putL_length (kind : Int) (l : List Nat) : (putL kind l).length ≤ l.length + 7 := by
  unfold putL
  split
  · rw [fr_length]
    exact Nat.le_refl _
  · simp

def RetP (kind : Int) (l : List Nat) (w : World) : Ending → World → Prop := fun e w' => ∃ ao cap, e = .returned (.tuple #[.slice ao (putL kind l).length cap, .int .i64 (putE kind l.length)]) ∧ Below w.heap.size w w' ∧ w'.ownsRow w.heap.size 5 1 (.slice ao (putL kind l).length cap) (putL kind l).length (bts (putL kind l))

theorem Put_any {w : World} {ao : Option Addr} {n c : Nat} {l : List Nat} (kind : Int) (hl : Sl w ao n c (bts l)) (hs : Small l) (hn : n < 1099511627776) : Calls Try.prog 47 #[.int .i64 kind, .slice ao n c] w (RetP kind l w) := by
  have hln : l.length = n := by rw [← hl.len, bts_length]
  by_cases h1 : kind < 1 ∨ 255 < kind
  · have e1 : putE kind l.length = 2 := if_pos h1
    have e2 : putL kind l = [] := by unfold putL; rw [e1]; rfl
    unfold RetP
    rw [e1, e2]
    rcases h1 with h1 | h1
    · go_enter Try.func47, Try.ntmps47
      go_wp2
      go_ret2
      exact ⟨none, 0, rfl, Below.refl _ _, World.ownsRow_nil _ _ _ _⟩
    · have h0 : ¬ kind < 1 := by omega
      go_enter Try.func47, Try.ntmps47
      go_wp2
      go_ret2
      exact ⟨none, 0, rfl, Below.refl _ _, World.ownsRow_nil _ _ _ _⟩
  · have h2 : ¬ kind < 1 := by omega
    have h3 : ¬ 255 < kind := by omega
    by_cases h4 : 400 < n
    · have e1 : putE kind l.length = 5 := by unfold putE; rw [if_neg h1, if_pos (by omega)]
      have e2 : putL kind l = [] := by unfold putL; rw [e1]; rfl
      unfold RetP
      rw [e1, e2]
      have h4' : (400 : Int) < n := by omega
      go_enter Try.func47, Try.ntmps47
      go_wp2
      go_ret2
      exact ⟨none, 0, rfl, Below.refl _ _, World.ownsRow_nil _ _ _ _⟩
    · have e1 : putE kind l.length = 0 := by unfold putE; rw [if_neg h1, if_neg (by omega)]
      have e2 : putL kind l = fr kind.toNat l := by unfold putL; rw [e1]; rfl
      unfold RetP
      rw [e1, e2]
      have h4' : ¬ (400 : Int) < n := by omega
      obtain ⟨k, rfl⟩ : ∃ k : Nat, kind = k := ⟨kind.toNat, by omega⟩
      have hk : (k : Int) % 256 = k := by omega
      have hm : (n : Int) % 4294967296 = n := by omega
      have hnew : (w.alloc (.cells #[.int .u8 (k : Int)] 5)).ownsRow w.heap.size 5 1 (.slice (some ⟨w.heap.size, 0, none⟩) 1 1) 1 (bts [k]) := own_new w w.heap.size 5 #[.int .u8 k] (Nat.le_refl _) (show 1 ≤ maxLen by decide)
      have B1 : Below w.heap.size w (w.alloc (.cells #[.int .u8 (k : Int)] 5)) := (Below.refl _ w).alloc (Nat.le_refl _) _
      go_enter Try.func47, Try.ntmps47
      have hh : bts ([k] ++ les n 2) ++ bts l = bts (hd k l) := by
        rw [← bts_append]
        refine congrArg bts ?_
        unfold hd
        rw [hln]
        simp [les]
        omega
      have hsm := hd_small (k := k) (l := l) (by omega) (by omega) hs
      go_wp2_with (first
        | (go_at_call 57; refine (Low_any (own_ext hown2 g) (Nat.le_trans hz2 g.size) (csum (hd k l)) 4 (by omega) (by decide)).mono ?_; rintro _ w4 ⟨ao4, cap4, rfl, hb4, hown4⟩)
        | (go_at_call 57; refine (Low_any hnew (by simp) n 2 (by decide) (by decide)).mono ?_; rintro _ w1 ⟨ao1, cap1, rfl, hb1, hown1⟩; have hbw1 := B1.trans hb1; have hl1 := hl.keep (Nat.le_refl _) hbw1; have hz1 := hbw1.size)
        | (at_builtin; refine wp_app elemB rfl _ _ rfl (B := w.heap.size) rfl (hown1 : w1.ownsRow _ 5 1 (.slice ao1 3 cap1) 3 _) rfl (by rw [Nat.mul_one]; exact hl1.len) (fun h => ⟨by have := hl1.nil h; have := hl1.le; omega, hl1.nil h⟩) hl1.cells (bts_one l) (by omega) hz1 ?_; intro ao2 cap2 w2 hown2 hb2; rw [hh] at hown2; have hbw2 := hbw1.trans hb2; have hz2 := hbw2.size)
        | (go_at_call 55; refine (Sum_any (Sl.own hown2) hsm (by omega)).mono ?_; rintro _ _ ⟨rfl, g, rfl⟩))
      go_ret2
      have e3 : (fr (k : Int).toNat l).length = 3 + n + 4 := by rw [fr_length]; omega
      rw [e3]
      exact ⟨ao4, cap4, rfl, (g.up hbw2).trans hb4, hown4⟩
end Go.Proofs.Ytaigdbnfhehclaa
