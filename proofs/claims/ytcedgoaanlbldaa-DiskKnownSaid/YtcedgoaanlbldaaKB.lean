/- What is proved: the list of ops that DiskKnown writes out (printed by mk_KB.py): a region that draws its order. No condition but those each law names. -/
import Derived.Test.YtcedgoaanlbldaaKA
import Derived.Test.YtcedgoaanlbldaaD8
import Derived.Lib.Hide
namespace Go.Proofs.Ytcedgoaanlbldaa
open Go.RowKit
def K1 (i : Nat) : Bool := [0, 1, 3, 4, 5, 6, 7, 8, 9, 10, 12, 13, 18, 19, 21, 22, 23, 24, 25].contains i
def slB (b n : Nat) : Value := .slice (some ⟨b, 0, none⟩) n n
def mk1 (i : Nat) (b : Nat) : Value := match i with
  | 0 => slB b 1
  | 1 => .agg #[.int .i64 0, .int .i64 3, slB b 1, .slice none 0 0]
  | 3 => slB b 1
  | 4 => .agg #[.int .i64 0, .int .i64 3, slB b 1, .slice none 0 0]
  | 5 => slB b 1
  | 6 => .agg #[.int .i64 0, .int .i64 4, slB b 1, .slice none 0 0]
  | 7 => slB b 2
  | 8 => .agg #[.int .i64 4, .int .i64 4, .slice none 0 0, slB b 2]
  | 9 => slB b 1
  | 10 => .agg #[.int .i64 0, .int .i64 4, slB b 1, .slice none 0 0]
  | 12 => slB b 1
  | 13 => .agg #[.int .i64 0, .int .i64 0, slB b 1, .slice none 0 0]
  | 18 => slB b 129
  | 19 => .agg #[.int .i64 0, .int .i64 0, slB b 129, .slice none 0 0]
  | 21 => slB b 128
  | 22 => .agg #[.int .i64 0, .int .i64 511, slB b 128, .slice none 0 0]
  | 23 => slB b 3
  | 24 => .agg #[.int .i64 4, .int .i64 4, .slice none 0 0, slB b 3]
  | 25 => slB b 16
  | _ => undef
theorem mk1_0 (b : Nat) : mk1 0 b = .slice (some ⟨b, 0, none⟩) 1 1 := rfl
theorem mk1_1 (b : Nat) : mk1 1 b = .agg #[.int .i64 0, .int .i64 3, .slice (some ⟨b, 0, none⟩) 1 1, .slice none 0 0] := rfl
theorem mk1_3 (b : Nat) : mk1 3 b = .slice (some ⟨b, 0, none⟩) 1 1 := rfl
theorem mk1_4 (b : Nat) : mk1 4 b = .agg #[.int .i64 0, .int .i64 3, .slice (some ⟨b, 0, none⟩) 1 1, .slice none 0 0] := rfl
theorem mk1_5 (b : Nat) : mk1 5 b = .slice (some ⟨b, 0, none⟩) 1 1 := rfl
theorem mk1_6 (b : Nat) : mk1 6 b = .agg #[.int .i64 0, .int .i64 4, .slice (some ⟨b, 0, none⟩) 1 1, .slice none 0 0] := rfl
theorem mk1_7 (b : Nat) : mk1 7 b = .slice (some ⟨b, 0, none⟩) 2 2 := rfl
theorem mk1_8 (b : Nat) : mk1 8 b = .agg #[.int .i64 4, .int .i64 4, .slice none 0 0, .slice (some ⟨b, 0, none⟩) 2 2] := rfl
theorem mk1_9 (b : Nat) : mk1 9 b = .slice (some ⟨b, 0, none⟩) 1 1 := rfl
theorem mk1_10 (b : Nat) : mk1 10 b = .agg #[.int .i64 0, .int .i64 4, .slice (some ⟨b, 0, none⟩) 1 1, .slice none 0 0] := rfl
theorem mk1_12 (b : Nat) : mk1 12 b = .slice (some ⟨b, 0, none⟩) 1 1 := rfl
theorem mk1_13 (b : Nat) : mk1 13 b = .agg #[.int .i64 0, .int .i64 0, .slice (some ⟨b, 0, none⟩) 1 1, .slice none 0 0] := rfl
theorem mk1_18 (b : Nat) : mk1 18 b = .slice (some ⟨b, 0, none⟩) 129 129 := rfl
theorem mk1_19 (b : Nat) : mk1 19 b = .agg #[.int .i64 0, .int .i64 0, .slice (some ⟨b, 0, none⟩) 129 129, .slice none 0 0] := rfl
theorem mk1_21 (b : Nat) : mk1 21 b = .slice (some ⟨b, 0, none⟩) 128 128 := rfl
theorem mk1_22 (b : Nat) : mk1 22 b = .agg #[.int .i64 0, .int .i64 511, .slice (some ⟨b, 0, none⟩) 128 128, .slice none 0 0] := rfl
theorem mk1_23 (b : Nat) : mk1 23 b = .slice (some ⟨b, 0, none⟩) 3 3 := rfl
theorem mk1_24 (b : Nat) : mk1 24 b = .agg #[.int .i64 4, .int .i64 4, .slice none 0 0, .slice (some ⟨b, 0, none⟩) 3 3] := rfl
theorem mk1_25 (b : Nat) : mk1 25 b = .slice (some ⟨b, 0, none⟩) 16 16 := rfl
/-- Bytes, or ints, of which nobody asks which. -/
def BsIn (b n : Nat) (w : World) : Prop := ∃ l : List Nat, l.length = n ∧ Sl w (some ⟨b, 0, none⟩) n n (bts l)
def IsIn (b n : Nat) (w : World) : Prop := ∃ l : List Int, l.length = n ∧ Sl w (some ⟨b, 0, none⟩) n n (l.map (Value.int .i64))
def OsIn (B b : Nat) (w : World) : Prop := ∃ L : List OpW, L.length = 16 ∧ (∀ x ∈ L, x.Good w) ∧ w.ownsRow B 49 4 (slB b 16) 16 (rowOps L)
def ob1 (B : Nat) (i : Nat) (b : Nat) (w : World) : Prop := match i with
  | 0 => BsIn b 1 w
  | 1 => BsIn b 1 w
  | 3 => BsIn b 1 w
  | 4 => BsIn b 1 w
  | 5 => BsIn b 1 w
  | 6 => BsIn b 1 w
  | 7 => IsIn b 2 w
  | 8 => IsIn b 2 w
  | 9 => BsIn b 1 w
  | 10 => BsIn b 1 w
  | 12 => BsIn b 1 w
  | 13 => BsIn b 1 w
  | 18 => BsIn b 129 w
  | 19 => BsIn b 129 w
  | 21 => BsIn b 128 w
  | 22 => BsIn b 128 w
  | 23 => IsIn b 3 w
  | 24 => IsIn b 3 w
  | 25 => OsIn B b w
  | _ => True
theorem BsIn.ext {b n : Nat} {w : World} (h : BsIn b n w) (g : Ext w) : BsIn b n g.val := by obtain ⟨l, h1, h2⟩ := h; exact ⟨l, h1, h2.ext g⟩
theorem IsIn.ext {b n : Nat} {w : World} (h : IsIn b n w) (g : Ext w) : IsIn b n g.val := by obtain ⟨l, h1, h2⟩ := h; exact ⟨l, h1, h2.ext g⟩
theorem OsIn.ext {B b : Nat} {w : World} (h : OsIn B b w) (g : Ext w) : OsIn B b g.val := by obtain ⟨L, h1, h2, h3⟩ := h; exact ⟨L, h1, fun x hx => (h2 x hx).ext g, own_ext h3 g⟩
theorem OsIn.keep {B C b : Nat} {w w' : World} (h : OsIn B b w) (hB : w.heap.size ≤ C) (hw : Below C w w') : OsIn B b w' := by obtain ⟨L, h1, h2, h3⟩ := h; exact ⟨L, h1, fun x hx => (h2 x hx).keep hB hw, own_keep h3 hB hw⟩
theorem hp1 (B : Nat) : ∀ i x (w1 : World) (g : Ext w1), ob1 B i x w1 → ob1 B i x g.val := fun i x w1 g h => by
  unfold ob1 at *
  split at h <;> first | exact BsIn.ext h g | exact IsIn.ext h g | exact OsIn.ext h g | trivial
theorem BsIn.good {b n : Nat} {w : World} (h : BsIn b n w) (k s : Int) (hs : s < 9223372036854775808) (hn : n ≤ 140737488355327) : ∃ x : OpW, x.Good w ∧ x.row = [.int .i64 k, .int .i64 s, .slice (some ⟨b, 0, none⟩) n n, .slice none 0 0] := by
  obtain ⟨l, h1, h2⟩ := h
  subst h1
  exact ⟨⟨k, s, l, some ⟨b, 0, none⟩, l.length, [], none, 0⟩, ⟨h2, Sl.nothing w, hn, Nat.zero_le _, hs⟩, rfl⟩
theorem IsIn.good {b n : Nat} {w : World} (h : IsIn b n w) (k s : Int) (hs : s < 9223372036854775808) (hn : n ≤ 140737488355327) : ∃ x : OpW, x.Good w ∧ x.row = [.int .i64 k, .int .i64 s, .slice none 0 0, .slice (some ⟨b, 0, none⟩) n n] := by
  obtain ⟨l, h1, h2⟩ := h
  subst h1
  exact ⟨⟨k, s, [], none, 0, l, some ⟨b, 0, none⟩, l.length⟩, ⟨Sl.nothing w, h2, Nat.zero_le _, hn, hs⟩, rfl⟩
theorem nil_good (w : World) (k s : Int) (hs : s < 9223372036854775808) : ∃ x : OpW, x.Good w ∧ x.row = [.int .i64 k, .int .i64 s, .slice none 0 0, .slice none 0 0] :=
  ⟨⟨k, s, [], none, 0, [], none, 0⟩, ⟨Sl.nothing w, Sl.nothing w, Nat.zero_le _, Nat.zero_le _, hs⟩, rfl⟩
theorem bs_new (w : World) (cs : Array Value) (n : Nat) (l : List Nat) (hl : l.length = n) (h : cs.toList = bts l) : BsIn w.heap.size n (w.alloc (.cells cs 5)) := by
  subst hl
  refine ⟨l, rfl, ?_⟩
  have hs : cs.size = l.length := by rw [← Array.length_toList, h, bts_length]
  rw [← h, ← hs]
  exact sl_marked w cs 5 cs.size _ _ rfl rfl
theorem is_new (w : World) (cs : Array Value) (n : Nat) (l : List Int) (hl : l.length = n) (h : cs.toList = l.map (Value.int .i64)) : IsIn w.heap.size n (w.alloc (.cells cs 3)) := by
  subst hl
  refine ⟨l, rfl, ?_⟩
  have hs : cs.size = l.length := by rw [← Array.length_toList, h, List.length_map]
  rw [← h, ← hs]
  exact sl_marked w cs 3 cs.size _ _ rfl rfl
theorem ops_new (w : World) (B : Nat) (hB : B ≤ w.heap.size) (cs : Array Value) (L : List OpW) (hL : L.length = 16) (hg : ∀ x ∈ L, x.Good w) (h : cs.toList = rowOps L) : OsIn B w.heap.size (w.alloc (.cells cs 49)) := by
  have hs : cs.size = 16 * 4 := by rw [← Array.length_toList, h, rowOps_length, hL]
  refine ⟨L, hL, fun x hx => (hg x hx).ext ⟨_, below1k w _⟩, ?_⟩
  exact ⟨by rw [← h, Array.length_toList, hs], .inr ⟨w.heap.size, 16, cs, rfl, hB, heap_alloc_new w _, Nat.le_refl _, by decide, hs, by rw [← h, ← hs, ← Array.length_toList, List.take_length]⟩⟩

def K9 (i : Nat) : Bool := [0, 4, 16, 17, 19, 20, 29, 30, 31].contains i
def mk9 (k r : Nat) (y : Int) (i : Nat) (x : Option Addr × Nat) : Value := match i with
  | 0 => .slice x.1 0 0
  | 4 => .slice x.1 k x.2
  | 16 => .slice x.1 r x.2
  | 17 => .agg #[.int .i64 0, .int .i64 y, .slice x.1 r x.2, .slice none 0 0]
  | 19 => .slice x.1 1 1
  | 20 => .agg #[.int .i64 0, .int .i64 7, .slice x.1 1 1, .slice none 0 0]
  | 29 => .slice x.1 2 2
  | 30 => .agg #[.int .i64 4, .int .i64 7, .slice none 0 0, .slice x.1 2 2]
  | 31 => .slice x.1 5 5
  | _ => undef
theorem mk9_0 (k r : Nat) (y : Int) (x : Option Addr × Nat) : mk9 k r y 0 x = .slice x.1 0 0 := rfl
theorem mk9_4 (k r : Nat) (y : Int) (x : Option Addr × Nat) : mk9 k r y 4 x = .slice x.1 k x.2 := rfl
theorem mk9_16 (k r : Nat) (y : Int) (x : Option Addr × Nat) : mk9 k r y 16 x = .slice x.1 r x.2 := rfl
theorem mk9_17 (k r : Nat) (y : Int) (x : Option Addr × Nat) : mk9 k r y 17 x = .agg #[.int .i64 0, .int .i64 y, .slice x.1 r x.2, .slice none 0 0] := rfl
theorem mk9_19 (k r : Nat) (y : Int) (x : Option Addr × Nat) : mk9 k r y 19 x = .slice x.1 1 1 := rfl
theorem mk9_20 (k r : Nat) (y : Int) (x : Option Addr × Nat) : mk9 k r y 20 x = .agg #[.int .i64 0, .int .i64 7, .slice x.1 1 1, .slice none 0 0] := rfl
theorem mk9_29 (k r : Nat) (y : Int) (x : Option Addr × Nat) : mk9 k r y 29 x = .slice x.1 2 2 := rfl
theorem mk9_30 (k r : Nat) (y : Int) (x : Option Addr × Nat) : mk9 k r y 30 x = .agg #[.int .i64 4, .int .i64 7, .slice none 0 0, .slice x.1 2 2] := rfl
theorem mk9_31 (k r : Nat) (y : Int) (x : Option Addr × Nat) : mk9 k r y 31 x = .slice x.1 5 5 := rfl
def ob9 (w0 : World) (k r : Nat) (i : Nat) (x : Option Addr × Nat) (w : World) : Prop := match i with
  | 0 => ∃ g, x.1 = some ⟨g, 0, none⟩ ∧ w.ownsRow w0.heap.size 49 4 (.slice x.1 0 0) 0 []
  | 4 => ∃ L : List OpW, L.length = k ∧ (∀ z ∈ L, z.Good w0) ∧ w.ownsRow w0.heap.size 49 4 (.slice x.1 k x.2) k (rowOps L)
  | 16 => ∃ l : List Nat, l.length = r ∧ w.ownsRow w0.heap.size 5 1 (.slice x.1 r x.2) r (bts l)
  | 17 => ∃ l : List Nat, l.length = r ∧ w.ownsRow w0.heap.size 5 1 (.slice x.1 r x.2) r (bts l)
  | 19 => ∃ l : List Nat, l.length = 1 ∧ w.ownsRow w0.heap.size 5 1 (.slice x.1 1 1) 1 (bts l)
  | 20 => ∃ l : List Nat, l.length = 1 ∧ w.ownsRow w0.heap.size 5 1 (.slice x.1 1 1) 1 (bts l)
  | 29 => ∃ l : List Int, l.length = 2 ∧ w.ownsRow w0.heap.size 3 1 (.slice x.1 2 2) 2 (l.map (Value.int .i64))
  | 30 => ∃ l : List Int, l.length = 2 ∧ w.ownsRow w0.heap.size 3 1 (.slice x.1 2 2) 2 (l.map (Value.int .i64))
  | 31 => ∃ g, x.1 = some ⟨g, 0, none⟩ ∧ ∃ L : List OpW, L.length = 5 ∧ (∀ z ∈ L, z.Mine w0.heap.size w) ∧ w.ownsRow w0.heap.size 49 4 (.slice x.1 5 5) 5 (rowOps L)
  | _ => True
theorem hp9 (w0 : World) (k r : Nat) : ∀ i x (w1 : World) (g : Ext w1), ob9 w0 k r i x w1 → ob9 w0 k r i x g.val := fun i x w1 g h => by
  unfold ob9 at *
  split at h
  · obtain ⟨b, h1, h2⟩ := h; exact ⟨b, h1, own_ext h2 g⟩
  · obtain ⟨L, h1, h2, h3⟩ := h; exact ⟨L, h1, h2, own_ext h3 g⟩
  · obtain ⟨l, h1, h2⟩ := h; exact ⟨l, h1, own_ext h2 g⟩
  · obtain ⟨l, h1, h2⟩ := h; exact ⟨l, h1, own_ext h2 g⟩
  · obtain ⟨l, h1, h2⟩ := h; exact ⟨l, h1, own_ext h2 g⟩
  · obtain ⟨l, h1, h2⟩ := h; exact ⟨l, h1, own_ext h2 g⟩
  · obtain ⟨l, h1, h2⟩ := h; exact ⟨l, h1, own_ext h2 g⟩
  · obtain ⟨l, h1, h2⟩ := h; exact ⟨l, h1, own_ext h2 g⟩
  · obtain ⟨b, h0, L, h1, h2, h3⟩ := h; exact ⟨b, h0, L, h1, fun z hz => (h2 z hz).ext g, own_ext h3 g⟩
  · trivial
theorem wrap_k {z : Int} (h0 : 0 ≤ z) (h1 : z ≤ 9223372036854775807) : IntKind.i64.wrap z = z := by
  rw [IntKind.wrap_i64]; omega
def nums : List Int := [-9223372036854775808, -3, -2, -1, 0, 1, 2, 3, 4, 511, 512, 9223372036854775807]
theorem nums_lt {j : Nat} {x : Int} (h : nums[j]? = some x) : x < 9223372036854775808 := by
  have := List.mem_of_getElem? h
  simp only [nums, List.mem_cons, List.not_mem_nil, or_false] at this
  omega
section
variable (w : World) (a : Option Addr) (len cap : Nat)
set_option maxRecDepth 100000 in
theorem oslice_h (kh : IntKind) (h : Int) (h0 : 0 ≤ h) (h2 : h ≤ cap) :
    (Instr.slice 43 (.slice a len cap) none (some (.int kh h)) none).run Try.prog w = .ok (.slice a h.toNat cap) w := by
  rw [run_slice_h w 43 a len cap Try.underlying43 kh h h0 h2]
  unfold sliced
  have e : ∀ x : Option Addr, x.map (fun y : Addr => y.add 0) = x := fun x => by cases x <;> simp [add_zero_addr]
  have hs : (sizeOf (Try.prog.elem 43)).run Try.prog w = .ok 4 w := by kernel_rfl
  simp [e, hs]
end
/-- The first ops of a list, as what is appended. -/
theorem front_ops {w : World} {B b n k : Nat} {L : List OpW} (h : w.ownsRow B 49 4 (slB b n) n (rowOps L)) (_ : L.length = n) (_ : k ≤ n) : ∀ (j : Nat) u, (rowOps (L.take k))[j]? = some u → w.cell? ((⟨b, 0, none⟩ : Addr).add j) = some u := fun j u hj => by
  have e : rowOps L = rowOps (L.take k) ++ rowOps (L.drop k) := by rw [← rowOps_append, List.take_append_drop]
  refine h.cells (g := b) rfl j u ?_
  rw [e, List.getElem?_append_left (List.getElem?_eq_some_iff.1 hj).1]
  exact hj
attribute [local go_sem high] oslice_h make4
set_option maxRecDepth 100000 in
set_option maxHeartbeats 8000000 in
theorem Known_any (w : World) : Calls Try.prog 6 #[] w (Ret (.bool true) w) := by
  go_enter Try.func6, Try.ntmps6
  go_wp2_with fail
  refine Ls.wp_region_lays (β := Nat) (K := K1) (mk := mk1) (ob := ob1 w.heap.size) (hp1 _) 26 (by kernel_rfl) (by kernel_rfl) ?_
  simp only [List.take_succ_cons, List.drop_succ_cons]
  (refine Ls.grow_lay rfl (fun _ => rfl) (fun E g hk => ?_) ?_)
  · go_simp
    exact ⟨_, rfl, ⟨⟨_, below1k _ _⟩, rfl⟩, bs_new _ _ 1 [7] rfl rfl⟩
  simp only [Act.put, List.setIfInBounds_toArray, List.set_cons_succ, List.set_cons_zero, Nat.reduceAdd, mk1_0]
  (refine Ls.grow_lay rfl (fun _ => rfl) (fun E g hk => ?_) ?_)
  · have h := hk ⟨0, .data⟩ (by simp) rfl rfl
    clear hk
    go_simp
    exact ⟨E 0, rfl, ⟨⟨_, Below.refl _ _⟩, rfl⟩, h⟩
  simp only [Act.put, List.setIfInBounds_toArray, List.set_cons_succ, List.set_cons_zero, Nat.reduceAdd, mk1_1]
  (refine Ls.grow_step rfl (fun k hk => ?_); go_simp; (refine hk _ ?_; clear hk k))
  (refine Ls.grow_lay rfl (fun _ => rfl) (fun E g hk => ?_) ?_)
  · go_simp
    exact ⟨_, rfl, ⟨⟨_, below1k _ _⟩, rfl⟩, bs_new _ _ 1 [8] rfl rfl⟩
  simp only [Act.put, List.setIfInBounds_toArray, List.set_cons_succ, List.set_cons_zero, Nat.reduceAdd, mk1_3]
  (refine Ls.grow_lay rfl (fun _ => rfl) (fun E g hk => ?_) ?_)
  · have h := hk ⟨3, .data⟩ (by simp) rfl rfl
    clear hk
    go_simp
    exact ⟨E 3, rfl, ⟨⟨_, Below.refl _ _⟩, rfl⟩, h⟩
  simp only [Act.put, List.setIfInBounds_toArray, List.set_cons_succ, List.set_cons_zero, Nat.reduceAdd, mk1_4]
  (refine Ls.grow_lay rfl (fun _ => rfl) (fun E g hk => ?_) ?_)
  · go_simp
    exact ⟨_, rfl, ⟨⟨_, below1k _ _⟩, rfl⟩, bs_new _ _ 1 [9] rfl rfl⟩
  simp only [Act.put, List.setIfInBounds_toArray, List.set_cons_succ, List.set_cons_zero, Nat.reduceAdd, mk1_5]
  (refine Ls.grow_lay rfl (fun _ => rfl) (fun E g hk => ?_) ?_)
  · have h := hk ⟨5, .data⟩ (by simp) rfl rfl
    clear hk
    go_simp
    exact ⟨E 5, rfl, ⟨⟨_, Below.refl _ _⟩, rfl⟩, h⟩
  simp only [Act.put, List.setIfInBounds_toArray, List.set_cons_succ, List.set_cons_zero, Nat.reduceAdd, mk1_6]
  (refine Ls.grow_lay rfl (fun _ => rfl) (fun E g hk => ?_) ?_)
  · go_simp
    exact ⟨_, rfl, ⟨⟨_, below1k _ _⟩, rfl⟩, is_new _ _ 2 [0, 2] rfl rfl⟩
  simp only [Act.put, List.setIfInBounds_toArray, List.set_cons_succ, List.set_cons_zero, Nat.reduceAdd, mk1_7]
  (refine Ls.grow_lay rfl (fun _ => rfl) (fun E g hk => ?_) ?_)
  · have h := hk ⟨7, .data⟩ (by simp) rfl rfl
    clear hk
    go_simp
    exact ⟨E 7, rfl, ⟨⟨_, Below.refl _ _⟩, rfl⟩, h⟩
  simp only [Act.put, List.setIfInBounds_toArray, List.set_cons_succ, List.set_cons_zero, Nat.reduceAdd, mk1_8]
  (refine Ls.grow_lay rfl (fun _ => rfl) (fun E g hk => ?_) ?_)
  · go_simp
    exact ⟨_, rfl, ⟨⟨_, below1k _ _⟩, rfl⟩, bs_new _ _ 1 [1] rfl rfl⟩
  simp only [Act.put, List.setIfInBounds_toArray, List.set_cons_succ, List.set_cons_zero, Nat.reduceAdd, mk1_9]
  (refine Ls.grow_lay rfl (fun _ => rfl) (fun E g hk => ?_) ?_)
  · have h := hk ⟨9, .data⟩ (by simp) rfl rfl
    clear hk
    go_simp
    exact ⟨E 9, rfl, ⟨⟨_, Below.refl _ _⟩, rfl⟩, h⟩
  simp only [Act.put, List.setIfInBounds_toArray, List.set_cons_succ, List.set_cons_zero, Nat.reduceAdd, mk1_10]
  (refine Ls.grow_step rfl (fun k hk => ?_); go_simp; (refine hk _ ?_; clear hk k))
  (refine Ls.grow_lay rfl (fun _ => rfl) (fun E g hk => ?_) ?_)
  · go_simp
    exact ⟨_, rfl, ⟨⟨_, below1k _ _⟩, rfl⟩, bs_new _ _ 1 [5] rfl rfl⟩
  simp only [Act.put, List.setIfInBounds_toArray, List.set_cons_succ, List.set_cons_zero, Nat.reduceAdd, mk1_12]
  (refine Ls.grow_lay rfl (fun _ => rfl) (fun E g hk => ?_) ?_)
  · have h := hk ⟨12, .data⟩ (by simp) rfl rfl
    clear hk
    go_simp
    exact ⟨E 12, rfl, ⟨⟨_, Below.refl _ _⟩, rfl⟩, h⟩
  simp only [Act.put, List.setIfInBounds_toArray, List.set_cons_succ, List.set_cons_zero, Nat.reduceAdd, mk1_13]
  (refine Ls.grow_step rfl (fun k hk => ?_); go_simp; (refine hk _ ?_; clear hk k))
  (refine Ls.grow_step rfl (fun k hk => ?_); go_simp; (refine hk _ ?_; clear hk k))
  (refine Ls.grow_step rfl (fun k hk => ?_); go_simp; (refine hk _ ?_; clear hk k))
  (refine Ls.grow_step rfl (fun k hk => ?_); go_simp; (refine hk _ ?_; clear hk k))
  (refine Ls.grow_lay rfl (fun _ => rfl) (fun E g hk => ?_) ?_)
  · go_simp
    exact ⟨_, rfl, ⟨⟨_, below1k _ _⟩, rfl⟩, bs_new _ _ 129 (List.replicate 129 0) rfl (by kernel_rfl)⟩
  simp only [Act.put, List.setIfInBounds_toArray, List.set_cons_succ, List.set_cons_zero, Nat.reduceAdd, mk1_18]
  (refine Ls.grow_lay rfl (fun _ => rfl) (fun E g hk => ?_) ?_)
  · have h := hk ⟨18, .data⟩ (by simp) rfl rfl
    clear hk
    go_simp
    exact ⟨E 18, rfl, ⟨⟨_, Below.refl _ _⟩, rfl⟩, h⟩
  simp only [Act.put, List.setIfInBounds_toArray, List.set_cons_succ, List.set_cons_zero, Nat.reduceAdd, mk1_19]
  (refine Ls.grow_step rfl (fun k hk => ?_); go_simp; (refine hk _ ?_; clear hk k))
  (refine Ls.grow_lay rfl (fun _ => rfl) (fun E g hk => ?_) ?_)
  · go_simp
    exact ⟨_, rfl, ⟨⟨_, below1k _ _⟩, rfl⟩, bs_new _ _ 128 (List.replicate 128 0) rfl (by kernel_rfl)⟩
  simp only [Act.put, List.setIfInBounds_toArray, List.set_cons_succ, List.set_cons_zero, Nat.reduceAdd, mk1_21]
  (refine Ls.grow_lay rfl (fun _ => rfl) (fun E g hk => ?_) ?_)
  · have h := hk ⟨21, .data⟩ (by simp) rfl rfl
    clear hk
    go_simp
    exact ⟨E 21, rfl, ⟨⟨_, Below.refl _ _⟩, rfl⟩, h⟩
  simp only [Act.put, List.setIfInBounds_toArray, List.set_cons_succ, List.set_cons_zero, Nat.reduceAdd, mk1_22]
  (refine Ls.grow_lay rfl (fun _ => rfl) (fun E g hk => ?_) ?_)
  · go_simp
    exact ⟨_, rfl, ⟨⟨_, below1k _ _⟩, rfl⟩, is_new _ _ 3 [-1, 4, 5] rfl rfl⟩
  simp only [Act.put, List.setIfInBounds_toArray, List.set_cons_succ, List.set_cons_zero, Nat.reduceAdd, mk1_23]
  (refine Ls.grow_lay rfl (fun _ => rfl) (fun E g hk => ?_) ?_)
  · have h := hk ⟨23, .data⟩ (by simp) rfl rfl
    clear hk
    go_simp
    exact ⟨E 23, rfl, ⟨⟨_, Below.refl _ _⟩, rfl⟩, h⟩
  simp only [Act.put, List.setIfInBounds_toArray, List.set_cons_succ, List.set_cons_zero, Nat.reduceAdd, mk1_24]
  (refine Ls.grow_lay rfl (fun _ => rfl) (fun E g hk => ?_) ?_)
  · obtain ⟨x1, g1, e1⟩ := BsIn.good (show BsIn (E 1) 1 g.val from hk ⟨1, .data⟩ (by simp) rfl rfl) 0 3 (by decide) (by decide)
    obtain ⟨x2, g2, e2⟩ := nil_good g.val 2 (3) (by decide)
    obtain ⟨x4, g4, e4⟩ := BsIn.good (show BsIn (E 4) 1 g.val from hk ⟨4, .data⟩ (by simp) rfl rfl) 0 3 (by decide) (by decide)
    obtain ⟨x6, g6, e6⟩ := BsIn.good (show BsIn (E 6) 1 g.val from hk ⟨6, .data⟩ (by simp) rfl rfl) 0 4 (by decide) (by decide)
    obtain ⟨x8, g8, e8⟩ := IsIn.good (show IsIn (E 8) 2 g.val from hk ⟨8, .data⟩ (by simp) rfl rfl) 4 4 (by decide) (by decide)
    obtain ⟨x10, g10, e10⟩ := BsIn.good (show BsIn (E 10) 1 g.val from hk ⟨10, .data⟩ (by simp) rfl rfl) 0 4 (by decide) (by decide)
    obtain ⟨x11, g11, e11⟩ := nil_good g.val 3 (1) (by decide)
    obtain ⟨x13, g13, e13⟩ := BsIn.good (show BsIn (E 13) 1 g.val from hk ⟨13, .data⟩ (by simp) rfl rfl) 0 0 (by decide) (by decide)
    obtain ⟨x14, g14, e14⟩ := nil_good g.val 2 (0) (by decide)
    obtain ⟨x15, g15, e15⟩ := nil_good g.val 0 (0) (by decide)
    obtain ⟨x16, g16, e16⟩ := nil_good g.val 4 (0) (by decide)
    obtain ⟨x17, g17, e17⟩ := nil_good g.val 0 (512) (by decide)
    obtain ⟨x19, g19, e19⟩ := BsIn.good (show BsIn (E 19) 129 g.val from hk ⟨19, .data⟩ (by simp) rfl rfl) 0 0 (by decide) (by decide)
    obtain ⟨x20, g20, e20⟩ := nil_good g.val 0 (-1) (by decide)
    obtain ⟨x22, g22, e22⟩ := BsIn.good (show BsIn (E 22) 128 g.val from hk ⟨22, .data⟩ (by simp) rfl rfl) 0 511 (by decide) (by decide)
    obtain ⟨x24, g24, e24⟩ := IsIn.good (show IsIn (E 24) 3 g.val from hk ⟨24, .data⟩ (by simp) rfl rfl) 4 4 (by decide) (by decide)
    clear hk
    go_simp
    refine ⟨_, rfl, ⟨⟨_, below1k _ _⟩, rfl⟩, ops_new _ _ g.size _ [x1, x2, x4, x6, x8, x10, x11, x13, x14, x15, x16, x17, x19, x20, x22, x24] rfl ?_ ?_⟩
    · intro x hx
      simp only [List.mem_cons, List.not_mem_nil, or_false] at hx
      rcases hx with rfl | rfl | rfl | rfl | rfl | rfl | rfl | rfl | rfl | rfl | rfl | rfl | rfl | rfl | rfl | rfl <;> assumption
    · unfold rowOps
      simp only [List.flatMap_cons, List.flatMap_nil, e1, e2, e4, e6, e8, e10, e11, e13, e14, e15, e16, e17, e19, e20, e22, e24]
      rfl
  simp only [Act.put, List.setIfInBounds_toArray, List.set_cons_succ, List.set_cons_zero, Nat.reduceAdd, mk1_25]
  refine (fun E w' hob ⟨g, hg⟩ => ?_)
  subst hg
  have own1 : OsIn w.heap.size (E 25) g.val := hob 25 (by decide) rfl
  clear hob
  dsimp only
  generalize E 25 = b25 at *
  have hb0 : Below w.heap.size w g.val := g.below
  generalize g.val = w1 at *
  clear g
  go_wp2
  have hb1 : Below w.heap.size w (w1.alloc (.cells (nums.map (Value.int .i64)).toArray 3)) := hb0.alloc hb0.size _
  have own2 : OsIn w.heap.size b25 (w1.alloc (.cells (nums.map (Value.int .i64)).toArray 3)) := own1.ext ⟨_, below1k _ _⟩
  have hN : ∀ (j : Nat) x, nums[j]? = some x → (w1.alloc (.cells (nums.map (Value.int .i64)).toArray 3)).cell? ⟨w1.heap.size, j, none⟩ = some (.int .i64 x) := fun j x hj => by
    have := new_cells w1 (nums.map (Value.int .i64)).toArray 3 j (.int .i64 x) (by simp [hj])
    rwa [Nat.zero_add] at this
  have hN2 : w1.heap.size < (w1.alloc (.cells (nums.map (Value.int .i64)).toArray 3)).heap.size := by simp
  change Code.wp _ _ _ _ (w1.alloc (.cells (nums.map (Value.int .i64)).toArray 3))
  generalize (w1.alloc (.cells (nums.map (Value.int .i64)).toArray 3)) = W at *
  generalize w1.heap.size = bN at *
  clear own1 hb0
  go_loopw [3, 4, 5] (fun v3 v4 v5 wr => ∃ i : Nat, i ≤ 12 ∧ v3 = .int .i64 i ∧ Below W.heap.size W wr) (fun v3 _ _ _ => 12 - (intOf v3).toNat)
  case atStart => exact ⟨0, by decide, rfl, Below.refl _ _⟩
  case round =>
    obtain ⟨i, hi, rfl, hb⟩ := hrel
    obtain ⟨wi, rfl⟩ : ∃ x : World, x = wr := ⟨_, rfl⟩
    by_cases hi2 : i < 12
    · have hi3 : (i : Int) < 12 := by omega
      go_wp2
      go_loopw [4, 5] (fun v4 v5 wr => ∃ k : Nat, k ≤ 12 ∧ v4 = .int .i64 k ∧ Below W.heap.size W wr) (fun v4 _ _ => 12 - (intOf v4).toNat)
      case atStart => exact ⟨0, by decide, rfl, hb⟩
      case round =>
        obtain ⟨q, hq, rfl, hb2⟩ := hrel
        by_cases hk2 : q < 12
        · have hk3 : (q : Int) < 12 := by omega
          have hk16 : (q : Int) ≤ 16 := by omega
          obtain ⟨x, hx⟩ : ∃ x, nums[i]? = some x := ⟨_, List.getElem?_eq_getElem (show i < nums.length from hi2)⟩
          obtain ⟨y, hy⟩ : ∃ y, nums[q]? = some y := ⟨_, List.getElem?_eq_getElem (show q < nums.length from hk2)⟩
          have hxlt := nums_lt hx
          have hylt := nums_lt hy
          have cx := ext_cell ((hb2.cell (p := ⟨bN, i, none⟩) hN2).trans (hN i x hx))
          have cy := ext_cell ((hb2.cell (p := ⟨bN, q, none⟩) hN2).trans (hN q y hy))
          have OWN : Hid (OsIn w.heap.size b25 wr) := Lib.hid (own2.keep (Nat.le_refl _) hb2)
          have ROW : Hid (∀ w, Calls Try.prog 24 #[.int .i64 ((i : Int) * 12)] w fun e w' => ∃ ao cap l, e = .returned (.slice ao (i * 12) cap) ∧ Below w.heap.size w w' ∧ w'.ownsRow w.heap.size 5 1 (.slice ao (i * 12) cap) (i * 12) (bts l)) := Lib.hid (fun w => by have := Row_any (i * 12) (by omega) w; rwa [Int.natCast_mul] at this)
          have hwr : IntKind.i64.wrap ((i : Int) * 12) = (i : Int) * 12 := wrap_k (by omega) (by omega)
          clear hx hy
          go_wp2
          refine Ls.wp_region_lays (β := Option Addr × Nat) (K := K9) (mk := mk9 q (i * 12) y) (ob := ob9 wr q (i * 12)) (hp9 _ _ _) 32 (by kernel_rfl) (by kernel_rfl) ?_
          simp only [List.take_succ_cons, List.drop_succ_cons, List.take_zero, List.drop_zero]
          (refine Ls.grow_lay rfl (fun _ => rfl) (fun E g hk => ?_) ?_)
          · go_simp
            exact ⟨(some ⟨_, 0, none⟩, 0), rfl, ⟨⟨_, below1k _ _⟩, rfl⟩, ⟨_, rfl, own_rowsk g.val _ 49 4 0 _ #[] rfl g.size (by decide) rfl⟩⟩
          simp only [Act.put, List.setIfInBounds_toArray, List.set_cons_succ, List.set_cons_zero, Nat.reduceAdd, mk9_0]
          (refine Ls.grow_step rfl (fun k hk => ?_); go_simp; (refine hk _ ?_; clear hk k))
          (refine Ls.grow_step rfl (fun k hk => ?_); go_simp; (refine hk _ ?_; clear hk k))
          (refine Ls.grow_step rfl (fun k hk => ?_); go_simp; (refine hk _ ?_; clear hk k))
          (refine Ls.grow_lay rfl (fun _ => rfl) (fun E g hk => ?_) ?_)
          · obtain ⟨b0, e0, h0⟩ := (show ob9 wr q (i * 12) 0 (E 0) g.val from hk ⟨0, .data⟩ (by simp) rfl rfl)
            clear hk
            rw [e0] at h0
            obtain ⟨L1, l1, l2, l3⟩ := OWN.out
            have l3 := own_ext l3 g
            refine makes_mono (makes_app0 elemOk (s := .tmp 45) (x := .tmp 48) (B := wr.heap.size) (g := b0) (m := q) (c := 16) (ad := ⟨b25, 0, none⟩) (news := rowOps (L1.take q)) ?_ h0 rfl (by rw [rowOps_length, List.length_take]; omega) (front_ops l3 l1 (by omega)) (rowOps_one _) (by omega) g.size) ?_
            · show Value.slice (E 0).1 0 0 = _
              rw [e0]
            · intro x g2 h2
              exact ⟨L1.take q, by rw [List.length_take]; omega, fun z hz => l2 z (List.mem_of_mem_take hz), h2⟩
          simp only [Act.put, List.setIfInBounds_toArray, List.set_cons_succ, List.set_cons_zero, Nat.reduceAdd, mk9_4]
          (refine Ls.grow_step rfl (fun k hk => ?_); go_simp; (refine hk _ ?_; clear hk k))
          (refine Ls.grow_step rfl (fun k hk => ?_); go_simp; (refine hk _ ?_; clear hk k))
          (refine Ls.grow_step rfl (fun k hk => ?_); go_simp; (refine hk _ ?_; clear hk k))
          (refine Ls.grow_step rfl (fun k hk => ?_); go_simp; (refine hk _ ?_; clear hk k))
          (refine Ls.grow_step rfl (fun k hk => ?_); go_simp; (refine hk _ ?_; clear hk k))
          (refine Ls.grow_step rfl (fun k hk => ?_); go_simp; (refine hk _ ?_; clear hk k))
          (refine Ls.grow_step rfl (fun k hk => ?_); go_simp; (refine hk _ ?_; clear hk k))
          (refine Ls.grow_step rfl (fun k hk => ?_); go_simp; (refine hk _ ?_; clear hk k))
          (refine Ls.grow_step rfl (fun k hk => ?_); go_simp; (refine hk _ ?_; clear hk k))
          (refine Ls.grow_step rfl (fun k hk => ?_); go_simp; (refine hk _ ?_; clear hk k))
          (refine Ls.grow_step rfl (fun k hk => ?_); go_simp; (refine hk _ ?_; clear hk k))
          (refine Ls.grow_lay rfl (fun _ => rfl) (fun E g hk => ?_) ?_)
          · show Mk.Oper.makesUpon _ _ (mk9 q (i * 12) y 16) (ob9 wr q (i * 12) 16) _
            refine makes_enter (f := 24) (args := #[.int .i64 ((i : Int) * 12)]) ?e ((ROW.out g.val).mono ?_)
            case e => go_simp
            rintro _ w2 ⟨ao, cap, l, rfl, hB, hown⟩
            exact ⟨(ao, cap), rfl, ⟨⟨w2, hB⟩, rfl⟩, ⟨l, by have := hown.1; rw [bts_length] at this; omega, own_base hown g.size⟩⟩
          simp only [Act.put, List.setIfInBounds_toArray, List.set_cons_succ, List.set_cons_zero, Nat.reduceAdd, mk9_16]
          (refine Ls.grow_lay rfl (fun _ => rfl) (fun E g hk => ?_) ?_)
          · have h := (show ob9 wr q (i * 12) 16 (E 16) g.val from hk ⟨16, .data⟩ (by simp) rfl rfl)
            clear hk
            go_simp
            exact ⟨E 16, rfl, ⟨⟨_, Below.refl _ _⟩, rfl⟩, h⟩
          simp only [Act.put, List.setIfInBounds_toArray, List.set_cons_succ, List.set_cons_zero, Nat.reduceAdd, mk9_17]
          (refine Ls.grow_step rfl (fun k hk => ?_); go_simp; (refine hk _ ?_; clear hk k))
          (refine Ls.grow_lay rfl (fun _ => rfl) (fun E g hk => ?_) ?_)
          · go_simp
            exact ⟨(some ⟨_, 0, none⟩, 0), rfl, ⟨⟨_, below1k _ _⟩, rfl⟩, ⟨[1], rfl, own_rowsk g.val _ 5 1 1 _ #[_] rfl g.size (by decide) rfl⟩⟩
          simp only [Act.put, List.setIfInBounds_toArray, List.set_cons_succ, List.set_cons_zero, Nat.reduceAdd, mk9_19]
          (refine Ls.grow_lay rfl (fun _ => rfl) (fun E g hk => ?_) ?_)
          · have h := (show ob9 wr q (i * 12) 19 (E 19) g.val from hk ⟨19, .data⟩ (by simp) rfl rfl)
            clear hk
            go_simp
            exact ⟨E 19, rfl, ⟨⟨_, Below.refl _ _⟩, rfl⟩, h⟩
          simp only [Act.put, List.setIfInBounds_toArray, List.set_cons_succ, List.set_cons_zero, Nat.reduceAdd, mk9_20]
          (refine Ls.grow_step rfl (fun k hk => ?_); go_simp; (refine hk _ ?_; clear hk k))
          (refine Ls.grow_step rfl (fun k hk => ?_); go_simp; (refine hk _ ?_; clear hk k))
          (refine Ls.grow_step rfl (fun k hk => ?_); go_simp; (refine hk _ ?_; clear hk k))
          (refine Ls.grow_step rfl (fun k hk => ?_); go_simp; (refine hk _ ?_; clear hk k))
          (refine Ls.grow_step rfl (fun k hk => ?_); go_simp; (refine hk _ ?_; clear hk k))
          (refine Ls.grow_step rfl (fun k hk => ?_); go_simp; (refine hk _ ?_; clear hk k))
          (refine Ls.grow_step rfl (fun k hk => ?_); go_simp; (refine hk _ ?_; clear hk k))
          (refine Ls.grow_step rfl (fun k hk => ?_); go_simp; (refine hk _ ?_; clear hk k))
          (refine Ls.grow_lay rfl (fun _ => rfl) (fun E g hk => ?_) ?_)
          · go_simp
            exact ⟨(some ⟨_, 0, none⟩, 0), rfl, ⟨⟨_, below1k _ _⟩, rfl⟩, ⟨[x, y], rfl, own_rowsk g.val _ 3 1 2 _ #[_, _] rfl g.size (by decide) rfl⟩⟩
          simp only [Act.put, List.setIfInBounds_toArray, List.set_cons_succ, List.set_cons_zero, Nat.reduceAdd, mk9_29]
          (refine Ls.grow_lay rfl (fun _ => rfl) (fun E g hk => ?_) ?_)
          · have h := (show ob9 wr q (i * 12) 29 (E 29) g.val from hk ⟨29, .data⟩ (by simp) rfl rfl)
            clear hk
            go_simp
            exact ⟨E 29, rfl, ⟨⟨_, Below.refl _ _⟩, rfl⟩, h⟩
          simp only [Act.put, List.setIfInBounds_toArray, List.set_cons_succ, List.set_cons_zero, Nat.reduceAdd, mk9_30]
          (refine Ls.grow_lay rfl (fun _ => rfl) (fun E g hk => ?_) ?_)
          · obtain ⟨l1, m1, s1⟩ := (show ob9 wr q (i * 12) 17 (E 17) g.val from hk ⟨17, .data⟩ (by simp) rfl rfl)
            obtain ⟨l2, m2, s2⟩ := (show ob9 wr q (i * 12) 20 (E 20) g.val from hk ⟨20, .data⟩ (by simp) rfl rfl)
            obtain ⟨l3, m3, s3⟩ := (show ob9 wr q (i * 12) 30 (E 30) g.val from hk ⟨30, .data⟩ (by simp) rfl rfl)
            have nB : ∀ e, g.val.ownsRow wr.heap.size e 1 (.slice none 0 0) 0 [] := fun e => World.ownsRow_nil _ _ _ _
            have t1 : (⟨3, x, [], none, 0, [], none, 0⟩ : OpW).Mine wr.heap.size g.val := ⟨nB 5, nB 3, Nat.zero_le _, Nat.zero_le _, hxlt⟩
            have t2 : (⟨0, y, l1, (E 17).1, (E 17).2, [], none, 0⟩ : OpW).Mine wr.heap.size g.val := ⟨by unfold OpW.vB; rw [m1]; exact s1, nB 3, by show l1.length ≤ _; omega, Nat.zero_le _, hylt⟩
            have t3 : (⟨2, 0, [], none, 0, [], none, 0⟩ : OpW).Mine wr.heap.size g.val := ⟨nB 5, nB 3, Nat.zero_le _, Nat.zero_le _, by decide⟩
            have t4 : (⟨0, 7, l2, (E 20).1, 1, [], none, 0⟩ : OpW).Mine wr.heap.size g.val := ⟨by unfold OpW.vB; rw [m2]; exact s2, nB 3, by show l2.length ≤ _; omega, Nat.zero_le _, by show (7 : Int) < _; decide⟩
            have t5 : (⟨4, 7, [], none, 0, l3, (E 30).1, 2⟩ : OpW).Mine wr.heap.size g.val := ⟨nB 5, by unfold OpW.vK; rw [m3]; exact s3, Nat.zero_le _, by show l3.length ≤ _; omega, by show (7 : Int) < _; decide⟩
            clear hk s1 s2 s3
            have hr : rowOps [⟨3, x, [], none, 0, [], none, 0⟩, ⟨0, y, l1, (E 17).1, (E 17).2, [], none, 0⟩, ⟨2, 0, [], none, 0, [], none, 0⟩, ⟨0, 7, l2, (E 20).1, 1, [], none, 0⟩, ⟨4, 7, [], none, 0, l3, (E 30).1, 2⟩] =
                (#[.int .i64 3, .int .i64 x, .slice none 0 0, .slice none 0 0, .int .i64 0, .int .i64 y, .slice (E 17).1 (i * 12) (E 17).2, .slice none 0 0, .int .i64 2, .int .i64 0, .slice none 0 0, .slice none 0 0,
                  .int .i64 0, .int .i64 7, .slice (E 20).1 1 1, .slice none 0 0, .int .i64 4, .int .i64 7, .slice none 0 0, .slice (E 30).1 2 2] : Array Value).toList := by
              unfold rowOps OpW.row OpW.vB OpW.vK
              rw [List.flatMap_cons, List.flatMap_cons, List.flatMap_cons, List.flatMap_cons, List.flatMap_cons, List.flatMap_nil]
              rw [m1, m2, m3]
              rfl
            have HR := Lib.hid hr
            have HT := Lib.hid (And.intro t1 (And.intro t2 (And.intro t3 (And.intro t4 t5))))
            clear hr t1 t2 t3 t4 t5 nB m1 m2 m3
            go_simp
            refine ⟨(some ⟨_, 0, none⟩, 0), rfl, ⟨⟨_, below1k _ _⟩, rfl⟩, ⟨_, rfl, _, rfl, ?_, by rw [HR.out]; exact own_rowsk g.val _ 49 4 5 _ _ rfl g.size (by decide) rfl⟩⟩
            intro z hz
            simp only [List.mem_cons, List.not_mem_nil, or_false] at hz
            obtain ⟨t1, t2, t3, t4, t5⟩ := HT.out
            rcases hz with rfl | rfl | rfl | rfl | rfl
            · exact OpW.Mine.ext t1 ⟨_, below1k _ _⟩
            · exact OpW.Mine.ext t2 ⟨_, below1k _ _⟩
            · exact OpW.Mine.ext t3 ⟨_, below1k _ _⟩
            · exact OpW.Mine.ext t4 ⟨_, below1k _ _⟩
            · exact OpW.Mine.ext t5 ⟨_, below1k _ _⟩
          simp only [Act.put, List.setIfInBounds_toArray, List.set_cons_succ, List.set_cons_zero, Nat.reduceAdd, mk9_31]
          refine (fun E w' hob ⟨g, hg⟩ => ?_)
          subst hg
          obtain ⟨L1, l1, l2, l3⟩ := (show ob9 wr q (i * 12) 4 (E 4) g.val from hob 4 (by decide) rfl)
          obtain ⟨b5, e5, L2, m1, m2, m3⟩ := (show ob9 wr q (i * 12) 31 (E 31) g.val from hob 31 (by decide) rfl)
          clear hob
          rw [e5] at m3
          dsimp only
          rw [e5]
          have L2m := Lib.hid m2
          have L1m := Lib.hid l2
          clear m2 l2 OWN ROW cx cy
          go_wp2_with (at_builtin; refine wp_app_at elemOk rfl _ _ rfl (B := wr.heap.size) (n := q) (xs := rowOps L1) (news := rowOps L2) rfl l3 rfl (by rw [rowOps_length, m1]) (fun j u hj => m3.cells (g := b5) rfl j u hj) (rowOps_one _) (by decide) (by omega) g.size ?_)
          intro g5 cap5 w5 hown5 hgrow _ _
          have hbw : Below wr.heap.size wr w5 := g.below.trans ((Below.refl _ _).grown hgrow g.size (own_block l3))
          have hrow : w5.ownsRow wr.heap.size 49 4 (.slice (some ⟨g5, 0, none⟩) (q + 5) cap5) (q + 5) (rowOps (L1 ++ L2)) := by rw [rowOps_append]; exact hown5
          have hops := Lib.hid (opsW_own hrow (by rw [List.length_append]; omega) (by omega) (fun z hz => by
            rcases List.mem_append.1 hz with h | h
            · exact (L1m.out z h).keep (Nat.le_refl _) hbw
            · exact ((L2m.out z h).apart hgrow l3).good))
          have hb3 : Below W.heap.size W w5 := hb2.trans (hbw.mono hb2.size)
          clear hown5 hgrow l3 m3 L1m L2m hrow l1 m1 hbw e5
          go_wp2_with (go_at_call 4; refine (Runs_any hops.out).mono ?_; rintro _ _ ⟨rfl, g6, rfl⟩)
          go_roundw
          case rel => exact ⟨q + 1, by omega, rfl, hb3.trans (g6.below.mono hb3.size)⟩
          case measure => simp [intOf]; omega
        · go_wp2
          go_roundw
          case rel => exact ⟨i + 1, by omega, rfl, hb2⟩
          case measure => simp [intOf]; omega
    · have hi3 : ¬ (i : Int) < 12 := by omega
      obtain ⟨L, l1, l2, l3⟩ := own2.keep (Nat.le_refl _) hb
      have hops := Lib.hid (opsW_own l3 l1 (by decide) l2)
      have hbw := hb1.trans (hb.mono hb1.size)
      clear l3 l2 l1 own2 hN hN2
      go_wp2_with (first
        | (go_at_call 4; refine (Runs_any hops.out).mono ?_; rintro _ _ ⟨rfl, g6, rfl⟩)
        | (go_at_call 3; refine (fates_lit _).mono ?_; rintro _ w7 ⟨rfl, hb7⟩)
        | (go_at_call 5; refine (strikes_lit _ puts0 rfl).mono ?_; rintro _ w8 ⟨rfl, hb8⟩)
        | (go_at_call 8; refine (works_any _).mono ?_; rintro _ _ ⟨rfl, g9, rfl⟩))
      go_ret
      have z1 := hbw.trans (g6.below.mono hbw.size)
      have z2 := z1.trans (hb7.mono z1.size)
      have z3 := z2.trans (hb8.mono z2.size)
      exact Ret.mk_of (z3.trans (g9.below.mono z3.size)) rfl
end Go.Proofs.Ytcedgoaanlbldaa
