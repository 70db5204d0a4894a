/- What is proved: the rates that are right, as an iterator; what a sort of a slice's own row leaves; Median (turned from the kit's worked proof on filter and collect). No condition but those each law names. -/
import Derived.Test.YtiancafoipllbaaR2
import Derived.Sort.Grow
import Derived.Test.YtiancafoipllbaaR3
namespace Go.Proofs.Ytiancafoipllbaa
open Go.RowKit Go.Shelf Go.Sort Fl

attribute [local go_sem] Oper.semAt_some
attribute [-go_sem] binOp_float_cmp_eql binOp_float_cmp_neq binOp_float_cmp_lss binOp_float_cmp_leq binOp_float_cmp_gtr binOp_float_cmp_geq
attribute [local go_sem] Fl.cmp_eql Fl.cmp_neq Fl.cmp_lss Fl.cmp_leq Fl.cmp_gtr Fl.cmp_geq

set_option maxRecDepth 100000 in
set_option maxHeartbeats 1000000 in
/-- .. at the nil slice: no round. -/
theorem right1_nil (n : Nat) (l Bs : Nat) (sa : Option Addr) (sc : Nat) (J : List Nat → World → Prop) (W : World) (hBs : W.cell? ⟨Bs, 0, none⟩ = some (.slice sa 0 sc)) (h0 : J [] W) :
    CallsIn Fence.wide n Try.prog 39 #[.func (.yield l) #[] #[], .pointer (some ⟨Bs, 0, none⟩)] W fun e W' => (∃ v, e = .returned v) ∧ J [] W' := by
  refine callsIn_of_wp Try.func39 rfl trivial ?_ rfl
  simp only [Try.ntmps39, List.size_toArray, List.length_cons, List.length_nil, Nat.reduceAdd, Nat.reduceSub, Array.replicate_succ, Array.replicate_zero, List.push_toArray, List.append_toArray, List.nil_append, List.cons_append]
  gi_wp2
  gi_loopw [7] (fun i wr => i = .int .i64 0 ∧ J [] wr) (fun _ _ => 0)
  case atStart => exact ⟨rfl, h0⟩
  case round =>
    obtain ⟨rfl, hJs⟩ := hrel
    gi_wp2
    go_end0
    exact ⟨⟨_, rfl⟩, hJs⟩
set_option maxRecDepth 100000 in
set_option maxHeartbeats 1000000 in
/-- right(l): the slice is boxed; the function value captures the box. -/
theorem right_in (n : Nat) (a : Option Addr) (len cap : Nat) (w : World) :
    CallsIn Fence.wide n Try.prog 28 #[.slice a len cap] w fun e w' => e = .returned (.func (.func 39) #[] #[.pointer (some ⟨w.heap.size, 0, none⟩)]) ∧ w' = w.alloc (.cells #[.slice a len cap] 22) := by
  refine callsIn_of_wp Try.func28 rfl trivial ?_ rfl
  simp only [Try.ntmps28, List.size_toArray, List.length_cons, List.length_nil, Nat.reduceAdd, Nat.reduceSub, Array.replicate_succ, Array.replicate_zero, List.push_toArray, List.append_toArray, List.nil_append, List.cons_append]
  gi_wp2
  go_ret
  exact ⟨rfl, rfl⟩
/-- The slice holds these floats, in a block below n₀; or it is nil and there are none. -/
def Floats (n₀ : Nat) (W : World) (sv : Value) (zs : List Nat) : Prop :=
  (∃ sa sc, sv = .slice sa 0 sc ∧ zs = []) ∨ ∃ b off cap, sv = .slice (some ⟨b, off, none⟩) zs.length cap ∧ b < n₀ ∧ ∀ j (h : j < zs.length), W.cell? ⟨b, off + j, none⟩ = some (.float .f64 zs[j])
theorem Floats.below {n₀ : Nat} {A B : World} (h : Below n₀ A B) {sv : Value} {zs : List Nat} : Floats n₀ A sv zs → Floats n₀ B sv zs
  | .inl e => .inl e
  | .inr ⟨b, off, cap, e, hb, hc⟩ => .inr ⟨b, off, cap, e, hb, fun j hj => (h.cell (p := ⟨b, off + j, none⟩) hb).trans (hc j hj)⟩
theorem right_stops (n : Nat) (hn : 1 ≤ n) (Bs n₀ : Nat) (sv : Value) (zs : List Nat) (hreach : zs.length * 8 ≤ 140737488351232) (w : World) (hBs : Bs < w.heap.size) (hn₀ : n₀ ≤ w.heap.size)
    (hc : w.cell? ⟨Bs, 0, none⟩ = some sv) (hI : Floats n₀ w sv zs) :
    SeqStopsK Fence.wide n Try.prog 39 #[.pointer (some ⟨Bs, 0, none⟩)] (fun x : Nat => #[Value.float .f64 x]) (Below n₀) (fun ys => ys = rights zs) (fun pre => pre <+: rights zs) zs.length w := fun l J Jx W hW _ _ hY h0 => by
  have hc' := (hW.cell (p := ⟨Bs, 0, none⟩) hBs).trans hc
  rcases hI.below (hW.mono hn₀) with ⟨sa, sc, rfl, rfl⟩ | ⟨b, off, cap, rfl, hb, hcs⟩
  · refine (right1_nil n l Bs sa sc J W hc' h0).mono ?_
    rintro e W' ⟨h1, h2⟩
    exact ⟨h1, .inl ⟨[], rfl, h2⟩⟩
  · exact right1_in n hn l Bs n₀ b off cap zs hreach hb J Jx hY W hc' hcs h0
/-- What a sort leaves of a world: the row of block g holds ys; new blocks may have come. -/
structure Sorted1 (g : Nat) (ys : List Nat) (W W' : World) : Prop where
  os : W'.os = W.os
  tape : W'.tape = W.tape
  output : W'.output = W.output
  size : W.heap.size ≤ W'.heap.size
  other : ∀ k, k < W.heap.size → k ≠ g → W'.heap[k]? = W.heap[k]?
  row : ∀ cur e fr, W.heap[g]? = some (.cells cur e fr) → W'.heap[g]? = some (.cells (putCells flV 0 ys.toArray cur) e fr)
theorem sorted_grow {g : Nat} {ys : List Nat} {W : World} (hg : g < W.heap.size) (n : Nat) (os : Array Obj) : Sorted1 g ys W (grow (putRow flV (Sort.ahead W n) g 0 ys.toArray) os) := by
  refine ⟨rfl, rfl, rfl, by simp, fun k hk hne => ?_, fun cur e fr h => ?_⟩
  · rw [heap_grow_old _ _ (by simpa using hk)]
    show ((W.heap.modify g _)[k]?) = _
    rw [Array.getElem?_modify, if_neg (Ne.symm hne)]
  · rw [heap_grow_old _ _ (by simpa using hg)]
    show ((W.heap.modify g _)[g]?) = _
    rw [Array.getElem?_modify, if_pos rfl, h]
    rfl
theorem Sorted1.keeps {g : Nat} {ys : List Nat} {W W' : World} (h : Sorted1 g ys W W') (hg : ∃ cur e fr, W.heap[g]? = some (.cells cur e fr)) : KeepsOthers W W' := by
  refine ⟨h.size, fun k o ho hc => ?_⟩
  have hk := (Array.getElem?_eq_some_iff.1 ho).1
  by_cases e : k = g
  · subst e
    obtain ⟨cur, e, fr, h'⟩ := hg
    rw [h'] at ho
    cases ho
    cases hc
  · rw [h.other k hk e]
    exact ho
theorem Sorted1.below {g n : Nat} {ys : List Nat} {W W' : World} (h : Sorted1 g ys W W') (hn : n ≤ g) (hg : g < W.heap.size) : Below n W W' :=
  ⟨h.os, h.tape, h.output, h.size, fun k hk => h.other k (by omega) (by omega)⟩
theorem Sorted1.own {g len cap n : Nat} {xs ys : List Nat} {W W' : World} (h : Sorted1 g ys W W') (hx : W.ownsRow n 24 1 (.slice (some ⟨g, 0, none⟩) len cap) len (xs.map flV)) (hl : ys.length = len) : W'.ownsRow n 24 1 (.slice (some ⟨g, 0, none⟩) len cap) len (ys.map flV) := by
  obtain ⟨hxl, hx⟩ := hx
  rcases hx with ⟨e, _⟩ | ⟨g', cap', cur, e, h1, h2, h3, h4, h5, h6⟩
  · cases e
  · cases e
    refine ⟨by rw [List.length_map]; omega, .inr ⟨g, cap, _, rfl, h1, h.row _ _ _ h2, h3, h4, by unfold putCells; simpa using h5, ?_⟩⟩
    apply List.ext_getElem?
    intro j
    rw [Nat.mul_one, List.getElem?_take, List.getElem?_map]
    by_cases hj : j < len
    · rw [if_pos hj]
      unfold putCells
      rw [Array.getElem?_toList, Array.getElem?_mapIdx, Array.getElem?_eq_getElem (by omega)]
      have hjy : j < ys.length := by omega
      rw [Option.map_some, if_pos ⟨Nat.zero_le _, by simpa using hjy⟩, List.getElem?_eq_getElem hjy]
      simp [hjy]
    · rw [if_neg hj, List.getElem?_eq_none (by omega)]
      rfl
theorem Sorted1.boxed {g B len cap n : Nat} {t : TypeId} {u : Value} {xs : List Value} {ys : List Nat} {W W' : World} (h : Sorted1 g ys W W') (hb : Boxed W B t u) (ht : t ≠ 24) (hx : W.ownsRow n 24 1 (.slice (some ⟨g, 0, none⟩) len cap) len xs) : Boxed W' B t u := by
  have hne := hb.not_row ht hx
  exact (h.other B hb.lt fun e => hne (by rw [e]; rfl)).trans hb
/-- The sort turns xs into ys, wherever a slice owns xs. -/
def SortsAt (xs ys : List Nat) : Prop := ys.length = xs.length ∧ ∀ (W : World) (n₀ : Nat) (v : Value), W.ownsRow n₀ 24 1 v xs.length (xs.map flV) →
  Calls Try.prog 29 #[v] W fun e W' => e = .returned (.tuple #[]) ∧ ((v = .slice none 0 0 ∧ W' = W) ∨ ∃ g cap, v = .slice (some ⟨g, 0, none⟩) xs.length cap ∧ Sorted1 g ys W W')
end Go.Proofs.Ytiancafoipllbaa
