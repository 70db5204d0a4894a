/- What is proved: the library's bits.Len is the one that the shelf knows (printed by the shelf's plain mode); the top of slices.Sort at short slices of floats: the insertion sort. No condition but those each law names. -/
import Derived.Shelf.Small.Bits
import Derived.Test.YtiancafoipllbaaProg
import Derived.Test.YtiancafoipllbaaR4
import Derived.Test.YtiancafoipllbaaR5
namespace Go.Proofs.Ytiancafoipllbaa
open Go.Shelf Go.RowKit Go.Sort Fl
attribute [-go_sem] binOp_float_cmp_eql binOp_float_cmp_neq binOp_float_cmp_lss binOp_float_cmp_leq binOp_float_cmp_gtr binOp_float_cmp_geq
attribute [local go_sem] Fl.cmp_eql Fl.cmp_neq Fl.cmp_lss Fl.cmp_leq Fl.cmp_gtr Fl.cmp_geq
set_option maxRecDepth 100000
def lenLay_ren : Go.Shelf.Ren := ⟨fun | 125 => 41 | 128 => 55 | 129 => 56 | n => n, fun | 46 => 59 | 3 => 3 | 51 => 69 | 53 => 52 | 4 => 4 | 5 => 5 | 9 => 9 | n => n, fun | n => n⟩
theorem lenLay : Go.Proofs.Lays.n125 Try.prog lenLay_ren := {
  mixed := by kernel_rfl
  f125 := Try.func41.trans (congrArg some (by kernel_rfl))
  f128 := Try.func55.trans (congrArg some (by kernel_rfl))
  f129 := Try.func56.trans (congrArg some (by kernel_rfl))
  t3 := Try.underlying3
  a3 := Try.isAgg3
  z3 := Try.sizeOf3
  v3 := Try.zeroValue3
  t4 := Try.underlying4
  a4 := Try.isAgg4
  z4 := Try.sizeOf4
  v4 := Try.zeroValue4
  t5 := Try.underlying5
  a5 := Try.isAgg5
  z5 := Try.sizeOf5
  v5 := Try.zeroValue5
  t9 := Try.underlying9
  a9 := Try.isAgg9
  z9 := Try.sizeOf9
  v9 := Try.zeroValue9
  t46 := Try.underlying59
  a46 := Try.isAgg59
  z46 := Try.sizeOf59
  v46 := Try.zeroValue59
  t51 := Try.underlying69
  a51 := Try.isAgg69
  z51 := Try.sizeOf69
  v51 := Try.zeroValue69
  t53 := Try.underlying52
  a53 := Try.isAgg52
  z53 := Try.sizeOf52
  v53 := Try.zeroValue52 }
theorem len_lay (x : Int) (w : World) (h0 : 0 ≤ x) (h1 : x ≤ 18446744073709551615) :
    Calls Try.prog 41 #[.int .u64 x] w fun e w' => e = .returned (.int .i64 (Lib.bitLen x.toNat)) ∧ w' = w := Any.bits_Len lenLay x w h0 h1

set_option maxHeartbeats 2000000 in
theorem pdq_small (blk off cap : Nat) (lim : Int) (d : Array Fn) (w : World) (hH : Holds flF w blk off d) (hsz : d.size ≤ 12) :
    Calls Try.prog 40 #[.slice (some ⟨blk, off, none⟩) d.size cap, .int .i64 0, .int .i64 d.size, .int .i64 lim] w fun e w' =>
      e = .returned (.tuple #[]) ∧ ∃ n, w' = putRow flF (Sort.ahead w n) blk off (insertionSort ltF d 0 d.size) := by
  go_enter Try.func40, Try.ntmps40
  go_wp2
  refine wp_loop_rounds 1 ?_
  rw [rounds_succ]
  go_wp2_with (go_at_call 46; refine (ins_any blk off cap 0 d.size d _ hH (Nat.zero_le _) (Nat.le_refl _) (by omega)).mono ?_; rintro _ _ ⟨rfl, n, rfl⟩)
  exact bodyPost_ret (results_none rfl _ _ _) rfl ⟨rfl, n, rfl⟩
set_option maxHeartbeats 2000000 in
theorem sort_small (blk off cap : Nat) (d : Array Fn) (w : World) (hH : Holds flF w blk off d) (hsz : d.size ≤ 12) :
    Calls Try.prog 29 #[.slice (some ⟨blk, off, none⟩) d.size cap] w fun e w' =>
      e = .returned (.tuple #[]) ∧ ∃ n, w' = putRow flF (Sort.ahead w n) blk off (insertionSort ltF d 0 d.size) := by
  go_enter Try.func29, Try.ntmps29
  go_wp2_with (first
    | (go_at_call 41; refine (len_lay _ _ (by omega) (by omega)).mono ?_; rintro _ _ ⟨rfl, rfl⟩)
    | (go_at_call 40; refine (pdq_small blk off cap _ d _ hH hsz).mono ?_; rintro _ _ ⟨rfl, n, rfl⟩))
  go_end0
  exact ⟨rfl, n, rfl⟩
theorem ins_nil (w : World) : Calls Try.prog 46 #[.slice none 0 0, .int .i64 0, .int .i64 0] w fun e w' => e = .returned (.tuple #[]) ∧ w' = w := by
  go_enter Try.func46, Try.ntmps46
  go_wp2
  refine wp_loop_rounds 1 ?_
  rw [rounds_succ]
  go_wp2
  go_end0
  exact ⟨rfl, rfl⟩
set_option maxHeartbeats 2000000 in
theorem pdq_nil (lim : Int) (w : World) : Calls Try.prog 40 #[.slice none 0 0, .int .i64 0, .int .i64 0, .int .i64 lim] w fun e w' => e = .returned (.tuple #[]) ∧ w' = w := by
  go_enter Try.func40, Try.ntmps40
  go_wp2
  refine wp_loop_rounds 1 ?_
  rw [rounds_succ]
  go_wp2_with (go_at_call 46; refine (ins_nil _).mono ?_; rintro _ _ ⟨rfl, rfl⟩)
  exact bodyPost_ret (results_none rfl _ _ _) rfl ⟨rfl, rfl⟩
theorem sort_nil (w : World) : Calls Try.prog 29 #[.slice none 0 0] w fun e w' => e = .returned (.tuple #[]) ∧ w' = w := by
  go_enter Try.func29, Try.ntmps29
  go_wp2_with (first
    | (go_at_call 41; refine (len_lay _ _ (by omega) (by omega)).mono ?_; rintro _ _ ⟨rfl, rfl⟩)
    | (go_at_call 40; refine (pdq_nil _ _).mono ?_; rintro _ _ ⟨rfl, rfl⟩))
  go_end0
  exact ⟨rfl, rfl⟩
theorem map_at (d : Array Fn) {k : Nat} (hk : k < d.size) : (d.map (·.1))[k]! = (d[k]!).1 := by
  rw [getElem!_pos _ k (by simpa using hk), getElem!_pos _ k hk, Array.getElem_map]
theorem putRow_val (w : World) (blk off : Nat) (d : Array Fn) : putRow flF w blk off d = putRow flV w blk off (d.map (·.1)) := by
  have e : putCells flF off d = putCells flV off (d.map (·.1)) := by
    funext c
    unfold putCells
    apply Array.ext_getElem?
    intro k
    rw [Array.getElem?_mapIdx, Array.getElem?_mapIdx]
    cases c[k]? with
    | none => rfl
    | some v =>
      rw [Option.map_some, Option.map_some]
      by_cases h : off ≤ k ∧ k < off + d.size
      · rw [if_pos h, if_pos (by simpa using h), map_at d (by omega)]
        rfl
      · rw [if_neg h, if_neg (by simpa using h)]
  unfold putRow
  rw [e]
/-- A slice that owns its row, as the sort's walks have it. -/
theorem own_holds {W : World} {n₀ : Nat} {g len cap : Nat} {fs : List Fn} (h : W.ownsRow n₀ 24 1 (.slice (some ⟨g, 0, none⟩) len cap) len ((fs.map (·.1)).map flV)) : Holds flF W g 0 fs.toArray ∧ g < W.heap.size := by
  obtain ⟨hl, h⟩ := h
  rcases h with ⟨e, _⟩ | ⟨g', cap', cur, e, h1, h2, h3, h4, h5, h6⟩
  · cases e
  · cases e
    have hl' : fs.length = len := by rw [List.length_map, List.length_map] at hl; omega
    refine ⟨fun i hi => ?_, (Array.getElem?_eq_some_iff.1 h2).1⟩
    have hi' : i < fs.length := by simpa using hi
    have hc : cur.toList[i]? = some (flF fs[i]) := by
      have := congrArg (fun l => l[i]?) h6
      simp only [Nat.mul_one] at this
      rw [List.getElem?_take_of_lt (by omega), List.getElem?_map, List.getElem?_map, List.getElem?_eq_getElem hi'] at this
      exact this
    rw [Array.getElem?_toList] at hc
    have hx : fs.toArray[i]! = fs[i] := by simp [hi']
    rw [hx, Nat.zero_add]
    constructor
    · unfold World.cell?
      simp only [h2]
      exact hc
    · unfold World.frozen?
      simp only [h2]
      simp
/-- The sort of floats, at each slice that holds these: it leaves that. -/
def WalkSort (fs out : List Fn) : Prop := ∀ (blk off cap : Nat) (w : World), Holds flF w blk off fs.toArray → blk < w.heap.size →
  Calls Try.prog 29 #[.slice (some ⟨blk, off, none⟩) fs.length cap] w fun e w' => e = .returned (.tuple #[]) ∧ ∃ n os, w' = grow (putRow flF (Sort.ahead w n) blk off out.toArray) os
theorem WalkSort.at {fs out : List Fn} (h : WalkSort fs out) (hl : out.length = fs.length) : SortsAt (fs.map (·.1)) (out.map (·.1)) := by
  refine ⟨by rw [List.length_map, List.length_map, hl], fun W n₀ v hv => ?_⟩
  obtain ⟨hl0, hv'⟩ := id hv
  rw [List.length_map] at hv
  rcases hv' with ⟨rfl, h0⟩ | ⟨g, cap, cur, rfl, h1, h2, h3, h4, h5, h6⟩
  · exact (sort_nil W).mono fun _ _ ⟨he, hw⟩ => ⟨he, .inl ⟨rfl, hw⟩⟩
  · rw [List.length_map] at hv ⊢
    obtain ⟨hH, hg⟩ := own_holds hv
    refine (h g 0 cap W hH hg).mono ?_
    rintro _ _ ⟨rfl, n, os, rfl⟩
    refine ⟨rfl, .inr ⟨g, cap, rfl, ?_⟩⟩
    rw [putRow_val]
    have := sorted_grow (ys := out.map (·.1)) hg n os
    rwa [List.map_toArray]
/-- .. in their order. -/
def sortL (fs : List Fn) : List Fn := fs.mergeSort fun x y => !ltF y x
theorem sortL_length (fs : List Fn) : (sortL fs).length = fs.length := List.length_mergeSort _
theorem sorts_small (fs : List Fn) (h : fs.length ≤ 12) : SortsAt (fs.map (·.1)) ((sortL fs).map (·.1)) := by
  refine WalkSort.at (fun blk off cap w hH _ => ?_) (sortL_length fs)
  have hsz : fs.toArray.size = fs.length := List.size_toArray
  obtain ⟨hP, hSo⟩ := insertionSort_holds swoF fs.toArray 0 fs.toArray.size (Nat.zero_le _) (Nat.le_refl _)
  have hu : (insertionSort ltF fs.toArray 0 fs.toArray.size).toList = sortL fs := sorted_unique_holds swoF (fun x y h1 h2 => Subtype.ext (by have := of_decide_eq_false h1; have := of_decide_eq_false h2; omega)) fs.toArray _ hP hSo
  have hc := sort_small blk off cap fs.toArray w hH (by omega)
  rw [hsz] at hc hu
  refine hc.mono ?_
  rintro _ _ ⟨rfl, n, rfl⟩
  exact ⟨rfl, n, #[], by rw [← hu, Sort.grow_empty]⟩
end Go.Proofs.Ytiancafoipllbaa
