/- What is proved: the insertion sort of floats computes what the library's plain function does; nothing else turns but the count of draws. Conditions: the slice's cells are there and may be written. -/
import Derived.Test.YtiancafoipllbaaR3
namespace Go.Proofs.Ytiancafoipllbaa
open Go.RowKit Go.Sort Fl
attribute [-go_sem] binOp_float_cmp_eql binOp_float_cmp_neq binOp_float_cmp_lss binOp_float_cmp_leq binOp_float_cmp_gtr binOp_float_cmp_geq
attribute [local go_sem] store_float Fl.cmp_eql Fl.cmp_neq Fl.cmp_lss Fl.cmp_leq Fl.cmp_gtr Fl.cmp_geq
set_option maxRecDepth 100000

def numOf : Value → Int
  | .int _ q => q
  | _ => 0
section
variable {α : Type} [Inhabited α] {lt : α → α → Bool}
theorem inner_step {a j : Nat} {d : Array α} (hj : a < j) (hl : lt d[j]! d[j - 1]! = true) : insInner lt a j d = insInner lt a (j - 1) (swp d j (j - 1)) := by
  cases j with
  | zero => omega
  | succ k =>
    rw [Nat.add_sub_cancel] at hl ⊢
    rw [insInner, if_pos (by rw [hl, decide_eq_true hj]; rfl)]
theorem inner_end {a j : Nat} {d : Array α} (h : j ≤ a ∨ lt d[j]! d[j - 1]! = false) : insInner lt a j d = d := by
  cases j with
  | zero => rw [insInner]
  | succ k =>
    rw [Nat.add_sub_cancel] at h
    rw [insInner, if_neg]
    rcases h with h | h
    · rw [decide_eq_false (by omega)]; simp
    · rw [h]; simp
theorem outer_step {a b i : Nat} {d : Array α} (h : i < b) : insOuter lt a b i d = insOuter lt a b (i + 1) (insInner lt a i d) := by rw [insOuter, if_pos h]
theorem outer_end {a b i : Nat} {d : Array α} (h : ¬ i < b) : insOuter lt a b i d = d := by rw [insOuter, if_neg h]
end
theorem row_draws (w : World) (m q blk off : Nat) (d : Array Fn) : (putRow flF (Sort.ahead w m) blk off d).drewN q = putRow flF (Sort.ahead w (m + q)) blk off d := by
  show Sort.ahead (putRow flF (Sort.ahead w m) blk off d) q = _
  rw [putRow_ahead flF w m, ahead_ahead, ← putRow_ahead]
theorem row_swap (w : World) (m q blk off : Nat) (d : Array Fn) {j k : Nat} (hj : j < d.size) (hk : k < d.size) :
    (((putRow flF (Sort.ahead w m) blk off d).drewN q).setCell ⟨blk, off + j, none⟩ (flF d[k]!)).setCell ⟨blk, off + k, none⟩ (flF d[j]!) = putRow flF (Sort.ahead w (m + q)) blk off (swp d j k) := by
  rw [row_draws]
  exact putRow_swp flF _ blk off d j k hj hk
/-- A row that was put, cell by cell. -/
theorem row_cell {w : World} {blk off : Nat} {d dj : Array Fn} (hH : Holds flF w blk off d) (m : Nat) (hs : dj.size = d.size) {t : Nat} (ht : t < d.size) :
    (putRow flF (Sort.ahead w m) blk off dj).cell? ⟨blk, off + t, none⟩ = some (.float .f64 (dj[t]!).1) ∧ (putRow flF (Sort.ahead w m) blk off dj).frozen? ⟨blk, off + t, none⟩ = false :=
  ⟨cell?_putRow flF _ blk off d dj (holds_ahead _ _ _ _ _ _ hH) hs t (by omega), by rw [frozen?_putRow]; exact ((holds_ahead _ _ m _ _ _ hH) t ht).2⟩
set_option maxHeartbeats 2000000 in
theorem ins_any (blk off cap a b : Nat) (d : Array Fn) (w : World) (hH : Holds flF w blk off d) (hab : a ≤ b) (hb : b ≤ d.size) (hsz : d.size < 4611686018427387904) :
    Calls Try.prog 46 #[.slice (some ⟨blk, off, none⟩) d.size cap, .int .i64 a, .int .i64 b] w fun e w' =>
      e = .returned (.tuple #[]) ∧ ∃ n, w' = putRow flF (Sort.ahead w n) blk off (insertionSort ltF d a b) := by
  go_enter Try.func46, Try.ntmps46
  go_wp2
  go_loopw [6] (fun vi wr => ∃ (i n : Nat) (dk : Array Fn), vi = .int .i64 i ∧ a < i ∧ i ≤ b + 1 ∧ dk.size = d.size ∧ wr = putRow flF (Sort.ahead w n) blk off dk ∧
      insOuter ltF a b i dk = insOuter ltF a b (a + 1) d) (fun vi _ => b + 1 - (numOf vi).toNat)
  case atStart => exact ⟨a + 1, 0, d, by go_num, by omega, by omega, rfl, (putRow_self _ _ _ _ _ hH).symm, rfl⟩
  case round =>
    obtain ⟨i, n, dk, rfl, hai, hib, hsk, hwr, hO⟩ := hrel
    have HO : Hid (insOuter ltF a b i dk = insOuter ltF a b (a + 1) d) := hO
    clear hO
    go_wp2
    · go_loopw [7] (fun vj wr2 => ∃ (j m : Nat) (dj : Array Fn), vj = .int .i64 j ∧ a ≤ j ∧ j ≤ i ∧ dj.size = d.size ∧ wr2 = putRow flF (Sort.ahead w m) blk off dj ∧
          insInner ltF a j dj = insInner ltF a i dk) (fun vj _ => (numOf vj).toNat)
      case atStart => exact ⟨i, n, dk, rfl, by omega, Nat.le_refl _, hsk, rfl, rfl⟩
      case round =>
        obtain ⟨j, m, dj, rfl, haj, hji, hsj, hw2, hI⟩ := hrel
        have hlt : i < b := by assumption
        obtain ⟨G, hG⟩ : ∃ G : Nat → Nat, ∀ t, G t = (dj[t]!).1 := ⟨fun t => (dj[t]!).1, fun _ => rfl⟩
        have hcw : ∀ t, t < d.size → wr.cell? ⟨blk, off + t, none⟩ = some (.float .f64 (G t)) := fun t ht => by
          rw [hw2, hG]; exact (row_cell hH m hsj ht).1
        have hfw : ∀ t, t < d.size → wr.frozen? ⟨blk, off + t, none⟩ = false := fun t ht => by
          rw [hw2]; exact (row_cell hH m hsj ht).2
        have HW : Hid (wr = putRow flF (Sort.ahead w m) blk off dj) := hw2
        have HG : Hid (∀ t, G t = (dj[t]!).1) := hG
        have HI : Hid (insInner ltF a j dj = insInner ltF a i dk) := hI
        clear hw2 hG hI hH
        have out : (j ≤ a ∨ ltF dj[j]! dj[j - 1]! = false) → ∀ q, ∃ i' n' dk', Value.int .i64 ((i : Int) + 1) = .int .i64 (i' : Nat) ∧ a < i' ∧ i' ≤ b + 1 ∧ dk'.size = d.size ∧
            wr.drewN q = putRow flF (Sort.ahead w n') blk off dk' ∧ insOuter ltF a b i' dk' = insOuter ltF a b (a + 1) d := fun hs q =>
          ⟨i + 1, m + q, dj, by go_num, by omega, by omega, hsj, by rw [HW.out]; exact row_draws _ _ _ _ _ _,
            by rw [← HO.out, outer_step hlt, ← HI.out, inner_end hs]⟩
        have OUT : Hid _ := out
        clear out
        go_wp2
        by_cases hja : a < j
        · go_quiet (first | (go_at_call 52; refine Calls.quiet_of_same (less_any _ _ _)))
          go_wp2
          · have hl : lessW (G j) (G (j - 1)) = true := by assumption
            go_region
            all_goals go_wp2
            go_roundw
            case rel =>
              refine ⟨j - 1, m + (nq + 1), swp dj j (j - 1), by congr 1; omega, by omega, by omega, by rw [size_swp]; exact hsj, ?_, ?_⟩
              · rw [HW.out, HG.out, HG.out]
                exact row_swap w m (nq + 1) blk off dj (by omega) (by omega)
              · rw [← HI.out, inner_step hja (by rw [← hl, HG.out, HG.out]; exact (lessW_fn _ _).symm)]
            case measure => simp [numOf]; omega
          · have hl : lessW (G j) (G (j - 1)) = false := by assumption
            go_roundw
            case rel => exact OUT.out (Or.inr (by rw [← hl, HG.out, HG.out]; exact (lessW_fn _ _).symm)) nq
            case measure => simp [numOf]; omega
        · go_quiet (first | (go_at_call 52; refine Calls.quiet_of_same (less_any _ _ _)))
          go_wp2
          go_roundw
          case rel => exact OUT.out (Or.inl (by omega)) nq
          case measure => simp [numOf]; omega
    · have hge : ¬ i < b := by assumption
      go_end0
      exact ⟨rfl, n, by unfold insertionSort; rw [← HO.out, outer_end hge]⟩
end Go.Proofs.Ytiancafoipllbaa
