/- What is proved: siftDown and heapSort of the sort at floats compute what the library's plain functions do. No condition but those each law names. -/
import Derived.Test.YtiancafoipllbaaRI
namespace Go.Proofs.Ytiancafoipllbaa
open Go.RowKit Go.Sort Fl
attribute [-go_sem] binOp_float_cmp_eql binOp_float_cmp_neq binOp_float_cmp_lss binOp_float_cmp_leq binOp_float_cmp_gtr binOp_float_cmp_geq
attribute [local go_sem] store_float Fl.cmp_eql Fl.cmp_neq Fl.cmp_lss Fl.cmp_leq Fl.cmp_gtr Fl.cmp_geq
set_option maxRecDepth 100000

theorem not_t {b : Bool} (h : (!b) = true) : b = false := by cases b; rfl; cases h
theorem not_f {b : Bool} (h : (!b) = false) : b = true := by cases b; cases h; rfl
/-- The greater child. -/
def kid (hi first r : Nat) (d : Array Fn) : Nat := if 2 * r + 1 + 1 < hi ∧ ltF d[first + (2 * r + 1)]! d[first + (2 * r + 1) + 1]! = true then 2 * r + 2 else 2 * r + 1
theorem kid_lt {hi first r : Nat} {d : Array Fn} (h : 2 * r + 1 < hi) : kid hi first r d < hi ∧ r < kid hi first r d := by
  unfold kid
  split
  · rename_i h'; omega
  · omega
theorem sift_end {hi first r : Nat} {d : Array Fn} (h : hi ≤ 2 * r + 1) : siftDown ltF hi first r d = d := by rw [siftDown, dif_pos h]
theorem sift_stop {hi first r : Nat} {d : Array Fn} (h : 2 * r + 1 < hi) (hl : ltF d[first + r]! d[first + kid hi first r d]! = false) : siftDown ltF hi first r d = d := by
  rw [siftDown, dif_neg (by omega)]
  unfold kid at hl
  by_cases hc : 2 * r + 1 + 1 < hi ∧ ltF d[first + (2 * r + 1)]! d[first + (2 * r + 1) + 1]! = true
  · rw [if_pos hc] at hl
    rw [if_pos (by rw [hc.2, decide_eq_true hc.1]; rfl), if_pos (by rw [hl]; rfl)]
  · rw [if_neg hc] at hl
    rw [if_neg (by intro h'; rw [Bool.and_eq_true, decide_eq_true_eq] at h'; exact hc h'), if_pos (by rw [hl]; rfl)]
theorem sift_step {hi first r : Nat} {d : Array Fn} (h : 2 * r + 1 < hi) (hl : ltF d[first + r]! d[first + kid hi first r d]! = true) :
    siftDown ltF hi first r d = siftDown ltF hi first (kid hi first r d) (swp d (first + r) (first + kid hi first r d)) := by
  rw [siftDown, dif_neg (by omega)]
  unfold kid at hl ⊢
  by_cases hc : 2 * r + 1 + 1 < hi ∧ ltF d[first + (2 * r + 1)]! d[first + (2 * r + 1) + 1]! = true
  · rw [if_pos hc] at hl ⊢
    rw [if_pos (by rw [hc.2, decide_eq_true hc.1]; rfl), if_neg (by rw [hl]; decide), dif_pos (by omega)]
  · rw [if_neg hc] at hl ⊢
    rw [if_neg (by intro h'; rw [Bool.and_eq_true, decide_eq_true_eq] at h'; exact hc h'), if_neg (by rw [hl]; decide)]
set_option maxHeartbeats 4000000 in
theorem sift_any (blk off cap lo hi first : Nat) (d : Array Fn) (w : World) (hH : Holds flF w blk off d) (hblk : blk < w.heap.size) (hb : first + hi ≤ d.size) (hsz : d.size < 4611686018427387904) (hlo : lo ≤ hi) :
    Calls Try.prog 59 #[.slice (some ⟨blk, off, none⟩) d.size cap, .int .i64 lo, .int .i64 hi, .int .i64 first] w fun e w' =>
      e = .returned (.tuple #[]) ∧ AtRow w blk off (siftDown ltF hi first lo d) w' := by
  have HH := Lib.hid hH
  clear hH
  go_enter Try.func59, Try.ntmps59
  go_wp2
  go_loopw [8] (fun vi wr => ∃ (r : Nat) (dk : Array Fn), vi = .int .i64 r ∧ r ≤ hi ∧ Hid (dk.size = d.size ∧ AtRow w blk off dk wr ∧ siftDown ltF hi first r dk = siftDown ltF hi first lo d)) (fun vi _ => hi - (numOf vi).toNat)
  case atStart => exact ⟨lo, d, rfl, hlo, Lib.hid ⟨rfl, AtRow.refl HH.out, rfl⟩⟩
  case round =>
    obtain ⟨r, dk, rfl, hr, HR⟩ := hrel
    by_cases h1 : hi ≤ 2 * r + 1
    · have HE : Hid _ := Lib.hid (sift_end (first := first) (d := dk) h1)
      go_wp2
      go_end0
      exact ⟨rfl, by rw [← HR.out.2.2, HE.out]; exact HR.out.2.1⟩
    · obtain ⟨G, hG⟩ := row_words dk
      have hs : dk.size = d.size := HR.out.1
      obtain ⟨hcw, hfw⟩ := HR.out.2.1.cells HH.out hs hblk hG
      have HG := Lib.hid hG
      have HS := Lib.hid hs
      clear hG hs
      have w1 : IntKind.i64.wrap (2 * (r : Int)) = 2 * (r : Int) := IntWalk.i64_in _ (by omega)
      have w2 : IntKind.i64.wrap (2 * (r : Int) + 1) = 2 * (r : Int) + 1 := IntWalk.i64_in _ (by omega)
      have w3 : IntKind.i64.wrap (2 * (r : Int) + 1 + 1) = 2 * (r : Int) + 1 + 1 := IntWalk.i64_in _ (by omega)
      clear w1 w2 w3
      obtain ⟨c, hc⟩ : ∃ c : Nat, c = 2 * r + 1 := ⟨_, rfl⟩
      have hci : (2 * (r : Int) + 1) = (c : Nat) := by omega
      have HC := Lib.hid hci
      have hclt : c < hi := by omega
      have hk0 : kid hi first r dk = if c + 1 < hi ∧ ltF dk[first + c]! dk[first + c + 1]! = true then c + 1 else c := by unfold kid; rw [hc, Nat.add_assoc first]
      have HK0 := Lib.hid hk0
      have hrc : r < c := by omega
      have HCD := Lib.hid hc
      clear hci hc hk0
      by_cases h2 : c + 1 < hi
      · go_wp2
        rw [HC.out]
        have w1 : IntKind.i64.wrap ((c : Int) + 1) = (c : Int) + 1 := IntWalk.i64_in _ (by omega)
        have w2 : IntKind.i64.wrap ((first : Int) + c) = (first : Int) + c := IntWalk.i64_in _ (by omega)
        have w3 : IntKind.i64.wrap ((first : Int) + c + 1) = (first : Int) + c + 1 := IntWalk.i64_in _ (by omega)
        have w4 : decide ((c : Int) + 1 < hi) = true := decide_eq_true (by omega)
        go_quiet (first | (go_at_call 52; refine Calls.quiet_of_same (less_any _ _ _)))
        clear w1 w2 w3 w4
        go_wp2
        · have hl2 : lessW (G (first + c)) (G (first + c + 1)) = true := by assumption
          obtain ⟨K, hK⟩ : ∃ K : Nat, K = c + 1 := ⟨_, rfl⟩
          have hKi : (c : Int) + 1 = (K : Nat) := by omega
          have HK := Lib.hid (show kid hi first r dk = K by rw [HK0.out, if_pos ⟨h2, by rw [← lessW_fn, ← HG.out, ← HG.out]; exact hl2⟩, hK])
          have hKlt : K < hi := by omega
          have hKr : r < K := by omega
          have hcr := HCD.out
          rw [hKi]
          clear hKi hl2
          have HKc := Lib.hid hK
          have HCR := Lib.hid hcr
          clear hK hcr
          have v1 : IntKind.i64.wrap ((first : Int) + r) = (first : Int) + r := IntWalk.i64_in _ (by omega)
          have v2 : IntKind.i64.wrap ((first : Int) + K) = (first : Int) + K := IntWalk.i64_in _ (by omega)
          have n1 : first + r < d.size := by omega
          have n2 : first + K < d.size := by omega
          have m1 : (first : Int) + r < d.size := by omega
          have m2 : (first : Int) + K < d.size := by omega
          go_quiet (first | (go_at_call 52; exact quiet_again (less_any _ _ _)))
          go_wp2
          · have hl : lessW (G (first + r)) (G (first + K)) = false := not_t (by assumption)
            have HT := Lib.hid (sift_stop (first := first) (d := dk) (show 2 * r + 1 < hi by omega) (by rw [HK.out, ← lessW_fn, ← HG.out, ← HG.out]; exact hl))
            refine bodyPost_ret (results_none rfl _ _ _) rfl ?_
            exact ⟨rfl, by rw [← HR.out.2.2, HT.out]; exact (HR.out.2.1.draws _).draws _⟩
          · have hl : lessW (G (first + r)) (G (first + K)) = true := not_f (by assumption)
            have HT := Lib.hid (sift_step (first := first) (d := dk) (show 2 * r + 1 < hi by omega) (by rw [HK.out, ← lessW_fn, ← HG.out, ← HG.out]; exact hl))
            go_region
            all_goals go_wp2
            go_roundw
            case rel =>
              have hs := HS.out
              refine ⟨K, swp dk (first + r) (first + K), rfl, by omega, Lib.hid ⟨by rw [size_swp]; exact hs, ?_, by rw [← HR.out.2.2, HT.out, HK.out]⟩⟩
              rw [HG.out, HG.out]
              exact HR.out.2.1.swap HH.out hs hblk _ (by omega) (by omega)
            case measure => simp [numOf]; omega
        · have hl2 : lessW (G (first + c)) (G (first + c + 1)) = false := by assumption
          have HK' := Lib.hid (show kid hi first r dk = c by rw [HK0.out, if_neg (fun h => by rw [← lessW_fn, ← HG.out, ← HG.out, hl2] at h; exact absurd h.2 (by decide))])
          obtain ⟨K, hK⟩ : ∃ K : Nat, K = c := ⟨_, rfl⟩
          rw [← hK] at HK' hclt hrc
          rw [← hK]
          have HK := HK'
          clear hl2
          have HKc := Lib.hid hK
          clear hK
          have v1 : IntKind.i64.wrap ((first : Int) + r) = (first : Int) + r := IntWalk.i64_in _ (by omega)
          have v2 : IntKind.i64.wrap ((first : Int) + K) = (first : Int) + K := IntWalk.i64_in _ (by omega)
          have n1 : first + r < d.size := by omega
          have n2 : first + K < d.size := by omega
          have m1 : (first : Int) + r < d.size := by omega
          have m2 : (first : Int) + K < d.size := by omega
          go_quiet (first | (go_at_call 52; exact quiet_again (less_any _ _ _)))
          go_wp2
          · have hl : lessW (G (first + r)) (G (first + K)) = false := not_t (by assumption)
            have HT := Lib.hid (sift_stop (first := first) (d := dk) (show 2 * r + 1 < hi by omega) (by rw [HK.out, ← lessW_fn, ← HG.out, ← HG.out]; exact hl))
            refine bodyPost_ret (results_none rfl _ _ _) rfl ?_
            exact ⟨rfl, by rw [← HR.out.2.2, HT.out]; exact (HR.out.2.1.draws _).draws _⟩
          · have hl : lessW (G (first + r)) (G (first + K)) = true := not_f (by assumption)
            have HT := Lib.hid (sift_step (first := first) (d := dk) (show 2 * r + 1 < hi by omega) (by rw [HK.out, ← lessW_fn, ← HG.out, ← HG.out]; exact hl))
            go_region
            all_goals go_wp2
            go_roundw
            case rel =>
              have hs := HS.out
              refine ⟨K, swp dk (first + r) (first + K), rfl, by omega, Lib.hid ⟨by rw [size_swp]; exact hs, ?_, by rw [← HR.out.2.2, HT.out, HK.out]⟩⟩
              rw [HG.out, HG.out]
              exact HR.out.2.1.swap HH.out hs hblk _ (by omega) (by omega)
            case measure => simp [numOf]; omega
      · go_wp2
        rw [HC.out]
        have w1 : IntKind.i64.wrap ((c : Int) + 1) = (c : Int) + 1 := IntWalk.i64_in _ (by omega)
        have w4 : decide ((c : Int) + 1 < hi) = false := decide_eq_false (by omega)
        go_quiet (fail)
        clear w1 w4
        have HK' := Lib.hid (show kid hi first r dk = c by rw [HK0.out, if_neg (fun h => h2 h.1)])
        go_wp2
        obtain ⟨K, hK⟩ : ∃ K : Nat, K = c := ⟨_, rfl⟩
        rw [← hK] at HK' hclt hrc
        rw [← hK]
        have HK := HK'
        have HKc := Lib.hid hK
        clear hK
        have v1 : IntKind.i64.wrap ((first : Int) + r) = (first : Int) + r := IntWalk.i64_in _ (by omega)
        have v2 : IntKind.i64.wrap ((first : Int) + K) = (first : Int) + K := IntWalk.i64_in _ (by omega)
        have n1 : first + r < d.size := by omega
        have n2 : first + K < d.size := by omega
        have m1 : (first : Int) + r < d.size := by omega
        have m2 : (first : Int) + K < d.size := by omega
        go_quiet (first | (go_at_call 52; exact quiet_again (less_any _ _ _)))
        go_wp2
        · have hl : lessW (G (first + r)) (G (first + K)) = false := not_t (by assumption)
          have HT := Lib.hid (sift_stop (first := first) (d := dk) (show 2 * r + 1 < hi by omega) (by rw [HK.out, ← lessW_fn, ← HG.out, ← HG.out]; exact hl))
          refine bodyPost_ret (results_none rfl _ _ _) rfl ?_
          exact ⟨rfl, by rw [← HR.out.2.2, HT.out]; exact (HR.out.2.1.draws _).draws _⟩
        · have hl : lessW (G (first + r)) (G (first + K)) = true := not_f (by assumption)
          have HT := Lib.hid (sift_step (first := first) (d := dk) (show 2 * r + 1 < hi by omega) (by rw [HK.out, ← lessW_fn, ← HG.out, ← HG.out]; exact hl))
          go_region
          all_goals go_wp2
          go_roundw
          case rel =>
            have hs := HS.out
            refine ⟨K, swp dk (first + r) (first + K), rfl, by omega, Lib.hid ⟨by rw [size_swp]; exact hs, ?_, by rw [← HR.out.2.2, HT.out, HK.out]⟩⟩
            rw [HG.out, HG.out]
            exact HR.out.2.1.swap HH.out hs hblk _ (by omega) (by omega)
          case measure => simp [numOf]; omega
theorem sift_size (hi first : Nat) : ∀ (n root : Nat) (d : Array Fn), hi - root ≤ n → (siftDown ltF hi first root d).size = d.size := by
  intro n
  induction n with
  | zero => intro root d h; rw [sift_end (by omega)]
  | succ n ih =>
    intro root d h
    by_cases h1 : 2 * root + 1 < hi
    · have hk := kid_lt (first := first) (d := d) h1
      cases hl : ltF d[first + root]! d[first + kid hi first root d]! with
      | false => rw [sift_stop h1 hl]
      | true =>
        rw [sift_step h1 hl, ih _ _ (by omega), size_swp]
    · rw [sift_end (by omega)]
theorem sift_size' (hi first root : Nat) (d : Array Fn) : (siftDown ltF hi first root d).size = d.size := sift_size hi first _ root d (Nat.le_refl _)
/-- .. at the row as it is now. -/
theorem sift_at {w wr : World} {blk off cap : Nat} {d dk : Array Fn} (hR : AtRow w blk off dk wr) (hH : Holds flF w blk off d) (hblk : blk < w.heap.size) (hs : dk.size = d.size) (lo hi first : Nat) (hb : first + hi ≤ d.size) (hsz : d.size < 4611686018427387904) (hlo : lo ≤ hi) :
    Calls Try.prog 59 #[.slice (some ⟨blk, off, none⟩) d.size cap, .int .i64 lo, .int .i64 hi, .int .i64 first] wr fun e w' => e = .returned (.tuple #[]) ∧ AtRow w blk off (siftDown ltF hi first lo dk) w' := by
  have h := sift_any blk off cap lo hi first dk wr (hR.holds hH hblk hs) (hR.lt hblk) (by omega) (by omega) hlo
  rw [hs] at h
  exact h.mono fun e w' ⟨h1, h2⟩ => ⟨h1, hR.trans h2 hblk (by rw [sift_size'])⟩
theorem build_succ (hi first k : Nat) (d : Array Fn) : heapBuild ltF hi first (k + 1) d = heapBuild ltF hi first k (siftDown ltF hi first k d) := rfl
theorem pop_succ (first k : Nat) (d : Array Fn) : heapPop ltF first (k + 1) d = heapPop ltF first k (siftDown ltF k first 0 (swp d first (first + k))) := rfl
set_option maxHeartbeats 4000000 in
theorem heap_any (blk off cap a b : Nat) (d : Array Fn) (w : World) (hH : Holds flF w blk off d) (hblk : blk < w.heap.size) (hab : a < b) (hb : b ≤ d.size) (hsz : d.size < 4611686018427387904) :
    Calls Try.prog 47 #[.slice (some ⟨blk, off, none⟩) d.size cap, .int .i64 a, .int .i64 b] w fun e w' =>
      e = .returned (.tuple #[]) ∧ AtRow w blk off (heapSort ltF d a b) w' := by
  obtain ⟨hi, hhi, hi0⟩ : ∃ hi : Nat, (b : Int) - a = hi ∧ hi = b - a := ⟨b - a, by omega, rfl⟩
  have HHI := Lib.hid hhi
  have hia : a + hi ≤ d.size := by omega
  have hi1 : 1 ≤ hi := by omega
  have HS0 : Hid (heapPop ltF a hi (heapBuild ltF hi a ((hi - 1) / 2 + 1) d) = heapSort ltF d a b) := by unfold heapSort; rw [← hi0]; exact Lib.hid rfl
  obtain ⟨K0, hK0, hK1⟩ : ∃ K : Nat, (hi - 1) / 2 + 1 = K ∧ ((hi : Int) - 1) / 2 = (K : Int) - 1 := ⟨(hi - 1) / 2 + 1, rfl, by omega⟩
  have hK2 : K0 ≤ hi := by omega
  rw [hK0] at HS0
  have HK1 := Lib.hid hK1
  have HH := Lib.hid hH
  clear hH hhi hi0 hK1 hK0
  go_enter Try.func47, Try.ntmps47
  go_wp2
  rw [HHI.out, HK1.out]
  go_loopw [9] (fun vi wr => ∃ (k : Nat) (dk : Array Fn), vi = .int .i64 ((k : Int) - 1) ∧ k ≤ hi ∧ Hid (dk.size = d.size ∧ AtRow w blk off dk wr ∧ heapPop ltF a hi (heapBuild ltF hi a k dk) = heapSort ltF d a b)) (fun vi _ => (numOf vi + 1).toNat)
  case atStart => exact ⟨K0, d, rfl, hK2, Lib.hid ⟨rfl, AtRow.refl HH.out, HS0.out⟩⟩
  case round =>
    obtain ⟨k, dk, rfl, hk, HR⟩ := hrel
    by_cases h0 : 0 < k
    · obtain ⟨j, hj⟩ : ∃ j : Nat, k = j + 1 := ⟨k - 1, by omega⟩
      have hji : (k : Int) - 1 = (j : Nat) := by omega
      have HJ := Lib.hid hji
      have hjl : j ≤ hi := by omega
      have HE : Hid (heapPop ltF a hi (heapBuild ltF hi a j (siftDown ltF hi a j dk)) = heapSort ltF d a b) := Lib.hid (by have := HR.out.2.2; rw [hj, build_succ] at this; exact this)
      have C := Lib.hid (sift_at (cap := cap) HR.out.2.1 HH.out hblk HR.out.1 j hi a hia hsz hjl)
      clear hji hj
      rw [HJ.out]
      go_wp2_with fail
      refine C.out.mono ?_
      rintro _ w2 ⟨rfl, hw2⟩
      have HW2 := Lib.hid hw2
      clear hw2
      go_wp2
      go_roundw
      case rel => exact ⟨j, siftDown ltF hi a j dk, rfl, hjl, Lib.hid ⟨by rw [sift_size']; exact HR.out.1, HW2.out, HE.out⟩⟩
      case measure => simp [numOf]
    · have HE : Hid (heapPop ltF a hi dk = heapSort ltF d a b) := Lib.hid (by have h := HR.out.2.2; rw [show k = 0 by omega] at h; exact h)
      have hneg : (k : Int) - 1 < 0 := by omega
      have hneg2 : ¬ 1 ≤ (k : Int) := by omega
      go_wp2
      go_loopw [10] (fun vi wr2 => ∃ (k : Nat) (dj : Array Fn), vi = .int .i64 ((k : Int) - 1) ∧ k ≤ hi ∧ Hid (dj.size = d.size ∧ AtRow w blk off dj wr2 ∧ heapPop ltF a k dj = heapSort ltF d a b)) (fun vi _ => (numOf vi + 1).toNat)
      case atStart => exact ⟨hi, dk, rfl, Nat.le_refl _, Lib.hid ⟨HR.out.1, HR.out.2.1, HE.out⟩⟩
      case round =>
        obtain ⟨k, dj, rfl, hk, HR2⟩ := hrel
        by_cases h0 : 0 < k
        · obtain ⟨j, hj⟩ : ∃ j : Nat, k = j + 1 := ⟨k - 1, by omega⟩
          have hji : (k : Int) - 1 = (j : Nat) := by omega
          have HJ := Lib.hid hji
          have hjl : j < hi := by omega
          obtain ⟨G, hG⟩ := row_words dj
          have hs : dj.size = d.size := HR2.out.1
          obtain ⟨hcw, hfw⟩ := HR2.out.2.1.cells HH.out hs hblk hG
          have HG := Lib.hid hG
          have HS := Lib.hid hs
          have HE2 : Hid (heapPop ltF a j (siftDown ltF j a 0 (swp dj a (a + j))) = heapSort ltF d a b) := Lib.hid (by have := HR2.out.2.2; rw [hj, pop_succ] at this; exact this)
          clear hji hj hG hs
          rw [HJ.out]
          have m1 : IntKind.i64.wrap ((a : Int) + j) = (a : Int) + j := IntWalk.i64_in _ (by omega)
          have n1 : a + j < d.size := by omega
          have n2 : a < d.size := by omega
          have n3 : (a : Int) + j < d.size := by omega
          obtain ⟨z, hz⟩ := cell_behind (v := G (a + j)) ⟨_, hcw a n2⟩ (hcw (a + j) n1)
          have SG := Lib.hid (HR2.out.2.1.swap1 HH.out HS.out hblk HG.out (i := a) (j := a + j) (by rw [HS.out]; exact n2) (by rw [HS.out]; exact n1))
          go_wp2
          go_region
          all_goals go_wp2_with fail
          generalize (((wr.setCell { block := blk, off := off + a } (Value.float FloatKind.f64 (G (a + j)))).setCell { block := blk, off := off + (a + j) } (Value.float FloatKind.f64 (G a))).drew) = W3 at *
          refine (sift_at (cap := cap) SG.out HH.out hblk (by rw [size_swp]; exact HS.out) 0 j a (by omega) hsz (Nat.zero_le _)).mono ?_
          rintro _ w2 ⟨rfl, hw2⟩
          have HW2 := Lib.hid hw2
          clear hw2
          go_wp2
          go_roundw
          case rel => exact ⟨j, _, rfl, by omega, Lib.hid ⟨by rw [sift_size', size_swp]; exact HS.out, HW2.out, HE2.out⟩⟩
          case measure => simp [numOf]
        · obtain rfl : k = 0 := by omega
          have HE2 : Hid (dj = heapSort ltF d a b) := Lib.hid HR2.out.2.2
          go_wp2
          go_end0
          exact ⟨rfl, by rw [← HE2.out]; exact HR2.out.2.1⟩
end Go.Proofs.Ytiancafoipllbaa
