/- What is proved: partition and partitionEqual of the sort at floats compute what the library's plain functions do. No condition but those each law names. -/
import Derived.Test.YtiancafoipllbaaRI
import Derived.Deep.DeepCutAuto
namespace Go.Proofs.Ytiancafoipllbaa
open Go.RowKit Go.Sort Fl
attribute [-go_sem] binOp_float_cmp_eql binOp_float_cmp_neq binOp_float_cmp_lss binOp_float_cmp_leq binOp_float_cmp_gtr binOp_float_cmp_geq
attribute [local go_sem] store_float Fl.cmp_eql Fl.cmp_neq Fl.cmp_lss Fl.cmp_leq Fl.cmp_gtr Fl.cmp_geq
set_option maxRecDepth 100000

theorem int_pred {j : Nat} (h : 1 ≤ j) : Value.int .i64 ((j : Int) - 1) = .int .i64 ((j - 1 : Nat) : Int) := by congr 1; omega
/-- A scan's test. -/
def tst (i j : Nat) (x : Bool) : Bool := decide (i ≤ j) && x
theorem tst_t {i j : Nat} {x : Bool} (h : tst i j x = true) : i ≤ j ∧ x = true := by unfold tst at h; simpa using h
theorem up_more {p : Fn → Bool} {d : Array Fn} {i j : Nat} (h : tst i j (p d[i]!) = true) : scanUp p d j i = scanUp p d j (i + 1) := by
  rw [scanUp, if_pos (show (decide (i ≤ j) && p d[i]!) = true from h)]
theorem up_end {p : Fn → Bool} {d : Array Fn} {i j : Nat} (h : tst i j (p d[i]!) = false) : scanUp p d j i = i := by
  rw [scanUp, if_neg (by rw [show (decide (i ≤ j) && p d[i]!) = false from h]; decide)]
theorem down_more {p : Fn → Bool} {d : Array Fn} {i j : Nat} (h0 : 0 < j) (h : tst i j (p d[j]!) = true) : scanDown p d i j = scanDown p d i (j - 1) := by
  obtain ⟨k, rfl⟩ : ∃ k, j = k + 1 := ⟨j - 1, by omega⟩
  rw [scanDown, if_pos (show (decide (i ≤ k + 1) && p d[k + 1]!) = true from h), Nat.add_sub_cancel]
theorem down_end {p : Fn → Bool} {d : Array Fn} {i j : Nat} (h : tst i j (p d[j]!) = false) : scanDown p d i j = j := by
  cases j with
  | zero => rfl
  | succ k => rw [scanDown, if_neg (by rw [show (decide (i ≤ k + 1) && p d[k + 1]!) = false from h]; decide)]
theorem part_stop {d : Array Fn} {a i j i2 j2 : Nat} (h1 : scanUp (fun x => ltF x d[a]!) d j i = i2) (h2 : scanDown (fun x => !ltF x d[a]!) d i2 j = j2) (h : j2 < i2) : partLoop ltF a i j d = (j2, d) := by
  rw [partLoop_eq, h1, h2, if_pos h]
theorem part_go {d : Array Fn} {a i j i2 j2 : Nat} (h1 : scanUp (fun x => ltF x d[a]!) d j i = i2) (h2 : scanDown (fun x => !ltF x d[a]!) d i2 j = j2) (h : ¬ j2 < i2) : partLoop ltF a i j d = partLoop ltF a (i2 + 1) (j2 - 1) (swp d i2 j2) := by
  rw [partLoop_eq, h1, h2, if_neg h]
/-- What partition leaves. -/
def PartP (w : World) (blk off : Nat) (r : Nat × Bool × Array Fn) : Ending → World → Prop := fun e w' => ∃ x : Bool, e = .returned (.tuple #[.int .i64 r.1, .bool x]) ∧ AtRow w blk off r.2.2 w'
set_option maxHeartbeats 8000000 in
theorem part_any (blk off cap a b pv : Nat) (d : Array Fn) (w : World) (hH : Holds flF w blk off d) (hblk : blk < w.heap.size) (hap : a ≤ pv) (hpb : pv < b) (hb : b ≤ d.size) (hsz : d.size < 4611686018427387904) :
    Calls Try.prog 54 #[.slice (some ⟨blk, off, none⟩) d.size cap, .int .i64 a, .int .i64 b, .int .i64 pv] w (PartP w blk off (partition ltF d a b pv)) := by
  have HH := Lib.hid hH
  obtain ⟨G0, hG0⟩ := row_words d
  obtain ⟨hcw, hfw⟩ := (AtRow.refl hH).cells hH rfl hblk hG0
  have HG0 := Lib.hid hG0
  clear hH hG0
  have na : a < d.size := by omega
  have np : pv < d.size := by omega
  obtain ⟨z, hz⟩ := cell_behind (v := G0 pv) ⟨_, hcw a na⟩ (hcw pv np)
  have SG := Lib.hid ((AtRow.refl HH.out).swap1 HH.out rfl hblk HG0.out na np)
  go_enter Try.func54, Try.ntmps54
  go_wp2
  go_region
  all_goals go_wp2
  generalize (((w.setCell { block := blk, off := off + a } (Value.float FloatKind.f64 (G0 pv))).setCell { block := blk, off := off + pv } (Value.float FloatKind.f64 (G0 a))).drew) = W at *
  obtain ⟨dk, hdk⟩ : ∃ dk, swp d a pv = dk := ⟨_, rfl⟩
  rw [hdk] at SG
  have hs : dk.size = d.size := by rw [← hdk, size_swp]
  have HS := Lib.hid hs
  have HDK := Lib.hid hdk
  clear hs hdk
  clear hcw hfw hz
  obtain ⟨G, hG⟩ := row_words dk
  obtain ⟨hcw, hfw⟩ := SG.out.cells HH.out HS.out hblk hG
  have HG := Lib.hid hG
  clear hG
  obtain ⟨j0, hj, hj2⟩ : ∃ j : Nat, (b : Int) - 1 = j ∧ b - 1 = j := ⟨b - 1, by omega, rfl⟩
  have hjb : j0 + 1 = b := by omega
  have HJ := Lib.hid hj
  have HJB := Lib.hid hj2
  have hja : a ≤ j0 := by omega
  have hjd : j0 + 1 ≤ d.size := by omega
  have hjb1 : j0 + 1 ≤ b := by omega
  clear hj hj2 hjb
  obtain ⟨HUv_, hU⟩ : ∃ I, scanUp (fun x => ltF x dk[a]!) dk j0 (a + 1) = I := ⟨_, rfl⟩
  have HU0 := Lib.hid hU
  clear hU
  rw [HJ.out]
  go_loopw [10] (fun vi wr => ∃ i : Nat, vi = .int .i64 i ∧ a + 1 ≤ i ∧ i ≤ j0 + 2 ∧ Hid (∃ n, wr = W.drewN n) ∧ Hid (scanUp (fun x => ltF x dk[a]!) dk j0 i = HUv_)) (fun vi _ => j0 + 1 - (numOf vi).toNat)
  case atStart => exact ⟨a + 1, by go_num, by omega, by omega, Lib.hid ⟨0, rfl⟩, Lib.hid HU0.out⟩
  case round =>
    obtain ⟨i, rfl, b1, b2, HW, HU⟩ := hrel
    obtain ⟨n, hn⟩ := HW.out
    subst hn
    clear HW
    go_upto_region 3 with fail
    go_cut [43] (fun s wx => s = .bool (tst i j0 (lessW (G i) (G a))) ∧ Hid (∃ n, wx = W.drewN n))
    case first =>
      by_cases hij : i ≤ j0
      · have t1 : decide ((i : Int) ≤ (j0 : Int)) = true := decide_eq_true (by omega)
        have t2 : decide (i ≤ j0) = true := decide_eq_true hij
        have n1 : i < d.size := by omega
        go_quiet (first | (go_at_call 52; exact quiet_again (less_any _ _ _)))
        go_wp2_with fail
        go_meet
        exact ⟨congrArg Value.bool (by unfold tst; rw [t2, Bool.true_and]), Lib.hid ⟨_, World.drewN_drewN ..⟩⟩
      · have t1 : decide ((i : Int) ≤ (j0 : Int)) = false := decide_eq_false (by omega)
        have t2 : decide (i ≤ j0) = false := decide_eq_false hij
        go_quiet (fail)
        go_wp2_with fail
        go_meet
        exact ⟨congrArg Value.bool (by unfold tst; rw [t2, Bool.false_and]), Lib.hid ⟨_, World.drewN_drewN ..⟩⟩
    case rest =>
      obtain ⟨rfl, HW⟩ := hcut
      obtain ⟨n2, hn⟩ := HW.out
      subst hn
      clear HW
      cases ht : tst i j0 (lessW (G i) (G a)) with
      | true =>
        have hij := (tst_t ht).1
        have HT := Lib.hid (up_more (p := (fun x => ltF x dk[a]!)) (d := dk) (i := i) (j := j0) (by rw [HG.out, HG.out, lessW_fn] at ht; exact ht))
        go_wp2
        go_roundw
        case rel => exact ⟨i + 1, by go_num, by omega, by omega, Lib.hid ⟨_, rfl⟩, Lib.hid (by rw [← HT.out]; exact HU.out)⟩
        case measure => simp [numOf]; omega
      | false =>
        have HUe := Lib.hid ((up_end (p := (fun x => ltF x dk[a]!)) (d := dk) (i := i) (j := j0) (by rw [HG.out, HG.out, lessW_fn] at ht; exact ht)).symm.trans HU.out)
        clear ht
        have HUv : Hid (scanUp (fun x => ltF x dk[a]!) dk j0 (a + 1) = i) := Lib.hid (HU0.out.trans HUe.out.symm)
        obtain ⟨HDv_, hD⟩ : ∃ J, scanDown (fun x => !ltF x dk[a]!) dk i j0 = J := ⟨_, rfl⟩
        have HD0 := Lib.hid hD
        clear hD
        go_wp2
        go_loopw [11] (fun vi wr => ∃ j : Nat, vi = .int .i64 j ∧ i ≤ j + 2 ∧ j ≤ j0 ∧ Hid (∃ n, wr = W.drewN n) ∧ Hid (scanDown (fun x => !ltF x dk[a]!) dk i j = HDv_)) (fun vi _ => (numOf vi).toNat)
        case atStart => exact ⟨j0, rfl, by omega, Nat.le_refl _, Lib.hid ⟨n2, rfl⟩, Lib.hid HD0.out⟩
        case round =>
          obtain ⟨j, rfl, b1, b2, HW, HD⟩ := hrel
          obtain ⟨n, hn⟩ := HW.out
          subst hn
          clear HW
          go_upto_region 5 with fail
          go_cut [60] (fun s wx => s = .bool (tst i j (!lessW (G j) (G a))) ∧ Hid (∃ n, wx = W.drewN n))
          case first =>
            by_cases hij : i ≤ j
            · have t1 : decide ((i : Int) ≤ (j : Int)) = true := decide_eq_true (by omega)
              have t2 : decide (i ≤ j) = true := decide_eq_true hij
              have n1 : j < d.size := by omega
              go_quiet (first | (go_at_call 52; exact quiet_again (less_any _ _ _)))
              go_wp2_with fail
              go_meet
              exact ⟨congrArg Value.bool (by unfold tst; rw [t2, Bool.true_and]), Lib.hid ⟨_, World.drewN_drewN ..⟩⟩
            · have t1 : decide ((i : Int) ≤ (j : Int)) = false := decide_eq_false (by omega)
              have t2 : decide (i ≤ j) = false := decide_eq_false hij
              go_quiet (fail)
              go_wp2_with fail
              go_meet
              exact ⟨congrArg Value.bool (by unfold tst; rw [t2, Bool.false_and]), Lib.hid ⟨_, World.drewN_drewN ..⟩⟩
          case rest =>
            obtain ⟨rfl, HW⟩ := hcut
            obtain ⟨n2, hn⟩ := HW.out
            subst hn
            clear HW
            cases ht : tst i j (!lessW (G j) (G a)) with
            | true =>
              have hij := (tst_t ht).1
              have HT := Lib.hid (down_more (p := (fun x => !ltF x dk[a]!)) (d := dk) (i := i) (j := j) (by omega) (by rw [HG.out, HG.out, lessW_fn] at ht; exact ht))
              go_wp2
              go_roundw
              case rel => exact ⟨j - 1, int_pred (by omega), by omega, by omega, Lib.hid ⟨_, rfl⟩, Lib.hid (by rw [← HT.out]; exact HD.out)⟩
              case measure => simp [numOf]; omega
            | false =>
              have HDe := Lib.hid ((down_end (p := (fun x => !ltF x dk[a]!)) (d := dk) (i := i) (j := j) (by rw [HG.out, HG.out, lessW_fn] at ht; exact ht)).symm.trans HD.out)
              clear ht
              have HDv : Hid (scanDown (fun x => !ltF x dk[a]!) dk i j0 = j) := Lib.hid (HD0.out.trans HDe.out.symm)
              by_cases hgt : j < i
              · have HX := Lib.hid (part_stop (d := dk) (a := a) (i := a + 1) (j := j0) (i2 := i) (j2 := j) (HUv.out) (HDv.out) (by omega))
                obtain ⟨z2, hz2⟩ := cell_behind (W := W.drewN (n2 + 1)) (v := G a) ⟨_, hcw j (by omega)⟩ (hcw a na)
                have nj : j < d.size := by omega
                have E1 := Lib.hid (show (partition ltF d a b pv).1 = j by rw [partition_fst, HDK.out, HJB.out, HX.out])
                have E2 := Lib.hid (show (partition ltF d a b pv).2.2 = swp dk j a by rw [partition_arr, HDK.out, HJB.out, HX.out])
                go_wp2
                go_region
                all_goals go_wp2
                go_ret2
                exact ⟨_, by rw [E1.out]; rfl, by rw [E2.out, HG.out, HG.out]; exact SG.out.swap HH.out HS.out hblk _ (by rw [HS.out]; exact nj) (by rw [HS.out]; exact na)⟩
              · have HX := Lib.hid (part_go (d := dk) (a := a) (i := a + 1) (j := j0) (i2 := i) (j2 := j) (HUv.out) (HDv.out) (by omega))
                have ni2 : i < d.size := by omega
                have nj : j < d.size := by omega
                obtain ⟨z2, hz2⟩ := cell_behind (W := W.drewN (n2 + 1)) (v := G j) ⟨_, hcw i ni2⟩ (hcw j nj)
                have hj1 : 1 ≤ j := by omega
                go_wp2
                go_region
                all_goals go_wp2
                go_loopw [10, 11] (fun vi vj wr => ∃ (i j : Nat) (e : Array Fn), vi = .int .i64 i ∧ vj = .int .i64 j ∧ a + 1 ≤ i ∧ i ≤ j + 2 ∧ j + 1 ≤ b ∧ Hid (e.size = d.size ∧ AtRow w blk off e wr ∧ partLoop ltF a i j e = partLoop ltF a (a + 1) j0 dk)) (fun vi vj _ => (numOf vj).toNat + 1 - (numOf vi).toNat)
                case atStart => exact ⟨i + 1, j - 1, swp dk i j, by go_num, int_pred hj1, by omega, by omega, by omega, Lib.hid ⟨by rw [size_swp]; exact HS.out, by rw [HG.out, HG.out]; exact SG.out.swap HH.out HS.out hblk _ (by rw [HS.out]; exact ni2) (by rw [HS.out]; exact nj), HX.out.symm⟩⟩
                case round =>
                  obtain ⟨i1, j1, e, rfl, rfl, l1, l2, l3, HE⟩ := hrel
                  obtain ⟨wo, rfl⟩ : ∃ wo : World, wo = wr := ⟨_, rfl⟩
                  clear hcw hfw
                  obtain ⟨G2, hG2⟩ := row_words e
                  obtain ⟨hcw, hfw⟩ := HE.out.2.1.cells HH.out HE.out.1 hblk hG2
                  have HG2 := Lib.hid hG2
                  clear hG2
                  obtain ⟨HU2v_, hU2⟩ : ∃ I, scanUp (fun x => ltF x e[a]!) e j1 i1 = I := ⟨_, rfl⟩
                  have HU20 := Lib.hid hU2
                  clear hU2
                  go_wp2
                  go_loopw [10] (fun vi wr => ∃ i : Nat, vi = .int .i64 i ∧ i1 ≤ i ∧ i ≤ j1 + 2 ∧ Hid (∃ n, wr = wo.drewN n) ∧ Hid (scanUp (fun x => ltF x e[a]!) e j1 i = HU2v_)) (fun vi _ => j1 + 1 - (numOf vi).toNat)
                  case atStart => exact ⟨i1, by go_num, by omega, by omega, Lib.hid ⟨0, rfl⟩, Lib.hid HU20.out⟩
                  case round =>
                    obtain ⟨i, rfl, b1, b2, HW, HU2⟩ := hrel
                    obtain ⟨n, hn⟩ := HW.out
                    subst hn
                    clear HW
                    go_upto_region 13 with fail
                    go_cut [112] (fun s wx => s = .bool (tst i j1 (lessW (G2 i) (G2 a))) ∧ Hid (∃ n, wx = wo.drewN n))
                    case first =>
                      by_cases hij : i ≤ j1
                      · have t1 : decide ((i : Int) ≤ (j1 : Int)) = true := decide_eq_true (by omega)
                        have t2 : decide (i ≤ j1) = true := decide_eq_true hij
                        have n1 : i < d.size := by omega
                        go_quiet (first | (go_at_call 52; exact quiet_again (less_any _ _ _)))
                        go_wp2_with fail
                        go_meet
                        exact ⟨congrArg Value.bool (by unfold tst; rw [t2, Bool.true_and]), Lib.hid ⟨_, World.drewN_drewN ..⟩⟩
                      · have t1 : decide ((i : Int) ≤ (j1 : Int)) = false := decide_eq_false (by omega)
                        have t2 : decide (i ≤ j1) = false := decide_eq_false hij
                        go_quiet (fail)
                        go_wp2_with fail
                        go_meet
                        exact ⟨congrArg Value.bool (by unfold tst; rw [t2, Bool.false_and]), Lib.hid ⟨_, World.drewN_drewN ..⟩⟩
                    case rest =>
                      obtain ⟨rfl, HW⟩ := hcut
                      obtain ⟨n2, hn⟩ := HW.out
                      subst hn
                      clear HW
                      cases ht : tst i j1 (lessW (G2 i) (G2 a)) with
                      | true =>
                        have hij := (tst_t ht).1
                        have HT := Lib.hid (up_more (p := (fun x => ltF x e[a]!)) (d := e) (i := i) (j := j1) (by rw [HG2.out, HG2.out, lessW_fn] at ht; exact ht))
                        go_wp2
                        go_roundw
                        case rel => exact ⟨i + 1, by go_num, by omega, by omega, Lib.hid ⟨_, rfl⟩, Lib.hid (by rw [← HT.out]; exact HU2.out)⟩
                        case measure => simp [numOf]; omega
                      | false =>
                        have HU2e := Lib.hid ((up_end (p := (fun x => ltF x e[a]!)) (d := e) (i := i) (j := j1) (by rw [HG2.out, HG2.out, lessW_fn] at ht; exact ht)).symm.trans HU2.out)
                        clear ht
                        have HU2v : Hid (scanUp (fun x => ltF x e[a]!) e j1 i1 = i) := Lib.hid (HU20.out.trans HU2e.out.symm)
                        obtain ⟨HD2v_, hD2⟩ : ∃ J, scanDown (fun x => !ltF x e[a]!) e i j1 = J := ⟨_, rfl⟩
                        have HD20 := Lib.hid hD2
                        clear hD2
                        go_wp2
                        go_loopw [11] (fun vi wr => ∃ j : Nat, vi = .int .i64 j ∧ i ≤ j + 2 ∧ j ≤ j1 ∧ Hid (∃ n, wr = wo.drewN n) ∧ Hid (scanDown (fun x => !ltF x e[a]!) e i j = HD2v_)) (fun vi _ => (numOf vi).toNat)
                        case atStart => exact ⟨j1, rfl, by omega, Nat.le_refl _, Lib.hid ⟨n2, rfl⟩, Lib.hid HD20.out⟩
                        case round =>
                          obtain ⟨j, rfl, b1, b2, HW, HD2⟩ := hrel
                          obtain ⟨n, hn⟩ := HW.out
                          subst hn
                          clear HW
                          go_upto_region 15 with fail
                          go_cut [129] (fun s wx => s = .bool (tst i j (!lessW (G2 j) (G2 a))) ∧ Hid (∃ n, wx = wo.drewN n))
                          case first =>
                            by_cases hij : i ≤ j
                            · have t1 : decide ((i : Int) ≤ (j : Int)) = true := decide_eq_true (by omega)
                              have t2 : decide (i ≤ j) = true := decide_eq_true hij
                              have n1 : j < d.size := by omega
                              go_quiet (first | (go_at_call 52; exact quiet_again (less_any _ _ _)))
                              go_wp2_with fail
                              go_meet
                              exact ⟨congrArg Value.bool (by unfold tst; rw [t2, Bool.true_and]), Lib.hid ⟨_, World.drewN_drewN ..⟩⟩
                            · have t1 : decide ((i : Int) ≤ (j : Int)) = false := decide_eq_false (by omega)
                              have t2 : decide (i ≤ j) = false := decide_eq_false hij
                              go_quiet (fail)
                              go_wp2_with fail
                              go_meet
                              exact ⟨congrArg Value.bool (by unfold tst; rw [t2, Bool.false_and]), Lib.hid ⟨_, World.drewN_drewN ..⟩⟩
                          case rest =>
                            obtain ⟨rfl, HW⟩ := hcut
                            obtain ⟨n2, hn⟩ := HW.out
                            subst hn
                            clear HW
                            cases ht : tst i j (!lessW (G2 j) (G2 a)) with
                            | true =>
                              have hij := (tst_t ht).1
                              have HT := Lib.hid (down_more (p := (fun x => !ltF x e[a]!)) (d := e) (i := i) (j := j) (by omega) (by rw [HG2.out, HG2.out, lessW_fn] at ht; exact ht))
                              go_wp2
                              go_roundw
                              case rel => exact ⟨j - 1, int_pred (by omega), by omega, by omega, Lib.hid ⟨_, rfl⟩, Lib.hid (by rw [← HT.out]; exact HD2.out)⟩
                              case measure => simp [numOf]; omega
                            | false =>
                              have HD2e := Lib.hid ((down_end (p := (fun x => !ltF x e[a]!)) (d := e) (i := i) (j := j) (by rw [HG2.out, HG2.out, lessW_fn] at ht; exact ht)).symm.trans HD2.out)
                              clear ht
                              have HD2v : Hid (scanDown (fun x => !ltF x e[a]!) e i j1 = j) := Lib.hid (HD20.out.trans HD2e.out.symm)
                              by_cases hgt : j < i
                              · have HX2 := Lib.hid (part_stop (d := e) (a := a) (i := i1) (j := j1) (i2 := i) (j2 := j) (HU2v.out) (HD2v.out) hgt)
                                obtain ⟨z3, hz3⟩ := cell_behind (W := wo.drewN (n2 + 1)) (v := G2 a) ⟨_, hcw j (by omega)⟩ (hcw a na)
                                have nj : j < d.size := by omega
                                have E1 := Lib.hid (show (partition ltF d a b pv).1 = j by rw [partition_fst, HDK.out, HJB.out, ← HE.out.2.2, HX2.out])
                                have E2 := Lib.hid (show (partition ltF d a b pv).2.2 = swp e j a by rw [partition_arr, HDK.out, HJB.out, ← HE.out.2.2, HX2.out])
                                go_wp2
                                go_region
                                all_goals go_wp2
                                go_ret2
                                exact ⟨_, by rw [E1.out]; rfl, by rw [E2.out, HG2.out, HG2.out]; exact HE.out.2.1.swap HH.out HE.out.1 hblk _ (by rw [HE.out.1]; exact nj) (by rw [HE.out.1]; exact na)⟩
                              · have HX2 := Lib.hid (part_go (d := e) (a := a) (i := i1) (j := j1) (i2 := i) (j2 := j) (HU2v.out) (HD2v.out) hgt)
                                have ni3 : i < d.size := by omega
                                have nj : j < d.size := by omega
                                obtain ⟨z3, hz3⟩ := cell_behind (W := wo.drewN (n2 + 1)) (v := G2 j) ⟨_, hcw i ni3⟩ (hcw j nj)
                                have hj1' : 1 ≤ j := by omega
                                go_wp2
                                go_region
                                all_goals go_wp2
                                go_roundw
                                case rel => exact ⟨i + 1, j - 1, swp e i j, by go_num, int_pred hj1', by omega, by omega, by omega, Lib.hid ⟨by rw [size_swp]; exact HE.out.1, by rw [HG2.out, HG2.out]; exact HE.out.2.1.swap HH.out HE.out.1 hblk _ (by rw [HE.out.1]; exact ni3) (by rw [HE.out.1]; exact nj), by rw [← HE.out.2.2, HX2.out]⟩⟩
                                case measure => simp [numOf]; omega
theorem peq_stop {d : Array Fn} {a i j i2 j2 : Nat} (h1 : scanUp (fun x => !ltF d[a]! x) d j i = i2) (h2 : scanDown (fun x => ltF d[a]! x) d i2 j = j2) (h : j2 < i2) : partEqLoop ltF a i j d = (i2, d) := by
  rw [partEqLoop_eq, h1, h2, if_pos h]
theorem peq_go {d : Array Fn} {a i j i2 j2 : Nat} (h1 : scanUp (fun x => !ltF d[a]! x) d j i = i2) (h2 : scanDown (fun x => ltF d[a]! x) d i2 j = j2) (h : ¬ j2 < i2) : partEqLoop ltF a i j d = partEqLoop ltF a (i2 + 1) (j2 - 1) (swp d i2 j2) := by
  rw [partEqLoop_eq, h1, h2, if_neg h]
theorem peq_eq (d : Array Fn) (a b pv : Nat) : partitionEqual ltF d a b pv = partEqLoop ltF a (a + 1) (b - 1) (swp d a pv) := rfl
set_option maxHeartbeats 8000000 in
theorem peq_any (blk off cap a b pv : Nat) (d : Array Fn) (w : World) (hH : Holds flF w blk off d) (hblk : blk < w.heap.size) (hap : a ≤ pv) (hpb : pv < b) (hb : b ≤ d.size) (hsz : d.size < 4611686018427387904) :
    Calls Try.prog 53 #[.slice (some ⟨blk, off, none⟩) d.size cap, .int .i64 a, .int .i64 b, .int .i64 pv] w fun e w' => e = .returned (.int .i64 (partitionEqual ltF d a b pv).1) ∧ AtRow w blk off (partitionEqual ltF d a b pv).2 w' := by
  have HH := Lib.hid hH
  obtain ⟨G0, hG0⟩ := row_words d
  obtain ⟨hcw, hfw⟩ := (AtRow.refl hH).cells hH rfl hblk hG0
  have HG0 := Lib.hid hG0
  clear hH hG0
  have na : a < d.size := by omega
  have np : pv < d.size := by omega
  obtain ⟨z, hz⟩ := cell_behind (v := G0 pv) ⟨_, hcw a na⟩ (hcw pv np)
  have SG := Lib.hid ((AtRow.refl HH.out).swap1 HH.out rfl hblk HG0.out na np)
  go_enter Try.func53, Try.ntmps53
  go_wp2
  go_region
  all_goals go_wp2
  generalize (((w.setCell { block := blk, off := off + a } (Value.float FloatKind.f64 (G0 pv))).setCell { block := blk, off := off + pv } (Value.float FloatKind.f64 (G0 a))).drew) = W at *
  obtain ⟨dk, hdk⟩ : ∃ dk, swp d a pv = dk := ⟨_, rfl⟩
  rw [hdk] at SG
  have hs : dk.size = d.size := by rw [← hdk, size_swp]
  have HS := Lib.hid hs
  have HDK := Lib.hid hdk
  clear hs hdk
  clear hcw hfw hz
  obtain ⟨j0, hj, hj2⟩ : ∃ j : Nat, (b : Int) - 1 = j ∧ b - 1 = j := ⟨b - 1, by omega, rfl⟩
  have hjb : j0 + 1 = b := by omega
  have HJ := Lib.hid hj
  have HJB := Lib.hid hj2
  have hja : a ≤ j0 := by omega
  have hjd : j0 + 1 ≤ d.size := by omega
  have hjb1 : j0 + 1 ≤ b := by omega
  clear hj hj2 hjb
  rw [HJ.out]
  go_loopw [9, 10] (fun vi vj wr => ∃ (i j : Nat) (e : Array Fn), vi = .int .i64 i ∧ vj = .int .i64 j ∧ a + 1 ≤ i ∧ i ≤ j + 2 ∧ j + 1 ≤ b ∧ Hid (e.size = d.size ∧ AtRow w blk off e wr ∧ partEqLoop ltF a i j e = partEqLoop ltF a (a + 1) j0 dk)) (fun vi vj _ => (numOf vj).toNat + 1 - (numOf vi).toNat)
  case atStart => exact ⟨a + 1, j0, dk, by go_num, rfl, Nat.le_refl _, by omega, by omega, Lib.hid ⟨HS.out, SG.out, rfl⟩⟩
  case round =>
    obtain ⟨i1, j1, e, rfl, rfl, l1, l2, l3, HE⟩ := hrel
    obtain ⟨wo, rfl⟩ : ∃ wo : World, wo = wr := ⟨_, rfl⟩
    obtain ⟨G2, hG2⟩ := row_words e
    obtain ⟨hcw, hfw⟩ := HE.out.2.1.cells HH.out HE.out.1 hblk hG2
    have HG2 := Lib.hid hG2
    clear hG2
    obtain ⟨HU2v_, hU2⟩ : ∃ I, scanUp (fun x => !ltF e[a]! x) e j1 i1 = I := ⟨_, rfl⟩
    have HU20 := Lib.hid hU2
    clear hU2
    go_wp2
    go_loopw [9] (fun vi wr => ∃ i : Nat, vi = .int .i64 i ∧ i1 ≤ i ∧ i ≤ j1 + 2 ∧ Hid (∃ n, wr = wo.drewN n) ∧ Hid (scanUp (fun x => !ltF e[a]! x) e j1 i = HU2v_)) (fun vi _ => j1 + 1 - (numOf vi).toNat)
    case atStart => exact ⟨i1, by go_num, by omega, by omega, Lib.hid ⟨0, rfl⟩, Lib.hid HU20.out⟩
    case round =>
      obtain ⟨i, rfl, b1, b2, HW, HU2⟩ := hrel
      obtain ⟨n, hn⟩ := HW.out
      subst hn
      clear HW
      go_upto_region 3 with fail
      go_cut [43] (fun s wx => s = .bool (tst i j1 (!lessW (G2 a) (G2 i))) ∧ Hid (∃ n, wx = wo.drewN n))
      case first =>
        by_cases hij : i ≤ j1
        · have t1 : decide ((i : Int) ≤ (j1 : Int)) = true := decide_eq_true (by omega)
          have t2 : decide (i ≤ j1) = true := decide_eq_true hij
          have n1 : i < d.size := by omega
          go_quiet (first | (go_at_call 52; exact quiet_again (less_any _ _ _)))
          go_wp2_with fail
          go_meet
          exact ⟨congrArg Value.bool (by unfold tst; rw [t2, Bool.true_and]), Lib.hid ⟨_, World.drewN_drewN ..⟩⟩
        · have t1 : decide ((i : Int) ≤ (j1 : Int)) = false := decide_eq_false (by omega)
          have t2 : decide (i ≤ j1) = false := decide_eq_false hij
          go_quiet (fail)
          go_wp2_with fail
          go_meet
          exact ⟨congrArg Value.bool (by unfold tst; rw [t2, Bool.false_and]), Lib.hid ⟨_, World.drewN_drewN ..⟩⟩
      case rest =>
        obtain ⟨rfl, HW⟩ := hcut
        obtain ⟨n2, hn⟩ := HW.out
        subst hn
        clear HW
        cases ht : tst i j1 (!lessW (G2 a) (G2 i)) with
        | true =>
          have hij := (tst_t ht).1
          have HT := Lib.hid (up_more (p := (fun x => !ltF e[a]! x)) (d := e) (i := i) (j := j1) (by rw [HG2.out, HG2.out, lessW_fn] at ht; exact ht))
          go_wp2
          go_roundw
          case rel => exact ⟨i + 1, by go_num, by omega, by omega, Lib.hid ⟨_, rfl⟩, Lib.hid (by rw [← HT.out]; exact HU2.out)⟩
          case measure => simp [numOf]; omega
        | false =>
          have HU2e := Lib.hid ((up_end (p := (fun x => !ltF e[a]! x)) (d := e) (i := i) (j := j1) (by rw [HG2.out, HG2.out, lessW_fn] at ht; exact ht)).symm.trans HU2.out)
          clear ht
          have HU2v : Hid (scanUp (fun x => !ltF e[a]! x) e j1 i1 = i) := Lib.hid (HU20.out.trans HU2e.out.symm)
          obtain ⟨HD2v_, hD2⟩ : ∃ J, scanDown (fun x => ltF e[a]! x) e i j1 = J := ⟨_, rfl⟩
          have HD20 := Lib.hid hD2
          clear hD2
          go_wp2
          go_loopw [10] (fun vi wr => ∃ j : Nat, vi = .int .i64 j ∧ i ≤ j + 2 ∧ j ≤ j1 ∧ Hid (∃ n, wr = wo.drewN n) ∧ Hid (scanDown (fun x => ltF e[a]! x) e i j = HD2v_)) (fun vi _ => (numOf vi).toNat)
          case atStart => exact ⟨j1, rfl, by omega, Nat.le_refl _, Lib.hid ⟨n2, rfl⟩, Lib.hid HD20.out⟩
          case round =>
            obtain ⟨j, rfl, b1, b2, HW, HD2⟩ := hrel
            obtain ⟨n, hn⟩ := HW.out
            subst hn
            clear HW
            go_upto_region 5 with fail
            go_cut [59] (fun s wx => s = .bool (tst i j (lessW (G2 a) (G2 j))) ∧ Hid (∃ n, wx = wo.drewN n))
            case first =>
              by_cases hij : i ≤ j
              · have t1 : decide ((i : Int) ≤ (j : Int)) = true := decide_eq_true (by omega)
                have t2 : decide (i ≤ j) = true := decide_eq_true hij
                have n1 : j < d.size := by omega
                go_quiet (first | (go_at_call 52; exact quiet_again (less_any _ _ _)))
                go_wp2_with fail
                go_meet
                exact ⟨congrArg Value.bool (by unfold tst; rw [t2, Bool.true_and]), Lib.hid ⟨_, World.drewN_drewN ..⟩⟩
              · have t1 : decide ((i : Int) ≤ (j : Int)) = false := decide_eq_false (by omega)
                have t2 : decide (i ≤ j) = false := decide_eq_false hij
                go_quiet (fail)
                go_wp2_with fail
                go_meet
                exact ⟨congrArg Value.bool (by unfold tst; rw [t2, Bool.false_and]), Lib.hid ⟨_, World.drewN_drewN ..⟩⟩
            case rest =>
              obtain ⟨rfl, HW⟩ := hcut
              obtain ⟨n2, hn⟩ := HW.out
              subst hn
              clear HW
              cases ht : tst i j (lessW (G2 a) (G2 j)) with
              | true =>
                have hij := (tst_t ht).1
                have HT := Lib.hid (down_more (p := (fun x => ltF e[a]! x)) (d := e) (i := i) (j := j) (by omega) (by rw [HG2.out, HG2.out, lessW_fn] at ht; exact ht))
                go_wp2
                go_roundw
                case rel => exact ⟨j - 1, int_pred (by omega), by omega, by omega, Lib.hid ⟨_, rfl⟩, Lib.hid (by rw [← HT.out]; exact HD2.out)⟩
                case measure => simp [numOf]; omega
              | false =>
                have HD2e := Lib.hid ((down_end (p := (fun x => ltF e[a]! x)) (d := e) (i := i) (j := j) (by rw [HG2.out, HG2.out, lessW_fn] at ht; exact ht)).symm.trans HD2.out)
                clear ht
                have HD2v : Hid (scanDown (fun x => ltF e[a]! x) e i j1 = j) := Lib.hid (HD20.out.trans HD2e.out.symm)
                by_cases hgt : j < i
                · have HX2 := Lib.hid (peq_stop (d := e) (a := a) (i := i1) (j := j1) (i2 := i) (j2 := j) (HU2v.out) (HD2v.out) hgt)
                  have E1 := Lib.hid (show (partitionEqual ltF d a b pv).1 = i by rw [peq_eq, HDK.out, HJB.out, ← HE.out.2.2, HX2.out])
                  have E2 := Lib.hid (show (partitionEqual ltF d a b pv).2 = e by rw [peq_eq, HDK.out, HJB.out, ← HE.out.2.2, HX2.out])
                  go_wp2
                  go_ret
                  exact ⟨by rw [E1.out]; rfl, by rw [E2.out]; exact HE.out.2.1.draws _⟩
                · have HX2 := Lib.hid (peq_go (d := e) (a := a) (i := i1) (j := j1) (i2 := i) (j2 := j) (HU2v.out) (HD2v.out) hgt)
                  have ni3 : i < d.size := by omega
                  have nj : j < d.size := by omega
                  obtain ⟨z3, hz3⟩ := cell_behind (W := wo.drewN (n2 + 1)) (v := G2 j) ⟨_, hcw i ni3⟩ (hcw j nj)
                  have hj1' : 1 ≤ j := by omega
                  go_wp2
                  go_region
                  all_goals go_wp2
                  go_roundw
                  case rel => exact ⟨i + 1, j - 1, swp e i j, by go_num, int_pred hj1', by omega, by omega, by omega, Lib.hid ⟨by rw [size_swp]; exact HE.out.1, by rw [HG2.out, HG2.out]; exact HE.out.2.1.swap HH.out HE.out.1 hblk _ (by rw [HE.out.1]; exact ni3) (by rw [HE.out.1]; exact nj), by rw [← HE.out.2.2, HX2.out]⟩⟩
                  case measure => simp [numOf]; omega
end Go.Proofs.Ytiancafoipllbaa
