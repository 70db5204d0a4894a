/- What is proved: the document's Median: the least one that so many are not above. No condition but those each law names. -/
import Derived.Test.YtiancafoipllbaaRQ
import Derived.Test.YtiancafoipllbaaBytes
import Derived.Test.YtiancafoipllbaaRP
import Derived.Test.YtiancafoipllbaaRD
namespace Go.Proofs.Ytiancafoipllbaa
open Go.RowKit Fl Ieee
attribute [-go_sem] binOp_float_cmp_eql binOp_float_cmp_neq binOp_float_cmp_lss binOp_float_cmp_leq binOp_float_cmp_gtr binOp_float_cmp_geq
attribute [local go_sem] Fl.cmp_eql Fl.cmp_neq Fl.cmp_lss Fl.cmp_leq Fl.cmp_gtr Fl.cmp_geq
set_option maxRecDepth 100000

theorem elemF : Elem Try.prog 22 24 1 := Elem.mk' Try.underlying22 (by kernel_rfl) (z := .float .f64 0) (bytes := 8) rfl (by decide) (by decide)
def fls (l : List Nat) : List Value := l.map flV
theorem fls_length (l : List Nat) : (fls l).length = l.length := by simp [fls]
theorem fls_get (l : List Nat) (j : Nat) : (fls l)[j]? = (l[j]?).map flV := by unfold fls; rw [List.getElem?_map]
theorem fls_append (l k : List Nat) : fls (l ++ k) = fls l ++ fls k := by simp [fls]
theorem fls_one (l : List Nat) : ∀ u ∈ fls l, u.oneCell' = true := by intro u hu; simp only [fls, List.mem_map] at hu; obtain ⟨n, _, rfl⟩ := hu; rfl
theorem right_ok (z : Nat) (h : z < 2 * NEG) (w : World) : Calls Try.prog 30 #[.float .f64 z] w fun e w' => e = .returned (.bool (okB z)) ∧ w' = w := by
  have := right_B z w
  rw [rightB_eq h] at this
  exact this
theorem oks_snoc (zs : List Nat) (z : Nat) : oks (zs ++ [z]) = oks zs ++ (if okB z then [z] else []) := by
  unfold oks
  rw [List.filter_append]
  cases h : okB z <;> simp [h]
theorem oks_length (zs : List Nat) : (oks zs).length ≤ zs.length := List.length_filter_le ..
/-- What the document's Median tells. -/
def refW (zs : List Nat) : Nat := if oks zs = [] then 0 else (rights zs).foldl (bestF (rights zs).length (rights zs)) W6
def refE (zs : List Nat) : Int := if oks zs = [] then 12 else 0
/-- The best so far. -/
def bestN (V : List Nat) (i : Nat) : Nat := (V.take i).foldl (bestF V.length V) W6
theorem bestN_succ {V : List Nat} {i : Nat} (h : i < V.length) : bestN V (i + 1) = bestF V.length V (bestN V i) V[i] := by
  unfold bestN
  rw [take_snoc V h, List.foldl_append]
  rfl
theorem bestN_zero (V : List Nat) : bestN V 0 = W6 := rfl
theorem bestN_le (V : List Nat) (i : Nat) : bestN V i ≤ W6 := (best_le V.length V (V.take i) W6).1
/-- How many of the first k are not above x. -/
def cntN (V : List Nat) (x k : Nat) : Nat := cnt (V.take k) x
theorem cntN_succ {V : List Nat} {x k : Nat} (h : k < V.length) : cntN V x (k + 1) = cntN V x k + (if V[k] ≤ x then 1 else 0) := by
  unfold cntN cnt
  rw [take_snoc V h, List.countP_append, List.countP_singleton]
  simp
theorem cntN_zero (V : List Nat) (x : Nat) : cntN V x 0 = 0 := rfl
theorem cntN_le (V : List Nat) (x k : Nat) : cntN V x k ≤ V.length := by
  have := List.countP_le_length (p := fun y => decide (y ≤ x)) (l := V.take k)
  unfold cntN cnt
  rw [List.length_take] at this
  omega
theorem cntN_all (V : List Nat) (x : Nat) : cntN V x V.length = cnt V x := by unfold cntN; rw [List.take_length]

set_option maxHeartbeats 4000000 in
theorem refmed_any {w : World} {ao : Option Addr} {n c : Nat} {zs : List Nat} (hl : Sl w ao n c (fls zs)) (hn : n ≤ 1000) (hz : ∀ z ∈ zs, z < 2 * NEG) :
    Calls Try.prog 12 #[.slice ao n c] w (Ret (.tuple #[.float .f64 (refW zs), .int .i64 (refE zs)]) w) := by
  have hln : zs.length = n := by rw [← hl.len, fls_length]
  have HZ := Lib.hid hz
  clear hz
  go_enter Try.func12, Try.ntmps12
  go_wp2
  go_loopw [4, 5] (fun v i wr => ∃ j : Nat, j ≤ n ∧ i = .int .i64 j ∧ wr.ownsRow w.heap.size 24 1 v (oks (zs.take j)).length (fls (oks (zs.take j))) ∧ Below w.heap.size w wr) (fun _ i _ => n - (intOf i).toNat)
  case atStart => exact ⟨0, by omega, rfl, World.ownsRow_nil _ _ _ _, by (repeat' (first | (with_reducible exact Below.refl _ _) | (with_reducible assumption) | (with_reducible refine Ext.up _ ?_) | (with_reducible refine Below.alloc ?_ ?_ _) | (with_reducible refine Below.drew ?_) | (with_reducible refine Below.setCell ?_ ?_ _) | (with_reducible refine Below.setRow_ ?_ ?_ _) | go_size))⟩
  case round =>
    obtain ⟨j, hj, rfl, hown, hb⟩ := hrel
    obtain ⟨ao', cap, rfl⟩ := own_form hown
    have hzz := hb.size
    by_cases hlt : j < n
    · obtain ⟨b, o, rfl, hbw, hc⟩ := hl.at (by omega)
      have hjz : j < zs.length := by omega
      have hx := hc j _ (by rw [fls_get, List.getElem?_eq_getElem hjz]; rfl)
      rw [← hb.cell (by exact hbw)] at hx
      have hsn := oks_snoc (zs.take j) zs[j]
      rw [← take_snoc zs hjz] at hsn
      have hlt63 := HZ.out zs[j] (List.getElem_mem hjz)
      have hol := oks_length (zs.take j)
      rw [List.length_take] at hol
      generalize zs[j] = x at *
      unfold flV at hx
      cases hk : okB x with
      | false =>
        rw [hk] at hsn
        simp only [Bool.false_eq_true, if_false, List.append_nil] at hsn
        have HS := Lib.hid hsn
        clear hsn
        go_wp2_with (go_at_call 30; refine (right_ok x hlt63 _).mono ?_; rintro _ _ ⟨rfl, rfl⟩)
        go_roundw
        case rel => exact ⟨j + 1, by omega, rfl, by rw [HS.out]; exact hown, hb⟩
        case measure => simp [intOf]; omega
      | true =>
        rw [hk] at hsn
        simp only [if_true] at hsn
        have HS := Lib.hid hsn
        clear hsn
        go_wp2_with (first | (go_at_call 30; refine (right_ok x hlt63 _).mono ?_; rintro _ _ ⟨rfl, rfl⟩) | (at_builtin; refine wp_app1 elemF rfl _ _ rfl (B := w.heap.size) rfl hown rfl rfl (by omega) hzz ?_))
        intro ao2 cap2 w2 hown2 hb2
        go_wp2
        go_roundw
        case rel => exact ⟨j + 1, by omega, rfl, by rw [HS.out, List.length_append, fls_append]; exact hown2, hb.trans hb2⟩
        case measure => simp [intOf]; omega
    · obtain rfl : j = n := by omega
      have htk : zs.take j = zs := by rw [← hln, List.take_length]
      rw [htk] at hown ⊢
      clear htk
      by_cases h0 : oks zs = []
      · have e1 : refW zs = 0 := if_pos h0
        have e2 : refE zs = 12 := if_pos h0
        rw [h0] at hown
        have hl0 : (([] : List Nat).length) = 0 := rfl
        rw [hl0] at hown
        rw [h0, hl0]
        go_wp2
        refine bodyPost_ret (results_tmp2 rfl _ _ _) rfl (Ret.mk_of hb ?_)
        rw [e1, e2]
        rfl
      · have hv := rights_oks HZ.out
        have hok := Lib.hid (oks_ok HZ.out)
        have e1 : refW zs = bestN (rights zs) (rights zs).length := by unfold refW bestN; rw [if_neg h0, List.take_length]
        have e2 : refE zs = 0 := if_neg h0
        have hol := oks_length zs
        rw [hv, List.length_map] at e1
        have E1 := Lib.hid e1
        have E2 := Lib.hid e2
        clear e1 e2 hv HZ
        generalize oks zs = A at *
        have hA0 : ((A.length : Int) == 0) = false := by
          rw [beq_eq_false_iff_ne]
          intro e
          exact h0 (List.eq_nil_of_length_eq_zero (by omega))
        have hVl : (A.map vz).length = A.length := List.length_map ..
        obtain ⟨w1, rfl⟩ : ∃ x : World, x = wr := ⟨_, rfl⟩
        go_wp2
        go_loopw [6, 7, 8, 9] (fun v6 v7 _ _ wr => ∃ (i b : Nat), i ≤ A.length ∧ v6 = .float .f64 b ∧ v7 = .int .i64 i ∧ okW b ∧ Hid (vz b = bestN (A.map vz) i) ∧ Below w1.heap.size w1 wr) (fun _ v7 _ _ _ => A.length - (intOf v7).toNat)
        case atStart => exact ⟨0, W6, Nat.zero_le _, rfl, rfl, okW_W6, Lib.hid vz_W6, Below.refl _ _⟩
        case round =>
          obtain ⟨i, b, hi, rfl, rfl, hob, HB, hb1⟩ := hrel
          have hown1 := own_keep hown (Nat.le_refl _) hb1
          by_cases hia : i < A.length
          · obtain ⟨x, hix⟩ : ∃ x, A[i]? = some x := ⟨_, List.getElem?_eq_getElem hia⟩
            have hxo : okW x := hok.out x (List.mem_of_getElem? hix)
            have hVi : (A.map vz)[i]'(by omega) = vz x := by
              rw [List.getElem_map]
              congr 1
              exact Option.some.inj ((List.getElem?_eq_getElem hia).symm.trans hix)
            have HS := Lib.hid (bestN_succ (V := A.map vz) (i := i) (by omega))
            obtain ⟨w2, rfl⟩ : ∃ x : World, x = wr := ⟨_, rfl⟩
            have hi2 : (i : Int) < A.length := by omega
            go_wp2
            go_loopw [8, 9] (fun v8 v9 wr => ∃ k : Nat, k ≤ A.length ∧ v8 = .int .i64 (cntN (A.map vz) (vz x) k : Nat) ∧ v9 = .int .i64 k ∧ Below w1.heap.size w1 wr) (fun _ v9 _ => A.length - (intOf v9).toNat)
            case atStart => exact ⟨0, Nat.zero_le _, rfl, rfl, hb1⟩
            case round =>
              obtain ⟨k, hk, rfl, rfl, hb2⟩ := hrel
              have hown2 := own_keep hown (Nat.le_refl _) hb2
              have hcl := cntN_le (A.map vz) (vz x) k
              obtain ⟨bb, oo, rfl, hbw, hc⟩ := (Sl.own hown2).at (by omega)
              have hx := hc i _ (by rw [fls_get, hix]; rfl)
              unfold flV at hx
              by_cases hka : k < A.length
              · obtain ⟨y, hky⟩ : ∃ y, A[k]? = some y := ⟨_, List.getElem?_eq_getElem hka⟩
                have hyo : okW y := hok.out y (List.mem_of_getElem? hky)
                have hVk : (A.map vz)[k]'(by omega) = vz y := by
                  rw [List.getElem_map]
                  congr 1
                  exact Option.some.inj ((List.getElem?_eq_getElem hka).symm.trans hky)
                have hsc := cntN_succ (V := A.map vz) (x := vz x) (k := k) (by omega)
                rw [hVk] at hsc
                have hy := hc k _ (by rw [fls_get, hky]; rfl)
                unfold flV at hy
                have gx := ext_cell hx
                have gy := ext_cell hy
                have hle := leB_vz hyo hxo
                have HSC := Lib.hid hsc
                have HLE := Lib.hid hle
                clear hsc hle hc
                generalize cntN (A.map vz) (vz x) k = q at *
                cases hq : leB y x with
                | true =>
                  go_wp2
                  (refine wp_region_grow (by kernel_rfl) (by kernel_rfl) ?_; (repeat (go_big_quiet_step ((fail)))); refine wpQuiet_nil ?_; rintro _ ⟨g, rfl⟩)
                  go_wp2
                  go_roundw
                  case rel => exact ⟨k + 1, by omega, by rw [HSC.out, if_pos (of_decide_eq_true (HLE.out.symm.trans hq))]; rfl, rfl, by (repeat' (first | (with_reducible exact Below.refl _ _) | (with_reducible assumption) | (with_reducible refine Ext.up _ ?_) | (with_reducible refine Below.alloc ?_ ?_ _) | (with_reducible refine Below.drew ?_) | (with_reducible refine Below.setCell ?_ ?_ _) | (with_reducible refine Below.setRow_ ?_ ?_ _) | go_size))⟩
                  case measure => simp [intOf]; omega
                | false =>
                  go_wp2
                  (refine wp_region_grow (by kernel_rfl) (by kernel_rfl) ?_; (repeat (go_big_quiet_step ((fail)))); refine wpQuiet_nil ?_; rintro _ ⟨g, rfl⟩)
                  go_wp2
                  go_roundw
                  case rel => exact ⟨k + 1, by omega, by rw [HSC.out, if_neg (of_decide_eq_false (HLE.out.symm.trans hq))]; rfl, rfl, by (repeat' (first | (with_reducible exact Below.refl _ _) | (with_reducible assumption) | (with_reducible refine Ext.up _ ?_) | (with_reducible refine Below.alloc ?_ ?_ _) | (with_reducible refine Below.drew ?_) | (with_reducible refine Below.setCell ?_ ?_ _) | (with_reducible refine Below.setRow_ ?_ ?_ _) | go_size))⟩
                  case measure => simp [intOf]; omega
              · obtain rfl : k = A.length := by omega
                have hall := cntN_all (A.map vz) (vz x)
                rw [hVl] at hall
                have HA := Lib.hid hall
                clear hall hc
                have hlt := ltB_vz hxo hob
                have HLT := Lib.hid hlt
                clear hlt
                generalize cntN (A.map vz) (vz x) A.length = q at *
                have HS2 : Hid (bestN (A.map vz) (i + 1) = if A.length ≤ 2 * q ∧ vz x < vz b then vz x else vz b) := by
                  refine Lib.hid ?_
                  rw [HS.out, hVi, HB.out]
                  unfold bestF
                  rw [hVl, HA.out]
                clear HS HA HB
                by_cases hq : A.length ≤ 2 * q
                · have hq2 : (A.length : Int) ≤ 2 * q := by omega
                  cases hlb : ltB x b with
                  | true =>
                    go_wp2
                    go_roundw
                    case rel => exact ⟨i + 1, x, by omega, rfl, rfl, hxo, Lib.hid (by rw [HS2.out, if_pos ⟨hq, of_decide_eq_true (HLT.out.symm.trans hlb)⟩]), hb2⟩
                    case measure => simp [intOf]; omega
                  | false =>
                    go_wp2
                    go_roundw
                    case rel => exact ⟨i + 1, b, by omega, rfl, rfl, hob, Lib.hid (by rw [HS2.out, if_neg (fun h => of_decide_eq_false (HLT.out.symm.trans hlb) h.2)]), hb2⟩
                    case measure => simp [intOf]; omega
                · have hq2 : ¬ (A.length : Int) ≤ 2 * q := by omega
                  go_wp2
                  go_roundw
                  case rel => exact ⟨i + 1, b, by omega, rfl, rfl, hob, Lib.hid (by rw [HS2.out, if_neg (fun h => hq h.1)]), hb2⟩
                  case measure => simp [intOf]; omega
          · obtain rfl : i = A.length := by omega
            have hpl := Lib.hid ((plainW_vz hob).trans HB.out)
            have hbw : Below w.heap.size w wr := hb.trans (hb1.mono hzz)
            cases hq : eqB b 0 with
            | true =>
              go_wp2
              refine bodyPost_ret (results_tmp2 rfl _ _ _) rfl (Ret.mk_of hbw ?_)
              rw [E1.out, E2.out, ← hpl.out]
              unfold plainW
              rw [if_pos hq]
              rfl
            | false =>
              go_wp2
              refine bodyPost_ret (results_tmp2 rfl _ _ _) rfl (Ret.mk_of hbw ?_)
              rw [E1.out, E2.out, ← hpl.out]
              unfold plainW
              rw [if_neg (by rw [hq]; decide)]
              rfl
end Go.Proofs.Ytiancafoipllbaa
