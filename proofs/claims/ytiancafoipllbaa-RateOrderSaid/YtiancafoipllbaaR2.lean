/- What is proved: the contract of the iterator over the rates that are right (turned from the kit's worked proofs on slices.Values). No condition but those each law names. -/
import Derived.RangeFuncBox
import Derived.RangeFuncLeaves
import Derived.Shelf.Abstract
import Derived.OwnWalkIn
import Derived.TacticsInMore
import Derived.LoopNIn
import Derived.LoopIn
import Derived.Maps.AppendAt
import Derived.Test.YtiancafoipllbaaR1
namespace Go.Proofs.Ytiancafoipllbaa
open Go.RowKit Go.Shelf Fl

attribute [local go_sem] Oper.semAt_some
attribute [local go_sem] Fl.cmp_eql Fl.cmp_neq Fl.cmp_lss Fl.cmp_leq Fl.cmp_gtr Fl.cmp_geq

/-- Those that are right, -0 made nought. -/
def rights (zs : List Nat) : List Nat := (zs.filter okB).map plainW
theorem rights_snoc (zs : List Nat) (z : Nat) : rights (zs ++ [z]) = rights zs ++ (if okB z then [plainW z] else []) := by
  unfold rights
  rw [List.filter_append, List.map_append]
  congr 1
  cases h : okB z <;> simp [h]
theorem rights_prefix (zs : List Nat) (k : Nat) : rights (zs.take k) <+: rights zs := by
  unfold rights
  obtain ⟨r, hr⟩ := List.take_prefix k zs
  refine ⟨(r.filter okB).map plainW, ?_⟩
  rw [← List.map_append, ← List.filter_append, hr]
theorem rights_length (zs : List Nat) : (rights zs).length ≤ zs.length := by
  unfold rights
  rw [List.length_map]
  exact List.length_filter_le _ _
theorem take_snoc (zs : List Nat) {k : Nat} (h : k < zs.length) : zs.take (k + 1) = zs.take k ++ [zs[k]] := by
  rw [List.take_add_one, List.getElem?_eq_getElem h]
  rfl
set_option maxRecDepth 100000 in
set_option maxHeartbeats 2000000 in
/-- The closure: for every loop body that keeps what lay below n₀. -/
theorem right1_in (n : Nat) (hn : 1 ≤ n) (l Bs n₀ b off cap : Nat) (zs : List Nat) (hreach : zs.length * 8 ≤ 140737488351232) (hb : b < n₀) (J Jx : List Nat → World → Prop)
    (hY : ∀ pre x W, J pre W → pre.length < zs.length → YieldAt Fence.wide (n - 1) Try.prog l #[.float .f64 x] W fun e W' =>
      (e = .returned (.bool true) ∧ J (pre ++ [x]) W' ∧ Below n₀ W W') ∨ (e = .returned (.bool false) ∧ Jx (pre ++ [x]) W'))
    (W : World) (hBs : W.cell? ⟨Bs, 0, none⟩ = some (.slice (some ⟨b, off, none⟩) zs.length cap)) (hc : ∀ j (h : j < zs.length), W.cell? ⟨b, off + j, none⟩ = some (.float .f64 zs[j])) (h0 : J [] W) :
    CallsIn Fence.wide n Try.prog 39 #[.func (.yield l) #[] #[], .pointer (some ⟨Bs, 0, none⟩)] W fun e W' => (∃ v, e = .returned v) ∧
      ((∃ ys, ys = rights zs ∧ J ys W') ∨ (∃ pre, pre <+: rights zs ∧ Jx pre W')) := by
  have hf16 : Fence.wide.fn 16 := trivial
  have hf33 : Fence.wide.fn 33 := trivial
  refine callsIn_of_wp Try.func39 rfl trivial ?_ rfl
  simp only [Try.ntmps39, List.size_toArray, List.length_cons, List.length_nil, Nat.reduceAdd, Nat.reduceSub, Array.replicate_succ, Array.replicate_zero, List.push_toArray, List.append_toArray, List.nil_append, List.cons_append]
  gi_wp2
  gi_loopw [7] (fun i wr => ∃ k : Nat, k ≤ zs.length ∧ i = .int .i64 k ∧ J (rights (zs.take k)) wr ∧ Below n₀ W wr)
    (fun i _ => zs.length - (intOf i).toNat)
  case atStart => exact ⟨0, Nat.zero_le _, rfl, h0, Below.refl _ _⟩
  case round =>
    obtain ⟨k, hk, rfl, hJs, hnx⟩ := hrel
    by_cases hlt : k < zs.length
    · have hcx : wr.cell? ⟨b, off + k, none⟩ = some (.float .f64 zs[k]) := (hnx.cell (p := ⟨b, off + k, none⟩) hb).trans (hc k hlt)
      have hst := take_snoc zs hlt
      obtain ⟨z, hz⟩ : ∃ z, z = zs[k] := ⟨_, rfl⟩
      rw [← hz] at hcx hst
      clear hz
      have hrs := rights_snoc (zs.take k) z
      rw [← hst] at hrs
      have hlen : (rights (zs.take k)).length < zs.length := Nat.lt_of_le_of_lt (rights_length _) (by rw [List.length_take]; omega)
      cases hok : okB z with
      | true =>
        rw [hok, if_pos rfl] at hrs
        have hchk : chk z = 0 := by unfold chk; rw [hok]; rfl
        obtain ⟨fn, tmps, assign, body, hy, hR⟩ := hY _ (plainW z) wr hJs hlen
        gi_wp2_with (first
          | (gi_at_call 16; refine (callsIn_wide.2 (check_any _ _)).mono ?_; rintro _ _ ⟨rfl, rfl⟩; rw [hchk])
          | (gi_at_call 33; refine (callsIn_wide.2 (plain_any _ _)).mono ?_; rintro _ _ ⟨rfl, rfl⟩))
        refine hR.mono ?_
        rintro e W3 (⟨rfl, hJ3, hk3⟩ | ⟨rfl, hJx3⟩)
        · gi_wp2
          go_roundw
          case rel => exact ⟨k + 1, by omega, by simp, by rw [hrs]; exact hJ3, hnx.trans hk3⟩
          case measure => simp [intOf]; omega
        · gi_wp2
          refine bodyPost_ret (results_none rfl _ _ _) rfl ?_
          exact ⟨⟨_, rfl⟩, .inr ⟨_, by rw [← hrs]; exact rights_prefix zs (k + 1), hJx3⟩⟩
      | false =>
        rw [hok, if_neg (by simp), List.append_nil] at hrs
        have hchk : chk z = 15 := by unfold chk; rw [hok]; rfl
        gi_wp2_with (gi_at_call 16; refine (callsIn_wide.2 (check_any _ _)).mono ?_; rintro _ _ ⟨rfl, rfl⟩; rw [hchk])
        refine ⟨fun _ h => (by cases h), ?_⟩
        gi_wp2
        go_roundw
        case rel => exact ⟨k + 1, by omega, by simp, by rw [hrs]; exact hJs, hnx⟩
        case measure => simp [intOf]; omega
    · obtain rfl : k = zs.length := by omega
      rw [List.take_length] at hJs
      gi_wp2
      go_end0
      exact ⟨⟨_, rfl⟩, .inl ⟨_, rfl, hJs⟩⟩
end Go.Proofs.Ytiancafoipllbaa
