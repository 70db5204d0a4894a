/- What is proved: what slices.Delete of one element does, in a world. No condition. -/
import Derived.Test.YteklnfajpignoaaB3
import Derived.ProofKit
import Derived.StillTailTactics
namespace Go.Proofs.Yteklnfajpignoaa
open Go.RowKit
set_option maxRecDepth 100000

def zero3 : List Value := [.int .i64 0, .int .i64 0, .slice none 0 0]
theorem src_of {w : World} {b o c n cap i : Nat} {news : List Value} (hl : news.length = n * 3) (hn : 0 < n → ¬ cap = i) (hc : ∀ (j : Nat) u, news[j]? = some u → w.cell? ⟨b, o + i * 3 + j, none⟩ = some u) (h1 : ∀ u ∈ news, u.oneCell' = true) :
    Src Try.prog 3 51 (.slice (if cap = i then some ⟨b, o, none⟩ else some ⟨b, o + i * 3, none⟩) n c) n news w := by
  by_cases h0 : 0 < n
  · rw [if_neg (hn h0)]
    exact Src.ofSlice w Try.underlying51 _ n c news hl (fun j u hj => by rw [Sx.addr_add]; exact hc j u hj) h1
  · obtain rfl : n = 0 := by omega
    have : news = [] := List.length_eq_zero_iff.1 (by simpa using hl)
    subst this
    refine ⟨.inl ⟨_, Try.underlying51⟩, fun _ => rfl, ?_, ?_, rfl, fun u hu => by cases hu⟩
    · split <;> (simp [Builtin.firstCells, loadCells]; exact run_loadCells_list (P := Try.prog) (w := w) _ [] (fun j v hv => by simp at hv))
    · split <;> (simp [Builtin.firstCells, loadCells]; exact run_loadCells_list (P := Try.prog) (w := w.drew) _ [] (fun j v hv => by simp at hv))
theorem clear_run {w : World} {b o c : Nat} {ty : TypeId} (hc : ∀ j, j < 3 → (w.cell? ⟨b, o + j, none⟩).isSome = true ∧ w.frozen? ⟨b, o + j, none⟩ = false) :
    (Builtin.clear_ #[51] ty #[.slice (some ⟨b, o, none⟩) 1 c]).run Try.prog w = .ok (.tuple #[]) (w.setCells b o zero3) := by
  obtain ⟨i, hi, hs, _, hz⟩ := Sx.tyOf_spec (P := Try.prog) (t := 42) (s := 3) (b := 40) (z := .agg zero3.toArray) (by kernel_rfl)
  have hzr : (zeroValue 42).run Try.prog w = .ok (.agg zero3.toArray) w := by simp [zeroValue, typeInfo, hi, hz]
  have hst := run_storeCells_cells (P := Try.prog) b o zero3 0 w (fun j hj => by simpa using (hc j (by simpa [zero3] using hj)).1) (fun j hj => by simpa using (hc j (by simpa [zero3] using hj)).2) (fun v hv => by
    simp [zero3] at hv; rcases hv with rfl | rfl <;> rfl)
  simp only [Nat.add_zero] at hst
  have hzc : (Builtin.zeroCells (Value.agg zero3.toArray).cells 1).toList = zero3 := by kernel_rfl
  simp only [Builtin.clear_, List.getElem?_toArray, List.getElem?_cons_zero, Sem.run_bind, run_underlying Try.underlying51, Result.andThen_ok, hzr, hzc, hst, Sem.run_pure]
set_option maxHeartbeats 2000000 in
theorem del_raw {w : World} {b o len cap : Nat} {i : Nat} (hil : i < len) (hc : len ≤ cap) (hlen : len ≤ 1000000) {tl : List Value} (hl : tl.length = (len - (i + 1)) * 3)
    (ht : ∀ (j : Nat) u, tl[j]? = some u → w.cell? ⟨b, o + (i + 1) * 3 + j, none⟩ = some u) (h1c : ∀ u ∈ tl, u.oneCell' = true)
    (hw : ∀ j, j < len * 3 → (w.cell? ⟨b, o + j, none⟩).isSome = true ∧ w.frozen? ⟨b, o + j, none⟩ = false) :
    Calls Try.prog 40 #[.slice (some ⟨b, o, none⟩) len cap, .int .i64 i, .int .i64 (i + 1 : Nat)] w fun e w' => e = .returned (.slice (some ⟨b, o, none⟩) (len - 1) cap) ∧ w' = (w.drew.setCells b (o + i * 3) tl).setCells b (o + (len - 1) * 3) zero3 := by
  have h1 : (i : Int) ≤ len := by omega
  have h2 : (0 : Int) ≤ i := by omega
  have h3 : (i : Int) ≤ cap := by omega
  have h4 : (i : Int) + 1 ≤ len := by omega
  have h5 : (0 : Int) ≤ (i : Int) + 1 := by omega
  have h6 : ((i : Int) + 1).toNat = i + 1 := by omega
  have h7 : ¬ cap = 0 := by omega
  have h8 : ¬ cap = i := by omega
  have h9 : (i : Int) + 1 ≤ cap := by omega
  obtain ⟨inf, hi, hs, _, hz⟩ := Sx.tyOf_spec (P := Try.prog) (t := 42) (s := 3) (b := 40) (z := .agg zero3.toArray) (by kernel_rfl)
  have hsrc : Src Try.prog 3 51 (.slice (if cap = i + 1 then some ⟨b, o, none⟩ else some ⟨b, o + (i + 1) * 3, none⟩) (len - (i + 1)) (cap - (i + 1))) (len - (i + 1)) tl w.drew := src_of hl (by omega) ht h1c
  have hrun : ∀ ty, (Builtin.append_ #[51, 51] ty #[.slice (some ⟨b, o, none⟩) i cap, .slice (if cap = i + 1 then some ⟨b, o, none⟩ else some ⟨b, o + (i + 1) * 3, none⟩) (len - (i + 1)) (cap - (i + 1))]).run Try.prog w.drew = .ok (.slice (some ⟨b, o, none⟩) (len - 1) cap) (w.drew.setCells b (o + i * 3) tl) := fun ty => by
    rw [← hs] at hsrc
    have := run_append_room_src (P := Try.prog) w.drew 51 51 ty 42 inf Try.underlying51 hi b o i cap _ (len - (i + 1)) tl hsrc (by omega) (fun j hj => by rw [hs, Nat.add_assoc]; exact (hw (i * 3 + j) (by omega)).1) (fun j hj => by rw [hs, Nat.add_assoc]; exact (hw (i * 3 + j) (by omega)).2)
    rw [hs, show i + (len - (i + 1)) = len - 1 by omega] at this
    exact this
  have hclear : ∀ ty, (Builtin.clear_ #[51] ty #[.slice (some ⟨b, o + (len - 1) * 3, none⟩) 1 (cap - (len - 1))]).run Try.prog (w.drew.setCells b (o + i * 3) tl) = .ok (.tuple #[]) ((w.drew.setCells b (o + i * 3) tl).setCells b (o + (len - 1) * 3) zero3) := fun ty => clear_run fun j hj => by
    rw [World.frozen?_setCells, Sx.cell_there, Sx.shape_setCells, ← Sx.cell_there, Nat.add_assoc]
    exact hw ((len - 1) * 3 + j) (by omega)
  have k1 : (0 : Int) ≤ ((len - 1 : Nat) : Int) := by omega
  have k2 : ((len - 1 : Nat) : Int) ≤ len := by omega
  have k3 : ((len : Nat) : Int) ≤ cap := by omega
  have k4 : ¬ cap = len - 1 := by omega
  have k5 : len - (len - 1) = 1 := by omega
  clear ht hw hsrc hl
  go_enter Try.func40, Try.ntmps40
  go_wp2_with fail
  go_still_tail 6, (by kernel_rfl)
  change wpList _ _ _ _ _ w.drew
  refine wpList_plain rfl fun K hK => ?_
  unfold Oper.wp
  simp only [execOp, resolve, invoke, builtin, Sem.run_bind, Sem.run_pure, Result.andThen_ok, List.map_toArray, List.map_cons, List.map_nil]
  change Oper.upon _ _ _ _ _ (Result.andThen ((Builtin.append_ #[51, 51] 51 #[.slice (some ⟨b, o, none⟩) i cap, .slice (if cap = i + 1 then some ⟨b, o, none⟩ else some ⟨b, o + (i + 1) * 3, none⟩) (len - (i + 1)) (cap - (i + 1))]).run Try.prog w.drew) _)
  rw [hrun, Result.andThen_ok, Oper.upon_value]
  refine hK _ _ ?_
  clear hrun hK
  go_wp2_with fail
  all_goals
    go_ret
    exact ⟨rfl, rfl⟩
end Go.Proofs.Yteklnfajpignoaa
