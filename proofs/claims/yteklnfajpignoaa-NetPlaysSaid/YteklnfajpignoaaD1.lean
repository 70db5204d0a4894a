/- What is proved: what slices.Delete of one element does, in a world; the contract of slices.Delete of one element. No condition but those each law names. -/
import Derived.Test.YteklnfajpignoaaB1
import Derived.ProofKit
import Derived.StillTailTactics
import Derived.Test.YteklnfajpignoaaSzE
namespace Go.Proofs.Yteklnfajpignoaa
open Go.RowKit
set_option maxRecDepth 100000

def zero3 : List Value := [.int .i64 0, .int .i64 0, .slice none 0 0]
theorem src_of {w : World} {b o c n cap i : Nat} {news : List Value} (hl : news.length = n * 3) (hn : 0 < n → ¬ cap = i) (hc : ∀ (j : Nat) u, news[j]? = some u → w.cell? ⟨b, o + i * 3 + j, none⟩ = some u) (h1 : ∀ u ∈ news, u.oneCell' = true) :
    Src Try.prog 3 51 (.slice (if cap = i then some ⟨b, o, none⟩ else some ⟨b, o + i * 3, none⟩) n c) n news w := by
  by_cases h0 : 0 < n
  · rw [if_neg (hn h0)]
    exact Src.ofSlice w Try.underlying51 _ n c news hl (fun j u hj => by rw [Sx.addr_add]; exact hc j u hj) h1
  · obtain rfl : n = 0 := by omega
    have : news = [] := List.length_eq_zero_iff.1 (by simpa using hl)
    subst this
    refine ⟨.inl ⟨_, Try.underlying51⟩, fun _ => rfl, ?_, ?_, rfl, fun u hu => by cases hu⟩
    · split <;> (simp [Builtin.firstCells, loadCells]; exact run_loadCells_list (P := Try.prog) (w := w) _ [] (fun j v hv => by simp at hv))
    · split <;> (simp [Builtin.firstCells, loadCells]; exact run_loadCells_list (P := Try.prog) (w := w.drew) _ [] (fun j v hv => by simp at hv))
theorem clear_run {w : World} {b o c : Nat} {ty : TypeId} (hc : ∀ j, j < 3 → (w.cell? ⟨b, o + j, none⟩).isSome = true ∧ w.frozen? ⟨b, o + j, none⟩ = false) :
    (Builtin.clear_ #[51] ty #[.slice (some ⟨b, o, none⟩) 1 c]).run Try.prog w = .ok (.tuple #[]) (w.setCells b o zero3) := by
  obtain ⟨i, hi, hs, _, hz⟩ := Sx.tyOf_spec (P := Try.prog) (t := 42) (s := 3) (b := 40) (z := .agg zero3.toArray) (by kernel_rfl)
  have hzr : (zeroValue 42).run Try.prog w = .ok (.agg zero3.toArray) w := by simp [zeroValue, typeInfo, hi, hz]
  have hst := run_storeCells_cells (P := Try.prog) b o zero3 0 w (fun j hj => by simpa using (hc j (by simpa [zero3] using hj)).1) (fun j hj => by simpa using (hc j (by simpa [zero3] using hj)).2) (fun v hv => by
    simp [zero3] at hv; rcases hv with rfl | rfl <;> rfl)
  simp only [Nat.add_zero] at hst
  have hzc : (Builtin.zeroCells (Value.agg zero3.toArray).cells 1).toList = zero3 := by kernel_rfl
  simp only [Builtin.clear_, List.getElem?_toArray, List.getElem?_cons_zero, Sem.run_bind, run_underlying Try.underlying51, Result.andThen_ok, hzr, hzc, hst, Sem.run_pure]
set_option maxHeartbeats 2000000 in
theorem del_raw {w : World} {b o len cap : Nat} {i : Nat} (hil : i < len) (hc : len ≤ cap) (hlen : len ≤ 1000000) {tl : List Value} (hl : tl.length = (len - (i + 1)) * 3)
    (ht : ∀ (j : Nat) u, tl[j]? = some u → w.cell? ⟨b, o + (i + 1) * 3 + j, none⟩ = some u) (h1c : ∀ u ∈ tl, u.oneCell' = true)
    (hw : ∀ j, j < len * 3 → (w.cell? ⟨b, o + j, none⟩).isSome = true ∧ w.frozen? ⟨b, o + j, none⟩ = false) :
    Calls Try.prog 40 #[.slice (some ⟨b, o, none⟩) len cap, .int .i64 i, .int .i64 (i + 1 : Nat)] w fun e w' => e = .returned (.slice (some ⟨b, o, none⟩) (len - 1) cap) ∧ w' = (w.drew.setCells b (o + i * 3) tl).setCells b (o + (len - 1) * 3) zero3 := by
  have h1 : (i : Int) ≤ len := by omega
  have h2 : (0 : Int) ≤ i := by omega
  have h3 : (i : Int) ≤ cap := by omega
  have h4 : (i : Int) + 1 ≤ len := by omega
  have h5 : (0 : Int) ≤ (i : Int) + 1 := by omega
  have h6 : ((i : Int) + 1).toNat = i + 1 := by omega
  have h7 : ¬ cap = 0 := by omega
  have h8 : ¬ cap = i := by omega
  have h9 : (i : Int) + 1 ≤ cap := by omega
  obtain ⟨inf, hi, hs, _, hz⟩ := Sx.tyOf_spec (P := Try.prog) (t := 42) (s := 3) (b := 40) (z := .agg zero3.toArray) (by kernel_rfl)
  have hsrc : Src Try.prog 3 51 (.slice (if cap = i + 1 then some ⟨b, o, none⟩ else some ⟨b, o + (i + 1) * 3, none⟩) (len - (i + 1)) (cap - (i + 1))) (len - (i + 1)) tl w.drew := src_of hl (by omega) ht h1c
  have hrun : ∀ ty, (Builtin.append_ #[51, 51] ty #[.slice (some ⟨b, o, none⟩) i cap, .slice (if cap = i + 1 then some ⟨b, o, none⟩ else some ⟨b, o + (i + 1) * 3, none⟩) (len - (i + 1)) (cap - (i + 1))]).run Try.prog w.drew = .ok (.slice (some ⟨b, o, none⟩) (len - 1) cap) (w.drew.setCells b (o + i * 3) tl) := fun ty => by
    rw [← hs] at hsrc
    have := run_append_room_src (P := Try.prog) w.drew 51 51 ty 42 inf Try.underlying51 hi b o i cap _ (len - (i + 1)) tl hsrc (by omega) (fun j hj => by rw [hs, Nat.add_assoc]; exact (hw (i * 3 + j) (by omega)).1) (fun j hj => by rw [hs, Nat.add_assoc]; exact (hw (i * 3 + j) (by omega)).2)
    rw [hs, show i + (len - (i + 1)) = len - 1 by omega] at this
    exact this
  have hclear : ∀ ty, (Builtin.clear_ #[51] ty #[.slice (some ⟨b, o + (len - 1) * 3, none⟩) 1 (cap - (len - 1))]).run Try.prog (w.drew.setCells b (o + i * 3) tl) = .ok (.tuple #[]) ((w.drew.setCells b (o + i * 3) tl).setCells b (o + (len - 1) * 3) zero3) := fun ty => clear_run fun j hj => by
    rw [World.frozen?_setCells, Sx.cell_there, Sx.shape_setCells, ← Sx.cell_there, Nat.add_assoc]
    exact hw ((len - 1) * 3 + j) (by omega)
  have k1 : (0 : Int) ≤ ((len - 1 : Nat) : Int) := by omega
  have k2 : ((len - 1 : Nat) : Int) ≤ len := by omega
  have k3 : ((len : Nat) : Int) ≤ cap := by omega
  have k4 : ¬ cap = len - 1 := by omega
  have k5 : len - (len - 1) = 1 := by omega
  clear ht hw hsrc hl
  go_enter Try.func40, Try.ntmps40
  go_wp2_with fail
  go_still_tail 6, (by kernel_rfl)
  change wpList _ _ _ _ _ w.drew
  refine wpList_plain rfl fun K hK => ?_
  unfold Oper.wp
  simp only [execOp, resolve, invoke, builtin, Sem.run_bind, Sem.run_pure, Result.andThen_ok, List.map_toArray, List.map_cons, List.map_nil]
  change Oper.upon _ _ _ _ _ (Result.andThen ((Builtin.append_ #[51, 51] 51 #[.slice (some ⟨b, o, none⟩) i cap, .slice (if cap = i + 1 then some ⟨b, o, none⟩ else some ⟨b, o + (i + 1) * 3, none⟩) (len - (i + 1)) (cap - (i + 1))]).run Try.prog w.drew) _)
  rw [hrun, Result.andThen_ok, Oper.upon_value]
  refine hK _ _ ?_
  clear hrun hK
  go_wp2_with fail
  all_goals
    go_ret
    exact ⟨rfl, rfl⟩
end Go.Proofs.Yteklnfajpignoaa

namespace Go.Proofs.Yteklnfajpignoaa
open Sx
set_option maxRecDepth 100000

def delG (G : List Ob) (d i len : Nat) (xs : List Value) : List Ob := G.set d .dead ++ [.row 3 (len - 1) (xs.take (i * 3) ++ xs.drop ((i + 1) * 3))]
theorem delG_len (G : List Ob) (d i len : Nat) (xs : List Value) : (delG G d i len xs).length = G.length + 1 := by unfold delG; simp
def delR (G : List Ob) (l : List Value) (e : Env) : Prop := ∃ d i len xs, l = [tok d, .int .i64 (i : Nat), .int .i64 ((i + 1 : Nat) : Int)] ∧ G[d]? = some (.row 3 len xs) ∧ i < len ∧ len ≤ 1000000 ∧ e.v 0 = tok G.length ∧ e.g gv = encG (delG G d i len xs)
def delC : Con := mkCon 40 [] (.hnd 0) 2
theorem del_holds : delC.holds Try.prog (conR delR) := by
  refine turn_calls (by decide) ?_
  rintro w h F G f l e hinv H ⟨d, i, len, xs, rfl, hd, hil, hlen, he, hG⟩
  obtain ⟨b, o, cap, h1, h2, h4, h5, h6, h7, h8, h9⟩ := H.ob d _ hd
  have hle : len * 3 ≤ cap * 3 := Nat.mul_le_mul_right _ h2
  have hi3 : (i + 1) * 3 ≤ len * 3 := Nat.mul_le_mul_right _ hil
  have hdl := (List.getElem?_eq_some_iff.1 hd).1
  have htl : ((xs.drop ((i + 1) * 3)).map (concE h)).length = (len - (i + 1)) * 3 := by
    rw [List.length_map, List.length_drop, h5, Nat.sub_mul]
  have hraw := del_raw (w := w) (b := b) (o := o) (len := len) (cap := cap) (i := i) hil h2 hlen htl (fun j u hj => by
    rw [List.getElem?_map, List.getElem?_drop] at hj
    cases hq : xs[(i + 1) * 3 + j]? with
    | none => simp [hq] at hj
    | some c =>
      simp only [hq, Option.map_some, Option.some.injEq] at hj
      subst hj
      rw [Nat.add_assoc]
      exact (h7 _ c hq).cell) (fun u hu => by
    obtain ⟨c, hc, rfl⟩ := List.mem_map.1 hu
    obtain ⟨j, hj⟩ := List.getElem?_of_mem (List.mem_of_mem_drop hc)
    exact concE_one (h7 j c hj).one) (fun j hj => by
    have := h6 j (by omega)
    exact ⟨by obtain ⟨⟨u, hu, _⟩, _⟩ := this; rw [hu]; rfl, this.2⟩)
  have hargs : ([tok d, .int .i64 (i : Nat), .int .i64 ((i + 1 : Nat) : Int)].map (concE h)).toArray = #[.slice (some ⟨b, o, none⟩) len cap, .int .i64 i, .int .i64 (i + 1 : Nat)] := by
    show #[concE h (tok d), _, _] = _
    rw [concE_name, h1]
    rfl
  rw [hargs]
  refine hraw.mono ?_
  rintro en w' ⟨rfl, rfl⟩
  have hfr : Fr (f d) w ((w.drew.setCells b (o + i * 3) ((xs.drop ((i + 1) * 3)).map (concE h))).setCells b (o + (len - 1) * 3) zero3) := by
    refine ((Fr.drew (S := f d) w).trans (Fr.setCells w.drew b _ _) (fun _ _ _ h => h) fun y x _ hx => ?_).trans (Fr.setCells _ b _ _) (fun _ _ _ h => h) fun y x _ hx => ?_
    · obtain ⟨rfl, hx1, hx2⟩ := hx
      rw [htl, Nat.sub_mul] at hx2
      exact (h8 _ _).2 ⟨rfl, by omega⟩
    · obtain ⟨rfl, hx1, hx2⟩ := hx
      have : zero3.length = 3 := rfl
      rw [this] at hx2
      exact (h8 _ _).2 ⟨rfl, by omega⟩
  -- the cells behind
  have hcell : ∀ (j : Nat) c, (xs.take (i * 3) ++ xs.drop ((i + 1) * 3))[j]? = some c → ((w.drew.setCells b (o + i * 3) ((xs.drop ((i + 1) * 3)).map (concE h))).setCells b (o + (len - 1) * 3) zero3).cell? ⟨b, o + j, none⟩ = some (concE h c) ∧ c.oneCell' = true ∧ Inv h G.length c := fun j c hj => by
    have hjl := (List.getElem?_eq_some_iff.1 hj).1
    have hl2 : (xs.take (i * 3) ++ xs.drop ((i + 1) * 3)).length = (len - 1) * 3 := by
      rw [List.length_append, List.length_take, List.length_drop, h5, Nat.sub_mul]; omega
    rw [hl2] at hjl
    rw [World.cell?_setCells_out _ _ _ _ _ (fun _ _ => .inl (by show o + j < o + (len - 1) * 3; omega))]
    rw [List.getElem?_append] at hj
    have hlt : (xs.take (i * 3)).length = i * 3 := by rw [List.length_take, h5]; omega
    rw [hlt] at hj
    split at hj
    · rename_i hji
      rw [List.getElem?_take, if_pos hji] at hj
      rw [World.cell?_setCells_out _ _ _ _ _ (fun _ _ => .inl (by show o + j < o + i * 3; omega))]
      exact ⟨(h7 j c hj).cell, (h7 j c hj).one, (h7 j c hj).inv⟩
    · rename_i hji
      have hjd := hj
      rw [List.getElem?_drop] at hj
      refine ⟨?_, (h7 _ c hj).one, (h7 _ c hj).inv⟩
      have hjy := (List.getElem?_eq_some_iff.1 hjd).1
      have := World.cell?_setCells_in b ((xs.drop ((i + 1) * 3)).map (concE h)) (o + i * 3) w.drew (fun k hk => by
        rw [htl, Nat.sub_mul] at hk
        rw [Nat.add_assoc]
        obtain ⟨⟨u, hu, _⟩, _⟩ := h6 (i * 3 + k) (by omega)
        show (w.cell? _).isSome = true
        rw [hu]; rfl) (j - i * 3) (by simpa using hjy)
      rw [show o + i * 3 + (j - i * 3) = o + j by omega] at this
      rw [this, List.getElem_map]
      rw [List.getElem?_eq_getElem hjy] at hjd
      cases hjd
      rfl
  obtain ⟨F1, f1, k1, k2, k3⟩ := H.kill (v := tok d) (.inr ⟨d, rfl, hd⟩) hfr (fun b1 x1 _ hx => ⟨d, rfl, hx⟩)
  have hkl : (killV G (tok d)).length = G.length := killV_length _ _
  have hthere : ∀ j, j < cap * 3 → ∃ u, ((w.drew.setCells b (o + i * 3) ((xs.drop ((i + 1) * 3)).map (concE h))).setCells b (o + (len - 1) * 3) zero3).cell? ⟨b, o + j, none⟩ = some u ∧ u.oneCell' = true := fun j hj => by
    by_cases e1 : o + (len - 1) * 3 ≤ o + j ∧ o + j < o + (len - 1) * 3 + zero3.length
    · have hz : zero3.length = 3 := rfl
      have := World.cell?_setCells_in b zero3 (o + (len - 1) * 3) (w.drew.setCells b (o + i * 3) ((xs.drop ((i + 1) * 3)).map (concE h))) (fun k hk => by
        rw [cell_there, shape_setCells, ← cell_there, Nat.add_assoc]
        obtain ⟨⟨u, hu, _⟩, _⟩ := h6 ((len - 1) * 3 + k) (by omega)
        show (w.cell? _).isSome = true
        rw [hu]; rfl) (j - (len - 1) * 3) (by omega)
      rw [show o + (len - 1) * 3 + (j - (len - 1) * 3) = o + j by omega] at this
      refine ⟨_, this, ?_⟩
      have hm : zero3[j - (len - 1) * 3]'(by omega) ∈ zero3 := List.getElem_mem _
      generalize zero3[j - (len - 1) * 3]'(by omega) = z at hm
      simp [zero3] at hm
      rcases hm with rfl | rfl <;> rfl
    · rw [World.cell?_setCells_out _ _ _ _ _ (fun _ _ => by show o + j < o + (len - 1) * 3 ∨ o + (len - 1) * 3 + zero3.length ≤ o + j; omega)]
      by_cases e2 : o + i * 3 ≤ o + j ∧ o + j < o + i * 3 + ((xs.drop ((i + 1) * 3)).map (concE h)).length
      · have := World.cell?_setCells_in b ((xs.drop ((i + 1) * 3)).map (concE h)) (o + i * 3) w.drew (fun k hk => by
          rw [htl, Nat.sub_mul] at hk
          rw [Nat.add_assoc]
          obtain ⟨⟨u, hu, _⟩, _⟩ := h6 (i * 3 + k) (by omega)
          show (w.cell? _).isSome = true
          rw [hu]; rfl) (j - i * 3) (by omega)
        rw [show o + i * 3 + (j - i * 3) = o + j by omega] at this
        refine ⟨_, this, ?_⟩
        rw [List.getElem_map]
        obtain ⟨k, hk⟩ := List.getElem?_of_mem (List.mem_of_mem_drop (List.getElem_mem (l := xs.drop ((i + 1) * 3)) (n := j - i * 3) (by have := e2.2; simp at this ⊢; omega)))
        exact concE_one (h7 k _ hk).one
      · rw [World.cell?_setCells_out _ _ _ _ _ (fun _ _ => by show o + j < o + i * 3 ∨ o + i * 3 + _ ≤ o + j; omega)]
        exact (h6 j hj).1
  have hpush := k1.push (slV b o (len - 1) cap) (o' := .row 3 (len - 1) (xs.take (i * 3) ++ xs.drop ((i + 1) * 3))) (f' := f d) (fun y x hx k hk hf => by
    obtain ⟨hf1, hf2⟩ := k3 k (by omega) y x hf
    have hne : d ≠ k := fun e => hf2 (by rw [e])
    exact H.apart d k _ _ hd (List.getElem?_eq_getElem (by omega)) hne rfl y x hx hf1) (by
    rw [hkl]
    refine ⟨b, o, cap, rfl, by omega, h4, ?_, fun j hj => ⟨hthere j hj, ?_⟩, fun j c hj => CellN.push (hcell j c hj).2.2 (hcell j c hj).2.1 (hcell j c hj).1, h8, h9.keep hfr⟩
    · rw [List.length_append, List.length_take, List.length_drop, h5, Nat.sub_mul]; omega
    · rw [World.frozen?_setCells, World.frozen?_setCells]; exact (h6 j hj).2)
  rw [hkl] at hpush
  refine ⟨hPush h G.length (slV b o (len - 1) cap), _, _, _, tok G.length, ?_, hnd_nam he rfl, Inv.name (by rw [delG_len]; omega), hG, hfr.mono (fun y x _ hx => (H.foot _ _).2 ⟨d, hdl, hx⟩), hpush, fun y x hx => ?_, by rw [delG_len]; omega, fun n hn => hPush_old hn⟩
  · rw [concE_name, hPush_new]; rfl
  · rcases hx with hx | hx
    · exact k2 y x hx
    · exact .inl ((H.foot _ _).2 ⟨d, hdl, hx⟩)
end Go.Proofs.Yteklnfajpignoaa
