/- What is proved: the contract of slices.Delete of one element. No condition. -/
import Derived.Test.YteklnfajpignoaaD1
import Derived.Test.YteklnfajpignoaaSzF
namespace Go.Proofs.Yteklnfajpignoaa
open Sx
set_option maxRecDepth 100000

def delG (G : List Ob) (d i len : Nat) (xs : List Value) : List Ob := G.set d .dead ++ [.row 3 (len - 1) (xs.take (i * 3) ++ xs.drop ((i + 1) * 3))]
theorem delG_len (G : List Ob) (d i len : Nat) (xs : List Value) : (delG G d i len xs).length = G.length + 1 := by unfold delG; simp
def delR (G : List Ob) (l : List Value) (e : Env) : Prop := ∃ d i len xs, l = [tok d, .int .i64 (i : Nat), .int .i64 ((i + 1 : Nat) : Int)] ∧ G[d]? = some (.row 3 len xs) ∧ i < len ∧ len ≤ 1000000 ∧ e.v 0 = tok G.length ∧ e.g gv = encG (delG G d i len xs)
def delC : Con := mkCon 40 [] (.hnd 0) 2
theorem del_holds : delC.holds Try.prog (conR delR) := by
  refine turn_calls (by decide) ?_
  rintro w h F G f l e hinv H ⟨d, i, len, xs, rfl, hd, hil, hlen, he, hG⟩
  obtain ⟨b, o, cap, h1, h2, h4, h5, h6, h7, h8, h9⟩ := H.ob d _ hd
  have hle : len * 3 ≤ cap * 3 := Nat.mul_le_mul_right _ h2
  have hi3 : (i + 1) * 3 ≤ len * 3 := Nat.mul_le_mul_right _ hil
  have hdl := (List.getElem?_eq_some_iff.1 hd).1
  have htl : ((xs.drop ((i + 1) * 3)).map (concE h)).length = (len - (i + 1)) * 3 := by
    rw [List.length_map, List.length_drop, h5, Nat.sub_mul]
  have hraw := del_raw (w := w) (b := b) (o := o) (len := len) (cap := cap) (i := i) hil h2 hlen htl (fun j u hj => by
    rw [List.getElem?_map, List.getElem?_drop] at hj
    cases hq : xs[(i + 1) * 3 + j]? with
    | none => simp [hq] at hj
    | some c =>
      simp only [hq, Option.map_some, Option.some.injEq] at hj
      subst hj
      rw [Nat.add_assoc]
      exact (h7 _ c hq).cell) (fun u hu => by
    obtain ⟨c, hc, rfl⟩ := List.mem_map.1 hu
    obtain ⟨j, hj⟩ := List.getElem?_of_mem (List.mem_of_mem_drop hc)
    exact concE_one (h7 j c hj).one) (fun j hj => by
    have := h6 j (by omega)
    exact ⟨by obtain ⟨⟨u, hu, _⟩, _⟩ := this; rw [hu]; rfl, this.2⟩)
  have hargs : ([tok d, .int .i64 (i : Nat), .int .i64 ((i + 1 : Nat) : Int)].map (concE h)).toArray = #[.slice (some ⟨b, o, none⟩) len cap, .int .i64 i, .int .i64 (i + 1 : Nat)] := by
    show #[concE h (tok d), _, _] = _
    rw [concE_name, h1]
    rfl
  rw [hargs]
  refine hraw.mono ?_
  rintro en w' ⟨rfl, rfl⟩
  have hfr : Fr (f d) w ((w.drew.setCells b (o + i * 3) ((xs.drop ((i + 1) * 3)).map (concE h))).setCells b (o + (len - 1) * 3) zero3) := by
    refine ((Fr.drew (S := f d) w).trans (Fr.setCells w.drew b _ _) (fun _ _ _ h => h) fun y x _ hx => ?_).trans (Fr.setCells _ b _ _) (fun _ _ _ h => h) fun y x _ hx => ?_
    · obtain ⟨rfl, hx1, hx2⟩ := hx
      rw [htl, Nat.sub_mul] at hx2
      exact (h8 _ _).2 ⟨rfl, by omega, by omega⟩
    · obtain ⟨rfl, hx1, hx2⟩ := hx
      have : zero3.length = 3 := rfl
      rw [this] at hx2
      exact (h8 _ _).2 ⟨rfl, by omega, by omega⟩
  -- the cells behind
  have hcell : ∀ (j : Nat) c, (xs.take (i * 3) ++ xs.drop ((i + 1) * 3))[j]? = some c → ((w.drew.setCells b (o + i * 3) ((xs.drop ((i + 1) * 3)).map (concE h))).setCells b (o + (len - 1) * 3) zero3).cell? ⟨b, o + j, none⟩ = some (concE h c) ∧ c.oneCell' = true ∧ Inv h G.length c := fun j c hj => by
    have hjl := (List.getElem?_eq_some_iff.1 hj).1
    have hl2 : (xs.take (i * 3) ++ xs.drop ((i + 1) * 3)).length = (len - 1) * 3 := by
      rw [List.length_append, List.length_take, List.length_drop, h5, Nat.sub_mul]; omega
    rw [hl2] at hjl
    rw [World.cell?_setCells_out _ _ _ _ _ (fun _ _ => .inl (by show o + j < o + (len - 1) * 3; omega))]
    rw [List.getElem?_append] at hj
    have hlt : (xs.take (i * 3)).length = i * 3 := by rw [List.length_take, h5]; omega
    rw [hlt] at hj
    split at hj
    · rename_i hji
      rw [List.getElem?_take, if_pos hji] at hj
      rw [World.cell?_setCells_out _ _ _ _ _ (fun _ _ => .inl (by show o + j < o + i * 3; omega))]
      exact ⟨(h7 j c hj).cell, (h7 j c hj).one, (h7 j c hj).inv⟩
    · rename_i hji
      have hjd := hj
      rw [List.getElem?_drop] at hj
      refine ⟨?_, (h7 _ c hj).one, (h7 _ c hj).inv⟩
      have hjy := (List.getElem?_eq_some_iff.1 hjd).1
      have := World.cell?_setCells_in b ((xs.drop ((i + 1) * 3)).map (concE h)) (o + i * 3) w.drew (fun k hk => by
        rw [htl, Nat.sub_mul] at hk
        rw [Nat.add_assoc]
        obtain ⟨⟨u, hu, _⟩, _⟩ := h6 (i * 3 + k) (by omega)
        show (w.cell? _).isSome = true
        rw [hu]; rfl) (j - i * 3) (by simpa using hjy)
      rw [show o + i * 3 + (j - i * 3) = o + j by omega] at this
      rw [this, List.getElem_map]
      rw [List.getElem?_eq_getElem hjy] at hjd
      cases hjd
      rfl
  obtain ⟨F1, f1, k1, k2, k3⟩ := H.kill (v := tok d) (.inr ⟨d, rfl, hd⟩) hfr (fun b1 x1 _ hx => ⟨d, rfl, hx⟩)
  have hkl : (killV G (tok d)).length = G.length := killV_length _ _
  have hthere : ∀ j, j < cap * 3 → ∃ u, ((w.drew.setCells b (o + i * 3) ((xs.drop ((i + 1) * 3)).map (concE h))).setCells b (o + (len - 1) * 3) zero3).cell? ⟨b, o + j, none⟩ = some u ∧ u.oneCell' = true := fun j hj => by
    by_cases e1 : o + (len - 1) * 3 ≤ o + j ∧ o + j < o + (len - 1) * 3 + zero3.length
    · have hz : zero3.length = 3 := rfl
      have := World.cell?_setCells_in b zero3 (o + (len - 1) * 3) (w.drew.setCells b (o + i * 3) ((xs.drop ((i + 1) * 3)).map (concE h))) (fun k hk => by
        rw [cell_there, shape_setCells, ← cell_there, Nat.add_assoc]
        obtain ⟨⟨u, hu, _⟩, _⟩ := h6 ((len - 1) * 3 + k) (by omega)
        show (w.cell? _).isSome = true
        rw [hu]; rfl) (j - (len - 1) * 3) (by omega)
      rw [show o + (len - 1) * 3 + (j - (len - 1) * 3) = o + j by omega] at this
      refine ⟨_, this, ?_⟩
      have hm : zero3[j - (len - 1) * 3]'(by omega) ∈ zero3 := List.getElem_mem _
      generalize zero3[j - (len - 1) * 3]'(by omega) = z at hm
      simp [zero3] at hm
      rcases hm with rfl | rfl <;> rfl
    · rw [World.cell?_setCells_out _ _ _ _ _ (fun _ _ => by show o + j < o + (len - 1) * 3 ∨ o + (len - 1) * 3 + zero3.length ≤ o + j; omega)]
      by_cases e2 : o + i * 3 ≤ o + j ∧ o + j < o + i * 3 + ((xs.drop ((i + 1) * 3)).map (concE h)).length
      · have := World.cell?_setCells_in b ((xs.drop ((i + 1) * 3)).map (concE h)) (o + i * 3) w.drew (fun k hk => by
          rw [htl, Nat.sub_mul] at hk
          rw [Nat.add_assoc]
          obtain ⟨⟨u, hu, _⟩, _⟩ := h6 (i * 3 + k) (by omega)
          show (w.cell? _).isSome = true
          rw [hu]; rfl) (j - i * 3) (by omega)
        rw [show o + i * 3 + (j - i * 3) = o + j by omega] at this
        refine ⟨_, this, ?_⟩
        rw [List.getElem_map]
        obtain ⟨k, hk⟩ := List.getElem?_of_mem (List.mem_of_mem_drop (List.getElem_mem (l := xs.drop ((i + 1) * 3)) (n := j - i * 3) (by have := e2.2; simp at this ⊢; omega)))
        exact concE_one (h7 k _ hk).one
      · rw [World.cell?_setCells_out _ _ _ _ _ (fun _ _ => by show o + j < o + i * 3 ∨ o + i * 3 + _ ≤ o + j; omega)]
        exact (h6 j hj).1
  have hpush := k1.push (slV b o (len - 1) cap) (o' := .row 3 (len - 1) (xs.take (i * 3) ++ xs.drop ((i + 1) * 3))) (f' := f d) (fun y x hx k hk hf => by
    obtain ⟨hf1, hf2⟩ := k3 k (by omega) y x hf
    have hne : d ≠ k := fun e => hf2 (by rw [e])
    exact H.apart d k _ _ hd (List.getElem?_eq_getElem (by omega)) hne rfl y x hx hf1) (by
    rw [hkl]
    refine ⟨b, o, cap, rfl, by omega, h4, ?_, fun j hj => ⟨hthere j hj, ?_⟩, fun j c hj => CellN.push (hcell j c hj).2.2 (hcell j c hj).2.1 (hcell j c hj).1, h8, h9.keep hfr⟩
    · rw [List.length_append, List.length_take, List.length_drop, h5, Nat.sub_mul]; omega
    · rw [World.frozen?_setCells, World.frozen?_setCells]; exact (h6 j hj).2)
  rw [hkl] at hpush
  refine ⟨hPush h G.length (slV b o (len - 1) cap), _, _, _, tok G.length, ?_, hnd_nam he rfl, Inv.name (by rw [delG_len]; omega), hG, hfr.mono (fun y x _ hx => (H.foot _ _).2 ⟨d, hdl, hx⟩), hpush, fun y x hx => ?_, by rw [delG_len]; omega, fun n hn => hPush_old hn⟩
  · rw [concE_name, hPush_new]; rfl
  · rcases hx with hx | hx
    · exact k2 y x hx
    · exact .inl ((H.foot _ _).2 ⟨d, hdl, hx⟩)
end Go.Proofs.Yteklnfajpignoaa
