/-
  What is proved: plain laws on how a store of objects turns: one object is written; a new one comes; no program in sight. No condition.
-/
import Derived.Test.YteklnfajpignoaaSyU
namespace Go.Proofs.Yteklnfajpignoaa
namespace Sx
open Go.RowKit

/-- One object turns. -/
theorem Objs.set {w w' : World} {h : Nat → OneV} {F : Foot} {G : List Ob} {f : Nat → Foot} (H : Objs w h F G f) {S : Foot} (hS : Fr S w w') {i : Nat} {o o' : Ob} (hi : G[i]? = some o) (hsh : o.shared = false) (hsub : ∀ b x, b < w.heap.size → S b x → f i b x)
    {f' : Foot} (hf' : ∀ b x, f' b x → f i b x ∨ w.heap.size ≤ b) (ho : HoldsOb w' h G.length (h i).val f' o') :
    Objs w' h (fun b x => ∃ k, k < G.length ∧ (if k = i then f' else f k) b x) (G.set i o') (fun k => if k = i then f' else f k) ∧ ∀ b x, (∃ k, k < G.length ∧ (if k = i then f' else f k) b x) → F b x ∨ w.heap.size ≤ b := by
  have hil := (List.getElem?_eq_some_iff.1 hi).1
  have hlt : ∀ k, k < G.length → ∀ b x, f k b x → b < w.heap.size := fun k hk b x hf => (H.ob k _ (List.getElem?_eq_getElem hk)).below hf
  have hap : ∀ k, k < G.length → k ≠ i → ∀ b x, f k b x → ¬ f i b x := fun k hk hne b x hf => H.apart k i _ o (List.getElem?_eq_getElem hk) hi hne (by rw [hsh, Bool.and_false]) b x hf
  refine ⟨⟨fun k o1 hk => ?_, fun j k oj ok hj hk hne hs b x hjf hkf => ?_, fun b x => by rw [List.length_set]⟩, fun b x hF => ?_⟩
  · rw [List.length_set]
    by_cases e : k = i
    · subst e
      rw [List.getElem?_set_self hil] at hk
      cases hk
      simpa using ho
    · rw [List.getElem?_set_ne (Ne.symm e)] at hk
      have hk' := (List.getElem?_eq_some_iff.1 hk).1
      simp only [if_neg e]
      exact (H.ob k o1 hk).keep hS (fun b x hf hs => hap k hk' e b x hf (hsub b x (hlt k hk' b x hf) hs)) (fun b x hf => hlt k hk' b x hf)
  · have hjl : j < G.length := by have := (List.getElem?_eq_some_iff.1 hj).1; rwa [List.length_set] at this
    have hkl : k < G.length := by have := (List.getElem?_eq_some_iff.1 hk).1; rwa [List.length_set] at this
    by_cases e1 : j = i
    · have e2 : ¬ k = i := fun e => hne (e1.trans e.symm)
      simp only [if_pos e1] at hjf
      simp only [if_neg e2] at hkf
      rcases hf' b x hjf with h1 | h1
      · exact hap k hkl e2 b x hkf h1
      · have := hlt k hkl b x hkf
        omega
    · simp only [if_neg e1] at hjf
      rw [List.getElem?_set_ne (Ne.symm e1)] at hj
      by_cases e2 : k = i
      · simp only [if_pos e2] at hkf
        rcases hf' b x hkf with h1 | h1
        · exact hap j hjl e1 b x hjf h1
        · have := hlt j hjl b x hjf
          omega
      · simp only [if_neg e2] at hkf
        rw [List.getElem?_set_ne (Ne.symm e2)] at hk
        exact H.apart j k _ _ hj hk hne hs b x hjf hkf
  · obtain ⟨k, hk, hf⟩ := hF
    by_cases e : k = i
    · simp only [if_pos e] at hf
      rcases hf' b x hf with h1 | h1
      · exact .inl ((H.foot b x).2 ⟨i, hil, h1⟩)
      · exact .inr h1
    · simp only [if_neg e] at hf
      exact .inl ((H.foot b x).2 ⟨k, hk, hf⟩)
/-- A new object, in cells that none has. -/
theorem Objs.push {w : World} {h : Nat → OneV} {F : Foot} {G : List Ob} {f : Nat → Foot} (H : Objs w h F G f) (v : OneV) {o' : Ob} {f' : Foot} (hf' : ∀ b x, f' b x → ∀ k, k < G.length → ¬ f k b x)
    (ho : HoldsOb w (fun k => if k = G.length then v else h k) (G.length + 1) v.val f' o') :
    Objs w (fun k => if k = G.length then v else h k) (fun b x => F b x ∨ f' b x) (G ++ [o']) (fun k => if k = G.length then f' else f k) := by
  have hlen : (G ++ [o']).length = G.length + 1 := by simp
  have hold : ∀ (k : Nat) o, k ≠ G.length → (G ++ [o'])[k]? = some o → G[k]? = some o ∧ k < G.length := fun k o e hk => by
    have hk' : k < G.length := by
      have := (List.getElem?_eq_some_iff.1 hk).1
      omega
    rw [List.getElem?_append_left hk'] at hk
    exact ⟨hk, hk'⟩
  refine ⟨fun k o hk => ?_, fun j k oj ok hj hk hne hs b x hjf hkf => ?_, fun b x => ?_⟩
  · rw [hlen]
    by_cases e : k = G.length
    · subst e
      rw [List.getElem?_append_right (Nat.le_refl _)] at hk
      simp at hk
      subst hk
      simpa using ho
    · obtain ⟨hk, hk'⟩ := hold k o e hk
      simp only [if_neg e]
      refine HoldsOb.mono (HoldsOb.same (H.ob k o hk) fun j hj => ?_) (Nat.le_succ _)
      rw [if_neg (by omega)]
  · by_cases e1 : j = G.length
    · have e2 : ¬ k = G.length := fun e => hne (e1.trans e.symm)
      simp only [if_pos e1] at hjf
      simp only [if_neg e2] at hkf
      exact hf' b x hjf k (hold k ok e2 hk).2 hkf
    · simp only [if_neg e1] at hjf
      by_cases e2 : k = G.length
      · simp only [if_pos e2] at hkf
        exact hf' b x hkf j (hold j oj e1 hj).2 hjf
      · simp only [if_neg e2] at hkf
        exact H.apart j k _ _ (hold j oj e1 hj).1 (hold k ok e2 hk).1 hne hs b x hjf hkf
  · constructor
    · rintro (hF | hF)
      · obtain ⟨k, hk, hf⟩ := (H.foot b x).1 hF
        exact ⟨k, by omega, by rw [if_neg (by omega)]; exact hf⟩
      · exact ⟨G.length, by omega, by rw [if_pos rfl]; exact hF⟩
    · rintro ⟨k, hk, hf⟩
      by_cases e : k = G.length
      · rw [if_pos e] at hf; exact .inr hf
      · rw [if_neg e] at hf; exact .inl ((H.foot b x).2 ⟨k, by omega, hf⟩)
/-- The world goes on, and leaves the objects. -/
theorem Objs.keep {w w' : World} {h : Nat → OneV} {F S : Foot} {G : List Ob} {f : Nat → Foot} (H : Objs w h F G f) (hS : Fr S w w') (hd : ∀ b x, F b x → ¬ S b x) : Objs w' h F G f :=
  ⟨fun i o ho => (H.ob i o ho).keep hS (fun b x hf => hd b x ((H.foot b x).2 ⟨i, (List.getElem?_eq_some_iff.1 ho).1, hf⟩)) (fun _ _ hf => (H.ob i o ho).below hf), H.apart, H.foot⟩
theorem Objs.below {w : World} {h : Nat → OneV} {F : Foot} {G : List Ob} {f : Nat → Foot} (H : Objs w h F G f) {k : Nat} (hk : k < G.length) {b x : Nat} (hf : f k b x) : b < w.heap.size := (H.ob k _ (List.getElem?_eq_getElem hk)).below hf
theorem Objs.belowF {w : World} {h : Nat → OneV} {F : Foot} {G : List Ob} {f : Nat → Foot} (H : Objs w h F G f) {b x : Nat} (hf : F b x) : b < w.heap.size := by
  obtain ⟨k, hk, hf⟩ := (H.foot b x).1 hf
  exact H.below hk hf
/-- A new object in a new block. -/
theorem Objs.lay {w : World} {h : Nat → OneV} {F : Foot} {G : List Ob} {f : Nat → Foot} (H : Objs w h F G f) (ob : Obj) (v : OneV) {o' : Ob} {f' : Foot} (hf' : ∀ b x, f' b x → b = w.heap.size)
    (ho : HoldsOb (w.alloc ob) (fun k => if k = G.length then v else h k) (G.length + 1) v.val f' o') :
    Objs (w.alloc ob) (fun k => if k = G.length then v else h k) (fun b x => F b x ∨ f' b x) (G ++ [o']) (fun k => if k = G.length then f' else f k) := by
  refine (H.keep (Fr.alloc (fun _ _ => False) w ob) fun _ _ _ h => h).push v (fun b x hf k hk hf2 => ?_) ho
  have := hf' b x hf
  have := H.below hk hf2
  omega
theorem Fr.drew {S : Foot} (w : World) : Fr S w w.drew := ⟨rfl, rfl, rfl, Nat.le_refl _, fun _ _ _ => rfl, fun _ _ _ _ => rfl, fun _ _ _ => rfl, fun _ _ => rfl, fun _ _ h => h⟩
/-- What is pushed stays so where it is named. -/
theorem CellN.push {w' : World} {h : Nat → OneV} {n b x : Nat} {c : Value} {v : OneV} (hi : Inv h n c) (h1 : c.oneCell' = true) (hc : w'.cell? ⟨b, x, none⟩ = some (concE h c)) : CellN w' (fun k => if k = n then v else h k) (n + 1) b x c := by
  have hh : ∀ k, k < n → (fun k => if k = n then v else h k) k = h k := fun k hk => by simp only [if_neg (by omega : ¬ k = n)]
  exact ⟨by rw [hi _ hh]; exact hc, h1, (hi.same hh).mono (Nat.le_succ _)⟩
/-- Values that are handed over ask for no object that is not there. -/
theorem inv_args {h : Nat → OneV} {n : Nat} {raw l : List Value} (ha : ∀ h' : Nat → OneV, (∀ k, k < n → h' k = h k) → raw = l.map (concE h')) : ∀ v ∈ l, Inv h n v := fun v hv h' hh => by
  have h1 := (ha h' hh).symm.trans (ha h fun _ _ => rfl)
  exact List.map_inj_left.1 h1 v hv
theorem Inv.part {h : Nat → OneV} {n : Nat} {cs : List Value} (hv : Inv h n (.agg cs.toArray)) : ∀ c ∈ cs, c.oneCell' = true → Inv h n c := fun c hc h1 h' hh => by
  have e := hv h' hh
  rw [concE_agg, concE_agg, Value.agg.injEq, List.map_toArray, List.map_toArray] at e
  have e := congrArg Array.toList e
  have := List.map_inj_left.1 e c hc
  rw [concE_of_one h1, concE_of_one h1]
  exact this
/-- A value's cells, in names. -/
theorem cells_conc {h : Nat → OneV} {v : Value} (hv : ∀ c ∈ v.cells.toList, c.oneCell' = true) (hno : ∀ cs, v ≠ .tuple cs) : (concE h v).cells.toList = v.cells.toList.map (concE h) := by
  cases v with
  | agg cs =>
    have hc : (Value.agg cs).cells = cs := rfl
    rw [hc] at hv ⊢
    show (Value.agg (cs.map (concC h))).cells.toList = _
    have h2 : (Value.agg (cs.map (concC h))).cells = cs.map (concC h) := rfl
    rw [h2, Array.toList_map]
    exact List.map_congr_left fun c hm => (concE_of_one (hv c hm)).symm
  | tuple cs => exact absurd rfl (hno cs)
  | _ =>
    rw [cells_one (concE_one rfl), cells_one rfl]
    rfl
end Sx
end Go.Proofs.Yteklnfajpignoaa
