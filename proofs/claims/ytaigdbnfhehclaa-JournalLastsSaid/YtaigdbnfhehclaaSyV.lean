/- What is proved: plain laws on how a store of objects turns: one object is written; a new one comes; no program in sight; contracts of the operations that turn the store of objects: a store, a new struct, a new slice, append; no program in sight; contracts of the operations that lay new objects: a new struct, a new slice, append; no program in sight; contracts of the operations that lay new slices: a literal, make, append; no program in sight. No condition but those each law names. -/
import Derived.Test.YtaigdbnfhehclaaSyS
namespace Go.Proofs.Ytaigdbnfhehclaa
namespace Sx
open Go.RowKit

/-- One object turns. -/
theorem Objs.set {w w' : World} {h : Nat → OneV} {F : Foot} {G : List Ob} {f : Nat → Foot} (H : Objs w h F G f) {S : Foot} (hS : Fr S w w') {i : Nat} {o o' : Ob} (hi : G[i]? = some o) (hsh : o.shared = false) (hsub : ∀ b x, b < w.heap.size → S b x → f i b x)
    {f' : Foot} (hf' : ∀ b x, f' b x → f i b x ∨ w.heap.size ≤ b) (ho : HoldsOb w' h G.length (h i).val f' o') :
    Objs w' h (fun b x => ∃ k, k < G.length ∧ (if k = i then f' else f k) b x) (G.set i o') (fun k => if k = i then f' else f k) ∧ ∀ b x, (∃ k, k < G.length ∧ (if k = i then f' else f k) b x) → F b x ∨ w.heap.size ≤ b := by
  have hil := (List.getElem?_eq_some_iff.1 hi).1
  have hlt : ∀ k, k < G.length → ∀ b x, f k b x → b < w.heap.size := fun k hk b x hf => (H.ob k _ (List.getElem?_eq_getElem hk)).below hf
  have hap : ∀ k, k < G.length → k ≠ i → ∀ b x, f k b x → ¬ f i b x := fun k hk hne b x hf => H.apart k i _ o (List.getElem?_eq_getElem hk) hi hne (by rw [hsh, Bool.and_false]) b x hf
  refine ⟨⟨fun k o1 hk => ?_, fun j k oj ok hj hk hne hs b x hjf hkf => ?_, fun b x => by rw [List.length_set]⟩, fun b x hF => ?_⟩
  · rw [List.length_set]
    by_cases e : k = i
    · subst e
      rw [List.getElem?_set_self hil] at hk
      cases hk
      simpa using ho
    · rw [List.getElem?_set_ne (Ne.symm e)] at hk
      have hk' := (List.getElem?_eq_some_iff.1 hk).1
      simp only [if_neg e]
      exact (H.ob k o1 hk).keep hS (fun b x hf hs => hap k hk' e b x hf (hsub b x (hlt k hk' b x hf) hs)) (fun b x hf => hlt k hk' b x hf)
  · have hjl : j < G.length := by have := (List.getElem?_eq_some_iff.1 hj).1; rwa [List.length_set] at this
    have hkl : k < G.length := by have := (List.getElem?_eq_some_iff.1 hk).1; rwa [List.length_set] at this
    by_cases e1 : j = i
    · have e2 : ¬ k = i := fun e => hne (e1.trans e.symm)
      simp only [if_pos e1] at hjf
      simp only [if_neg e2] at hkf
      rcases hf' b x hjf with h1 | h1
      · exact hap k hkl e2 b x hkf h1
      · have := hlt k hkl b x hkf
        omega
    · simp only [if_neg e1] at hjf
      rw [List.getElem?_set_ne (Ne.symm e1)] at hj
      by_cases e2 : k = i
      · simp only [if_pos e2] at hkf
        rcases hf' b x hkf with h1 | h1
        · exact hap j hjl e1 b x hjf h1
        · have := hlt j hjl b x hjf
          omega
      · simp only [if_neg e2] at hkf
        rw [List.getElem?_set_ne (Ne.symm e2)] at hk
        exact H.apart j k _ _ hj hk hne hs b x hjf hkf
  · obtain ⟨k, hk, hf⟩ := hF
    by_cases e : k = i
    · simp only [if_pos e] at hf
      rcases hf' b x hf with h1 | h1
      · exact .inl ((H.foot b x).2 ⟨i, hil, h1⟩)
      · exact .inr h1
    · simp only [if_neg e] at hf
      exact .inl ((H.foot b x).2 ⟨k, hk, hf⟩)
/-- A new object, in cells that none has. -/
theorem Objs.push {w : World} {h : Nat → OneV} {F : Foot} {G : List Ob} {f : Nat → Foot} (H : Objs w h F G f) (v : OneV) {o' : Ob} {f' : Foot} (hf' : ∀ b x, f' b x → ∀ k, k < G.length → ¬ f k b x)
    (ho : HoldsOb w (fun k => if k = G.length then v else h k) (G.length + 1) v.val f' o') :
    Objs w (fun k => if k = G.length then v else h k) (fun b x => F b x ∨ f' b x) (G ++ [o']) (fun k => if k = G.length then f' else f k) := by
  have hlen : (G ++ [o']).length = G.length + 1 := by simp
  have hold : ∀ (k : Nat) o, k ≠ G.length → (G ++ [o'])[k]? = some o → G[k]? = some o ∧ k < G.length := fun k o e hk => by
    have hk' : k < G.length := by
      have := (List.getElem?_eq_some_iff.1 hk).1
      omega
    rw [List.getElem?_append_left hk'] at hk
    exact ⟨hk, hk'⟩
  refine ⟨fun k o hk => ?_, fun j k oj ok hj hk hne hs b x hjf hkf => ?_, fun b x => ?_⟩
  · rw [hlen]
    by_cases e : k = G.length
    · subst e
      rw [List.getElem?_append_right (Nat.le_refl _)] at hk
      simp at hk
      subst hk
      simpa using ho
    · obtain ⟨hk, hk'⟩ := hold k o e hk
      simp only [if_neg e]
      refine HoldsOb.mono (HoldsOb.same (H.ob k o hk) fun j hj => ?_) (Nat.le_succ _)
      rw [if_neg (by omega)]
  · by_cases e1 : j = G.length
    · have e2 : ¬ k = G.length := fun e => hne (e1.trans e.symm)
      simp only [if_pos e1] at hjf
      simp only [if_neg e2] at hkf
      exact hf' b x hjf k (hold k ok e2 hk).2 hkf
    · simp only [if_neg e1] at hjf
      by_cases e2 : k = G.length
      · simp only [if_pos e2] at hkf
        exact hf' b x hkf j (hold j oj e1 hj).2 hjf
      · simp only [if_neg e2] at hkf
        exact H.apart j k _ _ (hold j oj e1 hj).1 (hold k ok e2 hk).1 hne hs b x hjf hkf
  · constructor
    · rintro (hF | hF)
      · obtain ⟨k, hk, hf⟩ := (H.foot b x).1 hF
        exact ⟨k, by omega, by rw [if_neg (by omega)]; exact hf⟩
      · exact ⟨G.length, by omega, by rw [if_pos rfl]; exact hF⟩
    · rintro ⟨k, hk, hf⟩
      by_cases e : k = G.length
      · rw [if_pos e] at hf; exact .inr hf
      · rw [if_neg e] at hf; exact .inl ((H.foot b x).2 ⟨k, by omega, hf⟩)
/-- The world goes on, and leaves the objects. -/
theorem Objs.keep {w w' : World} {h : Nat → OneV} {F S : Foot} {G : List Ob} {f : Nat → Foot} (H : Objs w h F G f) (hS : Fr S w w') (hd : ∀ b x, F b x → ¬ S b x) : Objs w' h F G f :=
  ⟨fun i o ho => (H.ob i o ho).keep hS (fun b x hf => hd b x ((H.foot b x).2 ⟨i, (List.getElem?_eq_some_iff.1 ho).1, hf⟩)) (fun _ _ hf => (H.ob i o ho).below hf), H.apart, H.foot⟩
theorem Objs.below {w : World} {h : Nat → OneV} {F : Foot} {G : List Ob} {f : Nat → Foot} (H : Objs w h F G f) {k : Nat} (hk : k < G.length) {b x : Nat} (hf : f k b x) : b < w.heap.size := (H.ob k _ (List.getElem?_eq_getElem hk)).below hf
theorem Objs.belowF {w : World} {h : Nat → OneV} {F : Foot} {G : List Ob} {f : Nat → Foot} (H : Objs w h F G f) {b x : Nat} (hf : F b x) : b < w.heap.size := by
  obtain ⟨k, hk, hf⟩ := (H.foot b x).1 hf
  exact H.below hk hf
/-- A new object in a new block. -/
theorem Objs.lay {w : World} {h : Nat → OneV} {F : Foot} {G : List Ob} {f : Nat → Foot} (H : Objs w h F G f) (ob : Obj) (v : OneV) {o' : Ob} {f' : Foot} (hf' : ∀ b x, f' b x → b = w.heap.size)
    (ho : HoldsOb (w.alloc ob) (fun k => if k = G.length then v else h k) (G.length + 1) v.val f' o') :
    Objs (w.alloc ob) (fun k => if k = G.length then v else h k) (fun b x => F b x ∨ f' b x) (G ++ [o']) (fun k => if k = G.length then f' else f k) := by
  refine (H.keep (Fr.alloc (fun _ _ => False) w ob) fun _ _ _ h => h).push v (fun b x hf k hk hf2 => ?_) ho
  have := hf' b x hf
  have := H.below hk hf2
  omega
theorem Fr.drew {S : Foot} (w : World) : Fr S w w.drew := ⟨rfl, rfl, rfl, Nat.le_refl _, fun _ _ _ => rfl, fun _ _ _ _ => rfl, fun _ _ _ => rfl, fun _ _ => rfl, fun _ _ h => h, fun _ _ _ => rfl⟩
/-- What is pushed stays so where it is named. -/
theorem CellN.push {w' : World} {h : Nat → OneV} {n b x : Nat} {c : Value} {v : OneV} (hi : Inv h n c) (h1 : c.oneCell' = true) (hc : w'.cell? ⟨b, x, none⟩ = some (concE h c)) : CellN w' (fun k => if k = n then v else h k) (n + 1) b x c := by
  have hh : ∀ k, k < n → (fun k => if k = n then v else h k) k = h k := fun k hk => by simp only [if_neg (by omega : ¬ k = n)]
  exact ⟨by rw [hi _ hh]; exact hc, h1, (hi.same hh).mono (Nat.le_succ _)⟩
/-- Values that are handed over ask for no object that is not there. -/
theorem inv_args {h : Nat → OneV} {n : Nat} {raw l : List Value} (ha : ∀ h' : Nat → OneV, (∀ k, k < n → h' k = h k) → raw = l.map (concE h')) : ∀ v ∈ l, Inv h n v := fun v hv h' hh => by
  have h1 := (ha h' hh).symm.trans (ha h fun _ _ => rfl)
  exact List.map_inj_left.1 h1 v hv
theorem Inv.part {h : Nat → OneV} {n : Nat} {cs : List Value} (hv : Inv h n (.agg cs.toArray)) : ∀ c ∈ cs, c.oneCell' = true → Inv h n c := fun c hc h1 h' hh => by
  have e := hv h' hh
  rw [concE_agg, concE_agg, Value.agg.injEq, List.map_toArray, List.map_toArray] at e
  have e := congrArg Array.toList e
  have := List.map_inj_left.1 e c hc
  rw [concE_of_one h1, concE_of_one h1]
  exact this
/-- A value's cells, in names. -/
theorem cells_conc {h : Nat → OneV} {v : Value} (hv : ∀ c ∈ v.cells.toList, c.oneCell' = true) (hno : ∀ cs, v ≠ .tuple cs) : (concE h v).cells.toList = v.cells.toList.map (concE h) := by
  cases v with
  | agg cs =>
    have hc : (Value.agg cs).cells = cs := rfl
    rw [hc] at hv ⊢
    show (Value.agg (cs.map (concC h))).cells.toList = _
    have h2 : (Value.agg (cs.map (concC h))).cells = cs.map (concC h) := rfl
    rw [h2, Array.toList_map]
    exact List.map_congr_left fun c hm => (concE_of_one (hv c hm)).symm
  | tuple cs => exact absurd rfl (hno cs)
  | _ =>
    rw [cells_one (concE_one rfl), cells_one rfl]
    rfl
end Sx
end Go.Proofs.Ytaigdbnfhehclaa

namespace Go.Proofs.Ytaigdbnfhehclaa
namespace Sx
open Go.RowKit

section
variable {P : Program}
theorem key_store {op : Op} {t : TypeId} (h : primKey op = some (primBase + (32 * t + 1))) : ∃ x y, op = .store t x y := by
  unfold primKey at h
  repeat' split at h
  all_goals (try (exact absurd h.symm (Option.some_ne_none _)))
  all_goals (rw [Option.some.injEq] at h)
  all_goals (try (exfalso; omega))
  rename_i t' x y
  have : @Eq Nat t' t := by omega
  subst this
  exact ⟨_, _, rfl⟩
theorem key_alloc {op : Op} {t : TypeId} (h : primKey op = some (primBase + (32 * t + 10))) : op = .alloc t := by
  unfold primKey at h
  repeat' split at h
  all_goals (try (exact absurd h.symm (Option.some_ne_none _)))
  all_goals (rw [Option.some.injEq] at h)
  all_goals (try (exfalso; omega))
  rename_i t'
  have : @Eq Nat t' t := by omega
  subst this
  rfl
theorem key_box {op : Op} {t : TypeId} (h : primKey op = some (primBase + (32 * t + 11))) : ∃ x, op = .box t x := by
  unfold primKey at h
  repeat' split at h
  all_goals (try (exact absurd h.symm (Option.some_ne_none _)))
  all_goals (rw [Option.some.injEq] at h)
  all_goals (try (exfalso; omega))
  rename_i t' x
  have : @Eq Nat t' t := by omega
  subst this
  exact ⟨_, rfl⟩
/-- An object's cells are others. -/
def Ob.with_ (cs : List Value) : Ob → Ob
  | .row s len _ => .row s len cs
  | .ptr _ => .ptr cs
  | o => o
def Ob.open_ : Ob → Bool
  | .row _ _ _ => true
  | .ptr _ => true
  | _ => false
def overV (l : List Value) (off : Nat) (cs : List Value) : List Value := l.take off ++ cs ++ l.drop (off + cs.length)
theorem overV_get (l cs : List Value) (o : Nat) (h : o + cs.length ≤ l.length) (j : Nat) : (overV l o cs)[j]? = if o ≤ j ∧ j < o + cs.length then cs[j - o]? else l[j]? := by
  unfold overV
  simp only [List.getElem?_append, List.length_append, List.length_take, List.getElem?_take, List.getElem?_drop]
  rw [show min o l.length = o by omega]
  by_cases h1 : j < o
  · simp [h1, show j < o + cs.length by omega, show ¬ o ≤ j by omega]
  · by_cases h2 : j < o + cs.length
    · simp [h1, h2, show o ≤ j by omega]
    · rw [if_neg h2, if_neg (by omega)]
      congr 1
      omega
theorem overV_length (l cs : List Value) (o : Nat) (h : o + cs.length ≤ l.length) : (overV l o cs).length = l.length := by
  unfold overV
  simp
  omega
/-- Something is stored at a place. -/
def storeC (t : TypeId) : Con := ⟨primBase + (32 * t + 1), [], fun b => (E.lit undef).shift b, 2, 0, 2⟩
def storeR (s : Nat) (G : List Ob) (l : List Value) (e : Env) : Prop := ∃ n k v o cells, l = [tokAt n k, v] ∧ G[n]? = some o ∧ o.open_ = true ∧ o.cells? = some cells ∧ v.cells.size = s ∧ (∀ c ∈ v.cells.toList, c.oneCell' = true) ∧ (∀ cs, v ≠ .tuple cs) ∧ k + s ≤ cells.length ∧
  e.g gv = encG (G.set n (o.with_ (overV cells k v.cells.toList)))
theorem part_inv {h : Nat → OneV} {n : Nat} {v : Value} (hv : Inv h n v) : ∀ c ∈ v.cells.toList, c.oneCell' = true → Inv h n c := by
  intro c hc h1
  cases v with
  | agg cs =>
    obtain ⟨l⟩ := cs
    exact Inv.part hv c hc h1
  | tuple cs => simp [Value.cells] at hc; subst hc; cases h1
  | _ => rw [cells_one rfl] at hc; simp at hc; subst hc; exact hv
theorem store_holds {t : TypeId} {s : Nat} (hs : sizeE P t = some s) : (storeC t).holds P (conR (storeR s)) := by
  refine turn_holds rfl (Nat.le_add_right _ _) (fun G l e _ hR => ?_) ?_
  · obtain ⟨n, k, v, o, cells, rfl, h1, h2, _, _, _, _, _, h3⟩ := hR
    refine ⟨_, h3, ?_⟩
    unfold extG
    rw [if_neg (by decide), if_pos rfl]
    refine ⟨by simp, fun m o' ho hf => ?_⟩
    rw [List.getElem?_set_ne]
    · exact ho
    · intro e
      subst e
      rw [h1] at ho
      cases ho
      cases o <;> simp [Ob.open_, Ob.fixed] at h2 hf
  · rintro o hkey a w h F G f l e hargs H ⟨n, k, v, ob, cells, rfl, hn, hop, hcl, hsz, hone, hnt, hle, hG⟩
    obtain ⟨x, y, hopq⟩ := key_store hkey
    have hinv := inv_args hargs v (by simp)
    have hc : cellsAt G n = some cells := by unfold cellsAt; rw [hn]; exact hcl
    obtain ⟨b, o', q1, q2⟩ := cellsAt_spec hc H
    have ha := hargs h fun _ _ => rfl
    rw [hopq] at ha
    simp only [Op.operands, List.map_cons, List.map_nil, concE_at, q1, List.cons.injEq, and_true] at ha
    obtain ⟨a1, a2⟩ := ha
    have hcv := cells_conc (h := h) hone hnt
    have hsz2 : (concE h v).cells.size = s := by rw [← Array.length_toList, hcv]; simpa using hsz
    -- the cells may be written, and are the object's
    have hob := H.ob n _ hn
    have hwr : ∀ j, j < cells.length → (w.cell? ⟨b, o' + j, none⟩).isSome = true ∧ w.frozen? ⟨b, o' + j, none⟩ = false ∧ f n b (o' + j) := by
      intro j hj
      cases ob with
      | row s' len cs =>
        cases hcl
        obtain ⟨b', o2, cap, h1, h2, h4, h5, h6, h7, h8, h9⟩ := hob
        have e := q1 0
        rw [h1] at e
        simp only [hatV, Value.pointer.injEq, Option.some.injEq, Addr.mk.injEq, Nat.add_zero, and_true] at e
        obtain ⟨rfl, rfl⟩ := e
        have hle' : len * s' ≤ cap * s' := Nat.mul_le_mul_right _ h2
        have := h6 j (by omega)
        exact ⟨by obtain ⟨⟨u, hu, _⟩, _⟩ := this; rw [hu]; rfl, this.2, (h8 _ _).2 ⟨rfl, by omega⟩⟩
      | ptr cs =>
        cases hcl
        obtain ⟨b', o2, h1, h2, h3, h4⟩ := hob
        have e := q1 0
        rw [h1] at e
        simp only [hatV, Value.pointer.injEq, Option.some.injEq, Addr.mk.injEq, Nat.add_zero, and_true] at e
        obtain ⟨rfl, rfl⟩ := e
        have := h3 j _ (List.getElem?_eq_getElem hj)
        exact ⟨by rw [this.1.cell]; rfl, this.2, (h4 _ _).2 ⟨rfl, by omega, by omega⟩⟩
      | _ => cases hop
    have hrun := store_run (P := P) (w := w) (b := b) (o := o' + k) (v := concE h v) hs hsz2 (by
      rw [hcv]
      intro u hu
      obtain ⟨c, hcm, rfl⟩ := List.mem_map.1 hu
      exact concE_one (hone c hcm)) (fun j hj => by
      have := hwr (k + j) (by omega)
      rw [← Nat.add_assoc] at this
      exact ⟨this.1, this.2.1⟩)
    rw [hcv] at hrun
    have hlen : (v.cells.toList.map (concE h)).length = s := by simpa using hsz
    have hcell : ∀ j, j < cells.length → (w.setCells b (o' + k) (v.cells.toList.map (concE h))).cell? ⟨b, o' + j, none⟩ = ((overV cells k v.cells.toList)[j]?).map (concE h) := by
      intro j hj
      rw [overV_get _ _ _ (by simp [hsz]; omega)]
      have hlv : v.cells.toList.length = s := by simpa using hsz
      by_cases hin : k ≤ j ∧ j < k + v.cells.toList.length
      · rw [if_pos hin]
        have := World.cell?_setCells_in b (v.cells.toList.map (concE h)) (o' + k) w (fun i hi => by
          have := (hwr (k + i) (by omega)).1
          rwa [← Nat.add_assoc] at this) (j - k) (by omega)
        rw [show o' + k + (j - k) = o' + j by omega] at this
        rw [this, List.getElem_map, List.getElem?_eq_getElem (by omega)]
        rfl
      · rw [if_neg hin, World.cell?_setCells_out _ _ _ _ _ (fun _ _ => by show o' + j < o' + k ∨ o' + k + _ ≤ o' + j; omega), (q2 j _ (List.getElem?_eq_getElem hj)).cell, List.getElem?_eq_getElem hj]
        rfl
    have hfz : ∀ j, (w.setCells b (o' + k) (v.cells.toList.map (concE h))).frozen? ⟨b, o' + j, none⟩ = w.frozen? ⟨b, o' + j, none⟩ := fun j => World.frozen?_setCells b _ _ w _
    have hovl := overV_length cells v.cells.toList k (by simp [hsz]; omega)
    have hnew : ∀ (j : Nat) c, (overV cells k v.cells.toList)[j]? = some c → CellN (w.setCells b (o' + k) (v.cells.toList.map (concE h))) h G.length b (o' + j) c := by
      intro j c hj
      have hjl : j < cells.length := by have := (List.getElem?_eq_some_iff.1 hj).1; omega
      have h1 := hcell j hjl
      rw [hj] at h1
      rw [overV_get _ _ _ (by simp [hsz]; omega)] at hj
      split at hj
      · have hm := List.mem_of_getElem? hj
        exact ⟨h1, hone c hm, part_inv hinv c hm (hone c hm)⟩
      · exact ⟨h1, (q2 j c hj).one, (q2 j c hj).inv⟩
    have hsh : ob.shared = false := by cases ob <;> first | rfl | cases hop
    have hset := H.set (Fr.setCells w b (o' + k) (v.cells.toList.map (concE h))) (i := n) (o' := ob.with_ (overV cells k v.cells.toList)) (f' := f n) hn hsh (fun b1 x1 _ hx => by
      obtain ⟨rfl, hx1, hx2⟩ := hx
      have := (hwr (x1 - o') (by omega)).2.2
      rwa [show o' + (x1 - o') = x1 by omega] at this) (fun _ _ hx => .inl hx) (by
      cases ob with
      | row s' len cs =>
        cases hcl
        obtain ⟨b', o2, cap, h1, h2, h4, h5, h6, h7, h8, h9⟩ := hob
        have e := q1 0
        rw [h1] at e
        simp only [hatV, Value.pointer.injEq, Option.some.injEq, Addr.mk.injEq, Nat.add_zero, and_true] at e
        obtain ⟨rfl, rfl⟩ := e
        refine ⟨b', o2, cap, h1, h2, h4, by rw [hovl]; exact h5, fun j hj => ?_, hnew, h8, h9.keep (Fr.setCells w b' (o2 + k) (v.cells.toList.map (concE h)))⟩
        rw [hfz]
        refine ⟨?_, (h6 j hj).2⟩
        by_cases hjl : j < cells.length
        · obtain ⟨c, hcj⟩ : ∃ c, (overV cells k v.cells.toList)[j]? = some c := ⟨_, List.getElem?_eq_getElem (by omega)⟩
          exact ⟨_, (hnew j c hcj).cell, concE_one (hnew j c hcj).one⟩
        · rw [World.cell?_setCells_out _ _ _ _ _ (fun _ _ => by show o2 + j < o2 + k ∨ o2 + k + _ ≤ o2 + j; omega)]
          exact (h6 j hj).1
      | ptr cs =>
        cases hcl
        obtain ⟨b', o2, h1, h2, h3, h4⟩ := hob
        have e := q1 0
        rw [h1] at e
        simp only [hatV, Value.pointer.injEq, Option.some.injEq, Addr.mk.injEq, Nat.add_zero, and_true] at e
        obtain ⟨rfl, rfl⟩ := e
        refine ⟨b', o2, h1, by rw [hovl]; exact h2, fun j c hj => ⟨hnew j c hj, ?_⟩, by rw [hovl]; exact h4⟩
        rw [hfz]
        have hjl : j < cells.length := by have := (List.getElem?_eq_some_iff.1 hj).1; omega
        exact (h3 j _ (List.getElem?_eq_getElem hjl)).2
      | _ => cases hop)
    refine ⟨.skip, _, h, _, _, _, ?_, hG, .inr ⟨rfl, rfl⟩, (Fr.setCells w b (o' + k) _).mono (fun b1 x1 _ hx => ?_), hset.1, hset.2, by simp, fun _ _ => rfl⟩
    · simp only [hopq, execOp, Sem.run_bind, a1, a2, hrun, Result.andThen_ok, Sem.run_pure]
    · obtain ⟨rfl, hx1, hx2⟩ := hx
      have := (hwr (x1 - o') (by omega)).2.2
      rw [show o' + (x1 - o') = x1 by omega] at this
      exact (H.foot _ _).2 ⟨n, (List.getElem?_eq_some_iff.1 hn).1, this⟩
end
end Sx
end Go.Proofs.Ytaigdbnfhehclaa

namespace Go.Proofs.Ytaigdbnfhehclaa
namespace Sx
open Go.RowKit

section
variable {P : Program}
theorem key_append {op : Op} {t : TypeId} (h : primKey op = some (primBase + (32 * t + 18))) : ∃ c, op = .call c ∧ c.callee = .builtin .append ∧ c.argTypes = #[t, t] := by
  unfold primKey at h
  repeat' split at h
  all_goals (try (exact absurd h.symm (Option.some_ne_none _)))
  all_goals (rw [Option.some.injEq] at h)
  all_goals (try (exfalso; omega))
  rename_i t' h1 h2 h3
  have : @Eq Nat t' t := by omega
  subst this
  exact ⟨_, rfl, h1, h3⟩
set_option maxRecDepth 100000 in
theorem key_buildSlice {op : Op} {t : TypeId} {n : Nat} (hn : n < 10000) (h : primKey op = some (primBase + (32 * (t * 10000 + n) + 15))) : ∃ parts, op = .buildSlice t n parts ∧ parts.toList.map (·.1) = List.range n := by
  unfold primKey at h
  repeat' split at h
  all_goals (try (exact absurd h.symm (Option.some_ne_none _)))
  all_goals (rw [Option.some.injEq] at h)
  all_goals (try (exfalso; omega))
  rename_i t' n' parts hc
  simp only [Bool.and_eq_true, decide_eq_true_eq, beq_iff_eq] at hc
  have h1 : @Eq Nat t' t := by omega
  have h2 : n' = n := by omega
  subst h1 h2
  exact ⟨_, rfl, hc.2⟩
theorem key_makeSlice {op : Op} {t : TypeId} (h : primKey op = some (primBase + (32 * t + 5))) : ∃ x y, op = .makeSlice t x y := by
  unfold primKey at h
  repeat' split at h
  all_goals (try (exact absurd h.symm (Option.some_ne_none _)))
  all_goals (rw [Option.some.injEq] at h)
  all_goals (try (exfalso; omega))
  rename_i t' x y
  have : @Eq Nat t' t := by omega
  subst this
  exact ⟨_, _, rfl⟩
/-- Handles, and one more. -/
def hPush (h : Nat → OneV) (n : Nat) (v : OneV) : Nat → OneV := fun k => if k = n then v else h k
theorem hPush_new (h : Nat → OneV) (n : Nat) (v : OneV) : hPush h n v n = v := if_pos rfl
theorem hPush_old {h : Nat → OneV} {n : Nat} {v : OneV} {k : Nat} (hk : k < n) : hPush h n v k = h k := if_neg (Nat.ne_of_lt hk)
def slV (b o len cap : Nat) : OneV := ⟨.slice (some ⟨b, o, none⟩) len cap, rfl⟩
def ptrV (b o : Nat) : OneV := ⟨.pointer (some ⟨b, o, none⟩), rfl⟩
/-- A slice's elements, for writing or for reading alone. -/
def mkRow (fz : Bool) (s len : Nat) (cells : List Value) : Ob := if fz then .ro s len cells else .row s len cells
/-- A row in a new block. -/
theorem holds_row_new {w : World} {h : Nat → OneV} {n s len cap : Nat} {cells : List Value} {raw : Array Value} {t : TypeId} (fz : Bool) (hl : cells.length = len * s) (hr : raw.size = cap * s) (hle : len ≤ cap) (hm : cap ≤ maxLen)
    (hc : ∀ (j : Nat) c, cells[j]? = some c → raw[j]? = some (concE h c) ∧ c.oneCell' = true ∧ Inv h n c) (h1 : ∀ u ∈ raw, u.oneCell' = true) :
    HoldsOb (w.alloc (.cells raw t)) (hPush h n (slV w.heap.size 0 len cap)) (n + 1) (slV w.heap.size 0 len cap).val (fun i x => i = w.heap.size ∧ (fz = true → x < len * s)) (mkRow fz s len cells) := by
  have hcn : ∀ (j : Nat) c, cells[j]? = some c → CellN (w.alloc (.cells raw t)) (hPush h n (slV w.heap.size 0 len cap)) (n + 1) w.heap.size (0 + j) c := fun j c hj => by
    obtain ⟨g1, g2, g3⟩ := hc j c hj
    refine CellN.push g3 g2 ?_
    rw [Nat.zero_add, World.cell?_alloc_new]
    exact g1
  have hle' : len * s ≤ cap * s := Nat.mul_le_mul_right _ hle
  cases fz with
  | true =>
    refine ⟨_, _, _, _, rfl, hle, hl, fun _ => rfl, hcn, fun i x => ?_⟩
    constructor
    · rintro ⟨rfl, hx⟩; exact ⟨rfl, Nat.zero_le _, by have := hx rfl; omega⟩
    · rintro ⟨rfl, _, hx⟩; exact ⟨rfl, fun _ => by omega⟩
  | false =>
    refine ⟨_, _, _, rfl, hle, hm, hl, fun j hj => ?_, hcn, fun i x => ?_, ⟨⟨t, ?_⟩, fun c e lo hi hc => ?_⟩, fun x _ => World.frozen?_alloc_new w _ _ _⟩
    · rw [Nat.zero_add, World.cell?_alloc_new, World.frozen?_alloc_new]
      refine ⟨⟨raw[j]'(by omega), Array.getElem?_eq_getElem (by omega), h1 _ (Array.getElem_mem _)⟩, rfl⟩
    · constructor
      · rintro ⟨rfl, hx⟩; exact ⟨rfl, Nat.zero_le _⟩
      · rintro ⟨rfl, _⟩; exact ⟨rfl, fun h => by cases h⟩
    · rw [Nat.zero_add, ← hr]
      unfold World.shape?
      rw [heap_alloc_new]
    · rw [heap_alloc_new] at hc
      cases hc
      exact Nat.le_refl _
/-- What a new object in a new block gives. -/
theorem turn_new {w : World} {h : Nat → OneV} {F : Foot} {G : List Ob} {f : Nat → Foot} (H : Objs w h F G f) (ob : Obj) (v : OneV) {o' : Ob} {f' : Foot} (hf' : ∀ b x, f' b x → b = w.heap.size)
    (ho : HoldsOb (w.alloc ob) (hPush h G.length v) (G.length + 1) v.val f' o') :
    ∃ F' f'', Fr F w (w.alloc ob) ∧ Objs (w.alloc ob) (hPush h G.length v) F' (G ++ [o']) f'' ∧ (∀ i x, F' i x → F i x ∨ w.heap.size ≤ i) ∧ G.length ≤ (G ++ [o']).length ∧ ∀ n, n < G.length → hPush h G.length v n = h n := by
  refine ⟨_, _, Fr.alloc F w ob, H.lay ob v hf' ho, fun i x hx => hx.imp id fun hx => by rw [hf' i x hx]; exact Nat.le_refl _, by simp, fun n hn => hPush_old hn⟩
/-- A new struct. -/
def boxC (t : TypeId) : Con := ⟨primBase + (32 * t + 11), [], fun b => (E.pla (.var 0) (.lit 0) 0).shift b, 2, 0, 1⟩
def boxR (G : List Ob) (l : List Value) (e : Env) : Prop := ∃ v, l = [v] ∧ (∀ c ∈ v.cells.toList, c.oneCell' = true) ∧ (∀ cs, v ≠ .tuple cs) ∧ 0 < v.cells.size ∧ e.i 0 = G.length ∧ e.g gv = encG (G ++ [.ptr v.cells.toList])
theorem ext1 {G : List Ob} (X : List Ob) : extG 1 G (G ++ X) := ⟨X, rfl⟩
theorem holds_ptr_new {w : World} {h : Nat → OneV} {n : Nat} {cells : List Value} {raw : Array Value} {t : TypeId} (hp : 0 < cells.length) (hc : ∀ (j : Nat) c, cells[j]? = some c → raw[j]? = some (concE h c) ∧ c.oneCell' = true ∧ Inv h n c) :
    HoldsOb (w.alloc (.cells raw t)) (hPush h n (ptrV w.heap.size 0)) (n + 1) (ptrV w.heap.size 0).val (fun i x => i = w.heap.size ∧ x < cells.length) (.ptr cells) := by
  refine ⟨_, _, rfl, hp, fun j c hj => ?_, fun i x => ?_⟩
  · obtain ⟨g1, g2, g3⟩ := hc j c hj
    refine ⟨CellN.push g3 g2 ?_, ?_⟩
    · rw [Nat.zero_add, World.cell?_alloc_new]; exact g1
    · exact World.frozen?_alloc_new w _ _ _
  · constructor
    · rintro ⟨rfl, hx⟩; exact ⟨rfl, Nat.zero_le _, by omega⟩
    · rintro ⟨rfl, _, hx⟩; exact ⟨rfl, by omega⟩
theorem box_holds {t : TypeId} : (boxC t).holds P (conR boxR) := by
  refine turn_holds rfl (Nat.le_add_right _ _) (fun G l e _ ⟨v, _, _, _, _, _, hG⟩ => ⟨_, hG, ext1 _⟩) ?_
  rintro o hkey a w h F G f l e hargs H ⟨v, rfl, hone, hnt, hpos, hi, hG⟩
  obtain ⟨x, hop⟩ := key_box hkey
  have hinv := inv_args hargs v (by simp)
  have ha := hargs h fun _ _ => rfl
  rw [hop] at ha
  simp only [Op.operands, List.map_cons, List.map_nil, List.cons.injEq, and_true] at ha
  have hcv := cells_conc (h := h) hone hnt
  have hh := holds_ptr_new (w := w) (h := h) (n := G.length) (cells := v.cells.toList) (raw := (concE h v).cells) (t := t) (by simpa using hpos) (fun j c hj => by
    have hm := List.mem_of_getElem? hj
    refine ⟨?_, hone c hm, part_inv hinv c hm (hone c hm)⟩
    rw [← Array.getElem?_toList, hcv, List.getElem?_map, hj]
    rfl)
  obtain ⟨F', f'', g1, g2, g3, g4, g5⟩ := turn_new H _ _ (fun b x hx => hx.1) hh
  refine ⟨_, _, _, F', f'', _, ?_, hG, .inl ⟨tokAt G.length 0, rfl, ?_, Inv.at_ (by simp)⟩, g1, g2, g3, g4, g5⟩
  · simp only [hop, execOp, Instr.box, ha, Sem.run_bind, Result.andThen_ok, newVar, newRow, newObj, Sem.run, Sem.run_pure, concE_at, hPush_new]
    rfl
  · simp only [E.nam, T.den, hi, Int.toNat_natCast]
    rfl
/-- A new struct of noughts. -/
def allocC (t : TypeId) : Con := ⟨primBase + (32 * t + 10), [], fun b => (E.pla (.var 0) (.lit 0) 0).shift b, 2, 0, 1⟩
def allocR (z : List Value) (G : List Ob) (l : List Value) (e : Env) : Prop := l = [] ∧ e.i 0 = G.length ∧ e.g gv = encG (G ++ [.ptr z])
theorem alloc_holds {t : TypeId} {i : TypeInfo} {v : Value} {z : List Value} (hi : P.info? t = some i) (hz : i.zero = some v) (hv : v.cells.toList = z) (hp : z.all (fun c => c.oneCell' && plainV c) = true) (h0 : 0 < z.length) : (allocC t).holds P (conR (allocR z)) := by
  refine turn_holds rfl (Nat.le_add_right _ _) (fun G l e _ ⟨_, _, hG⟩ => ⟨_, hG, ext1 _⟩) ?_
  rintro o hkey a w h F G f l e hargs H ⟨rfl, hi0, hG⟩
  have hop := key_alloc hkey
  have hpl : ∀ c ∈ z, c.oneCell' = true ∧ plainV c = true := fun c hc => by simpa using List.all_eq_true.1 hp c hc
  have hcc : ∀ h' : Nat → OneV, ∀ c ∈ z, concE h' c = c := fun h' c hc => concE_plain (hpl c hc).2
  have hh := holds_ptr_new (w := w) (h := h) (n := G.length) (cells := z) (raw := v.cells) (t := t) h0 (fun j c hj => by
    have hm := List.mem_of_getElem? hj
    refine ⟨?_, (hpl c hm).1, Inv.of_const fun h' => hcc h' c hm⟩
    rw [← Array.getElem?_toList, hv, hj, hcc h c hm])
  obtain ⟨F', f'', g1, g2, g3, g4, g5⟩ := turn_new H _ _ (fun b x hx => hx.1) hh
  refine ⟨_, _, _, F', f'', _, ?_, hG, .inl ⟨tokAt G.length 0, rfl, ?_, Inv.at_ (by simp)⟩, g1, g2, g3, g4, g5⟩
  · simp only [hop, execOp, Instr.alloc, Sem.run_bind, zeroValue, typeInfo, run_program, hi, hz, Sem.run_pure, Result.andThen_ok, newVar, newRow, newObj, Sem.run, concE_at, hPush_new]
    rfl
  · simp only [E.nam, T.den, hi0, Int.toNat_natCast]
    rfl
end
end Sx
end Go.Proofs.Ytaigdbnfhehclaa

namespace Go.Proofs.Ytaigdbnfhehclaa
namespace Sx
open Go.RowKit

section
variable {P : Program}
theorem fill_all (s : Nat) : ∀ (vs : List Value) (i0 : Nat) (cells : List Value), (∀ v ∈ vs, v.cells.size = s) → (i0 + vs.length) * s ≤ cells.length →
    Instr.fill (fun i => some (i * s, s)) cells.toArray ((List.range' i0 vs.length).zip vs) = some (cells.take (i0 * s) ++ (vs.map fun v => v.cells.toList).flatten ++ cells.drop ((i0 + vs.length) * s)).toArray
  | [], i0, cells, _, _ => by simp [Instr.fill]
  | v :: vs, i0, cells, h, hl => by
    simp only [List.length_cons] at hl ⊢
    have hv := h v (List.mem_cons_self ..)
    have hvl : v.cells.toList.length = s := by simpa using hv
    have h1 : (i0 + (vs.length + 1)) * s = (i0 + 1 + vs.length) * s := by congr 1; omega
    have h2 : (i0 + 1) * s = i0 * s + s := by rw [Nat.add_mul, Nat.one_mul]
    have h3 : (i0 + 1) * s ≤ (i0 + 1 + vs.length) * s := Nat.mul_le_mul_right _ (by omega)
    rw [List.range'_succ, List.zip_cons_cons, Instr.fill]
    have e2 := foldl_over (i0 * s) v.cells.toList 0 cells (by omega)
    have e3 : v.cells.zipIdx.foldl (fun (acc : Array Value) (p : Value × Nat) => acc.setIfInBounds (i0 * s + p.2) p.1) cells.toArray = (cells.take (i0 * s) ++ v.cells.toList ++ cells.drop (i0 * s + s)).toArray := by
      rw [← hvl, ← Nat.add_zero (i0 * v.cells.toList.length), hvl]
      simp only [Nat.add_zero] at e2 ⊢
      rw [hvl] at e2
      rw [← e2, ← Array.foldl_toList]
      rw [← Array.toList_zipIdx]
    have e1 : (v.cells.size ≠ s || decide (i0 * s + v.cells.size > cells.toArray.size)) = false := by
      simp [hv]; omega
    simp only [e1, Bool.false_eq_true, if_false]
    have e4 : (v.cells.zipIdx.foldl (fun cs (x : Value × Nat) => match x with | (c, j) => cs.setIfInBounds (i0 * s + j) c) cells.toArray) = (cells.take (i0 * s) ++ v.cells.toList ++ cells.drop (i0 * s + s)).toArray := e3
    rw [e4, fill_all s vs (i0 + 1) _ (fun u hu => h u (List.mem_cons_of_mem _ hu)) (by simp; omega)]
    congr 2
    rw [List.map_cons, List.flatten_cons, h1]
    have t1 : (cells.take (i0 * s) ++ v.cells.toList ++ cells.drop (i0 * s + s)).take ((i0 + 1) * s) = cells.take (i0 * s) ++ v.cells.toList := by
      rw [List.take_append_of_le_length (by simp; omega), List.take_of_length_le (by simp; omega)]
    have t2 : (cells.take (i0 * s) ++ v.cells.toList ++ cells.drop (i0 * s + s)).drop ((i0 + 1 + vs.length) * s) = cells.drop ((i0 + 1 + vs.length) * s) := by
      rw [List.drop_append, List.drop_eq_nil_of_le (by simp; omega), List.nil_append, List.drop_drop]
      congr 1
      simp
      omega
    rw [t1, t2]
    simp [List.append_assoc]
/-- A slice's literal. -/
def bsC (t : TypeId) (n : Nat) : Con := ⟨primBase + (32 * (t * 10000 + n) + 15), [], fun b => (E.hnd 0).shift b, 2, 0, 1⟩
def bsR (s n : Nat) (G : List Ob) (l : List Value) (e : Env) : Prop := ∃ (fz : Bool) (cells : List Value), l.length = n ∧ (l.map fun v => v.cells.toList).flatten = cells ∧ (∀ v ∈ l, v.cells.size = s ∧ (∀ c ∈ v.cells.toList, c.oneCell' = true) ∧ ∀ cs, v ≠ .tuple cs) ∧
  e.v 0 = tok G.length ∧ e.g gv = encG (G ++ [mkRow fz s n cells])
theorem flat_len (s : Nat) : ∀ l : List Value, (∀ v ∈ l, v.cells.size = s) → (l.map fun v => v.cells.toList).flatten.length = l.length * s
  | [], _ => by simp
  | v :: l, h => by
    have h1 : v.cells.toList.length = s := by simpa using h v (List.mem_cons_self ..)
    rw [List.map_cons, List.flatten_cons, List.length_append, h1, flat_len s l (fun u hu => h u (List.mem_cons_of_mem _ hu)), List.length_cons, Nat.add_mul, Nat.one_mul, Nat.add_comm]
theorem flat_mem {s : Nat} {l : List Value} {c : Value} (_h : ∀ v ∈ l, v.cells.size = s) (hc : c ∈ (l.map fun v => v.cells.toList).flatten) : ∃ v ∈ l, c ∈ v.cells.toList := by
  rw [List.mem_flatten] at hc
  obtain ⟨cs, h1, h2⟩ := hc
  obtain ⟨v, h3, rfl⟩ := List.mem_map.1 h1
  exact ⟨v, h3, h2⟩
theorem times_toArray {s n : Nat} {z : List Value} (hz : z.length = s) : ((Array.range (n * s)).map (fun i => z.toArray[i % z.toArray.size]!)).size = n * s := by simp [hz]
theorem bs_holds {t el : TypeId} {n s : Nat} {i : TypeInfo} {v : Value} (hu : P.underlying t = some (.slice el)) (hi : P.info? el = some i) (hs : i.size = s) (hz : i.zero = some v) (hn : n < 10000) (hlim : n * s ≤ 16777216) :
    (bsC t n).holds P (conR (bsR s n)) := by
  refine turn_holds rfl (Nat.le_add_right _ _) (fun G l e _ ⟨_, _, _, _, _, _, hG⟩ => ⟨_, hG, ext1 _⟩) ?_
  rintro o hkey a w h F G f l e hargs H ⟨fz, cells, hln, hcells, hl, he, hG⟩
  obtain ⟨parts, hop, hpr⟩ := key_buildSlice hn hkey
  have hinv := inv_args hargs
  have ha := hargs h fun _ _ => rfl
  rw [hop] at ha
  have hparts : (parts.map fun p => (p.1, a.eval p.2)).toList = (List.range' 0 (l.map (concE h)).length).zip (l.map (concE h)) := by
    have e1 : parts.toList.map (fun p => a.eval p.2) = l.map (concE h) := by
      rw [← ha]; simp [Op.operands]
    rw [← e1, List.length_map, Array.length_toList, Array.toList_map]
    have e2 : parts.size = n := by have := congrArg List.length hpr; simpa using this
    rw [e2, ← List.range_eq_range', ← hpr]
    rw [List.zip_map']
  have hsz : ∀ v ∈ l.map (concE h), v.cells.size = s := fun v hv => by
    obtain ⟨u, hu, rfl⟩ := List.mem_map.1 hv
    rw [← Array.length_toList, cells_conc (hl u hu).2.1 (hl u hu).2.2, List.length_map, Array.length_toList]
    exact (hl u hu).1
  have hflat : ((l.map (concE h)).map fun v => v.cells.toList).flatten = cells.map (concE h) := by
    rw [← hcells, List.map_flatten, List.map_map, List.map_map]
    congr 1
    refine List.map_congr_left fun u hu => ?_
    exact cells_conc (hl u hu).2.1 (hl u hu).2.2
  have hcl : cells.length = n * s := by rw [← hcells, flat_len s l fun v hv => (hl v hv).1, hln]
  have hfill : ∀ z : List Value, z.length = n * s → Instr.fill (fun i => some (i * s, s)) z.toArray (parts.map fun p => (p.1, a.eval p.2)).toList = some (cells.map (concE h)).toArray := fun z hz => by
    have := fill_all s (l.map (concE h)) 0 z hsz (by simp [hln, hz])
    rw [hparts, this, hflat]
    have e3 : (0 + (l.map (concE h)).length) * s = z.length := by simp [hln, hz]
    rw [e3, List.drop_length, Nat.zero_mul, List.take_zero, List.nil_append, List.append_nil]
  have hh := holds_row_new (w := w) (h := h) (n := G.length) (s := s) (len := n) (cap := n) (cells := cells) (raw := (cells.map (concE h)).toArray) (t := el) fz hcl (by simp [hcl]) (Nat.le_refl _) (by unfold maxLen; omega) (fun j c hj => by
    obtain ⟨u, hu, hcu⟩ := flat_mem (fun v hv => (hl v hv).1) (hcells ▸ List.mem_of_getElem? hj)
    exact ⟨by simp [hj], (hl u hu).2.1 c hcu, part_inv (hinv u hu) c hcu ((hl u hu).2.1 c hcu)⟩) (fun u hu => by
    simp only [List.mem_toArray] at hu
    obtain ⟨c, hc, rfl⟩ := List.mem_map.1 hu
    obtain ⟨u, hu, hcu⟩ := flat_mem (fun v hv => (hl v hv).1) (hcells ▸ hc)
    exact concE_one ((hl u hu).2.1 c hcu))
  obtain ⟨F', f'', g1, g2, g3, g4, g5⟩ := turn_new H _ _ (fun b x hx => hx.1) hh
  refine ⟨_, _, _, F', f'', _, ?_, hG, .inl ⟨tok G.length, rfl, by simp only [E.nam, he]; exact oneOf_eq rfl, Inv.name (by simp)⟩, g1, g2, g3, g4, g5⟩
  have hlim' : ¬ n * s > 2 ^ 24 := by omega
  have hsz2 : (sizeOf el).run P w = .ok s w := sizeE_run (by unfold sizeE; rw [hi]; simp [hs]) w
  have hzero : ∀ w, (zeroValue el).run P w = .ok v w := fun w => by simp [zeroValue, typeInfo, hi, hz]
  have hex : execOp a.eval o = (do let v ← Instr.buildSlice t n (parts.map fun p => (p.1, a.eval p.2)); pure (.value v)) := by unfold execOp; simp only [hop]
  rw [hex]
  by_cases h0 : n * s = 0
  · have := hfill ((Array.range (n * s)).map (fun j => (#[] : Array Value)[j % (#[] : Array Value).size]!)).toList (by simp)
    simp only [Array.toArray_toList] at this
    simp only [Instr.buildSlice, Sem.run_bind, run_underlying hu, Result.andThen_ok, hsz2, if_neg hlim', if_pos h0, Sem.run_pure, this, newRow, newObj, Sem.run, concE_name, hPush_new]
    rfl
  · have := hfill ((Array.range (n * s)).map (fun j => v.cells[j % v.cells.size]!)).toList (by simp)
    simp only [Array.toArray_toList] at this
    simp only [Instr.buildSlice, Sem.run_bind, run_underlying hu, Result.andThen_ok, hsz2, if_neg hlim', if_neg h0, Sem.run_pure, hzero, this, newRow, newObj, Sem.run, concE_name, hPush_new]
    rfl
/-- make, of a slice of noughts. -/
def msC (t : TypeId) : Con := ⟨primBase + (32 * t + 5), [], fun b => (E.hnd 0).shift b, 2, 0, 1⟩
def msR (z : Value) (by_ : Nat) (G : List Ob) (l : List Value) (e : Env) : Prop := ∃ (fz : Bool) (n : Nat) (k k' : IntKind), l = [.int k n, .int k' n] ∧ by_ * n ≤ 140737488355328 ∧ n ≤ 9223372036854775807 ∧ e.v 0 = tok G.length ∧ e.g gv = encG (G ++ [mkRow fz 1 n (List.replicate n z)])
theorem ms_holds {t el : TypeId} {i : TypeInfo} {v : Value} (hu : P.underlying t = some (.slice el)) (hi : P.info? el = some i) (hs : i.size = 1) (hz : i.zero = some v) (hv : v.oneCell' = true) (hpl : plainV v = true) : (msC t).holds P (conR (msR v i.bytes)) := by
  refine turn_holds rfl (Nat.le_add_right _ _) (fun G l e _ ⟨_, _, _, _, _, _, _, _, hG⟩ => ⟨_, hG, ext1 _⟩) ?_
  rintro o hkey a w h F G f l e hargs H ⟨fz, n, k, k', rfl, hby, hn, he, hG⟩
  obtain ⟨x, y, hop⟩ := key_makeSlice hkey
  have ha := hargs h fun _ _ => rfl
  rw [hop] at ha
  simp only [Op.operands, List.map_cons, List.map_nil, concE_int, List.cons.injEq, and_true] at ha
  obtain ⟨a1, a2⟩ := ha
  have hr := run_make (P := P) w t el i v hu hi hz k k' (n : Int) (n : Int) (by omega) (Int.le_refl _) (by
    have h : ((i.bytes * n : Nat) : Int) ≤ 281474976710656 := by omega
    rwa [Int.natCast_mul] at h) (by omega)
  simp only [Int.toNat_natCast, hs, Nat.mul_one] at hr
  have hmade : madeCells v.cells n = (List.replicate n v).toArray := by
    unfold madeCells
    rw [cells_one hv]
    apply Array.ext
    · simp
    · intro j h1 h2
      simp at h1 ⊢
      rw [Nat.mod_one]
      rfl
  rw [hmade] at hr
  have hh := holds_row_new (w := w) (h := h) (n := G.length) (s := 1) (len := n) (cap := n) (cells := List.replicate n v) (raw := (List.replicate n v).toArray) (t := el) fz (by simp) (by simp) (Nat.le_refl _) (by unfold maxLen; omega) (fun j c hj => by
    have := List.eq_of_mem_replicate (List.mem_of_getElem? hj)
    subst this
    exact ⟨by rw [concE_plain hpl, List.getElem?_toArray]; exact hj, hv, Inv.of_const fun _ => concE_plain hpl⟩) (fun u hu => by
    simp only [List.mem_toArray] at hu
    rw [List.eq_of_mem_replicate hu]
    exact hv)
  obtain ⟨F', f'', g1, g2, g3, g4, g5⟩ := turn_new H _ _ (fun b x hx => hx.1) hh
  refine ⟨_, _, _, F', f'', _, ?_, hG, .inl ⟨tok G.length, rfl, by simp only [E.nam, he]; exact oneOf_eq rfl, Inv.name (by simp)⟩, g1, g2, g3, g4, g5⟩
  simp only [hop, execOp, a1, a2, Sem.run_bind, hr, Result.andThen_ok, Sem.run_pure, concE_name, hPush_new]
  rfl
end
end Sx
end Go.Proofs.Ytaigdbnfhehclaa
