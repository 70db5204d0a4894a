/-
  What is proved: contracts of the operations on objects that ask alone: the length of a slice, the place of an element, what lies at a place; no program in sight. Condition: the types are as said.
-/
import Derived.Test.YteklnfajpignoaaSyS
namespace Go.Proofs.Yteklnfajpignoaa
namespace Sx
open Go.RowKit

theorem cnt_enc (G : List Ob) : Kinds.cnt (encG G) = G.length := cntG_enc G
theorem store_last {vs : List Value} {g g' : Value} (l : List Value) (h : vs ++ [g] = l ++ [g']) : vs = l ∧ g = g' := by
  obtain ⟨h1, h2⟩ := List.append_inj' h rfl
  exact ⟨h1, by simpa using h2⟩
/-- A relation on a store, values, and an answer. -/
def conR (R : List Ob → List Value → Env → Prop) : ConS := fun vs e => ∃ G l, vs = l ++ [encG G] ∧ R G l e
theorem conR_iff {R : List Ob → List Value → Env → Prop} {G : List Ob} {l : List Value} {e : Env} : conR R (l ++ [encG G]) e ↔ R G l e := by
  constructor
  · rintro ⟨G', l', h, hr⟩
    obtain ⟨rfl, h2⟩ := store_last l' h
    rw [encG_inj h2]
    exact hr
  · exact fun h => ⟨G, l, rfl, h⟩
/-- A contract that only asks. -/
theorem read_holds {P : Program} {fn : FuncId} {r : E} {rd : Nat} {R : List Ob → List Value → Env → Prop} (hr : (r.noPtr && r.lt stride) = true) (hp : primBase ≤ fn)
    (hloc : ∀ G G' l e, rd ≠ 0 → extG rd G G' → NoDang (encG G) l → (R G l e ↔ R G' l e))
    (hrun : ∀ (o : Oper), primKey o.op = some fn → ∀ (a : Act) (w : World) (h : Nat → OneV) (F : Foot) (G : List Ob) (f : Nat → Foot) (l : List Value) (e : Env), (∀ h' : Nat → OneV, (∀ n, n < G.length → h' n = h n) → o.op.operands.toList.map a.eval = l.map (concE h')) →
      Objs w h F G f → R G l e → ∃ v, (execOp a.eval o).run P w = .ok (.value (concE h v)) w ∧ Inv h G.length v ∧ r.nam e lay0 = v) :
    (⟨fn, [], fun b => r.shift b, 1, rd, 0⟩ : Con).holds P (conR R) := by
  rw [Bool.and_eq_true] at hr
  refine ⟨⟨fun hq => absurd hq (Nat.not_lt.2 hp), fun _ => ?_⟩, fun h0 => ⟨rfl, ?_⟩, fun h0 => absurd rfl h0⟩
  · rintro o hkey a w vs e0 h F g hargs hk ⟨G, l, hvs, hR⟩
    obtain ⟨rfl, rfl⟩ := store_last l hvs
    obtain ⟨f, H⟩ := objs_of hk
    obtain ⟨v, h1, h2, h3⟩ := hrun o hkey a w h F G f vs e0 (fun h' hh => hargs h' fun n hn => hh n (by rwa [cnt_enc] at hn)) H hR
    refine ⟨_, w, h1, h, F, ⟨Fr.refl _ _, rfl⟩, fun ρ base hat ι hA => .inl ?_⟩
    have e1 := E.shift_val hat (ι := ι) (ι' := ι) rfl r hr.2 (E.ptr_adr hr.1)
    show Next.value _ = Next.value ((r.shift base).val ρ ι)
    rw [e1, E.val_conc e0 ι lay0 hr.1, h3]
    rw [h2 ι.h fun n hn => hA n (by simpa [cnt_enc] using hn)]
  · intro vs g g' e hx hd
    obtain ⟨G, G', rfl, rfl, hext⟩ := hx
    rw [conR_iff, conR_iff]
    exact hloc G G' vs e h0 hext hd
/-- A contract that turns the store. -/
theorem turn_holds {P : Program} {fn : FuncId} {r : E} {wr : Nat} {R : List Ob → List Value → Env → Prop} (hr : (r.noPtr && r.lt stride) = true) (hp : primBase ≤ fn)
    (hwr : ∀ G l e, wr ≠ 0 → R G l e → ∃ G', e.g gv = encG G' ∧ extG wr G G')
    (hrun : ∀ (o : Oper), primKey o.op = some fn → ∀ (a : Act) (w : World) (h : Nat → OneV) (F : Foot) (G : List Ob) (f : Nat → Foot) (l : List Value) (e : Env), (∀ h' : Nat → OneV, (∀ n, n < G.length → h' n = h n) → o.op.operands.toList.map a.eval = l.map (concE h')) →
      Objs w h F G f → R G l e → ∃ x w' h' F' f' G', (execOp a.eval o).run P w = .ok x w' ∧ e.g gv = encG G' ∧ ((∃ v, x = .value (concE h' v) ∧ r.nam e lay0 = v ∧ Inv h' G'.length v) ∨ (x = .skip ∧ r = .lit undef)) ∧
        Fr F w w' ∧ Objs w' h' F' G' f' ∧ (∀ i x, F' i x → F i x ∨ w.heap.size ≤ i) ∧ G.length ≤ G'.length ∧ ∀ n, n < G.length → h' n = h n) :
    (⟨fn, [], fun b => r.shift b, 2, 0, wr⟩ : Con).holds P (conR R) := by
  rw [Bool.and_eq_true] at hr
  refine ⟨⟨fun hq => absurd hq (Nat.not_lt.2 hp), fun _ => ?_⟩, fun h0 => absurd rfl h0, fun h0 => ?_⟩
  · rintro o hkey a w vs e0 h F g hargs hk ⟨G, l, hvs, hR⟩
    obtain ⟨rfl, rfl⟩ := store_last l hvs
    obtain ⟨f, H⟩ := objs_of hk
    obtain ⟨x, w', h', F', f', G', h1, h2, h3, h4, h5, h6, h7, h8⟩ := hrun o hkey a w h F G f vs e0 (fun h' hh => hargs h' fun n hn => hh n (by rwa [cnt_enc] at hn)) H hR
    refine ⟨x, w', h1, h', F', ?_, fun ρ base hat ι hA => ?_⟩
    · rw [h2]
      exact ⟨h4.mono fun _ _ _ hx => .inr hx, ⟨G', f', rfl, h5⟩, h6, by rw [cnt_enc, cnt_enc]; exact h7, fun n hn => h8 n (by rwa [cnt_enc] at hn)⟩
    · rcases h3 with ⟨v, rfl, h9, h10⟩ | ⟨rfl, rfl⟩
      · left
        have e1 := E.shift_val hat (ι := ι) (ι' := ι) rfl r hr.2 (E.ptr_adr hr.1)
        show Next.value _ = Next.value ((r.shift base).val ρ ι)
        rw [e1, E.val_conc e0 ι lay0 hr.1, h9]
        rw [h10 ι.h fun n hn => hA n (by rw [h2]; simpa [cnt_enc] using hn)]
      · exact .inr ⟨rfl, rfl⟩
  · intro vs g e ⟨G, l, hvs, hR⟩
    obtain ⟨rfl, rfl⟩ := store_last l hvs
    obtain ⟨G', h1, h2⟩ := hwr G vs e h0 hR
    rw [h1]
    exact ext_enc h2

theorem concE_name (h : Nat → OneV) (n : Nat) : concE h (tok n) = (h n).val := rfl
theorem concE_nil (h : Nat → OneV) : concE h (.slice none 0 0) = .slice none 0 0 := rfl
theorem concE_int (h : Nat → OneV) (k : IntKind) (n : Int) : concE h (.int k n) = .int k n := rfl
theorem concE_bool (h : Nat → OneV) (b : Bool) : concE h (.bool b) = .bool b := rfl
theorem concE_agg (h : Nat → OneV) (cs : Array Value) : concE h (.agg cs) = .agg (cs.map (concC h)) := rfl
theorem Inv.of_const {h : Nat → OneV} {n : Nat} {v : Value} (hv : ∀ h' : Nat → OneV, concE h' v = v) : Inv h n v := fun h' _ => (hv h').trans (hv h).symm
theorem Inv.name {h : Nat → OneV} {n k : Nat} (hk : k < n) : Inv h n (tok k) := fun h' hh => by rw [concE_name, concE_name, hh k hk]
theorem Inv.at_ {h : Nat → OneV} {n k j : Nat} (hk : k < n) : Inv h n (tokAt k j) := fun h' hh => by rw [concE_at, concE_at, hh k hk]
theorem Inv.agg {h : Nat → OneV} {n : Nat} {cs : List Value} (hc : ∀ c ∈ cs, Inv h n c ∧ c.oneCell' = true) : Inv h n (.agg cs.toArray) := fun h' hh => by
  rw [concE_agg, concE_agg]
  congr 1
  rw [List.map_toArray, List.map_toArray]
  congr 1
  refine List.map_congr_left fun c hm => ?_
  rw [← concE_of_one (hc c hm).2, ← concE_of_one (hc c hm).2]
  exact (hc c hm).1 h' hh

def Ob.cells? : Ob → Option (List Value)
  | .row _ _ cells => some cells
  | .ro _ _ cells => some cells
  | .ptr cells => some cells
  | _ => none
/-- The cells of an object that has such. -/
def cellsAt (G : List Ob) (n : Nat) : Option (List Value) := (G[n]?).bind Ob.cells?
theorem cellsAt_lt {G : List Ob} {n : Nat} {cells : List Value} (h : cellsAt G n = some cells) : n < G.length := by
  unfold cellsAt at h
  cases hq : G[n]? with
  | none => simp [hq] at h
  | some o => exact (List.getElem?_eq_some_iff.1 hq).1
theorem cellsAt_append {G X : List Ob} {n : Nat} (h : n < G.length) : cellsAt (G ++ X) n = cellsAt G n := by
  unfold cellsAt; rw [List.getElem?_append_left h]
theorem cellsAt_spec {w : World} {h : Nat → OneV} {F : Foot} {G : List Ob} {f : Nat → Foot} {n : Nat} {cells : List Value} (hc : cellsAt G n = some cells) (H : Objs w h F G f) :
    ∃ b o, (∀ k, hatV (h n).val k = .pointer (some ⟨b, o + k, none⟩)) ∧ ∀ (j : Nat) c, cells[j]? = some c → CellN w h G.length b (o + j) c := by
  unfold cellsAt at hc
  cases hq : G[n]? with
  | none => simp [hq] at hc
  | some ob =>
    have H1 := H.ob n _ hq
    simp only [hq, Option.bind_some] at hc
    cases ob with
    | row s len cs =>
      cases hc
      obtain ⟨b, o, cap, h1, h2, h4, h5, h6, h7, h8, h9⟩ := H1
      exact ⟨b, o, fun k => by rw [h1]; rfl, h7⟩
    | ro s len cs =>
      cases hc
      obtain ⟨b, o, sp, cap, h1, h2, h3, h4, h5, h6⟩ := H1
      exact ⟨b, o, fun k => by rw [h1]; rfl, h5⟩
    | ptr cs =>
      cases hc
      obtain ⟨b, o, h1, h2, h3, h4⟩ := H1
      exact ⟨b, o, fun k => by rw [h1]; rfl, fun j c hj => (h3 j c hj).1⟩
    | _ => cases hc
/-- A slice's object, from which cell on, in names. -/
def SlIn (G : List Ob) (v : Value) (m k s len : Nat) : Prop := ∃ n, v = tok n ∧ ((∃ cs, (G[n]? = some (.row s len cs) ∨ G[n]? = some (.ro s len cs)) ∧ m = n ∧ k = 0) ∨ (G[n]? = some (.view m s k len) ∧ m < n))
/-- A slice in names: its elements' size, how many they are, their cells. -/
def Sl (G : List Ob) (v : Value) (s len : Nat) (cells : List Value) : Prop :=
  (v = .slice none 0 0 ∧ len = 0 ∧ cells = []) ∨ ∃ m k all, SlIn G v m k s len ∧ cellsAt G m = some all ∧ k + len * s ≤ all.length ∧ cells = (all.drop k).take (len * s)
theorem SlIn.append {G X : List Ob} {v : Value} {m k s len : Nat} (h : SlIn G v m k s len) : SlIn (G ++ X) v m k s len := by
  obtain ⟨n, rfl, h⟩ := h
  refine ⟨n, rfl, ?_⟩
  rcases h with ⟨cs, h, h'⟩ | h
  · refine .inl ⟨cs, ?_, h'⟩
    rcases h with h | h
    · rw [List.getElem?_append_left (List.getElem?_eq_some_iff.1 h).1]; exact .inl h
    · rw [List.getElem?_append_left (List.getElem?_eq_some_iff.1 h).1]; exact .inr h
  · rw [List.getElem?_append_left (List.getElem?_eq_some_iff.1 h.1).1]; exact .inr h
theorem Sl.append {G X : List Ob} {v : Value} {s len : Nat} {cells : List Value} (h : Sl G v s len cells) : Sl (G ++ X) v s len cells := by
  rcases h with h | ⟨m, k, all, h1, h2, h3, h4⟩
  · exact .inl h
  · exact .inr ⟨m, k, all, h1.append, by rw [cellsAt_append (cellsAt_lt h2)]; exact h2, h3, h4⟩
theorem SlIn.one {G : List Ob} {v : Value} {m k s len : Nat} (h : SlIn G v m k s len) : v.oneCell' = true := by obtain ⟨n, rfl, _⟩ := h; rfl
theorem Sl.one {G : List Ob} {v : Value} {s len : Nat} {cells : List Value} (h : Sl G v s len cells) : v.oneCell' = true := by
  rcases h with ⟨rfl, _⟩ | ⟨m, k, all, h1, _⟩
  · rfl
  · exact h1.one
theorem Sl.length {G : List Ob} {v : Value} {s len : Nat} {cells : List Value} (h : Sl G v s len cells) : cells.length = len * s := by
  rcases h with ⟨_, rfl, rfl⟩ | ⟨m, k, all, _, _, h3, rfl⟩
  · simp
  · simp; omega
theorem SlIn.val {w : World} {h : Nat → OneV} {F : Foot} {G : List Ob} {f : Nat → Foot} {v : Value} {m k s len : Nat} (hv : SlIn G v m k s len) (H : Objs w h F G f) :
    ∃ a cap, concE h v = .slice (some a) len cap ∧ len ≤ cap ∧ (0 < len * s → .pointer (some a) = hatV (h m).val k) ∧ Inv h G.length v := by
  obtain ⟨n, rfl, hv⟩ := hv
  rcases hv with ⟨cs, hv | hv, e, rfl⟩ | ⟨hv, _⟩
  · subst e
    obtain ⟨b, o, cap, h1, h2, h4, h5, h6, h7, h8, h9⟩ := H.ob m _ hv
    exact ⟨_, cap, by rw [concE_name, h1], h2, fun _ => by rw [h1]; rfl, Inv.name (List.getElem?_eq_some_iff.1 hv).1⟩
  · subst e
    obtain ⟨b, o, sp, cap, h1, h2, h3, h4, h5, h6⟩ := H.ob m _ hv
    refine ⟨_, cap, by rw [concE_name, h1], h2, fun hp => ?_, Inv.name (List.getElem?_eq_some_iff.1 hv).1⟩
    rw [h1, h4 (by omega)]
    rfl
  · obtain ⟨a, cap, h1, h2, h3, h4, h5⟩ := H.ob n _ hv
    exact ⟨a, cap, by rw [concE_name, h1], h2, h4, Inv.name (List.getElem?_eq_some_iff.1 hv).1⟩
/-- What a slice is, in a world. -/
theorem Sl.at_ {w : World} {h : Nat → OneV} {F : Foot} {G : List Ob} {f : Nat → Foot} {v : Value} {s len : Nat} {cells : List Value} (hv : Sl G v s len cells) (H : Objs w h F G f) :
    ∃ a cap, concE h v = .slice a len cap ∧ len ≤ cap ∧ (0 < cells.length → ∃ b o, a = some ⟨b, o, none⟩ ∧ ∀ (j : Nat) c, cells[j]? = some c → CellN w h G.length b (o + j) c) ∧ Inv h G.length v := by
  rcases hv with ⟨rfl, rfl, rfl⟩ | ⟨m, k, all, h1, h2, h3, rfl⟩
  · exact ⟨none, 0, rfl, Nat.le_refl _, fun h => by simp at h, Inv.of_const fun _ => rfl⟩
  · obtain ⟨a, cap, g1, g2, g3, g4⟩ := h1.val H
    refine ⟨some a, cap, g1, g2, fun hp => ?_, g4⟩
    have hl : 0 < len * s := by simp at hp; omega
    obtain ⟨b, o, q1, q2⟩ := cellsAt_spec h2 H
    have := g3 hl
    rw [q1] at this
    cases this
    refine ⟨b, o + k, rfl, fun j c hj => ?_⟩
    simp only [List.getElem?_take, List.getElem?_drop] at hj
    split at hj
    · rw [Nat.add_assoc]; exact q2 _ _ hj
    · cases hj
theorem SlIn.loc {G X : List Ob} {v : Value} {m k s len : Nat} (hd : ∀ n, v = tok n → n < G.length) : SlIn G v m k s len ↔ SlIn (G ++ X) v m k s len := by
  refine ⟨SlIn.append, fun ⟨n, hv, h⟩ => ⟨n, hv, ?_⟩⟩
  rwa [List.getElem?_append_left (hd n hv)] at h
theorem Sl.loc {G X : List Ob} {v : Value} {s len : Nat} {cells : List Value} (hd : ∀ n, v = tok n → n < G.length) : Sl G v s len cells ↔ Sl (G ++ X) v s len cells := by
  refine ⟨Sl.append, fun hs => ?_⟩
  rcases hs with hs | ⟨m, k, all, h1, h2, h3, h4⟩
  · exact .inl hs
  · have h1' := (SlIn.loc hd).2 h1
    refine .inr ⟨m, k, all, h1', ?_, h3, h4⟩
    have hm : m < G.length := by
      obtain ⟨n, rfl, hn⟩ := h1'
      have := hd n rfl
      rcases hn with ⟨cs, _, rfl, _⟩ | ⟨_, hn⟩
      · exact this
      · omega
    rwa [cellsAt_append hm] at h2
end Sx
end Go.Proofs.Yteklnfajpignoaa
