/- What is proved: plain laws on stores of objects: rows of cells, rows that are only read, parts of them, structs behind pointers, maps; no program in sight; contracts of the operations on objects that ask alone: the length of a slice, the place of an element, what lies at a place; no program in sight; contracts of the operations on objects that ask alone: the length of a slice, the place of an element, what lies at a place; no program in sight. No condition but those each law names. -/
import Derived.Test.YtaigdbnfhehclaaSyM
import Derived.MapKept
namespace Go.Proofs.Ytaigdbnfhehclaa
namespace Sx
open Go.RowKit

/-- An object: none; a slice's elements, of so many cells each; such that are only read; a part of another, from a cell on; a struct behind a pointer; a map. -/
inductive Ob where
  | dead
  | row (s len : Nat) (cells : List Value)
  | ro (s len : Nat) (cells : List Value)
  | view (m s k len : Nat)
  | ptr (cells : List Value)
  | map (l : List (Value × Value))
  | fn (id : Nat) (cells : List Value)
def Ob.enc : Ob → Value
  | .dead => .nilFunc
  | .row s len cells => .iface 1 (.tuple #[.int .i64 s, .int .i64 len, .tuple cells.toArray])
  | .ro s len cells => .iface 2 (.tuple #[.int .i64 s, .int .i64 len, .tuple cells.toArray])
  | .view m s k len => .iface 3 (.tuple #[.int .i64 m, .int .i64 s, .int .i64 k, .int .i64 len])
  | .ptr cells => .iface 4 (.tuple cells.toArray)
  | .map l => .iface 5 (.tuple (l.map fun p => Value.tuple #[p.1, p.2]).toArray)
  | .fn id cells => .iface 6 (.tuple #[.int .i64 id, .tuple cells.toArray])
def Ob.decP : Value → Value × Value
  | .tuple a => (a.getD 0 undef, a.getD 1 undef)
  | _ => (undef, undef)
def Ob.dec : Value → Ob
  | .iface 1 (.tuple ⟨[.int _ s, .int _ len, .tuple cells]⟩) => .row s.toNat len.toNat cells.toList
  | .iface 2 (.tuple ⟨[.int _ s, .int _ len, .tuple cells]⟩) => .ro s.toNat len.toNat cells.toList
  | .iface 3 (.tuple ⟨[.int _ m, .int _ s, .int _ k, .int _ len]⟩) => .view m.toNat s.toNat k.toNat len.toNat
  | .iface 4 (.tuple cells) => .ptr cells.toList
  | .iface 5 (.tuple a) => .map (a.toList.map Ob.decP)
  | .iface 6 (.tuple ⟨[.int _ id, .tuple cells]⟩) => .fn id.toNat cells.toList
  | _ => .dead
theorem Ob.dec_enc (o : Ob) : Ob.dec o.enc = o := by
  cases o with
  | dead => rfl
  | row s len cells => simp [Ob.enc, Ob.dec]
  | ro s len cells => simp [Ob.enc, Ob.dec]
  | view m s k len => simp [Ob.enc, Ob.dec]
  | ptr cells => simp [Ob.enc, Ob.dec]
  | fn id cells => simp [Ob.enc, Ob.dec]
  | map l =>
    simp only [Ob.enc, Ob.dec, List.map_map, Ob.map.injEq]
    exact (List.map_congr_left fun p _ => rfl).trans (List.map_id _)
/-- A store, as a value. -/
def encG (G : List Ob) : Value := .iface 0 (.tuple (G.map Ob.enc).toArray)
def decG : Value → List Ob
  | .iface _ (.tuple a) => a.toList.map Ob.dec
  | _ => []
theorem decG_enc (G : List Ob) : decG (encG G) = G := by
  simp only [encG, decG, List.map_map]
  exact (List.map_congr_left fun o _ => Ob.dec_enc o).trans (List.map_id _)
theorem encG_inj {G G' : List Ob} (h : encG G = encG G') : G = G' := by rw [← decG_enc G, ← decG_enc G', h]
theorem noTup_enc (G : List Ob) : noTup (encG G) = encG G := rfl

/-- A value in names asks for no object from n on. -/
def Inv (h : Nat → OneV) (n : Nat) (v : Value) : Prop := ∀ h' : Nat → OneV, (∀ k, k < n → h' k = h k) → concE h' v = concE h v
theorem Inv.same {h h' : Nat → OneV} {n : Nat} {v : Value} (hv : Inv h n v) (hh : ∀ k, k < n → h' k = h k) : Inv h' n v := fun h'' h2 => (hv h'' fun k hk => (h2 k hk).trans (hh k hk)).trans (hv h' hh).symm
theorem Inv.mono {h : Nat → OneV} {n m : Nat} {v : Value} (hv : Inv h n v) (hm : n ≤ m) : Inv h m v := fun h' hh => hv h' fun k hk => hh k (Nat.lt_of_lt_of_le hk hm)
theorem Inv.lt {h : Nat → OneV} {n k : Nat} (hv : Inv h n (tok k)) : k < n := by
  apply Classical.byContradiction
  intro hc
  have h1 := hv (fun j => if j = k then ⟨.bool (!((h k).val matches .bool true)), rfl⟩ else h j) (fun j hj => by rw [if_neg (by omega)])
  have e1 : concE h (tok k) = (h k).val := rfl
  have e2 : ∀ g : Nat → OneV, concE g (tok k) = (g k).val := fun _ => rfl
  rw [e1, e2, if_pos rfl] at h1
  simp only at h1
  rw [← h1] at h1
  split at h1 <;> simp_all
/-- A cell, in names. -/
structure CellN (w : World) (h : Nat → OneV) (n b x : Nat) (c : Value) : Prop where
  cell : w.cell? ⟨b, x, none⟩ = some (concE h c)
  one : c.oneCell' = true
  inv : Inv h n c
theorem concE_of_one {h : Nat → OneV} {v : Value} (hv : v.oneCell' = true) : concE h v = concC h v := by
  cases v <;> first | rfl | cases hv
theorem concE_one {h : Nat → OneV} {v : Value} (hv : v.oneCell' = true) : (concE h v).oneCell' = true := by rw [concE_of_one hv]; exact concC_one hv
theorem CellN.same {w : World} {h h' : Nat → OneV} {n b x : Nat} {c : Value} (H : CellN w h n b x c) (hh : ∀ k, k < n → h' k = h k) : CellN w h' n b x c := ⟨by rw [H.inv h' hh]; exact H.cell, H.one, H.inv.same hh⟩
theorem CellN.mono {w : World} {h : Nat → OneV} {n m b x : Nat} {c : Value} (H : CellN w h n b x c) (hm : n ≤ m) : CellN w h m b x c := ⟨H.cell, H.one, H.inv.mono hm⟩
theorem CellN.keep {w w' : World} {h : Nat → OneV} {n b x : Nat} {c : Value} (H : CellN w h n b x c) (e : w'.cell? ⟨b, x, none⟩ = w.cell? ⟨b, x, none⟩) : CellN w' h n b x c := ⟨e.trans H.cell, H.one, H.inv⟩

/-- A block of so many cells, none of which is frozen. -/
def Tail (w : World) (b n : Nat) : Prop := ((∃ e, w.shape? b = some (e, n)) ∧ Sane w b) ∧ ∀ x, x < n → w.frozen? ⟨b, x, none⟩ = false
theorem shape_lt {w : World} {b n : Nat} {e : TypeId} (h : w.shape? b = some (e, n)) : b < w.heap.size := by
  unfold World.shape? at h
  cases hq : w.heap[b]? with
  | none => simp [hq] at h
  | some o => exact (Array.getElem?_eq_some_iff.1 hq).1
theorem Tail.keep {w w' : World} {b n : Nat} {S : Foot} (H : Tail w b n) (hS : Fr S w w') : Tail w' b n := by
  obtain ⟨⟨⟨e, h1⟩, h3⟩, h2⟩ := H
  refine ⟨⟨⟨e, (hS.shape b (shape_lt h1)).trans h1⟩, hS.sane b (shape_lt h1) h3⟩, fun x hx => ?_⟩
  rw [hS.frozen b x (cell_there.2 ⟨e, n, h1, hx⟩)]
  exact h2 x hx
/-- A map's entries, whatever their order. -/
def MapIs (es l : List (Value × Value)) : Prop := es.Perm l ∧ (l.map (·.1)).Nodup
/-- What an object is, in a world. -/
def HoldsOb (w : World) (h : Nat → OneV) (n : Nat) (v : Value) (f : Foot) : Ob → Prop
  | .dead => ∀ i x, ¬ f i x
  | .row s len cells => ∃ b o cap, v = .slice (some ⟨b, o, none⟩) len cap ∧ len ≤ cap ∧ cap ≤ maxLen ∧ cells.length = len * s ∧ (∀ j, j < cap * s → (∃ u, w.cell? ⟨b, o + j, none⟩ = some u ∧ u.oneCell' = true) ∧ w.frozen? ⟨b, o + j, none⟩ = false) ∧
      (∀ (j : Nat) c, cells[j]? = some c → CellN w h n b (o + j) c) ∧ (∀ i x, f i x ↔ i = b ∧ o ≤ x) ∧ Tail w b (o + cap * s)
  | .ro s len cells => ∃ b o sp cap, v = .slice (some ⟨b, o, sp⟩) len cap ∧ len ≤ cap ∧ cells.length = len * s ∧ (0 < cells.length → sp = none) ∧
      (∀ (j : Nat) c, cells[j]? = some c → CellN w h n b (o + j) c) ∧ ∀ i x, f i x ↔ i = b ∧ o ≤ x ∧ x < o + cells.length
  | .view m s k len => ∃ a cap, v = .slice (some a) len cap ∧ len ≤ cap ∧ m < n ∧ (0 < len * s → .pointer (some a) = hatV (h m).val k) ∧ ∀ i x, ¬ f i x
  | .ptr cells => ∃ b o, v = .pointer (some ⟨b, o, none⟩) ∧ 0 < cells.length ∧
      (∀ (j : Nat) c, cells[j]? = some c → CellN w h n b (o + j) c ∧ w.frozen? ⟨b, o + j, none⟩ = false) ∧ ∀ i x, f i x ↔ i = b ∧ o ≤ x ∧ x < o + cells.length
  | .map l => ∃ r es clock, v = .map (some r) ∧ w.heap[r]? = some (.map es clock) ∧ (MapIs (es.toList.map (fun e => (e.key, e.val))) (l.map (fun p => (p.1, concE h p.2))) ∧ MapKept.Stamped es clock) ∧ (∀ p ∈ l, Inv h n p.2) ∧ ∀ i x, f i x ↔ i = r
  | .fn id cells => ∃ b, v = .func (.func id) #[] #[.pointer (some ⟨b, 0, none⟩)] ∧ 0 < cells.length ∧
      (∀ (j : Nat) c, cells[j]? = some c → CellN w h n b j c ∧ w.frozen? ⟨b, j, none⟩ = false) ∧ ∀ i x, f i x ↔ i = b ∧ x < cells.length
theorem HoldsOb.keep {w w' : World} {h : Nat → OneV} {n : Nat} {v : Value} {f S : Foot} {o : Ob} (H : HoldsOb w h n v f o) (hS : Fr S w w') (hd : ∀ i x, f i x → ¬ S i x) (hlt : ∀ i x, f i x → i < w.heap.size) : HoldsOb w' h n v f o := by
  cases o with
  | dead => exact H
  | row s len cells =>
    obtain ⟨b, o, cap, h1, h2, h4, h5, h6, h7, h8, h9⟩ := H
    have hin : ∀ j, j < cap * s → f b (o + j) := fun j hj => (h8 _ _).2 ⟨rfl, by omega⟩
    have hc : ∀ j, j < cap * s → w'.cell? ⟨b, o + j, none⟩ = w.cell? ⟨b, o + j, none⟩ := fun j hj => hS.cell _ _ (hlt _ _ (hin j hj)) (hd _ _ (hin j hj))
    have hle : len * s ≤ cap * s := Nat.mul_le_mul_right _ h2
    refine ⟨b, o, cap, h1, h2, h4, h5, fun j hj => ?_, fun j c hj => ?_, h8, h9.keep hS⟩
    · rw [hc j hj, hS.frozen _ _ (by obtain ⟨⟨u, hu, _⟩, _⟩ := h6 j hj; rw [hu]; rfl)]
      exact h6 j hj
    · have := (List.getElem?_eq_some_iff.1 hj).1
      exact (h7 j c hj).keep (hc j (by omega))
  | ro s len cells =>
    obtain ⟨b, o, sp, cap, h1, h2, h3, h4, h5, h6⟩ := H
    refine ⟨b, o, sp, cap, h1, h2, h3, h4, fun j c hj => ?_, h6⟩
    have hl := (List.getElem?_eq_some_iff.1 hj).1
    have hin : f b (o + j) := (h6 _ _).2 ⟨rfl, by omega, by omega⟩
    exact (h5 j c hj).keep (hS.cell _ _ (hlt _ _ hin) (hd _ _ hin))
  | view m s k len => exact H
  | ptr cells =>
    obtain ⟨b, o, h1, h2, h3, h4⟩ := H
    refine ⟨b, o, h1, h2, fun j c hj => ?_, h4⟩
    have := (List.getElem?_eq_some_iff.1 hj).1
    have hin : f b (o + j) := (h4 _ _).2 ⟨rfl, by omega, by omega⟩
    rw [hS.frozen _ _ (by rw [(h3 j c hj).1.cell]; rfl)]
    exact ⟨(h3 j c hj).1.keep (hS.cell _ _ (hlt _ _ hin) (hd _ _ hin)), (h3 j c hj).2⟩
  | map l =>
    obtain ⟨r, es, clock, h1, h2, h3, h4, h5⟩ := H
    refine ⟨r, es, clock, h1, ?_, h3, h4, h5⟩
    rw [hS.block r (hlt r 0 ((h5 _ _).2 rfl)) fun o => hd r o ((h5 _ _).2 rfl)]
    exact h2
  | fn id cells =>
    obtain ⟨b, h1, h2, h3, h4⟩ := H
    refine ⟨b, h1, h2, fun j c hj => ?_, h4⟩
    have := (List.getElem?_eq_some_iff.1 hj).1
    have hin : f b j := (h4 _ _).2 ⟨rfl, by omega⟩
    rw [hS.frozen _ _ (by rw [(h3 j c hj).1.cell]; rfl)]
    exact ⟨(h3 j c hj).1.keep (hS.cell _ _ (hlt _ _ hin) (hd _ _ hin)), (h3 j c hj).2⟩
theorem cell_some_lt {w : World} {p : Addr} {v : Value} (h : w.cell? p = some v) : p.block < w.heap.size := by
  unfold World.cell? at h
  cases hq : w.heap[p.block]? with
  | none => simp [hq] at h
  | some o => exact (Array.getElem?_eq_some_iff.1 hq).1
theorem HoldsOb.below {w : World} {h : Nat → OneV} {n : Nat} {v : Value} {f : Foot} {o : Ob} (H : HoldsOb w h n v f o) {i x : Nat} (hf : f i x) : i < w.heap.size := by
  cases o with
  | dead => exact absurd hf (H i x)
  | row s len cells =>
    obtain ⟨b, o, cap, h1, h2, h4, h5, h6, h7, h8, h9⟩ := H
    obtain ⟨rfl, _⟩ := (h8 _ _).1 hf
    obtain ⟨⟨⟨e, h10⟩, _⟩, _⟩ := h9
    exact shape_lt h10
  | ro s len cells =>
    obtain ⟨b, o, sp, cap, h1, h2, h3, h4, h5, h6⟩ := H
    obtain ⟨rfl, q2, q3⟩ := (h6 _ _).1 hf
    exact cell_some_lt (h5 (x - o) _ (List.getElem?_eq_getElem (by omega))).cell
  | view m s k len => obtain ⟨_, _, _, _, _, _, h5⟩ := H; exact absurd hf (h5 i x)
  | ptr cells =>
    obtain ⟨b, o, h1, h2, h3, h4⟩ := H
    obtain ⟨rfl, q2, q3⟩ := (h4 _ _).1 hf
    exact cell_some_lt (h3 (x - o) _ (List.getElem?_eq_getElem (by omega))).1.cell
  | map l =>
    obtain ⟨r, es, clock, h1, h2, h3, h4, h5⟩ := H
    have := (h5 _ _).1 hf
    subst this
    exact (Array.getElem?_eq_some_iff.1 h2).1
  | fn id cells =>
    obtain ⟨b, h1, h2, h3, h4⟩ := H
    obtain ⟨rfl, q2⟩ := (h4 _ _).1 hf
    exact cell_some_lt (h3 x _ (List.getElem?_eq_getElem (by omega))).1.cell
theorem HoldsOb.same {w : World} {h h' : Nat → OneV} {n : Nat} {v : Value} {f : Foot} {o : Ob} (H : HoldsOb w h n v f o) (hh : ∀ k, k < n → h' k = h k) : HoldsOb w h' n v f o := by
  cases o with
  | dead => exact H
  | row s len cells =>
    obtain ⟨b, o, cap, h1, h2, h4, h5, h6, h7, h8, h9⟩ := H
    exact ⟨b, o, cap, h1, h2, h4, h5, h6, fun j c hj => (h7 j c hj).same hh, h8, h9⟩
  | ro s len cells =>
    obtain ⟨b, o, sp, cap, h1, h2, h3, h4, h5, h6⟩ := H
    exact ⟨b, o, sp, cap, h1, h2, h3, h4, fun j c hj => (h5 j c hj).same hh, h6⟩
  | view m s k len =>
    obtain ⟨a, cap, h1, h2, h3, h4, h5⟩ := H
    exact ⟨a, cap, h1, h2, h3, fun hp => by rw [hh m h3]; exact h4 hp, h5⟩
  | ptr cells =>
    obtain ⟨b, o, h1, h2, h3, h4⟩ := H
    exact ⟨b, o, h1, h2, fun j c hj => ⟨(h3 j c hj).1.same hh, (h3 j c hj).2⟩, h4⟩
  | map l =>
    obtain ⟨r, es, clock, h1, h2, h3, h4, h5⟩ := H
    refine ⟨r, es, clock, h1, h2, ⟨?_, h3.2⟩, fun p hp => (h4 p hp).same hh, h5⟩
    rw [show l.map (fun p => (p.1, concE h' p.2)) = l.map (fun p => (p.1, concE h p.2)) from List.map_congr_left fun p hp => by rw [h4 p hp h' hh]]
    exact h3.1
  | fn id cells =>
    obtain ⟨b, h1, h2, h3, h4⟩ := H
    exact ⟨b, h1, h2, fun j c hj => ⟨(h3 j c hj).1.same hh, (h3 j c hj).2⟩, h4⟩
theorem HoldsOb.mono {w : World} {h : Nat → OneV} {n m : Nat} {v : Value} {f : Foot} {o : Ob} (H : HoldsOb w h n v f o) (hm : n ≤ m) : HoldsOb w h m v f o := by
  cases o with
  | dead => exact H
  | row s len cells =>
    obtain ⟨b, o, cap, h1, h2, h4, h5, h6, h7, h8, h9⟩ := H
    exact ⟨b, o, cap, h1, h2, h4, h5, h6, fun j c hj => (h7 j c hj).mono hm, h8, h9⟩
  | ro s len cells =>
    obtain ⟨b, o, sp, cap, h1, h2, h3, h4, h5, h6⟩ := H
    exact ⟨b, o, sp, cap, h1, h2, h3, h4, fun j c hj => (h5 j c hj).mono hm, h6⟩
  | view k s j len =>
    obtain ⟨a, cap, h1, h2, h3, h4, h5⟩ := H
    exact ⟨a, cap, h1, h2, Nat.lt_of_lt_of_le h3 hm, h4, h5⟩
  | ptr cells =>
    obtain ⟨b, o, h1, h2, h3, h4⟩ := H
    exact ⟨b, o, h1, h2, fun j c hj => ⟨(h3 j c hj).1.mono hm, (h3 j c hj).2⟩, h4⟩
  | map l =>
    obtain ⟨r, es, clock, h1, h2, h3, h4, h5⟩ := H
    exact ⟨r, es, clock, h1, h2, h3, fun p hp => (h4 p hp).mono hm, h5⟩
  | fn id cells =>
    obtain ⟨b, h1, h2, h3, h4⟩ := H
    exact ⟨b, h1, h2, fun j c hj => ⟨(h3 j c hj).1.mono hm, (h3 j c hj).2⟩, h4⟩
def Ob.shared : Ob → Bool
  | .ro _ _ _ => true
  | _ => false
/-- What a store is, in a world. -/
structure Objs (w : World) (h : Nat → OneV) (F : Foot) (G : List Ob) (f : Nat → Foot) : Prop where
  ob : ∀ (i : Nat) o, G[i]? = some o → HoldsOb w h G.length (h i).val (f i) o
  apart : ∀ (i j : Nat) o p, G[i]? = some o → G[j]? = some p → i ≠ j → (o.shared && p.shared) = false → ∀ b x, f i b x → ¬ f j b x
  foot : ∀ b x, F b x ↔ ∃ i, i < G.length ∧ f i b x
def cntG : Value → Nat
  | .iface _ (.tuple a) => a.size
  | _ => 0
theorem cntG_enc (G : List Ob) : cntG (encG G) = G.length := by simp [encG, cntG]
/-- Those that stay as they are for ever. -/
def Ob.fixed : Ob → Bool
  | .ro _ _ _ => true
  | .view _ _ _ _ => true
  | _ => false
/-- How a store grows: 1: by new objects alone; 2: those that are only read stay; else: none goes. -/
def extG (k : Nat) (G G' : List Ob) : Prop :=
  if k = 1 then ∃ X, G' = G ++ X
  else if k = 2 then G.length ≤ G'.length ∧ ∀ (n : Nat) o, G[n]? = some o → o.fixed = true → G'[n]? = some o
  else G.length ≤ G'.length
theorem extG_mono {k m : Nat} {G G' : List Ob} (h0 : k ≠ 0) (hk : k ≤ m) (h : extG k G G') : extG m G G' := by
  unfold extG at *
  by_cases e1 : m = 1
  · rw [if_pos e1]; rw [if_pos (by omega)] at h; exact h
  · rw [if_neg e1]
    by_cases e2 : m = 2
    · rw [if_pos e2]
      split at h
      · obtain ⟨X, rfl⟩ := h
        refine ⟨by simp, fun n o ho _ => ?_⟩
        rw [List.getElem?_append_left (List.getElem?_eq_some_iff.1 ho).1]
        exact ho
      · split at h
        · exact h
        · omega
    · rw [if_neg e2]
      split at h
      · obtain ⟨X, rfl⟩ := h; simp
      · split at h
        · exact h.1
        · exact h
instance kindsS : Kinds where
  holds w h F g := ∃ G f, g = encG G ∧ Objs w h F G f
  cnt := cntG
  keep := by
    rintro w w' h F S g ⟨G, f, rfl, H⟩ hS hd
    have hsub : ∀ i, i < G.length → ∀ b x, f i b x → F b x := fun i hi b x hf => (H.foot b x).2 ⟨i, hi, hf⟩
    refine ⟨G, f, rfl, fun i o ho => ?_, H.apart, H.foot⟩
    have hi := (List.getElem?_eq_some_iff.1 ho).1
    exact (H.ob i o ho).keep hS (fun b x hf => hd b x (hsub i hi b x hf)) (fun b x hf => (H.ob i o ho).below hf)
  below := by
    rintro w h F g i x ⟨G, f, rfl, H⟩ hF
    obtain ⟨k, hk, hf⟩ := (H.foot i x).1 hF
    exact (H.ob k _ (List.getElem?_eq_getElem hk)).below hf
  same := by
    rintro w h h' F g ⟨G, f, rfl, H⟩ hh
    rw [cntG_enc] at hh
    refine ⟨G, f, rfl, fun i o ho => ?_, H.apart, H.foot⟩
    rw [hh i (List.getElem?_eq_some_iff.1 ho).1]
    exact (H.ob i o ho).same hh
  ext k g g' := ∃ G G', g = encG G ∧ g' = encG G' ∧ extG k G G'
  ext_mono := by
    rintro k m g g' h0 hk ⟨G, G', rfl, rfl, h⟩
    exact ⟨G, G', rfl, rfl, extG_mono h0 hk h⟩
  none := encG []
  none_cnt := cntG_enc []
  none_holds w h := ⟨[], fun _ _ _ => False, rfl, fun i o ho => by simp at ho, fun i j _ _ hi => by simp at hi, fun b x => ⟨fun h => h.elim, fun ⟨_, _, h⟩ => h⟩⟩
theorem ext_enc {k : Nat} {G G' : List Ob} (h : extG k G G') : Kinds.ext k (encG G) (encG G') := ⟨G, G', rfl, rfl, h⟩
theorem objs_of {w : World} {h : Nat → OneV} {F : Foot} {G : List Ob} (hk : Kinds.holds w h F (encG G)) : ∃ f, Objs w h F G f := by
  obtain ⟨G', f, h1, h2⟩ := hk
  obtain rfl := encG_inj h1
  exact ⟨f, h2⟩
theorem NoDang.lt {G : List Ob} {vs : List Value} {n : Nat} (h : NoDang (encG G) vs) (hn : tok n ∈ vs) : n < G.length := by
  obtain ⟨h0, hh⟩ := h
  refine Inv.lt (h := h0) fun h' h1 => ?_
  have := hh h' fun n hn => h1 n (by have e : Kinds.cnt (encG G) = G.length := cntG_enc G; rw [← e]; exact hn)
  exact List.map_inj_left.1 this _ hn
theorem Inv.lt_at {h : Nat → OneV} {n k j : Nat} (hv : Inv h n (tokAt k j)) : k < n := by
  apply Classical.byContradiction
  intro hc
  have h1 : ∀ b : Nat, concE (fun i => if i = k then ⟨.pointer (some ⟨b, 0, none⟩), rfl⟩ else h i) (tokAt k j) = concE h (tokAt k j) := fun b => hv _ fun i hi => by rw [if_neg (by omega)]
  have h2 := (h1 0).trans (h1 1).symm
  rw [concE_at, concE_at, if_pos rfl, if_pos rfl] at h2
  simp [hatV] at h2
theorem NoDang.lt_at {G : List Ob} {vs : List Value} {n k : Nat} (h : NoDang (encG G) vs) (hn : tokAt n k ∈ vs) : n < G.length := by
  obtain ⟨h0, hh⟩ := h
  refine Inv.lt_at (h := h0) (j := k) fun h' h1 => ?_
  have := hh h' fun n hn => h1 n (by have e : Kinds.cnt (encG G) = G.length := cntG_enc G; rw [← e]; exact hn)
  exact List.map_inj_left.1 this _ hn
end Sx
end Go.Proofs.Ytaigdbnfhehclaa

namespace Go.Proofs.Ytaigdbnfhehclaa
namespace Sx
open Go.RowKit

theorem cnt_enc (G : List Ob) : Kinds.cnt (encG G) = G.length := cntG_enc G
theorem store_last {vs : List Value} {g g' : Value} (l : List Value) (h : vs ++ [g] = l ++ [g']) : vs = l ∧ g = g' := by
  obtain ⟨h1, h2⟩ := List.append_inj' h rfl
  exact ⟨h1, by simpa using h2⟩
/-- A relation on a store, values, and an answer. -/
def conR (R : List Ob → List Value → Env → Prop) : ConS := fun vs e => ∃ G l, vs = l ++ [encG G] ∧ R G l e
theorem conR_iff {R : List Ob → List Value → Env → Prop} {G : List Ob} {l : List Value} {e : Env} : conR R (l ++ [encG G]) e ↔ R G l e := by
  constructor
  · rintro ⟨G', l', h, hr⟩
    obtain ⟨rfl, h2⟩ := store_last l' h
    rw [encG_inj h2]
    exact hr
  · exact fun h => ⟨G, l, rfl, h⟩
/-- A contract that only asks. -/
theorem read_holds {P : Program} {fn : FuncId} {r : E} {rd : Nat} {R : List Ob → List Value → Env → Prop} (hr : (r.noPtr && r.lt stride) = true) (hp : primBase ≤ fn)
    (hloc : ∀ G G' l e, rd ≠ 0 → extG rd G G' → NoDang (encG G) l → (R G l e ↔ R G' l e))
    (hrun : ∀ (o : Oper), primKey o.op = some fn → ∀ (a : Act) (w : World) (h : Nat → OneV) (F : Foot) (G : List Ob) (f : Nat → Foot) (l : List Value) (e : Env), (∀ h' : Nat → OneV, (∀ n, n < G.length → h' n = h n) → o.op.operands.toList.map a.eval = l.map (concE h')) →
      Objs w h F G f → R G l e → ∃ v, (execOp a.eval o).run P w = .ok (.value (concE h v)) w ∧ Inv h G.length v ∧ r.nam e lay0 = v) :
    (⟨fn, [], fun b => r.shift b, 1, rd, 0⟩ : Con).holds P (conR R) := by
  rw [Bool.and_eq_true] at hr
  refine ⟨⟨fun hq => absurd hq (Nat.not_lt.2 hp), fun _ => ?_⟩, fun h0 => ⟨rfl, ?_⟩, fun h0 => absurd rfl h0⟩
  · rintro o hkey a w vs e0 h F g hargs hk ⟨G, l, hvs, hR⟩
    obtain ⟨rfl, rfl⟩ := store_last l hvs
    obtain ⟨f, H⟩ := objs_of hk
    obtain ⟨v, h1, h2, h3⟩ := hrun o hkey a w h F G f vs e0 (fun h' hh => hargs h' fun n hn => hh n (by rwa [cnt_enc] at hn)) H hR
    refine ⟨_, w, h1, h, F, ⟨Fr.refl _ _, rfl⟩, fun ρ base hat ι hA => .inl ?_⟩
    have e1 := E.shift_val hat (ι := ι) (ι' := ι) rfl r hr.2 (E.ptr_adr hr.1)
    show Next.value _ = Next.value ((r.shift base).val ρ ι)
    rw [e1, E.val_conc e0 ι lay0 hr.1, h3]
    rw [h2 ι.h fun n hn => hA n (by simpa [cnt_enc] using hn)]
  · intro vs g g' e hx hd
    obtain ⟨G, G', rfl, rfl, hext⟩ := hx
    rw [conR_iff, conR_iff]
    exact hloc G G' vs e h0 hext hd
/-- A contract that turns the store. -/
theorem turn_holds {P : Program} {fn : FuncId} {r : E} {wr : Nat} {R : List Ob → List Value → Env → Prop} (hr : (r.noPtr && r.lt stride) = true) (hp : primBase ≤ fn)
    (hwr : ∀ G l e, wr ≠ 0 → R G l e → ∃ G', e.g gv = encG G' ∧ extG wr G G')
    (hrun : ∀ (o : Oper), primKey o.op = some fn → ∀ (a : Act) (w : World) (h : Nat → OneV) (F : Foot) (G : List Ob) (f : Nat → Foot) (l : List Value) (e : Env), (∀ h' : Nat → OneV, (∀ n, n < G.length → h' n = h n) → o.op.operands.toList.map a.eval = l.map (concE h')) →
      Objs w h F G f → R G l e → ∃ x w' h' F' f' G', (execOp a.eval o).run P w = .ok x w' ∧ e.g gv = encG G' ∧ ((∃ v, x = .value (concE h' v) ∧ r.nam e lay0 = v ∧ Inv h' G'.length v) ∨ (x = .skip ∧ r = .lit undef)) ∧
        Fr F w w' ∧ Objs w' h' F' G' f' ∧ (∀ i x, F' i x → F i x ∨ w.heap.size ≤ i) ∧ G.length ≤ G'.length ∧ ∀ n, n < G.length → h' n = h n) :
    (⟨fn, [], fun b => r.shift b, 2, 0, wr⟩ : Con).holds P (conR R) := by
  rw [Bool.and_eq_true] at hr
  refine ⟨⟨fun hq => absurd hq (Nat.not_lt.2 hp), fun _ => ?_⟩, fun h0 => absurd rfl h0, fun h0 => ?_⟩
  · rintro o hkey a w vs e0 h F g hargs hk ⟨G, l, hvs, hR⟩
    obtain ⟨rfl, rfl⟩ := store_last l hvs
    obtain ⟨f, H⟩ := objs_of hk
    obtain ⟨x, w', h', F', f', G', h1, h2, h3, h4, h5, h6, h7, h8⟩ := hrun o hkey a w h F G f vs e0 (fun h' hh => hargs h' fun n hn => hh n (by rwa [cnt_enc] at hn)) H hR
    refine ⟨x, w', h1, h', F', ?_, fun ρ base hat ι hA => ?_⟩
    · rw [h2]
      exact ⟨h4.mono fun _ _ _ hx => .inr hx, ⟨G', f', rfl, h5⟩, h6, by rw [cnt_enc, cnt_enc]; exact h7, fun n hn => h8 n (by rwa [cnt_enc] at hn)⟩
    · rcases h3 with ⟨v, rfl, h9, h10⟩ | ⟨rfl, rfl⟩
      · left
        have e1 := E.shift_val hat (ι := ι) (ι' := ι) rfl r hr.2 (E.ptr_adr hr.1)
        show Next.value _ = Next.value ((r.shift base).val ρ ι)
        rw [e1, E.val_conc e0 ι lay0 hr.1, h9]
        rw [h10 ι.h fun n hn => hA n (by rw [h2]; simpa [cnt_enc] using hn)]
      · exact .inr ⟨rfl, rfl⟩
  · intro vs g e ⟨G, l, hvs, hR⟩
    obtain ⟨rfl, rfl⟩ := store_last l hvs
    obtain ⟨G', h1, h2⟩ := hwr G vs e h0 hR
    rw [h1]
    exact ext_enc h2

theorem concE_name (h : Nat → OneV) (n : Nat) : concE h (tok n) = (h n).val := rfl
theorem concE_nil (h : Nat → OneV) : concE h (.slice none 0 0) = .slice none 0 0 := rfl
theorem concE_int (h : Nat → OneV) (k : IntKind) (n : Int) : concE h (.int k n) = .int k n := rfl
theorem concE_bool (h : Nat → OneV) (b : Bool) : concE h (.bool b) = .bool b := rfl
theorem concE_agg (h : Nat → OneV) (cs : Array Value) : concE h (.agg cs) = .agg (cs.map (concC h)) := rfl
theorem Inv.of_const {h : Nat → OneV} {n : Nat} {v : Value} (hv : ∀ h' : Nat → OneV, concE h' v = v) : Inv h n v := fun h' _ => (hv h').trans (hv h).symm
theorem Inv.name {h : Nat → OneV} {n k : Nat} (hk : k < n) : Inv h n (tok k) := fun h' hh => by rw [concE_name, concE_name, hh k hk]
theorem Inv.at_ {h : Nat → OneV} {n k j : Nat} (hk : k < n) : Inv h n (tokAt k j) := fun h' hh => by rw [concE_at, concE_at, hh k hk]
theorem Inv.agg {h : Nat → OneV} {n : Nat} {cs : List Value} (hc : ∀ c ∈ cs, Inv h n c ∧ c.oneCell' = true) : Inv h n (.agg cs.toArray) := fun h' hh => by
  rw [concE_agg, concE_agg]
  congr 1
  rw [List.map_toArray, List.map_toArray]
  congr 1
  refine List.map_congr_left fun c hm => ?_
  rw [← concE_of_one (hc c hm).2, ← concE_of_one (hc c hm).2]
  exact (hc c hm).1 h' hh

def Ob.cells? : Ob → Option (List Value)
  | .row _ _ cells => some cells
  | .ro _ _ cells => some cells
  | .ptr cells => some cells
  | _ => none
/-- The cells of an object that has such. -/
def cellsAt (G : List Ob) (n : Nat) : Option (List Value) := (G[n]?).bind Ob.cells?
theorem cellsAt_lt {G : List Ob} {n : Nat} {cells : List Value} (h : cellsAt G n = some cells) : n < G.length := by
  unfold cellsAt at h
  cases hq : G[n]? with
  | none => simp [hq] at h
  | some o => exact (List.getElem?_eq_some_iff.1 hq).1
theorem cellsAt_append {G X : List Ob} {n : Nat} (h : n < G.length) : cellsAt (G ++ X) n = cellsAt G n := by
  unfold cellsAt; rw [List.getElem?_append_left h]
theorem cellsAt_spec {w : World} {h : Nat → OneV} {F : Foot} {G : List Ob} {f : Nat → Foot} {n : Nat} {cells : List Value} (hc : cellsAt G n = some cells) (H : Objs w h F G f) :
    ∃ b o, (∀ k, hatV (h n).val k = .pointer (some ⟨b, o + k, none⟩)) ∧ ∀ (j : Nat) c, cells[j]? = some c → CellN w h G.length b (o + j) c := by
  unfold cellsAt at hc
  cases hq : G[n]? with
  | none => simp [hq] at hc
  | some ob =>
    have H1 := H.ob n _ hq
    simp only [hq, Option.bind_some] at hc
    cases ob with
    | row s len cs =>
      cases hc
      obtain ⟨b, o, cap, h1, h2, h4, h5, h6, h7, h8, h9⟩ := H1
      exact ⟨b, o, fun k => by rw [h1]; rfl, h7⟩
    | ro s len cs =>
      cases hc
      obtain ⟨b, o, sp, cap, h1, h2, h3, h4, h5, h6⟩ := H1
      exact ⟨b, o, fun k => by rw [h1]; rfl, h5⟩
    | ptr cs =>
      cases hc
      obtain ⟨b, o, h1, h2, h3, h4⟩ := H1
      exact ⟨b, o, fun k => by rw [h1]; rfl, fun j c hj => (h3 j c hj).1⟩
    | _ => cases hc
/-- A slice's object, from which cell on, in names. -/
def SlIn (G : List Ob) (v : Value) (m k s len : Nat) : Prop := ∃ n, v = tok n ∧ ((∃ cs, (G[n]? = some (.row s len cs) ∨ G[n]? = some (.ro s len cs)) ∧ m = n ∧ k = 0) ∨ (G[n]? = some (.view m s k len) ∧ m < n))
/-- A slice in names: its elements' size, how many they are, their cells. -/
def Sl (G : List Ob) (v : Value) (s len : Nat) (cells : List Value) : Prop :=
  (v = .slice none 0 0 ∧ len = 0 ∧ cells = []) ∨ ∃ m k all, SlIn G v m k s len ∧ cellsAt G m = some all ∧ k + len * s ≤ all.length ∧ cells = (all.drop k).take (len * s)
theorem SlIn.append {G X : List Ob} {v : Value} {m k s len : Nat} (h : SlIn G v m k s len) : SlIn (G ++ X) v m k s len := by
  obtain ⟨n, rfl, h⟩ := h
  refine ⟨n, rfl, ?_⟩
  rcases h with ⟨cs, h, h'⟩ | h
  · refine .inl ⟨cs, ?_, h'⟩
    rcases h with h | h
    · rw [List.getElem?_append_left (List.getElem?_eq_some_iff.1 h).1]; exact .inl h
    · rw [List.getElem?_append_left (List.getElem?_eq_some_iff.1 h).1]; exact .inr h
  · rw [List.getElem?_append_left (List.getElem?_eq_some_iff.1 h.1).1]; exact .inr h
theorem Sl.append {G X : List Ob} {v : Value} {s len : Nat} {cells : List Value} (h : Sl G v s len cells) : Sl (G ++ X) v s len cells := by
  rcases h with h | ⟨m, k, all, h1, h2, h3, h4⟩
  · exact .inl h
  · exact .inr ⟨m, k, all, h1.append, by rw [cellsAt_append (cellsAt_lt h2)]; exact h2, h3, h4⟩
theorem SlIn.one {G : List Ob} {v : Value} {m k s len : Nat} (h : SlIn G v m k s len) : v.oneCell' = true := by obtain ⟨n, rfl, _⟩ := h; rfl
theorem Sl.one {G : List Ob} {v : Value} {s len : Nat} {cells : List Value} (h : Sl G v s len cells) : v.oneCell' = true := by
  rcases h with ⟨rfl, _⟩ | ⟨m, k, all, h1, _⟩
  · rfl
  · exact h1.one
theorem Sl.length {G : List Ob} {v : Value} {s len : Nat} {cells : List Value} (h : Sl G v s len cells) : cells.length = len * s := by
  rcases h with ⟨_, rfl, rfl⟩ | ⟨m, k, all, _, _, h3, rfl⟩
  · simp
  · simp; omega
theorem SlIn.val {w : World} {h : Nat → OneV} {F : Foot} {G : List Ob} {f : Nat → Foot} {v : Value} {m k s len : Nat} (hv : SlIn G v m k s len) (H : Objs w h F G f) :
    ∃ a cap, concE h v = .slice (some a) len cap ∧ len ≤ cap ∧ (0 < len * s → .pointer (some a) = hatV (h m).val k) ∧ Inv h G.length v := by
  obtain ⟨n, rfl, hv⟩ := hv
  rcases hv with ⟨cs, hv | hv, e, rfl⟩ | ⟨hv, _⟩
  · subst e
    obtain ⟨b, o, cap, h1, h2, h4, h5, h6, h7, h8, h9⟩ := H.ob m _ hv
    exact ⟨_, cap, by rw [concE_name, h1], h2, fun _ => by rw [h1]; rfl, Inv.name (List.getElem?_eq_some_iff.1 hv).1⟩
  · subst e
    obtain ⟨b, o, sp, cap, h1, h2, h3, h4, h5, h6⟩ := H.ob m _ hv
    refine ⟨_, cap, by rw [concE_name, h1], h2, fun hp => ?_, Inv.name (List.getElem?_eq_some_iff.1 hv).1⟩
    rw [h1, h4 (by omega)]
    rfl
  · obtain ⟨a, cap, h1, h2, h3, h4, h5⟩ := H.ob n _ hv
    exact ⟨a, cap, by rw [concE_name, h1], h2, h4, Inv.name (List.getElem?_eq_some_iff.1 hv).1⟩
/-- What a slice is, in a world. -/
theorem Sl.at_ {w : World} {h : Nat → OneV} {F : Foot} {G : List Ob} {f : Nat → Foot} {v : Value} {s len : Nat} {cells : List Value} (hv : Sl G v s len cells) (H : Objs w h F G f) :
    ∃ a cap, concE h v = .slice a len cap ∧ len ≤ cap ∧ (0 < cells.length → ∃ b o, a = some ⟨b, o, none⟩ ∧ ∀ (j : Nat) c, cells[j]? = some c → CellN w h G.length b (o + j) c) ∧ Inv h G.length v := by
  rcases hv with ⟨rfl, rfl, rfl⟩ | ⟨m, k, all, h1, h2, h3, rfl⟩
  · exact ⟨none, 0, rfl, Nat.le_refl _, fun h => by simp at h, Inv.of_const fun _ => rfl⟩
  · obtain ⟨a, cap, g1, g2, g3, g4⟩ := h1.val H
    refine ⟨some a, cap, g1, g2, fun hp => ?_, g4⟩
    have hl : 0 < len * s := by simp at hp; omega
    obtain ⟨b, o, q1, q2⟩ := cellsAt_spec h2 H
    have := g3 hl
    rw [q1] at this
    cases this
    refine ⟨b, o + k, rfl, fun j c hj => ?_⟩
    simp only [List.getElem?_take, List.getElem?_drop] at hj
    split at hj
    · rw [Nat.add_assoc]; exact q2 _ _ hj
    · cases hj
theorem SlIn.loc {G X : List Ob} {v : Value} {m k s len : Nat} (hd : ∀ n, v = tok n → n < G.length) : SlIn G v m k s len ↔ SlIn (G ++ X) v m k s len := by
  refine ⟨SlIn.append, fun ⟨n, hv, h⟩ => ⟨n, hv, ?_⟩⟩
  rwa [List.getElem?_append_left (hd n hv)] at h
theorem Sl.loc {G X : List Ob} {v : Value} {s len : Nat} {cells : List Value} (hd : ∀ n, v = tok n → n < G.length) : Sl G v s len cells ↔ Sl (G ++ X) v s len cells := by
  refine ⟨Sl.append, fun hs => ?_⟩
  rcases hs with hs | ⟨m, k, all, h1, h2, h3, h4⟩
  · exact .inl hs
  · have h1' := (SlIn.loc hd).2 h1
    refine .inr ⟨m, k, all, h1', ?_, h3, h4⟩
    have hm : m < G.length := by
      obtain ⟨n, rfl, hn⟩ := h1'
      have := hd n rfl
      rcases hn with ⟨cs, _, rfl, _⟩ | ⟨_, hn⟩
      · exact this
      · omega
    rwa [cellsAt_append hm] at h2
end Sx
end Go.Proofs.Ytaigdbnfhehclaa

namespace Go.Proofs.Ytaigdbnfhehclaa
namespace Sx
open Go.RowKit

section
variable {P : Program}
theorem key_len {op : Op} {t : TypeId} (h : primKey op = some (primBase + (32 * t + 16))) : ∃ c, op = .call c ∧ c.callee = .builtin .len ∧ c.argTypes[0]? = some t := by
  unfold primKey at h
  repeat' split at h
  all_goals (try (exact absurd h.symm (Option.some_ne_none _)))
  all_goals (rw [Option.some.injEq] at h)
  all_goals (try (exfalso; omega))
  rename_i t' h1 h2
  have : @Eq Nat t' t := by omega
  subst this
  exact ⟨_, rfl, h1, h2⟩
theorem key_idx {op : Op} {t : TypeId} (h : primKey op = some (primBase + (32 * t + 3))) : ∃ x i, op = .indexAddr t x i := by
  unfold primKey at h
  repeat' split at h
  all_goals (try (exact absurd h.symm (Option.some_ne_none _)))
  all_goals (rw [Option.some.injEq] at h)
  all_goals (try (exfalso; omega))
  rename_i t' x i
  have : @Eq Nat t' t := by omega
  subst this
  exact ⟨_, _, rfl⟩
theorem key_load {op : Op} {t : TypeId} (h : primKey op = some (primBase + 32 * t)) : ∃ x, op = .load t x := by
  unfold primKey at h
  repeat' split at h
  all_goals (try (exact absurd h.symm (Option.some_ne_none _)))
  all_goals (rw [Option.some.injEq] at h)
  all_goals (try (exfalso; omega))
  rename_i t' x
  have : @Eq Nat t' t := by omega
  subst this
  exact ⟨_, rfl⟩
theorem key_nil {op : Op} (h : primKey op = some (primBase + 9)) : ∃ x, op = .nilCheck x := by
  unfold primKey at h
  repeat' split at h
  all_goals (try (exact absurd h.symm (Option.some_ne_none _)))
  all_goals (rw [Option.some.injEq] at h)
  all_goals (try (exfalso; omega))
  exact ⟨_, rfl⟩
/-- A pointer that is not nil. -/
def nilR (G : List Ob) (l : List Value) (e : Env) : Prop := ∃ n k : Nat, l = [tokAt n k] ∧ n < G.length ∧ e.i 0 = n ∧ e.i 1 = k
def nilC : Con := ⟨primBase + 9, [], fun b => (E.pla (.var 0) (.var 1) 0).shift b, 1, 3, 0⟩
theorem nil_holds : nilC.holds P (conR nilR) := by
  refine read_holds rfl (Nat.le_add_right _ _) (fun G G' l e _ hx hd => ?_) ?_
  · refine ⟨fun ⟨n, k, h1, h2, h3⟩ => ⟨n, k, h1, Nat.lt_of_lt_of_le h2 hx, h3⟩, fun ⟨n, k, h1, h2, h3⟩ => ⟨n, k, h1, hd.lt_at (by rw [h1]; exact List.mem_singleton.2 rfl), h3⟩⟩
  · rintro o hkey a w h F G f l e hargs H ⟨n, k, rfl, hn, h1, h2⟩
    obtain ⟨x, hop⟩ := key_nil hkey
    have ha := hargs h fun _ _ => rfl
    rw [hop] at ha
    obtain ⟨b, o', e1⟩ := hatV_form (h n).val
    simp only [Op.operands, List.map_cons, List.map_nil, concE_at, e1, List.cons.injEq, and_true] at ha
    refine ⟨tokAt n k, ?_, Inv.at_ hn, ?_⟩
    · simp only [hop, execOp, ha, concE_at, e1, Sem.run_pure]
    · simp only [E.nam, T.den, h1, h2, Int.toNat_natCast, Nat.add_zero]
def lenC (t : TypeId) : Con := ⟨primBase + (32 * t + 16), [], fun b => (E.int .i64 (.var 0)).shift b, 1, 1, 0⟩
def lenR (G : List Ob) (l : List Value) (e : Env) : Prop := ∃ v s len cells, l = [v] ∧ Sl G v s len cells ∧ e.i 0 = (len : Nat)
theorem loc1 {G G' : List Ob} {l : List Value} (hx : extG 1 G G') (hd : NoDang (encG G) l) : ∃ X, G' = G ++ X ∧ (∀ n, tok n ∈ l → n < G.length) ∧ ∀ n k, tokAt n k ∈ l → n < G.length := by
  obtain ⟨X, rfl⟩ := hx
  exact ⟨X, rfl, fun n hn => hd.lt hn, fun n k hn => hd.lt_at hn⟩
theorem len_holds {t el : TypeId} (hu : P.underlying t = some (.slice el)) : (lenC t).holds P (conR lenR) := by
  refine read_holds rfl (Nat.le_add_right _ _) (fun G G' l e _ hx hd => ?_) ?_
  · obtain ⟨X, rfl, h1, h2⟩ := loc1 hx hd
    constructor
    · rintro ⟨v, s, len, cells, rfl, g1, g2⟩
      exact ⟨v, s, len, cells, rfl, g1.append, g2⟩
    · rintro ⟨v, s, len, cells, rfl, g1, g2⟩
      exact ⟨v, s, len, cells, rfl, (Sl.loc fun n hn => h1 n (by rw [hn]; exact List.mem_singleton.2 rfl)).2 g1, g2⟩
  · rintro o hkey a w h F G f l e hargs H ⟨v, s, len, cells, rfl, hsl, hi⟩
    obtain ⟨c, hc, h1, h2⟩ := key_len hkey
    obtain ⟨ad, cap, hv, _⟩ := hsl.at_ H
    have ha := hargs h fun _ _ => rfl
    rw [hc] at ha
    simp only [Op.operands, Call.operands, h1, Array.empty_append, List.map_cons, List.map_nil, hv] at ha
    have h5 : c.args.map a.eval = #[.slice ad len cap] := by
      rw [← Array.toList_inj]; simpa using ha
    refine ⟨.int .i64 len, ?_, Inv.of_const fun _ => rfl, by simp only [E.nam, T.den, hi]⟩
    simp only [hc, execOp, resolve, h1, h5, Sem.run_bind, Sem.run_pure, Result.andThen_ok, invoke, builtin, Builtin.len_, h2, concE_int]
    simp [run_underlying hu, goInt]
/-- The place of a slice's element. -/
def idxC (t : TypeId) : Con := ⟨primBase + (32 * t + 3), [], fun b => (E.pla (.var 0) (.var 1) 0).shift b, 1, 1, 0⟩
def idxR (s : Nat) (G : List Ob) (l : List Value) (e : Env) : Prop := ∃ v kd i m k len all, l = [v, .int kd i] ∧ SlIn G v m k s len ∧ cellsAt G m = some all ∧ k + len * s ≤ all.length ∧ 0 ≤ i ∧ i < (len : Nat) ∧ 0 < s ∧ e.i 0 = m ∧ e.i 1 = ((k + i.toNat * s : Nat) : Int)
theorem idx_holds {t el : TypeId} {s0 : Nat} (hu : P.underlying t = some (.slice el)) (hs : sizeE P el = some s0) : (idxC t).holds P (conR (idxR s0)) := by
  refine read_holds rfl (Nat.le_add_right _ _) (fun G G' l e _ hx hd => ?_) ?_
  · obtain ⟨X, rfl, h1, h2⟩ := loc1 hx hd
    constructor
    · rintro ⟨v, kd, i, m, k, len, all, rfl, g1, g2, g3⟩
      exact ⟨v, kd, i, m, k, len, all, rfl, g1.append, by rw [cellsAt_append (cellsAt_lt g2)]; exact g2, g3⟩
    · rintro ⟨v, kd, i, m, k, len, all, rfl, g1, g2, g3⟩
      have g1' := (SlIn.loc fun n hn => h1 n (by rw [hn]; exact List.mem_cons_self ..)).2 g1
      have hm : m < G.length := by
        obtain ⟨n, rfl, hn⟩ := g1'
        have := h1 n (List.mem_cons_self ..)
        rcases hn with ⟨cs, _, rfl, _⟩ | ⟨_, hn⟩
        · exact this
        · omega
      exact ⟨v, kd, i, m, k, len, all, rfl, g1', by rw [cellsAt_append hm] at g2; exact g2, g3⟩
  · rintro o hkey a w h F G f l e hargs H ⟨v, kd, i, m, k, len, all, rfl, hsl, hc, hle, hi1, hi2, hs0, he1, he2⟩
    obtain ⟨x, ix, hop⟩ := key_idx hkey
    obtain ⟨ad, cap, hv, _, hat, _⟩ := hsl.val H
    obtain ⟨b, o', q1, _⟩ := cellsAt_spec hc H
    have hlen : 0 < len * s0 := Nat.mul_pos (by omega) hs0
    have hat := hat hlen
    rw [q1] at hat
    cases hat
    have ha := hargs h fun _ _ => rfl
    rw [hop] at ha
    simp only [Op.operands, List.map_cons, List.map_nil, concE_int, hv, List.cons.injEq, and_true] at ha
    obtain ⟨a1, a2⟩ := ha
    refine ⟨tokAt m (k + i.toNat * s0), ?_, Inv.at_ (cellsAt_lt hc), ?_⟩
    · have hj : 0 ≤ i ∧ i < (len : Int) := ⟨hi1, hi2⟩
      simp only [hop, execOp, a1, a2, Instr.indexAt, asIntOf, Sem.run_bind, run_underlying hu, Result.andThen_ok, Sem.run_pure, hj, and_self, if_true, sizeE_run hs, addr_add, concE_at, q1, Nat.add_assoc]
    · simp only [E.nam, T.den, he1, he2, Int.toNat_natCast, Nat.add_zero]
/-- What lies at a place: one cell, as r tells it. -/
def loadC (t : TypeId) (r : E) : Con := ⟨primBase + 32 * t, [], fun b => r.shift b, 1, 1, 0⟩
def loadR (r : E) (G : List Ob) (l : List Value) (e : Env) : Prop := ∃ n k cells c, l = [tokAt n k] ∧ cellsAt G n = some cells ∧ cells[k]? = some c ∧ r.nam e lay0 = c
theorem load_holds {t : TypeId} {r : E} (ht : isRowE P t = some false) (hr : (r.noPtr && r.lt stride) = true) : (loadC t r).holds P (conR (loadR r)) := by
  refine read_holds hr (Nat.le_add_right _ _) (fun G G' l e _ hx hd => ?_) ?_
  · obtain ⟨X, rfl, h1, h2⟩ := loc1 hx hd
    constructor
    · rintro ⟨n, k, cells, c, rfl, g1, g2⟩
      exact ⟨n, k, cells, c, rfl, by rw [cellsAt_append (cellsAt_lt g1)]; exact g1, g2⟩
    · rintro ⟨n, k, cells, c, rfl, g1, g2⟩
      exact ⟨n, k, cells, c, rfl, by rw [cellsAt_append (h2 n k (List.mem_singleton.2 rfl))] at g1; exact g1, g2⟩
  · rintro o hkey a w h F G f l e hargs H ⟨n, k, cells, c, rfl, hc, hk, hv⟩
    obtain ⟨x, hop⟩ := key_load hkey
    obtain ⟨b, o', q1, q2⟩ := cellsAt_spec hc H
    have hcell := q2 k c hk
    have ha := hargs h fun _ _ => rfl
    rw [hop] at ha
    simp only [Op.operands, List.map_cons, List.map_nil, concE_at, q1, List.cons.injEq, and_true] at ha
    refine ⟨c, ?_, hcell.inv, hv⟩
    simp only [hop, execOp, ha, Instr.loadAt, Instr.sureAddr, Sem.run_bind, Sem.run_pure, Result.andThen_ok, loadVar, isRowE_run ht, Bool.false_eq_true, if_false, load, Sem.run, hcell.cell]
/-- What lies at a place: a struct, or an array. -/
def loadRowR (s : Nat) (r : E) (G : List Ob) (l : List Value) (e : Env) : Prop := ∃ n k cells, l = [tokAt n k] ∧ cellsAt G n = some cells ∧ k + s ≤ cells.length ∧ r.nam e lay0 = .agg ((cells.drop k).take s).toArray
theorem loadRow_holds {t : TypeId} {s : Nat} {r : E} (ht : isRowE P t = some true) (hs : sizeE P t = some s) (hr : (r.noPtr && r.lt stride) = true) : (loadC t r).holds P (conR (loadRowR s r)) := by
  refine read_holds hr (Nat.le_add_right _ _) (fun G G' l e _ hx hd => ?_) ?_
  · obtain ⟨X, rfl, h1, h2⟩ := loc1 hx hd
    constructor
    · rintro ⟨n, k, cells, rfl, g1, g2⟩
      exact ⟨n, k, cells, rfl, by rw [cellsAt_append (cellsAt_lt g1)]; exact g1, g2⟩
    · rintro ⟨n, k, cells, rfl, g1, g2⟩
      exact ⟨n, k, cells, rfl, by rw [cellsAt_append (h2 n k (List.mem_singleton.2 rfl))] at g1; exact g1, g2⟩
  · rintro o hkey a w h F G f l e hargs H ⟨n, k, cells, rfl, hc, hk, hv⟩
    obtain ⟨x, hop⟩ := key_load hkey
    obtain ⟨b, o', q1, q2⟩ := cellsAt_spec hc H
    have ha := hargs h fun _ _ => rfl
    rw [hop] at ha
    simp only [Op.operands, List.map_cons, List.map_nil, concE_at, q1, List.cons.injEq, and_true] at ha
    have hget : ∀ (j : Nat) c, ((cells.drop k).take s)[j]? = some c → CellN w h G.length b (o' + k + j) c := fun j c hj => by
      simp only [List.getElem?_take, List.getElem?_drop] at hj
      split at hj
      · rw [Nat.add_assoc]; exact q2 _ _ hj
      · cases hj
    have hrange : w.rangeAt b (o' + k) (((cells.drop k).take s).map (concC h)) := fun j v hv => by
      rw [List.getElem?_map] at hv
      cases hq : ((cells.drop k).take s)[j]? with
      | none => simp [hq] at hv
      | some c =>
        simp only [hq, Option.map_some, Option.some.injEq] at hv
        subst hv
        have := hget j c hq
        rw [← concE_of_one this.one]
        exact this.cell
    have hrow : ∃ d, P.underlying t = some d ∧ d.isRow = true := by
      unfold isRowE at ht
      split at ht <;> first | exact ⟨_, by assumption, rfl⟩ | cases ht
    obtain ⟨d, hu, hd⟩ := hrow
    have hsz : (P.info? t).map (·.size) = some (((cells.drop k).take s).map (concC h)).length := by
      unfold sizeE at hs
      rw [hs]
      simp; omega
    refine ⟨.agg ((cells.drop k).take s).toArray, ?_, Inv.agg fun c hm => ?_, hv⟩
    · simp only [hop, execOp, ha, Sem.run_bind, run_loadAt_mid w _ _ t _ d hrange hu hd hsz, Result.andThen_ok, Sem.run_pure, concE_agg, List.map_toArray]
    · obtain ⟨j, hj⟩ := List.getElem?_of_mem hm
      exact ⟨(hget j c hj).inv, (hget j c hj).one⟩
end
end Sx
end Go.Proofs.Ytaigdbnfhehclaa
