/-
  What is proved: plain laws on stores of objects: rows of cells, rows that are only read, parts of them, structs behind pointers, maps; no program in sight. No condition.
-/
import Derived.Test.YtcedgoaanlbldaaSyN
import Derived.MapKept
namespace Go.Proofs.Ytcedgoaanlbldaa
namespace Sx
open Go.RowKit

/-- An object: none; a slice's elements, of so many cells each; such that are only read; a part of another, from a cell on; a struct behind a pointer; a map. -/
inductive Ob where
  | dead
  | row (s len : Nat) (cells : List Value)
  | ro (s len : Nat) (cells : List Value)
  | view (m s k len : Nat)
  | ptr (cells : List Value)
  | map (l : List (Value × Value))
  | fn (id : Nat) (cells : List Value)
def Ob.enc : Ob → Value
  | .dead => .nilFunc
  | .row s len cells => .iface 1 (.tuple #[.int .i64 s, .int .i64 len, .tuple cells.toArray])
  | .ro s len cells => .iface 2 (.tuple #[.int .i64 s, .int .i64 len, .tuple cells.toArray])
  | .view m s k len => .iface 3 (.tuple #[.int .i64 m, .int .i64 s, .int .i64 k, .int .i64 len])
  | .ptr cells => .iface 4 (.tuple cells.toArray)
  | .map l => .iface 5 (.tuple (l.map fun p => Value.tuple #[p.1, p.2]).toArray)
  | .fn id cells => .iface 6 (.tuple #[.int .i64 id, .tuple cells.toArray])
def Ob.decP : Value → Value × Value
  | .tuple a => (a.getD 0 undef, a.getD 1 undef)
  | _ => (undef, undef)
def Ob.dec : Value → Ob
  | .iface 1 (.tuple ⟨[.int _ s, .int _ len, .tuple cells]⟩) => .row s.toNat len.toNat cells.toList
  | .iface 2 (.tuple ⟨[.int _ s, .int _ len, .tuple cells]⟩) => .ro s.toNat len.toNat cells.toList
  | .iface 3 (.tuple ⟨[.int _ m, .int _ s, .int _ k, .int _ len]⟩) => .view m.toNat s.toNat k.toNat len.toNat
  | .iface 4 (.tuple cells) => .ptr cells.toList
  | .iface 5 (.tuple a) => .map (a.toList.map Ob.decP)
  | .iface 6 (.tuple ⟨[.int _ id, .tuple cells]⟩) => .fn id.toNat cells.toList
  | _ => .dead
theorem Ob.dec_enc (o : Ob) : Ob.dec o.enc = o := by
  cases o with
  | dead => rfl
  | row s len cells => simp [Ob.enc, Ob.dec]
  | ro s len cells => simp [Ob.enc, Ob.dec]
  | view m s k len => simp [Ob.enc, Ob.dec]
  | ptr cells => simp [Ob.enc, Ob.dec]
  | fn id cells => simp [Ob.enc, Ob.dec]
  | map l =>
    simp only [Ob.enc, Ob.dec, List.map_map, Ob.map.injEq]
    exact (List.map_congr_left fun p _ => rfl).trans (List.map_id _)
/-- A store, as a value. -/
def encG (G : List Ob) : Value := .iface 0 (.tuple (G.map Ob.enc).toArray)
def decG : Value → List Ob
  | .iface _ (.tuple a) => a.toList.map Ob.dec
  | _ => []
theorem decG_enc (G : List Ob) : decG (encG G) = G := by
  simp only [encG, decG, List.map_map]
  exact (List.map_congr_left fun o _ => Ob.dec_enc o).trans (List.map_id _)
theorem encG_inj {G G' : List Ob} (h : encG G = encG G') : G = G' := by rw [← decG_enc G, ← decG_enc G', h]
theorem noTup_enc (G : List Ob) : noTup (encG G) = encG G := rfl

/-- A value in names asks for no object from n on. -/
def Inv (h : Nat → OneV) (n : Nat) (v : Value) : Prop := ∀ h' : Nat → OneV, (∀ k, k < n → h' k = h k) → concE h' v = concE h v
theorem Inv.same {h h' : Nat → OneV} {n : Nat} {v : Value} (hv : Inv h n v) (hh : ∀ k, k < n → h' k = h k) : Inv h' n v := fun h'' h2 => (hv h'' fun k hk => (h2 k hk).trans (hh k hk)).trans (hv h' hh).symm
theorem Inv.mono {h : Nat → OneV} {n m : Nat} {v : Value} (hv : Inv h n v) (hm : n ≤ m) : Inv h m v := fun h' hh => hv h' fun k hk => hh k (Nat.lt_of_lt_of_le hk hm)
theorem Inv.lt {h : Nat → OneV} {n k : Nat} (hv : Inv h n (tok k)) : k < n := by
  apply Classical.byContradiction
  intro hc
  have h1 := hv (fun j => if j = k then ⟨.bool (!((h k).val matches .bool true)), rfl⟩ else h j) (fun j hj => by rw [if_neg (by omega)])
  have e1 : concE h (tok k) = (h k).val := rfl
  have e2 : ∀ g : Nat → OneV, concE g (tok k) = (g k).val := fun _ => rfl
  rw [e1, e2, if_pos rfl] at h1
  simp only at h1
  rw [← h1] at h1
  split at h1 <;> simp_all
/-- A cell, in names. -/
structure CellN (w : World) (h : Nat → OneV) (n b x : Nat) (c : Value) : Prop where
  cell : w.cell? ⟨b, x, none⟩ = some (concE h c)
  one : c.oneCell' = true
  inv : Inv h n c
theorem concE_of_one {h : Nat → OneV} {v : Value} (hv : v.oneCell' = true) : concE h v = concC h v := by
  cases v <;> first | rfl | cases hv
theorem concE_one {h : Nat → OneV} {v : Value} (hv : v.oneCell' = true) : (concE h v).oneCell' = true := by rw [concE_of_one hv]; exact concC_one hv
theorem CellN.same {w : World} {h h' : Nat → OneV} {n b x : Nat} {c : Value} (H : CellN w h n b x c) (hh : ∀ k, k < n → h' k = h k) : CellN w h' n b x c := ⟨by rw [H.inv h' hh]; exact H.cell, H.one, H.inv.same hh⟩
theorem CellN.mono {w : World} {h : Nat → OneV} {n m b x : Nat} {c : Value} (H : CellN w h n b x c) (hm : n ≤ m) : CellN w h m b x c := ⟨H.cell, H.one, H.inv.mono hm⟩
theorem CellN.keep {w w' : World} {h : Nat → OneV} {n b x : Nat} {c : Value} (H : CellN w h n b x c) (e : w'.cell? ⟨b, x, none⟩ = w.cell? ⟨b, x, none⟩) : CellN w' h n b x c := ⟨e.trans H.cell, H.one, H.inv⟩

/-- A block of so many cells, none of which is frozen. -/
def Tail (w : World) (b n : Nat) : Prop := ((∃ e, w.shape? b = some (e, n)) ∧ Sane w b) ∧ ∀ x, x < n → w.frozen? ⟨b, x, none⟩ = false
theorem shape_lt {w : World} {b n : Nat} {e : TypeId} (h : w.shape? b = some (e, n)) : b < w.heap.size := by
  unfold World.shape? at h
  cases hq : w.heap[b]? with
  | none => simp [hq] at h
  | some o => exact (Array.getElem?_eq_some_iff.1 hq).1
theorem Tail.keep {w w' : World} {b n : Nat} {S : Foot} (H : Tail w b n) (hS : Fr S w w') : Tail w' b n := by
  obtain ⟨⟨⟨e, h1⟩, h3⟩, h2⟩ := H
  refine ⟨⟨⟨e, (hS.shape b (shape_lt h1)).trans h1⟩, hS.sane b (shape_lt h1) h3⟩, fun x hx => ?_⟩
  rw [hS.frozen b x (cell_there.2 ⟨e, n, h1, hx⟩)]
  exact h2 x hx
/-- A map's entries, whatever their order. -/
def MapIs (es l : List (Value × Value)) : Prop := es.Perm l ∧ (l.map (·.1)).Nodup
/-- What an object is, in a world. -/
def HoldsOb (w : World) (h : Nat → OneV) (n : Nat) (v : Value) (f : Foot) : Ob → Prop
  | .dead => ∀ i x, ¬ f i x
  | .row s len cells => ∃ b o cap, v = .slice (some ⟨b, o, none⟩) len cap ∧ len ≤ cap ∧ cap ≤ maxLen ∧ cells.length = len * s ∧ (∀ j, j < cap * s → (∃ u, w.cell? ⟨b, o + j, none⟩ = some u ∧ u.oneCell' = true) ∧ w.frozen? ⟨b, o + j, none⟩ = false) ∧
      (∀ (j : Nat) c, cells[j]? = some c → CellN w h n b (o + j) c) ∧ (∀ i x, f i x ↔ i = b ∧ o ≤ x) ∧ Tail w b (o + cap * s)
  | .ro s len cells => ∃ b o sp cap, v = .slice (some ⟨b, o, sp⟩) len cap ∧ len ≤ cap ∧ cells.length = len * s ∧ (0 < cells.length → sp = none) ∧
      (∀ (j : Nat) c, cells[j]? = some c → CellN w h n b (o + j) c) ∧ ∀ i x, f i x ↔ i = b ∧ o ≤ x ∧ x < o + cells.length
  | .view m s k len => ∃ a cap, v = .slice (some a) len cap ∧ len ≤ cap ∧ m < n ∧ (0 < len * s → .pointer (some a) = hatV (h m).val k) ∧ ∀ i x, ¬ f i x
  | .ptr cells => ∃ b o, v = .pointer (some ⟨b, o, none⟩) ∧ 0 < cells.length ∧
      (∀ (j : Nat) c, cells[j]? = some c → CellN w h n b (o + j) c ∧ w.frozen? ⟨b, o + j, none⟩ = false) ∧ ∀ i x, f i x ↔ i = b ∧ o ≤ x ∧ x < o + cells.length
  | .map l => ∃ r es clock, v = .map (some r) ∧ w.heap[r]? = some (.map es clock) ∧ (MapIs (es.toList.map (fun e => (e.key, e.val))) (l.map (fun p => (p.1, concE h p.2))) ∧ MapKept.Stamped es clock) ∧ (∀ p ∈ l, Inv h n p.2) ∧ ∀ i x, f i x ↔ i = r
  | .fn id cells => ∃ b, v = .func (.func id) #[] #[.pointer (some ⟨b, 0, none⟩)] ∧ 0 < cells.length ∧
      (∀ (j : Nat) c, cells[j]? = some c → CellN w h n b j c ∧ w.frozen? ⟨b, j, none⟩ = false) ∧ ∀ i x, f i x ↔ i = b ∧ x < cells.length
theorem HoldsOb.keep {w w' : World} {h : Nat → OneV} {n : Nat} {v : Value} {f S : Foot} {o : Ob} (H : HoldsOb w h n v f o) (hS : Fr S w w') (hd : ∀ i x, f i x → ¬ S i x) (hlt : ∀ i x, f i x → i < w.heap.size) : HoldsOb w' h n v f o := by
  cases o with
  | dead => exact H
  | row s len cells =>
    obtain ⟨b, o, cap, h1, h2, h4, h5, h6, h7, h8, h9⟩ := H
    have hin : ∀ j, j < cap * s → f b (o + j) := fun j hj => (h8 _ _).2 ⟨rfl, by omega⟩
    have hc : ∀ j, j < cap * s → w'.cell? ⟨b, o + j, none⟩ = w.cell? ⟨b, o + j, none⟩ := fun j hj => hS.cell _ _ (hlt _ _ (hin j hj)) (hd _ _ (hin j hj))
    have hle : len * s ≤ cap * s := Nat.mul_le_mul_right _ h2
    refine ⟨b, o, cap, h1, h2, h4, h5, fun j hj => ?_, fun j c hj => ?_, h8, h9.keep hS⟩
    · rw [hc j hj, hS.frozen _ _ (by obtain ⟨⟨u, hu, _⟩, _⟩ := h6 j hj; rw [hu]; rfl)]
      exact h6 j hj
    · have := (List.getElem?_eq_some_iff.1 hj).1
      exact (h7 j c hj).keep (hc j (by omega))
  | ro s len cells =>
    obtain ⟨b, o, sp, cap, h1, h2, h3, h4, h5, h6⟩ := H
    refine ⟨b, o, sp, cap, h1, h2, h3, h4, fun j c hj => ?_, h6⟩
    have hl := (List.getElem?_eq_some_iff.1 hj).1
    have hin : f b (o + j) := (h6 _ _).2 ⟨rfl, by omega, by omega⟩
    exact (h5 j c hj).keep (hS.cell _ _ (hlt _ _ hin) (hd _ _ hin))
  | view m s k len => exact H
  | ptr cells =>
    obtain ⟨b, o, h1, h2, h3, h4⟩ := H
    refine ⟨b, o, h1, h2, fun j c hj => ?_, h4⟩
    have := (List.getElem?_eq_some_iff.1 hj).1
    have hin : f b (o + j) := (h4 _ _).2 ⟨rfl, by omega, by omega⟩
    rw [hS.frozen _ _ (by rw [(h3 j c hj).1.cell]; rfl)]
    exact ⟨(h3 j c hj).1.keep (hS.cell _ _ (hlt _ _ hin) (hd _ _ hin)), (h3 j c hj).2⟩
  | map l =>
    obtain ⟨r, es, clock, h1, h2, h3, h4, h5⟩ := H
    refine ⟨r, es, clock, h1, ?_, h3, h4, h5⟩
    rw [hS.block r (hlt r 0 ((h5 _ _).2 rfl)) fun o => hd r o ((h5 _ _).2 rfl)]
    exact h2
  | fn id cells =>
    obtain ⟨b, h1, h2, h3, h4⟩ := H
    refine ⟨b, h1, h2, fun j c hj => ?_, h4⟩
    have := (List.getElem?_eq_some_iff.1 hj).1
    have hin : f b j := (h4 _ _).2 ⟨rfl, by omega⟩
    rw [hS.frozen _ _ (by rw [(h3 j c hj).1.cell]; rfl)]
    exact ⟨(h3 j c hj).1.keep (hS.cell _ _ (hlt _ _ hin) (hd _ _ hin)), (h3 j c hj).2⟩
theorem cell_some_lt {w : World} {p : Addr} {v : Value} (h : w.cell? p = some v) : p.block < w.heap.size := by
  unfold World.cell? at h
  cases hq : w.heap[p.block]? with
  | none => simp [hq] at h
  | some o => exact (Array.getElem?_eq_some_iff.1 hq).1
theorem HoldsOb.below {w : World} {h : Nat → OneV} {n : Nat} {v : Value} {f : Foot} {o : Ob} (H : HoldsOb w h n v f o) {i x : Nat} (hf : f i x) : i < w.heap.size := by
  cases o with
  | dead => exact absurd hf (H i x)
  | row s len cells =>
    obtain ⟨b, o, cap, h1, h2, h4, h5, h6, h7, h8, h9⟩ := H
    obtain ⟨rfl, _⟩ := (h8 _ _).1 hf
    obtain ⟨⟨⟨e, h10⟩, _⟩, _⟩ := h9
    exact shape_lt h10
  | ro s len cells =>
    obtain ⟨b, o, sp, cap, h1, h2, h3, h4, h5, h6⟩ := H
    obtain ⟨rfl, q2, q3⟩ := (h6 _ _).1 hf
    exact cell_some_lt (h5 (x - o) _ (List.getElem?_eq_getElem (by omega))).cell
  | view m s k len => obtain ⟨_, _, _, _, _, _, h5⟩ := H; exact absurd hf (h5 i x)
  | ptr cells =>
    obtain ⟨b, o, h1, h2, h3, h4⟩ := H
    obtain ⟨rfl, q2, q3⟩ := (h4 _ _).1 hf
    exact cell_some_lt (h3 (x - o) _ (List.getElem?_eq_getElem (by omega))).1.cell
  | map l =>
    obtain ⟨r, es, clock, h1, h2, h3, h4, h5⟩ := H
    have := (h5 _ _).1 hf
    subst this
    exact (Array.getElem?_eq_some_iff.1 h2).1
  | fn id cells =>
    obtain ⟨b, h1, h2, h3, h4⟩ := H
    obtain ⟨rfl, q2⟩ := (h4 _ _).1 hf
    exact cell_some_lt (h3 x _ (List.getElem?_eq_getElem (by omega))).1.cell
theorem HoldsOb.same {w : World} {h h' : Nat → OneV} {n : Nat} {v : Value} {f : Foot} {o : Ob} (H : HoldsOb w h n v f o) (hh : ∀ k, k < n → h' k = h k) : HoldsOb w h' n v f o := by
  cases o with
  | dead => exact H
  | row s len cells =>
    obtain ⟨b, o, cap, h1, h2, h4, h5, h6, h7, h8, h9⟩ := H
    exact ⟨b, o, cap, h1, h2, h4, h5, h6, fun j c hj => (h7 j c hj).same hh, h8, h9⟩
  | ro s len cells =>
    obtain ⟨b, o, sp, cap, h1, h2, h3, h4, h5, h6⟩ := H
    exact ⟨b, o, sp, cap, h1, h2, h3, h4, fun j c hj => (h5 j c hj).same hh, h6⟩
  | view m s k len =>
    obtain ⟨a, cap, h1, h2, h3, h4, h5⟩ := H
    exact ⟨a, cap, h1, h2, h3, fun hp => by rw [hh m h3]; exact h4 hp, h5⟩
  | ptr cells =>
    obtain ⟨b, o, h1, h2, h3, h4⟩ := H
    exact ⟨b, o, h1, h2, fun j c hj => ⟨(h3 j c hj).1.same hh, (h3 j c hj).2⟩, h4⟩
  | map l =>
    obtain ⟨r, es, clock, h1, h2, h3, h4, h5⟩ := H
    refine ⟨r, es, clock, h1, h2, ⟨?_, h3.2⟩, fun p hp => (h4 p hp).same hh, h5⟩
    rw [show l.map (fun p => (p.1, concE h' p.2)) = l.map (fun p => (p.1, concE h p.2)) from List.map_congr_left fun p hp => by rw [h4 p hp h' hh]]
    exact h3.1
  | fn id cells =>
    obtain ⟨b, h1, h2, h3, h4⟩ := H
    exact ⟨b, h1, h2, fun j c hj => ⟨(h3 j c hj).1.same hh, (h3 j c hj).2⟩, h4⟩
theorem HoldsOb.mono {w : World} {h : Nat → OneV} {n m : Nat} {v : Value} {f : Foot} {o : Ob} (H : HoldsOb w h n v f o) (hm : n ≤ m) : HoldsOb w h m v f o := by
  cases o with
  | dead => exact H
  | row s len cells =>
    obtain ⟨b, o, cap, h1, h2, h4, h5, h6, h7, h8, h9⟩ := H
    exact ⟨b, o, cap, h1, h2, h4, h5, h6, fun j c hj => (h7 j c hj).mono hm, h8, h9⟩
  | ro s len cells =>
    obtain ⟨b, o, sp, cap, h1, h2, h3, h4, h5, h6⟩ := H
    exact ⟨b, o, sp, cap, h1, h2, h3, h4, fun j c hj => (h5 j c hj).mono hm, h6⟩
  | view k s j len =>
    obtain ⟨a, cap, h1, h2, h3, h4, h5⟩ := H
    exact ⟨a, cap, h1, h2, Nat.lt_of_lt_of_le h3 hm, h4, h5⟩
  | ptr cells =>
    obtain ⟨b, o, h1, h2, h3, h4⟩ := H
    exact ⟨b, o, h1, h2, fun j c hj => ⟨(h3 j c hj).1.mono hm, (h3 j c hj).2⟩, h4⟩
  | map l =>
    obtain ⟨r, es, clock, h1, h2, h3, h4, h5⟩ := H
    exact ⟨r, es, clock, h1, h2, h3, fun p hp => (h4 p hp).mono hm, h5⟩
  | fn id cells =>
    obtain ⟨b, h1, h2, h3, h4⟩ := H
    exact ⟨b, h1, h2, fun j c hj => ⟨(h3 j c hj).1.mono hm, (h3 j c hj).2⟩, h4⟩
def Ob.shared : Ob → Bool
  | .ro _ _ _ => true
  | _ => false
/-- What a store is, in a world. -/
structure Objs (w : World) (h : Nat → OneV) (F : Foot) (G : List Ob) (f : Nat → Foot) : Prop where
  ob : ∀ (i : Nat) o, G[i]? = some o → HoldsOb w h G.length (h i).val (f i) o
  apart : ∀ (i j : Nat) o p, G[i]? = some o → G[j]? = some p → i ≠ j → (o.shared && p.shared) = false → ∀ b x, f i b x → ¬ f j b x
  foot : ∀ b x, F b x ↔ ∃ i, i < G.length ∧ f i b x
def cntG : Value → Nat
  | .iface _ (.tuple a) => a.size
  | _ => 0
theorem cntG_enc (G : List Ob) : cntG (encG G) = G.length := by simp [encG, cntG]
/-- Those that stay as they are for ever. -/
def Ob.fixed : Ob → Bool
  | .ro _ _ _ => true
  | .view _ _ _ _ => true
  | _ => false
/-- How a store grows: 1: by new objects alone; 2: those that are only read stay; else: none goes. -/
def extG (k : Nat) (G G' : List Ob) : Prop :=
  if k = 1 then ∃ X, G' = G ++ X
  else if k = 2 then G.length ≤ G'.length ∧ ∀ (n : Nat) o, G[n]? = some o → o.fixed = true → G'[n]? = some o
  else G.length ≤ G'.length
theorem extG_mono {k m : Nat} {G G' : List Ob} (h0 : k ≠ 0) (hk : k ≤ m) (h : extG k G G') : extG m G G' := by
  unfold extG at *
  by_cases e1 : m = 1
  · rw [if_pos e1]; rw [if_pos (by omega)] at h; exact h
  · rw [if_neg e1]
    by_cases e2 : m = 2
    · rw [if_pos e2]
      split at h
      · obtain ⟨X, rfl⟩ := h
        refine ⟨by simp, fun n o ho _ => ?_⟩
        rw [List.getElem?_append_left (List.getElem?_eq_some_iff.1 ho).1]
        exact ho
      · split at h
        · exact h
        · omega
    · rw [if_neg e2]
      split at h
      · obtain ⟨X, rfl⟩ := h; simp
      · split at h
        · exact h.1
        · exact h
instance kindsS : Kinds where
  holds w h F g := ∃ G f, g = encG G ∧ Objs w h F G f
  cnt := cntG
  keep := by
    rintro w w' h F S g ⟨G, f, rfl, H⟩ hS hd
    have hsub : ∀ i, i < G.length → ∀ b x, f i b x → F b x := fun i hi b x hf => (H.foot b x).2 ⟨i, hi, hf⟩
    refine ⟨G, f, rfl, fun i o ho => ?_, H.apart, H.foot⟩
    have hi := (List.getElem?_eq_some_iff.1 ho).1
    exact (H.ob i o ho).keep hS (fun b x hf => hd b x (hsub i hi b x hf)) (fun b x hf => (H.ob i o ho).below hf)
  below := by
    rintro w h F g i x ⟨G, f, rfl, H⟩ hF
    obtain ⟨k, hk, hf⟩ := (H.foot i x).1 hF
    exact (H.ob k _ (List.getElem?_eq_getElem hk)).below hf
  same := by
    rintro w h h' F g ⟨G, f, rfl, H⟩ hh
    rw [cntG_enc] at hh
    refine ⟨G, f, rfl, fun i o ho => ?_, H.apart, H.foot⟩
    rw [hh i (List.getElem?_eq_some_iff.1 ho).1]
    exact (H.ob i o ho).same hh
  ext k g g' := ∃ G G', g = encG G ∧ g' = encG G' ∧ extG k G G'
  ext_mono := by
    rintro k m g g' h0 hk ⟨G, G', rfl, rfl, h⟩
    exact ⟨G, G', rfl, rfl, extG_mono h0 hk h⟩
  none := encG []
  none_cnt := cntG_enc []
  none_holds w h := ⟨[], fun _ _ _ => False, rfl, fun i o ho => by simp at ho, fun i j _ _ hi => by simp at hi, fun b x => ⟨fun h => h.elim, fun ⟨_, _, h⟩ => h⟩⟩
theorem ext_enc {k : Nat} {G G' : List Ob} (h : extG k G G') : Kinds.ext k (encG G) (encG G') := ⟨G, G', rfl, rfl, h⟩
theorem objs_of {w : World} {h : Nat → OneV} {F : Foot} {G : List Ob} (hk : Kinds.holds w h F (encG G)) : ∃ f, Objs w h F G f := by
  obtain ⟨G', f, h1, h2⟩ := hk
  obtain rfl := encG_inj h1
  exact ⟨f, h2⟩
theorem NoDang.lt {G : List Ob} {vs : List Value} {n : Nat} (h : NoDang (encG G) vs) (hn : tok n ∈ vs) : n < G.length := by
  obtain ⟨h0, hh⟩ := h
  refine Inv.lt (h := h0) fun h' h1 => ?_
  have := hh h' fun n hn => h1 n (by have e : Kinds.cnt (encG G) = G.length := cntG_enc G; rw [← e]; exact hn)
  exact List.map_inj_left.1 this _ hn
theorem Inv.lt_at {h : Nat → OneV} {n k j : Nat} (hv : Inv h n (tokAt k j)) : k < n := by
  apply Classical.byContradiction
  intro hc
  have h1 : ∀ b : Nat, concE (fun i => if i = k then ⟨.pointer (some ⟨b, 0, none⟩), rfl⟩ else h i) (tokAt k j) = concE h (tokAt k j) := fun b => hv _ fun i hi => by rw [if_neg (by omega)]
  have h2 := (h1 0).trans (h1 1).symm
  rw [concE_at, concE_at, if_pos rfl, if_pos rfl] at h2
  simp [hatV] at h2
theorem NoDang.lt_at {G : List Ob} {vs : List Value} {n k : Nat} (h : NoDang (encG G) vs) (hn : tokAt n k ∈ vs) : n < G.length := by
  obtain ⟨h0, hh⟩ := h
  refine Inv.lt_at (h := h0) (j := k) fun h' h1 => ?_
  have := hh h' fun n hn => h1 n (by have e : Kinds.cnt (encG G) = G.length := cntG_enc G; rw [← e]; exact hn)
  exact List.map_inj_left.1 this _ hn
end Sx
end Go.Proofs.Ytcedgoaanlbldaa
