/- What is proved: what a net holds, without its places in the store; how each call turns it. No condition. -/
import Derived.Test.YteklnfajpignoaaB8
namespace Go.Proofs.Yteklnfajpignoaa
open Sx

/-- A letter: from, to, body. -/
structure LD where
  f : Int
  t : Int
  bs : List Int
/-- What a net holds. -/
structure ND where
  nodes : Int
  row : List LD
  cuts : Int × Int → Bool
  s : Int
  d : Int
  v : Int
  l : Int
def Lt.data (l : Lt) : LD := ⟨l.f, l.t, l.bs⟩
noncomputable def NetM.data (N : NetM) : ND := ⟨N.nodes, N.row.map Lt.data, fun p => boolV ((getL N.cuts (.agg #[.int .i64 p.1, .int .i64 p.2])).getD (.bool false)), N.sent, N.doubled, N.delivered, N.lost⟩
def way (a b : Int) : Int × Int := (intMin a b, intMax a b)
namespace ND
def new (n : Int) : ND := ⟨n, [], fun _ => false, 0, 0, 0, 0⟩
def room (D : ND) : Bool := decide (D.row.length < 1000)
def there (D : ND) (k : Int) : Bool := decide (0 ≤ k ∧ k < (D.row.length : Nat))
def look (D : ND) (k : Int) : LD := if D.there k then D.row.getD k.toNat ⟨0, 0, []⟩ else ⟨0, 0, []⟩
def sendOk (D : ND) (l : LD) : Bool := wayB D.nodes l.f l.t && decide (l.bs.length ≤ 400) && D.room
def send (D : ND) (l : LD) : ND := if D.sendOk l then { D with row := D.row ++ [l], s := inc D.s } else D
def dblOk (D : ND) (k : Int) : Bool := D.there k && D.room
def dbl (D : ND) (k : Int) : ND := if D.dblOk k then { D with row := D.row ++ [D.look k], d := inc D.d } else D
def los (D : ND) (k : Int) : ND := if D.there k then { D with row := D.row.eraseIdx k.toNat, l := inc D.l } else D
def dlvOk (D : ND) (k : Int) : Bool := D.there k && !D.cuts (way (D.look k).f (D.look k).t)
def dlv (D : ND) (k : Int) : ND := if D.dlvOk k then { D with row := D.row.eraseIdx k.toNat, v := inc D.v } else D
def cut (D : ND) (a b : Int) (c : Bool) : ND := if wayB D.nodes a b then { D with cuts := fun p => if p = way a b then c else D.cuts p } else D
end ND
theorem lookB_data (N : NetM) (k : Int) : lookB N k = N.data.there k := by unfold lookB ND.there NetM.data; simp
theorem layB_data (N : NetM) : layB N = N.data.room := by unfold layB ND.room NetM.data; simp
theorem look_data (G : List Ob) (N : NetM) (k : Int) : (lookL G N k).data = N.data.look k := by
  unfold lookL ND.look
  rw [← lookB_data]
  by_cases hb : lookB N k = true
  · rw [if_pos hb, if_pos hb]
    obtain ⟨h1, h2, _⟩ := lookB_spec hb
    unfold NetM.data
    simp only [List.getD_eq_getElem?_getD, List.getElem?_map, h1]
    rfl
  · rw [if_neg hb, if_neg hb]
    rfl
theorem lookO_data {N : NetM} {k : Int} (h : lookB N k = true) : (lookO N k).data = N.data.look k := by
  rw [← look_data [] N k]
  unfold lookL
  rw [if_pos h]
  rfl
theorem new_data (n : Int) (m : Nat) : (newNet n m).data = ND.new n := rfl
theorem sendOk_data (N : NetM) (l : Lt) : sendOk N l = N.data.sendOk l.data := by unfold sendOk ND.sendOk; rw [layB_data]; rfl
theorem send_data (G : List Ob) (N : NetM) (l : Lt) : (sendN G N l).data = N.data.send l.data := by
  unfold sendN ND.send
  rw [sendOk_data]
  split
  · unfold sendN1 layN1 NetM.data
    simp only [List.map_append, List.map_cons, List.map_nil]
    rfl
  · rfl
theorem dblOk_data (N : NetM) (k : Int) : dblOk N k = N.data.dblOk k := by unfold dblOk ND.dblOk; rw [layB_data, lookB_data]
theorem dbl_data (G : List Ob) (N : NetM) (k : Int) : (dblN G N k).data = N.data.dbl k := by
  unfold dblN ND.dbl
  rw [dblOk_data, ← look_data G]
  split
  · unfold dblN1 layN1 NetM.data
    simp only [List.map_append, List.map_cons, List.map_nil]
    rfl
  · rfl
theorem map_erase {α β : Type} (f : α → β) (l : List α) (k : Nat) : (l.eraseIdx k).map f = (l.map f).eraseIdx k := by
  induction l generalizing k with
  | nil => rfl
  | cons a r ih =>
    cases k with
    | zero => rfl
    | succ k => exact congrArg (f a :: ·) (ih k)
theorem los_data (G : List Ob) (x : Nat) (N : NetM) (k : Int) : (losN G x N k).data = N.data.los k := by
  unfold losN ND.los
  rw [lookB_data]
  split
  · unfold goN reN losN1 NetM.data
    simp only [map_erase]
  · rfl
theorem isCut_data (N : NetM) (a b : Int) : isCut N a b = N.data.cuts (way a b) := rfl
theorem dlvOk_data (N : NetM) (k : Int) : dlvOk N k = N.data.dlvOk k := by
  unfold dlvOk ND.dlvOk
  rw [← lookB_data]
  by_cases hb : lookB N k = true
  · have h := lookO_data hb
    rw [hb, isCut_data, ← h]
    rfl
  · have hb : lookB N k = false := by simpa using hb
    rw [hb]
    rfl
theorem dlv_data (G : List Ob) (x : Nat) (N : NetM) (k : Int) : (dlvN G x N k).data = N.data.dlv k := by
  unfold dlvN ND.dlv
  rw [dlvOk_data]
  split
  · unfold goN reN dlvN1 NetM.data
    simp only [map_erase]
  · rfl
theorem dlvL_data (G : List Ob) (N : NetM) (k : Int) : (dlvL G N k).data = if N.data.dlvOk k then N.data.look k else ⟨0, 0, []⟩ := by
  unfold dlvL
  rw [dlvOk_data]
  split
  · exact look_data G N k
  · rfl
theorem get_put (L : List (Value × Value)) (k k' v : Value) : getL (putL L k v) k' = open Classical in if k' = k then some v else getL L k' := by
  induction L with
  | nil =>
    unfold putL
    simp only [getL]
  | cons p r ih =>
    unfold putL
    by_cases h : k = p.1
    · rw [if_pos h]
      by_cases h' : k' = k
      · subst h'; simp [getL]
      · rw [if_neg h']
        have : ¬ k' = p.1 := fun e => h' (e.trans h.symm)
        simp [getL, h', this]
    · rw [if_neg h]
      by_cases h' : k' = k
      · subst h'
        rw [if_pos rfl]
        rw [if_pos rfl] at ih
        simp [getL, h, ih]
      · rw [if_neg h']
        rw [if_neg h'] at ih
        simp [getL, ih]
theorem cut_data (N : NetM) (a b : Int) (c : Bool) : (cutN N a b c).data = N.data.cut a b c := by
  unfold cutN ND.cut
  have hw : N.data.nodes = N.nodes := rfl
  rw [hw]
  split
  · unfold cutN1 NetM.data
    simp only
    congr 1
    funext p
    rw [get_put]
    by_cases e : p = way a b
    · subst e
      rw [show Value.agg #[Value.int .i64 (way a b).1, Value.int .i64 (way a b).2] = keyOf a b from rfl, if_pos rfl, if_pos rfl]
      rfl
    · rw [if_neg e, if_neg]
      intro e'
      apply e
      unfold keyOf at e'
      injection e' with e'
      have e' := congrArg Array.toList e'
      simp only [List.cons.injEq, Value.int.injEq, true_and, and_true] at e'
      exact Prod.ext e'.1 e'.2
  · rfl
end Go.Proofs.Yteklnfajpignoaa
