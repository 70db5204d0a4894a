/- What is proved: the document's net: what it holds, and how places of letters that wait are found; how that stands to what a net holds. No program in sight; the document's net in the store; the contracts of its New, Waits, way, place, pair, cut and Look; the contracts of the New, Waits, way, place and cut of the document's net. No condition but those each law names. -/
import Derived.Test.YteklnfajpignoaaN2
namespace Go.Proofs.Yteklnfajpignoaa
open Sx hiding Sl
set_option maxRecDepth 100000

/-- A letter of the document's net. -/
structure RL where
  f : Int
  t : Int
  v : Value
  bs : List Int
  w : Bool
def RL.cells (l : RL) : List Value := [.int .i64 l.f, .int .i64 l.t, l.v, .bool l.w]
def RL.data (l : RL) : LD := ⟨l.f, l.t, l.bs⟩
def RL.off (l : RL) : RL := { l with w := false }
def rowR (r : List RL) : List Value := (r.map RL.cells).flatten
def cutW (r : List (Int × Int)) : List Value := (r.map fun p => [Value.int .i64 p.1, Value.int .i64 p.2]).flatten
structure RefM where
  nodes : Int
  all : List RL
  av : Value
  cuts : List (Int × Int)
  cv : Value
  n0 : Int
  n1 : Int
  n2 : Int
  n3 : Int
def RefM.cells (R : RefM) : List Value := [.int .i64 R.nodes, R.av, R.cv, .int .i64 R.n0, .int .i64 R.n1, .int .i64 R.n2, .int .i64 R.n3]
def waitL (r : List RL) : List RL := r.filter (·.w)
theorem waitL_cons (l : RL) (r : List RL) : waitL (l :: r) = if l.w then l :: waitL r else waitL r := by
  unfold waitL
  rw [List.filter_cons]
/-- The place of the letter number k that waits. -/
def placeI : List RL → Int → Int → Int
  | [], _, _ => -1
  | l :: r, k, i => if l.w then (if k = 0 then i else placeI r (IntKind.i64.wrap (k - 1)) (i + 1)) else placeI r k (i + 1)
def Rng (k : Int) : Prop := -9223372036854775808 ≤ k ∧ k < 9223372036854775808
theorem wrap_rng {k : Int} (h0 : -9223372036854775808 ≤ k) (h1 : k < 9223372036854775808) : IntKind.i64.wrap k = k := by rw [IntWalk.i64_left, IntWalk.wrap64_in _ (by omega)]
theorem place_spec : ∀ (r : List RL) (k i : Int), 0 ≤ k → k < 9223372036854775808 →
    (∃ p, ∃ hp : p < r.length, placeI r k i = i + p ∧ k.toNat < (waitL r).length ∧ (waitL r)[k.toNat]? = some r[p] ∧ waitL (r.set p r[p].off) = (waitL r).eraseIdx k.toNat) ∨ ((waitL r).length ≤ k.toNat ∧ placeI r k i = -1)
  | [], k, i, h0, h1 => .inr ⟨Nat.zero_le _, rfl⟩
  | l :: r, k, i, h0, h1 => by
    unfold placeI
    by_cases hw : l.w = true
    · by_cases hk : k = 0
      · subst hk
        refine .inl ⟨0, by simp, ?_, ?_, ?_, ?_⟩
        · rw [if_pos hw, if_pos rfl]; simp
        · rw [waitL_cons, if_pos hw]; simp
        · rw [waitL_cons, if_pos hw]; rfl
        · show waitL (l.off :: r) = _
          rw [waitL_cons, waitL_cons, if_pos hw, if_neg (by simp [RL.off])]
          rfl
      · have hw1 : IntKind.i64.wrap (k - 1) = k - 1 := wrap_rng (by omega) (by omega)
        have ih := place_spec r (k - 1) (i + 1) (by omega) (by omega)
        rw [if_pos hw, if_neg hk, hw1]
        obtain ⟨n, hn⟩ : ∃ n : Nat, k = (n : Int) + 1 := ⟨(k - 1).toNat, by omega⟩
        subst hn
        have e1 : ((n : Int) + 1 - 1).toNat = n := by omega
        have e2 : ((n : Int) + 1).toNat = n + 1 := by omega
        rw [e1] at ih
        rw [e2, waitL_cons, if_pos hw]
        rcases ih with ⟨p, hp, g1, g2, g3, g4⟩ | ⟨g1, g2⟩
        · refine .inl ⟨p + 1, by simp; omega, by rw [g1]; omega, by simp; omega, by simpa using g3, ?_⟩
          show waitL (l :: r.set p r[p].off) = _
          rw [waitL_cons, if_pos hw, g4]
          rfl
        · exact .inr ⟨by simp; omega, g2⟩
    · have ih := place_spec r k (i + 1) h0 h1
      rw [if_neg hw, waitL_cons, if_neg hw]
      rcases ih with ⟨p, hp, g1, g2, g3, g4⟩ | ⟨g1, g2⟩
      · refine .inl ⟨p + 1, by simp; omega, by rw [g1]; omega, g2, by simpa using g3, ?_⟩
        show waitL (l :: r.set p r[p].off) = _
        rw [waitL_cons, if_neg hw, g4]
      · exact .inr ⟨g1, g2⟩
theorem place_len : ∀ (r : List RL) (k i : Int), placeI r k i = -1 ∨ ∃ p : Nat, p < r.length ∧ placeI r k i = i + p
  | [], _, _ => .inl rfl
  | l :: r, k, i => by
    unfold placeI
    split
    · split
      · exact .inr ⟨0, by simp, by simp⟩
      · rcases place_len r (IntKind.i64.wrap (k - 1)) (i + 1) with h | ⟨p, hp, h⟩
        · exact .inl h
        · exact .inr ⟨p + 1, by simp; omega, by rw [h]; omega⟩
    · rcases place_len r k (i + 1) with h | ⟨p, hp, h⟩
      · exact .inl h
      · exact .inr ⟨p + 1, by simp; omega, by rw [h]; omega⟩
theorem waitL_data_set (r : List RL) (p : Nat) (l : RL) : ∀ h : p < r.length, l.w = r[p].w → l.data = r[p].data → (waitL (r.set p l)).map RL.data = (waitL r).map RL.data := by
  induction r generalizing p with
  | nil => intro h; simp at h
  | cons a r ih =>
    intro h hw hd
    cases p with
    | zero =>
      have hw : l.w = a.w := hw
      have hd : l.data = a.data := hd
      show (waitL (l :: r)).map RL.data = _
      rw [waitL_cons, waitL_cons, hw]
      split
      · simp [hd]
      · rfl
    | succ p =>
      show (waitL (a :: r.set p l)).map RL.data = _
      rw [waitL_cons, waitL_cons]
      have := ih p (by simpa using h) hw hd
      split
      · simp [this]
      · exact this
/-- A way as a pair. -/
theorem pair_way (a b : Int) : (if a > b then (b, a) else (a, b)) = way a b := by
  unfold way intMin intMax
  by_cases h : a > b
  · rw [if_pos h]
    apply Prod.ext
    · show b = ite _ _ _
      split <;> omega
    · show a = ite _ _ _
      split <;> omega
  · rw [if_neg h]
    apply Prod.ext
    · show a = ite _ _ _
      split <;> omega
    · show b = ite _ _ _
      split <;> omega
/-- Both hold the same. -/
structure Alike (R : RefM) (D : ND) : Prop where
  nodes : D.nodes = R.nodes
  row : D.row = (waitL R.all).map RL.data
  cuts : ∀ p, D.cuts p = decide (p ∈ R.cuts)
  s : D.s = R.n0
  d : D.d = R.n1
  v : D.v = R.n2
  l : D.l = R.n3
namespace RefM
def new (n : Int) : RefM := ⟨n, [], .slice none 0 0, [], .slice none 0 0, 0, 0, 0, 0⟩
def waits (R : RefM) : Nat := (waitL R.all).length
def sendOk (R : RefM) (f t : Int) (n : Nat) : Bool := wayB R.nodes f t && decide (n ≤ 400) && decide (R.waits < 1000)
def place (R : RefM) (k : Int) : Int := placeI R.all k 0
def lookB (R : RefM) (k : Int) : Bool := decide (0 ≤ R.place k) && decide (0 ≤ k)
def lookO (R : RefM) (k : Int) : RL := R.all.getD (R.place k).toNat ⟨0, 0, .slice none 0 0, [], false⟩
def dblOk (R : RefM) (k : Int) : Bool := R.lookB k && decide (R.waits < 1000)
def isCut (R : RefM) (a b : Int) : Bool := decide (way a b ∈ R.cuts)
def dlvOk (R : RefM) (k : Int) : Bool := R.lookB k && !R.isCut (R.lookO k).f (R.lookO k).t
def taken (R : RefM) (k : Int) : List RL := R.all.set (R.place k).toNat (R.lookO k).off
def cutL (R : RefM) (a b : Int) (c : Bool) : List (Int × Int) := R.cuts.filter (fun p => !decide (p = way a b)) ++ if c then [way a b] else []
end RefM
theorem Alike.new (n : Int) : Alike (RefM.new n) (ND.new n) := ⟨rfl, rfl, fun _ => rfl, rfl, rfl, rfl, rfl⟩
theorem Alike.waits {R : RefM} {D : ND} (h : Alike R D) : D.row.length = R.waits := by rw [h.row, List.length_map]; rfl
theorem Alike.room {R : RefM} {D : ND} (h : Alike R D) : D.room = decide (R.waits < 1000) := by unfold ND.room; rw [h.waits]
theorem Alike.sendOk {R : RefM} {D : ND} (h : Alike R D) (l : LD) : D.sendOk l = R.sendOk l.f l.t l.bs.length := by unfold ND.sendOk RefM.sendOk; rw [h.room, h.nodes]
theorem Alike.there {R : RefM} {D : ND} (h : Alike R D) {k : Int} (hk : Rng k) : D.there k = R.lookB k := by
  unfold ND.there RefM.lookB
  rw [h.waits]
  by_cases h0 : 0 ≤ k
  · rcases place_spec R.all k 0 h0 hk.2 with ⟨p, hp, g1, g2, g3, g4⟩ | ⟨g1, g2⟩
    · rw [show R.place k = _ from g1, decide_eq_true h0, decide_eq_true (show (0 : Int) ≤ 0 + (p : Int) by omega), decide_eq_true ⟨h0, (by unfold RefM.waits; omega)⟩]
      rfl
    · rw [show R.place k = _ from g2, decide_eq_false (show ¬ (0 : Int) ≤ -1 by omega), decide_eq_false (by unfold RefM.waits; omega)]
      rfl
  · rw [decide_eq_false h0, Bool.and_false, decide_eq_false (by omega)]
/-- A letter that is there: its place, and what the row is without it. -/
theorem RefM.look_spec {R : RefM} {k : Int} (hk : Rng k) (hb : R.lookB k = true) : ∃ p : Nat, ∃ hp : p < R.all.length, R.place k = p ∧ R.lookO k = R.all[p] ∧ (waitL R.all)[k.toNat]? = some R.all[p] ∧ R.taken k = R.all.set p R.all[p].off ∧ waitL (R.taken k) = (waitL R.all).eraseIdx k.toNat := by
  unfold RefM.lookB at hb
  rw [Bool.and_eq_true, decide_eq_true_eq, decide_eq_true_eq] at hb
  rcases place_spec R.all k 0 hb.2 hk.2 with ⟨p, hp, g1, g2, g3, g4⟩ | ⟨g1, g2⟩
  · have g1 : R.place k = p := by rw [show R.place k = _ from g1]; omega
    have hl : R.lookO k = R.all[p] := by
      unfold RefM.lookO
      rw [g1, Int.toNat_natCast, List.getD_eq_getElem?_getD, List.getElem?_eq_getElem hp]
      rfl
    have ht : R.taken k = R.all.set p R.all[p].off := by unfold RefM.taken; rw [g1, hl, Int.toNat_natCast]
    exact ⟨p, hp, g1, hl, g3, ht, by rw [ht]; exact g4⟩
  · have : R.place k = -1 := g2
    omega
theorem Alike.look {R : RefM} {D : ND} (h : Alike R D) {k : Int} (hk : Rng k) (hb : R.lookB k = true) : D.look k = (R.lookO k).data := by
  have ht := h.there hk
  rw [hb] at ht
  obtain ⟨p, hp, g1, g2, g3, _⟩ := RefM.look_spec hk hb
  unfold ND.look
  rw [if_pos ht, h.row, List.getD_eq_getElem?_getD, List.getElem?_map, g3, g2]
  rfl
theorem Alike.send {R : RefM} {D : ND} (h : Alike R D) (l : LD) (hb : R.sendOk l.f l.t l.bs.length = true) (av v : Value) :
    Alike { R with all := R.all ++ [⟨l.f, l.t, v, l.bs, true⟩], av := av, n0 := inc R.n0 } (D.send l) := by
  unfold ND.send
  rw [h.sendOk, if_pos hb]
  refine ⟨h.nodes, ?_, h.cuts, by show inc D.s = _; rw [h.s], h.d, h.v, h.l⟩
  show D.row ++ [l] = _
  rw [h.row]
  unfold waitL
  simp [RL.data]
theorem Alike.dblOk {R : RefM} {D : ND} (h : Alike R D) {k : Int} (hk : Rng k) : D.dblOk k = R.dblOk k := by unfold ND.dblOk RefM.dblOk; rw [h.there hk, h.room]
theorem Alike.dbl {R : RefM} {D : ND} (h : Alike R D) {k : Int} (hk : Rng k) (hb : R.dblOk k = true) (av v : Value) :
    Alike { R with all := R.all ++ [⟨(R.lookO k).f, (R.lookO k).t, v, (R.lookO k).bs, true⟩], av := av, n1 := inc R.n1 } (D.dbl k) := by
  have hl : R.lookB k = true := by unfold RefM.dblOk at hb; rw [Bool.and_eq_true] at hb; exact hb.1
  unfold ND.dbl
  rw [h.dblOk hk, if_pos hb]
  refine ⟨h.nodes, ?_, h.cuts, h.s, by show inc D.d = _; rw [h.d], h.v, h.l⟩
  show D.row ++ [D.look k] = _
  rw [h.row, h.look hk hl]
  unfold waitL
  simp [RL.data]
theorem Alike.takes {R : RefM} {D : ND} (h : Alike R D) {k : Int} (hk : Rng k) (hl : R.lookB k = true) : D.row.eraseIdx k.toNat = (waitL (R.taken k)).map RL.data := by
  obtain ⟨p, hp, _, _, _, _, g6⟩ := RefM.look_spec hk hl
  rw [g6, h.row, map_erase]
theorem Alike.los {R : RefM} {D : ND} (h : Alike R D) {k : Int} (hk : Rng k) (hl : R.lookB k = true) : Alike { R with all := R.taken k, n3 := inc R.n3 } (D.los k) := by
  unfold ND.los
  rw [h.there hk, if_pos hl]
  exact ⟨h.nodes, h.takes hk hl, h.cuts, h.s, h.d, h.v, by show inc D.l = _; rw [h.l]⟩
theorem Alike.dlvOk {R : RefM} {D : ND} (h : Alike R D) {k : Int} (hk : Rng k) : D.dlvOk k = R.dlvOk k := by
  unfold ND.dlvOk RefM.dlvOk
  rw [h.there hk]
  cases hb : R.lookB k
  · rfl
  · rw [h.cuts, h.look hk hb]
    rfl
theorem Alike.dlv {R : RefM} {D : ND} (h : Alike R D) {k : Int} (hk : Rng k) (hb : R.dlvOk k = true) : Alike { R with all := R.taken k, n2 := inc R.n2 } (D.dlv k) := by
  have hl : R.lookB k = true := by unfold RefM.dlvOk at hb; rw [Bool.and_eq_true] at hb; exact hb.1
  unfold ND.dlv
  rw [h.dlvOk hk, if_pos hb]
  exact ⟨h.nodes, h.takes hk hl, h.cuts, h.s, h.d, by show inc D.v = _; rw [h.v], h.l⟩
theorem Alike.cut {R : RefM} {D : ND} (h : Alike R D) {a b : Int} (c : Bool) (hw : wayB R.nodes a b = true) (cv : Value) : Alike { R with cuts := R.cutL a b c, cv := cv } (D.cut a b c) := by
  unfold ND.cut
  rw [h.nodes, if_pos hw]
  refine ⟨rfl, h.row, fun p => ?_, h.s, h.d, h.v, h.l⟩
  show (if p = way a b then c else D.cuts p) = decide (p ∈ R.cutL a b c)
  rw [h.cuts]
  unfold RefM.cutL
  by_cases e : p = way a b
  · subst e
    cases c <;> simp
  · cases c <;> simp [e]
/-- What refuses leaves it as it was. -/
theorem Alike.send_no {R : RefM} {D : ND} (h : Alike R D) (l : LD) (hb : R.sendOk l.f l.t l.bs.length = false) : Alike R (D.send l) := by
  unfold ND.send
  rw [h.sendOk, hb]
  exact h
theorem Alike.dbl_no {R : RefM} {D : ND} (h : Alike R D) {k : Int} (hk : Rng k) (hb : R.dblOk k = false) : Alike R (D.dbl k) := by
  unfold ND.dbl
  rw [h.dblOk hk, hb]
  exact h
theorem Alike.los_no {R : RefM} {D : ND} (h : Alike R D) {k : Int} (hk : Rng k) (hb : R.lookB k = false) : Alike R (D.los k) := by
  unfold ND.los
  rw [h.there hk, hb]
  exact h
theorem Alike.dlv_no {R : RefM} {D : ND} (h : Alike R D) {k : Int} (hk : Rng k) (hb : R.dlvOk k = false) : Alike R (D.dlv k) := by
  unfold ND.dlv
  rw [h.dlvOk hk, hb]
  exact h
theorem Alike.cut_no {R : RefM} {D : ND} (h : Alike R D) {a b : Int} (c : Bool) (hw : wayB R.nodes a b = false) : Alike R (D.cut a b c) := by
  unfold ND.cut
  rw [h.nodes, hw]
  exact h
end Go.Proofs.Yteklnfajpignoaa

namespace Go.Proofs.Yteklnfajpignoaa
open Sx hiding Sl
set_option maxRecDepth 100000

theorem rowR_length (r : List RL) : (rowR r).length = r.length * 4 := by
  induction r with
  | nil => rfl
  | cons l r ih =>
    show (l.cells ++ rowR r).length = _
    rw [List.length_append, ih, List.length_cons]
    show 4 + _ = _
    omega
theorem cutW_length (r : List (Int × Int)) : (cutW r).length = r.length * 2 := by
  induction r with
  | nil => rfl
  | cons l r ih =>
    show ([Value.int .i64 l.1, Value.int .i64 l.2] ++ cutW r).length = (r.length + 1) * 2
    rw [List.length_append, ih]
    show 2 + _ = _
    omega
theorem rowR_at : ∀ {r : List RL} {k j : Nat} (hk : k < r.length), j < 4 → (rowR r)[k * 4 + j]? = r[k].cells[j]?
  | l :: r, 0, j, hk, hj => by
    show (l.cells ++ rowR r)[0 * 4 + j]? = _
    rw [List.getElem?_append_left (by show 0 * 4 + j < 4; omega), Nat.zero_mul, Nat.zero_add]
    rfl
  | l :: r, k + 1, j, hk, hj => by
    show (l.cells ++ rowR r)[(k + 1) * 4 + j]? = _
    rw [List.getElem?_append_right (by show 4 ≤ _; omega), show (k + 1) * 4 + j - l.cells.length = k * 4 + j by show _ - 4 = _; omega]
    exact rowR_at (by simpa using hk) hj
theorem cutW_at : ∀ {r : List (Int × Int)} {k j : Nat} (hk : k < r.length), j < 2 → (cutW r)[k * 2 + j]? = [Value.int .i64 r[k].1, Value.int .i64 r[k].2][j]?
  | l :: r, 0, j, hk, hj => by
    show ([Value.int .i64 l.1, Value.int .i64 l.2] ++ cutW r)[0 * 2 + j]? = _
    rw [List.getElem?_append_left (by show 0 * 2 + j < 2; omega), Nat.zero_mul, Nat.zero_add]
    rfl
  | l :: r, k + 1, j, hk, hj => by
    show ([Value.int .i64 l.1, Value.int .i64 l.2] ++ cutW r)[(k + 1) * 2 + j]? = _
    rw [List.getElem?_append_right (by show 2 ≤ _; omega), show (k + 1) * 2 + j - [Value.int .i64 l.1, Value.int .i64 l.2].length = k * 2 + j by show _ - 2 = _; omega]
    exact cutW_at (by simpa using hk) hj
theorem rowR_snoc (r : List RL) (l : RL) : rowR (r ++ [l]) = rowR r ++ l.cells := by
  unfold rowR
  rw [List.map_append, List.flatten_append]
  simp
theorem cutW_snoc (r : List (Int × Int)) (l : Int × Int) : cutW (r ++ [l]) = cutW r ++ [Value.int .i64 l.1, Value.int .i64 l.2] := by
  unfold cutW
  rw [List.map_append, List.flatten_append]
  simp
/-- The document's net in the store. -/
structure IsRef (G : List Ob) (y : Nat) (R : RefM) : Prop where
  ob : G[y]? = some (.ptr R.cells)
  row : Dst G R.av 4 R.all.length (rowR R.all)
  body : ∀ l ∈ R.all, Dst G l.v 1 l.bs.length (l.bs.map (Value.int .u8)) ∧ l.bs.length ≤ 1000000
  cut : Dst G R.cv 2 R.cuts.length (cutW R.cuts)
theorem IsRef.rows {G : List Ob} {y : Nat} {R : RefM} (h : IsRef G y R) : Sx.Sl G R.av 4 R.all.length (rowR R.all) := dst_sl h.row (rowR_length _)
theorem IsRef.cutw {G : List Ob} {y : Nat} {R : RefM} (h : IsRef G y R) : Sx.Sl G R.cv 2 R.cuts.length (cutW R.cuts) := dst_sl h.cut (cutW_length _)
theorem Dst.mono {G G' : List Ob} {v : Value} {s len : Nat} {xs : List Value} (h : Sx.Dst G v s len xs) (hk : ∀ d : Nat, G[d]? = some (.row s len xs) → G'[d]? = some (.row s len xs)) : Sx.Dst G' v s len xs := by
  rcases h with h | ⟨d, rfl, h⟩
  · exact .inl h
  · exact .inr ⟨d, rfl, hk d h⟩
theorem IsRef.mono {G G' : List Ob} {y : Nat} {R : RefM} (h : IsRef G y R) (h1 : ∀ c, G[y]? = some (.ptr c) → G'[y]? = some (.ptr c)) (h2 : ∀ (d : Nat) s len xs, s ≠ 3 → G[d]? = some (.row s len xs) → G'[d]? = some (.row s len xs)) : IsRef G' y R :=
  ⟨h1 _ h.ob, Dst.mono h.row fun d => h2 d _ _ _ (by decide), fun l hl => ⟨Dst.mono (h.body l hl).1 fun d => h2 d _ _ _ (by decide), (h.body l hl).2⟩, Dst.mono h.cut fun d => h2 d _ _ _ (by decide)⟩
theorem IsRef.keeps {G G' : List Ob} {y : Nat} {R : RefM} (h : IsRef G y R) (hk : Keeps G G') : IsRef G' y R := h.mono (fun _ => hk _ _) fun _ _ _ _ _ => hk _ _
/-- A net's step leaves the document's net as it is. -/
theorem IsRef.net {G G' : List Ob} {x y : Nat} {N N' : NetM} {R : RefM} (h : IsRef G y R) (hN : IsNet G x N) (hxy : x ≠ y) (hs : Step x N G N' G') : IsRef G' y R := by
  refine h.mono (fun c hc => ?_) fun d s len xs hs3 hd => ?_
  · refine hs.fr.2 _ _ hc (Ne.symm hxy) (fun e => ?_) (hN.ne hc fun _ _ _ e => by cases e)
    rw [e, hN.map] at hc
    cases hc
  · refine hs.fr.2 _ _ hd (fun e => ?_) (fun e => ?_) (fun e => ?_)
    · rw [e, hN.ob] at hd
      cases hd
    · rw [e, hN.map] at hd
      cases hd
    · rcases hN.row with ⟨e', _⟩ | ⟨d', e', hr⟩
      · rw [e'] at e
        cases e
      · rw [e'] at e
        have := tok_inj e
        subst this
        rw [hr] at hd
        cases hd
        exact hs3 rfl
/-- What the document's net may turn. -/
def FrR (y : Nat) (G G' : List Ob) : Prop := G.length ≤ G'.length ∧ ∀ (n : Nat) o, G[n]? = some o → n ≠ y → (∀ len c, o ≠ .row 4 len c) → (∀ len c, o ≠ .row 2 len c) → G'[n]? = some o
theorem FrR.refl {y : Nat} {G : List Ob} : FrR y G G := ⟨Nat.le_refl _, fun _ _ h _ _ _ => h⟩
theorem FrR.trans {y : Nat} {A B C : List Ob} (h : FrR y A B) (h' : FrR y B C) : FrR y A C := ⟨Nat.le_trans h.1 h'.1, fun n o ho h1 h2 h3 => h'.2 n o (h.2 n o ho h1 h2 h3) h1 h2 h3⟩
theorem FrR.keeps {y : Nat} {A B : List Ob} (h : Keeps A B) (hl : A.length ≤ B.length) : FrR y A B := ⟨hl, fun n o ho _ _ _ => h n o ho⟩
theorem FrR.set {y : Nat} {G : List Ob} (o : Ob) : FrR y G (G.set y o) := ⟨by simp, fun n o' ho h1 _ _ => by rw [List.getElem?_set_ne (Ne.symm h1)]; exact ho⟩
theorem ptr_ne {G : List Ob} {y n : Nat} {o : Ob} (hy : ∃ c, G[y]? = some (.ptr c)) (ho : G[n]? = some o) (hno : ∀ c, o ≠ .ptr c) : n ≠ y := fun e => by
  obtain ⟨c, hy⟩ := hy
  subst e
  rw [hy] at ho
  cases ho
  exact hno _ rfl
theorem FrR.ro {y : Nat} {G G' : List Ob} (hf : FrR y G G') (hy : ∃ c, G[y]? = some (.ptr c)) : KeepsRo G G' := fun n s l c hn => hf.2 _ _ hn (ptr_ne hy hn fun _ e => by cases e) (fun _ _ e => by cases e) fun _ _ e => by cases e
theorem IsNet.ref {G G' : List Ob} {x y : Nat} {N : NetM} (h : IsNet G x N) (hxy : x ≠ y) (hy : ∃ c, G[y]? = some (.ptr c)) (hf : FrR y G G') : IsNet G' x N := by
  refine ⟨hf.2 _ _ h.ob hxy (fun _ _ e => (by cases e)) (fun _ _ e => (by cases e)), ?_, fun l hl => ⟨(h.body l hl).1.keep (hf.ro hy), (h.body l hl).2⟩, hf.2 _ _ h.map (ptr_ne hy h.map fun _ e => (by cases e)) (fun _ _ e => (by cases e)) (fun _ _ e => (by cases e)), h.keys, h.len⟩
  exact Dst.mono h.row fun d hd => hf.2 _ _ hd (ptr_ne hy hd fun _ e => by cases e) (fun _ _ e => by cases e) fun _ _ e => by cases e
def rE (n : Nat) : List E := [.int .i64 (.var n), .int .i64 (.var (n + 1)), .hnd (n + 2), .bool (.var (n + 3))]
def ref : E := .pla (.var 0) (.lit 0) 0
def wE (n : Nat) : List E := [.int .i64 (.var n), .int .i64 (.var (n + 1))]
/-- A way as a pair. -/
def pairC : Con := mkCon 44 [] (.agg (wE 0))
def pairS : ConS := fun vs e => ∃ a b, vs = [.int .i64 a, .int .i64 b] ∧ e.i 0 = (way a b).1 ∧ e.i 1 = (way a b).2
def treePair : Tree :=
 (.split (.cmp .gtr (.var 0) (.var 1))
 (leafT (.agg ([(.int .i64 (.var 1)), (.int .i64 (.var 0))])) .nil)
 (leafT (.agg ([(.int .i64 (.var 0)), (.int .i64 (.var 1))])) .nil))
theorem pair_holds : pairC.holds Try.prog pairS := by
  refine con_of_run (cs := []) (S := []) (LT := []) (depth := 1) (fuel := 10) (nv := 200) (gh := 0) (av := [.int .i64 (.var 0), .int .i64 (.var 1)]) (T := treePair) trivial (by kernel_rfl) (by kernel_rfl) (by kernel_rfl) ?_
  rintro vs g e0 ⟨a, b, hvs, h0, h1⟩
  have hvs : vs = [.int .i64 a, .int .i64 b] := hvs
  subst hvs
  refine ⟨noLoops, (Env.ofL [.int .i64 a, .int .i64 b]).st (encG []), rfl, rfl, ?_⟩
  rw [← pair_way] at h0 h1
  refine sem_split (fun h => ?_) (fun h => ?_)
  · have h : a > b := of_decide_eq_true h
    rw [if_pos h] at h0 h1
    exact sem_ret rfl (by show _ = Value.agg #[.int .i64 (e0.i 0), .int .i64 (e0.i 1)]; rw [h0, h1]; rfl) trivial
  · have h : ¬ a > b := of_decide_eq_false h
    rw [if_neg h] at h0 h1
    exact sem_ret rfl (by show _ = Value.agg #[.int .i64 (e0.i 0), .int .i64 (e0.i 1)]; rw [h0, h1]; rfl) trivial
def rp : List Con := [loadC 3 (.int .i64 (.var 0)), loadC 36 (.hnd 0), loadC 37 (.hnd 0), loadC 46 (.agg (rE 0)), loadC 4 (.bool (.var 0)), loadC 68 (.agg (wE 0)), lenC 36, lenC 37, lenC 30, idxC 36, idxC 37, idxC 30, storeC 3, storeC 4, storeC 5, storeC 36, storeC 37, appC 36, bsC 36 1, appC 37, bsC 37 1, boxC 40, eqC 68, neC 68, pairC]
def rpS : List ConS := [conR (loadR (.int .i64 (.var 0))), conR (loadR (.hnd 0)), conR (loadR (.hnd 0)), conR (loadRowR 4 (.agg (rE 0))), conR (loadR (.bool (.var 0))), conR (loadRowR 2 (.agg (wE 0))), conR lenR, conR lenR, conR lenR, conR (idxR 4), conR (idxR 2), conR (idxR 1), conR (storeR 1), conR (storeR 1), conR (storeR 1), conR (storeR 1), conR (storeR 1),
  conR (appR 4 48), conR (bsR 4 1), conR (appR 2 16), conR (bsR 2 1), conR boxR, conR (CmpR (IntsEq 2 .i64) false), conR (CmpR (IntsEq 2 .i64) true), pairS]
theorem rp_holds : Cons Try.prog rp rpS :=
  ⟨load_holds (by kernel_rfl) rfl, load_holds (by kernel_rfl) rfl, load_holds (by kernel_rfl) rfl, loadRow_holds (by kernel_rfl) (by kernel_rfl) rfl, load_holds (by kernel_rfl) rfl, loadRow_holds (by kernel_rfl) (by kernel_rfl) rfl,
    len_holds Try.underlying36, len_holds Try.underlying37, len_holds Try.underlying30, idx_holds Try.underlying36 (by kernel_rfl), idx_holds Try.underlying37 (by kernel_rfl), idx_holds Try.underlying30 (by kernel_rfl),
    store_holds (by kernel_rfl), store_holds (by kernel_rfl), store_holds (by kernel_rfl), store_holds (by kernel_rfl), store_holds (by kernel_rfl),
    app_ok (z := .agg #[.int .i64 0, .int .i64 0, .slice none 0 0, .bool false]) Try.underlying36 (by kernel_rfl) rfl, bs_ok (b := 48) (z := .agg #[.int .i64 0, .int .i64 0, .slice none 0 0, .bool false]) Try.underlying36 (by kernel_rfl) rfl,
    app_ok (z := .agg #[.int .i64 0, .int .i64 0]) Try.underlying37 (by kernel_rfl) rfl, bs_ok (b := 16) (z := .agg #[.int .i64 0, .int .i64 0]) Try.underlying37 (by kernel_rfl) rfl,
    box_holds, (ints_ok (n := 2) (s := 1) (b := 8) (z := .int .i64 0) (k := .i64) Try.underlying68 (by kernel_rfl) Try.underlying3 (by kernel_rfl) (by kernel_rfl)).1, (ints_ok (n := 2) (s := 1) (b := 8) (z := .int .i64 0) (k := .i64) Try.underlying68 (by kernel_rfl) Try.underlying3 (by kernel_rfl) (by kernel_rfl)).2, pair_holds, trivial⟩
end Go.Proofs.Yteklnfajpignoaa

namespace Go.Proofs.Yteklnfajpignoaa
open Sx hiding Sl
set_option maxRecDepth 100000

/-- New. -/
def rnewG (G : List Ob) (n : Int) : List Ob := if n < 1 ∨ 32 < n then G else G ++ [.ptr (RefM.new n).cells]
def rnewV (G : List Ob) (n : Int) : Value := if n < 1 ∨ 32 < n then .pointer none else tokAt G.length 0
def rnewR (G : List Ob) (l : List Value) (e : Env) : Prop := ∃ n, l = [.int .i64 n] ∧ e.v 0 = rnewV G n ∧ e.g gv = encG (rnewG G n)
def rnewC : Con := mkCon 8 [] (.hnd 0) 2
def treeRnew : Tree :=
 (.split (.cmp .lss (.var 0) (.lit 1))
 (leafG (.lit (.pointer none)) .nil 199)
 (.split (.cmp .gtr (.var 0) (.lit 32))
 (leafG (.lit (.pointer none)) .nil 199)
 (.call 21 9200 [(.agg (cats [[(.int .i64 (.var 0)), (.lit (.slice none 0 0)), (.lit (.slice none 0 0))], rep 4 (.int .i64 (.lit 0))])), (.var 199)]
 (leafG (.pla (.var 9200) (.lit 0) 0) .nil 10199))))
theorem rnew_holds : rnewC.holds Try.prog (conR rnewR) := by
  refine con_of_runG (cs := rp) (S := rpS) (LT := []) (depth := 1) (fuel := 10) (nv := 200) (av := [.int .i64 (.var 0)]) (T := treeRnew) rp_holds (by kernel_rfl) (by kernel_rfl) (by kernel_rfl) ?_
  rintro G l e0 ⟨n, rfl, he, hG⟩
  refine ⟨noLoops, (Env.ofL [.int .i64 n]).st (encG G), rfl, rfl, ?_⟩
  unfold rnewV at he
  unfold rnewG at hG
  refine sem_split (fun h => ?_) (fun h => ?_)
  · have h : n < 1 := of_decide_eq_true h
    rw [if_pos (.inl h)] at he hG
    exact sem_retG rfl (by show _ = oneOf (e0.v 0); rw [he]; rfl) trivial (by rw [hG]; rfl)
  · have h1 : ¬ n < 1 := of_decide_eq_false h
    refine sem_split (fun h => ?_) (fun h => ?_)
    · have h : n > 32 := of_decide_eq_true h
      rw [if_pos (.inr h)] at he hG
      exact sem_retG rfl (by show _ = oneOf (e0.v 0); rw [he]; rfl) trivial (by rw [hG]; rfl)
    · have h2 : ¬ n > 32 := of_decide_eq_false h
      rw [if_neg (by omega)] at he hG
      refine sem_step G [.agg (RefM.new n).cells.toArray] ((Env.ofL [.int .i64 G.length]).ans (encG (G ++ [.ptr (RefM.new n).cells]))) rfl rfl
        ⟨_, rfl, ?_, fun cs e => (by cases e), Nat.succ_pos 6, by simp [Env.ofL, Env.ans], rfl⟩ ?_
      · intro c hc
        simp [Value.cells, RefM.cells, RefM.new] at hc
        rcases hc with rfl | rfl | rfl <;> rfl
      · exact sem_retG rfl (by show _ = oneOf (e0.v 0); rw [he]; rfl) trivial (by rw [hG]; rfl)
theorem rnew_is (G : List Ob) {n : Int} (h : ¬ (n < 1 ∨ 32 < n)) : IsRef (rnewG G n) G.length (RefM.new n) := by
  unfold rnewG
  rw [if_neg h]
  exact ⟨by rw [List.getElem?_append_right (Nat.le_refl _), Nat.sub_self]; rfl, .inl ⟨rfl, rfl, rfl⟩, fun l hl => (by cases hl), .inl ⟨rfl, rfl, rfl⟩⟩
theorem rnew_keeps (G : List Ob) (n : Int) : Keeps G (rnewG G n) := fun k o ho => by
  unfold rnewG
  split
  · exact ho
  · rw [List.getElem?_append_left (List.getElem?_eq_some_iff.1 ho).1]
    exact ho
theorem IsRef.step_av {S : List ConS} {LQ : LoopS} {K : Env → Ex → St → Prop} {ρ : Env} {ci base : Nat} {vs : List E} {t : Tree} {G : List Ob} {y : Nat} {R : RefM} (h : IsRef G y R) (h1 : S[ci]? = some (conR (loadR (.hnd 0)))) (h2 : E.nams ρ lay0 vs = [tokAt y 1, encG G])
    (h4 : treeSem S LQ K (ρ.from_ base (Env.ofL [R.av])) t) : treeSem S LQ K ρ (.call ci base vs t) :=
  sem_step G [tokAt y 1] (Env.ofL [R.av]) h1 h2 ⟨y, 1, _, R.av, rfl, cells_ptr h.ob, rfl, hnd_nam rfl h.row.one⟩ h4
theorem IsRef.step_cv {S : List ConS} {LQ : LoopS} {K : Env → Ex → St → Prop} {ρ : Env} {ci base : Nat} {vs : List E} {t : Tree} {G : List Ob} {y : Nat} {R : RefM} (h : IsRef G y R) (h1 : S[ci]? = some (conR (loadR (.hnd 0)))) (h2 : E.nams ρ lay0 vs = [tokAt y 2, encG G])
    (h4 : treeSem S LQ K (ρ.from_ base (Env.ofL [R.cv])) t) : treeSem S LQ K ρ (.call ci base vs t) :=
  sem_step G [tokAt y 2] (Env.ofL [R.cv]) h1 h2 ⟨y, 2, _, R.cv, rfl, cells_ptr h.ob, rfl, hnd_nam rfl h.cut.one⟩ h4
theorem waitL_take {r : List RL} {k : Nat} (hk : k < r.length) : (waitL (r.take (k + 1))).length = (waitL (r.take k)).length + if r[k].w then 1 else 0 := by
  unfold waitL
  rw [List.take_add_one, List.getElem?_eq_getElem hk, List.filter_append, List.length_append]
  congr 1
  show (List.filter _ [r[k]]).length = _
  rw [List.filter_cons]
  split <;> rfl
theorem waitL_le (r : List RL) : (waitL r).length ≤ r.length := List.length_filter_le _ _
/-- Waits. -/
def rwaitsR (G : List Ob) (l : List Value) (e : Env) : Prop := ∃ y R, l = [tokAt y 0] ∧ IsRef G y R ∧ R.all.length ≤ 1000000 ∧ e.i 0 = (R.waits : Nat) ∧ e.g gv = encG G
def rwaitsC : Con := mkCon 13 [] (.int .i64 (.var 0)) 2
def rwLQ (G : List Ob) (R : RefM) : LoopS := ⟨fun _ nv ρ => ∃ k : Nat, ρ.g (nv + 999) = encG G ∧ ρ.i (nv + 1) = k ∧ k ≤ R.all.length ∧ ρ.i nv = ((waitL (R.all.take k)).length : Nat), fun _ nv ρ => (R.all.length - ρ.i (nv + 1)).toNat⟩
def treeRwaits : Tree :=
 (.loop 3 3200 [(3200, (.int .i64 (.lit 0))), (3201, (.int .i64 (.lit 0))), (4199, (.var 199))]
 (.call 1 8200 [(.pla (.var 0) (.lit 0) 1), (.var 4199)]
 (.call 6 9200 [(.hnd 8200), (.var 4199)]
 (.split (.cmp .lss (.var 3201) (.var 9200))
 (.call 1 14200 [(.pla (.var 0) (.lit 0) 1), (.var 4199)]
 (.call 9 16200 [(.hnd 14200), (.int .i64 (.var 3201)), (.var 4199)]
 (.call 4 18200 [(.pla (.var 16200) (.var 16201) 3), (.var 4199)]
 (.split (.var 18200)
 (.again 3 3200 [(3200, (.int .i64 (.bin .add .i64 (.var 3200) (.lit 1)))), (3201, (.int .i64 (.bin .add .i64 (.var 3201) (.lit 1)))), (4199, (.var 4199))])
 (.again 3 3200 [(3200, (.int .i64 (.var 3200))), (3201, (.int .i64 (.bin .add .i64 (.var 3201) (.lit 1)))), (4199, (.var 4199))])))))
 (leafG (.int .i64 (.var 3200)) .nil 4199)))))
theorem rwaits_holds : rwaitsC.holds Try.prog (conR rwaitsR) := by
  refine con_of_runG (cs := rp) (S := rpS) (LT := [(3, ⟨[(3, fun b => .int .i64 (.var b)), (4, fun b => .int .i64 (.var (b + 1)))], [], [], true⟩)]) (depth := 1) (fuel := 10) (nv := 200) (av := [ref]) (T := treeRwaits) rp_holds (by kernel_rfl) (by kernel_rfl) (by kernel_rfl) ?_
  rintro G l e0 ⟨y, R, rfl, hR, hl, he, hG⟩
  refine ⟨rwLQ G R, (Env.ofL [.int .i64 y]).st (encG G), rfl, rfl, ?_⟩
  have o1 := hR.row.one
  refine sem_loop (Env.from_ _ 3200 ((Env.ofL [.int .i64 0, .int .i64 0]).ans (encG G))) (Env.from_ag _ _ _) rfl ⟨0, rfl, rfl, Nat.zero_le _, rfl⟩ (by kernel_rfl) (fun ρ1 ρ2 h => ?_) (fun ρ hag hinv => ?_)
  · show ((R.all.length : Int) - ρ2.i 3201).toNat = ((R.all.length : Int) - ρ1.i 3201).toNat
    rw [(h 3201 (by decide)).1]
  obtain ⟨k, hg, hi, hk, hw⟩ := hinv
  have hg : ρ.g 4199 = encG G := hg
  have hi : ρ.i 3201 = k := hi
  have hw : ρ.i 3200 = ((waitL (R.all.take k)).length : Nat) := hw
  have xy : ρ.i 0 = y := (hag 0 (by decide)).1
  have hle := waitL_le (R.all.take k)
  rw [List.length_take] at hle
  have ny : ∀ (ρ' : Env) (k' : Nat), ρ'.i 0 = ρ.i 0 → ρ'.g 4199 = ρ.g 4199 → E.nams ρ' lay0 [.pla (.var 0) (.lit 0) k', .var 4199] = [tokAt y k', encG G] := fun ρ' k' e1 e2 => by
    show [tokAt (ρ'.i 0).toNat ((0 : Int).toNat + k'), ρ'.g 4199] = _
    rw [e1, e2, xy, hg]
    simp
  refine hR.step_av rfl (ny _ 1 rfl rfl) ?_
  refine sem_step G [R.av] (Env.ofL [.int .i64 R.all.length]) rfl (by show [oneOf R.av, ρ.g 4199] = _; rw [hg, oneOf_eq o1]; rfl) ⟨_, 4, _, _, rfl, hR.rows, rfl⟩ ?_
  refine sem_split (fun h => ?_) (fun h => ?_)
  · have h : ρ.i 3201 < (R.all.length : Int) := of_decide_eq_true h
    have ka : k < R.all.length := by omega
    obtain ⟨m, p, all, q1, q2, q3, q4⟩ := sl_at hR.rows (by decide) (i := ρ.i 3201) (by omega) h
    have c3 := q4 3 (by decide)
    rw [hi, Int.toNat_natCast, rowR_at ka (by decide)] at c3
    have hcl := waitL_take ka
    have hwk := wrap_up' (i := ρ.i 3201) (by omega) (by omega)
    have hwc := wrap_up' (i := ρ.i 3200) (by omega) (by omega)
    have again : ∀ (ρ' : Env) (c : Sx.T) (g : Nat), ρ'.i 3201 = ρ.i 3201 → c.den ρ' = ((waitL (R.all.take (k + 1))).length : Nat) → ρ'.g g = encG G →
        treeSem rpS (rwLQ G R) (KF [] (.int .i64 (.var 0)) e0 2) ρ' (.again 3 3200 [(3200, (.int .i64 c)), (3201, (.int .i64 (.bin .add .i64 (.var 3201) (.lit 1)))), (4199, (.var g))]) := fun ρ' c g e1 e2 e3 => by
      refine sem_again (Env.from_ _ 3200 ((Env.ofL [.int .i64 (c.den ρ'), .int .i64 (ρ.i 3201 + 1)]).ans (encG G))) (Env.from_ag _ _ _) ?_ ⟨k + 1, rfl, ?_, by omega, e2⟩ ?_
      · show [Value.int .i64 (c.den ρ'), Value.int .i64 (ρ.i 3201 + 1), encG G] = [Value.int .i64 (c.den ρ'), Value.int .i64 (IntKind.i64.wrap (ρ'.i 3201 + 1)), ρ'.g g]
        rw [e1, e3, hwk]
      · show ρ.i 3201 + 1 = _
        rw [hi]; rfl
      · show ((R.all.length : Int) - (ρ.i 3201 + 1)).toNat < ((R.all.length : Int) - ρ'.i 3201).toNat
        rw [e1]
        omega
    refine hR.step_av rfl (ny _ 1 rfl rfl) ?_
    refine sem_step G [R.av, .int .i64 (ρ.i 3201)] _ rfl (by show [oneOf R.av, Value.int .i64 (ρ.i 3201), ρ.g 4199] = _; rw [hg, oneOf_eq o1]; rfl) q1 ?_
    refine sem_step G [tokAt m (p + 3)] (Env.ofL [.bool R.all[k].w]) rfl (by show [tokAt m (p + 3), ρ.g 4199] = _; rw [hg]; rfl) ⟨m, p + 3, all, _, rfl, q2, c3, rfl⟩ ?_
    refine sem_split (fun h => ?_) (fun h => ?_)
    · have h : R.all[k].w = true := h
      refine again _ _ _ rfl ?_ hg
      show IntKind.i64.wrap (ρ.i 3200 + 1) = _
      rw [hwc, hcl, if_pos h, hw]
      rfl
    · have h : R.all[k].w = false := h
      refine again _ _ _ rfl ?_ hg
      show ρ.i 3200 = _
      rw [hcl, if_neg (by rw [h]; simp), hw]
      rfl
  · have h : ¬ ρ.i 3201 < (R.all.length : Int) := of_decide_eq_false h
    have hkl : k = R.all.length := by omega
    refine sem_retG rfl ?_ trivial (by rw [hG]; exact hg)
    show Value.int .i64 (ρ.i 3200) = Value.int .i64 (e0.i 0)
    rw [he, hw, hkl, List.take_length]
    rfl
/-- The way of two nodes. -/
def rwayR (G : List Ob) (l : List Value) (e : Env) : Prop := ∃ y R a b, l = [tokAt y 0, .int .i64 a, .int .i64 b] ∧ IsRef G y R ∧ e.b 0 = wayB R.nodes a b ∧ e.g gv = encG G
def rwayC : Con := mkCon 41 [] (.bool (.var 0)) 2
def treeRway : Tree :=
 (.split (.cmp .geq (.var 1) (.lit 1))
 (.call 0 8200 [(.pla (.var 0) (.lit 0) 0), (.var 199)]
 (.split (.cmp .leq (.var 1) (.var 8200))
 (.split (.cmp .geq (.var 2) (.lit 1))
 (.call 0 20200 [(.pla (.var 0) (.lit 0) 0), (.var 199)]
 (.split (.cmp .leq (.var 2) (.var 20200))
 (leafG (.bool (.not (.cmp .eql (.var 1) (.var 2)))) .nil 199)
 (leafG (.bool (.lit false)) .nil 199)))
 (leafG (.bool (.lit false)) .nil 199))
 (leafG (.bool (.lit false)) .nil 199)))
 (leafG (.bool (.lit false)) .nil 199))
theorem rway_holds : rwayC.holds Try.prog (conR rwayR) := by
  refine con_of_runG (cs := rp) (S := rpS) (LT := []) (depth := 1) (fuel := 10) (nv := 200) (av := [ref, .int .i64 (.var 1), .int .i64 (.var 2)]) (T := treeRway) rp_holds (by kernel_rfl) (by kernel_rfl) (by kernel_rfl) ?_
  rintro G l e0 ⟨y, R, a, b, rfl, hR, h2, hG⟩
  refine ⟨noLoops, (Env.ofL [.int .i64 y, .int .i64 a, .int .i64 b]).st (encG G), rfl, rfl, ?_⟩
  have fin : ∀ (ρ : Env) (c : C) (h : Tr (List E)), c.den ρ = wayB R.nodes a b → ρ.g 199 = encG G → treeSem rpS noLoops (KF [] (.bool (.var 0)) e0 2) ρ (leafG (.bool c) h 199) := fun ρ c h e3 e4 => by
    refine sem_retG rfl ?_ trivial (by rw [hG, e4])
    show Value.bool (c.den ρ) = Value.bool (e0.b 0)
    rw [e3, h2]
  refine sem_split (fun h => ?_) (fun h => ?_)
  · have g1 : a ≥ 1 := of_decide_eq_true h
    refine sem_step G [tokAt y 0] (Env.ofL [.int .i64 R.nodes]) rfl rfl ⟨y, 0, _, _, rfl, cells_ptr hR.ob, rfl, rfl⟩ ?_
    refine sem_split (fun h => ?_) (fun h => ?_)
    · have g2 : a ≤ R.nodes := of_decide_eq_true h
      refine sem_split (fun h => ?_) (fun h => ?_)
      · have g3 : b ≥ 1 := of_decide_eq_true h
        refine sem_step G [tokAt y 0] (Env.ofL [.int .i64 R.nodes]) rfl rfl ⟨y, 0, _, _, rfl, cells_ptr hR.ob, rfl, rfl⟩ ?_
        refine sem_split (fun h => ?_) (fun h => ?_)
        · have g4 : b ≤ R.nodes := of_decide_eq_true h
          refine fin _ _ _ ?_ rfl
          show (!(a == b)) = _
          unfold wayB
          rw [decide_eq_true (show 1 ≤ a ∧ a ≤ R.nodes by omega), decide_eq_true (show 1 ≤ b ∧ b ≤ R.nodes by omega)]
          by_cases e : a = b <;> simp [e]
        · have g4 : ¬ b ≤ R.nodes := of_decide_eq_false h
          refine fin _ _ _ ?_ rfl
          unfold wayB
          rw [decide_eq_false (show ¬ (1 ≤ b ∧ b ≤ R.nodes) by omega)]
          simp [C.den]
      · have g3 : ¬ b ≥ 1 := of_decide_eq_false h
        refine fin _ _ _ ?_ rfl
        unfold wayB
        rw [decide_eq_false (show ¬ (1 ≤ b ∧ b ≤ R.nodes) by omega)]
        simp [C.den]
    · have g2 : ¬ a ≤ R.nodes := of_decide_eq_false h
      refine fin _ _ _ ?_ rfl
      unfold wayB
      rw [decide_eq_false (show ¬ (1 ≤ a ∧ a ≤ R.nodes) by omega)]
      simp [C.den]
  · have g1 : ¬ a ≥ 1 := of_decide_eq_false h
    refine fin _ _ _ ?_ rfl
    unfold wayB
    rw [decide_eq_false (show ¬ (1 ≤ a ∧ a ≤ R.nodes) by omega)]
    simp [C.den]
/-- The place of a letter that waits. -/
def placeR (G : List Ob) (l : List Value) (e : Env) : Prop := ∃ y R k, l = [tokAt y 0, .int .i64 k] ∧ IsRef G y R ∧ R.all.length ≤ 1000000 ∧ e.i 0 = R.place k ∧ e.g gv = encG G
def placeC : Con := { mkCon 35 [] (.int .i64 (.var 0)) 2 with wr := 1 }
def plLQ (G : List Ob) (R : RefM) (k0 : Int) : LoopS := ⟨fun _ nv ρ => ∃ j : Nat, ρ.g (nv + 999) = encG G ∧ ρ.i (nv + 1) = j ∧ j ≤ R.all.length ∧ R.place k0 = placeI (R.all.drop j) (ρ.i nv) j, fun _ nv ρ => (R.all.length - ρ.i (nv + 1)).toNat⟩
def treePlace : Tree :=
 (.loop 2 2200 [(2200, (.int .i64 (.var 1))), (2201, (.int .i64 (.lit 0))), (3199, (.var 199))]
 (.call 1 7200 [(.pla (.var 0) (.lit 0) 1), (.var 3199)]
 (.call 6 8200 [(.hnd 7200), (.var 3199)]
 (.split (.cmp .lss (.var 2201) (.var 8200))
 (.call 1 13200 [(.pla (.var 0) (.lit 0) 1), (.var 3199)]
 (.call 9 15200 [(.hnd 13200), (.int .i64 (.var 2201)), (.var 3199)]
 (.call 4 17200 [(.pla (.var 15200) (.var 15201) 3), (.var 3199)]
 (.split (.var 17200)
 (.split (.cmp .eql (.var 2200) (.lit 0))
 (leafG (.int .i64 (.var 2201)) .nil 3199)
 (.again 2 2200 [(2200, (.int .i64 (.bin .sub .i64 (.var 2200) (.lit 1)))), (2201, (.int .i64 (.bin .add .i64 (.var 2201) (.lit 1)))), (3199, (.var 3199))]))
 (.again 2 2200 [(2200, (.int .i64 (.var 2200))), (2201, (.int .i64 (.bin .add .i64 (.var 2201) (.lit 1)))), (3199, (.var 3199))])))))
 (leafG (.int .i64 (.lit (-1))) .nil 3199)))))
theorem place_holds : placeC.holds Try.prog (conR placeR) := by
  refine wr_of 1 (c := mkCon 35 [] (.int .i64 (.var 0)) 2) (con_of_runG (cs := rp) (S := rpS) (LT := [(2, ⟨[(1, fun b => .int .i64 (.var b)), (5, fun b => .int .i64 (.var (b + 1)))], [], [], true⟩)]) (depth := 1) (fuel := 10) (nv := 200) (av := [ref, .int .i64 (.var 1)]) (T := treePlace) rp_holds (by kernel_rfl) (by kernel_rfl) (by kernel_rfl) ?_)
    (fun G l e ⟨_, _, _, _, _, _, _, hG⟩ => ⟨G, hG, ⟨[], by simp⟩⟩)
  rintro G l e0 ⟨y, R, k0, rfl, hR, hlen, he, hG⟩
  refine ⟨plLQ G R k0, (Env.ofL [.int .i64 y, .int .i64 k0]).st (encG G), rfl, rfl, ?_⟩
  have o1 := hR.row.one
  refine sem_loop (Env.from_ _ 2200 ((Env.ofL [.int .i64 k0, .int .i64 0]).ans (encG G))) (Env.from_ag _ _ _) rfl ⟨0, rfl, rfl, Nat.zero_le _, rfl⟩ (by kernel_rfl) (fun ρ1 ρ2 h => ?_) (fun ρ hag hinv => ?_)
  · show ((R.all.length : Int) - ρ2.i 2201).toNat = ((R.all.length : Int) - ρ1.i 2201).toNat
    rw [(h 2201 (by decide)).1]
  obtain ⟨j, hg, hi, hk, hp⟩ := hinv
  have hg : ρ.g 3199 = encG G := hg
  have hi : ρ.i 2201 = j := hi
  have hp : R.place k0 = placeI (R.all.drop j) (ρ.i 2200) j := hp
  have xy : ρ.i 0 = y := (hag 0 (by decide)).1
  have ny : ∀ (ρ' : Env) (k' : Nat), ρ'.i 0 = ρ.i 0 → ρ'.g 3199 = ρ.g 3199 → E.nams ρ' lay0 [.pla (.var 0) (.lit 0) k', .var 3199] = [tokAt y k', encG G] := fun ρ' k' e1 e2 => by
    show [tokAt (ρ'.i 0).toNat ((0 : Int).toNat + k'), ρ'.g 3199] = _
    rw [e1, e2, xy, hg]
    simp
  refine hR.step_av rfl (ny _ 1 rfl rfl) ?_
  refine sem_step G [R.av] (Env.ofL [.int .i64 R.all.length]) rfl (by show [oneOf R.av, ρ.g 3199] = _; rw [hg, oneOf_eq o1]; rfl) ⟨_, 4, _, _, rfl, hR.rows, rfl⟩ ?_
  refine sem_split (fun h => ?_) (fun h => ?_)
  · have h : ρ.i 2201 < (R.all.length : Int) := of_decide_eq_true h
    have ka : j < R.all.length := by omega
    obtain ⟨m, p, all, q1, q2, q3, q4⟩ := sl_at hR.rows (by decide) (i := ρ.i 2201) (by omega) h
    have c3 := q4 3 (by decide)
    rw [hi, Int.toNat_natCast, rowR_at ka (by decide)] at c3
    rw [List.drop_eq_getElem_cons ka] at hp
    unfold placeI at hp
    have hwk := wrap_up' (i := ρ.i 2201) (by omega) (by omega)
    have again : ∀ (ρ' : Env) (c : Sx.T) (g : Nat), ρ'.i 2201 = ρ.i 2201 → R.place k0 = placeI (R.all.drop (j + 1)) (c.den ρ') ((j : Int) + 1) → ρ'.g g = encG G →
        treeSem rpS (plLQ G R k0) (KF [] (.int .i64 (.var 0)) e0 2) ρ' (.again 2 2200 [(2200, (.int .i64 c)), (2201, (.int .i64 (.bin .add .i64 (.var 2201) (.lit 1)))), (3199, (.var g))]) := fun ρ' c g e1 e2 e3 => by
      refine sem_again (Env.from_ _ 2200 ((Env.ofL [.int .i64 (c.den ρ'), .int .i64 (ρ.i 2201 + 1)]).ans (encG G))) (Env.from_ag _ _ _) ?_ ⟨j + 1, rfl, ?_, by omega, e2⟩ ?_
      · show [Value.int .i64 (c.den ρ'), Value.int .i64 (ρ.i 2201 + 1), encG G] = [Value.int .i64 (c.den ρ'), Value.int .i64 (IntKind.i64.wrap (ρ'.i 2201 + 1)), ρ'.g g]
        rw [e1, e3, hwk]
      · show ρ.i 2201 + 1 = _
        rw [hi]; rfl
      · show ((R.all.length : Int) - (ρ.i 2201 + 1)).toNat < ((R.all.length : Int) - ρ'.i 2201).toNat
        rw [e1]
        omega
    refine hR.step_av rfl (ny _ 1 rfl rfl) ?_
    refine sem_step G [R.av, .int .i64 (ρ.i 2201)] _ rfl (by show [oneOf R.av, Value.int .i64 (ρ.i 2201), ρ.g 3199] = _; rw [hg, oneOf_eq o1]; rfl) q1 ?_
    refine sem_step G [tokAt m (p + 3)] (Env.ofL [.bool R.all[j].w]) rfl (by show [tokAt m (p + 3), ρ.g 3199] = _; rw [hg]; rfl) ⟨m, p + 3, all, _, rfl, q2, c3, rfl⟩ ?_
    refine sem_split (fun h => ?_) (fun h => ?_)
    · have h : R.all[j].w = true := h
      rw [if_pos h] at hp
      refine sem_split (fun h => ?_) (fun h => ?_)
      · have h : (ρ.i 2200 == 0) = true := h
        rw [if_pos (by simpa using h)] at hp
        refine sem_retG rfl ?_ trivial (by rw [hG]; exact hg)
        show Value.int .i64 (ρ.i 2201) = Value.int .i64 (e0.i 0)
        rw [he, hp, hi]
      · have h : (ρ.i 2200 == 0) = false := h
        rw [if_neg (by simpa using h)] at hp
        exact again _ _ _ rfl hp hg
    · have h : R.all[j].w = false := h
      rw [if_neg (by rw [h]; simp)] at hp
      exact again _ _ _ rfl hp hg
  · have h : ¬ ρ.i 2201 < (R.all.length : Int) := of_decide_eq_false h
    rw [List.drop_of_length_le (by omega)] at hp
    refine sem_retG rfl ?_ trivial (by rw [hG]; exact hg)
    show Value.int .i64 (-1) = Value.int .i64 (e0.i 0)
    rw [he, hp]
    rfl
/-- Is a way cut? -/
def iscutR (G : List Ob) (l : List Value) (e : Env) : Prop := ∃ y R a b, l = [tokAt y 0, .int .i64 a, .int .i64 b] ∧ IsRef G y R ∧ R.cuts.length ≤ 1000000 ∧ e.b 0 = R.isCut a b ∧ e.g gv = encG G
def iscutC : Con := mkCon 43 [] (.bool (.var 0)) 2
def icLQ (G : List Ob) (R : RefM) (w : Int × Int) : LoopS := ⟨fun _ nv ρ => ∃ j : Nat, ρ.g (nv + 999) = encG G ∧ ρ.i nv = j ∧ j ≤ R.cuts.length ∧ w ∉ R.cuts.take j, fun _ nv ρ => (R.cuts.length - ρ.i nv).toNat⟩
theorem way_cells {all : List Value} {p : Nat} {c : Int × Int} (h : ∀ j, j < 2 → all[p + j]? = [Value.int .i64 c.1, Value.int .i64 c.2][j]?) : (all.drop p).take 2 = [Value.int .i64 c.1, Value.int .i64 c.2] := by
  apply List.ext_getElem?
  intro j
  by_cases hj : j < 2
  · rw [List.getElem?_take_of_lt hj, List.getElem?_drop, h j hj]
  · rw [List.getElem?_eq_none (by rw [List.length_take]; omega), List.getElem?_eq_none (by show 2 ≤ j; omega)]
theorem ways_eq (c w : Int × Int) : decide ([c.1, c.2] = [w.1, w.2]) = decide (c = w) := by
  apply decide_eq_decide.2
  constructor
  · intro h
    simp only [List.cons.injEq, and_true] at h
    exact Prod.ext h.1 h.2
  · rintro rfl
    rfl
def treeIsCut : Tree :=
 (.loop 2 2200 [(2200, (.int .i64 (.lit 0))), (3199, (.var 199))]
 (.call 2 7200 [(.pla (.var 0) (.lit 0) 2), (.var 3199)]
 (.call 7 8200 [(.hnd 7200), (.var 3199)]
 (.split (.cmp .lss (.var 2200) (.var 8200))
 (.call 2 13200 [(.pla (.var 0) (.lit 0) 2), (.var 3199)]
 (.call 10 15200 [(.hnd 13200), (.int .i64 (.var 2200)), (.var 3199)]
 (.call 5 16200 [(.pla (.var 15200) (.var 15201) 0), (.var 3199)]
 (.call 24 19200 [(.int .i64 (.var 1)), (.int .i64 (.var 2))]
 (.call 22 20200 [(.agg ([(.int .i64 (.var 16200)), (.int .i64 (.var 16201))])), (.agg ([(.int .i64 (.var 19200)), (.int .i64 (.var 19201))])), (.var 3199)]
 (.split (.var 20200)
 (leafG (.bool (.lit true)) .nil 3199)
 (.again 2 2200 [(2200, (.int .i64 (.bin .add .i64 (.var 2200) (.lit 1)))), (3199, (.var 3199))])))))))
 (leafG (.bool (.lit false)) .nil 3199)))))
theorem iscut_holds : iscutC.holds Try.prog (conR iscutR) := by
  refine con_of_runG (cs := rp) (S := rpS) (LT := [(2, ⟨[(7, fun b => .int .i64 (.var b))], [], [], true⟩)]) (depth := 1) (fuel := 10) (nv := 200) (av := [ref, .int .i64 (.var 1), .int .i64 (.var 2)]) (T := treeIsCut) rp_holds (by kernel_rfl) (by kernel_rfl) (by kernel_rfl) ?_
  rintro G l e0 ⟨y, R, a, b, rfl, hR, hlen, he, hG⟩
  refine ⟨icLQ G R (way a b), (Env.ofL [.int .i64 y, .int .i64 a, .int .i64 b]).st (encG G), rfl, rfl, ?_⟩
  have o1 := hR.cut.one
  refine sem_loop (Env.from_ _ 2200 ((Env.ofL [.int .i64 0]).ans (encG G))) (Env.from_ag _ _ _) rfl ⟨0, rfl, rfl, Nat.zero_le _, by simp⟩ (by kernel_rfl) (fun ρ1 ρ2 h => ?_) (fun ρ hag hinv => ?_)
  · show ((R.cuts.length : Int) - ρ2.i 2200).toNat = ((R.cuts.length : Int) - ρ1.i 2200).toNat
    rw [(h 2200 (by decide)).1]
  obtain ⟨j, hg, hi, hk, hp⟩ := hinv
  have hg : ρ.g 3199 = encG G := hg
  have hi : ρ.i 2200 = j := hi
  have xy : ρ.i 0 = y := (hag 0 (by decide)).1
  have xa : ρ.i 1 = a := (hag 1 (by decide)).1
  have xb : ρ.i 2 = b := (hag 2 (by decide)).1
  have ny : ∀ (ρ' : Env) (k' : Nat), ρ'.i 0 = ρ.i 0 → ρ'.g 3199 = ρ.g 3199 → E.nams ρ' lay0 [.pla (.var 0) (.lit 0) k', .var 3199] = [tokAt y k', encG G] := fun ρ' k' e1 e2 => by
    show [tokAt (ρ'.i 0).toNat ((0 : Int).toNat + k'), ρ'.g 3199] = _
    rw [e1, e2, xy, hg]
    simp
  refine hR.step_cv rfl (ny _ 2 rfl rfl) ?_
  refine sem_step G [R.cv] (Env.ofL [.int .i64 R.cuts.length]) rfl (by show [oneOf R.cv, ρ.g 3199] = _; rw [hg, oneOf_eq o1]; rfl) ⟨_, 2, _, _, rfl, hR.cutw, rfl⟩ ?_
  refine sem_split (fun h => ?_) (fun h => ?_)
  · have h : ρ.i 2200 < (R.cuts.length : Int) := of_decide_eq_true h
    have ka : j < R.cuts.length := by omega
    obtain ⟨m, p, all, q1, q2, q3, q4⟩ := sl_at hR.cutw (by decide) (i := ρ.i 2200) (by omega) h
    rw [hi, Int.toNat_natCast] at q4
    have q5 := way_cells (c := R.cuts[j]) fun i hi => by rw [q4 i hi, cutW_at ka hi]
    have hwk := wrap_up' (i := ρ.i 2200) (by omega) (by omega)
    refine hR.step_cv rfl (ny _ 2 rfl rfl) ?_
    refine sem_step G [R.cv, .int .i64 (ρ.i 2200)] _ rfl (by show [oneOf R.cv, Value.int .i64 (ρ.i 2200), ρ.g 3199] = _; rw [hg, oneOf_eq o1]; rfl) q1 ?_
    refine sem_step G [tokAt m p] (Env.ofL [.int .i64 R.cuts[j].1, .int .i64 R.cuts[j].2]) rfl (by show [tokAt m (p + 0), ρ.g 3199] = _; rw [hg]; rfl) ⟨m, p, all, rfl, q2, q3, by rw [q5]; rfl⟩ ?_
    refine sem_call pairS (Env.ofL [.int .i64 (way a b).1, .int .i64 (way a b).2]) rfl ⟨a, b, by show [Value.int .i64 (ρ.i 1), Value.int .i64 (ρ.i 2)] = _; rw [xa, xb], rfl, rfl⟩ ?_
    refine sem_step G [.agg #[.int .i64 R.cuts[j].1, .int .i64 R.cuts[j].2], .agg #[.int .i64 (way a b).1, .int .i64 (way a b).2]] (Env.ofL [.bool (decide (R.cuts[j] = way a b))]) rfl (by show [_, _, ρ.g 3199] = _; rw [hg]; rfl)
      ⟨_, _, decide (R.cuts[j] = way a b), rfl, ⟨[_, _], [_, _], rfl, rfl, rfl, rfl, (ways_eq _ _).symm⟩, by show decide (R.cuts[j] = way a b) = (decide (R.cuts[j] = way a b) != false); cases decide (R.cuts[j] = way a b) <;> rfl⟩ ?_
    refine sem_split (fun h => ?_) (fun h => ?_)
    · have h : R.cuts[j] = way a b := of_decide_eq_true h
      refine sem_retG rfl ?_ trivial (by rw [hG]; exact hg)
      show Value.bool true = Value.bool (e0.b 0)
      rw [he]
      unfold RefM.isCut
      rw [decide_eq_true]
      rw [← h]
      exact List.getElem_mem _
    · have h : ¬ R.cuts[j] = way a b := of_decide_eq_false h
      refine sem_again (Env.from_ _ 2200 ((Env.ofL [.int .i64 (ρ.i 2200 + 1)]).ans (encG G))) (Env.from_ag _ _ _) ?_ ⟨j + 1, rfl, ?_, by omega, fun hm => ?_⟩ ?_
      · show [Value.int .i64 (ρ.i 2200 + 1), encG G] = [Value.int .i64 (IntKind.i64.wrap (ρ.i 2200 + 1)), ρ.g 3199]
        rw [hg, hwk]
      · show ρ.i 2200 + 1 = _
        rw [hi]; rfl
      · rw [List.take_add_one, List.getElem?_eq_getElem ka] at hm
        rcases List.mem_append.1 hm with hm | hm
        · exact hp hm
        · exact h (show way a b = R.cuts[j] by simpa using hm).symm
      · show ((R.cuts.length : Int) - (ρ.i 2200 + 1)).toNat < ((R.cuts.length : Int) - ρ.i 2200).toNat
        omega
  · have h : ¬ ρ.i 2200 < (R.cuts.length : Int) := of_decide_eq_false h
    rw [List.take_of_length_le (by omega)] at hp
    refine sem_retG rfl ?_ trivial (by rw [hG]; exact hg)
    show Value.bool false = Value.bool (e0.b 0)
    rw [he]
    unfold RefM.isCut
    rw [decide_eq_false hp]
end Go.Proofs.Yteklnfajpignoaa
