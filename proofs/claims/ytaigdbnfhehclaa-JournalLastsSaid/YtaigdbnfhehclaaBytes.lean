/-
  What is proved: laws on slices whose elements are one cell each (bytes, say): what a slice reads as, cuts, the slices that a call made for itself, append; no program in sight. No condition.
-/
import Derived.Test.YtaigdbnfhehclaaGrow
import Derived.Deep.AppendLies
import Derived.Laws.AppendOwnNone
namespace Go.Proofs.Ytaigdbnfhehclaa
open Go.RowKit

/-- The values of bytes. -/
def bts (l : List Nat) : List Value := l.map fun (n : Nat) => Value.int .u8 (n : Int)
theorem bts_length (l : List Nat) : (bts l).length = l.length := by simp [bts]
theorem bts_nil : bts [] = [] := rfl
theorem bts_append (l k : List Nat) : bts (l ++ k) = bts l ++ bts k := by simp [bts]
theorem bts_get (l : List Nat) (j : Nat) : (bts l)[j]? = (l[j]?).map fun (n : Nat) => Value.int .u8 (n : Int) := by unfold bts; rw [List.getElem?_map]
theorem bts_one (l : List Nat) : ∀ u ∈ bts l, u.oneCell' = true := by intro u hu; simp only [bts, List.mem_map] at hu; obtain ⟨n, _, rfl⟩ := hu; rfl
theorem bts_inj {l k : List Nat} (h : bts l = bts k) : l = k := by
  refine List.ext_getElem? fun j => ?_
  have := congrArg (fun q => q[j]?) h
  simp only [bts_get] at this
  cases h1 : l[j]? <;> cases h2 : k[j]? <;> simp_all <;> omega

/-- The slice of that address, length and room reads as these values, in w. -/
structure Sl (w : World) (ao : Option Addr) (n cap : Nat) (vs : List Value) : Prop where
  len : vs.length = n
  le : n ≤ cap
  nil : ao = none → cap = 0
  cells : vs = [] ∨ ∃ b o, ao = some ⟨b, o, none⟩ ∧ ∀ (j : Nat) x, vs[j]? = some x → w.cell? ⟨b, o + j, none⟩ = some x

theorem Sl.at {w : World} {ao : Option Addr} {n cap : Nat} {vs : List Value} (h : Sl w ao n cap vs) (h0 : 0 < n) : ∃ b o, ao = some ⟨b, o, none⟩ ∧ b < w.heap.size ∧ ∀ (j : Nat) x, vs[j]? = some x → w.cell? ⟨b, o + j, none⟩ = some x := by
  rcases h.cells with rfl | ⟨b, o, e, hc⟩
  · have := h.len; simp at this; omega
  · have h1 : 0 < vs.length := by rw [h.len]; exact h0
    exact ⟨b, o, e, World.block_lt_of_cell? w ⟨b, o + 0, none⟩ (hc 0 _ (List.getElem?_eq_getElem h1)), hc⟩

theorem Sl.nothing (w : World) : Sl w none 0 0 [] := ⟨rfl, Nat.le_refl _, fun _ => rfl, .inl rfl⟩

/-- It reads so in every world that is as w was below a number behind w's blocks. -/
theorem Sl.keep {w w' : World} {B : Nat} {ao : Option Addr} {n cap : Nat} {vs : List Value} (h : Sl w ao n cap vs) (hB : w.heap.size ≤ B) (hw : Below B w w') : Sl w' ao n cap vs := by
  refine ⟨h.len, h.le, h.nil, ?_⟩
  rcases h.cells with h1 | ⟨b, o, e, hc⟩
  · exact .inl h1
  · refine .inr ⟨b, o, e, fun j x hj => ?_⟩
    have := hc j x hj
    rw [hw.cell (p := ⟨b, o + j, none⟩) (Nat.lt_of_lt_of_le (World.block_lt_of_cell? w ⟨b, o + j, none⟩ this) hB)]
    exact this
theorem Sl.ext {w : World} {ao : Option Addr} {n cap : Nat} {vs : List Value} (h : Sl w ao n cap vs) (g : Ext w) : Sl g.val ao n cap vs := h.keep (Nat.le_refl _) g.below

theorem ext_cell {w : World} {b o : Nat} {v : Value} (h : w.cell? ⟨b, o, none⟩ = some v) : ∀ g : Ext w, g.val.cell? ⟨b, o, none⟩ = some v := fun g => by rw [g.cell b o (World.block_lt_of_cell? w ⟨b, o, none⟩ h)]; exact h

/-- The address behind a cut (of one-cell elements): l elements on, where there is room behind it. -/
def cutA (ao : Option Addr) (l m : Nat) : Option Addr := if m = l then ao else ao.map (·.add (l * 1))
theorem sliced_cut (ao : Option Addr) (l h m : Nat) : sliced ao l h m 1 = .slice (cutA ao l m) (h - l) (m - l) := rfl
theorem add_zero_addr (a : Addr) : a.add 0 = a := by unfold Addr.add; split <;> simp_all
theorem cutA_zero (ao : Option Addr) (m : Nat) : cutA ao 0 m = ao := by
  unfold cutA
  split
  · rfl
  · cases ao <;> simp [add_zero_addr]
theorem add_plain_addr (b o i : Nat) : (⟨b, o, none⟩ : Addr).add i = ⟨b, o + i, none⟩ := by unfold Addr.add; split <;> simp_all
theorem cutA_some (b o l m : Nat) (h : m ≠ l) : cutA (some ⟨b, o, none⟩) l m = some ⟨b, o + l, none⟩ := by simp [cutA, h, add_plain_addr]

theorem Sl.cut {w : World} {ao : Option Addr} {n cap : Nat} {vs : List Value} (h : Sl w ao n cap vs) {l r m n' cap' : Nat} (hlr : l ≤ r) (hr : r ≤ n) (hm : m ≤ cap) (hrm : r ≤ m) (hn : n' = r - l) (hc : cap' = m - l) :
    Sl w (cutA ao l m) n' cap' ((vs.drop l).take (r - l)) := by
  have hlen := h.len
  have hle := h.le
  subst hn hc
  refine ⟨by simp only [List.length_take, List.length_drop]; omega, by omega, fun e => ?_, ?_⟩
  · have : ao = none := by
      unfold cutA at e
      split at e
      · exact e
      · simpa using e
    have := h.nil this
    omega
  · by_cases hz : r - l = 0
    · left; rw [hz]; rfl
    · obtain ⟨b, o, e, _, hcells⟩ := h.at (by omega)
      right
      refine ⟨b, o + l, ?_, fun j x hj => ?_⟩
      · rw [e]; exact cutA_some b o l m (by omega)
      · rw [List.getElem?_take] at hj
        split at hj
        · rw [List.getElem?_drop] at hj
          have := hcells _ _ hj
          rw [show o + l + j = o + (l + j) by omega]
          exact this
        · cases hj

theorem Sl.cutB {w : World} {ao : Option Addr} {n cap : Nat} {k : List Nat} (h : Sl w ao n cap (bts k)) {l r m n' cap' : Nat} {q : List Nat} (hlr : l ≤ r) (hr : r ≤ n) (hm : m ≤ cap) (hrm : r ≤ m) (hn : n' = r - l) (hc : cap' = m - l) (hq : q = (k.drop l).take (r - l)) :
    Sl w (cutA ao l m) n' cap' (bts q) := by
  have := h.cut hlr hr hm hrm hn hc
  rw [hq]
  unfold bts at *
  rw [List.map_take, List.map_drop]
  exact this
theorem Sl.frontB {w : World} {ao : Option Addr} {n cap : Nat} {k : List Nat} (h : Sl w ao n cap (bts k)) {n' cap' : Nat} {q : List Nat} (hr : n' ≤ n) (hrm : n' ≤ cap') (hc : cap' ≤ cap) (hq : q = k.take n') : Sl w ao n' cap' (bts q) := by
  have := h.cutB (l := 0) (r := n') (m := cap') (q := q) (Nat.zero_le _) hr hc hrm rfl rfl (by simpa using hq)
  rwa [cutA_zero] at this

/-- A slice that the call made. -/
theorem Sl.own {w : World} {B e n cap n' : Nat} {ao : Option Addr} {xs : List Value} (h : w.ownsRow B e 1 (.slice ao n cap) n' xs) : Sl w ao n cap xs := by
  rcases h.2 with ⟨hv, rfl⟩ | ⟨g, c, cur, hv, hb, hg, hn, hm, hs, ht⟩
  · cases hv
    have hx : xs = [] := List.eq_nil_of_length_eq_zero (by simpa using h.1)
    subst hx
    exact Sl.nothing w
  · cases hv
    refine ⟨by simpa using h.1, hn, fun h => by (cases h), .inr ⟨g, 0, rfl, fun j x hj => ?_⟩⟩
    have := h.cells (g := g) rfl j x hj
    rwa [add_plain_addr] at this

theorem own_form {w : World} {B e s : Nat} {v : Value} {n : Nat} {xs : List Value} (h : w.ownsRow B e s v n xs) : ∃ ao cap, v = .slice ao n cap := by
  rcases h.2 with ⟨hv, rfl⟩ | ⟨g, c, cur, hv, _⟩
  · exact ⟨_, _, hv⟩
  · exact ⟨_, _, hv⟩

theorem own_base {w : World} {B B' e s : Nat} {v : Value} {n : Nat} {xs : List Value} (h : w.ownsRow B e s v n xs) (hB : B' ≤ B) : w.ownsRow B' e s v n xs := by
  refine ⟨h.1, ?_⟩
  rcases h.2 with h1 | ⟨g, c, cur, hv, hb, r⟩
  · exact .inl h1
  · exact .inr ⟨g, c, cur, hv, Nat.le_trans hB hb, r⟩

theorem own_block {w : World} {B e s : Nat} {v : Value} {n : Nat} {xs : List Value} (h : w.ownsRow B e s v n xs) : ∀ k, v.ownBlock = some k → B ≤ k := fun k hk => (h.lt k hk).1

theorem own_keep {w w' : World} {B B1 e s : Nat} {v : Value} {n : Nat} {xs : List Value} (h : w.ownsRow B e s v n xs) (hB : w.heap.size ≤ B1) (hw : Below B1 w w') : w'.ownsRow B e s v n xs := by
  refine ⟨h.1, ?_⟩
  rcases h.2 with h1 | ⟨g, c, cur, hv, hb, hg, r⟩
  · exact .inl h1
  · exact .inr ⟨g, c, cur, hv, hb, (hw.block g (Nat.lt_of_lt_of_le (Array.getElem?_eq_some_iff.1 hg).1 hB)).trans hg, r⟩
theorem own_ext {w : World} {B e s : Nat} {v : Value} {n : Nat} {xs : List Value} (h : w.ownsRow B e s v n xs) (g : Ext w) : g.val.ownsRow B e s v n xs := own_keep h (Nat.le_refl _) g.below

theorem own_set {w : World} {B e g n cap j : Nat} {u : Value} {xs : List Value} (h : w.ownsRow B e 1 (.slice (some ⟨g, 0, none⟩) n cap) n xs) : (w.setCell ⟨g, j, none⟩ u).ownsRow B e 1 (.slice (some ⟨g, 0, none⟩) n cap) n (xs.set j u) := by
  obtain ⟨h1, h2⟩ := h
  refine ⟨by simpa using h1, ?_⟩
  rcases h2 with ⟨hv, _⟩ | ⟨g', cap', cur, hv, hb, hg, hn, hm, hs, ht⟩
  · cases hv
  · cases hv
    refine .inr ⟨g, cap, cur.set! j u, rfl, hb, ?_, hn, hm, by simpa using hs, ?_⟩
    · simp only [World.setCell, Array.getElem?_modify, hg, if_true, Option.map_some]
      rfl
    · simp only [Array.set!_eq_setIfInBounds, Array.toList_setIfInBounds]
      rw [List.take_set, ht]

theorem own_setRow {w : World} {B e s b : Nat} {v : Value} {n : Nat} {xs : List Value} (h : w.ownsRow B e s v n xs) (hb : b < B) (cs : Array Value) : (w.setRow b cs).ownsRow B e s v n xs := by
  refine ⟨h.1, ?_⟩
  rcases h.2 with h1 | ⟨g, c, cur, hv, hg, hh, r⟩
  · exact .inl h1
  · exact .inr ⟨g, c, cur, hv, hg, by rw [setRow_other w b g cs (by omega)]; exact hh, r⟩

theorem own_new (w : World) (B e : Nat) (cs : Array Value) (hB : B ≤ w.heap.size) (hc : cs.size ≤ maxLen) : (w.alloc (.cells cs e)).ownsRow B e 1 (.slice (some ⟨w.heap.size, 0, none⟩) cs.size cs.size) cs.size cs.toList :=
  ⟨by simp, .inr ⟨w.heap.size, cs.size, cs, rfl, hB, heap_alloc_new w _, Nat.le_refl _, hc, by simp, by rw [Nat.mul_one, ← Array.length_toList, List.take_length]⟩⟩

/-- It is owned, whatever it holds: so it stays, wherever a cell is written. -/
theorem own_some_set {w : World} {B e sz n : Nat} {v u : Value} {b j : Nat} (h : ∃ xs, w.ownsRow B e sz v n xs) : ∃ ys, (w.setCell ⟨b, j, none⟩ u).ownsRow B e sz v n ys := by
  obtain ⟨xs, h1, h2⟩ := h
  rcases h2 with ⟨hv, h0⟩ | ⟨g, cap, cur, hv, hb, hg, hn, hm, hs, ht⟩
  · exact ⟨xs, h1, .inl ⟨hv, h0⟩⟩
  · by_cases e : g = b
    · subst e
      refine ⟨(cur.set! j u).toList.take (n * sz), ?_, .inr ⟨g, cap, cur.set! j u, hv, hb, ?_, hn, hm, by simpa using hs, rfl⟩⟩
      · have : n * sz ≤ cap * sz := Nat.mul_le_mul_right _ hn
        simp only [Array.set!_eq_setIfInBounds, List.length_take, Array.length_toList, Array.size_setIfInBounds]
        omega
      · simp only [World.setCell, Array.getElem?_modify, hg, if_true, Option.map_some]
        rfl
    · refine ⟨xs, h1, .inr ⟨g, cap, cur, hv, hb, ?_, hn, hm, hs, ht⟩⟩
      rw [Below.heap_setCell _ _ _ _ (by simpa using e)]
      exact hg

theorem own_unfrozen {w : World} {B e s g n cap j : Nat} {xs : List Value} (h : w.ownsRow B e s (.slice (some ⟨g, 0, none⟩) n cap) n xs) : w.frozen? ⟨g, j, none⟩ = false := by
  rcases h.2 with ⟨hv, _⟩ | ⟨g', cap', cur, hv, hb, hg, hn, hm, hs, ht⟩
  · cases hv
  · cases hv
    simp [World.frozen?, hg]

theorem sl_block {w : World} {b : Nat} {cs : Array Value} {e n : Nat} {fr : Nat × Nat} (h : w.heap[b]? = some (.cells cs e fr)) (hn : cs.size = n) : Sl w (some ⟨b, 0, none⟩) n n cs.toList :=
  ⟨by simpa using hn, Nat.le_refl _, fun h => (by cases h), .inr ⟨b, 0, rfl, fun j x hj => by rw [Nat.zero_add, cell_of_row w b j cs e fr h]; simpa using hj⟩⟩
theorem sl_marked (w : World) (cs : Array Value) (e n k : Nat) (fr : Nat × Nat) (hk : w.heap.size = k) (hn : cs.size = n) : Sl (w.alloc (.cells cs e fr)) (some ⟨k, 0, none⟩) n n cs.toList := by
  subst hk
  exact sl_block (heap_alloc_new w _) hn

theorem cell_two (w : World) (cs : Array Value) (e j : Nat) (fr : Nat × Nat) (o : Obj) : ((w.alloc (.cells cs e fr)).alloc o).cell? ⟨w.heap.size, j, none⟩ = cs[j]? :=
  cell_of_row _ _ j cs e fr ((Below.heap_alloc (w.alloc (.cells cs e fr)) o w.heap.size (by simp)).trans (heap_alloc_new w _))

/-- What the walk must know of a slice type and its element's. -/
structure Elem (P : Program) (t e : TypeId) (size : Nat) : Prop where
  und : P.underlying t = some (.slice e)
  pos : 0 < size
  info : ∃ i z, P.info? e = some i ∧ i.zero = some z ∧ i.size = size ∧ i.bytes ≤ 64 ∧ z.cells.size = size

theorem Elem.mk' {P : Program} {t e : TypeId} {size bytes : Nat} {z : Value} (hu : P.underlying t = some (.slice e)) (h : (P.info? e).map (fun i => (i.zero, i.size, i.bytes)) = some (some z, size, bytes)) (hz : z.cells.size = size) (hs : 0 < size) (hb : bytes ≤ 64) : Elem P t e size := by
  obtain ⟨i, h1, h2, h3, h4⟩ := info_parts h
  exact ⟨hu, hs, i, z, h1, h2, h3, by omega, hz⟩

section
variable {P : Program} {t e : TypeId} {size : Nat}

/-- 'append' to a slice that the call made (or that is nil). -/
theorem wp_app (E : Elem P t e size) {ops : Array Oper} {rest : List Oper} {o : Oper} {a : Act} {w : World} {Q : Exit → Act → World → Prop} (hgd : o.guard = none) (s x : Operand)
    (ho : o.op = .call { callee := .builtin .append, args := #[s, x], argTypes := #[t, t] })
    {B : Nat} {v : Value} {n : Nat} {xs : List Value} (hs : a.eval s = v) (hown : w.ownsRow B e size v n xs)
    {ao : Option Addr} {m c : Nat} {news : List Value} (hx : a.eval x = .slice ao m c) (hl : news.length = m * size) (hnil : ao = none → m = 0 ∧ c = 0)
    (hnews : news = [] ∨ ∃ b q, ao = some ⟨b, q, none⟩ ∧ ∀ (j : Nat) u, news[j]? = some u → w.cell? ⟨b, q + j, none⟩ = some u) (h1 : ∀ u ∈ news, u.oneCell' = true)
    (h63 : n + m ≤ 1099511627776) (hB : B ≤ w.heap.size)
    (h : ∀ ao' cap w', w'.ownsRow B e size (.slice ao' (n + m) cap) (n + m) (xs ++ news) → Below B w w' → wpList P ops Q rest (a.put o.dst (.slice ao' (n + m) cap)) w') : wpList P ops Q (o :: rest) a w := by
  obtain ⟨hu, hpos, i, z, hi, hz, hsz, hby, hzs⟩ := E
  cases ao with
  | none =>
    obtain ⟨rfl, rfl⟩ := hnil rfl
    have hn : news = [] := List.eq_nil_of_length_eq_zero (by simpa using hl)
    subst hn
    obtain ⟨ao', cap, rfl⟩ := own_form hown
    refine wpList_append_own_none hgd s x t ho B e i size hu hi _ n xs hs hown hx ?_
    exact h ao' cap w (by simpa using hown) (Below.refl _ _)
  | some ad =>
    refine wpList_append_own w hgd s x t ho B e i z size i.bytes hu hi hz hsz rfl hzs hpos v n xs hs hown ad m c news hx hl ?_ h1 (by simp only [maxLen]; omega) ?_ hB ?_
    · rcases hnews with rfl | ⟨b, q, e1, hc⟩
      · intro j u hj; simp at hj
      · cases e1
        intro j u hj
        rw [add_plain_addr]
        exact hc j u hj
    · calc (n + m) * i.bytes ≤ 1099511627776 * 64 := Nat.mul_le_mul h63 hby
        _ ≤ 140737488355328 := by decide
    · intro v' w' h2 h3 _
      obtain ⟨ao', cap, rfl⟩ := own_form h2
      exact h ao' cap w' h2 ((Below.refl B w).grown h3 hB (own_block hown))

/-- 'append' of something, with where the new value lies, and which row may have been written. -/
theorem wp_app_at (E : Elem P t e size) {ops : Array Oper} {rest : List Oper} {o : Oper} {a : Act} {w : World} {Q : Exit → Act → World → Prop} (hgd : o.guard = none) (s x : Operand)
    (ho : o.op = .call { callee := .builtin .append, args := #[s, x], argTypes := #[t, t] })
    {B : Nat} {v : Value} {n : Nat} {xs : List Value} (hs : a.eval s = v) (hown : w.ownsRow B e size v n xs)
    {ad : Addr} {m c : Nat} {news : List Value} (hx : a.eval x = .slice (some ad) m c) (hl : news.length = m * size)
    (hnews : ∀ (j : Nat) u, news[j]? = some u → w.cell? (ad.add j) = some u) (h1 : ∀ u ∈ news, u.oneCell' = true)
    (hm : 0 < m) (h63 : n + m ≤ 1099511627776) (hB : B ≤ w.heap.size)
    (h : ∀ g cap w', w'.ownsRow B e size (.slice (some ⟨g, 0, none⟩) (n + m) cap) (n + m) (xs ++ news) → w.grownBy w' v.ownBlock → (v.ownBlock = some g ∨ g = w.heap.size) → g < w'.heap.size → wpList P ops Q rest (a.put o.dst (.slice (some ⟨g, 0, none⟩) (n + m) cap)) w') : wpList P ops Q (o :: rest) a w := by
  obtain ⟨hu, hpos, i, z, hi, hz, hsz, hby, hzs⟩ := E
  refine wpList_append_lies w hgd s x t ho B e i z size i.bytes hu hi hz hsz rfl hzs hpos v n xs hs hown ad m c news hx hl hnews h1 hm (by simp only [maxLen]; omega) ?_ hB w.heap.size rfl h
  calc (n + m) * i.bytes ≤ 1099511627776 * 64 := Nat.mul_le_mul h63 hby
    _ ≤ 140737488355328 := by decide

theorem new_cells (w : World) (cs : Array Value) (e : TypeId) : ∀ (j : Nat) u, cs.toList[j]? = some u → (w.alloc (.cells cs e)).cell? ⟨w.heap.size, 0 + j, none⟩ = some u := fun j u hu => by
  have := World.news_of_block (heap_alloc_new w (.cells cs e)) j u hu
  rwa [add_plain_addr] at this

/-- 'append(v, x)': one element, which was laid in a block of its own. -/
theorem wp_app1 (E : Elem P t e 1) {ops : Array Oper} {rest : List Oper} {o : Oper} {a : Act} {w : World} {x : Value} {Q : Exit → Act → World → Prop} (hgd : o.guard = none) (s y : Operand)
    (ho : o.op = .call { callee := .builtin .append, args := #[s, y], argTypes := #[t, t] })
    {B : Nat} {v : Value} {n : Nat} {xs : List Value} (hs : a.eval s = v) (hown : w.ownsRow B e 1 v n xs) (hx : a.eval y = .slice (some ⟨w.heap.size, 0, none⟩) 1 1) (h1 : x.oneCell' = true)
    (h63 : n + 1 ≤ 1099511627776) (hB : B ≤ w.heap.size)
    (h : ∀ ao' cap w', w'.ownsRow B e 1 (.slice ao' (n + 1) cap) (n + 1) (xs ++ [x]) → Below B w w' → wpList P ops Q rest (a.put o.dst (.slice ao' (n + 1) cap)) w') : wpList P ops Q (o :: rest) a (w.alloc (.cells #[x] e)) := by
  refine wp_app E hgd s y ho (B := B) hs (hown.alloc _) hx (news := [x]) rfl (fun h => by cases h) (.inr ⟨w.heap.size, 0, rfl, new_cells w #[x] e⟩) ?_ h63 (by simp; omega) ?_
  · intro u hu
    simp only [List.mem_singleton] at hu
    rw [hu]; exact h1
  · intro ao' cap w' h2 h3
    exact h ao' cap w' h2 (((Below.refl B w).alloc hB _).trans h3)
end

/-- The end of a call that hands back a slice of these values, in a row of its own from block B on; below B nothing has turned. -/
def RetO (e B n : Nat) (vs : List Value) (w : World) : Ending → World → Prop := fun x w' => ∃ ao cap, x = .returned (.slice ao n cap) ∧ Below B w w' ∧ w'.ownsRow B e 1 (.slice ao n cap) n vs
end Go.Proofs.Ytaigdbnfhehclaa
