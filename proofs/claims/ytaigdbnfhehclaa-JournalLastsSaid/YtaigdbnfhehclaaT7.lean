/- What is proved: lists of lives that come in: what they are in memory. No condition. -/
import Derived.Test.YtaigdbnfhehclaaP
import Derived.Test.YtaigdbnfhehclaaBytes
namespace Go.Proofs.Ytaigdbnfhehclaa
open Go.ChangeShapes Go.WideShapes Go.ChangeAt Go.RowKit
set_option maxRecDepth 100000

/-- A slice of items of so many cells each, of which P holds where they lie. -/
structure ItemsR {α : Type} (P : α → Nat → Nat → Prop) (size : Nat) (ao : Option Addr) (n c : Nat) (L : List α) : Prop where
  len : L.length = n
  le : n ≤ c
  mx : n ≤ 9223372036854775807
  nil : ao = none → c = 0
  each : ∀ (i : Nat) x, L[i]? = some x → ∃ b o, ao = some ⟨b, o, none⟩ ∧ P x b (o + i * size)
theorem items_of {H α : Type} [Inhabited α] {enc : TypeId × Value → H} {w : World} {t e : TypeId} {size fuel : Nat} {x : DataW H × List MemPlace} {ao : Option Addr} {n c : Nat} (P : α → Nat → Nat → Prop) (ht : Try.prog.underlying t = some (.slice e)) (hc : Try.prog.cellsOf e = size)
    (h : DataW.trod enc Try.prog w 0 (fun _ => true) true fuel t [.slice ao n c] = some x)
    (he : ∀ (a : Addr) (m : Nat) (y : DataW H × List MemPlace), (w.cells? 0 a size).bind (DataW.trod enc Try.prog w 0 (fun _ => true) true m e) = some y → a = ⟨a.block, a.off, none⟩ ∧ ∃ f, P f a.block a.off) : ∃ L : List α, ItemsR P size ao n c L := by
  rcases DataW.trod_slice ht h with ⟨h1, _⟩ | ⟨a', len, cap, elems, rest, n', _, h1, hx, _, hle, hmx, hlen, hel, _⟩
  · have : Value.slice ao n c = .slice none 0 0 := by simpa using h1
    cases this
    exact ⟨[], rfl, Nat.le_refl _, by omega, fun _ => rfl, fun i x h => by simp at h⟩
  · have : Value.slice ao n c = .slice (some a') len cap := by simpa using h1
    cases this
    rw [hc] at hel
    have H : ∀ i : Nat, ∃ f : α, i < n → a' = ⟨a'.block, a'.off, none⟩ ∧ P f a'.block (a'.off + i * size) := fun i => by
      by_cases hi : i < n
      · have h2 := hel i hi
        rw [List.getElem?_eq_getElem (show i < elems.length by omega)] at h2
        obtain ⟨_, f, hf⟩ := he _ _ _ h2
        have h3 := hel 0 (by omega)
        rw [List.getElem?_eq_getElem (show 0 < elems.length by omega)] at h3
        have ha := (he _ _ _ h3).1
        rw [Nat.zero_mul, add_zero_addr] at ha
        refine ⟨f, fun _ => ⟨ha, ?_⟩⟩
        rw [ha, add_plain_addr] at hf
        exact hf
      · exact ⟨default, fun h => absurd h hi⟩
    obtain ⟨F, hF⟩ := Classical.axiomOfChoice H
    refine ⟨(List.range n).map F, by simp, by simpa using hle, by simp only [maxLen] at hmx; omega, (fun h => by cases h), fun i f hf => ?_⟩
    rw [List.getElem?_map, Option.map_eq_some_iff] at hf
    obtain ⟨j, hj, rfl⟩ := hf
    have hi : i < n := by simpa using (List.getElem?_eq_some_iff.1 hj).1
    rw [List.getElem?_range hi] at hj
    cases hj
    obtain ⟨q1, q2⟩ := hF i hi
    exact ⟨_, _, congrArg some q1, q2⟩
/-- What is done, as it lies in memory. -/
structure DoW where
  kind : Int
  size : Int
  anew : Bool
instance : Inhabited DoW := ⟨⟨0, 0, false⟩⟩
def DoW.at (w : World) (x : DoW) (b o : Nat) : Prop := w.cell? ⟨b, o, none⟩ = some (.int .i64 x.kind) ∧ w.cell? ⟨b, o + 1, none⟩ = some (.int .i64 x.size) ∧ w.cell? ⟨b, o + 2, none⟩ = some (.bool x.anew)
/-- A life. -/
structure LifeW where
  does : List DoW
  ao : Option Addr
  n : Nat
  cap : Nat
  cut : Int
  keep : List Int
  bo : Option Addr
  m : Nat
  dap : Nat
instance : Inhabited LifeW := ⟨⟨[], none, 0, 0, 0, [], none, 0, 0⟩⟩
structure LifeW.at (w : World) (x : LifeW) (b o : Nat) : Prop where
  c0 : w.cell? ⟨b, o, none⟩ = some (.slice x.ao x.n x.cap)
  c1 : w.cell? ⟨b, o + 1, none⟩ = some (.int .i64 x.cut)
  c2 : w.cell? ⟨b, o + 2, none⟩ = some (.slice x.bo x.m x.dap)
  does : ItemsR (DoW.at w) 3 x.ao x.n x.cap x.does
  keep : Sl w x.bo x.m x.dap (x.keep.map (Value.int .i64))
theorem do_of {H : Type} {enc : TypeId × Value → H} {w : World} (a : Addr) (m : Nat) (y : DataW H × List MemPlace) (h : (w.cells? 0 a 3).bind (DataW.trod enc Try.prog w 0 (fun _ => true) true m 85) = some y) : a = ⟨a.block, a.off, none⟩ ∧ ∃ f : DoW, f.at w a.block a.off := by
  rw [Option.bind_eq_some_iff] at h
  obtain ⟨cs, hcs, hf⟩ := h
  obtain ⟨_, hl, hc⟩ := World.cells?_some hcs
  match cs, hl with
  | [x0, x1, x2], _ =>
    have h0 := hc 0 (by decide)
    have h1 := hc 1 (by decide)
    have h2 := hc 2 (by decide)
    obtain ⟨xs, n', _, _, _, hxl, hfs⟩ := DataW.trod_struct Try.underlying85 hf
    have f0 := hfs 0 _ rfl
    have f1 := hfs 1 _ rfl
    have f2 := hfs 2 _ rfl
    have hxl : xs.length = 3 := hxl
    obtain ⟨y0, hy0⟩ : ∃ y, xs[0]? = some y := ⟨_, List.getElem?_eq_getElem (by omega)⟩
    obtain ⟨y1, hy1⟩ : ∃ y, xs[1]? = some y := ⟨_, List.getElem?_eq_getElem (by omega)⟩
    obtain ⟨y2, hy2⟩ : ∃ y, xs[2]? = some y := ⟨_, List.getElem?_eq_getElem (by omega)⟩
    rw [hy0] at f0
    rw [hy1] at f1
    rw [hy2] at f2
    have c3 : Try.prog.cellsOf 3 = 1 := by kernel_rfl
    have c4 : Try.prog.cellsOf 4 = 1 := by kernel_rfl
    have f0' : DataW.trod enc Try.prog w 0 (fun _ => true) true n' 3 (List.take (Try.prog.cellsOf 3) [x0, x1, x2]) = some y0 := f0
    have f1' : DataW.trod enc Try.prog w 0 (fun _ => true) true n' 3 (List.take (Try.prog.cellsOf 3) [x1, x2]) = some y1 := f1
    have f2' : DataW.trod enc Try.prog w 0 (fun _ => true) true n' 4 (List.take (Try.prog.cellsOf 4) [x2]) = some y2 := f2
    rw [c3] at f0' f1'
    rw [c4] at f2'
    obtain ⟨k0, hk0, _⟩ := DataW.trod_int Try.underlying3 f0'
    obtain rfl : x0 = .int .i64 k0 := by simpa using hk0
    obtain ⟨k1, hk1, _⟩ := DataW.trod_int Try.underlying3 f1'
    obtain rfl : x1 = .int .i64 k1 := by simpa using hk1
    obtain ⟨k2, hk2, _⟩ := DataW.trod_bool Try.underlying4 f2'
    obtain rfl : x2 = .bool k2 := by simpa using hk2
    have h0 : w.cell? (a.add 0) = some (.int .i64 k0) := h0
    have h1 : w.cell? (a.add 1) = some (.int .i64 k1) := h1
    have h2 : w.cell? (a.add 2) = some (.bool k2) := h2
    rw [add_zero_addr] at h0
    have hp := plain_of_cell h0
    rw [hp] at h0 h1 h2
    rw [add_plain_addr] at h1 h2
    exact ⟨hp, ⟨k0, k1, k2⟩, h0, h1, h2⟩
theorem life_of {H : Type} {enc : TypeId × Value → H} {w : World} (a : Addr) (m : Nat) (y : DataW H × List MemPlace) (h : (w.cells? 0 a 3).bind (DataW.trod enc Try.prog w 0 (fun _ => true) true m 44) = some y) : a = ⟨a.block, a.off, none⟩ ∧ ∃ f : LifeW, f.at w a.block a.off := by
  rw [Option.bind_eq_some_iff] at h
  obtain ⟨cs, hcs, hf⟩ := h
  obtain ⟨_, hl, hc⟩ := World.cells?_some hcs
  match cs, hl with
  | [x0, x1, x2], _ =>
    have h0 := hc 0 (by decide)
    have h1 := hc 1 (by decide)
    have h2 := hc 2 (by decide)
    obtain ⟨xs, n', _, _, _, hxl, hfs⟩ := DataW.trod_struct Try.underlying44 hf
    have f0 := hfs 0 _ rfl
    have f1 := hfs 1 _ rfl
    have f2 := hfs 2 _ rfl
    have hxl : xs.length = 3 := hxl
    obtain ⟨y0, hy0⟩ : ∃ y, xs[0]? = some y := ⟨_, List.getElem?_eq_getElem (by omega)⟩
    obtain ⟨y1, hy1⟩ : ∃ y, xs[1]? = some y := ⟨_, List.getElem?_eq_getElem (by omega)⟩
    obtain ⟨y2, hy2⟩ : ∃ y, xs[2]? = some y := ⟨_, List.getElem?_eq_getElem (by omega)⟩
    rw [hy0] at f0
    rw [hy1] at f1
    rw [hy2] at f2
    have c3 : Try.prog.cellsOf 3 = 1 := by kernel_rfl
    have c42 : Try.prog.cellsOf 42 = 1 := by kernel_rfl
    have c22 : Try.prog.cellsOf 22 = 1 := by kernel_rfl
    have c85 : Try.prog.cellsOf 85 = 3 := by kernel_rfl
    have f0' : DataW.trod enc Try.prog w 0 (fun _ => true) true n' 42 (List.take (Try.prog.cellsOf 42) [x0, x1, x2]) = some y0 := f0
    have f1' : DataW.trod enc Try.prog w 0 (fun _ => true) true n' 3 (List.take (Try.prog.cellsOf 3) [x1, x2]) = some y1 := f1
    have f2' : DataW.trod enc Try.prog w 0 (fun _ => true) true n' 22 (List.take (Try.prog.cellsOf 22) [x2]) = some y2 := f2
    rw [c42] at f0'
    rw [c3] at f1'
    rw [c22] at f2'
    obtain ⟨k1, hk1, _⟩ := DataW.trod_int Try.underlying3 f1'
    obtain rfl : x1 = .int .i64 k1 := by simpa using hk1
    have hsl : ∃ ax nx cx, x0 = .slice ax nx cx := by
      rcases DataW.trod_slice Try.underlying42 f0' with ⟨h, _⟩ | ⟨a, len, cap, _, _, _, _, h, _⟩
      · exact ⟨_, _, _, by simpa using h⟩
      · exact ⟨_, _, _, by simpa using h⟩
    obtain ⟨ax, nx, cx, rfl⟩ := hsl
    have hsl : ∃ ax nx cx, x2 = .slice ax nx cx := by
      rcases DataW.trod_slice Try.underlying22 f2' with ⟨h, _⟩ | ⟨a, len, cap, _, _, _, _, h, _⟩
      · exact ⟨_, _, _, by simpa using h⟩
      · exact ⟨_, _, _, by simpa using h⟩
    obtain ⟨bx, my, dy, rfl⟩ := hsl
    obtain ⟨D, hD⟩ := items_of (DoW.at w) Try.underlying42 c85 f0' do_of
    obtain ⟨bo, m', c', l', e, t1, _⟩ := its_of (v := .slice bx my dy) (d := y2.1) (p := y2.2) Try.underlying22 Try.underlying3 (by kernel_rfl) ⟨_, _, _, rfl⟩ ⟨n', f2'⟩
    cases e
    have h0 : w.cell? (a.add 0) = some (.slice ax nx cx) := h0
    have h1 : w.cell? (a.add 1) = some (.int .i64 k1) := h1
    have h2 : w.cell? (a.add 2) = some (.slice bx my dy) := h2
    rw [add_zero_addr] at h0
    have hp := plain_of_cell h0
    rw [hp] at h0 h1 h2
    rw [add_plain_addr] at h1 h2
    exact ⟨hp, ⟨D, ax, nx, cx, k1, l', bx, my, dy⟩, h0, h1, h2, hD, t1⟩
theorem lives_of {H : Type} {enc : TypeId × Value → H} {w : World} {v : Value} {d : DataW H} {p : List MemPlace} (hv : ∃ a n c, v = .slice a n c) (h : DataW.Trod enc Try.prog w 0 (fun _ => true) true 39 v d p) : ∃ ao n c L, v = .slice ao n c ∧ ItemsR (LifeW.at w) 3 ao n c L := by
  obtain ⟨a, n, c, rfl⟩ := hv
  obtain ⟨m, hm⟩ := h
  have c44 : Try.prog.cellsOf 44 = 3 := by kernel_rfl
  obtain ⟨L, hL⟩ := items_of (LifeW.at w) Try.underlying39 c44 hm life_of
  exact ⟨a, n, c, L, rfl, hL⟩
theorem ItemsR.keep {α : Type} {P P' : α → Nat → Nat → Prop} {size : Nat} {ao : Option Addr} {n c : Nat} {L : List α} (h : ItemsR P size ao n c L) (hk : ∀ x b o, P x b o → P' x b o) : ItemsR P' size ao n c L :=
  ⟨h.len, h.le, h.mx, h.nil, fun i x hx => by
    obtain ⟨b, o, e, hp⟩ := h.each i x hx
    exact ⟨b, o, e, hk _ _ _ hp⟩⟩
theorem cell_keep {w w' : World} {B b o : Nat} {v : Value} (hB : w.heap.size ≤ B) (hw : Below B w w') (h : w.cell? ⟨b, o, none⟩ = some v) : w'.cell? ⟨b, o, none⟩ = some v :=
  (hw.cell (p := ⟨b, o, none⟩) (Nat.lt_of_lt_of_le (World.block_lt_of_cell? w ⟨b, o, none⟩ h) hB)).trans h
theorem DoW.keep {w w' : World} {B : Nat} (hB : w.heap.size ≤ B) (hw : Below B w w') (x : DoW) (b o : Nat) (h : x.at w b o) : x.at w' b o := ⟨cell_keep hB hw h.1, cell_keep hB hw h.2.1, cell_keep hB hw h.2.2⟩
theorem LifeW.keepW {w w' : World} {B : Nat} (hB : w.heap.size ≤ B) (hw : Below B w w') (x : LifeW) (b o : Nat) (h : x.at w b o) : x.at w' b o :=
  ⟨cell_keep hB hw h.c0, cell_keep hB hw h.c1, cell_keep hB hw h.c2, h.does.keep (DoW.keep hB hw), h.keep.keep hB hw⟩
end Go.Proofs.Ytaigdbnfhehclaa
