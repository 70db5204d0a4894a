/- What is proved: lists of puts that come in have the shapes of the walks. No condition. -/
import Derived.Test.YtcedgoaanlbldaaP
import Derived.Test.YtcedgoaanlbldaaShapeS
import Derived.DataReads
namespace Go.Proofs.Ytcedgoaanlbldaa
open Go.ChangeShapes Go.WideShapes Go.ChangeAt Go.RowKit

/-- A put, as it lies in memory. -/
structure PuW where
  k : Int
  bs : List Nat
  ao : Option Addr
  cap : Nat
def PuW.val (x : PuW) : Value := .slice x.ao x.bs.length x.cap
def PuW.at (w : World) (a : Addr) (x : PuW) : Prop := w.cell? a = some (.int .i64 x.k) ∧ w.cell? (a.add 1) = some x.val ∧
  Sl w x.ao x.bs.length x.cap (bts x.bs) ∧ SmallB x.bs ∧ x.bs.length ≤ 9223372036854775807
theorem put_of {H : Type} {enc : TypeId × Value → H} {w : World} {a : Addr} {n : Nat} {y : DataW H × List MemPlace} (h : (w.cells? 0 a 2).bind (DataW.trod enc Try.prog w 0 (fun _ => true) true n 33) = some y) : ∃ f : PuW, f.at w a := by
  rw [Option.bind_eq_some_iff] at h
  obtain ⟨cs, hcs, hf⟩ := h
  obtain ⟨_, hl, hc⟩ := World.cells?_some hcs
  match cs, hl with
  | [x0, x1], _ =>
    have h0 := hc 0 (by decide)
    have h1 := hc 1 (by decide)
    obtain ⟨xs, n', _, _, _, hxl, hfs⟩ := DataW.trod_struct Try.underlying33 hf
    have f0 := hfs 0 _ rfl
    have f1 := hfs 1 _ rfl
    obtain ⟨y0, hy0⟩ : ∃ y, xs[0]? = some y := ⟨_, List.getElem?_eq_getElem (by rw [hxl]; decide)⟩
    obtain ⟨y1, hy1⟩ : ∃ y, xs[1]? = some y := ⟨_, List.getElem?_eq_getElem (by rw [hxl]; decide)⟩
    rw [hy0] at f0
    rw [hy1] at f1
    have f0' : DataW.trod enc Try.prog w 0 (fun _ => true) true n' 3 (List.take (Try.prog.cellsOf 3) [x0, x1]) = some y0 := f0
    have f1' : DataW.trod enc Try.prog w 0 (fun _ => true) true n' 27 (List.take (Try.prog.cellsOf 27) [x1]) = some y1 := f1
    have c3 : Try.prog.cellsOf 3 = 1 := by kernel_rfl
    have c27 : Try.prog.cellsOf 27 = 1 := by kernel_rfl
    rw [c3] at f0'
    rw [c27] at f1'
    obtain ⟨k0, hk0, _⟩ := DataW.trod_int Try.underlying3 f0'
    obtain rfl : x0 = .int .i64 k0 := by simpa using hk0
    have hsl : ∃ ax nx cx, x1 = .slice ax nx cx := by
      rcases DataW.trod_slice Try.underlying27 f1' with ⟨h, _⟩ | ⟨a, len, cap, _, _, _, _, h, _⟩
      · exact ⟨_, _, _, by simpa using h⟩
      · exact ⟨_, _, _, by simpa using h⟩
    obtain ⟨ax, nx, cx, rfl⟩ := hsl
    obtain ⟨ao, m, c, l, e, s1, s2, s3⟩ := bytes_of (v := .slice ax nx cx) (d := y1.1) (p := y1.2) Try.underlying27 Try.underlying5 (by kernel_rfl) ⟨_, _, _, rfl⟩ ⟨n', f1'⟩
    cases e
    have hln : l.length = nx := by rw [← s1.len, bts_length]
    subst hln
    refine ⟨⟨k0, l, ax, cx⟩, ?_, h1, s1, s2, s3⟩
    have := h0; rw [add_zero_addr] at this; exact this
/-- A list of puts, as it lies in memory. -/
def PutsW (w : World) (v : Value) (L : List PuW) : Prop := (v = .slice none 0 0 ∧ L = []) ∨ ∃ a c, v = .slice (some a) L.length c ∧ L.length ≤ c ∧ L.length ≤ 9223372036854775807 ∧ ∀ (i : Nat) x, L[i]? = some x → a = ⟨a.block, a.off, none⟩ ∧ x.at w (a.add (i * 2))
theorem puts_of {H : Type} {enc : TypeId × Value → H} {w : World} {v : Value} {d : DataW H} {p : List MemPlace} (hv : ∃ a n c, v = .slice a n c) (h : DataW.Trod enc Try.prog w 0 (fun _ => true) true 22 v d p) : ∃ L, PutsW w v L := by
  obtain ⟨a, n, c, rfl⟩ := hv
  obtain ⟨m, hm⟩ := h
  rcases DataW.trod_slice Try.underlying22 hm with ⟨h1, _⟩ | ⟨a', len, cap, elems, rest, n', _, h1, _, _, hle, hmx, hlen, hel, _⟩
  · have : Value.slice a n c = .slice none 0 0 := by simpa [Value.cells] using h1
    cases this
    exact ⟨[], .inl ⟨rfl, rfl⟩⟩
  · have : Value.slice a n c = .slice (some a') len cap := by simpa [Value.cells] using h1
    cases this
    have c33 : Try.prog.cellsOf 33 = 2 := by kernel_rfl
    rw [c33] at hel
    have H : ∀ i : Nat, ∃ f : PuW, i < n → f.at w (a'.add (i * 2)) := fun i => by
      by_cases hi : i < n
      · have he := hel i hi
        rw [List.getElem?_eq_getElem (show i < elems.length by omega)] at he
        obtain ⟨f, hf⟩ := put_of he
        exact ⟨f, fun _ => hf⟩
      · exact ⟨⟨0, [], none, 0⟩, fun h => absurd h hi⟩
    obtain ⟨F, hF⟩ := Classical.axiomOfChoice H
    refine ⟨(List.range n).map F, .inr ⟨a', c, by simp, by simpa using hle, by simp only [maxLen] at hmx; simp; omega, fun i f hf => ?_⟩⟩
    rw [List.getElem?_map, Option.map_eq_some_iff] at hf
    obtain ⟨j, hj, rfl⟩ := hf
    have hi : i < n := by simpa using (List.getElem?_eq_some_iff.1 hj).1
    rw [List.getElem?_range hi] at hj
    cases hj
    refine ⟨?_, hF i hi⟩
    have hp := plain_of_cell (hF 0 (by omega)).1
    rwa [Nat.zero_mul, add_zero_addr] at hp
end Go.Proofs.Ytcedgoaanlbldaa
