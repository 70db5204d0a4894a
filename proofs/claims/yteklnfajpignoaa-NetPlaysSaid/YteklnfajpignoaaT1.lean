/- What is proved: lists of acts that come in have the shapes of the walks. No condition. -/
import Derived.Test.YteklnfajpignoaaP
import Derived.Test.YteklnfajpignoaaShapeS
import Derived.DataReads
namespace Go.Proofs.Yteklnfajpignoaa
open Go.ChangeShapes Go.WideShapes Go.ChangeAt Go.RowKit

/-- An act, as it lies in memory. -/
structure AcW where
  k : Int
  a : Int
  b : Int
  bs : List Nat
  ao : Option Addr
  cap : Nat
def AcW.val (x : AcW) : Value := .slice x.ao x.bs.length x.cap
def AcW.at (w : World) (a : Addr) (x : AcW) : Prop := w.cell? a = some (.int .i64 x.k) ∧ w.cell? (a.add 1) = some (.int .i64 x.a) ∧ w.cell? (a.add 2) = some (.int .i64 x.b) ∧ w.cell? (a.add 3) = some x.val ∧
  Sl w x.ao x.bs.length x.cap (bts x.bs) ∧ SmallB x.bs ∧ x.bs.length ≤ 9223372036854775807
theorem act_of {H : Type} {enc : TypeId × Value → H} {w : World} {a : Addr} {n : Nat} {y : DataW H × List MemPlace} (h : (w.cells? 0 a 4).bind (DataW.trod enc Try.prog w 0 (fun _ => true) true n 32) = some y) : ∃ f : AcW, f.at w a ∧ Lit.wf (.int .i64 f.a) = true := by
  rw [Option.bind_eq_some_iff] at h
  obtain ⟨cs, hcs, hf⟩ := h
  obtain ⟨_, hl, hc⟩ := World.cells?_some hcs
  match cs, hl with
  | [x0, x1, x2, x3], _ =>
    have h0 := hc 0 (by decide)
    have h1 := hc 1 (by decide)
    have h2 := hc 2 (by decide)
    have h3 := hc 3 (by decide)
    obtain ⟨xs, n', _, _, _, hxl, hfs⟩ := DataW.trod_struct Try.underlying32 hf
    have f0 := hfs 0 _ rfl
    have f1 := hfs 1 _ rfl
    have f2 := hfs 2 _ rfl
    have f3 := hfs 3 _ rfl
    obtain ⟨y0, hy0⟩ : ∃ y, xs[0]? = some y := ⟨_, List.getElem?_eq_getElem (by rw [hxl]; decide)⟩
    obtain ⟨y1, hy1⟩ : ∃ y, xs[1]? = some y := ⟨_, List.getElem?_eq_getElem (by rw [hxl]; decide)⟩
    obtain ⟨y2, hy2⟩ : ∃ y, xs[2]? = some y := ⟨_, List.getElem?_eq_getElem (by rw [hxl]; decide)⟩
    obtain ⟨y3, hy3⟩ : ∃ y, xs[3]? = some y := ⟨_, List.getElem?_eq_getElem (by rw [hxl]; decide)⟩
    rw [hy0] at f0
    rw [hy1] at f1
    rw [hy2] at f2
    rw [hy3] at f3
    have f0' : DataW.trod enc Try.prog w 0 (fun _ => true) true n' 3 (List.take (Try.prog.cellsOf 3) [x0, x1, x2, x3]) = some y0 := f0
    have f1' : DataW.trod enc Try.prog w 0 (fun _ => true) true n' 3 (List.take (Try.prog.cellsOf 3) [x1, x2, x3]) = some y1 := f1
    have f2' : DataW.trod enc Try.prog w 0 (fun _ => true) true n' 3 (List.take (Try.prog.cellsOf 3) [x2, x3]) = some y2 := f2
    have f3' : DataW.trod enc Try.prog w 0 (fun _ => true) true n' 30 (List.take (Try.prog.cellsOf 30) [x3]) = some y3 := f3
    have c3 : Try.prog.cellsOf 3 = 1 := by kernel_rfl
    have c30 : Try.prog.cellsOf 30 = 1 := by kernel_rfl
    rw [c3] at f0' f1' f2'
    rw [c30] at f3'
    obtain ⟨k0, hk0, _⟩ := DataW.trod_int Try.underlying3 f0'
    obtain ⟨k1, hk1, _, hw1⟩ := DataW.trod_int Try.underlying3 f1'
    obtain ⟨k2, hk2, _⟩ := DataW.trod_int Try.underlying3 f2'
    obtain rfl : x0 = .int .i64 k0 := by simpa using hk0
    obtain rfl : x1 = .int .i64 k1 := by simpa using hk1
    obtain rfl : x2 = .int .i64 k2 := by simpa using hk2
    have hsl : ∃ ax nx cx, x3 = .slice ax nx cx := by
      rcases DataW.trod_slice Try.underlying30 f3' with ⟨h, _⟩ | ⟨a, len, cap, _, _, _, _, h, _⟩
      · exact ⟨_, _, _, by simpa using h⟩
      · exact ⟨_, _, _, by simpa using h⟩
    obtain ⟨ax, nx, cx, rfl⟩ := hsl
    obtain ⟨ao, m, c, l, e, s1, s2, s3⟩ := bytes_of (v := .slice ax nx cx) (d := y3.1) (p := y3.2) Try.underlying30 Try.underlying5 (by kernel_rfl) ⟨_, _, _, rfl⟩ ⟨n', f3'⟩
    cases e
    have hln : l.length = nx := by rw [← s1.len, bts_length]
    subst hln
    refine ⟨⟨k0, k1, k2, l, ax, cx⟩, ⟨?_, h1, h2, h3, s1, s2, s3⟩, hw1⟩
    have := h0; rw [add_zero_addr] at this; exact this
/-- A list of acts, as it lies in memory. -/
def ActsW (w : World) (v : Value) (L : List AcW) : Prop := (v = .slice none 0 0 ∧ L = []) ∨ ∃ a c, v = .slice (some a) L.length c ∧ L.length ≤ c ∧ L.length ≤ 9223372036854775807 ∧ ∀ (i : Nat) x, L[i]? = some x → a = ⟨a.block, a.off, none⟩ ∧ x.at w (a.add (i * 4))
theorem acts_rng {H : Type} {enc : TypeId × Value → H} {w : World} {v : Value} {d : DataW H} {p : List MemPlace} (hv : ∃ a n c, v = .slice a n c) (h : DataW.Trod enc Try.prog w 0 (fun _ => true) true 22 v d p) : ∃ L, ActsW w v L ∧ ∀ x ∈ L, Lit.wf (.int .i64 x.a) = true := by
  obtain ⟨a, n, c, rfl⟩ := hv
  obtain ⟨m, hm⟩ := h
  rcases DataW.trod_slice Try.underlying22 hm with ⟨h1, _⟩ | ⟨a', len, cap, elems, rest, n', _, h1, _, _, hle, hmx, hlen, hel, _⟩
  · have : Value.slice a n c = .slice none 0 0 := by simpa [Value.cells] using h1
    cases this
    exact ⟨[], .inl ⟨rfl, rfl⟩, fun x hx => (by cases hx)⟩
  · have : Value.slice a n c = .slice (some a') len cap := by simpa [Value.cells] using h1
    cases this
    have c32 : Try.prog.cellsOf 32 = 4 := by kernel_rfl
    rw [c32] at hel
    have H : ∀ i : Nat, ∃ f : AcW, i < n → f.at w (a'.add (i * 4)) ∧ Lit.wf (.int .i64 f.a) = true := fun i => by
      by_cases hi : i < n
      · have he := hel i hi
        rw [List.getElem?_eq_getElem (show i < elems.length by omega)] at he
        obtain ⟨f, hf⟩ := act_of he
        exact ⟨f, fun _ => hf⟩
      · exact ⟨⟨0, 0, 0, [], none, 0⟩, fun h => absurd h hi⟩
    obtain ⟨F, hF⟩ := Classical.axiomOfChoice H
    refine ⟨(List.range n).map F, .inr ⟨a', c, by simp, by simpa using hle, by simp only [maxLen] at hmx; simp; omega, fun i f hf => ?_⟩, fun x hx => ?_⟩
    · rw [List.getElem?_map, Option.map_eq_some_iff] at hf
      obtain ⟨j, hj, rfl⟩ := hf
      have hi : i < n := by simpa using (List.getElem?_eq_some_iff.1 hj).1
      rw [List.getElem?_range hi] at hj
      cases hj
      refine ⟨?_, (hF i hi).1⟩
      have hp := plain_of_cell (hF 0 (by omega)).1.1
      rwa [Nat.zero_mul, add_zero_addr] at hp
    · obtain ⟨j, hj, rfl⟩ := List.mem_map.1 hx
      exact (hF j (List.mem_range.1 hj)).2
theorem acts_of {H : Type} {enc : TypeId × Value → H} {w : World} {v : Value} {d : DataW H} {p : List MemPlace} (hv : ∃ a n c, v = .slice a n c) (h : DataW.Trod enc Try.prog w 0 (fun _ => true) true 22 v d p) : ∃ L, ActsW w v L :=
  (acts_rng hv h).imp fun _ h => h.1
end Go.Proofs.Yteklnfajpignoaa
