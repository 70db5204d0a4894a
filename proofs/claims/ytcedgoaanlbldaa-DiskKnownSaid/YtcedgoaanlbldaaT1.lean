/- What is proved: lists of puts that come in have the shapes of the walks; puts that come in, as objects that are only read. No condition but those each law names. -/
import Derived.Test.YtcedgoaanlbldaaP
import Derived.Test.YtcedgoaanlbldaaShapeS
import Derived.DataReads
import Derived.Test.YtcedgoaanlbldaaSzE
import Derived.Test.YtcedgoaanlbldaaB2
namespace Go.Proofs.Ytcedgoaanlbldaa
open Go.ChangeShapes Go.WideShapes Go.ChangeAt Go.RowKit

/-- A put, as it lies in memory. -/
structure PuW where
  k : Int
  bs : List Nat
  ao : Option Addr
  cap : Nat
def PuW.val (x : PuW) : Value := .slice x.ao x.bs.length x.cap
def PuW.at (w : World) (a : Addr) (x : PuW) : Prop := w.cell? a = some (.int .i64 x.k) ∧ w.cell? (a.add 1) = some x.val ∧
  Sl w x.ao x.bs.length x.cap (bts x.bs) ∧ SmallB x.bs ∧ x.bs.length ≤ 9223372036854775807
theorem put_of {H : Type} {enc : TypeId × Value → H} {w : World} {a : Addr} {n : Nat} {y : DataW H × List MemPlace} (h : (w.cells? 0 a 2).bind (DataW.trod enc Try.prog w 0 (fun _ => true) true n 33) = some y) : ∃ f : PuW, f.at w a := by
  rw [Option.bind_eq_some_iff] at h
  obtain ⟨cs, hcs, hf⟩ := h
  obtain ⟨_, hl, hc⟩ := World.cells?_some hcs
  match cs, hl with
  | [x0, x1], _ =>
    have h0 := hc 0 (by decide)
    have h1 := hc 1 (by decide)
    obtain ⟨xs, n', _, _, _, hxl, hfs⟩ := DataW.trod_struct Try.underlying33 hf
    have f0 := hfs 0 _ rfl
    have f1 := hfs 1 _ rfl
    obtain ⟨y0, hy0⟩ : ∃ y, xs[0]? = some y := ⟨_, List.getElem?_eq_getElem (by rw [hxl]; decide)⟩
    obtain ⟨y1, hy1⟩ : ∃ y, xs[1]? = some y := ⟨_, List.getElem?_eq_getElem (by rw [hxl]; decide)⟩
    rw [hy0] at f0
    rw [hy1] at f1
    have f0' : DataW.trod enc Try.prog w 0 (fun _ => true) true n' 3 (List.take (Try.prog.cellsOf 3) [x0, x1]) = some y0 := f0
    have f1' : DataW.trod enc Try.prog w 0 (fun _ => true) true n' 27 (List.take (Try.prog.cellsOf 27) [x1]) = some y1 := f1
    have c3 : Try.prog.cellsOf 3 = 1 := by kernel_rfl
    have c27 : Try.prog.cellsOf 27 = 1 := by kernel_rfl
    rw [c3] at f0'
    rw [c27] at f1'
    obtain ⟨k0, hk0, _⟩ := DataW.trod_int Try.underlying3 f0'
    obtain rfl : x0 = .int .i64 k0 := by simpa using hk0
    have hsl : ∃ ax nx cx, x1 = .slice ax nx cx := by
      rcases DataW.trod_slice Try.underlying27 f1' with ⟨h, _⟩ | ⟨a, len, cap, _, _, _, _, h, _⟩
      · exact ⟨_, _, _, by simpa using h⟩
      · exact ⟨_, _, _, by simpa using h⟩
    obtain ⟨ax, nx, cx, rfl⟩ := hsl
    obtain ⟨ao, m, c, l, e, s1, s2, s3⟩ := bytes_of (v := .slice ax nx cx) (d := y1.1) (p := y1.2) Try.underlying27 Try.underlying5 (by kernel_rfl) ⟨_, _, _, rfl⟩ ⟨n', f1'⟩
    cases e
    have hln : l.length = nx := by rw [← s1.len, bts_length]
    subst hln
    refine ⟨⟨k0, l, ax, cx⟩, ?_, h1, s1, s2, s3⟩
    have := h0; rw [add_zero_addr] at this; exact this
/-- A list of puts, as it lies in memory. -/
def PutsW (w : World) (v : Value) (L : List PuW) : Prop := (v = .slice none 0 0 ∧ L = []) ∨ ∃ a c, v = .slice (some a) L.length c ∧ L.length ≤ c ∧ L.length ≤ 9223372036854775807 ∧ ∀ (i : Nat) x, L[i]? = some x → a = ⟨a.block, a.off, none⟩ ∧ x.at w (a.add (i * 2))
theorem puts_of {H : Type} {enc : TypeId × Value → H} {w : World} {v : Value} {d : DataW H} {p : List MemPlace} (hv : ∃ a n c, v = .slice a n c) (h : DataW.Trod enc Try.prog w 0 (fun _ => true) true 22 v d p) : ∃ L, PutsW w v L := by
  obtain ⟨a, n, c, rfl⟩ := hv
  obtain ⟨m, hm⟩ := h
  rcases DataW.trod_slice Try.underlying22 hm with ⟨h1, _⟩ | ⟨a', len, cap, elems, rest, n', _, h1, _, _, hle, hmx, hlen, hel, _⟩
  · have : Value.slice a n c = .slice none 0 0 := by simpa [Value.cells] using h1
    cases this
    exact ⟨[], .inl ⟨rfl, rfl⟩⟩
  · have : Value.slice a n c = .slice (some a') len cap := by simpa [Value.cells] using h1
    cases this
    have c33 : Try.prog.cellsOf 33 = 2 := by kernel_rfl
    rw [c33] at hel
    have H : ∀ i : Nat, ∃ f : PuW, i < n → f.at w (a'.add (i * 2)) := fun i => by
      by_cases hi : i < n
      · have he := hel i hi
        rw [List.getElem?_eq_getElem (show i < elems.length by omega)] at he
        obtain ⟨f, hf⟩ := put_of he
        exact ⟨f, fun _ => hf⟩
      · exact ⟨⟨0, [], none, 0⟩, fun h => absurd h hi⟩
    obtain ⟨F, hF⟩ := Classical.axiomOfChoice H
    refine ⟨(List.range n).map F, .inr ⟨a', c, by simp, by simpa using hle, by simp only [maxLen] at hmx; simp; omega, fun i f hf => ?_⟩⟩
    rw [List.getElem?_map, Option.map_eq_some_iff] at hf
    obtain ⟨j, hj, rfl⟩ := hf
    have hi : i < n := by simpa using (List.getElem?_eq_some_iff.1 hj).1
    rw [List.getElem?_range hi] at hj
    cases hj
    refine ⟨?_, hF i hi⟩
    have hp := plain_of_cell (hF 0 (by omega)).1
    rwa [Nat.zero_mul, add_zero_addr] at hp
end Go.Proofs.Ytcedgoaanlbldaa

namespace Go.Proofs.Ytcedgoaanlbldaa
open Sx hiding Sl

/-- What is only read, with where it lies. -/
structure RoW where
  a : Addr
  s : Nat
  len : Nat
  cap : Nat
  cells : List Value
def RoW.ob (r : RoW) : Ob := .ro r.s r.len r.cells
def rH (R : List RoW) (i : Nat) : OneV := match R[i]? with
  | some r => ⟨.slice (some r.a) r.len r.cap, rfl⟩
  | none => OneV.undef
def rF (R : List RoW) (i : Nat) : Foot := fun b x => match R[i]? with
  | some r => b = r.a.block ∧ r.a.off ≤ x ∧ x < r.a.off + r.cells.length
  | none => False
theorem objs_ro {w : World} {R : List RoW} (hR : ∀ (i : Nat) r, R[i]? = some r → r.len ≤ r.cap ∧ r.cells.length = r.len * r.s ∧ (0 < r.cells.length → r.a.spot = none) ∧
    ∀ (j : Nat) c, r.cells[j]? = some c → CellN w (rH R) R.length r.a.block (r.a.off + j) c) : Objs w (rH R) (fun b x => ∃ i, i < R.length ∧ rF R i b x) (R.map RoW.ob) (rF R) := by
  refine ⟨fun i o ho => ?_, fun i j o p ho hp _ hs => ?_, fun b x => by rw [List.length_map]⟩
  · rw [List.getElem?_map, Option.map_eq_some_iff] at ho
    obtain ⟨r, hr, rfl⟩ := ho
    obtain ⟨h1, h2, h3, h4⟩ := hR i r hr
    rw [List.length_map]
    have e1 : (rH R i).val = .slice (some r.a) r.len r.cap := by unfold rH; rw [hr]
    rw [e1]
    refine ⟨r.a.block, r.a.off, r.a.spot, r.cap, rfl, h1, h2, h3, h4, fun b x => ?_⟩
    unfold rF
    rw [hr]
  · rw [List.getElem?_map, Option.map_eq_some_iff] at ho hp
    obtain ⟨r, _, rfl⟩ := ho
    obtain ⟨r', _, rfl⟩ := hp
    cases hs
/-- A put, in names. -/
structure PD where
  k : Int
  v : Value
  bs : List Int
def PD.cells (x : PD) : List Value := [.int .i64 x.k, x.v]
def rowP (r : List PD) : List Value := (r.map PD.cells).flatten
/-- A list of puts in the store. -/
structure Puts (G : List Ob) (v : Value) (L : List PD) : Prop where
  row : (v = .slice none 0 0 ∧ L = []) ∨ ∃ d, v = tok d ∧ G[d]? = some (.ro 2 L.length (rowP L))
  body : ∀ x ∈ L, Body G x.v x.bs ∧ x.bs.length ≤ 9223372036854775807
  len : L.length ≤ 9223372036854775807
def PuW.pd (x : PuW) (i : Nat) : PD := ⟨x.k, if x.ao.isNone then .slice none 0 0 else tok i, x.bs.map Int.ofNat⟩
def PuW.ro (x : PuW) : RoW := ⟨x.ao.getD ⟨0, 0, none⟩, 1, x.bs.length, x.cap, x.bs.map fun (n : Nat) => Value.int .u8 (n : Int)⟩
def pusFrom (i : Nat) : List PuW → List PD
  | [] => []
  | x :: r => x.pd i :: pusFrom (i + 1) r
theorem pusFrom_length (L : List PuW) (i : Nat) : (pusFrom i L).length = L.length := by
  induction L generalizing i with
  | nil => rfl
  | cons x r ih => simp [pusFrom, ih]
theorem pusFrom_get (L : List PuW) (i j : Nat) : (pusFrom i L)[j]? = (L[j]?).map fun x => x.pd (i + j) := by
  induction L generalizing i j with
  | nil => simp [pusFrom]
  | cons x r ih =>
    cases j with
    | zero => simp [pusFrom]
    | succ j => simp only [pusFrom, List.getElem?_cons_succ, ih]; rw [show i + 1 + j = i + (j + 1) by omega]
theorem rowP_length (r : List PD) : (rowP r).length = r.length * 2 := by
  induction r with
  | nil => rfl
  | cons l r ih =>
    show (l.cells ++ rowP r).length = _
    rw [List.length_append, ih, List.length_cons]
    show 2 + _ = _
    omega
theorem rowP_get (r : List PD) (j : Nat) : (rowP r)[j]? = (r[j / 2]?).bind fun x => x.cells[j % 2]? := by
  induction r generalizing j with
  | nil => simp [rowP]
  | cons l r ih =>
    show (l.cells ++ rowP r)[j]? = _
    by_cases h : j < 2
    · rw [List.getElem?_append_left (by show j < 2; exact h), Nat.div_eq_of_lt h, Nat.mod_eq_of_lt h]
      rfl
    · rw [List.getElem?_append_right (by show 2 ≤ j; omega)]
      show (rowP r)[j - 2]? = _
      rw [ih, show j / 2 = (j - 2) / 2 + 1 by omega, show j % 2 = (j - 2) % 2 by omega]
      rfl
theorem pusFrom_mem {L : List PuW} {x : PD} (h : x ∈ pusFrom 0 L) : ∃ (j : Nat) (y : PuW), L[j]? = some y ∧ x = y.pd j := by
  obtain ⟨j, hj⟩ := List.getElem?_of_mem h
  rw [pusFrom_get, Option.map_eq_some_iff] at hj
  obtain ⟨y, hy, rfl⟩ := hj
  exact ⟨j, y, hy, by rw [Nat.zero_add]⟩
theorem puts_in' {w : World} {v : Value} {L : List PuW} (h : PutsW w v L) : ∃ R v', ∃ L' : List PD, L' = pusFrom 0 L ∧ Objs w (rH R) (fun b x => ∃ i, i < R.length ∧ rF R i b x) (R.map RoW.ob) (rF R) ∧ Puts (R.map RoW.ob) v' L' ∧ concE (rH R) v' = v ∧ Inv (rH R) R.length v' := by
  rcases h with ⟨rfl, rfl⟩ | ⟨a, c, rfl, hle, hmx, hat⟩
  · exact ⟨[], .slice none 0 0, [], rfl, objs_ro (fun i r hr => by simp at hr), ⟨.inl ⟨rfl, rfl⟩, fun x hx => (by cases hx), Nat.zero_le _⟩, rfl, Inv.of_const fun _ => rfl⟩
  · obtain ⟨R, hR⟩ : ∃ R, R = L.map PuW.ro ++ [⟨a, 2, L.length, c, rowP (pusFrom 0 L)⟩] := ⟨_, rfl⟩
    have hlen : R.length = L.length + 1 := by rw [hR]; simp
    have hlo : ∀ (i : Nat) x, L[i]? = some x → R[i]? = some x.ro := fun i x hx => by
      have := (List.getElem?_eq_some_iff.1 hx).1
      rw [hR, List.getElem?_append_left (by simpa using this), List.getElem?_map, hx]; rfl
    have hhi : R[L.length]? = some ⟨a, 2, L.length, c, rowP (pusFrom 0 L)⟩ := by rw [hR, List.getElem?_append_right (by simp)]; simp
    have hval : ∀ (i : Nat) x, L[i]? = some x → concE (rH R) (x.pd i).v = x.val := fun i x hx => by
      obtain ⟨_, _, _, s1, _⟩ := hat i x hx
      show concE (rH R) (if x.ao.isNone then .slice none 0 0 else tok i) = .slice x.ao x.bs.length x.cap
      cases hao : x.ao with
      | none =>
        have hc := s1.nil hao
        have := s1.le
        rw [show x.bs.length = 0 by omega, hc]
        rfl
      | some p =>
        show (rH R i).val = _
        unfold rH
        rw [hlo i x hx]
        show Value.slice (some (x.ao.getD ⟨0, 0, none⟩)) _ _ = _
        rw [hao]
        rfl
    have hob := objs_ro (w := w) (R := R) fun i r hr => by
      have hi := (List.getElem?_eq_some_iff.1 hr).1
      by_cases hiL : i < L.length
      · have hx := List.getElem?_eq_getElem hiL
        obtain ⟨_, _, _, s1, _⟩ := hat i _ hx
        rw [hlo i _ hx] at hr
        cases hr
        obtain ⟨x, ex⟩ : ∃ x, x = L[i] := ⟨_, rfl⟩
        rw [← ex] at s1 ⊢
        refine ⟨s1.le, by simp [PuW.ro], fun h0 => ?_, fun j cc hj => ?_⟩
        · rcases s1.cells with hn | ⟨b, o, he, _⟩
          · have e0 : x.bs.length = 0 := by rw [← bts_length, hn]; rfl
            have h0 : 0 < (x.bs.map fun (n : Nat) => Value.int .u8 (n : Int)).length := h0
            rw [List.length_map] at h0
            omega
          · simp [PuW.ro, he]
        · rcases s1.cells with hn | ⟨b, o, he, hc⟩
          · have e0 : x.bs.length = 0 := by rw [← bts_length, hn]; rfl
            have h2 : j < (x.bs.map fun (n : Nat) => Value.int .u8 (n : Int)).length := (List.getElem?_eq_some_iff.1 hj).1
            rw [List.length_map] at h2
            omega
          · have hj' : (bts x.bs)[j]? = some cc := hj
            have h3 := hc j cc hj'
            simp only [PuW.ro, List.getElem?_map, Option.map_eq_some_iff] at hj
            obtain ⟨m, _, rfl⟩ := hj
            simp only [PuW.ro, he, Option.getD_some]
            exact ⟨h3, rfl, Inv.of_const fun _ => rfl⟩
      · have hi' : i = L.length := by omega
        subst hi'
        rw [hhi] at hr
        cases hr
        refine ⟨hle, by rw [rowP_length, pusFrom_length], fun h0 => ?_, fun j cc hj => ?_⟩
        · have h0 : 0 < (rowP (pusFrom 0 L)).length := h0
          rw [rowP_length, pusFrom_length] at h0
          rw [(hat 0 _ (List.getElem?_eq_getElem (by omega))).1]
        · have hj : (rowP (pusFrom 0 L))[j]? = some cc := hj
          rw [rowP_get, pusFrom_get, Option.bind_eq_some_iff] at hj
          obtain ⟨x', hx', hj⟩ := hj
          rw [Option.map_eq_some_iff] at hx'
          obtain ⟨x, hx, rfl⟩ := hx'
          rw [Nat.zero_add] at hj
          obtain ⟨ha, q0, q1, s1, _⟩ := hat _ x hx
          rw [ha] at q0 q1
          simp only [add_plain_addr] at q0 q1
          have hl2 : j / 2 < L.length := (List.getElem?_eq_some_iff.1 hx).1
          have hm := Nat.mod_lt j (show 0 < 2 by decide)
          have hdm := Nat.div_add_mod j 2
          show CellN w (rH R) R.length a.block (a.off + j) cc
          obtain ⟨m, hm'⟩ : ∃ m, m = j % 2 := ⟨_, rfl⟩
          rw [← hm'] at hj hm hdm
          match m, hm with
          | 0, _ =>
            cases hj
            exact ⟨by rw [show a.off + j = a.off + j / 2 * 2 by omega]; exact q0, rfl, Inv.of_const fun _ => rfl⟩
          | 1, _ =>
            cases hj
            refine ⟨by rw [show a.off + j = a.off + j / 2 * 2 + 1 by omega, q1, hval _ x hx], ?_, ?_⟩
            · show (if x.ao.isNone then Value.slice none 0 0 else tok (j / 2)).oneCell' = true
              split <;> rfl
            · show Inv _ _ (if x.ao.isNone then Value.slice none 0 0 else tok (j / 2))
              split
              · exact Inv.of_const fun _ => rfl
              · exact Inv.name (by omega)
    refine ⟨R, tok L.length, pusFrom 0 L, rfl, hob, ⟨.inr ⟨_, rfl, ?_⟩, fun x hx => ?_, by rw [pusFrom_length]; exact hmx⟩, ?_, Inv.name (by omega)⟩
    · rw [List.getElem?_map, hhi, pusFrom_length]; rfl
    · obtain ⟨j, y, hy, rfl⟩ := pusFrom_mem hx
      obtain ⟨_, _, _, s1, _, s3⟩ := hat j y hy
      refine ⟨?_, by simpa [PuW.pd] using s3⟩
      show Body _ (if y.ao.isNone then Value.slice none 0 0 else tok j) (y.bs.map Int.ofNat)
      cases hao : y.ao with
      | none =>
        have hc := s1.nil hao
        have := s1.le
        exact .inl ⟨rfl, by rw [List.eq_nil_of_length_eq_zero (show y.bs.length = 0 by omega)]; rfl⟩
      | some p =>
        refine .inr ⟨j, rfl, ?_⟩
        rw [List.getElem?_map, hlo j y hy, List.length_map, List.map_map]
        rfl
    · show (rH R L.length).val = _
      unfold rH
      rw [hhi]
theorem puts_in {w : World} {v : Value} {L : List PuW} (h : PutsW w v L) : ∃ R v' L', Objs w (rH R) (fun b x => ∃ i, i < R.length ∧ rF R i b x) (R.map RoW.ob) (rF R) ∧ Puts (R.map RoW.ob) v' L' ∧ concE (rH R) v' = v ∧ Inv (rH R) R.length v' := by
  obtain ⟨R, v', L', _, h⟩ := puts_in' h
  exact ⟨R, v', L', h⟩
end Go.Proofs.Ytcedgoaanlbldaa
