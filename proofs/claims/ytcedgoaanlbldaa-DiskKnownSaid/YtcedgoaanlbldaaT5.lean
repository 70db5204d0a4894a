/- What is proved: lists of calls that come in: what they are, how long, and as objects that are only read. No condition. -/
import Derived.Test.YtcedgoaanlbldaaF7
import Derived.Test.YtcedgoaanlbldaaD7
import Derived.SizedLaws
import Derived.Test.YtcedgoaanlbldaaT4
namespace Go.Proofs.Ytcedgoaanlbldaa
open Go.ChangeShapes Go.WideShapes Go.ChangeAt Go.RowKit
set_option maxRecDepth 100000

/-- A call, as it lies in memory. -/
structure OpW where
  kd : Int
  i : Int
  bs : List Nat
  ao : Option Addr
  cap : Nat
  ks : List Int
  bo : Option Addr
  dap : Nat
def OpW.vB (x : OpW) : Value := .slice x.ao x.bs.length x.cap
def OpW.vK (x : OpW) : Value := .slice x.bo x.ks.length x.dap
structure OpW.at (w : World) (a : Addr) (x : OpW) : Prop where
  c0 : w.cell? a = some (.int .i64 x.kd)
  c1 : w.cell? (a.add 1) = some (.int .i64 x.i)
  c2 : w.cell? (a.add 2) = some x.vB
  c3 : w.cell? (a.add 3) = some x.vK
  sB : Sl w x.ao x.bs.length x.cap (bts x.bs)
  sK : Sl w x.bo x.ks.length x.dap (x.ks.map (Value.int .i64))
  lB : x.bs.length ≤ 140737488355327
  lK : x.ks.length ≤ 140737488355327
  lI : x.i < 9223372036854775808
theorem mem_weightsAll {H : Type} {P : Program} {e : TypeId} : ∀ {l : List (DataW H)} {d : DataW H}, d ∈ l → ∀ n ∈ d.weights P e, n ∈ DataW.weightsAll P e l
  | x :: r, d, h, n, hn => by
    rw [DataW.weightsAll, List.mem_append]
    rcases List.mem_cons.1 h with rfl | h
    · exact .inl hn
    · exact .inr (mem_weightsAll h n hn)
theorem slice_small {H : Type} {enc : TypeId × Value → H} {P : Program} {w : World} {t e : TypeId} {fuel : Nat} {x : DataW H × List MemPlace} {ao : Option Addr} {n c : Nat} (hu : P.underlying t = some (.slice e)) (hb : 0 < P.bytesOf e) (h : DataW.trod enc P w 0 (fun _ => true) true fuel t [.slice ao n c] = some x) (hw : ∀ m ∈ x.1.weights P t, m ≤ reachBytes) : n ≤ 140737488355327 := by
  rcases DataW.trod_slice hu h with ⟨h1, _⟩ | ⟨a, len, cap, elems, rest, k, _, h1, hx, _, _, _, hl, _⟩
  · cases h1; omega
  · cases h1
    have := hw ((elems.length + rest.length) * P.bytesOf e) (by rw [hx]; simp [DataW.weights, hu])
    have h2 : elems.length * 1 ≤ (elems.length + rest.length) * P.bytesOf e := Nat.mul_le_mul (by omega) hb
    have h3 := reachBytes_lt
    omega
theorem op_of {H : Type} {enc : TypeId × Value → H} {w : World} {a : Addr} {n : Nat} {y : DataW H × List MemPlace} (h : (w.cells? 0 a 4).bind (DataW.trod enc Try.prog w 0 (fun _ => true) true n 49) = some y) (hw : ∀ m ∈ y.1.weights Try.prog 49, m ≤ reachBytes) : ∃ f : OpW, f.at w a := by
  rw [Option.bind_eq_some_iff] at h
  obtain ⟨cs, hcs, hf⟩ := h
  obtain ⟨_, hl, hc⟩ := World.cells?_some hcs
  match cs, hl with
  | [x0, x1, x2, x3], _ =>
    have h0 := hc 0 (by decide)
    have h1 := hc 1 (by decide)
    have h2 := hc 2 (by decide)
    have h3 := hc 3 (by decide)
    obtain ⟨xs, n', _, hx, _, hxl, hfs⟩ := DataW.trod_struct Try.underlying49 hf
    have f0 := hfs 0 _ rfl
    have f1 := hfs 1 _ rfl
    have f2 := hfs 2 _ rfl
    have f3 := hfs 3 _ rfl
    have hxl : xs.length = 4 := hxl
    obtain ⟨y0, hy0⟩ : ∃ y, xs[0]? = some y := ⟨_, List.getElem?_eq_getElem (by omega)⟩
    obtain ⟨y1, hy1⟩ : ∃ y, xs[1]? = some y := ⟨_, List.getElem?_eq_getElem (by omega)⟩
    obtain ⟨y2, hy2⟩ : ∃ y, xs[2]? = some y := ⟨_, List.getElem?_eq_getElem (by omega)⟩
    obtain ⟨y3, hy3⟩ : ∃ y, xs[3]? = some y := ⟨_, List.getElem?_eq_getElem (by omega)⟩
    rw [hy0] at f0
    rw [hy1] at f1
    rw [hy2] at f2
    rw [hy3] at f3
    have c3 : Try.prog.cellsOf 3 = 1 := by kernel_rfl
    have c27 : Try.prog.cellsOf 27 = 1 := by kernel_rfl
    have c23 : Try.prog.cellsOf 23 = 1 := by kernel_rfl
    have f0' : DataW.trod enc Try.prog w 0 (fun _ => true) true n' 3 (List.take (Try.prog.cellsOf 3) [x0, x1, x2, x3]) = some y0 := f0
    have f1' : DataW.trod enc Try.prog w 0 (fun _ => true) true n' 3 (List.take (Try.prog.cellsOf 3) [x1, x2, x3]) = some y1 := f1
    have f2' : DataW.trod enc Try.prog w 0 (fun _ => true) true n' 27 (List.take (Try.prog.cellsOf 27) [x2, x3]) = some y2 := f2
    have f3' : DataW.trod enc Try.prog w 0 (fun _ => true) true n' 23 (List.take (Try.prog.cellsOf 23) [x3]) = some y3 := f3
    rw [c3] at f0' f1'
    rw [c27] at f2'
    rw [c23] at f3'
    obtain ⟨k0, hk0, _⟩ := DataW.trod_int Try.underlying3 f0'
    obtain rfl : x0 = .int .i64 k0 := by simpa using hk0
    obtain ⟨k1, hk1, _, hwf⟩ := DataW.trod_int Try.underlying3 f1'
    obtain rfl : x1 = .int .i64 k1 := by simpa using hk1
    have hsl : ∃ ax nx cx, x2 = .slice ax nx cx := by
      rcases DataW.trod_slice Try.underlying27 f2' with ⟨h, _⟩ | ⟨a, len, cap, _, _, _, _, h, _⟩
      · exact ⟨_, _, _, by simpa using h⟩
      · exact ⟨_, _, _, by simpa using h⟩
    obtain ⟨ax, nx, cx, rfl⟩ := hsl
    have hsl : ∃ ax nx cx, x3 = .slice ax nx cx := by
      rcases DataW.trod_slice Try.underlying23 f3' with ⟨h, _⟩ | ⟨a, len, cap, _, _, _, _, h, _⟩
      · exact ⟨_, _, _, by simpa using h⟩
      · exact ⟨_, _, _, by simpa using h⟩
    obtain ⟨bx, my, dy, rfl⟩ := hsl
    -- the weights of both
    have hagg : ∀ (j : Nat) (t : TypeId) (z : DataW H × List MemPlace), [3, 3, 27, 23][j]? = some t → xs[j]? = some z → ∀ m ∈ z.1.weights Try.prog t, m ≤ reachBytes := fun j t z ht hz m hm => by
      refine hw m ?_
      rw [hx]
      show m ∈ DataW.weights Try.prog 49 (.agg (xs.map (·.1)))
      rw [DataW.weights, Try.underlying49]
      exact DataW.weights_mem_each (ts := [3, 3, 27, 23]) (ds := xs.map (·.1)) ht (by rw [List.getElem?_map, hz]; rfl) m hm
    have b5 : Try.prog.bytesOf 5 = 1 := by kernel_rfl
    have b3 : Try.prog.bytesOf 3 = 8 := by kernel_rfl
    have lB := slice_small Try.underlying27 (by rw [b5]; omega) f2' (hagg 2 _ _ rfl hy2)
    have lK := slice_small Try.underlying23 (by rw [b3]; omega) f3' (hagg 3 _ _ rfl hy3)
    obtain ⟨ao, m, c, l, e, s1, s2, s3⟩ := bytes_of (v := .slice ax nx cx) (d := y2.1) (p := y2.2) Try.underlying27 Try.underlying5 (by kernel_rfl) ⟨_, _, _, rfl⟩ ⟨n', f2'⟩
    cases e
    obtain ⟨bo, m', c', l', e, t1, t3⟩ := its_of (v := .slice bx my dy) (d := y3.1) (p := y3.2) Try.underlying23 Try.underlying3 (by kernel_rfl) ⟨_, _, _, rfl⟩ ⟨n', f3'⟩
    cases e
    have hln : l.length = nx := by rw [← s1.len, bts_length]
    have hln' : l'.length = my := by rw [← t1.len, List.length_map]
    subst hln
    subst hln'
    refine ⟨⟨k0, k1, l, ax, cx, l', bx, dy⟩, ?_, h1, h2, h3, s1, t1, lB, lK, ?_⟩
    · have := h0
      rw [add_zero_addr] at this
      exact this
    · have := of_decide_eq_true (Bool.and_eq_true_iff.1 hwf).2
      have e : IntKind.i64.max = 9223372036854775807 := by decide
      rw [e] at this
      show k1 < _
      omega
/-- A list of calls, as it lies in memory. -/
def OpsW (w : World) (v : Value) (L : List OpW) : Prop := (v = .slice none 0 0 ∧ L = []) ∨ ∃ a c, v = .slice (some a) L.length c ∧ L.length ≤ c ∧ L.length ≤ 9223372036854775807 ∧ ∀ (i : Nat) x, L[i]? = some x → a = ⟨a.block, a.off, none⟩ ∧ x.at w (a.add (i * 4))
theorem ops_of {H : Type} {enc : TypeId × Value → H} {w : World} {v : Value} {d : DataW H} {p : List MemPlace} (hv : ∃ a n c, v = .slice a n c) (h : DataW.Trod enc Try.prog w 0 (fun _ => true) true 43 v d p) (hw : ∀ m ∈ d.weights Try.prog 43, m ≤ reachBytes) : ∃ L, OpsW w v L := by
  obtain ⟨a, n, c, rfl⟩ := hv
  obtain ⟨m, hm⟩ := h
  rcases DataW.trod_slice Try.underlying43 hm with ⟨h1, _⟩ | ⟨a', len, cap, elems, rest, n', _, h1, hx, _, hle, hmx, hlen, hel, _⟩
  · have : Value.slice a n c = .slice none 0 0 := by simpa [Value.cells] using h1
    cases this
    exact ⟨[], .inl ⟨rfl, rfl⟩⟩
  · have : Value.slice a n c = .slice (some a') len cap := by simpa [Value.cells] using h1
    cases this
    have c49 : Try.prog.cellsOf 49 = 4 := by kernel_rfl
    rw [c49] at hel
    have H : ∀ i : Nat, ∃ f : OpW, i < n → f.at w (a'.add (i * 4)) := fun i => by
      by_cases hi : i < n
      · have he := hel i hi
        rw [List.getElem?_eq_getElem (show i < elems.length by omega)] at he
        obtain ⟨f, hf⟩ := op_of he fun k hk => hw k (by
          have e1 : d = .slice (elems.map (·.1)) (rest.map (·.1)) := congrArg Prod.fst hx
          rw [e1, DataW.weights, Try.underlying43]
          refine List.mem_cons_of_mem _ (List.mem_append.2 (.inl (mem_weightsAll (d := elems[i].1) (List.mem_map.2 ⟨_, List.getElem_mem _, rfl⟩) k hk)))) 
        exact ⟨f, fun _ => hf⟩
      · exact ⟨⟨0, 0, [], none, 0, [], none, 0⟩, fun h => absurd h hi⟩
    obtain ⟨F, hF⟩ := Classical.axiomOfChoice H
    refine ⟨(List.range n).map F, .inr ⟨a', c, by simp, by simpa using hle, by simp only [maxLen] at hmx; simp; omega, fun i f hf => ?_⟩⟩
    rw [List.getElem?_map, Option.map_eq_some_iff] at hf
    obtain ⟨j, hj, rfl⟩ := hf
    have hi : i < n := by simpa using (List.getElem?_eq_some_iff.1 hj).1
    rw [List.getElem?_range hi] at hj
    cases hj
    refine ⟨?_, hF i hi⟩
    have hp := plain_of_cell (hF 0 (by omega)).c0
    rwa [Nat.zero_mul, add_zero_addr] at hp
end Go.Proofs.Ytcedgoaanlbldaa
