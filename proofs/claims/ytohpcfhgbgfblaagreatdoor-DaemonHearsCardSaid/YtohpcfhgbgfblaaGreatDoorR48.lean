/- What is proved: parts of the walk and of the plain law, 6 texts in one. No condition but those each law names. -/
import Derived.Test.YtohpcfhgbgfblaaGreatDoorR47
import Derived.Test.YtohpcfhgbgfblaaGreatDoorR37
import Derived.Test.YtohpcfhgbgfblaaGreatDoorRows
import Derived.Lib.LaidTab
import Derived.Lib.LaidU8
import Derived.LaidMore
import Derived.OpenShut
import Derived.Stop.Joined
import Derived.Test.YtohpcfhgbgfblaaGreatDoorR00
import Derived.ProofKit
import Derived.ShutString
import Derived.ChangeOld
import Derived.ChangeSlices
import Derived.DataShut
namespace Go.Proofs.YtohpcfhgbgfblaaGreatDoor
open Go.RowKit
open Sx (Ab DW Turns Did Foot)
theorem hears_any {w : World} (hf : Forms w) (ht : Tabs w) {q : Hd} {l : List Nat} (hs : Sl w q.ao q.k q.c (bts l)) (hsm : Small l) (hlen : l.length = q.k) : Calls Tryz.prog 3 #[.agg q.cells] w fun e w' => e = .returned (.bool true) ∧ Below w.heap.size w w' := by
  by_cases hk : (q.k : Int) > 1024
  · exact hears_big hf ht (eq_true hk)
  have hr : Rs (l, 0) := ⟨hsm, by show l.length < 1000000; omega⟩
  have hk' : ((q.k : Int) > 1024) = False := eq_false hk
  obtain ⟨e, he⟩ : ∃ e, (mgetM l).1 = e := ⟨_, rfl⟩
  obtain ⟨m, hm⟩ : ∃ m, (mgetM l).2 = m := ⟨_, rfl⟩
  have hem : mgetM l = (e, m) := by rw [← he, ← hm]
  have hT := told_get l
  rw [he] at hT
  by_cases e0 : e = 0
  · subst e0
    obtain ⟨hG, hS⟩ := mget_ok he hsm
    rw [hm] at hG hS
    by_cases k1 : m.k = 1
    · have hid : idE m.i (propE m) = 0 := by
        cases hG with
        | code i c h => exact absurd k1 (by show ¬ (3 : Int) = 1; decide)
        | legs _ _ h => exact h
      have hi : 1 ≤ m.i ∧ m.i ≤ 1073741824 := (idE_in hid).1
      obtain ⟨t, htk⟩ : ∃ t, takesE T26 (heardD m q.peer) q.n q.free = t := ⟨_, rfl⟩
      by_cases t0 : t = 0
      · subst t0
        obtain ⟨h1, ⟨v, h2, h3⟩, h4⟩ := takesE_ok htk
        obtain ⟨a1, a2, a3, a4⟩ := accept_ok h1
        refine hears_ok (d := heardD m q.peer) (R' := [] ++ [(1, putD (heardD m q.peer))]) (v := v) hf ht hk' hs hr h1 h2 h3 h4 rfl rfl hS rfl fun W D hL hB hDt hS' => ?_
        refine hear_ok hL hB hS' hr hem k1 a1 ⟨a2, a3, a4⟩ fun W' hL' hB' => ?_
        refine takes_ok (v := v) (Lib.hid hL') (Lib.hid hB') (Lib.hid (by rw [hDt]; exact T26_ok)) (Lib.hid (by decide)) (Lib.hid hS) (Lib.hid h1) (Lib.hid (by rw [hDt]; exact h2)) (eq_false h3) (Lib.hid (by rw [hDt]; exact h4))
      · have ht24 := takes_told (heardD m q.peer) q.n q.free
        rw [htk] at ht24
        refine hears_no hf ht hk' hs hr (i := m.i) (c := t) ?_ he fun W D hL hB hDt hS' => ?_
        · unfold idE refE
          rw [if_neg (by omega), if_neg (by omega)]
        · exact hear_no hL.dae hB.forms hS' hr hem k1 hi ⟨by omega, ht24.2⟩ fun W' hW' => takes_no hW' (by rw [hDt]; exact T26_ok) (by rw [hDt]; exact htk) t0
    · have hi : 1 ≤ m.i ∧ m.i ≤ 1073741824 := by
        cases hG with
        | code i c h => exact (idE_in h).1
        | legs _ _ h => exact (idE_in h).1
      refine hears_no hf ht hk' hs hr (i := m.i) (c := 2) ?_ he fun W D hL hB _ hS' => ?_
      · unfold idE refE
        rw [if_neg (by omega), if_neg (by omega)]
      · exact hear_kind hL.dae hB.forms hS' hr hem (by simpa using k1) hi
  · refine hears_bad hf ht hk' hs hr (i := 1) (c := e) ?_ he fun W D hL hB _ hS' => ?_
    · unfold idE refE
      have h1 : 0 ≤ e := hT.1
      have h2 : e ≤ 24 := hT.2
      rw [if_neg (by decide), if_neg (by omega)]
    · exact hear_bad hL.dae hB.forms hS' hr hem (by simpa using e0) hT
end Go.Proofs.YtohpcfhgbgfblaaGreatDoor

namespace Go.Proofs.YtohpcfhgbgfblaaGreatDoor
open Go.RowKit
set_option maxRecDepth 100000
abbrev laid3 : List (String × DataW Unit) := [("mangrove/blake.begins", Rows.laid_mangrove_blake_begins), ("mangrove/blake.orders", Rows.laid_mangrove_blake_orders), ("mangrove/pack.forms", Rows.laid_mangrove_pack_forms)]
theorem gBeg : Tryz.prog.globalNamed "mangrove/blake.begins" = some 4 := by kernel_rfl
theorem gOrd : Tryz.prog.globalNamed "mangrove/blake.orders" = some 5 := by kernel_rfl
theorem gFor : Tryz.prog.globalNamed "mangrove/pack.forms" = some 2 := by kernel_rfl
theorem tBeg : (Tryz.prog.globals[4]?).map (·.type) = some 230 := by kernel_rfl
theorem tOrd : (Tryz.prog.globals[5]?).map (·.type) = some 279 := by kernel_rfl
theorem tFor : (Tryz.prog.globals[2]?).map (·.type) = some 180 := by kernel_rfl
theorem lay_block {W : World} {n : String} {g : Nat} {cs : Array Value} {ps : List MemPlace} (hg : Tryz.prog.globalNamed n = some g) (hv : W.var? Tryz.prog n = some cs) (h0 : 0 < cs.size) (hin : ∀ x ∈ MemPlace.row ⟨g, 0, none⟩ cs.size, x ∈ ps)
    (hps : ∀ b off, MemPlace.cell b off ∈ ps → (∃ c t, W.heap[b]? = some (.cells c t (0, 0))) ∧ ∀ u v, W.cell? ⟨b, off, none⟩ = some (.iface u v) → Value.okWide Tryz.prog W .any 0 u v) : ∃ t, W.heap[g]? = some (.cells cs t) := by
  have hm : MemPlace.cell g 0 ∈ MemPlace.row ⟨g, 0, none⟩ cs.size := List.mem_map.2 ⟨0, List.mem_range.2 h0, rfl⟩
  obtain ⟨⟨c, t, hc⟩, _⟩ := hps g 0 (hin _ hm)
  unfold World.var? at hv
  rw [hg, Option.bind_some, hc] at hv
  simp only [Option.some.injEq] at hv
  exact ⟨t, by rw [hc, hv]⟩
theorem at_of {cs : List Value} {i : Nat} {v : Value} (h : (cs.drop i).take 1 = [v]) : cs[i]? = some v := by
  have := congrArg (·[0]?) h
  simpa [List.getElem?_take] using this
section
variable {W : World} {enc : TypeId × Value → Unit} {sp : Nat → Bool} {held : Bool} {fuel : Nat}
theorem ord_of {cs : List Value} {p : List MemPlace} (h : DataW.trod enc Tryz.prog W 0 sp held fuel 279 cs = some (Rows.laid_mangrove_blake_orders, p)) : cs = ordC.toList := by
  obtain ⟨_, _, _, _, hlen, _, _⟩ := DataW.trod_array Tryz.underlying279 h
  have hlen : cs.length = 10 := hlen.trans (by kernel_rfl)
  have c9 : Tryz.prog.cellsOf 9 = 1 := by kernel_rfl
  have H : ∀ i, i < 10 → ∃ s : ByteArray, cs[i]? = some (.string s) ∧ (match (Rows.laid_mangrove_blake_orders : DataW Unit) with | .agg l => l[i]? | _ => none) = some (.lit (.string s.data.toList)) := fun i hi => by
    obtain ⟨f, d, q, hd, ht⟩ := Lib.array_elem Tryz.underlying279 (show DataW.trod enc Tryz.prog W 0 sp held fuel 279 cs = some (.agg _, p) from h) i hi
    rw [c9, Nat.mul_one] at ht
    obtain ⟨s, h1, h2, _⟩ := DataW.trod_string Tryz.underlying9 ht
    refine ⟨s, at_of h1, ?_⟩
    simp only [Prod.mk.injEq] at h2
    rw [← h2.1]
    exact hd
  have E : ∀ (s : ByteArray) (l : List UInt8), s.data.toList = l → s = ⟨l.toArray⟩ := fun s l e => by
    cases s
    simp only at e
    rw [← e]
  apply List.ext_getElem?
  intro i
  by_cases hi : i < 10
  · obtain ⟨s, h1, h2⟩ := H i hi
    rw [h1]
    match i, hi with
    | 0, _ => simp [Rows.laid_mangrove_blake_orders] at h2; rw [E s _ h2.symm]; rfl
    | 1, _ => simp [Rows.laid_mangrove_blake_orders] at h2; rw [E s _ h2.symm]; rfl
    | 2, _ => simp [Rows.laid_mangrove_blake_orders] at h2; rw [E s _ h2.symm]; rfl
    | 3, _ => simp [Rows.laid_mangrove_blake_orders] at h2; rw [E s _ h2.symm]; rfl
    | 4, _ => simp [Rows.laid_mangrove_blake_orders] at h2; rw [E s _ h2.symm]; rfl
    | 5, _ => simp [Rows.laid_mangrove_blake_orders] at h2; rw [E s _ h2.symm]; rfl
    | 6, _ => simp [Rows.laid_mangrove_blake_orders] at h2; rw [E s _ h2.symm]; rfl
    | 7, _ => simp [Rows.laid_mangrove_blake_orders] at h2; rw [E s _ h2.symm]; rfl
    | 8, _ => simp [Rows.laid_mangrove_blake_orders] at h2; rw [E s _ h2.symm]; rfl
    | 9, _ => simp [Rows.laid_mangrove_blake_orders] at h2; rw [E s _ h2.symm]; rfl
    | i + 10, h => omega
  · rw [List.getElem?_eq_none (by omega), List.getElem?_eq_none (by show 10 ≤ i; omega)]
theorem form_of {cs : List Value} {p : List MemPlace} {a b c : Int} (h : DataW.trod enc Tryz.prog W 0 sp held fuel 179 cs = some (.agg [.lit (.int .u8 a), .lit (.int .i64 b), .lit (.int .u64 c)], p)) : cs[0]? = some (.int .u8 a) ∧ cs[1]? = some (.int .i64 b) ∧ cs[2]? = some (.int .u64 c) := by
  obtain ⟨xs, n, rfl, hx, hl, hxl, hall⟩ := DataW.trod_struct Tryz.underlying179 h
  have h0 : DataW.trod enc Tryz.prog W 0 sp held n 5 ((cs.drop 0).take (Tryz.prog.cellsOf 5)) = xs[0]? := hall 0 _ rfl
  have h1 : DataW.trod enc Tryz.prog W 0 sp held n 3 ((cs.drop 1).take (Tryz.prog.cellsOf 3)) = xs[1]? := hall 1 _ rfl
  have h2 : DataW.trod enc Tryz.prog W 0 sp held n 119 ((cs.drop 2).take (Tryz.prog.cellsOf 119)) = xs[2]? := hall 2 _ rfl
  rw [show Tryz.prog.cellsOf 5 = 1 by kernel_rfl] at h0
  rw [show Tryz.prog.cellsOf 3 = 1 by kernel_rfl] at h1
  rw [show Tryz.prog.cellsOf 119 = 1 by kernel_rfl] at h2
  match xs, hxl, hx, h0, h1, h2 with
  | [x0, x1, x2], _, hx, h0, h1, h2 =>
    simp only [List.map_cons, List.map_nil, Prod.mk.injEq, DataW.agg.injEq, List.cons.injEq] at hx
    obtain ⟨⟨e0, e1, e2, _⟩, _⟩ := hx
    obtain ⟨n0, c0, y0, _⟩ := DataW.trod_int Tryz.underlying5 (show DataW.trod _ Tryz.prog W 0 _ _ n 5 _ = some x0 from h0)
    obtain ⟨n1, c1, y1, _⟩ := DataW.trod_int Tryz.underlying3 (show DataW.trod _ Tryz.prog W 0 _ _ n 3 _ = some x1 from h1)
    obtain ⟨n2, c2, y2, _⟩ := DataW.trod_int Tryz.underlying119 (show DataW.trod _ Tryz.prog W 0 _ _ n 119 _ = some x2 from h2)
    rw [y0] at e0
    rw [y1] at e1
    rw [y2] at e2
    simp only [DataW.lit.injEq, Lit.int.injEq, true_and] at e0 e1 e2
    exact ⟨by rw [e0]; exact at_of c0, by rw [e1]; exact at_of c1, by rw [e2]; exact at_of c2⟩
end
theorem of_laid {W : World} (h : laidMetH Tryz.prog laid3 W) : Forms W ∧ Tabs W := by
  rw [MakeChecks.laidMetH_plain _ _ _ (by kernel_rfl)] at h
  obtain ⟨ps, ⟨g0, t0, cs0, f0, p0, q0, hg0, ht0, hv0, hd0, ⟨g1, t1, cs1, f1, p1, q1, hg1, ht1, hv1, hd1, ⟨g2, t2, cs2, f2, p2, q2, hg2, ht2, hv2, hd2, e3, e2⟩, e1⟩, e0⟩, _, hps⟩ := h
  obtain rfl := Option.some.inj (gBeg.symm.trans hg0)
  obtain rfl := Option.some.inj (gOrd.symm.trans hg1)
  obtain rfl := Option.some.inj (gFor.symm.trans hg2)
  obtain rfl := Option.some.inj (tBeg.symm.trans ht0)
  obtain rfl := Option.some.inj (tOrd.symm.trans ht1)
  obtain rfl := Option.some.inj (tFor.symm.trans ht2)
  have B0 : cs0 = uts begV := by
    have := Lib.cells_of_tab (P := Tryz.prog) (zs := begV) (k := .u32) (n := 8) (e := 228) Tryz.underlying230 Tryz.underlying228 (by kernel_rfl) (by kernel_rfl) hd0
    rw [← Array.toArray_toList (xs := cs0), this]
    rfl
  have B1 : cs1 = ordC := by
    rw [← Array.toArray_toList (xs := cs1), ord_of hd1]
  obtain ⟨t4, G4⟩ := lay_block gBeg hv0 (by rw [B0]; decide) (fun x hx => by rw [e0]; simp [hx]) hps
  obtain ⟨t5, G5⟩ := lay_block gOrd hv1 (by rw [B1]; decide) (fun x hx => by rw [e0, e1]; simp [hx]) hps
  rw [B0] at G4
  rw [B1] at G5
  refine ⟨?_, ⟨⟨t4, G4⟩, ⟨t5, G5⟩⟩⟩
  have c179 : Tryz.prog.cellsOf 179 = 3 := by kernel_rfl
  have F : ∀ i, i < 3 → ∃ d : DataW Unit, (match (Rows.laid_mangrove_pack_forms : DataW Unit) with | .agg l => l[i]? | _ => none) = some d ∧ ∃ f q, DataW.trod (fun _ => ()) Tryz.prog W 0 (fun _ => true) false f 179 ((cs2.toList.drop (i * 3)).take 3) = some (d, q) := fun i hi => by
    obtain ⟨f, d, q, hd, ht⟩ := Lib.array_elem Tryz.underlying180 (show DataW.trod _ Tryz.prog W 0 _ false _ 180 cs2.toList = some (.agg _, p2) from hd2) i hi
    rw [c179] at ht
    exact ⟨d, hd, f, q, ht⟩
  have K : ∀ i a b c, i < 3 → (match (Rows.laid_mangrove_pack_forms : DataW Unit) with | .agg l => l[i]? | _ => none) = some (.agg [.lit (.int .u8 a), .lit (.int .i64 b), .lit (.int .u64 c)]) → cs2[i * 3]? = some (.int .u8 a) ∧ cs2[i * 3 + 1]? = some (.int .i64 b) ∧ cs2[i * 3 + 2]? = some (.int .u64 c) := fun i a b c hi e => by
    obtain ⟨d, hd, f, q, ht⟩ := F i hi
    rw [e] at hd
    cases hd
    obtain ⟨k0, k1, k2⟩ := form_of ht
    simp [List.getElem?_drop] at k0 k1 k2
    exact ⟨by simpa using k0, by simpa using k1, by simpa using k2⟩
  obtain ⟨a0, a1, a2⟩ := K 0 253 2 253 (by decide) rfl
  obtain ⟨b0, b1, b2⟩ := K 1 254 4 65536 (by decide) rfl
  obtain ⟨c0, c1, c2⟩ := K 2 255 8 4294967296 (by decide) rfl
  intro j v hj
  rw [World.var?_cell gFor hv2 j]
  match j with
  | 0 => simp [formsL] at hj; rw [← hj]; exact a0
  | 1 => simp [formsL] at hj; rw [← hj]; exact a1
  | 2 => simp [formsL] at hj; rw [← hj]; exact a2
  | 3 => simp [formsL] at hj; rw [← hj]; exact b0
  | 4 => simp [formsL] at hj; rw [← hj]; exact b1
  | 5 => simp [formsL] at hj; rw [← hj]; exact b2
  | 6 => simp [formsL] at hj; rw [← hj]; exact c0
  | 7 => simp [formsL] at hj; rw [← hj]; exact c1
  | 8 => simp [formsL] at hj; rw [← hj]; exact c2
  | j + 9 => simp [formsL] at hj
end Go.Proofs.YtohpcfhgbgfblaaGreatDoor

namespace Go.Proofs.YtohpcfhgbgfblaaGreatDoor
open Go.ChangeShapes Go.WideShapes Go.ChangeAt Go.RowKit

theorem cell_int {P : Program} {w : World} {r : Reach} {base : Nat} {u : TypeId} {v : Value} {k : IntKind} (hu : P.underlying u = some (.int k)) (h : Cell.okWide P w r base u v) : ∃ n, v = .int k n ∧ k.has n := by
  unfold Cell.okWide at h
  rw [hu] at h
  cases v <;> simp only [Cell.ok, hu] at h
  case int k' n => obtain ⟨rfl, h2⟩ := h; exact ⟨n, rfl, h2⟩

/-- A struct or an array whose cells are integers of the kinds ks. -/
theorem ints_of {P : Program} {w : World} {r : Reach} {base : Nat} {t : TypeId} {v : Value} {d : TypeDesc} {ts : List TypeId} {ks : List IntKind} (hu : P.underlying t = some d) (hd : (match d with | .struct _ | .array _ _ => true | _ => false) = true)
    (hts : P.cellTypes P.depth t = some ts) (hC : P.cellsOf t = ks.length) (hk : ts.map P.underlying = ks.map (fun k => some (.int k))) (h : Value.okWide P w r base t v) :
    ∃ f : Nat → Int, v = .agg ((List.range ks.length).map fun i => Value.int (ks.getD i .i64) (f i)).toArray ∧ ∀ i, i < ks.length → (ks.getD i .i64).has (f i) := by
  have hl : ts.length = ks.length := by simpa using congrArg List.length hk
  have h2 : ∃ cs, v = .agg cs ∧ cs.size = P.cellsOf t ∧ Row.okWide P w r base t cs := by
    unfold Value.okWide at h
    rw [hu] at h
    cases d <;> simp_all
  obtain ⟨cs, rfl, hs, ts', hts', _, hc⟩ := h2
  obtain rfl : ts' = ts := by rw [hts] at hts'; exact (Option.some.inj hts').symm
  have hcell : ∀ i, i < ks.length → ∃ n, cs[i]? = some (.int (ks.getD i .i64) n) ∧ (ks.getD i .i64).has n := by
    intro i hi
    have hi' : i < cs.size := by omega
    obtain ⟨u, hu', hok⟩ := hc i cs[i] (Array.getElem?_eq_getElem hi')
    rw [Nat.mod_eq_of_lt (by omega)] at hu'
    have hk' := congrArg (fun l => l[i]?) hk
    simp only [List.getElem?_map, hu', Option.map_some, List.getElem?_eq_getElem hi, Option.some.injEq] at hk'
    obtain ⟨n, hn, hh⟩ := cell_int hk' hok
    have e : ks.getD i .i64 = ks[i] := by simp [List.getD, hi]
    exact ⟨n, by rw [Array.getElem?_eq_getElem hi', hn, e], by rw [e]; exact hh⟩
  refine ⟨fun i => match cs[i]? with | some (.int _ n) => n | _ => 0, ?_, ?_⟩
  · congr 1
    apply Array.ext_getElem?
    intro i
    by_cases hi : i < ks.length
    · obtain ⟨n, hn, _⟩ := hcell i hi
      simp [hi, hn]
    · rw [Array.getElem?_eq_none (by omega)]
      simp [hi]
  · intro i hi
    obtain ⟨n, hn, hh⟩ := hcell i hi
    simp only [hn]
    exact hh
end Go.Proofs.YtohpcfhgbgfblaaGreatDoor

namespace Go.Proofs.YtohpcfhgbgfblaaGreatDoor
open Go.ChangeShapes Go.WideShapes Go.ChangeAt Go.RowKit

def SmallB (l : List Nat) : Prop := ∀ x ∈ l, x < 256

theorem plain_of_cell {w : World} {a : Addr} {v : Value} (h : w.cell? a = some v) : a = ⟨a.block, a.off, none⟩ := by
  obtain ⟨b, o, s⟩ := a
  unfold World.cell? at h
  split at h
  · simp only at h
    split at h
    · cases h
    · rename_i hs
      cases s with
      | none => rfl
      | some _ => simp at hs
  · cases h

theorem bytes_of {H : Type} {enc : TypeId × Value → H} {P : Program} {w : World} {t e : TypeId} {v : Value} {d : DataW H} {p : List MemPlace} (ht : P.underlying t = some (.slice e)) (he : P.underlying e = some (.int .u8)) (hc : P.cellsOf e = 1)
    (hv : ∃ a n c, v = .slice a n c) (h : DataW.Trod enc P w 0 (fun _ => true) true t v d p) : ∃ ao n c l, v = .slice ao n c ∧ Sl w ao n c (bts l) ∧ SmallB l ∧ n ≤ 9223372036854775807 := by
  obtain ⟨a, n, c, rfl⟩ := hv
  obtain ⟨m, hm⟩ := h
  rcases open_ints ht he hc hm with ⟨h1, _⟩ | ⟨a', len, cap, zs, h1, _, hle, hmx, hzl, _, hcell, hwf⟩
  · have : Value.slice a n c = .slice none 0 0 := by simpa [Value.cells] using h1
    cases this
    exact ⟨none, 0, 0, [], rfl, Sl.nothing w, fun x hx => by simp at hx, by omega⟩
  · have : Value.slice a n c = .slice (some a') len cap := by simpa [Value.cells] using h1
    cases this
    have hzl' : zs.length = c := by simpa using hzl
    refine ⟨some a', n, c, (zs.take n).map Int.toNat, rfl, ⟨?_, hle, fun h => by (cases h), ?_⟩, ?_, by simp only [maxLen] at hmx; omega⟩
    · rw [bts_length, List.length_map, List.length_take]; omega
    · by_cases h0 : n = 0
      · left; subst h0; rfl
      · right
        have hp := plain_of_cell (hcell 0 (by omega))
        have ha : a' = ⟨a'.block, a'.off, none⟩ := by rwa [show a'.add 0 = a' from add_zero_addr a'] at hp
        refine ⟨a'.block, a'.off, congrArg some ha, fun j x hj => ?_⟩
        rw [bts_get, List.getElem?_map, List.getElem?_take] at hj
        split at hj
        · rename_i hjn
          have hc1 := hcell j (by omega)
          rw [ha, add_plain_addr] at hc1
          have hz : zs[j]? = some (zs.getD j 0) := by rw [List.getD_eq_getElem?_getD, List.getElem?_eq_getElem (show j < zs.length by omega)]; rfl
          rw [hz] at hj
          simp only [Option.map_some, Option.some.injEq] at hj
          have hw := hwf (zs.getD j 0) (List.mem_of_getElem? hz)
          rw [Lit.wf_int_iff, IntKind.min_u8] at hw
          rw [hc1, ← hj, Int.toNat_of_nonneg hw.1]
        · cases hj
    · intro x hx
      simp only [List.mem_map] at hx
      obtain ⟨z, hz, rfl⟩ := hx
      have hw := hwf z (List.mem_of_mem_take hz)
      rw [Lit.wf_int_iff, IntKind.max_u8] at hw
      omega
end Go.Proofs.YtohpcfhgbgfblaaGreatDoor

namespace Go.Proofs.YtohpcfhgbgfblaaGreatDoor
open Go.ChangeShapes Go.WideShapes Go.ChangeAt Go.RowKit

/-- The cells of a struct or an array. -/
theorem agg_of {P : Program} {w : World} {r : Reach} {base : Nat} {t : TypeId} {v : Value} {d : TypeDesc} {ts : List TypeId} (hu : P.underlying t = some d) (hd : (match d with | .struct _ | .array _ _ => true | _ => false) = true)
    (hts : P.cellTypes P.depth t = some ts) (hC : P.cellsOf t = ts.length) (h : Value.okWide P w r base t v) :
    ∃ cs, v = .agg cs ∧ cs.size = ts.length ∧ ∀ (i : Nat) u, ts[i]? = some u → ∃ x, cs[i]? = some x ∧ Cell.okWide P w r base u x := by
  have h2 : ∃ cs, v = .agg cs ∧ cs.size = P.cellsOf t ∧ Row.okWide P w r base t cs := by
    unfold Value.okWide at h
    rw [hu] at h
    cases d <;> simp_all
  obtain ⟨cs, rfl, hs, ts', hts', _, hc⟩ := h2
  obtain rfl : ts' = ts := by rw [hts] at hts'; exact (Option.some.inj hts').symm
  refine ⟨cs, rfl, by omega, fun i u hi => ?_⟩
  have hi2 : i < ts'.length := (List.getElem?_eq_some_iff.1 hi).1
  have hi' : i < cs.size := by omega
  obtain ⟨u', hu', hok⟩ := hc i cs[i] (Array.getElem?_eq_getElem hi')
  rw [Nat.mod_eq_of_lt (by omega), hi] at hu'
  cases hu'
  exact ⟨_, Array.getElem?_eq_getElem hi', hok⟩

theorem cell_slice {P : Program} {w : World} {r : Reach} {base : Nat} {u e : TypeId} {v : Value} (hu : P.underlying u = some (.slice e)) (h : Cell.okWide P w r base u v) : ∃ a n c, v = .slice a n c := by
  unfold Cell.okWide at h
  rw [hu] at h
  cases v <;> simp only [Cell.ok, hu] at h
  case slice a n c => exact ⟨a, n, c, rfl⟩
theorem cell_bool {P : Program} {w : World} {r : Reach} {base : Nat} {u : TypeId} {v : Value} (hu : P.underlying u = some .bool) (h : Cell.okWide P w r base u v) : ∃ b, v = .bool b := by
  unfold Cell.okWide at h
  rw [hu] at h
  cases v <;> simp only [Cell.ok, hu] at h
  case bool b => exact ⟨b, rfl⟩
end Go.Proofs.YtohpcfhgbgfblaaGreatDoor

namespace Go.Proofs.YtohpcfhgbgfblaaGreatDoor
open Go.ChangeShapes Go.WideShapes Go.ChangeAt Go.RowKit

theorem cell_bit {P : Program} {w : World} {r : Reach} {base : Nat} {u : TypeId} {v : Value} (hu : P.underlying u = some .bool) (h : Cell.okWide P w r base u v) : ∃ b, v = .bool b := by
  unfold Cell.okWide at h
  rw [hu] at h
  cases v <;> simp only [Cell.ok, hu] at h
  case bool b => exact ⟨b, rfl⟩

/-- A cell of that kind (none: a bool). -/
def mixed (k : Option IntKind) (n : Int) (b : Bool) : Value := match k with
  | some k => .int k n
  | none => .bool b
def kindOf (k : Option IntKind) : Option TypeDesc := match k with
  | some k => some (.int k)
  | none => some .bool

/-- A struct or an array whose cells are integers of the kinds ks, or bools. -/
theorem mixed_of {P : Program} {w : World} {r : Reach} {base : Nat} {t : TypeId} {v : Value} {d : TypeDesc} {ts : List TypeId} {ks : List (Option IntKind)} (hu : P.underlying t = some d) (hd : (match d with | .struct _ | .array _ _ => true | _ => false) = true)
    (hts : P.cellTypes P.depth t = some ts) (hC : P.cellsOf t = ks.length) (hk : ts.map P.underlying = ks.map kindOf) (h : Value.okWide P w r base t v) :
    ∃ (f : Nat → Int) (g : Nat → Bool), v = .agg ((List.range ks.length).map fun i => mixed (ks.getD i none) (f i) (g i)).toArray := by
  have hl : ts.length = ks.length := by simpa using congrArg List.length hk
  have h2 : ∃ cs, v = .agg cs ∧ cs.size = P.cellsOf t ∧ Row.okWide P w r base t cs := by
    unfold Value.okWide at h
    rw [hu] at h
    cases d <;> simp_all
  obtain ⟨cs, rfl, hs, ts', hts', _, hc⟩ := h2
  obtain rfl : ts' = ts := by rw [hts] at hts'; exact (Option.some.inj hts').symm
  have hcell : ∀ i, i < ks.length → ∃ n b, cs[i]? = some (mixed (ks.getD i none) n b) := by
    intro i hi
    have hi' : i < cs.size := by omega
    obtain ⟨u, hu', hok⟩ := hc i cs[i] (Array.getElem?_eq_getElem hi')
    rw [Nat.mod_eq_of_lt (by omega)] at hu'
    have hk' := congrArg (fun l => l[i]?) hk
    simp only [List.getElem?_map, hu', Option.map_some, List.getElem?_eq_getElem hi, Option.some.injEq] at hk'
    have e : ks.getD i none = ks[i] := by simp [List.getD, hi]
    rw [e]
    cases hki : ks[i] with
    | some k =>
      rw [hki] at hk'
      obtain ⟨n, hn, _⟩ := cell_int hk' hok
      exact ⟨n, false, by rw [Array.getElem?_eq_getElem hi', hn]; rfl⟩
    | none =>
      rw [hki] at hk'
      obtain ⟨b, hb⟩ := cell_bit hk' hok
      exact ⟨0, b, by rw [Array.getElem?_eq_getElem hi', hb]; rfl⟩
  refine ⟨fun i => match cs[i]? with | some (.int _ n) => n | _ => 0, fun i => match cs[i]? with | some (.bool b) => b | _ => false, ?_⟩
  congr 1
  apply Array.ext_getElem?
  intro i
  by_cases hi : i < ks.length
  · obtain ⟨n, b, hn⟩ := hcell i hi
    have e : ks.getD i none = ks[i] := by simp [List.getD, hi]
    rw [e] at hn
    cases hki : ks[i] with
    | some k => rw [hki] at hn; simp [hi, hn, hki, mixed]
    | none => rw [hki] at hn; simp [hi, hn, hki, mixed]
  · rw [Array.getElem?_eq_none (by omega)]
    simp [hi]
end Go.Proofs.YtohpcfhgbgfblaaGreatDoor
