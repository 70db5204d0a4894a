/- What is proved: parts of the walk and of the plain law, 1 texts in one. No condition but those each law names. -/
import Derived.Test.YtjkfondgacjpnaaGreatDoorK50
import Derived.Test.YtjkfondgacjpnaaGreatDoorRows
import Derived.Lib.LaidTab
import Derived.Lib.LaidU8
import Derived.LaidMore
import Derived.OpenShut
import Derived.Stop.Joined
namespace Go.Proofs.YtjkfondgacjpnaaGreatDoor
open Go.RowKit
set_option maxRecDepth 100000
abbrev laid3 : List (String × DataW Unit) := [("mangrove/blake.begins", Rows.laid_mangrove_blake_begins), ("mangrove/blake.orders", Rows.laid_mangrove_blake_orders), ("mangrove/pack.forms", Rows.laid_mangrove_pack_forms)]
theorem gBeg : Tryz.prog.globalNamed "mangrove/blake.begins" = some 1 := by kernel_rfl
theorem gOrd : Tryz.prog.globalNamed "mangrove/blake.orders" = some 2 := by kernel_rfl
theorem gFor : Tryz.prog.globalNamed "mangrove/pack.forms" = some 0 := by kernel_rfl
theorem tBeg : (Tryz.prog.globals[1]?).map (·.type) = some 188 := by kernel_rfl
theorem tOrd : (Tryz.prog.globals[2]?).map (·.type) = some 228 := by kernel_rfl
theorem tFor : (Tryz.prog.globals[0]?).map (·.type) = some 183 := by kernel_rfl
theorem lay_block {W : World} {n : String} {g : Nat} {cs : Array Value} {ps : List MemPlace} (hg : Tryz.prog.globalNamed n = some g) (hv : W.var? Tryz.prog n = some cs) (h0 : 0 < cs.size) (hin : ∀ x ∈ MemPlace.row ⟨g, 0, none⟩ cs.size, x ∈ ps)
    (hps : ∀ b off, MemPlace.cell b off ∈ ps → (∃ c t, W.heap[b]? = some (.cells c t (0, 0))) ∧ ∀ u v, W.cell? ⟨b, off, none⟩ = some (.iface u v) → Value.okWide Tryz.prog W .any 0 u v) : ∃ t, W.heap[g]? = some (.cells cs t) := by
  have hm : MemPlace.cell g 0 ∈ MemPlace.row ⟨g, 0, none⟩ cs.size := List.mem_map.2 ⟨0, List.mem_range.2 h0, rfl⟩
  obtain ⟨⟨c, t, hc⟩, _⟩ := hps g 0 (hin _ hm)
  unfold World.var? at hv
  rw [hg, Option.bind_some, hc] at hv
  simp only [Option.some.injEq] at hv
  exact ⟨t, by rw [hc, hv]⟩
theorem at_of {cs : List Value} {i : Nat} {v : Value} (h : (cs.drop i).take 1 = [v]) : cs[i]? = some v := by
  have := congrArg (·[0]?) h
  simpa [List.getElem?_take] using this
section
variable {W : World} {enc : TypeId × Value → Unit} {sp : Nat → Bool} {held : Bool} {fuel : Nat}
theorem ord_of {cs : List Value} {p : List MemPlace} (h : DataW.trod enc Tryz.prog W 0 sp held fuel 228 cs = some (Rows.laid_mangrove_blake_orders, p)) : cs = ordC.toList := by
  obtain ⟨_, _, _, _, hlen, _, _⟩ := DataW.trod_array Tryz.underlying228 h
  have hlen : cs.length = 10 := hlen.trans (by kernel_rfl)
  have c9 : Tryz.prog.cellsOf 9 = 1 := by kernel_rfl
  have H : ∀ i, i < 10 → ∃ s : ByteArray, cs[i]? = some (.string s) ∧ (match (Rows.laid_mangrove_blake_orders : DataW Unit) with | .agg l => l[i]? | _ => none) = some (.lit (.string s.data.toList)) := fun i hi => by
    obtain ⟨f, d, q, hd, ht⟩ := Lib.array_elem Tryz.underlying228 (show DataW.trod enc Tryz.prog W 0 sp held fuel 228 cs = some (.agg _, p) from h) i hi
    rw [c9, Nat.mul_one] at ht
    obtain ⟨s, h1, h2, _⟩ := DataW.trod_string Tryz.underlying9 ht
    refine ⟨s, at_of h1, ?_⟩
    simp only [Prod.mk.injEq] at h2
    rw [← h2.1]
    exact hd
  have E : ∀ (s : ByteArray) (l : List UInt8), s.data.toList = l → s = ⟨l.toArray⟩ := fun s l e => by
    cases s
    simp only at e
    rw [← e]
  apply List.ext_getElem?
  intro i
  by_cases hi : i < 10
  · obtain ⟨s, h1, h2⟩ := H i hi
    rw [h1]
    match i, hi with
    | 0, _ => simp [Rows.laid_mangrove_blake_orders] at h2; rw [E s _ h2.symm]; rfl
    | 1, _ => simp [Rows.laid_mangrove_blake_orders] at h2; rw [E s _ h2.symm]; rfl
    | 2, _ => simp [Rows.laid_mangrove_blake_orders] at h2; rw [E s _ h2.symm]; rfl
    | 3, _ => simp [Rows.laid_mangrove_blake_orders] at h2; rw [E s _ h2.symm]; rfl
    | 4, _ => simp [Rows.laid_mangrove_blake_orders] at h2; rw [E s _ h2.symm]; rfl
    | 5, _ => simp [Rows.laid_mangrove_blake_orders] at h2; rw [E s _ h2.symm]; rfl
    | 6, _ => simp [Rows.laid_mangrove_blake_orders] at h2; rw [E s _ h2.symm]; rfl
    | 7, _ => simp [Rows.laid_mangrove_blake_orders] at h2; rw [E s _ h2.symm]; rfl
    | 8, _ => simp [Rows.laid_mangrove_blake_orders] at h2; rw [E s _ h2.symm]; rfl
    | 9, _ => simp [Rows.laid_mangrove_blake_orders] at h2; rw [E s _ h2.symm]; rfl
    | i + 10, h => omega
  · rw [List.getElem?_eq_none (by omega), List.getElem?_eq_none (by show 10 ≤ i; omega)]
theorem form_of {cs : List Value} {p : List MemPlace} {a b c : Int} (h : DataW.trod enc Tryz.prog W 0 sp held fuel 182 cs = some (.agg [.lit (.int .u8 a), .lit (.int .i64 b), .lit (.int .u64 c)], p)) : cs[0]? = some (.int .u8 a) ∧ cs[1]? = some (.int .i64 b) ∧ cs[2]? = some (.int .u64 c) := by
  obtain ⟨xs, n, rfl, hx, hl, hxl, hall⟩ := DataW.trod_struct Tryz.underlying182 h
  have h0 : DataW.trod enc Tryz.prog W 0 sp held n 5 ((cs.drop 0).take (Tryz.prog.cellsOf 5)) = xs[0]? := hall 0 _ rfl
  have h1 : DataW.trod enc Tryz.prog W 0 sp held n 3 ((cs.drop 1).take (Tryz.prog.cellsOf 3)) = xs[1]? := hall 1 _ rfl
  have h2 : DataW.trod enc Tryz.prog W 0 sp held n 180 ((cs.drop 2).take (Tryz.prog.cellsOf 180)) = xs[2]? := hall 2 _ rfl
  rw [show Tryz.prog.cellsOf 5 = 1 by kernel_rfl] at h0
  rw [show Tryz.prog.cellsOf 3 = 1 by kernel_rfl] at h1
  rw [show Tryz.prog.cellsOf 180 = 1 by kernel_rfl] at h2
  match xs, hxl, hx, h0, h1, h2 with
  | [x0, x1, x2], _, hx, h0, h1, h2 =>
    simp only [List.map_cons, List.map_nil, Prod.mk.injEq, DataW.agg.injEq, List.cons.injEq] at hx
    obtain ⟨⟨e0, e1, e2, _⟩, _⟩ := hx
    obtain ⟨n0, c0, y0, _⟩ := DataW.trod_int Tryz.underlying5 (show DataW.trod _ Tryz.prog W 0 _ _ n 5 _ = some x0 from h0)
    obtain ⟨n1, c1, y1, _⟩ := DataW.trod_int Tryz.underlying3 (show DataW.trod _ Tryz.prog W 0 _ _ n 3 _ = some x1 from h1)
    obtain ⟨n2, c2, y2, _⟩ := DataW.trod_int Tryz.underlying180 (show DataW.trod _ Tryz.prog W 0 _ _ n 180 _ = some x2 from h2)
    rw [y0] at e0
    rw [y1] at e1
    rw [y2] at e2
    simp only [DataW.lit.injEq, Lit.int.injEq, true_and] at e0 e1 e2
    exact ⟨by rw [e0]; exact at_of c0, by rw [e1]; exact at_of c1, by rw [e2]; exact at_of c2⟩
end
theorem of_laid {W : World} (h : laidMetH Tryz.prog laid3 W) : Forms W ∧ Tabs W := by
  rw [MakeChecks.laidMetH_plain _ _ _ (by kernel_rfl)] at h
  obtain ⟨ps, ⟨g0, t0, cs0, f0, p0, q0, hg0, ht0, hv0, hd0, ⟨g1, t1, cs1, f1, p1, q1, hg1, ht1, hv1, hd1, ⟨g2, t2, cs2, f2, p2, q2, hg2, ht2, hv2, hd2, e3, e2⟩, e1⟩, e0⟩, _, hps⟩ := h
  obtain rfl := Option.some.inj (gBeg.symm.trans hg0)
  obtain rfl := Option.some.inj (gOrd.symm.trans hg1)
  obtain rfl := Option.some.inj (gFor.symm.trans hg2)
  obtain rfl := Option.some.inj (tBeg.symm.trans ht0)
  obtain rfl := Option.some.inj (tOrd.symm.trans ht1)
  obtain rfl := Option.some.inj (tFor.symm.trans ht2)
  have B0 : cs0 = uts begV := by
    have := Lib.cells_of_tab (P := Tryz.prog) (zs := begV) (k := .u32) (n := 8) (e := 186) Tryz.underlying188 Tryz.underlying186 (by kernel_rfl) (by kernel_rfl) hd0
    rw [← Array.toArray_toList (xs := cs0), this]
    rfl
  have B1 : cs1 = ordC := by
    rw [← Array.toArray_toList (xs := cs1), ord_of hd1]
  obtain ⟨t4, G4⟩ := lay_block gBeg hv0 (by rw [B0]; decide) (fun x hx => by rw [e0]; simp [hx]) hps
  obtain ⟨t5, G5⟩ := lay_block gOrd hv1 (by rw [B1]; decide) (fun x hx => by rw [e0, e1]; simp [hx]) hps
  rw [B0] at G4
  rw [B1] at G5
  refine ⟨?_, ⟨⟨t4, G4⟩, ⟨t5, G5⟩⟩⟩
  have c179 : Tryz.prog.cellsOf 182 = 3 := by kernel_rfl
  have F : ∀ i, i < 3 → ∃ d : DataW Unit, (match (Rows.laid_mangrove_pack_forms : DataW Unit) with | .agg l => l[i]? | _ => none) = some d ∧ ∃ f q, DataW.trod (fun _ => ()) Tryz.prog W 0 (fun _ => true) false f 182 ((cs2.toList.drop (i * 3)).take 3) = some (d, q) := fun i hi => by
    obtain ⟨f, d, q, hd, ht⟩ := Lib.array_elem Tryz.underlying183 (show DataW.trod _ Tryz.prog W 0 _ false _ 183 cs2.toList = some (.agg _, p2) from hd2) i hi
    rw [c179] at ht
    exact ⟨d, hd, f, q, ht⟩
  have K : ∀ i a b c, i < 3 → (match (Rows.laid_mangrove_pack_forms : DataW Unit) with | .agg l => l[i]? | _ => none) = some (.agg [.lit (.int .u8 a), .lit (.int .i64 b), .lit (.int .u64 c)]) → cs2[i * 3]? = some (.int .u8 a) ∧ cs2[i * 3 + 1]? = some (.int .i64 b) ∧ cs2[i * 3 + 2]? = some (.int .u64 c) := fun i a b c hi e => by
    obtain ⟨d, hd, f, q, ht⟩ := F i hi
    rw [e] at hd
    cases hd
    obtain ⟨k0, k1, k2⟩ := form_of ht
    simp [List.getElem?_drop] at k0 k1 k2
    exact ⟨by simpa using k0, by simpa using k1, by simpa using k2⟩
  obtain ⟨a0, a1, a2⟩ := K 0 253 2 253 (by decide) rfl
  obtain ⟨b0, b1, b2⟩ := K 1 254 4 65536 (by decide) rfl
  obtain ⟨c0, c1, c2⟩ := K 2 255 8 4294967296 (by decide) rfl
  intro j v hj
  rw [World.var?_cell gFor hv2 j]
  match j with
  | 0 => simp [formsL] at hj; rw [← hj]; exact a0
  | 1 => simp [formsL] at hj; rw [← hj]; exact a1
  | 2 => simp [formsL] at hj; rw [← hj]; exact a2
  | 3 => simp [formsL] at hj; rw [← hj]; exact b0
  | 4 => simp [formsL] at hj; rw [← hj]; exact b1
  | 5 => simp [formsL] at hj; rw [← hj]; exact b2
  | 6 => simp [formsL] at hj; rw [← hj]; exact c0
  | 7 => simp [formsL] at hj; rw [← hj]; exact c1
  | 8 => simp [formsL] at hj; rw [← hj]; exact c2
  | j + 9 => simp [formsL] at hj
end Go.Proofs.YtjkfondgacjpnaaGreatDoor
