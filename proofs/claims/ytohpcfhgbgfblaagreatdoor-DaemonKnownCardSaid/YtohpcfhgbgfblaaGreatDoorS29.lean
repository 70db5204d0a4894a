/- What is proved: parts of the walk and of the plain law, 1 texts in one. No condition but those each law names. -/
import Derived.Test.YtohpcfhgbgfblaaGreatDoorS28
namespace Go.Proofs.YtohpcfhgbgfblaaGreatDoor
open Go.RowKit
open Sx (MapIs getL putL KeyT keyInt Turns Foot)
set_option maxRecDepth 100000

/-- A map's entries are turned. -/
def putMap (w : World) (r : Nat) (es : Array MapEntry) (c : Nat) : World := { w with heap := w.heap.setIfInBounds r (.map es c) }
theorem putMap_at {w : World} {r : Nat} (hr : r < w.heap.size) (es : Array MapEntry) (c : Nat) : (putMap w r es c).heap[r]? = some (.map es c) := by
  unfold putMap
  simp [hr]
theorem putMap_ne (w : World) (r : Nat) (es : Array MapEntry) (c : Nat) {i : Nat} (h : i ≠ r) : (putMap w r es c).heap[i]? = w.heap[i]? := by
  unfold putMap
  show (w.heap.setIfInBounds r _)[i]? = _
  rw [Array.getElem?_setIfInBounds_ne (Ne.symm h)]
theorem findNo {es : Array MapEntry} {M : List (Int × En)} {k : Int} (hM : MapIs (prs es) (encA En.pt M)) (hf : getA M k = none) : Sx.findIx (.int .i64 k) es.toList 0 = none := by
  have hM' : MapIs (es.toList.map fun e => (e.key, e.val)) ((encA En.pt M).map fun p => (p.1, id p.2)) := by rw [show (encA En.pt M).map (fun p => (p.1, id p.2)) = encA En.pt M from List.map_id _]; exact hM
  have hfind := Sx.mapIs_find hM' (.int .i64 k)
  rw [getL_enc, hf] at hfind
  cases hq : Sx.findIx (.int .i64 k) es.toList 0 with
  | none => rfl
  | some p => rw [hq] at hfind; cases hfind
/-- A new key. -/
theorem upd_new {w : World} {r : Nat} {es : Array MapEntry} {c : Nat} (h2 : w.heap[r]? = some (.map es c)) {M : List (Int × En)} {k : Int} (hM : MapIs (prs es) (encA En.pt M)) (hf : getA M k = none) (v : Value) :
    (Instr.mapUpdate 111 (.map (some r)) (.int .i64 k) v).run Tryz.prog w = .ok () (putMap w r (es.push ⟨.int .i64 k, v, c⟩) (c + 1)) := by
  have hk : KeyT Tryz.prog 3 IntK := keyInt Tryz.underlying3
  have hes := int_keys hM (encA_int En.pt M)
  have hget := MapKept.run_getObj_map (P := Tryz.prog) h2
  have hfi := hk.find (.int .i64 k) es.toList w ⟨k, rfl⟩ hes
  rw [findNo hM hf] at hfi
  have hset := MapKept.run_setObj_map (P := Tryz.prog) (.map (es.push ⟨.int .i64 k, v, c⟩) (c + 1)) h2
  simp only [Instr.mapUpdate, Sem.run_bind, run_underlying Tryz.underlying111, Result.andThen_ok, hget, hk.chk false (.int .i64 k) w ⟨k, rfl⟩, hfi, hset]
  rfl
theorem mapIs_new {es : Array MapEntry} {c : Nat} {M : List (Int × En)} {k : Int} (hM : MapIs (prs es) (encA En.pt M)) (hf : getA M k = none) (e : En) : MapIs (prs (es.push ⟨.int .i64 k, e.pt, c⟩)) (encA En.pt (putA M k e)) := by
  have hM' : MapIs (es.toList.map fun e => (e.key, e.val)) ((encA En.pt M).map fun p => (p.1, id p.2)) := by rw [show (encA En.pt M).map (fun p => (p.1, id p.2)) = encA En.pt M from List.map_id _]; exact hM
  have := Sx.mapIs_push (c := id) (v := e.pt) hM' (findNo hM hf)
  rw [← putL_enc]
  have hid : (Sx.putL (encA En.pt M) (.int .i64 k) e.pt).map (fun p => (p.1, id p.2)) = Sx.putL (encA En.pt M) (.int .i64 k) e.pt := List.map_id _
  rw [hid] at this
  show MapIs ((es.push _).toList.map _) _
  rw [Array.toList_push, List.map_append]
  exact this
/-- How many keys. -/
theorem len_map {w : World} {r : Nat} {es : Array MapEntry} {c : Nat} (h2 : w.heap[r]? = some (.map es c)) : (Builtin.len_ #[111] 3 #[.map (some r)]).run Tryz.prog w = .ok (.int .i64 es.size) w := by
  have hget := MapKept.run_getObj_map (P := Tryz.prog) h2
  simp only [Builtin.len_, Sem.run_bind, Sem.run_pure, Result.andThen_ok, List.getElem?_toArray, List.getElem?_cons_zero, run_underlying Tryz.underlying111, hget]
  rfl
theorem mapIs_size {es : Array MapEntry} {M : List (Int × En)} (hM : MapIs (prs es) (encA En.pt M)) : es.size = M.length := by
  have := hM.1.length_eq
  simpa [encA] using this
theorem BookAt.len {w : World} {bk mb : Nat} {M : List (Int × En)} (h : BookAt w bk mb M) : (Builtin.len_ #[111] 3 #[.map (some mb)]).run Tryz.prog w = .ok (.int .i64 M.length) w := by
  obtain ⟨es, c, e, h1, _⟩ := h.mp
  rw [len_map e, mapIs_size h1]
def sOf (v : Value) : Sw := ⟨dOf (.agg (sub (agc v) 0 41)), iAt v 41, (match (agc v)[42]? with | some (Value.bool b) => b | _ => false), hOf (.agg (sub (agc v) 43 32))⟩
theorem sOf_mk (s : Sw) : sOf (.agg s.cells) = s := by
  have e1 : iAt (.agg s.cells) 41 = s.st := by show (match s.cells[41]? with | some (.int _ n) => n | _ => 0) = _; rw [s_41]
  have e2 : sub (agc (.agg s.cells)) 43 32 = s.s.cells := s_s s
  have e3 : sub (agc (.agg s.cells)) 0 41 = s.d.cells := s_d s
  have e4 : (match (agc (.agg s.cells))[42]? with | some (Value.bool b) => b | _ => false) = s.kn := by show (match s.cells[42]? with | some (Value.bool b) => b | _ => false) = _; rw [s_42]
  unfold sOf
  rw [e1, e2, e3, e4, hOf_mk, dOf_mk]
def mOf (v : Value) : Nat := match v with
  | .map (some r) => r
  | _ => 0
theorem mOf_mk (r : Nat) : mOf (.map (some r)) = r := rfl
theorem be2 (w : World) (s : Sw) (m : Nat) : (Instr.build 117 #[(0, .agg s.cells), (1, .map (some m))]).run Tryz.prog w = .ok (.agg (s.ent m)) w := by
  obtain ⟨d, st, kn, e⟩ := s
  obtain ⟨i, r, p, g, h, q⟩ := d
  obtain ⟨f, rfl⟩ := h.form
  obtain ⟨f', rfl⟩ := e.form
  kernel_rfl
theorem ebe2 (w : World) (ρ : Operand → Value) (dst : Option Tmp) (ty : TypeId) (pos : String) (af : Array Edge) (gd : Option (Nat × Bool)) (x y : Operand) (hx : ρ x = (.agg (sOf (ρ x)).cells)) (hy : ρ y = (.map (some (mOf (ρ y))))) : (execOp ρ ⟨dst, .build 117 #[(0, x), (1, y)], ty, pos, af, gd⟩).run Tryz.prog w = .ok (.value (.agg ((sOf (ρ x)).ent (mOf (ρ y))))) w := by
  have h := be2 w (sOf (ρ x)) (mOf (ρ y))
  rw [← hx, ← hy] at h
  unfold execOp
  simp only [Sem.run_bind, Sem.run_pure, List.map_toArray, List.map_cons, List.map_nil, h, Result.andThen_ok]
theorem turns_putMap {w X : World} (hb : Below w.heap.size w X) (mb : Nat) (es : Array MapEntry) (c : Nat) : Turns (fun i _ => i = mb) w (putMap X mb es c) :=
  ⟨hb.os, hb.tape, hb.output, Nat.le_trans hb.size (by unfold putMap; simp), fun k hk hF => (putMap_ne X mb es c fun e => hF 0 e).trans (hb.block k hk)⟩
theorem new_entry {V X : World} {bk mb : Nat} {M : List (Int × En)} {es : Array MapEntry} {c : Nat} {k : Int} {s : Sw} (hB : BookAt V bk mb M) (e1 : V.heap[mb]? = some (.map es c)) (e2 : MapIs (prs es) (encA En.pt M)) (e3 : MapKept.Stamped es c)
    (e4 : X.heap[mb]? = some (.map es c)) (e5 : X.heap[V.heap.size]? = some (.map #[] 0)) (e6 : X.heap[V.heap.size + 1]? = some (.cells (Sw.ent s V.heap.size) 117)) (hb2 : Below V.heap.size V X) (hF : getA M k = none) :
    BookAt (putMap X mb (es.push ⟨.int .i64 k, .pointer (some ⟨V.heap.size + 1, 0, none⟩), c⟩) (c + 1)) bk mb (putA M k ⟨V.heap.size + 1, V.heap.size, s⟩) := by
  have hbk := (Array.getElem?_eq_some_iff.1 hB.ob).1
  have hmb := (Array.getElem?_eq_some_iff.1 e1).1
  have hmX := (Array.getElem?_eq_some_iff.1 e4).1
  have hmk : bk ≠ mb := fun q => by have := hB.ob; rw [q, e1] at this; cases this
  have old : ∀ p ∈ M, EntAt (putMap X mb (es.push ⟨.int .i64 k, .pointer (some ⟨V.heap.size + 1, 0, none⟩), c⟩) (c + 1)) p.2 ∧ p.2.m ≠ mb := fun p hp => by
    obtain ⟨h1, h2⟩ := hB.en p hp
    have h3 : p.2.b ≠ mb := fun q => by have := h1.row; rw [q, e1] at this; cases this
    exact ⟨⟨(putMap_ne _ _ _ _ h3).trans ((hb2.block _ h1.lt.1).trans h1.row), (putMap_ne _ _ _ _ h2).trans ((hb2.block _ h1.lt.2).trans h1.map)⟩, h2⟩
  refine ⟨(putMap_ne _ _ _ _ hmk).trans ((hb2.block _ hbk).trans hB.ob), ⟨_, _, putMap_at hmX _ _, mapIs_new e2 hF ⟨V.heap.size + 1, V.heap.size, s⟩, MapKept.stamped_push e3 (Sx.findIx_none _ _ (findNo e2 hF))⟩, fun p hp => ?_, fun p hp q hq e => ?_⟩
  · rcases putA_mem hp with rfl | hp
    · exact ⟨⟨(putMap_ne _ _ _ _ (by show V.heap.size + 1 ≠ mb; omega)).trans e6, (putMap_ne _ _ _ _ (by show V.heap.size ≠ mb; omega)).trans e5⟩, (by show V.heap.size ≠ mb; omega)⟩
    · exact old p hp
  · rcases putA_mem hp with rfl | hp
    · rcases putA_mem hq with rfl | hq
      · rfl
      · have := (hB.en q hq).1.lt.1
        have e : V.heap.size + 1 = q.2.b := e
        omega
    · rcases putA_mem hq with rfl | hq
      · have := (hB.en p hp).1.lt.1
        have e : p.2.b = V.heap.size + 1 := e
        omega
      · exact hB.inj p hp q hq e
theorem ebs2k (w : World) (A : Act) (dst : Option Tmp) (ty : TypeId) (pos : String) (af : Array Edge) (gd : Option (Nat × Bool)) (x : Operand) (k : Int) (hx : A.eval x = (.agg (dOf (A.eval x)).cells)) : (execOp A.eval ⟨dst, .build 52 #[(0, x), (1, .const (.int .i64 k))], ty, pos, af, gd⟩).run Tryz.prog w = .ok (.value (.agg (Sw.cells ⟨(dOf (A.eval x)), k, false, Hs.zero⟩))) w := ebs2 w A.eval dst ty pos af gd x (.const (.int .i64 k)) hx rfl
theorem rowOf_map {w : World} {es : Array MapEntry} {c b : Nat} (h : (b = w.heap.size) = False) : rowOf (w.alloc (.map es c)) b = rowOf w b := by
  have h : b ≠ w.heap.size := fun e => by rw [h] at e; exact e
  by_cases hb : b < w.heap.size
  · unfold rowOf
    rw [(MapKept.heap_alloc _ _).2 _ hb]
  · unfold rowOf
    have e1 : (w.alloc (.map es c)).heap[b]? = none := by rw [Array.getElem?_eq_none]; simp; omega
    have e2 : w.heap[b]? = none := by rw [Array.getElem?_eq_none]; omega
    rw [e1, e2]
attribute [local go_sem ↓] rowOf_cell ebe2 ebs2k
attribute [local go_sem] rowOf_alloc soft_alloc rowOf_drew soft_drew rowOf_setRow soft_setRow e_size e_s e_one sOf_mk mOf_mk Sx.run_mk rowOf_map
theorem BookAt.drew {w : World} {bk mb : Nat} {M : List (Int × En)} (h : BookAt w bk mb M) : BookAt w.drew bk mb M := h.below (Below.refl _ w).drew
set_option maxHeartbeats 1000000 in
theorem deal_any {w : World} {bk mb : Nat} {M : List (Int × En)} (h : BookAt w bk mb M) (r : Rc) (hf : getA M r.i = none) (hl : M.length < 16) : Calls Tryz.prog 70 #[.pointer (some ⟨bk, 0, none⟩), .agg r.cells] w fun e w' => e = .returned (.int .i64 0) ∧ ∃ be bm, BookAt w' bk mb (putA M r.i ⟨be, bm, ⟨r.d, 1, false, Hs.zero⟩⟩) ∧ Turns (fun i _ => i = mb) w w' ∧ w.heap.size ≤ be ∧ w.heap.size ≤ bm := by
  have H := Lib.hid h
  have HF := Lib.hid hf
  have hl2 : ((M.length : Int) ≥ 16) = False := eq_false (by omega)
  clear h hf hl
  go_enter Tryz.func70, Tryz.ntmps70
  go_upto_region 1 with (fail)
  have bx := Bx.new w (r.cells) 84; generalize w.alloc (.cells (r.cells) 84) = W at bx ⊢; have rx := bx.rowOf; have sx := bx.soft; have BX := Lib.hid bx; clear bx
  have hB := H.out.below BX.out.below
  have r0 := rowOf_of hB.ob
  have L2 := (hB.drew.look r.i).2
  rw [HF.out] at L2
  have HB := Lib.hid hB.drew
  have BX2 := Lib.hid (BX.out.step (Below.refl _ W).drew)
  clear hB
  go_region
  clear L2 rx sx r0 BX
  generalize W.drew = V at *
  have rx := BX2.out.rowOf
  have sx := BX2.out.soft
  have r0 := rowOf_of HB.out.ob
  have N := HB.out.len
  go_upto_region 6 with (fail)
  clear N hl2
  obtain ⟨es, c, e1, e2, e3⟩ := HB.out.mp
  have hlt : mb < V.heap.size := (Array.getElem?_eq_some_iff.1 e1).1
  have z1 : (V.alloc (.map #[] 0)).heap.size = V.heap.size + 1 := by simp
  obtain ⟨X, hX⟩ : ∃ X, X = ((V.alloc (.map #[] 0)).alloc (.cells (Sw.ent ⟨r.d, 1, false, Hs.zero⟩ V.heap.size) 117)).drew := ⟨_, rfl⟩
  have hb1 : Below V.heap.size V (V.alloc (.map #[] 0)) := (Below.refl _ V).alloc (Nat.le_refl _) _
  have hb2 : Below V.heap.size V X := by rw [hX]; exact (hb1.alloc (by rw [z1]; omega) _).drew
  have e4 : X.heap[mb]? = some (.map es c) := (hb2.block mb hlt).trans e1
  have e5 : X.heap[V.heap.size]? = some (.map #[] 0) := by
    rw [hX]
    show ((V.alloc (.map #[] 0)).alloc _).heap[V.heap.size]? = _
    rw [(MapKept.heap_alloc _ _).2 _ (by rw [z1]; omega)]
    exact heap_alloc_new V _
  have e6 : X.heap[V.heap.size + 1]? = some (.cells (Sw.ent ⟨r.d, 1, false, Hs.zero⟩ V.heap.size) 117) := by
    rw [hX]
    have := heap_alloc_new (V.alloc (.map #[] 0)) (.cells (Sw.ent ⟨r.d, 1, false, Hs.zero⟩ V.heap.size) 117)
    rw [z1] at this
    exact this
  have hw : w.heap.size < V.heap.size := (Array.getElem?_eq_some_iff.1 BX2.out.row).1
  have hne : ¬ w.heap.size = V.heap.size := by omega
  have hbk : ¬ bk = V.heap.size := by have := (Array.getElem?_eq_some_iff.1 HB.out.ob).1; omega
  have hbk1 : ¬ bk = V.heap.size + 1 := by have := (Array.getElem?_eq_some_iff.1 HB.out.ob).1; omega
  have hne1 : ¬ w.heap.size = V.heap.size + 1 := by omega
  have U := upd_new (k := r.i) e4 e2 HF.out (.pointer (some ⟨V.heap.size + 1, 0, none⟩))
  rw [hX] at U
  have HX := Lib.hid hX
  have K := Lib.hid (And.intro e1 (And.intro e2 (And.intro e3 (And.intro e4 (And.intro e5 (And.intro e6 hb2))))))
  clear e1 e2 e3 e4 e5 e6 hb1 hb2 hX z1
  go_region
  rw [← HX.out]
  clear U hne hbk hbk1 hne1 rx sx r0
  obtain ⟨e1, e2, e3, e4, e5, e6, hb2⟩ := K.out
  have hbX := BX2.out.below.trans (hb2.mono BX2.out.below.size)
  have hB := HB.out
  have hF := HF.out
  have hmk : bk ≠ mb := fun q => by have := hB.ob; rw [q, e1] at this; cases this
  have T := new_entry hB e1 e2 e3 e4 e5 e6 hb2 hF
  have TT := Lib.hid T
  have TB : Turns (fun i _ => i = mb) w (putMap X mb (es.push ⟨.int .i64 r.i, .pointer (some ⟨V.heap.size + 1, 0, none⟩), c⟩) (c + 1)) := turns_putMap hbX _ _ _
  have TB2 := Lib.hid TB
  clear K T TB e1 e2 e3 e4 e5 e6 hb2 hbX hB hF hmk HX hlt HB BX2 H HF
  generalize putMap X mb _ _ = Y at *
  go_wp2
  go_ret
  exact ⟨rfl, V.heap.size + 1, V.heap.size, TT.out, TB2.out, by omega, by omega⟩
end Go.Proofs.YtohpcfhgbgfblaaGreatDoor
