/- What is proved: parts of the walk and of the plain law, 6 texts in one. No condition but those each law names. -/
import Derived.Test.YtjkfondgacjpnaaGreatDoorK37
import Derived.Test.YtjkfondgacjpnaaGreatDoorK26
import Derived.ProofKit
import Derived.StillTailTactics
import Derived.Deep.AppendSrc
import Derived.Test.YtjkfondgacjpnaaGreatDoorK16
import Derived.Test.YtjkfondgacjpnaaGreatDoorK29
import Derived.Deep.RegionLaw
namespace Go.Proofs.YtjkfondgacjpnaaGreatDoor
open Go.RowKit
set_option maxRecDepth 100000
structure Lt where
  f : Int
  t : Int
  a : Option Addr
  c : Nat
  l : List Nat
def Lt.cells (x : Lt) : List Value := [.int .i64 x.f, .int .i64 x.t, .slice x.a x.l.length x.c]
def ltC (L : List Lt) : List Value := L.flatMap Lt.cells
structure Nt where
  nb : Nat
  mc : Nat
  B : Nat
  nodes : Int
  ra : Option Addr
  rc : Nat
  L : List Lt
  n1 : Int
  n2 : Int
  n3 : Int
  n4 : Int
def ntC (nodes : Int) (ra : Option Addr) (rn rc mc : Nat) (a b c d : Int) : Array Value := #[.int .i64 nodes, .slice ra rn rc, .map (some mc), .int .i64 a, .int .i64 b, .int .i64 c, .int .i64 d]
def Nt.cells (X : Nt) : Array Value := ntC X.nodes X.ra X.L.length X.rc X.mc X.n1 X.n2 X.n3 X.n4
def Nt.rb (X : Nt) (i : Nat) : Prop := ∃ o, X.ra = some ⟨i, o, none⟩
def Nt.all (X : Nt) (i : Nat) : Prop := i = X.nb ∨ i = X.mc ∨ X.rb i ∨ ∃ x ∈ X.L, ∃ o, x.a = some ⟨i, o, none⟩
structure NetAt (w : World) (X : Nt) : Prop where
  row : w.heap[X.nb]? = some (.cells X.cells 74)
  cuts : w.heap[X.mc]? = some (.map #[] 0)
  own : w.ownsRow X.B 76 3 (.slice X.ra X.L.length X.rc) X.L.length (ltC X.L)
  bod : ∀ x ∈ X.L, Sl w x.a x.l.length x.c (bts x.l)
  lt : ∀ x ∈ X.L, ∀ k o, x.a = some ⟨k, o, none⟩ → k < w.heap.size ∧ k ≠ X.nb ∧ ¬ X.rb k
  nr : ¬ X.rb X.nb ∧ ¬ X.rb X.mc
  bB : X.B ≤ w.heap.size
theorem NetAt.all_lt {w : World} {X : Nt} (h : NetAt w X) {i : Nat} (hi : X.all i) : i < w.heap.size := by
  rcases hi with rfl | rfl | ⟨o, e⟩ | ⟨x, hx, o, e⟩
  · exact (Array.getElem?_eq_some_iff.1 h.row).1
  · exact (Array.getElem?_eq_some_iff.1 h.cuts).1
  · have ho := h.own
    rw [e] at ho
    exact (own_addr ho).2
  · exact (h.lt x hx i o e).1
theorem NetAt.keepB {w w' : World} {X : Nt} (h : NetAt w X) (hz : w.heap.size ≤ w'.heap.size) (hk : ∀ i, X.all i → w'.heap[i]? = w.heap[i]?) : NetAt w' X := by
  refine ⟨(hk _ (.inl rfl)).trans h.row, (hk _ (.inr (.inl rfl))).trans h.cuts, own_heap h.own fun k hkb => hk k (.inr (.inr (.inl ?_))), fun x hx => ?_, fun x hx k o e => ?_, h.nr, Nat.le_trans h.bB hz⟩
  · have ho := h.own
    cases hra : X.ra with
    | none => rw [hra] at hkb; cases hkb
    | some ad =>
      rw [hra] at ho hkb
      rcases ho.2 with ⟨hv, _⟩ | ⟨g, cp, cur, hv, _⟩
      · cases hv
      · cases hv
        obtain rfl : g = k := by simpa [Value.ownBlock] using hkb
        exact ⟨0, hra⟩
  · have hs := h.bod x hx
    rcases hs.cells with e | ⟨b, o, e, hc⟩
    · exact ⟨hs.len, hs.le, hs.nil, .inl e⟩
    · exact ⟨hs.len, hs.le, hs.nil, .inr ⟨b, o, e, fun j y hj => (Sx.cell_block (hk b (.inr (.inr (.inr ⟨x, hx, o, e⟩)))) _).1.trans (hc j y hj)⟩⟩
  · obtain ⟨h1, h2⟩ := h.lt x hx k o e
    exact ⟨Nat.lt_of_lt_of_le h1 hz, h2⟩
theorem NetAt.below {w w' : World} {X : Nt} (h : NetAt w X) (hb : Below w.heap.size w w') : NetAt w' X := h.keepB hb.size fun i hi => hb.block i (h.all_lt hi)
section
variable (nodes : Int) (ra : Option Addr) (rn rc mc : Nat) (a b c d : Int)
end
theorem nt_cells (X : Nt) : X.cells = #[.int .i64 X.nodes, .slice X.ra X.L.length X.rc, .map (some X.mc), .int .i64 X.n1, .int .i64 X.n2, .int .i64 X.n3, .int .i64 X.n4] := rfl
attribute [local go_sem ↓] rowOf_cell
attribute [local go_sem] rowOf_alloc soft_alloc rowOf_drew soft_drew rowOf_setRow soft_setRow rowOf_setCell soft_setCell frozen_of_soft Sx.run_mk
theorem New_net {n : Int} (h1 : (n < 1) = False) (h2 : (n > 32) = False) (w : World) : Calls Tryz.prog 36 #[.int .i64 n] w fun e w' => ∃ X, e = .returned (.pointer (some ⟨X.nb, 0, none⟩)) ∧ NetAt w' X ∧ X.nodes = n ∧ X.L = [] ∧ Below w.heap.size w w' ∧ ∀ i, X.all i → w.heap.size ≤ i := by
  go_enter Tryz.func36, Tryz.ntmps36
  go_wp2
  go_ret
  have b1 := (Below.refl w.heap.size w).alloc (Nat.le_refl _) (.map #[] 0)
  have s1 : (w.alloc (.map #[] 0)).heap.size = w.heap.size + 1 := by simp
  refine ⟨⟨w.heap.size + 1, w.heap.size, w.heap.size, n, none, 0, [], 0, 0, 0, 0⟩, rfl, ⟨?_, ?_, World.ownsRow_nil _ _ _ _, fun x hx => (by cases hx), fun x hx => (by cases hx), ⟨fun h => (by obtain ⟨o, h⟩ := h; cases h), fun h => (by obtain ⟨o, h⟩ := h; cases h)⟩, by simp; omega⟩, rfl, rfl, b1.alloc b1.size _, fun i hi => ?_⟩
  · have := heap_alloc_new (w.alloc (.map #[] 0)) (.cells (ntC n none 0 0 w.heap.size 0 0 0 0) 74)
    rw [s1] at this
    exact this
  · show ((w.alloc (.map #[] 0)).alloc _).heap[w.heap.size]? = _
    rw [(MapKept.heap_alloc _ _).2 _ (by rw [s1]; omega)]
    exact heap_alloc_new w _
  · rcases hi with rfl | rfl | ⟨o, e⟩ | ⟨x, hx, _⟩
    · exact Nat.le_succ _
    · exact Nat.le_refl _
    · cases e
    · cases hx
theorem one_no {ad : Addr} (w : World) : Calls Tryz.prog 40 #[.bool false, .pointer (some ad)] w fun e w' => e = .returned (.bool false) ∧ w' = w := by
  go_enter Tryz.func40, Tryz.ntmps40
  go_wp2
  go_ret
  exact ⟨rfl, rfl⟩
theorem one_yes {w : World} {b k : Nat} {C : Array Value} {x : Int} (hr : rowOf w b = C) (hs : soft w b = true) (hk : C[k]? = some (.int .i64 x)) : Calls Tryz.prog 40 #[.bool true, .pointer (some ⟨b, k, none⟩)] w fun e w' => e = .returned (.bool true) ∧ w' = w.setCell ⟨b, k, none⟩ (.int .i64 (wrap64 (x + 1))) := by
  go_enter Tryz.func40, Tryz.ntmps40
  go_wp2
  go_ret
  exact ⟨rfl, rfl⟩
theorem Waits_any {w : World} {X : Nt} (h : NetAt w X) : Calls Tryz.prog 11 #[.pointer (some ⟨X.nb, 0, none⟩)] w fun e w' => e = .returned (.int .i64 X.L.length) ∧ w' = w := by
  have r0 := rowOf_of h.row
  rw [nt_cells] at r0
  clear h
  go_enter Tryz.func11, Tryz.ntmps11
  go_wp2
  go_ret
  exact ⟨rfl, rfl⟩
end Go.Proofs.YtjkfondgacjpnaaGreatDoor

namespace Go.Proofs.YtjkfondgacjpnaaGreatDoor
open Go.RowKit
set_option maxRecDepth 100000
attribute [local go_sem ↓] rowOf_cell
attribute [local go_sem] rowOf_alloc soft_alloc rowOf_drew soft_drew rowOf_setRow soft_setRow rowOf_setCell soft_setCell frozen_of_soft Ext.row Ext.soft_
theorem node_yes {w : World} {p nb : Nat} {nodes x : Int} {C : Array Value} (hp : rowOf w p = #[.pointer (some ⟨nb, 0, none⟩)]) (hn : rowOf w nb = C) (hc : C[0]? = some (.int .i64 nodes)) (h1 : (x ≥ 1) = True) (h2 : (x ≤ nodes) = True) :
    Calls Tryz.prog 73 #[.int .i64 x, .pointer (some ⟨p, 0, none⟩)] w fun e w' => e = .returned (.bool true) ∧ w' = w := by
  go_enter Tryz.func73, Tryz.ntmps73
  go_wp2
  go_ret
  exact ⟨rfl, rfl⟩
theorem load124 (w : World) (ρ : Operand → Value) (x : Operand) (dst : Option Tmp) (ty : TypeId) (pos : String) (af : Array Edge) (gd : Option (Nat × Bool)) (hp : pp (ρ x) = true) (h : po (ρ x) + 2 ≤ (rowOf w (pb (ρ x))).size) : (execOp ρ ⟨dst, .load 124 x, ty, pos, af, gd⟩).run Tryz.prog w = .ok (.value (.agg (sub (rowOf w (pb (ρ x))) (po (ρ x)) 2))) w :=
  exec_load_row 124 2 Tryz.underlying124 rfl (by kernel_rfl) w ρ x dst ty pos af gd hp h
theorem store124 (w : World) (ρ : Operand → Value) (x y : Operand) (dst : Option Tmp) (ty : TypeId) (pos : String) (af : Array Edge) (gd : Option (Nat × Bool)) (hp : pp (ρ x) = true) (h0 : po (ρ x) = 0) (hv : isAg (ρ y) = true) (hs : soft w (pb (ρ x)) = true) (hr : (rowOf w (pb (ρ x))).size = 2) (hn : (agc (ρ y)).size = 2) (h1 : ones (agc (ρ y)) = true) :
    (execOp ρ ⟨dst, .store 124 x y, ty, pos, af, gd⟩).run Tryz.prog w = .ok .skip (w.setRow (pb (ρ x)) (agc (ρ y))) :=
  exec_store_row 124 2 (by kernel_rfl) w ρ x y dst ty pos af gd hp h0 hv hs hr hn h1
theorem load76 (w : World) (ρ : Operand → Value) (x : Operand) (dst : Option Tmp) (ty : TypeId) (pos : String) (af : Array Edge) (gd : Option (Nat × Bool)) (hp : pp (ρ x) = true) (h : po (ρ x) + 3 ≤ (rowOf w (pb (ρ x))).size) : (execOp ρ ⟨dst, .load 76 x, ty, pos, af, gd⟩).run Tryz.prog w = .ok (.value (.agg (sub (rowOf w (pb (ρ x))) (po (ρ x)) 3))) w :=
  exec_load_row 76 3 Tryz.underlying76 rfl (by kernel_rfl) w ρ x dst ty pos af gd hp h
theorem store76 (w : World) (ρ : Operand → Value) (x y : Operand) (dst : Option Tmp) (ty : TypeId) (pos : String) (af : Array Edge) (gd : Option (Nat × Bool)) (hp : pp (ρ x) = true) (h0 : po (ρ x) = 0) (hv : isAg (ρ y) = true) (hs : soft w (pb (ρ x)) = true) (hr : (rowOf w (pb (ρ x))).size = 3) (hn : (agc (ρ y)).size = 3) (h1 : ones (agc (ρ y)) = true) :
    (execOp ρ ⟨dst, .store 76 x y, ty, pos, af, gd⟩).run Tryz.prog w = .ok .skip (w.setRow (pb (ρ x)) (agc (ρ y))) :=
  exec_store_row 76 3 (by kernel_rfl) w ρ x y dst ty pos af gd hp h0 hv hs hr hn h1
attribute [go_sem ↓] load124 store124 load76 store76
theorem between_ok {w : World} {X : Nt} (h : NetAt w X) {a b : Int} (a1 : (a ≥ 1) = True) (a2 : (a ≤ X.nodes) = True) (b1 : (b ≥ 1) = True) (b2 : (b ≤ X.nodes) = True) (hab : (a != b) = true) :
    Calls Tryz.prog 51 #[.pointer (some ⟨X.nb, 0, none⟩), .int .i64 a, .int .i64 b] w fun e w' => ∃ x y : Int, e = .returned (.tuple #[.agg #[.int .i64 x, .int .i64 y], .bool true]) ∧ Below w.heap.size w w' := by
  have r0 := rowOf_of h.row
  rw [nt_cells] at r0
  have l0 := h.all_lt (.inl rfl)
  have L0 := Lib.hid l0
  have R0 := Lib.hid h.row
  clear h
  go_enter Tryz.func51, Tryz.ntmps51
  go_upto_region 1 with (fail)
  have bx := Bxs.new2 w (#[.pointer (some ⟨X.nb, 0, none⟩)]) 35 (#[.int .i64 0, .int .i64 0]) 124; generalize ((w.alloc (.cells (#[.pointer (some ⟨X.nb, 0, none⟩)]) 35)).alloc (.cells (#[.int .i64 0, .int .i64 0]) 124)) = W at bx ⊢; have rx0 := bx.row' 0 rfl; have sx0 := bx.soft' 0 rfl; (try simp only [Nat.add_zero] at rx0 sx0); have rx1 := bx.row' 1 rfl; have sx1 := bx.soft' 1 rfl; (try simp only [Nat.add_zero] at rx1 sx1); have BX := Lib.hid bx; clear bx
  have rn := rowOf_of ((BX.out.below.block _ L0.out).trans R0.out)
  rw [nt_cells] at rn
  clear r0 l0
  go_wp2_with fail
  refine (node_yes rx0 rn rfl a1 a2).mono ?_
  rintro _ W2 ⟨rfl, rfl⟩
  go_wp2_with fail
  refine (node_yes rx0 rn rfl b1 b2).mono ?_
  rintro _ W3 ⟨rfl, rfl⟩
  have B := (BX.out.below.setCell (p := ⟨w.heap.size + 1, 0, none⟩) (Nat.le_add_right w.heap.size 1) (.int .i64 (min a b))).setCell (p := ⟨w.heap.size + 1, 1, none⟩) (Nat.le_add_right w.heap.size 1) (.int .i64 (max a b))
  have hc : rowOf ((W3.setCell ⟨w.heap.size + 1, 0, none⟩ (.int .i64 (min a b))).setCell ⟨w.heap.size + 1, 1, none⟩ (.int .i64 (max a b))) (w.heap.size + 1) = #[.int .i64 (min a b), .int .i64 (max a b)] := by
    rw [rowOf_setCell, if_pos rfl, rowOf_setCell, if_pos rfl, rx1]
    rfl
  go_wp2
  refine bodyPost_ret (results_row1 (t := 124) rfl Tryz.underlying124 rfl (by kernel_rfl) _ _ (w.heap.size + 1) rfl hc rfl) rfl ?_
  exact ⟨_, _, rfl, B⟩
end Go.Proofs.YtjkfondgacjpnaaGreatDoor

namespace Go.Proofs.YtjkfondgacjpnaaGreatDoor
open Go.RowKit
set_option maxRecDepth 100000
def zero3 : List Value := [.int .i64 0, .int .i64 0, .slice none 0 0]
theorem src_of {w : World} {b o c n cap i : Nat} {news : List Value} (hl : news.length = n * 3) (hn : 0 < n → ¬ cap = i) (hc : ∀ (j : Nat) u, news[j]? = some u → w.cell? ⟨b, o + i * 3 + j, none⟩ = some u) (h1 : ∀ u ∈ news, u.oneCell' = true) :
    Src Tryz.prog 3 71 (.slice (if cap = i then some ⟨b, o, none⟩ else some ⟨b, o + i * 3, none⟩) n c) n news w := by
  by_cases h0 : 0 < n
  · rw [if_neg (hn h0)]
    exact Src.ofSlice w Tryz.underlying71 _ n c news hl (fun j u hj => by rw [add_plain_addr]; exact hc j u hj) h1
  · obtain rfl : n = 0 := by omega
    have : news = [] := List.length_eq_zero_iff.1 (by simpa using hl)
    subst this
    refine ⟨.inl ⟨_, Tryz.underlying71⟩, fun _ => rfl, ?_, ?_, rfl, fun u hu => by cases hu⟩
    · split <;> (simp [Builtin.firstCells, loadCells]; exact run_loadCells_list (P := Tryz.prog) (w := w) _ [] (fun j v hv => by simp at hv))
    · split <;> (simp [Builtin.firstCells, loadCells]; exact run_loadCells_list (P := Tryz.prog) (w := w.drew) _ [] (fun j v hv => by simp at hv))
theorem clear_run {w : World} {b o c : Nat} {ty : TypeId} (hc : ∀ j, j < 3 → (w.cell? ⟨b, o + j, none⟩).isSome = true ∧ w.frozen? ⟨b, o + j, none⟩ = false) :
    (Builtin.clear_ #[71] ty #[.slice (some ⟨b, o, none⟩) 1 c]).run Tryz.prog w = .ok (.tuple #[]) (w.setCells b o zero3) := by
  obtain ⟨i, hi, hz, hs, _⟩ := info_parts (show (Tryz.prog.info? 76).map (fun i => (i.zero, i.size, i.bytes)) = some (some (.agg zero3.toArray), 3, 40) by kernel_rfl)
  have hzr : (zeroValue 76).run Tryz.prog w = .ok (.agg zero3.toArray) w := by simp [zeroValue, typeInfo, hi, hz]
  have hst := run_storeCells_cells (P := Tryz.prog) b o zero3 0 w (fun j hj => by simpa using (hc j (by simpa [zero3] using hj)).1) (fun j hj => by simpa using (hc j (by simpa [zero3] using hj)).2) (fun v hv => by
    simp [zero3] at hv; rcases hv with rfl | rfl <;> rfl)
  simp only [Nat.add_zero] at hst
  have hzc : (Builtin.zeroCells (Value.agg zero3.toArray).cells 1).toList = zero3 := by kernel_rfl
  simp only [Builtin.clear_, List.getElem?_toArray, List.getElem?_cons_zero, Sem.run_bind, run_underlying Tryz.underlying71, Result.andThen_ok, hzr, hzc, hst, Sem.run_pure]
set_option maxHeartbeats 2000000 in
theorem del_raw {w : World} {b o len cap : Nat} {i : Nat} (hil : i < len) (hc : len ≤ cap) (hlen : len ≤ 1000000) {tl : List Value} (hl : tl.length = (len - (i + 1)) * 3)
    (ht : ∀ (j : Nat) u, tl[j]? = some u → w.cell? ⟨b, o + (i + 1) * 3 + j, none⟩ = some u) (h1c : ∀ u ∈ tl, u.oneCell' = true)
    (hw : ∀ j, j < len * 3 → (w.cell? ⟨b, o + j, none⟩).isSome = true ∧ w.frozen? ⟨b, o + j, none⟩ = false) :
    Calls Tryz.prog 52 #[.slice (some ⟨b, o, none⟩) len cap, .int .i64 i, .int .i64 (i + 1 : Nat)] w fun e w' => e = .returned (.slice (some ⟨b, o, none⟩) (len - 1) cap) ∧ w' = (w.drew.setCells b (o + i * 3) tl).setCells b (o + (len - 1) * 3) zero3 := by
  have h1 : (i : Int) ≤ len := by omega
  have h2 : (0 : Int) ≤ i := by omega
  have h3 : (i : Int) ≤ cap := by omega
  have h4 : (i : Int) + 1 ≤ len := by omega
  have h5 : (0 : Int) ≤ (i : Int) + 1 := by omega
  have h6 : ((i : Int) + 1).toNat = i + 1 := by omega
  have h7 : ¬ cap = 0 := by omega
  have h8 : ¬ cap = i := by omega
  have h9 : (i : Int) + 1 ≤ cap := by omega
  obtain ⟨inf, hi, hz, hs, _⟩ := info_parts (show (Tryz.prog.info? 76).map (fun i => (i.zero, i.size, i.bytes)) = some (some (.agg zero3.toArray), 3, 40) by kernel_rfl)
  have hsrc : Src Tryz.prog 3 71 (.slice (if cap = i + 1 then some ⟨b, o, none⟩ else some ⟨b, o + (i + 1) * 3, none⟩) (len - (i + 1)) (cap - (i + 1))) (len - (i + 1)) tl w.drew := src_of hl (by omega) ht h1c
  have hrun : ∀ ty, (Builtin.append_ #[71, 71] ty #[.slice (some ⟨b, o, none⟩) i cap, .slice (if cap = i + 1 then some ⟨b, o, none⟩ else some ⟨b, o + (i + 1) * 3, none⟩) (len - (i + 1)) (cap - (i + 1))]).run Tryz.prog w.drew = .ok (.slice (some ⟨b, o, none⟩) (len - 1) cap) (w.drew.setCells b (o + i * 3) tl) := fun ty => by
    rw [← hs] at hsrc
    have := run_append_room_src (P := Tryz.prog) w.drew 71 71 ty 76 inf Tryz.underlying71 hi b o i cap _ (len - (i + 1)) tl hsrc (by omega) (fun j hj => by rw [hs, Nat.add_assoc]; exact (hw (i * 3 + j) (by omega)).1) (fun j hj => by rw [hs, Nat.add_assoc]; exact (hw (i * 3 + j) (by omega)).2)
    rw [hs, show i + (len - (i + 1)) = len - 1 by omega] at this
    exact this
  have hclear : ∀ ty, (Builtin.clear_ #[71] ty #[.slice (some ⟨b, o + (len - 1) * 3, none⟩) 1 (cap - (len - 1))]).run Tryz.prog (w.drew.setCells b (o + i * 3) tl) = .ok (.tuple #[]) ((w.drew.setCells b (o + i * 3) tl).setCells b (o + (len - 1) * 3) zero3) := fun ty => clear_run fun j hj => by
    rw [World.frozen?_setCells, Sx.cell_there, Sx.shape_setCells, ← Sx.cell_there, Nat.add_assoc]
    exact hw ((len - 1) * 3 + j) (by omega)
  have k1 : (0 : Int) ≤ ((len - 1 : Nat) : Int) := by omega
  have k2 : ((len - 1 : Nat) : Int) ≤ len := by omega
  have k3 : ((len : Nat) : Int) ≤ cap := by omega
  have k4 : ¬ cap = len - 1 := by omega
  have k5 : len - (len - 1) = 1 := by omega
  clear ht hw hsrc hl
  go_enter Tryz.func52, Tryz.ntmps52
  go_wp2_with fail
  go_still_tail 6, (by kernel_rfl)
  change wpList _ _ _ _ _ w.drew
  refine wpList_plain rfl fun K hK => ?_
  unfold Oper.wp
  simp only [execOp, resolve, invoke, builtin, Sem.run_bind, Sem.run_pure, Result.andThen_ok, List.map_toArray, List.map_cons, List.map_nil]
  change Oper.upon _ _ _ _ _ (Result.andThen ((Builtin.append_ #[71, 71] 71 #[.slice (some ⟨b, o, none⟩) i cap, .slice (if cap = i + 1 then some ⟨b, o, none⟩ else some ⟨b, o + (i + 1) * 3, none⟩) (len - (i + 1)) (cap - (i + 1))]).run Tryz.prog w.drew) _)
  rw [hrun, Result.andThen_ok, Oper.upon_value]
  refine hK _ _ ?_
  clear hrun hK
  go_wp2_with fail
  all_goals
    go_ret
    exact ⟨rfl, rfl⟩
end Go.Proofs.YtjkfondgacjpnaaGreatDoor

namespace Go.Proofs.YtjkfondgacjpnaaGreatDoor
open Go.RowKit
set_option maxRecDepth 100000
theorem over_list : ∀ (l : List Value) (cs : Array Value) (o : Nat), o + l.length ≤ cs.size → (over cs o l).toList = cs.toList.take o ++ (l ++ cs.toList.drop (o + l.length))
  | [], cs, o, _ => by simp [over]
  | v :: l, cs, o, h => by
    have hl : o + (l.length + 1) ≤ cs.size := h
    unfold over
    rw [over_list l (cs.setIfInBounds o v) (o + 1) (by simp; omega)]
    have ht : (cs.toList.take o).length = o := by simp; omega
    have e : (cs.setIfInBounds o v).toList = cs.toList.take o ++ v :: cs.toList.drop (o + 1) := by
      rw [Array.toList_setIfInBounds, List.set_eq_take_append_cons_drop, if_pos (by simp; omega)]
    have hd : cs.toList.drop (o + (v :: l).length) = (cs.toList.drop (o + 1)).drop l.length := by rw [List.drop_drop]; congr 1; simp; omega
    rw [e, hd]
    generalize cs.toList.take o = A at ht ⊢
    generalize cs.toList.drop (o + 1) = C
    subst ht
    rw [List.take_length_add_append, show A.length + 1 + l.length = A.length + (l.length + 1) by omega, List.drop_length_add_append]
    simp
theorem setRow_twice (w : World) (b : Nat) (c1 c2 : Array Value) : (w.setRow b c1).setRow b c2 = w.setRow b c2 := by
  unfold World.setRow
  simp only
  congr 1
  apply Array.ext_getElem?
  intro j
  simp only [Array.getElem?_modify]
  by_cases h : b = j
  · simp only [h, if_true]
    cases hh : w.heap[j]? with
    | none => simp
    | some o => cases o <;> simp
  · simp only [h, if_false]
theorem over_size (l : List Value) (cs : Array Value) (o : Nat) : (over cs o l).size = cs.size := by
  induction l generalizing cs o with
  | nil => rfl
  | cons v l ih => unfold over; rw [ih]; simp
theorem lt_len (x : Lt) : x.cells.length = 3 := rfl
theorem ltC_len (L : List Lt) : (ltC L).length = L.length * 3 := by
  induction L with
  | nil => rfl
  | cons x L ih => unfold ltC at *; rw [List.flatMap_cons, List.length_append, ih, lt_len, List.length_cons]; omega
theorem ltC_append (L K : List Lt) : ltC (L ++ K) = ltC L ++ ltC K := by simp [ltC]
theorem ltC_take (L : List Lt) (i : Nat) : (ltC L).take (i * 3) = ltC (L.take i) := by
  have h := ltC_append (L.take i) (L.drop i)
  rw [List.take_append_drop] at h
  rw [h, List.take_append, ltC_len]
  by_cases hi : i ≤ L.length
  · rw [List.length_take_of_le hi, Nat.sub_self, List.take_zero, List.append_nil, List.take_of_length_le (by rw [ltC_len, List.length_take_of_le hi]; omega)]
  · rw [List.drop_eq_nil_of_le (by omega), List.take_of_length_le (by rw [ltC_len]; have := List.length_take_le i L; omega)]
    simp [ltC]
theorem ltC_one (x : Lt) : ∀ u ∈ x.cells, u.oneCell' = true := fun u hu => by
  simp only [Lt.cells, List.mem_cons, List.not_mem_nil, or_false] at hu
  rcases hu with rfl | rfl | rfl <;> rfl
theorem ltC_ones (L : List Lt) : ∀ u ∈ ltC L, u.oneCell' = true := fun u hu => by
  obtain ⟨x, _, h⟩ := List.mem_flatMap.1 hu
  exact ltC_one x u h
theorem del_own {w : World} {B g rc : Nat} {L : List Lt} {i : Nat} (h : w.ownsRow B 76 3 (.slice (some ⟨g, 0, none⟩) L.length rc) L.length (ltC L)) (hi : i < L.length) (hlen : L.length ≤ 1000000) :
    Calls Tryz.prog 52 #[.slice (some ⟨g, 0, none⟩) L.length rc, .int .i64 i, .int .i64 (i + 1 : Nat)] w fun e w' => e = .returned (.slice (some ⟨g, 0, none⟩) (L.length - 1) rc) ∧ w'.ownsRow B 76 3 (.slice (some ⟨g, 0, none⟩) (L.length - 1) rc) (L.length - 1) (ltC (L.eraseIdx i)) ∧ (∃ C, w' = w.drew.setRow g C) := by
  have hu := fun j => own_unfrozen (j := j) h
  have ho := h
  rcases h.2 with ⟨hv, _⟩ | ⟨g', cap, cur, hv, hB, hh, hn, hm, hs, ht⟩
  · cases hv
  cases hv
  have hcl : cur.toList.length = rc * 3 := by simpa using hs
  have hcur : cur.toList.take (L.length * 3) = ltC L := by
    have : L.length * 3 = L.length * 3 := rfl
    simpa using ht
  have hget : ∀ (j : Nat) u, (ltC (L.drop (i + 1)))[j]? = some u → cur[(i + 1) * 3 + j]? = some u := fun j u hj => by
    have e := ltC_append (L.take (i + 1)) (L.drop (i + 1))
    rw [List.take_append_drop] at e
    have hl1 : (ltC (L.take (i + 1))).length = (i + 1) * 3 := by rw [ltC_len, List.length_take_of_le (by omega)]
    have h1 : (ltC L)[(i + 1) * 3 + j]? = some u := by rw [e, List.getElem?_append_right (by rw [hl1]; omega), hl1, Nat.add_sub_cancel_left]; exact hj
    rw [← hcur] at h1
    rw [List.getElem?_take] at h1
    split at h1
    · simpa using h1
    · cases h1
  have D := del_raw (w := w) (b := g) (o := 0) (len := L.length) (cap := rc) hi hn hlen (tl := ltC (L.drop (i + 1))) (by rw [ltC_len, List.length_drop])
    (fun j u hj => by rw [Nat.zero_add, rowOf_cell, rowOf_of hh]; exact hget j u hj) (ltC_ones _)
    (fun j hj => ⟨by rw [Nat.zero_add, rowOf_cell, rowOf_of hh, Array.getElem?_eq_getElem (by rw [hs]; omega)]; rfl, hu _⟩)
  refine D.mono ?_
  rintro e w' ⟨rfl, rfl⟩
  have e1 : w.drew.setCells g (0 + i * 3) (ltC (L.drop (i + 1))) = w.drew.setRow g (over cur (i * 3) (ltC (L.drop (i + 1)))) := by
    rw [setCells_row, Nat.zero_add, show rowOf w.drew g = cur from rowOf_of hh]
  have hh2 : (w.drew.setRow g (over cur (i * 3) (ltC (L.drop (i + 1))))).heap[g]? = some (.cells (over cur (i * 3) (ltC (L.drop (i + 1)))) 76) := setRow_heap w.drew g _ _ 76 _ hh
  have e2 : (w.drew.setRow g (over cur (i * 3) (ltC (L.drop (i + 1))))).setCells g (0 + (L.length - 1) * 3) zero3 = w.drew.setRow g (over (over cur (i * 3) (ltC (L.drop (i + 1)))) ((L.length - 1) * 3) zero3) := by
    rw [setCells_row, Nat.zero_add, rowOf_of hh2, setRow_twice]
  rw [e1, e2]
  have hz : (over (over cur (i * 3) (ltC (L.drop (i + 1)))) ((L.length - 1) * 3) zero3).size = rc * 3 := by rw [over_size, over_size, hs]
  have hl2 : (ltC (L.drop (i + 1))).length = (L.length - (i + 1)) * 3 := by rw [ltC_len, List.length_drop]
  have htk : (over (over cur (i * 3) (ltC (L.drop (i + 1)))) ((L.length - 1) * 3) zero3).toList.take ((L.length - 1) * 3) = ltC (L.eraseIdx i) := by
    have q1 : (cur.toList.take (i * 3)).length = i * 3 := by rw [List.length_take]; omega
    have q2 : cur.toList.take (i * 3) = ltC (L.take i) := by
      rw [← ltC_take, ← hcur, List.take_take, Nat.min_eq_left (by omega)]
    have e3 : (over cur (i * 3) (ltC (L.drop (i + 1)))).toList = (cur.toList.take (i * 3) ++ ltC (L.drop (i + 1))) ++ cur.toList.drop (i * 3 + (ltC (L.drop (i + 1))).length) := by
      rw [over_list _ _ _ (by rw [hs, hl2]; omega), List.append_assoc]
    have e4 : (cur.toList.take (i * 3) ++ ltC (L.drop (i + 1))).length = (L.length - 1) * 3 := by rw [List.length_append, q1, hl2]; omega
    rw [over_list _ _ _ (by rw [over_size, hs]; show (L.length - 1) * 3 + 3 ≤ _; omega), e3, List.take_left' e4, List.take_left' e4, q2, ← ltC_append, ← List.eraseIdx_eq_take_drop_succ]
  refine ⟨rfl, ⟨by rw [ltC_len, List.length_eraseIdx_of_lt hi], .inr ⟨g, rc, _, rfl, hB, setRow_heap w.drew g _ _ 76 _ hh, by omega, hm, hz, by simpa using htk⟩⟩, _, rfl⟩
end Go.Proofs.YtjkfondgacjpnaaGreatDoor

namespace Go.Proofs.YtjkfondgacjpnaaGreatDoor
open Go.RowKit
set_option maxRecDepth 100000
attribute [local go_sem ↓] rowOf_cell
attribute [local go_sem] rowOf_alloc soft_alloc rowOf_drew soft_drew rowOf_setRow soft_setRow rowOf_setCell soft_setCell frozen_of_soft Ext.row Ext.soft_
theorem sub_lit3 (a b c : Value) : sub #[a, b, c] 0 3 = #[a, b, c] := by simp [sub]
attribute [local go_sem] sub_lit3
theorem elemL : Elem Tryz.prog 71 76 3 := Elem.mk' Tryz.underlying71 (by kernel_rfl) (z := .agg #[.int .i64 0, .int .i64 0, .slice none 0 0]) (bytes := 40) rfl (by decide) (by decide)
def Lt.told (x : Lt) : Int × Int × List Nat := (x.f, x.t, x.l)
structure NetTo (w : World) (X : Nt) (w' : World) (X' : Nt) : Prop where
  at' : NetAt w' X'
  comp : Comp w w' X.all X'.all
  nb : X'.nb = X.nb
  nodes : X'.nodes = X.nodes
theorem Bx.set1' {w W : World} {C : Array Value} {t : TypeId} (h : Bx w C t W) (k : Nat) (v : Value) : Bx w (C.setIfInBounds k v) t (W.setCell ⟨w.heap.size, k, none⟩ v) := by
  refine ⟨?_, h.below.setCell (Nat.le_refl _) _⟩
  rw [heap_setCell_at, if_pos rfl, h.row]
  rfl
theorem rb_own {X : Nt} {w : World} (h : NetAt w X) {k : Nat} : (Value.slice X.ra X.L.length X.rc).ownBlock = some k ↔ X.rb k := by
  have ho := h.own
  constructor
  · intro e
    cases hra : X.ra with
    | none => rw [hra] at e; cases e
    | some ad =>
      rw [hra] at ho e
      rcases ho.2 with ⟨hv, _⟩ | ⟨g, cp, cur, hv, _⟩
      · cases hv
      · cases hv
        obtain rfl : g = k := by simpa [Value.ownBlock] using e
        exact ⟨0, hra⟩
  · rintro ⟨o, e⟩
    rw [e]
    rfl
theorem lay_fin {w0 V w7 : World} {X : Nt} (h0 : NetAt w0 X) (hb0 : Below w0.heap.size w0 V) {f t : Int} {a2 : Option Addr} {c2 : Nat} {l : List Nat} (hs : Sl V a2 l.length c2 (bts l)) (hf : ∀ k o, a2 = some ⟨k, o, none⟩ → k < V.heap.size ∧ w0.heap.size ≤ k) {g cap : Nat}
    (ho : w7.ownsRow X.B 76 3 (.slice (some ⟨g, 0, none⟩) (X.L.length + 1) cap) (X.L.length + 1) (ltC X.L ++ [.int .i64 f, .int .i64 t, .slice a2 l.length c2])) (hg : V.grownBy w7 (Value.slice X.ra X.L.length X.rc).ownBlock)
    (hat : (Value.slice X.ra X.L.length X.rc).ownBlock = some g ∨ g = V.heap.size) (hlt : g < w7.heap.size) :
    ∃ X', NetTo w0 X (w7.setCell ⟨X.nb, 1, none⟩ (.slice (some ⟨g, 0, none⟩) (X.L.length + 1) cap)) X' ∧ X'.L.map Lt.told = X.L.map Lt.told ++ [(f, t, l)] := by
  have h := h0.below hb0
  have hB := h.bB
  have hf : ∀ k o, a2 = some ⟨k, o, none⟩ → k < V.heap.size ∧ ¬ X.all k ∧ w0.heap.size ≤ k := fun k o e => ⟨(hf k o e).1, fun q => by have := h0.all_lt q; have := (hf k o e).2; omega, (hf k o e).2⟩
  have hgo : X.rb g ∨ g = V.heap.size := hat.imp (fun e => (rb_own h).1 e) id
  have nG : ∀ i, i < V.heap.size → ¬ X.rb i → i ≠ g := fun i hi hn e => by
    subst e
    rcases hgo with e | e
    · exact hn e
    · omega
  have nN : X.nb ≠ g := nG _ (h.all_lt (.inl rfl)) h.nr.1
  have kp : ∀ i, i < V.heap.size → ¬ X.rb i → w7.heap[i]? = V.heap[i]? := fun i hi hn => hg.block i hi fun e => hn ((rb_own h).1 e.symm)
  have bl := (Below.refl X.B V).grown hg hB (own_block h.own)
  have ks : ∀ i, i ≠ X.nb → (w7.setCell ⟨X.nb, 1, none⟩ (.slice (some ⟨g, 0, none⟩) (X.L.length + 1) cap)).heap[i]? = w7.heap[i]? := fun i hi => by
    rw [heap_setCell_at, if_neg (fun e => hi e.symm)]
  have hrow : (w7.setCell ⟨X.nb, 1, none⟩ (.slice (some ⟨g, 0, none⟩) (X.L.length + 1) cap)).heap[X.nb]? = some (.cells (X.cells.setIfInBounds 1 (.slice (some ⟨g, 0, none⟩) (X.L.length + 1) cap)) 74) := by
    rw [heap_setCell_at, if_pos rfl, kp _ (h.all_lt (.inl rfl)) h.nr.1, h.row]
    rfl
  have zs : (w7.setCell ⟨X.nb, 1, none⟩ (.slice (some ⟨g, 0, none⟩) (X.L.length + 1) cap)).heap.size = w7.heap.size := by simp [World.setCell]
  have zV : V.heap.size ≤ w7.heap.size := hg.size
  have hL : (X.L ++ [(⟨f, t, a2, c2, l⟩ : Lt)]).length = X.L.length + 1 := by simp
  refine ⟨{ X with ra := some ⟨g, 0, none⟩, rc := cap, L := X.L ++ [⟨f, t, a2, c2, l⟩] }, ⟨⟨?_, ?_, ?_, ?_, ?_, ?_, by rw [zs]; exact Nat.le_trans h.bB zV⟩, ?_, rfl, rfl⟩, by simp [Lt.told]⟩
  · rw [hrow]
    show some (Obj.cells _ 74) = some (Obj.cells (ntC _ _ (X.L ++ [(⟨f, t, a2, c2, l⟩ : Lt)]).length _ _ _ _ _ _) 74)
    rw [hL]
    rfl
  · rw [ks _ (fun e => by have h1 := h.cuts; have h2 := h.row; rw [show X.mc = X.nb from e, h2] at h1; cases h1), kp _ (h.all_lt (.inr (.inl rfl))) h.nr.2]
    exact h.cuts
  · show World.ownsRow _ X.B 76 3 (.slice (some ⟨g, 0, none⟩) (X.L ++ [(⟨f, t, a2, c2, l⟩ : Lt)]).length cap) (X.L ++ [(⟨f, t, a2, c2, l⟩ : Lt)]).length (ltC (X.L ++ [⟨f, t, a2, c2, l⟩]))
    rw [hL, ltC_append]
    refine own_heap (show w7.ownsRow X.B 76 3 _ _ (ltC X.L ++ ltC [⟨f, t, a2, c2, l⟩]) from ho) fun k hk => ks k fun e => ?_
    obtain rfl : g = k := by simpa [Value.ownBlock] using hk
    exact nN e.symm
  · intro x hx
    rcases List.mem_append.1 hx with hx | hx
    · have hsx := h.bod x hx
      rcases hsx.cells with e | ⟨b, o, e, hc⟩
      · exact ⟨hsx.len, hsx.le, hsx.nil, .inl e⟩
      · obtain ⟨q1, q2, q3⟩ := h.lt x hx b o e
        exact ⟨hsx.len, hsx.le, hsx.nil, .inr ⟨b, o, e, fun j y hj => (Sx.cell_block ((ks b q2).trans (kp b q1 q3)) _).1.trans (hc j y hj)⟩⟩
    · obtain rfl := List.mem_singleton.1 hx
      rcases hs.cells with e | ⟨b, o, e, hc⟩
      · exact ⟨hs.len, hs.le, hs.nil, .inl e⟩
      · obtain ⟨q1, q2, _⟩ := hf b o e
        exact ⟨hs.len, hs.le, hs.nil, .inr ⟨b, o, e, fun j y hj => (Sx.cell_block ((ks b fun e => q2 (.inl e)).trans (kp b q1 fun e => q2 (.inr (.inr (.inl e))))) _).1.trans (hc j y hj)⟩⟩
  · intro x hx k o e
    have key : k < V.heap.size ∧ k ≠ X.nb ∧ ¬ X.rb k := by
      rcases List.mem_append.1 hx with hx | hx
      · exact h.lt x hx k o e
      · obtain rfl := List.mem_singleton.1 hx
        obtain ⟨q1, q2, _⟩ := hf k o e
        exact ⟨q1, fun e => q2 (.inl e), fun e => q2 (.inr (.inr (.inl e)))⟩
    refine ⟨by rw [zs]; omega, key.2.1, fun q => ?_⟩
    obtain ⟨o', q⟩ := q
    have q : (some ⟨g, 0, none⟩ : Option Addr) = some ⟨k, o', none⟩ := q
    injection q with q
    injection q with q1
    exact nG k key.1 key.2.2 q1.symm
  · refine ⟨fun q => ?_, fun q => ?_⟩
    · obtain ⟨o', q⟩ := q
      have q : (some ⟨g, 0, none⟩ : Option Addr) = some ⟨X.nb, o', none⟩ := q
      injection q with q
      injection q with q1
      exact nN q1.symm
    · obtain ⟨o', q⟩ := q
      have q : (some ⟨g, 0, none⟩ : Option Addr) = some ⟨X.mc, o', none⟩ := q
      injection q with q
      injection q with q1
      exact nG X.mc (h.all_lt (.inr (.inl rfl))) h.nr.2 q1.symm
  · have zb := hb0.size
    refine ⟨bl.os.trans hb0.os, bl.tape.trans hb0.tape, bl.output.trans hb0.output, by rw [zs]; omega, fun i hi hn => ⟨(ks i fun e => hn (.inl e)).trans ((kp i (by omega) fun e => hn (.inr (.inr (.inl e)))).trans (hb0.block i hi)), fun q => ?_⟩⟩
    rcases q with q | q | ⟨o, q⟩ | ⟨x, hx, o, q⟩
    · exact hn (.inl q)
    · exact hn (.inr (.inl q))
    · have q : (some ⟨g, 0, none⟩ : Option Addr) = some ⟨i, o, none⟩ := q
      injection q with q
      injection q with q1
      subst q1
      rcases hgo with e | e
      · exact hn (.inr (.inr (.inl e)))
      · omega
    · rcases List.mem_append.1 hx with hx | hx
      · exact hn (.inr (.inr (.inr ⟨x, hx, o, q⟩)))
      · obtain rfl := List.mem_singleton.1 hx
        have := (hf i o q).2.2
        omega
theorem lay_row {V w7 : World} {X : Nt} (h : NetAt V X) (hg : V.grownBy w7 (Value.slice X.ra X.L.length X.rc).ownBlock) : w7.heap[X.nb]? = some (.cells X.cells 74) := (hg.block _ (h.all_lt (.inl rfl)) fun e => h.nr.1 ((rb_own h).1 e.symm)).trans h.row
theorem lay_any {w : World} {X : Nt} (h : NetAt w X) (hl : ((X.L.length : Int) ≥ 1000) = False) {f t : Int} {ao : Option Addr} {n c : Nat} {l : List Nat} (hs : Sl w ao n c (bts l)) (hn : n < 1000000) :
    Calls Tryz.prog 41 #[.pointer (some ⟨X.nb, 0, none⟩), .agg #[.int .i64 f, .int .i64 t, .slice ao n c]] w fun e w' => e = .returned (.bool true) ∧ ∃ X', NetTo w X w' X' ∧ X'.L.map Lt.told = X.L.map Lt.told ++ [(f, t, l)] := by
  obtain rfl : n = l.length := by have := hs.len; rw [bts_length] at this; exact this.symm
  have hl2 : X.L.length < 1000 := by have := of_eq_false hl; omega
  have H := Lib.hid h
  have HS := Lib.hid hs
  have l0 := Lib.hid (h.all_lt (.inl rfl))
  clear h hs
  go_enter Tryz.func41, Tryz.ntmps41
  go_upto_region 1 with (fail)
  have bx := Bx.new w (#[.int .i64 f, .int .i64 t, .slice ao l.length c]) 76; generalize w.alloc (.cells (#[.int .i64 f, .int .i64 t, .slice ao l.length c]) 76) = W at bx ⊢; have rx := bx.rowOf; have sx := bx.soft; have BX := Lib.hid bx; clear bx
  have rn := rowOf_of ((BX.out.below.block _ l0.out).trans H.out.row)
  rw [nt_cells] at rn
  have C := Lib.hid (Clone_any (HS.out.keep (Nat.le_refl _) BX.out.below) (by omega))
  go_wp2_with fail
  refine C.out.mono ?_
  rintro _ V ⟨a2, c2, rfl, hb, own2⟩
  have bx := BX.out.step hb
  have O2 := Lib.hid own2
  have LW := Lib.hid (show w.heap.size < W.heap.size from (Array.getElem?_eq_some_iff.1 BX.out.row).1)
  have HBW := Lib.hid hb
  clear BX rx sx rn C hb own2
  have rx := bx.rowOf
  have sx := bx.soft
  have BX := Lib.hid bx
  clear bx
  go_upto_region 4 with (fail)
  have bx := BX.out.set1' 2 (.slice a2 l.length c2)
  rw [show (#[.int .i64 f, .int .i64 t, .slice ao l.length c] : Array Value).setIfInBounds 2 (.slice a2 l.length c2) = #[.int .i64 f, .int .i64 t, .slice a2 l.length c2] from rfl] at bx
  have O3 := Lib.hid (own_heap (w' := V.setCell ⟨w.heap.size, 2, none⟩ (.slice a2 l.length c2)) O2.out fun k hk => by rw [heap_setCell_at, if_neg (fun e => by have e : w.heap.size = k := e; have := own_block O2.out k hk; have := LW.out; omega)])
  generalize V.setCell ⟨w.heap.size, 2, none⟩ (.slice a2 l.length c2) = V2 at bx O3 ⊢
  clear BX rx sx O2
  have rx := bx.rowOf
  have rn := rowOf_of ((bx.below.block _ l0.out).trans H.out.row)
  have sn := soft_of ((bx.below.block _ l0.out).trans H.out.row)
  rw [nt_cells] at rn
  have RB : ∀ w', Below V2.heap.size V2 w' → rowOf w' X.nb = #[.int .i64 X.nodes, .slice X.ra X.L.length X.rc, .map (some X.mc), .int .i64 X.n1, .int .i64 X.n2, .int .i64 X.n3, .int .i64 X.n4] ∧ rowOf w' w.heap.size = #[.int .i64 f, .int .i64 t, .slice a2 l.length c2] := fun w' hb =>
    ⟨rowOf_of ((hb.block _ (Nat.lt_of_lt_of_le l0.out bx.below.size)).trans ((bx.below.block _ l0.out).trans H.out.row)), rowOf_of ((hb.block _ (Array.getElem?_eq_some_iff.1 bx.row).1).trans bx.row)⟩
  have RB := Lib.hid RB
  have BX := Lib.hid bx
  have nn : ¬ X.nb = V2.heap.size := Nat.ne_of_lt (Nat.lt_of_lt_of_le l0.out bx.below.size)
  have nw : ¬ w.heap.size = V2.heap.size := Nat.ne_of_lt (Array.getElem?_eq_some_iff.1 bx.row).1
  have AL := Lib.hid (((Below.refl V2.heap.size V2).alloc (Nat.le_refl _) (.cells #[.int .i64 f, .int .i64 t, .slice a2 l.length c2] 76)).drew)
  have HV := Lib.hid (BX.out.below.trans (AL.out.mono BX.out.below.size))
  have O4 := Lib.hid (H.out.below HV.out).own
  have SA := Lib.hid (Sl.keep (Sl.own O3.out) (Nat.le_refl _) AL.out)
  have FA := Lib.hid (show ∀ k o, a2 = some ⟨k, o, none⟩ → k < ((V2.alloc (.cells #[.int .i64 f, .int .i64 t, .slice a2 l.length c2] 76)).drew).heap.size ∧ w.heap.size ≤ k from fun k o e => by
    have ho := O3.out
    rw [e] at ho
    have h1 := own_addr ho
    have h2 := AL.out.size
    have h3 := LW.out
    exact ⟨by omega, by omega⟩)
  clear bx
  go_region_law (first
      | (refine step_app_at elemL rfl _ _ rfl (B := X.B) (n := X.L.length) (xs := ltC X.L) rfl O4.out rfl (m := 1) (news := [.int .i64 f, .int .i64 t, .slice a2 l.length c2]) rfl (fun y z hz => (by have := World.news_of_block (heap_alloc_new V2 (.cells #[.int .i64 f, .int .i64 t, .slice a2 l.length c2] 76)) y z hz; exact this)) (fun u hu => (by simp only [List.mem_cons, List.not_mem_nil, or_false] at hu; rcases hu with rfl | rfl | rfl <;> rfl)) (by decide) (by omega) (H.out.below HV.out).bB ?_; intro g7 cap7 w7 hown7 hgr7 hat7 hlt7; have k1 : rowOf w7 X.nb = #[.int .i64 X.nodes, .slice X.ra X.L.length X.rc, .map (some X.mc), .int .i64 X.n1, .int .i64 X.n2, .int .i64 X.n3, .int .i64 X.n4] := rowOf_of (lay_row (H.out.below HV.out) hgr7); have k2 : soft w7 X.nb = true := soft_of (lay_row (H.out.below HV.out) hgr7); have RES := Lib.hid (lay_fin H.out HV.out SA.out FA.out hown7 hgr7 hat7 hlt7); clear hown7 hgr7 hat7 hlt7))
  all_goals clear RB rx rn sn nn nw O3 O4 SA FA AL k1 k2
  all_goals go_wp2
  all_goals go_ret
  all_goals exact ⟨rfl, RES.out⟩
end Go.Proofs.YtjkfondgacjpnaaGreatDoor

namespace Go.Proofs.YtjkfondgacjpnaaGreatDoor
open Go.RowKit
set_option maxRecDepth 100000
attribute [local go_sem ↓] rowOf_cell
attribute [local go_sem] rowOf_alloc soft_alloc rowOf_drew soft_drew rowOf_setRow soft_setRow rowOf_setCell soft_setCell frozen_of_soft Ext.row Ext.soft_
theorem NetAt.cnt {w : World} {X : Nt} (h : NetAt w X) {k : Nat} {v : Value} {a b c d : Int} (hc : ({ X with n1 := a, n2 := b, n3 := c, n4 := d } : Nt).cells = X.cells.setIfInBounds k v) : NetTo w X (w.setCell ⟨X.nb, k, none⟩ v) { X with n1 := a, n2 := b, n3 := c, n4 := d } := by
  have ks : ∀ i, i ≠ X.nb → (w.setCell ⟨X.nb, k, none⟩ v).heap[i]? = w.heap[i]? := fun i hi => by
    rw [heap_setCell_at, if_neg (fun e => hi e.symm)]
  have zs : (w.setCell ⟨X.nb, k, none⟩ v).heap.size = w.heap.size := by simp [World.setCell]
  have mn : X.mc ≠ X.nb := fun e => by have h1 := h.cuts; have h2 := h.row; rw [e, h2] at h1; cases h1
  refine ⟨⟨?_, (ks _ mn).trans h.cuts, own_heap h.own fun i hi => ks i fun e => h.nr.1 (e ▸ (rb_own h).1 hi), fun x hx => ?_, fun x hx i o e => ⟨by rw [zs]; exact (h.lt x hx i o e).1, (h.lt x hx i o e).2⟩, h.nr, by rw [zs]; exact h.bB⟩, ⟨rfl, rfl, rfl, by rw [zs]; exact Nat.le_refl _, fun i hi hn => ⟨ks i fun e => hn (.inl e), hn⟩⟩, rfl, rfl⟩
  · rw [heap_setCell_at, if_pos rfl, h.row, hc]
    rfl
  · have hs := h.bod x hx
    rcases hs.cells with e | ⟨i, o, e, hcc⟩
    · exact ⟨hs.len, hs.le, hs.nil, .inl e⟩
    · exact ⟨hs.len, hs.le, hs.nil, .inr ⟨i, o, e, fun j y hj => (Sx.cell_block (ks i (h.lt x hx i o e).2.1) _).1.trans (hcc j y hj)⟩⟩
theorem NetTo.trans {w w1 w2 : World} {X X1 X2 : Nt} (h : NetTo w X w1 X1) (k : NetTo w1 X1 w2 X2) : NetTo w X w2 X2 := ⟨k.at', h.comp.trans k.comp, k.nb.trans h.nb, k.nodes.trans h.nodes⟩
theorem NetTo.below {w w1 : World} {X : Nt} (h : NetAt w X) (hb : Below w.heap.size w w1) : NetTo w X w1 X := ⟨h.below hb, Comp.below hb, rfl, rfl⟩
def Nt.says (X : Nt) : List (Int × Int × List Nat) := X.L.map Lt.told
set_option maxHeartbeats 4000000 in
theorem Send_any {w : World} {X : Nt} (h : NetAt w X) (hl : ((X.L.length : Int) ≥ 1000) = False) {a b : Int} (a1 : (a ≥ 1) = True) (a2 : (a ≤ X.nodes) = True) (b1 : (b ≥ 1) = True) (b2 : (b ≤ X.nodes) = True) (hab : (a != b) = true) {ao : Option Addr} {n c : Nat} {l : List Nat} (hs : Sl w ao n c (bts l)) (hn : ((n : Int) ≤ 400) = True) :
    Calls Tryz.prog 50 #[.pointer (some ⟨X.nb, 0, none⟩), .int .i64 a, .int .i64 b, .slice ao n c] w fun e w' => e = .returned (.bool true) ∧ ∃ X', NetTo w X w' X' ∧ X'.says = X.says ++ [(a, b, l)] := by
  have H := Lib.hid h
  have HS := Lib.hid hs
  have BT := Lib.hid (between_ok h a1 a2 b1 b2 hab)
  clear h hs a1 a2 b1 b2 hab
  go_enter Tryz.func50, Tryz.ntmps50
  go_wp2_with fail
  refine BT.out.mono ?_
  rintro _ V ⟨x, y, rfl, hb⟩
  have HB := Lib.hid hb
  clear BT hb
  go_upto_region 2 with (fail)
  have B2 := Lib.hid (HB.out.trans ((below1 V (.cells #[.int .i64 x, .int .i64 y] 124)).mono HB.out.size))
  generalize V.alloc (.cells #[.int .i64 x, .int .i64 y] 124) = V2 at B2 ⊢
  have B3 := Lib.hid (B2.out.trans ((Below.refl V2.heap.size V2).drew.mono B2.out.size))
  have L := Lib.hid (lay_any (w := V2.drew) (f := a) (t := b) (H.out.below B3.out) hl (HS.out.keep (Nat.le_refl _) B3.out) (by have := of_eq_true hn; omega))
  clear HB
  go_region_held3 (fun _ => True) (trivial) (first
    | (go_at_call 41; refine L.out.mono ?_; rintro _ V3 ⟨rfl, X1, N1, S1⟩; have r1 := rowOf_of N1.at'.row; have s1 := soft_of N1.at'.row; rw [N1.nb] at r1 s1; have O1 := Lib.hid (one_yes (k := 3) (x := X1.n1) r1 s1 rfl); have NN := Lib.hid N1; have SS := Lib.hid S1; clear r1 s1 N1 S1 L)
    | (go_at_call 40; refine O1.out.mono ?_; rintro _ V4 ⟨rfl, rfl⟩))
  have C := NN.out.at'.cnt (k := 3) (v := .int .i64 (wrap64 (X1.n1 + 1))) (a := wrap64 (X1.n1 + 1)) (b := X1.n2) (c := X1.n3) (d := X1.n4) rfl
  have FIN := Lib.hid ((NetTo.below H.out B3.out).trans (NN.out.trans C))
  have e := NN.out.nb
  rw [← e]
  clear O1 C e
  go_wp2
  go_ret
  exact ⟨rfl, _, FIN.out, SS.out⟩
end Go.Proofs.YtjkfondgacjpnaaGreatDoor
