/- What is proved: parts of the walk and of the plain law, 5 texts in one. No condition but those each law names. -/
import Derived.Test.YtjkfondgacjpnaaGreatDoorK38
namespace Go.Proofs.YtjkfondgacjpnaaGreatDoor
open Go.RowKit
set_option maxRecDepth 100000
attribute [local go_sem ↓] rowOf_cell
attribute [local go_sem] rowOf_alloc soft_alloc rowOf_drew soft_drew rowOf_setRow soft_setRow rowOf_setCell soft_setCell frozen_of_soft Ext.row Ext.soft_ sub_lit3
theorem NetAt.at {w : World} {X : Nt} (h : NetAt w X) {k : Nat} {x : Lt} (hk : X.L[k]? = some x) : ∃ g cur, X.ra = some ⟨g, 0, none⟩ ∧ w.heap[g]? = some (.cells cur 76) ∧ k * 3 + 3 ≤ cur.size ∧ sub cur (k * 3) 3 = #[.int .i64 x.f, .int .i64 x.t, .slice x.a x.l.length x.c] ∧ X.L.length ≤ X.rc := by
  obtain ⟨hl, hx⟩ := List.getElem?_eq_some_iff.1 hk
  rcases h.own.2 with ⟨hv, h0⟩ | ⟨g, cp, cur, hv, _, hh, hn, _, hs, ht⟩
  · have : X.L.length = 0 := by
      have := h0
      simpa using this
    omega
  · injection hv with e1 e2 e3
    subst e3
    refine ⟨g, cur, e1, hh, by rw [hs]; omega, ?_, hn⟩
    have ht : cur.toList.take (X.L.length * 3) = ltC X.L := by simpa using ht
    have e : X.L = X.L.take k ++ (x :: X.L.drop (k + 1)) := by rw [← hx, List.getElem_cons_drop, List.take_append_drop]
    have hc : cur.toList = ltC (X.L.take k) ++ (x.cells ++ (ltC (X.L.drop (k + 1)) ++ cur.toList.drop (X.L.length * 3))) := by
      have e2 : ltC X.L = ltC (X.L.take k) ++ (x.cells ++ ltC (X.L.drop (k + 1))) := by
        conv => lhs; rw [e, ltC_append]
        rfl
      have e3 : cur.toList = ltC X.L ++ cur.toList.drop (X.L.length * 3) := by
        conv => lhs; rw [← List.take_append_drop (X.L.length * 3) cur.toList, ht]
      rw [e2, List.append_assoc, List.append_assoc] at e3
      exact e3
    exact sub_at (ltC (X.L.take k)) x.cells _ (by rw [ltC_len, List.length_take_of_le (by omega)]) rfl hc
theorem trip3 {W : World} {b : Nat} {C : Array Value} (h : rowOf W b = C) (hC : C.size = 3) (v0 v1 v2 : Value) : ((W.setCell ⟨b, 0, none⟩ v0).setCell ⟨b, 1, none⟩ v1).setCell ⟨b, 2, none⟩ v2 = W.setRow b #[v0, v1, v2] := by
  have e : rowOf (((W.setCell ⟨b, 0, none⟩ v0).setCell ⟨b, 1, none⟩ v1).setCell ⟨b, 2, none⟩ v2) b = #[v0, v1, v2] := by
    rw [rowOf_setCell, if_pos rfl, rowOf_setCell, if_pos rfl, rowOf_setCell, if_pos rfl, h]
    apply Array.ext (by simp [hC])
    intro i h1 h2
    have hi : i < 3 := by simpa using h2
    match i, hi with
    | 0, _ => simp [Array.getElem_setIfInBounds, hC]
    | 1, _ => simp [Array.getElem_setIfInBounds, hC]
    | 2, _ => simp [Array.getElem_setIfInBounds, hC]
  rw [← setRow_self (((W.setCell ⟨b, 0, none⟩ v0).setCell ⟨b, 1, none⟩ v1).setCell ⟨b, 2, none⟩ v2) b, e, setRow_after, setRow_after, setRow_after]
set_option maxHeartbeats 1000000 in
theorem Look_no {w : World} {X : Nt} (h : NetAt w X) {k : Int} (k0 : (k < 0) = False) (k1 : (k ≥ (X.L.length : Int)) = True) : Calls Tryz.prog 39 #[.pointer (some ⟨X.nb, 0, none⟩), .int .i64 k] w fun e w' => e = .returned (.tuple #[.agg #[.int .i64 0, .int .i64 0, .slice none 0 0], .bool false]) ∧ Below w.heap.size w w' := by
  have H := Lib.hid h
  clear h
  go_enter Tryz.func39, Tryz.ntmps39
  go_upto_region 1 with (fail)
  have bx := Bx.new w (#[.int .i64 0, .int .i64 0, .slice none 0 0]) 76; generalize w.alloc (.cells (#[.int .i64 0, .int .i64 0, .slice none 0 0]) 76) = W at bx ⊢; have rx := bx.rowOf; have sx := bx.soft; have BX := Lib.hid bx; clear bx
  have rn := rowOf_of (H.out.below BX.out.below).row
  rw [nt_cells] at rn
  have B := Below.setRow_ BX.out.below (Nat.le_refl w.heap.size) #[.int .i64 0, .int .i64 0, .slice none 0 0]
  have hc : rowOf (W.setRow w.heap.size #[.int .i64 0, .int .i64 0, .slice none 0 0]) w.heap.size = #[.int .i64 0, .int .i64 0, .slice none 0 0] := (rowOf_setRow _ _ _ _ sx).trans (if_pos rfl)
  go_wp2
  rw [trip3 rx rfl]
  refine bodyPost_ret (results_row1 (t := 76) rfl Tryz.underlying76 rfl (by kernel_rfl) _ _ w.heap.size rfl hc rfl) rfl ?_
  exact ⟨rfl, B⟩
set_option maxHeartbeats 1000000 in
theorem Look_ok {w : World} {X : Nt} (h : NetAt w X) {k : Nat} {x : Lt} (hk : X.L[k]? = some x) (hn : x.l.length < 1000000) : Calls Tryz.prog 39 #[.pointer (some ⟨X.nb, 0, none⟩), .int .i64 k] w fun e w' => ∃ a c, e = .returned (.tuple #[.agg #[.int .i64 x.f, .int .i64 x.t, .slice a x.l.length c], .bool true]) ∧ Below w.heap.size w w' ∧ Sl w' a x.l.length c (bts x.l) ∧ ∀ i o, a = some ⟨i, o, none⟩ → w.heap.size ≤ i ∧ i < w'.heap.size := by
  obtain ⟨hl, hx⟩ := List.getElem?_eq_some_iff.1 hk
  have H := Lib.hid h
  have i0 : (k : Int) < X.L.length := by omega
  have HX := Lib.hid (h.bod x (List.mem_of_getElem? hk))
  obtain ⟨g, cur, hra, hg, hz, hsub, hrc⟩ := h.at hk
  have HG := Lib.hid hg
  have HN := Lib.hid hn
  clear h hk hl hx hg hn
  go_enter Tryz.func39, Tryz.ntmps39
  go_upto_region 1 with (fail)
  have bx := Bx.new w (#[.int .i64 0, .int .i64 0, .slice none 0 0]) 76; generalize w.alloc (.cells (#[.int .i64 0, .int .i64 0, .slice none 0 0]) 76) = W at bx ⊢; have rx := bx.rowOf; have sx := bx.soft; have BX := Lib.hid bx; clear bx
  have rn := rowOf_of (H.out.below BX.out.below).row
  rw [nt_cells, hra] at rn
  have rg := rowOf_of ((BX.out.below.block _ (Array.getElem?_eq_some_iff.1 HG.out).1).trans HG.out)
  go_upto_region 4 with (fail)
  have LW := Lib.hid (Array.getElem?_eq_some_iff.1 BX.out.row).1
  have L := Bx.new W #[.int .i64 x.f, .int .i64 x.t, .slice x.a x.l.length x.c] 76
  generalize W.alloc (.cells #[.int .i64 x.f, .int .i64 x.t, .slice x.a x.l.length x.c] 76) = V at L ⊢
  have bx := BX.out.step L.below
  have C := Lib.hid (Clone_any (HX.out.keep (Nat.le_refl _) bx.below) (by have := HN.out; omega))
  have rl := L.rowOf
  have BL := Lib.hid (And.intro bx L)
  clear BX rx sx rn rg bx L
  go_wp2_with fail
  refine C.out.mono ?_
  rintro _ V2 ⟨a2, c2, rfl, hb, own2⟩
  have bx := BL.out.1.step hb
  have bl := BL.out.2.step hb
  have SL := Lib.hid (Sl.own own2)
  have OW := Lib.hid own2
  have LV := Lib.hid hb.size
  have LB := Lib.hid (Array.getElem?_eq_some_iff.1 BL.out.2.row).1
  clear BL C rl hb own2
  have rl := bl.rowOf
  have sl := bl.soft
  have rx := bx.rowOf
  have sx := bx.soft
  have BL := Lib.hid (And.intro bx bl)
  clear bx bl
  go_upto_region 5 with (fail)
  have bl := BL.out.2.set1' 2 (.slice a2 x.l.length c2)
  rw [show (#[.int .i64 x.f, .int .i64 x.t, .slice x.a x.l.length x.c] : Array Value).setIfInBounds 2 (.slice a2 x.l.length c2) = #[.int .i64 x.f, .int .i64 x.t, .slice a2 x.l.length c2] from rfl] at bl
  have kp : ∀ i, i ≠ W.heap.size → (V2.setCell ⟨W.heap.size, 2, none⟩ (.slice a2 x.l.length c2)).heap[i]? = V2.heap[i]? := fun i hi => by rw [heap_setCell_at, if_neg (fun e => hi e.symm)]
  have O5 := own_heap (w' := V2.setCell ⟨W.heap.size, 2, none⟩ (.slice a2 x.l.length c2)) OW.out fun i hi => kp i fun e => by have := own_block OW.out i hi; have := LB.out; omega
  have q0 := (kp w.heap.size (Nat.ne_of_lt LW.out)).trans BL.out.1.row
  have B5 : Below w.heap.size w (V2.setCell ⟨W.heap.size, 2, none⟩ (.slice a2 x.l.length c2)) := BL.out.1.below.setCell (Nat.le_of_lt LW.out) _
  generalize V2.setCell ⟨W.heap.size, 2, none⟩ (.slice a2 x.l.length c2) = V3 at bl O5 q0 B5 ⊢
  clear kp rl sl rx sx BL
  have rl := bl.rowOf
  have rx := rowOf_of q0
  have sx := soft_of q0
  have B6 := Below.setRow_ B5 (Nat.le_refl w.heap.size) #[.int .i64 x.f, .int .i64 x.t, .slice a2 x.l.length c2]
  have hc : rowOf (V3.setRow w.heap.size #[.int .i64 x.f, .int .i64 x.t, .slice a2 x.l.length c2]) w.heap.size = #[.int .i64 x.f, .int .i64 x.t, .slice a2 x.l.length c2] := (rowOf_setRow _ _ _ _ sx).trans (if_pos rfl)
  have O6 := (own_setRow (b := w.heap.size) O5 (by have := LB.out; have := LW.out; omega) #[.int .i64 x.f, .int .i64 x.t, .slice a2 x.l.length c2])
  have S6 := Sl.own O6
  have z6 : (V3.setRow w.heap.size #[.int .i64 x.f, .int .i64 x.t, .slice a2 x.l.length c2]).heap.size = V3.heap.size := by simp [World.setRow]
  have F6 : ∀ i o, a2 = some ⟨i, o, none⟩ → w.heap.size ≤ i ∧ i < (V3.setRow w.heap.size #[.int .i64 x.f, .int .i64 x.t, .slice a2 x.l.length c2]).heap.size := fun i o e => by
    rw [z6]
    rw [e] at O5
    have h1 := own_addr O5
    have h2 := LB.out
    have h3 := LW.out
    exact ⟨by omega, h1.2⟩
  clear O5 O6 bl
  go_wp2
  rw [trip3 rx rfl]
  refine bodyPost_ret (results_row1 (t := 76) rfl Tryz.underlying76 rfl (by kernel_rfl) _ _ w.heap.size rfl hc rfl) rfl ?_
  exact ⟨a2, c2, rfl, B6, S6, F6⟩
end Go.Proofs.YtjkfondgacjpnaaGreatDoor

namespace Go.Proofs.YtjkfondgacjpnaaGreatDoor
open Go.RowKit
set_option maxRecDepth 100000
attribute [local go_sem ↓] rowOf_cell
attribute [local go_sem] rowOf_alloc soft_alloc rowOf_drew soft_drew rowOf_setRow soft_setRow rowOf_setCell soft_setCell frozen_of_soft Ext.row Ext.soft_ sub_lit3
theorem NetTo.other {w w1 : World} {X X1 : Nt} (h : NetTo w X w1 X1) {i : Nat} (hi : i < w.heap.size) (hn : ¬ X.all i) : w1.heap[i]? = w.heap[i]? := (h.comp.keep i hi hn).1
set_option maxHeartbeats 4000000 in
theorem Double_ok {w : World} {X : Nt} (h : NetAt w X) (hl : ((X.L.length : Int) ≥ 1000) = False) {k : Nat} {x : Lt} (hk : X.L[k]? = some x) (hn : x.l.length < 1000000) : Calls Tryz.prog 23 #[.pointer (some ⟨X.nb, 0, none⟩), .int .i64 k] w fun e w' => e = .returned (.bool true) ∧ ∃ X', NetTo w X w' X' ∧ X'.says = X.says ++ [(x.f, x.t, x.l)] := by
  have H := Lib.hid h
  have LK := Lib.hid (Look_ok h hk hn)
  have HN := Lib.hid hn
  clear h hk hn
  go_enter Tryz.func23, Tryz.ntmps23
  go_wp2_with fail
  refine LK.out.mono ?_
  rintro _ V ⟨a2, c2, rfl, hb, sl, _⟩
  have HB := Lib.hid hb
  have SL := Lib.hid sl
  clear LK hb sl
  go_upto_region 2 with (fail)
  have L := Bx.new V #[.int .i64 x.f, .int .i64 x.t, .slice a2 x.l.length c2] 76
  generalize V.alloc (.cells #[.int .i64 x.f, .int .i64 x.t, .slice a2 x.l.length c2] 76) = V2 at L ⊢
  have B3 := Lib.hid (HB.out.trans ((L.below.trans ((Below.refl V2.heap.size V2).drew.mono L.below.size)).mono HB.out.size))
  have q0 : V2.drew.heap[V.heap.size]? = some (.cells #[.int .i64 x.f, .int .i64 x.t, .slice a2 x.l.length c2] 76) := L.row
  have Q0 := Lib.hid q0
  have NA := Lib.hid (show ¬ X.all V.heap.size from fun q => by have := H.out.all_lt q; have := HB.out.size; omega)
  have LL := Lib.hid (lay_any (w := V2.drew) (f := x.f) (t := x.t) (H.out.below B3.out) hl (SL.out.keep (Nat.le_refl _) (L.below.trans ((Below.refl V2.heap.size V2).drew.mono L.below.size))) HN.out)
  have r0 := rowOf_of q0
  clear L q0
  go_region_held3 (fun w' => rowOf w' V.heap.size = #[.int .i64 x.f, .int .i64 x.t, .slice a2 x.l.length c2]) (first | exact r0 | exact r1 | exact r2)
   (first
    | (go_at_call 41; refine LL.out.mono ?_; rintro _ V3 ⟨rfl, X1, N1, S1⟩; have h1 := (N1.other (Array.getElem?_eq_some_iff.1 Q0.out).1 NA.out).trans Q0.out; have r1 := rowOf_of h1; have rn := rowOf_of N1.at'.row; have sn := soft_of N1.at'.row; rw [N1.nb] at rn sn; have O1 := Lib.hid (one_yes (k := 4) (x := X1.n2) rn sn rfl); have r2 : rowOf (V3.setCell ⟨X.nb, 4, none⟩ (.int .i64 (wrap64 (X1.n2 + 1)))) V.heap.size = #[.int .i64 x.f, .int .i64 x.t, .slice a2 x.l.length c2] := (by rw [rowOf_setCell, if_neg (fun e => NA.out (.inl e))]; exact r1); have NN := Lib.hid N1; have SS := Lib.hid S1; clear rn sn N1 S1 LL h1)
    | (go_at_call 40; refine O1.out.mono ?_; rintro _ V4 ⟨rfl, rfl⟩))
  have C := NN.out.at'.cnt (k := 4) (v := .int .i64 (wrap64 (X1.n2 + 1))) (a := X1.n1) (b := wrap64 (X1.n2 + 1)) (c := X1.n3) (d := X1.n4) rfl
  have FIN := Lib.hid ((NetTo.below H.out B3.out).trans (NN.out.trans C))
  have e := NN.out.nb
  clear r0 r1 r2 O1
  rw [← e]
  clear C e
  go_wp2
  go_ret
  exact ⟨rfl, _, FIN.out, SS.out⟩
end Go.Proofs.YtjkfondgacjpnaaGreatDoor

namespace Go.Proofs.YtjkfondgacjpnaaGreatDoor
open Go.RowKit
set_option maxRecDepth 100000
attribute [local go_sem ↓] rowOf_cell
attribute [local go_sem] rowOf_alloc soft_alloc rowOf_drew soft_drew rowOf_setRow soft_setRow rowOf_setCell soft_setCell frozen_of_soft Ext.row Ext.soft_ sub_lit3
theorem del_fin {w : World} {X : Nt} (h : NetAt w X) {k g : Nat} (hk : k < X.L.length) (hra : X.ra = some ⟨g, 0, none⟩) {C : Array Value} (ho : (w.drew.setRow g C).ownsRow X.B 76 3 (.slice (some ⟨g, 0, none⟩) (X.L.length - 1) X.rc) (X.L.length - 1) (ltC (X.L.eraseIdx k))) :
    ∃ X', NetTo w X ((w.drew.setRow g C).setCell ⟨X.nb, 1, none⟩ (.slice (some ⟨g, 0, none⟩) (X.L.length - 1) X.rc)) X' ∧ X'.says = X.says.eraseIdx k := by
  have gr : X.rb g := ⟨0, hra⟩
  have nN : X.nb ≠ g := fun e => h.nr.1 (e ▸ gr)
  have nM : X.mc ≠ g := fun e => h.nr.2 (e ▸ gr)
  have mn : X.mc ≠ X.nb := fun e => by have h1 := h.cuts; have h2 := h.row; rw [e, h2] at h1; cases h1
  have kp : ∀ i, i ≠ g → i ≠ X.nb → ((w.drew.setRow g C).setCell ⟨X.nb, 1, none⟩ (.slice (some ⟨g, 0, none⟩) (X.L.length - 1) X.rc)).heap[i]? = w.heap[i]? := fun i h1 h2 => by
    rw [heap_setCell_at, if_neg (fun e => h2 e.symm), setRow_other _ _ _ _ h1]
    rfl
  have zs : ((w.drew.setRow g C).setCell ⟨X.nb, 1, none⟩ (.slice (some ⟨g, 0, none⟩) (X.L.length - 1) X.rc)).heap.size = w.heap.size := by
    have e1 : ((w.drew.setRow g C).setCell ⟨X.nb, 1, none⟩ (.slice (some ⟨g, 0, none⟩) (X.L.length - 1) X.rc)).heap.size = (w.drew.setRow g C).heap.size := by simp [World.setCell]
    have e2 : (w.drew.setRow g C).heap.size = w.drew.heap.size := by simp [World.setRow]
    rw [e1, e2]
    rfl
  have hle : (X.L.eraseIdx k).length = X.L.length - 1 := List.length_eraseIdx_of_lt hk
  have sub : ∀ x ∈ X.L.eraseIdx k, x ∈ X.L := fun x hx => List.mem_of_mem_eraseIdx hx
  refine ⟨{ X with L := X.L.eraseIdx k }, ⟨⟨?_, (kp _ nM mn).trans h.cuts, ?_, fun x hx => ?_, fun x hx i o e => ⟨by rw [zs]; exact (h.lt x (sub x hx) i o e).1, (h.lt x (sub x hx) i o e).2⟩, h.nr, by rw [zs]; exact h.bB⟩, ⟨rfl, rfl, rfl, by rw [zs]; exact Nat.le_refl _, fun i hi hn => ⟨kp i (fun e => hn (.inr (.inr (.inl (e ▸ gr))))) (fun e => hn (.inl e)), fun q => hn ?_⟩⟩, rfl, rfl⟩, ?_⟩
  · rw [heap_setCell_at, if_pos rfl, setRow_other _ _ _ _ nN, show w.drew.heap[X.nb]? = some (.cells X.cells 74) from h.row]
    show some (Obj.cells (X.cells.setIfInBounds 1 _) 74) = some (Obj.cells (ntC _ X.ra (X.L.eraseIdx k).length _ _ _ _ _ _) 74)
    rw [hle, hra]
    rfl
  · show World.ownsRow _ X.B 76 3 (.slice X.ra (X.L.eraseIdx k).length X.rc) (X.L.eraseIdx k).length (ltC (X.L.eraseIdx k))
    rw [hle, hra]
    refine own_heap ho fun i hi => ?_
    obtain rfl : g = i := by simpa [Value.ownBlock] using hi
    rw [heap_setCell_at, if_neg nN]
  · have hs := h.bod x (sub x hx)
    rcases hs.cells with e | ⟨i, o, e, hcc⟩
    · exact ⟨hs.len, hs.le, hs.nil, .inl e⟩
    · obtain ⟨q1, q2, q3⟩ := h.lt x (sub x hx) i o e
      exact ⟨hs.len, hs.le, hs.nil, .inr ⟨i, o, e, fun j y hj => (Sx.cell_block (kp i (fun e => q3 (e ▸ gr)) q2) _).1.trans (hcc j y hj)⟩⟩
  · rcases q with q | q | q | ⟨x, hx, o, q⟩
    · exact .inl q
    · exact .inr (.inl q)
    · exact .inr (.inr (.inl q))
    · exact .inr (.inr (.inr ⟨x, sub x hx, o, q⟩))
  · show (X.L.eraseIdx k).map Lt.told = (X.L.map Lt.told).eraseIdx k
    rw [List.eraseIdx_eq_take_drop_succ, List.eraseIdx_eq_take_drop_succ, List.map_append, List.map_take, List.map_drop]
theorem look_cut {w : World} {m : Nat} (h : w.heap[m]? = some (.map #[] 0)) (a b : Int) : (Instr.lookup 72 (.map (some m)) (.agg #[.int .i64 a, .int .i64 b]) false).run Tryz.prog w = .ok (.bool false) w := by
  have hget := MapKept.run_getObj_map (P := Tryz.prog) h
  have ck : (Instr.checkKey true 10000 124 (.agg #[.int .i64 a, .int .i64 b])).run Tryz.prog w = .ok () w := by kernel_rfl
  have fk : (Instr.findKey 124 (.agg #[.int .i64 a, .int .i64 b]) []).run Tryz.prog w = .ok none w := by kernel_rfl
  have zv : (zeroValue 4).run Tryz.prog w = .ok (.bool false) w := by kernel_rfl
  simp [Instr.lookup, run_underlying Tryz.underlying72, hget, go_sem, ck, fk, zv]
end Go.Proofs.YtjkfondgacjpnaaGreatDoor

namespace Go.Proofs.YtjkfondgacjpnaaGreatDoor
open Go.RowKit
set_option maxRecDepth 100000
attribute [local go_sem ↓] rowOf_cell
attribute [local go_sem] rowOf_alloc soft_alloc rowOf_drew soft_drew rowOf_setRow soft_setRow rowOf_setCell soft_setCell frozen_of_soft Ext.row Ext.soft_ sub_lit3
theorem sub_lit2 (a b : Value) : sub #[a, b] 0 2 = #[a, b] := by simp [sub]
attribute [local go_sem] sub_lit2
theorem Sl.at_ {w w' : World} {a : Option Addr} {n c : Nat} {l : List Value} (hs : Sl w a n c l) (hk : ∀ i o, a = some ⟨i, o, none⟩ → w'.heap[i]? = w.heap[i]?) : Sl w' a n c l := by
  rcases hs.cells with e | ⟨b, o, e, hc⟩
  · exact ⟨hs.len, hs.le, hs.nil, .inl e⟩
  · exact ⟨hs.len, hs.le, hs.nil, .inr ⟨b, o, e, fun j y hj => (Sx.cell_block (hk b o e) _).1.trans (hc j y hj)⟩⟩
theorem NetTo.setRow_ {w w7 : World} {X X2 : Nt} (h : NetTo w X w7 X2) {b : Nat} (hb : w.heap.size ≤ b) (hn : ¬ X2.all b) (C : Array Value) : NetTo w X (w7.setRow b C) X2 := by
  have zs : (w7.setRow b C).heap.size = w7.heap.size := by simp [World.setRow]
  refine ⟨h.at'.keepB (Nat.le_of_eq zs.symm) fun i hi => setRow_other _ _ _ _ fun e => hn (e ▸ hi), ⟨h.comp.os, h.comp.tape, h.comp.output, by rw [zs]; exact h.comp.size, fun i hi hni => ⟨(setRow_other _ _ _ _ (by omega)).trans (h.comp.keep i hi hni).1, (h.comp.keep i hi hni).2⟩⟩, h.nb, h.nodes⟩
set_option maxHeartbeats 4000000 in
theorem Deliver_ok {w : World} {X : Nt} (h : NetAt w X) {k : Nat} {x : Lt} (hk : X.L[k]? = some x) (hn : x.l.length < 1000000) (hlen : X.L.length ≤ 1000000) (a1 : (x.f ≥ 1) = True) (a2 : (x.f ≤ X.nodes) = True) (b1 : (x.t ≥ 1) = True) (b2 : (x.t ≤ X.nodes) = True) (hab : (x.f != x.t) = true) :
    Calls Tryz.prog 28 #[.pointer (some ⟨X.nb, 0, none⟩), .int .i64 k] w fun e w' => ∃ a c X', e = .returned (.tuple #[.agg #[.int .i64 x.f, .int .i64 x.t, .slice a x.l.length c], .bool true]) ∧ NetTo w X w' X' ∧ X'.says = X.says.eraseIdx k ∧ Sl w' a x.l.length c (bts x.l) ∧ ∀ i o, a = some ⟨i, o, none⟩ → w.heap.size ≤ i := by
  have H := Lib.hid h
  have HK := Lib.hid hk
  have HN := Lib.hid hn
  have HL := Lib.hid hlen
  have i1 : (k : Int) < 1000000 := by have := (List.getElem?_eq_some_iff.1 hk).1; omega
  have HB := Lib.hid (And.intro a1 (And.intro a2 (And.intro b1 (And.intro b2 hab))))
  clear h hk hn hlen a1 a2 b1 b2 hab
  go_enter Tryz.func28, Tryz.ntmps28
  go_upto_region 1 with (fail)
  have bx := Bx.new w (#[.int .i64 0, .int .i64 0, .slice none 0 0]) 76; generalize w.alloc (.cells (#[.int .i64 0, .int .i64 0, .slice none 0 0]) 76) = W at bx ⊢; have rx := bx.rowOf; have sx := bx.soft; have BX := Lib.hid bx; clear bx
  have LK := Lib.hid (Look_ok (H.out.below BX.out.below) HK.out HN.out)
  have LW := Lib.hid (Array.getElem?_eq_some_iff.1 BX.out.row).1
  go_wp2_with fail
  refine LK.out.mono ?_
  rintro _ V ⟨ao, c, rfl, hb, sl, fl⟩
  have bx := BX.out.step hb
  have SL := Lib.hid sl
  have FL := Lib.hid fl
  have ZB := Lib.hid hb.size
  clear BX rx sx LK hb sl fl
  have BX := Lib.hid bx
  clear bx
  go_upto_region 2 with (fail)
  have L := Bx.new V #[.int .i64 x.f, .int .i64 x.t, .slice ao x.l.length c] 76
  generalize V.alloc (.cells #[.int .i64 x.f, .int .i64 x.t, .slice ao x.l.length c] 76) = V2 at L ⊢
  have bx := BX.out.step L.below
  have BT := Lib.hid (between_ok (H.out.below bx.below) HB.out.1 HB.out.2.1 HB.out.2.2.1 HB.out.2.2.2.1 HB.out.2.2.2.2)
  have rl := L.rowOf
  have BL := Lib.hid (And.intro bx L)
  clear BX L bx
  go_wp2_with fail
  refine BT.out.mono ?_
  rintro _ V3 ⟨p, q, rfl, hb⟩
  have BM := Lib.hid (And.intro (BL.out.1.step hb) (BL.out.2.step hb))
  clear BL BT rl hb
  go_upto_region 3 with (fail)
  have M := Bx.new V3 #[.int .i64 p, .int .i64 q] 124
  generalize V3.alloc (.cells #[.int .i64 p, .int .i64 q] 124) = V4 at M ⊢
  have bx := BM.out.1.step M.below
  have bl := BM.out.2.step M.below
  have h4 := H.out.below bx.below
  have rn := rowOf_of h4.row
  have sn := soft_of h4.row
  rw [nt_cells] at rn
  have rm := M.rowOf
  have lk := look_cut (w := V4.drew) h4.cuts p q
  have O1 := Lib.hid (one_yes (w := V4.drew) (k := 5) (x := X.n3) rn sn rfl)
  have H4 := Lib.hid h4
  have BB := Lib.hid (And.intro bx bl)
  have NM : ¬ X.nb = V3.heap.size := Nat.ne_of_lt (Nat.lt_of_lt_of_le (H.out.all_lt (.inl rfl)) BM.out.1.below.size)
  clear h4 bx bl BM M
  go_region_held3 (fun w' => (rowOf w' X.nb)[2]? = some (.map (some X.mc)) ∧ rowOf w' V3.heap.size = #[.int .i64 p, .int .i64 q]) (first
    | exact ⟨by show (rowOf V4 X.nb)[2]? = _; rw [rn]; rfl, rm⟩
    | exact ⟨by show (rowOf (V4.setCell ⟨X.nb, 5, none⟩ _) X.nb)[2]? = _; rw [rowOf_setCell, if_pos rfl, rn]; rfl, by show rowOf (V4.setCell ⟨X.nb, 5, none⟩ _) V3.heap.size = _; rw [rowOf_setCell, if_neg (fun e => NM e.symm)]; exact rm⟩) (first
    | (go_at_call 40; refine O1.out.mono ?_; rintro _ V5 ⟨rfl, rfl⟩))
  have N5 := NetAt.cnt (w := V4.drew) (H4.out.below (Below.refl V4.heap.size V4).drew) (k := 5) (v := .int .i64 (wrap64 (X.n3 + 1))) (a := X.n1) (b := X.n2) (c := wrap64 (X.n3 + 1)) (d := X.n4) rfl
  have nA : ∀ i, w.heap.size ≤ i → ¬ X.all i := fun i hi q => by have := H.out.all_lt q; omega
  have z0 : w.heap.size < V4.heap.size := (Array.getElem?_eq_some_iff.1 BB.out.1.row).1
  have z1 : V.heap.size < V4.heap.size := (Array.getElem?_eq_some_iff.1 BB.out.2.row).1
  have w0 := LW.out
  have w1 := ZB.out
  have q0 := (N5.other z0 (nA _ (Nat.le_refl _))).trans BB.out.1.row
  have q1 := (N5.other z1 (nA _ (by omega))).trans BB.out.2.row
  have S5 := Sl.at_ (SL.out.keep (w' := V4.drew) (Nat.le_refl _) BB.out.2.below.drew) fun i o e => N5.other (by have := (FL.out i o e).2; exact Nat.lt_trans this z1) (nA _ (by have := (FL.out i o e).1; omega))
  have T5 := (NetTo.below H.out BB.out.1.below.drew).trans N5
  obtain ⟨g, cur, hra, _⟩ := H.out.at HK.out
  have kl := (List.getElem?_eq_some_iff.1 HK.out).1
  generalize hX : ({ X with n1 := X.n1, n2 := X.n2, n3 := wrap64 (X.n3 + 1), n4 := X.n4 } : Nt) = X1 at N5 T5
  have eX : X1.nb = X.nb ∧ X1.L = X.L ∧ X1.ra = X.ra ∧ X1.rc = X.rc ∧ X1.all = X.all ∧ X1.mc = X.mc ∧ X1.B = X.B := by subst hX; exact ⟨rfl, rfl, rfl, rfl, rfl, rfl, rfl⟩
  have rn5 := rowOf_of N5.at'.row
  have sn5 := soft_of N5.at'.row
  rw [nt_cells, eX.2.2.2.2.2.1] at rn5
  rw [eX.1] at rn5 sn5
  have T5 := Lib.hid T5
  have EX := Lib.hid eX
  have NN5 := Lib.hid N5.at'
  have F5 := Lib.hid (And.intro q0 (And.intro q1 S5))
  have NB5 : ¬ X.nb = w.heap.size ∧ ¬ X.nb = V.heap.size := ⟨fun e => nA _ (Nat.le_refl _) (.inl e.symm), fun e => nA V.heap.size (by omega) (.inl e.symm)⟩
  have nG : ¬ g = w.heap.size ∧ ¬ g = V.heap.size := ⟨fun e => nA _ (Nat.le_refl _) (.inr (.inr (.inl ⟨0, e ▸ hra⟩))), fun e => nA V.heap.size (by omega) (.inr (.inr (.inl ⟨0, e ▸ hra⟩)))⟩
  have FR : ∀ i, w.heap.size ≤ i → ¬ i = g ∧ ¬ i = X.nb := fun i hi => ⟨fun e => nA i hi (.inr (.inr (.inl ⟨0, e ▸ hra⟩))), fun e => nA i hi (.inl e)⟩
  have FRr := Lib.hid FR
  have KL := Lib.hid kl
  change Exit.then _ _ _ _ (V4.drew.setCell ⟨X.nb, 5, none⟩ (.int .i64 (wrap64 (X.n3 + 1))))
  generalize V4.drew.setCell ⟨X.nb, 5, none⟩ (.int .i64 (wrap64 (X.n3 + 1))) = V5 at *
  rw [eX.2.2.1, eX.2.1, hra] at rn5
  have D := Lib.hid (del_own (w := V5) (B := X1.B) (g := g) (rc := X1.rc) (L := X1.L) (i := k) (by have := NN5.out.own; rw [eX.2.2.1, hra] at this; exact this) (by rw [eX.2.1]; exact kl) (by rw [eX.2.1]; exact HL.out))
  clear N5 S5 q0 q1 w0 w1 z0 z1 rn sn rm lk O1 H4 NM nA hX eX FR kl BB
  go_wp2_with fail
  have D1 := D.out
  rw [EX.out.2.1, show (((k + 1 : Nat) : Int)) = (k : Int) + 1 by omega] at D1
  clear D
  refine D1.mono ?_
  rintro _ W6 ⟨rfl, O6, C, rfl⟩
  obtain ⟨X2, N6, S6⟩ := del_fin (w := V5) (X := X1) (k := k) (g := g) (C := C) NN5.out (by rw [EX.out.2.1]; exact KL.out) (by rw [EX.out.2.2.1]; exact hra) (by rw [EX.out.2.1]; exact O6)
  rw [EX.out.1, EX.out.2.1] at N6
  have zs : ((V5.drew.setRow g C).setCell ⟨X.nb, 1, none⟩ (.slice (some ⟨g, 0, none⟩) (X.L.length - 1) X1.rc)).heap.size = V5.heap.size := by
    have e1 : ((V5.drew.setRow g C).setCell ⟨X.nb, 1, none⟩ (.slice (some ⟨g, 0, none⟩) (X.L.length - 1) X1.rc)).heap.size = (V5.drew.setRow g C).heap.size := by simp [World.setCell]
    have e2 : (V5.drew.setRow g C).heap.size = V5.drew.heap.size := by simp [World.setRow]
    rw [e1, e2]
    rfl
  have kp : ∀ i, w.heap.size ≤ i → ((V5.drew.setRow g C).setCell ⟨X.nb, 1, none⟩ (.slice (some ⟨g, 0, none⟩) (X.L.length - 1) X1.rc)).heap[i]? = V5.heap[i]? := fun i hi => by
    rw [heap_setCell_at, if_neg (fun e => (FRr.out i hi).2 e.symm), setRow_other _ _ _ _ (FRr.out i hi).1]
    rfl
  have nbg : ¬ X.nb = g := fun e => H.out.nr.1 ⟨0, e ▸ hra⟩
  have sn6 : soft (V5.drew.setRow g C) X.nb = true := by
    have := soft_of (w := V5.drew.setRow g C) (b := X.nb) ((setRow_other _ _ _ _ nbg).trans (show V5.drew.heap[X.nb]? = _ from EX.out.1 ▸ NN5.out.row))
    exact this
  have rn6 : rowOf (V5.drew.setRow g C) X.nb = rowOf V5 X.nb := by
    unfold rowOf
    rw [setRow_other _ _ _ _ nbg]
    rfl
  rw [rn5] at rn6
  have TT := Lib.hid (T5.out.trans N6)
  have q0 := (kp _ (Nat.le_refl _)).trans F5.out.1
  have q1 := (kp V.heap.size (by have := LW.out; have := ZB.out; omega)).trans F5.out.2.1
  have S7 := Lib.hid (Sl.at_ F5.out.2.2 fun i o e => kp i (by have := (FL.out i o e).1; have := LW.out; omega))
  have SS := Lib.hid (S6.trans (congrArg (fun l : List Lt => (l.map Lt.told).eraseIdx k) EX.out.2.1))
  have FF := Lib.hid (show ∀ i o, ao = some ⟨i, o, none⟩ → w.heap.size ≤ i from fun i o e => by have := (FL.out i o e).1; have := LW.out; omega)
  have r0 := rowOf_of q0
  have s0 := soft_of q0
  have r1 := rowOf_of q1
  have EN := Lib.hid TT.out.at'.row
  have nX2 := Lib.hid (N6.comp.keep w.heap.size (by rw [← zs]; exact (Array.getElem?_eq_some_iff.1 q0).1) (by rw [EX.out.2.2.2.2.1]; exact fun q => by have := H.out.all_lt q; omega)).2
  clear rn5 sn5 O6 N6 kp zs D1 S6 q0 q1 FRr
  go_upto_region 6 with (fail)
  generalize (V5.drew.setRow g C).setCell ⟨X.nb, 1, none⟩ (.slice (some ⟨g, 0, none⟩) (X.L.length - 1) X1.rc) = W7 at *
  have hc : rowOf (W7.setRow w.heap.size #[.int .i64 x.f, .int .i64 x.t, .slice ao x.l.length c]) w.heap.size = #[.int .i64 x.f, .int .i64 x.t, .slice ao x.l.length c] := (rowOf_setRow _ _ _ _ s0).trans (if_pos rfl)
  have T8 := TT.out.setRow_ (Nat.le_refl _) nX2.out #[.int .i64 x.f, .int .i64 x.t, .slice ao x.l.length c]
  have S8 := Sl.at_ (w' := W7.setRow w.heap.size #[.int .i64 x.f, .int .i64 x.t, .slice ao x.l.length c]) S7.out fun i o e => setRow_other _ _ _ _ (by have := (FL.out i o e).1; have := LW.out; omega)
  have T8 := Lib.hid T8
  have S8 := Lib.hid S8
  clear TT S7
  go_wp2
  rw [trip3 r0 rfl]
  refine bodyPost_ret (results_row1 (t := 76) rfl Tryz.underlying76 rfl (by kernel_rfl) _ _ w.heap.size rfl hc rfl) rfl ?_
  exact ⟨ao, c, X2, rfl, T8.out, SS.out, S8.out, FF.out⟩
end Go.Proofs.YtjkfondgacjpnaaGreatDoor

namespace Go.Proofs.YtjkfondgacjpnaaGreatDoor
open Go.RowKit
set_option maxRecDepth 100000
attribute [local go_sem ↓] rowOf_cell
attribute [local go_sem] rowOf_alloc soft_alloc rowOf_drew soft_drew rowOf_setRow soft_setRow rowOf_setCell soft_setCell frozen_of_soft Ext.row Ext.soft_ sub_lit3
theorem sub_lit2_ (a b : Value) : sub #[a, b] 0 2 = #[a, b] := by simp [sub]
attribute [local go_sem] sub_lit2_
theorem node_no {w : World} {p nb : Nat} : Calls Tryz.prog 73 #[.int .i64 0, .pointer (some ⟨p, 0, none⟩)] w fun e w' => e = .returned (.bool false) ∧ w' = w := by
  go_enter Tryz.func73, Tryz.ntmps73
  go_wp2
  go_ret
  exact ⟨rfl, rfl⟩
theorem between_no {w : World} {nb : Nat} : Calls Tryz.prog 51 #[.pointer (some ⟨nb, 0, none⟩), .int .i64 0, .int .i64 0] w fun e w' => e = .returned (.tuple #[.agg #[.int .i64 0, .int .i64 0], .bool false]) ∧ Below w.heap.size w w' := by
  go_enter Tryz.func51, Tryz.ntmps51
  go_upto_region 1 with (fail)
  have bx := Bxs.new2 w (#[.pointer (some ⟨nb, 0, none⟩)]) 35 (#[.int .i64 0, .int .i64 0]) 124; generalize ((w.alloc (.cells (#[.pointer (some ⟨nb, 0, none⟩)]) 35)).alloc (.cells (#[.int .i64 0, .int .i64 0]) 124)) = W at bx ⊢; have rx0 := bx.row' 0 rfl; have sx0 := bx.soft' 0 rfl; (try simp only [Nat.add_zero] at rx0 sx0); have rx1 := bx.row' 1 rfl; have sx1 := bx.soft' 1 rfl; (try simp only [Nat.add_zero] at rx1 sx1); have BX := Lib.hid bx; clear bx
  go_wp2_with fail
  refine (node_no (nb := nb)).mono ?_
  rintro _ W2 ⟨rfl, rfl⟩
  have B := (BX.out.below.setCell (p := ⟨w.heap.size + 1, 0, none⟩) (Nat.le_add_right w.heap.size 1) (.int .i64 0)).setCell (p := ⟨w.heap.size + 1, 1, none⟩) (Nat.le_add_right w.heap.size 1) (.int .i64 0)
  have hc : rowOf ((W2.setCell ⟨w.heap.size + 1, 0, none⟩ (.int .i64 0)).setCell ⟨w.heap.size + 1, 1, none⟩ (.int .i64 0)) (w.heap.size + 1) = #[.int .i64 0, .int .i64 0] := by
    rw [rowOf_setCell, if_pos rfl, rowOf_setCell, if_pos rfl, rx1]
    rfl
  go_wp2
  refine bodyPost_ret (results_row1 (t := 124) rfl Tryz.underlying124 rfl (by kernel_rfl) _ _ (w.heap.size + 1) rfl hc rfl) rfl ?_
  exact ⟨rfl, B⟩
set_option maxHeartbeats 4000000 in
theorem Deliver_no {w : World} {X : Nt} (h : NetAt w X) (h0 : X.L = []) : Calls Tryz.prog 28 #[.pointer (some ⟨X.nb, 0, none⟩), .int .i64 0] w fun e w' => e = .returned (.tuple #[.agg #[.int .i64 0, .int .i64 0, .slice none 0 0], .bool false]) ∧ Below w.heap.size w w' := by
  have H := Lib.hid h
  have E0 := Lib.hid h0
  clear h h0
  go_enter Tryz.func28, Tryz.ntmps28
  go_upto_region 1 with (fail)
  have bx := Bx.new w (#[.int .i64 0, .int .i64 0, .slice none 0 0]) 76; generalize w.alloc (.cells (#[.int .i64 0, .int .i64 0, .slice none 0 0]) 76) = W at bx ⊢; have rx := bx.rowOf; have sx := bx.soft; have BX := Lib.hid bx; clear bx
  have LK := Lib.hid (Look_no (H.out.below BX.out.below) (k := 0) (by simp) (by rw [E0.out]; simp))
  go_wp2_with fail
  refine LK.out.mono ?_
  rintro _ V ⟨rfl, hb⟩
  have bx := BX.out.step hb
  clear BX rx sx LK hb
  have BX := Lib.hid bx
  clear bx
  go_upto_region 2 with (fail)
  have L := Bx.new V #[.int .i64 0, .int .i64 0, .slice none 0 0] 76
  generalize V.alloc (.cells #[.int .i64 0, .int .i64 0, .slice none 0 0] 76) = V2 at L ⊢
  have bx := BX.out.step L.below
  have BT := Lib.hid (between_no (w := V2) (nb := X.nb))
  have rl := L.rowOf
  have BL := Lib.hid bx
  clear BX L bx
  go_wp2_with fail
  refine BT.out.mono ?_
  rintro _ V3 ⟨rfl, hb⟩
  have BM := Lib.hid (BL.out.step hb)
  clear BL BT rl hb
  go_upto_region 3 with (fail)
  have M := Bx.new V3 #[.int .i64 0, .int .i64 0] 124
  generalize V3.alloc (.cells #[.int .i64 0, .int .i64 0] 124) = V4 at M ⊢
  have bx := BM.out.step M.below
  clear BM M
  have BB := Lib.hid bx
  clear bx
  have O1 := Lib.hid (fun w => ret_same (one_no (ad := ⟨X.nb, 5, none⟩) w))
  (refine wp_region_grow (by kernel_rfl) (by kernel_rfl) ?_; (repeat (go_big_quiet_step (((go_at_call 40; exact Calls.ext_of (O1.out _)))))); refine wpQuiet_nil ?_; rintro _ ⟨g, rfl⟩)
  have bx := BB.out.step g.below
  have r0 := bx.rowOf
  have s0 := bx.soft
  have B8 := Below.setRow_ bx.below (Nat.le_refl _) #[.int .i64 0, .int .i64 0, .slice none 0 0]
  generalize g.val = V5 at *
  have hc : rowOf (V5.setRow w.heap.size #[.int .i64 0, .int .i64 0, .slice none 0 0]) w.heap.size = #[.int .i64 0, .int .i64 0, .slice none 0 0] := (rowOf_setRow _ _ _ _ s0).trans (if_pos rfl)
  have B8 := Lib.hid B8
  clear bx
  go_wp2
  rw [trip3 r0 rfl]
  refine bodyPost_ret (results_row1 (t := 76) rfl Tryz.underlying76 rfl (by kernel_rfl) _ _ w.heap.size rfl hc rfl) rfl ?_
  exact ⟨rfl, B8.out⟩
end Go.Proofs.YtjkfondgacjpnaaGreatDoor
