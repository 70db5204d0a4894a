/- What is proved: parts of the walk and of the plain law, 3 texts in one. No condition but those each law names. -/
import Derived.Test.YtohpcfhgbgfblaaGreatDoorS22
import Derived.Test.YtohpcfhgbgfblaaGreatDoorS39
import Derived.Test.YtohpcfhgbgfblaaGreatDoorS40
namespace Go.Proofs.YtohpcfhgbgfblaaGreatDoor
open Go.RowKit
set_option maxRecDepth 100000
attribute [local go_sem ↓] rowOf_cell
attribute [local go_sem] rowOf_alloc soft_alloc rowOf_drew soft_drew rowOf_setRow soft_setRow rowOf_setCell soft_setCell frozen_of_soft
theorem run_store_fn (w : World) (a : Addr) (m : Mode) (f : Fn) (x y : Array Value) : (store a (.func f x y) m).run Tryz.prog w = stored Tryz.prog w a (.func f x y) m := run_store Tryz.prog w a _ m rfl
attribute [local go_sem] run_store_fn
/-- The record of a move. -/
def rcM (i mv : Int) (t : Tv) : Rc := ⟨3, i, Dl.zero, Hs.zero, mv, 0, t⟩
/-- A transaction without inputs and outputs, but not none. -/
def tvK (k : Int) : Tv := ⟨Sv.nil, Sv.nil, k⟩
theorem within2_no (w : World) : Calls Tryz.prog 184 #[.int .i64 0, .int .i64 1, .int .i64 8] w fun e w' => e = .returned (.bool false) ∧ w' = w := by
  go_enter Tryz.func184, Tryz.ntmps184
  go_wp2
  go_ret
  exact ⟨rfl, rfl⟩
theorem none_no {k : Int} (hk : (k == 0) = false) (w : World) : Calls Tryz.prog 102 #[.agg (tvK k).cells] w fun e w' => e = .returned (.bool false) ∧ Below w.heap.size w w' := by
  go_enter Tryz.func102, Tryz.ntmps102
  go_upto_region 1 with (fail)
  have hc : (tvK k).cells = #[.slice none 0 0, .slice none 0 0, .int .i64 k] := rfl
  rw [hc]
  have bx := Bx.new w (#[.slice none 0 0, .slice none 0 0, .int .i64 k]) 67; generalize w.alloc (.cells (#[.slice none 0 0, .slice none 0 0, .int .i64 k]) 67) = W at bx ⊢; have rx := bx.rowOf; have sx := bx.soft; have BX := Lib.hid bx; clear bx
  go_wp2
  go_ret
  exact ⟨rfl, BX.out.below⟩
theorem TxCheck_many (k : Int) (w : World) : Calls Tryz.prog 135 #[.agg (tvK k).cells] w fun e w' => e = .returned (.int .i64 3) ∧ Below w.heap.size w w' := by
  have hc : (tvK k).cells = #[.slice none 0 0, .slice none 0 0, .int .i64 k] := rfl
  rw [hc]
  clear hc
  go_enter Tryz.func135, Tryz.ntmps135
  go_upto_region 1 with (fail)
  have bx := Bx.new w (#[.slice none 0 0, .slice none 0 0, .int .i64 k]) 67; generalize w.alloc (.cells (#[.slice none 0 0, .slice none 0 0, .int .i64 k]) 67) = W at bx ⊢; have rx := bx.rowOf; have sx := bx.soft; have BX := Lib.hid bx; clear bx
  go_upto_region 5 with (fail)
  have bx := BX.out.step (below1 W (.cells #[.func (Fn.func 185) #[] #[]] 267))
  generalize W.alloc (.cells #[.func (Fn.func 185) #[] #[]] 267) = V at bx ⊢
  clear rx sx BX
  have rx := bx.rowOf
  have BX := Lib.hid bx
  clear bx
  go_wp2_with fail
  refine (within2_no _).mono ?_; rintro _ _ ⟨rfl, rfl⟩
  go_wp2
  go_ret
  exact ⟨rfl, BX.out.below⟩
theorem own_M {i mv k : Int} (hi : wi i 1 1073741824 = true) (hm : wi mv 1 3 = true) (hk : (k == 0) = false) (w : World) : Calls Tryz.prog 136 #[.agg (rcM i mv (tvK k)).cells] w fun e w' => e = .returned (.int .i64 3) ∧ Below w.heap.size w w' := by
  have H1 := Lib.hid hi
  have H2 := Lib.hid hm
  have H3 := Lib.hid hk
  clear hi hm hk
  go_enter Tryz.func136, Tryz.ntmps136
  go_upto_region 1 with (fail)
  have e1 : (rcM i mv (tvK k)).k = 3 := rfl
  have e2 : (rcM i mv (tvK k)).i = i := rfl
  have e3 : (rcM i mv (tvK k)).mv = mv := rfl
  have e4 : (rcM i mv (tvK k)).t = tvK k := rfl
  have bx := Bx.new w ((rcM i mv (tvK k)).cells) 84; generalize w.alloc (.cells ((rcM i mv (tvK k)).cells) 84) = W at bx ⊢; have rx := bx.rowOf; have sx := bx.soft; have BX := Lib.hid bx; clear bx
  go_wp2_with fail
  refine (within_is H2.out _).mono ?_; rintro _ _ ⟨rfl, rfl⟩
  go_wp2_with fail
  refine (within_is H1.out _).mono ?_; rintro _ _ ⟨rfl, rfl⟩
  go_wp2_with fail
  refine (none_no H3.out _).mono ?_; rintro _ W2 ⟨rfl, hb⟩; have bx := BX.out.step hb; clear BX rx sx hb; have rx := bx.rowOf; have sx := bx.soft; have BX := Lib.hid bx; clear bx
  go_wp2_with fail
  refine (TxCheck_many _ _).mono ?_; rintro _ W3 ⟨rfl, hb⟩; have bx := BX.out.step hb; clear BX rx sx hb; have rx := bx.rowOf; have sx := bx.soft; have BX := Lib.hid bx; clear bx
  go_wp2
  go_ret
  exact ⟨rfl, BX.out.below⟩
theorem wi34 : wi 3 1 4 = true := rfl
theorem RCheck_M {i mv k : Int} (hi : wi i 1 1073741824 = true) (hm : wi mv 1 3 = true) (hk : (k == 0) = false) (w : World) : Calls Tryz.prog 69 #[.agg (rcM i mv (tvK k)).cells] w fun e w' => e = .returned (.int .i64 3) ∧ Below w.heap.size w w' := by
  have O := Lib.hid (fun w => own_M hi hm hk w)
  clear hi hm hk
  go_enter Tryz.func69, Tryz.ntmps69
  go_upto_region 1 with (fail)
  have e1 : (rcM i mv (tvK k)).k = 3 := rfl
  have bx := Bx.new w ((rcM i mv (tvK k)).cells) 84; generalize w.alloc (.cells ((rcM i mv (tvK k)).cells) 84) = W at bx ⊢; have rx := bx.rowOf; have sx := bx.soft; have BX := Lib.hid bx; clear bx
  go_wp2_with fail
  refine (within_is wi34 _).mono ?_; rintro _ _ ⟨rfl, rfl⟩
  go_wp2_with fail
  refine (O.out _).mono ?_; rintro _ W2 ⟨rfl, hb⟩; have bx := BX.out.step hb; clear BX rx sx hb; have rx := bx.rowOf; have sx := bx.soft; have BX := Lib.hid bx; clear bx
  go_wp2
  go_ret
  exact ⟨rfl, BX.out.below⟩
theorem Put_M {i mv k : Int} (hi : wi i 1 1073741824 = true) (hm : wi mv 1 3 = true) (hk : (k == 0) = false) (w : World) : Calls Tryz.prog 53 #[.agg (rcM i mv (tvK k)).cells] w fun e w' => e = .returned (.tuple #[.slice none 0 0, .int .i64 3]) ∧ Below w.heap.size w w' := by
  have O := Lib.hid (fun w => RCheck_M hi hm hk w)
  clear hi hm hk
  go_enter Tryz.func53, Tryz.ntmps53
  go_upto_region 1 with (fail)
  have bx := Bx.new w ((rcM i mv (tvK k)).cells) 84; generalize w.alloc (.cells ((rcM i mv (tvK k)).cells) 84) = W at bx ⊢; have rx := bx.rowOf; have sx := bx.soft; have BX := Lib.hid bx; clear bx
  go_wp2_with fail
  refine (O.out _).mono ?_; rintro _ W2 ⟨rfl, hb⟩; have bx := BX.out.step hb; clear BX rx sx hb; have rx := bx.rowOf; have sx := bx.soft; have BX := Lib.hid bx; clear bx
  go_wp2
  refine bodyPost_ret (results_tmp2 rfl _ _ _) rfl ?_
  exact ⟨rfl, BX.out.below⟩
theorem moves_wait (w : World) : Calls Tryz.prog 54 #[.int .i64 0] w fun e w' => e = .returned (.bool false) ∧ w' = w := by
  go_enter Tryz.func54, Tryz.ntmps54
  go_wp2
  go_ret
  exact ⟨rfl, rfl⟩
theorem moves_lock (w : World) : Calls Tryz.prog 54 #[.int .i64 1] w fun e w' => e = .returned (.bool true) ∧ w' = w := by
  go_enter Tryz.func54, Tryz.ntmps54
  go_wp2
  go_ret
  exact ⟨rfl, rfl⟩
theorem becomes_sent (st mv : Int) (w : World) : Calls Tryz.prog 52 #[.int .i64 st, .int .i64 mv, .bool true] w fun e w' => e = .returned (.int .i64 st) ∧ w' = w := by
  go_enter Tryz.func52, Tryz.ntmps52
  go_wp2
  go_ret
  exact ⟨rfl, rfl⟩
theorem becomes_lock (st : Int) (w : World) : Calls Tryz.prog 52 #[.int .i64 st, .int .i64 1, .bool false] w fun e w' => e = .returned (.int .i64 2) ∧ w' = w := by
  go_enter Tryz.func52, Tryz.ntmps52
  go_wp2
  go_ret
  exact ⟨rfl, rfl⟩
theorem eql_ne {h h' : Hs} (hn : h.l[0]? ≠ h'.l[0]?) (w : World) : (binOp .eql 39 (.agg h.cells) (.agg h'.cells)).run Tryz.prog w = .ok (.bool false) w := by
  obtain ⟨f, rfl⟩ := h.form
  obtain ⟨g, rfl⟩ := h'.form
  have h0 : ¬ (f 0 = g 0) := fun e => hn (by simp [e])
  have h1 : ¬ ((f 0 : Int) = (g 0 : Int)) := by omega
  obtain ⟨i, hi⟩ := info_of_underlying Tryz.underlying5
  have e : (Op.equalIn 10000 39 (.agg (hexp f)) (.agg (hexp g))).run Tryz.prog w = .ok false w := by
    rw [run_equalIn_array w 9999 (hexp f) (hexp g) Tryz.underlying39 hi, show Tryz.prog.cellsOf 5 = 1 by kernel_rfl]
    have hp : ∀ k : Nat → Nat, (part 5 (hexp k) 0).run Tryz.prog w = .ok (.int .u8 (k 0 : Nat)) w := fun k => run_part_plain w (by simp [Program.plainKey, Tryz.underlying5]) rfl
    have he : (Op.equalIn 9999 5 (.int .u8 (f 0 : Nat)) (.int .u8 (g 0 : Nat))).run Tryz.prog w = .ok false w := by
      rw [run_equalIn_int w 9998 5 .u8 .u8 _ _ Tryz.underlying5]; simp [h1]
    show (Op.eqItems 9999 5 1 (hexp f) (hexp g) (0 :: _)).run Tryz.prog w = _
    simp [Op.eqItems, hp, he]
  rw [hexp_eq, hexp_eq]
  simp [go_sem, e]
end Go.Proofs.YtohpcfhgbgfblaaGreatDoor

namespace Go.Proofs.YtohpcfhgbgfblaaGreatDoor
open Go.RowKit
open Sx (MapIs getL putL KeyT keyInt Turns Foot)
set_option maxRecDepth 100000
attribute [local go_sem ↓] rowOf_cell
attribute [local go_sem] rowOf_alloc soft_alloc rowOf_drew soft_drew rowOf_setRow soft_setRow rowOf_setCell soft_setCell frozen_of_soft Ext.row Ext.soft_
theorem eqn64 (w : World) : (binOp .eql 64 (.slice none 0 0) (.slice none 0 0)).run Tryz.prog w = .ok (.bool true) w := by kernel_rfl
theorem eqn65 (w : World) : (binOp .eql 65 (.slice none 0 0) (.slice none 0 0)).run Tryz.prog w = .ok (.bool true) w := by kernel_rfl
attribute [local go_sem] eqn64 eqn65
theorem CloneIn_nil (w : World) : Calls Tryz.prog 170 #[.slice none 0 0] w fun e w' => e = .returned (.slice none 0 0) ∧ w' = w := by
  go_enter Tryz.func170, Tryz.ntmps170
  go_wp2
  go_ret
  exact ⟨rfl, rfl⟩
theorem CloneOut_nil (w : World) : Calls Tryz.prog 171 #[.slice none 0 0] w fun e w' => e = .returned (.slice none 0 0) ∧ w' = w := by
  go_enter Tryz.func171, Tryz.ntmps171
  go_wp2
  go_ret
  exact ⟨rfl, rfl⟩
theorem tv0_set0 : Tv.zero.cells.setIfInBounds 0 (.slice none 0 0) = Tv.zero.cells := rfl
theorem tv0_set1 : Tv.zero.cells.setIfInBounds 1 (.slice none 0 0) = Tv.zero.cells := rfl
theorem tvz_i : Tv.zero.i.n = 0 := rfl
theorem tvz_o : Tv.zero.o.n = 0 := rfl
theorem tv0_0 : Tv.zero.cells[0]? = some (.slice none 0 0) := rfl
theorem tv0_1 : Tv.zero.cells[1]? = some (.slice none 0 0) := rfl
theorem tv0_0g (q : 0 < Tv.zero.cells.size) : Tv.zero.cells[0]'q = .slice none 0 0 := rfl
theorem tv0_1g (q : 1 < Tv.zero.cells.size) : Tv.zero.cells[1]'q = .slice none 0 0 := rfl
attribute [local go_sem ↓] tv0_0 tv0_1
attribute [local go_sem] tvz_i tvz_o tv0_set0 tv0_set1 tv0_0g tv0_1g
theorem ret_same {f : FuncId} {args : Array Value} {w : World} {v : Value} (h : Calls Tryz.prog f args w fun e w' => e = .returned v ∧ w' = w) : Calls Tryz.prog f args w (Ret v w) :=
  ret_of (h.mono fun _ _ ⟨he, e⟩ => ⟨he, by rw [e]; exact Below.refl _ _⟩)
set_option maxHeartbeats 1000000 in
theorem fresh_zero (w : World) : Calls Tryz.prog 105 #[.agg Tv.zero.cells] w fun e w' => e = .returned (.agg Tv.zero.cells) ∧ Below w.heap.size w w' := by
  go_enter Tryz.func105, Tryz.ntmps105
  go_upto_region 1 with (fail)
  have bx := Bxs.new2 w (Tv.zero.cells) 67 (Tv.zero.cells) 67; generalize ((w.alloc (.cells (Tv.zero.cells) 67)).alloc (.cells (Tv.zero.cells) 67)) = W at bx ⊢; have rx0 := bx.row' 0 rfl; have sx0 := bx.soft' 0 rfl; (try simp only [Nat.add_zero] at rx0 sx0); have rx1 := bx.row' 1 rfl; have sx1 := bx.soft' 1 rfl; (try simp only [Nat.add_zero] at rx1 sx1); have BX := Lib.hid bx; clear bx
  have l0 := BX.out.lt 0 rfl
  simp only [Nat.add_zero] at l0
  (refine wp_region_grow_tail 7 (by kernel_rfl) (by kernel_rfl) ?_; simp only [List.take_succ_cons, List.take_zero, List.drop_succ_cons, List.drop_zero]; (repeat (go_big_quiet_step ((first | (go_at_call 170; exact Calls.ext_of (ret_same (CloneIn_nil _))) | (go_at_call 171; exact Calls.ext_of (ret_same (CloneOut_nil _))))))); refine wpQuiet_nil ?_; rintro _ ⟨g, rfl⟩)
  have bx := BX.out.step g.below
  clear BX rx0 sx0 rx1 sx1 l0
  generalize g.val = V at bx ⊢
  clear g
  have rx0 := bx.row' 0 rfl
  have sx0 := bx.soft' 0 rfl
  simp only [Nat.add_zero] at rx0 sx0
  have y := (bx.set (j := 0) rfl 0 (.slice none 0 0)).set (j := 0) rfl 1 (.slice none 0 0)
  rw [tv0_set0, Nat.add_zero] at y
  have Y := Lib.hid y
  clear bx y W
  go_wp2_with fail
  generalize (V.setCell ⟨w.heap.size, 0, none⟩ (.slice none 0 0)).setCell ⟨w.heap.size, 1, none⟩ (.slice none 0 0) = V2 at Y ⊢
  clear rx0 sx0
  have rx0 := Y.out.row' 0 rfl
  have rx1 := Y.out.row' 1 rfl
  have sx1 := Y.out.soft' 1 rfl
  simp only [Nat.add_zero] at rx0
  have B := Below.setRow_ Y.out.below (Nat.le_add_right w.heap.size 1) Tv.zero.cells
  have hc : rowOf (V2.setRow (w.heap.size + 1) Tv.zero.cells) (w.heap.size + 1) = Tv.zero.cells := (rowOf_setRow _ _ _ _ sx1).trans (if_pos rfl)
  go_loopw [19] (fun i wr => i = .int .i64 0 ∧ wr = V2) (fun _ _ => 0)
  case atStart => exact ⟨rfl, rfl⟩
  case round =>
    obtain ⟨rfl, rfl⟩ := hrel
    go_wp2_with fail
    go_loopw [57] (fun i wr2 => i = .int .i64 0 ∧ wr2 = wr) (fun _ _ => 0)
    case atStart => exact ⟨rfl, rfl⟩
    case round =>
      obtain ⟨rfl, rfl⟩ := hrel
      go_wp2
      refine bodyPost_ret (results_row (t := 67) rfl Tryz.underlying67 rfl (by kernel_rfl) _ _ (w.heap.size + 1) rfl hc (t_size _)) rfl ?_
      exact ⟨rfl, B⟩
/-- The zero of a transaction. -/
theorem zero67 : ∃ i, Tryz.prog.info? 67 = some i ∧ i.zero = some (.agg Tv.zero.cells) := by
  obtain ⟨i, h1, h2, _, _⟩ := info_parts (show (Tryz.prog.info? 67).map (fun i => (i.zero, i.size, i.bytes)) = some (some (.agg Tv.zero.cells), 3, 56) by kernel_rfl)
  exact ⟨i, h1, h2⟩
theorem look_sent {w : World} {m : Nat} (h : w.heap[m]? = some (.map #[] 0)) (k : Int) : (Instr.lookup 115 (.map (some m)) (.int .i64 k) true).run Tryz.prog w = .ok (.tuple #[.agg Tv.zero.cells, .bool false]) w := by
  obtain ⟨i, i1, i2⟩ := zero67
  exact Sx.run_lookup_no Tryz.underlying115 (keyInt Tryz.underlying3) (l := []) i1 i2 h ⟨List.Perm.refl _, List.nodup_nil⟩ ⟨k, rfl⟩ (fun p hp => by cases hp) rfl
theorem bt0 (w : World) : (Instr.build 67 #[]).run Tryz.prog w = .ok (.agg Tv.zero.cells) w := by kernel_rfl
theorem bt2 (w : World) (k : Int) : (Instr.build 67 #[(2, .int .i64 k)]).run Tryz.prog w = .ok (.agg (tvK k).cells) w := by kernel_rfl
section
variable (w : World) (ρ : Operand → Value) (dst : Option Tmp) (ty : TypeId) (pos : String) (af : Array Edge) (gd : Option (Nat × Bool))
theorem ebt0 : (execOp ρ ⟨dst, .build 67 #[], ty, pos, af, gd⟩).run Tryz.prog w = .ok (.value (.agg Tv.zero.cells)) w := by
  have h := bt0 w
  unfold execOp
  simp only [Sem.run_bind, Sem.run_pure, List.map_toArray, List.map_cons, List.map_nil, h, Result.andThen_ok]
theorem ebt2 (A : Act) (k : Int) : (execOp A.eval ⟨dst, .build 67 #[(2, .const (.int .i64 k))], ty, pos, af, gd⟩).run Tryz.prog w = .ok (.value (.agg (tvK k).cells)) w := by
  have h : (Instr.build 67 #[(2, A.eval (.const (.int .i64 k)))]).run Tryz.prog w = .ok (.agg (tvK k).cells) w := bt2 w k
  unfold execOp
  simp only [Sem.run_bind, Sem.run_pure, List.map_toArray, List.map_cons, List.map_nil, h, Result.andThen_ok]
end
attribute [local go_sem ↓] ebt0
set_option maxHeartbeats 1000000 in
theorem Tx_none {w : World} {bk mb : Nat} {M : List (Int × En)} (h : BookAt w bk mb M) {i mv : Int} {q : En} (hq : getA M i = some q) : Calls Tryz.prog 55 #[.pointer (some ⟨bk, 0, none⟩), .int .i64 i, .int .i64 mv] w fun e w' => e = .returned (.tuple #[.agg Tv.zero.cells, .bool false]) ∧ Below w.heap.size w w' := by
  have HE := Lib.hid (h.en _ (getA_mem hq)).1
  have H := Lib.hid h
  have HR := Lib.hid hq
  clear h hq
  go_enter Tryz.func55, Tryz.ntmps55
  go_upto_region 1 with (fail)
  have bx := Bx.new w (Tv.zero.cells) 67; generalize w.alloc (.cells (Tv.zero.cells) 67) = W at bx ⊢; have rx := bx.rowOf; have sx := bx.soft; have BX := Lib.hid bx; clear bx
  have hB := H.out.below BX.out.below
  have r0 := rowOf_of hB.ob
  have L := (hB.look i).1
  rw [HR.out] at L
  replace L : (Instr.lookup 111 (.map (some mb)) (.int .i64 i) false).run Tryz.prog W = .ok (.pointer (some ⟨q.b, 0, none⟩)) W := L
  have L2 := look_sent ((BX.out.below.block _ HE.out.lt.2).trans HE.out.map) mv
  have r1 := rowOf_of ((BX.out.below.block _ HE.out.lt.1).trans HE.out.row)
  have z1 : (q.s.ent q.m)[75]? = some (.map (some q.m)) := get_right q.s.list [.map (some q.m)] 0 (by rw [s_len])
  have z1g := getg z1
  have z2 := e_size q.s q.m
  generalize q.s.ent q.m = C at r1 z1 z1g z2
  clear hB
  go_upto_region 5 with (fail)
  have bx := BX.out.step (Bx.made W Tv.zero.cells Tv.zero.cells 67).below
  have LL := Bx.made W Tv.zero.cells Tv.zero.cells 67
  generalize (W.alloc (.cells Tv.zero.cells 67)).setRow W.heap.size Tv.zero.cells = V at bx LL ⊢
  have rl := LL.rowOf
  clear BX rx sx r0 L L2 r1 z1 z1g z2 LL HE H HR
  have rx := bx.rowOf
  have sx := bx.soft
  have BX := Lib.hid bx
  clear bx
  go_wp2_with fail
  refine (fresh_zero _).mono ?_; rintro _ V2 ⟨rfl, hb⟩; have bx := BX.out.step hb; clear BX rx sx hb; have rx := bx.rowOf; have sx := bx.soft; have BX := Lib.hid bx; clear bx
  have B := Below.setRow_ BX.out.below (Nat.le_refl w.heap.size) Tv.zero.cells
  have hc : rowOf (V2.setRow w.heap.size Tv.zero.cells) w.heap.size = Tv.zero.cells := (rowOf_setRow _ _ _ _ sx).trans (if_pos rfl)
  go_wp2
  refine bodyPost_ret (results_row1 (t := 67) rfl Tryz.underlying67 rfl (by kernel_rfl) _ _ w.heap.size rfl hc (t_size _)) rfl ?_
  exact ⟨rfl, B⟩
end Go.Proofs.YtohpcfhgbgfblaaGreatDoor

namespace Go.Proofs.YtohpcfhgbgfblaaGreatDoor
open Go.RowKit
open Sx (Ab DW Turns Did Foot)
set_option maxRecDepth 100000
attribute [local go_sem ↓] rowOf_cell ebt0
attribute [local go_sem] rowOf_alloc soft_alloc rowOf_drew soft_drew rowOf_setRow soft_setRow rowOf_setCell soft_setCell frozen_of_soft
set_option maxHeartbeats 1000000 in
/-- keep of nothing. -/
theorem keep_nil {w : World} {D : Dm} (h : Dae w D) : Calls Tryz.prog 48 #[.pointer (some ⟨D.xb, 0, none⟩), .slice none 0 0] w fun e w' => e = .returned (.int .i64 0) ∧ Below w.heap.size w w' := by
  obtain ⟨w1, hw1⟩ : ∃ w1, w1 = (w.alloc (.cells #[.pointer (some ⟨D.xb, 0, none⟩)] 26)).alloc (.cells #[.int .i64 0] 27) := ⟨_, rfl⟩
  have bx : Bxs w [(#[.pointer (some ⟨D.xb, 0, none⟩)], 26), (#[.int .i64 0], 27)] w1 := by rw [hw1]; exact Bxs.new2 w _ _ _ _
  have x0 : w1.heap[w.heap.size]? = some (.cells #[.pointer (some ⟨D.xb, 0, none⟩)] 26) := bx.rows 0 _ _ rfl
  have x1 : w1.heap[w.heap.size + 1]? = some (.cells #[.int .i64 0] 27) := bx.rows 1 _ _ rfl
  have H := Lib.hid h
  have HW := Lib.hid hw1
  have BX := Lib.hid bx
  have X0 := Lib.hid x0
  have X1 := Lib.hid x1
  clear h hw1 bx x0 x1
  go_enter_defers Tryz.func48, Tryz.ntmps48
  go_upto_region 3 with (fail)
  rw [← HW.out]
  go_loopw [10] (fun i wr => i = .int .i64 0 ∧ wr = w1) (fun _ _ => 0)
  case atStart => exact ⟨rfl, rfl⟩
  case round =>
    obtain ⟨rfl, rfl⟩ := hrel
    have r1 := rowOf_of X1.out
    have s1 := soft_of X1.out
    go_wp2_with fail
    have hb := below_same (k := 0) (v := .int .i64 0) X1.out rfl
    have f0 := (hb.block _ (Array.getElem?_eq_some_iff.1 X0.out).1).trans X0.out
    have f1 := (hb.block _ (Array.getElem?_eq_some_iff.1 X1.out).1).trans X1.out
    have hx := ((H.out.below BX.out.below).below hb).row
    have bb := BX.out.below.trans (hb.mono BX.out.below.size)
    generalize wr.setCell ⟨w.heap.size + 1, 0, none⟩ (.int .i64 0) = V at *
    refine leaves_cons (f := 95) (args := #[.pointer (some ⟨w.heap.size, 0, none⟩), .pointer (some ⟨w.heap.size + 1, 0, none⟩)]) (by simp) (by simp [go_sem]) ?_
    refine (keep1_any (xb := D.xb) (C := D.cells) (by rw [rowOf_cell, rowOf_of f0]; rfl) (by rw [rowOf_cell, rowOf_of f1]; rfl) hx rfl).mono ?_
    rintro e u' w'' ⟨rfl, ⟨v, rfl⟩, hb2⟩
    have g1 := rowOf_of ((hb2.block _ (Array.getElem?_eq_some_iff.1 f1).1).trans f1)
    have g3 := bb.trans (hb2.mono bb.size)
    simp [Leaves, settle, results, Tryz.results48, go_sem, g1]
    exact g3
/-- What is ready to be sent: a transaction for the move Lock at most. -/
def rdC (k : Int) : Array Value := #[.slice none 0 0, .slice none 0 0, .int .i64 0, .slice none 0 0, .slice none 0 0, .int .i64 k, .slice none 0 0, .slice none 0 0, .int .i64 0, .slice none 0 0, .slice none 0 0, .int .i64 0]
theorem rd_size (k : Int) : (rdC k).size = 12 := rfl
theorem rd_3 (k : Int) : sub (rdC k) 3 3 = (tvK k).cells := rfl
theorem rd_whole (k : Int) : sub (rdC k) 0 12 = rdC k := rfl
theorem rd_one (k : Int) : ones (rdC k) = true := by kernel_rfl
theorem load72 (w : World) (ρ : Operand → Value) (x : Operand) (dst : Option Tmp) (ty : TypeId) (pos : String) (af : Array Edge) (gd : Option (Nat × Bool)) (hp : pp (ρ x) = true) (h : po (ρ x) + 12 ≤ (rowOf w (pb (ρ x))).size) : (execOp ρ ⟨dst, .load 72 x, ty, pos, af, gd⟩).run Tryz.prog w = .ok (.value (.agg (sub (rowOf w (pb (ρ x))) (po (ρ x)) 12))) w :=
  exec_load_row 72 12 Tryz.underlying72 rfl (by kernel_rfl) w ρ x dst ty pos af gd hp h
attribute [local go_sem] rd_size rd_3 rd_whole rd_one
attribute [local go_sem ↓] load72
theorem sends_wait {w : World} {D : Dm} {i k : Int} : Calls Tryz.prog 51 #[.pointer (some ⟨D.xb, 0, none⟩), .int .i64 i, .int .i64 0, .agg (rdC k)] w fun e w' => e = .returned (.tuple #[.agg Tv.zero.cells, .bool true]) ∧ Below w.heap.size w w' := by
  go_enter Tryz.func51, Tryz.ntmps51
  go_upto_region 1 with (fail)
  have bx := Bxs.new2 w (rdC k) 72 (Tv.zero.cells) 67; generalize ((w.alloc (.cells (rdC k) 72)).alloc (.cells (Tv.zero.cells) 67)) = W at bx ⊢; have rx0 := bx.row' 0 rfl; have sx0 := bx.soft' 0 rfl; (try simp only [Nat.add_zero] at rx0 sx0); have rx1 := bx.row' 1 rfl; have sx1 := bx.soft' 1 rfl; (try simp only [Nat.add_zero] at rx1 sx1); have BX := Lib.hid bx; clear bx
  go_wp2_with fail
  refine (moves_wait _).mono ?_
  rintro _ W ⟨rfl, rfl⟩
  have B := Below.setRow_ BX.out.below (Nat.le_add_right w.heap.size 1) Tv.zero.cells
  have hc : rowOf (W.setRow (w.heap.size + 1) Tv.zero.cells) (w.heap.size + 1) = Tv.zero.cells := (rowOf_setRow _ _ _ _ sx1).trans (if_pos rfl)
  go_wp2
  refine bodyPost_ret (results_row1 (t := 67) rfl Tryz.underlying67 rfl (by kernel_rfl) _ _ (w.heap.size + 1) rfl hc (t_size _)) rfl ?_
  exact ⟨rfl, B⟩
set_option maxHeartbeats 1000000 in
theorem sends_lock {w : World} {D : Dm} (h : Dae w D) {i k : Int} {q : En} (hq : getA D.M i = some q) : Calls Tryz.prog 51 #[.pointer (some ⟨D.xb, 0, none⟩), .int .i64 i, .int .i64 1, .agg (rdC k)] w fun e w' => e = .returned (.tuple #[.agg (tvK k).cells, .bool false]) ∧ Below w.heap.size w w' := by
  have H := Lib.hid h
  have HQ := Lib.hid hq
  clear h hq
  go_enter Tryz.func51, Tryz.ntmps51
  go_upto_region 1 with (fail)
  have bx := Bxs.new2 w (rdC k) 72 (Tv.zero.cells) 67; generalize ((w.alloc (.cells (rdC k) 72)).alloc (.cells (Tv.zero.cells) 67)) = W at bx ⊢; have rx0 := bx.row' 0 rfl; have sx0 := bx.soft' 0 rfl; (try simp only [Nat.add_zero] at rx0 sx0); have rx1 := bx.row' 1 rfl; have sx1 := bx.soft' 1 rfl; (try simp only [Nat.add_zero] at rx1 sx1); have BX := Lib.hid bx; clear bx
  have D1 := H.out.below BX.out.below
  have rD := rowOf_of D1.row
  unfold Dm.cells at rD
  have T := Lib.hid (Tx_none (mv := 1) D1.bok HQ.out)
  clear D1
  go_wp2_with fail
  refine (moves_lock _).mono ?_
  rintro _ W ⟨rfl, rfl⟩
  go_wp2_with fail
  clear rD
  refine (T.out).mono ?_; rintro _ W2 ⟨rfl, hb⟩; have bx := BX.out.step hb; clear BX hb rx0 sx0 rx1 sx1; have rx0 := bx.row' 0 rfl; have sx0 := bx.soft' 0 rfl; (try simp only [Nat.add_zero] at rx0 sx0); have rx1 := bx.row' 1 rfl; have sx1 := bx.soft' 1 rfl; (try simp only [Nat.add_zero] at rx1 sx1); have BX := Lib.hid bx; clear bx
  go_upto_region 4 with (fail)
  have L := Bx.made W2 Tv.zero.cells Tv.zero.cells 67
  generalize (W2.alloc (.cells Tv.zero.cells 67)).setRow W2.heap.size Tv.zero.cells = W3 at L ⊢
  have bx := BX.out.step L.below
  clear BX rx0 sx0 rx1 sx1 T L
  have rx0 := bx.row' 0 rfl
  have sx1 := bx.soft' 1 rfl
  have rx1 := bx.row' 1 rfl
  simp only [Nat.add_zero] at rx0
  have B := Below.setRow_ bx.below (Nat.le_add_right w.heap.size 1) (tvK k).cells
  have hc : rowOf (W3.setRow (w.heap.size + 1) (tvK k).cells) (w.heap.size + 1) = (tvK k).cells := (rowOf_setRow _ _ _ _ sx1).trans (if_pos rfl)
  clear bx
  go_wp2
  refine bodyPost_ret (results_row1 (t := 67) rfl Tryz.underlying67 rfl (by kernel_rfl) _ _ (w.heap.size + 1) rfl hc (t_size _)) rfl ?_
  exact ⟨rfl, B⟩
end Go.Proofs.YtohpcfhgbgfblaaGreatDoor
