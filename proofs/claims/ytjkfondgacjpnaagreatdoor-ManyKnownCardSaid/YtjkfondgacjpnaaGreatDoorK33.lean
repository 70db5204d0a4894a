/- What is proved: parts of the walk and of the plain law, 1 texts in one. No condition but those each law names. -/
import Derived.Test.YtjkfondgacjpnaaGreatDoorK26
import Derived.Test.YtjkfondgacjpnaaGreatDoorK32
import Derived.Test.YtjkfondgacjpnaaGreatDoorK19
import Derived.RangeFuncBox
import Derived.RangeFuncLeaves
import Derived.Shelf.Abstract
import Derived.TacticsInMore
import Derived.LoopNIn
import Derived.LoopIn
import Derived.Test.YtjkfondgacjpnaaGreatDoorK25
namespace Go.Proofs.YtjkfondgacjpnaaGreatDoor
open Go.RowKit
open Sx (MapIs getL putL KeyT keyInt Turns Foot)
set_option maxRecDepth 100000

theorem encA_same {M : List (Int × En)} {k : Int} {e e' : En} (h : getA M k = some e) (hp : e'.pt = e.pt) : encA En.pt (putA M k e') = encA En.pt M := by
  induction M with
  | nil => cases h
  | cons p M ih =>
    obtain ⟨a, x⟩ := p
    unfold getA at h
    unfold putA
    split at h
    · rename_i q
      rw [if_pos q]
      injection h with h
      subst h
      subst q
      simp [encA, hp]
    · rename_i q
      rw [if_neg q]
      have := ih h
      simp [encA] at this ⊢
      exact this
theorem keys_nodup {M : List (Int × En)} (h : ((encA En.pt M).map (·.1)).Nodup) : (M.map (·.1)).Nodup := by
  unfold encA at h
  rw [List.map_map] at h
  unfold List.Nodup at h ⊢
  rw [List.pairwise_map] at h ⊢
  exact h.imp fun hab e => hab (by show Value.int .i64 _ = Value.int .i64 _; rw [e])
theorem putA_mem' {M : List (Int × En)} (hn : (M.map (·.1)).Nodup) {k : Int} {v : En} {p : Int × En} (h : p ∈ putA M k v) : p = (k, v) ∨ (p ∈ M ∧ p.1 ≠ k) := by
  have h1 := getA_at (putA_nodup (k := k) (v := v) hn) h
  rw [getA_put] at h1
  by_cases e : p.1 = k
  · rw [if_pos e] at h1
    injection h1 with h1
    left
    obtain ⟨a, b⟩ := p
    simp only at e h1
    rw [e, h1]
  · rw [if_neg e] at h1
    exact .inr ⟨getA_mem h1, e⟩
theorem BookAt.turn {w w' : World} {bk mb : Nat} {M : List (Int × En)} {k : Int} {e : En} {s : Sw} (h : BookAt w bk mb M) (he : getA M k = some e) (hr : w'.heap[e.b]? = some (.cells (s.ent e.m) 148)) (ho : ∀ i, i ≠ e.b → w'.heap[i]? = w.heap[i]?) :
    BookAt w' bk mb (putA M k ⟨e.b, e.m, s⟩) := by
  have hm := getA_mem he
  have hE := (h.en _ hm).1
  have n1 : bk ≠ e.b := fun q => by have := h.ob; rw [q, hE.row] at this; cases this
  have n2 : mb ≠ e.b := fun q => by obtain ⟨es, c, x, _⟩ := h.mp; rw [q, hE.row] at x; cases x
  have n3 : ∀ p ∈ M, p.2.m ≠ e.b := fun p hp q => by have := (h.en p hp).1.map; rw [q, hE.row] at this; cases this
  refine ⟨(ho bk n1).trans h.ob, ?_, fun p hp => ?_, fun p hp q hq x => ?_⟩
  · obtain ⟨es, c, x, y, z⟩ := h.mp
    exact ⟨es, c, (ho mb n2).trans x, by rw [encA_same he (by rfl)]; exact y, z⟩
  · have hn : (M.map (·.1)).Nodup := by obtain ⟨es, c, _, y, _⟩ := h.mp; exact keys_nodup y.2
    rcases putA_mem' hn hp with rfl | ⟨hp, hk⟩
    · exact ⟨⟨hr, (ho _ (n3 _ hm)).trans hE.map⟩, (h.en _ hm).2⟩
    · obtain ⟨h1, h2⟩ := h.en p hp
      have n4 : p.2.b ≠ e.b := fun q => hk (by have := h.inj p hp _ hm q; rw [this])
      exact ⟨⟨(ho _ n4).trans h1.row, (ho _ (n3 p hp)).trans h1.map⟩, h2⟩
  · have hn : (M.map (·.1)).Nodup := by obtain ⟨es, c, _, y, _⟩ := h.mp; exact keys_nodup y.2
    rcases putA_mem' hn hp with rfl | ⟨hp, hk⟩
    · rcases putA_mem' hn hq with rfl | ⟨hq, hk⟩
      · rfl
      · exact absurd (congrArg Prod.fst (h.inj q hq _ hm x.symm)) hk
    · rcases putA_mem' hn hq with rfl | ⟨hq, hk'⟩
      · exact absurd (congrArg Prod.fst (h.inj p hp _ hm x)) hk
      · exact h.inj p hp q hq x
theorem e_42 (s : Sw) (m : Nat) : (s.ent m)[42]? = some (.bool s.kn) := by
  have := s_42 s
  unfold Sw.cells at this
  unfold Sw.ent
  rw [List.getElem?_toArray] at this ⊢
  rw [List.getElem?_append_left (by rw [s_len]; decide)]
  exact this
theorem e_h (s : Sw) (m : Nat) : sub (s.ent m) 8 32 = s.d.h.cells := sub_at s.d.head (bts s.d.h.l) ([.int .i64 s.d.q] ++ (.int .i64 s.st :: .bool s.kn :: bts s.s.l) ++ [Value.map (some m)]) rfl s.d.h.len (by simp [Sw.ent, Sw.list, Dl.list])
theorem e_set (s : Sw) (m : Nat) (h : Hs) : over ((s.ent m).setIfInBounds 42 (.bool true)) 43 h.cells.toList = Sw.ent { s with kn := true, s := h } m := by
  obtain ⟨d, st, kn, e⟩ := s
  obtain ⟨i, r, p, g, hh, q⟩ := d
  obtain ⟨f, rfl⟩ := hh.form
  obtain ⟨f', rfl⟩ := e.form
  obtain ⟨f2, rfl⟩ := h.form
  kernel_rfl
def IsH (v : Value) : Prop := ∃ h : Hs, v = .agg h.cells
theorem is_h (h : Hs) : IsH (.agg h.cells) = True := eq_true ⟨h, rfl⟩
theorem eqg39 (w : World) (op : BinOp) (x y : Operand) (xs ys : Array Value) (ho : op = .neq ∨ op = .eql) : (eqGuard op 65 x y (.agg xs) (.agg ys)).run Tryz.prog w = .ok () w := by rcases ho with rfl | rfl <;> kernel_rfl
theorem neq_h (h : Hs) (w : World) : (binOp .neq 65 (.agg h.cells) (.agg h.cells)).run Tryz.prog w = .ok (.bool false) w := by
  obtain ⟨f, rfl⟩ := h.form
  have e := eq39 f 9998
  rw [hexp_eq]
  simp [go_sem, e]
theorem eneq39 (w : World) (ρ : Operand → Value) (x y : Operand) (dst : Option Tmp) (ty : TypeId) (pos : String) (af : Array Edge) (gd : Option (Nat × Bool)) (r : TypeId) (h1 : ρ x = ρ y) (h2 : IsH (ρ y)) : (execOp ρ ⟨dst, .binOp .neq 65 x y r, ty, pos, af, gd⟩).run Tryz.prog w = .ok (.value (.bool false)) w := by
  obtain ⟨m, hm⟩ := h2
  unfold execOp
  simp only [Sem.run_bind, h1, hm, eqg39 _ _ _ _ _ _ (.inl rfl), Result.andThen_ok, neq_h, Sem.run_pure]
theorem sl_in {w : World} {b o : Nat} {cs : Array Value} {h : Hs} (hr : rowOf w b = cs) (hs : sub cs o 32 = h.cells) : Sl w (some ⟨b, o, none⟩) 32 32 (bts h.l) := by
  refine ⟨h.len, Nat.le_refl _, (fun q => by cases q), .inr ⟨b, o, rfl, fun j x hj => ?_⟩⟩
  have := range_of_row hr o 32
  rw [hs] at this
  exact this j x hj
attribute [local go_sem ↓] rowOf_cell eneq39
attribute [local go_sem] rowOf_alloc soft_alloc rowOf_drew soft_drew rowOf_setCell soft_setCell rowOf_setRow soft_setRow frozen_of_soft Ext.row Ext.soft_ e_size e_42 e_h e_one is_h
set_option maxHeartbeats 1000000 in
theorem learns_any {w : World} (ht : Tabs w) {bk mb : Nat} {M : List (Int × En)} (h : BookAt w bk mb M) {k : Int} {e : En} (he : getA M k = some e) {r : Rc} (hkn : e.s.kn = false) (hs : sumH r.s.l = e.s.d.h) :
    Calls Tryz.prog 96 #[.pointer (some ⟨e.b, 0, none⟩), .agg r.cells] w fun x w' => x = .returned (.int .i64 0) ∧ BookAt w' bk mb (putA M k ⟨e.b, e.m, { e.s with kn := true, s := r.s }⟩) ∧ Turns (fun i _ => i = e.b) w w' := by
  have HE := (h.en _ (getA_mem he)).1
  have H := Lib.hid h
  have HA := Lib.hid he
  have HE := Lib.hid HE
  have HT := Lib.hid ht
  clear h he ht
  go_enter Tryz.func96, Tryz.ntmps96
  go_upto_region 1 with (fail)
  have bx := Bx.new w (r.cells) 119; generalize w.alloc (.cells (r.cells) 119) = W at bx ⊢; have rx := bx.rowOf; have sx := bx.soft; have BX := Lib.hid bx; clear bx
  have r1 := rowOf_of ((BX.out.below.block _ HE.out.lt.1).trans HE.out.row)
  have z1 := e_42 e.s e.m
  rw [hkn] at z1
  have z2 := e_h e.s e.m
  have z3 := e_size e.s e.m
  have KB : ∀ g : Ext W, Calls Tryz.prog 45 #[.slice (some ⟨w.heap.size, 43, none⟩) 32 32] g.val (Ret (.agg e.s.d.h.cells) g.val) := fun g => by
    rw [← hs]
    exact ret_of (Blake_any (HT.out.keep (Nat.le_refl _) (BX.out.step g.below).below) (sl_in (BX.out.step g.below).rowOf (r_s r)) (by decide))
  have KB := Lib.hid KB
  generalize hC : e.s.ent e.m = C at r1 z1 z2 z3
  have HC := Lib.hid hC
  have z4 : ∀ q : 42 < C.size, C[42]'q = .bool false := fun q => getg z1 q
  clear hC
  have hlt0 : w.heap.size < W.heap.size := (Array.getElem?_eq_some_iff.1 BX.out.row).1
  have hlt1 : e.b < W.heap.size := Nat.lt_of_lt_of_le HE.out.lt.1 BX.out.below.size
  go_upto_region 3 with (fail)
  (refine wp_region_grow (by kernel_rfl) (by kernel_rfl) ?_; (repeat (go_big_quiet_step (((go_at_call 45; exact Calls.ext_of (KB.out _)))))); refine wpQuiet_nil ?_; rintro _ ⟨g, rfl⟩)
  have bx := BX.out.step g.below
  have hE2 : g.val.heap[e.b]? = some (.cells C 148) := by
    rw [← HC.out]
    exact (bx.below.block _ HE.out.lt.1).trans HE.out.row
  have HB := Lib.hid (H.out.below bx.below)
  have rE := rowOf_of hE2
  have sE := soft_of hE2
  have hne : ¬ e.b = w.heap.size := Nat.ne_of_lt HE.out.lt.1
  clear BX KB rx sx r1 z1 z2 z4 hlt0 hlt1
  generalize g.val = V at *
  have rx := bx.rowOf
  have BX := Lib.hid bx
  have HE2 := Lib.hid hE2
  clear bx hE2
  go_wp2
  go_ret
  rw [setRow_after, ← HC.out, e_set]
  have hne2 : ∀ i, i ≠ e.b → (V.setRow e.b (Sw.ent { e.s with kn := true, s := r.s } e.m)).heap[i]? = V.heap[i]? := fun i hi => setRow_other _ _ _ _ hi
  have hlow : ∀ i, i ≠ e.b → i < w.heap.size → (V.setRow e.b (Sw.ent { e.s with kn := true, s := r.s } e.m)).heap[i]? = w.heap[i]? := fun i hi hl => (hne2 i hi).trans (BX.out.below.block i hl)
  refine ⟨rfl, ?_, ⟨BX.out.below.os, BX.out.below.tape, BX.out.below.output, Nat.le_trans BX.out.below.size (by simp [World.setRow]), fun i hi hF => hlow i (hF 0) hi⟩⟩
  exact HB.out.turn HA.out (setRow_heap V e.b C _ 148 _ HE2.out) hne2
end Go.Proofs.YtjkfondgacjpnaaGreatDoor

namespace Go.Proofs.YtjkfondgacjpnaaGreatDoor
open Go.RowKit
open Sx (MapIs getL putL KeyT keyInt Turns Foot)
set_option maxRecDepth 100000
attribute [local go_sem ↓] rowOf_cell
attribute [local go_sem] rowOf_alloc soft_alloc rowOf_drew soft_drew
theorem below_turns {F : Foot} {w W w' : World} (hb : Below w.heap.size w W) (h : Turns F W w') : Turns F w w' :=
  ⟨h.os.trans hb.os, h.tape.trans hb.tape, h.output.trans hb.output, Nat.le_trans hb.size h.size, fun k hk hF => (h.block k (Nat.lt_of_lt_of_le hk hb.size) hF).trans (hb.block k hk)⟩
theorem Apply_D {w : World} {bk mb : Nat} {M : List (Int × En)} (h : BookAt w bk mb M) {d : Dl} (hd : dealOk d = true) (hf : getA M d.i = none) (hl : M.length < 16) : Calls Tryz.prog 70 #[.pointer (some ⟨bk, 0, none⟩), .agg (rcD d).cells] w fun e w' => e = .returned (.int .i64 0) ∧ ∃ be bm, BookAt w' bk mb (putA M d.i ⟨be, bm, ⟨d, 1, false, Hs.zero⟩⟩) ∧ Turns (fun i _ => i = mb) w w' ∧ w.heap.size ≤ be ∧ w.heap.size ≤ bm := by
  have H := Lib.hid h
  have HF := Lib.hid hf
  have H1 := Lib.hid hd
  have HL := Lib.hid hl
  clear h hf hd hl
  go_enter Tryz.func70, Tryz.ntmps70
  go_upto_region 1 with (fail)
  have bx := Bx.new w ((rcD d).cells) 119; generalize w.alloc (.cells ((rcD d).cells) 119) = W at bx ⊢; have rx := bx.rowOf; have sx := bx.soft; have BX := Lib.hid bx; clear bx
  go_wp2_with fail
  refine (RCheck_D H1.out _).mono ?_; rintro _ W2 ⟨rfl, hb⟩; have bx := BX.out.step hb; clear BX rx sx hb; have rx := bx.rowOf; have sx := bx.soft; have BX := Lib.hid bx; clear bx
  have K := Lib.hid (deal_any (H.out.below BX.out.below) (rcD d) HF.out HL.out)
  go_wp2_with fail
  refine K.out.mono ?_
  rintro _ W3 ⟨rfl, be, bm, q1, q2, q3, q4⟩
  have Q1 := Lib.hid q1
  have Q2 := Lib.hid (below_turns BX.out.below q2)
  have hz := BX.out.below.size
  clear q1 q2 K
  go_wp2
  go_ret
  exact ⟨rfl, be, bm, Q1.out, Q2.out, by omega, by omega⟩
theorem run_ins {w : World} {es : Array MapEntry} {c r : Nat} {k : Int} {v : Value} (hr : r = w.heap.size) (hk : ∀ e ∈ es.toList, ∃ m, e.key = .int .i64 m ∧ m ≠ k) :
    (Instr.mapUpdate 195 (.map (some r)) (.int .i64 k) v).run Tryz.prog (w.alloc (.map es c)) = .ok () (w.alloc (.map (es.push ⟨.int .i64 k, v, c⟩) (c + 1))) := by
  subst hr
  have hK : KeyT Tryz.prog 3 IntK := keyInt Tryz.underlying3
  have h2 : (w.alloc (.map es c)).heap[w.heap.size]? = some (.map es c) := heap_alloc_new w _
  have hget := MapKept.run_getObj_map (P := Tryz.prog) h2
  have hfi := hK.find (.int .i64 k) es.toList (w.alloc (.map es c)) ⟨k, rfl⟩ (fun e he => by obtain ⟨m, hm, _⟩ := hk e he; exact ⟨m, hm⟩)
  have hno : Sx.findIx (.int .i64 k) es.toList 0 = none := by
    have gen : ∀ (l : List MapEntry) (i : Nat), (∀ e ∈ l, ∃ m, e.key = .int .i64 m ∧ m ≠ k) → Sx.findIx (.int .i64 k) l i = none := by
      intro l
      induction l with
      | nil => intro i _; rfl
      | cons a l ih =>
        intro i hl
        obtain ⟨m, hm, hn⟩ := hl a (List.mem_cons_self ..)
        unfold Sx.findIx
        rw [if_neg (by rw [hm]; intro q; injection q with _ q; exact hn q.symm)]
        exact ih (i + 1) fun e he => hl e (List.mem_cons_of_mem _ he)
    exact gen _ 0 hk
  rw [hno] at hfi
  have hset := MapKept.run_setObj_map (P := Tryz.prog) (.map (es.push ⟨.int .i64 k, v, c⟩) (c + 1)) h2
  simp only [Instr.mapUpdate, Sem.run_bind, run_underlying Tryz.underlying195, Result.andThen_ok, hget, hK.chk false (.int .i64 k) _ ⟨k, rfl⟩, hfi, hset]
  have e : (w.heap.push (.map es c)).setIfInBounds w.heap.size (.map (es.push ⟨.int .i64 k, v, c⟩) (c + 1)) = w.heap.push (.map (es.push ⟨.int .i64 k, v, c⟩) (c + 1)) := by
    apply Array.ext_getElem?
    intro i
    rw [Array.getElem?_setIfInBounds, Array.getElem?_push, Array.getElem?_push]
    by_cases q : w.heap.size = i
    · subst q; simp
    · rw [if_neg q, if_neg (Ne.symm q)]
      simp [Ne.symm q]
  show Result.ok () { w with heap := (w.heap.push (.map es c)).setIfInBounds w.heap.size _ } = Result.ok () { w with heap := w.heap.push _ }
  rw [e]
theorem run_first {w : World} {v v2 v3 : Value} {r : Nat} (hr : r = w.heap.size) : (Instr.lookup 195 (.map (some r)) (.int .i64 2) false).run Tryz.prog (w.alloc (.map #[⟨.int .i64 2, v, 0⟩, ⟨.int .i64 3, v2, 1⟩, ⟨.int .i64 4, v3, 2⟩] 3)) = .ok v (w.alloc (.map #[⟨.int .i64 2, v, 0⟩, ⟨.int .i64 3, v2, 1⟩, ⟨.int .i64 4, v3, 2⟩] 3)) := by
  subst hr
  have hK : KeyT Tryz.prog 3 IntK := keyInt Tryz.underlying3
  have h2 := heap_alloc_new w (.map #[⟨.int .i64 2, v, 0⟩, ⟨.int .i64 3, v2, 1⟩, ⟨.int .i64 4, v3, 2⟩] 3)
  have hget := MapKept.run_getObj_map (P := Tryz.prog) h2
  generalize hW : w.alloc (.map #[⟨.int .i64 2, v, 0⟩, ⟨.int .i64 3, v2, 1⟩, ⟨.int .i64 4, v3, 2⟩] 3) = W at *
  have hfi := hK.find (.int .i64 2) [⟨.int .i64 2, v, 0⟩, ⟨.int .i64 3, v2, 1⟩, ⟨.int .i64 4, v3, 2⟩] W ⟨2, rfl⟩ (fun e he => by
    simp only [List.mem_cons, List.not_mem_nil, or_false] at he
    rcases he with rfl | rfl | rfl
    · exact ⟨2, rfl⟩
    · exact ⟨3, rfl⟩
    · exact ⟨4, rfl⟩)
  have hf : Sx.findIx (.int .i64 2) [⟨.int .i64 2, v, 0⟩, ⟨.int .i64 3, v2, 1⟩, ⟨.int .i64 4, v3, 2⟩] 0 = some (0, v) := by
    unfold Sx.findIx
    rw [if_pos rfl]
  rw [hf] at hfi
  simp only [Instr.lookup, Sem.run_bind, run_underlying Tryz.underlying195, Result.andThen_ok, hget, Sem.run_pure, hK.chk _ (.int .i64 2) W ⟨2, rfl⟩, hfi]
  rfl
attribute [local go_sem] Sx.run_mk rowOf_map
theorem Apply_S {w : World} (ht : Tabs w) {bk mb : Nat} {M : List (Int × En)} (h : BookAt w bk mb M) {k : Int} {e : En} (hi : wi k 1 1073741824 = true) (he : getA M k = some e) {s : Hs} (hkn : e.s.kn = false) (hs : sumH s.l = e.s.d.h) :
    Calls Tryz.prog 70 #[.pointer (some ⟨bk, 0, none⟩), .agg (rcS k s).cells] w fun x w' => x = .returned (.int .i64 0) ∧ BookAt w' bk mb (putA M k ⟨e.b, e.m, { e.s with kn := true, s := s }⟩) ∧ Turns (fun i _ => i = e.b) w w' := by
  have H := Lib.hid h
  have HA := Lib.hid he
  have HT := Lib.hid ht
  have HI := Lib.hid hi
  clear h he ht hi
  go_enter Tryz.func70, Tryz.ntmps70
  go_upto_region 1 with (fail)
  have bx := Bx.new w ((rcS k s).cells) 119; generalize w.alloc (.cells ((rcS k s).cells) 119) = W at bx ⊢; have rx := bx.rowOf; have sx := bx.soft; have BX := Lib.hid bx; clear bx
  go_wp2_with fail
  refine (RCheck_S HI.out _).mono ?_; rintro _ W2 ⟨rfl, hb⟩; have bx := BX.out.step hb; clear BX rx sx hb; have rx := bx.rowOf; have sx := bx.soft; have BX := Lib.hid bx; clear bx
  have hB := (H.out.below BX.out.below)
  have r0 := rowOf_of hB.ob
  have L := (hB.drew.look k).1
  rw [HA.out] at L
  replace L : (Instr.lookup 142 (.map (some mb)) (.int .i64 k) false).run Tryz.prog W2.drew = .ok (.pointer (some ⟨e.b, 0, none⟩)) W2.drew := L
  have HB := Lib.hid hB.drew
  clear hB
  go_upto_region 6 with (fail)
  go_region
  have bx := BX.out.step (Below.refl _ W2).drew
  clear BX rx sx r0 L
  generalize W2.drew = V at *
  have rx := bx.rowOf
  have sx := bx.soft
  have BX := Lib.hid bx
  clear bx
  go_upto_region 9 with (fail)
  have hlt := (Array.getElem?_eq_some_iff.1 BX.out.row).1
  have hne : (w.heap.size = V.heap.size) = False := eq_false (by omega)
  obtain ⟨f1, hf1⟩ : ∃ f, f = Value.func (Fn.func 96) #[.pointer (some ⟨e.b, 0, none⟩)] #[] := ⟨_, rfl⟩
  obtain ⟨f2, hf2⟩ : ∃ f, f = Value.func (Fn.func 97) #[.pointer (some ⟨e.b, 0, none⟩)] #[] := ⟨_, rfl⟩
  obtain ⟨f3, hf3⟩ : ∃ f, f = Value.func (Fn.func 98) #[.pointer (some ⟨e.b, 0, none⟩)] #[] := ⟨_, rfl⟩
  have I1 : (Instr.mapUpdate 195 (.map (some V.heap.size)) (.int .i64 2) f1).run Tryz.prog (V.alloc (.map #[] 0)) = .ok () (V.alloc (.map #[⟨.int .i64 2, f1, 0⟩] 1)) := run_ins rfl (by intro e he; simp at he)
  have I2 : (Instr.mapUpdate 195 (.map (some V.heap.size)) (.int .i64 3) f2).run Tryz.prog (V.alloc (.map #[⟨.int .i64 2, f1, 0⟩] 1)) = .ok () (V.alloc (.map #[⟨.int .i64 2, f1, 0⟩, ⟨.int .i64 3, f2, 1⟩] 2)) := run_ins rfl (by
    intro e he
    simp only [List.mem_cons, List.not_mem_nil, or_false] at he
    subst he
    exact ⟨2, rfl, by decide⟩)
  have I3 : (Instr.mapUpdate 195 (.map (some V.heap.size)) (.int .i64 4) f3).run Tryz.prog (V.alloc (.map #[⟨.int .i64 2, f1, 0⟩, ⟨.int .i64 3, f2, 1⟩] 2)) = .ok () (V.alloc (.map #[⟨.int .i64 2, f1, 0⟩, ⟨.int .i64 3, f2, 1⟩, ⟨.int .i64 4, f3, 2⟩] 3)) := run_ins rfl (by
    intro e he
    simp only [List.mem_cons, List.not_mem_nil, or_false] at he
    rcases he with rfl | rfl
    · exact ⟨2, rfl, by decide⟩
    · exact ⟨3, rfl, by decide⟩)
  have I4 : (Instr.lookup 195 (.map (some V.heap.size)) (.int .i64 2) false).run Tryz.prog (V.alloc (.map #[⟨.int .i64 2, f1, 0⟩, ⟨.int .i64 3, f2, 1⟩, ⟨.int .i64 4, f3, 2⟩] 3)) = .ok f1 (V.alloc (.map #[⟨.int .i64 2, f1, 0⟩, ⟨.int .i64 3, f2, 1⟩, ⟨.int .i64 4, f3, 2⟩] 3)) := run_first rfl
  have hb : Below V.heap.size V (V.alloc (.map #[⟨.int .i64 2, f1, 0⟩, ⟨.int .i64 3, f2, 1⟩, ⟨.int .i64 4, f3, 2⟩] 3)) := (Below.refl _ V).alloc (Nat.le_refl _) _
  have K := Lib.hid (learns_any (HT.out.keep (Nat.le_refl _) (BX.out.step hb).below) (HB.out.below hb) HA.out (r := rcS k s) hkn hs)
  have HY := Lib.hid (BX.out.step hb).below
  subst hf1 hf2 hf3
  clear hb hlt
  go_wp2_with fail
  refine K.out.mono ?_
  rintro _ W5 ⟨rfl, q1, q2⟩
  have Q1 := Lib.hid q1
  have Q2 := Lib.hid (below_turns HY.out q2)
  clear q1 q2 K HY I1 I2 I3 I4 hne rx sx
  go_wp2
  go_ret
  exact ⟨rfl, Q1.out, Q2.out⟩
end Go.Proofs.YtjkfondgacjpnaaGreatDoor

namespace Go.Proofs.YtjkfondgacjpnaaGreatDoor
open Go.RowKit Go.Shelf
open Sx (MapIs getL putL KeyT keyInt Turns Foot)
set_option maxRecDepth 100000
attribute [local go_sem] Oper.semAt_some

theorem keys1_nil {W : World} {Bs mb c l : Nat} (hBs : W.cell? ⟨Bs, 0, none⟩ = some (.map (some mb))) (hm : W.heap[mb]? = some (.map #[] c)) : Calls Tryz.prog 87 #[.func (.yield l) #[] #[], .pointer (some ⟨Bs, 0, none⟩)] W fun e W' => (∃ v, e = .returned v) ∧ Below W.heap.size W W' := by
  have hlt := (Array.getElem?_eq_some_iff.1 hm).1
  go_enter Tryz.func87, Tryz.ntmps87
  go_wp2_with (at_range; refine wpList_range_raw _ rfl _ 142 rfl 3 143 Tryz.underlying142 mb #[] c rfl hm ?_)
  obtain ⟨W0, hW0⟩ : ∃ W0, W0 = W.alloc (.mapIter (some mb) c #[] c) := ⟨_, rfl⟩
  have hb : Below W.heap.size W W0 := by rw [hW0]; exact (Below.refl _ W).alloc (Nat.le_refl _) _
  have hrg : Ranging W0 W.heap.size mb c #[] c #[] := ⟨⟨c, by rw [hW0]; exact heap_alloc_new W _, Nat.le_refl _⟩, (hb.block mb hlt).trans hm, fun x hx => by simp at hx⟩
  rw [← hW0]
  clear hW0
  go_frame
  go_loopw [3] (fun _ wr => wr = W0) (fun _ _ => 0)
  case atStart => rfl
  case round =>
    subst hrel
    go_wp2_with (at_next; refine wpList_next_raw _ rfl _ rfl W.heap.size mb c #[] c #[] rfl hrg (by omega) (Nat.le_refl _) (by simp) ?_ ?_)
    · intro _
      go_wp2
      go_end0
      exact ⟨⟨_, rfl⟩, hb⟩
    · intro e w' he
      simp [leftOf] at he
theorem keys_stops {w : World} {n Bs mb c : Nat} {n₀ : Nat} (hB : Bs < w.heap.size) (hc : w.cell? ⟨Bs, 0, none⟩ = some (.map (some mb))) (hm : w.heap[mb]? = some (.map #[] c)) :
    SeqStopsK Fence.wide n Tryz.prog 87 #[.pointer (some ⟨Bs, 0, none⟩)] (fun x : Int => #[Value.int .i64 x]) (Below n₀) (fun ys => ys = []) (fun _ => False) 0 w := fun l J Jx W hW hJ _ _ h0 => by
  have hc' := (hW.cell (p := ⟨Bs, 0, none⟩) hB).trans hc
  have hm' := (hW.block mb (Array.getElem?_eq_some_iff.1 hm).1).trans hm
  refine (callsIn_wide.2 (keys1_nil hc' hm')).mono ?_
  rintro e W' ⟨h1, h2⟩
  exact ⟨h1, .inl ⟨[], rfl, hJ [] W W' none h0 ⟨h2.os, h2.tape, h2.output, h2.size, fun k hk _ => h2.block k hk⟩ (fun r e => by cases e)⟩⟩
set_option maxHeartbeats 1000000 in
theorem appendSeq_nil {w : World} {Bs mb c : Nat} (hc : w.cell? ⟨Bs, 0, none⟩ = some (.map (some mb))) (hm : w.heap[mb]? = some (.map #[] c)) :
    Calls Tryz.prog 109 #[.slice none 0 0, .func (.func 87) #[] #[.pointer (some ⟨Bs, 0, none⟩)]] w fun e w' => e = .returned (.slice none 0 0) ∧ Below w.heap.size w w' := by
  have hBl : Bs < w.heap.size := World.block_lt_of_cell? w ⟨Bs, 0, none⟩ hc
  refine (callsIn_wide (n := 5)).1 ?_
  refine callsIn_of_wp_marks Tryz.func109 rfl trivial ?_ rfl
  simp only [Tryz.ntmps109, List.size_toArray, List.length_cons, List.length_nil, Nat.reduceAdd, Nat.reduceSub, Array.replicate_succ, Array.replicate_zero, List.push_toArray, List.append_toArray, List.nil_append, List.cons_append]
  gi_wp2
  have bO := Boxed.new w 22 (.slice none 0 0)
  have hB0 : Below w.heap.size w (w.alloc (.cells #[.slice none 0 0] 22)) := (Below.refl _ w).alloc (Nat.le_refl _) _
  refine wpIn_rangeFunc_ownG rfl (by decide) (gf := 87) (lb := #[.pointer (some ⟨Bs, 0, none⟩)]) rfl trivial (enters_of Tryz.func87 (by kernel_rfl) rfl)
    (keys_stops (n₀ := w.heap.size) (w := w.alloc (.cells #[.slice none 0 0] 22)) (by simp; omega) ((hB0.cell (p := ⟨Bs, 0, none⟩) hBl).trans hc) ((hB0.block mb (Array.getElem?_eq_some_iff.1 hm).1).trans hm)) belowK_t (belowK_b (by simp)) (Below.refl _ _) (fun _ => rfl)
    (fun (pre : List Int) W => (∃ v, Boxed W w.heap.size 22 v ∧ W.ownsRow w.heap.size 3 1 v pre.length (pre.map (Value.int .i64)) ∧ (v = .slice none 0 0 ↔ pre = [])) ∧ Below w.heap.size w W)
    (fun _ _ _ => False)
    (OwnFrom.and (Own.from (holdsRow_own w.heap.size w.heap.size 22 3 1 (fun pre : List Int => pre.length) (fun pre => pre.map (Value.int .i64)) (fun pre v => v = .slice none 0 0 ↔ pre = [])) _) (ownFrom_below (Nat.le_refl _) (by simp)))
    (fun _ _ _ _ _ hs _ _ => hs)
    ⟨⟨_, bO, World.ownsRow_nil _ _ _ _, by simp⟩, hB0⟩
    (fun x => { tmps := #[.slice none 0 0, .func (.func 87) #[] #[.pointer (some ⟨Bs, 0, none⟩)], .pointer (some ⟨w.heap.size, 0, none⟩), undef, .slice none 0 0, .int .i64 x, .func (.func 87) #[] #[.pointer (some ⟨Bs, 0, none⟩)], .int .i64 x, undef, undef, undef, undef, undef], defers := [] }) ?assign ?body ?done ?stop
  case assign =>
    intro l x W K hK
    gi_wp2
    exact hK
  case body =>
    intro l pre x W _ hlt
    omega
  case done =>
    rintro D ys' W hD rfl ⟨⟨v, hv, hrow, hnil⟩, hB⟩ hK
    obtain rfl := hnil.2 rfl
    have hc := hv.cell
    gi_wp2
    refine ⟨by simp, .inl ⟨_, _, rfl, run_takeDeferred hK, ?_⟩⟩
    exact ⟨_, results_tmp rfl _ _ _, rfl, hB.trans (belowK_b (w := w) (Nat.le_refl _) _ D _ _ (by simp at hD; omega) hK rfl rfl)⟩
  case stop =>
    rintro D c pre W _ _ h _
    exact h.elim
theorem insSort_nil (w : World) : Calls Tryz.prog 149 #[.slice none 0 0, .int .i64 0, .int .i64 0] w fun e w' => (∃ v, e = .returned v) ∧ w' = w := by
  go_enter Tryz.func149, Tryz.ntmps149
  go_wp2
  go_loopw [6] (fun i wr => i = .int .i64 1 ∧ wr = w) (fun _ _ => 0)
  case atStart => exact ⟨rfl, rfl⟩
  case round =>
    obtain ⟨rfl, rfl⟩ := hrel
    go_wp2
    go_end0
    exact ⟨⟨_, rfl⟩, rfl⟩
theorem len_zero (w : World) : Calls Tryz.prog 111 #[.int .u64 0] w fun e w' => (∃ v, e = .returned v) ∧ w' = w := by
  go_enter Tryz.func111, Tryz.ntmps111
  go_wp2
  go_ret
  exact ⟨⟨_, rfl⟩, rfl⟩
theorem pdq_nil (w : World) (v : Value) : Calls Tryz.prog 110 #[.slice none 0 0, .int .i64 0, .int .i64 0, v] w fun e w' => (∃ v, e = .returned v) ∧ w' = w := by
  go_enter Tryz.func110, Tryz.ntmps110
  go_wp2
  go_loopw [1, 2] (fun i j wr => i = .int .i64 0 ∧ j = .int .i64 0 ∧ wr = w) (fun _ _ _ => 0)
  case atStart => exact ⟨rfl, rfl, rfl⟩
  case round =>
    obtain ⟨rfl, rfl, rfl⟩ := hrel
    go_wp2_with (go_at_call 149; refine (insSort_nil _).mono ?_; rintro _ _ ⟨⟨v, rfl⟩, rfl⟩)
    refine bodyPost_ret (results_none rfl _ _ _) rfl ?_
    exact ⟨⟨_, rfl⟩, rfl⟩
theorem sort_nil (w : World) : Calls Tryz.prog 81 #[.slice none 0 0] w fun e w' => (∃ v, e = .returned v) ∧ w' = w := by
  go_enter Tryz.func81, Tryz.ntmps81
  go_wp2_with (first
    | (go_at_call 111; refine (len_zero _).mono ?_; rintro _ _ ⟨⟨v, rfl⟩, rfl⟩)
    | (go_at_call 110; refine (pdq_nil _ _).mono ?_; rintro _ _ ⟨⟨v, rfl⟩, rfl⟩))
  go_end0
  exact ⟨⟨_, rfl⟩, rfl⟩
theorem keys_any (w : World) (mb : Nat) : Calls Tryz.prog 59 #[.map (some mb)] w fun e w' => e = .returned (.func (.func 87) #[] #[.pointer (some ⟨w.heap.size, 0, none⟩)]) ∧ w' = w.alloc (.cells #[.map (some mb)] 142) := by
  go_enter Tryz.func59, Tryz.ntmps59
  go_wp2
  go_ret
  exact ⟨rfl, rfl⟩
theorem collect_nil {w : World} {Bs mb c : Nat} (hc : w.cell? ⟨Bs, 0, none⟩ = some (.map (some mb))) (hm : w.heap[mb]? = some (.map #[] c)) :
    Calls Tryz.prog 80 #[.func (.func 87) #[] #[.pointer (some ⟨Bs, 0, none⟩)]] w fun e w' => e = .returned (.slice none 0 0) ∧ Below w.heap.size w w' := by
  have K := Lib.hid (appendSeq_nil hc hm)
  clear hc hm
  go_enter Tryz.func80, Tryz.ntmps80
  go_wp2_with fail
  refine K.out.mono ?_
  rintro _ W ⟨rfl, hb⟩
  have HB := Lib.hid hb
  go_wp2
  go_ret
  exact ⟨rfl, HB.out⟩
theorem sorted_nil {w : World} {Bs mb c : Nat} (hc : w.cell? ⟨Bs, 0, none⟩ = some (.map (some mb))) (hm : w.heap[mb]? = some (.map #[] c)) :
    Calls Tryz.prog 55 #[.func (.func 87) #[] #[.pointer (some ⟨Bs, 0, none⟩)]] w fun e w' => e = .returned (.slice none 0 0) ∧ Below w.heap.size w w' := by
  have K := Lib.hid (collect_nil hc hm)
  clear hc hm
  go_enter Tryz.func55, Tryz.ntmps55
  go_wp2_with fail
  refine K.out.mono ?_
  rintro _ W ⟨rfl, hb⟩
  have HB := Lib.hid hb
  go_wp2_with (go_at_call 81; refine (sort_nil _).mono ?_; rintro _ _ ⟨⟨v, rfl⟩, rfl⟩)
  go_ret
  exact ⟨rfl, HB.out⟩
theorem Ids_nil {w : World} {bk mb : Nat} (h : BookAt w bk mb []) : Calls Tryz.prog 33 #[.pointer (some ⟨bk, 0, none⟩)] w fun e w' => e = .returned (.slice none 0 0) ∧ Below w.heap.size w w' := by
  have r0 : w.cell? ⟨bk, 0, none⟩ = some (.map (some mb)) := by rw [rowOf_cell, rowOf_of h.ob]; rfl
  obtain ⟨es, c, e1, e2, _⟩ := h.mp
  have hes : es = #[] := by
    have := e2.1.length_eq
    simp [encA] at this
    exact this
  subst hes
  have hl := (Array.getElem?_eq_some_iff.1 e1).1
  have hb : Below w.heap.size w (w.alloc (.cells #[.map (some mb)] 142)) := (Below.refl _ w).alloc (Nat.le_refl _) _
  have K := Lib.hid (sorted_nil (w := w.alloc (.cells #[.map (some mb)] 142)) (Bs := w.heap.size) (by rw [rowOf_cell, rowOf_of (heap_alloc_new w _)]; rfl) ((hb.block mb hl).trans e1))
  have HB := Lib.hid hb
  clear e1 e2 hl hb h
  go_enter Tryz.func33, Tryz.ntmps33
  go_wp2_with (first
    | (go_at_call 59; refine (keys_any _ _).mono ?_; rintro _ _ ⟨rfl, rfl⟩)
    | (go_at_call 55; refine K.out.mono ?_; rintro _ W ⟨rfl, hb⟩; have HC := Lib.hid (HB.out.trans (hb.mono HB.out.size)); clear hb))
  go_ret
  exact ⟨rfl, HC.out⟩
end Go.Proofs.YtjkfondgacjpnaaGreatDoor
