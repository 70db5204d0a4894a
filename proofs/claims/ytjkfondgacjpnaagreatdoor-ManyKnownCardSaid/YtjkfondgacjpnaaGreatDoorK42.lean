/- What is proved: parts of the walk and of the plain law, 5 texts in one. No condition but those each law names. -/
import Derived.Test.YtjkfondgacjpnaaGreatDoorK41
import Derived.Shelf.SlIterI.Nil
import Derived.Shelf.SortM.Plain
import Derived.Shelf.SortM.SortNone
import Derived.Test.YtjkfondgacjpnaaGreatDoorProg
import Derived.Test.YtjkfondgacjpnaaGreatDoorK04
import Derived.Test.YtjkfondgacjpnaaGreatDoorK33
import Derived.Test.YtjkfondgacjpnaaGreatDoorK37
namespace Go.Proofs.YtjkfondgacjpnaaGreatDoor
open Go.RowKit
open Sx (Ab DW Turns Did Foot MapIs)
set_option maxRecDepth 100000
structure ElemG (P : Program) (t e : TypeId) (size : Nat) : Prop where
  und : P.underlying t = some (.slice e)
  pos : 0 < size
  info : ∃ i z, P.info? e = some i ∧ i.zero = some z ∧ i.size = size ∧ i.bytes ≤ 1024 ∧ z.cells.size = size
theorem ElemG.mk' {P : Program} {t e : TypeId} {size bytes : Nat} {z : Value} (hu : P.underlying t = some (.slice e)) (h : (P.info? e).map (fun i => (i.zero, i.size, i.bytes)) = some (some z, size, bytes)) (hz : z.cells.size = size) (hs : 0 < size) (hb : bytes ≤ 1024) : ElemG P t e size := by
  obtain ⟨i, h1, h2, h3, h4⟩ := info_parts h
  exact ⟨hu, hs, i, z, h1, h2, h3, by omega, hz⟩
theorem wp_app_big {P : Program} {t e : TypeId} {size : Nat} (E : ElemG P t e size) {ops : Array Oper} {rest : List Oper} {o : Oper} {a : Act} {w : World} {Q : Exit → Act → World → Prop} (hgd : o.guard = none) (s x : Operand)
    (ho : o.op = .call { callee := .builtin .append, args := #[s, x], argTypes := #[t, t] })
    {B : Nat} {v : Value} {n : Nat} {xs : List Value} (hs : a.eval s = v) (hown : w.ownsRow B e size v n xs)
    {ad : Addr} {m c : Nat} {news : List Value} (hx : a.eval x = .slice (some ad) m c) (hl : news.length = m * size)
    (hnews : ∀ (j : Nat) u, news[j]? = some u → w.cell? (ad.add j) = some u) (h1 : ∀ u ∈ news, u.oneCell' = true)
    (hm : 0 < m) (h63 : n + m ≤ 1000000) (hB : B ≤ w.heap.size)
    (h : ∀ g cap w', w'.ownsRow B e size (.slice (some ⟨g, 0, none⟩) (n + m) cap) (n + m) (xs ++ news) → w.grownBy w' v.ownBlock → (v.ownBlock = some g ∨ g = w.heap.size) → g < w'.heap.size → wpList P ops Q rest (a.put o.dst (.slice (some ⟨g, 0, none⟩) (n + m) cap)) w') : wpList P ops Q (o :: rest) a w := by
  obtain ⟨hu, hpos, i, z, hi, hz, hsz, hby, hzs⟩ := E
  refine wpList_append_lies w hgd s x t ho B e i z size i.bytes hu hi hz hsz rfl hzs hpos v n xs hs hown ad m c news hx hl hnews h1 hm (by exact Nat.le_trans h63 (by decide)) ?_ hB w.heap.size rfl h
  calc (n + m) * i.bytes ≤ 1000000 * 1024 := Nat.mul_le_mul h63 hby
    _ ≤ 140737488355328 := by decide

attribute [local go_sem ↓] rowOf_cell
attribute [local go_sem] rowOf_alloc soft_alloc rowOf_drew soft_drew rowOf_setRow soft_setRow rowOf_setCell soft_setCell frozen_of_soft rowOf_map soft_map Sx.run_mk Ext.row Ext.soft_ seed_lit conv_seed
structure Start (w w' : World) (S : MS) (n : Nat) : Prop where
  mw : MW w' S
  u : Below w.heap.size w S.u
  L : S.X.L = []
  nbx : S.nb = S.X.nb
  nodes : S.X.nodes = n
  now : S.now = ⟨100, 200, 0⟩
  fr : ∀ j, 1 ≤ j → j ≤ n → Fresh S j
  no : ∀ j : Nat, n < j → S.nd j = none ∧ S.tm j = none ∧ S.ds j = .none
  at_ : ∀ j : Int, (j < 1 ∨ n < j) → getA S.nodes j = none
def tms : Nat → List Value
  | 0 => []
  | k + 1 => tms k ++ T26.cells.toList
theorem tms_len : ∀ k, (tms k).length = k * 9
  | 0 => rfl
  | k + 1 => by
    show (tms k ++ T26.cells.toList).length = _
    rw [List.length_append, tms_len k]
    show k * 9 + 9 = _
    omega
theorem tms_at : ∀ (n k : Nat), k < n → ((tms n).drop (k * 9)).take 9 = T26.cells.toList
  | 0, k, h => absurd h (Nat.not_lt_zero _)
  | n + 1, k, h => by
    show ((tms n ++ T26.cells.toList).drop (k * 9)).take 9 = _
    by_cases e : k = n
    · subst e
      rw [List.drop_append_of_le_length (by rw [tms_len]; omega), List.drop_of_length_le (by rw [tms_len]; omega)]
      rfl
    · rw [List.drop_append_of_le_length (by rw [tms_len]; omega), List.take_append_of_le_length (by rw [List.length_drop, tms_len]; omega)]
      exact tms_at n k (by omega)
theorem elemT : ElemG Tryz.prog 55 53 9 := ElemG.mk' Tryz.underlying55 (by kernel_rfl) (z := .agg (Tm.cells ⟨0, 0, 0, 0, 0, 0, 0, 0, 0⟩)) (bytes := 72) rfl (by decide) (by decide)
theorem tm_ones : ∀ u ∈ T26.cells.toList, u.oneCell' = true := by decide
theorem tms_own {w : World} {B k cap : Nat} {ao : Option Addr} (hk : 0 < k) (h : w.ownsRow B 53 9 (.slice ao k cap) k (tms k)) : ∃ g cur, ao = some ⟨g, 0, none⟩ ∧ w.heap[g]? = some (.cells cur 53) ∧ ∀ j, j < k → sub cur (j * 9) 9 = T26.cells ∧ j * 9 + 9 ≤ cur.size := by
  rcases h.2 with ⟨hv, hn, _⟩ | ⟨g, cp, cur, hv, _, hh, hn, _, hs, ht⟩
  · cases hv; omega
  · cases hv
    refine ⟨g, cur, rfl, hh, fun j hj => ?_⟩
    have hz : cur.size = cap * 9 := hs
    have e : j * 9 + 9 ≤ k * 9 := by omega
    have e2 : k * 9 ≤ cur.size := by rw [hz]; exact Nat.mul_le_mul_right 9 hn
    refine ⟨?_, by omega⟩
    apply Array.ext'
    rw [show (sub cur (j * 9) 9).toList = (cur.toList.drop (j * 9)).take 9 from by simp [sub], ← tms_at k j hj, ← ht, List.drop_take, List.take_take, Nat.min_eq_left (by omega)]
theorem t26_fold : Array.foldl (fun cs x => cs.setIfInBounds x.snd x.fst) (#[.int .i64 0, .int .i64 0, .int .i64 0, .int .i64 0, .int .i64 0, .int .i64 0, .int .i64 0, .int .i64 0, .int .i64 0] : Array Value) T26.cells.zipIdx 0 9 = T26.cells := by kernel_rfl
attribute [local go_sem] t26_fold
set_option maxHeartbeats 1000000 in
theorem made_any {w : World} {n : Nat} (hn : 2 ≤ n ∧ n ≤ 8) : Calls Tryz.prog 5 #[.int .i64 n] w fun e w' => ∃ S, e = .returned (.pointer (some ⟨S.wb, 0, none⟩)) ∧ Start w w' S n := by
  go_enter Tryz.func5, Tryz.ntmps5
  go_upto_region 3 with (fail)
  go_loopw [3, 4] (fun l i wr => ∃ (k : Nat) (ao : Option Addr) (cap : Nat), k ≤ n ∧ i = .int .i64 k ∧ l = .slice ao k cap ∧ wr.ownsRow w.heap.size 53 9 (.slice ao k cap) k (tms k) ∧ Below w.heap.size w wr) (fun _ i _ => n - (intOf i).toNat)
  case atStart => exact ⟨0, none, 0, Nat.zero_le _, rfl, rfl, World.ownsRow_nil _ _ _ _, Below.refl _ w⟩
  case round =>
    obtain ⟨k, ao, cap, hk, rfl, rfl, hown, hb⟩ := hrel
    have HO := Lib.hid hown
    have HB := Lib.hid hb
    clear hown hb
    by_cases hlt : k < n
    · have i1 : (k : Int) < n := by omega
      go_wp2_with fail
      refine (Terms_any wr).mono ?_
      rintro _ W1 ⟨rfl, b1⟩
      have hb1 := HB.out.trans (b1.mono HB.out.size)
      have ho1 : W1.ownsRow w.heap.size 53 9 (.slice ao k cap) k (tms k) := own_ext HO.out (Ext.of b1)
      have HB1 := Lib.hid hb1
      have HO1 := Lib.hid ho1
      clear b1 hb1 ho1
      go_wp2_with (at_builtin; go_loud (refine wp_app_big elemT rfl _ _ rfl (B := w.heap.size) (v := .slice ao k cap) (n := k) (xs := tms k) (news := T26.cells.toList) rfl (HO1.out.alloc _) rfl rfl (World.news_of_block (heap_alloc_new W1 (.cells T26.cells 53))) tm_ones (by decide) (by omega) (by have := HB1.out.size; simp; omega) ?_); intro g cap2 w2 hown2 hgr hat hlt2)
      have hb2 : Below w.heap.size w w2 := (HB1.out.trans (((Below.refl _ W1).alloc (Nat.le_refl _) (.cells T26.cells 53)).mono HB1.out.size)).grown hgr (by have := HB1.out.size; simp; omega) (own_block (HO1.out.alloc (.cells T26.cells 53)))
      clear hgr hat hlt2
      go_wp2
      go_roundw
      case rel => exact ⟨k + 1, _, _, by omega, rfl, rfl, hown2, hb2⟩
      case measure => simp [intOf]; omega
    · obtain rfl : k = n := by omega
      obtain ⟨g, cur, rfl, hg, hc⟩ := tms_own (by omega) HO.out
      have B1 : Below wr.heap.size wr (seedW wr) := by unfold seedW; exact (Below.refl _ wr).alloc (Nat.le_refl _) _
      have hs : Sl (seedW wr) (some ⟨wr.heap.size, 0, none⟩) 4 4 (bts seedL) := sl_marked wr seedC 5 4 wr.heap.size (4, 5) rfl rfl
      have NM := Lib.hid (New_many (w := seedW wr) (tb := g) (tc := cap) hn ((B1.block g (Array.getElem?_eq_some_iff.1 hg).1).trans hg) hc hs (by decide) (fun b o e => by cases e; simp [seedW]))
      have HB2 := Lib.hid (HB.out.trans (B1.mono HB.out.size))
      clear B1 hs hg hc
      go_wp2_with (go_at_call 21; refine NM.out.mono ?_; rintro _ W2 ⟨S, rfl, m⟩; have HM := Lib.hid m; clear m NM)
      have T0 := Turn_0 HM.out.mw (n := 100) (eq_false (by decide)) (by rw [HM.out.now]; exact eq_false (by decide +kernel)) (by rw [HM.out.now]; rfl)
      refine T0.mono ?_
      rintro _ W3 ⟨rfl, g3⟩
      have T1 := Turn_1 g3.mw (n := 200) (eq_false (by decide)) (by show (_ > wrap64 (1073741824 - S.now.b)) = False; rw [HM.out.now]; exact eq_false (by decide +kernel)) (by show IntKind.i64.wrap (S.now.b + 200) = S.now.b + 200; rw [HM.out.now]; rfl)
      dsimp only at T1
      have T1 := Lib.hid T1
      clear g3 T0
      go_wp2_with (go_at_call 19; refine T1.out.mono ?_; rintro _ W4 ⟨rfl, g4⟩)
      go_ret
      have HM := HM.out
      refine ⟨{ S with now := ⟨S.now.a + 100, S.now.b + 200, S.now.c⟩ }, rfl, g4.mw, HM.u ▸ HB2.out, HM.L, HM.nbx, HM.nodes, ?_, fun j h1 h2 => ?_, HM.no, HM.at_⟩
      · show Cl.mk (S.now.a + 100) (S.now.b + 200) S.now.c = _
        rw [HM.now]
        rfl
      · obtain ⟨m, E, a, b⟩ := HM.fr j h1 h2
        exact ⟨m, E, ⟨a.nd, a.ds, a.tm, a.at_, a.xv, a.dv, a.nt, a.t, a.seed, a.s0, a.sl⟩, b⟩
end Go.Proofs.YtjkfondgacjpnaaGreatDoor

namespace Go.Proofs.YtjkfondgacjpnaaGreatDoor
open Go.Shelf Go.RowKit Go.Maps Go.Sort
def keysD_ren : Go.Shelf.Ren := ⟨fun | 7 => 56 | 10 => 82 | n => n, fun | 23 => 102 | 26 => 3 | 3 => 136 | 28 => 133 | 0 => 0 | 27 => 132 | 33 => 49 | 4 => 4 | n => n, fun | n => n⟩
theorem keysD : Go.Proofs.SlLaysZI.n7 Tryz.prog keysD_ren := {
  mixed := by kernel_rfl
  f7 := ⟨Tryz.f56.name, by decide, Tryz.func56.trans (congrArg some (by kernel_rfl))⟩
  f10 := ⟨Tryz.f82.name, by decide, Tryz.func82.trans (congrArg some (by kernel_rfl))⟩
  t0 := Tryz.underlying0
  a0 := Tryz.isAgg0
  z0 := Tryz.sizeOf0
  v0 := Tryz.zeroValue0
  t4 := Tryz.underlying4
  a4 := Tryz.isAgg4
  z4 := Tryz.sizeOf4
  v4 := Tryz.zeroValue4
  t23 := Tryz.underlying102
  a23 := Tryz.isAgg102
  z23 := Tryz.sizeOf102
  v23 := Tryz.zeroValue102
  t26 := Tryz.underlying3
  a26 := Tryz.isAgg3
  z26 := Tryz.sizeOf3
  v26 := Tryz.zeroValue3
  t27 := Tryz.underlying132
  a27 := Tryz.isAgg132
  z27 := Tryz.sizeOf132
  v27 := Tryz.zeroValue132
  t28 := Tryz.underlying133
  a28 := Tryz.isAgg133
  z28 := Tryz.sizeOf133
  v28 := Tryz.zeroValue133
  t33 := Tryz.underlying49
  a33 := Tryz.isAgg49
  z33 := Tryz.sizeOf49
  v33 := Tryz.zeroValue49 }
def keysB_ren : Go.Shelf.Ren := ⟨fun | 7 => 59 | 10 => 87 | n => n, fun | 23 => 142 | 26 => 3 | 3 => 143 | 28 => 133 | 0 => 0 | 27 => 132 | 33 => 49 | 4 => 4 | n => n, fun | n => n⟩
theorem keysB : Go.Proofs.SlLaysZI.n7 Tryz.prog keysB_ren := {
  mixed := by kernel_rfl
  f7 := ⟨Tryz.f59.name, by decide, Tryz.func59.trans (congrArg some (by kernel_rfl))⟩
  f10 := ⟨Tryz.f87.name, by decide, Tryz.func87.trans (congrArg some (by kernel_rfl))⟩
  t0 := Tryz.underlying0
  a0 := Tryz.isAgg0
  z0 := Tryz.sizeOf0
  v0 := Tryz.zeroValue0
  t4 := Tryz.underlying4
  a4 := Tryz.isAgg4
  z4 := Tryz.sizeOf4
  v4 := Tryz.zeroValue4
  t23 := Tryz.underlying142
  a23 := Tryz.isAgg142
  z23 := Tryz.sizeOf142
  v23 := Tryz.zeroValue142
  t26 := Tryz.underlying3
  a26 := Tryz.isAgg3
  z26 := Tryz.sizeOf3
  v26 := Tryz.zeroValue3
  t27 := Tryz.underlying132
  a27 := Tryz.isAgg132
  z27 := Tryz.sizeOf132
  v27 := Tryz.zeroValue132
  t28 := Tryz.underlying133
  a28 := Tryz.isAgg133
  z28 := Tryz.sizeOf133
  v28 := Tryz.zeroValue133
  t33 := Tryz.underlying49
  a33 := Tryz.isAgg49
  z33 := Tryz.sizeOf49
  v33 := Tryz.zeroValue49 }
def sortedA_ren : Go.Shelf.Ren := ⟨fun | 6 => 55 | 8 => 80 | 9 => 81 | 11 => 109 | 13 => 111 | 12 => 110 | 23 => 158 | 24 => 159 | 14 => 149 | 15 => 150 | 16 => 151 | 17 => 152 | 18 => 153 | 19 => 154 | 20 => 155 | 21 => 156 | 22 => 157 | 25 => 205 | 26 => 206 | 27 => 207 | 28 => 208 | 29 => 209 | 30 => 210 | 31 => 242 | n => n, fun | 26 => 3 | 28 => 133 | 24 => 22 | 0 => 0 | 3 => 3 | 37 => 189 | 48 => 186 | 50 => 180 | 4 => 4 | 40 => 264 | 39 => 263 | 45 => 268 | 5 => 5 | 9 => 9 | 51 => 310 | 55 => 100 | 57 => 342 | 58 => 45 | 33 => 49 | n => n, fun | n => n⟩
theorem sortedA : Go.Proofs.SlLaysZI.n6 Tryz.prog sortedA_ren := {
  mixed := by kernel_rfl
  f6 := ⟨Tryz.f55.name, by decide, Tryz.func55.trans (congrArg some (by kernel_rfl))⟩
  f8 := ⟨Tryz.f80.name, by decide, Tryz.func80.trans (congrArg some (by kernel_rfl))⟩
  f11 := ⟨Tryz.f109.name, by decide, Tryz.func109.trans (congrArg some (by kernel_rfl))⟩
  t0 := Tryz.underlying0
  a0 := Tryz.isAgg0
  z0 := Tryz.sizeOf0
  v0 := Tryz.zeroValue0
  t24 := Tryz.underlying22
  a24 := Tryz.isAgg22
  z24 := Tryz.sizeOf22
  v24 := Tryz.zeroValue22
  t26 := Tryz.underlying3
  a26 := Tryz.isAgg3
  z26 := Tryz.sizeOf3
  v26 := Tryz.zeroValue3
  t28 := Tryz.underlying133
  a28 := Tryz.isAgg133
  z28 := Tryz.sizeOf133
  v28 := Tryz.zeroValue133
  i26 := by kernel_rfl }
def sortA_ren : Go.Shelf.Ren := ⟨fun | 5 => 81 | 8 => 111 | 7 => 110 | 19 => 158 | 20 => 159 | 10 => 149 | 11 => 150 | 12 => 151 | 13 => 152 | 14 => 153 | 15 => 154 | 16 => 155 | 17 => 156 | 18 => 157 | 30 => 205 | 31 => 206 | 32 => 207 | 33 => 208 | 34 => 209 | 35 => 210 | 40 => 242 | n => n, fun | 23 => 22 | 25 => 3 | 3 => 3 | 32 => 189 | 22 => 22 | 0 => 0 | 44 => 186 | 46 => 180 | 4 => 4 | 36 => 264 | 35 => 263 | 41 => 268 | 5 => 5 | 9 => 9 | 53 => 310 | 57 => 100 | 63 => 342 | 64 => 45 | n => n, fun | n => n⟩
theorem sortA : Go.Proofs.SlLaysM.n5 Tryz.prog sortA_ren := {
  mixed := by kernel_rfl
  f5 := ⟨Tryz.f81.name, by decide, Tryz.func81.trans (congrArg some (by kernel_rfl))⟩
  f7 := ⟨Tryz.f110.name, by decide, Tryz.func110.trans (congrArg some (by kernel_rfl))⟩
  f8 := Tryz.func111.trans (congrArg some (by kernel_rfl))
  f10 := ⟨Tryz.f149.name, by decide, Tryz.func149.trans (congrArg some (by kernel_rfl))⟩
  f11 := ⟨Tryz.f150.name, by decide, Tryz.func150.trans (congrArg some (by kernel_rfl))⟩
  f12 := ⟨Tryz.f151.name, by decide, Tryz.func151.trans (congrArg some (by kernel_rfl))⟩
  f13 := ⟨Tryz.f152.name, by decide, Tryz.func152.trans (congrArg some (by kernel_rfl))⟩
  f14 := ⟨Tryz.f153.name, by decide, Tryz.func153.trans (congrArg some (by kernel_rfl))⟩
  f15 := ⟨Tryz.f154.name, by decide, Tryz.func154.trans (congrArg some (by kernel_rfl))⟩
  f16 := ⟨Tryz.f155.name, by decide, Tryz.func155.trans (congrArg some (by kernel_rfl))⟩
  f17 := ⟨Tryz.f156.name, by decide, Tryz.func156.trans (congrArg some (by kernel_rfl))⟩
  f18 := ⟨Tryz.f157.name, by decide, Tryz.func157.trans (congrArg some (by kernel_rfl))⟩
  f19 := Tryz.func158.trans (congrArg some (by kernel_rfl))
  f20 := Tryz.func159.trans (congrArg some (by kernel_rfl))
  f30 := ⟨Tryz.f205.name, by decide, Tryz.func205.trans (congrArg some (by kernel_rfl))⟩
  f31 := Tryz.func206.trans (congrArg some (by kernel_rfl))
  f32 := Tryz.func207.trans (congrArg some (by kernel_rfl))
  f33 := ⟨Tryz.f208.name, by decide, Tryz.func208.trans (congrArg some (by kernel_rfl))⟩
  f34 := ⟨Tryz.f209.name, by decide, Tryz.func209.trans (congrArg some (by kernel_rfl))⟩
  f35 := ⟨Tryz.f210.name, by decide, Tryz.func210.trans (congrArg some (by kernel_rfl))⟩
  f40 := ⟨Tryz.f242.name, by decide, Tryz.func242.trans (congrArg some (by kernel_rfl))⟩
  t0 := Tryz.underlying0
  a0 := Tryz.isAgg0
  z0 := Tryz.sizeOf0
  v0 := Tryz.zeroValue0
  t3 := Tryz.underlying3
  a3 := Tryz.isAgg3
  z3 := Tryz.sizeOf3
  v3 := Tryz.zeroValue3
  t4 := Tryz.underlying4
  a4 := Tryz.isAgg4
  z4 := Tryz.sizeOf4
  v4 := Tryz.zeroValue4
  t5 := Tryz.underlying5
  a5 := Tryz.isAgg5
  z5 := Tryz.sizeOf5
  v5 := Tryz.zeroValue5
  t9 := Tryz.underlying9
  a9 := Tryz.isAgg9
  z9 := Tryz.sizeOf9
  v9 := Tryz.zeroValue9
  t22 := Tryz.underlying22
  a22 := Tryz.isAgg22
  z22 := Tryz.sizeOf22
  v22 := Tryz.zeroValue22
  t23 := Tryz.underlying22
  a23 := Tryz.isAgg22
  z23 := Tryz.sizeOf22
  v23 := Tryz.zeroValue22
  t25 := Tryz.underlying3
  a25 := Tryz.isAgg3
  z25 := Tryz.sizeOf3
  v25 := Tryz.zeroValue3
  t32 := Tryz.underlying189
  a32 := Tryz.isAgg189
  z32 := Tryz.sizeOf189
  v32 := Tryz.zeroValue189
  t35 := Tryz.underlying263
  a35 := Tryz.isAgg263
  z35 := Tryz.sizeOf263
  v35 := Tryz.zeroValue263
  t36 := Tryz.underlying264
  a36 := Tryz.isAgg264
  z36 := Tryz.sizeOf264
  v36 := Tryz.zeroValue264
  t41 := Tryz.underlying268
  a41 := Tryz.isAgg268
  z41 := Tryz.sizeOf268
  v41 := Tryz.zeroValue268
  t44 := Tryz.underlying186
  a44 := Tryz.isAgg186
  z44 := Tryz.sizeOf186
  v44 := Tryz.zeroValue186
  t46 := Tryz.underlying180
  a46 := Tryz.isAgg180
  z46 := Tryz.sizeOf180
  v46 := Tryz.zeroValue180
  t53 := Tryz.underlying310
  a53 := Tryz.isAgg310
  z53 := Tryz.sizeOf310
  v53 := Tryz.zeroValue310
  t57 := Tryz.underlying100
  a57 := Tryz.isAgg100
  z57 := Tryz.sizeOf100
  v57 := Tryz.zeroValue100
  t63 := Tryz.underlying342
  a63 := Tryz.isAgg342
  z63 := Tryz.sizeOf342
  v63 := Tryz.zeroValue342
  t64 := Tryz.underlying45
  a64 := Tryz.isAgg45
  z64 := Tryz.sizeOf45
  v64 := Tryz.zeroValue45 }
theorem sortsA (m : Nat) : AnyZI.SortsIn Tryz.prog sortedA_ren Fence.wide m :=
  ⟨fun blk off cap ss W hH hblk hsz => callsIn_wide.2 (AnyM.slices_Sort_int sortA blk off cap ss W hH hblk hsz),
   fun p cap W => callsIn_wide.2 (AnyM.slices_Sort_int_none sortA p cap W)⟩
end Go.Proofs.YtjkfondgacjpnaaGreatDoor

namespace Go.Proofs.YtjkfondgacjpnaaGreatDoor
open Sx
open Go.RowKit (Below)
open Go.WideElems (Fit rd rg rg_of)
set_option maxRecDepth 100000
def leI' : Int → Int → Bool := fun x y => decide (x ≤ y)
theorem keysD_calls (mb : Option Nat) (w : World) : Calls Tryz.prog 56 #[.map mb] w fun e w' => e = .returned (.func (.func 82) #[] #[.pointer (some ⟨w.heap.size, 0, none⟩)]) ∧ w' = w.alloc (.cells #[.map mb] 102) :=
  (callsIn_wide (n := 5)).1 (AnyZI.keys_in keysD Fence.wide 5 trivial rfl mb w)
theorem keysB_calls (mb : Option Nat) (w : World) : Calls Tryz.prog 59 #[.map mb] w fun e w' => e = .returned (.func (.func 87) #[] #[.pointer (some ⟨w.heap.size, 0, none⟩)]) ∧ w' = w.alloc (.cells #[.map mb] 142) :=
  (callsIn_wide (n := 5)).1 (AnyZI.keys_in keysB Fence.wide 5 trivial rfl mb w)
theorem rd_int {e : MapEntry} {k : Int} (h1 : e.key = .int .i64 k) (h2 : -9223372036854775808 ≤ k ∧ k ≤ 9223372036854775807) : rd Tryz.prog 3 (fun _ => some ((DataW.nil : DataW Unit), [])) e = some (Lit.int .i64 k, DataW.nil) := by
  have hwf : (Lit.int .i64 k).wf = true := by
    show (decide ((-9223372036854775808 : Int) ≤ k) && decide (k ≤ (9223372036854775807 : Int))) = true
    rw [decide_eq_true (by omega), decide_eq_true (by omega)]
    rfl
  unfold rd keyOf
  rw [h1, Tryz.underlying3]
  simp [mapKey, hwf]
theorem sor_of {w : World} {f : FuncId} {b r : Nat} {es : Array MapEntry} {cl : Nat} (hr : w.heap[r]? = some (.map es cl)) (hst : MapKept.Stamped es cl) (hk : ∀ e ∈ es.toList, ∃ k : Int, e.key = .int .i64 k ∧ -9223372036854775808 ≤ k ∧ k ≤ 9223372036854775807) (hsz : es.size ≤ 512)
    (hs : ∀ (D : List (Lit × DataW Unit)), w.ownsMap Tryz.prog 3 (fun _ => some ((DataW.nil : DataW Unit), [])) r es.size (DataW.map D) → SeqGives Fence.wide 2 Tryz.prog f #[.pointer (some ⟨b, 0, none⟩)] encZ (fun ss => ss.Perm (intKeys (DataW.map D))) (Maps.size (DataW.map D)) w)
    (he : Enters Tryz.prog f) :
    Calls Tryz.prog 55 #[.func (.func f) #[] #[.pointer (some ⟨b, 0, none⟩)]] w fun e w' => ∃ (v : Value) (ss : List Int), e = .returned v ∧ ss.Perm (es.toList.map fun e => intOf e.key) ∧
      w'.ownsRow w.heap.size 3 1 v ss.length ((ss.mergeSort leI').map encZ) ∧ (v = .slice none 0 0 ↔ ss = []) ∧ Below w.heap.size w w' := by
  have hrd : ∀ e ∈ es.toList, ∃ k : Int, e.key = .int .i64 k ∧ rd Tryz.prog 3 (fun _ => some ((DataW.nil : DataW Unit), [])) e = some (Lit.int .i64 k, DataW.nil) := fun e he => by
    obtain ⟨k, h1, h2⟩ := hk e he
    exact ⟨k, h1, rd_int h1 h2⟩
  have hfit : Fit Tryz.prog 3 (fun _ => some ((DataW.nil : DataW Unit), [])) es cl := ⟨Nat.le_trans hsz (by decide), hst, fun e he => by obtain ⟨k, _, h⟩ := hrd e he; exact ⟨_, h⟩⟩
  have hown : w.ownsMap Tryz.prog 3 (fun _ => some ((DataW.nil : DataW Unit), [])) r es.size (DataW.map ((es.toList.map (rg Tryz.prog 3 (fun _ => some ((DataW.nil : DataW Unit), [])))).foldr DataW.insert [])) := ⟨es, cl, hr, hfit, Nat.le_refl _, rfl⟩
  have hsize : Maps.size (DataW.map ((es.toList.map (rg Tryz.prog 3 (fun _ => some ((DataW.nil : DataW Unit), [])))).foldr DataW.insert [])) = es.size := by simp [Maps.size, Go.length_sorted]
  have hseq := hs _ hown
  have cS := AnyZI.sorted_in sortedA Fence.wide 5 trivial trivial trivial trivial rfl (by omega) (sortsA _) (enters_of Tryz.func81 (by kernel_rfl) rfl) f #[.pointer (some ⟨b, 0, none⟩)] trivial he _ _ (by rw [hsize]; exact Nat.le_trans hsz (by decide)) (by rw [hsize]; omega) w hseq
  refine ((callsIn_wide (n := 5)).1 cS).mono ?_
  rintro e w' ⟨v, ss, rfl, hS, hrow, hnil, hbe⟩
  refine ⟨v, ss, rfl, hS.trans ?_, hrow, hnil, hbe⟩
  show (List.map _ _).Perm _
  refine ((WideShapes.sorted_perm _).map _).trans ?_
  rw [List.map_map]
  refine List.Perm.of_eq (List.map_congr_left fun e he => ?_)
  obtain ⟨k, h1, h2⟩ := hrd e he
  show Go.intOf (rg _ _ _ e).1 = _
  rw [rg_of h2, h1]
  rfl
theorem sorD {w : World} {b r : Nat} {es : Array MapEntry} {cl : Nat} (hb : w.cell? ⟨b, 0, none⟩ = some (.map (some r))) (hr : w.heap[r]? = some (.map es cl)) (hst : MapKept.Stamped es cl) (hk : ∀ e ∈ es.toList, ∃ k : Int, e.key = .int .i64 k ∧ -9223372036854775808 ≤ k ∧ k ≤ 9223372036854775807) (hsz : es.size ≤ 512) :
    Calls Tryz.prog 55 #[.func (.func 82) #[] #[.pointer (some ⟨b, 0, none⟩)]] w fun e w' => ∃ (v : Value) (ss : List Int), e = .returned v ∧ ss.Perm (es.toList.map fun e => intOf e.key) ∧
      w'.ownsRow w.heap.size 3 1 v ss.length ((ss.mergeSort leI').map encZ) ∧ (v = .slice none 0 0 ↔ ss = []) ∧ Below w.heap.size w w' :=
  sor_of hr hst hk hsz (fun _ ho => AnyZI.keys_gives (ρ := keysD_ren) { keysD with } Fence.wide _ trivial rfl (by omega) b r es.size _ w (cell_some_lt hb) hb ho) (enters_of Tryz.func82 (by kernel_rfl) rfl)
theorem sorB {w : World} {b r : Nat} {es : Array MapEntry} {cl : Nat} (hb : w.cell? ⟨b, 0, none⟩ = some (.map (some r))) (hr : w.heap[r]? = some (.map es cl)) (hst : MapKept.Stamped es cl) (hk : ∀ e ∈ es.toList, ∃ k : Int, e.key = .int .i64 k ∧ -9223372036854775808 ≤ k ∧ k ≤ 9223372036854775807) (hsz : es.size ≤ 512) :
    Calls Tryz.prog 55 #[.func (.func 87) #[] #[.pointer (some ⟨b, 0, none⟩)]] w fun e w' => ∃ (v : Value) (ss : List Int), e = .returned v ∧ ss.Perm (es.toList.map fun e => intOf e.key) ∧
      w'.ownsRow w.heap.size 3 1 v ss.length ((ss.mergeSort leI').map encZ) ∧ (v = .slice none 0 0 ↔ ss = []) ∧ Below w.heap.size w w' :=
  sor_of hr hst hk hsz (fun _ ho => AnyZI.keys_gives (ρ := keysB_ren) { keysB with } Fence.wide _ trivial rfl (by omega) b r es.size _ w (cell_some_lt hb) hb ho) (enters_of Tryz.func87 (by kernel_rfl) rfl)
end Go.Proofs.YtjkfondgacjpnaaGreatDoor

namespace Go.Proofs.YtjkfondgacjpnaaGreatDoor
open Go.RowKit
set_option maxRecDepth 100000
attribute [local go_sem ↓] rowOf_cell
theorem keys_perm {es : Array MapEntry} {M : List (Int × En)} (h : Sx.MapIs (prs es) (encA En.pt M)) : (es.toList.map fun e => intOf e.key).Perm (M.map (·.1)) := by
  have h1 := h.1.map (fun p => intOf p.1)
  simp only [prs, encA, List.map_map] at h1
  exact h1
theorem Ids_any {w : World} {bk mb : Nat} {M : List (Int × En)} (h : BookAt w bk mb M) (hl : M.length ≤ 16) (hi : ∀ p ∈ M, I64 p.1) : Calls Tryz.prog 33 #[.pointer (some ⟨bk, 0, none⟩)] w fun e w' => ∃ v ss, e = .returned v ∧ ss.Perm (M.map (·.1)) ∧ w'.ownsRow w.heap.size 3 1 v ss.length ((ss.mergeSort leI').map encZ) ∧ (v = .slice none 0 0 ↔ ss = []) ∧ Below w.heap.size w w' := by
  have r0 := rowOf_of h.ob
  obtain ⟨es, c, e1, e2, e3⟩ := h.mp
  have hsz : es.size ≤ 16 := by
    have := e2.1.length_eq
    simp [encA, prs] at this
    omega
  have hb0 := (Array.getElem?_eq_some_iff.1 e1).1
  have hb : Below w.heap.size w (w.alloc (.cells #[.map (some mb)] 142)) := (Below.refl _ w).alloc (Nat.le_refl _) _
  have hk : ∀ e ∈ es.toList, ∃ k : Int, e.key = .int .i64 k ∧ -9223372036854775808 ≤ k ∧ k ≤ 9223372036854775807 := fun e he => by
    have hm : (e.key, e.val) ∈ encA En.pt M := e2.1.mem_iff.1 (List.mem_map.2 ⟨e, he, rfl⟩)
    obtain ⟨q, hq, e⟩ := List.mem_map.1 hm
    have := hi q hq
    unfold I64 at this
    exact ⟨q.1, (congrArg Prod.fst e).symm, by omega, by omega⟩
  have K := Lib.hid (sorB (w := w.alloc (.cells #[.map (some mb)] 142)) (b := w.heap.size) (by rw [rowOf_cell, rowOf_of (heap_alloc_new w _)]; rfl) ((hb.block mb hb0).trans e1) e3 hk (by omega))
  have KP := Lib.hid (keys_perm e2)
  have HB := Lib.hid hb
  clear e1 e2 e3 hk hb hb0 hsz h hi
  go_enter Tryz.func33, Tryz.ntmps33
  go_wp2_with (first
    | (go_at_call 59; refine (keysB_calls _ _).mono ?_; rintro _ _ ⟨rfl, rfl⟩)
    | (go_at_call 55; refine K.out.mono ?_; rintro _ W ⟨v, ss, rfl, hp, ho, hn, hb⟩; have HC := Lib.hid (HB.out.trans (hb.mono HB.out.size)); have HO := Lib.hid (And.intro hp (And.intro ho hn)); clear hb hp ho hn))
  go_ret
  exact ⟨_, ss, rfl, HO.out.1.trans KP.out, own_base HO.out.2.1 HB.out.size, HO.out.2.2, HC.out⟩
end Go.Proofs.YtjkfondgacjpnaaGreatDoor

namespace Go.Proofs.YtjkfondgacjpnaaGreatDoor
open Go.RowKit
open Sx (Ab DW Turns Did Foot MapIs)
set_option maxRecDepth 100000
attribute [local go_sem ↓] rowOf_cell
attribute [local go_sem] rowOf_alloc soft_alloc rowOf_drew soft_drew rowOf_setRow soft_setRow rowOf_setCell soft_setCell frozen_of_soft rowOf_map soft_map Sx.run_mk Ext.row Ext.soft_
theorem MW.keep {w w' : World} {S : MS} (h : MW w S) (hb : Below w.heap.size w w') : MW w' S := (h.below hb).mw
theorem MW.up {w w' : World} {S : MS} (h : MW w S) (hb : Below S.u.heap.size S.u w) (hw : Below w.heap.size w w') : Below S.u.heap.size S.u w' := hb.trans (hw.mono (h.at_ .base |>.size))
theorem say_any {w : World} {S : MS} (h : MW w S) (hnb : S.nb = S.X.nb) {m : Msg} {l : List Nat} (hput : ∀ w, Below S.u.heap.size S.u w → Calls Tryz.prog 49 #[.agg m.cells] w (RetRec l w)) (hll : l.length ≤ 400) (hn : S.X.L.length < 1000) {a b : Int} (a1 : (a ≥ 1) = True) (a2 : (a ≤ S.X.nodes) = True) (b1 : (b ≥ 1) = True) (b2 : (b ≤ S.X.nodes) = True) (hab : (a != b) = true) :
    Calls Tryz.prog 27 #[.pointer (some ⟨S.wb, 0, none⟩), .int .i64 a, .int .i64 b, .agg m.cells] w fun e w' => e = .returned (.tuple #[]) ∧ ∃ X', Goes w S w' { S with X := X' } ∧ X'.says = S.X.says ++ [(a, b, l)] ∧ X'.nodes = S.X.nodes ∧ X'.nb = S.X.nb := by
  have H := Lib.hid h
  have HP := Lib.hid hput
  have HC := Lib.hid (And.intro hll (And.intro hn (And.intro a1 (And.intro a2 (And.intro b1 (And.intro b2 hab))))))
  clear h hput hll hn a1 a2 b1 b2 hab
  go_enter Tryz.func27, Tryz.ntmps27
  go_upto_region 1 with (fail)
  have bx := Bx.new w (m.cells) 67; generalize w.alloc (.cells (m.cells) 67) = W at bx ⊢; have rx := bx.rowOf; have sx := bx.soft; have BX := Lib.hid bx; clear bx
  have P := Lib.hid (HP.out W (H.out.up H.out.low BX.out.below))
  go_wp2_with fail
  refine P.out.mono ?_
  rintro _ V ⟨ao, c, rfl, hb, ho⟩
  have hbw : Below w.heap.size w V := BX.out.below.trans (hb.mono BX.out.below.size)
  have G := H.out.below hbw
  have r0 := rowOf_of G.mw.wrAt
  rw [hnb] at r0
  have SD := Lib.hid (Send_any G.mw.netAt (eq_false (by have := HC.out.2.1; omega)) HC.out.2.2.1 HC.out.2.2.2.1 HC.out.2.2.2.2.1 HC.out.2.2.2.2.2.1 HC.out.2.2.2.2.2.2 (Sl.own ho) (eq_true (by have := HC.out.1; omega)))
  have GG := Lib.hid G
  clear G ho hb hbw rx sx BX P HP
  go_wp2_with fail
  refine SD.out.mono ?_
  rintro _ Z ⟨rfl, X', t, e⟩
  have g2 := GG.out.mw.net t
  have g3 := GG.out.trans g2
  have T := Lib.hid t
  have G3 := Lib.hid g3
  clear t g2 g3
  go_wp2
  go_end0
  exact ⟨rfl, X', G3.out, e, T.out.nodes, T.out.nb⟩
end Go.Proofs.YtjkfondgacjpnaaGreatDoor

namespace Go.Proofs.YtjkfondgacjpnaaGreatDoor
open Go.RowKit
open Sx (Ab DW Turns Did Foot MapIs)
set_option maxRecDepth 100000
attribute [local go_sem ↓] rowOf_cell
attribute [local go_sem] rowOf_alloc soft_alloc rowOf_drew soft_drew rowOf_setRow soft_setRow rowOf_setCell soft_setCell frozen_of_soft rowOf_map soft_map Sx.run_mk Ext.row Ext.soft_
structure Live (S : MS) (j : Nat) (n : Nd) (D : Dm) : Prop where
  nd : S.nd j = some n
  ds : S.ds j = .live D
  at_ : getA S.nodes j = some (ptA n.b)
  xv : n.xv = ptA D.xb
theorem NodeIs.live {S : MS} {j : Nat} {n : Nd} {D : Dm} {l : List (Int × Value)} (h : NodeIs S j n D l) : Live S j n D := ⟨h.nd, h.ds, h.at_, h.xv⟩
theorem MS.at_some {S : MS} {k : Int} {v : Value} (h : getA S.nodes k = some v) : S.at_ k = v := by unfold MS.at_; rw [h]; rfl
theorem Live.row {S : MS} {j : Nat} {n : Nd} {D : Dm} (h : Live S j n D) {w : World} (m : MW w S) : rowOf w n.b = ndC (.pointer (some ⟨D.xb, 0, none⟩)) n.t n.sv n.dv n.tv := by
  have := rowOf_of (m.ndAt h.nd).row
  unfold Nd.cells at this
  rw [h.xv] at this
  exact this
theorem Live.dae {S : MS} {j : Nat} {n : Nd} {D : Dm} (h : Live S j n D) {w : World} (m : MW w S) : Dae w D := m.daAt h.ds
theorem Live.drow {S : MS} {j : Nat} {n : Nd} {D : Dm} (h : Live S j n D) {w : World} (m : MW w S) : rowOf w D.xb = dmC D.t D.sv D.jb D.bk false := rowOf_of (h.dae m).row
theorem Live.off {S : MS} {j : Nat} {n : Nd} {D : Dm} (h : Live S j n D) {w : World} (m : MW w S) : Calls Tryz.prog 25 #[ptA n.b] w fun e w' => e = .returned (.bool false) ∧ w' = w := off_any (h.row m) (h.drow m)
def PH (nb wb b1 b2 : Nat) (N C P G : Array Value) (w' : World) : Prop := rowOf w' nb = N ∧ rowOf w' wb = C ∧ rowOf w' b1 = P ∧ rowOf w' b2 = G
section
variable {nb wb b1 b2 B : Nat} {N C P G : Array Value}
theorem rowOf_same {w w' : World} {b : Nat} (h : w'.heap[b]? = w.heap[b]?) : rowOf w' b = rowOf w b := by unfold rowOf; rw [h]
theorem PH.keep {w w' : World} (h : PH nb wb b1 b2 N C P G w) (h1 : w'.heap[nb]? = w.heap[nb]?) (h2 : w'.heap[wb]? = w.heap[wb]?) (h3 : w'.heap[b1]? = w.heap[b1]?) (h4 : w'.heap[b2]? = w.heap[b2]?) : PH nb wb b1 b2 N C P G w' :=
  ⟨(rowOf_same h1).trans h.1, (rowOf_same h2).trans h.2.1, (rowOf_same h3).trans h.2.2.1, (rowOf_same h4).trans h.2.2.2⟩
theorem PH.alloc {w : World} (o : Obj) (h : PH nb wb b1 b2 N C P G w) (hz : nb < B ∧ wb < B ∧ b1 < B ∧ b2 < B) (hB : B ≤ w.heap.size) : PH nb wb b1 b2 N C P G (w.alloc o) :=
  h.keep ((MapKept.heap_alloc _ _).2 _ (by omega)) ((MapKept.heap_alloc _ _).2 _ (by omega)) ((MapKept.heap_alloc _ _).2 _ (by omega)) ((MapKept.heap_alloc _ _).2 _ (by omega))
theorem heap_setRow_ne (w : World) {b i : Nat} (C : Array Value) (h : i ≠ b) : (w.setRow b C).heap[i]? = w.heap[i]? := by
  exact setRow_other _ _ _ _ h
theorem Goes.set {w w' : World} {S S' : MS} (h : Goes w S w' S') {b : Nat} (hb : w.heap.size ≤ b) (hn : ¬ S'.all b) (C : Array Value) : Goes w S (w'.setRow b C) S' :=
  ⟨h.mw.apart (Q := (· = b)) ⟨rfl, rfl, rfl, Nat.le_of_eq (by simp [World.setRow]), fun i hi => heap_setRow_ne _ _ hi⟩ fun i hi => hi ▸ hn, ⟨h.comp.os, h.comp.tape, h.comp.output, by have := h.comp.size; simpa [World.setRow] using this, fun i hi hq => ⟨(heap_setRow_ne _ _ (by omega)).trans (h.comp.keep i hi hq).1, (h.comp.keep i hi hq).2⟩⟩⟩
theorem PH.set {w : World} {b : Nat} (X : Array Value) (h : PH nb wb b1 b2 N C P G w) (hz : nb < B ∧ wb < B ∧ b1 < B ∧ b2 < B) (hB : B ≤ b) : PH nb wb b1 b2 N C P G (w.setRow b X) :=
  h.keep (heap_setRow_ne _ _ (by omega)) (heap_setRow_ne _ _ (by omega)) (heap_setRow_ne _ _ (by omega)) (heap_setRow_ne _ _ (by omega))
end
theorem propose_idE {d : Dl} (h : errD d = 0) : idE d.i (propE (proposeM d)) = 0 ∧ I64 d.i ∧ LgI d.p ∧ LgI d.g :=
  accept_ok (d := d) (by
    unfold errD at h
    split at h
    · assumption
    · exact absurd h (by decide))
theorem end_a {w Z : World} {S S' : MS} (g : Goes w S Z S') (C0 C : Array Value) (ty : TypeId) : ∃ mb Y, mb = Z.heap.size ∧ Y = (Z.alloc (.cells C0 ty)).setRow Z.heap.size C ∧ Goes w S Y S' ∧ rowOf Y mb = C ∧ soft Y mb = true := by
  have b := Bx.made Z C0 C ty
  exact ⟨_, _, rfl, rfl, g.trans (g.mw.below b.below), b.rowOf, b.soft⟩
theorem end_b {w Z : World} {S S' : MS} (g : Goes w S Z S') {b : Nat} (hb : w.heap.size ≤ b) (hn : ¬ S'.all b) (C : Array Value) (hs : soft Z b = true) : ∃ mb Y, mb = b ∧ Y = Z.setRow b C ∧ Goes w S Y S' ∧ rowOf Y mb = C ∧ soft Y mb = true := by
  refine ⟨_, _, rfl, rfl, g.set hb hn C, ?_, ?_⟩
  · rw [rowOf_setRow _ _ _ _ hs, if_pos rfl]
  · rw [soft_setRow]; exact hs
set_option maxHeartbeats 1000000 in
theorem Propose_ok {w : World} {S : MS} (h : MW w S) (hnb : S.nb = S.X.nb) (hF : Forms S.u) (hT : Tabs S.u) {a b : Nat} {n : Nd} {D : Dm} (is : Live S a n D) {nb2 : Nat} (is2 : S.at_ b = ptA nb2) (hL : Lies w D (· = []) []) (hk : TmK D.t) (hsl : D.seed.length ≤ 64) (hab : a ≠ b) (ha : 1 ≤ a ∧ (a : Int) ≤ S.X.nodes) (hb : 1 ≤ b ∧ (b : Int) ≤ S.X.nodes)
    {i : Int} {p g : Lg} (hi : I64 i) (hc : errD (proposeD D i b p g S.now) = 0) (l1 : (p.a < D.t.least) = False) (l2 : (p.a > D.t.most) = False) (hn : S.X.L.length < 1000) :
    Calls Tryz.prog 10 #[.pointer (some ⟨S.wb, 0, none⟩), .int .i64 a, .int .i64 b, .int .i64 i, .agg p.cells, .agg g.cells] w fun e w' => e = .returned (.int .i64 0) ∧ ∃ X' D', Goes w S w' { S with X := X', ds := upd S.ds a (.live D') } ∧
      Lies w' D' (With [] i ⟨proposeD D i b p g S.now, 1, true, secretH (D.seed ++ intI i)⟩) ([(1, putD (proposeD D i b p g S.now))] ++ [(1, putS i (secretH (D.seed ++ intI i)))]) ∧ X'.says = S.X.says ++ [((a : Int), (b : Int), putLM (proposeM (proposeD D i b p g S.now)))] ∧ X'.nodes = S.X.nodes ∧ X'.nb = S.X.nb ∧
      D'.xb = D.xb ∧ D'.t = D.t ∧ D'.seed = D.seed ∧ D'.dv = D.dv := by
  have ab : ((a : Int) == b) = false := by simp; omega
  have H := Lib.hid h
  have IS := Lib.hid is
  have HL := Lib.hid hL
  have HH := Lib.hid (And.intro hi (And.intro hc (And.intro l1 (And.intro l2 (And.intro hn (And.intro ha hb))))))
  have HK := Lib.hid (And.intro hk (And.intro hsl (And.intro hF hT)))
  have I2 := Lib.hid is2
  clear h is hL hi hc l1 l2 hn is2 ha hb hk hsl hF hT
  go_enter Tryz.func10, Tryz.ntmps10
  go_upto_region 1 with (fail)
  have bx := Bxs.new2 w (p.cells) 26 (g.cells) 26; generalize ((w.alloc (.cells (p.cells) 26)).alloc (.cells (g.cells) 26)) = W at bx ⊢; have rx0 := bx.row' 0 rfl; have sx0 := bx.soft' 0 rfl; (try simp only [Nat.add_zero] at rx0 sx0); have rx1 := bx.row' 1 rfl; have sx1 := bx.soft' 1 rfl; (try simp only [Nat.add_zero] at rx1 sx1); have BX := Lib.hid bx; clear bx
  have G := Lib.hid (H.out.below BX.out.below)
  have lk := G.out.mw.look a
  rw [MS.at_some IS.out.at_] at lk
  have lk2 := G.out.mw.look b
  rw [I2.out] at lk2
  unfold ptA at lk lk2
  have rw0 := rowOf_of G.out.mw.wrAt
  have OF := Lib.hid (IS.out.off G.out.mw)
  have RN := Lib.hid (IS.out.row G.out.mw)
  go_wp2_with (go_at_call 25; refine OF.out.mono ?_; rintro _ V ⟨rfl, rfl⟩; clear lk lk2 ab OF; have rn := RN.out; clear RN)
  have B2 : Below w.heap.size w V.drew := BX.out.below.drew
  have PR : ∀ W, Below w.heap.size w W → Calls Tryz.prog 26 #[.pointer (some ⟨D.xb, 0, none⟩), .int .i64 i, .int .i64 b, .agg p.cells, .agg g.cells, .agg S.now.cells] W fun e w' => e = .returned (.tuple #[.agg (proposeM (proposeD D i b p g S.now)).cells, .int .i64 0]) ∧ ∃ D', Lies w' D' (With [] i ⟨proposeD D i b p g S.now, 1, true, secretH (D.seed ++ intI i)⟩) ([(1, putD (proposeD D i b p g S.now))] ++ [(1, putS i (secretH (D.seed ++ intI i)))]) ∧ Goes w S w' { S with ds := upd S.ds a (.live D') } ∧ Comp W w' S.all ({ S with ds := upd S.ds a (.live D') } : MS).all ∧ D'.xb = D.xb ∧ D'.t = D.t ∧ D'.seed = D.seed ∧ D'.dv = D.dv := fun W hW => by
    have G2 := H.out.below hW
    have L2 : Lies W D (· = []) [] := ⟨IS.out.dae G2.mw, HL.out.book, HL.out.rows, HL.out.cal⟩
    refine (propose_ok (peer := (b : Int)) (n := S.now) L2 (by decide) ((G2.mw.mine IS.out.ds).base HK.out.2.2.1 HK.out.2.2.2) HK.out.1 HK.out.2.1 HH.out.1 HH.out.2.1 HH.out.2.2.1 HH.out.2.2.2.1).mono ?_
    rintro e Z ⟨he, D', q1, q2⟩
    have g3 := G2.mw.live (k := a) IS.out.ds q2 q1.dae
    exact ⟨he, D', q1, G2.trans g3, g3.comp, q2.xb, q2.t, q2.seed, q2.dv⟩
  have PR := Lib.hid PR
  have zV : w.heap.size + 1 < V.heap.size := BX.out.lt 1 rfl
  have zn : n.b < w.heap.size := (Array.getElem?_eq_some_iff.1 (H.out.ndAt IS.out.nd).row).1
  have zw : S.wb < w.heap.size := (Array.getElem?_eq_some_iff.1 H.out.wrAt).1
  have hz : n.b < V.heap.size ∧ S.wb < V.heap.size ∧ w.heap.size < V.heap.size ∧ w.heap.size + 1 < V.heap.size := by omega
  have R1 : PH n.b S.wb w.heap.size (w.heap.size + 1) _ _ _ _ V := ⟨rn, rw0, rx0, rx1⟩
  have RZ : ∀ (W Z : World) (D' : Dm), PH n.b S.wb w.heap.size (w.heap.size + 1) (ndC (.pointer (some ⟨D.xb, 0, none⟩)) n.t n.sv n.dv n.tv) (wrC S.nb S.mb S.now) p.cells g.cells W → V.heap.size ≤ W.heap.size → Comp W Z S.all ({ S with ds := upd S.ds a (.live D') } : MS).all → Goes w S Z { S with ds := upd S.ds a (.live D') } → PH n.b S.wb w.heap.size (w.heap.size + 1) (ndC (.pointer (some ⟨D.xb, 0, none⟩)) n.t n.sv n.dv n.tv) (wrC S.nb S.mb S.now) p.cells g.cells Z := fun W Z D' r hW hc g => by
    have hn : ∀ k, w.heap.size ≤ k → ¬ S.all k := fun k hk q => by have := H.out.all_lt q; omega
    refine ⟨?_, rowOf_of g.mw.wrAt, (rowOf_same (hc.keep _ (by omega) (hn _ (Nat.le_refl _))).1).trans r.2.2.1, (rowOf_same (hc.keep _ (by omega) (hn _ (Nat.le_succ _))).1).trans r.2.2.2⟩
    have := rowOf_of (g.mw.ndAt (k := a) IS.out.nd).row
    unfold Nd.cells at this
    rw [IS.out.xv] at this
    exact this
  have R1 := Lib.hid R1
  have RZ := Lib.hid RZ
  have hz := Lib.hid hz
  have zV := Lib.hid zV
  clear zn zw rn rw0 rx0 rx1 sx0 sx1
  have B3 : Below w.heap.size w (V.drew.alloc (.cells Msg.zero.cells 67)) := B2.alloc (by have := zV.out; simp; omega) _
  have HB := Lib.hid (And.intro B2 B3)
  clear B2 B3
  go_region_held3 (fun w' => rowOf w' n.b = ndC (.pointer (some ⟨D.xb, 0, none⟩)) n.t n.sv n.dv n.tv ∧ rowOf w' S.wb = wrC S.nb S.mb S.now ∧ rowOf w' w.heap.size = p.cells ∧ rowOf w' (w.heap.size + 1) = g.cells)
    (first
      | exact R1.out
      | exact PH.alloc (w := V.drew) _ R1.out hz.out (Nat.le_refl _)
      | exact RA.out
      | exact RA.out.alloc _ hz.out HS.out.1
      | exact RA.out.set _ hz.out (Nat.le_refl _)
      | exact (RA.out.alloc _ hz.out HS.out.1).set _ hz.out HS.out.1)
    ((go_at_call 26; first
      | (refine (PR.out _ HB.out.1).mono ?_; rintro _ Z ⟨rfl, D', q1, g3, c3, q⟩; have RA := Lib.hid (RZ.out V.drew _ _ R1.out (Nat.le_refl _) c3 g3); have G3 := Lib.hid g3; have Q1 := Lib.hid (And.intro q1 q); have HS := Lib.hid (And.intro c3.size True.intro); clear g3 c3 q1 q)
      | (refine (PR.out _ HB.out.2).mono ?_; rintro _ Z ⟨rfl, D', q1, g3, c3, q⟩
         have RA := Lib.hid (RZ.out (V.drew.alloc (.cells Msg.zero.cells 67)) _ _ (PH.alloc (w := V.drew) _ R1.out hz.out (Nat.le_refl _)) (by simp) c3 g3)
         have KP := c3.keep V.heap.size (by simp) (fun q => by have := H.out.all_lt q; have := zV.out; omega)
         have hm : Z.heap[V.heap.size]? = some (.cells Msg.zero.cells 67) := KP.1.trans (heap_alloc_new V.drew _)
         have rm := rowOf_of hm
         have sm := soft_of hm
         have G3 := Lib.hid g3; have Q1 := Lib.hid (And.intro q1 q)
         have HS := Lib.hid (And.intro (show V.heap.size ≤ Z.heap.size from by have := c3.size; simp at this; omega) KP.2)
         clear g3 c3 q1 q hm KP)))
  all_goals
    clear PR RZ R1
    obtain ⟨mb, Y, e1, e2, g4, rm4, sm4⟩ := (by first | exact end_b G3.out (Nat.le_of_lt (Nat.lt_of_succ_lt zV.out)) HS.out.2 (proposeM (proposeD D i b p g S.now)).cells sm | exact end_a G3.out Msg.zero.cells (proposeM (proposeD D i b p g S.now)).cells 67)
    rw [← e2, ← e1]
    clear e1 e2
    have hid := propose_idE HH.out.2.1
    have SY := Lib.hid (say_any (m := proposeM (proposeD D i b p g S.now)) (l := putLM (proposeM (proposeD D i b p g S.now))) (a := a) (b := b) g4.mw hnb (fun W hW => MPut_legs (HK.out.2.2.1.keep (Nat.le_refl _) hW) (.inl rfl) hid.1 hid.2.1 hid.2.2.1 hid.2.2.2) (Nat.le_trans (putLM_len _) (by decide)) HH.out.2.2.2.2.1 (eq_true (by have := HH.out.2.2.2.2.2.1; omega)) (eq_true HH.out.2.2.2.2.2.1.2) (eq_true (by have := HH.out.2.2.2.2.2.2; omega)) (eq_true HH.out.2.2.2.2.2.2.2) (by simp; omega))
    have G4 := Lib.hid g4
    clear g4 hid
    go_wp2_with (go_at_call 27; refine SY.out.mono ?_; rintro _ U ⟨rfl, X', g5, s1, s2, s3⟩; have G5 := Lib.hid (G4.out.trans g5); have SS := Lib.hid (And.intro s1 (And.intro s2 s3)); clear g5 s1 s2 s3)
    go_ret
    have q := Q1.out
    exact ⟨rfl, X', D', G5.out, ⟨G5.out.mw.daAt (upd_at _ _ _), q.1.book, q.1.rows, q.1.cal⟩, SS.out.1, SS.out.2.1, SS.out.2.2, q.2⟩
end Go.Proofs.YtjkfondgacjpnaaGreatDoor
