/- What is proved: parts of the walk and of the plain law, 1 texts in one. No condition but those each law names. -/
import Derived.Test.YtjkfondgacjpnaaGreatDoorK25
import Derived.Test.YtjkfondgacjpnaaGreatDoorK23
import Derived.Test.YtjkfondgacjpnaaGreatDoorK33
import Derived.Test.YtjkfondgacjpnaaGreatDoorK13
import Derived.Test.YtjkfondgacjpnaaGreatDoorK29
namespace Go.Proofs.YtjkfondgacjpnaaGreatDoor
open Go.RowKit
set_option maxRecDepth 100000

structure LgIn (l : Lg) : Prop where
  w : 0 ≤ l.w ∧ l.w ≤ 2
  a : 1 ≤ l.a ∧ l.a ≤ 1125899906842624
  u : 0 ≤ l.u ∧ l.u ≤ 1073741824
theorem legE_in {l : Lg} (h : legE l = 0) : LgIn l := by
  unfold legE at h
  split at h
  · omega
  · split at h
    · omega
    · split at h
      · omega
      · exact ⟨by omega, by omega, by omega⟩
theorem propE_in {m : Msg} (h : propE m = 0) : LgIn m.p ∧ LgIn m.g ∧ m.p.w ≠ m.g.w ∧ m.c = 0 := by
  unfold propE at h
  by_cases h1 : legE m.p ≠ 0
  · rw [if_pos h1] at h; exact absurd h h1
  · rw [if_neg h1] at h
    by_cases h2 : legE m.g ≠ 0
    · rw [if_pos h2] at h; exact absurd h h2
    · rw [if_neg h2] at h
      split at h
      · omega
      · split at h
        · omega
        · exact ⟨legE_in (by omega), legE_in (by omega), by assumption, by omega⟩
theorem idE_in {i k : Int} (h : idE i k = 0) : (1 ≤ i ∧ i ≤ 1073741824) ∧ k = 0 := by
  unfold idE at h
  split at h
  · omega
  · exact ⟨by omega, h⟩
theorem rdLeg_put {l : Lg} (h : LgIn l) (r : List Nat) : rdLeg (legI l ++ r, 0) = (l, r, 0) := by
  obtain ⟨h1, h2, h3⟩ := h
  have e1 := rdI_put (x := l.w) (by omega) (by omega) (intI l.a ++ (intI l.u ++ r))
  have e2 := rdI_put (x := l.a) (by omega) (by omega) (intI l.u ++ r)
  have e3 := rdI_put (x := l.u) (by omega) (by omega) r
  have e : legI l ++ r = intI l.w ++ (intI l.a ++ (intI l.u ++ r)) := by unfold legI; simp [List.append_assoc]
  rw [e]
  unfold rdLeg
  rw [e1, e2, e3]
  obtain ⟨w, a, u⟩ := l
  simp only at h1 h2 h3 ⊢
  rw [Int.toNat_of_nonneg h1.1, Int.toNat_of_nonneg (by omega), Int.toNat_of_nonneg h3.1]
theorem Hs.eq_of {a b : Hs} (h : a.l = b.l) : a = b := by
  obtain ⟨l, hl⟩ := a
  obtain ⟨k, hk⟩ := b
  simp only at h
  subst h
  rfl
theorem rdHs_put (h : Hs) (r : List Nat) : rdHs (h.l ++ r, 0) = (h, r, 0) := by
  have hl := h.hl
  unfold rdHs
  rw [if_neg (by simp), if_neg (by rw [List.length_append]; omega)]
  have e1 : (h.l ++ r).drop 32 = r := List.drop_left' hl
  have e2 : hs32 (h.l ++ r) = h := by
    have e := hs32_l (l := h.l ++ r) (by rw [List.length_append]; omega)
    rw [List.take_left' hl] at e
    exact Hs.eq_of e
  rw [e1, e2]
theorem mget_code {i c : Int} (he : idE i (refE c) = 0) : mgetM (putC i c) = (0, msgR i c) := by
  obtain ⟨hi, hc⟩ := idE_in he
  have hc2 : 1 ≤ c ∧ c ≤ 24 := by unfold refE at hc; split at hc <;> omega
  have e1 := rdI_put (x := 3) (by decide) (by decide) (intI i ++ intI c)
  have e2 := rdI_put (x := i) (by omega) (by omega) (intI c)
  have e3 := rdI_put (x := c) (by omega) (by omega) []
  rw [List.append_nil] at e3
  unfold mgetM putC
  rw [List.append_assoc, e1, e2]
  unfold gM
  rw [if_neg (by simp), if_pos (by rfl), e3]
  unfold finM
  simp only [Int.toNat_of_nonneg (show 0 ≤ c by omega), Int.toNat_of_nonneg (show 0 ≤ i by omega)]
  rw [if_neg (by simp [endR]), if_neg (by rw [he]; simp)]
theorem mget_legs {m : Msg} (hk : m.k = 1 ∨ m.k = 2) (he : idE m.i (propE m) = 0) : mgetM (putLM m) = (0, m) := by
  obtain ⟨hi, hc⟩ := idE_in he
  obtain ⟨h1, h2, _, h4⟩ := propE_in hc
  have hk0 : 0 ≤ m.k := by omega
  have e1 := rdI_put (x := m.k) (by omega) (by omega) (intI m.i ++ (legI m.p ++ (legI m.g ++ (m.h.l ++ []))))
  have e2 := rdI_put (x := m.i) (by omega) (by omega) (legI m.p ++ (legI m.g ++ (m.h.l ++ [])))
  have e3 := rdLeg_put h1 (legI m.g ++ (m.h.l ++ []))
  have e4 := rdLeg_put h2 (m.h.l ++ [])
  have e5 := rdHs_put m.h []
  have e : putLM m = intI m.k ++ (intI m.i ++ (legI m.p ++ (legI m.g ++ (m.h.l ++ [])))) := by unfold putLM legsI; simp [List.append_assoc]
  have e6 : mLegs m.k.toNat m.i.toNat (legI m.p ++ (legI m.g ++ (m.h.l ++ [])), 0) = m := by
    unfold mLegs mAt
    simp only [e3, e4, e5]
    unfold m0
    obtain ⟨k, i, c, p, g, h⟩ := m
    simp only at hk0 hi h4 ⊢
    rw [Int.toNat_of_nonneg hk0, Int.toNat_of_nonneg (by omega), h4]
  have e7 : sLegs m.k.toNat m.i.toNat (legI m.p ++ (legI m.g ++ (m.h.l ++ [])), 0) = ([], 0) := by
    unfold sLegs mAt
    simp only [e3, e4, e5]
  unfold mgetM
  rw [e, e1, e2]
  unfold gM
  rw [if_neg (by simp), if_neg (by simp only; omega), if_pos (by simp only; omega), e6, e7]
  unfold finM
  rw [if_neg (by simp [endR]), if_neg (by simp only [Int.toNat_of_nonneg (show 0 ≤ m.i by omega), he]; simp)]
def Told (e : Int) : Prop := 0 ≤ e ∧ e ≤ 24
end Go.Proofs.YtjkfondgacjpnaaGreatDoor

namespace Go.Proofs.YtjkfondgacjpnaaGreatDoor
open Go.RowKit
open Sx (Ab DW Turns Did Foot)
set_option maxRecDepth 100000

def dmC (t : Tm) (sv : Sv) (jb bk : Nat) (dead : Bool) : Array Value := #[.int .i64 t.base, .int .i64 t.ppm, .int .i64 t.reserve, .int .i64 t.least, .int .i64 t.most, .int .i64 t.depth, .int .i64 t.delay, .int .i64 t.lag, .int .i64 t.fast, .slice sv.a sv.n sv.c, .pointer (some ⟨jb, 0, none⟩), .pointer (some ⟨bk, 0, none⟩), .bool dead]
theorem dm_t (t : Tm) (sv : Sv) (jb bk : Nat) (dead : Bool) : sub (dmC t sv jb bk dead) 0 9 = t.cells := by kernel_rfl
theorem dm_size (t : Tm) (sv : Sv) (jb bk : Nat) (dead : Bool) : (dmC t sv jb bk dead).size = 13 := rfl
section
variable (t : Tm) (sv : Sv) (jb bk : Nat) (dead : Bool)
theorem dm_3 : (dmC t sv jb bk dead)[3]? = some (.int .i64 t.least) := rfl
theorem dm_3g (q : 3 < (dmC t sv jb bk dead).size) : (dmC t sv jb bk dead)[3]'q = .int .i64 t.least := rfl
theorem dm_4 : (dmC t sv jb bk dead)[4]? = some (.int .i64 t.most) := rfl
theorem dm_4g (q : 4 < (dmC t sv jb bk dead).size) : (dmC t sv jb bk dead)[4]'q = .int .i64 t.most := rfl
theorem dm_9 : (dmC t sv jb bk dead)[9]? = some (.slice sv.a sv.n sv.c) := rfl
theorem dm_9g (q : 9 < (dmC t sv jb bk dead).size) : (dmC t sv jb bk dead)[9]'q = .slice sv.a sv.n sv.c := rfl
theorem dm_10 : (dmC t sv jb bk dead)[10]? = some (.pointer (some ⟨jb, 0, none⟩)) := rfl
theorem dm_10g (q : 10 < (dmC t sv jb bk dead).size) : (dmC t sv jb bk dead)[10]'q = .pointer (some ⟨jb, 0, none⟩) := rfl
theorem dm_11 : (dmC t sv jb bk dead)[11]? = some (.pointer (some ⟨bk, 0, none⟩)) := rfl
theorem dm_11g (q : 11 < (dmC t sv jb bk dead).size) : (dmC t sv jb bk dead)[11]'q = .pointer (some ⟨bk, 0, none⟩) := rfl
theorem dm_12 : (dmC t sv jb bk dead)[12]? = some (.bool dead) := rfl
theorem dm_12g (q : 12 < (dmC t sv jb bk dead).size) : (dmC t sv jb bk dead)[12]'q = .bool dead := rfl
end
attribute [go_sem ↓] dm_3 dm_4 dm_9 dm_10 dm_11 dm_12
attribute [go_sem] dm_t dm_size dm_3g dm_4g dm_9g dm_10g dm_11g dm_12g
structure Dm where
  F : Foot
  xb : Nat
  jb : Nat
  bk : Nat
  mb : Nat
  sb : Nat
  c : Nat
  t : Tm
  seed : List Nat
  dv : Value
  A : Ab
  j : Jr
  R : List (Int × List Nat)
  M : List (Int × En)
  cal : Bool
def Dm.sv (D : Dm) : Sv := ⟨some ⟨D.sb, 0, none⟩, D.seed.length, D.c⟩
def Dm.cells (D : Dm) : Array Value := dmC D.t D.sv D.jb D.bk false
def Dm.own (D : Dm) (i : Nat) : Prop := i = D.xb ∨ i = D.sb ∨ FootB D.bk D.mb D.M i 0
structure Dae (w : World) (D : Dm) : Prop where
  row : w.heap[D.xb]? = some (.cells D.cells 109)
  sd : Sl w (some ⟨D.sb, 0, none⟩) D.seed.length D.c (bts D.seed)
  sl : D.sb < w.heap.size
  jd : JD w D.F D.dv D.A D.jb D.j
  hold : Holds D.A D.j D.R
  calm : D.cal = true → Calm D.A
  bok : BookAt w D.bk D.mb D.M
  f1 : ∀ i, D.own i → i ≠ D.jb ∧ ∀ x, ¬ D.F i x
  f2 : ¬ FootB D.bk D.mb D.M D.xb 0 ∧ ¬ FootB D.bk D.mb D.M D.sb 0 ∧ D.xb ≠ D.sb
theorem Sl.block {w w' : World} {b o n c : Nat} {vs : List Value} (h : Sl w (some ⟨b, o, none⟩) n c vs) (hb : w'.heap[b]? = w.heap[b]?) : Sl w' (some ⟨b, o, none⟩) n c vs := by
  refine ⟨h.len, h.le, h.nil, ?_⟩
  rcases h.cells with e | ⟨b', o', e, hc⟩
  · exact .inl e
  · cases e
    exact .inr ⟨_, _, rfl, fun j x hj => (Sx.cell_block hb _).1.trans (hc j x hj)⟩
theorem Dae.lt {w : World} {D : Dm} (h : Dae w D) {i : Nat} (hi : D.own i) : i < w.heap.size := by
  rcases hi with rfl | rfl | hi
  · exact (Array.getElem?_eq_some_iff.1 h.row).1
  · exact h.sl
  · exact h.bok.lt hi
theorem Dae.below {w w' : World} {D : Dm} (h : Dae w D) (hw : Below w.heap.size w w') : Dae w' D :=
  ⟨(hw.block _ (h.lt (.inl rfl))).trans h.row, h.sd.block (hw.block _ h.sl), Nat.lt_of_lt_of_le h.sl hw.size, h.jd.below hw, h.hold, h.calm, h.bok.below hw, h.f1, h.f2⟩
theorem Dae.went {w w' : World} {D : Dm} (h : Dae w D) {F' : Foot} {A' : Ab} {j' : Jr} {R' : List (Int × List Nat)} (hj : JD w' F' D.dv A' D.jb j') (hw : Went D.F D.jb w F' w') (hh : Holds A' j' R') (hc : Calm A') : Dae w' { D with F := F', A := A', j := j', R := R' } := by
  have hk : ∀ i, D.own i → w'.heap[i]? = w.heap[i]? := fun i hi => hw.block i (h.lt hi) (h.f1 i hi).1 (h.f1 i hi).2
  refine ⟨(hk _ (.inl rfl)).trans h.row, h.sd.block (hk _ (.inr (.inl rfl))), Nat.lt_of_lt_of_le h.sl hw.size, hj, hh, fun _ => hc, h.bok.keepB fun i x hi => hk i (.inr (.inr hi)), fun i hi => ⟨(h.f1 i hi).1, fun x hx => ?_⟩, h.f2⟩
  rcases hw.fb i x hx with h1 | h1
  · exact (h.f1 i hi).2 x h1
  · have := h.lt hi
    omega
theorem Dae.booked {w w' : World} {D : Dm} (h : Dae w D) {k : Nat} {M' : List (Int × En)} (hb : BookAt w' D.bk D.mb M') (ht : Turns (fun i _ => i = k) w w') (hk : FootB D.bk D.mb D.M k 0) (hM : ∀ i, FootB D.bk D.mb M' i 0 → FootB D.bk D.mb D.M i 0 ∨ w.heap.size ≤ i) : Dae w' { D with M := M' } := by
  have n1 : D.xb ≠ k := fun e => h.f2.1 (e ▸ hk)
  have n2 : D.sb ≠ k := fun e => h.f2.2.1 (e ▸ hk)
  have n3 : D.jb ≠ k := fun e => (h.f1 k (.inr (.inr hk))).1 e.symm
  have hb' : ∀ i, i < w.heap.size → i ≠ k → w'.heap[i]? = w.heap[i]? := fun i hi hn => ht.block i hi fun _ e => hn e
  have hjl : D.jb < w.heap.size := h.jd.lt
  refine ⟨(hb' _ (h.lt (.inl rfl)) n1).trans h.row, h.sd.block (hb' _ h.sl n2), Nat.lt_of_lt_of_le h.sl ht.size, ?_, h.hold, h.calm, hb, fun i hi => ?_, ⟨fun e => ?_, fun e => ?_, h.f2.2.2⟩⟩
  · refine ⟨h.jd.dw.keepB fun i ⟨x, hx⟩ => hb' i (h.jd.dw.lt hx) fun e => (h.f1 k (.inr (.inr hk))).2 x (e ▸ hx), (hb' _ hjl n3).trans h.jd.jr, h.jd.ap⟩
  · rcases hi with hi | hi | hi
    · exact h.f1 i (.inl hi)
    · exact h.f1 i (.inr (.inl hi))
    · rcases hM i hi with h1 | h1
      · exact h.f1 i (.inr (.inr h1))
      · exact ⟨fun e => by have e : i = D.jb := e; omega, fun x hx => by have := h.jd.dw.lt hx; omega⟩
  · rcases hM _ e with h1 | h1
    · exact h.f2.1 h1
    · have := h.lt (.inl rfl); have h1 : w.heap.size ≤ D.xb := h1; omega
  · rcases hM _ e with h1 | h1
    · exact h.f2.2.1 h1
    · have := h.sl; have h1 : w.heap.size ≤ D.sb := h1; omega
theorem below_same {w : World} {b k : Nat} {C : Array Value} {t : TypeId} {v : Value} (h : w.heap[b]? = some (.cells C t)) (hv : C[k]? = some v) : Below w.heap.size w (w.setCell ⟨b, k, none⟩ v) := by
  refine ⟨rfl, rfl, rfl, by simp, fun i _ => ?_⟩
  rw [heap_setCell_at]
  split
  · rename_i e
    have e : b = i := e
    subst e
    rw [h]
    show some (Obj.cells (C.setIfInBounds k v) t) = _
    congr 2
    apply Array.ext_getElem?
    intro j
    rw [Array.getElem?_setIfInBounds]
    split
    · rename_i q
      subst q
      rw [if_pos (Array.getElem?_eq_some_iff.1 hv).1, hv]
    · rfl
  · rfl
end Go.Proofs.YtjkfondgacjpnaaGreatDoor

namespace Go.Proofs.YtjkfondgacjpnaaGreatDoor
open Go.RowKit
open Sx (Ab DW Turns Did Foot)
set_option maxRecDepth 100000
attribute [local go_sem ↓] rowOf_cell
attribute [local go_sem] rowOf_alloc soft_alloc rowOf_drew soft_drew rowOf_setRow soft_setRow dm_t dm_size

def Dm.all (D : Dm) (i : Nat) : Prop := D.own i ∨ i = D.jb ∨ ∃ x, D.F i x
structure Trans (w : World) (D : Dm) (w' : World) (D' : Dm) : Prop where
  os : w'.os = w.os
  tape : w'.tape = w.tape
  output : w'.output = w.output
  size : w.heap.size ≤ w'.heap.size
  keep : ∀ i, i < w.heap.size → ¬ D.all i → w'.heap[i]? = w.heap[i]? ∧ ¬ D'.all i
  xb : D'.xb = D.xb
  bk : D'.bk = D.bk
  t : D'.t = D.t
  seed : D'.seed = D.seed
  dv : D'.dv = D.dv
theorem Trans.below {w w' : World} {D : Dm} (h : Below w.heap.size w w') : Trans w D w' D := ⟨h.os, h.tape, h.output, h.size, fun i hi hn => ⟨h.block i hi, hn⟩, rfl, rfl, rfl, rfl, rfl⟩
theorem Trans.trans {w w1 w2 : World} {D D1 D2 : Dm} (h : Trans w D w1 D1) (k : Trans w1 D1 w2 D2) : Trans w D w2 D2 :=
  ⟨k.os.trans h.os, k.tape.trans h.tape, k.output.trans h.output, Nat.le_trans h.size k.size, fun i hi hn => by
    obtain ⟨h1, h2⟩ := h.keep i hi hn
    obtain ⟨k1, k2⟩ := k.keep i (Nat.lt_of_lt_of_le hi h.size) h2
    exact ⟨k1.trans h1, k2⟩, k.xb.trans h.xb, k.bk.trans h.bk, k.t.trans h.t, k.seed.trans h.seed, k.dv.trans h.dv⟩
theorem Trans.went {w w' : World} {D : Dm} {F' : Foot} {A' : Ab} {j' : Jr} {R' : List (Int × List Nat)} (hw : Went D.F D.jb w F' w') : Trans w D w' { D with F := F', A := A', j := j', R := R' } :=
  ⟨hw.os, hw.tape, hw.output, hw.size, fun i hi hn => ⟨hw.block i hi (fun e => hn (.inr (.inl e))) (fun x hx => hn (.inr (.inr ⟨x, hx⟩))), fun q => by
    rcases q with q | q | ⟨x, hx⟩
    · exact hn (.inl q)
    · exact hn (.inr (.inl q))
    · rcases hw.fb i x hx with h1 | h1
      · exact hn (.inr (.inr ⟨x, h1⟩))
      · omega⟩, rfl, rfl, rfl, rfl, rfl⟩
theorem Trans.booked {w w' : World} {D : Dm} {k : Nat} {M' : List (Int × En)} (ht : Turns (fun i _ => i = k) w w') (hk : FootB D.bk D.mb D.M k 0) (hM : ∀ i, FootB D.bk D.mb M' i 0 → FootB D.bk D.mb D.M i 0 ∨ w.heap.size ≤ i) : Trans w D w' { D with M := M' } :=
  ⟨ht.os, ht.tape, ht.output, ht.size, fun i hi hn => ⟨ht.block i hi fun _ e => hn (.inl (.inr (.inr (e ▸ hk)))), fun q => by
    rcases q with (q | q | q) | q | q
    · exact hn (.inl (.inl q))
    · exact hn (.inl (.inr (.inl q)))
    · rcases hM i q with h1 | h1
      · exact hn (.inl (.inr (.inr h1)))
      · omega
    · exact hn (.inr (.inl q))
    · exact hn (.inr (.inr q))⟩, rfl, rfl, rfl, rfl, rfl⟩
theorem Dae.all_lt {w : World} {D : Dm} (h : Dae w D) {i : Nat} (hi : D.all i) : i < w.heap.size := by
  rcases hi with hi | rfl | ⟨x, hx⟩
  · exact h.lt hi
  · exact h.jd.lt
  · exact h.jd.dw.lt hx
set_option maxHeartbeats 1000000 in
theorem room_twice {w : World} {D : Dm} (h : Dae w D) {k : Int} {q : En} (hq : getA D.M k = some q) : Calls Tryz.prog 47 #[.pointer (some ⟨D.xb, 0, none⟩), .int .i64 k] w fun e w' => e = .returned (.int .i64 13) ∧ Below w.heap.size w w' := by
  have r0 := rowOf_of h.row
  have S := Swap_any h.bok k
  rw [hq] at S
  have S := Lib.hid S
  unfold Dm.cells at r0
  clear hq
  go_enter Tryz.func47, Tryz.ntmps47
  go_wp2_with fail
  refine S.out.mono ?_
  rintro _ W ⟨rfl, hb⟩
  have HB := Lib.hid hb
  clear r0 S hb
  generalize swO (some q) = sw
  go_upto_region 2 with (fail)
  have B2 := Lib.hid (HB.out.trans ((Bx.made W Sw.zero.cells sw.cells 85).below.mono HB.out.size))
  generalize (W.alloc (.cells Sw.zero.cells 85)).setRow W.heap.size sw.cells = V at B2 ⊢
  go_wp2
  go_ret
  exact ⟨rfl, B2.out⟩
set_option maxHeartbeats 1000000 in
theorem room_ok {w : World} {D : Dm} (h : Dae w D) (k : Int) (hM : D.M = []) : Calls Tryz.prog 47 #[.pointer (some ⟨D.xb, 0, none⟩), .int .i64 k] w fun e w' => e = .returned (.int .i64 0) ∧ Below w.heap.size w w' := by
  have r0 := rowOf_of h.row
  have S := Swap_any h.bok k
  have hb := h.bok
  have hx := (Array.getElem?_eq_some_iff.1 h.row).1
  rw [hM] at S hb
  have S : Calls Tryz.prog 34 #[.pointer (some ⟨D.bk, 0, none⟩), .int .i64 k] w fun e w' => e = .returned (.tuple #[.agg Sw.zero.cells, .bool false]) ∧ Below w.heap.size w w' := S
  have S := Lib.hid S
  have HK := Lib.hid hb
  have HR := Lib.hid h.row
  have HX := Lib.hid hx
  unfold Dm.cells at r0 HR
  clear hM hb h hx
  go_enter Tryz.func47, Tryz.ntmps47
  go_wp2_with fail
  refine S.out.mono ?_
  rintro _ W ⟨rfl, hb⟩
  have HB := Lib.hid hb
  clear r0 S hb
  go_upto_region 2 with (fail)
  have B2 := Lib.hid (HB.out.trans ((Bx.made W Sw.zero.cells Sw.zero.cells 85).below.mono HB.out.size))
  generalize (W.alloc (.cells Sw.zero.cells 85)).setRow W.heap.size Sw.zero.cells = V at B2 ⊢
  have r1 := rowOf_of ((B2.out.block _ HX.out).trans HR.out)
  have K := Lib.hid (Ids_nil (HK.out.below B2.out))
  clear HB
  go_wp2_with fail
  refine K.out.mono ?_
  rintro _ X ⟨rfl, hb⟩
  have B3 := Lib.hid (B2.out.trans (hb.mono B2.out.size))
  clear hb
  go_wp2
  go_ret
  exact ⟨rfl, B3.out⟩
set_option maxHeartbeats 1000000 in
theorem log_any {w : World} {D : Dm} (h : Dae w D) (hcal : D.cal = true) (hf : Forms w) {r : Rc} {L : List Nat} (hput : ∀ w, Forms w → Calls Tryz.prog 91 #[.agg r.cells] w (RetRec L w)) (hok : RowOk (1, L)) (hfit : (secL D.R).length + npc (rowF (1, L)) ≤ 255) :
    Calls Tryz.prog 69 #[.pointer (some ⟨D.xb, 0, none⟩), .agg r.cells] w fun e w' => e = .returned (.int .i64 0) ∧ ∃ F' A' j', Dae w' { D with F := F', A := A', j := j', R := D.R ++ [(1, L)] } ∧ Trans w D w' { D with F := F', A := A', j := j', R := D.R ++ [(1, L)] } := by
  have H := Lib.hid h
  have HF := Lib.hid hf
  have HP := Lib.hid hput
  have HO := Lib.hid hok
  have HI := Lib.hid hfit
  clear h hf hput hok hfit
  go_enter Tryz.func69, Tryz.ntmps69
  go_upto_region 1 with (fail)
  have bx := Bx.new w (r.cells) 119; generalize w.alloc (.cells (r.cells) 119) = W at bx ⊢; have rx := bx.rowOf; have sx := bx.soft; have BX := Lib.hid bx; clear bx
  have P := Lib.hid (HP.out W (HF.out.keep (Nat.le_refl _) BX.out.below))
  go_wp2_with fail
  refine P.out.mono ?_
  rintro _ V ⟨ao, c, rfl, hb, ho⟩
  have hbw : Below w.heap.size w V := BX.out.below.trans (hb.mono BX.out.below.size)
  have h2 := H.out.below hbw
  have r0 := rowOf_of h2.row
  unfold Dm.cells at r0
  have ap : Apart V D.F D.jb ao := fun k o e => by
    subst e
    have h1 := ho.lt k rfl
    refine ⟨h1.2, fun e => ?_, fun x hx => ?_⟩
    · have := H.out.jd.lt
      have := BX.out.below.size
      omega
    · have := H.out.jd.dw.lt hx
      have := BX.out.below.size
      omega
  have K := Lib.hid (Append_ok h2.jd h2.hold (h2.calm hcal) HO.out HI.out rfl (Sl.own ho) ap)
  have HB := Lib.hid hbw
  have H2 := Lib.hid h2
  clear hb ho hbw h2 ap P rx sx BX
  go_wp2_with fail
  refine K.out.mono ?_
  rintro _ V2 ⟨rfl, F', A', j', q1, q2, q3, q4, _⟩
  have Q1 := Lib.hid (H2.out.went q1 q2 q3 q4)
  have Q2 := Lib.hid ((Trans.below HB.out).trans (Trans.went (A' := A') (j' := j') (R' := D.R ++ [(1, L)]) q2))
  clear K q1 q2 q3 q4 r0
  go_wp2
  go_ret
  exact ⟨rfl, F', A', j', Q1.out, Q2.out⟩
end Go.Proofs.YtjkfondgacjpnaaGreatDoor
