/- What is proved: parts of the walk and of the plain law, 1 texts in one. No condition but those each law names. -/
import Derived.RangeFuncBox
import Derived.RangeFuncLeaves
import Derived.RangeFuncWrites
import Derived.Shelf.Abstract
import Derived.OwnWalkIn
import Derived.TacticsInMore
import Derived.LoopNIn
import Derived.LoopIn
import Derived.Test.YtohpcfhgbgfblaaGreatDoorS16
namespace Go.Proofs.YtohpcfhgbgfblaaGreatDoor
open Go.RowKit Go.Shelf
set_option maxRecDepth 100000

attribute [local go_sem] Oper.semAt_some

/-- Of the blocks below N all are as they were, but p. -/
structure ButN (N p : Nat) (w w' : World) : Prop where
  os : w'.os = w.os
  tape : w'.tape = w.tape
  output : w'.output = w.output
  size : w.heap.size ≤ w'.heap.size
  block : ∀ k, k < N → k ≠ p → w'.heap[k]? = w.heap[k]?
abbrev But (p : Nat) (w w' : World) : Prop := ButN w.heap.size p w w'
section
variable {N p : Nat} {w w' w2 : World}
theorem ButN.refl : ButN N p w w := ⟨rfl, rfl, rfl, Nat.le_refl _, fun _ _ _ => rfl⟩
theorem ButN.trans (h : ButN N p w w') (k : ButN N p w' w2) : ButN N p w w2 := ⟨k.os.trans h.os, k.tape.trans h.tape, k.output.trans h.output, Nat.le_trans h.size k.size, fun i q r => (k.block i q r).trans (h.block i q r)⟩
theorem ButN.mono {M : Nat} (h : ButN N p w w') (hM : M ≤ N) : ButN M p w w' := ⟨h.os, h.tape, h.output, h.size, fun k q => h.block k (Nat.lt_of_lt_of_le q hM)⟩
theorem But.trans (h : But p w w') (k : But p w' w2) : But p w w2 := ButN.trans h (ButN.mono k h.size)
theorem ButN.below (h : Below N w w') : ButN N p w w' := ⟨h.os, h.tape, h.output, h.size, fun k q _ => h.block k q⟩
theorem ButN.set (h : ButN N p w w') (o : Nat) (v : Value) : ButN N p w (w'.setCell ⟨p, o, none⟩ v) :=
  h.trans ⟨rfl, rfl, rfl, by simp [World.setCell], fun k _ r => Below.heap_setCell _ _ _ _ r⟩
theorem ButN.to {B : Nat} (h : ButN N p w w') (hB : B ≤ N) (hp : B ≤ p) : Below B w w' := ⟨h.os, h.tape, h.output, h.size, fun k q => h.block k (by omega) (by omega)⟩
theorem ButN.cell (h : ButN N p w w') {b o : Nat} {v : Value} (hc : w.cell? ⟨b, o, none⟩ = some v) (hN : w.heap.size ≤ N) (hb : b ≠ p) : w'.cell? ⟨b, o, none⟩ = some v := by
  have hlt := World.block_lt_of_cell? w ⟨b, o, none⟩ hc
  rw [World.cell?_of_block (w := w) (h.block b (Nat.lt_of_lt_of_le hlt hN) hb)]
  exact hc
theorem ButN.sl (h : ButN N p w w') {ao : Option Addr} {n c : Nat} {vs : List Value} (hs : Sl w ao n c vs) (hN : w.heap.size ≤ N) (hne : ∀ b o, ao = some ⟨b, o, none⟩ → 0 < n → b ≠ p) : Sl w' ao n c vs := by
  refine ⟨hs.len, hs.le, hs.nil, ?_⟩
  rcases hs.cells with e | ⟨b, o, e, hc⟩
  · exact .inl e
  · by_cases h0 : vs = []
    · exact .inl h0
    · refine .inr ⟨b, o, e, fun j x hj => h.cell (hc j x hj) hN (hne b o e ?_)⟩
      rw [← hs.len]
      cases vs with
      | nil => exact absurd rfl h0
      | cons => simp
theorem ButN.rdr (h : ButN N p w w') {q : Nat} {v : Value} {k : Int} (hr : Rdr w q v k) (hN : w.heap.size ≤ N) (hq : q ≠ p) : Rdr w' q v k := by
  unfold Rdr at *
  rw [h.block q (Nat.lt_of_lt_of_le (Array.getElem?_eq_some_iff.1 hr).1 hN) hq]
  exact hr
theorem ButN.forms (h : ButN N p w w') (hf : Forms w) (hN : w.heap.size ≤ N) (hp : p ≠ 2) : Forms w' := fun j v hj => h.cell (hf j v hj) hN (Ne.symm hp)
end
theorem butN_t {N p : Nat} {A B C : World} (h : ButN N p A B) (k : ButN N p B C) : ButN N p A C := h.trans k
theorem butN_b {N p : Nat} {w : World} (hn : N ≤ w.heap.size) (W : World) (l : Nat) (o o' : Obj) (hl : w.heap.size ≤ l) (h : W.heap[l]? = some o) (hc : o.isCells = false) (hk : o.isWalk = false) : ButN N p W (W.putObj l o') :=
  ButN.below (belowK_b hn W l o o' hl h hc hk)
/-- A reader in block p: what is left, what has stuck. -/
def Rd (w : World) (p : Nat) (s : RS) : Prop := ∃ ao n c, Rdr w p (.slice ao n c) s.2 ∧ Sl w ao n c (bts s.1)
theorem Rdr.keep {w w' : World} {B p : Nat} {v : Value} {k : Int} (h : Rdr w p v k) (hB : w.heap.size ≤ B) (hw : Below B w w') : Rdr w' p v k := by
  unfold Rdr at *
  rw [hw.block p (Nat.lt_of_lt_of_le (Array.getElem?_eq_some_iff.1 h).1 hB)]
  exact h
theorem Rd.keep {w w' : World} {B p : Nat} {s : RS} (h : Rd w p s) (hB : w.heap.size ≤ B) (hw : Below B w w') : Rd w' p s := by
  obtain ⟨ao, n, c, h1, h2⟩ := h
  exact ⟨ao, n, c, h1.keep hB hw, h2.keep hB hw⟩
theorem Rdr.lt {w : World} {p : Nat} {v : Value} {k : Int} (h : Rdr w p v k) : p < w.heap.size := (Array.getElem?_eq_some_iff.1 h).1
theorem Rd.lt {w : World} {p : Nat} {s : RS} (h : Rd w p s) : p < w.heap.size := by
  obtain ⟨ao, n, c, h1, _⟩ := h
  exact h1.lt
/-- What it reads lies in another block. -/
theorem Rdr.apart {w : World} {p : Nat} {u : Option Addr} {a c2 : Nat} {k : Int} (h : Rdr w p (.slice u a c2) k) {ao : Option Addr} {n c : Nat} {l : List Nat} (hs : Sl w ao n c (bts l)) : ∀ b o, ao = some ⟨b, o, none⟩ → 0 < n → b ≠ p := by
  rintro b o rfl hn rfl
  obtain ⟨b', o', e, _, hc⟩ := hs.at hn
  cases e
  have hl : 0 < l.length := by rw [← bts_length, hs.len]; exact hn
  have h0 := hc 0 (.int .u8 (l[0] : Int)) (by unfold bts; rw [List.getElem?_map, List.getElem?_eq_getElem hl]; rfl)
  unfold Rdr at h
  unfold World.cell? at h0
  rw [h] at h0
  simp only at h0
  match o with
  | 0 => cases h0
  | 1 => cases h0
  | o + 2 => simp at h0
theorem cutA_block {b o l m b' o' : Nat} (h : cutA (some ⟨b, o, none⟩) l m = some ⟨b', o', none⟩) : b' = b := by
  unfold cutA at h
  split at h
  · cases h; rfl
  · simp only [Option.map_some, Option.some.injEq, Addr.add] at h
    split at h <;> first | (cases h; rfl) | (injection h with h _ _; exact h.symm)
/-- A reader whose bytes lie in a block below B. -/
def RdB (B : Nat) (w : World) (p : Nat) (s : RS) : Prop := ∃ ao n c, Rdr w p (.slice ao n c) s.2 ∧ Sl w ao n c (bts s.1) ∧ ∀ b o, ao = some ⟨b, o, none⟩ → 0 < n → b < B
theorem Rd.b {w : World} {p : Nat} {s : RS} (h : Rd w p s) : RdB w.heap.size w p s := by
  obtain ⟨ao, n, c, h1, h2⟩ := h
  refine ⟨ao, n, c, h1, h2, ?_⟩
  rintro b o rfl hn
  obtain ⟨b', o', e, hlt, _⟩ := h2.at hn
  cases e
  exact hlt
theorem RdB.keep {w w' : World} {B C p : Nat} {s : RS} (h : RdB C w p s) (hB : w.heap.size ≤ B) (hw : Below B w w') : RdB C w' p s := by
  obtain ⟨ao, n, c, h1, h2, h3⟩ := h
  exact ⟨ao, n, c, h1.keep hB hw, h2.keep hB hw, h3⟩
theorem Rd.nb {w : World} {p : Nat} {k : Int} (h : Rd w p ([], k)) (B : Nat) : RdB B w p ([], k) := by
  obtain ⟨ao, n, c, h1, h2⟩ := h
  refine ⟨ao, n, c, h1, h2, fun b o _ hn => ?_⟩
  have := h2.len
  simp [bts] at this
  omega
theorem RdB.rd {B : Nat} {w : World} {p : Nat} {s : RS} (h : RdB B w p s) : Rd w p s := let ⟨ao, n, c, h1, h2, _⟩ := h; ⟨ao, n, c, h1, h2⟩
/-- Numbers of elements and they, from the last on. -/
def backs (zs : List Nat) : Nat → List (Nat × Nat)
  | 0 => []
  | k + 1 => backs zs k ++ [(zs.length - 1 - k, zs.getD (zs.length - 1 - k) 0)]
theorem backs_len (zs : List Nat) : ∀ k, (backs zs k).length = k
  | 0 => rfl
  | k + 1 => by show (backs zs k ++ _).length = _; rw [List.length_append, backs_len zs k]; rfl
theorem backs_prefix (zs : List Nat) {j : Nat} : ∀ {k}, j ≤ k → backs zs j <+: backs zs k
  | 0, h => by obtain rfl : j = 0 := by omega
               exact List.prefix_rfl
  | k + 1, h => by
    by_cases e : j = k + 1
    · subst e; exact List.prefix_rfl
    · exact (backs_prefix zs (by omega)).trans (List.prefix_append _ _)
set_option maxHeartbeats 2000000 in
theorem back1_in (n : Nat) (hn : 1 ≤ n) (l Bs b off cap N ub : Nat) (zs : List Nat) (hlen : zs.length < 1000000) (hub : Bs ≠ ub) (hbb : b ≠ ub) (J Jx : List (Nat × Nat) → World → Prop)
    (hY : ∀ pre x W, J pre W → pre.length < zs.length → YieldAt Fence.wide (n - 1) Tryz.prog l #[.int .i64 (x : Nat × Nat).1, .int .u8 x.2] W fun e W' =>
      (e = .returned (.bool true) ∧ J (pre ++ [x]) W' ∧ ButN N ub W W') ∨ (e = .returned (.bool false) ∧ Jx (pre ++ [x]) W'))
    (W : World) (hB : Bs < N) (hbN : b < N) (hN : N ≤ W.heap.size) (hBs : W.cell? ⟨Bs, 0, none⟩ = some (.slice (some ⟨b, off, none⟩) zs.length cap)) (hc : ∀ j (h : j < zs.length), W.cell? ⟨b, off + j, none⟩ = some (.int .u8 zs[j])) (h0 : J [] W) :
    CallsIn Fence.wide n Tryz.prog 194 #[.func (.yield l) #[] #[], .pointer (some ⟨Bs, 0, none⟩)] W fun e W' => (∃ v, e = .returned v) ∧
      ((∃ ys, ys = backs zs zs.length ∧ J ys W') ∨ (∃ pre, pre <+: backs zs zs.length ∧ Jx pre W')) := by
  have hl0 : wrap64 ((zs.length : Int) - 1) = (zs.length : Int) - 1 := IntWalk.wrap64_in _ (by omega)
  refine callsIn_of_wp Tryz.func194 rfl trivial ?_ rfl
  simp only [Tryz.ntmps194, List.size_toArray, List.length_cons, List.length_nil, Nat.reduceAdd, Nat.reduceSub, Array.replicate_succ, Array.replicate_zero, List.push_toArray, List.append_toArray, List.nil_append, List.cons_append]
  gi_wp2
  gi_loopw [3] (fun i wr => ∃ k : Nat, k ≤ zs.length ∧ i = .int .i64 ((zs.length : Int) - 1 - k) ∧ J (backs zs k) wr ∧ ButN N ub W wr)
    (fun i _ => (intOf i + 1).toNat)
  case atStart => exact ⟨0, Nat.zero_le _, by simp, h0, ButN.refl⟩
  case round =>
    obtain ⟨k, hk, rfl, hJs, hnx⟩ := hrel
    have cellk : ∀ {b o : Nat} {v : Value}, b < N → b ≠ ub → W.cell? ⟨b, o, none⟩ = some v → wr.cell? ⟨b, o, none⟩ = some v := fun {b o v} h1 h2 h3 => by
      rw [World.cell?_of_block (w := W) (hnx.block b h1 h2)]; exact h3
    have hbs := cellk hB hub hBs
    by_cases hlt : k < zs.length
    · obtain ⟨m, hm⟩ : ∃ m : Nat, zs.length = m + 1 + k := ⟨zs.length - 1 - k, by omega⟩
      have hcx := cellk hbN hbb (hc m (by omega))
      obtain ⟨z, hz⟩ : ∃ z, z = zs[m]'(by omega) := ⟨_, rfl⟩
      rw [← hz] at hcx
      have hgd : zs.getD m 0 = z := by rw [hz, List.getD_eq_getElem?_getD, List.getElem?_eq_getElem (by omega)]; rfl
      have em : zs.length - 1 - k = m := by omega
      have ei : (zs.length : Int) - 1 - k = m := by omega
      have hbk : backs zs (k + 1) = backs zs k ++ [(m, z)] := by show backs zs k ++ [(_, _)] = _; rw [em, hgd]
      have ew : wrap64 ((m : Int) - 1) = (m : Int) - 1 := IntWalk.wrap64_in _ (by omega)
      have hm0 : (0 : Int) ≤ m := by omega
      have hml : (m : Int) < zs.length := by omega
      have hmt : (m : Int).toNat = m := rfl
      rw [ei]
      obtain ⟨fn, tmps, assign, body, hy, hR⟩ := hY _ (m, z) wr hJs (by rw [backs_len]; exact hlt)
      have HM := Lib.hid hm
      have HBK := Lib.hid hbk
      clear hz hgd hBs hc hl0 ei em hm hbk
      gi_wp2
      refine hR.mono ?_
      rintro e W3 (⟨rfl, hJ3, hk3⟩ | ⟨rfl, hJx3⟩)
      · gi_wp2
        go_roundw
        case rel => exact ⟨k + 1, by omega, by have := HM.out; go_num, by rw [HBK.out]; exact hJ3, hnx.trans hk3⟩
        case measure => simp [intOf]
      · gi_wp2
        refine bodyPost_ret (results_none rfl _ _ _) rfl ?_
        exact ⟨⟨_, rfl⟩, .inr ⟨_, by rw [← HBK.out]; exact backs_prefix zs (by omega), hJx3⟩⟩
    · obtain rfl : k = zs.length := by omega
      have ei : (zs.length : Int) - 1 - zs.length = -1 := by omega
      rw [ei]
      gi_wp2
      go_end0
      exact ⟨⟨_, rfl⟩, .inl ⟨_, rfl, hJs⟩⟩
end Go.Proofs.YtohpcfhgbgfblaaGreatDoor
