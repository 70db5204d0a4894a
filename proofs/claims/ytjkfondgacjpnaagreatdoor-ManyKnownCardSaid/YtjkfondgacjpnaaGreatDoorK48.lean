/- What is proved: parts of the walk and of the plain law, 5 texts in one. No condition but those each law names. -/
import Derived.Test.YtjkfondgacjpnaaGreatDoorK47
import Derived.Test.YtjkfondgacjpnaaGreatDoorK42
namespace Go.Proofs.YtjkfondgacjpnaaGreatDoor
open Go.RowKit
open Sx (Ab DW Turns Did Foot MapIs DiskAt FootD)
set_option maxRecDepth 100000
theorem Holds.arm {A : Ab} {j : Jr} {R : List (Int × List Nat)} (h : Holds A j R) (n : Int) : Holds (A.arm n) j R :=
  ⟨h.half.congr (fun k l hk => h.half.sm k l hk) rfl (fun _ _ _ => rfl) h.rest (by rw [turnA_see (A := A) (A' := A.arm n) rfl]; exact h.half.other), h.still, h.rest⟩
theorem arm_w {w : World} {F : Foot} {dv : Value} {A : Ab} (H : DW w F dv A) {n : Int} (h0 : -1 ≤ n ∧ n < 9223372036854775808) : Calls Tryz.prog 24 #[dv, .int .i64 n] w (Did F w dv (A.arm n) (.tuple #[])) := by
  obtain ⟨bd, r1, r2, bl, h, rfl, hF⟩ := H
  have HH := Lib.hid h
  have c3 : w.cell? ⟨bd, 3, none⟩ = some (.int .i64 A.left) := (Sx.disk_cell h 3).1
  have f3 : w.frozen? ⟨bd, 3, none⟩ = false := (Sx.disk_cell h 3).2
  have e : (if n < -1 then -1 else n) = n := if_neg (by omega)
  clear h
  go_enter Tryz.func24, Tryz.ntmps24
  go_wp2
  go_end0
  have em : max n (-1) = n := Int.max_eq_left h0.1
  have ea : (A.arm n).left = n := by
    show (if n < -1 then -1 else n) = n
    exact if_neg (by omega)
  rw [em]
  have d := HH.out
  refine ⟨rfl, F, ⟨bd, r1, r2, bl, d.turn rfl rfl (by rw [ea]; exact h0) ?_ Sx.set_ne, rfl, hF⟩, Sx.turns_set ⟨0, (hF bd 0).2 (.inl rfl)⟩, fun _ _ h => .inl h⟩
  rw [Sx.set_ob d.ob]
  show some (Obj.cells #[.map (some r1), .map (some r2), .bool A.off, .int .i64 n, .int .i64 A.done] 104) = some (Obj.cells #[.map (some r1), .map (some r2), .bool A.off, .int .i64 (A.arm n).left, .int .i64 A.done] 104)
  rw [ea]
theorem Dae.arm {w w' : World} {D : Dm} (h : Dae w D) {F' : Foot} {n : Int} (hd : DW w' F' D.dv (D.A.arm n)) (ht : Turns D.F w w') (hf : ∀ b x, F' b x → D.F b x ∨ w.heap.size ≤ b) : Dae w' { D with F := F', A := D.A.arm n, cal := false } := by
  have hk : ∀ i, D.own i → w'.heap[i]? = w.heap[i]? := fun i hi => ht.block i (h.lt hi) (h.f1 i hi).2
  have hjl : D.jb < w.heap.size := h.jd.lt
  refine ⟨(hk _ (.inl rfl)).trans h.row, h.sd.block (hk _ (.inr (.inl rfl))), Nat.lt_of_lt_of_le h.sl ht.size, ⟨hd, (ht.block _ hjl h.jd.ap).trans h.jd.jr, fun x hx => (hf _ x hx).elim (h.jd.ap x) fun q => absurd hjl (Nat.not_lt.2 q)⟩, h.hold.arm n, fun q => (by cases q), h.bok.keepB fun i x hi => hk i (.inr (.inr hi)), fun i hi => ⟨(h.f1 i hi).1, fun x hx => (hf _ x hx).elim ((h.f1 i hi).2 x) fun q => ?_⟩, h.f2⟩
  have := h.lt hi
  omega
theorem Trans.arm {w w' : World} {D : Dm} (h : Dae w D) {F' : Foot} {n : Int} (ht : Turns D.F w w') (hf : ∀ b x, F' b x → D.F b x ∨ w.heap.size ≤ b) : Trans w D w' { D with F := F', A := D.A.arm n, cal := false } :=
  ⟨ht.os, ht.tape, ht.output, ht.size, fun i hi hn => ⟨ht.block i hi fun x hx => hn (.inr (.inr ⟨x, hx⟩)), fun q => by
    rcases q with q | q | ⟨x, q⟩
    · exact hn (.inl q)
    · exact hn (.inr (.inl q))
    · exact (hf _ x q).elim (fun q => hn (.inr (.inr ⟨x, q⟩))) fun q => by omega⟩, rfl, rfl, rfl, rfl, rfl⟩
attribute [local go_sem ↓] rowOf_cell
theorem Arm_any {w : World} {S : MS} (h : MW w S) {a : Nat} {n : Nd} {D : Dm} (is : Live S a n D) (hv : n.dv = D.dv) {i : Int} (h0 : -1 ≤ i ∧ i < 9223372036854775808) : Calls Tryz.prog 9 #[.pointer (some ⟨S.wb, 0, none⟩), .int .i64 a, .int .i64 i] w fun e w' => e = .returned (.bool true) ∧ ∃ F', Goes w S w' { S with ds := upd S.ds a (.live { D with F := F', A := D.A.arm i, cal := false }) } := by
  have rw0 := rowOf_of h.wrAt
  have lk := h.look a
  rw [MS.at_some is.at_] at lk
  unfold ptA at lk
  have rn := is.row h
  rw [hv] at rn
  have da := is.dae h
  have AW := Lib.hid (arm_w da.jd.dw h0)
  have DA := Lib.hid da
  have H := Lib.hid h
  have IS := Lib.hid is
  clear h is da hv
  go_enter Tryz.func9, Tryz.ntmps9
  go_wp2_with (go_at_call 24; refine AW.out.mono ?_; rintro _ V ⟨rfl, F', hd, ht, hf⟩; have G := Lib.hid (H.out.live (k := a) IS.out.ds (Trans.arm DA.out ht hf) (DA.out.arm hd ht hf)); clear hd ht hf rw0 lk rn AW)
  go_ret
  exact ⟨rfl, F', G.out⟩
end Go.Proofs.YtjkfondgacjpnaaGreatDoor

namespace Go.Proofs.YtjkfondgacjpnaaGreatDoor
open Go.RowKit
open Sx (Ab DW Turns Did Foot MapIs DiskAt FootD)
set_option maxRecDepth 100000
attribute [local go_sem ↓] rowOf_cell
attribute [local go_sem] rowOf_alloc soft_alloc rowOf_drew soft_drew rowOf_setRow soft_setRow rowOf_setCell soft_setCell frozen_of_soft rowOf_map soft_map Sx.run_mk Ext.row Ext.soft_
theorem nodup_le : ∀ (n : Nat) (l : List Int), l.Nodup → (∀ x ∈ l, 0 ≤ x ∧ x < n) → l.length ≤ n
  | 0, l, _, hb => by
    cases l with
    | nil => exact Nat.le_refl _
    | cons x r => have := hb x (List.mem_cons_self ..); omega
  | n + 1, l, hn, hb => by
    have h1 := nodup_le n (l.erase (n : Int)) (hn.erase _) fun x hx => by
      have h2 := hb x (List.mem_of_mem_erase hx)
      have h3 : x ≠ n := fun e => by
        subst e
        exact hn.not_mem_erase hx
      omega
    have h2 : l.length ≤ (l.erase (n : Int)).length + 1 := by
      rw [List.length_erase]
      split <;> omega
    omega
theorem lo_nodup {lo : List (Int × List Int)} (h : ((encA loC lo).map (·.1)).Nodup) : (lo.map (·.1)).Nodup := by
  unfold encA at h
  rw [List.map_map] at h
  have e : lo.map ((fun q : Value × Value => q.1) ∘ fun p => (Value.int .i64 p.1, loC p.2)) = (lo.map (·.1)).map (Value.int .i64) := by rw [List.map_map]; rfl
  rw [e] at h
  exact List.Pairwise.of_map (S := fun x y : Value => x ≠ y) (Value.int .i64) (fun a b hab e => hab (by rw [e])) h
def crash0 (A : Ab) : Ab := { A with loose := fun _ => none, off := false, left := -1 }
set_option maxHeartbeats 1000000 in
theorem crash_nil {w : World} {F : Foot} {dv : Value} {A : Ab} (H : DW w F dv A) : Calls Tryz.prog 30 #[dv, .slice none 0 0] w (Did F w dv (crash0 A) (.tuple #[])) := by
  obtain ⟨bd, r1, r2, bl, h, rfl, hF⟩ := H
  obtain ⟨es, cl, lo, e1, e2, e3, e4⟩ := h.m2
  have nd := lo_nodup e2.2
  have hr : ∀ p ∈ lo, 0 ≤ p.1 ∧ p.1 < 512 := fun p hp => by
    have h1 := getA_at nd hp
    rw [e4 p.1] at h1
    cases hl : A.loose p.1 with
    | none => rw [hl] at h1; cases h1
    | some l => exact (h.lo _ _ hl).2
  have hsz : es.size ≤ 512 := by
    have := e2.1.length_eq
    simp [encA, prs] at this
    have h2 := nodup_le 512 (lo.map (·.1)) nd fun x hx => by
      obtain ⟨p, hp, rfl⟩ := List.mem_map.1 hx
      exact hr p hp
    rw [List.length_map] at h2
    omega
  have hk : ∀ e ∈ es.toList, ∃ k : Int, e.key = .int .i64 k ∧ -9223372036854775808 ≤ k ∧ k ≤ 9223372036854775807 := fun e he => by
    have hm : (e.key, e.val) ∈ encA loC lo := e2.1.mem_iff.1 (List.mem_map.2 ⟨e, he, rfl⟩)
    obtain ⟨q, hq, ee⟩ := List.mem_map.1 hm
    have := hr q hq
    exact ⟨q.1, (congrArg Prod.fst ee).symm, by omega, by omega⟩
  have hb0 := (Array.getElem?_eq_some_iff.1 e1).1
  have hb : Below w.heap.size w (w.alloc (.cells #[.map (some r2)] 102)) := (Below.refl _ w).alloc (Nat.le_refl _) _
  have K := Lib.hid (sorD (w := w.alloc (.cells #[.map (some r2)] 102)) (b := w.heap.size) (by rw [rowOf_cell, rowOf_of (heap_alloc_new w _)]; rfl) ((hb.block r2 hb0).trans e1) e3 hk hsz)
  have rd := rowOf_of h.ob
  have HB := Lib.hid hb
  have HH := Lib.hid h
  have E1 := Lib.hid e1
  have HZ := Lib.hid hsz
  clear h e1 e2 e3 e4 nd hr hsz hk hb
  unfold Sx.Ab.cells at rd
  go_enter Tryz.func30, Tryz.ntmps30
  go_upto_region 1 with (first
    | (go_at_call 56; refine (keysD_calls _ _).mono ?_; rintro _ _ ⟨rfl, rfl⟩)
    | (go_at_call 55; refine K.out.mono ?_; rintro _ V ⟨v, ss, rfl, hp, ho, hn, hb2⟩; obtain ⟨va, vc, rfl⟩ := own_form ho; have HV := Lib.hid (HB.out.trans (hb2.mono HB.out.size)); clear hb2 K HB))
  have lm : (ss.mergeSort leI').length = ss.length := List.length_mergeSort ss
  have lz : (ss.mergeSort leI').length ≤ 512 := by
    have := hp.length_eq
    rw [List.length_map] at this
    have h5 : es.toList.length = es.size := Array.length_toList
    have := HZ.out
    omega
  rw [← lm] at ho ⊢
  generalize ss.mergeSort leI' = ks at *
  have HO := Lib.hid ho
  clear ho hp hn lm rd
  have HL := Lib.hid lz
  clear lz HZ
  go_loopw [14] (fun i wr => ∃ k : Nat, k ≤ ks.length ∧ i = .int .i64 k ∧ wr = V) (fun i _ => ks.length - (intOf i).toNat)
  case atStart => exact ⟨0, Nat.zero_le _, rfl, rfl⟩
  case round =>
    obtain ⟨k, hk, rfl, rfl⟩ := hrel
    by_cases hlt : k < ks.length
    · have i1 : (k : Int) < ks.length := by omega
      obtain ⟨g, cur, rfl, hg, hcz, hc⟩ := ks_own (by omega) HO.out rfl
      have rg := rowOf_of hg
      have ck := hc k hlt
      obtain ⟨kk, hkk⟩ : ∃ kk, kk = ks[k] := ⟨_, rfl⟩
      rw [← hkk] at ck
      have z1 : k < cur.size := by omega
      have ck2 : cur[k]'z1 = .int .i64 kk := Option.some.inj ((Array.getElem?_eq_getElem z1).symm.trans ck)
      have wk : IntKind.i64.wrap ((k : Int) + 1) = (k : Int) + 1 := wrap_small (by omega) (by have := HL.out; omega)
      have k0 : ((k : Int) < 0) = False := eq_false (by omega)
      clear hg hc hkk
      go_wp2
      go_roundw
      case rel => exact ⟨k + 1, by omega, rfl, trivial⟩
      case measure => simp [intOf]; omega
    · have hd := HV.out
      have hV := HH.out.keepB fun b x hx => hd.block b (HH.out.size hx)
      have rd := rowOf_of hV.ob
      have sd := soft_of hV.ob
      unfold Sx.Ab.cells at rd
      have mr : wr.heap[r2]? = some (.map es cl) := (hd.block r2 (Array.getElem?_eq_some_iff.1 E1.out).1).trans E1.out
      have hset := MapKept.run_setObj_map (P := Tryz.prog) (.map #[] cl) mr
      have hget := MapKept.run_getObj_map (P := Tryz.prog) mr
      have hclr : (Builtin.clear_ #[102] 0 #[.map (some r2)]).run Tryz.prog wr = .ok (.tuple #[]) { wr with heap := wr.heap.setIfInBounds r2 (.map #[] cl) } := by
        simp only [Builtin.clear_, List.getElem?_toArray, List.getElem?_cons_zero, Sem.run_bind, run_underlying Tryz.underlying102, Result.andThen_ok, hget, hset, Sem.run_pure]
      have HS := Lib.hid hV
      clear hset hget hV hd
      go_upto_region 13 with (fail)
      obtain ⟨Y, hY⟩ : ∃ Y, Y = putMap wr r2 #[] cl := ⟨_, rfl⟩
      refine (show Code.wp Tryz.prog _ _ _ (putMap wr r2 #[] cl) from ?_)
      rw [← hY]
      have hy2 : Y.heap[r2]? = some (.map #[] cl) := by rw [hY]; exact putMap_at (Array.getElem?_eq_some_iff.1 mr).1 _ _
      have hyn : ∀ i, i ≠ r2 → Y.heap[i]? = wr.heap[i]? := fun i hi => by rw [hY]; exact putMap_ne _ _ _ _ hi
      have hyz : Y.heap.size = wr.heap.size ∧ Y.os = wr.os ∧ Y.tape = wr.tape ∧ Y.output = wr.output := by rw [hY]; exact ⟨by simp [putMap], rfl, rfl, rfl⟩
      obtain ⟨n1, n2, n3⟩ := HS.out.nmap
      have hbd := (hyn bd n2).trans HS.out.ob
      have rd := rowOf_of hbd
      have sd := soft_of hbd
      unfold Sx.Ab.cells at rd
      have Z := Lib.hid (And.intro hy2 (And.intro hyn (And.intro hyz (And.intro n1 (And.intro n2 (And.intro n3 hbd))))))
      clear hy2 hyn hyz n1 n2 n3 hbd mr hclr hY
      go_wp2
      go_end0
      obtain ⟨hy2, hyn, hyz, n1, n2, n3, hbd⟩ := Z.out
      have hk : ∀ i, i ≠ bd → ((Y.setCell ⟨bd, 2, none⟩ (.bool false)).setCell ⟨bd, 3, none⟩ (.int .i64 (-1))).heap[i]? = Y.heap[i]? := fun i hi => by
        rw [heap_setCell_at, if_neg (Ne.symm hi), heap_setCell_at, if_neg (Ne.symm hi)]
      have d := HS.out
      refine ⟨rfl, F, ⟨bd, r1, r2, bl, ⟨?_, ?_, ?_, fun k b hb => ?_, d.torn, d.bare, fun k l hb => (by cases hb), d.ne, d.inj, ⟨Int.le_refl _, by show (-1 : Int) < _; decide⟩⟩, rfl, hF⟩, ?_, fun _ _ h => .inl h⟩
      · rw [heap_setCell_at, if_pos rfl, heap_setCell_at, if_pos rfl, hbd]
        rfl
      · obtain ⟨es1, c1, l1, q1, q2⟩ := d.m1
        exact ⟨es1, c1, l1, ((hk r1 (Ne.symm n1)).trans (hyn r1 d.ne)).trans q1, q2⟩
      · exact ⟨#[], cl, [], (hk r2 (Ne.symm n2)).trans hy2, ⟨List.Perm.refl _, List.nodup_nil⟩, MapKept.stamped_empty _, fun k => rfl⟩
      · obtain ⟨q1, l, q2, q3, q4⟩ := d.sec k b hb
        exact ⟨q1, l, q2, q3, Sx.secat_heap q4 ((hk b q1).trans (hyn b (n3 k b hb).2))⟩
      · have hd := HV.out
        refine ⟨hyz.2.1.trans hd.os, hyz.2.2.1.trans hd.tape, hyz.2.2.2.trans hd.output, ?_, fun i hi hn => ?_⟩
        · have := hd.size
          have := hyz.1
          simp [World.setCell]
          omega
        · rw [hk i (fun e => hn 0 (e ▸ (hF bd 0).2 (.inl rfl))), hyn i (fun e => hn 0 (e ▸ (hF r2 0).2 (.inr (.inr (.inl rfl)))))]
          exact hd.block i hi
end Go.Proofs.YtjkfondgacjpnaaGreatDoor

namespace Go.Proofs.YtjkfondgacjpnaaGreatDoor
open Go.RowKit
open Sx (Ab DW Turns Did Foot MapIs DiskAt FootD z128)
set_option maxRecDepth 100000
theorem arm_fails {A : Ab} {j : Jr} {R : List (Int × List Nat)} (h : Holds A j R) (hc : Calm A) {L : List Nat} (hr : RowOk (1, L)) (hfit : (secL R).length + npc (rowF (1, L)) ≤ 255) : appE (A.arm 0) j 1 L = 9 ∧ ∃ l, appA (A.arm 0) j 1 L = ((A.arm 0).put j.at_ l).strA := by
  obtain ⟨e1, e2⟩ := laid_ok hr
  have hp := npc_pos (1, L)
  have g : (j.dead || (A.arm 0).off) = false := by
    show (j.dead || A.off) = false
    rw [h.half.live, hc.on]; rfl
  have ha := h.half.at_
  dsimp only at e1 e2
  have hroom : ¬ j.first + 256 - j.at_ < (npc (rowF (1, L)) : Nat) := by omega
  obtain ⟨M, hL⟩ : ∃ M, appL j 1 L = .wr j.at_ (pc (rowF (1, L)) 0) :: M := by
    unfold appL
    rw [e2]
    obtain ⟨p, ps, hps⟩ : ∃ p ps, pcs (rowF (1, L)) = p :: ps := by
      cases hq : pcs (rowF (1, L)) with
      | nil => have := pcs_length (rowF (1, L)); rw [hq] at this; simp at this; omega
      | cons p ps => exact ⟨p, ps, rfl⟩
    have h0 := pcs_get (rowF (1, L)) hp
    rw [hps] at h0
    have h0 : p = pc (rowF (1, L)) 0 := Option.some.inj h0
    rw [hps, wrs_cons, h0]
    exact ⟨_, rfl⟩
  have hw : (A.arm 0).wrE j.at_ (pc (rowF (1, L)) 0) = 9 := by
    unfold Sx.Ab.wrE
    rw [if_neg (by show ¬ A.off = true; rw [hc.on]; decide)]
    exact if_pos (by rfl)
  have hwA : (A.arm 0).wr j.at_ (pc (rowF (1, L)) 0) = ((A.arm 0).put j.at_ (pc (rowF (1, L)) 0)).strA := by
    unfold Sx.Ab.wr
    rw [if_neg (by show ¬ A.off = true; rw [hc.on]; decide)]
  have hE : stpsE (appL j 1 L) (A.arm 0) = 9 := by
    rw [hL]
    show (if (A.arm 0).wrE j.at_ _ = 0 then _ else (A.arm 0).wrE j.at_ _) = 9
    rw [hw]; rfl
  have hA : stpsA (appL j 1 L) (A.arm 0) = ((A.arm 0).put j.at_ (pc (rowF (1, L)) 0)).strA := by
    rw [hL]
    show (if (A.arm 0).wrE j.at_ _ = 0 then _ else (A.arm 0).wr j.at_ _) = _
    rw [hw, hwA]; rfl
  refine ⟨?_, pc (rowF (1, L)) 0, ?_⟩
  · unfold appE; rw [g, e1, e2]; simp [hroom, hE]
  · unfold appA; rw [g, e1, e2]; simp [hroom, hA]
theorem crash_holds {A : Ab} {j : Jr} {R : List (Int × List Nat)} (h : Holds A j R) {i : Int} {l : List Nat} : Holds (crash0 (((A.arm 0).put i l).strA)) j R ∧ Calm (crash0 (((A.arm 0).put i l).strA)) := by
  have hl : (crash0 (((A.arm 0).put i l).strA)).last = A.last := by
    show (((A.arm 0).put i l).strA).last = A.last
    unfold Sx.Ab.strA
    split <;> rfl
  have hs : ∀ k, (crash0 (((A.arm 0).put i l).strA)).see k = A.see k := fun k => by
    show (match (none : Option (List Nat)) with | some l => some l | none => (crash0 (((A.arm 0).put i l).strA)).last k) = _
    rw [hl]
    unfold Sx.Ab.see
    rw [h.still]
  have hr : ∀ s, j.at_ ≤ s → s < j.first + 256 → (crash0 (((A.arm 0).put i l).strA)).see s = some z128 := fun s q1 q2 => by rw [hs]; exact h.rest s q1 q2
  exact ⟨⟨h.half.congr (fun k l hk => h.half.sm k l (hk.elim (fun e => .inl (by rw [← hl]; exact e)) fun e => (by cases e))) (hs _) (fun s _ _ => hs s) hr (by rw [turnA_see (hs _)]; exact h.half.other), fun _ => rfl, hr⟩, ⟨rfl, by show (-1 : Int) < 0; decide⟩⟩
theorem DeadAt.drow {w : World} {D : Dm} (h : DeadAt w D) : rowOf w D.xb = dmC D.t D.sv D.jb D.bk true := rowOf_of h.row
structure Gone (S : MS) (j : Nat) (n : Nd) (D : Dm) : Prop where
  nd : S.nd j = some n
  ds : S.ds j = .dead D
  at_ : getA S.nodes j = some (ptA n.b)
  xv : n.xv = ptA D.xb
theorem Gone.dead {S : MS} {j : Nat} {n : Nd} {D : Dm} (h : Gone S j n D) {w : World} (m : MW w S) : DeadAt w D := by
  have := m.at_ (.da j)
  simp only [MS.part, h.ds] at this
  exact this
theorem Gone.off {S : MS} {j : Nat} {n : Nd} {D : Dm} (h : Gone S j n D) {w : World} (m : MW w S) : Calls Tryz.prog 25 #[ptA n.b] w fun e w' => e = .returned (.bool true) ∧ w' = w := by
  have r := rowOf_of (m.ndAt h.nd).row
  unfold Nd.cells at r
  rw [h.xv] at r
  exact off_any r (h.dead m).drow
theorem Propose_fails {w : World} {S : MS} (h : MW w S) (hF : Forms S.u) (hT : Tabs S.u) {a b : Nat} {n : Nd} {D : Dm} (is : Live S a n D) {nb2 : Nat} (is2 : S.at_ b = ptA nb2) (hk : TmK D.t) (hsl : D.seed.length ≤ 64) (hab : a ≠ b) (hM : D.M = [])
    {i : Int} {p g : Lg} (hi : I64 i) (hc : errD (proposeD D i b p g S.now) = 0) (l1 : (p.a < D.t.least) = False) (l2 : (p.a > D.t.most) = False) (hE : appE D.A D.j 1 (putD (proposeD D i b p g S.now)) = 9) :
    Calls Tryz.prog 10 #[.pointer (some ⟨S.wb, 0, none⟩), .int .i64 a, .int .i64 b, .int .i64 i, .agg p.cells, .agg g.cells] w fun e w' => e = .returned (.int .i64 9) ∧ ∃ D', D'.xb = D.xb ∧ D' = { D with F := D'.F, A := appA D.A D.j 1 (putD (proposeD D i b p g S.now)) } ∧ Goes w S w' { S with ds := upd S.ds a (.dead D') } := by
  refine (Propose_gen (m := Msg.zero) (k := 9) (R := fun S' => ∃ D', S' = { S with ds := upd S.ds a (.dead D') } ∧ D'.xb = D.xb ∧ D' = { D with F := D'.F, A := appA D.A D.j 1 (putD (proposeD D i b p g S.now)) }) h is is2 hab rfl fun W hW => ?_).mono ?_
  · have G2 := h.below hW
    refine (propose_down (peer := (b : Int)) (n := S.now) (is.dae G2.mw) hM ((G2.mw.mine is.ds).base hF hT) hk hsl hi hc l1 l2 hE).mono ?_
    rintro e Z ⟨he, D', dd, x, q, cp⟩
    have g3 := G2.mw.da a (d := .dead D') (by show Comp _ _ (S.ds a).part.P _; rw [is.ds]; exact cp) dd
    exact ⟨he, { S with ds := upd S.ds a (.dead D') }, ⟨is.nd, rfl, rfl, rfl, rfl⟩, ⟨D', rfl, x, q⟩, G2.trans g3, g3.comp⟩
  · rintro e w' ⟨he, S', _, ⟨D', rfl, x, q⟩, g⟩
    exact ⟨he, D', x, q, g⟩
attribute [local go_sem ↓] rowOf_cell
theorem Restart_nil {w : World} {S : MS} (h : MW w S) {a : Nat} {n : Nd} {D : Dm} (is : Gone S a n D) (hv : n.dv = D.dv) {j : Jr} (hh : Holds (crash0 D.A) j []) (hc : Calm (crash0 D.A)) (hT : TmK n.t) (h0 : 0 < n.seed.length) (hl : n.seed.length ≤ 64) :
    Calls Tryz.prog 13 #[.pointer (some ⟨S.wb, 0, none⟩), .int .i64 a, .slice none 0 0] w fun e w' => e = .returned (.int .i64 0) ∧ ∃ D' tb, Goes w S w' { S with nd := upd S.nd a (some { n with xv := ptA D'.xb, tv := .map (some tb) }), tm := upd S.tm a (some (tb, [])), ds := upd S.ds a (.live D') } ∧ Lies w' D' (· = []) [] := by
  have rw0 := rowOf_of h.wrAt
  have lk := h.look a
  rw [MS.at_some is.at_] at lk
  unfold ptA at lk
  have rn := rowOf_of (h.ndAt is.nd).row
  unfold Nd.cells at rn
  rw [hv] at rn
  have dd := is.dead h
  have CR := Lib.hid (crash_nil dd.dw)
  have H := Lib.hid h
  have IS := Lib.hid is
  have HH := Lib.hid (And.intro hh (And.intro hc (And.intro hT (And.intro h0 (And.intro hl hv)))))
  clear h is dd hh hc hT h0 hl hv
  go_enter Tryz.func13, Tryz.ntmps13
  go_wp2_with (go_at_call 30; refine CR.out.mono ?_; rintro _ V ⟨rfl, F', hd, ht, hf⟩)
  have g1 : Goes w S V { S with ds := upd S.ds a (.disk F' n.dv (crash0 D.A)) } := H.out.da a (by
    rw [IS.out.ds]
    exact ⟨ht.os, ht.tape, ht.output, ht.size, fun i hi hn => ⟨ht.block i hi fun x hx => hn (.inr ⟨x, hx⟩), fun ⟨x, q⟩ => (hf _ x q).elim (fun q => hn (.inr ⟨x, q⟩)) fun q => by omega⟩⟩) (by rw [HH.out.2.2.2.2.2]; exact hd)
  have OK := open_ok (k := a) (n := n) (F := F') (A := crash0 D.A) (A' := crash0 D.A) (j := j) g1.mw IS.out.nd (upd_at _ _ _) HH.out.1.half.sm (HH.out.1.opens HH.out.2.1.on) HH.out.1 HH.out.2.1 HH.out.2.2.1 HH.out.2.2.2.1 HH.out.2.2.2.2.1
  dsimp only at OK
  simp only [upd_twice] at OK
  have OK := Lib.hid OK
  have G1 := Lib.hid g1
  clear g1 hd ht hf CR
  refine OK.out.mono ?_
  rintro _ Z ⟨rfl, D', tb, g2, l2, _, _, _⟩
  have G2 := Lib.hid (And.intro (G1.out.trans g2) l2)
  clear g2 l2 OK G1 rw0 lk rn
  go_wp2
  go_ret
  exact ⟨rfl, D', tb, G2.out.1, G2.out.2⟩
end Go.Proofs.YtjkfondgacjpnaaGreatDoor

namespace Go.Proofs.YtjkfondgacjpnaaGreatDoor
open Go.RowKit
open Sx (Ab DW Turns Did Foot MapIs DiskAt FootD z128)
set_option maxRecDepth 100000
attribute [local go_sem ↓] rowOf_cell
attribute [local go_sem] rowOf_alloc soft_alloc rowOf_drew soft_drew rowOf_setRow soft_setRow rowOf_setCell soft_setCell frozen_of_soft rowOf_map soft_map Sx.run_mk Ext.row Ext.soft_
attribute [local go_sem ↓] ebnd
attribute [local go_sem] tmOf_mk svOf_mk pbOf_mk
theorem Open_chk {w : World} {t : Tm} {v dv : Value} {e : Int} (he : chkT t = e) (e0 : (e != 0) = true) : Calls Tryz.prog 58 #[.agg t.cells, v, dv] w fun x w' => x = .returned (.tuple #[.pointer none, .int .i64 e]) ∧ Below w.heap.size w w' := by
  have HE := Lib.hid he
  clear he
  go_enter Tryz.func58, Tryz.ntmps58
  go_upto_region 1 with (fail)
  have bx := Bx.new w (t.cells) 53; generalize w.alloc (.cells (t.cells) 53) = W at bx ⊢; have rx := bx.rowOf; have sx := bx.soft; have BX := Lib.hid bx; clear bx
  have Q := QCheck_any t W
  rw [HE.out] at Q
  have Q := Lib.hid Q
  go_wp2_with fail
  refine (Q.out).mono ?_; rintro _ W2 ⟨rfl, hb⟩; have bx := BX.out.step hb; clear BX rx sx hb; have rx := bx.rowOf; have sx := bx.soft; have BX := Lib.hid bx; clear bx
  go_wp2
  refine bodyPost_ret (results_tmp2 rfl _ _ _) rfl ?_
  exact ⟨rfl, BX.out.below⟩
theorem Open_long {w : World} {t : Tm} {ao : Option Addr} {n c : Nat} {dv : Value} (he : chkT t = 0) (hn : 64 < n) : Calls Tryz.prog 58 #[.agg t.cells, .slice ao n c, dv] w fun x w' => x = .returned (.tuple #[.pointer none, .int .i64 5]) ∧ Below w.heap.size w w' := by
  have HE := Lib.hid he
  have h1 : ((n : Int) > 64) = True := eq_true (by omega)
  clear he
  go_enter Tryz.func58, Tryz.ntmps58
  go_upto_region 1 with (fail)
  have bx := Bx.new w (t.cells) 53; generalize w.alloc (.cells (t.cells) 53) = W at bx ⊢; have rx := bx.rowOf; have sx := bx.soft; have BX := Lib.hid bx; clear bx
  have Q := QCheck_any t W
  rw [HE.out] at Q
  have Q := Lib.hid Q
  go_wp2_with fail
  refine (Q.out).mono ?_; rintro _ W2 ⟨rfl, hb⟩; have bx := BX.out.step hb; clear BX rx sx hb; have rx := bx.rowOf; have sx := bx.soft; have BX := Lib.hid bx; clear bx
  go_wp2
  refine bodyPost_ret (results_tmp2 rfl _ _ _) rfl ?_
  exact ⟨rfl, BX.out.below⟩
theorem open_err {w : World} {B b : Nat} {xv dv tv : Value} {t : Tm} {s : Sv} (hb : w.heap[b]? = some (.cells (ndC xv t s dv tv) 62)) (hB : B ≤ b) {e : Int} (hO : ∀ W, Below b w W → Calls Tryz.prog 58 #[.agg t.cells, .slice s.a s.n s.c, dv] W fun x w' => x = .returned (.tuple #[.pointer none, .int .i64 e]) ∧ Below W.heap.size W w') :
    Calls Tryz.prog 31 #[.pointer (some ⟨b, 0, none⟩)] w fun x w' => x = .returned (.int .i64 e) ∧ Below B w w' := by
  have lb := (Array.getElem?_eq_some_iff.1 hb).1
  have r0 := rowOf_of hb
  have s0 := soft_of hb
  have nb0 : (b = w.heap.size) = False := eq_false (Nat.ne_of_lt lb)
  have HH := Lib.hid hO
  have HBB := Lib.hid (And.intro hb (And.intro hB lb))
  clear hO hb hB lb
  go_enter Tryz.func31, Tryz.ntmps31
  go_upto_region 2 with (fail)
  obtain ⟨W, eW⟩ : ∃ W, W = (w.alloc (.map #[] 0)).setCell ⟨b, 12, none⟩ (.map (some w.heap.size)) := ⟨_, rfl⟩
  rw [← eW]
  have ba : Below b w (w.alloc (.map #[] 0)) := (Below.refl b w).alloc (Nat.le_of_lt HBB.out.2.2) _
  have hz : (w.alloc (.map #[] 0)).heap.size = w.heap.size + 1 := by simp
  have bW : Below b w W := by rw [eW]; exact ba.setCell (Nat.le_refl b) _
  have hw : W.heap[b]? = some (.cells (ndC xv t s dv (.map (some w.heap.size))) 62) := by
    rw [eW, heap_setCell_at, if_pos rfl, (MapKept.heap_alloc _ _).2 _ HBB.out.2.2, HBB.out.1]
    rfl
  have r2 := rowOf_of hw
  have s2 := soft_of hw
  have zW : w.heap.size < W.heap.size := by rw [eW]; simp [World.setCell]
  have C := Lib.hid (HH.out W.drew bW.drew)
  have R2 : sub (rowOf W.drew b) 1 9 = t.cells ∧ 10 ≤ (rowOf W.drew b).size ∧ (rowOf W.drew b)[10]? = some (.slice s.a s.n s.c) ∧ (rowOf W.drew b)[11]? = some dv := by
    have : rowOf W.drew b = _ := r2
    rw [this]
    exact ⟨nd_t _ _ _ _ _, (by decide : 10 ≤ 13), rfl, rfl⟩
  have HW := Lib.hid (And.intro bW (And.intro hw zW))
  clear r0 s0 nb0 ba hz bW hw eW zW HH
  go_region_held3 (fun w' => sub (rowOf w' b) 1 9 = t.cells ∧ 10 ≤ (rowOf w' b).size ∧ (rowOf w' b)[10]? = some (.slice s.a s.n s.c) ∧ (rowOf w' b)[11]? = some dv) (first | exact R2 | exact R3 | exact R4) (first
    | (go_at_call 58; refine C.out.mono ?_; rintro _ V ⟨rfl, hbv⟩
       have lbw : b < W.drew.heap.size := Nat.lt_trans HBB.out.2.2 HW.out.2.2
       have hv := (hbv.block b lbw).trans HW.out.2.1
       have r3 := rowOf_of hv
       have s3 := soft_of hv
       have R3 : sub (rowOf V b) 1 9 = t.cells ∧ 10 ≤ (rowOf V b).size ∧ (rowOf V b)[10]? = some (.slice s.a s.n s.c) ∧ (rowOf V b)[11]? = some dv := by
         rw [r3]
         exact ⟨nd_t _ _ _ _ _, (by decide : 10 ≤ 13), rfl, rfl⟩
       have R4 : sub (rowOf (V.setCell ⟨b, 0, none⟩ (.pointer none)) b) 1 9 = t.cells ∧ 10 ≤ (rowOf (V.setCell ⟨b, 0, none⟩ (.pointer none)) b).size ∧ (rowOf (V.setCell ⟨b, 0, none⟩ (.pointer none)) b)[10]? = some (.slice s.a s.n s.c) ∧ (rowOf (V.setCell ⟨b, 0, none⟩ (.pointer none)) b)[11]? = some dv := by
         rw [rowOf_setCell, if_pos rfl, r3, nd_set0]
         exact ⟨nd_t _ _ _ _ _, (by decide : 10 ≤ 13), rfl, rfl⟩
       have B5 := Lib.hid (((HW.out.1.drew.trans (hbv.mono (Nat.le_of_lt lbw))).setCell (show b ≤ (⟨b, 0, none⟩ : Addr).block from Nat.le_refl b) (.pointer none)).mono HBB.out.2.1)
       clear hbv lbw hv r2 s2))
  clear R2 R3 R4 r3 s3
  go_wp2
  go_ret
  exact ⟨rfl, B5.out⟩
structure NSu (tt : Tm) (W : World) (lb sn : Nat) (sd : List Nat) (v : Value) (X : World) (c : Option (Option Addr × Nat)) (b : Option Nat) (a : Option (Option Addr × Nat)) (d : Option (Nat × Foot)) : Prop where
  low : Below W.heap.size W X
  row : X.heap[lb]? = some (.cells tt.cells 53)
  llt : lb < W.heap.size
  hc : ∀ x, c = some x → X.ownsRow W.heap.size 5 1 (.slice x.1 sn x.2) sn (bts sd)
  hb : ∀ x, b = some x → X.heap[x]? = some (.cells #[v] 5)
  ha : ∀ x, a = some x → X.ownsRow W.heap.size 5 1 (.slice x.1 (sn + 1) x.2) (sn + 1) (bts sd ++ [v])
  hd : ∀ x, d = some x → DW X x.2 (.pointer (some ⟨x.1, 0, none⟩)) Sx.ab0 ∧ NoB X x.2 W.heap.size
section
variable {tt : Tm} {W X X' : World} {lb sn : Nat} {sd : List Nat} {v : Value} {c : Option (Option Addr × Nat)} {b : Option Nat} {a : Option (Option Addr × Nat)} {d : Option (Nat × Foot)}
theorem NSu.below (h : NSu tt W lb sn sd v X c b a d) (hb : Below X.heap.size X X') : NSu tt W lb sn sd v X' c b a d :=
  ⟨h.low.trans (hb.mono h.low.size), (hb.block _ (Array.getElem?_eq_some_iff.1 h.row).1).trans h.row, h.llt, fun x hx => own_ext (h.hc x hx) (Ext.of hb), fun x hx => (hb.block _ (Array.getElem?_eq_some_iff.1 (h.hb x hx)).1).trans (h.hb x hx), fun x hx => own_ext (h.ha x hx) (Ext.of hb), fun x hx => ⟨(h.hd x hx).1.below hb, (h.hd x hx).2.keep (h.hd x hx).1 fun i ⟨y, hy⟩ => hb.block i ((h.hd x hx).1.lt hy)⟩⟩
theorem NSu.clone (h : NSu tt W lb sn sd v X none b none d) {so : Option Addr} {sc : Nat} (hs : Sl W so sn sc (bts sd)) (hn : sn < 1099511627776) : Calls Tryz.prog 37 #[.slice so sn sc] X fun e w' => ∃ ao cc, e = .returned (.slice ao sn cc) ∧ NSu tt W lb sn sd v w' (some (ao, cc)) b none d := by
  refine (Clone_any (hs.keep (Nat.le_refl _) h.low) hn).mono ?_
  rintro e w' ⟨ao, cc, rfl, hb, ho⟩
  have h2 := h.below hb
  exact ⟨ao, cc, rfl, h2.low, h2.row, h2.llt, fun x hx => (by cases hx; exact own_base ho h.low.size), h2.hb, h2.ha, h2.hd⟩
theorem NSu.bs (h : NSu tt W lb sn sd v X c none none d) : NSu tt W lb sn sd v (X.alloc (.cells #[v] 5)) c (some X.heap.size) none d := by
  have h2 := h.below (below1 X (.cells #[v] 5))
  exact ⟨h2.low, h2.row, h2.llt, h2.hc, fun x hx => (by cases hx; exact heap_alloc_new X _), h2.ha, h2.hd⟩
theorem NSu.disk (h : NSu tt W lb sn sd v X c b a none) : Calls Tryz.prog 38 #[] X fun e w' => ∃ p F, e = .returned (.pointer (some ⟨p, 0, none⟩)) ∧ NSu tt W lb sn sd v w' c b a (some (p, F)) := by
  refine (new_disk X).mono ?_
  rintro e w' ⟨p, F, rfl, hd, hb, hn⟩
  have h2 := h.below hb
  exact ⟨p, F, rfl, h2.low, h2.row, h2.llt, h2.hc, h2.hb, h2.ha, fun x hx => (by cases hx; exact ⟨hd, fun i y hy => ⟨Nat.le_trans h.low.size (hn i y hy).1, (hn i y hy).2⟩⟩)⟩
theorem NSu.app {x : Option Addr × Nat} {y : Nat} (h : NSu tt W lb sn sd v X (some x) (some y) none d) {g cap : Nat} (ho : X'.ownsRow W.heap.size 5 1 (.slice (some ⟨g, 0, none⟩) (sn + 1) cap) (sn + 1) (bts sd ++ [v])) (hg : X.grownBy X' (Value.slice x.1 sn x.2).ownBlock) : NSu tt W lb sn sd v X' none none (some (some ⟨g, 0, none⟩, cap)) d := by
  have hx := h.hc x rfl
  have low := h.low.grown hg h.low.size (own_block hx)
  refine ⟨low, (low.block _ h.llt).trans ?_, h.llt, fun x hx => (by cases hx), fun x hx => (by cases hx), fun x hx => (by cases hx; exact ho), fun z hz => ?_⟩
  · exact (h.low.block _ h.llt).symm.trans h.row
  · have kp : ∀ i, (∃ q, z.2 i q) → X'.heap[i]? = X.heap[i]? := fun i ⟨q, hq⟩ => hg.block i ((h.hd z hz).1.lt hq) fun e => by
      rcases hx.2 with ⟨hv, _⟩ | ⟨g', cp, cur, hv, _, hh, _⟩
      · rw [hv] at e; cases e
      · rw [hv] at e
        have e : some i = some g' := e
        cases e
        exact ((h.hd z hz).2 i q hq).2 cur hh
    exact ⟨(h.hd z hz).1.keepB kp, (h.hd z hz).2.keep (h.hd z hz).1 kp⟩
end
theorem nsu_new {tt : Tm} {W X : World} {lb sn g cap p : Nat} {sd : List Nat} {v : Value} {F : Foot} (st : NSu tt W lb sn sd v X none none (some (some ⟨g, 0, none⟩, cap)) (some (p, F))) :
    ∃ nb V, nb = X.heap.size ∧ V = X.alloc (.cells (ndC (.pointer none) tt ⟨some ⟨g, 0, none⟩, sn + 1, cap⟩ (.pointer (some ⟨p, 0, none⟩)) (.map none)) 62) ∧ V.heap[nb]? = some (.cells (ndC (.pointer none) tt ⟨some ⟨g, 0, none⟩, sn + 1, cap⟩ (.pointer (some ⟨p, 0, none⟩)) (.map none)) 62) ∧ Below W.heap.size W V ∧ W.heap.size ≤ nb :=
  ⟨_, _, rfl, rfl, heap_alloc_new X _, st.low.trans ((below1 X _).mono st.low.size), st.low.size⟩
theorem New_few {w : World} {ao : Option Addr} {c : Nat} {v : Value} : Calls Tryz.prog 21 #[.slice ao 1 c, v] w fun e w' => e = .returned (.tuple #[.pointer none, .int .i64 1]) ∧ w' = w := by
  go_enter Tryz.func21, Tryz.ntmps21
  go_wp2
  refine bodyPost_ret (results_tmp2 rfl _ _ _) rfl ?_
  exact ⟨rfl, rfl⟩
set_option maxHeartbeats 2000000 in
theorem New_err {w : World} {tb tc : Nat} {so : Option Addr} {sn sc : Nat} {sd : List Nat} {tt : Tm} {C : Array Value} {ty : TypeId} (ht : w.heap[tb]? = some (.cells C ty)) (c1 : sub C 0 9 = tt.cells) (c2 : 9 ≤ C.size) (hs : Sl w so sn sc (bts sd)) (hl : sn ≤ 1000) {e : Int} (e0 : (e != 0) = true)
    (hO : ∀ W ao cc dv, Below w.heap.size w W → Calls Tryz.prog 58 #[.agg tt.cells, .slice ao (sn + 1 : Nat) cc, dv] W fun x w' => x = .returned (.tuple #[.pointer none, .int .i64 e]) ∧ Below W.heap.size W w') :
    Calls Tryz.prog 21 #[.slice (some ⟨tb, 0, none⟩) 2 tc, .slice so sn sc] w fun x w' => x = .returned (.tuple #[.pointer none, .int .i64 e]) ∧ Below w.heap.size w w' := by
  have HT := Lib.hid ht
  have HS := Lib.hid hs
  have HL := Lib.hid hl
  have HO := Lib.hid hO
  have NN := Lib.hid (New_net (n := 2) (eq_false (by decide)) (eq_false (by decide)) w)
  clear ht hs hl hO
  go_enter Tryz.func21, Tryz.ntmps21
  go_wp2_with fail
  refine NN.out.mono ?_
  rintro _ W ⟨X, rfl, q1, q2, q3, q4, q5⟩
  have b3 : Below w.heap.size w ((W.alloc (.map #[] 0)).alloc (.cells (wrC X.nb W.heap.size ⟨0, 0, 0⟩) 39)) := (q4.alloc q4.size _).alloc (by have := q4.size; simp; omega) _
  have s1 : (W.alloc (.map #[] 0)).heap.size = W.heap.size + 1 := by simp
  clear q1 q2 q3 q5 NN
  go_upto_region 5 with (fail)
  change Code.wp _ _ _ _ ((W.alloc (.map #[] 0)).alloc (.cells (wrC X.nb W.heap.size ⟨0, 0, 0⟩) 39))
  generalize (W.alloc (.map #[] 0)).alloc (.cells (wrC X.nb W.heap.size ⟨0, 0, 0⟩) 39) = wr at b3 ⊢
  generalize hwb : W.heap.size + 1 = wb at *
  generalize W.heap.size = mz at *
  clear hwb s1 q4
  have HM := Lib.hid b3
  go_loopw [27] (fun i w2 => i = .int .i64 0 ∧ w2 = wr) (fun _ _ => 0)
  case atStart => exact ⟨rfl, rfl⟩
  case round =>
    obtain ⟨rfl, rfl⟩ := hrel
    have hT := b3.block tb (Array.getElem?_eq_some_iff.1 HT.out).1
    have rt := rowOf_of (hT.trans HT.out)
    clear hT b3
    go_upto_region 7 with (fail)
    have L := Bx.made wr #[.int .i64 0, .int .i64 0, .int .i64 0, .int .i64 0, .int .i64 0, .int .i64 0, .int .i64 0, .int .i64 0, .int .i64 0] tt.cells 53
    generalize (wr.alloc (.cells #[.int .i64 0, .int .i64 0, .int .i64 0, .int .i64 0, .int .i64 0, .int .i64 0, .int .i64 0, .int .i64 0, .int .i64 0] 53)).setRow wr.heap.size tt.cells = W2 at L ⊢
    have rl := L.rowOf
    have ll := (Array.getElem?_eq_some_iff.1 L.row).1
    have G2 := Lib.hid (HM.out.trans (L.below.mono HM.out.size))
    have hs2 : Sl W2 so sn sc (bts sd) := HS.out.keep (Nat.le_refl _) G2.out
    have hsl := hs2.len
    rw [bts_length] at hsl
    clear rt
    have st : NSu tt W2 wr.heap.size sn sd (.int .u8 (1)) W2.drew none none none none := ⟨(Below.refl _ W2).drew, L.row, ll, fun x hx => (by cases hx), fun x hx => (by cases hx), fun x hx => (by cases hx), fun x hx => (by cases hx)⟩
    have ST := Lib.hid st
    have HS2 := Lib.hid hs2
    have L2 := Lib.hid L.below
    clear st hs2 L
    go_region_held3 (fun w' => rowOf w' wr.heap.size = tt.cells) (first | exact rl | exact rowOf_of ST.out.row | exact rowOf_of ST.out.bs.row | exact rowOf_of (ST.out.below (below1 _ _)).row) (first
      | (go_at_call 37; first
          | (refine (ST.out.clone HS2.out (by have := HL.out; omega)).mono ?_; rintro _ X1 ⟨ao, cc, rfl, st⟩; clear ST; have ST := Lib.hid st; clear st)
          | (refine (ST.out.bs.clone HS2.out (by have := HL.out; omega)).mono ?_; rintro _ X1 ⟨ao, cc, rfl, st⟩; clear ST; have ST := Lib.hid st; clear st))
      | (go_at_call 38; first
          | (refine (ST.out.disk).mono ?_; rintro _ X2 ⟨p, F, rfl, st⟩; clear ST; have ST := Lib.hid st; clear st)
          | (refine (ST.out.bs.disk).mono ?_; rintro _ X2 ⟨p, F, rfl, st⟩; clear ST; have ST := Lib.hid st; clear st))
      | (have st := ST.out; refine step_app_at elemB rfl _ _ rfl (B := W2.heap.size) (v := .slice ao sn cc) (n := sn) (xs := bts sd) rfl (st.hc _ rfl) rfl (m := 1) (news := [.int .u8 (1)]) rfl (fun y z hz => (by have := World.news_of_block (st.hb _ rfl) y z hz; exact this)) (fun u hu => (by simp only [List.mem_cons, List.not_mem_nil, or_false] at hu; rcases hu with rfl; rfl)) (by decide) (by have := HL.out; omega) st.low.size ?_; intro g7 cap7 w7 hown7 hgr7 hat7 hlt7; have st7 := st.app (x := (ao, cc)) hown7 hgr7; clear ST st hown7 hgr7 hat7 hlt7; have ST := Lib.hid st7; clear st7)
      | (have st := ST.out.bs; refine step_app_at elemB rfl _ _ rfl (B := W2.heap.size) (v := .slice ao sn cc) (n := sn) (xs := bts sd) rfl (st.hc _ rfl) rfl (m := 1) (news := [.int .u8 (1)]) rfl (fun y z hz => (by have := World.news_of_block (st.hb _ rfl) y z hz; exact this)) (fun u hu => (by simp only [List.mem_cons, List.not_mem_nil, or_false] at hu; rcases hu with rfl; rfl)) (by decide) (by have := HL.out; omega) st.low.size ?_; intro g7 cap7 w7 hown7 hgr7 hat7 hlt7; have st7 := st.app (x := (ao, cc)) hown7 hgr7; clear ST st hown7 hgr7 hat7 hlt7; have ST := Lib.hid st7; clear st7))
    all_goals
      obtain ⟨nb, V, e1, e2, hv, bv, zb⟩ := nsu_new ST.out
      rw [← e2, ← e1]
      have bw : Below w.heap.size w V := G2.out.trans (bv.mono G2.out.size)
      have zn : w.heap.size ≤ nb := Nat.le_trans G2.out.size zb
      have OE := Lib.hid (open_err (B := w.heap.size) (e := e) hv zn fun Y hY => HO.out Y (some ⟨g7, 0, none⟩) cap7 (.pointer (some ⟨p, 0, none⟩)) (bw.trans (hY.mono zn)))
      have BW := Lib.hid bw
      clear ST e1 e2 hv bv zb bw zn
      go_wp2_with (go_at_call 31; refine OE.out.mono ?_; rintro _ Z ⟨rfl, bz⟩; have BZ := Lib.hid (BW.out.trans bz); clear bz)
      refine bodyPost_ret (results_tmp2 rfl _ _ _) rfl ?_
      exact ⟨rfl, BZ.out⟩
end Go.Proofs.YtjkfondgacjpnaaGreatDoor

namespace Go.Proofs.YtjkfondgacjpnaaGreatDoor
open Go.RowKit
open Sx (Ab DW Turns Did Foot MapIs DiskAt FootD z128)
set_option maxRecDepth 100000
attribute [local go_sem ↓] rowOf_cell
attribute [local go_sem] rowOf_alloc soft_alloc rowOf_drew soft_drew rowOf_setRow soft_setRow rowOf_setCell soft_setCell frozen_of_soft rowOf_map soft_map Sx.run_mk Ext.row Ext.soft_
theorem Deliver_none {w : World} {S : MS} (h : MW w S) (hnb : S.nb = S.X.nb) (h0 : S.X.L = []) (e : S.at_ 0 = .pointer none) {free : Int} : Calls Tryz.prog 12 #[.pointer (some ⟨S.wb, 0, none⟩), .int .i64 0, .int .i64 free] w fun e w' => e = .returned (.bool false) ∧ Goes w S w' S := by
  have rw0 := rowOf_of h.wrAt
  rw [hnb] at rw0
  have DL := Lib.hid (Deliver_no h.netAt h0)
  have H := Lib.hid h
  have HE := Lib.hid e
  clear h h0 e
  go_enter Tryz.func12, Tryz.ntmps12
  go_upto_region 2 with (go_at_call 28; refine DL.out.mono ?_; rintro _ W ⟨rfl, hb⟩)
  have bx := Bx.new W #[.int .i64 0, .int .i64 0, .slice none 0 0] 76
  generalize W.alloc (.cells #[.int .i64 0, .int .i64 0, .slice none 0 0] 76) = V at bx ⊢
  have bw : Below w.heap.size w V.drew := (hb.trans (bx.below.mono hb.size)).drew
  have G := H.out.below bw
  have GG := Lib.hid G
  have r0 : rowOf V S.wb = _ := rowOf_of G.mw.wrAt
  have rx := bx.rowOf
  have lk := G.mw.look 0
  rw [HE.out] at lk
  clear G hb bx bw rw0 DL
  (refine wp_region_still_tail 7 (by kernel_rfl) (by kernel_rfl) ?_; simp only [List.take_succ_cons, List.take_zero, List.drop_succ_cons, List.drop_zero]; (iterate 7 still_step); refine wpStill_nil ?_)
  go_wp2
  go_ret
  exact ⟨rfl, GG.out⟩
theorem Off_nil {w : World} {S : MS} (h : MW w S) {k : Int} (e : S.at_ k = .pointer none) : Calls Tryz.prog 20 #[.pointer (some ⟨S.wb, 0, none⟩), .int .i64 k] w fun e w' => e = .returned (.bool true) ∧ w' = w := Off_at h (by rw [e]; exact off_nil w)
theorem Off_live {w : World} {S : MS} (h : MW w S) {a : Nat} {n : Nd} {D : Dm} (is : Live S a n D) : Calls Tryz.prog 20 #[.pointer (some ⟨S.wb, 0, none⟩), .int .i64 a] w fun e w' => e = .returned (.bool false) ∧ w' = w := Off_at h (by rw [MS.at_some is.at_]; exact is.off h)
theorem st_twice {S0 S : MS} {W : World} {a b N : Nat} {n1 n2 : Nd} {E1 E2 D1 D2 : Dm} {tb : Nat} {tl : List (Int × Value)} {L : List (Int × Int × List Nat)} {P : List (Int × En) → Prop} {R : List (Int × List Nat)} (c : Ctx S0 a b N n1 n2 E1 E2 tb) (d : Duo S0 S W a b D1 D2 tb tl L) (i1 : DI E1 D1 P R) (hs : E1.seed.length ≤ 64) {i : Int} {p g : Lg} {q : En} (hi : I64 i) (hq : getA D1.M i = some q) (hc : errD (dealP E1 b i p g) = 0) (l1 : (p.a < 100) = False) (l2 : (p.a > 1000) = False) :
    Calls Tryz.prog 10 #[.pointer (some ⟨S0.wb, 0, none⟩), .int .i64 a, .int .i64 b, .int .i64 i, .agg p.cells, .agg g.cells] W fun e w' => e = .returned (.int .i64 13) ∧ Duo S0 S w' a b D1 D2 tb tl L := by
  obtain ⟨e1, e2, e3, e4, e5, e6, e7⟩ := d.eqs
  have ed : proposeD D1 i b p g S.now = dealP E1 b i p g := by
    unfold proposeD dealP
    rw [i1.t, i1.seed, e5, c.now]
  have lv := d.live1 c i1
  have K := Propose_twice d.mw (by rw [e1]; exact c.hF) (by rw [e1]; exact c.hT) lv (d.at2 c) (by rw [i1.t]; exact T26_ok) (by rw [i1.seed]; exact hs) c.ab (p := p) (g := g) hi (by rw [ed]; exact hc) (by rw [i1.t]; exact l1) (by rw [i1.t]; exact l2) hq
  rw [← e2]
  refine K.mono ?_
  rintro e w' ⟨he, g'⟩
  exact ⟨he, { d with mw := g'.mw }⟩
end Go.Proofs.YtjkfondgacjpnaaGreatDoor
