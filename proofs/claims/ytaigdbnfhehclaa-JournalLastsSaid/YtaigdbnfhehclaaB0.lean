/- What is proved: the library's functions that the disk's Crash calls are those that the shelf knows; the contracts of maps.Keys and slices.Sorted, at the disk's keys. No condition but those each law names. -/
import Derived.Shelf.SlIterI.Nil
import Derived.Shelf.SortM.Plain
import Derived.Shelf.SortM.SortNone
import Derived.Test.YtaigdbnfhehclaaProg
import Derived.Test.YtaigdbnfhehclaaA6
namespace Go.Proofs.Ytaigdbnfhehclaa
open Go.Shelf Go.RowKit Go.Maps Go.Sort
def keysA_ren : Go.Shelf.Ren := ⟨fun | 7 => 39 | 10 => 52 | n => n, fun | 23 => 55 | 26 => 3 | 3 => 74 | 28 => 81 | 0 => 0 | 27 => 80 | 33 => 72 | 4 => 4 | n => n, fun | n => n⟩
theorem keysA : Go.Proofs.SlLaysZI.n7 Try.prog keysA_ren := {
  mixed := by kernel_rfl
  f7 := ⟨Try.f39.name, by decide, Try.func39.trans (congrArg some (by kernel_rfl))⟩
  f10 := ⟨Try.f52.name, by decide, Try.func52.trans (congrArg some (by kernel_rfl))⟩
  t0 := Try.underlying0
  a0 := Try.isAgg0
  z0 := Try.sizeOf0
  v0 := Try.zeroValue0
  t4 := Try.underlying4
  a4 := Try.isAgg4
  z4 := Try.sizeOf4
  v4 := Try.zeroValue4
  t23 := Try.underlying55
  a23 := Try.isAgg55
  z23 := Try.sizeOf55
  v23 := Try.zeroValue55
  t26 := Try.underlying3
  a26 := Try.isAgg3
  z26 := Try.sizeOf3
  v26 := Try.zeroValue3
  t27 := Try.underlying80
  a27 := Try.isAgg80
  z27 := Try.sizeOf80
  v27 := Try.zeroValue80
  t28 := Try.underlying81
  a28 := Try.isAgg81
  z28 := Try.sizeOf81
  v28 := Try.zeroValue81
  t33 := Try.underlying72
  a33 := Try.isAgg72
  z33 := Try.sizeOf72
  v33 := Try.zeroValue72 }
def sortedA_ren : Go.Shelf.Ren := ⟨fun | 6 => 38 | 8 => 50 | 9 => 51 | 11 => 58 | 13 => 60 | 12 => 59 | 23 => 70 | 24 => 71 | 14 => 61 | 15 => 62 | 16 => 63 | 17 => 64 | 18 => 65 | 19 => 66 | 20 => 67 | 21 => 68 | 22 => 69 | 25 => 72 | 26 => 73 | 27 => 74 | 28 => 75 | 29 => 76 | 30 => 77 | 31 => 78 | n => n, fun | 26 => 3 | 28 => 81 | 24 => 22 | 0 => 0 | 3 => 3 | 37 => 36 | 48 => 95 | 50 => 111 | 4 => 4 | 40 => 103 | 39 => 102 | 45 => 107 | 5 => 5 | 9 => 9 | 51 => 112 | 55 => 116 | 57 => 118 | 58 => 119 | 33 => 72 | n => n, fun | n => n⟩
theorem sortedA : Go.Proofs.SlLaysZI.n6 Try.prog sortedA_ren := {
  mixed := by kernel_rfl
  f6 := ⟨Try.f38.name, by decide, Try.func38.trans (congrArg some (by kernel_rfl))⟩
  f8 := ⟨Try.f50.name, by decide, Try.func50.trans (congrArg some (by kernel_rfl))⟩
  f11 := ⟨Try.f58.name, by decide, Try.func58.trans (congrArg some (by kernel_rfl))⟩
  t0 := Try.underlying0
  a0 := Try.isAgg0
  z0 := Try.sizeOf0
  v0 := Try.zeroValue0
  t24 := Try.underlying22
  a24 := Try.isAgg22
  z24 := Try.sizeOf22
  v24 := Try.zeroValue22
  t26 := Try.underlying3
  a26 := Try.isAgg3
  z26 := Try.sizeOf3
  v26 := Try.zeroValue3
  t28 := Try.underlying81
  a28 := Try.isAgg81
  z28 := Try.sizeOf81
  v28 := Try.zeroValue81
  i26 := by kernel_rfl }
def sortA_ren : Go.Shelf.Ren := ⟨fun | 5 => 51 | 8 => 60 | 7 => 59 | 19 => 70 | 20 => 71 | 10 => 61 | 11 => 62 | 12 => 63 | 13 => 64 | 14 => 65 | 15 => 66 | 16 => 67 | 17 => 68 | 18 => 69 | 30 => 72 | 31 => 73 | 32 => 74 | 33 => 75 | 34 => 76 | 35 => 77 | 40 => 78 | n => n, fun | 23 => 22 | 25 => 3 | 3 => 3 | 32 => 36 | 22 => 22 | 0 => 0 | 44 => 95 | 46 => 111 | 4 => 4 | 36 => 103 | 35 => 102 | 41 => 107 | 5 => 5 | 9 => 9 | 53 => 112 | 57 => 116 | 63 => 118 | 64 => 119 | n => n, fun | n => n⟩
theorem sortA : Go.Proofs.SlLaysM.n5 Try.prog sortA_ren := {
  mixed := by kernel_rfl
  f5 := ⟨Try.f51.name, by decide, Try.func51.trans (congrArg some (by kernel_rfl))⟩
  f7 := ⟨Try.f59.name, by decide, Try.func59.trans (congrArg some (by kernel_rfl))⟩
  f8 := Try.func60.trans (congrArg some (by kernel_rfl))
  f10 := ⟨Try.f61.name, by decide, Try.func61.trans (congrArg some (by kernel_rfl))⟩
  f11 := ⟨Try.f62.name, by decide, Try.func62.trans (congrArg some (by kernel_rfl))⟩
  f12 := ⟨Try.f63.name, by decide, Try.func63.trans (congrArg some (by kernel_rfl))⟩
  f13 := ⟨Try.f64.name, by decide, Try.func64.trans (congrArg some (by kernel_rfl))⟩
  f14 := ⟨Try.f65.name, by decide, Try.func65.trans (congrArg some (by kernel_rfl))⟩
  f15 := ⟨Try.f66.name, by decide, Try.func66.trans (congrArg some (by kernel_rfl))⟩
  f16 := ⟨Try.f67.name, by decide, Try.func67.trans (congrArg some (by kernel_rfl))⟩
  f17 := ⟨Try.f68.name, by decide, Try.func68.trans (congrArg some (by kernel_rfl))⟩
  f18 := ⟨Try.f69.name, by decide, Try.func69.trans (congrArg some (by kernel_rfl))⟩
  f19 := Try.func70.trans (congrArg some (by kernel_rfl))
  f20 := Try.func71.trans (congrArg some (by kernel_rfl))
  f30 := ⟨Try.f72.name, by decide, Try.func72.trans (congrArg some (by kernel_rfl))⟩
  f31 := Try.func73.trans (congrArg some (by kernel_rfl))
  f32 := Try.func74.trans (congrArg some (by kernel_rfl))
  f33 := ⟨Try.f75.name, by decide, Try.func75.trans (congrArg some (by kernel_rfl))⟩
  f34 := ⟨Try.f76.name, by decide, Try.func76.trans (congrArg some (by kernel_rfl))⟩
  f35 := ⟨Try.f77.name, by decide, Try.func77.trans (congrArg some (by kernel_rfl))⟩
  f40 := ⟨Try.f78.name, by decide, Try.func78.trans (congrArg some (by kernel_rfl))⟩
  t0 := Try.underlying0
  a0 := Try.isAgg0
  z0 := Try.sizeOf0
  v0 := Try.zeroValue0
  t3 := Try.underlying3
  a3 := Try.isAgg3
  z3 := Try.sizeOf3
  v3 := Try.zeroValue3
  t4 := Try.underlying4
  a4 := Try.isAgg4
  z4 := Try.sizeOf4
  v4 := Try.zeroValue4
  t5 := Try.underlying5
  a5 := Try.isAgg5
  z5 := Try.sizeOf5
  v5 := Try.zeroValue5
  t9 := Try.underlying9
  a9 := Try.isAgg9
  z9 := Try.sizeOf9
  v9 := Try.zeroValue9
  t22 := Try.underlying22
  a22 := Try.isAgg22
  z22 := Try.sizeOf22
  v22 := Try.zeroValue22
  t23 := Try.underlying22
  a23 := Try.isAgg22
  z23 := Try.sizeOf22
  v23 := Try.zeroValue22
  t25 := Try.underlying3
  a25 := Try.isAgg3
  z25 := Try.sizeOf3
  v25 := Try.zeroValue3
  t32 := Try.underlying36
  a32 := Try.isAgg36
  z32 := Try.sizeOf36
  v32 := Try.zeroValue36
  t35 := Try.underlying102
  a35 := Try.isAgg102
  z35 := Try.sizeOf102
  v35 := Try.zeroValue102
  t36 := Try.underlying103
  a36 := Try.isAgg103
  z36 := Try.sizeOf103
  v36 := Try.zeroValue103
  t41 := Try.underlying107
  a41 := Try.isAgg107
  z41 := Try.sizeOf107
  v41 := Try.zeroValue107
  t44 := Try.underlying95
  a44 := Try.isAgg95
  z44 := Try.sizeOf95
  v44 := Try.zeroValue95
  t46 := Try.underlying111
  a46 := Try.isAgg111
  z46 := Try.sizeOf111
  v46 := Try.zeroValue111
  t53 := Try.underlying112
  a53 := Try.isAgg112
  z53 := Try.sizeOf112
  v53 := Try.zeroValue112
  t57 := Try.underlying116
  a57 := Try.isAgg116
  z57 := Try.sizeOf116
  v57 := Try.zeroValue116
  t63 := Try.underlying118
  a63 := Try.isAgg118
  z63 := Try.sizeOf118
  v63 := Try.zeroValue118
  t64 := Try.underlying119
  a64 := Try.isAgg119
  z64 := Try.sizeOf119
  v64 := Try.zeroValue119 }
theorem sortsA (m : Nat) : AnyZI.SortsIn Try.prog sortedA_ren Fence.wide m :=
  ⟨fun blk off cap ss W hH hblk hsz => callsIn_wide.2 (AnyM.slices_Sort_int sortA blk off cap ss W hH hblk hsz),
   fun p cap W => callsIn_wide.2 (AnyM.slices_Sort_int_none sortA p cap W)⟩
end Go.Proofs.Ytaigdbnfhehclaa

namespace Go.Proofs.Ytaigdbnfhehclaa
open Sx
open Go.RowKit (Below)
open Go.WideElems (Fit rd rg rg_of)
set_option maxRecDepth 100000

def leI' : Int → Int → Bool := fun x y => decide (x ≤ y)
def keyL (lo : List (Int × List Int)) : List Int := (lo.map (·.1)).mergeSort leI'
/-- maps.Keys. -/
def kysR (G : List Ob) (l : List Value) (e : Env) : Prop := ∃ m, l = [tok m] ∧ (∃ L, G[m]? = some (.map L)) ∧ e.v 0 = tok G.length ∧ e.g gv = encG (G ++ [.fn 52 [tok m]])
def kysC : Con := mkCon 39 [] (.hnd 0) 2
def fnV (id b : Nat) : OneV := ⟨.func (.func id) #[] #[.pointer (some ⟨b, 0, none⟩)], rfl⟩
theorem kys_calls (mb : Option Nat) (w : World) : Calls Try.prog 39 #[.map mb] w fun e w' => e = .returned (.func (.func 52) #[] #[.pointer (some ⟨w.heap.size, 0, none⟩)]) ∧ w' = w.alloc (.cells #[.map mb] 55) :=
  (callsIn_wide (n := 5)).1 (AnyZI.keys_in keysA Fence.wide 5 trivial rfl mb w)
theorem kys_holds : kysC.holds Try.prog (conR kysR) := by
  refine turn_calls rfl ?_
  rintro w h F G f l e hinv H ⟨m, rfl, ⟨L, hm⟩, he, hG⟩
  obtain ⟨r, es, cl, e1, q1, q2, q3, q4⟩ := H.ob m _ hm
  have hlm := (List.getElem?_eq_some_iff.1 hm).1
  have ha : ([tok m].map (concE h)).toArray = #[.map (some r)] := by
    show #[concE h (tok m)] = _
    rw [concE_name, e1]
  rw [ha]
  refine (kys_calls (some r) w).mono ?_
  rintro en w' ⟨rfl, rfl⟩
  have hc : (w.alloc (.cells #[.map (some r)] 55)).cell? ⟨w.heap.size, 0, none⟩ = some (.map (some r)) := by
    rw [World.cell?_alloc_new]
    rfl
  have hh : HoldsOb (w.alloc (.cells #[.map (some r)] 55)) (hPush h G.length (fnV 52 w.heap.size)) (G.length + 1) (fnV 52 w.heap.size).val (fun i x => i = w.heap.size ∧ x < 1) (.fn 52 [tok m]) := by
    refine ⟨w.heap.size, rfl, by show 0 < 1; omega, fun j c hj => ?_, fun i x => Iff.rfl⟩
    match j, hj with
    | 0, hj =>
      cases hj
      refine ⟨⟨?_, rfl, Inv.name (by omega)⟩, World.frozen?_alloc_new w _ _ _⟩
      rw [hc, concE_name, hPush_old hlm, e1]
    | j + 1, hj => cases hj
  obtain ⟨F', f'', g1, g2, g3, g4, g5⟩ := turn_new H _ _ (fun b x hx => hx.1) hh
  refine ⟨_, F', f'', _, tok G.length, ?_, by simp only [E.nam, he]; exact oneOf_eq rfl, Inv.name (by simp), hG, g1, g2, g3, g4, g5⟩
  rw [concE_name, hPush_new]
  rfl
/-- Numbers below a bound, none twice: so many at most. -/
theorem nodup_le : ∀ (n : Nat) (l : List Int), l.Nodup → (∀ x ∈ l, 0 ≤ x ∧ x < n) → l.length ≤ n
  | 0, l, _, hb => by
    cases l with
    | nil => exact Nat.le_refl _
    | cons x r => have := hb x (List.mem_cons_self ..); omega
  | n + 1, l, hn, hb => by
    have h1 := nodup_le n (l.erase (n : Int)) (hn.erase _) fun x hx => by
      have h2 := hb x (List.mem_of_mem_erase hx)
      have h3 : x ≠ n := fun e => by
        subst e
        exact hn.not_mem_erase hx
      omega
    have h2 : l.length ≤ (l.erase (n : Int)).length + 1 := by
      rw [List.length_erase]
      split <;> omega
    omega
/-- slices.Sorted. -/
def sorV (G : List Ob) : List (Int × List Int) → Value
  | [] => .slice none 0 0
  | _ :: _ => tok G.length
def sorG (G : List Ob) : List (Int × List Int) → List Ob
  | [] => G
  | p :: r => G ++ [.ro 1 (r.length + 1) ((keyL (p :: r)).map fun k => .int .i64 k)]
def sorR (G : List Ob) (l : List Value) (e : Env) : Prop := ∃ c m lo, l = [tok c] ∧ G[c]? = some (.fn 52 [tok m]) ∧ G[m]? = some (.map (encA loC lo)) ∧ (∀ p ∈ lo, 0 ≤ p.1 ∧ p.1 < 512) ∧ e.v 0 = sorV G lo ∧ e.g gv = encG (sorG G lo)
def sorC : Con := mkCon 38 [] (.hnd 0) 2
theorem sor_calls {w : World} {b r : Nat} {es : Array MapEntry} {cl : Nat} (hb : w.cell? ⟨b, 0, none⟩ = some (.map (some r))) (hr : w.heap[r]? = some (.map es cl)) (hst : MapKept.Stamped es cl) (hk : ∀ e ∈ es.toList, ∃ k : Int, e.key = .int .i64 k ∧ 0 ≤ k ∧ k < 512) (hsz : es.size ≤ 512) :
    Calls Try.prog 38 #[.func (.func 52) #[] #[.pointer (some ⟨b, 0, none⟩)]] w fun e w' => ∃ (v : Value) (ss : List Int), e = .returned v ∧ ss.Perm (es.toList.map fun e => intOf e.key) ∧
      w'.ownsRow w.heap.size 3 1 v ss.length ((ss.mergeSort leI').map encZ) ∧ (v = .slice none 0 0 ↔ ss = []) ∧ Below w.heap.size w w' := by
  have hrd : ∀ e ∈ es.toList, ∃ k : Int, e.key = .int .i64 k ∧ rd Try.prog 3 (fun _ => some ((DataW.nil : DataW Unit), [])) e = some (Lit.int .i64 k, DataW.nil) := fun e he => by
    obtain ⟨k, h1, h2, h3⟩ := hk e he
    refine ⟨k, h1, ?_⟩
    have hwf : (Lit.int .i64 k).wf = true := by
      show (decide ((-9223372036854775808 : Int) ≤ k) && decide (k ≤ (9223372036854775807 : Int))) = true
      rw [decide_eq_true (by omega), decide_eq_true (by omega)]
      rfl
    unfold rd keyOf
    rw [h1, Try.underlying3]
    simp [mapKey, hwf]
  have hfit : Fit Try.prog 3 (fun _ => some ((DataW.nil : DataW Unit), [])) es cl := ⟨Nat.le_trans hsz (by decide), hst, fun e he => by obtain ⟨k, _, h⟩ := hrd e he; exact ⟨_, h⟩⟩
  have hown : w.ownsMap Try.prog 3 (fun _ => some ((DataW.nil : DataW Unit), [])) r es.size (DataW.map ((es.toList.map (rg Try.prog 3 (fun _ => some ((DataW.nil : DataW Unit), [])))).foldr DataW.insert [])) := ⟨es, cl, hr, hfit, Nat.le_refl _, rfl⟩
  have hsize : Maps.size (DataW.map ((es.toList.map (rg Try.prog 3 (fun _ => some ((DataW.nil : DataW Unit), [])))).foldr DataW.insert [])) = es.size := by simp [Maps.size, Go.length_sorted]
  have hseq : SeqGives Fence.wide 2 Try.prog 52 #[.pointer (some ⟨b, 0, none⟩)] encZ _ _ w :=
    AnyZI.keys_gives (ρ := keysA_ren) { keysA with } Fence.wide _ trivial rfl (by omega) b r es.size _ w (cell_some_lt hb) hb hown
  have cS := AnyZI.sorted_in sortedA Fence.wide 5 trivial trivial trivial trivial rfl (by omega) (sortsA _) (enters_of Try.func51 (by kernel_rfl) rfl) 52 #[.pointer (some ⟨b, 0, none⟩)] trivial (enters_of Try.func52 (by kernel_rfl) rfl) _ _ (by rw [hsize]; exact Nat.le_trans hsz (by decide)) (by rw [hsize]; omega) w hseq
  refine ((callsIn_wide (n := 5)).1 cS).mono ?_
  rintro e w' ⟨v, ss, rfl, hS, hrow, hnil, hbe⟩
  refine ⟨v, ss, rfl, hS.trans ?_, hrow, hnil, hbe⟩
  show (List.map _ _).Perm _
  refine ((WideShapes.sorted_perm _).map _).trans ?_
  rw [List.map_map]
  refine List.Perm.of_eq (List.map_congr_left fun e he => ?_)
  obtain ⟨k, h1, h2⟩ := hrd e he
  show Go.intOf (rg _ _ _ e).1 = _
  rw [rg_of h2, h1]
  rfl
theorem sor_holds : sorC.holds Try.prog (conR sorR) := by
  refine turn_calls rfl ?_
  rintro w h F G f l e hinv H ⟨c, m, lo, rfl, hc, hm, hb, he, hG⟩
  obtain ⟨r, es, cl, e1, q1, q2, q3, q4⟩ := H.ob m _ hm
  obtain ⟨b, e2, _, p2, p3⟩ := H.ob c _ hc
  have hlm := (List.getElem?_eq_some_iff.1 hm).1
  have ha : ([tok c].map (concE h)).toArray = #[.func (.func 52) #[] #[.pointer (some ⟨b, 0, none⟩)]] := by
    show #[concE h (tok c)] = _
    rw [concE_name, e2]
  rw [ha]
  have hcell := (p2 0 _ rfl).1.cell
  rw [concE_name, e1] at hcell
  have hlo : (encA loC lo).map (fun p => (p.1, concE h p.2)) = encA loC lo := by
    refine (List.map_congr_left fun p hp => ?_).trans (List.map_id _)
    obtain ⟨q, _, rfl⟩ := List.mem_map.1 hp
    show (_, concE h (loC q.2)) = (_, loC q.2)
    rw [concE_loC]
  rw [hlo] at q2
  have hnl : (lo.map (·.1)).Nodup := keys_of_enc (c := loC) q2.1.2
  have hkeys : (es.toList.map fun e => intOf e.key).Perm (lo.map (·.1)) := by
    have := q2.1.1.map (fun p : Value × Value => intOf p.1)
    rw [List.map_map] at this
    refine this.trans (List.Perm.of_eq ?_)
    unfold encA
    rw [List.map_map]
    rfl
  have hlen : lo.length ≤ 512 := by
    have := nodup_le 512 _ hnl fun x hx => by
      obtain ⟨p, hp, rfl⟩ := List.mem_map.1 hx
      exact hb p hp
    rwa [List.length_map] at this
  have hsz : es.size = lo.length := by
    have := hkeys.length_eq
    rwa [List.length_map, List.length_map, Array.length_toList] at this
  refine (sor_calls hcell q1 q2.2 (fun x hx => ?_) (by omega)).mono ?_
  · have h1 := q2.1.1.mem_iff.1 (List.mem_map.2 ⟨x, hx, rfl⟩)
    obtain ⟨p, hp, hpe⟩ := List.mem_map.1 h1
    have hk : x.key = .int .i64 p.1 := (congrArg Prod.fst hpe).symm
    exact ⟨p.1, hk, hb p hp⟩
  rintro en w' ⟨v, ss, rfl, hS, hrow, hnil, hbe⟩
  have hss : ss.Perm (lo.map (·.1)) := hS.trans hkeys
  have hms : ss.mergeSort leI' = keyL lo := mergeSort_of_perm_i hss
  have hl : ss.length = lo.length := by rw [hss.length_eq, List.length_map]
  rw [hms, hl] at hrow
  have hfr : ∀ S, Fr S w w' := fun S => Fr.of_below hbe
  cases lo with
  | nil =>
    have : ss = [] := List.eq_nil_of_length_eq_zero hl
    rw [hnil.2 this]
    refine ⟨h, F, f, G, .slice none 0 0, rfl, ?_, Inv.of_const fun _ => rfl, hG, hfr F, H.keep (hfr fun _ _ => False) (fun _ _ _ h => h), fun _ _ => .inl, Nat.le_refl _, fun _ _ => rfl⟩
    simp only [E.nam, he]
    exact oneOf_eq rfl
  | cons p lr =>
    rcases hrow.2 with ⟨_, hz⟩ | ⟨g, cap, cur, rfl, hbase, hgb, r1, r2, r3, r4⟩
    · cases hz
    have hkl : (keyL (p :: lr)).length = lr.length + 1 := by
      unfold keyL
      rw [List.length_mergeSort, List.length_map]
      rfl
    have hO := H.keep (hfr fun _ _ => False) (fun _ _ _ h => h)
    have hpush := hO.push ⟨.slice (some ⟨g, 0, none⟩) (lr.length + 1) cap, rfl⟩ (f' := fun i x => i = g ∧ x < lr.length + 1) (o' := .ro 1 (lr.length + 1) ((keyL (p :: lr)).map fun k => .int .i64 k)) (fun b x hx k hk hf => ?_) ?_
    · refine ⟨_, _, _, sorG G (p :: lr), tok G.length, ?_, ?_, Inv.name (by simp [sorG]), hG, hfr F, hpush, fun i x hx => hx.imp id fun hx => ?_, by simp [sorG], fun n hn => if_neg (by omega)⟩
      · rw [concE_name, if_pos rfl]
        rfl
      · simp only [E.nam, he]
        exact oneOf_eq rfl
      · rw [hx.1]; exact hbase
    · have := H.below hk hf
      rw [hx.1] at this
      omega
    · refine ⟨g, 0, none, cap, rfl, r1, by rw [List.length_map, hkl, Nat.mul_one], fun _ => rfl, fun j x hj => ?_, fun i x => ?_⟩
      · rw [List.getElem?_map] at hj
        cases hy : (keyL (p :: lr))[j]? with
        | none => rw [hy] at hj; cases hj
        | some y =>
          rw [hy] at hj
          cases hj
          refine ⟨?_, rfl, Inv.of_const fun _ => rfl⟩
          have h1 : (cur.toList.take ((lr.length + 1) * 1))[j]? = some (.int .i64 y) := by
            show (cur.toList.take ((p :: lr).length * 1))[j]? = _
            rw [r4, List.getElem?_map, hy]
            rfl
          rw [List.getElem?_take] at h1
          split at h1
          · unfold World.cell?
            simp only [hgb, Nat.zero_add]
            exact (by simpa using h1 : cur[j]? = some (.int .i64 y))
          · cases h1
      · rw [List.length_map, hkl]
        exact ⟨fun ⟨h1, h2⟩ => ⟨h1, Nat.zero_le _, by omega⟩, fun ⟨h1, _, h2⟩ => ⟨h1, by omega⟩⟩
end Go.Proofs.Ytaigdbnfhehclaa
