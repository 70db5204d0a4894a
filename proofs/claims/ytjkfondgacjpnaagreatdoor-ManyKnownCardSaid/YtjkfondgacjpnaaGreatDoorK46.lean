/- What is proved: parts of the walk and of the plain law, 7 texts in one. No condition but those each law names. -/
import Derived.Test.YtjkfondgacjpnaaGreatDoorK45
namespace Go.Proofs.YtjkfondgacjpnaaGreatDoor
open Go.RowKit
open Sx (Ab DW Turns Did Foot MapIs)
set_option maxRecDepth 100000
attribute [local go_sem ↓] rowOf_cell
attribute [local go_sem] rowOf_alloc soft_alloc rowOf_drew soft_drew rowOf_setRow soft_setRow rowOf_setCell soft_setCell frozen_of_soft rowOf_map soft_map Sx.run_mk Ext.row Ext.soft_
set_option maxHeartbeats 1000000 in
theorem Deliver_gen {w : World} {S : MS} (h : MW w S) (hnb : S.nb = S.X.nb) {k : Nat} {x : Lt} (hk : S.X.L[k]? = some x) (hx : x.l.length < 1000000) (hlen : S.X.L.length ≤ 1000000) {f t : Nat} (hf : x.f = f ∧ 1 ≤ f ∧ (f : Int) ≤ S.X.nodes) (ht : x.t = t ∧ 1 ≤ t ∧ (t : Int) ≤ S.X.nodes) (hft : f ≠ t) {n : Nd} {D : Dm} (is : Live S t n D) {free : Int} {R : MS → Prop}
    (hH : ∀ W X1 a c, Goes w S W { S with X := X1 } → X1.says = S.X.says.eraseIdx k → X1.nodes = S.X.nodes → X1.nb = S.X.nb → Sl W a x.l.length c (bts x.l) → Calls Tryz.prog 29 #[.pointer (some ⟨S.wb, 0, none⟩), .pointer (some ⟨n.b, 0, none⟩), .agg (ltV f t a x.l.length c), .int .i64 free] W fun e w' => e = .returned (.tuple #[]) ∧ ∃ S', Goes w S w' S' ∧ R S') :
    Calls Tryz.prog 12 #[.pointer (some ⟨S.wb, 0, none⟩), .int .i64 k, .int .i64 free] w fun e w' => e = .returned (.bool true) ∧ ∃ S', Goes w S w' S' ∧ R S' := by
  have rw0 := rowOf_of h.wrAt
  rw [hnb] at rw0
  have DL := Lib.hid (Deliver_ok h.netAt hk hx hlen (eq_true (by have := hf; omega)) (eq_true (by have := hf; omega)) (eq_true (by have := ht; omega)) (eq_true (by have := ht; omega)) (by have := hf.1; have := ht.1; simp; omega))
  have H := Lib.hid h
  have IS := Lib.hid is
  have HH := Lib.hid hH
  have HF := Lib.hid (And.intro hf.1 ht.1)
  clear h hk hx hlen hf ht is hH
  go_enter Tryz.func12, Tryz.ntmps12
  go_upto_region 2 with (go_at_call 28; refine DL.out.mono ?_; rintro _ W ⟨a, c, X1, rfl, t1, s1, hs, lo⟩)
  rw [HF.out.1, HF.out.2]
  have bx := Bx.new W #[.int .i64 f, .int .i64 t, .slice a x.l.length c] 76
  generalize W.alloc (.cells #[.int .i64 f, .int .i64 t, .slice a x.l.length c] 76) = V at bx ⊢
  have g1 := H.out.net t1
  have G := g1.trans (g1.mw.below bx.below)
  have GG := Lib.hid G
  have r0 := rowOf_of G.mw.wrAt
  have rx := bx.rowOf
  dsimp only at r0
  have lk := (G.mw.below (Below.refl _ V).drew).mw.look t
  have is1 : Live ({ S with X := X1 } : MS) t n D := ⟨IS.out.nd, IS.out.ds, IS.out.at_, IS.out.xv⟩
  rw [MS.at_some is1.at_] at lk
  dsimp only at lk
  unfold ptA at lk
  have LK := Lib.hid lk
  have OF := Lib.hid (is1.off (G.mw.below (Below.refl _ V).drew).mw)
  have HE := Lib.hid (HH.out V.drew X1 a c (G.trans (G.mw.below (Below.refl _ V).drew)) s1 t1.nodes t1.nb (hs.keep (Nat.le_refl _) bx.below.drew))
  clear G g1 is1 t1 s1 hs lo bx
  (refine wp_region_still_tail 7 (by kernel_rfl) (by kernel_rfl) ?_; simp only [List.take_succ_cons, List.take_zero, List.drop_succ_cons, List.drop_zero]; (iterate 7 still_step); refine wpStill_nil ?_)
  go_wp2_with (first
    | (go_at_call 25; refine OF.out.mono ?_; rintro _ V2 ⟨rfl, rfl⟩)
    | (go_at_call 29; refine HE.out.mono ?_; rintro _ U ⟨rfl, S', g, r⟩; have GR := Lib.hid (And.intro g r); clear g r))
  go_ret
  exact ⟨rfl, S', GR.out⟩
end Go.Proofs.YtjkfondgacjpnaaGreatDoor

namespace Go.Proofs.YtjkfondgacjpnaaGreatDoor
open Go.RowKit
open Sx (Ab DW Turns Did Foot MapIs)
set_option maxRecDepth 100000
attribute [local go_sem ↓] rowOf_cell
attribute [local go_sem] rowOf_alloc soft_alloc rowOf_drew soft_drew rowOf_setRow soft_setRow rowOf_setCell soft_setCell frozen_of_soft rowOf_map soft_map Sx.run_mk Ext.row Ext.soft_
def swL (M : List (Int × En)) (ks : List Int) : List Value := ks.flatMap fun k => (swO (getA M k)).list
theorem elemW : ElemG Tryz.prog 42 85 75 := ElemG.mk' Tryz.underlying42 (by kernel_rfl) (z := .agg Sw.zero.cells) (bytes := 152) (by show Sw.zero.cells.size = 75; exact s_size _) (by decide) (by decide)
theorem s_ones (s : Sw) : ∀ u ∈ s.list, u.oneCell' = true := fun u hu => by
  have := s_one s
  unfold ones Sw.cells at this
  rw [List.all_toArray, List.all_eq_true] at this
  exact this u hu
theorem swL_snoc (M : List (Int × En)) {ks : List Int} {k : Nat} (h : k < ks.length) : swL M (ks.take (k + 1)) = swL M (ks.take k) ++ (swO (getA M ks[k])).list := by
  unfold swL
  rw [List.take_succ_eq_append_getElem h, List.flatMap_append]
  simp
theorem ks_own {w : World} {B n cap : Nat} {ao : Option Addr} {l : List Int} (hn : 0 < n) (h : w.ownsRow B 3 1 (.slice ao n cap) n (l.map encZ)) (hl : l.length = n) : ∃ g cur, ao = some ⟨g, 0, none⟩ ∧ w.heap[g]? = some (.cells cur 3) ∧ n ≤ cur.size ∧ ∀ (j : Nat) (hj : j < l.length), cur[j]? = some (.int .i64 l[j]) := by
  rcases h.2 with ⟨hv, h0, _⟩ | ⟨g, cp, cur, hv, _, hh, hc, _, hs, ht⟩
  · cases hv; omega
  · cases hv
    refine ⟨g, cur, rfl, hh, by omega, fun j hj => ?_⟩
    have e : (cur.toList.take (n * 1))[j]? = some (.int .i64 l[j]) := by
      rw [ht, List.getElem?_map, List.getElem?_eq_getElem hj]
      rfl
    rw [List.getElem?_take_of_lt (by omega)] at e
    simpa using e
theorem bsW (w : World) (s : Sw) : (Instr.buildSlice 42 1 #[(0, .agg s.cells)]).run Tryz.prog w = .ok (.slice (some ⟨w.heap.size, 0, none⟩) 1 1) (w.alloc (.cells s.cells 85)) := by
  obtain ⟨⟨di, dr, p, g, h, q⟩, st, kn, sc⟩ := s
  obtain ⟨f, rfl⟩ := h.form
  obtain ⟨f2, rfl⟩ := sc.form
  kernel_rfl
theorem ebsW (w : World) (ρ : Operand → Value) (dst : Option Tmp) (ty : TypeId) (pos : String) (af : Array Edge) (gd : Option (Nat × Bool)) (x : Operand) (hx : ρ x = .agg (sOf (ρ x)).cells) : (execOp ρ ⟨dst, .buildSlice 42 1 #[(0, x)], ty, pos, af, gd⟩).run Tryz.prog w = .ok (.value (.slice (some ⟨w.heap.size, 0, none⟩) 1 1)) (w.alloc (.cells (sOf (ρ x)).cells 85)) := by
  have h := bsW w (sOf (ρ x))
  rw [← hx] at h
  unfold execOp
  simp only [Sem.run_bind, Sem.run_pure, List.map_toArray, List.map_cons, List.map_nil, h, Result.andThen_ok]
attribute [local go_sem ↓] ebsW
attribute [local go_sem] sOf_mk
set_option maxHeartbeats 1000000 in
theorem Swaps_any {w : World} {S : MS} (h : MW w S) {a : Nat} {n : Nd} {D : Dm} (is : Live S a n D) (hl : D.M.length ≤ 16) (hi : ∀ p ∈ D.M, I64 p.1) : Calls Tryz.prog 15 #[.pointer (some ⟨S.wb, 0, none⟩), .int .i64 a] w fun e w' => ∃ ao cap ks, e = .returned (.slice ao ks.length cap) ∧ ks.Perm (D.M.map (·.1)) ∧ w'.ownsRow w.heap.size 85 75 (.slice ao ks.length cap) ks.length (swL D.M ks) ∧ Below w.heap.size w w' := by
  have rw0 := rowOf_of h.wrAt
  have lk := h.look a
  rw [MS.at_some is.at_] at lk
  unfold ptA at lk
  have rn := is.row h
  have BK := Lib.hid (Book_any (is.dae h))
  have ID := Lib.hid (Ids_any (is.dae h).bok hl hi)
  have H := Lib.hid h
  have IS := Lib.hid is
  have HL := Lib.hid hl
  clear h is hl hi
  go_enter Tryz.func15, Tryz.ntmps15
  go_upto_region 5 with (first
    | (go_at_call 32; refine BK.out.mono ?_; rintro _ w1 ⟨rfl, rfl⟩)
    | (go_at_call 33; refine ID.out.mono ?_; rintro _ V ⟨v, ss, rfl, hp, ho, hn, hb⟩; obtain ⟨va, vc, rfl⟩ := own_form ho; clear lk rw0 rn BK ID))
  have lm : (ss.mergeSort leI').length = ss.length := List.length_mergeSort ss
  have pm : (ss.mergeSort leI').Perm (D.M.map (·.1)) := (List.mergeSort_perm ss leI').trans hp
  rw [← lm] at ho hn ⊢
  generalize ss.mergeSort leI' = ks at *
  have lk16 : ks.length ≤ 16 := by rw [pm.length_eq, List.length_map]; exact HL.out
  have HO := Lib.hid ho
  have HP := Lib.hid pm
  have HB := Lib.hid hb
  clear hp hn ho pm hb lm
  go_loopw [4, 32] (fun l i wr => ∃ (k : Nat) (ao : Option Addr) (cap : Nat), k ≤ ks.length ∧ i = .int .i64 k ∧ l = .slice ao k cap ∧ wr.ownsRow V.heap.size 85 75 (.slice ao k cap) k (swL D.M (ks.take k)) ∧ Below V.heap.size V wr) (fun _ i _ => ks.length - (intOf i).toNat)
  case atStart => exact ⟨0, none, 0, Nat.zero_le _, rfl, rfl, World.ownsRow_nil _ _ _ _, Below.refl _ V⟩
  case round =>
    obtain ⟨k, ao, cap, hk, rfl, rfl, hown, hbv⟩ := hrel
    have HW := Lib.hid hown
    have HV := Lib.hid hbv
    by_cases hlt : k < ks.length
    · have i1 : (k : Int) < ks.length := by omega
      obtain ⟨g, cur, rfl, hg, hcz, hc⟩ := ks_own (by omega) HO.out rfl
      have hg2 := (hbv.block g (Array.getElem?_eq_some_iff.1 hg).1).trans hg
      have rg := rowOf_of hg2
      have ck := hc k hlt
      obtain ⟨kk, hkk⟩ : ∃ kk, kk = ks[k] := ⟨_, rfl⟩
      rw [← hkk] at ck
      have HK := Lib.hid hkk
      clear hkk
      have G := H.out.below (HB.out.trans (hbv.mono HB.out.size))
      have rn := IS.out.row G.mw
      have BK := Lib.hid (Book_any (IS.out.dae G.mw))
      have SW := Lib.hid (Swap_any (IS.out.dae G.mw).bok kk)
      have z1 : k < cur.size := by omega
      have ck2 : cur[k]'z1 = .int .i64 kk := Option.some.inj ((Array.getElem?_eq_getElem z1).symm.trans ck)
      clear hown hbv hg hc hg2 G
      go_upto_region 8 with (first
        | (go_at_call 32; refine BK.out.mono ?_; rintro _ w2 ⟨rfl, rfl⟩)
        | (go_at_call 34; refine SW.out.mono ?_; rintro _ U ⟨rfl, hb⟩; have hb2 := HV.out.trans (hb.mono HV.out.size); have ho2 : U.ownsRow V.heap.size 85 75 (.slice ao k cap) k (swL D.M (ks.take k)) := own_ext HW.out (Ext.of hb); have HB2 := Lib.hid hb2; have HO2 := Lib.hid ho2; clear hb hb2 ho2 BK SW rn rg))
      have B3 := Bx.made U Sw.zero.cells (swO (getA D.M kk)).cells 85
      generalize (U.alloc (.cells Sw.zero.cells 85)).setRow U.heap.size (swO (getA D.M kk)).cells = U2 at B3 ⊢
      have r3 := B3.rowOf
      have hb3 := HB2.out.trans (B3.below.mono HB2.out.size)
      have ho3 : U2.ownsRow V.heap.size 85 75 (.slice ao k cap) k (swL D.M (ks.take k)) := own_ext HO2.out (Ext.of B3.below)
      have HB3 := Lib.hid hb3
      have HO3 := Lib.hid ho3
      clear hb3 ho3 B3 ck ck2
      go_wp2_with (at_builtin; refine wp_app_big elemW rfl _ _ rfl (B := V.heap.size) (v := .slice ao k cap) (n := k) (xs := swL D.M (ks.take k)) (news := (swO (getA D.M kk)).list) rfl (HO3.out.alloc _) rfl (by rw [s_len]) (fun j u hj => World.news_of_block (heap_alloc_new U2 (.cells (swO (getA D.M kk)).cells 85)) j u (by simpa [Sw.cells] using hj)) (s_ones _) (by decide) (by omega) (by have := HB3.out.size; simp; omega) ?_; intro g2 cap2 w3 hown2 hgr hat hlt2)
      have hb2 : Below V.heap.size V w3 := (HB3.out.trans (((Below.refl _ U2).alloc (Nat.le_refl _) (.cells (swO (getA D.M kk)).cells 85)).mono HB3.out.size)).grown hgr (by have := HB3.out.size; simp; omega) (own_block (HO3.out.alloc (.cells (swO (getA D.M kk)).cells 85)))
      have hs := swL_snoc D.M hlt
      rw [← HK.out] at hs
      rw [← hs] at hown2
      clear hgr hat hlt2 hs
      have wk : IntKind.i64.wrap ((k : Int) + 1) = (k : Int) + 1 := wrap_small (by omega) (by omega)
      go_wp2
      go_roundw
      case rel => exact ⟨k + 1, _, _, by omega, rfl, rfl, hown2, hb2⟩
      case measure => simp [intOf]; omega
    · have e : k = ks.length := by omega
      subst e
      have HW2 := HW.out
      rw [List.take_length] at HW2
      have HW3 := Lib.hid HW2
      clear HW2
      go_wp2
      go_ret
      exact ⟨ao, cap, ks, rfl, HP.out, own_base HW3.out HB.out.size, HB.out.trans (HV.out.mono HB.out.size)⟩
end Go.Proofs.YtjkfondgacjpnaaGreatDoor

namespace Go.Proofs.YtjkfondgacjpnaaGreatDoor
open Go.RowKit
open Sx (Ab DW Turns Did Foot MapIs)
set_option maxRecDepth 100000
attribute [local go_sem ↓] rowOf_cell
attribute [local go_sem] rowOf_alloc soft_alloc rowOf_drew soft_drew rowOf_setRow soft_setRow rowOf_setCell soft_setCell frozen_of_soft rowOf_map soft_map Sx.run_mk Ext.row Ext.soft_
theorem swL_at (M : List (Int × En)) : ∀ (ks : List Int) (j : Nat) (hj : j < ks.length) (o : Nat), o < 75 → (swL M ks)[j * 75 + o]? = (swO (getA M ks[j])).list[o]?
  | [], j, hj, _, _ => absurd hj (Nat.not_lt_zero _)
  | k :: ks, 0, _, o, ho => by
    show ((swO (getA M k)).list ++ swL M ks)[0 * 75 + o]? = _
    rw [List.getElem?_append_left (by rw [s_len]; omega), Nat.zero_mul, Nat.zero_add]
    rfl
  | k :: ks, j + 1, hj, o, ho => by
    show ((swO (getA M k)).list ++ swL M ks)[(j + 1) * 75 + o]? = _
    rw [List.getElem?_append_right (by rw [s_len]; omega), s_len, show (j + 1) * 75 + o - 75 = j * 75 + o by omega, swL_at M ks j (by simpa using hj) o ho]
    rfl
theorem sw_own {w : World} {B n cap : Nat} {ao : Option Addr} {M : List (Int × En)} {ks : List Int} (hn : 0 < n) (h : w.ownsRow B 85 75 (.slice ao n cap) n (swL M ks)) (hl : ks.length = n) : ∃ g cur, ao = some ⟨g, 0, none⟩ ∧ w.heap[g]? = some (.cells cur 85) ∧ n * 75 ≤ cur.size ∧ n ≤ cap ∧ ∀ (j : Nat) (hj : j < ks.length) (o : Nat), o < 75 → cur[j * 75 + o]? = (swO (getA M ks[j])).cells[o]? := by
  rcases h.2 with ⟨hv, h0, _⟩ | ⟨g, cp, cur, hv, _, hh, hc, _, hs, ht⟩
  · cases hv; omega
  · cases hv
    have hz : cur.size = cap * 75 := hs
    have hz2 : n * 75 ≤ cap * 75 := Nat.mul_le_mul_right 75 hc
    refine ⟨g, cur, rfl, hh, by omega, hc, fun j hj o ho => ?_⟩
    have e := swL_at M ks j hj o ho
    rw [← ht, List.getElem?_take_of_lt (by omega)] at e
    simpa [Sw.cells] using e
theorem s_40 (s : Sw) : s.cells[40]? = some (.int .i64 s.d.q) := by
  have h := d_40 s.d
  have e : s.cells[40]? = s.d.cells[40]? := by
    have z : 40 < s.d.list.length := by rw [s.d.len]; decide
    show s.list.toArray[40]? = s.d.list.toArray[40]?
    rw [List.getElem?_toArray, List.getElem?_toArray]
    exact List.getElem?_append_left z
  rw [e, h]
def hasD (M : List (Int × En)) (id role peer : Int) (k : Int) : Bool := (swO (getA M k)).d.i == id && ((swO (getA M k)).d.r == role && (swO (getA M k)).d.q == peer)
set_option maxHeartbeats 2000000 in
theorem agreed_any {w : World} {S : MS} (h : MW w S) {a : Nat} {n : Nd} {D : Dm} (is : Live S a n D) (hl : D.M.length ≤ 16) (hi : ∀ p ∈ D.M, I64 p.1) (id role peer : Int) : Calls Tryz.prog 14 #[.pointer (some ⟨S.wb, 0, none⟩), .int .i64 a, .int .i64 id, .int .i64 role, .int .i64 peer] w fun e w' => ∃ ks : List Int, ks.Perm (D.M.map (·.1)) ∧ e = .returned (.bool (ks.any (hasD D.M id role peer))) ∧ Below w.heap.size w w' := by
  have SW := Lib.hid (Swaps_any h is hl hi)
  have HL := Lib.hid hl
  clear h is hl hi
  go_enter Tryz.func14, Tryz.ntmps14
  go_upto_region 3 with (go_at_call 15; refine SW.out.mono ?_; rintro _ V ⟨ao, cap, ks, rfl, hp, ho, hb⟩)
  have lk16 : ks.length ≤ 16 := by rw [hp.length_eq, List.length_map]; exact HL.out
  have HO := Lib.hid ho
  have HP := Lib.hid hp
  have HB := Lib.hid hb
  clear hp ho hb SW
  go_loopw [12] (fun i wr => ∃ k : Nat, k ≤ ks.length ∧ i = .int .i64 k ∧ (ks.take k).any (hasD D.M id role peer) = false ∧ wr = V) (fun i _ => ks.length - (intOf i).toNat)
  case atStart => exact ⟨0, Nat.zero_le _, rfl, rfl, rfl⟩
  case round =>
    obtain ⟨k, hk, rfl, hno, rfl⟩ := hrel
    have HN := Lib.hid hno
    clear hno
    by_cases hlt : k < ks.length
    · have i1 : (k : Int) < ks.length := by omega
      obtain ⟨g, cur, rfl, hg, hcz, hcap, hc⟩ := sw_own (by omega) HO.out rfl
      have rg := rowOf_of hg
      have e0 := hc k hlt 0 (by decide)
      have e1 := hc k hlt 1 (by decide)
      have e40 := hc k hlt 40 (by decide)
      obtain ⟨kk, hkk⟩ : ∃ kk, kk = ks[k] := ⟨_, rfl⟩
      rw [← hkk] at e0 e1 e40
      have hnx : (ks.take (k + 1)).any (hasD D.M id role peer) = hasD D.M id role peer kk := by
        rw [List.take_succ_eq_append_getElem hlt, List.any_append, HN.out, Bool.false_or, ← hkk]
        simp
      unfold hasD at hnx
      have HK := Lib.hid hkk
      clear hkk hc hg
      generalize swO (getA D.M kk) = s at *
      have c0 : cur[k * 75 + 0]? = some (.int .i64 s.d.i) := e0.trans (s_0 s)
      have c1 : cur[k * 75 + 1]? = some (.int .i64 s.d.r) := e1.trans (s_1 s)
      have c40 : cur[k * 75 + 40]? = some (.int .i64 s.d.q) := e40.trans (s_40 s)
      rw [Nat.add_zero] at c0
      have z0 : k * 75 < cur.size := by omega
      have z1 : k * 75 + 1 < cur.size := by omega
      have z40 : k * 75 + 40 < cur.size := by omega
      have g0 : cur[k * 75]'z0 = .int .i64 s.d.i := Option.some.inj ((Array.getElem?_eq_getElem z0).symm.trans c0)
      have g1 : cur[k * 75 + 1]'z1 = .int .i64 s.d.r := Option.some.inj ((Array.getElem?_eq_getElem z1).symm.trans c1)
      have g40 : cur[k * 75 + 40]'z40 = .int .i64 s.d.q := Option.some.inj ((Array.getElem?_eq_getElem z40).symm.trans c40)
      clear e0 e1 e40
      have wk : IntKind.i64.wrap ((k : Int) + 1) = (k : Int) + 1 := wrap_small (by omega) (by omega)
      have no : (s.d.i == id && (s.d.r == role && s.d.q == peer)) = false → (ks.take (k + 1)).any (hasD D.M id role peer) = false := fun e => by rw [← e, ← hnx]; rfl
      have yes : (s.d.i == id && (s.d.r == role && s.d.q == peer)) = true → ks.any (hasD D.M id role peer) = true := fun e => by
        have e2 := hnx.trans e
        rw [← List.take_append_drop (k + 1) ks, List.any_append]
        have e3 : (ks.take (k + 1)).any (hasD D.M id role peer) = true := e2
        rw [e3, Bool.true_or]
      have NO := Lib.hid no
      have YES := Lib.hid yes
      clear no yes hnx
      cases h1 : (s.d.i == id) with
      | false =>
        have n1 := NO.out (by rw [h1]; rfl)
        go_wp2
        go_roundw
        case rel => exact ⟨k + 1, by omega, rfl, n1, trivial⟩
        case measure => simp [intOf]; omega
      | true =>
        cases h2 : (s.d.r == role) with
        | false =>
          have n1 := NO.out (by rw [h1, h2]; rfl)
          go_wp2
          go_roundw
          case rel => exact ⟨k + 1, by omega, rfl, n1, trivial⟩
          case measure => simp [intOf]; omega
        | true =>
          cases h3 : (s.d.q == peer) with
          | false =>
            have n1 := NO.out (by rw [h1, h2, h3]; rfl)
            go_wp2
            go_roundw
            case rel => exact ⟨k + 1, by omega, rfl, n1, trivial⟩
            case measure => simp [intOf]; omega
          | true =>
            have y1 := YES.out (by rw [h1, h2, h3]; rfl)
            go_wp2
            go_ret
            exact ⟨ks, HP.out, by rw [y1]; rfl, HB.out⟩
    · have e : k = ks.length := by omega
      subst e
      have HN2 := HN.out
      rw [List.take_length] at HN2
      have HN3 := Lib.hid HN2
      clear HN2
      go_wp2
      go_ret
      exact ⟨ks, HP.out, by rw [HN3.out]; rfl, HB.out⟩
end Go.Proofs.YtjkfondgacjpnaaGreatDoor

namespace Go.Proofs.YtjkfondgacjpnaaGreatDoor
open Go.RowKit
open Sx (Ab DW Turns Did Foot MapIs)
set_option maxRecDepth 100000
theorem says_at {X : Nt} {k : Nat} {f t : Int} {l : List Nat} (h : X.says[k]? = some (f, t, l)) : ∃ x, X.L[k]? = some x ∧ x.f = f ∧ x.t = t ∧ x.l = l := by
  unfold Nt.says at h
  rw [List.getElem?_map] at h
  cases e : X.L[k]? with
  | none => rw [e] at h; cases h
  | some x =>
    rw [e] at h
    have h := Option.some.inj h
    exact ⟨x, rfl, congrArg (·.1) h, congrArg (·.2.1) h, congrArg (·.2.2) h⟩
theorem says_len (X : Nt) : X.says.length = X.L.length := by simp [Nt.says]
structure Ctx (S0 : MS) (a b N : Nat) (n1 n2 : Nd) (E1 E2 : Dm) (tb : Nat) : Prop where
  hF : Forms S0.u
  hT : Tabs S0.u
  nb : S0.nb = S0.X.nb
  nn : S0.X.nodes = N
  now : S0.now = ⟨100, 200, 0⟩
  ab : a ≠ b
  ha : 1 ≤ a ∧ a ≤ N
  hb : 1 ≤ b ∧ b ≤ N
  nd1 : S0.nd a = some n1
  nd2 : S0.nd b = some n2
  at1 : getA S0.nodes a = some (ptA n1.b)
  at2 : getA S0.nodes b = some (ptA n2.b)
  xv1 : n1.xv = ptA E1.xb
  xv2 : n2.xv = ptA E2.xb
  tv : n1.tv = .map (some tb)
structure DI (E D : Dm) (P : List (Int × En) → Prop) (R : List (Int × List Nat)) : Prop where
  xb : D.xb = E.xb
  t : D.t = T26
  seed : D.seed = E.seed
  dv : D.dv = E.dv
  book : P D.M
  rows : D.R = R
  cal : D.cal = true
structure Duo (S0 S : MS) (W : World) (a b : Nat) (D1 D2 : Dm) (tb : Nat) (tl : List (Int × Value)) (L : List (Int × Int × List Nat)) : Prop where
  mw : MW W S
  e : S = { S0 with X := S.X, ds := S.ds, tm := S.tm }
  xnb : S.X.nb = S0.X.nb
  xn : S.X.nodes = S0.X.nodes
  d1 : S.ds a = .live D1
  d2 : S.ds b = .live D2
  dk : ∀ j, j ≠ a → j ≠ b → S.ds j = S0.ds j
  tk : ∀ j, j ≠ a → S.tm j = S0.tm j
  tm : S.tm a = some (tb, tl)
  says : S.X.says = L
section
variable {S0 S : MS} {W : World} {a b N : Nat} {n1 n2 : Nd} {E1 E2 D1 D2 : Dm} {tb : Nat} {tl : List (Int × Value)} {L : List (Int × Int × List Nat)} {P : List (Int × En) → Prop} {R : List (Int × List Nat)}
theorem Duo.eqs (d : Duo S0 S W a b D1 D2 tb tl L) : S.u = S0.u ∧ S.wb = S0.wb ∧ S.mb = S0.mb ∧ S.nb = S0.nb ∧ S.now = S0.now ∧ S.nodes = S0.nodes ∧ S.nd = S0.nd := by
  have e := d.e
  refine ⟨?_, ?_, ?_, ?_, ?_, ?_, ?_⟩ <;> (rw [e])
theorem Duo.live1 (c : Ctx S0 a b N n1 n2 E1 E2 tb) (d : Duo S0 S W a b D1 D2 tb tl L) (i : DI E1 D1 P R) : Live S a n1 D1 := by
  obtain ⟨_, _, _, _, _, e1, e2⟩ := d.eqs
  exact ⟨by rw [e2]; exact c.nd1, d.d1, by rw [e1]; exact c.at1, by rw [c.xv1, i.xb]⟩
theorem Duo.live2 (c : Ctx S0 a b N n1 n2 E1 E2 tb) (d : Duo S0 S W a b D1 D2 tb tl L) (i : DI E2 D2 P R) : Live S b n2 D2 := by
  obtain ⟨_, _, _, _, _, e1, e2⟩ := d.eqs
  exact ⟨by rw [e2]; exact c.nd2, d.d2, by rw [e1]; exact c.at2, by rw [c.xv2, i.xb]⟩
theorem DI.lies {D E : Dm} (i : DI E D P R) {w : World} (h : Dae w D) : Lies w D P R := ⟨h, i.book, i.rows, i.cal⟩
theorem Duo.go1 (c : Ctx S0 a b N n1 n2 E1 E2 tb) (d : Duo S0 S W a b D1 D2 tb tl L) {W' : World} {X' : Nt} {D' : Dm} {L' : List (Int × Int × List Nat)} (g : Goes W S W' { S with X := X', ds := upd S.ds a (.live D') }) (x1 : X'.nb = S.X.nb) (x2 : X'.nodes = S.X.nodes) (hs : X'.says = L') : Duo S0 { S with X := X', ds := upd S.ds a (.live D') } W' a b D' D2 tb tl L' := by
  refine ⟨g.mw, ?_, x1.trans d.xnb, x2.trans d.xn, upd_at _ _ _, (upd_ne _ _ (Ne.symm c.ab)).trans d.d2, fun j h1 h2 => (upd_ne _ _ h1).trans (d.dk j h1 h2), d.tk, d.tm, hs⟩
  have e := d.e
  rw [e]
theorem Duo.go2 (c : Ctx S0 a b N n1 n2 E1 E2 tb) (d : Duo S0 S W a b D1 D2 tb tl L) {W' : World} {X' : Nt} {D' : Dm} {L' : List (Int × Int × List Nat)} (g : Goes W S W' { S with X := X', ds := upd S.ds b (.live D') }) (x1 : X'.nb = S.X.nb) (x2 : X'.nodes = S.X.nodes) (hs : X'.says = L') : Duo S0 { S with X := X', ds := upd S.ds b (.live D') } W' a b D1 D' tb tl L' := by
  refine ⟨g.mw, ?_, x1.trans d.xnb, x2.trans d.xn, (upd_ne _ _ c.ab).trans d.d1, upd_at _ _ _, fun j h1 h2 => (upd_ne _ _ h2).trans (d.dk j h1 h2), d.tk, d.tm, hs⟩
  have e := d.e
  rw [e]
theorem Duo.goX (d : Duo S0 S W a b D1 D2 tb tl L) {W' : World} {X' : Nt} {L' : List (Int × Int × List Nat)} (g : Goes W S W' { S with X := X' }) (x1 : X'.nb = S.X.nb) (x2 : X'.nodes = S.X.nodes) (hs : X'.says = L') : Duo S0 { S with X := X' } W' a b D1 D2 tb tl L' := by
  refine ⟨g.mw, ?_, x1.trans d.xnb, x2.trans d.xn, d.d1, d.d2, d.dk, d.tk, d.tm, hs⟩
  have e := d.e
  rw [e]
theorem Duo.below (d : Duo S0 S W a b D1 D2 tb tl L) {W' : World} (h : Below W.heap.size W W') : Duo S0 S W' a b D1 D2 tb tl L := { d with mw := (d.mw.below h).mw }
end
end Go.Proofs.YtjkfondgacjpnaaGreatDoor

namespace Go.Proofs.YtjkfondgacjpnaaGreatDoor
open Go.RowKit
open Sx (Ab DW Turns Did Foot MapIs)
set_option maxRecDepth 100000
section
variable {S0 S : MS} {W : World} {a b N : Nat} {n1 n2 : Nd} {E1 E2 D1 D2 : Dm} {tb : Nat} {tl : List (Int × Value)} {L : List (Int × Int × List Nat)} {P : List (Int × En) → Prop} {R : List (Int × List Nat)}
def dealP (E : Dm) (b : Nat) (i : Int) (p g : Lg) : Dl := legsV T26 ⟨i, 1, p, g, sumH (secretH (E.seed ++ intI i)).l, b⟩ ⟨100, 200, 0⟩
theorem Duo.at2 (c : Ctx S0 a b N n1 n2 E1 E2 tb) (d : Duo S0 S W a b D1 D2 tb tl L) : S.at_ b = ptA n2.b := by
  obtain ⟨_, _, _, _, _, e1, _⟩ := d.eqs
  exact MS.at_some (by rw [e1]; exact c.at2)
theorem Duo.at1 (c : Ctx S0 a b N n1 n2 E1 E2 tb) (d : Duo S0 S W a b D1 D2 tb tl L) : S.at_ a = ptA n1.b := by
  obtain ⟨_, _, _, _, _, e1, _⟩ := d.eqs
  exact MS.at_some (by rw [e1]; exact c.at1)
theorem Duo.nbx (c : Ctx S0 a b N n1 n2 E1 E2 tb) (d : Duo S0 S W a b D1 D2 tb tl L) : S.nb = S.X.nb := by
  obtain ⟨_, _, _, e, _, _, _⟩ := d.eqs
  rw [e, d.xnb, c.nb]
theorem Duo.nodes (c : Ctx S0 a b N n1 n2 E1 E2 tb) (d : Duo S0 S W a b D1 D2 tb tl L) : S.X.nodes = N := by rw [d.xn, c.nn]
theorem Duo.len (d : Duo S0 S W a b D1 D2 tb tl L) : S.X.L.length = L.length := by rw [← says_len, d.says]
theorem st_propose (c : Ctx S0 a b N n1 n2 E1 E2 tb) (d : Duo S0 S W a b D1 D2 tb tl L) (i1 : DI E1 D1 (· = []) []) (hs : E1.seed.length ≤ 64) {i : Int} {p g : Lg} (hi : I64 i) (hL : L.length < 1000) (hc : errD (dealP E1 b i p g) = 0) (l1 : (p.a < 100) = False) (l2 : (p.a > 1000) = False) :
    Calls Tryz.prog 10 #[.pointer (some ⟨S0.wb, 0, none⟩), .int .i64 a, .int .i64 b, .int .i64 i, .agg p.cells, .agg g.cells] W fun e w' => e = .returned (.int .i64 0) ∧ ∃ S' D', Duo S0 S' w' a b D' D2 tb tl (L ++ [((a : Int), (b : Int), putLM (proposeM (dealP E1 b i p g)))]) ∧
      DI E1 D' (With [] i ⟨dealP E1 b i p g, 1, true, secretH (E1.seed ++ intI i)⟩) ([(1, putD (dealP E1 b i p g))] ++ [(1, putS i (secretH (E1.seed ++ intI i)))]) := by
  obtain ⟨e1, e2, e3, e4, e5, e6, e7⟩ := d.eqs
  have ed : proposeD D1 i b p g S.now = dealP E1 b i p g := by
    unfold proposeD dealP
    rw [i1.t, i1.seed, e5, c.now]
  have lv := d.live1 c i1
  have K := Propose_ok d.mw (d.nbx c) (by rw [e1]; exact c.hF) (by rw [e1]; exact c.hT) lv (d.at2 c) (i1.lies (lv.dae d.mw)) (by rw [i1.t]; exact T26_ok) (by rw [i1.seed]; exact hs) c.ab (by rw [d.nodes c]; have := c.ha; omega) (by rw [d.nodes c]; have := c.hb; omega) (p := p) (g := g) hi (by rw [ed]; exact hc) (by rw [i1.t]; exact l1) (by rw [i1.t]; exact l2) (by rw [d.len]; exact hL)
  rw [ed] at K
  rw [i1.seed] at K
  rw [← e2]
  refine K.mono ?_
  rintro e w' ⟨he, X', D', g', l, s1, s2, s3, x, t, sd, dv⟩
  exact ⟨he, _, D', d.go1 c g' s3 s2 (by rw [s1, d.says]), ⟨x.trans i1.xb, t.trans i1.t, sd, dv.trans i1.dv, l.book, l.rows, l.cal⟩⟩
theorem st_double (c : Ctx S0 a b N n1 n2 E1 E2 tb) (d : Duo S0 S W a b D1 D2 tb tl L) {k : Nat} {x : Int × Int × List Nat} (hk : L[k]? = some x) (hx : x.2.2.length < 1000000) (hL : L.length < 1000) :
    Calls Tryz.prog 23 #[.pointer (some ⟨S0.nb, 0, none⟩), .int .i64 k] W fun e w' => e = .returned (.bool true) ∧ ∃ S', Duo S0 S' w' a b D1 D2 tb tl (L ++ [x]) := by
  obtain ⟨y, h1, h2, h3, h4⟩ := says_at (X := S.X) (k := k) (f := x.1) (t := x.2.1) (l := x.2.2) (by rw [d.says]; exact hk)
  obtain ⟨_, _, _, e4, _, _, _⟩ := d.eqs
  have K := Double_ok d.mw.netAt (eq_false (by have := d.len; omega)) h1 (by rw [h4]; exact hx)
  rw [← e4, d.nbx c]
  refine K.mono ?_
  rintro e w' ⟨he, X', t, s⟩
  exact ⟨he, _, d.goX (d.mw.net t) t.nb t.nodes (by rw [s, d.says, h2, h3, h4])⟩
end
end Go.Proofs.YtjkfondgacjpnaaGreatDoor

namespace Go.Proofs.YtjkfondgacjpnaaGreatDoor
open Go.RowKit
open Sx (Ab DW Turns Did Foot MapIs)
set_option maxRecDepth 100000
section
variable {S0 S : MS} {W : World} {a b N : Nat} {n1 n2 : Nd} {E1 E2 D1 D2 : Dm} {tb : Nat} {tl : List (Int × Value)} {L : List (Int × Int × List Nat)} {P : List (Int × En) → Prop} {R : List (Int × List Nat)} {Q : Dm → Prop}
theorem st_hear (c : Ctx S0 a b N n1 n2 E1 E2 tb) (d : Duo S0 S W a b D1 D2 tb tl L) (i2 : DI E2 D2 P R) {k : Nat} {m : Msg} (hk : L[k]? = some ((a : Int), (b : Int), putLM m)) (hm : mgetM (putLM m) = (0, m)) (k1 : m.k = 1) (hsm : Small m.h.l) {Lr : List Nat} (hr : Lr.length ≤ 400) (hL : L.length ≤ 1000) {free : Int}
    (hH : ∀ W' ao cc, Dae W' D2 → Base W' D2 → Sl W' ao (putLM m).length cc (bts (putLM m)) → Calls Tryz.prog 54 #[.pointer (some ⟨D2.xb, 0, none⟩), .int .i64 a, .slice ao (putLM m).length cc, .agg (Cl.cells ⟨100, 200, 0⟩), .int .i64 free] W' fun e w' => ∃ a' c', e = .returned (.slice a' Lr.length c') ∧ Sl w' a' Lr.length c' (bts Lr) ∧ ∃ D', Dae w' D' ∧ Q D' ∧ Trans W' D2 w' D') :
    Calls Tryz.prog 12 #[.pointer (some ⟨S0.wb, 0, none⟩), .int .i64 k, .int .i64 free] W fun e w' => e = .returned (.bool true) ∧ ∃ S' D', Duo S0 S' w' a b D1 D' tb tl (L.eraseIdx k ++ [((b : Int), (a : Int), Lr)]) ∧ Q D' := by
  obtain ⟨e1, e2, e3, e4, e5, e6, e7⟩ := d.eqs
  obtain ⟨y, h1, h2, h3, h4⟩ := says_at (X := S.X) (k := k) (f := a) (t := b) (l := putLM m) (by rw [d.says]; exact hk)
  have hkl : k < L.length := (List.getElem?_eq_some_iff.1 hk).1
  have lv := d.live2 c i2
  have lm : (putLM m).length ≤ 104 := putLM_len m
  have hrs : Rs (putLM m, 0) := ⟨small_putLM hsm, by show (putLM m).length < 1000000; omega⟩
  have ha := c.ha
  have hb := c.hb
  have K := Deliver_gen (free := free) (R := fun S' => ∃ X' D', S' = { S with X := X', ds := upd S.ds b (.live D') } ∧ X'.says = L.eraseIdx k ++ [((b : Int), (a : Int), Lr)] ∧ X'.nb = S.X.nb ∧ X'.nodes = S.X.nodes ∧ Q D') d.mw (d.nbx c) h1 (by rw [h4]; omega) (by rw [d.len]; omega) (f := a) (t := b) ⟨h2, by omega, by rw [d.nodes c]; omega⟩ ⟨h3, by omega, by rw [d.nodes c]; omega⟩ c.ab lv (fun W1 X1 ao cc g1 s1 s2 s3 hsl => by
    rw [h4] at hsl ⊢
    have lv1 : Live ({ S with X := X1 } : MS) b n2 D2 := ⟨lv.nd, lv.ds, lv.at_, lv.xv⟩
    have hb1 : ({ S with X := X1 } : MS).nb = X1.nb := by show S.nb = X1.nb; rw [d.nbx c, s3]
    have ln : X1.L.length < 1000 := by
      have := says_len X1
      rw [s1, d.says, List.length_eraseIdx, if_pos hkl] at this
      omega
    have H := hear_prop (S := ({ S with X := X1 } : MS)) (free := free) (L := Lr) (R := Q) g1.mw hb1 (by show Forms S.u; rw [e1]; exact c.hF) lv1 hsl hrs hm k1 (fun W' hW => by
      have g2 := g1.mw.below hW
      have da := lv1.dae g2.mw
      have hB : Base W' D2 := (g2.mw.mine (k := b) lv1.ds).base (by show Forms S.u; rw [e1]; exact c.hF) (by show Tabs S.u; rw [e1]; exact c.hT)
      have Q0 := hH W' ao cc da hB (hsl.keep (Nat.le_refl _) hW)
      rw [show (⟨100, 200, 0⟩ : Cl) = S.now from (e5.trans c.now).symm] at Q0
      refine Q0.mono ?_
      rintro e w' ⟨a', c', he, hs', D', da', di, tr⟩
      have g3 := g2.mw.live (k := b) lv1.ds tr da'
      exact ⟨D', a', c', he, hs', tr.xb, di, g2.trans g3, g3.comp⟩)
      hr ln (f := a) c.ab (by show 1 ≤ a ∧ (a : Int) ≤ X1.nodes; rw [s2, d.nodes c]; omega) (by show 1 ≤ b ∧ (b : Int) ≤ X1.nodes; rw [s2, d.nodes c]; omega)
    refine H.mono ?_
    rintro e w' ⟨he, D', X', x, di, g, q1, q2, q3⟩
    exact ⟨he, _, g1.trans g, X', D', rfl, (by rw [q1]; show X1.says ++ _ = _; rw [s1, d.says]), q3.trans s3, q2.trans s2, di⟩)
  rw [← e2]
  refine K.mono ?_
  rintro e w' ⟨he, S', g, X', D', rfl, q1, q2, q3, di⟩
  exact ⟨he, _, D', d.go2 c g q2 q3 q1, di⟩
end
end Go.Proofs.YtjkfondgacjpnaaGreatDoor

namespace Go.Proofs.YtjkfondgacjpnaaGreatDoor
open Go.RowKit
open Sx (Ab DW Turns Did Foot MapIs)
set_option maxRecDepth 100000
section
variable {S0 S : MS} {W : World} {a b N : Nat} {n1 n2 : Nd} {E1 E2 D1 D2 : Dm} {tb : Nat} {tl : List (Int × Value)} {L : List (Int × Int × List Nat)} {P P' : List (Int × En) → Prop} {R R' : List (Int × List Nat)}
theorem dealP_ih (E : Dm) (b : Nat) (i : Int) (p g : Lg) : (dealP E b i p g).i = i ∧ (dealP E b i p g).h = sumH (secretH (E.seed ++ intI i)).l := legsV_i _ _ _
theorem prop_get {dd : Dl} (h : errD dd = 0) : mgetM (putLM (proposeM dd)) = (0, proposeM dd) := mget_legs (.inl rfl) (propose_idE h).1
theorem st_hear_ok (c : Ctx S0 a b N n1 n2 E1 E2 tb) (d : Duo S0 S W a b D1 D2 tb tl L) (i2 : DI E2 D2 (· = []) R) (hR : (secL R).length ≤ 250) {k : Nat} {dd : Dl} (hk : L[k]? = some ((a : Int), (b : Int), putLM (proposeM dd))) (hc : errD dd = 0) (hsm : Small dd.h.l) (hL : L.length ≤ 1000) {free : Int} (ht : takesE T26 (heardD (proposeM dd) a) ⟨100, 200, 0⟩ free = 0) :
    Calls Tryz.prog 12 #[.pointer (some ⟨S0.wb, 0, none⟩), .int .i64 k, .int .i64 free] W fun e w' => e = .returned (.bool true) ∧ ∃ S' D', Duo S0 S' w' a b D1 D' tb tl (L.eraseIdx k ++ [((b : Int), (a : Int), putLM (acceptM (heardD (proposeM dd) a)))]) ∧ DI E2 D' (With [] dd.i ⟨heardD (proposeM dd) a, 1, false, Hs.zero⟩) (R ++ [(1, putD (heardD (proposeM dd) a))]) := by
  obtain ⟨k1, ⟨v, k2, k3⟩, k4⟩ := takesE_ok ht
  obtain ⟨q1, q2, q3, q4⟩ := accept_ok k1
  have hp := propose_idE hc
  refine st_hear (Q := fun D' => DI E2 D' (With [] dd.i ⟨heardD (proposeM dd) a, 1, false, Hs.zero⟩) (R ++ [(1, putD (heardD (proposeM dd) a))])) c d i2 hk (prop_get hc) rfl hsm (Nat.le_trans (putLM_len _) (by decide)) hL fun W' ao cc da hB hsl => ?_
  have H := hear_ok (peer := (a : Int)) (n := ⟨100, 200, 0⟩) (free := free) (i2.lies da) hB hsl ⟨small_putLM hsm, by show (putLM (proposeM dd)).length < 1000000; have := putLM_len (proposeM dd); omega⟩ (prop_get hc) rfl q1 ⟨q2, q3, q4⟩ fun X l B => takes_ok (v := v) (Lib.hid l) (Lib.hid B) (Lib.hid (by rw [i2.t]; exact T26_ok)) (Lib.hid hR) (Lib.hid hsm) (Lib.hid k1) (Lib.hid (by rw [i2.t]; exact k2)) (eq_false k3) (Lib.hid (by rw [i2.t]; exact k4))
  refine H.mono ?_
  rintro e w' ⟨a', c', he, hs, D', l, t⟩
  exact ⟨a', c', he, hs, D', l.dae, ⟨t.xb.trans i2.xb, t.t.trans i2.t, t.seed.trans i2.seed, t.dv.trans i2.dv, l.book, l.rows, l.cal⟩, t⟩
theorem st_hear_no (c : Ctx S0 a b N n1 n2 E1 E2 tb) (d : Duo S0 S W a b D1 D2 tb tl L) (i2 : DI E2 D2 P R) {k : Nat} {dd : Dl} (hk : L[k]? = some ((a : Int), (b : Int), putLM (proposeM dd))) (hc : errD dd = 0) (hsm : Small dd.h.l) (hL : L.length ≤ 1000) {free e : Int} (he : 1 ≤ e ∧ e ≤ 24)
    (ht : ∀ X, Dae X D2 → Calls Tryz.prog 79 #[.pointer (some ⟨D2.xb, 0, none⟩), .agg (heardD (proposeM dd) a).cells, .agg (Cl.cells ⟨100, 200, 0⟩), .int .i64 free] X fun x w' => x = .returned (.int .i64 e) ∧ Below X.heap.size X w') :
    Calls Tryz.prog 12 #[.pointer (some ⟨S0.wb, 0, none⟩), .int .i64 k, .int .i64 free] W fun x w' => x = .returned (.bool true) ∧ ∃ S', Duo S0 S' w' a b D1 D2 tb tl (L.eraseIdx k ++ [((b : Int), (a : Int), putC dd.i e)]) := by
  have hp := propose_idE hc
  have hi := idE_in hp.1
  have K := st_hear (Q := (· = D2)) (Lr := putC dd.i e) (free := free) c d i2 hk (prop_get hc) rfl hsm (Nat.le_trans (putC_len _ _) (by decide)) hL fun W' ao cc da hB hsl => by
    have H := hear_no (peer := (a : Int)) (n := ⟨100, 200, 0⟩) (free := free) da hB.forms hsl ⟨small_putLM hsm, by show (putLM (proposeM dd)).length < 1000000; have := putLM_len (proposeM dd); omega⟩ (prop_get hc) rfl hi.1 he ht
    refine H.mono ?_
    rintro x w' ⟨a', c', hx, hb, hs⟩
    exact ⟨a', c', hx, hs, D2, da.below hb, rfl, Trans.below hb⟩
  refine K.mono ?_
  rintro x w' ⟨hx, S', D', dd', rfl⟩
  exact ⟨hx, S', dd'⟩
theorem st_told (c : Ctx S0 a b N n1 n2 E1 E2 tb) (d : Duo S0 S W a b D1 D2 tb tl L) (i1 : DI E1 D1 P R) {i x y : Int} (hg : (getA tl i).getD (wordV 0 0) = wordV x y) :
    Calls Tryz.prog 17 #[.pointer (some ⟨S0.wb, 0, none⟩), .int .i64 a, .int .i64 i] W fun e w' => e = .returned (.tuple #[.int .i64 x, .int .i64 y]) ∧ Duo S0 S w' a b D1 D2 tb tl L := by
  obtain ⟨e1, e2, e3, e4, e5, e6, e7⟩ := d.eqs
  have r := (d.mw.ndAt (d.live1 c i1).nd).row
  unfold Nd.cells at r
  rw [c.tv] at r
  rw [← e2]
  refine (Told_at d.mw (d.at1 c) r (d.mw.tmAt d.tm) hg).mono ?_
  rintro e w' ⟨he, hb⟩
  exact ⟨he, d.below hb⟩
theorem st_ans (c : Ctx S0 a b N n1 n2 E1 E2 tb) (d : Duo S0 S W a b D1 D2 tb tl L) (i1 : DI E1 D1 P R) {k : Nat} {l : List Nat} (hk : L[k]? = some ((b : Int), (a : Int), l)) (hl : l.length < 1000000) (hL : L.length ≤ 1000) {free : Int} {tl' : List (Int × Value)}
    (hH : ∀ W1 X1 ao cc, MW W1 ({ S with X := X1 } : MS) → Live ({ S with X := X1 } : MS) a n1 D1 → Sl W1 ao l.length cc (bts l) → Calls Tryz.prog 29 #[.pointer (some ⟨S.wb, 0, none⟩), .pointer (some ⟨n1.b, 0, none⟩), .agg (ltV b a ao l.length cc), .int .i64 free] W1 fun e w' => e = .returned (.tuple #[]) ∧ Goes W1 { S with X := X1 } w' { S with X := X1, tm := upd S.tm a (some (tb, tl')) }) :
    Calls Tryz.prog 12 #[.pointer (some ⟨S0.wb, 0, none⟩), .int .i64 k, .int .i64 free] W fun e w' => e = .returned (.bool true) ∧ ∃ S', Duo S0 S' w' a b D1 D2 tb tl' (L.eraseIdx k) := by
  obtain ⟨e1, e2, e3, e4, e5, e6, e7⟩ := d.eqs
  obtain ⟨y, h1, h2, h3, h4⟩ := says_at (X := S.X) (k := k) (f := b) (t := a) (l := l) (by rw [d.says]; exact hk)
  have lv := d.live1 c i1
  have ha := c.ha
  have hb := c.hb
  have K := Deliver_gen (free := free) (R := fun S' => ∃ X', S' = { S with X := X', tm := upd S.tm a (some (tb, tl')) } ∧ X'.says = L.eraseIdx k ∧ X'.nb = S.X.nb ∧ X'.nodes = S.X.nodes) d.mw (d.nbx c) h1 (by rw [h4]; exact hl) (by rw [d.len]; omega) (f := b) (t := a) ⟨h2, by omega, by rw [d.nodes c]; omega⟩ ⟨h3, by omega, by rw [d.nodes c]; omega⟩ (Ne.symm c.ab) lv (fun W1 X1 ao cc g1 s1 s2 s3 hsl => by
    rw [h4] at hsl ⊢
    refine (hH W1 X1 ao cc g1.mw ⟨lv.nd, lv.ds, lv.at_, lv.xv⟩ hsl).mono ?_
    rintro e w' ⟨he, g⟩
    exact ⟨he, _, g1.trans g, X1, rfl, (by rw [s1, d.says]), s3, s2⟩)
  rw [← e2]
  refine K.mono ?_
  rintro e w' ⟨he, S', g, X', rfl, q1, q2, q3⟩
  refine ⟨he, _, g.mw, ?_, q2.trans d.xnb, q3.trans d.xn, d.d1, d.d2, d.dk, fun j h => (upd_ne _ _ h).trans (d.tk j h), upd_at _ _ _, q1⟩
  have e := d.e
  rw [e]
theorem st_acc (c : Ctx S0 a b N n1 n2 E1 E2 tb) (d : Duo S0 S W a b D1 D2 tb tl L) (i1 : DI E1 D1 P R) {k : Nat} {dd : Dl} {q : En} (hq : getA D1.M dd.i = some q) (hd : q.s.d = dd) (hr : dd.r = 1) (hp : dd.q = b) (hk : L[k]? = some ((b : Int), (a : Int), putLM (acceptM (heardD (proposeM dd) a)))) (hc : dealOk (heardD (proposeM dd) a) = true) (hsm : Small dd.h.l) (hL : L.length ≤ 1000) {free x y : Int} (hw : (getA tl dd.i).getD (wordV 0 0) = wordV x y) :
    Calls Tryz.prog 12 #[.pointer (some ⟨S0.wb, 0, none⟩), .int .i64 k, .int .i64 free] W fun e w' => e = .returned (.bool true) ∧ ∃ S', Duo S0 S' w' a b D1 D2 tb (putA tl dd.i (wordV 2 0)) (L.eraseIdx k) := by
  obtain ⟨e1, e2, e3, e4, e5, e6, e7⟩ := d.eqs
  have lm := putLM_len (acceptM (heardD (proposeM dd) a))
  subst hd
  refine st_ans c d i1 hk (by omega) hL fun W1 X1 ao cc mw lv hs => ?_
  exact hear_acc (f := b) (b := a) (i := q.s.d.i) (q := q) mw (by show Forms S.u; rw [e1]; exact c.hF) lv d.tm c.tv hs ⟨small_putLM hsm, by show (putLM (acceptM (heardD (proposeM q.s.d) a))).length < 1000000; omega⟩ hw hq (by rw [hr]; rfl) hp (mget_legs (.inr rfl) (accept_ok hc).1)
theorem st_ref (c : Ctx S0 a b N n1 n2 E1 E2 tb) (d : Duo S0 S W a b D1 D2 tb tl L) (i1 : DI E1 D1 P R) {k : Nat} {i cd : Int} {q : En} (hq : getA D1.M i = some q) (hr : q.s.d.r = 1) (hp : q.s.d.q = b) (hk : L[k]? = some ((b : Int), (a : Int), putC i cd)) (hi : 1 ≤ i ∧ i ≤ 1073741824) (hcd : 1 ≤ cd ∧ cd ≤ 24) (hL : L.length ≤ 1000) {free : Int} (hn : getA tl i = none) :
    Calls Tryz.prog 12 #[.pointer (some ⟨S0.wb, 0, none⟩), .int .i64 k, .int .i64 free] W fun e w' => e = .returned (.bool true) ∧ ∃ S', Duo S0 S' w' a b D1 D2 tb (putA tl i (wordV 3 cd)) (L.eraseIdx k) := by
  obtain ⟨e1, e2, e3, e4, e5, e6, e7⟩ := d.eqs
  have lm := putC_len i cd
  have he : idE i (refE cd) = 0 := by
    unfold idE refE
    rw [if_neg (by omega), if_neg (by omega)]
  refine st_ans c d i1 hk (by omega) hL fun W1 X1 ao cc mw lv hs => ?_
  exact hear_ref (f := b) (b := a) (i := i) (q := q) (x := 0) (y := 0) mw (by show Forms S.u; rw [e1]; exact c.hF) lv d.tm c.tv hs ⟨small_putC _ _, by show (putC i cd).length < 1000000; omega⟩ (by rw [hn]; rfl) (by rw [hn]; rfl) hq (by rw [hr]; rfl) hp (mget_code he)
end
end Go.Proofs.YtjkfondgacjpnaaGreatDoor
