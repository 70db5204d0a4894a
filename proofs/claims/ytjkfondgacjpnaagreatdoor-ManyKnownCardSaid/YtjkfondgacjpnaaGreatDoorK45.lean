/- What is proved: parts of the walk and of the plain law, 1 texts in one. No condition but those each law names. -/
import Derived.Test.YtjkfondgacjpnaaGreatDoorK44
namespace Go.Proofs.YtjkfondgacjpnaaGreatDoor
open Go.RowKit
open Sx (Ab DW Turns Did Foot MapIs)
set_option maxRecDepth 100000
attribute [local go_sem ↓] rowOf_cell
attribute [local go_sem] rowOf_alloc soft_alloc rowOf_drew soft_drew rowOf_setRow soft_setRow rowOf_setCell soft_setCell frozen_of_soft rowOf_map soft_map Sx.run_mk Ext.row Ext.soft_
attribute [local go_sem ↓] eeql39 eeql26
attribute [local go_sem] is_h is_l
attribute [local go_sem] msgR_k msgR_i msgR_c
set_option maxHeartbeats 2000000 in
theorem hear_ref {w : World} {S : MS} (h : MW w S) (hF : Forms S.u) {f b : Nat} {n : Nd} {D : Dm} (is : Live S b n D) {tb : Nat} {tl : List (Int × Value)} (ht : S.tm b = some (tb, tl)) (hv : n.tv = .map (some tb)) {ao : Option Addr} {nn c : Nat} {l : List Nat} (hs : Sl w ao nn c (bts l)) (hr : Rs (l, 0)) {i : Int} {x y : Int} {cd : Int} (hw : (getA tl i).getD (wordV 0 0) = wordV x y) (hkn : (getA tl i).isSome = false) {q : En} (hq : getA D.M i = some q) (h1 : (q.s.d.r == 1) = true) (hp : q.s.d.q = f) (hm : mgetM l = (0, msgR i cd)) {free : Int} :
    Calls Tryz.prog 29 #[.pointer (some ⟨S.wb, 0, none⟩), .pointer (some ⟨n.b, 0, none⟩), .agg (ltV f b ao nn c), .int .i64 free] w fun e w' => e = .returned (.tuple #[]) ∧ Goes w S w' { S with tm := upd S.tm b (some (tb, putA tl i (wordV 3 cd))) } := by
  have H := Lib.hid h
  have IS := Lib.hid is
  have HS := Lib.hid hs
  have HF := Lib.hid hF
  have HT := Lib.hid (And.intro ht hv)
  have HR := Lib.hid (And.intro hr hm)
  have HQ := Lib.hid (And.intro hq (And.intro h1 hp))
  clear h is hs hr hm hF ht hv hq h1 hp
  unfold ltV
  go_enter Tryz.func29, Tryz.ntmps29
  go_upto_region 1 with (fail)
  have bx := Bx.new w (#[.int .i64 f, .int .i64 b, .slice ao nn c]) 76; generalize w.alloc (.cells (#[.int .i64 f, .int .i64 b, .slice ao nn c]) 76) = W at bx ⊢; have rx := bx.rowOf; have sx := bx.soft; have BX := Lib.hid bx; clear bx
  have G := H.out.below BX.out.below
  have MG := Lib.hid (MGet_any (HF.out.keep (Nat.le_refl _) G.mw.low) (HS.out.keep (Nat.le_refl _) BX.out.below) HR.out.1)
  rw [HR.out.2] at MG
  unfold RetMG at MG
  clear G
  dsimp only at MG
  go_upto_region 6 with (go_at_call 53; refine MG.out.mono ?_; rintro _ V ⟨rfl, hb⟩; have bx := BX.out.step hb; clear BX rx sx MG hb; have rx := bx.rowOf; have BX := Lib.hid bx; clear bx)
  generalize hM : msgR i cd = m at *
  have B2 := Bx.made V Msg.zero.cells m.cells 67
  have bx := BX.out.step B2.below
  generalize (V.alloc (.cells Msg.zero.cells 67)).setRow V.heap.size m.cells = V2 at B2 bx ⊢
  have rm := B2.rowOf
  have by_ := B2.row
  generalize V.heap.size = mb at rm by_ ⊢
  have G := H.out.below bx.below
  have FI := Lib.hid (first_any G.mw IS.out i)
  rw [HQ.out.1] at FI
  have fb : firstB (some q) = true := HQ.out.2.1
  rw [fb] at FI
  replace FI : Hid (Calls Tryz.prog 35 #[.pointer (some ⟨n.b, 0, none⟩), .int .i64 i] V2 fun e w' => e = .returned (.tuple #[.agg q.s.d.cells, .bool true]) ∧ Below V2.heap.size V2 w') := FI
  have mi : m.i = i := by rw [← hM]; rfl
  have BY := Lib.hid by_
  clear fb G rx BX B2 by_
  have rx := bx.rowOf
  have BX := Lib.hid bx
  clear bx
  have pq : (q.s.d.q != (f : Int)) = false := by rw [HQ.out.2.2]; simp
  have HM := Lib.hid hM
  clear hM
  go_upto_region 7 with (go_at_call 35; refine FI.out.mono ?_; rintro _ U ⟨rfl, hb⟩; have bx := BX.out.step hb; have by_ := (hb.block _ (Array.getElem?_eq_some_iff.1 BY.out).1).trans BY.out; clear BX BY rx rm FI hb; have BX := Lib.hid bx; have BY := Lib.hid by_; clear bx by_)
  have B3 := Bx.made U Dl.zero.cells q.s.d.cells 83
  have bx := BX.out.step B3.below
  have by_ := (B3.below.block _ (Array.getElem?_eq_some_iff.1 BY.out).1).trans BY.out
  generalize (U.alloc (.cells Dl.zero.cells 83)).setRow U.heap.size q.s.d.cells = V3 at B3 bx by_ ⊢
  have rd := B3.rowOf
  have bd := B3.row
  have l3 := (Array.getElem?_eq_some_iff.1 bd).1
  generalize U.heap.size = db at rd bd l3 ⊢
  clear B3 BX BY
  have rx := bx.rowOf
  have rm := rowOf_of by_
  have G := H.out.below bx.below
  have rn := IS.out.row G.mw
  rw [HT.out.2] at rn
  have lk := told_look2 (G.mw.tmAt HT.out.1) i
  dsimp only at lk
  have l1 := (Array.getElem?_eq_some_iff.1 bx.row).1
  have l2 := (Array.getElem?_eq_some_iff.1 by_).1
  have l4 := (Array.getElem?_eq_some_iff.1 (G.mw.ndAt IS.out.nd).row).1
  have BX := Lib.hid bx
  have GG := Lib.hid G
  have LL := Lib.hid (And.intro l1 (And.intro l2 (And.intro l3 l4)))
  clear bx G by_ bd l1 l2 l3 l4
  generalize q.s.d = d at *
  rw [hw] at lk
  unfold wordV at lk
  go_upto_region 8 with (fail)
  clear rx
  have lkA := told_look2 (((GG.out.mw.tmAt HT.out.1).same ((MapKept.heap_alloc V3 (.cells #[.int .i64 0, .int .i64 0] 94)).2 _ (GG.out.mw.tmAt HT.out.1).lt)) : IMap (V3.alloc (.cells #[.int .i64 0, .int .i64 0] 94)).drew tb tl) i
  have lkB := told_look2 (((GG.out.mw.tmAt HT.out.1).same rfl) : IMap V3.drew tb tl) i
  dsimp only at lkA lkB
  rw [hw] at lkA lkB
  unfold wordV at lkA lkB
  have n1 : (mb = V3.heap.size) = False := eq_false (Nat.ne_of_lt LL.out.2.1)
  have n2 : (n.b = V3.heap.size) = False := eq_false (Nat.ne_of_lt LL.out.2.2.2)
  have n3 : (db = V3.heap.size) = False := eq_false (Nat.ne_of_lt LL.out.2.2.1)
  rw [hkn] at lk lkA lkB
  clear lk
  go_region
  all_goals
    have b4 := (below1 V3 (.cells #[.int .i64 x, .int .i64 y] 94)).drew
    have rm4 := (rowOf_same (b4.block _ LL.out.2.1)).trans rm
    have rd4 := (rowOf_same (b4.block _ LL.out.2.2.1)).trans rd
    have rn4 := (rowOf_same (b4.block _ LL.out.2.2.2)).trans rn
    have G4 := GG.out.trans (GG.out.mw.below b4)
    clear b4 rm rd rn lkA lkB n1 n2 n3 GG LL
    generalize (V3.alloc (.cells #[.int .i64 x, .int .i64 y] 94)).drew = V4 at rm4 rd4 rn4 G4 ⊢
    have tm4 : IMap V4.drew tb tl := (G4.mw.tmAt HT.out.1).same rfl
    obtain ⟨es, cc, hup, hm5⟩ := told_upd tm4 i (wordV 3 cd)
    have g5 := (G4.mw.below (Below.refl _ V4).drew).mw.tmTo (w' := putMap V4.drew tb es cc) b (p := (tb, putA tl i (wordV 3 cd))) ⟨rfl, rfl, rfl, by simp [putMap], fun j hj hn => ⟨putMap_ne _ _ _ _ (by intro e; exact hn (by simp only [MS.part, HT.out.1]; exact e)), fun e => hn (by simp only [MS.part, HT.out.1]; exact e)⟩⟩ hm5
    have G5 := Lib.hid (G4.trans ((G4.mw.below (Below.refl _ V4).drew).trans g5))
    unfold wordV at hup
    clear tm4 hm5 g5 G4 BX
    have hm2 := HM.out
    clear HM
    subst hm2
    go_upto_region 12 with (fail)
    (refine wp_region_still_tail 9 (by kernel_rfl) (by kernel_rfl) ?_; simp only [List.take_succ_cons, List.take_zero, List.drop_succ_cons, List.drop_zero]; (iterate 9 still_step); refine wpStill_nil ?_)
    go_wp2
    go_end0
    exact ⟨rfl, G5.out⟩
end Go.Proofs.YtjkfondgacjpnaaGreatDoor
