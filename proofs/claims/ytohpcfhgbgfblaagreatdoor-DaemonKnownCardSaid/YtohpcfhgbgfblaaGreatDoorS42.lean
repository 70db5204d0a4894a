/- What is proved: parts of the walk and of the plain law, 1 texts in one. No condition but those each law names. -/
import Derived.Test.YtohpcfhgbgfblaaGreatDoorS41
namespace Go.Proofs.YtohpcfhgbgfblaaGreatDoor
open Go.RowKit
open Sx (Ab DW Turns Did Foot)
set_option maxRecDepth 100000
attribute [local go_sem ↓] rowOf_cell
attribute [local go_sem] rowOf_alloc soft_alloc rowOf_drew soft_drew rowOf_setRow soft_setRow frozen_of_soft
theorem intL_pos (u : Nat) : 0 < (intL u).length := by
  unfold intL
  split
  · simp
  · split
    · simp
    · split <;> simp
theorem intI_pos (x : Int) : 0 < (intI x).length := intL_pos _
set_option maxHeartbeats 1000000 in
theorem secret_any {w : World} {D : Dm} (h : Dae w D) (hB : Base w D) (hl : D.seed.length ≤ 64) {i : Int} (hi : I64 i) : Calls Tryz.prog 44 #[.pointer (some ⟨D.xb, 0, none⟩), .int .i64 i] w fun e w' => e = .returned (.agg (secretH (D.seed ++ intI i)).cells) ∧ Below w.heap.size w w' := by
  have H := Lib.hid h
  have HB := Lib.hid hB
  have HI := Lib.hid hi
  have HL := Lib.hid hl
  generalize hq : secretH (D.seed ++ intI i) = q
  have HQ := Lib.hid hq
  clear h hB hi hl hq
  go_enter Tryz.func44, Tryz.ntmps44
  go_upto_region 1 with (fail)
  have bx := Bx.new w (Hs.zero.cells) 39; generalize w.alloc (.cells (Hs.zero.cells) 39) = W at bx ⊢; have rx := bx.rowOf; have sx := bx.soft; have BX := Lib.hid bx; clear bx
  have D1 := H.out.below BX.out.below
  have rD := rowOf_of D1.row
  unfold Dm.cells at rD
  have C := Lib.hid (Clone_any D1.sd (by have := HL.out; omega))
  unfold Dm.sv at rD
  clear D1
  go_wp2_with fail
  refine C.out.mono ?_
  rintro _ W2 ⟨a2, c2, rfl, hb2, o2⟩
  have bx := BX.out.step hb2
  have I := Lib.hid (Int_op (HB.out.forms.keep (Nat.le_refl _) bx.below) (Sl.own o2) (by have := HL.out; omega) i HI.out)
  clear BX C rx sx rD hb2 o2
  have BX := Lib.hid bx
  clear bx
  go_wp2_with fail
  refine I.out.mono ?_
  rintro _ W3 ⟨a3, c3, n3, rfl, hb3, o3⟩
  have bx := BX.out.step hb3
  have hn3 : n3 = (D.seed ++ intI i).length := own_n o3 rfl
  have hlen : n3 ≤ 73 := by rw [hn3, List.length_append]; have := HL.out; have := intI_len i; omega
  have hpos : 0 < n3 := by rw [hn3, List.length_append]; have := intI_pos i; omega
  have T := Tagged_any (HB.out.tabs.keep (Nat.le_refl _) bx.below) (Sl.own o3) hpos (by omega)
  rw [HQ.out] at T
  have T := Lib.hid T
  clear BX I hb3 o3 hn3 hlen hpos
  have BX := Lib.hid bx
  clear bx
  go_wp2_with fail
  refine T.out.mono ?_
  rintro _ W4 ⟨rfl, hb⟩
  have bx := BX.out.step hb
  clear BX T hb
  have sx := bx.soft
  have rx := bx.rowOf
  have BX := Lib.hid bx
  clear bx
  go_wp2
  have hc : rowOf (World.setRow W4 w.heap.size q.cells) w.heap.size = q.cells := (rowOf_setRow _ _ _ _ sx).trans (if_pos rfl)
  refine bodyPost_ret (results_row (t := 39) rfl Tryz.underlying39 rfl (by kernel_rfl) _ _ w.heap.size rfl hc (h_size _)) rfl ?_
  exact ⟨rfl, Below.setRow_ BX.out.below (Nat.le_refl _) _⟩
end Go.Proofs.YtohpcfhgbgfblaaGreatDoor
