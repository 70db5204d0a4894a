/- What is proved: the walk of the document's Next (layer 23), and that both Nexts say the same. Condition: terms from 0 to 1024. -/
import Derived.Test.YtmhbkiabndookaaV5
namespace Go.Proofs.Ytmhbkiabndookaa
open Go.RowKit

theorem NW.known2 {t : T} {s s' : S} {f : F} {w W : World} (h : NW t s f w W) (v : Value) : NW t s' f w ((W.setCell ⟨w.heap.size + 1, 42, none⟩ v).setRow (w.heap.size + 1) s'.cells) := by
  have hs : soft (W.setCell ⟨w.heap.size + 1, 42, none⟩ v) (w.heap.size + 1) = true := by rw [soft_setCell]; exact h.s1
  have e : ∀ b, b ≠ w.heap.size + 1 → rowOf ((W.setCell ⟨w.heap.size + 1, 42, none⟩ v).setRow (w.heap.size + 1) s'.cells) b = rowOf W b := fun b hb => by
    rw [rowOf_setRow _ _ _ _ hs, if_neg hb, rowOf_setCell, if_neg hb]
  have z : ((W.setCell ⟨w.heap.size + 1, 42, none⟩ v).setRow (w.heap.size + 1) s'.cells).heap.size = W.heap.size := by simp [World.setRow, World.setCell]
  refine ⟨by rw [e _ (by omega)]; exact h.r0, by rw [rowOf_setRow _ _ _ _ hs, if_pos rfl], by rw [soft_setRow]; exact hs, by rw [e _ (by omega)]; exact h.r2, by rw [e _ (by omega)]; exact h.r3, ?_, by rw [z]; exact h.size, Below.setRow_ (h.below.setCell (by simp) _) (by omega) _⟩
  rw [soft_setRow, soft_setCell]
  exact h.s3
/-- What the call holds. -/
structure NR (t : T) (s : S) (f : F) (w wr : World) : Prop where
  r0 : rowOf wr w.heap.size = t.cells
  r1 : rowOf wr (w.heap.size + 1) = s.cells
  s1 : soft wr (w.heap.size + 1) = true
  r2 : rowOf wr (w.heap.size + 1 + 1) = f.cells
  r3 : rowOf wr (w.heap.size + 1 + 1 + 1) = S.zero.cells
  s3 : soft wr (w.heap.size + 1 + 1 + 1) = true
  size : w.heap.size + 1 + 1 + 1 < wr.heap.size
  below : Below w.heap.size w wr
theorem NW.nr {t : T} {s : S} {f : F} {w W : World} (h : NW t s f w W) : NR t s f w W := ⟨h.r0, h.r1, h.s1, h.r2, h.r3, h.s3, by rw [h.size]; omega, h.below⟩
theorem NR.ext {t : T} {s : S} {f : F} {w W : World} (h : NR t s f w W) (g : Ext W) : NR t s f w g.val := by
  have hz := h.size
  have gz := g.size
  exact ⟨by rw [g.row _ (by omega)]; exact h.r0, by rw [g.row _ (by omega)]; exact h.r1, by rw [g.soft_ _ (by omega)]; exact h.s1, by rw [g.row _ (by omega)]; exact h.r2, by rw [g.row _ (by omega)]; exact h.r3, by rw [g.soft_ _ (by omega)]; exact h.s3, by omega, g.up h.below⟩
theorem NR.state {t : T} {s : S} {f : F} {w W : World} (h : NR t s f w W) (v : Int) : NR t { s with st := v } f w (W.setCell ⟨w.heap.size + 1, 41, none⟩ (.int .i64 v)) := by
  have hz := h.size
  refine ⟨by rw [rowOf_setCell, if_neg (by omega)]; exact h.r0, by rw [rowOf_setCell, if_pos rfl, h.r1, s_set41], by rw [soft_setCell]; exact h.s1, by rw [rowOf_setCell, if_neg (by omega)]; exact h.r2, by rw [rowOf_setCell, if_neg (by omega)]; exact h.r3, by rw [soft_setCell]; exact h.s3, by simpa [World.setCell] using hz, h.below.setCell (by simp) _⟩

def stepM (t : T) (s : S) (f : F) (tm : Bool) : Int × Int := if s.st = 1 then agreedM t s f tm else if s.st = 2 then lockedM t s f tm else if s.st = 3 then claimingM t f else (0, s.st)
/-- The document's Next. -/
def S.refNext (s : S) (t : T) (f : F) : Int × S := ((stepM t (s.seen f) f (safeB t (s.seen f) f)).1, { s.seen f with st := (stepM t (s.seen f) f (safeB t (s.seen f) f)).2 })

attribute [local go_sem ↓] rowOf_cell
set_option maxRecDepth 100000 in
set_option maxHeartbeats 4000000 in
theorem refNext_any (t : T) (ht : t.Ok) (s : S) (f : F) (w : World) : Calls Try.prog 10 #[.agg t.cells, .agg s.cells, .agg f.cells] w (Ret (.tuple #[.int .i64 (s.refNext t f).1, .agg (s.refNext t f).2.cells]) w) := by
  have n0 := nw_first t s f w
  rcases (show (s.kn = true) ∨ (s.kn = false ∧ f.seen = false) ∨ (s.kn = false ∧ f.seen = true) by cases s.kn <;> cases f.seen <;> simp) with h1 | ⟨h1, h2⟩ | ⟨h1, h2⟩
  focus
    have HE : Hid (s.seen f = s) := seen_no1 f h1
    go_enter Try.func10, Try.ntmps10
    go_upto_region 4 with fail
    refine at_world (NR t (s.seen f) f w) (by rw [HE.out]; exact n0.nr) (fun W' n4 => ?_)
    clear n0
  rotate_left
  focus
    have HE : Hid (s.seen f = s) := seen_no2 s h2
    go_enter Try.func10, Try.ntmps10
    go_upto_region 4 with fail
    refine at_world (NR t (s.seen f) f w) (by rw [HE.out]; exact n0.nr) (fun W' n4 => ?_)
    clear n0
  rotate_left
  focus
    have HE : Hid (s.seen f = { s with kn := true, se := f.se }) := seen_yes h1 h2
    have W0 := n0.r1
    have W1 := n0.r2
    have W2 := n0.s1
    go_enter Try.func10, Try.ntmps10
    go_upto_region 2 with fail
    generalize hW : ((((w.alloc (.cells t.cells 23)).alloc (.cells s.cells 31)).alloc (.cells f.cells 34)).alloc (.cells S.zero.cells 31)) = W at *
    clear hW
    go_upto_region 4 with fail
    refine at_world (NR t (s.seen f) f w) (by rw [HE.out]; exact (n0.known2 _).nr) (fun W' n4 => ?_)
    clear n0 W0 W1 W2
  rotate_left
  all_goals
    clear HE h1
    generalize hse : s.seen f = s' at *
    have HSE : Hid (s.seen f = s') := hse
    clear hse
    have hle3 : w.heap.size ≤ w.heap.size + 1 + 1 + 1 := by omega
    have R0 := n4.r0
    have R1 := n4.r1
    have R2 := n4.r2
    go_wp2_with fail
    refine (refSafe_any s'.d t ht f.a f.b f.c _).mono ?_
    rintro _ _ ⟨rfl, g, rfl⟩
    have n5 := n4.ext g
    clear R0 R1 R2 n4
    generalize g.val = X at *
    clear g
    have R0 := n5.r0
    have R1 := n5.r1
    have R2 := n5.r2
    by_cases t1 : s'.st = 1
    · skip
      have hM : stepM t s' f (safeB t s' f) = agreedM t s' f (s'.d.safe t f.a f.b f.c == 0) := if_pos t1
      have HF : Hid (s.refNext t f = ((agreedM t s' f (s'.d.safe t f.a f.b f.c == 0)).1, { s' with st := (agreedM t s' f (s'.d.safe t f.a f.b f.c == 0)).2 })) := (show s.refNext t f = _ by unfold S.refNext; rw [HSE.out, hM])
      clear hM
      go_wp2_with fail
      refine (agreed_any t s' f (s'.d.safe t f.a f.b f.c == 0) _).mono ?_
      rintro _ _ ⟨rfl, g2, rfl⟩
      have n6 := n5.ext g2
      clear n5 R0 R1 R2
      have R1 := n6.r1
      have R2 := n6.s1
      generalize g2.val = Y at *
      clear g2
      go_wp2_with fail
      have n7 := n6.state (agreedM t s' f (s'.d.safe t f.a f.b f.c == 0)).2
      have W3 := n7.r1
      have W4 := n7.s3
      have W5 := n7.r3
      have bz := n7.below
      clear R1 R2 n6 n7
      generalize Y.setCell ⟨w.heap.size + 1, 41, none⟩ (.int .i64 (agreedM t s' f (s'.d.safe t f.a f.b f.c == 0)).2) = Z at *
      go_region
      go_wp2_with fail
      refine bodyPost_ret (results_tmp_row rfl Try.underlying31 rfl (by kernel_rfl) _ _ (w.heap.size + 1 + 1 + 1) rfl (cs := S.cells { s' with st := (agreedM t s' f (s'.d.safe t f.a f.b f.c == 0)).2 }) (by rw [rowOf_setRow _ _ _ _ (by first | exact W4 | (rw [soft_drew]; exact W4)), if_pos rfl]) (s_size _)) rfl ?_
      rw [HF.out]
      exact Ret.mk (Below.setRow_ (by first | exact bz.drew | exact bz) hle3 _)
    have t1' : (s'.st == 1) = false := by simpa using t1
    by_cases t2 : s'.st = 2
    · skip
      have hM : stepM t s' f (safeB t s' f) = lockedM t s' f (s'.d.safe t f.a f.b f.c == 0) := (if_neg t1).trans (if_pos t2)
      have HF : Hid (s.refNext t f = ((lockedM t s' f (s'.d.safe t f.a f.b f.c == 0)).1, { s' with st := (lockedM t s' f (s'.d.safe t f.a f.b f.c == 0)).2 })) := (show s.refNext t f = _ by unfold S.refNext; rw [HSE.out, hM])
      clear hM
      go_wp2_with fail
      refine (locked_any t s' f (s'.d.safe t f.a f.b f.c == 0) _).mono ?_
      rintro _ _ ⟨rfl, g2, rfl⟩
      have n6 := n5.ext g2
      clear n5 R0 R1 R2
      have R1 := n6.r1
      have R2 := n6.s1
      generalize g2.val = Y at *
      clear g2
      go_wp2_with fail
      have n7 := n6.state (lockedM t s' f (s'.d.safe t f.a f.b f.c == 0)).2
      have W3 := n7.r1
      have W4 := n7.s3
      have W5 := n7.r3
      have bz := n7.below
      clear R1 R2 n6 n7
      generalize Y.setCell ⟨w.heap.size + 1, 41, none⟩ (.int .i64 (lockedM t s' f (s'.d.safe t f.a f.b f.c == 0)).2) = Z at *
      go_region
      go_wp2_with fail
      refine bodyPost_ret (results_tmp_row rfl Try.underlying31 rfl (by kernel_rfl) _ _ (w.heap.size + 1 + 1 + 1) rfl (cs := S.cells { s' with st := (lockedM t s' f (s'.d.safe t f.a f.b f.c == 0)).2 }) (by rw [rowOf_setRow _ _ _ _ (by first | exact W4 | (rw [soft_drew]; exact W4)), if_pos rfl]) (s_size _)) rfl ?_
      rw [HF.out]
      exact Ret.mk (Below.setRow_ (by first | exact bz.drew | exact bz) hle3 _)
    have t2' : (s'.st == 2) = false := by simpa using t2
    by_cases t3 : s'.st = 3
    · skip
      have hM : stepM t s' f (safeB t s' f) = claimingM t f := (if_neg t1).trans ((if_neg t2).trans (if_pos t3))
      have HF : Hid (s.refNext t f = ((claimingM t f).1, { s' with st := (claimingM t f).2 })) := (show s.refNext t f = _ by unfold S.refNext; rw [HSE.out, hM])
      clear hM
      go_wp2_with fail
      refine (claiming_any t f _).mono ?_
      rintro _ _ ⟨rfl, g2, rfl⟩
      have n6 := n5.ext g2
      clear n5 R0 R1 R2
      have R1 := n6.r1
      have R2 := n6.s1
      generalize g2.val = Y at *
      clear g2
      go_wp2_with fail
      have n7 := n6.state (claimingM t f).2
      have W3 := n7.r1
      have W4 := n7.s3
      have W5 := n7.r3
      have bz := n7.below
      clear R1 R2 n6 n7
      generalize Y.setCell ⟨w.heap.size + 1, 41, none⟩ (.int .i64 (claimingM t f).2) = Z at *
      go_region
      go_wp2_with fail
      refine bodyPost_ret (results_tmp_row rfl Try.underlying31 rfl (by kernel_rfl) _ _ (w.heap.size + 1 + 1 + 1) rfl (cs := S.cells { s' with st := (claimingM t f).2 }) (by rw [rowOf_setRow _ _ _ _ (by first | exact W4 | (rw [soft_drew]; exact W4)), if_pos rfl]) (s_size _)) rfl ?_
      rw [HF.out]
      exact Ret.mk (Below.setRow_ (by first | exact bz.drew | exact bz) hle3 _)
    have t3' : (s'.st == 3) = false := by simpa using t3
    have R3 := n5.s1
    have hM : stepM t s' f (safeB t s' f) = (0, s'.st) := (if_neg t1).trans ((if_neg t2).trans (if_neg t3))
    have HF : Hid (s.refNext t f = (0, { s' with st := s'.st })) := (show s.refNext t f = _ by unfold S.refNext; rw [HSE.out, hM])
    clear hM
    go_wp2_with fail
    have n7 := n5.state s'.st
    have W3 := n7.r1
    have W4 := n7.s3
    have W5 := n7.r3
    have bz := n7.below
    clear R0 R1 R2 R3 n5 n7
    generalize X.setCell ⟨w.heap.size + 1, 41, none⟩ (.int .i64 s'.st) = Z at *
    go_region
    go_wp2_with fail
    refine bodyPost_ret (results_tmp_row rfl Try.underlying31 rfl (by kernel_rfl) _ _ (w.heap.size + 1 + 1 + 1) rfl (cs := S.cells { s' with st := s'.st }) (by rw [rowOf_setRow _ _ _ _ (by first | exact W4 | (rw [soft_drew]; exact W4)), if_pos rfl]) (s_size _)) rfl ?_
    rw [HF.out]
    exact Ret.mk (Below.setRow_ (by first | exact bz.drew | exact bz) hle3 _)
end Go.Proofs.Ytmhbkiabndookaa
