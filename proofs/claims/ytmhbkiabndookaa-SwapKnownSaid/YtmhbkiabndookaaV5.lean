/- What is proved: the walks of the document's Next, and of Over and Right (layer 23). Condition: terms from 0 to 1024. -/
import Derived.Test.YtmhbkiabndookaaV4
namespace Go.Proofs.Ytmhbkiabndookaa
open Go.RowKit

def agreedM (t : T) (s : S) (f : F) (tm : Bool) : Int × Int := if 0 < f.pin then (0, 2) else if tm = false then (4, 6) else if s.d.role = 1 ∨ t.depth ≤ f.gin then (1, 2) else (0, 1)
def lockedM (t : T) (s : S) (f : F) (tm : Bool) : Int × Int :=
  if t.depth ≤ f.back then (4, 5) else if s.kn = true ∧ (s.d.role ≠ 1 ∨ t.depth ≤ f.gin ∧ tm = true) then (2, 3)
  else if (f.back < 1 ∧ f.lost < 1) ∧ 0 < f.pin ∧ s.d.leftP f.a f.b f.c = 0 then (3, 2) else if (f.back < 1 ∧ f.lost < 1) ∧ f.pin < 1 ∧ tm = true then (1, 2) else (0, 2)
def claimingM (t : T) (f : F) : Int × Int := if t.depth ≤ f.gout then (4, 4) else if f.gout < 1 then (2, 3) else (0, 3)
def RetM (m : Int × Int) (w : World) : Ending → World → Prop := Ret (.tuple #[.int .i64 m.1, .int .i64 m.2]) w

theorem agreed_any (t : T) (s : S) (f : F) (tm : Bool) (w : World) : Calls Try.prog 26 #[.agg t.cells, .agg s.cells, .agg f.cells, .bool tm] w (RetM (agreedM t s f tm) w) := by
  by_cases h1 : 0 < f.pin
  · rw [show agreedM t s f tm = (0, 2) from if_pos h1]
    go_enter Try.func26, Try.ntmps26
    go_wp2
    go_ret2
    (refine Ret.mk ?_; (repeat' (first | (with_reducible exact Below.refl _ _) | (with_reducible assumption) | (with_reducible refine Ext.up _ ?_) | (with_reducible refine Below.alloc ?_ ?_ _) | (with_reducible refine Below.drew ?_) | (with_reducible refine Below.setCell ?_ ?_ _) | (with_reducible refine Below.setRow_ ?_ ?_ _) | go_size)))
  cases tm
  · rw [show agreedM t s f false = (4, 6) from (if_neg h1).trans (if_pos rfl)]
    go_enter Try.func26, Try.ntmps26
    go_wp2
    go_ret2
    (refine Ret.mk ?_; (repeat' (first | (with_reducible exact Below.refl _ _) | (with_reducible assumption) | (with_reducible refine Ext.up _ ?_) | (with_reducible refine Below.alloc ?_ ?_ _) | (with_reducible refine Below.drew ?_) | (with_reducible refine Below.setCell ?_ ?_ _) | (with_reducible refine Below.setRow_ ?_ ?_ _) | go_size)))
  by_cases h2 : s.d.role = 1
  · rw [show agreedM t s f true = (1, 2) from (if_neg h1).trans ((if_neg (by decide)).trans (if_pos (.inl h2)))]
    go_enter Try.func26, Try.ntmps26
    go_wp2
    go_ret2
    (refine Ret.mk ?_; (repeat' (first | (with_reducible exact Below.refl _ _) | (with_reducible assumption) | (with_reducible refine Ext.up _ ?_) | (with_reducible refine Below.alloc ?_ ?_ _) | (with_reducible refine Below.drew ?_) | (with_reducible refine Below.setCell ?_ ?_ _) | (with_reducible refine Below.setRow_ ?_ ?_ _) | go_size)))
  have h2' : (s.d.role == 1) = false := by simpa using h2
  by_cases h3 : t.depth ≤ f.gin
  · rw [show agreedM t s f true = (1, 2) from (if_neg h1).trans ((if_neg (by decide)).trans (if_pos (.inr h3)))]
    go_enter Try.func26, Try.ntmps26
    go_wp2
    go_ret2
    (refine Ret.mk ?_; (repeat' (first | (with_reducible exact Below.refl _ _) | (with_reducible assumption) | (with_reducible refine Ext.up _ ?_) | (with_reducible refine Below.alloc ?_ ?_ _) | (with_reducible refine Below.drew ?_) | (with_reducible refine Below.setCell ?_ ?_ _) | (with_reducible refine Below.setRow_ ?_ ?_ _) | go_size)))
  · rw [show agreedM t s f true = (0, 1) from (if_neg h1).trans ((if_neg (by decide)).trans (if_neg (fun h => h.elim h2 h3)))]
    go_enter Try.func26, Try.ntmps26
    go_wp2
    go_ret2
    (refine Ret.mk ?_; (repeat' (first | (with_reducible exact Below.refl _ _) | (with_reducible assumption) | (with_reducible refine Ext.up _ ?_) | (with_reducible refine Below.alloc ?_ ?_ _) | (with_reducible refine Below.drew ?_) | (with_reducible refine Below.setCell ?_ ?_ _) | (with_reducible refine Below.setRow_ ?_ ?_ _) | go_size)))

theorem claiming_any (t : T) (f : F) (w : World) : Calls Try.prog 28 #[.agg t.cells, .agg f.cells] w (RetM (claimingM t f) w) := by
  by_cases h1 : t.depth ≤ f.gout
  · rw [show claimingM t f = (4, 4) from if_pos h1]
    go_enter Try.func28, Try.ntmps28
    go_wp2
    go_ret2
    (refine Ret.mk ?_; (repeat' (first | (with_reducible exact Below.refl _ _) | (with_reducible assumption) | (with_reducible refine Ext.up _ ?_) | (with_reducible refine Below.alloc ?_ ?_ _) | (with_reducible refine Below.drew ?_) | (with_reducible refine Below.setCell ?_ ?_ _) | (with_reducible refine Below.setRow_ ?_ ?_ _) | go_size)))
  by_cases h2 : f.gout < 1
  · rw [show claimingM t f = (2, 3) from (if_neg h1).trans (if_pos h2)]
    go_enter Try.func28, Try.ntmps28
    go_wp2
    go_ret2
    (refine Ret.mk ?_; (repeat' (first | (with_reducible exact Below.refl _ _) | (with_reducible assumption) | (with_reducible refine Ext.up _ ?_) | (with_reducible refine Below.alloc ?_ ?_ _) | (with_reducible refine Below.drew ?_) | (with_reducible refine Below.setCell ?_ ?_ _) | (with_reducible refine Below.setRow_ ?_ ?_ _) | go_size)))
  · rw [show claimingM t f = (0, 3) from (if_neg h1).trans (if_neg h2)]
    go_enter Try.func28, Try.ntmps28
    go_wp2
    go_ret2
    (refine Ret.mk ?_; (repeat' (first | (with_reducible exact Below.refl _ _) | (with_reducible assumption) | (with_reducible refine Ext.up _ ?_) | (with_reducible refine Below.alloc ?_ ?_ _) | (with_reducible refine Below.drew ?_) | (with_reducible refine Below.setCell ?_ ?_ _) | (with_reducible refine Below.setRow_ ?_ ?_ _) | go_size)))

def stB (st : Int) : Bool := st == 4 || st == 5 || st == 6
theorem Over_any (s : S) (w : World) : Calls Try.prog 11 #[.agg s.cells] w (Ret (.bool (stB s.st)) w) := by
  by_cases h4 : s.st = 4
  · rw [show stB s.st = true by rw [h4]; rfl]
    go_enter Try.func11, Try.ntmps11
    go_wp2
    go_ret
    (refine Ret.mk ?_; (repeat' (first | (with_reducible exact Below.refl _ _) | (with_reducible assumption) | (with_reducible refine Ext.up _ ?_) | (with_reducible refine Below.alloc ?_ ?_ _) | (with_reducible refine Below.drew ?_) | (with_reducible refine Below.setCell ?_ ?_ _) | (with_reducible refine Below.setRow_ ?_ ?_ _) | go_size)))
  have h4' : (s.st == 4) = false := by simpa using h4
  by_cases h5 : s.st = 5
  · rw [show stB s.st = true by rw [h5]; rfl]
    go_enter Try.func11, Try.ntmps11
    go_wp2
    go_ret
    (refine Ret.mk ?_; (repeat' (first | (with_reducible exact Below.refl _ _) | (with_reducible assumption) | (with_reducible refine Ext.up _ ?_) | (with_reducible refine Below.alloc ?_ ?_ _) | (with_reducible refine Below.drew ?_) | (with_reducible refine Below.setCell ?_ ?_ _) | (with_reducible refine Below.setRow_ ?_ ?_ _) | go_size)))
  have h5' : (s.st == 5) = false := by simpa using h5
  by_cases h6 : s.st = 6
  · rw [show stB s.st = true by rw [h6]; rfl]
    go_enter Try.func11, Try.ntmps11
    go_wp2
    go_ret
    (refine Ret.mk ?_; (repeat' (first | (with_reducible exact Below.refl _ _) | (with_reducible assumption) | (with_reducible refine Ext.up _ ?_) | (with_reducible refine Below.alloc ?_ ?_ _) | (with_reducible refine Below.drew ?_) | (with_reducible refine Below.setCell ?_ ?_ _) | (with_reducible refine Below.setRow_ ?_ ?_ _) | go_size)))
  have h6' : (s.st == 6) = false := by simpa using h6
  rw [show stB s.st = false by unfold stB; rw [h4', h5', h6']; rfl]
  go_enter Try.func11, Try.ntmps11
  go_wp2
  go_ret
  (refine Ret.mk ?_; (repeat' (first | (with_reducible exact Below.refl _ _) | (with_reducible assumption) | (with_reducible refine Ext.up _ ?_) | (with_reducible refine Below.alloc ?_ ?_ _) | (with_reducible refine Below.drew ?_) | (with_reducible refine Below.setCell ?_ ?_ _) | (with_reducible refine Below.setRow_ ?_ ?_ _) | go_size)))
theorem refOver_any (s : S) (w : World) : Calls Try.prog 12 #[.agg s.cells] w (Ret (.bool (stB s.st)) w) := by
  by_cases h4 : s.st = 4
  · rw [show stB s.st = true by rw [h4]; rfl]
    go_enter Try.func12, Try.ntmps12
    go_wp2
    go_ret
    (refine Ret.mk ?_; (repeat' (first | (with_reducible exact Below.refl _ _) | (with_reducible assumption) | (with_reducible refine Ext.up _ ?_) | (with_reducible refine Below.alloc ?_ ?_ _) | (with_reducible refine Below.drew ?_) | (with_reducible refine Below.setCell ?_ ?_ _) | (with_reducible refine Below.setRow_ ?_ ?_ _) | go_size)))
  have h4' : (s.st == 4) = false := by simpa using h4
  by_cases h5 : s.st = 5
  · rw [show stB s.st = true by rw [h5]; rfl]
    go_enter Try.func12, Try.ntmps12
    go_wp2
    go_ret
    (refine Ret.mk ?_; (repeat' (first | (with_reducible exact Below.refl _ _) | (with_reducible assumption) | (with_reducible refine Ext.up _ ?_) | (with_reducible refine Below.alloc ?_ ?_ _) | (with_reducible refine Below.drew ?_) | (with_reducible refine Below.setCell ?_ ?_ _) | (with_reducible refine Below.setRow_ ?_ ?_ _) | go_size)))
  have h5' : (s.st == 5) = false := by simpa using h5
  by_cases h6 : s.st = 6
  · rw [show stB s.st = true by rw [h6]; rfl]
    go_enter Try.func12, Try.ntmps12
    go_wp2
    go_ret
    (refine Ret.mk ?_; (repeat' (first | (with_reducible exact Below.refl _ _) | (with_reducible assumption) | (with_reducible refine Ext.up _ ?_) | (with_reducible refine Below.alloc ?_ ?_ _) | (with_reducible refine Below.drew ?_) | (with_reducible refine Below.setCell ?_ ?_ _) | (with_reducible refine Below.setRow_ ?_ ?_ _) | go_size)))
  have h6' : (s.st == 6) = false := by simpa using h6
  rw [show stB s.st = false by unfold stB; rw [h4', h5', h6']; rfl]
  go_enter Try.func12, Try.ntmps12
  go_wp2
  go_ret
  (refine Ret.mk ?_; (repeat' (first | (with_reducible exact Below.refl _ _) | (with_reducible assumption) | (with_reducible refine Ext.up _ ?_) | (with_reducible refine Below.alloc ?_ ?_ _) | (with_reducible refine Below.drew ?_) | (with_reducible refine Below.setCell ?_ ?_ _) | (with_reducible refine Below.setRow_ ?_ ?_ _) | go_size)))

def lockedT (s : S) (f : F) (tm : Bool) : Int × Int := if (f.back < 1 ∧ f.lost < 1) ∧ 0 < f.pin ∧ s.d.leftP f.a f.b f.c = 0 then (3, 2) else if (f.back < 1 ∧ f.lost < 1) ∧ f.pin < 1 ∧ tm = true then (1, 2) else (0, 2)
theorem tail_cases (s : S) (f : F) (tm : Bool) :
    (¬ f.back < 1 ∧ lockedT s f tm = (0, 2)) ∨ (f.back < 1 ∧ ¬ f.lost < 1 ∧ lockedT s f tm = (0, 2)) ∨ (f.back < 1 ∧ f.lost < 1 ∧ 0 < f.pin ∧ s.d.leftP f.a f.b f.c = 0 ∧ lockedT s f tm = (3, 2)) ∨
    (f.back < 1 ∧ f.lost < 1 ∧ 0 < f.pin ∧ (s.d.leftP f.a f.b f.c == 0) = false ∧ lockedT s f tm = (0, 2)) ∨ (f.back < 1 ∧ f.lost < 1 ∧ f.pin < 1 ∧ tm = true ∧ lockedT s f tm = (1, 2)) ∨ (f.back < 1 ∧ f.lost < 1 ∧ f.pin < 1 ∧ tm = false ∧ lockedT s f tm = (0, 2)) := by
  unfold lockedT
  by_cases h1 : f.back < 1
  · by_cases h2 : f.lost < 1
    · by_cases h3 : 0 < f.pin
      · by_cases h4 : s.d.leftP f.a f.b f.c = 0
        · simp [h1, h2, h3, h4]
        · have : ¬ f.pin < 1 := by omega
          simp [h1, h2, h3, h4, this]
      · have : f.pin < 1 := by omega
        cases tm <;> simp [h1, h2, h3, this]
    · simp [h1, h2]
  · simp [h1]

set_option maxRecDepth 100000 in
set_option maxHeartbeats 4000000 in
theorem locked_any (t : T) (s : S) (f : F) (tm : Bool) (w : World) : Calls Try.prog 27 #[.agg t.cells, .agg s.cells, .agg f.cells, .bool tm] w (RetM (lockedM t s f tm) w) := by
  by_cases h1 : t.depth ≤ f.back
  · rw [show lockedM t s f tm = (4, 5) from if_pos h1]
    go_enter Try.func27, Try.ntmps27
    go_wp2
    go_ret2
    (refine Ret.mk ?_; (repeat' (first | (with_reducible exact Below.refl _ _) | (with_reducible assumption) | (with_reducible refine Ext.up _ ?_) | (with_reducible refine Below.alloc ?_ ?_ _) | (with_reducible refine Below.drew ?_) | (with_reducible refine Below.setCell ?_ ?_ _) | (with_reducible refine Below.setRow_ ?_ ?_ _) | go_size)))
  by_cases h2 : s.kn = true ∧ (s.d.role ≠ 1 ∨ t.depth ≤ f.gin ∧ tm = true)
  · rw [show lockedM t s f tm = (2, 3) from (if_neg h1).trans (if_pos h2)]
    obtain ⟨ha, hb⟩ := h2
    by_cases hr : s.d.role = 1
    · have hr' : (s.d.role != 1) = false := by simpa using hr
      obtain ⟨hc, rfl⟩ := hb.resolve_left (fun h => h hr)
      clear hb
      go_enter Try.func27, Try.ntmps27
      go_wp2
      go_ret2
      (refine Ret.mk ?_; (repeat' (first | (with_reducible exact Below.refl _ _) | (with_reducible assumption) | (with_reducible refine Ext.up _ ?_) | (with_reducible refine Below.alloc ?_ ?_ _) | (with_reducible refine Below.drew ?_) | (with_reducible refine Below.setCell ?_ ?_ _) | (with_reducible refine Below.setRow_ ?_ ?_ _) | go_size)))
    · have hr' : (s.d.role != 1) = true := by simpa using hr
      clear hb
      go_enter Try.func27, Try.ntmps27
      go_wp2
      go_ret2
      (refine Ret.mk ?_; (repeat' (first | (with_reducible exact Below.refl _ _) | (with_reducible assumption) | (with_reducible refine Ext.up _ ?_) | (with_reducible refine Below.alloc ?_ ?_ _) | (with_reducible refine Below.drew ?_) | (with_reducible refine Below.setCell ?_ ?_ _) | (with_reducible refine Below.setRow_ ?_ ?_ _) | go_size)))
  · rw [show lockedM t s f tm = lockedT s f tm from (if_neg h1).trans (if_neg h2)]
    have hcall := fun w => refLeft_any s.d f.a f.b f.c w
    have hA : (s.kn = false) ∨ (s.kn = true ∧ s.d.role = 1 ∧ ¬ t.depth ≤ f.gin) ∨ (s.kn = true ∧ s.d.role = 1 ∧ t.depth ≤ f.gin ∧ tm = false) := by
      cases hk : s.kn
      · exact .inl rfl
      · by_cases hr : s.d.role = 1
        · by_cases hg : t.depth ≤ f.gin
          · cases ht : tm
            · exact .inr (.inr ⟨rfl, hr, hg, rfl⟩)
            · exact absurd ⟨hk, .inr ⟨hg, ht⟩⟩ h2
          · exact .inr (.inl ⟨rfl, hr, hg⟩)
        · exact absurd ⟨hk, .inl hr⟩ h2
    have hB := tail_cases s f tm
    clear h2
    rcases hA with a1 | ⟨a1, a2, a3⟩ | ⟨a1, a2, a3, rfl⟩ <;> rcases hB with ⟨b1, e⟩ | ⟨b1, b2, e⟩ | ⟨b1, b2, b3, b4, e⟩ | ⟨b1, b2, b3, b4, e⟩ | ⟨b1, b2, b3, b4, e⟩ | ⟨b1, b2, b3, b4, e⟩ <;> first | (exact absurd b4 (by decide)) | (
      rw [e]
      clear e
      go_enter Try.func27, Try.ntmps27
      go_wp2_with (go_at_call 47; refine (hcall _).mono ?_; rintro _ _ ⟨rfl, g, rfl⟩; have sg0 : w.heap.size < g.val.heap.size := (Nat.lt_of_lt_of_le (by go_size) g.size); have sg1 : w.heap.size + 1 < g.val.heap.size := (Nat.lt_of_lt_of_le (by go_size) g.size); have sg2 : w.heap.size + 1 + 1 < g.val.heap.size := (Nat.lt_of_lt_of_le (by go_size) g.size))
      go_ret2
      (refine Ret.mk ?_; (repeat' (first | (with_reducible exact Below.refl _ _) | (with_reducible assumption) | (with_reducible refine Ext.up _ ?_) | (with_reducible refine Below.alloc ?_ ?_ _) | (with_reducible refine Below.drew ?_) | (with_reducible refine Below.setCell ?_ ?_ _) | (with_reducible refine Below.setRow_ ?_ ?_ _) | go_size))))
end Go.Proofs.Ytmhbkiabndookaa
