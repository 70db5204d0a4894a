/- What is proved: what the rules of layer 23 (swap) say of a view. Condition: terms from 0 to 1024. -/
import Derived.Test.YtmhbkiabndookaaV1
namespace Go.Proofs.Ytmhbkiabndookaa
open Go.RowKit

section
variable (t : T) (s : S) (f : F)
def safeB : Bool := s.d.safe t f.a f.b f.c == 0
def buriedB (x : Int) : Bool := decide (t.depth ≤ x)
def openB : Bool := decide (f.back < 1) && decide (f.lost < 1)
def lateB : Bool := s.d.leftP f.a f.b f.c == 0
def firstB : Bool := s.d.role == 1
def is1 : Bool := decide (0 < f.pin)
def is2 : Bool := !safeB t s f
def is3 : Bool := firstB s || buriedB t f.gin
def is4 : Bool := buriedB t f.back
def is5 : Bool := s.kn && (!firstB s || buriedB t f.gin && safeB t s f)
def is6 : Bool := openB f && decide (0 < f.pin) && lateB s f
def is7 : Bool := openB f && decide (f.pin < 1) && safeB t s f
def is8 : Bool := buriedB t f.gout
def is9 : Bool := decide (f.gout < 1)
end

section
variable (t : T) (s : S) (f : F) (w : World)
theorem safe_view (ht : t.Ok) : Calls Try.prog 36 #[.agg (vcells t s f)] w (Ret (.bool (safeB t s f)) w) := by
  go_enter Try.func36, Try.ntmps36
  go_wp2_with (go_at_call 13; refine (Safe_any s.d t ht _ _ _ _).mono ?_; rintro _ _ ⟨rfl, g, rfl⟩)
  go_ret
  (refine Ret.mk ?_; (repeat' (first | (with_reducible exact Below.refl _ _) | (with_reducible assumption) | (with_reducible refine Ext.up _ ?_) | (with_reducible refine Below.alloc ?_ ?_ _) | (with_reducible refine Below.drew ?_) | (with_reducible refine Below.setCell ?_ ?_ _) | (with_reducible refine Below.setRow_ ?_ ?_ _) | go_size)))
theorem buried_view (x : Int) : Calls Try.prog 38 #[.agg (vcells t s f), .int .i64 x] w (Ret (.bool (buriedB t x)) w) := by
  go_enter Try.func38, Try.ntmps38
  go_wp2
  go_ret
  (refine Ret.mk ?_; (repeat' (first | (with_reducible exact Below.refl _ _) | (with_reducible assumption) | (with_reducible refine Ext.up _ ?_) | (with_reducible refine Below.alloc ?_ ?_ _) | (with_reducible refine Below.drew ?_) | (with_reducible refine Below.setCell ?_ ?_ _) | (with_reducible refine Below.setRow_ ?_ ?_ _) | go_size)))
theorem late_view : Calls Try.prog 43 #[.agg (vcells t s f)] w (Ret (.bool (lateB s f)) w) := by
  go_enter Try.func43, Try.ntmps43
  go_wp2_with (go_at_call 14; refine (Left_any s.d _ _ _ _).mono ?_; rintro _ _ ⟨rfl, g, rfl⟩)
  go_ret
  (refine Ret.mk ?_; (repeat' (first | (with_reducible exact Below.refl _ _) | (with_reducible assumption) | (with_reducible refine Ext.up _ ?_) | (with_reducible refine Below.alloc ?_ ?_ _) | (with_reducible refine Below.drew ?_) | (with_reducible refine Below.setCell ?_ ?_ _) | (with_reducible refine Below.setRow_ ?_ ?_ _) | go_size)))
theorem open_view : Calls Try.prog 42 #[.agg (vcells t s f)] w (Ret (.bool (openB f)) w) := by
  by_cases h : f.back < 1
  · have e : openB f = decide (f.lost < 1) := by simp [openB, h]
    rw [e]
    go_enter Try.func42, Try.ntmps42
    go_wp2
    go_ret
    (refine Ret.mk ?_; (repeat' (first | (with_reducible exact Below.refl _ _) | (with_reducible assumption) | (with_reducible refine Ext.up _ ?_) | (with_reducible refine Below.alloc ?_ ?_ _) | (with_reducible refine Below.drew ?_) | (with_reducible refine Below.setCell ?_ ?_ _) | (with_reducible refine Below.setRow_ ?_ ?_ _) | go_size)))
  · have e : openB f = false := by simp [openB, h]
    rw [e]
    go_enter Try.func42, Try.ntmps42
    go_wp2
    go_ret
    (refine Ret.mk ?_; (repeat' (first | (with_reducible exact Below.refl _ _) | (with_reducible assumption) | (with_reducible refine Ext.up _ ?_) | (with_reducible refine Below.alloc ?_ ?_ _) | (with_reducible refine Below.drew ?_) | (with_reducible refine Below.setCell ?_ ?_ _) | (with_reducible refine Below.setRow_ ?_ ?_ _) | go_size)))
theorem rule1 : Calls Try.prog 34 #[.agg (vcells t s f)] w (Ret (.bool (is1 f)) w) := by
  go_enter Try.func34, Try.ntmps34
  go_wp2
  go_ret
  (refine Ret.mk ?_; (repeat' (first | (with_reducible exact Below.refl _ _) | (with_reducible assumption) | (with_reducible refine Ext.up _ ?_) | (with_reducible refine Below.alloc ?_ ?_ _) | (with_reducible refine Below.drew ?_) | (with_reducible refine Below.setCell ?_ ?_ _) | (with_reducible refine Below.setRow_ ?_ ?_ _) | go_size)))
theorem rule2 (ht : t.Ok) : Calls Try.prog 35 #[.agg (vcells t s f)] w (Ret (.bool (is2 t s f)) w) := by
  go_enter Try.func35, Try.ntmps35
  go_wp2_with (go_at_call 36; refine (safe_view t s f _ ht).mono ?_; rintro _ _ ⟨rfl, g, rfl⟩)
  go_ret
  (refine Ret.mk ?_; (repeat' (first | (with_reducible exact Below.refl _ _) | (with_reducible assumption) | (with_reducible refine Ext.up _ ?_) | (with_reducible refine Below.alloc ?_ ?_ _) | (with_reducible refine Below.drew ?_) | (with_reducible refine Below.setCell ?_ ?_ _) | (with_reducible refine Below.setRow_ ?_ ?_ _) | go_size)))
theorem rule3 : Calls Try.prog 37 #[.agg (vcells t s f)] w (Ret (.bool (is3 t s f)) w) := by
  by_cases h : s.d.role = 1
  · have e : is3 t s f = true := by simp [is3, firstB, h]
    rw [e]
    go_enter Try.func37, Try.ntmps37
    go_wp2
    go_ret
    (refine Ret.mk ?_; (repeat' (first | (with_reducible exact Below.refl _ _) | (with_reducible assumption) | (with_reducible refine Ext.up _ ?_) | (with_reducible refine Below.alloc ?_ ?_ _) | (with_reducible refine Below.drew ?_) | (with_reducible refine Below.setCell ?_ ?_ _) | (with_reducible refine Below.setRow_ ?_ ?_ _) | go_size)))
  · have h' : (s.d.role == 1) = false := by simpa using h
    have e : is3 t s f = buriedB t f.gin := by simp [is3, firstB, h]
    rw [e]
    go_enter Try.func37, Try.ntmps37
    go_wp2_with (go_at_call 38; refine (buried_view t s f _ _).mono ?_; rintro _ _ ⟨rfl, g, rfl⟩)
    go_ret
    (refine Ret.mk ?_; (repeat' (first | (with_reducible exact Below.refl _ _) | (with_reducible assumption) | (with_reducible refine Ext.up _ ?_) | (with_reducible refine Below.alloc ?_ ?_ _) | (with_reducible refine Below.drew ?_) | (with_reducible refine Below.setCell ?_ ?_ _) | (with_reducible refine Below.setRow_ ?_ ?_ _) | go_size)))
theorem rule4 : Calls Try.prog 39 #[.agg (vcells t s f)] w (Ret (.bool (is4 t f)) w) := by
  go_enter Try.func39, Try.ntmps39
  go_wp2_with (go_at_call 38; refine (buried_view t s f _ _).mono ?_; rintro _ _ ⟨rfl, g, rfl⟩)
  go_ret
  (refine Ret.mk ?_; (repeat' (first | (with_reducible exact Below.refl _ _) | (with_reducible assumption) | (with_reducible refine Ext.up _ ?_) | (with_reducible refine Below.alloc ?_ ?_ _) | (with_reducible refine Below.drew ?_) | (with_reducible refine Below.setCell ?_ ?_ _) | (with_reducible refine Below.setRow_ ?_ ?_ _) | go_size)))
theorem rule5 (ht : t.Ok) : Calls Try.prog 40 #[.agg (vcells t s f)] w (Ret (.bool (is5 t s f)) w) := by
  cases hk : s.kn
  · have e : is5 t s f = false := by simp [is5, hk]
    rw [e]
    go_enter Try.func40, Try.ntmps40
    go_wp2
    go_ret
    (refine Ret.mk ?_; (repeat' (first | (with_reducible exact Below.refl _ _) | (with_reducible assumption) | (with_reducible refine Ext.up _ ?_) | (with_reducible refine Below.alloc ?_ ?_ _) | (with_reducible refine Below.drew ?_) | (with_reducible refine Below.setCell ?_ ?_ _) | (with_reducible refine Below.setRow_ ?_ ?_ _) | go_size)))
  by_cases h : s.d.role = 1
  · cases hb : buriedB t f.gin
    · have e : is5 t s f = false := by simp [is5, hk, firstB, h, hb]
      rw [e]
      have hc := fun w => buried_view t s f w f.gin
      rw [hb] at hc
      go_enter Try.func40, Try.ntmps40
      go_wp2_with (go_at_call 38; refine (hc _).mono ?_; rintro _ _ ⟨rfl, g, rfl⟩)
      go_ret
      (refine Ret.mk ?_; (repeat' (first | (with_reducible exact Below.refl _ _) | (with_reducible assumption) | (with_reducible refine Ext.up _ ?_) | (with_reducible refine Below.alloc ?_ ?_ _) | (with_reducible refine Below.drew ?_) | (with_reducible refine Below.setCell ?_ ?_ _) | (with_reducible refine Below.setRow_ ?_ ?_ _) | go_size)))
    · have e : is5 t s f = safeB t s f := by simp [is5, hk, firstB, h, hb]
      rw [e]
      have hc := fun w => buried_view t s f w f.gin
      rw [hb] at hc
      go_enter Try.func40, Try.ntmps40
      go_wp2_with (first | (go_at_call 38; refine (hc _).mono ?_; rintro _ _ ⟨rfl, g, rfl⟩; have sg0 : w.heap.size < g.val.heap.size := (Nat.lt_of_lt_of_le (by go_size) g.size)) | (go_at_call 36; refine (safe_view t s f _ ht).mono ?_; rintro _ _ ⟨rfl, g2, rfl⟩))
      go_ret
      (refine Ret.mk ?_; (repeat' (first | (with_reducible exact Below.refl _ _) | (with_reducible assumption) | (with_reducible refine Ext.up _ ?_) | (with_reducible refine Below.alloc ?_ ?_ _) | (with_reducible refine Below.drew ?_) | (with_reducible refine Below.setCell ?_ ?_ _) | (with_reducible refine Below.setRow_ ?_ ?_ _) | go_size)))
  · have h' : (s.d.role != 1) = true := by simpa using h
    have e : is5 t s f = true := by simp [is5, hk, firstB, h]
    rw [e]
    go_enter Try.func40, Try.ntmps40
    go_wp2
    go_ret
    (refine Ret.mk ?_; (repeat' (first | (with_reducible exact Below.refl _ _) | (with_reducible assumption) | (with_reducible refine Ext.up _ ?_) | (with_reducible refine Below.alloc ?_ ?_ _) | (with_reducible refine Below.drew ?_) | (with_reducible refine Below.setCell ?_ ?_ _) | (with_reducible refine Below.setRow_ ?_ ?_ _) | go_size)))
theorem rule6 : Calls Try.prog 41 #[.agg (vcells t s f)] w (Ret (.bool (is6 s f)) w) := by
  have hc := fun w => open_view t s f w
  cases ho : openB f
  · have e : is6 s f = false := by simp [is6, ho]
    rw [e]
    rw [ho] at hc
    go_enter Try.func41, Try.ntmps41
    go_wp2_with (go_at_call 42; refine (hc _).mono ?_; rintro _ _ ⟨rfl, g, rfl⟩)
    go_ret
    (refine Ret.mk ?_; (repeat' (first | (with_reducible exact Below.refl _ _) | (with_reducible assumption) | (with_reducible refine Ext.up _ ?_) | (with_reducible refine Below.alloc ?_ ?_ _) | (with_reducible refine Below.drew ?_) | (with_reducible refine Below.setCell ?_ ?_ _) | (with_reducible refine Below.setRow_ ?_ ?_ _) | go_size)))
  rw [ho] at hc
  by_cases hp : 0 < f.pin
  · have e : is6 s f = lateB s f := by simp [is6, ho, hp]
    rw [e]
    go_enter Try.func41, Try.ntmps41
    go_wp2_with (first | (go_at_call 42; refine (hc _).mono ?_; rintro _ _ ⟨rfl, g, rfl⟩; have sg0 : w.heap.size < g.val.heap.size := (Nat.lt_of_lt_of_le (by go_size) g.size)) | (go_at_call 43; refine (late_view t s f _).mono ?_; rintro _ _ ⟨rfl, g2, rfl⟩))
    go_ret
    (refine Ret.mk ?_; (repeat' (first | (with_reducible exact Below.refl _ _) | (with_reducible assumption) | (with_reducible refine Ext.up _ ?_) | (with_reducible refine Below.alloc ?_ ?_ _) | (with_reducible refine Below.drew ?_) | (with_reducible refine Below.setCell ?_ ?_ _) | (with_reducible refine Below.setRow_ ?_ ?_ _) | go_size)))
  · have e : is6 s f = false := by simp [is6, ho, hp]
    rw [e]
    go_enter Try.func41, Try.ntmps41
    go_wp2_with (go_at_call 42; refine (hc _).mono ?_; rintro _ _ ⟨rfl, g, rfl⟩; have sg0 : w.heap.size < g.val.heap.size := (Nat.lt_of_lt_of_le (by go_size) g.size))
    go_ret
    (refine Ret.mk ?_; (repeat' (first | (with_reducible exact Below.refl _ _) | (with_reducible assumption) | (with_reducible refine Ext.up _ ?_) | (with_reducible refine Below.alloc ?_ ?_ _) | (with_reducible refine Below.drew ?_) | (with_reducible refine Below.setCell ?_ ?_ _) | (with_reducible refine Below.setRow_ ?_ ?_ _) | go_size)))
theorem rule7 (ht : t.Ok) : Calls Try.prog 44 #[.agg (vcells t s f)] w (Ret (.bool (is7 t s f)) w) := by
  have hc := fun w => open_view t s f w
  cases ho : openB f
  · have e : is7 t s f = false := by simp [is7, ho]
    rw [e]
    rw [ho] at hc
    go_enter Try.func44, Try.ntmps44
    go_wp2_with (go_at_call 42; refine (hc _).mono ?_; rintro _ _ ⟨rfl, g, rfl⟩)
    go_ret
    (refine Ret.mk ?_; (repeat' (first | (with_reducible exact Below.refl _ _) | (with_reducible assumption) | (with_reducible refine Ext.up _ ?_) | (with_reducible refine Below.alloc ?_ ?_ _) | (with_reducible refine Below.drew ?_) | (with_reducible refine Below.setCell ?_ ?_ _) | (with_reducible refine Below.setRow_ ?_ ?_ _) | go_size)))
  rw [ho] at hc
  by_cases hp : f.pin < 1
  · have e : is7 t s f = safeB t s f := by simp [is7, ho, hp]
    rw [e]
    go_enter Try.func44, Try.ntmps44
    go_wp2_with (first | (go_at_call 42; refine (hc _).mono ?_; rintro _ _ ⟨rfl, g, rfl⟩; have sg0 : w.heap.size < g.val.heap.size := (Nat.lt_of_lt_of_le (by go_size) g.size)) | (go_at_call 36; refine (safe_view t s f _ ht).mono ?_; rintro _ _ ⟨rfl, g2, rfl⟩))
    go_ret
    (refine Ret.mk ?_; (repeat' (first | (with_reducible exact Below.refl _ _) | (with_reducible assumption) | (with_reducible refine Ext.up _ ?_) | (with_reducible refine Below.alloc ?_ ?_ _) | (with_reducible refine Below.drew ?_) | (with_reducible refine Below.setCell ?_ ?_ _) | (with_reducible refine Below.setRow_ ?_ ?_ _) | go_size)))
  · have e : is7 t s f = false := by simp [is7, ho, hp]
    rw [e]
    go_enter Try.func44, Try.ntmps44
    go_wp2_with (go_at_call 42; refine (hc _).mono ?_; rintro _ _ ⟨rfl, g, rfl⟩; have sg0 : w.heap.size < g.val.heap.size := (Nat.lt_of_lt_of_le (by go_size) g.size))
    go_ret
    (refine Ret.mk ?_; (repeat' (first | (with_reducible exact Below.refl _ _) | (with_reducible assumption) | (with_reducible refine Ext.up _ ?_) | (with_reducible refine Below.alloc ?_ ?_ _) | (with_reducible refine Below.drew ?_) | (with_reducible refine Below.setCell ?_ ?_ _) | (with_reducible refine Below.setRow_ ?_ ?_ _) | go_size)))
theorem rule8 : Calls Try.prog 45 #[.agg (vcells t s f)] w (Ret (.bool (is8 t f)) w) := by
  go_enter Try.func45, Try.ntmps45
  go_wp2_with (go_at_call 38; refine (buried_view t s f _ _).mono ?_; rintro _ _ ⟨rfl, g, rfl⟩)
  go_ret
  (refine Ret.mk ?_; (repeat' (first | (with_reducible exact Below.refl _ _) | (with_reducible assumption) | (with_reducible refine Ext.up _ ?_) | (with_reducible refine Below.alloc ?_ ?_ _) | (with_reducible refine Below.drew ?_) | (with_reducible refine Below.setCell ?_ ?_ _) | (with_reducible refine Below.setRow_ ?_ ?_ _) | go_size)))
theorem rule9 : Calls Try.prog 46 #[.agg (vcells t s f)] w (Ret (.bool (is9 f)) w) := by
  go_enter Try.func46, Try.ntmps46
  go_wp2
  go_ret
  (refine Ret.mk ?_; (repeat' (first | (with_reducible exact Below.refl _ _) | (with_reducible assumption) | (with_reducible refine Ext.up _ ?_) | (with_reducible refine Below.alloc ?_ ?_ _) | (with_reducible refine Below.drew ?_) | (with_reducible refine Below.setCell ?_ ?_ _) | (with_reducible refine Below.setRow_ ?_ ?_ _) | go_size)))
theorem always_view : Calls Try.prog 24 #[.agg (vcells t s f)] w (Ret (.bool true) w) := by
  go_enter Try.func24, Try.ntmps24
  go_wp2
  go_ret
  (refine Ret.mk ?_; (repeat' (first | (with_reducible exact Below.refl _ _) | (with_reducible assumption) | (with_reducible refine Ext.up _ ?_) | (with_reducible refine Below.alloc ?_ ?_ _) | (with_reducible refine Below.drew ?_) | (with_reducible refine Below.setCell ?_ ?_ _) | (with_reducible refine Below.setRow_ ?_ ?_ _) | go_size)))
end
end Go.Proofs.Ytmhbkiabndookaa
