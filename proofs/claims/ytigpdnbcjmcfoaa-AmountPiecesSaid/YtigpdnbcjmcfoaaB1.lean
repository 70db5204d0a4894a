/- What is proved: what amount.must does with a slice of ints, and caught where a frame panics or returns. No condition. -/
import Derived.Test.YtigpdnbcjmcfoaaBytes
import Derived.Test.YtigpdnbcjmcfoaaRow
import Derived.Test.YtigpdnbcjmcfoaaChecked
import Derived.WalkSpells
import Derived.WalkLawsBesides
import Derived.Handy
import Derived.Maps.AppendAt
import Derived.Defers
import Derived.Recover
namespace Go.Proofs.Ytigpdnbcjmcfoaa
open Go.RowKit
attribute [local go_sem ↓] cutA_zero

/-- The values of ints. -/
def its (l : List Int) : List Value := l.map fun (n : Int) => Value.int .i64 n
theorem its_length (l : List Int) : (its l).length = l.length := by simp [its]
theorem its_append (l k : List Int) : its (l ++ k) = its l ++ its k := by simp [its]
theorem its_get (l : List Int) (j : Nat) : (its l)[j]? = (l[j]?).map fun (n : Int) => Value.int .i64 n := by unfold its; rw [List.getElem?_map]
theorem its_one (l : List Int) : ∀ u ∈ its l, u.oneCell' = true := by intro u hu; simp only [its, List.mem_map] at hu; obtain ⟨n, _, rfl⟩ := hu; rfl
theorem elemI : Elem Try.prog 22 3 1 := Elem.mk' Try.underlying22 (by kernel_rfl) (z := .int .i64 0) (bytes := 8) rfl (by decide) (by decide)

def isA (a : Int) : Prop := 0 ≤ a ∧ a ≤ 1125899906842624
instance (a : Int) : Decidable (isA a) := inferInstanceAs (Decidable (_ ∧ _))
def allA (l : List Int) : Bool := l.all fun a => decide (isA a)
theorem allA_take {l : List Int} {j : Nat} {x : Int} (h : l[j]? = some x) : allA (l.take (j + 1)) = (allA (l.take j) && decide (isA x)) := by
  unfold allA; rw [List.take_add_one, h]; simp [List.all_append]
theorem allA_not {l : List Int} {j : Nat} {x : Int} (h : l[j]? = some x) (hx : ¬ isA x) : allA l = false := by
  unfold allA; rw [List.all_eq_false]; exact ⟨x, List.mem_of_getElem? h, by simpa using hx⟩

/-- What must does: it hands nothing back, or panics. -/
def RetM (l : List Int) (w : World) : Ending → World → Prop := fun e w' => (e = if allA l then .returned (.tuple #[]) else .panicked [{ v := .iface 25 (.int .i64 15), recovered := false }]) ∧ ∃ g : Ext w, w' = g.val

theorem Check_yes {a : Int} (h : isA a) (w : World) : Calls Try.prog 20 #[.int .i64 a] w (Ret (.int .i64 0) w) := by
  have h1 : ¬ a < 0 := by have := h.1; omega
  have h2 : ¬ a > 1125899906842624 := by have := h.2; omega
  go_enter Try.func20, Try.ntmps20
  go_wp2
  go_ret
  (refine Ret.mk ?_; (repeat' (first | (with_reducible exact Below.refl _ _) | (with_reducible assumption) | (with_reducible refine Ext.up _ ?_) | (with_reducible refine Below.alloc ?_ ?_ _) | (with_reducible refine Below.drew ?_) | (with_reducible refine Below.setCell ?_ ?_ _) | (with_reducible refine Below.setRow_ ?_ ?_ _) | go_size)))
theorem Check_no {a : Int} (h : ¬ isA a) (w : World) : Calls Try.prog 20 #[.int .i64 a] w (Ret (.int .i64 15) w) := by
  by_cases h1 : a < 0
  · go_enter Try.func20, Try.ntmps20
    go_wp2
    go_ret
    (refine Ret.mk ?_; (repeat' (first | (with_reducible exact Below.refl _ _) | (with_reducible assumption) | (with_reducible refine Ext.up _ ?_) | (with_reducible refine Below.alloc ?_ ?_ _) | (with_reducible refine Below.drew ?_) | (with_reducible refine Below.setCell ?_ ?_ _) | (with_reducible refine Below.setRow_ ?_ ?_ _) | go_size)))
  · have h2 : a > 1125899906842624 := by apply Classical.byContradiction; intro hc; exact h ⟨by omega, by omega⟩
    go_enter Try.func20, Try.ntmps20
    go_wp2
    go_ret
    (refine Ret.mk ?_; (repeat' (first | (with_reducible exact Below.refl _ _) | (with_reducible assumption) | (with_reducible refine Ext.up _ ?_) | (with_reducible refine Below.alloc ?_ ?_ _) | (with_reducible refine Below.drew ?_) | (with_reducible refine Below.setCell ?_ ?_ _) | (with_reducible refine Below.setRow_ ?_ ?_ _) | go_size)))

set_option maxHeartbeats 1000000 in
theorem must_any {w : World} {ao : Option Addr} {n c : Nat} {l : List Int} (hl : Sl w ao n c (its l)) (hn : n < 1099511627776) : Calls Try.prog 38 #[.slice ao n c] w (RetM l w) := by
  have hln : l.length = n := by rw [← hl.len, its_length]
  go_enter Try.func38, Try.ntmps38
  go_wp2
  go_loopw [6] (fun i wr => ∃ j : Nat, j ≤ n ∧ i = .int .i64 j ∧ allA (l.take j) = true ∧ Below w.heap.size w wr) (fun i _ => n - (intOf i).toNat)
  case atStart => exact ⟨0, by omega, rfl, rfl, by (repeat' (first | (with_reducible exact Below.refl _ _) | (with_reducible assumption) | (with_reducible refine Ext.up _ ?_) | (with_reducible refine Below.alloc ?_ ?_ _) | (with_reducible refine Below.drew ?_) | (with_reducible refine Below.setCell ?_ ?_ _) | (with_reducible refine Below.setRow_ ?_ ?_ _) | go_size))⟩
  case round =>
    obtain ⟨j, hj, rfl, hall, hb⟩ := hrel
    by_cases hlt : j < n
    · obtain ⟨b, o, rfl, hbw, hc⟩ := hl.at (by omega)
      obtain ⟨x, hjx⟩ : ∃ x, l[j]? = some x := ⟨_, List.getElem?_eq_getElem (by omega)⟩
      have hx := hc j _ (by rw [its_get, hjx]; rfl)
      rw [← hb.cell (by exact hbw)] at hx
      have ht := allA_take hjx
      by_cases hxa : isA x
      · go_wp2_with (go_at_call 20; refine (Check_yes hxa _).mono ?_; rintro _ _ ⟨rfl, g, rfl⟩)
        go_roundw
        case rel => exact ⟨j + 1, by omega, rfl, by rw [ht, hall]; simpa using hxa, by (repeat' (first | (with_reducible exact Below.refl _ _) | (with_reducible assumption) | (with_reducible refine Ext.up _ ?_) | (with_reducible refine Below.alloc ?_ ?_ _) | (with_reducible refine Below.drew ?_) | (with_reducible refine Below.setCell ?_ ?_ _) | (with_reducible refine Below.setRow_ ?_ ?_ _) | go_size))⟩
        case measure => simp [intOf]; omega
      · have hno := allA_not hjx hxa
        go_wp2_with (go_at_call 20; refine (Check_no hxa _).mono ?_; rintro _ _ ⟨rfl, g, rfl⟩)
        refine ⟨rfl, ?_⟩
        exact ⟨by rw [hno]; rfl, ⟨g.val, by (repeat' (first | (with_reducible exact Below.refl _ _) | (with_reducible assumption) | (with_reducible refine Ext.up _ ?_) | (with_reducible refine Below.alloc ?_ ?_ _) | (with_reducible refine Below.drew ?_) | (with_reducible refine Below.setCell ?_ ?_ _) | (with_reducible refine Below.setRow_ ?_ ?_ _) | go_size))⟩, rfl⟩
    · go_wp2
      obtain rfl : j = n := by omega
      rw [← hln, List.take_length] at hall
      go_end0
      exact ⟨by rw [hall]; rfl, ⟨_, hb⟩, rfl⟩
theorem caught_panicking (p q : Addr) (x y : Value) (u : TypeId) (pv : Value) (older : List PanicEntry) (w : World) (hc : w.cell? p = some x) (hz : w.frozen? p = false) (hc2 : w.cell? q = some y) (hz2 : w.frozen? q = false) (hpq : ¬ p = q) :
    CallsD Try.prog 37 #[.pointer (some p), .pointer (some q)] (.panicking ({ v := .iface u pv, recovered := false } :: older)) w fun e u' w' =>
      e = .returned (.tuple #[]) ∧ u' = .panicking ({ v := .iface u pv, recovered := true } :: older) ∧ w' = (w.setCell p (.int .i64 0)).setCell q (.int .i64 15) := by
  refine callsD_of_wpS Try.func37 rfl fun c₀ cs hu => ?_
  apply wpS_seq
  apply wpS_region
  simp [wpOpsS, go_sem, recoverD, hu, Try.ntmps37, Exit.thenS]
  apply wpS_seq
  apply wpS_region
  simp [wpOpsS, go_sem, Exit.thenS]
  refine wpS_cond (t := true) (by simp [Act.eval, Array.replicate]) ?_
  simp only [if_true]
  apply wpS_region
  have hc3 : (w.setCell p (.int .i64 0)).cell? q = some y := by rw [World.cell?_setCell_other _ _ _ _ hpq]; exact hc2
  simp [wpOpsS, go_sem, hc, hz, hc3, hz2, bodyPostS, results, Try.results37]

theorem caught_idle (p q : Addr) (w : World) :
    CallsD Try.prog 37 #[.pointer (some p), .pointer (some q)] .returning w fun e u' w' => e = .returned (.tuple #[]) ∧ u' = .returning ∧ w' = w := by
  refine callsD_of_wpS Try.func37 rfl fun c₀ cs hu => ?_
  apply wpS_seq
  apply wpS_region
  simp [wpOpsS, go_sem, recoverD, hu, Try.ntmps37, Exit.thenS]
  apply wpS_seq
  apply wpS_region
  simp [wpOpsS, go_sem, Exit.thenS]
  refine wpS_cond (t := false) (by simp [Act.eval, Array.replicate]) ?_
  simp only [Bool.false_eq_true, if_false]
  refine wpS_of_wp (wp_skip ?_)
  cases c₀
  simp_all [bodyPostS, results, Try.results37]

def sumV (a b : Int) : Int × Int := if isA a ∧ isA b ∧ isA (a + b) then (a + b, 0) else (0, 15)
def subV (a b : Int) : Int × Int := if isA a ∧ isA b ∧ isA (a - b) then (a - b, 0) else (0, 15)
def pairV (p : Int × Int) : Value := .tuple #[.int .i64 p.1, .int .i64 p.2]

theorem built_at (w : World) (l : List Int) (t : TypeId) (h : l.length ≤ maxLen) {cs : Array Value} (hcs : cs = (its l).toArray) {k n : Nat} (hk : k = w.heap.size) (hn : n = l.length) : Sl (w.alloc (.cells cs t)) (some ⟨k, 0, none⟩) n n (its l) := by
  subst hk hcs hn
  have := Sl.own (own_new w 0 t (its l).toArray (Nat.zero_le _) (by simpa [its_length] using h))
  simpa [its_length] using this
theorem must_ok {w : World} {ao : Option Addr} {n c : Nat} {l : List Int} (hl : Sl w ao n c (its l)) (hn : n < 1099511627776) (h : allA l = true) : Calls Try.prog 38 #[.slice ao n c] w (Ret (.tuple #[]) w) :=
  (must_any hl hn).mono fun e w' ⟨he, g, hg⟩ => by rw [h] at he; exact ⟨he, g, hg⟩
theorem must_bad {w : World} {ao : Option Addr} {n c : Nat} {l : List Int} (hl : Sl w ao n c (its l)) (hn : n < 1099511627776) (h : allA l = false) : Calls Try.prog 38 #[.slice ao n c] w (fun e w' => e = .panicked [{ v := .iface 25 (.int .i64 15), recovered := false }] ∧ ∃ g : Ext w, w' = g.val) :=
  (must_any hl hn).mono fun e w' ⟨he, g, hg⟩ => by rw [h] at he; exact ⟨he, g, hg⟩

/-- Two variables that a call made, and what they hold. -/
structure Two (w W : World) (x y : Value) : Prop where
  c0 : W.cell? ⟨w.heap.size, 0, none⟩ = some x
  f0 : W.frozen? ⟨w.heap.size, 0, none⟩ = false
  c1 : W.cell? ⟨w.heap.size + 1, 0, none⟩ = some y
  f1 : W.frozen? ⟨w.heap.size + 1, 0, none⟩ = false
  below : Below w.heap.size w W
  size : w.heap.size + 1 < W.heap.size
theorem Two.mk2 (w : World) (x y : Value) (t u : TypeId) : Two w ((w.alloc (.cells #[x] t)).alloc (.cells #[y] u)) x y where
  c0 := by simp [go_sem]
  f0 := by simp [go_sem]
  c1 := by
    have := World.cell?_alloc_new (w.alloc (.cells #[x] t)) #[y] u
    simp [go_sem]
  f1 := by simp [go_sem]
  below := ((Below.refl _ _).alloc (Nat.le_refl _) _).alloc (by simp) _
  size := by simp
theorem Two.ext {w W : World} {x y : Value} (h : Two w W x y) (g : Ext W) : Two w g.val x y where
  c0 := (g.cell _ _ (by have := h.size; omega)).trans h.c0
  f0 := (g.frozen _ _ (by have := h.size; omega)).trans h.f0
  c1 := (g.cell _ _ h.size).trans h.c1
  f1 := (g.frozen _ _ h.size).trans h.f1
  below := g.up h.below
  size := Nat.lt_of_lt_of_le h.size g.size
theorem Two.alloc {w W : World} {x y : Value} (h : Two w W x y) (o : Obj) : Two w (W.alloc o) x y := h.ext (Ext.of ((Below.refl _ _).alloc (Nat.le_refl _) o))
theorem Two.set0 {w W : World} {x y : Value} (h : Two w W x y) (v : Value) : Two w (W.setCell ⟨w.heap.size, 0, none⟩ v) v y where
  c0 := by simp [go_sem, h.c0]
  f0 := by rw [World.frozen?_setCell]; exact h.f0
  c1 := by rw [World.cell?_setCell_other _ _ _ _ (by simp)]; exact h.c1
  f1 := by rw [World.frozen?_setCell]; exact h.f1
  below := h.below.setCell (Nat.le_refl _) _
  size := by simpa [World.setCell] using h.size
theorem Two.set1 {w W : World} {x y : Value} (h : Two w W x y) (v : Value) : Two w (W.setCell ⟨w.heap.size + 1, 0, none⟩ v) x v where
  c0 := by rw [World.cell?_setCell_other _ _ _ _ (by simp)]; exact h.c0
  f0 := by rw [World.frozen?_setCell]; exact h.f0
  c1 := by simp [go_sem, h.c1]
  f1 := by rw [World.frozen?_setCell]; exact h.f1
  below := h.below.setCell (by simp) _
  size := by simpa [World.setCell] using h.size
theorem Two.caught {w W : World} {x y : Value} (h : Two w W x y) (u : TypeId) (pv : Value) : CallsD Try.prog 37 #[.pointer (some ⟨w.heap.size, 0, none⟩), .pointer (some ⟨w.heap.size + 1, 0, none⟩)] (.panicking [{ v := .iface u pv, recovered := false }]) W fun e u' w' =>
    e = .returned (.tuple #[]) ∧ u' = .panicking [{ v := .iface u pv, recovered := true }] ∧ Two w w' (.int .i64 0) (.int .i64 15) :=
  (caught_panicking _ _ x y u pv [] W h.c0 h.f0 h.c1 h.f1 (by simp)).mono fun e u' w' ⟨he, hu, hw⟩ => ⟨he, hu, by rw [hw]; exact (h.set0 _).set1 _⟩

theorem Add_any (a b : Int) (w : World) : Calls Try.prog 18 #[.int .i64 a, .int .i64 b] w (Ret (pairV (sumV a b)) w) := by
  have T0 := Two.mk2 w (.int .i64 0) (.int .i64 0) 3 25
  by_cases h1 : isA a ∧ isA b
  · obtain ⟨ha, hb⟩ := h1
    have hall : allA [a, b] = true := by simp [allA, ha, hb]
    have e1 : IntKind.i64.wrap (a + b) = a + b := by rw [IntKind.wrap_i64]; have := ha.1; have := ha.2; have := hb.1; have := hb.2; omega
    by_cases h2 : isA (a + b)
    · have hall2 : allA [a + b] = true := by simp [allA, h2]
      have hv : sumV a b = (a + b, 0) := if_pos ⟨ha, hb, h2⟩
      rw [hv]
      go_enter_defers Try.func18, Try.ntmps18
      go_wp2_with fail
      refine (must_ok (built_at _ [a, b] _ (by simp [maxLen]) rfl (by simp) rfl) (by simp) hall).mono ?_
      rintro _ _ ⟨rfl, g, rfl⟩
      have T1 := (T0.alloc (.cells (its [a, b]).toArray 3)).ext g
      go_wp2_with fail
      refine (must_ok (built_at _ [a + b] _ (by simp [maxLen]) rfl rfl rfl) (by simp) hall2).mono ?_
      rintro _ _ ⟨rfl, g2, rfl⟩
      have T2 := (T1.alloc (.cells (its [a + b]).toArray 3)).ext g2
      have c0 := T2.c0
      have f0 := T2.f0
      have c1 := (T2.set0 (.int .i64 (a + b))).c1
      have f1 := T2.f1
      go_wp2_with fail
      have T3 := (T2.set0 (.int .i64 (a + b))).set1 (.int .i64 0)
      clear c0 c1
      refine leaves_cons (f := 37) (args := #[.pointer (some ⟨w.heap.size, 0, none⟩), .pointer (some ⟨w.heap.size + 1, 0, none⟩)]) (by simp) (by simp [go_sem]) ?_
      refine (caught_idle _ _ _).mono ?_
      rintro e u' w'' ⟨rfl, rfl, rfl⟩
      have c0 := T3.c0
      have c1 := T3.c1
      simp [Leaves, settle, results, Try.results18, go_sem, c0, c1]
      exact Ret.mk T3.below
    · have hall2 : allA [a + b] = false := by simp [allA, h2]
      have hv : sumV a b = (0, 15) := if_neg (fun h => h2 h.2.2)
      rw [hv]
      go_enter_defers Try.func18, Try.ntmps18
      go_wp2_with fail
      refine (must_ok (built_at _ [a, b] _ (by simp [maxLen]) rfl (by simp) rfl) (by simp) hall).mono ?_
      rintro _ _ ⟨rfl, g, rfl⟩
      have T1 := (T0.alloc (.cells (its [a, b]).toArray 3)).ext g
      go_wp2_with fail
      refine (must_bad (built_at _ [a + b] _ (by simp [maxLen]) rfl rfl rfl) (by simp) hall2).mono ?_
      rintro _ _ ⟨rfl, g2, rfl⟩
      have T2 := (T1.alloc (.cells (its [a + b]).toArray 3)).ext g2
      simp only []
      refine leaves_cons (f := 37) (args := #[.pointer (some ⟨w.heap.size, 0, none⟩), .pointer (some ⟨w.heap.size + 1, 0, none⟩)]) (by simp) (by simp [go_sem]) ?_
      refine (T2.caught _ _).mono ?_
      rintro e u' w'' ⟨rfl, rfl, TE⟩
      have c0 := TE.c0
      have c1 := TE.c1
      simp [Leaves, settle, results, Try.results18, go_sem, c0, c1]
      exact Ret.mk TE.below
  · have hall : allA [a, b] = false := by
      cases h : allA [a, b] with
      | false => rfl
      | true => simp [allA] at h; exact absurd h h1
    have hv : sumV a b = (0, 15) := if_neg (fun h => h1 ⟨h.1, h.2.1⟩)
    rw [hv]
    go_enter_defers Try.func18, Try.ntmps18
    go_wp2_with fail
    refine (must_bad (built_at _ [a, b] _ (by simp [maxLen]) rfl (by simp) rfl) (by simp) hall).mono ?_
    rintro _ _ ⟨rfl, g, rfl⟩
    have T1 := (T0.alloc (.cells (its [a, b]).toArray 3)).ext g
    simp only []
    refine leaves_cons (f := 37) (args := #[.pointer (some ⟨w.heap.size, 0, none⟩), .pointer (some ⟨w.heap.size + 1, 0, none⟩)]) (by simp) (by simp [go_sem]) ?_
    refine (T1.caught _ _).mono ?_
    rintro e u' w'' ⟨rfl, rfl, TE⟩
    have c0 := TE.c0
    have c1 := TE.c1
    simp [Leaves, settle, results, Try.results18, go_sem, c0, c1]
    exact Ret.mk TE.below

theorem Sub_any (a b : Int) (w : World) : Calls Try.prog 19 #[.int .i64 a, .int .i64 b] w (Ret (pairV (subV a b)) w) := by
  have T0 := Two.mk2 w (.int .i64 0) (.int .i64 0) 3 25
  by_cases h1 : isA a ∧ isA b ∧ isA (a - b)
  · obtain ⟨ha, hb, hd⟩ := h1
    have hall : allA [a, b, a - b] = true := by simp [allA, ha, hb, hd]
    have e1 : IntKind.i64.wrap (a - b) = a - b := by rw [IntKind.wrap_i64]; have := ha.1; have := ha.2; have := hb.1; have := hb.2; omega
    have hv : subV a b = (a - b, 0) := if_pos ⟨ha, hb, hd⟩
    rw [hv]
    go_enter_defers Try.func19, Try.ntmps19
    go_wp2_with fail
    refine (must_ok (built_at _ [a, b, a - b] _ (by simp [maxLen]) rfl (by simp) rfl) (by simp) hall).mono ?_
    rintro _ _ ⟨rfl, g, rfl⟩
    have T2 := (T0.alloc (.cells (its [a, b, a - b]).toArray 3)).ext g
    have c0 := T2.c0
    have f0 := T2.f0
    have c1 := (T2.set0 (.int .i64 (a - b))).c1
    have f1 := T2.f1
    go_wp2_with fail
    have T3 := (T2.set0 (.int .i64 (a - b))).set1 (.int .i64 0)
    clear c0 c1
    refine leaves_cons (f := 37) (args := #[.pointer (some ⟨w.heap.size, 0, none⟩), .pointer (some ⟨w.heap.size + 1, 0, none⟩)]) (by simp) (by simp [go_sem]) ?_
    refine (caught_idle _ _ _).mono ?_
    rintro e u' w'' ⟨rfl, rfl, rfl⟩
    have c0 := T3.c0
    have c1 := T3.c1
    simp [Leaves, settle, results, Try.results19, go_sem, c0, c1]
    exact Ret.mk T3.below
  · have hall : ∀ d : Int, ((isA a ∧ isA b) → d = a - b) → allA [a, b, d] = false := fun d hd => by
      cases h : allA [a, b, d] with
      | false => rfl
      | true =>
        simp [allA] at h
        rw [hd ⟨h.1, h.2.1⟩] at h
        exact absurd h h1
    have hv : subV a b = (0, 15) := if_neg h1
    rw [hv]
    have hw : (isA a ∧ isA b) → IntKind.i64.wrap (a - b) = a - b := fun h => by rw [IntKind.wrap_i64]; have := h.1.1; have := h.1.2; have := h.2.1; have := h.2.2; omega
    have hall := hall _ hw
    generalize hd : IntKind.i64.wrap (a - b) = d at hall
    clear hw h1
    go_enter_defers Try.func19, Try.ntmps19
    go_wp2_with fail
    refine (must_bad (built_at _ [a, b, d] _ (by simp [maxLen]) rfl (by simp) rfl) (by simp) hall).mono ?_
    rintro _ _ ⟨rfl, g, rfl⟩
    have T1 := (T0.alloc (.cells (its [a, b, d]).toArray 3)).ext g
    simp only []
    refine leaves_cons (f := 37) (args := #[.pointer (some ⟨w.heap.size, 0, none⟩), .pointer (some ⟨w.heap.size + 1, 0, none⟩)]) (by simp) (by simp [go_sem]) ?_
    refine (T1.caught _ _).mono ?_
    rintro e u' w'' ⟨rfl, rfl, TE⟩
    have c0 := TE.c0
    have c1 := TE.c1
    simp [Leaves, settle, results, Try.results19, go_sem, c0, c1]
    exact Ret.mk TE.below
end Go.Proofs.Ytigpdnbcjmcfoaa
