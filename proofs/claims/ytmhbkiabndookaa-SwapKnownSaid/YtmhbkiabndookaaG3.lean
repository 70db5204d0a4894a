/- What is proved: the walk of SwapCares of layer 23. No condition. -/
import Derived.Test.YtmhbkiabndookaaG2
import Derived.Deep.DeepCutAuto
namespace Go.Proofs.Ytmhbkiabndookaa
open Go.RowKit

theorem Out.of {t : T} {s s' : S} {f : F} {tm k : Bool} {m q : Int} (hd : s'.d = s.d) (hs : s'.st = s.st) (h : Out t s' f tm k m q) : Out t s f tm k m q := by
  obtain ⟨d, st, kn, se⟩ := s
  obtain ⟨d', st', kn', se'⟩ := s'
  obtain rfl : d' = d := hd
  obtain rfl : st' = st := hs
  cases h with
  | wait _ h => exact .wait _ h
  | rest h => exact .rest h
  | fin _ h h' => exact .fin _ h h'
  | lock1 h1 h2 h3 => exact .lock1 h1 h2 h3
  | lock2 h1 h2 h3 h4 => exact .lock2 h1 h2 h3 h4
  | lock3 h1 h2 h3 h4 h5 => exact .lock3 h1 h2 h3 h4 h5
  | claim1 h1 => exact .claim1 h1
  | claim2 h1 h2 h3 => exact .claim2 h1 h2 h3
  | claim3 h1 h2 h3 h4 h5 => exact .claim3 h1 h2 h3 h4 h5
  | refund h1 h2 h3 h4 h5 => exact .refund h1 h2 h3 h4 h5
/-- What is known of the secret behind a move. -/
def Know (s : S) (f : F) (n : S) : Prop := (s.kn = true ∧ n.kn = true ∧ n.se = s.se) ∨ (s.kn = false ∧ f.seen = false ∧ n.kn = false) ∨ (s.kn = false ∧ f.seen = true ∧ n.kn = true)
theorem next_form (t : T) (s : S) (f : F) : Out t s f (safeB t s f) (s.next t f).2.kn (s.next t f).1 (s.next t f).2.st ∧ (s.next t f).2.d = s.d ∧ Know s f (s.next t f).2 ∧
    ∀ w, Calls Try.prog 15 #[.int .i64 s.st, .int .i64 (s.next t f).2.st] w (Ret (.bool true) w) := by
  have hp := next_pair t s f
  have ho := step_out t (s.seen f) f (safeB t (s.seen f) f)
  have hg := step_goes t (s.seen f) f (safeB t (s.seen f) f)
  have e1 : (s.seen f).d = s.d := by unfold S.seen; split <;> rfl
  have e2 : (s.seen f).st = s.st := by unfold S.seen; split <;> rfl
  have e3 : safeB t (s.seen f) f = safeB t s f := by unfold safeB; rw [e1]
  rw [e3] at ho hg hp
  rw [e2] at hg
  rw [hp]
  refine ⟨Out.of e1 e2 ho, e1, ?_, hg⟩
  cases h1 : s.kn
  · cases h2 : f.seen
    · exact .inr (.inl ⟨h1, h2, by rw [seen_no2 s h2]; exact h1⟩)
    · exact .inr (.inr ⟨h1, h2, by rw [seen_yes h1 h2]⟩)
  · exact .inl ⟨h1, by rw [seen_no1 f h1]; exact h1, by rw [seen_no1 f h1]⟩

attribute [local go_sem ↓] rowOf_cell
set_option maxRecDepth 100000 in
set_option maxHeartbeats 4000000 in
theorem SwapCares_walk (t : T) (s : S) (f : F) (w : World) : Calls Try.prog 4 #[.agg t.cells, .agg s.cells, .agg f.cells] w (Ret (.bool true) w) := by
  have k0 : Kp w [(w.heap.size + 1 + 1, f.cells), (w.heap.size + 1, s.cells), (w.heap.size, t.cells)] (((w.alloc (.cells t.cells 23)).alloc (.cells s.cells 31)).alloc (.cells f.cells 34)) := by
    have := (((Kp.first w).alloc t.cells 23).alloc s.cells 31).alloc f.cells 34
    simpa using this
  by_cases hr : t.right
  · have ht := hr.ok
    have hcR := fun w => Right_yes t hr w
    have hN := fun w => Next_any t ht s f w
    have hS := fun w => Safe_any s.d t ht f.a f.b f.c w
    have hL := fun w => Left_any s.d f.a f.b f.c w
    obtain ⟨ho, hd, hk, hg⟩ := next_form t s f
    have hO := fun w => Over_any (s.next t f).2 w
    have hO' := fun w => Over_any s w
    clear hr
    generalize (s.next t f).1 = m at *
    generalize (s.next t f).2 = n at *
    generalize hq : n.st = q at *
    go_enter Try.func4, Try.ntmps4
    go_wp2_with fail
    refine at_calls (Kp w _) k0 (fun W1 k1 => ?_)
    clear k0
    refine (hcR _).mono ?_
    rintro _ _ ⟨rfl, g1, rfl⟩
    have k2 := k1.ext g1
    have R0 : rowOf g1.val w.heap.size = t.cells := (k2.row (_, t.cells) (by simp)).1
    have R1 : rowOf g1.val (w.heap.size + 1) = s.cells := (k2.row (_, s.cells) (by simp)).1
    have R2 : rowOf g1.val (w.heap.size + 1 + 1) = f.cells := (k2.row (_, f.cells) (by simp)).1
    clear k1
    generalize g1.val = W2 at *
    clear g1
    go_wp2_with fail
    refine (hN _).mono ?_
    rintro _ _ ⟨rfl, g2, rfl⟩
    have k3 := (k2.ext g2).store S.zero.cells n.cells 31
    clear R0 R1 R2 k2
    have R0 : rowOf _ w.heap.size = t.cells := (k3.row (w.heap.size, t.cells) (by simp)).1
    have R1 : rowOf _ (w.heap.size + 1) = s.cells := (k3.row (w.heap.size + 1, s.cells) (by simp)).1
    have R2 : rowOf _ (w.heap.size + 1 + 1) = f.cells := (k3.row (w.heap.size + 1 + 1, f.cells) (by simp)).1
    go_wp2_with fail
    refine (hS _).mono ?_
    rintro _ _ ⟨rfl, g3, rfl⟩
    have k4 := k3.ext g3
    clear R0 R1 R2 k3
    have R0 : rowOf g3.val w.heap.size = t.cells := (k4.row (w.heap.size, t.cells) (by simp)).1
    have R1 : rowOf g3.val (w.heap.size + 1) = s.cells := (k4.row (w.heap.size + 1, s.cells) (by simp)).1
    have R2 : rowOf g3.val (w.heap.size + 1 + 1) = f.cells := (k4.row (w.heap.size + 1 + 1, f.cells) (by simp)).1
    go_wp2_with fail
    refine (hL _).mono ?_
    rintro _ _ ⟨rfl, g4, rfl⟩
    have k5 := k4.ext g4
    clear R0 R1 R2 k4
    have R0 : rowOf g4.val w.heap.size = t.cells := (k5.row (w.heap.size, t.cells) (by simp)).1
    have R1 : rowOf g4.val (w.heap.size + 1) = s.cells := (k5.row (w.heap.size + 1, s.cells) (by simp)).1
    have R2 : rowOf g4.val (w.heap.size + 1 + 1) = f.cells := (k5.row (w.heap.size + 1 + 1, f.cells) (by simp)).1
    have R3 : rowOf g4.val g2.val.heap.size = n.cells := (k5.row (g2.val.heap.size, n.cells) (by simp)).1
    generalize g4.val = W4 at *
    generalize g2.val.heap.size = i2 at *
    generalize hx : s.d.safe t f.a f.b f.c = x at *
    go_upto_region 6 with fail
    go_cut [78] (fun v wr => v = .bool false ∧ ∃ g : Ext W4, wr = g.val)
    case first =>
      go_wp2_with fail
      refine (hg _).mono ?_
      rintro _ _ ⟨rfl, g5, rfl⟩
      have k6 := k5.ext g5
      clear R0 R1 R2 R3 k5
      have R0 : rowOf g5.val w.heap.size = t.cells := (k6.row (w.heap.size, t.cells) (by simp)).1
      have R1 : rowOf g5.val (w.heap.size + 1) = s.cells := (k6.row (w.heap.size + 1, s.cells) (by simp)).1
      have R2 : rowOf g5.val (w.heap.size + 1 + 1) = f.cells := (k6.row (w.heap.size + 1 + 1, f.cells) (by simp)).1
      have R3 : rowOf g5.val i2 = n.cells := (k6.row (i2, n.cells) (by simp)).1
      clear k6 ho hg
      rcases hk with ⟨h1, h2, h3⟩ | ⟨h1, h2, h3⟩ | ⟨h1, h2, h3⟩
      all_goals
        go_wp2_with fail
        go_meet
        exact ⟨rfl, g5, rfl⟩
    case rest =>
    obtain ⟨rfl, g5, rfl⟩ := hcut
    have k6 := k5.ext g5
    clear R0 R1 R2 R3 k5 hg hk hL hS hN hcR
    have R0 : rowOf g5.val w.heap.size = t.cells := (k6.row (w.heap.size, t.cells) (by simp)).1
    obtain ⟨R1, _, _, z1⟩ := k6.row (w.heap.size + 1, s.cells) (by simp)
    have R2 : rowOf g5.val (w.heap.size + 1 + 1) = f.cells := (k6.row (w.heap.size + 1 + 1, f.cells) (by simp)).1
    obtain ⟨R3, _, _, z3⟩ := k6.row (i2, n.cells) (by simp)
    have e1 := ext_row R1 z1
    have e3 := ext_row R3 z3
    have kb := k6.below
    have hb : safeB t s f = (x == 0) := by unfold safeB; rw [hx]
    rw [hb] at ho
    clear k6 z1 z3 hb hx
    generalize hkn : n.kn = k at *
    dsimp only at e1 e3 R1 R3
    generalize g5.val = W5 at *
    cases ho with
    | wait _ h =>
      go_wp2_with fail
      refine (hO _).mono ?_
      rintro _ _ ⟨rfl, g6, rfl⟩
      go_wp2_with fail
      refine (works_any _).mono ?_
      rintro _ _ ⟨rfl, g7, rfl⟩
      go_wp2_with fail
      go_ret
      exact Ret.mk (g7.up (g6.up kb))
    | rest h =>
      go_wp2_with fail
      refine (hO _).mono ?_
      rintro _ _ ⟨rfl, g6, rfl⟩
      go_wp2_with fail
      refine (works_any _).mono ?_
      rintro _ _ ⟨rfl, g7, rfl⟩
      go_wp2_with fail
      go_ret
      exact Ret.mk (g7.up (g6.up kb))
    | fin _ h h' =>
      go_wp2_with fail
      refine (hO _).mono ?_
      rintro _ _ ⟨rfl, g6, rfl⟩
      go_wp2_with fail
      refine (hO' _).mono ?_
      rintro _ _ ⟨rfl, g7, rfl⟩
      go_wp2_with fail
      refine (works_any _).mono ?_
      rintro _ _ ⟨rfl, g8, rfl⟩
      go_wp2_with fail
      go_ret
      exact Ret.mk (g8.up (g7.up (g6.up kb)))
    | _ =>
      go_wp2_with fail
      refine (works_any _).mono ?_
      rintro _ _ ⟨rfl, g7, rfl⟩
      go_wp2_with fail
      go_ret
      exact Ret.mk (g7.up kb)
  · have hcR := fun w => Right_no t hr w
    clear hr
    go_enter Try.func4, Try.ntmps4
    go_wp2_with fail
    refine at_calls (Kp w _) k0 (fun W1 k1 => ?_)
    clear k0
    refine (hcR _).mono ?_
    rintro _ _ ⟨rfl, g1, rfl⟩
    have k2 := k1.ext g1
    go_wp2_with (go_at_call 8; refine (works_any _).mono ?_; rintro _ _ ⟨rfl, g2, rfl⟩)
    go_ret
    exact Ret.mk (g2.up k2.below)
end Go.Proofs.Ytmhbkiabndookaa
