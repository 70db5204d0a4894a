/- What is proved: the plain law of TimeoutSafe of layer 19, and what its walk leans on. -/
import Derived.Test.YtcbdoiiahbmneaaT6
namespace Go.Proofs.Ytcbdoiiahbmneaa
open Go.RowKit

theorem Pick_same (v n : Int) (h : 1 ≤ n) (hn : n ≤ 9223372036854775807) (w : World) : Calls Try.prog 21 #[.int .i64 v, .int .i64 n] w fun e w' => e = .returned (.int .i64 (pick v n)) ∧ w = w' := by
  have e : pick v n = v % n := if_neg (by omega)
  rw [e]
  clear e
  rcases tmod_cases v n h with ⟨h1, h2, h3⟩ | ⟨h1, h2⟩
  · rw [← h2]
    clear h2
    go_enter Try.func21, Try.ntmps21
    go_wp2
    go_ret
    exact ⟨rfl, rfl⟩
  · rw [← h2]
    clear h2
    go_enter Try.func21, Try.ntmps21
    go_wp2
    go_ret
    exact ⟨rfl, rfl⟩

/-- A deal of a role, its legs at P and G. -/
def D.at_ (role P G : Int) : D := ⟨0, role, P, 0, 0, G, 0, 0, fun _ => 0, 0⟩
theorem deal_at (first : Bool) (p g P G role : Int) (hr : role = if first then 1 else 2) (hP : pick p 3 = P) (hG : (pick p 3 + 1 + pick g 2) % 3 = G) (w : World) :
    Calls Try.prog 22 #[.bool first, .int .i64 p, .int .i64 g] w (Ret (.agg (D.at_ role P G).cells) w) := by
  have e : D.made first p g = D.at_ role P G := by unfold D.made D.at_; rw [← hr, hG, hP]
  rw [← e]
  cases first
  · exact deal_second p g w
  · exact deal_first p g w

/-! ### The plain law -/
section
variable {t : T} (ht : t.Ok) (hf : 1 ≤ t.fast) {a b c : Int} (ha : 0 ≤ a ∧ a < 1073741824) (hb : 0 ≤ b ∧ b < 1073741824) (hc : 0 ≤ c ∧ c < 1073741824)
include ha hb hc
theorem clk_bd (i : Int) : 0 ≤ clk a b c i ∧ clk a b c i < 1073741824 := by unfold clk; (repeat' split) <;> omega
include ht
theorem legs_first (P G : Int) : (D.at_ 1 P G).legs t a b c = ⟨0, 1, P, 0, clk a b c P + t.long, G, 0, clk a b c G + 3 * t.mar, fun _ => 0, 0⟩ := by
  have h1 := clk_bd ha hb hc P
  have h2 := clk_bd ha hb hc G
  have hm := ht.mar
  have hl := ht.long
  rw [show (D.at_ 1 P G).legs t a b c = _ from if_pos rfl]
  simp only [D.at_]
  rw [IntWalk.wrap64_in _ (by omega), IntWalk.wrap64_in _ (by omega)]
theorem legs_second (P G : Int) : (D.at_ 2 P G).legs t a b c = ⟨0, 2, P, 0, clk a b c P + 3 * t.mar, G, 0, clk a b c G + t.long, fun _ => 0, 0⟩ := by
  have h1 := clk_bd ha hb hc P
  have h2 := clk_bd ha hb hc G
  have hm := ht.mar
  have hl := ht.long
  rw [show (D.at_ 2 P G).legs t a b c = _ from if_neg (by simp [D.at_])]
  simp only [D.at_]
  rw [IntWalk.wrap64_in _ (by omega), IntWalk.wrap64_in _ (by omega)]
omit ht ha hb hc in
theorem mx0_of {v : Int} (h : 0 ≤ v) : mx0 v = v := by unfold mx0; split <;> omega
omit ha hb hc in
include hf in
theorem long_ge : 4 * t.mar ≤ t.long := by
  have hm := ht.mar
  have : 1 * (3 * t.mar) ≤ t.fast * (3 * t.mar) := Int.mul_le_mul_of_nonneg_right hf (by omega)
  unfold T.long; omega
end

/-- A deal with these times. -/
def D.timed (role P pz G gz : Int) : D := ⟨0, role, P, 0, pz, G, 0, gz, fun _ => 0, 0⟩
section
variable {t : T} (ht : t.Ok) (hf : 1 ≤ t.fast) {a b c : Int}
include ht
theorem safe_one (P pz G : Int) : (D.timed 1 P pz G (clk a b c G + 3 * t.mar)).safe t a b c = 0 := by
  have hm := ht.mar
  have e : (D.timed 1 P pz G (clk a b c G + 3 * t.mar)).leftG a b c = 3 * t.mar := by
    unfold D.leftG
    simp only [D.timed]
    rw [show clk a b c G + 3 * t.mar - clk a b c G = 3 * t.mar by omega, IntWalk.wrap64_in _ (by omega), mx0_of (by omega)]
  refine safe_first_no _ _ _ _ _ rfl ?_
  rw [e]; omega
include hf in
theorem safe_turned (P G : Int) : (D.timed 2 P (clk a b c P + t.long) G (clk a b c G + 3 * t.mar)).safe t a b c = 23 := by
  have hm := ht.mar
  have hl := ht.long
  have hg := long_ge ht hf
  have e : (D.timed 2 P (clk a b c P + t.long) G (clk a b c G + 3 * t.mar)).leftG a b c = 3 * t.mar := by
    unfold D.leftG
    simp only [D.timed]
    rw [show clk a b c G + 3 * t.mar - clk a b c G = 3 * t.mar by omega, IntWalk.wrap64_in _ (by omega), mx0_of (by omega)]
  have e' : (D.timed 2 P (clk a b c P + t.long) G (clk a b c G + 3 * t.mar)).leftP a b c = t.long := by
    unfold D.leftP
    simp only [D.timed]
    rw [show clk a b c P + t.long - clk a b c P = t.long by omega, IntWalk.wrap64_in _ (by omega), mx0_of (by omega)]
  have h1 : t.long * 1 ≤ t.long * t.fast := Int.mul_le_mul_of_nonneg_left hf (by omega)
  have h2 : t.long * t.fast ≤ t.long * 1024 := Int.mul_le_mul_of_nonneg_left ht.f1 (by omega)
  refine safe_second_yes _ _ _ _ _ (by simp [D.timed]) ?_
  rw [e, e', IntWalk.wrap64_in (t.long * t.fast) (by omega), IntWalk.wrap64_in _ (by omega)]
  omega
/-- What is left, when blocks have come. -/
theorem left_two (P G A B x y pz gz : Int) (hP : pz = A + 3 * t.mar) (hG : gz = B + t.long) (hx : 0 ≤ x ∧ x ≤ 3 * t.mar) (hy : 0 ≤ y ∧ y ≤ x * t.fast) (hA : clk a b c P = A + x) (hB : clk a b c G = B + y) : (D.timed 2 P pz G gz).leftP a b c = 3 * t.mar - x ∧ (D.timed 2 P pz G gz).leftG a b c = t.long - y ∧ (3 * t.mar - x) * t.fast + t.mar ≤ t.long - y ∧
      0 ≤ (3 * t.mar - x) * t.fast ∧ (3 * t.mar - x) * t.fast ≤ 9440256 ∧ (D.timed 2 P pz G gz).safe t a b c = 0 := by
  have hm := ht.mar
  have hl := ht.long
  have hp := ht.prod
  have h1 : x * t.fast ≤ 3 * t.mar * t.fast := Int.mul_le_mul_of_nonneg_right hx.2 ht.f0
  have hc := Int.mul_comm t.fast (3 * t.mar)
  have h2 : (3 * t.mar - x) * t.fast = 3 * t.mar * t.fast - x * t.fast := Int.sub_mul _ _ _
  have h3 : 0 ≤ x * t.fast := Int.mul_nonneg hx.1 ht.f0
  have hL : t.long = 3 * t.mar * t.fast + t.mar := by unfold T.long; rw [hc]
  have e1 : (D.timed 2 P pz G gz).leftP a b c = 3 * t.mar - x := by
    unfold D.leftP
    simp only [D.timed]
    rw [hA, hP, IntWalk.wrap64_in _ (by omega), mx0_of (by omega)]; omega
  have e2 : (D.timed 2 P pz G gz).leftG a b c = t.long - y := by
    unfold D.leftG
    simp only [D.timed]
    rw [hB, hG, IntWalk.wrap64_in _ (by omega), mx0_of (by omega)]; omega
  refine ⟨e1, e2, by omega, by omega, by omega, safe_second_no _ _ _ _ _ (by simp [D.timed]) ?_⟩
  rw [e1, e2, IntWalk.wrap64_in ((3 * t.mar - x) * t.fast) (by omega), IntWalk.wrap64_in _ (by omega)]
  omega
end
end Go.Proofs.Ytcbdoiiahbmneaa
