/- What is proved: the contract of the statement AmountKnown (chapter 2), by a symbolic run. No condition. -/
import Derived.Test.YtigpdnbcjmcfoaaA6
import Derived.Test.YtigpdnbcjmcfoaaPT
namespace Go.Proofs.Ytigpdnbcjmcfoaa
open Go.RowKit Sx
set_option maxRecDepth 100000
set_option linter.unusedSimpArgs false
set_option linter.unusedVariables false

def ltC (f : FuncId) : Con := mkCon f [] (.bool (.lit true))
def l2S : ConS := fun vs _ => ∃ a b : Int, b ≤ 9223372036854775807 ∧ vs = [.int .i64 a, .int .i64 b]
def l3S : ConS := fun vs _ => ∃ a b c : Int, vs = [.int .i64 a, .int .i64 b, .int .i64 c]
def l0S : ConS := fun vs _ => vs = []
theorem says_lt : (ltC 7).holds Try.prog l2S := con_of_ret (by rintro _ _ ⟨a, b, hb, rfl⟩ w; exact Says_any a b hb w) rfl
theorem back_lt : (ltC 5).holds Try.prog l2S := con_of_ret (by rintro _ _ ⟨a, b, _, rfl⟩ w; exact Back_any a b w) rfl
theorem parts_lt : (ltC 4).holds Try.prog l3S := con_of_ret (by rintro _ _ ⟨a, b, c, rfl⟩ w; exact Parts_any a b c w) rfl
theorem known_lt : (ltC 12).holds Try.prog l0S := con_of_ret (by rintro _ _ rfl w; exact known_any w) rfl
theorem totals_lt : (sliceC 3 3 (.bool (.lit true))).holds Try.prog (sliceS 3 fun _ => []) := slice_holds rfl fun l w ao c hl hS => Totals_any hS (by decide)

def k8LT : List (Nat × LS) := [(3, ⟨[(2, fun b => .int .i64 (.var b))], [], []⟩), (6, ⟨[(3, fun b => .int .i64 (.var b))], [], []⟩)]
def k8LQ : LoopS := ⟨fun _ nv ρ => 0 ≤ ρ.i nv ∧ ρ.i nv ≤ 13, fun _ nv ρ => (13 - ρ.i nv).toNat⟩
theorem from_at1 {ρ : Env} {nv : Nat} {k : IntKind} {x : Int} : (ρ.from_ nv (Env.ofL [.int k x])).i nv = x := from_first
theorem k8_loop {S : List ConS} {K : Env → Ex → St → Prop} {ρ : Env} {j nv : Nat} {t : Tree} (h2 : t.from_ (nv + stride) = true)
    (h4 : ∀ ρ' : Env, ρ.ag nv ρ' → 0 ≤ ρ'.i nv → ρ'.i nv ≤ 13 → treeSem S k8LQ K ρ' t) : treeSem S k8LQ K ρ (.loop j nv [(nv, .int .i64 (.lit 0))] t) := by
  refine sem_loop (ρ.from_ nv (Env.ofL [.int .i64 0])) (Env.from_ag _ _ _) ?_ (by show 0 ≤ _ ∧ _ ≤ (13 : Int); rw [from_at1]; decide) h2 (fun ρ1 ρ2 h => ?_) (fun ρ' hr hi => h4 ρ' hr hi.1 hi.2)
  · simp [Bound, bval, Env.from_, Env.ofL, E.val, T.den]
  · show (13 - ρ2.i nv).toNat = (13 - ρ1.i nv).toNat
    rw [(h nv (Nat.lt_add_of_pos_right (by decide))).1]
theorem k8_again {S : List ConS} {K : Env → Ex → St → Prop} {ρ : Env} {j nv : Nat} (h0 : 0 ≤ ρ.i nv) (h1 : ρ.i nv < 13) : treeSem S k8LQ K ρ (.again j nv [(nv, .int .i64 (.bin .add .i64 (.var nv) (.lit 1)))]) := by
  have e : T.den ρ (.bin .add .i64 (.var nv) (.lit 1)) = ρ.i nv + 1 := by
    show IntKind.i64.wrap (ρ.i nv + 1) = _
    rw [IntKind.wrap_i64]; omega
  refine sem_again (ρ.from_ nv (Env.ofL [.int .i64 (ρ.i nv + 1)])) (Env.from_ag _ _ _) ?_ (by show 0 ≤ _ ∧ _ ≤ (13 : Int); rw [from_at1]; omega) ?_
  · simp [Bound, bval, Env.from_, Env.ofL, E.val, e]
  · show (13 - (ρ.from_ nv (Env.ofL [.int .i64 (ρ.i nv + 1)])).i nv).toNat < (13 - ρ.i nv).toNat
    rw [from_at1]; omega
abbrev ends0 : List Int := [-9223372036854775808, -1, 0, 1, 2, 999999, 1000000, 1000001, 1125899906842623, 1125899906842624, 1125899906842625, 4611686018427387904, 9223372036854775807]
theorem sel_le (t : T) (ρ : Env) : T.den ρ (.sel ends0 t) ≤ 9223372036854775807 := by
  have h : ∀ x ∈ ends0, x ≤ 9223372036854775807 := by decide
  show ends0.getD _ 0 ≤ _
  rw [List.getD_eq_getElem?_getD]
  cases hq : ends0[min (t.den ρ).toNat (ends0.length - 1)]? with
  | none => decide
  | some x => exact h x (List.mem_of_getElem? hq)
theorem rem13 {x : Int} (h : 0 ≤ x) : 0 ≤ x.tmod 13 ∧ x.tmod 13 < 13 := by rw [Int.tmod_eq_emod_of_nonneg h]; omega
def k8S : List ConS := [l2S, l2S, sliceS 3 (fun _ => []), l3S, in2S partV, timesS, l0S]
def tree8 : Tree :=
 (.loop 3 4200 [(4200, (.int .i64 (.lit 0)))]
 (.split (.cmp .lss (.var 4200) (.lit 13))
 (.loop 6 10200 [(10200, (.int .i64 (.lit 0)))]
 (.split (.cmp .lss (.var 10200) (.lit 13))
 (.need (.cmp .geq (.var 4200) (.lit 0)) (.need (.cmp .geq (.var 10200) (.lit 0)) (.call 0 23200 [(.int .i64 (.sel [-9223372036854775808, -1, 0, 1, 2, 999999, 1000000, 1000001, 1125899906842623, 1125899906842624, 1125899906842625, 4611686018427387904, 9223372036854775807] (.var 4200))), (.int .i64 (.sel [-9223372036854775808, -1, 0, 1, 2, 999999, 1000000, 1000001, 1125899906842623, 1125899906842624, 1125899906842625, 4611686018427387904, 9223372036854775807] (.var 10200)))]
 (.need (.cmp .geq (.var 4200) (.lit 0)) (.need (.cmp .geq (.var 10200) (.lit 0)) (.call 1 34200 [(.int .i64 (.sel [-9223372036854775808, -1, 0, 1, 2, 999999, 1000000, 1000001, 1125899906842623, 1125899906842624, 1125899906842625, 4611686018427387904, 9223372036854775807] (.var 4200))), (.int .i64 (.sel [-9223372036854775808, -1, 0, 1, 2, 999999, 1000000, 1000001, 1125899906842623, 1125899906842624, 1125899906842625, 4611686018427387904, 9223372036854775807] (.var 10200)))]
 (.need (.cmp .geq (.var 4200) (.lit 0)) (.need (.cmp .geq (.var 10200) (.lit 0)) (.call 2 47200 [(.tup ([(.int .i64 (.sel [-9223372036854775808, -1, 0, 1, 2, 999999, 1000000, 1000001, 1125899906842623, 1125899906842624, 1125899906842625, 4611686018427387904, 9223372036854775807] (.var 4200))), (.int .i64 (.sel [-9223372036854775808, -1, 0, 1, 2, 999999, 1000000, 1000001, 1125899906842623, 1125899906842624, 1125899906842625, 4611686018427387904, 9223372036854775807] (.var 10200))), (.int .i64 (.lit 1))]))]
 (.need (.cmp .geq (.var 4200) (.lit 0)) (.need (.cmp .geq (.var 10200) (.lit 0)) (.need (.cmp .geq (.bin .rem .i64 (.bin .add .i64 (.var 4200) (.var 10200)) (.lit 13)) (.lit 0)) (.need (.cmp .lss (.bin .rem .i64 (.bin .add .i64 (.var 4200) (.var 10200)) (.lit 13)) (.lit 13)) (.call 3 68200 [(.int .i64 (.sel [-9223372036854775808, -1, 0, 1, 2, 999999, 1000000, 1000001, 1125899906842623, 1125899906842624, 1125899906842625, 4611686018427387904, 9223372036854775807] (.var 4200))), (.int .i64 (.sel [-9223372036854775808, -1, 0, 1, 2, 999999, 1000000, 1000001, 1125899906842623, 1125899906842624, 1125899906842625, 4611686018427387904, 9223372036854775807] (.var 10200))), (.int .i64 (.sel [-9223372036854775808, -1, 0, 1, 2, 999999, 1000000, 1000001, 1125899906842623, 1125899906842624, 1125899906842625, 4611686018427387904, 9223372036854775807] (.bin .rem .i64 (.bin .add .i64 (.var 4200) (.var 10200)) (.lit 13))))]
 (.again 6 10200 [(10200, (.int .i64 (.bin .add .i64 (.var 10200) (.lit 1))))])))))))))))))))
 (.again 3 4200 [(4200, (.int .i64 (.bin .add .i64 (.var 4200) (.lit 1))))])))
 (.call 4 9200 [(.int .i64 (.lit 1125899906842624)), (.int .i64 (.lit 1000000))]
 (.call 5 15200 [(.int .i64 (.lit 0)), (.int .i64 (.lit 4611686018427387904))]
 (.call 4 21200 [(.int .i64 (.lit 0)), (.int .i64 (.lit 5))]
 (.call 4 27200 [(.int .i64 (.lit 1000000)), (.int .i64 (.lit 1))]
 (.call 4 33200 [(.int .i64 (.lit 5)), (.int .i64 (.lit 1000001))]
 (.call 4 39200 [(.int .i64 (.lit (-1))), (.int .i64 (.lit (-1)))]
 (.split (.cmp .eql (.var 9200) (.lit 1125899906842624))
 (.split (.cmp .eql (.var 9201) (.lit 0))
 (.split (.cmp .eql (.var 15200) (.lit 0))
 (.split (.cmp .eql (.var 15201) (.lit 0))
 (.split (.cmp .eql (.var 21200) (.lit 0))
 (.split (.cmp .eql (.var 21201) (.lit 0))
 (.split (.cmp .eql (.var 27200) (.lit 1))
 (.split (.cmp .eql (.var 27201) (.lit 0))
 (.split (.cmp .eql (.var 33201) (.lit 1))
 (.split (.cmp .eql (.var 39201) (.lit 15))
 (.call 6 84200 []
 (leafT (.bool (.lit true)) .nil))
 (leafT (.bool (.lit false)) .nil))
 (leafT (.bool (.lit false)) .nil))
 (leafT (.bool (.lit false)) .nil))
 (leafT (.bool (.lit false)) .nil))
 (leafT (.bool (.lit false)) .nil))
 (leafT (.bool (.lit false)) .nil))
 (leafT (.bool (.lit false)) .nil))
 (leafT (.bool (.lit false)) .nil))
 (leafT (.bool (.lit false)) .nil))
 (leafT (.bool (.lit false)) .nil))))))))))
set_option maxHeartbeats 2000000 in
theorem known8_holds : (ltC 8).holds Try.prog l0S := by
  refine con_of_run (cs := [ltC 7, ltC 5, sliceC 3 3 (.bool (.lit true)), ltC 4, i2C 17, i2C 21, ltC 12]) (S := k8S) (LT := k8LT) (depth := 1) (fuel := 10) (nv := 200) (av := []) (T := tree8) ⟨says_lt, back_lt, totals_lt, parts_lt, part_holds, times_holds, known_lt, trivial⟩ (by kernel_rfl) (by kernel_rfl) (by kernel_rfl) ?_
  rintro _ e0 rfl
  refine ⟨k8LQ, Env.ofL [], rfl, ?_⟩
  unfold tree8
  refine k8_loop (by kernel_rfl) (fun ρ1 _ a1 b1 => ?_)
  refine sem_split (fun h1 => ?_) (fun _ => ?_)
  · simp only [den_lss_t, T.den] at h1
    refine k8_loop (by kernel_rfl) (fun ρ2 g2 a2 b2 => ?_)
    have e2 : ρ2.i 4200 = ρ1.i 4200 := (g2 4200 (by decide)).1
    rw [← e2] at h1 a1
    refine sem_split (fun h2 => ?_) (fun _ => ?_)
    · simp only [den_lss_t, T.den] at h2
      have needs : ∀ ρ : Env, ρ.i 4200 = ρ2.i 4200 → ρ.i 10200 = ρ2.i 10200 → C.den ρ (.cmp .geq (.var 4200) (.lit 0)) = true ∧ C.den ρ (.cmp .geq (.var 10200) (.lit 0)) = true ∧
          C.den ρ (.cmp .geq (.bin .rem .i64 (.bin .add .i64 (.var 4200) (.var 10200)) (.lit 13)) (.lit 0)) = true ∧ C.den ρ (.cmp .lss (.bin .rem .i64 (.bin .add .i64 (.var 4200) (.var 10200)) (.lit 13)) (.lit 13)) = true := by
        intro ρ q1 q2
        have hw : IntKind.i64.wrap (ρ.i 4200 + ρ.i 10200) = ρ.i 4200 + ρ.i 10200 := by rw [IntKind.wrap_i64]; omega
        have hr := rem13 (x := ρ.i 4200 + ρ.i 10200) (by omega)
        simp only [den_geq_t, den_lss_t, T.den, intBin, hw]
        exact ⟨by omega, by omega, hr.1, hr.2⟩
      have n0 := needs ρ2 rfl rfl
      refine sem_need n0.1 (sem_need n0.2.1 (sem_call l2S (Env.ofL []) rfl ⟨_, _, sel_le _ _, rfl⟩ ?_))
      have n1 := needs (ρ2.from_ 23200 (Env.ofL [])) (from_low (by decide)) (from_low (by decide))
      refine sem_need n1.1 (sem_need n1.2.1 (sem_call l2S (Env.ofL []) rfl ⟨_, _, sel_le _ _, rfl⟩ ?_))
      have n2 := needs ((ρ2.from_ 23200 (Env.ofL [])).from_ 34200 (Env.ofL [])) ((from_low (by decide)).trans (from_low (by decide))) ((from_low (by decide)).trans (from_low (by decide)))
      refine sem_need n2.1 (sem_need n2.2.1 (sem_call (sliceS 3 fun _ => []) (Env.ofL []) rfl ⟨[_, _, _], rfl, rfl, rfl⟩ ?_))
      have n3 := needs (((ρ2.from_ 23200 (Env.ofL [])).from_ 34200 (Env.ofL [])).from_ 47200 (Env.ofL [])) ((from_low (by decide)).trans ((from_low (by decide)).trans (from_low (by decide)))) ((from_low (by decide)).trans ((from_low (by decide)).trans (from_low (by decide))))
      refine sem_need n3.1 (sem_need n3.2.1 (sem_need n3.2.2.1 (sem_need n3.2.2.2 (sem_call l3S (Env.ofL []) rfl ⟨_, _, _, rfl⟩ ?_))))
      have q : ((((ρ2.from_ 23200 (Env.ofL [])).from_ 34200 (Env.ofL [])).from_ 47200 (Env.ofL [])).from_ 68200 (Env.ofL [])).i 10200 = ρ2.i 10200 := (from_low (by decide)).trans ((from_low (by decide)).trans ((from_low (by decide)).trans (from_low (by decide))))
      exact k8_again (by rw [q]; exact a2) (by rw [q]; exact h2)
    · exact k8_again a1 h1
  · refine sem_call (in2S partV) (Env.ofL [.int .i64 1125899906842624, .int .i64 0]) rfl ⟨1125899906842624, 1000000, rfl, by kernel_rfl⟩ ?_
    refine sem_call timesS (Env.ofL [.int .i64 0, .int .i64 0]) rfl ⟨0, 4611686018427387904, by decide, rfl, by kernel_rfl⟩ ?_
    refine sem_call (in2S partV) (Env.ofL [.int .i64 0, .int .i64 0]) rfl ⟨0, 5, rfl, by kernel_rfl⟩ ?_
    refine sem_call (in2S partV) (Env.ofL [.int .i64 1, .int .i64 0]) rfl ⟨1000000, 1, rfl, by kernel_rfl⟩ ?_
    refine sem_call (in2S partV) (Env.ofL [.int .i64 0, .int .i64 1]) rfl ⟨5, 1000001, rfl, by kernel_rfl⟩ ?_
    refine sem_call (in2S partV) (Env.ofL [.int .i64 0, .int .i64 15]) rfl ⟨-1, -1, rfl, by kernel_rfl⟩ ?_
    iterate 10 refine sem_split (fun _ => ?_) (fun c => Bool.noConfusion c)
    refine sem_call l0S (Env.ofL []) rfl rfl ?_
    exact sem_ret rfl rfl trivial
theorem Known8_any (w : World) : Calls Try.prog 8 #[] w (Ret (.bool true) w) := ret_of_con known8_holds rfl (e0 := Env.ofL []) rfl w
end Go.Proofs.Ytigpdnbcjmcfoaa
