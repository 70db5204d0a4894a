/- What is proved: the walk of DiskFates, part by part; printed by mk_F6.py. No condition but those each law names. -/
import Derived.Test.YtcedgoaanlbldaaF1
import Derived.Test.YtcedgoaanlbldaaT1
namespace Go.Proofs.Ytcedgoaanlbldaa
open Sx hiding Sl
set_option maxRecDepth 100000

/-- A list of ints that is only read. -/
def BodyI (G : List Ob) (v : Value) (ks : List Int) : Prop := (v = .slice none 0 0 ∧ ks = []) ∨ ∃ k, v = tok k ∧ G[k]? = some (.ro 1 ks.length (ks.map (Value.int .i64)))
theorem BodyI.sl {G : List Ob} {v : Value} {ks : List Int} (h : BodyI G v ks) : Sx.Sl G v 1 ks.length (ks.map (Value.int .i64)) := by
  rcases h with ⟨rfl, rfl⟩ | ⟨k, rfl, hk⟩
  · exact .inl ⟨rfl, rfl, rfl⟩
  · exact .inr ⟨k, 0, _, ⟨k, rfl, .inl ⟨_, .inr hk, rfl, rfl⟩⟩, by unfold cellsAt; rw [hk]; rfl, by rw [List.length_map]; omega, by rw [List.drop_zero, List.take_of_length_le (by rw [List.length_map]; omega)]⟩
theorem BodyI.keep {G G' : List Ob} {v : Value} {ks : List Int} (h : BodyI G v ks) (hk : KeepRV G G') : BodyI G' v ks := h.imp id fun ⟨k, h1, h2⟩ => ⟨k, h1, hk _ _ h2 (fun c e => by cases e) (fun c e => by cases e)⟩
theorem keeps_rv {G G' : List Ob} (h : Keeps G G') : KeepRV G G' := fun n o ho _ _ => h n o ho
theorem fate_two {M : DiskM} (hlo : M.lo = []) {f : Nat → Int} {bA bB : Nat → List Int} (h : FateIs M.la f bA bB) {i : Nat} (hi : i < 20) (hf : f i = 2) : rdE M i = 24 ∧ rdBs M i = [] := by
  have h1 := (h.1 i hi).1 hf
  have hbd : rdBad (i : Int) = false := by
    unfold rdBad
    rw [decide_eq_false (by omega), decide_eq_false (by omega)]
    rfl
  unfold rdE rdBs
  rw [hbd, hlo, h1]
  exact ⟨rfl, rfl⟩
theorem fate_one {M : DiskM} (hlo : M.lo = []) {f : Nat → Int} {bA bB : Nat → List Int} (h : FateIs M.la f bA bB) {i : Nat} (hi : i < 20) (hf : f i = 1) : rdsB M i (bB i) = true := by
  obtain ⟨m, h1⟩ := (h.1 i hi).2.1 hf
  exact rds_some hlo (by omega) h1
theorem fate_zero {M : DiskM} (hlo : M.lo = []) {f : Nat → Int} {bA bB : Nat → List Int} (h : FateIs M.la f bA bB) {i : Nat} (hi : i < 20) (hf : f i = 0) : rdsB M i (bA i) = true := by
  rcases (h.1 i hi).2.2 (by omega) (by omega) with ⟨m, h1⟩ | ⟨h1, h2⟩
  · exact rds_some hlo (by omega) h1
  · rw [h2]
    exact rds_none hlo (by omega) h1
theorem fate_out {M : DiskM} (hlo : M.lo = []) {f : Nat → Int} {bA bB : Nat → List Int} (h : FateIs M.la f bA bB) {i : Nat} (hi : ¬ i < 20) (h5 : i < 512) : rdsB M i [] = true := rds_none hlo h5 (h.2 i (by omega))
theorem fate_rng (keep : List Int) (is : Nat → Bool) (j : Nat) : 0 ≤ fateAt keep is j ∧ fateAt keep is j < 3 := by
  unfold fateAt
  split
  · unfold fateK
    split
    · rename_i k _
      rw [← pick_fate]
      exact pick_rng (by omega) (by omega)
    · omega
  · omega
/-- The rounds. -/
def ftI1 (G0 : List Ob) (n : Nat) (nv : Nat) (ρ : Env) : Prop := ∃ Gi, ∃ i : Nat, ρ.g (nv + 999) = encG Gi ∧ ρ.i nv = i ∧ i ≤ n ∧ P1 G0 Gi
def ftI2 (G0 : List Ob) (n : Nat) (nv : Nat) (ρ : Env) : Prop := ∃ Gi, ∃ i : Nat, ρ.g (nv + 999) = encG Gi ∧ ρ.i nv = i ∧ i ≤ n ∧ P2 G0 Gi
def ftI3 (G0 : List Ob) (keep : List Int) (nv : Nat) (ρ : Env) : Prop := ∃ Gi, ∃ i : Nat, ρ.g (nv + 999) = encG Gi ∧ ρ.i nv = i ∧ i ≤ 2 ∧ P3 keep G0 Gi 0 0
def ftI4 (G0 : List Ob) (keep : List Int) (nv : Nat) (ρ : Env) : Prop := ∃ Gi, ∃ i a : Nat, ρ.g (nv + 999) = encG Gi ∧ ρ.i nv = a ∧ ρ.i (nv + 1) = i ∧ i ≤ 20 ∧ P3 keep G0 Gi i a
def ftLQ (G0 : List Ob) (L1 L2 : List PD) (keep : List Int) : LoopS :=
  ⟨fun j nv ρ => match j with | 7 => ftI1 G0 L1.length nv ρ | 16 => ftI2 G0 L2.length nv ρ | 25 => ftI3 G0 keep nv ρ | _ => ftI4 G0 keep nv ρ,
   fun j nv ρ => match j with | 7 => (L1.length - ρ.i nv).toNat | 16 => (L2.length - ρ.i nv).toNat | 25 => (2 - ρ.i nv).toNat | _ => (20 - ρ.i (nv + 1)).toNat⟩
def ft64 : Tree :=
 (.call 5 64200 [(.pla (.var 1200) (.lit 0) 0), (.int .i64 (.var 43201)), (.var 44199)]
 (.call 24 101200 [(.pla (.var 16200) (.lit 0) 0), (.int .i64 (.var 43201)), (.var 65199)]
 (.call 18 102200 [(.pla (.var 101200) (.var 101201) 0), (.var 65199)]
 (.call 3 103200 [(.pla (.var 1200) (.lit 0) 0), (.int .i64 (.var 43201)), (.hnd 102200), (.var 65199)]
 (.split (.var 103200)
 (.again 29 43200 [(43201, (.int .i64 (.bin .add .i64 (.var 43201) (.lit 1)))), (43200, (.int .i64 (.bin .add .i64 (.var 43200) (.lit 1)))), (44199, (.var 104199))])
 (leafG (.bool (.lit false)) .nil 104199))))))
def ft61 : Tree :=
 (.call 5 61200 [(.pla (.var 1200) (.lit 0) 0), (.int .i64 (.var 43201)), (.var 44199)]
 (.call 24 98200 [(.pla (.var 16200) (.lit 0) 0), (.int .i64 (.var 43201)), (.var 62199)]
 (.call 18 99200 [(.pla (.var 98200) (.var 98201) 0), (.var 62199)]
 (.call 3 100200 [(.pla (.var 1200) (.lit 0) 0), (.int .i64 (.var 43201)), (.hnd 99200), (.var 62199)]
 (.split (.var 100200)
 (.again 29 43200 [(43201, (.int .i64 (.bin .add .i64 (.var 43201) (.lit 1)))), (43200, (.int .i64 (.var 43200))), (44199, (.var 101199))])
 (leafG (.bool (.lit false)) .nil 101199))))))
def ft70 : Tree :=
 (.call 5 70200 [(.pla (.var 1200) (.lit 0) 0), (.int .i64 (.var 43201)), (.var 44199)]
 (.split (.cmp .eql (.var 60200) (.lit 2))
 (.split (.cmp .eql (.var 70201) (.lit 24))
 (.call 15 83200 [(.hnd 70200), (.var 71199)]
 (.split (.cmp .gtr (.var 83200) (.lit 0))
 (leafG (.bool (.lit false)) .nil 71199)
 (.again 29 43200 [(43201, (.int .i64 (.bin .add .i64 (.var 43201) (.lit 1)))), (43200, (.int .i64 (.bin .add .i64 (.var 43200) (.lit 1)))), (44199, (.var 71199))])))
 (leafG (.bool (.lit false)) .nil 71199))
 (.split (.cmp .eql (.var 60200) (.lit 1))
 (.call 24 94200 [(.pla (.var 17200) (.lit 0) 0), (.int .i64 (.var 43201)), (.var 71199)]
 (.call 18 95200 [(.pla (.var 94200) (.var 94201) 0), (.var 71199)]
 (.call 3 96200 [(.pla (.var 1200) (.lit 0) 0), (.int .i64 (.var 43201)), (.hnd 95200), (.var 71199)]
 (.split (.var 96200)
 (.again 29 43200 [(43201, (.int .i64 (.bin .add .i64 (.var 43201) (.lit 1)))), (43200, (.int .i64 (.bin .add .i64 (.var 43200) (.lit 1)))), (44199, (.var 97199))])
 (leafG (.bool (.lit false)) .nil 97199)))))
 (.split (.cmp .eql (.var 60200) (.lit 0))
 (.call 24 107200 [(.pla (.var 16200) (.lit 0) 0), (.int .i64 (.var 43201)), (.var 71199)]
 (.call 18 108200 [(.pla (.var 107200) (.var 107201) 0), (.var 71199)]
 (.call 3 109200 [(.pla (.var 1200) (.lit 0) 0), (.int .i64 (.var 43201)), (.hnd 108200), (.var 71199)]
 (.split (.var 109200)
 (.again 29 43200 [(43201, (.int .i64 (.bin .add .i64 (.var 43201) (.lit 1)))), (43200, (.int .i64 (.bin .add .i64 (.var 43200) (.lit 1)))), (44199, (.var 110199))])
 (leafG (.bool (.lit false)) .nil 110199)))))
 (.again 29 43200 [(43201, (.int .i64 (.bin .add .i64 (.var 43201) (.lit 1)))), (43200, (.int .i64 (.bin .add .i64 (.var 43200) (.lit 1)))), (44199, (.var 71199))])))))
def ft67 : Tree :=
 (.call 5 67200 [(.pla (.var 1200) (.lit 0) 0), (.int .i64 (.var 43201)), (.var 44199)]
 (.split (.cmp .eql (.var 60200) (.lit 2))
 (.split (.cmp .eql (.var 67201) (.lit 24))
 (.call 15 80200 [(.hnd 67200), (.var 68199)]
 (.split (.cmp .gtr (.var 80200) (.lit 0))
 (leafG (.bool (.lit false)) .nil 68199)
 (.again 29 43200 [(43201, (.int .i64 (.bin .add .i64 (.var 43201) (.lit 1)))), (43200, (.int .i64 (.var 43200))), (44199, (.var 68199))])))
 (leafG (.bool (.lit false)) .nil 68199))
 (.split (.cmp .eql (.var 60200) (.lit 1))
 (.call 24 91200 [(.pla (.var 17200) (.lit 0) 0), (.int .i64 (.var 43201)), (.var 68199)]
 (.call 18 92200 [(.pla (.var 91200) (.var 91201) 0), (.var 68199)]
 (.call 3 93200 [(.pla (.var 1200) (.lit 0) 0), (.int .i64 (.var 43201)), (.hnd 92200), (.var 68199)]
 (.split (.var 93200)
 (.again 29 43200 [(43201, (.int .i64 (.bin .add .i64 (.var 43201) (.lit 1)))), (43200, (.int .i64 (.var 43200))), (44199, (.var 94199))])
 (leafG (.bool (.lit false)) .nil 94199)))))
 (.split (.cmp .eql (.var 60200) (.lit 0))
 (.call 24 104200 [(.pla (.var 16200) (.lit 0) 0), (.int .i64 (.var 43201)), (.var 68199)]
 (.call 18 105200 [(.pla (.var 104200) (.var 104201) 0), (.var 68199)]
 (.call 3 106200 [(.pla (.var 1200) (.lit 0) 0), (.int .i64 (.var 43201)), (.hnd 105200), (.var 68199)]
 (.split (.var 106200)
 (.again 29 43200 [(43201, (.int .i64 (.bin .add .i64 (.var 43201) (.lit 1)))), (43200, (.int .i64 (.var 43200))), (44199, (.var 107199))])
 (leafG (.bool (.lit false)) .nil 107199)))))
 (.again 29 43200 [(43201, (.int .i64 (.bin .add .i64 (.var 43201) (.lit 1)))), (43200, (.int .i64 (.var 43200))), (44199, (.var 68199))])))))
def ftEnd : Tree :=
 (.call 3 42200 [(.pla (.var 1200) (.lit 0) 0), (.int .i64 (.lit 20)), (.lit (.slice none 0 0)), (.var 39199)]
 (.split (.var 42200)
 (.call 3 45200 [(.pla (.var 1200) (.lit 0) 0), (.int .i64 (.lit 511)), (.lit (.slice none 0 0)), (.var 43199)]
 (.split (.var 45200)
 (.call 6 49200 [(.pla (.var 1200) (.lit 0) 0), (.var 46199)]
 (.split (.var 49200)
 (leafG (.bool (.lit false)) .nil 50199)
 (.call 9 53200 [(.var 50199)]
 (leafG (.bool (.var 53200)) .nil 54199))))
 (leafG (.bool (.lit false)) .nil 46199)))
 (leafG (.bool (.lit false)) .nil 43199)))
def ftLook : Tree :=
 (.call 25 48200 [(.pla (.var 18200) (.lit 0) 0), (.int .i64 (.var 43201)), (.var 44199)]
 (.call 17 49200 [(.pla (.var 48200) (.var 48201) 0), (.var 44199)]
 (.split (.var 49200)
 (.call 13 53200 [(.hnd 2), (.var 44199)]
 (.split (.cmp .lss (.var 43200) (.var 53200))
 (.call 14 58200 [(.hnd 2), (.int .i64 (.var 43200)), (.var 44199)]
 (.call 16 59200 [(.pla (.var 58200) (.var 58201) 0), (.var 44199)]
 (.call 7 60200 [(.int .i64 (.var 59200)), (.int .i64 (.lit 3))]
 (.call 25 63200 [(.pla (.var 18200) (.lit 0) 0), (.int .i64 (.var 43201)), (.var 44199)]
 (.call 17 64200 [(.pla (.var 63200) (.var 63201) 0), (.var 44199)]
 (.split (.var 64200)
 ft70
 ft67))))))
 (.call 25 57200 [(.pla (.var 18200) (.lit 0) 0), (.int .i64 (.var 43201)), (.var 44199)]
 (.call 17 58200 [(.pla (.var 57200) (.var 57201) 0), (.var 44199)]
 (.split (.var 58200)
 ft64
 ft61)))))
 (.call 25 57200 [(.pla (.var 18200) (.lit 0) 0), (.int .i64 (.var 43201)), (.var 44199)]
 (.call 17 58200 [(.pla (.var 57200) (.var 57201) 0), (.var 44199)]
 (.split (.var 58200)
 ft64
 ft61))))))
def ftBack : Tree :=
 (.call 23 47200 [(.int .i64 (.lit 1)), (.int .i64 (.lit 2)), (.int .i64 (.lit 1)), (.int .i64 (.lit 2)), (.var 44199)]
 (.call 4 48200 [(.pla (.var 1200) (.lit 0) 0), (.hnd 47200), (.var 48199)]
 (.again 25 38200 [(38200, (.int .i64 (.bin .add .i64 (.var 38200) (.lit 1)))), (39199, (.var 49199))])))
def ftR3 : Tree :=
 (.loop 25 38200 [(38200, (.int .i64 (.lit 0))), (39199, (.var 37199))]
 (.split (.cmp .lss (.var 38200) (.lit 2))
 (.loop 29 43200 [(43201, (.int .i64 (.lit 0))), (43200, (.int .i64 (.lit 0))), (44199, (.var 39199))]
 (.split (.cmp .lss (.var 43201) (.lit 20))
 ftLook
 ftBack))
 ftEnd))
def ftB2 : Tree :=
 (.call 11 36200 [(.hnd 1), (.int .i64 (.var 29200)), (.var 30199)]
 (.call 12 37200 [(.pla (.var 36200) (.var 36201) 0), (.var 30199)]
 (.call 8 38200 [(.agg ([(.int .i64 (.var 37200)), (.hnd 37201)])), (.var 30199)]
 (.call 1 47200 [(.pla (.var 1200) (.lit 0) 0), (.int .i64 (.var 38200)), (.hnd 38201), (.var 39199)]
 (.split (.cmp .eql (.var 47200) (.lit 0))
 (.call 3 53200 [(.pla (.var 1200) (.lit 0) 0), (.int .i64 (.var 38200)), (.hnd 38201), (.var 48199)]
 (.split (.var 53200)
 (.call 24 58200 [(.pla (.var 17200) (.lit 0) 0), (.int .i64 (.var 38200)), (.var 54199)]
 (.call 19 59200 [(.pla (.var 58200) (.var 58201) 0), (.hnd 38201), (.var 54199)]
 (.call 25 61200 [(.pla (.var 18200) (.lit 0) 0), (.int .i64 (.var 38200)), (.var 60199)]
 (.call 20 62200 [(.pla (.var 61200) (.var 61201) 0), (.bool (.lit true)), (.var 60199)]
 (.again 16 29200 [(29200, (.int .i64 (.bin .add .i64 (.var 29200) (.lit 1)))), (30199, (.var 63199))])))))
 (leafG (.bool (.lit false)) .nil 54199)))
 (leafG (.bool (.lit false)) .nil 48199))))))
def ftR2 : Tree :=
 (.loop 16 29200 [(29200, (.int .i64 (.lit 0))), (30199, (.var 27199))]
 (.call 10 32200 [(.hnd 1), (.var 30199)]
 (.split (.cmp .lss (.var 29200) (.var 32200))
 ftB2
 (.call 4 36200 [(.pla (.var 1200) (.lit 0) 0), (.hnd 2), (.var 30199)]
 ftR3))))
def ftB1 : Tree :=
 (.call 11 27200 [(.hnd 0), (.int .i64 (.var 20200)), (.var 21199)]
 (.call 12 28200 [(.pla (.var 27200) (.var 27201) 0), (.var 21199)]
 (.call 8 29200 [(.agg ([(.int .i64 (.var 28200)), (.hnd 28201)])), (.var 21199)]
 (.call 1 38200 [(.pla (.var 1200) (.lit 0) 0), (.int .i64 (.var 29200)), (.hnd 29201), (.var 30199)]
 (.split (.cmp .eql (.var 38200) (.lit 0))
 (.call 3 44200 [(.pla (.var 1200) (.lit 0) 0), (.int .i64 (.var 29200)), (.hnd 29201), (.var 39199)]
 (.split (.var 44200)
 (.call 24 49200 [(.pla (.var 16200) (.lit 0) 0), (.int .i64 (.var 29200)), (.var 45199)]
 (.call 19 50200 [(.pla (.var 49200) (.var 49201) 0), (.hnd 29201), (.var 45199)]
 (.again 7 20200 [(20200, (.int .i64 (.bin .add .i64 (.var 20200) (.lit 1)))), (21199, (.var 51199))])))
 (leafG (.bool (.lit false)) .nil 45199)))
 (leafG (.bool (.lit false)) .nil 39199))))))
def ftR1 : Tree :=
 (.loop 7 20200 [(20200, (.int .i64 (.lit 0))), (21199, (.var 19199))]
 (.call 10 23200 [(.hnd 0), (.var 21199)]
 (.split (.cmp .lss (.var 20200) (.var 23200))
 ftB1
 (.call 2 26200 [(.pla (.var 1200) (.lit 0) 0), (.var 21199)]
 (.split (.cmp .eql (.var 26200) (.lit 0))
 ftR2
 (leafG (.bool (.lit false)) .nil 27199))))))
def treeFates : Tree :=
 (.call 0 1200 [(.var 199)]
 (.call 10 4200 [(.hnd 0), (.var 2199)]
 (.split (.cmp .gtr (.var 4200) (.lit 60))
 (.call 9 16200 [(.var 2199)]
 (leafG (.bool (.var 16200)) .nil 17199))
 (.call 10 8200 [(.hnd 1), (.var 2199)]
 (.split (.cmp .gtr (.var 8200) (.lit 60))
 (.call 9 16200 [(.var 2199)]
 (leafG (.bool (.var 16200)) .nil 17199))
 (.call 13 13200 [(.hnd 2), (.var 2199)]
 (.split (.cmp .gtr (.var 13200) (.lit 100))
 (.call 9 16200 [(.var 2199)]
 (leafG (.bool (.var 16200)) .nil 17199))
 (.call 21 16200 [(.var 2199)]
 (.call 21 17200 [(.var 17199)]
 (.call 22 18200 [(.var 18199)]
 ftR1))))))))))
theorem look_again {K : Env → Ex → St → Prop} {G0 : List Ob} {L1 L2 : List PD} {keep : List Int} {ρ' : Env} {Gx : List Ob} {M : DiskM} {A B : List Value} {bA bB : Nat → List Int} {is : Nat → Bool} {i g : Nat} {ta : T} (hF : FS G0 M A B is bA bB Gx) (hM : Free M) (hlo : M.lo = []) (hla : FateIs M.la (fateAt keep is) bA bB) (hi : i < 20) (xi : ρ'.i 43201 = i) (hg : ρ'.g g = encG Gx)
    (hv : ta.den ρ' = (atN is (i + 1) : Nat)) : treeSem ftpS (ftLQ G0 L1 L2 keep) K ρ' (.again 29 43200 [(43201, (.int .i64 (.bin .add .i64 (.var 43201) (.lit 1)))), (43200, .int .i64 ta), (44199, (.var g))]) := by
  refine sem_again (Env.from_ _ 43200 ((Env.ofL [.int .i64 (atN is (i + 1) : Nat), .int .i64 ((i : Int) + 1)]).ans (encG Gx))) (Env.from_ag _ _ _) ?_ ⟨_, i + 1, atN is (i + 1), rfl, rfl, ?_, by omega, M, A, B, bA, bB, is, hF, hM, hlo, hla, rfl⟩ ?_
  · have e : Bound ρ' (Env.from_ ρ' 43200 ((Env.ofL [.int .i64 (atN is (i + 1) : Nat), .int .i64 ((i : Int) + 1)]).ans (encG Gx))) [(43201, (.int .i64 (.bin .add .i64 (.var 43201) (.lit 1)))), (43200, .int .i64 ta), (44199, (.var g))] =
      ([Value.int .i64 ((i : Int) + 1), Value.int .i64 (atN is (i + 1) : Nat), encG Gx] = [Value.int .i64 (IntKind.i64.wrap (ρ'.i 43201 + 1)), Value.int .i64 (ta.den ρ'), ρ'.g g]) := by kernel_rfl
    rw [e, xi, hv, hg, wrap_in (by omega) (by omega)]
  · show (i : Int) + 1 = _
    simp
  · show ((20 : Int) - ((i : Int) + 1)).toNat < ((20 : Int) - ρ'.i 43201).toNat
    rw [xi]
    omega
theorem look_ft64 {K : Env → Ex → St → Prop} {G0 : List Ob} {L1 L2 : List PD} {keep : List Int} {ρ : Env} {Gi : List Ob} {M : DiskM} {A B : List Value} {bA bB : Nat → List Int} {is : Nat → Bool} {i : Nat} (hg : ρ.g 44199 = encG Gi) (xd : ρ.i 1200 = (G0.length + 2 : Nat)) (xa : ρ.i 16200 = (G0.length + 3 : Nat)) (xi : ρ.i 43201 = i) (xt : ρ.i 43200 = (atN is i : Nat))
    (hi : i < 20) (hF : FS G0 M A B is bA bB Gi) (hM : Free M) (hlo : M.lo = []) (hla : FateIs M.la (fateAt keep is) bA bB) (hf : fateAt keep is i = 0) (hst : is i = true) : treeSem ftpS (ftLQ G0 L1 L2 keep) K ρ ft64 := by
  unfold ft64
  have hs : atN is (i + 1) = atN is i + 1 := by rw [atN_succ, hst]; rfl
  have hl := atN_le is i
  refine sem_step Gi [tokAt (G0.length + 2) 0, .int .i64 i] ((Env.ofL [rdV Gi M i, .int .i64 (rdE M i)]).ans (encG (rdG Gi M i))) rfl (by show [tokAt (ρ.i 1200).toNat 0, Value.int .i64 (ρ.i 43201), ρ.g 44199] = _; rw [xd, xi, hg]; rfl) ⟨_, M, _, rfl, hF.is_, rfl, rfl, rfl⟩ ?_
  have hF1 := hF.keeps (rd_keeps hF.is_ i) (rd_len hF.is_ i)
  obtain ⟨v, hv1, hv2, hv3⟩ := hF1.cA.2 i hi
  refine sem_step (rdG Gi M i) [tokAt (G0.length + 3) 0, .int .i64 i] (Env.ofL [.int .i64 (G0.length + 3 : Nat), .int .i64 i]) rfl (by show [tokAt (ρ.i 16200).toNat 0, Value.int .i64 (ρ.i 43201), _] = _; rw [xa, xi]; rfl) ⟨_, 0, _, _, _, rfl, cells_ptr hF1.a1, by omega, by omega, rfl, by show (i : Int) = ((0 + (i : Int).toNat * 1 : Nat) : Int); omega⟩ ?_
  refine sem_step (rdG Gi M i) [tokAt (G0.length + 3) i] (Env.ofL [v]) rfl rfl ⟨_, i, _, v, rfl, cells_ptr hF1.a1, hv1, oneOf_eq hv2.one⟩ ?_
  have hrk := rds_keeps hF1.is_ i (bA i)
  have hF2 := hF1.keeps hrk.1 hrk.2
  refine sem_step (rdG Gi M i) [tokAt (G0.length + 2) 0, .int .i64 i, v] ((Env.ofL [.bool true]).ans (encG (rdsG (rdG Gi M i) M i (bA i)))) rfl (by show [tokAt (ρ.i 1200).toNat 0, Value.int .i64 (ρ.i 43201), oneOf v, _] = _; rw [xd, xi, oneOf_eq hv2.one]; rfl) ⟨_, M, _, _, bA i, rfl, hF1.is_, hv2.sl, by omega, by rw [fate_zero hlo hla hi hf]; rfl, rfl⟩ ?_
  refine sem_yes rfl ?_
  exact look_again hF2 hM hlo hla hi xi rfl (by show IntKind.i64.wrap (ρ.i 43200 + 1) = _; rw [xt, wrap_in (by omega) (by omega), hs]; simp)
theorem look_ft61 {K : Env → Ex → St → Prop} {G0 : List Ob} {L1 L2 : List PD} {keep : List Int} {ρ : Env} {Gi : List Ob} {M : DiskM} {A B : List Value} {bA bB : Nat → List Int} {is : Nat → Bool} {i : Nat} (hg : ρ.g 44199 = encG Gi) (xd : ρ.i 1200 = (G0.length + 2 : Nat)) (xa : ρ.i 16200 = (G0.length + 3 : Nat)) (xi : ρ.i 43201 = i) (xt : ρ.i 43200 = (atN is i : Nat))
    (hi : i < 20) (hF : FS G0 M A B is bA bB Gi) (hM : Free M) (hlo : M.lo = []) (hla : FateIs M.la (fateAt keep is) bA bB) (hf : fateAt keep is i = 0) (hst : is i = false) : treeSem ftpS (ftLQ G0 L1 L2 keep) K ρ ft61 := by
  unfold ft61
  have hs : atN is (i + 1) = atN is i := by rw [atN_succ, hst]; rfl
  have hl := atN_le is i
  refine sem_step Gi [tokAt (G0.length + 2) 0, .int .i64 i] ((Env.ofL [rdV Gi M i, .int .i64 (rdE M i)]).ans (encG (rdG Gi M i))) rfl (by show [tokAt (ρ.i 1200).toNat 0, Value.int .i64 (ρ.i 43201), ρ.g 44199] = _; rw [xd, xi, hg]; rfl) ⟨_, M, _, rfl, hF.is_, rfl, rfl, rfl⟩ ?_
  have hF1 := hF.keeps (rd_keeps hF.is_ i) (rd_len hF.is_ i)
  obtain ⟨v, hv1, hv2, hv3⟩ := hF1.cA.2 i hi
  refine sem_step (rdG Gi M i) [tokAt (G0.length + 3) 0, .int .i64 i] (Env.ofL [.int .i64 (G0.length + 3 : Nat), .int .i64 i]) rfl (by show [tokAt (ρ.i 16200).toNat 0, Value.int .i64 (ρ.i 43201), _] = _; rw [xa, xi]; rfl) ⟨_, 0, _, _, _, rfl, cells_ptr hF1.a1, by omega, by omega, rfl, by show (i : Int) = ((0 + (i : Int).toNat * 1 : Nat) : Int); omega⟩ ?_
  refine sem_step (rdG Gi M i) [tokAt (G0.length + 3) i] (Env.ofL [v]) rfl rfl ⟨_, i, _, v, rfl, cells_ptr hF1.a1, hv1, oneOf_eq hv2.one⟩ ?_
  have hrk := rds_keeps hF1.is_ i (bA i)
  have hF2 := hF1.keeps hrk.1 hrk.2
  refine sem_step (rdG Gi M i) [tokAt (G0.length + 2) 0, .int .i64 i, v] ((Env.ofL [.bool true]).ans (encG (rdsG (rdG Gi M i) M i (bA i)))) rfl (by show [tokAt (ρ.i 1200).toNat 0, Value.int .i64 (ρ.i 43201), oneOf v, _] = _; rw [xd, xi, oneOf_eq hv2.one]; rfl) ⟨_, M, _, _, bA i, rfl, hF1.is_, hv2.sl, by omega, by rw [fate_zero hlo hla hi hf]; rfl, rfl⟩ ?_
  refine sem_yes rfl ?_
  exact look_again hF2 hM hlo hla hi xi rfl (by show ρ.i 43200 = _; rw [xt, hs])
theorem look_ft70 {K : Env → Ex → St → Prop} {G0 : List Ob} {L1 L2 : List PD} {keep : List Int} {ρ : Env} {Gi : List Ob} {M : DiskM} {A B : List Value} {bA bB : Nat → List Int} {is : Nat → Bool} {i : Nat} (hg : ρ.g 44199 = encG Gi) (xd : ρ.i 1200 = (G0.length + 2 : Nat)) (xa : ρ.i 16200 = (G0.length + 3 : Nat)) (xi : ρ.i 43201 = i) (xt : ρ.i 43200 = (atN is i : Nat))
    (hi : i < 20) (hF : FS G0 M A B is bA bB Gi) (hM : Free M) (hlo : M.lo = []) (hla : FateIs M.la (fateAt keep is) bA bB) (xb : ρ.i 17200 = (G0.length + 4 : Nat)) (xk : ρ.i 60200 = fateAt keep is i) (hst : is i = true) : treeSem ftpS (ftLQ G0 L1 L2 keep) K ρ ft70 := by
  unfold ft70
  have hs : atN is (i + 1) = atN is i + 1 := by rw [atN_succ, hst]; rfl
  have hl := atN_le is i
  have hr := fate_rng keep is i
  refine sem_step Gi [tokAt (G0.length + 2) 0, .int .i64 i] ((Env.ofL [rdV Gi M i, .int .i64 (rdE M i)]).ans (encG (rdG Gi M i))) rfl (by show [tokAt (ρ.i 1200).toNat 0, Value.int .i64 (ρ.i 43201), ρ.g 44199] = _; rw [xd, xi, hg]; rfl) ⟨_, M, _, rfl, hF.is_, rfl, rfl, rfl⟩ ?_
  have hF1 := hF.keeps (rd_keeps hF.is_ i) (rd_len hF.is_ i)
  refine sem_split (fun h => ?_) (fun h => ?_)
  · have hf : fateAt keep is i = 2 := by rw [← xk]; exact eq_of_beq h
    obtain ⟨e1, e2⟩ := fate_two hlo hla hi hf
    refine sem_yes (by show (rdE M i == 24) = true; rw [e1]; rfl) ?_
    refine sem_step (rdG Gi M i) [rdV Gi M i] (Env.ofL [.int .i64 0]) rfl (by show [oneOf (rdV Gi M i), _] = _; rw [oneOf_eq (rdV_one _ _ _)]; rfl) ⟨_, 1, _, _, rfl, (rd_at hF.is_ i).2, by rw [e2]; rfl⟩ ?_
    refine sem_no rfl ?_
    exact look_again hF1 hM hlo hla hi xi rfl (by show IntKind.i64.wrap (ρ.i 43200 + 1) = _; rw [xt, wrap_in (by omega) (by omega), hs]; simp)
  have h2 : ¬ fateAt keep is i = 2 := by rw [← xk]; exact ne_of_beq_false h
  refine sem_split (fun h => ?_) (fun h => ?_)
  · have hf : fateAt keep is i = 1 := by rw [← xk]; exact eq_of_beq h
    obtain ⟨v, hv1, hv2, hv3⟩ := hF1.cB.2 i hi
    refine sem_step (rdG Gi M i) [tokAt (G0.length + 4) 0, .int .i64 i] (Env.ofL [.int .i64 (G0.length + 4 : Nat), .int .i64 i]) rfl (by show [tokAt (ρ.i 17200).toNat 0, Value.int .i64 (ρ.i 43201), _] = _; rw [xb, xi]; rfl) ⟨_, 0, _, _, _, rfl, cells_ptr hF1.a2, by omega, by omega, rfl, by show (i : Int) = ((0 + (i : Int).toNat * 1 : Nat) : Int); omega⟩ ?_
    refine sem_step (rdG Gi M i) [tokAt (G0.length + 4) i] (Env.ofL [v]) rfl rfl ⟨_, i, _, v, rfl, cells_ptr hF1.a2, hv1, oneOf_eq hv2.one⟩ ?_
    have hrk := rds_keeps hF1.is_ i (bB i)
    have hF2 := hF1.keeps hrk.1 hrk.2
    refine sem_step (rdG Gi M i) [tokAt (G0.length + 2) 0, .int .i64 i, v] ((Env.ofL [.bool true]).ans (encG (rdsG (rdG Gi M i) M i (bB i)))) rfl (by show [tokAt (ρ.i 1200).toNat 0, Value.int .i64 (ρ.i 43201), oneOf v, _] = _; rw [xd, xi, oneOf_eq hv2.one]; rfl) ⟨_, M, _, _, bB i, rfl, hF1.is_, hv2.sl, by omega, by rw [fate_one hlo hla hi hf]; rfl, rfl⟩ ?_
    refine sem_yes rfl ?_
    exact look_again hF2 hM hlo hla hi xi rfl (by show IntKind.i64.wrap (ρ.i 43200 + 1) = _; rw [xt, wrap_in (by omega) (by omega), hs]; simp)
  have h1 : ¬ fateAt keep is i = 1 := by rw [← xk]; exact ne_of_beq_false h
  have hf : fateAt keep is i = 0 := by omega
  refine sem_yes (by show (ρ.i 60200 == 0) = true; rw [xk, hf]; rfl) ?_
  obtain ⟨v, hv1, hv2, hv3⟩ := hF1.cA.2 i hi
  refine sem_step (rdG Gi M i) [tokAt (G0.length + 3) 0, .int .i64 i] (Env.ofL [.int .i64 (G0.length + 3 : Nat), .int .i64 i]) rfl (by show [tokAt (ρ.i 16200).toNat 0, Value.int .i64 (ρ.i 43201), _] = _; rw [xa, xi]; rfl) ⟨_, 0, _, _, _, rfl, cells_ptr hF1.a1, by omega, by omega, rfl, by show (i : Int) = ((0 + (i : Int).toNat * 1 : Nat) : Int); omega⟩ ?_
  refine sem_step (rdG Gi M i) [tokAt (G0.length + 3) i] (Env.ofL [v]) rfl rfl ⟨_, i, _, v, rfl, cells_ptr hF1.a1, hv1, oneOf_eq hv2.one⟩ ?_
  have hrk := rds_keeps hF1.is_ i (bA i)
  have hF2 := hF1.keeps hrk.1 hrk.2
  refine sem_step (rdG Gi M i) [tokAt (G0.length + 2) 0, .int .i64 i, v] ((Env.ofL [.bool true]).ans (encG (rdsG (rdG Gi M i) M i (bA i)))) rfl (by show [tokAt (ρ.i 1200).toNat 0, Value.int .i64 (ρ.i 43201), oneOf v, _] = _; rw [xd, xi, oneOf_eq hv2.one]; rfl) ⟨_, M, _, _, bA i, rfl, hF1.is_, hv2.sl, by omega, by rw [fate_zero hlo hla hi hf]; rfl, rfl⟩ ?_
  refine sem_yes rfl ?_
  exact look_again hF2 hM hlo hla hi xi rfl (by show IntKind.i64.wrap (ρ.i 43200 + 1) = _; rw [xt, wrap_in (by omega) (by omega), hs]; simp)
theorem fate_is {keep : List Int} {is : Nat → Bool} {i : Nat} (hst : is i = true) {k : Int} (hk : keep[atN is i]? = some k) : fateAt keep is i = pickI k 3 := by
  unfold fateAt
  rw [if_pos hst]
  unfold fateK
  rw [show keep[((List.range i).filter is).length]? = some k from hk, pick_fate]
theorem fate_no {keep : List Int} {is : Nat → Bool} {i : Nat} (h : is i = true → keep.length ≤ atN is i) : fateAt keep is i = 0 := by
  unfold fateAt
  split
  · rename_i hst
    unfold fateK
    rw [show keep[((List.range i).filter is).length]? = none from List.getElem?_eq_none (h hst)]
  · rfl
theorem look_all {K : Env → Ex → St → Prop} {G0 : List Ob} {L1 L2 : List PD} {keep : List Int} {ρ : Env} {Gi : List Ob} {M : DiskM} {A B : List Value} {bA bB : Nat → List Int} {is : Nat → Bool} {i : Nat} {v3 : Value} (hg : ρ.g 44199 = encG Gi) (xd : ρ.i 1200 = (G0.length + 2 : Nat)) (xa : ρ.i 16200 = (G0.length + 3 : Nat)) (xi : ρ.i 43201 = i) (xt : ρ.i 43200 = (atN is i : Nat))
    (hi : i < 20) (hF : FS G0 M A B is bA bB Gi) (hM : Free M) (hlo : M.lo = []) (hla : FateIs M.la (fateAt keep is) bA bB) (xb : ρ.i 17200 = (G0.length + 4 : Nat)) (xc : ρ.i 18200 = (G0.length + 5 : Nat)) (xv : ρ.v 2 = v3) (h3 : BodyI Gi v3 keep) : treeSem ftpS (ftLQ G0 L1 L2 keep) K ρ ftLook := by
  unfold ftLook
  have o3 := h3.sl.one
  have idx : ∀ {ρ' : Env} {b : Nat} {t : Tree}, ρ'.i 18200 = ρ.i 18200 → ρ'.i 43201 = ρ.i 43201 → ρ'.g 44199 = ρ.g 44199 → treeSem ftpS (ftLQ G0 L1 L2 keep) K (ρ'.from_ b (Env.ofL [.int .i64 (G0.length + 5 : Nat), .int .i64 i])) t → treeSem ftpS (ftLQ G0 L1 L2 keep) K ρ' (.call 25 b [(.pla (.var 18200) (.lit 0) 0), (.int .i64 (.var 43201)), (.var 44199)] t) := fun e1 e2 e3 ht =>
    sem_step Gi [tokAt (G0.length + 5) 0, .int .i64 i] (Env.ofL [.int .i64 (G0.length + 5 : Nat), .int .i64 i]) rfl (by show [tokAt (Env.i _ 18200).toNat 0, Value.int .i64 (Env.i _ 43201), Env.g _ 44199] = _; rw [e1, e2, e3, xc, xi, hg]; rfl) ⟨_, 0, _, _, _, rfl, cells_ptr hF.a3, by omega, by omega, rfl, by show (i : Int) = ((0 + (i : Int).toNat * 1 : Nat) : Int); omega⟩ ht
  have hl := atN_le is i
  refine idx rfl rfl rfl ?_
  refine sem_step Gi [tokAt (G0.length + 5) i] (Env.ofL [.bool (is i)]) rfl (by show [tokAt (G0.length + 5) i, ρ.g 44199] = _; rw [hg]; rfl) ⟨_, i, _, _, rfl, cells_ptr hF.a3, boolsN_at is hi, rfl⟩ ?_
  refine sem_split (fun h => ?_) (fun h => ?_)
  · have hst : is i = true := h
    refine sem_step Gi [v3] (Env.ofL [.int .i64 keep.length]) rfl (by show [oneOf (ρ.v 2), ρ.g 44199] = _; rw [xv, hg, oneOf_eq o3]; rfl) ⟨v3, 1, _, _, rfl, h3.sl, rfl⟩ ?_
    refine sem_split (fun hc => ?_) (fun hc => ?_)
    · have hc : ρ.i 43200 < (keep.length : Int) := of_decide_eq_true hc
      obtain ⟨m, p, all, q1, q2, q3, q4⟩ := sl_at h3.sl (by decide) (i := ρ.i 43200) (by omega) hc
      obtain ⟨k, hk⟩ : ∃ k, keep[atN is i]? = some k := ⟨_, List.getElem?_eq_getElem (by omega)⟩
      refine sem_step Gi [v3, .int .i64 (ρ.i 43200)] _ rfl (by show [oneOf (ρ.v 2), Value.int .i64 (ρ.i 43200), ρ.g 44199] = _; rw [xv, hg, oneOf_eq o3]; rfl) q1 ?_
      refine sem_step Gi [tokAt m p] (Env.ofL [.int .i64 k]) rfl (by show [tokAt m (p + 0), ρ.g 44199] = _; rw [hg]; rfl) ⟨m, p, all, .int .i64 k, rfl, q2, ?_, rfl⟩ ?_
      · have := q4 0 (by decide)
        rw [Nat.add_zero, xt, Int.toNat_natCast, Nat.mul_one, Nat.add_zero, List.getElem?_map, hk] at this
        exact this
      refine sem_call pickS (Env.ofL [.int .i64 (fateAt keep is i)]) rfl ⟨k, 3, rfl, fate_is hst hk⟩ ?_
      refine idx rfl rfl rfl ?_
      refine sem_step Gi [tokAt (G0.length + 5) i] (Env.ofL [.bool (is i)]) rfl (by show [tokAt (G0.length + 5) i, ρ.g 44199] = _; rw [hg]; rfl) ⟨_, i, _, _, rfl, cells_ptr hF.a3, boolsN_at is hi, rfl⟩ ?_
      refine sem_yes h ?_
      exact look_ft70 hg xd xa xi xt hi hF hM hlo hla xb rfl hst
    · have hc : ¬ ρ.i 43200 < (keep.length : Int) := of_decide_eq_false hc
      have hf : fateAt keep is i = 0 := fate_no fun _ => by omega
      refine idx rfl rfl rfl ?_
      refine sem_step Gi [tokAt (G0.length + 5) i] (Env.ofL [.bool (is i)]) rfl (by show [tokAt (G0.length + 5) i, ρ.g 44199] = _; rw [hg]; rfl) ⟨_, i, _, _, rfl, cells_ptr hF.a3, boolsN_at is hi, rfl⟩ ?_
      refine sem_yes h ?_
      exact look_ft64 hg xd xa xi xt hi hF hM hlo hla hf hst
  · have hst : is i = false := h
    have hf : fateAt keep is i = 0 := fate_no fun e => by rw [hst] at e; cases e
    refine idx rfl rfl rfl ?_
    refine sem_step Gi [tokAt (G0.length + 5) i] (Env.ofL [.bool (is i)]) rfl (by show [tokAt (G0.length + 5) i, ρ.g 44199] = _; rw [hg]; rfl) ⟨_, i, _, _, rfl, cells_ptr hF.a3, boolsN_at is hi, rfl⟩ ?_
    refine sem_no h ?_
    exact look_ft61 hg xd xa xi xt hi hF hM hlo hla hf hst
theorem cut_cells {G : List Ob} {v : Value} {bs : List Int} (h : Cut G v bs) : v.cells.toList = [v] ∧ ∀ cs, v ≠ .tuple cs := by
  rcases h with ⟨rfl, _⟩ | ⟨n, _, _, rfl, _⟩
  · exact ⟨rfl, fun cs e => by cases e⟩
  · exact ⟨rfl, fun cs e => by cases e⟩
theorem put_1 {K : Env → Ex → St → Prop} {G0 : List Ob} {L1 L2 : List PD} {keep : List Int} {ρ : Env} {Gi : List Ob} {v : Value} {i : Nat} (hg : ρ.g 21199 = encG Gi) (xd : ρ.i 1200 = (G0.length + 2 : Nat)) (xa : ρ.i 16200 = (G0.length + 3 : Nat)) (xv : ρ.v 0 = v) (xi : ρ.i 20200 = i) (hi : i < L1.length) (hL : Puts G0 v L1) (h60 : L1.length ≤ 60) (hP : P1 G0 Gi) : treeSem ftpS (ftLQ G0 L1 L2 keep) K ρ ftB1 := by
  obtain ⟨M, A, B, bA, bB, is, hF, hM, hP⟩ := hP
  unfold ftB1
  have hs := sl_keep hF.kp hL.sl
  have o1 := hs.one
  obtain ⟨x, hx⟩ : ∃ x, x = L1[i] := ⟨_, rfl⟩
  have hxm : x ∈ L1 := by rw [hx]; exact List.getElem_mem _
  have hb := body_keep hF.kp (hL.body x hxm).1
  have ox := hb.one
  obtain ⟨m, p, all, q1, q2, q3, q4⟩ := sl_at hs (by decide) (i := ρ.i 20200) (by omega) (by omega)
  have e4 : (all.drop p).take 2 = x.cells := by
    apply List.ext_getElem?
    intro j
    by_cases hj : j < 2
    · rw [List.getElem?_take_of_lt hj, List.getElem?_drop, q4 j hj, xi, Int.toNat_natCast, rowP_at hi hj, hx]
    · rw [List.getElem?_eq_none (by rw [List.length_take]; omega), List.getElem?_eq_none (by show 2 ≤ j; omega)]
  obtain ⟨q, hq, hql⟩ : ∃ q : Nat, pickI x.k 20 = q ∧ q < 20 := by
    have := pick_rng (a := x.k) (b := 20) (by omega) (by omega)
    exact ⟨(pickI x.k 20).toNat, by omega, by omega⟩
  obtain ⟨bs, hbs⟩ : ∃ bs, bs = cut128 x.bs := ⟨_, rfl⟩
  have h128 : bs.length ≤ 128 := by rw [hbs, cut128_len]; omega
  obtain ⟨Gp, hGp⟩ : ∃ Gp, Gp = plG Gi x.k x.v x.bs.length := ⟨_, rfl⟩
  obtain ⟨u, hu⟩ : ∃ u, u = plV Gi x.v := ⟨_, rfl⟩
  have hcut : Cut Gp u bs := by rw [hGp, hu, hbs]; exact pl_cut hb
  have hFp : FS G0 M A B (fun _ => false) bA bB Gp := by rw [hGp]; exact hF.keeps (pl_keeps _ _ _ _).1 (pl_keeps _ _ _ _).2
  have ou := hcut.one
  obtain ⟨w1, w2, w3, w4⟩ := wr_free hM hql h128
  have hws := wr_step hFp.is_ q bs
  have hFw := hFp.disk hws
  have hcw := hcut.keep (frd_rv hFp.is_ hws.fr)
  have hrk := rds_keeps hFw.is_ q bs
  have hFr := hFw.keeps hrk.1 hrk.2
  have hcr := hcw.keep (keeps_rv hrk.1)
  refine sem_step Gi [v, .int .i64 (ρ.i 20200)] _ rfl (by show [oneOf (ρ.v 0), Value.int .i64 (ρ.i 20200), ρ.g 21199] = _; rw [xv, hg, oneOf_eq o1]; rfl) q1 ?_
  refine sem_step Gi [tokAt m p] (Env.ofL [.int .i64 x.k, x.v]) rfl (by show [tokAt m (p + 0), ρ.g 21199] = _; rw [hg]; rfl) ⟨m, p, all, rfl, q2, q3, by show Value.agg #[.int .i64 x.k, oneOf x.v] = _; rw [oneOf_eq ox, e4]; rfl⟩ ?_
  refine sem_step Gi [.agg #[.int .i64 x.k, x.v]] ((Env.ofL [.int .i64 q, u]).ans (encG Gp)) rfl (by show [Value.agg #[.int .i64 x.k, oneOf x.v], ρ.g 21199] = _; rw [hg, oneOf_eq ox]; rfl) ⟨x.k, x.v, x.bs, rfl, hb, hq.symm, hu, by rw [hGp]; rfl⟩ ?_
  refine sem_step Gp [tokAt (G0.length + 2) 0, .int .i64 q, u] ((Env.ofL [.int .i64 0]).ans (encG (wrG Gp (G0.length + 2) M q bs))) rfl (by show [tokAt (ρ.i 1200).toNat 0, Value.int .i64 q, oneOf u, _] = _; rw [xd, oneOf_eq ou]; rfl) ⟨_, M, _, _, bs, rfl, hFp.is_, hcut.sl, w1.symm, rfl⟩ ?_
  refine sem_yes rfl ?_
  refine sem_step (wrG Gp (G0.length + 2) M q bs) [tokAt (G0.length + 2) 0, .int .i64 q, u] ((Env.ofL [.bool true]).ans (encG (rdsG (wrG Gp (G0.length + 2) M q bs) (wrM M q bs) q bs))) rfl (by show [tokAt (ρ.i 1200).toNat 0, Value.int .i64 q, oneOf u, _] = _; rw [xd, oneOf_eq ou]; rfl) ⟨_, _, _, _, bs, rfl, hFw.is_, hcw.sl, by omega, by rw [w4]; rfl, rfl⟩ ?_
  refine sem_yes rfl ?_
  obtain ⟨Gr, hGr⟩ : ∃ Gr, Gr = rdsG (wrG Gp (G0.length + 2) M q bs) (wrM M q bs) q bs := ⟨_, rfl⟩
  rw [← hGr] at hFr hcr ⊢
  refine sem_step Gr [tokAt (G0.length + 3) 0, .int .i64 q] (Env.ofL [.int .i64 (G0.length + 3 : Nat), .int .i64 q]) rfl (by show [tokAt (ρ.i 16200).toNat 0, Value.int .i64 q, _] = _; rw [xa]; rfl) ⟨_, 0, _, _, _, rfl, cells_ptr hFr.a1, by omega, by omega, rfl, by show (q : Int) = ((0 + (q : Int).toNat * 1 : Nat) : Int); omega⟩ ?_
  refine sem_set1 (d := G0.length + 3) (k := q) (v := u) hFr.a1 (by rw [hFr.cA.1]; exact hql) rfl (cut_cells hcr).1 ou (cut_cells hcr).2 (by show [tokAt (G0.length + 3) q, oneOf u, encG Gr] = _; rw [oneOf_eq ou]) ?_
  obtain ⟨hla, hlo, h0⟩ := hP
  refine sem_again (Env.from_ _ 20200 ((Env.ofL [.int .i64 ((i : Int) + 1)]).ans (encG (Gr.set (G0.length + 3) (.ptr (A.set q u)))))) (Env.from_ag _ _ _) ?_ ⟨_, i + 1, rfl, ?_, by omega, _, _, _, _, _, upN is q true, hFr.putA hql hcr h128, w3, by rw [w2]; exact hla, by rw [w2]; exact lo_put hlo hql bs, fun j hj h => ?_⟩ ?_
  · show [Value.int .i64 ((i : Int) + 1), encG _] = [Value.int .i64 (IntKind.i64.wrap (ρ.i 20200 + 1)), encG _]
    rw [xi, wrap_in (by omega) (by omega)]
  · show (i : Int) + 1 = _
    simp
  · unfold upN at h ⊢
    by_cases e : j = q
    · rw [if_pos e] at h; cases h
    · rw [if_neg e] at h ⊢
      exact h0 j hj h
  · show ((L1.length : Int) - ((i : Int) + 1)).toNat < ((L1.length : Int) - ρ.i 20200).toNat
    rw [xi]
    omega
theorem put_2 {K : Env → Ex → St → Prop} {G0 : List Ob} {L1 L2 : List PD} {keep : List Int} {ρ : Env} {Gi : List Ob} {v : Value} {i : Nat} (hg : ρ.g 30199 = encG Gi) (xd : ρ.i 1200 = (G0.length + 2 : Nat)) (xa : ρ.i 17200 = (G0.length + 4 : Nat)) (xc : ρ.i 18200 = (G0.length + 5 : Nat)) (xv : ρ.v 1 = v) (xi : ρ.i 29200 = i) (hi : i < L2.length) (hL : Puts G0 v L2) (h60 : L2.length ≤ 60) (hP : P2 G0 Gi) : treeSem ftpS (ftLQ G0 L1 L2 keep) K ρ ftB2 := by
  obtain ⟨M, A, B, bA, bB, is, hF, hM, hP⟩ := hP
  unfold ftB2
  have hs := sl_keep hF.kp hL.sl
  have o1 := hs.one
  obtain ⟨x, hx⟩ : ∃ x, x = L2[i] := ⟨_, rfl⟩
  have hxm : x ∈ L2 := by rw [hx]; exact List.getElem_mem _
  have hb := body_keep hF.kp (hL.body x hxm).1
  have ox := hb.one
  obtain ⟨m, p, all, q1, q2, q3, q4⟩ := sl_at hs (by decide) (i := ρ.i 29200) (by omega) (by omega)
  have e4 : (all.drop p).take 2 = x.cells := by
    apply List.ext_getElem?
    intro j
    by_cases hj : j < 2
    · rw [List.getElem?_take_of_lt hj, List.getElem?_drop, q4 j hj, xi, Int.toNat_natCast, rowP_at hi hj, hx]
    · rw [List.getElem?_eq_none (by rw [List.length_take]; omega), List.getElem?_eq_none (by show 2 ≤ j; omega)]
  obtain ⟨q, hq, hql⟩ : ∃ q : Nat, pickI x.k 20 = q ∧ q < 20 := by
    have := pick_rng (a := x.k) (b := 20) (by omega) (by omega)
    exact ⟨(pickI x.k 20).toNat, by omega, by omega⟩
  obtain ⟨bs, hbs⟩ : ∃ bs, bs = cut128 x.bs := ⟨_, rfl⟩
  have h128 : bs.length ≤ 128 := by rw [hbs, cut128_len]; omega
  obtain ⟨Gp, hGp⟩ : ∃ Gp, Gp = plG Gi x.k x.v x.bs.length := ⟨_, rfl⟩
  obtain ⟨u, hu⟩ : ∃ u, u = plV Gi x.v := ⟨_, rfl⟩
  have hcut : Cut Gp u bs := by rw [hGp, hu, hbs]; exact pl_cut hb
  have hFp : FS G0 M A B is bA bB Gp := by rw [hGp]; exact hF.keeps (pl_keeps _ _ _ _).1 (pl_keeps _ _ _ _).2
  have ou := hcut.one
  obtain ⟨w1, w2, w3, w4⟩ := wr_free hM hql h128
  have hws := wr_step hFp.is_ q bs
  have hFw := hFp.disk hws
  have hcw := hcut.keep (frd_rv hFp.is_ hws.fr)
  have hrk := rds_keeps hFw.is_ q bs
  have hFr := hFw.keeps hrk.1 hrk.2
  have hcr := hcw.keep (keeps_rv hrk.1)
  refine sem_step Gi [v, .int .i64 (ρ.i 29200)] _ rfl (by show [oneOf (ρ.v 1), Value.int .i64 (ρ.i 29200), ρ.g 30199] = _; rw [xv, hg, oneOf_eq o1]; rfl) q1 ?_
  refine sem_step Gi [tokAt m p] (Env.ofL [.int .i64 x.k, x.v]) rfl (by show [tokAt m (p + 0), ρ.g 30199] = _; rw [hg]; rfl) ⟨m, p, all, rfl, q2, q3, by show Value.agg #[.int .i64 x.k, oneOf x.v] = _; rw [oneOf_eq ox, e4]; rfl⟩ ?_
  refine sem_step Gi [.agg #[.int .i64 x.k, x.v]] ((Env.ofL [.int .i64 q, u]).ans (encG Gp)) rfl (by show [Value.agg #[.int .i64 x.k, oneOf x.v], ρ.g 30199] = _; rw [hg, oneOf_eq ox]; rfl) ⟨x.k, x.v, x.bs, rfl, hb, hq.symm, hu, by rw [hGp]; rfl⟩ ?_
  refine sem_step Gp [tokAt (G0.length + 2) 0, .int .i64 q, u] ((Env.ofL [.int .i64 0]).ans (encG (wrG Gp (G0.length + 2) M q bs))) rfl (by show [tokAt (ρ.i 1200).toNat 0, Value.int .i64 q, oneOf u, _] = _; rw [xd, oneOf_eq ou]; rfl) ⟨_, M, _, _, bs, rfl, hFp.is_, hcut.sl, w1.symm, rfl⟩ ?_
  refine sem_yes rfl ?_
  refine sem_step (wrG Gp (G0.length + 2) M q bs) [tokAt (G0.length + 2) 0, .int .i64 q, u] ((Env.ofL [.bool true]).ans (encG (rdsG (wrG Gp (G0.length + 2) M q bs) (wrM M q bs) q bs))) rfl (by show [tokAt (ρ.i 1200).toNat 0, Value.int .i64 q, oneOf u, _] = _; rw [xd, oneOf_eq ou]; rfl) ⟨_, _, _, _, bs, rfl, hFw.is_, hcw.sl, by omega, by rw [w4]; rfl, rfl⟩ ?_
  refine sem_yes rfl ?_
  obtain ⟨Gr, hGr⟩ : ∃ Gr, Gr = rdsG (wrG Gp (G0.length + 2) M q bs) (wrM M q bs) q bs := ⟨_, rfl⟩
  rw [← hGr] at hFr hcr ⊢
  refine sem_step Gr [tokAt (G0.length + 4) 0, .int .i64 q] (Env.ofL [.int .i64 (G0.length + 4 : Nat), .int .i64 q]) rfl (by show [tokAt (ρ.i 17200).toNat 0, Value.int .i64 q, _] = _; rw [xa]; rfl) ⟨_, 0, _, _, _, rfl, cells_ptr hFr.a2, by omega, by omega, rfl, by show (q : Int) = ((0 + (q : Int).toNat * 1 : Nat) : Int); omega⟩ ?_
  refine sem_set1 (d := G0.length + 4) (k := q) (v := u) hFr.a2 (by rw [hFr.cB.1]; exact hql) rfl (cut_cells hcr).1 ou (cut_cells hcr).2 (by show [tokAt (G0.length + 4) q, oneOf u, encG Gr] = _; rw [oneOf_eq ou]) ?_
  obtain ⟨hla, hlo⟩ := hP
  have hFq := hFr.putB hql hcr h128
  refine sem_step (Gr.set (G0.length + 4) (.ptr (B.set q u))) [tokAt (G0.length + 5) 0, .int .i64 q] (Env.ofL [.int .i64 (G0.length + 5 : Nat), .int .i64 q]) rfl (by show [tokAt (ρ.i 18200).toNat 0, Value.int .i64 q, _] = _; rw [xc]; rfl) ⟨_, 0, _, _, _, rfl, cells_ptr hFq.a3, by omega, by omega, rfl, by show (q : Int) = ((0 + (q : Int).toNat * 1 : Nat) : Int); omega⟩ ?_
  refine sem_set1 (d := G0.length + 5) (k := q) (v := .bool true) hFq.a3 (by simp [boolsN]; omega) rfl rfl rfl (fun cs e => by cases e) rfl ?_
  refine sem_again (Env.from_ _ 29200 ((Env.ofL [.int .i64 ((i : Int) + 1)]).ans (encG ((Gr.set (G0.length + 4) (.ptr (B.set q u))).set (G0.length + 5) (.ptr ((boolsN is).set q (.bool true))))))) (Env.from_ag _ _ _) ?_ ⟨_, i + 1, rfl, ?_, by omega, _, _, _, _, _, upN is q true, hFq.putC, w3, by rw [w2]; exact hla, by rw [w2]; exact lo_put hlo hql bs⟩ ?_
  · show [Value.int .i64 ((i : Int) + 1), encG _] = [Value.int .i64 (IntKind.i64.wrap (ρ.i 29200 + 1)), encG _]
    rw [xi, wrap_in (by omega) (by omega)]
  · show (i : Int) + 1 = _
    simp
  · show ((L2.length : Int) - ((i : Int) + 1)).toNat < ((L2.length : Int) - ρ.i 29200).toNat
    rw [xi]
    omega
end Go.Proofs.Ytcedgoaanlbldaa
