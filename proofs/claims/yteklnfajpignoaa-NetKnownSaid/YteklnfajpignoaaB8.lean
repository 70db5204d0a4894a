/- What is proved: the contract of a net's Deliver. No condition. -/
import Derived.Test.YteklnfajpignoaaB7
namespace Go.Proofs.Yteklnfajpignoaa
open Sx
set_option maxRecDepth 100000

def boolV : Value → Bool
  | .bool b => b
  | _ => false
/-- Is the way cut? -/
noncomputable def isCut (N : NetM) (a b : Int) : Bool := boolV ((getL N.cuts (keyOf a b)).getD (.bool false))
theorem isCut_eq {N : NetM} (h : ∀ p ∈ N.cuts, IntsKey 2 .i64 p.1 ∧ ∃ b, p.2 = .bool b) (a b : Int) : (getL N.cuts (keyOf a b)).getD (.bool false) = .bool (isCut N a b) := by
  unfold isCut
  cases hg : getL N.cuts (keyOf a b) with
  | none => rfl
  | some v =>
    obtain ⟨p, hp, rfl⟩ := getL_mem hg
    obtain ⟨c, hc⟩ := (h p hp).2
    rw [Option.getD_some, hc]
    rfl
noncomputable def dlvOk (N : NetM) (k : Int) : Bool := lookB N k && !isCut N (lookO N k).f (lookO N k).t
def dlvN1 (N : NetM) : NetM := { N with delivered := inc N.delivered }
def dlvG1 (G : List Ob) (x : Nat) (N : NetM) (k : Int) : List Ob := (lookG G N k).set x (.ptr (dlvN1 N).cells)
noncomputable def dlvN (G : List Ob) (x : Nat) (N : NetM) (k : Int) : NetM := if dlvOk N k then goN (dlvG1 G x N k) (dlvN1 N) k else N
noncomputable def dlvG (G : List Ob) (x : Nat) (N : NetM) (k : Int) : List Ob := if dlvOk N k then goG (dlvG1 G x N k) x (dlvN1 N) k else lookG G N k
noncomputable def dlvL (G : List Ob) (N : NetM) (k : Int) : Lt := if dlvOk N k then lookL G N k else ⟨0, 0, .slice none 0 0, []⟩
theorem Step.dlv {G : List Ob} {x : Nat} {N : NetM} (h : IsNet G x N) (k : Int) : Step x N G (dlvN G x N k) (dlvG G x N k) := by
  have h0 := Step.look h k
  unfold dlvN dlvG
  by_cases hb : dlvOk N k = true
  rotate_left
  · rw [if_neg hb, if_neg hb]; exact h0
  rw [if_pos hb, if_pos hb]
  have h1 : Step x N (lookG G N k) (dlvN1 N) (dlvG1 G x N k) := Step.put h0.is_ rfl rfl rfl rfl
  exact h0.trans (h1.trans (Step.go h1.is_ k))
def dlvR (G : List Ob) (l : List Value) (e : Env) : Prop := ∃ x N k, l = [tokAt x 0, .int .i64 k] ∧ IsNet G x N ∧ e.i 0 = (dlvL G N k).f ∧ e.i 1 = (dlvL G N k).t ∧ e.v 2 = (dlvL G N k).v ∧ e.b 3 = dlvOk N k ∧ e.g gv = encG (dlvG G x N k)
def dlvC : Con := mkCon 24 [] (.tup [.agg (letE 0), .bool (.var 3)]) 2
def treeDeliver : Tree :=
 (.call 2 4200 [(.pla (.var 0) (.lit 0) 0), (.int .i64 (.var 1)), (.var 199)]
 (.call 1 16200 [(.pla (.var 0) (.lit 0) 0), (.int .i64 (.var 4200)), (.int .i64 (.var 4201)), (.var 5199)]
 (.split (.var 4203)
 (.call 7 28200 [(.pla (.var 0) (.lit 0) 2), (.var 17199)]
 (.call 23 30200 [(.hnd 28200), (.agg ([(.int .i64 (.var 16200)), (.int .i64 (.var 16201))])), (.var 17199)]
 (.call 4 36200 [(.bool (.not (.var 30200))), (.pla (.var 0) (.lit 0) 5), (.var 17199)]
 (.split (.var 36200)
 (.call 6 42200 [(.pla (.var 0) (.lit 0) 1), (.var 37199)]
 (.call 0 46200 [(.hnd 42200), (.int .i64 (.var 1)), (.int .i64 (.bin .add .i64 (.var 1) (.lit 1))), (.var 37199)]
 (.call 14 49200 [(.pla (.var 0) (.lit 0) 1), (.hnd 46200), (.var 47199)]
 (leafG (.tup ([(.agg ([(.int .i64 (.var 4200)), (.int .i64 (.var 4201)), (.hnd 4202)])), (.bool (.lit true))])) .nil 50199))))
 (leafG (.tup ([(.agg ([(.int .i64 (.lit 0)), (.int .i64 (.lit 0)), (.lit (.slice none 0 0))])), (.bool (.lit false))])) .nil 37199)))))
 (.call 4 36200 [(.bool (.lit false)), (.pla (.var 0) (.lit 0) 5), (.var 17199)]
 (.split (.var 36200)
 (.call 6 42200 [(.pla (.var 0) (.lit 0) 1), (.var 37199)]
 (.call 0 46200 [(.hnd 42200), (.int .i64 (.var 1)), (.int .i64 (.bin .add .i64 (.var 1) (.lit 1))), (.var 37199)]
 (.call 14 49200 [(.pla (.var 0) (.lit 0) 1), (.hnd 46200), (.var 47199)]
 (leafG (.tup ([(.agg ([(.int .i64 (.var 4200)), (.int .i64 (.var 4201)), (.hnd 4202)])), (.bool (.lit true))])) .nil 50199))))
 (leafG (.tup ([(.agg ([(.int .i64 (.lit 0)), (.int .i64 (.lit 0)), (.lit (.slice none 0 0))])), (.bool (.lit false))])) .nil 37199))))))
theorem dlv_holds : dlvC.holds Try.prog (conR dlvR) := by
  refine con_of_runG (cs := c3) (S := c3S) (LT := []) (depth := 1) (fuel := 10) (nv := 200) (av := [net, .int .i64 (.var 1)]) (T := treeDeliver) c3_holds (by kernel_rfl) (by kernel_rfl) (by kernel_rfl) ?_
  rintro G l e0 ⟨x, N, k, rfl, hN, q0, q1, q2, q3, hG⟩
  have hl1 := lookL_one G N k
  refine ⟨noLoops, (Env.ofL [.int .i64 x, .int .i64 k]).st (encG G), rfl, rfl, ?_⟩
  have h0 := Step.look hN k
  refine sem_step G [tokAt x 0, .int .i64 k] ((Env.ofL ((lookL G N k).cells ++ [.bool (lookB N k)])).ans (encG (lookG G N k))) rfl rfl ⟨x, N, k, rfl, hN, rfl, rfl, rfl, rfl, rfl⟩ ?_
  refine sem_step (lookG G N k) [tokAt x 0, .int .i64 (lookL G N k).f, .int .i64 (lookL G N k).t] ((Env.ofL [.int .i64 (intMin (lookL G N k).f (lookL G N k).t), .int .i64 (intMax (lookL G N k).f (lookL G N k).t), .bool (wayB N.nodes (lookL G N k).f (lookL G N k).t)]).ans (encG (lookG G N k))) rfl rfl ⟨x, N, _, _, rfl, h0.is_, rfl, rfl, rfl, rfl⟩ ?_
  have hone : ∀ b, oneG (lookG G N k) x 5 N.cells N.delivered b = if b then dlvG1 G x N k else lookG G N k := fun b => rfl
  have bad : dlvOk N k = false → ∀ (ρ : Env) (g : Nat) (h : Tr (List E)), ρ.g g = encG (lookG G N k) → treeSem c3S noLoops (KF [] (.tup [.agg (letE 0), .bool (.var 3)]) e0 2) ρ (leafG (.tup [.agg [.int .i64 (.lit 0), .int .i64 (.lit 0), .lit (.slice none 0 0)], .bool (.lit false)]) h g) := fun hb ρ g h hg => by
    unfold dlvL at q0 q1 q2
    unfold dlvG at hG
    rw [if_neg (by rw [hb]; simp)] at q0 q1 q2 hG
    refine sem_retG rfl ?_ trivial (by rw [hG, hg])
    show _ = Value.tuple #[.agg #[.int .i64 (e0.i 0), .int .i64 (e0.i 1), oneOf (e0.v 2)], .bool (e0.b 3)]
    rw [q0, q1, q2, q3, hb]
    rfl
  refine sem_split (fun h => ?_) (fun h => ?_)
  · have hb : lookB N k = true := h
    refine sem_step (lookG G N k) [tokAt x 2] (Env.ofL [tok N.m]) rfl rfl ⟨x, 2, _, tok N.m, rfl, cells_ptr h0.is_.ob, rfl, rfl⟩ ?_
    have hlo : (lookL G N k).f = (lookO N k).f ∧ (lookL G N k).t = (lookO N k).t := by unfold lookL; rw [if_pos hb]; exact ⟨rfl, rfl⟩
    refine sem_step (lookG G N k) [tok N.m, keyOf (lookL G N k).f (lookL G N k).t] (Env.ofL [.bool (isCut N (lookO N k).f (lookO N k).t)]) rfl rfl ⟨N.m, N.cuts, _, rfl, h0.is_.map, keyOf_ok _ _, fun p hp => (hN.keys p hp).1, ?_⟩ ?_
    · rw [hlo.1, hlo.2, isCut_eq hN.keys]
      rfl
    have hok : dlvOk N k = !isCut N (lookO N k).f (lookO N k).t := by unfold dlvOk; rw [hb]; rfl
    refine sem_step (lookG G N k) [.bool (!isCut N (lookO N k).f (lookO N k).t), tokAt x 5] ((Env.ofL [.bool (!isCut N (lookO N k).f (lookO N k).t)]).ans (encG (oneG (lookG G N k) x 5 N.cells N.delivered (!isCut N (lookO N k).f (lookO N k).t)))) rfl rfl ⟨_, x, 5, _, N.delivered, rfl, h0.is_.ob, rfl, rfl, rfl⟩ ?_
    rw [← hok]
    by_cases hd : dlvOk N k = true
    · rw [hd, hone, if_pos rfl]
      unfold dlvL at q0 q1 q2
      unfold dlvG at hG
      rw [if_pos hd] at q0 q1 q2 hG
      refine sem_split (fun _ => ?_) (fun h => by cases h)
      have h1 : Step x N (lookG G N k) (dlvN1 N) (dlvG1 G x N k) := Step.put h0.is_ rfl rfl rfl rfl
      refine sem_go (k := k) h1.is_ hb rfl (fun d _ => rfl) (fun d _ => rfl) fun d _ => ?_
      refine sem_retG rfl ?_ trivial (by rw [hG]; rfl)
      show Value.tuple #[.agg #[.int .i64 (lookL G N k).f, .int .i64 (lookL G N k).t, oneOf (lookL G N k).v], .bool true] = Value.tuple #[.agg #[.int .i64 (e0.i 0), .int .i64 (e0.i 1), oneOf (e0.v 2)], .bool (e0.b 3)]
      rw [q0, q1, q2, q3, hd]
    · have hd : dlvOk N k = false := by simpa using hd
      rw [hd, hone, if_neg (by simp)]
      refine sem_split (fun h => by cases h) (fun _ => ?_)
      exact bad hd _ _ _ rfl
  · have hb : lookB N k = false := h
    have hd : dlvOk N k = false := by unfold dlvOk; rw [hb]; rfl
    refine sem_step (lookG G N k) [.bool false, tokAt x 5] ((Env.ofL [.bool false]).ans (encG (lookG G N k))) rfl rfl ⟨_, x, 5, _, N.delivered, rfl, h0.is_.ob, rfl, rfl, rfl⟩ ?_
    refine sem_split (fun h => by cases h) (fun _ => ?_)
    exact bad hd _ _ _ rfl
end Go.Proofs.Yteklnfajpignoaa
