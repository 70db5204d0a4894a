/-
  What is proved: contracts out of walks, and walks out of contracts; no program in sight. No condition.
-/
import Derived.Test.YtigpdnbcjmcfoaaSxM
namespace Go.Proofs.Ytigpdnbcjmcfoaa
namespace Sx
open Go.RowKit

/-- m variables from n on; bools; m times the same. -/
def ivs (k : IntKind) (n m : Nat) : List E := (List.range' n m).map fun i => .int k (.var i)
def bvs (n m : Nat) : List E := (List.range' n m).map fun i => .bool (.var i)
def rep (m : Nat) (e : E) : List E := List.replicate m e
def cats : List (List E) → List E
  | [] => []
  | l :: r => l ++ cats r
def leafT (e : E) (h : Tr (List E)) : Tree := .leaf .ret ⟨0, .node .nil (some e) .nil, h, 0, .nil, 0, 0, []⟩
/-- The variables that a list of cells tells. -/
def Env.ofL (l : List Value) : Env := ⟨fun n => match l[n]? with | some (.int _ x) => x | _ => 0, fun n => match l[n]? with | some (.bool x) => x | _ => false, fun n => match l[n]? with | some v => v | none => undef⟩
section
variable {S : List ConS} {LQ : LoopS} {K : Env → Ex → St → Prop} {ρ : Env}
theorem sem_split {c : C} {t f : Tree} (h1 : c.den ρ = true → treeSem S LQ K ρ t) (h2 : c.den ρ = false → treeSem S LQ K ρ f) : treeSem S LQ K ρ (.split c t f) := ⟨h1, h2⟩
theorem sem_need {c : C} {t : Tree} (h1 : c.den ρ = true) (h2 : treeSem S LQ K ρ t) : treeSem S LQ K ρ (.need c t) := ⟨h1, h2⟩
theorem sem_or1 {t f : Tree} (h : treeSem S LQ K ρ t) : treeSem S LQ K ρ (.or t f) := .inl h
theorem sem_or2 {t f : Tree} (h : treeSem S LQ K ρ f) : treeSem S LQ K ρ (.or t f) := .inr h
theorem sem_call {ci base : Nat} {vs : List E} {t : Tree} (s : ConS) (e : Env) (h1 : S[ci]? = some s) (h2 : s (E.vals ρ lay0 vs) e) (h3 : treeSem S LQ K (ρ.from_ base e) t) : treeSem S LQ K ρ (.call ci base vs t) := ⟨s, e, h1, h2, h3⟩
theorem sem_loop {j nv : Nat} {B : List (Nat × E)} {t : Tree} (ρn : Env) (h0 : ρ.ag nv ρn) (hb : Bound ρ ρn B) (h1 : LQ.inv j nv ρn) (h2 : t.from_ (nv + stride) = true) (h3 : ∀ ρ1 ρ2 : Env, ρ1.ag (nv + stride) ρ2 → LQ.mu j nv ρ2 = LQ.mu j nv ρ1)
    (h4 : ∀ ρ', ρ.ag nv ρ' → LQ.inv j nv ρ' → treeSem S LQ K ρ' t) : treeSem S LQ K ρ (.loop j nv B t) := ⟨⟨ρn, h0, hb, h1⟩, h2, h3, h4⟩
theorem sem_again {j nv : Nat} {B : List (Nat × E)} (ρn : Env) (h0 : ρ.ag nv ρn) (hb : Bound ρ ρn B) (h1 : LQ.inv j nv ρn) (h2 : LQ.mu j nv ρn < LQ.mu j nv ρ) : treeSem S LQ K ρ (.again j nv B) := ⟨ρn, h0, hb, h1, h2⟩
theorem sem_ret {ptrs : List (Nat × Nat × Option (List E))} {res e : E} {sp : Env} {h : Tr (List E)} (h1 : e.noPtr = true) (h2 : e.val ρ lay0 = res.val sp lay0) (h3 : KOuts sp ρ h 0 ptrs) :
    treeSem S LQ (KF ptrs res sp) ρ (leafT e h) := ⟨h1, h2, h3⟩
def noLoops : LoopS := ⟨fun _ _ _ => False, fun _ _ _ => 0⟩
end
section
variable {P : Program} {f : FuncId} {res : E}
theorem con_of_ret {s : ConS} (h : ∀ vs e0, s vs e0 → ∀ w, Calls P f vs.toArray w (Ret (res.val e0 lay0) w)) (hchk : chkCon [] res = true) : (mkCon f [] res).holds P s := by
  intro w args vs qs e0 hp _ hs
  obtain ⟨rfl, rfl⟩ := hp
  unfold chkCon at hchk
  rw [Bool.and_eq_true, Bool.and_eq_true] at hchk
  refine (h _ _ hs w).mono ?_
  rintro e w' ⟨rfl, g, rfl⟩
  refine ⟨Fr.of_below g.below, fun ρ base hat => ⟨fun ι => ?_, fun p q g hz => by cases hz⟩⟩
  show Ending.returned _ = Ending.returned ((res.shift base).val ρ ι)
  rw [E.shift_val hat ι lay0 res hchk.1.1 hchk.1.2]
theorem ret_of_con {s : ConS} (h : (mkCon f [] res).holds P s) (hchk : chkCon [] res = true) {vs : List Value} {e0 : Env} (hs : s vs e0) (w : World) : Calls P f vs.toArray w (Ret (res.val e0 lay0) w) := by
  unfold chkCon at hchk
  rw [Bool.and_eq_true, Bool.and_eq_true] at hchk
  refine (h w vs vs [] e0 ⟨rfl, rfl⟩ trivial hs).mono ?_
  rintro e w' ⟨hfr, hp⟩
  have hat : e0.At 0 e0 := fun j _ => by simp
  have h1 := (hp e0 0 hat).1 lay0
  subst h1
  rw [show ((mkCon f [] res).res 0).val e0 lay0 = res.val e0 lay0 from E.shift_val hat lay0 lay0 res hchk.1.1 hchk.1.2]
  exact Ret.mk (hfr.below fun i x _ ⟨p, q, hz, _⟩ => by cases hz)
theorem holds_or {c : Con} {s s' : ConS} (h : c.holds P s) (h' : c.holds P s') : c.holds P (fun vs e => s vs e ∨ s' vs e) := by
  intro w args vs qs e0 hp ha hs
  rcases hs with hs | hs
  · exact h w args vs qs e0 hp ha hs
  · exact h' w args vs qs e0 hp ha hs
theorem holds_mono {c : Con} {s s' : ConS} (h : c.holds P s) (hs : ∀ vs e, s' vs e → s vs e) : c.holds P s' :=
  fun w args vs qs e0 hp ha h0 => h w args vs qs e0 hp ha (hs _ _ h0)
end
end Sx
end Go.Proofs.Ytigpdnbcjmcfoaa
