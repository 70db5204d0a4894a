/-
  What is proved: contracts out of walks, and walks out of contracts; no program in sight. No condition.
-/
import Derived.Test.YtcedgoaanlbldaaSyM
namespace Go.Proofs.Ytcedgoaanlbldaa
namespace Sx
open Go.RowKit

/-- m variables from n on; bools; m times the same. -/
def ivs (k : IntKind) (n m : Nat) : List E := (List.range' n m).map fun i => .int k (.var i)
def bvs (n m : Nat) : List E := (List.range' n m).map fun i => .bool (.var i)
def rep (m : Nat) (e : E) : List E := List.replicate m e
def cats : List (List E) → List E
  | [] => []
  | l :: r => l ++ cats r
def leafT (e : E) (h : Tr (List E)) : Tree := .leaf .ret ⟨0, .node .nil (some e) .nil, h, 0, .nil, 0, 0, [], 0⟩
def leafG (e : E) (h : Tr (List E)) (g : Nat) : Tree := .leaf .ret ⟨0, .node .nil (some e) .nil, h, 0, .nil, 0, 0, [], g⟩
/-- The variables that a list of cells tells. -/
def Env.ofL (l : List Value) : Env := ⟨fun n => match l[n]? with | some (.int _ x) => x | _ => 0, fun n => match l[n]? with | some (.bool x) => x | _ => false, fun n => match l[n]? with | some v => v | none => undef⟩
/-- With a store in the variable 199. -/
def Env.st (ρ : Env) (g : Value) : Env := ⟨ρ.i, ρ.b, fun i => if i = 199 then g else ρ.v i⟩
/-- An answer with a store. -/
def Env.ans (ρ : Env) (g : Value) : Env := ⟨ρ.i, ρ.b, fun i => if i = gv then g else ρ.v i⟩
section
variable {S : List ConS} {LQ : LoopS} {K : Env → Ex → St → Prop} {ρ : Env}
theorem sem_split {c : C} {t f : Tree} (h1 : c.den ρ = true → treeSem S LQ K ρ t) (h2 : c.den ρ = false → treeSem S LQ K ρ f) : treeSem S LQ K ρ (.split c t f) := ⟨h1, h2⟩
theorem sem_need {c : C} {t : Tree} (h1 : c.den ρ = true) (h2 : treeSem S LQ K ρ t) : treeSem S LQ K ρ (.need c t) := ⟨h1, h2⟩
theorem sem_or1 {t f : Tree} (h : treeSem S LQ K ρ t) : treeSem S LQ K ρ (.or t f) := .inl h
theorem sem_or2 {t f : Tree} (h : treeSem S LQ K ρ f) : treeSem S LQ K ρ (.or t f) := .inr h
theorem sem_call {ci base : Nat} {vs : List E} {t : Tree} (s : ConS) (e : Env) (h1 : S[ci]? = some s) (h2 : s (E.nams ρ lay0 vs) e) (h3 : treeSem S LQ K (ρ.from_ base e) t) : treeSem S LQ K ρ (.call ci base vs t) := ⟨s, e, h1, h2, h3⟩
theorem sem_loop {j nv : Nat} {B : List (Nat × E)} {t : Tree} (ρn : Env) (h0 : ρ.ag nv ρn) (hb : Bound ρ ρn B) (h1 : LQ.inv j nv ρn) (h2 : t.from_ (nv + stride) = true) (h3 : ∀ ρ1 ρ2 : Env, ρ1.ag (nv + stride) ρ2 → LQ.mu j nv ρ2 = LQ.mu j nv ρ1)
    (h4 : ∀ ρ', ρ.ag nv ρ' → LQ.inv j nv ρ' → treeSem S LQ K ρ' t) : treeSem S LQ K ρ (.loop j nv B t) := ⟨⟨ρn, h0, hb, h1⟩, h2, h3, h4⟩
theorem sem_again {j nv : Nat} {B : List (Nat × E)} (ρn : Env) (h0 : ρ.ag nv ρn) (hb : Bound ρ ρn B) (h1 : LQ.inv j nv ρn) (h2 : LQ.mu j nv ρn < LQ.mu j nv ρ) : treeSem S LQ K ρ (.again j nv B) := ⟨ρn, h0, hb, h1, h2⟩
theorem sem_ret {ptrs : List (Nat × Nat × Option (List E))} {res e : E} {sp : Env} {h : Tr (List E)} (h1 : e.noPtr = true) (h2 : e.nam ρ lay0 = res.nam sp lay0) (h3 : KOuts sp ρ h 0 ptrs) :
    treeSem S LQ (KF ptrs res sp 0) ρ (leafT e h) := ⟨h1, h2, h3, .inl rfl⟩
theorem sem_retG {ptrs : List (Nat × Nat × Option (List E))} {res e : E} {sp : Env} {h : Tr (List E)} {g : Nat} (h1 : e.noPtr = true) (h2 : e.nam ρ lay0 = res.nam sp lay0) (h3 : KOuts sp ρ h 0 ptrs) (h4 : ρ.g g = sp.g gv) :
    treeSem S LQ (KF ptrs res sp 2) ρ (leafG e h g) := ⟨h1, h2, h3, .inr h4⟩
def noLoops : LoopS := ⟨fun _ _ _ => False, fun _ _ _ => 0⟩
end
section
variable [Kinds] {P : Program} {f : FuncId} {res : E}
theorem con_of_ret {s : ConS} (h : ∀ vs e0, s vs e0 → (∀ h, vs.map (concE h) = vs) ∧ ∀ w, Calls P f vs.toArray w (Ret (res.nam e0 lay0) w)) (hchk : (chkCon [] res 0 && decide (f < primBase)) = true) : (mkCon f [] res).holds P s := by
  simp only [Bool.and_eq_true, decide_eq_true_eq] at hchk
  obtain ⟨hchk, hfp⟩ := hchk
  refine ⟨⟨fun _ => ?_, fun hp => absurd hp (Nat.not_le.2 hfp)⟩, fun h => absurd rfl h, fun h => absurd rfl h⟩
  intro w args vs qs e0 hh F g hp _ _ hs
  obtain ⟨rfl, rfl⟩ := hp hh (.inl rfl)
  obtain ⟨h1, h2⟩ := h vs e0 hs
  rw [h1]
  unfold chkCon at hchk
  simp only [Bool.and_eq_true] at hchk
  obtain ⟨⟨⟨hgk, hlt⟩, hnop⟩, _⟩ := hchk
  have hno : res.noH = true := by simpa using hgk
  refine (h2 w).mono ?_
  rintro e w' ⟨rfl, g, rfl⟩
  refine ⟨hh, F, ?_, fun ρ base hat => ⟨fun ι _ => ?_, fun p q g hz => by cases hz⟩⟩
  · exact ⟨Fr.of_below g.below, rfl⟩
  · show Ending.returned _ = Ending.returned ((res.shift base).val ρ ι)
    rw [E.shift_val hat (ι := ι) (ι' := ι) rfl res hlt (E.ptr_adr hnop), E.nam_noH _ ι lay0 _ hno]
theorem ret_of_con {s : ConS} (h : (mkCon f [] res).holds P s) (hchk : (chkCon [] res 0 && decide (f < primBase)) = true) {vs : List Value} {e0 : Env} (hs : s vs e0) (hv : ∀ h, vs.map (concE h) = vs) (w : World) : Calls P f vs.toArray w (Ret (res.nam e0 lay0) w) := by
  simp only [Bool.and_eq_true, decide_eq_true_eq] at hchk
  obtain ⟨hchk, hfp⟩ := hchk
  unfold chkCon at hchk
  simp only [Bool.and_eq_true] at hchk
  obtain ⟨⟨⟨hgk, hlt⟩, hnop⟩, _⟩ := hchk
  have h' := h.1.1 hfp w vs vs [] e0 (fun _ => OneV.undef) (fun _ _ => False) Kinds.none (fun h' _ => ⟨(hv h').symm, rfl⟩) trivial (fun hne => absurd rfl hne) hs
  refine h'.mono ?_
  rintro e w' ⟨h2, F2, hG, hp⟩
  have hat : e0.At 0 e0 := fun j _ => by simp
  have h1 := (hp e0 0 hat).1 ⟨lay0, fun _ => OneV.undef⟩ fun n hn => by simp [mkCon] at hn
  subst h1
  have hs := E.shift_val hat (ι := ⟨lay0, fun _ => OneV.undef⟩) (ι' := ⟨lay0, fun _ => OneV.undef⟩) rfl res hlt (E.ptr_adr hnop)
  have hno : res.noH = true := by simpa using hgk
  rw [show ((mkCon f [] res).res 0).val e0 ⟨lay0, fun _ => OneV.undef⟩ = res.nam e0 lay0 from hs.trans (E.nam_noH _ _ _ _ hno)]
  have hfr : Fr (OutS [] []) w w' := hG.1
  exact Ret.mk (hfr.below fun i x _ ⟨p, q, hz, _⟩ => by cases hz)
theorem holds_or {c : Con} {s s' : ConS} (h : c.holds P s) (h' : c.holds P s') : c.holds P (fun vs e => s vs e ∨ s' vs e) := by
  refine ⟨⟨fun hp => ?_, fun hp => ?_⟩, fun hr => ⟨(h.2.1 hr).1, fun vs g g' e hx hd => ?_⟩, fun hw vs g e hs => ?_⟩
  · intro w args vs qs e0 hh F g hpt ha hg hs
    rcases hs with hs | hs
    · exact h.1.1 hp w args vs qs e0 hh F g hpt ha hg hs
    · exact h'.1.1 hp w args vs qs e0 hh F g hpt ha hg hs
  · intro o ho a w vs e0 hh F g hv hk hs
    rcases hs with hs | hs
    · exact h.1.2 hp o ho a w vs e0 hh F g hv hk hs
    · exact h'.1.2 hp o ho a w vs e0 hh F g hv hk hs
  · exact or_congr ((h.2.1 hr).2 vs g g' e hx hd) ((h'.2.1 hr).2 vs g g' e hx hd)
  · rcases hs with hs | hs
    · exact h.2.2 hw vs g e hs
    · exact h'.2.2 hw vs g e hs
/-- A contract says how it lets the store grow. -/
theorem holds_wr {c : Con} {s : ConS} (k : Nat) (h : c.holds P s) (hx : ∀ vs g e, s (vs ++ [g]) e → Kinds.ext k g (e.g gv)) : ({ c with wr := k } : Con).holds P s := ⟨h.1, h.2.1, fun _ => hx⟩
theorem holds_mono {c : Con} {s s' : ConS} (h : c.holds P s) (hr : c.rd = 0) (hs : ∀ vs e, s' vs e → s vs e) : c.holds P s' :=
  ⟨⟨fun hp w args vs qs e0 hh F g hpt ha hg h0 => h.1.1 hp w args vs qs e0 hh F g hpt ha hg (hs _ _ h0), fun hp o ho a w vs e0 hh F g hv hk h0 => h.1.2 hp o ho a w vs e0 hh F g hv hk (hs _ _ h0)⟩, fun h0 => absurd hr h0, fun hw vs g e h0 => h.2.2 hw vs g e (hs _ _ h0)⟩
end
end Sx
end Go.Proofs.Ytcedgoaanlbldaa
