/-
  What is proved: a region's operations come to the same symbolic state in whatever order; no program in sight. Condition: the contracts hold.
-/
import Derived.Test.YtcedgoaanlbldaaSyG
namespace Go.Proofs.Ytcedgoaanlbldaa
namespace Sx
open Go.RowKit

section
variable {P : Program} {cs : List Con} {S : List ConS} {ops : Array Oper} {nk nv : Nat} {ρ : Env} {ι : Lay} {w0 : Base} {σ σ' : St} {a : Act} {w w' : World} {dst : Option Tmp} {f : Eff}

/-- What the operation i is about to do. -/
def pickE (P : Program) (cs : List Con) (ops : Array Oper) (nk nv : Nat) (i : Nat) (σ : St) : Option (Option Tmp × Eff) := match ops[i]? with
  | none => some (none, skipEff)
  | some o => match guardE ops σ o with
    | none => none
    | some c => match c.simp σ.pc with
      | .lit true => match effE P cs nk nv σ i o with
        | some f => some (o.dst, f)
        | none => none
      | .lit false => some (o.dst, skipEff)
      | _ => none
theorem app_skip (σ : St) : σ.app none skipEff = some σ := rfl
theorem stepE_ok {i : Nat} {ns : List C} {ca : Option (Nat × Nat × List E)} : stepE P cs ops nk nv i σ = .ok ns ca σ' ↔ ∃ d f, pickE P cs ops nk nv i σ = some (d, f) ∧ σ.app d f = some σ' ∧ f.ns = ns ∧ f.call = ca := by
  unfold stepE pickE
  constructor
  · intro h
    split at h
    · rename_i ho; cases h; exact ⟨none, skipEff, by simp [ho], app_skip σ, rfl, rfl⟩
    · rename_i o ho
      simp only [ho]
      split at h
      · cases h
      · rename_i c hg
        simp only [hg]
        split at h
        · rename_i hc
          simp only [hc]
          split at h
          · rename_i f hf
            simp only [hf]
            split at h
            · rename_i σ'' ha; cases h; exact ⟨_, _, rfl, ha, rfl, rfl⟩
            · cases h
          · split at h
            · split at h <;> cases h
            · split at h <;> cases h
            · cases h
        · rename_i hc
          simp only [hc]
          split at h
          · rename_i σ'' ha; cases h; exact ⟨_, _, rfl, ha, rfl, rfl⟩
          · cases h
        · cases h
  · rintro ⟨d, f, hp, ha, rfl, rfl⟩
    split at hp
    · rename_i ho; cases hp; simp only [ho]; rw [app_skip] at ha; cases ha; rfl
    · rename_i o ho
      simp only [ho]
      split at hp
      · cases hp
      · rename_i c hg
        simp only [hg]
        split at hp
        · rename_i hc
          simp only [hc]
          split at hp
          · rename_i f hf
            cases hp
            simp only [hf, ha]
          · cases hp
        · rename_i hc
          cases hp
          simp only [hc, ha]
          rfl
        · cases hp

theorem step_ok [Kinds] (hC : Cons P cs S) {i : Nat} (h : A P cs S ops nk nv ρ i σ σ') (hs : Sim ρ w0 σ a w) {Q : Exit → Act → World → Prop} : wpOp P ops Q i (Sim ρ w0 σ') a w := by
  obtain ⟨ns, ca, hst, hns, hca⟩ := h
  unfold stepE at hst
  unfold wpOp
  split at hst
  · rename_i ho; cases hst; simp only [ho]; exact hs
  · rename_i o ho
    simp only [ho]
    obtain ⟨ι, F, hι⟩ := hs
    have h0 := hι ρ (Env.ag_refl _ _) ι (σ.agL_refl ρ ι)
    split at hst
    · cases hst
    · rename_i c hg
      have hw := guard_ok h0.held hg
      have hd := C.den_simp h0.pc c
      split at hst
      · rename_i hc
        rw [hc] at hd
        simp only [C.den] at hd
        rw [← hd] at hw
        rw [if_pos hw]
        split at hst
        · rename_i f hf
          split at hst
          · rename_i σ'' ha
            cases hst
            exact .inl (eff_ok hC hf ha hns hca ⟨ι, F, hι⟩)
          · cases hst
        · split at hst
          · split at hst <;> cases hst
          · split at hst <;> cases hst
          · cases hst
      · rename_i hc
        rw [hc] at hd
        simp only [C.den] at hd
        rw [← hd] at hw
        rw [if_neg (by rw [hw]; decide)]
        split at hst
        · rename_i σ'' ha
          cases hst
          obtain ⟨e1, e2, e3, e4, e5, e6, e7⟩ := app_heap ha
          simp only [skipEff, Option.getD_none] at e7
          refine ⟨ι, F, fun ρ' hr ι' hi => ?_⟩
          have h2 := hι ρ' (by rw [← e5]; exact hr) ι' ⟨fun b hb => hi.1 b (by rw [e1]; exact hb), fun n hn => hi.2 n (by rw [e7]; exact hn)⟩
          exact h2.app ha (Fr.refl (fun _ _ => False) w) rfl (fun _ h => by cases h) List.nodup_nil rfl (fun _ _ h => by cases h) (fun _ _ h => by cases h) (fun _ _ _ h => h.elim) (by rw [e7]; exact h2.gho) (fun _ _ h => .inl h) (by rw [e7]; exact Nat.le_refl _) (by rw [e7, e5]; exact h2.glt)
        · cases hst
      · cases hst

/-- What can be told of a step is what some run comes to. -/
theorem wpOp_some {i : Nat} {K : Act → World → Prop} (h : wpOp P ops (fun _ _ _ => False) i K a w) : ∃ a' w', K a' w' := by
  unfold wpOp at h
  split at h
  · exact ⟨_, _, h⟩
  · split at h
    · rcases h with h | ⟨_, _, _, h⟩
      · unfold Oper.wp at h
        generalize (execOp a.eval ‹_›).run P w = r at h
        cases r with
        | ok n w' =>
          cases n <;> simp only [Oper.upon] at h <;> first
            | exact ⟨_, _, h⟩
            | (obtain ⟨e, w'', fr, hR, _⟩ := h []
               cases e with
               | returned v => exact ⟨_, _, hR⟩
               | panicked c => exact hR.elim
               | outgrown => obtain ⟨_, _, h⟩ := hR; exact h.elim)
            | (obtain ⟨v, w'', hR, _⟩ := h default []; exact ⟨_, _, hR⟩)
            | exact h.elim
        | halt x w' => cases x <;> simp only [Oper.upon] at h
      · exact h.elim
    · exact ⟨_, _, h⟩
/-- Some run comes to it. -/
def Real [Kinds] (ρ : Env) (σ : St) : Prop := ∃ w0 a w, Sim ρ w0 σ a w
theorem Real.step [Kinds] (hC : Cons P cs S) {i : Nat} (h : A P cs S ops nk nv ρ i σ σ') (hs : Real ρ σ) : Real ρ σ' := by
  obtain ⟨w0, a, w, hs⟩ := hs
  obtain ⟨a', w', h'⟩ := wpOp_some (step_ok hC h hs)
  exact ⟨w0, a', w', h'⟩
theorem Real.no_dangling [Kinds] (h : Real ρ σ) {x : Operand} {e : E} (hx : σ.opnd x = some e) {b : Nat} (hb : b ∈ e.pts) : (σ.heap.get b).isSome := by
  obtain ⟨_, _, _, h⟩ := h
  exact h.no_dangling hx hb

/-- How an operation touches blocks: 0: not at all; 1: it reads; 2: it writes; 3: it lays one. -/
def clsE (cs : List Con) : Op → Nat
  | .load _ _ => 1
  | .store _ _ _ => 2
  | .alloc _ => 3
  | .box _ _ => 3
  | .buildSlice _ _ _ => 3
  | .makeSlice _ _ _ => 3
  | .call c => match c.callee with
    | .builtin _ => 0
    | .value (.func f) => match findCon cs 0 f with
      | some (_, c) => if c.ptrs.isEmpty then 0 else if c.ptrs.all (fun p => p.2.2.isNone) then 1 else 2
      | none => 2
    | _ => 2
  | _ => 0

/-- The contract that an operation comes to. -/
def conOf (cs : List Con) (op : Op) : Option Con := match primKey op with
  | some k => (findCon cs 0 k).map (·.2)
  | none => match op with
    | .call c => match c.callee with
      | .value (.func f) => (findCon cs 0 f).map (·.2)
      | _ => none
    | _ => none
def farOp : Op → Bool
  | .call c => match c.callee with
    | .value (.func _) => false
    | .value _ => true
    | _ => false
  | _ => false
/-- Does it ask the store? Does it turn it? -/
def gR (cs : List Con) (op : Op) : Bool := farOp op || (match conOf cs op with | some c => c.gh != 0 | none => false)
def gW (cs : List Con) (op : Op) : Bool := farOp op || (match conOf cs op with | some c => c.gh == 2 | none => false)
/-- How far what it asks stays; how it lets the store grow. -/
def rdOf (cs : List Con) (op : Op) : Nat := match primKey op with
  | some k => match findCon cs 0 k with | some (_, c) => c.rd | none => 0
  | none => 0
def wrOf (cs : List Con) (op : Op) : Nat := if farOp op then 0 else match conOf cs op with | some c => c.wr | none => 0
def stOk (cs : List Con) (om ox : Op) : Bool := !gW cs om || (!gW cs ox && (!gR cs ox || (decide (wrOf cs om ≠ 0) && decide (wrOf cs om ≤ rdOf cs ox))))
theorem opnds_congr {τ : St} : ∀ {l : List Operand}, (∀ x ∈ l, τ.opnd x = σ.opnd x) → τ.opnds l = σ.opnds l
  | [], _ => rfl
  | x :: l, h => by unfold St.opnds; rw [h x (List.mem_cons_self ..), opnds_congr fun y hy => h y (List.mem_cons_of_mem _ hy)]
theorem parts_congr {τ : St} : ∀ {l : List (Nat × Operand)}, (∀ p ∈ l, τ.opnd p.2 = σ.opnd p.2) → τ.parts l = σ.parts l
  | [], _ => rfl
  | (i, x) :: l, h => by unfold St.parts; rw [h (i, x) (List.mem_cons_self ..), parts_congr fun y hy => h y (List.mem_cons_of_mem _ hy)]
theorem lits_congr {τ : St} : ∀ {l : List Operand}, (∀ x ∈ l, τ.opnd x = σ.opnd x) → litsOf τ l = litsOf σ l
  | [], _ => rfl
  | x :: l, h => by unfold litsOf litOf; rw [h x (List.mem_cons_self ..), lits_congr fun y hy => h y (List.mem_cons_of_mem _ hy)]
/-- The blocks that an operation may ask are the same. -/
def Touch (cs : List Con) (o : Oper) (σ τ : St) : Prop := ((clsE cs o.op = 1 ∨ clsE cs o.op = 2) → ∀ x e b, σ.opnd x = some e → x ∈ o.op.operands → b ∈ e.pts → τ.heap.get b = σ.heap.get b)

theorem opE_congr {τ : St} {o : Oper} (hx : ∀ x ∈ o.op.operands, τ.opnd x = σ.opnd x) (hp : τ.pc = σ.pc) (ht : Touch cs o σ τ) : opE P τ o = opE P σ o := by
  obtain ⟨dst, op, ty, pos, after, guard⟩ := o
  cases op <;> simp only [Op.operands] at hx <;> simp only [opE]
  case move x => rw [hx x (by simp)]
  case assign x => rw [hx x (by simp)]
  case pick c x y => rw [hx c (by simp), hx x (by simp), hx y (by simp), hp]
  case box t x => rw [hx x (by simp)]
  case build t ps =>
    have h1 : τ.parts ps.toList = σ.parts ps.toList := parts_congr fun p hp => hx p.2 (by
      simp only [List.mem_toArray, List.mem_map]
      exact ⟨p, hp, rfl⟩)
    rw [h1]
  case load t x =>
    rw [hx x (by simp)]
    cases hq : σ.opnd x with
    | none => rfl
    | some e => cases e <;> first | rfl | (simp only; rw [ht (.inl rfl) x _ _ hq (by simp [Op.operands]) (by simp [E.pts])])
  case store t x y =>
    rw [hx x (by simp), hx y (by simp)]
    cases hq : σ.opnd x with
    | none => rfl
    | some e => cases σ.opnd y <;> cases e <;> first | rfl | (simp only; rw [ht (.inr rfl) x _ _ hq (by simp [Op.operands]) (by simp [E.pts])])
  case nilCheck x => rw [hx x (by simp)]
  case binOp b t x y t2 =>
    rw [hx x (by simp), hx y (by simp)]
  case unOp b t x => rw [hx x (by simp)]
  case convert s d x => rw [hx x (by simp)]
  case makeInterface t x => rw [hx x (by simp)]
  case makeFunc fn fi ca =>
    have h1 : τ.opnds ca.toList = σ.opnds ca.toList := opnds_congr fun x h => hx x (Array.mem_append_right _ (by simpa using h))
    rw [h1]
  case fieldAddr s x f => rw [hx x (by simp)]
  case field t x f => rw [hx x (by simp)]
  case indexAddr t x i => rw [hx x (by simp), hx i (by simp)]
  case index t x i => rw [hx x (by simp), hx i (by simp)]
  case extract x i => rw [hx x (by simp)]
  case call c =>
    rw [opnds_congr fun x h => hx x (by simp only [Call.operands]; exact Array.mem_append_right _ (by simpa using h))]
    cases hc : c.callee with
    | value f =>
      have hf := hx f (by simp [Call.operands, hc])
      cases σ.opnds c.args.toList with
      | none => rfl
      | some as => simp only [hf]
    | invoke r m => cases σ.opnds c.args.toList <;> rfl
    | builtin b => cases σ.opnds c.args.toList <;> cases b <;> rfl
theorem opLit_congr {τ : St} {o : Oper} (hx : ∀ x ∈ o.op.operands, τ.opnd x = σ.opnd x) : opLit P τ o = opLit P σ o := by
  unfold opLit
  split
  · rfl
  · rw [lits_congr fun x h => hx x (by simpa using h)]
theorem boundE_congr {τ : St} {d : Nat} {x : Option Operand} (h : ∀ y, x = some y → τ.opnd y = σ.opnd y) : boundE τ d x = boundE σ d x := by
  cases x with
  | none => rfl
  | some y => simp only [boundE]; rw [h y rfl]
theorem opS_congr {τ : St} {o : Oper} (hx : ∀ x ∈ o.op.operands, τ.opnd x = σ.opnd x) (ht : Touch cs o σ τ) : opS P τ o = opS P σ o := by
  obtain ⟨dst, op, ty, pos, after, guard⟩ := o
  cases op <;> simp only [Op.operands] at hx <;> simp only [opS]
  case buildSlice t len ps =>
    have h1 : τ.parts ps.toList = σ.parts ps.toList := parts_congr fun p hp => hx p.2 (by
      simp only [List.mem_toArray, List.mem_map]
      exact ⟨p, hp, rfl⟩)
    rw [h1]
  case load t x =>
    rw [hx x (by simp)]
    cases hq : σ.opnd x with
    | none => rfl
    | some e => cases e <;> first | rfl | (simp only; rw [ht (.inl rfl) x _ _ hq (by simp [Op.operands]) (by simp [E.pts])])
  case makeSlice t x i => rw [hx x (by simp), hx i (by simp)]
  case indexAddr t x i => rw [hx x (by simp), hx i (by simp)]
  case binOp b t x y t2 => rw [hx x (by simp), hx y (by simp)]
  case slice t x lo hi mx =>
    cases mx with
    | some m => rfl
    | none =>
      have e1 : ∀ d, boundE τ d lo = boundE σ d lo := fun d => boundE_congr fun y hy => hx y (by subst hy; simp)
      have e2 : ∀ d, boundE τ d hi = boundE σ d hi := fun d => boundE_congr fun y hy => hx y (by subst hy; simp)
      simp only [hx x (by simp), e1, e2]
  case call c =>
    rw [opnds_congr fun x h => hx x (by simp only [Call.operands]; exact Array.mem_append_right _ (by simpa using h))]
    cases hc : c.callee with
    | value f => simp only [hx f (by simp [Call.operands, hc])]
    | invoke r m => rfl
    | builtin b => cases b <;> rfl
theorem opX_congr {τ : St} {o : Oper} (hx : ∀ x ∈ o.op.operands, τ.opnd x = σ.opnd x) (hp : τ.pc = σ.pc) (ht : Touch cs o σ τ) : opX P τ o = opX P σ o := by
  unfold opX
  rw [opE_congr hx hp ht, opS_congr hx ht, opLit_congr hx]
theorem opX_call {o : Oper} {fid : FuncId} {args : List E} {ns : List C} (h : opX P σ o = some (.call fid args, ns)) : ∃ c as l f, o.op = .call c ∧ c.callee = .value f ∧ σ.opnds c.args.toList = some as ∧ σ.opnd f = some (.func (.func fid) l) ∧ args = as ++ l := by
  unfold opX at h
  split at h
  · rename_i r hr
    cases h
    unfold opE at hr
    split at hr
    all_goals try (cases hr; done)
    all_goals first
      | (rename_i c hc
         split at hr
         · rename_i f as h1 h2
           split at hr
           · rename_i fid' l h3
             split at hr
             · cases hr; exact ⟨c, as, l, f, hc, h1, h2, h3, rfl⟩
             · cases hr
           · cases hr
         · split at hr <;> cases hr
         · split at hr <;> cases hr
         · cases hr)
      | (exfalso; repeat' (first | (cases hr; done) | split at hr))
  · split at h
    · rename_i r hr
      cases h
      unfold opS at hr
      exfalso
      repeat' (first | (cases hr; done) | split at hr)
    · split at h <;> cases h
theorem opX_store {o : Oper} {b k : Nat} {c : List E} {ns : List C} (h : opX P σ o = some (.store b k c, ns)) : ∃ t x y, o.op = .store t x y ∧ σ.opnd x = some (.ptr b k) := by
  unfold opX at h
  split at h
  · rename_i r hr
    cases h
    unfold opE at hr
    split at hr
    all_goals try (cases hr; done)
    all_goals first
      | (rename_i t x y hc
         split at hr
         · rename_i b' o' e h1 h2
           split at hr
           · split at hr
             · cases hr; exact ⟨t, x, y, hc, h1⟩
             · cases hr
           · cases hr
         · cases hr)
      | (exfalso; repeat' (first | (cases hr; done) | split at hr))
  · split at h
    · rename_i r hr
      cases h
      unfold opS at hr
      exfalso
      repeat' (first | (cases hr; done) | split at hr)
    · split at h <;> cases h
theorem opX_new {o : Oper} {l : List E} {t : TypeId} {sl : Option Nat} {ns : List C} (h : opX P σ o = some (.new l t sl, ns)) : clsE cs o.op = 3 := by
  unfold opX at h
  split at h
  · rename_i r hr
    cases h
    unfold opE at hr
    split at hr
    all_goals try (cases hr; done)
    all_goals first
      | (rename_i hc; rw [hc]; rfl)
      | (exfalso; repeat' (first | (cases hr; done) | split at hr))
  · split at h
    · rename_i r hr
      cases h
      unfold opS at hr
      split at hr
      all_goals try (cases hr; done)
      all_goals first
        | (rename_i hc; rw [hc]; rfl)
        | (exfalso; repeat' (first | (cases hr; done) | split at hr))
    · split at h <;> cases h
end
end Sx
end Go.Proofs.Ytcedgoaanlbldaa
