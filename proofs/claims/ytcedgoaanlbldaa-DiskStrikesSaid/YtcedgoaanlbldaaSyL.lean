/-
  What is proved: a symbolic run of a function tells what the model does with a call; no program in sight. Condition: the contracts hold.
-/
import Derived.Test.YtcedgoaanlbldaaSyK
namespace Go.Proofs.Ytcedgoaanlbldaa
namespace Sx
open Go.RowKit

/-- What turns in a loop: slots, and blocks; in the variables from a number on. -/
structure LS where
  slots : List (Tmp × (Nat → E))
  blks : List (Nat × (Nat → List E))
  pre : List (Bool × C)
  gh : Bool := false
def Tr.delF {α : Type} : Nat → Tr α → Nat → Tr α
  | _, .nil, _ => .nil
  | 0, .node l _ r, _ => .node l none r
  | f + 1, .node l v r, n => match n with
    | 0 => .node l none r
    | n + 1 => if n % 2 = 0 then .node (Tr.delF f l (n / 2)) v r else .node l v (Tr.delF f r (n / 2))
def delAll : Tr E → List Tmp → Tr E
  | t, [] => t
  | t, n :: r => delAll (Tr.delF 40 t n) r
def setSlots (base : Nat) : Tr E → List (Tmp × (Nat → E)) → Tr E
  | t, [] => t
  | t, (n, f) :: r => setSlots base (t.set n (f base)) r
def setBlks (base : Nat) : Tr (List E) → List (Nat × (Nat → List E)) → Tr (List E)
  | t, [] => t
  | t, (n, f) :: r => setBlks base (t.set n (f base)) r
def headSt (σ : St) (body : Code) (ls : LS) : St :=
  { σ with tmps := setSlots σ.nv (delAll σ.tmps (dstsOf body)) ls.slots, heap := setBlks σ.nv σ.heap ls.blks, wr := setWr σ.wr (ls.blks.map (·.1)), nv := σ.nv + stride, gh := if ls.gh then σ.nv + gv else σ.gh }
def findLS : List (Nat × LS) → Option Nat → Option (Nat × LS)
  | [], _ => none
  | (r, ls) :: l, k => if some r = k then some (r, ls) else findLS l k

def condT (t e : St → Tree) (c : C) : Nat → St → Tree
  | 0, _ => .fail 5
  | f + 1, σ => match c.simp σ.pc with
    | .lit true => t σ
    | .lit false => e σ
    | c' => if (atomOf c').lt σ.nv then .split (atomOf c') (condT t e c f { σ with pc := (atomOf c', true) :: σ.pc }) (condT t e c f { σ with pc := (atomOf c', false) :: σ.pc }) else .fail 6
def iterT (body : St → Tree) : Nat → St → Tree
  | 0, _ => .fail 7
  | f + 1, σ => (body σ).bind fun x σ' => match x with
    | .normal => iterT body f σ'
    | x => .leaf x σ'
/-- Ahead of a loop: what is to be known of a condition. -/
def preT (k : St → Tree) : List (Bool × C) → St → Tree
  | [], σ => k σ
  | (b, c) :: r, σ => match c.simp σ.pc with
    | .lit _ => preT k r σ
    | c' => if (atomOf c').lt σ.nv then
        if b then .split (atomOf c') (preT k r { σ with pc := (atomOf c', true) :: σ.pc }) (preT k r { σ with pc := (atomOf c', false) :: σ.pc })
        else .need (atomOf c') (preT k r { σ with pc := (atomOf c', true) :: σ.pc })
      else .fail 24
def pcLt (σ : St) : Bool := σ.pc.all fun p => p.1.lt σ.nv
def splitFuel : Nat := 40
/-- The slots of a region that hold places, and are not assigned in it. -/
def zOf (ops : Array Oper) (σ : St) : List (Tmp × Nat) := ops.toList.filterMap fun o => match o.op with
  | .load _ (.tmp u) => zSlot u
  | .store _ (.tmp u) _ => zSlot u
  | _ => none
where zSlot (u : Tmp) : Option (Tmp × Nat) := match σ.tmps.get u with
  | some (.ptr k _) => if ops.toList.all fun o => o.dst != some u then some (u, k) else none
  | _ => none
theorem zSlot_spec {ops : Array Oper} {σ : St} {u : Tmp} {p : Tmp × Nat} (h : zOf.zSlot ops σ u = some p) : (∃ o, σ.tmps.get p.1 = some (.ptr p.2 o)) ∧ ∀ (i : Nat) o, ops[i]? = some o → o.dst ≠ some p.1 := by
  unfold zOf.zSlot at h
  split at h
  · rename_i k o hk
    split at h
    · rename_i ha
      cases h
      refine ⟨⟨o, hk⟩, fun i o' ho' e => ?_⟩
      have := List.all_eq_true.1 ha o' (by rw [Array.mem_toList_iff]; exact Array.mem_of_getElem? ho')
      rw [e] at this
      simp at this
    · cases h
  · cases h
theorem zOf_spec {ops : Array Oper} {σ : St} {p : Tmp × Nat} (h : p ∈ zOf ops σ) : (∃ o, σ.tmps.get p.1 = some (.ptr p.2 o)) ∧ ∀ (i : Nat) o, ops[i]? = some o → o.dst ≠ some p.1 := by
  unfold zOf at h
  rw [List.mem_filterMap] at h
  obtain ⟨o, _, h⟩ := h
  split at h
  · exact zSlot_spec h
  · exact zSlot_spec h
  · cases h
def run (P : Program) (cs : List Con) (inl : FuncId → List E → St → Tree) (LT : List (Nat × LS)) (fuel : Nat) : Code → St → Tree
  | .skip, σ => .leaf .normal σ
  | .label _, σ => .leaf .normal σ
  | .region _ ops draw, σ => if draw then (if orderOk cs ops (zOf ops σ) && pcLt σ then runDraw P cs ops splitFuel [] σ else .fail 8)
      else runSeq P cs inl ops σ.nk (ops.size + splitFuel) σ.nv (List.range' 0 ops.size) { σ with nk := σ.nk + ops.size }
  | .seq a b, σ => (run P cs inl LT fuel a σ).bind fun x σ' => match x with
    | .normal => run P cs inl LT fuel b σ'
    | x => .leaf x σ'
  | .cond c t e, σ => match σ.opnd c with
    | some (.bool c) => condT (run P cs inl LT fuel t) (run P cs inl LT fuel e) c splitFuel σ
    | _ => .fail 9
  | .block id c, σ => (run P cs inl LT fuel c σ).bind fun x σ' => match x with
    | .exit id' => if id' = id then .leaf .normal σ' else .leaf (.exit id') σ'
    | x => .leaf x σ'
  | .scope c, σ => (run P cs inl LT fuel c σ).bind fun x σ' => match x with
    | .goto _ => .fail 10
    | x => .leaf x σ'
  | .loop c, σ => match findLS LT (firstReg c) with
    | none => iterT (run P cs inl LT fuel c) fuel σ
    | some (r, ls) => preT (fun σ =>
      let σL := headSt σ c ls
      match matchSt σ.nv σL σ with
      | none => .fail 11
      | some B => if B.all (fun p => decide (p.1 < σL.nv)) && decide (σ.nv ≤ σL.nv) && subTr σ.heap σL.heap then .loop r σ.nv B ((run P cs inl LT fuel c σL).bind fun x σ' => match x with
          | .normal => match matchSt σ.nv σL σ' with
            | none => .fail 12
            | some B' => if B'.all (fun p => decide (p.1 < σL.nv)) then .again r σ.nv B' else .fail 13
          | x => .leaf x σ')
        else .fail 14) ls.pre σ
  | .exit id, σ => .leaf (.exit id) σ
  | .goto l, σ => .leaf (.goto l) σ
  | .ret, σ => .leaf .ret σ
  | _, _ => .fail 15

def Ex.to : Ex → Exit
  | .normal => .normal
  | .exit id => .exit id
  | .goto l => .goto l
  | .ret => .ret

section
variable {P : Program} {cs : List Con} {S : List ConS} {LT : List (Nat × LS)} {LS : LoopS} {fuel : Nat} {inl : FuncId → List E → St → Tree}

/-- What is told of how a run ends holds. -/
def Links [Kinds] (w0 : Base) (K : Env → Ex → St → Prop) (Q : Exit → Act → World → Prop) : Prop := ∀ ρ x σ a w, K ρ x σ → Sim ρ w0 σ a w → Q x.to a w

theorem opnd_bool {σ : St} {x : Operand} {c : C} (h : σ.opnd x = some (.bool c)) (pc : Known) : St.opnd { σ with pc := pc } x = some (.bool c) := by
  cases x with
  | tmp t =>
    simp only [St.opnd] at h ⊢
    split at h
    · rename_i e he
      cases e <;> simp [E.known] at h ⊢ <;> exact h
    · cases h
  | _ => exact h
theorem condT_ok [Kinds] {w0 : Base} {K : Env → Ex → St → Prop} {x : Operand} {tc ec : Code} {t e : St → Tree} {Q : Exit → Act → World → Prop} (c : C)
    (ht : ∀ σ ρ a w, treeSem S LS K ρ (t σ) → Sim ρ w0 σ a w → tc.wp P Q a w) (he : ∀ σ ρ a w, treeSem S LS K ρ (e σ) → Sim ρ w0 σ a w → ec.wp P Q a w) :
    ∀ (f : Nat) (σ : St) (ρ : Env) (a : Act) (w : World), σ.opnd x = some (.bool c) → treeSem S LS K ρ (condT t e c f σ) → Sim ρ w0 σ a w → (Code.cond x tc ec).wp P Q a w
  | 0, _, _, _, _, _, h, _ => h.elim
  | f + 1, σ, ρ, a, w, hx, h, hs => by
    unfold condT at h
    obtain ⟨ι, F, h0⟩ := hs.at_
    have hev := h0.held.opnd hx
    have hd := C.den_simp h0.pc c
    simp only [E.val] at hev
    split at h
    · rename_i hc
      rw [hc] at hd
      simp only [C.den] at hd
      rw [← hd] at hev
      exact wp_cond_true hev (ht σ ρ a w h hs)
    · rename_i hc
      rw [hc] at hd
      simp only [C.den] at hd
      rw [← hd] at hev
      exact wp_cond_false hev (he σ ρ a w h hs)
    · split at h
      · rename_i c' _ _ hlt
        cases hb : (atomOf (c.simp σ.pc)).den ρ with
        | true => exact condT_ok c ht he f { σ with pc := (atomOf (c.simp σ.pc), true) :: σ.pc } ρ a w (opnd_bool hx _) (h.1 hb) (hs.know hlt hb)
        | false => exact condT_ok c ht he f { σ with pc := (atomOf (c.simp σ.pc), false) :: σ.pc } ρ a w (opnd_bool hx _) (h.2 hb) (hs.know hlt hb)
      · exact h.elim

theorem iterT_ok [Kinds] {w0 : Base} {K : Env → Ex → St → Prop} {Q : Exit → Act → World → Prop} {c : Code} {body : St → Tree} (hK : Links w0 K Q)
    (hb : ∀ (K' : Env → Ex → St → Prop) (Q' : Exit → Act → World → Prop), Links w0 K' Q' → ∀ σ ρ a w, treeSem S LS K' ρ (body σ) → Sim ρ w0 σ a w → c.wp P Q' a w) :
    ∀ (f : Nat) (σ : St) (ρ : Env) (a : Act) (w : World), treeSem S LS K ρ (iterT body f σ) → Sim ρ w0 σ a w → Code.rounds P c Q f a w
  | 0, _, _, _, _, h, _ => h.elim
  | f + 1, σ, ρ, a, w, h, hs => by
    unfold iterT at h
    rw [rounds_succ]
    refine hb _ _ (fun ρ' x σ' a' w' hk hs' => ?_) σ ρ a w (treeSem_bind _ _ h) hs
    cases x with
    | normal => exact iterT_ok hK hb f σ' ρ' a' w' hk hs'
    | exit id => exact hK ρ' (.exit id) σ' a' w' hk hs'
    | goto l => exact hK ρ' (.goto l) σ' a' w' hk hs'
    | ret => exact hK ρ' .ret σ' a' w' hk hs'

theorem preT_ok [Kinds] {w0 : Base} {K : Env → Ex → St → Prop} {X : World → Act → Prop} {k : St → Tree} (hk : ∀ σ ρ a w, treeSem S LS K ρ (k σ) → Sim ρ w0 σ a w → X w a) :
    ∀ (l : List (Bool × C)) (σ : St) (ρ : Env) (a : Act) (w : World), treeSem S LS K ρ (preT k l σ) → Sim ρ w0 σ a w → X w a
  | [], σ, ρ, a, w, h, hs => hk σ ρ a w h hs
  | (b, c) :: r, σ, ρ, a, w, h, hs => by
    unfold preT at h
    split at h
    · exact preT_ok hk r σ ρ a w h hs
    · split at h
      · rename_i hlt
        split at h
        · cases hb : (atomOf (c.simp σ.pc)).den ρ with
          | true => exact preT_ok hk r _ ρ a w (h.1 hb) (hs.know hlt hb)
          | false => exact preT_ok hk r _ ρ a w (h.2 hb) (hs.know hlt hb)
        · exact preT_ok hk r _ ρ a w h.2 (hs.know hlt h.1)
      · exact h.elim
theorem run_ok [Kinds] (hC : Cons P cs S) (hm : P.follows .mixedOrders = true) (hI : InlOk P S LS inl) {w0 : Base} : ∀ (c : Code) (K : Env → Ex → St → Prop) (Q : Exit → Act → World → Prop), Links w0 K Q → ∀ (σ : St) (ρ : Env) (a : Act) (w : World),
    treeSem S LS K ρ (run P cs inl LT fuel c σ) → Sim ρ w0 σ a w → c.wp P Q a w := by
  intro c
  induction c with
  | skip => exact fun K Q hK σ ρ a w h hs => wp_skip (hK ρ .normal σ a w h hs)
  | label l => exact fun K Q hK σ ρ a w h hs => wp_label (hK ρ .normal σ a w h hs)
  | region id ops draw =>
    intro K Q hK σ ρ a w h hs
    unfold run at h
    cases draw with
    | true =>
      simp only [if_true] at h
      split at h
      · rename_i hc
        rw [Bool.and_eq_true] at hc
        exact runDraw_ok hC hm (fun i o ho p hp => (zOf_spec hp).2 i o ho) hc.1 (fun ρ σ a w hk hs => hK ρ .normal σ a w hk hs) _ [] σ ρ a w (fun p hp => List.all_eq_true.1 hc.2 p hp) (fun p hp => by cases hp) h (fun p hp => (zOf_spec hp).1) hs
      · exact h.elim
    | false =>
      simp only [Bool.false_eq_true, if_false] at h
      refine wp_region ?_
      rw [List.range_eq_range']
      exact runSeq_ok hC hI (fun ρ σ a w hk hs => hK ρ .normal σ a w hk hs) _ _ 0 _ _ ρ a w h (hs.env (Env.ag_refl _ _) (Nat.le_refl _) _) (by simp)
  | seq x y ix iy =>
    intro K Q hK σ ρ a w h hs
    unfold run at h
    refine wp_seq (ix _ _ (fun ρ' x' σ' a' w' hk hs' => ?_) σ ρ a w (treeSem_bind _ _ h) hs)
    cases x' with
    | normal => exact iy K Q hK σ' ρ' a' w' hk hs'
    | exit id => exact hK ρ' (.exit id) σ' a' w' hk hs'
    | goto l => exact hK ρ' (.goto l) σ' a' w' hk hs'
    | ret => exact hK ρ' .ret σ' a' w' hk hs'
  | cond x t e it ie =>
    intro K Q hK σ ρ a w h hs
    unfold run at h
    split at h
    · rename_i c hx
      exact condT_ok c (fun σ ρ a w h hs => it K Q hK σ ρ a w h hs) (fun σ ρ a w h hs => ie K Q hK σ ρ a w h hs) _ σ ρ a w hx h hs
    · exact h.elim
  | block id c ic =>
    intro K Q hK σ ρ a w h hs
    unfold run at h
    refine wp_block (ic _ _ (fun ρ' x' σ' a' w' hk hs' => ?_) σ ρ a w (treeSem_bind _ _ h) hs)
    cases x' with
    | normal => exact hK ρ' .normal σ' a' w' hk hs'
    | exit id' =>
      simp only [Ex.to, Exit.inBlock] at hk ⊢
      split at hk
      · rename_i e; rw [if_pos e]; exact hK ρ' .normal σ' a' w' hk hs'
      · rename_i e; rw [if_neg e]; exact hK ρ' (.exit id') σ' a' w' hk hs'
    | goto l => exact hK ρ' (.goto l) σ' a' w' hk hs'
    | ret => exact hK ρ' .ret σ' a' w' hk hs'
  | scope c ic =>
    intro K Q hK σ ρ a w h hs
    unfold run at h
    refine wp_scope_straight (ic _ _ (fun ρ' x' σ' a' w' hk hs' => ?_) σ ρ a w (treeSem_bind _ _ h) hs)
    cases x' with
    | normal => exact hK ρ' .normal σ' a' w' hk hs'
    | exit id => exact hK ρ' (.exit id) σ' a' w' hk hs'
    | goto l => exact hk.elim
    | ret => exact hK ρ' .ret σ' a' w' hk hs'
  | loop c ic =>
    intro K Q hK σ ρ a w h hs
    unfold run at h
    split at h
    · exact wp_loop_rounds fuel (iterT_ok hK (fun K' Q' hK' σ ρ a w h hs => ic K' Q' hK' σ ρ a w h hs) fuel σ ρ a w h hs)
    · rename_i r ls hf
      refine preT_ok (X := fun w a => (Code.loop c).wp P Q a w) (fun σ ρ a w h hs => ?_) ls.pre σ ρ a w h hs
      simp only at h
      split at h
      · exact h.elim
      · rename_i B hB
        split at h
        · rename_i hlt
          rw [Bool.and_eq_true, Bool.and_eq_true, decide_eq_true_eq] at hlt
          obtain ⟨hlt, hsub⟩ := hlt
          obtain ⟨⟨ρn, g1, g2, g3⟩, h2, h3, h4⟩ := h
          have hkeep : ∀ b, w0.pin b → ((headSt σ c ls).heap.get b).isSome := fun b hb => by
            obtain ⟨ι, F, h0⟩ := hs.at_
            exact subTr_get hsub b (h0.par b hb).1
          have hs0 := hs.head hB hlt.2 hlt.1 hkeep g1 g2
          refine wp_loop_ghost (fun n a w => ∃ ρ', ρ.ag σ.nv ρ' ∧ LS.inv r σ.nv ρ' ∧ LS.mu r σ.nv ρ' = n ∧ Sim ρ' w0 (headSt σ c ls) a w) _ ⟨ρn, g1, g3, rfl, hs0⟩ ?_
          rintro n a1 w1 ⟨ρ', hr, hinv, rfl, hs1⟩
          have ht := treeSem_from _ _ (bind_from _ h2) (treeSem_bind _ _ (h4 ρ' hr hinv))
          refine ic _ _ (fun ρ2 x σ2 a2 w2 hk hs2 => ?_) _ ρ' a1 w1 ht hs1
          obtain ⟨hk, hag2⟩ := hk
          cases x with
          | normal =>
            simp only at hk
            split at hk
            · exact hk.elim
            · rename_i B' hB'
              split at hk
              · rename_i hlt'
                obtain ⟨ρm, g1', g2', k1, k2⟩ := hk
                have hs3 := hs2.head hB' hlt.2 hlt' hkeep g1' g2'
                refine ⟨_, ?_, ρm, ?_, k1, rfl, hs3⟩
                · rw [h3 ρ' ρ2 hag2] at k2; exact k2
                · exact Env.ag_trans (Env.ag_trans hr (Env.ag_mono hag2 (Nat.le_add_right _ _)) (Nat.le_refl _)) g1' (Nat.le_refl _)
              · exact hk.elim
          | exit id => exact hK ρ2 (.exit id) σ2 a2 w2 hk hs2
          | goto l => exact hK ρ2 (.goto l) σ2 a2 w2 hk hs2
          | ret => exact hK ρ2 .ret σ2 a2 w2 hk hs2
        · exact h.elim
  | exit id => exact fun K Q hK σ ρ a w h hs => wp_exit (hK ρ (.exit id) σ a w h hs)
  | goto l => exact fun K Q hK σ ρ a w h hs => wp_goto (hK ρ (.goto l) σ a w h hs)
  | ret => exact fun K Q hK σ ρ a w h hs => wp_ret (hK ρ .ret σ a w h hs)
  | rangeFunc => exact fun K Q hK σ ρ a w h hs => h.elim
  | refuse => exact fun K Q hK σ ρ a w h hs => h.elim
end

/-- What a function hands back. -/
def resE1 (P : Program) (σ : St) : ResultVar → Option E
  | .tmp t => σ.tmps.get t
  | .cell p ty => match σ.tmps.get p with
    | some (.ptr b o) => match σ.heap.get b with
      | some l => partE P ty l o
      | none => none
    | _ => none
def resEs (P : Program) (σ : St) : List ResultVar → Option (List E)
  | [] => some []
  | r :: l => match resE1 P σ r, resEs P σ l with | some e, some es => some (e :: es) | _, _ => none
def resE (P : Program) (fn : Func) (σ : St) : Option E := match resEs P σ fn.results.toList with
  | some [e] => some e
  | some es => some (.tup es)
  | none => none
section
variable {P : Program} {σ : St} {ρ : Env} {ι : Lay} {a : Act} {w : World}
def resSem (tmps : Array Value) : ResultVar → Sem Value
  | .tmp t => pure (tmps.getD t undef)
  | .cell p t => do loadVar t (← asAddr (tmps.getD p undef))
theorem results_sem (fn : Func) (tmps : Array Value) : results fn tmps = (do let vs ← fn.results.mapM (resSem tmps); pure (if h : vs.size = 1 then vs[0] else .tuple vs)) := by
  unfold results
  congr 1
theorem resE1_run (H : Held σ ρ ι a w) {r : ResultVar} {e : E} (h : resE1 P σ r = some e) :
    (resSem a.tmps r).run P w = .ok (e.val ρ ι) w := by
  cases r with
  | tmp t => simp only [resE1] at h; simp only [resSem, H.tmps t e h, Sem.run_pure]
  | cell p ty =>
    simp only [resE1] at h
    split at h
    · rename_i b o hp
      split at h
      · rename_i l hl
        have h1 := load_run H hl h
        simp only [Instr.loadAt, Instr.sureAddr, Sem.run_bind, Sem.run_pure, Result.andThen_ok] at h1
        simp only [resSem, H.tmps p _ hp, E.val, asAddr, Sem.run_bind, Sem.run_pure, Result.andThen_ok, h1]
      · cases h
    · cases h
theorem resEs_run (H : Held σ ρ ι a w) : ∀ {l : List ResultVar} {es : List E}, resEs P σ l = some es →
    es.length = l.length ∧ ∀ (j : Nat) (r : ResultVar) (v : Value), l[j]? = some r → (E.vals ρ ι es)[j]? = some v → (resSem a.tmps r).run P w = .ok v w
  | [], _, h => by cases h; exact ⟨rfl, fun j r v h => by simp at h⟩
  | r :: l, _, h => by
    unfold resEs at h
    split at h
    · rename_i e es h1 h2
      cases h
      obtain ⟨h3, h4⟩ := resEs_run H h2
      refine ⟨by simp [h3], fun j r' v hr hv => ?_⟩
      cases j with
      | zero => simp [E.vals] at hr hv; subst hr hv; exact resE1_run H h1
      | succ j => exact h4 j r' v (by simpa using hr) (by simpa [E.vals] using hv)
    · cases h
theorem resE_run (H : Held σ ρ ι a w) {fn : Func} {e : E} (h : resE P fn σ = some e) : (results fn a.tmps).run P w = .ok (e.val ρ ι) w := by
  unfold resE at h
  rw [results_sem]
  split at h
  · rename_i e' h1
    cases h
    obtain ⟨h2, h3⟩ := resEs_run H h1
    rw [Sem.run_bind, mapM_run (l := E.vals ρ ι [e]) (by rw [E.vals_length]; simpa using h2) (fun j x y hx hy => h3 j x y (by simpa using hx) hy)]
    rfl
  · rename_i es hne h1
    cases h
    obtain ⟨h2, h3⟩ := resEs_run H h1
    rw [Sem.run_bind, mapM_run (l := E.vals ρ ι es) (by rw [E.vals_length]; simpa using h2) (fun j x y hx hy => h3 j x y (by simpa using hx) hy)]
    simp only [Result.andThen_ok, E.val]
    have : ¬ (E.vals ρ ι es).toArray.size = 1 := by
      simp only [List.size_toArray, E.vals_length]
      intro hl
      match es, hl with
      | [e], _ => exact hne e rfl
    rw [dif_neg this]
    rfl
  · cases h
end
def initTmps : Nat → List E → Tr E → Tr E
  | _, [], t => t
  | n, e :: l, t => initTmps (n + 1) l (t.set n e)
theorem get_initTmps : ∀ (l : List E) (n : Nat) (t : Tr E) (m : Nat), n + l.length ≤ 1099511627776 → (initTmps n l t).get m = if n ≤ m ∧ m < n + l.length then l[m - n]? else t.get m
  | [], n, t, m, _ => by simp [initTmps]; omega
  | e :: l, n, t, m, h => by
    simp only [List.length_cons] at h ⊢
    rw [initTmps, get_initTmps l (n + 1) _ m (by omega), Tr.get_set _ _ _ _ (by omega)]
    by_cases e1 : m = n
    · subst e1
      rw [if_neg (by omega), if_pos rfl, if_pos (by omega)]
      simp
    · rw [if_neg e1]
      by_cases e2 : n + 1 ≤ m ∧ m < n + 1 + l.length
      · rw [if_pos e2, if_pos (by omega), show m - n = (m - (n + 1)) + 1 by omega, List.getElem?_cons_succ]
      · rw [if_neg e2, if_neg (by omega)]
/-- A call's frame, in the caller's blocks. -/
def enterSt (σ : St) (ntmps : Nat) (args : List E) : St := { σ with n := ntmps, tmps := initTmps 0 args .nil }
def retT (P : Program) (fn : Func) (σ : St) (x : Ex) (σc : St) : Tree := match x with
  | .normal => match resE P fn σc with | some e => if decide (σ.nv ≤ σc.nv) && decide (σc.np = σ.np) then .leaf .ret { σc with tmps := .node .nil (some e) .nil } else .fail 30 | none => .fail 31
  | .ret => match resE P fn σc with | some e => if decide (σ.nv ≤ σc.nv) && decide (σc.np = σ.np) then .leaf .ret { σc with tmps := .node .nil (some e) .nil } else .fail 30 | none => .fail 31
  | _ => .fail 32
/-- Calls are gone into, so deep. -/
def inlD (P : Program) (cs : List Con) (LT : List (Nat × LS)) (fuel : Nat) : Nat → FuncId → List E → St → Tree
  | 0, f, _, _ => .fail (100000 + f)
  | d + 1, f, args, σ => match P.funcs[f]? with
    | none => .fail 33
    | some fn => match fn.body with
      | none => .fail 34
      | some c => if args.length ≤ fn.ntmps ∧ fn.ntmps ≤ 1099511627776 then
          let t := run P cs (inlD P cs LT fuel d) LT fuel c (enterSt σ fn.ntmps args)
          if t.from_ σ.nv then t.bind (retT P fn σ) else .fail 35
        else .fail 36
theorem inlD_ok [Kinds] {P : Program} {cs : List Con} {S : List ConS} {LT : List (Nat × LS)} {LQ : LoopS} {fuel : Nat} (hC : Cons P cs S) (hm : P.follows .mixedOrders = true) : ∀ d, InlOk P S LQ (inlD P cs LT fuel d)
  | 0 => fun _ _ _ _ _ _ _ _ _ _ _ h => h.elim
  | d + 1 => by
    intro f args σ ρ w0 a w ι F K hs h
    unfold inlD at h
    split at h
    · exact h.elim
    · rename_i fn hf
      split at h
      · exact h.elim
      · rename_i c hb
        split at h
        · rename_i hsz
          simp only at h
          split at h
          · rename_i hfrom
            have ht := treeSem_from _ _ hfrom (treeSem_bind _ _ h)
            refine calls_of_wp hf hb ?_
            have hsim : Sim ρ ⟨w0.w, ι, fun b => (σ.heap.get b).isSome, Kinds.cnt (ρ.g σ.gh), w0.F⟩ (enterSt σ fn.ntmps args) { tmps := (E.vals ρ ι args).toArray ++ Array.replicate (fn.ntmps - (E.vals ρ ι args).toArray.size) undef, defers := [] } w := by
              refine ⟨ι, F, fun ρ' hr ι' hi => ?_⟩
              obtain ⟨h1, h2⟩ := hs ρ' hr ι' hi
              refine ⟨?_, rfl, fun t e he => ?_, h1.cell, h1.apart, h1.own, fun b hb => ⟨hb, hi.1 b hb⟩, h1.fr, h1.pc, h1.glt, h1.gho, h1.gap, h1.gow, hi.2, by rw [show ρ'.g (enterSt σ fn.ntmps args).gh = ρ.g σ.gh from Env.ag_g hr h1.glt]; exact Nat.le_refl _⟩
              · simp [E.vals_length, enterSt]; omega
              · simp only [enterSt] at he
                rw [get_initTmps _ _ _ _ (by omega)] at he
                split at he
                · rename_i hlt
                  simp only [Nat.sub_zero, Nat.zero_add] at he hlt
                  have h3 : ((E.vals ρ ι args).toArray ++ Array.replicate (fn.ntmps - (E.vals ρ ι args).toArray.size) undef)[t]? = some (e.val ρ' ι') := by
                    rw [Array.getElem?_append_left (by simp [E.vals_length]; omega), ← h2]
                    simp [E.vals_get, he]
                  simp only [Array.getD_eq_getD_getElem?, h3, Option.getD_some]
                · rw [Tr.get_nil] at he; cases he
            refine run_ok hC hm (inlD_ok hC hm d) c _ _ ?_ _ ρ _ w ht hsim
            intro ρ2 x σc a' w' hk hs'
            obtain ⟨hk, hag⟩ := hk
            have hend : (x = .normal ∨ x = .ret) ∧ ∃ e, resE P fn σc = some e ∧ σ.nv ≤ σc.nv ∧ σc.np = σ.np ∧ K ρ2 .ret { σc with tmps := .node .nil (some e) .nil } := by
              unfold retT at hk
              split at hk
              · split at hk
                · rename_i e he
                  split at hk
                  · rename_i hc; simp only [Bool.and_eq_true, decide_eq_true_eq] at hc; exact ⟨.inl rfl, e, he, hc.1, hc.2, hk⟩
                  · exact hk.elim
                · exact hk.elim
              · split at hk
                · rename_i e he
                  split at hk
                  · rename_i hc; simp only [Bool.and_eq_true, decide_eq_true_eq] at hc; exact ⟨.inr rfl, e, he, hc.1, hc.2, hk⟩
                  · exact hk.elim
                · exact hk.elim
              · exact hk.elim
            obtain ⟨hx, e, he, hnv, hnp, hK⟩ := hend
            obtain ⟨ι2, F2, hι2⟩ := hs'
            have h2 := hι2 ρ2 (Env.ag_refl _ _) ι2 (St.agL_refl _ ρ2 ι2)
            have hres := resE_run h2.held he
            have hout0 := (hs ρ (Env.ag_refl _ _) ι (St.agL_refl _ ρ ι)).1
            have hout := hout0.par
            have hpost : a'.defers = [] ∧ ∃ v, (results fn a'.tmps).run P w' = .ok v w' ∧ ∃ ρ2 σc r, K ρ2 .ret σc ∧ σc.tmps.get 0 = some r ∧ ρ.ag σ.nv ρ2 ∧ σ.nv ≤ σc.nv ∧ (∀ b, (σ.heap.get b).isSome → (σc.heap.get b).isSome) ∧ Kinds.cnt (ρ.g σ.gh) ≤ Kinds.cnt (ρ2.g σc.gh) ∧ ∃ ι2 F2, σ.agL ρ ι ι2 ∧
                ∀ ρ', ρ2.ag σc.nv ρ' → ∀ ι', σc.agL ρ2 ι2 ι' → Ending.returned v = .returned (r.val ρ' ι') ∧ HeapAt ρ' ι' F2 w0 σc w' := by
              refine ⟨h2.defers, _, hres, ρ2, _, e, hK, rfl, hag, hnv, fun b hb => (h2.par b hb).1, h2.gcnt, ι2, F2, ⟨fun b hb => (h2.par b hb).2, h2.gpar⟩, fun ρ' hr ι' hi => ?_⟩
              have h3 := hι2 ρ' hr ι' hi
              have hres' := resE_run h3.held he
              rw [hres] at hres'
              injection hres' with hres' _
              refine ⟨by rw [hres'], h3.cell, h3.apart, h3.own, fun b hb => ?_, h3.fr, h3.pc, h3.glt, h3.gho, h3.gap, h3.gow, fun n hn => (h3.gpar n (Nat.lt_of_lt_of_le hn hout0.gcnt)).trans (hout0.gpar n hn), Nat.le_trans hout0.gcnt h3.gcnt⟩
              obtain ⟨q1, q2⟩ := hout b hb
              obtain ⟨q3, q4⟩ := h3.par b q1
              exact ⟨q3, q4.trans q2⟩
            rcases hx with rfl | rfl
            · exact hpost
            · exact hpost
          · exact h.elim
        · exact h.elim
end Sx
end Go.Proofs.Ytcedgoaanlbldaa
