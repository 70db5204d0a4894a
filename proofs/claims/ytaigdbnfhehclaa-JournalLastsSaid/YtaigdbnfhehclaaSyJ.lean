/-
  What is proved: a region's symbolic run tells what the model does with it, in whatever order; no program in sight. Condition: the contracts hold.
-/
import Derived.Test.YtaigdbnfhehclaaSyI
namespace Go.Proofs.Ytaigdbnfhehclaa
namespace Sx
open Go.RowKit

section
variable {P : Program} {cs : List Con} {S : List ConS} {ops : Array Oper} {nk nv : Nat} {ρ : Env} {ι : Lay} {w0 : Base} {σ σ' : St} {a : Act} {w w' : World}

/-- Steps, one behind the other. -/
def Fold (P : Program) (cs : List Con) (S : List ConS) (ops : Array Oper) (nk nv : Nat) (ρ : Env) : List Nat → St → St → Prop
  | [], σ, σ' => σ' = σ
  | i :: l, σ, σ' => ∃ τ, A P cs S ops nk nv ρ i σ τ ∧ Fold P cs S ops nk nv ρ l τ σ'

/-- One that may be exchanged with those ahead of it comes first. -/
theorem A_keep {Z : List (Tmp × Nat)} (hZ : ∀ (i : Nat) o, ops[i]? = some o → ∀ p ∈ Z, o.dst ≠ some p.1) {i : Nat} (h : A P cs S ops nk nv ρ i σ σ') (hk : Keep Z σ) : Keep Z σ' := by
  obtain ⟨ns, ca, hs, _⟩ := h
  obtain ⟨d, f, hp, ha, _⟩ := stepE_ok.1 hs
  intro p hpz
  obtain ⟨o, ho⟩ := hk p hpz
  refine ⟨o, ?_⟩
  have hd : d ≠ some p.1 := by
    unfold pickE at hp
    split at hp
    · cases hp; exact fun e => by cases e
    · rename_i o' ho'
      have := hZ i o' ho' p hpz
      repeat' (first | (cases hp; done) | (cases hp; exact this) | split at hp)
  unfold St.app at ha
  split at ha
  · rename_i u
    split at ha
    · rename_i hc
      cases ha
      simp only []
      rw [Tr.get_set _ _ _ _ (Nat.lt_of_lt_of_le hc.1 hc.2), if_neg (fun e => hd (by rw [e]))]
      exact ho
    · cases ha
  · cases ha; exact ho
theorem Fold.bring [Kinds] (hC : Cons P cs S) {Z : List (Tmp × Nat)} (hZ : ∀ (i : Nat) o, ops[i]? = some o → ∀ p ∈ Z, o.dst ≠ some p.1) {i : Nat} {σf : St} : ∀ (L1 L2 : List Nat) (σ : St), (∀ m ∈ L1, m ≠ i ∧ indepE cs ops Z m i = true) → Keep Z σ → Real ρ σ → Fold P cs S ops nk nv ρ (L1 ++ i :: L2) σ σf →
    ∃ τ, A P cs S ops nk nv ρ i σ τ ∧ Fold P cs S ops nk nv ρ (L1 ++ L2) τ σf
  | [], L2, σ, _, _, _, h => h
  | m :: L1, L2, σ, hI, hk, hr, h => by
    obtain ⟨σ1, h1, h2⟩ := h
    obtain ⟨τ1, h3, h4⟩ := Fold.bring hC hZ L1 L2 σ1 (fun x hx => hI x (List.mem_cons_of_mem _ hx)) (A_keep hZ h1 hk) (hr.step hC h1) h2
    have hm := hI m (List.mem_cons_self ..)
    obtain ⟨τ, h5, h6⟩ := comm hC hm.1 hm.2 hk hr h1 h3
    exact ⟨τ, h5, τ1, h6, h4⟩

/-- Each operation comes behind what it hangs on; of two that do not hang on one another it does not matter. -/
def edgesOk (ops : Array Oper) : Bool := (List.range ops.size).all fun x => match ops[x]? with
  | some o => o.after.all fun e => !Region.binds .any e || decide (e.on < x)
  | none => true
def maskOk (cs : List Con) (ops : Array Oper) (Z : List (Tmp × Nat)) (M : List Nat) : Bool := (List.range ops.size).all fun x => match ops[x]? with
  | some o => (List.range x).all fun m => if (M.getD x 0).testBit m then o.after.any fun e => Region.binds .any e && decide (e.on < x) && (e.on == m || (decide (m < e.on) && (M.getD e.on 0).testBit m)) else indepE cs ops Z m x
  | none => true
def orderOk (cs : List Con) (ops : Array Oper) (Z : List (Tmp × Nat)) : Bool := edgesOk ops && maskOk cs ops Z (Region.before ops).toList

theorem edges_spec (h : edgesOk ops = true) {x : Nat} {o : Oper} (ho : ops[x]? = some o) : ∀ e ∈ o.after, Region.binds .any e = true → e.on < x := by
  intro e he hb
  have hx : x < ops.size := (Array.getElem?_eq_some_iff.1 ho).1
  have h1 := List.all_eq_true.1 h x (List.mem_range.2 hx)
  simp only [ho] at h1
  have h2 := Array.all_eq_true_iff_forall_mem.1 h1 e he
  simpa [hb] using h2
theorem mask_spec {Z : List (Tmp × Nat)} {M : List Nat} (h : maskOk cs ops Z M = true) {x m : Nat} {o : Oper} (ho : ops[x]? = some o) (hm : m < x) :
    ((M.getD x 0).testBit m = true ∧ ∃ e ∈ o.after, Region.binds .any e = true ∧ e.on < x ∧ (e.on = m ∨ (m < e.on ∧ (M.getD e.on 0).testBit m = true))) ∨ indepE cs ops Z m x = true := by
  have hx : x < ops.size := (Array.getElem?_eq_some_iff.1 ho).1
  have h1 := List.all_eq_true.1 h x (List.mem_range.2 hx)
  simp only [ho] at h1
  have h2 := List.all_eq_true.1 h1 m (List.mem_range.2 hm)
  split at h2
  · rename_i hb
    refine .inl ⟨hb, ?_⟩
    rw [← Array.any_toList, List.any_eq_true] at h2
    obtain ⟨e, he, h3⟩ := h2
    have he : e ∈ o.after := Array.mem_toList_iff.1 he
    simp only [Bool.and_eq_true, Bool.or_eq_true, decide_eq_true_eq, beq_iff_eq] at h3
    exact ⟨e, he, h3.1.1, h3.1.2, h3.2⟩
  · exact .inr h2
/-- Whatever is listed, what it hangs on is. -/
def Cl (ops : Array Oper) (listed : Array Bool) : Prop := ∀ j o, ops[j]? = some o → listed.getD j false = true → ∀ e ∈ o.after, Region.binds .any e = true → listed.getD e.on false = true
theorem dep_listed {Z : List (Tmp × Nat)} {M : List Nat} (hM : maskOk cs ops Z M = true) {listed : Array Bool} (hc : Cl ops listed) : ∀ (x : Nat) (o : Oper), ops[x]? = some o → (∀ e ∈ o.after, Region.binds .any e = true → listed.getD e.on false = true) →
    ∀ m, m < x → indepE cs ops Z m x = false → listed.getD m false = true := by
  have key : ∀ (x : Nat) (o : Oper), ops[x]? = some o → (∀ e ∈ o.after, Region.binds .any e = true → listed.getD e.on false = true) → ∀ m, m < x → (∃ e ∈ o.after, Region.binds .any e = true ∧ e.on < x ∧ (e.on = m ∨ (m < e.on ∧ (M.getD e.on 0).testBit m = true))) → listed.getD m false = true := by
    intro x
    induction x using Nat.strongRecOn with
    | _ x ih =>
      intro o ho hl m hm ⟨e, he, hb, hlt, h⟩
      have h1 := hl e he hb
      rcases h with h | ⟨h, hbit⟩
      · rw [← h]; exact h1
      · have hx : x < ops.size := (Array.getElem?_eq_some_iff.1 ho).1
        have he2 : ops[e.on]? = some ops[e.on] := Array.getElem?_eq_getElem (by omega)
        have hx2 : e.on < ops.size := by omega
        have h3 := List.all_eq_true.1 hM e.on (List.mem_range.2 hx2)
        simp only [he2] at h3
        have h4 := List.all_eq_true.1 h3 m (List.mem_range.2 h)
        rw [if_pos hbit, ← Array.any_toList, List.any_eq_true] at h4
        obtain ⟨e', he', h5⟩ := h4
        have he' : e' ∈ ops[e.on].after := Array.mem_toList_iff.1 he'
        simp only [Bool.and_eq_true, Bool.or_eq_true, decide_eq_true_eq, beq_iff_eq] at h5
        exact ih e.on hlt _ he2 (hc e.on _ he2 h1) m h ⟨e', he', h5.1.1, h5.1.2, h5.2⟩
  intro x o ho hl m hm hi
  rcases mask_spec hM ho hm with ⟨_, h⟩ | h
  · exact key x o ho hl m hm h
  · rw [h] at hi; cases hi

/-- In whatever order. -/
theorem order_ok [Kinds] (hC : Cons P cs S) (hE : edgesOk ops = true) {Z : List (Tmp × Nat)} (hZ : ∀ (i : Nat) o, ops[i]? = some o → ∀ p ∈ Z, o.dst ≠ some p.1) {M : List Nat} (hM : maskOk cs ops Z M = true) {Q : Exit → Act → World → Prop} {σf : St} (hQ : ∀ a w, Sim ρ w0 σf a w → Q .normal a w) :
    ∀ (fuel : Nat) (L : List Nat) (listed : Array Bool) (σ : St) (a : Act) (w : World), L.length = fuel → L.Pairwise (· < ·) → listed.size = ops.size → (∀ i, i ∈ L ↔ listed.getD i true = false) → Cl ops listed →
      Fold P cs S ops nk nv ρ L σ σf → Keep Z σ → Sim ρ w0 σ a w → wpAny P .any ops Q fuel listed a w
  | 0, L, listed, σ, a, w, hL, _, _, hmem, _, hF, _, hs => by
    obtain rfl := List.eq_nil_of_length_eq_zero hL
    have hF : σf = σ := hF
    subst hF
    refine ⟨?_, hQ a w hs⟩
    rw [List.eq_nil_iff_forall_not_mem]
    intro i hi
    have := (hmem i).2 (mem_ready.1 hi).1
    cases this
  | fuel + 1, L, listed, σ, a, w, hL, hp, hz, hmem, hc, hF, hkz, hs => by
    refine ⟨fun hno => ?_, fun i hi => ?_⟩
    · exfalso
      cases L with
      | nil => cases hL
      | cons m L =>
        have hm := (hmem m).1 (List.mem_cons_self ..)
        have hlt : m < ops.size := by
          rw [← hz]
          apply Classical.byContradiction
          intro h
          simp [Array.getElem?_eq_none (Nat.le_of_not_lt h)] at hm
        have hmo : ops[m]? = some ops[m] := Array.getElem?_eq_getElem hlt
        have : m ∈ Region.ready .any ops listed := mem_ready.2 ⟨hm, _, hmo, fun e he hb => by
          have h1 := edges_spec hE hmo e he hb
          have h2 : e.on ∉ m :: L := fun h => by
            cases h with
            | head => omega
            | tail _ h => have := (List.pairwise_cons.1 hp).1 _ h; omega
          have h3 : ¬ listed.getD e.on true = false := fun h => h2 ((hmem e.on).2 h)
          cases hb2 : listed.getD e.on false with
          | true => rfl
          | false => exact absurd (getD_in (by omega) hb2) h3⟩
        rw [hno] at this
        cases this
    · obtain ⟨hun, o, ho, hdeps⟩ := mem_ready.1 hi
      have hiL := (hmem i).2 hun
      obtain ⟨L1, L2, rfl⟩ := List.append_of_mem hiL
      have hpw := List.pairwise_append.1 hp
      have hlt : ∀ m ∈ L1, m < i := fun m hm => hpw.2.2 m hm i (List.mem_cons_self ..)
      have hgt : ∀ m ∈ L2, i < m := (List.pairwise_cons.1 hpw.2.1).1
      obtain ⟨τ, hA, hF'⟩ := Fold.bring hC hZ L1 L2 σ (fun m hm => by
        have hmi := hlt m hm
        refine ⟨by omega, ?_⟩
        cases hq : indepE cs ops Z m i with
        | true => rfl
        | false =>
          have h1 := dep_listed hM hc i o ho hdeps m hmi hq
          have h2 := (hmem m).1 (List.mem_append_left _ hm)
          rw [getD_both h2] at h1
          cases h1) hkz ⟨w0, a, w, hs⟩ hF
      refine wpOp_mono (fun a' w' hs' => ?_) (step_ok hC hA hs)
      refine order_ok hC hE hZ hM hQ fuel (L1 ++ L2) _ τ a' w' ?_ ?_ (by simp [hz]) ?_ ?_ hF' (A_keep hZ hA hkz) hs'
      · simp only [List.length_append, List.length_cons] at hL ⊢; omega
      · exact List.pairwise_append.2 ⟨hpw.1, (List.pairwise_cons.1 hpw.2.1).2, fun x hx y hy => hpw.2.2 x hx y (List.mem_cons_of_mem _ hy)⟩
      · intro j
        by_cases e : j = i
        · subst e
          constructor
          · intro h
            rcases List.mem_append.1 h with h | h
            · have := hlt _ h; omega
            · have := hgt _ h; omega
          · intro h
            exfalso
            have hin : j < listed.size := by
              rw [hz]; exact (Array.getElem?_eq_some_iff.1 ho).1
            simp [hin] at h
        · rw [getD_set_ne true (Ne.symm e), ← hmem j]
          simp [e]
      · intro j oj hj hl e he hb
        by_cases ej : j = i
        · subst ej
          rw [ho] at hj
          cases hj
          exact getD_set_true (hdeps e he hb)
        · rw [getD_set_ne false (Ne.symm ej)] at hl
          exact getD_set_true (hc j oj hj hl e he hb)

/-- How a symbolic run ends. -/
inductive Ex where
  | normal
  | exit (id : Nat)
  | goto (l : Nat)
  | ret
/-- A symbolic run. -/
inductive Tree where
  | leaf (x : Ex) (σ : St)
  | split (c : C) (t f : Tree)
  | or (t f : Tree)
  | need (c : C) (t : Tree)
  | call (ci base : Nat) (vs : List E) (t : Tree)
  | loop (j nv : Nat) (B : List (Nat × E)) (t : Tree)
  | again (j nv : Nat) (B : List (Nat × E))
  | fail (why : Nat)

/-- What variables stand for, where they are bound anew. -/
def bval (ρ : Env) (n : Nat) : E → Value
  | .int k _ => .int k (ρ.i n)
  | .bool _ => .bool (ρ.b n)
  | _ => ρ.v n
def Bound (ρ ρ' : Env) (B : List (Nat × E)) : Prop := B.map (fun p => bval ρ' p.1 p.2) = B.map fun p => p.2.nam ρ lay0
/-- What is said of loops: what holds at a round's head, and how much is still to come. -/
structure LoopS where
  inv : Nat → Nat → Env → Prop
  mu : Nat → Nat → Env → Nat
/-- No variable below n is bound in it. -/
def Tree.from_ (n : Nat) : Tree → Bool
  | .leaf _ _ => true
  | .split _ t f => t.from_ n && f.from_ n
  | .or t f => t.from_ n && f.from_ n
  | .need _ t => t.from_ n
  | .call _ base _ t => decide (n ≤ base) && t.from_ n
  | .loop _ nv _ t => decide (n ≤ nv) && t.from_ n
  | .again _ _ _ => true
  | .fail _ => true

def treeSem (S : List ConS) (LS : LoopS) (K : Env → Ex → St → Prop) (ρ : Env) : Tree → Prop
  | .leaf x σ => K ρ x σ
  | .split c t f => (c.den ρ = true → treeSem S LS K ρ t) ∧ (c.den ρ = false → treeSem S LS K ρ f)
  | .or t f => treeSem S LS K ρ t ∨ treeSem S LS K ρ f
  | .need c t => c.den ρ = true ∧ treeSem S LS K ρ t
  | .call ci base vs t => ∃ s e, S[ci]? = some s ∧ s (E.nams ρ lay0 vs) e ∧ treeSem S LS K (ρ.from_ base e) t
  | .loop j nv B t => (∃ ρn, ρ.ag nv ρn ∧ Bound ρ ρn B ∧ LS.inv j nv ρn) ∧ t.from_ (nv + stride) = true ∧ (∀ ρ1 ρ2, ρ1.ag (nv + stride) ρ2 → LS.mu j nv ρ2 = LS.mu j nv ρ1) ∧ ∀ ρ', ρ.ag nv ρ' → LS.inv j nv ρ' → treeSem S LS K ρ' t
  | .again j nv B => ∃ ρn, ρ.ag nv ρn ∧ Bound ρ ρn B ∧ LS.inv j nv ρn ∧ LS.mu j nv ρn < LS.mu j nv ρ
  | .fail _ => False

theorem treeSem_mono {LS : LoopS} {K K' : Env → Ex → St → Prop} : ∀ (t : Tree) (ρ : Env), (∀ ρ' x σ, K ρ' x σ → K' ρ' x σ) → treeSem S LS K ρ t → treeSem S LS K' ρ t := by
  intro t
  induction t with
  | leaf x σ => exact fun ρ h hh => h _ _ _ hh
  | split c t f i1 i2 => exact fun ρ h hh => ⟨fun hc => i1 ρ h (hh.1 hc), fun hc => i2 ρ h (hh.2 hc)⟩
  | or t f i1 i2 => exact fun ρ h hh => hh.imp (i1 ρ h) (i2 ρ h)
  | need c t i => exact fun ρ h hh => ⟨hh.1, i ρ h hh.2⟩
  | call ci base vs t i => exact fun ρ h hh => by obtain ⟨s, e, h1, h2, h3⟩ := hh; exact ⟨s, e, h1, h2, i _ h h3⟩
  | loop j nv B t i => exact fun ρ h hh => ⟨hh.1, hh.2.1, hh.2.2.1, fun ρ' h1 h2 => i ρ' h (hh.2.2.2 ρ' h1 h2)⟩
  | again j nv B => exact fun ρ h hh => hh
  | fail => exact fun ρ h hh => hh
theorem treeSem_from {LS : LoopS} {K : Env → Ex → St → Prop} {n : Nat} : ∀ (t : Tree) (ρ : Env), t.from_ n = true → treeSem S LS K ρ t → treeSem S LS (fun ρ' x σ => K ρ' x σ ∧ ρ.ag n ρ') ρ t := by
  have key : ∀ (t : Tree) (ρ0 ρ : Env), t.from_ n = true → ρ0.ag n ρ → treeSem S LS K ρ t → treeSem S LS (fun ρ' x σ => K ρ' x σ ∧ ρ0.ag n ρ') ρ t := by
    intro t
    induction t with
    | leaf x σ => exact fun ρ0 ρ _ h hh => ⟨hh, h⟩
    | split c t f i1 i2 =>
        intro ρ0 ρ hf h hh
        simp only [Tree.from_, Bool.and_eq_true] at hf
        exact ⟨fun hc => i1 ρ0 ρ hf.1 h (hh.1 hc), fun hc => i2 ρ0 ρ hf.2 h (hh.2 hc)⟩
    | or t f i1 i2 =>
        intro ρ0 ρ hf h hh
        simp only [Tree.from_, Bool.and_eq_true] at hf
        exact hh.imp (i1 ρ0 ρ hf.1 h) (i2 ρ0 ρ hf.2 h)
    | need c t i => exact fun ρ0 ρ hf h hh => ⟨hh.1, i ρ0 ρ hf h hh.2⟩
    | call ci base vs t i =>
        intro ρ0 ρ hf h hh
        simp only [Tree.from_, Bool.and_eq_true, decide_eq_true_eq] at hf
        obtain ⟨s, e, h1, h2, h3⟩ := hh
        exact ⟨s, e, h1, h2, i ρ0 _ hf.2 (Env.ag_trans h (Env.ag_mono (Env.from_ag _ _ _) hf.1) (Nat.le_refl _)) h3⟩
    | loop j nv B t i =>
        intro ρ0 ρ hf h hh
        simp only [Tree.from_, Bool.and_eq_true, decide_eq_true_eq] at hf
        exact ⟨hh.1, hh.2.1, hh.2.2.1, fun ρ' h1 h2 => i ρ0 ρ' hf.2 (Env.ag_trans h (Env.ag_mono h1 hf.1) (Nat.le_refl _)) (hh.2.2.2 ρ' h1 h2)⟩
    | again j nv B => exact fun ρ0 ρ _ h hh => hh
    | fail => exact fun ρ0 ρ _ h hh => hh
  exact fun t ρ hf hh => key t ρ ρ hf (Env.ag_refl _ _) hh

def Tree.bind : Tree → (Ex → St → Tree) → Tree
  | .leaf x σ, f => f x σ
  | .split c t e, f => .split c (t.bind f) (e.bind f)
  | .or t e, f => .or (t.bind f) (e.bind f)
  | .need c t, f => .need c (t.bind f)
  | .call ci base vs t, f => .call ci base vs (t.bind f)
  | .loop j nv B t, f => .loop j nv B (t.bind f)
  | .again j nv B, _ => .again j nv B
  | .fail n, _ => .fail n
theorem bind_from {f : Ex → St → Tree} {n : Nat} : ∀ t : Tree, (t.bind f).from_ n = true → t.from_ n = true := by
  intro t
  induction t with
  | leaf x σ => exact fun _ => rfl
  | split c t f i1 i2 => exact fun h => by simp only [Tree.bind, Tree.from_, Bool.and_eq_true] at h ⊢; exact ⟨i1 h.1, i2 h.2⟩
  | or t f i1 i2 => exact fun h => by simp only [Tree.bind, Tree.from_, Bool.and_eq_true] at h ⊢; exact ⟨i1 h.1, i2 h.2⟩
  | need c t i => exact fun h => i h
  | call ci base vs t i => exact fun h => by simp only [Tree.bind, Tree.from_, Bool.and_eq_true] at h ⊢; exact ⟨h.1, i h.2⟩
  | loop j nv B t i => exact fun h => by simp only [Tree.bind, Tree.from_, Bool.and_eq_true] at h ⊢; exact ⟨h.1, i h.2⟩
  | again j nv B => exact fun _ => rfl
  | fail => exact fun _ => rfl
theorem treeSem_bind {LS : LoopS} {K : Env → Ex → St → Prop} {f : Ex → St → Tree} : ∀ (t : Tree) (ρ : Env), treeSem S LS K ρ (t.bind f) → treeSem S LS (fun ρ' x σ => treeSem S LS K ρ' (f x σ)) ρ t := by
  intro t
  induction t with
  | leaf x σ => exact fun ρ h => h
  | split c t f i1 i2 => exact fun ρ h => ⟨fun hc => i1 ρ (h.1 hc), fun hc => i2 ρ (h.2 hc)⟩
  | or t f i1 i2 => exact fun ρ h => h.imp (i1 ρ) (i2 ρ)
  | need c t i => exact fun ρ h => ⟨h.1, i ρ h.2⟩
  | call ci base vs t i => exact fun ρ h => by obtain ⟨s, e, h1, h2, h3⟩ := h; exact ⟨s, e, h1, h2, i _ h3⟩
  | loop j nv B t i => exact fun ρ h => ⟨h.1, bind_from t h.2.1, h.2.2.1, fun ρ' h1 h2 => i ρ' (h.2.2.2 ρ' h1 h2)⟩
  | again j nv B => exact fun ρ h => h
  | fail => exact fun ρ h => h

def needsT (pc : Known) : List C → Tree → Tree
  | [], t => t
  | c :: l, t => match c.simp pc with
    | .lit true => needsT pc l t
    | _ => .need c (needsT pc l t)
def callT : Option (Nat × Nat × List E) → Tree → Tree
  | none, t => t
  | some (ci, base, vs), t => .call ci base vs t
def atomOf : C → C
  | .not c => atomOf c
  | .ite c _ _ => atomOf c
  | .and a _ => atomOf a
  | c => c

theorem needsT_sem {LS : LoopS} {K : Env → Ex → St → Prop} {pc : Known} {t : Tree} (hpc : pc.ok ρ) : ∀ {ns : List C}, treeSem S LS K ρ (needsT pc ns t) → (∀ c ∈ ns, c.den ρ = true) ∧ treeSem S LS K ρ t
  | [], h => ⟨fun _ h => (by cases h), h⟩
  | c :: l, h => by
    unfold needsT at h
    split at h
    · rename_i hc
      have h1 := C.den_simp hpc c
      rw [hc] at h1
      obtain ⟨h2, h3⟩ := needsT_sem hpc h
      exact ⟨fun d hd => by cases hd with | head => exact h1.symm | tail _ hd => exact h2 d hd, h3⟩
    · obtain ⟨h1, h⟩ := h
      obtain ⟨h2, h3⟩ := needsT_sem hpc h
      exact ⟨fun d hd => by cases hd with | head => exact h1 | tail _ hd => exact h2 d hd, h3⟩

def caOk : Option (Nat × Nat × List E) → Bool
  | none => true
  | some (_, base, vs) => E.lts base vs
/-- What a step asks speaks of no later variable. -/
theorem step_scope {i : Nat} {ns : List C} {ca : Option (Nat × Nat × List E)} (h : stepE P cs ops nk nv i σ = .ok ns ca σ') :
    (∀ c ∈ ns, c.lt (nv + i * stride) = true) ∧ (∀ ci base vs, ca = some (ci, base, vs) → base = nv + i * stride) ∧ σ'.nv = σ.nv := by
  obtain ⟨d, f, hp, ha, rfl, rfl⟩ := stepE_ok.1 h
  have hnv : σ'.nv = σ.nv := (app_heap ha).2.2.2.2.1
  have hskip : f = skipEff → (∀ c ∈ f.ns, c.lt (nv + i * stride) = true) ∧ (∀ ci base vs, f.call = some (ci, base, vs) → base = nv + i * stride) ∧ σ'.nv = σ.nv := fun e => by
    subst e; exact ⟨fun _ h => (by cases h), fun _ _ _ h => (by cases h), hnv⟩
  unfold pickE at hp
  split at hp
  · cases hp; exact hskip rfl
  · split at hp
    · cases hp
    · split at hp
      · split at hp
        · rename_i g hg
          cases hp
          unfold effE at hg
          split at hg
          · rename_i g' h1
            cases hg
            unfold primE at h1
            split at h1
            · cases h1
            · split at h1
              · split at h1
                · rename_i hcond
                  cases h1
                  refine ⟨fun _ h => (by cases h), fun _ _ _ h => ?_, hnv⟩
                  cases h
                  rfl
                · cases h1
              · cases h1
          unfold effX at hg
          split at hg
          · cases hg
          · split at hg
            · rename_i hlt
              rw [Bool.and_eq_true] at hlt
              have hl := List.all_eq_true.1 hlt.1
              split at hg
              · cases hg; exact ⟨hl, fun _ _ _ h => (by cases h), hnv⟩
              · split at hg
                · cases hg; exact ⟨hl, fun _ _ _ h => (by cases h), hnv⟩
                · cases hg
              · split at hg
                · split at hg
                  · cases hg; exact ⟨hl, fun _ _ _ h => (by cases h), hnv⟩
                  · cases hg
                · cases hg
              · split at hg
                · split at hg
                  · split at hg
                    · rename_i hv
                      cases hg
                      refine ⟨hl, fun _ _ _ h => ?_, hnv⟩
                      cases h
                      rfl
                    · cases hg
                  · cases hg
                · cases hg
            · cases hg
        · cases hp
      · cases hp; exact hskip rfl
      · cases hp

theorem Sim.know [Kinds] (h : Sim ρ w0 σ a w) {c : C} (hc : c.lt σ.nv = true) {b : Bool} (hb : c.den ρ = b) : Sim ρ w0 { σ with pc := (c, b) :: σ.pc } a w := by
  obtain ⟨ι, F, h⟩ := h
  refine ⟨ι, F, fun ρ' hr ι' hi => ?_⟩
  have h1 := h ρ' hr ι' hi
  refine ⟨h1.n, h1.defers, h1.tmps, h1.cell, h1.apart, h1.own, h1.par, h1.fr, fun p hp => ?_, h1.glt, h1.gho, h1.gap, h1.gow, h1.gpar, h1.gcnt⟩
  cases hp with
  | head => simp only; rw [C.den_ag hr c hc, hb]
  | tail _ hp => exact h1.pc p hp

/-- What the state says of blocks. -/
structure HeapAt [Kinds] (ρ : Env) (ι : Lay) (F : Foot) (w0 : Base) (σ : St) (w : World) : Prop where
  cell : ∀ b l, σ.heap.get b = some l → ∀ (j : Nat) (c : E), l[j]? = some c → w.cell? ⟨(ι b).1, (ι b).2 + j, none⟩ = some (c.val ρ ι) ∧ w.frozen? ⟨(ι b).1, (ι b).2 + j, none⟩ = false
  apart : ∀ b b' l l', σ.heap.get b = some l → σ.heap.get b' = some l' → b ≠ b' → (ι b).1 = (ι b').1 → ∀ j j', j < l.length → j' < l'.length → (ι b).2 + j ≠ (ι b').2 + j'
  own : ∀ b l, σ.heap.get b = some l → σ.np ≤ b → w0.w.heap.size ≤ (ι b).1
  par : ∀ b, w0.pin b → (σ.heap.get b).isSome ∧ ι b = w0.ι b
  fr : Fr (fun i x => σ.wrote ι i x ∨ w0.F i x) w0.w w
  pc : σ.pc.ok ρ
  glt : σ.gh < σ.nv
  gho : Kinds.holds w ι.h F (ρ.g σ.gh)
  gap : ∀ b l, σ.heap.get b = some l → ∀ j, j < l.length → ¬ F (ι b).1 ((ι b).2 + j)
  gow : ∀ i x, F i x → w0.w.heap.size ≤ i ∨ w0.F i x
  gpar : ∀ n, n < w0.cnt → ι.h n = w0.ι.h n
  gcnt : w0.cnt ≤ Kinds.cnt (ρ.g σ.gh)
/-- How a call is gone into: what its run tells is so. -/
def InlOk [Kinds] (P : Program) (S : List ConS) (LQ : LoopS) (inl : FuncId → List E → St → Tree) : Prop := ∀ (f : FuncId) (args : List E) (σ : St) (ρ : Env) (w0 : Base) (a : Act) (w : World) (ι : Lay) (F : Foot) (K : Env → Ex → St → Prop),
  (∀ ρ', ρ.ag σ.nv ρ' → ∀ ι', σ.agL ρ ι ι' → SimAt ρ' ι' F w0 σ a w ∧ E.vals ρ' ι' args = E.vals ρ ι args) → treeSem S LQ K ρ (inl f args σ) →
  Calls P f (E.vals ρ ι args).toArray w fun e w' => ∃ ρ2 σc r, K ρ2 .ret σc ∧ σc.tmps.get 0 = some r ∧ ρ.ag σ.nv ρ2 ∧ σ.nv ≤ σc.nv ∧ (∀ b, (σ.heap.get b).isSome → (σc.heap.get b).isSome) ∧ Kinds.cnt (ρ.g σ.gh) ≤ Kinds.cnt (ρ2.g σc.gh) ∧ ∃ ι2 F2, σ.agL ρ ι ι2 ∧
    ∀ ρ', ρ2.ag σc.nv ρ' → ∀ ι', σc.agL ρ2 ι2 ι' → e = .returned (r.val ρ' ι') ∧ HeapAt ρ' ι' F2 w0 σc w'
/-- Back from a call. -/
def backSt (σ : St) (dst : Option Tmp) (σc : St) (r : E) : Option St := match dst with
  | some d => if d < σ.n ∧ σ.n ≤ 1099511627776 then some { σc with n := σ.n, tmps := σ.tmps.set d r } else none
  | none => some { σc with n := σ.n, tmps := σ.tmps }

theorem back_tmps {dst : Option Tmp} {σc : St} {r : E} {v : Value} (h : backSt σ dst σc r = some σ') (hn : a.tmps.size = σ.n) (ht : ∀ t e, σ.tmps.get t = some e → a.tmps.getD t undef = e.val ρ ι) (hv : v = r.val ρ ι) :
    ∀ t e, σ'.tmps.get t = some e → (a.put dst v).tmps.getD t undef = e.val ρ ι := by
  intro t e he
  unfold backSt at h
  split at h
  · rename_i d
    split at h
    · rename_i hd
      cases h
      simp only [] at he
      rw [Tr.get_set _ _ _ _ (Nat.lt_of_lt_of_le hd.1 hd.2)] at he
      split at he
      · rename_i e1
        cases he
        subst e1
        simp [Act.put, hn, hd.1, hv]
      · rename_i e1
        have := ht t e he
        simp only [Act.put, Array.getD_eq_getD_getElem?] at this ⊢
        rw [Array.getElem?_setIfInBounds_ne (fun x => e1 x.symm)]
        exact this
    · cases h
  · cases h
    exact ht t e he
/-- A plain region: the operations in the text's order. -/
def runSeq (P : Program) (cs : List Con) (inl : FuncId → List E → St → Tree) (ops : Array Oper) (nk : Nat) : Nat → Nat → List Nat → St → Tree
  | 0, _, _, _ => .fail 1
  | _ + 1, _, [], σ => .leaf .normal σ
  | f + 1, nv, i :: l, σ => match stepE P cs ops nk nv i { σ with nv := nv + i * stride + stride } with
    | .fail => .fail (1000 + i)
    | .split c => if (atomOf c).lt σ.nv then .split (atomOf c) (runSeq P cs inl ops nk f nv (i :: l) { σ with pc := (atomOf c, true) :: σ.pc }) (runSeq P cs inl ops nk f nv (i :: l) { σ with pc := (atomOf c, false) :: σ.pc }) else .fail 2
    | .ok ns ca σ' => if caOk ca then needsT σ.pc ns (callT ca (runSeq P cs inl ops nk f nv l σ')) else .fail 5
    | .enter ns g args dst => needsT σ.pc ns ((inl g args { σ with nv := nv + i * stride + stride }).bind fun x σc => match x, σc.tmps.get 0 with
      | .ret, some r => match backSt σ dst σc r with
        | some σ' => runSeq P cs inl ops nk f σc.nv l σ'
        | none => .fail 22
      | _, _ => .fail 23)

theorem step_enter {i : Nat} {ns : List C} {g : FuncId} {args : List E} {dst : Option Tmp} (h : stepE P cs ops nk nv i σ = .enter ns g args dst) :
    ∃ o c, ops[i]? = some o ∧ guardE ops σ o = some c ∧ c.simp σ.pc = .lit true ∧ opX P σ o = some (.call g args, ns) ∧ dst = o.dst := by
  unfold stepE at h
  split at h
  · cases h
  · rename_i o ho
    split at h
    · cases h
    · rename_i c hg
      split at h
      · rename_i hc
        split at h
        · split at h <;> cases h
        · split at h
          · rename_i f args' ns' hop
            split at h
            · cases h; exact ⟨o, c, ho, hg, hc, hop, rfl⟩
            · cases h
          · split at h <;> cases h
          · cases h
      · split at h <;> cases h
      · cases h

theorem runSeq_ok [Kinds] (hC : Cons P cs S) {LS : LoopS} {inl : FuncId → List E → St → Tree} (hI : InlOk P S LS inl) {K : Env → Ex → St → Prop} {Q : Exit → Act → World → Prop} (hQ : ∀ ρ σ a w, K ρ .normal σ → Sim ρ w0 σ a w → Q .normal a w) :
    ∀ (f : Nat) (nv k len : Nat) (σ : St) (ρ : Env) (a : Act) (w : World), treeSem S LS K ρ (runSeq P cs inl ops nk f nv (List.range' k len) σ) → Sim ρ w0 σ a w → σ.nv ≤ nv + k * stride → wpOps P ops Q (List.range' k len) a w
  | 0, _, _, _, _, _, _, _, h, _, _ => h.elim
  | f + 1, nv, k, 0, σ, ρ, a, w, h, hs, _ => hQ ρ σ a w h hs
  | f + 1, nv, k, len + 1, σ, ρ, a, w, h, hs, hnv => by
    rw [List.range'_succ] at h ⊢
    unfold runSeq at h
    split at h
    · exact h.elim
    · rename_i c hst
      split at h
      · rename_i hlt
        rw [← List.range'_succ] at h ⊢
        cases hb : (atomOf c).den ρ with
        | true => exact runSeq_ok hC hI hQ f nv k (len + 1) _ ρ a w (h.1 hb) (hs.know hlt hb) hnv
        | false => exact runSeq_ok hC hI hQ f nv k (len + 1) _ ρ a w (h.2 hb) (hs.know hlt hb) hnv
      · exact h.elim
    · rename_i ns ca σ' hst
      obtain ⟨sc1, sc2, sc3⟩ := step_scope hst
      split at h
      rotate_left
      · exact h.elim
      rename_i hca
      obtain ⟨ι, F, hsa⟩ := hs.at_
      obtain ⟨hn, h⟩ := needsT_sem hsa.pc h
      rw [wpOps_cons]
      have hlast : nv + k * stride + stride = nv + (k + 1) * stride := by rw [Nat.add_mul]; omega
      have sc4 : σ'.nv = nv + k * stride + stride := sc3
      cases ca with
      | none =>
        have hs1 : Sim ρ w0 { σ with nv := nv + k * stride + stride } a w := hs.env (Env.ag_refl _ _) (by omega) σ.nk
        refine wpOp_mono (fun a' w' hs' => ?_) (step_ok hC ⟨ns, none, hst, hn, trivial⟩ hs1)
        exact runSeq_ok hC hI hQ f nv (k + 1) len σ' ρ a' w' h hs' (by rw [sc4]; omega)
      | some cc =>
        obtain ⟨ci, base, vs⟩ := cc
        have hbase := sc2 ci base vs rfl
        have hvs : E.lts base vs = true := hca
        subst hbase
        obtain ⟨s, e0, h1, h2, h3⟩ := h
        have hag : ρ.ag (nv + k * stride) (ρ.from_ (nv + k * stride) e0) := Env.from_ag _ _ _
        have hs1 : Sim (ρ.from_ (nv + k * stride) e0) w0 { σ with nv := nv + k * stride + stride } a w := hs.env (Env.ag_mono hag hnv) (by omega) σ.nk
        have hvals : E.nams (ρ.from_ (nv + k * stride) e0) lay0 vs = E.nams ρ lay0 vs := E.nams_ag hag _ _ hvs
        refine wpOp_mono (fun a' w' hs' => ?_) (step_ok hC ⟨ns, _, hst, fun c hc => by rw [C.den_ag hag c (sc1 c hc)]; exact hn c hc, s, e0, h1, by rw [hvals]; exact h2, Env.from_at _ _ _⟩ hs1)
        exact runSeq_ok hC hI hQ f nv (k + 1) len σ' _ a' w' h3 hs' (by rw [sc4]; omega)
    · rename_i ns g args dst hst
      obtain ⟨o, c, ho, hg, hc, hop, rfl⟩ := step_enter hst
      have hs1 : Sim ρ w0 { σ with nv := nv + k * stride + stride } a w := hs.env (Env.ag_refl _ _) (by omega) σ.nk
      obtain ⟨ι, F, hι⟩ := hs1
      have h0 := hι ρ (Env.ag_refl _ _) ι (St.agL_refl _ ρ ι)
      obtain ⟨hn, h⟩ := needsT_sem h0.pc h
      rw [wpOps_cons]
      unfold wpOp
      simp only [ho]
      have hw := guard_ok h0.held hg
      have hd := C.den_simp h0.pc c
      rw [hc] at hd
      simp only [C.den] at hd
      rw [← hd] at hw
      rw [if_pos hw]
      left
      unfold Oper.wp
      have hrun := opX_ok h0.held hop hn
      simp only [Do.does] at hrun
      rw [hrun, Oper.upon_enter]
      have hns : ns.all (C.lt (nv + k * stride)) = true := by
        unfold stepE at hst
        simp only [ho, hg, hc, hop] at hst
        split at hst
        · split at hst <;> cases hst
        · split at hst
          · rename_i hcc; simp only [Bool.and_eq_true] at hcc; exact hcc.1.2
          · cases hst
      refine (hI g args _ ρ w0 a w ι F _ (fun ρ' hr ι' hi => ⟨hι ρ' hr ι' hi, ?_⟩) (treeSem_bind _ _ h)).mono ?_
      · have hrun' := opX_ok (hι ρ' hr ι' hi).held hop (ns_ag hr (by simp only; omega) hns hn)
        simp only [Do.does] at hrun'
        rw [hrun] at hrun'
        injection hrun' with hrun' _
        injection hrun' with _ hrun'
        exact (congrArg Array.toList hrun').symm
      · rintro e w' ⟨ρ2, σc, r, hk, hr0, hag, hle, hkeep, hcnt, ι2, F2, hi2, hall⟩
        simp only [hr0] at hk
        split at hk
        · rename_i σ' hback
          obtain ⟨he, _⟩ := hall ρ2 (Env.ag_refl _ _) ι2 (σc.agL_refl ρ2 ι2)
          subst he
          simp only
          have hb : σ'.n = σ.n ∧ σ'.heap = σc.heap ∧ σ'.np = σc.np ∧ σ'.wr = σc.wr ∧ σ'.nv = σc.nv ∧ σ'.pc = σc.pc ∧ σ'.gh = σc.gh := by
            unfold backSt at hback
            split at hback
            · split at hback
              · cases hback; exact ⟨rfl, rfl, rfl, rfl, rfl, rfl, rfl⟩
              · cases hback
            · cases hback; exact ⟨rfl, rfl, rfl, rfl, rfl, rfl, rfl⟩
          obtain ⟨b1, b2, b3, b4, b5, b6, b7⟩ := hb
          refine runSeq_ok hC hI hQ f σc.nv (k + 1) len σ' ρ2 _ w' hk ⟨ι2, F2, fun ρ' hr ι' hi => ?_⟩ (by rw [b5]; omega)
          rw [b5] at hr
          have hi' : σc.agL ρ2 ι2 ι' := ⟨fun b hb => hi.1 b (by rw [b2]; exact hb), fun n hn => hi.2 n (by rw [b7]; exact hn)⟩
          obtain ⟨hv, hH⟩ := hall ρ' hr ι' hi'
          have hcall := hι ρ' (Env.ag_trans hag hr hle) ι' ⟨fun b hb => by rw [hi'.1 b (hkeep b hb), hi2.1 b hb], fun n hn => by rw [hi'.2 n (Nat.lt_of_lt_of_le hn hcnt), hi2.2 n hn]⟩
          injection hv with hv
          refine ⟨by rw [(put_size _ _ _).1, hcall.n, b1], by rw [(put_size _ _ _).2, hcall.defers], ?_, by rw [b2]; exact hH.cell, by rw [b2]; exact hH.apart, by rw [b2, b3]; exact hH.own, by rw [b2]; exact hH.par, ?_, by rw [b6]; exact hH.pc, by rw [b7, b5]; exact hH.glt, by rw [b7]; exact hH.gho, by rw [b2]; exact hH.gap, hH.gow, hH.gpar, by rw [b7]; exact hH.gcnt⟩
          · exact back_tmps hback hcall.n hcall.tmps hv
          · have := hH.fr
            unfold St.wrote at this ⊢
            rw [b2, b3, b4]
            exact this
        · exact hk.elim

/-- A region that draws its order: in the text's order, with what is known at its head. -/
inductive Lin where
  | fail (why : Nat)
  | split (c : C)
  | done (evs : List (List C × Option (Nat × Nat × List E))) (σ : St)
def lin (P : Program) (cs : List Con) (ops : Array Oper) (nk nv : Nat) : List Nat → St → Lin
  | [], σ => .done [] σ
  | i :: l, σ => match stepE P cs ops nk nv i σ with
    | .fail => .fail (2000 + i)
    | .enter _ _ _ _ => .fail (3000 + i)
    | .split c => .split c
    | .ok ns ca σ' => if caOk ca then (match lin P cs ops nk nv l σ' with
      | .done evs σf => .done ((ns, ca) :: evs) σf
      | r => r) else .fail 6
def evsT (pc : Known) : List (List C × Option (Nat × Nat × List E)) → Tree → Tree
  | [], t => t
  | (ns, ca) :: r, t => needsT pc ns (callT ca (evsT pc r t))
def asksT : Known → Tree → Tree
  | [], t => t
  | (c, b) :: r, t => .need (if b then c else .not c) (asksT r t)
/-- A: what is laid of the results of the region's own calls: it is asked behind them. -/
def runDraw (P : Program) (cs : List Con) (ops : Array Oper) : Nat → Known → St → Tree
  | 0, _, _ => .fail 3
  | f + 1, A, σ => match lin P cs ops σ.nk σ.nv (List.range' 0 ops.size) { σ with nv := σ.nv + ops.size * stride, nk := σ.nk + ops.size, pc := A ++ σ.pc } with
    | .fail n => .fail n
    | .split c => if (atomOf c).lt σ.nv then .split (atomOf c) (runDraw P cs ops f A { σ with pc := (atomOf c, true) :: σ.pc }) (runDraw P cs ops f A { σ with pc := (atomOf c, false) :: σ.pc })
      else if (atomOf c).lt (σ.nv + ops.size * stride) then .or (runDraw P cs ops f ((atomOf c, true) :: A) σ) (runDraw P cs ops f ((atomOf c, false) :: A) σ) else .fail 4
    | .done evs σf => evsT (A ++ σ.pc) evs (asksT A (.leaf .normal σf))
theorem asksT_sem {LS : LoopS} {K : Env → Ex → St → Prop} {t : Tree} : ∀ {A : Known}, treeSem S LS K ρ (asksT A t) → A.ok ρ ∧ treeSem S LS K ρ t
  | [], h => ⟨fun _ h => (by cases h), h⟩
  | (c, b) :: r, h => by
    obtain ⟨h1, h2⟩ := h
    obtain ⟨h3, h4⟩ := asksT_sem h2
    refine ⟨fun p hp => ?_, h4⟩
    cases hp with
    | head => cases b <;> simpa [C.den] using h1
    | tail _ hp => exact h3 p hp
theorem needsT_sem2 {LS : LoopS} {K : Env → Ex → St → Prop} {pc : Known} {t : Tree} : ∀ {ns : List C}, treeSem S LS K ρ (needsT pc ns t) → (∀ c ∈ ns, c.simp pc = .lit true ∨ c.den ρ = true) ∧ treeSem S LS K ρ t
  | [], h => ⟨fun _ h => (by cases h), h⟩
  | c :: l, h => by
    unfold needsT at h
    split at h
    · rename_i hc
      obtain ⟨h2, h3⟩ := needsT_sem2 h
      exact ⟨fun d hd => by cases hd with | head => exact .inl hc | tail _ hd => exact h2 d hd, h3⟩
    · obtain ⟨h1, h⟩ := h
      obtain ⟨h2, h3⟩ := needsT_sem2 h
      exact ⟨fun d hd => by cases hd with | head => exact .inr h1 | tail _ hd => exact h2 d hd, h3⟩

theorem T.lt_mono {n m : Nat} (hnm : n ≤ m) (t : T) : t.lt n = true → t.lt m = true := by
  induction t with
  | lit _ => exact fun _ => rfl
  | var i => simp only [T.lt, decide_eq_true_eq]; omega
  | bin o k a b ia ib => simp only [T.lt, Bool.and_eq_true]; exact fun h => ⟨ia h.1, ib h.2⟩
  | wrap k a ia => exact ia
  | mn a b ia ib => simp only [T.lt, Bool.and_eq_true]; exact fun h => ⟨ia h.1, ib h.2⟩
  | mx a b ia ib => simp only [T.lt, Bool.and_eq_true]; exact fun h => ⟨ia h.1, ib h.2⟩
  | sel l a ia => exact ia
  | add2 hi a b ia ib => simp only [T.lt, Bool.and_eq_true]; exact fun h => ⟨ia h.1, ib h.2⟩
theorem C.lt_mono {n m : Nat} (hnm : n ≤ m) (c : C) : c.lt n = true → c.lt m = true := by
  induction c with
  | lit _ => exact fun _ => rfl
  | var i => simp only [C.lt, decide_eq_true_eq]; omega
  | cmp o a b => simp only [C.lt, Bool.and_eq_true]; exact fun h => ⟨T.lt_mono hnm a h.1, T.lt_mono hnm b h.2⟩
  | not c ic => exact ic
  | ite c a b ic ia ib => simp only [C.lt, Bool.and_eq_true]; exact fun h => ⟨⟨ic h.1.1, ia h.1.2⟩, ib h.2⟩
  | iff a b ia ib => simp only [C.lt, Bool.and_eq_true]; exact fun h => ⟨ia h.1, ib h.2⟩
  | and a b ia ib => simp only [C.lt, Bool.and_eq_true]; exact fun h => ⟨ia h.1, ib h.2⟩
theorem app_pc {d : Option Tmp} {f : Eff} (h : σ.app d f = some σ') : σ'.pc = σ.pc := (app_heap h).2.2.2.2.2.1
theorem lin_ok {LS : LoopS} {K : Env → Ex → St → Prop} {pc : Known} (G : Tree) : ∀ (len k : Nat) (σ : St) (evs : List (List C × Option (Nat × Nat × List E))) (σf : St) (ρ : Env), lin P cs ops nk nv (List.range' k len) σ = .done evs σf →
    treeSem S LS K ρ (evsT pc evs G) → ∃ ρf, ρ.ag (nv + k * stride) ρf ∧ treeSem S LS K ρf G ∧ (pc.ok ρf → Fold P cs S ops nk nv ρf (List.range' k len) σ σf) := by
  intro len
  induction len with
  | zero =>
    intro k σ evs σf ρ h ht
    rw [List.range'_zero] at h
    cases h
    exact ⟨ρ, Env.ag_refl _ _, ht, fun _ => rfl⟩
  | succ len ih =>
    intro k σ evs σf ρ h ht
    rw [List.range'_succ] at h ⊢
    unfold lin at h
    split at h
    · cases h
    · cases h
    · cases h
    · rename_i ns ca σ' hst
      split at h
      rotate_left
      · cases h
      rename_i hca
      split at h
      · rename_i evs' σf' hl
        cases h
        obtain ⟨sc1, sc2, _⟩ := step_scope hst
        obtain ⟨hn, ht⟩ := needsT_sem2 ht
        have hlast : nv + (k + 1) * stride = nv + k * stride + stride := by rw [Nat.add_mul]; omega
        have hns : ∀ {ρf : Env}, ρ.ag (nv + k * stride) ρf → pc.ok ρf → ∀ c ∈ ns, c.den ρf = true := fun {ρf} hag hpc c hc => by
          rcases hn c hc with h1 | h1
          · have h2 := C.den_simp hpc c
            rw [h1] at h2
            exact h2.symm
          · rw [C.den_ag hag c (sc1 c hc)]; exact h1
        cases ca with
        | none =>
          obtain ⟨ρf, h1, h3, h2⟩ := ih (k + 1) σ' evs' σf ρ hl ht
          have h1' := Env.ag_mono h1 (show nv + k * stride ≤ nv + (k + 1) * stride by omega)
          exact ⟨ρf, h1', h3, fun hpc => ⟨σ', ⟨ns, none, hst, hns h1' hpc, trivial⟩, h2 hpc⟩⟩
        | some cc =>
          obtain ⟨ci, base, vs⟩ := cc
          have hbase := sc2 ci base vs rfl
          have hvs : E.lts base vs = true := hca
          obtain ⟨s, e0, g1, g2, g3⟩ := ht
          have hag : ρ.ag base (ρ.from_ base e0) := Env.from_ag _ _ _
          obtain ⟨ρf, h1, h3, h2⟩ := ih (k + 1) σ' evs' σf _ hl g3
          have hag2 : ρ.ag base ρf := Env.ag_trans hag h1 (by omega)
          have hvals : E.nams ρf lay0 vs = E.nams ρ lay0 vs := E.nams_ag hag2 _ _ hvs
          rw [hbase] at hag2
          refine ⟨ρf, hag2, h3, fun hpc => ⟨σ', ⟨ns, _, hst, hns hag2 hpc, s, e0, g1, by rw [hvals]; exact g2, ?_⟩, h2 hpc⟩⟩
          exact (Env.from_at ρ base _).ag h1 (by omega)
      · rename_i r hno
        rw [h] at hno
        exact (hno _ _ rfl).elim

theorem Sim.knows [Kinds] (h : Sim ρ w0 σ a w) : ∀ (A : Known), (∀ p ∈ A, p.1.lt σ.nv = true) → A.ok ρ → Sim ρ w0 { σ with pc := A ++ σ.pc } a w
  | [], _, _ => h
  | (c, b) :: r, hlt, hok => by
    have ih := Sim.knows h r (fun p hp => hlt p (List.mem_cons_of_mem _ hp)) (fun p hp => hok p (List.mem_cons_of_mem _ hp))
    exact ih.know (c := c) (b := b) (hlt _ (List.mem_cons_self ..)) (hok _ (List.mem_cons_self ..))
theorem Sim.drew [Kinds] (h : Sim ρ w0 σ a w) (d : Nat) : Sim ρ w0 σ a { w with drawn := d } := by
  obtain ⟨ι, F, h⟩ := h
  refine ⟨ι, F, fun ρ' hr ι' hi => ?_⟩
  have h1 := h ρ' hr ι' hi
  have hfr : Fr (fun _ _ => False) w { w with drawn := d } := ⟨rfl, rfl, rfl, Nat.le_refl _, fun _ _ _ => rfl, fun _ _ _ _ => rfl, fun _ _ _ => rfl, fun _ _ => rfl, fun _ _ h => h, fun _ _ _ => rfl⟩
  refine ⟨h1.n, h1.defers, h1.tmps, h1.cell, h1.apart, h1.own, h1.par, ?_, h1.pc, h1.glt, Kinds.keep h1.gho hfr (fun _ _ _ h => h), h1.gap, h1.gow, h1.gpar, h1.gcnt⟩
  exact ⟨h1.fr.os, h1.fr.tape, h1.fr.output, h1.fr.size, h1.fr.block, h1.fr.cell, h1.fr.frozen, h1.fr.shape, h1.fr.sane, h1.fr.frl⟩

theorem runDraw_ok [Kinds] (hC : Cons P cs S) (hm : P.follows .mixedOrders = true) {Z : List (Tmp × Nat)} (hZ : ∀ (i : Nat) o, ops[i]? = some o → ∀ p ∈ Z, o.dst ≠ some p.1) (hO : orderOk cs ops Z = true) {LS : LoopS} {K : Env → Ex → St → Prop} {Q : Exit → Act → World → Prop} (hQ : ∀ ρ σ a w, K ρ .normal σ → Sim ρ w0 σ a w → Q .normal a w) {id : Nat} :
    ∀ (f : Nat) (A : Known) (σ : St) (ρ : Env) (a : Act) (w : World), (∀ p ∈ σ.pc, p.1.lt σ.nv = true) → (∀ p ∈ A, p.1.lt (σ.nv + ops.size * stride) = true) → treeSem S LS K ρ (runDraw P cs ops f A σ) → Keep Z σ → Sim ρ w0 σ a w → (Code.region id ops true).wp P Q a w
  | 0, _, _, _, _, _, _, _, h, _, _ => h.elim
  | f + 1, A, σ, ρ, a, w, hp, hA, h, hkz, hs => by
    unfold runDraw at h
    split at h
    · exact h.elim
    · rename_i c hl
      split at h
      · rename_i hlt
        have hp' : ∀ b, ∀ p ∈ (atomOf c, b) :: σ.pc, p.1.lt σ.nv = true := fun b p hp' => by
          cases hp' with
          | head => exact hlt
          | tail _ hp' => exact hp p hp'
        cases hb : (atomOf c).den ρ with
        | true => exact runDraw_ok hC hm hZ hO hQ f A { σ with pc := (atomOf c, true) :: σ.pc } ρ a w (hp' _) hA (h.1 hb) hkz (hs.know hlt hb)
        | false => exact runDraw_ok hC hm hZ hO hQ f A { σ with pc := (atomOf c, false) :: σ.pc } ρ a w (hp' _) hA (h.2 hb) hkz (hs.know hlt hb)
      · split at h
        · rename_i hlt
          have hA' : ∀ b, ∀ p ∈ (atomOf c, b) :: A, p.1.lt (σ.nv + ops.size * stride) = true := fun b p hp' => by
            cases hp' with
            | head => exact hlt
            | tail _ hp' => exact hA p hp'
          rcases h with h | h
          · exact runDraw_ok hC hm hZ hO hQ f _ _ ρ a w hp (hA' _) h hkz hs
          · exact runDraw_ok hC hm hZ hO hQ f _ _ ρ a w hp (hA' _) h hkz hs
        · exact h.elim
    · rename_i evs σf hl
      obtain ⟨ι, F, hsa⟩ := hs.at_
      obtain ⟨ρf, h1, h3, h2⟩ := lin_ok _ _ _ _ _ _ _ hl h
      simp only [Nat.zero_mul, Nat.add_zero] at h1
      obtain ⟨hAok, h3⟩ := asksT_sem h3
      have hpcok : Known.ok ρf (A ++ σ.pc) := fun p hp' => by
        rcases List.mem_append.1 hp' with hp' | hp'
        · exact hAok p hp'
        · rw [C.den_ag h1 p.1 (hp p hp')]; exact hsa.pc p hp'
      have h2 := h2 hpcok
      unfold orderOk at hO
      rw [Bool.and_eq_true] at hO
      refine wp_region_any hm ?_
      have hs0 : Sim ρf w0 { σ with nv := σ.nv + ops.size * stride, nk := σ.nk + ops.size } a { w with drawn := w.drawn + 1 } := (hs.env h1 (by omega) _).drew _
      have hs1 : Sim ρf w0 { σ with nv := σ.nv + ops.size * stride, nk := σ.nk + ops.size, pc := A ++ σ.pc } a { w with drawn := w.drawn + 1 } := hs0.knows A hA hAok
      refine order_ok hC hO.1 hZ hO.2 (fun a w hs => hQ ρf σf a w h3 hs) ops.size (List.range' 0 ops.size) _ _ _ _ (by simp) ?_ (by simp) (fun i => ?_) (fun j o ho hl => ?_) h2 hkz hs1
      · exact List.pairwise_lt_range'
      · simp only [List.mem_range'_1, Nat.zero_le, Nat.zero_add, true_and]
        constructor
        · intro hi; simp [hi]
        · intro hi
          apply Classical.byContradiction
          intro hc
          simp [Nat.le_of_not_lt hc] at hi
      · rw [getD_replicate_false] at hl; cases hl
end
end Sx
end Go.Proofs.Ytaigdbnfhehclaa
