/-
  What is proved: plain laws on contracts of calls, and on one step of a symbolic run; no program in sight. No condition.
-/
import Derived.Test.YtigpdnbcjmcfoaaSxE
namespace Go.Proofs.Ytigpdnbcjmcfoaa
namespace Sx
open Go.RowKit

mutual
/-- Without a place. -/
def E.noPtr : E → Bool
  | .int _ _ => true
  | .bool _ => true
  | .lit _ => true
  | .var _ => true
  | .ptr _ _ => false
  | .slice _ _ _ _ => false
  | .at _ _ _ _ _ => false
  | .agg l => E.noPtrs l
  | .tup l => E.noPtrs l
  | .func _ l => E.noPtrs l
  | .iface _ e => e.noPtr
def E.noPtrs : List E → Bool
  | [] => true
  | e :: l => e.noPtr && E.noPtrs l
end
mutual
theorem E.val_noPtr (ρ : Env) (ι ι' : Lay) : ∀ e : E, e.noPtr = true → e.val ρ ι = e.val ρ ι'
  | .int _ _, _ => rfl
  | .bool _, _ => rfl
  | .lit _, _ => rfl
  | .var _, _ => rfl
  | .ptr _ _, h => by simp [E.noPtr] at h
  | .slice _ _ _ _, h => by simp [E.noPtr] at h
  | .at _ _ _ _ _, h => by simp [E.noPtr] at h
  | .agg l, h => by simp only [E.noPtr] at h; simp only [E.val, E.vals_noPtr ρ ι ι' l h]
  | .tup l, h => by simp only [E.noPtr] at h; simp only [E.val, E.vals_noPtr ρ ι ι' l h]
  | .func _ l, h => by simp only [E.noPtr] at h; simp only [E.val, E.vals_noPtr ρ ι ι' l h]
  | .iface _ e, h => by simp only [E.noPtr] at h; simp only [E.val, E.val_noPtr ρ ι ι' e h]
theorem E.vals_noPtr (ρ : Env) (ι ι' : Lay) : ∀ l : List E, E.noPtrs l = true → E.vals ρ ι l = E.vals ρ ι' l
  | [], _ => rfl
  | e :: l, h => by simp only [E.noPtrs, Bool.and_eq_true] at h; simp only [E.vals, E.val_noPtr ρ ι ι' e h.1, E.vals_noPtr ρ ι ι' l h.2]
end
/-- No layout. -/
def lay0 : Lay := fun _ => (0, 0)

/-- A parameter that is a place: its number, how many cells lie there, and what is written there, if anything is. -/
abbrev Ptr := Nat × Nat × Option (Nat → List E)
/-- A function's contract, as the symbolic run sees it. -/
structure Con where
  fn : FuncId
  ptrs : List Ptr
  res : Nat → E
/-- What it says: of these values the variables, from 0 on, may be those. -/
abbrev ConS := List Value → Env → Prop
def stride : Nat := 1000
/-- From base on the variables are those of s. -/
def Env.At (ρ : Env) (base : Nat) (s : Env) : Prop := ∀ j, j < stride → ρ.i (base + j) = s.i j ∧ ρ.b (base + j) = s.b j ∧ ρ.v (base + j) = s.v j
def Env.from_ (ρ : Env) (base : Nat) (s : Env) : Env := ⟨fun i => if i < base then ρ.i i else s.i (i - base), fun i => if i < base then ρ.b i else s.b (i - base), fun i => if i < base then ρ.v i else s.v (i - base)⟩
theorem Env.from_ag (ρ : Env) (base : Nat) (s : Env) : ρ.ag base (ρ.from_ base s) := fun i hi => by simp [Env.from_, hi]
theorem Env.from_at (ρ : Env) (base : Nat) (s : Env) : (ρ.from_ base s).At base s := fun j _ => by
  have h : ¬ base + j < base := by omega
  simp only [Env.from_, h, if_false, Nat.add_sub_cancel_left, and_self]
theorem Env.At.ag {ρ ρ' : Env} {base n : Nat} {s : Env} (h : ρ.At base s) (ha : ρ.ag n ρ') (hn : base + stride ≤ n) : ρ'.At base s := fun j hj =>
  have a := ha (base + j) (by omega); have b := h j hj; ⟨a.1.trans b.1, a.2.1.trans b.2.1, a.2.2.trans b.2.2⟩

/-- Where an argument leads: a pointer's place, or a slice's. -/
def E.pl : E → Option (Nat × Nat)
  | .ptr b o => some (b, o)
  | .slice b o _ _ => some (b, o)
  | _ => none
/-- How a place comes as an argument: a pointer, or a slice of some room. -/
def placeA (sl : Option Nat) (q : Nat × Nat) (n : Nat) : Value := match sl with | none => .pointer (some ⟨q.1, q.2, none⟩) | some c => .slice (some ⟨q.1, q.2, none⟩) n c
/-- What is said of what lies there: of a pointer's struct, or array, as one; of a slice as a tuple. -/
def placeV (sl : Option Nat) (cs : List Value) : Value := match sl with | none => .agg cs.toArray | some _ => .tuple cs.toArray
/-- Where parameters that are places lie; vs: what they hold stands in their stead. -/
def Points (w : World) (args : List Value) : List Ptr → List Value → List (Nat × Nat) → Prop
  | [], vs, qs => vs = args ∧ qs = []
  | _ :: _, _, [] => False
  | (pos, n, _) :: r, vs, q :: qs => ∃ (sl : Option Nat) (cs vs' : List Value), Points w args r vs' qs ∧ vs = vs'.set pos (placeV sl cs) ∧ (cs.length = n ∧ ∀ c, sl = some c → n ≤ c) ∧ args[pos]? = some (placeA sl q n) ∧
      ∀ (j : Nat) (c : Value), cs[j]? = some c → w.cell? ⟨q.1, q.2 + j, none⟩ = some c ∧ w.frozen? ⟨q.1, q.2 + j, none⟩ = false
/-- Those that are written lie apart from the others. -/
def ApartQ : List Ptr → List (Nat × Nat) → Prop
  | [], _ => True
  | _ :: _, [] => True
  | p :: r, q :: qs => (∀ p' q', (p', q') ∈ r.zip qs → (p.2.2.isSome ∨ p'.2.2.isSome) → q.1 = q'.1 → ∀ j j', j < p.2.1 → j' < p'.2.1 → q.2 + j ≠ q'.2 + j') ∧ ApartQ r qs
/-- What may be written. -/
def OutS (ptrs : List Ptr) (qs : List (Nat × Nat)) (i x : Nat) : Prop := ∃ p q, (p, q) ∈ ptrs.zip qs ∧ p.2.2.isSome ∧ i = q.1 ∧ q.2 ≤ x ∧ x < q.2 + p.2.1
/-- What lies there behind the call. -/
def Outs (w : World) (ρ : Env) (base : Nat) (ptrs : List Ptr) (qs : List (Nat × Nat)) : Prop := ∀ p q f, (p, q) ∈ ptrs.zip qs → p.2.2 = some f → ∀ (ι : Lay) (j : Nat) (c : E), (f base)[j]? = some c → w.cell? ⟨q.1, q.2 + j, none⟩ = some (c.val ρ ι)
/-- The contract holds. -/
def Con.holds (P : Program) (c : Con) (s : ConS) : Prop := ∀ (w : World) (args vs : List Value) (qs : List (Nat × Nat)) (e0 : Env), Points w args c.ptrs vs qs → ApartQ c.ptrs qs → s vs e0 →
  Calls P c.fn args.toArray w fun e w' => Fr (OutS c.ptrs qs) w w' ∧ ∀ (ρ : Env) (base : Nat), ρ.At base e0 → (∀ ι : Lay, e = .returned ((c.res base).val ρ ι)) ∧ Outs w' ρ base c.ptrs qs

def ptrsE (σ : St) (args : List E) (base : Nat) : List Ptr → Option (List E × List (Nat × List E))
  | [] => some (args, [])
  | (pos, n, out) :: r => match args[pos]?, ptrsE σ args base r with
    | some (.ptr b o), some (vs, hs) => match σ.heap.get b with
      | some l => if o + n ≤ l.length then match out with
          | none => if hs.all (fun p => p.1 != b) then some (vs.set pos (.agg ((l.drop o).take n)), hs) else none
          | some f => if (f base).length = n ∧ (hs.all fun p => p.1 != b) ∧ (r.all fun p => match (args[p.1]?).bind E.pl with | some (b', _) => b' != b | _ => false) ∧ b < 1099511627776 then some (vs.set pos (.agg ((l.drop o).take n)), (b, overE l o (f base)) :: hs) else none
        else none
      | none => none
    | some (.slice b o m c), some (vs, hs) => match σ.heap.get b with
      | some l => if o + n ≤ l.length ∧ m = n ∧ n ≤ c ∧ out.isNone ∧ (hs.all fun p => p.1 != b) then some (vs.set pos (.tup ((l.drop o).take n)), hs) else none
      | none => none
    | _, _ => none

def findCon : List Con → Nat → FuncId → Option (Nat × Con)
  | [], _, _ => none
  | c :: r, i, f => if c.fn = f then some (i, c) else findCon r (i + 1) f
theorem findCon_spec : ∀ {cs : List Con} {i : Nat} {f : FuncId} {ci : Nat} {c : Con}, findCon cs i f = some (ci, c) → i ≤ ci ∧ cs[ci - i]? = some c ∧ c.fn = f
  | [], _, _, _, _, h => by cases h
  | d :: r, i, f, ci, c, h => by
    unfold findCon at h
    split at h
    · cases h; exact ⟨Nat.le_refl _, by simp, by assumption⟩
    · obtain ⟨h1, h2, h3⟩ := findCon_spec h
      refine ⟨by omega, ?_, h3⟩
      rw [show ci - i = (ci - (i + 1)) + 1 by omega, List.getElem?_cons_succ]
      exact h2

structure Eff where
  ns : List C
  call : Option (Nat × Nat × List E)
  res : E
  heap : List (Nat × List E)
  wr : List Nat

def setAll : Tr (List E) → List (Nat × List E) → Tr (List E)
  | h, [] => h
  | h, (k, l) :: r => setAll (h.set k l) r
def setWr : Tr Unit → List Nat → Tr Unit
  | t, [] => t
  | t, k :: r => setWr (t.set k ()) r
def okKey (k : Nat) : Bool := decide (k < 1099511627776)
def effE (P : Program) (cs : List Con) (nk nv : Nat) (σ : St) (i : Nat) (o : Oper) : Option Eff := match opX P σ o with
  | none => none
  | some (d, ns) => if (ns.all (C.lt (nv + i * stride))) && decide (nv + i * stride + stride ≤ σ.nv) then match d with
    | .val e => some ⟨ns, none, e, [], []⟩
    | .new l _ sl => if (σ.heap.get (nk + i)).isNone && okKey (nk + i) && decide (σ.np ≤ nk + i) then some ⟨ns, none, newE sl (nk + i), [(nk + i, l)], []⟩ else none
    | .store b o' c => match σ.heap.get b with
      | some l => if okKey b then some ⟨ns, none, .lit undef, [(b, overE l o' c)], [b]⟩ else none
      | none => none
    | .call f args => match findCon cs 0 f with
      | some (ci, c) => match ptrsE σ args (nv + i * stride) c.ptrs with
        | some (vs, hs) => if E.lts (nv + i * stride) vs && E.noPtrs vs then some ⟨ns, some (ci, nv + i * stride, vs), c.res (nv + i * stride), hs, hs.map (·.1)⟩ else none
        | none => none
      | none => none
    else none
def St.app (σ : St) (dst : Option Tmp) (f : Eff) : Option St := match dst with
  | some d => if d < σ.n ∧ σ.n ≤ 1099511627776 then some { σ with tmps := σ.tmps.set d f.res, heap := setAll σ.heap f.heap, wr := setWr σ.wr f.wr } else none
  | none => some { σ with heap := setAll σ.heap f.heap, wr := setWr σ.wr f.wr }
def guardE (ops : Array Oper) (σ : St) (o : Oper) : Option C := match o.guard with
  | none => some (.lit true)
  | some (j, want) => match (ops[j]?).bind (·.dst) with
    | none => some (.lit false)
    | some d => match σ.tmps.get d with
      | some (.bool c) => some (if want then c else c.not')
      | some (.lit (.tuple _)) => some (.lit false)
      | _ => none
def skipEff : Eff := ⟨[], none, .lit undef, [], []⟩
inductive Step where
  | fail
  | split (c : C)
  | ok (ns : List C) (call : Option (Nat × Nat × List E)) (σ : St)
  | enter (ns : List C) (f : FuncId) (args : List E) (dst : Option Tmp)
/-- An index that is not known yet: is it that one? -/
def askIx (pc : Known) (t : T) : Nat → Nat → Option C
  | 0, _ => none
  | f + 1, j => if Known.other t j pc then askIx pc t f (j + 1) else some (.cmp .eql t (.lit j))
def askE (P : Program) (σ : St) (o : Oper) : Option C := match o.op with
  | .indexAddr t _ i => match σ.opnd i, P.underlying t with
    | some (.int _ (.lit _)), _ => none
    | some (.int _ x), some (.array len _) => if len ≤ 16 then askIx σ.pc x len 0 else none
    | _, _ => none
  | .index t _ i => match σ.opnd i, P.underlying t with
    | some (.int _ (.lit _)), _ => none
    | some (.int _ x), some (.array len _) => if len ≤ 16 then askIx σ.pc x len 0 else none
    | _, _ => none
  | _ => none
def stepE (P : Program) (cs : List Con) (ops : Array Oper) (nk nv : Nat) (i : Nat) (σ : St) : Step := match ops[i]? with
  | none => .ok [] none σ
  | some o => match guardE ops σ o with
    | none => .fail
    | some c => match c.simp σ.pc with
      | .lit true => match effE P cs nk nv σ i o with
        | some f => match σ.app o.dst f with | some σ' => .ok f.ns f.call σ' | none => .fail
        | none => match opX P σ o with
          | some (.call f args, ns) => if (findCon cs 0 f).isNone && ns.all (C.lt (nv + i * stride)) && decide (nv + i * stride + stride ≤ σ.nv) then .enter ns f args o.dst else .fail
          | none => match askE P σ o with | some c => .split c | none => .fail
          | _ => .fail
      | .lit false => match σ.app o.dst skipEff with | some σ' => .ok [] none σ' | none => .fail
      | c' => .split c'

/-- What a call says of the variables. -/
def callOk (S : List ConS) (ρ : Env) : Option (Nat × Nat × List E) → Prop
  | none => True
  | some (ci, base, vs) => ∃ s e, S[ci]? = some s ∧ s (E.vals ρ lay0 vs) e ∧ ρ.At base e
/-- The contracts all hold. -/
def Cons (P : Program) : List Con → List ConS → Prop
  | [], _ => True
  | _ :: _, [] => False
  | c :: cs, s :: S => c.holds P s ∧ Cons P cs S
theorem Cons.at_ {P : Program} : ∀ {cs : List Con} {S : List ConS} {i : Nat} {c : Con} {s : ConS}, Cons P cs S → cs[i]? = some c → S[i]? = some s → c.holds P s
  | [], _, i, c, s, _, h, _ => by simp at h
  | d :: cs, [], i, c, s, h, _, _ => h.elim
  | d :: cs, t :: S, 0, c, s, h, h1, h2 => by simp at h1 h2; subst h1 h2; exact h.1
  | d :: cs, t :: S, i + 1, c, s, h, h1, h2 => Cons.at_ h.2 (by simpa using h1) (by simpa using h2)

/-- One step, with what the variables stand for. -/
def A (P : Program) (cs : List Con) (S : List ConS) (ops : Array Oper) (nk nv : Nat) (ρ : Env) (i : Nat) (σ σ' : St) : Prop :=
  ∃ ns ca, stepE P cs ops nk nv i σ = .ok ns ca σ' ∧ (∀ c ∈ ns, c.den ρ = true) ∧ callOk S ρ ca

theorem get_setAll_out : ∀ (L : List (Nat × List E)) (h : Tr (List E)) (b : Nat), (∀ p ∈ L, p.1 < 1099511627776) → (∀ p ∈ L, p.1 ≠ b) → (setAll h L).get b = h.get b
  | [], _, _, _, _ => rfl
  | (k, l) :: r, h, b, hk, hb => by
    unfold setAll
    rw [get_setAll_out r _ b (fun p hp => hk p (List.mem_cons_of_mem _ hp)) (fun p hp => hb p (List.mem_cons_of_mem _ hp)), Tr.get_set _ _ _ _ (hk _ (List.mem_cons_self ..)), if_neg (fun e => hb _ (List.mem_cons_self ..) e.symm)]
theorem get_setAll_in : ∀ (L : List (Nat × List E)) (h : Tr (List E)) (b : Nat) (l : List E), (∀ p ∈ L, p.1 < 1099511627776) → (L.map (·.1)).Nodup → (b, l) ∈ L → (setAll h L).get b = some l
  | (k, l') :: r, h, b, l, hk, hn, hb => by
    rw [List.map_cons, List.nodup_cons] at hn
    unfold setAll
    cases hb with
    | head =>
      rw [get_setAll_out r _ _ (fun p hp => hk p (List.mem_cons_of_mem _ hp)) (fun p hp e => hn.1 (List.mem_map.2 ⟨p, hp, e⟩)), Tr.get_set _ _ _ _ (hk _ (List.mem_cons_self ..)), if_pos rfl]
    | tail _ hb => exact get_setAll_in r _ b l (fun p hp => hk p (List.mem_cons_of_mem _ hp)) hn.2 hb
theorem get_setWr : ∀ (L : List Nat) (t : Tr Unit) (b : Nat), (∀ k ∈ L, k < 1099511627776) → (((setWr t L).get b).isSome ↔ b ∈ L ∨ (t.get b).isSome)
  | [], t, b, _ => by simp [setWr]
  | k :: r, t, b, hk => by
    unfold setWr
    rw [get_setWr r _ b (fun p hp => hk p (List.mem_cons_of_mem _ hp)), Tr.get_set _ _ _ _ (hk _ (List.mem_cons_self ..))]
    by_cases e : b = k
    · subst e; simp
    · simp [e]

section
variable {ρ : Env} {ι : Lay} {w0 : Base} {σ σ' : St} {a : Act} {w w' : World} {dst : Option Tmp} {f : Eff}
theorem app_heap (h : σ.app dst f = some σ') : σ'.heap = setAll σ.heap f.heap ∧ σ'.wr = setWr σ.wr f.wr ∧ σ'.np = σ.np ∧ σ'.n = σ.n ∧ σ'.nv = σ.nv ∧ σ'.pc = σ.pc := by
  unfold St.app at h
  split at h
  · split at h
    · cases h; exact ⟨rfl, rfl, rfl, rfl, rfl, rfl⟩
    · cases h
  · cases h; exact ⟨rfl, rfl, rfl, rfl, rfl, rfl⟩
theorem app_tmps (h : σ.app dst f = some σ') {v : Value} (hn : a.tmps.size = σ.n) (ht : ∀ t e, σ.tmps.get t = some e → a.tmps.getD t undef = e.val ρ ι) (hv : v = f.res.val ρ ι) :
    ∀ t e, σ'.tmps.get t = some e → (a.put dst v).tmps.getD t undef = e.val ρ ι := by
  intro t e he
  unfold St.app at h
  split at h
  · rename_i d
    split at h
    · rename_i hd
      cases h
      simp only [] at he
      rw [Tr.get_set _ _ _ _ (Nat.lt_of_lt_of_le hd.1 hd.2)] at he
      split at he
      · rename_i e1
        cases he
        subst e1
        simp [Act.put, hn, hd.1, hv]
      · rename_i e1
        have := ht t e he
        simp only [Act.put, Array.getD_eq_getD_getElem?] at this ⊢
        rw [Array.getElem?_setIfInBounds_ne (fun x => e1 x.symm)]
        exact this
    · cases h
  · cases h
    exact ht t e he
theorem put_size (a : Act) (dst : Option Tmp) (v : Value) : (a.put dst v).tmps.size = a.tmps.size ∧ (a.put dst v).defers = a.defers := by
  cases dst <;> simp [Act.put]

/-- A step that writes blocks that are there. -/
theorem SimAt.app (h : SimAt ρ ι w0 σ a w) (ha : σ.app dst f = some σ') {S : Nat → Nat → Prop} (hS : Fr S w w') {v : Value} (hv : v = f.res.val ρ ι)
    (hk : ∀ p ∈ f.heap, p.1 < 1099511627776) (hnd : (f.heap.map (·.1)).Nodup) (hwr : f.wr = f.heap.map (·.1))
    (hold : ∀ k l, (k, l) ∈ f.heap → ∃ l0, σ.heap.get k = some l0 ∧ l0.length = l.length)
    (hnew : ∀ k l, (k, l) ∈ f.heap → ∀ (j : Nat) (c : E), l[j]? = some c → w'.cell? ⟨(ι k).1, (ι k).2 + j, none⟩ = some (c.val ρ ι))
    (hS' : ∀ i x, i < w.heap.size → S i x → ∃ k l l0, (k, l) ∈ f.heap ∧ σ.heap.get k = some l0 ∧ i = (ι k).1 ∧ (ι k).2 ≤ x ∧ x < (ι k).2 + l0.length) :
    SimAt ρ ι w0 σ' (a.put dst v) w' := by
  obtain ⟨e1, e2, e3, e4, e5, e6⟩ := app_heap ha
  have hlt : ∀ b l, σ.heap.get b = some l → ∀ j, j < l.length → (ι b).1 < w.heap.size := fun b l hb j hj => by
    have := (h.cell b l hb j _ (List.getElem?_eq_getElem hj)).1
    unfold World.cell? at this
    simp only at this
    cases hq : w.heap[(ι b).1]? with
    | none => simp [hq] at this
    | some o => exact (Array.getElem?_eq_some_iff.1 hq).1
  have hlen : ∀ b l, σ'.heap.get b = some l → ∃ l0, σ.heap.get b = some l0 ∧ l0.length = l.length := fun b l hb => by
    rw [e1] at hb
    by_cases hin : ∃ l', (b, l') ∈ f.heap
    · obtain ⟨l', hl'⟩ := hin
      rw [get_setAll_in _ _ _ _ hk hnd hl'] at hb
      cases hb
      exact hold _ _ hl'
    · rw [get_setAll_out _ _ _ hk (fun p hp e => hin ⟨p.2, by rw [← e]; exact hp⟩)] at hb
      exact ⟨l, hb, rfl⟩
  refine ⟨?_, ?_, app_tmps ha h.n h.tmps hv, ?_, ?_, ?_, ?_, ?_, by rw [e6]; exact h.pc⟩
  · rw [(put_size _ _ _).1, h.n, e4]
  · rw [(put_size _ _ _).2, h.defers]
  · intro b l hb j c hj
    rw [e1] at hb
    by_cases hin : ∃ l', (b, l') ∈ f.heap
    · obtain ⟨l', hl'⟩ := hin
      rw [get_setAll_in _ _ _ _ hk hnd hl'] at hb
      cases hb
      refine ⟨hnew _ _ hl' j c hj, ?_⟩
      obtain ⟨l0, hl0, hlen0⟩ := hold _ _ hl'
      have hj0 : j < l0.length := by rw [hlen0]; exact (List.getElem?_eq_some_iff.1 hj).1
      rw [hS.frozen _ _ (hlt b l0 hl0 j hj0)]
      exact (h.cell b l0 hl0 j _ (List.getElem?_eq_getElem hj0)).2
    · rw [get_setAll_out _ _ _ hk (fun p hp e => hin ⟨p.2, by rw [← e]; exact hp⟩)] at hb
      have hj0 : j < l.length := (List.getElem?_eq_some_iff.1 hj).1
      have hb0 := hlt b l hb j hj0
      have hno : ¬ S (ι b).1 ((ι b).2 + j) := fun hs => by
        obtain ⟨k, l', l0, hk', hl0, hi, hx1, hx2⟩ := hS' _ _ hb0 hs
        have hne : b ≠ k := fun e => hin ⟨l', by rw [e]; exact hk'⟩
        exact h.apart b k l l0 hb hl0 hne hi j ((ι b).2 + j - (ι k).2) hj0 (by omega) (by omega)
      rw [hS.cell _ _ hb0 hno, hS.frozen _ _ hb0]
      exact h.cell b l hb j c hj
  · intro b b' l l' hb hb' hne hi j j' hj hj'
    obtain ⟨l0, h1, h2⟩ := hlen b l hb
    obtain ⟨l0', h1', h2'⟩ := hlen b' l' hb'
    exact h.apart b b' l0 l0' h1 h1' hne hi j j' (by omega) (by omega)
  · intro b l hb hnp
    obtain ⟨l0, h1, _⟩ := hlen b l hb
    exact h.own b l0 h1 (by rw [← e3]; exact hnp)
  · intro b hb
    obtain ⟨h1, h2⟩ := h.par b hb
    refine ⟨?_, h2⟩
    rw [e1]
    by_cases hin : ∃ l', (b, l') ∈ f.heap
    · obtain ⟨l', hl'⟩ := hin
      rw [get_setAll_in _ _ _ _ hk hnd hl']
      rfl
    · rw [get_setAll_out _ _ _ hk (fun p hp e => hin ⟨p.2, by rw [← e]; exact hp⟩)]
      exact h1
  · refine h.fr.trans hS (fun i x _ hx => ?_) (fun i x hi hx => ?_)
    · obtain ⟨b, l, h1, h2, h3, h4, h5, h6⟩ := hx
      have : ∃ l', σ'.heap.get b = some l' ∧ l'.length = l.length := by
        rw [e1]
        by_cases hin : ∃ l', (b, l') ∈ f.heap
        · obtain ⟨l', hl'⟩ := hin
          obtain ⟨l0, hl0, hlen0⟩ := hold _ _ hl'
          refine ⟨l', get_setAll_in _ _ _ _ hk hnd hl', ?_⟩
          rw [h3] at hl0
          cases hl0
          exact hlen0.symm
        · rw [get_setAll_out _ _ _ hk (fun p hp e => hin ⟨p.2, by rw [← e]; exact hp⟩)]
          exact ⟨l, h3, rfl⟩
      obtain ⟨l', h7, h8⟩ := this
      refine ⟨b, l', ?_, by rw [e3]; exact h2, h7, h4, h5, by omega⟩
      rw [e2, get_setWr _ _ _ (fun k hk' => by rw [hwr] at hk'; obtain ⟨p, hp, e⟩ := List.mem_map.1 hk'; rw [← e]; exact hk p hp)]
      exact .inr h1
    · obtain ⟨k, l, l0, hk', hl0, h1, h2, h3⟩ := hS' i x (Nat.lt_of_lt_of_le hi h.fr.size) hx
      obtain ⟨l1, hl1, hlen1⟩ := hold _ _ hk'
      rw [hl0] at hl1
      cases hl1
      have hnp : k < σ.np := by
        apply Classical.byContradiction
        intro hc
        have := h.own k l0 hl0 (by omega)
        omega
      refine ⟨k, l, ?_, by rw [e3]; exact hnp, by rw [e1]; exact get_setAll_in _ _ _ _ hk hnd hk', h1, h2, by omega⟩
      rw [e2, get_setWr _ _ _ (fun k hk' => by rw [hwr] at hk'; obtain ⟨p, hp, e⟩ := List.mem_map.1 hk'; rw [← e]; exact hk p hp)]
      exact .inl (by rw [hwr]; exact List.mem_map.2 ⟨_, hk', rfl⟩)

/-- A step that lays a block. -/
theorem SimAt.lay (h : SimAt ρ ι w0 σ a w) (ha : σ.app dst f = some σ') {key : Nat} {l : List E} {t : TypeId} (hf : f.heap = [(key, l)]) (hw : f.wr = []) {sl : Option Nat} (hr : f.res = newE sl key)
    (hkey : key < 1099511627776) (hfree : σ.heap.get key = none) (hnp : σ.np ≤ key) (hι : ι key = (w.heap.size, 0)) :
    SimAt ρ ι w0 σ' (a.put dst (newV sl w.heap.size)) (w.alloc (.cells (E.vals ρ ι l).toArray t)) := by
  obtain ⟨e1, e2, e3, e4, e5, e6⟩ := app_heap ha
  rw [hf] at e1
  rw [hw] at e2
  have hlt : ∀ b l, σ.heap.get b = some l → ∀ j, j < l.length → (ι b).1 < w.heap.size := fun b l hb j hj => by
    have := (h.cell b l hb j _ (List.getElem?_eq_getElem hj)).1
    unfold World.cell? at this
    simp only at this
    cases hq : w.heap[(ι b).1]? with
    | none => simp [hq] at this
    | some o => exact (Array.getElem?_eq_some_iff.1 hq).1
  have hget : ∀ b, σ'.heap.get b = if b = key then some l else σ.heap.get b := fun b => by
    rw [e1]; unfold setAll setAll; exact Tr.get_set _ _ _ _ hkey
  have hB := (Below.refl w.heap.size w).alloc (Nat.le_refl _) (.cells (E.vals ρ ι l).toArray t)
  refine ⟨?_, ?_, app_tmps ha h.n h.tmps (by rw [hr]; cases sl <;> simp [newE, newV, E.val, hι]), ?_, ?_, ?_, ?_, ?_, by rw [e6]; exact h.pc⟩
  · rw [(put_size _ _ _).1, h.n, e4]
  · rw [(put_size _ _ _).2, h.defers]
  · intro b l' hb j c hj
    rw [hget] at hb
    split at hb
    · rename_i e
      cases hb
      subst e
      rw [hι]
      have h1 := heap_alloc_new w (.cells (E.vals ρ ι l).toArray t)
      have h2 : (E.vals ρ ι l).toArray[0 + j]? = some (c.val ρ ι) := by simp [E.vals_get, hj]
      constructor
      · unfold World.cell?
        simp only [h1]
        exact h2
      · unfold World.frozen?
        simp only [h1]
        simp
    · have hj0 : j < l'.length := (List.getElem?_eq_some_iff.1 hj).1
      have hb0 := hlt b l' hb j hj0
      rw [hB.cell (p := ⟨_, _, none⟩) hb0, hB.frozen (p := ⟨_, _, none⟩) hb0]
      exact h.cell b l' hb j c hj
  · intro b b' l1 l2 hb hb' hne hi j j' hj hj'
    rw [hget] at hb hb'
    split at hb
    · rename_i e
      cases hb
      subst e
      rw [if_neg (Ne.symm hne)] at hb'
      have := hlt b' l2 hb' j' hj'
      rw [hι] at hi
      simp only at hi
      omega
    · rename_i e
      split at hb'
      · rename_i e'
        cases hb'
        subst e'
        have := hlt b l1 hb j hj
        rw [hι] at hi
        simp only at hi
        omega
      · exact h.apart b b' l1 l2 hb hb' hne hi j j' hj hj'
  · intro b l' hb hb2
    rw [hget] at hb
    split at hb
    · rename_i e; subst e; rw [hι]; exact h.fr.size
    · exact h.own b l' hb (by rw [← e3]; exact hb2)
  · intro b hb
    obtain ⟨h1, h2⟩ := h.par b hb
    refine ⟨?_, h2⟩
    rw [hget]
    split
    · rfl
    · exact h1
  · refine h.fr.trans (Fr.alloc (fun _ _ => False) w _) (fun i x _ hx => ?_) (fun _ _ _ hx => hx.elim)
    obtain ⟨b, l', h1, h2, h3, h4⟩ := hx
    exact ⟨b, l', by rw [e2]; exact h1, by rw [e3]; exact h2, by rw [hget, if_neg (by omega)]; exact h3, h4⟩
end
end Sx
end Go.Proofs.Ytigpdnbcjmcfoaa
