/-
  What is proved: a region's operations come to the same symbolic state in whatever order; no program in sight. Condition: the contracts hold.
-/
import Derived.Test.YtaigdbnfhehclaaSyG
namespace Go.Proofs.Ytaigdbnfhehclaa
namespace Sx
open Go.RowKit

section
variable {P : Program} {cs : List Con} {S : List ConS} {ops : Array Oper} {nk nv : Nat} {ρ : Env} {ι : Lay} {w0 : Base} {σ σ' : St} {a : Act} {w w' : World} {dst : Option Tmp} {f : Eff}

theorem ptrsE_congr {τ : St} {args : List E} {base : Nat} : ∀ {ptrs : List Ptr}, (∀ p ∈ ptrs, ∀ b o, (args[p.1]?).bind E.pl = some (b, o) → τ.heap.get b = σ.heap.get b) → ptrsE τ args base ptrs = ptrsE σ args base ptrs
  | [], _ => rfl
  | (pos, n, out) :: r, h => by
    unfold ptrsE
    rw [ptrsE_congr fun p hp => h p (List.mem_cons_of_mem _ hp)]
    cases hq : args[pos]? with
    | none => rfl
    | some e =>
      cases e <;> first
        | rfl
        | (cases ptrsE σ args base r with
           | none => rfl
           | some x => simp only; rw [h _ (List.mem_cons_self ..) _ _ (by rw [hq]; rfl)])
theorem ptrsE_keys {args : List E} {base : Nat} : ∀ {ptrs : List Ptr} {vs : List E} {hs : List (Nat × List E)}, ptrsE σ args base ptrs = some (vs, hs) →
    (∀ p ∈ hs, p.1 < 1099511627776 ∧ (σ.heap.get p.1).isSome) ∧ (hs = [] ∨ ptrs.all (fun p => p.2.2.isNone) = false) ∧ (∀ p ∈ ptrs, ∃ b o, (args[p.1]?).bind E.pl = some (b, o))
  | [], _, _, h => by
    unfold ptrsE at h
    split at h
    · cases h; exact ⟨fun _ h => (by cases h), .inl rfl, fun _ h => (by cases h)⟩
    · cases h
  | (pos, n, out) :: r, _, _, h => by
    unfold ptrsE at h
    split at h
    · rename_i b o vs' hs' h1 h2
      obtain ⟨i1, i2, i3⟩ := ptrsE_keys h2
      have i4 : ∀ p ∈ (pos, n, out) :: r, ∃ b o, (args[p.1]?).bind E.pl = some (b, o) := fun p hp => by
        cases hp with
        | head => exact ⟨b, o, by rw [h1]; rfl⟩
        | tail _ hp => exact i3 p hp
      split at h
      · rename_i l hl
        split at h
        · split at h
          · split at h
            · cases h
              exact ⟨i1, by simpa using i2, i4⟩
            · cases h
          · split at h
            · rename_i hc
              cases h
              refine ⟨fun p hp => ?_, .inr (by simp), i4⟩
              cases hp with
              | head => exact ⟨hc.2.2.2, by rw [hl]; rfl⟩
              | tail _ hp => exact i1 p hp
            · cases h
        · cases h
      · cases h
    · rename_i b o m c vs' hs' h1 h2
      obtain ⟨i1, i2, i3⟩ := ptrsE_keys h2
      have i4 : ∀ p ∈ (pos, n, out) :: r, ∃ b o, (args[p.1]?).bind E.pl = some (b, o) := fun p hp => by
        cases hp with
        | head => exact ⟨b, o, by rw [h1]; rfl⟩
        | tail _ hp => exact i3 p hp
      split at h
      · split at h
        · rename_i hc
          cases h
          have ho := hc.2.2.2.2.1
          refine ⟨i1, ?_, i4⟩
          simp only [List.all_cons, ho, Bool.true_and]
          exact i2
        · cases h
      · cases h
    · cases h

theorem opnds_get : ∀ {l : List Operand} {es : List E}, σ.opnds l = some es → ∀ (i : Nat) (e : E), es[i]? = some e → ∃ x ∈ l, σ.opnd x = some e
  | [], _, h, i, e, he => by cases h; simp at he
  | x :: l, _, h, i, e, he => by
    unfold St.opnds at h
    split at h
    · rename_i e1 es h1 h2
      cases h
      cases i with
      | zero => simp at he; subst he; exact ⟨x, List.mem_cons_self .., h1⟩
      | succ i => obtain ⟨y, hy, hy2⟩ := opnds_get h2 i e (by simpa using he); exact ⟨y, List.mem_cons_of_mem _ hy, hy2⟩
    · cases h
theorem pl_pts {e : E} {b k : Nat} (h : e.pl = some (b, k)) : b ∈ e.pts ∧ e.ptrKey = some b := by
  unfold E.pl at h
  split at h
  · cases h; exact ⟨by simp [E.pts], rfl⟩
  · cases h; exact ⟨by simp [E.pts], rfl⟩
  · cases h
/-- The places among a call's arguments come of its operands. -/
theorem call_pts {o : Oper} {fid : FuncId} {args : List E} {ns : List C} (h : opX P σ o = some (.call fid args, ns)) {i b k : Nat} (hi : (args[i]?).bind E.pl = some (b, k)) : ∃ x e, x ∈ o.op.operands ∧ σ.opnd x = some e ∧ b ∈ e.pts := by
  obtain ⟨c, as, l, fo, h1, h2, h3, h4, rfl⟩ := opX_call h
  rw [h1]
  obtain ⟨e0, hi, hpl⟩ := Option.bind_eq_some_iff.1 hi
  obtain ⟨p1, p2⟩ := pl_pts hpl
  by_cases hlt : i < as.length
  · rw [List.getElem?_append_left hlt] at hi
    obtain ⟨x, hx, hx2⟩ := opnds_get h3 i _ hi
    exact ⟨x, _, by simp only [Op.operands, Call.operands]; exact Array.mem_append_right _ (by simpa using hx), hx2, p1⟩
  · rw [List.getElem?_append_right (by omega)] at hi
    refine ⟨fo, _, by simp [Op.operands, Call.operands, h2], h4, ?_⟩
    simp only [E.pts]
    exact List.mem_filterMap.2 ⟨_, List.mem_of_getElem? hi, p2⟩
theorem call_cls {o : Oper} {fid : FuncId} {args : List E} {ns : List C} (h : opX P σ o = some (.call fid args, ns)) {ci : Nat} {c : Con} (hf : findCon cs 0 fid = some (ci, c)) :
    (c.ptrs = [] ∨ clsE cs o.op = 1 ∨ clsE cs o.op = 2) ∧ (c.ptrs.all (fun p => p.2.2.isNone) = true ∨ clsE cs o.op = 2) := by
  obtain ⟨cc, as, l, fo, h1, h2, h3, h4, rfl⟩ := opX_call h
  rw [h1]
  simp only [clsE, h2]
  cases fo with
  | func g =>
    simp only [St.opnd, Option.some.injEq, E.func.injEq, Fn.func.injEq] at h4
    obtain ⟨rfl, _⟩ := h4
    simp only [hf]
    cases hp : c.ptrs with
    | nil => simp
    | cons p r =>
      simp only [List.isEmpty_cons, Bool.false_eq_true, if_false]
      split
      · rename_i ha; exact ⟨.inr (.inl rfl), .inl ha⟩
      · exact ⟨.inr (.inr rfl), .inr rfl⟩
  | _ => exact ⟨.inr (.inr rfl), .inr rfl⟩

theorem call_g {o : Oper} {fid : FuncId} {args : List E} {ns : List C} (h : opX P σ o = some (.call fid args, ns)) {ci : Nat} {c : Con} (hf : findCon cs 0 fid = some (ci, c)) :
    (c.gh = 0 ∨ gR cs o.op = true) ∧ (c.gh ≠ 2 ∨ gW cs o.op = true) := by
  obtain ⟨cc, as, l, fo, h1, h2, h3, h4, rfl⟩ := opX_call h
  rw [h1]
  have hk : primKey (.call cc) = none := by simp only [primKey, h2]
  cases fo with
  | func g =>
    simp only [St.opnd, Option.some.injEq, E.func.injEq, Fn.func.injEq] at h4
    obtain ⟨rfl, _⟩ := h4
    simp only [gR, gW, farOp, conOf, hk, h2, hf, Option.map_some, Bool.false_or]
    by_cases e0 : c.gh = 0 <;> by_cases e2 : c.gh = 2 <;> simp [e0, e2]
  | _ => simp [gR, gW, farOp, h2]
theorem prim_g {o : Oper} {key ci : Nat} {c : Con} (hk : primKey o.op = some key) (hf : findCon cs 0 key = some (ci, c)) : (c.gh = 0 ∨ gR cs o.op = true) ∧ (c.gh ≠ 2 ∨ gW cs o.op = true) := by
  simp only [gR, gW, conOf, hk, hf, Option.map_some]
  by_cases e0 : c.gh = 0 <;> by_cases e2 : c.gh = 2 <;> simp [e0, e2]
theorem natP_congr {τ : St} {op : Op} (hx : ∀ x ∈ op.operands, τ.opnd x = σ.opnd x) : natP τ op = natP σ op := by
  cases op <;> simp only [Op.operands] at hx <;> simp only [natP]
  case nilCheck x => rw [hx x (by simp)]
  case binOp b t x y t2 => rw [hx x (by simp), hx y (by simp)]
theorem primE_congr {τ : St} {i : Nat} {o : Oper} (hx : ∀ x ∈ o.op.operands, τ.opnd x = σ.opnd x) (hnv : τ.nv = σ.nv) (hg : gR cs o.op = true → τ.gh = σ.gh) : primE cs nv τ i o = primE cs nv σ i o := by
  unfold primE
  cases hk : primKey o.op with
  | none => rfl
  | some key =>
    simp only
    rw [opnds_congr fun x h => hx x (by simpa using h), hnv]
    cases hf : findCon cs 0 key with
    | none => rfl
    | some r =>
      obtain ⟨ci, c⟩ := r
      cases σ.opnds o.op.operands.toList with
      | none => rfl
      | some vs =>
        simp only
        rw [natP_congr hx]
        rcases (prim_g hk hf).1 with h0 | h0
        · simp [h0]
        · rw [hg h0]
theorem effX_congr {τ : St} {i : Nat} {o : Oper} (hx : ∀ x ∈ o.op.operands, τ.opnd x = σ.opnd x) (hp : τ.pc = σ.pc) (hnp : τ.np = σ.np) (hnv : τ.nv = σ.nv) (ht : Touch cs o σ τ) (hg : primKey o.op = none → gR cs o.op = true → τ.gh = σ.gh)
    (hk : (τ.heap.get (nk + i)).isNone = (σ.heap.get (nk + i)).isNone) : effX P cs nk nv τ i o = effX P cs nk nv σ i o := by
  unfold effX
  rw [opX_congr hx hp ht, hnv]
  cases hop : opX P σ o with
  | none => rfl
  | some r =>
    obtain ⟨d, ns⟩ := r
    simp only
    split
    · cases d with
      | val e => rfl
      | new l t => simp only [hk, hnp]
      | store b k c =>
        obtain ⟨t, x, y, h1, h2⟩ := opX_store hop
        simp only
        rw [ht (.inr (by rw [h1]; rfl)) x _ b h2 (by rw [h1]; simp [Op.operands]) (by simp [E.pts])]
      | call fid args =>
        simp only
        cases hf : findCon cs 0 fid with
        | none => rfl
        | some r =>
          obtain ⟨ci, c⟩ := r
          simp only
          have hc := (call_cls hop hf).1
          have : ptrsE τ args (nv + i * stride) c.ptrs = ptrsE σ args (nv + i * stride) c.ptrs := ptrsE_congr fun p hp' b k hb => by
            obtain ⟨x, e, h1, h2, h3⟩ := call_pts hop hb
            refine ht ?_ x e b h2 h1 h3
            rcases hc with hc | hc
            · rw [hc] at hp'; cases hp'
            · exact hc
          rw [this]
          rcases (call_g hop hf).1 with h0 | h0
          · simp [h0, withE]
          · have hk0 : primKey o.op = none := by
              obtain ⟨cc, as, l, fo, h1, h2, _⟩ := opX_call hop
              rw [h1]
              simp only [primKey, h2]
            simp only [withE, hg hk0 h0]
    · rfl
theorem effE_congr {τ : St} {i : Nat} {o : Oper} (hx : ∀ x ∈ o.op.operands, τ.opnd x = σ.opnd x) (hp : τ.pc = σ.pc) (hnp : τ.np = σ.np) (hnv : τ.nv = σ.nv) (ht : Touch cs o σ τ) (hg : gR cs o.op = true → τ.gh = σ.gh)
    (hk : (τ.heap.get (nk + i)).isNone = (σ.heap.get (nk + i)).isNone) : effE P cs nk nv τ i o = effE P cs nk nv σ i o := by
  unfold effE
  rw [primE_congr hx hnv hg, effX_congr hx hp hnp hnv ht (fun _ => hg) hk]
/-- An operation whose question stays: under another store it does the same, but for what it asks. -/
theorem effE_regh {τ : St} {i : Nat} {o : Oper} (hrd : rdOf cs o.op ≠ 0) (hx : ∀ x ∈ o.op.operands, τ.opnd x = σ.opnd x) (hp : τ.pc = σ.pc) (hnp : τ.np = σ.np) (hnv : τ.nv = σ.nv) (ht : Touch cs o σ τ)
    (hk : (τ.heap.get (nk + i)).isNone = (σ.heap.get (nk + i)).isNone) (h : effE P cs nk nv σ i o = some f) :
    (effE P cs nk nv τ i o = some f ∧ f.call = none) ∨ ∃ ci c vs, cs[ci]? = some c ∧ c.rd = rdOf cs o.op ∧ E.noPtrs vs = true ∧ σ.opnds o.op.operands.toList = some vs ∧ f.call = some (ci, nv + i * stride, vs ++ [.var σ.gh]) ∧
      effE P cs nk nv τ i o = some { f with call := some (ci, nv + i * stride, vs ++ [.var τ.gh]) } := by
  have hkey : primKey o.op ≠ none := fun e => hrd (by unfold rdOf; rw [e])
  have hX := effX_congr (P := P) (nk := nk) (nv := nv) (i := i) hx hp hnp hnv ht (fun e => absurd e hkey) hk
  have hxX : ∀ f', effX P cs nk nv σ i o = some f' → f'.call = none := fun f' h => by
    unfold effX at h
    split at h
    · cases h
    · rename_i d ns hop
      split at h
      · split at h
        · cases h; rfl
        · split at h
          · cases h; rfl
          · cases h
        · split at h
          · split at h
            · cases h; rfl
            · cases h
          · cases h
        · exfalso
          obtain ⟨cc, as, l, fo, h1, h2, _⟩ := opX_call hop
          exact hkey (by rw [h1]; simp only [primKey, h2])
      · cases h
  unfold effE at h ⊢
  cases hpk : primKey o.op with
  | none => exact absurd hpk hkey
  | some key =>
    have hopn : τ.opnds o.op.operands.toList = σ.opnds o.op.operands.toList := opnds_congr fun x h => hx x (by simpa using h)
    cases hf : findCon cs 0 key with
    | none => exact absurd (by unfold rdOf; rw [hpk]; simp only [hf]) hrd
    | some r =>
      obtain ⟨ci, c⟩ := r
      obtain ⟨_, hcon, _⟩ := findCon_spec hf
      have hcr : c.rd = rdOf cs o.op := by unfold rdOf; rw [hpk]; simp only [hf]
      unfold primE at h ⊢
      simp only [hpk, hf, hopn, natP_congr hx, hnv] at h ⊢
      cases hv : σ.opnds o.op.operands.toList with
      | none =>
        simp only [hv] at h ⊢
        exact .inl ⟨by rw [hX]; exact h, hxX _ h⟩
      | some vs =>
        simp only [hv] at h ⊢
        split at h
        · rename_i f' hq
          split at hq
          · rename_i hcond
            cases hq
            cases h
            refine .inr ⟨ci, c, vs, hcon, hcr, ?_, rfl, rfl, ?_⟩
            · simp only [Bool.and_eq_true] at hcond; exact hcond.1.1.1.1.2
            · rw [if_pos hcond]
          · cases hq
        · rename_i hq
          split at hq
          · cases hq
          · rename_i hcond
            rw [if_neg hcond]
            exact .inl ⟨by simp only; rw [hX]; exact h, hxX _ h⟩
/-- An operation that turns the store. -/
theorem effE_turn {i : Nat} {o : Oper} (hw : wrOf cs o.op ≠ 0) (h : effE P cs nk nv σ i o = some f) (hg : f.gh ≠ none) :
    ∃ ci c vs, cs[ci]? = some c ∧ c.wr = wrOf cs o.op ∧ f.call = some (ci, nv + i * stride, vs ++ [.var σ.gh]) ∧ f.gh = some (nv + i * stride + gv) := by
  have hgo : ∀ (c : Con) (b : Nat), ghOf c b ≠ none → c.gh = 2 ∧ ghOf c b = some (b + gv) := fun c b h => by
    unfold ghOf at h ⊢
    split at h
    · rename_i e; exact ⟨e, by rw [if_pos e]⟩
    · exact absurd rfl h
  have hfar : farOp o.op = false := by
    cases e : farOp o.op with
    | false => rfl
    | true => exact absurd (by unfold wrOf; rw [if_pos e]) hw
  unfold effE at h
  split at h
  · rename_i f' h1
    cases h
    unfold primE at h1
    split at h1
    · cases h1
    · rename_i key hk
      split at h1
      · rename_i ci c vs hf _
        split at h1
        · cases h1
          obtain ⟨_, hcon, _⟩ := findCon_spec hf
          refine ⟨ci, c, vs, hcon, ?_, rfl, (hgo _ _ hg).2⟩
          unfold wrOf conOf
          simp only [hfar, hk, hf, Option.map_some, Bool.false_eq_true, if_false]
        · cases h1
      · cases h1
  · unfold effX at h
    split at h
    · cases h
    · rename_i d ns hop
      split at h
      · split at h
        · cases h; exact absurd rfl hg
        · split at h
          · cases h; exact absurd rfl hg
          · cases h
        · split at h
          · split at h
            · cases h; exact absurd rfl hg
            · cases h
          · cases h
        · rename_i fid args
          split at h
          · rename_i ci c hf
            split at h
            · rename_i vs hs hptr
              split at h
              · cases h
                obtain ⟨_, hcon, _⟩ := findCon_spec hf
                obtain ⟨h2, h3⟩ := hgo _ _ hg
                refine ⟨ci, c, vs, hcon, ?_, ?_, h3⟩
                · obtain ⟨cc, as, l, fo, g1, g2, g3, g4, rfl⟩ := opX_call hop
                  have hk : primKey (.call cc) = none := by simp only [primKey, g2]
                  unfold wrOf conOf
                  rw [hfar, g1]
                  cases fo with
                  | func g =>
                    simp only [St.opnd, Option.some.injEq, E.func.injEq, Fn.func.injEq] at g4
                    obtain ⟨rfl, _⟩ := g4
                    simp only [hk, g2, hf, Option.map_some, Bool.false_eq_true, if_false]
                  | _ => rw [g1] at hfar; simp [farOp, g2] at hfar
                · simp only [withE]
                  rw [if_neg (by omega)]
              · cases h
            · cases h
          · cases h
      · cases h
/-- What a step does to the store. -/
theorem effE_gh {i : Nat} {o : Oper} (h : effE P cs nk nv σ i o = some f) : f.gh = none ∨ gW cs o.op = true := by
  have hgo : ∀ (c : Con) (b : Nat), (c.gh ≠ 2 ∨ gW cs o.op = true) → ghOf c b = none ∨ gW cs o.op = true := fun c b h => by
    unfold ghOf
    split
    · exact .inr (h.resolve_left (by simpa using ‹c.gh = 2›))
    · exact .inl rfl
  unfold effE at h
  split at h
  · rename_i f' h1
    cases h
    unfold primE at h1
    split at h1
    · cases h1
    · rename_i key hk
      split at h1
      · rename_i ci c vs hf _
        split at h1
        · cases h1
          exact hgo _ _ (prim_g hk hf).2
        · cases h1
      · cases h1
  · unfold effX at h
    split at h
    · cases h
    · rename_i d ns hop
      split at h
      · split at h
        · cases h; exact .inl rfl
        · split at h
          · cases h; exact .inl rfl
          · cases h
        · split at h
          · split at h
            · cases h; exact .inl rfl
            · cases h
          · cases h
        · split at h
          · rename_i ci c hf
            split at h
            · split at h
              · cases h
                exact hgo _ _ (call_g hop hf).2
              · cases h
            · cases h
          · cases h
      · cases h

/-- What a step does to blocks. -/
theorem effE_heap {i : Nat} {o : Oper} (h : effE P cs nk nv σ i o = some f) :
    (f.heap = [] ∧ f.wr = []) ∨ (clsE cs o.op = 3 ∧ f.wr = [] ∧ σ.heap.get (nk + i) = none ∧ nk + i < 1099511627776 ∧ ∃ l, f.heap = [(nk + i, l)]) ∨
    (clsE cs o.op = 2 ∧ f.wr = f.heap.map (·.1) ∧ ∀ p ∈ f.heap, p.1 < 1099511627776 ∧ (σ.heap.get p.1).isSome) := by
  unfold effE at h
  split at h
  · rename_i f' h1
    cases h
    unfold primE at h1
    split at h1
    · cases h1
    · split at h1
      · split at h1
        · cases h1; exact .inl ⟨rfl, rfl⟩
        · cases h1
      · cases h1
  unfold effX at h
  split at h
  · cases h
  · rename_i d ns hop
    split at h
    · split at h
      · cases h; exact .inl ⟨rfl, rfl⟩
      · rename_i l t sl
        split at h
        · rename_i hk
          simp only [Bool.and_eq_true, decide_eq_true_eq, okKey, Option.isNone_iff_eq_none] at hk
          cases h
          exact .inr (.inl ⟨opX_new hop, rfl, hk.1.1, hk.1.2, l, rfl⟩)
        · cases h
      · rename_i b k c
        split at h
        · rename_i l hl
          split at h
          · rename_i hk
            simp only [okKey, decide_eq_true_eq] at hk
            cases h
            obtain ⟨t, x, y, h1, h2⟩ := opX_store hop
            refine .inr (.inr ⟨by rw [h1]; rfl, rfl, fun p hp => ?_⟩)
            simp only [List.mem_singleton] at hp
            subst hp
            exact ⟨hk, by rw [hl]; rfl⟩
          · cases h
        · cases h
      · rename_i fid args
        split at h
        · rename_i ci c hf
          split at h
          · rename_i vs hs hptr
            split at h
            · cases h
              obtain ⟨i1, i2, _⟩ := ptrsE_keys hptr
              rcases i2 with i2 | i2
              · subst i2; exact .inl ⟨rfl, rfl⟩
              · refine .inr (.inr ⟨?_, rfl, i1⟩)
                rcases (call_cls hop hf).2 with hc | hc
                · rw [hc] at i2; cases i2
                · exact hc
            · cases h
          · cases h
        · cases h
    · cases h

theorem setAll_set {k : Nat} {l : List E} (hk : k < 1099511627776) : ∀ (L : List (Nat × List E)) (h : Tr (List E)), (∀ p ∈ L, p.1 < 1099511627776 ∧ p.1 ≠ k) → setAll (h.set k l) L = (setAll h L).set k l
  | [], _, _ => rfl
  | (k', l') :: r, h, hL => by
    have h1 := hL _ (List.mem_cons_self ..)
    show setAll ((h.set k l).set k' l') r = (setAll (h.set k' l') r).set k l
    rw [Tr.set_comm _ _ _ _ _ hk h1.1 (Ne.symm h1.2), setAll_set hk r _ fun p hp => hL p (List.mem_cons_of_mem _ hp)]
theorem setAll_comm : ∀ (L M : List (Nat × List E)) (h : Tr (List E)), (∀ p ∈ L, p.1 < 1099511627776) → (∀ q ∈ M, q.1 < 1099511627776) → (∀ p ∈ L, ∀ q ∈ M, p.1 ≠ q.1) → setAll (setAll h L) M = setAll (setAll h M) L
  | [], _, _, _, _, _ => rfl
  | (k, l) :: r, M, h, hL, hM, hd => by
    show setAll (setAll (h.set k l) r) M = setAll ((setAll h M).set k l) r
    rw [setAll_comm r M _ (fun p hp => hL p (List.mem_cons_of_mem _ hp)) hM (fun p hp => hd p (List.mem_cons_of_mem _ hp)),
      setAll_set (hL _ (List.mem_cons_self ..)) M h fun q hq => ⟨hM q hq, Ne.symm (hd _ (List.mem_cons_self ..) q hq)⟩]
theorem setWr_set {k : Nat} (hk : k < 1099511627776) : ∀ (L : List Nat) (h : Tr Unit), (∀ p ∈ L, p < 1099511627776 ∧ p ≠ k) → setWr (h.set k ()) L = (setWr h L).set k ()
  | [], _, _ => rfl
  | k' :: r, h, hL => by
    have h1 := hL _ (List.mem_cons_self ..)
    show setWr ((h.set k ()).set k' ()) r = (setWr (h.set k' ()) r).set k ()
    rw [Tr.set_comm _ _ _ _ _ hk h1.1 (Ne.symm h1.2), setWr_set hk r _ fun p hp => hL p (List.mem_cons_of_mem _ hp)]
theorem setWr_comm : ∀ (L M : List Nat) (h : Tr Unit), (∀ p ∈ L, p < 1099511627776) → (∀ q ∈ M, q < 1099511627776) → (∀ p ∈ L, ∀ q ∈ M, p ≠ q) → setWr (setWr h L) M = setWr (setWr h M) L
  | [], _, _, _, _, _ => rfl
  | k :: r, M, h, hL, hM, hd => by
    show setWr (setWr (h.set k ()) r) M = setWr ((setWr h M).set k ()) r
    rw [setWr_comm r M _ (fun p hp => hL p (List.mem_cons_of_mem _ hp)) hM (fun p hp => hd p (List.mem_cons_of_mem _ hp)),
      setWr_set (hL _ (List.mem_cons_self ..)) M h fun q hq => ⟨hM q hq, Ne.symm (hd _ (List.mem_cons_self ..) q hq)⟩]

theorem app_comm {d1 d2 : Option Tmp} {f1 f2 : Eff} {σ1 σ2 : St} (h1 : σ.app d1 f1 = some σ1) (h2 : σ1.app d2 f2 = some σ2) (hd : ∀ d, d1 = some d → d2 ≠ some d)
    (k1 : ∀ p ∈ f1.heap, p.1 < 1099511627776) (k2 : ∀ p ∈ f2.heap, p.1 < 1099511627776) (kd : ∀ p ∈ f1.heap, ∀ q ∈ f2.heap, p.1 ≠ q.1)
    (v1 : ∀ p ∈ f1.wr, p < 1099511627776) (v2 : ∀ p ∈ f2.wr, p < 1099511627776) (vd : ∀ p ∈ f1.wr, ∀ q ∈ f2.wr, p ≠ q) (hgg : f1.gh = none ∨ f2.gh = none) : ∃ τ, σ.app d2 f2 = some τ ∧ τ.app d1 f1 = some σ2 := by
  have e1 := setAll_comm f1.heap f2.heap σ.heap k1 k2 kd
  have e2 := setWr_comm f1.wr f2.wr σ.wr v1 v2 vd
  have e3 : f1.gh.getD (f2.gh.getD σ.gh) = f2.gh.getD (f1.gh.getD σ.gh) := by rcases hgg with h | h <;> simp [h]
  cases d1 with
  | none =>
    simp only [St.app] at h1
    cases h1
    cases d2 with
    | none =>
      simp only [St.app] at h2
      cases h2
      exact ⟨_, rfl, by simp only [St.app, e1, e2, e3]⟩
    | some d2 =>
      simp only [St.app] at h2
      split at h2
      · rename_i hc
        cases h2
        exact ⟨_, by simp only [St.app, hc, and_self, if_true]; rfl, by simp only [St.app, e1, e2, e3]⟩
      · cases h2
  | some d1 =>
    simp only [St.app] at h1
    split at h1
    · rename_i hc1
      cases h1
      cases d2 with
      | none =>
        simp only [St.app] at h2
        cases h2
        exact ⟨_, rfl, by simp only [St.app, hc1, and_self, if_true, e1, e2, e3]⟩
      | some d2 =>
        simp only [St.app] at h2
        split at h2
        · rename_i hc
          cases h2
          refine ⟨_, by simp only [St.app, hc, and_self, if_true]; rfl, ?_⟩
          have hne : d1 ≠ d2 := fun e => hd d1 rfl (by rw [e])
          simp only [St.app, hc1, and_self, if_true, e1, e2, e3, Tr.set_comm _ _ _ _ _ (Nat.lt_of_lt_of_le hc1.1 hc1.2) (Nat.lt_of_lt_of_le hc.1 hc.2) hne]
        · cases h2
    · cases h1

theorem pick_congr {τ : St} {i : Nat} {o : Oper} (ho : ops[i]? = some o) (hx : ∀ x ∈ o.op.operands, τ.opnd x = σ.opnd x) (hg : guardE ops τ o = guardE ops σ o) (hp : τ.pc = σ.pc) (hnp : τ.np = σ.np) (hnv : τ.nv = σ.nv) (ht : Touch cs o σ τ) (hgr : gR cs o.op = true → τ.gh = σ.gh)
    (hk : (τ.heap.get (nk + i)).isNone = (σ.heap.get (nk + i)).isNone) : pickE P cs ops nk nv i τ = pickE P cs ops nk nv i σ := by
  unfold pickE
  simp only [ho, hg, hp, effE_congr (P := P) (nv := nv) hx hp hnp hnv ht hgr hk]

theorem pick_regh {τ : St} {i : Nat} {o : Oper} {d : Option Tmp} (ho : ops[i]? = some o) (hrd : rdOf cs o.op ≠ 0) (hx : ∀ x ∈ o.op.operands, τ.opnd x = σ.opnd x) (hg : guardE ops τ o = guardE ops σ o) (hp : τ.pc = σ.pc) (hnp : τ.np = σ.np) (hnv : τ.nv = σ.nv) (ht : Touch cs o σ τ)
    (hk : (τ.heap.get (nk + i)).isNone = (σ.heap.get (nk + i)).isNone) (h : pickE P cs ops nk nv i σ = some (d, f)) :
    (pickE P cs ops nk nv i τ = some (d, f) ∧ f.call = none) ∨ ∃ ci c vs, cs[ci]? = some c ∧ c.rd = rdOf cs o.op ∧ E.noPtrs vs = true ∧ σ.opnds o.op.operands.toList = some vs ∧ f.call = some (ci, nv + i * stride, vs ++ [.var σ.gh]) ∧
      pickE P cs ops nk nv i τ = some (d, { f with call := some (ci, nv + i * stride, vs ++ [.var τ.gh]) }) := by
  unfold pickE at h ⊢
  simp only [ho, hg, hp] at h ⊢
  split at h
  · cases h
  · rename_i c hc
    split at h
    · rename_i hs
      split at h
      · rename_i f' hf
        cases h
        rcases effE_regh hrd hx hp hnp hnv ht hk hf with ⟨h1, h2⟩ | ⟨ci, c', vs, h1, h2, h3, h4, h5, h6⟩
        · exact .inl ⟨by rw [h1], h2⟩
        · exact .inr ⟨ci, c', vs, h1, h2, h3, h4, h5, by rw [h6]⟩
      · cases h
    · cases h; exact .inl ⟨rfl, rfl⟩
    · cases h
theorem nams_store (ρ : Env) (g : Nat) (vs : List E) : E.nams ρ lay0 (vs ++ [.var g]) = E.nams ρ lay0 vs ++ [ρ.g g] := by
  simp only [E.nams_map, List.map_append, List.map_cons, List.map_nil, E.nam]
  rfl
/-- What is asked stays so under a store that has grown. -/
theorem callOk_regh [Kinds] (hC : Cons P cs S) (hr : Real ρ σ) {l : List Operand} {ci base j k g' : Nat} {c : Con} {vs : List E} (hci : cs[ci]? = some c) (hcr : c.rd = k) (hnp : E.noPtrs vs = true) (hops : σ.opnds l = some vs)
    (hj : j ≠ 0) (hjk : j ≤ k) (hext : Kinds.ext j (ρ.g σ.gh) (ρ.g g')) : callOk S ρ (some (ci, base, vs ++ [.var σ.gh])) ↔ callOk S ρ (some (ci, base, vs ++ [.var g'])) := by
  obtain ⟨w0, a, w, ι, F, hs⟩ := hr
  have hnd : NoDang (ρ.g σ.gh) (E.nams ρ lay0 vs) := ⟨ι.h, fun h' hh => by
    have h1 := (hs ρ (Env.ag_refl _ _) ι (σ.agL_refl ρ ι)).held.opnds hops
    have h2 := (hs ρ (Env.ag_refl _ _) ⟨ι.p, h'⟩ ⟨fun _ _ => rfl, hh⟩).held.opnds hops
    rw [← E.vals_conc ρ ⟨ι.p, h'⟩ _ hnp, ← E.vals_conc ρ ι _ hnp, ← h1, ← h2]⟩
  have key : ∀ s, S[ci]? = some s → ∀ e, s (E.nams ρ lay0 vs ++ [ρ.g σ.gh]) e ↔ s (E.nams ρ lay0 vs ++ [ρ.g g']) e := fun s h1 e =>
    ((Cons.at_ hC hci h1).2.1 (by omega)).2 _ _ _ e (Kinds.ext_mono hj (by omega) hext) hnd
  unfold callOk
  simp only [nams_store]
  exact ⟨fun ⟨s, e, h1, h2, h3⟩ => ⟨s, e, h1, (key s h1 e).1 h2, h3⟩, fun ⟨s, e, h1, h2, h3⟩ => ⟨s, e, h1, (key s h1 e).2 h2, h3⟩⟩
/-- How a step lets the store grow. -/
theorem turn_ext [Kinds] (hC : Cons P cs S) {σ' : St} {i : Nat} {o : Oper} (hw : wrOf cs o.op ≠ 0) (h : effE P cs nk nv σ i o = some f) (hg : f.gh ≠ none) (hc : callOk S ρ f.call) (h7 : σ'.gh = f.gh.getD σ.gh) : Kinds.ext (wrOf cs o.op) (ρ.g σ.gh) (ρ.g σ'.gh) := by
  obtain ⟨ci, c, vs, h1, h2, h3, h4⟩ := effE_turn hw h hg
  rw [h3] at hc
  obtain ⟨s, e, g1, g2, g3⟩ := hc
  rw [nams_store] at g2
  have := ((Cons.at_ hC h1 g1).2.2 (by omega)) _ _ _ g2
  rw [h2] at this
  have e1 : ρ.g σ'.gh = e.g gv := by
    rw [h7, h4, Option.getD_some]
    unfold Env.g
    rw [(g3 gv (by decide)).2.2]
  rw [e1]
  exact this
/-- May two operations be exchanged? -/
def clsOk (a b : Nat) : Bool := !((a == 1 && b == 2) || (a == 2 && b == 1) || (a == 2 && b == 2))
/-- Slots that hold places, with their blocks. -/
def Keep (Z : List (Tmp × Nat)) (σ : St) : Prop := ∀ p ∈ Z, ∃ o, σ.tmps.get p.1 = some (.ptr p.2 o)
def zAt (Z : List (Tmp × Nat)) (x : Operand) : Option Nat := match x with
  | .tmp t => (Z.find? fun p => p.1 == t).map (·.2)
  | _ => none
theorem zAt_keep {Z : List (Tmp × Nat)} (hz : Keep Z σ) {x : Operand} {k : Nat} (h : zAt Z x = some k) : ∃ o, σ.opnd x = some (.ptr k o) := by
  unfold zAt at h
  split at h
  · rename_i t
    rw [Option.map_eq_some_iff] at h
    obtain ⟨p, hp, rfl⟩ := h
    have h1 := List.mem_of_find?_eq_some hp
    have h2 := List.find?_some hp
    simp only [beq_iff_eq] at h2
    subst h2
    obtain ⟨o, ho⟩ := hz p h1
    exact ⟨o, by show (match σ.tmps.get p.1 with | some e => some (E.known σ.pc e) | none => none) = _; rw [ho]; rfl⟩
  · cases h
/-- A load and a store of different blocks. -/
def farE (Z : List (Tmp × Nat)) : Op → Op → Bool
  | .load _ x, .store _ y _ => match zAt Z x, zAt Z y with
    | some k, some k' => k != k'
    | _, _ => false
  | .store _ y _, .load _ x => match zAt Z x, zAt Z y with
    | some k, some k' => k != k'
    | _, _ => false
  | _, _ => false
theorem farE_comm (Z : List (Tmp × Nat)) (a b : Op) : farE Z a b = farE Z b a := by
  cases a <;> cases b <;> rfl
theorem farE_spec {Z : List (Tmp × Nat)} {a b : Op} (h : farE Z a b = true) : (∃ t x t' y v k k', a = .load t x ∧ b = .store t' y v ∧ zAt Z x = some k ∧ zAt Z y = some k' ∧ k ≠ k') ∨ (∃ t x t' y v k k', b = .load t x ∧ a = .store t' y v ∧ zAt Z x = some k ∧ zAt Z y = some k' ∧ k ≠ k') := by
  unfold farE at h
  split at h
  · rename_i t x t' y v
    split at h
    · rename_i k k' h1 h2
      exact .inl ⟨t, x, t', y, v, k, k', rfl, rfl, h1, h2, by simpa using h⟩
    · cases h
  · rename_i t' y v t x
    split at h
    · rename_i k k' h1 h2
      exact .inr ⟨t, x, t', y, v, k, k', rfl, rfl, h1, h2, by simpa using h⟩
    · cases h
  · cases h
def indepE (cs : List Con) (ops : Array Oper) (Z : List (Tmp × Nat)) (m x : Nat) : Bool := match ops[m]?, ops[x]? with
  | some om, some ox => om.apart ops ox && (clsOk (clsE cs om.op) (clsE cs ox.op) || farE Z om.op ox.op) && stOk cs om.op ox.op && stOk cs ox.op om.op
  | _, _ => false
/-- A store writes the block that its place names. -/
theorem effE_far {i : Nat} {o : Oper} {t : TypeId} {y v : Operand} {k k0 : Nat} (ho : o.op = .store t y v) (hy : σ.opnd y = some (.ptr k k0)) (h : effE P cs nk nv σ i o = some f) : ∀ p ∈ f.heap, p.1 = k := by
  unfold effE at h
  split at h
  · rename_i f' h1
    cases h
    unfold primE at h1
    split at h1
    · cases h1
    · split at h1
      · split at h1
        · cases h1; exact fun _ h => (by cases h)
        · cases h1
      · cases h1
  unfold effX at h
  split at h
  · cases h
  · rename_i d ns hop
    split at h
    · split at h
      · cases h; exact fun _ h => (by cases h)
      · exfalso
        have := opX_new (cs := cs) hop
        rw [ho] at this
        cases this
      · rename_i b k2 c
        obtain ⟨t', x', y', e1, e2⟩ := opX_store hop
        rw [ho] at e1
        cases e1
        rw [hy] at e2
        cases e2
        split at h
        · split at h
          · cases h
            intro p hp
            rw [List.mem_singleton] at hp
            rw [hp]
          · cases h
        · cases h
      · exfalso
        obtain ⟨c, as, l, f', e1, _⟩ := opX_call hop
        rw [ho] at e1
        cases e1
    · cases h

theorem app_opnd {d : Option Tmp} (h : σ.app d f = some σ') {o : Oper} (hd : ∀ t, d = some t → t ∉ o.looksAt ops) :
    (∀ x ∈ o.op.operands, σ'.opnd x = σ.opnd x) ∧ guardE ops σ' o = guardE ops σ o := by
  have hget : ∀ t, (∀ u, d = some u → t ≠ u) → σ'.tmps.get t = σ.tmps.get t := fun t ht => by
    unfold St.app at h
    split at h
    · rename_i u
      split at h
      · rename_i hc
        cases h
        simp only []
        rw [Tr.get_set _ _ _ _ (Nat.lt_of_lt_of_le hc.1 hc.2), if_neg (ht u rfl)]
      · cases h
    · cases h; rfl
  constructor
  · intro x hx
    cases x with
    | tmp t =>
      have h1 := hget t fun u hu e => hd u hu (by
        subst e
        exact List.mem_append_left _ (List.mem_filterMap.2 ⟨.tmp t, by simpa using hx, rfl⟩))
      simp only [St.opnd, h1, (app_heap h).2.2.2.2.2.1]
    | const v => rfl
    | global g => rfl
    | func g => rfl
  · unfold guardE
    cases hg : o.guard with
    | none => rfl
    | some jw =>
      obtain ⟨j, want⟩ := jw
      simp only
      cases hdst : (ops[j]?).bind (·.dst) with
      | none => rfl
      | some t =>
        simp only
        rw [hget t fun u hu e => hd u hu (by subst e; simp [Oper.looksAt, hg, hdst])]

/-- Two steps are exchanged. -/
theorem comm [Kinds] (hC : Cons P cs S) {Z : List (Tmp × Nat)} {m x : Nat} (hne : m ≠ x) (hI : indepE cs ops Z m x = true) (hz : Keep Z σ) (hr : Real ρ σ) {σ1 σ2 : St} (h1 : A P cs S ops nk nv ρ m σ σ1) (h2 : A P cs S ops nk nv ρ x σ1 σ2) :
    ∃ τ, A P cs S ops nk nv ρ x σ τ ∧ A P cs S ops nk nv ρ m τ σ2 := by
  unfold indepE at hI
  split at hI
  · rename_i om ox hm hx
    rw [Bool.and_eq_true, Bool.and_eq_true, Bool.and_eq_true, Bool.or_eq_true] at hI
    obtain ⟨⟨⟨hap, hcl⟩, hg1⟩, hg2⟩ := hI
    obtain ⟨ap1, ap2, ap3⟩ := Oper.apart_spec hap
    obtain ⟨ns1, ca1, hs1, hn1, hc1⟩ := h1
    obtain ⟨ns2, ca2, hs2, hn2, hc2⟩ := h2
    obtain ⟨d1, f1, hp1, ha1, rfl, rfl⟩ := stepE_ok.1 hs1
    obtain ⟨d2, f2, hp2, ha2, rfl, rfl⟩ := stepE_ok.1 hs2
    -- what each writes, and where
    have pick_dst : ∀ {i : Nat} {o : Oper} {σ : St} {d : Option Tmp} {f : Eff}, ops[i]? = some o → pickE P cs ops nk nv i σ = some (d, f) → d = o.dst ∧ (f = skipEff ∨ effE P cs nk nv σ i o = some f) := by
      intro i o σ d f ho hp
      unfold pickE at hp
      simp only [ho] at hp
      split at hp
      · cases hp
      · split at hp
        · split at hp
          · rename_i g hg; cases hp; exact ⟨rfl, .inr hg⟩
          · cases hp
        · cases hp; exact ⟨rfl, .inl rfl⟩
        · cases hp
    have heap_of : ∀ {i : Nat} {o : Oper} {σ : St} {d : Option Tmp} {f : Eff}, ops[i]? = some o → pickE P cs ops nk nv i σ = some (d, f) →
        (f.heap = [] ∧ f.wr = []) ∨ (clsE cs o.op = 3 ∧ f.wr = [] ∧ σ.heap.get (nk + i) = none ∧ nk + i < 1099511627776 ∧ ∃ l, f.heap = [(nk + i, l)]) ∨
        (clsE cs o.op = 2 ∧ f.wr = f.heap.map (·.1) ∧ ∀ p ∈ f.heap, p.1 < 1099511627776 ∧ (σ.heap.get p.1).isSome) := by
      intro i o σ d f ho hp
      rcases (pick_dst ho hp).2 with h | h
      · subst h; exact .inl ⟨rfl, rfl⟩
      · exact effE_heap h
    obtain ⟨rfl, gm⟩ := pick_dst hm hp1
    obtain ⟨rfl, gx⟩ := pick_dst hx hp2
    have gm' : f1.gh = none ∨ gW cs om.op = true := gm.elim (fun h => .inl (by rw [h]; rfl)) fun h => effE_gh h
    have gx' : f2.gh = none ∨ gW cs ox.op = true := gx.elim (fun h => .inl (by rw [h]; rfl)) fun h => effE_gh h
    have hgg : f1.gh = none ∨ f2.gh = none := by
      rcases gm' with h | h
      · exact .inl h
      · rcases gx' with h' | h'
        · exact .inr h'
        · simp [stOk, h, h'] at hg1
    obtain ⟨a1, a2, a3, a4, a5, a6, a7⟩ := app_heap ha1
    have hop1 := app_opnd (ops := ops) (o := ox) ha1 ap1
    have H1 := heap_of hm hp1
    -- a step keeps a block that is there, but for what it writes; and leaves the other's number as it is
    have kept : ∀ {i j : Nat} {oi oj : Oper} {f : Eff} {τ : St}, i ≠ j → (clsOk (clsE cs oi.op) (clsE cs oj.op) = true ∨ farE Z oi.op oj.op = true) → (f = skipEff ∨ effE P cs nk nv σ i oi = some f) → τ.heap = setAll σ.heap f.heap →
        ((f.heap = [] ∧ f.wr = []) ∨ (clsE cs oi.op = 3 ∧ f.wr = [] ∧ σ.heap.get (nk + i) = none ∧ nk + i < 1099511627776 ∧ ∃ l, f.heap = [(nk + i, l)]) ∨
          (clsE cs oi.op = 2 ∧ f.wr = f.heap.map (·.1) ∧ ∀ p ∈ f.heap, p.1 < 1099511627776 ∧ (σ.heap.get p.1).isSome)) →
        ((clsE cs oj.op = 1 ∨ clsE cs oj.op = 2) → ∀ y e b, σ.opnd y = some e → y ∈ oj.op.operands → b ∈ e.pts → τ.heap.get b = σ.heap.get b) ∧ (τ.heap.get (nk + j)).isNone = (σ.heap.get (nk + j)).isNone := by
      intro i j oi oj f τ hij hok hef e H
      rcases H with ⟨h, _⟩ | ⟨h3, _, hn, hlt, l, h⟩ | ⟨h2, _, h⟩
      · rw [e, h]; exact ⟨fun _ _ _ _ _ _ _ => rfl, rfl⟩
      · rw [e, h]
        refine ⟨fun _ y e' b hy _ hb' => ?_, ?_⟩
        · have hb := hr.no_dangling hy hb'
          show (σ.heap.set (nk + i) l).get b = _
          rw [Tr.get_set _ _ _ _ hlt, if_neg]
          intro e; rw [e, hn] at hb; cases hb
        · show ((σ.heap.set (nk + i) l).get (nk + j)).isNone = _
          rw [Tr.get_set _ _ _ _ hlt, if_neg (by omega)]
      · rw [e]
        refine ⟨fun hc => ?_, ?_⟩
        · rcases hok with hok | hok
          · exfalso
            rw [h2] at hok
            rcases hc with hc | hc <;> (rw [hc] at hok; cases hok)
          · rcases farE_spec hok with ⟨t, x, t', y, v, k, k', e1, e2, g1, g2, hkk⟩ | ⟨t, x, t', y, v, k, k', e1, e2, g1, g2, hkk⟩
            · rw [e1] at h2; cases h2
            · intro y' e' b hy hmem hb
              obtain ⟨o1, q1⟩ := zAt_keep hz g1
              obtain ⟨o2, q2⟩ := zAt_keep hz g2
              rw [e1] at hmem
              have hyx : y' = x := by simpa [Op.operands] using hmem
              rw [hyx, q1] at hy
              cases hy
              have hbk : b = k := by simpa [E.pts] using hb
              subst hbk
              refine get_setAll_out _ _ _ (fun p hp => (h p hp).1) fun p hp => ?_
              rcases hef with rfl | hef
              · cases hp
              · rw [effE_far e2 q2 hef p hp]
                exact Ne.symm hkk
        · by_cases hin : ∃ p ∈ f.heap, p.1 = nk + j
          · obtain ⟨p, hp, he⟩ := hin
            have hs : (σ.heap.get (nk + j)).isSome := by rw [← he]; exact (h p hp).2
            have hs' : ∀ (L : List (Nat × List E)) (g : Tr (List E)), (∀ p ∈ L, p.1 < 1099511627776) → (g.get (nk + j)).isSome → ((setAll g L).get (nk + j)).isSome := by
              intro L
              induction L with
              | nil => exact fun _ _ h => h
              | cons q r ih =>
                intro g hL hg
                obtain ⟨k, l⟩ := q
                refine ih _ (fun p hp => hL p (List.mem_cons_of_mem _ hp)) ?_
                rw [Tr.get_set _ _ _ _ (hL _ (List.mem_cons_self ..))]
                split
                · rfl
                · exact hg
            have := hs' f.heap σ.heap (fun p hp => (h p hp).1) hs
            rw [Option.isNone_eq_false_iff.2 this, Option.isNone_eq_false_iff.2 hs]
          · rw [get_setAll_out _ _ _ (fun p hp => (h p hp).1) (fun p hp e => hin ⟨p, hp, e⟩)]
    have K1 := kept hne hcl gm a1 H1
    -- x comes first
    have htx : Touch cs ox σ1 σ := by
      intro hc y e b hy hmem hb
      rw [hop1.1 y hmem] at hy
      exact (K1.1 hc y e b hy hmem hb).symm
    have htx' : Touch cs ox σ σ1 := by
      intro hc y e b hy hmem hb
      exact K1.1 hc y e b hy hmem hb
    obtain ⟨f2', px, hf2, hc2'⟩ : ∃ f2', pickE P cs ops nk nv x σ = some (ox.dst, f2') ∧ f2' = { f2 with call := f2'.call } ∧ callOk S ρ f2'.call := by
      have hsame : (gR cs ox.op = true → σ.gh = σ1.gh) → ∃ f2', pickE P cs ops nk nv x σ = some (ox.dst, f2') ∧ f2' = { f2 with call := f2'.call } ∧ callOk S ρ f2'.call := fun hh =>
        ⟨f2, by rw [← hp2]; exact pick_congr hx (fun y hy => (hop1.1 y hy).symm) hop1.2.symm a6.symm a3.symm a5.symm htx hh K1.2.symm, rfl, hc2⟩
      by_cases h0 : f1.gh = none
      · exact hsame fun _ => by rw [a7, h0]; rfl
      · have hw : gW cs om.op = true := gm'.resolve_left h0
        cases hgr : gR cs ox.op with
        | false => exact hsame fun h => by rw [hgr] at h; cases h
        | true =>
          simp only [stOk, hw, hgr, Bool.not_true, Bool.false_or, Bool.and_eq_true, decide_eq_true_eq] at hg1
          obtain ⟨_, hw0, hwr⟩ := hg1
          have hm1 : effE P cs nk nv σ m om = some f1 := gm.resolve_left fun h => h0 (by rw [h]; rfl)
          have hext := turn_ext hC hw0 hm1 h0 hc1 a7
          cases hrx : pickE P cs ops nk nv x σ with
          | none =>
            exfalso
            have := pick_regh (P := P) (nk := nk) (nv := nv) hx (by omega) (fun y hy => (hop1.1 y hy).symm) hop1.2.symm a6.symm a3.symm a5.symm htx K1.2.symm hp2
            rcases this with ⟨h, _⟩ | ⟨_, _, _, _, _, _, _, _, h⟩ <;> rw [hrx] at h <;> cases h
          | some r =>
            obtain ⟨d, f2'⟩ := r
            rcases pick_regh (P := P) (nk := nk) (nv := nv) hx (by omega) hop1.1 hop1.2 a6 a3 a5 htx' K1.2 hrx with ⟨h, hn⟩ | ⟨ci, c, vs, g1, g2, g3, g4, g5, g6⟩
            · rw [hp2] at h
              cases h
              exact ⟨f2, rfl, rfl, hc2⟩
            · rw [hp2] at g6
              cases g6
              refine ⟨f2', rfl, rfl, ?_⟩
              rw [g5]
              exact (callOk_regh hC hr g1 g2 g3 g4 hw0 hwr hext).2 hc2
    have ha2' : σ1.app ox.dst f2' = some σ2 := by rw [← ha2, hf2]; rfl
    have hgg' : f1.gh = none ∨ f2'.gh = none := by rw [hf2]; exact hgg
    have gx2 := (pick_dst hx px).2
    have H2 := heap_of hx px
    -- the two effects are exchanged
    have keys : ∀ {i : Nat} {o : Oper} {f : Eff}, ((f.heap = [] ∧ f.wr = []) ∨ (clsE cs o.op = 3 ∧ f.wr = [] ∧ σ.heap.get (nk + i) = none ∧ nk + i < 1099511627776 ∧ ∃ l, f.heap = [(nk + i, l)]) ∨
          (clsE cs o.op = 2 ∧ f.wr = f.heap.map (·.1) ∧ ∀ p ∈ f.heap, p.1 < 1099511627776 ∧ (σ.heap.get p.1).isSome)) → (∀ p ∈ f.heap, p.1 < 1099511627776) ∧ (∀ p ∈ f.wr, p < 1099511627776) := by
      intro i o f H
      rcases H with ⟨h, h'⟩ | ⟨_, h', _, hlt, l, h⟩ | ⟨_, h', h⟩
      · rw [h, h']; exact ⟨fun _ h => (by cases h), fun _ h => (by cases h)⟩
      · rw [h, h']; exact ⟨fun p hp => by rw [List.mem_singleton] at hp; subst hp; exact hlt, fun _ h => (by cases h)⟩
      · refine ⟨fun p hp => (h p hp).1, fun k hk => ?_⟩
        rw [h'] at hk
        obtain ⟨p, hp, e⟩ := List.mem_map.1 hk
        rw [← e]
        exact (h p hp).1
    have disj : (∀ p ∈ f1.heap, ∀ q ∈ f2'.heap, p.1 ≠ q.1) ∧ (∀ p ∈ f1.wr, ∀ q ∈ f2'.wr, p ≠ q) := by
      rcases H1 with ⟨h, h'⟩ | ⟨hc1', h', hn, hlt, l, h⟩ | ⟨hc1', h', h⟩
      · rw [h, h']; exact ⟨fun _ h => (by cases h), fun _ h => (by cases h)⟩
      · rw [h, h']
        refine ⟨fun p hp q hq => ?_, fun _ h => (by cases h)⟩
        rw [List.mem_singleton] at hp
        subst hp
        rcases H2 with ⟨g, _⟩ | ⟨_, _, _, _, l', g⟩ | ⟨_, _, g⟩
        · rw [g] at hq; cases hq
        · rw [g, List.mem_singleton] at hq; subst hq; simp only; omega
        · intro e
          have := (g q hq).2
          rw [← e] at this
          simp only at this
          rw [hn] at this
          cases this
      · rcases H2 with ⟨g, g'⟩ | ⟨_, g', gn, _, l', g⟩ | ⟨hc2', _, g⟩
        · rw [g, g']; exact ⟨fun _ _ _ h => (by cases h), fun _ _ _ h => (by cases h)⟩
        · rw [g, g']
          refine ⟨fun p hp q hq => ?_, fun _ _ _ h => (by cases h)⟩
          rw [List.mem_singleton] at hq
          subst hq
          intro e
          have := (h p hp).2
          rw [e] at this
          simp only at this
          rw [gn] at this
          cases this
        · rcases hcl with hcl | hcl
          · rw [hc1', hc2'] at hcl; cases hcl
          · rcases farE_spec hcl with ⟨_, _, _, _, _, _, _, e1, _⟩ | ⟨_, _, _, _, _, _, _, e1, _⟩
            · rw [e1] at hc1'; cases hc1'
            · rw [e1] at hc2'; cases hc2'
    obtain ⟨τ, t1, t2⟩ := app_comm ha1 ha2' ap2 (keys H1).1 (keys H2).1 disj.1 (keys H1).2 (keys H2).2 disj.2 hgg'
    obtain ⟨b1, b2, b3, b4, b5, b6, b7⟩ := app_heap t1
    have hop2 := app_opnd (ops := ops) (o := om) t1 ap3
    have hcl' : clsOk (clsE cs ox.op) (clsE cs om.op) = true ∨ farE Z ox.op om.op = true := by
      refine hcl.imp (fun hcl => ?_) fun hcl => by rw [farE_comm]; exact hcl
      unfold clsOk at hcl ⊢
      rw [← hcl]
      congr 1
      cases (clsE cs ox.op == 1) <;> cases (clsE cs ox.op == 2) <;> cases (clsE cs om.op == 1) <;> cases (clsE cs om.op == 2) <;> rfl
    have K2 := kept (Ne.symm hne) hcl' gx2 b1 H2
    have htm : Touch cs om σ τ := fun hc y e b hy hmem hb => K2.1 hc y e b hy hmem hb
    have gx2' : f2'.gh = none ∨ gW cs ox.op = true := gx2.elim (fun h => .inl (by rw [h]; rfl)) fun h => effE_gh h
    obtain ⟨f1', pm, hf1, hc1'⟩ : ∃ f1', pickE P cs ops nk nv m τ = some (om.dst, f1') ∧ f1' = { f1 with call := f1'.call } ∧ callOk S ρ f1'.call := by
      have hsame : (gR cs om.op = true → τ.gh = σ.gh) → ∃ f1', pickE P cs ops nk nv m τ = some (om.dst, f1') ∧ f1' = { f1 with call := f1'.call } ∧ callOk S ρ f1'.call := fun hh =>
        ⟨f1, by rw [← hp1]; exact pick_congr hm hop2.1 hop2.2 b6 b3 b5 htm hh K2.2, rfl, hc1⟩
      by_cases h0 : f2'.gh = none
      · exact hsame fun _ => by rw [b7, h0]; rfl
      · have hw : gW cs ox.op = true := gx2'.resolve_left h0
        cases hgr : gR cs om.op with
        | false => exact hsame fun h => by rw [hgr] at h; cases h
        | true =>
          simp only [stOk, hw, hgr, Bool.not_true, Bool.false_or, Bool.and_eq_true, decide_eq_true_eq] at hg2
          obtain ⟨_, hw0, hwr⟩ := hg2
          have hx1 : effE P cs nk nv σ x ox = some f2' := gx2.resolve_left fun h => h0 (by rw [h]; rfl)
          have hext := turn_ext hC hw0 hx1 h0 hc2' b7
          rcases pick_regh (P := P) (nk := nk) (nv := nv) hm (by omega) hop2.1 hop2.2 b6 b3 b5 htm K2.2 hp1 with ⟨h, hn⟩ | ⟨ci, c, vs, g1, g2, g3, g4, g5, g6⟩
          · exact ⟨f1, h, rfl, hc1⟩
          · refine ⟨_, g6, rfl, ?_⟩
            rw [g5] at hc1
            exact (callOk_regh hC hr g1 g2 g3 g4 hw0 hwr hext).1 hc1
    have t2' : τ.app om.dst f1' = some σ2 := by rw [← t2, hf1]; rfl
    have hns2 : f2'.ns = f2.ns := by rw [hf2]
    have hns1 : f1'.ns = f1.ns := by rw [hf1]
    exact ⟨τ, ⟨_, _, stepE_ok.2 ⟨_, _, px, t1, rfl, rfl⟩, by rw [hns2]; exact hn2, hc2'⟩, ⟨_, _, stepE_ok.2 ⟨_, _, pm, t2', rfl, rfl⟩, by rw [hns1]; exact hn1, hc1'⟩⟩
  · cases hI
end
end Sx
end Go.Proofs.Ytaigdbnfhehclaa
