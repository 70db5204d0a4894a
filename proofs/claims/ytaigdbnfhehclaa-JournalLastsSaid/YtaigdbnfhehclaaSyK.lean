/- What is proved: a symbolic run of code tells what the model does with it; no program in sight; a symbolic run of a function tells what the model does with a call; no program in sight. No condition but those each law names. -/
import Derived.Test.YtaigdbnfhehclaaSyJ
import Derived.Scope
import Derived.LoopN
import Derived.Deep.LoopGhost
namespace Go.Proofs.Ytaigdbnfhehclaa
namespace Sx
open Go.RowKit

def firstReg : Code → Option Nat
  | .region id _ _ => some id
  | .seq a b => match firstReg a with | some r => some r | none => firstReg b
  | .cond _ a b => match firstReg a with | some r => some r | none => firstReg b
  | .block _ c => firstReg c
  | .loop c => firstReg c
  | .scope c => firstReg c
  | _ => none
def dstsOf : Code → List Tmp
  | .region _ ops _ => ops.toList.filterMap (·.dst)
  | .seq a b => dstsOf a ++ dstsOf b
  | .cond _ a b => dstsOf a ++ dstsOf b
  | .block _ c => dstsOf c
  | .loop c => dstsOf c
  | .scope c => dstsOf c
  | _ => []

/-- The same value, whatever the variables. -/
def beqV : Value → Value → Bool
  | .int k n, .int k' n' => k == k' && n == n'
  | .bool a, .bool b => a == b
  | .string s, .string t => decide (s = t)
  | .pointer none, .pointer none => true
  | .pointer (some a), .pointer (some b) => a == b
  | .nilFunc, .nilFunc => true
  | .nilIface, .nilIface => true
  | .slice none a b, .slice none c d => a == c && b == d
  | .map none, .map none => true
  | .float k a, .float k' b => k == k' && a == b
  | .tuple a, .tuple b => a.size == 0 && b.size == 0
  | _, _ => false
theorem beqV_eq {a b : Value} (h : beqV a b = true) : a = b := by
  unfold beqV at h
  split at h
  all_goals first
    | rfl
    | (cases h; done)
    | (simp only [Bool.and_eq_true, beq_iff_eq] at h; obtain ⟨rfl, rfl⟩ := h; rfl)
    | (simp only [beq_iff_eq] at h; subst h; rfl)
    | (simp only [decide_eq_true_eq] at h; subst h; rfl)
    | (simp only [Bool.and_eq_true, beq_iff_eq] at h
       obtain ⟨h1, h2⟩ := h
       rw [Array.eq_empty_of_size_eq_zero h1, Array.eq_empty_of_size_eq_zero h2])
mutual
def beqE : E → E → Bool
  | .int k t, .int k' t' => k == k' && decide (t = t')
  | .bool c, .bool c' => decide (c = c')
  | .lit v, .lit v' => beqV v v'
  | .var i, .var j => i == j
  | .hnd i, .hnd j => i == j
  | .pla m k o, .pla m' k' o' => decide (m = m') && decide (k = k') && o == o'
  | .ptr b o, .ptr b' o' => b == b' && o == o'
  | .slice b o n c, .slice b' o' n' c' => b == b' && o == o' && n == n' && c == c'
  | .at b o s n t, .at b' o' s' n' t' => b == b' && o == o' && s == s' && n == n' && decide (t = t')
  | .agg l, .agg l' => beqEs l l'
  | .tup l, .tup l' => beqEs l l'
  | .func f l, .func f' l' => decide (f = f') && beqEs l l'
  | .iface t e, .iface t' e' => t == t' && beqE e e'
  | _, _ => false
def beqEs : List E → List E → Bool
  | [], [] => true
  | e :: l, e' :: l' => beqE e e' && beqEs l l'
  | _, _ => false
end
mutual
theorem beqE_eq : ∀ {a b : E}, beqE a b = true → a = b
  | .int k t, .int k' t', h => by simp only [beqE, Bool.and_eq_true, beq_iff_eq, decide_eq_true_eq] at h; obtain ⟨rfl, rfl⟩ := h; rfl
  | .bool c, .bool c', h => by simp only [beqE, decide_eq_true_eq] at h; subst h; rfl
  | .lit v, .lit v', h => by simp only [beqE] at h; rw [beqV_eq h]
  | .var i, .var j, h => by simp only [beqE, beq_iff_eq] at h; subst h; rfl
  | .hnd i, .hnd j, h => by simp only [beqE, beq_iff_eq] at h; subst h; rfl
  | .pla m k o, .pla m' k' o', h => by simp only [beqE, Bool.and_eq_true, beq_iff_eq, decide_eq_true_eq] at h; obtain ⟨⟨rfl, rfl⟩, rfl⟩ := h; rfl
  | .ptr b o, .ptr b' o', h => by simp only [beqE, Bool.and_eq_true, beq_iff_eq] at h; obtain ⟨rfl, rfl⟩ := h; rfl
  | .slice b o n c, .slice b' o' n' c', h => by simp only [beqE, Bool.and_eq_true, beq_iff_eq] at h; obtain ⟨⟨⟨rfl, rfl⟩, rfl⟩, rfl⟩ := h; rfl
  | .at b o s n t, .at b' o' s' n' t', h => by simp only [beqE, Bool.and_eq_true, beq_iff_eq, decide_eq_true_eq] at h; obtain ⟨⟨⟨⟨rfl, rfl⟩, rfl⟩, rfl⟩, rfl⟩ := h; rfl
  | .agg l, .agg l', h => by simp only [beqE] at h; rw [beqEs_eq h]
  | .tup l, .tup l', h => by simp only [beqE] at h; rw [beqEs_eq h]
  | .func f l, .func f' l', h => by simp only [beqE, Bool.and_eq_true, decide_eq_true_eq] at h; rw [h.1, beqEs_eq h.2]
  | .iface t e, .iface t' e', h => by simp only [beqE, Bool.and_eq_true, beq_iff_eq] at h; rw [h.1, beqE_eq h.2]
theorem beqEs_eq : ∀ {a b : List E}, beqEs a b = true → a = b
  | [], [], _ => rfl
  | e :: l, e' :: l', h => by simp only [beqEs, Bool.and_eq_true] at h; rw [beqE_eq h.1, beqEs_eq h.2]
end
mutual
/-- It stays, where variables from n on, and blocks that are not in h, turn. -/
def E.fix (n : Nat) (h : Tr (List E)) : E → Bool
  | .int _ t => t.lt n
  | .bool c => c.lt n
  | .lit _ => true
  | .var i => decide (i < n)
  | .hnd i => decide (i < n)
  | .pla m k _ => m.lt n && k.lt n
  | .ptr b _ => (h.get b).isSome
  | .slice b _ _ _ => (h.get b).isSome
  | .at b _ _ _ t => (h.get b).isSome && t.lt n
  | .agg l => E.fixs n h l
  | .tup l => E.fixs n h l
  | .func _ l => E.fixs n h l
  | .iface _ e => e.fix n h
def E.fixs (n : Nat) (h : Tr (List E)) : List E → Bool
  | [] => true
  | e :: l => e.fix n h && E.fixs n h l
end
mutual
theorem E.val_fix {n : Nat} {h : Tr (List E)} {ρ ρ' : Env} {ι ι' : Lay} (hr : ρ.ag n ρ') (hi : ∀ b, (h.get b).isSome → ι' b = ι b) (hh : ι'.h = ι.h) : ∀ e : E, e.fix n h = true → e.val ρ' ι' = e.val ρ ι
  | .int k t, hf => by simp only [E.fix] at hf; simp only [E.val, T.den_ag hr t hf]
  | .bool c, hf => by simp only [E.fix] at hf; simp only [E.val, C.den_ag hr c hf]
  | .lit _, _ => rfl
  | .var i, hf => by simp only [E.val, (hr i (by simpa [E.fix] using hf)).2.2, hh]
  | .hnd i, hf => by simp only [E.val, (hr i (by simpa [E.fix] using hf)).2.2, hh]
  | .pla m k o, hf => by simp only [E.fix, Bool.and_eq_true] at hf; simp only [E.val, T.den_ag hr m hf.1, T.den_ag hr k hf.2, hh]
  | .ptr b o, hf => by simp only [E.fix] at hf; simp only [E.val, hi b hf]
  | .slice b o _ _, hf => by simp only [E.fix] at hf; simp only [E.val, hi b hf]
  | .at b o s k t, hf => by simp only [E.fix, Bool.and_eq_true] at hf; simp only [E.val, hi b hf.1, T.den_ag hr t hf.2]
  | .agg l, hf => by simp only [E.fix] at hf; simp only [E.val, E.vals_fix hr hi hh l hf]
  | .tup l, hf => by simp only [E.fix] at hf; simp only [E.val, E.vals_fix hr hi hh l hf]
  | .func _ l, hf => by simp only [E.fix] at hf; simp only [E.val, E.vals_fix hr hi hh l hf]
  | .iface _ e, hf => by simp only [E.fix] at hf; simp only [E.val, E.val_fix hr hi hh e hf]
theorem E.vals_fix {n : Nat} {h : Tr (List E)} {ρ ρ' : Env} {ι ι' : Lay} (hr : ρ.ag n ρ') (hi : ∀ b, (h.get b).isSome → ι' b = ι b) (hh : ι'.h = ι.h) : ∀ l : List E, E.fixs n h l = true → E.vals ρ' ι' l = E.vals ρ ι l
  | [], _ => rfl
  | e :: l, hf => by simp only [E.fixs, Bool.and_eq_true] at hf; simp only [E.vals, E.val_fix hr hi hh e hf.1, E.vals_fix hr hi hh l hf.2]
end

/-- No tuple. -/
def E.whole : E → Bool
  | .lit (.tuple _) => false
  | e => e.argOk
theorem noTup_eq {v : Value} (h : ∀ cs, v ≠ .tuple cs) : noTup v = v := by
  unfold noTup; split
  · rename_i cs; exact absurd rfl (h cs)
  · rfl
theorem noTup_noTup (v : Value) : noTup (noTup v) = noTup v := by
  unfold noTup
  cases v <;> rfl
theorem E.whole_val (ρ : Env) {e : E} (h : e.whole = true) : noTup (e.nam ρ lay0) = e.nam ρ lay0 := by
  unfold E.whole at h
  split at h
  · cases h
  · rename_i hno
    cases e <;> simp only [E.argOk, E.cellOk] at h <;> first | (cases h; done) | rfl | skip
    · exact noTup_eq fun cs e => by simp only [E.nam] at e; subst e; exact hno _ rfl
    · simp only [E.nam, noTup_noTup]
    · refine noTup_eq fun cs e => ?_
      have := oneOf_one (ρ.v ‹_›)
      simp only [E.nam] at e
      rw [e] at this
      cases this
theorem E.whole_arg {e : E} (h : e.whole = true) : e.argOk = true := by
  unfold E.whole at h
  split at h
  · cases h
  · exact h
/-- A state's value against a round's head's: what the variables from n on stand for. -/
def match1 (n : Nat) (h : Tr (List E)) (x y : E) : Option (List (Nat × E)) :=
  match x, y with
  | .int k (.var i), .int k' t => if n ≤ i then (if k = k' then some [(i, .int k' t)] else none) else if x.fix n h && beqE x y then some [] else none
  | .bool (.var i), .bool c => if n ≤ i then some [(i, .bool c)] else if x.fix n h && beqE x y then some [] else none
  | .var i, e => if n ≤ i then (match e with | .int _ _ => none | .bool _ => none | e => if e.whole then some [(i, e)] else none) else if x.fix n h && beqE x y then some [] else none
  | .hnd i, e => if n ≤ i then (match e with | .int _ _ => none | .bool _ => none | e => if e.cellOk && e.one then some [(i, e)] else none) else if x.fix n h && beqE x y then some [] else none
  | x, y => if x.fix n h && beqE x y then some [] else none
def matchL (n : Nat) (h : Tr (List E)) : List E → List E → Option (List (Nat × E))
  | [], [] => some []
  | x :: l, y :: r => match match1 n h x y, matchL n h l r with | some a, some b => some (a ++ b) | _, _ => none
  | _, _ => none
def matchE (n : Nat) (h : Tr (List E)) (x y : E) : Option (List (Nat × E)) := match x, y with
  | .agg l, .agg r => matchL n h l r
  | x, y => match1 n h x y
def matchTr {α : Type} (m : α → α → Option (List (Nat × E))) : Tr α → Tr α → Option (List (Nat × E))
  | .nil, _ => some []
  | .node l v r, .nil => match v, matchTr m l .nil, matchTr m r .nil with
    | none, some a, some b => some (a ++ b)
    | _, _, _ => none
  | .node l v r, .node l' v' r' => match v, v', matchTr m l l', matchTr m r r' with
    | none, _, some a, some b => some (a ++ b)
    | some x, some y, some a, some b => match m x y with | some c => some (c ++ (a ++ b)) | none => none
    | _, _, _, _ => none
theorem matchTr_get {α : Type} {m : α → α → Option (List (Nat × E))} : ∀ {t t' : Tr α} {B : List (Nat × E)}, matchTr m t t' = some B → ∀ (n : Nat) (x : α), t.get n = some x → ∃ y A, t'.get n = some y ∧ m x y = some A ∧ ∀ p ∈ A, p ∈ B
  | .nil, _, _, _, n, x, hx => by rw [Tr.get_nil] at hx; cases hx
  | .node l v r, .nil, B, h, n, x, hx => by
    unfold matchTr at h
    split at h
    · rename_i a b h1 h2
      cases n with
      | zero => simp [Tr.get] at hx
      | succ n =>
        simp only [Tr.get] at hx
        split at hx
        · obtain ⟨y, A, h3, _⟩ := matchTr_get h1 _ x hx; rw [Tr.get_nil] at h3; cases h3
        · obtain ⟨y, A, h3, _⟩ := matchTr_get h2 _ x hx; rw [Tr.get_nil] at h3; cases h3
    · cases h
  | .node l v r, .node l' v' r', B, h, n, x, hx => by
    unfold matchTr at h
    split at h
    · rename_i a b h1 h2
      cases h
      cases n with
      | zero => simp [Tr.get] at hx
      | succ n =>
        simp only [Tr.get] at hx ⊢
        split at hx
        · rename_i e
          obtain ⟨y, A, h3, h4, h5⟩ := matchTr_get h1 _ x hx
          exact ⟨y, A, by simpa [e] using h3, h4, fun p hp => List.mem_append_left _ (h5 p hp)⟩
        · rename_i e
          obtain ⟨y, A, h3, h4, h5⟩ := matchTr_get h2 _ x hx
          exact ⟨y, A, by simpa [e] using h3, h4, fun p hp => List.mem_append_right _ (h5 p hp)⟩
    · rename_i x0 y0 a b h1 h2
      split at h
      · rename_i c hc
        cases h
        cases n with
        | zero =>
          simp only [Tr.get, Option.some.injEq] at hx
          subst hx
          exact ⟨y0, c, rfl, hc, fun p hp => List.mem_append_left _ hp⟩
        | succ n =>
          simp only [Tr.get] at hx ⊢
          split at hx
          · rename_i e
            obtain ⟨y, A, h3, h4, h5⟩ := matchTr_get h1 _ x hx
            exact ⟨y, A, by simpa [e] using h3, h4, fun p hp => List.mem_append_right _ (List.mem_append_left _ (h5 p hp))⟩
          · rename_i e
            obtain ⟨y, A, h3, h4, h5⟩ := matchTr_get h2 _ x hx
            exact ⟨y, A, by simpa [e] using h3, h4, fun p hp => List.mem_append_right _ (List.mem_append_right _ (h5 p hp))⟩
      · cases h
    · cases h

def subTr {α β : Type} : Tr α → Tr β → Bool
  | .nil, _ => true
  | .node l v r, .nil => v.isNone && subTr l (.nil : Tr β) && subTr r (.nil : Tr β)
  | .node l v r, .node l' v' r' => (v.isNone || v'.isSome) && subTr l l' && subTr r r'
theorem subTr_get {α β : Type} : ∀ {t : Tr α} {s : Tr β}, subTr t s = true → ∀ k, (t.get k).isSome → (s.get k).isSome
  | .nil, _, _, k, hk => by rw [Tr.get_nil] at hk; cases hk
  | .node l v r, .nil, h, k, hk => by
    simp only [subTr, Bool.and_eq_true] at h
    cases k with
    | zero => simp only [Tr.get] at hk; rw [Option.isNone_iff_eq_none] at h; rw [h.1.1] at hk; cases hk
    | succ k =>
      simp only [Tr.get] at hk
      split at hk
      · have := subTr_get h.1.2 _ hk; rw [Tr.get_nil] at this; cases this
      · have := subTr_get h.2 _ hk; rw [Tr.get_nil] at this; cases this
  | .node l v r, .node l' v' r', h, k, hk => by
    simp only [subTr, Bool.and_eq_true, Bool.or_eq_true] at h
    cases k with
    | zero =>
      simp only [Tr.get] at hk ⊢
      rcases h.1.1 with h1 | h1
      · rw [Option.isNone_iff_eq_none] at h1; rw [h1] at hk; cases hk
      · exact h1
    | succ k =>
      simp only [Tr.get] at hk ⊢
      split at hk
      · rename_i e; rw [if_pos e]; exact subTr_get h.1.2 _ hk
      · rename_i e; rw [if_neg e]; exact subTr_get h.2 _ hk
def matchSt (n : Nat) (σL σ : St) : Option (List (Nat × E)) :=
  if σ.n = σL.n ∧ σ.np = σL.np ∧ (σL.pc.all fun p => p.1.lt n && σ.pc.contains p) ∧ ((List.range σL.np).all fun k => !(σ.wr.get k).isSome || ((σL.wr.get k).isSome && (σL.heap.get k).isSome)) then
    match matchTr (matchE n σL.heap) σL.tmps σ.tmps, matchTr (matchL n σL.heap) σL.heap σ.heap, (if σL.gh < n then (if σL.gh = σ.gh then some [] else none) else some [(σL.gh, .var σ.gh)]) with
    | some a, some b, some c => some (a ++ b ++ c)
    | _, _, _ => none
  else none

theorem bound_get {ρ ρ' : Env} {B : List (Nat × E)} (h : Bound ρ ρ' B) : ∀ p ∈ B, bval ρ' p.1 p.2 = p.2.nam ρ lay0 := fun p hp => List.map_inj_left.1 h p hp

section
variable {P : Program} {cs : List Con} {S : List ConS} {LT : List (Nat × Nat)} {ρ ρ' : Env} {ι ι' : Lay} {w0 : Base} {σ σ' σL : St} {a : Act} {w w' : World}

theorem match1_val {n : Nat} {h : Tr (List E)} {B A : List (Nat × E)} {x y : E} (hm : match1 n h x y = some A) (hA : ∀ p ∈ A, p ∈ B) {ρn : Env} (hag : ρ.ag n ρn) (hbd : Bound ρ ρn B) {m : Nat} (hlt : ∀ p ∈ B, p.1 < m) {ρ3 : Env} (h3 : ρn.ag m ρ3) (hnm : n ≤ m)
    (hi : ∀ b, (h.get b).isSome → ι' b = ι b) (hh : ι'.h = ι.h) : x.val ρ3 ι' = y.val ρ ι := by
  have hfix : (if x.fix n h && beqE x y then some ([] : List (Nat × E)) else none) = some A → x.val ρ3 ι' = y.val ρ ι := fun hf => by
    split at hf
    · rename_i hc
      rw [Bool.and_eq_true] at hc
      rw [← beqE_eq hc.2]
      exact E.val_fix (Env.ag_trans hag h3 hnm) hi hh x hc.1
    · cases hf
  unfold match1 at hm
  split at hm
  · split at hm
    · split at hm
      · rename_i k i k' t hle hk
        cases hm
        subst hk
        have hmem := hA _ (List.mem_singleton.2 rfl)
        have h1 := bound_get hbd _ hmem
        simp only [bval, E.nam] at h1
        simp only [E.val, T.den, (h3 i (hlt _ hmem)).1, h1]
      · cases hm
    · exact hfix hm
  · split at hm
    · rename_i i c hle
      cases hm
      have hmem := hA _ (List.mem_singleton.2 rfl)
      have h1 := bound_get hbd _ hmem
      simp only [bval, E.nam] at h1
      simp only [E.val, C.den, (h3 i (hlt _ hmem)).2.1, h1]
    · exact hfix hm
  · split at hm
    · rename_i i hle
      split at hm
      · cases hm
      · cases hm
      · rename_i e hne1 hne2
        split at hm
        · rename_i hnp
          cases hm
          have hmem := hA _ (List.mem_singleton.2 rfl)
          have h1 := bound_get hbd _ hmem
          have h2 : bval ρn i y = ρn.v i := by
            unfold bval
            split
            · exact absurd rfl (hne1 _ _)
            · exact absurd rfl (hne2 _)
            · rfl
          simp only [h2] at h1
          simp only [E.val, (h3 i (hlt _ hmem)).2.2, h1, E.whole_val ρ hnp, hh]
          exact (E.arg_conc ρ ι (fun _ => (0, 0)) (E.whole_arg hnp)).symm
        · cases hm
    · exact hfix hm
  · split at hm
    · rename_i i hle
      split at hm
      · cases hm
      · cases hm
      · rename_i e hne1 hne2
        split at hm
        · rename_i hnp
          rw [Bool.and_eq_true] at hnp
          cases hm
          have hmem := hA _ (List.mem_singleton.2 rfl)
          have h1 := bound_get hbd _ hmem
          have h2 : bval ρn i y = ρn.v i := by
            unfold bval
            split
            · exact absurd rfl (hne1 _ _)
            · exact absurd rfl (hne2 _)
            · rfl
          simp only [h2] at h1
          simp only [E.val, (h3 i (hlt _ hmem)).2.2, h1, oneOf_eq (E.one_nam hnp.2), hh]
          exact (E.cell_conc ρ ι (fun _ => (0, 0)) hnp.1).symm
        · cases hm
    · exact hfix hm
  · exact hfix hm
theorem matchL_val {n : Nat} {h : Tr (List E)} {B : List (Nat × E)} {ρn : Env} (hag : ρ.ag n ρn) (hbd : Bound ρ ρn B) {m : Nat} (hlt : ∀ p ∈ B, p.1 < m) {ρ3 : Env} (h3 : ρn.ag m ρ3) (hnm : n ≤ m)
    (hi : ∀ b, (h.get b).isSome → ι' b = ι b) (hh : ι'.h = ι.h) : ∀ {l r : List E} {A : List (Nat × E)}, matchL n h l r = some A → (∀ p ∈ A, p ∈ B) → E.vals ρ3 ι' l = E.vals ρ ι r
  | [], [], _, _, _ => rfl
  | x :: l, y :: r, _, hm, hA => by
    unfold matchL at hm
    split at hm
    · rename_i a b h1 h2
      cases hm
      simp only [E.vals]
      rw [match1_val h1 (fun p hp => hA p (List.mem_append_left _ hp)) hag hbd hlt h3 hnm hi hh, matchL_val hag hbd hlt h3 hnm hi hh h2 (fun p hp => hA p (List.mem_append_right _ hp))]
    · cases hm
theorem matchL_length {n : Nat} {h : Tr (List E)} : ∀ {l r : List E} {A : List (Nat × E)}, matchL n h l r = some A → l.length = r.length
  | [], [], _, _ => rfl
  | x :: l, y :: r, _, hm => by
    unfold matchL at hm
    split at hm
    · rename_i h2
      simp only [List.length_cons, matchL_length h2]
    · cases hm
theorem matchE_val {n : Nat} {h : Tr (List E)} {B A : List (Nat × E)} {x y : E} (hm : matchE n h x y = some A) (hA : ∀ p ∈ A, p ∈ B) {ρn : Env} (hag : ρ.ag n ρn) (hbd : Bound ρ ρn B) {m : Nat} (hlt : ∀ p ∈ B, p.1 < m) {ρ3 : Env} (h3 : ρn.ag m ρ3) (hnm : n ≤ m)
    (hi : ∀ b, (h.get b).isSome → ι' b = ι b) (hh : ι'.h = ι.h) : x.val ρ3 ι' = y.val ρ ι := by
  unfold matchE at hm
  split at hm
  · simp only [E.val, matchL_val hag hbd hlt h3 hnm hi hh hm hA]
  · exact match1_val hm hA hag hbd hlt h3 hnm hi hh

/-- A state is a round's head, with the variables bound anew. -/
theorem Sim.head [Kinds] (h : Sim ρ w0 σ a w) {n : Nat} {B : List (Nat × E)} (hm : matchSt n σL σ = some B) (hn : n ≤ σL.nv) (hlt : B.all (fun p => decide (p.1 < σL.nv)) = true) (hkeep : ∀ b, w0.pin b → (σL.heap.get b).isSome) {ρn : Env} (hag : ρ.ag n ρn) (hbd : Bound ρ ρn B) : Sim ρn w0 σL a w := by
  unfold matchSt at hm
  split at hm
  · rename_i hc
    obtain ⟨c1, c2, c3, c4⟩ := hc
    split at hm
    · rename_i A1 A2 A3 m1 m2 m3
      cases hm
      have hlt' : ∀ p ∈ A1 ++ A2 ++ A3, p.1 < σL.nv := fun p hp => by simpa using List.all_eq_true.1 hlt p hp
      have hgl := h.glt
      obtain ⟨ι0, F, hι⟩ := h
      have hgh : σL.gh < σL.nv ∧ ρn.g σL.gh = ρ.g σ.gh := by
        split at m3
        · rename_i hg1
          split at m3
          · rename_i hg2
            exact ⟨by omega, by rw [← hg2]; exact Env.ag_g hag hg1⟩
          · cases m3
        · cases m3
          have hmem : (σL.gh, E.var σ.gh) ∈ A1 ++ A2 ++ [(σL.gh, E.var σ.gh)] := List.mem_append_right _ (List.mem_singleton.2 rfl)
          have h1 := bound_get hbd _ hmem
          simp only [bval, E.nam] at h1
          exact ⟨hlt' _ hmem, by unfold Env.g; rw [h1, noTup_noTup]⟩
      refine ⟨ι0, F, fun ρ3 hr ι' hi => ?_⟩
      obtain ⟨hi, hih⟩ := hi
      rw [hgh.2] at hih
      have h0 := hι ρ (Env.ag_refl _ _) ⟨ι0.p, ι'.h⟩ ⟨fun _ _ => rfl, hih⟩
      have hgh3 : ρ3.g σL.gh = ρ.g σ.gh := by rw [Env.ag_g hr hgh.1, hgh.2]
      generalize hιe : (⟨ι0.p, ι'.h⟩ : Lay) = ι at h0
      have hh : ι'.h = ι.h := by rw [← hιe]
      have hi : ∀ b, (σL.heap.get b).isSome → ι' b = ι b := fun b hb => by rw [← hιe]; exact hi b hb
      have hblk : ∀ b l, σL.heap.get b = some l → ∃ l', σ.heap.get b = some l' ∧ l.length = l'.length ∧ E.vals ρ3 ι' l = E.vals ρ ι l' ∧ ι' b = ι b := fun b l hb => by
        obtain ⟨l', A, q1, q2, q3⟩ := matchTr_get m2 b l hb
        exact ⟨l', q1, matchL_length q2, matchL_val hag hbd hlt' hr hn hi hh q2 (fun p hp => List.mem_append_left _ (List.mem_append_right _ (q3 p hp))), hi b (by rw [hb]; rfl)⟩
      refine ⟨by rw [h0.n, c1], h0.defers, fun t e he => ?_, fun b l hb j c hj => ?_, fun b b' l l' hb hb' hne he j j' hj hj' => ?_, fun b l hb hnp => ?_, fun b hb => ?_, ?_, fun p hp => ?_, hgh.1, by rw [hgh3, hh]; exact h0.gho, fun b l hb j hj => ?_, h0.gow, by rw [hh]; exact h0.gpar, by rw [hgh3]; exact h0.gcnt⟩
      · obtain ⟨y, A, q1, q2, q3⟩ := matchTr_get m1 t e he
        rw [h0.tmps t y q1]
        exact (matchE_val q2 (fun p hp => List.mem_append_left _ (List.mem_append_left _ (q3 p hp))) hag hbd hlt' hr hn hi hh).symm
      · obtain ⟨l', q1, q2, q3, q4⟩ := hblk b l hb
        have hj' : j < l'.length := by rw [← q2]; exact (List.getElem?_eq_some_iff.1 hj).1
        have q5 := congrArg (fun x => x[j]?) q3
        simp only [E.vals_get, hj, List.getElem?_eq_getElem hj', Option.map_some, Option.some.injEq] at q5
        rw [q4, q5]
        exact h0.cell b l' q1 j _ (List.getElem?_eq_getElem hj')
      · obtain ⟨l1, q1, q2, _, q4⟩ := hblk b l hb
        obtain ⟨l2, r1, r2, _, r4⟩ := hblk b' l' hb'
        rw [q4, r4] at he ⊢
        exact h0.apart b b' l1 l2 q1 r1 hne he j j' (by omega) (by omega)
      · obtain ⟨l1, q1, q2, _, q4⟩ := hblk b l hb
        rw [q4]
        exact h0.own b l1 q1 (by rw [c2]; exact hnp)
      · have hb2 := hkeep b hb
        obtain ⟨l, hl⟩ := Option.isSome_iff_exists.1 hb2
        obtain ⟨l1, q1, q2, _, q4⟩ := hblk b l hl
        exact ⟨hb2, by rw [q4]; exact (h0.par b hb).2⟩
      · refine h0.fr.mono fun i x _ hx => ?_
        rcases hx with hx | hx
        rotate_left
        · exact .inr hx
        refine .inl ?_
        obtain ⟨b, l, x1, x2, x3, x4, x5, x6⟩ := hx
        rw [c2] at x2
        have hb := List.all_eq_true.1 c4 b (List.mem_range.2 x2)
        simp only [x1, Bool.not_true, Bool.false_or, Bool.and_eq_true] at hb
        obtain ⟨hb1, hb2⟩ := hb
        obtain ⟨l1, hl1⟩ := Option.isSome_iff_exists.1 hb2
        obtain ⟨l', q1, q2, _, q4⟩ := hblk b l1 hl1
        rw [x3] at q1
        cases q1
        exact ⟨b, l1, hb1, x2, hl1, by rw [q4]; exact x4, by rw [q4]; exact x5, by rw [q4]; omega⟩
      · have hp' := List.all_eq_true.1 c3 p hp
        rw [Bool.and_eq_true] at hp'
        obtain ⟨p1, p2⟩ := hp'
        rw [C.den_ag (Env.ag_trans hag hr hn) p.1 p1]
        exact h0.pc p (by simpa using p2)
      · obtain ⟨l1, q1, q2, _, q4⟩ := hblk b l hb
        rw [q4]
        exact h0.gap b l1 q1 j (by omega)
    · cases hm
  · cases hm
end
end Sx
end Go.Proofs.Ytaigdbnfhehclaa

namespace Go.Proofs.Ytaigdbnfhehclaa
namespace Sx
open Go.RowKit

/-- What turns in a loop: slots, and blocks; in the variables from a number on. -/
structure LS where
  slots : List (Tmp × (Nat → E))
  blks : List (Nat × (Nat → List E))
  pre : List (Bool × C)
  gh : Bool := false
def Tr.delF {α : Type} : Nat → Tr α → Nat → Tr α
  | _, .nil, _ => .nil
  | 0, .node l _ r, _ => .node l none r
  | f + 1, .node l v r, n => match n with
    | 0 => .node l none r
    | n + 1 => if n % 2 = 0 then .node (Tr.delF f l (n / 2)) v r else .node l v (Tr.delF f r (n / 2))
def delAll : Tr E → List Tmp → Tr E
  | t, [] => t
  | t, n :: r => delAll (Tr.delF 40 t n) r
def setSlots (base : Nat) : Tr E → List (Tmp × (Nat → E)) → Tr E
  | t, [] => t
  | t, (n, f) :: r => setSlots base (t.set n (f base)) r
def setBlks (base : Nat) : Tr (List E) → List (Nat × (Nat → List E)) → Tr (List E)
  | t, [] => t
  | t, (n, f) :: r => setBlks base (t.set n (f base)) r
def headSt (σ : St) (body : Code) (ls : LS) : St :=
  { σ with tmps := setSlots σ.nv (delAll σ.tmps (dstsOf body)) ls.slots, heap := setBlks σ.nv σ.heap ls.blks, wr := setWr σ.wr (ls.blks.map (·.1)), nv := σ.nv + stride, gh := if ls.gh then σ.nv + gv else σ.gh }
def findLS : List (Nat × LS) → Option Nat → Option (Nat × LS)
  | [], _ => none
  | (r, ls) :: l, k => if some r = k then some (r, ls) else findLS l k

def condT (t e : St → Tree) (c : C) : Nat → St → Tree
  | 0, _ => .fail 5
  | f + 1, σ => match c.simp σ.pc with
    | .lit true => t σ
    | .lit false => e σ
    | c' => if (atomOf c').lt σ.nv then .split (atomOf c') (condT t e c f { σ with pc := (atomOf c', true) :: σ.pc }) (condT t e c f { σ with pc := (atomOf c', false) :: σ.pc }) else .fail 6
def iterT (body : St → Tree) : Nat → St → Tree
  | 0, _ => .fail 7
  | f + 1, σ => (body σ).bind fun x σ' => match x with
    | .normal => iterT body f σ'
    | x => .leaf x σ'
/-- Ahead of a loop: what is to be known of a condition. -/
def preT (k : St → Tree) : List (Bool × C) → St → Tree
  | [], σ => k σ
  | (b, c) :: r, σ => match c.simp σ.pc with
    | .lit _ => preT k r σ
    | c' => if (atomOf c').lt σ.nv then
        if b then .split (atomOf c') (preT k r { σ with pc := (atomOf c', true) :: σ.pc }) (preT k r { σ with pc := (atomOf c', false) :: σ.pc })
        else .need (atomOf c') (preT k r { σ with pc := (atomOf c', true) :: σ.pc })
      else .fail 24
def pcLt (σ : St) : Bool := σ.pc.all fun p => p.1.lt σ.nv
def splitFuel : Nat := 40
/-- The slots of a region that hold places, and are not assigned in it. -/
def zOf (ops : Array Oper) (σ : St) : List (Tmp × Nat) := ops.toList.filterMap fun o => match o.op with
  | .load _ (.tmp u) => zSlot u
  | .store _ (.tmp u) _ => zSlot u
  | _ => none
where zSlot (u : Tmp) : Option (Tmp × Nat) := match σ.tmps.get u with
  | some (.ptr k _) => if ops.toList.all fun o => o.dst != some u then some (u, k) else none
  | _ => none
theorem zSlot_spec {ops : Array Oper} {σ : St} {u : Tmp} {p : Tmp × Nat} (h : zOf.zSlot ops σ u = some p) : (∃ o, σ.tmps.get p.1 = some (.ptr p.2 o)) ∧ ∀ (i : Nat) o, ops[i]? = some o → o.dst ≠ some p.1 := by
  unfold zOf.zSlot at h
  split at h
  · rename_i k o hk
    split at h
    · rename_i ha
      cases h
      refine ⟨⟨o, hk⟩, fun i o' ho' e => ?_⟩
      have := List.all_eq_true.1 ha o' (by rw [Array.mem_toList_iff]; exact Array.mem_of_getElem? ho')
      rw [e] at this
      simp at this
    · cases h
  · cases h
theorem zOf_spec {ops : Array Oper} {σ : St} {p : Tmp × Nat} (h : p ∈ zOf ops σ) : (∃ o, σ.tmps.get p.1 = some (.ptr p.2 o)) ∧ ∀ (i : Nat) o, ops[i]? = some o → o.dst ≠ some p.1 := by
  unfold zOf at h
  rw [List.mem_filterMap] at h
  obtain ⟨o, _, h⟩ := h
  split at h
  · exact zSlot_spec h
  · exact zSlot_spec h
  · cases h
def run (P : Program) (cs : List Con) (inl : FuncId → List E → St → Tree) (LT : List (Nat × LS)) (fuel : Nat) : Code → St → Tree
  | .skip, σ => .leaf .normal σ
  | .label _, σ => .leaf .normal σ
  | .region _ ops draw, σ => if draw then (if orderOk cs ops (zOf ops σ) && pcLt σ then runDraw P cs ops splitFuel [] σ else .fail 8)
      else runSeq P cs inl ops σ.nk (ops.size + splitFuel) σ.nv (List.range' 0 ops.size) { σ with nk := σ.nk + ops.size }
  | .seq a b, σ => (run P cs inl LT fuel a σ).bind fun x σ' => match x with
    | .normal => run P cs inl LT fuel b σ'
    | x => .leaf x σ'
  | .cond c t e, σ => match σ.opnd c with
    | some (.bool c) => condT (run P cs inl LT fuel t) (run P cs inl LT fuel e) c splitFuel σ
    | _ => .fail 9
  | .block id c, σ => (run P cs inl LT fuel c σ).bind fun x σ' => match x with
    | .exit id' => if id' = id then .leaf .normal σ' else .leaf (.exit id') σ'
    | x => .leaf x σ'
  | .scope c, σ => (run P cs inl LT fuel c σ).bind fun x σ' => match x with
    | .goto _ => .fail 10
    | x => .leaf x σ'
  | .loop c, σ => match findLS LT (firstReg c) with
    | none => iterT (run P cs inl LT fuel c) fuel σ
    | some (r, ls) => preT (fun σ =>
      let σL := headSt σ c ls
      match matchSt σ.nv σL σ with
      | none => .fail 11
      | some B => if B.all (fun p => decide (p.1 < σL.nv)) && decide (σ.nv ≤ σL.nv) && subTr σ.heap σL.heap then .loop r σ.nv B ((run P cs inl LT fuel c σL).bind fun x σ' => match x with
          | .normal => match matchSt σ.nv σL σ' with
            | none => .fail 12
            | some B' => if B'.all (fun p => decide (p.1 < σL.nv)) then .again r σ.nv B' else .fail 13
          | x => .leaf x σ')
        else .fail 14) ls.pre σ
  | .exit id, σ => .leaf (.exit id) σ
  | .goto l, σ => .leaf (.goto l) σ
  | .ret, σ => .leaf .ret σ
  | _, _ => .fail 15

def Ex.to : Ex → Exit
  | .normal => .normal
  | .exit id => .exit id
  | .goto l => .goto l
  | .ret => .ret

section
variable {P : Program} {cs : List Con} {S : List ConS} {LT : List (Nat × LS)} {LS : LoopS} {fuel : Nat} {inl : FuncId → List E → St → Tree}

/-- What is told of how a run ends holds. -/
def Links [Kinds] (w0 : Base) (K : Env → Ex → St → Prop) (Q : Exit → Act → World → Prop) : Prop := ∀ ρ x σ a w, K ρ x σ → Sim ρ w0 σ a w → Q x.to a w

theorem opnd_bool {σ : St} {x : Operand} {c : C} (h : σ.opnd x = some (.bool c)) (pc : Known) : St.opnd { σ with pc := pc } x = some (.bool c) := by
  cases x with
  | tmp t =>
    simp only [St.opnd] at h ⊢
    split at h
    · rename_i e he
      cases e <;> simp [E.known] at h ⊢ <;> exact h
    · cases h
  | _ => exact h
theorem condT_ok [Kinds] {w0 : Base} {K : Env → Ex → St → Prop} {x : Operand} {tc ec : Code} {t e : St → Tree} {Q : Exit → Act → World → Prop} (c : C)
    (ht : ∀ σ ρ a w, treeSem S LS K ρ (t σ) → Sim ρ w0 σ a w → tc.wp P Q a w) (he : ∀ σ ρ a w, treeSem S LS K ρ (e σ) → Sim ρ w0 σ a w → ec.wp P Q a w) :
    ∀ (f : Nat) (σ : St) (ρ : Env) (a : Act) (w : World), σ.opnd x = some (.bool c) → treeSem S LS K ρ (condT t e c f σ) → Sim ρ w0 σ a w → (Code.cond x tc ec).wp P Q a w
  | 0, _, _, _, _, _, h, _ => h.elim
  | f + 1, σ, ρ, a, w, hx, h, hs => by
    unfold condT at h
    obtain ⟨ι, F, h0⟩ := hs.at_
    have hev := h0.held.opnd hx
    have hd := C.den_simp h0.pc c
    simp only [E.val] at hev
    split at h
    · rename_i hc
      rw [hc] at hd
      simp only [C.den] at hd
      rw [← hd] at hev
      exact wp_cond_true hev (ht σ ρ a w h hs)
    · rename_i hc
      rw [hc] at hd
      simp only [C.den] at hd
      rw [← hd] at hev
      exact wp_cond_false hev (he σ ρ a w h hs)
    · split at h
      · rename_i c' _ _ hlt
        cases hb : (atomOf (c.simp σ.pc)).den ρ with
        | true => exact condT_ok c ht he f { σ with pc := (atomOf (c.simp σ.pc), true) :: σ.pc } ρ a w (opnd_bool hx _) (h.1 hb) (hs.know hlt hb)
        | false => exact condT_ok c ht he f { σ with pc := (atomOf (c.simp σ.pc), false) :: σ.pc } ρ a w (opnd_bool hx _) (h.2 hb) (hs.know hlt hb)
      · exact h.elim

theorem iterT_ok [Kinds] {w0 : Base} {K : Env → Ex → St → Prop} {Q : Exit → Act → World → Prop} {c : Code} {body : St → Tree} (hK : Links w0 K Q)
    (hb : ∀ (K' : Env → Ex → St → Prop) (Q' : Exit → Act → World → Prop), Links w0 K' Q' → ∀ σ ρ a w, treeSem S LS K' ρ (body σ) → Sim ρ w0 σ a w → c.wp P Q' a w) :
    ∀ (f : Nat) (σ : St) (ρ : Env) (a : Act) (w : World), treeSem S LS K ρ (iterT body f σ) → Sim ρ w0 σ a w → Code.rounds P c Q f a w
  | 0, _, _, _, _, h, _ => h.elim
  | f + 1, σ, ρ, a, w, h, hs => by
    unfold iterT at h
    rw [rounds_succ]
    refine hb _ _ (fun ρ' x σ' a' w' hk hs' => ?_) σ ρ a w (treeSem_bind _ _ h) hs
    cases x with
    | normal => exact iterT_ok hK hb f σ' ρ' a' w' hk hs'
    | exit id => exact hK ρ' (.exit id) σ' a' w' hk hs'
    | goto l => exact hK ρ' (.goto l) σ' a' w' hk hs'
    | ret => exact hK ρ' .ret σ' a' w' hk hs'

theorem preT_ok [Kinds] {w0 : Base} {K : Env → Ex → St → Prop} {X : World → Act → Prop} {k : St → Tree} (hk : ∀ σ ρ a w, treeSem S LS K ρ (k σ) → Sim ρ w0 σ a w → X w a) :
    ∀ (l : List (Bool × C)) (σ : St) (ρ : Env) (a : Act) (w : World), treeSem S LS K ρ (preT k l σ) → Sim ρ w0 σ a w → X w a
  | [], σ, ρ, a, w, h, hs => hk σ ρ a w h hs
  | (b, c) :: r, σ, ρ, a, w, h, hs => by
    unfold preT at h
    split at h
    · exact preT_ok hk r σ ρ a w h hs
    · split at h
      · rename_i hlt
        split at h
        · cases hb : (atomOf (c.simp σ.pc)).den ρ with
          | true => exact preT_ok hk r _ ρ a w (h.1 hb) (hs.know hlt hb)
          | false => exact preT_ok hk r _ ρ a w (h.2 hb) (hs.know hlt hb)
        · exact preT_ok hk r _ ρ a w h.2 (hs.know hlt h.1)
      · exact h.elim
theorem run_ok [Kinds] (hC : Cons P cs S) (hm : P.follows .mixedOrders = true) (hI : InlOk P S LS inl) {w0 : Base} : ∀ (c : Code) (K : Env → Ex → St → Prop) (Q : Exit → Act → World → Prop), Links w0 K Q → ∀ (σ : St) (ρ : Env) (a : Act) (w : World),
    treeSem S LS K ρ (run P cs inl LT fuel c σ) → Sim ρ w0 σ a w → c.wp P Q a w := by
  intro c
  induction c with
  | skip => exact fun K Q hK σ ρ a w h hs => wp_skip (hK ρ .normal σ a w h hs)
  | label l => exact fun K Q hK σ ρ a w h hs => wp_label (hK ρ .normal σ a w h hs)
  | region id ops draw =>
    intro K Q hK σ ρ a w h hs
    unfold run at h
    cases draw with
    | true =>
      simp only [if_true] at h
      split at h
      · rename_i hc
        rw [Bool.and_eq_true] at hc
        exact runDraw_ok hC hm (fun i o ho p hp => (zOf_spec hp).2 i o ho) hc.1 (fun ρ σ a w hk hs => hK ρ .normal σ a w hk hs) _ [] σ ρ a w (fun p hp => List.all_eq_true.1 hc.2 p hp) (fun p hp => by cases hp) h (fun p hp => (zOf_spec hp).1) hs
      · exact h.elim
    | false =>
      simp only [Bool.false_eq_true, if_false] at h
      refine wp_region ?_
      rw [List.range_eq_range']
      exact runSeq_ok hC hI (fun ρ σ a w hk hs => hK ρ .normal σ a w hk hs) _ _ 0 _ _ ρ a w h (hs.env (Env.ag_refl _ _) (Nat.le_refl _) _) (by simp)
  | seq x y ix iy =>
    intro K Q hK σ ρ a w h hs
    unfold run at h
    refine wp_seq (ix _ _ (fun ρ' x' σ' a' w' hk hs' => ?_) σ ρ a w (treeSem_bind _ _ h) hs)
    cases x' with
    | normal => exact iy K Q hK σ' ρ' a' w' hk hs'
    | exit id => exact hK ρ' (.exit id) σ' a' w' hk hs'
    | goto l => exact hK ρ' (.goto l) σ' a' w' hk hs'
    | ret => exact hK ρ' .ret σ' a' w' hk hs'
  | cond x t e it ie =>
    intro K Q hK σ ρ a w h hs
    unfold run at h
    split at h
    · rename_i c hx
      exact condT_ok c (fun σ ρ a w h hs => it K Q hK σ ρ a w h hs) (fun σ ρ a w h hs => ie K Q hK σ ρ a w h hs) _ σ ρ a w hx h hs
    · exact h.elim
  | block id c ic =>
    intro K Q hK σ ρ a w h hs
    unfold run at h
    refine wp_block (ic _ _ (fun ρ' x' σ' a' w' hk hs' => ?_) σ ρ a w (treeSem_bind _ _ h) hs)
    cases x' with
    | normal => exact hK ρ' .normal σ' a' w' hk hs'
    | exit id' =>
      simp only [Ex.to, Exit.inBlock] at hk ⊢
      split at hk
      · rename_i e; rw [if_pos e]; exact hK ρ' .normal σ' a' w' hk hs'
      · rename_i e; rw [if_neg e]; exact hK ρ' (.exit id') σ' a' w' hk hs'
    | goto l => exact hK ρ' (.goto l) σ' a' w' hk hs'
    | ret => exact hK ρ' .ret σ' a' w' hk hs'
  | scope c ic =>
    intro K Q hK σ ρ a w h hs
    unfold run at h
    refine wp_scope_straight (ic _ _ (fun ρ' x' σ' a' w' hk hs' => ?_) σ ρ a w (treeSem_bind _ _ h) hs)
    cases x' with
    | normal => exact hK ρ' .normal σ' a' w' hk hs'
    | exit id => exact hK ρ' (.exit id) σ' a' w' hk hs'
    | goto l => exact hk.elim
    | ret => exact hK ρ' .ret σ' a' w' hk hs'
  | loop c ic =>
    intro K Q hK σ ρ a w h hs
    unfold run at h
    split at h
    · exact wp_loop_rounds fuel (iterT_ok hK (fun K' Q' hK' σ ρ a w h hs => ic K' Q' hK' σ ρ a w h hs) fuel σ ρ a w h hs)
    · rename_i r ls hf
      refine preT_ok (X := fun w a => (Code.loop c).wp P Q a w) (fun σ ρ a w h hs => ?_) ls.pre σ ρ a w h hs
      simp only at h
      split at h
      · exact h.elim
      · rename_i B hB
        split at h
        · rename_i hlt
          rw [Bool.and_eq_true, Bool.and_eq_true, decide_eq_true_eq] at hlt
          obtain ⟨hlt, hsub⟩ := hlt
          obtain ⟨⟨ρn, g1, g2, g3⟩, h2, h3, h4⟩ := h
          have hkeep : ∀ b, w0.pin b → ((headSt σ c ls).heap.get b).isSome := fun b hb => by
            obtain ⟨ι, F, h0⟩ := hs.at_
            exact subTr_get hsub b (h0.par b hb).1
          have hs0 := hs.head hB hlt.2 hlt.1 hkeep g1 g2
          refine wp_loop_ghost (fun n a w => ∃ ρ', ρ.ag σ.nv ρ' ∧ LS.inv r σ.nv ρ' ∧ LS.mu r σ.nv ρ' = n ∧ Sim ρ' w0 (headSt σ c ls) a w) _ ⟨ρn, g1, g3, rfl, hs0⟩ ?_
          rintro n a1 w1 ⟨ρ', hr, hinv, rfl, hs1⟩
          have ht := treeSem_from _ _ (bind_from _ h2) (treeSem_bind _ _ (h4 ρ' hr hinv))
          refine ic _ _ (fun ρ2 x σ2 a2 w2 hk hs2 => ?_) _ ρ' a1 w1 ht hs1
          obtain ⟨hk, hag2⟩ := hk
          cases x with
          | normal =>
            simp only at hk
            split at hk
            · exact hk.elim
            · rename_i B' hB'
              split at hk
              · rename_i hlt'
                obtain ⟨ρm, g1', g2', k1, k2⟩ := hk
                have hs3 := hs2.head hB' hlt.2 hlt' hkeep g1' g2'
                refine ⟨_, ?_, ρm, ?_, k1, rfl, hs3⟩
                · rw [h3 ρ' ρ2 hag2] at k2; exact k2
                · exact Env.ag_trans (Env.ag_trans hr (Env.ag_mono hag2 (Nat.le_add_right _ _)) (Nat.le_refl _)) g1' (Nat.le_refl _)
              · exact hk.elim
          | exit id => exact hK ρ2 (.exit id) σ2 a2 w2 hk hs2
          | goto l => exact hK ρ2 (.goto l) σ2 a2 w2 hk hs2
          | ret => exact hK ρ2 .ret σ2 a2 w2 hk hs2
        · exact h.elim
  | exit id => exact fun K Q hK σ ρ a w h hs => wp_exit (hK ρ (.exit id) σ a w h hs)
  | goto l => exact fun K Q hK σ ρ a w h hs => wp_goto (hK ρ (.goto l) σ a w h hs)
  | ret => exact fun K Q hK σ ρ a w h hs => wp_ret (hK ρ .ret σ a w h hs)
  | rangeFunc => exact fun K Q hK σ ρ a w h hs => h.elim
  | refuse => exact fun K Q hK σ ρ a w h hs => h.elim
end

/-- What a function hands back. -/
def resE1 (P : Program) (σ : St) : ResultVar → Option E
  | .tmp t => σ.tmps.get t
  | .cell p ty => match σ.tmps.get p with
    | some (.ptr b o) => match σ.heap.get b with
      | some l => partE P ty l o
      | none => none
    | _ => none
def resEs (P : Program) (σ : St) : List ResultVar → Option (List E)
  | [] => some []
  | r :: l => match resE1 P σ r, resEs P σ l with | some e, some es => some (e :: es) | _, _ => none
def resE (P : Program) (fn : Func) (σ : St) : Option E := match resEs P σ fn.results.toList with
  | some [e] => some e
  | some es => some (.tup es)
  | none => none
section
variable {P : Program} {σ : St} {ρ : Env} {ι : Lay} {a : Act} {w : World}
def resSem (tmps : Array Value) : ResultVar → Sem Value
  | .tmp t => pure (tmps.getD t undef)
  | .cell p t => do loadVar t (← asAddr (tmps.getD p undef))
theorem results_sem (fn : Func) (tmps : Array Value) : results fn tmps = (do let vs ← fn.results.mapM (resSem tmps); pure (if h : vs.size = 1 then vs[0] else .tuple vs)) := by
  unfold results
  congr 1
theorem resE1_run (H : Held σ ρ ι a w) {r : ResultVar} {e : E} (h : resE1 P σ r = some e) :
    (resSem a.tmps r).run P w = .ok (e.val ρ ι) w := by
  cases r with
  | tmp t => simp only [resE1] at h; simp only [resSem, H.tmps t e h, Sem.run_pure]
  | cell p ty =>
    simp only [resE1] at h
    split at h
    · rename_i b o hp
      split at h
      · rename_i l hl
        have h1 := load_run H hl h
        simp only [Instr.loadAt, Instr.sureAddr, Sem.run_bind, Sem.run_pure, Result.andThen_ok] at h1
        simp only [resSem, H.tmps p _ hp, E.val, asAddr, Sem.run_bind, Sem.run_pure, Result.andThen_ok, h1]
      · cases h
    · cases h
theorem resEs_run (H : Held σ ρ ι a w) : ∀ {l : List ResultVar} {es : List E}, resEs P σ l = some es →
    es.length = l.length ∧ ∀ (j : Nat) (r : ResultVar) (v : Value), l[j]? = some r → (E.vals ρ ι es)[j]? = some v → (resSem a.tmps r).run P w = .ok v w
  | [], _, h => by cases h; exact ⟨rfl, fun j r v h => by simp at h⟩
  | r :: l, _, h => by
    unfold resEs at h
    split at h
    · rename_i e es h1 h2
      cases h
      obtain ⟨h3, h4⟩ := resEs_run H h2
      refine ⟨by simp [h3], fun j r' v hr hv => ?_⟩
      cases j with
      | zero => simp [E.vals] at hr hv; subst hr hv; exact resE1_run H h1
      | succ j => exact h4 j r' v (by simpa using hr) (by simpa [E.vals] using hv)
    · cases h
theorem resE_run (H : Held σ ρ ι a w) {fn : Func} {e : E} (h : resE P fn σ = some e) : (results fn a.tmps).run P w = .ok (e.val ρ ι) w := by
  unfold resE at h
  rw [results_sem]
  split at h
  · rename_i e' h1
    cases h
    obtain ⟨h2, h3⟩ := resEs_run H h1
    rw [Sem.run_bind, mapM_run (l := E.vals ρ ι [e]) (by rw [E.vals_length]; simpa using h2) (fun j x y hx hy => h3 j x y (by simpa using hx) hy)]
    rfl
  · rename_i es hne h1
    cases h
    obtain ⟨h2, h3⟩ := resEs_run H h1
    rw [Sem.run_bind, mapM_run (l := E.vals ρ ι es) (by rw [E.vals_length]; simpa using h2) (fun j x y hx hy => h3 j x y (by simpa using hx) hy)]
    simp only [Result.andThen_ok, E.val]
    have : ¬ (E.vals ρ ι es).toArray.size = 1 := by
      simp only [List.size_toArray, E.vals_length]
      intro hl
      match es, hl with
      | [e], _ => exact hne e rfl
    rw [dif_neg this]
    rfl
  · cases h
end
def initTmps : Nat → List E → Tr E → Tr E
  | _, [], t => t
  | n, e :: l, t => initTmps (n + 1) l (t.set n e)
theorem get_initTmps : ∀ (l : List E) (n : Nat) (t : Tr E) (m : Nat), n + l.length ≤ 1099511627776 → (initTmps n l t).get m = if n ≤ m ∧ m < n + l.length then l[m - n]? else t.get m
  | [], n, t, m, _ => by simp [initTmps]; omega
  | e :: l, n, t, m, h => by
    simp only [List.length_cons] at h ⊢
    rw [initTmps, get_initTmps l (n + 1) _ m (by omega), Tr.get_set _ _ _ _ (by omega)]
    by_cases e1 : m = n
    · subst e1
      rw [if_neg (by omega), if_pos rfl, if_pos (by omega)]
      simp
    · rw [if_neg e1]
      by_cases e2 : n + 1 ≤ m ∧ m < n + 1 + l.length
      · rw [if_pos e2, if_pos (by omega), show m - n = (m - (n + 1)) + 1 by omega, List.getElem?_cons_succ]
      · rw [if_neg e2, if_neg (by omega)]
/-- A call's frame, in the caller's blocks. -/
def enterSt (σ : St) (ntmps : Nat) (args : List E) : St := { σ with n := ntmps, tmps := initTmps 0 args .nil }
def retT (P : Program) (fn : Func) (σ : St) (x : Ex) (σc : St) : Tree := match x with
  | .normal => match resE P fn σc with | some e => if decide (σ.nv ≤ σc.nv) && decide (σc.np = σ.np) then .leaf .ret { σc with tmps := .node .nil (some e) .nil } else .fail 30 | none => .fail 31
  | .ret => match resE P fn σc with | some e => if decide (σ.nv ≤ σc.nv) && decide (σc.np = σ.np) then .leaf .ret { σc with tmps := .node .nil (some e) .nil } else .fail 30 | none => .fail 31
  | _ => .fail 32
/-- Calls are gone into, so deep. -/
def inlD (P : Program) (cs : List Con) (LT : List (Nat × LS)) (fuel : Nat) : Nat → FuncId → List E → St → Tree
  | 0, f, _, _ => .fail (100000 + f)
  | d + 1, f, args, σ => match P.funcs[f]? with
    | none => .fail 33
    | some fn => match fn.body with
      | none => .fail 34
      | some c => if args.length ≤ fn.ntmps ∧ fn.ntmps ≤ 1099511627776 then
          let t := run P cs (inlD P cs LT fuel d) LT fuel c (enterSt σ fn.ntmps args)
          if t.from_ σ.nv then t.bind (retT P fn σ) else .fail 35
        else .fail 36
theorem inlD_ok [Kinds] {P : Program} {cs : List Con} {S : List ConS} {LT : List (Nat × LS)} {LQ : LoopS} {fuel : Nat} (hC : Cons P cs S) (hm : P.follows .mixedOrders = true) : ∀ d, InlOk P S LQ (inlD P cs LT fuel d)
  | 0 => fun _ _ _ _ _ _ _ _ _ _ _ h => h.elim
  | d + 1 => by
    intro f args σ ρ w0 a w ι F K hs h
    unfold inlD at h
    split at h
    · exact h.elim
    · rename_i fn hf
      split at h
      · exact h.elim
      · rename_i c hb
        split at h
        · rename_i hsz
          simp only at h
          split at h
          · rename_i hfrom
            have ht := treeSem_from _ _ hfrom (treeSem_bind _ _ h)
            refine calls_of_wp hf hb ?_
            have hsim : Sim ρ ⟨w0.w, ι, fun b => (σ.heap.get b).isSome, Kinds.cnt (ρ.g σ.gh), w0.F⟩ (enterSt σ fn.ntmps args) { tmps := (E.vals ρ ι args).toArray ++ Array.replicate (fn.ntmps - (E.vals ρ ι args).toArray.size) undef, defers := [] } w := by
              refine ⟨ι, F, fun ρ' hr ι' hi => ?_⟩
              obtain ⟨h1, h2⟩ := hs ρ' hr ι' hi
              refine ⟨?_, rfl, fun t e he => ?_, h1.cell, h1.apart, h1.own, fun b hb => ⟨hb, hi.1 b hb⟩, h1.fr, h1.pc, h1.glt, h1.gho, h1.gap, h1.gow, hi.2, by rw [show ρ'.g (enterSt σ fn.ntmps args).gh = ρ.g σ.gh from Env.ag_g hr h1.glt]; exact Nat.le_refl _⟩
              · simp [E.vals_length, enterSt]; omega
              · simp only [enterSt] at he
                rw [get_initTmps _ _ _ _ (by omega)] at he
                split at he
                · rename_i hlt
                  simp only [Nat.sub_zero, Nat.zero_add] at he hlt
                  have h3 : ((E.vals ρ ι args).toArray ++ Array.replicate (fn.ntmps - (E.vals ρ ι args).toArray.size) undef)[t]? = some (e.val ρ' ι') := by
                    rw [Array.getElem?_append_left (by simp [E.vals_length]; omega), ← h2]
                    simp [E.vals_get, he]
                  simp only [Array.getD_eq_getD_getElem?, h3, Option.getD_some]
                · rw [Tr.get_nil] at he; cases he
            refine run_ok hC hm (inlD_ok hC hm d) c _ _ ?_ _ ρ _ w ht hsim
            intro ρ2 x σc a' w' hk hs'
            obtain ⟨hk, hag⟩ := hk
            have hend : (x = .normal ∨ x = .ret) ∧ ∃ e, resE P fn σc = some e ∧ σ.nv ≤ σc.nv ∧ σc.np = σ.np ∧ K ρ2 .ret { σc with tmps := .node .nil (some e) .nil } := by
              unfold retT at hk
              split at hk
              · split at hk
                · rename_i e he
                  split at hk
                  · rename_i hc; simp only [Bool.and_eq_true, decide_eq_true_eq] at hc; exact ⟨.inl rfl, e, he, hc.1, hc.2, hk⟩
                  · exact hk.elim
                · exact hk.elim
              · split at hk
                · rename_i e he
                  split at hk
                  · rename_i hc; simp only [Bool.and_eq_true, decide_eq_true_eq] at hc; exact ⟨.inr rfl, e, he, hc.1, hc.2, hk⟩
                  · exact hk.elim
                · exact hk.elim
              · exact hk.elim
            obtain ⟨hx, e, he, hnv, hnp, hK⟩ := hend
            obtain ⟨ι2, F2, hι2⟩ := hs'
            have h2 := hι2 ρ2 (Env.ag_refl _ _) ι2 (St.agL_refl _ ρ2 ι2)
            have hres := resE_run h2.held he
            have hout0 := (hs ρ (Env.ag_refl _ _) ι (St.agL_refl _ ρ ι)).1
            have hout := hout0.par
            have hpost : a'.defers = [] ∧ ∃ v, (results fn a'.tmps).run P w' = .ok v w' ∧ ∃ ρ2 σc r, K ρ2 .ret σc ∧ σc.tmps.get 0 = some r ∧ ρ.ag σ.nv ρ2 ∧ σ.nv ≤ σc.nv ∧ (∀ b, (σ.heap.get b).isSome → (σc.heap.get b).isSome) ∧ Kinds.cnt (ρ.g σ.gh) ≤ Kinds.cnt (ρ2.g σc.gh) ∧ ∃ ι2 F2, σ.agL ρ ι ι2 ∧
                ∀ ρ', ρ2.ag σc.nv ρ' → ∀ ι', σc.agL ρ2 ι2 ι' → Ending.returned v = .returned (r.val ρ' ι') ∧ HeapAt ρ' ι' F2 w0 σc w' := by
              refine ⟨h2.defers, _, hres, ρ2, _, e, hK, rfl, hag, hnv, fun b hb => (h2.par b hb).1, h2.gcnt, ι2, F2, ⟨fun b hb => (h2.par b hb).2, h2.gpar⟩, fun ρ' hr ι' hi => ?_⟩
              have h3 := hι2 ρ' hr ι' hi
              have hres' := resE_run h3.held he
              rw [hres] at hres'
              injection hres' with hres' _
              refine ⟨by rw [hres'], h3.cell, h3.apart, h3.own, fun b hb => ?_, h3.fr, h3.pc, h3.glt, h3.gho, h3.gap, h3.gow, fun n hn => (h3.gpar n (Nat.lt_of_lt_of_le hn hout0.gcnt)).trans (hout0.gpar n hn), Nat.le_trans hout0.gcnt h3.gcnt⟩
              obtain ⟨q1, q2⟩ := hout b hb
              obtain ⟨q3, q4⟩ := h3.par b q1
              exact ⟨q3, q4.trans q2⟩
            rcases hx with rfl | rfl
            · exact hpost
            · exact hpost
          · exact h.elim
        · exact h.elim
end Sx
end Go.Proofs.Ytaigdbnfhehclaa
