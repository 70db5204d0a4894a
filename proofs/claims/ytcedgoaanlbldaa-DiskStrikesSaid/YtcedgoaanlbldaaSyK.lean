/-
  What is proved: a symbolic run of code tells what the model does with it; no program in sight. Condition: the contracts hold.
-/
import Derived.Test.YtcedgoaanlbldaaSyJ
import Derived.Scope
import Derived.LoopN
import Derived.Deep.LoopGhost
namespace Go.Proofs.Ytcedgoaanlbldaa
namespace Sx
open Go.RowKit

def firstReg : Code → Option Nat
  | .region id _ _ => some id
  | .seq a b => match firstReg a with | some r => some r | none => firstReg b
  | .cond _ a b => match firstReg a with | some r => some r | none => firstReg b
  | .block _ c => firstReg c
  | .loop c => firstReg c
  | .scope c => firstReg c
  | _ => none
def dstsOf : Code → List Tmp
  | .region _ ops _ => ops.toList.filterMap (·.dst)
  | .seq a b => dstsOf a ++ dstsOf b
  | .cond _ a b => dstsOf a ++ dstsOf b
  | .block _ c => dstsOf c
  | .loop c => dstsOf c
  | .scope c => dstsOf c
  | _ => []

/-- The same value, whatever the variables. -/
def beqV : Value → Value → Bool
  | .int k n, .int k' n' => k == k' && n == n'
  | .bool a, .bool b => a == b
  | .string s, .string t => decide (s = t)
  | .pointer none, .pointer none => true
  | .pointer (some a), .pointer (some b) => a == b
  | .nilFunc, .nilFunc => true
  | .nilIface, .nilIface => true
  | .slice none a b, .slice none c d => a == c && b == d
  | .map none, .map none => true
  | .float k a, .float k' b => k == k' && a == b
  | .tuple a, .tuple b => a.size == 0 && b.size == 0
  | _, _ => false
theorem beqV_eq {a b : Value} (h : beqV a b = true) : a = b := by
  unfold beqV at h
  split at h
  all_goals first
    | rfl
    | (cases h; done)
    | (simp only [Bool.and_eq_true, beq_iff_eq] at h; obtain ⟨rfl, rfl⟩ := h; rfl)
    | (simp only [beq_iff_eq] at h; subst h; rfl)
    | (simp only [decide_eq_true_eq] at h; subst h; rfl)
    | (simp only [Bool.and_eq_true, beq_iff_eq] at h
       obtain ⟨h1, h2⟩ := h
       rw [Array.eq_empty_of_size_eq_zero h1, Array.eq_empty_of_size_eq_zero h2])
mutual
def beqE : E → E → Bool
  | .int k t, .int k' t' => k == k' && decide (t = t')
  | .bool c, .bool c' => decide (c = c')
  | .lit v, .lit v' => beqV v v'
  | .var i, .var j => i == j
  | .hnd i, .hnd j => i == j
  | .pla m k o, .pla m' k' o' => decide (m = m') && decide (k = k') && o == o'
  | .ptr b o, .ptr b' o' => b == b' && o == o'
  | .slice b o n c, .slice b' o' n' c' => b == b' && o == o' && n == n' && c == c'
  | .at b o s n t, .at b' o' s' n' t' => b == b' && o == o' && s == s' && n == n' && decide (t = t')
  | .agg l, .agg l' => beqEs l l'
  | .tup l, .tup l' => beqEs l l'
  | .func f l, .func f' l' => decide (f = f') && beqEs l l'
  | .iface t e, .iface t' e' => t == t' && beqE e e'
  | _, _ => false
def beqEs : List E → List E → Bool
  | [], [] => true
  | e :: l, e' :: l' => beqE e e' && beqEs l l'
  | _, _ => false
end
mutual
theorem beqE_eq : ∀ {a b : E}, beqE a b = true → a = b
  | .int k t, .int k' t', h => by simp only [beqE, Bool.and_eq_true, beq_iff_eq, decide_eq_true_eq] at h; obtain ⟨rfl, rfl⟩ := h; rfl
  | .bool c, .bool c', h => by simp only [beqE, decide_eq_true_eq] at h; subst h; rfl
  | .lit v, .lit v', h => by simp only [beqE] at h; rw [beqV_eq h]
  | .var i, .var j, h => by simp only [beqE, beq_iff_eq] at h; subst h; rfl
  | .hnd i, .hnd j, h => by simp only [beqE, beq_iff_eq] at h; subst h; rfl
  | .pla m k o, .pla m' k' o', h => by simp only [beqE, Bool.and_eq_true, beq_iff_eq, decide_eq_true_eq] at h; obtain ⟨⟨rfl, rfl⟩, rfl⟩ := h; rfl
  | .ptr b o, .ptr b' o', h => by simp only [beqE, Bool.and_eq_true, beq_iff_eq] at h; obtain ⟨rfl, rfl⟩ := h; rfl
  | .slice b o n c, .slice b' o' n' c', h => by simp only [beqE, Bool.and_eq_true, beq_iff_eq] at h; obtain ⟨⟨⟨rfl, rfl⟩, rfl⟩, rfl⟩ := h; rfl
  | .at b o s n t, .at b' o' s' n' t', h => by simp only [beqE, Bool.and_eq_true, beq_iff_eq, decide_eq_true_eq] at h; obtain ⟨⟨⟨⟨rfl, rfl⟩, rfl⟩, rfl⟩, rfl⟩ := h; rfl
  | .agg l, .agg l', h => by simp only [beqE] at h; rw [beqEs_eq h]
  | .tup l, .tup l', h => by simp only [beqE] at h; rw [beqEs_eq h]
  | .func f l, .func f' l', h => by simp only [beqE, Bool.and_eq_true, decide_eq_true_eq] at h; rw [h.1, beqEs_eq h.2]
  | .iface t e, .iface t' e', h => by simp only [beqE, Bool.and_eq_true, beq_iff_eq] at h; rw [h.1, beqE_eq h.2]
theorem beqEs_eq : ∀ {a b : List E}, beqEs a b = true → a = b
  | [], [], _ => rfl
  | e :: l, e' :: l', h => by simp only [beqEs, Bool.and_eq_true] at h; rw [beqE_eq h.1, beqEs_eq h.2]
end
mutual
/-- It stays, where variables from n on, and blocks that are not in h, turn. -/
def E.fix (n : Nat) (h : Tr (List E)) : E → Bool
  | .int _ t => t.lt n
  | .bool c => c.lt n
  | .lit _ => true
  | .var i => decide (i < n)
  | .hnd i => decide (i < n)
  | .pla m k _ => m.lt n && k.lt n
  | .ptr b _ => (h.get b).isSome
  | .slice b _ _ _ => (h.get b).isSome
  | .at b _ _ _ t => (h.get b).isSome && t.lt n
  | .agg l => E.fixs n h l
  | .tup l => E.fixs n h l
  | .func _ l => E.fixs n h l
  | .iface _ e => e.fix n h
def E.fixs (n : Nat) (h : Tr (List E)) : List E → Bool
  | [] => true
  | e :: l => e.fix n h && E.fixs n h l
end
mutual
theorem E.val_fix {n : Nat} {h : Tr (List E)} {ρ ρ' : Env} {ι ι' : Lay} (hr : ρ.ag n ρ') (hi : ∀ b, (h.get b).isSome → ι' b = ι b) (hh : ι'.h = ι.h) : ∀ e : E, e.fix n h = true → e.val ρ' ι' = e.val ρ ι
  | .int k t, hf => by simp only [E.fix] at hf; simp only [E.val, T.den_ag hr t hf]
  | .bool c, hf => by simp only [E.fix] at hf; simp only [E.val, C.den_ag hr c hf]
  | .lit _, _ => rfl
  | .var i, hf => by simp only [E.val, (hr i (by simpa [E.fix] using hf)).2.2, hh]
  | .hnd i, hf => by simp only [E.val, (hr i (by simpa [E.fix] using hf)).2.2, hh]
  | .pla m k o, hf => by simp only [E.fix, Bool.and_eq_true] at hf; simp only [E.val, T.den_ag hr m hf.1, T.den_ag hr k hf.2, hh]
  | .ptr b o, hf => by simp only [E.fix] at hf; simp only [E.val, hi b hf]
  | .slice b o _ _, hf => by simp only [E.fix] at hf; simp only [E.val, hi b hf]
  | .at b o s k t, hf => by simp only [E.fix, Bool.and_eq_true] at hf; simp only [E.val, hi b hf.1, T.den_ag hr t hf.2]
  | .agg l, hf => by simp only [E.fix] at hf; simp only [E.val, E.vals_fix hr hi hh l hf]
  | .tup l, hf => by simp only [E.fix] at hf; simp only [E.val, E.vals_fix hr hi hh l hf]
  | .func _ l, hf => by simp only [E.fix] at hf; simp only [E.val, E.vals_fix hr hi hh l hf]
  | .iface _ e, hf => by simp only [E.fix] at hf; simp only [E.val, E.val_fix hr hi hh e hf]
theorem E.vals_fix {n : Nat} {h : Tr (List E)} {ρ ρ' : Env} {ι ι' : Lay} (hr : ρ.ag n ρ') (hi : ∀ b, (h.get b).isSome → ι' b = ι b) (hh : ι'.h = ι.h) : ∀ l : List E, E.fixs n h l = true → E.vals ρ' ι' l = E.vals ρ ι l
  | [], _ => rfl
  | e :: l, hf => by simp only [E.fixs, Bool.and_eq_true] at hf; simp only [E.vals, E.val_fix hr hi hh e hf.1, E.vals_fix hr hi hh l hf.2]
end

/-- No tuple. -/
def E.whole : E → Bool
  | .lit (.tuple _) => false
  | e => e.argOk
theorem noTup_eq {v : Value} (h : ∀ cs, v ≠ .tuple cs) : noTup v = v := by
  unfold noTup; split
  · rename_i cs; exact absurd rfl (h cs)
  · rfl
theorem noTup_noTup (v : Value) : noTup (noTup v) = noTup v := by
  unfold noTup
  cases v <;> rfl
theorem E.whole_val (ρ : Env) {e : E} (h : e.whole = true) : noTup (e.nam ρ lay0) = e.nam ρ lay0 := by
  unfold E.whole at h
  split at h
  · cases h
  · rename_i hno
    cases e <;> simp only [E.argOk, E.cellOk] at h <;> first | (cases h; done) | rfl | skip
    · exact noTup_eq fun cs e => by simp only [E.nam] at e; subst e; exact hno _ rfl
    · simp only [E.nam, noTup_noTup]
    · refine noTup_eq fun cs e => ?_
      have := oneOf_one (ρ.v ‹_›)
      simp only [E.nam] at e
      rw [e] at this
      cases this
theorem E.whole_arg {e : E} (h : e.whole = true) : e.argOk = true := by
  unfold E.whole at h
  split at h
  · cases h
  · exact h
/-- A state's value against a round's head's: what the variables from n on stand for. -/
def match1 (n : Nat) (h : Tr (List E)) (x y : E) : Option (List (Nat × E)) :=
  match x, y with
  | .int k (.var i), .int k' t => if n ≤ i then (if k = k' then some [(i, .int k' t)] else none) else if x.fix n h && beqE x y then some [] else none
  | .bool (.var i), .bool c => if n ≤ i then some [(i, .bool c)] else if x.fix n h && beqE x y then some [] else none
  | .var i, e => if n ≤ i then (match e with | .int _ _ => none | .bool _ => none | e => if e.whole then some [(i, e)] else none) else if x.fix n h && beqE x y then some [] else none
  | .hnd i, e => if n ≤ i then (match e with | .int _ _ => none | .bool _ => none | e => if e.cellOk && e.one then some [(i, e)] else none) else if x.fix n h && beqE x y then some [] else none
  | x, y => if x.fix n h && beqE x y then some [] else none
def matchL (n : Nat) (h : Tr (List E)) : List E → List E → Option (List (Nat × E))
  | [], [] => some []
  | x :: l, y :: r => match match1 n h x y, matchL n h l r with | some a, some b => some (a ++ b) | _, _ => none
  | _, _ => none
def matchE (n : Nat) (h : Tr (List E)) (x y : E) : Option (List (Nat × E)) := match x, y with
  | .agg l, .agg r => matchL n h l r
  | x, y => match1 n h x y
def matchTr {α : Type} (m : α → α → Option (List (Nat × E))) : Tr α → Tr α → Option (List (Nat × E))
  | .nil, _ => some []
  | .node l v r, .nil => match v, matchTr m l .nil, matchTr m r .nil with
    | none, some a, some b => some (a ++ b)
    | _, _, _ => none
  | .node l v r, .node l' v' r' => match v, v', matchTr m l l', matchTr m r r' with
    | none, _, some a, some b => some (a ++ b)
    | some x, some y, some a, some b => match m x y with | some c => some (c ++ (a ++ b)) | none => none
    | _, _, _, _ => none
theorem matchTr_get {α : Type} {m : α → α → Option (List (Nat × E))} : ∀ {t t' : Tr α} {B : List (Nat × E)}, matchTr m t t' = some B → ∀ (n : Nat) (x : α), t.get n = some x → ∃ y A, t'.get n = some y ∧ m x y = some A ∧ ∀ p ∈ A, p ∈ B
  | .nil, _, _, _, n, x, hx => by rw [Tr.get_nil] at hx; cases hx
  | .node l v r, .nil, B, h, n, x, hx => by
    unfold matchTr at h
    split at h
    · rename_i a b h1 h2
      cases n with
      | zero => simp [Tr.get] at hx
      | succ n =>
        simp only [Tr.get] at hx
        split at hx
        · obtain ⟨y, A, h3, _⟩ := matchTr_get h1 _ x hx; rw [Tr.get_nil] at h3; cases h3
        · obtain ⟨y, A, h3, _⟩ := matchTr_get h2 _ x hx; rw [Tr.get_nil] at h3; cases h3
    · cases h
  | .node l v r, .node l' v' r', B, h, n, x, hx => by
    unfold matchTr at h
    split at h
    · rename_i a b h1 h2
      cases h
      cases n with
      | zero => simp [Tr.get] at hx
      | succ n =>
        simp only [Tr.get] at hx ⊢
        split at hx
        · rename_i e
          obtain ⟨y, A, h3, h4, h5⟩ := matchTr_get h1 _ x hx
          exact ⟨y, A, by simpa [e] using h3, h4, fun p hp => List.mem_append_left _ (h5 p hp)⟩
        · rename_i e
          obtain ⟨y, A, h3, h4, h5⟩ := matchTr_get h2 _ x hx
          exact ⟨y, A, by simpa [e] using h3, h4, fun p hp => List.mem_append_right _ (h5 p hp)⟩
    · rename_i x0 y0 a b h1 h2
      split at h
      · rename_i c hc
        cases h
        cases n with
        | zero =>
          simp only [Tr.get, Option.some.injEq] at hx
          subst hx
          exact ⟨y0, c, rfl, hc, fun p hp => List.mem_append_left _ hp⟩
        | succ n =>
          simp only [Tr.get] at hx ⊢
          split at hx
          · rename_i e
            obtain ⟨y, A, h3, h4, h5⟩ := matchTr_get h1 _ x hx
            exact ⟨y, A, by simpa [e] using h3, h4, fun p hp => List.mem_append_right _ (List.mem_append_left _ (h5 p hp))⟩
          · rename_i e
            obtain ⟨y, A, h3, h4, h5⟩ := matchTr_get h2 _ x hx
            exact ⟨y, A, by simpa [e] using h3, h4, fun p hp => List.mem_append_right _ (List.mem_append_right _ (h5 p hp))⟩
      · cases h
    · cases h

def subTr {α β : Type} : Tr α → Tr β → Bool
  | .nil, _ => true
  | .node l v r, .nil => v.isNone && subTr l (.nil : Tr β) && subTr r (.nil : Tr β)
  | .node l v r, .node l' v' r' => (v.isNone || v'.isSome) && subTr l l' && subTr r r'
theorem subTr_get {α β : Type} : ∀ {t : Tr α} {s : Tr β}, subTr t s = true → ∀ k, (t.get k).isSome → (s.get k).isSome
  | .nil, _, _, k, hk => by rw [Tr.get_nil] at hk; cases hk
  | .node l v r, .nil, h, k, hk => by
    simp only [subTr, Bool.and_eq_true] at h
    cases k with
    | zero => simp only [Tr.get] at hk; rw [Option.isNone_iff_eq_none] at h; rw [h.1.1] at hk; cases hk
    | succ k =>
      simp only [Tr.get] at hk
      split at hk
      · have := subTr_get h.1.2 _ hk; rw [Tr.get_nil] at this; cases this
      · have := subTr_get h.2 _ hk; rw [Tr.get_nil] at this; cases this
  | .node l v r, .node l' v' r', h, k, hk => by
    simp only [subTr, Bool.and_eq_true, Bool.or_eq_true] at h
    cases k with
    | zero =>
      simp only [Tr.get] at hk ⊢
      rcases h.1.1 with h1 | h1
      · rw [Option.isNone_iff_eq_none] at h1; rw [h1] at hk; cases hk
      · exact h1
    | succ k =>
      simp only [Tr.get] at hk ⊢
      split at hk
      · rename_i e; rw [if_pos e]; exact subTr_get h.1.2 _ hk
      · rename_i e; rw [if_neg e]; exact subTr_get h.2 _ hk
def matchSt (n : Nat) (σL σ : St) : Option (List (Nat × E)) :=
  if σ.n = σL.n ∧ σ.np = σL.np ∧ (σL.pc.all fun p => p.1.lt n && σ.pc.contains p) ∧ ((List.range σL.np).all fun k => !(σ.wr.get k).isSome || ((σL.wr.get k).isSome && (σL.heap.get k).isSome)) then
    match matchTr (matchE n σL.heap) σL.tmps σ.tmps, matchTr (matchL n σL.heap) σL.heap σ.heap, (if σL.gh < n then (if σL.gh = σ.gh then some [] else none) else some [(σL.gh, .var σ.gh)]) with
    | some a, some b, some c => some (a ++ b ++ c)
    | _, _, _ => none
  else none

theorem bound_get {ρ ρ' : Env} {B : List (Nat × E)} (h : Bound ρ ρ' B) : ∀ p ∈ B, bval ρ' p.1 p.2 = p.2.nam ρ lay0 := fun p hp => List.map_inj_left.1 h p hp

section
variable {P : Program} {cs : List Con} {S : List ConS} {LT : List (Nat × Nat)} {ρ ρ' : Env} {ι ι' : Lay} {w0 : Base} {σ σ' σL : St} {a : Act} {w w' : World}

theorem match1_val {n : Nat} {h : Tr (List E)} {B A : List (Nat × E)} {x y : E} (hm : match1 n h x y = some A) (hA : ∀ p ∈ A, p ∈ B) {ρn : Env} (hag : ρ.ag n ρn) (hbd : Bound ρ ρn B) {m : Nat} (hlt : ∀ p ∈ B, p.1 < m) {ρ3 : Env} (h3 : ρn.ag m ρ3) (hnm : n ≤ m)
    (hi : ∀ b, (h.get b).isSome → ι' b = ι b) (hh : ι'.h = ι.h) : x.val ρ3 ι' = y.val ρ ι := by
  have hfix : (if x.fix n h && beqE x y then some ([] : List (Nat × E)) else none) = some A → x.val ρ3 ι' = y.val ρ ι := fun hf => by
    split at hf
    · rename_i hc
      rw [Bool.and_eq_true] at hc
      rw [← beqE_eq hc.2]
      exact E.val_fix (Env.ag_trans hag h3 hnm) hi hh x hc.1
    · cases hf
  unfold match1 at hm
  split at hm
  · split at hm
    · split at hm
      · rename_i k i k' t hle hk
        cases hm
        subst hk
        have hmem := hA _ (List.mem_singleton.2 rfl)
        have h1 := bound_get hbd _ hmem
        simp only [bval, E.nam] at h1
        simp only [E.val, T.den, (h3 i (hlt _ hmem)).1, h1]
      · cases hm
    · exact hfix hm
  · split at hm
    · rename_i i c hle
      cases hm
      have hmem := hA _ (List.mem_singleton.2 rfl)
      have h1 := bound_get hbd _ hmem
      simp only [bval, E.nam] at h1
      simp only [E.val, C.den, (h3 i (hlt _ hmem)).2.1, h1]
    · exact hfix hm
  · split at hm
    · rename_i i hle
      split at hm
      · cases hm
      · cases hm
      · rename_i e hne1 hne2
        split at hm
        · rename_i hnp
          cases hm
          have hmem := hA _ (List.mem_singleton.2 rfl)
          have h1 := bound_get hbd _ hmem
          have h2 : bval ρn i y = ρn.v i := by
            unfold bval
            split
            · exact absurd rfl (hne1 _ _)
            · exact absurd rfl (hne2 _)
            · rfl
          simp only [h2] at h1
          simp only [E.val, (h3 i (hlt _ hmem)).2.2, h1, E.whole_val ρ hnp, hh]
          exact (E.arg_conc ρ ι (fun _ => (0, 0)) (E.whole_arg hnp)).symm
        · cases hm
    · exact hfix hm
  · split at hm
    · rename_i i hle
      split at hm
      · cases hm
      · cases hm
      · rename_i e hne1 hne2
        split at hm
        · rename_i hnp
          rw [Bool.and_eq_true] at hnp
          cases hm
          have hmem := hA _ (List.mem_singleton.2 rfl)
          have h1 := bound_get hbd _ hmem
          have h2 : bval ρn i y = ρn.v i := by
            unfold bval
            split
            · exact absurd rfl (hne1 _ _)
            · exact absurd rfl (hne2 _)
            · rfl
          simp only [h2] at h1
          simp only [E.val, (h3 i (hlt _ hmem)).2.2, h1, oneOf_eq (E.one_nam hnp.2), hh]
          exact (E.cell_conc ρ ι (fun _ => (0, 0)) hnp.1).symm
        · cases hm
    · exact hfix hm
  · exact hfix hm
theorem matchL_val {n : Nat} {h : Tr (List E)} {B : List (Nat × E)} {ρn : Env} (hag : ρ.ag n ρn) (hbd : Bound ρ ρn B) {m : Nat} (hlt : ∀ p ∈ B, p.1 < m) {ρ3 : Env} (h3 : ρn.ag m ρ3) (hnm : n ≤ m)
    (hi : ∀ b, (h.get b).isSome → ι' b = ι b) (hh : ι'.h = ι.h) : ∀ {l r : List E} {A : List (Nat × E)}, matchL n h l r = some A → (∀ p ∈ A, p ∈ B) → E.vals ρ3 ι' l = E.vals ρ ι r
  | [], [], _, _, _ => rfl
  | x :: l, y :: r, _, hm, hA => by
    unfold matchL at hm
    split at hm
    · rename_i a b h1 h2
      cases hm
      simp only [E.vals]
      rw [match1_val h1 (fun p hp => hA p (List.mem_append_left _ hp)) hag hbd hlt h3 hnm hi hh, matchL_val hag hbd hlt h3 hnm hi hh h2 (fun p hp => hA p (List.mem_append_right _ hp))]
    · cases hm
theorem matchL_length {n : Nat} {h : Tr (List E)} : ∀ {l r : List E} {A : List (Nat × E)}, matchL n h l r = some A → l.length = r.length
  | [], [], _, _ => rfl
  | x :: l, y :: r, _, hm => by
    unfold matchL at hm
    split at hm
    · rename_i h2
      simp only [List.length_cons, matchL_length h2]
    · cases hm
theorem matchE_val {n : Nat} {h : Tr (List E)} {B A : List (Nat × E)} {x y : E} (hm : matchE n h x y = some A) (hA : ∀ p ∈ A, p ∈ B) {ρn : Env} (hag : ρ.ag n ρn) (hbd : Bound ρ ρn B) {m : Nat} (hlt : ∀ p ∈ B, p.1 < m) {ρ3 : Env} (h3 : ρn.ag m ρ3) (hnm : n ≤ m)
    (hi : ∀ b, (h.get b).isSome → ι' b = ι b) (hh : ι'.h = ι.h) : x.val ρ3 ι' = y.val ρ ι := by
  unfold matchE at hm
  split at hm
  · simp only [E.val, matchL_val hag hbd hlt h3 hnm hi hh hm hA]
  · exact match1_val hm hA hag hbd hlt h3 hnm hi hh

/-- A state is a round's head, with the variables bound anew. -/
theorem Sim.head [Kinds] (h : Sim ρ w0 σ a w) {n : Nat} {B : List (Nat × E)} (hm : matchSt n σL σ = some B) (hn : n ≤ σL.nv) (hlt : B.all (fun p => decide (p.1 < σL.nv)) = true) (hkeep : ∀ b, w0.pin b → (σL.heap.get b).isSome) {ρn : Env} (hag : ρ.ag n ρn) (hbd : Bound ρ ρn B) : Sim ρn w0 σL a w := by
  unfold matchSt at hm
  split at hm
  · rename_i hc
    obtain ⟨c1, c2, c3, c4⟩ := hc
    split at hm
    · rename_i A1 A2 A3 m1 m2 m3
      cases hm
      have hlt' : ∀ p ∈ A1 ++ A2 ++ A3, p.1 < σL.nv := fun p hp => by simpa using List.all_eq_true.1 hlt p hp
      have hgl := h.glt
      obtain ⟨ι0, F, hι⟩ := h
      have hgh : σL.gh < σL.nv ∧ ρn.g σL.gh = ρ.g σ.gh := by
        split at m3
        · rename_i hg1
          split at m3
          · rename_i hg2
            exact ⟨by omega, by rw [← hg2]; exact Env.ag_g hag hg1⟩
          · cases m3
        · cases m3
          have hmem : (σL.gh, E.var σ.gh) ∈ A1 ++ A2 ++ [(σL.gh, E.var σ.gh)] := List.mem_append_right _ (List.mem_singleton.2 rfl)
          have h1 := bound_get hbd _ hmem
          simp only [bval, E.nam] at h1
          exact ⟨hlt' _ hmem, by unfold Env.g; rw [h1, noTup_noTup]⟩
      refine ⟨ι0, F, fun ρ3 hr ι' hi => ?_⟩
      obtain ⟨hi, hih⟩ := hi
      rw [hgh.2] at hih
      have h0 := hι ρ (Env.ag_refl _ _) ⟨ι0.p, ι'.h⟩ ⟨fun _ _ => rfl, hih⟩
      have hgh3 : ρ3.g σL.gh = ρ.g σ.gh := by rw [Env.ag_g hr hgh.1, hgh.2]
      generalize hιe : (⟨ι0.p, ι'.h⟩ : Lay) = ι at h0
      have hh : ι'.h = ι.h := by rw [← hιe]
      have hi : ∀ b, (σL.heap.get b).isSome → ι' b = ι b := fun b hb => by rw [← hιe]; exact hi b hb
      have hblk : ∀ b l, σL.heap.get b = some l → ∃ l', σ.heap.get b = some l' ∧ l.length = l'.length ∧ E.vals ρ3 ι' l = E.vals ρ ι l' ∧ ι' b = ι b := fun b l hb => by
        obtain ⟨l', A, q1, q2, q3⟩ := matchTr_get m2 b l hb
        exact ⟨l', q1, matchL_length q2, matchL_val hag hbd hlt' hr hn hi hh q2 (fun p hp => List.mem_append_left _ (List.mem_append_right _ (q3 p hp))), hi b (by rw [hb]; rfl)⟩
      refine ⟨by rw [h0.n, c1], h0.defers, fun t e he => ?_, fun b l hb j c hj => ?_, fun b b' l l' hb hb' hne he j j' hj hj' => ?_, fun b l hb hnp => ?_, fun b hb => ?_, ?_, fun p hp => ?_, hgh.1, by rw [hgh3, hh]; exact h0.gho, fun b l hb j hj => ?_, h0.gow, by rw [hh]; exact h0.gpar, by rw [hgh3]; exact h0.gcnt⟩
      · obtain ⟨y, A, q1, q2, q3⟩ := matchTr_get m1 t e he
        rw [h0.tmps t y q1]
        exact (matchE_val q2 (fun p hp => List.mem_append_left _ (List.mem_append_left _ (q3 p hp))) hag hbd hlt' hr hn hi hh).symm
      · obtain ⟨l', q1, q2, q3, q4⟩ := hblk b l hb
        have hj' : j < l'.length := by rw [← q2]; exact (List.getElem?_eq_some_iff.1 hj).1
        have q5 := congrArg (fun x => x[j]?) q3
        simp only [E.vals_get, hj, List.getElem?_eq_getElem hj', Option.map_some, Option.some.injEq] at q5
        rw [q4, q5]
        exact h0.cell b l' q1 j _ (List.getElem?_eq_getElem hj')
      · obtain ⟨l1, q1, q2, _, q4⟩ := hblk b l hb
        obtain ⟨l2, r1, r2, _, r4⟩ := hblk b' l' hb'
        rw [q4, r4] at he ⊢
        exact h0.apart b b' l1 l2 q1 r1 hne he j j' (by omega) (by omega)
      · obtain ⟨l1, q1, q2, _, q4⟩ := hblk b l hb
        rw [q4]
        exact h0.own b l1 q1 (by rw [c2]; exact hnp)
      · have hb2 := hkeep b hb
        obtain ⟨l, hl⟩ := Option.isSome_iff_exists.1 hb2
        obtain ⟨l1, q1, q2, _, q4⟩ := hblk b l hl
        exact ⟨hb2, by rw [q4]; exact (h0.par b hb).2⟩
      · refine h0.fr.mono fun i x _ hx => ?_
        rcases hx with hx | hx
        rotate_left
        · exact .inr hx
        refine .inl ?_
        obtain ⟨b, l, x1, x2, x3, x4, x5, x6⟩ := hx
        rw [c2] at x2
        have hb := List.all_eq_true.1 c4 b (List.mem_range.2 x2)
        simp only [x1, Bool.not_true, Bool.false_or, Bool.and_eq_true] at hb
        obtain ⟨hb1, hb2⟩ := hb
        obtain ⟨l1, hl1⟩ := Option.isSome_iff_exists.1 hb2
        obtain ⟨l', q1, q2, _, q4⟩ := hblk b l1 hl1
        rw [x3] at q1
        cases q1
        exact ⟨b, l1, hb1, x2, hl1, by rw [q4]; exact x4, by rw [q4]; exact x5, by rw [q4]; omega⟩
      · have hp' := List.all_eq_true.1 c3 p hp
        rw [Bool.and_eq_true] at hp'
        obtain ⟨p1, p2⟩ := hp'
        rw [C.den_ag (Env.ag_trans hag hr hn) p.1 p1]
        exact h0.pc p (by simpa using p2)
      · obtain ⟨l1, q1, q2, _, q4⟩ := hblk b l hb
        rw [q4]
        exact h0.gap b l1 q1 j (by omega)
    · cases hm
  · cases hm
end
end Sx
end Go.Proofs.Ytcedgoaanlbldaa
