/-
  What is proved: a contract out of a symbolic run of a function; no program in sight. Condition: the contracts of what it calls hold.
-/
import Derived.Test.YtigpdnbcjmcfoaaSxL
namespace Go.Proofs.Ytigpdnbcjmcfoaa
namespace Sx
open Go.RowKit

def T.shift (b : Nat) : T → T
  | .lit n => .lit n
  | .var i => .var (b + i)
  | .bin o k x y => .bin o k (x.shift b) (y.shift b)
  | .wrap k x => .wrap k (x.shift b)
  | .mn x y => .mn (x.shift b) (y.shift b)
  | .mx x y => .mx (x.shift b) (y.shift b)
  | .sel l t => .sel l (t.shift b)
  | .add2 hi x y => .add2 hi (x.shift b) (y.shift b)
def C.shift (b : Nat) : C → C
  | .lit n => .lit n
  | .var i => .var (b + i)
  | .cmp o x y => .cmp o (x.shift b) (y.shift b)
  | .not c => .not (c.shift b)
  | .ite c x y => .ite (c.shift b) (x.shift b) (y.shift b)
  | .iff x y => .iff (x.shift b) (y.shift b)
  | .and x y => .and (x.shift b) (y.shift b)
mutual
def E.shift (b : Nat) : E → E
  | .int k t => .int k (t.shift b)
  | .bool c => .bool (c.shift b)
  | .lit v => .lit v
  | .var i => .var (b + i)
  | .ptr k o => .ptr k o
  | .slice k o n c => .slice k o n c
  | .at k o s n t => .at k o s n (t.shift b)
  | .agg l => .agg (E.shifts b l)
  | .tup l => .tup (E.shifts b l)
  | .func f l => .func f (E.shifts b l)
  | .iface t e => .iface t (e.shift b)
def E.shifts (b : Nat) : List E → List E
  | [] => []
  | e :: l => e.shift b :: E.shifts b l
end
theorem T.shift_den {ρ s : Env} {b : Nat} (h : ρ.At b s) : ∀ t : T, t.lt stride = true → (t.shift b).den ρ = t.den s
  | .lit n, _ => rfl
  | .var i, hl => (h i (by simpa [T.lt] using hl)).1
  | .bin o k x y, hl => by simp only [T.lt, Bool.and_eq_true] at hl; simp only [T.shift, T.den, T.shift_den h x hl.1, T.shift_den h y hl.2]
  | .wrap k x, hl => by simp only [T.lt] at hl; simp only [T.shift, T.den, T.shift_den h x hl]
  | .mn x y, hl => by simp only [T.lt, Bool.and_eq_true] at hl; simp only [T.shift, T.den, T.shift_den h x hl.1, T.shift_den h y hl.2]
  | .mx x y, hl => by simp only [T.lt, Bool.and_eq_true] at hl; simp only [T.shift, T.den, T.shift_den h x hl.1, T.shift_den h y hl.2]
  | .sel l t, hl => by simp only [T.lt] at hl; simp only [T.shift, T.den, T.shift_den h t hl]
  | .add2 _ x y, hl => by simp only [T.lt, Bool.and_eq_true] at hl; simp only [T.shift, T.den, T.shift_den h x hl.1, T.shift_den h y hl.2]
theorem C.shift_den {ρ s : Env} {b : Nat} (h : ρ.At b s) : ∀ c : C, c.lt stride = true → (c.shift b).den ρ = c.den s
  | .lit n, _ => rfl
  | .var i, hl => (h i (by simpa [C.lt] using hl)).2.1
  | .cmp o x y, hl => by simp only [C.lt, Bool.and_eq_true] at hl; simp only [C.shift, C.den, T.shift_den h x hl.1, T.shift_den h y hl.2]
  | .not c, hl => by simp only [C.lt] at hl; simp only [C.shift, C.den, C.shift_den h c hl]
  | .ite c x y, hl => by simp only [C.lt, Bool.and_eq_true] at hl; simp only [C.shift, C.den, C.shift_den h c hl.1.1, C.shift_den h x hl.1.2, C.shift_den h y hl.2]
  | .iff x y, hl => by simp only [C.lt, Bool.and_eq_true] at hl; simp only [C.shift, C.den, C.shift_den h x hl.1, C.shift_den h y hl.2]
  | .and x y, hl => by simp only [C.lt, Bool.and_eq_true] at hl; simp only [C.shift, C.den, C.shift_den h x hl.1, C.shift_den h y hl.2]
mutual
theorem E.shift_val {ρ s : Env} {b : Nat} (h : ρ.At b s) (ι ι' : Lay) : ∀ e : E, e.lt stride = true → e.noPtr = true → (e.shift b).val ρ ι = e.val s ι'
  | .int k t, hl, _ => by simp only [E.lt] at hl; simp only [E.shift, E.val, T.shift_den h t hl]
  | .bool c, hl, _ => by simp only [E.lt] at hl; simp only [E.shift, E.val, C.shift_den h c hl]
  | .lit v, _, _ => rfl
  | .var i, hl, _ => (h i (by simpa [E.lt] using hl)).2.2
  | .ptr k o, _, hp => by simp [E.noPtr] at hp
  | .slice _ _ _ _, _, hp => by simp [E.noPtr] at hp
  | .at _ _ _ _ _, _, hp => by simp [E.noPtr] at hp
  | .agg l, hl, hp => by simp only [E.lt] at hl; simp only [E.noPtr] at hp; simp only [E.shift, E.val, E.shifts_val h ι ι' l hl hp]
  | .tup l, hl, hp => by simp only [E.lt] at hl; simp only [E.noPtr] at hp; simp only [E.shift, E.val, E.shifts_val h ι ι' l hl hp]
  | .func f l, hl, hp => by simp only [E.lt] at hl; simp only [E.noPtr] at hp; simp only [E.shift, E.val, E.shifts_val h ι ι' l hl hp]
  | .iface t e, hl, hp => by simp only [E.lt] at hl; simp only [E.noPtr] at hp; simp only [E.shift, E.val, E.shift_val h ι ι' e hl hp]
theorem E.shifts_val {ρ s : Env} {b : Nat} (h : ρ.At b s) (ι ι' : Lay) : ∀ l : List E, E.lts stride l = true → E.noPtrs l = true → E.vals ρ ι (E.shifts b l) = E.vals s ι' l
  | [], _, _ => rfl
  | e :: l, hl, hp => by simp only [E.lts, Bool.and_eq_true] at hl; simp only [E.noPtrs, Bool.and_eq_true] at hp; simp only [E.shifts, E.vals, E.shift_val h ι ι' e hl.1 hp.1, E.shifts_val h ι ι' l hl.2 hp.2]
end
theorem E.shifts_length (b : Nat) : ∀ l : List E, (E.shifts b l).length = l.length
  | [] => rfl
  | e :: l => by simp only [E.shifts, List.length_cons, E.shifts_length b l]

def initHeap : Nat → List (List E) → Tr (List E) → Tr (List E)
  | _, [], t => t
  | n, e :: l, t => initHeap (n + 1) l (t.set n e)
def initSt (ntmps nv : Nat) (args : List E) (blks : List (List E)) : St :=
  { n := ntmps, tmps := initTmps 0 args .nil, heap := initHeap 0 blks .nil, np := blks.length, wr := .nil, nv := nv, nk := blks.length, pc := [] }
theorem get_initHeap : ∀ (l : List (List E)) (n : Nat) (t : Tr (List E)) (m : Nat), n + l.length ≤ 1099511627776 → (initHeap n l t).get m = if n ≤ m ∧ m < n + l.length then l[m - n]? else t.get m
  | [], n, t, m, _ => by simp [initHeap]; omega
  | e :: l, n, t, m, h => by
    simp only [List.length_cons] at h ⊢
    rw [initHeap, get_initHeap l (n + 1) _ m (by omega), Tr.get_set _ _ _ _ (by omega)]
    by_cases e1 : m = n
    · subst e1
      rw [if_neg (by omega), if_pos rfl, if_pos (by omega)]
      simp
    · rw [if_neg e1]
      by_cases e2 : n + 1 ≤ m ∧ m < n + 1 + l.length
      · rw [if_pos e2, if_pos (by omega), show m - n = (m - (n + 1)) + 1 by omega, List.getElem?_cons_succ]
      · rw [if_neg e2, if_neg (by omega)]

theorem init_sim {ρ : Env} {ι : Lay} {w : World} {ntmps nv : Nat} {args : List E} {blks : List (List E)} (hn : args.length ≤ ntmps) (hb : ntmps ≤ 1099511627776) (hbl : blks.length ≤ 1099511627776)
    (ha : E.fixs nv (initHeap 0 blks .nil) args = true) (hbs : ∀ l ∈ blks, E.fixs nv (initHeap 0 blks .nil) l = true)
    (hc : ∀ k l, blks[k]? = some l → ∀ (j : Nat) (c : E), l[j]? = some c → w.cell? ⟨(ι k).1, (ι k).2 + j, none⟩ = some (c.val ρ ι) ∧ w.frozen? ⟨(ι k).1, (ι k).2 + j, none⟩ = false)
    (hap : ∀ k k' l l', blks[k]? = some l → blks[k']? = some l' → k ≠ k' → (ι k).1 = (ι k').1 → ∀ j j', j < l.length → j' < l'.length → (ι k).2 + j ≠ (ι k').2 + j') :
    Sim ρ ⟨w, ι, fun b => b < blks.length⟩ (initSt ntmps nv args blks) { tmps := (E.vals ρ ι args).toArray ++ Array.replicate (ntmps - args.length) undef, defers := [] } w := by
  have hget : ∀ b, (initHeap 0 blks .nil).get b = blks[b]? := fun b => by
    rw [get_initHeap _ _ _ _ (by omega)]
    split
    · simp
    · rw [Tr.get_nil, List.getElem?_eq_none (by omega)]
  refine ⟨ι, fun ρ' hr ι' hi => ?_⟩
  have hi' : ∀ b, ((initHeap 0 blks .nil).get b).isSome → ι' b = ι b := hi
  refine ⟨?_, rfl, fun t e he => ?_, fun b l hl j c hj => ?_, fun b b' l l' hl hl' hne he j j' hj hj' => ?_, fun b l hl hnp => ?_, fun b hb => (by have hb' : ((initHeap 0 blks .nil).get b).isSome := (by rw [hget, List.getElem?_eq_getElem hb]; rfl); exact ⟨hb', hi b hb'⟩), Fr.refl _ _, fun p hp => by cases hp⟩
  · simp [E.vals_length, initSt]; omega
  · simp only [initSt] at he
    rw [get_initTmps _ _ _ _ (by omega)] at he
    split at he
    · rename_i hlt
      simp only [Nat.sub_zero, Nat.zero_add] at he hlt
      have h1 : ((E.vals ρ ι args).toArray ++ Array.replicate (ntmps - args.length) undef)[t]? = some (e.val ρ ι) := by
        rw [Array.getElem?_append_left (by simp [E.vals_length]; omega)]
        simp [E.vals_get, he]
      simp only [Array.getD_eq_getD_getElem?, h1, Option.getD_some]
      have h2 := E.vals_fix (h := initHeap 0 blks .nil) hr hi' args ha
      have h3 := congrArg (fun x => x[t]?) h2
      simp only [E.vals_get, he, Option.map_some, Option.some.injEq] at h3
      exact h3.symm
    · rw [Tr.get_nil] at he; cases he
  · have hl2 := hl
    simp only [initSt, hget] at hl2
    have h1 := hc b l hl2 j c hj
    have h2 := E.vals_fix (h := initHeap 0 blks .nil) hr hi' l (hbs l (List.mem_of_getElem? hl2))
    have h3 := congrArg (fun x => x[j]?) h2
    simp only [E.vals_get, hj, Option.map_some, Option.some.injEq] at h3
    rw [h3, hi b (by rw [hl]; rfl)]
    exact h1
  · have hl2 := hl
    have hl2' := hl'
    simp only [initSt, hget] at hl2 hl2'
    rw [hi b (by rw [hl]; rfl), hi b' (by rw [hl']; rfl)] at he ⊢
    exact hap b b' l l' hl2 hl2' hne he j j' hj hj'
  · simp only [initSt, hget] at hl
    have := (List.getElem?_eq_some_iff.1 hl).1
    simp only [initSt] at hnp
    omega

/-- Parameters that are places are numbered; what lies there is a block. -/
def mkArgs : Nat → List Ptr → List E → List E
  | _, [], l => l
  | k, p :: r, l => (mkArgs (k + 1) r l).set p.1 (.ptr k 0)
def mkBlks (av : List E) : List Ptr → Option (List (List E))
  | [] => some []
  | p :: r => match av[p.1]?, mkBlks av r with
    | some (.agg l), some b => if l.length = p.2.1 then some (l :: b) else none
    | _, _ => none
theorem mkArgs_set (x : E) : ∀ (r : List Ptr) (k : Nat) (l : List E) (pos : Nat), (∀ p ∈ r, p.1 ≠ pos) → mkArgs k r (l.set pos x) = (mkArgs k r l).set pos x
  | [], _, _, _, _ => rfl
  | p :: r, k, l, pos, h => by
    rw [mkArgs, mkArgs, mkArgs_set x r _ l pos fun q hq => h q (List.mem_cons_of_mem _ hq), List.set_comm _ _ (Ne.symm (h p (List.mem_cons_self ..)))]
theorem mkBlks_set (x : E) {av : List E} {pos : Nat} : ∀ (r : List Ptr), (∀ p ∈ r, p.1 ≠ pos) → mkBlks (av.set pos x) r = mkBlks av r
  | [], _ => rfl
  | p :: r, h => by
    rw [mkBlks, mkBlks, mkBlks_set x r fun q hq => h q (List.mem_cons_of_mem _ hq), List.getElem?_set_ne (Ne.symm (h p (List.mem_cons_self ..)))]
theorem noPtrs_set {x : E} (hx : x.noPtr = true) : ∀ (l : List E) (i : Nat), E.noPtrs l = true → E.noPtrs (l.set i x) = true
  | [], _, _ => rfl
  | e :: l, 0, h => by simp only [E.noPtrs, Bool.and_eq_true, List.set_cons_zero] at h ⊢; exact ⟨hx, h.2⟩
  | e :: l, i + 1, h => by simp only [E.noPtrs, Bool.and_eq_true, List.set_cons_succ] at h ⊢; exact ⟨h.1, noPtrs_set hx l i h.2⟩
theorem vals_set (ρ : Env) (ι : Lay) (l : List E) (i : Nat) (x : E) : E.vals ρ ι (l.set i x) = (E.vals ρ ι l).set i (x.val ρ ι) := by
  rw [E.vals_map, E.vals_map, List.map_set]
theorem points_args {w : World} {args : List Value} {ρ : Env} : ∀ (ptrs : List Ptr) (qs : List (Nat × Nat)) (vs : List Value) (av : List E) (bs : List (List E)) (k : Nat), Points w args ptrs vs qs → vs = E.vals ρ lay0 av → (ptrs.map (·.1)).Nodup → mkBlks av ptrs = some bs → E.noPtrs av = true →
    ∀ ι : Lay, (∀ j q, qs[j]? = some q → ι (k + j) = q) → args = E.vals ρ ι (mkArgs k ptrs av) ∧ qs.length = ptrs.length ∧
      ∀ (j : Nat) (l : List E) (q : Nat × Nat), bs[j]? = some l → qs[j]? = some q → ∀ (i : Nat) (c : E), l[i]? = some c → w.cell? ⟨q.1, q.2 + i, none⟩ = some (c.val ρ ι) ∧ w.frozen? ⟨q.1, q.2 + i, none⟩ = false
  | [], qs, vs, av, bs, k, hp, hv, _, hb, hno, ι, _ => by
    obtain ⟨rfl, rfl⟩ := hp
    cases hb
    exact ⟨by rw [hv]; exact E.vals_noPtr _ _ _ _ hno, rfl, fun j l q h => by simp at h⟩
  | (pos, n, out) :: r, [], _, _, _, _, hp, _, _, _, _, _, _ => hp.elim
  | (pos, n, out) :: r, q :: qs, vs, av, bs, k, hp, hv, hnd, hb, hno, ι, hι => by
    obtain ⟨sl, cs, vs', h1, h2, ⟨h3, _⟩, h4, h5⟩ := hp
    rw [List.map_cons, List.nodup_cons] at hnd
    have hne : ∀ p ∈ r, p.1 ≠ pos := fun p hp e => hnd.1 (List.mem_map.2 ⟨p, hp, e⟩)
    unfold mkBlks at hb
    split at hb
    · rename_i l b hl hb'
      split at hb
      · rename_i hlen
        cases hb
        have hlt : pos < av.length := (List.getElem?_eq_some_iff.1 hl).1
        obtain rfl : sl = none := by
          cases sl with
          | none => rfl
          | some c =>
            exfalso
            have hl0 : pos < vs'.length := by
              have e1 := congrArg List.length (h2.symm.trans hv)
              rw [List.length_set, E.vals_length] at e1
              omega
            have h6 := congrArg (fun x => x[pos]?) (h2.symm.trans hv)
            simp only [E.vals_get, hl, Option.map_some] at h6
            rw [List.getElem?_set_self hl0] at h6
            simp [placeV, E.val] at h6
        have hvl : vs.length = av.length := by rw [hv, E.vals_length]
        have hvl' : vs'.length = av.length := by rw [← hvl, h2]; simp
        -- what stood there
        obtain ⟨v0, hv0⟩ : ∃ v0, vs'[pos]? = some v0 := ⟨_, List.getElem?_eq_getElem (by omega)⟩
        have hvs' : vs' = E.vals ρ lay0 (av.set pos (.lit v0)) := by
          rw [vals_set, ← hv, h2, List.set_set]
          apply List.ext_getElem?
          intro i
          by_cases e : i = pos
          · subst e; rw [List.getElem?_set_self (by omega), hv0]; rfl
          · rw [List.getElem?_set_ne (Ne.symm e)]
        obtain ⟨i1, i2, i3⟩ := points_args r qs vs' (av.set pos (.lit v0)) b (k + 1) h1 hvs' hnd.2 (by rw [mkBlks_set _ _ hne]; exact hb') (noPtrs_set rfl _ _ hno) ι (fun j q' hj => by
          have := hι (j + 1) q' (by simpa using hj)
          rw [← this]; congr 1; omega)
        have hk : ι k = q := by have := hι 0 q (by simp); simpa using this
        rw [mkArgs_set _ _ _ _ _ hne] at i1
        refine ⟨?_, by simp [i2], fun j l' q' hj hq' i c hc => ?_⟩
        · rw [mkArgs, vals_set]
          rw [vals_set] at i1
          have hv0' : v0 = .pointer (some ⟨q.1, q.2, none⟩) := by
            rw [i1] at h4
            have hlen2 : pos < ((E.vals ρ ι (mkArgs (k + 1) r av))).length := by
              have := (List.getElem?_eq_some_iff.1 h4).1
              simpa using this
            rw [List.getElem?_set_self hlen2] at h4
            simpa [E.val, placeA] using h4
          rw [i1, hv0']
          simp only [E.val, hk, Nat.add_zero]
        · cases j with
          | zero =>
            simp at hj hq'
            subst hj hq'
            have hcs : cs = E.vals ρ lay0 l := by
              have h6 := congrArg (fun x => x[pos]?) (h2.symm.trans hv)
              simp only [E.vals_get, hl, Option.map_some] at h6
              rw [List.getElem?_set_self (by omega)] at h6
              simp only [placeV, E.val, Option.some.injEq, Value.agg.injEq] at h6
              exact congrArg Array.toList h6
            have hl2 : E.noPtr (.agg l) = true := by
              have : ∀ (l : List E) (i : Nat) (e : E), E.noPtrs l = true → l[i]? = some e → e.noPtr = true := by
                intro l
                induction l with
                | nil => intro i e _ h; simp at h
                | cons x l ih =>
                  intro i e h he
                  simp only [E.noPtrs, Bool.and_eq_true] at h
                  cases i with
                  | zero => simp at he; subst he; exact h.1
                  | succ i => exact ih i e h.2 (by simpa using he)
              exact this av pos _ hno hl
            have hval : E.vals ρ lay0 l = E.vals ρ ι l := E.vals_noPtr _ _ _ _ (by simpa [E.noPtr] using hl2)
            refine h5 i (c.val ρ ι) ?_
            rw [hcs, hval, E.vals_get, hc]
            rfl
          | succ j => exact i3 j l' q' (by simpa using hj) (by simpa using hq') i c hc
      · cases hb
    · cases hb

/-- What a run hands back, and has written. -/
def outsT (σ : St) : Nat → Tr (List E)
  | 0 => .nil
  | n + 1 => match σ.wr.get n, σ.heap.get n with
    | some _, some l => (outsT σ n).set n l
    | _, _ => outsT σ n
theorem outsT_get (σ : St) : ∀ (n : Nat), n ≤ 1099511627776 → ∀ k, (outsT σ n).get k = if k < n ∧ (σ.wr.get k).isSome then σ.heap.get k else none
  | 0, _, k => by simp [outsT, Tr.get_nil]
  | n + 1, h, k => by
    unfold outsT
    have ih := outsT_get σ n (by omega) k
    split
    · rename_i l h1 h2
      rw [Tr.get_set _ _ _ _ (by omega), ih]
      by_cases e : k = n
      · subst e; simp [h1, h2]
      · rw [if_neg e]
        by_cases e2 : k < n
        · simp [e2, show k < n + 1 by omega]
        · simp [e2, show ¬ k < n + 1 by omega]
    · rename_i hno
      rw [ih]
      by_cases e : k = n
      · subst e
        simp only [Nat.lt_irrefl, false_and, if_false, Nat.lt_succ_self, true_and]
        split
        · rename_i h3
          obtain ⟨u, hu⟩ := Option.isSome_iff_exists.1 h3
          cases hq : σ.heap.get k with
          | none => rfl
          | some l => exact (hno u l hu hq).elim
        · rfl
      · by_cases e2 : k < n
        · simp [e2, show k < n + 1 by omega]
        · simp [e2, show ¬ k < n + 1 by omega]
def mini (np : Nat) (σ : St) (e : E) : St := { n := 0, tmps := .node .nil (some e) .nil, heap := outsT σ np, np := 0, wr := .nil, nv := 0, nk := 0, pc := [] }
def finT (P : Program) (fn : Func) (np : Nat) (x : Ex) (σ : St) : Tree := match x with
  | .normal => match resE P fn σ with | some e => if σ.np = np then .leaf .ret (mini np σ e) else .fail 21 | none => .fail 16
  | .ret => match resE P fn σ with | some e => if σ.np = np then .leaf .ret (mini np σ e) else .fail 21 | none => .fail 16
  | _ => .fail 17
/-- A function's run, av it is asked for. -/
def runF (P : Program) (cs : List Con) (LT : List (Nat × LS)) (depth fuel : Nat) (f : FuncId) (nv : Nat) (ptrs : List Ptr) (av : List E) : Tree := match P.funcs[f]? with
  | none => .fail 18
  | some fn => match fn.body, mkBlks av ptrs with
    | some c, some bs => if (mkArgs 0 ptrs av).length ≤ fn.ntmps ∧ fn.ntmps ≤ 1099511627776 ∧ bs.length ≤ 1099511627776 ∧ E.lts nv av ∧ E.noPtrs av ∧ (ptrs.map (·.1)).Nodup then
        (run P cs (inlD P cs LT fuel depth) LT fuel c (initSt fn.ntmps nv (mkArgs 0 ptrs av) bs)).bind (finT P fn bs.length)
      else .fail 19
    | _, _ => .fail 20
/-- A contract: what is handed back, and written, in the variables from 0 on. -/
def mkCon (f : FuncId) (ptrs : List (Nat × Nat × Option (List E))) (res : E) : Con :=
  ⟨f, ptrs.map (fun p => (p.1, p.2.1, p.2.2.map (fun l b => E.shifts b l))), fun b => res.shift b⟩
def barePtrs (ptrs : List (Nat × Nat × Option (List E))) : List Ptr := ptrs.map fun p => (p.1, p.2.1, none)
/-- What is to be shown of a run's end. -/
def KOuts (sp ρ : Env) (h : Tr (List E)) : Nat → List (Nat × Nat × Option (List E)) → Prop
  | _, [] => True
  | k, p :: r => (match p.2.2, h.get k with
    | none, none => True
    | some l, some l' => l'.length = p.2.1 ∧ l.length = p.2.1 ∧ E.noPtrs l' = true ∧ E.vals ρ lay0 l' = E.vals sp lay0 l
    | _, _ => False) ∧ KOuts sp ρ h (k + 1) r
def KF (ptrs : List (Nat × Nat × Option (List E))) (res : E) (sp : Env) (ρ : Env) (x : Ex) (m : St) : Prop := match x, m.tmps with
  | .ret, .node _ (some e) _ => e.noPtr = true ∧ e.val ρ lay0 = res.val sp lay0 ∧ KOuts sp ρ m.heap 0 ptrs
  | _, _ => False
def chkCon (ptrs : List (Nat × Nat × Option (List E))) (res : E) : Bool := res.lt stride && res.noPtr && ptrs.all fun p => match p.2.2 with | some l => E.lts stride l && E.noPtrs l | none => true

theorem KOuts_get {sp ρ : Env} {h : Tr (List E)} : ∀ {ptrs : List (Nat × Nat × Option (List E))} {k : Nat}, KOuts sp ρ h k ptrs → ∀ j p, ptrs[j]? = some p → match p.2.2, h.get (k + j) with
    | none, none => True
    | some l, some l' => l'.length = p.2.1 ∧ l.length = p.2.1 ∧ E.noPtrs l' = true ∧ E.vals ρ lay0 l' = E.vals sp lay0 l
    | _, _ => False
  | [], _, _, j, p, hj => by simp at hj
  | p :: r, k, hk, 0, p', hj => by simp at hj; subst hj; exact hk.1
  | p :: r, k, hk, j + 1, p', hj => by
    have := KOuts_get hk.2 j p' (by simpa using hj)
    rwa [show k + 1 + j = k + (j + 1) by omega] at this

theorem mkBlks_length {av : List E} : ∀ {ptrs : List Ptr} {bs : List (List E)}, mkBlks av ptrs = some bs → bs.length = ptrs.length ∧ ∀ (j : Nat) (l : List E) (p : Ptr), bs[j]? = some l → ptrs[j]? = some p → l.length = p.2.1 ∧ av[p.1]? = some (.agg l)
  | [], _, h => by cases h; exact ⟨rfl, fun j l p h => by simp at h⟩
  | p :: r, _, h => by
    unfold mkBlks at h
    split at h
    · rename_i l b h1 h2
      split at h
      · rename_i hl
        cases h
        obtain ⟨h3, h4⟩ := mkBlks_length h2
        refine ⟨by simp [h3], fun j l' p' hj hp => ?_⟩
        cases j with
        | zero => simp at hj hp; subst hj hp; exact ⟨hl, h1⟩
        | succ j => exact h4 j l' p' (by simpa using hj) (by simpa using hp)
      · cases h
    · cases h
section
variable {P : Program} {cs : List Con} {S : List ConS}
theorem fixs_of_lts {n : Nat} {h : Tr (List E)} : ∀ {l : List E}, E.lts n l = true → E.noPtrs l = true → E.fixs n h l = true := by
  have key : (∀ e : E, e.lt n = true → e.noPtr = true → e.fix n h = true) := by
    intro e
    induction e using E.rec (motive_2 := fun l => E.lts n l = true → E.noPtrs l = true → E.fixs n h l = true) with
    | int k t => exact fun h _ => h
    | bool c => exact fun h _ => h
    | lit v => exact fun _ _ => rfl
    | var i => exact fun h _ => h
    | ptr b o => exact fun _ h => by simp [E.noPtr] at h
    | slice b o n c => exact fun _ h => by simp [E.noPtr] at h
    | «at» b o s n t => exact fun _ h => by simp [E.noPtr] at h
    | agg l ih => exact fun h1 h2 => ih h1 h2
    | tup l ih => exact fun h1 h2 => ih h1 h2
    | func f l ih => exact fun h1 h2 => ih h1 h2
    | iface t e ih => exact fun h1 h2 => ih h1 h2
    | nil => rfl
    | cons e l ih1 ih2 =>
      rename_i h1 h2
      simp only [E.lts, E.noPtrs, E.fixs, Bool.and_eq_true] at h1 h2 ⊢
      exact ⟨ih1 h1.1 h2.1, ih2 h1.2 h2.2⟩
  intro l
  induction l with
  | nil => exact fun _ _ => rfl
  | cons e l ih =>
    intro h1 h2
    simp only [E.lts, E.noPtrs, E.fixs, Bool.and_eq_true] at h1 h2 ⊢
    exact ⟨key e h1.1 h2.1, ih h1.2 h2.2⟩

theorem mkArgs_fix {n : Nat} {h : Tr (List E)} : ∀ (ptrs : List Ptr) (k : Nat) (l : List E), E.fixs n h l = true → (∀ j, k ≤ j → j < k + ptrs.length → (h.get j).isSome) → E.fixs n h (mkArgs k ptrs l) = true
  | [], _, _, hl, _ => hl
  | p :: r, k, l, hl, hk => by
    have set : ∀ (l : List E) (i : Nat) (x : E), x.fix n h = true → E.fixs n h l = true → E.fixs n h (l.set i x) = true := by
      intro l
      induction l with
      | nil => exact fun _ _ _ h => h
      | cons e l ih =>
        intro i x hx hl
        simp only [E.fixs, Bool.and_eq_true] at hl
        cases i with
        | zero => simp only [List.set_cons_zero, E.fixs, Bool.and_eq_true]; exact ⟨hx, hl.2⟩
        | succ i => simp only [List.set_cons_succ, E.fixs, Bool.and_eq_true]; exact ⟨hl.1, ih i x hx hl.2⟩
    rw [mkArgs]
    refine set _ _ _ ?_ (mkArgs_fix r (k + 1) l hl fun j h1 h2 => hk j (by omega) (by simp only [List.length_cons]; omega))
    simp only [E.fix]
    exact hk k (Nat.le_refl _) (by simp only [List.length_cons]; omega)
theorem mkArgs_length : ∀ (ptrs : List Ptr) (k : Nat) (l : List E), (mkArgs k ptrs l).length = l.length
  | [], _, _ => rfl
  | p :: r, k, l => by rw [mkArgs]; simp [mkArgs_length r]
theorem apartQ_get : ∀ {ptrs : List Ptr} {qs : List (Nat × Nat)}, ApartQ ptrs qs → ∀ (j k : Nat) (p p' : Ptr) (q q' : Nat × Nat), ptrs[j]? = some p → qs[j]? = some q → ptrs[k]? = some p' → qs[k]? = some q' → j < k → (p.2.2.isSome ∨ p'.2.2.isSome) → q.1 = q'.1 → ∀ i i', i < p.2.1 → i' < p'.2.1 → q.2 + i ≠ q'.2 + i'
  | [], _, _, j, k, _, _, _, _, h, _, _, _, _ => by simp at h
  | _ :: _, [], _, j, k, _, _, _, _, _, h, _, _, _ => by simp at h
  | x :: r, y :: qs, ha, 0, k + 1, p, p', q, q', h1, h2, h3, h4, _ => by
    simp at h1 h2 h3 h4
    subst h1 h2
    refine ha.1 p' q' ?_
    have h5 : (r.zip qs)[k]? = some (p', q') := by rw [List.getElem?_zip_eq_some]; exact ⟨h3, h4⟩
    exact List.mem_of_getElem? h5
  | x :: r, y :: qs, ha, j + 1, k + 1, p, p', q, q', h1, h2, h3, h4, hl => apartQ_get ha.2 j k p p' q q' (by simpa using h1) (by simpa using h2) (by simpa using h3) (by simpa using h4) (by omega)

/-- Parameters that are only read may share memory; the run takes each for itself: so at most one is a place, or each that is one lies apart. -/
def Sole (ptrs : List (Nat × Nat × Option (List E))) : Bool := decide (ptrs.length ≤ 1) || ptrs.all fun p => p.2.2.isSome
/-- A CONTRACT OUT OF A RUN. -/
theorem con_of_run (hC : Cons P cs S) (hm : P.follows .mixedOrders = true) {LT : List (Nat × LS)} {depth fuel nv : Nat} {f : FuncId} {ptrs : List (Nat × Nat × Option (List E))} {res : E} {av : List E} {s : ConS} {T : Tree}
    (hchk : (chkCon ptrs res && Sole ptrs) = true) (hT : runF P cs LT depth fuel f nv (barePtrs ptrs) av = T)
    (hdec : ∀ vs e0, s vs e0 → ∃ LQ ρ, vs = E.vals ρ lay0 av ∧ treeSem S LQ (KF ptrs res e0) ρ T) : (mkCon f ptrs res).holds P s := by
  intro w args vs qs e0 hpts hap hpre
  rw [Bool.and_eq_true] at hchk
  obtain ⟨hchk, hsole⟩ := hchk
  unfold chkCon at hchk
  rw [Bool.and_eq_true, Bool.and_eq_true] at hchk
  obtain ⟨LQ, ρ, hvs, ht⟩ := hdec vs e0 hpre
  subst hT
  unfold runF at ht
  split at ht
  · exact ht.elim
  · rename_i fn hf
    split at ht
    · rename_i c bs hb hbs
      split at ht
      · rename_i hc
        obtain ⟨c1, c2, c3, c4, c5, c6⟩ := hc
        -- the places
        have hpts' : Points w args (barePtrs ptrs) vs qs := by
          have key : ∀ (l : List (Nat × Nat × Option (List E))) (vs : List Value) (qs : List (Nat × Nat)), Points w args (l.map (fun p => (p.1, p.2.1, p.2.2.map (fun l b => E.shifts b l)))) vs qs → Points w args (barePtrs l) vs qs := by
            intro l
            induction l with
            | nil => exact fun _ _ h => h
            | cons p l ih =>
              intro vs qs h
              cases qs with
              | nil => exact h.elim
              | cons q qs =>
                obtain ⟨sl, cs, vs', h1, h2⟩ := h
                exact ⟨sl, cs, vs', ih vs' qs h1, h2⟩
          exact key ptrs vs qs hpts
        have hplen : (barePtrs ptrs).length = ptrs.length := by simp [barePtrs]
        obtain ⟨h1, h2, h3⟩ := points_args (ρ := ρ) (barePtrs ptrs) qs vs av bs 0 hpts' hvs c6 hbs c5 (fun k => qs.getD k (0, 0)) (fun j q hj => by simp [hj])
        rw [hplen] at h2
        obtain ⟨b1, b2⟩ := mkBlks_length hbs
        rw [hplen] at b1
        have hpt : ∀ (j : Nat) p, ptrs[j]? = some p → (barePtrs ptrs)[j]? = some (p.1, p.2.1, none) := fun j p hj => by simp [barePtrs, hj]
        have hbl : ∀ (j : Nat) l, bs[j]? = some l → ∃ p q, ptrs[j]? = some p ∧ qs[j]? = some q ∧ l.length = p.2.1 := fun j l hj => by
          have hj' : j < ptrs.length := by rw [← b1]; exact (List.getElem?_eq_some_iff.1 hj).1
          have hp := List.getElem?_eq_getElem hj'
          have hq : qs[j]? = some (qs[j]'(by omega)) := List.getElem?_eq_getElem (by omega)
          exact ⟨_, _, hp, hq, (b2 j l _ hj (hpt j _ hp)).1⟩
        have hget : ∀ b, (initHeap 0 bs .nil).get b = bs[b]? := fun b => by
          rw [get_initHeap _ _ _ _ (by omega)]
          split
          · simp
          · rw [Tr.get_nil, List.getElem?_eq_none (by omega)]
        have hblk_no : ∀ l ∈ bs, E.fixs nv (initHeap 0 bs .nil) l = true := fun l hl => by
          obtain ⟨j, hj⟩ := List.getElem?_of_mem hl
          obtain ⟨p, q, hp, _, _⟩ := hbl j l hj
          have := (b2 j l _ hj (hpt j p hp)).2
          have hel : ∀ (l : List E) (i : Nat) (e : E), E.lts nv l = true → E.noPtrs l = true → l[i]? = some e → e.lt nv = true ∧ e.noPtr = true := by
            intro l
            induction l with
            | nil => intro i e _ _ h; simp at h
            | cons x l ih =>
              intro i e h1 h2 he
              simp only [E.lts, E.noPtrs, Bool.and_eq_true] at h1 h2
              cases i with
              | zero => simp at he; subst he; exact ⟨h1.1, h2.1⟩
              | succ i => exact ih i e h1.2 h2.2 (by simpa using he)
          obtain ⟨g1, g2⟩ := hel av _ _ c4 c5 this
          exact fixs_of_lts g1 g2
        have hsim := init_sim (ρ := ρ) (ι := fun k => qs.getD k (0, 0)) (w := w) (ntmps := fn.ntmps) (nv := nv) (args := mkArgs 0 (barePtrs ptrs) av) (blks := bs) c1 c2 c3
          (mkArgs_fix _ _ _ (fixs_of_lts c4 c5) (fun j _ hj => by rw [hget, List.getElem?_eq_getElem (by omega)]; rfl)) hblk_no
          (fun k l hk j cc hj => by
            obtain ⟨p, q, hp, hq, _⟩ := hbl k l hk
            have := h3 k l q hk hq j cc hj
            simpa [hq] using this)
          (fun k k' l l' hk hk' hne he j j' hj hj' => by
            obtain ⟨p, q, hp, hq, hl⟩ := hbl k l hk
            obtain ⟨p', q', hp', hq', hl'⟩ := hbl k' l' hk'
            simp only [List.getD_eq_getElem?_getD, hq, hq', Option.getD_some] at he ⊢
            have hlen : k < ptrs.length ∧ k' < ptrs.length := ⟨(List.getElem?_eq_some_iff.1 hp).1, (List.getElem?_eq_some_iff.1 hp').1⟩
            unfold Sole at hsole
            rw [Bool.or_eq_true, decide_eq_true_eq] at hsole
            rcases hsole with hsole | hsole
            · omega
            · have g1 := List.all_eq_true.1 hsole p (List.mem_of_getElem? hp)
              have m1 : (mkCon f ptrs res).ptrs[k]? = some (p.1, p.2.1, p.2.2.map (fun l b => E.shifts b l)) := by simp [mkCon, hp]
              have m2 : (mkCon f ptrs res).ptrs[k']? = some (p'.1, p'.2.1, p'.2.2.map (fun l b => E.shifts b l)) := by simp [mkCon, hp']
              have g1' : (p.2.2.map (fun (l : List E) (b : Nat) => E.shifts b l)).isSome := by simpa using g1
              have g2' : (p'.2.2.map (fun (l : List E) (b : Nat) => E.shifts b l)).isSome := by simpa using List.all_eq_true.1 hsole p' (List.mem_of_getElem? hp')
              rcases Nat.lt_or_gt_of_ne hne with hlt | hlt
              · exact apartQ_get hap k k' _ _ q q' m1 hq m2 hq' hlt (.inl g1') he j j' (by simp only; omega) (by simp only; omega)
              · exact Ne.symm (apartQ_get hap k' k _ _ q' q m2 hq' m1 hq hlt (.inl g2') he.symm j' j (by simp only; omega) (by simp only; omega)))
        have hargs : args.toArray = (E.vals ρ (fun k => qs.getD k (0, 0)) (mkArgs 0 (barePtrs ptrs) av)).toArray := by rw [← h1]
        show Calls P f args.toArray w _
        refine calls_of_wp hf hb ?_
        rw [hargs]
        have hsz : (E.vals ρ (fun k => qs.getD k (0, 0)) (mkArgs 0 (barePtrs ptrs) av)).toArray.size = (mkArgs 0 (barePtrs ptrs) av).length := by simp [E.vals_length]
        rw [hsz]
        refine run_ok hC hm (inlD_ok hC hm depth) c _ _ ?_ _ ρ _ w (treeSem_bind _ _ ht) hsim
        intro ρ' x σ a' w' hk hs'
        -- how it ends
        have hend : (x = .normal ∨ x = .ret) ∧ ∃ e, resE P fn σ = some e ∧ σ.np = bs.length ∧ KF ptrs res e0 ρ' .ret (mini bs.length σ e) := by
          unfold finT at hk
          split at hk
          · split at hk
            · rename_i e he
              split at hk
              · rename_i hnp; exact ⟨.inl rfl, e, he, hnp, hk⟩
              · exact hk.elim
            · exact hk.elim
          · split at hk
            · rename_i e he
              split at hk
              · rename_i hnp; exact ⟨.inr rfl, e, he, hnp, hk⟩
              · exact hk.elim
            · exact hk.elim
          · exact hk.elim
        obtain ⟨hx, e, he, hnp, hkf⟩ := hend
        obtain ⟨k1, k2, k3⟩ : e.noPtr = true ∧ e.val ρ' lay0 = res.val e0 lay0 ∧ KOuts e0 ρ' (outsT σ bs.length) 0 ptrs := hkf
        obtain ⟨ι', hat⟩ := hs'.at_
        have hres := resE_run hat.held he
        have hpost : a'.defers = [] ∧ ∃ v, (results fn a'.tmps).run P w' = .ok v w' ∧ (Fr (OutS (mkCon f ptrs res).ptrs qs) w w' ∧ ∀ (ρ : Env) (base : Nat), ρ.At base e0 → (∀ ι : Lay, Ending.returned v = .returned (((mkCon f ptrs res).res base).val ρ ι)) ∧ Outs w' ρ base (mkCon f ptrs res).ptrs qs) := by
          have hout := outsT_get σ bs.length c3
          have hpar : ∀ b, (σ.heap.get b).isSome → b < bs.length → ι' b = qs.getD b (0, 0) := fun b _ h2 => (hat.par b h2).2
          refine ⟨hat.defers, _, hres, hat.fr.mono fun i x _ hx => ?_, fun ρ2 base hat2 => ⟨fun ι2 => ?_, fun p q g hz hg ι2 j cc hj => ?_⟩⟩
          · obtain ⟨b, l, w1, w2, w3, w4, w5, w6⟩ := hx
            rw [hnp] at w2
            have hb2 : b < ptrs.length := by omega
            have hk := KOuts_get k3 b _ (List.getElem?_eq_getElem hb2)
            rw [Nat.zero_add, hout, if_pos ⟨w2, w1⟩, w3] at hk
            have hι := hpar b (by rw [w3]; rfl) w2
            have hqb : qs[b]? = some (qs[b]'(by omega)) := List.getElem?_eq_getElem (by omega)
            cases hpo : (ptrs[b]).2.2 with
            | none => simp only [hpo] at hk
            | some lo =>
              simp only [hpo] at hk
              refine ⟨((ptrs[b]).1, (ptrs[b]).2.1, (ptrs[b]).2.2.map (fun l b => E.shifts b l)), qs[b]'(by omega), ?_, by simp [hpo], ?_, ?_, ?_⟩
              · have : ((mkCon f ptrs res).ptrs.zip qs)[b]? = some (((ptrs[b]).1, (ptrs[b]).2.1, (ptrs[b]).2.2.map (fun l b => E.shifts b l)), qs[b]'(by omega)) := by
                  rw [List.getElem?_zip_eq_some]
                  exact ⟨by simp [mkCon, List.getElem?_eq_getElem hb2], hqb⟩
                exact List.mem_of_getElem? this
              · rw [w4, hι]; simp [hqb]
              · rw [hι] at w5; simpa [hqb] using w5
              · rw [hι] at w6
                simp only [List.getD_eq_getElem?_getD, hqb, Option.getD_some, hk.1] at w6
                exact w6
          · have hs1 := E.shift_val hat2 ι2 lay0 res hchk.1.1 hchk.1.2
            show Ending.returned _ = Ending.returned ((res.shift base).val ρ2 ι2)
            rw [hs1, ← k2, E.val_noPtr ρ' ι' lay0 e k1]
          · obtain ⟨k, hk⟩ := List.getElem?_of_mem hz
            rw [List.getElem?_zip_eq_some] at hk
            obtain ⟨hkp, hkq⟩ := hk
            simp only [mkCon, List.getElem?_map, Option.map_eq_some_iff] at hkp
            obtain ⟨p0, hp0, rfl⟩ := hkp
            simp only [Option.map_eq_some_iff] at hg
            obtain ⟨lo, hlo, rfl⟩ := hg
            have hk := KOuts_get k3 k p0 hp0
            have hkl : k < bs.length := by rw [b1]; exact (List.getElem?_eq_some_iff.1 hp0).1
            rw [Nat.zero_add, hout, hlo] at hk
            by_cases hw : k < bs.length ∧ (σ.wr.get k).isSome
            · rw [if_pos hw] at hk
              cases heq2 : σ.heap.get k with
              | none => simp only [heq2] at hk
              | some l2 =>
                simp only [heq2] at hk
                obtain ⟨g1, g2, g3, g4⟩ := hk
                have hι := hpar k (by rw [heq2]; rfl) hkl
                have hch := List.all_eq_true.1 hchk.2 p0 (List.mem_of_getElem? hp0)
                rw [hlo] at hch
                simp only [Bool.and_eq_true] at hch
                have hs1 := E.shifts_val hat2 ι2 lay0 lo hch.1 hch.2
                have hj0 : j < l2.length := by
                  have := (List.getElem?_eq_some_iff.1 hj).1
                  rw [E.shifts_length] at this
                  omega
                have hcell := (hat.cell k l2 heq2 j _ (List.getElem?_eq_getElem hj0)).1
                rw [hι] at hcell
                simp only [List.getD_eq_getElem?_getD, hkq, Option.getD_some] at hcell
                rw [hcell]
                have hv1 := E.vals_noPtr ρ' ι' lay0 l2 g3
                have e1 := congrArg (fun x => x[j]?) (hv1.trans (g4.trans hs1.symm))
                simp only [E.vals_get, hj, List.getElem?_eq_getElem hj0, Option.map_some, Option.some.injEq] at e1
                rw [e1]
            · rw [if_neg hw] at hk
              exact hk.elim
        rcases hx with rfl | rfl
        · exact hpost
        · exact hpost
      · exact ht.elim
    · exact ht.elim
end
end Sx
end Go.Proofs.Ytigpdnbcjmcfoaa
