/- What is proved: a contract out of a symbolic run of a function; no program in sight; contracts out of walks, and walks out of contracts; no program in sight. No condition but those each law names. -/
import Derived.Test.YtaigdbnfhehclaaSyK
namespace Go.Proofs.Ytaigdbnfhehclaa
namespace Sx
open Go.RowKit

def T.shift (b : Nat) : T → T
  | .lit n => .lit n
  | .var i => .var (b + i)
  | .bin o k x y => .bin o k (x.shift b) (y.shift b)
  | .wrap k x => .wrap k (x.shift b)
  | .mn x y => .mn (x.shift b) (y.shift b)
  | .mx x y => .mx (x.shift b) (y.shift b)
  | .sel l t => .sel l (t.shift b)
  | .add2 hi x y => .add2 hi (x.shift b) (y.shift b)
def C.shift (b : Nat) : C → C
  | .lit n => .lit n
  | .var i => .var (b + i)
  | .cmp o x y => .cmp o (x.shift b) (y.shift b)
  | .not c => .not (c.shift b)
  | .ite c x y => .ite (c.shift b) (x.shift b) (y.shift b)
  | .iff x y => .iff (x.shift b) (y.shift b)
  | .and x y => .and (x.shift b) (y.shift b)
mutual
def E.shift (b : Nat) : E → E
  | .int k t => .int k (t.shift b)
  | .bool c => .bool (c.shift b)
  | .lit v => .lit v
  | .var i => .var (b + i)
  | .hnd i => .hnd (b + i)
  | .pla n k o => .pla (n.shift b) (k.shift b) o
  | .ptr k o => .ptr k o
  | .slice k o n c => .slice k o n c
  | .at k o s n t => .at k o s n (t.shift b)
  | .agg l => .agg (E.shifts b l)
  | .tup l => .tup (E.shifts b l)
  | .func f l => .func f (E.shifts b l)
  | .iface t e => .iface t (e.shift b)
def E.shifts (b : Nat) : List E → List E
  | [] => []
  | e :: l => e.shift b :: E.shifts b l
end
theorem T.shift_den {ρ s : Env} {b : Nat} (h : ρ.At b s) : ∀ t : T, t.lt stride = true → (t.shift b).den ρ = t.den s
  | .lit n, _ => rfl
  | .var i, hl => (h i (by simpa [T.lt] using hl)).1
  | .bin o k x y, hl => by simp only [T.lt, Bool.and_eq_true] at hl; simp only [T.shift, T.den, T.shift_den h x hl.1, T.shift_den h y hl.2]
  | .wrap k x, hl => by simp only [T.lt] at hl; simp only [T.shift, T.den, T.shift_den h x hl]
  | .mn x y, hl => by simp only [T.lt, Bool.and_eq_true] at hl; simp only [T.shift, T.den, T.shift_den h x hl.1, T.shift_den h y hl.2]
  | .mx x y, hl => by simp only [T.lt, Bool.and_eq_true] at hl; simp only [T.shift, T.den, T.shift_den h x hl.1, T.shift_den h y hl.2]
  | .sel l t, hl => by simp only [T.lt] at hl; simp only [T.shift, T.den, T.shift_den h t hl]
  | .add2 _ x y, hl => by simp only [T.lt, Bool.and_eq_true] at hl; simp only [T.shift, T.den, T.shift_den h x hl.1, T.shift_den h y hl.2]
theorem C.shift_den {ρ s : Env} {b : Nat} (h : ρ.At b s) : ∀ c : C, c.lt stride = true → (c.shift b).den ρ = c.den s
  | .lit n, _ => rfl
  | .var i, hl => (h i (by simpa [C.lt] using hl)).2.1
  | .cmp o x y, hl => by simp only [C.lt, Bool.and_eq_true] at hl; simp only [C.shift, C.den, T.shift_den h x hl.1, T.shift_den h y hl.2]
  | .not c, hl => by simp only [C.lt] at hl; simp only [C.shift, C.den, C.shift_den h c hl]
  | .ite c x y, hl => by simp only [C.lt, Bool.and_eq_true] at hl; simp only [C.shift, C.den, C.shift_den h c hl.1.1, C.shift_den h x hl.1.2, C.shift_den h y hl.2]
  | .iff x y, hl => by simp only [C.lt, Bool.and_eq_true] at hl; simp only [C.shift, C.den, C.shift_den h x hl.1, C.shift_den h y hl.2]
  | .and x y, hl => by simp only [C.lt, Bool.and_eq_true] at hl; simp only [C.shift, C.den, C.shift_den h x hl.1, C.shift_den h y hl.2]
mutual
/-- Without an address. -/
def E.noAdr : E → Bool
  | .int _ _ => true
  | .bool _ => true
  | .lit _ => true
  | .var _ => true
  | .hnd _ => true
  | .pla _ _ _ => true
  | .ptr _ _ => false
  | .slice _ _ _ _ => false
  | .at _ _ _ _ _ => false
  | .agg l => E.noAdrs l
  | .tup l => E.noAdrs l
  | .func _ l => E.noAdrs l
  | .iface _ e => e.noAdr
def E.noAdrs : List E → Bool
  | [] => true
  | e :: l => e.noAdr && E.noAdrs l
end
mutual
theorem E.noH_adr : ∀ e : E, e.noH = true → e.noAdr = true
  | .int _ _, _ => rfl
  | .bool _, _ => rfl
  | .lit _, _ => rfl
  | .var _, h => by simp [E.noH] at h
  | .hnd _, h => by simp [E.noH] at h
  | .pla _ _ _, h => by simp [E.noH] at h
  | .ptr _ _, h => by simp [E.noH] at h
  | .slice _ _ _ _, h => by simp [E.noH] at h
  | .at _ _ _ _ _, h => by simp [E.noH] at h
  | .agg l, h => by simp only [E.noH] at h; simp only [E.noAdr, E.noHs_adr l h]
  | .tup l, h => by simp only [E.noH] at h; simp only [E.noAdr, E.noHs_adr l h]
  | .func _ l, h => by simp only [E.noH] at h; simp only [E.noAdr, E.noHs_adr l h]
  | .iface _ e, h => by simp only [E.noH] at h; simp only [E.noAdr, E.noH_adr e h]
theorem E.noHs_adr : ∀ l : List E, E.noHs l = true → E.noAdrs l = true
  | [], _ => rfl
  | e :: l, h => by simp only [E.noHs, Bool.and_eq_true] at h; simp only [E.noAdrs, E.noH_adr e h.1, E.noHs_adr l h.2, Bool.and_self]
end
theorem E.cell_adr {e : E} (h : e.cellOk = true) : e.noAdr = true := by
  cases e <;> simp only [E.cellOk] at h <;> first | (cases h; done) | rfl | exact E.noHs_adr _ h | exact E.noH_adr _ h
theorem E.cells_adr : ∀ {l : List E}, l.all E.cellOk = true → E.noAdrs l = true
  | [], _ => rfl
  | e :: l, h => by simp only [List.all_cons, Bool.and_eq_true] at h; simp only [E.noAdrs, E.cell_adr h.1, E.cells_adr h.2, Bool.and_self]
theorem E.arg_adr {e : E} (h : e.argOk = true) : e.noAdr = true := by
  unfold E.argOk at h
  split at h
  · exact E.cells_adr h
  · rfl
  · exact E.cell_adr h
theorem E.args_adr : ∀ {l : List E}, l.all E.argOk = true → E.noAdrs l = true
  | [], _ => rfl
  | e :: l, h => by simp only [List.all_cons, Bool.and_eq_true] at h; simp only [E.noAdrs, E.arg_adr h.1, E.args_adr h.2, Bool.and_self]
theorem E.ptr_adr {e : E} (h : e.noPtr = true) : e.noAdr = true := by
  unfold E.noPtr at h
  split at h
  · exact E.args_adr h
  · exact E.arg_adr h
theorem E.ptrs_adr : ∀ {l : List E}, E.noPtrs l = true → E.noAdrs l = true
  | [], _ => rfl
  | e :: l, h => by simp only [E.noPtrs, Bool.and_eq_true] at h; simp only [E.noAdrs, E.ptr_adr h.1, E.ptrs_adr h.2, Bool.and_self]
mutual
theorem E.shift_val {ρ s : Env} {b : Nat} (h : ρ.At b s) {ι ι' : Lay} (hh : ι.h = ι'.h) : ∀ e : E, e.lt stride = true → e.noAdr = true → (e.shift b).val ρ ι = e.val s ι'
  | .int k t, hl, _ => by simp only [E.lt] at hl; simp only [E.shift, E.val, T.shift_den h t hl]
  | .bool c, hl, _ => by simp only [E.lt] at hl; simp only [E.shift, E.val, C.shift_den h c hl]
  | .lit v, _, _ => rfl
  | .var i, hl, _ => by simp only [E.shift, E.val, (h i (by simpa [E.lt] using hl)).2.2, hh]
  | .hnd i, hl, _ => by simp only [E.shift, E.val, (h i (by simpa [E.lt] using hl)).2.2, hh]
  | .pla m k o, hl, _ => by simp only [E.lt, Bool.and_eq_true] at hl; simp only [E.shift, E.val, T.shift_den h m hl.1, T.shift_den h k hl.2, hh]
  | .ptr k o, _, hp => by simp [E.noAdr] at hp
  | .slice _ _ _ _, _, hp => by simp [E.noAdr] at hp
  | .at _ _ _ _ _, _, hp => by simp [E.noAdr] at hp
  | .agg l, hl, hp => by simp only [E.lt] at hl; simp only [E.noAdr] at hp; simp only [E.shift, E.val, E.shifts_val h hh l hl hp]
  | .tup l, hl, hp => by simp only [E.lt] at hl; simp only [E.noAdr] at hp; simp only [E.shift, E.val, E.shifts_val h hh l hl hp]
  | .func f l, hl, hp => by simp only [E.lt] at hl; simp only [E.noAdr] at hp; simp only [E.shift, E.val, E.shifts_val h hh l hl hp]
  | .iface t e, hl, hp => by simp only [E.lt] at hl; simp only [E.noAdr] at hp; simp only [E.shift, E.val, E.shift_val h hh e hl hp]
theorem E.shifts_val {ρ s : Env} {b : Nat} (h : ρ.At b s) {ι ι' : Lay} (hh : ι.h = ι'.h) : ∀ l : List E, E.lts stride l = true → E.noAdrs l = true → E.vals ρ ι (E.shifts b l) = E.vals s ι' l
  | [], _, _ => rfl
  | e :: l, hl, hp => by simp only [E.lts, Bool.and_eq_true] at hl; simp only [E.noAdrs, Bool.and_eq_true] at hp; simp only [E.shifts, E.vals, E.shift_val h hh e hl.1 hp.1, E.shifts_val h hh l hl.2 hp.2]
end
theorem E.shifts_length (b : Nat) : ∀ l : List E, (E.shifts b l).length = l.length
  | [] => rfl
  | e :: l => by simp only [E.shifts, List.length_cons, E.shifts_length b l]

def initHeap : Nat → List (List E) → Tr (List E) → Tr (List E)
  | _, [], t => t
  | n, e :: l, t => initHeap (n + 1) l (t.set n e)
def initSt (ntmps nv : Nat) (args : List E) (blks : List (List E)) : St :=
  { n := ntmps, tmps := initTmps 0 args .nil, heap := initHeap 0 blks .nil, np := blks.length, wr := .nil, nv := nv, nk := blks.length, pc := [], gh := nv - 1 }
theorem get_initHeap : ∀ (l : List (List E)) (n : Nat) (t : Tr (List E)) (m : Nat), n + l.length ≤ 1099511627776 → (initHeap n l t).get m = if n ≤ m ∧ m < n + l.length then l[m - n]? else t.get m
  | [], n, t, m, _ => by simp [initHeap]; omega
  | e :: l, n, t, m, h => by
    simp only [List.length_cons] at h ⊢
    rw [initHeap, get_initHeap l (n + 1) _ m (by omega), Tr.get_set _ _ _ _ (by omega)]
    by_cases e1 : m = n
    · subst e1
      rw [if_neg (by omega), if_pos rfl, if_pos (by omega)]
      simp
    · rw [if_neg e1]
      by_cases e2 : n + 1 ≤ m ∧ m < n + 1 + l.length
      · rw [if_pos e2, if_pos (by omega), show m - n = (m - (n + 1)) + 1 by omega, List.getElem?_cons_succ]
      · rw [if_neg e2, if_neg (by omega)]

theorem init_sim [Kinds] {ρ : Env} {ι : Lay} {F : Foot} {w : World} {ntmps nv : Nat} {args : List E} {blks : List (List E)} (hnv : 0 < nv) (hn : args.length ≤ ntmps) (hb : ntmps ≤ 1099511627776) (hbl : blks.length ≤ 1099511627776)
    (ha : E.fixs nv (initHeap 0 blks .nil) args = true) (hbs : ∀ l ∈ blks, E.fixs nv (initHeap 0 blks .nil) l = true)
    (hc : ∀ k l, blks[k]? = some l → ∀ (j : Nat) (c : E), l[j]? = some c → w.cell? ⟨(ι k).1, (ι k).2 + j, none⟩ = some (c.val ρ ι) ∧ w.frozen? ⟨(ι k).1, (ι k).2 + j, none⟩ = false)
    (hap : ∀ k k' l l', blks[k]? = some l → blks[k']? = some l' → k ≠ k' → (ι k).1 = (ι k').1 → ∀ j j', j < l.length → j' < l'.length → (ι k).2 + j ≠ (ι k').2 + j')
    (hg : Kinds.holds w ι.h F (ρ.g (nv - 1))) (hgap : ∀ k l, blks[k]? = some l → ∀ j, j < l.length → ¬ F (ι k).1 ((ι k).2 + j))
    (hA : ∀ h', (∀ n, n < Kinds.cnt (ρ.g (nv - 1)) → h' n = ι.h n) → E.vals ρ ⟨ι.p, h'⟩ args = E.vals ρ ι args ∧ ∀ l ∈ blks, E.vals ρ ⟨ι.p, h'⟩ l = E.vals ρ ι l) :
    Sim ρ ⟨w, ι, fun b => b < blks.length, Kinds.cnt (ρ.g (nv - 1)), F⟩ (initSt ntmps nv args blks) { tmps := (E.vals ρ ι args).toArray ++ Array.replicate (ntmps - args.length) undef, defers := [] } w := by
  have hget : ∀ b, (initHeap 0 blks .nil).get b = blks[b]? := fun b => by
    rw [get_initHeap _ _ _ _ (by omega)]
    split
    · simp
    · rw [Tr.get_nil, List.getElem?_eq_none (by omega)]
  refine ⟨ι, F, fun ρ' hr ι' hi => ?_⟩
  obtain ⟨hi, hih⟩ := hi
  have hi' : ∀ b, ((initHeap 0 blks .nil).get b).isSome → ι' b = ι b := hi
  have hgg : ρ'.g (nv - 1) = ρ.g (nv - 1) := Env.ag_g hr (show nv - 1 < nv by omega)
  obtain ⟨hA1, hA2⟩ := hA ι'.h hih
  refine ⟨?_, rfl, fun t e he => ?_, fun b l hl j c hj => ?_, fun b b' l l' hl hl' hne he j j' hj hj' => ?_, fun b l hl hnp => ?_, fun b hb => (by have hb' : ((initHeap 0 blks .nil).get b).isSome := (by rw [hget, List.getElem?_eq_getElem hb]; rfl); exact ⟨hb', hi b hb'⟩), Fr.refl _ _, (fun p hp => by cases hp), show nv - 1 < nv by omega,
    (by show Kinds.holds w ι'.h F (ρ'.g (nv - 1)); rw [hgg]; exact Kinds.same hg hih), fun b l hl j hj => ?_, fun i x h => .inr h, hih, (by show _ ≤ Kinds.cnt (ρ'.g (nv - 1)); rw [hgg]; exact Nat.le_refl _)⟩
  · simp [E.vals_length, initSt]; omega
  · simp only [initSt] at he
    rw [get_initTmps _ _ _ _ (by omega)] at he
    split at he
    · rename_i hlt
      simp only [Nat.sub_zero, Nat.zero_add] at he hlt
      have h1 : ((E.vals ρ ι args).toArray ++ Array.replicate (ntmps - args.length) undef)[t]? = some (e.val ρ ι) := by
        rw [Array.getElem?_append_left (by simp [E.vals_length]; omega)]
        simp [E.vals_get, he]
      simp only [Array.getD_eq_getD_getElem?, h1, Option.getD_some]
      have h2 := (E.vals_fix (ι := ⟨ι.p, ι'.h⟩) (h := initHeap 0 blks .nil) hr hi' rfl args ha).trans hA1
      have h3 := congrArg (fun x => x[t]?) h2
      simp only [E.vals_get, he, Option.map_some, Option.some.injEq] at h3
      exact h3.symm
    · rw [Tr.get_nil] at he; cases he
  · have hl2 := hl
    simp only [initSt, hget] at hl2
    have h1 := hc b l hl2 j c hj
    have hm := List.mem_of_getElem? hl2
    have h2 := (E.vals_fix (ι := ⟨ι.p, ι'.h⟩) (h := initHeap 0 blks .nil) hr hi' rfl l (hbs l hm)).trans (hA2 l hm)
    have h3 := congrArg (fun x => x[j]?) h2
    simp only [E.vals_get, hj, Option.map_some, Option.some.injEq] at h3
    rw [h3, hi b (by rw [hl]; rfl)]
    exact h1
  · have hl2 := hl
    have hl2' := hl'
    simp only [initSt, hget] at hl2 hl2'
    rw [hi b (by rw [hl]; rfl), hi b' (by rw [hl']; rfl)] at he ⊢
    exact hap b b' l l' hl2 hl2' hne he j j' hj hj'
  · simp only [initSt, hget] at hl
    have := (List.getElem?_eq_some_iff.1 hl).1
    simp only [initSt] at hnp
    omega
  · have hl2 := hl
    simp only [initSt, hget] at hl2
    rw [hi b (by rw [hl]; rfl)]
    exact hgap b l hl2 j hj

/-- Parameters that are places are numbered; what lies there is a block. -/
def mkArgs : Nat → List Ptr → List E → List E
  | _, [], l => l
  | k, p :: r, l => (mkArgs (k + 1) r l).set p.1 (.ptr k 0)
def mkBlks (av : List E) : List Ptr → Option (List (List E))
  | [] => some []
  | p :: r => match av[p.1]?, mkBlks av r with
    | some (.agg l), some b => if l.length = p.2.1 then some (l :: b) else none
    | _, _ => none
theorem mkArgs_set (x : E) : ∀ (r : List Ptr) (k : Nat) (l : List E) (pos : Nat), (∀ p ∈ r, p.1 ≠ pos) → mkArgs k r (l.set pos x) = (mkArgs k r l).set pos x
  | [], _, _, _, _ => rfl
  | p :: r, k, l, pos, h => by
    rw [mkArgs, mkArgs, mkArgs_set x r _ l pos fun q hq => h q (List.mem_cons_of_mem _ hq), List.set_comm _ _ (Ne.symm (h p (List.mem_cons_self ..)))]
theorem mkBlks_set (x : E) {av : List E} {pos : Nat} : ∀ (r : List Ptr), (∀ p ∈ r, p.1 ≠ pos) → mkBlks (av.set pos x) r = mkBlks av r
  | [], _ => rfl
  | p :: r, h => by
    rw [mkBlks, mkBlks, mkBlks_set x r fun q hq => h q (List.mem_cons_of_mem _ hq), List.getElem?_set_ne (Ne.symm (h p (List.mem_cons_self ..)))]
theorem mkArgs_out {i : Nat} : ∀ (ptrs : List Ptr) (k : Nat) (l : List E), (∀ p ∈ ptrs, p.1 ≠ i) → (mkArgs k ptrs l)[i]? = l[i]?
  | [], _, _, _ => rfl
  | p :: r, k, l, h => by
    rw [mkArgs, List.getElem?_set_ne (h p (List.mem_cons_self ..)), mkArgs_out r _ l fun q hq => h q (List.mem_cons_of_mem _ hq)]
theorem mkArgs_len : ∀ (ptrs : List Ptr) (k : Nat) (l : List E), (mkArgs k ptrs l).length = l.length
  | [], _, _ => rfl
  | p :: r, k, l => by rw [mkArgs]; simp [mkArgs_len r]
theorem mkArgs_in : ∀ (ptrs : List Ptr) (k : Nat) (l : List E), (ptrs.map (·.1)).Nodup → ∀ (j : Nat) p, ptrs[j]? = some p → p.1 < l.length → (mkArgs k ptrs l)[p.1]? = some (.ptr (k + j) 0)
  | [], _, _, _, j, p, h, _ => by simp at h
  | p :: r, k, l, hnd, 0, p', h, hl => by
    simp at h
    subst h
    rw [mkArgs, List.getElem?_set_self (by rw [mkArgs_len]; exact hl)]
    rfl
  | p :: r, k, l, hnd, j + 1, p', h, hl => by
    rw [List.map_cons, List.nodup_cons] at hnd
    have h' : r[j]? = some p' := by simpa using h
    have hne : p.1 ≠ p'.1 := fun e => hnd.1 (List.mem_map.2 ⟨p', List.mem_of_getElem? h', e.symm⟩)
    rw [mkArgs, List.getElem?_set_ne hne, mkArgs_in r (k + 1) l hnd.2 j p' h' hl]
    congr 2
    omega
/-- What Points tells, place by place. -/
theorem points_spec {w : World} {h : Nat → OneV} {args : List Value} : ∀ (ptrs : List Ptr) (qs : List (Nat × Nat)) (vs : List Value), Points w h args ptrs vs qs → (ptrs.map (·.1)).Nodup →
    qs.length = ptrs.length ∧ args.length = vs.length ∧ (∀ i, (∀ p ∈ ptrs, p.1 ≠ i) → args[i]? = (vs[i]?).map (concE h)) ∧
    ∀ (j : Nat) p q, ptrs[j]? = some p → qs[j]? = some q → ∃ sl cs, args[p.1]? = some (placeA sl q p.2.1) ∧ (p.1 < vs.length → vs[p.1]? = some (placeV sl cs)) ∧ ∀ (j : Nat) (c : Value), cs[j]? = some c → w.cell? ⟨q.1, q.2 + j, none⟩ = some (concC h c) ∧ w.frozen? ⟨q.1, q.2 + j, none⟩ = false
  | [], qs, vs, hp, _ => by
    obtain ⟨h1, h2⟩ := hp
    subst h1 h2
    exact ⟨rfl, by simp, fun i _ => by simp, fun j p q h => by simp at h⟩
  | (_, _, _) :: _, [], _, hp, _ => hp.elim
  | (pos, n, out) :: r, q :: qs, vs, hp, hnd => by
    obtain ⟨sl, cs, vs', h1, h2, _, h4, h5⟩ := hp
    rw [List.map_cons, List.nodup_cons] at hnd
    obtain ⟨i1, i2, i3, i4⟩ := points_spec r qs vs' h1 hnd.2
    subst h2
    refine ⟨by simp [i1], by simp [i2], fun i hi => ?_, fun j p q' hj hq => ?_⟩
    · rw [i3 i fun p hp => hi p (List.mem_cons_of_mem _ hp), List.getElem?_set_ne (hi _ (List.mem_cons_self ..))]
    · cases j with
      | zero =>
        simp at hj hq
        subst hj hq
        exact ⟨sl, cs, h4, fun hl => List.getElem?_set_self (by simpa using hl), h5⟩
      | succ j =>
        have hj' : r[j]? = some p := by simpa using hj
        obtain ⟨sl', cs', g1, g2, g3⟩ := i4 j p q' hj' (by simpa using hq)
        have hne : pos ≠ p.1 := fun e => hnd.1 (List.mem_map.2 ⟨p, List.mem_of_getElem? hj', e.symm⟩)
        exact ⟨sl', cs', g1, fun hl => by rw [List.getElem?_set_ne hne]; exact g2 (by simpa using hl), g3⟩
theorem mkBlks_length {av : List E} : ∀ {ptrs : List Ptr} {bs : List (List E)}, mkBlks av ptrs = some bs → bs.length = ptrs.length ∧ ∀ (j : Nat) (l : List E) (p : Ptr), bs[j]? = some l → ptrs[j]? = some p → l.length = p.2.1 ∧ av[p.1]? = some (.agg l)
  | [], _, h => by cases h; exact ⟨rfl, fun j l p h => by simp at h⟩
  | p :: r, _, h => by
    unfold mkBlks at h
    split at h
    · rename_i l b h1 h2
      split at h
      · rename_i hl
        cases h
        obtain ⟨h3, h4⟩ := mkBlks_length h2
        refine ⟨by simp [h3], fun j l' p' hj hp => ?_⟩
        cases j with
        | zero => simp at hj hp; subst hj hp; exact ⟨hl, h1⟩
        | succ j => exact h4 j l' p' (by simpa using hj) (by simpa using hp)
      · cases h
    · cases h
theorem noPtrs_get : ∀ {l : List E} {i : Nat} {e : E}, E.noPtrs l = true → l[i]? = some e → e.noPtr = true
  | [], i, e, _, h => by simp at h
  | x :: l, 0, e, h, he => by simp only [E.noPtrs, Bool.and_eq_true] at h; simp at he; subst he; exact h.1
  | x :: l, i + 1, e, h, he => by simp only [E.noPtrs, Bool.and_eq_true] at h; exact noPtrs_get h.2 (by simpa using he)
theorem points_args {w : World} {args : List Value} {ρ : Env} (ptrs : List Ptr) (qs : List (Nat × Nat)) (vs : List Value) (av : List E) (bs : List (List E)) (ι : Lay) (hp : Points w ι.h args ptrs vs qs) (hv : vs = E.nams ρ lay0 av) (hnd : (ptrs.map (·.1)).Nodup) (hb : mkBlks av ptrs = some bs) (hno : E.noPtrs av = true)
    (hι : ∀ j q, qs[j]? = some q → ι j = q) : args = E.vals ρ ι (mkArgs 0 ptrs av) ∧ qs.length = ptrs.length ∧
      ∀ (j : Nat) (l : List E) (q : Nat × Nat), bs[j]? = some l → qs[j]? = some q → ∀ (i : Nat) (c : E), l[i]? = some c → w.cell? ⟨q.1, q.2 + i, none⟩ = some (c.val ρ ι) ∧ w.frozen? ⟨q.1, q.2 + i, none⟩ = false := by
  obtain ⟨h1, h2, h3, h4⟩ := points_spec ptrs qs vs hp hnd
  obtain ⟨b1, b2⟩ := mkBlks_length hb
  have hkey : ∀ (j : Nat) p q, ptrs[j]? = some p → qs[j]? = some q → ∃ l, bs[j]? = some l ∧ av[p.1]? = some (.agg l) ∧ args[p.1]? = some (.pointer (some ⟨q.1, q.2, none⟩)) ∧ ∀ (i : Nat) (c : E), l[i]? = some c → w.cell? ⟨q.1, q.2 + i, none⟩ = some (c.val ρ ι) ∧ w.frozen? ⟨q.1, q.2 + i, none⟩ = false := fun j p q hj hq => by
    have hjl : j < bs.length := by rw [b1]; exact (List.getElem?_eq_some_iff.1 hj).1
    have hl := List.getElem?_eq_getElem hjl
    obtain ⟨_, hav⟩ := b2 j _ p hl hj
    obtain ⟨sl, cs, g1, g2, g3⟩ := h4 j p q hj hq
    have hlt : p.1 < av.length := (List.getElem?_eq_some_iff.1 hav).1
    have g2 := g2 (by rw [hv, E.nams_length]; exact hlt)
    rw [hv, E.nams_get, hav] at g2
    simp only [Option.map_some, E.nam, Option.some.injEq] at g2
    obtain rfl : sl = none := by
      cases sl with
      | none => rfl
      | some c => simp [placeV] at g2
    simp only [placeV, Value.agg.injEq] at g2
    have hcs : cs = E.nams ρ lay0 bs[j] := (congrArg Array.toList g2).symm
    refine ⟨_, hl, hav, g1, fun i c hc => ?_⟩
    have hok : (bs[j]).all E.cellOk = true := noPtrs_get hno hav
    have := g3 i (c.nam ρ lay0) (by rw [hcs, E.nams_get, hc]; rfl)
    rw [E.cell_conc ρ ι (fun _ => (0, 0)) (List.all_eq_true.1 hok _ (List.mem_of_getElem? hc))]
    exact this
  refine ⟨?_, h1, fun j l q hl hq i c hc => ?_⟩
  · apply List.ext_getElem?
    intro i
    by_cases hi : ∀ p ∈ ptrs, p.1 ≠ i
    · rw [h3 i hi, E.vals_get, mkArgs_out ptrs 0 av hi, hv, E.nams_get]
      cases hq : av[i]? with
      | none => rfl
      | some e => simp only [Option.map_some]; rw [E.val_conc ρ ι (fun _ => (0, 0)) (noPtrs_get hno hq)]; rfl
    · simp only [ne_eq, Classical.not_forall, Classical.not_not] at hi
      obtain ⟨p, hpm, rfl⟩ := hi
      obtain ⟨j, hj⟩ := List.getElem?_of_mem hpm
      have hjl : j < qs.length := by rw [h1]; exact (List.getElem?_eq_some_iff.1 hj).1
      have hq := List.getElem?_eq_getElem hjl
      obtain ⟨l, g1, g2, g3, g4⟩ := hkey j p _ hj hq
      rw [g3, E.vals_get, mkArgs_in ptrs 0 av hnd j p hj (List.getElem?_eq_some_iff.1 g2).1]
      simp only [Option.map_some, E.val, Nat.zero_add, hι j _ hq, Nat.add_zero]
  · have hjl : j < ptrs.length := by rw [← b1]; exact (List.getElem?_eq_some_iff.1 hl).1
    obtain ⟨l', g1, g2, g3, g4⟩ := hkey j _ q (List.getElem?_eq_getElem hjl) hq
    rw [hl] at g1
    cases g1
    exact g4 i c hc

/-- What a run hands back, and has written. -/
def outsT (σ : St) : Nat → Tr (List E)
  | 0 => .nil
  | n + 1 => match σ.wr.get n, σ.heap.get n with
    | some _, some l => (outsT σ n).set n l
    | _, _ => outsT σ n
theorem outsT_get (σ : St) : ∀ (n : Nat), n ≤ 1099511627776 → ∀ k, (outsT σ n).get k = if k < n ∧ (σ.wr.get k).isSome then σ.heap.get k else none
  | 0, _, k => by simp [outsT, Tr.get_nil]
  | n + 1, h, k => by
    unfold outsT
    have ih := outsT_get σ n (by omega) k
    split
    · rename_i l h1 h2
      rw [Tr.get_set _ _ _ _ (by omega), ih]
      by_cases e : k = n
      · subst e; simp [h1, h2]
      · rw [if_neg e]
        by_cases e2 : k < n
        · simp [e2, show k < n + 1 by omega]
        · simp [e2, show ¬ k < n + 1 by omega]
    · rename_i hno
      rw [ih]
      by_cases e : k = n
      · subst e
        simp only [Nat.lt_irrefl, false_and, if_false, Nat.lt_succ_self, true_and]
        split
        · rename_i h3
          obtain ⟨u, hu⟩ := Option.isSome_iff_exists.1 h3
          cases hq : σ.heap.get k with
          | none => rfl
          | some l => exact (hno u l hu hq).elim
        · rfl
      · by_cases e2 : k < n
        · simp [e2, show k < n + 1 by omega]
        · simp [e2, show ¬ k < n + 1 by omega]
def mini (gh np : Nat) (σ : St) (e : E) : St := { n := 0, tmps := .node .nil (some e) .nil, heap := outsT σ np, np := 0, wr := .nil, nv := 0, nk := 0, pc := [], gh := if gh = 0 then 0 else σ.gh }
def finT (P : Program) (fn : Func) (gh np : Nat) (x : Ex) (σ : St) : Tree := match x with
  | .normal => match resE P fn σ with | some e => if σ.np = np then .leaf .ret (mini gh np σ e) else .fail 21 | none => .fail 16
  | .ret => match resE P fn σ with | some e => if σ.np = np then .leaf .ret (mini gh np σ e) else .fail 21 | none => .fail 16
  | _ => .fail 17
/-- A function's run, av it is asked for. -/
def runF (P : Program) (cs : List Con) (LT : List (Nat × LS)) (depth fuel : Nat) (f : FuncId) (gh nv : Nat) (ptrs : List Ptr) (av : List E) : Tree := match P.funcs[f]? with
  | none => .fail 18
  | some fn => match fn.body, mkBlks av ptrs with
    | some c, some bs => if (mkArgs 0 ptrs av).length ≤ fn.ntmps ∧ fn.ntmps ≤ 1099511627776 ∧ bs.length ≤ 1099511627776 ∧ E.lts nv av ∧ E.noPtrs av ∧ (ptrs.map (·.1)).Nodup ∧ 0 < nv then
        (run P cs (inlD P cs LT fuel depth) LT fuel c (initSt fn.ntmps nv (mkArgs 0 ptrs av) bs)).bind (finT P fn gh bs.length)
      else .fail 19
    | _, _ => .fail 20
/-- A contract: what is handed back, and written, in the variables from 0 on. -/
def mkCon (f : FuncId) (ptrs : List (Nat × Nat × Option (List E))) (res : E) (gh : Nat := 0) : Con :=
  ⟨f, ptrs.map (fun p => (p.1, p.2.1, p.2.2.map (fun l b => E.shifts b l))), fun b => res.shift b, gh, 0, 0⟩
def barePtrs (ptrs : List (Nat × Nat × Option (List E))) : List Ptr := ptrs.map fun p => (p.1, p.2.1, none)
/-- What is to be shown of a run's end. -/
def KOuts (sp ρ : Env) (h : Tr (List E)) : Nat → List (Nat × Nat × Option (List E)) → Prop
  | _, [] => True
  | k, p :: r => (match p.2.2, h.get k with
    | none, none => True
    | some l, some l' => l'.length = p.2.1 ∧ l.length = p.2.1 ∧ l'.all E.cellOk = true ∧ E.nams ρ lay0 l' = E.nams sp lay0 l
    | _, _ => False) ∧ KOuts sp ρ h (k + 1) r
def KF (ptrs : List (Nat × Nat × Option (List E))) (res : E) (sp : Env) (gh : Nat) (ρ : Env) (x : Ex) (m : St) : Prop := match x, m.tmps with
  | .ret, .node _ (some e) _ => e.noPtr = true ∧ e.nam ρ lay0 = res.nam sp lay0 ∧ KOuts sp ρ m.heap 0 ptrs ∧ (gh = 0 ∨ ρ.g m.gh = sp.g gv)
  | _, _ => False
def chkCon (ptrs : List (Nat × Nat × Option (List E))) (res : E) (gh : Nat) : Bool := (gh == 2 || (gh == 0 && res.noH)) && res.lt stride && res.noPtr && ptrs.all fun p => match p.2.2 with | some l => E.lts stride l && l.all E.cellOk && (gh == 2 || E.noHs l) | none => true
/-- A function that asks no store is asked with plain values. -/
def okG (gh : Nat) (ptrs : List (Nat × Nat × Option (List E))) (av : List E) : Bool := gh == 2 || (((mkArgs 0 (barePtrs ptrs) av).all fun e => e.noH || e.pl.isSome) && av.all fun e => match e with | .agg l => E.noHs l | _ => true)

theorem KOuts_get {sp ρ : Env} {h : Tr (List E)} : ∀ {ptrs : List (Nat × Nat × Option (List E))} {k : Nat}, KOuts sp ρ h k ptrs → ∀ j p, ptrs[j]? = some p → match p.2.2, h.get (k + j) with
    | none, none => True
    | some l, some l' => l'.length = p.2.1 ∧ l.length = p.2.1 ∧ l'.all E.cellOk = true ∧ E.nams ρ lay0 l' = E.nams sp lay0 l
    | _, _ => False
  | [], _, _, j, p, hj => by simp at hj
  | p :: r, k, hk, 0, p', hj => by simp at hj; subst hj; exact hk.1
  | p :: r, k, hk, j + 1, p', hj => by
    have := KOuts_get hk.2 j p' (by simpa using hj)
    rwa [show k + 1 + j = k + (j + 1) by omega] at this

section
variable {P : Program} {cs : List Con} {S : List ConS}
mutual
theorem fix_of_lt {n : Nat} {h : Tr (List E)} : ∀ e : E, e.lt n = true → e.noAdr = true → e.fix n h = true
  | .int _ _, h, _ => h
  | .bool _, h, _ => h
  | .lit _, _, _ => rfl
  | .var _, h, _ => h
  | .hnd _, h, _ => h
  | .pla _ _ _, h, _ => h
  | .ptr _ _, _, h => by simp [E.noAdr] at h
  | .slice _ _ _ _, _, h => by simp [E.noAdr] at h
  | .at _ _ _ _ _, _, h => by simp [E.noAdr] at h
  | .agg l, h, h' => by simp only [E.lt] at h; simp only [E.noAdr] at h'; simp only [E.fix, fixs_of_adr l h h']
  | .tup l, h, h' => by simp only [E.lt] at h; simp only [E.noAdr] at h'; simp only [E.fix, fixs_of_adr l h h']
  | .func _ l, h, h' => by simp only [E.lt] at h; simp only [E.noAdr] at h'; simp only [E.fix, fixs_of_adr l h h']
  | .iface _ e, h, h' => by simp only [E.lt] at h; simp only [E.noAdr] at h'; simp only [E.fix, fix_of_lt e h h']
theorem fixs_of_adr {n : Nat} {h : Tr (List E)} : ∀ l : List E, E.lts n l = true → E.noAdrs l = true → E.fixs n h l = true
  | [], _, _ => rfl
  | e :: l, h, h' => by simp only [E.lts, Bool.and_eq_true] at h; simp only [E.noAdrs, Bool.and_eq_true] at h'; simp only [E.fixs, fix_of_lt e h.1 h'.1, fixs_of_adr l h.2 h'.2, Bool.and_self]
end
theorem fixs_of_lts {n : Nat} {h : Tr (List E)} {l : List E} (h1 : E.lts n l = true) (h2 : E.noPtrs l = true) : E.fixs n h l = true := fixs_of_adr l h1 (E.ptrs_adr h2)
theorem mkArgs_fix {n : Nat} {h : Tr (List E)} : ∀ (ptrs : List Ptr) (k : Nat) (l : List E), E.fixs n h l = true → (∀ j, k ≤ j → j < k + ptrs.length → (h.get j).isSome) → E.fixs n h (mkArgs k ptrs l) = true
  | [], _, _, hl, _ => hl
  | p :: r, k, l, hl, hk => by
    have set : ∀ (l : List E) (i : Nat) (x : E), x.fix n h = true → E.fixs n h l = true → E.fixs n h (l.set i x) = true := by
      intro l
      induction l with
      | nil => exact fun _ _ _ h => h
      | cons e l ih =>
        intro i x hx hl
        simp only [E.fixs, Bool.and_eq_true] at hl
        cases i with
        | zero => simp only [List.set_cons_zero, E.fixs, Bool.and_eq_true]; exact ⟨hx, hl.2⟩
        | succ i => simp only [List.set_cons_succ, E.fixs, Bool.and_eq_true]; exact ⟨hl.1, ih i x hx hl.2⟩
    rw [mkArgs]
    refine set _ _ _ ?_ (mkArgs_fix r (k + 1) l hl fun j h1 h2 => hk j (by omega) (by simp only [List.length_cons]; omega))
    simp only [E.fix]
    exact hk k (Nat.le_refl _) (by simp only [List.length_cons]; omega)
theorem apartQ_get : ∀ {ptrs : List Ptr} {qs : List (Nat × Nat)}, ApartQ ptrs qs → ∀ (j k : Nat) (p p' : Ptr) (q q' : Nat × Nat), ptrs[j]? = some p → qs[j]? = some q → ptrs[k]? = some p' → qs[k]? = some q' → j < k → (p.2.2.isSome ∨ p'.2.2.isSome) → q.1 = q'.1 → ∀ i i', i < p.2.1 → i' < p'.2.1 → q.2 + i ≠ q'.2 + i'
  | [], _, _, j, k, _, _, _, _, h, _, _, _, _ => by simp at h
  | _ :: _, [], _, j, k, _, _, _, _, _, h, _, _, _ => by simp at h
  | x :: r, y :: qs, ha, 0, k + 1, p, p', q, q', h1, h2, h3, h4, _ => by
    simp at h1 h2 h3 h4
    subst h1 h2
    refine ha.1 p' q' ?_
    have h5 : (r.zip qs)[k]? = some (p', q') := by rw [List.getElem?_zip_eq_some]; exact ⟨h3, h4⟩
    exact List.mem_of_getElem? h5
  | x :: r, y :: qs, ha, j + 1, k + 1, p, p', q, q', h1, h2, h3, h4, hl => apartQ_get ha.2 j k p p' q q' (by simpa using h1) (by simpa using h2) (by simpa using h3) (by simpa using h4) (by omega)

/-- Parameters that are only read may share memory; the run takes each for itself: so at most one is a place, or each that is one lies apart. -/
def Sole (ptrs : List (Nat × Nat × Option (List E))) : Bool := decide (ptrs.length ≤ 1) || ptrs.all fun p => p.2.2.isSome
/-- A CONTRACT OUT OF A RUN. -/
theorem con_of_run [Kinds] (hC : Cons P cs S) (hm : P.follows .mixedOrders = true) {LT : List (Nat × LS)} {depth fuel nv : Nat} {f : FuncId} {ptrs : List (Nat × Nat × Option (List E))} {res : E} {gh : Nat} {av : List E} {s : ConS} {T : Tree}
    (hchk : (chkCon ptrs res gh && Sole ptrs && okG gh ptrs av && decide (f < primBase)) = true) (hT : runF P cs LT depth fuel f gh nv (barePtrs ptrs) av = T)
    (hdec : ∀ vs g e0, s (if gh = 0 then vs else vs ++ [g]) e0 → ∃ LQ ρ, vs = E.nams ρ lay0 av ∧ ρ.g (nv - 1) = (if gh = 0 then Kinds.none else g) ∧ treeSem S LQ (KF ptrs res e0 gh) ρ T) : (mkCon f ptrs res gh).holds P s := by
  simp only [Bool.and_eq_true, decide_eq_true_eq] at hchk
  obtain ⟨⟨⟨hchk, hsole⟩, hokg⟩, hfp⟩ := hchk
  refine ⟨⟨fun _ => ?_, fun hp => absurd hp (Nat.not_le.2 hfp)⟩, fun h => absurd rfl h, fun h => absurd rfl h⟩
  intro w args vs qs e0 h F g hpts0 hap hgh hpre
  have hpts := hpts0 h (.inl rfl)
  unfold chkCon at hchk
  simp only [Bool.and_eq_true] at hchk
  obtain ⟨⟨⟨hgk, hlt⟩, hnop⟩, houts⟩ := hchk
  obtain ⟨LQ, ρ, hvs, hρg, ht⟩ := hdec vs g e0 hpre
  subst hT
  unfold runF at ht
  split at ht
  · exact ht.elim
  · rename_i fn hf
    split at ht
    · rename_i c bs hb hbs
      split at ht
      · rename_i hc
        obtain ⟨c1, c2, c3, c4, c5, c6, c7⟩ := hc
        -- the places
        have hbare : ∀ h' vs qs, Points w h' args (mkCon f ptrs res gh).ptrs vs qs → Points w h' args (barePtrs ptrs) vs qs := by
          intro h'
          have key : ∀ (l : List (Nat × Nat × Option (List E))) (vs : List Value) (qs : List (Nat × Nat)), Points w h' args (l.map (fun p => (p.1, p.2.1, p.2.2.map (fun l b => E.shifts b l)))) vs qs → Points w h' args (barePtrs l) vs qs := by
            intro l
            induction l with
            | nil => exact fun _ _ h => h
            | cons p l ih =>
              intro vs qs h
              cases qs with
              | nil => exact h.elim
              | cons q qs =>
                obtain ⟨sl, cs, vs', h1, h2⟩ := h
                exact ⟨sl, cs, vs', ih vs' qs h1, h2⟩
          exact fun vs qs => key ptrs vs qs
        have hpts' := hbare h vs qs hpts
        have hplen : (barePtrs ptrs).length = ptrs.length := by simp [barePtrs]
        have hq0 : ∀ j q, qs[j]? = some q → qs.getD j (0, 0) = q := fun j q hj => by simp [hj]
        obtain ⟨h1, h2, h3⟩ := points_args (ρ := ρ) (barePtrs ptrs) qs vs av bs ⟨fun k => qs.getD k (0, 0), h⟩ hpts' hvs c6 hbs c5 hq0
        rw [hplen] at h2
        obtain ⟨b1, b2⟩ := mkBlks_length hbs
        rw [hplen] at b1
        have hpt : ∀ (j : Nat) p, ptrs[j]? = some p → (barePtrs ptrs)[j]? = some (p.1, p.2.1, none) := fun j p hj => by simp [barePtrs, hj]
        have hbl : ∀ (j : Nat) l, bs[j]? = some l → ∃ p q, ptrs[j]? = some p ∧ qs[j]? = some q ∧ l.length = p.2.1 := fun j l hj => by
          have hj' : j < ptrs.length := by rw [← b1]; exact (List.getElem?_eq_some_iff.1 hj).1
          have hp := List.getElem?_eq_getElem hj'
          have hq : qs[j]? = some (qs[j]'(by omega)) := List.getElem?_eq_getElem (by omega)
          exact ⟨_, _, hp, hq, (b2 j l _ hj (hpt j _ hp)).1⟩
        have hget : ∀ b, (initHeap 0 bs .nil).get b = bs[b]? := fun b => by
          rw [get_initHeap _ _ _ _ (by omega)]
          split
          · simp
          · rw [Tr.get_nil, List.getElem?_eq_none (by omega)]
        have hblk_no : ∀ l ∈ bs, E.fixs nv (initHeap 0 bs .nil) l = true := fun l hl => by
          obtain ⟨j, hj⟩ := List.getElem?_of_mem hl
          obtain ⟨p, q, hp, _, _⟩ := hbl j l hj
          have hbj := (b2 j l _ hj (hpt j p hp)).2
          have hltl : ∀ (l : List E) (i : Nat) (e : E), E.lts nv l = true → l[i]? = some e → e.lt nv = true := by
            intro l
            induction l with
            | nil => intro i e _ h; simp at h
            | cons x l ih =>
              intro i e h1 he
              simp only [E.lts, Bool.and_eq_true] at h1
              cases i with
              | zero => simp at he; subst he; exact h1.1
              | succ i => exact ih i e h1.2 (by simpa using he)
          exact fixs_of_adr l (hltl av _ _ c4 hbj) (E.cells_adr (noPtrs_get c5 hbj))
        -- the store
        obtain ⟨F0, hF0, hFq, hF2⟩ : ∃ F0 : Foot, Kinds.holds w h F0 (ρ.g (nv - 1)) ∧ FootQ F0 (mkCon f ptrs res gh).ptrs qs ∧ (gh = 0 ∧ F0 = (fun _ _ => False) ∨ gh ≠ 0 ∧ F0 = F ∧ ρ.g (nv - 1) = g) := by
          by_cases e : gh = 0
          · rw [if_pos e] at hρg
            rw [hρg]
            exact ⟨_, Kinds.none_holds w h, fun _ _ _ _ _ h => h, .inl ⟨e, rfl⟩⟩
          · rw [if_neg e] at hρg
            obtain ⟨q1, q2⟩ := hgh e
            rw [hρg]
            exact ⟨F, q1, q2, .inr ⟨e, rfl, rfl⟩⟩
        have hzip : ∀ (j : Nat) p q, ptrs[j]? = some p → qs[j]? = some q → ((p.1, p.2.1, p.2.2.map (fun (l : List E) (b : Nat) => E.shifts b l)), q) ∈ (mkCon f ptrs res gh).ptrs.zip qs := fun j p q hp hq => by
          have : ((mkCon f ptrs res gh).ptrs.zip qs)[j]? = some ((p.1, p.2.1, p.2.2.map (fun l b => E.shifts b l)), q) := by
            rw [List.getElem?_zip_eq_some]
            exact ⟨by simp [mkCon, hp], hq⟩
          exact List.mem_of_getElem? this
        have hinv : ∀ h', (∀ n, n < Kinds.cnt (ρ.g (nv - 1)) → h' n = h n) → E.vals ρ ⟨fun k => qs.getD k (0, 0), h'⟩ (mkArgs 0 (barePtrs ptrs) av) = E.vals ρ ⟨fun k => qs.getD k (0, 0), h⟩ (mkArgs 0 (barePtrs ptrs) av) ∧
            ∀ l ∈ bs, E.vals ρ ⟨fun k => qs.getD k (0, 0), h'⟩ l = E.vals ρ ⟨fun k => qs.getD k (0, 0), h⟩ l := by
          intro h' hh
          rcases hF2 with ⟨e, _⟩ | ⟨e, _, hg'⟩
          · unfold okG at hokg
            rw [Bool.or_eq_true, Bool.and_eq_true] at hokg
            rcases hokg with hk | ⟨k1, k2⟩
            · simp [e] at hk
            · refine ⟨?_, fun l hl => ?_⟩
              · have key : ∀ l : List E, (l.all fun e => e.noH || e.pl.isSome) = true → E.vals ρ ⟨fun k => qs.getD k (0, 0), h'⟩ l = E.vals ρ ⟨fun k => qs.getD k (0, 0), h⟩ l := by
                  intro l
                  induction l with
                  | nil => exact fun _ => rfl
                  | cons x l ih =>
                    intro hl
                    simp only [List.all_cons, Bool.and_eq_true, Bool.or_eq_true] at hl
                    simp only [E.vals, ih hl.2]
                    congr 1
                    rcases hl.1 with hx | hx
                    · exact E.val_noH _ _ _ _ hx
                    · cases x <;> simp only [E.pl, Option.isSome_none, Bool.false_eq_true] at hx <;> rfl
                exact key _ k1
              · obtain ⟨j, hj⟩ := List.getElem?_of_mem hl
                obtain ⟨p, q, hp, _, _⟩ := hbl j l hj
                have := List.all_eq_true.1 k2 _ (List.mem_of_getElem? (b2 j l _ hj (hpt j p hp)).2)
                exact E.vals_noH _ _ _ _ this
          · have hp2 := hbare h' vs qs (hpts0 h' (.inr ⟨e, fun n hn => hh n (by rw [hg']; exact hn)⟩))
            obtain ⟨h1', h2', h3'⟩ := points_args (ρ := ρ) (barePtrs ptrs) qs vs av bs ⟨fun k => qs.getD k (0, 0), h'⟩ hp2 hvs c6 hbs c5 hq0
            refine ⟨h1'.symm.trans h1, fun l hl => ?_⟩
            obtain ⟨j, hj⟩ := List.getElem?_of_mem hl
            obtain ⟨p, q, hp, hq, _⟩ := hbl j l hj
            apply List.ext_getElem?
            intro i
            rw [E.vals_get, E.vals_get]
            cases hx : l[i]? with
            | none => rfl
            | some c =>
              have q1 := (h3 j l q hj hq i c hx).1
              rw [(h3' j l q hj hq i c hx).1] at q1
              simpa using q1
        have hsim := init_sim (ρ := ρ) (ι := ⟨fun k => qs.getD k (0, 0), h⟩) (F := F0) (w := w) (ntmps := fn.ntmps) (nv := nv) (args := mkArgs 0 (barePtrs ptrs) av) (blks := bs) c7 c1 c2 c3
          (mkArgs_fix _ _ _ (fixs_of_lts c4 c5) (fun j _ hj => by rw [hget, List.getElem?_eq_getElem (by omega)]; rfl)) hblk_no
          (fun k l hk j cc hj => by
            obtain ⟨p, q, hp, hq, _⟩ := hbl k l hk
            have := h3 k l q hk hq j cc hj
            simpa [hq] using this)
          (fun k k' l l' hk hk' hne he j j' hj hj' => by
            obtain ⟨p, q, hp, hq, hl⟩ := hbl k l hk
            obtain ⟨p', q', hp', hq', hl'⟩ := hbl k' l' hk'
            simp only [List.getD_eq_getElem?_getD, hq, hq', Option.getD_some] at he ⊢
            have hlen : k < ptrs.length ∧ k' < ptrs.length := ⟨(List.getElem?_eq_some_iff.1 hp).1, (List.getElem?_eq_some_iff.1 hp').1⟩
            unfold Sole at hsole
            rw [Bool.or_eq_true, decide_eq_true_eq] at hsole
            rcases hsole with hsole | hsole
            · omega
            · have g1 := List.all_eq_true.1 hsole p (List.mem_of_getElem? hp)
              have m1 : (mkCon f ptrs res gh).ptrs[k]? = some (p.1, p.2.1, p.2.2.map (fun l b => E.shifts b l)) := by simp [mkCon, hp]
              have m2 : (mkCon f ptrs res gh).ptrs[k']? = some (p'.1, p'.2.1, p'.2.2.map (fun l b => E.shifts b l)) := by simp [mkCon, hp']
              have g1' : (p.2.2.map (fun (l : List E) (b : Nat) => E.shifts b l)).isSome := by simpa using g1
              have g2' : (p'.2.2.map (fun (l : List E) (b : Nat) => E.shifts b l)).isSome := by simpa using List.all_eq_true.1 hsole p' (List.mem_of_getElem? hp')
              rcases Nat.lt_or_gt_of_ne hne with hlt | hlt
              · exact apartQ_get hap k k' _ _ q q' m1 hq m2 hq' hlt (.inl g1') he j j' (by simp only; omega) (by simp only; omega)
              · exact Ne.symm (apartQ_get hap k' k _ _ q' q m2 hq' m1 hq hlt (.inl g2') he.symm j' j (by simp only; omega) (by simp only; omega)))
          hF0 (fun k l hk j hj => by
            obtain ⟨p, q, hp, hq, hl⟩ := hbl k l hk
            have := hFq _ _ (hzip k p q hp hq) j (by simp only; omega)
            simpa [hq] using this) hinv
        have hargs : args.toArray = (E.vals ρ ⟨fun k => qs.getD k (0, 0), h⟩ (mkArgs 0 (barePtrs ptrs) av)).toArray := by rw [← h1]
        show Calls P f args.toArray w _
        refine calls_of_wp hf hb ?_
        rw [hargs]
        have hsz : (E.vals ρ ⟨fun k => qs.getD k (0, 0), h⟩ (mkArgs 0 (barePtrs ptrs) av)).toArray.size = (mkArgs 0 (barePtrs ptrs) av).length := by simp [E.vals_length]
        rw [hsz]
        refine run_ok hC hm (inlD_ok hC hm depth) c _ _ ?_ _ ρ _ w (treeSem_bind _ _ ht) hsim
        intro ρ' x σ a' w' hk hs'
        -- how it ends
        have hend : (x = .normal ∨ x = .ret) ∧ ∃ e, resE P fn σ = some e ∧ σ.np = bs.length ∧ KF ptrs res e0 gh ρ' .ret (mini gh bs.length σ e) := by
          unfold finT at hk
          split at hk
          · split at hk
            · rename_i e he
              split at hk
              · rename_i hnp; exact ⟨.inl rfl, e, he, hnp, hk⟩
              · exact hk.elim
            · exact hk.elim
          · split at hk
            · rename_i e he
              split at hk
              · rename_i hnp; exact ⟨.inr rfl, e, he, hnp, hk⟩
              · exact hk.elim
            · exact hk.elim
          · exact hk.elim
        obtain ⟨hx, e, he, hnp, hkf⟩ := hend
        obtain ⟨k1, k2, k3, k4⟩ : e.noPtr = true ∧ e.nam ρ' lay0 = res.nam e0 lay0 ∧ KOuts e0 ρ' (outsT σ bs.length) 0 ptrs ∧ (gh = 0 ∨ ρ'.g (if gh = 0 then 0 else σ.gh) = e0.g gv) := hkf
        obtain ⟨ι', F', hats⟩ := hs'
        have hat := hats ρ' (Env.ag_refl _ _) ι' (σ.agL_refl ρ' ι')
        have hres := resE_run hat.held he
        have hout := outsT_get σ bs.length c3
        -- at whatever layout that knows the objects
        have hagh : ∀ ι2 : Lay, AgH gh g (e0.g gv) (if gh = 0 then h else ι'.h) ι2 → ∃ ι3 : Lay, SimAt ρ' ι3 F' ⟨w, ⟨fun k => qs.getD k (0, 0), h⟩, fun b => b < bs.length, Kinds.cnt (ρ.g (nv - 1)), F0⟩ σ a' w' ∧ (gh = 0 ∨ ι3.h = ι2.h) := by
          intro ι2 hA
          by_cases e0' : gh = 0
          · exact ⟨ι', hat, .inl e0'⟩
          · refine ⟨⟨ι'.p, ι2.h⟩, hats ρ' (Env.ag_refl _ _) _ ⟨fun _ _ => rfl, fun n hn => ?_⟩, .inr rfl⟩
            have h2g : gh = 2 := by
              rw [Bool.or_eq_true, Bool.and_eq_true] at hgk
              rcases hgk with hk | hk
              · simpa using hk
              · exact absurd (by simpa using hk.1) e0'
            rcases k4 with k4 | k4
            · exact absurd k4 e0'
            · rw [if_neg e0'] at k4
              have := hA n (by rw [if_neg e0', if_pos h2g, ← k4]; exact hn)
              rw [if_neg e0'] at this
              exact this
        have hval : ∀ (e1 e2 : E) (ι3 ι2 : Lay), e1.noPtr = true → e2.noPtr = true → (gh = 0 → e2.noH = true) → (gh = 0 ∨ ι3.h = ι2.h) → e1.nam ρ' lay0 = e2.nam e0 lay0 → e1.val ρ' ι3 = e2.val e0 ι2 := fun e1 e2 ι3 ι2 n1 n2 n3 hh hv => by
          rw [E.val_conc ρ' ι3 (fun _ => (0, 0)) n1]
          have hv' : e1.nam ρ' (fun _ => (0, 0)) = e2.nam e0 (fun _ => (0, 0)) := hv
          rw [hv']
          rcases hh with hh | hh
          · have := E.val_conc e0 ι3 (fun _ => (0, 0)) n2
            rw [← this]
            exact E.val_noH _ _ _ _ (n3 hh)
          · rw [hh, ← E.val_conc e0 ι2 (fun _ => (0, 0)) n2]
        have hpost : a'.defers = [] ∧ ∃ v, (results fn a'.tmps).run P w' = .ok v w' ∧ ∃ h' F2, GPost ((mkCon f ptrs res gh).gh == 2) (OutS (mkCon f ptrs res gh).ptrs qs) w w' h h' F F2 g (e0.g gv) ∧
            ∀ (ρ2 : Env) (base : Nat), ρ2.At base e0 → (∀ ι : Lay, AgH (mkCon f ptrs res gh).gh g (e0.g gv) h' ι → Ending.returned v = .returned (((mkCon f ptrs res gh).res base).val ρ2 ι)) ∧ Outs w' (AgH (mkCon f ptrs res gh).gh g (e0.g gv) h') ρ2 base (mkCon f ptrs res gh).ptrs qs := by
          have hpar : ∀ (ι3 : Lay), SimAt ρ' ι3 F' ⟨w, ⟨fun k => qs.getD k (0, 0), h⟩, fun b => b < bs.length, Kinds.cnt (ρ.g (nv - 1)), F0⟩ σ a' w' → ∀ b, b < bs.length → ι3 b = qs.getD b (0, 0) := fun ι3 h3 b h2 => (h3.par b h2).2
          have hfr : ∀ i x, i < w.heap.size → (σ.wrote ι' i x ∨ F0 i x) → OutS (mkCon f ptrs res gh).ptrs qs i x ∨ F0 i x := by
            intro i x _ hx
            rcases hx with hx | hx
            rotate_left
            · exact .inr hx
            refine .inl ?_
            obtain ⟨b, l, w1, w2, w3, w4, w5, w6⟩ := hx
            rw [hnp] at w2
            have hb2 : b < ptrs.length := by omega
            have hk := KOuts_get k3 b _ (List.getElem?_eq_getElem hb2)
            rw [Nat.zero_add, hout, if_pos ⟨w2, w1⟩, w3] at hk
            have hι := hpar ι' hat b w2
            have hqb : qs[b]? = some (qs[b]'(by omega)) := List.getElem?_eq_getElem (by omega)
            cases hpo : (ptrs[b]).2.2 with
            | none => simp only [hpo] at hk
            | some lo =>
              simp only [hpo] at hk
              refine ⟨((ptrs[b]).1, (ptrs[b]).2.1, (ptrs[b]).2.2.map (fun l b => E.shifts b l)), qs[b]'(by omega), hzip b _ _ (List.getElem?_eq_getElem hb2) hqb, by simp [hpo], ?_, ?_, ?_⟩
              · rw [w4, hι]; simp [hqb]
              · rw [hι] at w5; simpa [hqb] using w5
              · rw [hι] at w6
                simp only [List.getD_eq_getElem?_getD, hqb, Option.getD_some, hk.1] at w6
                exact w6
          refine ⟨hat.defers, _, hres, (if gh = 0 then h else ι'.h), F', ?_, fun ρ2 base hat2 => ⟨fun ι2 hA => ?_, fun p q gg hz hg ι2 hA j cc hj => ?_⟩⟩
          · unfold GPost
            by_cases h2g : gh = 2
            · have hne : gh ≠ 0 := by omega
              rcases hF2 with ⟨e1, _⟩ | ⟨_, rfl, hg'⟩
              · exact absurd e1 hne
              · rcases k4 with k4 | k4
                · exact absurd k4 hne
                · rw [if_neg hne] at k4
                  rw [if_pos (by simp [mkCon, h2g]), if_neg hne, ← k4]
                  refine ⟨hat.fr.mono hfr, hat.gho, fun i x hx => ?_, ?_, fun n hn => ?_⟩
                  · exact (hat.gow i x hx).symm
                  · have := hat.gcnt
                    rw [hg'] at this
                    exact this
                  · exact hat.gpar n (by rw [hg']; exact hn)
            · have h0g : gh = 0 := by
                rw [Bool.or_eq_true, Bool.and_eq_true] at hgk
                rcases hgk with hk | hk
                · exact absurd (by simpa using hk) h2g
                · simpa using hk.1
              rcases hF2 with ⟨_, rfl⟩ | ⟨e1, _⟩
              · rw [if_neg (by simp [mkCon, h2g]), if_pos h0g]
                exact ⟨hat.fr.mono fun i x hi hx => (hfr i x hi hx).resolve_right id, rfl⟩
              · exact absurd h0g e1
          · obtain ⟨ι3, h3', hh3⟩ := hagh ι2 hA
            have hres3 := resE_run h3'.held he
            rw [hres] at hres3
            injection hres3 with hres3 _
            have hs1 := E.shift_val hat2 (ι := ι2) (ι' := ι2) rfl res hlt (E.ptr_adr hnop)
            show Ending.returned _ = Ending.returned ((res.shift base).val ρ2 ι2)
            rw [hs1, hres3, hval e res ι3 ι2 k1 hnop (fun h0 => by
              rw [Bool.or_eq_true, Bool.and_eq_true] at hgk
              rcases hgk with hk | hk
              · rw [h0] at hk; cases hk
              · exact hk.2) hh3 k2]
          · obtain ⟨ι3, h3', hh3⟩ := hagh ι2 hA
            obtain ⟨k, hk⟩ := List.getElem?_of_mem hz
            rw [List.getElem?_zip_eq_some] at hk
            obtain ⟨hkp, hkq⟩ := hk
            simp only [mkCon, List.getElem?_map, Option.map_eq_some_iff] at hkp
            obtain ⟨p0, hp0, rfl⟩ := hkp
            simp only [Option.map_eq_some_iff] at hg
            obtain ⟨lo, hlo, rfl⟩ := hg
            have hk := KOuts_get k3 k p0 hp0
            have hkl : k < bs.length := by rw [b1]; exact (List.getElem?_eq_some_iff.1 hp0).1
            rw [Nat.zero_add, hout, hlo] at hk
            by_cases hw : k < bs.length ∧ (σ.wr.get k).isSome
            · rw [if_pos hw] at hk
              cases heq2 : σ.heap.get k with
              | none => simp only [heq2] at hk
              | some l2 =>
                simp only [heq2] at hk
                obtain ⟨g1, g2, g3, g4⟩ := hk
                have hι := hpar ι3 h3' k hkl
                have hch := List.all_eq_true.1 houts p0 (List.mem_of_getElem? hp0)
                rw [hlo] at hch
                simp only [Bool.and_eq_true] at hch
                obtain ⟨⟨hch1, hch2⟩, hch3⟩ := hch
                have hs1 := E.shifts_val hat2 (ι := ι2) (ι' := ι2) rfl lo hch1 (E.cells_adr hch2)
                have hj1 : j < lo.length := by
                  have := (List.getElem?_eq_some_iff.1 hj).1
                  rwa [E.shifts_length] at this
                have hj0 : j < l2.length := by omega
                have hcell := (h3'.cell k l2 heq2 j _ (List.getElem?_eq_getElem hj0)).1
                rw [hι] at hcell
                simp only [List.getD_eq_getElem?_getD, hkq, Option.getD_some] at hcell
                rw [hcell]
                have e1 := congrArg (fun x => x[j]?) hs1
                simp only [E.vals_get, hj, List.getElem?_eq_getElem hj1, Option.map_some, Option.some.injEq] at e1
                rw [e1]
                have e2 := congrArg (fun x => x[j]?) g4
                simp only [E.nams_get, List.getElem?_eq_getElem hj0, List.getElem?_eq_getElem hj1, Option.map_some, Option.some.injEq] at e2
                have n1 : (l2[j]).cellOk = true := List.all_eq_true.1 g3 _ (List.getElem_mem _)
                have n2 : (lo[j]).cellOk = true := List.all_eq_true.1 hch2 _ (List.getElem_mem _)
                congr 1
                rw [E.cell_conc ρ' ι3 (fun _ => (0, 0)) n1]
                have e2' : (l2[j]).nam ρ' (fun _ => (0, 0)) = (lo[j]).nam e0 (fun _ => (0, 0)) := e2
                rw [e2']
                rcases hh3 with hh | hh
                · rw [← E.cell_conc e0 ι3 (fun _ => (0, 0)) n2]
                  have hno : E.noHs lo = true := by
                    rw [Bool.or_eq_true] at hch3
                    rcases hch3 with hk | hk
                    · rw [hh] at hk; cases hk
                    · exact hk
                  have e3 := congrArg (fun x => x[j]?) (E.vals_noH e0 ι3 ι2 lo hno)
                  simpa only [E.vals_get, List.getElem?_eq_getElem hj1, Option.map_some, Option.some.injEq] using e3
                · rw [hh, ← E.cell_conc e0 ι2 (fun _ => (0, 0)) n2]
            · rw [if_neg hw] at hk
              exact hk.elim
        rcases hx with rfl | rfl
        · exact hpost
        · exact hpost
      · exact ht.elim
    · exact ht.elim
end
end Sx
end Go.Proofs.Ytaigdbnfhehclaa

namespace Go.Proofs.Ytaigdbnfhehclaa
namespace Sx
open Go.RowKit

/-- m variables from n on; bools; m times the same. -/
def ivs (k : IntKind) (n m : Nat) : List E := (List.range' n m).map fun i => .int k (.var i)
def bvs (n m : Nat) : List E := (List.range' n m).map fun i => .bool (.var i)
def rep (m : Nat) (e : E) : List E := List.replicate m e
def cats : List (List E) → List E
  | [] => []
  | l :: r => l ++ cats r
def leafT (e : E) (h : Tr (List E)) : Tree := .leaf .ret ⟨0, .node .nil (some e) .nil, h, 0, .nil, 0, 0, [], 0⟩
def leafG (e : E) (h : Tr (List E)) (g : Nat) : Tree := .leaf .ret ⟨0, .node .nil (some e) .nil, h, 0, .nil, 0, 0, [], g⟩
/-- The variables that a list of cells tells. -/
def Env.ofL (l : List Value) : Env := ⟨fun n => match l[n]? with | some (.int _ x) => x | _ => 0, fun n => match l[n]? with | some (.bool x) => x | _ => false, fun n => match l[n]? with | some v => v | none => undef⟩
/-- With a store in the variable 199. -/
def Env.st (ρ : Env) (g : Value) : Env := ⟨ρ.i, ρ.b, fun i => if i = 199 then g else ρ.v i⟩
/-- An answer with a store. -/
def Env.ans (ρ : Env) (g : Value) : Env := ⟨ρ.i, ρ.b, fun i => if i = gv then g else ρ.v i⟩
section
variable {S : List ConS} {LQ : LoopS} {K : Env → Ex → St → Prop} {ρ : Env}
theorem sem_split {c : C} {t f : Tree} (h1 : c.den ρ = true → treeSem S LQ K ρ t) (h2 : c.den ρ = false → treeSem S LQ K ρ f) : treeSem S LQ K ρ (.split c t f) := ⟨h1, h2⟩
theorem sem_need {c : C} {t : Tree} (h1 : c.den ρ = true) (h2 : treeSem S LQ K ρ t) : treeSem S LQ K ρ (.need c t) := ⟨h1, h2⟩
theorem sem_or1 {t f : Tree} (h : treeSem S LQ K ρ t) : treeSem S LQ K ρ (.or t f) := .inl h
theorem sem_or2 {t f : Tree} (h : treeSem S LQ K ρ f) : treeSem S LQ K ρ (.or t f) := .inr h
theorem sem_call {ci base : Nat} {vs : List E} {t : Tree} (s : ConS) (e : Env) (h1 : S[ci]? = some s) (h2 : s (E.nams ρ lay0 vs) e) (h3 : treeSem S LQ K (ρ.from_ base e) t) : treeSem S LQ K ρ (.call ci base vs t) := ⟨s, e, h1, h2, h3⟩
theorem sem_loop {j nv : Nat} {B : List (Nat × E)} {t : Tree} (ρn : Env) (h0 : ρ.ag nv ρn) (hb : Bound ρ ρn B) (h1 : LQ.inv j nv ρn) (h2 : t.from_ (nv + stride) = true) (h3 : ∀ ρ1 ρ2 : Env, ρ1.ag (nv + stride) ρ2 → LQ.mu j nv ρ2 = LQ.mu j nv ρ1)
    (h4 : ∀ ρ', ρ.ag nv ρ' → LQ.inv j nv ρ' → treeSem S LQ K ρ' t) : treeSem S LQ K ρ (.loop j nv B t) := ⟨⟨ρn, h0, hb, h1⟩, h2, h3, h4⟩
theorem sem_again {j nv : Nat} {B : List (Nat × E)} (ρn : Env) (h0 : ρ.ag nv ρn) (hb : Bound ρ ρn B) (h1 : LQ.inv j nv ρn) (h2 : LQ.mu j nv ρn < LQ.mu j nv ρ) : treeSem S LQ K ρ (.again j nv B) := ⟨ρn, h0, hb, h1, h2⟩
theorem sem_ret {ptrs : List (Nat × Nat × Option (List E))} {res e : E} {sp : Env} {h : Tr (List E)} (h1 : e.noPtr = true) (h2 : e.nam ρ lay0 = res.nam sp lay0) (h3 : KOuts sp ρ h 0 ptrs) :
    treeSem S LQ (KF ptrs res sp 0) ρ (leafT e h) := ⟨h1, h2, h3, .inl rfl⟩
theorem sem_retG {ptrs : List (Nat × Nat × Option (List E))} {res e : E} {sp : Env} {h : Tr (List E)} {g : Nat} (h1 : e.noPtr = true) (h2 : e.nam ρ lay0 = res.nam sp lay0) (h3 : KOuts sp ρ h 0 ptrs) (h4 : ρ.g g = sp.g gv) :
    treeSem S LQ (KF ptrs res sp 2) ρ (leafG e h g) := ⟨h1, h2, h3, .inr h4⟩
def noLoops : LoopS := ⟨fun _ _ _ => False, fun _ _ _ => 0⟩
end
section
variable [Kinds] {P : Program} {f : FuncId} {res : E}
theorem con_of_ret {s : ConS} (h : ∀ vs e0, s vs e0 → (∀ h, vs.map (concE h) = vs) ∧ ∀ w, Calls P f vs.toArray w (Ret (res.nam e0 lay0) w)) (hchk : (chkCon [] res 0 && decide (f < primBase)) = true) : (mkCon f [] res).holds P s := by
  simp only [Bool.and_eq_true, decide_eq_true_eq] at hchk
  obtain ⟨hchk, hfp⟩ := hchk
  refine ⟨⟨fun _ => ?_, fun hp => absurd hp (Nat.not_le.2 hfp)⟩, fun h => absurd rfl h, fun h => absurd rfl h⟩
  intro w args vs qs e0 hh F g hp _ _ hs
  obtain ⟨rfl, rfl⟩ := hp hh (.inl rfl)
  obtain ⟨h1, h2⟩ := h vs e0 hs
  rw [h1]
  unfold chkCon at hchk
  simp only [Bool.and_eq_true] at hchk
  obtain ⟨⟨⟨hgk, hlt⟩, hnop⟩, _⟩ := hchk
  have hno : res.noH = true := by simpa using hgk
  refine (h2 w).mono ?_
  rintro e w' ⟨rfl, g, rfl⟩
  refine ⟨hh, F, ?_, fun ρ base hat => ⟨fun ι _ => ?_, fun p q g hz => by cases hz⟩⟩
  · exact ⟨Fr.of_below g.below, rfl⟩
  · show Ending.returned _ = Ending.returned ((res.shift base).val ρ ι)
    rw [E.shift_val hat (ι := ι) (ι' := ι) rfl res hlt (E.ptr_adr hnop), E.nam_noH _ ι lay0 _ hno]
theorem ret_of_con {s : ConS} (h : (mkCon f [] res).holds P s) (hchk : (chkCon [] res 0 && decide (f < primBase)) = true) {vs : List Value} {e0 : Env} (hs : s vs e0) (hv : ∀ h, vs.map (concE h) = vs) (w : World) : Calls P f vs.toArray w (Ret (res.nam e0 lay0) w) := by
  simp only [Bool.and_eq_true, decide_eq_true_eq] at hchk
  obtain ⟨hchk, hfp⟩ := hchk
  unfold chkCon at hchk
  simp only [Bool.and_eq_true] at hchk
  obtain ⟨⟨⟨hgk, hlt⟩, hnop⟩, _⟩ := hchk
  have h' := h.1.1 hfp w vs vs [] e0 (fun _ => OneV.undef) (fun _ _ => False) Kinds.none (fun h' _ => ⟨(hv h').symm, rfl⟩) trivial (fun hne => absurd rfl hne) hs
  refine h'.mono ?_
  rintro e w' ⟨h2, F2, hG, hp⟩
  have hat : e0.At 0 e0 := fun j _ => by simp
  have h1 := (hp e0 0 hat).1 ⟨lay0, fun _ => OneV.undef⟩ fun n hn => by simp [mkCon] at hn
  subst h1
  have hs := E.shift_val hat (ι := ⟨lay0, fun _ => OneV.undef⟩) (ι' := ⟨lay0, fun _ => OneV.undef⟩) rfl res hlt (E.ptr_adr hnop)
  have hno : res.noH = true := by simpa using hgk
  rw [show ((mkCon f [] res).res 0).val e0 ⟨lay0, fun _ => OneV.undef⟩ = res.nam e0 lay0 from hs.trans (E.nam_noH _ _ _ _ hno)]
  have hfr : Fr (OutS [] []) w w' := hG.1
  exact Ret.mk (hfr.below fun i x _ ⟨p, q, hz, _⟩ => by cases hz)
theorem holds_or {c : Con} {s s' : ConS} (h : c.holds P s) (h' : c.holds P s') : c.holds P (fun vs e => s vs e ∨ s' vs e) := by
  refine ⟨⟨fun hp => ?_, fun hp => ?_⟩, fun hr => ⟨(h.2.1 hr).1, fun vs g g' e hx hd => ?_⟩, fun hw vs g e hs => ?_⟩
  · intro w args vs qs e0 hh F g hpt ha hg hs
    rcases hs with hs | hs
    · exact h.1.1 hp w args vs qs e0 hh F g hpt ha hg hs
    · exact h'.1.1 hp w args vs qs e0 hh F g hpt ha hg hs
  · intro o ho a w vs e0 hh F g hv hk hs
    rcases hs with hs | hs
    · exact h.1.2 hp o ho a w vs e0 hh F g hv hk hs
    · exact h'.1.2 hp o ho a w vs e0 hh F g hv hk hs
  · exact or_congr ((h.2.1 hr).2 vs g g' e hx hd) ((h'.2.1 hr).2 vs g g' e hx hd)
  · rcases hs with hs | hs
    · exact h.2.2 hw vs g e hs
    · exact h'.2.2 hw vs g e hs
/-- A contract says how it lets the store grow. -/
theorem holds_wr {c : Con} {s : ConS} (k : Nat) (h : c.holds P s) (hx : ∀ vs g e, s (vs ++ [g]) e → Kinds.ext k g (e.g gv)) : ({ c with wr := k } : Con).holds P s := ⟨h.1, h.2.1, fun _ => hx⟩
theorem holds_mono {c : Con} {s s' : ConS} (h : c.holds P s) (hr : c.rd = 0) (hs : ∀ vs e, s' vs e → s vs e) : c.holds P s' :=
  ⟨⟨fun hp w args vs qs e0 hh F g hpt ha hg h0 => h.1.1 hp w args vs qs e0 hh F g hpt ha hg (hs _ _ h0), fun hp o ho a w vs e0 hh F g hv hk h0 => h.1.2 hp o ho a w vs e0 hh F g hv hk (hs _ _ h0)⟩, fun h0 => absurd hr h0, fun hw vs g e h0 => h.2.2 hw vs g e (hs _ _ h0)⟩
end
end Sx
end Go.Proofs.Ytaigdbnfhehclaa
