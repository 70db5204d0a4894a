/-
  What is proved: contracts of the operations on objects, where the types are asked by one computation each; no program in sight. Condition: the types are as said.
-/
import Derived.Test.YteklnfajpignoaaSzD
namespace Go.Proofs.Yteklnfajpignoaa
namespace Sx
open Go.RowKit

section
variable {P : Program}
/-- A type's cells, bytes, and nought. -/
def tyOf (P : Program) (t : TypeId) : Option (Nat × Nat × Value) := (P.info? t).bind fun i => i.zero.map fun z => (i.size, i.bytes, z)
theorem tyOf_spec {t : TypeId} {s b : Nat} {z : Value} (h : tyOf P t = some (s, b, z)) : ∃ i, P.info? t = some i ∧ i.size = s ∧ i.bytes = b ∧ i.zero = some z := by
  unfold tyOf at h
  cases hi : P.info? t with
  | none => simp [hi] at h
  | some i =>
    simp only [hi, Option.bind_some] at h
    cases hz : i.zero with
    | none => simp [hz] at h
    | some z' =>
      simp only [hz, Option.map_some, Option.some.injEq, Prod.mk.injEq] at h
      exact ⟨i, rfl, h.1, h.2.1, by rw [hz, h.2.2]⟩
theorem app_ok {t el : TypeId} {s b : Nat} {z : Value} (hu : P.underlying t = some (.slice el)) (h : tyOf P el = some (s, b, z)) (hc : (decide (0 < s) && z.cells.size == s && z.cells.toList.all Value.oneCell') = true) : (appC t).holds P (conR (appR s b)) := by
  obtain ⟨i, h1, h2, h3, h4⟩ := tyOf_spec h
  simp only [Bool.and_eq_true, decide_eq_true_eq, beq_iff_eq, List.all_eq_true] at hc
  subst h3
  exact app_holds hu h1 h2 hc.1.1 h4 hc.1.2 hc.2
theorem bs_ok {t el : TypeId} {n s b : Nat} {z : Value} (hu : P.underlying t = some (.slice el)) (h : tyOf P el = some (s, b, z)) (hc : (decide (n < 10000) && decide (n * s ≤ 16777216)) = true) : (bsC t n).holds P (conR (bsR s n)) := by
  obtain ⟨i, h1, h2, h3, h4⟩ := tyOf_spec h
  simp only [Bool.and_eq_true, decide_eq_true_eq] at hc
  exact bs_holds hu h1 h2 h4 hc.1 hc.2
theorem ms_ok {t el : TypeId} {b : Nat} {z : Value} (hu : P.underlying t = some (.slice el)) (h : tyOf P el = some (1, b, z)) (hc : (z.oneCell' && plainV z) = true) : (msC t).holds P (conR (msR z b)) := by
  obtain ⟨i, h1, h2, h3, h4⟩ := tyOf_spec h
  simp only [Bool.and_eq_true] at hc
  subst h3
  exact ms_holds hu h1 h2 h4 hc.1 hc.2
theorem alloc_ok {t : TypeId} {s b : Nat} {v : Value} {z : List Value} (h : tyOf P t = some (s, b, v)) (hv : v.cells.toList = z) (hc : (z.all (fun c => c.oneCell' && plainV c) && decide (0 < z.length)) = true) : (allocC t).holds P (conR (allocR z)) := by
  obtain ⟨i, h1, h2, h3, h4⟩ := tyOf_spec h
  simp only [Bool.and_eq_true, decide_eq_true_eq] at hc
  exact alloc_holds h1 h4 hv hc.1 hc.2
theorem lu_ok {t kt et : TypeId} {s b : Nat} {z : Value} {ok : Value → Prop} {r : E} (hu : P.underlying t = some (.map kt et)) (hk : KeyT P kt ok) (h : tyOf P et = some (s, b, z)) (hzc : ∀ h, concE h z = z) (hr : (r.noPtr && r.lt stride) = true) :
    (luC t r).holds P (conR (luR ok z r)) := by
  obtain ⟨i, h1, h2, h3, h4⟩ := tyOf_spec h
  exact lu_holds hu hk h1 h4 hzc hr
theorem ints_ok {t e : TypeId} {n s b : Nat} {z : Value} {k : IntKind} (hu : P.underlying t = some (.array n e)) (h : tyOf P e = some (s, b, z)) (he : P.underlying e = some (.int k)) (hc : P.cellsOf e = 1) (hg : P.eqGuardType P.depth t = false) :
    (eqC t).holds P (conR (CmpR (IntsEq n k) false)) ∧ (neC t).holds P (conR (CmpR (IntsEq n k) true)) := by
  obtain ⟨i, h1, _⟩ := tyOf_spec h
  exact ints_holds hu h1 he hc hg
theorem keyInts_ok {kt e : TypeId} {n s b : Nat} {z : Value} {k : IntKind} (hu : P.underlying kt = some (.array n e)) (h : tyOf P e = some (s, b, z)) (he : P.underlying e = some (.int k)) (hc : P.cellsOf e = 1) : KeyT P kt (IntsKey n k) := by
  obtain ⟨i, h1, _⟩ := tyOf_spec h
  exact keyInts hu h1 he hc
/-- A step through a contract on the store. -/
theorem sem_step {S : List ConS} {LQ : LoopS} {K : Env → Ex → St → Prop} {ρ : Env} {ci base : Nat} {vs : List E} {t : Tree} {R : List Ob → List Value → Env → Prop} (G : List Ob) (l : List Value) (e : Env)
    (h1 : S[ci]? = some (conR R)) (h2 : E.nams ρ lay0 vs = l ++ [encG G]) (h3 : R G l e) (h4 : treeSem S LQ K (ρ.from_ base e) t) : treeSem S LQ K ρ (.call ci base vs t) :=
  sem_call _ e h1 (by rw [h2]; exact ⟨G, l, rfl, h3⟩) h4
end
end Sx
end Go.Proofs.Yteklnfajpignoaa
