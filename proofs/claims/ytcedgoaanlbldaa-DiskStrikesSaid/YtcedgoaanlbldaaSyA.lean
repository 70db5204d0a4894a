/-
  What is proved: plain laws on a table by numbers, and on symbolic integers, bools and values; no program in sight. No condition.
-/
import Derived.Test.YtcedgoaanlbldaaRow
namespace Go.Proofs.Ytcedgoaanlbldaa
namespace Sx
open Go.RowKit

/-- A table by numbers. -/
inductive Tr (α : Type) where
  | nil
  | node (l : Tr α) (v : Option α) (r : Tr α)
variable {α : Type}
def Tr.get : Tr α → Nat → Option α
  | .nil, _ => none
  | .node l v r, n => match n with
    | 0 => v
    | n + 1 => if n % 2 = 0 then l.get (n / 2) else r.get (n / 2)
/-- Set, for numbers below 2 ^ f. -/
def Tr.setF : Nat → Tr α → Nat → α → Tr α
  | 0, t, _, x => match t with
    | .nil => .node .nil (some x) .nil
    | .node l _ r => .node l (some x) r
  | f + 1, t, n, x => match n, t with
    | 0, .nil => .node .nil (some x) .nil
    | 0, .node l _ r => .node l (some x) r
    | n + 1, .nil => if n % 2 = 0 then .node (Tr.setF f .nil (n / 2) x) none .nil else .node .nil none (Tr.setF f .nil (n / 2) x)
    | n + 1, .node l v r => if n % 2 = 0 then .node (Tr.setF f l (n / 2) x) v r else .node l v (Tr.setF f r (n / 2) x)
def Tr.set (t : Tr α) (n : Nat) (x : α) : Tr α := Tr.setF 40 t n x

theorem Tr.get_nil (n : Nat) : (Tr.nil : Tr α).get n = none := by unfold Tr.get; rfl
theorem Tr.get_setF (x : α) : ∀ (f : Nat) (t : Tr α) (n m : Nat), n < 2 ^ f → (Tr.setF f t n x).get m = if m = n then some x else t.get m
  | 0, t, n, m, h => by
    have : n = 0 := by simpa using h
    subst this
    cases t <;> cases m <;> simp [Tr.setF, Tr.get]
  | f + 1, t, n, m, h => by
    cases n with
    | zero => cases t <;> cases m <;> simp [Tr.setF, Tr.get]
    | succ n =>
      have h2 : n / 2 < 2 ^ f := by rw [Nat.pow_succ] at h; omega
      have ih := fun t m => Tr.get_setF x f t (n / 2) m h2
      cases t <;> cases m <;> simp only [Tr.setF]
      · split <;> simp [Tr.get]
      · rename_i m
        split <;> simp only [Tr.get, ih] <;> (repeat' split) <;> first | rfl | omega
      · split <;> simp [Tr.get]
      · rename_i m
        split <;> simp only [Tr.get, ih] <;> (repeat' split) <;> first | rfl | omega
theorem Tr.get_set (t : Tr α) (n m : Nat) (x : α) (h : n < 1099511627776) : (t.set n x).get m = if m = n then some x else t.get m := Tr.get_setF x 40 t n m h

/-- Integers that hang on variables. -/
inductive T where
  | lit (n : Int)
  | var (i : Nat)
  | bin (o : BinOp) (k : IntKind) (a b : T)
  | wrap (k : IntKind) (a : T)
  | mn (a b : T)
  | mx (a b : T)
  | sel (l : List Int) (t : T)
  | add2 (hi : Bool) (a b : T)
  deriving DecidableEq, Repr, Inhabited

def intBin (o : BinOp) (k : IntKind) (x y : Int) : Int := match o with
  | .add => k.wrap (x + y)
  | .sub => k.wrap (x - y)
  | .mul => k.wrap (x * y)
  | .quo => k.wrap (x.tdiv y)
  | .rem => x.tmod y
  | .and => k.wrap (BitVec.ofInt k.bits x &&& BitVec.ofInt k.bits y).toNat
  | .or => k.wrap (BitVec.ofInt k.bits x ||| BitVec.ofInt k.bits y).toNat
  | .xor => k.wrap (BitVec.ofInt k.bits x ^^^ BitVec.ofInt k.bits y).toNat
  | .andNot => k.wrap (BitVec.ofInt k.bits x &&& ~~~BitVec.ofInt k.bits y).toNat
  | .shl => k.wrap (x * 2 ^ min y.toNat k.bits)
  | .shr => x.fdiv (2 ^ min y.toNat k.bits)
  | _ => 0
def intMin (x y : Int) : Int := if y < x then y else x
def intMax (x y : Int) : Int := if x < y then y else x
def intCmp (o : BinOp) (x y : Int) : Bool := match o with
  | .eql => x == y
  | .neq => x != y
  | .lss => x < y
  | .leq => x ≤ y
  | .gtr => x > y
  | .geq => x ≥ y
  | _ => false

/-- What variables stand for. -/
structure Env where
  i : Nat → Int
  b : Nat → Bool
  v : Nat → Value

def T.den (ρ : Env) : T → Int
  | .lit n => n
  | .var i => ρ.i i
  | .bin o k a b => intBin o k (a.den ρ) (b.den ρ)
  | .wrap k a => k.wrap (a.den ρ)
  | .mn a b => intMin (a.den ρ) (b.den ρ)
  | .mx a b => intMax (a.den ρ) (b.den ρ)
  | .sel l t => l.getD (min (t.den ρ).toNat (l.length - 1)) 0
  | .add2 hi a b => if hi then (((a.den ρ).toNat + (b.den ρ).toNat) / 18446744073709551616 : Nat) else (((a.den ρ).toNat + (b.den ρ).toNat) % 18446744073709551616 : Nat)

def T.bin' (o : BinOp) (k : IntKind) (a b : T) : T := match a, b with
  | .lit x, .lit y => .lit (intBin o k x y)
  | a, b => .bin o k a b
def T.wrap' (k : IntKind) (a : T) : T := match a with
  | .lit x => .lit (k.wrap x)
  | a => .wrap k a
def T.mn' (a b : T) : T := match a, b with
  | .lit x, .lit y => .lit (intMin x y)
  | a, b => .mn a b
def T.mx' (a b : T) : T := match a, b with
  | .lit x, .lit y => .lit (intMax x y)
  | a, b => .mx a b
theorem T.den_bin' (ρ : Env) (o : BinOp) (k : IntKind) (a b : T) : (T.bin' o k a b).den ρ = intBin o k (a.den ρ) (b.den ρ) := by
  unfold T.bin'; split <;> rfl
theorem T.den_wrap' (ρ : Env) (k : IntKind) (a : T) : (T.wrap' k a).den ρ = k.wrap (a.den ρ) := by
  unfold T.wrap'; split <;> rfl
theorem T.den_mn' (ρ : Env) (a b : T) : (T.mn' a b).den ρ = intMin (a.den ρ) (b.den ρ) := by
  unfold T.mn'; split <;> rfl
theorem T.den_mx' (ρ : Env) (a b : T) : (T.mx' a b).den ρ = intMax (a.den ρ) (b.den ρ) := by
  unfold T.mx'; split <;> rfl

/-- Bools that hang on variables. -/
inductive C where
  | lit (b : Bool)
  | var (i : Nat)
  | cmp (o : BinOp) (a b : T)
  | not (c : C)
  | ite (c a b : C)
  | iff (a b : C)
  | and (a b : C)
  deriving DecidableEq, Repr, Inhabited
def C.den (ρ : Env) : C → Bool
  | .lit b => b
  | .var i => ρ.b i
  | .cmp o a b => intCmp o (a.den ρ) (b.den ρ)
  | .not c => !c.den ρ
  | .ite c a b => if c.den ρ then a.den ρ else b.den ρ
  | .iff a b => a.den ρ == b.den ρ
  | .and a b => a.den ρ && b.den ρ
def C.eql' (a b : T) : C := match a, b with
  | .lit x, .lit y => .lit (x == y)
  | .lit x, b => .cmp .eql b (.lit x)
  | a, b => .cmp .eql a b
def C.not' : C → C
  | .lit b => .lit !b
  | .not c => c
  | c => .not c
def C.cmp' (o : BinOp) (a b : T) : C := match o with
  | .eql => C.eql' a b
  | .neq => (C.eql' a b).not'
  | o => match a, b with
    | .lit x, .lit y => .lit (intCmp o x y)
    | a, b => .cmp o a b
def C.and' (a b : C) : C := match a, b with
  | .lit true, b => b
  | .lit false, _ => .lit false
  | a, .lit true => a
  | a, b => .and a b
def C.iff' (a b : C) : C := match a, b with
  | .lit x, .lit y => .lit (x == y)
  | .lit true, b => b
  | .lit false, b => b.not'
  | a, .lit true => a
  | a, .lit false => a.not'
  | a, b => .iff a b
def C.ite' (c a b : C) : C := match c with
  | .lit true => a
  | .lit false => b
  | c => .ite c a b
theorem C.den_eql' (ρ : Env) (a b : T) : (C.eql' a b).den ρ = (a.den ρ == b.den ρ) := by
  unfold C.eql'; split
  · rfl
  · simp only [C.den, intCmp, T.den]; rw [Bool.beq_comm]
  · rfl
theorem C.den_not' (ρ : Env) (c : C) : c.not'.den ρ = !c.den ρ := by
  unfold C.not'; split <;> simp [C.den]
theorem C.den_cmp' (ρ : Env) (o : BinOp) (a b : T) : (C.cmp' o a b).den ρ = intCmp o (a.den ρ) (b.den ρ) := by
  unfold C.cmp'; split
  · rw [C.den_eql']; rfl
  · rw [C.den_not', C.den_eql']; rfl
  · split <;> rfl
theorem C.den_and' (ρ : Env) (a b : C) : (C.and' a b).den ρ = (a.den ρ && b.den ρ) := by
  unfold C.and'; split <;> simp [C.den]
theorem C.den_iff' (ρ : Env) (a b : C) : (C.iff' a b).den ρ = (a.den ρ == b.den ρ) := by
  unfold C.iff'; split <;> simp [C.den, C.den_not']
theorem C.den_ite' (ρ : Env) (c a b : C) : (C.ite' c a b).den ρ = if c.den ρ then a.den ρ else b.den ρ := by
  unfold C.ite'; split <;> simp [C.den]

/-- What is known of conditions: each with its answer. -/
abbrev Known := List (C × Bool)
def Known.find (c : C) : Known → Option Bool
  | [] => none
  | (d, b) :: l => if d = c then some b else Known.find c l
def Known.ok (ρ : Env) (l : Known) : Prop := ∀ p ∈ l, p.1.den ρ = p.2
theorem Known.find_ok {ρ : Env} {c : C} {b : Bool} : ∀ {l : Known}, l.ok ρ → Known.find c l = some b → c.den ρ = b
  | [], _, h => by cases h
  | (d, b') :: l, hl, h => by
    unfold Known.find at h
    split at h
    · rename_i e
      subst e
      cases h
      exact hl _ (List.mem_cons_self ..)
    · exact Known.find_ok (fun p hp => hl p (List.mem_cons_of_mem _ hp)) h
/-- It is known to be another number. -/
def Known.other (a : T) (n : Int) : Known → Bool
  | [] => false
  | (.cmp .eql a' (.lit m), true) :: l => (decide (a' = a) && decide (m ≠ n)) || Known.other a n l
  | _ :: l => Known.other a n l
theorem Known.other_ok {ρ : Env} {a : T} {n : Int} : ∀ {l : Known}, l.ok ρ → Known.other a n l = true → a.den ρ ≠ n
  | [], _, h => by cases h
  | p :: l, hl, h => by
    have hl' : Known.ok ρ l := fun q hq => hl q (List.mem_cons_of_mem _ hq)
    unfold Known.other at h
    split at h
    · cases h
    · rename_i heq
      cases heq
      rw [Bool.or_eq_true, Bool.and_eq_true, decide_eq_true_eq, decide_eq_true_eq] at h
      rcases h with ⟨rfl, h2⟩ | h
      · have := hl _ (List.mem_cons_self ..)
        simp only [C.den, intCmp, T.den, beq_iff_eq] at this
        rw [this]
        exact h2
      · exact Known.other_ok hl' h
    · rename_i heq
      cases heq
      exact Known.other_ok hl' h
def C.isOther (l : Known) : C → Bool
  | .cmp .eql a (.lit n) => Known.other a n l
  | _ => false
/-- One without parts. -/
def C.seen (l : Known) (c : C) : C := if c.isOther l then .lit false else match Known.find c l with | some b => .lit b | none => c
theorem C.den_seen {ρ : Env} {l : Known} (hl : l.ok ρ) (c : C) : (c.seen l).den ρ = c.den ρ := by
  unfold C.seen
  split
  · rename_i h
    unfold C.isOther at h
    split at h
    · simp only [C.den, intCmp, T.den]
      exact (beq_eq_false_iff_ne.2 (Known.other_ok hl h)).symm
    · cases h
  · split
    · rename_i e; exact (Known.find_ok hl e).symm
    · rfl
/-- The number that it is known to be. -/
def Known.num (a : T) : Known → Option Int
  | [] => none
  | (.cmp .eql a' (.lit m), true) :: l => if a' = a then some m else Known.num a l
  | _ :: l => Known.num a l
theorem Known.num_ok {ρ : Env} {a : T} {n : Int} : ∀ {l : Known}, l.ok ρ → Known.num a l = some n → a.den ρ = n
  | [], _, h => by cases h
  | p :: l, hl, h => by
    have hl' : Known.ok ρ l := fun q hq => hl q (List.mem_cons_of_mem _ hq)
    unfold Known.num at h
    split at h
    · cases h
    · rename_i heq
      cases heq
      split at h
      · rename_i e
        subst e
        cases h
        have := hl _ (List.mem_cons_self ..)
        simpa only [C.den, intCmp, T.den, beq_iff_eq] using this
      · exact Known.num_ok hl' h
    · rename_i heq
      cases heq
      exact Known.num_ok hl' h
/-- A number, in the light of what is known. -/
def T.known (l : Known) (t : T) : T := match t with
  | .lit n => .lit n
  | t => match Known.num t l with | some n => .lit n | none => t
theorem T.den_known {ρ : Env} {l : Known} (hl : l.ok ρ) (t : T) : (t.known l).den ρ = t.den ρ := by
  unfold T.known
  split
  · rfl
  · split
    · rename_i e; exact (Known.num_ok hl e).symm
    · rfl
/-- A condition in the light of what is known. -/
def C.simp (l : Known) : C → C
  | .lit b => .lit b
  | .not c => (c.simp l).not'
  | .ite c a b => match c.simp l with
    | .lit true => a.simp l
    | .lit false => b.simp l
    | c' => match Known.find (.ite c a b) l with | some b => .lit b | none => .ite c' (a.simp l) (b.simp l)
  | .and a b => C.and' (a.simp l) (b.simp l)
  | c => c.seen l
theorem C.den_simp {ρ : Env} {l : Known} (hl : l.ok ρ) : ∀ c : C, (c.simp l).den ρ = c.den ρ
  | .lit b => rfl
  | .not c => by unfold C.simp; rw [C.den_not', C.den_simp hl c]; rfl
  | .ite c a b => by
    have h1 := C.den_simp hl c
    have h2 := C.den_simp hl a
    have h3 := C.den_simp hl b
    unfold C.simp
    split
    · rename_i e; rw [e] at h1; simp only [C.den] at h1 ⊢; rw [← h1]; simpa using h2
    · rename_i e; rw [e] at h1; simp only [C.den] at h1 ⊢; rw [← h1]; simpa using h3
    · split
      · rename_i e; exact (Known.find_ok hl e).symm
      · simp only [C.den, h1, h2, h3]
  | .and a b => by unfold C.simp; rw [C.den_and', C.den_simp hl a, C.den_simp hl b]; rfl
  | .var i => by unfold C.simp; exact C.den_seen hl _
  | .cmp o a b => by unfold C.simp; exact C.den_seen hl _
  | .iff a b => by unfold C.simp; exact C.den_seen hl _

/-- Values that hang on variables; places are numbers of blocks, and of cells. -/
inductive E where
  | int (k : IntKind) (t : T)
  | bool (c : C)
  | lit (v : Value)
  | var (i : Nat)
  | ptr (b o : Nat)
  | slice (b o n c : Nat)
  | at (b o s n : Nat) (t : T)
  | hnd (i : Nat)
  | pla (n k : T) (o : Nat)
  | agg (l : List E)
  | tup (l : List E)
  | func (fn : Fn) (captured : List E)
  | iface (t : TypeId) (e : E)
  deriving Inhabited

/-- A value of one cell. -/
abbrev OneV := { v : Value // v.oneCell' = true }
def OneV.undef : OneV := ⟨.bool false, rfl⟩
/-- Where blocks lie; what leads to objects. -/
structure Lay where
  p : Nat → Nat × Nat
  h : Nat → OneV
instance : CoeFun Lay (fun _ => Nat → Nat × Nat) := ⟨Lay.p⟩
/-- An object's name; and a place in it, so many cells behind where it leads. -/
def tok (n : Nat) : Value := .pointer (some ⟨n, 0, some 1⟩)
def tokAt (n k : Nat) : Value := .pointer (some ⟨n, k, some 2⟩)
/-- A place, so many cells behind where a handle leads. -/
def hatV (v : Value) (k : Nat) : Value := match v with
  | .slice (some a) _ _ => .pointer (some ⟨a.block, a.off + k, none⟩)
  | .pointer (some a) => .pointer (some ⟨a.block, a.off + k, none⟩)
  | _ => .pointer (some ⟨0, k, none⟩)
/-- Names of objects become what leads there: in one cell; in a row of cells; in a tuple. -/
def concC (h : Nat → OneV) (v : Value) : Value := match v with
  | .pointer (some ⟨n, 0, some 1⟩) => (h n).val
  | .pointer (some ⟨n, k, some 2⟩) => hatV (h n).val k
  | v => v
def concA (h : Nat → OneV) (v : Value) : Value := match v with
  | .agg cs => .agg (cs.map (concC h))
  | v => concC h v
def concE (h : Nat → OneV) (v : Value) : Value := match v with
  | .tuple cs => .tuple (cs.map (concA h))
  | v => concA h v
theorem hatV_form (v : Value) : ∃ b o, ∀ k, hatV v k = .pointer (some ⟨b, o + k, none⟩) := by
  unfold hatV
  split
  · exact ⟨_, _, fun _ => rfl⟩
  · exact ⟨_, _, fun _ => rfl⟩
  · exact ⟨0, 0, fun k => by simp⟩
theorem hatV_one (v : Value) (k : Nat) : (hatV v k).oneCell' = true := by
  unfold hatV; split <;> rfl
theorem concC_at (h : Nat → OneV) (n k : Nat) : concC h (tokAt n k) = hatV (h n).val k := by cases k <;> rfl
theorem concE_at (h : Nat → OneV) (n k : Nat) : concE h (tokAt n k) = hatV (h n).val k := by cases k <;> rfl
def noTup (v : Value) : Value := match v with | .tuple _ => .bool false | v => v
def oneOf (v : Value) : Value := if v.oneCell' then v else .bool false
theorem oneOf_one (v : Value) : (oneOf v).oneCell' = true := by unfold oneOf; split <;> first | assumption | rfl
theorem oneOf_eq {v : Value} (h : v.oneCell' = true) : oneOf v = v := by unfold oneOf; rw [if_pos h]
theorem concC_one {h : Nat → OneV} {v : Value} (hv : v.oneCell' = true) : (concC h v).oneCell' = true := by
  unfold concC
  split
  · exact (h _).property
  · exact hatV_one _ _
  · exact hv
mutual
def E.val (ρ : Env) (ι : Lay) : E → Value
  | .int k t => .int k (t.den ρ)
  | .bool c => .bool (c.den ρ)
  | .lit v => v
  | .var i => concA ι.h (noTup (ρ.v i))
  | .ptr b o => .pointer (some ⟨(ι b).1, (ι b).2 + o, none⟩)
  | .slice b o n c => .slice (some ⟨(ι b).1, (ι b).2 + o, none⟩) n c
  | .at b o s n t => .pointer (some ⟨(ι b).1, (ι b).2 + (o + min (t.den ρ).toNat (n - 1) * s), none⟩)
  | .hnd i => concC ι.h (oneOf (ρ.v i))
  | .pla n k o => hatV (ι.h (n.den ρ).toNat).val ((k.den ρ).toNat + o)
  | .agg l => .agg (E.vals ρ ι l).toArray
  | .tup l => .tuple (E.vals ρ ι l).toArray
  | .func fn l => .func fn #[] (E.vals ρ ι l).toArray
  | .iface t e => .iface t (e.val ρ ι)
def E.vals (ρ : Env) (ι : Lay) : List E → List Value
  | [] => []
  | e :: l => e.val ρ ι :: E.vals ρ ι l
end
/-- Values in names. -/
abbrev Lay0 := Nat → Nat × Nat
mutual
def E.nam (ρ : Env) (q : Lay0) : E → Value
  | .int k t => .int k (t.den ρ)
  | .bool c => .bool (c.den ρ)
  | .lit v => v
  | .var i => noTup (ρ.v i)
  | .ptr b o => .pointer (some ⟨(q b).1, (q b).2 + o, none⟩)
  | .slice b o n c => .slice (some ⟨(q b).1, (q b).2 + o, none⟩) n c
  | .at b o s n t => .pointer (some ⟨(q b).1, (q b).2 + (o + min (t.den ρ).toNat (n - 1) * s), none⟩)
  | .hnd i => oneOf (ρ.v i)
  | .pla n k o => tokAt (n.den ρ).toNat ((k.den ρ).toNat + o)
  | .agg l => .agg (E.nams ρ q l).toArray
  | .tup l => .tuple (E.nams ρ q l).toArray
  | .func fn l => .func fn #[] (E.nams ρ q l).toArray
  | .iface t e => .iface t (e.nam ρ q)
def E.nams (ρ : Env) (q : Lay0) : List E → List Value
  | [] => []
  | e :: l => e.nam ρ q :: E.nams ρ q l
end
theorem E.nams_map (ρ : Env) (q : Lay0) : ∀ l : List E, E.nams ρ q l = l.map (E.nam ρ q)
  | [] => rfl
  | e :: l => by unfold E.nams; rw [E.nams_map ρ q l]; rfl
theorem E.nams_length (ρ : Env) (q : Lay0) (l : List E) : (E.nams ρ q l).length = l.length := by rw [E.nams_map]; simp
theorem E.nams_get (ρ : Env) (q : Lay0) (l : List E) (i : Nat) : (E.nams ρ q l)[i]? = (l[i]?).map (E.nam ρ q) := by rw [E.nams_map]; simp
theorem E.vals_map (ρ : Env) (ι : Lay) : ∀ l : List E, E.vals ρ ι l = l.map (E.val ρ ι)
  | [] => rfl
  | e :: l => by unfold E.vals; rw [E.vals_map ρ ι l]; rfl
theorem E.vals_length (ρ : Env) (ι : Lay) (l : List E) : (E.vals ρ ι l).length = l.length := by rw [E.vals_map]; simp
theorem E.vals_get (ρ : Env) (ι : Lay) (l : List E) (i : Nat) : (E.vals ρ ι l)[i]? = (l[i]?).map (E.val ρ ι) := by rw [E.vals_map]; simp

/-- Below n variables. -/
def T.lt (n : Nat) : T → Bool
  | .lit _ => true
  | .var i => i < n
  | .bin _ _ a b => a.lt n && b.lt n
  | .wrap _ a => a.lt n
  | .mn a b => a.lt n && b.lt n
  | .mx a b => a.lt n && b.lt n
  | .sel _ t => t.lt n
  | .add2 _ a b => a.lt n && b.lt n
def C.lt (n : Nat) : C → Bool
  | .lit _ => true
  | .var i => i < n
  | .cmp _ a b => a.lt n && b.lt n
  | .not c => c.lt n
  | .ite c a b => c.lt n && a.lt n && b.lt n
  | .iff a b => a.lt n && b.lt n
  | .and a b => a.lt n && b.lt n
mutual
def E.lt (n : Nat) : E → Bool
  | .int _ t => t.lt n
  | .bool c => c.lt n
  | .lit _ => true
  | .var i => i < n
  | .ptr _ _ => true
  | .slice _ _ _ _ => true
  | .at _ _ _ _ t => t.lt n
  | .hnd i => i < n
  | .pla m k _ => m.lt n && k.lt n
  | .agg l => E.lts n l
  | .tup l => E.lts n l
  | .func _ l => E.lts n l
  | .iface _ e => e.lt n
def E.lts (n : Nat) : List E → Bool
  | [] => true
  | e :: l => e.lt n && E.lts n l
end
/-- Two environments agree below n. -/
def Env.ag (n : Nat) (ρ ρ' : Env) : Prop := ∀ i, i < n → ρ'.i i = ρ.i i ∧ ρ'.b i = ρ.b i ∧ ρ'.v i = ρ.v i
theorem Env.ag_refl (n : Nat) (ρ : Env) : ρ.ag n ρ := fun _ _ => ⟨rfl, rfl, rfl⟩
theorem Env.ag_trans {n m : Nat} {ρ ρ' ρ'' : Env} (h : ρ.ag n ρ') (h' : ρ'.ag m ρ'') (hm : n ≤ m) : ρ.ag n ρ'' := fun i hi =>
  have a := h i hi; have b := h' i (Nat.lt_of_lt_of_le hi hm); ⟨b.1.trans a.1, b.2.1.trans a.2.1, b.2.2.trans a.2.2⟩
theorem Env.ag_mono {n m : Nat} {ρ ρ' : Env} (h : ρ.ag m ρ') (hm : n ≤ m) : ρ.ag n ρ' := fun i hi => h i (Nat.lt_of_lt_of_le hi hm)
theorem T.den_ag {n : Nat} {ρ ρ' : Env} (h : ρ.ag n ρ') : ∀ t : T, t.lt n = true → t.den ρ' = t.den ρ
  | .lit _, _ => rfl
  | .var i, hi => (h i (by simpa [T.lt] using hi)).1
  | .bin o k a b, hi => by simp only [T.lt, Bool.and_eq_true] at hi; simp only [T.den, T.den_ag h a hi.1, T.den_ag h b hi.2]
  | .wrap k a, hi => by simp only [T.lt] at hi; simp only [T.den, T.den_ag h a hi]
  | .mn a b, hi => by simp only [T.lt, Bool.and_eq_true] at hi; simp only [T.den, T.den_ag h a hi.1, T.den_ag h b hi.2]
  | .mx a b, hi => by simp only [T.lt, Bool.and_eq_true] at hi; simp only [T.den, T.den_ag h a hi.1, T.den_ag h b hi.2]
  | .sel l t, hi => by simp only [T.lt] at hi; simp only [T.den, T.den_ag h t hi]
  | .add2 _ a b, hi => by simp only [T.lt, Bool.and_eq_true] at hi; simp only [T.den, T.den_ag h a hi.1, T.den_ag h b hi.2]
theorem C.den_ag {n : Nat} {ρ ρ' : Env} (h : ρ.ag n ρ') : ∀ c : C, c.lt n = true → c.den ρ' = c.den ρ
  | .lit _, _ => rfl
  | .var i, hi => (h i (by simpa [C.lt] using hi)).2.1
  | .cmp o a b, hi => by simp only [C.lt, Bool.and_eq_true] at hi; simp only [C.den, T.den_ag h a hi.1, T.den_ag h b hi.2]
  | .not c, hi => by simp only [C.lt] at hi; simp only [C.den, C.den_ag h c hi]
  | .ite c a b, hi => by simp only [C.lt, Bool.and_eq_true] at hi; simp only [C.den, C.den_ag h c hi.1.1, C.den_ag h a hi.1.2, C.den_ag h b hi.2]
  | .iff a b, hi => by simp only [C.lt, Bool.and_eq_true] at hi; simp only [C.den, C.den_ag h a hi.1, C.den_ag h b hi.2]
  | .and a b, hi => by simp only [C.lt, Bool.and_eq_true] at hi; simp only [C.den, C.den_ag h a hi.1, C.den_ag h b hi.2]
mutual
theorem E.val_ag {n : Nat} {ρ ρ' : Env} (h : ρ.ag n ρ') (ι : Lay) : ∀ e : E, e.lt n = true → e.val ρ' ι = e.val ρ ι
  | .int k t, hi => by simp only [E.lt] at hi; simp only [E.val, T.den_ag h t hi]
  | .bool c, hi => by simp only [E.lt] at hi; simp only [E.val, C.den_ag h c hi]
  | .lit v, _ => rfl
  | .var i, hi => by simp only [E.val, (h i (by simpa [E.lt] using hi)).2.2]
  | .ptr b o, _ => rfl
  | .slice b o n c, _ => rfl
  | .at b o s n t, hi => by simp only [E.lt] at hi; simp only [E.val, T.den_ag h t hi]
  | .hnd i, hi => by simp only [E.val, (h i (by simpa [E.lt] using hi)).2.2]
  | .pla m k o, hi => by simp only [E.lt, Bool.and_eq_true] at hi; simp only [E.val, T.den_ag h m hi.1, T.den_ag h k hi.2]
  | .agg l, hi => by simp only [E.lt] at hi; simp only [E.val, E.vals_ag h ι l hi]
  | .tup l, hi => by simp only [E.lt] at hi; simp only [E.val, E.vals_ag h ι l hi]
  | .func fn l, hi => by simp only [E.lt] at hi; simp only [E.val, E.vals_ag h ι l hi]
  | .iface t e, hi => by simp only [E.lt] at hi; simp only [E.val, E.val_ag h ι e hi]
theorem E.vals_ag {n : Nat} {ρ ρ' : Env} (h : ρ.ag n ρ') (ι : Lay) : ∀ l : List E, E.lts n l = true → E.vals ρ' ι l = E.vals ρ ι l
  | [], _ => rfl
  | e :: l, hi => by simp only [E.lts, Bool.and_eq_true] at hi; simp only [E.vals, E.val_ag h ι e hi.1, E.vals_ag h ι l hi.2]
end
mutual
theorem E.nam_ag {n : Nat} {ρ ρ' : Env} (h : ρ.ag n ρ') (q : Lay0) : ∀ e : E, e.lt n = true → e.nam ρ' q = e.nam ρ q
  | .int k t, hi => by simp only [E.lt] at hi; simp only [E.nam, T.den_ag h t hi]
  | .bool c, hi => by simp only [E.lt] at hi; simp only [E.nam, C.den_ag h c hi]
  | .lit v, _ => rfl
  | .var i, hi => by simp only [E.nam, (h i (by simpa [E.lt] using hi)).2.2]
  | .ptr b o, _ => rfl
  | .slice b o n c, _ => rfl
  | .at b o s n t, hi => by simp only [E.lt] at hi; simp only [E.nam, T.den_ag h t hi]
  | .hnd i, hi => by simp only [E.nam, (h i (by simpa [E.lt] using hi)).2.2]
  | .pla m k o, hi => by simp only [E.lt, Bool.and_eq_true] at hi; simp only [E.nam, T.den_ag h m hi.1, T.den_ag h k hi.2]
  | .agg l, hi => by simp only [E.lt] at hi; simp only [E.nam, E.nams_ag h q l hi]
  | .tup l, hi => by simp only [E.lt] at hi; simp only [E.nam, E.nams_ag h q l hi]
  | .func fn l, hi => by simp only [E.lt] at hi; simp only [E.nam, E.nams_ag h q l hi]
  | .iface t e, hi => by simp only [E.lt] at hi; simp only [E.nam, E.nam_ag h q e hi]
theorem E.nams_ag {n : Nat} {ρ ρ' : Env} (h : ρ.ag n ρ') (q : Lay0) : ∀ l : List E, E.lts n l = true → E.nams ρ' q l = E.nams ρ q l
  | [], _ => rfl
  | e :: l, hi => by simp only [E.lts, Bool.and_eq_true] at hi; simp only [E.nams, E.nam_ag h q e hi.1, E.nams_ag h q l hi.2]
end
end Sx
end Go.Proofs.Ytcedgoaanlbldaa
