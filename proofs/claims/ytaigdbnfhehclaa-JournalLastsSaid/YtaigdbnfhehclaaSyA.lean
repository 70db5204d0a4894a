/- What is proved: plain laws on a table by numbers, and on symbolic integers, bools and values; no program in sight; plain laws on symbolic frames and heaps: what an operation does to them; no program in sight; what the symbolic operation tells is what the model's operation does; no program in sight. No condition but those each law names. -/
import Derived.Test.YtaigdbnfhehclaaRow
import Derived.Deep.MidRow
import Derived.Deep.Upon
namespace Go.Proofs.Ytaigdbnfhehclaa
namespace Sx
open Go.RowKit

/-- A table by numbers. -/
inductive Tr (α : Type) where
  | nil
  | node (l : Tr α) (v : Option α) (r : Tr α)
variable {α : Type}
def Tr.get : Tr α → Nat → Option α
  | .nil, _ => none
  | .node l v r, n => match n with
    | 0 => v
    | n + 1 => if n % 2 = 0 then l.get (n / 2) else r.get (n / 2)
/-- Set, for numbers below 2 ^ f. -/
def Tr.setF : Nat → Tr α → Nat → α → Tr α
  | 0, t, _, x => match t with
    | .nil => .node .nil (some x) .nil
    | .node l _ r => .node l (some x) r
  | f + 1, t, n, x => match n, t with
    | 0, .nil => .node .nil (some x) .nil
    | 0, .node l _ r => .node l (some x) r
    | n + 1, .nil => if n % 2 = 0 then .node (Tr.setF f .nil (n / 2) x) none .nil else .node .nil none (Tr.setF f .nil (n / 2) x)
    | n + 1, .node l v r => if n % 2 = 0 then .node (Tr.setF f l (n / 2) x) v r else .node l v (Tr.setF f r (n / 2) x)
def Tr.set (t : Tr α) (n : Nat) (x : α) : Tr α := Tr.setF 40 t n x

theorem Tr.get_nil (n : Nat) : (Tr.nil : Tr α).get n = none := by unfold Tr.get; rfl
theorem Tr.get_setF (x : α) : ∀ (f : Nat) (t : Tr α) (n m : Nat), n < 2 ^ f → (Tr.setF f t n x).get m = if m = n then some x else t.get m
  | 0, t, n, m, h => by
    have : n = 0 := by simpa using h
    subst this
    cases t <;> cases m <;> simp [Tr.setF, Tr.get]
  | f + 1, t, n, m, h => by
    cases n with
    | zero => cases t <;> cases m <;> simp [Tr.setF, Tr.get]
    | succ n =>
      have h2 : n / 2 < 2 ^ f := by rw [Nat.pow_succ] at h; omega
      have ih := fun t m => Tr.get_setF x f t (n / 2) m h2
      cases t <;> cases m <;> simp only [Tr.setF]
      · split <;> simp [Tr.get]
      · rename_i m
        split <;> simp only [Tr.get, ih] <;> (repeat' split) <;> first | rfl | omega
      · split <;> simp [Tr.get]
      · rename_i m
        split <;> simp only [Tr.get, ih] <;> (repeat' split) <;> first | rfl | omega
theorem Tr.get_set (t : Tr α) (n m : Nat) (x : α) (h : n < 1099511627776) : (t.set n x).get m = if m = n then some x else t.get m := Tr.get_setF x 40 t n m h

/-- Integers that hang on variables. -/
inductive T where
  | lit (n : Int)
  | var (i : Nat)
  | bin (o : BinOp) (k : IntKind) (a b : T)
  | wrap (k : IntKind) (a : T)
  | mn (a b : T)
  | mx (a b : T)
  | sel (l : List Int) (t : T)
  | add2 (hi : Bool) (a b : T)
  deriving DecidableEq, Repr, Inhabited

def intBin (o : BinOp) (k : IntKind) (x y : Int) : Int := match o with
  | .add => k.wrap (x + y)
  | .sub => k.wrap (x - y)
  | .mul => k.wrap (x * y)
  | .quo => k.wrap (x.tdiv y)
  | .rem => x.tmod y
  | .and => k.wrap (BitVec.ofInt k.bits x &&& BitVec.ofInt k.bits y).toNat
  | .or => k.wrap (BitVec.ofInt k.bits x ||| BitVec.ofInt k.bits y).toNat
  | .xor => k.wrap (BitVec.ofInt k.bits x ^^^ BitVec.ofInt k.bits y).toNat
  | .andNot => k.wrap (BitVec.ofInt k.bits x &&& ~~~BitVec.ofInt k.bits y).toNat
  | .shl => k.wrap (x * 2 ^ min y.toNat k.bits)
  | .shr => x.fdiv (2 ^ min y.toNat k.bits)
  | _ => 0
def intMin (x y : Int) : Int := if y < x then y else x
def intMax (x y : Int) : Int := if x < y then y else x
def intCmp (o : BinOp) (x y : Int) : Bool := match o with
  | .eql => x == y
  | .neq => x != y
  | .lss => x < y
  | .leq => x ≤ y
  | .gtr => x > y
  | .geq => x ≥ y
  | _ => false

/-- What variables stand for. -/
structure Env where
  i : Nat → Int
  b : Nat → Bool
  v : Nat → Value

def T.den (ρ : Env) : T → Int
  | .lit n => n
  | .var i => ρ.i i
  | .bin o k a b => intBin o k (a.den ρ) (b.den ρ)
  | .wrap k a => k.wrap (a.den ρ)
  | .mn a b => intMin (a.den ρ) (b.den ρ)
  | .mx a b => intMax (a.den ρ) (b.den ρ)
  | .sel l t => l.getD (min (t.den ρ).toNat (l.length - 1)) 0
  | .add2 hi a b => if hi then (((a.den ρ).toNat + (b.den ρ).toNat) / 18446744073709551616 : Nat) else (((a.den ρ).toNat + (b.den ρ).toNat) % 18446744073709551616 : Nat)

def T.bin' (o : BinOp) (k : IntKind) (a b : T) : T := match a, b with
  | .lit x, .lit y => .lit (intBin o k x y)
  | a, b => .bin o k a b
def T.wrap' (k : IntKind) (a : T) : T := match a with
  | .lit x => .lit (k.wrap x)
  | a => .wrap k a
def T.mn' (a b : T) : T := match a, b with
  | .lit x, .lit y => .lit (intMin x y)
  | a, b => .mn a b
def T.mx' (a b : T) : T := match a, b with
  | .lit x, .lit y => .lit (intMax x y)
  | a, b => .mx a b
theorem T.den_bin' (ρ : Env) (o : BinOp) (k : IntKind) (a b : T) : (T.bin' o k a b).den ρ = intBin o k (a.den ρ) (b.den ρ) := by
  unfold T.bin'; split <;> rfl
theorem T.den_wrap' (ρ : Env) (k : IntKind) (a : T) : (T.wrap' k a).den ρ = k.wrap (a.den ρ) := by
  unfold T.wrap'; split <;> rfl
theorem T.den_mn' (ρ : Env) (a b : T) : (T.mn' a b).den ρ = intMin (a.den ρ) (b.den ρ) := by
  unfold T.mn'; split <;> rfl
theorem T.den_mx' (ρ : Env) (a b : T) : (T.mx' a b).den ρ = intMax (a.den ρ) (b.den ρ) := by
  unfold T.mx'; split <;> rfl

/-- Bools that hang on variables. -/
inductive C where
  | lit (b : Bool)
  | var (i : Nat)
  | cmp (o : BinOp) (a b : T)
  | not (c : C)
  | ite (c a b : C)
  | iff (a b : C)
  | and (a b : C)
  deriving DecidableEq, Repr, Inhabited
def C.den (ρ : Env) : C → Bool
  | .lit b => b
  | .var i => ρ.b i
  | .cmp o a b => intCmp o (a.den ρ) (b.den ρ)
  | .not c => !c.den ρ
  | .ite c a b => if c.den ρ then a.den ρ else b.den ρ
  | .iff a b => a.den ρ == b.den ρ
  | .and a b => a.den ρ && b.den ρ
def C.eql' (a b : T) : C := match a, b with
  | .lit x, .lit y => .lit (x == y)
  | .lit x, b => .cmp .eql b (.lit x)
  | a, b => .cmp .eql a b
def C.not' : C → C
  | .lit b => .lit !b
  | .not c => c
  | c => .not c
def C.cmp' (o : BinOp) (a b : T) : C := match o with
  | .eql => C.eql' a b
  | .neq => (C.eql' a b).not'
  | o => match a, b with
    | .lit x, .lit y => .lit (intCmp o x y)
    | a, b => .cmp o a b
def C.and' (a b : C) : C := match a, b with
  | .lit true, b => b
  | .lit false, _ => .lit false
  | a, .lit true => a
  | a, b => .and a b
def C.iff' (a b : C) : C := match a, b with
  | .lit x, .lit y => .lit (x == y)
  | .lit true, b => b
  | .lit false, b => b.not'
  | a, .lit true => a
  | a, .lit false => a.not'
  | a, b => .iff a b
def C.ite' (c a b : C) : C := match c with
  | .lit true => a
  | .lit false => b
  | c => .ite c a b
theorem C.den_eql' (ρ : Env) (a b : T) : (C.eql' a b).den ρ = (a.den ρ == b.den ρ) := by
  unfold C.eql'; split
  · rfl
  · simp only [C.den, intCmp, T.den]; rw [Bool.beq_comm]
  · rfl
theorem C.den_not' (ρ : Env) (c : C) : c.not'.den ρ = !c.den ρ := by
  unfold C.not'; split <;> simp [C.den]
theorem C.den_cmp' (ρ : Env) (o : BinOp) (a b : T) : (C.cmp' o a b).den ρ = intCmp o (a.den ρ) (b.den ρ) := by
  unfold C.cmp'; split
  · rw [C.den_eql']; rfl
  · rw [C.den_not', C.den_eql']; rfl
  · split <;> rfl
theorem C.den_and' (ρ : Env) (a b : C) : (C.and' a b).den ρ = (a.den ρ && b.den ρ) := by
  unfold C.and'; split <;> simp [C.den]
theorem C.den_iff' (ρ : Env) (a b : C) : (C.iff' a b).den ρ = (a.den ρ == b.den ρ) := by
  unfold C.iff'; split <;> simp [C.den, C.den_not']
theorem C.den_ite' (ρ : Env) (c a b : C) : (C.ite' c a b).den ρ = if c.den ρ then a.den ρ else b.den ρ := by
  unfold C.ite'; split <;> simp [C.den]

/-- What is known of conditions: each with its answer. -/
abbrev Known := List (C × Bool)
def Known.find (c : C) : Known → Option Bool
  | [] => none
  | (d, b) :: l => if d = c then some b else Known.find c l
def Known.ok (ρ : Env) (l : Known) : Prop := ∀ p ∈ l, p.1.den ρ = p.2
theorem Known.find_ok {ρ : Env} {c : C} {b : Bool} : ∀ {l : Known}, l.ok ρ → Known.find c l = some b → c.den ρ = b
  | [], _, h => by cases h
  | (d, b') :: l, hl, h => by
    unfold Known.find at h
    split at h
    · rename_i e
      subst e
      cases h
      exact hl _ (List.mem_cons_self ..)
    · exact Known.find_ok (fun p hp => hl p (List.mem_cons_of_mem _ hp)) h
/-- It is known to be another number. -/
def Known.other (a : T) (n : Int) : Known → Bool
  | [] => false
  | (.cmp .eql a' (.lit m), true) :: l => (decide (a' = a) && decide (m ≠ n)) || Known.other a n l
  | _ :: l => Known.other a n l
theorem Known.other_ok {ρ : Env} {a : T} {n : Int} : ∀ {l : Known}, l.ok ρ → Known.other a n l = true → a.den ρ ≠ n
  | [], _, h => by cases h
  | p :: l, hl, h => by
    have hl' : Known.ok ρ l := fun q hq => hl q (List.mem_cons_of_mem _ hq)
    unfold Known.other at h
    split at h
    · cases h
    · rename_i heq
      cases heq
      rw [Bool.or_eq_true, Bool.and_eq_true, decide_eq_true_eq, decide_eq_true_eq] at h
      rcases h with ⟨rfl, h2⟩ | h
      · have := hl _ (List.mem_cons_self ..)
        simp only [C.den, intCmp, T.den, beq_iff_eq] at this
        rw [this]
        exact h2
      · exact Known.other_ok hl' h
    · rename_i heq
      cases heq
      exact Known.other_ok hl' h
def C.isOther (l : Known) : C → Bool
  | .cmp .eql a (.lit n) => Known.other a n l
  | _ => false
/-- One without parts. -/
def C.seen (l : Known) (c : C) : C := if c.isOther l then .lit false else match Known.find c l with | some b => .lit b | none => c
theorem C.den_seen {ρ : Env} {l : Known} (hl : l.ok ρ) (c : C) : (c.seen l).den ρ = c.den ρ := by
  unfold C.seen
  split
  · rename_i h
    unfold C.isOther at h
    split at h
    · simp only [C.den, intCmp, T.den]
      exact (beq_eq_false_iff_ne.2 (Known.other_ok hl h)).symm
    · cases h
  · split
    · rename_i e; exact (Known.find_ok hl e).symm
    · rfl
/-- The number that it is known to be. -/
def Known.num (a : T) : Known → Option Int
  | [] => none
  | (.cmp .eql a' (.lit m), true) :: l => if a' = a then some m else Known.num a l
  | _ :: l => Known.num a l
theorem Known.num_ok {ρ : Env} {a : T} {n : Int} : ∀ {l : Known}, l.ok ρ → Known.num a l = some n → a.den ρ = n
  | [], _, h => by cases h
  | p :: l, hl, h => by
    have hl' : Known.ok ρ l := fun q hq => hl q (List.mem_cons_of_mem _ hq)
    unfold Known.num at h
    split at h
    · cases h
    · rename_i heq
      cases heq
      split at h
      · rename_i e
        subst e
        cases h
        have := hl _ (List.mem_cons_self ..)
        simpa only [C.den, intCmp, T.den, beq_iff_eq] using this
      · exact Known.num_ok hl' h
    · rename_i heq
      cases heq
      exact Known.num_ok hl' h
/-- A number, in the light of what is known. -/
def T.known (l : Known) (t : T) : T := match t with
  | .lit n => .lit n
  | t => match Known.num t l with | some n => .lit n | none => t
theorem T.den_known {ρ : Env} {l : Known} (hl : l.ok ρ) (t : T) : (t.known l).den ρ = t.den ρ := by
  unfold T.known
  split
  · rfl
  · split
    · rename_i e; exact (Known.num_ok hl e).symm
    · rfl
/-- A condition in the light of what is known. -/
def C.simp (l : Known) : C → C
  | .lit b => .lit b
  | .not c => (c.simp l).not'
  | .ite c a b => match c.simp l with
    | .lit true => a.simp l
    | .lit false => b.simp l
    | c' => match Known.find (.ite c a b) l with | some b => .lit b | none => .ite c' (a.simp l) (b.simp l)
  | .and a b => C.and' (a.simp l) (b.simp l)
  | c => c.seen l
theorem C.den_simp {ρ : Env} {l : Known} (hl : l.ok ρ) : ∀ c : C, (c.simp l).den ρ = c.den ρ
  | .lit b => rfl
  | .not c => by unfold C.simp; rw [C.den_not', C.den_simp hl c]; rfl
  | .ite c a b => by
    have h1 := C.den_simp hl c
    have h2 := C.den_simp hl a
    have h3 := C.den_simp hl b
    unfold C.simp
    split
    · rename_i e; rw [e] at h1; simp only [C.den] at h1 ⊢; rw [← h1]; simpa using h2
    · rename_i e; rw [e] at h1; simp only [C.den] at h1 ⊢; rw [← h1]; simpa using h3
    · split
      · rename_i e; exact (Known.find_ok hl e).symm
      · simp only [C.den, h1, h2, h3]
  | .and a b => by unfold C.simp; rw [C.den_and', C.den_simp hl a, C.den_simp hl b]; rfl
  | .var i => by unfold C.simp; exact C.den_seen hl _
  | .cmp o a b => by unfold C.simp; exact C.den_seen hl _
  | .iff a b => by unfold C.simp; exact C.den_seen hl _

/-- Values that hang on variables; places are numbers of blocks, and of cells. -/
inductive E where
  | int (k : IntKind) (t : T)
  | bool (c : C)
  | lit (v : Value)
  | var (i : Nat)
  | ptr (b o : Nat)
  | slice (b o n c : Nat)
  | at (b o s n : Nat) (t : T)
  | hnd (i : Nat)
  | pla (n k : T) (o : Nat)
  | agg (l : List E)
  | tup (l : List E)
  | func (fn : Fn) (captured : List E)
  | iface (t : TypeId) (e : E)
  deriving Inhabited

/-- A value of one cell. -/
abbrev OneV := { v : Value // v.oneCell' = true }
def OneV.undef : OneV := ⟨.bool false, rfl⟩
/-- Where blocks lie; what leads to objects. -/
structure Lay where
  p : Nat → Nat × Nat
  h : Nat → OneV
instance : CoeFun Lay (fun _ => Nat → Nat × Nat) := ⟨Lay.p⟩
/-- An object's name; and a place in it, so many cells behind where it leads. -/
def tok (n : Nat) : Value := .pointer (some ⟨n, 0, some 1⟩)
def tokAt (n k : Nat) : Value := .pointer (some ⟨n, k, some 2⟩)
/-- A place, so many cells behind where a handle leads. -/
def hatV (v : Value) (k : Nat) : Value := match v with
  | .slice (some a) _ _ => .pointer (some ⟨a.block, a.off + k, none⟩)
  | .pointer (some a) => .pointer (some ⟨a.block, a.off + k, none⟩)
  | _ => .pointer (some ⟨0, k, none⟩)
/-- Names of objects become what leads there: in one cell; in a row of cells; in a tuple. -/
def concC (h : Nat → OneV) (v : Value) : Value := match v with
  | .pointer (some ⟨n, 0, some 1⟩) => (h n).val
  | .pointer (some ⟨n, k, some 2⟩) => hatV (h n).val k
  | v => v
def concA (h : Nat → OneV) (v : Value) : Value := match v with
  | .agg cs => .agg (cs.map (concC h))
  | v => concC h v
def concE (h : Nat → OneV) (v : Value) : Value := match v with
  | .tuple cs => .tuple (cs.map (concA h))
  | v => concA h v
theorem hatV_form (v : Value) : ∃ b o, ∀ k, hatV v k = .pointer (some ⟨b, o + k, none⟩) := by
  unfold hatV
  split
  · exact ⟨_, _, fun _ => rfl⟩
  · exact ⟨_, _, fun _ => rfl⟩
  · exact ⟨0, 0, fun k => by simp⟩
theorem hatV_one (v : Value) (k : Nat) : (hatV v k).oneCell' = true := by
  unfold hatV; split <;> rfl
theorem concC_at (h : Nat → OneV) (n k : Nat) : concC h (tokAt n k) = hatV (h n).val k := by cases k <;> rfl
theorem concE_at (h : Nat → OneV) (n k : Nat) : concE h (tokAt n k) = hatV (h n).val k := by cases k <;> rfl
def noTup (v : Value) : Value := match v with | .tuple _ => .bool false | v => v
def oneOf (v : Value) : Value := if v.oneCell' then v else .bool false
theorem oneOf_one (v : Value) : (oneOf v).oneCell' = true := by unfold oneOf; split <;> first | assumption | rfl
theorem oneOf_eq {v : Value} (h : v.oneCell' = true) : oneOf v = v := by unfold oneOf; rw [if_pos h]
theorem concC_one {h : Nat → OneV} {v : Value} (hv : v.oneCell' = true) : (concC h v).oneCell' = true := by
  unfold concC
  split
  · exact (h _).property
  · exact hatV_one _ _
  · exact hv
mutual
def E.val (ρ : Env) (ι : Lay) : E → Value
  | .int k t => .int k (t.den ρ)
  | .bool c => .bool (c.den ρ)
  | .lit v => v
  | .var i => concA ι.h (noTup (ρ.v i))
  | .ptr b o => .pointer (some ⟨(ι b).1, (ι b).2 + o, none⟩)
  | .slice b o n c => .slice (some ⟨(ι b).1, (ι b).2 + o, none⟩) n c
  | .at b o s n t => .pointer (some ⟨(ι b).1, (ι b).2 + (o + min (t.den ρ).toNat (n - 1) * s), none⟩)
  | .hnd i => concC ι.h (oneOf (ρ.v i))
  | .pla n k o => hatV (ι.h (n.den ρ).toNat).val ((k.den ρ).toNat + o)
  | .agg l => .agg (E.vals ρ ι l).toArray
  | .tup l => .tuple (E.vals ρ ι l).toArray
  | .func fn l => .func fn #[] (E.vals ρ ι l).toArray
  | .iface t e => .iface t (e.val ρ ι)
def E.vals (ρ : Env) (ι : Lay) : List E → List Value
  | [] => []
  | e :: l => e.val ρ ι :: E.vals ρ ι l
end
/-- Values in names. -/
abbrev Lay0 := Nat → Nat × Nat
mutual
def E.nam (ρ : Env) (q : Lay0) : E → Value
  | .int k t => .int k (t.den ρ)
  | .bool c => .bool (c.den ρ)
  | .lit v => v
  | .var i => noTup (ρ.v i)
  | .ptr b o => .pointer (some ⟨(q b).1, (q b).2 + o, none⟩)
  | .slice b o n c => .slice (some ⟨(q b).1, (q b).2 + o, none⟩) n c
  | .at b o s n t => .pointer (some ⟨(q b).1, (q b).2 + (o + min (t.den ρ).toNat (n - 1) * s), none⟩)
  | .hnd i => oneOf (ρ.v i)
  | .pla n k o => tokAt (n.den ρ).toNat ((k.den ρ).toNat + o)
  | .agg l => .agg (E.nams ρ q l).toArray
  | .tup l => .tuple (E.nams ρ q l).toArray
  | .func fn l => .func fn #[] (E.nams ρ q l).toArray
  | .iface t e => .iface t (e.nam ρ q)
def E.nams (ρ : Env) (q : Lay0) : List E → List Value
  | [] => []
  | e :: l => e.nam ρ q :: E.nams ρ q l
end
theorem E.nams_map (ρ : Env) (q : Lay0) : ∀ l : List E, E.nams ρ q l = l.map (E.nam ρ q)
  | [] => rfl
  | e :: l => by unfold E.nams; rw [E.nams_map ρ q l]; rfl
theorem E.nams_length (ρ : Env) (q : Lay0) (l : List E) : (E.nams ρ q l).length = l.length := by rw [E.nams_map]; simp
theorem E.nams_get (ρ : Env) (q : Lay0) (l : List E) (i : Nat) : (E.nams ρ q l)[i]? = (l[i]?).map (E.nam ρ q) := by rw [E.nams_map]; simp
theorem E.vals_map (ρ : Env) (ι : Lay) : ∀ l : List E, E.vals ρ ι l = l.map (E.val ρ ι)
  | [] => rfl
  | e :: l => by unfold E.vals; rw [E.vals_map ρ ι l]; rfl
theorem E.vals_length (ρ : Env) (ι : Lay) (l : List E) : (E.vals ρ ι l).length = l.length := by rw [E.vals_map]; simp
theorem E.vals_get (ρ : Env) (ι : Lay) (l : List E) (i : Nat) : (E.vals ρ ι l)[i]? = (l[i]?).map (E.val ρ ι) := by rw [E.vals_map]; simp

/-- Below n variables. -/
def T.lt (n : Nat) : T → Bool
  | .lit _ => true
  | .var i => i < n
  | .bin _ _ a b => a.lt n && b.lt n
  | .wrap _ a => a.lt n
  | .mn a b => a.lt n && b.lt n
  | .mx a b => a.lt n && b.lt n
  | .sel _ t => t.lt n
  | .add2 _ a b => a.lt n && b.lt n
def C.lt (n : Nat) : C → Bool
  | .lit _ => true
  | .var i => i < n
  | .cmp _ a b => a.lt n && b.lt n
  | .not c => c.lt n
  | .ite c a b => c.lt n && a.lt n && b.lt n
  | .iff a b => a.lt n && b.lt n
  | .and a b => a.lt n && b.lt n
mutual
def E.lt (n : Nat) : E → Bool
  | .int _ t => t.lt n
  | .bool c => c.lt n
  | .lit _ => true
  | .var i => i < n
  | .ptr _ _ => true
  | .slice _ _ _ _ => true
  | .at _ _ _ _ t => t.lt n
  | .hnd i => i < n
  | .pla m k _ => m.lt n && k.lt n
  | .agg l => E.lts n l
  | .tup l => E.lts n l
  | .func _ l => E.lts n l
  | .iface _ e => e.lt n
def E.lts (n : Nat) : List E → Bool
  | [] => true
  | e :: l => e.lt n && E.lts n l
end
/-- Two environments agree below n. -/
def Env.ag (n : Nat) (ρ ρ' : Env) : Prop := ∀ i, i < n → ρ'.i i = ρ.i i ∧ ρ'.b i = ρ.b i ∧ ρ'.v i = ρ.v i
theorem Env.ag_refl (n : Nat) (ρ : Env) : ρ.ag n ρ := fun _ _ => ⟨rfl, rfl, rfl⟩
theorem Env.ag_trans {n m : Nat} {ρ ρ' ρ'' : Env} (h : ρ.ag n ρ') (h' : ρ'.ag m ρ'') (hm : n ≤ m) : ρ.ag n ρ'' := fun i hi =>
  have a := h i hi; have b := h' i (Nat.lt_of_lt_of_le hi hm); ⟨b.1.trans a.1, b.2.1.trans a.2.1, b.2.2.trans a.2.2⟩
theorem Env.ag_mono {n m : Nat} {ρ ρ' : Env} (h : ρ.ag m ρ') (hm : n ≤ m) : ρ.ag n ρ' := fun i hi => h i (Nat.lt_of_lt_of_le hi hm)
theorem T.den_ag {n : Nat} {ρ ρ' : Env} (h : ρ.ag n ρ') : ∀ t : T, t.lt n = true → t.den ρ' = t.den ρ
  | .lit _, _ => rfl
  | .var i, hi => (h i (by simpa [T.lt] using hi)).1
  | .bin o k a b, hi => by simp only [T.lt, Bool.and_eq_true] at hi; simp only [T.den, T.den_ag h a hi.1, T.den_ag h b hi.2]
  | .wrap k a, hi => by simp only [T.lt] at hi; simp only [T.den, T.den_ag h a hi]
  | .mn a b, hi => by simp only [T.lt, Bool.and_eq_true] at hi; simp only [T.den, T.den_ag h a hi.1, T.den_ag h b hi.2]
  | .mx a b, hi => by simp only [T.lt, Bool.and_eq_true] at hi; simp only [T.den, T.den_ag h a hi.1, T.den_ag h b hi.2]
  | .sel l t, hi => by simp only [T.lt] at hi; simp only [T.den, T.den_ag h t hi]
  | .add2 _ a b, hi => by simp only [T.lt, Bool.and_eq_true] at hi; simp only [T.den, T.den_ag h a hi.1, T.den_ag h b hi.2]
theorem C.den_ag {n : Nat} {ρ ρ' : Env} (h : ρ.ag n ρ') : ∀ c : C, c.lt n = true → c.den ρ' = c.den ρ
  | .lit _, _ => rfl
  | .var i, hi => (h i (by simpa [C.lt] using hi)).2.1
  | .cmp o a b, hi => by simp only [C.lt, Bool.and_eq_true] at hi; simp only [C.den, T.den_ag h a hi.1, T.den_ag h b hi.2]
  | .not c, hi => by simp only [C.lt] at hi; simp only [C.den, C.den_ag h c hi]
  | .ite c a b, hi => by simp only [C.lt, Bool.and_eq_true] at hi; simp only [C.den, C.den_ag h c hi.1.1, C.den_ag h a hi.1.2, C.den_ag h b hi.2]
  | .iff a b, hi => by simp only [C.lt, Bool.and_eq_true] at hi; simp only [C.den, C.den_ag h a hi.1, C.den_ag h b hi.2]
  | .and a b, hi => by simp only [C.lt, Bool.and_eq_true] at hi; simp only [C.den, C.den_ag h a hi.1, C.den_ag h b hi.2]
mutual
theorem E.val_ag {n : Nat} {ρ ρ' : Env} (h : ρ.ag n ρ') (ι : Lay) : ∀ e : E, e.lt n = true → e.val ρ' ι = e.val ρ ι
  | .int k t, hi => by simp only [E.lt] at hi; simp only [E.val, T.den_ag h t hi]
  | .bool c, hi => by simp only [E.lt] at hi; simp only [E.val, C.den_ag h c hi]
  | .lit v, _ => rfl
  | .var i, hi => by simp only [E.val, (h i (by simpa [E.lt] using hi)).2.2]
  | .ptr b o, _ => rfl
  | .slice b o n c, _ => rfl
  | .at b o s n t, hi => by simp only [E.lt] at hi; simp only [E.val, T.den_ag h t hi]
  | .hnd i, hi => by simp only [E.val, (h i (by simpa [E.lt] using hi)).2.2]
  | .pla m k o, hi => by simp only [E.lt, Bool.and_eq_true] at hi; simp only [E.val, T.den_ag h m hi.1, T.den_ag h k hi.2]
  | .agg l, hi => by simp only [E.lt] at hi; simp only [E.val, E.vals_ag h ι l hi]
  | .tup l, hi => by simp only [E.lt] at hi; simp only [E.val, E.vals_ag h ι l hi]
  | .func fn l, hi => by simp only [E.lt] at hi; simp only [E.val, E.vals_ag h ι l hi]
  | .iface t e, hi => by simp only [E.lt] at hi; simp only [E.val, E.val_ag h ι e hi]
theorem E.vals_ag {n : Nat} {ρ ρ' : Env} (h : ρ.ag n ρ') (ι : Lay) : ∀ l : List E, E.lts n l = true → E.vals ρ' ι l = E.vals ρ ι l
  | [], _ => rfl
  | e :: l, hi => by simp only [E.lts, Bool.and_eq_true] at hi; simp only [E.vals, E.val_ag h ι e hi.1, E.vals_ag h ι l hi.2]
end
mutual
theorem E.nam_ag {n : Nat} {ρ ρ' : Env} (h : ρ.ag n ρ') (q : Lay0) : ∀ e : E, e.lt n = true → e.nam ρ' q = e.nam ρ q
  | .int k t, hi => by simp only [E.lt] at hi; simp only [E.nam, T.den_ag h t hi]
  | .bool c, hi => by simp only [E.lt] at hi; simp only [E.nam, C.den_ag h c hi]
  | .lit v, _ => rfl
  | .var i, hi => by simp only [E.nam, (h i (by simpa [E.lt] using hi)).2.2]
  | .ptr b o, _ => rfl
  | .slice b o n c, _ => rfl
  | .at b o s n t, hi => by simp only [E.lt] at hi; simp only [E.nam, T.den_ag h t hi]
  | .hnd i, hi => by simp only [E.nam, (h i (by simpa [E.lt] using hi)).2.2]
  | .pla m k o, hi => by simp only [E.lt, Bool.and_eq_true] at hi; simp only [E.nam, T.den_ag h m hi.1, T.den_ag h k hi.2]
  | .agg l, hi => by simp only [E.lt] at hi; simp only [E.nam, E.nams_ag h q l hi]
  | .tup l, hi => by simp only [E.lt] at hi; simp only [E.nam, E.nams_ag h q l hi]
  | .func fn l, hi => by simp only [E.lt] at hi; simp only [E.nam, E.nams_ag h q l hi]
  | .iface t e, hi => by simp only [E.lt] at hi; simp only [E.nam, E.nam_ag h q e hi]
theorem E.nams_ag {n : Nat} {ρ ρ' : Env} (h : ρ.ag n ρ') (q : Lay0) : ∀ l : List E, E.lts n l = true → E.nams ρ' q l = E.nams ρ q l
  | [], _ => rfl
  | e :: l, hi => by simp only [E.lts, Bool.and_eq_true] at hi; simp only [E.nams, E.nam_ag h q e hi.1, E.nams_ag h q l hi.2]
end
end Sx
end Go.Proofs.Ytaigdbnfhehclaa

namespace Go.Proofs.Ytaigdbnfhehclaa
namespace Sx
open Go.RowKit

/-- A computation that asks nothing of the world. -/
def closed {α : Type} (P : Program) : Sem α → Option α
  | .pure a => some a
  | .program k => closed P (k P)
  | .mark _ k => closed P k
  | _ => none
theorem closed_run {α : Type} {P : Program} (w : World) : ∀ {s : Sem α} {a : α}, closed P s = some a → s.run P w = .ok a w
  | .pure a, b, h => by cases h; rfl
  | .program k, b, h => by
    have := closed_run (P := P) w (s := k P) h
    simpa [Sem.run] using this
  | .mark m k, b, h => by
    have := closed_run (P := P) w (s := k) h
    simpa [Sem.run] using this

/-- A value that hangs on nothing. -/
def constC : Value → E
  | .int k n => .int k (.lit n)
  | .bool b => .bool (.lit b)
  | v => .lit v
def constA : Value → E
  | .agg cs => .agg (cs.toList.map constC)
  | v => constC v
def constE : Value → E
  | .tuple cs => .tup (cs.toList.map constA)
  | v => constA v
theorem val_constC (ρ : Env) (ι : Lay) (v : Value) : (constC v).val ρ ι = v := by
  cases v <;> rfl
theorem vals_constC (ρ : Env) (ι : Lay) (l : List Value) : E.vals ρ ι (l.map constC) = l := by
  rw [E.vals_map, List.map_map]; exact (List.map_congr_left fun v _ => val_constC ρ ι v).trans (List.map_id _)
theorem val_constA (ρ : Env) (ι : Lay) (v : Value) : (constA v).val ρ ι = v := by
  unfold constA
  split
  · simp only [E.val, vals_constC]
  · exact val_constC _ _ _
theorem vals_constA (ρ : Env) (ι : Lay) (l : List Value) : E.vals ρ ι (l.map constA) = l := by
  rw [E.vals_map, List.map_map]; exact (List.map_congr_left fun v _ => val_constA ρ ι v).trans (List.map_id _)
theorem val_constE (ρ : Env) (ι : Lay) (v : Value) : (constE v).val ρ ι = v := by
  unfold constE
  split
  · simp only [E.val, vals_constA]
  · exact val_constA _ _ _

/-- The value, where it hangs on nothing. -/
def E.litC : E → Option Value
  | .int k (.lit n) => some (.int k n)
  | .bool (.lit b) => some (.bool b)
  | .lit v => some v
  | _ => none
theorem E.litC_val {ρ : Env} {ι : Lay} {e : E} {v : Value} (h : e.litC = some v) : e.val ρ ι = v := by
  unfold E.litC at h
  split at h <;> cases h <;> rfl
def E.litCs : List E → Option (List Value)
  | [] => some []
  | e :: l => match e.litC, E.litCs l with | some v, some vs => some (v :: vs) | _, _ => none
theorem E.litCs_val {ρ : Env} {ι : Lay} : ∀ {l : List E} {vs : List Value}, E.litCs l = some vs → E.vals ρ ι l = vs
  | [], _, h => by cases h; rfl
  | e :: l, _, h => by
    unfold E.litCs at h
    split at h
    · rename_i h1 h2; cases h; simp only [E.vals, E.litC_val h1, E.litCs_val h2]
    · cases h
def E.litE : E → Option Value
  | .agg l => (E.litCs l).map fun vs => .agg vs.toArray
  | e => e.litC
theorem E.litE_val {ρ : Env} {ι : Lay} {e : E} {v : Value} (h : e.litE = some v) : e.val ρ ι = v := by
  unfold E.litE at h
  split at h
  · cases h1 : E.litCs ‹_› with
    | none => simp [h1] at h
    | some vs => simp [h1] at h; subst h; simp only [E.val, E.litCs_val h1]
  · exact E.litC_val h

/-- The cells. -/
def E.cells : E → Option (List E)
  | .agg l => some l
  | .lit v => if v.oneCell' then some [.lit v] else none
  | .int k t => some [.int k t]
  | .bool c => some [.bool c]
  | .ptr b o => some [.ptr b o]
  | .slice b o n c => some [.slice b o n c]
  | .at b o s n t => some [.at b o s n t]
  | .hnd i => some [.hnd i]
  | .pla n k o => some [.pla n k o]
  | .func f l => some [.func f l]
  | .iface t e => some [.iface t e]
  | _ => none
/-- Is it one cell? -/
def E.one : E → Bool
  | .lit v => v.oneCell'
  | .int _ _ => true
  | .bool _ => true
  | .ptr _ _ => true
  | .slice _ _ _ _ => true
  | .at _ _ _ _ _ => true
  | .hnd _ => true
  | .pla _ _ _ => true
  | .func _ _ => true
  | .iface _ _ => true
  | _ => false
theorem E.one_val {ρ : Env} {ι : Lay} {e : E} (h : e.one = true) : (e.val ρ ι).oneCell' = true := by
  cases e
  case hnd i => exact concC_one (oneOf_one _)
  case pla n k o => exact hatV_one _ _
  all_goals first | exact h | rfl | cases h
theorem E.one_nam {ρ : Env} {q : Lay0} {e : E} (h : e.one = true) : (e.nam ρ q).oneCell' = true := by
  cases e
  case hnd i => exact oneOf_one _
  all_goals first | exact h | rfl | cases h
theorem cells_one {v : Value} (h : v.oneCell' = true) : v.cells = #[v] := by
  cases v <;> first | rfl | cases h
theorem E.cells_val {ρ : Env} {ι : Lay} {e : E} {l : List E} (h : e.cells = some l) : (e.val ρ ι).cells = (E.vals ρ ι l).toArray := by
  unfold E.cells at h
  split at h
  all_goals first
    | (cases h; done)
    | (cases h; rfl)
    | (cases h; simp only [E.val, E.vals]; exact cells_one (concC_one (oneOf_one _)))
    | (cases h; simp only [E.val, E.vals]; exact cells_one (hatV_one _ _))
    | (split at h
       · rename_i h1; cases h; simp only [E.val, E.vals, cells_one h1]
       · cases h)

/-- A frame, and blocks, that hang on variables. -/
structure St where
  n : Nat
  tmps : Tr E
  heap : Tr (List E)
  np : Nat
  wr : Tr Unit
  nv : Nat
  nk : Nat
  pc : Known
  gh : Nat := 0

def E.known (l : Known) : E → E
  | .int k t => .int k (t.known l)
  | e => e
def St.opnd (σ : St) : Operand → Option E
  | .tmp t => match σ.tmps.get t with | some e => some (e.known σ.pc) | none => none
  | .const v => some (constE v)
  | .global g => some (.lit (.pointer (some ⟨g, 0, none⟩)))
  | .func f => some (.func (.func f) [])
def St.opnds (σ : St) : List Operand → Option (List E)
  | [] => some []
  | x :: l => match σ.opnd x, σ.opnds l with | some e, some es => some (e :: es) | _, _ => none

/-- What an operation does. -/
inductive Do where
  | val (e : E)
  | new (cells : List E) (t : TypeId) (sl : Option Nat)
  | store (b o : Nat) (cells : List E)
  | call (f : FuncId) (args : List E)

/-- What is handed back of a new block. -/
def newE (sl : Option Nat) (key : Nat) : E := match sl with | none => .ptr key 0 | some n => .slice key 0 n n
def newV (sl : Option Nat) (b : Nat) : Value := match sl with | none => .pointer (some ⟨b, 0, none⟩) | some n => .slice (some ⟨b, 0, none⟩) n n
def litOf (σ : St) (x : Operand) : Option Value := (σ.opnd x).bind E.litE
def litsOf (σ : St) : List Operand → Option (List (Operand × Value))
  | [] => some []
  | x :: l => match litOf σ x, litsOf σ l with | some v, some vs => some ((x, v) :: vs) | _, _ => none
def sameOp : Operand → Operand → Bool
  | .tmp a, .tmp b => a == b
  | .global a, .global b => a == b
  | .func a, .func b => a == b
  | _, _ => false
/-- The values of operands, by a list. -/
def atList (vs : List (Operand × Value)) (x : Operand) : Value := match x with
  | .const v => v
  | x => match vs.find? (fun p => sameOp p.1 x) with | some p => p.2 | none => undef
/-- An operation whose operands hang on nothing: by the model itself. -/
def opLit (P : Program) (σ : St) (o : Oper) : Option Value := match o.op with
  | .select _ _ => none
  | op => match litsOf σ op.operands.toList with
    | some vs => match closed P (execOp (atList vs) o) with
      | some (.value v) => some v
      | _ => none
    | none => none

def zeroE (P : Program) (t : TypeId) : Option (List E) := match P.info? t with
  | some i => match i.zero with | some v => some (v.cells.toList.map constC) | none => none
  | none => none
def sizeE (P : Program) (t : TypeId) : Option Nat := (P.info? t).map (·.size)
def isRowE (P : Program) (t : TypeId) : Option Bool := match P.underlying t with
  | some (.struct _) => some true
  | some (.array _ _) => some true
  | some _ => some false
  | none => none
/-- A part of a struct, or an array. -/
def partE (P : Program) (t : TypeId) (l : List E) (off : Nat) : Option E := match isRowE P t with
  | some true => match sizeE P t with | some n => if off + n ≤ l.length then some (.agg ((l.drop off).take n)) else none | none => none
  | some false => l[off]?
  | none => none
/-- Cells are laid over others. -/
def overE (l : List E) (off : Nat) (cs : List E) : List E := l.take off ++ cs ++ l.drop (off + cs.length)
def fillE (place : Nat → Option (Nat × Nat)) (cells : List E) : List (Nat × E) → Option (List E)
  | [] => some cells
  | (i, e) :: rest => match place i, e.cells with
    | some (off, size), some cs => if cs.length = size ∧ off + cs.length ≤ cells.length then fillE place (overE cells off cs) rest else none
    | _, _ => none
def St.parts (σ : St) : List (Nat × Operand) → Option (List (Nat × E))
  | [] => some []
  | (i, x) :: l => match σ.opnd x, σ.parts l with | some e, some es => some ((i, e) :: es) | _, _ => none
def placesE (P : Program) (fs : List Field) : Option (List (Nat × Nat)) := match fs with
  | [] => some []
  | f :: r => match sizeE P f.type, placesE P r with | some n, some l => some ((f.offset, n) :: l) | _, _ => none
def buildE (P : Program) (t : TypeId) (parts : List (Nat × E)) : Option (List E) := match zeroE P t, P.underlying t with
  | some z, some (.struct fs) => match placesE P fs.toList with
    | some pl => fillE (fun i => pl[i]?) z parts
    | none => none
  | some z, some (.array _ el) => match sizeE P el with
    | some n => fillE (fun i => some (i * n, n)) z parts
    | none => none
  | _, _ => none
def goodFunc (P : Program) (f : FuncId) : Bool := match P.funcs[f]? with
  | some fn => fn.name != "runtime.NumGoroutine" && fn.body.isSome
  | none => false
def isArith : BinOp → Bool
  | .add | .sub | .mul | .and | .or | .xor | .andNot => true
  | _ => false
def isDiv : BinOp → Bool
  | .quo | .rem => true
  | _ => false
def isShift : BinOp → Bool
  | .shl | .shr => true
  | _ => false
def isCmp : BinOp → Bool
  | .eql | .neq | .lss | .leq | .gtr | .geq => true
  | _ => false
def isBoolT (P : Program) (t : TypeId) : Bool := match P.underlying t with | some .bool => true | _ => false
def binE (P : Program) (o : BinOp) (t : TypeId) : E → E → Option (E × List C)
  | .int k a, .int k' b =>
    if isShift o then some (.int k (T.bin' o k a b), [C.cmp' .geq b (.lit 0)])
    else if k ≠ k' then none
    else if isArith o then some (.int k (T.bin' o k a b), [])
    else if isDiv o then some (.int k (T.bin' o k a b), [C.cmp' .neq b (.lit 0)])
    else some (.bool (C.cmp' o a b), [])
  | .bool a, .bool b => if isBoolT P t then match o with
      | .eql => some (.bool (C.iff' a b), [])
      | .neq => some (.bool (C.iff' a b).not', [])
      | _ => none
    else none
  | _, _ => none
def minE (mn : Bool) : List E → Option E
  | [] => none
  | .int k a :: l => minE.go k a l
  | _ => none
where go (k : IntKind) (a : T) : List E → Option E
  | [] => some (.int k a)
  | .int _ b :: l => go k (if mn then T.mn' a b else T.mx' a b) l
  | _ => none

def opE (P : Program) (σ : St) (o : Oper) : Option (Do × List C) := match o.op with
  | .move x => match σ.opnd x with | some e => some (.val e, []) | none => none
  | .assign x => match σ.opnd x with | some e => some (.val e, []) | none => none
  | .pick c a b => match σ.opnd c, σ.opnd a, σ.opnd b with
    | some (.bool c), some x, some y => match c.simp σ.pc with
      | .lit true => some (.val x, [])
      | .lit false => some (.val y, [])
      | c' => match x, y with
        | .bool x, .bool y => some (.val (.bool (C.ite' c' x y)), [])
        | _, _ => none
    | _, _, _ => none
  | .alloc t => match zeroE P t with | some z => some (.new z t none, []) | none => none
  | .box t x => match σ.opnd x with
    | some e => match e.cells with | some l => some (.new l t none, []) | none => none
    | none => none
  | .build t parts => match σ.parts parts.toList with
    | some ps => match buildE P t ps with | some l => some (.val (.agg l), []) | none => none
    | none => none
  | .load t x => match σ.opnd x with
    | some (.ptr b o) => match σ.heap.get b with
      | some l => match partE P t l o with | some e => some (.val e, []) | none => none
      | none => none
    | _ => none
  | .store t x y => match σ.opnd x, σ.opnd y with
    | some (.ptr b o), some e => match σ.heap.get b, e.cells, sizeE P t with
      | some l, some cs, some n => if cs.length = n ∧ o + n ≤ l.length ∧ cs.all E.one then some (.store b o cs, []) else none
      | _, _, _ => none
    | _, _ => none
  | .nilCheck x => match σ.opnd x with
    | some (.ptr b o) => some (.val (.ptr b o), [])
    | some (.pla n k o) => some (.val (.pla n k o), [])
    | _ => none
  | .binOp bo t x y _ => match σ.opnd x, σ.opnd y with
    | some a, some b => match binE P bo t a b with | some (e, ns) => some (.val e, ns) | none => none
    | _, _ => none
  | .unOp uo _ x => match uo, σ.opnd x with
    | .not, some (.bool c) => some (.val (.bool c.not'), [])
    | .neg, some (.int k a) => some (.val (.int k (T.bin' .sub k (.lit 0) a)), [])
    | _, _ => none
  | .convert s d x => match P.underlying s, P.underlying d, σ.opnd x with
    | some _, some (.int k), some (.int _ a) => some (.val (.int k (T.wrap' k a)), [])
    | _, _, _ => none
  | .fieldAddr s x f => match σ.opnd x, P.underlying s with
    | some (.ptr b o), some (.struct fs) => match fs[f]? with
      | some fd => match sizeE P fd.type with
        | some n => if n = 0 then none else some (.val (.ptr b (o + fd.offset)), [])
        | none => none
      | none => none
    | some (.pla m k o), some (.struct fs) => match fs[f]? with
      | some fd => match sizeE P fd.type with
        | some n => if n = 0 then none else some (.val (.pla m k (o + fd.offset)), [])
        | none => none
      | none => none
    | _, _ => none
  | .field t x f => match σ.opnd x, P.underlying t with
    | some (.agg l), some (.struct fs) => match fs[f]? with
      | some fd => match partE P fd.type l fd.offset with | some e => some (.val e, []) | none => none
      | none => none
    | _, _ => none
  | .indexAddr t x i => match σ.opnd x, σ.opnd i, P.underlying t with
    | some (.ptr b o), some (.int _ (.lit n)), some (.array len el) => match sizeE P el with
      | some s => if 0 ≤ n ∧ n < len then some (.val (.ptr b (o + n.toNat * s)), []) else none
      | none => none
    | some (.pla m k o), some (.int _ (.lit n)), some (.array len el) => match sizeE P el with
      | some s => if 0 ≤ n ∧ n < len then some (.val (.pla m k (o + n.toNat * s)), []) else none
      | none => none
    | _, _, _ => none
  | .index t x i => match σ.opnd x, σ.opnd i, P.underlying t with
    | some (.agg l), some (.int _ (.lit n)), some (.array len el) => match sizeE P el with
      | some s => if 0 ≤ n ∧ n < len then (match partE P el l (n.toNat * s) with | some e => some (.val e, []) | none => none) else none
      | none => none
    | _, _, _ => none
  | .extract x i => match σ.opnd x with
    | some (.tup l) => match l[i]? with | some e => some (.val e, []) | none => none
    | _ => none
  | .makeInterface t x => match σ.opnd x, P.underlying t with
    | some _, some (.interface _) => none
    | some e, some _ => some (.val (.iface t e), [])
    | _, _ => none
  | .makeFunc fn first captured => if first.size = 0 then match σ.opnds captured.toList with
      | some l => some (.val (.func fn l), [])
      | none => none
    else none
  | .call c => match c.callee, σ.opnds c.args.toList with
    | .value f, some args => match σ.opnd f with
      | some (.func (.func f) l) => if goodFunc P f then some (.call f (args ++ l), []) else none
      | _ => none
    | .builtin .min, some args => match minE true args with | some e => some (.val e, []) | none => none
    | .builtin .max, some args => match minE false args with | some e => some (.val e, []) | none => none
    | _, _ => none
  | _ => none
/-- Every s-th cell, from o on. -/
def cols (l : List E) (s : Nat) : Nat → Nat → Option (List E)
  | 0, _ => some []
  | n + 1, o => match l[o]?, cols l s n (o + s) with | some e, some r => some (e :: r) | _, _ => none
def selI (k : IntKind) : List E → Option (List Int)
  | [] => some []
  | .int k' (.lit x) :: r => if k' = k then (match selI k r with | some xs => some (x :: xs) | none => none) else none
  | _ => none
/-- One of known numbers. -/
def selE (t : T) : List E → Option E
  | .int k a :: r => match selI k (.int k a :: r) with | some xs => some (.int k (.sel xs t)) | none => none
  | _ => none
def times : Nat → List E → List E
  | 0, _ => []
  | n + 1, z => z ++ times n z
/-- A bound of a slice, if it is known. -/
def boundE (σ : St) (d : Nat) : Option Operand → Option Nat
  | none => some d
  | some x => match σ.opnd x with | some (.int _ (.lit n)) => if 0 ≤ n then some n.toNat else none | _ => none
/-- The library's sum of two words. -/
def isAdd64 (P : Program) (g : FuncId) : Bool := match P.funcs[g]? with
  | some fn => fn.name == "math/bits.Add64" && fn.body.isNone && (Extern.allNextRows.lookup fn.origin).isNone
  | none => false
/-- Operations on slices of known length. -/
def isPtrT (P : Program) (t : TypeId) : Bool := match P.underlying t with | some (.pointer _) => true | _ => false
def opS (P : Program) (σ : St) (o : Oper) : Option (Do × List C) := match o.op with
  | .buildSlice t len parts => match σ.parts parts.toList, P.underlying t with
    | some ps, some (.slice el) => match zeroE P el, sizeE P el with
      | some z, some n => if 0 < len ∧ 0 < n ∧ z.length = n ∧ len * n ≤ 65536 then
          match fillE (fun i => some (i * n, n)) (times len z) ps with | some l => some (.new l el (some len), []) | none => none
        else none
      | _, _ => none
    | _, _ => none
  | .makeSlice t x y => match σ.opnd x, σ.opnd y, P.underlying t with
    | some (.int _ (.lit n)), some (.int _ (.lit m)), some (.slice el) => match P.info? el with
      | some i => match i.zero with
        | some v => if n = m ∧ 0 < n ∧ 0 < v.cells.size ∧ v.cells.size = i.size ∧ n.toNat * i.size ≤ 65536 ∧ i.bytes * n.toNat ≤ 65536 then some (.new (times n.toNat (v.cells.toList.map constC)) el (some n.toNat), []) else none
        | none => none
      | none => none
    | _, _, _ => none
  | .indexAddr t x i => match σ.opnd x, σ.opnd i, P.underlying t with
    | some (.slice b o n _), some (.int _ t'), some (.slice el) => match sizeE P el with
      | some s => match t' with
        | .lit j => if 0 ≤ j ∧ j < n then some (.val (.ptr b (o + j.toNat * s)), []) else none
        | t' => if 0 < n then some (.val (.at b o s n t'), [C.cmp' .geq t' (.lit 0), C.cmp' .lss t' (.lit n)]) else none
      | none => none
    | _, _, _ => none
  | .load t x => match σ.opnd x with
    | some (.at b o s n t') => match σ.heap.get b, isRowE P t with
      | some l, some false => match cols l s n o with
        | some c => match selE t' c with | some e => some (.val e, []) | none => none
        | none => none
      | _, _ => none
    | _ => none
  | .slice t x lo hi none => match σ.opnd x, P.underlying t, boundE σ 0 lo with
    | some (.slice b o n c), some (.slice el), some l => match boundE σ n hi, sizeE P el with
      | some h, some s => if l ≤ h ∧ h ≤ c ∧ l < c then some (.val (.slice b (o + l * s) (h - l) (c - l)), []) else none
      | _, _ => none
    | some (.ptr b o), some (.array n el), some l => match boundE σ n hi, sizeE P el with
      | some h, some s => if l ≤ h ∧ h ≤ n ∧ l < n then some (.val (.slice b (o + l * s) (h - l) (n - l)), []) else none
      | _, _ => none
    | _, _, _ => none
  | .call c => match c.callee with
    | .builtin .len => match σ.opnds c.args.toList, c.argTypes[0]? with
      | some [.slice _ _ n _], some t => match P.underlying t with
        | some (.slice _) => some (.val (.int .i64 (.lit n)), [])
        | _ => none
      | _, _ => none
    | .value f => match σ.opnds c.args.toList, σ.opnd f with
      | some [.int _ x, .int _ y, .int _ (.lit 0)], some (.func (.func g) []) => if isAdd64 P g then some (.val (.tup [.int .u64 (.add2 false x y), .int .u64 (.add2 true x y)]), []) else none
      | _, _ => none
    | _ => none
  | .binOp bo t x y _ => match σ.opnd x, σ.opnd y with
    | some (.pla _ _ _), some (.lit (.pointer none)) => if isPtrT P t then (match bo with | .eql => some (.val (.bool (.lit false)), []) | .neq => some (.val (.bool (.lit true)), []) | _ => none) else none
    | _, _ => none
  | _ => none
def opX (P : Program) (σ : St) (o : Oper) : Option (Do × List C) := match opE P σ o with
  | some r => some r
  | none => match opS P σ o with
  | some r => some r
  | none => match opLit P σ o with
    | some v => some (.val (constE v), [])
    | none => none
end Sx
end Go.Proofs.Ytaigdbnfhehclaa

namespace Go.Proofs.Ytaigdbnfhehclaa
namespace Sx
open Go.RowKit

section
variable {P : Program} {σ : St} {ρ : Env} {ι : Lay} {a : Act} {w : World}

/-- The frame and the blocks are as the symbolic ones tell. -/
structure Held (σ : St) (ρ : Env) (ι : Lay) (a : Act) (w : World) : Prop where
  tmps : ∀ t e, σ.tmps.get t = some e → a.tmps.getD t undef = e.val ρ ι
  cell : ∀ b l, σ.heap.get b = some l → ∀ (j : Nat) (c : E), l[j]? = some c → w.cell? ⟨(ι b).1, (ι b).2 + j, none⟩ = some (c.val ρ ι) ∧ w.frozen? ⟨(ι b).1, (ι b).2 + j, none⟩ = false
  pc : σ.pc.ok ρ

theorem E.val_known {l : Known} (hl : l.ok ρ) (e : E) : (e.known l).val ρ ι = e.val ρ ι := by
  unfold E.known
  split
  · simp only [E.val, T.den_known hl]
  · rfl
theorem Held.opnd (H : Held σ ρ ι a w) {x : Operand} {e : E} (h : σ.opnd x = some e) : a.eval x = e.val ρ ι := by
  cases x with
  | tmp t =>
    simp only [St.opnd] at h
    split at h
    · rename_i e' he
      cases h
      rw [E.val_known H.pc]
      exact H.tmps t e' he
    · cases h
  | const v => simp only [St.opnd, Option.some.injEq] at h; subst h; exact (val_constE _ _ _).symm
  | global g => cases h; rfl
  | func f => cases h; rfl
theorem Held.opnds (H : Held σ ρ ι a w) : ∀ {l : List Operand} {es : List E}, σ.opnds l = some es → l.map a.eval = E.vals ρ ι es
  | [], _, h => by cases h; rfl
  | x :: l, _, h => by
    unfold St.opnds at h
    split at h
    · rename_i h1 h2; cases h; simp only [List.map_cons, H.opnd h1, H.opnds h2, E.vals]
    · cases h
theorem Held.opnds_arr (H : Held σ ρ ι a w) {l : Array Operand} {es : List E} (h : σ.opnds l.toList = some es) : l.map a.eval = (E.vals ρ ι es).toArray := by
  rw [← H.opnds h, ← List.map_toArray, Array.toArray_toList]
theorem Held.parts (H : Held σ ρ ι a w) : ∀ {l : List (Nat × Operand)} {es : List (Nat × E)}, σ.parts l = some es → l.map (fun p => (p.1, a.eval p.2)) = es.map fun p => (p.1, p.2.val ρ ι)
  | [], _, h => by cases h; rfl
  | (i, x) :: l, _, h => by
    unfold St.parts at h
    split at h
    · rename_i h1 h2; cases h; simp only [List.map_cons, H.opnd h1, H.parts h2]
    · cases h

/-- What the operation does in the model. -/
def Do.does (P : Program) (σ : St) (ρ : Env) (ι : Lay) (a : Act) (w : World) (o : Oper) : Do → Prop
  | .val e => (execOp a.eval o).run P w = .ok (.value (e.val ρ ι)) w
  | .new l t sl => (execOp a.eval o).run P w = .ok (.value (newV sl w.heap.size)) (w.alloc (.cells (E.vals ρ ι l).toArray t))
  | .store b o' cs => (execOp a.eval o).run P w = .ok .skip (w.setCells (ι b).1 ((ι b).2 + o') (E.vals ρ ι cs)) ∧ ∃ l, σ.heap.get b = some l ∧ o' + cs.length ≤ l.length
  | .call f args => (execOp a.eval o).run P w = .ok (.enter f (E.vals ρ ι args).toArray) w

theorem zeroE_run {t : TypeId} {z : List E} (h : zeroE P t = some z) (ρ : Env) (ι : Lay) (w : World) : ∃ v, (zeroValue t).run P w = .ok v w ∧ v.cells = (E.vals ρ ι z).toArray := by
  unfold zeroE at h
  split at h
  · rename_i i hi
    split at h
    · rename_i v hz
      cases h
      refine ⟨v, ?_, ?_⟩
      · simp [zeroValue, typeInfo, hi, hz]
      · rw [vals_constC]
    · cases h
  · cases h
theorem sizeE_run {t : TypeId} {n : Nat} (h : sizeE P t = some n) (w : World) : (sizeOf t).run P w = .ok n w := by
  unfold sizeE at h
  cases hi : P.info? t with
  | none => simp [hi] at h
  | some i => simp [hi] at h; subst h; simp [sizeOf, typeInfo, hi]
theorem isRowE_run {t : TypeId} {b : Bool} (h : isRowE P t = some b) (w : World) : (isAgg t).run P w = .ok b w := by
  unfold isRowE at h
  unfold isAgg
  split at h
  · rename_i hu; cases h; simp [run_underlying hu]
  · rename_i hu; cases h; simp [run_underlying hu]
  · rename_i d h1 h2 hu
    cases h
    rw [Sem.run_bind, run_underlying hu]
    cases d <;> simp_all
  · cases h
theorem vals_drop_take (l : List E) (o n : Nat) : (E.vals ρ ι l).extract o (o + n) = E.vals ρ ι ((l.drop o).take n) := by
  simp [E.vals_map, List.extract_eq_take_drop, List.map_take, List.map_drop]
theorem partE_run {t : TypeId} {l : List E} {off : Nat} {e : E} (h : partE P t l off = some e) (w : World) : (part t (E.vals ρ ι l).toArray off).run P w = .ok (e.val ρ ι) w := by
  unfold partE at h
  unfold part
  split at h
  · rename_i h1
    split at h
    · rename_i n h2
      split at h
      · cases h
        simp only [Sem.run_bind, isRowE_run h1, Result.andThen_ok, if_true, sizeE_run h2, Sem.run_pure]
        congr 2
        simp [← vals_drop_take (ρ := ρ) (ι := ι) l off n]
      · cases h
    · cases h
  · rename_i h1
    have h3 : (E.vals ρ ι l).toArray[off]? = some (e.val ρ ι) := by simp [E.vals_get, h]
    simp only [Sem.run_bind, isRowE_run h1, Result.andThen_ok, Bool.false_eq_true, if_false, h3, Sem.run_pure]
  · cases h
theorem foldl_over (off : Nat) : ∀ (cs : List Value) (base : Nat) (l : List Value), off + base + cs.length ≤ l.length →
    (cs.zipIdx base).foldl (fun (acc : Array Value) (p : Value × Nat) => acc.setIfInBounds (off + p.2) p.1) l.toArray = (l.take (off + base) ++ cs ++ l.drop (off + base + cs.length)).toArray
  | [], base, l, _ => by simp
  | c :: cs, base, l, h => by
    simp only [List.length_cons] at h
    rw [List.zipIdx_cons, List.foldl_cons]
    simp only [List.setIfInBounds_toArray]
    rw [foldl_over off cs (base + 1) _ (by simp; omega)]
    congr 1
    apply List.ext_getElem?
    intro i
    have e1 : off + (base + 1) = off + base + 1 := by omega
    rw [e1]
    simp only [List.getElem?_append, List.length_take, List.length_set, List.length_append, List.getElem?_take, List.getElem?_drop, List.getElem?_set, List.length_cons]
    rw [show min (off + base + 1) l.length = off + base + 1 by omega, show min (off + base) l.length = off + base by omega]
    by_cases h1 : i < off + base
    · simp [h1, show i < off + base + 1 by omega, show i < off + base + 1 + cs.length by omega, show i < off + base + (cs.length + 1) by omega, show ¬ off + base = i by omega]
    · by_cases h2 : i = off + base
      · subst h2
        simp [show off + base < off + base + 1 + cs.length by omega, show off + base < l.length by omega]
      · by_cases h3 : i < off + base + 1 + cs.length
        · simp only [show ¬ i < off + base by omega, show ¬ i < off + base + 1 by omega, h3, show i < off + base + (cs.length + 1) by omega, if_true, if_false]
          rw [show i - (off + base) = (i - (off + base + 1)) + 1 by omega, List.getElem?_cons_succ]
        · simp only [h3, show ¬ i < off + base + (cs.length + 1) by omega, if_false]
          rw [if_neg (by omega)]
          congr 1
          omega
theorem vals_over (l cs : List E) (off : Nat) : E.vals ρ ι (overE l off cs) = (E.vals ρ ι l).take off ++ E.vals ρ ι cs ++ (E.vals ρ ι l).drop (off + (E.vals ρ ι cs).length) := by
  simp [overE, E.vals_map]
theorem fillE_run (place : Nat → Option (Nat × Nat)) : ∀ (ps : List (Nat × E)) (cells r : List E), fillE place cells ps = some r →
    Instr.fill place (E.vals ρ ι cells).toArray (ps.map fun p => (p.1, p.2.val ρ ι)) = some (E.vals ρ ι r).toArray
  | [], cells, r, h => by cases h; rfl
  | (i, e) :: ps, cells, r, h => by
    unfold fillE at h
    split at h
    · rename_i off size cs h1 h2
      split at h
      · rename_i h3
        obtain ⟨h4, h5⟩ := h3
        have ih := fillE_run place ps _ r h
        simp only [List.map_cons, Instr.fill, h1]
        rw [E.cells_val h2]
        have e1 : ((E.vals ρ ι cs).toArray.size ≠ size || decide (off + (E.vals ρ ι cs).toArray.size > (E.vals ρ ι cells).toArray.size)) = false := by
          simp [E.vals_length]; omega
        have e2 := foldl_over off (E.vals ρ ι cs) 0 (E.vals ρ ι cells) (by simp [E.vals_length]; omega)
        simp only [Nat.add_zero] at e2
        rw [← vals_over] at e2
        rw [← ih, ← e2]
        simp [E.vals_length, h4, Nat.not_lt.2 (show off + size ≤ cells.length by omega)]
      · cases h
    · cases h
theorem listM_run {α β : Type} {f : α → Sem β} {w : World} : ∀ {as : List α} {l : List β}, l.length = as.length → (∀ (j : Nat) (x : α) (y : β), as[j]? = some x → l[j]? = some y → (f x).run P w = .ok y w) →
    (as.mapM f).run P w = .ok l w
  | [], [], _, _ => rfl
  | a :: as, b :: l, hl, h => by
    have ih := listM_run (f := f) (w := w) (as := as) (l := l) (by simpa using hl) (fun j x y hx hy => h (j + 1) x y (by simpa using hx) (by simpa using hy))
    simp only [List.mapM_cons, Sem.run_bind, h 0 a b rfl rfl, Result.andThen_ok, ih, Sem.run_pure]
theorem mapM_run {α β : Type} {f : α → Sem β} {w : World} {as : Array α} {l : List β} (hl : l.length = as.size) (h : ∀ (j : Nat) (x : α) (y : β), as[j]? = some x → l[j]? = some y → (f x).run P w = .ok y w) :
    (as.mapM f).run P w = .ok l.toArray w := by
  have h1 := listM_run (f := f) (w := w) (as := as.toList) (l := l) (by simpa using hl) (fun j x y hx hy => h j x y (by simpa using hx) hy)
  rw [← Array.toArray_toList (xs := as), List.mapM_toArray, map_eq_pure_bind]
  simp only [Sem.run_bind, h1, Result.andThen_ok, Sem.run_pure]
theorem placesE_get (w : World) : ∀ {fs : List Field} {pl : List (Nat × Nat)}, placesE P fs = some pl → pl.length = fs.length ∧ ∀ (j : Nat) (f : Field) (y : Nat × Nat), fs[j]? = some f → pl[j]? = some y →
    ((do pure (f.offset, ← sizeOf f.type)) : Sem (Nat × Nat)).run P w = .ok y w
  | [], _, h => by cases h; exact ⟨rfl, fun j f y h => by simp at h⟩
  | f :: fs, _, h => by
    unfold placesE at h
    split at h
    · rename_i h1 h2
      cases h
      obtain ⟨h3, h4⟩ := placesE_get w h2
      refine ⟨by simp [h3], fun j g y hg hy => ?_⟩
      cases j with
      | zero => simp at hg hy; subst hg hy; simp only [Sem.run_bind, sizeE_run h1, Result.andThen_ok, Sem.run_pure]
      | succ j => exact h4 j g y (by simpa using hg) (by simpa using hy)
    · cases h
theorem buildE_run {t : TypeId} {ps : List (Nat × E)} {r : List E} (h : buildE P t ps = some r) (w : World) :
    (Instr.build t (ps.map fun p => (p.1, p.2.val ρ ι)).toArray).run P w = .ok (.agg (E.vals ρ ι r).toArray) w := by
  unfold buildE at h
  unfold Instr.build
  split at h
  · rename_i z fs hz hu
    obtain ⟨v, h1, h2⟩ := zeroE_run hz ρ ι w
    split at h
    · rename_i pl hp
      have h3 := fillE_run (ρ := ρ) (ι := ι) _ _ _ _ h
      obtain ⟨h6, h4⟩ := placesE_get w hp
      have h5 : (fs.mapM (m := Sem) fun f => do pure (f.offset, ← sizeOf f.type)).run P w = .ok pl.toArray w :=
        mapM_run (by simpa using h6) fun j x y hx hy => h4 j x y (by simpa using hx) hy
      simp only [Sem.run_bind, h1, Result.andThen_ok, run_underlying hu, h5, h2]
      rw [show (fun i => pl.toArray[i]?) = (fun i => pl[i]?) from by funext i; simp, h3]
      rfl
    · cases h
  · rename_i z n el hz hu
    obtain ⟨v, h1, h2⟩ := zeroE_run hz ρ ι w
    split at h
    · rename_i s hs
      have h3 := fillE_run (ρ := ρ) (ι := ι) _ _ _ _ h
      simp only [Sem.run_bind, h1, Result.andThen_ok, run_underlying hu, sizeE_run hs, h2, h3]
      rfl
    · cases h
  · cases h
end
end Sx
end Go.Proofs.Ytaigdbnfhehclaa
