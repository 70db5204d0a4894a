/-
  What is proved: plain laws on symbolic frames and heaps: what an operation does to them; no program in sight. No condition.
-/
import Derived.Test.YtcedgoaanlbldaaSyA
import Derived.Deep.MidRow
import Derived.Deep.Upon
namespace Go.Proofs.Ytcedgoaanlbldaa
namespace Sx
open Go.RowKit

/-- A computation that asks nothing of the world. -/
def closed {α : Type} (P : Program) : Sem α → Option α
  | .pure a => some a
  | .program k => closed P (k P)
  | .mark _ k => closed P k
  | _ => none
theorem closed_run {α : Type} {P : Program} (w : World) : ∀ {s : Sem α} {a : α}, closed P s = some a → s.run P w = .ok a w
  | .pure a, b, h => by cases h; rfl
  | .program k, b, h => by
    have := closed_run (P := P) w (s := k P) h
    simpa [Sem.run] using this
  | .mark m k, b, h => by
    have := closed_run (P := P) w (s := k) h
    simpa [Sem.run] using this

/-- A value that hangs on nothing. -/
def constC : Value → E
  | .int k n => .int k (.lit n)
  | .bool b => .bool (.lit b)
  | v => .lit v
def constA : Value → E
  | .agg cs => .agg (cs.toList.map constC)
  | v => constC v
def constE : Value → E
  | .tuple cs => .tup (cs.toList.map constA)
  | v => constA v
theorem val_constC (ρ : Env) (ι : Lay) (v : Value) : (constC v).val ρ ι = v := by
  cases v <;> rfl
theorem vals_constC (ρ : Env) (ι : Lay) (l : List Value) : E.vals ρ ι (l.map constC) = l := by
  rw [E.vals_map, List.map_map]; exact (List.map_congr_left fun v _ => val_constC ρ ι v).trans (List.map_id _)
theorem val_constA (ρ : Env) (ι : Lay) (v : Value) : (constA v).val ρ ι = v := by
  unfold constA
  split
  · simp only [E.val, vals_constC]
  · exact val_constC _ _ _
theorem vals_constA (ρ : Env) (ι : Lay) (l : List Value) : E.vals ρ ι (l.map constA) = l := by
  rw [E.vals_map, List.map_map]; exact (List.map_congr_left fun v _ => val_constA ρ ι v).trans (List.map_id _)
theorem val_constE (ρ : Env) (ι : Lay) (v : Value) : (constE v).val ρ ι = v := by
  unfold constE
  split
  · simp only [E.val, vals_constA]
  · exact val_constA _ _ _

/-- The value, where it hangs on nothing. -/
def E.litC : E → Option Value
  | .int k (.lit n) => some (.int k n)
  | .bool (.lit b) => some (.bool b)
  | .lit v => some v
  | _ => none
theorem E.litC_val {ρ : Env} {ι : Lay} {e : E} {v : Value} (h : e.litC = some v) : e.val ρ ι = v := by
  unfold E.litC at h
  split at h <;> cases h <;> rfl
def E.litCs : List E → Option (List Value)
  | [] => some []
  | e :: l => match e.litC, E.litCs l with | some v, some vs => some (v :: vs) | _, _ => none
theorem E.litCs_val {ρ : Env} {ι : Lay} : ∀ {l : List E} {vs : List Value}, E.litCs l = some vs → E.vals ρ ι l = vs
  | [], _, h => by cases h; rfl
  | e :: l, _, h => by
    unfold E.litCs at h
    split at h
    · rename_i h1 h2; cases h; simp only [E.vals, E.litC_val h1, E.litCs_val h2]
    · cases h
def E.litE : E → Option Value
  | .agg l => (E.litCs l).map fun vs => .agg vs.toArray
  | e => e.litC
theorem E.litE_val {ρ : Env} {ι : Lay} {e : E} {v : Value} (h : e.litE = some v) : e.val ρ ι = v := by
  unfold E.litE at h
  split at h
  · cases h1 : E.litCs ‹_› with
    | none => simp [h1] at h
    | some vs => simp [h1] at h; subst h; simp only [E.val, E.litCs_val h1]
  · exact E.litC_val h

/-- The cells. -/
def E.cells : E → Option (List E)
  | .agg l => some l
  | .lit v => if v.oneCell' then some [.lit v] else none
  | .int k t => some [.int k t]
  | .bool c => some [.bool c]
  | .ptr b o => some [.ptr b o]
  | .slice b o n c => some [.slice b o n c]
  | .at b o s n t => some [.at b o s n t]
  | .hnd i => some [.hnd i]
  | .pla n k o => some [.pla n k o]
  | .func f l => some [.func f l]
  | .iface t e => some [.iface t e]
  | _ => none
/-- Is it one cell? -/
def E.one : E → Bool
  | .lit v => v.oneCell'
  | .int _ _ => true
  | .bool _ => true
  | .ptr _ _ => true
  | .slice _ _ _ _ => true
  | .at _ _ _ _ _ => true
  | .hnd _ => true
  | .pla _ _ _ => true
  | .func _ _ => true
  | .iface _ _ => true
  | _ => false
theorem E.one_val {ρ : Env} {ι : Lay} {e : E} (h : e.one = true) : (e.val ρ ι).oneCell' = true := by
  cases e
  case hnd i => exact concC_one (oneOf_one _)
  case pla n k o => exact hatV_one _ _
  all_goals first | exact h | rfl | cases h
theorem E.one_nam {ρ : Env} {q : Lay0} {e : E} (h : e.one = true) : (e.nam ρ q).oneCell' = true := by
  cases e
  case hnd i => exact oneOf_one _
  all_goals first | exact h | rfl | cases h
theorem cells_one {v : Value} (h : v.oneCell' = true) : v.cells = #[v] := by
  cases v <;> first | rfl | cases h
theorem E.cells_val {ρ : Env} {ι : Lay} {e : E} {l : List E} (h : e.cells = some l) : (e.val ρ ι).cells = (E.vals ρ ι l).toArray := by
  unfold E.cells at h
  split at h
  all_goals first
    | (cases h; done)
    | (cases h; rfl)
    | (cases h; simp only [E.val, E.vals]; exact cells_one (concC_one (oneOf_one _)))
    | (cases h; simp only [E.val, E.vals]; exact cells_one (hatV_one _ _))
    | (split at h
       · rename_i h1; cases h; simp only [E.val, E.vals, cells_one h1]
       · cases h)

/-- A frame, and blocks, that hang on variables. -/
structure St where
  n : Nat
  tmps : Tr E
  heap : Tr (List E)
  np : Nat
  wr : Tr Unit
  nv : Nat
  nk : Nat
  pc : Known
  gh : Nat := 0

def E.known (l : Known) : E → E
  | .int k t => .int k (t.known l)
  | e => e
def St.opnd (σ : St) : Operand → Option E
  | .tmp t => match σ.tmps.get t with | some e => some (e.known σ.pc) | none => none
  | .const v => some (constE v)
  | .global g => some (.lit (.pointer (some ⟨g, 0, none⟩)))
  | .func f => some (.func (.func f) [])
def St.opnds (σ : St) : List Operand → Option (List E)
  | [] => some []
  | x :: l => match σ.opnd x, σ.opnds l with | some e, some es => some (e :: es) | _, _ => none

/-- What an operation does. -/
inductive Do where
  | val (e : E)
  | new (cells : List E) (t : TypeId) (sl : Option Nat)
  | store (b o : Nat) (cells : List E)
  | call (f : FuncId) (args : List E)

/-- What is handed back of a new block. -/
def newE (sl : Option Nat) (key : Nat) : E := match sl with | none => .ptr key 0 | some n => .slice key 0 n n
def newV (sl : Option Nat) (b : Nat) : Value := match sl with | none => .pointer (some ⟨b, 0, none⟩) | some n => .slice (some ⟨b, 0, none⟩) n n
def litOf (σ : St) (x : Operand) : Option Value := (σ.opnd x).bind E.litE
def litsOf (σ : St) : List Operand → Option (List (Operand × Value))
  | [] => some []
  | x :: l => match litOf σ x, litsOf σ l with | some v, some vs => some ((x, v) :: vs) | _, _ => none
def sameOp : Operand → Operand → Bool
  | .tmp a, .tmp b => a == b
  | .global a, .global b => a == b
  | .func a, .func b => a == b
  | _, _ => false
/-- The values of operands, by a list. -/
def atList (vs : List (Operand × Value)) (x : Operand) : Value := match x with
  | .const v => v
  | x => match vs.find? (fun p => sameOp p.1 x) with | some p => p.2 | none => undef
/-- An operation whose operands hang on nothing: by the model itself. -/
def opLit (P : Program) (σ : St) (o : Oper) : Option Value := match o.op with
  | .select _ _ => none
  | op => match litsOf σ op.operands.toList with
    | some vs => match closed P (execOp (atList vs) o) with
      | some (.value v) => some v
      | _ => none
    | none => none

def zeroE (P : Program) (t : TypeId) : Option (List E) := match P.info? t with
  | some i => match i.zero with | some v => some (v.cells.toList.map constC) | none => none
  | none => none
def sizeE (P : Program) (t : TypeId) : Option Nat := (P.info? t).map (·.size)
def isRowE (P : Program) (t : TypeId) : Option Bool := match P.underlying t with
  | some (.struct _) => some true
  | some (.array _ _) => some true
  | some _ => some false
  | none => none
/-- A part of a struct, or an array. -/
def partE (P : Program) (t : TypeId) (l : List E) (off : Nat) : Option E := match isRowE P t with
  | some true => match sizeE P t with | some n => if off + n ≤ l.length then some (.agg ((l.drop off).take n)) else none | none => none
  | some false => l[off]?
  | none => none
/-- Cells are laid over others. -/
def overE (l : List E) (off : Nat) (cs : List E) : List E := l.take off ++ cs ++ l.drop (off + cs.length)
def fillE (place : Nat → Option (Nat × Nat)) (cells : List E) : List (Nat × E) → Option (List E)
  | [] => some cells
  | (i, e) :: rest => match place i, e.cells with
    | some (off, size), some cs => if cs.length = size ∧ off + cs.length ≤ cells.length then fillE place (overE cells off cs) rest else none
    | _, _ => none
def St.parts (σ : St) : List (Nat × Operand) → Option (List (Nat × E))
  | [] => some []
  | (i, x) :: l => match σ.opnd x, σ.parts l with | some e, some es => some ((i, e) :: es) | _, _ => none
def placesE (P : Program) (fs : List Field) : Option (List (Nat × Nat)) := match fs with
  | [] => some []
  | f :: r => match sizeE P f.type, placesE P r with | some n, some l => some ((f.offset, n) :: l) | _, _ => none
def buildE (P : Program) (t : TypeId) (parts : List (Nat × E)) : Option (List E) := match zeroE P t, P.underlying t with
  | some z, some (.struct fs) => match placesE P fs.toList with
    | some pl => fillE (fun i => pl[i]?) z parts
    | none => none
  | some z, some (.array _ el) => match sizeE P el with
    | some n => fillE (fun i => some (i * n, n)) z parts
    | none => none
  | _, _ => none
def goodFunc (P : Program) (f : FuncId) : Bool := match P.funcs[f]? with
  | some fn => fn.name != "runtime.NumGoroutine" && fn.body.isSome
  | none => false
def isArith : BinOp → Bool
  | .add | .sub | .mul | .and | .or | .xor | .andNot => true
  | _ => false
def isDiv : BinOp → Bool
  | .quo | .rem => true
  | _ => false
def isShift : BinOp → Bool
  | .shl | .shr => true
  | _ => false
def isCmp : BinOp → Bool
  | .eql | .neq | .lss | .leq | .gtr | .geq => true
  | _ => false
def isBoolT (P : Program) (t : TypeId) : Bool := match P.underlying t with | some .bool => true | _ => false
def binE (P : Program) (o : BinOp) (t : TypeId) : E → E → Option (E × List C)
  | .int k a, .int k' b =>
    if isShift o then some (.int k (T.bin' o k a b), [C.cmp' .geq b (.lit 0)])
    else if k ≠ k' then none
    else if isArith o then some (.int k (T.bin' o k a b), [])
    else if isDiv o then some (.int k (T.bin' o k a b), [C.cmp' .neq b (.lit 0)])
    else some (.bool (C.cmp' o a b), [])
  | .bool a, .bool b => if isBoolT P t then match o with
      | .eql => some (.bool (C.iff' a b), [])
      | .neq => some (.bool (C.iff' a b).not', [])
      | _ => none
    else none
  | _, _ => none
def minE (mn : Bool) : List E → Option E
  | [] => none
  | .int k a :: l => minE.go k a l
  | _ => none
where go (k : IntKind) (a : T) : List E → Option E
  | [] => some (.int k a)
  | .int _ b :: l => go k (if mn then T.mn' a b else T.mx' a b) l
  | _ => none

def opE (P : Program) (σ : St) (o : Oper) : Option (Do × List C) := match o.op with
  | .move x => match σ.opnd x with | some e => some (.val e, []) | none => none
  | .assign x => match σ.opnd x with | some e => some (.val e, []) | none => none
  | .pick c a b => match σ.opnd c, σ.opnd a, σ.opnd b with
    | some (.bool c), some x, some y => match c.simp σ.pc with
      | .lit true => some (.val x, [])
      | .lit false => some (.val y, [])
      | c' => match x, y with
        | .bool x, .bool y => some (.val (.bool (C.ite' c' x y)), [])
        | _, _ => none
    | _, _, _ => none
  | .alloc t => match zeroE P t with | some z => some (.new z t none, []) | none => none
  | .box t x => match σ.opnd x with
    | some e => match e.cells with | some l => some (.new l t none, []) | none => none
    | none => none
  | .build t parts => match σ.parts parts.toList with
    | some ps => match buildE P t ps with | some l => some (.val (.agg l), []) | none => none
    | none => none
  | .load t x => match σ.opnd x with
    | some (.ptr b o) => match σ.heap.get b with
      | some l => match partE P t l o with | some e => some (.val e, []) | none => none
      | none => none
    | _ => none
  | .store t x y => match σ.opnd x, σ.opnd y with
    | some (.ptr b o), some e => match σ.heap.get b, e.cells, sizeE P t with
      | some l, some cs, some n => if cs.length = n ∧ o + n ≤ l.length ∧ cs.all E.one then some (.store b o cs, []) else none
      | _, _, _ => none
    | _, _ => none
  | .nilCheck x => match σ.opnd x with
    | some (.ptr b o) => some (.val (.ptr b o), [])
    | some (.pla n k o) => some (.val (.pla n k o), [])
    | _ => none
  | .binOp bo t x y _ => match σ.opnd x, σ.opnd y with
    | some a, some b => match binE P bo t a b with | some (e, ns) => some (.val e, ns) | none => none
    | _, _ => none
  | .unOp uo _ x => match uo, σ.opnd x with
    | .not, some (.bool c) => some (.val (.bool c.not'), [])
    | .neg, some (.int k a) => some (.val (.int k (T.bin' .sub k (.lit 0) a)), [])
    | _, _ => none
  | .convert s d x => match P.underlying s, P.underlying d, σ.opnd x with
    | some _, some (.int k), some (.int _ a) => some (.val (.int k (T.wrap' k a)), [])
    | _, _, _ => none
  | .fieldAddr s x f => match σ.opnd x, P.underlying s with
    | some (.ptr b o), some (.struct fs) => match fs[f]? with
      | some fd => match sizeE P fd.type with
        | some n => if n = 0 then none else some (.val (.ptr b (o + fd.offset)), [])
        | none => none
      | none => none
    | some (.pla m k o), some (.struct fs) => match fs[f]? with
      | some fd => match sizeE P fd.type with
        | some n => if n = 0 then none else some (.val (.pla m k (o + fd.offset)), [])
        | none => none
      | none => none
    | _, _ => none
  | .field t x f => match σ.opnd x, P.underlying t with
    | some (.agg l), some (.struct fs) => match fs[f]? with
      | some fd => match partE P fd.type l fd.offset with | some e => some (.val e, []) | none => none
      | none => none
    | _, _ => none
  | .indexAddr t x i => match σ.opnd x, σ.opnd i, P.underlying t with
    | some (.ptr b o), some (.int _ (.lit n)), some (.array len el) => match sizeE P el with
      | some s => if 0 ≤ n ∧ n < len then some (.val (.ptr b (o + n.toNat * s)), []) else none
      | none => none
    | some (.pla m k o), some (.int _ (.lit n)), some (.array len el) => match sizeE P el with
      | some s => if 0 ≤ n ∧ n < len then some (.val (.pla m k (o + n.toNat * s)), []) else none
      | none => none
    | _, _, _ => none
  | .index t x i => match σ.opnd x, σ.opnd i, P.underlying t with
    | some (.agg l), some (.int _ (.lit n)), some (.array len el) => match sizeE P el with
      | some s => if 0 ≤ n ∧ n < len then (match partE P el l (n.toNat * s) with | some e => some (.val e, []) | none => none) else none
      | none => none
    | _, _, _ => none
  | .extract x i => match σ.opnd x with
    | some (.tup l) => match l[i]? with | some e => some (.val e, []) | none => none
    | _ => none
  | .makeInterface t x => match σ.opnd x, P.underlying t with
    | some _, some (.interface _) => none
    | some e, some _ => some (.val (.iface t e), [])
    | _, _ => none
  | .makeFunc fn first captured => if first.size = 0 then match σ.opnds captured.toList with
      | some l => some (.val (.func fn l), [])
      | none => none
    else none
  | .call c => match c.callee, σ.opnds c.args.toList with
    | .value f, some args => match σ.opnd f with
      | some (.func (.func f) l) => if goodFunc P f then some (.call f (args ++ l), []) else none
      | _ => none
    | .builtin .min, some args => match minE true args with | some e => some (.val e, []) | none => none
    | .builtin .max, some args => match minE false args with | some e => some (.val e, []) | none => none
    | _, _ => none
  | _ => none
/-- Every s-th cell, from o on. -/
def cols (l : List E) (s : Nat) : Nat → Nat → Option (List E)
  | 0, _ => some []
  | n + 1, o => match l[o]?, cols l s n (o + s) with | some e, some r => some (e :: r) | _, _ => none
def selI (k : IntKind) : List E → Option (List Int)
  | [] => some []
  | .int k' (.lit x) :: r => if k' = k then (match selI k r with | some xs => some (x :: xs) | none => none) else none
  | _ => none
/-- One of known numbers. -/
def selE (t : T) : List E → Option E
  | .int k a :: r => match selI k (.int k a :: r) with | some xs => some (.int k (.sel xs t)) | none => none
  | _ => none
def times : Nat → List E → List E
  | 0, _ => []
  | n + 1, z => z ++ times n z
/-- A bound of a slice, if it is known. -/
def boundE (σ : St) (d : Nat) : Option Operand → Option Nat
  | none => some d
  | some x => match σ.opnd x with | some (.int _ (.lit n)) => if 0 ≤ n then some n.toNat else none | _ => none
/-- The library's sum of two words. -/
def isAdd64 (P : Program) (g : FuncId) : Bool := match P.funcs[g]? with
  | some fn => fn.name == "math/bits.Add64" && fn.body.isNone && (Extern.allNextRows.lookup fn.origin).isNone
  | none => false
/-- Operations on slices of known length. -/
def isPtrT (P : Program) (t : TypeId) : Bool := match P.underlying t with | some (.pointer _) => true | _ => false
def opS (P : Program) (σ : St) (o : Oper) : Option (Do × List C) := match o.op with
  | .buildSlice t len parts => match σ.parts parts.toList, P.underlying t with
    | some ps, some (.slice el) => match zeroE P el, sizeE P el with
      | some z, some n => if 0 < len ∧ 0 < n ∧ z.length = n ∧ len * n ≤ 65536 then
          match fillE (fun i => some (i * n, n)) (times len z) ps with | some l => some (.new l el (some len), []) | none => none
        else none
      | _, _ => none
    | _, _ => none
  | .makeSlice t x y => match σ.opnd x, σ.opnd y, P.underlying t with
    | some (.int _ (.lit n)), some (.int _ (.lit m)), some (.slice el) => match P.info? el with
      | some i => match i.zero with
        | some v => if n = m ∧ 0 < n ∧ 0 < v.cells.size ∧ v.cells.size = i.size ∧ n.toNat * i.size ≤ 65536 ∧ i.bytes * n.toNat ≤ 65536 then some (.new (times n.toNat (v.cells.toList.map constC)) el (some n.toNat), []) else none
        | none => none
      | none => none
    | _, _, _ => none
  | .indexAddr t x i => match σ.opnd x, σ.opnd i, P.underlying t with
    | some (.slice b o n _), some (.int _ t'), some (.slice el) => match sizeE P el with
      | some s => match t' with
        | .lit j => if 0 ≤ j ∧ j < n then some (.val (.ptr b (o + j.toNat * s)), []) else none
        | t' => if 0 < n then some (.val (.at b o s n t'), [C.cmp' .geq t' (.lit 0), C.cmp' .lss t' (.lit n)]) else none
      | none => none
    | _, _, _ => none
  | .load t x => match σ.opnd x with
    | some (.at b o s n t') => match σ.heap.get b, isRowE P t with
      | some l, some false => match cols l s n o with
        | some c => match selE t' c with | some e => some (.val e, []) | none => none
        | none => none
      | _, _ => none
    | _ => none
  | .slice t x lo hi none => match σ.opnd x, P.underlying t, boundE σ 0 lo with
    | some (.slice b o n c), some (.slice el), some l => match boundE σ n hi, sizeE P el with
      | some h, some s => if l ≤ h ∧ h ≤ c ∧ l < c then some (.val (.slice b (o + l * s) (h - l) (c - l)), []) else none
      | _, _ => none
    | some (.ptr b o), some (.array n el), some l => match boundE σ n hi, sizeE P el with
      | some h, some s => if l ≤ h ∧ h ≤ n ∧ l < n then some (.val (.slice b (o + l * s) (h - l) (n - l)), []) else none
      | _, _ => none
    | _, _, _ => none
  | .call c => match c.callee with
    | .builtin .len => match σ.opnds c.args.toList, c.argTypes[0]? with
      | some [.slice _ _ n _], some t => match P.underlying t with
        | some (.slice _) => some (.val (.int .i64 (.lit n)), [])
        | _ => none
      | _, _ => none
    | .value f => match σ.opnds c.args.toList, σ.opnd f with
      | some [.int _ x, .int _ y, .int _ (.lit 0)], some (.func (.func g) []) => if isAdd64 P g then some (.val (.tup [.int .u64 (.add2 false x y), .int .u64 (.add2 true x y)]), []) else none
      | _, _ => none
    | _ => none
  | .binOp bo t x y _ => match σ.opnd x, σ.opnd y with
    | some (.pla _ _ _), some (.lit (.pointer none)) => if isPtrT P t then (match bo with | .eql => some (.val (.bool (.lit false)), []) | .neq => some (.val (.bool (.lit true)), []) | _ => none) else none
    | _, _ => none
  | _ => none
def opX (P : Program) (σ : St) (o : Oper) : Option (Do × List C) := match opE P σ o with
  | some r => some r
  | none => match opS P σ o with
  | some r => some r
  | none => match opLit P σ o with
    | some v => some (.val (constE v), [])
    | none => none
end Sx
end Go.Proofs.Ytcedgoaanlbldaa
