/-
  What is proved: plain laws on contracts of calls, and on one step of a symbolic run; no program in sight. No condition.
-/
import Derived.Test.YtcedgoaanlbldaaSyE
namespace Go.Proofs.Ytcedgoaanlbldaa
namespace Sx
open Go.RowKit

/-- No name of an object, nor a row of values. -/
def plainV : Value → Bool
  | .pointer (some ⟨_, _, some _⟩) => false
  | .agg _ => false
  | .tuple l => l.size == 0
  | _ => true
theorem concC_plain {h : Nat → OneV} {v : Value} (hv : plainV v = true) : concC h v = v := by
  unfold concC
  split <;> first | rfl | (simp [plainV] at hv)
theorem concA_plain {h : Nat → OneV} {v : Value} (hv : plainV v = true) : concA h v = v := by
  unfold concA
  split
  · simp [plainV] at hv
  · exact concC_plain hv
theorem concE_plain {h : Nat → OneV} {v : Value} (hv : plainV v = true) : concE h v = v := by
  unfold concE
  split
  · simp [plainV] at hv; subst hv; simp
  · exact concA_plain hv
mutual
/-- It hangs on no place, and on no object. -/
def E.noH : E → Bool
  | .int _ _ => true
  | .bool _ => true
  | .lit _ => true
  | .agg l => E.noHs l
  | .tup l => E.noHs l
  | .func _ l => E.noHs l
  | .iface _ e => e.noH
  | _ => false
def E.noHs : List E → Bool
  | [] => true
  | e :: l => e.noH && E.noHs l
end
mutual
theorem E.nam_noH (ρ : Env) (ι : Lay) (q : Lay0) : ∀ e : E, e.noH = true → e.val ρ ι = e.nam ρ q
  | .int _ _, _ => rfl
  | .bool _, _ => rfl
  | .lit _, _ => rfl
  | .var _, h => by simp [E.noH] at h
  | .hnd _, h => by simp [E.noH] at h
  | .pla _ _ _, h => by simp [E.noH] at h
  | .ptr _ _, h => by simp [E.noH] at h
  | .slice _ _ _ _, h => by simp [E.noH] at h
  | .at _ _ _ _ _, h => by simp [E.noH] at h
  | .agg l, h => by simp only [E.noH] at h; simp only [E.val, E.nam, E.nams_noH ρ ι q l h]
  | .tup l, h => by simp only [E.noH] at h; simp only [E.val, E.nam, E.nams_noH ρ ι q l h]
  | .func _ l, h => by simp only [E.noH] at h; simp only [E.val, E.nam, E.nams_noH ρ ι q l h]
  | .iface _ e, h => by simp only [E.noH] at h; simp only [E.val, E.nam, E.nam_noH ρ ι q e h]
theorem E.nams_noH (ρ : Env) (ι : Lay) (q : Lay0) : ∀ l : List E, E.noHs l = true → E.vals ρ ι l = E.nams ρ q l
  | [], _ => rfl
  | e :: l, h => by simp only [E.noHs, Bool.and_eq_true] at h; simp only [E.vals, E.nams, E.nam_noH ρ ι q e h.1, E.nams_noH ρ ι q l h.2]
end
theorem E.val_noH (ρ : Env) (ι ι' : Lay) (e : E) (h : e.noH = true) : e.val ρ ι = e.val ρ ι' := (E.nam_noH ρ ι (fun _ => (0, 0)) e h).trans (E.nam_noH ρ ι' _ e h).symm
theorem E.vals_noH (ρ : Env) (ι ι' : Lay) (l : List E) (h : E.noHs l = true) : E.vals ρ ι l = E.vals ρ ι' l := (E.nams_noH ρ ι (fun _ => (0, 0)) l h).trans (E.nams_noH ρ ι' _ l h).symm
/-- One cell, in names of objects. -/
def E.cellOk : E → Bool
  | .int _ _ => true
  | .bool _ => true
  | .lit v => plainV v
  | .hnd _ => true
  | .pla _ _ _ => true
  | .func _ l => E.noHs l
  | .iface _ e => e.noH
  | _ => false
def E.argOk : E → Bool
  | .agg l => l.all E.cellOk
  | .var _ => true
  | e => e.cellOk
/-- Without a place, but for names of objects. -/
def E.noPtr : E → Bool
  | .tup l => l.all E.argOk
  | e => e.argOk
def E.noPtrs : List E → Bool
  | [] => true
  | e :: l => e.noPtr && E.noPtrs l
/-- No layout. -/
def lay0 : Lay0 := fun _ => (0, 0)
theorem E.cell_conc (ρ : Env) (ι : Lay) (q : Lay0) {e : E} (h : e.cellOk = true) : e.val ρ ι = concC ι.h (e.nam ρ q) := by
  cases e <;> simp only [E.cellOk] at h <;> first | (cases h; done) | skip
  · rfl
  · rfl
  · exact (concC_plain h).symm
  · rfl
  · exact (concC_at _ _ _).symm
  · simp only [E.val, E.nam]
    rw [E.nams_noH ρ ι q _ h]
    rfl
  · simp only [E.val, E.nam]
    rw [E.nam_noH ρ ι q _ h]
    rfl
theorem E.cell_concA (ρ : Env) (ι : Lay) (q : Lay0) {e : E} (h : e.cellOk = true) : e.val ρ ι = concA ι.h (e.nam ρ q) := by
  rw [E.cell_conc ρ ι q h]
  unfold concA
  split
  · rename_i cs heq
    exfalso
    cases e <;> simp only [E.cellOk] at h <;> first | (cases h; done) | (simp only [E.nam] at heq; first | (cases heq; done) | skip)
    · subst heq; simp [plainV] at h
    · have := oneOf_one (ρ.v ‹_›); rw [heq] at this; cases this
  · rfl
theorem E.cells_conc (ρ : Env) (ι : Lay) (q : Lay0) : ∀ {l : List E}, l.all E.cellOk = true → E.vals ρ ι l = (E.nams ρ q l).map (concC ι.h)
  | [], _ => rfl
  | e :: l, h => by
    simp only [List.all_cons, Bool.and_eq_true] at h
    simp only [E.vals, E.nams, List.map_cons]
    rw [E.cell_conc ρ ι q h.1, E.cells_conc ρ ι q h.2]
theorem E.arg_conc (ρ : Env) (ι : Lay) (q : Lay0) {e : E} (h : e.argOk = true) : e.val ρ ι = concA ι.h (e.nam ρ q) := by
  unfold E.argOk at h
  split at h
  · simp only [E.val, E.nam, concA, E.cells_conc ρ ι q h, List.map_toArray]
  · rfl
  · exact E.cell_concA ρ ι q h
theorem E.args_conc (ρ : Env) (ι : Lay) (q : Lay0) : ∀ {l : List E}, l.all E.argOk = true → E.vals ρ ι l = (E.nams ρ q l).map (concA ι.h)
  | [], _ => rfl
  | e :: l, h => by
    simp only [List.all_cons, Bool.and_eq_true] at h
    simp only [E.vals, E.nams, List.map_cons]
    rw [E.arg_conc ρ ι q h.1, E.args_conc ρ ι q h.2]
theorem E.cell_tuple {ρ : Env} {q : Lay0} {e : E} (h : e.cellOk = true) {cs : Array Value} (heq : e.nam ρ q = .tuple cs) : cs = #[] := by
  cases e <;> simp only [E.cellOk] at h <;> first | (cases h; done) | (simp only [E.nam] at heq; first | (cases heq; done) | skip)
  · subst heq; simpa [plainV] using h
  · have := oneOf_one (ρ.v ‹_›); rw [heq] at this; cases this
/-- What a value is, out of what it is in names. -/
theorem E.val_conc (ρ : Env) (ι : Lay) (q : Lay0) {e : E} (h : e.noPtr = true) : e.val ρ ι = concE ι.h (e.nam ρ q) := by
  unfold E.noPtr at h
  split at h
  · simp only [E.val, E.nam, concE, E.args_conc ρ ι q h, List.map_toArray]
  · rw [E.arg_conc ρ ι q h]
    unfold concE
    split
    · rename_i hne cs heq
      obtain rfl : cs = #[] := by
        unfold E.argOk at h
        split at h
        · simp only [E.nam] at heq; cases heq
        · simp only [E.nam] at heq
          unfold noTup at heq
          split at heq
          · cases heq
          · rename_i hn; exact absurd heq (hn _)
        · exact E.cell_tuple h heq
      rw [heq]
      simp [concA, concC]
    · rfl
theorem E.vals_conc (ρ : Env) (ι : Lay) (q : Lay0) : ∀ {l : List E}, E.noPtrs l = true → E.vals ρ ι l = (E.nams ρ q l).map (concE ι.h)
  | [], _ => rfl
  | e :: l, h => by
    simp only [E.noPtrs, Bool.and_eq_true] at h
    simp only [E.vals, E.nams, List.map_cons]
    rw [E.val_conc ρ ι q h.1, E.vals_conc ρ ι q h.2]
/-- In names, the places do not matter. -/
theorem E.cell_nam (ρ : Env) (q q' : Lay0) {e : E} (h : e.cellOk = true) : e.nam ρ q = e.nam ρ q' := by
  cases e <;> simp only [E.cellOk] at h <;> first | (cases h; done) | rfl | skip
  · simp only [E.nam]; rw [← E.nams_noH ρ ⟨fun _ => (0, 0), fun _ => OneV.undef⟩ q _ h, ← E.nams_noH ρ ⟨fun _ => (0, 0), fun _ => OneV.undef⟩ q' _ h]
  · simp only [E.nam]; rw [← E.nam_noH ρ ⟨fun _ => (0, 0), fun _ => OneV.undef⟩ q _ h, ← E.nam_noH ρ ⟨fun _ => (0, 0), fun _ => OneV.undef⟩ q' _ h]
theorem E.cells_nam (ρ : Env) (q q' : Lay0) : ∀ {l : List E}, l.all E.cellOk = true → E.nams ρ q l = E.nams ρ q' l
  | [], _ => rfl
  | e :: l, h => by
    simp only [List.all_cons, Bool.and_eq_true] at h
    simp only [E.nams]
    rw [E.cell_nam ρ q q' h.1, E.cells_nam ρ q q' h.2]
theorem E.arg_nam (ρ : Env) (q q' : Lay0) {e : E} (h : e.argOk = true) : e.nam ρ q = e.nam ρ q' := by
  unfold E.argOk at h
  split at h
  · simp only [E.nam, E.cells_nam ρ q q' h]
  · rfl
  · exact E.cell_nam ρ q q' h
theorem E.args_nam (ρ : Env) (q q' : Lay0) : ∀ {l : List E}, l.all E.argOk = true → E.nams ρ q l = E.nams ρ q' l
  | [], _ => rfl
  | e :: l, h => by
    simp only [List.all_cons, Bool.and_eq_true] at h
    simp only [E.nams]
    rw [E.arg_nam ρ q q' h.1, E.args_nam ρ q q' h.2]
theorem E.val_nam (ρ : Env) (q q' : Lay0) {e : E} (h : e.noPtr = true) : e.nam ρ q = e.nam ρ q' := by
  unfold E.noPtr at h
  split at h
  · simp only [E.nam, E.args_nam ρ q q' h]
  · exact E.arg_nam ρ q q' h
theorem E.vals_nam (ρ : Env) (q q' : Lay0) : ∀ {l : List E}, E.noPtrs l = true → E.nams ρ q l = E.nams ρ q' l
  | [], _ => rfl
  | e :: l, h => by
    simp only [E.noPtrs, Bool.and_eq_true] at h
    simp only [E.nams]
    rw [E.val_nam ρ q q' h.1, E.vals_nam ρ q q' h.2]
/-- The same objects, the same value. -/
theorem E.val_noPtr (ρ : Env) {ι ι' : Lay} (hh : ι'.h = ι.h) {e : E} (h : e.noPtr = true) : e.val ρ ι' = e.val ρ ι := by
  rw [E.val_conc ρ ι ι.p h, E.val_conc ρ ι' ι.p h, hh]
/-- A parameter that is a place: its number, how many cells lie there, and what is written there, if anything is. -/
abbrev Ptr := Nat × Nat × Option (Nat → List E)
/-- A function's contract, as the symbolic run sees it. -/
structure Con where
  fn : FuncId
  ptrs : List Ptr
  res : Nat → E
  gh : Nat := 0
  rd : Nat := 0
  wr : Nat := 0
/-- What it says: of these values the variables, from 0 on, may be those. -/
abbrev ConS := List Value → Env → Prop
def stride : Nat := 1000
/-- The store's variable among an answer's. -/
def gv : Nat := 999
/-- Numbers from here on are those of operations on objects. -/
def primBase : Nat := 1000000
/-- From base on the variables are those of s. -/
def Env.At (ρ : Env) (base : Nat) (s : Env) : Prop := ∀ j, j < stride → ρ.i (base + j) = s.i j ∧ ρ.b (base + j) = s.b j ∧ ρ.v (base + j) = s.v j
def Env.from_ (ρ : Env) (base : Nat) (s : Env) : Env := ⟨fun i => if i < base then ρ.i i else s.i (i - base), fun i => if i < base then ρ.b i else s.b (i - base), fun i => if i < base then ρ.v i else s.v (i - base)⟩
theorem Env.from_ag (ρ : Env) (base : Nat) (s : Env) : ρ.ag base (ρ.from_ base s) := fun i hi => by simp [Env.from_, hi]
theorem Env.from_at (ρ : Env) (base : Nat) (s : Env) : (ρ.from_ base s).At base s := fun j _ => by
  have h : ¬ base + j < base := by omega
  simp only [Env.from_, h, if_false, Nat.add_sub_cancel_left, and_self]
theorem Env.At.ag {ρ ρ' : Env} {base n : Nat} {s : Env} (h : ρ.At base s) (ha : ρ.ag n ρ') (hn : base + stride ≤ n) : ρ'.At base s := fun j hj =>
  have a := ha (base + j) (by omega); have b := h j hj; ⟨a.1.trans b.1, a.2.1.trans b.2.1, a.2.2.trans b.2.2⟩

/-- Where an argument leads: a pointer's place, or a slice's. -/
def E.pl : E → Option (Nat × Nat)
  | .ptr b o => some (b, o)
  | .slice b o _ _ => some (b, o)
  | _ => none
/-- How a place comes as an argument: a pointer, or a slice of some room. -/
def placeA (sl : Option Nat) (q : Nat × Nat) (n : Nat) : Value := match sl with | none => .pointer (some ⟨q.1, q.2, none⟩) | some c => .slice (some ⟨q.1, q.2, none⟩) n c
/-- What is said of what lies there: of a pointer's struct, or array, as one; of a slice as a tuple. -/
def placeV (sl : Option Nat) (cs : List Value) : Value := match sl with | none => .agg cs.toArray | some _ => .tuple cs.toArray
/-- Where parameters that are places lie; vs, in names: what they hold stands in their stead. -/
def Points (w : World) (h : Nat → OneV) (args : List Value) : List Ptr → List Value → List (Nat × Nat) → Prop
  | [], vs, qs => args = vs.map (concE h) ∧ qs = []
  | _ :: _, _, [] => False
  | (pos, n, _) :: r, vs, q :: qs => ∃ (sl : Option Nat) (cs vs' : List Value), Points w h args r vs' qs ∧ vs = vs'.set pos (placeV sl cs) ∧ (cs.length = n ∧ ∀ c, sl = some c → n ≤ c) ∧ args[pos]? = some (placeA sl q n) ∧
      ∀ (j : Nat) (c : Value), cs[j]? = some c → w.cell? ⟨q.1, q.2 + j, none⟩ = some (concC h c) ∧ w.frozen? ⟨q.1, q.2 + j, none⟩ = false
/-- Those that are written lie apart from the others. -/
def ApartQ : List Ptr → List (Nat × Nat) → Prop
  | [], _ => True
  | _ :: _, [] => True
  | p :: r, q :: qs => (∀ p' q', (p', q') ∈ r.zip qs → (p.2.2.isSome ∨ p'.2.2.isSome) → q.1 = q'.1 → ∀ j j', j < p.2.1 → j' < p'.2.1 → q.2 + j ≠ q'.2 + j') ∧ ApartQ r qs
/-- What may be written. -/
def OutS (ptrs : List Ptr) (qs : List (Nat × Nat)) (i x : Nat) : Prop := ∃ p q, (p, q) ∈ ptrs.zip qs ∧ p.2.2.isSome ∧ i = q.1 ∧ q.2 ≤ x ∧ x < q.2 + p.2.1
/-- What lies there behind the call. -/
def Outs (w : World) (A : Lay → Prop) (ρ : Env) (base : Nat) (ptrs : List Ptr) (qs : List (Nat × Nat)) : Prop := ∀ p q f, (p, q) ∈ ptrs.zip qs → p.2.2 = some f → ∀ (ι : Lay), A ι → ∀ (j : Nat) (c : E), (f base)[j]? = some c → w.cell? ⟨q.1, q.2 + j, none⟩ = some (c.val ρ ι)
/-- The objects lie apart from the places. -/
def FootQ (F : Foot) (ptrs : List Ptr) (qs : List (Nat × Nat)) : Prop := ∀ p q, (p, q) ∈ ptrs.zip qs → ∀ j, j < p.2.1 → ¬ F q.1 (q.2 + j)
/-- What becomes of the store. -/
def GPost [Kinds] (two : Bool) (S : Foot) (w w' : World) (h h' : Nat → OneV) (F F' : Foot) (g g' : Value) : Prop :=
  if two then Fr (fun i x => S i x ∨ F i x) w w' ∧ Kinds.holds w' h' F' g' ∧ (∀ i x, F' i x → F i x ∨ w.heap.size ≤ i) ∧ Kinds.cnt g ≤ Kinds.cnt g' ∧ ∀ n, n < Kinds.cnt g → h' n = h n
  else Fr S w w' ∧ h' = h
/-- The layout knows the objects that are there behind the call. -/
def AgH [Kinds] (gh : Nat) (g g' : Value) (h : Nat → OneV) (ι : Lay) : Prop := ∀ n, n < (if gh = 0 then 0 else if gh = 2 then Kinds.cnt g' else Kinds.cnt g) → ι.h n = h n
/-- What the contract is asked with: the store behind the values. -/
def withV (c : Con) (vs : List Value) (g : Value) : List Value := if c.gh = 0 then vs else vs ++ [g]
def binNo : BinOp → Option Nat
  | .eql => some 0
  | .neq => some 1
  | .add => some 2
  | .sub => some 3
  | .mul => some 4
  | .quo => some 5
  | .lss => some 6
  | .leq => some 7
  | .gtr => some 8
  | .geq => some 9
  | _ => none
/-- An operation's number. -/
def primKey : Op → Option Nat
  | .load t _ => some (primBase + 32 * t)
  | .store t _ _ => some (primBase + (32 * t + 1))
  | .indexAddr t _ _ => some (primBase + (32 * t + 3))
  | .slice t _ lo hi none => some (primBase + (32 * (4 * t + (if lo.isSome then 1 else 0) + (if hi.isSome then 2 else 0)) + 4))
  | .makeSlice t _ _ => some (primBase + (32 * t + 5))
  | .lookup t _ _ c => some (primBase + (32 * (2 * t + (if c then 1 else 0)) + 6))
  | .mapUpdate t _ _ _ => some (primBase + (32 * t + 7))
  | .makeMap t none => some (primBase + (32 * t + 8))
  | .nilCheck _ => some (primBase + 9)
  | .alloc t => some (primBase + (32 * t + 10))
  | .box t _ => some (primBase + (32 * t + 11))
  | .binOp o t _ _ _ => match binNo o with | some k => some (primBase + (32 * (32 * t + k) + 12)) | none => none
  | .convert s d _ => if d < 10000 then some (primBase + (32 * (s * 10000 + d) + 14)) else none
  | .buildSlice t n parts => if n < 10000 && parts.toList.map (·.1) == List.range n then some (primBase + (32 * (t * 10000 + n) + 15)) else none
  | .call c => match c.callee, c.argTypes[0]? with
    | .builtin .len, some t => some (primBase + (32 * t + 16))
    | .builtin .cap, some t => some (primBase + (32 * t + 17))
    | .builtin .append, some t => if c.argTypes = #[t, t] then some (primBase + (32 * t + 18)) else match c.argTypes[1]? with | some t2 => if c.argTypes = #[t, t2] ∧ t2 < 10000 then some (primBase + (32 * (t * 10000 + t2) + 22)) else none | none => none
    | .builtin .copy, some t => if c.argTypes = #[t, t] then some (primBase + (32 * t + 19)) else none
    | .builtin .delete, some t => some (primBase + (32 * t + 20))
    | .builtin .clear, some t => some (primBase + (32 * t + 21))
    | _, _ => none
  | _ => none
/-- A function's contract holds. -/
def Con.holdsC [Kinds] (P : Program) (c : Con) (s : ConS) : Prop := ∀ (w : World) (args vs : List Value) (qs : List (Nat × Nat)) (e0 : Env) (h : Nat → OneV) (F : Foot) (g : Value), (∀ h' : Nat → OneV, (h' = h ∨ (c.gh ≠ 0 ∧ ∀ n, n < Kinds.cnt g → h' n = h n)) → Points w h' args c.ptrs vs qs) → ApartQ c.ptrs qs →
  (c.gh ≠ 0 → Kinds.holds w h F g ∧ FootQ F c.ptrs qs) → s (withV c vs g) e0 →
  Calls P c.fn args.toArray w fun e w' => ∃ h' F', GPost (c.gh == 2) (OutS c.ptrs qs) w w' h h' F F' g (e0.g gv) ∧ ∀ (ρ : Env) (base : Nat), ρ.At base e0 → (∀ ι : Lay, AgH c.gh g (e0.g gv) h' ι → e = .returned ((c.res base).val ρ ι)) ∧ Outs w' (AgH c.gh g (e0.g gv) h') ρ base c.ptrs qs
/-- An operation's contract holds. -/
def Con.holdsP [Kinds] (P : Program) (c : Con) (s : ConS) : Prop := ∀ (o : Oper), primKey o.op = some c.fn → ∀ (a : Act) (w : World) (vs : List Value) (e0 : Env) (h : Nat → OneV) (F : Foot) (g : Value), (∀ h' : Nat → OneV, (∀ n, n < Kinds.cnt g → h' n = h n) → o.op.operands.toList.map a.eval = vs.map (concE h')) →
  Kinds.holds w h F g → s (vs ++ [g]) e0 → ∃ x w', (execOp a.eval o).run P w = .ok x w' ∧ ∃ h' F', GPost (c.gh == 2) (fun _ _ => False) w w' h h' F F' g (e0.g gv) ∧
    ∀ (ρ : Env) (base : Nat), ρ.At base e0 → ∀ ι : Lay, AgH c.gh g (e0.g gv) h' ι → x = .value ((c.res base).val ρ ι) ∨ (x = .skip ∧ c.res base = .lit undef)
/-- The contract holds. -/
def Con.runs [Kinds] (P : Program) (c : Con) (s : ConS) : Prop := (c.fn < primBase → c.holdsC P s) ∧ (primBase ≤ c.fn → c.holdsP P s)
/-- Values that lead to no object but the store's. -/
def NoDang [Kinds] (g : Value) (vs : List Value) : Prop := ∃ h : Nat → OneV, ∀ h' : Nat → OneV, (∀ n, n < Kinds.cnt g → h' n = h n) → vs.map (concE h') = vs.map (concE h)
/-- What it asks stays, as the store grows so; how it lets the store grow. -/
def Con.flags [Kinds] (c : Con) (s : ConS) : Prop :=
  (c.rd ≠ 0 → c.gh = 1 ∧ ∀ vs g g' e, Kinds.ext c.rd g g' → NoDang g vs → (s (vs ++ [g]) e ↔ s (vs ++ [g']) e)) ∧
  (c.wr ≠ 0 → ∀ vs g e, s (vs ++ [g]) e → Kinds.ext c.wr g (e.g gv))
def Con.holds [Kinds] (P : Program) (c : Con) (s : ConS) : Prop := c.runs P s ∧ c.flags s

def ptrsE (σ : St) (args : List E) (base : Nat) : List Ptr → Option (List E × List (Nat × List E))
  | [] => if args.all (fun e => e.noPtr || e.pl.isSome) then some (args, []) else none
  | (pos, n, out) :: r => match args[pos]?, ptrsE σ args base r with
    | some (.ptr b o), some (vs, hs) => match σ.heap.get b with
      | some l => if o + n ≤ l.length ∧ ((l.drop o).take n).all E.cellOk then match out with
          | none => if hs.all (fun p => p.1 != b) then some (vs.set pos (.agg ((l.drop o).take n)), hs) else none
          | some f => if (f base).length = n ∧ (hs.all fun p => p.1 != b) ∧ (r.all fun p => match (args[p.1]?).bind E.pl with | some (b', _) => b' != b | _ => false) ∧ b < 1099511627776 then some (vs.set pos (.agg ((l.drop o).take n)), (b, overE l o (f base)) :: hs) else none
        else none
      | none => none
    | some (.slice b o m c), some (vs, hs) => match σ.heap.get b with
      | some l => if o + n ≤ l.length ∧ ((l.drop o).take n).all E.cellOk ∧ m = n ∧ n ≤ c ∧ out.isNone ∧ (hs.all fun p => p.1 != b) then some (vs.set pos (.tup ((l.drop o).take n)), hs) else none
      | none => none
    | _, _ => none

def findCon : List Con → Nat → FuncId → Option (Nat × Con)
  | [], _, _ => none
  | c :: r, i, f => if c.fn = f then some (i, c) else findCon r (i + 1) f
theorem findCon_spec : ∀ {cs : List Con} {i : Nat} {f : FuncId} {ci : Nat} {c : Con}, findCon cs i f = some (ci, c) → i ≤ ci ∧ cs[ci - i]? = some c ∧ c.fn = f
  | [], _, _, _, _, h => by cases h
  | d :: r, i, f, ci, c, h => by
    unfold findCon at h
    split at h
    · cases h; exact ⟨Nat.le_refl _, by simp, by assumption⟩
    · obtain ⟨h1, h2, h3⟩ := findCon_spec h
      refine ⟨by omega, ?_, h3⟩
      rw [show ci - i = (ci - (i + 1)) + 1 by omega, List.getElem?_cons_succ]
      exact h2

structure Eff where
  ns : List C
  call : Option (Nat × Nat × List E)
  res : E
  heap : List (Nat × List E)
  wr : List Nat
  gh : Option Nat := none

def setAll : Tr (List E) → List (Nat × List E) → Tr (List E)
  | h, [] => h
  | h, (k, l) :: r => setAll (h.set k l) r
def setWr : Tr Unit → List Nat → Tr Unit
  | t, [] => t
  | t, k :: r => setWr (t.set k ()) r
def okKey (k : Nat) : Bool := decide (k < 1099511627776)
def ghOf (c : Con) (base : Nat) : Option Nat := if c.gh = 2 then some (base + gv) else none
def withE (c : Con) (σ : St) (vs : List E) : List E := if c.gh = 0 then vs else vs ++ [.var σ.gh]
/-- A place: those are told without a contract. -/
def natP (σ : St) (op : Op) : Bool := match op with
  | .nilCheck x => match σ.opnd x with | some (.pla _ _ _) => true | _ => false
  | .binOp _ _ x y _ => match σ.opnd x, σ.opnd y with | some (.pla _ _ _), some (.lit (.pointer none)) => true | _, _ => false
  | _ => false
/-- An operation on objects. -/
def primE (cs : List Con) (nv : Nat) (σ : St) (i : Nat) (o : Oper) : Option Eff := match primKey o.op with
  | none => none
  | some key => match findCon cs 0 key, σ.opnds o.op.operands.toList with
    | some (ci, c), some vs => if c.ptrs.isEmpty && E.noPtrs vs && E.lts (nv + i * stride) vs && !natP σ o.op && decide (nv + i * stride + stride ≤ σ.nv) && decide (c.gh ≠ 0) then
        some ⟨[], some (ci, nv + i * stride, vs ++ [.var σ.gh]), c.res (nv + i * stride), [], [], ghOf c (nv + i * stride)⟩ else none
    | _, _ => none
def effX (P : Program) (cs : List Con) (nk nv : Nat) (σ : St) (i : Nat) (o : Oper) : Option Eff := match opX P σ o with
  | none => none
  | some (d, ns) => if (ns.all (C.lt (nv + i * stride))) && decide (nv + i * stride + stride ≤ σ.nv) then match d with
    | .val e => some ⟨ns, none, e, [], [], none⟩
    | .new l _ sl => if (σ.heap.get (nk + i)).isNone && okKey (nk + i) && decide (σ.np ≤ nk + i) then some ⟨ns, none, newE sl (nk + i), [(nk + i, l)], [], none⟩ else none
    | .store b o' c => match σ.heap.get b with
      | some l => if okKey b then some ⟨ns, none, .lit undef, [(b, overE l o' c)], [b], none⟩ else none
      | none => none
    | .call f args => match findCon cs 0 f with
      | some (ci, c) => match ptrsE σ args (nv + i * stride) c.ptrs with
        | some (vs, hs) => if E.lts (nv + i * stride) vs && E.noPtrs vs && decide (f < primBase) then some ⟨ns, some (ci, nv + i * stride, withE c σ vs), c.res (nv + i * stride), hs, hs.map (·.1), ghOf c (nv + i * stride)⟩ else none
        | none => none
      | none => none
    else none
def effE (P : Program) (cs : List Con) (nk nv : Nat) (σ : St) (i : Nat) (o : Oper) : Option Eff := match primE cs nv σ i o with
  | some f => some f
  | none => effX P cs nk nv σ i o
def St.app (σ : St) (dst : Option Tmp) (f : Eff) : Option St := match dst with
  | some d => if d < σ.n ∧ σ.n ≤ 1099511627776 then some { σ with tmps := σ.tmps.set d f.res, heap := setAll σ.heap f.heap, wr := setWr σ.wr f.wr, gh := f.gh.getD σ.gh } else none
  | none => some { σ with heap := setAll σ.heap f.heap, wr := setWr σ.wr f.wr, gh := f.gh.getD σ.gh }
def guardE (ops : Array Oper) (σ : St) (o : Oper) : Option C := match o.guard with
  | none => some (.lit true)
  | some (j, want) => match (ops[j]?).bind (·.dst) with
    | none => some (.lit false)
    | some d => match σ.tmps.get d with
      | some (.bool c) => some (if want then c else c.not')
      | some (.lit (.tuple _)) => some (.lit false)
      | _ => none
def skipEff : Eff := ⟨[], none, .lit undef, [], [], none⟩
inductive Step where
  | fail
  | split (c : C)
  | ok (ns : List C) (call : Option (Nat × Nat × List E)) (σ : St)
  | enter (ns : List C) (f : FuncId) (args : List E) (dst : Option Tmp)
/-- An index that is not known yet: is it that one? -/
def askIx (pc : Known) (t : T) : Nat → Nat → Option C
  | 0, _ => none
  | f + 1, j => if Known.other t j pc then askIx pc t f (j + 1) else some (.cmp .eql t (.lit j))
def askE (P : Program) (σ : St) (o : Oper) : Option C := match o.op with
  | .indexAddr t _ i => match σ.opnd i, P.underlying t with
    | some (.int _ (.lit _)), _ => none
    | some (.int _ x), some (.array len _) => if len ≤ 16 then askIx σ.pc x len 0 else none
    | _, _ => none
  | .index t _ i => match σ.opnd i, P.underlying t with
    | some (.int _ (.lit _)), _ => none
    | some (.int _ x), some (.array len _) => if len ≤ 16 then askIx σ.pc x len 0 else none
    | _, _ => none
  | _ => none
def stepE (P : Program) (cs : List Con) (ops : Array Oper) (nk nv : Nat) (i : Nat) (σ : St) : Step := match ops[i]? with
  | none => .ok [] none σ
  | some o => match guardE ops σ o with
    | none => .fail
    | some c => match c.simp σ.pc with
      | .lit true => match effE P cs nk nv σ i o with
        | some f => match σ.app o.dst f with | some σ' => .ok f.ns f.call σ' | none => .fail
        | none => match opX P σ o with
          | some (.call f args, ns) => if (findCon cs 0 f).isNone && ns.all (C.lt (nv + i * stride)) && decide (nv + i * stride + stride ≤ σ.nv) then .enter ns f args o.dst else .fail
          | none => match askE P σ o with | some c => .split c | none => .fail
          | _ => .fail
      | .lit false => match σ.app o.dst skipEff with | some σ' => .ok [] none σ' | none => .fail
      | c' => .split c'

/-- What a call says of the variables. -/
def callOk (S : List ConS) (ρ : Env) : Option (Nat × Nat × List E) → Prop
  | none => True
  | some (ci, base, vs) => ∃ s e, S[ci]? = some s ∧ s (E.nams ρ lay0 vs) e ∧ ρ.At base e
/-- The contracts all hold. -/
def Cons [Kinds] (P : Program) : List Con → List ConS → Prop
  | [], _ => True
  | _ :: _, [] => False
  | c :: cs, s :: S => c.holds P s ∧ Cons P cs S
theorem Cons.at_ [Kinds] {P : Program} : ∀ {cs : List Con} {S : List ConS} {i : Nat} {c : Con} {s : ConS}, Cons P cs S → cs[i]? = some c → S[i]? = some s → c.holds P s
  | [], _, i, c, s, _, h, _ => by simp at h
  | d :: cs, [], i, c, s, h, _, _ => h.elim
  | d :: cs, t :: S, 0, c, s, h, h1, h2 => by simp at h1 h2; subst h1 h2; exact h.1
  | d :: cs, t :: S, i + 1, c, s, h, h1, h2 => Cons.at_ h.2 (by simpa using h1) (by simpa using h2)

/-- One step, with what the variables stand for. -/
def A (P : Program) (cs : List Con) (S : List ConS) (ops : Array Oper) (nk nv : Nat) (ρ : Env) (i : Nat) (σ σ' : St) : Prop :=
  ∃ ns ca, stepE P cs ops nk nv i σ = .ok ns ca σ' ∧ (∀ c ∈ ns, c.den ρ = true) ∧ callOk S ρ ca

theorem get_setAll_out : ∀ (L : List (Nat × List E)) (h : Tr (List E)) (b : Nat), (∀ p ∈ L, p.1 < 1099511627776) → (∀ p ∈ L, p.1 ≠ b) → (setAll h L).get b = h.get b
  | [], _, _, _, _ => rfl
  | (k, l) :: r, h, b, hk, hb => by
    unfold setAll
    rw [get_setAll_out r _ b (fun p hp => hk p (List.mem_cons_of_mem _ hp)) (fun p hp => hb p (List.mem_cons_of_mem _ hp)), Tr.get_set _ _ _ _ (hk _ (List.mem_cons_self ..)), if_neg (fun e => hb _ (List.mem_cons_self ..) e.symm)]
theorem get_setAll_in : ∀ (L : List (Nat × List E)) (h : Tr (List E)) (b : Nat) (l : List E), (∀ p ∈ L, p.1 < 1099511627776) → (L.map (·.1)).Nodup → (b, l) ∈ L → (setAll h L).get b = some l
  | (k, l') :: r, h, b, l, hk, hn, hb => by
    rw [List.map_cons, List.nodup_cons] at hn
    unfold setAll
    cases hb with
    | head =>
      rw [get_setAll_out r _ _ (fun p hp => hk p (List.mem_cons_of_mem _ hp)) (fun p hp e => hn.1 (List.mem_map.2 ⟨p, hp, e⟩)), Tr.get_set _ _ _ _ (hk _ (List.mem_cons_self ..)), if_pos rfl]
    | tail _ hb => exact get_setAll_in r _ b l (fun p hp => hk p (List.mem_cons_of_mem _ hp)) hn.2 hb
theorem get_setWr : ∀ (L : List Nat) (t : Tr Unit) (b : Nat), (∀ k ∈ L, k < 1099511627776) → (((setWr t L).get b).isSome ↔ b ∈ L ∨ (t.get b).isSome)
  | [], t, b, _ => by simp [setWr]
  | k :: r, t, b, hk => by
    unfold setWr
    rw [get_setWr r _ b (fun p hp => hk p (List.mem_cons_of_mem _ hp)), Tr.get_set _ _ _ _ (hk _ (List.mem_cons_self ..))]
    by_cases e : b = k
    · subst e; simp
    · simp [e]

section
variable {ρ : Env} {ι : Lay} {F F' : Foot} {w0 : Base} {σ σ' : St} {a : Act} {w w' : World} {dst : Option Tmp} {f : Eff}
theorem app_heap (h : σ.app dst f = some σ') : σ'.heap = setAll σ.heap f.heap ∧ σ'.wr = setWr σ.wr f.wr ∧ σ'.np = σ.np ∧ σ'.n = σ.n ∧ σ'.nv = σ.nv ∧ σ'.pc = σ.pc ∧ σ'.gh = f.gh.getD σ.gh := by
  unfold St.app at h
  split at h
  · split at h
    · cases h; exact ⟨rfl, rfl, rfl, rfl, rfl, rfl, rfl⟩
    · cases h
  · cases h; exact ⟨rfl, rfl, rfl, rfl, rfl, rfl, rfl⟩
theorem app_tmps (h : σ.app dst f = some σ') {v : Value} (hn : a.tmps.size = σ.n) (ht : ∀ t e, σ.tmps.get t = some e → a.tmps.getD t undef = e.val ρ ι) (hv : v = f.res.val ρ ι) :
    ∀ t e, σ'.tmps.get t = some e → (a.put dst v).tmps.getD t undef = e.val ρ ι := by
  intro t e he
  unfold St.app at h
  split at h
  · rename_i d
    split at h
    · rename_i hd
      cases h
      simp only [] at he
      rw [Tr.get_set _ _ _ _ (Nat.lt_of_lt_of_le hd.1 hd.2)] at he
      split at he
      · rename_i e1
        cases he
        subst e1
        simp [Act.put, hn, hd.1, hv]
      · rename_i e1
        have := ht t e he
        simp only [Act.put, Array.getD_eq_getD_getElem?] at this ⊢
        rw [Array.getElem?_setIfInBounds_ne (fun x => e1 x.symm)]
        exact this
    · cases h
  · cases h
    exact ht t e he
theorem put_size (a : Act) (dst : Option Tmp) (v : Value) : (a.put dst v).tmps.size = a.tmps.size ∧ (a.put dst v).defers = a.defers := by
  cases dst <;> simp [Act.put]

variable [Kinds]
/-- A step that writes blocks that are there. -/
theorem SimAt.app (h : SimAt ρ ι F w0 σ a w) (ha : σ.app dst f = some σ') {S : Nat → Nat → Prop} (hS : Fr S w w') {v : Value} (hv : v = f.res.val ρ ι)
    (hk : ∀ p ∈ f.heap, p.1 < 1099511627776) (hnd : (f.heap.map (·.1)).Nodup) (hwr : f.wr = f.heap.map (·.1))
    (hold : ∀ k l, (k, l) ∈ f.heap → ∃ l0, σ.heap.get k = some l0 ∧ l0.length = l.length)
    (hnew : ∀ k l, (k, l) ∈ f.heap → ∀ (j : Nat) (c : E), l[j]? = some c → w'.cell? ⟨(ι k).1, (ι k).2 + j, none⟩ = some (c.val ρ ι))
    (hS' : ∀ i x, i < w.heap.size → S i x → (∃ k l l0, (k, l) ∈ f.heap ∧ σ.heap.get k = some l0 ∧ i = (ι k).1 ∧ (ι k).2 ≤ x ∧ x < (ι k).2 + l0.length) ∨ F i x)
    (g1 : Kinds.holds w' ι.h F' (ρ.g σ'.gh)) (g2 : ∀ i x, F' i x → F i x ∨ w.heap.size ≤ i) (g3 : Kinds.cnt (ρ.g σ.gh) ≤ Kinds.cnt (ρ.g σ'.gh)) (g4 : σ'.gh < σ'.nv) :
    SimAt ρ ι F' w0 σ' (a.put dst v) w' := by
  obtain ⟨e1, e2, e3, e4, e5, e6, e7⟩ := app_heap ha
  have hlt : ∀ b l, σ.heap.get b = some l → ∀ j, j < l.length → (ι b).1 < w.heap.size := fun b l hb j hj => by
    have := (h.cell b l hb j _ (List.getElem?_eq_getElem hj)).1
    unfold World.cell? at this
    simp only at this
    cases hq : w.heap[(ι b).1]? with
    | none => simp [hq] at this
    | some o => exact (Array.getElem?_eq_some_iff.1 hq).1
  have hlen : ∀ b l, σ'.heap.get b = some l → ∃ l0, σ.heap.get b = some l0 ∧ l0.length = l.length := fun b l hb => by
    rw [e1] at hb
    by_cases hin : ∃ l', (b, l') ∈ f.heap
    · obtain ⟨l', hl'⟩ := hin
      rw [get_setAll_in _ _ _ _ hk hnd hl'] at hb
      cases hb
      exact hold _ _ hl'
    · rw [get_setAll_out _ _ _ hk (fun p hp e => hin ⟨p.2, by rw [← e]; exact hp⟩)] at hb
      exact ⟨l, hb, rfl⟩
  refine ⟨?_, ?_, app_tmps ha h.n h.tmps hv, ?_, ?_, ?_, ?_, ?_, by rw [e6]; exact h.pc, g4, g1, ?_, ?_, h.gpar, Nat.le_trans h.gcnt g3⟩
  · rw [(put_size _ _ _).1, h.n, e4]
  · rw [(put_size _ _ _).2, h.defers]
  · intro b l hb j c hj
    rw [e1] at hb
    by_cases hin : ∃ l', (b, l') ∈ f.heap
    · obtain ⟨l', hl'⟩ := hin
      rw [get_setAll_in _ _ _ _ hk hnd hl'] at hb
      cases hb
      refine ⟨hnew _ _ hl' j c hj, ?_⟩
      obtain ⟨l0, hl0, hlen0⟩ := hold _ _ hl'
      have hj0 : j < l0.length := by rw [hlen0]; exact (List.getElem?_eq_some_iff.1 hj).1
      rw [hS.frozen _ _ (by rw [(h.cell b l0 hl0 j _ (List.getElem?_eq_getElem hj0)).1]; rfl)]
      exact (h.cell b l0 hl0 j _ (List.getElem?_eq_getElem hj0)).2
    · rw [get_setAll_out _ _ _ hk (fun p hp e => hin ⟨p.2, by rw [← e]; exact hp⟩)] at hb
      have hj0 : j < l.length := (List.getElem?_eq_some_iff.1 hj).1
      have hb0 := hlt b l hb j hj0
      have hno : ¬ S (ι b).1 ((ι b).2 + j) := fun hs => by
        rcases hS' _ _ hb0 hs with hs | hs
        rotate_left
        · exact h.gap b l hb j hj0 hs
        obtain ⟨k, l', l0, hk', hl0, hi, hx1, hx2⟩ := hs
        have hne : b ≠ k := fun e => hin ⟨l', by rw [e]; exact hk'⟩
        exact h.apart b k l l0 hb hl0 hne hi j ((ι b).2 + j - (ι k).2) hj0 (by omega) (by omega)
      rw [hS.cell _ _ hb0 hno, hS.frozen _ _ (by rw [(h.cell b l hb j c hj).1]; rfl)]
      exact h.cell b l hb j c hj
  · intro b b' l l' hb hb' hne hi j j' hj hj'
    obtain ⟨l0, h1, h2⟩ := hlen b l hb
    obtain ⟨l0', h1', h2'⟩ := hlen b' l' hb'
    exact h.apart b b' l0 l0' h1 h1' hne hi j j' (by omega) (by omega)
  · intro b l hb hnp
    obtain ⟨l0, h1, _⟩ := hlen b l hb
    exact h.own b l0 h1 (by rw [← e3]; exact hnp)
  · intro b hb
    obtain ⟨h1, h2⟩ := h.par b hb
    refine ⟨?_, h2⟩
    rw [e1]
    by_cases hin : ∃ l', (b, l') ∈ f.heap
    · obtain ⟨l', hl'⟩ := hin
      rw [get_setAll_in _ _ _ _ hk hnd hl']
      rfl
    · rw [get_setAll_out _ _ _ hk (fun p hp e => hin ⟨p.2, by rw [← e]; exact hp⟩)]
      exact h1
  · refine h.fr.trans hS (fun i x _ hx => ?_) (fun i x hi hx => ?_)
    · rcases hx with hx | hx
      rotate_left
      · exact .inr hx
      refine .inl ?_
      obtain ⟨b, l, h1, h2, h3, h4, h5, h6⟩ := hx
      have : ∃ l', σ'.heap.get b = some l' ∧ l'.length = l.length := by
        rw [e1]
        by_cases hin : ∃ l', (b, l') ∈ f.heap
        · obtain ⟨l', hl'⟩ := hin
          obtain ⟨l0, hl0, hlen0⟩ := hold _ _ hl'
          refine ⟨l', get_setAll_in _ _ _ _ hk hnd hl', ?_⟩
          rw [h3] at hl0
          cases hl0
          exact hlen0.symm
        · rw [get_setAll_out _ _ _ hk (fun p hp e => hin ⟨p.2, by rw [← e]; exact hp⟩)]
          exact ⟨l, h3, rfl⟩
      obtain ⟨l', h7, h8⟩ := this
      refine ⟨b, l', ?_, by rw [e3]; exact h2, h7, h4, h5, by omega⟩
      rw [e2, get_setWr _ _ _ (fun k hk' => by rw [hwr] at hk'; obtain ⟨p, hp, e⟩ := List.mem_map.1 hk'; rw [← e]; exact hk p hp)]
      exact .inr h1
    · rcases hS' i x (Nat.lt_of_lt_of_le hi h.fr.size) hx with hx | hx
      rotate_left
      · rcases h.gow i x hx with h1 | h1
        · omega
        · exact .inr h1
      refine .inl ?_
      obtain ⟨k, l, l0, hk', hl0, h1, h2, h3⟩ := hx
      obtain ⟨l1, hl1, hlen1⟩ := hold _ _ hk'
      rw [hl0] at hl1
      cases hl1
      have hnp : k < σ.np := by
        apply Classical.byContradiction
        intro hc
        have := h.own k l0 hl0 (by omega)
        omega
      refine ⟨k, l, ?_, by rw [e3]; exact hnp, by rw [e1]; exact get_setAll_in _ _ _ _ hk hnd hk', h1, h2, by omega⟩
      rw [e2, get_setWr _ _ _ (fun k hk' => by rw [hwr] at hk'; obtain ⟨p, hp, e⟩ := List.mem_map.1 hk'; rw [← e]; exact hk p hp)]
      exact .inl (by rw [hwr]; exact List.mem_map.2 ⟨_, hk', rfl⟩)
  · intro b l hb j hj hF
    obtain ⟨l0, h1, h2⟩ := hlen b l hb
    rcases g2 _ _ hF with hF | hF
    · exact h.gap b l0 h1 j (by omega) hF
    · have := hlt b l0 h1 j (by omega)
      omega
  · intro i x hF
    rcases g2 _ _ hF with hF | hF
    · exact h.gow i x hF
    · exact .inl (Nat.le_trans h.fr.size hF)
/-- The store is kept where blocks alone are written. -/
theorem SimAt.keepG (h : SimAt ρ ι F w0 σ a w) {S : Foot} (hS : Fr S w w')
    (hS' : ∀ i x, i < w.heap.size → S i x → ∃ k l0, σ.heap.get k = some l0 ∧ i = (ι k).1 ∧ (ι k).2 ≤ x ∧ x < (ι k).2 + l0.length) : Kinds.holds w' ι.h F (ρ.g σ.gh) := by
  refine Kinds.keep h.gho hS fun i x hF hs => ?_
  obtain ⟨k, l0, h1, h2, h3, h4⟩ := hS' i x (Kinds.below h.gho hF) hs
  refine h.gap k l0 h1 (x - (ι k).2) (by omega) ?_
  rw [← h2, show (ι k).2 + (x - (ι k).2) = x by omega]
  exact hF

/-- A step that lays a block. -/
theorem SimAt.lay (h : SimAt ρ ι F w0 σ a w) (ha : σ.app dst f = some σ') {key : Nat} {l : List E} {t : TypeId} (hf : f.heap = [(key, l)]) (hw : f.wr = []) (hgh : f.gh = none) {sl : Option Nat} (hr : f.res = newE sl key)
    (hkey : key < 1099511627776) (hfree : σ.heap.get key = none) (hnp : σ.np ≤ key) (hι : ι key = (w.heap.size, 0)) :
    SimAt ρ ι F w0 σ' (a.put dst (newV sl w.heap.size)) (w.alloc (.cells (E.vals ρ ι l).toArray t)) := by
  obtain ⟨e1, e2, e3, e4, e5, e6, e7⟩ := app_heap ha
  rw [hgh] at e7
  simp only [Option.getD_none] at e7
  rw [hf] at e1
  rw [hw] at e2
  have hlt : ∀ b l, σ.heap.get b = some l → ∀ j, j < l.length → (ι b).1 < w.heap.size := fun b l hb j hj => by
    have := (h.cell b l hb j _ (List.getElem?_eq_getElem hj)).1
    unfold World.cell? at this
    simp only at this
    cases hq : w.heap[(ι b).1]? with
    | none => simp [hq] at this
    | some o => exact (Array.getElem?_eq_some_iff.1 hq).1
  have hget : ∀ b, σ'.heap.get b = if b = key then some l else σ.heap.get b := fun b => by
    rw [e1]; unfold setAll setAll; exact Tr.get_set _ _ _ _ hkey
  have hB := (Below.refl w.heap.size w).alloc (Nat.le_refl _) (.cells (E.vals ρ ι l).toArray t)
  refine ⟨?_, ?_, app_tmps ha h.n h.tmps (by rw [hr]; cases sl <;> simp [newE, newV, E.val, hι]), ?_, ?_, ?_, ?_, ?_, by rw [e6]; exact h.pc, by rw [e7, e5]; exact h.glt, by rw [e7]; exact Kinds.keep h.gho (Fr.alloc (fun _ _ => False) w _) (fun _ _ _ hx => hx.elim), ?_, h.gow, h.gpar, by rw [e7]; exact h.gcnt⟩
  · rw [(put_size _ _ _).1, h.n, e4]
  · rw [(put_size _ _ _).2, h.defers]
  · intro b l' hb j c hj
    rw [hget] at hb
    split at hb
    · rename_i e
      cases hb
      subst e
      rw [hι]
      have h1 := heap_alloc_new w (.cells (E.vals ρ ι l).toArray t)
      have h2 : (E.vals ρ ι l).toArray[0 + j]? = some (c.val ρ ι) := by simp [E.vals_get, hj]
      constructor
      · unfold World.cell?
        simp only [h1]
        exact h2
      · unfold World.frozen?
        simp only [h1]
        simp
    · have hj0 : j < l'.length := (List.getElem?_eq_some_iff.1 hj).1
      have hb0 := hlt b l' hb j hj0
      rw [hB.cell (p := ⟨_, _, none⟩) hb0, hB.frozen (p := ⟨_, _, none⟩) hb0]
      exact h.cell b l' hb j c hj
  · intro b b' l1 l2 hb hb' hne hi j j' hj hj'
    rw [hget] at hb hb'
    split at hb
    · rename_i e
      cases hb
      subst e
      rw [if_neg (Ne.symm hne)] at hb'
      have := hlt b' l2 hb' j' hj'
      rw [hι] at hi
      simp only at hi
      omega
    · rename_i e
      split at hb'
      · rename_i e'
        cases hb'
        subst e'
        have := hlt b l1 hb j hj
        rw [hι] at hi
        simp only at hi
        omega
      · exact h.apart b b' l1 l2 hb hb' hne hi j j' hj hj'
  · intro b l' hb hb2
    rw [hget] at hb
    split at hb
    · rename_i e; subst e; rw [hι]; exact h.fr.size
    · exact h.own b l' hb (by rw [← e3]; exact hb2)
  · intro b hb
    obtain ⟨h1, h2⟩ := h.par b hb
    refine ⟨?_, h2⟩
    rw [hget]
    split
    · rfl
    · exact h1
  · refine h.fr.trans (Fr.alloc (fun _ _ => False) w _) (fun i x _ hx => ?_) (fun _ _ _ hx => hx.elim)
    rcases hx with hx | hx
    rotate_left
    · exact .inr hx
    obtain ⟨b, l', h1, h2, h3, h4⟩ := hx
    refine .inl ?_
    exact ⟨b, l', by rw [e2]; exact h1, by rw [e3]; exact h2, by rw [hget, if_neg (by omega)]; exact h3, h4⟩
  · intro b l' hb j hj hF
    rw [hget] at hb
    split at hb
    · rename_i e
      subst e
      have := Kinds.below h.gho hF
      rw [hι] at this
      exact absurd this (Nat.lt_irrefl _)
    · exact h.gap b l' hb j hj hF
end
end Sx
end Go.Proofs.Ytcedgoaanlbldaa
